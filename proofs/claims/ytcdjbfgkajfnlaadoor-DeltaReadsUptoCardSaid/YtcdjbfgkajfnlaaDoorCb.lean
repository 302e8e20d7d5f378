/- Layer 10, the tied card of DeltaCodes where what it reads is of bulk at most 1048576: any parts are told by the same bytes as by the document, what bytes tell is told by the same bytes again; the arguments read as they did. -/
import Derived.Test.YtcdjbfgkajfnlaaDoorQl
import Derived.Test.YtcdjbfgkajfnlaaDoorOu
import Derived.Test.YtcdjbfgkajfnlaaDoorTy
import Derived.Test.YtcdjbfgkajfnlaaDoorCards
import Derived.Deep.DeepHandedRow
import Derived.Lib.LaidTab
namespace Go.Proofs.YtcdjbfgkajfnlaaDoor
open Go.ChangeShapes Go.WideShapes Go.ChangeAt Go.RowKit

theorem codes_long (w : World) (A : Option Addr) (n c : Nat) (hn : 200 < n) (hc : n ≤ 140737488355328) (v : Value) :
    Calls Tryd.prog 5 #[.slice A n c, v] w fun e w' => e = .returned (.bool true) ∧ Hid (Below w.heap.size w w') := by
  have hn' : decide ((200 : Int) < n) = true := decide_eq_true (by omega)
  go_enter Tryd.func5, Tryd.ntmps5
  go_wp2_with fail
  refine (sure_any _).mono ?_
  rintro e w1 ⟨rfl, H1⟩
  go_wp2_with fail
  go_ret
  exact ⟨rfl, H1.out⟩
theorem encOps_upto (l : List POp) (M : Nat) (h : ∀ o ∈ l, o.bytes.length ≤ M) : (encOps l).length ≤ 9 + l.length * (M + 19) := by
  unfold encOps
  rw [List.length_append, encN_length]
  have h8 := behindS_le l.length
  have : (l.flatMap encOp).length ≤ l.length * (M + 19) := by
    clear h8
    induction l with
    | nil => simp
    | cons o l ih =>
      have h1 := h o (by simp)
      have h2 := ih (fun o ho => h o (by simp [ho]))
      have h3 : (encOp o).length ≤ M + 19 := by
        have a1 := behindS_le (u64N o.frm)
        have a2 := behindS_le (u64N o.len)
        have a3 := behindS_le o.bytes.length
        unfold encOp
        split <;> simp only [List.length_append, List.length_singleton, encN_length] <;> omega
      rw [List.flatMap_cons, List.length_append, List.length_cons, Nat.add_mul]
      omega
  omega
theorem encOps_ok (l : List POp) (h : ∀ o ∈ l, u8Ok o.bytes ∧ o.bytes.length ≤ 140737488355328) (hl : l.length < 18446744073709551616) : u8Ok (encOps l) := by
  refine (encN_ok _ hl).append ?_
  intro x hx
  obtain ⟨o, ho, hx⟩ := List.mem_flatMap.1 hx
  exact encOp_ok o (h o ho).1 (h o ho).2 x hx
theorem rops_ok {w : World} {A : Option Addr} {n : Nat} {l : List POp} (h : ROps w A n l) : ∀ o ∈ l, u8Ok o.bytes ∧ o.bytes.length ≤ 140737488355328 := by
  intro o ho
  obtain ⟨j, hj, rfl⟩ := List.getElem_of_mem ho
  obtain ⟨b, off, _, hcell⟩ := h.2.2 (by have := h.1; omega)
  obtain ⟨_, _, _, _, _, _, hr, _⟩ := hcell j _ (List.getElem?_eq_getElem hj)
  exact ⟨hr.2.2.1, hr.2.1⟩
theorem codesReads (os : Os) {H : Type} (enc : TypeId × Value → H) : ∃ places, DataW.whole enc Tryd.prog ((laidWorld os).forCall (fun _ _ => 0) ⟨#[], #[.slice none 0 0, .slice none 0 0], []⟩).memory Tryd.f5.params.toList Rows.deltaCodesSpec.vars false #[Value.slice none 0 0, Value.slice none 0 0].toList 8 = some ([.nil, .nil], [], places) :=
  ⟨[], by kernel_rfl⟩
set_option maxRecDepth 100000 in
set_option maxHeartbeats 2000000 in
theorem codes_lifted (os : Os) (started : os.Started) (H : Type) (enc : TypeId × Value → H) (F : Stop.Interp) :
    ReturnsInHanded {} Tryd.checked os 5 .any ((Rows.OpenSpec.upto Rows.deltaCodesSpec).preRow enc Tryd.prog Tryd.f5 Rows.deltaCodesUptoRow.domain false Rows.deltaCodesUptoRow.laid)
      (((Rows.OpenSpec.upto Rows.deltaCodesSpec).at F).post enc Tryd.prog Tryd.f5 false true false false) := by
  obtain ⟨places, hx⟩ := codesReads os enc
  refine returnsInHanded_of_row (C := Tryd.checked) (s := Rows.OpenSpec.upto Rows.deltaCodesSpec) own_t started (by kernel_rfl) Tryd.func5
    (witness_row_at (enc := enc) (C := Tryd.checked) false (laidWorld os) #[.slice none 0 0, .slice none 0 0] rfl (by kernel_rfl) (by kernel_rfl) (by kernel_rfl)
      (OpenSpec.preRow_of_cond 8 hx (by kernel_rfl) (fun k hk => by cases hk; kernel_rfl) (by kernel_rfl) (laidWorld_met os _))) ?_
  intro W base args ds gs before hval0 hW _ hcond hsz0 hL _ _
  have hval : ∀ (j : Nat) t v, Tryd.f5.params[j]? = some t → args[j]? = some v → Value.okWide Tryd.prog W .any base t v := hval0
  have hsz : (DataW.weightsEach Tryd.prog (Tryd.f5.params.toList ++ Rows.deltaCodesSpec.plain.varTypes Tryd.prog) (ds ++ gs)).all (· ≤ reachBytes) = true := hsz0
  have hW' : DataW.Whole enc Tryd.prog Tryd.f5.params.toList Rows.deltaCodesSpec.vars false W args.toList ds gs before := hW
  have hb0 : Rows.uptoSmall H (ds ++ gs) = true := hcond _ rfl
  have hbk : Rows.uptoBulkAll (ds ++ gs) ≤ 1048576 := of_decide_eq_true hb0
  obtain ⟨p, q, hA0, hV, rfl, hfz, hnd⟩ := hW
  have hA : DataW.TrodAll enc Tryd.prog W 0 (fun _ => true) true Tryd.f5.params.toList args.toList ds p := hA0
  rw [Tryd.params5] at hA hval hsz
  obtain ⟨v0, v1, d0, d1, p0, p1, rfl, rfl, rfl, h0, h1⟩ := trodAll_two hA
  obtain ⟨rfl, rfl⟩ := trodVars_none hV
  obtain ⟨A, n, c, l, rfl, hro, _, hnb, hlb⟩ := open_ops_upto (hval 0 24 v0 rfl rfl) h0 (fun m hm => by
    have := List.all_eq_true.1 hsz m (DataW.weights_mem_each (j := 0) (t := 24) (d := d0) rfl rfl m hm)
    simpa using this)
  obtain ⟨A1', n1, c1', rfl⟩ := okWide_slice Tryd.underlying25 (hval 1 25 v1 rfl rfl)
  obtain ⟨fuel, hf⟩ := h1
  obtain ⟨Ab, b, cb, hvb, hrb, hcb, hbb⟩ := rb_of_trod_upto hf (fun m hm => by
    have := List.all_eq_true.1 hsz m (DataW.weights_mem_each (j := 1) (t := 25) (d := d1) rfl rfl m hm)
    simpa using this)
  have h1 : DataW.Trod enc Tryd.prog W 0 (fun _ => true) true 25 (.slice A1' n1 c1') d1 p1 := ⟨fuel, hf⟩
  cases hvb
  clear hA0 hval0 hsz0
  simp only [List.append_nil, List.nil_append, Rows.uptoBulkAll] at hW' hbk hbb
  have hlt : ∀ x ∈ p0 ++ p1, x.block < W.heap.size := fun x hx => hW'.lt x hx
  have key : Calls Tryd.prog 5 #[.slice A n c, .slice A1' b.length c1'] W fun e w' => e = .returned (.bool true) ∧ Hid (Below W.heap.size W w') := by
    rcases Nat.lt_or_ge 200 n with h | h
    · exact codes_long W A n c h hro.2.1 _
    · have hlen := encOps_upto l 1048576 (fun o ho => Nat.le_trans (hlb o ho) (by omega))
      have hll := hro.1
      have hm : l.length * (1048576 + 19) ≤ 200 * (1048576 + 19) := Nat.mul_le_mul_right _ (by omega)
      exact codes_law W A n c l hro h (encOps_ok l (rops_ok hro) (by omega)) (by omega) A1' c1' b hrb hcb (by omega) (handle_of_laid hL)
  refine key.mono fun e W' ⟨he, hb⟩ => ?_
  subst he
  exact ⟨_, rfl, post_of_below (pa := p0 ++ p1) (pv := []) hW' (fun _ _ _ => trodAll_mk1 (shut_bool Tryd.underlying4 _)) (fun sp hsp => trodAll_mk2 (stays_t (by kernel_rfl) (of_decide_eq_true (by kernel_rfl)) h0 hb.out (fun x hx => hlt x (List.mem_append_left _ hx)) (fun x hx => hsp x (List.mem_append_left _ hx))) (stays_t (by kernel_rfl) (of_decide_eq_true (by kernel_rfl)) h1 hb.out (fun x hx => hlt x (List.mem_append_right _ hx)) (fun x hx => hsp x (List.mem_append_right _ hx)))) (fun _ _ => rfl) (by simp)
    hb.out (ok_one (by kernel_rfl) rfl (okWide_bool_mk Tryd.underlying4 _))⟩
theorem codes_holds : Rows.DeltaCodesUptoSaid :=
  OpenClaim.holds_of_cond 5 Tryd.f5 rfl rfl rfl rfl rfl rfl rfl ⟨rfl, rfl, rfl, rfl, rfl⟩ rfl rfl rfl rfl rfl (by kernel_rfl) Tryd.func5 (by kernel_rfl)
    (of_decide_eq_true (by kernel_rfl)) (by unfold Func.isWrapper; first | (rw [if_pos (by decide +kernel)]; kernel_rfl) | (rw [if_neg (by decide +kernel)]; exact ⟨rfl, rfl⟩))
    (fun os started H enc _ F => by rw [OpenClaim.pre_eq_preRow]; exact codes_lifted os started H enc F)
theorem codes_card : Rows.DeltaCodesUptoCardSaid :=
  Claim7.holds_tied_plain_at .later [] [.handle] true _ true
    codes_holds (fun _ h => by cases h) (by kernel_rfl) (fun _ h => by cases h) deltaCodesUpto_row_tie rfl ⟨rfl, rfl⟩ (by kernel_rfl) rfl
    (fun f fn hf hfn => by
      obtain rfl : f = 5 := Option.some.inj ((show Tryd.prog.funcNamed "drydock/drydocklaw10.DeltaCodes" = some 5 by kernel_rfl).symm.trans hf) |>.symm
      obtain rfl : fn = Tryd.f5 := (Option.some.inj (Tryd.func5.symm.trans hfn)).symm
      exact ⟨by kernel_rfl, fun j t ht => by
        rw [Tryd.params5] at ht
        have h3 : t = 24 ∨ t = 25 := by
          rcases j with _ | _ | j
          · exact .inl (by simpa using ht.symm)
          · exact .inr (by simpa using ht.symm)
          · simp at ht
        rcases h3 with rfl | rfl
        · exact (show Tryd.prog.wantsStandIn 24 = false by kernel_rfl)
        · exact (show Tryd.prog.wantsStandIn 25 = false by kernel_rfl)⟩)
    (by kernel_rfl)
end Go.Proofs.YtcdjbfgkajfnlaaDoor
