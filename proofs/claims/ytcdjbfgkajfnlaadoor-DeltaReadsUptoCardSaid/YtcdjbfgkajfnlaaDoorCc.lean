/- Layer 10, the tied card of DeltaReads where what it reads is of bulk at most 1048576: any parts as bytes, the parts of any bytes, the block that they make of a base, or the errors, are the document's; the arguments read as they did. -/
import Derived.Test.YtcdjbfgkajfnlaaDoorQn
import Derived.Test.YtcdjbfgkajfnlaaDoorCb
namespace Go.Proofs.YtcdjbfgkajfnlaaDoor
open Go.ChangeShapes Go.WideShapes Go.ChangeAt Go.RowKit

theorem cells_block2 : Tryd.prog.cellsOf 23 = 64 := by kernel_rfl
theorem reads_long (w : World) (A : Option Addr) (n c : Nat) (hn : 200 < n) (hc : n ≤ 140737488355328) (C : Array Value) (v : Value) :
    Calls Tryd.prog 3 #[.agg C, .slice A n c, v] w fun e w' => e = .returned (.bool true) ∧ Hid (Below w.heap.size w w') := by
  have hn' : decide ((200 : Int) < n) = true := decide_eq_true (by omega)
  go_enter Tryd.func3, Tryd.ntmps3
  go_wp2_with fail
  refine (sure_any _).mono ?_
  rintro e w1 ⟨rfl, H1⟩
  go_wp2_with fail
  go_ret
  exact ⟨rfl, (below_box _ _).trans (H1.out.mono (by simp))⟩
theorem readsReads (os : Os) {H : Type} (enc : TypeId × Value → H) : ∃ places, DataW.whole enc Tryd.prog ((laidWorld os).forCall (fun _ _ => 0) ⟨#[], #[.agg (Array.replicate 64 (.int .u8 0)), .slice none 0 0, .slice none 0 0], []⟩).memory Tryd.f3.params.toList Rows.deltaReadsSpec.vars false #[Value.agg (Array.replicate 64 (.int .u8 0)), Value.slice none 0 0, Value.slice none 0 0].toList 8 = some ([.agg (List.replicate 64 (.lit (.int .u8 0))), .nil, .nil], [], places) :=
  ⟨[], by kernel_rfl⟩
set_option maxRecDepth 100000 in
set_option maxHeartbeats 2000000 in
theorem reads_lifted (os : Os) (started : os.Started) (H : Type) (enc : TypeId × Value → H) (F : Stop.Interp) :
    ReturnsInHanded {} Tryd.checked os 3 .any ((Rows.OpenSpec.upto Rows.deltaReadsSpec).preRow enc Tryd.prog Tryd.f3 Rows.deltaReadsUptoRow.domain false Rows.deltaReadsUptoRow.laid)
      (((Rows.OpenSpec.upto Rows.deltaReadsSpec).at F).post enc Tryd.prog Tryd.f3 false true false false) := by
  obtain ⟨places, hx⟩ := readsReads os enc
  refine returnsInHanded_of_row (C := Tryd.checked) (s := Rows.OpenSpec.upto Rows.deltaReadsSpec) own_t started (by kernel_rfl) Tryd.func3
    (witness_row_at (enc := enc) (C := Tryd.checked) false (laidWorld os) #[.agg (Array.replicate 64 (.int .u8 0)), .slice none 0 0, .slice none 0 0] rfl (by kernel_rfl) (by kernel_rfl) (by kernel_rfl)
      (OpenSpec.preRow_of_cond 8 hx (by kernel_rfl) (fun k hk => by cases hk; kernel_rfl) (by kernel_rfl) (laidWorld_met os _))) ?_
  intro W base args ds gs before hval0 hW _ hcond hsz0 hL _ _
  have hval : ∀ (j : Nat) t v, Tryd.f3.params[j]? = some t → args[j]? = some v → Value.okWide Tryd.prog W .any base t v := hval0
  have hsz : (DataW.weightsEach Tryd.prog (Tryd.f3.params.toList ++ Rows.deltaReadsSpec.plain.varTypes Tryd.prog) (ds ++ gs)).all (· ≤ reachBytes) = true := hsz0
  have hW' : DataW.Whole enc Tryd.prog Tryd.f3.params.toList Rows.deltaReadsSpec.vars false W args.toList ds gs before := hW
  have hb0 : Rows.uptoSmall H (ds ++ gs) = true := hcond _ rfl
  have hbk : Rows.uptoBulkAll (ds ++ gs) ≤ 1048576 := of_decide_eq_true hb0
  obtain ⟨p, q, hA0, hV, rfl, hfz, hnd⟩ := hW
  have hA : DataW.TrodAll enc Tryd.prog W 0 (fun _ => true) true Tryd.f3.params.toList args.toList ds p := hA0
  rw [Tryd.params3] at hA hval hsz
  obtain ⟨v0, v1, v2, d0, d1, d2, p0, p1, p2, rfl, rfl, rfl, h0, h1, h2⟩ := trodAll_three hA
  obtain ⟨rfl, rfl⟩ := trodVars_none hV
  obtain ⟨xs, rfl, hx, hx8, rfl⟩ := open_bytes Tryd.underlying23 Tryd.underlying5 cells_byte cells_block2 (hval 0 23 v0 rfl rfl) h0
  obtain ⟨A, n, c, l, rfl, hro, _, hnb, hlb⟩ := open_ops_upto (hval 1 24 v1 rfl rfl) h1 (fun m hm => by
    have := List.all_eq_true.1 hsz m (DataW.weights_mem_each (j := 1) (t := 24) (d := d1) rfl rfl m hm)
    simpa using this)
  obtain ⟨A1', n1, c1', rfl⟩ := okWide_slice Tryd.underlying25 (hval 2 25 v2 rfl rfl)
  obtain ⟨fuel, hf⟩ := h2
  obtain ⟨Ab, b, cb, hvb, hrb, hcb, hbb⟩ := rb_of_trod_upto hf (fun m hm => by
    have := List.all_eq_true.1 hsz m (DataW.weights_mem_each (j := 2) (t := 25) (d := d2) rfl rfl m hm)
    simpa using this)
  have h2 : DataW.Trod enc Tryd.prog W 0 (fun _ => true) true 25 (.slice A1' n1 c1') d2 p2 := ⟨fuel, hf⟩
  cases hvb
  clear hA0 hval0 hsz0
  simp only [List.append_nil, List.nil_append, Rows.uptoBulkAll] at hW' hbk hbb
  have hlt : ∀ x ∈ p1 ++ p2, x.block < W.heap.size := fun x hx => hW'.lt x hx
  have key : Calls Tryd.prog 3 #[.agg (u8s xs).toArray, .slice A n c, .slice A1' b.length c1'] W fun e w' => e = .returned (.bool true) ∧ Hid (Below W.heap.size W w') := by
    rcases Nat.lt_or_ge 200 n with h | h
    · exact reads_long W A n c h hro.2.1 _ _
    · have hlen := encOps_upto l 1048576 (fun o ho => Nat.le_trans (hlb o ho) (by omega))
      have hll := hro.1
      have hm : l.length * (1048576 + 19) ≤ 200 * (1048576 + 19) := Nat.mul_le_mul_right _ (by omega)
      exact reads_law W xs hx hx8 A n c l hro h (encOps_ok l (rops_ok hro) (by omega)) (by omega) A1' c1' b hrb hcb (handle_of_laid hL)
  refine key.mono fun e W' ⟨he, hb⟩ => ?_
  subst he
  exact ⟨_, rfl, post_of_below (pa := p1 ++ p2) (pv := []) hW' (fun _ _ _ => trodAll_mk1 (shut_bool Tryd.underlying4 _)) (fun sp hsp => trodAll_mk3 (p := []) (shut_bytes Tryd.underlying23 Tryd.underlying5 h0) (stays_t (by kernel_rfl) (of_decide_eq_true (by kernel_rfl)) h1 hb.out (fun x hx => hlt x (List.mem_append_left _ hx)) (fun x hx => hsp x (List.mem_append_left _ hx))) (stays_t (by kernel_rfl) (of_decide_eq_true (by kernel_rfl)) h2 hb.out (fun x hx => hlt x (List.mem_append_right _ hx)) (fun x hx => hsp x (List.mem_append_right _ hx)))) (fun _ _ => rfl) (by simp)
    hb.out (ok_one (by kernel_rfl) rfl (okWide_bool_mk Tryd.underlying4 _))⟩
theorem reads_holds : Rows.DeltaReadsUptoSaid :=
  OpenClaim.holds_of_cond 3 Tryd.f3 rfl rfl rfl rfl rfl rfl rfl ⟨rfl, rfl, rfl, rfl, rfl⟩ rfl rfl rfl rfl rfl (by kernel_rfl) Tryd.func3 (by kernel_rfl)
    (of_decide_eq_true (by kernel_rfl)) (by unfold Func.isWrapper; first | (rw [if_pos (by decide +kernel)]; kernel_rfl) | (rw [if_neg (by decide +kernel)]; exact ⟨rfl, rfl⟩))
    (fun os started H enc _ F => by rw [OpenClaim.pre_eq_preRow]; exact reads_lifted os started H enc F)
theorem reads_card : Rows.DeltaReadsUptoCardSaid :=
  Claim7.holds_tied_plain_at .later [] [.handle] true _ true
    reads_holds (fun _ h => by cases h) (by kernel_rfl) (fun _ h => by cases h) deltaReadsUpto_row_tie rfl ⟨rfl, rfl⟩ (by kernel_rfl) rfl
    (fun f fn hf hfn => by
      obtain rfl : f = 3 := Option.some.inj ((show Tryd.prog.funcNamed "drydock/drydocklaw10.DeltaReads" = some 3 by kernel_rfl).symm.trans hf) |>.symm
      obtain rfl : fn = Tryd.f3 := (Option.some.inj (Tryd.func3.symm.trans hfn)).symm
      exact ⟨by kernel_rfl, fun j t ht => by
        rw [Tryd.params3] at ht
        have h3 : t = 23 ∨ t = 24 ∨ t = 25 := by
          rcases j with _ | _ | _ | j
          · exact .inl (by simpa using ht.symm)
          · exact .inr (.inl (by simpa using ht.symm))
          · exact .inr (.inr (by simpa using ht.symm))
          · simp at ht
        rcases h3 with rfl | rfl | rfl
        · exact (show Tryd.prog.wantsStandIn 23 = false by kernel_rfl)
        · exact (show Tryd.prog.wantsStandIn 24 = false by kernel_rfl)
        · exact (show Tryd.prog.wantsStandIn 25 = false by kernel_rfl)⟩)
    (by kernel_rfl)
end Go.Proofs.YtcdjbfgkajfnlaaDoor
