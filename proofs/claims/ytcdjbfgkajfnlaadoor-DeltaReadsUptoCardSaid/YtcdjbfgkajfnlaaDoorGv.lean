/- Layer 10's law: parts as the program's ('give'), walked. -/
import Derived.Test.YtcdjbfgkajfnlaaDoorDs
namespace Go.Proofs.YtcdjbfgkajfnlaaDoor
open Go.RowKit

def i64Ok (x : Int) : Prop := -9223372036854775808 ≤ x ∧ x ≤ 9223372036854775807
/-- Parts that were given. -/
structure GivOwn (w : World) (base : Nat) (V : Value) (ps : List (POp × Value)) : Prop where
  own : w.ownsRow base 50 4 V ps.length (ps.flatMap cells4)
  each : ∀ p ∈ ps, ∃ A c, p.2 = .slice A p.1.bytes.length c ∧ RB w A p.1.bytes.length p.1.bytes ∧ p.1.bytes.length ≤ c ∧ (∀ ad, A = some ad → 0 < p.1.bytes.length → some ad.block ≠ V.ownBlock) ∧ i64Ok p.1.frm ∧ i64Ok p.1.len
theorem GivOwn.nil (w : World) (base : Nat) : GivOwn w base (.slice none 0 0) [] := ⟨own_nil _ _ _ _, fun p hp => (by cases hp)⟩
theorem GivOwn.below {w w' : World} {base : Nat} {V : Value} {ps : List (POp × Value)} (h : GivOwn w base V ps) (hb : Below w.heap.size w w') : GivOwn w' base V ps :=
  ⟨own_below h.own hb, fun p hp => by
    obtain ⟨A, c, h1, h2, h3⟩ := h.each p hp
    exact ⟨A, c, h1, h2.below hb, h3⟩⟩
theorem GivOwn.push {w W w' : World} {base : Nat} {V V' : Value} {ps : List (POp × Value)} (h : GivOwn w base V ps) (o : POp) (A : Option Addr) (c : Nat) (hb : Below w.heap.size w W) (hr : RB w A o.bytes.length o.bytes) (hc : o.bytes.length ≤ c)
    (hA : ∀ ad, A = some ad → 0 < o.bytes.length → some ad.block ≠ V.ownBlock) (hf : i64Ok o.frm) (hl : i64Ok o.len)
    (hown : w'.ownsRow base 50 4 V' (ps.length + 1) (ps.flatMap cells4 ++ cells4 (o, .slice A o.bytes.length c))) (hg : W.grownBy w' V.ownBlock) (hn : newRow W V V') :
    GivOwn w' base V' (ps ++ [(o, .slice A o.bytes.length c)]) := by
  have new : ∀ (A : Option Addr) (xs : List Int), RB w A xs.length xs → (∀ ad, A = some ad → 0 < xs.length → some ad.block ≠ V.ownBlock) → ∀ ad, A = some ad → 0 < xs.length → some ad.block ≠ V'.ownBlock := by
    intro A xs hr hA ad ea hp
    rcases hn with hn | hn
    · rw [hn]; exact hA ad ea hp
    · rw [hn]
      subst ea
      have h1 := hr.lt hp
      have h2 := hb.size
      intro e
      have := Option.some.inj e
      omega
  refine ⟨by simpa using hown, fun p hp => ?_⟩
  rcases List.mem_append.1 hp with hp | hp
  · obtain ⟨A1, c1, h1, h2, h3, h4, h5⟩ := h.each p hp
    exact ⟨A1, c1, h1, (h2.below hb).grown hg (fun ad ea hn' => h4 ad ea hn'), h3, new A1 _ h2 h4, h5⟩
  · simp only [List.mem_singleton] at hp
    subst hp
    exact ⟨A, c, rfl, (hr.below hb).grown hg (fun ad ea hn' => hA ad ea hn'), hc, new A _ hr hA, hf, hl⟩
theorem GivOwn.rops {w : World} {base : Nat} {V : Value} {ps : List (POp × Value)} (h : GivOwn w base V ps) (hn : ps.length ≤ 140737488355328) : ∃ A c, V = .slice A ps.length c ∧ ROps w A ps.length (ps.map (·.1)) ∧ ps.length ≤ c := by
  obtain ⟨A, c, rfl, hc⟩ := own_slice h.own
  refine ⟨A, c, rfl, ⟨by simp, hn, fun hp => ?_⟩, hc⟩
  obtain ⟨gg, cc, hv, _⟩ := h.own.form hp
  cases hv
  refine ⟨gg, 0, rfl, fun j o ho => ?_⟩
  rw [List.getElem?_map] at ho
  obtain ⟨p, hp', rfl⟩ := Option.map_eq_some_iff.1 ho
  have hjl : j < ps.length := (List.getElem?_eq_some_iff.1 hp').1
  obtain ⟨A1, c1, h1, h2, h3, h4, h5, h6⟩ := h.each p (List.mem_of_getElem? hp')
  have hcell : ∀ i, i < 4 → w.cell? ⟨gg, 0 + j * 4 + i, none⟩ = (cells4 p)[i]? := by
    intro i hi
    rw [show 0 + j * 4 + i = j * 4 + i by omega, h.own.cellAt (j * 4 + i) (by omega)]
    have hsp : ps = ps.take j ++ p :: ps.drop (j + 1) := by
      have hpj : ps[j] = p := (List.getElem?_eq_some_iff.1 hp').2
      rw [← hpj, List.getElem_cons_drop, List.take_append_drop]
    have hfl : ps.flatMap cells4 = (ps.take j).flatMap cells4 ++ (cells4 p ++ (ps.drop (j + 1)).flatMap cells4) := by
      conv => lhs; rw [hsp]
      rw [List.flatMap_append, List.flatMap_cons]
    have hjt : ((ps.take j).flatMap cells4).length = j * 4 := by rw [cells4_length, List.length_take]; omega
    rw [hfl, List.getElem?_append_right (by omega), hjt, show j * 4 + i - j * 4 = i by omega, List.getElem?_append_left (by simp [cells4]; omega)]
  refine ⟨A1, c1, ?_, ?_, ?_, ?_, h2, h3, h5, h6⟩
  · have := hcell 0 (by omega); simpa [cells4] using this
  · have := hcell 1 (by omega); simpa [cells4] using this
  · have := hcell 2 (by omega); simpa [cells4] using this
  · have := hcell 3 (by omega); rw [← h1]; simpa [cells4] using this
structure GSt (w : World) (V : Value) (ps : List (POp × Value)) (W : World) : Prop where
  own : GivOwn W w.heap.size V ps
  bel : Below w.heap.size w W
theorem GSt.below {w W W' : World} {V : Value} {ps : List (POp × Value)} (h : GSt w V ps W) (hb : Below W.heap.size W W') : GSt w V ps W' := ⟨h.own.below hb, h.bel.trans (hb.mono h.bel.size)⟩
theorem GSt.push {w W W1 w' : World} {V V' : Value} {ps : List (POp × Value)} (h : GSt w V ps W) (o : POp) (A : Option Addr) (c : Nat) (hb : Below W.heap.size W W1) (hr : RB W A o.bytes.length o.bytes) (hc : o.bytes.length ≤ c)
    (hA : ∀ ad, A = some ad → 0 < o.bytes.length → some ad.block ≠ V.ownBlock) (hf : i64Ok o.frm) (hl : i64Ok o.len)
    (hown : w'.ownsRow w.heap.size 50 4 V' (ps.length + 1) (ps.flatMap cells4 ++ cells4 (o, .slice A o.bytes.length c))) (hg : W1.grownBy w' V.ownBlock) (hn : newRow W1 V V') :
    GSt w V' (ps ++ [(o, .slice A o.bytes.length c)]) w' := by
  have hVb := own_base h.own.own
  refine ⟨h.own.push o A c hb hr hc hA hf hl hown hg hn, ?_⟩
  have h1 := h.bel.trans (hb.mono h.bel.size)
  exact h1.grown hg h1.size (fun k hk => hVb k hk)
theorem give_step {w wr w7 : World} {V : Value} {ps : List (POp × Value)} {v0 v1 v2 v3 : Value} {bs : List Int} {A7 : Option Addr} {c7 : Nat} (HST : GSt w V ps wr) (hcs : noByte #[v0, v1, v2, v3]) (h8 : u8Ok bs) (hbl : bs.length ≤ 140737488355328)
    (ho : w7.ownsRow (wr.heap.size + 1) 5 1 (.slice A7 bs.length c7) bs.length (u8s bs)) (hg : (wr.alloc (.cells #[v0, v1, v2, v3] 50)).grownBy w7 none) :
    Blk w7 wr.heap.size 50 #[v0, v1, v2, v3] ∧ GSt w V ps (w7.setCell ⟨wr.heap.size, 3, none⟩ (.slice A7 bs.length c7)) ∧ RB (w7.setCell ⟨wr.heap.size, 3, none⟩ (.slice A7 bs.length c7)) A7 bs.length bs ∧ bs.length ≤ c7 ∧
      (∀ ad, A7 = some ad → 0 < bs.length → some ad.block ≠ V.ownBlock) ∧ w.heap.size ≤ (w7.setCell ⟨wr.heap.size, 3, none⟩ (.slice A7 bs.length c7)).heap.size := by
  have hb1 := below_box wr (.cells #[v0, v1, v2, v3] 50)
  have hk7 : Blk w7 wr.heap.size 50 #[v0, v1, v2, v3] := (Blk.new wr _ _).grown hg (fun e => by cases e)
  have hb8 : Below wr.heap.size wr (w7.setCell ⟨wr.heap.size, 3, none⟩ (.slice A7 bs.length c7)) := (hb1.grown hg hb1.size (fun k hk => by cases hk)).setCell (by exact Nat.le_refl _) _
  have hr7 := RB.of_own ho h8 hbl
  obtain ⟨A, c, hv, hc⟩ := own_slice ho
  cases hv
  refine ⟨hk7, HST.below hb8, ?_, hc, fun ad ea hn e => ?_, Nat.le_trans HST.bel.size hb8.size⟩
  · refine hr7.grown (grown_setCell (World.grownBy.refl w7 (some wr.heap.size)) (p := ⟨wr.heap.size, 3, none⟩) (.inl rfl) _) fun ad ea hn => ?_
    subst ea
    have := hr7.ne_blk hn hk7 hcs
    simpa using this
  · subst ea
    have h1 := own_base ho ad.block rfl
    have h2 := own_lt HST.own.own ad.block e.symm
    omega
set_option maxHeartbeats 4000000 in
theorem give_any (w : World) (A : Option Addr) (n c : Nat) (l : List POp) (h : ROps w A n l) (hn : n ≤ 200) :
    Calls Tryd.prog 10 #[.slice A n c] w fun e w' => ∃ A' c', e = .returned (.slice A' n c') ∧ Hid (ROps w' A' n l ∧ n ≤ c' ∧ Below w.heap.size w w') := by
  have HL := Lib.hid h.1
  have H := Lib.hid h
  clear h
  go_enter Tryd.func10, Tryd.ntmps10
  go_wp2_with fail
  go_loopw [3, 4] (fun V iv wr => ∃ j : Nat, j ≤ n ∧ iv = .int .i64 j ∧ Hid (∃ ps, GSt w V ps wr ∧ ps.map (·.1) = l.take j)) (fun _ iv _ => n - (intOf iv).toNat)
  case atStart => exact ⟨0, by omega, rfl, [], ⟨GivOwn.nil _ _, Below.refl _ _⟩, by simp⟩
  case round =>
    obtain ⟨j, hj, rfl, HJ⟩ := hrel
    obtain ⟨ps, hst, hpe⟩ := HJ.out
    have HST := Lib.hid hst
    have HPE := Lib.hid hpe
    have hpl : ps.length = j := by
      have := congrArg List.length hpe
      rw [List.length_map, List.length_take] at this
      have := HL.out
      omega
    have HPL := Lib.hid hpl
    have hpl1 : ps.length ≤ j := by omega
    clear HJ hst hpe hpl
    obtain ⟨AV, cV, hV, _⟩ := own_slice HST.out.own.own
    rw [hV] at HST ⊢
    have HV := Lib.hid hV
    clear hV
    by_cases hjn : j < n
    · have hjl : j < l.length := by have := HL.out; omega
      obtain ⟨o, ho⟩ : ∃ o, l[j]? = some o := ⟨_, List.getElem?_eq_getElem hjl⟩
      obtain ⟨b, off, hA, hcell⟩ := H.out.2.2 (by omega)
      obtain ⟨Aj, cj, m0, m1, m2, m3, k4, k5, k6, k7⟩ := hcell j o ho
      have hbw := HST.out.bel
      have keep : ∀ {a : Addr} {v : Value}, w.cell? a = some v → wr.cell? a = some v := fun hc => (hbw.cell (block_lt_of_cell hc)).trans hc
      have k0 := keep m0
      have k1 := keep m1
      have k2 := keep m2
      have k3 := keep m3
      have HTK : Hid (l.take (j + 1) = l.take j ++ [o]) := by
        show _ = _
        rw [List.take_add_one, ho]; rfl
      obtain ⟨oc, f, k, bs⟩ := o
      simp only at k0 k1 k2 k3 k4 k5 k6 k7
      have HB1 : Hid (Below wr.heap.size wr (wr.alloc (.cells #[.bool oc, .int .i64 f, .int .i64 k, .slice Aj bs.length cj] 50))) := below_box _ _
      have HK1 : Hid (Blk (wr.alloc (.cells #[.bool oc, .int .i64 f, .int .i64 k, .slice Aj bs.length cj] 50)) wr.heap.size 50 #[.bool oc, .int .i64 f, .int .i64 k, .slice Aj bs.length cj]) := Blk.new _ _ _
      have HR1 := Lib.hid ((k4.below hbw).below HB1.out)
      have kk3 : (wr.alloc (.cells #[.bool oc, .int .i64 f, .int .i64 k, .slice Aj bs.length cj] 50)).cell? ⟨b, off + j * 4 + 3, none⟩ = some (.slice Aj bs.length cj) := (HB1.out.cell (block_lt_of_cell k3)).trans k3
      have hbl := k4.2.1
      have HN1 : Hid (noByte #[.bool oc, .int .i64 f, .int .i64 k, .slice Aj bs.length cj]) := noByte4 _ _ _ _ (by intro; simp) (by intro; simp) (by intro; simp) (by intro; simp)
      have hVlt : ∀ i, (Value.slice AV ps.length cV).ownBlock = some i → i < wr.heap.size := fun i hi => own_lt HST.out.own.own i hi
      have HVL := Lib.hid hVlt
      have hsz := hbw.size
      clear hcell ho m0 m1 m2 m3 keep hbw k4 hVlt
      cases hA
      have hown0 : (wr.alloc (.cells #[.bool oc, .int .i64 f, .int .i64 k, .slice Aj bs.length cj] 50)).ownsRow (wr.heap.size + 1) 5 1 (.slice none 0 0) ([] : List Int).length (u8s []) := own_nil _ _ _ _
      have HO0 := Lib.hid hown0
      clear hown0
      go_wp2_with (first | (at_builtin; refine wpList_append_rb _ rfl (.tmp 17) (.tmp 22) 25 rfl (wr.heap.size + 1) 5 Tryd.underlying25 info_u8 (.slice none 0 0) [] bs rfl HO0.out Aj bs.length cj rfl HR1.out (by simp only [List.length_nil]; omega) (by simp) ?_; intro A7 c7 w7 ho hg hn; simp only [List.nil_append] at ho ⊢; have HS8 := Lib.hid (give_step HST.out HN1.out HR1.out.2.2.1 hbl ho hg); have c0 := HS8.out.1.cell 0; have c1 := HS8.out.1.cell 1; have c2 := HS8.out.1.cell 2; have c3 := HS8.out.1.cell 3; have f3 := HS8.out.1.frozen 3; have hs8 := HS8.out.2.2.2.2.2; simp only [List.getElem?_toArray, List.getElem?_cons_succ, List.getElem?_cons_zero] at c0 c1 c2 c3; clear ho hg hn) | (at_builtin; refine wpList_append_el2 rfl (.tmp 25) (.tmp 27) 27 rfl w.heap.size 50 _ 4 48 Tryd.underlying27 info_op rfl (by decide) _ ps.length _ [.bool oc, .int .i64 f, .int .i64 k, .slice A7 bs.length c7] rfl HS8.out.2.1.own.own w7.heap.size (by simp [World.setCell]) rfl rfl (by simp [Value.oneCell']) (by omega) (by simp only [maxLen]; omega) hs8 ?_; intro A9 c9 w9 ho hg hn; have HO := Lib.hid ho; have HG := Lib.hid hg; have HN := Lib.hid hn; clear ho hg hn))
      go_roundw
      case rel =>
        refine ⟨j + 1, by omega, by go_num, ps ++ [(⟨oc, f, k, bs⟩, .slice A7 bs.length c7)], ?_, ?_⟩
        · exact HS8.out.2.1.push ⟨oc, f, k, bs⟩ A7 c7 (below_box _ _) HS8.out.2.2.1 HS8.out.2.2.2.1 HS8.out.2.2.2.2.1 k6 k7 HO.out HG.out HN.out
        · rw [List.map_append, HPE.out, HTK.out]
          rfl
      case measure => simp [intOf]; omega
    · have hjj : j = n := by omega
      obtain ⟨A1, c1, hv1, hro, hc1⟩ := HST.out.own.rops (by omega)
      cases hv1
      have htk : l.take j = l := List.take_of_length_le (by have := HL.out; omega)
      rw [HPE.out, htk, HPL.out, hjj] at hro
      have HRO := Lib.hid hro
      have hpn : ps.length = n := by have := HPL.out; omega
      have HPN := Lib.hid hpn
      clear hro htk hpn
      go_wp2_with fail
      go_ret
      exact ⟨AV, cV, by first | rfl | (rw [HPN.out]; rfl), HRO.out, by rw [← HPN.out]; exact hc1, HST.out.bel⟩
end Go.Proofs.YtcdjbfgkajfnlaaDoor
