/- Layer 2: a reader's calls, walked. -/
import Derived.Test.YtcdjbfgkajfnlaaDoorPc
import Derived.Test.YtcdjbfgkajfnlaaDoorPs
namespace Go.Proofs.YtcdjbfgkajfnlaaDoor
open Go.RowKit

/-- A reader: what it has left, its first error. -/
def Rd (w : World) (g : Nat) (b : List Int) (e : Int) : Prop :=
  ∃ A c, Blk w g 88 #[.slice A b.length c, errV e] ∧ RB w A b.length b ∧ b.length ≤ c ∧ ∀ ad, A = some ad → 0 < b.length → ad.block < g
/-- The same, and nothing but the reader has turned since. -/
structure Rx (w : World) (g : Nat) (b : List Int) (e : Int) (w' : World) : Prop where
  rd : Rd w' g b e
  gr : w.grownBy w' (some g)
theorem Rd.lt {w : World} {g : Nat} {b : List Int} {e : Int} (h : Rd w g b e) : g < w.heap.size := by
  obtain ⟨A, c, hb, _⟩ := h
  exact hb.lt
theorem Rd.ok {w : World} {g : Nat} {b : List Int} {e : Int} (h : Rd w g b e) : u8Ok b := by
  obtain ⟨A, c, _, hr, _⟩ := h
  exact hr.2.2.1
theorem Rd.len {w : World} {g : Nat} {b : List Int} {e : Int} (h : Rd w g b e) : b.length ≤ 140737488355328 := by
  obtain ⟨A, c, _, hr, _⟩ := h
  exact hr.2.1
theorem Rd.drewN {w : World} {g : Nat} {b : List Int} {e : Int} (h : Rd w g b e) (n : Nat) : Rd (w.drewN n) g b e := h
theorem Rd.below {w w' : World} {g : Nat} {b : List Int} {e : Int} (h : Rd w g b e) (hb : Below w.heap.size w w') : Rd w' g b e := by
  obtain ⟨A, c, h1, h2, h3⟩ := h
  exact ⟨A, c, h1.below hb h1.lt, h2.below hb, h3⟩
theorem Rx.refl {w : World} {g : Nat} {b : List Int} {e : Int} (h : Rd w g b e) : Rx w g b e w := ⟨h, World.grownBy.refl _ _⟩
theorem Rx.trans {w w1 w2 : World} {g : Nat} {b b' : List Int} {e e' : Int} (h : Rx w g b e w1) (k : Rx w1 g b' e' w2) : Rx w g b' e' w2 := ⟨k.rd, h.gr.trans k.gr⟩
theorem Rx.below {w w1 w2 : World} {g : Nat} {b : List Int} {e : Int} (h : Rx w g b e w1) (hb : Below w1.heap.size w1 w2) : Rx w g b e w2 := ⟨h.rd.below hb, h.gr.trans (grown_of_below hb _)⟩

set_option maxHeartbeats 400000 in
theorem stuck_no (w : World) (g : Nat) (b : List Int) (h : Rd w g b 0) :
    Calls Tryd.prog 42 #[.pointer (some ⟨g, 0, none⟩)] w fun e w' => e = .returned (.bool false) ∧ w = w' := by
  obtain ⟨A, c, hb, _⟩ := h
  have c1 := hb.cell 1
  rw [errV_zero] at c1
  simp only [List.getElem?_toArray, List.getElem?_cons_succ, List.getElem?_cons_zero] at c1
  clear hb
  go_enter Tryd.func42, Tryd.ntmps42
  go_wp2_with fail
  go_ret
  exact ⟨rfl, rfl⟩
set_option maxHeartbeats 400000 in
theorem stuck_yes (w : World) (g : Nat) (b : List Int) (e : Int) (he : e ≠ 0) (h : Rd w g b e) :
    Calls Tryd.prog 42 #[.pointer (some ⟨g, 0, none⟩)] w fun e w' => e = .returned (.bool true) ∧ w = w' := by
  obtain ⟨A, c, hb, _⟩ := h
  have c1 := hb.cell 1
  rw [errV_some e he] at c1
  simp only [List.getElem?_toArray, List.getElem?_cons_succ, List.getElem?_cons_zero] at c1
  clear hb
  go_enter Tryd.func42, Tryd.ntmps42
  go_wp2_with fail
  go_ret
  exact ⟨rfl, rfl⟩
/-- A reader's error set; its bytes cut. -/
theorem Rd.fail {w w' : World} {g : Nat} {b : List Int} {e0 e : Int} (h : Rd w g b e0) (hb : Below w.heap.size w w') : Rx w g b e (w'.setCell ⟨g, 1, none⟩ (errV e)) := by
  obtain ⟨A, c, h1, h2, h3, h4⟩ := h
  have h1' := h1.below hb h1.lt
  refine ⟨⟨A, c, ?_, ?_, h3, h4⟩, ?_⟩
  · simpa using h1'.set_ 1 (errV e)
  · exact (h2.below hb).keep fun ad ea hn => Below.heap_setCell _ _ _ _ (Nat.ne_of_lt (h4 ad ea hn))
  · exact grown_setCell (grown_of_below hb (some g)) (.inl rfl) _
theorem Rd.cut {w w' : World} {g : Nat} {b : List Int} {A A' : Option Addr} {c c' : Nat} {e : Int} (h1 : Blk w g 88 #[.slice A b.length c, errV e]) (_h2 : RB w A b.length b) (h4 : ∀ ad, A = some ad → 0 < b.length → ad.block < g)
    (hb : Below w.heap.size w w') (k : Nat) (hk : RB w' A' (b.length - k) (b.drop k)) (hc : b.length - k ≤ c') (hs : sameBlock A A') : Rx w g (b.drop k) e (w'.setCell ⟨g, 0, none⟩ (.slice A' (b.length - k) c')) := by
  have h1' := h1.below hb h1.lt
  have hn : ∀ ad, A' = some ad → 0 < (b.drop k).length → ad.block < g := fun ad ea hp => by
    obtain ⟨ad0, e0, e1⟩ := hs.2 ad ea
    rw [e1]
    exact h4 ad0 e0 (by rw [List.length_drop] at hp; omega)
  refine ⟨⟨A', c', ?_, ?_, by rw [List.length_drop]; exact hc, hn⟩, ?_⟩
  · rw [List.length_drop]
    simpa using h1'.set_ 0 (.slice A' (b.length - k) c')
  · rw [List.length_drop]
    exact hk.keep fun ad ea hp => Below.heap_setCell _ _ _ _ (Nat.ne_of_lt (hn ad ea (by rw [List.length_drop]; exact hp)))
  · exact grown_setCell (grown_of_below hb (some g)) (.inl rfl) _
/-- A limit: what a number may be, the errors. -/
def limV (most : Nat) (above left : Int) : Value := .agg #[.int .u64 most, errV above, errV left]
set_option maxHeartbeats 1000000 in
theorem bounded_any (w : World) (g : Nat) (b : List Int) (e : Int) (most : Nat) (above left : Int) (h : Rd w g b e) (_hm : most < 18446744073709551616) (ha : above ≠ 0) :
    Calls Tryd.prog 41 #[.pointer (some ⟨g, 0, none⟩), limV most above left] w
      fun x w' => x = .returned (.int .u64 (boundS b e most above left).2.2) ∧ Hid (Rx w g (boundS b e most above left).1 (boundS b e most above left).2.1 w') := by
  by_cases he : e = 0
  · subst he
    have h64 := numberS_u64 b h.ok
    have hcnt := numberS_count b
    have hbs : boundS b 0 most above left = (if (numberS b).2.2 ≠ 0 then (b, (numberS b).2.2, 0)
  else if most < (numberS b).1 then (b, above, 0)
  else if left ≠ 0 ∧ b.length - (numberS b).2.1 < (numberS b).1 then (b, left, 0)
  else (b.drop (numberS b).2.1, 0, (numberS b).1)) := by unfold boundS; simp
    have hnum := fun (W : World) (A : Option Addr) (c : Nat) (h1 : RB W A b.length b) (h2 : b.length ≤ c) => number_any W A b.length c b h1 h2
    generalize numberS b = N at *
    obtain ⟨n1, k1, er⟩ := N
    simp only at h64 hcnt hbs hnum
    obtain ⟨A, c, hB, hR, hlc, hne⟩ := h
    have hlen := hR.2.1
    by_cases her : er = 0
    · subst her
      have hk := hcnt rfl
      clear hcnt
      rw [if_neg (by simp)] at hbs
      rw [errV_zero] at hnum
      have c0 := hB.cell 0
      simp only [List.getElem?_toArray, List.getElem?_cons_zero] at c0
      have c1 := hB.cell 1
      have f0 := hB.frozen 0
      have f1 := hB.frozen 1
      simp only [List.getElem?_toArray, List.getElem?_cons_succ, List.getElem?_cons_zero, errV_zero] at c1
      have HNUM := Lib.hid hnum
      have HR := Lib.hid hR
      have HB := Lib.hid hB
      have HNE := Lib.hid hne
      have hg := hB.lt
      clear hnum hR hB hne
      by_cases hm1 : most < n1
      · rw [if_pos hm1] at hbs
        rw [hbs, limV, errV_some above ha]
        have Hbs := Lib.hid hbs
        clear hbs
        go_enter Tryd.func41, Tryd.ntmps41
        go_wp2_with fail
        refine (stuck_no _ g b (Rd.below ⟨A, c, HB.out, HR.out, hlc, HNE.out⟩ (below_box _ _))).mono ?_
        rintro x w1 ⟨rfl, rfl⟩
        go_wp2_with fail
        refine (HNUM.out _ A c (HR.out.below (below_box _ _)) hlc).mono ?_
        rintro x w1 ⟨rfl, m, rfl⟩
        go_wp2_with fail
        go_ret
        exact ⟨rfl, by rw [← errV_some above ha]; exact Rd.fail ⟨A, c, HB.out, HR.out, hlc, HNE.out⟩ (below_drewN (below_box _ _) m)⟩
      · have hm2 : n1 ≤ most := by omega
        rw [if_neg hm1] at hbs
        clear hm1
        obtain ⟨A1, hcut, hrd, hsb⟩ := cut_l (P := Tryd.prog) 25 5 Tryd.underlying25 info_u8 .i64 A b.length c k1 k1 rfl hk.1 hlc
        have HRD := Lib.hid hrd
        have HSB := Lib.hid hsb
        clear hrd hsb
        by_cases hl1 : b.length - k1 < n1
        · have hl2 : b.length < n1 + k1 := by omega
          by_cases hl : left = 0
          · rw [if_neg (by rw [hl]; simp)] at hbs
            rw [hbs, limV, errV_some above ha, hl, errV_zero]
            have Hbs := Lib.hid hbs
            clear hbs hl
            go_enter Tryd.func41, Tryd.ntmps41
            go_wp2_with fail
            refine (stuck_no _ g b (Rd.below ⟨A, c, HB.out, HR.out, hlc, HNE.out⟩ (below_box _ _))).mono ?_
            rintro x w1 ⟨rfl, rfl⟩
            go_wp2_with fail
            refine (HNUM.out _ A c (HR.out.below (below_box _ _)) hlc).mono ?_
            rintro x w1 ⟨rfl, m, rfl⟩
            go_wp2_with fail
            go_ret
            refine ⟨rfl, Rd.cut HB.out HR.out HNE.out (below_drewN (below_box _ _) m) k1 (HRD.out _ _ ((HR.out.below (below_box _ _)).drewN m)) (by omega) HSB.out⟩
          · rw [if_pos ⟨hl, hl1⟩] at hbs
            rw [hbs, limV, errV_some above ha, errV_some left hl]
            have Hbs := Lib.hid hbs
            clear hbs
            go_enter Tryd.func41, Tryd.ntmps41
            go_wp2_with fail
            refine (stuck_no _ g b (Rd.below ⟨A, c, HB.out, HR.out, hlc, HNE.out⟩ (below_box _ _))).mono ?_
            rintro x w1 ⟨rfl, rfl⟩
            go_wp2_with fail
            refine (HNUM.out _ A c (HR.out.below (below_box _ _)) hlc).mono ?_
            rintro x w1 ⟨rfl, m, rfl⟩
            go_wp2_with fail
            go_ret
            exact ⟨rfl, by rw [← errV_some left hl]; exact Rd.fail ⟨A, c, HB.out, HR.out, hlc, HNE.out⟩ (below_drewN (below_box _ _) m)⟩
        · have hl2 : n1 + k1 ≤ b.length := by omega
          rw [if_neg (fun hh => hl1 hh.2)] at hbs
          rw [hbs, limV, errV_some above ha]
          have Hbs := Lib.hid hbs
          obtain ⟨ll, hll⟩ : ∃ ll, ll = errV left := ⟨_, rfl⟩
          rw [← hll]
          clear hbs hll hl1
          go_enter Tryd.func41, Tryd.ntmps41
          go_wp2_with fail
          refine (stuck_no _ g b (Rd.below ⟨A, c, HB.out, HR.out, hlc, HNE.out⟩ (below_box _ _))).mono ?_
          rintro x w1 ⟨rfl, rfl⟩
          go_wp2_with fail
          refine (HNUM.out _ A c (HR.out.below (below_box _ _)) hlc).mono ?_
          rintro x w1 ⟨rfl, m, rfl⟩
          go_wp2_with fail
          go_ret
          refine ⟨rfl, Rd.cut HB.out HR.out HNE.out (below_drewN (below_box _ _) m) k1 (HRD.out _ _ ((HR.out.below (below_box _ _)).drewN m)) (by omega) HSB.out⟩
    · rw [if_pos her] at hbs
      rw [hbs, errV_some _ her] at *
      have c0 := hB.cell 0
      simp only [List.getElem?_toArray, List.getElem?_cons_zero] at c0
      have c1 := hB.cell 1
      have f0 := hB.frozen 0
      have f1 := hB.frozen 1
      simp only [List.getElem?_toArray, List.getElem?_cons_succ, List.getElem?_cons_zero, errV_zero] at c1
      have HNUM := Lib.hid hnum
      have HR := Lib.hid hR
      have HB := Lib.hid hB
      have HNE := Lib.hid hne
      have hg := hB.lt
      rw [limV]
      obtain ⟨la, hla⟩ : ∃ la, la = errV above := ⟨_, rfl⟩
      obtain ⟨ll, hll⟩ : ∃ ll, ll = errV left := ⟨_, rfl⟩
      rw [← hla, ← hll]
      clear hnum hR hB hne hbs hcnt hla hll
      go_enter Tryd.func41, Tryd.ntmps41
      go_wp2_with fail
      refine (stuck_no _ g b (Rd.below ⟨A, c, HB.out, HR.out, hlc, HNE.out⟩ (below_box _ _))).mono ?_
      rintro x w1 ⟨rfl, rfl⟩
      go_wp2_with fail
      refine (HNUM.out _ A c (HR.out.below (below_box _ _)) hlc).mono ?_
      rintro x w1 ⟨rfl, m, rfl⟩
      go_wp2_with fail
      go_ret
      exact ⟨rfl, by rw [← errV_some er her]; exact Rd.fail ⟨A, c, HB.out, HR.out, hlc, HNE.out⟩ (below_drewN (below_box _ _) m)⟩
  · have hbs : boundS b e most above left = (b, e, 0) := by unfold boundS; rw [if_pos he]
    rw [hbs]
    clear hbs
    have HR := Lib.hid h
    clear h
    rw [limV]
    obtain ⟨la, hla⟩ : ∃ la, la = errV above := ⟨_, rfl⟩
    obtain ⟨ll, hll⟩ : ∃ ll, ll = errV left := ⟨_, rfl⟩
    rw [← hla, ← hll]
    clear hla hll
    go_enter Tryd.func41, Tryd.ntmps41
    go_wp2_with fail
    refine (stuck_yes _ g b e he (HR.out.below (below_box _ _))).mono ?_
    rintro x w1 ⟨rfl, rfl⟩
    go_wp2_with fail
    go_ret
    exact ⟨rfl, (Rx.refl HR.out).below (below_box _ _)⟩
end Go.Proofs.YtcdjbfgkajfnlaaDoor
