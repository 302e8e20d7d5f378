/- Layer 2: a reader's calls, walked (2). -/
import Derived.Test.YtcdjbfgkajfnlaaDoorPt
namespace Go.Proofs.YtcdjbfgkajfnlaaDoor
open Go.RowKit

set_option maxHeartbeats 400000 in
theorem read_any (w : World) (A : Option Addr) (n c : Nat) (b : List Int) (hr : RB w A n b) (hc : n ≤ c) :
    Calls Tryd.prog 19 #[.slice A n c] w fun e w' => e = .returned (.pointer (some ⟨w.heap.size, 0, none⟩)) ∧ Hid (Rd w' w.heap.size b 0 ∧ Below w.heap.size w w') := by
  have hl := Lib.hid hr.len
  have HR := Lib.hid hr
  clear hr
  go_enter Tryd.func19, Tryd.ntmps19
  go_wp2_with fail
  go_ret
  refine ⟨rfl, ⟨A, c, ?_, ?_, by rw [hl.out]; exact hc, ?_⟩, below_box _ _⟩
  · rw [hl.out]; exact Blk.new _ _ _
  · rw [hl.out]; exact HR.out.below (below_box _ _)
  · intro ad e hn
    subst e
    exact HR.out.lt (by rw [← hl.out]; exact hn)
set_option maxHeartbeats 400000 in
theorem runit_any (w : World) (g : Nat) (b : List Int) (e : Int) (most : Int) (h : Rd w g b e) (h0 : 0 ≤ most) (h1 : most < 18446744073709551616) :
    Calls Tryd.prog 22 #[.pointer (some ⟨g, 0, none⟩), .int .u64 most] w
      fun x w' => x = .returned (.int .u64 (boundS b e most.toNat 4 0).2.2) ∧ Hid (Rx w g (boundS b e most.toNat 4 0).1 (boundS b e most.toNat 4 0).2.1 w') := by
  obtain ⟨m, rfl⟩ := Int.eq_ofNat_of_zero_le h0
  rw [Int.toNat_natCast]
  have HB := Lib.hid (bounded_any w g b e m 4 0 h (by omega) (by decide))
  clear h
  go_enter Tryd.func22, Tryd.ntmps22
  go_wp2_with fail
  refine HB.out.mono ?_
  rintro x w1 ⟨rfl, H1⟩
  go_wp2_with fail
  go_ret
  exact ⟨rfl, H1⟩
set_option maxHeartbeats 400000 in
theorem count_any (w : World) (g : Nat) (b : List Int) (e : Int) (most : Int) (h : Rd w g b e) (h0 : -9223372036854775808 ≤ most) (h1 : most ≤ 9223372036854775807) :
    Calls Tryd.prog 20 #[.pointer (some ⟨g, 0, none⟩), .int .i64 most] w
      fun x w' => x = .returned (.int .i64 (boundS b e most.toNat 4 2).2.2) ∧ Hid (Rx w g (boundS b e most.toNat 4 2).1 (boundS b e most.toNat 4 2).2.1 w') := by
  have HB := Lib.hid (bounded_any w g b e most.toNat 4 2 h (by omega) (by decide))
  have hle := boundS_le b e most.toNat 4 2
  clear h
  go_enter Tryd.func20, Tryd.ntmps20
  go_wp2_with fail
  rw [show max most 0 = ((most.toNat : Nat) : Int) by omega]
  refine HB.out.mono ?_
  rintro x w1 ⟨rfl, H1⟩
  go_wp2_with fail
  go_ret
  exact ⟨rfl, H1⟩
set_option maxHeartbeats 1000000 in
theorem off_any (w : World) (g : Nat) (b : List Int) (e : Int) (n : Int) (h : Rd w g b e) (h0 : 0 ≤ n) (h1 : n ≤ 9223372036854775807) :
    Calls Tryd.prog 43 #[.pointer (some ⟨g, 0, none⟩), .int .i64 n] w
      fun x w' => ∃ A c, x = .returned (.slice A (offS b e n.toNat).2.2.length c) ∧ Hid (RB w' A (offS b e n.toNat).2.2.length (offS b e n.toNat).2.2 ∧ Rx w g (offS b e n.toNat).1 (offS b e n.toNat).2.1 w') := by
  obtain ⟨m, rfl⟩ := Int.eq_ofNat_of_zero_le h0
  rw [Int.toNat_natCast]
  have HD := Lib.hid h
  by_cases he : e = 0
  · subst he
    obtain ⟨A, c, hB, hR, hlc, hne⟩ := h
    have hlen := hR.2.1
    have c0 := hB.cell 0
    have c1 := hB.cell 1
    have f0 := hB.frozen 0
    have f1 := hB.frozen 1
    simp only [List.getElem?_toArray, List.getElem?_cons_succ, List.getElem?_cons_zero, errV_zero] at c0 c1
    have HR := Lib.hid hR
    have HB := Lib.hid hB
    have HNE := Lib.hid hne
    have hg := hB.lt
    clear hR hB hne
    by_cases hl : b.length < m
    · have hs : offS b 0 m = (b, 12, []) := by unfold offS; rw [if_neg (by simp), if_pos hl]
      rw [hs]
      clear hs
      go_enter Tryd.func43, Tryd.ntmps43
      go_wp2_with fail
      refine (stuck_no _ g b HD.out).mono ?_
      rintro x w1 ⟨rfl, rfl⟩
      go_wp2_with fail
      go_ret
      exact ⟨none, 0, rfl, RB.none_ _, Rd.fail (e := 12) HD.out (Below.refl _ _)⟩
    · have hl' : m ≤ b.length := by omega
      have hs : offS b 0 m = (b.drop m, 0, b.take m) := by unfold offS; rw [if_neg (by simp), if_neg hl]
      rw [hs]
      clear hs
      have htl : (b.take m).length = m := by rw [List.length_take]; omega
      rw [htl]
      obtain ⟨A1, hcut, hrd, hsb⟩ := cut_l (P := Tryd.prog) 25 5 Tryd.underlying25 info_u8 .i64 A b.length c m m rfl hl' hlc
      obtain ⟨A2, hcut2, hrd2, hsb2⟩ := cut_hm (P := Tryd.prog) 25 5 Tryd.underlying25 info_u8 .i64 .i64 A b.length c m m rfl hl' hlc
      have HRD := Lib.hid hrd
      have HSB := Lib.hid hsb
      have HRD2 := Lib.hid hrd2
      have HSB2 := Lib.hid hsb2
      clear hrd hsb hrd2 hsb2 htl
      go_enter Tryd.func43, Tryd.ntmps43
      go_wp2_with fail
      refine (stuck_no _ g b HD.out).mono ?_
      rintro x w1 ⟨rfl, rfl⟩
      go_wp2_with fail
      go_ret
      have hrx := Rd.cut HB.out HR.out HNE.out (Below.refl _ _) m (HRD.out _ _ HR.out) (c' := c - m) (by omega) HSB.out
      refine ⟨A2, m, rfl, ?_, hrx⟩
      refine (HRD2.out _ _ HR.out).grown hrx.gr fun ad ea hp => ?_
      obtain ⟨ad0, e0, e1⟩ := HSB2.out.2 ad ea
      rw [e1]
      have := HNE.out ad0 e0 (by omega)
      intro e
      have := Option.some.inj e
      omega
  · have hs : offS b e m = (b, e, []) := by unfold offS; rw [if_pos he]
    rw [hs]
    clear hs
    go_enter Tryd.func43, Tryd.ntmps43
    go_wp2_with fail
    refine (stuck_yes _ g b e he HD.out).mono ?_
    rintro x w1 ⟨rfl, rfl⟩
    go_wp2_with fail
    go_ret
    exact ⟨none, 0, rfl, RB.none_ _, Rx.refl HD.out⟩
set_option maxHeartbeats 1000000 in
theorem rbool_any (w : World) (g : Nat) (b : List Int) (e : Int) (h : Rd w g b e) :
    Calls Tryd.prog 21 #[.pointer (some ⟨g, 0, none⟩)] w
      fun x w' => x = .returned (.bool (boolS b e).2.2) ∧ Hid (Rx w g (boolS b e).1 (boolS b e).2.1 w') := by
  have HD := Lib.hid h
  by_cases he : e = 0
  · subst he
    obtain ⟨A, c, hB, hR, hlc, hne⟩ := h
    have hlen := hR.2.1
    have c0 := hB.cell 0
    have c1 := hB.cell 1
    have f0 := hB.frozen 0
    have f1 := hB.frozen 1
    simp only [List.getElem?_toArray, List.getElem?_cons_succ, List.getElem?_cons_zero, errV_zero] at c0 c1
    have hg := hB.lt
    rcases b with _ | ⟨x0, t⟩
    · have hs : boolS [] 0 = ([], 12, false) := by unfold boolS; rw [if_neg (by simp)]
      rw [hs]
      clear hs hB hR hne
      go_enter Tryd.func21, Tryd.ntmps21
      go_wp2_with fail
      refine (stuck_no _ g [] HD.out).mono ?_
      rintro x w1 ⟨rfl, rfl⟩
      go_wp2_with fail
      refine (off_any _ g [] 0 1 HD.out (by omega) (by omega)).mono ?_
      have ho : offS [] 0 (Int.toNat 1) = ([], 12, []) := by simp [offS]
      rw [ho]
      rintro x w1 ⟨A1, c1, rfl, H1⟩
      go_wp2_with fail
      go_ret
      exact ⟨rfl, H1.out.2⟩
    · obtain ⟨ad, x, rfl, hx0, hx1, hx, hcx⟩ := hR.atL 0 (by simp)
      obtain rfl : x0 = x := by simpa using hx.out
      have ha0 : ad.add 0 = ad := by simp [Addr.add]
      rw [ha0] at hcx
      clear hB hR hne hx ha0
      by_cases hx2 : 1 < x0
      · have hs : boolS (x0 :: t) 0 = (x0 :: t, 3, false) := by unfold boolS; rw [if_neg (by simp)]; simp only; rw [if_pos hx2]
        rw [hs]
        clear hs
        go_enter Tryd.func21, Tryd.ntmps21
        go_wp2_with fail
        refine (stuck_no _ g _ HD.out).mono ?_
        rintro x w1 ⟨rfl, rfl⟩
        have HF := Lib.hid (Rd.fail (e := 3) HD.out (Below.refl _ _))
        go_wp2_with fail
        refine (off_any _ g (x0 :: t) 3 1 HF.out.rd (by omega) (by omega)).mono ?_
        have ho : offS (x0 :: t) 3 (Int.toNat 1) = (x0 :: t, 3, []) := by simp [offS]
        rw [ho]
        rintro x w1 ⟨A1, c1, rfl, H1⟩
        go_wp2_with fail
        go_ret
        exact ⟨rfl, HF.out.trans H1.out.2⟩
      · have hs : boolS (x0 :: t) 0 = (t, 0, x0 == 1) := by unfold boolS; rw [if_neg (by simp)]; simp only; rw [if_neg hx2]
        rw [hs]
        clear hs
        have hp : 0 < t.length + 1 := by omega
        go_enter Tryd.func21, Tryd.ntmps21
        go_wp2_with fail
        refine (stuck_no _ g _ HD.out).mono ?_
        rintro x w1 ⟨rfl, rfl⟩
        go_wp2_with fail
        refine (off_any _ g (x0 :: t) 0 1 HD.out (by omega) (by omega)).mono ?_
        have ho : offS (x0 :: t) 0 (Int.toNat 1) = (t, 0, [x0]) := by simp [offS]
        rw [ho]
        rintro x w1 ⟨A1, c1, rfl, H1⟩
        obtain ⟨ad1, y, rfl, _, _, hy, hcy⟩ := H1.out.1.atL 0 (by simp)
        obtain rfl : x0 = y := by simpa using hy.out
        rw [show ad1.add 0 = ad1 by simp [Addr.add]] at hcy
        clear hy
        go_wp2_with fail
        go_ret
        exact ⟨rfl, H1.out.2⟩
  · have hs : boolS b e = (b, e, false) := by unfold boolS; rw [if_pos he]
    rw [hs]
    clear hs h
    go_enter Tryd.func21, Tryd.ntmps21
    go_wp2_with fail
    refine (stuck_yes _ g b e he HD.out).mono ?_
    rintro x w1 ⟨rfl, rfl⟩
    go_wp2_with fail
    refine (off_any _ g b e 1 HD.out (by omega) (by omega)).mono ?_
    have ho : offS b e (Int.toNat 1) = (b, e, []) := by simp [offS, he]
    rw [ho]
    rintro x w1 ⟨A1, c1, rfl, H1⟩
    go_wp2_with fail
    go_ret
    exact ⟨rfl, H1.out.2⟩
end Go.Proofs.YtcdjbfgkajfnlaaDoor
