/- Layer 2: a reader's calls, walked (3). -/
import Derived.Test.YtcdjbfgkajfnlaaDoorPu
namespace Go.Proofs.YtcdjbfgkajfnlaaDoor
open Go.RowKit

theorem offS_ok (b : List Int) (e : Int) (n : Nat) (h : u8Ok b) : u8Ok (offS b e n).2.2 := by
  unfold offS
  split
  · exact u8Ok.nil
  · split
    · exact u8Ok.nil
    · exact h.take _
theorem bounded_stuck (w : World) (g : Nat) (b : List Int) (e : Int) (most : Int) (m : Nat) (above left : Int) (h : Rd w g b e) (he : e ≠ 0) (hm : most = m) (h1 : m < 18446744073709551616) (ha : above ≠ 0) :
    Calls Tryd.prog 41 #[.pointer (some ⟨g, 0, none⟩), .agg #[.int .u64 most, errV above, errV left]] w fun x w' => x = .returned (.int .u64 0) ∧ Hid (Rx w g b e w') := by
  have := bounded_any w g b e m above left h h1 ha
  rw [boundS_stuck b e m above left he, limV, ← hm] at this
  exact this
theorem off_stuck (w : World) (g : Nat) (b : List Int) (e : Int) (n : Int) (h : Rd w g b e) (he : e ≠ 0) (h0 : 0 ≤ n) (h1 : n ≤ 9223372036854775807) :
    Calls Tryd.prog 43 #[.pointer (some ⟨g, 0, none⟩), .int .i64 n] w fun x w' => ∃ A c, x = .returned (.slice A 0 c) ∧ Hid (RB w' A 0 [] ∧ Rx w g b e w') := by
  have := off_any w g b e n h h0 h1
  rw [show offS b e n.toNat = (b, e, []) by simp [offS, he]] at this
  exact this
/-- What a call hands back and what it leaves of the reader. -/
def GivesR (w : World) (g : Nat) (xs : List Int) (b : List Int) (e : Int) (x : Ending) (w' : World) : Prop :=
  ∃ A c, x = .returned (.slice A xs.length c) ∧ Hid (RB w' A xs.length xs ∧ xs.length ≤ c ∧ (A = none → c = 0) ∧ (∀ ad, A = some ad → 0 < xs.length → w.heap.size ≤ ad.block) ∧ Rx w g b e w')
set_option maxHeartbeats 1000000 in
theorem rbytes_any (w : World) (g : Nat) (b : List Int) (e : Int) (most : Int) (h : Rd w g b e) (h0 : -9223372036854775808 ≤ most) (h1 : most ≤ 9223372036854775807) :
    Calls Tryd.prog 23 #[.pointer (some ⟨g, 0, none⟩), .int .i64 most] w
      (GivesR w g (bytesS b e most).2.2 (bytesS b e most).1 (bytesS b e most).2.1) := by
  have HD := Lib.hid h
  have hg := h.lt
  by_cases he : e = 0
  · subst he
    obtain ⟨A, c, hB, hR, hlc, hne⟩ := h
    have f1 := hB.frozen 1
    have c1 := hB.cell 1
    simp only [List.getElem?_toArray, List.getElem?_cons_succ, List.getElem?_cons_zero, errV_zero] at c1
    clear hB hR hne
    by_cases hm : most < 0
    · have hs : bytesS b 0 most = (b, 1, []) := by unfold bytesS; rw [if_neg (by simp), if_pos hm]
      rw [hs]
      clear hs
      have hmx : max most 0 = 0 := by omega
      go_enter Tryd.func23, Tryd.ntmps23
      go_wp2_with fail
      refine (stuck_no _ g b HD.out).mono ?_
      rintro x w1 ⟨rfl, rfl⟩
      have HF := Lib.hid (Rd.fail (e := 1) HD.out (Below.refl _ _))
      go_wp2_with fail
      refine (bounded_stuck _ g b 1 0 0 2 12 HF.out.rd (by decide) rfl (by decide) (by decide)).mono ?_
      rintro x w2 ⟨rfl, H2⟩
      go_wp2_with fail
      refine (off_stuck _ g b 1 0 H2.out.rd (by decide) (by decide) (by decide)).mono ?_
      rintro x w3 ⟨A3, c3, rfl, H3⟩
      go_wp2_with fail
      refine (clone_any _ A3 _ c3 _ H3.out.1).mono ?_
      intro x w4 h4
      obtain ⟨A4, c4, rfl, H4⟩ := h4.at_
      go_wp2_with fail
      go_ret
      exact ⟨A4, c4, rfl, H4.out.1, H4.out.2.1, H4.out.2.2.1, fun _ _ hp => absurd hp (by simp), ((HF.out.trans H2.out).trans H3.out.2).below H4.out.2.2.2.2⟩
    · obtain ⟨m, rfl⟩ := Int.eq_ofNat_of_zero_le (show 0 ≤ most by omega)
      have hs : bytesS b 0 m = offS (boundS b 0 m 2 12).1 (boundS b 0 m 2 12).2.1 (boundS b 0 m 2 12).2.2 := by unfold bytesS; rw [if_neg (by simp), if_neg hm]; rfl
      rw [hs]
      clear hs
      have hle := boundS_le b 0 m 2 12
      have HB := Lib.hid (bounded_any w g b 0 m 2 12 HD.out (by omega) (by decide))
      generalize boundS b 0 m 2 12 = Q at *
      obtain ⟨b1, e1, n1⟩ := Q
      simp only at hle
      go_enter Tryd.func23, Tryd.ntmps23
      go_wp2_with fail
      refine (stuck_no _ g b HD.out).mono ?_
      rintro x w1 ⟨rfl, rfl⟩
      go_wp2_with fail
      refine HB.out.mono ?_
      rintro x w2 ⟨rfl, H2⟩
      go_wp2_with fail
      refine (off_any _ g b1 e1 n1 H2.out.rd (by omega) (by omega)).mono ?_
      rw [Int.toNat_natCast]
      rintro x w3 ⟨A3, c3, rfl, H3⟩
      go_wp2_with fail
      refine (clone_any _ A3 _ c3 _ H3.out.1).mono ?_
      intro x w4 h4
      obtain ⟨A4, c4, rfl, H4⟩ := h4.at_
      go_wp2_with fail
      go_ret
      exact ⟨A4, c4, rfl, H4.out.1, H4.out.2.1, H4.out.2.2.1, fun ad ea hp => Nat.le_trans (Nat.le_trans H2.out.gr.size H3.out.2.gr.size) (H4.out.2.2.2.1 ad ea hp), (H2.out.trans H3.out.2).below H4.out.2.2.2.2⟩
  · have hs : bytesS b e most = (b, e, []) := by unfold bytesS; rw [if_pos he]
    rw [hs]
    clear hs h
    go_enter Tryd.func23, Tryd.ntmps23
    go_wp2_with fail
    refine (stuck_yes _ g b e he HD.out).mono ?_
    rintro x w1 ⟨rfl, rfl⟩
    go_wp2_with fail
    refine (bounded_stuck _ g b e (max most 0) most.toNat 2 12 HD.out he (by omega) (by omega) (by decide)).mono ?_
    rintro x w2 ⟨rfl, H2⟩
    go_wp2_with fail
    refine (off_stuck _ g b e 0 H2.out.rd he (by decide) (by decide)).mono ?_
    rintro x w3 ⟨A3, c3, rfl, H3⟩
    go_wp2_with fail
    refine (clone_any _ A3 _ c3 _ H3.out.1).mono ?_
    intro x w4 h4
    obtain ⟨A4, c4, rfl, H4⟩ := h4.at_
    go_wp2_with fail
    go_ret
    exact ⟨A4, c4, rfl, H4.out.1, H4.out.2.1, H4.out.2.2.1, fun _ _ hp => absurd hp (by simp), (H2.out.trans H3.out.2).below H4.out.2.2.2.2⟩
set_option maxHeartbeats 400000 in
theorem err_any (w : World) (g : Nat) (b : List Int) (e : Int) (h : Rd w g b e) :
    Calls Tryd.prog 45 #[.pointer (some ⟨g, 0, none⟩)] w fun x w' => x = .returned (errV e) ∧ w = w' := by
  obtain ⟨A, c, hb, _⟩ := h
  have c1 := hb.cell 1
  simp only [List.getElem?_toArray, List.getElem?_cons_succ, List.getElem?_cons_zero] at c1
  clear hb
  go_enter Tryd.func45, Tryd.ntmps45
  go_wp2_with fail
  go_ret
  exact ⟨rfl, rfl⟩
set_option maxHeartbeats 400000 in
theorem rdone_any (w : World) (g : Nat) (b : List Int) (e : Int) (h : Rd w g b e) :
    Calls Tryd.prog 24 #[.pointer (some ⟨g, 0, none⟩)] w fun x w' => x = .returned (errV (doneS b e)) ∧ w = w' := by
  have HE := Lib.hid (err_any w g b e h)
  obtain ⟨A, c, hb, _⟩ := h
  have c0 := hb.cell 0
  simp only [List.getElem?_toArray, List.getElem?_cons_zero] at c0
  clear hb
  by_cases he : e = 0
  · rw [he, errV_zero] at HE
    rcases b with _ | ⟨x0, t⟩
    · have hs : doneS [] e = 0 := by simp [doneS, he]
      rw [hs, errV_zero]
      clear hs he
      go_enter Tryd.func24, Tryd.ntmps24
      go_wp2_with fail
      refine HE.out.mono ?_
      rintro x w1 ⟨rfl, rfl⟩
      go_wp2_with fail
      go_ret
      exact ⟨rfl, rfl⟩
    · have hs : doneS (x0 :: t) e = 3 := by simp [doneS, he]
      rw [hs, errV_some 3 (by decide)]
      clear hs he
      have hz : (((x0 :: t).length : Int) == 0) = false := by simp; omega
      go_enter Tryd.func24, Tryd.ntmps24
      go_wp2_with fail
      refine HE.out.mono ?_
      rintro x w1 ⟨rfl, rfl⟩
      go_wp2_with fail
      go_ret
      exact ⟨rfl, rfl⟩
  · have hs : doneS b e = e := by simp [doneS, he]
    rw [hs]
    rw [errV_some e he] at HE ⊢
    clear hs
    go_enter Tryd.func24, Tryd.ntmps24
    go_wp2_with fail
    refine HE.out.mono ?_
    rintro x w1 ⟨rfl, rfl⟩
    go_wp2_with fail
    go_ret
    exact ⟨rfl, rfl⟩
end Go.Proofs.YtcdjbfgkajfnlaaDoor
