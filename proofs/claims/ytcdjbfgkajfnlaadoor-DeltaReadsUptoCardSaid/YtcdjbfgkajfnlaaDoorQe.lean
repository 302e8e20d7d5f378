/- Layer 2: the document's reader, walked: truths, bytes, the end. -/
import Derived.Test.YtcdjbfgkajfnlaaDoorQd
namespace Go.Proofs.YtcdjbfgkajfnlaaDoor
open Go.RowKit

theorem refDone_any (w : World) (A : Option Addr) (c : Nat) (b : List Int) (e : Int) :
    Calls Tryd.prog 29 #[.agg #[.slice A b.length c, .int .i64 e]] w fun x w' => x = .returned (.int .i64 (doneS b e)) ∧ Hid (Below w.heap.size w w') := by
  by_cases he : e = 0
  · subst he
    rcases b with _ | ⟨x, t⟩
    · go_enter Tryd.func29, Tryd.ntmps29
      go_wp2_with fail
      go_ret
      exact ⟨rfl, below_box _ _⟩
    · obtain ⟨n, hn⟩ : ∃ n, n = (x :: t).length := ⟨_, rfl⟩
      have hp : 0 < n := by rw [hn]; simp
      have hd : doneS (x :: t) 0 = 3 := by simp [doneS]
      rw [hd, ← hn]
      have hq : decide ((0 : Int) < n) = true := decide_eq_true (by omega)
      clear hd hn
      go_enter Tryd.func29, Tryd.ntmps29
      go_wp2_with fail
      go_ret
      exact ⟨rfl, below_box _ _⟩
  · have hd : doneS b e = e := by simp [doneS, he]
    rw [hd]
    have hq : (e == 0) = false := by simp [he]
    clear hd
    go_enter Tryd.func29, Tryd.ntmps29
    go_wp2_with fail
    go_ret
    exact ⟨rfl, below_box _ _⟩
set_option maxHeartbeats 2000000 in
theorem readBool_any (w : World) (A : Option Addr) (c : Nat) (b : List Int) (e0 : Int) (hr : RB w A b.length b) (hc : b.length ≤ c) :
    Calls Tryd.prog 26 #[.agg #[.slice A b.length c, .int .i64 e0]] w (GivesQ w A (boolS b e0).1 (boolS b e0).2.1 (.bool (boolS b e0).2.2)) := by
  have HB := Lib.hid (two_new w (.cells #[.slice A b.length c, .int .i64 e0] 60) 60 #[.slice none 0 0, .int .i64 0] 0)
  have HK : Hid (Blk (((w.alloc (.cells #[.slice A b.length c, .int .i64 e0] 60)).alloc (.cells #[.slice none 0 0, .int .i64 0] 60))) (w.heap.size + 1) 60 #[.slice none 0 0, .int .i64 0]) := (show Blk _ _ _ _ from blk_second w _ 60 _)
  by_cases he : e0 = 0
  · subst he
    rcases b with _ | ⟨x, t⟩
    · have HR := Lib.hid hr
      clear hr
      show Calls _ _ _ _ (GivesQ w A [] 12 (.bool false))
      go_enter Tryd.func26, Tryd.ntmps26
      go_wp2_with fail
      refine (fail_any _ A 0 c 0 12).mono ?_
      rintro x w3 ⟨rfl, H3⟩
      rw [if_pos rfl]
      have HK3 := Lib.hid (HK.out.below H3.out HK.out.lt)
      have HF := Lib.hid (fail_end HK.out HB.out H3.out (by omega) #[.slice A 0 c, .int .i64 12])
      go_wp2_with (refine wpList_store_block rfl 60 (.tmp 2) (.tmp 14) rfl (w.heap.size + 1) rfl #[.slice A 0 c, .int .i64 12] rfl 60 #[.slice none 0 0, .int .i64 0] HK3.out 2 size_rd rfl rfl (by simp [Value.oneCell']) ?_)
      refine bodyPost_ret (results_cell_tmp Tryd.results26 _ _ (w.heap.size + 1) 60 #[.slice A 0 c, .int .i64 12] _ rfl HF.out.1 Tryd.underlying60 rfl size_rd) rfl ⟨A, c, rfl, HR.out.below HF.out.2, hc, HF.out.2, inB_refl _⟩
    · have hx := hr.2.2.1 x (by simp)
      obtain ⟨ad, rfl, hc0⟩ := hr.at_ 0 (by omega) (by simp only [List.length_cons]; omega)
      have hc' : w.cell? ad = some (.int .u8 x) := by simpa [rd, Addr.add] using hc0
      have hlt : ad.block < w.heap.size := block_lt_of_cell hc'
      have hlt1 : ad.block < w.heap.size + 1 := by omega
      have HL := Lib.hid (rfl : (x :: t).length = t.length + 1)
      have hle := hr.2.1
      have HR := Lib.hid hr
      have HBS : Hid (boolS (x :: t) 0 = if 1 < x then (x :: t, 3, false) else (t, 0, x == 1)) := by
        show _ = _
        simp [boolS]
      obtain ⟨n, hn⟩ : ∃ n, n = (x :: t).length := ⟨_, rfl⟩
      have hp : 0 < n := by rw [hn]; simp
      have HN := Lib.hid hn
      rw [← hn] at hc hle HR HB HK ⊢
      clear hr hc0 hn
      have hz : ((n : Int) == 0) = false := by simp; omega
      obtain ⟨⟨b1, e1, v1⟩, hB⟩ : ∃ q, q = boolS (x :: t) 0 := ⟨_, rfl⟩
      rw [← hB] at HBS ⊢
      clear hB
      simp only
      by_cases h1 : 1 < x
      · obtain ⟨rfl, rfl, rfl⟩ : (x :: t) = b1 ∧ (3 : Int) = e1 ∧ false = v1 := by
          have := HBS.out
          rw [if_pos h1] at this
          simp only [Prod.mk.injEq] at this
          exact ⟨this.1.symm, this.2.1.symm, this.2.2.symm⟩
        have hq1 : decide ((1 : Int) < x) = true := decide_eq_true h1
        go_enter Tryd.func26, Tryd.ntmps26
        go_wp2_with fail
        refine (fail_any _ (some ad) n c 0 3).mono ?_
        rintro x w3 ⟨rfl, H3⟩
        rw [if_pos rfl]
        have HK3 := Lib.hid (HK.out.below H3.out HK.out.lt)
        have HF := Lib.hid (fail_end HK.out HB.out H3.out (by omega) #[.slice (some ad) n c, .int .i64 3])
        go_wp2_with (refine wpList_store_block rfl 60 (.tmp 2) (.tmp 21) rfl (w.heap.size + 1) rfl #[.slice (some ad) n c, .int .i64 3] rfl 60 #[.slice none 0 0, .int .i64 0] HK3.out 2 size_rd rfl rfl (by simp [Value.oneCell']) ?_)
        refine bodyPost_ret (results_cell_tmp Tryd.results26 _ _ (w.heap.size + 1) 60 #[.slice (some ad) n c, .int .i64 3] _ rfl HF.out.1 Tryd.underlying60 rfl size_rd) rfl ?_
        refine ⟨some ad, c, by rw [← HN.out]; rfl, ?_⟩
        rw [← HN.out]
        exact ⟨HR.out.below HF.out.2, hc, HF.out.2, inB_refl _⟩
      · obtain ⟨rfl, rfl, rfl⟩ : t = b1 ∧ (0 : Int) = e1 ∧ (x == 1) = v1 := by
          have := HBS.out
          rw [if_neg h1] at this
          simp only [Prod.mk.injEq] at this
          exact ⟨this.1.symm, this.2.1.symm, this.2.2.symm⟩
        have hq1 : decide ((1 : Int) < x) = false := decide_eq_false h1
        obtain ⟨A1, hcut, hrd, hsb⟩ := cut_l (P := Tryd.prog) 25 5 Tryd.underlying25 info_u8 .i64 (some ad) n c 1 1 rfl (by omega) hc
        have HRD := Lib.hid hrd
        have HSB := Lib.hid hsb
        have hnl : n - 1 = t.length := by have := HN.out; simp at this; omega
        rw [hnl] at hcut HRD
        clear hrd hsb hnl h1
        go_enter Tryd.func26, Tryd.ntmps26
        go_wp2_with fail
        have HB4 : Hid (Below w.heap.size w ((w.alloc (.cells #[.slice A1 t.length (c - 1), .int .i64 0] 60)).alloc (.cells #[.slice A1 t.length (c - 1), .int .i64 0] 60))) := two_new _ _ _ _ 0
        refine bodyPost_ret (results_cell_tmp Tryd.results26 _ _ (w.heap.size + 1) 60 #[.slice A1 t.length (c - 1), .int .i64 0] _ rfl (blk_second _ _ _ _) Tryd.underlying60 rfl size_rd) rfl ?_
        exact ⟨A1, c - 1, rfl, HRD.out _ _ (HR.out.below HB4.out), by have := HN.out; simp at this; omega, HB4.out, inB_of HSB.out⟩
  · have hbs : boolS b e0 = (b, e0, false) := by simp [boolS, he]
    rw [hbs]
    have hq : (e0 != 0) = true := by simp [he]
    have HB2 : Hid (Below w.heap.size w ((w.alloc (.cells #[.slice A b.length c, .int .i64 e0] 60)).alloc (.cells #[.slice A b.length c, .int .i64 e0] 60))) := two_new _ _ _ _ 0
    have HR := Lib.hid hr
    clear hr hbs HB HK
    go_enter Tryd.func26, Tryd.ntmps26
    go_wp2_with fail
    refine bodyPost_ret (results_cell_tmp Tryd.results26 _ _ (w.heap.size + 1) 60 #[.slice A b.length c, .int .i64 e0] _ rfl (blk_second _ _ _ _) Tryd.underlying60 rfl size_rd) rfl ⟨A, c, rfl, HR.out.below HB2.out, hc, HB2.out, inB_refl _⟩
end Go.Proofs.YtcdjbfgkajfnlaaDoor
