/- Layer 2: the document's reader, walked: bytes. -/
import Derived.Test.YtcdjbfgkajfnlaaDoorQe
namespace Go.Proofs.YtcdjbfgkajfnlaaDoor
open Go.RowKit

/-- What a reader's call hands back: what is left, the first error; bytes. -/
def GivesB (w : World) (A0 : Option Addr) (b : List Int) (e : Int) (xs : List Int) (x : Ending) (w' : World) : Prop := ∃ A c A2 c2, x = .returned (.tuple #[.agg #[.slice A b.length c, .int .i64 e], .slice A2 xs.length c2]) ∧ Hid (RB w' A b.length b ∧ b.length ≤ c ∧ RB w' A2 xs.length xs ∧ xs.length ≤ c2 ∧ Below w.heap.size w w' ∧ inB A0 A ∧ inB A0 A2)
theorem bytesS_eq (b : List Int) (m : Nat) : bytesS b 0 m =
    if (numberS b).2.2 ≠ 0 then (b, (numberS b).2.2, [])
    else if m < (numberS b).1 then (b, 2, [])
    else if b.length - (numberS b).2.1 < (numberS b).1 then (b, 12, [])
    else (b.drop ((numberS b).2.1 + (numberS b).1), 0, (b.drop (numberS b).2.1).take (numberS b).1) := by
  have hm : ¬ ((m : Int) < 0) := by omega
  unfold bytesS
  rw [if_neg (by simp), if_neg hm, Int.toNat_natCast]
  unfold boundS
  by_cases h2 : (numberS b).2.2 ≠ 0
  · simp [h2, offS]
  · by_cases h3 : m < (numberS b).1
    · simp [h2, h3, offS]
    · by_cases h4 : b.length - (numberS b).2.1 < (numberS b).1
      · simp [h2, h3, h4, offS]
      · simp [h2, h3, h4, offS, List.drop_drop]
set_option maxHeartbeats 4000000 in
theorem readBytes_any (w : World) (A : Option Addr) (c : Nat) (b : List Int) (e0 : Int) (most : Int) (hr : RB w A b.length b) (hc : b.length ≤ c) (h0 : -9223372036854775808 ≤ most) (h1 : most ≤ 9223372036854775807) :
    Calls Tryd.prog 28 #[.agg #[.slice A b.length c, .int .i64 e0], .int .i64 most] w (GivesB w A (bytesS b e0 most).1 (bytesS b e0 most).2.1 (bytesS b e0 most).2.2) := by
  have HB := Lib.hid (two_new w (.cells #[.slice A b.length c, .int .i64 e0] 60) 60 #[.slice none 0 0, .int .i64 0])
  have HK : Hid (Blk (((w.alloc (.cells #[.slice A b.length c, .int .i64 e0] 60)).alloc (.cells #[.slice none 0 0, .int .i64 0] 60))) (w.heap.size + 1) 60 #[.slice none 0 0, .int .i64 0]) := (show Blk _ _ _ _ from blk_second w _ 60 _)
  by_cases he : e0 = 0
  · subst he
    by_cases hneg : most < 0
    · have hbs : bytesS b 0 most = (b, 1, []) := by unfold bytesS; rw [if_neg (by simp), if_pos hneg]
      rw [hbs]
      have hq1 : decide (most < 0) = true := decide_eq_true hneg
      have HR := Lib.hid hr
      clear hr hbs
      go_enter Tryd.func28, Tryd.ntmps28
      go_wp2_with fail
      refine (fail_any _ A b.length c 0 1).mono ?_
      rintro x w3 ⟨rfl, H3⟩
      rw [if_pos rfl]
      have HK3 := Lib.hid (HK.out.below H3.out HK.out.lt)
      have HF := Lib.hid (fail_end HK.out (HB.out 0) H3.out (by omega) #[.slice A b.length c, .int .i64 1])
      go_wp2_with (refine wpList_store_block rfl 60 (.tmp 4) (.tmp 17) rfl (w.heap.size + 1) rfl #[.slice A b.length c, .int .i64 1] rfl 60 #[.slice none 0 0, .int .i64 0] HK3.out 2 size_rd rfl rfl (by simp [Value.oneCell']) ?_)
      refine bodyPost_ret (results_cell_tmp Tryd.results28 _ _ (w.heap.size + 1) 60 #[.slice A b.length c, .int .i64 1] _ rfl HF.out.1 Tryd.underlying60 rfl size_rd) rfl ⟨A, c, none, 0, rfl, HR.out.below HF.out.2, hc, RB.none_ _, Nat.zero_le _, HF.out.2, inB_refl _, inB_none _⟩
    · obtain ⟨m, rfl⟩ := Int.eq_ofNat_of_zero_le (show 0 ≤ most by omega)
      have hbs := bytesS_eq b m
      have hcnt := numberS_count b
      have hn64 := numberS_u64 b hr.2.2.1
      have HNUM := Lib.hid (fun W (h : RB W A b.length b) => refNumber_any W A b.length c b h)
      obtain ⟨⟨N, K, ne⟩, hq⟩ : ∃ q, q = numberS b := ⟨_, rfl⟩
      rw [← hq] at hcnt hn64 hbs HNUM
      simp only at hcnt hn64 hbs HNUM
      obtain ⟨⟨b1, e1, xs⟩, hB⟩ : ∃ q, q = bytesS b 0 m := ⟨_, rfl⟩

      rw [← hB] at hbs ⊢
      simp only
      have HBS := Lib.hid hbs
      have HR := Lib.hid hr
      have HNG : decide ((m : Int) < 0) = false := decide_eq_false (by omega)
      have hle := hr.2.1
      clear hr hq hbs hB hneg h0
      show Calls _ _ #[_, .int .i64 (m : Int)] _ _
      by_cases hne : ne = 0
      · subst hne
        have hk := hcnt rfl
        clear hcnt
        by_cases hmn : m < N
        · obtain ⟨rfl, rfl, rfl⟩ : b = b1 ∧ (2 : Int) = e1 ∧ ([] : List Int) = xs := by
            have := HBS.out
            rw [if_neg (by simp), if_pos hmn] at this
            simp only [Prod.mk.injEq] at this
            exact ⟨this.1.symm, this.2.1.symm, this.2.2.symm⟩
          have hq1 : decide ((m : Int) < N) = true := decide_eq_true (by omega)
          go_enter Tryd.func28, Tryd.ntmps28
          go_wp2_with fail
          refine (HNUM.out _ (HR.out.below (HB.out 0))).mono ?_
          rintro x w2 ⟨rfl, q, rfl⟩
          have HKq := Lib.hid (HK.out.drewN q)
          go_wp2_with fail
          refine (fail_any _ A b.length c 0 2).mono ?_
          rintro x w3 ⟨rfl, H3⟩
          rw [if_pos rfl]
          have HK3 := Lib.hid (HKq.out.below H3.out HKq.out.lt)
          have HF := Lib.hid (fail_end HKq.out (HB.out q) H3.out (by omega) #[.slice A b.length c, .int .i64 2])
          go_wp2_with (refine wpList_store_block rfl 60 (.tmp 4) (.tmp 46) rfl (w.heap.size + 1) rfl #[.slice A b.length c, .int .i64 2] rfl 60 #[.slice none 0 0, .int .i64 0] HK3.out 2 size_rd rfl rfl (by simp [Value.oneCell']) ?_)
          refine bodyPost_ret (results_cell_tmp Tryd.results28 _ _ (w.heap.size + 1) 60 #[.slice A b.length c, .int .i64 2] _ rfl HF.out.1 Tryd.underlying60 rfl size_rd) rfl ⟨A, c, none, 0, rfl, HR.out.below HF.out.2, hc, RB.none_ _, Nat.zero_le _, HF.out.2, inB_refl _, inB_none _⟩
        · have hq1 : decide ((m : Int) < N) = false := decide_eq_false (by omega)
          have hsub : (0 : Int) ≤ (b.length : Int) - K := by omega
          have hN63 : N ≤ 9223372036854775807 := by omega
          by_cases hln : b.length - K < N
          · obtain ⟨rfl, rfl, rfl⟩ : b = b1 ∧ (12 : Int) = e1 ∧ ([] : List Int) = xs := by
              have := HBS.out
              rw [if_neg (by simp), if_neg hmn, if_pos hln] at this
              simp only [Prod.mk.injEq] at this
              exact ⟨this.1.symm, this.2.1.symm, this.2.2.symm⟩
            have hq2 : decide ((b.length : Int) - K < N) = true := decide_eq_true (by omega)
            go_enter Tryd.func28, Tryd.ntmps28
            go_wp2_with fail
            refine (HNUM.out _ (HR.out.below (HB.out 0))).mono ?_
            rintro x w2 ⟨rfl, q, rfl⟩
            have HKq := Lib.hid (HK.out.drewN q)
            go_wp2_with fail
            refine (fail_any _ A b.length c 0 12).mono ?_
            rintro x w3 ⟨rfl, H3⟩
            rw [if_pos rfl]
            have HK3 := Lib.hid (HKq.out.below H3.out HKq.out.lt)
            have HF := Lib.hid (fail_end HKq.out (HB.out q) H3.out (by omega) #[.slice A b.length c, .int .i64 12])
            go_wp2_with (refine wpList_store_block rfl 60 (.tmp 4) (.tmp 46) rfl (w.heap.size + 1) rfl #[.slice A b.length c, .int .i64 12] rfl 60 #[.slice none 0 0, .int .i64 0] HK3.out 2 size_rd rfl rfl (by simp [Value.oneCell']) ?_)
            refine bodyPost_ret (results_cell_tmp Tryd.results28 _ _ (w.heap.size + 1) 60 #[.slice A b.length c, .int .i64 12] _ rfl HF.out.1 Tryd.underlying60 rfl size_rd) rfl ⟨A, c, none, 0, rfl, HR.out.below HF.out.2, hc, RB.none_ _, Nat.zero_le _, HF.out.2, inB_refl _, inB_none _⟩
          · obtain ⟨rfl, rfl, rfl⟩ : b.drop (K + N) = b1 ∧ (0 : Int) = e1 ∧ (b.drop K).take N = xs := by
              have := HBS.out
              rw [if_neg (by simp), if_neg hmn, if_neg hln] at this
              simp only [Prod.mk.injEq] at this
              exact ⟨this.1.symm, this.2.1.symm, this.2.2.symm⟩
            have hq2 : decide ((b.length : Int) - K < N) = false := decide_eq_false (by omega)
            have hkn : K + N ≤ b.length := by omega
            obtain ⟨A1, hcut1, hrd1, hsb1⟩ := cut_lh (P := Tryd.prog) 25 5 Tryd.underlying25 info_u8 .i64 .i64 A b.length c K ((K : Int) + N) K N rfl rfl hkn hc
            obtain ⟨A2, hcut2, hrd2, hsb2⟩ := cut_l (P := Tryd.prog) 25 5 Tryd.underlying25 info_u8 .i64 A b.length c ((K : Int) + N) (K + N) (by omega) hkn hc
            have HRD1 := Lib.hid hrd1
            have HRD2 := Lib.hid hrd2
            have HSB1 := Lib.hid hsb1
            have HSB2 := Lib.hid hsb2
            clear hrd1 hrd2 hsb1 hsb2
            go_enter Tryd.func28, Tryd.ntmps28
            go_wp2_with fail
            refine (HNUM.out _ (HR.out.below (HB.out 0))).mono ?_
            rintro x w2 ⟨rfl, q, rfl⟩
            have HKq := Lib.hid (HK.out.drewN q)
            go_wp2_with fail
            have HB4 := Lib.hid ((((HB.out q).setCell (p := ⟨w.heap.size, 0, none⟩) (by simp) (.slice A2 (b.length - (K + N)) (c - (K + N)))).setCell (p := ⟨w.heap.size + 1, 0, none⟩) (by simp) (.slice A2 (b.length - (K + N)) (c - (K + N)))).setCell (p := ⟨w.heap.size + 1, 1, none⟩) (by simp) (.int .i64 0))
            have HK4 := Lib.hid (((HKq.out.far (p := ⟨w.heap.size, 0, none⟩) (by simp) (.slice A2 (b.length - (K + N)) (c - (K + N)))).set_ 0 (.slice A2 (b.length - (K + N)) (c - (K + N)))).set_ 1 (.int .i64 0))
            refine bodyPost_ret (results_cell_tmp Tryd.results28 _ _ (w.heap.size + 1) 60 #[.slice A2 (b.length - (K + N)) (c - (K + N)), .int .i64 0] _ rfl HK4.out Tryd.underlying60 rfl size_rd) rfl ?_
            have e1 : (b.drop (K + N)).length = b.length - (K + N) := by rw [List.length_drop]
            have e2 : ((b.drop K).take N).length = N := by rw [List.length_take, List.length_drop]; omega
            refine ⟨A2, c - (K + N), A1, c - K, by rw [e1, e2]; rfl, ?_⟩
            rw [e1, e2]
            exact ⟨HRD2.out _ b (HR.out.below HB4.out), by omega, HRD1.out _ b (HR.out.below HB4.out), by omega, HB4.out, inB_of HSB2.out, inB_of HSB1.out⟩
      · obtain ⟨rfl, rfl, rfl⟩ : b = b1 ∧ ne = e1 ∧ ([] : List Int) = xs := by
          have := HBS.out
          rw [if_pos hne] at this
          simp only [Prod.mk.injEq] at this
          exact ⟨this.1.symm, this.2.1.symm, this.2.2.symm⟩
        have hq2 : (ne == 0) = false := by simp [hne]
        have hq3 : (ne != 0) = true := by simp [hne]
        go_enter Tryd.func28, Tryd.ntmps28
        go_wp2_with fail
        refine (HNUM.out _ (HR.out.below (HB.out 0))).mono ?_
        rintro x w2 ⟨rfl, q, rfl⟩
        have HKq := Lib.hid (HK.out.drewN q)
        go_wp2_with fail
        refine (fail_any _ A b.length c 0 ne).mono ?_
        rintro x w3 ⟨rfl, H3⟩
        rw [if_pos rfl]
        have HK3 := Lib.hid (HKq.out.below H3.out HKq.out.lt)
        have HF := Lib.hid (fail_end HKq.out (HB.out q) H3.out (by omega) #[.slice A b.length c, .int .i64 ne])
        go_wp2_with (refine wpList_store_block rfl 60 (.tmp 4) (.tmp 46) rfl (w.heap.size + 1) rfl #[.slice A b.length c, .int .i64 ne] rfl 60 #[.slice none 0 0, .int .i64 0] HK3.out 2 size_rd rfl rfl (by simp [Value.oneCell']) ?_)
        refine bodyPost_ret (results_cell_tmp Tryd.results28 _ _ (w.heap.size + 1) 60 #[.slice A b.length c, .int .i64 ne] _ rfl HF.out.1 Tryd.underlying60 rfl size_rd) rfl ⟨A, c, none, 0, rfl, HR.out.below HF.out.2, hc, RB.none_ _, Nat.zero_le _, HF.out.2, inB_refl _, inB_none _⟩
  · have hbs : bytesS b e0 most = (b, e0, []) := by unfold bytesS; rw [if_pos he]
    rw [hbs]
    have hq : (e0 != 0) = true := by simp [he]
    have HB2 : Hid (Below w.heap.size w ((w.alloc (.cells #[.slice A b.length c, .int .i64 e0] 60)).alloc (.cells #[.slice A b.length c, .int .i64 e0] 60))) := two_new _ _ _ _ 0
    have HR := Lib.hid hr
    clear hr hbs HB HK
    go_enter Tryd.func28, Tryd.ntmps28
    go_wp2_with fail
    refine bodyPost_ret (results_cell_tmp Tryd.results28 _ _ (w.heap.size + 1) 60 #[.slice A b.length c, .int .i64 e0] _ rfl (blk_second _ _ _ _) Tryd.underlying60 rfl size_rd) rfl ⟨A, c, none, 0, rfl, HR.out.below HB2.out, hc, RB.none_ _, Nat.zero_le _, HB2.out, inB_refl _, inB_none _⟩
end Go.Proofs.YtcdjbfgkajfnlaaDoor
