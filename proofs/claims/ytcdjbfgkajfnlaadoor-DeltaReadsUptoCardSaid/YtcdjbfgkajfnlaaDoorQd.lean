/- Layer 2: the document's reader, walked: counts, truths, bytes, the end. -/
import Derived.Test.YtcdjbfgkajfnlaaDoorQc
namespace Go.Proofs.YtcdjbfgkajfnlaaDoor
open Go.RowKit

theorem boundS_count (b : List Int) (e : Int) (m : Nat) : boundS b e m 4 2 =
    if (boundS b e m 4 0).2.1 ≠ 0 then (b, (boundS b e m 4 0).2.1, 0)
    else if (boundS b e m 4 0).1.length < (boundS b e m 4 0).2.2 then (b, 2, 0)
    else ((boundS b e m 4 0).1, 0, (boundS b e m 4 0).2.2) := by
  unfold boundS
  by_cases h1 : e ≠ 0
  · simp [h1]
  · by_cases h2 : (numberS b).2.2 ≠ 0
    · simp [h1, h2]
    · by_cases h3 : m < (numberS b).1
      · simp [h1, h2, h3]
      · simp [h1, h2, h3]
theorem boundS_e0 (b : List Int) (e : Int) (m : Nat) (a l : Int) (h : e ≠ 0) : (boundS b e m a l).2.1 = e := by rw [boundS_stuck _ _ _ _ _ h]
/-- What the caller of a reader's call knows: its own two blocks. -/
theorem two_cells {w : World} {O1 : Array Value} {t1 : TypeId} {O2 : Obj} {w2 : World} (h : Below ((w.alloc (.cells O1 t1)).alloc O2).heap.size ((w.alloc (.cells O1 t1)).alloc O2) w2) :
    Blk w2 w.heap.size t1 O1 := by
  have h1 : Blk ((w.alloc (.cells O1 t1)).alloc O2) w.heap.size t1 O1 := (Blk.new w t1 O1).alloc O2
  exact h1.below h h1.lt
/-- What a failing call's end leaves: the result laid into its block. -/
theorem fail_end {w W w3 : World} {g : Nat} {t : TypeId} {cur : Array Value} (HK : Blk W g t cur) (HB : Below w.heap.size w W) (H3 : Below W.heap.size W w3) (hg : w.heap.size ≤ g) (cs : Array Value) :
    Blk (w3.setRow g cs) g t cs ∧ Below w.heap.size w (w3.setRow g cs) := by
  have h1 := HK.below H3 HK.lt
  have h2 := HB.trans (H3.mono HB.size)
  exact ⟨blk_setRow h1, h2.grown (grown_setRow w3 g cs) h2.size (fun k hk => by have := Option.some.inj hk; omega)⟩
/-- What is read lies on when a block of another kind is laid anew. -/
theorem RB.setRow {W : World} {A : Option Addr} {n : Nat} {xs : List Int} (h : RB W A n xs) (g : Nat) {t : TypeId} {cur : Array Value} (hg : Blk W g t cur) (hc : noByte cur) (cs : Array Value) : RB (W.setRow g cs) A n xs :=
  h.grown (grown_setRow W g cs) (fun ad ea hn => by subst ea; intro e; exact h.ne_blk hn hg hc (Option.some.inj e))
theorem noByte_rd (A : Option Addr) (n c : Nat) (e : Int) : noByte #[.slice A n c, .int .i64 e] := by
  intro i x
  match i with
  | 0 => simp
  | 1 => simp
  | i + 2 => simp
set_option maxHeartbeats 2000000 in
theorem readCount_any (w : World) (A : Option Addr) (c : Nat) (b : List Int) (e0 : Int) (most : Int) (hr : RB w A b.length b) (hc : b.length ≤ c) (h0 : -9223372036854775808 ≤ most) (h1 : most ≤ 9223372036854775807) :
    Calls Tryd.prog 25 #[.agg #[.slice A b.length c, .int .i64 e0], .int .i64 most] w (GivesQ w A (boundS b e0 most.toNat 4 2).1 (boundS b e0 most.toNat 4 2).2.1 (.int .i64 (boundS b e0 most.toNat 4 2).2.2)) := by
  have hle := boundS_le b e0 most.toNat 4 0
  have hcc := boundS_count b e0 most.toNat
  have hst := boundS_e0 b e0 most.toNat 4 0
  have hln := boundS_len b e0 most.toNat 4 0
  have HU := Lib.hid (fun W (h : RB W A b.length b) => readUint_any W A c b e0 most.toNat h hc (by omega))
  obtain ⟨⟨b1, e1, v1⟩, hB⟩ : ∃ q, q = boundS b e0 most.toNat 4 0 := ⟨_, rfl⟩
  obtain ⟨⟨b2, e2, v2⟩, hB2⟩ : ∃ q, q = boundS b e0 most.toNat 4 2 := ⟨_, rfl⟩
  rw [← hB] at hle hcc HU hst hln
  rw [← hB2] at hcc ⊢
  simp only at hle hcc HU hst hln ⊢
  have HCC := Lib.hid hcc
  have HST := Lib.hid hst
  have HR := Lib.hid hr
  have hlen := hr.2.1
  have HW2 := Lib.hid (two_new w (.cells #[.slice A b.length c, .int .i64 e0] 60) 60 #[.slice none 0 0, .int .i64 0] 0)
  have HK : Hid (Blk (((w.alloc (.cells #[.slice A b.length c, .int .i64 e0] 60)).alloc (.cells #[.slice none 0 0, .int .i64 0] 60))) (w.heap.size + 1) 60 #[.slice none 0 0, .int .i64 0]) := (show Blk _ _ _ _ from blk_second w _ 60 _)
  obtain ⟨mN, hmN⟩ : ∃ mN : Nat, mN = most.toNat := ⟨_, rfl⟩
  rw [← hmN] at HU
  have hle2 : v1 ≤ 9223372036854775807 := by omega
  have hneg : (most < 0 ∧ mN = 0) ∨ (0 ≤ most ∧ most = mN) := by omega
  clear hcc hst hr hB hB2 hmN hle
  rcases hneg with ⟨hneg, rfl⟩ | ⟨hneg, rfl⟩
  all_goals
    go_enter Tryd.func25, Tryd.ntmps25
    go_wp2_with fail
    refine (HU.out _ (HR.out.below HW2.out)).mono ?_
    rintro x w2 ⟨A1, c1, rfl, H2⟩
    have hb0 := two_cells H2.out.2.2.1
    have c0 : w2.cell? ⟨w.heap.size, 0, none⟩ = some (.slice A b.length c) := hb0.cell 0
    have c1' : w2.cell? ⟨w.heap.size, 1, none⟩ = some (.int .i64 e0) := hb0.cell 1
    have hz : w.heap.size + 1 < w2.heap.size := by have := H2.out.2.2.1.size; simp at this; omega
    have hz0 : w.heap.size < w2.heap.size := by omega
    have HK2 := Lib.hid (HK.out.below H2.out.2.2.1 (by simp))
    have HB2 := Lib.hid (HW2.out.trans (H2.out.2.2.1.mono HW2.out.size))
    clear hb0
    have HK2a := Lib.hid (HK2.out.alloc (.cells #[.slice A1 b1.length c1, .int .i64 e1] 60))
    have HB2a := Lib.hid (HB2.out.alloc HB2.out.size (.cells #[.slice A1 b1.length c1, .int .i64 e1] 60))
    by_cases he1 : e1 = 0
    · subst he1
      obtain rfl : e0 = 0 := by
        rcases Decidable.em (e0 = 0) with h | h
        · exact h
        · exact absurd (HST.out h).symm h
      by_cases hlv : b1.length < v1
      · obtain ⟨rfl, rfl, rfl⟩ : b = b2 ∧ (2 : Int) = e2 ∧ (0 : Nat) = v2 := by
          have := HCC.out
          rw [if_neg (by simp), if_pos hlv] at this
          simp only [Prod.mk.injEq] at this
          exact ⟨this.1.symm, this.2.1.symm, this.2.2.symm⟩
        have hq1 : decide ((b1.length : Int) < v1) = true := decide_eq_true (by omega)
        go_wp2_with fail
        refine (fail_any _ A b.length c 0 2).mono ?_
        rintro x w3 ⟨rfl, H3⟩
        rw [if_pos rfl]
        have HK3 := Lib.hid (HK2a.out.below H3.out HK2a.out.lt)
        have HF := Lib.hid (fail_end HK2a.out HB2a.out H3.out (by omega) #[.slice A b.length c, .int .i64 2])
        go_wp2_with (refine wpList_store_block rfl 60 (.tmp 4) (.tmp 31) rfl (w.heap.size + 1) rfl #[.slice A b.length c, .int .i64 2] rfl 60 #[.slice none 0 0, .int .i64 0] HK3.out 2 size_rd rfl rfl (by simp [Value.oneCell']) ?_)
        refine bodyPost_ret (results_cell_tmp Tryd.results25 _ _ (w.heap.size + 1) 60 #[.slice A b.length c, .int .i64 2] _ rfl HF.out.1 Tryd.underlying60 rfl size_rd) rfl ⟨A, c, rfl, HR.out.below HF.out.2, hc, HF.out.2, inB_refl _⟩
      · obtain ⟨rfl, rfl, rfl⟩ : b1 = b2 ∧ (0 : Int) = e2 ∧ v1 = v2 := by
          have := HCC.out
          rw [if_neg (by simp), if_neg hlv] at this
          simp only [Prod.mk.injEq] at this
          exact ⟨this.1.symm, this.2.1.symm, this.2.2.symm⟩
        have hq1 : decide ((b1.length : Int) < v1) = false := decide_eq_false (by omega)
        have HF := Lib.hid (fail_end HK2a.out HB2a.out (Below.refl _ _) (by omega) #[.slice A1 b1.length c1, .int .i64 0])
        go_wp2_with (refine wpList_store_block rfl 60 (.tmp 4) (.tmp 32) rfl (w.heap.size + 1) rfl #[.slice A1 b1.length c1, .int .i64 0] rfl 60 #[.slice none 0 0, .int .i64 0] HK2a.out 2 size_rd rfl rfl (by simp [Value.oneCell']) ?_)
        refine bodyPost_ret (results_cell_tmp Tryd.results25 _ _ (w.heap.size + 1) 60 #[.slice A1 b1.length c1, .int .i64 0] _ rfl HF.out.1 Tryd.underlying60 rfl size_rd) rfl ⟨A1, c1, rfl, (H2.out.1.below (below_box _ _)).setRow _ HK2a.out (noByte_rd _ _ _ _) _, H2.out.2.1, HF.out.2, H2.out.2.2.2⟩
    · obtain ⟨rfl, rfl, rfl⟩ : b = b2 ∧ e1 = e2 ∧ (0 : Nat) = v2 := by
        have := HCC.out
        rw [if_pos he1] at this
        simp only [Prod.mk.injEq] at this
        exact ⟨this.1.symm, this.2.1.symm, this.2.2.symm⟩
      have hq : (e1 != 0) = true := by simp [he1]
      go_wp2_with fail
      refine (fail_any _ A b.length c e0 e1).mono ?_
      rintro x w3 ⟨rfl, H3⟩
      rw [show (if e0 = 0 then e1 else e0) = e1 from ite_eq_left_iff.2 (fun h => (HST.out h).symm)]
      have HK3 := Lib.hid (HK2a.out.below H3.out HK2a.out.lt)
      have HF := Lib.hid (fail_end HK2a.out HB2a.out H3.out (by omega) #[.slice A b.length c, .int .i64 e1])
      go_wp2_with (refine wpList_store_block rfl 60 (.tmp 4) (.tmp 23) rfl (w.heap.size + 1) rfl #[.slice A b.length c, .int .i64 e1] rfl 60 #[.slice none 0 0, .int .i64 0] HK3.out 2 size_rd rfl rfl (by simp [Value.oneCell']) ?_)
      refine bodyPost_ret (results_cell_tmp Tryd.results25 _ _ (w.heap.size + 1) 60 #[.slice A b.length c, .int .i64 e1] _ rfl HF.out.1 Tryd.underlying60 rfl size_rd) rfl ⟨A, c, rfl, HR.out.below HF.out.2, hc, HF.out.2, inB_refl _⟩
end Go.Proofs.YtcdjbfgkajfnlaaDoor
