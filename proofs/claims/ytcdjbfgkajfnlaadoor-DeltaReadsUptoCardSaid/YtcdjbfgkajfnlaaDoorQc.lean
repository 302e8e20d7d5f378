/- Layer 2: the document's reader, walked. -/
import Derived.Test.YtcdjbfgkajfnlaaDoorQb
import Derived.Test.YtcdjbfgkajfnlaaDoorDg
namespace Go.Proofs.YtcdjbfgkajfnlaaDoor
open Go.RowKit

/-- A reader of the document's. -/
def rdV (A : Option Addr) (n c : Nat) (e : Int) : Value := .agg #[.slice A n c, .int .i64 e]
theorem blk_second (w : World) (O : Obj) (t : TypeId) (D : Array Value) : ((w.alloc O).alloc (.cells D t)).heap[w.heap.size + 1]? = some (.cells D t (0, 0)) := by
  have e : (w.alloc O).heap.size = w.heap.size + 1 := by simp
  have := Blk.new (w.alloc O) t D
  rwa [e] at this
theorem size_rd : (Tryd.prog.info? 60).map (·.size) = some 2 := by kernel_rfl
theorem fail_any (w : World) (A : Option Addr) (n c : Nat) (e0 e : Int) :
    Calls Tryd.prog 46 #[.agg #[.slice A n c, .int .i64 e0], .int .i64 e] w fun x w' => x = .returned (.agg #[.slice A n c, .int .i64 (if e0 = 0 then e else e0)]) ∧ Hid (Below w.heap.size w w') := by
  by_cases h : e0 = 0
  · subst h
    rw [if_pos rfl]
    go_enter Tryd.func46, Tryd.ntmps46
    go_wp2_with fail
    refine bodyPost_ret (results_cell_row Tryd.results46 _ _ (w.heap.size + 1) 60 #[.slice A n c, .int .i64 e] (0, 0) _ rfl (blk_second _ _ _ _) Tryd.underlying60 rfl size_rd) rfl ⟨rfl, (below_box _ _).alloc (by simp) _⟩
  · rw [if_neg h]
    have hq : (e0 == 0) = false := by simp [h]
    go_enter Tryd.func46, Tryd.ntmps46
    go_wp2_with fail
    refine bodyPost_ret (results_cell_row Tryd.results46 _ _ (w.heap.size + 1) 60 #[.slice A n c, .int .i64 e0] (0, 0) _ rfl (blk_second _ _ _ _) Tryd.underlying60 rfl size_rd) rfl ⟨rfl, (below_box _ _).alloc (by simp) _⟩
/- 'inB': in the same block as what was read, if there is any. -/
def inB (A0 A : Option Addr) : Prop := ∀ ad', A = some ad' → ∃ ad, A0 = some ad ∧ ad'.block = ad.block
theorem inB_refl (A : Option Addr) : inB A A := fun ad' h => ⟨ad', h, rfl⟩
theorem inB_of {A A' : Option Addr} (h : sameBlock A A') : inB A A' := h.2
theorem inB_none (A : Option Addr) : inB A none := fun _ h => by cases h
theorem inB.trans {A B C : Option Addr} (h : inB A B) (k : inB B C) : inB A C := fun ad' h' => by
  obtain ⟨a1, e1, b1⟩ := k ad' h'
  obtain ⟨a2, e2, b2⟩ := h a1 e1
  exact ⟨a2, e2, b1.trans b2⟩
def GivesQ (w : World) (A0 : Option Addr) (b : List Int) (e : Int) (v : Value) (x : Ending) (w' : World) : Prop := ∃ A c, x = .returned (.tuple #[.agg #[.slice A b.length c, .int .i64 e], v]) ∧ Hid (RB w' A b.length b ∧ b.length ≤ c ∧ Below w.heap.size w w' ∧ inB A0 A)
theorem two_new (w : World) (O : Obj) (t : TypeId) (D : Array Value) (k : Nat) : Below w.heap.size w (((w.alloc O).alloc (.cells D t)).drewN k) := by
  have h := (below_box w O).alloc (by simp) (.cells D t)
  exact below_drewN h k
set_option maxHeartbeats 2000000 in
theorem readUint_any (w : World) (A : Option Addr) (c : Nat) (b : List Int) (e0 : Int) (most : Nat) (hr : RB w A b.length b) (hc : b.length ≤ c) (hm : most < 18446744073709551616) :
    Calls Tryd.prog 27 #[.agg #[.slice A b.length c, .int .i64 e0], .int .u64 most] w (GivesQ w A (boundS b e0 most 4 0).1 (boundS b e0 most 4 0).2.1 (.int .u64 (boundS b e0 most 4 0).2.2)) := by
  by_cases h0 : e0 = 0
  · subst h0
    obtain ⟨⟨N, K, ne⟩, hq⟩ : ∃ q, q = numberS b := ⟨_, rfl⟩
    have hW2 := two_new w (.cells #[.slice A b.length c, .int .i64 0] 60) 60 #[.slice none 0 0, .int .i64 0]
    have HNUM := Lib.hid (fun W (h : RB W A b.length b) => refNumber_any W A b.length c b h)
    have hbd : boundS b 0 most 4 0 = if ne ≠ 0 then (b, ne, 0) else if most < N then (b, 4, 0) else (b.drop K, 0, N) := by
      unfold boundS
      rw [← hq]
      simp
    have hcnt := numberS_count b
    have hn64 := numberS_u64 b hr.2.2.1
    rw [← hq] at hcnt hn64 HNUM
    simp only at hcnt hn64 HNUM
    obtain ⟨⟨b1, e1, v1⟩, hB⟩ : ∃ q, q = boundS b 0 most 4 0 := ⟨_, rfl⟩
    rw [← hB] at hbd ⊢
    simp only
    have HBD := Lib.hid hbd
    have HR := Lib.hid hr
    have HW2 := Lib.hid hW2
    have hle := hr.2.1
    clear hr hW2 hq hbd hB
    go_enter Tryd.func27, Tryd.ntmps27
    go_wp2_with fail
    refine (HNUM.out _ (HR.out.below (HW2.out 0))).mono ?_
    rintro x w2 ⟨rfl, m, rfl⟩
    have HB := Lib.hid (HW2.out m)
    have HK : Hid (Blk (((w.alloc (.cells #[.slice A b.length c, .int .i64 0] 60)).alloc (.cells #[.slice none 0 0, .int .i64 0] 60)).drewN m) (w.heap.size + 1) 60 #[.slice none 0 0, .int .i64 0]) := (show Blk _ _ _ _ from blk_second w _ 60 _)
    by_cases hne : ne = 0
    · subst hne
      by_cases hmn : most < N
      · obtain ⟨rfl, rfl, rfl⟩ : b = b1 ∧ (4 : Int) = e1 ∧ (0 : Nat) = v1 := by
          have := HBD.out
          rw [if_neg (by simp), if_pos hmn] at this
          simp only [Prod.mk.injEq] at this
          exact ⟨this.1.symm, this.2.1.symm, this.2.2.symm⟩
        have hq1 : decide ((most : Int) < N) = true := decide_eq_true (by omega)
        go_wp2_with fail
        refine (fail_any _ A b.length c 0 4).mono ?_
        rintro x w3 ⟨rfl, H3⟩
        rw [if_pos rfl]
        have HK3 := Lib.hid (HK.out.below H3.out (by simp))
        have HB3 := Lib.hid (HB.out.trans (H3.out.mono HB.out.size))
        go_wp2_with (refine wpList_store_block rfl 60 (.tmp 4) (.tmp 31) rfl (w.heap.size + 1) rfl #[.slice A b.length c, .int .i64 4] rfl 60 #[.slice none 0 0, .int .i64 0] HK3.out 2 size_rd rfl rfl (by simp [Value.oneCell']) ?_)
        have HB4 := Lib.hid (HB3.out.grown (grown_setRow w3 (w.heap.size + 1) #[.slice A b.length c, .int .i64 4]) HB3.out.size (fun k hk => by have := Option.some.inj hk; omega))
        refine bodyPost_ret (results_cell_tmp Tryd.results27 _ _ (w.heap.size + 1) 60 #[.slice A b.length c, .int .i64 4] _ rfl (blk_setRow HK3.out) Tryd.underlying60 rfl size_rd) rfl ⟨A, c, rfl, HR.out.below HB4.out, hc, HB4.out, inB_refl _⟩
      · obtain ⟨rfl, rfl, rfl⟩ : b.drop K = b1 ∧ (0 : Int) = e1 ∧ N = v1 := by
          have := HBD.out
          rw [if_neg (by simp), if_neg hmn] at this
          simp only [Prod.mk.injEq] at this
          exact ⟨this.1.symm, this.2.1.symm, this.2.2.symm⟩
        have hq1 : decide ((most : Int) < N) = false := decide_eq_false (by omega)
        have hk := hcnt rfl
        clear hcnt
        obtain ⟨A1, hcut, hrd, hsb⟩ := cut_l (P := Tryd.prog) 25 5 Tryd.underlying25 info_u8 .i64 A b.length c K K rfl hk.1 hc
        have HRD := Lib.hid hrd
        have HSB := Lib.hid hsb
        clear hrd hsb
        go_wp2_with fail
        have HB4 := Lib.hid (((HB.out.setCell (p := ⟨w.heap.size, 0, none⟩) (by simp) (.slice A1 (b.length - K) (c - K))).setCell (p := ⟨w.heap.size + 1, 0, none⟩) (by simp) (.slice A1 (b.length - K) (c - K))).setCell (p := ⟨w.heap.size + 1, 1, none⟩) (by simp) (.int .i64 0))
        have HK4 := Lib.hid (((HK.out.far (p := ⟨w.heap.size, 0, none⟩) (by simp) (.slice A1 (b.length - K) (c - K))).set_ 0 (.slice A1 (b.length - K) (c - K))).set_ 1 (.int .i64 0))
        refine bodyPost_ret (results_cell_tmp Tryd.results27 _ _ (w.heap.size + 1) 60 #[.slice A1 (b.length - K) (c - K), .int .i64 0] _ rfl HK4.out Tryd.underlying60 rfl size_rd) rfl ?_
        exact ⟨A1, c - K, by rw [List.length_drop]; rfl, by rw [List.length_drop]; exact ⟨HRD.out _ b (HR.out.below HB4.out), by omega, HB4.out, inB_of HSB.out⟩⟩
    · obtain ⟨rfl, rfl, rfl⟩ : b = b1 ∧ ne = e1 ∧ (0 : Nat) = v1 := by
        have := HBD.out
        rw [if_pos hne] at this
        simp only [Prod.mk.injEq] at this
        exact ⟨this.1.symm, this.2.1.symm, this.2.2.symm⟩
      have hq2 : (ne == 0) = false := by simp [hne]
      have hq3 : (ne != 0) = true := by simp [hne]
      go_wp2_with fail
      refine (fail_any _ A b.length c 0 ne).mono ?_
      rintro x w3 ⟨rfl, H3⟩
      rw [if_pos rfl]
      have HK3 := Lib.hid (HK.out.below H3.out (by simp))
      have HB3 := Lib.hid (HB.out.trans (H3.out.mono HB.out.size))
      go_wp2_with (refine wpList_store_block rfl 60 (.tmp 4) (.tmp 31) rfl (w.heap.size + 1) rfl #[.slice A b.length c, .int .i64 ne] rfl 60 #[.slice none 0 0, .int .i64 0] HK3.out 2 size_rd rfl rfl (by simp [Value.oneCell']) ?_)
      have HB4 := Lib.hid (HB3.out.grown (grown_setRow w3 (w.heap.size + 1) #[.slice A b.length c, .int .i64 ne]) HB3.out.size (fun k hk => by have := Option.some.inj hk; omega))
      refine bodyPost_ret (results_cell_tmp Tryd.results27 _ _ (w.heap.size + 1) 60 #[.slice A b.length c, .int .i64 ne] _ rfl (blk_setRow HK3.out) Tryd.underlying60 rfl size_rd) rfl ⟨A, c, rfl, HR.out.below HB4.out, hc, HB4.out, inB_refl _⟩
  · rw [boundS_stuck b e0 most 4 0 h0]
    have hq : (e0 != 0) = true := by simp [h0]
    have HB : Hid (Below w.heap.size w ((w.alloc (.cells #[.slice A b.length c, .int .i64 e0] 60)).alloc (.cells #[.slice A b.length c, .int .i64 e0] 60))) := two_new _ _ _ _ 0
    have HR := Lib.hid hr
    clear hr
    go_enter Tryd.func27, Tryd.ntmps27
    go_wp2_with fail
    refine bodyPost_ret (results_cell_tmp Tryd.results27 _ _ (w.heap.size + 1) 60 #[.slice A b.length c, .int .i64 e0] _ rfl (blk_second _ _ _ _) Tryd.underlying60 rfl size_rd) rfl ⟨A, c, rfl, HR.out.below HB.out, hc, HB.out, inB_refl _⟩
end Go.Proofs.YtcdjbfgkajfnlaaDoor
