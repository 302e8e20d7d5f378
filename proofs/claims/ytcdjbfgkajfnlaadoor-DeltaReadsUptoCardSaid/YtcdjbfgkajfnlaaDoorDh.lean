/- Layer 10: Diff and Patch, walked. -/
import Derived.Test.YtcdjbfgkajfnlaaDoorDg
namespace Go.Proofs.YtcdjbfgkajfnlaaDoor
open Go.RowKit

def patchS (base b : List Int) : List Int × Int := if (decS b).2 ≠ 0 then (zero64, (decS b).2) else applyS base (decS b).1
theorem appL_len (base : List Int) : ∀ l all, (appL base l all).1.length = 64
  | [], all => by
    unfold appL
    split
    · assumption
    · rfl
  | o :: r, all => by
    unfold appL
    split
    · rfl
    · split
      · rfl
      · exact appL_len base r _
set_option maxHeartbeats 4000000 in
theorem patch_any (w : World) (base : List Int) (hb : base.length = 64) (hb8 : u8Ok base) (A : Option Addr) (n c : Nat) (b : List Int) (hr : RB w A n b) (hc : n ≤ c) :
    Calls Tryd.prog 12 #[.agg (u8s base).toArray, .slice A n c] w
      fun e w' => e = .returned (.tuple #[.agg (u8s (patchS base b).1).toArray, errV (patchS base b).2]) ∧ Hid (Below w.heap.size w w') := by
  obtain ⟨C, hC⟩ : ∃ C, C = (u8s base).toArray := ⟨_, rfl⟩
  have HCs : Hid (C.size = 64) := by rw [hC]; simp [Hid, u8s_length, hb]
  rw [← hC]
  have HC := Lib.hid hC
  clear hC
  have HS : Hid (BlkB ((w.alloc (.cells C 23)).alloc (.cells (u8s zero64).toArray 23)) w.heap.size base ∧ BlkB ((w.alloc (.cells C 23)).alloc (.cells (u8s zero64).toArray 23)) (w.heap.size + 1) zero64 ∧ Below w.heap.size w ((w.alloc (.cells C 23)).alloc (.cells (u8s zero64).toArray 23))) := by
    rw [HC.out]
    have e : (w.alloc (.cells (u8s base).toArray 23)).heap.size = w.heap.size + 1 := by simp
    have k2 := BlkB.new (w.alloc (.cells (u8s base).toArray 23)) zero64 zero64_len zero64_ok
    rw [e] at k2
    exact ⟨(BlkB.new w base hb hb8).below (B := w.heap.size + 1) ((Below.refl _ _).alloc (by omega) _) (by omega), k2, (below_box _ _).alloc (by simp) _⟩
  have HR := Lib.hid hr
  clear hr
  obtain ⟨W2, hW2⟩ : ∃ W2, W2 = (w.alloc (.cells C 23)).alloc (.cells (u8s zero64).toArray 23) := ⟨_, rfl⟩
  rw [← hW2] at HS
  have HW2 := Lib.hid hW2
  clear hW2
  have HD := Lib.hid (decode_any W2 A n c b (HR.out.below HS.out.2.2) hc)
  have hap := fun (W : World) (A : Option Addr) (c : Nat) (h : ROps W A (decS b).1.length (decS b).1) => apply_any W base hb hb8 A (decS b).1.length c (decS b).1 h
  rw [← HC.out] at hap
  have HAP := Lib.hid hap
  clear hap
  have ext : ∀ {W : World}, Below W2.heap.size W2 W → BlkB W w.heap.size base ∧ BlkB W (w.heap.size + 1) zero64 ∧ Below w.heap.size w W := fun h => ⟨⟨HS.out.1.1.below h HS.out.1.1.lt, HS.out.1.2⟩, ⟨HS.out.2.1.1.below h HS.out.2.1.1.lt, HS.out.2.1.2⟩, HS.out.2.2.trans (h.mono HS.out.2.2.size)⟩
  have HEXT : Hid (∀ W : World, Below W2.heap.size W2 W → BlkB W w.heap.size base ∧ BlkB W (w.heap.size + 1) zero64 ∧ Below w.heap.size w W) := fun W h => ext h
  clear ext
  by_cases her : (decS b).2 = 0
  · have HRES : Hid (patchS base b = applyS base (decS b).1) := by show _ = _; unfold patchS; rw [if_neg (by simp [her])]
    rw [her] at HD
    have HBK := Lib.hid (appL_len base (decS b).1 [])
    clear her
    go_enter Tryd.func12, Tryd.ntmps12
    go_wp2_with fail
    change Calls _ _ _ ((w.alloc (.cells C 23)).alloc (.cells (u8s zero64).toArray 23)) _
    rw [← HW2.out]
    refine HD.out.mono ?_
    rintro e w3 ⟨V, rfl, H3⟩
    obtain ⟨A3, c3, hV, hro, _, hb3⟩ := H3.out
    rw [hV, errV_zero]
    have HX3 := Lib.hid (HEXT.out w3 hb3)
    have HRO := Lib.hid hro
    have hc1 := Lib.hid HX3.out.1.1
    rw [← HC.out] at hc1
    clear hV hro hb3 H3
    go_wp2_with (refine wpList_load_block rfl 23 (.tmp 2) rfl w.heap.size rfl 23 C _ hc1.out Tryd.underlying23 rfl 64 size_block HCs.out ?_)
    refine (HAP.out w3 A3 c3 HRO.out).mono ?_
    rintro e w4 ⟨rfl, H4⟩
    have HZ4 := Lib.hid (HX3.out.2.1.1.below H4.out HX3.out.2.1.1.lt)
    go_wp2_with (refine wpList_store_block rfl 23 (.tmp 4) (.tmp 20) rfl (w.heap.size + 1) rfl (u8s (applyS base (decS b).1).1).toArray rfl 23 (u8s zero64).toArray HZ4.out 64 size_block (block_size _ HBK.out) zero_size (u8s_one' _) ?_)
    refine bodyPost_ret (results_cell_tmp Tryd.results12 _ _ (w.heap.size + 1) 23 (u8s (applyS base (decS b).1).1).toArray _ rfl (blk_setRow HZ4.out) Tryd.underlying23 rfl (size_blk _ HBK.out)) rfl ⟨?_, ?_⟩
    · rw [HRES.out]; rfl
    · have hb4 := HX3.out.2.2.trans (H4.out.mono HX3.out.2.2.size)
      exact hb4.grown (grown_setRow _ _ _) hb4.size (fun k hk => by cases hk; omega)
  · have HRES : Hid (patchS base b = (zero64, (decS b).2)) := by show _ = _; unfold patchS; rw [if_pos her]
    go_enter Tryd.func12, Tryd.ntmps12
    go_wp2_with fail
    change Calls _ _ _ ((w.alloc (.cells C 23)).alloc (.cells (u8s zero64).toArray 23)) _
    rw [← HW2.out]
    refine HD.out.mono ?_
    rintro e w3 ⟨V, rfl, H3⟩
    obtain ⟨A3, c3, hV, hro, _, hb3⟩ := H3.out
    rw [hV, errV_some _ her]
    have HX3 := Lib.hid (HEXT.out w3 hb3)
    have HZ4 := Lib.hid HX3.out.2.1.1
    clear hV hro hb3 H3
    go_wp2_with (refine wpList_store_block rfl 23 (.tmp 4) (.tmp 15) rfl (w.heap.size + 1) rfl (u8s zero64).toArray rfl 23 (u8s zero64).toArray HZ4.out 64 size_block zero_size zero_size (u8s_one' _) ?_)
    refine bodyPost_ret (results_cell_tmp Tryd.results12 _ _ (w.heap.size + 1) 23 (u8s zero64).toArray _ rfl (blk_setRow HZ4.out) Tryd.underlying23 rfl (size_blk _ zero64_len)) rfl ⟨?_, ?_⟩
    · rw [HRES.out, errV_some _ her]; rfl
    · exact HX3.out.2.2.grown (grown_setRow _ _ _) HX3.out.2.2.size (fun k hk => by cases hk; omega)
theorem OwnOps.rops {w : World} {base : Nat} {V : Value} {ps : List (POp × Value)} (h : OwnOps w base V ps) (hn : ps.length ≤ 140737488355328) (hb : ∀ p ∈ ps, p.1.bytes.length ≤ 64 ∧ (0 ≤ p.1.frm ∧ p.1.frm ≤ 64) ∧ (0 ≤ p.1.len ∧ p.1.len ≤ 64)) :
    ∃ A c, V = .slice A ps.length c ∧ ROps w A ps.length (ps.map (·.1)) ∧ ps.length ≤ c := by
  refine DecOwn.rops (w := w) (base := base) (g := w.heap.size) (V := V) (ps := ps) ⟨h.own, fun p hp => ?_⟩ hn
  obtain ⟨ho, hx⟩ := h.each p hp
  obtain ⟨A, c, hv, hc⟩ := own_slice ho
  rw [hv] at ho
  have hr := RB.of_own ho hx (by have := (hb p hp).1; omega)
  refine ⟨A, c, hv, hr, hc, fun ad ea hn => ?_, (hb p hp).2.1, (hb p hp).2.2⟩
  subst ea
  have h1 := own_lt ho ad.block rfl
  refine ⟨by omega, ?_⟩
  have := own_type_ne ho h.own (by decide)
  rcases this with h2 | h2
  · simp [Value.ownBlock] at h2
  · exact h2
theorem encN_small (n : Nat) (h : n < 128) : encN n = [(n : Int)] := by
  have hb : behindS n = 0 := by
    have := behindS_of_lt n 0 (by omega)
    omega
  unfold encN
  rw [hb]
  simp [firstB, headS]
  omega
theorem encOp_len (base target : List Int) (a : Nat) (l : List POp) (h : OpsInv base target a l) (o : POp) (ho : o ∈ l) : (encOp o).length = costOf o := by
  unfold encOp costOf
  by_cases hc : o.copy = true
  · obtain ⟨h1, h2, h3, h4⟩ := h.copies o ho hc
    rw [if_pos hc, if_pos hc, if_pos hc, encN_small _ (by unfold u64N; omega), encN_small _ (by unfold u64N; omega)]
    rfl
  · have hf : o.copy = false := by simpa using hc
    obtain ⟨_, _, h3, h4, _⟩ := h.told o ho hf
    rw [if_neg hc, if_neg hc, if_neg hc, encN_small _ (by omega)]
    simp
theorem encOps_len (base target : List Int) (a : Nat) (l : List POp) (h : OpsInv base target a l) : (encOps l).length ≤ 131 := by
  have h1 := h.count
  have h2 := h.le
  have h3 := h.cost
  unfold encOps
  rw [encN_small _ (by omega)]
  have h4 : (l.flatMap encOp).length = (l.map costOf).sum := by
    have : ∀ l' : List POp, (∀ o ∈ l', o ∈ l) → (l'.flatMap encOp).length = (l'.map costOf).sum := by
      intro l'
      induction l' with
      | nil => intro _; rfl
      | cons o l' ih =>
        intro hl
        rw [List.flatMap_cons, List.length_append, encOp_len base target a l h o (hl o (by simp)), ih (fun o' ho' => hl o' (by simp [ho']))]
        simp
    exact this l (fun o ho => ho)
  rw [List.length_append, h4]
  simp only [List.length_singleton]
  split at h3 <;> omega
set_option maxHeartbeats 4000000 in
theorem diff_any (w : World) (base target : List Int) (hb : base.length = 64) (hb8 : u8Ok base) (ht : target.length = 64) (ht8 : u8Ok target) :
    Calls Tryd.prog 18 #[.agg (u8s base).toArray, .agg (u8s target).toArray] w fun e w' => ∃ k, (opsN base target k).1 = 64 ∧ Gives w (encOps (opsN base target k).2) e w' := by
  obtain ⟨C, hC⟩ : ∃ C, C = (u8s base).toArray := ⟨_, rfl⟩
  obtain ⟨D, hD⟩ : ∃ D, D = (u8s target).toArray := ⟨_, rfl⟩
  have HCs : Hid (C.size = 64) := by rw [hC]; simp [Hid, u8s_length, hb]
  have HDs : Hid (D.size = 64) := by rw [hD]; simp [Hid, u8s_length, ht]
  rw [← hC, ← hD]
  have hops := fun W => ops_any W base target hb hb8 ht ht8
  rw [← hC, ← hD] at hops
  have HO := Lib.hid hops
  have HB2 : Hid (Below w.heap.size w ((w.alloc (.cells C 23)).alloc (.cells D 23))) := (below_box _ _).alloc (by simp) _
  have hc1 : Hid (Blk ((w.alloc (.cells C 23)).alloc (.cells D 23)) w.heap.size 23 C) := (Blk.new _ _ _).alloc _
  have hc2 : Hid (Blk ((w.alloc (.cells C 23)).alloc (.cells D 23)) (w.heap.size + 1) 23 D) := by
    have e : (w.alloc (.cells C 23)).heap.size = w.heap.size + 1 := by simp
    have := Blk.new (w.alloc (.cells C 23)) 23 D
    rwa [e] at this
  clear hC hD hops
  go_enter Tryd.func18, Tryd.ntmps18
  go_wp2_with (first | (refine wpList_load_block rfl 23 (.tmp 2) rfl w.heap.size rfl 23 C _ hc1.out Tryd.underlying23 rfl 64 size_block HCs.out ?_) | (refine wpList_load_block rfl 23 (.tmp 3) rfl (w.heap.size + 1) rfl 23 D _ hc2.out Tryd.underlying23 rfl 64 size_block HDs.out ?_))
  refine (HO.out _).mono ?_
  rintro e w3 ⟨V, k, ps, rfl, H3⟩
  have hinv := opsN_inv base target hb ht ht8 k
  have hpl : ps.length ≤ 64 := by
    have h1 := hinv.count
    have h2 := hinv.le
    have h3 : ps.length = (opsN base target k).2.length := by rw [← H3.out.2.1]; simp
    omega
  obtain ⟨A3, c3, hV, hro, _⟩ := H3.out.1.rops (by omega) (fun p hp => by
    have hm : p.1 ∈ (opsN base target k).2 := by rw [← H3.out.2.1]; exact List.mem_map_of_mem hp
    by_cases hc : p.1.copy = true
    · obtain ⟨h1, h2, h3, h4⟩ := hinv.copies p.1 hm hc
      rw [h4]
      exact ⟨by simp, ⟨by omega, by omega⟩, ⟨by omega, by omega⟩⟩
    · obtain ⟨h1, h2, h3, h4, _⟩ := hinv.told p.1 hm (by simpa using hc)
      rw [h1, h2]
      exact ⟨h4, ⟨by omega, by omega⟩, ⟨by omega, by omega⟩⟩)
  rw [H3.out.2.1] at hro
  have hsz := encOps_len base target _ _ hinv
  have HE := Lib.hid (encode_any w3 A3 ps.length c3 (opsN base target k).2 hro (by omega))
  rw [hV]
  clear hro hV hinv
  go_wp2_with fail
  refine HE.out.mono ?_
  intro e w4 h4
  obtain ⟨A4, c4, rfl, H4⟩ := h4.at_
  go_wp2_with fail
  go_ret
  have hbw := HB2.out.trans (H3.out.2.2.2.mono HB2.out.size)
  obtain ⟨a1, a2, a3, a4, a5⟩ := H4.out
  exact ⟨k, H3.out.2.2.1, A4, c4, rfl, a1, a2, a3, fun ad ea hp => Nat.le_trans hbw.size (a4 ad ea hp), hbw.trans (a5.mono hbw.size)⟩
end Go.Proofs.YtcdjbfgkajfnlaaDoor
