/- Layer 10, walked: what two texts begin with alike; matches. -/
import Derived.Test.YtcdjbfgkajfnlaaDoorPa
import Derived.Test.YtcdjbfgkajfnlaaDoorDp
namespace Go.Proofs.YtcdjbfgkajfnlaaDoor
open Go.RowKit

set_option maxHeartbeats 1000000 in
theorem common_any (w : World) (A B : Option Addr) (n m c d : Nat) (a b : List Int) (ha : RB w A n a) (hb : RB w B m b) :
    Calls Tryd.prog 58 #[.slice A n c, .slice B m d] w fun e w' => e = .returned (.int .i64 (comm a b)) ∧ ∃ k, w' = w.drewN k := by
  have la := ha.len
  have lb := hb.len
  have na := ha.2.1
  have HA := Lib.hid ha
  have HB := Lib.hid hb
  have hcl := comm_le_left a b
  have HLA := Lib.hid la
  have HLB := Lib.hid lb
  clear ha hb la lb hcl
  go_enter Tryd.func58, Tryd.ntmps58
  go_wp2_with fail
  go_loopw [5] (fun iv wr => ∃ j : Nat, j ≤ n ∧ iv = .int .i64 j ∧ Hid (j ≤ comm a b) ∧ ∃ q, wr = w.drewN q) (fun iv _ => n - (intOf iv).toNat)
  case atStart => exact ⟨0, by omega, rfl, Nat.zero_le _, 0, rfl⟩
  case round =>
    obtain ⟨j, hjn, rfl, hj, q, rfl⟩ := hrel
    by_cases h1 : j < n
    · by_cases h2 : j < m
      · obtain ⟨ad, x, rfl, hx0, hx1, hx, hcx⟩ := HA.out.atL j h1
        obtain ⟨bd, y, rfl, hy0, hy1, hy, hcy⟩ := HB.out.atL j h2
        have h1' : decide ((j : Int) < (n : Int)) = true := decide_eq_true (by omega)
        have h2' : decide ((j : Int) < (m : Int)) = true := decide_eq_true (by omega)
        by_cases hxy : x = y
        · have hq : (x == y) = true := by simp [hxy]
          have HXY := Lib.hid hxy
          clear hxy
          go_wp2_with fail
          go_quiet (fail)
          go_wp2_with fail
          go_roundw
          case rel => exact ⟨j + 1, by omega, by go_num, comm_step a b j hj.out (by have := HLA.out; omega) (by have := HLB.out; omega) (by rw [hx.out, hy.out, HXY.out]), ⟨_, rfl⟩⟩
          case measure => simp [intOf]; omega
        · have hq : (x == y) = false := by simp [hxy]
          go_wp2_with fail
          go_quiet (fail)
          go_wp2_with fail
          go_ret
          have hst := comm_stop a b j hj.out (fun _ _ e => hxy (by rw [hx.out, hy.out] at e; exact Option.some.inj e))
          exact ⟨ret_int (by rw [hst]), _, World.drewN_drewN _ _ _⟩
      · have h1' : decide ((j : Int) < (n : Int)) = true := decide_eq_true (by omega)
        have h2' : decide ((j : Int) < (m : Int)) = false := decide_eq_false (by omega)
        go_wp2_with fail
        go_quiet (fail)
        go_wp2_with fail
        go_ret
        have hst := comm_stop a b j hj.out (fun _ h4 => by have := HLB.out; omega)
        exact ⟨ret_int (by rw [hst]), _, World.drewN_drewN _ _ _⟩
    · have h1' : decide ((j : Int) < (n : Int)) = false := decide_eq_false (by omega)
      go_wp2_with fail
      go_quiet (fail)
      go_wp2_with fail
      go_ret
      have hst := comm_stop a b j hj.out (fun h3 _ => by have := HLA.out; omega)
      exact ⟨ret_int (by rw [hst]), _, World.drewN_drewN _ _ _⟩

/-! Blocks: arrays of bytes in a box. -/
theorem under_block : Tryd.prog.underlying 23 = some (.array (Tryd.prog.arrayLen 23) (Tryd.prog.elem 23)) := by kernel_rfl
theorem len_block : Tryd.prog.arrayLen 23 = 64 := by kernel_rfl
theorem elem_block : Tryd.prog.elem 23 = 5 := by kernel_rfl
/-- A block of 64 bytes. -/
def BlkB (w : World) (g : Nat) (xs : List Int) : Prop := Blk w g 23 (u8s xs).toArray ∧ xs.length = 64 ∧ u8Ok xs
theorem BlkB.rb {w : World} {g : Nat} {xs : List Int} (h : BlkB w g xs) : RB w (some ⟨g, 0, none⟩) 64 xs := by
  refine ⟨h.2.1, by omega, h.2.2, fun _ => ⟨_, rfl, fun j hj => ?_⟩⟩
  rw [add_plain, h.1.cell j]
  have := u8s_get xs j (by have := h.2.1; omega)
  simpa using this
theorem BlkB.new (w : World) (xs : List Int) (hl : xs.length = 64) (hx : u8Ok xs) : BlkB (w.alloc (.cells (u8s xs).toArray 23)) w.heap.size xs := ⟨Blk.new _ _ _, hl, hx⟩
theorem BlkB.below {w w' : World} {B g : Nat} {xs : List Int} (h : BlkB w g xs) (hb : Below B w w') (hg : g < B) : BlkB w' g xs := ⟨h.1.below hb hg, h.2⟩
theorem slicedAt_eq (a : Addr) (l h m : Nat) : slicedAt a l h m 1 = .slice (some (if m = l then a else a.add l)) (h - l) (m - l) := by simp [slicedAt]
theorem cutb_l (g : Nat) (l : Int) (lN : Nat) (hl : l = lN) (hn : lN ≤ 64) :
    ∃ A', (∀ W : World, (Instr.sliceAt 23 (.pointer (some ⟨g, 0, none⟩)) (some (.int .i64 l)) none none).run Tryd.prog W = .ok (.slice (some A') (64 - lN) (64 - lN)) W) ∧ (∀ (W : World) (xs : List Int), BlkB W g xs → RB W (some A') (64 - lN) (xs.drop lN)) ∧ A'.block = g := by
  obtain ⟨i0, hi, _, hz1, _⟩ := info_parts info_u8
  refine ⟨if 64 = lN then ⟨g, 0, none⟩ else (⟨g, 0, none⟩ : Addr).add lN, fun W => ?_, fun W xs hx => ?_, ?_⟩
  · rw [run_sliceAt_array_l W 23 ⟨g, 0, none⟩ under_block .i64 l (by omega) (by rw [len_block]; omega), len_block, elem_block]
    have e1 : l.toNat = lN := by omega
    simp [sizeOf, typeInfo, hi, hz1, slicedAt, Result.andThen, e1]
  · have := hx.rb.drop_ lN hn (Nat.le_refl _)
    by_cases e : 64 = lN
    · rw [if_pos e] at this ⊢
      exact this
    · rw [if_neg e] at this ⊢
      exact this
  · split
    · rfl
    · exact block_of_add _ _
theorem cutb_lh (g : Nat) (l h : Int) (lN mN : Nat) (hl : l = lN) (hh : h = lN + mN) (hn : lN + mN ≤ 64) :
    ∃ A', (∀ W : World, (Instr.sliceAt 23 (.pointer (some ⟨g, 0, none⟩)) (some (.int .i64 l)) (some (.int .i64 h)) none).run Tryd.prog W = .ok (.slice (some A') mN (64 - lN)) W) ∧ (∀ (W : World) (xs : List Int), BlkB W g xs → RB W (some A') mN ((xs.drop lN).take mN)) ∧ A'.block = g := by
  obtain ⟨i0, hi, _, hz1, _⟩ := info_parts info_u8
  refine ⟨if 64 = lN then ⟨g, 0, none⟩ else (⟨g, 0, none⟩ : Addr).add lN, fun W => ?_, fun W xs hx => ?_, ?_⟩
  · rw [run_sliceAt_array_lh W 23 ⟨g, 0, none⟩ under_block .i64 .i64 l h (by omega) (by omega) (by rw [len_block]; omega), len_block, elem_block]
    have e1 : l.toNat = lN := by omega
    have e2 : h.toNat = lN + mN := by omega
    have e3 : lN + mN - lN = mN := by omega
    simp [sizeOf, typeInfo, hi, hz1, slicedAt, Result.andThen, e1, e2, e3]
  · have := (hx.rb.drop_ lN (by omega) (Nat.le_refl _)).take_ mN (by omega)
    by_cases e : 64 = lN
    · rw [if_pos e] at this ⊢
      exact this
    · rw [if_neg e] at this ⊢
      exact this
  · split
    · rfl
    · exact block_of_add _ _
set_option maxHeartbeats 1000000 in
theorem match_any (w : World) (base target : List Int) (i : Int) (hb : base.length = 64) (hb8 : u8Ok base) (ht : target.length = 64) (ht8 : u8Ok target) (h0 : -9223372036854775808 ≤ i) (h1 : i ≤ 9223372036854775807) :
    Calls Tryd.prog 40 #[.agg (u8s base).toArray, .agg (u8s target).toArray, .int .i64 i] w
      fun e w' => ∃ p : Nat × Nat, p = (if 0 ≤ i ∧ i < 64 then matchS base target i.toNat else (0, 0)) ∧ e = .returned (.tuple #[.int .i64 p.1, .int .i64 p.2]) ∧ Hid (Below w.heap.size w w') := by
  obtain ⟨C, hC⟩ : ∃ C, C = (u8s base).toArray := ⟨_, rfl⟩
  obtain ⟨D, hD⟩ : ∃ D, D = (u8s target).toArray := ⟨_, rfl⟩
  rw [← hC, ← hD]
  have HC := Lib.hid hC
  have HD := Lib.hid hD
  clear hC hD
  by_cases hi : 0 ≤ i ∧ i < 64
  · obtain ⟨m, rfl⟩ := Int.eq_ofNat_of_zero_le hi.1
    have hm : m < 64 := by omega
    rw [if_pos hi, Int.toNat_natCast]
    clear hi h0 h1
    go_enter Tryd.func40, Tryd.ntmps40
    have hlo : decide ((m : Int) < 0) = false := decide_eq_false (by omega)
    have hhi : decide ((64 : Int) ≤ (m : Int)) = false := decide_eq_false (by omega)
    obtain ⟨A2, hc2, hr2, hb2⟩ := cutb_l (w.heap.size + 1) m m rfl (by omega)
    have HR2 := Lib.hid hr2
    clear hr2 hb2
    have HS : Hid (BlkB ((w.alloc (.cells C 23)).alloc (.cells D 23)) w.heap.size base ∧ BlkB ((w.alloc (.cells C 23)).alloc (.cells D 23)) (w.heap.size + 1) target ∧ Below w.heap.size w ((w.alloc (.cells C 23)).alloc (.cells D 23))) := by
      rw [HC.out, HD.out]
      have e : (w.alloc (.cells (u8s base).toArray 23)).heap.size = w.heap.size + 1 := by simp
      have k2 := BlkB.new (w.alloc (.cells (u8s base).toArray 23)) target ht ht8
      rw [e] at k2
      exact ⟨(BlkB.new w base hb hb8).below (B := w.heap.size + 1) ((Below.refl _ _).alloc (by omega) _) (by omega), k2, (below_box _ _).alloc (by simp) _⟩
    go_wp2_with fail
    go_loopw [18, 8, 9] (fun iv fv mv wr => ∃ j : Nat, j ≤ 64 ∧ iv = .int .i64 j ∧ fv = .int .i64 (mto base (target.drop m) j).1 ∧ mv = .int .i64 (mto base (target.drop m) j).2 ∧ Hid (BlkB wr w.heap.size base ∧ BlkB wr (w.heap.size + 1) target ∧ Below w.heap.size w wr)) (fun iv _ _ _ => 64 - (intOf iv).toNat)
    case atStart => exact ⟨0, by omega, rfl, rfl, rfl, HS⟩
    case round =>
      obtain ⟨j, hj, rfl, rfl, rfl, HJ⟩ := hrel
      clear HS
      by_cases hj64 : j < 64
      · obtain ⟨A1, hc1, hr1, hb1⟩ := cutb_l w.heap.size j j rfl (by omega)
        have HR1 := Lib.hid hr1
        clear hr1 hb1
        have hms : mto base (target.drop m) (j + 1) = mstep base (target.drop m) j (mto base (target.drop m) j) := rfl
        have HMS := Lib.hid hms
        clear hms
        go_wp2_with fail
        go_quiet ((go_at_call 58; exact Calls.quiet_of (common_any _ (some A1) (some A2) (64 - j) (64 - m) _ _ (base.drop j) (target.drop m) (HR1.out wr _ HJ.out.1) (HR2.out wr _ HJ.out.2.1))))
        by_cases hlt : (mto base (target.drop m) j).2 < comm (base.drop j) (target.drop m)
        · go_wp2_with fail
          go_roundw
          case rel =>
            refine ⟨j + 1, by omega, by go_num, ?_, ?_, HJ.out.1, HJ.out.2.1, below_drewN HJ.out.2.2 _⟩
            · rw [HMS.out, mstep, if_pos hlt]
            · rw [HMS.out, mstep, if_pos hlt]
          case measure => simp [intOf]; omega
        · go_wp2_with fail
          go_roundw
          case rel =>
            refine ⟨j + 1, by omega, by go_num, ?_, ?_, HJ.out.1, HJ.out.2.1, below_drewN HJ.out.2.2 _⟩
            · rw [HMS.out, mstep, if_neg hlt]
            · rw [HMS.out, mstep, if_neg hlt]
          case measure => simp [intOf]; omega
      · go_wp2_with fail
        go_ret2
        obtain rfl : j = 64 := by omega
        exact ⟨_, rfl, rfl, HJ.out.2.2⟩
  · rw [if_neg hi]
    have hbw : Below w.heap.size w ((w.alloc (.cells C 23)).alloc (.cells D 23)) := (below_box _ _).alloc (by simp) _
    have HBW := Lib.hid hbw
    clear hbw
    rcases (show i < 0 ∨ 64 ≤ i by omega) with h2 | h2
    · go_enter Tryd.func40, Tryd.ntmps40
      go_wp2_with fail
      go_ret2
      exact ⟨_, rfl, rfl, HBW.out⟩
    · go_enter Tryd.func40, Tryd.ntmps40
      go_wp2_with fail
      go_ret2
      exact ⟨_, rfl, rfl, HBW.out⟩
end Go.Proofs.YtcdjbfgkajfnlaaDoor
