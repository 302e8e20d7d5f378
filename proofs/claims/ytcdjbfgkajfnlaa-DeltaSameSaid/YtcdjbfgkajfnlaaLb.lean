/- Layer 10's laws, walked: what tells a block makes it again. -/
import Derived.Test.YtcdjbfgkajfnlaaLa
namespace Go.Proofs.Ytcdjbfgkajfnlaa
open Go.RowKit

set_option maxHeartbeats 2000000 in
theorem back_law (w : World) (base target : List Int) (hb : base.length = 64) (hb8 : u8Ok base) (ht : target.length = 64) (ht8 : u8Ok target) :
    Calls Try.prog 3 #[.agg (u8s base).toArray, .agg (u8s target).toArray] w fun e w' => e = .returned (.bool true) ∧ Hid (Below w.heap.size w w') := by
  have HM := Lib.hid (fun W => diff_any W base target hb hb8 ht ht8)
  have HQ := Lib.hid (fun W A n c b => patch_any W base hb hb8 A n c b)
  have HE := Lib.hid (run_eql_block target ht)
  have HI := Lib.hid (opsN_inv base target hb ht ht8)
  have HPB := Lib.hid (fun l h => patch_back base target hb ht l h)
  obtain ⟨C, hC⟩ : ∃ C, C = (u8s base).toArray := ⟨_, rfl⟩
  obtain ⟨D, hD⟩ : ∃ D, D = (u8s target).toArray := ⟨_, rfl⟩
  have HCs : Hid (C.size = 64) := by rw [hC]; simp [Hid, u8s_length, hb]
  have HDs : Hid (D.size = 64) := by rw [hD]; simp [Hid, u8s_length, ht]
  have HD1 : Hid (∀ u ∈ D.toList, u.oneCell' = true) := by rw [hD]; exact u8s_one' _
  rw [← hC, ← hD] at HM ⊢
  rw [← hC] at HQ
  rw [← hD] at HE
  have HDq := Lib.hid hD
  clear hC hD
  have heq : ∀ W : World, (binOp .eql 23 (.agg D) (.agg D)).run Try.prog W = .ok (.bool true) W := HE.out
  have HS := Lib.hid (two_boxes w C D 23)
  have hc1 := Lib.hid HS.out.1
  have hc2 := Lib.hid HS.out.2.1
  go_enter Try.func3, Try.ntmps3
  go_wp2_with (first | (refine wpList_load_block rfl 23 (.tmp 2) rfl w.heap.size rfl 23 C _ hc1.out Try.underlying23 rfl 64 size_block HCs.out ?_) | (refine wpList_load_block rfl 23 (.tmp 3) rfl (w.heap.size + 1) rfl 23 D _ hc2.out Try.underlying23 rfl 64 size_block HDs.out ?_))
  refine (HM.out _).mono ?_
  rintro e w3 ⟨k, hk64, hg⟩
  have hinv := HI.out k
  rw [hk64] at hinv
  have hpb := HPB.out _ hinv
  have hlen := encOps_len base target _ _ hinv
  obtain ⟨A2, c2, rfl, H3⟩ := hg.at_
  have hp := HQ.out w3 A2 _ c2 _ H3.out.1 H3.out.2.1
  rw [hpb, errV_zero, ← HDq.out] at hp
  have HP := Lib.hid hp
  have HB3 := Lib.hid (HS.out.2.2.trans (H3.out.2.2.2.2.mono HS.out.2.2.size))
  have hd1 := Lib.hid (hc1.out.below H3.out.2.2.2.2 hc1.out.lt)
  have hd2 := Lib.hid (hc2.out.below H3.out.2.2.2.2 hc2.out.lt)
  obtain ⟨n2, hn2⟩ : ∃ n2, n2 = (encOps (opsN base target k).2).length := ⟨_, rfl⟩
  rw [← hn2] at HP hlen ⊢
  have hle : decide ((n2 : Int) ≤ 131) = true := decide_eq_true (by omega)
  clear hk64 hg hinv hpb H3 hp hn2 hc1 hc2
  go_wp2_with (first | (refine wpList_load_block rfl 23 (.tmp 2) rfl w.heap.size rfl 23 C _ hd1.out Try.underlying23 rfl 64 size_block HCs.out ?_))
  refine HP.out.mono ?_
  rintro e w4 ⟨rfl, HB4⟩
  obtain ⟨W5, hW5⟩ : ∃ W5, W5 = (w4.alloc (.cells (u8s zero64).toArray 23)).setRow w4.heap.size D := ⟨_, rfl⟩
  have HBK : Hid (Blk W5 w4.heap.size 23 D) := by rw [hW5]; exact blk_setRow (Blk.new _ _ _)
  have hbn : Below w4.heap.size w4 W5 := by rw [hW5]; exact below_new_row w4 _ _ _
  have HB5 : Hid (Below w.heap.size w W5) := by
    have h1 := HB3.out.trans (HB4.out.mono HB3.out.size)
    exact h1.trans (hbn.mono h1.size)
  have hd4 := Lib.hid (hd2.out.below HB4.out hd2.out.lt)
  have HT5 : Hid (Blk W5 (w.heap.size + 1) 23 D) := hd4.out.below hbn hd4.out.lt
  have HW5 := Lib.hid hW5
  clear hW5 hbn HB3 HB4 HP hd1 hd2 hd4
  go_wp2_with (first | (refine wpList_store_block rfl 23 (.tmp 6) (.tmp 15) rfl w4.heap.size rfl D rfl 23 (u8s zero64).toArray (Blk.new _ _ _) 64 size_block HDs.out zero_size HD1.out ?_; change wpList _ _ _ _ _ ((w4.alloc (.cells (u8s zero64).toArray 23)).setRow w4.heap.size D); rw [← HW5.out]) | (refine wpList_load_block_w (by rfl) 23 (.tmp 6) rfl w4.heap.size rfl 23 D _ HBK.out Try.underlying23 rfl 64 size_block HDs.out ?_) | (refine wpList_load_block_w (by rfl) 23 (.tmp 3) rfl (w.heap.size + 1) rfl 23 D _ HT5.out Try.underlying23 rfl 64 size_block HDs.out ?_))
  refine (sure_any W5).mono ?_
  rintro e w6 ⟨rfl, H6⟩
  go_wp2_with fail
  go_ret
  exact ⟨rfl, HB5.out.trans (H6.out.mono HB5.out.size)⟩
end Go.Proofs.Ytcdjbfgkajfnlaa
