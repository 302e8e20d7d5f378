/- Layer 10's laws, walked: where a base has the longest text. -/
import Derived.Test.YtcdjbfgkajfnlaaDs
import Derived.Test.YtcdjbfgkajfnlaaDr
namespace Go.Proofs.Ytcdjbfgkajfnlaa
open Go.RowKit

theorem two_boxes (w : World) (C D : Array Value) (t : TypeId) : Blk ((w.alloc (.cells C t)).alloc (.cells D t)) w.heap.size t C ∧ Blk ((w.alloc (.cells C t)).alloc (.cells D t)) (w.heap.size + 1) t D ∧ Below w.heap.size w ((w.alloc (.cells C t)).alloc (.cells D t)) := by
  refine ⟨(Blk.new _ _ _).alloc _, ?_, (below_box _ _).alloc (by simp) _⟩
  have e : (w.alloc (.cells C t)).heap.size = w.heap.size + 1 := by simp
  have := Blk.new (w.alloc (.cells C t)) t D
  rwa [e] at this
set_option maxHeartbeats 2000000 in
theorem matches_law (w : World) (base target : List Int) (i : Int) (hb : base.length = 64) (hb8 : u8Ok base) (ht : target.length = 64) (ht8 : u8Ok target) (h0 : -9223372036854775808 ≤ i) (h1 : i ≤ 9223372036854775807) :
    Calls Try.prog 5 #[.agg (u8s base).toArray, .agg (u8s target).toArray, .int .i64 i] w fun e w' => e = .returned (.bool true) ∧ Hid (Below w.heap.size w w') := by
  have HM := Lib.hid (fun W => match_any W base target i hb hb8 ht ht8 h0 h1)
  have HR := Lib.hid (fun W => refMatch_any W base target i hb hb8 ht ht8 h0 h1)
  obtain ⟨C, hC⟩ : ∃ C, C = (u8s base).toArray := ⟨_, rfl⟩
  obtain ⟨D, hD⟩ : ∃ D, D = (u8s target).toArray := ⟨_, rfl⟩
  have HCs : Hid (C.size = 64) := by rw [hC]; simp [Hid, u8s_length, hb]
  have HDs : Hid (D.size = 64) := by rw [hD]; simp [Hid, u8s_length, ht]
  rw [← hC, ← hD] at HM HR ⊢
  clear hC hD
  have HS := Lib.hid (two_boxes w C D 23)
  have hc1 := Lib.hid HS.out.1
  have hc2 := Lib.hid HS.out.2.1
  obtain ⟨p, hp⟩ : ∃ p : Nat × Nat, p = (if 0 ≤ i ∧ i < 64 then matchS base target i.toNat else (0, 0)) := ⟨_, rfl⟩
  have HP := Lib.hid hp
  clear hp
  go_enter Try.func5, Try.ntmps5
  go_wp2_with (first | (refine wpList_load_block rfl 23 (.tmp 3) rfl w.heap.size rfl 23 C _ hc1.out Try.underlying23 rfl 64 size_block HCs.out ?_) | (refine wpList_load_block rfl 23 (.tmp 4) rfl (w.heap.size + 1) rfl 23 D _ hc2.out Try.underlying23 rfl 64 size_block HDs.out ?_))
  refine (HM.out _).mono ?_
  rintro e w3 ⟨p', hp', rfl, H3⟩
  rw [← HP.out] at hp'
  subst hp'
  have HB3 := Lib.hid (HS.out.2.2.trans (H3.out.mono HS.out.2.2.size))
  have hd1 := Lib.hid (hc1.out.below H3.out hc1.out.lt)
  have hd2 := Lib.hid (hc2.out.below H3.out hc2.out.lt)
  clear H3 hc1 hc2
  go_wp2_with (first | (refine wpList_load_block rfl 23 (.tmp 3) rfl w.heap.size rfl 23 C _ hd1.out Try.underlying23 rfl 64 size_block HCs.out ?_) | (refine wpList_load_block rfl 23 (.tmp 4) rfl (w.heap.size + 1) rfl 23 D _ hd2.out Try.underlying23 rfl 64 size_block HDs.out ?_))
  refine (HR.out _).mono ?_
  rintro e w4 ⟨p', hp', rfl, H4⟩
  rw [← HP.out] at hp'
  subst hp'
  have HB4 := Lib.hid (HB3.out.trans (H4.out.mono HB3.out.size))
  clear H4 hd1 hd2
  have hq1 : ((p'.1 : Int) == p'.1) = true := by simp
  have hq2 : ((p'.2 : Int) == p'.2) = true := by simp
  go_wp2_with fail
  refine (sure_any w4).mono ?_
  rintro e w5 ⟨rfl, H5⟩
  go_wp2_with fail
  go_ret
  exact ⟨rfl, HB4.out.trans (H5.out.mono HB4.out.size)⟩
end Go.Proofs.Ytcdjbfgkajfnlaa
