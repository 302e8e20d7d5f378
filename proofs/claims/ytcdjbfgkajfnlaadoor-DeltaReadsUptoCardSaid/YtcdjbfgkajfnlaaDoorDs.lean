/- Layer 10: what must come whatever the input is. -/
import Derived.Test.YtcdjbfgkajfnlaaDoorDi
import Derived.Test.YtcdjbfgkajfnlaaDoorEq
namespace Go.Proofs.YtcdjbfgkajfnlaaDoor
open Go.RowKit

/-- A block that begins with one byte. -/
def one64 (x : Int) : List Int := x :: List.replicate 63 0
theorem one64_len (x : Int) : (one64 x).length = 64 := by simp [one64]
theorem one64_ok (x : Int) (h0 : 0 ≤ x) (h1 : x ≤ 255) : u8Ok (one64 x) := by
  intro y hy
  rcases List.mem_cons.1 hy with rfl | hy
  · exact ⟨h0, h1⟩
  · rw [List.mem_replicate] at hy
    omega
theorem below_new_row (w : World) (t : TypeId) (c0 c1 : Array Value) : Below w.heap.size w ((w.alloc (.cells c0 t)).setRow w.heap.size c1) := by
  have h1 := below_box w (.cells c0 t)
  exact h1.grown (grown_setRow _ _ _) (by simp) (fun k hk => by cases hk; exact Nat.le_refl _)
set_option maxRecDepth 100000 in
set_option maxHeartbeats 4000000 in
theorem sure_any (w : World) : Calls Tryd.prog 6 #[] w fun e w' => e = .returned (.bool true) ∧ Hid (Below w.heap.size w w') := by
  have heq : ∀ W : World, (binOp .eql 23 (.agg (u8s (one64 3)).toArray) (.agg #[.int .u8 3, .int .u8 0, .int .u8 0, .int .u8 0, .int .u8 0, .int .u8 0, .int .u8 0, .int .u8 0, .int .u8 0, .int .u8 0, .int .u8 0, .int .u8 0, .int .u8 0, .int .u8 0, .int .u8 0, .int .u8 0, .int .u8 0, .int .u8 0, .int .u8 0, .int .u8 0, .int .u8 0, .int .u8 0, .int .u8 0, .int .u8 0, .int .u8 0, .int .u8 0, .int .u8 0, .int .u8 0, .int .u8 0, .int .u8 0, .int .u8 0, .int .u8 0, .int .u8 0, .int .u8 0, .int .u8 0, .int .u8 0, .int .u8 0, .int .u8 0, .int .u8 0, .int .u8 0, .int .u8 0, .int .u8 0, .int .u8 0, .int .u8 0, .int .u8 0, .int .u8 0, .int .u8 0, .int .u8 0, .int .u8 0, .int .u8 0, .int .u8 0, .int .u8 0, .int .u8 0, .int .u8 0, .int .u8 0, .int .u8 0, .int .u8 0, .int .u8 0, .int .u8 0, .int .u8 0, .int .u8 0, .int .u8 0, .int .u8 0, .int .u8 0])).run Tryd.prog W = .ok (.bool true) W := fun W => run_eql_block (one64 3) (one64_len 3) W
  go_enter Tryd.func6, Tryd.ntmps6
  go_wp2_with fail
  refine (ops_any w (one64 1) (one64 1) (one64_len 1) (one64_ok 1 (by decide) (by decide)) (one64_len 1) (one64_ok 1 (by decide) (by decide))).mono ?_
  rintro e w1 ⟨V, k, ps, rfl, H1⟩
  have hops : (opsN (one64 1) (one64 1) k).2 = [⟨true, 0, 64, []⟩] := by
    rw [opsN_end _ _ k 1 H1.out.2.2.1 (by rw [ops_self _ (one64_len 1)]), ops_self _ (one64_len 1)]
  have hpm := H1.out.2.1
  rw [hops] at hpm
  have hpl : ps.length = 1 := by have := congrArg List.length hpm; simpa using this
  obtain ⟨A1, c1, hV, hro, hc1⟩ := H1.out.1.rops (by omega) (fun p hp => by
    have : p.1 ∈ ps.map (·.1) := List.mem_map_of_mem hp
    rw [hpm] at this
    simp only [List.mem_singleton] at this
    rw [this]
    exact ⟨by simp, ⟨by decide, by decide⟩, ⟨by decide, by decide⟩⟩)
  rw [hpm, hpl] at hro
  rw [hpl] at hV hc1
  obtain ⟨b, off, hA, hcell⟩ := hro.2.2 (by omega)
  obtain ⟨Aj, cj, k0, k1, k2, k3, _⟩ := hcell 0 _ rfl
  simp only [Nat.zero_mul, Nat.add_zero] at k0 k1 k2 k3
  rw [hV, hA]
  have HB1 := Lib.hid H1.out.2.2.2
  have HK0 := Lib.hid k0
  have HK2 := Lib.hid k2
  clear H1 hops hpm hpl hV hro hA hcell k0 k1 k2 k3
  go_wp2_with fail
  refine (diff_any w1 (one64 2) (one64 3) (one64_len 2) (one64_ok 2 (by decide) (by decide)) (one64_len 3) (one64_ok 3 (by decide) (by decide))).mono ?_
  rintro e w2 ⟨k, hk64, hg⟩
  have hinv := opsN_inv (one64 2) (one64 3) (one64_len 2) (one64_len 3) (one64_ok 3 (by decide) (by decide)) k
  rw [hk64] at hinv
  have hpb := patch_back (one64 2) (one64 3) (one64_len 2) (one64_len 3) _ hinv
  obtain ⟨A2, c2, rfl, H2⟩ := hg.at_
  have hp := patch_any w2 (one64 2) (one64_len 2) (one64_ok 2 (by decide) (by decide)) A2 _ c2 _ H2.out.1 H2.out.2.1
  rw [hpb, errV_zero] at hp
  have HP := Lib.hid hp
  have HB2 := Lib.hid H2.out.2.2.2.2
  obtain ⟨n2, hn2⟩ : ∃ n2, n2 = (encOps (opsN (one64 2) (one64 3) k).2).length := ⟨_, rfl⟩
  rw [← hn2] at HP ⊢
  clear hk64 hg hinv hpb H2 hp hn2
  go_wp2_with fail
  refine HP.out.mono ?_
  rintro e w3 ⟨rfl, HB3⟩
  have HBW : Hid (Below w1.heap.size w1 ((w3.alloc (.cells (u8s zero64).toArray 23)).setRow w3.heap.size (u8s (one64 3)).toArray)) := by
    have h1 := HB2.out.trans (HB3.out.mono HB2.out.size)
    exact h1.trans ((below_new_row w3 _ _ _).mono h1.size)
  have keep : ∀ {a : Addr} {v : Value}, w1.cell? a = some v → ((w3.alloc (.cells (u8s zero64).toArray 23)).setRow w3.heap.size (u8s (one64 3)).toArray).cell? a = some v := fun hc => (HBW.out.cell (block_lt_of_cell hc)).trans hc
  have HBK : Hid (Blk ((w3.alloc (.cells (u8s zero64).toArray 23)).setRow w3.heap.size (u8s (one64 3)).toArray) w3.heap.size 23 (u8s (one64 3)).toArray) := blk_setRow (Blk.new _ _ _)
  have HW : Hid (Below w.heap.size w ((w3.alloc (.cells (u8s zero64).toArray 23)).setRow w3.heap.size (u8s (one64 3)).toArray)) := HB1.out.trans (HBW.out.mono HB1.out.size)
  have HC0 := Lib.hid (keep HK0.out)
  have HC2 := Lib.hid (keep HK2.out)
  obtain ⟨W5, hW5⟩ : ∃ W5, W5 = (w3.alloc (.cells (u8s zero64).toArray 23)).setRow w3.heap.size (u8s (one64 3)).toArray := ⟨_, rfl⟩
  rw [← hW5] at HC0 HC2 HW HBK
  have HW5 := Lib.hid hW5
  clear hW5 keep HBW HB2 HB3 HP HK0 HK2
  go_wp2_with (first | (refine wpList_store_block rfl 23 (.tmp 2) (.tmp 13) rfl w3.heap.size rfl (u8s (one64 3)).toArray rfl 23 (u8s zero64).toArray (Blk.new _ _ _) 64 size_block (block_size _ (one64_len 3)) zero_size (u8s_one' _) ?_; change wpList _ _ _ _ _ ((w3.alloc (.cells (u8s zero64).toArray 23)).setRow w3.heap.size (u8s (one64 3)).toArray); rw [← HW5.out]; have k0 := HC0.out; have k2 := HC2.out) | (refine wpList_load_block_w (by rfl) 23 (.tmp 2) rfl w3.heap.size rfl 23 (u8s (one64 3)).toArray _ HBK.out Tryd.underlying23 rfl 64 size_block (block_size _ (one64_len 3)) ?_))
  go_ret
  exact ⟨rfl, HW.out⟩
end Go.Proofs.YtcdjbfgkajfnlaaDoor
