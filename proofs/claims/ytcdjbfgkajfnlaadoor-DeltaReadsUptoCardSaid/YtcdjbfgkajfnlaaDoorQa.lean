/- Layer 2: the document's number that bytes begin with, walked. -/
import Derived.Test.YtcdjbfgkajfnlaaDoorPs
namespace Go.Proofs.YtcdjbfgkajfnlaaDoor
open Go.RowKit

/-- Two, so often. -/
def p2 (n : Nat) : Nat := 2 ^ n
theorem pow_lt64 (n : Nat) (h : n ≤ 63) : (2 : Nat) ^ n < 18446744073709551616 := Nat.pow_lt_pow_right (by decide) (by omega : n < 64)
theorem power_any (x : Int) (n : Nat) (w : World) (hx : x = n) (hn : n ≤ 63) : Calls Tryd.prog 61 #[.int .i64 x] w fun e w' => e = .returned (.int .u64 (p2 n : Int)) ∧ w = w' := by
  subst hx
  go_enter Tryd.func61, Tryd.ntmps61
  go_wp2_with fail
  go_loop [3, 4] (fun pv iv => ∃ i : Nat, i ≤ n ∧ iv = .int .i64 i ∧ pv = .int .u64 (p2 i : Int)) (fun _ iv => n - (intOf iv).toNat)
  case atStart => exact ⟨0, Nat.zero_le _, rfl, rfl⟩
  case round =>
    obtain ⟨i, hi, rfl, rfl⟩ := hrel
    by_cases hin : i < n
    · have hp : p2 (i + 1) < 18446744073709551616 := pow_lt64 (i + 1) (by omega)
      have he : p2 (i + 1) = 2 * p2 i := by unfold p2; rw [Nat.pow_succ]; omega
      have hw : IntKind.u64.wrap (2 * (p2 i : Int)) = (p2 (i + 1) : Int) := by
        rw [IntKind.wrap_u64, he]
        rw [he] at hp
        omega
      have HW := Lib.hid hw
      clear hp he hw
      go_wp2_with fail
      refine ⟨⟨i + 1, by omega, by go_num, ?_⟩, by simp [intOf]; omega⟩
      rw [← HW.out]
    · obtain rfl : i = n := by omega
      go_wp2_with fail
      go_ret
      exact ⟨rfl, rfl⟩
theorem more_any (n : Nat) (w : World) (hn : n < 18446744073709551616) : Calls Tryd.prog 51 #[.int .u64 n] w fun e w' => e = .returned (.int .i64 (behindS n)) ∧ w = w' := by
  go_enter Tryd.func51, Tryd.ntmps51
  go_wp2_with fail
  go_loop [3] (fun kv => ∃ k : Nat, k ≤ 8 ∧ kv = .int .i64 k ∧ Hid (∀ j, j < k → ¬ n < 2 ^ (7 * j + 7))) (fun kv => 8 - (intOf kv).toNat)
  case atStart => exact ⟨0, Nat.zero_le _, rfl, fun j hj => by omega⟩
  case round =>
    obtain ⟨k, hk, rfl, HK⟩ := hrel
    have h8 := behindS_le n
    by_cases hk8 : k < 8
    · go_wp2_with fail
      refine (power_any _ (7 * k + 7) _ (by omega) (by omega)).mono ?_
      rintro e w1 ⟨rfl, rfl⟩
      obtain ⟨P, hP⟩ : ∃ P : Nat, P = p2 (7 * k + 7) := ⟨_, rfl⟩
      rw [← hP]
      have HP := Lib.hid hP
      clear hP
      by_cases hlt : n < P
      · have he : behindS n = k := by
          have h1 := behindS_of_lt n k (by rw [HP.out] at hlt; exact hlt)
          rcases Nat.lt_or_ge (behindS n) k with h2 | h2
          · exact absurd (behindS_lt n _ (by omega) rfl (by omega)) (HK.out _ h2)
          · omega
        have HE := Lib.hid he
        clear he h8
        go_wp2_with fail
        go_ret
        rw [HE.out]
        exact ⟨rfl, rfl⟩
      · have q : decide ((n : Int) < P) = false := decide_eq_false (by omega)
        have HN : Hid (∀ j, j < k + 1 → ¬ n < 2 ^ (7 * j + 7)) := by
          intro j hj
          rcases Nat.lt_or_ge j k with h' | h'
          · exact HK.out j h'
          · obtain rfl : j = k := by omega
            rw [HP.out] at hlt; exact hlt
        clear h8
        go_wp2_with fail
        exact ⟨⟨k + 1, by omega, by go_num, HN⟩, by simp [intOf]; omega⟩
    · have he : behindS n = 8 := by
        rcases Nat.lt_or_ge (behindS n) k with h2 | h2
        · exact absurd (behindS_lt n _ (by omega) rfl (by omega)) (HK.out _ h2)
        · omega
      have HE := Lib.hid he
      clear he h8
      go_wp2_with fail
      go_ret
      rw [HE.out]
      exact ⟨rfl, rfl⟩
theorem ones_wrap : ∀ k : Fin 9, IntKind.u8.wrap (256 - (p2 (8 - k.val) : Int)) = headS k.val := by decide +kernel
theorem ones_any (x : Int) (k : Nat) (w : World) (hx : x = k) (hk : k ≤ 8) : Calls Tryd.prog 53 #[.int .i64 x] w fun e w' => e = .returned (.int .u8 (headS k)) ∧ w = w' := by
  subst hx
  have h1 := ones_wrap ⟨k, by omega⟩
  simp only at h1
  have hp : p2 (8 - k) ≤ 256 := by
    unfold p2
    have := Nat.pow_le_pow_right (n := 2) (by decide) (show 8 - k ≤ 8 by omega)
    simpa using this
  go_enter Tryd.func53, Tryd.ntmps53
  go_wp2_with fail
  refine (power_any _ (8 - k) _ (by omega) (by omega)).mono ?_
  rintro e w1 ⟨rfl, rfl⟩
  obtain ⟨P, hP⟩ : ∃ P : Nat, P = p2 (8 - k) := ⟨_, rfl⟩
  rw [← hP] at h1 hp ⊢
  have H1 := Lib.hid h1
  clear h1 hP
  go_wp2_with fail
  go_ret
  refine ⟨?_, rfl⟩
  rw [← H1.out, IntKind.wrap_u8]
  rfl
theorem ones_ge : ∀ b : Fin 256, ∀ k : Fin 8, decide (headS (k.val + 1) ≤ (b.val : Int)) = decide (k.val < onesOf (b.val : Int)) := by decide +kernel
end Go.Proofs.YtcdjbfgkajfnlaaDoor
