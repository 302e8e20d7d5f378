/- Layer 2 in plain Lean: numbers as bytes. -/
import Derived.Test.YtcdjbfgkajfnlaaDoorWd
import Derived.Lib.BitFns
namespace Go.Proofs.YtcdjbfgkajfnlaaDoor
open Go.RowKit

/-- How many bytes a number has behind its first one. -/
def behindS (n : Nat) : Nat := min 8 ((max 1 (Lib.bitLen n) - 1) / 7)
/-- The bits of a first byte that tell how many are behind it. -/
def headS (k : Nat) : Int := 256 - 2 ^ (8 - k)
theorem head_bits : ∀ k : Fin 9, bits .xor .u8 IntKind.u8.max (255 / 2 ^ k.val) = headS k.val := by decide +kernel
theorem ret_int {k : IntKind} {a b : Int} (h : a = b) : Ending.returned (.int k a) = .returned (.int k b) := by rw [h]
theorem bitLenAux_le : ∀ f n, Lib.bitLenAux f n ≤ f
  | 0, _ => by simp [Lib.bitLenAux]
  | f + 1, n => by
    rw [Lib.bitLenAux]
    have := bitLenAux_le f (n / 2)
    split <;> omega
theorem bitLen_le (n : Nat) : Lib.bitLen n ≤ 64 := bitLenAux_le 64 n
theorem behindS_le (n : Nat) : behindS n ≤ 8 := by unfold behindS; omega
theorem bitLenAux_lt : ∀ f n, n < 2 ^ f → n < 2 ^ Lib.bitLenAux f n
  | 0, n => by simp [Lib.bitLenAux]
  | f + 1, n => by
    intro h
    rw [Lib.bitLenAux]
    split
    · omega
    · have := bitLenAux_lt f (n / 2) (by rw [Nat.pow_succ] at h; omega)
      rw [Nat.add_comm, Nat.pow_succ]
      omega
theorem bitLenAux_ge : ∀ f n, n ≠ 0 → 2 ^ Lib.bitLenAux f n ≤ 2 * n
  | 0, n => by simp [Lib.bitLenAux]; omega
  | f + 1, n => by
    intro h
    rw [Lib.bitLenAux, if_neg h, Nat.add_comm, Nat.pow_succ]
    rcases Nat.eq_zero_or_pos (n / 2) with h0 | h0
    · have : Lib.bitLenAux f (n / 2) = 0 := by
        rw [h0]
        cases f <;> simp [Lib.bitLenAux]
      rw [this]
      omega
    · have := bitLenAux_ge f (n / 2) (by omega)
      omega
theorem bitLen_lt (n : Nat) (h : n < 2 ^ 64) : n < 2 ^ Lib.bitLen n := bitLenAux_lt 64 n h
theorem bitLen_ge (n : Nat) (h : n ≠ 0) : 2 ^ Lib.bitLen n ≤ 2 * n := bitLenAux_ge 64 n h
/-- Which number of bytes it is. -/
theorem behindS_lt (n k : Nat) (h : n < 2 ^ 64) (hk : behindS n = k) (h8 : k < 8) : n < 2 ^ (7 * k + 7) := by
  have h1 := bitLen_lt n h
  have h2 : Lib.bitLen n ≤ 7 * k + 7 := by unfold behindS at hk; omega
  exact Nat.lt_of_lt_of_le h1 (Nat.pow_le_pow_right (by decide) h2)
theorem behindS_of_lt (n k : Nat) (h : n < 2 ^ (7 * k + 7)) : behindS n ≤ k := by
  rcases Nat.eq_zero_or_pos n with h0 | h0
  · subst h0
    have : Lib.bitLen 0 = 0 := by decide
    unfold behindS
    rw [this]
    omega
  · have h1 := bitLen_ge n (by omega)
    have h2 : 2 ^ Lib.bitLen n < 2 ^ (7 * k + 8) := by
      rw [show 7 * k + 8 = (7 * k + 7) + 1 from rfl, Nat.pow_succ]
      omega
    have h3 := (Nat.pow_lt_pow_iff_right (by decide : 1 < 2)).1 h2
    unfold behindS
    omega
theorem or_head : ∀ k : Fin 8, ∀ x : Fin 128, x.val < 2 ^ (7 - k.val) → bits .or .u8 (headS k.val) (x.val : Int) = headS k.val + x.val := by decide +kernel

/-- Byte i of those behind the first one. -/
def tailB (n k i : Nat) : Int := ((n / 2 ^ (8 * (k - 1 - i)) % 256 : Nat) : Int)
def firstB (n k : Nat) : Int := headS k + if k < 8 then ((n / 2 ^ (8 * k) % 256 : Nat) : Int) else 0
/-- A number as bytes. -/
def encN (n : Nat) : List Int := firstB n (behindS n) :: (List.range (behindS n)).map (tailB n (behindS n))
theorem first_or (n k : Nat) (h : n < 2 ^ 64) (hk : behindS n = k) (h8 : k < 8) : bits .or .u8 (headS k) ((n / 2 ^ (8 * k) % 256 : Nat) : Int) = firstB n k := by
  have h1 := behindS_lt n k h hk h8
  have h2 : n / 2 ^ (8 * k) < 2 ^ (7 - k) := by
    rw [Nat.div_lt_iff_lt_mul (Nat.pow_pos (by decide)), ← Nat.pow_add]
    rwa [show 7 - k + 8 * k = 7 * k + 7 by omega]
  have h3 : (2 : Nat) ^ (7 - k) ≤ 2 ^ 7 := Nat.pow_le_pow_right (by decide) (by omega)
  have h4 : n / 2 ^ (8 * k) < 128 := by omega
  have h5 : n / 2 ^ (8 * k) % 256 = n / 2 ^ (8 * k) := Nat.mod_eq_of_lt (by omega)
  rw [h5]
  have := or_head ⟨k, h8⟩ ⟨n / 2 ^ (8 * k), h4⟩ h2
  rw [this]
  unfold firstB
  rw [if_pos h8, h5]
theorem headS_range (k : Nat) (h : k ≤ 8) : 0 ≤ headS k ∧ headS k ≤ 255 := by
  have : ∀ k : Fin 9, 0 ≤ headS k.val ∧ headS k.val ≤ 255 := by decide +kernel
  exact this ⟨k, by omega⟩
theorem firstB_range (n k : Nat) (h : n < 2 ^ 64) (hk : behindS n = k) : 0 ≤ firstB n k ∧ firstB n k ≤ 255 := by
  have hb := behindS_le n
  rcases Nat.lt_or_ge k 8 with h8 | h8
  · have h1 := behindS_lt n k h hk h8
    have h2 : n / 2 ^ (8 * k) < 2 ^ (7 - k) := by
      rw [Nat.div_lt_iff_lt_mul (Nat.pow_pos (by decide)), ← Nat.pow_add]
      rwa [show 7 - k + 8 * k = 7 * k + 7 by omega]
    have h6 : ∀ k : Fin 8, (headS k.val).toNat + 2 ^ (7 - k.val) ≤ 256 ∧ 0 ≤ headS k.val := by decide +kernel
    have h7 := h6 ⟨k, h8⟩
    simp only at h7
    have h5 : n / 2 ^ (8 * k) % 256 ≤ n / 2 ^ (8 * k) := Nat.mod_le _ _
    unfold firstB
    rw [if_pos h8]
    omega
  · obtain rfl : k = 8 := by omega
    unfold firstB
    have := headS_range 8 (by omega)
    simp
    exact this
theorem tailB_range (n k i : Nat) : 0 ≤ tailB n k i ∧ tailB n k i ≤ 255 := by unfold tailB; omega
theorem encN_ok (n : Nat) (h : n < 2 ^ 64) : u8Ok (encN n) := by
  intro x hx
  rcases List.mem_cons.1 hx with rfl | hx
  · exact firstB_range n _ h rfl
  · obtain ⟨i, _, rfl⟩ := List.mem_map.1 hx
    exact tailB_range _ _ _
theorem encN_length (n : Nat) : (encN n).length = behindS n + 1 := by simp [encN]
theorem tailB_int (m k i : Nat) : ((m : Int) / 2 ^ (8 * (k - 1 - i)) % 256) = tailB m k i := by
  unfold tailB
  rw [Int.natCast_emod, Int.natCast_ediv, Int.natCast_pow]
  rfl
theorem first_int (m k : Nat) (h : m < 2 ^ 64) (hk : behindS m = k) (h8 : k < 8) : bits .or .u8 (headS k) ((m : Int) / 2 ^ (8 * k) % 256) = firstB m k := by
  rw [← first_or m k h hk h8, Int.natCast_emod, Int.natCast_ediv, Int.natCast_pow]
  rfl
theorem first_eight (m : Nat) : headS 8 = firstB m 8 := by simp [firstB]
/-- What of a number lies there when i bytes behind the first one do. -/
def encTo (n k i : Nat) : List Int := firstB n k :: (List.range i).map (tailB n k)
theorem encTo_zero (n k : Nat) : encTo n k 0 = [firstB n k] := rfl
theorem encTo_succ (n k i : Nat) : encTo n k i ++ [tailB n k i] = encTo n k (i + 1) := by simp [encTo, List.range_succ]
theorem encTo_all (n k : Nat) (hk : behindS n = k) : encTo n k k = encN n := by subst hk; rfl
theorem encTo_length (n k i : Nat) : (encTo n k i).length = i + 1 := by simp [encTo]
end Go.Proofs.YtcdjbfgkajfnlaaDoor
