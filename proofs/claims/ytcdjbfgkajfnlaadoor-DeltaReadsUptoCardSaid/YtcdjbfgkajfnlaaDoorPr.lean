/- Layer 2 in plain Lean: the number that bytes begin with; a reader's calls. -/
import Derived.Test.YtcdjbfgkajfnlaaDoorPp
namespace Go.Proofs.YtcdjbfgkajfnlaaDoor
open Go.RowKit

/-- How many bits 1 a byte begins with. -/
def onesOf (b : Int) : Nat := 8 - Lib.bitLen (255 - b).toNat
theorem bitLen_le8 : ∀ n : Fin 256, Lib.bitLen n.val ≤ 8 := by decide +kernel
theorem onesOf_le (b : Int) : onesOf b ≤ 8 := by unfold onesOf; omega
theorem onesOf_int (b : Int) (h0 : 0 ≤ b) (h1 : b ≤ 255) : (8 : Int) - (Lib.bitLen (255 - b).toNat : Int) = onesOf b := by
  have := bitLen_le8 ⟨(255 - b).toNat, by omega⟩
  simp only at this
  unfold onesOf
  omega
theorem not_byte : ∀ b : Fin 256, bits .xor .u8 IntKind.u8.max (b.val : Int) = 255 - b.val := by decide +kernel
theorem not_byte_int (b : Int) (h0 : 0 ≤ b) (h1 : b ≤ 255) : bits .xor .u8 IntKind.u8.max b = 255 - b := by
  obtain ⟨m, rfl⟩ := Int.eq_ofNat_of_zero_le h0
  exact not_byte ⟨m, by omega⟩
theorem strip : ∀ b : Fin 256, bits .andNot .u8 (b.val : Int) (headS (onesOf b.val)) = b.val - headS (onesOf b.val) ∧ headS (onesOf b.val) ≤ b.val ∧ (b.val : Int) - headS (onesOf b.val) < 2 ^ (7 - onesOf b.val) := by decide +kernel
theorem strip_int (b : Int) (h0 : 0 ≤ b) (h1 : b ≤ 255) : bits .andNot .u8 b (headS (onesOf b)) = b - headS (onesOf b) ∧ headS (onesOf b) ≤ b ∧ b - headS (onesOf b) < 2 ^ (7 - onesOf b) := by
  obtain ⟨m, rfl⟩ := Int.eq_ofNat_of_zero_le h0
  exact strip ⟨m, by omega⟩

/-- A number out of its bytes, the first one's rest ahead. -/
def beN (n : Nat) (l : List Int) : Nat := l.foldl (fun n c => n * 256 + c.toNat) n
theorem beN_snoc (n : Nat) (l : List Int) (c : Int) : beN n (l ++ [c]) = beN n l * 256 + c.toNat := by simp [beN]
theorem beN_lt (n : Nat) (k : Nat) (h : n < 2 ^ k) : ∀ l : List Int, u8Ok l → beN n l < 2 ^ (k + 8 * l.length) := by
  intro l
  induction l generalizing n k with
  | nil => intro _; simpa [beN] using h
  | cons c l ih =>
    intro hl
    have hc := hl c (by simp)
    have h2 : n * 256 + c.toNat < 2 ^ (k + 8) := by rw [Nat.pow_add]; omega
    have := ih (n * 256 + c.toNat) (k + 8) h2 (fun x hx => hl x (by simp [hx]))
    rw [List.length_cons, show k + 8 * (l.length + 1) = k + 8 + 8 * l.length by omega]
    exact this
/-- The number that bytes begin with, how many it has, an error. -/
def numberS : List Int → Nat × Nat × Int
  | [] => (0, 0, 12)
  | b :: t =>
    if t.length < onesOf b then (0, 0, 12)
    else if behindS (beN (b - headS (onesOf b)).toNat (t.take (onesOf b))) = onesOf b then (beN (b - headS (onesOf b)).toNat (t.take (onesOf b)), onesOf b + 1, 0) else (0, 0, 3)
theorem numberS_lt (b : Int) (t : List Int) (h : u8Ok (b :: t)) (i : Nat) (hi : i ≤ onesOf b) (ht : onesOf b ≤ t.length) : beN (b - headS (onesOf b)).toNat (t.take i) < 2 ^ (7 - onesOf b + 8 * i) := by
  have hb := h b (by simp)
  obtain ⟨_, h2, h3⟩ := strip_int b hb.1 hb.2
  have h4 : (b - headS (onesOf b)).toNat < 2 ^ (7 - onesOf b) := by
    have : ((2 ^ (7 - onesOf b) : Nat) : Int) = (2 : Int) ^ (7 - onesOf b) := by rw [Int.natCast_pow]; rfl
    omega
  have := beN_lt _ _ h4 (t.take i) (fun x hx => h x (List.mem_cons_of_mem _ (List.mem_of_mem_take hx)))
  rwa [List.length_take, Nat.min_eq_left (by omega)] at this
theorem or_u64 (a c : Nat) (ha : a < 72057594037927936) (hc : c < 256) : bits .or .u64 ((a * 256 : Nat) : Int) (c : Int) = ((a * 256 + c : Nat) : Int) := by
  have hx : a * 256 ||| c = a * 256 + c := by
    rw [show a * 256 = 2 ^ 8 * a by omega]
    exact (Nat.two_pow_add_eq_or_of_lt hc a).symm
  show IntKind.u64.wrap ((BitVec.ofInt 64 ((a * 256 : Nat) : Int) ||| BitVec.ofInt 64 (c : Int)).toNat : Int) = _
  rw [BitVec.toNat_or, BitVec.ofInt_natCast, BitVec.ofInt_natCast, BitVec.toNat_ofNat, BitVec.toNat_ofNat, Nat.mod_eq_of_lt (by omega), Nat.mod_eq_of_lt (by omega), hx]
  rw [IntKind.wrap_u64]
  omega
theorem beN_step (N0 k j : Nat) (t : List Int) (x : Int) (hjk : j < k) (hx : (t.take k)[j]? = some x) (h0 : 0 ≤ x) (h1 : x ≤ 255) (hlt : beN N0 (t.take j) < 2 ^ (7 - k + 8 * j)) (hk : k ≤ 8) :
    bits .or .u64 (IntKind.u64.wrap (↑(beN N0 (t.take j)) * 256)) x = ((beN N0 (t.take (j + 1)) : Nat) : Int) := by
  have h56 : beN N0 (t.take j) < 2 ^ 56 := Nat.lt_of_lt_of_le hlt (Nat.pow_le_pow_right (by decide) (by omega))
  have hx' : t[j]? = some x := by rw [List.getElem?_take, if_pos hjk] at hx; exact hx
  have ht : t.take (j + 1) = t.take j ++ [x] := by rw [List.take_add_one, hx']; rfl
  obtain ⟨m, rfl⟩ := Int.eq_ofNat_of_zero_le h0
  rw [ht, beN_snoc, IntKind.wrap_u64, Int.toNat_natCast]
  have e : ((beN N0 (t.take j) : Int) * 256) % 18446744073709551616 = ((beN N0 (t.take j) * 256 : Nat) : Int) := by omega
  rw [e]
  exact or_u64 _ m (by omega) (by omega)
theorem numberS_yes (b0 : Int) (t : List Int) (h1 : ¬ t.length < onesOf b0) (h2 : behindS (beN (b0 - headS (onesOf b0)).toNat (t.take (onesOf b0))) = onesOf b0) :
    numberS (b0 :: t) = (beN (b0 - headS (onesOf b0)).toNat (t.take (onesOf b0)), onesOf b0 + 1, 0) := by simp only [numberS]; rw [if_neg h1, if_pos h2]
theorem numberS_no (b0 : Int) (t : List Int) (h1 : ¬ t.length < onesOf b0) (h2 : ¬ behindS (beN (b0 - headS (onesOf b0)).toNat (t.take (onesOf b0))) = onesOf b0) :
    numberS (b0 :: t) = (0, 0, 3) := by simp only [numberS]; rw [if_neg h1, if_neg h2]
/-- What a reader has left, its first error; what a call takes off. -/
def boundS (b : List Int) (e : Int) (most : Nat) (above left : Int) : List Int × Int × Nat :=
  if e ≠ 0 then (b, e, 0)
  else if (numberS b).2.2 ≠ 0 then (b, (numberS b).2.2, 0)
  else if most < (numberS b).1 then (b, above, 0)
  else if left ≠ 0 ∧ b.length - (numberS b).2.1 < (numberS b).1 then (b, left, 0)
  else (b.drop (numberS b).2.1, 0, (numberS b).1)
theorem numberS_count (b : List Int) (h : (numberS b).2.2 = 0) : (numberS b).2.1 ≤ b.length ∧ 1 ≤ (numberS b).2.1 := by
  rcases b with _ | ⟨b0, t⟩
  · simp [numberS] at h
  · by_cases h1 : t.length < onesOf b0
    · simp only [numberS] at h
      rw [if_pos h1] at h
      simp at h
    · by_cases h2 : behindS (beN (b0 - headS (onesOf b0)).toNat (t.take (onesOf b0))) = onesOf b0
      · rw [numberS_yes b0 t h1 h2]
        simp only [List.length_cons]
        omega
      · rw [numberS_no b0 t h1 h2] at h
        simp at h
theorem numberS_u64 (b : List Int) (hb : u8Ok b) : (numberS b).1 < 18446744073709551616 := by
  rcases b with _ | ⟨b0, t⟩
  · simp [numberS]
  · by_cases h1 : t.length < onesOf b0
    · simp only [numberS]
      rw [if_pos h1]
      simp
    · by_cases h2 : behindS (beN (b0 - headS (onesOf b0)).toNat (t.take (onesOf b0))) = onesOf b0
      · rw [numberS_yes b0 t h1 h2]
        have h8 := onesOf_le b0
        have := numberS_lt b0 t hb _ (Nat.le_refl _) (by omega)
        have h64 : 2 ^ (7 - onesOf b0 + 8 * onesOf b0) ≤ 2 ^ 64 := Nat.pow_le_pow_right (by decide) (by omega)
        exact Nat.lt_of_lt_of_le this h64
      · rw [numberS_no b0 t h1 h2]
        simp
theorem numberS_err (b : List Int) : (numberS b).2.2 = 0 ∨ (numberS b).2.2 = 12 ∨ (numberS b).2.2 = 3 := by
  rcases b with _ | ⟨b0, t⟩
  · simp [numberS]
  · simp only [numberS]
    split
    · simp
    · split <;> simp
theorem numberS_fail (b : List Int) (h : (numberS b).2.2 ≠ 0) : (numberS b).1 = 0 ∧ (numberS b).2.1 = 0 := by
  rcases b with _ | ⟨b0, t⟩
  · simp [numberS]
  · by_cases h1 : t.length < onesOf b0
    · simp only [numberS]
      rw [if_pos h1]
      simp
    · by_cases h2 : behindS (beN (b0 - headS (onesOf b0)).toNat (t.take (onesOf b0))) = onesOf b0
      · rw [numberS_yes b0 t h1 h2] at h
        simp at h
      · rw [numberS_no b0 t h1 h2]
        simp
theorem boundS_le (b : List Int) (e : Int) (most : Nat) (above left : Int) : (boundS b e most above left).2.2 ≤ most := by
  unfold boundS
  split
  · exact Nat.zero_le _
  · split
    · exact Nat.zero_le _
    · split
      · exact Nat.zero_le _
      · split
        · exact Nat.zero_le _
        · simp only
          omega
theorem boundS_stuck (b : List Int) (e : Int) (most : Nat) (above left : Int) (h : e ≠ 0) : boundS b e most above left = (b, e, 0) := by unfold boundS; rw [if_pos h]
theorem boundS_err (b : List Int) (e : Int) (most : Nat) (above left : Int) (_ha : above ≠ 0) (h : (boundS b e most above left).2.1 ≠ 0) : (boundS b e most above left).1 = b ∧ (boundS b e most above left).2.2 = 0 := by
  revert h
  unfold boundS
  split
  · simp
  · split
    · simp
    · split
      · simp
      · split
        · simp
        · simp
theorem boundS_left (b : List Int) (most : Nat) (above left : Int) (hl : left ≠ 0) (ha : above ≠ 0) (h : (boundS b 0 most above left).2.1 = 0) : (boundS b 0 most above left).2.2 ≤ (boundS b 0 most above left).1.length := by
  revert h
  unfold boundS
  rw [if_neg (by simp)]
  split
  · intro h; rename_i h1; exact absurd h h1
  · split
    · intro h; exact absurd h ha
    · split
      · intro h; exact absurd h hl
      · rename_i h1 h2 h3
        intro _
        rw [List.length_drop]
        simp only
        have : ¬ b.length - (numberS b).2.1 < (numberS b).1 := fun hh => h3 ⟨hl, hh⟩
        omega
theorem boundS_ok (b : List Int) (e : Int) (most : Nat) (above left : Int) (h : u8Ok b) : u8Ok (boundS b e most above left).1 := by
  unfold boundS
  split
  · exact h
  · split
    · exact h
    · split
      · exact h
      · split
        · exact h
        · exact h.drop _
theorem boundS_len (b : List Int) (e : Int) (most : Nat) (above left : Int) : (boundS b e most above left).1.length ≤ b.length := by
  unfold boundS
  split
  · exact Nat.le_refl _
  · split
    · exact Nat.le_refl _
    · split
      · exact Nat.le_refl _
      · split
        · exact Nat.le_refl _
        · simp only [List.length_drop]; omega
/-- So many bytes taken off. -/
def offS (b : List Int) (e : Int) (n : Nat) : List Int × Int × List Int :=
  if e ≠ 0 then (b, e, []) else if b.length < n then (b, 12, []) else (b.drop n, 0, b.take n)
/-- A truth. -/
def boolS (b : List Int) (e : Int) : List Int × Int × Bool :=
  if e ≠ 0 then (b, e, false) else match b with
    | [] => ([], 12, false)
    | x :: t => if 1 < x then (x :: t, 3, false) else (t, 0, x == 1)
/-- At most so many bytes. -/
def bytesS (b : List Int) (e : Int) (most : Int) : List Int × Int × List Int :=
  if e ≠ 0 then (b, e, []) else if most < 0 then (b, 1, [])
  else offS (boundS b 0 most.toNat 2 12).1 (boundS b 0 most.toNat 2 12).2.1 (boundS b 0 most.toNat 2 12).2.2
/-- The first error, or that bytes are left. -/
def doneS (b : List Int) (e : Int) : Int := if e ≠ 0 then e else if b = [] then 0 else 3
end Go.Proofs.YtcdjbfgkajfnlaaDoor
