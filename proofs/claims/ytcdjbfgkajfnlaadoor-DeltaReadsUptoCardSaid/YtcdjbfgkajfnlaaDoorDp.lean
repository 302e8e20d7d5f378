/- Layer 10 in plain Lean: matches, parts, what they make. -/
import Derived.Test.YtcdjbfgkajfnlaaDoorPr
namespace Go.Proofs.YtcdjbfgkajfnlaaDoor
open Go.RowKit

/-- How many bytes two texts begin with alike. -/
def comm : List Int → List Int → Nat
  | x :: a, y :: b => if x = y then comm a b + 1 else 0
  | _, _ => 0
theorem comm_le_left : ∀ a b, comm a b ≤ a.length
  | [], _ => by simp [comm]
  | _ :: _, [] => by simp [comm]
  | x :: a, y :: b => by
    have := comm_le_left a b
    simp only [comm, List.length_cons]
    split <;> omega
theorem comm_le_right : ∀ a b, comm a b ≤ b.length
  | [], _ => by simp [comm]
  | _ :: _, [] => by simp [comm]
  | x :: a, y :: b => by
    have := comm_le_right a b
    simp only [comm, List.length_cons]
    split <;> omega
theorem comm_take : ∀ a b : List Int, a.take (comm a b) = b.take (comm a b)
  | [], b => by simp [comm]
  | _ :: _, [] => by simp [comm]
  | x :: a, y :: b => by
    have := comm_take a b
    simp only [comm]
    split
    · rename_i h
      subst h
      simp [this]
    · simp
theorem comm_ge : ∀ (a b : List Int) (n : Nat), n ≤ a.length → n ≤ b.length → a.take n = b.take n → n ≤ comm a b
  | _, _, 0, _, _, _ => Nat.zero_le _
  | [], _, n + 1, h, _, _ => by simp at h
  | _ :: _, [], n + 1, _, h, _ => by simp at h
  | x :: a, y :: b, n + 1, h, h', e => by
    simp only [List.take_succ_cons, List.cons.injEq] at e
    have := comm_ge a b n (by simpa using h) (by simpa using h') e.2
    simp only [comm, if_pos e.1]
    omega
theorem comm_self : ∀ a, comm a a = a.length
  | [] => rfl
  | x :: a => by simp [comm, comm_self a]
/-- Where the loop stands still. -/
theorem comm_stop : ∀ (a b : List Int) (n : Nat), n ≤ comm a b → (n < a.length → n < b.length → a[n]? ≠ b[n]?) → comm a b = n
  | [], b, n, h, _ => by simp [comm] at *; omega
  | _ :: _, [], n, h, _ => by simp [comm] at *; omega
  | x :: a, y :: b, 0, h, k => by
    have := k (by simp) (by simp)
    simp only [List.getElem?_cons_zero] at this
    simp only [comm]
    rw [if_neg (fun e => this (by rw [e]))]
  | x :: a, y :: b, n + 1, h, k => by
    by_cases e : x = y
    · simp only [comm, if_pos e] at h ⊢
      have := comm_stop a b n (by omega) (fun h1 h2 => by
        have := k (by simp; omega) (by simp; omega)
        simpa using this)
      omega
    · simp only [comm, if_neg e] at h
      omega
theorem comm_step : ∀ (a b : List Int) (n : Nat), n ≤ comm a b → n < a.length → n < b.length → a[n]? = b[n]? → n + 1 ≤ comm a b
  | [], b, n, _, h, _, _ => by simp at h
  | _ :: _, [], n, _, _, h, _ => by simp at h
  | x :: a, y :: b, 0, _, _, _, e => by
    simp only [List.getElem?_cons_zero, Option.some.injEq] at e
    simp only [comm, if_pos e]
    omega
  | x :: a, y :: b, n + 1, h, h1, h2, e => by
    by_cases e' : x = y
    · simp only [comm, if_pos e'] at h ⊢
      have := comm_step a b n (by omega) (by simpa using h1) (by simpa using h2) (by simpa using e)
      omega
    · simp only [comm, if_neg e'] at h
      omega

/-- The best match so far, from place i on. -/
def mstep (base t : List Int) (i : Nat) (p : Nat × Nat) : Nat × Nat := if p.2 < comm (base.drop i) t then (i, comm (base.drop i) t) else p
def mto (base t : List Int) : Nat → Nat × Nat
  | 0 => (0, 0)
  | i + 1 => mstep base t i (mto base t i)
/-- Where a base has the longest text that a block goes on with. -/
def matchS (base target : List Int) (at_ : Nat) : Nat × Nat := mto base (target.drop at_) 64
/-- What a match is. -/
structure IsMatch (base t : List Int) (k : Nat) (p : Nat × Nat) : Prop where
  le : ∀ j, j < k → comm (base.drop j) t ≤ p.2
  at_ : p.2 = 0 ∧ p.1 = 0 ∨ 0 < p.2 ∧ p.1 < k ∧ comm (base.drop p.1) t = p.2 ∧ ∀ j, j < p.1 → comm (base.drop j) t < p.2
theorem mto_is (base t : List Int) : ∀ k, IsMatch base t k (mto base t k)
  | 0 => ⟨fun j hj => by omega, .inl ⟨rfl, rfl⟩⟩
  | k + 1 => by
    have ih := mto_is base t k
    simp only [mto, mstep]
    split
    · rename_i h
      refine ⟨fun j hj => ?_, .inr ⟨by simp only; omega, by simp only; omega, rfl, fun j hj => ?_⟩⟩
      · simp only
        rcases Nat.lt_or_ge j k with h' | h'
        · have := ih.le j h'
          omega
        · obtain rfl : j = k := by omega
          exact Nat.le_refl _
      · simp only at hj ⊢
        have := ih.le j hj
        omega
    · rename_i h
      refine ⟨fun j hj => ?_, ?_⟩
      · rcases Nat.lt_or_ge j k with h' | h'
        · exact ih.le j h'
        · obtain rfl : j = k := by omega
          omega
      · rcases ih.at_ with h1 | ⟨h1, h2, h3⟩
        · exact .inl h1
        · exact .inr ⟨h1, by omega, h3⟩
theorem IsMatch.unique {base t : List Int} {k : Nat} {p q : Nat × Nat} (h : IsMatch base t k p) (h' : IsMatch base t k q) : p = q := by
  have e2 : p.2 = q.2 := by
    rcases h.at_ with ⟨h1, _⟩ | ⟨h1, h2, h3, _⟩
    · rcases h'.at_ with ⟨k1, _⟩ | ⟨k1, k2, k3, _⟩
      · omega
      · have := h.le q.1 k2; omega
    · rcases h'.at_ with ⟨k1, _⟩ | ⟨k1, k2, k3, _⟩
      · have := h'.le p.1 h2; omega
      · have := h.le q.1 k2
        have := h'.le p.1 h2
        omega
  have e1 : p.1 = q.1 := by
    rcases h.at_ with ⟨h1, h2⟩ | ⟨h1, h2, h3, h4⟩
    · rcases h'.at_ with ⟨k1, k2⟩ | ⟨k1, k2, k3, _⟩
      · omega
      · omega
    · rcases h'.at_ with ⟨k1, k2⟩ | ⟨k1, k2, k3, k4⟩
      · omega
      · rcases Nat.lt_trichotomy p.1 q.1 with hlt | heq | hgt
        · have := k4 _ hlt; omega
        · exact heq
        · have := h4 _ hgt; omega
  exact Prod.ext e1 e2
theorem matchS_is (base target : List Int) (a : Nat) : IsMatch base (target.drop a) 64 (matchS base target a) := mto_is _ _ _
theorem IsMatch.le_left {base t : List Int} {k : Nat} {p : Nat × Nat} (h : IsMatch base t k p) : p.1 + p.2 ≤ max base.length 0 ∨ p.2 = 0 := by
  rcases h.at_ with ⟨h1, _⟩ | ⟨_, _, h3, _⟩
  · exact .inr h1
  · have := comm_le_left (base.drop p.1) t
    rw [List.length_drop] at this
    omega
theorem IsMatch.le_right {base t : List Int} {k : Nat} {p : Nat × Nat} (h : IsMatch base t k p) : p.2 ≤ t.length := by
  rcases h.at_ with ⟨h1, _⟩ | ⟨_, _, h3, _⟩
  · omega
  · have := comm_le_right (base.drop p.1) t
    omega
end Go.Proofs.YtcdjbfgkajfnlaaDoor
