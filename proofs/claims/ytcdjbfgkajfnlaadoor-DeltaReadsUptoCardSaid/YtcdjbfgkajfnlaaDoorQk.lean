/- Layers 2 and 10 in plain Lean: what is taken off bytes is told by the same bytes again. -/
import Derived.Test.YtcdjbfgkajfnlaaDoorDd
namespace Go.Proofs.YtcdjbfgkajfnlaaDoor
open Go.RowKit

theorem tailB_next (N k i : Nat) (c : Nat) (hc : c < 256) (hi : i < k) : tailB (N * 256 + c) (k + 1) i = tailB N k i := by
  unfold tailB
  have e : 8 * (k + 1 - 1 - i) = 8 * (k - 1 - i) + 8 := by omega
  rw [e, Nat.pow_add, Nat.mul_comm (2 ^ (8 * (k - 1 - i))), ← Nat.div_div_eq_div_mul]
  have : (N * 256 + c) / 2 ^ 8 = N := by omega
  rw [this]
theorem beN_digits (N0 : Nat) : ∀ l : List Int, u8Ok l → (List.range l.length).map (tailB (beN N0 l) l.length) = l ∧ beN N0 l / 2 ^ (8 * l.length) = N0 := by
  intro l
  induction hn : l.length generalizing l with
  | zero =>
    intro _
    obtain rfl := List.eq_nil_of_length_eq_zero hn
    simp [beN]
  | succ k ih =>
    intro h8
    obtain ⟨t, c, rfl⟩ : ∃ t c, l = t ++ [c] := by
      have hne : l ≠ [] := by rintro rfl; simp at hn
      exact ⟨l.dropLast, l.getLast hne, (List.dropLast_concat_getLast hne).symm⟩
    have hk : t.length = k := by simpa using hn
    have ht8 : u8Ok t := fun x hx => h8 x (by simp [hx])
    have hc := h8 c (by simp)
    obtain ⟨i1, i2⟩ := ih t hk ht8
    obtain ⟨m, rfl⟩ := Int.eq_ofNat_of_zero_le hc.1
    rw [beN_snoc, Int.toNat_natCast]
    constructor
    · rw [List.range_succ, List.map_append]
      congr 1
      · have e : (List.range k).map (tailB (beN N0 t * 256 + m) (k + 1)) = (List.range k).map (tailB (beN N0 t) k) := by
          apply List.map_congr_left
          intro i hi
          exact tailB_next _ _ _ _ (by omega) (List.mem_range.1 hi)
        rw [e, i1]
      · simp only [List.map_cons, List.map_nil, List.cons.injEq, and_true]
        unfold tailB
        simp
        omega
    · rw [show 8 * (k + 1) = 8 + 8 * k by omega, Nat.pow_add, ← Nat.div_div_eq_div_mul]
      have : (beN N0 t * 256 + m) / 2 ^ 8 = beN N0 t := by omega
      rw [this, i2]
/-- A number that was taken off is told by the bytes that were taken. -/
theorem numberS_told (b : List Int) (h8 : u8Ok b) (h : (numberS b).2.2 = 0) : b = encN (numberS b).1 ++ b.drop (numberS b).2.1 := by
  rcases b with _ | ⟨b0, t⟩
  · simp [numberS] at h
  · have hb := h8 b0 (by simp)
    have ht8 : u8Ok t := fun x hx => h8 x (by simp [hx])
    obtain ⟨k, hk⟩ : ∃ k, k = onesOf b0 := ⟨_, rfl⟩
    obtain ⟨N0, hN0⟩ : ∃ N0, N0 = (b0 - headS k).toNat := ⟨_, rfl⟩
    have hst := strip_int b0 hb.1 hb.2
    rw [← hk] at hst
    have hk8 : k ≤ 8 := by rw [hk]; exact onesOf_le b0
    by_cases h1 : t.length < onesOf b0
    · simp [numberS, h1] at h
    · by_cases h2 : behindS (beN (b0 - headS (onesOf b0)).toNat (t.take (onesOf b0))) = onesOf b0
      · rw [numberS_yes b0 t h1 h2]
        simp only
        rw [← hk] at h1 h2 ⊢
        rw [← hN0] at h2 ⊢
        have hl : (t.take k).length = k := by rw [List.length_take]; omega
        have hd := beN_digits N0 (t.take k) (ht8.take k)
        rw [hl] at hd
        have hfirst : firstB (beN N0 (t.take k)) k = b0 := by
          unfold firstB
          rw [hd.2]
          have hp : (2 : Nat) ^ (7 - k) ≤ 2 ^ 7 := Nat.pow_le_pow_right (by decide) (by omega)
          have hpi : ((2 : Int) ^ (7 - k)) = ((2 ^ (7 - k) : Nat) : Int) := by simp
          rw [hpi] at hst
          split
          · omega
          · obtain rfl : k = 8 := by omega
            have : headS 8 = 255 := by decide
            omega
        unfold encN
        rw [h2, hfirst, hd.1, List.drop_succ_cons, List.cons_append, List.take_append_drop]
      · rw [numberS_no b0 t h1 h2] at h
        simp at h
theorem boundS_told (b : List Int) (e : Int) (most : Nat) (above left : Int) (h8 : u8Ok b) (ha : above ≠ 0) (h : (boundS b e most above left).2.1 = 0) :
    e = 0 ∧ b = encN (boundS b e most above left).2.2 ++ (boundS b e most above left).1 ∧ (boundS b e most above left).2.2 ≤ most := by
  have hle := boundS_le b e most above left
  refine ⟨?_, ?_, hle⟩
  · rcases Decidable.em (e = 0) with he | he
    · exact he
    · rw [boundS_stuck _ _ _ _ _ he] at h
      exact absurd h he
  · unfold boundS at h ⊢
    split at h
    · rename_i he; exact absurd h he
    · rename_i he
      split at h
      · rename_i hn; exact absurd h hn
      · rename_i hn
        rw [if_neg he, if_neg hn]
        split at h
        · exact absurd h ha
        · rename_i hm
          rw [if_neg hm]
          split at h
          · rename_i hl; exact absurd h hl.1
          · rename_i hl
            rw [if_neg hl]
            exact numberS_told b h8 (by simpa using hn)
theorem boolS_told (b : List Int) (e : Int) (h8 : u8Ok b) (h : (boolS b e).2.1 = 0) : e = 0 ∧ b = [if (boolS b e).2.2 then 1 else 0] ++ (boolS b e).1 := by
  unfold boolS at h ⊢
  split at h
  · rename_i he; exact absurd h he
  · rename_i he
    rw [if_neg he]
    refine ⟨by simpa using he, ?_⟩
    rcases b with _ | ⟨x, t⟩
    · simp at h
    · simp only at h ⊢
      split at h
      · simp at h
      · rename_i hx
        have := h8 x (by simp)
        by_cases h1 : x = 1
        · simp [h1]
        · simp [h1, hx]; omega
theorem bytesS_told (b : List Int) (e most : Int) (h8 : u8Ok b) (h : (bytesS b e most).2.1 = 0) : e = 0 ∧ b = encN (bytesS b e most).2.2.length ++ (bytesS b e most).2.2 ++ (bytesS b e most).1 ∧ ((bytesS b e most).2.2.length : Int) ≤ most := by
  unfold bytesS at h ⊢
  split at h
  · rename_i he; exact absurd h he
  · rename_i he
    split at h
    · simp at h
    · rename_i hm
      rw [if_neg he, if_neg hm]
      unfold offS at h ⊢
      split at h
      · rename_i h1; exact absurd h h1
      · rename_i h1
        split at h
        · simp at h
        · rename_i h2
          rw [if_neg h1, if_neg h2]
          have hb := boundS_told b 0 most.toNat 2 12 h8 (by decide) (by simpa using h1)
          simp only
          have hl : ((boundS b 0 most.toNat 2 12).1.take (boundS b 0 most.toNat 2 12).2.2).length = (boundS b 0 most.toNat 2 12).2.2 := by rw [List.length_take]; omega
          refine ⟨by simpa using he, ?_, ?_⟩
          · rw [hl, List.append_assoc, List.take_append_drop]
            exact hb.2.1
          · rw [hl]; omega
theorem decStep_told_back (b : List Int) (e : Int) (l : List POp) (h8 : u8Ok b) (h : (decStep (b, e, l)).2.1 = 0) :
    e = 0 ∧ ∃ o, (decStep (b, e, l)).2.2 = l ++ [o] ∧ b = encOp o ++ (decStep (b, e, l)).1 := by
  obtain ⟨⟨b1, e1, c⟩, hq⟩ : ∃ q, q = boolS b e := ⟨_, rfl⟩
  have hbool := boolS_told b e h8
  rw [← hq] at hbool
  simp only at hbool
  cases c
  · obtain ⟨⟨b2, e2, xs⟩, hq1⟩ : ∃ q, q = bytesS b1 e1 64 := ⟨_, rfl⟩
    have hs := decStep_told (b, e, l) hq.symm hq1.symm
    rw [hs] at h ⊢
    simp only at h ⊢
    subst h
    have h8' : u8Ok b1 := by
      by_cases he1 : e1 = 0
      · have := (hbool he1).2
        intro x hx
        exact h8 x (by rw [this]; simp [hx])
      · exfalso
        have : bytesS b1 e1 64 = (b1, e1, []) := by unfold bytesS; rw [if_pos he1]
        rw [this] at hq1
        simp only [Prod.mk.injEq] at hq1
        exact he1 hq1.2.1.symm
    have hby := bytesS_told b1 e1 64 h8' (by rw [← hq1])
    rw [← hq1] at hby
    simp only at hby
    obtain ⟨e0, h2⟩ := hbool hby.1
    refine ⟨e0, _, rfl, ?_⟩
    rw [h2, hby.2.1]
    simp [encOp]
  · obtain ⟨⟨b2, e2, x⟩, hq1⟩ : ∃ q, q = boundS b1 e1 64 4 0 := ⟨_, rfl⟩
    obtain ⟨⟨b3, e3, y⟩, hq2⟩ : ∃ q, q = boundS b2 e2 64 4 0 := ⟨_, rfl⟩
    have hs := decStep_copy (b, e, l) hq.symm hq1.symm hq2.symm
    rw [hs] at h ⊢
    simp only at h ⊢
    subst h
    have he2 : e2 = 0 := by
      rcases Decidable.em (e2 = 0) with h | h
      · exact h
      · exfalso
        rw [boundS_stuck _ _ _ _ _ h] at hq2
        simp only [Prod.mk.injEq] at hq2
        exact h hq2.2.1.symm
    have he1 : e1 = 0 := by
      rcases Decidable.em (e1 = 0) with h | h
      · exact h
      · exfalso
        rw [boundS_stuck _ _ _ _ _ h] at hq1
        simp only [Prod.mk.injEq] at hq1
        exact h (hq1.2.1.symm.trans he2)
    obtain ⟨e0, h2⟩ := hbool he1
    have h81 : u8Ok b1 := fun z hz => h8 z (by rw [h2]; simp [hz])
    have hB1 := boundS_told b1 e1 64 4 0 h81 (by decide) (by rw [← hq1]; exact he2)
    rw [← hq1] at hB1
    simp only at hB1
    have h82 : u8Ok b2 := fun z hz => h81 z (by rw [hB1.2.1]; simp [hz])
    have hB2 := boundS_told b2 e2 64 4 0 h82 (by decide) (by rw [← hq2])
    rw [← hq2] at hB2
    simp only at hB2
    refine ⟨e0, _, rfl, ?_⟩
    have ux : u64N (x : Int) = x := by unfold u64N; omega
    have uy : u64N (y : Int) = y := by unfold u64N; omega
    rw [h2, hB1.2.1, hB2.2.1]
    simp [encOp, ux, uy]
theorem decN_told_back (b : List Int) (e : Int) (h8 : u8Ok b) : ∀ j, (decN b e j).2.1 = 0 → e = 0 ∧ b = (decN b e j).2.2.flatMap encOp ++ (decN b e j).1
  | 0, h => ⟨h, rfl⟩
  | j + 1, h => by
    have ih := decN_told_back b e h8 j
    obtain ⟨⟨b1, e1, l1⟩, hq⟩ : ∃ q, q = decN b e j := ⟨_, rfl⟩
    rw [decN, ← hq] at h ⊢
    rw [← hq] at ih
    simp only at ih
    by_cases he1 : e1 = 0
    · obtain ⟨h0, hb⟩ := ih he1
      have h81 : u8Ok b1 := fun z hz => h8 z (by rw [hb]; simp [hz])
      obtain ⟨_, o, h1, h2⟩ := decStep_told_back b1 e1 l1 h81 h
      refine ⟨h0, ?_⟩
      rw [h1, List.flatMap_append, List.append_assoc]
      simp only [List.flatMap_cons, List.flatMap_nil, List.append_nil]
      rw [← h2]
      exact hb
    · exfalso
      have hbs : boolS b1 e1 = (b1, e1, false) := by unfold boolS; rw [if_pos he1]
      have hby : bytesS b1 e1 64 = (b1, e1, []) := by unfold bytesS; rw [if_pos he1]
      rw [decStep_told (b1, e1, l1) hbs hby] at h
      exact he1 h
/-- The parts of bytes are told by the same bytes. -/
theorem codes_back (b : List Int) (h8 : u8Ok b) (h : (decS b).2 = 0) : encOps (decS b).1 = b := by
  unfold decS at h ⊢
  split at h
  · rename_i hd
    rw [if_pos hd]
    simp only
    unfold decAll at hd ⊢
    obtain ⟨⟨b1, e1, N⟩, hq⟩ : ∃ q, q = boundS b 0 64 4 2 := ⟨_, rfl⟩
    have hB := boundS_told b 0 64 4 2 h8 (by decide)
    rw [← hq] at hd hB ⊢
    simp only at hd hB ⊢
    have hz : (decN b1 e1 N).2.1 = 0 ∧ (decN b1 e1 N).1 = [] := by
      unfold doneS at hd
      split at hd
      · rename_i h1; exact absurd hd h1
      · rename_i h1
        split at hd
        · rename_i h2; exact ⟨by simpa using h1, h2⟩
        · simp at hd
    have he1 : e1 = 0 := by
      rcases Decidable.em (e1 = 0) with h' | h'
      · exact h'
      · exfalso
        have : ∀ j, (decN b1 e1 j).2.1 = e1 ∧ (decN b1 e1 j).1 = b1 := by
          intro j
          induction j with
          | zero => exact ⟨rfl, rfl⟩
          | succ j ih =>
            obtain ⟨⟨b3, e3, l3⟩, hq3⟩ : ∃ q, q = decN b1 e1 j := ⟨_, rfl⟩
            rw [← hq3] at ih
            simp only at ih
            obtain ⟨rfl, rfl⟩ := ih
            rw [decN, ← hq3]
            have hbs : boolS b3 e3 = (b3, e3, false) := by unfold boolS; rw [if_pos h']
            have hby : bytesS b3 e3 64 = (b3, e3, []) := by unfold bytesS; rw [if_pos h']
            rw [decStep_told (b3, e3, l3) hbs hby]
            exact ⟨rfl, rfl⟩
        exact h' ((this N).1.symm.trans hz.1)
    obtain ⟨_, hb, _⟩ := hB he1
    have h81 : u8Ok b1 := fun z hz => h8 z (by rw [hb]; simp [hz])
    have hL := decN_told_back b1 e1 h81 N hz.1
    have hlen := decN_len b1 e1 N
    unfold encOps
    rw [hlen]
    have := hL.2
    rw [hz.2, List.append_nil] at this
    rw [← this]
    exact hb.symm
  · simp at h
end Go.Proofs.YtcdjbfgkajfnlaaDoor
