/- Layer 10 in plain Lean: what tells a block makes it again. -/
import Derived.Test.YtcdjbfgkajfnlaaDoorDh
namespace Go.Proofs.YtcdjbfgkajfnlaaDoor
open Go.RowKit

theorem numberS_small (m : Nat) (h : m < 128) (r : List Int) : numberS ((m : Int) :: r) = (m, 1, 0) := by
  have h1 : ∀ m : Fin 128, onesOf (m.val : Int) = 0 := by decide +kernel
  have h2 := h1 ⟨m, h⟩
  simp only at h2
  have hb : behindS m = 0 := by
    have := behindS_of_lt m 0 (by omega)
    omega
  have h3 : (m : Int) - headS (onesOf m) = m := by rw [h2]; simp [headS]
  have h4 : beN ((m : Int) - headS (onesOf (m : Int))).toNat (r.take (onesOf (m : Int))) = m := by rw [h3, h2]; simp [beN]
  rw [numberS_yes _ _ (by omega) (by rw [h4, h2]; exact hb), h4, h2]
theorem boundS_small (m : Nat) (h : m < 128) (r : List Int) (most : Nat) (above left : Int) (hm : m ≤ most) (hl : left = 0 ∨ m ≤ r.length) : boundS ((m : Int) :: r) 0 most above left = (r, 0, m) := by
  unfold boundS
  rw [numberS_small m h r]
  simp only [if_neg (show ¬ (0 : Int) ≠ 0 by simp), if_neg (show ¬ most < m by omega), List.length_cons, Nat.add_sub_cancel]
  rw [if_neg (by omega)]
  rfl
theorem dec_copy (f l : Nat) (hf : f ≤ 64) (hl : l ≤ 64) (r : List Int) (ps : List POp) :
    decStep ([1] ++ ([(f : Int)] ++ [(l : Int)]) ++ r, 0, ps) = (r, 0, ps ++ [⟨true, f, l, []⟩]) := by
  refine decStep_copy _ (b1 := (f : Int) :: (l : Int) :: r) (e1 := 0) (b2 := (l : Int) :: r) (e2 := 0) ?_ ?_ ?_
  · simp [boolS]
  · exact boundS_small f (by omega) _ 64 4 0 hf (.inl rfl)
  · exact boundS_small l (by omega) _ 64 4 0 hl (.inl rfl)
theorem dec_told (bs : List Int) (hl : bs.length ≤ 64) (r : List Int) (ps : List POp) :
    decStep ([0] ++ ([(bs.length : Int)] ++ bs) ++ r, 0, ps) = (r, 0, ps ++ [⟨false, 0, 0, bs⟩]) := by
  refine decStep_told _ (b1 := (bs.length : Int) :: (bs ++ r)) (e1 := 0) ?_ ?_
  · simp [boolS]
  · unfold bytesS
    rw [if_neg (by simp), if_neg (by omega), show Int.toNat 64 = 64 from rfl, boundS_small bs.length (by omega) (bs ++ r) 64 2 12 hl (.inr (by simp))]
    unfold offS
    rw [if_neg (by simp), if_neg (by simp)]
    simp
/-- What comes of parts' bytes. -/
structure Fine (o : POp) : Prop where
  copies : o.copy = true → 0 ≤ o.frm ∧ o.frm ≤ 64 ∧ 0 ≤ o.len ∧ o.len ≤ 64 ∧ o.bytes = []
  told : o.copy = false → o.frm = 0 ∧ o.len = 0 ∧ o.bytes.length ≤ 64
theorem dec_op (o : POp) (h : Fine o) (r : List Int) (ps : List POp) : decStep (encOp o ++ r, 0, ps) = (r, 0, ps ++ [o]) := by
  obtain ⟨c, f, l, bs⟩ := o
  cases c
  · obtain ⟨h1, h2, h3⟩ := h.told rfl
    simp only at h1 h2 h3
    subst h1; subst h2
    have := dec_told bs h3 r ps
    unfold encOp
    simp only [Bool.false_eq_true, if_false]
    rw [encN_small _ (by omega)]
    exact this
  · obtain ⟨h1, h2, h3, h4, h5⟩ := h.copies rfl
    simp only at h1 h2 h3 h4 h5
    subst h5
    obtain ⟨f, rfl⟩ := Int.eq_ofNat_of_zero_le h1
    obtain ⟨l, rfl⟩ := Int.eq_ofNat_of_zero_le h3
    have := dec_copy f l (by omega) (by omega) r ps
    unfold encOp
    simp only [if_true]
    rw [encN_small (u64N (f : Int)) (by unfold u64N; omega), encN_small (u64N (l : Int)) (by unfold u64N; omega)]
    have e1 : u64N (f : Int) = f := by unfold u64N; omega
    have e2 : u64N (l : Int) = l := by unfold u64N; omega
    rw [e1, e2]
    exact this
theorem decN_back (l : List POp) (h : ∀ o ∈ l, Fine o) : ∀ j, j ≤ l.length → decN (l.flatMap encOp) 0 j = ((l.drop j).flatMap encOp, 0, l.take j)
  | 0, _ => rfl
  | j + 1, hj => by
    rw [decN, decN_back l h j (by omega)]
    have hd : l.drop j = l[j] :: l.drop (j + 1) := (List.getElem_cons_drop (by omega)).symm
    rw [hd, List.flatMap_cons, dec_op _ (h _ (List.getElem_mem (by omega)))]
    rw [List.take_add_one, List.getElem?_eq_getElem (by omega)]
    rfl
theorem encOp_pos (o : POp) : 1 ≤ (encOp o).length := by simp [encOp]
theorem decS_back (l : List POp) (h : ∀ o ∈ l, Fine o) (hl : l.length ≤ 64) : decS (encOps l) = (l, 0) := by
  have hlen : l.length ≤ (l.flatMap encOp).length := by
    have : ∀ l : List POp, l.length ≤ (l.flatMap encOp).length := by
      intro l
      induction l with
      | nil => simp
      | cons o l ih =>
        have := encOp_pos o
        simp only [List.flatMap_cons, List.length_append, List.length_cons]
        omega
    exact this l
  have hc : boundS (encOps l) 0 64 4 2 = (l.flatMap encOp, 0, l.length) := by
    unfold encOps
    rw [encN_small _ (by omega)]
    exact boundS_small l.length (by omega) _ 64 4 2 hl (.inr hlen)
  have hd := decN_back l h l.length (Nat.le_refl _)
  unfold decS decAll
  rw [hc]
  simp only
  rw [hd]
  simp [doneS]
theorem appL_back (base : List Int) (hb : base.length = 64) : ∀ (l : List POp) (all : List Int), (∀ o ∈ l, partS base o = (partOf base o, 0)) → all.length + (l.flatMap (partOf base)).length = 64 → appL base l all = (all ++ l.flatMap (partOf base), 0)
  | [], all, _, h => by
    have : all.length = 64 := by simpa using h
    simp [appL, this]
  | o :: l, all, hp, h => by
    rw [appL, hp o (by simp)]
    simp only [List.flatMap_cons, List.length_append] at h ⊢
    rw [if_neg (by simp), if_neg (by omega), appL_back base hb l (all ++ partOf base o) (fun o' ho' => hp o' (by simp [ho'])) (by rw [List.length_append]; omega), List.append_assoc]
theorem fine_of {base target : List Int} {a : Nat} {l : List POp} (h : OpsInv base target a l) : ∀ o ∈ l, Fine o := fun o ho =>
  ⟨fun hc => by
    obtain ⟨h1, h2, h3, h4⟩ := h.copies o ho hc
    exact ⟨h1, by omega, by omega, by omega, h4⟩, fun hc => by
    obtain ⟨h1, h2, h3, h4, _⟩ := h.told o ho hc
    exact ⟨h1, h2, h4⟩⟩
theorem part_of {base target : List Int} {a : Nat} {l : List POp} (hb : base.length = 64) (h : OpsInv base target a l) : ∀ o ∈ l, partS base o = (partOf base o, 0) := by
  intro o ho
  unfold partS partOf
  by_cases hc : o.copy = true
  · obtain ⟨h1, h2, h3, h4⟩ := h.copies o ho hc
    rw [if_neg (by simp [hc]), if_pos hc, if_neg (by omega)]
  · have hf : o.copy = false := by simpa using hc
    obtain ⟨_, _, h3, _⟩ := h.told o ho hf
    rw [if_pos hf, if_neg hc, if_neg h3]
/-- DE4: what tells a block by a base makes it of that base. -/
theorem patch_back (base target : List Int) (hb : base.length = 64) (ht : target.length = 64) (l : List POp) (h : OpsInv base target 64 l) : patchS base (encOps l) = (target, 0) := by
  unfold patchS
  rw [decS_back l (fine_of h) h.count]
  simp only
  rw [if_neg (by simp)]
  have hall := h.all
  rw [List.take_of_length_le (by omega)] at hall
  unfold applyS
  rw [appL_back base hb l [] (part_of hb h) (by rw [hall, ht]; rfl), hall]
  rfl
/-- A block by itself is one part. -/
theorem ops_self (b : List Int) (hb : b.length = 64) : opsN b b 1 = (64, [⟨true, 0, 64, []⟩]) := by
  have hm : matchS b b 0 = (0, 64) := by
    refine (matchS_is b b 0).unique (q := (0, 64)) ⟨fun j _ => ?_, .inr ⟨by decide, by decide, ?_, fun j hj => by simp at hj⟩⟩
    · have := comm_le_right (b.drop j) (b.drop 0)
      simpa [hb] using this
    · have := comm_self b
      simpa [hb] using this
  have := opsN_copy (base := b) (target := b) (k := 0) (a := 0) rfl (by decide) (by rw [hm]; decide)
  rw [hm] at this
  exact this
theorem opsN_stay (base target : List Int) (k : Nat) (h : (opsN base target k).1 = 64) : ∀ j, opsN base target (k + j) = opsN base target k
  | 0 => rfl
  | j + 1 => by
    have := opsN_stay base target k h j
    show stepO base target (opsN base target (k + j)) = _
    rw [this]
    unfold stepO
    rw [if_neg (by omega)]
/-- Where the rounds end is one place. -/
theorem opsN_end (base target : List Int) (k k' : Nat) (h : (opsN base target k).1 = 64) (h' : (opsN base target k').1 = 64) : opsN base target k = opsN base target k' := by
  rcases Nat.le_total k k' with hk | hk
  · have := opsN_stay base target k h (k' - k)
    rw [Nat.add_sub_cancel' hk] at this
    exact this.symm
  · have := opsN_stay base target k' h' (k - k')
    rw [Nat.add_sub_cancel' hk] at this
    exact this
end Go.Proofs.YtcdjbfgkajfnlaaDoor
