/- Layer 10 in plain Lean: the parts that tell a block. -/
import Derived.Test.YtcdjbfgkajfnlaaDoorDp
namespace Go.Proofs.YtcdjbfgkajfnlaaDoor
open Go.RowKit

/-- A part of a block. -/
structure POp where
  copy : Bool
  frm : Int
  len : Int
  bytes : List Int
/-- One byte told more. -/
def pushB (l : List POp) (x : Int) : List POp :=
  match l.getLast? with
  | some o => if o.copy then l ++ [⟨false, 0, 0, [x]⟩] else l.dropLast ++ [{ o with bytes := o.bytes ++ [x] }]
  | none => [⟨false, 0, 0, [x]⟩]
theorem pushB_nil (x : Int) : pushB [] x = [⟨false, 0, 0, [x]⟩] := rfl
theorem pushB_copy (l : List POp) (o : POp) (x : Int) (h : o.copy = true) : pushB (l ++ [o]) x = (l ++ [o]) ++ [⟨false, 0, 0, [x]⟩] := by simp [pushB, h]
theorem pushB_lit (l : List POp) (o : POp) (x : Int) (h : o.copy = false) : pushB (l ++ [o]) x = l ++ [{ o with bytes := o.bytes ++ [x] }] := by simp [pushB, h]
def copyOp (p : Nat × Nat) : POp := ⟨true, p.1, p.2, []⟩
/-- One round. -/
def stepO (base target : List Int) (s : Nat × List POp) : Nat × List POp :=
  if s.1 < 64 then
    if 4 ≤ (matchS base target s.1).2 then (s.1 + (matchS base target s.1).2, s.2 ++ [copyOp (matchS base target s.1)])
    else (s.1 + 1, pushB s.2 (target.getD s.1 0))
  else s
def opsN (base target : List Int) : Nat → Nat × List POp
  | 0 => (0, [])
  | k + 1 => stepO base target (opsN base target k)
/-- What a part is of a base. -/
def partOf (base : List Int) (o : POp) : List Int := if o.copy then (base.drop o.frm.toNat).take o.len.toNat else o.bytes
/-- How many bytes a part has when it is told (numbers below 128 have one byte). -/
def costOf (o : POp) : Nat := if o.copy then 3 else o.bytes.length + 2
structure OpsInv (base target : List Int) (a : Nat) (l : List POp) : Prop where
  le : a ≤ 64
  all : l.flatMap (partOf base) = target.take a
  copies : ∀ o ∈ l, o.copy = true → 0 ≤ o.frm ∧ 4 ≤ o.len ∧ o.frm + o.len ≤ 64 ∧ o.bytes = []
  told : ∀ o ∈ l, o.copy = false → o.frm = 0 ∧ o.len = 0 ∧ o.bytes ≠ [] ∧ o.bytes.length ≤ 64 ∧ u8Ok o.bytes
  alt : ∀ p q r s, l = p ++ [q, r] ++ s → q.copy = true ∨ r.copy = true
  count : l.length ≤ a
  cost : (l.map costOf).sum ≤ 2 * a + (if (l.getLast?.map POp.copy) = some false then 1 else 0)
theorem OpsInv.start (base target : List Int) : OpsInv base target 0 [] := by
  refine ⟨by omega, rfl, fun o ho => (by cases ho), fun o ho => (by cases ho), fun p q r s h => ?_, Nat.le_refl _, by simp⟩
  simp at h
theorem alt_snoc {l : List POp} {o : POp} (h : ∀ p q r s, l = p ++ [q, r] ++ s → q.copy = true ∨ r.copy = true) (hl : o.copy = true ∨ ∀ x, l.getLast? = some x → x.copy = true) :
    ∀ p q r s, l ++ [o] = p ++ [q, r] ++ s → q.copy = true ∨ r.copy = true := by
  intro p q r s he
  rcases List.eq_nil_or_concat s with hs | ⟨s', x, hs⟩
  · subst hs
    have h1 : l ++ [o] = (p ++ [q]) ++ [r] := by simpa using he
    obtain ⟨e1, e2⟩ := List.append_inj' h1 rfl
    simp only [List.cons.injEq, and_true] at e2
    subst e2
    rcases hl with hl | hl
    · exact .inr hl
    · exact .inl (hl q (by rw [e1]; simp))
  · subst hs
    have h1 : l ++ [o] = (p ++ [q, r] ++ s') ++ [x] := by simpa using he
    obtain ⟨e1, _⟩ := List.append_inj' h1 rfl
    exact h p q r s' e1
theorem take_snoc_getD (t : List Int) (a : Nat) (h : a < t.length) : t.take (a + 1) = t.take a ++ [t.getD a 0] := by
  rw [List.take_add_one, List.getElem?_eq_getElem h, List.getD_eq_getElem?_getD, List.getElem?_eq_getElem h]
  rfl
theorem OpsInv.step {base target : List Int} (hb : base.length = 64) (ht : target.length = 64) (ht8 : u8Ok target) {s : Nat × List POp} (h : OpsInv base target s.1 s.2) : OpsInv base target (stepO base target s).1 (stepO base target s).2 := by
  obtain ⟨a, l⟩ := s
  simp only at h
  unfold stepO
  simp only
  by_cases ha : a < 64
  · rw [if_pos ha]
    have hm := matchS_is base target a
    generalize matchS base target a = p at hm
    by_cases h4 : 4 ≤ p.2
    · rw [if_pos h4]
      simp only
      have hr := hm.le_right
      rw [List.length_drop, ht] at hr
      rcases hm.at_ with ⟨h0, _⟩ | ⟨h1, h2, h3, _⟩
      · omega
      have hl := comm_le_left (base.drop p.1) (target.drop a)
      rw [List.length_drop, hb, h3] at hl
      have hpart : partOf base (copyOp p) = (target.drop a).take p.2 := by
        have := comm_take (base.drop p.1) (target.drop a)
        rw [h3] at this
        simpa [partOf, copyOp] using this
      refine ⟨by omega, ?_, fun o ho hc => ?_, fun o ho hc => ?_, alt_snoc h.alt (.inl rfl), ?_, ?_⟩
      · rw [List.flatMap_append, h.all, List.flatMap_cons, List.flatMap_nil, List.append_nil, hpart, List.take_add]
      · rcases List.mem_append.1 ho with ho | ho
        · exact h.copies o ho hc
        · simp only [List.mem_singleton] at ho
          subst ho
          refine ⟨?_, ?_, ?_, rfl⟩ <;> simp only [copyOp] <;> omega
      · rcases List.mem_append.1 ho with ho | ho
        · exact h.told o ho hc
        · simp only [List.mem_singleton] at ho
          subst ho
          simp [copyOp] at hc
      · have := h.count
        simp only [List.length_append, List.length_singleton]
        omega
      · have hc := h.cost
        have h3 : costOf (copyOp p) = 3 := rfl
        simp only [List.map_append, List.sum_append, List.map_cons, List.map_nil, List.sum_cons, List.sum_nil, h3]
        split at hc <;> omega
    · rw [if_neg h4]
      simp only
      have hx : 0 ≤ target.getD a 0 ∧ target.getD a 0 ≤ 255 := ht8.getD a
      have htk := take_snoc_getD target a (by omega)
      generalize target.getD a 0 = x at hx htk
      have hx8 : u8Ok [x] := fun y hy => by simp only [List.mem_singleton] at hy; subst hy; exact hx
      have new : ∀ l : List POp, OpsInv base target a l → (∀ o, l.getLast? = some o → o.copy = true) → OpsInv base target (a + 1) (l ++ [⟨false, 0, 0, [x]⟩]) := by
        intro l h hlast
        refine ⟨by omega, ?_, fun o ho hc => ?_, fun o ho hc => ?_, alt_snoc h.alt (.inr hlast), ?_, ?_⟩
        · rw [List.flatMap_append, h.all, htk]
          simp [partOf]
        · rcases List.mem_append.1 ho with ho | ho
          · exact h.copies o ho hc
          · simp only [List.mem_singleton] at ho
            subst ho
            simp at hc
        · rcases List.mem_append.1 ho with ho | ho
          · exact h.told o ho hc
          · simp only [List.mem_singleton] at ho
            subst ho
            exact ⟨rfl, rfl, by simp, by simp, hx8⟩
        · have := h.count
          simp only [List.length_append, List.length_singleton]
          omega
        · have hc := h.cost
          have hn : ¬ (l.getLast?.map POp.copy = some false) := by
            cases hq : l.getLast? with
            | none => simp
            | some o => simp [hlast o hq]
          rw [if_neg hn] at hc
          simp only [List.map_append, List.sum_append, List.map_cons, List.map_nil, List.sum_cons, List.sum_nil, costOf]
          simp
          omega
      rcases List.eq_nil_or_concat l with hl | ⟨l', o, hl⟩
      · subst hl
        have := new [] h (fun o ho => by simp at ho)
        simpa [pushB] using this
      · rw [List.concat_eq_append] at hl
        subst hl
        by_cases hc : o.copy = true
        · rw [pushB_copy _ _ _ hc]
          exact new _ h (fun o' ho' => by simp at ho'; rw [← ho']; exact hc)
        · have hcf : o.copy = false := by simpa using hc
          rw [pushB_lit _ _ _ hcf]
          have hold := h.told o (by simp) hcf
          have hall := h.all
          rw [List.flatMap_append] at hall
          simp only [List.flatMap_cons, List.flatMap_nil, List.append_nil, partOf, hcf] at hall
          simp at hall
          have hlen := congrArg List.length hall
          rw [List.length_append, List.length_take, ht] at hlen
          refine ⟨by omega, ?_, fun o' ho hc' => ?_, fun o' ho hc' => ?_, ?_, ?_, ?_⟩
          · rw [List.flatMap_append, htk, ← hall]
            simp [partOf, hcf]
          · rcases List.mem_append.1 ho with ho | ho
            · exact h.copies o' (by simp [ho]) hc'
            · simp only [List.mem_singleton] at ho
              subst ho
              simp [hcf] at hc'
          · rcases List.mem_append.1 ho with ho | ho
            · exact h.told o' (by simp [ho]) hc'
            · simp only [List.mem_singleton] at ho
              subst ho
              refine ⟨hold.1, hold.2.1, by simp, ?_, hold.2.2.2.2.append hx8⟩
              simp only [List.length_append, List.length_singleton]
              omega
          · have h1 : ∀ p q r s, l' = p ++ [q, r] ++ s → q.copy = true ∨ r.copy = true := fun p q r s e => h.alt p q r (s ++ [o]) (by rw [e]; simp)
            refine alt_snoc h1 (.inr fun y hy => ?_)
            rcases List.eq_nil_or_concat l' with hl' | ⟨l2, z, hl'⟩
            · subst hl'; simp at hy
            · rw [List.concat_eq_append] at hl'
              subst hl'
              simp at hy
              subst hy
              rcases h.alt l2 z o [] (by simp) with h2 | h2
              · exact h2
              · rw [hcf] at h2; cases h2
          · have := h.count
            simp only [List.length_append, List.length_singleton] at this ⊢
            omega
          · have hq := h.cost
            simp only [List.map_append, List.sum_append, List.map_cons, List.map_nil, List.sum_cons, List.sum_nil, costOf, hcf] at hq ⊢
            simp [hcf] at hq ⊢
            omega
  · rw [if_neg ha]
    exact h
theorem opsN_inv (base target : List Int) (hb : base.length = 64) (ht : target.length = 64) (ht8 : u8Ok target) : ∀ k, OpsInv base target (opsN base target k).1 (opsN base target k).2
  | 0 => OpsInv.start _ _
  | k + 1 => (opsN_inv base target hb ht ht8 k).step hb ht ht8
theorem opsN_copy {base target : List Int} {k a : Nat} (h : (opsN base target k).1 = a) (ha : a < 64) (h4 : 4 ≤ (matchS base target a).2) :
    opsN base target (k + 1) = (a + (matchS base target a).2, (opsN base target k).2 ++ [copyOp (matchS base target a)]) := by
  subst h
  simp only [opsN, stepO]
  rw [if_pos ha, if_pos h4]
theorem opsN_lit {base target : List Int} {k a : Nat} (h : (opsN base target k).1 = a) (ha : a < 64) (h4 : ¬ 4 ≤ (matchS base target a).2) :
    opsN base target (k + 1) = (a + 1, pushB (opsN base target k).2 (target.getD a 0)) := by
  subst h
  simp only [opsN, stepO]
  rw [if_pos ha, if_neg h4]
end Go.Proofs.YtcdjbfgkajfnlaaDoor
