/- Layer 10 in plain Lean: a block by a base that shares nothing with it is told whole; 256 flags in memory. -/
import Derived.Test.YtcdjbfgkajfnlaaLc
namespace Go.Proofs.Ytcdjbfgkajfnlaa
open Go.RowKit

theorem all_in : ∀ (n : Nat) (l : List Int), (∀ x : Nat, x < n → (x : Int) ∈ l) → n ≤ l.length
  | 0, _, _ => Nat.zero_le _
  | n + 1, l, h => by
    have h1 := h n (by omega)
    have := all_in n (l.erase (n : Int)) (fun x hx => (List.mem_erase_of_ne (by omega)).2 (h x (by omega)))
    rw [List.length_erase_of_mem h1] at this
    have := List.length_pos_of_mem h1
    omega
/-- A number that a block has not. -/
theorem missing (l : List Int) (n : Nat) (h : l.length < n) : ∃ x : Nat, x < n ∧ (x : Int) ∉ l :=
  Classical.byContradiction fun hn => by
    have := all_in n l (fun x hx => Classical.byContradiction fun hm => hn ⟨x, hx, hm⟩)
    omega
theorem comm_none (x : Int) : ∀ (m : Nat) (l : List Int), x ∉ l → comm (List.replicate m x) l = 0
  | 0, _, _ => by simp [comm]
  | m + 1, [], _ => by simp [comm, List.replicate_succ]
  | m + 1, y :: l, h => by
    rw [List.replicate_succ, comm, if_neg (by intro e; exact h (by simp [e]))]
theorem match_none {x : Int} {b : List Int} (hx : x ∉ b) (a : Nat) : matchS (List.replicate 64 x) b a = (0, 0) := by
  refine (matchS_is _ b a).unique ⟨fun j hj => ?_, .inl ⟨rfl, rfl⟩⟩
  rw [List.drop_replicate, comm_none x _ _ (fun h => hx (List.mem_of_mem_drop h))]
  exact Nat.le_refl _
theorem ops_none {x : Int} {b : List Int} (hb : b.length = 64) (hx : x ∉ b) : ∀ k, k + 1 ≤ 64 → opsN (List.replicate 64 x) b (k + 1) = (k + 1, [⟨false, 0, 0, b.take (k + 1)⟩])
  | 0, _ => by
    rw [opsN_lit (a := 0) rfl (by omega) (by rw [match_none hx]; decide), take_snoc_getD b 0 (by omega)]
    rfl
  | k + 1, h => by
    have ih := ops_none hb hx k (by omega)
    rw [opsN_lit (a := k + 1) (by rw [ih]) (by omega) (by rw [match_none hx]; decide), ih, take_snoc_getD b (k + 1) (by omega)]
    have := pushB_lit [] ⟨false, 0, 0, b.take (k + 1)⟩ (b.getD (k + 1) 0) rfl
    simp only [List.nil_append] at this
    rw [this]
theorem ops_whole {x : Int} {b : List Int} (hb : b.length = 64) (hx : x ∉ b) {k : Nat} (h : (opsN (List.replicate 64 x) b k).1 = 64) : (opsN (List.replicate 64 x) b k).2 = [⟨false, 0, 0, b⟩] := by
  have := ops_none hb hx 63 (by omega)
  rw [opsN_end _ _ k 64 h (by rw [this]), this, List.take_of_length_le (by omega)]
/-- Flags as cells. -/
def flags (f : Nat → Bool) (n : Nat) : Array Value := ((List.range n).map fun j => .bool (f j)).toArray
theorem flags_size (f : Nat → Bool) (n : Nat) : (flags f n).size = n := by simp [flags]
theorem flags_get (f : Nat → Bool) (n j : Nat) (h : j < n) : (flags f n)[j]? = some (.bool (f j)) := by simp [flags, h]
theorem flags_set (f : Nat → Bool) (n x : Nat) (f' : Nat → Bool) (h : ∀ j, f' j = if j = x then true else f j) : (flags f n).setIfInBounds x (.bool true) = flags f' n := by
  apply Array.ext_getElem?
  intro j
  rw [Array.getElem?_setIfInBounds]
  by_cases hj : j < n
  · rw [flags_get f' n j hj, flags_get f n j hj, flags_size, h]
    by_cases e : x = j
    · subst e; simp [hj]
    · simp [e]
      exact fun e' => absurd e'.symm e
  · have h1 : (flags f n)[j]? = none := by simp [flags]; omega
    have h2 : (flags f' n)[j]? = none := by simp [flags]; omega
    rw [h1, h2, flags_size]
    split <;> simp; omega
theorem flags_zero : (Try.prog.info? 39).map (·.zero) = some (some (.agg (flags (fun _ => false) 256))) := by kernel_rfl
theorem wpList_alloc_block {P : Program} {ops : Array Oper} {rest : List Oper} {o : Oper} {a : Act} {w : World} {Q : Exit → Act → World → Prop} (hgd : o.guard = none) (ty : TypeId) (ho : o.op = .alloc ty) (cs : Array Value)
    (hi : (P.info? ty).map (·.zero) = some (some (.agg cs))) (h : wpList P ops Q rest (a.put o.dst (.pointer (some ⟨w.heap.size, 0, none⟩))) (w.alloc (.cells cs ty))) : wpList P ops Q (o :: rest) a w := by
  refine wpList_plain hgd fun K hK => ?_
  obtain ⟨i0, hi0, hz⟩ := Option.map_eq_some_iff.1 hi
  have hrun : (Instr.alloc ty true (.tuple #[])).run P w = .ok (.pointer (some ⟨w.heap.size, 0, none⟩)) (w.alloc (.cells cs ty)) := by
    simp [Instr.alloc, zeroValue, typeInfo, hi0, hz, newVar, Value.cells, Go.newRow]
  unfold Oper.wp execOp
  simp only [ho, hrun, Sem.run_bind, Sem.run_pure, Result.andThen_ok]
  exact hK _ _ h
theorem BlkB.set_ {W : World} {g : Nat} {xs : List Int} (h : BlkB W g xs) (i : Nat) (x : Int) (hx : 0 ≤ x ∧ x ≤ 255) : BlkB (W.setCell ⟨g, i, none⟩ (.int .u8 x)) g (xs.set i x) := by
  refine ⟨?_, by rw [List.length_set]; exact h.2.1, ?_⟩
  · have := h.1.set_ i (.int .u8 x)
    have e : (u8s xs).toArray.setIfInBounds i (.int .u8 x) = (u8s (xs.set i x)).toArray := by
      rw [List.setIfInBounds_toArray]
      simp [u8s, List.map_set]
    rwa [e] at this
  · intro y hy
    rcases List.mem_or_eq_of_mem_set hy with hy | rfl
    · exact h.2.2 y hy
    · exact hx
theorem replicate_of (cl : List Int) (x : Int) (hl : cl.length = 64) (h : ∀ j, j < 64 → cl[j]? = some x) : cl = List.replicate 64 x := by
  apply List.ext_getElem?
  intro j
  by_cases hj : j < 64
  · rw [h j hj, List.getElem?_replicate, if_pos hj]
  · rw [List.getElem?_eq_none (by omega), List.getElem?_eq_none (by rw [List.length_replicate]; omega)]
end Go.Proofs.Ytcdjbfgkajfnlaa
