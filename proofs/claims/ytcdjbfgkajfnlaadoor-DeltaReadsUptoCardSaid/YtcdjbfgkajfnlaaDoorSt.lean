/- Steps of a region that draws its order, where an operation loads, lays or stores a whole block. -/
import Derived.Test.YtcdjbfgkajfnlaaDoorDs
import Derived.Deep.CutRange
namespace Go.Proofs.YtcdjbfgkajfnlaaDoor
open Go.RowKit

section
variable {P : Program} {ops : Array Oper} {o : Oper} {a : Act} {w : World} {K : Act → World → Prop} {Q : Exit → Act → World → Prop} {E : Prop}
theorem step_load_block (hgd : o.guard = none) (ty : TypeId) (x : Operand) (ho : o.op = .load ty x)
    (g : Nat) (hx : a.eval x = .pointer (some ⟨g, 0, none⟩)) (t : TypeId) (cs : Array Value) (d : TypeDesc) (hg : Blk w g t cs)
    (hu : P.underlying ty = some d) (hd : (match d with | .struct _ | .array _ _ => true | _ => false) = true) (n : Nat) (hi : (P.info? ty).map (·.size) = some n) (hn : cs.size = n)
    (h : K (a.put o.dst (.agg cs)) w) : if Region.wanted o (yielded ops a.tmps) = true then Oper.wp P o a w K Q else E := by
  have hw : Region.wanted o (yielded ops a.tmps) = true := by simp [Region.wanted, hgd]
  rw [if_pos hw]
  exact wp_load_row ty x ho g hx t cs (0, 0) d hg hu hd (by rw [hi, hn]) h
theorem step_alloc_block (hgd : o.guard = none) (ty : TypeId) (ho : o.op = .alloc ty) (cs : Array Value)
    (hi : (P.info? ty).map (·.zero) = some (some (.agg cs))) (h : ∀ g w', w.heap.size ≤ g → Below w.heap.size w w' → Blk w' g ty cs → K (a.put o.dst (.pointer (some ⟨g, 0, none⟩))) w') :
    if Region.wanted o (yielded ops a.tmps) = true then Oper.wp P o a w K Q else E := by
  have hw : Region.wanted o (yielded ops a.tmps) = true := by simp [Region.wanted, hgd]
  rw [if_pos hw]
  obtain ⟨i0, hi0, hz⟩ := Option.map_eq_some_iff.1 hi
  have hrun : (Instr.alloc ty true (.tuple #[])).run P w = .ok (.pointer (some ⟨w.heap.size, 0, none⟩)) (w.alloc (.cells cs ty)) := by
    simp [Instr.alloc, zeroValue, typeInfo, hi0, hz, newVar, Value.cells, Go.newRow]
  unfold Oper.wp execOp
  simp only [ho, hrun, Sem.run_bind, Sem.run_pure, Result.andThen_ok]
  exact h _ _ (Nat.le_refl _) (below_box _ _) (Blk.new _ _ _)
theorem step_store_block (hgd : o.guard = none) (ty : TypeId) (x v : Operand) (ho : o.op = .store ty x v)
    (g : Nat) (hx : a.eval x = .pointer (some ⟨g, 0, none⟩)) (cs : Array Value) (hv : a.eval v = .agg cs) (t : TypeId) (cur : Array Value) (hg : Blk w g t cur) (n : Nat) (hi : (P.info? ty).map (·.size) = some n) (hn : cs.size = n) (hc : cur.size = n) (h1 : ∀ u ∈ cs.toList, u.oneCell' = true)
    (h : ∀ w', w.grownBy w' (some g) → Blk w' g t cs → K (a.put o.dst undef) w') : if Region.wanted o (yielded ops a.tmps) = true then Oper.wp P o a w K Q else E := by
  have hw : Region.wanted o (yielded ops a.tmps) = true := by simp [Region.wanted, hgd]
  rw [if_pos hw]
  obtain ⟨i0, hi0, hs⟩ := Option.map_eq_some_iff.1 hi
  have hrun := run_storeCells_at (P := P) g 0 t cs.toList 0 cur w hg (by simp; omega) h1
  have hrow : (cur.toList.take (0 + 0) ++ cs.toList ++ cur.toList.drop (0 + 0 + cs.toList.length)).toArray = cs := by
    rw [List.drop_eq_nil_of_le (by simp; omega)]
    simp
  rw [hrow] at hrun
  have hst : (storeVar ty ⟨g, 0, none⟩ (.agg cs)).run P w = .ok () (w.setRow g cs) := by
    simp [storeVar, Value.cells, sizeOf, typeInfo, hi0, hs, hn, hrun]
  unfold Oper.wp execOp
  simp only [ho, hx, hv, Instr.storeAt, Instr.sureAddr, Sem.run_bind, Sem.run_pure, Result.andThen_ok, hst]
  exact h _ (grown_setRow _ _ _) (blk_setRow hg)
end
theorem block_zero : (Tryd.prog.info? 23).map (·.zero) = some (some (.agg (u8s zero64).toArray)) := by kernel_rfl
end Go.Proofs.YtcdjbfgkajfnlaaDoor
