/- '==' of two arrays of bytes that are one. -/
import Derived.Test.YtcdjbfgkajfnlaaDoorDh
namespace Go.Proofs.YtcdjbfgkajfnlaaDoor
open Go.RowKit

theorem forIn_stay {β : Type} {P : Program} {w : World} (b : β) (f : Nat → β → Sem (ForInStep β)) : ∀ l : List Nat, (∀ i ∈ l, (f i b).run P w = .ok (.yield b) w) → (forIn l b f).run P w = .ok b w
  | [], _ => by simp [Sem.run_pure]
  | i :: l, h => by
    rw [List.forIn_cons, Sem.run_bind, h i (by simp)]
    simp only [Result.andThen_ok]
    exact forIn_stay b f l (fun j hj => h j (by simp [hj]))
theorem run_eql_block (xs : List Int) (hl : xs.length = 64) (W : World) : (binOp .eql 23 (.agg (u8s xs).toArray) (.agg (u8s xs).toArray)).run Tryd.prog W = .ok (.bool true) W := by
  obtain ⟨i0, hi, _, hz1, _⟩ := info_parts info_u8
  have hin : ∀ d x, (Op.equalIn (d + 1) 5 (.int .u8 x) (.int .u8 x)).run Tryd.prog W = .ok true W := by
    intro d x
    simp [Op.equalIn, run_underlying Tryd.underlying5]
  have h : ∀ d, (Op.equalIn (d + 2) 23 (.agg (u8s xs).toArray) (.agg (u8s xs).toArray)).run Tryd.prog W = .ok true W := by
    intro d
    rw [Op.equalIn]
    simp only [Sem.run_bind, run_underlying Tryd.underlying23, Result.andThen_ok]
    simp only [sizeOf, typeInfo, Sem.run_bind, Sem.run_pure, Std.Legacy.Range.forIn_eq_forIn_range']
    go_simp
    rw [forIn_stay]
    · simp
    · intro i hi
      have hi64 : i < 64 := by simpa using hi
      have hx := u8s_get xs i (by omega)
      have hagg : ∀ W : World, (isAgg 5).run Tryd.prog W = .ok false W := fun W => by simp [isAgg, run_underlying Tryd.underlying5]
      simp only [Sem.run_bind, hagg, Result.andThen_ok, hx, Bool.false_eq_true, if_false, Sem.run_pure, hin, reduceCtorEq]
  simp only [binOp]
  simp [Op.equal, Op.maxDepth, h 9998]
/-- An array loaded where a guard says yes. -/
theorem wpList_load_block_w {P : Program} {ops : Array Oper} {rest : List Oper} {o : Oper} {a : Act} {w : World} {Q : Exit → Act → World → Prop} (hw : Region.wanted o (yielded ops a.tmps) = true) (ty : TypeId) (x : Operand) (ho : o.op = .load ty x)
    (g : Nat) (hx : a.eval x = .pointer (some ⟨g, 0, none⟩)) (t : TypeId) (cs : Array Value) (d : TypeDesc) (hg : Blk w g t cs)
    (hu : P.underlying ty = some d) (hd : (match d with | .struct _ | .array _ _ => true | _ => false) = true) (n : Nat) (hi : (P.info? ty).map (·.size) = some n) (hn : cs.size = n)
    (h : wpList P ops Q rest (a.put o.dst (.agg cs)) w) : wpList P ops Q (o :: rest) a w :=
  BigFrame.wpList_want hw fun _ hK => wp_load_row ty x ho g hx t cs (0, 0) d hg hu hd (by rw [hi, hn]) (hK _ _ h)
end Go.Proofs.YtcdjbfgkajfnlaaDoor
