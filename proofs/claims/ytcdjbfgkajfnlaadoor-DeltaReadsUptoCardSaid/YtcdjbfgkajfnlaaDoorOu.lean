/- Parts among the arguments, opened, with what a bound on the reading's bulk says of them. -/
import Derived.Test.YtcdjbfgkajfnlaaDoorRows
import Derived.Test.YtcdjbfgkajfnlaaDoorOo
namespace Go.Proofs.YtcdjbfgkajfnlaaDoor
open Go.ChangeShapes Go.WideShapes Go.ChangeAt Go.RowKit

/-- What a reading's bulk bounds. -/
theorem bulk_one {H : Type} (d : DataW H) : 1 ≤ Rows.uptoBulk d := by
  cases d with
  | lit l => cases l <;> simp [Rows.uptoBulk]
  | _ => simp [Rows.uptoBulk]
theorem bulk_mem {H : Type} {d : DataW H} : ∀ {l : List (DataW H)}, d ∈ l → Rows.uptoBulk d ≤ Rows.uptoBulkAll l
  | x :: r, h => by
    simp only [Rows.uptoBulkAll]
    rcases List.mem_cons.1 h with rfl | h
    · omega
    · have := bulk_mem h
      omega
theorem bulk_length {H : Type} : ∀ l : List (DataW H), l.length ≤ Rows.uptoBulkAll l
  | [] => by simp
  | x :: r => by
    have := bulk_one x
    have := bulk_length r
    simp only [Rows.uptoBulkAll, List.length_cons]
    omega
theorem bulk_slice {H : Type} (e s : List (DataW H)) : e.length + 1 ≤ Rows.uptoBulk (.slice e s) ∧ Rows.uptoBulkAll e + 1 ≤ Rows.uptoBulk (.slice e s) := by
  have := bulk_length e
  simp only [Rows.uptoBulk]
  omega
theorem bulk_agg {H : Type} (l : List (DataW H)) : Rows.uptoBulkAll l ≤ Rows.uptoBulk (.agg l) := by
  simp only [Rows.uptoBulk]
  omega
section
variable {H : Type} {enc : TypeId × Value → H}
set_option maxRecDepth 100000 in
/-- A slice of bytes, read. -/
theorem rb_of_trod_upto {w : World} {base : Nat} {spare : Nat → Bool} {held : Bool} {fuel : Nat} {v : Value} {x : DataW H × List MemPlace} (h : DataW.trod enc Tryd.prog w base spare held fuel 25 [v] = some x) (hz : ∀ m ∈ x.1.weights Tryd.prog 25, m ≤ reachBytes) :
    ∃ A xs c, v = .slice A xs.length c ∧ RB w A xs.length xs ∧ xs.length ≤ c ∧ xs.length ≤ Rows.uptoBulk x.1 := by
  rcases open_ints Tryd.underlying25 Tryd.underlying5 cells_byte h with ⟨hcs, _⟩ | ⟨a, len, cap, zs, hcs, _, hl, hm, hzl, hx, hc, hw⟩
  · simp only [List.cons.injEq, and_true] at hcs
    subst hcs
    exact ⟨none, [], 0, rfl, RB.none_ _, Nat.le_refl _, by simp⟩
  · simp only [List.cons.injEq, and_true] at hcs
    subst hcs
    have hlz : len ≤ zs.length := by rw [hzl]; split <;> omega
    have htl : (zs.take len).length = len := by rw [List.length_take]; omega
    have hmx : len ≤ reachBytes := by
      have := hz ((lits .u8 (zs.take len) : List (DataW H)).length + (lits .u8 (zs.drop len) : List (DataW H)).length) (by
        rw [hx]
        simp only [DataW.weights, Tryd.underlying25, bytes_byte, Nat.mul_one]
        exact List.mem_cons_self ..)
      have h1 : (lits .u8 (zs.take len) : List (DataW H)).length = (zs.take len).length := by simp [lits]
      omega
    rw [reach_eq] at hmx
    have hbulk : (zs.take len).length ≤ Rows.uptoBulk x.1 := by
      rw [hx]
      have h1 : (lits .u8 (zs.take len) : List (DataW H)).length = (zs.take len).length := by simp [lits]
      have := (bulk_slice (lits .u8 (zs.take len) : List (DataW H)) (lits .u8 (zs.drop len))).1
      simp only
      omega
    refine ⟨some a, zs.take len, cap, by rw [htl], ⟨rfl, by omega, ?_, fun _ => ⟨a, rfl, fun j hj => ?_⟩⟩, by omega, hbulk⟩
    · intro y hy
      have := hw y (List.mem_of_mem_take hy)
      simpa [Lit.wf, IntKind.min, IntKind.max, IntKind.signed, IntKind.bits] using this
    · rw [htl] at hj
      rw [hc j (by omega)]
      congr 2
      rw [List.getD_eq_getElem?_getD, List.getD_eq_getElem?_getD, List.getElem?_take_of_lt hj]
set_option maxRecDepth 100000 in
theorem open_ops_upto {w : World} {r : Reach} {b0 base : Nat} {spare : Nat → Bool} {held : Bool} {v : Value} {d : DataW H} {ps : List MemPlace}
    (hval : Value.okWide Tryd.prog w r b0 24 v) (hd : DataW.Trod enc Tryd.prog w base spare held 24 v d ps) (hz : ∀ m ∈ d.weights Tryd.prog 24, m ≤ reachBytes) : ∃ A n c l, v = .slice A n c ∧ ROps w A n l ∧ n ≤ c ∧ n ≤ Rows.uptoBulk d ∧ ∀ o ∈ l, o.bytes.length ≤ Rows.uptoBulk d := by
  obtain ⟨A, n, c, rfl⟩ := okWide_slice Tryd.underlying24 hval
  obtain ⟨fuel, hf⟩ := hd
  rcases DataW.trod_slice Tryd.underlying24 hf with ⟨hcs, _⟩ | ⟨a, len, cap, elems, rest, k, _, hcs, hx, hb, hl, hm, hlen, hel, _, _⟩
  · simp only [Value.cells, List.cons.injEq, and_true] at hcs
    cases hcs
    exact ⟨none, 0, 0, [], rfl, ⟨rfl, by simp, fun h => absurd h (by simp)⟩, Nat.le_refl _, by simp, fun _ h => by cases h⟩
  · simp only [Value.cells, List.cons.injEq, and_true] at hcs
    cases hcs
    have hdx : d = .slice (elems.map (·.1)) (rest.map (·.1)) := by have := congrArg (·.1) hx; simpa using this
    rw [hdx] at hz
    simp only [DataW.weights, Tryd.underlying24, bytes_op, List.mem_cons, List.mem_append] at hz
    have hn47 : n ≤ 140737488351232 := by
      have := hz _ (.inl rfl)
      rw [List.length_map, List.length_map, reach_eq] at this
      omega
    have each : ∀ i, i < n → ∃ o : POp, ∃ Aj cj, w.cell? ((a.add (i * 4)).add 0) = some (.bool o.copy) ∧ w.cell? ((a.add (i * 4)).add 1) = some (.int .i64 o.frm) ∧ w.cell? ((a.add (i * 4)).add 2) = some (.int .i64 o.len) ∧ w.cell? ((a.add (i * 4)).add 3) = some (.slice Aj o.bytes.length cj) ∧
        RB w Aj o.bytes.length o.bytes ∧ o.bytes.length ≤ cj ∧ (-9223372036854775808 ≤ o.frm ∧ o.frm ≤ 9223372036854775807) ∧ (-9223372036854775808 ≤ o.len ∧ o.len ≤ 9223372036854775807) ∧ o.bytes.length ≤ Rows.uptoBulk d := by
      intro i hi
      have hi' : i < elems.length := by omega
      have hb := hel i hi
      rw [List.getElem?_eq_getElem hi', cells_op] at hb
      obtain ⟨cs', h1, h2⟩ := Option.bind_eq_some_iff.1 hb
      obtain ⟨_, hlen, hcell⟩ := World.cells?_some h1
      obtain ⟨xs, n', _, hxx, _, hxl, hfs⟩ := DataW.trod_struct ops_under h2
      have hxl : xs.length = 4 := hxl
      have f0 := hfs 0 _ rfl
      have f1 := hfs 1 _ rfl
      have f2 := hfs 2 _ rfl
      have f3 := hfs 3 _ rfl
      have f0 : DataW.trod enc Tryd.prog w base spare held n' 4 ((cs'.drop 0).take 1) = xs[0]? := f0
      have f1 : DataW.trod enc Tryd.prog w base spare held n' 3 ((cs'.drop 1).take 1) = xs[1]? := f1
      have f2 : DataW.trod enc Tryd.prog w base spare held n' 3 ((cs'.drop 2).take 1) = xs[2]? := f2
      have f3 : DataW.trod enc Tryd.prog w base spare held n' 25 ((cs'.drop 3).take 1) = xs[3]? := f3
      rw [List.getElem?_eq_getElem (by omega)] at f0 f1 f2 f3
      obtain ⟨b, e0, _⟩ := DataW.trod_bool Tryd.underlying4 f0
      obtain ⟨x, e1, _, w1⟩ := DataW.trod_int Tryd.underlying3 f1
      obtain ⟨y, e2, _, w2⟩ := DataW.trod_int Tryd.underlying3 f2
      have h4 : 3 < cs'.length := by omega
      have e3 : (cs'.drop 3).take 1 = [cs'[3]] := by
        rw [List.drop_eq_getElem_cons h4, List.take_succ_cons, List.take_zero]
      rw [e3] at f3
      obtain ⟨Aj, bs, cj, hv, hr, hc, hbk⟩ := rb_of_trod_upto f3 (fun m hm => by
        refine hz m (.inr (.inl (weightsAll_mem (d := (elems[i]).1) (List.mem_map_of_mem (List.getElem_mem hi')) m ?_)))
        rw [hxx]
        simp only [DataW.weights, ops_under]
        refine DataW.weights_mem_each (j := 3) (t := 25) (d := (xs[3]).1) rfl ?_ m hm
        rw [List.getElem?_map, List.getElem?_eq_getElem (by omega)]
        rfl)
      have hbd : bs.length ≤ Rows.uptoBulk d := by
        have h5 : Rows.uptoBulk (xs[3]).1 ≤ Rows.uptoBulkAll (xs.map (·.1)) := bulk_mem (List.mem_map_of_mem (List.getElem_mem (by omega)))
        have h6 := bulk_agg (xs.map (·.1))
        have h7 : Rows.uptoBulk (elems[i]).1 ≤ Rows.uptoBulkAll (elems.map (·.1)) := bulk_mem (List.mem_map_of_mem (List.getElem_mem hi'))
        have h8 := (bulk_slice (elems.map (·.1)) (rest.map (·.1))).2
        rw [hdx]
        rw [hxx] at h7
        simp only at h7
        omega
      refine ⟨⟨b, x, y, bs⟩, Aj, cj, ?_, ?_, ?_, ?_, hr, hc, ?_, ?_, hbd⟩
      · rw [hcell 0 (by omega)]; exact take_one e0
      · rw [hcell 1 (by omega)]; exact take_one e1
      · rw [hcell 2 (by omega)]; exact take_one e2
      · rw [hcell 3 (by omega), take_one e3, hv]
      · simpa [Lit.wf, IntKind.min, IntKind.max, IntKind.signed, IntKind.bits] using w1
      · simpa [Lit.wf, IntKind.min, IntKind.max, IntKind.signed, IntKind.bits] using w2
    haveI : Inhabited POp := ⟨⟨false, 0, 0, []⟩⟩
    obtain ⟨O, hO⟩ := Go.Deep.choose_lt each
    have hnb : n ≤ Rows.uptoBulk d := by
      have := (bulk_slice (elems.map (·.1)) (rest.map (·.1))).1
      rw [hdx]
      rw [List.length_map] at this
      omega
    refine ⟨some a, n, c, (List.range n).map O, rfl, ⟨by simp, by omega, fun hn => ?_⟩, hl, hnb, fun o ho => ?_⟩
    rotate_left
    · obtain ⟨j, hj, rfl⟩ := List.mem_map.1 ho
      obtain ⟨_, _, _, _, _, _, _, _, _, _, h9⟩ := hO j (List.mem_range.1 hj)
      exact h9
    obtain ⟨b, off, sp⟩ := a
    obtain ⟨_, _, hc0, _⟩ := hO 0 hn
    have hsp : sp = none := by
      simp only [Nat.zero_mul, Addr.add, if_true, World.cell?] at hc0
      cases sp with
      | none => rfl
      | some s => split at hc0 <;> simp at hc0
    subst hsp
    refine ⟨b, off, rfl, fun j o ho => ?_⟩
    have hj : j < n := by
      rcases Nat.lt_or_ge j n with h' | h'
      · exact h'
      · rw [List.getElem?_eq_none (by simpa using h')] at ho; cases ho
    have hoj : o = O j := by simpa [hj] using ho.symm
    subst hoj
    obtain ⟨Aj, cj, k0, k1, k2, k3, k4, k5, k6, k7, _⟩ := hO j hj
    rw [add_two] at k0 k1 k2 k3
    exact ⟨Aj, cj, k0, k1, k2, k3, k4, k5, k6, k7⟩
end
end Go.Proofs.YtcdjbfgkajfnlaaDoor
