/- Parts among the arguments, opened. -/
import Derived.Test.YtcdjbfgkajfnlaaDoorOp
import Derived.Test.YtcdjbfgkajfnlaaDoorDe
import Derived.Deep.Slices
namespace Go.Proofs.YtcdjbfgkajfnlaaDoor
open Go.ChangeShapes Go.WideShapes Go.ChangeAt Go.RowKit

theorem take_one {cs : List Value} {k : Nat} {v : Value} (h : (cs.drop k).take 1 = [v]) : cs[k]? = some v := by
  have e : cs[k]? = ((cs.drop k).take 1)[0]? := by simp
  rw [e, h]
  rfl
theorem add_two (b off i k : Nat) : ((⟨b, off, none⟩ : Addr).add i).add k = ⟨b, off + i + k, none⟩ := by
  unfold Addr.add
  split <;> split <;> simp_all
theorem ops_under : Tryd.prog.underlying 63 = some (.struct #[{ name := "Copy", type := 4, offset := 0, embedded := false, tag := "", pkgPath := "", byteOffset := 0 }, { name := "From", type := 3, offset := 1, embedded := false, tag := "", pkgPath := "", byteOffset := 8 }, { name := "Len", type := 3, offset := 2, embedded := false, tag := "", pkgPath := "", byteOffset := 16 }, { name := "Bytes", type := 25, offset := 3, embedded := false, tag := "", pkgPath := "", byteOffset := 24 }]) := Tryd.underlying63
theorem cells_op : Tryd.prog.cellsOf 63 = 4 := by kernel_rfl
theorem cells_bool : Tryd.prog.cellsOf 4 = 1 := by kernel_rfl
theorem cells_int : Tryd.prog.cellsOf 3 = 1 := by kernel_rfl
theorem cells_bytes : Tryd.prog.cellsOf 25 = 1 := by kernel_rfl
theorem cells_byte : Tryd.prog.cellsOf 5 = 1 := by kernel_rfl
theorem bytes_op : Tryd.prog.bytesOf 63 = 48 := by kernel_rfl
theorem bytes_byte : Tryd.prog.bytesOf 5 = 1 := by kernel_rfl
theorem reach_eq : reachBytes = 140737488351232 := rfl
theorem weightsAll_mem {H : Type} {P : Program} {e : TypeId} : ∀ {l : List (DataW H)} {d : DataW H}, d ∈ l → ∀ n ∈ d.weights P e, n ∈ DataW.weightsAll P e l
  | d' :: r, d, hd, n, hn => by
    simp only [DataW.weightsAll, List.mem_append]
    rcases List.mem_cons.1 hd with rfl | h
    · exact Or.inl hn
    · exact Or.inr (weightsAll_mem h n hn)
section
variable {H : Type} {enc : TypeId × Value → H}
set_option maxRecDepth 100000 in
/-- A slice of bytes, read. -/
theorem rb_of_trod {w : World} {base : Nat} {spare : Nat → Bool} {held : Bool} {fuel : Nat} {v : Value} {x : DataW H × List MemPlace} (h : DataW.trod enc Tryd.prog w base spare held fuel 25 [v] = some x) (hz : ∀ m ∈ x.1.weights Tryd.prog 25, m ≤ reachBytes) :
    ∃ A xs c, v = .slice A xs.length c ∧ RB w A xs.length xs ∧ xs.length ≤ c := by
  rcases open_ints Tryd.underlying25 Tryd.underlying5 cells_byte h with ⟨hcs, _⟩ | ⟨a, len, cap, zs, hcs, _, hl, hm, hzl, hx, hc, hw⟩
  · simp only [List.cons.injEq, and_true] at hcs
    subst hcs
    exact ⟨none, [], 0, rfl, RB.none_ _, Nat.le_refl _⟩
  · simp only [List.cons.injEq, and_true] at hcs
    subst hcs
    have hlz : len ≤ zs.length := by rw [hzl]; split <;> omega
    have htl : (zs.take len).length = len := by rw [List.length_take]; omega
    have hmx : len ≤ reachBytes := by
      have := hz ((lits .u8 (zs.take len) : List (DataW H)).length + (lits .u8 (zs.drop len) : List (DataW H)).length) (by
        rw [hx]
        simp only [DataW.weights, Tryd.underlying25, bytes_byte, Nat.mul_one]
        exact List.mem_cons_self ..)
      have h1 : (lits .u8 (zs.take len) : List (DataW H)).length = (zs.take len).length := by simp [lits]
      omega
    rw [reach_eq] at hmx
    refine ⟨some a, zs.take len, cap, by rw [htl], ⟨rfl, by omega, ?_, fun _ => ⟨a, rfl, fun j hj => ?_⟩⟩, by omega⟩
    · intro y hy
      have := hw y (List.mem_of_mem_take hy)
      simpa [Lit.wf, IntKind.min, IntKind.max, IntKind.signed, IntKind.bits] using this
    · rw [htl] at hj
      rw [hc j (by omega)]
      congr 2
      rw [List.getD_eq_getElem?_getD, List.getD_eq_getElem?_getD, List.getElem?_take_of_lt hj]
set_option maxRecDepth 100000 in
theorem open_ops {w : World} {r : Reach} {b0 base : Nat} {spare : Nat → Bool} {held : Bool} {v : Value} {d : DataW H} {ps : List MemPlace}
    (hval : Value.okWide Tryd.prog w r b0 24 v) (hd : DataW.Trod enc Tryd.prog w base spare held 24 v d ps) (hz : ∀ m ∈ d.weights Tryd.prog 24, m ≤ reachBytes) : ∃ A n c l, v = .slice A n c ∧ ROps w A n l ∧ n ≤ c := by
  obtain ⟨A, n, c, rfl⟩ := okWide_slice Tryd.underlying24 hval
  obtain ⟨fuel, hf⟩ := hd
  rcases DataW.trod_slice Tryd.underlying24 hf with ⟨hcs, _⟩ | ⟨a, len, cap, elems, rest, k, _, hcs, hx, hb, hl, hm, hlen, hel, _, _⟩
  · simp only [Value.cells, List.cons.injEq, and_true] at hcs
    cases hcs
    exact ⟨none, 0, 0, [], rfl, ⟨rfl, by simp, fun h => absurd h (by simp)⟩, Nat.le_refl _⟩
  · simp only [Value.cells, List.cons.injEq, and_true] at hcs
    cases hcs
    have hdx : d = .slice (elems.map (·.1)) (rest.map (·.1)) := by have := congrArg (·.1) hx; simpa using this
    rw [hdx] at hz
    simp only [DataW.weights, Tryd.underlying24, bytes_op, List.mem_cons, List.mem_append] at hz
    have hn47 : n ≤ 140737488351232 := by
      have := hz _ (.inl rfl)
      rw [List.length_map, List.length_map, reach_eq] at this
      omega
    have each : ∀ i, i < n → ∃ o : POp, ∃ Aj cj, w.cell? ((a.add (i * 4)).add 0) = some (.bool o.copy) ∧ w.cell? ((a.add (i * 4)).add 1) = some (.int .i64 o.frm) ∧ w.cell? ((a.add (i * 4)).add 2) = some (.int .i64 o.len) ∧ w.cell? ((a.add (i * 4)).add 3) = some (.slice Aj o.bytes.length cj) ∧
        RB w Aj o.bytes.length o.bytes ∧ o.bytes.length ≤ cj ∧ (-9223372036854775808 ≤ o.frm ∧ o.frm ≤ 9223372036854775807) ∧ (-9223372036854775808 ≤ o.len ∧ o.len ≤ 9223372036854775807) := by
      intro i hi
      have hi' : i < elems.length := by omega
      have hb := hel i hi
      rw [List.getElem?_eq_getElem hi', cells_op] at hb
      obtain ⟨cs', h1, h2⟩ := Option.bind_eq_some_iff.1 hb
      obtain ⟨_, hlen, hcell⟩ := World.cells?_some h1
      obtain ⟨xs, n', _, hxx, _, hxl, hfs⟩ := DataW.trod_struct ops_under h2
      have hxl : xs.length = 4 := hxl
      have f0 := hfs 0 _ rfl
      have f1 := hfs 1 _ rfl
      have f2 := hfs 2 _ rfl
      have f3 := hfs 3 _ rfl
      have f0 : DataW.trod enc Tryd.prog w base spare held n' 4 ((cs'.drop 0).take 1) = xs[0]? := f0
      have f1 : DataW.trod enc Tryd.prog w base spare held n' 3 ((cs'.drop 1).take 1) = xs[1]? := f1
      have f2 : DataW.trod enc Tryd.prog w base spare held n' 3 ((cs'.drop 2).take 1) = xs[2]? := f2
      have f3 : DataW.trod enc Tryd.prog w base spare held n' 25 ((cs'.drop 3).take 1) = xs[3]? := f3
      rw [List.getElem?_eq_getElem (by omega)] at f0 f1 f2 f3
      obtain ⟨b, e0, _⟩ := DataW.trod_bool Tryd.underlying4 f0
      obtain ⟨x, e1, _, w1⟩ := DataW.trod_int Tryd.underlying3 f1
      obtain ⟨y, e2, _, w2⟩ := DataW.trod_int Tryd.underlying3 f2
      have h4 : 3 < cs'.length := by omega
      have e3 : (cs'.drop 3).take 1 = [cs'[3]] := by
        rw [List.drop_eq_getElem_cons h4, List.take_succ_cons, List.take_zero]
      rw [e3] at f3
      obtain ⟨Aj, bs, cj, hv, hr, hc⟩ := rb_of_trod f3 (fun m hm => by
        refine hz m (.inr (.inl (weightsAll_mem (d := (elems[i]).1) (List.mem_map_of_mem (List.getElem_mem hi')) m ?_)))
        rw [hxx]
        simp only [DataW.weights, ops_under]
        refine DataW.weights_mem_each (j := 3) (t := 25) (d := (xs[3]).1) rfl ?_ m hm
        rw [List.getElem?_map, List.getElem?_eq_getElem (by omega)]
        rfl)
      refine ⟨⟨b, x, y, bs⟩, Aj, cj, ?_, ?_, ?_, ?_, hr, hc, ?_, ?_⟩
      · rw [hcell 0 (by omega)]; exact take_one e0
      · rw [hcell 1 (by omega)]; exact take_one e1
      · rw [hcell 2 (by omega)]; exact take_one e2
      · rw [hcell 3 (by omega), take_one e3, hv]
      · simpa [Lit.wf, IntKind.min, IntKind.max, IntKind.signed, IntKind.bits] using w1
      · simpa [Lit.wf, IntKind.min, IntKind.max, IntKind.signed, IntKind.bits] using w2
    haveI : Inhabited POp := ⟨⟨false, 0, 0, []⟩⟩
    obtain ⟨O, hO⟩ := Go.Deep.choose_lt each
    refine ⟨some a, n, c, (List.range n).map O, rfl, ⟨by simp, by omega, fun hn => ?_⟩, hl⟩
    obtain ⟨b, off, sp⟩ := a
    obtain ⟨_, _, hc0, _⟩ := hO 0 hn
    have hsp : sp = none := by
      simp only [Nat.zero_mul, Addr.add, if_true, World.cell?] at hc0
      cases sp with
      | none => rfl
      | some s => split at hc0 <;> simp at hc0
    subst hsp
    refine ⟨b, off, rfl, fun j o ho => ?_⟩
    have hj : j < n := by
      rcases Nat.lt_or_ge j n with h' | h'
      · exact h'
      · rw [List.getElem?_eq_none (by simpa using h')] at ho; cases ho
    have hoj : o = O j := by simpa [hj] using ho.symm
    subst hoj
    obtain ⟨Aj, cj, k0, k1, k2, k3, k4⟩ := hO j hj
    rw [add_two] at k0 k1 k2 k3
    exact ⟨Aj, cj, k0, k1, k2, k3, k4⟩
end
end Go.Proofs.YtcdjbfgkajfnlaaDoor
