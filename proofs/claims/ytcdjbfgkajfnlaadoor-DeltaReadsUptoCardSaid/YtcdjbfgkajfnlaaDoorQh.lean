/- Layer 10: the document's parts of bytes, walked. -/
import Derived.Test.YtcdjbfgkajfnlaaDoorQg
import Derived.Test.YtcdjbfgkajfnlaaDoorDd
namespace Go.Proofs.YtcdjbfgkajfnlaaDoor
open Go.RowKit

theorem wpList_store_new {P : Program} {ops : Array Oper} {rest : List Oper} {o : Oper} {a : Act} {w : World} {Q : Exit → Act → World → Prop} (hgd : o.guard = none) (ty : TypeId) (x v : Operand) (ho : o.op = .store ty x v)
    (g : Nat) (hx : a.eval x = .pointer (some ⟨g, 0, none⟩)) (cs : Array Value) (hv : a.eval v = .agg cs) (t : TypeId) (cur : Array Value) (hg : Blk w g t cur) (n : Nat) (hi : (P.info? ty).map (·.size) = some n) (hn : cs.size = n) (hc : cur.size = n) (h1 : ∀ u ∈ cs.toList, u.oneCell' = true)
    (h : ∀ w', Blk w' g t cs → w.grownBy w' (some g) → w'.heap.size = w.heap.size → wpList P ops Q rest (a.put o.dst undef) w') : wpList P ops Q (o :: rest) a w :=
  wpList_store_block hgd ty x v ho g hx cs hv t cur hg n hi hn hc h1 (h _ (blk_setRow hg) (grown_setRow _ _ _) (by simp))
/-- It lies in a block of before. -/
def old (B : Nat) (A : Option Addr) (n : Nat) : Prop := ∀ ad, A = some ad → 0 < n → ad.block < B
theorem old.sub {B : Nat} {A A' : Option Addr} {n m : Nat} (h : old B A n) (hi : inB A A') (hm : m ≤ n) : old B A' m := fun ad' e hp => by
  obtain ⟨ad, e', hb⟩ := hi ad' e
  rw [hb]
  exact h ad e' (by omega)
theorem old_none (B n : Nat) : old B none n := fun _ h => by cases h
theorem boolS_len (b : List Int) (e : Int) : (boolS b e).1.length ≤ b.length := by
  unfold boolS
  split
  · exact Nat.le_refl _
  · cases b with
    | nil => simp
    | cons x t =>
      simp only
      split <;> simp
theorem bytesS_len (b : List Int) (e most : Int) : (bytesS b e most).1.length ≤ b.length ∧ (bytesS b e most).2.2.length ≤ b.length := by
  unfold bytesS
  split
  · simp
  · split
    · simp
    · have h := boundS_len b 0 most.toNat 2 12
      unfold offS
      split
      · simp [h]
      · split
        · simp [h]
        · simp only [List.length_drop, List.length_take]
          omega
/-- The document's parts that were taken off. -/
structure RecOwn (w : World) (base : Nat) (V : Value) (ps : List (POp × Value)) : Prop where
  own : w.ownsRow base 63 4 V ps.length (ps.flatMap cells4)
  each : ∀ p ∈ ps, ∃ A c, p.2 = .slice A p.1.bytes.length c ∧ RB w A p.1.bytes.length p.1.bytes ∧ p.1.bytes.length ≤ c ∧ old base A p.1.bytes.length ∧ (0 ≤ p.1.frm ∧ p.1.frm ≤ 64) ∧ (0 ≤ p.1.len ∧ p.1.len ≤ 64)
theorem RecOwn.nil (w : World) (base : Nat) : RecOwn w base (.slice none 0 0) [] := ⟨own_nil _ _ _ _, fun p hp => (by cases hp)⟩
theorem RecOwn.below {w w' : World} {base : Nat} {V : Value} {ps : List (POp × Value)} (h : RecOwn w base V ps) (hb : Below w.heap.size w w') : RecOwn w' base V ps :=
  ⟨own_below h.own hb, fun p hp => by
    obtain ⟨A, c, h1, h2, h3⟩ := h.each p hp
    exact ⟨A, c, h1, h2.below hb, h3⟩⟩
theorem RecOwn.other {w w' : World} {base q : Nat} {V : Value} {ps : List (POp × Value)} (h : RecOwn w base V ps) (hg : w.grownBy w' (some q)) (hq : base ≤ q) (hV : some q ≠ V.ownBlock) : RecOwn w' base V ps := by
  refine ⟨h.own.kept hg ?_, fun p hp => ?_⟩
  · rcases hv : V.ownBlock with _ | i
    · exact .inl rfl
    · exact .inr (fun e => hV (by rw [hv, e]))
  · obtain ⟨A, c, h1, h2, h3, h4, h5⟩ := h.each p hp
    exact ⟨A, c, h1, h2.grown hg (fun ad ea hn => by have := h4 ad ea hn; intro e; have := Option.some.inj e; omega), h3, h4, h5⟩
theorem RecOwn.push {w w' : World} {base : Nat} {V V' : Value} {ps : List (POp × Value)} (h : RecOwn w base V ps) (o : POp) (A : Option Addr) (c : Nat) (hr : RB w A o.bytes.length o.bytes) (hc : o.bytes.length ≤ c)
    (hA : old base A o.bytes.length) (hf : 0 ≤ o.frm ∧ o.frm ≤ 64) (hl : 0 ≤ o.len ∧ o.len ≤ 64)
    (hown : w'.ownsRow base 63 4 V' (ps.length + 1) (ps.flatMap cells4 ++ cells4 (o, .slice A o.bytes.length c))) (hg : w.grownBy w' V.ownBlock) :
    RecOwn w' base V' (ps ++ [(o, .slice A o.bytes.length c)]) := by
  have hVb := own_base h.own
  refine ⟨by simpa using hown, fun p hp => ?_⟩
  have keep : ∀ (A : Option Addr) (xs : List Int), RB w A xs.length xs → old base A xs.length → RB w' A xs.length xs := fun A xs hr ho =>
    hr.grown hg (fun ad ea hn e => by have := hVb _ e.symm; have := ho ad ea hn; omega)
  rcases List.mem_append.1 hp with hp | hp
  · obtain ⟨A1, c1, h1, h2, h3, h4, h5⟩ := h.each p hp
    exact ⟨A1, c1, h1, keep A1 _ h2 h4, h3, h4, h5⟩
  · simp only [List.mem_singleton] at hp
    subst hp
    exact ⟨A, c, rfl, keep A _ hr hA, hc, hA, hf, hl⟩
theorem RecOwn.rops {w : World} {base : Nat} {V : Value} {ps : List (POp × Value)} (h : RecOwn w base V ps) (hn : ps.length ≤ 140737488355328) : ∃ A c, V = .slice A ps.length c ∧ ROps w A ps.length (ps.map (·.1)) ∧ ps.length ≤ c := by
  obtain ⟨A, c, rfl, hc⟩ := own_slice h.own
  refine ⟨A, c, rfl, ⟨by simp, ?_, fun hp => ?_⟩, hc⟩
  · exact hn
  · obtain ⟨gg, cc, hv, _⟩ := h.own.form hp
    cases hv
    refine ⟨gg, 0, rfl, fun j o ho => ?_⟩
    rw [List.getElem?_map] at ho
    obtain ⟨p, hp', rfl⟩ := Option.map_eq_some_iff.1 ho
    have hjl : j < ps.length := (List.getElem?_eq_some_iff.1 hp').1
    obtain ⟨A1, c1, h1, h2, h3, _, h5, h6⟩ := h.each p (List.mem_of_getElem? hp')
    have hcell : ∀ i, i < 4 → w.cell? ⟨gg, 0 + j * 4 + i, none⟩ = (cells4 p)[i]? := by
      intro i hi
      rw [show 0 + j * 4 + i = j * 4 + i by omega, h.own.cellAt (j * 4 + i) (by omega)]
      have hsp : ps = ps.take j ++ p :: ps.drop (j + 1) := by
        have hpj : ps[j] = p := (List.getElem?_eq_some_iff.1 hp').2
        rw [← hpj, List.getElem_cons_drop, List.take_append_drop]
      have hfl : ps.flatMap cells4 = (ps.take j).flatMap cells4 ++ (cells4 p ++ (ps.drop (j + 1)).flatMap cells4) := by
        conv => lhs; rw [hsp]
        rw [List.flatMap_append, List.flatMap_cons]
      have hjt : ((ps.take j).flatMap cells4).length = j * 4 := by rw [cells4_length, List.length_take]; omega
      rw [hfl, List.getElem?_append_right (by omega), hjt, show j * 4 + i - j * 4 = i by omega, List.getElem?_append_left (by simp [cells4]; omega)]
    refine ⟨A1, c1, ?_, ?_, ?_, ?_, h2, h3, ⟨by omega, by omega⟩, ⟨by omega, by omega⟩⟩
    · have := hcell 0 (by omega); simpa [cells4] using this
    · have := hcell 1 (by omega); simpa [cells4] using this
    · have := hcell 2 (by omega); simpa [cells4] using this
    · have := hcell 3 (by omega); rw [← h1]; simpa [cells4] using this
/-- The loop's state: what was taken off, the reader's variable. -/
structure RSt (w : World) (g : Nat) (V : Value) (ps : List (POp × Value)) (A : Option Addr) (c : Nat) (b : List Int) (e : Int) (W : World) : Prop where
  own : RecOwn W w.heap.size V ps
  blk : Blk W g 60 #[.slice A b.length c, .int .i64 e]
  rb : RB W A b.length b
  le : b.length ≤ c
  old_ : old w.heap.size A b.length
  lo : w.heap.size ≤ g
  bel : Below w.heap.size w W
section
variable {w W W' : World} {g : Nat} {V : Value} {ps : List (POp × Value)} {A : Option Addr} {c : Nat} {b : List Int} {e : Int}
theorem RSt.below (h : RSt w g V ps A c b e W) (hb : Below W.heap.size W W') : RSt w g V ps A c b e W' :=
  ⟨h.own.below hb, h.blk.below hb h.blk.lt, h.rb.below hb, h.le, h.old_, h.lo, h.bel.trans (hb.mono h.bel.size)⟩
theorem RSt.notG (h : RSt w g V ps A c b e W) : some g ≠ V.ownBlock := fun e => own_blk_ne h.own.own h.blk (by decide) e.symm
theorem RSt.store (h : RSt w g V ps A c b e W) {A' : Option Addr} {c' : Nat} {b' : List Int} {e' : Int} (hk : Blk W' g 60 #[.slice A' b'.length c', .int .i64 e']) (hg : W.grownBy W' (some g))
    (hr : RB W A' b'.length b') (hc : b'.length ≤ c') (ho : old w.heap.size A' b'.length) : RSt w g V ps A' c' b' e' W' :=
  ⟨h.own.other hg h.lo h.notG, hk, hr.grown hg (fun ad ea hn e => by have := ho ad ea hn; have := Option.some.inj e; have := h.lo; omega), hc, ho, h.lo, h.bel.grown hg h.bel.size (fun k hk => by have := Option.some.inj hk; have := h.lo; omega)⟩
theorem RSt.other (h : RSt w g V ps A c b e W) {q : Nat} (hg : W.grownBy W' (some q)) (hq : w.heap.size ≤ q) (hV : some q ≠ V.ownBlock) (hqg : g ≠ q) : RSt w g V ps A c b e W' :=
  ⟨h.own.other hg hq hV, h.blk.grown hg (fun e => hqg (Option.some.inj e)), h.rb.grown hg (fun ad ea hn e => by have := h.old_ ad ea hn; have := Option.some.inj e; omega), h.le, h.old_, h.lo, h.bel.grown hg h.bel.size (fun k hk => by have := Option.some.inj hk; omega)⟩
theorem RSt.push {V' : Value} (h : RSt w g V ps A c b e W) (o : POp) (A1 : Option Addr) (c1 : Nat) (hr : RB W A1 o.bytes.length o.bytes) (hc : o.bytes.length ≤ c1)
    (hA : old w.heap.size A1 o.bytes.length) (hf : 0 ≤ o.frm ∧ o.frm ≤ 64) (hl : 0 ≤ o.len ∧ o.len ≤ 64)
    (hown : W'.ownsRow w.heap.size 63 4 V' (ps.length + 1) (ps.flatMap cells4 ++ cells4 (o, .slice A1 o.bytes.length c1))) (hg : W.grownBy W' V.ownBlock) :
    RSt w g V' (ps ++ [(o, .slice A1 o.bytes.length c1)]) A c b e W' := by
  have hVb := own_base h.own.own
  exact ⟨h.own.push o A1 c1 hr hc hA hf hl hown hg, h.blk.grown hg h.notG, h.rb.grown hg (fun ad ea hn e => by have := hVb _ e.symm; have := h.old_ ad ea hn; omega), h.le, h.old_, h.lo, h.bel.grown hg h.bel.size (fun k hk => hVb k hk)⟩
/-- A block that the call has made behind the state is none of its. -/
theorem RSt.notNew (h : RSt w g V ps A c b e W) {q : Nat} (hq : W.heap.size ≤ q) : some q ≠ V.ownBlock ∧ g ≠ q ∧ w.heap.size ≤ q := by
  refine ⟨fun e => ?_, fun e => ?_, ?_⟩
  · have := own_lt h.own.own q e.symm; omega
  · have := h.blk.lt; omega
  · have := h.bel.size; omega
end
theorem info_rop : (Tryd.prog.info? 63).map (fun i => (i.zero, i.size, i.bytes)) = some (some (.agg #[.bool false, .int .i64 0, .int .i64 0, .slice none 0 0]), 4, 48) := by kernel_rfl
end Go.Proofs.YtcdjbfgkajfnlaaDoor
