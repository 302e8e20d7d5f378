/- Layer 10: the parts of a block in memory; delta.Ops walked. -/
import Derived.Test.YtcdjbfgkajfnlaaDoorDa
import Derived.Test.YtcdjbfgkajfnlaaDoorDq
namespace Go.Proofs.YtcdjbfgkajfnlaaDoor
open Go.RowKit

/-- A part's cells, the slice of its bytes known. -/
def cells4 (p : POp × Value) : List Value := [.bool p.1.copy, .int .i64 p.1.frm, .int .i64 p.1.len, p.2]
/-- Parts that the call itself lays: the row, the rows of their bytes. -/
structure OwnOps (w : World) (base : Nat) (V : Value) (ps : List (POp × Value)) : Prop where
  own : w.ownsRow base 50 4 V ps.length (ps.flatMap cells4)
  each : ∀ p ∈ ps, w.ownsRow base 5 1 p.2 p.1.bytes.length (u8s p.1.bytes) ∧ u8Ok p.1.bytes
  apart : ∀ init last, ps = init ++ [last] → ∀ p ∈ init, p.2.ownBlock = none ∨ p.2.ownBlock ≠ last.2.ownBlock
theorem OwnOps.nil (w : World) (base : Nat) : OwnOps w base (.slice none 0 0) [] :=
  ⟨own_nil _ _ _ _, fun p hp => (by cases hp), fun init last h => (by simp at h)⟩
theorem info_op : (Tryd.prog.info? 50).map (fun i => (i.zero, i.size, i.bytes)) = some (some (.agg #[.bool false, .int .i64 0, .int .i64 0, .slice none 0 0]), 4, 48) := by kernel_rfl
theorem OwnOps.below {w w' : World} {base : Nat} {V : Value} {ps : List (POp × Value)} (h : OwnOps w base V ps) (hb : Below w.heap.size w w') : OwnOps w' base V ps :=
  ⟨own_below h.own hb, fun p hp => ⟨own_below (h.each p hp).1 hb, (h.each p hp).2⟩, h.apart⟩
theorem own_type_ne {w : World} {b b' : Nat} {e e' : TypeId} {s s' n n' : Nat} {v v' : Value} {xs xs' : List Value} (h : w.ownsRow b e s v n xs) (h' : w.ownsRow b' e' s' v' n' xs') (hne : e ≠ e') : v.ownBlock = none ∨ v.ownBlock ≠ v'.ownBlock := by
  rcases h.2 with ⟨rfl, _⟩ | ⟨g, cap, cur, rfl, _, hh, _⟩
  · exact .inl rfl
  · refine .inr fun hk => ?_
    rcases h'.2 with ⟨rfl, _⟩ | ⟨g', cap', cur', rfl, _, hh', _⟩
    · simp [Value.ownBlock] at hk
    · have : g = g' := by simpa [Value.ownBlock] using hk
      subst this
      rw [hh] at hh'
      injection hh' with hh'
      injection hh' with _ ht
      exact hne ht
/-- One more part, without bytes. -/
theorem OwnOps.push {w w0 w' : World} {base : Nat} {V V' : Value} {ps : List (POp × Value)} (h : OwnOps w base V ps) (o : POp) (ho : o.bytes = []) (hb : Below w.heap.size w w0)
    (hown : w'.ownsRow base 50 4 V' (ps.length + 1) (ps.flatMap cells4 ++ cells4 (o, .slice none 0 0))) (hg : w0.grownBy w' V.ownBlock) :
    OwnOps w' base V' (ps ++ [(o, .slice none 0 0)]) := by
  refine ⟨by simpa using hown, fun p hp => ?_, fun init last he p hp => ?_⟩
  · rcases List.mem_append.1 hp with hp | hp
    · have h1 := own_below (h.each p hp).1 hb
      exact ⟨h1.kept hg (own_type_ne h1 (own_below h.own hb) (by decide)), (h.each p hp).2⟩
    · simp only [List.mem_singleton] at hp
      subst hp
      simp only [ho]
      exact ⟨own_nil _ _ _ _, u8Ok.nil⟩
  · have := List.append_inj' he rfl
    obtain ⟨_, h2⟩ := this
    simp only [List.cons.injEq, and_true] at h2
    subst h2
    rcases hb' : p.2.ownBlock with _ | k
    · exact .inl rfl
    · exact .inr (by simp [Value.ownBlock])
theorem OwnOps.last {w : World} {base : Nat} {V : Value} {ps : List (POp × Value)} {p : POp × Value} (h : OwnOps w base V (ps ++ [p])) :
    ∃ g c, V = .slice (some ⟨g, 0, none⟩) (ps.length + 1) c ∧ w.cell? ⟨g, ps.length * 4, none⟩ = some (.bool p.1.copy) ∧ w.cell? ⟨g, ps.length * 4 + 3, none⟩ = some p.2 ∧ w.frozen? ⟨g, ps.length * 4 + 3, none⟩ = false ∧ base ≤ g ∧ w.ownsRow base 50 4 (.slice (some ⟨g, 0, none⟩) (ps.length + 1) c) (ps.length + 1) ((ps ++ [p]).flatMap cells4) := by
  have ho := h.own
  rw [List.length_append, List.length_singleton] at ho
  obtain ⟨g, c, rfl, hb, _⟩ := ho.form (by omega)
  have hfl : ((ps ++ [p]).flatMap cells4) = ps.flatMap cells4 ++ cells4 p := by simp
  have hlen : (ps.flatMap cells4).length = ps.length * 4 := by
    have : ∀ l : List (POp × Value), (l.flatMap cells4).length = l.length * 4 := by
      intro l
      induction l with
      | nil => rfl
      | cons x l ih => simp [cells4, ih]; omega
    exact this ps
  refine ⟨g, c, rfl, ?_, ?_, ?_, hb, ho⟩
  · have := ho.cellAt (ps.length * 4) (by omega)
    rw [this, hfl, List.getElem?_append_right (by omega), hlen]
    simp [cells4]
  · have := ho.cellAt (ps.length * 4 + 3) (by omega)
    rw [this, hfl, List.getElem?_append_right (by omega), hlen]
    simp [cells4]
  · exact ho.frozenAt _
theorem OwnOps.lastRow {w W w2 : World} {base : Nat} {V : Value} {qs : List (POp × Value)} {q : POp × Value} (h : OwnOps w base V (qs ++ [q])) (hb : Below w.heap.size w W) (hg : W.grownBy w2 q.2.ownBlock) :
    w2.ownsRow base 50 4 V (qs ++ [q]).length ((qs ++ [q]).flatMap cells4) := by
  have h1 := own_below h.own hb
  have h2 := own_below (h.each q (by simp)).1 hb
  exact h1.kept hg (own_type_ne h1 h2 (by decide))
theorem last_after {w W w2 : World} {base g m c : Nat} {qs : List (POp × Value)} {q : POp × Value} (h : OwnOps w base (.slice (some ⟨g, 0, none⟩) m c) (qs ++ [q])) (hb : Below w.heap.size w W) (hg : W.grownBy w2 q.2.ownBlock) :
    w2.cell? ⟨g, qs.length * 4 + 3, none⟩ = some q.2 ∧ w2.frozen? ⟨g, qs.length * 4 + 3, none⟩ = false := by
  have h1 := h.lastRow hb hg
  have hm : m = (qs ++ [q]).length := by
    obtain ⟨g', c', he, _⟩ := h.own.form (by simp)
    cases he
    rfl
  subst hm
  have hlen : (qs.flatMap cells4).length = qs.length * 4 := by
    have : ∀ l : List (POp × Value), (l.flatMap cells4).length = l.length * 4 := by
      intro l
      induction l with
      | nil => rfl
      | cons x l ih => simp [cells4, ih]; omega
    exact this qs
  refine ⟨?_, h1.frozenAt _⟩
  have hfl : ((qs ++ [q]).flatMap cells4) = qs.flatMap cells4 ++ cells4 q := by simp
  rw [h1.cellAt (qs.length * 4 + 3) (by simp; omega), hfl, List.getElem?_append_right (by omega), hlen]
  simp [cells4]
/-- One byte more of the last part. -/
theorem OwnOps.told {w W w2 : World} {base g m c : Nat} {qs : List (POp × Value)} {q : POp × Value} {x : Int} {v : Value} (h : OwnOps w base (.slice (some ⟨g, 0, none⟩) m c) (qs ++ [q])) (hb : Below w.heap.size w W) (hg : W.grownBy w2 q.2.ownBlock)
    (ho : w2.ownsRow base 5 1 v (q.1.bytes ++ [x]).length (u8s (q.1.bytes ++ [x]))) (hn : newRow W q.2 v) (hx : 0 ≤ x ∧ x ≤ 255) :
    OwnOps (w2.setCell ⟨g, qs.length * 4 + 3, none⟩ v) base (.slice (some ⟨g, 0, none⟩) m c) (qs ++ [({ q.1 with bytes := q.1.bytes ++ [x] }, v)]) ∧ w2.grownBy (w2.setCell ⟨g, qs.length * 4 + 3, none⟩ v) (some g) := by
  have h1 := h.lastRow hb hg
  have hm : m = (qs ++ [q]).length := by
    obtain ⟨g', c', he, _⟩ := h.own.form (by simp)
    cases he
    rfl
  subst hm
  have hlen : (qs.flatMap cells4).length = qs.length * 4 := by
    have : ∀ l : List (POp × Value), (l.flatMap cells4).length = l.length * 4 := by
      intro l
      induction l with
      | nil => rfl
      | cons x l ih => simp [cells4, ih]; omega
    exact this qs
  have hs := h1.stored (qs.length * 4 + 3) v
  have hfl : ((qs ++ [q]).flatMap cells4).set (qs.length * 4 + 3) v = (qs ++ [({ q.1 with bytes := q.1.bytes ++ [x] }, v)]).flatMap cells4 := by
    rw [List.flatMap_append, List.flatMap_append, List.set_append, if_neg (by omega), hlen]
    simp [cells4]
  rw [hfl] at hs
  have hgb := h1
  have hvg : v.ownBlock = none ∨ v.ownBlock ≠ some g := by
    have := own_type_ne ho h1 (by decide)
    exact this
  refine ⟨⟨by simpa using hs.1, fun p hp => ?_, fun init last he p hp => ?_⟩, hs.2⟩
  · rcases List.mem_append.1 hp with hp | hp
    · have k1 := own_below (h.each p (by simp [hp])).1 hb
      have k2 := k1.kept hg (h.apart qs q rfl p hp)
      exact ⟨k2.kept hs.2 (own_type_ne k2 h1 (by decide)), (h.each p (by simp [hp])).2⟩
    · simp only [List.mem_singleton] at hp
      subst hp
      exact ⟨ho.kept hs.2 hvg, (h.each q (by simp)).2.append (fun y hy => by simp only [List.mem_singleton] at hy; subst hy; exact hx)⟩
  · obtain ⟨e1, e2⟩ := List.append_inj' he rfl
    simp only [List.cons.injEq, and_true] at e2
    subst e1
    subst e2
    rcases hn with hn | hn
    · have := h.apart qs q rfl p hp
      simp only
      rw [hn]
      exact this
    · simp only
      rw [hn]
      have k1 := own_below (h.each p (by simp [hp])).1 hb
      rcases hpb : p.2.ownBlock with _ | i
      · exact .inl rfl
      · have := own_lt k1 i hpb
        exact .inr (fun e => by cases e; omega)
/-- The loop's state in memory. -/
structure OpsSt (w : World) (base target : List Int) (s : Nat × List POp) (V : Value) (wr : World) : Prop where
  b1 : BlkB wr w.heap.size base
  b2 : BlkB wr (w.heap.size + 1) target
  own : ∃ ps, OwnOps wr (w.heap.size + 2) V ps ∧ ps.map (·.1) = s.2
  bel : Below w.heap.size w wr
theorem OpsSt.below {w wr w1 : World} {base target : List Int} {s : Nat × List POp} {V : Value} (h : OpsSt w base target s V wr) (hb : Below wr.heap.size wr w1) : OpsSt w base target s V w1 := by
  obtain ⟨ps, ho, he⟩ := h.own
  exact ⟨⟨h.b1.1.below hb h.b1.1.lt, h.b1.2⟩, ⟨h.b2.1.below hb h.b2.1.lt, h.b2.2⟩, ⟨ps, ho.below hb, he⟩, h.bel.trans (hb.mono h.bel.size)⟩
theorem OpsSt.push {w wr w' : World} {base target : List Int} {s : Nat × List POp} {V V' : Value} (h : OpsSt w base target s V wr) (ps : List (POp × Value)) (hps : OwnOps wr (w.heap.size + 2) V ps) (he : ps.map (·.1) = s.2) (o : POp) (ho : o.bytes = []) (c : Array Value)
    (hown : w'.ownsRow (w.heap.size + 2) 50 4 V' (ps.length + 1) (ps.flatMap cells4 ++ cells4 (o, .slice none 0 0))) (hg : (wr.alloc (.cells c 50)).grownBy w' V.ownBlock) (a : Nat) :
    OpsSt w base target (a, s.2 ++ [o]) V' w' ∧ OwnOps w' (w.heap.size + 2) V' (ps ++ [(o, .slice none 0 0)]) := by
  have hb := below_box wr (.cells c 50)
  have h2 := h.b2.1.lt
  have hV := own_base hps.own
  have n1 : ∀ g, g < w.heap.size + 2 → some g ≠ V.ownBlock := fun g hg e => by have := hV g e.symm; omega
  have hp := hps.push o ho hb hown hg
  have hbw : Below w.heap.size w (wr.alloc (.cells c 50)) := h.bel.trans (hb.mono h.bel.size)
  refine ⟨⟨⟨(h.b1.1.below hb h.b1.1.lt).grown hg (n1 _ (by omega)), h.b1.2⟩, ⟨(h.b2.1.below hb h2).grown hg (n1 _ (by omega)), h.b2.2⟩, ⟨_, hp, by simp [he]⟩, ?_⟩, hp⟩
  exact hbw.grown hg hbw.size (fun k hk => by have := hV k hk; omega)
/-- Behind the byte. -/
theorem ops_told {w W1 W w2 : World} {base target : List Int} {g c m : Nat} {qs : List (POp × Value)} {q : POp × Value} {x : Int} {v : Value} {k a : Nat} (hsb : BlkB W1 w.heap.size base ∧ BlkB W1 (w.heap.size + 1) target ∧ Below w.heap.size w W1)
    (hps : OwnOps W1 (w.heap.size + 2) (.slice (some ⟨g, 0, none⟩) m c) (qs ++ [q])) (hb : Below W1.heap.size W1 W) (hg : W.grownBy w2 q.2.ownBlock)
    (ho : w2.ownsRow (w.heap.size + 2) 5 1 v (q.1.bytes ++ [x]).length (u8s (q.1.bytes ++ [x]))) (hn : newRow W q.2 v) (hx : 0 ≤ x ∧ x ≤ 255)
    (hpu : qs.map (·.1) ++ [{ q.1 with bytes := q.1.bytes ++ [x] }] = pushB (opsN base target k).2 x) (hnx : opsN base target (k + 1) = (a + 1, pushB (opsN base target k).2 x)) :
    (opsN base target (k + 1)).1 = a + 1 ∧ OpsSt w base target (opsN base target (k + 1)) (.slice (some ⟨g, 0, none⟩) m c) (w2.setCell ⟨g, qs.length * 4 + 3, none⟩ v) := by
  obtain ⟨h1, h2⟩ := hps.told hb hg ho hn hx
  have hgl := own_lt hps.own g rfl
  have hgb := own_base hps.own g rfl
  have hqb : ∀ i, q.2.ownBlock = some i → w.heap.size + 2 ≤ i := own_base (hps.each q (by simp)).1
  have n1 : ∀ i, i < w.heap.size + 2 → some i ≠ q.2.ownBlock := fun i hi e => by have := hqb i e.symm; omega
  have n2 : ∀ i, i < w.heap.size + 2 → some i ≠ some g := fun i hi e => by cases e; omega
  have hl := hsb.2.1.1.lt
  have hbw : Below w.heap.size w W := hsb.2.2.trans (hb.mono hsb.2.2.size)
  rw [hnx]
  refine ⟨rfl, ⟨⟨((hsb.1.1.below hb hsb.1.1.lt).grown hg (n1 _ (by omega))).grown h2 (n2 _ (by omega)), hsb.1.2⟩, ⟨((hsb.2.1.1.below hb hl).grown hg (n1 _ (by omega))).grown h2 (n2 _ (by omega)), hsb.2.1.2⟩, ⟨_, h1, ?_⟩, ?_⟩⟩
  · simp only [List.map_append, List.map_cons, List.map_nil]
    exact hpu
  · have k1 : Below w.heap.size w w2 := hbw.grown hg hbw.size (fun i hi => by have := hqb i hi; omega)
    exact k1.grown h2 k1.size (fun i hi => by cases hi; omega)
theorem OpsSt.told {w W : World} {base target : List Int} {s : Nat × List POp} {V : Value} (h : OpsSt w base target s V W) : BlkB W w.heap.size base ∧ BlkB W (w.heap.size + 1) target ∧ Below w.heap.size w W := ⟨h.b1, h.b2, h.bel⟩
theorem wpList_load_block {P : Program} {ops : Array Oper} {rest : List Oper} {o : Oper} {a : Act} {w : World} {Q : Exit → Act → World → Prop} (hgd : o.guard = none) (ty : TypeId) (x : Operand) (ho : o.op = .load ty x)
    (g : Nat) (hx : a.eval x = .pointer (some ⟨g, 0, none⟩)) (t : TypeId) (cs : Array Value) (d : TypeDesc) (hg : Blk w g t cs)
    (hu : P.underlying ty = some d) (hd : (match d with | .struct _ | .array _ _ => true | _ => false) = true) (n : Nat) (hi : (P.info? ty).map (·.size) = some n) (hn : cs.size = n)
    (h : wpList P ops Q rest (a.put o.dst (.agg cs)) w) : wpList P ops Q (o :: rest) a w :=
  wpList_load_row hgd ty x ho g hx t cs (0, 0) d hg hu hd (by rw [hi, hn]) h
theorem size_block : (Tryd.prog.info? 23).map (·.size) = some 64 := by kernel_rfl
set_option maxHeartbeats 2000000 in
theorem ops_any (w : World) (base target : List Int) (hb : base.length = 64) (hb8 : u8Ok base) (ht : target.length = 64) (ht8 : u8Ok target) :
    Calls Tryd.prog 17 #[.agg (u8s base).toArray, .agg (u8s target).toArray] w fun e w' => ∃ V k ps, e = .returned V ∧ Hid (OwnOps w' (w.heap.size + 2) V ps ∧ ps.map (·.1) = (opsN base target k).2 ∧ (opsN base target k).1 = 64 ∧ Below w.heap.size w w') := by
  obtain ⟨C, hC⟩ : ∃ C, C = (u8s base).toArray := ⟨_, rfl⟩
  obtain ⟨D, hD⟩ : ∃ D, D = (u8s target).toArray := ⟨_, rfl⟩
  have HCs : Hid (C.size = 64) := by rw [hC]; simp [Hid, u8s_length, hb]
  have HDs : Hid (D.size = 64) := by rw [hD]; simp [Hid, u8s_length, ht]
  rw [← hC, ← hD]
  have HC := Lib.hid hC
  have HD := Lib.hid hD
  clear hC hD
  have HS : Hid (OpsSt w base target (0, []) (.slice none 0 0) ((w.alloc (.cells C 23)).alloc (.cells D 23))) := by
    rw [HC.out, HD.out]
    have e : (w.alloc (.cells (u8s base).toArray 23)).heap.size = w.heap.size + 1 := by simp
    have k2 := BlkB.new (w.alloc (.cells (u8s base).toArray 23)) target ht ht8
    rw [e] at k2
    exact ⟨(BlkB.new w base hb hb8).below (B := w.heap.size + 1) ((Below.refl _ _).alloc (by omega) _) (by omega), k2, ⟨[], OwnOps.nil _ _, rfl⟩, (below_box _ _).alloc (by simp) _⟩
  go_enter Tryd.func17, Tryd.ntmps17
  go_wp2_with fail
  go_loopw [5, 6] (fun V av wr => ∃ k a : Nat, a ≤ 64 ∧ av = .int .i64 a ∧ Hid ((opsN base target k).1 = a ∧ OpsSt w base target (opsN base target k) V wr)) (fun _ av _ => 64 - (intOf av).toNat)
  case atStart => exact ⟨0, 0, by omega, rfl, rfl, HS⟩
  case round =>
    obtain ⟨k, a, ha, rfl, HJ⟩ := hrel
    clear HS
    have hc1 := Lib.hid HJ.out.2.b1.1
    have hc2 := Lib.hid HJ.out.2.b2.1
    rw [← HC.out] at hc1
    rw [← HD.out] at hc2
    by_cases ha64 : a < 64
    · go_wp2_with (first | (refine wpList_load_block rfl 23 (.tmp 2) rfl w.heap.size rfl 23 C _ hc1.out Tryd.underlying23 rfl 64 size_block HCs.out ?_) | (refine wpList_load_block rfl 23 (.tmp 3) rfl (w.heap.size + 1) rfl 23 D _ hc2.out Tryd.underlying23 rfl 64 size_block HDs.out ?_))
      have HM := Lib.hid (match_any wr base target a hb hb8 ht ht8 (by omega) (by omega))
      rw [← HC.out, ← HD.out] at HM
      refine HM.out.mono ?_
      rintro e w1 ⟨p, hp, rfl, hb1⟩
      rw [if_pos ⟨by omega, by omega⟩, Int.toNat_natCast] at hp
      have HP := Lib.hid hp
      have HJ1 := Lib.hid (HJ.out.2.below hb1.out)
      have HA := Lib.hid HJ.out.1
      have hinv := opsN_inv base target hb ht ht8 k
      have hmr := (matchS_is base target a).le_right
      rw [List.length_drop, ht, ← hp] at hmr
      obtain ⟨ps, hps, hpe⟩ := HJ1.out.own
      have hpl : ps.length ≤ 64 := by
        have h1 := hinv.count
        have h2 := hinv.le
        have h3 : ps.length = (opsN base target k).2.length := by rw [← hpe]; simp
        omega
      have HPS := Lib.hid hps
      have HPE := Lib.hid hpe
      clear HJ HM hp hb1 hinv hps hpe hc1 hc2
      have hs2 : w.heap.size + 2 ≤ w1.heap.size := by have := HJ1.out.b2.1.lt; omega
      by_cases h4 : 4 ≤ p.2
      · have HN := Lib.hid (opsN_copy HA.out ha64 (by rw [← HP.out]; exact h4))
        rw [← HP.out] at HN
        go_wp2_with (at_builtin; refine wpList_append_el rfl (.tmp 21) (.tmp 25) 27 rfl (w.heap.size + 2) 50 _ 4 48 Tryd.underlying27 info_op rfl (by decide) _ ps.length _ [.bool true, .int .i64 p.1, .int .i64 p.2, .slice none 0 0] rfl HPS.out.own rfl rfl (by simp [Value.oneCell']) (by omega) (by simp only [maxLen]; omega) hs2 ?_; intro A1 c1 w2 ho hg hn; have HO := Lib.hid ho; have HG := Lib.hid hg; clear ho hg hn)
        go_roundw
        case rel =>
          refine ⟨k + 1, a + p.2, by omega, by go_num, ?_⟩
          have hpush := HJ1.out.push ps HPS.out HPE.out (copyOp p) rfl _ HO.out HG.out (a + p.2)
          refine ⟨by rw [HN.out], ?_⟩
          rw [HN.out]
          exact hpush.1
        case measure => simp [intOf]; omega
      · have HN := Lib.hid (opsN_lit HA.out ha64 (by rw [← HP.out]; exact h4))
        obtain ⟨bd, x, hbd, hx0, hx1, hx, hcx⟩ := HJ1.out.b2.rb.atL a ha64
        cases hbd
        rw [add_plain] at hcx
        have hxd : target.getD a 0 = x := by rw [List.getD_eq_getElem?_getD, hx.out]; rfl
        rw [hxd] at HN
        clear hxd
        have push : ∀ (c : Array Value) (A1 : Option Addr) (c1 : Nat) (w2 : World), Hid (ps = [] ∨ ∃ qs q, ps = qs ++ [q] ∧ q.1.copy = true) → w2.ownsRow (w.heap.size + 2) 50 4 (.slice A1 (ps.length + 1) c1) (ps.length + 1) (ps.flatMap cells4 ++ cells4 (⟨false, 0, 0, []⟩, .slice none 0 0)) →
            (w1.alloc (.cells c 50)).grownBy w2 u5.ownBlock → ∃ g, A1 = some ⟨g, 0, none⟩ ∧ Hid (OwnOps w2 (w.heap.size + 2) (.slice (some ⟨g, 0, none⟩) (ps.length + 1) c1) (ps ++ [(⟨false, 0, 0, []⟩, .slice none 0 0)])) ∧
              Hid (BlkB w2 w.heap.size base ∧ BlkB w2 (w.heap.size + 1) target ∧ Below w.heap.size w w2) ∧ Hid (ps.map (·.1) ++ [⟨false, 0, 0, [] ++ [x]⟩] = pushB (opsN base target k).2 x) ∧
              w2.cell? ⟨g, ps.length * 4 + 3, none⟩ = some (.slice none 0 0) ∧ w2.frozen? ⟨g, ps.length * 4 + 3, none⟩ = false ∧ g < w2.heap.size ∧ w2.cell? ⟨w.heap.size + 1, a, none⟩ = some (.int .u8 x) ∧ w.heap.size + 2 ≤ w2.heap.size := by
          intro c A1 c1 w2 hcase ho hg
          have hp := HJ1.out.push ps HPS.out HPE.out ⟨false, 0, 0, []⟩ rfl c ho hg 0
          obtain ⟨g, c', hV, _, hcs, hcf, hgb, hown⟩ := hp.2.last
          cases hV
          refine ⟨g, rfl, hp.2, hp.1.told, ?_, hcs, hcf, own_lt hown g rfl, ?_, ?_⟩
          · rcases hcase with hz | ⟨qs, q, hq, hqc⟩
            · have := HPE.out
              rw [hz] at this ⊢
              rw [← this]
              rfl
            · have := HPE.out
              rw [hq] at this ⊢
              rw [← this, List.map_append, List.map_cons, List.map_nil, pushB_copy _ _ _ hqc]
              rfl
          · obtain ⟨bd, y, hbd, _, _, hy, hcy⟩ := hp.1.b2.rb.atL a ha64
            cases hbd
            rw [add_plain] at hcy
            have : some y = some x := by rw [← hy.out, hx.out]
            cases this
            exact hcy
          · have := hp.1.b2.1.lt
            omega
        have PUSH := Lib.hid push
        clear push
        rcases List.eq_nil_or_concat ps with hpz | ⟨qs, q, hpz⟩
        · obtain ⟨AV, cV, hVV, _⟩ := own_slice HPS.out.own
          have HCASE : Hid (ps = [] ∨ ∃ qs q, ps = qs ++ [q] ∧ q.1.copy = true) := .inl hpz
          have hpl0 : ps.length = 0 := by rw [hpz]; rfl
          have HPZ := Lib.hid hpz
          rw [hpl0] at hVV
          have HVV := Lib.hid hVV
          rw [hVV]
          clear hpz hVV
          go_wp2_with (at_builtin; refine wpList_append_el rfl (.tmp 42) (.tmp 44) 27 rfl (w.heap.size + 2) 50 _ 4 48 Tryd.underlying27 info_op rfl (by decide) _ ps.length _ [.bool false, .int .i64 0, .int .i64 0, .slice none 0 0] rfl (by rw [← HVV.out]; exact HPS.out.own) rfl rfl (by simp [Value.oneCell']) (by omega) (by simp only [maxLen]; omega) hs2 ?_; intro A1 c1 w2 ho hg hn; rw [← HVV.out] at hg; have hP := PUSH.out _ A1 c1 w2 HCASE ho hg; obtain ⟨g, hA1, HPS2, HSB, HPU, hcs, hcf, hglt, hcx2, hs22⟩ := hP; rw [hA1]; clear ho hg hn hcx PUSH)
          simp only [hpl0, Nat.zero_mul, Nat.zero_add] at hcs hcf
          have hs2 := hs22
          have HB1 : Hid (Below w2.heap.size w2 (w2.alloc (.cells #[.int .u8 x] 5)).drew) := (below_box _ _).drew
          have HOQ := Lib.hid (own_below (HPS2.out.each (⟨false, 0, 0, []⟩, .slice none 0 0) (by simp)).1 HB1.out)
          have HRB := Lib.hid (RB.box w2 5 x hx0 hx1)
          have hs3 : w.heap.size + 2 ≤ (w2.alloc (.cells #[.int .u8 x] 5)).drew.heap.size := by show _ ≤ (w2.alloc (.cells #[.int .u8 x] 5)).heap.size; simp; omega
          go_region_law (refine step_append_rb _ rfl (.tmp 55) (.tmp 59) 25 rfl (w.heap.size + 2) 5 Tryd.underlying25 info_u8 (.slice none 0 0) [] [x] (by simp [Act.eval]) HOQ.out _ 1 1 (by simp [Act.eval]) HRB.out (by simp) hs3 ?_; intro A9 c9 w9 ho hg hn; have HT := Lib.hid (ops_told HSB.out HPS2.out HB1.out hg ho hn ⟨hx0, hx1⟩ HPU.out HN.out); have hla := last_after HPS2.out HB1.out hg; simp only [hpl0, Nat.zero_mul, Nat.zero_add] at hla; have hl1 := hla.1; have hl2 := hla.2; clear hg ho hn hla)
          all_goals
            go_wp2_with fail
            simp only [hpl0, Nat.zero_mul, Nat.zero_add, List.nil_append, List.length_singleton] at HT
            go_roundw
            case rel => exact ⟨k + 1, a + 1, by omega, by go_num, HT.out⟩
            case measure => simp [intOf]; omega
        · rw [List.concat_eq_append] at hpz
          subst hpz
          have hpl2 := hpl
          rw [List.length_append, List.length_singleton] at hpl
          obtain ⟨g, c, hV, hcb, hcs, hcf, hgb, hown⟩ := HPS.out.last
          have hnz : (((qs.length : Int) + 1) == 0) = false := by simp; omega
          have hglt : g < w1.heap.size := own_lt hown g rfl
          have HV := Lib.hid hV
          cases hqc : q.1.copy
          · rw [hqc] at hcb
            have HPU : Hid (qs.map (·.1) ++ [{ q.1 with bytes := q.1.bytes ++ [x] }] = pushB (opsN base target k).2 x) := by
              have := HPE.out
              rw [List.map_append, List.map_cons, List.map_nil] at this
              rw [← this, pushB_lit _ _ _ hqc]
              rfl
            have hq64 : q.1.bytes.length + 1 ≤ 140737488355328 := by
              have := (opsN_inv base target hb ht ht8 k).told q.1 (by rw [← HPE.out]; simp) hqc
              omega
            have HSB := Lib.hid HJ1.out.told
            rw [hV] at HPS ⊢
            obtain ⟨Aq, cq, hq2, hqn⟩ := own_slice (HPS.out.each q (by simp)).1
            have HQ := Lib.hid hq2
            rw [hq2] at hcs
            clear hV hown hqc hq2 PUSH HPE
            go_wp2_with fail
            have HB1 : Hid (Below w1.heap.size w1 (w1.alloc (.cells #[.int .u8 x] 5)).drew) := (below_box _ _).drew
            have HOQ := Lib.hid (own_below (HPS.out.each q (by simp)).1 HB1.out)
            rw [HQ.out] at HOQ
            have HRB := Lib.hid (RB.box w1 5 x hx0 hx1)
            have hs3 : w.heap.size + 2 ≤ (w1.alloc (.cells #[.int .u8 x] 5)).drew.heap.size := by show _ ≤ (w1.alloc (.cells #[.int .u8 x] 5)).heap.size; simp; omega
            go_region_law (refine step_append_rb _ rfl (.tmp 55) (.tmp 59) 25 rfl (w.heap.size + 2) 5 Tryd.underlying25 info_u8 (.slice Aq q.1.bytes.length cq) q.1.bytes [x] (by simp [Act.eval]) HOQ.out _ 1 1 (by simp [Act.eval]) HRB.out hq64 hs3 ?_; intro A9 c9 w9 ho hg hn; rw [← HQ.out] at hg hn; have HT := Lib.hid (ops_told HSB.out HPS.out HB1.out hg ho hn ⟨hx0, hx1⟩ HPU.out HN.out); have hla := last_after HPS.out HB1.out hg; rw [HQ.out] at hla; have hl1 := hla.1; have hl2 := hla.2; clear hg ho hn hla)
            all_goals
              go_wp2_with fail
              rw [List.length_append, List.length_singleton] at HT
              go_roundw
              case rel => exact ⟨k + 1, a + 1, by omega, by go_num, HT.out⟩
              case measure => simp [intOf]; omega
          · rw [hqc] at hcb
            have HCASE : Hid (qs ++ [q] = [] ∨ ∃ rs r, qs ++ [q] = rs ++ [r] ∧ r.1.copy = true) := .inr ⟨qs, q, rfl, hqc⟩
            have hpl3 : (qs ++ [q]).length + 1 ≤ 65 := by omega
            rw [hV]
            clear hown hqc hcs hcf
            go_wp2_with (at_builtin; refine wpList_append_el rfl (.tmp 42) (.tmp 44) 27 rfl (w.heap.size + 2) 50 _ 4 48 Tryd.underlying27 info_op rfl (by decide) _ (qs ++ [q]).length _ [.bool false, .int .i64 0, .int .i64 0, .slice none 0 0] rfl (by rw [← HV.out]; exact HPS.out.own) rfl rfl (by simp [Value.oneCell']) (by omega) (by simp only [maxLen]; omega) hs2 ?_; intro A1 c1 w2 ho hg hn; rw [← HV.out] at hg; have hP := PUSH.out _ A1 c1 w2 HCASE ho hg; obtain ⟨g2, hA1, HPS2, HSB, HPU, hcs, hcf, hglt2, hcx2, hs22⟩ := hP; rw [hA1]; simp only [List.length_append, List.length_singleton] at hcs hcf; clear ho hg hn hcx PUSH)
            have hs2 := hs22
            have HB1 : Hid (Below w2.heap.size w2 (w2.alloc (.cells #[.int .u8 x] 5)).drew) := (below_box _ _).drew
            have HOQ := Lib.hid (own_below (HPS2.out.each (⟨false, 0, 0, []⟩, .slice none 0 0) (by simp)).1 HB1.out)
            have HRB := Lib.hid (RB.box w2 5 x hx0 hx1)
            have hs3 : w.heap.size + 2 ≤ (w2.alloc (.cells #[.int .u8 x] 5)).drew.heap.size := by show _ ≤ (w2.alloc (.cells #[.int .u8 x] 5)).heap.size; simp; omega
            go_region_law (refine step_append_rb _ rfl (.tmp 55) (.tmp 59) 25 rfl (w.heap.size + 2) 5 Tryd.underlying25 info_u8 (.slice none 0 0) [] [x] (by simp [Act.eval]) HOQ.out _ 1 1 (by simp [Act.eval]) HRB.out (by simp) hs3 ?_; intro A9 c9 w9 ho hg hn; have HT := Lib.hid (ops_told HSB.out HPS2.out HB1.out hg ho hn ⟨hx0, hx1⟩ HPU.out HN.out); have hla := last_after HPS2.out HB1.out hg; simp only [List.length_append, List.length_singleton] at hla; have hl1 := hla.1; have hl2 := hla.2; clear hg ho hn hla)
            all_goals
              go_wp2_with fail
              simp only [List.length_append, List.nil_append, List.length_singleton] at HT
              go_roundw
              case rel => exact ⟨k + 1, a + 1, by omega, by go_num, HT.out⟩
              case measure => simp [intOf]; omega
    · go_wp2_with fail
      obtain ⟨ps, hps, hpe⟩ := HJ.out.2.own
      obtain ⟨A, c, rfl, _⟩ := own_slice hps.own
      go_ret
      have : a = 64 := by omega
      exact ⟨_, k, ps, rfl, hps, hpe, by rw [HJ.out.1]; exact this, HJ.out.2.bel⟩
end Go.Proofs.YtcdjbfgkajfnlaaDoor
