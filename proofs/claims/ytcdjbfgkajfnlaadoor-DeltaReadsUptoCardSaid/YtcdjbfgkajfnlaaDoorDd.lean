/- Layer 10: the parts of bytes, walked. -/
import Derived.Test.YtcdjbfgkajfnlaaDoorPv
import Derived.Test.YtcdjbfgkajfnlaaDoorDe
namespace Go.Proofs.YtcdjbfgkajfnlaaDoor
open Go.RowKit

/-- One part taken off. -/
def decStep (s : List Int × Int × List POp) : List Int × Int × List POp :=
  if (boolS s.1 s.2.1).2.2 then
    ((boundS (boundS (boolS s.1 s.2.1).1 (boolS s.1 s.2.1).2.1 64 4 0).1 (boundS (boolS s.1 s.2.1).1 (boolS s.1 s.2.1).2.1 64 4 0).2.1 64 4 0).1,
      (boundS (boundS (boolS s.1 s.2.1).1 (boolS s.1 s.2.1).2.1 64 4 0).1 (boundS (boolS s.1 s.2.1).1 (boolS s.1 s.2.1).2.1 64 4 0).2.1 64 4 0).2.1,
      s.2.2 ++ [⟨true, (boundS (boolS s.1 s.2.1).1 (boolS s.1 s.2.1).2.1 64 4 0).2.2, (boundS (boundS (boolS s.1 s.2.1).1 (boolS s.1 s.2.1).2.1 64 4 0).1 (boundS (boolS s.1 s.2.1).1 (boolS s.1 s.2.1).2.1 64 4 0).2.1 64 4 0).2.2, []⟩])
  else ((bytesS (boolS s.1 s.2.1).1 (boolS s.1 s.2.1).2.1 64).1, (bytesS (boolS s.1 s.2.1).1 (boolS s.1 s.2.1).2.1 64).2.1, s.2.2 ++ [⟨false, 0, 0, (bytesS (boolS s.1 s.2.1).1 (boolS s.1 s.2.1).2.1 64).2.2⟩])
def decN (b : List Int) (e : Int) : Nat → List Int × Int × List POp
  | 0 => (b, e, [])
  | k + 1 => decStep (decN b e k)
def decAll (b : List Int) : List Int × Int × List POp := decN (boundS b 0 64 4 2).1 (boundS b 0 64 4 2).2.1 (boundS b 0 64 4 2).2.2
/-- The parts of bytes, an error. -/
def decS (b : List Int) : List POp × Int := if doneS (decAll b).1 (decAll b).2.1 = 0 then ((decAll b).2.2, 0) else ([], 3)
theorem decN_len (b : List Int) (e : Int) : ∀ k, (decN b e k).2.2.length = k
  | 0 => rfl
  | k + 1 => by
    have := decN_len b e k
    simp only [decN, decStep]
    split <;> simp [this]
theorem decStep_copy (s : List Int × Int × List POp) {b1 : List Int} {e1 : Int} {b2 : List Int} {e2 : Int} {x : Nat} {b3 : List Int} {e3 : Int} {y : Nat} (h0 : boolS s.1 s.2.1 = (b1, e1, true)) (h1 : boundS b1 e1 64 4 0 = (b2, e2, x)) (h2 : boundS b2 e2 64 4 0 = (b3, e3, y)) :
    decStep s = (b3, e3, s.2.2 ++ [⟨true, x, y, []⟩]) := by
  unfold decStep
  rw [h0]
  simp only [if_true]
  rw [h1]
  simp only
  rw [h2]
theorem decStep_told (s : List Int × Int × List POp) {b1 : List Int} {e1 : Int} {b2 : List Int} {e2 : Int} {xs : List Int} (h0 : boolS s.1 s.2.1 = (b1, e1, false)) (h1 : bytesS b1 e1 64 = (b2, e2, xs)) :
    decStep s = (b2, e2, s.2.2 ++ [⟨false, 0, 0, xs⟩]) := by
  unfold decStep
  rw [h0]
  simp only [if_false, Bool.false_eq_true]
  rw [h1]
/-- Parts that were taken off. -/
structure DecOwn (w : World) (base g : Nat) (V : Value) (ps : List (POp × Value)) : Prop where
  own : w.ownsRow base 50 4 V ps.length (ps.flatMap cells4)
  each : ∀ p ∈ ps, ∃ A c, p.2 = .slice A p.1.bytes.length c ∧ RB w A p.1.bytes.length p.1.bytes ∧ p.1.bytes.length ≤ c ∧ (∀ ad, A = some ad → 0 < p.1.bytes.length → ad.block ≠ g ∧ some ad.block ≠ V.ownBlock) ∧ (0 ≤ p.1.frm ∧ p.1.frm ≤ 64) ∧ (0 ≤ p.1.len ∧ p.1.len ≤ 64)
theorem DecOwn.nil (w : World) (base g : Nat) : DecOwn w base g (.slice none 0 0) [] := ⟨own_nil _ _ _ _, fun p hp => (by cases hp)⟩
theorem DecOwn.below {w w' : World} {base g : Nat} {V : Value} {ps : List (POp × Value)} (h : DecOwn w base g V ps) (hb : Below w.heap.size w w') : DecOwn w' base g V ps :=
  ⟨own_below h.own hb, fun p hp => by
    obtain ⟨A, c, h1, h2, h3⟩ := h.each p hp
    exact ⟨A, c, h1, h2.below hb, h3⟩⟩
theorem DecOwn.reader {w w' : World} {base g : Nat} {V : Value} {ps : List (POp × Value)} {t : TypeId} {cs : Array Value} (h : DecOwn w base g V ps) (hg : w.grownBy w' (some g)) (hb : Blk w g t cs) (ht : 50 ≠ t) : DecOwn w' base g V ps := by
  refine ⟨h.own.kept hg ?_, fun p hp => ?_⟩
  · rcases hv : V.ownBlock with _ | i
    · exact .inl rfl
    · have := own_blk_ne h.own hb ht
      rw [hv] at this
      exact .inr this
  · obtain ⟨A, c, h1, h2, h3, h4, h5⟩ := h.each p hp
    exact ⟨A, c, h1, h2.grown hg (fun ad ea hn => by have := (h4 ad ea hn).1; simpa using this), h3, h4, h5⟩
theorem cells4_length (l : List (POp × Value)) : (l.flatMap cells4).length = l.length * 4 := by
  induction l with
  | nil => rfl
  | cons x l ih => simp [cells4, ih]; omega
theorem DecOwn.push {w W w' : World} {base g : Nat} {V V' : Value} {ps : List (POp × Value)} (h : DecOwn w base g V ps) (o : POp) (A : Option Addr) (c : Nat) (hb : Below w.heap.size w W) (hr : RB w A o.bytes.length o.bytes) (hc : o.bytes.length ≤ c)
    (hA : ∀ ad, A = some ad → 0 < o.bytes.length → ad.block ≠ g ∧ some ad.block ≠ V.ownBlock) (hf : 0 ≤ o.frm ∧ o.frm ≤ 64) (hl : 0 ≤ o.len ∧ o.len ≤ 64)
    (hown : w'.ownsRow base 50 4 V' (ps.length + 1) (ps.flatMap cells4 ++ cells4 (o, .slice A o.bytes.length c))) (hg : W.grownBy w' V.ownBlock) (hn : newRow W V V') :
    DecOwn w' base g V' (ps ++ [(o, .slice A o.bytes.length c)]) := by
  have new : ∀ (A : Option Addr) (xs : List Int), RB w A xs.length xs → (∀ ad, A = some ad → 0 < xs.length → ad.block ≠ g ∧ some ad.block ≠ V.ownBlock) → ∀ ad, A = some ad → 0 < xs.length → ad.block ≠ g ∧ some ad.block ≠ V'.ownBlock := by
    intro A xs hr hA ad ea hp
    refine ⟨(hA ad ea hp).1, ?_⟩
    rcases hn with hn | hn
    · rw [hn]; exact (hA ad ea hp).2
    · rw [hn]
      subst ea
      have h1 := hr.lt hp
      have h2 := hb.size
      intro e
      have := Option.some.inj e
      omega
  refine ⟨by simpa using hown, fun p hp => ?_⟩
  rcases List.mem_append.1 hp with hp | hp
  · obtain ⟨A1, c1, h1, h2, h3, h4, h5⟩ := h.each p hp
    exact ⟨A1, c1, h1, (h2.below hb).grown hg (fun ad ea hn' => (h4 ad ea hn').2), h3, new A1 _ h2 h4, h5⟩
  · simp only [List.mem_singleton] at hp
    subst hp
    exact ⟨A, c, rfl, (hr.below hb).grown hg (fun ad ea hn' => (hA ad ea hn').2), hc, new A _ hr hA, hf, hl⟩
theorem DecOwn.rops {w : World} {base g : Nat} {V : Value} {ps : List (POp × Value)} (h : DecOwn w base g V ps) (hn : ps.length ≤ 140737488355328) : ∃ A c, V = .slice A ps.length c ∧ ROps w A ps.length (ps.map (·.1)) ∧ ps.length ≤ c := by
  obtain ⟨A, c, rfl, hc⟩ := own_slice h.own
  refine ⟨A, c, rfl, ⟨by simp, ?_, fun hp => ?_⟩, hc⟩
  · exact hn
  · obtain ⟨gg, cc, hv, _⟩ := h.own.form hp
    cases hv
    refine ⟨gg, 0, rfl, fun j o ho => ?_⟩
    rw [List.getElem?_map] at ho
    obtain ⟨p, hp', rfl⟩ := Option.map_eq_some_iff.1 ho
    have hjl : j < ps.length := (List.getElem?_eq_some_iff.1 hp').1
    obtain ⟨A1, c1, h1, h2, h3, h4, h5, h6⟩ := h.each p (List.mem_of_getElem? hp')
    have hcell : ∀ i, i < 4 → w.cell? ⟨gg, 0 + j * 4 + i, none⟩ = (cells4 p)[i]? := by
      intro i hi
      rw [show 0 + j * 4 + i = j * 4 + i by omega, h.own.cellAt (j * 4 + i) (by omega)]
      have hsp : ps = ps.take j ++ p :: ps.drop (j + 1) := by
        have hpj : ps[j] = p := (List.getElem?_eq_some_iff.1 hp').2
        rw [← hpj, List.getElem_cons_drop, List.take_append_drop]
      have hfl : ps.flatMap cells4 = (ps.take j).flatMap cells4 ++ (cells4 p ++ (ps.drop (j + 1)).flatMap cells4) := by
        conv => lhs; rw [hsp]
        rw [List.flatMap_append, List.flatMap_cons]
      have hjt : ((ps.take j).flatMap cells4).length = j * 4 := by rw [cells4_length, List.length_take]; omega
      rw [hfl, List.getElem?_append_right (by omega), hjt, show j * 4 + i - j * 4 = i by omega, List.getElem?_append_left (by simp [cells4]; omega)]
    refine ⟨A1, c1, ?_, ?_, ?_, ?_, h2, h3, ⟨by omega, by omega⟩, ⟨by omega, by omega⟩⟩
    · have := hcell 0 (by omega); simpa [cells4] using this
    · have := hcell 1 (by omega); simpa [cells4] using this
    · have := hcell 2 (by omega); simpa [cells4] using this
    · have := hcell 3 (by omega); rw [← h1]; simpa [cells4] using this
structure DSt (w : World) (V : Value) (ps : List (POp × Value)) (b : List Int) (e : Int) (W : World) : Prop where
  own : DecOwn W (w.heap.size + 1) w.heap.size V ps
  rd : Rd W w.heap.size b e
  bel : Below w.heap.size w W
theorem DSt.below {w W W' : World} {V : Value} {ps : List (POp × Value)} {b : List Int} {e : Int} (h : DSt w V ps b e W) (hb : Below W.heap.size W W') : DSt w V ps b e W' := ⟨h.own.below hb, h.rd.below hb, h.bel.trans (hb.mono h.bel.size)⟩
theorem DSt.rx {w W W' : World} {V : Value} {ps : List (POp × Value)} {b b' : List Int} {e e' : Int} (h : DSt w V ps b e W) (k : Rx W w.heap.size b' e' W') : DSt w V ps b' e' W' := by
  obtain ⟨A, c, hb, _⟩ := h.rd
  exact ⟨h.own.reader k.gr hb (by decide), k.rd, h.bel.grown k.gr h.bel.size (fun i hi => by cases hi; exact Nat.le_refl _)⟩
/-- Cells none of which is a byte. -/
def noByte (cs : Array Value) : Prop := ∀ (i : Nat) (x : Int), cs[i]? ≠ some (Value.int .u8 x)
theorem RB.ne_blk {w : World} {ad : Addr} {n : Nat} {xs : List Int} {q : Nat} {t : TypeId} {cs : Array Value} (h : RB w (some ad) n xs) (hn : 0 < n) (hb : Blk w q t cs) (hc : noByte cs) : ad.block ≠ q := by
  obtain ⟨ad', x, e, _, _, _, hx⟩ := h.atL 0 hn
  cases e
  rintro rfl
  have h0 : ad.add 0 = ad := by simp [Addr.add]
  rw [h0] at hx
  obtain ⟨b, off, sp⟩ := ad
  have hb' : w.heap[b]? = some (.cells cs t (0, 0)) := hb
  simp only [World.cell?, hb'] at hx
  split at hx
  · cases hx
  · exact hc off x hx
theorem DSt.setCell {w W : World} {V : Value} {ps : List (POp × Value)} {b : List Int} {e : Int} {cs : Array Value} {q : Nat} (h : DSt w V ps b e W) (hb : Blk W q 50 cs) (hcs : noByte cs) (hV : some q ≠ V.ownBlock) (hq : w.heap.size < q) (i : Nat) (v : Value) :
    DSt w V ps b e (W.setCell ⟨q, i, none⟩ v) := by
  have hg := grown_setCell (World.grownBy.refl W (some q)) (p := ⟨q, i, none⟩) (.inl rfl) v
  refine ⟨⟨h.own.own.kept hg ?_, fun p hp => ?_⟩, ?_, h.bel.setCell (by simp only; omega) v⟩
  · rcases hv : V.ownBlock with _ | k
    · exact .inl rfl
    · exact .inr (fun e => hV (by rw [hv, e]))
  · obtain ⟨A, c, h1, h2, h3⟩ := h.own.each p hp
    exact ⟨A, c, h1, h2.grown hg (fun ad ea hn => by subst ea; have := h2.ne_blk hn hb hcs; simpa using this), h3⟩
  · obtain ⟨A, c, k1, k2, k3, k4⟩ := h.rd
    exact ⟨A, c, k1.far (by simp only; omega) v, k2.grown hg (fun ad ea hn => by subst ea; have := k2.ne_blk hn hb hcs; simpa using this), k3, k4⟩
theorem noByte4 (v0 v1 v2 v3 : Value) (h0 : ∀ x : Int, v0 ≠ Value.int .u8 x) (h1 : ∀ x : Int, v1 ≠ Value.int .u8 x) (h2 : ∀ x : Int, v2 ≠ Value.int .u8 x) (h3 : ∀ x : Int, v3 ≠ Value.int .u8 x) : noByte #[v0, v1, v2, v3] := by
  intro i x e
  match i with
  | 0 => exact h0 x (by simpa using e)
  | 1 => exact h1 x (by simpa using e)
  | 2 => exact h2 x (by simpa using e)
  | 3 => exact h3 x (by simpa using e)
  | k + 4 => simp at e
/-- Behind the append. -/
theorem DSt.push {w W W1 w' : World} {V V' : Value} {ps : List (POp × Value)} {b : List Int} {e : Int} (h : DSt w V ps b e W) (o : POp) (A : Option Addr) (c : Nat) (hb : Below W.heap.size W W1) (hr : RB W A o.bytes.length o.bytes) (hc : o.bytes.length ≤ c)
    (hA : ∀ ad, A = some ad → 0 < o.bytes.length → ad.block ≠ w.heap.size ∧ some ad.block ≠ V.ownBlock) (hf : 0 ≤ o.frm ∧ o.frm ≤ 64) (hl : 0 ≤ o.len ∧ o.len ≤ 64)
    (hown : w'.ownsRow (w.heap.size + 1) 50 4 V' (ps.length + 1) (ps.flatMap cells4 ++ cells4 (o, .slice A o.bytes.length c))) (hg : W1.grownBy w' V.ownBlock) (hn : newRow W1 V V') :
    DSt w V' (ps ++ [(o, .slice A o.bytes.length c)]) b e w' := by
  have hVb := own_base h.own.own
  refine ⟨h.own.push o A c hb hr hc hA hf hl hown hg hn, ?_, ?_⟩
  · obtain ⟨A1, c1, k1, k2, k3, k4⟩ := h.rd.below hb
    refine ⟨A1, c1, k1.grown hg (fun e => ?_), k2.grown hg (fun ad ea hn e => ?_), k3, k4⟩
    · have := hVb _ e.symm; omega
    · have := hVb _ e.symm
      have := k4 ad ea hn
      omega
  · have h1 := h.bel.trans (hb.mono h.bel.size)
    exact h1.grown hg h1.size (fun k hk => by have := hVb k hk; omega)
set_option maxHeartbeats 4000000 in
theorem decode_any (w : World) (A : Option Addr) (n c : Nat) (b : List Int) (hr : RB w A n b) (hc : n ≤ c) :
    Calls Tryd.prog 7 #[.slice A n c] w fun e w' => ∃ V, e = .returned (.tuple #[V, errV (decS b).2]) ∧ Hid (∃ A c, V = .slice A (decS b).1.length c ∧ ROps w' A (decS b).1.length (decS b).1 ∧ (decS b).1.length ≤ c ∧ Below w.heap.size w w') := by
  have hle := boundS_le b 0 64 4 2
  have hok := hr.2.2.1
  go_enter Tryd.func7, Tryd.ntmps7
  go_wp2_with fail
  refine (read_any w A n c b hr hc).mono ?_
  rintro e w1 ⟨rfl, H1⟩
  clear hr
  go_wp2_with fail
  refine (count_any w1 w.heap.size b 0 64 H1.out.1 (by omega) (by omega)).mono ?_
  simp only [show Int.toNat 64 = 64 from rfl]
  rintro e w2 ⟨rfl, H2⟩
  obtain ⟨⟨b1, e1, N⟩, hB⟩ : ∃ q, q = boundS b 0 64 4 2 := ⟨_, rfl⟩
  have HBd := Lib.hid hB
  rw [← hB] at hle H2 ⊢
  simp only at hle H2 ⊢
  clear hB
  have hbg := H1.out.2.size
  have HST : Hid (Rd w2 w.heap.size b1 e1 ∧ Below w.heap.size w w2) := by
    refine ⟨H2.out.rd, H1.out.2.grown H2.out.gr H1.out.2.size ?_⟩
    intro k hk; cases hk; omega
  clear H1 H2
  go_wp2_with fail
  go_loopw [5, 11] (fun V iv wr => ∃ j : Nat, j ≤ N ∧ iv = .int .i64 j ∧ Hid (∃ ps, DecOwn wr (w.heap.size + 1) w.heap.size V ps ∧ ps.map (·.1) = (decN b1 e1 j).2.2 ∧ Rd wr w.heap.size (decN b1 e1 j).1 (decN b1 e1 j).2.1 ∧ Below w.heap.size w wr)) (fun _ iv _ => N - (intOf iv).toNat)
  case atStart => exact ⟨0, by omega, rfl, [], DecOwn.nil _ _ _, rfl, HST.out⟩
  case round =>
    obtain ⟨j, hj, rfl, HJ⟩ := hrel
    clear HST
    obtain ⟨ps, hps, hpe, hrd, hbl⟩ := HJ.out
    have HPS := Lib.hid hps
    have HPE := Lib.hid hpe
    have HRD := Lib.hid hrd
    have HBL := Lib.hid hbl
    have hpl : ps.length = j := by
      have := decN_len b1 e1 j
      rw [← hpe] at this
      simpa using this
    have HPL := Lib.hid hpl
    have hpl1 : ps.length ≤ j := by omega
    clear HJ hps hpe hrd hbl hpl
    obtain ⟨AV, cV, hV, _⟩ := own_slice HPS.out.own
    by_cases hjn : j < N
    · have hgl := HRD.out.lt
      have HD0 : Hid (DSt w u5 ps (decN b1 e1 j).1 (decN b1 e1 j).2.1 wr) := ⟨HPS.out, HRD.out, HBL.out⟩
      obtain ⟨⟨b2, e2, cc⟩, hq⟩ : ∃ q, q = boolS (decN b1 e1 j).1 (decN b1 e1 j).2.1 := ⟨_, rfl⟩
      have hbool := rbool_any wr w.heap.size _ _ HRD.out
      rw [← hq] at hbool
      have HBOOL := Lib.hid hbool
      have HQ := Lib.hid hq.symm
      clear hbool hq HPS HRD HBL
      rw [hV] at HD0 ⊢
      have HV := Lib.hid hV
      clear hV
      cases cc
      · obtain ⟨⟨b3, e3, xs⟩, hq1⟩ : ∃ q, q = bytesS b2 e2 64 := ⟨_, rfl⟩
        have hu1 := fun (W : World) (h : Rd W w.heap.size b2 e2) => rbytes_any W w.heap.size b2 e2 64 h (by omega) (by omega)
        rw [← hq1] at hu1
        have HU1 := Lib.hid hu1
        have HST := Lib.hid (decStep_told (decN b1 e1 j) HQ.out hq1.symm)
        clear hu1 hq1
        go_wp2_with fail
        refine HBOOL.out.mono ?_
        rintro e w3 ⟨rfl, H3⟩
        have HD3 := Lib.hid (HD0.out.rx H3.out)
        go_wp2_with fail
        have HD4 := Lib.hid (HD3.out.below (below_box w3 (.cells #[.bool false, .int .i64 0, .int .i64 0, .slice none 0 0] 50)))
        have HBK : Hid (Blk (w3.alloc (.cells #[.bool false, .int .i64 0, .int .i64 0, .slice none 0 0] 50)) w3.heap.size 50 #[.bool false, .int .i64 0, .int .i64 0, .slice none 0 0]) := Blk.new _ _ _
        have hg3 : w.heap.size < w3.heap.size := HD3.out.rd.lt
        refine (HU1.out _ HD4.out.rd).mono ?_
        intro e w5 h5
        obtain ⟨A5, c5, rfl, H5⟩ := h5
        have HD5 := Lib.hid (HD4.out.rx H5.out.2.2.2.2)
        have HB5 := Lib.hid (HBK.out.grown H5.out.2.2.2.2.gr (by simp; omega))
        have c0 := HB5.out.cell 0
        have c1 := HB5.out.cell 1
        have c2 := HB5.out.cell 2
        have c3 := HB5.out.cell 3
        have f3 := HB5.out.frozen 3
        simp only [List.getElem?_toArray, List.getElem?_cons_succ, List.getElem?_cons_zero] at c0 c1 c2 c3
        have hVlt : ∀ k, AV.map (·.block) = some k → k < w3.heap.size := fun k hk => own_lt HD3.out.own.own k (by cases AV with | none => simp at hk | some a => simpa [Value.ownBlock] using hk)
        have hVne : ∀ q, w3.heap.size ≤ q → some q ≠ (Value.slice AV ps.length cV).ownBlock := by
          intro q hq e
          cases AV with
          | none => simp [Value.ownBlock] at e
          | some a => have := hVlt a.block rfl; have := Option.some.inj e; omega
        have HN5 : Hid (noByte #[.bool false, .int .i64 0, .int .i64 0, .slice none 0 0]) := noByte4 _ _ _ _ (by intro; simp) (by intro; simp) (by intro; simp) (by intro; simp)
        have HD7 : Hid (DSt w (.slice AV ps.length cV) ps b3 e3 (w5.setCell ⟨w3.heap.size, 3, none⟩ (.slice A5 xs.length c5))) :=
          HD5.out.setCell HB5.out HN5.out (hVne _ (Nat.le_refl _)) (by omega) 3 _
        have HR7 : Hid (RB (w5.setCell ⟨w3.heap.size, 3, none⟩ (.slice A5 xs.length c5)) A5 xs.length xs) := by
          refine H5.out.1.grown (grown_setCell (World.grownBy.refl w5 (some w3.heap.size)) (p := ⟨w3.heap.size, 3, none⟩) (.inl rfl) _) fun ad ea hn => ?_
          subst ea
          have := H5.out.1.ne_blk hn HB5.out HN5.out
          simpa using this
        have HA7 : Hid (∀ ad, A5 = some ad → 0 < xs.length → ad.block ≠ w.heap.size ∧ some ad.block ≠ (Value.slice AV ps.length cV).ownBlock) := by
          intro ad ea hn
          have h1 := H5.out.2.2.2.1 ad ea hn
          have h2 : w3.heap.size ≤ ad.block := Nat.le_trans (by simp) h1
          exact ⟨by omega, hVne _ h2⟩
        have hs7 : w.heap.size + 1 ≤ (w5.setCell ⟨w3.heap.size, 3, none⟩ (.slice A5 xs.length c5)).heap.size := by have := HD7.out.rd.lt; omega
        clear HD4 HD5 HBK H3 hVlt hVne HB5 HN5
        go_wp2_with (at_builtin; refine wpList_append_el2 rfl (.tmp 29) (.tmp 31) 27 rfl (w.heap.size + 1) 50 _ 4 48 Tryd.underlying27 info_op rfl (by decide) _ ps.length _ [.bool false, .int .i64 0, .int .i64 0, .slice A5 xs.length c5] rfl HD7.out.own.own w5.heap.size (by simp [World.setCell]) rfl rfl (by simp [Value.oneCell']) (by omega) (by simp only [maxLen]; omega) hs7 ?_; intro A8 c8 w8 ho hg hn; have HO := Lib.hid ho; have HG := Lib.hid hg; have HN := Lib.hid hn; clear ho hg hn)
        go_roundw
        case rel =>
          refine ⟨j + 1, by omega, by go_num, ps ++ [(⟨false, 0, 0, xs⟩, .slice A5 xs.length c5)], ?_⟩
          have hp := HD7.out.push ⟨false, 0, 0, xs⟩ A5 c5 (below_box _ _) HR7.out H5.out.2.1 HA7.out ⟨by simp only; omega, by simp only; omega⟩ ⟨by simp only; omega, by simp only; omega⟩ HO.out HG.out HN.out
          refine ⟨hp.own, ?_, ?_, hp.bel⟩
          · simp only [decN, HST.out, List.map_append, HPE.out]
            rfl
          · simp only [decN, HST.out]
            exact hp.rd
        case measure => simp [intOf]; omega
      · obtain ⟨⟨b3, e3, x⟩, hq1⟩ : ∃ q, q = boundS b2 e2 64 4 0 := ⟨_, rfl⟩
        obtain ⟨⟨b4, e4, y⟩, hq2⟩ : ∃ q, q = boundS b3 e3 64 4 0 := ⟨_, rfl⟩
        have hx := boundS_le b2 e2 64 4 0
        have hy := boundS_le b3 e3 64 4 0
        rw [← hq1] at hx
        rw [← hq2] at hy
        simp only at hx hy
        have hu1 := fun (W : World) (h : Rd W w.heap.size b2 e2) => runit_any W w.heap.size b2 e2 64 h (by omega) (by omega)
        have hu2 := fun (W : World) (h : Rd W w.heap.size b3 e3) => runit_any W w.heap.size b3 e3 64 h (by omega) (by omega)
        simp only [show Int.toNat 64 = 64 from rfl] at hu1 hu2
        rw [← hq1] at hu1
        rw [← hq2] at hu2
        have HU1 := Lib.hid hu1
        have HU2 := Lib.hid hu2
        have HST := Lib.hid (decStep_copy (decN b1 e1 j) HQ.out hq1.symm hq2.symm)
        clear hu1 hu2 hq1 hq2
        go_wp2_with fail
        refine HBOOL.out.mono ?_
        rintro e w3 ⟨rfl, H3⟩
        have HD3 := Lib.hid (HD0.out.rx H3.out)
        go_wp2_with fail
        have HD4 := Lib.hid (HD3.out.below (below_box w3 (.cells #[.bool true, .int .i64 0, .int .i64 0, .slice none 0 0] 50)))
        have HBK : Hid (Blk (w3.alloc (.cells #[.bool true, .int .i64 0, .int .i64 0, .slice none 0 0] 50)) w3.heap.size 50 #[.bool true, .int .i64 0, .int .i64 0, .slice none 0 0]) := Blk.new _ _ _
        have hg3 : w.heap.size < w3.heap.size := HD3.out.rd.lt
        refine (HU1.out _ HD4.out.rd).mono ?_
        rintro e w5 ⟨rfl, H5⟩
        have HD5 := Lib.hid (HD4.out.rx H5.out)
        have HB5 := Lib.hid (HBK.out.grown H5.out.gr (by simp; omega))
        go_wp2_with fail
        refine (HU2.out _ HD5.out.rd).mono ?_
        rintro e w6 ⟨rfl, H6⟩
        have HD6 := Lib.hid (HD5.out.rx H6.out)
        have HB6 := Lib.hid (HB5.out.grown H6.out.gr (by simp; omega))
        have c0 := HB6.out.cell 0
        have c1 := HB6.out.cell 1
        have c2 := HB6.out.cell 2
        have c3 := HB6.out.cell 3
        have f1 := HB6.out.frozen 1
        have f2 := HB6.out.frozen 2
        simp only [List.getElem?_toArray, List.getElem?_cons_succ, List.getElem?_cons_zero] at c0 c1 c2 c3
        clear HD4 HD5 HB5 HBK H3 H5
        have hVlt : ∀ k, AV.map (·.block) = some k → k < w3.heap.size := fun k hk => own_lt HD3.out.own.own k (by cases AV with | none => simp at hk | some a => simpa [Value.ownBlock] using hk)
        have hVne : some w3.heap.size ≠ (Value.slice AV ps.length cV).ownBlock := by
          intro e
          cases AV with
          | none => simp [Value.ownBlock] at e
          | some a => have := hVlt a.block rfl; have := Option.some.inj e; omega
        have HD7 : Hid (DSt w (.slice AV ps.length cV) ps b4 e4 ((w6.setCell ⟨w3.heap.size, 1, none⟩ (.int .i64 x)).setCell ⟨w3.heap.size, 2, none⟩ (.int .i64 y))) := by
          refine (HD6.out.setCell HB6.out (noByte4 _ _ _ _ (by intro; simp) (by intro; simp) (by intro; simp) (by intro; simp)) hVne (by omega) 1 _).setCell (cs := #[.bool true, .int .i64 x, .int .i64 0, .slice none 0 0]) ?_ (noByte4 _ _ _ _ (by intro; simp) (by intro; simp) (by intro; simp) (by intro; simp)) hVne (by omega) 2 _
          simpa using HB6.out.set_ 1 (.int .i64 x)
        have hs7 : w.heap.size + 1 ≤ ((w6.setCell ⟨w3.heap.size, 1, none⟩ (.int .i64 x)).setCell ⟨w3.heap.size, 2, none⟩ (.int .i64 y)).heap.size := by have := HD7.out.rd.lt; omega
        clear HD6 hVlt hVne
        go_wp2_with (at_builtin; refine wpList_append_el2 rfl (.tmp 29) (.tmp 31) 27 rfl (w.heap.size + 1) 50 _ 4 48 Tryd.underlying27 info_op rfl (by decide) _ ps.length _ [.bool true, .int .i64 x, .int .i64 y, .slice none 0 0] rfl HD7.out.own.own w6.heap.size (by simp [World.setCell]) rfl rfl (by simp [Value.oneCell']) (by omega) (by simp only [maxLen]; omega) hs7 ?_; intro A8 c8 w8 ho hg hn; have HO := Lib.hid ho; have HG := Lib.hid hg; have HN := Lib.hid hn; clear ho hg hn)
        go_roundw
        case rel =>
          refine ⟨j + 1, by omega, by go_num, ps ++ [(⟨true, x, y, []⟩, .slice none 0 0)], ?_⟩
          have hp := HD7.out.push ⟨true, x, y, []⟩ none 0 (below_box _ _) (RB.none_ _) (Nat.le_refl _) (fun _ h => (by cases h)) ⟨by simp only; omega, by simp only; omega⟩ ⟨by simp only; omega, by simp only; omega⟩ HO.out HG.out HN.out
          refine ⟨hp.own, ?_, ?_, hp.bel⟩
          · simp only [decN, HST.out, List.map_append, HPE.out]
            rfl
          · simp only [decN, HST.out]
            exact hp.rd
        case measure => simp [intOf]; omega
    · have hdone := rdone_any wr w.heap.size _ _ HRD.out
      have hjN : j = N := by omega
      have hdec : decS b = if doneS (decN b1 e1 N).1 (decN b1 e1 N).2.1 = 0 then ((decN b1 e1 N).2.2, 0) else ([], 3) := by
        unfold decS decAll
        rw [← HBd.out]
      rw [← hjN] at hdec
      rw [hV] at HPS ⊢
      by_cases hd : doneS (decN b1 e1 j).1 (decN b1 e1 j).2.1 = 0
      · rw [hd, errV_zero] at hdone
        rw [if_pos hd] at hdec
        have HDN := Lib.hid hdone
        have HDC := Lib.hid hdec
        clear hd hdone hdec hjN hV
        go_wp2_with fail
        refine HDN.out.mono ?_
        rintro e w3 ⟨rfl, rfl⟩
        go_wp2_with fail
        go_ret2
        obtain ⟨A9, c9, hV9, hro, hc9⟩ := HPS.out.rops (by omega)
        cases hV9
        rw [HDC.out]
        refine ⟨_, rfl, AV, cV, ?_, ?_, ?_, HBL.out⟩
        · rw [← HPE.out]; simp
        · rw [← HPE.out]; simpa using hro
        · rw [← HPE.out]; simpa using hc9
      · rw [errV_some _ hd] at hdone
        rw [if_neg hd] at hdec
        have HDN := Lib.hid hdone
        have HDC := Lib.hid hdec
        clear hd hdone hdec hjN hV
        go_wp2_with fail
        refine HDN.out.mono ?_
        rintro e w3 ⟨rfl, rfl⟩
        go_wp2_with fail
        go_ret2
        rw [HDC.out]
        exact ⟨_, rfl, none, 0, rfl, ⟨rfl, by simp, fun h => absurd h (by simp)⟩, Nat.le_refl _, HBL.out⟩
end Go.Proofs.YtcdjbfgkajfnlaaDoor
