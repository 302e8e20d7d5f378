/- A block among the arguments, opened; the row's last step where new blocks have come. -/
import Derived.Test.YtcdjbfgkajfnlaaDoorWd
import Derived.ProofKit
import Derived.Below
import Derived.ChangeSame
import Derived.OpenShut
namespace Go.Proofs.YtcdjbfgkajfnlaaDoor
open Go.ChangeShapes Go.WideShapes Go.ChangeAt Go.RowKit

section
variable {H : Type} {enc : TypeId × Value → H} {P : Program}
theorem okWide_array {w : World} {r : Reach} {base : Nat} {t : TypeId} {v : Value} {n : Nat} {e : TypeId} (ht : P.underlying t = some (.array n e)) (h : Value.okWide P w r base t v) : ∃ cs, v = .agg cs ∧ cs.size = P.cellsOf t := by
  simp only [Value.okWide, ht] at h
  obtain ⟨cs, h1, h2, _⟩ := h
  exact ⟨cs, h1, h2⟩
theorem list_of_cells : ∀ (cs : List Value), (∀ i, i < cs.length → ∃ x : Int, cs[i]? = some (.int .u8 x) ∧ 0 ≤ x ∧ x ≤ 255) → ∃ xs : List Int, cs = u8s xs ∧ xs.length = cs.length ∧ u8Ok xs
  | [], _ => ⟨[], rfl, rfl, fun _ h => by cases h⟩
  | c :: cs, h => by
    obtain ⟨x, hx, h0, h1⟩ := h 0 (by simp)
    obtain ⟨xs, e, hl, ho⟩ := list_of_cells cs (fun i hi => by
      have := h (i + 1) (by simp; omega)
      simpa using this)
    simp only [List.getElem?_cons_zero, Option.some.injEq] at hx
    refine ⟨x :: xs, by rw [hx, e]; rfl, by simp [hl], ?_⟩
    intro y hy
    rcases List.mem_cons.1 hy with rfl | hy
    · exact ⟨h0, h1⟩
    · exact ho y hy
theorem open_bytes {w : World} {r : Reach} {b0 base : Nat} {spare : Nat → Bool} {held : Bool} {t e : TypeId} {n : Nat} {v : Value} {d : DataW H} {ps : List MemPlace} (ht : P.underlying t = some (.array n e)) (he : P.underlying e = some (.int .u8)) (hc : P.cellsOf e = 1) (hn : P.cellsOf t = n)
    (hval : Value.okWide P w r b0 t v) (hd : DataW.Trod enc P w base spare held t v d ps) : ∃ xs, v = .agg (u8s xs).toArray ∧ xs.length = n ∧ u8Ok xs ∧ ps = [] := by
  obtain ⟨cs, rfl, hs⟩ := okWide_array ht hval
  obtain ⟨fuel, hf⟩ := hd
  obtain ⟨ys, m, _, hx, hlen, hyl, hel⟩ := DataW.trod_array ht hf
  simp only [Value.cells] at hlen hel
  rw [hn] at hs
  have hall : ∀ i, i < cs.toList.length → ∃ x : Int, cs.toList[i]? = some (.int .u8 x) ∧ 0 ≤ x ∧ x ≤ 255 := by
    intro i hi
    have hi' : i < n := by simpa [hs] using hi
    have h := hel i hi'
    rw [List.getElem?_eq_getElem (by omega)] at h
    obtain ⟨x, e1, _, e3⟩ := DataW.trod_int he h
    rw [hc] at e1
    refine ⟨x, ?_, ?_⟩
    · have e2 : cs.toList[i]? = ((cs.toList.drop (i * 1)).take 1)[0]? := by simp
      rw [e2, e1]
      rfl
    · simpa [Lit.wf, IntKind.min, IntKind.max, IntKind.signed, IntKind.bits] using e3
  have hps : ys.flatMap (·.2) = [] := by
    rw [List.flatMap_eq_nil_iff]
    intro y hy
    obtain ⟨i, hi, rfl⟩ := List.getElem_of_mem hy
    have h := hel i (by omega)
    rw [List.getElem?_eq_getElem hi] at h
    obtain ⟨x, _, e2, _⟩ := DataW.trod_int he h
    rw [e2]
  obtain ⟨xs, e1, e2, e3⟩ := list_of_cells cs.toList hall
  refine ⟨xs, ?_, by rw [e2]; simp [hs], e3, ?_⟩
  · rw [← e1]
  · have := congrArg (·.2) hx
    simp only at this
    rw [this, hps]
theorem post_of_below {f : Func} {s : ChangeSpec} {apart fresh handsOn again : Bool} {W W' : World} {args : Array Value} {v : Value} {ds gs : List (DataW H)} {before pa pv : List MemPlace}
    (hW : DataW.Whole enc P f.params.toList s.vars apart W args.toList ds gs before)
    (hres : ∀ (b : Nat) (sp : Nat → Bool) (hd : Bool), DataW.TrodAll enc P W' b sp hd f.resultTypes.toList (v.resultList f.resultTypes.size) (s.fn H (ds ++ gs)).results [])
    (hargs : ∀ sp : Nat → Bool, (∀ p ∈ before, sp p.block = true) → DataW.TrodAll enc P W' 0 sp true f.params.toList args.toList (s.fn H (ds ++ gs)).args pa)
    (hvars : ∀ sp : Nat → Bool, (∀ p ∈ before, sp p.block = true) → DataW.TrodVars enc P W' sp s.vars (s.fn H (ds ++ gs)).vars pv)
    (hps : before = pa ++ pv) (hb : Below W.heap.size W W')
    (hok : ∀ (j : Nat) (t : TypeId) (r : Value), f.resultTypes[j]? = some t → (v.resultList f.resultTypes.size)[j]? = some r → Value.okWide P W' .any 0 t r) :
    s.post enc P f apart fresh handsOn again W args v W' := by
  have hlt : ∀ p ∈ before, p.block < W.heap.size := fun p hp => hW.lt p hp
  have hold : ∀ p ∈ before, (fun b => decide (b < W.heap.size)) p.block = true := fun p hp => by simpa using hlt p hp
  refine ⟨ds, gs, before, [], pa, pv, hW, hres _ _ _, hargs _ hold, hvars _ hold, World.keptBut_mono (fun p hp => ⟨hp, ?_⟩) (hb.frame (· ∈ before)), fun _ => ?_⟩
  · rw [hps, List.mem_append] at hp
    exact Or.inr hp
  · obtain ⟨_, _, _, _, _, hz, hn⟩ := hW
    refine ⟨hok, _, _, ([] ++ pa) ++ pv, ⟨[] ++ pa, pv, trodAll_append (hargs _ (fun _ _ => rfl)) (hres _ _ _), hvars _ (fun _ _ => rfl), rfl, ?_, ?_⟩, ?_⟩
    · intro b off hp
      have hin : MemPlace.cell b off ∈ before := by rw [hps]; simpa using hp
      rw [hb.frozen (hlt _ hin)]
      exact hz b off hin
    · intro ha
      have := hn ha
      rw [hps] at this
      simpa using this
    · intro p hp _
      rw [hps]
      simpa using hp
/-- What an array of bytes reads, and that it reads so in any world. -/
theorem shut_bytes {w : World} {base : Nat} {spare : Nat → Bool} {held : Bool} {t : TypeId} {v : Value} {d : DataW H} {w' : World} {base' : Nat} {spare' : Nat → Bool} {held' : Bool} {n : Nat} {e : TypeId} (ht : P.underlying t = some (.array n e)) (he : P.underlying e = some (.int .u8)) (hd : DataW.Trod enc P w base spare held t v d []) :
    DataW.Trod enc P w' base' spare' held' t v d [] := by
  obtain ⟨fuel, hf⟩ := hd
  refine ⟨fuel, ?_⟩
  cases fuel with
  | zero => simp [DataW.trod] at hf
  | succ m =>
    unfold DataW.trod at hf ⊢
    rw [ht] at hf ⊢
    have : ∀ cs, DataW.trod enc P w base spare held m e cs = DataW.trod enc P w' base' spare' held' m e cs := by
      intro cs
      cases m with
      | zero => simp [DataW.trod]
      | succ k =>
        unfold DataW.trod
        rw [he]
        cases cs with
        | nil => rfl
        | cons c r => cases r <;> cases c <;> rfl
    simpa only [this] using hf
end
end Go.Proofs.YtcdjbfgkajfnlaaDoor
