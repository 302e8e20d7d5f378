/- Layer 2: copies of bytes; what a writer has. -/
import Derived.Test.YtcdjbfgkajfnlaaDoorPb
namespace Go.Proofs.YtcdjbfgkajfnlaaDoor
open Go.RowKit

/-- A slice of bytes that a call hands back: it reads so; its bytes lie in new memory, if there are any. -/
def Gives (w : World) (xs : List Int) (e : Ending) (w' : World) : Prop :=
  ∃ A c, e = .returned (.slice A xs.length c) ∧ RB w' A xs.length xs ∧ xs.length ≤ c ∧ (A = none → c = 0) ∧ (∀ ad, A = some ad → 0 < xs.length → w.heap.size ≤ ad.block) ∧ Below w.heap.size w w'
/-- The same, the ending known. -/
def GivesAt (w : World) (xs : List Int) (A : Option Addr) (c : Nat) (w' : World) : Prop :=
  RB w' A xs.length xs ∧ xs.length ≤ c ∧ (A = none → c = 0) ∧ (∀ ad, A = some ad → 0 < xs.length → w.heap.size ≤ ad.block) ∧ Below w.heap.size w w'
theorem GivesAt.gives {w w' : World} {xs : List Int} {A : Option Addr} {c : Nat} (h : GivesAt w xs A c w') : Gives w xs (.returned (.slice A xs.length c)) w' := ⟨A, c, rfl, h⟩
theorem Gives.at_ {w w' : World} {xs : List Int} {e : Ending} (h : Gives w xs e w') : ∃ A c, e = .returned (.slice A xs.length c) ∧ Hid (GivesAt w xs A c w') := h
theorem gives_own {w w1 : World} {B : Nat} {xs : List Int} {A : Option Addr} {c : Nat} (hB : w.heap.size ≤ B) (ho : w1.ownsRow B 5 1 (.slice A xs.length c) xs.length (u8s xs)) (hx : u8Ok xs) (hn : xs.length ≤ 140737488355328) (hb : Below w.heap.size w w1) : GivesAt w xs A c w1 := by
  have hr := RB.of_own ho hx hn
  refine ⟨hr, ?_, ?_, fun ad e h0 => ?_, hb⟩
  · obtain ⟨A', c', he, hle⟩ := own_slice ho
    cases he
    exact hle
  · rintro rfl
    rcases ho.2 with ⟨he, _⟩ | ⟨g, cap, cur, he, _⟩
    · injection he
    · injection he with h1
      cases h1
  · subst e
    exact Nat.le_trans hB (own_base ho _ rfl)
theorem lit_own (w : World) (e : TypeId) : (w.alloc (.cells #[] e)).ownsRow w.heap.size e 1 (.slice (some ⟨w.heap.size, 0, none⟩) 0 0) 0 [] := by
  have := World.ownsRow_lit (base := w.heap.size) (e := e) (size := 1) w #[] 0 (Nat.le_refl _) (by simp [maxLen]) rfl
  simpa using this
theorem below_new {w w1 : World} (o : Obj) (hb : Below w.heap.size (w.alloc o) w1) : Below w.heap.size w w1 := ((Below.refl _ _).alloc (Nat.le_refl _) o).trans hb
set_option maxHeartbeats 400000 in
theorem clone_any (w : World) (A : Option Addr) (n c : Nat) (xs : List Int) (hr : RB w A n xs) :
    Calls Tryd.prog 44 #[.slice A n c] w (Gives w xs) := by
  have hl := hr.len
  have he := fun W => Lib.run_eql_slice_nil (P := Tryd.prog) W 25 5 A n c 0 0 Tryd.underlying25
  rcases A with _ | ad
  · obtain rfl : n = 0 := by
      rcases Nat.eq_zero_or_pos n with h0 | h0
      · exact h0
      · obtain ⟨ad, h, _⟩ := hr.2.2.2 h0
        cases h
    obtain rfl : xs = [] := List.eq_nil_of_length_eq_zero hl
    go_enter Tryd.func44, Tryd.ntmps44
    go_wp2_with fail
    go_ret
    exact ⟨none, 0, rfl, RB.none_ _, Nat.le_refl _, fun _ => rfl, fun _ h => (by cases h), Below.refl _ _⟩
  · have HR := Lib.hid hr
    have HL := Lib.hid hl
    have h2 := hr.2.1
    have h3 : xs.length ≤ n := by omega
    have h4 : n ≤ xs.length := by omega
    have hs : w.heap.size ≤ (w.alloc (.cells #[] 5)).heap.size := by simp
    clear hr hl
    go_enter Tryd.func44, Tryd.ntmps44
    go_wp2_with (at_builtin; refine wpList_append_rb _ rfl (.tmp 5) (.tmp 6) 25 rfl w.heap.size 5 Tryd.underlying25 info_u8 (.slice (some ⟨w.heap.size, 0, none⟩) 0 0) [] xs rfl (lit_own _ _) (some ad) n c rfl (HR.out.below ((Below.refl _ _).alloc (Nat.le_refl _) _)) (by simpa using h2) hs ?_; intro A1 c1 w1 ho1 hg1 hn1; have ho1 := Lib.hid ho1)
    go_ret
    have hb := below_new _ (below_of_grown hg1 hs (fun k hk => (by cases hk; simp)))
    have ho2 := ho1.out
    simp only [List.nil_append] at ho2
    exact (gives_own (Nat.le_refl _) ho2 HR.out.2.2.1 (by omega) hb).gives
set_option maxHeartbeats 400000 in
theorem wdone_any {w w0 : World} {B g : Nat} {xs : List Int} (h : Wd w0 B g xs w) (hn : xs.length ≤ 140737488355328) :
    Calls Tryd.prog 35 #[.pointer (some ⟨g, 0, none⟩)] w (Gives w xs) := by
  obtain ⟨v, hv⟩ := h.wr
  obtain ⟨A, c, rfl, hc⟩ := own_slice hv.own
  have c0 := hv.blk.cell 0
  simp only [List.getElem?_toArray, List.getElem?_cons_zero] at c0
  have HR := Lib.hid (RB.of_own hv.own hv.ok hn)
  clear h hv
  go_enter Tryd.func35, Tryd.ntmps35
  go_wp2_with fail
  refine (clone_any _ A _ c xs HR.out).mono ?_
  intro e w1 hg
  obtain ⟨A1, c1, rfl, hq⟩ := hg.at_
  clear hg
  go_wp2_with fail
  go_ret
  exact hq.out.gives
end Go.Proofs.YtcdjbfgkajfnlaaDoor
