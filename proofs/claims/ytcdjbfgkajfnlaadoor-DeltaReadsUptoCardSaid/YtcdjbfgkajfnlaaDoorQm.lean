/- Layer 10's laws: parts held against parts, walked. -/
import Derived.Test.YtcdjbfgkajfnlaaDoorQl
namespace Go.Proofs.YtcdjbfgkajfnlaaDoor
open Go.RowKit

theorem ROps.drewN {w : World} {A : Option Addr} {n : Nat} {l : List POp} (h : ROps w A n l) (k : Nat) : ROps (w.drewN k) A n l := h
set_option maxRecDepth 100000 in
set_option maxHeartbeats 4000000 in
theorem same_any (w : World) (A A' : Option Addr) (n c c' : Nat) (l : List POp) (h : ROps w A n l) (h' : ROps w A' n l) :
    Calls Tryd.prog 15 #[.slice A n c, .slice A' n c'] w fun e w' => e = .returned (.bool true) ∧ ∃ m, w' = w.drewN m := by
  have hn := h.2.1
  have HL := Lib.hid h.1
  have H := Lib.hid h
  have H' := Lib.hid h'
  clear h h'
  go_enter Tryd.func15, Tryd.ntmps15
  go_wp2_with fail
  go_loopw [5] (fun iv wr => ∃ j : Nat, j ≤ n ∧ iv = .int .i64 j ∧ Hid (∃ m, wr = w.drewN m)) (fun iv _ => n - (intOf iv).toNat)
  case atStart => exact ⟨0, by omega, rfl, 0, rfl⟩
  case round =>
    obtain ⟨j, hj, rfl, HM⟩ := hrel
    obtain ⟨m, hm⟩ := HM.out
    subst hm
    by_cases hjn : j < n
    · have hjl : j < l.length := by have := HL.out; omega
      obtain ⟨o, ho⟩ : ∃ o, l[j]? = some o := ⟨_, List.getElem?_eq_getElem hjl⟩
      obtain ⟨b, off, rfl, hcell⟩ := H.out.2.2 (by omega)
      obtain ⟨Aj, cj, m0, m1, m2, m3, k4, _⟩ := hcell j o ho
      obtain ⟨b', off', rfl, hcell'⟩ := H'.out.2.2 (by omega)
      obtain ⟨Aj', cj', m0', m1', m2', m3', k4', _⟩ := hcell' j o ho
      have q0 : w.cell? ⟨b, off + j * 4, none⟩ = some (.bool o.copy) := m0
      have q1 : w.cell? ⟨b, off + j * 4 + 1, none⟩ = some (.int .i64 o.frm) := m1
      have q2 : w.cell? ⟨b, off + j * 4 + 2, none⟩ = some (.int .i64 o.len) := m2
      have q3 : w.cell? ⟨b, off + j * 4 + 3, none⟩ = some (.slice Aj o.bytes.length cj) := m3
      have r0 : w.cell? ⟨b', off' + j * 4, none⟩ = some (.bool o.copy) := m0'
      have r1 : w.cell? ⟨b', off' + j * 4 + 1, none⟩ = some (.int .i64 o.frm) := m1'
      have r2 : w.cell? ⟨b', off' + j * 4 + 2, none⟩ = some (.int .i64 o.len) := m2'
      have r3 : w.cell? ⟨b', off' + j * 4 + 3, none⟩ = some (.slice Aj' o.bytes.length cj') := m3'
      obtain ⟨S, hS⟩ : ∃ S, S = strOfNums o.bytes := ⟨_, rfl⟩
      have cv : ∀ k, (convert 25 9 (.slice Aj o.bytes.length cj)).run Tryd.prog (w.drewN k) = .ok (.string S) (w.drewN k) := fun k => by rw [hS]; exact conv_b (k4.drewN k) cj
      have cv' : ∀ k, (convert 25 9 (.slice Aj' o.bytes.length cj')).run Tryd.prog (w.drewN k) = .ok (.string S) (w.drewN k) := fun k => by rw [hS]; exact conv_b (k4'.drewN k) cj'
      clear hcell hcell' ho hS m0 m1 m2 m3 m0' m1' m2' m3' k4 k4'
      obtain ⟨oc, of_, ol, ob⟩ := o
      simp only at q0 q1 q2 q3 r0 r1 r2 r3 cv cv'
      have hj0 : (0 : Int) ≤ j := by omega
      have hj1 : (j : Int) < n := by omega
      cases oc
      all_goals
        go_wp2_with fail
        go_quiet (fail)
        go_wp2_with fail
        go_roundw
        case rel => exact ⟨j + 1, by omega, by go_num, _, rfl⟩
        case measure => simp [intOf]; omega
    · go_wp2_with fail
      go_ret
      exact ⟨rfl, m, rfl⟩
end Go.Proofs.YtcdjbfgkajfnlaaDoor
