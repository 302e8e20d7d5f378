/- Layer 10: what parts make of a base, walked. -/
import Derived.Test.YtcdjbfgkajfnlaaDoorDd
namespace Go.Proofs.YtcdjbfgkajfnlaaDoor
open Go.RowKit

/-- What a part makes of a base, an error. -/
def partS (base : List Int) (o : POp) : List Int × Int :=
  if o.copy = false then (if o.bytes = [] then ([], 3) else (o.bytes, 0))
  else if o.frm < 0 ∨ o.len < 1 ∨ (base.length : Int) < o.frm ∨ (base.length : Int) - o.frm < o.len then ([], 4) else ((base.drop o.frm.toNat).take o.len.toNat, 0)
/-- Bytes and an error handed back. -/
def GivesE (w : World) (xs : List Int) (e0 : Int) (e : Ending) (w' : World) : Prop := ∃ A c, e = .returned (.tuple #[.slice A xs.length c, errV e0]) ∧ Hid (RB w' A xs.length xs ∧ Below w.heap.size w w')
def opV (o : POp) (v : Value) : Value := .agg #[.bool o.copy, .int .i64 o.frm, .int .i64 o.len, v]
set_option maxHeartbeats 2000000 in
theorem part_any (w : World) (o : POp) (Aj : Option Addr) (cj : Nat) (hr : RB w Aj o.bytes.length o.bytes) (hcj : o.bytes.length ≤ cj) (Ab : Option Addr) (nb cb : Nat) (base : List Int) (hb : RB w Ab nb base) (hcb : nb ≤ cb)
    (hf : -9223372036854775808 ≤ o.frm ∧ o.frm ≤ 9223372036854775807) (hl : -9223372036854775808 ≤ o.len ∧ o.len ≤ 9223372036854775807) :
    Calls Tryd.prog 30 #[opV o (.slice Aj o.bytes.length cj), .slice Ab nb cb] w
      (GivesE w (partS base o).1 (partS base o).2) := by
  obtain ⟨oc, f, l, bs⟩ := o
  simp only at hr hcj hf hl
  have hlb := hb.len
  have hnb := hb.2.1
  have HR := Lib.hid hr
  have HB := Lib.hid hb
  have HBX := fun (cs : Array Value) => Lib.hid (below_box w (.cells cs 50))
  unfold opV
  simp only
  cases oc
  · rcases bs with _ | ⟨x, bs⟩
    · have hs : partS base ⟨false, f, l, []⟩ = ([], 3) := by simp [partS]
      rw [hs]
      clear hs hb hr hlb
      have HBX := HBX #[.bool false, .int .i64 f, .int .i64 l, .slice Aj 0 cj]
      go_enter Tryd.func30, Tryd.ntmps30
      go_wp2_with fail
      go_ret2
      exact ⟨none, 0, by rw [errV_some 3 (by decide)]; rfl, RB.none_ _, HBX.out⟩
    · have hs : partS base ⟨false, f, l, x :: bs⟩ = (x :: bs, 0) := by simp [partS]
      rw [hs]
      have hz : (((x :: bs).length : Int) == 0) = false := by simp; omega
      clear hs hb hr hlb
      have HBX := HBX #[.bool false, .int .i64 f, .int .i64 l, .slice Aj (x :: bs).length cj]
      go_enter Tryd.func30, Tryd.ntmps30
      go_wp2_with fail
      go_ret2
      exact ⟨Aj, cj, rfl, HR.out.below HBX.out, HBX.out⟩
  · by_cases hbad : f < 0 ∨ l < 1 ∨ (base.length : Int) < f ∨ (base.length : Int) - f < l
    · have hs : partS base ⟨true, f, l, bs⟩ = ([], 4) := by unfold partS; rw [if_neg (by simp), if_pos hbad]
      rw [hs]
      rw [hlb] at hbad
      clear hs hb hr hlb
      have HBX := HBX #[.bool true, .int .i64 f, .int .i64 l, .slice Aj bs.length cj]
      by_cases q1 : f < 0
      · clear hbad
        go_enter Tryd.func30, Tryd.ntmps30
        go_wp2_with fail
        go_ret2
        exact ⟨none, 0, by rw [errV_some 4 (by decide)]; rfl, RB.none_ _, HBX.out⟩
      · have q1' : decide (f < 0) = false := decide_eq_false q1
        by_cases q2 : l < 1
        · clear hbad
          go_enter Tryd.func30, Tryd.ntmps30
          go_wp2_with fail
          go_ret2
          exact ⟨none, 0, by rw [errV_some 4 (by decide)]; rfl, RB.none_ _, HBX.out⟩
        · have q2' : decide (l < 1) = false := decide_eq_false q2
          by_cases q3 : (nb : Int) < f
          · clear hbad
            go_enter Tryd.func30, Tryd.ntmps30
            go_wp2_with fail
            go_ret2
            exact ⟨none, 0, by rw [errV_some 4 (by decide)]; rfl, RB.none_ _, HBX.out⟩
          · have q3' : decide ((nb : Int) < f) = false := decide_eq_false q3
            have q4 : (nb : Int) - f < l := by omega
            clear hbad
            go_enter Tryd.func30, Tryd.ntmps30
            go_wp2_with fail
            go_ret2
            exact ⟨none, 0, by rw [errV_some 4 (by decide)]; rfl, RB.none_ _, HBX.out⟩
    · have hs : partS base ⟨true, f, l, bs⟩ = ((base.drop f.toNat).take l.toNat, 0) := by unfold partS; rw [if_neg (by simp), if_neg hbad]
      rw [hs]
      rw [hlb] at hbad
      obtain ⟨m, rfl⟩ := Int.eq_ofNat_of_zero_le (show 0 ≤ f by omega)
      obtain ⟨k, rfl⟩ := Int.eq_ofNat_of_zero_le (show 0 ≤ l by omega)
      have hmk : m + k ≤ nb := by omega
      have hk1 : 1 ≤ k := by omega
      simp only [Int.toNat_natCast]
      have htl : ((base.drop m).take k).length = k := by rw [List.length_take, List.length_drop]; omega
      have HTL := Lib.hid htl
      obtain ⟨A1, hcut, hrd, hsb⟩ := cut_lh (P := Tryd.prog) 25 5 Tryd.underlying25 info_u8 .i64 .i64 Ab nb cb (m : Int) ((m : Int) + k) m k rfl rfl hmk hcb
      have HRD := Lib.hid hrd
      clear hs hb hr hlb htl hrd hsb hbad
      have HBX := HBX #[.bool true, .int .i64 m, .int .i64 k, .slice Aj bs.length cj]
      have q1 : decide ((m : Int) < 0) = false := decide_eq_false (by omega)
      have q2 : decide ((k : Int) < 1) = false := decide_eq_false (by omega)
      have q3 : decide ((nb : Int) < m) = false := decide_eq_false (by omega)
      have q4 : decide ((nb : Int) - m < k) = false := decide_eq_false (by omega)
      go_enter Tryd.func30, Tryd.ntmps30
      go_wp2_with fail
      go_ret2
      exact ⟨A1, cb - m, by rw [HTL.out]; rfl, by rw [HTL.out]; exact HRD.out _ _ (HB.out.below HBX.out), HBX.out⟩
end Go.Proofs.YtcdjbfgkajfnlaaDoor
