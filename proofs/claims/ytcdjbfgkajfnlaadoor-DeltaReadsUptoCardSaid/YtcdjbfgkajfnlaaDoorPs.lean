/- Layer 2: the number that bytes begin with, walked. -/
import Derived.Test.YtcdjbfgkajfnlaaDoorPa
import Derived.Test.YtcdjbfgkajfnlaaDoorPr
namespace Go.Proofs.YtcdjbfgkajfnlaaDoor
open Go.RowKit

/-- An error, by its number; 0: none. -/
def errV (e : Int) : Value := if e = 0 then .nilIface else .iface 58 (.int .i64 e)
theorem errV_zero : errV 0 = .nilIface := rfl
theorem errV_some (e : Int) (h : e ≠ 0) : errV e = .iface 58 (.int .i64 e) := if_neg h

set_option maxHeartbeats 1000000 in
theorem number_any (w : World) (A : Option Addr) (n c : Nat) (b : List Int) (hr : RB w A n b) (hn : n ≤ c) :
    Calls Tryd.prog 59 #[.slice A n c] w fun e w' => e = .returned (.tuple #[.int .u64 (numberS b).1, .int .i64 (numberS b).2.1, errV (numberS b).2.2]) ∧ ∃ m, w' = w.drewN m := by
  have hl := hr.len
  rcases b with _ | ⟨b0, t⟩
  · obtain rfl : n = 0 := by simpa using hl.symm
    go_enter Tryd.func59, Tryd.ntmps59
    go_wp2_with fail
    go_ret3
    exact ⟨rfl, 0, rfl⟩
  · have hp : 0 < n := by rw [← hl]; simp
    have ht : t.length + 1 = n := by simpa using hl
    have hb := hr.2.2.1 b0 (by simp)
    have hnn := hr.2.1
    obtain ⟨ad, rfl, hc⟩ := hr.at_ 0 (by omega) (by omega)
    have hc' : w.cell? ad = some (.int .u8 b0) := by simpa [rd, Addr.add] using hc
    have hx := not_byte_int b0 hb.1 hb.2
    have ho := onesOf_int b0 hb.1 hb.2
    have ho8 := onesOf_le b0
    obtain ⟨s1, s2, s3⟩ := strip_int b0 hb.1 hb.2
    have HT := Lib.hid ht
    have HX := Lib.hid hx
    have HO := Lib.hid ho
    have HS := Lib.hid s1
    have HR := Lib.hid hr
    have hzn : ((n : Int) == 0) = false := by simp; omega
    have hN : IntKind.u64.wrap (bits .andNot .u8 b0 (headS (onesOf b0))) = ((b0 - headS (onesOf b0)).toNat : Int) := by
      rw [s1, IntKind.wrap_u64]
      have hdr := headS_range _ ho8
      omega
    obtain ⟨N0, hN0⟩ : ∃ N0, (b0 - headS (onesOf b0)).toNat = N0 := ⟨_, rfl⟩
    rw [hN0] at hN
    have HN := Lib.hid hN
    have HN0 := Lib.hid hN0
    clear hN hN0
    have hu8 : IntKind.u8.signed = false := rfl
    clear hr hl hc hx ho s1 ht
    go_enter Tryd.func59, Tryd.ntmps59
    go_wp2_with fail
    rw [HX.out]
    refine (Tryd.bits_LeadingZeros8 (255 - b0) _ (by omega) (by omega)).mono ?_
    rintro e w' ⟨rfl, rfl⟩
    rw [HO.out]
    by_cases hk : n ≤ onesOf b0
    · go_wp2_with fail
      go_ret3
      refine ⟨?_, 0, rfl⟩
      have := HT.out
      simp only [numberS, if_pos (show t.length < onesOf b0 by omega)]
      rfl
    · have hk1 : onesOf b0 < n := by omega
      clear hk
      go_wp2_with fail
      go_quiet ((go_at_call 49; exact quiet_left (head_any (onesOf b0) _ (by omega) (by omega))))
      rw [HN.out]
      clear HX HO HS HN
      obtain ⟨A1, hcut, hrd, hsb⟩ := cut_lh (P := Tryd.prog) 25 5 Tryd.underlying25 info_u8 .i64 .i64 (some ad) n c 1 ((onesOf b0 : Int) + 1) 1 (onesOf b0) rfl (by omega) (by omega) hn
      have HR1 := Lib.hid (hrd _ _ HR.out)
      simp only [List.drop_succ_cons, List.drop_zero] at HR1
      have HSB := Lib.hid hsb
      clear hrd hsb
      go_wp2_with fail
      have HL := Lib.hid (fun i hi => numberS_lt b0 t HR.out.2.2.1 i hi (by have := HT.out; omega))
      rw [HN0.out] at HL
      clear hc' HR HSB
      go_loop [6, 35] (fun nv iv => ∃ j : Nat, j ≤ onesOf b0 ∧ iv = .int .i64 j ∧ nv = .int .u64 (beN N0 (t.take j))) (fun _ iv => onesOf b0 - (intOf iv).toNat)
      case atStart => exact ⟨0, Nat.zero_le _, rfl, rfl⟩
      case round =>
        obtain ⟨j, hj, rfl, rfl⟩ := hrel
        by_cases hjk : j < onesOf b0
        · obtain ⟨ad1, x, rfl, hx0, hx1, hx, hc1⟩ := HR1.out.atL j hjk
          go_wp2_with fail
          refine ⟨⟨j + 1, by omega, by go_num, ?_⟩, by simp [intOf]; omega⟩
          rw [beN_step N0 _ j t x hjk hx.out hx0 hx1 (HL.out j hj) ho8]
        · obtain rfl : j = onesOf b0 := by omega
          have hb64 : beN N0 (t.take (onesOf b0)) < 2 ^ 64 := Nat.lt_of_lt_of_le (HL.out _ (Nat.le_refl _)) (Nat.pow_le_pow_right (by decide) (by omega))
          obtain ⟨N1, hN1⟩ : ∃ N1, beN N0 (t.take (onesOf b0)) = N1 := ⟨_, rfl⟩
          rw [hN1] at hb64 ⊢
          have HN1 := Lib.hid hN1
          clear hN1 HL
          have hge : ¬ t.length < onesOf b0 := by have := HT.out; omega
          have h8 := behindS_le N1
          by_cases hq : behindS N1 = onesOf b0
          · have hne : ((behindS N1 : Int) != (onesOf b0 : Int)) = false := by simp [hq]
            have HE := Lib.hid (numberS_yes b0 t hge (by rw [HN0.out, HN1.out]; exact hq))
            rw [HN0.out, HN1.out] at HE
            clear hq hge
            go_wp2_with fail
            refine (behind_any N1 _ (by omega) (by omega)).mono ?_
            rintro e w2 ⟨rfl, rfl⟩
            rw [Int.toNat_natCast]
            go_wp2_with fail
            go_ret3
            rw [HE.out]
            exact ⟨rfl, nq, rfl⟩
          · have hne : ((behindS N1 : Int) != (onesOf b0 : Int)) = true := by simp; omega
            have HE := Lib.hid (numberS_no b0 t hge (by rw [HN0.out, HN1.out]; exact hq))
            clear hq hge
            go_wp2_with fail
            refine (behind_any N1 _ (by omega) (by omega)).mono ?_
            rintro e w2 ⟨rfl, rfl⟩
            rw [Int.toNat_natCast]
            go_wp2_with fail
            go_ret3
            rw [HE.out]
            exact ⟨rfl, nq, rfl⟩
end Go.Proofs.YtcdjbfgkajfnlaaDoor
