/- Layer 2: the document's number that bytes begin with, walked whole. -/
import Derived.Test.YtcdjbfgkajfnlaaDoorQa
namespace Go.Proofs.YtcdjbfgkajfnlaaDoor
open Go.RowKit

theorem ones_ge_int (b : Int) (k : Nat) (h0 : 0 ≤ b) (h1 : b ≤ 255) (hk : k < 8) : decide (headS (k + 1) ≤ b) = decide (k < onesOf b) := by
  obtain ⟨m, rfl⟩ := Int.eq_ofNat_of_zero_le h0
  exact ones_ge ⟨m, by omega⟩ ⟨k, hk⟩
theorem beN_step2 (N0 k j : Nat) (t : List Int) (x : Int) (hjk : j < k) (hx : t[j]? = some x) (h0 : 0 ≤ x) (h1 : x ≤ 255) (hlt : beN N0 (t.take j) < 2 ^ (7 - k + 8 * j)) (hk : k ≤ 8) :
    IntKind.u64.wrap (IntKind.u64.wrap (256 * (beN N0 (t.take j) : Int)) + x) = (beN N0 (t.take (j + 1)) : Int) := by
  have h56 : beN N0 (t.take j) < 2 ^ 56 := Nat.lt_of_lt_of_le hlt (Nat.pow_le_pow_right (by decide) (by omega))
  have ht : t.take (j + 1) = t.take j ++ [x] := by rw [List.take_add_one, hx]; rfl
  obtain ⟨m, rfl⟩ := Int.eq_ofNat_of_zero_le h0
  rw [ht, beN_snoc, IntKind.wrap_u64, IntKind.wrap_u64, Int.toNat_natCast]
  omega
/-- One round of the loop's number, its value a letter. -/
def accN (N0 : Nat) (t : List Int) (j : Nat) : Nat := beN N0 (t.take j)
set_option maxHeartbeats 2000000 in
theorem refNumber_any (w : World) (A : Option Addr) (n c : Nat) (b : List Int) (hr : RB w A n b) :
    Calls Tryd.prog 47 #[.slice A n c] w fun e w' => e = .returned (.tuple #[.int .u64 (numberS b).1, .int .i64 (numberS b).2.1, .int .i64 (numberS b).2.2]) ∧ ∃ m, w' = w.drewN m := by
  have hl := hr.len
  rcases b with _ | ⟨b0, t⟩
  · obtain rfl : n = 0 := by simpa using hl.symm
    go_enter Tryd.func47, Tryd.ntmps47
    go_wp2_with fail
    go_ret3
    exact ⟨rfl, 0, rfl⟩
  · have hp : 0 < n := by rw [← hl]; simp
    have ht : t.length + 1 = n := by simpa using hl
    have hb := hr.2.2.1 b0 (by simp)
    have hnn := hr.2.1
    obtain ⟨ad, rfl, hc⟩ := hr.at_ 0 (by omega) (by omega)
    have hc' : w.cell? ad = some (.int .u8 b0) := by simpa [rd, Addr.add] using hc
    have ho8 := onesOf_le b0
    have HGE := Lib.hid (fun k => ones_ge_int b0 k hb.1 hb.2)
    have HSI := Lib.hid (strip_int b0 hb.1 hb.2)
    have HT := Lib.hid ht
    have HR := Lib.hid hr
    have hzn : ((n : Int) == 0) = false := by simp; omega
    clear hr hl hc ht
    go_enter Tryd.func47, Tryd.ntmps47
    go_wp2_with fail
    go_loopw [5] (fun kv wr => ∃ k : Nat, k ≤ onesOf b0 ∧ kv = .int .i64 k ∧ Hid (∃ m, wr = w.drewN m)) (fun kv _ => 8 - (intOf kv).toNat)
    case atStart => exact ⟨0, Nat.zero_le _, rfl, 0, rfl⟩
    case round =>
      obtain ⟨k, hk, rfl, HM⟩ := hrel
      obtain ⟨m, hm⟩ := HM.out
      subst hm
      have hcm : (w.drewN m).cell? ad = some (.int .u8 b0) := hc'
      have HRm := Lib.hid (HR.out.drewN m)
      have HM : Hid (∀ i, ∃ q, (w.drewN m).drewN i = w.drewN q) := fun i => ⟨_, World.drewN_drewN _ _ _⟩
      have hgo : k < onesOf b0 ∨ k = onesOf b0 := by omega
      by_cases hgo2 : k < onesOf b0
      · have hk8 : decide ((k : Int) < 8) = true := decide_eq_true (by omega)
        have hq : decide (headS (k + 1) ≤ b0) = true := by rw [HGE.out k (by omega)]; exact decide_eq_true hgo2
        clear hgo
        go_wp2_with fail
        go_quiet ((go_at_call 53; exact quiet_add_left (ones_any _ (k + 1) _ (by first | omega | (rw [IntKind.wrap_i64]; omega)) (by omega))))
        go_wp2_with fail
        go_roundw
        case rel => exact ⟨k + 1, by omega, by go_num, _, rfl⟩
        case measure => simp [intOf]; omega
      · have hkk : k = onesOf b0 := by omega
        have HKK := Lib.hid hkk
        have hstop : (k < 8 ∧ decide ((k : Int) < 8) = true ∧ decide (headS (k + 1) ≤ b0) = false) ∨ decide ((k : Int) < 8) = false := by
          rcases Nat.lt_or_ge k 8 with h | h
          · exact .inl ⟨h, decide_eq_true (by omega), by rw [HGE.out k h]; exact decide_eq_false hgo2⟩
          · exact .inr (decide_eq_false (by omega))
        have hk8 : k ≤ 8 := by omega
        clear hgo hgo2 hk hkk
        rcases hstop with ⟨q0, q1, q2⟩ | q1
        all_goals
          go_wp2_with fail
          go_quiet ((go_at_call 53; exact quiet_add_left (ones_any _ (k + 1) _ (by first | omega | (rw [IntKind.wrap_i64]; omega)) (by omega))))
          by_cases hshort : n < k + 1
          · have HRES : Hid (numberS (b0 :: t) = (0, 0, 12)) := by
              have h1 := HT.out
              have h2 := HKK.out
              show _ = _
              simp only [numberS, if_pos (show t.length < onesOf b0 by omega)]
            go_wp2_with fail
            go_ret3
            rw [HRES.out]
            exact ⟨rfl, _, rfl⟩
          · go_wp2_with fail
            go_quiet ((go_at_call 53; exact quiet_add_left (ones_any _ k _ rfl (by omega))))
            go_wp2_with fail
            have hge : ¬ t.length < onesOf b0 := by have h1 := HT.out; have h2 := HKK.out; omega
            have hst := HSI.out
            rw [← HKK.out] at hst
            have hdr := headS_range k hk8
            have hN : (b0 - headS k) % 256 = (((b0 - headS k).toNat : Nat) : Int) := by omega
            obtain ⟨N0, hN0⟩ : ∃ N0, N0 = (b0 - headS k).toNat := ⟨_, rfl⟩
            rw [← hN0] at hN
            rw [hN]
            have HL := Lib.hid (fun i hi => numberS_lt b0 t HR.out.2.2.1 i hi (by omega))
            have HN0 := Lib.hid hN0
            have HGE2 := Lib.hid hge
            rw [← HKK.out, ← HN0.out] at HL
            clear hst hdr hN hN0 hge q1
            go_loopw [6, 7] (fun nv iv wr => ∃ j : Nat, j ≤ k ∧ iv = .int .i64 ((j : Int) + 1) ∧ nv = .int .u64 (accN N0 t j) ∧ Hid (∃ m, wr = w.drewN m)) (fun _ iv _ => k + 1 - (intOf iv).toNat)
            case atStart => exact ⟨0, Nat.zero_le _, rfl, rfl, _, (by first | rfl | exact World.drewN_drewN _ _ _)⟩
            case round =>
              obtain ⟨j, hj, rfl, rfl, HM2⟩ := hrel
              obtain ⟨m2, hm2⟩ := HM2.out
              subst hm2
              by_cases hjk : j < k
              · obtain ⟨ad1, x, ea, hx0, hx1, hx, hc1⟩ := HR.out.atL (j + 1) (by omega)
                cases ea
                have hxt : t[j]? = some x := by have := hx.out; simpa using this
                have hc1 : w.cell? (ad.add (j + 1)) = some (.int .u8 x) := hc1
                rw [show ad.add (j + 1) = ⟨ad.block, ad.off + (j + 1), none⟩ by simp [Addr.add]] at hc1
                have HST := Lib.hid (beN_step2 N0 k j t x hjk hxt hx0 hx1 (HL.out j (by omega)) hk8)
                have hst2 : IntKind.u64.wrap (IntKind.u64.wrap (256 * (accN N0 t j : Int)) + x) = (accN N0 t (j + 1) : Int) := HST.out
                have HST2 := Lib.hid hst2
                have hjn : (j : Int) + 1 < n := by have h1 := HT.out; have h2 := HGE2.out; have h3 := HKK.out; omega
                have htn : ((j : Int) + 1).toNat = j + 1 := by omega
                have hjj : decide ((j : Int) + 1 ≤ k) = true := decide_eq_true (by omega)
                clear hx hxt HST hst2
                go_wp2_with fail
                go_roundw
                case rel => exact ⟨j + 1, by omega, by go_num, by rw [← HST2.out], _, rfl⟩
                case measure => simp [intOf]; omega
              · have hjk2 : j = k := by omega
                have hN64 : accN N0 t j < 2 ^ 64 := Nat.lt_of_lt_of_le (HL.out j (by omega)) (Nat.pow_le_pow_right (by decide) (by omega))
                have hbe : behindS (accN N0 t j) ≤ k := by
                  have hkk2 := HKK.out
                  rcases Nat.lt_or_ge k 8 with h | h
                  · exact behindS_of_lt _ _ (Nat.lt_of_lt_of_le (HL.out j (by omega)) (Nat.pow_le_pow_right (by decide) (by omega)))
                  · exact Nat.le_trans (behindS_le _) h
                have HAC : Hid (accN N0 t j = beN (b0 - headS (onesOf b0)).toNat (t.take (onesOf b0))) := by
                  show _ = _
                  unfold accN
                  rw [hjk2, HN0.out, HKK.out]
                obtain ⟨N1, hN1⟩ : ∃ N1, N1 = accN N0 t j := ⟨_, rfl⟩
                rw [← hN1] at hN64 hbe HAC ⊢
                clear hN1 HL
                go_wp2_with fail
                refine (more_any N1 _ (by omega)).mono ?_
                rintro e w2 ⟨rfl, rfl⟩
                by_cases hq : behindS N1 < k
                · have HE := Lib.hid (numberS_no b0 t HGE2.out (by rw [← HAC.out, ← HKK.out]; omega))
                  go_wp2_with fail
                  go_ret3
                  rw [HE.out]
                  exact ⟨rfl, _, rfl⟩
                · have HE := Lib.hid (numberS_yes b0 t HGE2.out (by rw [← HAC.out, ← HKK.out]; omega))
                  rw [← HAC.out, ← HKK.out] at HE
                  go_wp2_with fail
                  go_ret3
                  rw [HE.out]
                  exact ⟨rfl, _, rfl⟩
end Go.Proofs.YtcdjbfgkajfnlaaDoor
