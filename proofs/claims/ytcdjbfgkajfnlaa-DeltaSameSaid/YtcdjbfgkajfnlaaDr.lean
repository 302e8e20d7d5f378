/- Layer 10: the document's match, walked. -/
import Derived.Test.YtcdjbfgkajfnlaaDa
namespace Go.Proofs.Ytcdjbfgkajfnlaa
open Go.RowKit

theorem under_str : Try.prog.underlying 9 = some .string := Try.underlying9
theorem match_found (base t : List Int) (i n : Nat) (hb : base.length = 64) (h0 : 0 < n) (hi : i + n ≤ 64) (ht : n ≤ t.length) (he : (base.drop i).take n = t.take n)
    (h1 : ∀ j, j < 64 → comm (base.drop j) t ≤ n) (h2 : ∀ j, j < i → comm (base.drop j) t < n) : IsMatch base t 64 (i, n) := by
  have hc := comm_ge (base.drop i) t n (by rw [List.length_drop]; omega) ht he
  have := h1 i (by omega)
  exact ⟨h1, .inr ⟨h0, by simp only; omega, by simp only; omega, h2⟩⟩
theorem match_miss (base t : List Int) (i n : Nat) (hne : ¬ (base.drop i).take n = t.take n) : comm (base.drop i) t < n := by
  rcases Nat.lt_or_ge (comm (base.drop i) t) n with h | h
  · exact h
  · exfalso
    apply hne
    have := congrArg (List.take n) (comm_take (base.drop i) t)
    rwa [List.take_take, List.take_take, Nat.min_eq_left h] at this
set_option maxHeartbeats 2000000 in
theorem refMatch_any (w : World) (base target : List Int) (i : Int) (hb : base.length = 64) (hb8 : u8Ok base) (ht : target.length = 64) (ht8 : u8Ok target) (h0 : -9223372036854775808 ≤ i) (h1 : i ≤ 9223372036854775807) :
    Calls Try.prog 12 #[.agg (u8s base).toArray, .agg (u8s target).toArray, .int .i64 i] w
      fun e w' => ∃ p : Nat × Nat, p = (if 0 ≤ i ∧ i < 64 then matchS base target i.toNat else (0, 0)) ∧ e = .returned (.tuple #[.int .i64 p.1, .int .i64 p.2]) ∧ Hid (Below w.heap.size w w') := by
  obtain ⟨C, hC⟩ : ∃ C, C = (u8s base).toArray := ⟨_, rfl⟩
  obtain ⟨D, hD⟩ : ∃ D, D = (u8s target).toArray := ⟨_, rfl⟩
  rw [← hC, ← hD]
  have HC := Lib.hid hC
  have HD := Lib.hid hD
  clear hC hD
  have HS : Hid (BlkB ((w.alloc (.cells C 23)).alloc (.cells D 23)) w.heap.size base ∧ BlkB ((w.alloc (.cells C 23)).alloc (.cells D 23)) (w.heap.size + 1) target ∧ Below w.heap.size w ((w.alloc (.cells C 23)).alloc (.cells D 23))) := by
    rw [HC.out, HD.out]
    have e : (w.alloc (.cells (u8s base).toArray 23)).heap.size = w.heap.size + 1 := by simp
    have k2 := BlkB.new (w.alloc (.cells (u8s base).toArray 23)) target ht ht8
    rw [e] at k2
    exact ⟨(BlkB.new w base hb hb8).below (B := w.heap.size + 1) ((Below.refl _ _).alloc (by omega) _) (by omega), k2, (below_box _ _).alloc (by simp) _⟩
  by_cases hi : 0 ≤ i ∧ i < 64
  · obtain ⟨m, rfl⟩ := Int.eq_ofNat_of_zero_le hi.1
    have hm : m < 64 := by omega
    rw [if_pos hi, Int.toNat_natCast]
    clear hi h0 h1
    have hlo : decide ((m : Int) < 0) = false := decide_eq_false (by omega)
    have hhi : decide ((63 : Int) < (m : Int)) = false := decide_eq_false (by omega)
    have HT0 : Hid ((target.drop m).length = 64 - m) := by show _ = _; rw [List.length_drop, ht]
    go_enter Try.func12, Try.ntmps12
    go_wp2_with fail
    go_loopw [8, 9] (fun nv _ wr => ∃ n : Nat, n ≤ 64 - m ∧ nv = .int .i64 n ∧ Hid (∀ j, j < 64 → comm (base.drop j) (target.drop m) ≤ n) ∧ Hid (BlkB wr w.heap.size base ∧ BlkB wr (w.heap.size + 1) target ∧ Below w.heap.size w wr)) (fun nv _ _ => (intOf nv).toNat)
    case atStart =>
      refine ⟨64 - m, by omega, by go_num, ?_, HS⟩
      intro j hj
      have := comm_le_right (base.drop j) (target.drop m)
      rw [HT0.out] at this
      exact this
    case round =>
      obtain ⟨n, hn, rfl, HN, HJ⟩ := hrel
      clear HS
      by_cases hn0 : 0 < n
      · go_wp2_with fail
        obtain ⟨wo, rfl⟩ : ∃ wo : World, wo = wr := ⟨_, rfl⟩
        go_loopw [9] (fun iv wr => ∃ i : Nat, i ≤ 64 ∧ iv = .int .i64 i ∧ Hid (∀ j, j < i → comm (base.drop j) (target.drop m) < n) ∧ Hid (BlkB wr w.heap.size base ∧ BlkB wr (w.heap.size + 1) target ∧ Below w.heap.size w wr)) (fun iv _ => 65 - (intOf iv).toNat)
        case atStart => exact ⟨0, by omega, rfl, fun j hj => by omega, HJ⟩
        case round =>
          obtain ⟨i, hi, rfl, HI, HK⟩ := hrel
          clear HJ
          by_cases hin : i + n ≤ 64
          · obtain ⟨A1, hc1, hr1, hb1⟩ := cutb_lh w.heap.size i (i + n) i n rfl rfl hin
            obtain ⟨A2, hc2, hr2, hb2⟩ := cutb_lh (w.heap.size + 1) m (m + n) m n rfl rfl (by omega)
            have R1 := hr1 wr _ HK.out.1
            have R2 := hr2 wr _ HK.out.2.1
            have s1 : ∀ k, (convert 24 9 (.slice (some A1) n (64 - i))).run Try.prog (wr.drewN k) = .ok (.string (strOfNums ((base.drop i).take n))) (wr.drewN k) := fun k => rb_string _ _ 5 Try.underlying24 Try.underlying5 under_str (R1.drewN k) _
            have s2 : ∀ k, (convert 24 9 (.slice (some A2) n (64 - m))).run Try.prog (wr.drewN k) = .ok (.string (strOfNums ((target.drop m).take n))) (wr.drewN k) := fun k => rb_string _ _ 5 Try.underlying24 Try.underlying5 under_str (R2.drewN k) _
            have hq := strOfNums_eq _ _ R1.2.2.1 R2.2.2.1
            obtain ⟨S1, hS1⟩ : ∃ S1, S1 = strOfNums ((base.drop i).take n) := ⟨_, rfl⟩
            obtain ⟨S2, hS2⟩ : ∃ S2, S2 = strOfNums ((target.drop m).take n) := ⟨_, rfl⟩
            rw [← hS1] at s1 hq
            rw [← hS2] at s2 hq
            clear hr1 hr2 hb1 hb2 R1 R2 hS1 hS2
            by_cases he : (base.drop i).take n = (target.drop m).take n
            · have hq' : (S1.toList == S2.toList) = true := by rw [hq]; exact decide_eq_true he
              have HE := Lib.hid he
              clear hq he
              go_wp2_with fail
              go_quiet (fail)
              go_wp2_with fail
              go_ret2
              exact ⟨(i, n), ((match_found base (target.drop m) i n hb hn0 hin (by rw [HT0.out]; exact hn) HE.out HN.out HI.out).unique (matchS_is base target m)), rfl, below_drewN HK.out.2.2 _⟩
            · have hq' : (S1.toList == S2.toList) = false := by rw [hq]; exact decide_eq_false he
              have HE := Lib.hid he
              clear hq he
              go_wp2_with fail
              go_quiet (fail)
              go_wp2_with fail
              go_roundw
              case rel =>
                refine ⟨i + 1, by omega, by go_num, fun j hj => ?_, HK.out.1, HK.out.2.1, below_drewN HK.out.2.2 _⟩
                rcases Nat.lt_or_ge j i with h | h
                · exact HI.out j h
                · obtain rfl : j = i := by omega
                  exact match_miss _ _ _ _ HE.out
              case measure => simp [intOf]; omega
          · go_wp2_with fail
            refine ⟨⟨n - 1, by omega, by go_num, fun j hj => ?_, HK.out⟩, by simp [intOf]; omega⟩
            rcases Nat.lt_or_ge j i with h | h
            · have := HI.out j h
              omega
            · have := comm_le_left (base.drop j) (target.drop m)
              rw [List.length_drop] at this
              omega
      · obtain rfl : n = 0 := by omega
        go_wp2_with fail
        go_ret2
        exact ⟨(0, 0), (IsMatch.unique ⟨HN.out, .inl ⟨rfl, rfl⟩⟩ (matchS_is base target m)), rfl, HJ.out.2.2⟩
  · rw [if_neg hi]
    rcases (show i < 0 ∨ 63 < i by omega) with h2 | h2
    · go_enter Try.func12, Try.ntmps12
      go_wp2_with fail
      go_ret2
      exact ⟨_, rfl, rfl, HS.out.2.2⟩
    · go_enter Try.func12, Try.ntmps12
      go_wp2_with fail
      go_ret2
      exact ⟨_, rfl, rfl, HS.out.2.2⟩
end Go.Proofs.Ytcdjbfgkajfnlaa
