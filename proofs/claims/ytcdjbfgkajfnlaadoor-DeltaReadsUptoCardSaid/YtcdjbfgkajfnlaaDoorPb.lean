/- Layer 2, the writer's calls: each lays its bytes behind the others; below the writer's base nothing turns. -/
import Derived.Test.YtcdjbfgkajfnlaaDoorPa
namespace Go.Proofs.YtcdjbfgkajfnlaaDoor
open Go.RowKit

/-- A writer that has these bytes; below its base nothing has turned. -/
structure Wd (w : World) (B g : Nat) (xs : List Int) (w' : World) : Prop where
  wr : ∃ v, Wr w' B g v xs
  bel : Below B w w'
  oth : Oth 5 g w w'
theorem Wd.trans {a b c : World} {B g : Nat} {xs ys : List Int} (h : Wd a B g xs b) (k : Wd b B g ys c) : Wd a B g ys c := ⟨k.wr, h.bel.trans k.bel, h.oth.trans k.oth⟩
theorem Wd.below {a b c : World} {B g : Nat} {xs : List Int} (h : Wd a B g xs b) (k : Below b.heap.size b c) : Wd a B g xs c := by
  obtain ⟨v, hv⟩ := h.wr
  exact ⟨⟨v, hv.below k⟩, h.bel.trans (k.mono hv.baseLe), h.oth.trans (Oth.of_below k)⟩
theorem Wd.drew {a b : World} {B g : Nat} {xs : List Int} (h : Wd a B g xs b) : Wd a B g xs b.drew := h.below (Below.refl _ _).drew
theorem Wd.here {a b : World} {B g : Nat} {xs : List Int} (h : Wd a B g xs b) : Wd b B g xs b := ⟨h.wr, Below.refl _ _, Oth.refl _ _ _⟩
theorem Wd.start {w : World} {B g : Nat} {v : Value} {xs : List Int} (h : Wr w B g v xs) : Wd w B g xs w := ⟨⟨v, h⟩, Below.refl _ _, Oth.refl _ _ _⟩
theorem Wd.of_wrote {w w1 w2 : World} {B g : Nat} {xs ys : List Int} {e : Ending} (h : Wd w B g xs w1) (k : Wrote B g ys w1 e w2) : Wd w B g ys w2 := ⟨k.2.1, h.bel.trans k.2.2.1, h.oth.trans k.2.2.2⟩
theorem Wd.alloc {w w1 : World} {B g : Nat} {xs : List Int} (h : Wd w B g xs w1) (o : Obj) : Wd w B g xs (w1.alloc o) := by
  obtain ⟨v, hv⟩ := h.wr
  exact ⟨⟨v, hv.alloc o⟩, h.bel.alloc hv.baseLe o, h.oth.trans (Oth.of_below (below_box _ _))⟩
theorem Wd.done {w w1 : World} {B g : Nat} {xs ys : List Int} (h : Wd w B g xs w1) (e : xs = ys) : Wrote B g ys w (.returned (.pointer (some ⟨g, 0, none⟩))) w1 := by subst e; exact ⟨rfl, h.wr, h.bel, h.oth⟩
/-- One byte laid. -/
theorem raw_one {w w0 : World} {B g : Nat} {xs : List Int} (h : Wd w0 B g xs w) (x : Int) (h0 : 0 ≤ x) (h1 : x ≤ 255) (hn : xs.length + 1 ≤ 140737488355328) :
    Calls Tryd.prog 50 #[.pointer (some ⟨g, 0, none⟩), .slice (some ⟨w.heap.size, 0, none⟩) 1 1] (w.alloc (.cells #[.int .u8 x] 5))
      fun e w' => e = .returned (.pointer (some ⟨g, 0, none⟩)) ∧ Hid (Wd w0 B g (xs ++ [x]) w') := by
  obtain ⟨v, hv⟩ := (h.alloc (.cells #[.int .u8 x] 5)).wr
  refine (raw_any _ B g 1 1 v xs [x] _ hv (RB.box _ _ _ h0 h1) (by omega)).mono ?_
  intro e w' hw
  exact ⟨hw.1, (h.alloc _).of_wrote hw⟩

set_option maxHeartbeats 1000000 in
theorem uint_any (w : World) (B g : Nat) (v : Value) (xs : List Int) (n : Int) (h : Wr w B g v xs) (h0 : 0 ≤ n) (h1 : n ≤ 18446744073709551615) (hn : xs.length + 16 ≤ 140737488355328) :
    Calls Tryd.prog 32 #[.pointer (some ⟨g, 0, none⟩), .int .u64 n] w (Wrote B g (xs ++ encN n.toNat) w) := by
  have H := Lib.hid (Wd.start h)
  clear h
  obtain ⟨m, rfl⟩ := Int.eq_ofNat_of_zero_le h0
  rw [Int.toNat_natCast]
  have hm : m < 2 ^ 64 := by omega
  obtain ⟨k, hk⟩ : ∃ k, behindS m = k := ⟨_, rfl⟩
  have k8 : k ≤ 8 := by have := behindS_le m; omega
  have hd := headS_range k k8
  have hf := firstB_range m k hm hk
  have HE := Lib.hid (encTo_all m k hk)
  have HK := Lib.hid hk
  by_cases hk8 : k < 8
  · have F := first_int m k hm hk hk8
    have HF := Lib.hid F
    clear F hk hm
    go_enter Tryd.func32, Tryd.ntmps32
    go_wp2_with fail
    refine (behind_any m _ h0 h1).mono ?_
    rintro e w' ⟨rfl, rfl⟩
    rw [Int.toNat_natCast, HK.out]
    go_wp2_with fail
    refine (head_any k _ (by omega) (by omega)).mono ?_
    rintro e w' ⟨rfl, rfl⟩
    rw [Int.toNat_natCast]
    go_wp2_with fail
    rw [HF.out]
    refine (raw_one H.out (firstB m k) hf.1 hf.2 (by omega)).mono ?_
    rintro e w1 ⟨rfl, H1⟩
    clear H HF HK
    go_wp2_with fail
    go_loopw [26] (fun i wr => ∃ j : Nat, j ≤ k ∧ i = .int .i64 j ∧ Hid (Wd w B g (xs ++ encTo m k j) wr)) (fun i _ => k - (intOf i).toNat)
    case atStart => exact ⟨0, Nat.zero_le _, rfl, H1⟩
    case round =>
      obtain ⟨j, hj, rfl, Hj⟩ := hrel
      clear H1
      by_cases hjk : j < k
      · go_wp2_with fail
        rw [tailB_int]
        refine (raw_one Hj.out (tailB m k j) (tailB_range _ _ _).1 (tailB_range _ _ _).2 (by rw [List.length_append, encTo_length]; omega)).mono ?_
        rintro e w2 ⟨rfl, H2⟩
        rw [List.append_assoc, encTo_succ] at H2
        clear Hj
        go_wp2_with fail
        go_roundw
        case rel => exact ⟨j + 1, by omega, by go_num, H2⟩
        case measure => simp [intOf]; omega
      · go_wp2_with fail
        go_ret
        obtain rfl : j = k := by omega
        exact Hj.out.done (by rw [HE.out])
  · obtain rfl : k = 8 := by omega
    have HF := Lib.hid (first_eight m)
    clear hk hm
    go_enter Tryd.func32, Tryd.ntmps32
    go_wp2_with fail
    refine (behind_any m _ h0 h1).mono ?_
    rintro e w' ⟨rfl, rfl⟩
    rw [Int.toNat_natCast, HK.out]
    go_wp2_with fail
    refine (head_any 8 _ (by omega) (by omega)).mono ?_
    rintro e w' ⟨rfl, rfl⟩
    simp only [show Int.toNat 8 = 8 from rfl]
    go_wp2_with fail
    rw [HF.out]
    refine (raw_one H.out (firstB m 8) hf.1 hf.2 (by omega)).mono ?_
    rintro e w1 ⟨rfl, H1⟩
    clear H HF HK
    go_wp2_with fail
    go_loopw [26] (fun i wr => ∃ j : Nat, j ≤ 8 ∧ i = .int .i64 j ∧ Hid (Wd w B g (xs ++ encTo m 8 j) wr)) (fun i _ => 8 - (intOf i).toNat)
    case atStart => exact ⟨0, Nat.zero_le _, rfl, H1⟩
    case round =>
      obtain ⟨j, hj, rfl, Hj⟩ := hrel
      clear H1
      by_cases hjk : j < 8
      · go_wp2_with fail
        rw [show ((m : Int) / 2 ^ (8 * (7 - j)) % 256) = tailB m 8 j from tailB_int m 8 j]
        refine (raw_one Hj.out (tailB m 8 j) (tailB_range _ _ _).1 (tailB_range _ _ _).2 (by rw [List.length_append, encTo_length]; omega)).mono ?_
        rintro e w2 ⟨rfl, H2⟩
        rw [List.append_assoc, encTo_succ] at H2
        clear Hj
        go_wp2_with fail
        go_roundw
        case rel => exact ⟨j + 1, by omega, by go_num, H2⟩
        case measure => simp [intOf]; omega
      · go_wp2_with fail
        go_ret
        obtain rfl : j = 8 := by omega
        exact Hj.out.done (by rw [HE.out])

/-! The same, a writer's call behind another one. -/
theorem wd_of {w w0 : World} {B g : Nat} {xs ys : List Int} {f : FuncId} {args : Array Value} (h : Wd w0 B g xs w) (k : ∀ v, Wr w B g v xs → Calls Tryd.prog f args w (Wrote B g ys w)) :
    Calls Tryd.prog f args w fun e w' => e = .returned (.pointer (some ⟨g, 0, none⟩)) ∧ Hid (Wd w0 B g ys w') := by
  obtain ⟨v, hv⟩ := h.wr
  exact (k v hv).mono fun e w' hw => ⟨hw.1, h.of_wrote hw⟩
theorem uint_wd {w w0 : World} {B g : Nat} {xs : List Int} (h : Wd w0 B g xs w) (n : Int) (h0 : 0 ≤ n) (h1 : n ≤ 18446744073709551615) (hn : xs.length + 16 ≤ 140737488355328) :
    Calls Tryd.prog 32 #[.pointer (some ⟨g, 0, none⟩), .int .u64 n] w fun e w' => e = .returned (.pointer (some ⟨g, 0, none⟩)) ∧ Hid (Wd w0 B g (xs ++ encN n.toNat) w') :=
  wd_of h fun v hv => uint_any w B g v xs n hv h0 h1 hn
theorem raw_wd {w w0 : World} {B g n c : Nat} {xs ys : List Int} {A : Option Addr} (h : Wd w0 B g xs w) (hr : RB w A n ys) (hn : xs.length + n ≤ 140737488355328) :
    Calls Tryd.prog 50 #[.pointer (some ⟨g, 0, none⟩), .slice A n c] w fun e w' => e = .returned (.pointer (some ⟨g, 0, none⟩)) ∧ Hid (Wd w0 B g (xs ++ ys) w') :=
  wd_of h fun v hv => raw_any w B g n c v xs ys A hv hr hn
theorem Wd.length {w w1 : World} {B g : Nat} {xs : List Int} (h : Wd w B g xs w1) : xs.length ≤ 9223372036854775807 := by
  obtain ⟨v, hv⟩ := h.wr
  rcases hv.own.2 with ⟨_, h1⟩ | ⟨g', cap', cur, he, _, _, h1, h2, _⟩
  · omega
  · simp only [maxLen] at h2
    omega

set_option maxHeartbeats 400000 in
theorem bool_wd {w w0 : World} {B g : Nat} {xs : List Int} (h : Wd w0 B g xs w) (b : Bool) (hn : xs.length + 16 ≤ 140737488355328) :
    Calls Tryd.prog 33 #[.pointer (some ⟨g, 0, none⟩), .bool b] w fun e w' => e = .returned (.pointer (some ⟨g, 0, none⟩)) ∧ Hid (Wd w0 B g (xs ++ [if b then 1 else 0]) w') := by
  have H := Lib.hid h
  clear h
  cases b
  · go_enter Tryd.func33, Tryd.ntmps33
    go_wp2_with fail
    refine (raw_one H.out 0 (by omega) (by omega) (by omega)).mono ?_
    rintro e w1 ⟨rfl, H1⟩
    go_wp2_with fail
    go_ret
    exact ⟨rfl, H1⟩
  · go_enter Tryd.func33, Tryd.ntmps33
    go_wp2_with fail
    refine (raw_one H.out 1 (by omega) (by omega) (by omega)).mono ?_
    rintro e w1 ⟨rfl, H1⟩
    go_wp2_with fail
    go_ret
    exact ⟨rfl, H1⟩
set_option maxHeartbeats 400000 in
theorem bytes_wd {w w0 : World} {B g n c : Nat} {xs ys : List Int} {A : Option Addr} (h : Wd w0 B g xs w) (hr : RB w A n ys) (hA : ∀ w', Below B w w' → RB w' A n ys) (hn : xs.length + n + 16 ≤ 140737488355328) :
    Calls Tryd.prog 34 #[.pointer (some ⟨g, 0, none⟩), .slice A n c] w fun e w' => e = .returned (.pointer (some ⟨g, 0, none⟩)) ∧ Hid (Wd w0 B g (xs ++ (encN n ++ ys)) w') := by
  have H := Lib.hid h
  clear h
  have hlen := hr.2.1
  have hb8 := behindS_le n
  have hA1 := Lib.hid hA
  clear hA
  go_enter Tryd.func34, Tryd.ntmps34
  go_wp2_with fail
  have H' := Wd.start H.out.wr.choose_spec
  refine (uint_wd H' n (by omega) (by omega) (by omega)).mono ?_
  rintro e w1 ⟨rfl, H1⟩
  rw [Int.toNat_natCast] at H1
  have H2 : Hid (Wd w0 B g (xs ++ encN n) w1) := ⟨H1.wr, H.out.bel.trans H1.bel, H.out.oth.trans H1.oth⟩
  have HR := Lib.hid (hA1.out w1 H1.bel)
  clear H'
  go_wp2_with fail
  refine (raw_wd H2.out HR.out (by rw [List.length_append, encN_length]; omega)).mono ?_
  rintro e w2 ⟨rfl, H3⟩
  rw [List.append_assoc] at H3
  go_wp2_with fail
  go_ret
  exact ⟨rfl, H3⟩
end Go.Proofs.YtcdjbfgkajfnlaaDoor
