/- Layer 2: what the document lays, walked: bytes of one's own, truths, numbers, bytes. -/
import Derived.Test.YtcdjbfgkajfnlaaDoorQf
namespace Go.Proofs.YtcdjbfgkajfnlaaDoor
open Go.RowKit

/-- Bytes in new memory, a row of the call's own. -/
structure Row (w : World) (xs : List Int) (A : Option Addr) (c : Nat) (W : World) : Prop where
  own : W.ownsRow w.heap.size 5 1 (.slice A xs.length c) xs.length (u8s xs)
  bel : Below w.heap.size w W
def Lays (w : World) (xs : List Int) (e : Ending) (w' : World) : Prop := ∃ A c, e = .returned (.slice A xs.length c) ∧ Hid (Row w xs A c w')
theorem Row.rb {w W : World} {xs : List Int} {A : Option Addr} {c : Nat} (h : Row w xs A c W) (hx : u8Ok xs) (hn : xs.length ≤ 140737488355328) : RB W A xs.length xs := RB.of_own h.own hx hn
theorem Row.below {w W W' : World} {xs : List Int} {A : Option Addr} {c : Nat} (h : Row w xs A c W) (hb : Below W.heap.size W W') : Row w xs A c W' := ⟨own_below h.own hb, h.bel.trans (hb.mono h.bel.size)⟩
theorem Row.le {w W : World} {xs : List Int} {A : Option Addr} {c : Nat} (h : Row w xs A c W) : xs.length ≤ c := by
  obtain ⟨A', c', he, hle⟩ := own_slice h.own
  cases he
  exact hle
theorem Row.nil {w W : World} (hb : Below w.heap.size w W) : Row w [] none 0 W := ⟨own_nil _ _ _ _, hb⟩
theorem Row.grow {w W w' : World} {xs ys : List Int} {A A' : Option Addr} {c c' : Nat} (h : Row w xs A c W)
    (ho : w'.ownsRow w.heap.size 5 1 (.slice A' (xs ++ ys).length c') (xs ++ ys).length (u8s (xs ++ ys))) (hg : W.grownBy w' (Value.slice A xs.length c).ownBlock) : Row w (xs ++ ys) A' c' w' :=
  ⟨ho, h.bel.grown hg h.bel.size (fun k hk => own_base h.own k hk)⟩
theorem Row.from {v w W : World} {xs : List Int} {A : Option Addr} {c : Nat} (h : Row w xs A c W) (hb : Below v.heap.size v w) : Row v xs A c W := by
  refine ⟨?_, hb.trans (h.bel.mono hb.size)⟩
  have := h.own
  refine ⟨this.1, ?_⟩
  rcases this.2 with h1 | ⟨g, cap, cur, h1, h2, h3⟩
  · exact .inl h1
  · exact .inr ⟨g, cap, cur, h1, Nat.le_trans hb.size h2, h3⟩
/-- What is read beside a row of the call's own lies on while the row grows. -/
theorem RB.beside {W W' : World} {A : Option Addr} {n : Nat} {xs : List Int} {row : Option Nat} (h : RB W A n xs) (hg : W.grownBy W' row) (hr : ∀ ad, A = some ad → 0 < n → some ad.block ≠ row) : RB W' A n xs := h.grown hg hr
theorem own_any (w : World) (A : Option Addr) (n c : Nat) (xs : List Int) (hr : RB w A n xs) : Calls Tryd.prog 52 #[.slice A n c] w (Lays w xs) := by
  have hn := hr.2.1
  have HR := Lib.hid hr
  have hs : w.heap.size ≤ w.heap.size := Nat.le_refl _
  clear hr
  go_enter Tryd.func52, Tryd.ntmps52
  go_wp2_with (at_builtin; refine wpList_append_rb _ rfl (.tmp 4) (.tmp 5) 25 rfl w.heap.size 5 Tryd.underlying25 info_u8 (.slice none 0 0) [] xs rfl (own_nil _ _ _ _) A n c rfl HR.out (by simpa using hn) hs ?_; intro A1 c1 w1 ho1 hg1 hn1; have HO := Lib.hid ((Row.nil (Below.refl _ _)).grow ho1 hg1); clear ho1 hg1 hn1)
  go_ret
  exact ⟨A1, c1, rfl, HO.out⟩
theorem lays_eq {w w' : World} {xs ys : List Int} {A : Option Addr} {c : Nat} (h : Row w xs A c w') (e : xs = ys) : Lays w ys (.returned (.slice A xs.length c)) w' := by subst e; exact ⟨A, c, rfl, h⟩
theorem refBool_any (w : World) (A : Option Addr) (n c : Nat) (xs : List Int) (v : Bool) (hr : RB w A n xs) (hn : n + 1 ≤ 140737488355328) : Calls Tryd.prog 37 #[.slice A n c, .bool v] w (Lays w (xs ++ [if v then 1 else 0])) := by
  have HO := Lib.hid (fun W (h : RB W A n xs) => own_any W A n c xs h)
  have HR := Lib.hid hr
  have hl := hr.len
  have hn2 : xs.length + 1 ≤ 140737488355328 := by omega
  have HL := Lib.hid hl
  clear hr hl
  cases v
  all_goals
    go_enter Tryd.func37, Tryd.ntmps37
    go_wp2_with fail
    refine (HO.out _ HR.out).mono ?_
    rintro e w1 ⟨A1, c1, rfl, H1⟩
    have hz := H1.out.bel.size
  · have HRB := Lib.hid (RB.box w1 5 0 (by omega) (by omega))
    have HW := Lib.hid (H1.out.below (below_box _ (.cells #[.int .u8 0] 5)))
    have hz1 : w.heap.size ≤ (w1.alloc (.cells #[.int .u8 0] 5)).heap.size := by simp; omega
    go_wp2_with (at_builtin; refine wpList_append_rb _ rfl (.tmp 11) (.tmp 12) 25 rfl w.heap.size 5 Tryd.underlying25 info_u8 (.slice A1 xs.length c1) xs [0] rfl HW.out.own (some ⟨w1.heap.size, 0, none⟩) 1 1 rfl HRB.out hn2 hz1 ?_; intro A2 c2 w2 ho hg hnr; have HO2 := Lib.hid (HW.out.grow ho hg); clear ho hg hnr)
    go_ret
    exact ⟨A2, c2, by rw [List.length_append]; rfl, HO2.out⟩
  · have HRB := Lib.hid (RB.box w1 5 1 (by omega) (by omega))
    have HW := Lib.hid (H1.out.below (below_box _ (.cells #[.int .u8 1] 5)))
    have hz1 : w.heap.size ≤ (w1.alloc (.cells #[.int .u8 1] 5)).heap.size := by simp; omega
    go_wp2_with (at_builtin; refine wpList_append_rb _ rfl (.tmp 7) (.tmp 8) 25 rfl w.heap.size 5 Tryd.underlying25 info_u8 (.slice A1 xs.length c1) xs [1] rfl HW.out.own (some ⟨w1.heap.size, 0, none⟩) 1 1 rfl HRB.out hn2 hz1 ?_; intro A2 c2 w2 ho hg hnr; have HO2 := Lib.hid (HW.out.grow ho hg); clear ho hg hnr)
    go_ret
    exact ⟨A2, c2, by rw [List.length_append]; rfl, HO2.out⟩
/-- What of a number is told behind its first byte, the last i bytes. -/
def dS (n k i : Nat) : List Int := (List.range i).map fun j => tailB n k (k - i + j)
def nI (n i : Nat) : Nat := n / 256 ^ i
theorem dS_length (n k i : Nat) : (dS n k i).length = i := by simp [dS]
theorem dS_all (n k : Nat) : dS n k k = (List.range k).map (tailB n k) := by simp [dS]
theorem dS_succ (n k i : Nat) (h : i < k) : dS n k (i + 1) = tailB n k (k - 1 - i) :: dS n k i := by
  unfold dS
  rw [List.range_succ_eq_map, List.map_cons, List.map_map]
  congr 1
  · congr 1
    omega
  · apply List.map_congr_left
    intro j _
    simp only [Function.comp]
    congr 1
    omega
theorem dS_ok (n k i : Nat) : u8Ok (dS n k i) := by
  intro x hx
  obtain ⟨j, _, rfl⟩ := List.mem_map.1 hx
  exact tailB_range _ _ _
theorem nI_succ (n i : Nat) : nI n (i + 1) = nI n i / 256 := by unfold nI; rw [Nat.pow_succ, Nat.div_div_eq_div_mul]
theorem nI_le (n i : Nat) : nI n i ≤ n := Nat.div_le_self _ _
theorem nI_tail (n k i : Nat) (h : i < k) : ((nI n i : Int) % 256) = tailB n k (k - 1 - i) := by
  unfold tailB nI
  rw [show k - 1 - (k - 1 - i) = i by omega, Nat.pow_mul]
  rfl
theorem nI_first (n k : Nat) (h : n < 2 ^ 64) (hk : behindS n = k) : (headS k + (nI n k : Int) % 256) % 256 = firstB n k := by
  have hb := behindS_le n
  have hr := firstB_range n k h hk
  unfold firstB at hr ⊢
  rcases Nat.lt_or_ge k 8 with h8 | h8
  · rw [if_pos h8] at hr ⊢
    have e : nI n k = n / 2 ^ (8 * k) := by unfold nI; rw [Nat.pow_mul]
    rw [e]
    omega
  · obtain rfl : k = 8 := by omega
    have e : nI n 8 = 0 := by unfold nI; exact Nat.div_eq_of_lt (by omega)
    have := headS_range 8 (by omega)
    rw [e]
    simp
    omega
set_option maxHeartbeats 4000000 in
theorem refUint_any (w : World) (A : Option Addr) (c : Nat) (xs : List Int) (n : Nat) (hr : RB w A xs.length xs) (hn : n < 18446744073709551616) (hl : xs.length + 16 ≤ 140737488355328) :
    Calls Tryd.prog 36 #[.slice A xs.length c, .int .u64 n] w (Lays w (xs ++ encN n)) := by
  obtain ⟨k, hk⟩ : ∃ k, behindS n = k := ⟨_, rfl⟩
  have k8 : k ≤ 8 := by have := behindS_le n; omega
  have hd := headS_range k k8
  have hf := firstB_range n k (by omega) hk
  have HMORE := Lib.hid (fun W => more_any n W hn)
  rw [hk] at HMORE
  have HF := Lib.hid (nI_first n k (by omega) hk)
  have HT := Lib.hid (fun i hi => nI_tail n k i hi)
  have HENC : Hid (encN n = firstB n k :: dS n k k) := by
    show _ = _
    rw [dS_all]
    unfold encN
    rw [hk]
  have HR := Lib.hid hr
  have HNI := Lib.hid (nI_le n)
  clear hr hk
  go_enter Tryd.func36, Tryd.ntmps36
  go_wp2_with fail
  refine (HMORE.out _).mono ?_
  rintro e w1 ⟨rfl, rfl⟩
  go_wp2_with fail
  go_loopw [1, 6, 7] (fun nv dv iv wr => ∃ (i : Nat) (Ad : Option Addr) (cd : Nat), i ≤ k ∧ iv = .int .i64 i ∧ nv = .int .u64 (nI n i) ∧ dv = .slice Ad (dS n k i).length cd ∧ Hid (Row w (dS n k i) Ad cd wr)) (fun _ _ iv _ => k - (intOf iv).toNat)
  case atStart => exact ⟨0, none, 0, Nat.zero_le _, rfl, by simp [nI], rfl, Row.nil (Below.refl _ _)⟩
  case round =>
    obtain ⟨i, Ad, cd, hi, rfl, rfl, rfl, H⟩ := hrel
    rw [dS_length] at *
    have hz := H.out.bel.size
    by_cases hik : i < k
    · have HNS := Lib.hid (nI_succ n i)
      obtain ⟨N, hN⟩ : ∃ N, N = nI n i := ⟨_, rfl⟩
      have hT := HT.out i hik
      have htr := tailB_range n k (k - 1 - i)
      have hNn := HNI.out i
      rw [← hN] at hT HNS hNn ⊢
      obtain ⟨x, hx⟩ : ∃ x, x = tailB n k (k - 1 - i) := ⟨_, rfl⟩
      rw [← hx] at hT htr
      have HX := Lib.hid hx
      clear hN hx
      have HRB := Lib.hid (RB.box wr 5 x htr.1 htr.2)
      have HD := Lib.hid ((H.out.rb (dS_ok n k i) (by rw [dS_length]; omega)).below (below_box wr (.cells #[.int .u8 x] 5)))
      rw [dS_length] at HD
      have HW := Lib.hid (H.out.below (below_box wr (.cells #[.int .u8 x] 5)))
      have hz1 : w.heap.size ≤ (wr.alloc (.cells #[.int .u8 x] 5)).heap.size := by simp; omega
      go_wp2_with (first | (at_builtin; refine wpList_append_rb _ rfl (.tmp 16) (.tmp 20) 25 rfl w.heap.size 5 Tryd.underlying25 info_u8 (.slice none 0 0) [] [x] rfl (own_nil _ _ _ _) (some ⟨wr.heap.size, 0, none⟩) 1 1 rfl HRB.out (by simp) hz1 ?_; intro A2 c2 w2 ho hg hnr; have HR2 := Lib.hid ((Row.nil HW.out.bel).grow ho hg); have HD2 := Lib.hid (HD.out.grown hg (fun _ _ _ => by simp [Value.ownBlock])); clear ho hg hnr) | (at_builtin; refine wpList_append_rb _ rfl (.tmp 21) (.tmp 22) 25 rfl w.heap.size 5 Tryd.underlying25 info_u8 (.slice A2 1 c2) [x] (dS n k i) rfl HR2.out.own Ad i cd rfl HD2.out (by simp only [List.length_singleton]; omega) HR2.out.bel.size ?_; intro A3 c3 w3 ho hg hnr; have HR3 := Lib.hid (HR2.out.grow ho hg); clear ho hg hnr))
      go_roundw
      case rel =>
        have e1 : [x] ++ dS n k i = dS n k (i + 1) := by rw [dS_succ n k i hik, ← HX.out]; rfl
        have H3 := HR3.out
        simp only [List.nil_append] at H3
        rw [e1] at H3
        refine ⟨i + 1, A3, c3, by omega, by go_num, ?_, ?_, H3⟩
        · rw [HNS.out]; go_num
        · rw [← e1]; simp
      case measure => simp [intOf]; omega
    · obtain rfl : i = k := by omega
      have HD := Lib.hid (H.out.rb (dS_ok n i i) (by rw [dS_length]; omega))
      rw [dS_length] at HD
      have HNN := HNI.out i
      obtain ⟨N, hN⟩ : ∃ N, N = nI n i := ⟨_, rfl⟩
      rw [← hN] at HF HNN ⊢
      have HONE := Lib.hid (fun W => ones_any _ i W rfl k8)
      clear hN
      go_wp2_with fail
      refine (own_any _ A xs.length c xs (HR.out.below H.out.bel)).mono ?_
      rintro e w2 ⟨A2, c2, rfl, H2⟩
      go_wp2_with fail
      refine (HONE.out _).mono ?_
      rintro e w3 ⟨rfl, rfl⟩
      have hF := HF.out
      obtain ⟨y, hy⟩ : ∃ y, y = firstB n i := ⟨_, rfl⟩
      rw [← hy] at hF hf HENC
      clear hy
      have HRB := Lib.hid (RB.box w2 5 y hf.1 hf.2)
      have HW := Lib.hid ((H2.out.from H.out.bel).below (below_box w2 (.cells #[.int .u8 y] 5)))
      have hz1 : w.heap.size ≤ (w2.alloc (.cells #[.int .u8 y] 5)).heap.size := HW.out.bel.size
      have HD2 := Lib.hid ((HD.out.below H2.out.bel).below (below_box w2 (.cells #[.int .u8 y] 5)))
      have HDN : Hid (∀ ad, Ad = some ad → 0 < i → some ad.block ≠ (Value.slice A2 xs.length c2).ownBlock) := by
        intro ad ea hp e
        subst ea
        have h1 := HD.out.lt hp
        have h2 := own_base H2.out.own _ e.symm
        omega
      go_wp2_with (first | (at_builtin; refine wpList_append_rb _ rfl (.tmp 27) (.tmp 33) 25 rfl w.heap.size 5 Tryd.underlying25 info_u8 (.slice A2 xs.length c2) xs [y] rfl HW.out.own (some ⟨w2.heap.size, 0, none⟩) 1 1 rfl HRB.out (by omega) hz1 ?_; intro A3 c3 w4 ho hg hnr; have HR3 := Lib.hid (HW.out.grow ho hg); have HD3 := Lib.hid (HD2.out.grown hg HDN.out); clear ho hg hnr) | (at_builtin; refine wpList_append_rb _ rfl (.tmp 34) (.tmp 35) 25 rfl w.heap.size 5 Tryd.underlying25 info_u8 (.slice A3 (xs.length + 1) c3) (xs ++ [y]) (dS n i i) rfl (by have := HR3.out.own; rwa [List.length_append, List.length_singleton] at this ⊢) Ad i cd rfl HD3.out (by simp only [List.length_append, List.length_singleton]; omega) HR3.out.bel.size ?_; intro A4 c4 w5 ho hg hnr; have HR4 := Lib.hid (HR3.out.grow ho (by rwa [List.length_append, List.length_singleton])); clear ho hg hnr))
      have e2 : xs ++ [y] ++ dS n i i = xs ++ encN n := by rw [HENC.out, List.append_assoc]; rfl
      have H4 := HR4.out
      rw [e2] at H4
      have e3 : xs.length + ((dS n i i).length + 1) = (xs ++ encN n).length := by rw [← e2]; simp
      go_ret
      exact ⟨A4, c4, by rw [← e3]; rfl, H4⟩
/-- Bytes of bytes: how many they are, and they. -/
def encB (ys : List Int) : List Int := encN ys.length ++ ys
theorem encB_ok (ys : List Int) (h : u8Ok ys) (hl : ys.length ≤ 140737488355328) : u8Ok (encB ys) := (encN_ok _ (by omega)).append h
set_option maxHeartbeats 1000000 in
theorem refBytes_any (w : World) (A : Option Addr) (c : Nat) (xs : List Int) (A2 : Option Addr) (c2 : Nat) (ys : List Int) (hr : RB w A xs.length xs) (hr2 : RB w A2 ys.length ys) (hl : xs.length + ys.length + 16 ≤ 140737488355328) :
    Calls Tryd.prog 38 #[.slice A xs.length c, .slice A2 ys.length c2] w (Lays w (xs ++ encB ys)) := by
  have HU := Lib.hid (refUint_any w A c xs ys.length hr (by omega) (by omega))
  have hel : (xs ++ encN ys.length).length ≤ xs.length + 9 := by
    rw [List.length_append, encN_length]
    have := behindS_le ys.length
    omega
  have HR2 := Lib.hid hr2
  obtain ⟨zs, hzs⟩ : ∃ zs, zs = xs ++ encN ys.length := ⟨_, rfl⟩
  rw [← hzs] at HU hel
  have HZ : Hid (xs ++ encB ys = zs ++ ys) := by
    show _ = _
    rw [hzs, encB, List.append_assoc]
  have hle := hr2.2.1
  clear hr hr2 hzs
  go_enter Tryd.func38, Tryd.ntmps38
  go_wp2_with fail
  refine HU.out.mono ?_
  rintro e w1 ⟨A3, c3, rfl, H1⟩
  go_wp2_with (at_builtin; refine wpList_append_rb _ rfl (.tmp 9) (.tmp 10) 25 rfl w.heap.size 5 Tryd.underlying25 info_u8 (.slice A3 zs.length c3) zs ys rfl H1.out.own A2 ys.length c2 rfl (HR2.out.below H1.out.bel) (by omega) H1.out.bel.size ?_; intro A4 c4 w2 ho hg hnr; have HO2 := Lib.hid (H1.out.grow ho hg); clear ho hg hnr)
  go_ret
  have H2 := HO2.out
  rw [HZ.out]
  exact ⟨A4, c4, by rw [List.length_append]; rfl, H2⟩
end Go.Proofs.YtcdjbfgkajfnlaaDoor
