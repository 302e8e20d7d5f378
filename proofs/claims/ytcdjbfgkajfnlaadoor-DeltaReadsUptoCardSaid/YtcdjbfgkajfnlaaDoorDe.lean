/- Layer 10: parts as bytes, walked. -/
import Derived.Test.YtcdjbfgkajfnlaaDoorPc
import Derived.Test.YtcdjbfgkajfnlaaDoorDo
namespace Go.Proofs.YtcdjbfgkajfnlaaDoor
open Go.RowKit

def u64N (x : Int) : Nat := (x % 18446744073709551616).toNat
def encOp (o : POp) : List Int := [if o.copy then 1 else 0] ++ (if o.copy then encN (u64N o.frm) ++ encN (u64N o.len) else encN o.bytes.length ++ o.bytes)
def encOps (l : List POp) : List Int := encN l.length ++ l.flatMap encOp
def encUpto (l : List POp) (j : Nat) : List Int := encN l.length ++ (l.take j).flatMap encOp
theorem encUpto_all (l : List POp) (j : Nat) (h : l.length ≤ j) : encUpto l j = encOps l := by unfold encUpto encOps; rw [List.take_of_length_le h]
theorem encUpto_succ (l : List POp) (j : Nat) (o : POp) (h : l[j]? = some o) : encUpto l (j + 1) = encUpto l j ++ encOp o := by
  unfold encUpto
  rw [List.take_add_one, h, List.flatMap_append, List.append_assoc]
  simp
theorem encUpto_le (l : List POp) (j : Nat) : (encUpto l j).length ≤ (encOps l).length := by
  unfold encUpto encOps
  have : l.flatMap encOp = (l.take j).flatMap encOp ++ (l.drop j).flatMap encOp := by rw [← List.flatMap_append, List.take_append_drop]
  rw [this]
  simp only [List.length_append]
  omega
/-- Parts that are read. -/
def ROps (w : World) (A : Option Addr) (n : Nat) (l : List POp) : Prop :=
  l.length = n ∧ n ≤ 140737488355328 ∧ (0 < n → ∃ b off, A = some ⟨b, off, none⟩ ∧ ∀ j o, l[j]? = some o → ∃ Aj cj, w.cell? ⟨b, off + j * 4, none⟩ = some (.bool o.copy) ∧ w.cell? ⟨b, off + j * 4 + 1, none⟩ = some (.int .i64 o.frm) ∧
    w.cell? ⟨b, off + j * 4 + 2, none⟩ = some (.int .i64 o.len) ∧ w.cell? ⟨b, off + j * 4 + 3, none⟩ = some (.slice Aj o.bytes.length cj) ∧ RB w Aj o.bytes.length o.bytes ∧ o.bytes.length ≤ cj ∧
    (-9223372036854775808 ≤ o.frm ∧ o.frm ≤ 9223372036854775807) ∧ (-9223372036854775808 ≤ o.len ∧ o.len ≤ 9223372036854775807))
theorem ROps.below {w w' : World} {A : Option Addr} {n : Nat} {l : List POp} (h : ROps w A n l) (hb : Below w.heap.size w w') : ROps w' A n l := by
  refine ⟨h.1, h.2.1, fun hn => ?_⟩
  obtain ⟨b, off, e, hj⟩ := h.2.2 hn
  refine ⟨b, off, e, fun j o ho => ?_⟩
  obtain ⟨Aj, cj, h0, h1, h2, h3, h4, h5⟩ := hj j o ho
  have keep : ∀ {a : Addr} {v : Value}, w.cell? a = some v → w'.cell? a = some v := fun hc => (hb.cell (block_lt_of_cell hc)).trans hc
  exact ⟨Aj, cj, keep h0, keep h1, keep h2, keep h3, h4.below hb, h5⟩
theorem uint_two {w : World} {B g b t : Nat} {cs : Array Value} (W : World) (xs : List Int) (m : Int) (h : Wd w B g xs W) (hb : Blk W b t cs) (hg : g < b) (ht : t ≠ 5) (hl : xs.length + 16 ≤ 140737488355328) :
    Calls Tryd.prog 32 #[.pointer (some ⟨g, 0, none⟩), .int .u64 (IntKind.u64.wrap m)] W fun e w' => e = .returned (.pointer (some ⟨g, 0, none⟩)) ∧ Hid (Wd w B g (xs ++ encN (u64N m)) w' ∧ Blk w' b t cs) := by
  have hw : IntKind.u64.wrap m = m % 18446744073709551616 := IntKind.wrap_u64 m
  rw [hw]
  refine (uint_wd h.here (m % 18446744073709551616) (by omega) (by omega) hl).mono ?_
  rintro e w' ⟨he, H⟩
  exact ⟨he, h.trans H.out, H.out.oth.blk hb ht (by omega)⟩
set_option maxHeartbeats 4000000 in
theorem encode_any (w : World) (A : Option Addr) (n c : Nat) (l : List POp) (h : ROps w A n l) (hsz : (encOps l).length + 64 ≤ 140737488355328) :
    Calls Tryd.prog 13 #[.slice A n c] w (Gives w (encOps l)) := by
  have hl := h.1
  have hn := h.2.1
  have H := Lib.hid h
  have HL := Lib.hid hl
  clear h hl
  have hnl : l.length ≤ n := by have := HL.out; omega
  have hel := encUpto_le l
  go_enter Tryd.func13, Tryd.ntmps13
  go_wp2_with fail
  refine (new_any w).mono ?_
  rintro e w1 ⟨rfl, hw1⟩
  have W0 : Wd w w.heap.size w.heap.size [] w1 := by
    rw [hw1]
    exact ⟨⟨_, Wr.new w⟩, below_box _ _, Oth.of_below (below_box _ _)⟩
  have HW0 := Lib.hid W0
  clear hw1 W0
  go_wp2_with fail
  refine (uint_wd HW0.out n (by omega) (by omega) (by simp)).mono ?_
  rintro e w2 ⟨rfl, H2⟩
  have H2' : Hid (Wd w w.heap.size w.heap.size (encUpto l 0) w2) := by
    have := H2.out
    rw [Int.toNat_natCast, List.nil_append] at this
    show Wd _ _ _ _ _
    unfold encUpto
    rw [HL.out]
    simpa using this
  clear H2 HW0
  go_wp2_with fail
  go_loopw [13] (fun iv wr => ∃ j : Nat, j ≤ n ∧ iv = .int .i64 j ∧ Hid (Wd w w.heap.size w.heap.size (encUpto l j) wr)) (fun iv _ => n - (intOf iv).toNat)
  case atStart => exact ⟨0, by omega, rfl, H2'⟩
  case round =>
    obtain ⟨j, hj, rfl, HJ⟩ := hrel
    clear H2'
    have hej := hel j
    by_cases hjn : j < n
    · have hjl : j < l.length := by have := HL.out; omega
      obtain ⟨o, ho⟩ : ∃ o, l[j]? = some o := ⟨_, List.getElem?_eq_getElem hjl⟩
      obtain ⟨b, off, rfl, hcell⟩ := H.out.2.2 (by omega)
      obtain ⟨Aj, cj, m0, m1, m2, m3, k4, k5, k6, k7⟩ := hcell j o ho
      have HO := Lib.hid ho
      have hbw := HJ.out.bel
      have keep : ∀ {a : Addr} {v : Value}, w.cell? a = some v → wr.cell? a = some v := fun hc => (hbw.cell (block_lt_of_cell hc)).trans hc
      have k0 := keep m0
      have k1 := keep m1
      have k2 := keep m2
      have k3 := keep m3
      have K4 := Lib.hid k4
      have hgl : w.heap.size < wr.heap.size := by
        obtain ⟨v, hv⟩ := HJ.out.wr
        exact hv.blk.lt
      have hes : (encUpto l j).length + (encOp o).length ≤ (encOps l).length := by
        have := hel (j + 1)
        rw [encUpto_succ l j o ho, List.length_append] at this
        exact this
      have HS := Lib.hid (encUpto_succ l j o ho)
      clear hcell ho m0 m1 m2 m3 keep hbw k4
      obtain ⟨oc, of_, ol, ob⟩ := o
      simp only at k0 k1 k2 k3 K4 k5 k6 k7
      cases oc
      · have he : (encOp ⟨false, of_, ol, ob⟩).length = (encN ob.length).length + ob.length + 1 := by simp [encOp]
        rw [he] at hes
        have hb8 := behindS_le ob.length
        have h2 := encN_length ob.length
        have HE := Lib.hid he
        clear he
        have HW : Hid (Wd w w.heap.size w.heap.size (encUpto l j) (wr.alloc (.cells #[.bool false, .int .i64 of_, .int .i64 ol, .slice Aj ob.length cj] 50))) := HJ.out.alloc _
        have HBK : Hid (Blk (wr.alloc (.cells #[.bool false, .int .i64 of_, .int .i64 ol, .slice Aj ob.length cj] 50)) wr.heap.size 50 #[.bool false, .int .i64 of_, .int .i64 ol, .slice Aj ob.length cj]) := Blk.new _ _ _
        go_wp2_with fail
        refine (bool_wd HW.out.here false (by omega)).mono ?_
        rintro e w3 ⟨rfl, H3⟩
        have HB3 := Lib.hid (H3.out.oth.blk HBK.out (by decide) (by omega))
        have HW3 := Lib.hid (HW.out.trans H3.out)
        have c0 := HB3.out.cell 0
        have c3 := HB3.out.cell 3
        simp only [List.getElem?_toArray, List.getElem?_cons_succ, List.getElem?_cons_zero] at c0 c3
        clear HW HBK
        go_wp2_with fail
        refine (bytes_wd HW3.out (K4.out.below HW3.out.bel) (fun w' hb => K4.out.below (HW3.out.bel.trans hb)) (by simp only [List.length_append, List.length_singleton]; omega)).mono ?_
        rintro e w4 ⟨rfl, H4⟩
        go_wp2_with fail
        go_roundw
        case rel =>
          refine ⟨j + 1, by omega, by go_num, ?_⟩
          rw [HS.out]
          have := H4.out
          rw [List.append_assoc] at this
          exact this
        case measure => simp [intOf]; omega
      · have he : (encOp ⟨true, of_, ol, ob⟩).length = (encN (u64N of_)).length + (encN (u64N ol)).length + 1 := by simp [encOp]
        rw [he] at hes
        have HE := Lib.hid he
        clear he
        have HW : Hid (Wd w w.heap.size w.heap.size (encUpto l j) (wr.alloc (.cells #[.bool true, .int .i64 of_, .int .i64 ol, .slice Aj ob.length cj] 50))) := HJ.out.alloc _
        have HBK : Hid (Blk (wr.alloc (.cells #[.bool true, .int .i64 of_, .int .i64 ol, .slice Aj ob.length cj] 50)) wr.heap.size 50 #[.bool true, .int .i64 of_, .int .i64 ol, .slice Aj ob.length cj]) := Blk.new _ _ _
        go_wp2_with fail
        refine (bool_wd HW.out.here true (by omega)).mono ?_
        rintro e w3 ⟨rfl, H3⟩
        have HB3 := Lib.hid (H3.out.oth.blk HBK.out (by decide) (by omega))
        have HW3 := Lib.hid (HW.out.trans H3.out)
        have c0 := HB3.out.cell 0
        have c1 := HB3.out.cell 1
        have c2 := HB3.out.cell 2
        simp only [List.getElem?_toArray, List.getElem?_cons_succ, List.getElem?_cons_zero] at c0 c1 c2
        clear HW HBK
        go_wp2_with fail
        have HU := Lib.hid (fun (W : World) (xs : List Int) (m : Int) (h : Hid (Wd w w.heap.size w.heap.size xs W ∧ Blk W wr.heap.size 50 #[.bool true, .int .i64 of_, .int .i64 ol, .slice Aj ob.length cj])) (hl : xs.length + 16 ≤ 140737488355328) => uint_two W xs m h.out.1 h.out.2 hgl (by decide) hl)
        have H1 : Hid (Wd w w.heap.size w.heap.size (encUpto l j ++ [1]) w3.drew ∧ Blk w3.drew wr.heap.size 50 #[.bool true, .int .i64 of_, .int .i64 ol, .slice Aj ob.length cj]) := ⟨HW3.out.drew, HB3.out⟩
        have hn1 := encN_length (u64N of_)
        have hn2 := encN_length (u64N ol)
        have hb1 := behindS_le (u64N of_)
        go_region_with (first | (go_at_call_of 32 of_; refine (HU.out _ _ of_ H1 (by simp only [List.length_append, List.length_singleton]; omega)).mono ?_; rintro e w5 ⟨rfl, H5⟩; have d2 := H5.out.2.cell 2; simp only [List.getElem?_toArray, List.getElem?_cons_succ, List.getElem?_cons_zero] at d2) | (go_at_call_of 32 ol; refine (HU.out _ _ ol H5 (by simp only [List.length_append, List.length_singleton]; omega)).mono ?_; rintro e w6 ⟨rfl, H6⟩))
        all_goals
          go_wp2_with fail
          go_roundw
          case rel =>
            refine ⟨j + 1, by omega, by go_num, ?_⟩
            rw [HS.out]
            have := H6.out.1
            simp only [List.append_assoc] at this
            show Wd _ _ _ _ _
            simpa only [encOp, if_true, List.append_assoc] using this
          case measure => simp [intOf]; omega
    · go_wp2_with fail
      refine (wdone_any HJ.out (by omega)).mono ?_
      intro e w5 h5
      obtain ⟨A5, c5, rfl, H5⟩ := h5.at_
      go_wp2_with fail
      go_ret
      have hjj : j = n := by omega
      rw [encUpto_all l j (by omega)] at H5 ⊢
      obtain ⟨a1, a2, a3, a4, a5⟩ := H5.out
      exact ⟨A5, c5, rfl, a1, a2, a3, fun ad ea hp => Nat.le_trans HJ.out.bel.size (a4 ad ea hp), HJ.out.bel.trans (a5.mono HJ.out.bel.size)⟩
end Go.Proofs.YtcdjbfgkajfnlaaDoor
