/- Layer 10: parts as bytes by the document, walked. -/
import Derived.Test.YtcdjbfgkajfnlaaDoorQi
namespace Go.Proofs.YtcdjbfgkajfnlaaDoor
open Go.RowKit

theorem lays_to {v w w' : World} {xs : List Int} {e : Ending} (h : Lays w xs e w') (hb : Below v.heap.size v w) : Lays v xs e w' := by
  obtain ⟨A, c, he, hr⟩ := h
  exact ⟨A, c, he, Row.from hr.out hb⟩
theorem u64N_lt (m : Int) : u64N m < 18446744073709551616 := by unfold u64N; omega
theorem encOp_ok (o : POp) (h : u8Ok o.bytes) (hl : o.bytes.length ≤ 140737488355328) : u8Ok (encOp o) := by
  unfold encOp
  refine u8Ok.append (fun x hx => ?_) ?_
  · simp only [List.mem_singleton] at hx
    subst hx
    split <;> omega
  · split
    · exact (encN_ok _ (u64N_lt _)).append (encN_ok _ (u64N_lt _))
    · exact (encN_ok _ (by omega)).append h
/-- A number laid behind a row of the call's own. -/
theorem refUint_row {w W : World} {xs zs : List Int} {A : Option Addr} {c k : Nat} (m : Int) (hk : k = xs.length) (hz : zs = xs ++ encN (u64N m)) (h : Row w xs A c W) (hx : u8Ok xs) (hl : xs.length + 16 ≤ 140737488355328) :
    Calls Tryd.prog 36 #[.slice A k c, .int .u64 (IntKind.u64.wrap m)] W fun e w' => ∃ A' c', e = .returned (.slice A' zs.length c') ∧ Hid (Row w zs A' c' w' ∧ Below W.heap.size W w') := by
  subst hk hz
  have hw : IntKind.u64.wrap m = ((u64N m : Nat) : Int) := by rw [IntKind.wrap_u64]; unfold u64N; omega
  rw [hw]
  refine (refUint_any W A c xs (u64N m) (h.rb hx (by omega)) (u64N_lt m) hl).mono ?_
  rintro e w' ⟨A', c', rfl, H⟩
  exact ⟨A', c', rfl, H.out.from h.bel, H.out.bel⟩
set_option maxHeartbeats 4000000 in
theorem refEncode_any (w : World) (A : Option Addr) (n c : Nat) (l : List POp) (h : ROps w A n l) (hsz : (encOps l).length + 64 ≤ 140737488355328) :
    Calls Tryd.prog 14 #[.slice A n c] w (Lays w (encOps l)) := by
  have hl := h.1
  have hn := h.2.1
  have H := Lib.hid h
  have HL := Lib.hid hl
  clear h hl
  have hnl : l.length ≤ n := by have := HL.out; omega
  have hel := encUpto_le l
  go_enter Tryd.func14, Tryd.ntmps14
  go_wp2_with fail
  refine (refUint_any w none 0 [] n (RB.none_ _) (by omega) (by simp)).mono ?_
  rintro e w1 ⟨A1, c1, rfl, H1⟩
  have h1 := H1.out
  have e1 : ([] : List Int) ++ encN n = encUpto l 0 := by unfold encUpto; rw [HL.out]; simp
  rw [e1] at h1 ⊢
  have HR1 := Lib.hid h1
  clear h1 e1 H1
  go_wp2_with fail
  go_loopw [3, 4] (fun bv iv wr => ∃ (j : Nat) (Ab : Option Addr) (cb : Nat), j ≤ n ∧ iv = .int .i64 j ∧ bv = .slice Ab (encUpto l j).length cb ∧ Hid (Row w (encUpto l j) Ab cb wr ∧ u8Ok (encUpto l j))) (fun _ iv _ => n - (intOf iv).toNat)
  case atStart =>
    refine ⟨0, A1, c1, by omega, rfl, rfl, HR1.out, ?_⟩
    unfold encUpto
    simp only [List.take_zero, List.flatMap_nil, List.append_nil]
    exact encN_ok _ (by omega)
  case round =>
    obtain ⟨j, Ab, cb, hj, rfl, rfl, HJ⟩ := hrel
    clear HR1
    have hej := hel j
    by_cases hjn : j < n
    · have hjl : j < l.length := by have := HL.out; omega
      obtain ⟨o, ho⟩ : ∃ o, l[j]? = some o := ⟨_, List.getElem?_eq_getElem hjl⟩
      obtain ⟨b, off, rfl, hcell⟩ := H.out.2.2 (by omega)
      obtain ⟨Aj, cj, m0, m1, m2, m3, k4, k5, k6, k7⟩ := hcell j o ho
      have hbw := HJ.out.1.bel
      have keep : ∀ {a : Addr} {v : Value}, w.cell? a = some v → wr.cell? a = some v := fun hc => (hbw.cell (block_lt_of_cell hc)).trans hc
      have hblt : b < w.heap.size := block_lt_of_cell m0
      have k0 := keep m0
      have M0 := Lib.hid m0
      have M1 := Lib.hid m1
      have M2 := Lib.hid m2
      have M3 := Lib.hid m3
      have K4 := Lib.hid k4
      have HS := Lib.hid (encUpto_succ l j o ho)
      have hes : (encUpto l j).length + (encOp o).length ≤ (encOps l).length := by
        have := hel (j + 1)
        rw [encUpto_succ l j o ho, List.length_append] at this
        exact this
      have HOK := Lib.hid (encOp_ok o k4.2.2.1 k4.2.1)
      clear hcell ho m0 m1 m2 m3 keep hbw k4
      obtain ⟨ys, hys⟩ : ∃ ys, ys = encUpto l j := ⟨_, rfl⟩
      rw [← hys] at HJ hej hes HS ⊢
      clear hys
      obtain ⟨oc, of_, ol, ob⟩ := o
      simp only at k0 M0 M1 M2 M3 K4 k5 k6 k7
      cases oc
      · have he : (encOp ⟨false, of_, ol, ob⟩).length = (encN ob.length).length + ob.length + 1 := by simp [encOp]
        rw [he] at hes
        have h2 := encN_length ob.length
        have HE := Lib.hid he
        clear he
        go_wp2_with fail
        refine (refBool_any wr Ab ys.length cb ys false (HJ.out.1.rb HJ.out.2 (by omega)) (by omega)).mono ?_
        rintro e w3 ⟨A3, c3, rfl, H3⟩
        have h3 := H3.out.from HJ.out.1.bel
        rw [if_neg (by simp)] at h3 ⊢
        have HR3 := Lib.hid h3
        have keep3 : ∀ {a : Addr} {v : Value}, w.cell? a = some v → w3.cell? a = some v := fun hc => (HR3.out.bel.cell (block_lt_of_cell hc)).trans hc
        have d0 := keep3 M0.out
        have d3 := keep3 M3.out
        have HOK3 : Hid (u8Ok (ys ++ [0])) := HJ.out.2.append (fun x hx => by simp only [List.mem_singleton] at hx; omega)
        obtain ⟨z1, hz1⟩ : ∃ z1, z1 = ys ++ [0] := ⟨_, rfl⟩
        have hl1 : z1.length = ys.length + 1 := by rw [hz1]; simp
        have HL1 := Lib.hid hl1
        rw [← hz1] at HR3 HOK3 ⊢
        have HBY : Hid (Calls Tryd.prog 38 #[.slice A3 (ys.length + 1) c3, .slice Aj ob.length cj] w3 (Lays w3 (z1 ++ encB ob))) := by
          have := refBytes_any w3 A3 c3 z1 Aj cj ob (HR3.out.rb HOK3.out (by omega)) (K4.out.below HR3.out.bel) (by omega)
          rw [hl1] at this
          exact this
        have HZ : Hid (z1 ++ encB ob = ys ++ encOp ⟨false, of_, ol, ob⟩) := by
          show _ = _
          rw [hz1]; simp [encOp, encB]
        clear h3 keep3 H3 hz1 hl1 M0 M1 M2 M3
        rw [HL1.out]
        go_wp2_with fail
        refine HBY.out.mono ?_
        rintro e w4 ⟨A4, c4, rfl, H4⟩
        have h4 := H4.out.from HR3.out.bel
        rw [HZ.out] at h4 ⊢
        have HR4 := Lib.hid h4
        clear h4
        rw [← HS.out]
        go_wp2_with fail
        go_roundw
        case rel =>
          refine ⟨j + 1, A4, c4, by omega, by go_num, rfl, ?_⟩
          rw [HS.out]
          exact ⟨HR4.out, HJ.out.2.append HOK.out⟩
        case measure => simp [intOf]; omega
      · have he : (encOp ⟨true, of_, ol, ob⟩).length = (encN (u64N of_)).length + (encN (u64N ol)).length + 1 := by simp [encOp]
        rw [he] at hes
        have HE := Lib.hid he
        clear he
        go_wp2_with fail
        refine (refBool_any wr Ab ys.length cb ys true (HJ.out.1.rb HJ.out.2 (by omega)) (by omega)).mono ?_
        rintro e w3 ⟨A3, c3, rfl, H3⟩
        have h3 := H3.out.from HJ.out.1.bel
        rw [if_pos rfl] at h3 ⊢
        have HR3 := Lib.hid h3
        have keep3 : ∀ {a : Addr} {v : Value}, w.cell? a = some v → w3.cell? a = some v := fun hc => (HR3.out.bel.cell (block_lt_of_cell hc)).trans hc
        have d0 := keep3 M0.out
        have d1 := keep3 M1.out
        have d2 := keep3 M2.out
        have HOK3 : Hid (u8Ok (ys ++ [1])) := HJ.out.2.append (fun x hx => by simp only [List.mem_singleton] at hx; omega)
        clear h3 keep3 H3
        go_wp2_with fail
        have hn1 := encN_length (u64N of_)
        have hn2 := encN_length (u64N ol)
        have hb1 := behindS_le (u64N of_)
        obtain ⟨z1, hz1⟩ : ∃ z1, z1 = (ys ++ [1]) ++ encN (u64N of_) := ⟨_, rfl⟩
        obtain ⟨z2, hz2⟩ : ∃ z2, z2 = z1 ++ encN (u64N ol) := ⟨_, rfl⟩
        have hl1 : z1.length = ys.length + 1 + (encN (u64N of_)).length := by rw [hz1]; simp; omega
        have hk1 : u8Ok z1 := by rw [hz1]; exact HOK3.out.append (encN_ok _ (u64N_lt _))
        have HU1 := Lib.hid (fun (W : World) (h : Hid (Row w (ys ++ [1]) A3 c3 W)) => refUint_row (k := ys.length + 1) of_ (by simp) hz1 h.out HOK3.out (by simp; omega))
        have HU2 := Lib.hid (fun (W : World) (A : Option Addr) (c : Nat) (h : Hid (Row w z1 A c W)) => refUint_row ol rfl hz2 h.out hk1 (by omega))
        have HZ : Hid (z2 = ys ++ encOp ⟨true, of_, ol, ob⟩ ∧ u8Ok z2) := by
          have e : z2 = ys ++ encOp ⟨true, of_, ol, ob⟩ := by rw [hz2, hz1]; simp [encOp]
          exact ⟨e, by rw [e]; exact HJ.out.2.append HOK.out⟩
        have H1 : Hid (Row w (ys ++ [1]) A3 c3 w3.drew) := ⟨HR3.out.own, HR3.out.bel.drew⟩
        have KEEP : Hid (∀ W, Below w3.drew.heap.size w3.drew W → W.cell? ⟨b, off + j * 4 + 2, none⟩ = some (.int .i64 ol)) := fun W hb => (hb.cell (block_lt_of_cell d2)).trans d2
        have hj0 : (0 : Int) ≤ j := by omega
        have hj1 : (j : Int) < n := by omega
        clear hz1 hz2 hn1 hn2 hb1 hl1 hk1 hes
        go_region_with (first | (go_at_call_of 36 of_; refine (HU1.out _ H1).mono ?_; rintro e w5 ⟨A5, c5, rfl, H5⟩; have g2 := KEEP.out _ H5.out.2; have H5a : Hid (Row w z1 A5 c5 w5) := H5.out.1) | (go_at_call_of 36 ol; refine (HU2.out _ _ _ H5a).mono ?_; rintro e w6 ⟨A6, c6, rfl, H6⟩))
        all_goals
          go_wp2_with fail
          go_roundw
          case rel =>
            refine ⟨j + 1, A6, c6, by omega, by go_num, ?_, ?_⟩
            · rw [HS.out, ← HZ.out.1]
            · rw [HS.out, ← HZ.out.1]
              exact ⟨H6.out.1, HZ.out.2⟩
          case measure => simp [intOf]; omega
    · have hjj : j = n := by omega
      have HE := Lib.hid (encUpto_all l j (by omega))
      clear hjj
      rw [HE.out] at HJ ⊢
      go_wp2_with fail
      go_ret
      exact ⟨Ab, cb, rfl, HJ.out.1⟩
end Go.Proofs.YtcdjbfgkajfnlaaDoor
