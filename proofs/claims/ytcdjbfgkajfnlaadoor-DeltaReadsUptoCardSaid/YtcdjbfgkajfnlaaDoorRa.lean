/- Layer 10: the document's block that parts make of a base, walked. -/
import Derived.Test.YtcdjbfgkajfnlaaDoorDs
namespace Go.Proofs.YtcdjbfgkajfnlaaDoor
open Go.RowKit

set_option maxRecDepth 100000 in
set_option maxHeartbeats 8000000 in
theorem refApply_any (w : World) (base : List Int) (hb : base.length = 64) (hb8 : u8Ok base) (A : Option Addr) (n c : Nat) (l : List POp) (h : ROps w A n l) :
    Calls Tryd.prog 11 #[.agg (u8s base).toArray, .slice A n c] w
      fun e w' => e = .returned (.tuple #[.agg (u8s (applyS base l).1).toArray, .int .i64 (applyS base l).2]) ∧ Hid (Below w.heap.size w w') := by
  obtain ⟨C, hC⟩ : ∃ C, C = (u8s base).toArray := ⟨_, rfl⟩
  have HCs : Hid (C.size = 64) := by rw [hC]; simp [Hid, u8s_length, hb]
  rw [← hC]
  have HC := Lib.hid hC
  clear hC
  have HL := Lib.hid h.1
  have hn := h.2.1
  have H := Lib.hid h
  clear h
  have HS : Hid (ASt w base (.slice none 0 0) [] ((w.alloc (.cells C 23)).alloc (.cells (u8s zero64).toArray 23))) := by
    rw [HC.out]
    have e : (w.alloc (.cells (u8s base).toArray 23)).heap.size = w.heap.size + 1 := by simp
    have k2 := BlkB.new (w.alloc (.cells (u8s base).toArray 23)) zero64 zero64_len zero64_ok
    rw [e] at k2
    exact ⟨(BlkB.new w base hb hb8).below (B := w.heap.size + 1) ((Below.refl _ _).alloc (by omega) _) (by omega), k2, own_nil _ _ _ _, u8Ok.nil, (below_box _ _).alloc (by simp) _⟩
  go_enter Tryd.func11, Tryd.ntmps11
  go_wp2_with fail
  go_loopw [6, 7] (fun V iv wr => ∃ (j : Nat) (all : List Int), j ≤ n ∧ iv = .int .i64 j ∧ all.length ≤ 64 ∧ Hid (ASt w base V all wr ∧ applyS base l = appL base (l.drop j) all)) (fun _ iv _ => n - (intOf iv).toNat)
  case atStart => exact ⟨0, [], by omega, rfl, by simp, HS, rfl⟩
  case round =>
    obtain ⟨j, all, hj, rfl, hal, HJ⟩ := hrel
    clear HS
    obtain ⟨AV, cV, hV, hcV⟩ := own_slice HJ.out.1.own
    rw [hV] at HJ ⊢
    have HV := Lib.hid hV
    clear hV
    by_cases hjn : j < n
    · have hjl : j < l.length := by have := HL.out; omega
      obtain ⟨o, ho⟩ : ∃ o, l[j]? = some o := ⟨_, List.getElem?_eq_getElem hjl⟩
      obtain ⟨b, off, hA, hcell⟩ := H.out.2.2 (by omega)
      obtain ⟨Aj, cj, m0, m1, m2, m3, k4, k5, k6, k7⟩ := hcell j o ho
      have hbw := HJ.out.1.bel
      have keep : ∀ {a : Addr} {v : Value}, w.cell? a = some v → wr.cell? a = some v := fun hc => (hbw.cell (block_lt_of_cell hc)).trans hc
      have k0 := keep m0
      have k1 := keep m1
      have k2 := keep m2
      have k3 := keep m3
      have K4 := Lib.hid (k4.below hbw)
      have HDR : Hid (l.drop j = o :: l.drop (j + 1)) := by
        have hoj : l[j] = o := (List.getElem?_eq_some_iff.1 ho).2
        show _ = _
        rw [← hoj, List.getElem_cons_drop]
      have HB5 : Hid (Below wr.heap.size wr (wr.alloc (.cells #[.bool o.copy, .int .i64 o.frm, .int .i64 o.len, .slice Aj o.bytes.length cj] 63))) := below_box _ _
      have HJ5 := Lib.hid (HJ.out.1.below HB5.out)
      have HK5 := Lib.hid (K4.out.below HB5.out)
      have HZ := Lib.hid HJ5.out.b2.1
      have hap := HJ.out.2
      rw [HDR.out, appL] at hap
      have HAP := Lib.hid hap
      clear hcell ho m0 m1 m2 m3 keep hbw k4 hap HJ K4
      cases hA
      by_cases hcp : o.copy = true
      · by_cases hgood : 0 ≤ o.frm ∧ o.frm ≤ 63 ∧ 1 ≤ o.len ∧ o.len ≤ 64 - o.frm
        · have hpart : partS base o = ((base.drop o.frm.toNat).take o.len.toNat, 0) := by
            unfold partS
            rw [if_neg (by simp [hcp]), if_neg (by omega)]
          have hap := HAP.out
          rw [hpart] at hap
          simp only at hap
          have HAPP := Lib.hid hap
          obtain ⟨oc, f, k, bs⟩ := o
          simp only at hcp hgood k0 k1 k2 k3 k5 k6 k7 HB5 HJ5 HK5 HZ HAPP
          subst hcp
          obtain ⟨f, rfl⟩ := Int.eq_ofNat_of_zero_le hgood.1
          obtain ⟨k, rfl⟩ := Int.eq_ofNat_of_zero_le (show 0 ≤ k by omega)
          have h64 : f + k ≤ 64 := by omega
          simp only [Int.toNat_natCast] at HAPP
          obtain ⟨xs, hxs⟩ : ∃ xs, xs = (base.drop f).take k := ⟨_, rfl⟩
          have hxl : xs.length = k := by rw [hxs, List.length_take, List.length_drop]; omega
          obtain ⟨A1, hcut1, hr1, _⟩ := cutb_lh w.heap.size f (f + k) f k rfl rfl h64
          have R1 := hr1 _ _ HJ5.out.b1
          rw [← hxs] at R1 HAPP
          have HR1 := Lib.hid R1
          have q1 : decide ((f : Int) < 0) = false := decide_eq_false (by omega)
          have q2 : decide ((63 : Int) < f) = false := decide_eq_false (by omega)
          have q3 : decide ((k : Int) < 1) = false := decide_eq_false (by omega)
          have q4 : decide ((64 : Int) - f < k) = false := decide_eq_false (by omega)
          have HXL := Lib.hid hxl
          by_cases hlong : 64 - all.length < k
          · have HRES : Hid (applyS base l = (zero64, 2)) := by
              have := HAPP.out
              rw [if_neg (by simp), if_pos (by rw [hxl]; exact hlong)] at this
              exact this
            have q5 : decide ((64 : Int) < all.length + k) = true := decide_eq_true (by omega)
            clear hr1 R1 hxs hxl HAP HAPP hgood HK5 hpart hap
            go_wp2_with (refine wpList_store_block rfl 23 (.tmp 4) (.tmp 65) rfl (w.heap.size + 1) rfl (u8s zero64).toArray rfl 23 (u8s zero64).toArray HZ.out 64 size_block zero_size zero_size (u8s_one' _) ?_)
            refine bodyPost_ret (results_cell_tmp Tryd.results11 _ _ (w.heap.size + 1) 23 (u8s zero64).toArray _ rfl (blk_setRow HZ.out) Tryd.underlying23 rfl (size_blk _ zero64_len)) rfl ⟨?_, ?_⟩
            · rw [HRES.out]; rfl
            · exact HJ5.out.bel.grown (grown_setRow _ _ _) HJ5.out.bel.size (fun k hk => by cases hk; omega)
          · have HRES : Hid (applyS base l = appL base (l.drop (j + 1)) (all ++ xs)) := by
              have := HAPP.out
              rw [if_neg (by simp), if_neg (by rw [hxl]; exact hlong)] at this
              exact this
            have q5 : decide ((64 : Int) < all.length + k) = false := decide_eq_false (by omega)
            have hfit : all.length + k ≤ 64 := by omega
            have hs5 := HJ5.out.b2.1.lt
            clear hr1 R1 hxs hxl HAP HAPP hgood HK5 hpart hap hlong
            go_wp2_with (at_builtin; refine wpList_append_rb _ rfl (.tmp 66) (.tmp 67) 25 rfl (w.heap.size + 2) 5 Tryd.underlying25 info_u8 (.slice AV all.length cV) all xs rfl HJ5.out.own A1 k (64 - f) rfl HR1.out (by omega) (by omega) ?_; intro A7 c7 w7 ho hg hn; have HP := Lib.hid (HJ5.out.push HR1.out.2.2.1 ho hg); clear ho hg hn)
            go_roundw
            case rel =>
              refine ⟨j + 1, all ++ xs, by omega, by go_num, by rw [List.length_append, HXL.out]; exact hfit, ?_, HRES.out⟩
              have := HP.out
              rw [List.length_append] at this
              exact this
            case measure => simp [intOf]; omega
        · have hpart : partS base o = ([], 4) := by
            unfold partS
            rw [if_neg (by simp [hcp]), if_pos (by omega)]
          have HRES : Hid (applyS base l = (zero64, 4)) := by
            have := HAP.out
            rw [hpart] at this
            simp at this
            exact this
          obtain ⟨oc, f, k, bs⟩ := o
          simp only at hcp hgood k0 k1 k2 k3 k5 k6 k7 HB5 HJ5 HK5 HZ
          subst hcp
          have hbad : decide (f < 0) = true ∨ (decide (f < 0) = false ∧ decide (63 < f) = true) ∨ (decide (f < 0) = false ∧ decide (63 < f) = false ∧ decide (k < 1) = true) ∨ (decide (f < 0) = false ∧ decide (63 < f) = false ∧ decide (k < 1) = false ∧ decide (64 - f < k) = true ∧ 0 ≤ f ∧ f ≤ 63) := by
            simp only [decide_eq_true_eq, decide_eq_false_iff_not]
            omega
          clear HAP hgood HK5 hpart
          rcases hbad with q1 | ⟨q1, q2⟩ | ⟨q1, q2, q3⟩ | ⟨q1, q2, q3, q4, q5, q6⟩
          all_goals
            go_wp2_with (refine wpList_store_block rfl 23 (.tmp 4) (.tmp 46) rfl (w.heap.size + 1) rfl (u8s zero64).toArray rfl 23 (u8s zero64).toArray HZ.out 64 size_block zero_size zero_size (u8s_one' _) ?_)
            refine bodyPost_ret (results_cell_tmp Tryd.results11 _ _ (w.heap.size + 1) 23 (u8s zero64).toArray _ rfl (blk_setRow HZ.out) Tryd.underlying23 rfl (size_blk _ zero64_len)) rfl ⟨?_, ?_⟩
            · rw [HRES.out]; rfl
            · exact HJ5.out.bel.grown (grown_setRow _ _ _) HJ5.out.bel.size (fun k hk => by cases hk; omega)
      · have hcf : o.copy = false := by simpa using hcp
        obtain ⟨oc, f, k, bs⟩ := o
        simp only at hcf k0 k1 k2 k3 k5 k6 k7 HB5 HJ5 HK5 HZ HAP
        subst hcf
        clear hcp
        rcases Nat.eq_zero_or_pos bs.length with hz | hz
        · have hbs : bs = [] := List.length_eq_zero_iff.1 hz
          subst hbs
          have HRES : Hid (applyS base l = (zero64, 3)) := by
            have := HAP.out
            simp [partS] at this
            exact this
          clear HAP HK5 hz
          go_wp2_with (refine wpList_store_block rfl 23 (.tmp 4) (.tmp 58) rfl (w.heap.size + 1) rfl (u8s zero64).toArray rfl 23 (u8s zero64).toArray HZ.out 64 size_block zero_size zero_size (u8s_one' _) ?_)
          refine bodyPost_ret (results_cell_tmp Tryd.results11 _ _ (w.heap.size + 1) 23 (u8s zero64).toArray _ rfl (blk_setRow HZ.out) Tryd.underlying23 rfl (size_blk _ zero64_len)) rfl ⟨?_, ?_⟩
          · rw [HRES.out]; rfl
          · exact HJ5.out.bel.grown (grown_setRow _ _ _) HJ5.out.bel.size (fun k hk => by cases hk; omega)
        · have hne : bs ≠ [] := by intro e; rw [e] at hz; simp at hz
          have hpart : partS base ⟨false, f, k, bs⟩ = (bs, 0) := by simp [partS, hne]
          have hap := HAP.out
          rw [hpart] at hap
          simp only at hap
          have HAPP := Lib.hid hap
          have hz0 : ((bs.length : Int) == 0) = false := by simp; omega
          have hbm := HK5.out.2.1
          by_cases hlong : 64 - all.length < bs.length
          · have HRES : Hid (applyS base l = (zero64, 2)) := by
              have := HAPP.out
              rw [if_neg (by simp), if_pos hlong] at this
              exact this
            have q5 : decide ((64 : Int) < all.length + bs.length) = true := decide_eq_true (by omega)
            clear HAP HAPP hpart hap hne HK5
            go_wp2_with (refine wpList_store_block rfl 23 (.tmp 4) (.tmp 65) rfl (w.heap.size + 1) rfl (u8s zero64).toArray rfl 23 (u8s zero64).toArray HZ.out 64 size_block zero_size zero_size (u8s_one' _) ?_)
            refine bodyPost_ret (results_cell_tmp Tryd.results11 _ _ (w.heap.size + 1) 23 (u8s zero64).toArray _ rfl (blk_setRow HZ.out) Tryd.underlying23 rfl (size_blk _ zero64_len)) rfl ⟨?_, ?_⟩
            · rw [HRES.out]; rfl
            · exact HJ5.out.bel.grown (grown_setRow _ _ _) HJ5.out.bel.size (fun k hk => by cases hk; omega)
          · have HRES : Hid (applyS base l = appL base (l.drop (j + 1)) (all ++ bs)) := by
              have := HAPP.out
              rw [if_neg (by simp), if_neg hlong] at this
              exact this
            have q5 : decide ((64 : Int) < all.length + bs.length) = false := decide_eq_false (by omega)
            have hfit : all.length + bs.length ≤ 64 := by omega
            have hs5 := HJ5.out.b2.1.lt
            clear HAP HAPP hpart hap hlong hne
            go_wp2_with (at_builtin; refine wpList_append_rb _ rfl (.tmp 66) (.tmp 67) 25 rfl (w.heap.size + 2) 5 Tryd.underlying25 info_u8 (.slice AV all.length cV) all bs rfl HJ5.out.own Aj bs.length cj rfl HK5.out (by omega) (by omega) ?_; intro A7 c7 w7 ho hg hn; have HP := Lib.hid (HJ5.out.push HK5.out.2.2.1 ho hg); clear ho hg hn)
            go_roundw
            case rel =>
              refine ⟨j + 1, all ++ bs, by omega, by go_num, by rw [List.length_append]; exact hfit, ?_, HRES.out⟩
              have := HP.out
              rw [List.length_append] at this
              exact this
            case measure => simp [intOf]; omega
    · have hjj : j = n := by omega
      have hdr : l.drop j = [] := List.drop_eq_nil_of_le (by have := HL.out; omega)
      have hap := HJ.out.2
      rw [hdr, appL] at hap
      have HZ := Lib.hid HJ.out.1.b2.1
      have HJ6 := Lib.hid HJ.out.1
      by_cases h64 : all.length = 64
      · rw [if_pos h64] at hap
        have HRES := Lib.hid hap
        obtain ⟨g, c9, hv9, hgb, _⟩ := HJ.out.1.own.form (by omega)
        cases hv9
        have HR := Lib.hid (RB.of_own HJ.out.1.own HJ.out.1.ok (by omega))
        have H64 := Lib.hid h64
        have hlt : decide ((all.length : Int) < 64) = false := decide_eq_false (by omega)
        obtain ⟨W5, hW5⟩ : ∃ W5, W5 = (wr.alloc (.cells (u8s zero64).toArray 23)).setRow wr.heap.size (u8s zero64).toArray := ⟨_, rfl⟩
        have hbn : Below wr.heap.size wr W5 := by rw [hW5]; exact below_new_row wr _ _ _
        have hbk : Blk W5 wr.heap.size 23 (u8s zero64).toArray := by rw [hW5]; exact blk_setRow (Blk.new _ _ _)
        have HJ7 := Lib.hid (HJ.out.1.below hbn)
        have hro := HR.out.below hbn
        have hcp := run_copy_row Tryd.prog W5 25 25 3 5 wr.heap.size 0 64 64 ⟨g, 0, none⟩ 64 cV (u8s zero64).toArray 23 (u8s all) Tryd.underlying25 (by kernel_rfl) hbk (by rw [u8s_length, h64]; rfl)
          (fun j v hj => by
            have hjl : j < all.length := by
              rcases Nat.lt_or_ge j all.length with h' | h'
              · exact h'
              · rw [List.getElem?_eq_none (by rw [u8s_length]; exact h')] at hj
                cases hj
            obtain ⟨ad, x, e1, _, _, e2, e3⟩ := hro.atL j (by omega)
            cases e1
            rw [u8s_get all j hjl] at hj
            rw [← hj, e3, List.getD_eq_getElem?_getD, e2.out]
            rfl) (by simp [u8s_length, h64, zero64]) (u8s_one _)
        have hrow : ((u8s zero64).toArray.toList.take 0 ++ u8s all ++ (u8s zero64).toArray.toList.drop (0 + (u8s all).length)).toArray = (u8s all).toArray := by
          rw [List.drop_eq_nil_of_le (by simp [u8s_length, h64, zero64])]
          simp
        rw [hrow] at hcp
        have HBK2 : Hid (Blk (W5.setRow wr.heap.size (u8s all).toArray) wr.heap.size 23 (u8s all).toArray) := blk_setRow hbk
        have HJ8 : Hid (Below w.heap.size w (W5.setRow wr.heap.size (u8s all).toArray) ∧ Blk (W5.setRow wr.heap.size (u8s all).toArray) (w.heap.size + 1) 23 (u8s zero64).toArray) := by
          have hs := HJ.out.1.b2.1.lt
          refine ⟨HJ7.out.bel.grown (grown_setRow _ _ _) HJ7.out.bel.size (fun k hk => by have := Option.some.inj hk; omega), HJ7.out.b2.1.grown (grown_setRow _ _ _) (fun e => by have := Option.some.inj e; omega)⟩
        have hsl : ∀ W : World, (Instr.sliceAt 23 (.pointer (some ⟨wr.heap.size, 0, none⟩)) none none none).run Tryd.prog W = .ok (.slice (some ⟨wr.heap.size, 0, none⟩) 64 64) W := by
          intro W
          obtain ⟨i0, hi, _, hz1, _⟩ := info_parts info_u8
          rw [run_sliceAt_array_all W 23 ⟨wr.heap.size, 0, none⟩ under_block, len_block, elem_block]
          simp [sizeOf, typeInfo, hi, hz1, slicedAt, Result.andThen, Addr.add]
        have HW5 := Lib.hid hW5
        clear hap hdr hjj hW5 hbn hbk HJ7 hro hrow HZ HJ6 HJ
        go_wp2_with (first | (refine wpList_store_block rfl 23 (.tmp 10) (.tmp 73) rfl wr.heap.size rfl (u8s zero64).toArray rfl 23 (u8s zero64).toArray (Blk.new _ _ _) 64 size_block zero_size zero_size (u8s_one' _) ?_; change wpList _ _ _ _ _ ((wr.alloc (.cells (u8s zero64).toArray 23)).setRow wr.heap.size (u8s zero64).toArray); rw [← HW5.out]) | (refine wpList_load_block rfl 23 (.tmp 10) rfl wr.heap.size rfl 23 (u8s all).toArray _ HBK2.out Tryd.underlying23 rfl 64 size_block (block_size _ H64.out) ?_) | (refine wpList_store_block rfl 23 (.tmp 4) (.tmp 77) rfl (w.heap.size + 1) rfl (u8s all).toArray rfl 23 (u8s zero64).toArray HJ8.out.2 64 size_block (block_size _ H64.out) zero_size (u8s_one' _) ?_))
        refine bodyPost_ret (results_cell_tmp Tryd.results11 _ _ (w.heap.size + 1) 23 (u8s all).toArray _ rfl (blk_setRow HJ8.out.2) Tryd.underlying23 rfl (size_blk _ H64.out)) rfl ⟨?_, ?_⟩
        · rw [HRES.out]; rfl
        · exact HJ8.out.1.grown (grown_setRow _ _ _) HJ8.out.1.size (fun k hk => by cases hk; omega)
      · rw [if_neg h64] at hap
        have HRES := Lib.hid hap
        have hlt : decide ((all.length : Int) < 64) = true := decide_eq_true (by omega)
        clear hap hdr hjj
        go_wp2_with (refine wpList_store_block rfl 23 (.tmp 4) (.tmp 72) rfl (w.heap.size + 1) rfl (u8s zero64).toArray rfl 23 (u8s zero64).toArray HZ.out 64 size_block zero_size zero_size (u8s_one' _) ?_)
        refine bodyPost_ret (results_cell_tmp Tryd.results11 _ _ (w.heap.size + 1) 23 (u8s zero64).toArray _ rfl (blk_setRow HZ.out) Tryd.underlying23 rfl (size_blk _ zero64_len)) rfl ⟨?_, ?_⟩
        · rw [HRES.out]; rfl
        · exact HJ6.out.bel.grown (grown_setRow _ _ _) HJ6.out.bel.size (fun k hk => by cases hk; omega)
end Go.Proofs.YtcdjbfgkajfnlaaDoor
