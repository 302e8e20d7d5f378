/- Layer 10: the document's parts of bytes, walked whole. -/
import Derived.Test.YtcdjbfgkajfnlaaDoorQh
namespace Go.Proofs.YtcdjbfgkajfnlaaDoor
open Go.RowKit

theorem noB_op (v : Bool) (x y : Int) (A : Option Addr) (n c : Nat) : noByte #[.bool v, .int .i64 x, .int .i64 y, .slice A n c] := noByte4 _ _ _ _ (by intro; simp) (by intro; simp) (by intro; simp) (by intro; simp)
set_option maxHeartbeats 4000000 in
theorem refDecode_any (w : World) (A : Option Addr) (c : Nat) (b : List Int) (hr : RB w A b.length b) (hc : b.length ≤ c) :
    Calls Tryd.prog 8 #[.slice A b.length c] w fun e w' => ∃ V, e = .returned (.tuple #[V, .int .i64 (decS b).2]) ∧ Hid (∃ A c, V = .slice A (decS b).1.length c ∧ ROps w' A (decS b).1.length (decS b).1 ∧ (decS b).1.length ≤ c ∧ Below w.heap.size w w') := by
  have hle := boundS_le b 0 64 4 2
  have hbl0 := boundS_len b 0 64 4 2
  have ho0 : old w.heap.size A b.length := fun ad ea hp => by subst ea; exact hr.lt hp
  have HO0 := Lib.hid ho0
  have HC := Lib.hid (readCount_any w A c b 0 64 hr hc (by omega) (by omega))
  simp only [show Int.toNat 64 = 64 from rfl] at HC
  obtain ⟨⟨b1, e1, N⟩, hB⟩ : ∃ q, q = boundS b 0 64 4 2 := ⟨_, rfl⟩
  have HBd := Lib.hid hB
  rw [← hB] at hle HC hbl0
  simp only at hle HC hbl0
  clear hr hB ho0
  go_enter Tryd.func8, Tryd.ntmps8
  go_wp2_with fail
  refine HC.out.mono ?_
  rintro e w1 ⟨A1, c1, rfl, H1⟩
  obtain ⟨g, hg⟩ : ∃ g, g = w1.heap.size := ⟨_, rfl⟩
  have HST : Hid (RSt w g (.slice none 0 0) [] A1 c1 b1 e1 (w1.alloc (.cells #[.slice A1 b1.length c1, .int .i64 e1] 60))) := by
    refine ⟨RecOwn.nil _ _, by rw [hg]; exact Blk.new _ _ _, H1.out.1.below (below_box _ _), H1.out.2.1, HO0.out.sub H1.out.2.2.2 hbl0, by rw [hg]; exact H1.out.2.2.1.size, ?_⟩
    exact H1.out.2.2.1.alloc H1.out.2.2.1.size _
  have HG := Lib.hid hg
  clear hg H1
  go_wp2_with fail
  rw [← HG.out]
  go_loopw [6, 7] (fun V iv wr => ∃ j : Nat, j ≤ N ∧ iv = .int .i64 j ∧ Hid (∃ ps A2 c2, RSt w g V ps A2 c2 (decN b1 e1 j).1 (decN b1 e1 j).2.1 wr ∧ ps.map (·.1) = (decN b1 e1 j).2.2)) (fun _ iv _ => N - (intOf iv).toNat)
  case atStart => exact ⟨0, by omega, rfl, [], A1, c1, HST.out, rfl⟩
  case round =>
    obtain ⟨j, hj, rfl, HJ⟩ := hrel
    clear HST
    obtain ⟨ps, A2, c2, hst, hpe⟩ := HJ.out
    have HPE := Lib.hid hpe
    have hpl : ps.length = j := by
      have := decN_len b1 e1 j
      rw [← hpe] at this
      simpa using this
    have HPL := Lib.hid hpl
    have hpl1 : ps.length ≤ j := by omega
    obtain ⟨AV, cV, hV, _⟩ := own_slice hst.own.own
    have HS0 := Lib.hid hst
    clear HJ hst hpe hpl
    obtain ⟨⟨bj, ej, lj⟩, hdj⟩ : ∃ q, q = decN b1 e1 j := ⟨_, rfl⟩
    rw [hV] at HS0 ⊢
    have hdj1 : (decN b1 e1 j).1 = bj := by rw [← hdj]
    have hdj2 : (decN b1 e1 j).2.1 = ej := by rw [← hdj]
    rw [hdj1, hdj2] at HS0
    have HDJ := Lib.hid hdj
    have k0 := HS0.out.blk.cell 0
    have k1 := HS0.out.blk.cell 1
    simp only [List.getElem?_toArray, List.getElem?_cons_succ, List.getElem?_cons_zero] at k0 k1
    have hglt := HS0.out.blk.lt
    have hwlt := HS0.out.bel.size
    clear hV hdj hdj1 hdj2
    by_cases hjn : j < N
    · have hne := HS0.out.notNew (Nat.le_refl _)
      have hne1 := hne.2.1
      have hne2 := Ne.symm hne1
      have HNE := Lib.hid hne.1
      clear hne
      obtain ⟨⟨b2, e2, cc⟩, hq⟩ : ∃ q, q = boolS bj ej := ⟨_, rfl⟩
      have hbl2 := boolS_len bj ej
      have hbool := fun W (h : RB W A2 bj.length bj) => readBool_any W A2 c2 bj ej h HS0.out.le
      rw [← hq] at hbool hbl2
      have HBOOL := Lib.hid hbool
      have HQ := Lib.hid hq.symm
      have HS1 := Lib.hid (HS0.out.below (below_box wr (.cells #[.bool false, .int .i64 0, .int .i64 0, .slice none 0 0] 63)))
      have HB1 := Lib.hid (Blk.new wr 63 #[.bool false, .int .i64 0, .int .i64 0, .slice none 0 0])
      clear hbool hq
      cases cc
      · obtain ⟨⟨b3, e3, xs⟩, hq1⟩ : ∃ q, q = bytesS b2 e2 64 := ⟨_, rfl⟩
        have hu1 := fun (W : World) (A : Option Addr) (c : Nat) (h : RB W A b2.length b2) (hc : b2.length ≤ c) => readBytes_any W A c b2 e2 64 h hc (by omega) (by omega)
        have hl3 := bytesS_len b2 e2 64
        rw [← hq1] at hu1 hl3
        simp only at hu1 hl3
        have HU1 := Lib.hid hu1
        have HST := Lib.hid (decStep_told (decN b1 e1 j) (by rw [← HDJ.out]; exact HQ.out) hq1.symm)
        clear hu1 hq1
        go_wp2_with fail
        refine (HBOOL.out _ HS1.out.rb).mono ?_
        rintro e w3 ⟨A3, c3, rfl, H3⟩
        have HS3 := Lib.hid (HS1.out.below H3.out.2.2.1)
        have HB3 := Lib.hid (HB1.out.below H3.out.2.2.1 HB1.out.lt)
        have HO3 := Lib.hid (HS1.out.old_.sub H3.out.2.2.2 hbl2)
        go_wp2_with (refine wpList_store_new rfl 60 (.tmp 4) (.tmp 26) rfl g rfl #[.slice A3 b2.length c3, .int .i64 e2] rfl 60 #[.slice A2 bj.length c2, .int .i64 ej] HS3.out.blk 2 size_rd rfl rfl (by simp [Value.oneCell']) ?_; intro w4 hk hg hzz; have HS4 := Lib.hid (HS3.out.store hk hg H3.out.1 H3.out.2.1 HO3.out); have HB4 := Lib.hid (HB3.out.grown hg (fun e => hne2 (Option.some.inj e))); have k0 := HS4.out.blk.cell 0; have k1 := HS4.out.blk.cell 1; simp only [List.getElem?_toArray, List.getElem?_cons_succ, List.getElem?_cons_zero] at k0 k1; have q0 := HB4.out.cell 0; have f0 := HB4.out.frozen 0; have q1 := HB4.out.cell 1; have f1 := HB4.out.frozen 1; have q2 := HB4.out.cell 2; have f2 := HB4.out.frozen 2; have q3 := HB4.out.cell 3; have f3 := HB4.out.frozen 3; simp only [List.getElem?_toArray, List.getElem?_cons_succ, List.getElem?_cons_zero] at q0 q1 q2 q3; clear hk hg hzz)
        have HS5 := Lib.hid (HS4.out.other (grown_setCell (World.grownBy.refl w4 (some wr.heap.size)) (p := ⟨wr.heap.size, 0, none⟩) (.inl rfl) (.bool false)) hwlt HNE.out hne1)
        have HB5 : Hid (Blk (w4.setCell ⟨wr.heap.size, 0, none⟩ (.bool false)) wr.heap.size 63 #[.bool false, .int .i64 0, .int .i64 0, .slice none 0 0]) := HB4.out.set_ 0 (.bool false)
        refine (HU1.out _ A3 c3 HS5.out.rb H3.out.2.1).mono ?_
        rintro e w5 ⟨A5, c5, A6, c6, rfl, H5⟩
        have HS6 := Lib.hid (HS5.out.below H5.out.2.2.2.2.1)
        have HB6 := Lib.hid (HB5.out.below H5.out.2.2.2.2.1 HB5.out.lt)
        have HO5 := Lib.hid (HS5.out.old_.sub H5.out.2.2.2.2.2.1 hl3.1)
        have HO6 := Lib.hid (HS5.out.old_.sub H5.out.2.2.2.2.2.2 hl3.2)
        clear HS5 HB5 HS4 HB4 HS3 HB3 k0 k1 q0 q1 q2 q3 f0 f1 f2 f3
        go_wp2_with (first | (refine wpList_store_new rfl 60 (.tmp 4) (.tmp 50) rfl g rfl #[.slice A5 b3.length c5, .int .i64 e3] rfl 60 #[.slice A3 b2.length c3, .int .i64 e2] HS6.out.blk 2 size_rd rfl rfl (by simp [Value.oneCell']) ?_; intro w7 hk hg hzz; have HS7 := Lib.hid (HS6.out.store hk hg H5.out.1 H5.out.2.1 HO5.out); have HB7 := Lib.hid (HB6.out.grown hg (fun e => hne2 (Option.some.inj e))); have k0 := HS7.out.blk.cell 0; have k1 := HS7.out.blk.cell 1; simp only [List.getElem?_toArray, List.getElem?_cons_succ, List.getElem?_cons_zero] at k0 k1; have q0 := HB7.out.cell 0; have f0 := HB7.out.frozen 0; have q1 := HB7.out.cell 1; have f1 := HB7.out.frozen 1; have q2 := HB7.out.cell 2; have f2 := HB7.out.frozen 2; have q3 := HB7.out.cell 3; have f3 := HB7.out.frozen 3; simp only [List.getElem?_toArray, List.getElem?_cons_succ, List.getElem?_cons_zero] at q0 q1 q2 q3; have HR7 := Lib.hid (H5.out.2.2.1.grown hg (fun ad ea hn e => by have h1 := HO6.out ad ea hn; have h2 := Option.some.inj e; have h3 := HS6.out.lo; omega)); have hz7 := HS7.out.bel.size; have HGQ := Lib.hid (grown_setCell (World.grownBy.refl w7 (some wr.heap.size)) (p := ⟨wr.heap.size, 3, none⟩) (.inl rfl) (.slice A6 xs.length c6)); have HS8 := Lib.hid (HS7.out.other HGQ.out hwlt HNE.out hne1); have HR8 := Lib.hid (HR7.out.grown HGQ.out (fun ad ea hn e => by have h1 := HO6.out ad ea hn; have h2 := Option.some.inj e; omega)); clear hk hg hzz) | (at_builtin; go_must (refine wpList_append_el2 rfl (.tmp 53) (.tmp 55) 24 rfl w.heap.size 63 _ 4 48 Tryd.underlying24 info_rop rfl (by decide) _ ps.length _ [.bool false, .int .i64 0, .int .i64 0, .slice A6 xs.length c6] rfl HS8.out.own.own w7.heap.size (by simp [World.setCell]) rfl rfl (by simp [Value.oneCell']) (by omega) (by simp only [maxLen]; omega) HS8.out.bel.size ?_); intro A9 c9 w9 ho hg hn; have HO := Lib.hid ho; have HG9 := Lib.hid hg; clear ho hg hn))
        go_roundw
        case rel =>
          refine ⟨j + 1, by omega, by go_num, ps ++ [(⟨false, 0, 0, xs⟩, .slice A6 xs.length c6)], A5, c5, ?_, ?_⟩
          · rw [show decN b1 e1 (j + 1) = decStep (decN b1 e1 j) from rfl, HST.out]
            exact (HS8.out.below (below_box _ _)).push ⟨false, 0, 0, xs⟩ A6 c6 (HR8.out.below (below_box _ _)) H5.out.2.2.2.1 HO6.out ⟨by simp only; omega, by simp only; omega⟩ ⟨by simp only; omega, by simp only; omega⟩ HO.out HG9.out
          · rw [show decN b1 e1 (j + 1) = decStep (decN b1 e1 j) from rfl, HST.out, List.map_append, HPE.out]
            rfl
        case measure => simp [intOf]; omega
      · obtain ⟨⟨b3, e3, x⟩, hq1⟩ : ∃ q, q = boundS b2 e2 64 4 0 := ⟨_, rfl⟩
        obtain ⟨⟨b4, e4, y⟩, hq2⟩ : ∃ q, q = boundS b3 e3 64 4 0 := ⟨_, rfl⟩
        have hx := boundS_le b2 e2 64 4 0
        have hy := boundS_le b3 e3 64 4 0
        have hl3 := boundS_len b2 e2 64 4 0
        have hl4 := boundS_len b3 e3 64 4 0
        rw [← hq1] at hx hl3
        rw [← hq2] at hy hl4
        simp only at hx hy hl3 hl4
        have hu1 := fun (W : World) (A : Option Addr) (c : Nat) (h : RB W A b2.length b2) (hc : b2.length ≤ c) => readUint_any W A c b2 e2 64 h hc (by omega)
        have hu2 := fun (W : World) (A : Option Addr) (c : Nat) (h : RB W A b3.length b3) (hc : b3.length ≤ c) => readUint_any W A c b3 e3 64 h hc (by omega)
        rw [← hq1] at hu1
        rw [← hq2] at hu2
        have HU1 := Lib.hid hu1
        have HU2 := Lib.hid hu2
        have HST := Lib.hid (decStep_copy (decN b1 e1 j) (by rw [← HDJ.out]; exact HQ.out) hq1.symm hq2.symm)
        clear hu1 hu2 hq1 hq2
        go_wp2_with fail
        refine (HBOOL.out _ HS1.out.rb).mono ?_
        rintro e w3 ⟨A3, c3, rfl, H3⟩
        have HS3 := Lib.hid (HS1.out.below H3.out.2.2.1)
        have HB3 := Lib.hid (HB1.out.below H3.out.2.2.1 HB1.out.lt)
        have HO3 := Lib.hid (HS1.out.old_.sub H3.out.2.2.2 hbl2)
        go_wp2_with (refine wpList_store_new rfl 60 (.tmp 4) (.tmp 26) rfl g rfl #[.slice A3 b2.length c3, .int .i64 e2] rfl 60 #[.slice A2 bj.length c2, .int .i64 ej] HS3.out.blk 2 size_rd rfl rfl (by simp [Value.oneCell']) ?_; intro w4 hk hg hzz; have HS4 := Lib.hid (HS3.out.store hk hg H3.out.1 H3.out.2.1 HO3.out); have HB4 := Lib.hid (HB3.out.grown hg (fun e => hne2 (Option.some.inj e))); have k0 := HS4.out.blk.cell 0; have k1 := HS4.out.blk.cell 1; simp only [List.getElem?_toArray, List.getElem?_cons_succ, List.getElem?_cons_zero] at k0 k1; have q0 := HB4.out.cell 0; have f0 := HB4.out.frozen 0; have q1 := HB4.out.cell 1; have f1 := HB4.out.frozen 1; have q2 := HB4.out.cell 2; have f2 := HB4.out.frozen 2; have q3 := HB4.out.cell 3; have f3 := HB4.out.frozen 3; simp only [List.getElem?_toArray, List.getElem?_cons_succ, List.getElem?_cons_zero] at q0 q1 q2 q3; clear hk hg hzz)
        have HS5 := Lib.hid (HS4.out.other (grown_setCell (World.grownBy.refl w4 (some wr.heap.size)) (p := ⟨wr.heap.size, 0, none⟩) (.inl rfl) (.bool true)) hwlt HNE.out hne1)
        have HB5 : Hid (Blk (w4.setCell ⟨wr.heap.size, 0, none⟩ (.bool true)) wr.heap.size 63 #[.bool true, .int .i64 0, .int .i64 0, .slice none 0 0]) := HB4.out.set_ 0 (.bool true)
        refine (HU1.out _ A3 c3 HS5.out.rb H3.out.2.1).mono ?_
        rintro e w5 ⟨A5, c5, rfl, H5⟩
        have HS6 := Lib.hid (HS5.out.below H5.out.2.2.1)
        have HB6 := Lib.hid (HB5.out.below H5.out.2.2.1 HB5.out.lt)
        have HO5 := Lib.hid (HS5.out.old_.sub H5.out.2.2.2 hl3)
        clear HS5 HB5 HS4 HB4 HS3 HB3 k0 k1 q0 q1 q2 q3 f0 f1 f2 f3
        go_wp2_with (refine wpList_store_new rfl 60 (.tmp 4) (.tmp 34) rfl g rfl #[.slice A5 b3.length c5, .int .i64 e3] rfl 60 #[.slice A3 b2.length c3, .int .i64 e2] HS6.out.blk 2 size_rd rfl rfl (by simp [Value.oneCell']) ?_; intro w6 hk hg hzz; have HS7 := Lib.hid (HS6.out.store hk hg H5.out.1 H5.out.2.1 HO5.out); have HB7 := Lib.hid (HB6.out.grown hg (fun e => hne2 (Option.some.inj e))); have k0 := HS7.out.blk.cell 0; have k1 := HS7.out.blk.cell 1; simp only [List.getElem?_toArray, List.getElem?_cons_succ, List.getElem?_cons_zero] at k0 k1; clear hk hg hzz)
        refine (HU2.out _ A5 c5 HS7.out.rb H5.out.2.1).mono ?_
        rintro e w7 ⟨A6, c6, rfl, H7⟩
        have HS8 := Lib.hid (HS7.out.below H7.out.2.2.1)
        have HB8 := Lib.hid (HB7.out.below H7.out.2.2.1 HB7.out.lt)
        have HO7 := Lib.hid (HS7.out.old_.sub H7.out.2.2.2 hl4)
        clear HS7 HB7 HS6 HB6 k0 k1
        go_wp2_with (first | (refine wpList_store_new rfl 60 (.tmp 4) (.tmp 39) rfl g rfl #[.slice A6 b4.length c6, .int .i64 e4] rfl 60 #[.slice A5 b3.length c5, .int .i64 e3] HS8.out.blk 2 size_rd rfl rfl (by simp [Value.oneCell']) ?_; intro w8 hk hg hzz; have HS9 := Lib.hid (HS8.out.store hk hg H7.out.1 H7.out.2.1 HO7.out); have HB9 := Lib.hid (HB8.out.grown hg (fun e => hne2 (Option.some.inj e))); have k0 := HS9.out.blk.cell 0; have k1 := HS9.out.blk.cell 1; simp only [List.getElem?_toArray, List.getElem?_cons_succ, List.getElem?_cons_zero] at k0 k1; have q0 := HB9.out.cell 0; have f0 := HB9.out.frozen 0; have q1 := HB9.out.cell 1; have f1 := HB9.out.frozen 1; have q2 := HB9.out.cell 2; have f2 := HB9.out.frozen 2; have q3 := HB9.out.cell 3; have f3 := HB9.out.frozen 3; simp only [List.getElem?_toArray, List.getElem?_cons_succ, List.getElem?_cons_zero] at q0 q1 q2 q3; clear hk hg hzz; have HGQ1 := Lib.hid (grown_setCell (World.grownBy.refl w8 (some wr.heap.size)) (p := ⟨wr.heap.size, 1, none⟩) (.inl rfl) (.int .i64 x)); have HGQ := Lib.hid (grown_setCell HGQ1.out (p := ⟨wr.heap.size, 2, none⟩) (.inl rfl) (.int .i64 y)); have HS10 := Lib.hid (HS9.out.other HGQ.out hwlt HNE.out hne1)) | (at_builtin; go_must (refine wpList_append_el2 rfl (.tmp 53) (.tmp 55) 24 rfl w.heap.size 63 _ 4 48 Tryd.underlying24 info_rop rfl (by decide) _ ps.length _ [.bool true, .int .i64 x, .int .i64 y, .slice none 0 0] rfl HS10.out.own.own w8.heap.size (by simp [World.setCell]) rfl rfl (by simp [Value.oneCell']) (by omega) (by simp only [maxLen]; omega) HS10.out.bel.size ?_); intro A9 c9 w9 ho hg hn; have HO := Lib.hid ho; have HG9 := Lib.hid hg; clear ho hg hn))
        go_roundw
        case rel =>
          refine ⟨j + 1, by omega, by go_num, ps ++ [(⟨true, x, y, []⟩, .slice none 0 0)], A6, c6, ?_, ?_⟩
          · rw [show decN b1 e1 (j + 1) = decStep (decN b1 e1 j) from rfl, HST.out]
            exact (HS10.out.below (below_box _ _)).push ⟨true, x, y, []⟩ none 0 (RB.none_ _) (Nat.le_refl _) (old_none _ _) ⟨by simp only; omega, by simp only; omega⟩ ⟨by simp only; omega, by simp only; omega⟩ HO.out HG9.out
          · rw [show decN b1 e1 (j + 1) = decStep (decN b1 e1 j) from rfl, HST.out, List.map_append, HPE.out]
            rfl
        case measure => simp [intOf]; omega
    · have hjN : j = N := by omega
      have HDONE := Lib.hid (fun W => refDone_any W A2 c2 bj ej)
      have hdec : decS b = if doneS bj ej = 0 then (lj, 0) else ([], 3) := by
        unfold decS decAll
        rw [← HBd.out]
        simp only
        rw [← hjN, ← HDJ.out]
      have hlj : ps.map (·.1) = lj := by rw [HPE.out, ← HDJ.out]
      have HLJ := Lib.hid hlj
      obtain ⟨d, hd⟩ : ∃ d, d = doneS bj ej := ⟨_, rfl⟩
      rw [← hd] at hdec HDONE
      clear hd hlj hjN
      by_cases hd0 : d = 0
      · subst hd0
        rw [if_pos rfl] at hdec
        have HDC := Lib.hid hdec
        clear hdec
        go_wp2_with fail
        refine (HDONE.out _).mono ?_
        rintro e w3 ⟨rfl, H3⟩
        go_wp2_with fail
        go_ret2
        have hst3 := HS0.out.below H3.out
        obtain ⟨A9, c9, hV9, hro, hc9⟩ := hst3.own.rops (by omega)
        cases hV9
        rw [HDC.out]
        refine ⟨_, rfl, AV, cV, ?_, ?_, ?_, hst3.bel⟩
        · rw [← HLJ.out]; simp
        · rw [← HLJ.out]; simpa using hro
        · rw [← HLJ.out]; simpa using hc9
      · rw [if_neg hd0] at hdec
        have HDC := Lib.hid hdec
        have hq : (d != 0) = true := by simp [hd0]
        clear hdec
        go_wp2_with fail
        refine (HDONE.out _).mono ?_
        rintro e w3 ⟨rfl, H3⟩
        go_wp2_with fail
        go_ret2
        rw [HDC.out]
        exact ⟨_, rfl, none, 0, rfl, ⟨rfl, by simp, fun h => absurd h (by simp)⟩, Nat.le_refl _, (HS0.out.below H3.out).bel⟩
end Go.Proofs.YtcdjbfgkajfnlaaDoor
