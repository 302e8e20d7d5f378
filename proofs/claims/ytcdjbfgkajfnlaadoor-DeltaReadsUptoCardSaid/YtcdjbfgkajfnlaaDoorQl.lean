/- Layer 10's laws, walked: parts as bytes; what bytes tell is told by the same bytes again. -/
import Derived.Test.YtcdjbfgkajfnlaaDoorQj
import Derived.Test.YtcdjbfgkajfnlaaDoorQk
import Derived.Test.YtcdjbfgkajfnlaaDoorGv
import Derived.Test.YtcdjbfgkajfnlaaDoorAs
import Derived.Test.YtcdjbfgkajfnlaaDoorHd
namespace Go.Proofs.YtcdjbfgkajfnlaaDoor
open Go.RowKit

theorem conv_b {w : World} {A : Option Addr} {n : Nat} {xs : List Int} (h : RB w A n xs) (c : Nat) : (convert 25 9 (.slice A n c)).run Tryd.prog w = .ok (.string (strOfNums xs)) w :=
  rb_string 25 9 5 Tryd.underlying25 Tryd.underlying5 Tryd.underlying9 h c
theorem encode_rb (w : World) (A : Option Addr) (n c : Nat) (l : List POp) (E : List Int) (hE : encOps l = E) (h : ROps w A n l) (hsz : E.length + 64 ≤ 140737488355328) :
    Calls Tryd.prog 13 #[.slice A n c] w fun e w' => ∃ A' c', e = .returned (.slice A' E.length c') ∧ Hid (RB w' A' E.length E ∧ Below w.heap.size w w') := by
  subst hE
  refine (encode_any w A n c l h hsz).mono ?_
  rintro e w' ⟨A', c', he, h1, _, _, _, h2⟩
  exact ⟨A', c', he, h1, h2⟩
theorem refEncode_rb (w : World) (A : Option Addr) (n c : Nat) (l : List POp) (E : List Int) (hE : encOps l = E) (hok : u8Ok E) (h : ROps w A n l) (hsz : E.length + 64 ≤ 140737488355328) :
    Calls Tryd.prog 14 #[.slice A n c] w fun e w' => ∃ A' c', e = .returned (.slice A' E.length c') ∧ Hid (RB w' A' E.length E ∧ Below w.heap.size w w') := by
  subst hE
  refine (refEncode_any w A n c l h hsz).mono ?_
  rintro e w' ⟨A', c', he, h1⟩
  exact ⟨A', c', he, h1.out.rb hok (by omega), h1.out.bel⟩
set_option maxRecDepth 100000 in
set_option maxHeartbeats 8000000 in
theorem codes_law (w : World) (A : Option Addr) (n c : Nat) (l : List POp) (h : ROps w A n l) (hn : n ≤ 200) (hok : u8Ok (encOps l)) (hsz : (encOps l).length + 64 ≤ 140737488355328)
    (Ab : Option Addr) (cb : Nat) (b : List Int) (hr : RB w Ab b.length b) (hc : b.length ≤ cb) (hbs : b.length + 64 ≤ 140737488355328) (hg : ErrLaid w) :
    Calls Tryd.prog 5 #[.slice A n c, .slice Ab b.length cb] w fun e w' => e = .returned (.bool true) ∧ Hid (Below w.heap.size w w') := by
  have hn' : decide ((200 : Int) < n) = false := decide_eq_false (by omega)
  have HGV := Lib.hid (fun W (h : ROps W A n l) => give_any W A n c l h hn)
  obtain ⟨E, hE⟩ : ∃ E, encOps l = E := ⟨_, rfl⟩
  have HEN := Lib.hid (fun W A n c (h : ROps W A n l) => encode_rb W A n c l E hE h (by rw [← hE]; exact hsz))
  have HRE := Lib.hid (fun W A n c (h : ROps W A n l) => refEncode_rb W A n c l E hE (by rw [← hE]; exact hok) h (by rw [← hE]; exact hsz))
  have HD := Lib.hid (decode_any w Ab b.length cb b hr hc)
  have HRD := Lib.hid (fun W (h : RB W Ab b.length b) => refDecode_any W Ab cb b h hc)
  have hcb := codes_back b hr.2.2.1
  obtain ⟨⟨ld, ed⟩, hd⟩ : ∃ q, q = decS b := ⟨_, rfl⟩
  rw [← hd] at HD HRD hcb
  simp only at HD HRD hcb
  have HCB := Lib.hid (fun (he : ed = 0) W A n c (h : ROps W A n ld) => encode_rb W A n c ld b (hcb he) h hbs)
  obtain ⟨S, hS⟩ : ∃ S, S = strOfNums E := ⟨_, rfl⟩
  obtain ⟨T, hT⟩ : ∃ T, T = strOfNums b := ⟨_, rfl⟩
  have HCE := Lib.hid (fun W A n c (h : RB W A n E) => conv_b h c)
  have HCT := Lib.hid (fun W A n c (h : RB W A n b) => conv_b h c)
  rw [← hS] at HCE
  rw [← hT] at HCT
  have HH := Lib.hid h
  have HR := Lib.hid hr
  have HG := Lib.hid hg
  clear hE hS hT hcb hd h hr hg hok hsz hbs
  go_enter Tryd.func5, Tryd.ntmps5
  go_wp2_with fail
  refine HD.out.mono ?_
  rintro e w1 ⟨V, rfl, H1⟩
  obtain ⟨Ad, cd, rfl, hro, _, hb1⟩ := H1.out
  have HRO := Lib.hid hro
  have HB1 := Lib.hid hb1
  clear H1 hro hb1
  go_wp2_with fail
  refine (HRD.out _ (HR.out.below HB1.out)).mono ?_
  rintro e w2 ⟨V2, rfl, H2⟩
  obtain ⟨A2, c2, rfl, _, _, hb2⟩ := H2.out
  have HB2 := Lib.hid hb2
  clear H2 hb2
  have HW : Hid (Below w.heap.size w w2) := HB1.out.trans (HB2.out.mono HB1.out.size)
  by_cases hed : ed = 0
  · have HCB0 := Lib.hid (HCB.out hed)
    clear HCB
    subst hed
    rw [errV_zero]
    go_wp2_with fail
    have HL0 : Hid (ROps w2.drew A n l) := HH.out.below HW.out.drew
    have HLD : Hid (ROps w2.drew Ad ld.length ld) := HRO.out.below HB2.out.drew
    have HRB : Hid (RB w2.drew Ab b.length b) := HR.out.below HW.out.drew
    have HGL : Hid (ErrLaid w2.drew) := HG.out.below HW.out.drew
    have HT : Hid (Below w2.drew.heap.size w2.drew w2.drew) := Below.refl _ _
    have HNUM := Lib.hid (fun W (h : ErrLaid W) => num_any 0 W h)
    rw [errV_zero] at HNUM
    refine wp_region_held_drew (S := SB w2.drew) (by kernel_rfl) (SB.here _) (fun HSB => ?_)
    -- region A
    refine wpAnyH_take (i := 0) (v := ?_) rfl (by kernel_rfl) (by kernel_rfl) (by kernel_rfl) (fun _ _ _ h => h) (Or.inl ⟨by kernel_rfl, by (intro W hW; go_simp; with_reducible rfl)⟩) HSB ?_
    try simp only [Act.put, List.setIfInBounds_toArray, List.set_cons_zero, List.set_cons_succ, List.getElem_toArray, List.getElem_cons_succ, List.getElem_cons_zero]
    refine wpAnyH_take (i := 4) (v := ?_) rfl (by kernel_rfl) (by kernel_rfl) (by kernel_rfl) (fun _ _ _ h => h) (Or.inl ⟨by kernel_rfl, by (intro W hW; go_simp; with_reducible rfl)⟩) HSB ?_
    try simp only [Act.put, List.setIfInBounds_toArray, List.set_cons_zero, List.set_cons_succ, List.getElem_toArray, List.getElem_cons_succ, List.getElem_cons_zero]
    refine wpAnyH_ready (rs := [1]) (by kernel_rfl) (by simp) ?_
    refine AllReadyH.cons rfl (fun K hK => ?_) ?_
    · go_simp
      refine (HGV.out _ (HL0.out.below HT.out)).mono ?_
      rintro e w5 ⟨A5, c5, rfl, H5⟩
      have HBC := Lib.hid (H5.out.2.2)
      replace HT := Lib.hid (HT.out.trans (HBC.out.mono HT.out.size))
      have HGO := Lib.hid (H5.out.1)
      refine hK.out _ _ (SB.of HSB HBC.out) (fun _ => ?_)
      refine wpAnyH_to (fun W h => SB.mono h HSB HBC.out) _ _ _ _ ?_
      replace HSB := SB.here w5
      try simp only [Act.put, List.setIfInBounds_toArray, List.set_cons_zero, List.set_cons_succ, List.getElem_toArray, List.getElem_cons_succ, List.getElem_cons_zero]
      clear hK K HBC
      refine wpAnyH_ready (rs := [2]) (by kernel_rfl) (by simp) ?_
      refine AllReadyH.cons rfl (fun K hK => ?_) ?_
      · go_simp
        refine (HEN.out _ _ _ _ HGO.out).mono ?_
        rintro e w5 ⟨A6, c6, rfl, H6⟩
        have HBC := Lib.hid (H6.out.2)
        replace HT := Lib.hid (HT.out.trans (HBC.out.mono HT.out.size))
        replace HGO := Lib.hid (HGO.out.below HBC.out)
        have HA := Lib.hid (H6.out.1)
        refine hK.out _ _ (SB.of HSB HBC.out) (fun _ => ?_)
        refine wpAnyH_to (fun W h => SB.mono h HSB HBC.out) _ _ _ _ ?_
        replace HSB := SB.here w5
        try simp only [Act.put, List.setIfInBounds_toArray, List.set_cons_zero, List.set_cons_succ, List.getElem_toArray, List.getElem_cons_succ, List.getElem_cons_zero]
        clear hK K HBC
        refine wpAnyH_take (i := 3) (v := ?_) rfl (by kernel_rfl) (by kernel_rfl) (by kernel_rfl) (fun _ _ _ h => h) (Or.inl ⟨by kernel_rfl, by (intro W hW; have cA := HCE.out _ _ _ c6 (HA.out.below hW); go_simp; with_reducible rfl)⟩) HSB ?_
        try simp only [Act.put, List.setIfInBounds_toArray, List.set_cons_zero, List.set_cons_succ, List.getElem_toArray, List.getElem_cons_succ, List.getElem_cons_zero]
        refine wpAnyH_ready (rs := [5]) (by kernel_rfl) (by simp) ?_
        refine AllReadyH.cons rfl (fun K hK => ?_) ?_
        · go_simp
          refine (HRE.out _ _ _ _ (HL0.out.below HT.out)).mono ?_
          rintro e w5 ⟨A7, c7, rfl, H7⟩
          have HBC := Lib.hid (H7.out.2)
          replace HT := Lib.hid (HT.out.trans (HBC.out.mono HT.out.size))
          replace HGO := Lib.hid (HGO.out.below HBC.out)
          replace HA := Lib.hid (HA.out.below HBC.out)
          have HB := Lib.hid (H7.out.1)
          refine hK.out _ _ (SB.of HSB HBC.out) (fun _ => ?_)
          refine wpAnyH_to (fun W h => SB.mono h HSB HBC.out) _ _ _ _ ?_
          replace HSB := SB.here w5
          try simp only [Act.put, List.setIfInBounds_toArray, List.set_cons_zero, List.set_cons_succ, List.getElem_toArray, List.getElem_cons_succ, List.getElem_cons_zero]
          clear hK K HBC
          refine wpAnyH_take (i := 6) (v := ?_) rfl (by kernel_rfl) (by kernel_rfl) (by kernel_rfl) (fun _ _ _ h => h) (Or.inl ⟨by kernel_rfl, by (intro W hW; have cB := HCE.out _ _ _ c7 (HB.out.below hW); go_simp; with_reducible rfl)⟩) HSB ?_
          try simp only [Act.put, List.setIfInBounds_toArray, List.set_cons_zero, List.set_cons_succ, List.getElem_toArray, List.getElem_cons_succ, List.getElem_cons_zero]
          refine wpAnyH_take (i := 7) (v := ?_) rfl (by kernel_rfl) (by kernel_rfl) (by kernel_rfl) (fun _ _ _ h => h) (Or.inl ⟨by kernel_rfl, by (intro W hW; go_simp; with_reducible rfl)⟩) HSB ?_
          try simp only [Act.put, List.setIfInBounds_toArray, List.set_cons_zero, List.set_cons_succ, List.getElem_toArray, List.getElem_cons_succ, List.getElem_cons_zero]
          refine wpAnyH_take (i := 8) (v := ?_) rfl (by kernel_rfl) (by kernel_rfl) (by kernel_rfl) (fun _ _ _ h => h) (Or.inl ⟨by kernel_rfl, by (intro W hW; go_simp; with_reducible rfl)⟩) HSB ?_
          try simp only [Act.put, List.setIfInBounds_toArray, List.set_cons_zero, List.set_cons_succ, List.getElem_toArray, List.getElem_cons_succ, List.getElem_cons_zero]
          refine wpAnyH_take (i := 9) (v := ?_) rfl (by kernel_rfl) (by kernel_rfl) (by kernel_rfl) (fun _ _ _ h => h) (Or.inl ⟨by kernel_rfl, by (intro W hW; go_simp; with_reducible rfl)⟩) HSB ?_
          try simp only [Act.put, List.setIfInBounds_toArray, List.set_cons_zero, List.set_cons_succ, List.getElem_toArray, List.getElem_cons_succ, List.getElem_cons_zero]
          refine wpAnyH_take (i := 11) (v := ?_) rfl (by kernel_rfl) (by kernel_rfl) (by kernel_rfl) (fun _ _ _ h => h) (Or.inl ⟨by kernel_rfl, by (intro W hW; go_simp; with_reducible rfl)⟩) HSB ?_
          try simp only [Act.put, List.setIfInBounds_toArray, List.set_cons_zero, List.set_cons_succ, List.getElem_toArray, List.getElem_cons_succ, List.getElem_cons_zero]
          refine wpAnyH_ready (rs := [10]) (by kernel_rfl) (by simp) ?_
          refine AllReadyH.cons rfl (fun K hK => ?_) ?_
          · go_simp
            refine (HNUM.out _ (HGL.out.below HT.out)).mono ?_
            rintro e w5 ⟨rfl, H8⟩
            have HBC := Lib.hid (H8.out)
            replace HT := Lib.hid (HT.out.trans (HBC.out.mono HT.out.size))
            replace HGO := Lib.hid (HGO.out.below HBC.out)
            replace HA := Lib.hid (HA.out.below HBC.out)
            replace HB := Lib.hid (HB.out.below HBC.out)
            refine hK.out _ _ (SB.of HSB HBC.out) (fun _ => ?_)
            refine wpAnyH_to (fun W h => SB.mono h HSB HBC.out) _ _ _ _ ?_
            replace HSB := SB.here w5
            try simp only [Act.put, List.setIfInBounds_toArray, List.set_cons_zero, List.set_cons_succ, List.getElem_toArray, List.getElem_cons_succ, List.getElem_cons_zero]
            clear hK K HBC
            refine wpAnyH_take (i := 12) (v := ?_) rfl (by kernel_rfl) (by kernel_rfl) (by kernel_rfl) (fun _ _ _ h => h) (Or.inl ⟨by kernel_rfl, by (intro W hW; go_simp; with_reducible rfl)⟩) HSB ?_
            try simp only [Act.put, List.setIfInBounds_toArray, List.set_cons_zero, List.set_cons_succ, List.getElem_toArray, List.getElem_cons_succ, List.getElem_cons_zero]
            refine wpAnyH_take (i := 13) (v := ?_) rfl (by kernel_rfl) (by kernel_rfl) (by kernel_rfl) (fun _ _ _ h => h) (Or.inl ⟨by kernel_rfl, by (intro W hW; go_simp; with_reducible rfl)⟩) HSB ?_
            try simp only [Act.put, List.setIfInBounds_toArray, List.set_cons_zero, List.set_cons_succ, List.getElem_toArray, List.getElem_cons_succ, List.getElem_cons_zero]
            refine wpAnyH_take (i := 14) (v := ?_) rfl (by kernel_rfl) (by kernel_rfl) (by kernel_rfl) (fun _ _ _ h => h) (Or.inl ⟨by kernel_rfl, by (intro W hW; go_simp; with_reducible rfl)⟩) HSB ?_
            try simp only [Act.put, List.setIfInBounds_toArray, List.set_cons_zero, List.set_cons_succ, List.getElem_toArray, List.getElem_cons_succ, List.getElem_cons_zero]
            refine wpAnyH_take (i := 15) (v := ?_) rfl (by kernel_rfl) (by kernel_rfl) (by kernel_rfl) (fun _ _ _ h => h) (Or.inl ⟨by kernel_rfl, by (intro W hW; go_simp; with_reducible rfl)⟩) HSB ?_
            try simp only [Act.put, List.setIfInBounds_toArray, List.set_cons_zero, List.set_cons_succ, List.getElem_toArray, List.getElem_cons_succ, List.getElem_cons_zero]
            refine wpAnyH_take (i := 16) (v := ?_) rfl (by kernel_rfl) (by kernel_rfl) (by kernel_rfl) (fun _ _ _ h => h) (Or.inl ⟨by kernel_rfl, by (intro W hW; go_simp; with_reducible rfl)⟩) HSB ?_
            try simp only [Act.put, List.setIfInBounds_toArray, List.set_cons_zero, List.set_cons_succ, List.getElem_toArray, List.getElem_cons_succ, List.getElem_cons_zero]
            refine wpAnyH_take (i := 17) (v := ?_) rfl (by kernel_rfl) (by kernel_rfl) (by kernel_rfl) (fun _ _ _ h => h) (Or.inl ⟨by kernel_rfl, by (intro W hW; go_simp; with_reducible rfl)⟩) HSB ?_
            try simp only [Act.put, List.setIfInBounds_toArray, List.set_cons_zero, List.set_cons_succ, List.getElem_toArray, List.getElem_cons_succ, List.getElem_cons_zero]
            refine wpAnyH_take (i := 18) (v := ?_) rfl (by kernel_rfl) (by kernel_rfl) (by kernel_rfl) (fun _ _ _ h => h) (Or.inl ⟨by kernel_rfl, by (intro W hW; go_simp; with_reducible rfl)⟩) HSB ?_
            try simp only [Act.put, List.setIfInBounds_toArray, List.set_cons_zero, List.set_cons_succ, List.getElem_toArray, List.getElem_cons_succ, List.getElem_cons_zero]
            refine wpAnyH_take (i := 21) (v := ?_) rfl (by kernel_rfl) (by kernel_rfl) (by kernel_rfl) (fun _ _ _ h => h) (Or.inl ⟨by kernel_rfl, by (intro W hW; go_simp; with_reducible rfl)⟩) HSB ?_
            try simp only [Act.put, List.setIfInBounds_toArray, List.set_cons_zero, List.set_cons_succ, List.getElem_toArray, List.getElem_cons_succ, List.getElem_cons_zero]
            refine wpAnyH_take (i := 22) (v := ?_) rfl (by kernel_rfl) (by kernel_rfl) (by kernel_rfl) (fun _ _ _ h => h) (Or.inl ⟨by kernel_rfl, by (intro W hW; have cT := HCT.out _ _ _ cb (HRB.out.below (SB.of HT.out hW)); go_simp; with_reducible rfl)⟩) HSB ?_
            try simp only [Act.put, List.setIfInBounds_toArray, List.set_cons_zero, List.set_cons_succ, List.getElem_toArray, List.getElem_cons_succ, List.getElem_cons_zero]
            refine wpAnyH_ready (rs := [19]) (by kernel_rfl) (by simp) ?_
            refine AllReadyH.cons rfl (fun K hK => ?_) ?_
            · go_simp
              refine (HCB0.out _ _ _ _ (HLD.out.below HT.out)).mono ?_
              rintro e w5 ⟨A8, c8, rfl, H10⟩
              have HBC := Lib.hid (H10.out.2)
              replace HT := Lib.hid (HT.out.trans (HBC.out.mono HT.out.size))
              replace HGO := Lib.hid (HGO.out.below HBC.out)
              replace HA := Lib.hid (HA.out.below HBC.out)
              replace HB := Lib.hid (HB.out.below HBC.out)
              have HX := Lib.hid (H10.out.1)
              refine hK.out _ _ (SB.of HSB HBC.out) (fun _ => ?_)
              refine wpAnyH_to (fun W h => SB.mono h HSB HBC.out) _ _ _ _ ?_
              replace HSB := SB.here w5
              try simp only [Act.put, List.setIfInBounds_toArray, List.set_cons_zero, List.set_cons_succ, List.getElem_toArray, List.getElem_cons_succ, List.getElem_cons_zero]
              clear hK K HBC
              refine wpAnyH_take (i := 20) (v := ?_) rfl (by kernel_rfl) (by kernel_rfl) (by kernel_rfl) (fun _ _ _ h => h) (Or.inl ⟨by kernel_rfl, by (intro W hW; have cX := HCT.out _ _ _ c8 (HX.out.below hW); go_simp; with_reducible rfl)⟩) HSB ?_
              try simp only [Act.put, List.setIfInBounds_toArray, List.set_cons_zero, List.set_cons_succ, List.getElem_toArray, List.getElem_cons_succ, List.getElem_cons_zero]
              refine wpAnyH_take (i := 23) (v := ?_) rfl (by kernel_rfl) (by kernel_rfl) (by kernel_rfl) (fun _ _ _ h => h) (Or.inl ⟨by kernel_rfl, by (intro W hW; go_simp; with_reducible rfl)⟩) HSB ?_
              try simp only [Act.put, List.setIfInBounds_toArray, List.set_cons_zero, List.set_cons_succ, List.getElem_toArray, List.getElem_cons_succ, List.getElem_cons_zero]
              refine wpAnyH_take (i := 24) (v := ?_) rfl (by kernel_rfl) (by kernel_rfl) (by kernel_rfl) (fun _ _ _ h => h) (Or.inl ⟨by kernel_rfl, by (intro W hW; go_simp; with_reducible rfl)⟩) HSB ?_
              try simp only [Act.put, List.setIfInBounds_toArray, List.set_cons_zero, List.set_cons_succ, List.getElem_toArray, List.getElem_cons_succ, List.getElem_cons_zero]
              refine wpAnyH_take (i := 25) (v := ?_) rfl (by kernel_rfl) (by kernel_rfl) (by kernel_rfl) (fun _ _ _ h => h) (Or.inl ⟨by kernel_rfl, by (intro W hW; go_simp; with_reducible rfl)⟩) HSB ?_
              try simp only [Act.put, List.setIfInBounds_toArray, List.set_cons_zero, List.set_cons_succ, List.getElem_toArray, List.getElem_cons_succ, List.getElem_cons_zero]
              refine wpAnyH_take (i := 26) (v := ?_) rfl (by kernel_rfl) (by kernel_rfl) (by kernel_rfl) (fun _ _ _ h => h) (Or.inl ⟨by kernel_rfl, by (intro W hW; go_simp; with_reducible rfl)⟩) HSB ?_
              try simp only [Act.put, List.setIfInBounds_toArray, List.set_cons_zero, List.set_cons_succ, List.getElem_toArray, List.getElem_cons_succ, List.getElem_cons_zero]
              refine wpAnyH_ready (rs := [27]) (by kernel_rfl) (by simp) ?_
              refine AllReadyH.cons rfl (fun K hK => ?_) ?_
              · go_simp
                refine (sure_any _).mono ?_
                rintro e w5 ⟨rfl, H9⟩
                have HBC := Lib.hid (H9.out)
                replace HT := Lib.hid (HT.out.trans (HBC.out.mono HT.out.size))
                replace HGO := Lib.hid (HGO.out.below HBC.out)
                replace HA := Lib.hid (HA.out.below HBC.out)
                replace HB := Lib.hid (HB.out.below HBC.out)
                replace HX := Lib.hid (HX.out.below HBC.out)
                refine hK.out _ _ (SB.of HSB HBC.out) (fun _ => ?_)
                refine wpAnyH_to (fun W h => SB.mono h HSB HBC.out) _ _ _ _ ?_
                replace HSB := SB.here w5
                try simp only [Act.put, List.setIfInBounds_toArray, List.set_cons_zero, List.set_cons_succ, List.getElem_toArray, List.getElem_cons_succ, List.getElem_cons_zero]
                clear hK K HBC
                refine wpAnyH_take (i := 28) (v := ?_) rfl (by kernel_rfl) (by kernel_rfl) (by kernel_rfl) (fun _ _ _ h => h) (Or.inl ⟨by kernel_rfl, by (intro W hW; go_simp; with_reducible rfl)⟩) HSB ?_
                try simp only [Act.put, List.setIfInBounds_toArray, List.set_cons_zero, List.set_cons_succ, List.getElem_toArray, List.getElem_cons_succ, List.getElem_cons_zero]
                refine wpAnyH_take (i := 29) (v := ?_) rfl (by kernel_rfl) (by kernel_rfl) (by kernel_rfl) (fun _ _ _ h => h) (Or.inl ⟨by kernel_rfl, by (intro W hW; go_simp; with_reducible rfl)⟩) HSB ?_
                try simp only [Act.put, List.setIfInBounds_toArray, List.set_cons_zero, List.set_cons_succ, List.getElem_toArray, List.getElem_cons_succ, List.getElem_cons_zero]
                refine wpAnyH_done (by kernel_rfl) ?_ _
                go_wp2_with fail
                go_ret
                exact ⟨rfl, HW.out.drew.trans (HT.out.mono HW.out.drew.size)⟩
              exact AllReadyH.nil
            exact AllReadyH.nil
          exact AllReadyH.nil
        exact AllReadyH.nil
      exact AllReadyH.nil
    exact AllReadyH.nil
    -- end A
  · rw [errV_some _ hed]
    go_wp2_with fail
    have HL0 : Hid (ROps w2.drew A n l) := HH.out.below HW.out.drew
    have HRB : Hid (RB w2.drew Ab b.length b) := HR.out.below HW.out.drew
    have HGL : Hid (ErrLaid w2.drew) := HG.out.below HW.out.drew
    have HT : Hid (Below w2.drew.heap.size w2.drew w2.drew) := Below.refl _ _
    have HNUM := Lib.hid (fun W (h : ErrLaid W) => num_any ed W h)
    rw [errV_some _ hed] at HNUM
    clear HCB HRO
    refine wp_region_held_drew (S := SB w2.drew) (by kernel_rfl) (SB.here _) (fun HSB => ?_)
    -- region B
    refine wpAnyH_take (i := 0) (v := ?_) rfl (by kernel_rfl) (by kernel_rfl) (by kernel_rfl) (fun _ _ _ h => h) (Or.inl ⟨by kernel_rfl, by (intro W hW; go_simp; with_reducible rfl)⟩) HSB ?_
    try simp only [Act.put, List.setIfInBounds_toArray, List.set_cons_zero, List.set_cons_succ, List.getElem_toArray, List.getElem_cons_succ, List.getElem_cons_zero]
    refine wpAnyH_take (i := 4) (v := ?_) rfl (by kernel_rfl) (by kernel_rfl) (by kernel_rfl) (fun _ _ _ h => h) (Or.inl ⟨by kernel_rfl, by (intro W hW; go_simp; with_reducible rfl)⟩) HSB ?_
    try simp only [Act.put, List.setIfInBounds_toArray, List.set_cons_zero, List.set_cons_succ, List.getElem_toArray, List.getElem_cons_succ, List.getElem_cons_zero]
    refine wpAnyH_ready (rs := [1]) (by kernel_rfl) (by simp) ?_
    refine AllReadyH.cons rfl (fun K hK => ?_) ?_
    · go_simp
      refine (HGV.out _ (HL0.out.below HT.out)).mono ?_
      rintro e w5 ⟨A5, c5, rfl, H5⟩
      have HBC := Lib.hid (H5.out.2.2)
      replace HT := Lib.hid (HT.out.trans (HBC.out.mono HT.out.size))
      have HGO := Lib.hid (H5.out.1)
      refine hK.out _ _ (SB.of HSB HBC.out) (fun _ => ?_)
      refine wpAnyH_to (fun W h => SB.mono h HSB HBC.out) _ _ _ _ ?_
      replace HSB := SB.here w5
      try simp only [Act.put, List.setIfInBounds_toArray, List.set_cons_zero, List.set_cons_succ, List.getElem_toArray, List.getElem_cons_succ, List.getElem_cons_zero]
      clear hK K HBC
      refine wpAnyH_ready (rs := [2]) (by kernel_rfl) (by simp) ?_
      refine AllReadyH.cons rfl (fun K hK => ?_) ?_
      · go_simp
        refine (HEN.out _ _ _ _ HGO.out).mono ?_
        rintro e w5 ⟨A6, c6, rfl, H6⟩
        have HBC := Lib.hid (H6.out.2)
        replace HT := Lib.hid (HT.out.trans (HBC.out.mono HT.out.size))
        replace HGO := Lib.hid (HGO.out.below HBC.out)
        have HA := Lib.hid (H6.out.1)
        refine hK.out _ _ (SB.of HSB HBC.out) (fun _ => ?_)
        refine wpAnyH_to (fun W h => SB.mono h HSB HBC.out) _ _ _ _ ?_
        replace HSB := SB.here w5
        try simp only [Act.put, List.setIfInBounds_toArray, List.set_cons_zero, List.set_cons_succ, List.getElem_toArray, List.getElem_cons_succ, List.getElem_cons_zero]
        clear hK K HBC
        refine wpAnyH_take (i := 3) (v := ?_) rfl (by kernel_rfl) (by kernel_rfl) (by kernel_rfl) (fun _ _ _ h => h) (Or.inl ⟨by kernel_rfl, by (intro W hW; have cA := HCE.out _ _ _ c6 (HA.out.below hW); go_simp; with_reducible rfl)⟩) HSB ?_
        try simp only [Act.put, List.setIfInBounds_toArray, List.set_cons_zero, List.set_cons_succ, List.getElem_toArray, List.getElem_cons_succ, List.getElem_cons_zero]
        refine wpAnyH_ready (rs := [5]) (by kernel_rfl) (by simp) ?_
        refine AllReadyH.cons rfl (fun K hK => ?_) ?_
        · go_simp
          refine (HRE.out _ _ _ _ (HL0.out.below HT.out)).mono ?_
          rintro e w5 ⟨A7, c7, rfl, H7⟩
          have HBC := Lib.hid (H7.out.2)
          replace HT := Lib.hid (HT.out.trans (HBC.out.mono HT.out.size))
          replace HGO := Lib.hid (HGO.out.below HBC.out)
          replace HA := Lib.hid (HA.out.below HBC.out)
          have HB := Lib.hid (H7.out.1)
          refine hK.out _ _ (SB.of HSB HBC.out) (fun _ => ?_)
          refine wpAnyH_to (fun W h => SB.mono h HSB HBC.out) _ _ _ _ ?_
          replace HSB := SB.here w5
          try simp only [Act.put, List.setIfInBounds_toArray, List.set_cons_zero, List.set_cons_succ, List.getElem_toArray, List.getElem_cons_succ, List.getElem_cons_zero]
          clear hK K HBC
          refine wpAnyH_take (i := 6) (v := ?_) rfl (by kernel_rfl) (by kernel_rfl) (by kernel_rfl) (fun _ _ _ h => h) (Or.inl ⟨by kernel_rfl, by (intro W hW; have cB := HCE.out _ _ _ c7 (HB.out.below hW); go_simp; with_reducible rfl)⟩) HSB ?_
          try simp only [Act.put, List.setIfInBounds_toArray, List.set_cons_zero, List.set_cons_succ, List.getElem_toArray, List.getElem_cons_succ, List.getElem_cons_zero]
          refine wpAnyH_take (i := 7) (v := ?_) rfl (by kernel_rfl) (by kernel_rfl) (by kernel_rfl) (fun _ _ _ h => h) (Or.inl ⟨by kernel_rfl, by (intro W hW; go_simp; with_reducible rfl)⟩) HSB ?_
          try simp only [Act.put, List.setIfInBounds_toArray, List.set_cons_zero, List.set_cons_succ, List.getElem_toArray, List.getElem_cons_succ, List.getElem_cons_zero]
          refine wpAnyH_take (i := 8) (v := ?_) rfl (by kernel_rfl) (by kernel_rfl) (by kernel_rfl) (fun _ _ _ h => h) (Or.inl ⟨by kernel_rfl, by (intro W hW; go_simp; with_reducible rfl)⟩) HSB ?_
          try simp only [Act.put, List.setIfInBounds_toArray, List.set_cons_zero, List.set_cons_succ, List.getElem_toArray, List.getElem_cons_succ, List.getElem_cons_zero]
          refine wpAnyH_take (i := 9) (v := ?_) rfl (by kernel_rfl) (by kernel_rfl) (by kernel_rfl) (fun _ _ _ h => h) (Or.inl ⟨by kernel_rfl, by (intro W hW; go_simp; with_reducible rfl)⟩) HSB ?_
          try simp only [Act.put, List.setIfInBounds_toArray, List.set_cons_zero, List.set_cons_succ, List.getElem_toArray, List.getElem_cons_succ, List.getElem_cons_zero]
          refine wpAnyH_take (i := 11) (v := ?_) rfl (by kernel_rfl) (by kernel_rfl) (by kernel_rfl) (fun _ _ _ h => h) (Or.inl ⟨by kernel_rfl, by (intro W hW; go_simp; with_reducible rfl)⟩) HSB ?_
          try simp only [Act.put, List.setIfInBounds_toArray, List.set_cons_zero, List.set_cons_succ, List.getElem_toArray, List.getElem_cons_succ, List.getElem_cons_zero]
          refine wpAnyH_ready (rs := [10]) (by kernel_rfl) (by simp) ?_
          refine AllReadyH.cons rfl (fun K hK => ?_) ?_
          · go_simp
            refine (HNUM.out _ (HGL.out.below HT.out)).mono ?_
            rintro e w5 ⟨rfl, H8⟩
            have HBC := Lib.hid (H8.out)
            replace HT := Lib.hid (HT.out.trans (HBC.out.mono HT.out.size))
            replace HGO := Lib.hid (HGO.out.below HBC.out)
            replace HA := Lib.hid (HA.out.below HBC.out)
            replace HB := Lib.hid (HB.out.below HBC.out)
            refine hK.out _ _ (SB.of HSB HBC.out) (fun _ => ?_)
            refine wpAnyH_to (fun W h => SB.mono h HSB HBC.out) _ _ _ _ ?_
            replace HSB := SB.here w5
            try simp only [Act.put, List.setIfInBounds_toArray, List.set_cons_zero, List.set_cons_succ, List.getElem_toArray, List.getElem_cons_succ, List.getElem_cons_zero]
            clear hK K HBC
            refine wpAnyH_take (i := 12) (v := ?_) rfl (by kernel_rfl) (by kernel_rfl) (by kernel_rfl) (fun _ _ _ h => h) (Or.inl ⟨by kernel_rfl, by (intro W hW; go_simp; with_reducible rfl)⟩) HSB ?_
            try simp only [Act.put, List.setIfInBounds_toArray, List.set_cons_zero, List.set_cons_succ, List.getElem_toArray, List.getElem_cons_succ, List.getElem_cons_zero]
            refine wpAnyH_take (i := 13) (v := ?_) rfl (by kernel_rfl) (by kernel_rfl) (by kernel_rfl) (fun _ _ _ h => h) (Or.inl ⟨by kernel_rfl, by (intro W hW; go_simp; with_reducible rfl)⟩) HSB ?_
            try simp only [Act.put, List.setIfInBounds_toArray, List.set_cons_zero, List.set_cons_succ, List.getElem_toArray, List.getElem_cons_succ, List.getElem_cons_zero]
            refine wpAnyH_take (i := 14) (v := ?_) rfl (by kernel_rfl) (by kernel_rfl) (by kernel_rfl) (fun _ _ _ h => h) (Or.inl ⟨by kernel_rfl, by (intro W hW; go_simp; with_reducible rfl)⟩) HSB ?_
            try simp only [Act.put, List.setIfInBounds_toArray, List.set_cons_zero, List.set_cons_succ, List.getElem_toArray, List.getElem_cons_succ, List.getElem_cons_zero]
            refine wpAnyH_take (i := 15) (v := ?_) rfl (by kernel_rfl) (by kernel_rfl) (by kernel_rfl) (fun _ _ _ h => h) (Or.inl ⟨by kernel_rfl, by (intro W hW; go_simp; with_reducible rfl)⟩) HSB ?_
            try simp only [Act.put, List.setIfInBounds_toArray, List.set_cons_zero, List.set_cons_succ, List.getElem_toArray, List.getElem_cons_succ, List.getElem_cons_zero]
            refine wpAnyH_take (i := 16) (v := ?_) rfl (by kernel_rfl) (by kernel_rfl) (by kernel_rfl) (fun _ _ _ h => h) (Or.inl ⟨by kernel_rfl, by (intro W hW; go_simp; with_reducible rfl)⟩) HSB ?_
            try simp only [Act.put, List.setIfInBounds_toArray, List.set_cons_zero, List.set_cons_succ, List.getElem_toArray, List.getElem_cons_succ, List.getElem_cons_zero]
            refine wpAnyH_take (i := 17) (v := ?_) rfl (by kernel_rfl) (by kernel_rfl) (by kernel_rfl) (fun _ _ _ h => h) (Or.inl ⟨by kernel_rfl, by (intro W hW; go_simp; with_reducible rfl)⟩) HSB ?_
            try simp only [Act.put, List.setIfInBounds_toArray, List.set_cons_zero, List.set_cons_succ, List.getElem_toArray, List.getElem_cons_succ, List.getElem_cons_zero]
            refine wpAnyH_take (i := 18) (v := undef) rfl (by kernel_rfl) (by kernel_rfl) (by kernel_rfl) (fun _ _ _ h => h) (Or.inr ⟨by kernel_rfl, rfl⟩) HSB ?_
            try simp only [Act.put, List.setIfInBounds_toArray, List.set_cons_zero, List.set_cons_succ, List.getElem_toArray, List.getElem_cons_succ, List.getElem_cons_zero]
            refine wpAnyH_take (i := 19) (v := undef) rfl (by kernel_rfl) (by kernel_rfl) (by kernel_rfl) (fun _ _ _ h => h) (Or.inr ⟨by kernel_rfl, rfl⟩) HSB ?_
            try simp only [Act.put, List.setIfInBounds_toArray, List.set_cons_zero, List.set_cons_succ, List.getElem_toArray, List.getElem_cons_succ, List.getElem_cons_zero]
            refine wpAnyH_take (i := 20) (v := undef) rfl (by kernel_rfl) (by kernel_rfl) (by kernel_rfl) (fun _ _ _ h => h) (Or.inr ⟨by kernel_rfl, rfl⟩) HSB ?_
            try simp only [Act.put, List.setIfInBounds_toArray, List.set_cons_zero, List.set_cons_succ, List.getElem_toArray, List.getElem_cons_succ, List.getElem_cons_zero]
            refine wpAnyH_take (i := 21) (v := undef) rfl (by kernel_rfl) (by kernel_rfl) (by kernel_rfl) (fun _ _ _ h => h) (Or.inr ⟨by kernel_rfl, rfl⟩) HSB ?_
            try simp only [Act.put, List.setIfInBounds_toArray, List.set_cons_zero, List.set_cons_succ, List.getElem_toArray, List.getElem_cons_succ, List.getElem_cons_zero]
            refine wpAnyH_take (i := 22) (v := undef) rfl (by kernel_rfl) (by kernel_rfl) (by kernel_rfl) (fun _ _ _ h => h) (Or.inr ⟨by kernel_rfl, rfl⟩) HSB ?_
            try simp only [Act.put, List.setIfInBounds_toArray, List.set_cons_zero, List.set_cons_succ, List.getElem_toArray, List.getElem_cons_succ, List.getElem_cons_zero]
            refine wpAnyH_take (i := 23) (v := undef) rfl (by kernel_rfl) (by kernel_rfl) (by kernel_rfl) (fun _ _ _ h => h) (Or.inr ⟨by kernel_rfl, rfl⟩) HSB ?_
            try simp only [Act.put, List.setIfInBounds_toArray, List.set_cons_zero, List.set_cons_succ, List.getElem_toArray, List.getElem_cons_succ, List.getElem_cons_zero]
            refine wpAnyH_take (i := 24) (v := ?_) rfl (by kernel_rfl) (by kernel_rfl) (by kernel_rfl) (fun _ _ _ h => h) (Or.inl ⟨by kernel_rfl, by (intro W hW; go_simp; with_reducible rfl)⟩) HSB ?_
            try simp only [Act.put, List.setIfInBounds_toArray, List.set_cons_zero, List.set_cons_succ, List.getElem_toArray, List.getElem_cons_succ, List.getElem_cons_zero]
            refine wpAnyH_take (i := 25) (v := ?_) rfl (by kernel_rfl) (by kernel_rfl) (by kernel_rfl) (fun _ _ _ h => h) (Or.inl ⟨by kernel_rfl, by (intro W hW; go_simp; with_reducible rfl)⟩) HSB ?_
            try simp only [Act.put, List.setIfInBounds_toArray, List.set_cons_zero, List.set_cons_succ, List.getElem_toArray, List.getElem_cons_succ, List.getElem_cons_zero]
            refine wpAnyH_take (i := 26) (v := ?_) rfl (by kernel_rfl) (by kernel_rfl) (by kernel_rfl) (fun _ _ _ h => h) (Or.inl ⟨by kernel_rfl, by (intro W hW; go_simp; with_reducible rfl)⟩) HSB ?_
            try simp only [Act.put, List.setIfInBounds_toArray, List.set_cons_zero, List.set_cons_succ, List.getElem_toArray, List.getElem_cons_succ, List.getElem_cons_zero]
            refine wpAnyH_ready (rs := [27]) (by kernel_rfl) (by simp) ?_
            refine AllReadyH.cons rfl (fun K hK => ?_) ?_
            · go_simp
              refine (sure_any _).mono ?_
              rintro e w5 ⟨rfl, H9⟩
              have HBC := Lib.hid (H9.out)
              replace HT := Lib.hid (HT.out.trans (HBC.out.mono HT.out.size))
              replace HGO := Lib.hid (HGO.out.below HBC.out)
              replace HA := Lib.hid (HA.out.below HBC.out)
              replace HB := Lib.hid (HB.out.below HBC.out)
              refine hK.out _ _ (SB.of HSB HBC.out) (fun _ => ?_)
              refine wpAnyH_to (fun W h => SB.mono h HSB HBC.out) _ _ _ _ ?_
              replace HSB := SB.here w5
              try simp only [Act.put, List.setIfInBounds_toArray, List.set_cons_zero, List.set_cons_succ, List.getElem_toArray, List.getElem_cons_succ, List.getElem_cons_zero]
              clear hK K HBC
              refine wpAnyH_take (i := 28) (v := ?_) rfl (by kernel_rfl) (by kernel_rfl) (by kernel_rfl) (fun _ _ _ h => h) (Or.inl ⟨by kernel_rfl, by (intro W hW; go_simp; with_reducible rfl)⟩) HSB ?_
              try simp only [Act.put, List.setIfInBounds_toArray, List.set_cons_zero, List.set_cons_succ, List.getElem_toArray, List.getElem_cons_succ, List.getElem_cons_zero]
              refine wpAnyH_take (i := 29) (v := ?_) rfl (by kernel_rfl) (by kernel_rfl) (by kernel_rfl) (fun _ _ _ h => h) (Or.inl ⟨by kernel_rfl, by (intro W hW; go_simp; with_reducible rfl)⟩) HSB ?_
              try simp only [Act.put, List.setIfInBounds_toArray, List.set_cons_zero, List.set_cons_succ, List.getElem_toArray, List.getElem_cons_succ, List.getElem_cons_zero]
              refine wpAnyH_done (by kernel_rfl) ?_ _
              go_wp2_with fail
              go_ret
              exact ⟨rfl, HW.out.drew.trans (HT.out.mono HW.out.drew.size)⟩
            exact AllReadyH.nil
          exact AllReadyH.nil
        exact AllReadyH.nil
      exact AllReadyH.nil
    exact AllReadyH.nil
    -- end B
end Go.Proofs.YtcdjbfgkajfnlaaDoor
