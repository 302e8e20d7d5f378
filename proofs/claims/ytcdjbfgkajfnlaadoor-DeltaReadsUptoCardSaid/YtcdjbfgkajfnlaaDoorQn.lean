/- Layer 10's laws, walked: any parts as bytes, the parts of any bytes, the block that they make of a base. -/
import Derived.Test.YtcdjbfgkajfnlaaDoorQm
import Derived.Test.YtcdjbfgkajfnlaaDoorRa
import Derived.Test.YtcdjbfgkajfnlaaDoorSt
namespace Go.Proofs.YtcdjbfgkajfnlaaDoor
open Go.RowKit

theorem run_load_blk {P : Program} {o : Oper} {ev : Operand → Value} {w : World} (ty : TypeId) (x : Operand) (ho : o.op = .load ty x) (g : Nat) (hx : ev x = .pointer (some ⟨g, 0, none⟩)) {t : TypeId} {cs : Array Value} (hg : Blk w g t cs) {d : TypeDesc}
    (hu : P.underlying ty = some d) (hd : (match d with | .struct _ | .array _ _ => true | _ => false) = true) (n : Nat) (hi : (P.info? ty).map (·.size) = some n) (hn : cs.size = n) : (execOp ev o).run P w = .ok (.value (.agg cs)) w := by
  have := run_loadVar_row w g t ty cs (0, 0) d hg hu hd (by rw [hi, hn])
  unfold execOp
  simp only [ho, hx, Instr.loadAt, Instr.sureAddr, Sem.run_bind, Sem.run_pure, Result.andThen_ok, this]
theorem run_equalIn_block (xs : List Int) (hl : xs.length = 64) (W : World) : (Op.equalIn 10000 23 (.agg (u8s xs).toArray) (.agg (u8s xs).toArray)).run Tryd.prog W = .ok true W := by
  obtain ⟨i0, hi, _, hz1, _⟩ := info_parts info_u8
  have hin : ∀ d x, (Op.equalIn (d + 1) 5 (.int .u8 x) (.int .u8 x)).run Tryd.prog W = .ok true W := by
    intro d x
    simp [Op.equalIn, run_underlying Tryd.underlying5]
  have h : ∀ d, (Op.equalIn (d + 2) 23 (.agg (u8s xs).toArray) (.agg (u8s xs).toArray)).run Tryd.prog W = .ok true W := by
    intro d
    rw [Op.equalIn]
    simp only [Sem.run_bind, run_underlying Tryd.underlying23, Result.andThen_ok]
    simp only [sizeOf, typeInfo, Sem.run_bind, Sem.run_pure, Std.Legacy.Range.forIn_eq_forIn_range']
    go_simp
    rw [forIn_stay]
    · simp
    · intro i hi
      have hi64 : i < 64 := by simpa using hi
      have hx := u8s_get xs i (by omega)
      have hagg : ∀ W : World, (isAgg 5).run Tryd.prog W = .ok false W := fun W => by simp [isAgg, run_underlying Tryd.underlying5]
      simp only [Sem.run_bind, hagg, Result.andThen_ok, hx, Bool.false_eq_true, if_false, Sem.run_pure, hin, reduceCtorEq]
  exact h 9998
theorem Blk.own2 {w : World} {g : Nat} {t : TypeId} {cs : Array Value} (h : Blk w g t cs) {w' : World} (hb : SB w w') : Blk w' g t cs := h.below hb h.lt
theorem Blk.ownBlk {w : World} {g : Nat} {t : TypeId} {cs : Array Value} (h : Blk w g t cs) {w' : World} (hb : Below w.heap.size w w') : Blk w' g t cs := h.below hb h.lt
theorem below_of_drewN {w w' : World} (h : ∃ m, w' = w.drewN m) : Below w.heap.size w w' := by
  obtain ⟨m, rfl⟩ := h
  exact below_drewN (Below.refl _ _) m
theorem applyS_len' (base : List Int) (l : List POp) : (applyS base l).1.length = 64 := appL_len base l []
theorem patchS_len (base b : List Int) : (patchS base b).1.length = 64 := by
  unfold patchS
  split
  · rfl
  · exact appL_len base _ []
theorem below_drew1 (w : World) : Below w.heap.size w w.drew := (Below.refl _ _).drew
/-- A block that was laid anew and stored into whole. -/
theorem new_row {w w' : World} {o : Obj} (hg : (w.alloc o).grownBy w' (some w.heap.size)) : Below w.heap.size w w' := (below_box w o).grown hg (by simp) (fun k hk => by cases hk; exact Nat.le_refl _)
set_option maxRecDepth 100000 in
set_option maxHeartbeats 16000000 in
theorem reads_law (w : World) (base : List Int) (hb : base.length = 64) (hb8 : u8Ok base) (A : Option Addr) (n c : Nat) (l : List POp) (h : ROps w A n l) (hn : n ≤ 200) (hok : u8Ok (encOps l)) (hsz : (encOps l).length + 64 ≤ 140737488355328)
    (Ab : Option Addr) (cb : Nat) (b : List Int) (hr : RB w Ab b.length b) (hc : b.length ≤ cb) (hg : ErrLaid w) :
    Calls Tryd.prog 3 #[.agg (u8s base).toArray, .slice A n c, .slice Ab b.length cb] w fun e w' => e = .returned (.bool true) ∧ Hid (Below w.heap.size w w') := by
  have hn' : decide ((200 : Int) < n) = false := decide_eq_false (by omega)
  have hbl := hr.2.1
  have HGV := Lib.hid (fun W (h : ROps W A n l) => give_any W A n c l h hn)
  obtain ⟨E, hE⟩ : ∃ E, encOps l = E := ⟨_, rfl⟩
  have HEN := Lib.hid (fun W A n c (h : ROps W A n l) => encode_rb W A n c l E hE h (by rw [← hE]; exact hsz))
  have HRE := Lib.hid (fun W A n c (h : ROps W A n l) => refEncode_rb W A n c l E hE (by rw [← hE]; exact hok) h (by rw [← hE]; exact hsz))
  have HD := Lib.hid (fun W A c (h : RB W A b.length b) (hc : b.length ≤ c) => decode_any W A b.length c b h hc)
  have HRD := Lib.hid (fun W (h : RB W Ab b.length b) => refDecode_any W Ab cb b h hc)
  obtain ⟨⟨ld, ed⟩, hd⟩ : ∃ q, q = decS b := ⟨_, rfl⟩
  rw [← hd] at HD HRD
  simp only at HD HRD
  have hpat : patchS base b = if ed ≠ 0 then (zero64, ed) else applyS base ld := by unfold patchS; rw [← hd]
  have HAP := Lib.hid (fun W A n c h => apply_any W base hb hb8 A n c l h)
  have HRA := Lib.hid (fun W A n c h => refApply_any W base hb hb8 A n c l h)
  have HRD2 := Lib.hid (fun W A n c h => refApply_any W base hb hb8 A n c ld h)
  have HPA := Lib.hid (fun W A c (h : RB W A b.length b) (hc : b.length ≤ c) => patch_any W base hb hb8 A b.length c b h hc)
  obtain ⟨X, hX⟩ : ∃ X, X = (u8s (applyS base l).1).toArray := ⟨_, rfl⟩
  obtain ⟨Y, hY⟩ : ∃ Y, Y = (u8s (patchS base b).1).toArray := ⟨_, rfl⟩
  obtain ⟨Z, hZ⟩ : ∃ Z, Z = (u8s (applyS base ld).1).toArray := ⟨_, rfl⟩
  have HEX : Hid (∀ W : World, (Op.equalIn 10000 23 (.agg X) (.agg X)).run Tryd.prog W = .ok true W) := by rw [hX]; exact run_equalIn_block (applyS base l).1 (applyS_len' base l)
  have HEY : Hid (∀ W : World, (Op.equalIn 10000 23 (.agg Y) (.agg Y)).run Tryd.prog W = .ok true W) := by rw [hY]; exact run_equalIn_block (patchS base b).1 (patchS_len base b)
  have HXs : Hid (X.size = 64) := by rw [hX]; exact block_size _ (applyS_len' base l)
  have HX1 : Hid (∀ u ∈ X.toList, u.oneCell' = true) := by rw [hX]; exact u8s_one' _
  have HYs : Hid (Y.size = 64) := by rw [hY]; exact block_size _ (patchS_len base b)
  have HY1 : Hid (∀ u ∈ Y.toList, u.oneCell' = true) := by rw [hY]; exact u8s_one' _
  have HZs : Hid (Z.size = 64) := by rw [hZ]; exact block_size _ (applyS_len' base ld)
  have HZ1 : Hid (∀ u ∈ Z.toList, u.oneCell' = true) := by rw [hZ]; exact u8s_one' _
  obtain ⟨er, her⟩ : ∃ er, er = (applyS base l).2 := ⟨_, rfl⟩
  obtain ⟨ep, hep⟩ : ∃ ep, ep = (patchS base b).2 := ⟨_, rfl⟩
  obtain ⟨ez, hez⟩ : ∃ ez, ez = (applyS base ld).2 := ⟨_, rfl⟩
  obtain ⟨C, hC⟩ : ∃ C, C = (u8s base).toArray := ⟨_, rfl⟩
  have HCs : Hid (C.size = 64) := by rw [hC]; simp [Hid, u8s_length, hb]
  rw [← hC] at HAP HRA HPA HRD2 ⊢
  rw [← hX, ← her] at HAP HRA
  rw [← hY, ← hep] at HPA
  rw [← hZ, ← hez] at HRD2
  have HYZ : Hid ((ed ≠ 0 → Y = (u8s zero64).toArray ∧ ep = ed) ∧ (ed = 0 → Y = Z ∧ ep = ez)) := by
    refine ⟨fun he => ?_, fun he => ?_⟩
    · rw [if_pos he] at hpat
      rw [hY, hep, hpat]
      exact ⟨rfl, rfl⟩
    · rw [if_neg (by simp [he])] at hpat
      rw [hY, hep, hZ, hez, hpat]
      exact ⟨rfl, rfl⟩
  obtain ⟨S, hS⟩ : ∃ S, S = strOfNums E := ⟨_, rfl⟩
  obtain ⟨TB, hT⟩ : ∃ T, T = strOfNums b := ⟨_, rfl⟩
  have HCE := Lib.hid (fun W A n c (h : RB W A n E) => conv_b h c)
  have HCT := Lib.hid (fun W A n c (h : RB W A n b) => conv_b h c)
  rw [← hS] at HCE
  rw [← hT] at HCT
  have HSM := Lib.hid (fun W A A' c c' (h : ROps W A ld.length ld) (h' : ROps W A' ld.length ld) => same_any W A A' ld.length c c' ld h h')
  have HNE := Lib.hid (fun W (h : ErrLaid W) => num_any ed W h)
  have HNR := Lib.hid (fun W (h : ErrLaid W) => num_any er W h)
  have HNP := Lib.hid (fun W (h : ErrLaid W) => num_any ep W h)
  have HG := Lib.hid hg
  have HB1 : Hid (Below w.heap.size w (w.alloc (.cells C 23))) := below_box _ _
  have KC : Hid (Blk (w.alloc (.cells C 23)) w.heap.size 23 C) := Blk.new _ _ _
  have ROl : Hid (ROps (w.alloc (.cells C 23)) A n l) := h.below HB1.out
  have Rb : Hid (RB (w.alloc (.cells C 23)) Ab b.length b) := hr.below HB1.out
  have hs1 : w.heap.size + 1 ≤ (w.alloc (.cells C 23)).heap.size := by simp
  clear hE hS hT hd hX hY hZ her hep hez hC hpat h hr hg hok hsz hb hb8
  go_enter Tryd.func3, Tryd.ntmps3
  go_wp2_with (at_builtin; refine wpList_append_rb _ rfl (.tmp 24) (.tmp 25) 25 rfl (w.heap.size + 1) 5 Tryd.underlying25 info_u8 (.slice none 0 0) [] b rfl (own_nil _ _ _ _) Ab b.length cb rfl Rb.out (by simpa using hbl) hs1 ?_; intro Am cm w1 ho hgr hnr; have HM := Lib.hid ho; have HBM : Hid (Below (w.alloc (.cells C 23)).heap.size (w.alloc (.cells C 23)) w1) := below_of_grown hgr (by simp) (fun k hk => by simp [Value.ownBlock] at hk); clear ho hgr hnr)
  have HW : Hid (Below w.heap.size w w1) := HB1.out.trans (HBM.out.mono HB1.out.size)
  have Rm : Hid (RB w1 Am b.length b) := RB.of_own HM.out Rb.out.2.2.1 hbl
  have hcm : b.length ≤ cm := by
    obtain ⟨A', c', he, hle⟩ := own_slice HM.out
    cases he
    exact hle
  replace KC := Lib.hid (KC.out.ownBlk (HBM.out))
  replace Rb := Lib.hid (Rb.out.below (HBM.out))
  replace ROl := Lib.hid (ROl.out.below (HBM.out))
  clear HM HBM HB1 hs1
  refine (HD.out _ _ _ Rm.out hcm).mono ?_
  rintro e w2 ⟨V, rfl, H2⟩
  obtain ⟨Ad, cd, rfl, hro, _, hb2⟩ := H2.out
  have ROd := Lib.hid hro
  replace KC := Lib.hid (KC.out.ownBlk (hb2))
  replace Rb := Lib.hid (Rb.out.below (hb2))
  replace ROl := Lib.hid (ROl.out.below (hb2))
  replace Rm := Lib.hid (Rm.out.below (hb2))
  replace HW := Lib.hid (HW.out.trans (hb2.mono HW.out.size))
  clear H2 hro hb2
  go_wp2_with fail
  refine (HRD.out _ Rb.out).mono ?_
  rintro e w3 ⟨V2, rfl, H3⟩
  obtain ⟨A2, c2, rfl, hro, _, hb3⟩ := H3.out
  have ROe := Lib.hid hro
  replace KC := Lib.hid (KC.out.ownBlk (hb3))
  replace Rb := Lib.hid (Rb.out.below (hb3))
  replace ROl := Lib.hid (ROl.out.below (hb3))
  replace Rm := Lib.hid (Rm.out.below (hb3))
  replace ROd := Lib.hid (ROd.out.below (hb3))
  replace HW := Lib.hid (HW.out.trans (hb3.mono HW.out.size))
  clear H3 hro hb3
  go_upto_region 7 with fail
  replace KC := Lib.hid (KC.out.ownBlk (below_drew1 w3))
  replace Rb := Lib.hid (Rb.out.below (below_drew1 w3))
  replace ROl := Lib.hid (ROl.out.below (below_drew1 w3))
  replace Rm := Lib.hid (Rm.out.below (below_drew1 w3))
  replace ROd := Lib.hid (ROd.out.below (below_drew1 w3))
  replace ROe := Lib.hid (ROe.out.below (below_drew1 w3))
  replace HW := Lib.hid HW.out.drew
  go_cut [12, 13] from 37 to 43 (fun v12 v13 wx => ∃ g, v12 = .pointer (some ⟨g, 0, none⟩) ∧ v13 = errV er ∧ Hid (Blk wx g 23 X ∧ Below w3.drew.heap.size w3.drew wx))
  case first =>
      have HT : Hid (Below w3.drew.heap.size w3.drew w3.drew) := Below.refl _ _
      refine wp_region_held_drew (S := SB w3.drew) (by kernel_rfl) (SB.here _) (fun HSB => ?_)
      refine wpAnyH_take (i := 0) (v := ?_) rfl (by kernel_rfl) (by kernel_rfl) (by kernel_rfl) (fun _ _ _ h => h) (Or.inl ⟨by kernel_rfl, by (intro W hW; refine run_load_blk 23 (.tmp 3) ?_ w.heap.size ?_ (KC.out.own2 hW) Tryd.underlying23 rfl 64 size_block HCs.out <;> rfl)⟩) HSB ?_
      try simp only [Act.put, List.setIfInBounds_toArray, List.set_cons_zero, List.set_cons_succ, List.getElem_toArray, List.getElem_cons_succ, List.getElem_cons_zero]
      refine wpAnyH_take (i := 1) (v := ?_) rfl (by kernel_rfl) (by kernel_rfl) (by kernel_rfl) (fun _ _ _ h => h) (Or.inl ⟨by kernel_rfl, by (intro W hW; go_simp; with_reducible rfl)⟩) HSB ?_
      try simp only [Act.put, List.setIfInBounds_toArray, List.set_cons_zero, List.set_cons_succ, List.getElem_toArray, List.getElem_cons_succ, List.getElem_cons_zero]
      refine wpAnyH_ready (rs := [2, 7]) (by kernel_rfl) (by simp) ?_
      refine AllReadyH.cons rfl (fun K hK => ?_) ?_
      · go_simp
        refine (HGV.out _ (ROl.out.below HT.out)).mono ?_
        rintro e w5 ⟨A', c', rfl, hx⟩
        have HBC := Lib.hid (hx.out.2.2)
        replace HT := Lib.hid (HT.out.trans (HBC.out.mono HT.out.size))
        have RG := Lib.hid (hx.out.1)
        refine hK.out _ _ HT.out (fun _ => ?_)
        replace HSB := HT.out
        try simp only [Act.put, List.setIfInBounds_toArray, List.set_cons_zero, List.set_cons_succ, List.getElem_toArray, List.getElem_cons_succ, List.getElem_cons_zero]
        clear hK K HBC
        refine wpAnyH_ready (rs := [3, 7]) (by kernel_rfl) (by simp) ?_
        refine AllReadyH.cons rfl (fun K hK => ?_) ?_
        · go_simp
          refine (HAP.out _ _ _ _ RG.out).mono ?_
          rintro e w5 ⟨rfl, hx⟩
          have HBC := Lib.hid (hx.out)
          replace HT := Lib.hid (HT.out.trans (HBC.out.mono HT.out.size))
          replace RG := Lib.hid (RG.out.below HBC.out)
          refine hK.out _ _ HT.out (fun _ => ?_)
          replace HSB := HT.out
          try simp only [Act.put, List.setIfInBounds_toArray, List.set_cons_zero, List.set_cons_succ, List.getElem_toArray, List.getElem_cons_succ, List.getElem_cons_zero]
          clear hK K HBC
          refine wpAnyH_take (i := 4) (v := ?_) rfl (by kernel_rfl) (by kernel_rfl) (by kernel_rfl) (fun _ _ _ h => h) (Or.inl ⟨by kernel_rfl, by (intro W hW; go_simp; with_reducible rfl)⟩) HSB ?_
          try simp only [Act.put, List.setIfInBounds_toArray, List.set_cons_zero, List.set_cons_succ, List.getElem_toArray, List.getElem_cons_succ, List.getElem_cons_zero]
          refine wpAnyH_take (i := 5) (v := ?_) rfl (by kernel_rfl) (by kernel_rfl) (by kernel_rfl) (fun _ _ _ h => h) (Or.inl ⟨by kernel_rfl, by (intro W hW; go_simp; with_reducible rfl)⟩) HSB ?_
          try simp only [Act.put, List.setIfInBounds_toArray, List.set_cons_zero, List.set_cons_succ, List.getElem_toArray, List.getElem_cons_succ, List.getElem_cons_zero]
          refine wpAnyH_take (i := 6) (v := ?_) rfl (by kernel_rfl) (by kernel_rfl) (by kernel_rfl) (fun _ _ _ h => h) (Or.inl ⟨by kernel_rfl, by (intro W hW; go_simp; with_reducible rfl)⟩) HSB ?_
          try simp only [Act.put, List.setIfInBounds_toArray, List.set_cons_zero, List.set_cons_succ, List.getElem_toArray, List.getElem_cons_succ, List.getElem_cons_zero]
          refine wpAnyH_ready (rs := [7]) (by kernel_rfl) (by simp) ?_
          refine AllReadyH.cons rfl (fun K hK => ?_) ?_
          · refine step_alloc_block rfl 23 rfl _ block_zero ?_
            intro g w5 hgw hb hz
            have HGE := Lib.hid (Nat.le_trans HT.out.size hgw)
            have HBC := Lib.hid (hb)
            replace HT := Lib.hid (HT.out.trans (HBC.out.mono HT.out.size))
            replace RG := Lib.hid (RG.out.below HBC.out)
            have KZ := Lib.hid (hz)
            refine hK.out _ _ HT.out (fun _ => ?_)
            replace HSB := HT.out
            try simp only [Act.put, List.setIfInBounds_toArray, List.set_cons_zero, List.set_cons_succ, List.getElem_toArray, List.getElem_cons_succ, List.getElem_cons_zero]
            clear hK K HBC hgw hb hz
            refine wpAnyH_ready (rs := [8]) (by kernel_rfl) (by simp) ?_
            refine AllReadyH.cons rfl (fun K hK => ?_) ?_
            · refine step_store_block rfl 23 (.tmp 12) (.tmp 42) rfl _ rfl X rfl 23 _ KZ.out 64 size_block HXs.out zero_size HX1.out ?_
              intro w5 hgr hz
              have HZX := Lib.hid hz
              replace HT := Lib.hid (HT.out.grown hgr HT.out.size (fun k hk => by have := Option.some.inj hk; have := HGE.out; omega))
              refine hK.out _ _ HT.out (fun _ => ?_)
              replace HSB := HT.out
              try simp only [Act.put, List.setIfInBounds_toArray, List.set_cons_zero, List.set_cons_succ, List.getElem_toArray, List.getElem_cons_succ, List.getElem_cons_zero]
              clear hK K hgr hz
              refine wpAnyH_take (i := 9) (v := ?_) rfl (by kernel_rfl) (by kernel_rfl) (by kernel_rfl) (fun _ _ _ h => h) (Or.inl ⟨by kernel_rfl, by (intro W hW; go_simp; with_reducible rfl)⟩) HSB ?_
              try simp only [Act.put, List.setIfInBounds_toArray, List.set_cons_zero, List.set_cons_succ, List.getElem_toArray, List.getElem_cons_succ, List.getElem_cons_zero]
              refine wpAnyH_done (by kernel_rfl) ?_ _
              go_wp2_with fail
              go_meet
              case rel => exact ⟨_, rfl, rfl, HZX.out, HT.out⟩
            exact AllReadyH.nil
          exact AllReadyH.nil
        refine AllReadyH.cons rfl (fun K hK => ?_) ?_
        · refine step_alloc_block rfl 23 rfl _ block_zero ?_
          intro g w5 hgw hb hz
          have HGE := Lib.hid (Nat.le_trans HT.out.size hgw)
          have HBC := Lib.hid (hb)
          replace HT := Lib.hid (HT.out.trans (HBC.out.mono HT.out.size))
          replace RG := Lib.hid (RG.out.below HBC.out)
          have KZ := Lib.hid (hz)
          refine hK.out _ _ HT.out (fun _ => ?_)
          replace HSB := HT.out
          try simp only [Act.put, List.setIfInBounds_toArray, List.set_cons_zero, List.set_cons_succ, List.getElem_toArray, List.getElem_cons_succ, List.getElem_cons_zero]
          clear hK K HBC hgw hb hz
          refine wpAnyH_ready (rs := [3]) (by kernel_rfl) (by simp) ?_
          refine AllReadyH.cons rfl (fun K hK => ?_) ?_
          · go_simp
            refine (HAP.out _ _ _ _ RG.out).mono ?_
            rintro e w5 ⟨rfl, hx⟩
            have HBC := Lib.hid (hx.out)
            replace HT := Lib.hid (HT.out.trans (HBC.out.mono HT.out.size))
            replace RG := Lib.hid (RG.out.below HBC.out)
            replace KZ := Lib.hid (KZ.out.ownBlk HBC.out)
            refine hK.out _ _ HT.out (fun _ => ?_)
            replace HSB := HT.out
            try simp only [Act.put, List.setIfInBounds_toArray, List.set_cons_zero, List.set_cons_succ, List.getElem_toArray, List.getElem_cons_succ, List.getElem_cons_zero]
            clear hK K HBC
            refine wpAnyH_take (i := 4) (v := ?_) rfl (by kernel_rfl) (by kernel_rfl) (by kernel_rfl) (fun _ _ _ h => h) (Or.inl ⟨by kernel_rfl, by (intro W hW; go_simp; with_reducible rfl)⟩) HSB ?_
            try simp only [Act.put, List.setIfInBounds_toArray, List.set_cons_zero, List.set_cons_succ, List.getElem_toArray, List.getElem_cons_succ, List.getElem_cons_zero]
            refine wpAnyH_take (i := 5) (v := ?_) rfl (by kernel_rfl) (by kernel_rfl) (by kernel_rfl) (fun _ _ _ h => h) (Or.inl ⟨by kernel_rfl, by (intro W hW; go_simp; with_reducible rfl)⟩) HSB ?_
            try simp only [Act.put, List.setIfInBounds_toArray, List.set_cons_zero, List.set_cons_succ, List.getElem_toArray, List.getElem_cons_succ, List.getElem_cons_zero]
            refine wpAnyH_take (i := 6) (v := ?_) rfl (by kernel_rfl) (by kernel_rfl) (by kernel_rfl) (fun _ _ _ h => h) (Or.inl ⟨by kernel_rfl, by (intro W hW; go_simp; with_reducible rfl)⟩) HSB ?_
            try simp only [Act.put, List.setIfInBounds_toArray, List.set_cons_zero, List.set_cons_succ, List.getElem_toArray, List.getElem_cons_succ, List.getElem_cons_zero]
            refine wpAnyH_ready (rs := [8]) (by kernel_rfl) (by simp) ?_
            refine AllReadyH.cons rfl (fun K hK => ?_) ?_
            · refine step_store_block rfl 23 (.tmp 12) (.tmp 42) rfl _ rfl X rfl 23 _ KZ.out 64 size_block HXs.out zero_size HX1.out ?_
              intro w5 hgr hz
              have HZX := Lib.hid hz
              replace HT := Lib.hid (HT.out.grown hgr HT.out.size (fun k hk => by have := Option.some.inj hk; have := HGE.out; omega))
              refine hK.out _ _ HT.out (fun _ => ?_)
              replace HSB := HT.out
              try simp only [Act.put, List.setIfInBounds_toArray, List.set_cons_zero, List.set_cons_succ, List.getElem_toArray, List.getElem_cons_succ, List.getElem_cons_zero]
              clear hK K hgr hz
              refine wpAnyH_take (i := 9) (v := ?_) rfl (by kernel_rfl) (by kernel_rfl) (by kernel_rfl) (fun _ _ _ h => h) (Or.inl ⟨by kernel_rfl, by (intro W hW; go_simp; with_reducible rfl)⟩) HSB ?_
              try simp only [Act.put, List.setIfInBounds_toArray, List.set_cons_zero, List.set_cons_succ, List.getElem_toArray, List.getElem_cons_succ, List.getElem_cons_zero]
              refine wpAnyH_done (by kernel_rfl) ?_ _
              go_wp2_with fail
              go_meet
              case rel => exact ⟨_, rfl, rfl, HZX.out, HT.out⟩
            exact AllReadyH.nil
          exact AllReadyH.nil
        exact AllReadyH.nil
      refine AllReadyH.cons rfl (fun K hK => ?_) ?_
      · refine step_alloc_block rfl 23 rfl _ block_zero ?_
        intro g w5 hgw hb hz
        have HGE := Lib.hid (Nat.le_trans HT.out.size hgw)
        have HBC := Lib.hid (hb)
        replace HT := Lib.hid (HT.out.trans (HBC.out.mono HT.out.size))
        have KZ := Lib.hid (hz)
        refine hK.out _ _ HT.out (fun _ => ?_)
        replace HSB := HT.out
        try simp only [Act.put, List.setIfInBounds_toArray, List.set_cons_zero, List.set_cons_succ, List.getElem_toArray, List.getElem_cons_succ, List.getElem_cons_zero]
        clear hK K HBC hgw hb hz
        refine wpAnyH_ready (rs := [2]) (by kernel_rfl) (by simp) ?_
        refine AllReadyH.cons rfl (fun K hK => ?_) ?_
        · go_simp
          refine (HGV.out _ (ROl.out.below HT.out)).mono ?_
          rintro e w5 ⟨A', c', rfl, hx⟩
          have HBC := Lib.hid (hx.out.2.2)
          replace HT := Lib.hid (HT.out.trans (HBC.out.mono HT.out.size))
          replace KZ := Lib.hid (KZ.out.ownBlk HBC.out)
          have RG := Lib.hid (hx.out.1)
          refine hK.out _ _ HT.out (fun _ => ?_)
          replace HSB := HT.out
          try simp only [Act.put, List.setIfInBounds_toArray, List.set_cons_zero, List.set_cons_succ, List.getElem_toArray, List.getElem_cons_succ, List.getElem_cons_zero]
          clear hK K HBC
          refine wpAnyH_ready (rs := [3]) (by kernel_rfl) (by simp) ?_
          refine AllReadyH.cons rfl (fun K hK => ?_) ?_
          · go_simp
            refine (HAP.out _ _ _ _ RG.out).mono ?_
            rintro e w5 ⟨rfl, hx⟩
            have HBC := Lib.hid (hx.out)
            replace HT := Lib.hid (HT.out.trans (HBC.out.mono HT.out.size))
            replace KZ := Lib.hid (KZ.out.ownBlk HBC.out)
            replace RG := Lib.hid (RG.out.below HBC.out)
            refine hK.out _ _ HT.out (fun _ => ?_)
            replace HSB := HT.out
            try simp only [Act.put, List.setIfInBounds_toArray, List.set_cons_zero, List.set_cons_succ, List.getElem_toArray, List.getElem_cons_succ, List.getElem_cons_zero]
            clear hK K HBC
            refine wpAnyH_take (i := 4) (v := ?_) rfl (by kernel_rfl) (by kernel_rfl) (by kernel_rfl) (fun _ _ _ h => h) (Or.inl ⟨by kernel_rfl, by (intro W hW; go_simp; with_reducible rfl)⟩) HSB ?_
            try simp only [Act.put, List.setIfInBounds_toArray, List.set_cons_zero, List.set_cons_succ, List.getElem_toArray, List.getElem_cons_succ, List.getElem_cons_zero]
            refine wpAnyH_take (i := 5) (v := ?_) rfl (by kernel_rfl) (by kernel_rfl) (by kernel_rfl) (fun _ _ _ h => h) (Or.inl ⟨by kernel_rfl, by (intro W hW; go_simp; with_reducible rfl)⟩) HSB ?_
            try simp only [Act.put, List.setIfInBounds_toArray, List.set_cons_zero, List.set_cons_succ, List.getElem_toArray, List.getElem_cons_succ, List.getElem_cons_zero]
            refine wpAnyH_take (i := 6) (v := ?_) rfl (by kernel_rfl) (by kernel_rfl) (by kernel_rfl) (fun _ _ _ h => h) (Or.inl ⟨by kernel_rfl, by (intro W hW; go_simp; with_reducible rfl)⟩) HSB ?_
            try simp only [Act.put, List.setIfInBounds_toArray, List.set_cons_zero, List.set_cons_succ, List.getElem_toArray, List.getElem_cons_succ, List.getElem_cons_zero]
            refine wpAnyH_ready (rs := [8]) (by kernel_rfl) (by simp) ?_
            refine AllReadyH.cons rfl (fun K hK => ?_) ?_
            · refine step_store_block rfl 23 (.tmp 12) (.tmp 42) rfl _ rfl X rfl 23 _ KZ.out 64 size_block HXs.out zero_size HX1.out ?_
              intro w5 hgr hz
              have HZX := Lib.hid hz
              replace HT := Lib.hid (HT.out.grown hgr HT.out.size (fun k hk => by have := Option.some.inj hk; have := HGE.out; omega))
              refine hK.out _ _ HT.out (fun _ => ?_)
              replace HSB := HT.out
              try simp only [Act.put, List.setIfInBounds_toArray, List.set_cons_zero, List.set_cons_succ, List.getElem_toArray, List.getElem_cons_succ, List.getElem_cons_zero]
              clear hK K hgr hz
              refine wpAnyH_take (i := 9) (v := ?_) rfl (by kernel_rfl) (by kernel_rfl) (by kernel_rfl) (fun _ _ _ h => h) (Or.inl ⟨by kernel_rfl, by (intro W hW; go_simp; with_reducible rfl)⟩) HSB ?_
              try simp only [Act.put, List.setIfInBounds_toArray, List.set_cons_zero, List.set_cons_succ, List.getElem_toArray, List.getElem_cons_succ, List.getElem_cons_zero]
              refine wpAnyH_done (by kernel_rfl) ?_ _
              go_wp2_with fail
              go_meet
              case rel => exact ⟨_, rfl, rfl, HZX.out, HT.out⟩
            exact AllReadyH.nil
          exact AllReadyH.nil
        exact AllReadyH.nil
      exact AllReadyH.nil
  case rest =>
    obtain ⟨gu, rfl, rfl, HU⟩ := hcut
    have HB3 := Lib.hid HU.out.2
    have KU := Lib.hid HU.out.1
    clear HU
    replace KC := Lib.hid (KC.out.ownBlk (HB3.out))
    replace Rb := Lib.hid (Rb.out.below (HB3.out))
    replace ROl := Lib.hid (ROl.out.below (HB3.out))
    replace Rm := Lib.hid (Rm.out.below (HB3.out))
    replace ROd := Lib.hid (ROd.out.below (HB3.out))
    replace ROe := Lib.hid (ROe.out.below (HB3.out))
    replace HW := Lib.hid (HW.out.trans (HB3.out.mono HW.out.size))
    clear HB3
    go_wp2_with (refine wpList_load_block rfl 23 (.tmp 3) rfl w.heap.size rfl 23 C _ KC.out Tryd.underlying23 rfl 64 size_block HCs.out ?_)
    refine (HRA.out _ _ _ c ROl.out).mono ?_
    rintro e w4 ⟨rfl, H4⟩
    replace KC := Lib.hid (KC.out.ownBlk (H4.out))
    replace Rm := Lib.hid (Rm.out.below (H4.out))
    replace Rb := Lib.hid (Rb.out.below (H4.out))
    replace ROl := Lib.hid (ROl.out.below (H4.out))
    replace ROd := Lib.hid (ROd.out.below (H4.out))
    replace ROe := Lib.hid (ROe.out.below (H4.out))
    replace KU := Lib.hid (KU.out.ownBlk (H4.out))
    replace HW := Lib.hid (HW.out.trans ((H4.out).mono HW.out.size))
    go_wp2_with (first | (refine wpList_load_block rfl 23 (.tmp 3) rfl w.heap.size rfl 23 C _ KC.out Tryd.underlying23 rfl 64 size_block HCs.out ?_) | (refine wpList_store_new rfl 23 (.tmp 14) (.tmp 48) rfl w4.heap.size rfl X rfl 23 (u8s zero64).toArray (Blk.new _ _ _) 64 size_block HXs.out zero_size HX1.out ?_; intro w5 hk hg hz; have HBN := Lib.hid (new_row hg); have KV := Lib.hid hk; clear hk hg hz; replace KC := Lib.hid (KC.out.ownBlk (HBN.out)); replace Rm := Lib.hid (Rm.out.below (HBN.out)); replace Rb := Lib.hid (Rb.out.below (HBN.out)); replace ROl := Lib.hid (ROl.out.below (HBN.out)); replace ROd := Lib.hid (ROd.out.below (HBN.out)); replace ROe := Lib.hid (ROe.out.below (HBN.out)); replace KU := Lib.hid (KU.out.ownBlk (HBN.out)); replace HW := Lib.hid (HW.out.trans ((HBN.out).mono HW.out.size)); clear HBN))
    refine (HPA.out _ _ _ Rm.out hcm).mono ?_
    rintro e w6 ⟨rfl, H6⟩
    replace KC := Lib.hid (KC.out.ownBlk (H6.out))
    replace Rm := Lib.hid (Rm.out.below (H6.out))
    replace Rb := Lib.hid (Rb.out.below (H6.out))
    replace ROl := Lib.hid (ROl.out.below (H6.out))
    replace ROd := Lib.hid (ROd.out.below (H6.out))
    replace ROe := Lib.hid (ROe.out.below (H6.out))
    replace KU := Lib.hid (KU.out.ownBlk (H6.out))
    replace KV := Lib.hid (KV.out.ownBlk (H6.out))
    replace HW := Lib.hid (HW.out.trans ((H6.out).mono HW.out.size))
    go_wp2_with (first | (refine wpList_load_block rfl 23 (.tmp 3) rfl w.heap.size rfl 23 C _ KC.out Tryd.underlying23 rfl 64 size_block HCs.out ?_) | (refine wpList_store_new rfl 23 (.tmp 16) (.tmp 54) rfl w6.heap.size rfl Y rfl 23 (u8s zero64).toArray (Blk.new _ _ _) 64 size_block HYs.out zero_size HY1.out ?_; intro w7 hk hg hz; have HBN := Lib.hid (new_row hg); have KP := Lib.hid hk; clear hk hg hz; replace KC := Lib.hid (KC.out.ownBlk (HBN.out)); replace Rm := Lib.hid (Rm.out.below (HBN.out)); replace Rb := Lib.hid (Rb.out.below (HBN.out)); replace ROl := Lib.hid (ROl.out.below (HBN.out)); replace ROd := Lib.hid (ROd.out.below (HBN.out)); replace ROe := Lib.hid (ROe.out.below (HBN.out)); replace KU := Lib.hid (KU.out.ownBlk (HBN.out)); replace KV := Lib.hid (KV.out.ownBlk (HBN.out)); replace HW := Lib.hid (HW.out.trans ((HBN.out).mono HW.out.size)); clear HBN))
    refine (HRD2.out _ _ _ c2 ROe.out).mono ?_
    rintro e w8 ⟨rfl, H8⟩
    replace KC := Lib.hid (KC.out.ownBlk (H8.out))
    replace Rm := Lib.hid (Rm.out.below (H8.out))
    replace Rb := Lib.hid (Rb.out.below (H8.out))
    replace ROl := Lib.hid (ROl.out.below (H8.out))
    replace ROd := Lib.hid (ROd.out.below (H8.out))
    replace ROe := Lib.hid (ROe.out.below (H8.out))
    replace KU := Lib.hid (KU.out.ownBlk (H8.out))
    replace KV := Lib.hid (KV.out.ownBlk (H8.out))
    replace KP := Lib.hid (KP.out.ownBlk (H8.out))
    replace HW := Lib.hid (HW.out.trans ((H8.out).mono HW.out.size))
    by_cases hed : ed = 0
    · obtain ⟨hYZ, hpz⟩ := HYZ.out.2 hed
      have hq : (ed != 0) = false := by simp [hed]
      subst hpz
      have HYZ2 := Lib.hid hYZ
      clear hYZ hed HYZ HRD2 HPA HAP HRA HD HRD
      go_wp2_with (refine wpList_store_new rfl 23 (.tmp 18) (.tmp 60) rfl w8.heap.size rfl Z rfl 23 (u8s zero64).toArray (Blk.new _ _ _) 64 size_block HZs.out zero_size HZ1.out ?_; intro w9 hk hg hz; have HBN := Lib.hid (new_row hg); have KQ := Lib.hid hk; clear hk hg hz)
      replace KQ : Hid (Blk w9 w8.heap.size 23 Y) := by rw [HYZ2.out]; exact KQ.out
      replace KC := Lib.hid (KC.out.ownBlk (HBN.out))
      replace Rm := Lib.hid (Rm.out.below (HBN.out))
      replace Rb := Lib.hid (Rb.out.below (HBN.out))
      replace ROl := Lib.hid (ROl.out.below (HBN.out))
      replace ROd := Lib.hid (ROd.out.below (HBN.out))
      replace ROe := Lib.hid (ROe.out.below (HBN.out))
      replace KU := Lib.hid (KU.out.ownBlk (HBN.out))
      replace KV := Lib.hid (KV.out.ownBlk (HBN.out))
      replace KP := Lib.hid (KP.out.ownBlk (HBN.out))
      replace HW := Lib.hid (HW.out.trans ((HBN.out).mono HW.out.size))
      clear HBN HYZ2
      replace KC := Lib.hid (KC.out.ownBlk (below_drew1 w9))
      replace Rm := Lib.hid (Rm.out.below (below_drew1 w9))
      replace Rb := Lib.hid (Rb.out.below (below_drew1 w9))
      replace ROl := Lib.hid (ROl.out.below (below_drew1 w9))
      replace ROd := Lib.hid (ROd.out.below (below_drew1 w9))
      replace ROe := Lib.hid (ROe.out.below (below_drew1 w9))
      replace KU := Lib.hid (KU.out.ownBlk (below_drew1 w9))
      replace KV := Lib.hid (KV.out.ownBlk (below_drew1 w9))
      replace KP := Lib.hid (KP.out.ownBlk (below_drew1 w9))
      replace KQ := Lib.hid (KQ.out.ownBlk (below_drew1 w9))
      have HT := Lib.hid HW.out.drew
      have GL := Lib.hid (HG.out.below HT.out)
      refine wp_region_held_drew (S := SB w9.drew) (by kernel_rfl) (SB.here _) (fun HSB => ?_)
      refine wpAnyH_take (i := 0) (v := ?_) rfl (by kernel_rfl) (by kernel_rfl) (by kernel_rfl) (fun _ _ _ h => h) (Or.inl ⟨by kernel_rfl, by (intro W hW; go_simp; with_reducible rfl)⟩) HSB ?_
      try simp only [Act.put, List.setIfInBounds_toArray, List.set_cons_zero, List.set_cons_succ, List.getElem_toArray, List.getElem_cons_succ, List.getElem_cons_zero]
      refine wpAnyH_take (i := 4) (v := ?_) rfl (by kernel_rfl) (by kernel_rfl) (by kernel_rfl) (fun _ _ _ h => h) (Or.inl ⟨by kernel_rfl, by (intro W hW; go_simp; with_reducible rfl)⟩) HSB ?_
      try simp only [Act.put, List.setIfInBounds_toArray, List.set_cons_zero, List.set_cons_succ, List.getElem_toArray, List.getElem_cons_succ, List.getElem_cons_zero]
      refine wpAnyH_ready (rs := [1]) (by kernel_rfl) (by simp) ?_
      refine AllReadyH.cons rfl (fun K hK => ?_) ?_
      · go_simp
        refine (HGV.out _ ROl.out).mono ?_
        rintro e w5 ⟨A5, c5, rfl, H5⟩
        have HBC := Lib.hid (H5.out.2.2)
        replace HT := Lib.hid (HT.out.trans (HBC.out.mono HT.out.size))
        replace ROl := Lib.hid (ROl.out.below HBC.out)
        replace ROd := Lib.hid (ROd.out.below HBC.out)
        replace ROe := Lib.hid (ROe.out.below HBC.out)
        replace GL := Lib.hid (GL.out.below HBC.out)
        replace KU := Lib.hid (KU.out.ownBlk HBC.out)
        replace KV := Lib.hid (KV.out.ownBlk HBC.out)
        replace KP := Lib.hid (KP.out.ownBlk HBC.out)
        replace KQ := Lib.hid (KQ.out.ownBlk HBC.out)
        replace Rm := Lib.hid (Rm.out.below HBC.out)
        replace Rb := Lib.hid (Rb.out.below HBC.out)
        have HGO := Lib.hid (H5.out.1)
        refine hK.out _ _ (SB.of HSB HBC.out) (fun _ => ?_)
        refine wpAnyH_to (fun W h => SB.mono h HSB HBC.out) _ _ _ _ ?_
        replace HSB := SB.here w5
        try simp only [Act.put, List.setIfInBounds_toArray, List.set_cons_zero, List.set_cons_succ, List.getElem_toArray, List.getElem_cons_succ, List.getElem_cons_zero]
        clear hK K HBC
        refine wpAnyH_ready (rs := [2]) (by kernel_rfl) (by simp) ?_
        refine AllReadyH.cons rfl (fun K hK => ?_) ?_
        · go_simp
          refine (HEN.out _ _ _ _ HGO.out).mono ?_
          rintro e w5 ⟨A6, c6, rfl, H6⟩
          have HBC := Lib.hid (H6.out.2)
          replace HT := Lib.hid (HT.out.trans (HBC.out.mono HT.out.size))
          replace ROl := Lib.hid (ROl.out.below HBC.out)
          replace ROd := Lib.hid (ROd.out.below HBC.out)
          replace ROe := Lib.hid (ROe.out.below HBC.out)
          replace GL := Lib.hid (GL.out.below HBC.out)
          replace KU := Lib.hid (KU.out.ownBlk HBC.out)
          replace KV := Lib.hid (KV.out.ownBlk HBC.out)
          replace KP := Lib.hid (KP.out.ownBlk HBC.out)
          replace KQ := Lib.hid (KQ.out.ownBlk HBC.out)
          replace Rm := Lib.hid (Rm.out.below HBC.out)
          replace Rb := Lib.hid (Rb.out.below HBC.out)
          replace HGO := Lib.hid (HGO.out.below HBC.out)
          have HA := Lib.hid (H6.out.1)
          refine hK.out _ _ (SB.of HSB HBC.out) (fun _ => ?_)
          refine wpAnyH_to (fun W h => SB.mono h HSB HBC.out) _ _ _ _ ?_
          replace HSB := SB.here w5
          try simp only [Act.put, List.setIfInBounds_toArray, List.set_cons_zero, List.set_cons_succ, List.getElem_toArray, List.getElem_cons_succ, List.getElem_cons_zero]
          clear hK K HBC
          refine wpAnyH_take (i := 3) (v := ?_) rfl (by kernel_rfl) (by kernel_rfl) (by kernel_rfl) (fun _ _ _ h => h) (Or.inl ⟨by kernel_rfl, by (intro W hW; have cA := HCE.out _ _ _ c6 (HA.out.below hW); go_simp; with_reducible rfl)⟩) HSB ?_
          try simp only [Act.put, List.setIfInBounds_toArray, List.set_cons_zero, List.set_cons_succ, List.getElem_toArray, List.getElem_cons_succ, List.getElem_cons_zero]
          refine wpAnyH_ready (rs := [5]) (by kernel_rfl) (by simp) ?_
          refine AllReadyH.cons rfl (fun K hK => ?_) ?_
          · go_simp
            refine (HRE.out _ _ _ _ ROl.out).mono ?_
            rintro e w5 ⟨A7, c7, rfl, H7⟩
            have HBC := Lib.hid (H7.out.2)
            replace HT := Lib.hid (HT.out.trans (HBC.out.mono HT.out.size))
            replace ROl := Lib.hid (ROl.out.below HBC.out)
            replace ROd := Lib.hid (ROd.out.below HBC.out)
            replace ROe := Lib.hid (ROe.out.below HBC.out)
            replace GL := Lib.hid (GL.out.below HBC.out)
            replace KU := Lib.hid (KU.out.ownBlk HBC.out)
            replace KV := Lib.hid (KV.out.ownBlk HBC.out)
            replace KP := Lib.hid (KP.out.ownBlk HBC.out)
            replace KQ := Lib.hid (KQ.out.ownBlk HBC.out)
            replace Rm := Lib.hid (Rm.out.below HBC.out)
            replace Rb := Lib.hid (Rb.out.below HBC.out)
            replace HGO := Lib.hid (HGO.out.below HBC.out)
            replace HA := Lib.hid (HA.out.below HBC.out)
            have HB := Lib.hid (H7.out.1)
            refine hK.out _ _ (SB.of HSB HBC.out) (fun _ => ?_)
            refine wpAnyH_to (fun W h => SB.mono h HSB HBC.out) _ _ _ _ ?_
            replace HSB := SB.here w5
            try simp only [Act.put, List.setIfInBounds_toArray, List.set_cons_zero, List.set_cons_succ, List.getElem_toArray, List.getElem_cons_succ, List.getElem_cons_zero]
            clear hK K HBC
            refine wpAnyH_take (i := 6) (v := ?_) rfl (by kernel_rfl) (by kernel_rfl) (by kernel_rfl) (fun _ _ _ h => h) (Or.inl ⟨by kernel_rfl, by (intro W hW; have cB := HCE.out _ _ _ c7 (HB.out.below hW); go_simp; with_reducible rfl)⟩) HSB ?_
            try simp only [Act.put, List.setIfInBounds_toArray, List.set_cons_zero, List.set_cons_succ, List.getElem_toArray, List.getElem_cons_succ, List.getElem_cons_zero]
            refine wpAnyH_take (i := 7) (v := ?_) rfl (by kernel_rfl) (by kernel_rfl) (by kernel_rfl) (fun _ _ _ h => h) (Or.inl ⟨by kernel_rfl, by (intro W hW; go_simp; with_reducible rfl)⟩) HSB ?_
            try simp only [Act.put, List.setIfInBounds_toArray, List.set_cons_zero, List.set_cons_succ, List.getElem_toArray, List.getElem_cons_succ, List.getElem_cons_zero]
            refine wpAnyH_take (i := 8) (v := ?_) rfl (by kernel_rfl) (by kernel_rfl) (by kernel_rfl) (fun _ _ _ h => h) (Or.inl ⟨by kernel_rfl, by (intro W hW; go_simp; with_reducible rfl)⟩) HSB ?_
            try simp only [Act.put, List.setIfInBounds_toArray, List.set_cons_zero, List.set_cons_succ, List.getElem_toArray, List.getElem_cons_succ, List.getElem_cons_zero]
            refine wpAnyH_take (i := 9) (v := ?_) rfl (by kernel_rfl) (by kernel_rfl) (by kernel_rfl) (fun _ _ _ h => h) (Or.inl ⟨by kernel_rfl, by (intro W hW; go_simp; with_reducible rfl)⟩) HSB ?_
            try simp only [Act.put, List.setIfInBounds_toArray, List.set_cons_zero, List.set_cons_succ, List.getElem_toArray, List.getElem_cons_succ, List.getElem_cons_zero]
            refine wpAnyH_take (i := 10) (v := ?_) rfl (by kernel_rfl) (by kernel_rfl) (by kernel_rfl) (fun _ _ _ h => h) (Or.inl ⟨by kernel_rfl, by (intro W hW; go_simp; with_reducible rfl)⟩) HSB ?_
            try simp only [Act.put, List.setIfInBounds_toArray, List.set_cons_zero, List.set_cons_succ, List.getElem_toArray, List.getElem_cons_succ, List.getElem_cons_zero]
            refine wpAnyH_ready (rs := [11]) (by kernel_rfl) (by simp) ?_
            refine AllReadyH.cons rfl (fun K hK => ?_) ?_
            · go_simp
              refine (HSM.out _ _ _ _ _ ROd.out ROe.out).mono ?_
              rintro e w5 ⟨rfl, H8⟩
              have HBC := Lib.hid (below_of_drewN H8)
              replace HT := Lib.hid (HT.out.trans (HBC.out.mono HT.out.size))
              replace ROl := Lib.hid (ROl.out.below HBC.out)
              replace ROd := Lib.hid (ROd.out.below HBC.out)
              replace ROe := Lib.hid (ROe.out.below HBC.out)
              replace GL := Lib.hid (GL.out.below HBC.out)
              replace KU := Lib.hid (KU.out.ownBlk HBC.out)
              replace KV := Lib.hid (KV.out.ownBlk HBC.out)
              replace KP := Lib.hid (KP.out.ownBlk HBC.out)
              replace KQ := Lib.hid (KQ.out.ownBlk HBC.out)
              replace Rm := Lib.hid (Rm.out.below HBC.out)
              replace Rb := Lib.hid (Rb.out.below HBC.out)
              replace HGO := Lib.hid (HGO.out.below HBC.out)
              replace HA := Lib.hid (HA.out.below HBC.out)
              replace HB := Lib.hid (HB.out.below HBC.out)
              refine hK.out _ _ (SB.of HSB HBC.out) (fun _ => ?_)
              refine wpAnyH_to (fun W h => SB.mono h HSB HBC.out) _ _ _ _ ?_
              replace HSB := SB.here w5
              try simp only [Act.put, List.setIfInBounds_toArray, List.set_cons_zero, List.set_cons_succ, List.getElem_toArray, List.getElem_cons_succ, List.getElem_cons_zero]
              clear hK K HBC
              refine wpAnyH_take (i := 12) (v := ?_) rfl (by kernel_rfl) (by kernel_rfl) (by kernel_rfl) (fun _ _ _ h => h) (Or.inl ⟨by kernel_rfl, by (intro W hW; go_simp; with_reducible rfl)⟩) HSB ?_
              try simp only [Act.put, List.setIfInBounds_toArray, List.set_cons_zero, List.set_cons_succ, List.getElem_toArray, List.getElem_cons_succ, List.getElem_cons_zero]
              refine wpAnyH_take (i := 13) (v := ?_) rfl (by kernel_rfl) (by kernel_rfl) (by kernel_rfl) (fun _ _ _ h => h) (Or.inl ⟨by kernel_rfl, by (intro W hW; go_simp; with_reducible rfl)⟩) HSB ?_
              try simp only [Act.put, List.setIfInBounds_toArray, List.set_cons_zero, List.set_cons_succ, List.getElem_toArray, List.getElem_cons_succ, List.getElem_cons_zero]
              refine wpAnyH_take (i := 14) (v := ?_) rfl (by kernel_rfl) (by kernel_rfl) (by kernel_rfl) (fun _ _ _ h => h) (Or.inl ⟨by kernel_rfl, by (intro W hW; go_simp; with_reducible rfl)⟩) HSB ?_
              try simp only [Act.put, List.setIfInBounds_toArray, List.set_cons_zero, List.set_cons_succ, List.getElem_toArray, List.getElem_cons_succ, List.getElem_cons_zero]
              refine wpAnyH_take (i := 16) (v := ?_) rfl (by kernel_rfl) (by kernel_rfl) (by kernel_rfl) (fun _ _ _ h => h) (Or.inl ⟨by kernel_rfl, by (intro W hW; go_simp; with_reducible rfl)⟩) HSB ?_
              try simp only [Act.put, List.setIfInBounds_toArray, List.set_cons_zero, List.set_cons_succ, List.getElem_toArray, List.getElem_cons_succ, List.getElem_cons_zero]
              refine wpAnyH_ready (rs := [15]) (by kernel_rfl) (by simp) ?_
              refine AllReadyH.cons rfl (fun K hK => ?_) ?_
              · go_simp
                refine (HNE.out _ GL.out).mono ?_
                rintro e w5 ⟨rfl, H9⟩
                have HBC := Lib.hid (H9.out)
                replace HT := Lib.hid (HT.out.trans (HBC.out.mono HT.out.size))
                replace ROl := Lib.hid (ROl.out.below HBC.out)
                replace ROd := Lib.hid (ROd.out.below HBC.out)
                replace ROe := Lib.hid (ROe.out.below HBC.out)
                replace GL := Lib.hid (GL.out.below HBC.out)
                replace KU := Lib.hid (KU.out.ownBlk HBC.out)
                replace KV := Lib.hid (KV.out.ownBlk HBC.out)
                replace KP := Lib.hid (KP.out.ownBlk HBC.out)
                replace KQ := Lib.hid (KQ.out.ownBlk HBC.out)
                replace Rm := Lib.hid (Rm.out.below HBC.out)
                replace Rb := Lib.hid (Rb.out.below HBC.out)
                replace HGO := Lib.hid (HGO.out.below HBC.out)
                replace HA := Lib.hid (HA.out.below HBC.out)
                replace HB := Lib.hid (HB.out.below HBC.out)
                refine hK.out _ _ (SB.of HSB HBC.out) (fun _ => ?_)
                refine wpAnyH_to (fun W h => SB.mono h HSB HBC.out) _ _ _ _ ?_
                replace HSB := SB.here w5
                try simp only [Act.put, List.setIfInBounds_toArray, List.set_cons_zero, List.set_cons_succ, List.getElem_toArray, List.getElem_cons_succ, List.getElem_cons_zero]
                clear hK K HBC
                refine wpAnyH_take (i := 17) (v := ?_) rfl (by kernel_rfl) (by kernel_rfl) (by kernel_rfl) (fun _ _ _ h => h) (Or.inl ⟨by kernel_rfl, by (intro W hW; go_simp; with_reducible rfl)⟩) HSB ?_
                try simp only [Act.put, List.setIfInBounds_toArray, List.set_cons_zero, List.set_cons_succ, List.getElem_toArray, List.getElem_cons_succ, List.getElem_cons_zero]
                refine wpAnyH_take (i := 18) (v := ?_) rfl (by kernel_rfl) (by kernel_rfl) (by kernel_rfl) (fun _ _ _ h => h) (Or.inl ⟨by kernel_rfl, by (intro W hW; go_simp; with_reducible rfl)⟩) HSB ?_
                try simp only [Act.put, List.setIfInBounds_toArray, List.set_cons_zero, List.set_cons_succ, List.getElem_toArray, List.getElem_cons_succ, List.getElem_cons_zero]
                refine wpAnyH_take (i := 19) (v := ?_) rfl (by kernel_rfl) (by kernel_rfl) (by kernel_rfl) (fun _ _ _ h => h) (Or.inl ⟨by kernel_rfl, by (intro W hW; go_simp; with_reducible rfl)⟩) HSB ?_
                try simp only [Act.put, List.setIfInBounds_toArray, List.set_cons_zero, List.set_cons_succ, List.getElem_toArray, List.getElem_cons_succ, List.getElem_cons_zero]
                refine wpAnyH_take (i := 20) (v := ?_) rfl (by kernel_rfl) (by kernel_rfl) (by kernel_rfl) (fun _ _ _ h => h) (Or.inl ⟨by kernel_rfl, by (intro W hW; refine run_load_blk 23 (.tmp 12) ?_ gu ?_ (KU.out.own2 hW) Tryd.underlying23 rfl 64 size_block HXs.out <;> rfl)⟩) HSB ?_
                try simp only [Act.put, List.setIfInBounds_toArray, List.set_cons_zero, List.set_cons_succ, List.getElem_toArray, List.getElem_cons_succ, List.getElem_cons_zero]
                refine wpAnyH_take (i := 21) (v := ?_) rfl (by kernel_rfl) (by kernel_rfl) (by kernel_rfl) (fun _ _ _ h => h) (Or.inl ⟨by kernel_rfl, by (intro W hW; refine run_load_blk 23 (.tmp 14) ?_ w4.heap.size ?_ (KV.out.own2 hW) Tryd.underlying23 rfl 64 size_block HXs.out <;> rfl)⟩) HSB ?_
                try simp only [Act.put, List.setIfInBounds_toArray, List.set_cons_zero, List.set_cons_succ, List.getElem_toArray, List.getElem_cons_succ, List.getElem_cons_zero]
                refine wpAnyH_take (i := 22) (v := ?_) rfl (by kernel_rfl) (by kernel_rfl) (by kernel_rfl) (fun _ _ _ h => h) (Or.inl ⟨by kernel_rfl, by (intro W hW; have eq1 := HEX.out W; go_simp; with_reducible rfl)⟩) HSB ?_
                try simp only [Act.put, List.setIfInBounds_toArray, List.set_cons_zero, List.set_cons_succ, List.getElem_toArray, List.getElem_cons_succ, List.getElem_cons_zero]
                refine wpAnyH_take (i := 23) (v := ?_) rfl (by kernel_rfl) (by kernel_rfl) (by kernel_rfl) (fun _ _ _ h => h) (Or.inl ⟨by kernel_rfl, by (intro W hW; go_simp; with_reducible rfl)⟩) HSB ?_
                try simp only [Act.put, List.setIfInBounds_toArray, List.set_cons_zero, List.set_cons_succ, List.getElem_toArray, List.getElem_cons_succ, List.getElem_cons_zero]
                refine wpAnyH_take (i := 24) (v := ?_) rfl (by kernel_rfl) (by kernel_rfl) (by kernel_rfl) (fun _ _ _ h => h) (Or.inl ⟨by kernel_rfl, by (intro W hW; go_simp; with_reducible rfl)⟩) HSB ?_
                try simp only [Act.put, List.setIfInBounds_toArray, List.set_cons_zero, List.set_cons_succ, List.getElem_toArray, List.getElem_cons_succ, List.getElem_cons_zero]
                refine wpAnyH_take (i := 25) (v := ?_) rfl (by kernel_rfl) (by kernel_rfl) (by kernel_rfl) (fun _ _ _ h => h) (Or.inl ⟨by kernel_rfl, by (intro W hW; go_simp; with_reducible rfl)⟩) HSB ?_
                try simp only [Act.put, List.setIfInBounds_toArray, List.set_cons_zero, List.set_cons_succ, List.getElem_toArray, List.getElem_cons_succ, List.getElem_cons_zero]
                refine wpAnyH_take (i := 27) (v := ?_) rfl (by kernel_rfl) (by kernel_rfl) (by kernel_rfl) (fun _ _ _ h => h) (Or.inl ⟨by kernel_rfl, by (intro W hW; go_simp; with_reducible rfl)⟩) HSB ?_
                try simp only [Act.put, List.setIfInBounds_toArray, List.set_cons_zero, List.set_cons_succ, List.getElem_toArray, List.getElem_cons_succ, List.getElem_cons_zero]
                refine wpAnyH_ready (rs := [26]) (by kernel_rfl) (by simp) ?_
                refine AllReadyH.cons rfl (fun K hK => ?_) ?_
                · go_simp
                  refine (HNR.out _ GL.out).mono ?_
                  rintro e w5 ⟨rfl, H10⟩
                  have HBC := Lib.hid (H10.out)
                  replace HT := Lib.hid (HT.out.trans (HBC.out.mono HT.out.size))
                  replace ROl := Lib.hid (ROl.out.below HBC.out)
                  replace ROd := Lib.hid (ROd.out.below HBC.out)
                  replace ROe := Lib.hid (ROe.out.below HBC.out)
                  replace GL := Lib.hid (GL.out.below HBC.out)
                  replace KU := Lib.hid (KU.out.ownBlk HBC.out)
                  replace KV := Lib.hid (KV.out.ownBlk HBC.out)
                  replace KP := Lib.hid (KP.out.ownBlk HBC.out)
                  replace KQ := Lib.hid (KQ.out.ownBlk HBC.out)
                  replace Rm := Lib.hid (Rm.out.below HBC.out)
                  replace Rb := Lib.hid (Rb.out.below HBC.out)
                  replace HGO := Lib.hid (HGO.out.below HBC.out)
                  replace HA := Lib.hid (HA.out.below HBC.out)
                  replace HB := Lib.hid (HB.out.below HBC.out)
                  refine hK.out _ _ (SB.of HSB HBC.out) (fun _ => ?_)
                  refine wpAnyH_to (fun W h => SB.mono h HSB HBC.out) _ _ _ _ ?_
                  replace HSB := SB.here w5
                  try simp only [Act.put, List.setIfInBounds_toArray, List.set_cons_zero, List.set_cons_succ, List.getElem_toArray, List.getElem_cons_succ, List.getElem_cons_zero]
                  clear hK K HBC
                  refine wpAnyH_take (i := 28) (v := ?_) rfl (by kernel_rfl) (by kernel_rfl) (by kernel_rfl) (fun _ _ _ h => h) (Or.inl ⟨by kernel_rfl, by (intro W hW; go_simp; with_reducible rfl)⟩) HSB ?_
                  try simp only [Act.put, List.setIfInBounds_toArray, List.set_cons_zero, List.set_cons_succ, List.getElem_toArray, List.getElem_cons_succ, List.getElem_cons_zero]
                  refine wpAnyH_take (i := 29) (v := ?_) rfl (by kernel_rfl) (by kernel_rfl) (by kernel_rfl) (fun _ _ _ h => h) (Or.inl ⟨by kernel_rfl, by (intro W hW; go_simp; with_reducible rfl)⟩) HSB ?_
                  try simp only [Act.put, List.setIfInBounds_toArray, List.set_cons_zero, List.set_cons_succ, List.getElem_toArray, List.getElem_cons_succ, List.getElem_cons_zero]
                  refine wpAnyH_take (i := 30) (v := ?_) rfl (by kernel_rfl) (by kernel_rfl) (by kernel_rfl) (fun _ _ _ h => h) (Or.inl ⟨by kernel_rfl, by (intro W hW; go_simp; with_reducible rfl)⟩) HSB ?_
                  try simp only [Act.put, List.setIfInBounds_toArray, List.set_cons_zero, List.set_cons_succ, List.getElem_toArray, List.getElem_cons_succ, List.getElem_cons_zero]
                  refine wpAnyH_take (i := 31) (v := ?_) rfl (by kernel_rfl) (by kernel_rfl) (by kernel_rfl) (fun _ _ _ h => h) (Or.inl ⟨by kernel_rfl, by (intro W hW; refine run_load_blk 23 (.tmp 16) ?_ w6.heap.size ?_ (KP.out.own2 hW) Tryd.underlying23 rfl 64 size_block HYs.out <;> rfl)⟩) HSB ?_
                  try simp only [Act.put, List.setIfInBounds_toArray, List.set_cons_zero, List.set_cons_succ, List.getElem_toArray, List.getElem_cons_succ, List.getElem_cons_zero]
                  refine wpAnyH_take (i := 32) (v := ?_) rfl (by kernel_rfl) (by kernel_rfl) (by kernel_rfl) (fun _ _ _ h => h) (Or.inl ⟨by kernel_rfl, by (intro W hW; refine run_load_blk 23 (.tmp 18) ?_ w8.heap.size ?_ (KQ.out.own2 hW) Tryd.underlying23 rfl 64 size_block HYs.out <;> rfl)⟩) HSB ?_
                  try simp only [Act.put, List.setIfInBounds_toArray, List.set_cons_zero, List.set_cons_succ, List.getElem_toArray, List.getElem_cons_succ, List.getElem_cons_zero]
                  refine wpAnyH_take (i := 33) (v := ?_) rfl (by kernel_rfl) (by kernel_rfl) (by kernel_rfl) (fun _ _ _ h => h) (Or.inl ⟨by kernel_rfl, by (intro W hW; have eq2 := HEY.out W; go_simp; with_reducible rfl)⟩) HSB ?_
                  try simp only [Act.put, List.setIfInBounds_toArray, List.set_cons_zero, List.set_cons_succ, List.getElem_toArray, List.getElem_cons_succ, List.getElem_cons_zero]
                  refine wpAnyH_take (i := 34) (v := ?_) rfl (by kernel_rfl) (by kernel_rfl) (by kernel_rfl) (fun _ _ _ h => h) (Or.inl ⟨by kernel_rfl, by (intro W hW; go_simp; with_reducible rfl)⟩) HSB ?_
                  try simp only [Act.put, List.setIfInBounds_toArray, List.set_cons_zero, List.set_cons_succ, List.getElem_toArray, List.getElem_cons_succ, List.getElem_cons_zero]
                  refine wpAnyH_take (i := 35) (v := ?_) rfl (by kernel_rfl) (by kernel_rfl) (by kernel_rfl) (fun _ _ _ h => h) (Or.inl ⟨by kernel_rfl, by (intro W hW; go_simp; with_reducible rfl)⟩) HSB ?_
                  try simp only [Act.put, List.setIfInBounds_toArray, List.set_cons_zero, List.set_cons_succ, List.getElem_toArray, List.getElem_cons_succ, List.getElem_cons_zero]
                  refine wpAnyH_take (i := 36) (v := ?_) rfl (by kernel_rfl) (by kernel_rfl) (by kernel_rfl) (fun _ _ _ h => h) (Or.inl ⟨by kernel_rfl, by (intro W hW; go_simp; with_reducible rfl)⟩) HSB ?_
                  try simp only [Act.put, List.setIfInBounds_toArray, List.set_cons_zero, List.set_cons_succ, List.getElem_toArray, List.getElem_cons_succ, List.getElem_cons_zero]
                  refine wpAnyH_take (i := 38) (v := ?_) rfl (by kernel_rfl) (by kernel_rfl) (by kernel_rfl) (fun _ _ _ h => h) (Or.inl ⟨by kernel_rfl, by (intro W hW; go_simp; with_reducible rfl)⟩) HSB ?_
                  try simp only [Act.put, List.setIfInBounds_toArray, List.set_cons_zero, List.set_cons_succ, List.getElem_toArray, List.getElem_cons_succ, List.getElem_cons_zero]
                  refine wpAnyH_ready (rs := [37]) (by kernel_rfl) (by simp) ?_
                  refine AllReadyH.cons rfl (fun K hK => ?_) ?_
                  · go_simp
                    refine (HNP.out _ GL.out).mono ?_
                    rintro e w5 ⟨rfl, H11⟩
                    have HBC := Lib.hid (H11.out)
                    replace HT := Lib.hid (HT.out.trans (HBC.out.mono HT.out.size))
                    replace ROl := Lib.hid (ROl.out.below HBC.out)
                    replace ROd := Lib.hid (ROd.out.below HBC.out)
                    replace ROe := Lib.hid (ROe.out.below HBC.out)
                    replace GL := Lib.hid (GL.out.below HBC.out)
                    replace KU := Lib.hid (KU.out.ownBlk HBC.out)
                    replace KV := Lib.hid (KV.out.ownBlk HBC.out)
                    replace KP := Lib.hid (KP.out.ownBlk HBC.out)
                    replace KQ := Lib.hid (KQ.out.ownBlk HBC.out)
                    replace Rm := Lib.hid (Rm.out.below HBC.out)
                    replace Rb := Lib.hid (Rb.out.below HBC.out)
                    replace HGO := Lib.hid (HGO.out.below HBC.out)
                    replace HA := Lib.hid (HA.out.below HBC.out)
                    replace HB := Lib.hid (HB.out.below HBC.out)
                    refine hK.out _ _ (SB.of HSB HBC.out) (fun _ => ?_)
                    refine wpAnyH_to (fun W h => SB.mono h HSB HBC.out) _ _ _ _ ?_
                    replace HSB := SB.here w5
                    try simp only [Act.put, List.setIfInBounds_toArray, List.set_cons_zero, List.set_cons_succ, List.getElem_toArray, List.getElem_cons_succ, List.getElem_cons_zero]
                    clear hK K HBC
                    refine wpAnyH_take (i := 39) (v := ?_) rfl (by kernel_rfl) (by kernel_rfl) (by kernel_rfl) (fun _ _ _ h => h) (Or.inl ⟨by kernel_rfl, by (intro W hW; go_simp; with_reducible rfl)⟩) HSB ?_
                    try simp only [Act.put, List.setIfInBounds_toArray, List.set_cons_zero, List.set_cons_succ, List.getElem_toArray, List.getElem_cons_succ, List.getElem_cons_zero]
                    refine wpAnyH_take (i := 40) (v := ?_) rfl (by kernel_rfl) (by kernel_rfl) (by kernel_rfl) (fun _ _ _ h => h) (Or.inl ⟨by kernel_rfl, by (intro W hW; go_simp; with_reducible rfl)⟩) HSB ?_
                    try simp only [Act.put, List.setIfInBounds_toArray, List.set_cons_zero, List.set_cons_succ, List.getElem_toArray, List.getElem_cons_succ, List.getElem_cons_zero]
                    refine wpAnyH_take (i := 41) (v := ?_) rfl (by kernel_rfl) (by kernel_rfl) (by kernel_rfl) (fun _ _ _ h => h) (Or.inl ⟨by kernel_rfl, by (intro W hW; go_simp; with_reducible rfl)⟩) HSB ?_
                    try simp only [Act.put, List.setIfInBounds_toArray, List.set_cons_zero, List.set_cons_succ, List.getElem_toArray, List.getElem_cons_succ, List.getElem_cons_zero]
                    refine wpAnyH_take (i := 42) (v := ?_) rfl (by kernel_rfl) (by kernel_rfl) (by kernel_rfl) (fun _ _ _ h => h) (Or.inl ⟨by kernel_rfl, by (intro W hW; go_simp; with_reducible rfl)⟩) HSB ?_
                    try simp only [Act.put, List.setIfInBounds_toArray, List.set_cons_zero, List.set_cons_succ, List.getElem_toArray, List.getElem_cons_succ, List.getElem_cons_zero]
                    refine wpAnyH_take (i := 43) (v := ?_) rfl (by kernel_rfl) (by kernel_rfl) (by kernel_rfl) (fun _ _ _ h => h) (Or.inl ⟨by kernel_rfl, by (intro W hW; have cm1 := HCT.out _ _ _ cm (Rm.out.below hW); go_simp; with_reducible rfl)⟩) HSB ?_
                    try simp only [Act.put, List.setIfInBounds_toArray, List.set_cons_zero, List.set_cons_succ, List.getElem_toArray, List.getElem_cons_succ, List.getElem_cons_zero]
                    refine wpAnyH_take (i := 44) (v := ?_) rfl (by kernel_rfl) (by kernel_rfl) (by kernel_rfl) (fun _ _ _ h => h) (Or.inl ⟨by kernel_rfl, by (intro W hW; go_simp; with_reducible rfl)⟩) HSB ?_
                    try simp only [Act.put, List.setIfInBounds_toArray, List.set_cons_zero, List.set_cons_succ, List.getElem_toArray, List.getElem_cons_succ, List.getElem_cons_zero]
                    refine wpAnyH_take (i := 45) (v := ?_) rfl (by kernel_rfl) (by kernel_rfl) (by kernel_rfl) (fun _ _ _ h => h) (Or.inl ⟨by kernel_rfl, by (intro W hW; have cb1 := HCT.out _ _ _ cb (Rb.out.below hW); go_simp; with_reducible rfl)⟩) HSB ?_
                    try simp only [Act.put, List.setIfInBounds_toArray, List.set_cons_zero, List.set_cons_succ, List.getElem_toArray, List.getElem_cons_succ, List.getElem_cons_zero]
                    refine wpAnyH_take (i := 46) (v := ?_) rfl (by kernel_rfl) (by kernel_rfl) (by kernel_rfl) (fun _ _ _ h => h) (Or.inl ⟨by kernel_rfl, by (intro W hW; go_simp; with_reducible rfl)⟩) HSB ?_
                    try simp only [Act.put, List.setIfInBounds_toArray, List.set_cons_zero, List.set_cons_succ, List.getElem_toArray, List.getElem_cons_succ, List.getElem_cons_zero]
                    refine wpAnyH_take (i := 47) (v := ?_) rfl (by kernel_rfl) (by kernel_rfl) (by kernel_rfl) (fun _ _ _ h => h) (Or.inl ⟨by kernel_rfl, by (intro W hW; go_simp; with_reducible rfl)⟩) HSB ?_
                    try simp only [Act.put, List.setIfInBounds_toArray, List.set_cons_zero, List.set_cons_succ, List.getElem_toArray, List.getElem_cons_succ, List.getElem_cons_zero]
                    refine wpAnyH_take (i := 48) (v := ?_) rfl (by kernel_rfl) (by kernel_rfl) (by kernel_rfl) (fun _ _ _ h => h) (Or.inl ⟨by kernel_rfl, by (intro W hW; go_simp; with_reducible rfl)⟩) HSB ?_
                    try simp only [Act.put, List.setIfInBounds_toArray, List.set_cons_zero, List.set_cons_succ, List.getElem_toArray, List.getElem_cons_succ, List.getElem_cons_zero]
                    refine wpAnyH_ready (rs := [49]) (by kernel_rfl) (by simp) ?_
                    refine AllReadyH.cons rfl (fun K hK => ?_) ?_
                    · go_simp
                      refine (sure_any _).mono ?_
                      rintro e w5 ⟨rfl, H12⟩
                      have HBC := Lib.hid (H12.out)
                      replace HT := Lib.hid (HT.out.trans (HBC.out.mono HT.out.size))
                      replace ROl := Lib.hid (ROl.out.below HBC.out)
                      replace ROd := Lib.hid (ROd.out.below HBC.out)
                      replace ROe := Lib.hid (ROe.out.below HBC.out)
                      replace GL := Lib.hid (GL.out.below HBC.out)
                      replace KU := Lib.hid (KU.out.ownBlk HBC.out)
                      replace KV := Lib.hid (KV.out.ownBlk HBC.out)
                      replace KP := Lib.hid (KP.out.ownBlk HBC.out)
                      replace KQ := Lib.hid (KQ.out.ownBlk HBC.out)
                      replace Rm := Lib.hid (Rm.out.below HBC.out)
                      replace Rb := Lib.hid (Rb.out.below HBC.out)
                      replace HGO := Lib.hid (HGO.out.below HBC.out)
                      replace HA := Lib.hid (HA.out.below HBC.out)
                      replace HB := Lib.hid (HB.out.below HBC.out)
                      refine hK.out _ _ (SB.of HSB HBC.out) (fun _ => ?_)
                      refine wpAnyH_to (fun W h => SB.mono h HSB HBC.out) _ _ _ _ ?_
                      replace HSB := SB.here w5
                      try simp only [Act.put, List.setIfInBounds_toArray, List.set_cons_zero, List.set_cons_succ, List.getElem_toArray, List.getElem_cons_succ, List.getElem_cons_zero]
                      clear hK K HBC
                      refine wpAnyH_take (i := 50) (v := ?_) rfl (by kernel_rfl) (by kernel_rfl) (by kernel_rfl) (fun _ _ _ h => h) (Or.inl ⟨by kernel_rfl, by (intro W hW; go_simp; with_reducible rfl)⟩) HSB ?_
                      try simp only [Act.put, List.setIfInBounds_toArray, List.set_cons_zero, List.set_cons_succ, List.getElem_toArray, List.getElem_cons_succ, List.getElem_cons_zero]
                      refine wpAnyH_take (i := 51) (v := ?_) rfl (by kernel_rfl) (by kernel_rfl) (by kernel_rfl) (fun _ _ _ h => h) (Or.inl ⟨by kernel_rfl, by (intro W hW; go_simp; with_reducible rfl)⟩) HSB ?_
                      try simp only [Act.put, List.setIfInBounds_toArray, List.set_cons_zero, List.set_cons_succ, List.getElem_toArray, List.getElem_cons_succ, List.getElem_cons_zero]
                      refine wpAnyH_done (by kernel_rfl) ?_ _
                      go_wp2_with fail
                      go_ret
                      exact ⟨rfl, HT.out⟩
                    exact AllReadyH.nil
                  exact AllReadyH.nil
                exact AllReadyH.nil
              exact AllReadyH.nil
            exact AllReadyH.nil
          exact AllReadyH.nil
        exact AllReadyH.nil
      exact AllReadyH.nil
    · obtain ⟨hYZ, hpz⟩ := HYZ.out.1 hed
      have hq : (ed != 0) = true := by simp [hed]
      have HYZ2 := Lib.hid hYZ
      have HED := Lib.hid hpz
      clear hYZ hed HYZ HRD2 HPA HAP HRA HD HRD hpz
      go_wp2_with (first | (refine wpList_store_new rfl 23 (.tmp 18) (.tmp 64) rfl w8.heap.size rfl (u8s zero64).toArray rfl 23 Z KQ.out 64 size_block zero_size HZs.out (u8s_one' _) ?_; intro w10 hk hg hz; have HBN2 : Hid (Below w8.heap.size w8 w10) := HBN.out.grown hg HBN.out.size (fun k hk => by cases hk; exact Nat.le_refl _); have KQ2 := Lib.hid hk; clear hk hg hz) | (refine wpList_store_new rfl 23 (.tmp 18) (.tmp 60) rfl w8.heap.size rfl Z rfl 23 (u8s zero64).toArray (Blk.new _ _ _) 64 size_block HZs.out zero_size HZ1.out ?_; intro w9 hk hg hz; have HBN := Lib.hid (new_row hg); have KQ := Lib.hid hk; clear hk hg hz))
      replace KQ : Hid (Blk w10 w8.heap.size 23 Y) := by rw [HYZ2.out]; exact KQ2.out
      clear KQ2 HBN HYZ2
      replace KC := Lib.hid (KC.out.ownBlk (HBN2.out))
      replace Rm := Lib.hid (Rm.out.below (HBN2.out))
      replace Rb := Lib.hid (Rb.out.below (HBN2.out))
      replace ROl := Lib.hid (ROl.out.below (HBN2.out))
      replace ROd := Lib.hid (ROd.out.below (HBN2.out))
      replace ROe := Lib.hid (ROe.out.below (HBN2.out))
      replace KU := Lib.hid (KU.out.ownBlk (HBN2.out))
      replace KV := Lib.hid (KV.out.ownBlk (HBN2.out))
      replace KP := Lib.hid (KP.out.ownBlk (HBN2.out))
      replace HW := Lib.hid (HW.out.trans ((HBN2.out).mono HW.out.size))
      clear HBN2
      replace KC := Lib.hid (KC.out.ownBlk (below_drew1 w10))
      replace Rm := Lib.hid (Rm.out.below (below_drew1 w10))
      replace Rb := Lib.hid (Rb.out.below (below_drew1 w10))
      replace ROl := Lib.hid (ROl.out.below (below_drew1 w10))
      replace ROd := Lib.hid (ROd.out.below (below_drew1 w10))
      replace ROe := Lib.hid (ROe.out.below (below_drew1 w10))
      replace KU := Lib.hid (KU.out.ownBlk (below_drew1 w10))
      replace KV := Lib.hid (KV.out.ownBlk (below_drew1 w10))
      replace KP := Lib.hid (KP.out.ownBlk (below_drew1 w10))
      replace KQ := Lib.hid (KQ.out.ownBlk (below_drew1 w10))
      have HT := Lib.hid HW.out.drew
      have GL := Lib.hid (HG.out.below HT.out)
      refine wp_region_held_drew (S := SB w10.drew) (by kernel_rfl) (SB.here _) (fun HSB => ?_)
      refine wpAnyH_take (i := 0) (v := ?_) rfl (by kernel_rfl) (by kernel_rfl) (by kernel_rfl) (fun _ _ _ h => h) (Or.inl ⟨by kernel_rfl, by (intro W hW; go_simp; with_reducible rfl)⟩) HSB ?_
      try simp only [Act.put, List.setIfInBounds_toArray, List.set_cons_zero, List.set_cons_succ, List.getElem_toArray, List.getElem_cons_succ, List.getElem_cons_zero]
      refine wpAnyH_take (i := 4) (v := ?_) rfl (by kernel_rfl) (by kernel_rfl) (by kernel_rfl) (fun _ _ _ h => h) (Or.inl ⟨by kernel_rfl, by (intro W hW; go_simp; with_reducible rfl)⟩) HSB ?_
      try simp only [Act.put, List.setIfInBounds_toArray, List.set_cons_zero, List.set_cons_succ, List.getElem_toArray, List.getElem_cons_succ, List.getElem_cons_zero]
      refine wpAnyH_ready (rs := [1]) (by kernel_rfl) (by simp) ?_
      refine AllReadyH.cons rfl (fun K hK => ?_) ?_
      · go_simp
        refine (HGV.out _ ROl.out).mono ?_
        rintro e w5 ⟨A5, c5, rfl, H5⟩
        have HBC := Lib.hid (H5.out.2.2)
        replace HT := Lib.hid (HT.out.trans (HBC.out.mono HT.out.size))
        replace ROl := Lib.hid (ROl.out.below HBC.out)
        replace ROd := Lib.hid (ROd.out.below HBC.out)
        replace ROe := Lib.hid (ROe.out.below HBC.out)
        replace GL := Lib.hid (GL.out.below HBC.out)
        replace KU := Lib.hid (KU.out.ownBlk HBC.out)
        replace KV := Lib.hid (KV.out.ownBlk HBC.out)
        replace KP := Lib.hid (KP.out.ownBlk HBC.out)
        replace KQ := Lib.hid (KQ.out.ownBlk HBC.out)
        replace Rm := Lib.hid (Rm.out.below HBC.out)
        replace Rb := Lib.hid (Rb.out.below HBC.out)
        have HGO := Lib.hid (H5.out.1)
        refine hK.out _ _ (SB.of HSB HBC.out) (fun _ => ?_)
        refine wpAnyH_to (fun W h => SB.mono h HSB HBC.out) _ _ _ _ ?_
        replace HSB := SB.here w5
        try simp only [Act.put, List.setIfInBounds_toArray, List.set_cons_zero, List.set_cons_succ, List.getElem_toArray, List.getElem_cons_succ, List.getElem_cons_zero]
        clear hK K HBC
        refine wpAnyH_ready (rs := [2]) (by kernel_rfl) (by simp) ?_
        refine AllReadyH.cons rfl (fun K hK => ?_) ?_
        · go_simp
          refine (HEN.out _ _ _ _ HGO.out).mono ?_
          rintro e w5 ⟨A6, c6, rfl, H6⟩
          have HBC := Lib.hid (H6.out.2)
          replace HT := Lib.hid (HT.out.trans (HBC.out.mono HT.out.size))
          replace ROl := Lib.hid (ROl.out.below HBC.out)
          replace ROd := Lib.hid (ROd.out.below HBC.out)
          replace ROe := Lib.hid (ROe.out.below HBC.out)
          replace GL := Lib.hid (GL.out.below HBC.out)
          replace KU := Lib.hid (KU.out.ownBlk HBC.out)
          replace KV := Lib.hid (KV.out.ownBlk HBC.out)
          replace KP := Lib.hid (KP.out.ownBlk HBC.out)
          replace KQ := Lib.hid (KQ.out.ownBlk HBC.out)
          replace Rm := Lib.hid (Rm.out.below HBC.out)
          replace Rb := Lib.hid (Rb.out.below HBC.out)
          replace HGO := Lib.hid (HGO.out.below HBC.out)
          have HA := Lib.hid (H6.out.1)
          refine hK.out _ _ (SB.of HSB HBC.out) (fun _ => ?_)
          refine wpAnyH_to (fun W h => SB.mono h HSB HBC.out) _ _ _ _ ?_
          replace HSB := SB.here w5
          try simp only [Act.put, List.setIfInBounds_toArray, List.set_cons_zero, List.set_cons_succ, List.getElem_toArray, List.getElem_cons_succ, List.getElem_cons_zero]
          clear hK K HBC
          refine wpAnyH_take (i := 3) (v := ?_) rfl (by kernel_rfl) (by kernel_rfl) (by kernel_rfl) (fun _ _ _ h => h) (Or.inl ⟨by kernel_rfl, by (intro W hW; have cA := HCE.out _ _ _ c6 (HA.out.below hW); go_simp; with_reducible rfl)⟩) HSB ?_
          try simp only [Act.put, List.setIfInBounds_toArray, List.set_cons_zero, List.set_cons_succ, List.getElem_toArray, List.getElem_cons_succ, List.getElem_cons_zero]
          refine wpAnyH_ready (rs := [5]) (by kernel_rfl) (by simp) ?_
          refine AllReadyH.cons rfl (fun K hK => ?_) ?_
          · go_simp
            refine (HRE.out _ _ _ _ ROl.out).mono ?_
            rintro e w5 ⟨A7, c7, rfl, H7⟩
            have HBC := Lib.hid (H7.out.2)
            replace HT := Lib.hid (HT.out.trans (HBC.out.mono HT.out.size))
            replace ROl := Lib.hid (ROl.out.below HBC.out)
            replace ROd := Lib.hid (ROd.out.below HBC.out)
            replace ROe := Lib.hid (ROe.out.below HBC.out)
            replace GL := Lib.hid (GL.out.below HBC.out)
            replace KU := Lib.hid (KU.out.ownBlk HBC.out)
            replace KV := Lib.hid (KV.out.ownBlk HBC.out)
            replace KP := Lib.hid (KP.out.ownBlk HBC.out)
            replace KQ := Lib.hid (KQ.out.ownBlk HBC.out)
            replace Rm := Lib.hid (Rm.out.below HBC.out)
            replace Rb := Lib.hid (Rb.out.below HBC.out)
            replace HGO := Lib.hid (HGO.out.below HBC.out)
            replace HA := Lib.hid (HA.out.below HBC.out)
            have HB := Lib.hid (H7.out.1)
            refine hK.out _ _ (SB.of HSB HBC.out) (fun _ => ?_)
            refine wpAnyH_to (fun W h => SB.mono h HSB HBC.out) _ _ _ _ ?_
            replace HSB := SB.here w5
            try simp only [Act.put, List.setIfInBounds_toArray, List.set_cons_zero, List.set_cons_succ, List.getElem_toArray, List.getElem_cons_succ, List.getElem_cons_zero]
            clear hK K HBC
            refine wpAnyH_take (i := 6) (v := ?_) rfl (by kernel_rfl) (by kernel_rfl) (by kernel_rfl) (fun _ _ _ h => h) (Or.inl ⟨by kernel_rfl, by (intro W hW; have cB := HCE.out _ _ _ c7 (HB.out.below hW); go_simp; with_reducible rfl)⟩) HSB ?_
            try simp only [Act.put, List.setIfInBounds_toArray, List.set_cons_zero, List.set_cons_succ, List.getElem_toArray, List.getElem_cons_succ, List.getElem_cons_zero]
            refine wpAnyH_take (i := 7) (v := ?_) rfl (by kernel_rfl) (by kernel_rfl) (by kernel_rfl) (fun _ _ _ h => h) (Or.inl ⟨by kernel_rfl, by (intro W hW; go_simp; with_reducible rfl)⟩) HSB ?_
            try simp only [Act.put, List.setIfInBounds_toArray, List.set_cons_zero, List.set_cons_succ, List.getElem_toArray, List.getElem_cons_succ, List.getElem_cons_zero]
            refine wpAnyH_take (i := 8) (v := ?_) rfl (by kernel_rfl) (by kernel_rfl) (by kernel_rfl) (fun _ _ _ h => h) (Or.inl ⟨by kernel_rfl, by (intro W hW; go_simp; with_reducible rfl)⟩) HSB ?_
            try simp only [Act.put, List.setIfInBounds_toArray, List.set_cons_zero, List.set_cons_succ, List.getElem_toArray, List.getElem_cons_succ, List.getElem_cons_zero]
            refine wpAnyH_take (i := 9) (v := ?_) rfl (by kernel_rfl) (by kernel_rfl) (by kernel_rfl) (fun _ _ _ h => h) (Or.inl ⟨by kernel_rfl, by (intro W hW; go_simp; with_reducible rfl)⟩) HSB ?_
            try simp only [Act.put, List.setIfInBounds_toArray, List.set_cons_zero, List.set_cons_succ, List.getElem_toArray, List.getElem_cons_succ, List.getElem_cons_zero]
            refine wpAnyH_take (i := 10) (v := ?_) rfl (by kernel_rfl) (by kernel_rfl) (by kernel_rfl) (fun _ _ _ h => h) (Or.inl ⟨by kernel_rfl, by (intro W hW; go_simp; with_reducible rfl)⟩) HSB ?_
            try simp only [Act.put, List.setIfInBounds_toArray, List.set_cons_zero, List.set_cons_succ, List.getElem_toArray, List.getElem_cons_succ, List.getElem_cons_zero]
            refine wpAnyH_ready (rs := [11]) (by kernel_rfl) (by simp) ?_
            refine AllReadyH.cons rfl (fun K hK => ?_) ?_
            · go_simp
              refine (HSM.out _ _ _ _ _ ROd.out ROe.out).mono ?_
              rintro e w5 ⟨rfl, H8⟩
              have HBC := Lib.hid (below_of_drewN H8)
              replace HT := Lib.hid (HT.out.trans (HBC.out.mono HT.out.size))
              replace ROl := Lib.hid (ROl.out.below HBC.out)
              replace ROd := Lib.hid (ROd.out.below HBC.out)
              replace ROe := Lib.hid (ROe.out.below HBC.out)
              replace GL := Lib.hid (GL.out.below HBC.out)
              replace KU := Lib.hid (KU.out.ownBlk HBC.out)
              replace KV := Lib.hid (KV.out.ownBlk HBC.out)
              replace KP := Lib.hid (KP.out.ownBlk HBC.out)
              replace KQ := Lib.hid (KQ.out.ownBlk HBC.out)
              replace Rm := Lib.hid (Rm.out.below HBC.out)
              replace Rb := Lib.hid (Rb.out.below HBC.out)
              replace HGO := Lib.hid (HGO.out.below HBC.out)
              replace HA := Lib.hid (HA.out.below HBC.out)
              replace HB := Lib.hid (HB.out.below HBC.out)
              refine hK.out _ _ (SB.of HSB HBC.out) (fun _ => ?_)
              refine wpAnyH_to (fun W h => SB.mono h HSB HBC.out) _ _ _ _ ?_
              replace HSB := SB.here w5
              try simp only [Act.put, List.setIfInBounds_toArray, List.set_cons_zero, List.set_cons_succ, List.getElem_toArray, List.getElem_cons_succ, List.getElem_cons_zero]
              clear hK K HBC
              refine wpAnyH_take (i := 12) (v := ?_) rfl (by kernel_rfl) (by kernel_rfl) (by kernel_rfl) (fun _ _ _ h => h) (Or.inl ⟨by kernel_rfl, by (intro W hW; go_simp; with_reducible rfl)⟩) HSB ?_
              try simp only [Act.put, List.setIfInBounds_toArray, List.set_cons_zero, List.set_cons_succ, List.getElem_toArray, List.getElem_cons_succ, List.getElem_cons_zero]
              refine wpAnyH_take (i := 13) (v := ?_) rfl (by kernel_rfl) (by kernel_rfl) (by kernel_rfl) (fun _ _ _ h => h) (Or.inl ⟨by kernel_rfl, by (intro W hW; go_simp; with_reducible rfl)⟩) HSB ?_
              try simp only [Act.put, List.setIfInBounds_toArray, List.set_cons_zero, List.set_cons_succ, List.getElem_toArray, List.getElem_cons_succ, List.getElem_cons_zero]
              refine wpAnyH_take (i := 14) (v := ?_) rfl (by kernel_rfl) (by kernel_rfl) (by kernel_rfl) (fun _ _ _ h => h) (Or.inl ⟨by kernel_rfl, by (intro W hW; go_simp; with_reducible rfl)⟩) HSB ?_
              try simp only [Act.put, List.setIfInBounds_toArray, List.set_cons_zero, List.set_cons_succ, List.getElem_toArray, List.getElem_cons_succ, List.getElem_cons_zero]
              refine wpAnyH_take (i := 16) (v := ?_) rfl (by kernel_rfl) (by kernel_rfl) (by kernel_rfl) (fun _ _ _ h => h) (Or.inl ⟨by kernel_rfl, by (intro W hW; go_simp; with_reducible rfl)⟩) HSB ?_
              try simp only [Act.put, List.setIfInBounds_toArray, List.set_cons_zero, List.set_cons_succ, List.getElem_toArray, List.getElem_cons_succ, List.getElem_cons_zero]
              refine wpAnyH_ready (rs := [15]) (by kernel_rfl) (by simp) ?_
              refine AllReadyH.cons rfl (fun K hK => ?_) ?_
              · go_simp
                refine (HNE.out _ GL.out).mono ?_
                rintro e w5 ⟨rfl, H9⟩
                have HBC := Lib.hid (H9.out)
                replace HT := Lib.hid (HT.out.trans (HBC.out.mono HT.out.size))
                replace ROl := Lib.hid (ROl.out.below HBC.out)
                replace ROd := Lib.hid (ROd.out.below HBC.out)
                replace ROe := Lib.hid (ROe.out.below HBC.out)
                replace GL := Lib.hid (GL.out.below HBC.out)
                replace KU := Lib.hid (KU.out.ownBlk HBC.out)
                replace KV := Lib.hid (KV.out.ownBlk HBC.out)
                replace KP := Lib.hid (KP.out.ownBlk HBC.out)
                replace KQ := Lib.hid (KQ.out.ownBlk HBC.out)
                replace Rm := Lib.hid (Rm.out.below HBC.out)
                replace Rb := Lib.hid (Rb.out.below HBC.out)
                replace HGO := Lib.hid (HGO.out.below HBC.out)
                replace HA := Lib.hid (HA.out.below HBC.out)
                replace HB := Lib.hid (HB.out.below HBC.out)
                refine hK.out _ _ (SB.of HSB HBC.out) (fun _ => ?_)
                refine wpAnyH_to (fun W h => SB.mono h HSB HBC.out) _ _ _ _ ?_
                replace HSB := SB.here w5
                try simp only [Act.put, List.setIfInBounds_toArray, List.set_cons_zero, List.set_cons_succ, List.getElem_toArray, List.getElem_cons_succ, List.getElem_cons_zero]
                clear hK K HBC
                refine wpAnyH_take (i := 17) (v := ?_) rfl (by kernel_rfl) (by kernel_rfl) (by kernel_rfl) (fun _ _ _ h => h) (Or.inl ⟨by kernel_rfl, by (intro W hW; go_simp; with_reducible rfl)⟩) HSB ?_
                try simp only [Act.put, List.setIfInBounds_toArray, List.set_cons_zero, List.set_cons_succ, List.getElem_toArray, List.getElem_cons_succ, List.getElem_cons_zero]
                refine wpAnyH_take (i := 18) (v := ?_) rfl (by kernel_rfl) (by kernel_rfl) (by kernel_rfl) (fun _ _ _ h => h) (Or.inl ⟨by kernel_rfl, by (intro W hW; go_simp; with_reducible rfl)⟩) HSB ?_
                try simp only [Act.put, List.setIfInBounds_toArray, List.set_cons_zero, List.set_cons_succ, List.getElem_toArray, List.getElem_cons_succ, List.getElem_cons_zero]
                refine wpAnyH_take (i := 19) (v := ?_) rfl (by kernel_rfl) (by kernel_rfl) (by kernel_rfl) (fun _ _ _ h => h) (Or.inl ⟨by kernel_rfl, by (intro W hW; go_simp; with_reducible rfl)⟩) HSB ?_
                try simp only [Act.put, List.setIfInBounds_toArray, List.set_cons_zero, List.set_cons_succ, List.getElem_toArray, List.getElem_cons_succ, List.getElem_cons_zero]
                refine wpAnyH_take (i := 20) (v := ?_) rfl (by kernel_rfl) (by kernel_rfl) (by kernel_rfl) (fun _ _ _ h => h) (Or.inl ⟨by kernel_rfl, by (intro W hW; refine run_load_blk 23 (.tmp 12) ?_ gu ?_ (KU.out.own2 hW) Tryd.underlying23 rfl 64 size_block HXs.out <;> rfl)⟩) HSB ?_
                try simp only [Act.put, List.setIfInBounds_toArray, List.set_cons_zero, List.set_cons_succ, List.getElem_toArray, List.getElem_cons_succ, List.getElem_cons_zero]
                refine wpAnyH_take (i := 21) (v := ?_) rfl (by kernel_rfl) (by kernel_rfl) (by kernel_rfl) (fun _ _ _ h => h) (Or.inl ⟨by kernel_rfl, by (intro W hW; refine run_load_blk 23 (.tmp 14) ?_ w4.heap.size ?_ (KV.out.own2 hW) Tryd.underlying23 rfl 64 size_block HXs.out <;> rfl)⟩) HSB ?_
                try simp only [Act.put, List.setIfInBounds_toArray, List.set_cons_zero, List.set_cons_succ, List.getElem_toArray, List.getElem_cons_succ, List.getElem_cons_zero]
                refine wpAnyH_take (i := 22) (v := ?_) rfl (by kernel_rfl) (by kernel_rfl) (by kernel_rfl) (fun _ _ _ h => h) (Or.inl ⟨by kernel_rfl, by (intro W hW; have eq1 := HEX.out W; go_simp; with_reducible rfl)⟩) HSB ?_
                try simp only [Act.put, List.setIfInBounds_toArray, List.set_cons_zero, List.set_cons_succ, List.getElem_toArray, List.getElem_cons_succ, List.getElem_cons_zero]
                refine wpAnyH_take (i := 23) (v := ?_) rfl (by kernel_rfl) (by kernel_rfl) (by kernel_rfl) (fun _ _ _ h => h) (Or.inl ⟨by kernel_rfl, by (intro W hW; go_simp; with_reducible rfl)⟩) HSB ?_
                try simp only [Act.put, List.setIfInBounds_toArray, List.set_cons_zero, List.set_cons_succ, List.getElem_toArray, List.getElem_cons_succ, List.getElem_cons_zero]
                refine wpAnyH_take (i := 24) (v := ?_) rfl (by kernel_rfl) (by kernel_rfl) (by kernel_rfl) (fun _ _ _ h => h) (Or.inl ⟨by kernel_rfl, by (intro W hW; go_simp; with_reducible rfl)⟩) HSB ?_
                try simp only [Act.put, List.setIfInBounds_toArray, List.set_cons_zero, List.set_cons_succ, List.getElem_toArray, List.getElem_cons_succ, List.getElem_cons_zero]
                refine wpAnyH_take (i := 25) (v := ?_) rfl (by kernel_rfl) (by kernel_rfl) (by kernel_rfl) (fun _ _ _ h => h) (Or.inl ⟨by kernel_rfl, by (intro W hW; go_simp; with_reducible rfl)⟩) HSB ?_
                try simp only [Act.put, List.setIfInBounds_toArray, List.set_cons_zero, List.set_cons_succ, List.getElem_toArray, List.getElem_cons_succ, List.getElem_cons_zero]
                refine wpAnyH_take (i := 27) (v := ?_) rfl (by kernel_rfl) (by kernel_rfl) (by kernel_rfl) (fun _ _ _ h => h) (Or.inl ⟨by kernel_rfl, by (intro W hW; go_simp; with_reducible rfl)⟩) HSB ?_
                try simp only [Act.put, List.setIfInBounds_toArray, List.set_cons_zero, List.set_cons_succ, List.getElem_toArray, List.getElem_cons_succ, List.getElem_cons_zero]
                refine wpAnyH_ready (rs := [26]) (by kernel_rfl) (by simp) ?_
                refine AllReadyH.cons rfl (fun K hK => ?_) ?_
                · go_simp
                  refine (HNR.out _ GL.out).mono ?_
                  rintro e w5 ⟨rfl, H10⟩
                  have HBC := Lib.hid (H10.out)
                  replace HT := Lib.hid (HT.out.trans (HBC.out.mono HT.out.size))
                  replace ROl := Lib.hid (ROl.out.below HBC.out)
                  replace ROd := Lib.hid (ROd.out.below HBC.out)
                  replace ROe := Lib.hid (ROe.out.below HBC.out)
                  replace GL := Lib.hid (GL.out.below HBC.out)
                  replace KU := Lib.hid (KU.out.ownBlk HBC.out)
                  replace KV := Lib.hid (KV.out.ownBlk HBC.out)
                  replace KP := Lib.hid (KP.out.ownBlk HBC.out)
                  replace KQ := Lib.hid (KQ.out.ownBlk HBC.out)
                  replace Rm := Lib.hid (Rm.out.below HBC.out)
                  replace Rb := Lib.hid (Rb.out.below HBC.out)
                  replace HGO := Lib.hid (HGO.out.below HBC.out)
                  replace HA := Lib.hid (HA.out.below HBC.out)
                  replace HB := Lib.hid (HB.out.below HBC.out)
                  refine hK.out _ _ (SB.of HSB HBC.out) (fun _ => ?_)
                  refine wpAnyH_to (fun W h => SB.mono h HSB HBC.out) _ _ _ _ ?_
                  replace HSB := SB.here w5
                  try simp only [Act.put, List.setIfInBounds_toArray, List.set_cons_zero, List.set_cons_succ, List.getElem_toArray, List.getElem_cons_succ, List.getElem_cons_zero]
                  clear hK K HBC
                  refine wpAnyH_take (i := 28) (v := ?_) rfl (by kernel_rfl) (by kernel_rfl) (by kernel_rfl) (fun _ _ _ h => h) (Or.inl ⟨by kernel_rfl, by (intro W hW; go_simp; with_reducible rfl)⟩) HSB ?_
                  try simp only [Act.put, List.setIfInBounds_toArray, List.set_cons_zero, List.set_cons_succ, List.getElem_toArray, List.getElem_cons_succ, List.getElem_cons_zero]
                  refine wpAnyH_take (i := 29) (v := ?_) rfl (by kernel_rfl) (by kernel_rfl) (by kernel_rfl) (fun _ _ _ h => h) (Or.inl ⟨by kernel_rfl, by (intro W hW; go_simp; with_reducible rfl)⟩) HSB ?_
                  try simp only [Act.put, List.setIfInBounds_toArray, List.set_cons_zero, List.set_cons_succ, List.getElem_toArray, List.getElem_cons_succ, List.getElem_cons_zero]
                  refine wpAnyH_take (i := 30) (v := ?_) rfl (by kernel_rfl) (by kernel_rfl) (by kernel_rfl) (fun _ _ _ h => h) (Or.inl ⟨by kernel_rfl, by (intro W hW; go_simp; with_reducible rfl)⟩) HSB ?_
                  try simp only [Act.put, List.setIfInBounds_toArray, List.set_cons_zero, List.set_cons_succ, List.getElem_toArray, List.getElem_cons_succ, List.getElem_cons_zero]
                  refine wpAnyH_take (i := 31) (v := ?_) rfl (by kernel_rfl) (by kernel_rfl) (by kernel_rfl) (fun _ _ _ h => h) (Or.inl ⟨by kernel_rfl, by (intro W hW; refine run_load_blk 23 (.tmp 16) ?_ w6.heap.size ?_ (KP.out.own2 hW) Tryd.underlying23 rfl 64 size_block HYs.out <;> rfl)⟩) HSB ?_
                  try simp only [Act.put, List.setIfInBounds_toArray, List.set_cons_zero, List.set_cons_succ, List.getElem_toArray, List.getElem_cons_succ, List.getElem_cons_zero]
                  refine wpAnyH_take (i := 32) (v := ?_) rfl (by kernel_rfl) (by kernel_rfl) (by kernel_rfl) (fun _ _ _ h => h) (Or.inl ⟨by kernel_rfl, by (intro W hW; refine run_load_blk 23 (.tmp 18) ?_ w8.heap.size ?_ (KQ.out.own2 hW) Tryd.underlying23 rfl 64 size_block HYs.out <;> rfl)⟩) HSB ?_
                  try simp only [Act.put, List.setIfInBounds_toArray, List.set_cons_zero, List.set_cons_succ, List.getElem_toArray, List.getElem_cons_succ, List.getElem_cons_zero]
                  refine wpAnyH_take (i := 33) (v := ?_) rfl (by kernel_rfl) (by kernel_rfl) (by kernel_rfl) (fun _ _ _ h => h) (Or.inl ⟨by kernel_rfl, by (intro W hW; have eq2 := HEY.out W; go_simp; with_reducible rfl)⟩) HSB ?_
                  try simp only [Act.put, List.setIfInBounds_toArray, List.set_cons_zero, List.set_cons_succ, List.getElem_toArray, List.getElem_cons_succ, List.getElem_cons_zero]
                  refine wpAnyH_take (i := 34) (v := ?_) rfl (by kernel_rfl) (by kernel_rfl) (by kernel_rfl) (fun _ _ _ h => h) (Or.inl ⟨by kernel_rfl, by (intro W hW; go_simp; with_reducible rfl)⟩) HSB ?_
                  try simp only [Act.put, List.setIfInBounds_toArray, List.set_cons_zero, List.set_cons_succ, List.getElem_toArray, List.getElem_cons_succ, List.getElem_cons_zero]
                  refine wpAnyH_take (i := 35) (v := ?_) rfl (by kernel_rfl) (by kernel_rfl) (by kernel_rfl) (fun _ _ _ h => h) (Or.inl ⟨by kernel_rfl, by (intro W hW; go_simp; with_reducible rfl)⟩) HSB ?_
                  try simp only [Act.put, List.setIfInBounds_toArray, List.set_cons_zero, List.set_cons_succ, List.getElem_toArray, List.getElem_cons_succ, List.getElem_cons_zero]
                  refine wpAnyH_take (i := 36) (v := ?_) rfl (by kernel_rfl) (by kernel_rfl) (by kernel_rfl) (fun _ _ _ h => h) (Or.inl ⟨by kernel_rfl, by (intro W hW; go_simp; with_reducible rfl)⟩) HSB ?_
                  try simp only [Act.put, List.setIfInBounds_toArray, List.set_cons_zero, List.set_cons_succ, List.getElem_toArray, List.getElem_cons_succ, List.getElem_cons_zero]
                  refine wpAnyH_take (i := 38) (v := ?_) rfl (by kernel_rfl) (by kernel_rfl) (by kernel_rfl) (fun _ _ _ h => h) (Or.inl ⟨by kernel_rfl, by (intro W hW; go_simp; with_reducible rfl)⟩) HSB ?_
                  try simp only [Act.put, List.setIfInBounds_toArray, List.set_cons_zero, List.set_cons_succ, List.getElem_toArray, List.getElem_cons_succ, List.getElem_cons_zero]
                  refine wpAnyH_ready (rs := [37]) (by kernel_rfl) (by simp) ?_
                  refine AllReadyH.cons rfl (fun K hK => ?_) ?_
                  · go_simp
                    refine (HNP.out _ GL.out).mono ?_
                    rintro e w5 ⟨rfl, H11⟩
                    have HBC := Lib.hid (H11.out)
                    replace HT := Lib.hid (HT.out.trans (HBC.out.mono HT.out.size))
                    replace ROl := Lib.hid (ROl.out.below HBC.out)
                    replace ROd := Lib.hid (ROd.out.below HBC.out)
                    replace ROe := Lib.hid (ROe.out.below HBC.out)
                    replace GL := Lib.hid (GL.out.below HBC.out)
                    replace KU := Lib.hid (KU.out.ownBlk HBC.out)
                    replace KV := Lib.hid (KV.out.ownBlk HBC.out)
                    replace KP := Lib.hid (KP.out.ownBlk HBC.out)
                    replace KQ := Lib.hid (KQ.out.ownBlk HBC.out)
                    replace Rm := Lib.hid (Rm.out.below HBC.out)
                    replace Rb := Lib.hid (Rb.out.below HBC.out)
                    replace HGO := Lib.hid (HGO.out.below HBC.out)
                    replace HA := Lib.hid (HA.out.below HBC.out)
                    replace HB := Lib.hid (HB.out.below HBC.out)
                    refine hK.out _ _ (SB.of HSB HBC.out) (fun _ => ?_)
                    refine wpAnyH_to (fun W h => SB.mono h HSB HBC.out) _ _ _ _ ?_
                    replace HSB := SB.here w5
                    try simp only [Act.put, List.setIfInBounds_toArray, List.set_cons_zero, List.set_cons_succ, List.getElem_toArray, List.getElem_cons_succ, List.getElem_cons_zero]
                    clear hK K HBC
                    refine wpAnyH_take (i := 39) (v := ?_) rfl (by kernel_rfl) (by kernel_rfl) (by kernel_rfl) (fun _ _ _ h => h) (Or.inl ⟨by kernel_rfl, by (intro W hW; have hee := HED.out; go_simp; with_reducible rfl)⟩) HSB ?_
                    try simp only [Act.put, List.setIfInBounds_toArray, List.set_cons_zero, List.set_cons_succ, List.getElem_toArray, List.getElem_cons_succ, List.getElem_cons_zero]
                    refine wpAnyH_take (i := 40) (v := ?_) rfl (by kernel_rfl) (by kernel_rfl) (by kernel_rfl) (fun _ _ _ h => h) (Or.inl ⟨by kernel_rfl, by (intro W hW; go_simp; with_reducible rfl)⟩) HSB ?_
                    try simp only [Act.put, List.setIfInBounds_toArray, List.set_cons_zero, List.set_cons_succ, List.getElem_toArray, List.getElem_cons_succ, List.getElem_cons_zero]
                    refine wpAnyH_take (i := 41) (v := ?_) rfl (by kernel_rfl) (by kernel_rfl) (by kernel_rfl) (fun _ _ _ h => h) (Or.inl ⟨by kernel_rfl, by (intro W hW; go_simp; with_reducible rfl)⟩) HSB ?_
                    try simp only [Act.put, List.setIfInBounds_toArray, List.set_cons_zero, List.set_cons_succ, List.getElem_toArray, List.getElem_cons_succ, List.getElem_cons_zero]
                    refine wpAnyH_take (i := 42) (v := ?_) rfl (by kernel_rfl) (by kernel_rfl) (by kernel_rfl) (fun _ _ _ h => h) (Or.inl ⟨by kernel_rfl, by (intro W hW; go_simp; with_reducible rfl)⟩) HSB ?_
                    try simp only [Act.put, List.setIfInBounds_toArray, List.set_cons_zero, List.set_cons_succ, List.getElem_toArray, List.getElem_cons_succ, List.getElem_cons_zero]
                    refine wpAnyH_take (i := 43) (v := ?_) rfl (by kernel_rfl) (by kernel_rfl) (by kernel_rfl) (fun _ _ _ h => h) (Or.inl ⟨by kernel_rfl, by (intro W hW; have cm1 := HCT.out _ _ _ cm (Rm.out.below hW); go_simp; with_reducible rfl)⟩) HSB ?_
                    try simp only [Act.put, List.setIfInBounds_toArray, List.set_cons_zero, List.set_cons_succ, List.getElem_toArray, List.getElem_cons_succ, List.getElem_cons_zero]
                    refine wpAnyH_take (i := 44) (v := ?_) rfl (by kernel_rfl) (by kernel_rfl) (by kernel_rfl) (fun _ _ _ h => h) (Or.inl ⟨by kernel_rfl, by (intro W hW; go_simp; with_reducible rfl)⟩) HSB ?_
                    try simp only [Act.put, List.setIfInBounds_toArray, List.set_cons_zero, List.set_cons_succ, List.getElem_toArray, List.getElem_cons_succ, List.getElem_cons_zero]
                    refine wpAnyH_take (i := 45) (v := ?_) rfl (by kernel_rfl) (by kernel_rfl) (by kernel_rfl) (fun _ _ _ h => h) (Or.inl ⟨by kernel_rfl, by (intro W hW; have cb1 := HCT.out _ _ _ cb (Rb.out.below hW); go_simp; with_reducible rfl)⟩) HSB ?_
                    try simp only [Act.put, List.setIfInBounds_toArray, List.set_cons_zero, List.set_cons_succ, List.getElem_toArray, List.getElem_cons_succ, List.getElem_cons_zero]
                    refine wpAnyH_take (i := 46) (v := ?_) rfl (by kernel_rfl) (by kernel_rfl) (by kernel_rfl) (fun _ _ _ h => h) (Or.inl ⟨by kernel_rfl, by (intro W hW; go_simp; with_reducible rfl)⟩) HSB ?_
                    try simp only [Act.put, List.setIfInBounds_toArray, List.set_cons_zero, List.set_cons_succ, List.getElem_toArray, List.getElem_cons_succ, List.getElem_cons_zero]
                    refine wpAnyH_take (i := 47) (v := ?_) rfl (by kernel_rfl) (by kernel_rfl) (by kernel_rfl) (fun _ _ _ h => h) (Or.inl ⟨by kernel_rfl, by (intro W hW; go_simp; with_reducible rfl)⟩) HSB ?_
                    try simp only [Act.put, List.setIfInBounds_toArray, List.set_cons_zero, List.set_cons_succ, List.getElem_toArray, List.getElem_cons_succ, List.getElem_cons_zero]
                    refine wpAnyH_take (i := 48) (v := ?_) rfl (by kernel_rfl) (by kernel_rfl) (by kernel_rfl) (fun _ _ _ h => h) (Or.inl ⟨by kernel_rfl, by (intro W hW; go_simp; with_reducible rfl)⟩) HSB ?_
                    try simp only [Act.put, List.setIfInBounds_toArray, List.set_cons_zero, List.set_cons_succ, List.getElem_toArray, List.getElem_cons_succ, List.getElem_cons_zero]
                    refine wpAnyH_ready (rs := [49]) (by kernel_rfl) (by simp) ?_
                    refine AllReadyH.cons rfl (fun K hK => ?_) ?_
                    · go_simp
                      refine (sure_any _).mono ?_
                      rintro e w5 ⟨rfl, H12⟩
                      have HBC := Lib.hid (H12.out)
                      replace HT := Lib.hid (HT.out.trans (HBC.out.mono HT.out.size))
                      replace ROl := Lib.hid (ROl.out.below HBC.out)
                      replace ROd := Lib.hid (ROd.out.below HBC.out)
                      replace ROe := Lib.hid (ROe.out.below HBC.out)
                      replace GL := Lib.hid (GL.out.below HBC.out)
                      replace KU := Lib.hid (KU.out.ownBlk HBC.out)
                      replace KV := Lib.hid (KV.out.ownBlk HBC.out)
                      replace KP := Lib.hid (KP.out.ownBlk HBC.out)
                      replace KQ := Lib.hid (KQ.out.ownBlk HBC.out)
                      replace Rm := Lib.hid (Rm.out.below HBC.out)
                      replace Rb := Lib.hid (Rb.out.below HBC.out)
                      replace HGO := Lib.hid (HGO.out.below HBC.out)
                      replace HA := Lib.hid (HA.out.below HBC.out)
                      replace HB := Lib.hid (HB.out.below HBC.out)
                      refine hK.out _ _ (SB.of HSB HBC.out) (fun _ => ?_)
                      refine wpAnyH_to (fun W h => SB.mono h HSB HBC.out) _ _ _ _ ?_
                      replace HSB := SB.here w5
                      try simp only [Act.put, List.setIfInBounds_toArray, List.set_cons_zero, List.set_cons_succ, List.getElem_toArray, List.getElem_cons_succ, List.getElem_cons_zero]
                      clear hK K HBC
                      refine wpAnyH_take (i := 50) (v := ?_) rfl (by kernel_rfl) (by kernel_rfl) (by kernel_rfl) (fun _ _ _ h => h) (Or.inl ⟨by kernel_rfl, by (intro W hW; go_simp; with_reducible rfl)⟩) HSB ?_
                      try simp only [Act.put, List.setIfInBounds_toArray, List.set_cons_zero, List.set_cons_succ, List.getElem_toArray, List.getElem_cons_succ, List.getElem_cons_zero]
                      refine wpAnyH_take (i := 51) (v := ?_) rfl (by kernel_rfl) (by kernel_rfl) (by kernel_rfl) (fun _ _ _ h => h) (Or.inl ⟨by kernel_rfl, by (intro W hW; go_simp; with_reducible rfl)⟩) HSB ?_
                      try simp only [Act.put, List.setIfInBounds_toArray, List.set_cons_zero, List.set_cons_succ, List.getElem_toArray, List.getElem_cons_succ, List.getElem_cons_zero]
                      refine wpAnyH_done (by kernel_rfl) ?_ _
                      go_wp2_with fail
                      go_ret
                      exact ⟨rfl, HT.out⟩
                    exact AllReadyH.nil
                  exact AllReadyH.nil
                exact AllReadyH.nil
              exact AllReadyH.nil
            exact AllReadyH.nil
          exact AllReadyH.nil
        exact AllReadyH.nil
      exact AllReadyH.nil
end Go.Proofs.YtcdjbfgkajfnlaaDoor
