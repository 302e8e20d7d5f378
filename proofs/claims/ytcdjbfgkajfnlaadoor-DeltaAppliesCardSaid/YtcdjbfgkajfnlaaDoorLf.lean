/- Layer 10's laws, walked: the block that any parts make of any base. -/
import Derived.Test.YtcdjbfgkajfnlaaDoorRa
import Derived.Test.YtcdjbfgkajfnlaaDoorGv
import Derived.Test.YtcdjbfgkajfnlaaDoorAs
import Derived.Test.YtcdjbfgkajfnlaaDoorSt
namespace Go.Proofs.YtcdjbfgkajfnlaaDoor
open Go.RowKit

theorem Blk.ownBlk {w : World} {g : Nat} {t : TypeId} {cs : Array Value} (h : Blk w g t cs) {w' : World} (hb : Below w.heap.size w w') : Blk w' g t cs := h.below hb h.lt
theorem applyS_len (base : List Int) (l : List POp) : (applyS base l).1.length = 64 := appL_len base l []
set_option maxRecDepth 100000 in
set_option maxHeartbeats 4000000 in
theorem applies_law (w : World) (base : List Int) (hb : base.length = 64) (hb8 : u8Ok base) (A : Option Addr) (n c : Nat) (l : List POp) (h : ROps w A n l) (hg : ErrLaid w) :
    Calls Tryd.prog 4 #[.agg (u8s base).toArray, .slice A n c] w fun e w' => e = .returned (.bool true) ∧ Hid (Below w.heap.size w w') := by
  have HAP := Lib.hid (fun W A n c h => apply_any W base hb hb8 A n c l h)
  have HRA := Lib.hid (fun W A n c h => refApply_any W base hb hb8 A n c l h)
  obtain ⟨X, hX⟩ : ∃ X, X = (u8s (applyS base l).1).toArray := ⟨_, rfl⟩
  have HEQ := Lib.hid (run_eql_block (applyS base l).1 (applyS_len base l))
  have HXs : Hid (X.size = 64) := by rw [hX]; exact block_size _ (applyS_len base l)
  have HX1 : Hid (∀ u ∈ X.toList, u.oneCell' = true) := by rw [hX]; exact u8s_one' _
  obtain ⟨er, her⟩ : ∃ er, er = (applyS base l).2 := ⟨_, rfl⟩
  obtain ⟨C, hC⟩ : ∃ C, C = (u8s base).toArray := ⟨_, rfl⟩
  have HCs : Hid (C.size = 64) := by rw [hC]; simp [Hid, u8s_length, hb]
  rw [← hC] at HAP HRA ⊢
  rw [← hX, ← her] at HAP HRA
  rw [← hX] at HEQ
  have heq : ∀ W : World, (binOp .eql 23 (.agg X) (.agg X)).run Tryd.prog W = .ok (.bool true) W := HEQ.out
  have HB1 : Hid (Below w.heap.size w (w.alloc (.cells C 23))) := below_box _ _
  have HK1 : Hid (Blk (w.alloc (.cells C 23)) w.heap.size 23 C) := Blk.new _ _ _
  have HH := Lib.hid h
  have HG := Lib.hid hg
  clear hX her hC hb hb8 h hg
  by_cases hn : n ≤ 200
  · have hn' : decide ((200 : Int) < n) = false := decide_eq_false (by omega)
    have HGV := Lib.hid (fun W (h : ROps W A n l) => give_any W A n c l h hn)
    go_enter Tryd.func4, Tryd.ntmps4
    have HK2 : Hid (Blk (w.alloc (.cells C 23)).drew w.heap.size 23 C) := HK1.out.drewN 1
    have HBD : Hid (Below w.heap.size w (w.alloc (.cells C 23)).drew) := HB1.out.drew
    have HR2 : Hid (ROps (w.alloc (.cells C 23)).drew A n l) := HH.out.below HBD.out
    go_upto_region 3 with fail
    obtain ⟨W0, hW0⟩ : ∃ W0, W0 = (w.alloc (.cells C 23)).drew := ⟨_, rfl⟩
    rw [← hW0] at HK2 HR2 HBD
    have HW0 := Lib.hid hW0
    clear hW0
    go_cut [5, 6] from 13 to 37 (fun v5 v6 wx => ∃ g, v5 = .pointer (some ⟨g, 0, none⟩) ∧ v6 = errV er ∧ Hid (Blk wx g 23 X ∧ Below W0.heap.size W0 wx))
    case first =>
      refine wp_region_any (by kernel_rfl) ?_
      change wpAny _ _ _ _ _ _ _ (World.drew _)
      rw [← HW0.out]
      have HS : Hid (Below W0.heap.size W0 W0) := Below.refl _ _
      -- the region's orders
      refine wpAny_take (i := 1) (v := ?_) rfl (by kernel_rfl) (by kernel_rfl) (by kernel_rfl) (fun _ _ _ h => h) (Or.inl ⟨by rfl, by (intro w; go_simp; with_reducible rfl)⟩) ?_
      refine wpAny_ready (rs := [0, 2, 7]) (by kernel_rfl) (by simp) ?_
      refine AllReady.cons rfl (fun K hK => ?_) ?_
      · refine step_load_block rfl 23 (.tmp 2) rfl w.heap.size rfl 23 C _ (HK2.out.ownBlk HS.out) Tryd.underlying23 rfl 64 size_block HCs.out ?_
        refine hK _ _ ?_
        clear hK K
        refine wpAny_ready (rs := [2, 7]) (by kernel_rfl) (by simp) ?_
        refine AllReady.cons rfl (fun K hK => ?_) ?_
        · go_simp
          refine (HGV.out _ (HR2.out.below HS.out)).mono ?_
          rintro e w' ⟨A', c', rfl, hx⟩
          replace HS := Lib.hid (HS.out.trans (hx.out.2.2.mono HS.out.size))
          have HRG := Lib.hid (And.intro hx.out.1 hx.out.2.1)
          refine hK _ _ ?_
          clear hK K hx
          refine wpAny_ready (rs := [3, 7]) (by kernel_rfl) (by simp) ?_
          refine AllReady.cons rfl (fun K hK => ?_) ?_
          · go_simp
            refine (HAP.out _ _ _ _ HRG.out.1).mono ?_
            rintro e w' ⟨rfl, hx⟩
            replace HS := Lib.hid (HS.out.trans (hx.out.mono HS.out.size))
            clear HRG
            refine hK _ _ ?_
            clear hK K hx
            refine wpAny_take (i := 4) (v := ?_) rfl (by kernel_rfl) (by kernel_rfl) (by kernel_rfl) (fun _ _ _ h => h) (Or.inl ⟨by rfl, by (intro w; go_simp; with_reducible rfl)⟩) ?_
            refine wpAny_take (i := 5) (v := ?_) rfl (by kernel_rfl) (by kernel_rfl) (by kernel_rfl) (fun _ _ _ h => h) (Or.inl ⟨by rfl, by (intro w; go_simp; with_reducible rfl)⟩) ?_
            refine wpAny_take (i := 6) (v := ?_) rfl (by kernel_rfl) (by kernel_rfl) (by kernel_rfl) (fun _ _ _ h => h) (Or.inl ⟨by rfl, by (intro w; go_simp; with_reducible rfl)⟩) ?_
            refine wpAny_ready (rs := [7]) (by kernel_rfl) (by simp) ?_
            refine AllReady.cons rfl (fun K hK => ?_) ?_
            · refine step_alloc_block rfl 23 rfl _ block_zero ?_
              intro g w' hgw hb hz
              have HZ := Lib.hid (And.intro hz (Nat.le_trans HS.out.size hgw))
              replace HS := Lib.hid (HS.out.trans (hb.mono HS.out.size))
              refine hK _ _ ?_
              clear hK K hb hz
              refine wpAny_ready (rs := [8]) (by kernel_rfl) (by simp) ?_
              refine AllReady.cons rfl (fun K hK => ?_) ?_
              · refine step_store_block rfl 23 (.tmp 5) (.tmp 18) rfl _ rfl X rfl 23 _ HZ.out.1 64 size_block HXs.out zero_size HX1.out ?_
                intro w' hgr hz
                replace HS := Lib.hid (HS.out.grown hgr HS.out.size (fun k hk => by have := Option.some.inj hk; have := HZ.out.2; omega))
                have HZX := Lib.hid hz
                clear HZ
                refine hK _ _ ?_
                clear hK K hgr hz
                refine wpAny_take (i := 9) (v := ?_) rfl (by kernel_rfl) (by kernel_rfl) (by kernel_rfl) (fun _ _ _ h => h) (Or.inl ⟨by rfl, by (intro w; go_simp; with_reducible rfl)⟩) ?_
                refine wpAny_done (by kernel_rfl) ?_ _
                go_wp2_with fail
                go_meet
                case rel => exact ⟨_, rfl, rfl, HZX.out, HS.out⟩
              exact AllReady.nil
            exact AllReady.nil
          refine AllReady.cons rfl (fun K hK => ?_) ?_
          · refine step_alloc_block rfl 23 rfl _ block_zero ?_
            intro g w' hgw hb hz
            have HZ := Lib.hid (And.intro hz (Nat.le_trans HS.out.size hgw))
            replace HS := Lib.hid (HS.out.trans (hb.mono HS.out.size))
            replace HRG := Lib.hid (And.intro (HRG.out.1.below hb) HRG.out.2)
            refine hK _ _ ?_
            clear hK K hb hz
            refine wpAny_ready (rs := [3]) (by kernel_rfl) (by simp) ?_
            refine AllReady.cons rfl (fun K hK => ?_) ?_
            · go_simp
              refine (HAP.out _ _ _ _ HRG.out.1).mono ?_
              rintro e w' ⟨rfl, hx⟩
              replace HS := Lib.hid (HS.out.trans (hx.out.mono HS.out.size))
              replace HZ := Lib.hid (And.intro (HZ.out.1.ownBlk hx.out) HZ.out.2)
              clear HRG
              refine hK _ _ ?_
              clear hK K hx
              refine wpAny_take (i := 4) (v := ?_) rfl (by kernel_rfl) (by kernel_rfl) (by kernel_rfl) (fun _ _ _ h => h) (Or.inl ⟨by rfl, by (intro w; go_simp; with_reducible rfl)⟩) ?_
              refine wpAny_take (i := 5) (v := ?_) rfl (by kernel_rfl) (by kernel_rfl) (by kernel_rfl) (fun _ _ _ h => h) (Or.inl ⟨by rfl, by (intro w; go_simp; with_reducible rfl)⟩) ?_
              refine wpAny_take (i := 6) (v := ?_) rfl (by kernel_rfl) (by kernel_rfl) (by kernel_rfl) (fun _ _ _ h => h) (Or.inl ⟨by rfl, by (intro w; go_simp; with_reducible rfl)⟩) ?_
              refine wpAny_ready (rs := [8]) (by kernel_rfl) (by simp) ?_
              refine AllReady.cons rfl (fun K hK => ?_) ?_
              · refine step_store_block rfl 23 (.tmp 5) (.tmp 18) rfl _ rfl X rfl 23 _ HZ.out.1 64 size_block HXs.out zero_size HX1.out ?_
                intro w' hgr hz
                replace HS := Lib.hid (HS.out.grown hgr HS.out.size (fun k hk => by have := Option.some.inj hk; have := HZ.out.2; omega))
                have HZX := Lib.hid hz
                clear HZ
                refine hK _ _ ?_
                clear hK K hgr hz
                refine wpAny_take (i := 9) (v := ?_) rfl (by kernel_rfl) (by kernel_rfl) (by kernel_rfl) (fun _ _ _ h => h) (Or.inl ⟨by rfl, by (intro w; go_simp; with_reducible rfl)⟩) ?_
                refine wpAny_done (by kernel_rfl) ?_ _
                go_wp2_with fail
                go_meet
                case rel => exact ⟨_, rfl, rfl, HZX.out, HS.out⟩
              exact AllReady.nil
            exact AllReady.nil
          exact AllReady.nil
        refine AllReady.cons rfl (fun K hK => ?_) ?_
        · refine step_alloc_block rfl 23 rfl _ block_zero ?_
          intro g w' hgw hb hz
          have HZ := Lib.hid (And.intro hz (Nat.le_trans HS.out.size hgw))
          replace HS := Lib.hid (HS.out.trans (hb.mono HS.out.size))
          refine hK _ _ ?_
          clear hK K hb hz
          refine wpAny_ready (rs := [2]) (by kernel_rfl) (by simp) ?_
          refine AllReady.cons rfl (fun K hK => ?_) ?_
          · go_simp
            refine (HGV.out _ (HR2.out.below HS.out)).mono ?_
            rintro e w' ⟨A', c', rfl, hx⟩
            replace HS := Lib.hid (HS.out.trans (hx.out.2.2.mono HS.out.size))
            have HRG := Lib.hid (And.intro hx.out.1 hx.out.2.1)
            replace HZ := Lib.hid (And.intro (HZ.out.1.ownBlk hx.out.2.2) HZ.out.2)
            refine hK _ _ ?_
            clear hK K hx
            refine wpAny_ready (rs := [3]) (by kernel_rfl) (by simp) ?_
            refine AllReady.cons rfl (fun K hK => ?_) ?_
            · go_simp
              refine (HAP.out _ _ _ _ HRG.out.1).mono ?_
              rintro e w' ⟨rfl, hx⟩
              replace HS := Lib.hid (HS.out.trans (hx.out.mono HS.out.size))
              replace HZ := Lib.hid (And.intro (HZ.out.1.ownBlk hx.out) HZ.out.2)
              clear HRG
              refine hK _ _ ?_
              clear hK K hx
              refine wpAny_take (i := 4) (v := ?_) rfl (by kernel_rfl) (by kernel_rfl) (by kernel_rfl) (fun _ _ _ h => h) (Or.inl ⟨by rfl, by (intro w; go_simp; with_reducible rfl)⟩) ?_
              refine wpAny_take (i := 5) (v := ?_) rfl (by kernel_rfl) (by kernel_rfl) (by kernel_rfl) (fun _ _ _ h => h) (Or.inl ⟨by rfl, by (intro w; go_simp; with_reducible rfl)⟩) ?_
              refine wpAny_take (i := 6) (v := ?_) rfl (by kernel_rfl) (by kernel_rfl) (by kernel_rfl) (fun _ _ _ h => h) (Or.inl ⟨by rfl, by (intro w; go_simp; with_reducible rfl)⟩) ?_
              refine wpAny_ready (rs := [8]) (by kernel_rfl) (by simp) ?_
              refine AllReady.cons rfl (fun K hK => ?_) ?_
              · refine step_store_block rfl 23 (.tmp 5) (.tmp 18) rfl _ rfl X rfl 23 _ HZ.out.1 64 size_block HXs.out zero_size HX1.out ?_
                intro w' hgr hz
                replace HS := Lib.hid (HS.out.grown hgr HS.out.size (fun k hk => by have := Option.some.inj hk; have := HZ.out.2; omega))
                have HZX := Lib.hid hz
                clear HZ
                refine hK _ _ ?_
                clear hK K hgr hz
                refine wpAny_take (i := 9) (v := ?_) rfl (by kernel_rfl) (by kernel_rfl) (by kernel_rfl) (fun _ _ _ h => h) (Or.inl ⟨by rfl, by (intro w; go_simp; with_reducible rfl)⟩) ?_
                refine wpAny_done (by kernel_rfl) ?_ _
                go_wp2_with fail
                go_meet
                case rel => exact ⟨_, rfl, rfl, HZX.out, HS.out⟩
              exact AllReady.nil
            exact AllReady.nil
          exact AllReady.nil
        exact AllReady.nil
      refine AllReady.cons rfl (fun K hK => ?_) ?_
      · go_simp
        refine (HGV.out _ (HR2.out.below HS.out)).mono ?_
        rintro e w' ⟨A', c', rfl, hx⟩
        replace HS := Lib.hid (HS.out.trans (hx.out.2.2.mono HS.out.size))
        have HRG := Lib.hid (And.intro hx.out.1 hx.out.2.1)
        refine hK _ _ ?_
        clear hK K hx
        refine wpAny_ready (rs := [0, 7]) (by kernel_rfl) (by simp) ?_
        refine AllReady.cons rfl (fun K hK => ?_) ?_
        · refine step_load_block rfl 23 (.tmp 2) rfl w.heap.size rfl 23 C _ (HK2.out.ownBlk HS.out) Tryd.underlying23 rfl 64 size_block HCs.out ?_
          refine hK _ _ ?_
          clear hK K
          refine wpAny_ready (rs := [3, 7]) (by kernel_rfl) (by simp) ?_
          refine AllReady.cons rfl (fun K hK => ?_) ?_
          · go_simp
            refine (HAP.out _ _ _ _ HRG.out.1).mono ?_
            rintro e w' ⟨rfl, hx⟩
            replace HS := Lib.hid (HS.out.trans (hx.out.mono HS.out.size))
            clear HRG
            refine hK _ _ ?_
            clear hK K hx
            refine wpAny_take (i := 4) (v := ?_) rfl (by kernel_rfl) (by kernel_rfl) (by kernel_rfl) (fun _ _ _ h => h) (Or.inl ⟨by rfl, by (intro w; go_simp; with_reducible rfl)⟩) ?_
            refine wpAny_take (i := 5) (v := ?_) rfl (by kernel_rfl) (by kernel_rfl) (by kernel_rfl) (fun _ _ _ h => h) (Or.inl ⟨by rfl, by (intro w; go_simp; with_reducible rfl)⟩) ?_
            refine wpAny_take (i := 6) (v := ?_) rfl (by kernel_rfl) (by kernel_rfl) (by kernel_rfl) (fun _ _ _ h => h) (Or.inl ⟨by rfl, by (intro w; go_simp; with_reducible rfl)⟩) ?_
            refine wpAny_ready (rs := [7]) (by kernel_rfl) (by simp) ?_
            refine AllReady.cons rfl (fun K hK => ?_) ?_
            · refine step_alloc_block rfl 23 rfl _ block_zero ?_
              intro g w' hgw hb hz
              have HZ := Lib.hid (And.intro hz (Nat.le_trans HS.out.size hgw))
              replace HS := Lib.hid (HS.out.trans (hb.mono HS.out.size))
              refine hK _ _ ?_
              clear hK K hb hz
              refine wpAny_ready (rs := [8]) (by kernel_rfl) (by simp) ?_
              refine AllReady.cons rfl (fun K hK => ?_) ?_
              · refine step_store_block rfl 23 (.tmp 5) (.tmp 18) rfl _ rfl X rfl 23 _ HZ.out.1 64 size_block HXs.out zero_size HX1.out ?_
                intro w' hgr hz
                replace HS := Lib.hid (HS.out.grown hgr HS.out.size (fun k hk => by have := Option.some.inj hk; have := HZ.out.2; omega))
                have HZX := Lib.hid hz
                clear HZ
                refine hK _ _ ?_
                clear hK K hgr hz
                refine wpAny_take (i := 9) (v := ?_) rfl (by kernel_rfl) (by kernel_rfl) (by kernel_rfl) (fun _ _ _ h => h) (Or.inl ⟨by rfl, by (intro w; go_simp; with_reducible rfl)⟩) ?_
                refine wpAny_done (by kernel_rfl) ?_ _
                go_wp2_with fail
                go_meet
                case rel => exact ⟨_, rfl, rfl, HZX.out, HS.out⟩
              exact AllReady.nil
            exact AllReady.nil
          refine AllReady.cons rfl (fun K hK => ?_) ?_
          · refine step_alloc_block rfl 23 rfl _ block_zero ?_
            intro g w' hgw hb hz
            have HZ := Lib.hid (And.intro hz (Nat.le_trans HS.out.size hgw))
            replace HS := Lib.hid (HS.out.trans (hb.mono HS.out.size))
            replace HRG := Lib.hid (And.intro (HRG.out.1.below hb) HRG.out.2)
            refine hK _ _ ?_
            clear hK K hb hz
            refine wpAny_ready (rs := [3]) (by kernel_rfl) (by simp) ?_
            refine AllReady.cons rfl (fun K hK => ?_) ?_
            · go_simp
              refine (HAP.out _ _ _ _ HRG.out.1).mono ?_
              rintro e w' ⟨rfl, hx⟩
              replace HS := Lib.hid (HS.out.trans (hx.out.mono HS.out.size))
              replace HZ := Lib.hid (And.intro (HZ.out.1.ownBlk hx.out) HZ.out.2)
              clear HRG
              refine hK _ _ ?_
              clear hK K hx
              refine wpAny_take (i := 4) (v := ?_) rfl (by kernel_rfl) (by kernel_rfl) (by kernel_rfl) (fun _ _ _ h => h) (Or.inl ⟨by rfl, by (intro w; go_simp; with_reducible rfl)⟩) ?_
              refine wpAny_take (i := 5) (v := ?_) rfl (by kernel_rfl) (by kernel_rfl) (by kernel_rfl) (fun _ _ _ h => h) (Or.inl ⟨by rfl, by (intro w; go_simp; with_reducible rfl)⟩) ?_
              refine wpAny_take (i := 6) (v := ?_) rfl (by kernel_rfl) (by kernel_rfl) (by kernel_rfl) (fun _ _ _ h => h) (Or.inl ⟨by rfl, by (intro w; go_simp; with_reducible rfl)⟩) ?_
              refine wpAny_ready (rs := [8]) (by kernel_rfl) (by simp) ?_
              refine AllReady.cons rfl (fun K hK => ?_) ?_
              · refine step_store_block rfl 23 (.tmp 5) (.tmp 18) rfl _ rfl X rfl 23 _ HZ.out.1 64 size_block HXs.out zero_size HX1.out ?_
                intro w' hgr hz
                replace HS := Lib.hid (HS.out.grown hgr HS.out.size (fun k hk => by have := Option.some.inj hk; have := HZ.out.2; omega))
                have HZX := Lib.hid hz
                clear HZ
                refine hK _ _ ?_
                clear hK K hgr hz
                refine wpAny_take (i := 9) (v := ?_) rfl (by kernel_rfl) (by kernel_rfl) (by kernel_rfl) (fun _ _ _ h => h) (Or.inl ⟨by rfl, by (intro w; go_simp; with_reducible rfl)⟩) ?_
                refine wpAny_done (by kernel_rfl) ?_ _
                go_wp2_with fail
                go_meet
                case rel => exact ⟨_, rfl, rfl, HZX.out, HS.out⟩
              exact AllReady.nil
            exact AllReady.nil
          exact AllReady.nil
        refine AllReady.cons rfl (fun K hK => ?_) ?_
        · refine step_alloc_block rfl 23 rfl _ block_zero ?_
          intro g w' hgw hb hz
          have HZ := Lib.hid (And.intro hz (Nat.le_trans HS.out.size hgw))
          replace HS := Lib.hid (HS.out.trans (hb.mono HS.out.size))
          replace HRG := Lib.hid (And.intro (HRG.out.1.below hb) HRG.out.2)
          refine hK _ _ ?_
          clear hK K hb hz
          refine wpAny_ready (rs := [0]) (by kernel_rfl) (by simp) ?_
          refine AllReady.cons rfl (fun K hK => ?_) ?_
          · refine step_load_block rfl 23 (.tmp 2) rfl w.heap.size rfl 23 C _ (HK2.out.ownBlk HS.out) Tryd.underlying23 rfl 64 size_block HCs.out ?_
            refine hK _ _ ?_
            clear hK K
            refine wpAny_ready (rs := [3]) (by kernel_rfl) (by simp) ?_
            refine AllReady.cons rfl (fun K hK => ?_) ?_
            · go_simp
              refine (HAP.out _ _ _ _ HRG.out.1).mono ?_
              rintro e w' ⟨rfl, hx⟩
              replace HS := Lib.hid (HS.out.trans (hx.out.mono HS.out.size))
              replace HZ := Lib.hid (And.intro (HZ.out.1.ownBlk hx.out) HZ.out.2)
              clear HRG
              refine hK _ _ ?_
              clear hK K hx
              refine wpAny_take (i := 4) (v := ?_) rfl (by kernel_rfl) (by kernel_rfl) (by kernel_rfl) (fun _ _ _ h => h) (Or.inl ⟨by rfl, by (intro w; go_simp; with_reducible rfl)⟩) ?_
              refine wpAny_take (i := 5) (v := ?_) rfl (by kernel_rfl) (by kernel_rfl) (by kernel_rfl) (fun _ _ _ h => h) (Or.inl ⟨by rfl, by (intro w; go_simp; with_reducible rfl)⟩) ?_
              refine wpAny_take (i := 6) (v := ?_) rfl (by kernel_rfl) (by kernel_rfl) (by kernel_rfl) (fun _ _ _ h => h) (Or.inl ⟨by rfl, by (intro w; go_simp; with_reducible rfl)⟩) ?_
              refine wpAny_ready (rs := [8]) (by kernel_rfl) (by simp) ?_
              refine AllReady.cons rfl (fun K hK => ?_) ?_
              · refine step_store_block rfl 23 (.tmp 5) (.tmp 18) rfl _ rfl X rfl 23 _ HZ.out.1 64 size_block HXs.out zero_size HX1.out ?_
                intro w' hgr hz
                replace HS := Lib.hid (HS.out.grown hgr HS.out.size (fun k hk => by have := Option.some.inj hk; have := HZ.out.2; omega))
                have HZX := Lib.hid hz
                clear HZ
                refine hK _ _ ?_
                clear hK K hgr hz
                refine wpAny_take (i := 9) (v := ?_) rfl (by kernel_rfl) (by kernel_rfl) (by kernel_rfl) (fun _ _ _ h => h) (Or.inl ⟨by rfl, by (intro w; go_simp; with_reducible rfl)⟩) ?_
                refine wpAny_done (by kernel_rfl) ?_ _
                go_wp2_with fail
                go_meet
                case rel => exact ⟨_, rfl, rfl, HZX.out, HS.out⟩
              exact AllReady.nil
            exact AllReady.nil
          exact AllReady.nil
        exact AllReady.nil
      refine AllReady.cons rfl (fun K hK => ?_) ?_
      · refine step_alloc_block rfl 23 rfl _ block_zero ?_
        intro g w' hgw hb hz
        have HZ := Lib.hid (And.intro hz (Nat.le_trans HS.out.size hgw))
        replace HS := Lib.hid (HS.out.trans (hb.mono HS.out.size))
        refine hK _ _ ?_
        clear hK K hb hz
        refine wpAny_ready (rs := [0, 2]) (by kernel_rfl) (by simp) ?_
        refine AllReady.cons rfl (fun K hK => ?_) ?_
        · refine step_load_block rfl 23 (.tmp 2) rfl w.heap.size rfl 23 C _ (HK2.out.ownBlk HS.out) Tryd.underlying23 rfl 64 size_block HCs.out ?_
          refine hK _ _ ?_
          clear hK K
          refine wpAny_ready (rs := [2]) (by kernel_rfl) (by simp) ?_
          refine AllReady.cons rfl (fun K hK => ?_) ?_
          · go_simp
            refine (HGV.out _ (HR2.out.below HS.out)).mono ?_
            rintro e w' ⟨A', c', rfl, hx⟩
            replace HS := Lib.hid (HS.out.trans (hx.out.2.2.mono HS.out.size))
            have HRG := Lib.hid (And.intro hx.out.1 hx.out.2.1)
            replace HZ := Lib.hid (And.intro (HZ.out.1.ownBlk hx.out.2.2) HZ.out.2)
            refine hK _ _ ?_
            clear hK K hx
            refine wpAny_ready (rs := [3]) (by kernel_rfl) (by simp) ?_
            refine AllReady.cons rfl (fun K hK => ?_) ?_
            · go_simp
              refine (HAP.out _ _ _ _ HRG.out.1).mono ?_
              rintro e w' ⟨rfl, hx⟩
              replace HS := Lib.hid (HS.out.trans (hx.out.mono HS.out.size))
              replace HZ := Lib.hid (And.intro (HZ.out.1.ownBlk hx.out) HZ.out.2)
              clear HRG
              refine hK _ _ ?_
              clear hK K hx
              refine wpAny_take (i := 4) (v := ?_) rfl (by kernel_rfl) (by kernel_rfl) (by kernel_rfl) (fun _ _ _ h => h) (Or.inl ⟨by rfl, by (intro w; go_simp; with_reducible rfl)⟩) ?_
              refine wpAny_take (i := 5) (v := ?_) rfl (by kernel_rfl) (by kernel_rfl) (by kernel_rfl) (fun _ _ _ h => h) (Or.inl ⟨by rfl, by (intro w; go_simp; with_reducible rfl)⟩) ?_
              refine wpAny_take (i := 6) (v := ?_) rfl (by kernel_rfl) (by kernel_rfl) (by kernel_rfl) (fun _ _ _ h => h) (Or.inl ⟨by rfl, by (intro w; go_simp; with_reducible rfl)⟩) ?_
              refine wpAny_ready (rs := [8]) (by kernel_rfl) (by simp) ?_
              refine AllReady.cons rfl (fun K hK => ?_) ?_
              · refine step_store_block rfl 23 (.tmp 5) (.tmp 18) rfl _ rfl X rfl 23 _ HZ.out.1 64 size_block HXs.out zero_size HX1.out ?_
                intro w' hgr hz
                replace HS := Lib.hid (HS.out.grown hgr HS.out.size (fun k hk => by have := Option.some.inj hk; have := HZ.out.2; omega))
                have HZX := Lib.hid hz
                clear HZ
                refine hK _ _ ?_
                clear hK K hgr hz
                refine wpAny_take (i := 9) (v := ?_) rfl (by kernel_rfl) (by kernel_rfl) (by kernel_rfl) (fun _ _ _ h => h) (Or.inl ⟨by rfl, by (intro w; go_simp; with_reducible rfl)⟩) ?_
                refine wpAny_done (by kernel_rfl) ?_ _
                go_wp2_with fail
                go_meet
                case rel => exact ⟨_, rfl, rfl, HZX.out, HS.out⟩
              exact AllReady.nil
            exact AllReady.nil
          exact AllReady.nil
        refine AllReady.cons rfl (fun K hK => ?_) ?_
        · go_simp
          refine (HGV.out _ (HR2.out.below HS.out)).mono ?_
          rintro e w' ⟨A', c', rfl, hx⟩
          replace HS := Lib.hid (HS.out.trans (hx.out.2.2.mono HS.out.size))
          have HRG := Lib.hid (And.intro hx.out.1 hx.out.2.1)
          replace HZ := Lib.hid (And.intro (HZ.out.1.ownBlk hx.out.2.2) HZ.out.2)
          refine hK _ _ ?_
          clear hK K hx
          refine wpAny_ready (rs := [0]) (by kernel_rfl) (by simp) ?_
          refine AllReady.cons rfl (fun K hK => ?_) ?_
          · refine step_load_block rfl 23 (.tmp 2) rfl w.heap.size rfl 23 C _ (HK2.out.ownBlk HS.out) Tryd.underlying23 rfl 64 size_block HCs.out ?_
            refine hK _ _ ?_
            clear hK K
            refine wpAny_ready (rs := [3]) (by kernel_rfl) (by simp) ?_
            refine AllReady.cons rfl (fun K hK => ?_) ?_
            · go_simp
              refine (HAP.out _ _ _ _ HRG.out.1).mono ?_
              rintro e w' ⟨rfl, hx⟩
              replace HS := Lib.hid (HS.out.trans (hx.out.mono HS.out.size))
              replace HZ := Lib.hid (And.intro (HZ.out.1.ownBlk hx.out) HZ.out.2)
              clear HRG
              refine hK _ _ ?_
              clear hK K hx
              refine wpAny_take (i := 4) (v := ?_) rfl (by kernel_rfl) (by kernel_rfl) (by kernel_rfl) (fun _ _ _ h => h) (Or.inl ⟨by rfl, by (intro w; go_simp; with_reducible rfl)⟩) ?_
              refine wpAny_take (i := 5) (v := ?_) rfl (by kernel_rfl) (by kernel_rfl) (by kernel_rfl) (fun _ _ _ h => h) (Or.inl ⟨by rfl, by (intro w; go_simp; with_reducible rfl)⟩) ?_
              refine wpAny_take (i := 6) (v := ?_) rfl (by kernel_rfl) (by kernel_rfl) (by kernel_rfl) (fun _ _ _ h => h) (Or.inl ⟨by rfl, by (intro w; go_simp; with_reducible rfl)⟩) ?_
              refine wpAny_ready (rs := [8]) (by kernel_rfl) (by simp) ?_
              refine AllReady.cons rfl (fun K hK => ?_) ?_
              · refine step_store_block rfl 23 (.tmp 5) (.tmp 18) rfl _ rfl X rfl 23 _ HZ.out.1 64 size_block HXs.out zero_size HX1.out ?_
                intro w' hgr hz
                replace HS := Lib.hid (HS.out.grown hgr HS.out.size (fun k hk => by have := Option.some.inj hk; have := HZ.out.2; omega))
                have HZX := Lib.hid hz
                clear HZ
                refine hK _ _ ?_
                clear hK K hgr hz
                refine wpAny_take (i := 9) (v := ?_) rfl (by kernel_rfl) (by kernel_rfl) (by kernel_rfl) (fun _ _ _ h => h) (Or.inl ⟨by rfl, by (intro w; go_simp; with_reducible rfl)⟩) ?_
                refine wpAny_done (by kernel_rfl) ?_ _
                go_wp2_with fail
                go_meet
                case rel => exact ⟨_, rfl, rfl, HZX.out, HS.out⟩
              exact AllReady.nil
            exact AllReady.nil
          exact AllReady.nil
        exact AllReady.nil
      exact AllReady.nil
      -- their end
    case rest =>
    obtain ⟨g, rfl, rfl, HU⟩ := hcut
    have HBW := Lib.hid (HBD.out.trans (HU.out.2.mono HBD.out.size))
    have HKW := Lib.hid (HK2.out.ownBlk HU.out.2)
    have HKX := Lib.hid HU.out.1
    have HRO := Lib.hid (HRA.out _ _ _ c (HR2.out.below HU.out.2))
    clear HGV HAP HRA HR2 HK2 HU HB1 HK1 HW0
    go_wp2_with (refine wpList_load_block rfl 23 (.tmp 2) rfl w.heap.size rfl 23 C _ HKW.out Tryd.underlying23 rfl 64 size_block HCs.out ?_)
    refine HRO.out.mono ?_
    rintro e w4 ⟨rfl, H4⟩
    have HBW4 := Lib.hid (HBW.out.trans (H4.out.mono HBW.out.size))
    have HKX4 := Lib.hid (HKX.out.ownBlk H4.out)
    obtain ⟨W5, hW5⟩ : ∃ W5, W5 = (w4.alloc (.cells (u8s zero64).toArray 23)).setRow w4.heap.size X := ⟨_, rfl⟩
    have hbn : Below w4.heap.size w4 W5 := by rw [hW5]; exact below_new_row w4 _ _ _
    have HKY : Hid (Blk W5 w4.heap.size 23 X) := by rw [hW5]; exact blk_setRow (Blk.new _ _ _)
    have HKX5 := Lib.hid (HKX4.out.ownBlk hbn)
    have HBW5 := Lib.hid (HBW4.out.trans (hbn.mono HBW4.out.size))
    have HNUM := Lib.hid (num_any er W5 (HG.out.below HBW5.out))
    have HW5 := Lib.hid hW5
    clear hW5 hbn HBW HKW HKX HRO H4 HBW4 HKX4
    go_wp2_with (first | (refine wpList_store_block rfl 23 (.tmp 7) (.tmp 24) rfl w4.heap.size rfl X rfl 23 (u8s zero64).toArray (Blk.new _ _ _) 64 size_block HXs.out zero_size HX1.out ?_; change wpList _ _ _ _ _ ((w4.alloc (.cells (u8s zero64).toArray 23)).setRow w4.heap.size X); rw [← HW5.out]) | (refine wpList_load_block rfl 23 (.tmp 5) rfl g rfl 23 X _ HKX5.out Tryd.underlying23 rfl 64 size_block HXs.out ?_) | (refine wpList_load_block rfl 23 (.tmp 7) rfl w4.heap.size rfl 23 X _ HKY.out Tryd.underlying23 rfl 64 size_block HXs.out ?_))
    refine HNUM.out.mono ?_
    rintro e w6 ⟨rfl, H6⟩
    have HBW6 := Lib.hid (HBW5.out.trans (H6.out.mono HBW5.out.size))
    go_wp2_with fail
    refine (sure_any w6).mono ?_
    rintro e w7 ⟨rfl, H7⟩
    go_wp2_with fail
    go_ret
    exact ⟨rfl, HBW6.out.trans (H7.out.mono HBW6.out.size)⟩
  · have hn' : decide ((200 : Int) < n) = true := decide_eq_true (by omega)
    clear HAP HRA HEQ heq HXs HX1 HK1
    go_enter Tryd.func4, Tryd.ntmps4
    go_wp2_with fail
    refine (sure_any _).mono ?_
    rintro e w7 ⟨rfl, H7⟩
    go_wp2_with fail
    go_ret
    exact ⟨rfl, HB1.out.trans (H7.out.mono HB1.out.size)⟩
end Go.Proofs.YtcdjbfgkajfnlaaDoor
