/- Layer 10: the block that parts make of a base, walked. -/
import Derived.Test.YtcdjbfgkajfnlaaDoorDf
namespace Go.Proofs.YtcdjbfgkajfnlaaDoor
open Go.RowKit

def zero64 : List Int := List.replicate 64 0
/-- The block that parts make of a base, behind some bytes; an error. -/
def appL (base : List Int) : List POp → List Int → List Int × Int
  | [], all => if all.length = 64 then (all, 0) else (zero64, 2)
  | o :: r, all => if (partS base o).2 ≠ 0 then (zero64, (partS base o).2) else if 64 - all.length < (partS base o).1.length then (zero64, 2) else appL base r (all ++ (partS base o).1)
def applyS (base : List Int) (l : List POp) : List Int × Int := appL base l []
theorem results_cell_tmp {P : Program} {fn : Func} {p t : Tmp} {ty : TypeId} (h : fn.results = #[.cell p ty, .tmp t]) (tmps : Array Value) (w : World) (g : Nat) (e : TypeId) (cs : Array Value) (d : TypeDesc)
    (hp : tmps.getD p undef = .pointer (some ⟨g, 0, none⟩)) (hg : Blk w g e cs)
    (hu : P.underlying ty = some d) (hd : (match d with | .struct _ | .array _ _ => true | _ => false) = true) (hi : (P.info? ty).map (·.size) = some cs.size) :
    (results fn tmps).run P w = .ok (.tuple #[.agg cs, tmps.getD t undef]) w := by
  have hp' : tmps[p]?.getD undef = .pointer (some ⟨g, 0, none⟩) := by simpa using hp
  simp [results, h, hp', asAddr, run_loadVar_row w g e ty cs (0, 0) d hg hu hd hi]
theorem run_arrayAt (g c : Nat) (W : World) : (Instr.arrayAt 23 (.slice (some ⟨g, 0, none⟩) 64 c)).run Tryd.prog W = .ok (.pointer (some ⟨g, 0, none⟩)) W := by
  simp [Instr.arrayAt, run_underlying Tryd.underlying23]
/-- The loop's state. -/
structure ASt (w : World) (base : List Int) (V : Value) (all : List Int) (W : World) : Prop where
  b1 : BlkB W w.heap.size base
  b2 : BlkB W (w.heap.size + 1) zero64
  own : W.ownsRow (w.heap.size + 2) 5 1 V all.length (u8s all)
  ok : u8Ok all
  bel : Below w.heap.size w W
theorem ASt.below {w W W' : World} {base : List Int} {V : Value} {all : List Int} (h : ASt w base V all W) (hb : Below W.heap.size W W') : ASt w base V all W' :=
  ⟨⟨h.b1.1.below hb h.b1.1.lt, h.b1.2⟩, ⟨h.b2.1.below hb h.b2.1.lt, h.b2.2⟩, own_below h.own hb, h.ok, h.bel.trans (hb.mono h.bel.size)⟩
theorem ASt.push {w W W' : World} {base : List Int} {V V' : Value} {all xs : List Int} (h : ASt w base V all W) (hx : u8Ok xs) (ho : W'.ownsRow (w.heap.size + 2) 5 1 V' (all ++ xs).length (u8s (all ++ xs))) (hg : W.grownBy W' V.ownBlock) : ASt w base V' (all ++ xs) W' := by
  have hV := own_base h.own
  have n1 : ∀ g, g < w.heap.size + 2 → some g ≠ V.ownBlock := fun g hg e => by have := hV g e.symm; omega
  exact ⟨⟨h.b1.1.grown hg (n1 _ (by omega)), h.b1.2⟩, ⟨h.b2.1.grown hg (n1 _ (by omega)), h.b2.2⟩, ho, h.ok.append hx, h.bel.grown hg h.bel.size (fun k hk => by have := hV k hk; omega)⟩
theorem u8s_one' (xs : List Int) : ∀ u ∈ (u8s xs).toArray.toList, u.oneCell' = true := by simpa using u8s_one xs
theorem zero_size : (u8s zero64).toArray.size = 64 := rfl
theorem block_size (xs : List Int) (h : xs.length = 64) : (u8s xs).toArray.size = 64 := by simp [u8s_length, h]
theorem size_blk (xs : List Int) (h : xs.length = 64) : (Tryd.prog.info? 23).map (·.size) = some (u8s xs).toArray.size := by rw [size_block, block_size xs h]
theorem zero64_len : zero64.length = 64 := rfl
theorem zero64_ok : u8Ok zero64 := by intro x hx; rw [zero64, List.mem_replicate] at hx; omega
set_option maxHeartbeats 4000000 in
theorem apply_any (w : World) (base : List Int) (hb : base.length = 64) (hb8 : u8Ok base) (A : Option Addr) (n c : Nat) (l : List POp) (h : ROps w A n l) :
    Calls Tryd.prog 9 #[.agg (u8s base).toArray, .slice A n c] w
      fun e w' => e = .returned (.tuple #[.agg (u8s (applyS base l).1).toArray, errV (applyS base l).2]) ∧ Hid (Below w.heap.size w w') := by
  obtain ⟨C, hC⟩ : ∃ C, C = (u8s base).toArray := ⟨_, rfl⟩
  have HCs : Hid (C.size = 64) := by rw [hC]; simp [Hid, u8s_length, hb]
  rw [← hC]
  have HC := Lib.hid hC
  clear hC
  have HL := Lib.hid h.1
  have hn := h.2.1
  have H := Lib.hid h
  clear h
  have HS : Hid (ASt w base (.slice none 0 0) [] ((w.alloc (.cells C 23)).alloc (.cells (u8s zero64).toArray 23))) := by
    rw [HC.out]
    have e : (w.alloc (.cells (u8s base).toArray 23)).heap.size = w.heap.size + 1 := by simp
    have k2 := BlkB.new (w.alloc (.cells (u8s base).toArray 23)) zero64 zero64_len zero64_ok
    rw [e] at k2
    exact ⟨(BlkB.new w base hb hb8).below (B := w.heap.size + 1) ((Below.refl _ _).alloc (by omega) _) (by omega), k2, own_nil _ _ _ _, u8Ok.nil, (below_box _ _).alloc (by simp) _⟩
  go_enter Tryd.func9, Tryd.ntmps9
  go_wp2_with fail
  go_loopw [6, 13] (fun V iv wr => ∃ (j : Nat) (all : List Int), j ≤ n ∧ iv = .int .i64 j ∧ all.length ≤ 64 ∧ Hid (ASt w base V all wr ∧ applyS base l = appL base (l.drop j) all)) (fun _ iv _ => n - (intOf iv).toNat)
  case atStart => exact ⟨0, [], by omega, rfl, by simp, HS, rfl⟩
  case round =>
    obtain ⟨j, all, hj, rfl, hal, HJ⟩ := hrel
    clear HS
    obtain ⟨AV, cV, hV, _⟩ := own_slice HJ.out.1.own
    rw [hV] at HJ ⊢
    have HV := Lib.hid hV
    clear hV
    have HZ := Lib.hid HJ.out.1.b2.1
    by_cases hjn : j < n
    · have hjl : j < l.length := by have := HL.out; omega
      obtain ⟨o, ho⟩ : ∃ o, l[j]? = some o := ⟨_, List.getElem?_eq_getElem hjl⟩
      obtain ⟨b, off, hA, hcell⟩ := H.out.2.2 (by omega)
      obtain ⟨Aj, cj, m0, m1, m2, m3, k4, k5, k6, k7⟩ := hcell j o ho
      have hbw := HJ.out.1.bel
      have keep : ∀ {a : Addr} {v : Value}, w.cell? a = some v → wr.cell? a = some v := fun hc => (hbw.cell (block_lt_of_cell hc)).trans hc
      have k0 := keep m0
      have k1 := keep m1
      have k2 := keep m2
      have k3 := keep m3
      have K4 := Lib.hid (k4.below hbw)
      have HDR : Hid (l.drop j = o :: l.drop (j + 1)) := by
        have hoj : l[j] = o := (List.getElem?_eq_some_iff.1 ho).2
        show _ = _
        rw [← hoj, List.getElem_cons_drop]
      have HAP := Lib.hid HJ.out.2
      have HW5 : Hid (Below wr.heap.size wr (wr.alloc (.cells #[.bool o.copy, .int .i64 o.frm, .int .i64 o.len, .slice Aj o.bytes.length cj] 50)).drew) := (below_box _ _).drew
      have HJ5 := Lib.hid (HJ.out.1.below HW5.out)
      have hpart := part_any (wr.alloc (.cells #[.bool o.copy, .int .i64 o.frm, .int .i64 o.len, .slice Aj o.bytes.length cj] 50)).drew o Aj cj (K4.out.below HW5.out) k5 (some ⟨w.heap.size, 0, none⟩) 64 64 base HJ5.out.b1.rb (Nat.le_refl _) k6 k7
      rw [opV] at hpart
      have hap := HJ.out.2
      rw [HDR.out, appL] at hap
      obtain ⟨⟨xs, er⟩, hq⟩ : ∃ q, q = partS base o := ⟨_, rfl⟩
      rw [← hq] at hap hpart
      simp only at hap hpart
      have HPART := Lib.hid hpart
      have HAPP := Lib.hid hap
      clear hcell ho m0 m1 m2 m3 keep hbw k4 hap hpart hq
      cases hA
      by_cases her : er = 0
      · rw [her] at HPART
        by_cases hlong : 64 - all.length < xs.length
        · have HRES : Hid (applyS base l = (zero64, 2)) := by
            have := HAPP.out
            rw [if_neg (by simp [her]), if_pos hlong] at this
            exact this
          have hlong' : (64 : Int) - all.length < xs.length := by omega
          clear HAPP HAP her hlong
          go_wp2_with fail
          go_region_with (go_at_call 30; refine HPART.out.mono ?_; intro e w6 h6; obtain ⟨A6, c6, rfl, H6⟩ := h6; rw [errV_zero]; have HJ6 := Lib.hid (HJ5.out.below H6.out.2); have HZ6 := Lib.hid HJ6.out.b2.1)
          all_goals
            go_wp2_with (refine wpList_store_block rfl 23 (.tmp 4) (.tmp 33) rfl (w.heap.size + 1) rfl (u8s zero64).toArray rfl 23 (u8s zero64).toArray HZ6.out 64 size_block zero_size zero_size (u8s_one' _) ?_)
            refine bodyPost_ret (results_cell_tmp Tryd.results9 _ _ (w.heap.size + 1) 23 (u8s zero64).toArray _ rfl (blk_setRow HZ6.out) Tryd.underlying23 rfl (size_blk _ zero64_len)) rfl ⟨?_, ?_⟩
            · rw [HRES.out]; simp only; rw [errV_some 2 (by decide)]; rfl
            · exact HJ6.out.bel.grown (grown_setRow _ _ _) HJ6.out.bel.size (fun k hk => by cases hk; omega)
        · have hlong' : ¬ (64 : Int) - all.length < xs.length := by omega
          have hfit : all.length + xs.length ≤ 64 := by omega
          have HRES : Hid (applyS base l = appL base (l.drop (j + 1)) (all ++ xs)) := by
            have := HAPP.out
            rw [if_neg (by simp [her]), if_neg hlong] at this
            exact this
          have hbs := HJ.out.1.b2.1.lt
          clear HAPP HAP her hlong
          go_wp2_with fail
          go_region_with (go_at_call 30; refine HPART.out.mono ?_; intro e w6 h6; obtain ⟨A6, c6, rfl, H6⟩ := h6; rw [errV_zero]; have HJ6 := Lib.hid (HJ5.out.below H6.out.2); have hs6 := HJ6.out.b2.1.lt)
          all_goals
            go_wp2_with (at_builtin; refine wpList_append_rb _ rfl (.tmp 35) (.tmp 36) 25 rfl (w.heap.size + 2) 5 Tryd.underlying25 info_u8 (.slice AV all.length cV) all xs rfl HJ6.out.own A6 xs.length c6 rfl H6.out.1 (by omega) (by omega) ?_; intro A7 c7 w7 ho hg hn; have HP := Lib.hid (HJ6.out.push H6.out.1.2.2.1 ho hg); clear ho hg hn)
            go_roundw
            case rel =>
              refine ⟨j + 1, all ++ xs, by omega, by go_num, by rw [List.length_append]; exact hfit, ?_, HRES.out⟩
              have := HP.out
              rw [List.length_append] at this
              exact this
            case measure => simp [intOf]; omega
      · have HRES : Hid (applyS base l = (zero64, er)) := by
          have := HAPP.out
          rw [if_pos her] at this
          exact this
        go_wp2_with fail
        go_region_with (go_at_call 30; refine HPART.out.mono ?_; intro e w6 h6; obtain ⟨A6, c6, rfl, H6⟩ := h6; rw [errV_some er her]; have HJ6 := Lib.hid (HJ5.out.below H6.out.2); have HZ6 := Lib.hid HJ6.out.b2.1)
        all_goals
          go_wp2_with (refine wpList_store_block rfl 23 (.tmp 4) (.tmp 25) rfl (w.heap.size + 1) rfl (u8s zero64).toArray rfl 23 (u8s zero64).toArray HZ6.out 64 size_block zero_size zero_size (u8s_one' _) ?_)
          refine bodyPost_ret (results_cell_tmp Tryd.results9 _ _ (w.heap.size + 1) 23 (u8s zero64).toArray _ rfl (blk_setRow HZ6.out) Tryd.underlying23 rfl (size_blk _ zero64_len)) rfl ⟨?_, ?_⟩
          · rw [HRES.out]; simp only; rw [errV_some er her]; rfl
          · exact HJ6.out.bel.grown (grown_setRow _ _ _) HJ6.out.bel.size (fun k hk => by cases hk; omega)
    · have hjj : j = n := by omega
      have hdr : l.drop j = [] := List.drop_eq_nil_of_le (by have := HL.out; omega)
      have hap := HJ.out.2
      rw [hdr, appL] at hap
      have HZ6 := HZ
      have HJ6 := Lib.hid HJ.out.1
      by_cases h64 : all.length = 64
      · rw [if_pos h64] at hap
        have HRES := Lib.hid hap
        have hne : ((all.length : Int) != 64) = false := by simp; omega
        obtain ⟨g, c9, hv9, hgb, _⟩ := HJ.out.1.own.form (by omega)
        cases hv9
        have HR := Lib.hid (RB.of_own HJ.out.1.own HJ.out.1.ok (by omega))
        have H64 := Lib.hid h64
        have h64' : 64 ≤ all.length := by omega
        have hra := fun W => run_arrayAt g cV W
        clear hap hdr hjj
        go_wp2_with (first | (refine wpList_load_rb rfl 23 (.tmp 45) rfl ⟨g, 0, none⟩ rfl 64 all (HR.out.congr rfl H64.out) (by omega) _ Tryd.underlying23 rfl size_block ?_) | (refine wpList_store_block rfl 23 (.tmp 4) (.tmp 46) rfl (w.heap.size + 1) rfl (u8s all).toArray rfl 23 (u8s zero64).toArray HZ6.out 64 size_block (block_size _ H64.out) zero_size (u8s_one' _) ?_))
        refine bodyPost_ret (results_cell_tmp Tryd.results9 _ _ (w.heap.size + 1) 23 (u8s all).toArray _ rfl (blk_setRow HZ6.out) Tryd.underlying23 rfl (size_blk _ H64.out)) rfl ⟨?_, ?_⟩
        · rw [HRES.out]; simp only; rw [errV_zero]; rfl
        · exact HJ6.out.bel.grown (grown_setRow _ _ _) HJ6.out.bel.size (fun k hk => by cases hk; omega)
      · rw [if_neg h64] at hap
        have HRES := Lib.hid hap
        have hne : ((all.length : Int) != 64) = true := by simp; omega
        clear hap hdr hjj
        go_wp2_with (refine wpList_store_block rfl 23 (.tmp 4) (.tmp 42) rfl (w.heap.size + 1) rfl (u8s zero64).toArray rfl 23 (u8s zero64).toArray HZ6.out 64 size_block zero_size zero_size (u8s_one' _) ?_)
        refine bodyPost_ret (results_cell_tmp Tryd.results9 _ _ (w.heap.size + 1) 23 (u8s zero64).toArray _ rfl (blk_setRow HZ6.out) Tryd.underlying23 rfl (size_blk _ zero64_len)) rfl ⟨?_, ?_⟩
        · rw [HRES.out]; simp only; rw [errV_some 2 (by decide)]; rfl
        · exact HJ6.out.bel.grown (grown_setRow _ _ _) HJ6.out.bel.size (fun k hk => by cases hk; omega)
end Go.Proofs.YtcdjbfgkajfnlaaDoor
