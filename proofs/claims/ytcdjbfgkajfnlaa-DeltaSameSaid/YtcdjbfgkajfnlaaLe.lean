/- Layer 10's laws, walked: a block by itself, and by a block that shares nothing with it. -/
import Derived.Test.YtcdjbfgkajfnlaaLd
import Derived.StillTailTactics
namespace Go.Proofs.Ytcdjbfgkajfnlaa
open Go.RowKit

/-- What the second loop has made of the base. -/
def Unlike (b cl : List Int) (x : Nat) : Prop := (∀ y : Nat, y < x → (y : Int) ∈ b) ∨ ∃ y : Nat, y < 256 ∧ (y : Int) ∉ b ∧ cl = List.replicate 64 (y : Int)
theorem Unlike.start (b cl : List Int) : Unlike b cl 0 := .inl fun y hy => by omega
theorem Unlike.skip {b cl : List Int} {x : Nat} (h : Unlike b cl x) (hx : (x : Int) ∈ b) : Unlike b cl (x + 1) := by
  rcases h with h | h
  · refine .inl fun y hy => ?_
    rcases Nat.lt_or_ge y x with h' | h'
    · exact h y h'
    · obtain rfl : y = x := by omega
      exact hx
  · exact .inr h
theorem Unlike.done {b cl : List Int} (h : Unlike b cl 256) (hb : b.length = 64) : ∃ y : Int, 0 ≤ y ∧ y ≤ 255 ∧ y ∉ b ∧ cl = List.replicate 64 y := by
  rcases h with h | ⟨y, h1, h2, h3⟩
  · obtain ⟨x, hx, hm⟩ := missing b 256 (by omega)
    exact absurd (h x hx) hm
  · exact ⟨y, by omega, by omega, h2, h3⟩
theorem rep_ok (y : Int) (h0 : 0 ≤ y) (h1 : y ≤ 255) : u8Ok (List.replicate 64 y) := by
  intro z hz
  rw [List.mem_replicate] at hz
  omega
/-- The state behind the first loop's round. -/
structure SeenSt (b : List Int) (w w3 : World) (j : Nat) (W : World) : Prop where
  fl : Blk W w3.heap.size 39 (flags (fun y => decide ((y : Int) ∈ b.take j)) 256)
  bl : BlkB W w.heap.size b
  bel : Below w3.heap.size w3 W
theorem SeenSt.step {b : List Int} {w w3 W : World} {j m : Nat} (h : SeenSt b w w3 j W) (hw : w.heap.size < w3.heap.size) (hm : b[j]? = some (m : Int)) : SeenSt b w w3 (j + 1) (W.setCell ⟨w3.heap.size, m, none⟩ (.bool true)) := by
  refine ⟨?_, ⟨h.bl.1.far (by simp; omega) _, h.bl.2⟩, h.bel.setCell (by exact Nat.le_refl _) _⟩
  have := h.fl.set_ m (.bool true)
  rwa [flags_set _ 256 m (fun y => decide ((y : Int) ∈ b.take (j + 1)))] at this
  intro y
  rw [List.take_add_one, hm]
  simp only [Option.toList_some, List.mem_append, List.mem_singleton]
  by_cases e : y = m
  · subst e; simp
  · simp [e]; omega
structure BaseSt (b cl : List Int) (w w3 : World) (gc : Nat) (W : World) : Prop where
  fl : Blk W w3.heap.size 39 (flags (fun y => decide ((y : Int) ∈ b)) 256)
  bl : BlkB W w.heap.size b
  cb : BlkB W gc cl
  bel : Below w3.heap.size w3 W
theorem BaseSt.set_ {b cl : List Int} {w w3 W : World} {gc : Nat} (h : BaseSt b cl w w3 gc W) (h1 : w.heap.size < w3.heap.size) (h2 : w3.heap.size < gc) (i : Nat) (x : Int) (hx : 0 ≤ x ∧ x ≤ 255) : BaseSt b (cl.set i x) w w3 gc (W.setCell ⟨gc, i, none⟩ (.int .u8 x)) :=
  ⟨h.fl.far (by simp; omega) _, ⟨h.bl.1.far (by simp; omega) _, h.bl.2⟩, h.cb.set_ i x hx, h.bel.setCell (by simp; omega) _⟩
set_option maxRecDepth 100000 in
set_option maxHeartbeats 4000000 in
theorem same_law (w : World) (b : List Int) (hb : b.length = 64) (hb8 : u8Ok b) :
    Calls Try.prog 6 #[.agg (u8s b).toArray] w fun e w' => e = .returned (.bool true) ∧ Hid (Below w.heap.size w w') := by
  have HM := Lib.hid (fun W => ops_read W b b hb hb8 hb hb8)
  have HM2 := Lib.hid (fun W y h0 h1 => ops_read W (List.replicate 64 y) b (List.length_replicate ..) (rep_ok y h0 h1) hb hb8)
  have HD : Hid (∀ cl, Unlike b cl 256 → ∃ y : Int, 0 ≤ y ∧ y ≤ 255 ∧ y ∉ b ∧ cl = List.replicate 64 y) := fun cl h => h.done hb
  obtain ⟨C, hC⟩ : ∃ C, C = (u8s b).toArray := ⟨_, rfl⟩
  have HCs : Hid (C.size = 64) := by rw [hC]; simp [Hid, u8s_length, hb]
  rw [← hC] at HM HM2 ⊢
  have hc1 : Hid (Blk (w.alloc (.cells C 23)) w.heap.size 23 C) := Blk.new _ _ _
  have HB0 : Hid (Below w.heap.size w (w.alloc (.cells C 23))) := below_box _ _
  have HCq := Lib.hid hC
  have HLen := Lib.hid hb
  have HOk := Lib.hid hb8
  clear hC hb hb8
  go_enter Try.func6, Try.ntmps6
  go_wp2_with (refine wpList_load_block rfl 23 (.tmp 1) rfl w.heap.size rfl 23 C _ hc1.out Try.underlying23 rfl 64 size_block HCs.out ?_)
  refine (HM.out _).mono ?_
  rintro e w3 ⟨A, n, c, l, rfl, H3⟩
  obtain ⟨HRO, HINV, hn, hnc, HB3, k, hk1, hk2⟩ := H3.out
  have hl : l = [⟨true, 0, 64, []⟩] := by rw [← hk2, opsN_end _ _ k 1 hk1 (by rw [ops_self _ HLen.out]), ops_self _ HLen.out]
  subst hl
  have hn1 : n = 1 := HRO.1.symm
  subst hn1
  have HRO := Lib.hid HRO
  have hd1 := hc1.out.below HB3 hc1.out.lt
  rw [HCq.out] at hd1
  have HSZ : Hid (w.heap.size < w3.heap.size) := hd1.lt
  have HBB := Lib.hid (HB0.out.trans (HB3.mono HB0.out.size))
  have HS : Hid (SeenSt b w w3 0 (w3.alloc (.cells (flags (fun _ => false) 256) 39))) := by
    refine ⟨?_, ⟨hd1.alloc _, HLen.out, HOk.out⟩, below_box _ _⟩
    have := Blk.new w3 39 (flags (fun _ => false) 256)
    simpa using this
  obtain ⟨F0, hF0⟩ : ∃ F0, F0 = flags (fun _ => false) 256 := ⟨_, rfl⟩
  have hfz := flags_zero
  rw [← hF0] at HS hfz
  clear hd1 hk1 hk2 HINV H3 HM hc1 HB3 HB0 hnc hF0
  go_wp2_with (refine wpList_alloc_block rfl 39 rfl F0 hfz ?_)
  go_loopw [5] (fun iv wr => ∃ j : Nat, j ≤ 64 ∧ iv = .int .i64 j ∧ Hid (SeenSt b w w3 j wr)) (fun iv _ => 64 - (intOf iv).toNat)
  case atStart => exact ⟨0, by omega, rfl, HS⟩
  case round =>
    obtain ⟨j, hj, rfl, HJ⟩ := hrel
    clear HS
    by_cases hj64 : j < 64
    · obtain ⟨x, hx⟩ : ∃ x, b[j]? = some x := ⟨_, List.getElem?_eq_getElem (by have := HLen.out; omega)⟩
      have hx8 := HOk.out x (List.mem_of_getElem? hx)
      obtain ⟨m, rfl⟩ := Int.eq_ofNat_of_zero_le hx8.1
      have hm : m < 256 := by omega
      have kb : wr.cell? ⟨w.heap.size, j, none⟩ = some (.int .u8 m) := by
        rw [HJ.out.bl.1.cell j, List.getElem?_toArray]
        simp [u8s, hx]
      have kf : wr.cell? ⟨w3.heap.size, m, none⟩ = some (.bool (decide ((m : Int) ∈ b.take j))) := by
        rw [HJ.out.fl.cell m, flags_get _ _ _ hm]
      have kz := HJ.out.fl.frozen m
      have HN := Lib.hid (HJ.out.step HSZ.out hx)
      clear hx hx8 HJ
      go_wp2_with fail
      go_roundw
      case rel => exact ⟨j + 1, by omega, by go_num, HN⟩
      case measure => simp [intOf]; omega
    · obtain rfl : j = 64 := by omega
      have HT : Hid (Blk wr w3.heap.size 39 (flags (fun y => decide ((y : Int) ∈ b)) 256)) := by
        have := HJ.out.fl
        rwa [List.take_of_length_le (by have := HLen.out; omega)] at this
      obtain ⟨W5, hW5⟩ : ∃ W5, W5 = (wr.alloc (.cells (u8s zero64).toArray 23)).setRow wr.heap.size (u8s zero64).toArray := ⟨_, rfl⟩
      have hgt : w3.heap.size < wr.heap.size := HJ.out.fl.lt
      have HB5 : Hid (BaseSt b zero64 w w3 wr.heap.size W5) := by
        have hbn : Below wr.heap.size wr W5 := by rw [hW5]; exact below_new_row wr _ _ _
        refine ⟨HT.out.below hbn hgt, ⟨HJ.out.bl.1.below hbn HJ.out.bl.1.lt, HJ.out.bl.2⟩, ⟨?_, zero64_len, zero64_ok⟩, HJ.out.bel.trans (hbn.mono (by omega))⟩
        rw [hW5]; exact blk_setRow (Blk.new _ _ _)
      have HW5 := Lib.hid hW5
      have HGT := Lib.hid hgt
      obtain ⟨gc, hgc⟩ : ∃ gc, gc = wr.heap.size := ⟨_, rfl⟩
      clear hW5 hgt HT HJ hj hj64 hfz
      go_wp2_with (refine wpList_store_block rfl 23 (.tmp 6) (.tmp 21) rfl wr.heap.size rfl (u8s zero64).toArray rfl 23 (u8s zero64).toArray (Blk.new _ _ _) 64 size_block zero_size zero_size (u8s_one' _) ?_; change wpList _ _ _ _ _ ((wr.alloc (.cells (u8s zero64).toArray 23)).setRow wr.heap.size (u8s zero64).toArray); rw [← HW5.out])
      rw [← hgc] at HB5 HGT ⊢
      clear HW5 hgc
      go_loopw [7] (fun xv wr => ∃ x : Nat, x ≤ 256 ∧ xv = .int .i64 x ∧ Hid (∃ cl, BaseSt b cl w w3 gc wr ∧ Unlike b cl x)) (fun xv _ => 256 - (intOf xv).toNat)
      case atStart => exact ⟨0, by omega, rfl, zero64, HB5.out, Unlike.start _ _⟩
      case round =>
        obtain ⟨x, hx, rfl, HJ⟩ := hrel
        clear HB5
        obtain ⟨cl, hbs, hun⟩ := HJ.out
        have HBS := Lib.hid hbs
        have HUN := Lib.hid hun
        clear HJ hbs hun
        by_cases hx256 : x < 256
        · have kf : wr.cell? ⟨w3.heap.size, x, none⟩ = some (.bool (decide ((x : Int) ∈ b))) := by
            rw [HBS.out.fl.cell x, flags_get _ _ _ hx256]
          by_cases hin : (x : Int) ∈ b
          · have HN := Lib.hid (HUN.out.skip hin)
            rw [decide_eq_true hin] at kf
            clear hin HUN
            go_wp2_with fail
            go_roundw
            case rel => exact ⟨x + 1, by omega, by go_num, cl, HBS.out, HN.out⟩
            case measure => simp [intOf]; omega
          · have HIN := Lib.hid hin
            rw [decide_eq_false hin] at kf
            have hwr : IntKind.u8.wrap (x : Int) = x := by rw [IntKind.wrap_u8]; omega
            clear hin HUN
            go_wp2_with fail
            go_loopw [8] (fun iv wr => ∃ i : Nat, i ≤ 64 ∧ iv = .int .i64 i ∧ Hid (∃ cl, BaseSt b cl w w3 gc wr ∧ ∀ j, j < i → cl[j]? = some (x : Int))) (fun iv _ => 64 - (intOf iv).toNat)
            case atStart => exact ⟨0, by omega, rfl, cl, HBS.out, fun j hj => by omega⟩
            case round =>
              obtain ⟨i, hi, rfl, HI⟩ := hrel
              clear HBS kf
              obtain ⟨cl', hbs, hcl⟩ := HI.out
              by_cases hi64 : i < 64
              · have kc : wr.cell? ⟨gc, i, none⟩ = some (.int .u8 (cl'.getD i 0)) := by
                  rw [hbs.cb.1.cell i, List.getElem?_toArray, u8s_get _ _ (by rw [hbs.cb.2.1]; exact hi64)]
                have kz := hbs.cb.1.frozen i
                have HN := Lib.hid (hbs.set_ HSZ.out HGT.out i (x : Int) ⟨by omega, by omega⟩)
                have HCL : Hid (∀ j, j < i + 1 → (cl'.set i (x : Int))[j]? = some (x : Int)) := by
                  intro j hj
                  rw [List.getElem?_set]
                  by_cases e : i = j
                  · rw [if_pos e, if_pos (by rw [hbs.cb.2.1]; omega)]
                  · rw [if_neg e]
                    exact hcl j (by omega)
                clear HI hbs hcl
                go_wp2_with fail
                go_roundw
                case rel => exact ⟨i + 1, by omega, by go_num, _, HN.out, HCL.out⟩
                case measure => simp [intOf]; omega
              · obtain rfl : i = 64 := by omega
                have hrep := replicate_of cl' x hbs.cb.2.1 hcl
                subst hrep
                have HBS := Lib.hid hbs
                clear HI hbs hcl
                go_wp2_with fail
                go_roundw
                case rel => exact ⟨x + 1, by omega, by go_num, _, HBS.out, .inr ⟨x, hx256, HIN.out, rfl⟩⟩
                case measure => simp [intOf]; omega
        · obtain rfl : x = 256 := by omega
          obtain ⟨y, hy0, hy1, hyb, hcl⟩ := HD.out _ HUN.out
          subst hcl
          have HMy := Lib.hid (HM2.out wr y hy0 hy1)
          obtain ⟨D, hD⟩ : ∃ D, D = (u8s (List.replicate 64 y)).toArray := ⟨_, rfl⟩
          have HDs : Hid (D.size = 64) := by rw [hD]; simp only [Hid, u8s_length, List.size_toArray, List.length_replicate]
          rw [← hD] at HMy
          have hl1 := HBS.out.cb.1
          have hl2 := HBS.out.bl.1
          rw [← hD] at hl1
          rw [← HCq.out] at hl2
          have HL1 := Lib.hid hl1
          have HL2 := Lib.hid hl2
          have HYB := Lib.hid hyb
          clear hD hl1 hl2 HUN hx hx256 hyb
          go_wp2_with (first | (refine wpList_load_block rfl 23 (.tmp 6) rfl gc rfl 23 D _ HL1.out Try.underlying23 rfl 64 size_block HDs.out ?_) | (refine wpList_load_block rfl 23 (.tmp 1) rfl w.heap.size rfl 23 C _ HL2.out Try.underlying23 rfl 64 size_block HCs.out ?_))
          refine HMy.out.mono ?_
          rintro e w8 ⟨A2, n2, c2, l2, rfl, H8⟩
          obtain ⟨HRO2, _, _, _, HB8, k2, hk1, hk2⟩ := H8.out
          have hl : l2 = [⟨false, 0, 0, b⟩] := by rw [← hk2]; exact ops_whole HLen.out HYB.out hk1
          subst hl
          have hn2 : n2 = 1 := HRO2.1.symm
          subst hn2
          obtain ⟨b1, o1, hA1, hcell1⟩ := HRO.out.2.2 (by omega)
          obtain ⟨b2, o2, hA2, hcell2⟩ := HRO2.2.2 (by omega)
          have HB38 : Below w3.heap.size w3 w8 := HBS.out.bel.trans (HB8.mono HBS.out.bel.size)
          obtain ⟨Aj, cj, m0, m1, m2, m3, _⟩ := hcell1 0 _ rfl
          obtain ⟨Ai, ci, n0, n1, n2, n3, nr, _⟩ := hcell2 0 _ rfl
          have keep : ∀ {a : Addr} {v : Value}, w3.cell? a = some v → w8.cell? a = some v := fun hc => (HB38.cell (block_lt_of_cell hc)).trans hc
          have p0 := keep m0
          have p2 := keep m2
          simp only [Nat.zero_mul, Nat.add_zero] at p0 p2 n0 n3 nr
          have HBb : BlkB w8 w.heap.size b := ⟨HBS.out.bl.1.below HB8 HBS.out.bl.1.lt, HBS.out.bl.2⟩
          have HR := Lib.hid HBb.rb
          have HNR := Lib.hid nr
          have HBF : Hid (Below w.heap.size w w8) := HBB.out.trans (HB38.mono HBB.out.size)
          have hsl : ∀ W : World, (Instr.sliceAt 23 (.pointer (some ⟨w.heap.size, 0, none⟩)) none none none).run Try.prog W = .ok (.slice (some ⟨w.heap.size, 0, none⟩) 64 64) W := by
            intro W
            obtain ⟨i0, hi, _, hz1, _⟩ := info_parts info_u8
            rw [run_sliceAt_array_all W 23 ⟨w.heap.size, 0, none⟩ under_block, len_block, elem_block]
            simp [sizeOf, typeInfo, hi, hz1, slicedAt, Result.andThen, Addr.add]
          have s1 : (convert 24 9 (.slice Ai b.length ci)).run Try.prog w8.drew = .ok (.string (strOfNums b)) w8.drew := rb_string _ _ 5 Try.underlying24 Try.underlying5 under_str (HNR.out.drewN 1) _
          have s2 : (convert 24 9 (.slice (some ⟨w.heap.size, 0, none⟩) 64 64)).run Try.prog w8.drew = .ok (.string (strOfNums b)) w8.drew := rb_string _ _ 5 Try.underlying24 Try.underlying5 under_str (HR.out.drewN 1) _
          obtain ⟨S, hS⟩ : ∃ S, S = strOfNums b := ⟨_, rfl⟩
          rw [← hS] at s1 s2
          have hq' := strs_same S
          cases hA1
          cases hA2
          clear hcell1 hcell2 HRO HRO2 HB38 m0 m1 m2 m3 n1 n2 keep HBb hk1 hk2 H8 HB8 hS nr HMy HL1 HL2 HBS HM2 HD HBB
          go_wp2_with fail
          go_still_tail 38, (by kernel_rfl)
          change wpList _ _ _ _ _ w8.drew
          have HBG : Hid (Below w.heap.size w w8.drew) := HBF.out.drew
          generalize w8.drew = w9 at HBG ⊢
          go_wp2_with fail
          refine (sure_any w9).mono ?_
          rintro e w10 ⟨rfl, H10⟩
          go_wp2_with fail
          go_ret
          exact ⟨rfl, HBG.out.trans (H10.out.mono HBG.out.size)⟩
end Go.Proofs.Ytcdjbfgkajfnlaa
