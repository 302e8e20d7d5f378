/- Layer 10's laws, walked: the parts, one behind the other, are the block. -/
import Derived.Test.YtcdjbfgkajfnlaaLb
namespace Go.Proofs.Ytcdjbfgkajfnlaa
open Go.RowKit

/-- Where a part lies in the block. -/
theorem parts_at {base target : List Int} {l : List POp} {j : Nat} {o : POp} (hall : l.flatMap (partOf base) = target) (ht : target.length = 64) (ho : l[j]? = some o) :
    ((l.take j).flatMap (partOf base)).length + (partOf base o).length ≤ 64 ∧ (target.drop ((l.take j).flatMap (partOf base)).length).take (partOf base o).length = partOf base o ∧
      ((l.take (j + 1)).flatMap (partOf base)).length = ((l.take j).flatMap (partOf base)).length + (partOf base o).length := by
  obtain ⟨hj, hoj⟩ := List.getElem?_eq_some_iff.1 ho
  have hs : l = l.take j ++ (o :: l.drop (j + 1)) := by
    rw [← hoj, List.getElem_cons_drop, List.take_append_drop]
  have hall' := hall
  rw [hs, List.flatMap_append, List.flatMap_cons] at hall'
  have hlen := congrArg List.length hall'
  simp only [List.length_append] at hlen
  refine ⟨by omega, ?_, ?_⟩
  · rw [← hall', List.drop_left, List.take_left]
  · rw [List.take_add_one, ho]
    simp
/-- What 'Ops' gives, to be read. -/
def OpsRead (w w' : World) (base target : List Int) (A : Option Addr) (n c : Nat) (l : List POp) : Prop := ROps w' A n l ∧ OpsInv base target 64 l ∧ n ≤ 64 ∧ n ≤ c ∧ Below w.heap.size w w' ∧ ∃ k, (opsN base target k).1 = 64 ∧ (opsN base target k).2 = l
theorem ops_read (w : World) (base target : List Int) (hb : base.length = 64) (hb8 : u8Ok base) (ht : target.length = 64) (ht8 : u8Ok target) :
    Calls Try.prog 10 #[.agg (u8s base).toArray, .agg (u8s target).toArray] w fun e w' => ∃ A n c l, e = .returned (.slice A n c) ∧ Hid (OpsRead w w' base target A n c l) := by
  refine (ops_any w base target hb hb8 ht ht8).mono ?_
  rintro e w3 ⟨V, k, ps, rfl, H3⟩
  have hinv := opsN_inv base target hb ht ht8 k
  have hl : (opsN base target k).2.length = ps.length := by rw [← H3.out.2.1]; simp
  have hpl : ps.length ≤ 64 := by
    have h1 := hinv.count
    have h2 := hinv.le
    omega
  obtain ⟨A3, c3, hV, hro, hc⟩ := H3.out.1.rops (by omega) (fun p hp => by
    have hm : p.1 ∈ (opsN base target k).2 := by rw [← H3.out.2.1]; exact List.mem_map_of_mem hp
    by_cases hc : p.1.copy = true
    · obtain ⟨h1, h2, h3, h4⟩ := hinv.copies p.1 hm hc
      rw [h4]
      exact ⟨by simp, ⟨by omega, by omega⟩, ⟨by omega, by omega⟩⟩
    · obtain ⟨h1, h2, h3, h4, _⟩ := hinv.told p.1 hm (by simpa using hc)
      rw [h1, h2]
      exact ⟨h4, ⟨by omega, by omega⟩, ⟨by omega, by omega⟩⟩)
  rw [H3.out.2.1] at hro
  rw [H3.out.2.2.1] at hinv
  exact ⟨A3, ps.length, c3, _, by rw [hV], hro, hinv, hpl, hc, H3.out.2.2.2, k, H3.out.2.2.1, rfl⟩
theorem strs_same (S : ByteArray) : (S.toList == S.toList) = true := by simp
set_option maxRecDepth 100000 in
set_option maxHeartbeats 4000000 in
theorem parts_law (w : World) (base target : List Int) (hb : base.length = 64) (hb8 : u8Ok base) (ht : target.length = 64) (ht8 : u8Ok target) :
    Calls Try.prog 4 #[.agg (u8s base).toArray, .agg (u8s target).toArray] w fun e w' => e = .returned (.bool true) ∧ Hid (Below w.heap.size w w') := by
  have HM := Lib.hid (fun W => ops_read W base target hb hb8 ht ht8)
  obtain ⟨C, hC⟩ : ∃ C, C = (u8s base).toArray := ⟨_, rfl⟩
  obtain ⟨D, hD⟩ : ∃ D, D = (u8s target).toArray := ⟨_, rfl⟩
  have HCs : Hid (C.size = 64) := by rw [hC]; simp [Hid, u8s_length, hb]
  have HDs : Hid (D.size = 64) := by rw [hD]; simp [Hid, u8s_length, ht]
  rw [← hC, ← hD] at HM ⊢
  have HS := Lib.hid (two_boxes w C D 23)
  have hc1 := Lib.hid HS.out.1
  have hc2 := Lib.hid HS.out.2.1
  have HCq := Lib.hid hC
  have HDq := Lib.hid hD
  clear hC hD
  go_enter Try.func4, Try.ntmps4
  go_wp2_with (first | (refine wpList_load_block rfl 23 (.tmp 2) rfl w.heap.size rfl 23 C _ hc1.out Try.underlying23 rfl 64 size_block HCs.out ?_) | (refine wpList_load_block rfl 23 (.tmp 3) rfl (w.heap.size + 1) rfl 23 D _ hc2.out Try.underlying23 rfl 64 size_block HDs.out ?_))
  refine (HM.out _).mono ?_
  rintro e w3 ⟨A, n, c, l, rfl, H3⟩
  obtain ⟨HRO, HINV, hn, hnc, HB3, _⟩ := H3.out
  have hd1 := hc1.out.below HB3 hc1.out.lt
  have hd2 := hc2.out.below HB3 hc2.out.lt
  rw [HCq.out] at hd1
  rw [HDq.out] at hd2
  have HB : Hid (BlkB w3 w.heap.size base ∧ BlkB w3 (w.heap.size + 1) target ∧ Below w.heap.size w w3) := ⟨⟨hd1, hb, hb8⟩, ⟨hd2, ht, ht8⟩, HS.out.2.2.trans (HB3.mono HS.out.2.2.size)⟩
  have HL := Lib.hid HRO.1
  have HRO := Lib.hid HRO
  have HINV := Lib.hid HINV
  have HALL : Hid (l.flatMap (partOf base) = target) := by
    have := HINV.out.all
    rwa [List.take_of_length_le (by omega)] at this
  have HT := Lib.hid ht
  clear hd1 hd2 HB3 HS HM hc1 hc2 H3 HCq HDq hb hb8 ht ht8
  go_wp2_with fail
  go_loopw [6, 7] (fun av iv wr => ∃ (j a : Nat), j ≤ n ∧ av = .int .i64 a ∧ iv = .int .i64 j ∧ a ≤ 64 ∧ Hid (a = ((l.take j).flatMap (partOf base)).length ∧ Below w3.heap.size w3 wr)) (fun _ iv _ => n - (intOf iv).toNat)
  case atStart => exact ⟨0, 0, by omega, rfl, rfl, by omega, by simp, Below.refl _ _⟩
  case round =>
    obtain ⟨j, a, hj, rfl, rfl, ha, HJ⟩ := hrel
    by_cases hjn : j < n
    · have hjl : j < l.length := by have := HL.out; omega
      obtain ⟨o, ho⟩ : ∃ o, l[j]? = some o := ⟨_, List.getElem?_eq_getElem hjl⟩
      have hmem : o ∈ l := List.mem_of_getElem? ho
      obtain ⟨b, off, hA, hcell⟩ := HRO.out.2.2 (by omega)
      obtain ⟨Aj, cj, m0, m1, m2, m3, k4, k5, k6, k7⟩ := hcell j o ho
      have hbw := HJ.out.2
      have keep : ∀ {a : Addr} {v : Value}, w3.cell? a = some v → wr.cell? a = some v := fun hc => (hbw.cell (block_lt_of_cell hc)).trans hc
      have k0 := keep m0
      have k1 := keep m1
      have k2 := keep m2
      have k3 := keep m3
      have hpa := parts_at HALL.out HT.out ho
      rw [← HJ.out.1] at hpa
      obtain ⟨p, hp⟩ : ∃ p, p = partOf base o := ⟨_, rfl⟩
      rw [← hp] at hpa
      have hfit := hpa.1
      have HSUM := Lib.hid hpa.2.2
      have HW5 : Hid (Below wr.heap.size wr (wr.alloc (.cells #[.bool o.copy, .int .i64 o.frm, .int .i64 o.len, .slice Aj o.bytes.length cj] 35))) := below_box _ _
      have HB5 : Hid (Below w3.heap.size w3 (wr.alloc (.cells #[.bool o.copy, .int .i64 o.frm, .int .i64 o.len, .slice Aj o.bytes.length cj] 35))) := hbw.trans (HW5.out.mono hbw.size)
      have K4 : Hid (RB (wr.alloc (.cells #[.bool o.copy, .int .i64 o.frm, .int .i64 o.len, .slice Aj o.bytes.length cj] 35)) Aj o.bytes.length o.bytes) := k4.below HB5.out
      have HK1 : Hid (BlkB (wr.alloc (.cells #[.bool o.copy, .int .i64 o.frm, .int .i64 o.len, .slice Aj o.bytes.length cj] 35)) w.heap.size base) := ⟨HB.out.1.1.below HB5.out HB.out.1.1.lt, HB.out.1.2⟩
      have HK2 : Hid (BlkB (wr.alloc (.cells #[.bool o.copy, .int .i64 o.frm, .int .i64 o.len, .slice Aj o.bytes.length cj] 35)) (w.heap.size + 1) target) := ⟨HB.out.2.1.1.below HB5.out HB.out.2.1.1.lt, HB.out.2.1.2⟩
      obtain ⟨A2, hcut2, hr2, _⟩ := cutb_lh (w.heap.size + 1) a (a + p.length) a p.length rfl rfl hfit
      have R2 := hr2 _ _ HK2.out
      rw [hpa.2.1] at R2
      have HR2 := Lib.hid R2
      have hq5 : decide ((64 : Int) - a < p.length) = false := decide_eq_false (by omega)
      cases hA
      by_cases hc : o.copy = true
      · obtain ⟨f0, f1, f2, f3⟩ := HINV.out.copies o hmem hc
        obtain ⟨oc, f, k, bs⟩ := o
        simp only at hc f0 f1 f2 f3 k0 k1 k2 k3 k5 k6 k7 HB5 HK1 HK2 K4 HW5 R2 HR2 hp
        subst hc
        subst f3
        obtain ⟨f, rfl⟩ := Int.eq_ofNat_of_zero_le f0
        obtain ⟨k, rfl⟩ := Int.eq_ofNat_of_zero_le (show 0 ≤ k by omega)
        have hpk : p = (base.drop f).take k := by rw [hp]; simp [partOf]
        have hbl := HK1.out.2.1
        have hplen : p.length = k := by rw [hpk, List.length_take, List.length_drop]; omega
        have h64 : f + k ≤ 64 := by omega
        obtain ⟨A1, hcut1, hr1, _⟩ := cutb_lh w.heap.size f (f + k) f k rfl rfl h64
        have R1 := hr1 _ _ HK1.out
        rw [← hpk] at R1
        have HR1 := Lib.hid R1
        rw [hplen] at hcut2 hq5 HR2 R2 HSUM
        have q1 : decide ((k : Int) < 4) = false := decide_eq_false (by omega)
        have q2 : decide ((f : Int) < 0) = false := decide_eq_false (by omega)
        have q3 : decide ((64 : Int) < k) = false := decide_eq_false (by omega)
        have q4 : decide ((64 : Int) - k < f) = false := decide_eq_false (by omega)
        have s1 : ∀ i, (convert 24 9 (.slice (some A1) k (64 - f))).run Try.prog ((wr.alloc (.cells #[.bool true, .int .i64 f, .int .i64 k, .slice Aj 0 cj] 35)).drewN i) = .ok (.string (strOfNums p)) ((wr.alloc (.cells #[.bool true, .int .i64 f, .int .i64 k, .slice Aj 0 cj] 35)).drewN i) := fun i => rb_string _ _ 5 Try.underlying24 Try.underlying5 under_str (HR1.out.drewN i) _
        have s2 : ∀ i, (convert 24 9 (.slice (some A2) k (64 - a))).run Try.prog ((wr.alloc (.cells #[.bool true, .int .i64 f, .int .i64 k, .slice Aj 0 cj] 35)).drewN i) = .ok (.string (strOfNums p)) ((wr.alloc (.cells #[.bool true, .int .i64 f, .int .i64 k, .slice Aj 0 cj] 35)).drewN i) := fun i => rb_string _ _ 5 Try.underlying24 Try.underlying5 under_str (HR2.out.drewN i) _
        obtain ⟨S, hS⟩ : ∃ S, S = strOfNums p := ⟨_, rfl⟩
        rw [← hS] at s1 s2
        have hq' := strs_same S
        have hfk : a + k ≤ 64 := by omega
        clear hcell ho hmem m0 m1 m2 m3 keep hbw hpa hp hpk hbl hplen R1 R2 hr1 hr2 hS HINV f0 k4 hfit
        go_wp2_with fail
        go_quiet (fail)
        go_wp2_with fail
        go_roundw
        case rel => exact ⟨j + 1, a + k, by omega, by go_num, by go_num, by omega, HSUM.out.symm, below_drewN HB5.out _⟩
        case measure => simp [intOf]; omega
      · have hcf : o.copy = false := by simpa using hc
        obtain ⟨f0, f1, f2, f3, _⟩ := HINV.out.told o hmem hcf
        have hprev : ∀ m, j = m + 1 → w3.cell? ⟨b, off + m * 4, none⟩ = some (.bool true) := by
          rintro m rfl
          obtain ⟨o', ho'⟩ : ∃ o', l[m]? = some o' := ⟨_, List.getElem?_eq_getElem (by omega)⟩
          obtain ⟨_, _, mm, _⟩ := hcell m o' ho'
          have hoc : o'.copy = true := by
            have hs : l = l.take m ++ [o', o] ++ l.drop (m + 2) := by
              have e1 : l[m] = o' := (List.getElem?_eq_some_iff.1 ho').2
              have e2 : l[m + 1] = o := (List.getElem?_eq_some_iff.1 ho).2
              have d1 : l.drop m = o' :: o :: l.drop (m + 2) := by rw [← e1, ← e2, List.getElem_cons_drop, List.getElem_cons_drop]
              rw [List.append_assoc, List.cons_append, List.cons_append, List.nil_append, ← d1, List.take_append_drop]
            rcases HINV.out.alt _ _ _ _ hs with h | h
            · exact h
            · rw [hcf] at h; cases h
          rw [hoc] at mm
          exact mm
        have hprev' : ∀ m, j = m + 1 → wr.cell? ⟨b, off + m * 4, none⟩ = some (.bool true) := fun m hm => keep (hprev m hm)
        have HPV : Hid (∀ m, j = m + 1 → (wr.alloc (.cells #[.bool o.copy, .int .i64 o.frm, .int .i64 o.len, .slice Aj o.bytes.length cj] 35)).cell? ⟨b, off + m * 4, none⟩ = some (.bool true)) := fun m hm => (HW5.out.cell (block_lt_of_cell (hprev' m hm))).trans (hprev' m hm)
        obtain ⟨oc, f, k, bs⟩ := o
        simp only at hcf f0 f1 f2 f3 k0 k1 k2 k3 k5 k6 k7 HB5 HK1 HK2 K4 HW5 R2 HR2 hp HPV
        subst hcf
        subst f0
        subst f1
        have hpk : p = bs := by rw [hp]; simp [partOf]
        subst hpk
        have hbp : 0 < p.length := List.length_pos_iff.2 f2
        have hz : ((p.length : Int) == 0) = false := by simp; omega
        have s1 : ∀ i, (convert 24 9 (.slice Aj p.length cj)).run Try.prog ((wr.alloc (.cells #[.bool false, .int .i64 0, .int .i64 0, .slice Aj p.length cj] 35)).drewN i) = .ok (.string (strOfNums p)) ((wr.alloc (.cells #[.bool false, .int .i64 0, .int .i64 0, .slice Aj p.length cj] 35)).drewN i) := fun i => rb_string _ _ 5 Try.underlying24 Try.underlying5 under_str (K4.out.drewN i) _
        have s2 : ∀ i, (convert 24 9 (.slice (some A2) p.length (64 - a))).run Try.prog ((wr.alloc (.cells #[.bool false, .int .i64 0, .int .i64 0, .slice Aj p.length cj] 35)).drewN i) = .ok (.string (strOfNums p)) ((wr.alloc (.cells #[.bool false, .int .i64 0, .int .i64 0, .slice Aj p.length cj] 35)).drewN i) := fun i => rb_string _ _ 5 Try.underlying24 Try.underlying5 under_str (HR2.out.drewN i) _
        obtain ⟨S, hS⟩ : ∃ S, S = strOfNums p := ⟨_, rfl⟩
        rw [← hS] at s1 s2
        have hq' := strs_same S
        clear hcell ho hmem m0 m1 m2 m3 keep hbw hpa hp hr2 hS HINV k4 hprev hprev' f2 hc R2
        rcases j with _ | m
        · clear HPV
          simp only [Nat.zero_mul, Nat.add_zero] at k0 k1 k2 k3
          go_wp2_with fail
          go_quiet (fail)
          go_wp2_with fail
          go_roundw
          case rel => exact ⟨0 + 1, a + p.length, by omega, by go_num, by go_num, by omega, HSUM.out.symm, below_drewN HB5.out _⟩
          case measure => simp [intOf]; omega
        · have kp := HPV.out m rfl
          have hm0 : decide ((0 : Int) < ((m + 1 : Nat) : Int)) = true := decide_eq_true (by omega)
          clear HPV
          go_wp2_with fail
          go_quiet (fail)
          go_wp2_with fail
          go_roundw
          case rel => exact ⟨m + 1 + 1, a + p.length, by omega, by go_num, by go_num, by omega, HSUM.out.symm, below_drewN HB5.out _⟩
          case measure => simp [intOf]; omega
    · have hjj : j = n := by omega
      have ha64 : a = 64 := by
        rw [HJ.out.1, List.take_of_length_le (by have := HL.out; omega), HALL.out, HT.out]
      subst ha64
      have HBW : Hid (Below w.heap.size w wr) := HB.out.2.2.trans (HJ.out.2.mono HB.out.2.2.size)
      go_wp2_with fail
      refine (sure_any wr).mono ?_
      rintro e w6 ⟨rfl, H6⟩
      go_wp2_with fail
      go_ret
      exact ⟨rfl, HBW.out.trans (H6.out.mono HBW.out.size)⟩
end Go.Proofs.Ytcdjbfgkajfnlaa
