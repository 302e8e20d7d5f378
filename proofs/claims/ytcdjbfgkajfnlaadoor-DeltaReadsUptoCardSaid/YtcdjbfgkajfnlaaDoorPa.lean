/- Layer 2, the writer: how many bytes a number has behind its first one, and the first one's bits. -/
import Derived.Test.YtcdjbfgkajfnlaaDoorPp
import Derived.Test.YtcdjbfgkajfnlaaDoorSh
namespace Go.Proofs.YtcdjbfgkajfnlaaDoor
open Go.RowKit

set_option maxHeartbeats 400000 in
theorem behind_any (n : Int) (w : World) (h0 : 0 ≤ n) (h1 : n ≤ 18446744073709551615) :
    Calls Tryd.prog 48 #[.int .u64 n] w fun e w' => e = .returned (.int .i64 (behindS n.toNat)) ∧ w = w' := by
  have hb := bitLen_le n.toNat
  go_enter Tryd.func48, Tryd.ntmps48
  go_wp2_with fail
  refine (Tryd.bits_Len64 n _ h0 h1).mono ?_
  rintro e w' ⟨rfl, rfl⟩
  go_wp2_with fail
  go_ret
  refine ⟨ret_int ?_, rfl⟩
  unfold behindS
  omega
set_option maxHeartbeats 400000 in
theorem head_any (k : Int) (w : World) (h0 : 0 ≤ k) (h1 : k ≤ 8) :
    Calls Tryd.prog 49 #[.int .i64 k] w fun e w' => e = .returned (.int .u8 (headS k.toNat)) ∧ w = w' := by
  have hh := head_bits ⟨k.toNat, by omega⟩
  have H := Lib.hid hh
  clear hh
  go_enter Tryd.func49, Tryd.ntmps49
  go_wp2
  all_goals
    go_ret
    exact ⟨ret_int H.out, rfl⟩

/-- A writer of bytes: its block, and the row that it lays them in. -/
structure Wr (w : World) (B g : Nat) (v : Value) (xs : List Int) : Prop where
  blk : Blk w g 97 #[v]
  base : B ≤ g
  own : w.ownsRow B 5 1 v xs.length (u8s xs)
  ok : u8Ok xs

set_option maxHeartbeats 400000 in
theorem new_any (w : World) :
    Calls Tryd.prog 31 #[] w fun e w' => e = .returned (.pointer (some ⟨w.heap.size, 0, none⟩)) ∧ w' = w.alloc (.cells #[.slice none 0 0] 97) := by
  go_enter Tryd.func31, Tryd.ntmps31
  go_wp2
  go_ret
  exact ⟨rfl, rfl⟩
theorem Wr.new (w : World) : Wr (w.alloc (.cells #[.slice none 0 0] 97)) w.heap.size w.heap.size (.slice none 0 0) [] :=
  ⟨Blk.new _ _ _, Nat.le_refl _, own_nil _ _ _ _, u8Ok.nil⟩
theorem info_u8 : (Tryd.prog.info? 5).map (fun i => (i.zero, i.size, i.bytes)) = some (some (.int .u8 0), 1, 1) := by kernel_rfl
/-- What a writer's call leaves: the writer has the bytes more; below its base nothing has turned. -/
def Wrote (B g : Nat) (xs : List Int) (w : World) (e : Ending) (w' : World) : Prop :=
  e = .returned (.pointer (some ⟨g, 0, none⟩)) ∧ (∃ v', Wr w' B g v' xs) ∧ Below B w w' ∧ Oth 5 g w w'

theorem Wr.alloc {w : World} {B g : Nat} {v : Value} {xs : List Int} (h : Wr w B g v xs) (o : Obj) : Wr (w.alloc o) B g v xs := ⟨h.blk.alloc o, h.base, h.own.alloc o, h.ok⟩
theorem Wr.baseLe {w : World} {B g : Nat} {v : Value} {xs : List Int} (h : Wr w B g v xs) : B ≤ w.heap.size := by have := h.blk.lt; have := h.base; omega
theorem Wr.below {w w' : World} {B g : Nat} {v : Value} {xs : List Int} (h : Wr w B g v xs) (hb : Below w.heap.size w w') : Wr w' B g v xs := ⟨h.blk.below hb h.blk.lt, h.base, own_below h.own hb, h.ok⟩
theorem Wr.put {w w1 : World} {B g : Nat} {v v' : Value} {xs ys : List Int} (h : Wr w B g v xs) (hy : u8Ok ys) (ho : w1.ownsRow B 5 1 v' (xs ++ ys).length (u8s (xs ++ ys))) (hg : w.grownBy w1 v.ownBlock) :
    Wrote B g (xs ++ ys) w (.returned (.pointer (some ⟨g, 0, none⟩))) (w1.setCell ⟨g, 0, none⟩ v') := by
  have HB : B ≤ w.heap.size := by have := h.blk.lt; have := h.base; omega
  have hb1 := h.blk.grown hg (Ne.symm (own_blk_ne h.own h.blk (by decide)))
  have hne := own_blk_ne ho hb1 (by decide)
  refine ⟨rfl, ⟨v', ⟨?_, h.base, ?_, h.ok.append hy⟩⟩, ?_, ?_⟩
  · simpa using hb1.set_ 0 v'
  · exact ho.kept (grown_setCell (World.grownBy.refl w1 (some g)) (p := ⟨g, 0, none⟩) (.inl rfl) v') (.inr hne)
  · exact (below_of_grown hg HB (own_base h.own)).setCell h.base v'
  · exact (Oth.of_row h.own hg).trans (Oth.of_grown (grown_setCell (World.grownBy.refl w1 (some g)) (p := ⟨g, 0, none⟩) (.inl rfl) v'))

set_option maxHeartbeats 400000 in
theorem raw_any (w : World) (B g n c : Nat) (v : Value) (xs ys : List Int) (A : Option Addr) (h : Wr w B g v xs) (hr : RB w A n ys) (hn : xs.length + n ≤ 140737488355328) :
    Calls Tryd.prog 50 #[.pointer (some ⟨g, 0, none⟩), .slice A n c] w (Wrote B g (xs ++ ys) w) := by
  have c0 := h.blk.cell 0
  have f0 := h.blk.frozen 0
  simp only [List.getElem?_toArray, List.getElem?_cons_zero] at c0
  have H := Lib.hid h
  have HB : B ≤ w.heap.size := by have := h.blk.lt; have := h.base; omega
  clear h
  go_enter Tryd.func50, Tryd.ntmps50
  go_wp2_with (at_builtin; refine wpList_append_rb _ rfl (.tmp 11) (.tmp 12) 25 rfl B 5 Tryd.underlying25 info_u8 v xs ys rfl H.out.own A n c rfl hr hn HB ?_; intro A1 c1 w1 ho1 hg1 hn1; have b1 := H.out.blk.grown hg1 (Ne.symm (own_blk_ne H.out.own H.out.blk (by decide))); have c1 := b1.cell 0; have f1 := b1.frozen 0; simp only [List.getElem?_toArray, List.getElem?_cons_zero] at c1; have hb1 := Lib.hid b1; clear b1; have ho1 := Lib.hid ho1; have hn1 := Lib.hid hn1)
  go_ret
  have hp := H.out.put hr.2.2.1 ho1.out hg1
  rw [List.length_append] at hp
  exact hp
end Go.Proofs.YtcdjbfgkajfnlaaDoor
