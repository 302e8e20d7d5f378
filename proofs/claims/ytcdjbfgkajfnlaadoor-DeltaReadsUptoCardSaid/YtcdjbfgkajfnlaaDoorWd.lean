/- Words for memory: bytes that are read, rows that are owned, what a call leaves alone. -/
import Derived.Test.YtcdjbfgkajfnlaaDoorProg
import Derived.WalkKit
import Derived.WalkSpells
import Derived.WalkLawsBesides
import Derived.KernelRfl
import Derived.Lib.Hide
import Derived.Deep.Draws
import Derived.Deep.QuietTactic
import Derived.BigQuiet
import Derived.Deep.AppendLies
import Derived.Deep.RegionHeld3
import Derived.Deep.LoopGhost
import Derived.Maps.AppendAt
import Derived.Laws.Rows
import Derived.Laws.BytesArg
import Derived.Lib.ConvBytes
import Derived.RegionTactic
import Derived.Deep.RegionLaw
import Derived.Laws.CopyRow
import Derived.Laws.Tables
namespace Go.Proofs.YtcdjbfgkajfnlaaDoor
open Go.RowKit

/-- Bytes as cells. -/
def u8s (xs : List Int) : List Value := xs.map fun x => .int .u8 x
def u8Ok (xs : List Int) : Prop := ∀ x ∈ xs, 0 ≤ x ∧ x ≤ 255
def rd (xs : List Int) (i : Int) : Int := xs.getD i.toNat 0
theorem u8s_length (xs : List Int) : (u8s xs).length = xs.length := by simp [u8s]
theorem u8s_append (xs ys : List Int) : u8s (xs ++ ys) = u8s xs ++ u8s ys := by simp [u8s]
theorem u8s_get (xs : List Int) (j : Nat) (h : j < xs.length) : (u8s xs)[j]? = some (.int .u8 (xs.getD j 0)) := by
  simp [u8s, List.getElem?_eq_getElem h, List.getD_eq_getElem?_getD]
theorem u8s_one (xs : List Int) : ∀ u ∈ u8s xs, u.oneCell' = true := by
  intro u hu
  simp only [u8s, List.mem_map] at hu
  obtain ⟨q, _, rfl⟩ := hu
  rfl
theorem u8Ok.nil : u8Ok [] := fun x hx => by cases hx
theorem u8Ok.append {xs ys : List Int} (h : u8Ok xs) (k : u8Ok ys) : u8Ok (xs ++ ys) := by
  intro x hx
  rcases List.mem_append.1 hx with hx | hx
  · exact h x hx
  · exact k x hx
theorem u8Ok.take {xs : List Int} (h : u8Ok xs) (k : Nat) : u8Ok (xs.take k) := fun x hx => h x (List.mem_of_mem_take hx)
theorem u8Ok.drop {xs : List Int} (h : u8Ok xs) (k : Nat) : u8Ok (xs.drop k) := fun x hx => h x (List.mem_of_mem_drop hx)
theorem u8Ok.getD {xs : List Int} (h : u8Ok xs) (j : Nat) : 0 ≤ xs.getD j 0 ∧ xs.getD j 0 ≤ 255 := by
  rw [List.getD_eq_getElem?_getD]
  rcases Nat.lt_or_ge j xs.length with hj | hj
  · rw [List.getElem?_eq_getElem hj]
    exact h _ (List.getElem_mem hj)
  · rw [List.getElem?_eq_none hj]
    exact ⟨by decide, by decide⟩
theorem u8Ok.rd {xs : List Int} (h : u8Ok xs) (i : Int) : 0 ≤ rd xs i ∧ rd xs i ≤ 255 := h.getD _

/-- A slice of bytes that is read; nil, empty and other ones alike. -/
def RB (w : World) (A : Option Addr) (n : Nat) (xs : List Int) : Prop :=
  xs.length = n ∧ n ≤ 140737488355328 ∧ u8Ok xs ∧ (0 < n → ∃ ad, A = some ad ∧ ∀ j, j < n → w.cell? (ad.add j) = some (.int .u8 (xs.getD j 0)))
theorem RB.len {w : World} {A : Option Addr} {n : Nat} {xs : List Int} (h : RB w A n xs) : xs.length = n := h.1
theorem RB.at_ {w : World} {A : Option Addr} {n : Nat} {xs : List Int} (h : RB w A n xs) (i : Int) (h0 : 0 ≤ i) (h1 : i < n) :
    ∃ ad, A = some ad ∧ w.cell? (ad.add i.toNat) = some (.int .u8 (rd xs i)) := by
  obtain ⟨ad, e, hc⟩ := h.2.2.2 (by omega)
  exact ⟨ad, e, hc _ (by omega)⟩
/-- Byte j: a letter. -/
theorem RB.atL {w : World} {A : Option Addr} {n : Nat} {xs : List Int} (h : RB w A n xs) (j : Nat) (hj : j < n) :
    ∃ ad x, A = some ad ∧ 0 ≤ x ∧ x ≤ 255 ∧ Hid (xs[j]? = some x) ∧ w.cell? (ad.add j) = some (.int .u8 x) := by
  obtain ⟨ad, e, hc⟩ := h.2.2.2 (by omega)
  have hl : j < xs.length := by have := h.1; omega
  have hx := h.2.2.1 _ (List.getElem_mem hl)
  have hg := hc j hj
  rw [List.getD_eq_getElem?_getD, List.getElem?_eq_getElem hl] at hg
  exact ⟨ad, xs[j], e, hx.1, hx.2, List.getElem?_eq_getElem hl, hg⟩
theorem block_of_add (a : Addr) (n : Nat) : (a.add n).block = a.block := by unfold Addr.add; split <;> rfl
theorem add_of_add (a : Addr) (i j : Nat) : (a.add i).add j = a.add (i + j) := by
  unfold Addr.add
  by_cases hi : i = 0 <;> by_cases hj : j = 0 <;> simp [hi, hj, Nat.add_assoc]
theorem add_plain (g j : Nat) : (⟨g, 0, none⟩ : Addr).add j = ⟨g, j, none⟩ := by unfold Addr.add; split <;> simp_all
theorem RB.lt {w : World} {ad : Addr} {n : Nat} {xs : List Int} (h : RB w (some ad) n xs) (hn : 0 < n) : ad.block < w.heap.size := by
  obtain ⟨ad', e, hc⟩ := h.2.2.2 hn
  cases e
  have := block_lt_of_cell (hc 0 hn)
  rwa [block_of_add] at this
theorem RB.keep {w w' : World} {A : Option Addr} {n : Nat} {xs : List Int} (h : RB w A n xs) (hk : ∀ ad, A = some ad → 0 < n → w'.heap[ad.block]? = w.heap[ad.block]?) : RB w' A n xs :=
  ⟨h.1, h.2.1, h.2.2.1, fun hn => by
    obtain ⟨ad, e, hc⟩ := h.2.2.2 hn
    refine ⟨ad, e, fun j hj => ?_⟩
    rw [← hc j hj]
    exact World.cell?_of_block (by rw [block_of_add]; exact hk ad e hn)⟩
theorem RB.grown {w w' : World} {A : Option Addr} {n : Nat} {xs : List Int} {row : Option Nat} (h : RB w A n xs) (hg : w.grownBy w' row) (hr : ∀ ad, A = some ad → 0 < n → some ad.block ≠ row) : RB w' A n xs :=
  h.keep fun ad e hn => hg.block _ (by subst e; exact h.lt hn) (hr ad e hn)
theorem RB.below {w w' : World} {A : Option Addr} {n : Nat} {xs : List Int} (h : RB w A n xs) (hb : Below w.heap.size w w') : RB w' A n xs :=
  h.keep fun ad e hn => hb.block _ (by subst e; exact h.lt hn)
theorem RB.belowB {w w' : World} {B : Nat} {A : Option Addr} {n : Nat} {xs : List Int} (h : RB w A n xs) (hb : Below B w w') (hA : ∀ ad, A = some ad → 0 < n → ad.block < B) : RB w' A n xs :=
  h.keep fun ad e hn => hb.block _ (hA ad e hn)
theorem RB.drewN {w : World} {A : Option Addr} {n : Nat} {xs : List Int} (h : RB w A n xs) (k : Nat) : RB (w.drewN k) A n xs := h
theorem RB.none_ (w : World) : RB w none 0 [] := ⟨rfl, by omega, u8Ok.nil, fun h => absurd h (by omega)⟩
theorem RB.of_own {w : World} {base n : Nat} {e : TypeId} {A : Option Addr} {c : Nat} {xs : List Int} (h : w.ownsRow base e 1 (.slice A n c) n (u8s xs)) (hx : u8Ok xs) (hn : n ≤ 140737488355328) : RB w A n xs := by
  have hl : xs.length = n := by have := h.1; simp [u8s] at this; exact this
  refine ⟨hl, hn, hx, fun hp => ?_⟩
  obtain ⟨g, cap, hv, _, _⟩ := h.form hp
  have hA : A = some ⟨g, 0, none⟩ := by injection hv
  subst hA
  exact ⟨_, rfl, fun j hj => h.cells (g := g) rfl j _ (u8s_get xs j (by omega))⟩
theorem RB.take_ {w : World} {A : Option Addr} {n : Nat} {xs : List Int} (h : RB w A n xs) (i : Nat) (hi : i ≤ n) : RB w A i (xs.take i) := by
  refine ⟨by rw [List.length_take, h.1]; omega, by have := h.2.1; omega, h.2.2.1.take i, fun hp => ?_⟩
  obtain ⟨ad, e, hc⟩ := h.2.2.2 (by omega)
  refine ⟨ad, e, fun j hj => ?_⟩
  rw [hc j (by omega)]
  simp [List.getD_eq_getElem?_getD, hj]
theorem RB.drop_ {w : World} {A : Option Addr} {n c : Nat} {xs : List Int} (h : RB w A n xs) (i : Nat) (hi : i ≤ n) (hc : n ≤ c) : RB w (if c = i then A else A.map (·.add i)) (n - i) (xs.drop i) := by
  refine ⟨by rw [List.length_drop, h.1], by have := h.2.1; omega, h.2.2.1.drop i, fun hp => ?_⟩
  obtain ⟨ad, rfl, hcell⟩ := h.2.2.2 (by omega)
  rw [if_neg (by omega)]
  refine ⟨ad.add i, rfl, fun j hj => ?_⟩
  rw [add_of_add, hcell (i + j) (by omega)]
  simp [List.getD_eq_getElem?_getD, List.getElem?_drop]
theorem RB.congr {w : World} {A : Option Addr} {n m : Nat} {xs ys : List Int} (h : RB w A n xs) (e1 : xs = ys) (e2 : n = m) : RB w A m ys := by subst e1; subst e2; exact h

/-- One byte in a new block. -/
theorem RB.box (w : World) (e : TypeId) (x : Int) (h0 : 0 ≤ x) (h1 : x ≤ 255) : RB (w.alloc (.cells #[.int .u8 x] e)) (some ⟨w.heap.size, 0, none⟩) 1 [x] := by
  refine ⟨rfl, by omega, fun y hy => ?_, fun _ => ⟨_, rfl, fun j hj => ?_⟩⟩
  · simp only [List.mem_singleton] at hy
    subst hy
    exact ⟨h0, h1⟩
  · obtain rfl : j = 0 := by omega
    rw [add_plain]
    have := cell_of_row (w.alloc (.cells #[.int .u8 x] e)) w.heap.size 0 #[.int .u8 x] e (0, 0) (heap_alloc_new w _)
    rw [this]
    rfl
/-- A block that is known whole. -/
def Blk (w : World) (g : Nat) (t : TypeId) (cs : Array Value) : Prop := w.heap[g]? = some (.cells cs t (0, 0))
section
variable {w w' : World} {g : Nat} {t : TypeId} {cs : Array Value}
theorem Blk.lt (h : Blk w g t cs) : g < w.heap.size := by
  rcases Nat.lt_or_ge g w.heap.size with hlt | hge
  · exact hlt
  · unfold Blk at h; rw [Array.getElem?_eq_none hge] at h; cases h
theorem Blk.cell (h : Blk w g t cs) (i : Nat) : w.cell? ⟨g, i, none⟩ = cs[i]? := cell_of_row w g i cs t (0, 0) h
theorem Blk.frozen (h : Blk w g t cs) (i : Nat) : w.frozen? ⟨g, i, none⟩ = false := by
  unfold Blk at h
  simp [World.frozen?, h]
theorem Blk.new (w : World) (t : TypeId) (cs : Array Value) : Blk (w.alloc (.cells cs t)) w.heap.size t cs := heap_alloc_new w _
theorem Blk.drewN (h : Blk w g t cs) (n : Nat) : Blk (w.drewN n) g t cs := h
theorem Blk.alloc (h : Blk w g t cs) (o : Obj) : Blk (w.alloc o) g t cs := (Below.heap_alloc w o g h.lt).trans h
theorem Blk.set_ (h : Blk w g t cs) (i : Nat) (u : Value) : Blk (w.setCell ⟨g, i, none⟩ u) g t (cs.setIfInBounds i u) := by
  unfold Blk at h ⊢
  simp [World.setCell, Array.getElem?_modify, h]
theorem Blk.far (h : Blk w g t cs) {p : Addr} (hp : g ≠ p.block) (u : Value) : Blk (w.setCell p u) g t cs := (Below.heap_setCell w p u g hp).trans h
theorem Blk.below {B : Nat} (h : Blk w g t cs) (hb : Below B w w') (hg : g < B) : Blk w' g t cs := (hb.block g hg).trans h
theorem Blk.grown {row : Option Nat} (h : Blk w g t cs) (hb : w.grownBy w' row) (hg : some g ≠ row) : Blk w' g t cs := (hb.block g h.lt hg).trans h
theorem Blk.ne_ {g' : Nat} {t' : TypeId} {cs' : Array Value} (h : Blk w g t cs) (h' : Blk w g' t' cs') (hne : t ≠ t') : g ≠ g' := by
  rintro rfl
  unfold Blk at h h'
  rw [h] at h'
  injection h' with h'
  injection h' with _ ht
  exact hne ht
theorem own_blk_ne {base : Nat} {e : TypeId} {size n : Nat} {v : Value} {xs : List Value} (h : w.ownsRow base e size v n xs) (hg : Blk w g t cs) (hne : e ≠ t) : v.ownBlock ≠ some g := by
  rcases h.2 with ⟨rfl, _⟩ | ⟨g', cap, cur, rfl, _, hh, _⟩
  · simp [Value.ownBlock]
  · intro he
    have : g' = g := by simpa [Value.ownBlock] using he
    subst this
    exact Blk.ne_ (t := e) hh hg hne rfl
end

/-! What a call may have written: one block, and what is new. -/
theorem grown_drewN {a w : World} {row : Option Nat} (h : a.grownBy w row) (n : Nat) : a.grownBy (w.drewN n) row := ⟨h.os, h.tape, h.output, h.size, h.block⟩
theorem grown_drew {a w : World} {row : Option Nat} (h : a.grownBy w row) : a.grownBy w.drew row := ⟨h.os, h.tape, h.output, h.size, h.block⟩
theorem grown_alloc {a w : World} {row : Option Nat} (h : a.grownBy w row) (o : Obj) : a.grownBy (w.alloc o) row :=
  ⟨h.os, h.tape, h.output, Nat.le_trans h.size (by simp), fun i hi hne => (Below.heap_alloc w o i (Nat.lt_of_lt_of_le hi h.size)).trans (h.block i hi hne)⟩
theorem grown_setCell {a w : World} {g : Nat} (h : a.grownBy w (some g)) {p : Addr} (hp : p.block = g ∨ a.heap.size ≤ p.block) (u : Value) : a.grownBy (w.setCell p u) (some g) :=
  ⟨h.os, h.tape, h.output, by simpa [World.setCell] using h.size, fun i hi hne => (Below.heap_setCell w p u i (by
    rintro rfl
    rcases hp with hp | hp
    · exact hne (by rw [hp])
    · omega)).trans (h.block i hi hne)⟩
theorem grown_of_below {a w : World} (h : Below a.heap.size a w) (row : Option Nat) : a.grownBy w row := ⟨h.os, h.tape, h.output, h.size, fun i hi _ => h.block i hi⟩
theorem below_of_grown {B : Nat} {a w : World} {row : Option Nat} (h : a.grownBy w row) (hB : B ≤ a.heap.size) (hr : ∀ k, row = some k → B ≤ k) : Below B a w := (Below.refl _ _).grown h hB hr
theorem below_box (w : World) (o : Obj) : Below w.heap.size w (w.alloc o) := (Below.refl _ _).alloc (Nat.le_refl _) o
theorem below_drewN {B : Nat} {a w : World} (h : Below B a w) (n : Nat) : Below B a (w.drewN n) := ⟨h.os, h.tape, h.output, h.size, h.block⟩
theorem below_then {B : Nat} {w w1 w2 : World} (h : Below B w w1) (hB : B ≤ w1.heap.size) (k : Below w1.heap.size w1 w2) : Below B w w2 := h.trans (k.mono hB)
theorem own_base {w : World} {base : Nat} {e : TypeId} {size n : Nat} {v : Value} {xs : List Value} (h : w.ownsRow base e size v n xs) (k : Nat) (hk : v.ownBlock = some k) : base ≤ k := by
  rcases h.2 with ⟨rfl, _⟩ | ⟨g, cap, cur, rfl, hb, _⟩
  · simp [Value.ownBlock] at hk
  · have : g = k := by simpa [Value.ownBlock] using hk
    omega
theorem own_lt {w : World} {base : Nat} {e : TypeId} {size n : Nat} {v : Value} {xs : List Value} (h : w.ownsRow base e size v n xs) (k : Nat) (hk : v.ownBlock = some k) : k < w.heap.size := by
  rcases h.2 with ⟨rfl, _⟩ | ⟨g, cap, cur, rfl, hb, hh, _⟩
  · simp [Value.ownBlock] at hk
  · have : g = k := by simpa [Value.ownBlock] using hk
    subst this
    exact (Array.getElem?_eq_some_iff.1 hh).1
theorem own_nil (W : World) (base : Nat) (e : TypeId) (size : Nat) : W.ownsRow base e size (.slice none 0 0) 0 [] := ⟨by simp, .inl ⟨rfl, rfl⟩⟩
theorem own_below {w w1 : World} {base : Nat} {e : TypeId} {size n : Nat} {v : Value} {xs : List Value} (h : w.ownsRow base e size v n xs) (hb : Below w.heap.size w w1) : w1.ownsRow base e size v n xs :=
  h.kept (grown_of_below hb none) (by cases v.ownBlock <;> simp)
theorem own_slice {w : World} {base n : Nat} {e : TypeId} {size : Nat} {v : Value} {xs : List Value} (h : w.ownsRow base e size v n xs) : ∃ A c, v = .slice A n c ∧ n ≤ c := by
  rcases h.2 with ⟨rfl, rfl⟩ | ⟨g, cap, cur, rfl, _, _, hn, _⟩
  · exact ⟨none, 0, rfl, Nat.le_refl _⟩
  · exact ⟨_, cap, rfl, hn⟩

/-! append(v, ys...) onto a row of the call's own, ys bytes that are read. -/
section
variable {P : Program} (w : World)
theorem run_append_of_nil (base : Nat) (t ty e : TypeId) (i : TypeInfo) (size : Nat) (ht : P.underlying t = some (.slice e)) (hi : P.info? e = some i)
    (v : Value) (n : Nat) (xs : List Value) (hown : w.ownsRow base e size v n xs) (c : Nat) : (Builtin.append_ #[t, t] ty #[v, .slice none 0 c]).run P w = .ok v w := by
  rcases hown.2 with ⟨rfl, rfl⟩ | ⟨g, cap, cur, rfl, _, _, hnc, _⟩
  · simp [Builtin.append_, run_underlying ht, sizeOf, typeInfo, hi, Builtin.lenOf, Builtin.firstCells]
  · simp [Builtin.append_, run_underlying ht, sizeOf, typeInfo, hi, Builtin.lenOf, Builtin.firstCells, hnc, storeCells]
/-- A new row's block is the old one's or a new one. -/
def newRow (w : World) (v v' : Value) : Prop := v'.ownBlock = v.ownBlock ∨ v'.ownBlock = some w.heap.size
theorem run_append_rb (base : Nat) (t ty e : TypeId) (i : TypeInfo) (ht : P.underlying t = some (.slice e)) (hi : P.info? e = some i) (hz : i.zero = some (.int .u8 0)) (hsize : i.size = 1) (hby : i.bytes = 1)
    (v : Value) (xs ys : List Int) (hown : w.ownsRow base e 1 v xs.length (u8s xs)) (A : Option Addr) (m c : Nat) (hr : RB w A m ys) (hl : xs.length + m ≤ 140737488355328) (hbase : base ≤ w.heap.size) :
    ∃ v' w', (Builtin.append_ #[t, t] ty #[v, .slice A m c]).run P w = .ok v' w' ∧ w'.ownsRow base e 1 v' (xs ++ ys).length (u8s (xs ++ ys)) ∧ w.grownBy w' v.ownBlock ∧ newRow w v v' := by
  have hlen := hr.len
  rcases A with _ | ad
  · have hm : m = 0 := by
      rcases Nat.eq_zero_or_pos m with h0 | h0
      · exact h0
      · obtain ⟨ad, h, _⟩ := hr.2.2.2 h0
        cases h
    subst hm
    have hn : ys = [] := List.eq_nil_of_length_eq_zero hlen
    subst hn
    exact ⟨v, w, run_append_of_nil w base t ty e i 1 ht hi v xs.length _ hown c, by simpa using hown, World.grownBy.refl w _, .inl rfl⟩
  · have hcells : ∀ j u, (u8s ys)[j]? = some u → w.cell? (ad.add j) = some u := by
      intro j u hu
      have hj : j < ys.length := by
        rcases Nat.lt_or_ge j ys.length with h | h
        · exact h
        · rw [List.getElem?_eq_none (by rw [u8s_length]; exact h)] at hu
          cases hu
      obtain ⟨ad', h', hc⟩ := hr.2.2.2 (by omega)
      cases h'
      rw [u8s_get ys j hj] at hu
      cases hu
      exact hc j (by omega)
    obtain ⟨v', w', hrun, h2, h3, _, h5⟩ := run_append_own_at (P := P) w base t ty e i (.int .u8 0) 1 1 ht hi hz hsize hby rfl (by omega) v xs.length (u8s xs) hown ad m c (u8s ys) (by rw [u8s_length, hlen]; omega) hcells (u8s_one ys) (by simp only [maxLen]; omega) (by omega) hbase
    refine ⟨v', w', hrun, ?_, h3, h5⟩
    rw [u8s_append, List.length_append, hlen]
    exact h2
theorem wp_append_rb {o : Oper} {a : Act} {K : Act → World → Prop} {Q : Exit → Act → World → Prop} (s x : Operand) (t : TypeId)
    (ho : o.op = .call { callee := .builtin .append, args := #[s, x], argTypes := #[t, t] })
    (base : Nat) (e : TypeId) (ht : P.underlying t = some (.slice e)) (hinfo : (P.info? e).map (fun i => (i.zero, i.size, i.bytes)) = some (some (.int .u8 0), 1, 1))
    (v : Value) (xs ys : List Int) (hs : a.eval s = v) (hown : w.ownsRow base e 1 v xs.length (u8s xs)) (A : Option Addr) (m c : Nat) (hx : a.eval x = .slice A m c) (hr : RB w A m ys)
    (hl : xs.length + m ≤ 140737488355328) (hbase : base ≤ w.heap.size)
    (h : ∀ A' c' w', w'.ownsRow base e 1 (.slice A' (xs ++ ys).length c') (xs ++ ys).length (u8s (xs ++ ys)) → w.grownBy w' v.ownBlock → newRow w v (.slice A' (xs ++ ys).length c') → K (a.put o.dst (.slice A' (xs ++ ys).length c')) w') : o.wp P a w K Q := by
  obtain ⟨i0, hi, hz0, hz1, hz2⟩ := info_parts hinfo
  obtain ⟨v', w', hrun, h2, h3, h4⟩ := run_append_rb (P := P) w base t o.type e i0 ht hi hz0 hz1 hz2 v xs ys hown A m c hr hl hbase
  unfold Oper.wp execOp
  simp only [ho, resolve, invoke, builtin, Sem.run_bind, Sem.run_pure, Result.andThen_ok, List.map_toArray, List.map_cons, List.map_nil, hs, hx, hrun]
  obtain ⟨A', c', rfl, _⟩ := own_slice h2
  exact h A' c' w' h2 h3 h4
theorem wpList_append_rb {ops : Array Oper} {rest : List Oper} {o : Oper} {a : Act} {Q : Exit → Act → World → Prop} (hgd : o.guard = none) (s x : Operand) (t : TypeId)
    (ho : o.op = .call { callee := .builtin .append, args := #[s, x], argTypes := #[t, t] })
    (base : Nat) (e : TypeId) (ht : P.underlying t = some (.slice e)) (hinfo : (P.info? e).map (fun i => (i.zero, i.size, i.bytes)) = some (some (.int .u8 0), 1, 1))
    (v : Value) (xs ys : List Int) (hs : a.eval s = v) (hown : w.ownsRow base e 1 v xs.length (u8s xs)) (A : Option Addr) (m c : Nat) (hx : a.eval x = .slice A m c) (hr : RB w A m ys)
    (hl : xs.length + m ≤ 140737488355328) (hbase : base ≤ w.heap.size)
    (h : ∀ A' c' w', w'.ownsRow base e 1 (.slice A' (xs ++ ys).length c') (xs ++ ys).length (u8s (xs ++ ys)) → w.grownBy w' v.ownBlock → newRow w v (.slice A' (xs ++ ys).length c') → wpList P ops Q rest (a.put o.dst (.slice A' (xs ++ ys).length c')) w') : wpList P ops Q (o :: rest) a w :=
  wpList_plain hgd fun _ hK => wp_append_rb w s x t ho base e ht hinfo v xs ys hs hown A m c hx hr hl hbase fun A' c' w' h2 h3 h4 => hK _ _ (h A' c' w' h2 h3 h4)
end
theorem newRow.base {w : World} {v v' : Value} {B : Nat} (h : newRow w v v') (hv : ∀ k, v.ownBlock = some k → B ≤ k) (hB : B ≤ w.heap.size) (k : Nat) (hk : v'.ownBlock = some k) : B ≤ k := by
  rcases h with h | h
  · exact hv k (by rw [← h]; exact hk)
  · rw [h] at hk
    cases hk
    exact hB
/-! A call that leaves the world, inside a region that draws its order. -/
theorem quiet_add_left {P : Program} {f : FuncId} {args : Array Value} {w : World} {a n : Nat} {v : Value}
    (h : Calls P f args (w.drewN (a + n)) fun e w' => e = .returned v ∧ w.drewN (a + n) = w') :
    Calls P f args (w.drewN (a + n)) fun e w'' => e = .returned v ∧ ∃ m, w'' = w.drewN (a + m) :=
  h.mono fun _ _ ⟨he, hm⟩ => ⟨he, n, hm.symm⟩
theorem quiet_left {P : Program} {f : FuncId} {args : Array Value} {w : World} {n : Nat} {v : Value}
    (h : Calls P f args (w.drewN n) fun e w' => e = .returned v ∧ w.drewN n = w') : Calls P f args (w.drewN n) fun e w'' => e = .returned v ∧ ∃ m, w'' = w.drewN m :=
  h.mono fun _ _ ⟨he, hm⟩ => ⟨he, n, hm.symm⟩
/-! Cuts of a slice, without a case on the capacity: the address is a letter. -/
/-- The address of a cut: in the same block, if there is any. -/
def sameBlock (A A' : Option Addr) : Prop := (A' = none ↔ A = none) ∧ ∀ ad', A' = some ad' → ∃ ad, A = some ad ∧ ad'.block = ad.block
theorem sliced_addr (A : Option Addr) (l h m : Nat) : ∃ A', (sliced A l h m 1) = .slice A' (h - l) (m - l) ∧ A' = (if m = l then A else A.map (·.add l)) := ⟨_, by simp [sliced], rfl⟩
theorem cut_addr (A : Option Addr) (c l : Nat) : sameBlock A (if c = l then A else A.map (·.add l)) := by
  constructor
  · split <;> cases A <;> simp
  · intro ad' h
    split at h
    · exact ⟨ad', h, rfl⟩
    · cases A with
      | none => simp at h
      | some a =>
        simp at h
        subst h
        exact ⟨a, rfl, block_of_add _ _⟩
section
variable {P : Program} (t e : TypeId)
theorem cut_lh (ht : P.underlying t = some (.slice e)) (hinfo : (P.info? e).map (fun i => (i.zero, i.size, i.bytes)) = some (some (.int .u8 0), 1, 1)) (kl kh : IntKind) (A : Option Addr) (n c : Nat) (l h : Int) (lN mN : Nat) (hl : l = lN) (hh : h = lN + mN) (hn : lN + mN ≤ n) (hc : n ≤ c) :
    ∃ A', (∀ W : World, (Instr.slice t (.slice A n c) (some (.int kl l)) (some (.int kh h)) none).run P W = .ok (.slice A' mN (c - lN)) W) ∧ (∀ (W : World) (xs : List Int), RB W A n xs → RB W A' mN ((xs.drop lN).take mN)) ∧ sameBlock A A' := by
  obtain ⟨i0, hi, _, hz1, _⟩ := info_parts hinfo
  have hel : P.elem t = e := by simp [Program.elem, ht]
  have hu : P.underlying t = some (.slice (P.elem t)) := by rw [hel]; exact ht
  refine ⟨if c = lN then A else A.map (·.add lN), fun W => ?_, fun W xs hr => ?_, cut_addr A c lN⟩
  · rw [run_slice_lh W t A n c hu kl kh l h (by omega) (by omega) (by omega), hel]
    have e1 : l.toNat = lN := by omega
    have e2 : h.toNat = lN + mN := by omega
    have e3 : lN + mN - lN = mN := by omega
    simp [sizeOf, typeInfo, hi, hz1, sliced, Result.andThen, e1, e2, e3]
  · exact ((hr.drop_ lN (by omega) hc).take_ mN (by omega))
theorem cut_l (ht : P.underlying t = some (.slice e)) (hinfo : (P.info? e).map (fun i => (i.zero, i.size, i.bytes)) = some (some (.int .u8 0), 1, 1)) (kl : IntKind) (A : Option Addr) (n c : Nat) (l : Int) (lN : Nat) (hl : l = lN) (hn : lN ≤ n) (hc : n ≤ c) :
    ∃ A', (∀ W : World, (Instr.slice t (.slice A n c) (some (.int kl l)) none none).run P W = .ok (.slice A' (n - lN) (c - lN)) W) ∧ (∀ (W : World) (xs : List Int), RB W A n xs → RB W A' (n - lN) (xs.drop lN)) ∧ sameBlock A A' := by
  obtain ⟨i0, hi, _, hz1, _⟩ := info_parts hinfo
  have hel : P.elem t = e := by simp [Program.elem, ht]
  have hu : P.underlying t = some (.slice (P.elem t)) := by rw [hel]; exact ht
  refine ⟨if c = lN then A else A.map (·.add lN), fun W => ?_, fun W xs hr => hr.drop_ lN hn hc, cut_addr A c lN⟩
  rw [run_slice_l W t A n c hu kl l (by omega) (by omega), hel]
  have e1 : l.toNat = lN := by omega
  simp [sizeOf, typeInfo, hi, hz1, sliced, Result.andThen, e1]
/-- 'x[:m:m]'. -/
theorem cut_hm (ht : P.underlying t = some (.slice e)) (hinfo : (P.info? e).map (fun i => (i.zero, i.size, i.bytes)) = some (some (.int .u8 0), 1, 1)) (kh km : IntKind) (A : Option Addr) (n c : Nat) (h : Int) (mN : Nat) (hh : h = mN) (hn : mN ≤ n) (hc : n ≤ c) :
    ∃ A', (∀ W : World, (Instr.slice t (.slice A n c) none (some (.int kh h)) (some (.int km h))).run P W = .ok (.slice A' mN mN) W) ∧ (∀ (W : World) (xs : List Int), RB W A n xs → RB W A' mN (xs.take mN)) ∧ sameBlock A A' := by
  obtain ⟨i0, hi, _, hz1, _⟩ := info_parts hinfo
  have hel : P.elem t = e := by simp [Program.elem, ht]
  have hu : P.underlying t = some (.slice (P.elem t)) := by rw [hel]; exact ht
  refine ⟨if mN = 0 then A else A.map (·.add 0), fun W => ?_, fun W xs hr => ?_, cut_addr A mN 0⟩
  · rw [run_slice_hm W t A n c hu kh km h h (by omega) (by omega) (by omega), hel]
    have e1 : h.toNat = mN := by omega
    simp [sizeOf, typeInfo, hi, hz1, sliced, Result.andThen, e1]
  · have h1 := hr.take_ mN hn
    have e1 : (if mN = 0 then A else A.map (·.add 0)) = A := by
      split
      · rfl
      · cases A <;> simp [Addr.add]
    rw [e1]
    exact h1
end
/-! string(b); two such texts held against each other. -/
theorem rb_string {P : Program} (src dst e : TypeId) (hs : P.underlying src = some (.slice e)) (he : P.underlying e = some (.int .u8)) (hd : P.underlying dst = some .string) {w : World} {A : Option Addr} {n : Nat} {xs : List Int} (h : RB w A n xs) (c : Nat) :
    (convert src dst (.slice A n c)).run P w = .ok (.string (strOfNums xs)) w := by
  have hl := h.len
  rcases A with _ | ad
  · obtain rfl : n = 0 := by
      rcases Nat.eq_zero_or_pos n with h0 | h0
      · exact h0
      · obtain ⟨ad, h, _⟩ := h.2.2.2 h0
        cases h
    obtain rfl : xs = [] := List.eq_nil_of_length_eq_zero hl
    exact run_convert_bytes_nil w src e hs he 0 c dst hd
  · have hlc : (loadCells ad n).run P w = .ok (xs.map (Value.int .u8)).toArray w := by
      have := run_loadCells_list (P := P) w ad (xs.map (Value.int .u8)) (fun j v hj => by
        have hjl : j < xs.length := by
          rcases Nat.lt_or_ge j xs.length with h' | h'
          · exact h'
          · rw [List.getElem?_eq_none (by simpa using h')] at hj
            cases hj
        obtain ⟨ad', x, ea, _, _, hx, hc⟩ := h.atL j (by omega)
        cases ea
        rw [hc]
        rw [List.getElem?_map, hx] at hj
        exact hj)
      simpa [hl] using this
    rw [run_convert_bytes_string w src dst e _ n c hs he hd, run_bytesToString w _ n c xs hlc, foldl_push_bytes]
    simp [strOfNums, ByteArray.empty, ByteArray.emptyWithCapacity]
    rfl
theorem strOfNums_inj {xs ys : List Int} (hx : u8Ok xs) (hy : u8Ok ys) (h : (strOfNums xs).toList = (strOfNums ys).toList) : xs = ys := by
  rw [ByteArray.toList_eq, ByteArray.toList_eq, strOfNums_data, strOfNums_data] at h
  have hl : xs.length = ys.length := by simpa using congrArg List.length h
  apply List.ext_getElem hl
  intro j h1 h2
  have hj := congrArg (fun l => l[j]?) h
  simp only [List.getElem?_map, List.getElem?_eq_getElem h1, List.getElem?_eq_getElem h2, Option.map_some, Option.some.injEq] at hj
  have b1 := hx _ (List.getElem_mem h1)
  have b2 := hy _ (List.getElem_mem h2)
  have := congrArg UInt8.toNat hj
  rw [UInt8.toNat_ofNat', UInt8.toNat_ofNat', Nat.mod_eq_of_lt (by omega), Nat.mod_eq_of_lt (by omega)] at this
  omega
theorem strOfNums_eq (xs ys : List Int) (hx : u8Ok xs) (hy : u8Ok ys) : ((strOfNums xs).toList == (strOfNums ys).toList) = decide (xs = ys) := by
  rw [Bool.eq_iff_iff]
  simp only [beq_iff_eq, decide_eq_true_eq]
  exact ⟨strOfNums_inj hx hy, fun h => by rw [h]⟩
/-! append(v, x), x of several cells, laid in a box. -/
theorem box_cells (W : World) (e : TypeId) (news : List Value) : ∀ j u, news[j]? = some u → (W.alloc (.cells news.toArray e)).cell? ((⟨W.heap.size, 0, none⟩ : Addr).add j) = some u := by
  intro j u hu
  rw [add_plain, cell_of_row _ _ j news.toArray e (0, 0) (heap_alloc_new W _)]
  simpa using hu
theorem wp_append_el {P : Program} {W : World} {o : Oper} {a : Act} {K : Act → World → Prop} {Q : Exit → Act → World → Prop} (s x : Operand) (t : TypeId)
    (ho : o.op = .call { callee := .builtin .append, args := #[s, x], argTypes := #[t, t] })
    (base : Nat) (e : TypeId) (z : Value) (size bytes : Nat) (ht : P.underlying t = some (.slice e)) (hinfo : (P.info? e).map (fun i => (i.zero, i.size, i.bytes)) = some (some z, size, bytes))
    (hzs : z.cells.size = size) (hsz : 0 < size) (v : Value) (n : Nat) (xs news : List Value) (hs : a.eval s = v) (hown : W.ownsRow base e size v n xs) (hx : a.eval x = .slice (some ⟨W.heap.size, 0, none⟩) 1 1)
    (hl : news.length = size) (h1 : ∀ u ∈ news, u.oneCell' = true) (hb : (n + 1) * bytes ≤ 140737488355328) (hn : n + 1 ≤ maxLen) (hbase : base ≤ W.heap.size)
    (h : ∀ A' c' w', w'.ownsRow base e size (.slice A' (n + 1) c') (n + 1) (xs ++ news) → (W.alloc (.cells news.toArray e)).grownBy w' v.ownBlock → newRow (W.alloc (.cells news.toArray e)) v (.slice A' (n + 1) c') → K (a.put o.dst (.slice A' (n + 1) c')) w') :
    o.wp P a (W.alloc (.cells news.toArray e)) K Q := by
  obtain ⟨i0, hi, hz0, hz1, hz2⟩ := info_parts hinfo
  obtain ⟨v', w', hrun, h2, h3, _, h5⟩ := run_append_own_at (P := P) (W.alloc (.cells news.toArray e)) base t o.type e i0 z size bytes ht hi hz0 hz1 hz2 hzs hsz v n xs (hown.alloc _) ⟨W.heap.size, 0, none⟩ 1 1 news (by omega) (box_cells W e news) h1 hn hb (by simp; omega)
  unfold Oper.wp execOp
  simp only [ho, resolve, invoke, builtin, Sem.run_bind, Sem.run_pure, Result.andThen_ok, List.map_toArray, List.map_cons, List.map_nil, hs, hx, hrun]
  obtain ⟨A', c', rfl, _⟩ := own_slice h2
  exact h A' c' w' h2 h3 h5
theorem wpList_append_el {P : Program} {W : World} {ops : Array Oper} {rest : List Oper} {o : Oper} {a : Act} {Q : Exit → Act → World → Prop} (hgd : o.guard = none) (s x : Operand) (t : TypeId)
    (ho : o.op = .call { callee := .builtin .append, args := #[s, x], argTypes := #[t, t] })
    (base : Nat) (e : TypeId) (z : Value) (size bytes : Nat) (ht : P.underlying t = some (.slice e)) (hinfo : (P.info? e).map (fun i => (i.zero, i.size, i.bytes)) = some (some z, size, bytes))
    (hzs : z.cells.size = size) (hsz : 0 < size) (v : Value) (n : Nat) (xs news : List Value) (hs : a.eval s = v) (hown : W.ownsRow base e size v n xs) (hx : a.eval x = .slice (some ⟨W.heap.size, 0, none⟩) 1 1)
    (hl : news.length = size) (h1 : ∀ u ∈ news, u.oneCell' = true) (hb : (n + 1) * bytes ≤ 140737488355328) (hn : n + 1 ≤ maxLen) (hbase : base ≤ W.heap.size)
    (h : ∀ A' c' w', w'.ownsRow base e size (.slice A' (n + 1) c') (n + 1) (xs ++ news) → (W.alloc (.cells news.toArray e)).grownBy w' v.ownBlock → newRow (W.alloc (.cells news.toArray e)) v (.slice A' (n + 1) c') → wpList P ops Q rest (a.put o.dst (.slice A' (n + 1) c')) w') :
    wpList P ops Q (o :: rest) a (W.alloc (.cells news.toArray e)) :=
  wpList_plain hgd fun _ hK => wp_append_el s x t ho base e z size bytes ht hinfo hzs hsz v n xs news hs hown hx hl h1 hb hn hbase fun A' c' w' h2 h3 h4 => hK _ _ (h A' c' w' h2 h3 h4)
theorem wpList_append_el2 {P : Program} {W : World} {ops : Array Oper} {rest : List Oper} {o : Oper} {a : Act} {Q : Exit → Act → World → Prop} (hgd : o.guard = none) (s x : Operand) (t : TypeId)
    (ho : o.op = .call { callee := .builtin .append, args := #[s, x], argTypes := #[t, t] })
    (base : Nat) (e : TypeId) (z : Value) (size bytes : Nat) (ht : P.underlying t = some (.slice e)) (hinfo : (P.info? e).map (fun i => (i.zero, i.size, i.bytes)) = some (some z, size, bytes))
    (hzs : z.cells.size = size) (hsz : 0 < size) (v : Value) (n : Nat) (xs news : List Value) (hs : a.eval s = v) (hown : W.ownsRow base e size v n xs) (bn : Nat) (hbn : bn = W.heap.size) (hx : a.eval x = .slice (some ⟨bn, 0, none⟩) 1 1)
    (hl : news.length = size) (h1 : ∀ u ∈ news, u.oneCell' = true) (hb : (n + 1) * bytes ≤ 140737488355328) (hn : n + 1 ≤ maxLen) (hbase : base ≤ W.heap.size)
    (h : ∀ A' c' w', w'.ownsRow base e size (.slice A' (n + 1) c') (n + 1) (xs ++ news) → (W.alloc (.cells news.toArray e)).grownBy w' v.ownBlock → newRow (W.alloc (.cells news.toArray e)) v (.slice A' (n + 1) c') → wpList P ops Q rest (a.put o.dst (.slice A' (n + 1) c')) w') :
    wpList P ops Q (o :: rest) a (W.alloc (.cells news.toArray e)) :=
  wpList_append_el hgd s x t ho base e z size bytes ht hinfo hzs hsz v n xs news hs hown (by rw [hx, hbn]) hl h1 hb hn hbase h
/-- append of bytes inside a region that draws its order. -/
theorem step_append_rb {P : Program} (w : World) {ops : Array Oper} {o : Oper} {a : Act} {K : Act → World → Prop} {Q : Exit → Act → World → Prop} {E : Prop} (hgd : o.guard = none) (s x : Operand) (t : TypeId)
    (ho : o.op = .call { callee := .builtin .append, args := #[s, x], argTypes := #[t, t] })
    (base : Nat) (e : TypeId) (ht : P.underlying t = some (.slice e)) (hinfo : (P.info? e).map (fun i => (i.zero, i.size, i.bytes)) = some (some (.int .u8 0), 1, 1))
    (v : Value) (xs ys : List Int) (hs : a.eval s = v) (hown : w.ownsRow base e 1 v xs.length (u8s xs)) (A : Option Addr) (m c : Nat) (hx : a.eval x = .slice A m c) (hr : RB w A m ys)
    (hl : xs.length + m ≤ 140737488355328) (hbase : base ≤ w.heap.size)
    (h : ∀ A' c' w', w'.ownsRow base e 1 (.slice A' (xs ++ ys).length c') (xs ++ ys).length (u8s (xs ++ ys)) → w.grownBy w' v.ownBlock → newRow w v (.slice A' (xs ++ ys).length c') → K (a.put o.dst (.slice A' (xs ++ ys).length c')) w') :
    if Region.wanted o (yielded ops a.tmps) = true then Oper.wp P o a w K Q else E := by
  have hw : Region.wanted o (yielded ops a.tmps) = true := by simp [Region.wanted, hgd]
  rw [if_pos hw]
  exact wp_append_rb w s x t ho base e ht hinfo v xs ys hs hown A m c hx hr hl hbase h
/-! What is not block g and no row of type e has not turned. -/
def Oth (e : TypeId) (g : Nat) (w w' : World) : Prop := ∀ i cs t fr, w.heap[i]? = some (.cells cs t fr) → t ≠ e → i ≠ g → w'.heap[i]? = some (.cells cs t fr)
theorem Oth.refl (e : TypeId) (g : Nat) (w : World) : Oth e g w w := fun _ _ _ _ h _ _ => h
theorem Oth.trans {e : TypeId} {g : Nat} {a b c : World} (h : Oth e g a b) (k : Oth e g b c) : Oth e g a c := fun i cs t fr hi ht hg => k i cs t fr (h i cs t fr hi ht hg) ht hg
theorem heap_lt {w : World} {i : Nat} {o : Obj} (h : w.heap[i]? = some o) : i < w.heap.size := (Array.getElem?_eq_some_iff.1 h).1
theorem Oth.of_below {e : TypeId} {g : Nat} {w w' : World} (h : Below w.heap.size w w') : Oth e g w w' := fun i _ _ _ hi _ _ => (h.block i (heap_lt hi)).trans hi
theorem Oth.of_grown {e : TypeId} {g : Nat} {w w' : World} (h : w.grownBy w' (some g)) : Oth e g w w' := fun i _ _ _ hi _ hg => (h.block i (heap_lt hi) (fun he => hg (by cases he; rfl))).trans hi
theorem own_ne_type {w : World} {base : Nat} {e : TypeId} {size n : Nat} {v : Value} {xs : List Value} (h : w.ownsRow base e size v n xs) {i : Nat} {cs : Array Value} {t : TypeId} {fr : Nat × Nat} (hi : w.heap[i]? = some (.cells cs t fr)) (hne : t ≠ e) : some i ≠ v.ownBlock := by
  rcases h.2 with ⟨rfl, _⟩ | ⟨g, cap, cur, rfl, _, hh, _⟩
  · simp [Value.ownBlock]
  · intro he
    have : i = g := by simpa [Value.ownBlock] using he
    subst this
    rw [hh] at hi
    injection hi with hi
    injection hi with _ ht
    exact hne ht.symm
theorem Oth.of_row {e : TypeId} {g : Nat} {w w' : World} {base size n : Nat} {v : Value} {xs : List Value} (ho : w.ownsRow base e size v n xs) (h : w.grownBy w' v.ownBlock) : Oth e g w w' := fun i _ _ _ hi ht _ => (h.block i (heap_lt hi) (own_ne_type ho hi ht)).trans hi
theorem Oth.blk {e : TypeId} {g : Nat} {w w' : World} (h : Oth e g w w') {b : Nat} {t : TypeId} {cs : Array Value} (hb : Blk w b t cs) (ht : t ≠ e) (hg : b ≠ g) : Blk w' b t cs := h b cs t (0, 0) hb ht hg
/-! Arrays stored whole, loaded whole out of bytes. -/
theorem wpList_store_block {P : Program} {ops : Array Oper} {rest : List Oper} {o : Oper} {a : Act} {w : World} {Q : Exit → Act → World → Prop} (hgd : o.guard = none) (ty : TypeId) (x v : Operand) (ho : o.op = .store ty x v)
    (g : Nat) (hx : a.eval x = .pointer (some ⟨g, 0, none⟩)) (cs : Array Value) (hv : a.eval v = .agg cs) (t : TypeId) (cur : Array Value) (hg : Blk w g t cur) (n : Nat) (hi : (P.info? ty).map (·.size) = some n) (hn : cs.size = n) (hc : cur.size = n) (h1 : ∀ u ∈ cs.toList, u.oneCell' = true)
    (h : wpList P ops Q rest (a.put o.dst undef) (w.setRow g cs)) : wpList P ops Q (o :: rest) a w := by
  refine wpList_plain hgd fun K hK => ?_
  obtain ⟨i0, hi0, hs⟩ := Option.map_eq_some_iff.1 hi
  have hrun := run_storeCells_at (P := P) g 0 t cs.toList 0 cur w hg (by simp; omega) h1
  have hrow : (cur.toList.take (0 + 0) ++ cs.toList ++ cur.toList.drop (0 + 0 + cs.toList.length)).toArray = cs := by
    rw [List.drop_eq_nil_of_le (by simp; omega)]
    simp
  rw [hrow] at hrun
  have hst : (storeVar ty ⟨g, 0, none⟩ (.agg cs)).run P w = .ok () (w.setRow g cs) := by
    simp [storeVar, Value.cells, sizeOf, typeInfo, hi0, hs, hn, hrun]
  unfold Oper.wp execOp
  simp only [ho, hx, hv, Instr.storeAt, Instr.sureAddr, Sem.run_bind, Sem.run_pure, Result.andThen_ok, hst]
  exact hK _ _ h
theorem blk_setRow {w : World} {g : Nat} {t : TypeId} {cur cs : Array Value} (h : Blk w g t cur) : Blk (w.setRow g cs) g t cs := setRow_heap w g cur cs t (0, 0) h
theorem grown_setRow (w : World) (g : Nat) (cs : Array Value) : w.grownBy (w.setRow g cs) (some g) := ⟨rfl, rfl, rfl, by simp, fun k _ hk => setRow_other w g k cs (fun e => hk (by rw [e]))⟩
theorem wpList_load_rb {P : Program} {ops : Array Oper} {rest : List Oper} {o : Oper} {a : Act} {w : World} {Q : Exit → Act → World → Prop} (hgd : o.guard = none) (ty : TypeId) (x : Operand) (ho : o.op = .load ty x)
    (ad : Addr) (hx : a.eval x = .pointer (some ad)) (n : Nat) (xs : List Int) (hr : RB w (some ad) n xs) (hn : 0 < n) (d : TypeDesc)
    (hu : P.underlying ty = some d) (hd : (match d with | .struct _ | .array _ _ => true | _ => false) = true) (hi : (P.info? ty).map (·.size) = some n)
    (h : wpList P ops Q rest (a.put o.dst (.agg (u8s xs).toArray)) w) : wpList P ops Q (o :: rest) a w := by
  refine wpList_plain hgd fun K hK => ?_
  obtain ⟨i0, hi0, hs⟩ := Option.map_eq_some_iff.1 hi
  have hl := hr.len
  have hlc : (loadCells ad n).run P w = .ok (u8s xs).toArray w := by
    have := run_loadCells_list (P := P) w ad (u8s xs) (fun j v hj => by
      have hjl : j < xs.length := by
        rcases Nat.lt_or_ge j xs.length with h' | h'
        · exact h'
        · rw [List.getElem?_eq_none (by rw [u8s_length]; exact h')] at hj
          cases hj
      obtain ⟨ad', hea, hc⟩ := hr.2.2.2 (by omega)
      cases hea
      rw [u8s_get xs j hjl] at hj
      cases hj
      exact hc j (by omega))
    rwa [u8s_length, hl] at this
  have hagg : (isAgg ty).run P w = .ok true w := by
    unfold isAgg
    rw [Sem.run_bind, run_underlying hu w]
    cases d <;> simp_all
  unfold Oper.wp execOp
  simp only [ho, hx, Instr.loadAt, Instr.sureAddr, Sem.run_bind, Sem.run_pure, Result.andThen_ok, loadVar, hagg, if_true, sizeOf, typeInfo]
  simp [hi0, hs, hlc]
  exact hK _ _ h
end Go.Proofs.YtcdjbfgkajfnlaaDoor
