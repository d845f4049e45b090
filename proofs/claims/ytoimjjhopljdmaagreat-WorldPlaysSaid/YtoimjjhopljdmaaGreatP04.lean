/- Texts Hlp Rin Bun Nid RefA Eq PoolL RefB RefC: what the claim reaches of them. Conditions stand at each theorem. -/
import Derived.Test.YtoimjjhopljdmaaGreatP03
set_option maxRecDepth 100000
set_option maxHeartbeats 8000000
namespace Go.Proofs.YtoimjjhopljdmaaGreat
open Go.RowKit
open Go.Proofs.Tryz (prog)
open Go.Value (int)
open Go.IntKind (i64)
open Go.Lib (hid)
theorem sl_lt {w : World} {e : TypeId} {size : Nat} {v : Value} {n : Nat} {xs : List Value} (h : Sl w e size v n xs) {g : Nat} (hg : v.ownBlock = some g) : g < w.heap.size := by
 obtain ⟨_, ⟨rfl, _⟩ | ⟨g', off, cap, cur, rfl, hb, _⟩⟩ := h
 · cases hg
 · cases hg; exact (Array.getElem?_eq_some_iff.1 hb).1
theorem sl_frm {w : World} {e : TypeId} {size : Nat} {v : Value} {n : Nat} {xs : List Value} (h : Sl w e size v n xs) : ∃ p cap, v = .slice p n cap := by
 obtain ⟨_, ⟨rfl, rfl⟩ | ⟨g, off, cap, cur, rfl, _⟩⟩ := h
 · exact ⟨none, 0, rfl⟩
 · exact ⟨_, cap, rfl⟩
theorem new_cells (W : World) (arr : Array Value) (t : TypeId) (j : Nat) (u : Value) (h : arr.toList[j]? = some u) : (W.alloc (.cells arr t)).cell? (Addr.add ⟨W.heap.size, 0, none⟩ j) = some u := by
 have e : Addr.add ⟨W.heap.size, 0, none⟩ j = ⟨W.heap.size, j, none⟩ := by unfold Addr.add; split <;> simp_all
 rw [e]
 simp
 simpa using h
theorem heap_alloc_new_at (W : World) (o : Obj) (n : Nat) (h : n = W.heap.size) : (W.alloc o).heap[n]? = some o := by subst h; exact heap_alloc_new W o
theorem new_cellsN (W : World) (arr : Array Value) (t : TypeId) (n : Nat) (hn : n = W.heap.size) (j : Nat) (u : Value) (h : arr.toList[j]? = some u) : (W.alloc (.cells arr t)).cell? (Addr.add ⟨n, 0, none⟩ j) = some u := by subst hn; exact new_cells W arr t j u h
theorem info_partsG {P : Program} {t : TypeId} {z : Value} {s b : Nat} (h : (P.info? t).map (fun i => (i.zero, i.size, i.bytes)) = some (some z, s, b)) : ∃ i, P.info? t = some i ∧ i.zero = some z ∧ i.size = s ∧ i.bytes = b := by
 cases hi : P.info? t with
 | none => rw [hi] at h; cases h
 | some i => rw [hi] at h; simp at h; exact ⟨i, rfl, h.1, h.2.1, h.2.2⟩
theorem ltz {a W : Nat} (h : a < W) : (∀ n, a < W + n) ∧ (∀ n m, a < W + n + m) ∧ (∀ n m q, a < W + n + m + q) := ⟨fun _ => by omega, fun _ _ => by omega, fun _ _ _ => by omega⟩
theorem new_box (W : World) (arr : Array Value) (t : TypeId) (n : Nat) (hn : n = W.heap.size) : (∀ u, (W.alloc (.cells arr t)).cell? ⟨n, u, none⟩ = arr[u]?) ∧ (∀ u, (W.alloc (.cells arr t)).frozen? ⟨n, u, none⟩ = false) ∧ n < (W.alloc (.cells arr t)).heap.size ∧ Below W.heap.size W (W.alloc (.cells arr t)) := by
 subst hn
 have e := heap_alloc_new_at W (.cells arr t) W.heap.size rfl
 refine ⟨fun u => ?_, fun u => ?_, by simp, (Below.refl _ _).alloc (Nat.le_refl _) _⟩
 · unfold World.cell?; rw [e]; rfl
 · unfold World.frozen?; rw [e]; simp
theorem box_on {w w' : World} {n : Nat} {arr : Array Value} (hb : Below w.heap.size w w') (hn : n < w.heap.size) (hc : ∀ u, w.cell? ⟨n, u, none⟩ = arr[u]?) : ∀ u, w'.cell? ⟨n, u, none⟩ = arr[u]? := fun u => (hb.cell (p := ⟨n, u, none⟩) hn).trans (hc u)
theorem box_fr {w w' : World} {n : Nat} (hb : Below w.heap.size w w') (hn : n < w.heap.size) (hf : ∀ u, w.frozen? ⟨n, u, none⟩ = false) : ∀ u, w'.frozen? ⟨n, u, none⟩ = false := fun u => (World.frozen?_of_block (w := w) (a := ⟨n, u, none⟩) (hb.block n hn)).trans (hf u)
theorem ltw {a W : Nat} (h : a < W) : (∀ n, a < W + n) ∧ (∀ n m, a < W + n + m) ∧ (∀ n m q, a < W + n + m + q) := ⟨fun _ => by omega, fun _ _ => by omega, fun _ _ _ => by omega⟩
theorem list_of {β : Type} {P : Nat → β → Prop} : ∀ (n : Nat), (∀ i, i < n → ∃ b, P i b) → ∃ l : List β, l.length = n ∧ ∀ i b, l[i]? = some b → P i b
 | 0, _ => ⟨[], rfl, fun i b h => by cases h⟩
 | n + 1, h => by
   obtain ⟨l, hl, hp⟩ := list_of n fun i hi => h i (by omega)
   obtain ⟨b, hb⟩ := h n (by omega)
   refine ⟨l ++ [b], by simp [hl], fun i c hc => ?_⟩
   by_cases hi : i < n
   · rw [List.getElem?_append_left (by omega)] at hc; exact hp i c hc
   · rw [List.getElem?_append_right (by omega)] at hc
     have : i - l.length = 0 := by have := (List.getElem?_eq_some_iff.1 hc).1; simp at this; omega
     rw [this] at hc
     simp at hc
     subst hc
     obtain rfl : i = n := by omega
     exact hb
theorem two_boxes (W : World) (a6 a7 : Array Value) (t6 t7 : TypeId) : ∃ w1, w1 = (W.alloc (.cells a6 t6)).alloc (.cells a7 t7) ∧ Below W.heap.size W w1 ∧ (∀ u, w1.cell? ⟨W.heap.size, u, none⟩ = a6[u]?) ∧ (∀ u, w1.cell? ⟨W.heap.size + 1, u, none⟩ = a7[u]?) ∧
 (∀ u, w1.frozen? ⟨W.heap.size, u, none⟩ = false) ∧ (∀ u, w1.frozen? ⟨W.heap.size + 1, u, none⟩ = false) ∧ w1.heap.size = W.heap.size + 1 + 1 := by
 have e6 : ((W.alloc (.cells a6 t6)).alloc (.cells a7 t7)).heap[W.heap.size]? = some (.cells a6 t6) :=
  (((Below.refl _ (W.alloc (.cells a6 t6))).alloc (Nat.le_refl _) (.cells a7 t7)).block W.heap.size (by simp)).trans (heap_alloc_new_at W _ _ rfl)
 have e7 : ((W.alloc (.cells a6 t6)).alloc (.cells a7 t7)).heap[W.heap.size + 1]? = some (.cells a7 t7) := heap_alloc_new_at _ _ _ (by simp)
 refine ⟨_, rfl, bg, fun u => ?_, fun u => ?_, fun u => ?_, fun u => ?_, by simp⟩
 · unfold World.cell?; rw [e6]; rfl
 · unfold World.cell?; rw [e7]; rfl
 · unfold World.frozen?; rw [e6]; simp
 · unfold World.frozen?; rw [e7]; simp
theorem Turned.below_new {W w2 a : World} {b : Option Nat} {B : Nat} (h : Turned W w2 b) (hb : ∀ k, b = some k → B ≤ k) (h0 : Below B a W) (hB : B ≤ W.heap.size) : Below B a w2 :=
 h0.trans ⟨h.os, h.tape, h.output, by have := h.size; omega, fun k hk => h.block k (by omega) (fun e => by have := hb k e.symm; omega)⟩
theorem cell_set_ne {w : World} {b o o' : Nat} {u : Value} (h : o ≠ o') : (w.setCell ⟨b, o, none⟩ u).cell? ⟨b, o', none⟩ = w.cell? ⟨b, o', none⟩ := by
 simp only [World.setCell, World.cell?, Array.getElem?_modify, if_true]
 cases w.heap[b]? with
 | none => rfl
 | some x =>
   cases x <;> simp [Array.getElem?_setIfInBounds_ne h]
theorem one_box (W : World) (a6 : Array Value) (t6 : TypeId) : ∃ w1, w1 = W.alloc (.cells a6 t6) ∧ (∀ u, w1.cell? ⟨W.heap.size, u, none⟩ = a6[u]?) ∧ Below W.heap.size W w1 ∧ (∀ u, w1.frozen? ⟨W.heap.size, u, none⟩ = false) ∧ w1.heap.size = W.heap.size + 1 := by
 obtain ⟨h1, h2, h3, h4⟩ := new_box W a6 t6 W.heap.size rfl
 exact ⟨_, rfl, h1, h4, h2, by simp⟩
section
section
variable {β : Type} (enc : β → List Value) (T : TypeId) (size : Nat) (hk : ∀ x, (enc x).length = size)
def cellsR (l : List β) : List Value := l.flatMap enc
theorem cellsR_app (l l' : List β) : cellsR enc (l ++ l') = cellsR enc l ++ cellsR enc l' := by simp [cellsR]
theorem cellsR_one (x : β) : cellsR enc [x] = enc x := by simp [cellsR]
theorem cellsR_mem {l : List β} (h1 : ∀ x, ∀ v ∈ enc x, v.oneCell' = true) : ∀ u ∈ cellsR enc l, u.oneCell' = true := fun u hu => by
 obtain ⟨b, _, hb⟩ := List.mem_flatMap.1 hu
 exact h1 b u hb
include hk in
theorem cellsR_len : ∀ l : List β, (cellsR enc l).length = l.length * size
 | [] => by simp [cellsR]
 | b :: l => by
   have h := cellsR_len l
   simp only [cellsR, List.flatMap_cons, List.length_append, hk, List.length_cons] at *
   rw [h, Nat.add_mul, Nat.one_mul, Nat.add_comm]
include hk in
theorem cellsR_get : ∀ (l : List β) (k j : Nat) (b : β), l[k]? = some b → j < size → (cellsR enc l)[k * size + j]? = (enc b)[j]?
 | c :: l, 0, j, b, h, hj => by
   obtain rfl : c = b := by simpa using h
   simp only [cellsR, List.flatMap_cons, Nat.zero_mul, Nat.zero_add]
   rw [List.getElem?_append_left (by rw [hk]; exact hj)]
 | c :: l, k + 1, j, b, h, hj => by
   have ih := cellsR_get l k j b (by simpa using h) hj
   simp only [cellsR, List.flatMap_cons] at *
   rw [List.getElem?_append_right (by rw [hk, Nat.add_mul]; omega), hk, show (k + 1) * size + j - size = k * size + j by rw [Nat.add_mul]; omega, ih]
def RIn (w : World) (v : Value) (l : List β) : Prop :=
 ∃ p cap, v = .slice p l.length cap ∧ l.length ≤ maxLen ∧ (p = none → cap = 0) ∧ l.length ≤ cap ∧ (l ≠ [] → ∃ blk off, p = some ⟨blk, off, none⟩ ∧ blk < w.heap.size ∧ ∀ t u, (cellsR enc l)[t]? = some u → w.cell? ⟨blk, off + t, none⟩ = some u)
def RNew (w w' : World) (v : Value) (l : List β) : Prop := Sl w' T size v l.length (cellsR enc l) ∧ Below w.heap.size w w' ∧ ∀ g, v.ownBlock = some g → w.heap.size ≤ g
variable {enc T size}
theorem RIn.of_sl {w : World} {v : Value} {l : List β} (h : Sl w T size v l.length (cellsR enc l)) : RIn enc w v l := by
 obtain ⟨_, ⟨rfl, h0⟩ | ⟨g, off, cap, cur, rfl, hb, hn, hc, hsz, hr⟩⟩ := h
 · obtain rfl := List.eq_nil_of_length_eq_zero h0
   exact ⟨none, 0, rfl, by simp [maxLen], fun _ => rfl, Nat.le_refl _, fun h => absurd rfl h⟩
 · exact ⟨_, cap, rfl, by omega, (fun h => by cases h), hn, fun _ => ⟨g, off, rfl, (Array.getElem?_eq_some_iff.1 hb).1, fun t u hu => by simp [World.cell?, hb, hr t u hu]⟩⟩
theorem RIn.keep {w w' : World} {v : Value} {l : List β} (h : RIn enc w v l) (hb : Below w.heap.size w w') : RIn enc w' v l := by
 obtain ⟨p, cap, rfl, h1, h2, h3, h4⟩ := h
 refine ⟨p, cap, rfl, h1, h2, h3, fun hn => ?_⟩
 obtain ⟨blk, off, rfl, h5, h6⟩ := h4 hn
 exact ⟨blk, off, rfl, Nat.lt_of_lt_of_le h5 hb.size, fun t u hu => (hb.cell (p := ⟨blk, off + t, none⟩) h5).trans (h6 t u hu)⟩
include hk in
theorem RIn.cells {w : World} {v : Value} {l : List β} (h : RIn enc w v l) {k : Nat} {b : β} (hb : l[k]? = some b) : ∃ blk off cap, v = .slice (some ⟨blk, off, none⟩) l.length cap ∧ blk < w.heap.size ∧ ∀ j u, (enc b)[j]? = some u → w.cell? ⟨blk, off + k * size + j, none⟩ = some u := by
 obtain ⟨p, cap, rfl, _, _, _, h4⟩ := h
 obtain ⟨blk, off, rfl, h5, h6⟩ := h4 (fun e => by subst e; cases hb)
 refine ⟨blk, off, cap, rfl, h5, fun j u hj => ?_⟩
 have hj' : j < size := by have := (List.getElem?_eq_some_iff.1 hj).1; rwa [hk] at this
 have e := cellsR_get enc size hk l k j b hb hj'
 rw [Nat.add_assoc]
 exact h6 _ u (e.trans hj)
theorem RNew.rin {w0 w : World} {v : Value} {l : List β} (h : RNew enc T size w0 w v l) : RIn enc w v l := RIn.of_sl h.1
theorem RNew.grow {w0 w w' : World} {v : Value} {l : List β} (h : RNew enc T size w0 w v l) (hb : Below w.heap.size w w') : RNew enc T size w0 w' v l :=
 ⟨h.1.keep fun g hg => hb.block g (sl_lt h.1 hg), h.2.1.trans (hb.mono h.2.1.size), h.2.2⟩
theorem RNew.nil (w : World) : RNew enc T size w w (.slice none 0 0) ([] : List β) := ⟨⟨by simp [cellsR], .inl ⟨rfl, rfl⟩⟩, Below.refl _ _, fun g hg => by cases hg⟩
theorem RNew.since {w0 w1 w : World} {v : Value} {l : List β} (h : RNew enc T size w1 w v l) (hb : Below w0.heap.size w0 w1) : RNew enc T size w0 w v l :=
 ⟨h.1, hb.trans (h.2.1.mono hb.size), fun g hg => Nat.le_trans hb.size (h.2.2 g hg)⟩
theorem RNew.snoc {w0 w w1 : World} {v v' : Value} {l : List β} {b : β} (h : RNew enc T size w0 w v l) (hs : Sl w1 T size v' (l.length + 1) (cellsR enc l ++ enc b)) (ht : Turned w w1 v.ownBlock)
 (ho : v'.ownBlock = v.ownBlock ∨ ∃ g, v'.ownBlock = some g ∧ w.heap.size ≤ g) : RNew enc T size w0 w1 v' (l ++ [b]) := by
 refine ⟨?_, h.2.1.trans ⟨ht.os, ht.tape, ht.output, ht.size, fun k hk => ht.block k (by have := h.2.1.size; omega) fun e => by have := h.2.2 k e.symm; omega⟩, fun q hq => ?_⟩
 · rw [cellsR_app, cellsR_one]; simpa using hs
 · rcases ho with e | ⟨g', e, hg'⟩
   · exact h.2.2 q (by rw [← e]; exact hq)
   · rw [e] at hq
     cases hq
     exact Nat.le_trans h.2.1.size hg'
end
end
structure Bun where
 (s i g m x y vx vy hp pw lf : Int)
 deriving DecidableEq
abbrev Bun.arr (b : Bun) : Array Value := #[int i64 b.s, int i64 b.i, int i64 b.g, int i64 b.m, int i64 b.x, int i64 b.y, int i64 b.vx, int i64 b.vy, int i64 b.hp, int i64 b.pw, int i64 b.lf]
abbrev Bun.v (b : Bun) : Value := .agg b.arr
@[simp, go_sem] theorem Bun.eta (b : Bun) : (⟨b.s, b.i, b.g, b.m, b.x, b.y, b.vx, b.vy, b.hp, b.pw, b.lf⟩ : Bun) = b := rfl
structure Cm where
 (k s i g : Int) (b : Bun) (mask : Int)
def inR (lo n hi : Int) : Bool := decide (lo ≤ n) && decide (n ≤ hi)
def withinB (h : Bool) (n lo hi : Int) : Bool := if h then inR lo n hi else n == 0
def hasB (m k : Int) : Bool := bits .and .i64 m k == k
def errB (ok : Bool) : Int := if ok then 0 else 1
def idOk (s i g : Int) : Bool := inR 0 s 15 && inR 0 i 15 && inR 0 g 1048575
def rightB (b : Bun) : Bool :=
 inR 0 b.m 31 && withinB (hasB b.m 1) b.x (-1073741824) 1073741824 && withinB (hasB b.m 1) b.y (-1073741824) 1073741824 && withinB (hasB b.m 2) b.vx (-1073741824) 1073741824 &&
 withinB (hasB b.m 2) b.vy (-1073741824) 1073741824 && withinB (hasB b.m 4) b.hp 1 1048576 && withinB (hasB b.m 8) b.pw 0 1024 && withinB (hasB b.m 16) b.lf 1 1048576
def checkB (b : Bun) : Bool := rightB b && hasB b.m 1 && idOk b.s b.i b.g
def someB (m : Int) : Bool := decide (0 < m) && decide (m ≤ 31) && (bits .and .i64 m 1 == 0)
def idEq (s i g s' i' g' : Int) : Bool := s == s' && i == i' && g == g'
def bunEq (a b : Bun) : Bool := decide (a = b)
def idZero (s i g : Int) : Bool := idEq s i g 0 0 0
def bunZero (b : Bun) : Bool := bunEq b ⟨0, 0, 0, 0, 0, 0, 0, 0, 0, 0, 0⟩
def cmdB (c : Cm) : Bool :=
 if c.k == 1 then idZero c.s c.i c.g && c.mask == 0 && checkB c.b
 else if c.k == 3 then c.mask == 0 && idZero c.b.s c.b.i c.b.g && someB c.b.m && rightB c.b && idOk c.s c.i c.g
 else if c.k == 4 then someB c.mask && bunZero c.b && idOk c.s c.i c.g
 else if c.k == 2 then c.mask == 0 && bunZero c.b && idOk c.s c.i c.g
 else false
def withF (b c : Bun) : Bun :=
 { s := b.s, i := b.i, g := b.g, m := bits .or .i64 b.m c.m, x := if hasB c.m 1 then c.x else b.x, y := if hasB c.m 1 then c.y else b.y, vx := if hasB c.m 2 then c.vx else b.vx, vy := if hasB c.m 2 then c.vy else b.vy,
   hp := if hasB c.m 4 then c.hp else b.hp, pw := if hasB c.m 8 then c.pw else b.pw, lf := if hasB c.m 16 then c.lf else b.lf }
def withoutF (b : Bun) (k : Int) : Bun :=
 { s := b.s, i := b.i, g := b.g, m := bits .andNot .i64 (bits .or .i64 b.m k) k, x := if hasB k 1 then 0 else b.x, y := if hasB k 1 then 0 else b.y, vx := if hasB k 2 then 0 else b.vx, vy := if hasB k 2 then 0 else b.vy,
   hp := if hasB k 4 then 0 else b.hp, pw := if hasB k 8 then 0 else b.pw, lf := if hasB k 16 then 0 else b.lf }
def tb (m c : Int) : Bool := !((m / c) % 2 == 0)
def rRightB (b : Bun) : Bool :=
 inR 0 b.m 31 && withinB (tb b.m 1) b.x (-1073741824) 1073741824 && withinB (tb b.m 1) b.y (-1073741824) 1073741824 && withinB (tb b.m 2) b.vx (-1073741824) 1073741824 &&
 withinB (tb b.m 2) b.vy (-1073741824) 1073741824 && withinB (tb b.m 4) b.hp 1 1048576 && withinB (tb b.m 8) b.pw 0 1024 && withinB (tb b.m 16) b.lf 1 1048576
def rIdOk (s i g : Int) : Bool := decide (0 ≤ s) && decide (s ≤ 15) && decide (0 ≤ i) && decide (i ≤ 15) && decide (0 ≤ g) && decide (g < 1048576)
def rMayB (b : Bun) : Bool := rIdOk b.s b.i b.g && rRightB b && tb b.m 1
def rTakesB (m : Int) : Bool := decide (1 ≤ m) && decide (m ≤ 31) && (m % 2 == 0)
def rCmdB (c : Cm) : Bool :=
 if c.k == 1 then idZero c.s c.i c.g && c.mask == 0 && rMayB c.b
 else if c.k == 2 then rIdOk c.s c.i c.g && c.mask == 0 && bunZero c.b
 else if c.k == 3 then rIdOk c.s c.i c.g && c.mask == 0 && idZero c.b.s c.b.i c.b.g && rTakesB c.b.m && rRightB c.b
 else if c.k == 4 then rIdOk c.s c.i c.g && bunZero c.b && rTakesB c.mask
 else false
def rWithF (b c : Bun) : Bun :=
 { s := b.s, i := b.i, g := b.g, m := bits .or .i64 b.m c.m, x := if tb c.m 1 then c.x else b.x, y := if tb c.m 1 then c.y else b.y, vx := if tb c.m 2 then c.vx else b.vx, vy := if tb c.m 2 then c.vy else b.vy,
   hp := if tb c.m 4 then c.hp else b.hp, pw := if tb c.m 8 then c.pw else b.pw, lf := if tb c.m 16 then c.lf else b.lf }
def rWithoutF (b : Bun) (k : Int) : Bun :=
 { s := b.s, i := b.i, g := b.g, m := wrap64 (b.m - bits .and .i64 b.m k), x := if tb k 1 then 0 else b.x, y := if tb k 1 then 0 else b.y, vx := if tb k 2 then 0 else b.vx, vy := if tb k 2 then 0 else b.vy,
   hp := if tb k 4 then 0 else b.hp, pw := if tb k 8 then 0 else b.pw, lf := if tb k 16 then 0 else b.lf }
def bunL (b : Bun) : List Value := b.arr.toList
theorem bunL_len (b : Bun) : (bunL b).length = 11 := rfl
theorem bunL_one (b : Bun) : ∀ u ∈ bunL b, u.oneCell' = true := fun u hu => by
 simp [bunL] at hu
 rcases hu with rfl | rfl | rfl | rfl | rfl | rfl | rfl | rfl | rfl | rfl | rfl <;> rfl
def BFit (b : Bun) : Prop := (-9223372036854775808 ≤ b.s ∧ b.s ≤ 9223372036854775807) ∧ (-9223372036854775808 ≤ b.i ∧ b.i ≤ 9223372036854775807) ∧ (-9223372036854775808 ≤ b.g ∧ b.g ≤ 9223372036854775807) ∧ (-9223372036854775808 ≤ b.m ∧ b.m ≤ 9223372036854775807) ∧ (-9223372036854775808 ≤ b.x ∧ b.x ≤ 9223372036854775807) ∧ (-9223372036854775808 ≤ b.y ∧ b.y ≤ 9223372036854775807) ∧ (-9223372036854775808 ≤ b.vx ∧ b.vx ≤ 9223372036854775807) ∧ (-9223372036854775808 ≤ b.vy ∧ b.vy ≤ 9223372036854775807) ∧ (-9223372036854775808 ≤ b.hp ∧ b.hp ≤ 9223372036854775807) ∧ (-9223372036854775808 ≤ b.pw ∧ b.pw ≤ 9223372036854775807) ∧ (-9223372036854775808 ≤ b.lf ∧ b.lf ≤ 9223372036854775807)
def zeroB : Bun := ⟨0, 0, 0, 0, 0, 0, 0, 0, 0, 0, 0⟩
structure Nid where
 (s i g : Int)
 deriving DecidableEq, Inhabited
def nidL (n : Nid) : List Value := [int i64 n.s, int i64 n.i, int i64 n.g]
theorem nidL_len (n : Nid) : (nidL n).length = 3 := rfl
theorem nidL_one (n : Nid) : ∀ v ∈ nidL n, v.oneCell' = true := fun v hv => by
 simp only [nidL, List.mem_cons, List.not_mem_nil, or_false] at hv
 rcases hv with rfl | rfl | rfl <;> rfl
theorem info_nid : (prog.info? 30).map (fun i => (i.zero, i.size, i.bytes)) = some (some (.agg #[int i64 0, int i64 0, int i64 0]), 3, 24) := by kernel_rfl
def idOf (b : Bun) : Nid := ⟨b.s, b.i, b.g⟩
def CmFit (c : Cm) : Prop := BFit c.b ∧ (-9223372036854775808 ≤ c.mask ∧ c.mask ≤ 9223372036854775807)
def cmC (c : Cm) : List Value := [int i64 c.k, int i64 c.s, int i64 c.i, int i64 c.g] ++ bunL c.b ++ [int i64 c.mask]
theorem cmC_len (c : Cm) : (cmC c).length = 16 := rfl
theorem cmC_one (c : Cm) : ∀ v ∈ cmC c, v.oneCell' = true := fun v hv => by
 simp [cmC, bunL] at hv
 rcases hv with rfl | rfl | rfl | rfl | rfl | rfl | rfl | rfl | rfl | rfl | rfl | rfl | rfl | rfl | rfl | rfl <;> rfl
theorem info_cm : (prog.info? 34).map (fun i => (i.zero, i.size, i.bytes)) = some (some (.agg #[int i64 0, int i64 0, int i64 0, int i64 0, int i64 0, int i64 0, int i64 0, int i64 0, int i64 0, int i64 0, int i64 0, int i64 0, int i64 0, int i64 0, int i64 0, int i64 0]), 16, 128) := by kernel_rfl
section
structure Slot where
 (k i gen bound row : Int) (alive : Bool)
def Slot.cells (s : Slot) : List Value := [int i64 s.k, int i64 s.i, int i64 s.gen, int i64 s.bound, int i64 s.row, .bool s.alive]
structure RLay where
 (p b off cap : Nat)
def RLay.own (R : RLay) (x : Nat) : Prop := x = R.p ∨ x = R.b
structure RefAt (w : World) (R : RLay) (l : List Slot) (put : Int) : Prop where
 top : w.heap[R.p]? = some (.cells #[.slice (some ⟨R.b, R.off, none⟩) l.length R.cap, int i64 put] 170 (0, 0))
 rows : ∃ cur : Array Value, w.heap[R.b]? = some (.cells cur 167 (0, 0)) ∧ l.length ≤ R.cap ∧ R.cap ≤ maxLen ∧ R.off + R.cap * 6 ≤ cur.size ∧ ∀ (n j : Nat) (s : Slot), l[n]? = some s → j < 6 → cur[R.off + n * 6 + j]? = s.cells[j]?
 ne : R.p ≠ R.b
variable {w w' : World} {R : RLay} {l : List Slot} {put : Int}
theorem RefAt.lt (h : RefAt w R l put) {x : Nat} (hx : R.own x) : x < w.heap.size := by
 rcases hx with rfl | rfl
 · exact lt_of_heap h.top
 · obtain ⟨cur, hc, _⟩ := h.rows; exact lt_of_heap hc
theorem RefAt.keep (h : RefAt w R l put) (hk : ∀ b, R.own b → w'.heap[b]? = w.heap[b]?) : RefAt w' R l put := by
 obtain ⟨cur, hc, r⟩ := h.rows
 exact ⟨by rw [hk _ (.inl rfl)]; exact h.top, ⟨cur, by rw [hk _ (.inr rfl)]; exact hc, r⟩, h.ne⟩
theorem RefAt.grown (h : RefAt w R l put) (hb : Below w.heap.size w w') : RefAt w' R l put := h.keep fun b ho => hb.block b (h.lt ho)
theorem RefAt.tops (h : RefAt w R l put) : w.cell? ⟨R.p, 0, none⟩ = some (.slice (some ⟨R.b, R.off, none⟩) l.length R.cap) ∧ w.cell? ⟨R.p, 1, none⟩ = some (int i64 put) ∧ (∀ o, w.frozen? ⟨R.p, o, none⟩ = false) ∧ (∀ o, w.frozen? ⟨R.b, o, none⟩ = false) ∧ R.p < w.heap.size ∧ R.b < w.heap.size := by
 obtain ⟨cur, hc, r⟩ := h.rows
 exact ⟨by simp [World.cell?, h.top], by simp [World.cell?, h.top], fun o => by simp [World.frozen?, h.top], fun o => by simp [World.frozen?, hc], lt_of_heap h.top, lt_of_heap hc⟩
theorem RefAt.bnd (h : RefAt w R l put) : l.length ≤ R.cap ∧ R.cap ≤ maxLen := by obtain ⟨cur, hc, h1, h2, _⟩ := h.rows; exact ⟨h1, h2⟩
theorem RefAt.slot (h : RefAt w R l put) {n : Nat} {s : Slot} (hs : l[n]? = some s) :
 w.cell? ⟨R.b, R.off + n * 6, none⟩ = some (int i64 s.k) ∧ w.cell? ⟨R.b, R.off + n * 6 + 1, none⟩ = some (int i64 s.i) ∧ w.cell? ⟨R.b, R.off + n * 6 + 2, none⟩ = some (int i64 s.gen) ∧ w.cell? ⟨R.b, R.off + n * 6 + 3, none⟩ = some (int i64 s.bound) ∧ w.cell? ⟨R.b, R.off + n * 6 + 4, none⟩ = some (int i64 s.row) ∧ w.cell? ⟨R.b, R.off + n * 6 + 5, none⟩ = some (.bool s.alive) := by
 obtain ⟨cur, hc, _, _, _, hr⟩ := h.rows
 have r0 := hr n 0 s hs (by omega)
 have r1 := hr n 1 s hs (by omega)
 have r2 := hr n 2 s hs (by omega)
 have r3 := hr n 3 s hs (by omega)
 have r4 := hr n 4 s hs (by omega)
 have r5 := hr n 5 s hs (by omega)
 rw [Nat.add_zero] at r0
 simp [Slot.cells] at r0 r1 r2 r3 r4 r5
 exact ⟨by simp [World.cell?, hc, r0], by simp [World.cell?, hc, r1], by simp [World.cell?, hc, r2], by simp [World.cell?, hc, r3], by simp [World.cell?, hc, r4], by simp [World.cell?, hc, r5]⟩
theorem RefAt.set (h : RefAt w R l put) {n : Nat} {s s' : Slot} (hs : l[n]? = some s) (q : Nat) (v : Value) (hq : q < 6) (hv : s'.cells[q]? = some v) (ho : ∀ j, j ≠ q → s'.cells[j]? = s.cells[j]?) :
 RefAt (w.setCell ⟨R.b, R.off + n * 6 + q, none⟩ v) R (l.set n s') put := by
 obtain ⟨cur, hc, h1, h2, h3, hr⟩ := h.rows
 have hn : n < l.length := (List.getElem?_eq_some_iff.1 hs).1
 refine ⟨?_, ⟨cur.setIfInBounds (R.off + n * 6 + q) v, heap_setCell_same _ _ _ _ _ _ _ hc, by simpa using h1, h2, by simpa using h3, fun m j t ht hj => ?_⟩, h.ne⟩
 · rw [Below.heap_setCell _ _ _ _ h.ne, List.length_set]; exact h.top
 · rw [List.getElem?_set] at ht
   by_cases hm : n = m
   · subst hm
     rw [if_pos rfl, if_pos hn] at ht
     obtain rfl : s' = t := by simpa using ht
     by_cases hjq : j = q
     · subst hjq
       rw [set_self _ _ _ (by omega), hv]
     · rw [Array.getElem?_setIfInBounds_ne (by omega), hr n j s hs hj, ho j hjq]
   · rw [if_neg hm] at ht
     rw [Array.getElem?_setIfInBounds_ne (by omega)]
     exact hr m j t ht hj
theorem RefAt.setPut (h : RefAt w R l put) (p' : Int) : RefAt (w.setCell ⟨R.p, 1, none⟩ (int i64 p')) R l p' := by
 obtain ⟨cur, hc, r⟩ := h.rows
 refine ⟨?_, ⟨cur, ?_, r⟩, h.ne⟩
 · rw [heap_setCell_same _ _ _ _ _ _ _ h.top]; simp
 · rw [Below.heap_setCell _ _ _ _ h.ne.symm]; exact hc
/-! The program's shards, as slots. -/
def ixSlots (rw : Int → Int → Int) (k : Int) : Int → List Ix → List Slot
 | _, [] => []
 | i, x :: xs => ⟨k, i, x.gen, x.bound, rw k i, x.alive⟩ :: ixSlots rw k (i + 1) xs
def mSlots (rw : Int → Int → Int) : Int → List Sh → List Slot
 | _, [] => []
 | k, m :: ms => ixSlots rw k 0 m.all ++ mSlots rw (k + 1) ms
variable {rw : Int → Int → Int}
theorem ixSlots_len : ∀ (l : List Ix) (k i : Int), (ixSlots rw k i l).length = l.length
 | [], _, _ => rfl
 | x :: l, k, i => by simp [ixSlots, ixSlots_len l k (i + 1)]
theorem ixSlots_get : ∀ (l : List Ix) (k i : Int) (j : Nat), (ixSlots rw k i l)[j]? = (l[j]?).map fun x => ⟨k, i + j, x.gen, x.bound, rw k (i + j), x.alive⟩
 | [], _, _, _ => by simp [ixSlots]
 | x :: l, k, i, 0 => by simp [ixSlots]
 | x :: l, k, i, j + 1 => by
   simp only [ixSlots, List.getElem?_cons_succ, ixSlots_get l k (i + 1) j]
   rw [show i + 1 + (j : Int) = i + ((j + 1 : Nat) : Int) by omega]
theorem mSlots_len {ids : Nat} : ∀ (M : List Sh) (k : Int), (∀ m ∈ M, m.all.length = ids) → (mSlots rw k M).length = M.length * ids
 | [], _, _ => by simp [mSlots]
 | m :: M, k, h => by
   rw [mSlots, List.length_append, ixSlots_len, h m (by simp), mSlots_len M (k + 1) fun m hm => h m (List.mem_cons_of_mem _ hm), List.length_cons, Nat.add_mul, Nat.one_mul, Nat.add_comm]
theorem mSlots_get {ids : Nat} : ∀ (M : List Sh) (k0 : Int) (k i : Nat) (m : Sh) (x : Ix), (∀ m ∈ M, m.all.length = ids) → M[k]? = some m → m.all[i]? = some x → (mSlots rw k0 M)[k * ids + i]? = some ⟨k0 + k, i, x.gen, x.bound, rw (k0 + k) i, x.alive⟩
 | [], _, _, _, _, _, _, h, _ => by simp at h
 | a :: M, k0, 0, i, m, x, hl, hm, hx => by
   obtain rfl : a = m := by simpa using hm
   have hil := (List.getElem?_eq_some_iff.1 hx).1
   rw [mSlots, Nat.zero_mul, Nat.zero_add, List.getElem?_append_left (by rw [ixSlots_len]; exact hil), ixSlots_get, hx]
   simp
 | a :: M, k0, k + 1, i, m, x, hl, hm, hx => by
   have h1 := mSlots_get (ids := ids) M (k0 + 1) k i m x (fun m hm => hl m (List.mem_cons_of_mem _ hm)) (by simpa using hm) hx
   have ha := hl a (by simp)
   have e : (k + 1) * ids + i = ids + (k * ids + i) := by rw [Nat.add_mul, Nat.one_mul]; omega
   rw [mSlots, e, List.getElem?_append_right (by rw [ixSlots_len, ha]; omega), ixSlots_len, ha, Nat.add_sub_cancel_left, h1]
   rw [show k0 + 1 + (k : Int) = k0 + ((k + 1 : Nat) : Int) by omega]
theorem mSlots_split {ids : Nat} {M : List Sh} (hl : ∀ m ∈ M, m.all.length = ids) {n : Nat} {s : Slot} (hs : (mSlots rw 0 M)[n]? = some s) : ∃ (k i : Nat) (m : Sh) (x : Ix), n = k * ids + i ∧ i < ids ∧ M[k]? = some m ∧ m.all[i]? = some x ∧ s = ⟨k, i, x.gen, x.bound, rw k i, x.alive⟩ := by
 have hn : n < M.length * ids := by rw [← mSlots_len M 0 hl]; exact (List.getElem?_eq_some_iff.1 hs).1
 have h0 : 0 < ids := by
  rcases Nat.eq_zero_or_pos ids with h | h
  · rw [h] at hn; omega
  · exact h
 have hk : n / ids < M.length := by rw [Nat.div_lt_iff_lt_mul h0]; exact hn
 have hi := Nat.mod_lt n h0
 have hm := List.getElem?_eq_getElem hk
 have hal := hl _ (List.getElem_mem hk)
 have hx : M[n / ids].all[n % ids]? = some (M[n / ids].all[n % ids]'(by omega)) := List.getElem?_eq_getElem (by omega)
 have hd : n = n / ids * ids + n % ids := by have := Nat.div_add_mod n ids; rw [Nat.mul_comm] at this; omega
 have hg := mSlots_get (rw := rw) M 0 (n / ids) (n % ids) _ _ hl hm hx
 rw [← hd, hs] at hg
 refine ⟨n / ids, n % ids, _, _, hd, hi, hm, hx, ?_⟩
 have := Option.some.inj hg
 rw [this]
 simp
structure Sim (ids : Nat) (M : List Sh) (rw : Int → Int → Int) (put : Int) : Prop where
 pos : 1 ≤ ids ∧ ids ≤ 16 ∧ M.length ≤ 16
 len : ∀ m ∈ M, m.all.length = ids
 good : ∀ m ∈ M, Good m
 row : ∀ (k : Nat) (m : Sh), M[k]? = some m → ∀ i : Nat, i < ids → (0 ≤ rw k i ↔ (i : Int) ∈ m.free) ∧ rw k i < put
 ord : ∀ (k : Nat) (m : Sh), M[k]? = some m → (m.free.map (rw k)).Pairwise (· < ·)
 put : 0 ≤ put
theorem mSlots_set {ids : Nat} {M : List Sh} {rw' : Int → Int → Int} {k i : Nat} {m m' : Sh} {x x' : Ix} (hl : ∀ m ∈ M, m.all.length = ids) (hm : M[k]? = some m) (hx : m.all[i]? = some x) (ha : m'.all = m.all.set i x')
 (hrw : ∀ (a b : Nat), ¬ (a = k ∧ b = i) → rw' a b = rw a b) : mSlots rw' 0 (M.set k m') = (mSlots rw 0 M).set (k * ids + i) ⟨k, i, x'.gen, x'.bound, rw' k i, x'.alive⟩ := by
 have hkl : k < M.length := (List.getElem?_eq_some_iff.1 hm).1
 have hil : i < m.all.length := (List.getElem?_eq_some_iff.1 hx).1
 have him : i < ids := by rw [← hl m (List.mem_of_getElem? hm)]; exact hil
 have hl' : ∀ a ∈ M.set k m', a.all.length = ids := by
  intro a h
  rcases List.mem_or_eq_of_mem_set h with h | rfl
  · exact hl a h
  · rw [ha, List.length_set]; exact hl m (List.mem_of_getElem? hm)
 apply List.ext_getElem?
 intro n
 by_cases hn : n < M.length * ids
 · obtain ⟨s, hs⟩ : ∃ s, (mSlots rw 0 M)[n]? = some s := ⟨_, List.getElem?_eq_getElem (by rw [mSlots_len M 0 hl]; exact hn)⟩
   obtain ⟨a, b, ma, y, rfl, hb, hma, hy, rfl⟩ := mSlots_split hl hs
   by_cases hab : a = k ∧ b = i
   · obtain ⟨rfl, rfl⟩ := hab
     rw [hm] at hma
     obtain rfl := Option.some.inj hma
     rw [List.getElem?_set_self (by rw [mSlots_len M 0 hl]; exact hn)]
     have := mSlots_get (rw := rw') (M.set a m') 0 a b m' x' hl' (List.getElem?_set_self hkl) (by rw [ha]; exact List.getElem?_set_self hil)
     rw [this]
     simp
   · have hne : k * ids + i ≠ a * ids + b := by
      intro e
      apply hab
      have h1 : (a * ids + b) % ids = b := by rw [Nat.mul_comm, Nat.mul_add_mod]; exact Nat.mod_eq_of_lt hb
      have h2 : (k * ids + i) % ids = i := by rw [Nat.mul_comm, Nat.mul_add_mod]; exact Nat.mod_eq_of_lt him
      have h3 : b = i := by rw [← h1, ← h2, e]
      subst h3
      have h4 : a * ids = k * ids := by omega
      exact ⟨Nat.eq_of_mul_eq_mul_right (by omega) h4, rfl⟩
     rw [List.getElem?_set_ne hne, hs]
     by_cases hk : a = k
     · subst hk
       rw [hm] at hma
       obtain rfl := Option.some.inj hma
       have hbi : b ≠ i := fun e => hab ⟨rfl, e⟩
       have := mSlots_get (rw := rw') (M.set a m') 0 a b m' y hl' (List.getElem?_set_self hkl) (by rw [ha, List.getElem?_set_ne (fun e => hbi e.symm)]; exact hy)
       rw [this]
       simp [hrw a b hab]
     · have := mSlots_get (rw := rw') (M.set k m') 0 a b ma y hl' (by rw [List.getElem?_set_ne (fun e => hk e.symm)]; exact hma) hy
       rw [this]
       simp [hrw a b hab]
 · rw [List.getElem?_eq_none (by rw [mSlots_len _ 0 hl', List.length_set]; omega), List.getElem?_eq_none (by rw [List.length_set, mSlots_len M 0 hl]; omega)]
end
@[go_sem] theorem alloc_drewN (w : World) (n : Nat) (o : Obj) : (w.drewN n).alloc o = (w.alloc o).drewN n := rfl
@[go_sem] theorem setCell_drewN (w : World) (n : Nat) (a : Addr) (v : Value) : (w.drewN n).setCell a v = (w.setCell a v).drewN n := rfl
@[go_sem high] theorem run_eql_id (s i g s' i' g' : Int) (W : World) :
 (binOp .eql 30 (.agg #[int i64 s, int i64 i, int i64 g]) (.agg #[int i64 s', int i64 i', int i64 g'])).run prog W = .ok (.bool (idEq s i g s' i' g')) W := by
 rw [run_eql_struct]
 by_cases h1 : s = s'
 · by_cases h2 : i = i'
   · by_cases h3 : g = g' <;> simp [go_sem, idEq, h1, h2, h3]
   · simp [go_sem, idEq, h1, h2]
 · simp [go_sem, idEq, h1]
@[go_sem high] theorem run_neq_id (s i g s' i' g' : Int) (W : World) :
 (binOp .neq 30 (.agg #[int i64 s, int i64 i, int i64 g]) (.agg #[int i64 s', int i64 i', int i64 g'])).run prog W = .ok (.bool (!(idEq s i g s' i' g'))) W := by
 have h := run_eql_id s i g s' i' g' W
 rw [run_eql_struct] at h
 rw [run_neq_struct]
 generalize (Op.equalIn _ _ _ _).run prog W = r at *
 cases r with
 | ok b w => simp only [Result.andThen_ok] at *; cases b <;> simp_all
 | halt x w => simp [Result.andThen] at h
@[go_sem high] theorem run_eql_bun (s i g m x y vx vy hp pw lf s' i' g' m' x' y' vx' vy' hp' pw' lf' : Int) (W : World) :
 (binOp .eql 32 (.agg #[int i64 s, int i64 i, int i64 g, int i64 m, int i64 x, int i64 y, int i64 vx, int i64 vy, int i64 hp, int i64 pw, int i64 lf]) (.agg #[int i64 s', int i64 i', int i64 g', int i64 m', int i64 x', int i64 y', int i64 vx', int i64 vy', int i64 hp', int i64 pw', int i64 lf'])).run prog W = .ok (.bool (bunEq ⟨s, i, g, m, x, y, vx, vy, hp, pw, lf⟩ ⟨s', i', g', m', x', y', vx', vy', hp', pw', lf'⟩)) W := by
 rw [run_eql_struct]
 by_cases h0 : s = s'
 · by_cases h1 : i = i'
   · by_cases h2 : g = g'
     · by_cases h3 : m = m'
       · by_cases h4 : x = x'
         · by_cases h5 : y = y'
           · by_cases h6 : vx = vx'
             · by_cases h7 : vy = vy'
               · by_cases h8 : hp = hp'
                 · by_cases h9 : pw = pw'
                   · by_cases h10 : lf = lf'
                     · simp [go_sem, bunEq, h0, h1, h2, h3, h4, h5, h6, h7, h8, h9, h10]
                     · simp [go_sem, bunEq, h0, h1, h2, h3, h4, h5, h6, h7, h8, h9, h10]
                   · simp [go_sem, bunEq, h0, h1, h2, h3, h4, h5, h6, h7, h8, h9]
                 · simp [go_sem, bunEq, h0, h1, h2, h3, h4, h5, h6, h7, h8]
               · simp [go_sem, bunEq, h0, h1, h2, h3, h4, h5, h6, h7]
             · simp [go_sem, bunEq, h0, h1, h2, h3, h4, h5, h6]
           · simp [go_sem, bunEq, h0, h1, h2, h3, h4, h5]
         · simp [go_sem, bunEq, h0, h1, h2, h3, h4]
       · simp [go_sem, bunEq, h0, h1, h2, h3]
     · simp [go_sem, bunEq, h0, h1, h2]
   · simp [go_sem, bunEq, h0, h1]
 · simp [go_sem, bunEq, h0]
@[go_sem high] theorem run_neq_bun (s i g m x y vx vy hp pw lf s' i' g' m' x' y' vx' vy' hp' pw' lf' : Int) (W : World) :
 (binOp .neq 32 (.agg #[int i64 s, int i64 i, int i64 g, int i64 m, int i64 x, int i64 y, int i64 vx, int i64 vy, int i64 hp, int i64 pw, int i64 lf]) (.agg #[int i64 s', int i64 i', int i64 g', int i64 m', int i64 x', int i64 y', int i64 vx', int i64 vy', int i64 hp', int i64 pw', int i64 lf'])).run prog W = .ok (.bool (!(bunEq ⟨s, i, g, m, x, y, vx, vy, hp, pw, lf⟩ ⟨s', i', g', m', x', y', vx', vy', hp', pw', lf'⟩))) W := by
 have h := run_eql_bun s i g m x y vx vy hp pw lf s' i' g' m' x' y' vx' vy' hp' pw' lf' W
 rw [run_eql_struct] at h
 rw [run_neq_struct]
 generalize (Op.equalIn _ _ _ _).run prog W = r at *
 cases r with
 | ok b w => simp only [Result.andThen_ok] at *; cases b <;> simp_all
 | halt x w => simp [Result.andThen] at h
def Box (W : World) (L : Lay) (b : Nat) (cs : Array Value) : Prop := b < W.heap.size ∧ ¬ L.own b ∧ ∀ j, W.cell? ⟨b, j, none⟩ = cs[j]?
theorem Box.grow {W W' : World} {L : Lay} {b : Nat} {cs : Array Value} (h : Box W L b cs) (hb : Below W.heap.size W W') : Box W' L b cs :=
 ⟨Nat.lt_of_lt_of_le h.1 hb.size, h.2.1, fun j => (hb.cell (p := ⟨b, j, none⟩) h.1).trans (h.2.2 j)⟩
theorem Stp.open {w w' : World} {L : Lay} {M' : List Sh} {p : Nat} (h : Stp w L w' M') (hP : L.P = p) : ∃ L', L'.P = p ∧ PoolAt w' L' M' ∧ w.heap.size ≤ w'.heap.size ∧ (∀ B, B ≤ w.heap.size → (∀ b, L.own b → B ≤ b) → Below B w w') ∧ (∀ b, L'.own b → L.own b ∨ w.heap.size ≤ b) ∧ ∀ b cs, Box w L b cs → Box w' L' b cs := by
 obtain ⟨L', hP', hp, hc, ho⟩ := h
 refine ⟨L', hP'.trans hP, hp, hc.size, fun B hB hB' => hc.below hB hB', ho, fun b cs hb => ⟨Nat.lt_of_lt_of_le hb.1 hc.size, fun h => ?_, fun j => (hc.cell (a := ⟨b, j, none⟩) hb.1 hb.2.1).trans (hb.2.2 j)⟩⟩
 rcases ho b h with h | h
 · exact hb.2.1 h
 · exact absurd hb.1 (by omega)
theorem new_p (n ids : Nat) (w : World) (h1 : 1 ≤ n) (h2 : n ≤ 16) (h3 : 1 ≤ ids) (h4 : ids ≤ 16) :
 Calls prog 80 #[int i64 n, int i64 ids] w fun e w' => e = .returned (.tuple #[.pointer (some ⟨w.heap.size + 1, 0, none⟩), int i64 0]) ∧ Below w.heap.size w w' ∧ ∃ L, L.P = w.heap.size + 1 ∧ PoolAt w' L (List.replicate n (fresh ids ids)) ∧ ∀ b, L.own b → w.heap.size ≤ b := by
 refine (new_ok n ids w h1 h2 h3 h4).mono ?_
 rintro e w' ⟨rfl, L, hP, _, hp, hb, ho⟩
 rw [List.append_nil] at hp
 exact ⟨rfl, hb, L, hP, hp.toAt (by simp), ho⟩
structure St (w0 W : World) (L : Lay) (M : List Sh) (p : Nat) : Prop where
 hP : L.P = p
 hp : PoolAt W L M
 hb : Below w0.heap.size w0 W
 ho : ∀ b, L.own b → w0.heap.size ≤ b
theorem St.grow {w0 W W' : World} {L : Lay} {M : List Sh} {p : Nat} (h : St w0 W L M p) (hb : Below W.heap.size W W') : St w0 W' L M p :=
 ⟨h.hP, h.hp.grown hb, h.hb.trans (hb.mono h.hb.size), h.ho⟩
def AtR (l : List Slot) (k i r : Int) : Prop := (r = -1 ∧ ∀ (n : Nat) (s : Slot), l[n]? = some s → ¬ (s.k = k ∧ s.i = i)) ∨ ∃ (n : Nat) (s : Slot), r = n ∧ l[n]? = some s ∧ s.k = k ∧ s.i = i
def FirstP (l : List Slot) (k : Int) (n : Nat) (m : Int) : Prop := (m = -1 ∧ ∀ (j : Nat) (s : Slot), j < n → l[j]? = some s → s.k = k → s.row < 0) ∨
 ∃ (j : Nat) (s : Slot), m = j ∧ j < n ∧ l[j]? = some s ∧ s.k = k ∧ 0 ≤ s.row ∧ ∀ (j' : Nat) (s' : Slot), j' < n → l[j']? = some s' → s'.k = k → 0 ≤ s'.row → s.row ≤ s'.row
theorem FirstP.skip {l : List Slot} {k m : Int} {n : Nat} {s : Slot} (h : FirstP l k n m) (hs : l[n]? = some s) (hn : ¬ (s.k = k ∧ 0 ≤ s.row)) : FirstP l k (n + 1) m := by
 rcases h with ⟨h1, h2⟩ | ⟨j, t, h1, h2, h3, h4, h5, h6⟩
 · refine .inl ⟨h1, fun j t hj ht hk => ?_⟩
   by_cases hjn : j = n
   · subst hjn; rw [hs] at ht; obtain rfl := Option.some.inj ht
     exact Int.not_le.1 fun h => hn ⟨hk, h⟩
   · exact h2 j t (by omega) ht hk
 · refine .inr ⟨j, t, h1, by omega, h3, h4, h5, fun j' t' hj ht hk hr => ?_⟩
   by_cases hjn : j' = n
   · subst hjn; rw [hs] at ht; obtain rfl := Option.some.inj ht
     exact absurd ⟨hk, hr⟩ hn
   · exact h6 j' t' (by omega) ht hk hr
theorem FirstP.take {l : List Slot} {k m : Int} {n : Nat} {s : Slot} (h : FirstP l k n m) (hs : l[n]? = some s) (hk : s.k = k) (hr : 0 ≤ s.row) (hm : m < 0 ∨ ∃ (j : Nat) (t : Slot), m = j ∧ l[j]? = some t ∧ s.row < t.row) : FirstP l k (n + 1) n := by
 refine .inr ⟨n, s, rfl, by omega, hs, hk, hr, fun j' t' hj ht hk' hr' => ?_⟩
 by_cases hjn : j' = n
 · subst hjn; rw [hs] at ht; obtain rfl := Option.some.inj ht; exact Int.le_refl _
 · rcases h with ⟨h1, h2⟩ | ⟨j, t, h1, h2, h3, h4, h5, h6⟩
   · exact absurd (h2 j' t' (by omega) ht hk') (by omega)
   · rcases hm with hm | ⟨j2, t2, hm, ht2, hlt⟩
     · omega
     · have e : j2 = j := by omega
       subst e
       rw [h3] at ht2
       obtain rfl := Option.some.inj ht2
       have := h6 j' t' (by omega) ht hk' hr'
       omega
theorem FirstP.keep {l : List Slot} {k m : Int} {n j : Nat} {s t : Slot} (h : FirstP l k n m) (hs : l[n]? = some s) (hm : m = j) (ht : l[j]? = some t) (hr : t.row ≤ s.row) : FirstP l k (n + 1) m := by
 rcases h with ⟨h1, h2⟩ | ⟨j2, t2, h1, h2, h3, h4, h5, h6⟩
 · omega
 · have e : j2 = j := by omega
   subst e
   rw [h3] at ht
   obtain rfl := Option.some.inj ht
   refine .inr ⟨j2, t2, h1, by omega, h3, h4, h5, fun j' t' hj ht hk hr' => ?_⟩
   by_cases hjn : j' = n
   · subst hjn; rw [hs] at ht; obtain rfl := Option.some.inj ht; exact hr
   · exact h6 j' t' (by omega) ht hk hr'
theorem rat_any (w : World) (R : RLay) (l : List Slot) (put k i : Int) (h : RefAt w R l put) :
 Calls prog 117 #[.pointer (some ⟨R.p, 0, none⟩), int i64 k, int i64 i] w fun e w' => (∃ r, e = .returned (int i64 r) ∧ AtR l k i r) ∧ w = w' := by
 obtain ⟨c0, _, _, _, b0, b1⟩ := h.tops
 obtain ⟨z1, z2⟩ := h.bnd
 unfold maxLen at z2
 have H := hid h
 clear h
 obtain ⟨p, b, off, cap⟩ := R
 simp only at c0 b0 b1 z1 z2
 go_enter Tryz.func117, Tryz.ntmps117
 go_wp2_with fail
 go_loop [7] (fun x => ∃ n : Nat, n ≤ l.length ∧ x = int i64 n ∧ Hid (∀ (j : Nat) (s : Slot), j < n → l[j]? = some s → ¬ (s.k = k ∧ s.i = i))) (fun x => l.length - (intOf x).toNat)
 case atStart => exact ⟨0, Nat.zero_le _, rfl, hid fun j s hj => by omega⟩
 case round =>
  obtain ⟨n, hn, rfl, hh⟩ := hrel
  have hI : 0 ≤ (n : Int) := Int.natCast_nonneg n
  by_cases hlt : n < l.length
  · obtain ⟨s, hs⟩ : ∃ s, l[n]? = some s := ⟨_, List.getElem?_eq_getElem hlt⟩
    obtain ⟨s0, s1, _, _, _, _⟩ := H.out.slot hs
    have HS := hid hs
    clear hs
    simp only at s0 s1
    by_cases h1 : s.k = k
    · have e1 : (s.k == k) = true := by simpa using h1
      by_cases h2 : s.i = i
      · have e2 : (s.i == i) = true := by simpa using h2
        have HK := hid (And.intro h1 h2)
        clear h1 h2
        go_wp2_with fail
        go_ret
        exact ⟨⟨n, rfl, .inr ⟨n, s, rfl, HS.out, HK.out.1, HK.out.2⟩⟩, rfl⟩
      · have e2 : (s.i == i) = false := by simpa using h2
        have HK := hid h2
        clear h1 h2
        go_wp2_with fail
        go_round
        case rel => exact ⟨n + 1, hlt, by go_num, hid fun j t hj ht => by
         by_cases hjn : j = n
         · subst hjn; have := HS.out; rw [ht] at this; obtain rfl := Option.some.inj this; exact fun h => HK.out h.2
         · exact hh.out j t (by omega) ht⟩
        case measure => simp [intOf]; omega
    · have e1 : (s.k == k) = false := by simpa using h1
      have HK := hid h1
      clear h1
      go_wp2_with fail
      go_round
      case rel => exact ⟨n + 1, hlt, by go_num, hid fun j t hj ht => by
       by_cases hjn : j = n
       · subst hjn; have := HS.out; rw [ht] at this; obtain rfl := Option.some.inj this; exact fun h => HK.out h.1
       · exact hh.out j t (by omega) ht⟩
      case measure => simp [intOf]; omega
  · obtain rfl : n = l.length := by omega
    go_wp2_with fail
    go_ret
    exact ⟨⟨-1, rfl, .inl ⟨rfl, fun j s hs => hh.out j s (List.getElem?_eq_some_iff.1 hs).1 hs⟩⟩, rfl⟩
theorem rfirst_any (w : World) (R : RLay) (l : List Slot) (put k : Int) (h : RefAt w R l put) :
 Calls prog 148 #[.pointer (some ⟨R.p, 0, none⟩), int i64 k] w fun e w' => (∃ r, e = .returned (int i64 r) ∧ FirstP l k l.length r) ∧ Below w.heap.size w w' := by
 obtain ⟨z1, z2⟩ := h.bnd
 unfold maxLen at z2
 have H := hid h
 clear h
 obtain ⟨p, b, off, cap⟩ := R
 simp only at z1 z2
 go_enter Tryz.func148, Tryz.ntmps148
 go_wp2_with fail
 go_loopw [5, 6] (fun y x wr => ∃ (n : Nat) (m : Int), n ≤ l.length ∧ x = int i64 n ∧ y = int i64 m ∧ Hid (FirstP l k n m ∧ Below w.heap.size w wr)) (fun _ x _ => l.length - (intOf x).toNat)
 case atStart => exact ⟨0, -1, Nat.zero_le _, rfl, rfl, hid ⟨.inl ⟨rfl, fun j s hj => by omega⟩, bg⟩⟩
 case round =>
  obtain ⟨n, m, hn, rfl, rfl, hh⟩ := hrel
  obtain ⟨wo, rfl⟩ : ∃ wo : World, wo = wr := ⟨_, rfl⟩
  have hI : 0 ≤ (n : Int) := Int.natCast_nonneg n
  have HW := hid (H.out.grown hh.out.2)
  obtain ⟨c0, _, _, _, b0, b1⟩ := HW.out.tops
  simp only at c0 b0 b1
  obtain ⟨y0, y1, y2, y3⟩ := lts b0
  obtain ⟨x0, x1, x2, x3⟩ := lts b1
  have HE := hid (fun (W : World) (hW : Below wo.heap.size wo W) => hh.out.2.trans (hW.mono hh.out.2.size))
  by_cases hlt : n < l.length
  · obtain ⟨s, hs⟩ : ∃ s, l[n]? = some s := ⟨_, List.getElem?_eq_getElem hlt⟩
    obtain ⟨s0, s1, s2, s3, s4, s5⟩ := HW.out.slot hs
    have HS := hid hs
    clear hs
    simp only at s0 s1 s2 s3 s4 s5
    obtain ⟨sk, si, sg, sb, srow, sa⟩ := s
    simp only at s0 s1 s2 s3 s4 s5
    by_cases h1 : sk = k
    · have e1 : (sk == k) = true := by simpa using h1
      have HK := hid h1
      clear h1
      by_cases h2 : 0 ≤ srow
      · by_cases h3 : m < 0
        · go_wp2_with fail
          refine wpm ?_
          repeat (go_big_quiet_step (fail))
          refine wpQuiet_nil ?_
          rintro _ ⟨pn, rfl⟩
          go_wp2_with fail
          go_roundw
          case rel => exact ⟨n + 1, n, hlt, by go_num, rfl, hid ⟨hh.out.1.take HS.out HK.out h2 (.inl h3), HE.out _ bg⟩⟩
          case measure => simp [intOf]; omega
        · obtain ⟨j, t, hm, ht⟩ : ∃ (j : Nat) (t : Slot), m = j ∧ l[j]? = some t := by
           rcases hh.out.1 with ⟨q1, _⟩ | ⟨j, t, q1, _, q2, _⟩
           · omega
           · exact ⟨j, t, q1, q2⟩
          subst hm
          have hjl : j < l.length := (List.getElem?_eq_some_iff.1 ht).1
          have hjI : 0 ≤ (j : Int) := Int.natCast_nonneg j
          obtain ⟨_, _, _, _, t4, _⟩ := HW.out.slot ht
          have HT := hid ht
          have hd1 : decide ((j : Int) < 0) = false := by simp
          have hd2 : decide (0 ≤ srow) = true := by simpa using h2
          simp only at t4
          clear ht h3
          by_cases h4 : srow < t.row
          · go_wp2_with fail
            refine wpm ?_
            repeat (go_big_quiet_step (fail))
            refine wpQuiet_nil ?_
            rintro _ ⟨pn, rfl⟩
            go_wp2_with fail
            go_roundw
            case rel => exact ⟨n + 1, n, hlt, by go_num, rfl, hid ⟨hh.out.1.take HS.out HK.out h2 (.inr ⟨j, t, rfl, HT.out, h4⟩), HE.out _ bg⟩⟩
            case measure => simp [intOf]; omega
          · have h5 : t.row ≤ srow := by omega
            clear h4
            go_wp2_with fail
            refine wpm ?_
            repeat (go_big_quiet_step (fail))
            refine wpQuiet_nil ?_
            rintro _ ⟨pn, rfl⟩
            go_wp2_with fail
            go_roundw
            case rel => exact ⟨n + 1, j, hlt, by go_num, rfl, hid ⟨hh.out.1.keep HS.out rfl HT.out h5, HE.out _ bg⟩⟩
            case measure => simp [intOf]; omega
      · have h3 : srow < 0 := by omega
        have hd2 : decide (0 ≤ srow) = false := by simpa using h3
        clear h2
        go_wp2_with fail
        refine wpm ?_
        repeat (go_big_quiet_step (fail))
        refine wpQuiet_nil ?_
        rintro _ ⟨pn, rfl⟩
        go_wp2_with fail
        go_roundw
        case rel => exact ⟨n + 1, m, hlt, by go_num, rfl, hid ⟨hh.out.1.skip HS.out (fun h => by have := h.2; simp only at this; omega), HE.out _ bg⟩⟩
        case measure => simp [intOf]; omega
    · have e1 : (sk == k) = false := by simpa using h1
      have HK := hid h1
      clear h1
      go_wp2_with fail
      refine wpm ?_
      repeat (go_big_quiet_step (fail))
      refine wpQuiet_nil ?_
      rintro _ ⟨pn, rfl⟩
      go_wp2_with fail
      go_roundw
      case rel => exact ⟨n + 1, m, hlt, by go_num, rfl, hid ⟨hh.out.1.skip HS.out (fun h => HK.out h.1), HE.out _ bg⟩⟩
      case measure => simp [intOf]; omega
  · obtain rfl : n = l.length := by omega
    go_wp2_with fail
    go_ret
    exact ⟨⟨m, rfl, hh.out.1⟩, HE.out _ bg⟩
section
def RPool (w : World) (R : RLay) (ids : Nat) (c : Int) (M : List Sh) : Prop := ∃ (rw : Int → Int → Int) (put : Int), RefAt w R (mSlots rw 0 M) put ∧ Sim ids M rw put ∧ put ≤ c
theorem RPool.grown {w w' : World} {R : RLay} {ids : Nat} {c : Int} {M : List Sh} (h : RPool w R ids c M) (hb : Below w.heap.size w w') : RPool w' R ids c M := by
 obtain ⟨rw, put, h1, h2, h3⟩ := h; exact ⟨rw, put, h1.grown hb, h2, h3⟩
theorem RPool.lt {w : World} {R : RLay} {ids : Nat} {c : Int} {M : List Sh} (h : RPool w R ids c M) {x : Nat} (hx : R.own x) : x < w.heap.size := by
 obtain ⟨rw, put, h1, h2, h3⟩ := h; exact h1.lt hx
theorem Sim.at {ids : Nat} {M : List Sh} {rw : Int → Int → Int} {put k i r : Int} (h : Sim ids M rw put) (ha : AtR (mSlots rw 0 M) k i r) :
 (ixOf M k i = Option.none ∧ r = -1) ∨ ∃ (k' i' : Nat) (m : Sh) (x : Ix), k = k' ∧ i = i' ∧ M[k']? = some m ∧ m.all[i']? = some x ∧ i' < ids ∧ r = ((k' * ids + i' : Nat) : Int) ∧ ixOf M k i = some x := by
 rcases ha with ⟨rfl, hn⟩ | ⟨n, s, rfl, hs, hk, hi⟩
 · left
   refine ⟨?_, rfl⟩
   cases hx : ixOf M k i with
   | none => rfl
   | some x =>
     unfold ixOf at hx
     obtain ⟨m, hm, hx'⟩ := Option.bind_eq_some_iff.1 hx
     unfold shOf at hm
     split at hm
     · rename_i hk0
       split at hx'
       · rename_i hi0
         have := mSlots_get (rw := rw) M 0 k.toNat i.toNat m x h.len hm hx'
         exact absurd ⟨by simp; omega, by simp; omega⟩ (hn _ _ this)
       · cases hx'
     · cases hm
 · right
   obtain ⟨a, b, m, x, rfl, hb, hm, hx, rfl⟩ := mSlots_split h.len hs
   simp only at hk hi
   subst hk hi
   exact ⟨a, b, m, x, rfl, rfl, hm, hx, hb, rfl, by simp [ixOf, shOf, hm, hx]⟩
theorem Sim.first {ids : Nat} {M : List Sh} {rw : Int → Int → Int} {put k r : Int} (h : Sim ids M rw put) (ha : FirstP (mSlots rw 0 M) k (mSlots rw 0 M).length r) {m : Sh} (hm : shOf M k = some m) :
 (m.free = [] ∧ r = -1) ∨ ∃ (k' f : Nat) (fs : List Int) (x : Ix), k = k' ∧ M[k']? = some m ∧ m.free = (f : Int) :: fs ∧ m.all[f]? = some x ∧ f < ids ∧ r = ((k' * ids + f : Nat) : Int) := by
 unfold shOf at hm
 split at hm
 case isFalse => cases hm
 rename_i hk0
 obtain ⟨k, rfl⟩ := Int.eq_ofNat_of_zero_le hk0
 rw [Int.toNat_natCast] at hm
 have hg := h.good m (List.mem_of_getElem? hm)
 have hal := h.len m (List.mem_of_getElem? hm)
 have hgt : ∀ f ∈ m.free, ∃ (i : Nat) (x : Ix), f = i ∧ i < ids ∧ m.all[i]? = some x ∧ 0 ≤ rw k i := by
  intro f hf
  obtain ⟨h0, h1⟩ := hg.inv.fr f hf
  obtain ⟨i, rfl⟩ := Int.eq_ofNat_of_zero_le h0
  have hi : i < m.all.length := by omega
  exact ⟨i, _, rfl, by omega, List.getElem?_eq_getElem hi, (h.row k m hm i (by omega)).1.2 hf⟩
 cases hf : m.free with
 | nil =>
   left
   refine ⟨rfl, ?_⟩
   rcases ha with ⟨rfl, _⟩ | ⟨j, s, rfl, hj, hs, hk, hr, _⟩
   · rfl
   · obtain ⟨a, b, m2, x, rfl, hb, hm2, hx, rfl⟩ := mSlots_split h.len hs
     simp only at hk hr
     obtain rfl : a = k := by omega
     rw [hm] at hm2
     obtain rfl := Option.some.inj hm2
     have := (h.row a m hm b hb).1.1 hr
     rw [hf] at this
     cases this
 | cons f fs =>
   right
   obtain ⟨i, x, rfl, hi, hx, hr0⟩ := hgt f (by rw [hf]; simp)
   refine ⟨k, i, fs, x, rfl, hm, rfl, hx, hi, ?_⟩
   have hsl := mSlots_get (rw := rw) M 0 k i m x h.len hm hx
   have hlt := (List.getElem?_eq_some_iff.1 hsl).1
   rcases ha with ⟨rfl, hn⟩ | ⟨j, s, rfl, hj, hs, hk, hr, hmin⟩
   · have := hn _ _ hlt hsl (by simp)
     simp at this
     omega
   · obtain ⟨a, b, m2, y, rfl, hb, hm2, hy, rfl⟩ := mSlots_split h.len hs
     simp only at hk hr hmin
     obtain rfl : a = k := by omega
     rw [hm] at hm2
     obtain rfl := Option.some.inj hm2
     have hbf := (h.row a m hm b hb).1.1 hr
     have hle := hmin _ _ hlt hsl (by simp) (by simpa using hr0)
     simp at hle
     rw [hf] at hbf
     rcases List.mem_cons.1 hbf with e | hbs
     · obtain rfl : b = i := by omega
       rfl
     · have ho := h.ord a m hm
       rw [hf, List.map_cons, List.pairwise_cons] at ho
       have := ho.1 _ (List.mem_map_of_mem hbs)
       omega
theorem Sim.none {ids : Nat} {M : List Sh} {rw : Int → Int → Int} {put k : Int} (h : Sim ids M rw put) : ixOf M k 0 = Option.none ↔ shOf M k = Option.none := by
 unfold ixOf
 cases hm : shOf M k with
 | none => simp
 | some m =>
   have hal : m.all.length = ids := by
    unfold shOf at hm
    split at hm
    · exact h.len m (List.mem_of_getElem? hm)
    · cases hm
   have := h.pos.1
   simp
   intro e
   rw [e] at hal
   simp at hal
   omega
def genF (M : List Sh) (k i : Int) : Int := match ixOf M k i with | none => 0 | some x => x.gen
theorem ixOf_nat' {M : List Sh} {k i : Int} {x : Ix} (hx : ixOf M k i = some x) : ∃ (k' i' : Nat) (m : Sh), k = k' ∧ i = i' ∧ M[k']? = some m ∧ m.all[i']? = some x := by
 unfold ixOf at hx
 obtain ⟨m, hm, hy⟩ := Option.bind_eq_some_iff.1 hx
 unfold shOf at hm
 split at hm
 · split at hy
   · exact ⟨k.toNat, i.toNat, m, by omega, by omega, hm, hy⟩
   · cases hy
 · cases hm
section
variable (w : World) (R : RLay) (ids : Nat) (M : List Sh) (rw : Int → Int → Int) (put : Int) (h : RefAt w R (mSlots rw 0 M) put) (hS : Sim ids M rw put)
include h hS
theorem rat_none (k i : Int) (hx : ixOf M k i = none) : Calls prog 117 #[.pointer (some ⟨R.p, 0, none⟩), int i64 k, int i64 i] w fun e w' => e = .returned (int i64 (-1)) ∧ w = w' := by
 refine (rat_any w R _ put k i h).mono ?_
 rintro e w' ⟨⟨r, rfl, hr⟩, rfl⟩
 rcases hS.at hr with ⟨_, rfl⟩ | ⟨_, _, _, _, _, _, _, _, _, _, h'⟩
 · exact ⟨rfl, rfl⟩
 · rw [hx] at h'; cases h'
theorem rat_some (k i : Nat) (m : Sh) (x : Ix) (hm : M[k]? = some m) (hx : m.all[i]? = some x) : Calls prog 117 #[.pointer (some ⟨R.p, 0, none⟩), int i64 k, int i64 i] w fun e w' => e = .returned (int i64 ((k * ids + i : Nat) : Int)) ∧ w = w' := by
 refine (rat_any w R _ put k i h).mono ?_
 rintro e w' ⟨⟨r, rfl, hr⟩, rfl⟩
 rcases hS.at hr with ⟨h', _⟩ | ⟨a, b, _, _, h1, h2, _, _, _, rfl, _⟩
 · simp [ixOf, shOf, hm, hx] at h'
 · obtain rfl : k = a := by omega
   obtain rfl : i = b := by omega
   exact ⟨rfl, rfl⟩
theorem rfirst_nil (k : Int) (m : Sh) (hm : shOf M k = some m) (hf : m.free = []) : Calls prog 148 #[.pointer (some ⟨R.p, 0, none⟩), int i64 k] w fun e w' => e = .returned (int i64 (-1)) ∧ Below w.heap.size w w' := by
 refine (rfirst_any w R _ put k h).mono ?_
 rintro e w' ⟨⟨r, rfl, hr⟩, hb⟩
 rcases hS.first hr hm with ⟨_, rfl⟩ | ⟨_, _, _, _, _, _, h', _⟩
 · exact ⟨rfl, hb⟩
 · rw [hf] at h'; cases h'
theorem rfirst_cons (k f : Nat) (fs : List Int) (m : Sh) (hm : M[k]? = some m) (hf : m.free = (f : Int) :: fs) : Calls prog 148 #[.pointer (some ⟨R.p, 0, none⟩), int i64 k] w fun e w' => e = .returned (int i64 ((k * ids + f : Nat) : Int)) ∧ Below w.heap.size w w' := by
 refine (rfirst_any w R _ put k h).mono ?_
 rintro e w' ⟨⟨r, rfl, hr⟩, hb⟩
 rcases hS.first hr (by simp [shOf, hm] : shOf M (k : Int) = some m) with ⟨h', _⟩ | ⟨a, b, _, _, h1, _, h2, _, _, rfl⟩
 · rw [hf] at h'; cases h'
 · obtain rfl : k = a := by omega
   rw [hf] at h2
   obtain rfl : f = b := by have := (List.cons.inj h2).1; omega
   exact ⟨rfl, hb⟩
end
theorem rgen_any (w : World) (R : RLay) (ids : Nat) {c : Int} (M : List Sh) (h : RPool w R ids c M) (k i : Int) : Calls prog 116 #[.pointer (some ⟨R.p, 0, none⟩), int i64 k, int i64 i] w fun e w' => e = .returned (int i64 (genF M k i)) ∧ Below w.heap.size w w' := by
 obtain ⟨rw, put, h1, h2, hpc⟩ := h
 cases hix : ixOf M k i with
 | none =>
   simp only [genF, hix]
   have HA := hid (rat_none w R ids M rw put h1 h2 k i hix)
   clear hix h1 h2
   go_enter Tryz.func116, Tryz.ntmps116
   go_wp2_with (go_at_call 117; refine HA.out.mono ?_; rintro e w' ⟨rfl, rfl⟩)
   go_ret
   exact ⟨rfl, bg⟩
 | some x =>
   simp only [genF, hix]
   obtain ⟨k, i, m, rfl, rfl, hm, hx⟩ := ixOf_nat' hix
   have HA := hid (rat_some w R ids M rw put h1 h2 k i m x hm hx)
   have hs := mSlots_get (rw := rw) M 0 k i m x h2.len hm hx
   obtain ⟨s0, s1, s2, s3, s4, s5⟩ := h1.slot hs
   obtain ⟨c0, c1, fp, fb, b0, b1⟩ := h1.tops
   obtain ⟨z1, z2⟩ := h1.bnd
   obtain ⟨y0, y1, y2, y3⟩ := lts b0
   obtain ⟨x0, x1, x2, x3⟩ := lts b1
   have b00 : ∀ n, R.p < w.heap.size + n := fun n => by omega
   have b11 : ∀ n, R.b < w.heap.size + n := fun n => by omega
   have hn := (List.getElem?_eq_some_iff.1 hs).1
   have hnI : 0 ≤ ((k * ids + i : Nat) : Int) := Int.natCast_nonneg _
   have hnL : ((k * ids + i : Nat) : Int) < ((mSlots rw 0 M).length : Int) := by omega
   unfold maxLen at z2
   generalize (mSlots rw 0 M).length = len at *
   generalize k * ids + i = n at *
   clear hs hm hx hix h1 h2
   simp only at s2
   go_enter Tryz.func116, Tryz.ntmps116
   go_wp2_with (go_at_call 117; refine HA.out.mono ?_; rintro e w' ⟨rfl, rfl⟩)
   go_ret
   exact ⟨rfl, bg⟩
theorem ralive_any (w : World) (R : RLay) (ids : Nat) {c : Int} (M : List Sh) (h : RPool w R ids c M) (s i g : Int) : Calls prog 113 #[.pointer (some ⟨R.p, 0, none⟩), .agg #[int i64 s, int i64 i, int i64 g]] w fun e w' => e = .returned (.bool (aliveF M s i g)) ∧ Below w.heap.size w w' := by
 have h' := h.grown ((Below.refl _ _).alloc (Nat.le_refl _) (.cells #[int i64 s, int i64 i, int i64 g] 30))
 obtain ⟨rw, put, h1, h2, hpc⟩ := h
 obtain ⟨rw', put', h1', h2', _⟩ := h'
 cases hix : ixOf M s i with
 | none =>
   simp only [aliveF, hix]
   have HA := hid (rat_none _ R ids M rw' put' h1' h2' s i hix)
   clear hix h1 h2 h1' h2'
   go_enter Tryz.func113, Tryz.ntmps113
   go_wp2_with (go_at_call 117; refine HA.out.mono ?_; rintro e w' ⟨rfl, rfl⟩)
   refine wpm ?_
   repeat (go_big_quiet_step (fail))
   refine wpQuiet_nil ?_
   rintro _ ⟨pn, rfl⟩
   go_wp2_with fail
   go_ret
   exact ⟨rfl, bg⟩
 | some x =>
   simp only [aliveF, hix]
   obtain ⟨k, i, m, rfl, rfl, hm, hx⟩ := ixOf_nat' hix
   have HA := hid (rat_some _ R ids M rw' put' h1' h2' k i m x hm hx)
   have hs := mSlots_get (rw := rw) M 0 k i m x h2.len hm hx
   obtain ⟨s0, s1, s2, s3, s4, s5⟩ := h1.slot hs
   obtain ⟨c0, c1, fp, fb, b0, b1⟩ := h1.tops
   obtain ⟨z1, z2⟩ := h1.bnd
   obtain ⟨y0, y1, y2, y3⟩ := lts b0
   obtain ⟨x0, x1, x2, x3⟩ := lts b1
   have b00 : ∀ n, R.p < w.heap.size + n := fun n => by omega
   have b11 : ∀ n, R.b < w.heap.size + n := fun n => by omega
   have hn := (List.getElem?_eq_some_iff.1 hs).1
   have hnI : 0 ≤ ((k * ids + i : Nat) : Int) := Int.natCast_nonneg _
   have hnL : ((k * ids + i : Nat) : Int) < ((mSlots rw 0 M).length : Int) := by omega
   unfold maxLen at z2
   generalize (mSlots rw 0 M).length = len at *
   generalize k * ids + i = n at *
   clear hs hm hx hix h1 h2 h1' h2'
   simp only at s2 s5
   obtain ⟨gen, bound, alive⟩ := x
   simp only at s2 s5
   have hdn : decide (0 ≤ (n : Int)) = true := by simp
   cases alive
   all_goals
    go_enter Tryz.func113, Tryz.ntmps113
    go_wp2_with (go_at_call 117; refine HA.out.mono ?_; rintro e w' ⟨rfl, rfl⟩)
    refine wpm ?_
    repeat (go_big_quiet_step (fail))
    refine wpQuiet_nil ?_
    rintro _ ⟨pn, rfl⟩
    go_wp2_with fail
    go_ret
    exact ⟨rfl, bg⟩
theorem rhead_any (w : World) (R : RLay) (ids : Nat) {c : Int} (M : List Sh) (h : RPool w R ids c M) (k : Int) : Calls prog 115 #[.pointer (some ⟨R.p, 0, none⟩), int i64 k] w fun e w' =>
 e = .returned (.tuple #[int i64 (headF M k).1, .bool (headF M k).2.1, int i64 (headF M k).2.2]) ∧ Below w.heap.size w w' := by
 obtain ⟨rw, put, h1, h2, hpc⟩ := h
 cases hm : shOf M k with
 | none =>
   simp only [headF, hm]
   have HA := hid (rat_none w R ids M rw put h1 h2 k 0 (h2.none.2 hm))
   clear hm h1 h2
   go_enter Tryz.func115, Tryz.ntmps115
   go_wp2_with (go_at_call 117; refine HA.out.mono ?_; rintro e w' ⟨rfl, rfl⟩)
   go_ret3
   exact ⟨rfl, bg⟩
 | some m =>
   have hm' := hm
   unfold shOf at hm'
   split at hm'
   case isFalse => cases hm'
   rename_i hk0
   obtain ⟨k, rfl⟩ := Int.eq_ofNat_of_zero_le hk0
   rw [Int.toNat_natCast] at hm'
   have hal := h2.len m (List.mem_of_getElem? hm')
   have hx0 : m.all[0]? = some (m.all[0]'(by have := h2.pos.1; omega)) := List.getElem?_eq_getElem _
   have HA := hid (rat_some w R ids M rw put h1 h2 k 0 m _ hm' hx0)
   clear hx0
   cases hf : m.free with
   | nil =>
     simp only [headF, hm, hf]
     have HF := hid (rfirst_nil w R ids M rw put h1 h2 k m hm hf)
     clear hm hm' hf h1 h2 hal hk0
     simp only [Nat.add_zero] at HA
     generalize k * ids = kn at *
     have hnI : 0 ≤ (kn : Int) := Int.natCast_nonneg _
     go_enter Tryz.func115, Tryz.ntmps115
     go_wp2_with (first | (go_at_call 117; refine HA.out.mono ?_; rintro e w' ⟨rfl, rfl⟩) | (go_at_call 148; refine belA (HF.out) fun d os => ?_))
     go_ret3
     exact ⟨rfl, bg⟩
   | cons f fs =>
     obtain ⟨h0, h1'⟩ := (h2.good m (List.mem_of_getElem? hm')).inv.fr f (by rw [hf]; simp)
     obtain ⟨i, rfl⟩ := Int.eq_ofNat_of_zero_le h0
     obtain ⟨x, hx⟩ : ∃ x, m.all[i]? = some x := ⟨_, List.getElem?_eq_getElem (by omega)⟩
     simp only [headF, hm, hf, Int.toNat_natCast, hx]
     have HF := hid (rfirst_cons w R ids M rw put h1 h2 k i fs m hm' hf)
     have hm := hm'
     have hs := mSlots_get (rw := rw) M 0 k i m x h2.len hm hx
     obtain ⟨s0, s1, s2, s3, s4, s5⟩ := h1.slot hs
     obtain ⟨c0, c1, fp, fb, b0, b1⟩ := h1.tops
     obtain ⟨z1, z2⟩ := h1.bnd
     obtain ⟨y0, y1, y2, y3⟩ := lts b0
     obtain ⟨x0, x1, x2, x3⟩ := lts b1
     have b00 : ∀ n, R.p < w.heap.size + n := fun n => by omega
     have b11 : ∀ n, R.b < w.heap.size + n := fun n => by omega
     have hn := (List.getElem?_eq_some_iff.1 hs).1
     have hnI : 0 ≤ ((k * ids + i : Nat) : Int) := Int.natCast_nonneg _
     have hnL : ((k * ids + i : Nat) : Int) < ((mSlots rw 0 M).length : Int) := by omega
     unfold maxLen at z2
     clear hs hm hm' hf h1 h2 hal hk0 hx h0 h1'
     simp only [Nat.add_zero] at HA
     generalize (mSlots rw 0 M).length = len at *
     generalize k * ids + i = n at *
     generalize k * ids = kn at *
     have hknI : 0 ≤ (kn : Int) := Int.natCast_nonneg _
     obtain ⟨gen, bound, alive⟩ := x
     simp only at s1 s2 s3
     go_enter Tryz.func115, Tryz.ntmps115
     go_wp2_with (first | (go_at_call 117; refine HA.out.mono ?_; rintro e w' ⟨rfl, rfl⟩) | (go_at_call 148; refine belA (HF.out) fun d os => ?_))
     refine wpm ?_
     repeat (go_big_quiet_step (fail))
     refine wpQuiet_nil ?_
     rintro _ ⟨pn, rfl⟩
     go_wp2_with fail
     go_ret3
     exact ⟨rfl, bg⟩
end
end Go.Proofs.YtoimjjhopljdmaaGreat
