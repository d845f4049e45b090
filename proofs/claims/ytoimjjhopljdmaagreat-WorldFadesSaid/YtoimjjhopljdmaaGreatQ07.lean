/-
  Chapter texts Hlp Rin Bun Nid RefA: what the claim reaches of them. Conditions stand at each theorem.
-/
import Derived.WalkKit
import Derived.Test.YtoimjjhopljdmaaGreatProg
import Derived.Test.YtoimjjhopljdmaaGreatQ01
import Derived.Test.YtoimjjhopljdmaaGreatQ06
namespace Go.Proofs.YtoimjjhopljdmaaGreat
open Go.RowKit
theorem sl_lt {w : World} {e : TypeId} {size : Nat} {v : Value} {n : Nat} {xs : List Value} (h : Sl w e size v n xs) {g : Nat} (hg : v.ownBlock = some g) : g < w.heap.size := by
  obtain ⟨_, ⟨rfl, _⟩ | ⟨g', off, cap, cur, rfl, hb, _⟩⟩ := h
  · cases hg
  · cases hg; exact (Array.getElem?_eq_some_iff.1 hb).1
theorem sl_frm {w : World} {e : TypeId} {size : Nat} {v : Value} {n : Nat} {xs : List Value} (h : Sl w e size v n xs) : ∃ p cap, v = .slice p n cap := by
  obtain ⟨_, ⟨rfl, rfl⟩ | ⟨g, off, cap, cur, rfl, _⟩⟩ := h
  · exact ⟨none, 0, rfl⟩
  · exact ⟨_, cap, rfl⟩
theorem new_cells (W : World) (arr : Array Value) (t : TypeId) (j : Nat) (u : Value) (h : arr.toList[j]? = some u) : (W.alloc (.cells arr t)).cell? (Addr.add ⟨W.heap.size, 0, none⟩ j) = some u := by
  have e : Addr.add ⟨W.heap.size, 0, none⟩ j = ⟨W.heap.size, j, none⟩ := by unfold Addr.add; split <;> simp_all
  rw [e]
  simp
  simpa using h
theorem heap_alloc_new_at (W : World) (o : Obj) (n : Nat) (h : n = W.heap.size) : (W.alloc o).heap[n]? = some o := by subst h; exact heap_alloc_new W o
theorem new_cellsN (W : World) (arr : Array Value) (t : TypeId) (n : Nat) (hn : n = W.heap.size) (j : Nat) (u : Value) (h : arr.toList[j]? = some u) : (W.alloc (.cells arr t)).cell? (Addr.add ⟨n, 0, none⟩ j) = some u := by subst hn; exact new_cells W arr t j u h
theorem info_partsG {P : Program} {t : TypeId} {z : Value} {s b : Nat} (h : (P.info? t).map (fun i => (i.zero, i.size, i.bytes)) = some (some z, s, b)) : ∃ i, P.info? t = some i ∧ i.zero = some z ∧ i.size = s ∧ i.bytes = b := by
  cases hi : P.info? t with
  | none => rw [hi] at h; cases h
  | some i => rw [hi] at h; simp at h; exact ⟨i, rfl, h.1, h.2.1, h.2.2⟩
theorem ltz {a W : Nat} (h : a < W) : (∀ n, a < W + n) ∧ (∀ n m, a < W + n + m) ∧ (∀ n m q, a < W + n + m + q) := ⟨fun _ => by omega, fun _ _ => by omega, fun _ _ _ => by omega⟩
theorem new_box (W : World) (arr : Array Value) (t : TypeId) (n : Nat) (hn : n = W.heap.size) : (∀ u, (W.alloc (.cells arr t)).cell? ⟨n, u, none⟩ = arr[u]?) ∧ (∀ u, (W.alloc (.cells arr t)).frozen? ⟨n, u, none⟩ = false) ∧ n < (W.alloc (.cells arr t)).heap.size ∧ Below W.heap.size W (W.alloc (.cells arr t)) := by
  subst hn
  have e := heap_alloc_new_at W (.cells arr t) W.heap.size rfl
  refine ⟨fun u => ?_, fun u => ?_, by simp, (Below.refl _ _).alloc (Nat.le_refl _) _⟩
  · unfold World.cell?; rw [e]; rfl
  · unfold World.frozen?; rw [e]; simp
theorem box_on {w w' : World} {n : Nat} {arr : Array Value} (hb : Below w.heap.size w w') (hn : n < w.heap.size) (hc : ∀ u, w.cell? ⟨n, u, none⟩ = arr[u]?) : ∀ u, w'.cell? ⟨n, u, none⟩ = arr[u]? := fun u => (hb.cell (p := ⟨n, u, none⟩) hn).trans (hc u)
theorem two_boxes (W : World) (a6 a7 : Array Value) (t6 t7 : TypeId) : ∃ w1, w1 = (W.alloc (.cells a6 t6)).alloc (.cells a7 t7) ∧ Below W.heap.size W w1 ∧ (∀ u, w1.cell? ⟨W.heap.size, u, none⟩ = a6[u]?) ∧ (∀ u, w1.cell? ⟨W.heap.size + 1, u, none⟩ = a7[u]?) ∧
    (∀ u, w1.frozen? ⟨W.heap.size, u, none⟩ = false) ∧ (∀ u, w1.frozen? ⟨W.heap.size + 1, u, none⟩ = false) ∧ w1.heap.size = W.heap.size + 1 + 1 := by
  have e6 : ((W.alloc (.cells a6 t6)).alloc (.cells a7 t7)).heap[W.heap.size]? = some (.cells a6 t6) :=
    (((Below.refl _ (W.alloc (.cells a6 t6))).alloc (Nat.le_refl _) (.cells a7 t7)).block W.heap.size (by simp)).trans (heap_alloc_new_at W _ _ rfl)
  have e7 : ((W.alloc (.cells a6 t6)).alloc (.cells a7 t7)).heap[W.heap.size + 1]? = some (.cells a7 t7) := heap_alloc_new_at _ _ _ (by simp)
  refine ⟨_, rfl, (by repeat' (first | (with_reducible exact Below.refl _ _) | (with_reducible assumption) | (with_reducible refine below_drewN ?_ _) | (with_reducible refine below_more _ _ _ ?_ ?_) | (with_reducible refine Below.alloc ?_ ?_ _) | (with_reducible refine Below.drew ?_) | (with_reducible refine Below.setCell ?_ ?_ _) | go_size)), fun u => ?_, fun u => ?_, fun u => ?_, fun u => ?_, by simp⟩
  · unfold World.cell?; rw [e6]; rfl
  · unfold World.cell?; rw [e7]; rfl
  · unfold World.frozen?; rw [e6]; simp
  · unfold World.frozen?; rw [e7]; simp
theorem Turned.below_new {W w2 a : World} {b : Option Nat} {B : Nat} (h : Turned W w2 b) (hb : ∀ k, b = some k → B ≤ k) (h0 : Below B a W) (hB : B ≤ W.heap.size) : Below B a w2 :=
  h0.trans ⟨h.os, h.tape, h.output, by have := h.size; omega, fun k hk => h.block k (by omega) (fun e => by have := hb k e.symm; omega)⟩
theorem cell_set_ne {w : World} {b o o' : Nat} {u : Value} (h : o ≠ o') : (w.setCell ⟨b, o, none⟩ u).cell? ⟨b, o', none⟩ = w.cell? ⟨b, o', none⟩ := by
  simp only [World.setCell, World.cell?, Array.getElem?_modify, if_true]
  cases w.heap[b]? with
  | none => rfl
  | some x =>
    cases x <;> simp [Array.getElem?_setIfInBounds_ne h]
theorem one_box (W : World) (a6 : Array Value) (t6 : TypeId) : ∃ w1, w1 = W.alloc (.cells a6 t6) ∧ (∀ u, w1.cell? ⟨W.heap.size, u, none⟩ = a6[u]?) ∧ Below W.heap.size W w1 ∧ (∀ u, w1.frozen? ⟨W.heap.size, u, none⟩ = false) ∧ w1.heap.size = W.heap.size + 1 := by
  obtain ⟨h1, h2, h3, h4⟩ := new_box W a6 t6 W.heap.size rfl
  exact ⟨_, rfl, h1, h4, h2, by simp⟩
end Go.Proofs.YtoimjjhopljdmaaGreat
namespace Go.Proofs.YtoimjjhopljdmaaGreat
open Go.RowKit
section
variable {β : Type} (enc : β → List Value) (T : TypeId) (size : Nat) (hk : ∀ x, (enc x).length = size)
def cellsR (l : List β) : List Value := l.flatMap enc
theorem cellsR_app (l l' : List β) : cellsR enc (l ++ l') = cellsR enc l ++ cellsR enc l' := by simp [cellsR]
theorem cellsR_one (x : β) : cellsR enc [x] = enc x := by simp [cellsR]
theorem cellsR_mem {l : List β} (h1 : ∀ x, ∀ v ∈ enc x, v.oneCell' = true) : ∀ u ∈ cellsR enc l, u.oneCell' = true := fun u hu => by
  obtain ⟨b, _, hb⟩ := List.mem_flatMap.1 hu
  exact h1 b u hb
include hk in
theorem cellsR_len : ∀ l : List β, (cellsR enc l).length = l.length * size
  | [] => by simp [cellsR]
  | b :: l => by
    have h := cellsR_len l
    simp only [cellsR, List.flatMap_cons, List.length_append, hk, List.length_cons] at *
    rw [h, Nat.add_mul, Nat.one_mul, Nat.add_comm]
include hk in
theorem cellsR_get : ∀ (l : List β) (k j : Nat) (b : β), l[k]? = some b → j < size → (cellsR enc l)[k * size + j]? = (enc b)[j]?
  | c :: l, 0, j, b, h, hj => by
    obtain rfl : c = b := by simpa using h
    simp only [cellsR, List.flatMap_cons, Nat.zero_mul, Nat.zero_add]
    rw [List.getElem?_append_left (by rw [hk]; exact hj)]
  | c :: l, k + 1, j, b, h, hj => by
    have ih := cellsR_get l k j b (by simpa using h) hj
    simp only [cellsR, List.flatMap_cons] at *
    rw [List.getElem?_append_right (by rw [hk, Nat.add_mul]; omega), hk, show (k + 1) * size + j - size = k * size + j by rw [Nat.add_mul]; omega, ih]

def RIn (w : World) (v : Value) (l : List β) : Prop :=
  ∃ p cap, v = .slice p l.length cap ∧ l.length ≤ maxLen ∧ (p = none → cap = 0) ∧ l.length ≤ cap ∧ (l ≠ [] → ∃ blk off, p = some ⟨blk, off, none⟩ ∧ blk < w.heap.size ∧ ∀ t u, (cellsR enc l)[t]? = some u → w.cell? ⟨blk, off + t, none⟩ = some u)
def RNew (w w' : World) (v : Value) (l : List β) : Prop := Sl w' T size v l.length (cellsR enc l) ∧ Below w.heap.size w w' ∧ ∀ g, v.ownBlock = some g → w.heap.size ≤ g
variable {enc T size}

theorem RIn.of_sl {w : World} {v : Value} {l : List β} (h : Sl w T size v l.length (cellsR enc l)) : RIn enc w v l := by
  obtain ⟨_, ⟨rfl, h0⟩ | ⟨g, off, cap, cur, rfl, hb, hn, hc, hsz, hr⟩⟩ := h
  · obtain rfl := List.eq_nil_of_length_eq_zero h0
    exact ⟨none, 0, rfl, by simp [maxLen], fun _ => rfl, Nat.le_refl _, fun h => absurd rfl h⟩
  · exact ⟨_, cap, rfl, by omega, (fun h => by cases h), hn, fun _ => ⟨g, off, rfl, (Array.getElem?_eq_some_iff.1 hb).1, fun t u hu => by simp [World.cell?, hb, hr t u hu]⟩⟩
theorem RIn.keep {w w' : World} {v : Value} {l : List β} (h : RIn enc w v l) (hb : Below w.heap.size w w') : RIn enc w' v l := by
  obtain ⟨p, cap, rfl, h1, h2, h3, h4⟩ := h
  refine ⟨p, cap, rfl, h1, h2, h3, fun hn => ?_⟩
  obtain ⟨blk, off, rfl, h5, h6⟩ := h4 hn
  exact ⟨blk, off, rfl, Nat.lt_of_lt_of_le h5 hb.size, fun t u hu => (hb.cell (p := ⟨blk, off + t, none⟩) h5).trans (h6 t u hu)⟩
include hk in
theorem RIn.cells {w : World} {v : Value} {l : List β} (h : RIn enc w v l) {k : Nat} {b : β} (hb : l[k]? = some b) : ∃ blk off cap, v = .slice (some ⟨blk, off, none⟩) l.length cap ∧ blk < w.heap.size ∧ ∀ j u, (enc b)[j]? = some u → w.cell? ⟨blk, off + k * size + j, none⟩ = some u := by
  obtain ⟨p, cap, rfl, _, _, _, h4⟩ := h
  obtain ⟨blk, off, rfl, h5, h6⟩ := h4 (fun e => by subst e; cases hb)
  refine ⟨blk, off, cap, rfl, h5, fun j u hj => ?_⟩
  have hj' : j < size := by have := (List.getElem?_eq_some_iff.1 hj).1; rwa [hk] at this
  have e := cellsR_get enc size hk l k j b hb hj'
  rw [Nat.add_assoc]
  exact h6 _ u (e.trans hj)
theorem RNew.rin {w0 w : World} {v : Value} {l : List β} (h : RNew enc T size w0 w v l) : RIn enc w v l := RIn.of_sl h.1
theorem RNew.grow {w0 w w' : World} {v : Value} {l : List β} (h : RNew enc T size w0 w v l) (hb : Below w.heap.size w w') : RNew enc T size w0 w' v l :=
  ⟨h.1.keep fun g hg => hb.block g (sl_lt h.1 hg), h.2.1.trans (hb.mono h.2.1.size), h.2.2⟩
theorem RNew.nil (w : World) : RNew enc T size w w (.slice none 0 0) ([] : List β) := ⟨⟨by simp [cellsR], .inl ⟨rfl, rfl⟩⟩, Below.refl _ _, fun g hg => by cases hg⟩
theorem RNew.since {w0 w1 w : World} {v : Value} {l : List β} (h : RNew enc T size w1 w v l) (hb : Below w0.heap.size w0 w1) : RNew enc T size w0 w v l :=
  ⟨h.1, hb.trans (h.2.1.mono hb.size), fun g hg => Nat.le_trans hb.size (h.2.2 g hg)⟩
theorem RNew.snoc {w0 w w1 : World} {v v' : Value} {l : List β} {b : β} (h : RNew enc T size w0 w v l) (hs : Sl w1 T size v' (l.length + 1) (cellsR enc l ++ enc b)) (ht : Turned w w1 v.ownBlock)
    (ho : v'.ownBlock = v.ownBlock ∨ ∃ g, v'.ownBlock = some g ∧ w.heap.size ≤ g) : RNew enc T size w0 w1 v' (l ++ [b]) := by
  refine ⟨?_, h.2.1.trans ⟨ht.os, ht.tape, ht.output, ht.size, fun k hk => ht.block k (by have := h.2.1.size; omega) fun e => by have := h.2.2 k e.symm; omega⟩, fun q hq => ?_⟩
  · rw [cellsR_app, cellsR_one]; simpa using hs
  · rcases ho with e | ⟨g', e, hg'⟩
    · exact h.2.2 q (by rw [← e]; exact hq)
    · rw [e] at hq
      cases hq
      exact Nat.le_trans h.2.1.size hg'
end
end Go.Proofs.YtoimjjhopljdmaaGreat
namespace Go.Proofs.YtoimjjhopljdmaaGreat
open Go.RowKit

structure Bun where
  (s i g m x y vx vy hp pw lf : Int)
  deriving DecidableEq

abbrev Bun.arr (b : Bun) : Array Value := #[.int .i64 b.s, .int .i64 b.i, .int .i64 b.g, .int .i64 b.m, .int .i64 b.x, .int .i64 b.y, .int .i64 b.vx, .int .i64 b.vy, .int .i64 b.hp, .int .i64 b.pw, .int .i64 b.lf]
abbrev Bun.v (b : Bun) : Value := .agg b.arr

@[simp, go_sem] theorem Bun.eta (b : Bun) : (⟨b.s, b.i, b.g, b.m, b.x, b.y, b.vx, b.vy, b.hp, b.pw, b.lf⟩ : Bun) = b := rfl

structure Cm where
  (k s i g : Int) (b : Bun) (mask : Int)

def inR (lo n hi : Int) : Bool := decide (lo ≤ n) && decide (n ≤ hi)
def withinB (h : Bool) (n lo hi : Int) : Bool := if h then inR lo n hi else n == 0
def hasB (m k : Int) : Bool := bits .and .i64 m k == k
def errB (ok : Bool) : Int := if ok then 0 else 1
def idOk (s i g : Int) : Bool := inR 0 s 15 && inR 0 i 15 && inR 0 g 1048575
def rightB (b : Bun) : Bool :=
  inR 0 b.m 31 && withinB (hasB b.m 1) b.x (-1073741824) 1073741824 && withinB (hasB b.m 1) b.y (-1073741824) 1073741824 && withinB (hasB b.m 2) b.vx (-1073741824) 1073741824 &&
  withinB (hasB b.m 2) b.vy (-1073741824) 1073741824 && withinB (hasB b.m 4) b.hp 1 1048576 && withinB (hasB b.m 8) b.pw 0 1024 && withinB (hasB b.m 16) b.lf 1 1048576
def checkB (b : Bun) : Bool := rightB b && hasB b.m 1 && idOk b.s b.i b.g
def someB (m : Int) : Bool := decide (0 < m) && decide (m ≤ 31) && (bits .and .i64 m 1 == 0)
def idEq (s i g s' i' g' : Int) : Bool := s == s' && i == i' && g == g'
def bunEq (a b : Bun) : Bool := decide (a = b)
def idZero (s i g : Int) : Bool := idEq s i g 0 0 0
def bunZero (b : Bun) : Bool := bunEq b ⟨0, 0, 0, 0, 0, 0, 0, 0, 0, 0, 0⟩
def cmdB (c : Cm) : Bool :=
  if c.k == 1 then idZero c.s c.i c.g && c.mask == 0 && checkB c.b
  else if c.k == 3 then c.mask == 0 && idZero c.b.s c.b.i c.b.g && someB c.b.m && rightB c.b && idOk c.s c.i c.g
  else if c.k == 4 then someB c.mask && bunZero c.b && idOk c.s c.i c.g
  else if c.k == 2 then c.mask == 0 && bunZero c.b && idOk c.s c.i c.g
  else false

def withF (b c : Bun) : Bun :=
  { s := b.s, i := b.i, g := b.g, m := bits .or .i64 b.m c.m, x := if hasB c.m 1 then c.x else b.x, y := if hasB c.m 1 then c.y else b.y, vx := if hasB c.m 2 then c.vx else b.vx, vy := if hasB c.m 2 then c.vy else b.vy,
    hp := if hasB c.m 4 then c.hp else b.hp, pw := if hasB c.m 8 then c.pw else b.pw, lf := if hasB c.m 16 then c.lf else b.lf }
def withoutF (b : Bun) (k : Int) : Bun :=
  { s := b.s, i := b.i, g := b.g, m := bits .andNot .i64 (bits .or .i64 b.m k) k, x := if hasB k 1 then 0 else b.x, y := if hasB k 1 then 0 else b.y, vx := if hasB k 2 then 0 else b.vx, vy := if hasB k 2 then 0 else b.vy,
    hp := if hasB k 4 then 0 else b.hp, pw := if hasB k 8 then 0 else b.pw, lf := if hasB k 16 then 0 else b.lf }

end Go.Proofs.YtoimjjhopljdmaaGreat
namespace Go.Proofs.YtoimjjhopljdmaaGreat
open Go.RowKit
def bunL (b : Bun) : List Value := b.arr.toList
theorem bunL_len (b : Bun) : (bunL b).length = 11 := rfl
theorem bunL_one (b : Bun) : ∀ u ∈ bunL b, u.oneCell' = true := fun u hu => by
  simp [bunL] at hu
  rcases hu with rfl | rfl | rfl | rfl | rfl | rfl | rfl | rfl | rfl | rfl | rfl <;> rfl
def BFit (b : Bun) : Prop := (-9223372036854775808 ≤ b.s ∧ b.s ≤ 9223372036854775807) ∧ (-9223372036854775808 ≤ b.i ∧ b.i ≤ 9223372036854775807) ∧ (-9223372036854775808 ≤ b.g ∧ b.g ≤ 9223372036854775807) ∧ (-9223372036854775808 ≤ b.m ∧ b.m ≤ 9223372036854775807) ∧ (-9223372036854775808 ≤ b.x ∧ b.x ≤ 9223372036854775807) ∧ (-9223372036854775808 ≤ b.y ∧ b.y ≤ 9223372036854775807) ∧ (-9223372036854775808 ≤ b.vx ∧ b.vx ≤ 9223372036854775807) ∧ (-9223372036854775808 ≤ b.vy ∧ b.vy ≤ 9223372036854775807) ∧ (-9223372036854775808 ≤ b.hp ∧ b.hp ≤ 9223372036854775807) ∧ (-9223372036854775808 ≤ b.pw ∧ b.pw ≤ 9223372036854775807) ∧ (-9223372036854775808 ≤ b.lf ∧ b.lf ≤ 9223372036854775807)
def zeroB : Bun := ⟨0, 0, 0, 0, 0, 0, 0, 0, 0, 0, 0⟩
structure Nid where
  (s i g : Int)
  deriving DecidableEq, Inhabited
def nidL (n : Nid) : List Value := [.int .i64 n.s, .int .i64 n.i, .int .i64 n.g]
theorem nidL_len (n : Nid) : (nidL n).length = 3 := rfl
theorem nidL_one (n : Nid) : ∀ v ∈ nidL n, v.oneCell' = true := fun v hv => by
  simp only [nidL, List.mem_cons, List.not_mem_nil, or_false] at hv
  rcases hv with rfl | rfl | rfl <;> rfl
theorem info_nid : (Tryz.prog.info? 30).map (fun i => (i.zero, i.size, i.bytes)) = some (some (.agg #[.int .i64 0, .int .i64 0, .int .i64 0]), 3, 24) := by kernel_rfl
def idOf (b : Bun) : Nid := ⟨b.s, b.i, b.g⟩
def CmFit (c : Cm) : Prop := BFit c.b ∧ (-9223372036854775808 ≤ c.mask ∧ c.mask ≤ 9223372036854775807)
def cmC (c : Cm) : List Value := [.int .i64 c.k, .int .i64 c.s, .int .i64 c.i, .int .i64 c.g] ++ bunL c.b ++ [.int .i64 c.mask]
theorem cmC_len (c : Cm) : (cmC c).length = 16 := rfl
theorem cmC_one (c : Cm) : ∀ v ∈ cmC c, v.oneCell' = true := fun v hv => by
  simp [cmC, bunL] at hv
  rcases hv with rfl | rfl | rfl | rfl | rfl | rfl | rfl | rfl | rfl | rfl | rfl | rfl | rfl | rfl | rfl | rfl <;> rfl
theorem info_cm : (Tryz.prog.info? 34).map (fun i => (i.zero, i.size, i.bytes)) = some (some (.agg #[.int .i64 0, .int .i64 0, .int .i64 0, .int .i64 0, .int .i64 0, .int .i64 0, .int .i64 0, .int .i64 0, .int .i64 0, .int .i64 0, .int .i64 0, .int .i64 0, .int .i64 0, .int .i64 0, .int .i64 0, .int .i64 0]), 16, 128) := by kernel_rfl
end Go.Proofs.YtoimjjhopljdmaaGreat
namespace Go.Proofs.YtoimjjhopljdmaaGreat
open Go.RowKit
structure Slot where
  (k i gen bound row : Int) (alive : Bool)
def Slot.cells (s : Slot) : List Value := [.int .i64 s.k, .int .i64 s.i, .int .i64 s.gen, .int .i64 s.bound, .int .i64 s.row, .bool s.alive]
structure RLay where
  (p b off cap : Nat)
def RLay.own (R : RLay) (x : Nat) : Prop := x = R.p ∨ x = R.b

structure RefAt (w : World) (R : RLay) (l : List Slot) (put : Int) : Prop where
  top : w.heap[R.p]? = some (.cells #[.slice (some ⟨R.b, R.off, none⟩) l.length R.cap, .int .i64 put] 170 (0, 0))
  rows : ∃ cur : Array Value, w.heap[R.b]? = some (.cells cur 167 (0, 0)) ∧ l.length ≤ R.cap ∧ R.cap ≤ maxLen ∧ R.off + R.cap * 6 ≤ cur.size ∧ ∀ (n j : Nat) (s : Slot), l[n]? = some s → j < 6 → cur[R.off + n * 6 + j]? = s.cells[j]?
  ne : R.p ≠ R.b

variable {w w' : World} {R : RLay} {l : List Slot} {put : Int}
theorem RefAt.lt (h : RefAt w R l put) {x : Nat} (hx : R.own x) : x < w.heap.size := by
  rcases hx with rfl | rfl
  · exact lt_of_heap h.top
  · obtain ⟨cur, hc, _⟩ := h.rows; exact lt_of_heap hc
theorem RefAt.keep (h : RefAt w R l put) (hk : ∀ b, R.own b → w'.heap[b]? = w.heap[b]?) : RefAt w' R l put := by
  obtain ⟨cur, hc, r⟩ := h.rows
  exact ⟨by rw [hk _ (.inl rfl)]; exact h.top, ⟨cur, by rw [hk _ (.inr rfl)]; exact hc, r⟩, h.ne⟩
theorem RefAt.set (h : RefAt w R l put) {n : Nat} {s s' : Slot} (hs : l[n]? = some s) (q : Nat) (v : Value) (hq : q < 6) (hv : s'.cells[q]? = some v) (ho : ∀ j, j ≠ q → s'.cells[j]? = s.cells[j]?) :
    RefAt (w.setCell ⟨R.b, R.off + n * 6 + q, none⟩ v) R (l.set n s') put := by
  obtain ⟨cur, hc, h1, h2, h3, hr⟩ := h.rows
  have hn : n < l.length := (List.getElem?_eq_some_iff.1 hs).1
  refine ⟨?_, ⟨cur.setIfInBounds (R.off + n * 6 + q) v, heap_setCell_same _ _ _ _ _ _ _ hc, by simpa using h1, h2, by simpa using h3, fun m j t ht hj => ?_⟩, h.ne⟩
  · rw [Below.heap_setCell _ _ _ _ h.ne, List.length_set]; exact h.top
  · rw [List.getElem?_set] at ht
    by_cases hm : n = m
    · subst hm
      rw [if_pos rfl, if_pos hn] at ht
      obtain rfl : s' = t := by simpa using ht
      by_cases hjq : j = q
      · subst hjq
        rw [set_self _ _ _ (by omega), hv]
      · rw [Array.getElem?_setIfInBounds_ne (by omega), hr n j s hs hj, ho j hjq]
    · rw [if_neg hm] at ht
      rw [Array.getElem?_setIfInBounds_ne (by omega)]
      exact hr m j t ht hj
def ixSlots (rw : Int → Int → Int) (k : Int) : Int → List Ix → List Slot
  | _, [] => []
  | i, x :: xs => ⟨k, i, x.gen, x.bound, rw k i, x.alive⟩ :: ixSlots rw k (i + 1) xs
def mSlots (rw : Int → Int → Int) : Int → List Sh → List Slot
  | _, [] => []
  | k, m :: ms => ixSlots rw k 0 m.all ++ mSlots rw (k + 1) ms
variable {rw : Int → Int → Int}
theorem ixSlots_len : ∀ (l : List Ix) (k i : Int), (ixSlots rw k i l).length = l.length
  | [], _, _ => rfl
  | x :: l, k, i => by simp [ixSlots, ixSlots_len l k (i + 1)]
theorem ixSlots_get : ∀ (l : List Ix) (k i : Int) (j : Nat), (ixSlots rw k i l)[j]? = (l[j]?).map fun x => ⟨k, i + j, x.gen, x.bound, rw k (i + j), x.alive⟩
  | [], _, _, _ => by simp [ixSlots]
  | x :: l, k, i, 0 => by simp [ixSlots]
  | x :: l, k, i, j + 1 => by
    simp only [ixSlots, List.getElem?_cons_succ, ixSlots_get l k (i + 1) j]
    rw [show i + 1 + (j : Int) = i + ((j + 1 : Nat) : Int) by omega]
theorem mSlots_len {ids : Nat} : ∀ (M : List Sh) (k : Int), (∀ m ∈ M, m.all.length = ids) → (mSlots rw k M).length = M.length * ids
  | [], _, _ => by simp [mSlots]
  | m :: M, k, h => by
    rw [mSlots, List.length_append, ixSlots_len, h m (by simp), mSlots_len M (k + 1) fun m hm => h m (List.mem_cons_of_mem _ hm), List.length_cons, Nat.add_mul, Nat.one_mul, Nat.add_comm]
theorem mSlots_get {ids : Nat} : ∀ (M : List Sh) (k0 : Int) (k i : Nat) (m : Sh) (x : Ix), (∀ m ∈ M, m.all.length = ids) → M[k]? = some m → m.all[i]? = some x → (mSlots rw k0 M)[k * ids + i]? = some ⟨k0 + k, i, x.gen, x.bound, rw (k0 + k) i, x.alive⟩
  | [], _, _, _, _, _, _, h, _ => by simp at h
  | a :: M, k0, 0, i, m, x, hl, hm, hx => by
    obtain rfl : a = m := by simpa using hm
    have hil := (List.getElem?_eq_some_iff.1 hx).1
    rw [mSlots, Nat.zero_mul, Nat.zero_add, List.getElem?_append_left (by rw [ixSlots_len]; exact hil), ixSlots_get, hx]
    simp
  | a :: M, k0, k + 1, i, m, x, hl, hm, hx => by
    have h1 := mSlots_get (ids := ids) M (k0 + 1) k i m x (fun m hm => hl m (List.mem_cons_of_mem _ hm)) (by simpa using hm) hx
    have ha := hl a (by simp)
    have e : (k + 1) * ids + i = ids + (k * ids + i) := by rw [Nat.add_mul, Nat.one_mul]; omega
    rw [mSlots, e, List.getElem?_append_right (by rw [ixSlots_len, ha]; omega), ixSlots_len, ha, Nat.add_sub_cancel_left, h1]
    rw [show k0 + 1 + (k : Int) = k0 + ((k + 1 : Nat) : Int) by omega]

theorem mSlots_split {ids : Nat} {M : List Sh} (hl : ∀ m ∈ M, m.all.length = ids) {n : Nat} {s : Slot} (hs : (mSlots rw 0 M)[n]? = some s) : ∃ (k i : Nat) (m : Sh) (x : Ix), n = k * ids + i ∧ i < ids ∧ M[k]? = some m ∧ m.all[i]? = some x ∧ s = ⟨k, i, x.gen, x.bound, rw k i, x.alive⟩ := by
  have hn : n < M.length * ids := by rw [← mSlots_len M 0 hl]; exact (List.getElem?_eq_some_iff.1 hs).1
  have h0 : 0 < ids := by
    rcases Nat.eq_zero_or_pos ids with h | h
    · rw [h] at hn; omega
    · exact h
  have hk : n / ids < M.length := by rw [Nat.div_lt_iff_lt_mul h0]; exact hn
  have hi := Nat.mod_lt n h0
  have hm := List.getElem?_eq_getElem hk
  have hal := hl _ (List.getElem_mem hk)
  have hx : M[n / ids].all[n % ids]? = some (M[n / ids].all[n % ids]'(by omega)) := List.getElem?_eq_getElem (by omega)
  have hd : n = n / ids * ids + n % ids := by have := Nat.div_add_mod n ids; rw [Nat.mul_comm] at this; omega
  have hg := mSlots_get (rw := rw) M 0 (n / ids) (n % ids) _ _ hl hm hx
  rw [← hd, hs] at hg
  refine ⟨n / ids, n % ids, _, _, hd, hi, hm, hx, ?_⟩
  have := Option.some.inj hg
  rw [this]
  simp

structure Sim (ids : Nat) (M : List Sh) (rw : Int → Int → Int) (put : Int) : Prop where
  pos : 1 ≤ ids ∧ ids ≤ 16 ∧ M.length ≤ 16
  len : ∀ m ∈ M, m.all.length = ids
  good : ∀ m ∈ M, Good m
  row : ∀ (k : Nat) (m : Sh), M[k]? = some m → ∀ i : Nat, i < ids → (0 ≤ rw k i ↔ (i : Int) ∈ m.free) ∧ rw k i < put
  ord : ∀ (k : Nat) (m : Sh), M[k]? = some m → (m.free.map (rw k)).Pairwise (· < ·)
  put : 0 ≤ put

end Go.Proofs.YtoimjjhopljdmaaGreat
