/-
  Chapter texts Bun Nid Base Sl: what the claim reaches of them. Conditions stand at each theorem.
-/
import Derived.WalkKit
import Derived.Test.YtoimjjhopljdmaaGreatProg
import Derived.WalkSpells
import Derived.WalkLawsBesides
import Derived.Handy
import Derived.Lib.Hide
import Derived.Lib.QuietBelow
import Derived.BigQuiet
import Derived.Deep.RegionHeld3
import Derived.Deep.RegionWith
import Derived.Deep.DeepFit
import Derived.Deep.DeepCutAuto
import Derived.Deep.LoopGhost
import Derived.Deep.Light
import Derived.Deep.RegionLaw
import Derived.Deep.RegionLawGrows
namespace Go.Proofs.YtoimjjhopljdmaaGreat
open Go.RowKit

structure Bun where
  (s i g m x y vx vy hp pw lf : Int)
  deriving DecidableEq

abbrev Bun.arr (b : Bun) : Array Value := #[.int .i64 b.s, .int .i64 b.i, .int .i64 b.g, .int .i64 b.m, .int .i64 b.x, .int .i64 b.y, .int .i64 b.vx, .int .i64 b.vy, .int .i64 b.hp, .int .i64 b.pw, .int .i64 b.lf]
abbrev Bun.v (b : Bun) : Value := .agg b.arr

@[simp, go_sem] theorem Bun.eta (b : Bun) : (⟨b.s, b.i, b.g, b.m, b.x, b.y, b.vx, b.vy, b.hp, b.pw, b.lf⟩ : Bun) = b := rfl

structure Cm where
  (k s i g : Int) (b : Bun) (mask : Int)

def inR (lo n hi : Int) : Bool := decide (lo ≤ n) && decide (n ≤ hi)
def withinB (h : Bool) (n lo hi : Int) : Bool := if h then inR lo n hi else n == 0
def hasB (m k : Int) : Bool := bits .and .i64 m k == k
def errB (ok : Bool) : Int := if ok then 0 else 1
def idOk (s i g : Int) : Bool := inR 0 s 15 && inR 0 i 15 && inR 0 g 1048575
def rightB (b : Bun) : Bool :=
  inR 0 b.m 31 && withinB (hasB b.m 1) b.x (-1073741824) 1073741824 && withinB (hasB b.m 1) b.y (-1073741824) 1073741824 && withinB (hasB b.m 2) b.vx (-1073741824) 1073741824 &&
  withinB (hasB b.m 2) b.vy (-1073741824) 1073741824 && withinB (hasB b.m 4) b.hp 1 1048576 && withinB (hasB b.m 8) b.pw 0 1024 && withinB (hasB b.m 16) b.lf 1 1048576
def checkB (b : Bun) : Bool := rightB b && hasB b.m 1 && idOk b.s b.i b.g
def someB (m : Int) : Bool := decide (0 < m) && decide (m ≤ 31) && (bits .and .i64 m 1 == 0)
def idEq (s i g s' i' g' : Int) : Bool := s == s' && i == i' && g == g'
def bunEq (a b : Bun) : Bool := decide (a = b)
def idZero (s i g : Int) : Bool := idEq s i g 0 0 0
def bunZero (b : Bun) : Bool := bunEq b ⟨0, 0, 0, 0, 0, 0, 0, 0, 0, 0, 0⟩
def cmdB (c : Cm) : Bool :=
  if c.k == 1 then idZero c.s c.i c.g && c.mask == 0 && checkB c.b
  else if c.k == 3 then c.mask == 0 && idZero c.b.s c.b.i c.b.g && someB c.b.m && rightB c.b && idOk c.s c.i c.g
  else if c.k == 4 then someB c.mask && bunZero c.b && idOk c.s c.i c.g
  else if c.k == 2 then c.mask == 0 && bunZero c.b && idOk c.s c.i c.g
  else false

def withF (b c : Bun) : Bun :=
  { s := b.s, i := b.i, g := b.g, m := bits .or .i64 b.m c.m, x := if hasB c.m 1 then c.x else b.x, y := if hasB c.m 1 then c.y else b.y, vx := if hasB c.m 2 then c.vx else b.vx, vy := if hasB c.m 2 then c.vy else b.vy,
    hp := if hasB c.m 4 then c.hp else b.hp, pw := if hasB c.m 8 then c.pw else b.pw, lf := if hasB c.m 16 then c.lf else b.lf }
def withoutF (b : Bun) (k : Int) : Bun :=
  { s := b.s, i := b.i, g := b.g, m := bits .andNot .i64 (bits .or .i64 b.m k) k, x := if hasB k 1 then 0 else b.x, y := if hasB k 1 then 0 else b.y, vx := if hasB k 2 then 0 else b.vx, vy := if hasB k 2 then 0 else b.vy,
    hp := if hasB k 4 then 0 else b.hp, pw := if hasB k 8 then 0 else b.pw, lf := if hasB k 16 then 0 else b.lf }

def tb (m c : Int) : Bool := !((m / c) % 2 == 0)
def rWithF (b c : Bun) : Bun :=
  { s := b.s, i := b.i, g := b.g, m := bits .or .i64 b.m c.m, x := if tb c.m 1 then c.x else b.x, y := if tb c.m 1 then c.y else b.y, vx := if tb c.m 2 then c.vx else b.vx, vy := if tb c.m 2 then c.vy else b.vy,
    hp := if tb c.m 4 then c.hp else b.hp, pw := if tb c.m 8 then c.pw else b.pw, lf := if tb c.m 16 then c.lf else b.lf }
def rWithoutF (b : Bun) (k : Int) : Bun :=
  { s := b.s, i := b.i, g := b.g, m := wrap64 (b.m - bits .and .i64 b.m k), x := if tb k 1 then 0 else b.x, y := if tb k 1 then 0 else b.y, vx := if tb k 2 then 0 else b.vx, vy := if tb k 2 then 0 else b.vy,
    hp := if tb k 4 then 0 else b.hp, pw := if tb k 8 then 0 else b.pw, lf := if tb k 16 then 0 else b.lf }

end Go.Proofs.YtoimjjhopljdmaaGreat
namespace Go.Proofs.YtoimjjhopljdmaaGreat
open Go.RowKit
def bunL (b : Bun) : List Value := b.arr.toList
theorem bunL_len (b : Bun) : (bunL b).length = 11 := rfl
theorem bunL_one (b : Bun) : ∀ u ∈ bunL b, u.oneCell' = true := fun u hu => by
  simp [bunL] at hu
  rcases hu with rfl | rfl | rfl | rfl | rfl | rfl | rfl | rfl | rfl | rfl | rfl <;> rfl
def BFit (b : Bun) : Prop := (-9223372036854775808 ≤ b.s ∧ b.s ≤ 9223372036854775807) ∧ (-9223372036854775808 ≤ b.i ∧ b.i ≤ 9223372036854775807) ∧ (-9223372036854775808 ≤ b.g ∧ b.g ≤ 9223372036854775807) ∧ (-9223372036854775808 ≤ b.m ∧ b.m ≤ 9223372036854775807) ∧ (-9223372036854775808 ≤ b.x ∧ b.x ≤ 9223372036854775807) ∧ (-9223372036854775808 ≤ b.y ∧ b.y ≤ 9223372036854775807) ∧ (-9223372036854775808 ≤ b.vx ∧ b.vx ≤ 9223372036854775807) ∧ (-9223372036854775808 ≤ b.vy ∧ b.vy ≤ 9223372036854775807) ∧ (-9223372036854775808 ≤ b.hp ∧ b.hp ≤ 9223372036854775807) ∧ (-9223372036854775808 ≤ b.pw ∧ b.pw ≤ 9223372036854775807) ∧ (-9223372036854775808 ≤ b.lf ∧ b.lf ≤ 9223372036854775807)
def zeroB : Bun := ⟨0, 0, 0, 0, 0, 0, 0, 0, 0, 0, 0⟩
structure Nid where
  (s i g : Int)
  deriving DecidableEq, Inhabited
def nidL (n : Nid) : List Value := [.int .i64 n.s, .int .i64 n.i, .int .i64 n.g]
theorem nidL_len (n : Nid) : (nidL n).length = 3 := rfl
theorem nidL_one (n : Nid) : ∀ v ∈ nidL n, v.oneCell' = true := fun v hv => by
  simp only [nidL, List.mem_cons, List.not_mem_nil, or_false] at hv
  rcases hv with rfl | rfl | rfl <;> rfl
theorem info_nid : (Tryz.prog.info? 30).map (fun i => (i.zero, i.size, i.bytes)) = some (some (.agg #[.int .i64 0, .int .i64 0, .int .i64 0]), 3, 24) := by kernel_rfl
def idOf (b : Bun) : Nid := ⟨b.s, b.i, b.g⟩
def CmFit (c : Cm) : Prop := BFit c.b ∧ (-9223372036854775808 ≤ c.mask ∧ c.mask ≤ 9223372036854775807)
def cmC (c : Cm) : List Value := [.int .i64 c.k, .int .i64 c.s, .int .i64 c.i, .int .i64 c.g] ++ bunL c.b ++ [.int .i64 c.mask]
theorem cmC_len (c : Cm) : (cmC c).length = 16 := rfl
theorem cmC_one (c : Cm) : ∀ v ∈ cmC c, v.oneCell' = true := fun v hv => by
  simp [cmC, bunL] at hv
  rcases hv with rfl | rfl | rfl | rfl | rfl | rfl | rfl | rfl | rfl | rfl | rfl | rfl | rfl | rfl | rfl | rfl <;> rfl
theorem info_cm : (Tryz.prog.info? 34).map (fun i => (i.zero, i.size, i.bytes)) = some (some (.agg #[.int .i64 0, .int .i64 0, .int .i64 0, .int .i64 0, .int .i64 0, .int .i64 0, .int .i64 0, .int .i64 0, .int .i64 0, .int .i64 0, .int .i64 0, .int .i64 0, .int .i64 0, .int .i64 0, .int .i64 0, .int .i64 0]), 16, 128) := by kernel_rfl
end Go.Proofs.YtoimjjhopljdmaaGreat
namespace Go.Proofs.YtoimjjhopljdmaaGreat
open Go.RowKit

theorem cell_keep {W w' : World} {a : Addr} {v : Value} (hb : Below W.heap.size W w') (h : W.cell? a = some v) : w'.cell? a = some v := by
  rw [hb.cell (World.block_lt_of_cell? W a h)]; exact h

theorem box_keep {B0 b : Nat} {w0 W w' : World} {arr : Array Value} (hb : Below W.heap.size W w') (h : (Below B0 w0 W ∧ B0 ≤ W.heap.size ∧ b < W.heap.size) ∧ ∀ j, W.cell? ⟨b, j, none⟩ = arr[j]?) :
    (Below B0 w0 w' ∧ B0 ≤ w'.heap.size ∧ b < w'.heap.size) ∧ ∀ j, w'.cell? ⟨b, j, none⟩ = arr[j]? :=
  ⟨⟨h.1.1.trans (hb.mono h.1.2.1), Nat.le_trans h.1.2.1 hb.size, Nat.lt_of_lt_of_le h.1.2.2 hb.size⟩, fun j => (hb.cell (p := ⟨b, j, none⟩) h.1.2.2).trans (h.2 j)⟩

theorem box_alloc {B0 b : Nat} {w0 W : World} {arr : Array Value} (o : Obj) (h : (Below B0 w0 W ∧ B0 ≤ W.heap.size ∧ b < W.heap.size) ∧ ∀ j, W.cell? ⟨b, j, none⟩ = arr[j]?) :
    (Below B0 w0 (W.alloc o) ∧ B0 ≤ (W.alloc o).heap.size ∧ b < (W.alloc o).heap.size) ∧ ∀ j, (W.alloc o).cell? ⟨b, j, none⟩ = arr[j]? :=
  box_keep ((Below.refl _ _).alloc (Nat.le_refl _) o) h

theorem box_drew {B0 b : Nat} {w0 W : World} {arr : Array Value} (h : (Below B0 w0 W ∧ B0 ≤ W.heap.size ∧ b < W.heap.size) ∧ ∀ j, W.cell? ⟨b, j, none⟩ = arr[j]?) :
    (Below B0 w0 W.drew ∧ B0 ≤ W.drew.heap.size ∧ b < W.drew.heap.size) ∧ ∀ j, W.drew.cell? ⟨b, j, none⟩ = arr[j]? := ⟨⟨h.1.1.drew, h.1.2⟩, h.2⟩

theorem box_new (w : World) (arr : Array Value) (t : TypeId) : (Below w.heap.size w (w.alloc (.cells arr t)).drew ∧ w.heap.size ≤ (w.alloc (.cells arr t)).drew.heap.size ∧ w.heap.size < (w.alloc (.cells arr t)).drew.heap.size) ∧ ∀ j, (w.alloc (.cells arr t)).drew.cell? ⟨w.heap.size, j, none⟩ = arr[j]? :=
  ⟨⟨((Below.refl _ _).alloc (Nat.le_refl _) _).drew, by simp, by simp⟩, fun j => by simp⟩

theorem box_new0 (w : World) (arr : Array Value) (t : TypeId) : (Below w.heap.size w (w.alloc (.cells arr t)) ∧ w.heap.size ≤ (w.alloc (.cells arr t)).heap.size ∧ w.heap.size < (w.alloc (.cells arr t)).heap.size) ∧ ∀ j, (w.alloc (.cells arr t)).cell? ⟨w.heap.size, j, none⟩ = arr[j]? :=
  ⟨⟨(Below.refl _ _).alloc (Nat.le_refl _) _, by simp, by simp⟩, fun j => by simp⟩

def more (w : World) (d : Nat) (os : Array Obj) : World := { w with heap := w.heap ++ os, drawn := d }

theorem more_of {w w' : World} (h : Below w.heap.size w w') : ∃ d os, w' = more w d os := by
  refine ⟨w'.drawn, w'.heap.extract w.heap.size w'.heap.size, ?_⟩
  obtain ⟨heap', tape', drawn', os', output'⟩ := w'
  have e1 : os' = w.os := h.os
  have e2 : tape' = w.tape := h.tape
  have e3 : output' = w.output := h.output
  have hs : w.heap.size ≤ heap'.size := h.size
  have hb : ∀ k, k < w.heap.size → heap'[k]? = w.heap[k]? := h.block
  subst e1 e2 e3
  have eh : heap' = w.heap ++ heap'.extract w.heap.size heap'.size := by
    apply Array.ext_getElem?
    intro k
    by_cases hk : k < w.heap.size
    · rw [Array.getElem?_append_left hk]; exact hb k hk
    · rw [Array.getElem?_append_right (by omega), Array.getElem?_extract]
      by_cases hk2 : k < heap'.size
      · rw [if_pos (by omega)]; congr 1; omega
      · rw [if_neg (by omega), Array.getElem?_eq_none (by omega)]
  simp only [more]
  congr 1

section
variable (w : World) (d : Nat) (os : Array Obj)
@[simp, go_sem] theorem more_size : (more w d os).heap.size = w.heap.size + os.size := by simp [more]
@[simp, go_sem] theorem more_drew : (more w d os).drew = more w (d + 1) os := rfl
@[simp, go_sem] theorem more_drewN (n : Nat) : (more w d os).drewN n = more w (d + n) os := rfl
theorem more_below : Below w.heap.size w (more w d os) := ⟨rfl, rfl, rfl, by simp, fun k hk => by simp [more, Array.getElem?_append, hk]⟩
@[go_sem] theorem more_cell (a : Addr) (h : a.block < w.heap.size) : (more w d os).cell? a = w.cell? a := (more_below w d os).cell h
@[go_sem] theorem more_frozen (a : Addr) (h : a.block < w.heap.size) : (more w d os).frozen? a = w.frozen? a := (more_below w d os).frozen h
@[go_sem] theorem more_setCell (a : Addr) (v : Value) (h : a.block < w.heap.size) : (more w d os).setCell a v = more (w.setCell a v) d os := by
  simp only [more, World.setCell]
  congr 1
  apply Array.ext_getElem?
  intro k
  by_cases hk : k < w.heap.size
  · rw [Array.getElem?_append_left (by simpa using hk), Array.getElem?_modify, Array.getElem?_modify, Array.getElem?_append_left hk]
  · rw [Array.getElem?_append_right (by simpa using hk), Array.getElem?_modify, if_neg (by omega), Array.getElem?_append_right (by omega)]
    simp
theorem more_more (d' : Nat) (os' : Array Obj) : more (more w d os) d' os' = more w d' (os ++ os') := by simp [more, Array.append_assoc]
theorem below_more {B : Nat} {a : World} (h : Below B a w) (hB : B ≤ w.heap.size) : Below B a (more w d os) := h.trans ((more_below w d os).mono hB)
end

structure MoreP where
  d : Nat
  os : Array Obj
  deriving Inhabited

theorem wp_region_more {P : Program} {id : Nat} {Q : Exit → Act → World → Prop} {a : Act} {w : World} {l : List Oper} (hm : P.follows .mixedOrders = true) (hB : Region.lexB .any l.toArray = true)
    (h : wpQuiet P l.toArray (fun w' => ∃ p : MoreP, w' = more w p.d p.os) (fun a' => ∀ w', (∃ p : MoreP, w' = more w p.d p.os) → Q .normal a' w') l a) : (Code.region id l.toArray true).wp P Q a w :=
  wp_region_quiet (C := fun w' => ∃ p : MoreP, w' = more w p.d p.os) hm hB ⟨⟨w.drawn + 1, #[]⟩, by simp [more]⟩ (by simpa using h)

theorem more_call {P : Program} {f : FuncId} {args : Array Value} {w : World} {d : Nat} {os : Array Obj} {v : Value}
    (h : Calls P f args (more w d os) fun e w' => e = .returned v ∧ Below (more w d os).heap.size (more w d os) w') : Calls P f args (more w d os) fun e w'' => e = .returned v ∧ ∃ p : MoreP, w'' = more w p.d p.os :=
  h.mono fun _ _ ⟨he, hb⟩ => by
    obtain ⟨d', os', rfl⟩ := more_of hb
    exact ⟨he, ⟨d', os ++ os'⟩, more_more w d os d' os'⟩

theorem more_same {P : Program} {f : FuncId} {args : Array Value} {w : World} {d : Nat} {os : Array Obj} {v : Value}
    (h : Calls P f args (more w d os) fun e w' => e = .returned v ∧ more w d os = w') : Calls P f args (more w d os) fun e w'' => e = .returned v ∧ ∃ p : MoreP, w'' = more w p.d p.os :=
  h.mono fun _ _ ⟨he, hw⟩ => ⟨he, ⟨d, os⟩, hw.symm⟩

@[go_sem] theorem nat_lt_0 (a : Nat) : (a < a + 1) = True := by simp; try omega
@[go_sem] theorem nat_ne_0 (a : Nat) : (a = a + 1) = False := by simp; try omega
@[go_sem] theorem nat_en_0 (a : Nat) : (a + 1 = a) = False := by simp; try omega
@[go_sem] theorem nat_lt_1 (a c0 : Nat) : (a < a + 1 + c0) = True := by simp; try omega
@[go_sem] theorem nat_ne_1 (a c0 : Nat) : (a = a + 1 + c0) = False := by simp; try omega
@[go_sem] theorem nat_en_1 (a c0 : Nat) : (a + 1 + c0 = a) = False := by simp; try omega
@[go_sem] theorem nat_lt_2 (a c0 c1 : Nat) : (a < a + 1 + c0 + c1) = True := by simp; try omega
@[go_sem] theorem nat_ne_2 (a c0 c1 : Nat) : (a = a + 1 + c0 + c1) = False := by simp; try omega
@[go_sem] theorem nat_en_2 (a c0 c1 : Nat) : (a + 1 + c0 + c1 = a) = False := by simp; try omega
@[go_sem] theorem nat_lt_3 (a c0 c1 c2 : Nat) : (a < a + 1 + c0 + c1 + c2) = True := by simp; try omega
@[go_sem] theorem nat_ne_3 (a c0 c1 c2 : Nat) : (a = a + 1 + c0 + c1 + c2) = False := by simp; try omega
@[go_sem] theorem nat_en_3 (a c0 c1 c2 : Nat) : (a + 1 + c0 + c1 + c2 = a) = False := by simp; try omega
@[go_sem] theorem nat_lt_4 (a c0 c1 c2 c3 : Nat) : (a < a + 1 + c0 + c1 + c2 + c3) = True := by simp; try omega
@[go_sem] theorem nat_ne_4 (a c0 c1 c2 c3 : Nat) : (a = a + 1 + c0 + c1 + c2 + c3) = False := by simp; try omega
@[go_sem] theorem nat_en_4 (a c0 c1 c2 c3 : Nat) : (a + 1 + c0 + c1 + c2 + c3 = a) = False := by simp; try omega
@[go_sem] theorem nat_lt_5 (a c0 c1 c2 c3 c4 : Nat) : (a < a + 1 + c0 + c1 + c2 + c3 + c4) = True := by simp; try omega
@[go_sem] theorem nat_ne_5 (a c0 c1 c2 c3 c4 : Nat) : (a = a + 1 + c0 + c1 + c2 + c3 + c4) = False := by simp; try omega
@[go_sem] theorem nat_en_5 (a c0 c1 c2 c3 c4 : Nat) : (a + 1 + c0 + c1 + c2 + c3 + c4 = a) = False := by simp; try omega
@[go_sem] theorem nat_lt_6 (a c0 c1 c2 c3 c4 c5 : Nat) : (a < a + 1 + c0 + c1 + c2 + c3 + c4 + c5) = True := by simp; try omega
@[go_sem] theorem nat_ne_6 (a c0 c1 c2 c3 c4 c5 : Nat) : (a = a + 1 + c0 + c1 + c2 + c3 + c4 + c5) = False := by simp; try omega
@[go_sem] theorem nat_en_6 (a c0 c1 c2 c3 c4 c5 : Nat) : (a + 1 + c0 + c1 + c2 + c3 + c4 + c5 = a) = False := by simp; try omega
@[go_sem] theorem nat_lt_7 (a c0 c1 c2 c3 c4 c5 c6 : Nat) : (a < a + 1 + c0 + c1 + c2 + c3 + c4 + c5 + c6) = True := by simp; try omega
@[go_sem] theorem nat_ne_7 (a c0 c1 c2 c3 c4 c5 c6 : Nat) : (a = a + 1 + c0 + c1 + c2 + c3 + c4 + c5 + c6) = False := by simp; try omega
@[go_sem] theorem nat_en_7 (a c0 c1 c2 c3 c4 c5 c6 : Nat) : (a + 1 + c0 + c1 + c2 + c3 + c4 + c5 + c6 = a) = False := by simp; try omega
@[go_sem] theorem nat_lt_8 (a c0 c1 c2 c3 c4 c5 c6 c7 : Nat) : (a < a + 1 + c0 + c1 + c2 + c3 + c4 + c5 + c6 + c7) = True := by simp; try omega
@[go_sem] theorem nat_ne_8 (a c0 c1 c2 c3 c4 c5 c6 c7 : Nat) : (a = a + 1 + c0 + c1 + c2 + c3 + c4 + c5 + c6 + c7) = False := by simp; try omega
@[go_sem] theorem nat_en_8 (a c0 c1 c2 c3 c4 c5 c6 c7 : Nat) : (a + 1 + c0 + c1 + c2 + c3 + c4 + c5 + c6 + c7 = a) = False := by simp; try omega
@[go_sem] theorem nat_lt_9 (a c0 c1 c2 c3 c4 c5 c6 c7 c8 : Nat) : (a < a + 1 + c0 + c1 + c2 + c3 + c4 + c5 + c6 + c7 + c8) = True := by simp; try omega
@[go_sem] theorem nat_ne_9 (a c0 c1 c2 c3 c4 c5 c6 c7 c8 : Nat) : (a = a + 1 + c0 + c1 + c2 + c3 + c4 + c5 + c6 + c7 + c8) = False := by simp; try omega
@[go_sem] theorem nat_en_9 (a c0 c1 c2 c3 c4 c5 c6 c7 c8 : Nat) : (a + 1 + c0 + c1 + c2 + c3 + c4 + c5 + c6 + c7 + c8 = a) = False := by simp; try omega
@[go_sem] theorem nat_lt_10 (a c0 c1 c2 c3 c4 c5 c6 c7 c8 c9 : Nat) : (a < a + 1 + c0 + c1 + c2 + c3 + c4 + c5 + c6 + c7 + c8 + c9) = True := by simp; try omega
@[go_sem] theorem nat_ne_10 (a c0 c1 c2 c3 c4 c5 c6 c7 c8 c9 : Nat) : (a = a + 1 + c0 + c1 + c2 + c3 + c4 + c5 + c6 + c7 + c8 + c9) = False := by simp; try omega
@[go_sem] theorem nat_en_10 (a c0 c1 c2 c3 c4 c5 c6 c7 c8 c9 : Nat) : (a + 1 + c0 + c1 + c2 + c3 + c4 + c5 + c6 + c7 + c8 + c9 = a) = False := by simp; try omega
@[go_sem] theorem nat_lt_11 (a c0 c1 c2 c3 c4 c5 c6 c7 c8 c9 c10 : Nat) : (a < a + 1 + c0 + c1 + c2 + c3 + c4 + c5 + c6 + c7 + c8 + c9 + c10) = True := by simp; try omega
@[go_sem] theorem nat_ne_11 (a c0 c1 c2 c3 c4 c5 c6 c7 c8 c9 c10 : Nat) : (a = a + 1 + c0 + c1 + c2 + c3 + c4 + c5 + c6 + c7 + c8 + c9 + c10) = False := by simp; try omega
@[go_sem] theorem nat_en_11 (a c0 c1 c2 c3 c4 c5 c6 c7 c8 c9 c10 : Nat) : (a + 1 + c0 + c1 + c2 + c3 + c4 + c5 + c6 + c7 + c8 + c9 + c10 = a) = False := by simp; try omega
@[go_sem] theorem nat_lt_12 (a c0 c1 c2 c3 c4 c5 c6 c7 c8 c9 c10 c11 : Nat) : (a < a + 1 + c0 + c1 + c2 + c3 + c4 + c5 + c6 + c7 + c8 + c9 + c10 + c11) = True := by simp; try omega
@[go_sem] theorem nat_ne_12 (a c0 c1 c2 c3 c4 c5 c6 c7 c8 c9 c10 c11 : Nat) : (a = a + 1 + c0 + c1 + c2 + c3 + c4 + c5 + c6 + c7 + c8 + c9 + c10 + c11) = False := by simp; try omega
@[go_sem] theorem nat_en_12 (a c0 c1 c2 c3 c4 c5 c6 c7 c8 c9 c10 c11 : Nat) : (a + 1 + c0 + c1 + c2 + c3 + c4 + c5 + c6 + c7 + c8 + c9 + c10 + c11 = a) = False := by simp; try omega
@[go_sem] theorem nat_lt_13 (a c0 c1 c2 c3 c4 c5 c6 c7 c8 c9 c10 c11 c12 : Nat) : (a < a + 1 + c0 + c1 + c2 + c3 + c4 + c5 + c6 + c7 + c8 + c9 + c10 + c11 + c12) = True := by simp; try omega
@[go_sem] theorem nat_ne_13 (a c0 c1 c2 c3 c4 c5 c6 c7 c8 c9 c10 c11 c12 : Nat) : (a = a + 1 + c0 + c1 + c2 + c3 + c4 + c5 + c6 + c7 + c8 + c9 + c10 + c11 + c12) = False := by simp; try omega
@[go_sem] theorem nat_en_13 (a c0 c1 c2 c3 c4 c5 c6 c7 c8 c9 c10 c11 c12 : Nat) : (a + 1 + c0 + c1 + c2 + c3 + c4 + c5 + c6 + c7 + c8 + c9 + c10 + c11 + c12 = a) = False := by simp; try omega
@[go_sem] theorem nat_lt_14 (a c0 c1 c2 c3 c4 c5 c6 c7 c8 c9 c10 c11 c12 c13 : Nat) : (a < a + 1 + c0 + c1 + c2 + c3 + c4 + c5 + c6 + c7 + c8 + c9 + c10 + c11 + c12 + c13) = True := by simp; try omega
@[go_sem] theorem nat_ne_14 (a c0 c1 c2 c3 c4 c5 c6 c7 c8 c9 c10 c11 c12 c13 : Nat) : (a = a + 1 + c0 + c1 + c2 + c3 + c4 + c5 + c6 + c7 + c8 + c9 + c10 + c11 + c12 + c13) = False := by simp; try omega
@[go_sem] theorem nat_en_14 (a c0 c1 c2 c3 c4 c5 c6 c7 c8 c9 c10 c11 c12 c13 : Nat) : (a + 1 + c0 + c1 + c2 + c3 + c4 + c5 + c6 + c7 + c8 + c9 + c10 + c11 + c12 + c13 = a) = False := by simp; try omega

theorem s_refl (W1 : World) : W1.heap.size ≤ W1.drew.heap.size ∧ ∀ b o, b < W1.heap.size → W1.drew.cell? ⟨b, o, none⟩ = W1.cell? ⟨b, o, none⟩ := ⟨Nat.le_refl _, fun _ _ _ => rfl⟩
theorem s_id (W1 : World) : W1.heap.size ≤ W1.heap.size ∧ ∀ b o, b < W1.heap.size → W1.cell? ⟨b, o, none⟩ = W1.cell? ⟨b, o, none⟩ := ⟨Nat.le_refl _, fun _ _ _ => rfl⟩
theorem s_drew {W1 W : World} (h : W1.heap.size ≤ W.heap.size ∧ ∀ b o, b < W1.heap.size → W.cell? ⟨b, o, none⟩ = W1.cell? ⟨b, o, none⟩) :
    W1.heap.size ≤ W.drew.heap.size ∧ ∀ b o, b < W1.heap.size → W.drew.cell? ⟨b, o, none⟩ = W1.cell? ⟨b, o, none⟩ := h
theorem s_below {W1 W w' : World} (hb : Below W.heap.size W w') (h : W1.heap.size ≤ W.heap.size ∧ ∀ b o, b < W1.heap.size → W.cell? ⟨b, o, none⟩ = W1.cell? ⟨b, o, none⟩) :
    W1.heap.size ≤ w'.heap.size ∧ ∀ b o, b < W1.heap.size → w'.cell? ⟨b, o, none⟩ = W1.cell? ⟨b, o, none⟩ :=
  ⟨Nat.le_trans h.1 hb.size, fun b o hlt => (hb.cell (p := ⟨b, o, none⟩) (Nat.lt_of_lt_of_le hlt h.1)).trans (h.2 b o hlt)⟩
theorem s_more {W1 W : World} (d : Nat) (os : Array Obj) (h : W1.heap.size ≤ W.heap.size ∧ ∀ b o, b < W1.heap.size → W.cell? ⟨b, o, none⟩ = W1.cell? ⟨b, o, none⟩) :
    W1.heap.size ≤ (more W d os).heap.size ∧ ∀ b o, b < W1.heap.size → (more W d os).cell? ⟨b, o, none⟩ = W1.cell? ⟨b, o, none⟩ := s_below (more_below W d os) h
theorem s_alloc {W1 W : World} (o' : Obj) (h : W1.heap.size ≤ W.heap.size ∧ ∀ b o, b < W1.heap.size → W.cell? ⟨b, o, none⟩ = W1.cell? ⟨b, o, none⟩) :
    W1.heap.size ≤ (W.alloc o').heap.size ∧ ∀ b o, b < W1.heap.size → (W.alloc o').cell? ⟨b, o, none⟩ = W1.cell? ⟨b, o, none⟩ := s_below ((Below.refl _ _).alloc (Nat.le_refl _) o') h

theorem below_drewN {B : Nat} {a w : World} (h : Below B a w) (n : Nat) : Below B a (w.drewN n) := ⟨h.os, h.tape, h.output, h.size, h.block⟩

theorem bg {B : Nat} {w w' : World} (h : Below B w w' := by repeat' (first | (with_reducible exact Below.refl _ _) | (with_reducible assumption) | (with_reducible refine below_drewN ?_ _) | (with_reducible refine below_more _ _ _ ?_ ?_) | (with_reducible refine Below.alloc ?_ ?_ _) | (with_reducible refine Below.drew ?_) | (with_reducible refine Below.setCell ?_ ?_ _) | go_size)) : Below B w w' := h
end Go.Proofs.YtoimjjhopljdmaaGreat
namespace Go.Proofs.YtoimjjhopljdmaaGreat
open Go.RowKit

def Sl (w : World) (e : TypeId) (size : Nat) (v : Value) (n : Nat) (xs : List Value) : Prop :=
  xs.length = n * size ∧
  ((v = .slice none 0 0 ∧ n = 0) ∨
   ∃ g off cap cur, v = .slice (some ⟨g, off, none⟩) n cap ∧ w.heap[g]? = some (.cells cur e (0, 0)) ∧ n ≤ cap ∧ cap ≤ maxLen ∧ off + cap * size ≤ cur.size ∧ ∀ j u, xs[j]? = some u → cur[off + j]? = some u)

theorem Sl.of_own {w : World} {base : Nat} {e : TypeId} {size : Nat} {v : Value} {n : Nat} {xs : List Value} (h : w.ownsRow base e size v n xs) : Sl w e size v n xs := by
  obtain ⟨h1, h2 | ⟨g, cap, cur, hv, hb, hg, hn, hm, hs, ht⟩⟩ := h
  · exact ⟨h1, .inl h2⟩
  · refine ⟨h1, .inr ⟨g, 0, cap, cur, hv, hg, hn, hm, by omega, fun j u hj => ?_⟩⟩
    rw [← ht] at hj
    rw [List.getElem?_take] at hj
    split at hj
    · simpa using hj
    · cases hj

theorem Sl.keep {w w' : World} {e : TypeId} {size : Nat} {v : Value} {n : Nat} {xs : List Value} (h : Sl w e size v n xs) (hk : ∀ g, v.ownBlock = some g → w'.heap[g]? = w.heap[g]?) : Sl w' e size v n xs := by
  obtain ⟨h1, h2 | ⟨g, off, cap, cur, rfl, hg, r⟩⟩ := h
  · exact ⟨h1, .inl h2⟩
  · exact ⟨h1, .inr ⟨g, off, cap, cur, rfl, by rw [hk g rfl]; exact hg, r⟩⟩

structure Turned (w w' : World) (b : Option Nat) : Prop where
  os : w'.os = w.os
  tape : w'.tape = w.tape
  output : w'.output = w.output
  size : w.heap.size ≤ w'.heap.size
  block : ∀ k, k < w.heap.size → some k ≠ b → w'.heap[k]? = w.heap[k]?

theorem Turned.of_grown {w w' : World} {b : Option Nat} (h : w.grownBy w' none) : Turned w w' b := ⟨h.os, h.tape, h.output, h.size, fun k hk _ => h.block k hk (by simp)⟩

theorem setCells_heap (g : Nat) (e : TypeId) (fr : Nat × Nat) : ∀ (vs : List Value) (o : Nat) (w : World) (cur : Array Value), w.heap[g]? = some (.cells cur e fr) → o + vs.length ≤ cur.size →
    ∃ cur', (w.setCells g o vs).heap[g]? = some (.cells cur' e fr) ∧ cur'.size = cur.size ∧ (∀ j, j < o → cur'[j]? = cur[j]?) ∧ (∀ j u, vs[j]? = some u → cur'[o + j]? = some u) ∧ (∀ j, o + vs.length ≤ j → cur'[j]? = cur[j]?)
  | [], o, w, cur, h, _ => ⟨cur, h, rfl, fun _ _ => rfl, fun j u hj => by simp at hj, fun _ _ => rfl⟩
  | v :: vs, o, w, cur, h, hl => by
    have h1 : (w.setCell ⟨g, o, none⟩ v).heap[g]? = some (.cells (cur.setIfInBounds o v) e fr) := by
      simp [World.setCell, Array.getElem?_modify, h]
    simp only [List.length_cons] at hl
    obtain ⟨cur', hg, hs, hlo, hin, hhi⟩ := setCells_heap g e fr vs (o + 1) _ _ h1 (by simp; omega)
    refine ⟨cur', hg, by rw [hs]; simp, fun j hj => ?_, fun j u hj => ?_, fun j hj => ?_⟩
    · rw [hlo j (by omega), Array.getElem?_setIfInBounds_ne (by omega)]
    · cases j with
      | zero =>
        simp only [List.getElem?_cons_zero, Option.some.injEq] at hj
        subst hj
        rw [Nat.add_zero, hlo o (by omega), Array.getElem?_setIfInBounds_self]
        rw [if_pos (by omega)]
      | succ j =>
        simp only [List.getElem?_cons_succ] at hj
        have := hin j u hj
        rwa [show o + 1 + j = o + (j + 1) from by omega] at this
    · simp only [List.length_cons] at hj
      rw [hhi j (by omega), Array.getElem?_setIfInBounds_ne (by omega)]

theorem setCells_turned (g : Nat) : ∀ (vs : List Value) (o : Nat) (w : World), Turned w (w.setCells g o vs) (some g)
  | [], o, w => ⟨rfl, rfl, rfl, Nat.le_refl _, fun _ _ _ => rfl⟩
  | v :: vs, o, w => by
    have h := setCells_turned g vs (o + 1) (w.setCell ⟨g, o, none⟩ v)
    refine ⟨h.os, h.tape, h.output, ?_, fun k hk hne => ?_⟩
    · have h2 := h.size
      rw [World.size_setCell] at h2
      exact h2
    · have h1 := h.block k (by simpa [World.setCell] using hk) hne
      rw [show w.setCells g o (v :: vs) = (w.setCell ⟨g, o, none⟩ v).setCells g (o + 1) vs from rfl, h1]
      exact Below.heap_setCell _ _ _ _ (by intro e; exact hne (by rw [e]))

theorem wpList_append_sl {P : Program} (w : World) {ops : Array Oper} {rest : List Oper} {o : Oper} {a : Act} {Q : Exit → Act → World → Prop}
    (hg : o.guard = none) (s x : Operand) (t : TypeId) (hop : o.op = Op.call { callee := Callee.builtin Builtin.append, args := #[s, x], argTypes := #[t, t] })
    (e : TypeId) (i : TypeInfo) (z : Value) (size bytes : Nat) (h1 : P.underlying t = some (.slice e)) (h2 : P.info? e = some i) (h3 : i.zero = some z) (h4 : i.size = size) (h5 : i.bytes = bytes) (h6 : z.cells.size = size) (h7 : 0 < size)
    (v : Value) (n : Nat) (xs : List Value) (hv : a.eval s = v) (hsl : Sl w e size v n xs)
    (ad : Addr) (m c : Nat) (news : List Value) (hx : a.eval x = .slice (some ad) m c) (hn : news.length = m * size) (hc : ∀ j u, news[j]? = some u → w.cell? (ad.add j) = some u) (h1c : ∀ u ∈ news, u.oneCell' = true) (hm : 0 < m)
    (b1 : n + m ≤ maxLen) (b2 : (n + m) * bytes ≤ 140737488355328)
    (hK : ∀ v' w', Sl w' e size v' (n + m) (xs ++ news) → Turned w w' v.ownBlock → (v'.ownBlock = v.ownBlock ∨ ∃ g, v'.ownBlock = some g ∧ w.heap.size ≤ g) → wpList P ops Q rest (a.put o.dst v') w') :
    wpList P ops Q (o :: rest) a w := by
  obtain ⟨hlx, ⟨rfl, rfl⟩ | ⟨g, off, cap, cur, rfl, hgb, hncap, hcm, hsz, hcur⟩⟩ := hsl
  · have hx0 : xs = [] := by simpa using hlx
    subst hx0
    refine wpList_append_grows w hg s x t hop e i z size bytes h1 h2 h3 h4 h5 h6 h7 none 0 0 [] hv (fun _ => ⟨rfl, rfl⟩) (by simp) (fun b hb => by cases hb) ad m c news hx hn hc h1c (by omega) b1 b2 fun v' w' ho hgr => ?_
    refine hK v' w' (Sl.of_own ho) (Turned.of_grown hgr) ?_
    obtain ⟨_, ⟨_, h0⟩ | ⟨g, cap, cur, rfl, hb, _⟩⟩ := ho
    · omega
    · exact .inr ⟨g, rfl, hb⟩
  · have hcell : ∀ j, w.cell? ⟨g, j, none⟩ = cur[j]? := fun j => by simp [World.cell?, hgb]
    have hfro : ∀ j, w.frozen? ⟨g, j, none⟩ = false := fun j => by simp [World.frozen?, hgb]
    refine wpList_append_arg w hg s x t hop e i z size bytes h1 h2 h3 h4 h5 h6 h7 g off n cap xs hv hlx (fun j u hj => by rw [hcell]; exact hcur j u hj) ad m c news hx hn hc h1c (fun hr j hj => ?_) b1 b2 (fun hr => ?_) fun hr v' w' ho hgr => ?_
    · have hlt : off + n * size + j < cur.size := by
        have : (n + m) * size ≤ cap * size := Nat.mul_le_mul_right _ hr
        rw [Nat.add_mul] at this
        omega
      exact ⟨by rw [hcell, Array.getElem?_eq_getElem hlt]; rfl, hfro _⟩
    · have hle : off + n * size + news.length ≤ cur.size := by
        have : (n + m) * size ≤ cap * size := Nat.mul_le_mul_right _ hr
        rw [Nat.add_mul] at this
        omega
      obtain ⟨cur', hg', hs', hlo, hin, hhi⟩ := setCells_heap g e (0, 0) news (off + n * size) w cur hgb hle
      refine hK _ _ ⟨by rw [List.length_append, hlx, hn, Nat.add_mul], .inr ⟨g, off, cap, cur', rfl, hg', hr, hcm, by omega, fun j u hj => ?_⟩⟩ (setCells_turned g news _ w) (.inl rfl)
      rw [List.getElem?_append] at hj
      split at hj
      · rename_i hlt
        rw [hlo _ (by omega)]
        exact hcur j u hj
      · rename_i hge
        have := hin (j - xs.length) u hj
        rwa [show off + n * size + (j - xs.length) = off + j from by omega] at this
    · refine hK v' w' (Sl.of_own ho) (Turned.of_grown hgr) ?_
      obtain ⟨_, ⟨_, h0⟩ | ⟨g', cap', cur', rfl, hb, _⟩⟩ := ho
      · omega
      · exact .inr ⟨g', rfl, hb⟩


theorem step_append_sl {P : Program} (w : World) {ops : Array Oper} {o : Oper} {a : Act} {K : Act → World → Prop} {Q : Exit → Act → World → Prop} {E : Prop}
    (hg : o.guard = none) (s x : Operand) (t : TypeId) (hop : o.op = Op.call { callee := Callee.builtin Builtin.append, args := #[s, x], argTypes := #[t, t] })
    (e : TypeId) (i : TypeInfo) (z : Value) (size bytes : Nat) (h1 : P.underlying t = some (.slice e)) (h2 : P.info? e = some i) (h3 : i.zero = some z) (h4 : i.size = size) (h5 : i.bytes = bytes) (h6 : z.cells.size = size) (h7 : 0 < size)
    (v : Value) (n : Nat) (xs : List Value) (hv : a.eval s = v) (hsl : Sl w e size v n xs)
    (ad : Addr) (m c : Nat) (news : List Value) (hx : a.eval x = .slice (some ad) m c) (hn : news.length = m * size) (hc : ∀ j u, news[j]? = some u → w.cell? (ad.add j) = some u) (h1c : ∀ u ∈ news, u.oneCell' = true) (hm : 0 < m)
    (b1 : n + m ≤ maxLen) (b2 : (n + m) * bytes ≤ 140737488355328)
    (hK : ∀ g off cap w', Sl w' e size (.slice (some ⟨g, off, none⟩) (n + m) cap) (n + m) (xs ++ news) → Turned w w' v.ownBlock → (v.ownBlock = some g ∨ w.heap.size ≤ g) → K (a.put o.dst (.slice (some ⟨g, off, none⟩) (n + m) cap)) w') :
    if Region.wanted o (yielded ops a.tmps) = true then Oper.wp P o a w K Q else E := by
  have fin : ∀ v' w', w'.ownsRow w.heap.size e size v' (n + m) (xs ++ news) → w.grownBy w' none → K (a.put o.dst v') w' := by
    intro v' w' ho hgr
    have hs := Sl.of_own ho
    obtain ⟨_, ⟨_, h0⟩ | ⟨g, cap, cur, rfl, hb, _⟩⟩ := ho
    · omega
    · have := hK g 0 cap w' hs (Turned.of_grown hgr) (.inr hb)
      exact this
  obtain ⟨hlx, ⟨rfl, rfl⟩ | ⟨g, off, cap, cur, rfl, hgb, hncap, hcm, hsz, hcur⟩⟩ := hsl
  · have hx0 : xs = [] := by simpa using hlx
    subst hx0
    exact step_append_grows hg s x t hop e i z size bytes h1 h2 h3 h4 h5 h6 h7 none 0 0 [] hv (fun _ => ⟨rfl, rfl⟩) (by simp) (fun b hb => by cases hb) ad m c news hx hn hc h1c (by omega) b1 b2 fin
  · have hcell : ∀ j, w.cell? ⟨g, j, none⟩ = cur[j]? := fun j => by simp [World.cell?, hgb]
    have hfro : ∀ j, w.frozen? ⟨g, j, none⟩ = false := fun j => by simp [World.frozen?, hgb]
    by_cases hr : n + m ≤ cap
    · have hle : off + n * size + news.length ≤ cur.size := by
        have : (n + m) * size ≤ cap * size := Nat.mul_le_mul_right _ hr
        rw [Nat.add_mul] at this
        omega
      refine step_append_room hg s x t hop e i size h1 h2 h4 g off n cap hv ad m c news hx hn hc h1c hr (fun j hj => ?_) ?_
      · have hlt : off + n * size + j < cur.size := by omega
        exact ⟨by rw [hcell, Array.getElem?_eq_getElem hlt]; rfl, hfro _⟩
      · obtain ⟨cur', hg', hs', hlo, hin, hhi⟩ := setCells_heap g e (0, 0) news (off + n * size) w cur hgb hle
        refine hK g off cap _ ⟨by rw [List.length_append, hlx, hn, Nat.add_mul], .inr ⟨g, off, cap, cur', rfl, hg', hr, hcm, by omega, fun j u hj => ?_⟩⟩ (setCells_turned g news _ w) (.inl rfl)
        rw [List.getElem?_append] at hj
        split at hj
        · rename_i hlt
          rw [hlo _ (by omega)]
          exact hcur j u hj
        · rename_i hge
          have := hin (j - xs.length) u hj
          rwa [show off + n * size + (j - xs.length) = off + j from by omega] at this
    · exact step_append_grows hg s x t hop e i z size bytes h1 h2 h3 h4 h5 h6 h7 (some ⟨g, off, none⟩) n cap xs hv (fun h => by cases h) hlx (fun b hb j u hj => by cases hb; rw [show Addr.add ⟨g, off, none⟩ j = ⟨g, off + j, none⟩ from by unfold Addr.add; split <;> simp_all]; rw [hcell]; exact hcur j u hj) ad m c news hx hn hc h1c (by omega) b1 b2 fin

end Go.Proofs.YtoimjjhopljdmaaGreat
