/-
  What chapter 9's functions compute, as plain Lean functions on integers and bools. No program here. No condition.
  Names, entities and commands as they lie in memory. No condition.
-/
import Derived.WalkKit
import Derived.Test.YtbghjklnlhoklaaProg
namespace Go.Proofs.Ytbghjklnlhoklaa
open Go.RowKit

/-- An entity's eleven numbers. -/
structure Bun where
  (s i g m x y vx vy hp pw lf : Int)
  deriving DecidableEq

abbrev Bun.arr (b : Bun) : Array Value := #[.int .i64 b.s, .int .i64 b.i, .int .i64 b.g, .int .i64 b.m, .int .i64 b.x, .int .i64 b.y, .int .i64 b.vx, .int .i64 b.vy, .int .i64 b.hp, .int .i64 b.pw, .int .i64 b.lf]
abbrev Bun.v (b : Bun) : Value := .agg b.arr

@[simp, go_sem] theorem Bun.eta (b : Bun) : (⟨b.s, b.i, b.g, b.m, b.x, b.y, b.vx, b.vy, b.hp, b.pw, b.lf⟩ : Bun) = b := rfl

/-- A command's sixteen numbers. -/
structure Cm where
  (k s i g : Int) (b : Bun) (mask : Int)

def inR (lo n hi : Int) : Bool := decide (lo ≤ n) && decide (n ≤ hi)
def withinB (h : Bool) (n lo hi : Int) : Bool := if h then inR lo n hi else n == 0
def hasB (m k : Int) : Bool := bits .and .i64 m k == k
def errB (ok : Bool) : Int := if ok then 0 else 1
def idOk (s i g : Int) : Bool := inR 0 s 15 && inR 0 i 15 && inR 0 g 1048575
def rightB (b : Bun) : Bool :=
  inR 0 b.m 31 && withinB (hasB b.m 1) b.x (-1073741824) 1073741824 && withinB (hasB b.m 1) b.y (-1073741824) 1073741824 && withinB (hasB b.m 2) b.vx (-1073741824) 1073741824 &&
  withinB (hasB b.m 2) b.vy (-1073741824) 1073741824 && withinB (hasB b.m 4) b.hp 1 1048576 && withinB (hasB b.m 8) b.pw 0 1024 && withinB (hasB b.m 16) b.lf 1 1048576
def checkB (b : Bun) : Bool := rightB b && hasB b.m 1 && idOk b.s b.i b.g
def someB (m : Int) : Bool := decide (0 < m) && decide (m ≤ 31) && (bits .and .i64 m 1 == 0)
def idEq (s i g s' i' g' : Int) : Bool := s == s' && i == i' && g == g'
def bunEq (a b : Bun) : Bool := decide (a = b)
def idZero (s i g : Int) : Bool := idEq s i g 0 0 0
def bunZero (b : Bun) : Bool := bunEq b ⟨0, 0, 0, 0, 0, 0, 0, 0, 0, 0, 0⟩
def cmdB (c : Cm) : Bool :=
  if c.k == 1 then idZero c.s c.i c.g && c.mask == 0 && checkB c.b
  else if c.k == 3 then c.mask == 0 && idZero c.b.s c.b.i c.b.g && someB c.b.m && rightB c.b && idOk c.s c.i c.g
  else if c.k == 4 then someB c.mask && bunZero c.b && idOk c.s c.i c.g
  else if c.k == 2 then c.mask == 0 && bunZero c.b && idOk c.s c.i c.g
  else false

def withF (b c : Bun) : Bun :=
  { s := b.s, i := b.i, g := b.g, m := bits .or .i64 b.m c.m, x := if hasB c.m 1 then c.x else b.x, y := if hasB c.m 1 then c.y else b.y, vx := if hasB c.m 2 then c.vx else b.vx, vy := if hasB c.m 2 then c.vy else b.vy,
    hp := if hasB c.m 4 then c.hp else b.hp, pw := if hasB c.m 8 then c.pw else b.pw, lf := if hasB c.m 16 then c.lf else b.lf }
def withoutF (b : Bun) (k : Int) : Bun :=
  { s := b.s, i := b.i, g := b.g, m := bits .andNot .i64 (bits .or .i64 b.m k) k, x := if hasB k 1 then 0 else b.x, y := if hasB k 1 then 0 else b.y, vx := if hasB k 2 then 0 else b.vx, vy := if hasB k 2 then 0 else b.vy,
    hp := if hasB k 4 then 0 else b.hp, pw := if hasB k 8 then 0 else b.pw, lf := if hasB k 16 then 0 else b.lf }

/-- The reference's test of a bit, by floors. -/
def tb (m c : Int) : Bool := !((m / c) % 2 == 0)
def rRightB (b : Bun) : Bool :=
  inR 0 b.m 31 && withinB (tb b.m 1) b.x (-1073741824) 1073741824 && withinB (tb b.m 1) b.y (-1073741824) 1073741824 && withinB (tb b.m 2) b.vx (-1073741824) 1073741824 &&
  withinB (tb b.m 2) b.vy (-1073741824) 1073741824 && withinB (tb b.m 4) b.hp 1 1048576 && withinB (tb b.m 8) b.pw 0 1024 && withinB (tb b.m 16) b.lf 1 1048576
def rIdOk (s i g : Int) : Bool := decide (0 ≤ s) && decide (s ≤ 15) && decide (0 ≤ i) && decide (i ≤ 15) && decide (0 ≤ g) && decide (g < 1048576)
def rMayB (b : Bun) : Bool := rIdOk b.s b.i b.g && rRightB b && tb b.m 1
def rTakesB (m : Int) : Bool := decide (1 ≤ m) && decide (m ≤ 31) && (m % 2 == 0)
def rCmdB (c : Cm) : Bool :=
  if c.k == 1 then idZero c.s c.i c.g && c.mask == 0 && rMayB c.b
  else if c.k == 2 then rIdOk c.s c.i c.g && c.mask == 0 && bunZero c.b
  else if c.k == 3 then rIdOk c.s c.i c.g && c.mask == 0 && idZero c.b.s c.b.i c.b.g && rTakesB c.b.m && rRightB c.b
  else if c.k == 4 then rIdOk c.s c.i c.g && bunZero c.b && rTakesB c.mask
  else false
def rWithF (b c : Bun) : Bun :=
  { s := b.s, i := b.i, g := b.g, m := bits .or .i64 b.m c.m, x := if tb c.m 1 then c.x else b.x, y := if tb c.m 1 then c.y else b.y, vx := if tb c.m 2 then c.vx else b.vx, vy := if tb c.m 2 then c.vy else b.vy,
    hp := if tb c.m 4 then c.hp else b.hp, pw := if tb c.m 8 then c.pw else b.pw, lf := if tb c.m 16 then c.lf else b.lf }
def rWithoutF (b : Bun) (k : Int) : Bun :=
  { s := b.s, i := b.i, g := b.g, m := wrap64 (b.m - bits .and .i64 b.m k), x := if tb k 1 then 0 else b.x, y := if tb k 1 then 0 else b.y, vx := if tb k 2 then 0 else b.vx, vy := if tb k 2 then 0 else b.vy,
    hp := if tb k 4 then 0 else b.hp, pw := if tb k 8 then 0 else b.pw, lf := if tb k 16 then 0 else b.lf }

end Go.Proofs.Ytbghjklnlhoklaa
namespace Go.Proofs.Ytbghjklnlhoklaa
open Go.RowKit
/-- An entity's cells. -/
def bunL (b : Bun) : List Value := b.arr.toList
theorem bunL_len (b : Bun) : (bunL b).length = 11 := rfl
theorem bunL_one (b : Bun) : ∀ u ∈ bunL b, u.oneCell' = true := fun u hu => by
  simp [bunL] at hu
  rcases hu with rfl | rfl | rfl | rfl | rfl | rfl | rfl | rfl | rfl | rfl | rfl <;> rfl
/-- Its numbers fit. -/
def BFit (b : Bun) : Prop := (-9223372036854775808 ≤ b.s ∧ b.s ≤ 9223372036854775807) ∧ (-9223372036854775808 ≤ b.i ∧ b.i ≤ 9223372036854775807) ∧ (-9223372036854775808 ≤ b.g ∧ b.g ≤ 9223372036854775807) ∧ (-9223372036854775808 ≤ b.m ∧ b.m ≤ 9223372036854775807) ∧ (-9223372036854775808 ≤ b.x ∧ b.x ≤ 9223372036854775807) ∧ (-9223372036854775808 ≤ b.y ∧ b.y ≤ 9223372036854775807) ∧ (-9223372036854775808 ≤ b.vx ∧ b.vx ≤ 9223372036854775807) ∧ (-9223372036854775808 ≤ b.vy ∧ b.vy ≤ 9223372036854775807) ∧ (-9223372036854775808 ≤ b.hp ∧ b.hp ≤ 9223372036854775807) ∧ (-9223372036854775808 ≤ b.pw ∧ b.pw ≤ 9223372036854775807) ∧ (-9223372036854775808 ≤ b.lf ∧ b.lf ≤ 9223372036854775807)
/-- No entity. -/
def zeroB : Bun := ⟨0, 0, 0, 0, 0, 0, 0, 0, 0, 0, 0⟩
/-- A name. -/
structure Nid where
  (s i g : Int)
  deriving DecidableEq, Inhabited
def nidL (n : Nid) : List Value := [.int .i64 n.s, .int .i64 n.i, .int .i64 n.g]
theorem nidL_len (n : Nid) : (nidL n).length = 3 := rfl
theorem nidL_one (n : Nid) : ∀ v ∈ nidL n, v.oneCell' = true := fun v hv => by
  simp only [nidL, List.mem_cons, List.not_mem_nil, or_false] at hv
  rcases hv with rfl | rfl | rfl <;> rfl
theorem info_nid : (Try.prog.info? 33).map (fun i => (i.zero, i.size, i.bytes)) = some (some (.agg #[.int .i64 0, .int .i64 0, .int .i64 0]), 3, 24) := by kernel_rfl
def idOf (b : Bun) : Nid := ⟨b.s, b.i, b.g⟩
/-- A command whose numbers fit. -/
def CmFit (c : Cm) : Prop := BFit c.b ∧ (-9223372036854775808 ≤ c.mask ∧ c.mask ≤ 9223372036854775807)
/-- Commands, as they lie in memory. -/
def cmC (c : Cm) : List Value := [.int .i64 c.k, .int .i64 c.s, .int .i64 c.i, .int .i64 c.g] ++ bunL c.b ++ [.int .i64 c.mask]
theorem cmC_len (c : Cm) : (cmC c).length = 16 := rfl
theorem cmC_one (c : Cm) : ∀ v ∈ cmC c, v.oneCell' = true := fun v hv => by
  simp [cmC, bunL] at hv
  rcases hv with rfl | rfl | rfl | rfl | rfl | rfl | rfl | rfl | rfl | rfl | rfl | rfl | rfl | rfl | rfl | rfl <;> rfl
theorem info_cm : (Try.prog.info? 37).map (fun i => (i.zero, i.size, i.bytes)) = some (some (.agg #[.int .i64 0, .int .i64 0, .int .i64 0, .int .i64 0, .int .i64 0, .int .i64 0, .int .i64 0, .int .i64 0, .int .i64 0, .int .i64 0, .int .i64 0, .int .i64 0, .int .i64 0, .int .i64 0, .int .i64 0, .int .i64 0]), 16, 128) := by kernel_rfl
end Go.Proofs.Ytbghjklnlhoklaa
