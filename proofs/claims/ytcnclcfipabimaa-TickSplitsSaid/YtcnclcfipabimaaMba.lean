/-
  What chapter 9's functions compute, as plain Lean functions on integers and bools. No program here. No condition.
  How the walk compares two names and two entities: one bool each. No condition.
  The order of names: parts.Compare and the reference's Before, with cmp.Compare and cmp.Or at int. No condition.
-/
import Derived.WalkKit
import Derived.Test.YtcnclcfipabimaaBase
namespace Go.Proofs.Ytcnclcfipabimaa
open Go.RowKit

/-- An entity's eleven numbers. -/
structure Bun where
  (s i g m x y vx vy hp pw lf : Int)
  deriving DecidableEq

abbrev Bun.arr (b : Bun) : Array Value := #[.int .i64 b.s, .int .i64 b.i, .int .i64 b.g, .int .i64 b.m, .int .i64 b.x, .int .i64 b.y, .int .i64 b.vx, .int .i64 b.vy, .int .i64 b.hp, .int .i64 b.pw, .int .i64 b.lf]
abbrev Bun.v (b : Bun) : Value := .agg b.arr

@[simp, go_sem] theorem Bun.eta (b : Bun) : (⟨b.s, b.i, b.g, b.m, b.x, b.y, b.vx, b.vy, b.hp, b.pw, b.lf⟩ : Bun) = b := rfl

/-- A command's sixteen numbers. -/
structure Cm where
  (k s i g : Int) (b : Bun) (mask : Int)

def inR (lo n hi : Int) : Bool := decide (lo ≤ n) && decide (n ≤ hi)
def withinB (h : Bool) (n lo hi : Int) : Bool := if h then inR lo n hi else n == 0
def hasB (m k : Int) : Bool := bits .and .i64 m k == k
def errB (ok : Bool) : Int := if ok then 0 else 1
def idOk (s i g : Int) : Bool := inR 0 s 15 && inR 0 i 15 && inR 0 g 1048575
def rightB (b : Bun) : Bool :=
  inR 0 b.m 31 && withinB (hasB b.m 1) b.x (-1073741824) 1073741824 && withinB (hasB b.m 1) b.y (-1073741824) 1073741824 && withinB (hasB b.m 2) b.vx (-1073741824) 1073741824 &&
  withinB (hasB b.m 2) b.vy (-1073741824) 1073741824 && withinB (hasB b.m 4) b.hp 1 1048576 && withinB (hasB b.m 8) b.pw 0 1024 && withinB (hasB b.m 16) b.lf 1 1048576
def checkB (b : Bun) : Bool := rightB b && hasB b.m 1 && idOk b.s b.i b.g
def someB (m : Int) : Bool := decide (0 < m) && decide (m ≤ 31) && (bits .and .i64 m 1 == 0)
def idEq (s i g s' i' g' : Int) : Bool := s == s' && i == i' && g == g'
def bunEq (a b : Bun) : Bool := decide (a = b)
def idZero (s i g : Int) : Bool := idEq s i g 0 0 0
def bunZero (b : Bun) : Bool := bunEq b ⟨0, 0, 0, 0, 0, 0, 0, 0, 0, 0, 0⟩
def cmdB (c : Cm) : Bool :=
  if c.k == 1 then idZero c.s c.i c.g && c.mask == 0 && checkB c.b
  else if c.k == 3 then c.mask == 0 && idZero c.b.s c.b.i c.b.g && someB c.b.m && rightB c.b && idOk c.s c.i c.g
  else if c.k == 4 then someB c.mask && bunZero c.b && idOk c.s c.i c.g
  else if c.k == 2 then c.mask == 0 && bunZero c.b && idOk c.s c.i c.g
  else false

def withF (b c : Bun) : Bun :=
  { s := b.s, i := b.i, g := b.g, m := bits .or .i64 b.m c.m, x := if hasB c.m 1 then c.x else b.x, y := if hasB c.m 1 then c.y else b.y, vx := if hasB c.m 2 then c.vx else b.vx, vy := if hasB c.m 2 then c.vy else b.vy,
    hp := if hasB c.m 4 then c.hp else b.hp, pw := if hasB c.m 8 then c.pw else b.pw, lf := if hasB c.m 16 then c.lf else b.lf }
def withoutF (b : Bun) (k : Int) : Bun :=
  { s := b.s, i := b.i, g := b.g, m := bits .andNot .i64 (bits .or .i64 b.m k) k, x := if hasB k 1 then 0 else b.x, y := if hasB k 1 then 0 else b.y, vx := if hasB k 2 then 0 else b.vx, vy := if hasB k 2 then 0 else b.vy,
    hp := if hasB k 4 then 0 else b.hp, pw := if hasB k 8 then 0 else b.pw, lf := if hasB k 16 then 0 else b.lf }

/-- The reference's test of a bit, by floors. -/
def tb (m c : Int) : Bool := !((m / c) % 2 == 0)
def rRightB (b : Bun) : Bool :=
  inR 0 b.m 31 && withinB (tb b.m 1) b.x (-1073741824) 1073741824 && withinB (tb b.m 1) b.y (-1073741824) 1073741824 && withinB (tb b.m 2) b.vx (-1073741824) 1073741824 &&
  withinB (tb b.m 2) b.vy (-1073741824) 1073741824 && withinB (tb b.m 4) b.hp 1 1048576 && withinB (tb b.m 8) b.pw 0 1024 && withinB (tb b.m 16) b.lf 1 1048576
def rIdOk (s i g : Int) : Bool := decide (0 ≤ s) && decide (s ≤ 15) && decide (0 ≤ i) && decide (i ≤ 15) && decide (0 ≤ g) && decide (g < 1048576)
def rMayB (b : Bun) : Bool := rIdOk b.s b.i b.g && rRightB b && tb b.m 1
def rTakesB (m : Int) : Bool := decide (1 ≤ m) && decide (m ≤ 31) && (m % 2 == 0)
def rCmdB (c : Cm) : Bool :=
  if c.k == 1 then idZero c.s c.i c.g && c.mask == 0 && rMayB c.b
  else if c.k == 2 then rIdOk c.s c.i c.g && c.mask == 0 && bunZero c.b
  else if c.k == 3 then rIdOk c.s c.i c.g && c.mask == 0 && idZero c.b.s c.b.i c.b.g && rTakesB c.b.m && rRightB c.b
  else if c.k == 4 then rIdOk c.s c.i c.g && bunZero c.b && rTakesB c.mask
  else false
def rWithF (b c : Bun) : Bun :=
  { s := b.s, i := b.i, g := b.g, m := bits .or .i64 b.m c.m, x := if tb c.m 1 then c.x else b.x, y := if tb c.m 1 then c.y else b.y, vx := if tb c.m 2 then c.vx else b.vx, vy := if tb c.m 2 then c.vy else b.vy,
    hp := if tb c.m 4 then c.hp else b.hp, pw := if tb c.m 8 then c.pw else b.pw, lf := if tb c.m 16 then c.lf else b.lf }
def rWithoutF (b : Bun) (k : Int) : Bun :=
  { s := b.s, i := b.i, g := b.g, m := wrap64 (b.m - bits .and .i64 b.m k), x := if tb k 1 then 0 else b.x, y := if tb k 1 then 0 else b.y, vx := if tb k 2 then 0 else b.vx, vy := if tb k 2 then 0 else b.vy,
    hp := if tb k 4 then 0 else b.hp, pw := if tb k 8 then 0 else b.pw, lf := if tb k 16 then 0 else b.lf }

end Go.Proofs.Ytcnclcfipabimaa
namespace Go.Proofs.Ytcnclcfipabimaa
open Go.RowKit

/-- Draws stand outermost. -/
@[go_sem] theorem alloc_drewN (w : World) (n : Nat) (o : Obj) : (w.drewN n).alloc o = (w.alloc o).drewN n := rfl
@[go_sem] theorem setCell_drewN (w : World) (n : Nat) (a : Addr) (v : Value) : (w.drewN n).setCell a v = (w.setCell a v).drewN n := rfl

@[go_sem high] theorem run_eql_id (s i g s' i' g' : Int) (W : World) :
    (binOp .eql 39 (.agg #[.int .i64 s, .int .i64 i, .int .i64 g]) (.agg #[.int .i64 s', .int .i64 i', .int .i64 g'])).run Try.prog W = .ok (.bool (idEq s i g s' i' g')) W := by
  rw [run_eql_struct]
  by_cases h1 : s = s'
  · by_cases h2 : i = i'
    · by_cases h3 : g = g' <;> simp [go_sem, idEq, h1, h2, h3]
    · simp [go_sem, idEq, h1, h2]
  · simp [go_sem, idEq, h1]

@[go_sem high] theorem run_neq_id (s i g s' i' g' : Int) (W : World) :
    (binOp .neq 39 (.agg #[.int .i64 s, .int .i64 i, .int .i64 g]) (.agg #[.int .i64 s', .int .i64 i', .int .i64 g'])).run Try.prog W = .ok (.bool (!(idEq s i g s' i' g'))) W := by
  have h := run_eql_id s i g s' i' g' W
  rw [run_eql_struct] at h
  rw [run_neq_struct]
  generalize (Op.equalIn _ _ _ _).run Try.prog W = r at *
  cases r with
  | ok b w => simp only [Result.andThen_ok] at *; cases b <;> simp_all
  | halt x w => simp [Result.andThen] at h


set_option maxHeartbeats 1000000 in
@[go_sem high] theorem run_eql_bun (s i g m x y vx vy hp pw lf s' i' g' m' x' y' vx' vy' hp' pw' lf' : Int) (W : World) :
    (binOp .eql 41 (.agg #[.int .i64 s, .int .i64 i, .int .i64 g, .int .i64 m, .int .i64 x, .int .i64 y, .int .i64 vx, .int .i64 vy, .int .i64 hp, .int .i64 pw, .int .i64 lf]) (.agg #[.int .i64 s', .int .i64 i', .int .i64 g', .int .i64 m', .int .i64 x', .int .i64 y', .int .i64 vx', .int .i64 vy', .int .i64 hp', .int .i64 pw', .int .i64 lf'])).run Try.prog W = .ok (.bool (bunEq ⟨s, i, g, m, x, y, vx, vy, hp, pw, lf⟩ ⟨s', i', g', m', x', y', vx', vy', hp', pw', lf'⟩)) W := by
  rw [run_eql_struct]
  by_cases h0 : s = s'
  · by_cases h1 : i = i'
    · by_cases h2 : g = g'
      · by_cases h3 : m = m'
        · by_cases h4 : x = x'
          · by_cases h5 : y = y'
            · by_cases h6 : vx = vx'
              · by_cases h7 : vy = vy'
                · by_cases h8 : hp = hp'
                  · by_cases h9 : pw = pw'
                    · by_cases h10 : lf = lf'
                      · simp [go_sem, bunEq, h0, h1, h2, h3, h4, h5, h6, h7, h8, h9, h10]
                      · simp [go_sem, bunEq, h0, h1, h2, h3, h4, h5, h6, h7, h8, h9, h10]
                    · simp [go_sem, bunEq, h0, h1, h2, h3, h4, h5, h6, h7, h8, h9]
                  · simp [go_sem, bunEq, h0, h1, h2, h3, h4, h5, h6, h7, h8]
                · simp [go_sem, bunEq, h0, h1, h2, h3, h4, h5, h6, h7]
              · simp [go_sem, bunEq, h0, h1, h2, h3, h4, h5, h6]
            · simp [go_sem, bunEq, h0, h1, h2, h3, h4, h5]
          · simp [go_sem, bunEq, h0, h1, h2, h3, h4]
        · simp [go_sem, bunEq, h0, h1, h2, h3]
      · simp [go_sem, bunEq, h0, h1, h2]
    · simp [go_sem, bunEq, h0, h1]
  · simp [go_sem, bunEq, h0]

@[go_sem high] theorem run_neq_bun (s i g m x y vx vy hp pw lf s' i' g' m' x' y' vx' vy' hp' pw' lf' : Int) (W : World) :
    (binOp .neq 41 (.agg #[.int .i64 s, .int .i64 i, .int .i64 g, .int .i64 m, .int .i64 x, .int .i64 y, .int .i64 vx, .int .i64 vy, .int .i64 hp, .int .i64 pw, .int .i64 lf]) (.agg #[.int .i64 s', .int .i64 i', .int .i64 g', .int .i64 m', .int .i64 x', .int .i64 y', .int .i64 vx', .int .i64 vy', .int .i64 hp', .int .i64 pw', .int .i64 lf'])).run Try.prog W = .ok (.bool (!(bunEq ⟨s, i, g, m, x, y, vx, vy, hp, pw, lf⟩ ⟨s', i', g', m', x', y', vx', vy', hp', pw', lf'⟩))) W := by
  have h := run_eql_bun s i g m x y vx vy hp pw lf s' i' g' m' x' y' vx' vy' hp' pw' lf' W
  rw [run_eql_struct] at h
  rw [run_neq_struct]
  generalize (Op.equalIn _ _ _ _).run Try.prog W = r at *
  cases r with
  | ok b w => simp only [Result.andThen_ok] at *; cases b <;> simp_all
  | halt x w => simp [Result.andThen] at h

end Go.Proofs.Ytcnclcfipabimaa
namespace Go.Proofs.Ytcnclcfipabimaa
open Go.RowKit

/-- -1, 0 or 1. -/
def cmpI (a b : Int) : Int := if a < b then -1 else if b < a then 1 else 0
/-- Two names. -/
def cmpId (s i g s' i' g' : Int) : Int := if cmpI s s' ≠ 0 then cmpI s s' else if cmpI i i' ≠ 0 then cmpI i i' else cmpI g g'
/-- The reference's. -/
def beforeB (s i g s' i' g' : Int) : Bool := if s ≠ s' then decide (s < s') else if i ≠ i' then decide (i < i') else decide (g < g')

theorem cmpI_spec (a b : Int) : (a < b ∧ cmpI a b = -1) ∨ (a = b ∧ cmpI a b = 0) ∨ (b < a ∧ cmpI a b = 1) := by
  unfold cmpI
  by_cases h : a < b
  · simp [h]
  · by_cases h2 : b < a
    · simp [h, h2]
    · simp [h, h2]; omega
theorem cmpId_neg (s i g s' i' g' : Int) : cmpId s' i' g' s i g = -cmpId s i g s' i' g' := by
  unfold cmpId
  have h1 := cmpI_spec s s'; have h2 := cmpI_spec i i'; have h3 := cmpI_spec g g'
  have k1 := cmpI_spec s' s; have k2 := cmpI_spec i' i; have k3 := cmpI_spec g' g
  repeat' split
  all_goals omega
theorem cmpId_self (s i g : Int) : cmpId s i g s i g = 0 := by
  unfold cmpId
  have h1 := cmpI_spec s s; have h2 := cmpI_spec i i; have h3 := cmpI_spec g g
  repeat' split
  all_goals omega
theorem cmpId_lo (s i g s' i' g' : Int) : -1 ≤ cmpId s i g s' i' g' ∧ cmpId s i g s' i' g' ≤ 1 := by
  unfold cmpId
  have h1 := cmpI_spec s s'; have h2 := cmpI_spec i i'; have h3 := cmpI_spec g g'
  repeat' split
  all_goals omega
theorem cmpId_before (s i g s' i' g' : Int) : beforeB s i g s' i' g' = decide (cmpId s i g s' i' g' < 0) := by
  unfold beforeB cmpId
  have h1 := cmpI_spec s s'; have h2 := cmpI_spec i i'; have h3 := cmpI_spec g g'
  repeat' split
  all_goals rw [decide_eq_decide]
  all_goals omega
set_option maxHeartbeats 4000000 in
theorem cmpId_trans (s i g s' i' g' s2 i2 g2 : Int) (h1 : cmpId s i g s' i' g' ≤ 0) (h2 : cmpId s' i' g' s2 i2 g2 ≤ 0) : cmpId s i g s2 i2 g2 = min (cmpId s i g s' i' g') (cmpId s' i' g' s2 i2 g2) := by
  unfold cmpId at *
  have a1 := cmpI_spec s s'; have a2 := cmpI_spec i i'; have a3 := cmpI_spec g g'
  have b1 := cmpI_spec s' s2; have b2 := cmpI_spec i' i2; have b3 := cmpI_spec g' g2
  have c1 := cmpI_spec s s2; have c2 := cmpI_spec i i2; have c3 := cmpI_spec g g2
  generalize cmpI s s' = x1 at *; generalize cmpI i i' = x2 at *; generalize cmpI g g' = x3 at *
  generalize cmpI s' s2 = y1 at *; generalize cmpI i' i2 = y2 at *; generalize cmpI g' g2 = y3 at *
  generalize cmpI s s2 = z1 at *; generalize cmpI i i2 = z2 at *; generalize cmpI g g2 = z3 at *
  repeat' split at h1
  all_goals repeat' split at h2
  all_goals repeat' split
  all_goals omega

theorem cmpC_any (a b : Int) (w : World) : Calls Try.prog 130 #[.int .i64 a, .int .i64 b] w fun e w' => e = .returned (.int .i64 (cmpI a b)) ∧ w = w' := by
  generalize hr : cmpI a b = r
  have HR := Lib.hid hr
  clear hr
  go_enter Try.func130, Try.ntmps130
  go_wp2
  all_goals go_ret
  all_goals (refine ⟨?_, rfl⟩; go_tidy; (have h := HR.out; clear HR; subst h; simp [cmpI, *]))
  all_goals (try omega)

/-- The first that is not nought. -/
def or3 (x y z : Int) : Int := if x ≠ 0 then x else if y ≠ 0 then y else z

theorem or_any (b : Nat) (x y z : Int) (w : World) (h0 : w.cell? ⟨b, 0, none⟩ = some (.int .i64 x)) (h1 : w.cell? ⟨b, 1, none⟩ = some (.int .i64 y)) (h2 : w.cell? ⟨b, 2, none⟩ = some (.int .i64 z)) :
    Calls Try.prog 129 #[.slice (some ⟨b, 0, none⟩) 3 3] w fun e w' => e = .returned (.int .i64 (or3 x y z)) ∧ w = w' := by
  generalize hr : or3 x y z = r
  have HR := Lib.hid hr
  clear hr
  go_enter Try.func129, Try.ntmps129
  go_wp2_with fail
  refine wp_loop_rounds 4 ?_
  repeat any_goals (rw [rounds_succ]; go_wp2)
  all_goals go_ret
  all_goals (refine ⟨?_, rfl⟩; go_tidy; (have h := HR.out; clear HR; subst h; simp_all [or3]))

theorem before_any (s i g s' i' g' : Int) (w : World) :
    Calls Try.prog 42 #[.agg #[.int .i64 s, .int .i64 i, .int .i64 g], .agg #[.int .i64 s', .int .i64 i', .int .i64 g']] w fun e w' => e = .returned (.bool (beforeB s i g s' i' g')) ∧ Below w.heap.size w w' := by
  generalize hr : beforeB s i g s' i' g' = r
  have HR := Lib.hid hr
  clear hr
  go_enter Try.func42, Try.ntmps42
  go_wp2
  all_goals go_ret
  all_goals (refine ⟨?_, (by repeat' (first | (with_reducible exact Below.refl _ _) | (with_reducible assumption) | (with_reducible refine below_drewN ?_ _) | (with_reducible refine below_more _ _ _ ?_ ?_) | (with_reducible refine Below.alloc ?_ ?_ _) | (with_reducible refine Below.drew ?_) | (with_reducible refine Below.setCell ?_ ?_ _) | go_size))⟩; go_tidy; (have h := HR.out; clear HR; subst h; simp_all [beforeB]))


set_option maxHeartbeats 1000000 in
theorem compare_any (s i g s' i' g' : Int) (w : World) :
    Calls Try.prog 93 #[.agg #[.int .i64 s, .int .i64 i, .int .i64 g], .agg #[.int .i64 s', .int .i64 i', .int .i64 g']] w fun e w' => e = .returned (.int .i64 (cmpId s i g s' i' g')) ∧ Below w.heap.size w w' := by
  generalize hr : cmpId s i g s' i' g' = r
  have HR := Lib.hid hr
  clear hr
  go_enter Try.func93, Try.ntmps93
  go_wp2_with fail
  go_region_held3 (fun W => ((w.alloc (.cells #[.int .i64 s, .int .i64 i, .int .i64 g] 39)).alloc (.cells #[.int .i64 s', .int .i64 i', .int .i64 g'] 39)).heap.size ≤ W.heap.size ∧ ∀ b o, b < ((w.alloc (.cells #[.int .i64 s, .int .i64 i, .int .i64 g] 39)).alloc (.cells #[.int .i64 s', .int .i64 i', .int .i64 g'] 39)).heap.size → W.cell? ⟨b, o, none⟩ = ((w.alloc (.cells #[.int .i64 s, .int .i64 i, .int .i64 g] 39)).alloc (.cells #[.int .i64 s', .int .i64 i', .int .i64 g'] 39)).cell? ⟨b, o, none⟩) (with_reducible (repeat (first | assumption | exact s_refl _ | exact s_id _ | refine s_more _ _ ?_ | refine s_alloc _ ?_ | refine s_drew ?_))) (first | (go_at_call 130; refine (cmpC_any _ _ _).mono ?_; rintro e w' ⟨rfl, rfl⟩) | (go_at_call 129; refine (or_any _ (cmpI s s') (cmpI i i') (cmpI g g') _ (by simp [go_sem]) (by simp [go_sem]) (by simp [go_sem])).mono ?_; rintro e w' ⟨rfl, rfl⟩))
  go_wp2_with fail
  go_ret
  refine ⟨?_, (by repeat' (first | (with_reducible exact Below.refl _ _) | (with_reducible assumption) | (with_reducible refine below_drewN ?_ _) | (with_reducible refine below_more _ _ _ ?_ ?_) | (with_reducible refine Below.alloc ?_ ?_ _) | (with_reducible refine Below.drew ?_) | (with_reducible refine Below.setCell ?_ ?_ _) | go_size))⟩
  rw [← HR.out]
  rfl

end Go.Proofs.Ytcnclcfipabimaa
