/-
  How the walk compares two names and two entities: one bool each. No condition.
-/
import Derived.Test.YtbghjklnlhoklaaBase
import Derived.Test.YtbghjklnlhoklaaMk2
namespace Go.Proofs.Ytbghjklnlhoklaa
open Go.RowKit

/-- Draws stand outermost. -/
@[go_sem] theorem alloc_drewN (w : World) (n : Nat) (o : Obj) : (w.drewN n).alloc o = (w.alloc o).drewN n := rfl
@[go_sem] theorem setCell_drewN (w : World) (n : Nat) (a : Addr) (v : Value) : (w.drewN n).setCell a v = (w.setCell a v).drewN n := rfl

@[go_sem high] theorem run_eql_id (s i g s' i' g' : Int) (W : World) :
    (binOp .eql 33 (.agg #[.int .i64 s, .int .i64 i, .int .i64 g]) (.agg #[.int .i64 s', .int .i64 i', .int .i64 g'])).run Try.prog W = .ok (.bool (idEq s i g s' i' g')) W := by
  rw [run_eql_struct]
  by_cases h1 : s = s'
  · by_cases h2 : i = i'
    · by_cases h3 : g = g' <;> simp [go_sem, idEq, h1, h2, h3]
    · simp [go_sem, idEq, h1, h2]
  · simp [go_sem, idEq, h1]

@[go_sem high] theorem run_neq_id (s i g s' i' g' : Int) (W : World) :
    (binOp .neq 33 (.agg #[.int .i64 s, .int .i64 i, .int .i64 g]) (.agg #[.int .i64 s', .int .i64 i', .int .i64 g'])).run Try.prog W = .ok (.bool (!(idEq s i g s' i' g'))) W := by
  have h := run_eql_id s i g s' i' g' W
  rw [run_eql_struct] at h
  rw [run_neq_struct]
  generalize (Op.equalIn _ _ _ _).run Try.prog W = r at *
  cases r with
  | ok b w => simp only [Result.andThen_ok] at *; cases b <;> simp_all
  | halt x w => simp [Result.andThen] at h


set_option maxHeartbeats 1000000 in
@[go_sem high] theorem run_eql_bun (s i g m x y vx vy hp pw lf s' i' g' m' x' y' vx' vy' hp' pw' lf' : Int) (W : World) :
    (binOp .eql 35 (.agg #[.int .i64 s, .int .i64 i, .int .i64 g, .int .i64 m, .int .i64 x, .int .i64 y, .int .i64 vx, .int .i64 vy, .int .i64 hp, .int .i64 pw, .int .i64 lf]) (.agg #[.int .i64 s', .int .i64 i', .int .i64 g', .int .i64 m', .int .i64 x', .int .i64 y', .int .i64 vx', .int .i64 vy', .int .i64 hp', .int .i64 pw', .int .i64 lf'])).run Try.prog W = .ok (.bool (bunEq ⟨s, i, g, m, x, y, vx, vy, hp, pw, lf⟩ ⟨s', i', g', m', x', y', vx', vy', hp', pw', lf'⟩)) W := by
  rw [run_eql_struct]
  by_cases h0 : s = s'
  · by_cases h1 : i = i'
    · by_cases h2 : g = g'
      · by_cases h3 : m = m'
        · by_cases h4 : x = x'
          · by_cases h5 : y = y'
            · by_cases h6 : vx = vx'
              · by_cases h7 : vy = vy'
                · by_cases h8 : hp = hp'
                  · by_cases h9 : pw = pw'
                    · by_cases h10 : lf = lf'
                      · simp [go_sem, bunEq, h0, h1, h2, h3, h4, h5, h6, h7, h8, h9, h10]
                      · simp [go_sem, bunEq, h0, h1, h2, h3, h4, h5, h6, h7, h8, h9, h10]
                    · simp [go_sem, bunEq, h0, h1, h2, h3, h4, h5, h6, h7, h8, h9]
                  · simp [go_sem, bunEq, h0, h1, h2, h3, h4, h5, h6, h7, h8]
                · simp [go_sem, bunEq, h0, h1, h2, h3, h4, h5, h6, h7]
              · simp [go_sem, bunEq, h0, h1, h2, h3, h4, h5, h6]
            · simp [go_sem, bunEq, h0, h1, h2, h3, h4, h5]
          · simp [go_sem, bunEq, h0, h1, h2, h3, h4]
        · simp [go_sem, bunEq, h0, h1, h2, h3]
      · simp [go_sem, bunEq, h0, h1, h2]
    · simp [go_sem, bunEq, h0, h1]
  · simp [go_sem, bunEq, h0]

@[go_sem high] theorem run_neq_bun (s i g m x y vx vy hp pw lf s' i' g' m' x' y' vx' vy' hp' pw' lf' : Int) (W : World) :
    (binOp .neq 35 (.agg #[.int .i64 s, .int .i64 i, .int .i64 g, .int .i64 m, .int .i64 x, .int .i64 y, .int .i64 vx, .int .i64 vy, .int .i64 hp, .int .i64 pw, .int .i64 lf]) (.agg #[.int .i64 s', .int .i64 i', .int .i64 g', .int .i64 m', .int .i64 x', .int .i64 y', .int .i64 vx', .int .i64 vy', .int .i64 hp', .int .i64 pw', .int .i64 lf'])).run Try.prog W = .ok (.bool (!(bunEq ⟨s, i, g, m, x, y, vx, vy, hp, pw, lf⟩ ⟨s', i', g', m', x', y', vx', vy', hp', pw', lf'⟩))) W := by
  have h := run_eql_bun s i g m x y vx vy hp pw lf s' i' g' m' x' y' vx' vy' hp' pw' lf' W
  rw [run_eql_struct] at h
  rw [run_neq_struct]
  generalize (Op.equalIn _ _ _ _).run Try.prog W = r at *
  cases r with
  | ok b w => simp only [Result.andThen_ok] at *; cases b <;> simp_all
  | halt x w => simp [Result.andThen] at h

end Go.Proofs.Ytbghjklnlhoklaa
