/-
  Walks of package parts, first half: within, Has, CheckID, right, some. Each function computes its plain twin; new memory alone is written. No condition.
-/
import Derived.Test.YtcnclcfipabimaaMba
namespace Go.Proofs.Ytcnclcfipabimaa
open Go.RowKit


theorem has_any (s i g m x y vx vy hp pw lf k : Int) (w : World) :
    Calls Try.prog 119 #[.agg #[.int .i64 s, .int .i64 i, .int .i64 g, .int .i64 m, .int .i64 x, .int .i64 y, .int .i64 vx, .int .i64 vy, .int .i64 hp, .int .i64 pw, .int .i64 lf], .int .i64 k] w fun e w' => e = .returned (.bool (hasB m k)) ∧ Below w.heap.size w w' := by
  go_enter Try.func119, Try.ntmps119
  go_wp2
  go_ret
  exact ⟨rfl, (Below.refl _ _).alloc (Nat.le_refl _) _⟩




end Go.Proofs.Ytcnclcfipabimaa
