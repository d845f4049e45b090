/-
  An entity is equal to itself, in the walk's words. No condition.
-/
import Derived.Test.YtloampfkjldmnaaSyI
namespace Go.Proofs.Ytloampfkjldmnaa
open Go.RowKit
@[go_sem, simp] theorem bunEq_refl (b : Bun) : bunEq b b = true := by simp [bunEq]
end Go.Proofs.Ytloampfkjldmnaa
