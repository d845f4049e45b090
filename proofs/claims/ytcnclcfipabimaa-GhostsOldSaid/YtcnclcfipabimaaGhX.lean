/-
  Loads of a whole case, and of a whole record, left whole. No condition.
-/
import Derived.Test.YtcnclcfipabimaaGhW
namespace Go.Proofs.Ytcnclcfipabimaa
open Go.RowKit

def ldC (a : Addr) : Sem Value := loadVar 50 a
def ldR (a : Addr) : Sem Value := loadVar 48 a
theorem loadVar_ldC (a : Addr) : loadVar 50 a = ldC a := rfl
theorem loadVar_ldR (a : Addr) : loadVar 48 a = ldR a := rfl
theorem ldC_of {W : World} {b o : Nat} (cs : List Value) (hl : cs.length = 34) (h : ∀ j v, cs[j]? = some v → W.cell? ⟨b, o + j, none⟩ = some v) : (ldC ⟨b, o, none⟩).run Try.prog W = .ok (.agg cs.toArray) W := by
  have h1 := Go.Proofs.run_loadCellsFrom_list Try.prog W ⟨b, o, none⟩ cs 34 hl (fun j v hj => by rw [Addr.add_lit]; exact h j v hj)
  simp [ldC, loadVar, loadCells, h1]
theorem ldR_of {W : World} {b o : Nat} (cs : List Value) (hl : cs.length = 24) (h : ∀ j v, cs[j]? = some v → W.cell? ⟨b, o + j, none⟩ = some v) : (ldR ⟨b, o, none⟩).run Try.prog W = .ok (.agg cs.toArray) W := by
  have h1 := Go.Proofs.run_loadCellsFrom_list Try.prog W ⟨b, o, none⟩ cs 24 hl (fun j v hj => by rw [Addr.add_lit]; exact h j v hj)
  simp [ldR, loadVar, loadCells, h1]
end Go.Proofs.Ytcnclcfipabimaa
