/-
  Chapter texts CmV: what the claim reaches of them. Conditions stand at each theorem.
-/
import Derived.Shelf.SlicesQ.Load
import Derived.Test.YtoimjjhopljdmaaGreatY02
import Derived.Test.YtoimjjhopljdmaaGreatY01
namespace Go.Proofs.YtoimjjhopljdmaaGreat
open Go.RowKit

def ldM (a : Addr) : Sem Value := loadVar 34 a
def stM (a : Addr) (v : Value) : Sem Unit := storeVar 34 a v
theorem loadVar_ldM (a : Addr) : loadVar 34 a = ldM a := rfl
theorem storeVar_stM (a : Addr) (v : Value) : storeVar 34 a v = stM a v := rfl
theorem ldM_of {W : World} {b o : Nat} (m : Cm) (h : ∀ j v, (cmC m)[j]? = some v → W.cell? ⟨b, o + j, none⟩ = some v) : (ldM ⟨b, o, none⟩).run Tryz.prog W = .ok (.agg (cmC m).toArray) W := by
  have h1 := Go.Proofs.run_loadCellsFrom_list Tryz.prog W ⟨b, o, none⟩ (cmC m) 16 rfl (fun j v hj => by rw [Addr.add_lit]; exact h j v hj)
  simp [ldM, loadVar, loadCells, h1]
theorem stM_of {W W' : World} {a : Addr} (m : Cm) (h : Sem.run Tryz.prog (storeCells a (cmC m) 0) W = .ok () W') : (stM a (.agg (cmC m).toArray)).run Tryz.prog W = .ok () W' := by
  simp [stM, storeVar, Value.cells, cmC_len, h]
theorem more_setCells (b : Nat) (d : Nat) (os : Array Obj) : ∀ (vs : List Value) (o : Nat) (W : World), b < W.heap.size → (more W d os).setCells b o vs = more (W.setCells b o vs) d os
  | [], _, _, _ => rfl
  | v :: r, o, W, h => by
    rw [World.setCells, World.setCells, more_setCell _ _ _ _ _ h, more_setCells b d os r _ _ (by simpa [World.setCell] using h)]
theorem size_setCells (b : Nat) : ∀ (vs : List Value) (o : Nat) (W : World), (W.setCells b o vs).heap.size = W.heap.size
  | [], _, _ => rfl
  | v :: r, o, W => by rw [World.setCells, size_setCells b r]; simp [World.setCell]
theorem ld_box {W : World} {b : Nat} (m : Cm) (hb : b < W.heap.size) (h : ∀ j, W.cell? ⟨b, j, none⟩ = (cmC m)[j]?) (d : Nat) (os : Array Obj) : (ldM ⟨b, 0, none⟩).run Tryz.prog (more W d os) = .ok (.agg (cmC m).toArray) (more W d os) :=
  ldM_of m fun j v hj => by rw [Nat.zero_add, more_cell _ _ _ _ hb, h j, hj]
theorem ld_box0 {W : World} {b : Nat} (m : Cm) (h : ∀ j, W.cell? ⟨b, j, none⟩ = (cmC m)[j]?) : (ldM ⟨b, 0, none⟩).run Tryz.prog W = .ok (.agg (cmC m).toArray) W :=
  ldM_of m fun j v hj => by rw [Nat.zero_add, h j, hj]
theorem st_box (V : World) (b : Nat) (h16 : ∀ j, j < 16 → (V.cell? ⟨b, j, none⟩).isSome = true) (hf : ∀ j, V.frozen? ⟨b, j, none⟩ = false) (hb : b < V.heap.size) (m : Cm) :
    ∃ V2, (∀ d os, (stM ⟨b, 0, none⟩ (.agg (cmC m).toArray)).run Tryz.prog (more V d os) = .ok () (more V2 d os)) ∧ (stM ⟨b, 0, none⟩ (.agg (cmC m).toArray)).run Tryz.prog V = .ok () V2 ∧ (∀ j v, (cmC m)[j]? = some v → V2.cell? ⟨b, j, none⟩ = some v) ∧ V2.heap.size = V.heap.size ∧ Turned V V2 (some b) := by
  have key : ∀ W : World, (∀ j, j < 16 → (W.cell? ⟨b, j, none⟩).isSome = true) → (∀ j, W.frozen? ⟨b, j, none⟩ = false) → (stM ⟨b, 0, none⟩ (.agg (cmC m).toArray)).run Tryz.prog W = .ok () (W.setCells b 0 (cmC m)) := fun W hw hv => by
    have h := Go.run_storeCells_cells (P := Tryz.prog) b 0 (cmC m) 0 W (fun j hj => by rw [show 0 + 0 + j = j by omega]; exact hw j hj) (fun j _ => hv _) (cmC_one m)
    exact stM_of m (by simpa using h)
  have hin := World.cell?_setCells_in b (cmC m) 0 V fun j hj => by rw [Nat.zero_add]; exact h16 j hj
  refine ⟨V.setCells b 0 (cmC m), fun d os => ?_, key V h16 hf, fun j v hj => ?_, size_setCells _ _ _ _, setCells_turned _ _ _ _⟩
  · rw [key _ (fun j hj => by rw [more_cell _ _ _ _ hb]; exact h16 j hj) (fun j => by rw [more_frozen _ _ _ _ hb]; exact hf j), more_setCells _ _ _ _ _ _ hb]
  · have hlt := (List.getElem?_eq_some_iff.1 hj).1
    have := hin j hlt
    rw [Nat.zero_add] at this
    rw [this, ← hj, List.getElem?_eq_getElem hlt]
theorem ld_more {W : World} {b : Nat} {m : Cm} (h : ∀ j v, (cmC m)[j]? = some v → W.cell? ⟨b, j, none⟩ = some v) (hb : b < W.heap.size) (d : Nat) (os : Array Obj) : (ldM ⟨b, 0, none⟩).run Tryz.prog (more W d os) = .ok (.agg (cmC m).toArray) (more W d os) :=
  ldM_of m fun j v hj => by rw [Nat.zero_add, more_cell _ _ _ _ hb]; exact h j v hj
theorem results_cm {fn : Func} {a b c : Tmp} {tmps : Array Value} {W : World} {ad : Addr} {v vb vc : Value} (h : fn.results = #[.cell a 34, .tmp b, .tmp c]) (ha : tmps.getD a undef = .pointer (some ad)) (hb : tmps.getD b undef = vb) (hc : tmps.getD c undef = vc) (hl : (ldM ad).run Tryz.prog W = .ok v W) :
    (results fn tmps).run Tryz.prog W = .ok (.tuple #[v, vb, vc]) W := by
  unfold results
  rw [h]
  simp only [List.mapM_toArray, List.mapM_cons, List.mapM_nil, ha, hb, hc, loadVar_ldM]
  simp [asAddr, hl, go_sem]
end Go.Proofs.YtoimjjhopljdmaaGreat
