/-
  How a slice of commands that came in reads. No condition.
-/
import Derived.Test.YtcnclcfipabimaaMrt
import Derived.Test.YtcnclcfipabimaaMra
namespace Go.Proofs.Ytcnclcfipabimaa
open Go.ChangeShapes Go.WideShapes Go.ChangeAt Go.RowKit
set_option maxRecDepth 100000 in
theorem read_cmdF {H : Type} {enc : TypeId × Value → H} {w : World} {base : Nat} {spare : Nat → Bool} {held : Bool} {fuel : Nat} {c : List Value} {x : DataW H × List MemPlace} (h : DataW.trod enc Try.prog w base spare held fuel 93 c = some x) : ∃ m : Cm, c = cmC m ∧ CmFit m := by
  obtain ⟨xs, n, _, _, hc, hl, hf⟩ := DataW.trod_struct Try.underlying93 h
  rw [cells_cmd] at hc
  match c, hc with
  | [c0, c1, c2, c3, c4, c5, c6, c7, c8, c9, c10, c11, c12, c13, c14, c15], _ =>
    match xs, hl with
    | [x0, x1, x2, x3], _ =>
      have h0 := hf 0 _ rfl
      have h1 := hf 1 _ rfl
      have h2 := hf 2 _ rfl
      have h3 := hf 3 _ rfl
      simp [cells_int, cells_id, cells_bun] at h0 h1 h2 h3
      obtain ⟨k, e0, _⟩ := read_int h0
      obtain ⟨s, i, g, e1, _⟩ := read_id h1
      obtain ⟨es, ei, eg, m, x, y, vx, vy, hp, pw, lf, e2, hb⟩ := read_bun h2
      obtain ⟨mask, e3, hk⟩ := read_int h3
      simp at e0 e1 e2 e3
      obtain ⟨e10, e11, e12⟩ := e1
      obtain ⟨f0, f1, f2, f3, f4, f5, f6, f7, f8, f9, f10⟩ := e2
      subst e0 e10 e11 e12 f0 f1 f2 f3 f4 f5 f6 f7 f8 f9 f10 e3
      exact ⟨⟨k, s, i, g, ⟨es, ei, eg, m, x, y, vx, vy, hp, pw, lf⟩, mask⟩, rfl, hb, hk⟩
set_option maxRecDepth 100000 in
theorem cmds_in {H : Type} {enc : TypeId × Value → H} {W : World} {base b0 : Nat} {spare : Nat → Bool} {held : Bool} {r : Reach} {v : Value} {d : DataW H} {p : List MemPlace} (hv : Value.okWide Try.prog W r b0 37 v) (h : DataW.Trod enc Try.prog W base spare held 37 v d p) : ∃ l, RIn cmC W v l ∧ ∀ m ∈ l, CmFit m := by
  obtain ⟨a, len, cap, rfl⟩ := Go.WideShapes.okWide_slice Try.underlying37 hv
  obtain ⟨fuel, hf⟩ := h
  have hf' : DataW.trod enc Try.prog W base spare held fuel 37 [.slice a len cap] = some (d, p) := by simpa [Value.cells] using hf
  obtain ⟨p', cap', l, e, hr, hg⟩ := slice_cells (en := cmC) (size := 16) (Good := CmFit) cmC_len (by omega) Try.underlying37 cells_cmd (fun ht => read_cmdF ht) hf'
  simp only [List.cons.injEq, and_true] at e
  rw [e]
  exact ⟨l, hr, hg⟩
end Go.Proofs.Ytcnclcfipabimaa
