/-
  How a config that came in reads: seven ints. No condition.
-/
import Derived.Test.YtbghjklnlhoklaaMk3
namespace Go.Proofs.Ytbghjklnlhoklaa
open Go.ChangeShapes Go.WideShapes Go.ChangeAt Go.RowKit

theorem cells_cfg : Try.prog.cellsOf 23 = 7 := by kernel_rfl
set_option maxRecDepth 100000 in
theorem read_cfg {H : Type} {enc : TypeId × Value → H} {w : World} {base : Nat} {spare : Nat → Bool} {held : Bool} {fuel : Nat} {c : List Value} {x : DataW H × List MemPlace} (h : DataW.trod enc Try.prog w base spare held fuel 23 c = some x) :
    ∃ cols rows side radius speed ids queue : Int, c = [.int .i64 cols, .int .i64 rows, .int .i64 side, .int .i64 radius, .int .i64 speed, .int .i64 ids, .int .i64 queue] := by
  obtain ⟨xs, n, _, _, hc, hl, hf⟩ := DataW.trod_struct Try.underlying23 h
  rw [cells_cfg] at hc
  match c, hc with
  | [c0, c1, c2, c3, c4, c5, c6], _ =>
    match xs, hl with
    | [x0, x1, x2, x3, x4, x5, x6], _ =>
      have h0 := hf 0 _ rfl
      have h1 := hf 1 _ rfl
      have h2 := hf 2 _ rfl
      have h3 := hf 3 _ rfl
      have h4 := hf 4 _ rfl
      have h5 := hf 5 _ rfl
      have h6 := hf 6 _ rfl
      simp [cells_int] at h0 h1 h2 h3 h4 h5 h6
      obtain ⟨cols, e0, _⟩ := read_int h0
      obtain ⟨rows, e1, _⟩ := read_int h1
      obtain ⟨side, e2, _⟩ := read_int h2
      obtain ⟨radius, e3, _⟩ := read_int h3
      obtain ⟨speed, e4, _⟩ := read_int h4
      obtain ⟨ids, e5, _⟩ := read_int h5
      obtain ⟨queue, e6, _⟩ := read_int h6
      simp at e0 e1 e2 e3 e4 e5 e6
      subst e0 e1 e2 e3 e4 e5 e6
      exact ⟨cols, rows, side, radius, speed, ids, queue, rfl⟩
end Go.Proofs.Ytbghjklnlhoklaa
