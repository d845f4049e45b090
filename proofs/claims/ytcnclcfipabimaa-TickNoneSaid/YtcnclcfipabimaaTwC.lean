/-
  How a tick's case that came in reads. No condition.
-/
import Derived.Test.YtcnclcfipabimaaRdM
import Derived.Test.YtcnclcfipabimaaRdC
namespace Go.Proofs.Ytcnclcfipabimaa
open Go.ChangeShapes Go.WideShapes Go.ChangeAt Go.RowKit

theorem cells_case15 : Try.prog.cellsOf 87 = 11 := by kernel_rfl
theorem cells_cs15 : Try.prog.cellsOf 37 = 1 := by kernel_rfl
set_option maxRecDepth 100000 in
theorem bunsF_cells {H : Type} {enc : TypeId × Value → H} {W : World} {base : Nat} {spare : Nat → Bool} {held : Bool} {fuel : Nat} {c : List Value} {x : DataW H × List MemPlace} (h : DataW.trod enc Try.prog W base spare held fuel 24 c = some x) : ∃ p cap l, c = [.slice p l.length cap] ∧ RIn bunL W (.slice p l.length cap) l ∧ ∀ b ∈ l, BFit b :=
  slice_cells (en := bunL) (size := 11) (Good := BFit) bunL_len (by omega) Try.underlying24 cells_bun (fun ht => by obtain ⟨s', i', g', m', x', y', vx', vy', hp', pw', lf', rfl, hfit⟩ := read_bun ht; exact ⟨⟨s', i', g', m', x', y', vx', vy', hp', pw', lf'⟩, rfl, hfit⟩) h
set_option maxRecDepth 100000 in
theorem cmdsF_cells {H : Type} {enc : TypeId × Value → H} {W : World} {base : Nat} {spare : Nat → Bool} {held : Bool} {fuel : Nat} {c : List Value} {x : DataW H × List MemPlace} (h : DataW.trod enc Try.prog W base spare held fuel 37 c = some x) : ∃ p cap l, c = [.slice p l.length cap] ∧ RIn cmC W (.slice p l.length cap) l ∧ ∀ m ∈ l, CmFit m :=
  slice_cells (en := cmC) (size := 16) (Good := CmFit) cmC_len (by omega) Try.underlying37 cells_cmd (fun ht => read_cmdF ht) h
set_option maxRecDepth 100000 in
theorem read_case15 {H : Type} {enc : TypeId × Value → H} {W : World} {base : Nat} {spare : Nat → Bool} {held : Bool} {fuel : Nat} {c : List Value} {x : DataW H × List MemPlace} (h : DataW.trod enc Try.prog W base spare held fuel 87 c = some x) :
    ∃ (cols rows side radius speed ids queue z : Int) (po pn pc : Option Addr) (eo en ec : Nat) (own near : List Bun) (ms : List Cm), c = [.int .i64 cols, .int .i64 rows, .int .i64 side, .int .i64 radius, .int .i64 speed, .int .i64 ids, .int .i64 queue, .int .i64 z, .slice po own.length eo, .slice pn near.length en, .slice pc ms.length ec] ∧
      BIn W (.slice po own.length eo) own ∧ BIn W (.slice pn near.length en) near ∧ RIn cmC W (.slice pc ms.length ec) ms ∧ (∀ b ∈ own, BFit b) ∧ (∀ b ∈ near, BFit b) ∧ (∀ m ∈ ms, CmFit m) ∧ (-9223372036854775808 ≤ z ∧ z ≤ 9223372036854775807) := by
  obtain ⟨xs, n, _, _, hc, hl, hf⟩ := DataW.trod_struct Try.underlying87 h
  rw [cells_case15] at hc
  match c, hc with
  | [c0, c1, c2, c3, c4, c5, c6, c7, c8, c9, c10], _ =>
    match xs, hl with
    | [x0, x1, x2, x3, x4], _ =>
      have h0 := hf 0 _ rfl
      have h1 := hf 1 _ rfl
      have h2 := hf 2 _ rfl
      have h3 := hf 3 _ rfl
      have h4 := hf 4 _ rfl
      simp [cells_int, cells_cfg, cells_bs, cells_cs15] at h0 h1 h2 h3 h4
      obtain ⟨cols, rows, side, radius, speed, ids, queue, e0⟩ := read_cfg h0
      obtain ⟨z, e1, hz⟩ := read_int h1
      obtain ⟨po, eo, own, e2, b2, f2⟩ := bunsF_cells h2
      obtain ⟨pn, en, near, e3, b3, f3⟩ := bunsF_cells h3
      obtain ⟨pc, ec, ms, e4, b4, f4⟩ := cmdsF_cells h4
      simp at e0 e1 e2 e3 e4
      obtain ⟨g0, g1, g2, g3, g4, g5, g6⟩ := e0
      subst g0 g1 g2 g3 g4 g5 g6 e1 e2 e3 e4
      exact ⟨cols, rows, side, radius, speed, ids, queue, z, po, pn, pc, eo, en, ec, own, near, ms, rfl, b2, b3, b4, f2, f3, f4, hz⟩
end Go.Proofs.Ytcnclcfipabimaa
