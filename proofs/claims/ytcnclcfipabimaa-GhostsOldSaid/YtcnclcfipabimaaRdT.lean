/-
  How a state, a record and a case of chapter 22 that came in read. No condition.
-/
import Derived.Test.YtcnclcfipabimaaRdS
namespace Go.Proofs.Ytcnclcfipabimaa
open Go.ChangeShapes Go.WideShapes Go.ChangeAt Go.RowKit

theorem cells_state : Try.prog.cellsOf 46 = 8 := by kernel_rfl
theorem cells_rec : Try.prog.cellsOf 48 = 24 := by kernel_rfl
theorem cells_case : Try.prog.cellsOf 50 = 34 := by kernel_rfl
theorem cells_sl0 : Try.prog.cellsOf 24 = 1 := by kernel_rfl
theorem cells_sl1 : Try.prog.cellsOf 42 = 1 := by kernel_rfl
theorem cells_sl2 : Try.prog.cellsOf 43 = 1 := by kernel_rfl
theorem cells_sl3 : Try.prog.cellsOf 44 = 1 := by kernel_rfl
theorem cells_sl4 : Try.prog.cellsOf 36 = 1 := by kernel_rfl
theorem cells_sl5 : Try.prog.cellsOf 37 = 1 := by kernel_rfl
section
variable {H : Type} {enc : TypeId × Value → H} {W : World} {base : Nat} {spare : Nat → Bool} {held : Bool} {fuel : Nat}
set_option maxRecDepth 100000 in
theorem read_state {c : List Value} {x : DataW H × List MemPlace} (h : DataW.trod enc Try.prog W base spare held fuel 46 c = some x) : ∃ s : Sta, c = [.int .i64 s.ep, .int .i64 s.t, .slice s.po s.no s.co, .slice s.pd s.nd s.cd, .slice s.pu s.nu s.cu, .slice s.pi s.ni s.ci, .slice s.pg s.ng s.cg, .int .i64 s.nx] := by
  obtain ⟨xs, n, _, _, hc, hl, hf⟩ := DataW.trod_struct Try.underlying46 h
  rw [cells_state] at hc
  match c, hc with
  | [c0, c1, c2, c3, c4, c5, c6, c7], _ =>
    match xs, hl with
    | [x0, x1, x2, x3, x4, x5, x6, x7], _ =>
      have h0 := hf 0 _ rfl
      have h1 := hf 1 _ rfl
      have h2 := hf 2 _ rfl
      have h3 := hf 3 _ rfl
      have h4 := hf 4 _ rfl
      have h5 := hf 5 _ rfl
      have h6 := hf 6 _ rfl
      have h7 := hf 7 _ rfl
      simp [cells_int, cells_sl0, cells_sl1, cells_sl2, cells_sl3, cells_sl4] at h0 h1 h2 h3 h4 h5 h6 h7
      obtain ⟨ep, e0, _⟩ := read_int h0
      obtain ⟨t, e1, _⟩ := read_int h1
      obtain ⟨po, no, co, e2⟩ := slice_form Try.underlying24 h2
      obtain ⟨pd, nd, cd, e3⟩ := slice_form Try.underlying42 h3
      obtain ⟨pu, nu, cu, e4⟩ := slice_form Try.underlying43 h4
      obtain ⟨pi, ni, ci, e5⟩ := slice_form Try.underlying44 h5
      obtain ⟨pg, ng, cg, e6⟩ := slice_form Try.underlying36 h6
      obtain ⟨nx, e7, _⟩ := read_int h7
      simp at e0 e1 e2 e3 e4 e5 e6 e7
      subst e0 e1 e2 e3 e4 e5 e6 e7
      exact ⟨⟨ep, t, po, no, co, pd, nd, cd, pu, nu, cu, pi, ni, ci, pg, ng, cg, nx⟩, rfl⟩
set_option maxRecDepth 100000 in
theorem read_rec {c : List Value} {x : DataW H × List MemPlace} (h : DataW.trod enc Try.prog W base spare held fuel 48 c = some x) : ∃ r : Rcd, c = [.int .i64 r.k, .int .i64 r.n, .int .i64 r.f, .slice r.pc r.nc r.cc, .int .i64 (r.b).s, .int .i64 (r.b).i, .int .i64 (r.b).g, .int .i64 (r.b).m, .int .i64 (r.b).x, .int .i64 (r.b).y, .int .i64 (r.b).vx, .int .i64 (r.b).vy, .int .i64 (r.b).hp, .int .i64 (r.b).pw, .int .i64 (r.b).lf, .slice r.pl r.nl r.cl, .int .i64 r.s.ep, .int .i64 r.s.t, .slice r.s.po r.s.no r.s.co, .slice r.s.pd r.s.nd r.s.cd, .slice r.s.pu r.s.nu r.s.cu, .slice r.s.pi r.s.ni r.s.ci, .slice r.s.pg r.s.ng r.s.cg, .int .i64 r.s.nx] ∧ ∃ l, BIn W (.slice r.pl r.nl r.cl) l := by
  obtain ⟨xs, n, _, _, hc, hl, hf⟩ := DataW.trod_struct Try.underlying48 h
  rw [cells_rec] at hc
  match c, hc with
  | [c0, c1, c2, c3, c4, c5, c6, c7, c8, c9, c10, c11, c12, c13, c14, c15, c16, c17, c18, c19, c20, c21, c22, c23], _ =>
    match xs, hl with
    | [x0, x1, x2, x3, x4, x5, x6], _ =>
      have h0 := hf 0 _ rfl
      have h1 := hf 1 _ rfl
      have h2 := hf 2 _ rfl
      have h3 := hf 3 _ rfl
      have h4 := hf 4 _ rfl
      have h5 := hf 5 _ rfl
      have h6 := hf 6 _ rfl
      simp [cells_int, cells_sl0, cells_sl5, cells_bun, cells_state] at h0 h1 h2 h3 h4 h5 h6
      obtain ⟨k, e0, _⟩ := read_int h0
      obtain ⟨n, e1, _⟩ := read_int h1
      obtain ⟨f, e2, _⟩ := read_int h2
      obtain ⟨pc, nc, cc, e3⟩ := slice_form Try.underlying37 h3
      obtain ⟨s', i', g', m', x', y', vx', vy', hp', pw', lf', e4, _⟩ := read_bun h4
      obtain ⟨pl, cl, l, e5, hb⟩ := buns_cells h5
      obtain ⟨s, e6⟩ := read_state h6
      simp at e0 e1 e2 e3 e4 e5 e6
      obtain ⟨y0, y1, y2, y3, y4, y5, y6, y7, y8, y9, y10⟩ := e4
      obtain ⟨z0, z1, z2, z3, z4, z5, z6, z7⟩ := e6
      subst e0 e1 e2 e3 e5 y0 y1 y2 y3 y4 y5 y6 y7 y8 y9 y10 z0 z1 z2 z3 z4 z5 z6 z7
      exact ⟨⟨k, n, f, pc, nc, cc, ⟨s', i', g', m', x', y', vx', vy', hp', pw', lf'⟩, pl, l.length, cl, s⟩, rfl, l, hb⟩
omit enc W base spare held fuel in
theorem cut34 (c : List Value) (h : c.length = 34) : c = (c.drop 0).take 7 ++ ((c.drop 7).take 1 ++ ((c.drop 8).take 1 ++ ((c.drop 9).take 1 ++ (c.drop 10).take 24))) := by
  have e4 : (c.drop 10).take 24 = c.drop 10 := List.take_of_length_le (by simp; omega)
  have s : ∀ k n, (c.drop k).take n ++ c.drop (k + n) = c.drop k := fun k n => by
    have := List.take_append_drop n (c.drop k)
    rwa [List.drop_drop] at this
  rw [e4, s 9 1, s 8 1, s 7 1, s 0 7]
  rfl
set_option maxRecDepth 100000 in
theorem read_case {c : List Value} {x : DataW H × List MemPlace} (h : DataW.trod enc Try.prog W base spare held fuel 50 c = some x) :
    ∃ (cols rows side radius speed ids queue z t : Int) (p : Option Addr) (cap : Nat) (L : List Gh) (r : Rcd), c = [.int .i64 cols, .int .i64 rows, .int .i64 side, .int .i64 radius, .int .i64 speed, .int .i64 ids, .int .i64 queue, .int .i64 z, .int .i64 t, .slice p L.length cap, .int .i64 r.k, .int .i64 r.n, .int .i64 r.f, .slice r.pc r.nc r.cc, .int .i64 (r.b).s, .int .i64 (r.b).i, .int .i64 (r.b).g, .int .i64 (r.b).m, .int .i64 (r.b).x, .int .i64 (r.b).y, .int .i64 (r.b).vx, .int .i64 (r.b).vy, .int .i64 (r.b).hp, .int .i64 (r.b).pw, .int .i64 (r.b).lf, .slice r.pl r.nl r.cl, .int .i64 r.s.ep, .int .i64 r.s.t, .slice r.s.po r.s.no r.s.co, .slice r.s.pd r.s.nd r.s.cd, .slice r.s.pu r.s.nu r.s.cu, .slice r.s.pi r.s.ni r.s.ci, .slice r.s.pg r.s.ng r.s.cg, .int .i64 r.s.nx] ∧ RIn ghL W (.slice p L.length cap) L ∧ (∀ g ∈ L, ∃ l, BIn W (.slice g.p g.n g.c) l) ∧ ∃ l, BIn W (.slice r.pl r.nl r.cl) l := by
  obtain ⟨xs, n, _, _, hc, hl, hf⟩ := DataW.trod_struct Try.underlying50 h
  rw [cells_case] at hc
  match xs, hl with
  | [x0, x1, x2, x3, x4], _ =>
    have h0 := hf 0 _ rfl
    have h1 := hf 1 _ rfl
    have h2 := hf 2 _ rfl
    have h3 := hf 3 _ rfl
    have h4 := hf 4 _ rfl
    simp only [List.getElem_toArray, List.getElem_cons_zero, List.getElem_cons_succ, cells_int, cells_cfg, cells_sl4, cells_rec] at h0 h1 h2 h3 h4
    obtain ⟨cols, rows, side, radius, speed, ids, queue, e0⟩ := read_cfg h0
    obtain ⟨z, e1, _⟩ := read_int h1
    obtain ⟨t, e2, _⟩ := read_int h2
    obtain ⟨p, cap, L, e3, hL, hg⟩ := ghosts_cells h3
    obtain ⟨r, e4, hr⟩ := read_rec h4
    refine ⟨cols, rows, side, radius, speed, ids, queue, z, t, p, cap, L, r, ?_, hL, hg, hr⟩
    rw [cut34 c hc, e0, e1, e2, e3, e4]
    rfl
end
end Go.Proofs.Ytcnclcfipabimaa
