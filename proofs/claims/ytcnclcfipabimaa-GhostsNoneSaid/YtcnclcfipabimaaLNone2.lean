/-
  GhostsNone: for every case and every entity the law returns true, and the arguments stay as they were. No condition.
-/
import Derived.Test.YtcnclcfipabimaaGhU
import Derived.Test.YtcnclcfipabimaaGhX
import Derived.Test.YtcnclcfipabimaaMgd
import Derived.Test.YtcnclcfipabimaaRdT
namespace Go.Proofs.Ytcnclcfipabimaa.ghostsNone
open Go.ChangeShapes Go.WideShapes Go.ChangeAt Go.RowKit

theorem lt5 {a W : Nat} (h : a < W) : (∀ n, a < W + n) ∧ (∀ n m, a < W + n + m) ∧ (∀ n m q, a < W + n + m + q) ∧ (∀ n m q r, a < W + n + m + q + r) ∧ (∀ n m q r s, a < W + n + m + q + r + s) := ⟨fun _ => by omega, fun _ _ => by omega, fun _ _ _ => by omega, fun _ _ _ _ => by omega, fun _ _ _ _ _ => by omega⟩
theorem same_zero (w : World) : Calls Try.prog 32 #[.agg #[.int .i64 0, .int .i64 0, .slice none 0 0, .slice none 0 0, .slice none 0 0, .slice none 0 0, .slice none 0 0, .int .i64 0], .agg #[.int .i64 0, .int .i64 0, .slice none 0 0, .slice none 0 0, .slice none 0 0, .slice none 0 0, .slice none 0 0, .int .i64 0]] w fun e w' => e = .returned (.bool true) ∧ Below w.heap.size w w' :=
  sameS_any 0 0 0 none none 0 0 0 0 [] [] w (rin_none w) (rin_none w) (alikeG_nil w)
theorem missing_nil (z t : Int) (p' : Option Addr) (n' c' : Nat) (L : List Gh) (W : World) (hL : RIn ghL W (.slice p' n' c') L) :
    Calls Try.prog 26 #[.pointer none, .int .i64 z, .agg #[.int .i64 0, .int .i64 t, .slice none 0 0, .slice none 0 0, .slice none 0 0, .slice none 0 0, .slice p' n' c', .int .i64 0]] W fun e w' => ∃ v', e = .returned v' ∧ RNew intL 3 1 W w' v' [] :=
  missing_of (.pointer none) z (⟨0, t, none, 0, 0, none, 0, 0, none, 0, 0, none, 0, 0, p', n', c', 0⟩ : Sta) L [] W ⟨_, rfl⟩ hL (fun W' _ => beside_nil W' z)
theorem fold_nil (z t : Int) (p' : Option Addr) (n' c' : Nat) (r : Rcd) (W : World) :
    Calls Try.prog 30 #[.pointer none, .int .i64 z, .agg #[.int .i64 0, .int .i64 t, .slice none 0 0, .slice none 0 0, .slice none 0 0, .slice none 0 0, .slice p' n' c', .int .i64 0], .agg #[.int .i64 r.k, .int .i64 r.n, .int .i64 r.f, .slice r.pc r.nc r.cc, .int .i64 (r.b).s, .int .i64 (r.b).i, .int .i64 (r.b).g, .int .i64 (r.b).m, .int .i64 (r.b).x, .int .i64 (r.b).y, .int .i64 (r.b).vx, .int .i64 (r.b).vy, .int .i64 (r.b).hp, .int .i64 (r.b).pw, .int .i64 (r.b).lf, .slice r.pl r.nl r.cl, .int .i64 r.s.ep, .int .i64 r.s.t, .slice r.s.po r.s.no r.s.co, .slice r.s.pd r.s.nd r.s.cd, .slice r.s.pu r.s.nu r.s.cu, .slice r.s.pi r.s.ni r.s.ci, .slice r.s.pg r.s.ng r.s.cg, .int .i64 r.s.nx]] W fun e w' => e = .returned (.tuple #[.agg #[.int .i64 0, .int .i64 0, .slice none 0 0, .slice none 0 0, .slice none 0 0, .slice none 0 0, .slice none 0 0, .int .i64 0], .int .i64 14]) ∧ Below W.heap.size W w' :=
  fold_no none z (⟨0, t, none, 0, 0, none, 0, 0, none, 0, 0, none, 0, 0, p', n', c', 0⟩ : Sta) r W (.inl rfl)

/-- What stands ahead of the law's last statement. -/
structure Mid (w wx : World) (n5 n6 : Nat) (z t s i g m x y vx vy hp pw lf : Int) (p' : Option Addr) (n' c' : Nat) (L : List Gh) : Prop where
  hw : Below w.heap.size w wx
  s1 : w.heap.size < wx.heap.size
  s2 : w.heap.size + 1 < wx.heap.size
  s5 : n5 < wx.heap.size
  s6 : n6 < wx.heap.size
  k7 : wx.cell? ⟨w.heap.size, 7, none⟩ = some (.int .i64 z)
  kb : ∀ j, wx.cell? ⟨w.heap.size + 1, j, none⟩ = (#[.int .i64 s, .int .i64 i, .int .i64 g, .int .i64 m, .int .i64 x, .int .i64 y, .int .i64 vx, .int .i64 vy, .int .i64 hp, .int .i64 pw, .int .i64 lf] : Array Value)[j]?
  k5 : ∀ j, wx.cell? ⟨n5, j, none⟩ = (#[.int .i64 0, .int .i64 t, .slice none 0 0, .slice none 0 0, .slice none 0 0, .slice none 0 0, .slice p' n' c', .int .i64 0] : Array Value)[j]?
  k6 : ∀ j, wx.cell? ⟨n6, j, none⟩ = (#[.int .i64 0, .int .i64 0, .slice none 0 0, .slice none 0 0, .slice none 0 0, .slice none 0 0, .slice none 0 0, .int .i64 0] : Array Value)[j]?
  hr : RIn ghL wx (.slice p' n' c') (cutL L)
theorem mid_of {w w1 : World} {z t s i g m x y vx vy hp pw lf : Int} {p' : Option Addr} {n' c' : Nat} {L : List Gh} (hw : Below w.heap.size w w1) (s1 : w.heap.size < w1.heap.size) (s2 : w.heap.size + 1 < w1.heap.size) (k7 : w1.cell? ⟨w.heap.size, 7, none⟩ = some (.int .i64 z))
    (kb : ∀ j, w1.cell? ⟨w.heap.size + 1, j, none⟩ = (#[.int .i64 s, .int .i64 i, .int .i64 g, .int .i64 m, .int .i64 x, .int .i64 y, .int .i64 vx, .int .i64 vy, .int .i64 hp, .int .i64 pw, .int .i64 lf] : Array Value)[j]?) (hr : RIn ghL w1 (.slice p' n' c') (cutL L)) (d1 : Nat) (os1 : Array Obj) :
    Mid w ((more (w1.alloc (.cells #[.int .i64 0, .int .i64 t, .slice none 0 0, .slice none 0 0, .slice none 0 0, .slice none 0 0, .slice p' n' c', .int .i64 0] 46)) d1 os1).alloc (.cells #[.int .i64 0, .int .i64 0, .slice none 0 0, .slice none 0 0, .slice none 0 0, .slice none 0 0, .slice none 0 0, .int .i64 0] 46)) w1.heap.size (w1.heap.size + 1 + os1.size) z t s i g m x y vx vy hp pw lf p' n' c' L := by
  generalize hw2 : World.alloc (more _ _ _) _ = w2
  have hb2 : Below w1.heap.size w1 w2 := by rw [← hw2]; exact (by repeat' (first | (with_reducible exact Below.refl _ _) | (with_reducible assumption) | (with_reducible refine below_drewN ?_ _) | (with_reducible refine below_more _ _ _ ?_ ?_) | (with_reducible refine Below.alloc ?_ ?_ _) | (with_reducible refine Below.drew ?_) | (with_reducible refine Below.setCell ?_ ?_ _) | go_size))
  have s5 : w1.heap.size < w2.heap.size := by rw [← hw2]; simp; omega
  refine ⟨hw.trans (hb2.mono hw.size), by omega, by omega, s5, by rw [← hw2]; simp, (hb2.cell (p := ⟨w.heap.size, 7, none⟩) s1).trans k7, fun j => (hb2.cell (p := ⟨w.heap.size + 1, j, none⟩) s2).trans (kb j), fun u => ?_, fun u => ?_, hr.keep hb2⟩
  · rw [← hw2, Below.cell (B := w1.heap.size + 1) (w := w1.alloc (.cells #[.int .i64 0, .int .i64 t, .slice none 0 0, .slice none 0 0, .slice none 0 0, .slice none 0 0, .slice p' n' c', .int .i64 0] 46)) (by repeat' (first | (with_reducible exact Below.refl _ _) | (with_reducible assumption) | (with_reducible refine below_drewN ?_ _) | (with_reducible refine below_more _ _ _ ?_ ?_) | (with_reducible refine Below.alloc ?_ ?_ _) | (with_reducible refine Below.drew ?_) | (with_reducible refine Below.setCell ?_ ?_ _) | go_size)) (by simp)]; simp
  · rw [← hw2]; exact alloc_cells _ _ _ _ _ (by simp)
attribute [local go_sem ↓] loadVar_ldC loadVar_ldR
set_option maxRecDepth 100000 in
set_option maxHeartbeats 4000000 in
theorem walk (cols rows side radius speed ids queue z t : Int) (p : Option Addr) (cap : Nat) (r : Rcd) (L : List Gh) (s i g m x y vx vy hp pw lf : Int) (w : World) (hL : RIn ghL w (.slice p L.length cap) L) (hO : ∀ g ∈ L, ∃ l, BIn w (.slice g.p g.n g.c) l) :
    Calls Try.prog 9 #[.agg #[.int .i64 cols, .int .i64 rows, .int .i64 side, .int .i64 radius, .int .i64 speed, .int .i64 ids, .int .i64 queue, .int .i64 z, .int .i64 t, .slice p L.length cap, .int .i64 r.k, .int .i64 r.n, .int .i64 r.f, .slice r.pc r.nc r.cc, .int .i64 (r.b).s, .int .i64 (r.b).i, .int .i64 (r.b).g, .int .i64 (r.b).m, .int .i64 (r.b).x, .int .i64 (r.b).y, .int .i64 (r.b).vx, .int .i64 (r.b).vy, .int .i64 (r.b).hp, .int .i64 (r.b).pw, .int .i64 (r.b).lf, .slice r.pl r.nl r.cl, .int .i64 r.s.ep, .int .i64 r.s.t, .slice r.s.po r.s.no r.s.co, .slice r.s.pd r.s.nd r.s.cd, .slice r.s.pu r.s.nu r.s.cu, .slice r.s.pi r.s.ni r.s.ci, .slice r.s.pg r.s.ng r.s.cg, .int .i64 r.s.nx], .agg #[.int .i64 s, .int .i64 i, .int .i64 g, .int .i64 m, .int .i64 x, .int .i64 y, .int .i64 vx, .int .i64 vy, .int .i64 hp, .int .i64 pw, .int .i64 lf]] w fun e w' => e = .returned (.bool true) ∧ Below w.heap.size w w' := by
  have HST := Lib.hid (fun W (hW : Below w.heap.size w W) => state_any cols rows side radius speed ids queue z t p cap r L W (hL.keep hW) (fun g hg => let ⟨l, hl⟩ := hO g hg; ⟨l, hl.keep hW⟩))
  have hld : (ldC ⟨w.heap.size, 0, none⟩).run Try.prog ((w.alloc (.cells #[.int .i64 cols, .int .i64 rows, .int .i64 side, .int .i64 radius, .int .i64 speed, .int .i64 ids, .int .i64 queue, .int .i64 z, .int .i64 t, .slice p L.length cap, .int .i64 r.k, .int .i64 r.n, .int .i64 r.f, .slice r.pc r.nc r.cc, .int .i64 (r.b).s, .int .i64 (r.b).i, .int .i64 (r.b).g, .int .i64 (r.b).m, .int .i64 (r.b).x, .int .i64 (r.b).y, .int .i64 (r.b).vx, .int .i64 (r.b).vy, .int .i64 (r.b).hp, .int .i64 (r.b).pw, .int .i64 (r.b).lf, .slice r.pl r.nl r.cl, .int .i64 r.s.ep, .int .i64 r.s.t, .slice r.s.po r.s.no r.s.co, .slice r.s.pd r.s.nd r.s.cd, .slice r.s.pu r.s.nu r.s.cu, .slice r.s.pi r.s.ni r.s.ci, .slice r.s.pg r.s.ng r.s.cg, .int .i64 r.s.nx] 50)).alloc (.cells #[.int .i64 s, .int .i64 i, .int .i64 g, .int .i64 m, .int .i64 x, .int .i64 y, .int .i64 vx, .int .i64 vy, .int .i64 hp, .int .i64 pw, .int .i64 lf] 41)) = .ok (.agg #[.int .i64 cols, .int .i64 rows, .int .i64 side, .int .i64 radius, .int .i64 speed, .int .i64 ids, .int .i64 queue, .int .i64 z, .int .i64 t, .slice p L.length cap, .int .i64 r.k, .int .i64 r.n, .int .i64 r.f, .slice r.pc r.nc r.cc, .int .i64 (r.b).s, .int .i64 (r.b).i, .int .i64 (r.b).g, .int .i64 (r.b).m, .int .i64 (r.b).x, .int .i64 (r.b).y, .int .i64 (r.b).vx, .int .i64 (r.b).vy, .int .i64 (r.b).hp, .int .i64 (r.b).pw, .int .i64 (r.b).lf, .slice r.pl r.nl r.cl, .int .i64 r.s.ep, .int .i64 r.s.t, .slice r.s.po r.s.no r.s.co, .slice r.s.pd r.s.nd r.s.cd, .slice r.s.pu r.s.nu r.s.cu, .slice r.s.pi r.s.ni r.s.ci, .slice r.s.pg r.s.ng r.s.cg, .int .i64 r.s.nx]) ((w.alloc (.cells #[.int .i64 cols, .int .i64 rows, .int .i64 side, .int .i64 radius, .int .i64 speed, .int .i64 ids, .int .i64 queue, .int .i64 z, .int .i64 t, .slice p L.length cap, .int .i64 r.k, .int .i64 r.n, .int .i64 r.f, .slice r.pc r.nc r.cc, .int .i64 (r.b).s, .int .i64 (r.b).i, .int .i64 (r.b).g, .int .i64 (r.b).m, .int .i64 (r.b).x, .int .i64 (r.b).y, .int .i64 (r.b).vx, .int .i64 (r.b).vy, .int .i64 (r.b).hp, .int .i64 (r.b).pw, .int .i64 (r.b).lf, .slice r.pl r.nl r.cl, .int .i64 r.s.ep, .int .i64 r.s.t, .slice r.s.po r.s.no r.s.co, .slice r.s.pd r.s.nd r.s.cd, .slice r.s.pu r.s.nu r.s.cu, .slice r.s.pi r.s.ni r.s.ci, .slice r.s.pg r.s.ng r.s.cg, .int .i64 r.s.nx] 50)).alloc (.cells #[.int .i64 s, .int .i64 i, .int .i64 g, .int .i64 m, .int .i64 x, .int .i64 y, .int .i64 vx, .int .i64 vy, .int .i64 hp, .int .i64 pw, .int .i64 lf] 41)) :=
    ldC_of [.int .i64 cols, .int .i64 rows, .int .i64 side, .int .i64 radius, .int .i64 speed, .int .i64 ids, .int .i64 queue, .int .i64 z, .int .i64 t, .slice p L.length cap, .int .i64 r.k, .int .i64 r.n, .int .i64 r.f, .slice r.pc r.nc r.cc, .int .i64 (r.b).s, .int .i64 (r.b).i, .int .i64 (r.b).g, .int .i64 (r.b).m, .int .i64 (r.b).x, .int .i64 (r.b).y, .int .i64 (r.b).vx, .int .i64 (r.b).vy, .int .i64 (r.b).hp, .int .i64 (r.b).pw, .int .i64 (r.b).lf, .slice r.pl r.nl r.cl, .int .i64 r.s.ep, .int .i64 r.s.t, .slice r.s.po r.s.no r.s.co, .slice r.s.pd r.s.nd r.s.cd, .slice r.s.pu r.s.nu r.s.cu, .slice r.s.pi r.s.ni r.s.ci, .slice r.s.pg r.s.ng r.s.cg, .int .i64 r.s.nx] rfl (fun j v hj => by rw [Below.cell (B := w.heap.size + 1) (w := w.alloc (.cells #[.int .i64 cols, .int .i64 rows, .int .i64 side, .int .i64 radius, .int .i64 speed, .int .i64 ids, .int .i64 queue, .int .i64 z, .int .i64 t, .slice p L.length cap, .int .i64 r.k, .int .i64 r.n, .int .i64 r.f, .slice r.pc r.nc r.cc, .int .i64 (r.b).s, .int .i64 (r.b).i, .int .i64 (r.b).g, .int .i64 (r.b).m, .int .i64 (r.b).x, .int .i64 (r.b).y, .int .i64 (r.b).vx, .int .i64 (r.b).vy, .int .i64 (r.b).hp, .int .i64 (r.b).pw, .int .i64 (r.b).lf, .slice r.pl r.nl r.cl, .int .i64 r.s.ep, .int .i64 r.s.t, .slice r.s.po r.s.no r.s.co, .slice r.s.pd r.s.nd r.s.cd, .slice r.s.pu r.s.nu r.s.cu, .slice r.s.pi r.s.ni r.s.ci, .slice r.s.pg r.s.ng r.s.cg, .int .i64 r.s.nx] 50)) (by repeat' (first | (with_reducible exact Below.refl _ _) | (with_reducible assumption) | (with_reducible refine below_drewN ?_ _) | (with_reducible refine below_more _ _ _ ?_ ?_) | (with_reducible refine Below.alloc ?_ ?_ _) | (with_reducible refine Below.drew ?_) | (with_reducible refine Below.setCell ?_ ?_ _) | go_size)) (by simp), alloc_cells _ _ _ _ _ rfl, Nat.zero_add]; simpa using hj)
  clear hL hO
  go_enter Try.func9, Try.ntmps9
  go_wp2_with fail
  refine (HST.out _ (by repeat' (first | (with_reducible exact Below.refl _ _) | (with_reducible assumption) | (with_reducible refine below_drewN ?_ _) | (with_reducible refine below_more _ _ _ ?_ ?_) | (with_reducible refine Below.alloc ?_ ?_ _) | (with_reducible refine Below.drew ?_) | (with_reducible refine Below.setCell ?_ ?_ _) | go_size))).mono ?_
  rintro e w1 ⟨p', n', c', rfl, hR⟩
  clear hld
  have hb1 := hR.2.1
  have z1 := hb1.size
  simp at z1
  have kc : ∀ j, w1.cell? ⟨w.heap.size, j, none⟩ = (#[.int .i64 cols, .int .i64 rows, .int .i64 side, .int .i64 radius, .int .i64 speed, .int .i64 ids, .int .i64 queue, .int .i64 z, .int .i64 t, .slice p L.length cap, .int .i64 r.k, .int .i64 r.n, .int .i64 r.f, .slice r.pc r.nc r.cc, .int .i64 (r.b).s, .int .i64 (r.b).i, .int .i64 (r.b).g, .int .i64 (r.b).m, .int .i64 (r.b).x, .int .i64 (r.b).y, .int .i64 (r.b).vx, .int .i64 (r.b).vy, .int .i64 (r.b).hp, .int .i64 (r.b).pw, .int .i64 (r.b).lf, .slice r.pl r.nl r.cl, .int .i64 r.s.ep, .int .i64 r.s.t, .slice r.s.po r.s.no r.s.co, .slice r.s.pd r.s.nd r.s.cd, .slice r.s.pu r.s.nu r.s.cu, .slice r.s.pi r.s.ni r.s.ci, .slice r.s.pg r.s.ng r.s.cg, .int .i64 r.s.nx] : Array Value)[j]? := fun j => by rw [hb1.cell (by first | (simp; done) | (simp; omega))]; simp [go_sem]
  have kb : ∀ j, w1.cell? ⟨w.heap.size + 1, j, none⟩ = (#[.int .i64 s, .int .i64 i, .int .i64 g, .int .i64 m, .int .i64 x, .int .i64 y, .int .i64 vx, .int .i64 vy, .int .i64 hp, .int .i64 pw, .int .i64 lf] : Array Value)[j]? := fun j => by rw [hb1.cell (by first | (simp; done) | (simp; omega))]; simp [go_sem]
  have s1 : w.heap.size < w1.heap.size := by omega
  have s2 : w.heap.size + 1 < w1.heap.size := by omega
  have x7 := kc 7
  simp at x7
  have hlr : (ldR ⟨w.heap.size, 10, none⟩).run Try.prog (w1.alloc (.cells #[.int .i64 0, .int .i64 t, .slice none 0 0, .slice none 0 0, .slice none 0 0, .slice none 0 0, .slice p' n' c', .int .i64 0] 46)) = .ok (.agg #[.int .i64 r.k, .int .i64 r.n, .int .i64 r.f, .slice r.pc r.nc r.cc, .int .i64 (r.b).s, .int .i64 (r.b).i, .int .i64 (r.b).g, .int .i64 (r.b).m, .int .i64 (r.b).x, .int .i64 (r.b).y, .int .i64 (r.b).vx, .int .i64 (r.b).vy, .int .i64 (r.b).hp, .int .i64 (r.b).pw, .int .i64 (r.b).lf, .slice r.pl r.nl r.cl, .int .i64 r.s.ep, .int .i64 r.s.t, .slice r.s.po r.s.no r.s.co, .slice r.s.pd r.s.nd r.s.cd, .slice r.s.pu r.s.nu r.s.cu, .slice r.s.pi r.s.ni r.s.ci, .slice r.s.pg r.s.ng r.s.cg, .int .i64 r.s.nx]) (w1.alloc (.cells #[.int .i64 0, .int .i64 t, .slice none 0 0, .slice none 0 0, .slice none 0 0, .slice none 0 0, .slice p' n' c', .int .i64 0] 46)) :=
    ldR_of [.int .i64 r.k, .int .i64 r.n, .int .i64 r.f, .slice r.pc r.nc r.cc, .int .i64 (r.b).s, .int .i64 (r.b).i, .int .i64 (r.b).g, .int .i64 (r.b).m, .int .i64 (r.b).x, .int .i64 (r.b).y, .int .i64 (r.b).vx, .int .i64 (r.b).vy, .int .i64 (r.b).hp, .int .i64 (r.b).pw, .int .i64 (r.b).lf, .slice r.pl r.nl r.cl, .int .i64 r.s.ep, .int .i64 r.s.t, .slice r.s.po r.s.no r.s.co, .slice r.s.pd r.s.nd r.s.cd, .slice r.s.pu r.s.nu r.s.cu, .slice r.s.pi r.s.ni r.s.ci, .slice r.s.pg r.s.ng r.s.cg, .int .i64 r.s.nx] rfl (fun j v hj => by
      rw [Below.cell (B := w1.heap.size) (w := w1) (by repeat' (first | (with_reducible exact Below.refl _ _) | (with_reducible assumption) | (with_reducible refine below_drewN ?_ _) | (with_reducible refine below_more _ _ _ ?_ ?_) | (with_reducible refine Below.alloc ?_ ?_ _) | (with_reducible refine Below.drew ?_) | (with_reducible refine Below.setCell ?_ ?_ _) | go_size)) s1, kc (10 + j), Nat.add_comm 10 j]
      simp only [List.getElem?_toArray, List.getElem?_cons_succ]
      exact hj)
  have HW1 := Lib.hid (Below.trans (Below.mono (B := w.heap.size) (by repeat' (first | (with_reducible exact Below.refl _ _) | (with_reducible assumption) | (with_reducible refine below_drewN ?_ _) | (with_reducible refine below_more _ _ _ ?_ ?_) | (with_reducible refine Below.alloc ?_ ?_ _) | (with_reducible refine Below.drew ?_) | (with_reducible refine Below.setCell ?_ ?_ _) | go_size)) (Nat.le_refl _)) (hb1.mono (by simp; omega)) : Below w.heap.size w w1)
  have HR := Lib.hid hR.rin
  have KB := Lib.hid kb
  obtain ⟨a0, a1, a2⟩ := ltz s1
  obtain ⟨b0, b1, b2⟩ := ltz s2
  clear hR hb1 kc kb HST z1
  generalize Value.agg #[.int .i64 cols, .int .i64 rows, .int .i64 side, .int .i64 radius, .int .i64 speed, .int .i64 ids, .int .i64 queue, .int .i64 z, .int .i64 t, .slice p L.length cap, .int .i64 r.k, .int .i64 r.n, .int .i64 r.f, .slice r.pc r.nc r.cc, .int .i64 (r.b).s, .int .i64 (r.b).i, .int .i64 (r.b).g, .int .i64 (r.b).m, .int .i64 (r.b).x, .int .i64 (r.b).y, .int .i64 (r.b).vx, .int .i64 (r.b).vy, .int .i64 (r.b).hp, .int .i64 (r.b).pw, .int .i64 (r.b).lf, .slice r.pl r.nl r.cl, .int .i64 r.s.ep, .int .i64 r.s.t, .slice r.s.po r.s.no r.s.co, .slice r.s.pd r.s.nd r.s.cd, .slice r.s.pu r.s.nu r.s.cu, .slice r.s.pi r.s.ni r.s.ci, .slice r.s.pg r.s.ng r.s.cg, .int .i64 r.s.nx] = cv
  go_upto_region 2 with fail
  go_cut [2, 3, 5, 6, 7] (fun a b c d e wx => ∃ n5 n6, (a = .pointer (some ⟨w.heap.size, 0, none⟩) ∧ b = .pointer (some ⟨w.heap.size + 1, 0, none⟩) ∧ c = .pointer (some ⟨n5, 0, none⟩) ∧ d = .pointer (some ⟨n6, 0, none⟩) ∧ e = .int .i64 14) ∧ Hid (Mid w wx n5 n6 z t s i g m x y vx vy hp pw lf p' n' c' L))
  case first =>
    go_wp2_with fail
    refine (fold_nil z t p' n' c' r _).mono ?_; rintro e w' ⟨rfl, hb⟩; obtain ⟨d1, os1, rfl⟩ := more_of hb; clear hb hlr
    generalize Value.agg #[.int .i64 r.k, .int .i64 r.n, .int .i64 r.f, .slice r.pc r.nc r.cc, .int .i64 (r.b).s, .int .i64 (r.b).i, .int .i64 (r.b).g, .int .i64 (r.b).m, .int .i64 (r.b).x, .int .i64 (r.b).y, .int .i64 (r.b).vx, .int .i64 (r.b).vy, .int .i64 (r.b).hp, .int .i64 (r.b).pw, .int .i64 (r.b).lf, .slice r.pl r.nl r.cl, .int .i64 r.s.ep, .int .i64 r.s.t, .slice r.s.po r.s.no r.s.co, .slice r.s.pd r.s.nd r.s.cd, .slice r.s.pu r.s.nu r.s.cu, .slice r.s.pi r.s.ni r.s.ci, .slice r.s.pg r.s.ng r.s.cg, .int .i64 r.s.nx] = rv
    go_wp2_with fail
    go_meet
    exact ⟨_, _, ⟨rfl, rfl, rfl, rfl, rfl⟩, Lib.hid (mid_of HW1.out s1 s2 x7 KB.out HR.out d1 os1)⟩
  obtain ⟨n5, n6, ⟨rfl, rfl, rfl, rfl, rfl⟩, HM⟩ := hcut
  obtain ⟨w2, rfl⟩ : ∃ w2 : World, w2 = wc := ⟨_, rfl⟩
  clear HW1 HR KB a0 a1 a2 b0 b1 b2 s1 s2 x7 hlr
  have q7 := HM.out.k7
  have u0 := HM.out.kb 0; simp at u0; have u1 := HM.out.kb 1; simp at u1; have u2 := HM.out.kb 2; simp at u2; have u3 := HM.out.kb 3; simp at u3; have u4 := HM.out.kb 4; simp at u4; have u5 := HM.out.kb 5; simp at u5; have u6 := HM.out.kb 6; simp at u6; have u7 := HM.out.kb 7; simp at u7; have u8 := HM.out.kb 8; simp at u8; have u9 := HM.out.kb 9; simp at u9; have u10 := HM.out.kb 10; simp at u10
  have v0 := HM.out.k5 0; simp at v0; have v1 := HM.out.k5 1; simp at v1; have v2 := HM.out.k5 2; simp at v2; have v3 := HM.out.k5 3; simp at v3; have v4 := HM.out.k5 4; simp at v4; have v5 := HM.out.k5 5; simp at v5; have v6 := HM.out.k5 6; simp at v6; have v7 := HM.out.k5 7; simp at v7
  have t0 := HM.out.k6 0; simp at t0; have t1 := HM.out.k6 1; simp at t1; have t2 := HM.out.k6 2; simp at t2; have t3 := HM.out.k6 3; simp at t3; have t4 := HM.out.k6 4; simp at t4; have t5 := HM.out.k6 5; simp at t5; have t6 := HM.out.k6 6; simp at t6; have t7 := HM.out.k6 7; simp at t7
  have HMI := Lib.hid (fun W (hW : Below w2.heap.size w2 W) => missing_nil z t p' n' c' (cutL L) W (HM.out.hr.keep hW))
  have s5 := HM.out.s5
  have s6 := HM.out.s6
  have s1' := HM.out.s1
  have s2' := HM.out.s2
  obtain ⟨a0, a1, a2, a3, a4⟩ := lt5 s5
  obtain ⟨b0, b1, b2, b3, b4⟩ := lt5 s6
  obtain ⟨c0, c1, c2, c3, c4⟩ := lt5 s1'
  go_wp2_with fail
  refine (for_nil _ _ _).mono ?_; rintro e w' ⟨v1, rfl, hF⟩; obtain ⟨pf, cf, rfl⟩ := sl_frm hF.1; have hb := hF.2.1; clear hF; obtain ⟨e1, os1, rfl⟩ := more_of hb; clear hb
  go_wp2_with fail
  refine (HMI.out _ (by repeat' (first | (with_reducible exact Below.refl _ _) | (with_reducible assumption) | (with_reducible refine below_drewN ?_ _) | (with_reducible refine below_more _ _ _ ?_ ?_) | (with_reducible refine Below.alloc ?_ ?_ _) | (with_reducible refine Below.drew ?_) | (with_reducible refine Below.setCell ?_ ?_ _) | go_size))).mono ?_; rintro e w' ⟨v2, rfl, hM⟩; obtain ⟨pm, cm, rfl⟩ := sl_frm hM.1; have hb := hM.2.1; clear hM; obtain ⟨e2, os2, rfl⟩ := more_of hb; clear hb
  go_wp2_with fail
  refine (same_zero _).mono ?_; rintro e w' ⟨rfl, hb⟩; obtain ⟨e3, os3, rfl⟩ := more_of hb; clear hb
  go_wp2_with (go_at_call 23; refine (awake22 _).mono ?_; rintro e w' ⟨rfl, hb⟩; obtain ⟨d, os, rfl⟩ := more_of hb; clear hb)
  go_ret
  exact ⟨rfl, HM.out.hw.trans (Below.mono (B := w2.heap.size) (by repeat' (first | (with_reducible exact Below.refl _ _) | (with_reducible assumption) | (with_reducible refine below_drewN ?_ _) | (with_reducible refine below_more _ _ _ ?_ ?_) | (with_reducible refine Below.alloc ?_ ?_ _) | (with_reducible refine Below.drew ?_) | (with_reducible refine Below.setCell ?_ ?_ _) | go_size)) HM.out.hw.size)⟩

set_option maxRecDepth 100000 in
theorem lifted (os : Os) (started : os.Started) (H : Type) (enc : TypeId × Value → H) :
    ReturnsInHanded {} Try.checked os 9 .any (Rows.ghostsNoneSpec.pre6 enc Try.prog Try.f9 Rows.ghostsNoneRow.domain false) (Rows.ghostsNoneSpec.post enc Try.prog Try.f9 false true false false) := by
  refine returnsInHanded_of_change (C := Try.checked) ownKnob0 started (by kernel_rfl) Try.func9
    (ChangeSpec.witness6 (enc := enc) (C := Try.checked) false ⟨#[], #[.agg #[.int .i64 0, .int .i64 0, .int .i64 0, .int .i64 0, .int .i64 0, .int .i64 0, .int .i64 0, .int .i64 0, .int .i64 0, .slice none 0 0, .int .i64 0, .int .i64 0, .int .i64 0, .slice none 0 0, .int .i64 0, .int .i64 0, .int .i64 0, .int .i64 0, .int .i64 0, .int .i64 0, .int .i64 0, .int .i64 0, .int .i64 0, .int .i64 0, .int .i64 0, .slice none 0 0, .int .i64 0, .int .i64 0, .slice none 0 0, .slice none 0 0, .slice none 0 0, .slice none 0 0, .slice none 0 0, .int .i64 0], .agg #[.int .i64 0, .int .i64 0, .int .i64 0, .int .i64 0, .int .i64 0, .int .i64 0, .int .i64 0, .int .i64 0, .int .i64 0, .int .i64 0, .int .i64 0]], []⟩ 8 (by kernel_rfl) (by kernel_rfl) (by kernel_rfl) (by kernel_rfl)) ?_
  intro W base args ds gs before hval0 hW _ _
  have hval : ∀ (j : Nat) t v, Try.f9.params[j]? = some t → args[j]? = some v → Value.okWide Try.prog W .any base t v := hval0
  have hread : ∀ t ∈ Try.f9.params.toList, Try.prog.readableRec t = true ∧ t < Try.prog.types.size := by
    rw [Try.params9]
    intro t ht
    simp only [List.mem_cons, List.not_mem_nil, or_false] at ht
    rcases ht with rfl | rfl
    all_goals exact ⟨by kernel_rfl, of_decide_eq_true (by kernel_rfl)⟩
  have hW' := hW
  obtain ⟨p, q, hA0, hV, -, -⟩ := hW'
  have hA : DataW.TrodAll enc Try.prog W 0 (fun _ => true) true Try.f9.params.toList args.toList ds p := hA0
  rw [Try.params9] at hA hval
  obtain ⟨v0, vs0, d0, ds0, p0, q0, hargs, rfl, rfl, h0, r0⟩ := trodAll_cons hA
  obtain ⟨v1, vs1, d1, ds1, p1, q1, rfl, rfl, rfl, h1, r1⟩ := trodAll_cons r0
  obtain ⟨rfl, rfl, rfl⟩ := trodAll_nil r1
  obtain rfl : args = #[v0, v1] := by cases args; simp_all
  obtain ⟨rfl, rfl⟩ := trodVars_none hV
  have k0 := hval 0 50 v0 rfl rfl
  have k1 := hval 1 41 v1 rfl rfl
  clear hval hval0 hA0 hV hA
  obtain ⟨cc, fuel0, rfl, g0⟩ := agg_of Try.underlying50 k0 h0
  obtain ⟨zcols, zrows, zside, zradius, zspeed, zids, zqueue, zz, tt, pp, cp, L, r, e0, hL, hO, _⟩ := read_case g0
  subst e0
  obtain ⟨c1, fuel1, rfl, g1⟩ := agg_of Try.underlying41 k1 h1
  obtain ⟨s, i, g, m, x, y, vx, vy, hp, pw, lf, rfl, is, ii, ig, im, ix, iy, ivx, ivy, ihp, ipw, ilf⟩ := read_bun g1
  exact (walk _ _ _ _ _ _ _ _ _ _ _ r L _ _ _ _ _ _ _ _ _ _ _ W hL hO).mono fun e W' ⟨he, hb⟩ => ⟨_, he, post_true rfl rfl hread rfl hW hb⟩

/-- GhostsNone: true for every input; the arguments stay. -/
theorem proved : Rows.GhostsNoneSaid :=
  OpenClaim.holds_of_wide 9 Try.f9 rfl rfl rfl rfl rfl rfl rfl ⟨rfl, rfl, rfl, rfl, rfl⟩ rfl rfl rfl rfl rfl (by kernel_rfl) Try.func9 (by kernel_rfl)
    (of_decide_eq_true (by kernel_rfl)) (by unfold Func.isWrapper; first | (rw [if_pos (by decide +kernel)]; kernel_rfl) | (rw [if_neg (by decide +kernel)]; exact ⟨rfl, rfl⟩))
    (fun os started H enc _ => lifted os started H enc)
end Go.Proofs.Ytcnclcfipabimaa.ghostsNone
