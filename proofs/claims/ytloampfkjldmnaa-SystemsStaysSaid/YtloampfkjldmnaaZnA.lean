/-
  Package zones: Of, Count, Beside. Condition: the world may be.
-/
import Derived.Test.YtloampfkjldmnaaRcA
import Derived.Test.YtloampfkjldmnaaSyC
namespace Go.Proofs.Ytloampfkjldmnaa
open Go.RowKit

theorem ltz {a W : Nat} (h : a < W) : (∀ n, a < W + n) ∧ (∀ n m, a < W + n + m) ∧ (∀ n m q, a < W + n + m + q) := ⟨fun _ => by omega, fun _ _ => by omega, fun _ _ _ => by omega⟩
/-- The zone of a point; -1 outside of the world. -/
def inW (c : Cfg) (x y : Int) : Bool := decide (0 ≤ x ∧ x < c.cols * c.side ∧ 0 ≤ y ∧ y < c.rows * c.side)
def ofF (c : Cfg) (x y : Int) : Int := if inW c x y then y / c.side * c.cols + x / c.side else -1

theorem div_rng {x n s : Int} (h0 : 0 ≤ x) (h1 : x < n * s) (hs : 0 < s) : 0 ≤ x / s ∧ x / s < n := ⟨Int.ediv_nonneg h0 (by omega), Int.ediv_lt_of_lt_mul hs h1⟩

set_option maxRecDepth 100000 in
set_option maxHeartbeats 1000000 in
theorem zof_any (w : World) (b : Nat) (c : Cfg) (x y : Int) (h : MapAt w b c) (ho : CfgOk c) :
    Calls Try.prog 28 #[.pointer (some ⟨b, 0, none⟩), .int .i64 x, .int .i64 y] w fun e w' => e = .returned (.int .i64 (ofF c x y)) ∧ Below w.heap.size w w' := by
  obtain ⟨p1, p2, p3, p4⟩ := ho.prod
  have hb := (Array.getElem?_eq_some_iff.1 h).1
  have hg := gapF_world (c.cols * c.side) (c.rows * c.side) x y (by omega) (by omega) (by omega) (by omega)
  have h0 := h.cell 0; have h2 := h.cell 2; have h7 := h.cell 7; have h8 := h.cell 8; have h9 := h.cell 9; have h10 := h.cell 10
  simp only [List.getElem?_toArray, List.getElem?_cons_succ, List.getElem?_cons_zero] at h0 h2 h7 h8 h9 h10
  have HH := Lib.hid (fun W => rhas_any 0 0 (c.cols * c.side) (c.rows * c.side) x y W)
  have s0 := ho.s0
  have s1 := ho.s1
  have k0 := ho.c0
  have k1 := ho.c1
  have r1 := ho.r1
  unfold ofF
  unfold inW
  rw [hg] at HH
  obtain ⟨z0, z1, z2⟩ := ltz hb
  by_cases hw : 0 ≤ x ∧ x < c.cols * c.side ∧ 0 ≤ y ∧ y < c.rows * c.side
  · have hd : decide (0 ≤ x ∧ x < c.cols * c.side ∧ 0 ≤ y ∧ y < c.rows * c.side) = true := decide_eq_true hw
    rw [hd] at HH ⊢
    rw [if_pos rfl]
    obtain ⟨x0, x1, y0, y1⟩ := hw
    obtain ⟨dx0, dx1⟩ := div_rng x0 x1 (by omega)
    obtain ⟨dy0, dy1⟩ := div_rng y0 y1 (by omega)
    have ey : Int.tdiv y c.side = y / c.side := Int.tdiv_eq_ediv_of_nonneg y0
    have ex : Int.tdiv x c.side = x / c.side := Int.tdiv_eq_ediv_of_nonneg x0
    have hm0 : 0 ≤ y / c.side * c.cols := Int.mul_nonneg dy0 (by omega)
    have hm1 : y / c.side * c.cols ≤ 3 * 4 := Int.mul_le_mul (by omega) k1 (by omega) (by omega)
    clear hd hg h ho
    generalize hcs : c.cols * c.side = cs at *
    generalize hrs : c.rows * c.side = rs at *
    generalize y / c.side = qy at *
    generalize x / c.side = qx at *
    generalize c.side = side at *
    generalize hcc : c.cols = cols at *
    have w1 : IntKind.i64.wrap qy = qy := by rw [IntKind.wrap_i64]; omega
    have w2 : IntKind.i64.wrap qx = qx := by rw [IntKind.wrap_i64]; omega
    have w3 : IntKind.i64.wrap (qy * cols) = qy * cols := by rw [IntKind.wrap_i64]; omega
    have w4 : IntKind.i64.wrap (qy * cols + qx) = qy * cols + qx := by rw [IntKind.wrap_i64]; omega
    have hne : side ≠ 0 := by omega
    go_enter Try.func28, Try.ntmps28
    go_wp2_with (go_at_call 50; refine (HH.out _).mono ?_; rintro e w' ⟨rfl, hb⟩; obtain ⟨d, os, rfl⟩ := more_of hb; clear hb)
    refine wp_region_more (by kernel_rfl) (by kernel_rfl) ?_
    repeat (go_big_quiet_step (fail))
    refine wpQuiet_nil ?_
    rintro _ ⟨pn, rfl⟩
    go_wp2_with fail
    go_ret
    exact ⟨rfl, (by repeat' (first | (with_reducible exact Below.refl _ _) | (with_reducible assumption) | (with_reducible refine below_drewN ?_ _) | (with_reducible refine below_more _ _ _ ?_ ?_) | (with_reducible refine Below.alloc ?_ ?_ _) | (with_reducible refine Below.drew ?_) | (with_reducible refine Below.setCell ?_ ?_ _) | go_size))⟩
  · have hd : decide (0 ≤ x ∧ x < c.cols * c.side ∧ 0 ≤ y ∧ y < c.rows * c.side) = false := decide_eq_false hw
    rw [hd] at HH ⊢
    simp only [Bool.false_eq_true, if_false]
    clear hd hw hg h ho
    generalize hcs : c.cols * c.side = cs at *
    generalize hrs : c.rows * c.side = rs at *
    go_enter Try.func28, Try.ntmps28
    go_wp2_with (go_at_call 50; refine (HH.out _).mono ?_; rintro e w' ⟨rfl, hb⟩; obtain ⟨d, os, rfl⟩ := more_of hb; clear hb)
    go_ret
    exact ⟨rfl, (by repeat' (first | (with_reducible exact Below.refl _ _) | (with_reducible assumption) | (with_reducible refine below_drewN ?_ _) | (with_reducible refine below_more _ _ _ ?_ ?_) | (with_reducible refine Below.alloc ?_ ?_ _) | (with_reducible refine Below.drew ?_) | (with_reducible refine Below.setCell ?_ ?_ _) | go_size))⟩
end Go.Proofs.Ytloampfkjldmnaa
