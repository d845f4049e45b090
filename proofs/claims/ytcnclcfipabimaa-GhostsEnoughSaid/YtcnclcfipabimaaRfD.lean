/-
  The program's Zone; the reference's Beside. Condition: the world may be.
-/
import Derived.Test.YtcnclcfipabimaaRfC
namespace Go.Proofs.Ytcnclcfipabimaa
open Go.RowKit

set_option maxRecDepth 100000 in
set_option maxHeartbeats 2000000 in
theorem zzone_any (w : World) (b : Nat) (c : Cfg) (k : Int) (h : MapAt w b c) (ho : CfgOk c) (hk0 : 0 ≤ k) (hk1 : k < c.cols * c.rows) :
    Calls Try.prog 57 #[.pointer (some ⟨b, 0, none⟩), .int .i64 k] w fun e w' => e = .returned (rectV (zoneF c k)) ∧ Below w.heap.size w w' := by
  obtain ⟨e, a0, a1, b0, b1, i0, i1, j0, j1⟩ := zone_rng ho hk0 hk1
  rw [e]
  clear e
  have hb := (Array.getElem?_eq_some_iff.1 h).1
  have HC := Lib.hid (fun W hW => zcount_any W b c (h.grow hW) ho)
  have h0 := h.cell 0; have h2 := h.cell 2
  simp only [List.getElem?_toArray, List.getElem?_cons_succ, List.getElem?_cons_zero] at h0 h2
  have hs0 := ho.s0; have hs1 := ho.s1; have hc0 := ho.c0
  have hr1 := ho.r1
  have hne : c.cols ≠ 0 := by omega
  have e2 : Int.tmod k c.cols = k % c.cols := Int.tmod_eq_emod_of_nonneg hk0
  have e4 : Int.tdiv k c.cols = k / c.cols := Int.tdiv_eq_ediv_of_nonneg hk0
  obtain ⟨n1, n2⟩ := ho.cnt
  clear ho h
  obtain ⟨z0, z1, z2⟩ := ltz hb
  generalize c.cols * c.rows = cnt at *
  generalize c.side = side at *
  generalize c.cols = cols at *
  have w3 : IntKind.i64.wrap (k / cols) = k / cols := by rw [IntKind.wrap_i64]; omega
  have v1 : IntKind.i64.wrap (k % cols * side) = k % cols * side := by rw [IntKind.wrap_i64]; omega
  have v2 : IntKind.i64.wrap (k / cols * side) = k / cols * side := by rw [IntKind.wrap_i64]; omega
  have v3 : IntKind.i64.wrap (k % cols * side + side) = k % cols * side + side := by rw [IntKind.wrap_i64]; omega
  have v4 : IntKind.i64.wrap (k / cols * side + side) = k / cols * side + side := by rw [IntKind.wrap_i64]; omega
  have d1 : ¬ k < 0 := by omega
  have d2 : ¬ cnt ≤ k := by omega
  go_enter Try.func57, Try.ntmps57
  go_wp2_with fail
  refine (HC.out _ (by repeat' (first | (with_reducible exact Below.refl _ _) | (with_reducible assumption) | (with_reducible refine below_drewN ?_ _) | (with_reducible refine below_more _ _ _ ?_ ?_) | (with_reducible refine Below.alloc ?_ ?_ _) | (with_reducible refine Below.drew ?_) | (with_reducible refine Below.setCell ?_ ?_ _) | go_size))).mono ?_; rintro e w' ⟨rfl, hb'⟩; obtain ⟨d, os, rfl⟩ := more_of hb'; clear hb'
  go_wp2_with fail
  refine wp_region_more (by kernel_rfl) (by kernel_rfl) ?_
  repeat (go_big_quiet_step (fail))
  refine wpQuiet_nil ?_
  rintro _ ⟨pz, rfl⟩
  go_wp2_with fail
  refine wp_region_still_tail 17 (by kernel_rfl) (by kernel_rfl) ?_
  simp only [List.take_succ_cons, List.take_zero, List.drop_succ_cons, List.drop_zero]
  repeat (first | still_step)
  refine wpStill_nil ?_
  go_wp2_with fail
  exact bodyPost_ret (v := rectV (k % cols * side, k / cols * side, k % cols * side + side, k / cols * side + side)) (by simp [results, Try.results57, go_sem, rectV]) rfl ⟨by rfl, (by repeat' (first | (with_reducible exact Below.refl _ _) | (with_reducible assumption) | (with_reducible refine below_drewN ?_ _) | (with_reducible refine below_more _ _ _ ?_ ?_) | (with_reducible refine Below.alloc ?_ ?_ _) | (with_reducible refine Below.drew ?_) | (with_reducible refine Below.setCell ?_ ?_ _) | go_size))⟩

theorem ov1 (a b s : Int) (a0 : 0 ≤ a) (a1 : a < 4) (b0 : 0 ≤ b) (b1 : b < 4) (h : 256 ≤ s) : decide (max (a * s - 1) (b * s) < min (a * s + s + 1) (b * s + s)) = decide (b - a ≤ 1 ∧ a - b ≤ 1) := by
  rw [Bool.eq_iff_iff, decide_eq_true_iff, decide_eq_true_iff]
  rcases (by omega : a = 0 ∨ a = 1 ∨ a = 2 ∨ a = 3) with rfl | rfl | rfl | rfl <;> rcases (by omega : b = 0 ∨ b = 1 ∨ b = 2 ∨ b = 3) with rfl | rfl | rfl | rfl <;> omega

theorem okR_zero : okR (0, 0, 0, 0) = false := by decide

/-- Grown by one, zone k meets zone i: it lies beside it, or is the same. -/
theorem beside_two {c : Cfg} (ho : CfgOk c) {k i : Int} (k0 : 0 ≤ k) (k1 : k < c.cols * c.rows) (i0 : 0 ≤ i) (i1 : i < c.cols * c.rows) (hne : ¬ i = k) :
    okR (twoF (growF (zoneF c k)) (zoneF c i)) = nextB c.cols k i := by
  obtain ⟨e, a0, a1, b0, b1, p0, p1, q0, q1⟩ := zone_rng ho k0 k1
  obtain ⟨e', a0', a1', b0', b1', p0', p1', q0', q1'⟩ := zone_rng ho i0 i1
  have hs0 := ho.s0; have hs1 := ho.s1; have hc0 := ho.c0; have hc1 := ho.c1; have hr1 := ho.r1
  have hx := ov1 (k % c.cols) (i % c.cols) c.side p0 (by omega) p0' (by omega) hs0
  have hy := ov1 (k / c.cols) (i / c.cols) c.side q0 (by omega) q0' (by omega) hs0
  have hd : ¬ (i % c.cols = k % c.cols ∧ i / c.cols = k / c.cols) := fun ⟨h1, h2⟩ => hne (by
    have t1 := Int.mul_ediv_add_emod i c.cols
    have t2 := Int.mul_ediv_add_emod k c.cols
    rw [h1, h2] at t1
    omega)
  have hb : (i == k) = false := by simpa using hne
  unfold twoF growF
  rw [e, e']
  simp only
  generalize k % c.cols * c.side = X at *
  generalize k / c.cols * c.side = Y at *
  generalize i % c.cols * c.side = X' at *
  generalize i / c.cols * c.side = Y' at *
  rw [clampF_id X (by omega) (by omega), clampF_id Y (by omega) (by omega), clampF_id (X + c.side) (by omega) (by omega), clampF_id (Y + c.side) (by omega) (by omega), clampF_id X' (by omega) (by omega), clampF_id Y' (by omega) (by omega), clampF_id (X' + c.side) (by omega) (by omega), clampF_id (Y' + c.side) (by omega) (by omega)]
  rw [clampF_id (X - 1) (by omega) (by omega), clampF_id (Y - 1) (by omega) (by omega), clampF_id (X + c.side + 1) (by omega) (by omega), clampF_id (Y + c.side + 1) (by omega) (by omega)]
  rw [clampF_id (X - 1) (by omega) (by omega), clampF_id (Y - 1) (by omega) (by omega), clampF_id (X + c.side + 1) (by omega) (by omega), clampF_id (Y + c.side + 1) (by omega) (by omega)]
  have hok : okR (max (X - 1) X', max (Y - 1) Y', min (X + c.side + 1) (X' + c.side), min (Y + c.side + 1) (Y' + c.side)) = nextB c.cols k i := by
    unfold okR boxOk
    simp only
    rw [clampF_id (max (X - 1) X') (by omega) (by omega), clampF_id (max (Y - 1) Y') (by omega) (by omega), clampF_id (min (X + c.side + 1) (X' + c.side)) (by omega) (by omega), clampF_id (min (Y + c.side + 1) (Y' + c.side)) (by omega) (by omega), hx, hy]
    unfold nextB
    rw [hb, Bool.eq_iff_iff, Bool.and_eq_true, decide_eq_true_iff, decide_eq_true_iff, Bool.not_false, Bool.true_and, beq_iff_eq]
    generalize k % c.cols = A at *
    generalize i % c.cols = B at *
    generalize k / c.cols = C at *
    generalize i / c.cols = D at *
    omega
  cases hv : okR (max (X - 1) X', max (Y - 1) Y', min (X + c.side + 1) (X' + c.side), min (Y + c.side + 1) (Y' + c.side)) with
  | true => rw [if_pos rfl, hv, ← hok, hv]
  | false => rw [if_neg (by decide), okR_zero, ← hok, hv]
end Go.Proofs.Ytcnclcfipabimaa
