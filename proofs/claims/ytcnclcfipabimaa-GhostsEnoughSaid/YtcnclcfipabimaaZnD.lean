/-
  SystemsStays, plain: whoever moves by at most a zone's side stays in its zone or comes to one beside it. No program here. No condition.
-/
import Derived.Test.YtcnclcfipabimaaMzn
import Derived.Test.YtcnclcfipabimaaSyD
namespace Go.Proofs.Ytcnclcfipabimaa
open Go.RowKit
/-- A number brought into the world, that moved by at most s from one that lies there: its zone's number is the same or next. -/
theorem div_near {x x' s : Int} (hs : 0 < s) (h1 : x - s ≤ x') (h2 : x' ≤ x + s) : -1 ≤ x' / s - x / s ∧ x' / s - x / s ≤ 1 := by
  have e1 : (x - s) / s = x / s - 1 := by rw [Int.sub_ediv_of_dvd x (Int.dvd_refl s), Int.ediv_self (by omega)]
  have e2 : (x + s) / s = x / s + 1 := by rw [Int.add_ediv_of_dvd_right (Int.dvd_refl s), Int.ediv_self (by omega)]
  have h3 := Int.ediv_le_ediv hs h1
  have h4 := Int.ediv_le_ediv hs h2
  omega
/-- Column and row of a zone's number. -/
theorem col_row {cx cy n : Int} (h0 : 0 ≤ cx) (h1 : cx < n) : (cy * n + cx) % n = cx ∧ (cy * n + cx) / n = cy := by
  have e1 : (cy * n + cx) % n = cx := by rw [Int.add_comm, Int.add_mul_emod_self_right, Int.emod_eq_of_lt h0 h1]
  have e2 : (cy * n + cx) / n = cy := by rw [Int.add_comm, Int.add_mul_ediv_right _ _ (by omega), Int.ediv_eq_zero_of_lt h0 h1, Int.zero_add]
  exact ⟨e1, e2⟩

theorem ofF_in {c : Cfg} (ho : CfgOk c) {x y : Int} (h : inW c x y = true) : ofF c x y = y / c.side * c.cols + x / c.side ∧ 0 ≤ x / c.side ∧ x / c.side < c.cols ∧ 0 ≤ y / c.side ∧ y / c.side < c.rows ∧ 0 ≤ ofF c x y ∧ ofF c x y < c.cols * c.rows := by
  have h' := h
  unfold inW at h'
  obtain ⟨x0, x1, y0, y1⟩ := of_decide_eq_true h'
  have s0 := ho.s0
  obtain ⟨a0, a1⟩ := div_rng x0 x1 (by omega)
  obtain ⟨b0, b1⟩ := div_rng y0 y1 (by omega)
  have e : ofF c x y = y / c.side * c.cols + x / c.side := by unfold ofF; rw [h, if_pos rfl]
  have hc := ho.c0
  have m0 : 0 ≤ y / c.side * c.cols := Int.mul_nonneg b0 (by omega)
  have m1 : y / c.side * c.cols ≤ (c.rows - 1) * c.cols := Int.mul_le_mul_of_nonneg_right (by omega) (by omega)
  have m2 : (c.rows - 1) * c.cols = c.cols * c.rows - c.cols := by rw [Int.sub_mul, Int.one_mul, Int.mul_comm]
  refine ⟨e, a0, a1, b0, b1, by omega, by omega⟩

theorem mem_beside {c : Cfg} {k i : Int} (h0 : 0 ≤ i) (h1 : i < c.cols * c.rows) (h : nextB c.cols k i = true) : i ∈ besideF c k := by
  unfold besideF
  refine List.mem_filter.2 ⟨List.mem_map.2 ⟨i.toNat, List.mem_range.2 (by omega), by omega⟩, h⟩

/-- Where one comes to that moved. -/
theorem stays {c : Cfg} (ho : CfgOk c) {x y x' y' : Int} (h : inW c x y = true) (h' : inW c x' y' = true) (hx1 : x - c.side ≤ x') (hx2 : x' ≤ x + c.side) (hy1 : y - c.side ≤ y') (hy2 : y' ≤ y + c.side) :
    ofF c x y = ofF c x' y' ∨ ofF c x' y' ∈ besideF c (ofF c x y) := by
  obtain ⟨e, a0, a1, b0, b1, m0, m1⟩ := ofF_in ho h
  obtain ⟨e', a0', a1', b0', b1', m0', m1'⟩ := ofF_in ho h'
  have s0 := ho.s0
  obtain ⟨d1, d2⟩ := div_near (x := x) (x' := x') (s := c.side) (by omega) hx1 hx2
  obtain ⟨d3, d4⟩ := div_near (x := y) (x' := y') (s := c.side) (by omega) hy1 hy2
  obtain ⟨c1, c2⟩ := col_row (cy := y / c.side) a0 a1
  obtain ⟨c1', c2'⟩ := col_row (cy := y' / c.side) a0' a1'
  by_cases heq : ofF c x y = ofF c x' y'
  · exact .inl heq
  · right
    refine mem_beside m0' m1' ?_
    unfold nextB
    have hne : (ofF c x' y' == ofF c x y) = false := by simp; exact fun e => heq e.symm
    rw [hne, e, e', c1, c2, c1', c2']
    generalize x / c.side = p at *
    generalize y / c.side = q at *
    generalize x' / c.side = p' at *
    generalize y' / c.side = q' at *
    have hpq : ¬ (p = p' ∧ q = q') := fun ⟨h1, h2⟩ => heq (by rw [e, e', h1, h2])
    simp only [Bool.not_false, Bool.true_and, beq_iff_eq]
    omega

theorem inF_in {c : Cfg} (ho : CfgOk c) (x y : Int) : inW c (inF c x y).1 (inF c x y).2 = true := by
  obtain ⟨p1, p2, p3, p4⟩ := ho.prod
  unfold inW inF
  simp only [decide_eq_true_eq]
  omega

theorem move_stays {c : Cfg} (ho : CfgOk c) (b : Bun) (h : inW c b.x b.y = true) : ofF c b.x b.y = ofF c (moveF c b).x (moveF c b).y ∨ ofF c (moveF c b).x (moveF c b).y ∈ besideF c (ofF c b.x b.y) := by
  have h2 := h
  unfold inW at h2
  obtain ⟨x0, x1, y0, y1⟩ := of_decide_eq_true h2
  obtain ⟨p1, p2, p3, p4⟩ := ho.prod
  have v0 := ho.v0
  have v1 := ho.v1
  have s1 := ho.s1
  have key : ∀ (n v W : Int), 0 ≤ n → n < W → W ≤ 4194304 → n - c.side ≤ max 0 (min (addF n (max (-c.speed) (min c.speed v))) (W - 1)) ∧ max 0 (min (addF n (max (-c.speed) (min c.speed v))) (W - 1)) ≤ n + c.side := by
    intro n v W hn0 hn1 hW
    have e : addF n (max (-c.speed) (min c.speed v)) = n + max (-c.speed) (min c.speed v) := by
      unfold addF
      rw [clampF_id n (by omega) (by omega), clampF_id (max (-c.speed) (min c.speed v)) (by omega) (by omega), clampF_id _ (by omega) (by omega)]
    rw [e]
    omega
  refine stays ho h (by unfold moveF; exact inF_in ho _ _) ?_ ?_ ?_ ?_
  all_goals
    unfold moveF inF
    simp only
    cases hasB b.m 2 with
    | true => simp only [if_true]; first | exact (key b.x b.vx _ x0 x1 p2).1 | exact (key b.x b.vx _ x0 x1 p2).2 | exact (key b.y b.vy _ y0 y1 p4).1 | exact (key b.y b.vy _ y0 y1 p4).2
    | false => simp only [Bool.false_eq_true, if_false]; have s0 := ho.s0; omega
end Go.Proofs.Ytcnclcfipabimaa
