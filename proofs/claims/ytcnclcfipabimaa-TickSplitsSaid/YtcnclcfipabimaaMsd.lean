/-
  systems.Move, and the reference's. Condition: the world may be.
  SystemsStays, plain: whoever moves by at most a zone's side stays in its zone or comes to one beside it. No program here. No condition.
-/
import Derived.Test.YtcnclcfipabimaaSyC
import Derived.Test.YtcnclcfipabimaaPaA
import Derived.Test.YtcnclcfipabimaaMpr
import Derived.StillTailTactics
import Derived.Test.YtcnclcfipabimaaMzn
namespace Go.Proofs.Ytcnclcfipabimaa
open Go.RowKit

theorem more_alloc (w : World) (d : Nat) (os : Array Obj) (o : Obj) : (more w d os).alloc o = more w d (os.push o) := by
  have e : (w.heap ++ os).push o = w.heap ++ os.push o := by apply Array.ext'; simp
  show ({ more w d os with heap := (w.heap ++ os).push o } : World) = _
  rw [e]
  rfl

def moveF (c : Cfg) (b : Bun) : Bun :=
  let x := if hasB b.m 2 then addF b.x (max (-c.speed) (min c.speed b.vx)) else b.x
  let y := if hasB b.m 2 then addF b.y (max (-c.speed) (min c.speed b.vy)) else b.y
  { b with x := (inF c x y).1, y := (inF c x y).2 }


set_option maxRecDepth 100000 in
set_option maxHeartbeats 2000000 in
theorem move_vel (w : World) (bm : Nat) (c : Cfg) (s i g m x y vx vy hp pw lf : Int) (h : MapAt w bm c) (ho : CfgOk c) (hb : hasB m 2 = true) :
    Calls Try.prog 91 #[.pointer (some ⟨bm, 0, none⟩), .agg #[.int .i64 s, .int .i64 i, .int .i64 g, .int .i64 m, .int .i64 x, .int .i64 y, .int .i64 vx, .int .i64 vy, .int .i64 hp, .int .i64 pw, .int .i64 lf]] w fun e w' => e = .returned (moveF c ⟨s, i, g, m, x, y, vx, vy, hp, pw, lf⟩).v ∧ Below w.heap.size w w' := by
  have h4 := h.cell 4
  simp only [List.getElem?_toArray, List.getElem?_cons_succ, List.getElem?_cons_zero] at h4
  have HZ := Lib.hid (fun W (hW : Below w.heap.size w W) x y => zin_any W bm c x y (h.grow hW) ho)
  have hbm : bm < w.heap.size := World.block_lt_of_cell? w _ h4
  obtain ⟨b10, b11, b12, b13⟩ := ltb hbm
  obtain ⟨b20, b21, b22, b23⟩ := ltb b10
  have hs0 := ho.v0
  have hs1 := ho.v1
  have hs2 := ho.s1
  obtain ⟨cols, rows, side, radius, speed, ids, queue⟩ := c
  simp only at h4 hs0 hs1 hs2
  go_enter Try.func91, Try.ntmps91
  go_wp2_with (go_at_call 119; refine (has_any _ _ _ _ _ _ _ _ _ _ _ _ _).mono ?_; rintro e w' ⟨rfl, hb⟩; obtain ⟨d, os, rfl⟩ := more_of hb; clear hb)
  go_still_tail 17, (by kernel_rfl)
  go_wp2_with (go_at_call 121; refine (add_any _ x (max (-speed) (min speed vx)) _ (by simp [go_sem]) (by simp [go_sem])).mono ?_; rintro e w' ⟨rfl, rfl⟩)
  rw [more_alloc]
  generalize os.push _ = os2
  go_still_tail 17, (by kernel_rfl)
  go_wp2_with (go_at_call 121; refine (add_any _ y (max (-speed) (min speed vy)) _ (by simp [go_sem]) (by simp [go_sem])).mono ?_; rintro e w' ⟨rfl, rfl⟩)
  refine (HZ.out _ (by repeat' (first | (with_reducible exact Below.refl _ _) | (with_reducible assumption) | (with_reducible refine below_drewN ?_ _) | (with_reducible refine below_more _ _ _ ?_ ?_) | (with_reducible refine Below.alloc ?_ ?_ _) | (with_reducible refine Below.drew ?_) | (with_reducible refine Below.setCell ?_ ?_ _) | go_size)) _ _).mono ?_
  rintro e w' ⟨rfl, nz, rfl⟩
  go_wp2_with fail
  go_returns
  refine ⟨?_, (by repeat' (first | (with_reducible exact Below.refl _ _) | (with_reducible assumption) | (with_reducible refine below_drewN ?_ _) | (with_reducible refine below_more _ _ _ ?_ ?_) | (with_reducible refine Below.alloc ?_ ?_ _) | (with_reducible refine Below.drew ?_) | (with_reducible refine Below.setCell ?_ ?_ _) | go_size))⟩
  simp [moveF, hb]

set_option maxRecDepth 100000 in
set_option maxHeartbeats 2000000 in
theorem move_rest (w : World) (bm : Nat) (c : Cfg) (s i g m x y vx vy hp pw lf : Int) (h : MapAt w bm c) (ho : CfgOk c) (hb : hasB m 2 = false) :
    Calls Try.prog 91 #[.pointer (some ⟨bm, 0, none⟩), .agg #[.int .i64 s, .int .i64 i, .int .i64 g, .int .i64 m, .int .i64 x, .int .i64 y, .int .i64 vx, .int .i64 vy, .int .i64 hp, .int .i64 pw, .int .i64 lf]] w fun e w' => e = .returned (moveF c ⟨s, i, g, m, x, y, vx, vy, hp, pw, lf⟩).v ∧ Below w.heap.size w w' := by
  have HZ := Lib.hid (fun W (hW : Below w.heap.size w W) x y => zin_any W bm c x y (h.grow hW) ho)
  clear h ho
  go_enter Try.func91, Try.ntmps91
  go_wp2_with (go_at_call 119; refine (has_any _ _ _ _ _ _ _ _ _ _ _ _ _).mono ?_; rintro e w' ⟨rfl, hb⟩; obtain ⟨d, os, rfl⟩ := more_of hb; clear hb)
  refine (HZ.out _ (by repeat' (first | (with_reducible exact Below.refl _ _) | (with_reducible assumption) | (with_reducible refine below_drewN ?_ _) | (with_reducible refine below_more _ _ _ ?_ ?_) | (with_reducible refine Below.alloc ?_ ?_ _) | (with_reducible refine Below.drew ?_) | (with_reducible refine Below.setCell ?_ ?_ _) | go_size)) _ _).mono ?_
  rintro e w' ⟨rfl, nz, rfl⟩
  go_wp2_with fail
  go_returns
  refine ⟨?_, (by repeat' (first | (with_reducible exact Below.refl _ _) | (with_reducible assumption) | (with_reducible refine below_drewN ?_ _) | (with_reducible refine below_more _ _ _ ?_ ?_) | (with_reducible refine Below.alloc ?_ ?_ _) | (with_reducible refine Below.drew ?_) | (with_reducible refine Below.setCell ?_ ?_ _) | go_size))⟩
  simp [moveF, hb]

theorem move_any (w : World) (bm : Nat) (c : Cfg) (s i g m x y vx vy hp pw lf : Int) (h : MapAt w bm c) (ho : CfgOk c) :
    Calls Try.prog 91 #[.pointer (some ⟨bm, 0, none⟩), .agg #[.int .i64 s, .int .i64 i, .int .i64 g, .int .i64 m, .int .i64 x, .int .i64 y, .int .i64 vx, .int .i64 vy, .int .i64 hp, .int .i64 pw, .int .i64 lf]] w fun e w' => e = .returned (.agg #[.int .i64 (moveF c ⟨s, i, g, m, x, y, vx, vy, hp, pw, lf⟩).s, .int .i64 (moveF c ⟨s, i, g, m, x, y, vx, vy, hp, pw, lf⟩).i, .int .i64 (moveF c ⟨s, i, g, m, x, y, vx, vy, hp, pw, lf⟩).g, .int .i64 (moveF c ⟨s, i, g, m, x, y, vx, vy, hp, pw, lf⟩).m, .int .i64 (moveF c ⟨s, i, g, m, x, y, vx, vy, hp, pw, lf⟩).x, .int .i64 (moveF c ⟨s, i, g, m, x, y, vx, vy, hp, pw, lf⟩).y, .int .i64 (moveF c ⟨s, i, g, m, x, y, vx, vy, hp, pw, lf⟩).vx, .int .i64 (moveF c ⟨s, i, g, m, x, y, vx, vy, hp, pw, lf⟩).vy, .int .i64 (moveF c ⟨s, i, g, m, x, y, vx, vy, hp, pw, lf⟩).hp, .int .i64 (moveF c ⟨s, i, g, m, x, y, vx, vy, hp, pw, lf⟩).pw, .int .i64 (moveF c ⟨s, i, g, m, x, y, vx, vy, hp, pw, lf⟩).lf]) ∧ Below w.heap.size w w' := by
  cases hb : hasB m 2 with
  | true => exact move_vel w bm c s i g m x y vx vy hp pw lf h ho hb
  | false => exact move_rest w bm c s i g m x y vx vy hp pw lf h ho hb

theorem move_none (w : World) (s i g m x y vx vy hp pw lf : Int) :
    Calls Try.prog 91 #[.pointer none, .agg #[.int .i64 s, .int .i64 i, .int .i64 g, .int .i64 m, .int .i64 x, .int .i64 y, .int .i64 vx, .int .i64 vy, .int .i64 hp, .int .i64 pw, .int .i64 lf]] w fun e w' => e = .returned (.agg #[.int .i64 s, .int .i64 i, .int .i64 g, .int .i64 m, .int .i64 x, .int .i64 y, .int .i64 vx, .int .i64 vy, .int .i64 hp, .int .i64 pw, .int .i64 lf]) ∧ Below w.heap.size w w' := by
  go_enter Try.func91, Try.ntmps91
  go_wp2_with fail
  go_returns
  exact ⟨rfl, (by repeat' (first | (with_reducible exact Below.refl _ _) | (with_reducible assumption) | (with_reducible refine below_drewN ?_ _) | (with_reducible refine below_more _ _ _ ?_ ?_) | (with_reducible refine Below.alloc ?_ ?_ _) | (with_reducible refine Below.drew ?_) | (with_reducible refine Below.setCell ?_ ?_ _) | go_size))⟩

/-- The reference's: a number brought to one from -n to n; into the world. -/
theorem near_any (v n : Int) (w : World) (h0 : 0 ≤ n) (h1 : n ≤ 1073741824) : Calls Try.prog 118 #[.int .i64 v, .int .i64 n] w fun e w' => e = .returned (.int .i64 (max (-n) (min n v))) ∧ w = w' := by
  by_cases h2 : n < v
  · rw [show max (-n) (min n v) = n by omega]
    go_enter Try.func118, Try.ntmps118
    go_wp2
    go_ret
    exact ⟨rfl, rfl⟩
  · by_cases h3 : v < -n
    · rw [show max (-n) (min n v) = -n by omega]
      have h4 : v ≤ n := by omega
      clear h2
      go_enter Try.func118, Try.ntmps118
      go_wp2
      go_ret
      exact ⟨rfl, rfl⟩
    · rw [show max (-n) (min n v) = v by omega]
      have h4 : v ≤ n := by omega
      have h5 : -n ≤ v := by omega
      clear h2 h3
      go_enter Try.func118, Try.ntmps118
      go_wp2
      go_ret
      exact ⟨rfl, rfl⟩

theorem into_any (x n : Int) (w : World) (h0 : 1 ≤ n) (h1 : n ≤ 1073741824) : Calls Try.prog 111 #[.int .i64 x, .int .i64 n] w fun e w' => e = .returned (.int .i64 (max 0 (min x (n - 1)))) ∧ w = w' := by
  by_cases h2 : x < 0
  · rw [show max 0 (min x (n - 1)) = 0 by omega]
    go_enter Try.func111, Try.ntmps111
    go_wp2
    go_ret
    exact ⟨rfl, rfl⟩
  · have h2' : 0 ≤ x := by omega
    by_cases h3 : n ≤ x
    · rw [show max 0 (min x (n - 1)) = n - 1 by omega]
      clear h2
      go_enter Try.func111, Try.ntmps111
      go_wp2
      go_ret
      exact ⟨rfl, rfl⟩
    · rw [show max 0 (min x (n - 1)) = x by omega]
      have h4 : x < n := by omega
      clear h2 h3
      go_enter Try.func111, Try.ntmps111
      go_wp2
      go_ret
      exact ⟨rfl, rfl⟩

set_option maxHeartbeats 1000000 in
theorem rIn_k (cols rows side radius speed ids queue x y : Int) (w : World) (ho : CfgOk ⟨cols, rows, side, radius, speed, ids, queue⟩) :
    Calls Try.prog 70 #[.agg #[.int .i64 cols, .int .i64 rows, .int .i64 side, .int .i64 radius, .int .i64 speed, .int .i64 ids, .int .i64 queue], .int .i64 x, .int .i64 y] w fun e w' => e = .returned (.tuple #[.int .i64 (inF ⟨cols, rows, side, radius, speed, ids, queue⟩ x y).1, .int .i64 (inF ⟨cols, rows, side, radius, speed, ids, queue⟩ x y).2]) ∧ Below w.heap.size w w' := by
  obtain ⟨p1, p2, p3, p4⟩ := ho.prod
  simp only at p1 p2 p3 p4
  simp only [inF]
  clear ho
  generalize hx1 : cols * side = x1 at *
  generalize hy1 : rows * side = y1 at *
  go_enter Try.func70, Try.ntmps70
  go_wp2_with fail
  refine wp_region_more (by kernel_rfl) (by kernel_rfl) ?_
  repeat (go_big_quiet_step ((first | (go_at_call 111; exact more_same (into_any _ _ _ (by omega) (by omega))))))
  refine wpQuiet_nil ?_
  rintro _ ⟨pm, rfl⟩
  go_wp2_with fail
  go_ret2
  exact ⟨rfl, (by repeat' (first | (with_reducible exact Below.refl _ _) | (with_reducible assumption) | (with_reducible refine below_drewN ?_ _) | (with_reducible refine below_more _ _ _ ?_ ?_) | (with_reducible refine Below.alloc ?_ ?_ _) | (with_reducible refine Below.drew ?_) | (with_reducible refine Below.setCell ?_ ?_ _) | go_size))⟩

/-- The same move by sums of two. -/
theorem addF_near (x v n : Int) (h0 : 0 ≤ n) (h1 : n ≤ 1073741824) : clampF (clampF x + max (-n) (min n v)) = addF x (max (-n) (min n v)) := by
  unfold addF
  rw [clampF_id (max (-n) (min n v)) (by omega) (by omega)]
end Go.Proofs.Ytcnclcfipabimaa
namespace Go.Proofs.Ytcnclcfipabimaa
open Go.RowKit
/-- A number brought into the world, that moved by at most s from one that lies there: its zone's number is the same or next. -/
theorem div_near {x x' s : Int} (hs : 0 < s) (h1 : x - s ≤ x') (h2 : x' ≤ x + s) : -1 ≤ x' / s - x / s ∧ x' / s - x / s ≤ 1 := by
  have e1 : (x - s) / s = x / s - 1 := by rw [Int.sub_ediv_of_dvd x (Int.dvd_refl s), Int.ediv_self (by omega)]
  have e2 : (x + s) / s = x / s + 1 := by rw [Int.add_ediv_of_dvd_right (Int.dvd_refl s), Int.ediv_self (by omega)]
  have h3 := Int.ediv_le_ediv hs h1
  have h4 := Int.ediv_le_ediv hs h2
  omega
/-- Column and row of a zone's number. -/
theorem col_row {cx cy n : Int} (h0 : 0 ≤ cx) (h1 : cx < n) : (cy * n + cx) % n = cx ∧ (cy * n + cx) / n = cy := by
  have e1 : (cy * n + cx) % n = cx := by rw [Int.add_comm, Int.add_mul_emod_self_right, Int.emod_eq_of_lt h0 h1]
  have e2 : (cy * n + cx) / n = cy := by rw [Int.add_comm, Int.add_mul_ediv_right _ _ (by omega), Int.ediv_eq_zero_of_lt h0 h1, Int.zero_add]
  exact ⟨e1, e2⟩

theorem ofF_in {c : Cfg} (ho : CfgOk c) {x y : Int} (h : inW c x y = true) : ofF c x y = y / c.side * c.cols + x / c.side ∧ 0 ≤ x / c.side ∧ x / c.side < c.cols ∧ 0 ≤ y / c.side ∧ y / c.side < c.rows ∧ 0 ≤ ofF c x y ∧ ofF c x y < c.cols * c.rows := by
  have h' := h
  unfold inW at h'
  obtain ⟨x0, x1, y0, y1⟩ := of_decide_eq_true h'
  have s0 := ho.s0
  obtain ⟨a0, a1⟩ := div_rng x0 x1 (by omega)
  obtain ⟨b0, b1⟩ := div_rng y0 y1 (by omega)
  have e : ofF c x y = y / c.side * c.cols + x / c.side := by unfold ofF; rw [h, if_pos rfl]
  have hc := ho.c0
  have m0 : 0 ≤ y / c.side * c.cols := Int.mul_nonneg b0 (by omega)
  have m1 : y / c.side * c.cols ≤ (c.rows - 1) * c.cols := Int.mul_le_mul_of_nonneg_right (by omega) (by omega)
  have m2 : (c.rows - 1) * c.cols = c.cols * c.rows - c.cols := by rw [Int.sub_mul, Int.one_mul, Int.mul_comm]
  refine ⟨e, a0, a1, b0, b1, by omega, by omega⟩

theorem mem_beside {c : Cfg} {k i : Int} (h0 : 0 ≤ i) (h1 : i < c.cols * c.rows) (h : nextB c.cols k i = true) : i ∈ besideF c k := by
  unfold besideF
  refine List.mem_filter.2 ⟨List.mem_map.2 ⟨i.toNat, List.mem_range.2 (by omega), by omega⟩, h⟩

/-- Where one comes to that moved. -/
theorem stays {c : Cfg} (ho : CfgOk c) {x y x' y' : Int} (h : inW c x y = true) (h' : inW c x' y' = true) (hx1 : x - c.side ≤ x') (hx2 : x' ≤ x + c.side) (hy1 : y - c.side ≤ y') (hy2 : y' ≤ y + c.side) :
    ofF c x y = ofF c x' y' ∨ ofF c x' y' ∈ besideF c (ofF c x y) := by
  obtain ⟨e, a0, a1, b0, b1, m0, m1⟩ := ofF_in ho h
  obtain ⟨e', a0', a1', b0', b1', m0', m1'⟩ := ofF_in ho h'
  have s0 := ho.s0
  obtain ⟨d1, d2⟩ := div_near (x := x) (x' := x') (s := c.side) (by omega) hx1 hx2
  obtain ⟨d3, d4⟩ := div_near (x := y) (x' := y') (s := c.side) (by omega) hy1 hy2
  obtain ⟨c1, c2⟩ := col_row (cy := y / c.side) a0 a1
  obtain ⟨c1', c2'⟩ := col_row (cy := y' / c.side) a0' a1'
  by_cases heq : ofF c x y = ofF c x' y'
  · exact .inl heq
  · right
    refine mem_beside m0' m1' ?_
    unfold nextB
    have hne : (ofF c x' y' == ofF c x y) = false := by simp; exact fun e => heq e.symm
    rw [hne, e, e', c1, c2, c1', c2']
    generalize x / c.side = p at *
    generalize y / c.side = q at *
    generalize x' / c.side = p' at *
    generalize y' / c.side = q' at *
    have hpq : ¬ (p = p' ∧ q = q') := fun ⟨h1, h2⟩ => heq (by rw [e, e', h1, h2])
    simp only [Bool.not_false, Bool.true_and, beq_iff_eq]
    omega

theorem inF_in {c : Cfg} (ho : CfgOk c) (x y : Int) : inW c (inF c x y).1 (inF c x y).2 = true := by
  obtain ⟨p1, p2, p3, p4⟩ := ho.prod
  unfold inW inF
  simp only [decide_eq_true_eq]
  omega

theorem move_stays {c : Cfg} (ho : CfgOk c) (b : Bun) (h : inW c b.x b.y = true) : ofF c b.x b.y = ofF c (moveF c b).x (moveF c b).y ∨ ofF c (moveF c b).x (moveF c b).y ∈ besideF c (ofF c b.x b.y) := by
  have h2 := h
  unfold inW at h2
  obtain ⟨x0, x1, y0, y1⟩ := of_decide_eq_true h2
  obtain ⟨p1, p2, p3, p4⟩ := ho.prod
  have v0 := ho.v0
  have v1 := ho.v1
  have s1 := ho.s1
  have key : ∀ (n v W : Int), 0 ≤ n → n < W → W ≤ 4194304 → n - c.side ≤ max 0 (min (addF n (max (-c.speed) (min c.speed v))) (W - 1)) ∧ max 0 (min (addF n (max (-c.speed) (min c.speed v))) (W - 1)) ≤ n + c.side := by
    intro n v W hn0 hn1 hW
    have e : addF n (max (-c.speed) (min c.speed v)) = n + max (-c.speed) (min c.speed v) := by
      unfold addF
      rw [clampF_id n (by omega) (by omega), clampF_id (max (-c.speed) (min c.speed v)) (by omega) (by omega), clampF_id _ (by omega) (by omega)]
    rw [e]
    omega
  refine stays ho h (by unfold moveF; exact inF_in ho _ _) ?_ ?_ ?_ ?_
  all_goals
    unfold moveF inF
    simp only
    cases hasB b.m 2 with
    | true => simp only [if_true]; first | exact (key b.x b.vx _ x0 x1 p2).1 | exact (key b.x b.vx _ x0 x1 p2).2 | exact (key b.y b.vy _ y0 y1 p4).1 | exact (key b.y b.vy _ y0 y1 p4).2
    | false => simp only [Bool.false_eq_true, if_false]; have s0 := ho.s0; omega
end Go.Proofs.Ytcnclcfipabimaa
