/-
  The reference of rectangles: None, Has. No condition.
  Package zones: Count; the zone of a point lies in the world. Condition: the world may be.
  The reference of zones: Zone, Of; the program's Zone. Condition: the world may be.
-/
import Derived.Test.YtbghjklnlhoklaaRcA
import Derived.Test.YtbghjklnlhoklaaMk11
import Derived.Test.YtbghjklnlhoklaaMk1
namespace Go.Proofs.Ytbghjklnlhoklaa
open Go.RowKit


/-- Lies a point in a rectangle, by clamped numbers? -/
def hasF (x0 y0 x1 y1 x y : Int) : Bool := decide (clampF x0 ≤ clampF x ∧ clampF x < clampF x1 ∧ clampF y0 ≤ clampF y ∧ clampF y < clampF y1)

theorem rHas_any (x0 y0 x1 y1 x y : Int) (w : World) :
    Calls Try.prog 63 #[.agg #[.int .i64 x0, .int .i64 y0, .int .i64 x1, .int .i64 y1], .int .i64 x, .int .i64 y] w fun e w' => e = .returned (.bool (hasF x0 y0 x1 y1 x y)) ∧ Below w.heap.size w w' := by
  unfold hasF
  have CX := Lib.hid (fun W => rClamp_any x W)
  have CY := Lib.hid (fun W => rClamp_any y W)
  have C0 := Lib.hid (fun W => rClamp_any x0 W)
  have C1 := Lib.hid (fun W => rClamp_any y0 W)
  have C2 := Lib.hid (fun W => rClamp_any x1 W)
  have C3 := Lib.hid (fun W => rClamp_any y1 W)
  generalize clampF x0 = a0 at *
  generalize clampF y0 = b0 at *
  generalize clampF x1 = a1 at *
  generalize clampF y1 = b1 at *
  generalize clampF x = cx at *
  generalize clampF y = cy at *
  
  by_cases h1 : a0 ≤ cx
  · have d1 : decide (a0 ≤ cx) = true := decide_eq_true h1
    by_cases h2 : cx < a1
    · have d2 : decide (cx < a1) = true := decide_eq_true h2
      by_cases h3 : b0 ≤ cy
      · have d3 : decide (b0 ≤ cy) = true := decide_eq_true h3
        by_cases h4 : cy < b1
        · have d4 : decide (cy < b1) = true := decide_eq_true h4
          rw [show decide (a0 ≤ cx ∧ cx < a1 ∧ b0 ≤ cy ∧ cy < b1) = true from decide_eq_true ⟨h1, h2, h3, h4⟩]
          go_enter Try.func63, Try.ntmps63
          go_wp2_with fail
          refine (CX.out _).mono ?_; rintro e w' ⟨rfl, rfl⟩
          go_wp2_with fail
          refine (CY.out _).mono ?_; rintro e w' ⟨rfl, rfl⟩
          go_wp2_with fail
          refine (C0.out _).mono ?_; rintro e w' ⟨rfl, rfl⟩
          go_wp2_with fail
          refine (C2.out _).mono ?_; rintro e w' ⟨rfl, rfl⟩
          go_wp2_with fail
          refine (C1.out _).mono ?_; rintro e w' ⟨rfl, rfl⟩
          go_wp2_with fail
          refine (C3.out _).mono ?_; rintro e w' ⟨rfl, rfl⟩
          go_wp2_with fail
          go_ret
          exact ⟨rfl, (by repeat' (first | (with_reducible exact Below.refl _ _) | (with_reducible assumption) | (with_reducible refine below_drewN ?_ _) | (with_reducible refine below_more _ _ _ ?_ ?_) | (with_reducible refine Below.alloc ?_ ?_ _) | (with_reducible refine Below.drew ?_) | (with_reducible refine Below.setCell ?_ ?_ _) | go_size))⟩
        · have d4 : decide (cy < b1) = false := decide_eq_false h4
          rw [show decide (a0 ≤ cx ∧ cx < a1 ∧ b0 ≤ cy ∧ cy < b1) = false from decide_eq_false (by omega)]
          go_enter Try.func63, Try.ntmps63
          go_wp2_with fail
          refine (CX.out _).mono ?_; rintro e w' ⟨rfl, rfl⟩
          go_wp2_with fail
          refine (CY.out _).mono ?_; rintro e w' ⟨rfl, rfl⟩
          go_wp2_with fail
          refine (C0.out _).mono ?_; rintro e w' ⟨rfl, rfl⟩
          go_wp2_with fail
          refine (C2.out _).mono ?_; rintro e w' ⟨rfl, rfl⟩
          go_wp2_with fail
          refine (C1.out _).mono ?_; rintro e w' ⟨rfl, rfl⟩
          go_wp2_with fail
          refine (C3.out _).mono ?_; rintro e w' ⟨rfl, rfl⟩
          go_wp2_with fail
          go_ret
          exact ⟨rfl, (by repeat' (first | (with_reducible exact Below.refl _ _) | (with_reducible assumption) | (with_reducible refine below_drewN ?_ _) | (with_reducible refine below_more _ _ _ ?_ ?_) | (with_reducible refine Below.alloc ?_ ?_ _) | (with_reducible refine Below.drew ?_) | (with_reducible refine Below.setCell ?_ ?_ _) | go_size))⟩
      · have d3 : decide (b0 ≤ cy) = false := decide_eq_false h3
        rw [show decide (a0 ≤ cx ∧ cx < a1 ∧ b0 ≤ cy ∧ cy < b1) = false from decide_eq_false (by omega)]
        go_enter Try.func63, Try.ntmps63
        go_wp2_with fail
        refine (CX.out _).mono ?_; rintro e w' ⟨rfl, rfl⟩
        go_wp2_with fail
        refine (CY.out _).mono ?_; rintro e w' ⟨rfl, rfl⟩
        go_wp2_with fail
        refine (C0.out _).mono ?_; rintro e w' ⟨rfl, rfl⟩
        go_wp2_with fail
        refine (C2.out _).mono ?_; rintro e w' ⟨rfl, rfl⟩
        go_wp2_with fail
        refine (C1.out _).mono ?_; rintro e w' ⟨rfl, rfl⟩
        go_wp2_with fail
        go_ret
        exact ⟨rfl, (by repeat' (first | (with_reducible exact Below.refl _ _) | (with_reducible assumption) | (with_reducible refine below_drewN ?_ _) | (with_reducible refine below_more _ _ _ ?_ ?_) | (with_reducible refine Below.alloc ?_ ?_ _) | (with_reducible refine Below.drew ?_) | (with_reducible refine Below.setCell ?_ ?_ _) | go_size))⟩
    · have d2 : decide (cx < a1) = false := decide_eq_false h2
      rw [show decide (a0 ≤ cx ∧ cx < a1 ∧ b0 ≤ cy ∧ cy < b1) = false from decide_eq_false (by omega)]
      go_enter Try.func63, Try.ntmps63
      go_wp2_with fail
      refine (CX.out _).mono ?_; rintro e w' ⟨rfl, rfl⟩
      go_wp2_with fail
      refine (CY.out _).mono ?_; rintro e w' ⟨rfl, rfl⟩
      go_wp2_with fail
      refine (C0.out _).mono ?_; rintro e w' ⟨rfl, rfl⟩
      go_wp2_with fail
      refine (C2.out _).mono ?_; rintro e w' ⟨rfl, rfl⟩
      go_wp2_with fail
      go_ret
      exact ⟨rfl, (by repeat' (first | (with_reducible exact Below.refl _ _) | (with_reducible assumption) | (with_reducible refine below_drewN ?_ _) | (with_reducible refine below_more _ _ _ ?_ ?_) | (with_reducible refine Below.alloc ?_ ?_ _) | (with_reducible refine Below.drew ?_) | (with_reducible refine Below.setCell ?_ ?_ _) | go_size))⟩
  · have d1 : decide (a0 ≤ cx) = false := decide_eq_false h1
    rw [show decide (a0 ≤ cx ∧ cx < a1 ∧ b0 ≤ cy ∧ cy < b1) = false from decide_eq_false (by omega)]
    go_enter Try.func63, Try.ntmps63
    go_wp2_with fail
    refine (CX.out _).mono ?_; rintro e w' ⟨rfl, rfl⟩
    go_wp2_with fail
    refine (CY.out _).mono ?_; rintro e w' ⟨rfl, rfl⟩
    go_wp2_with fail
    refine (C0.out _).mono ?_; rintro e w' ⟨rfl, rfl⟩
    go_wp2_with fail
    go_ret
    exact ⟨rfl, (by repeat' (first | (with_reducible exact Below.refl _ _) | (with_reducible assumption) | (with_reducible refine below_drewN ?_ _) | (with_reducible refine below_more _ _ _ ?_ ?_) | (with_reducible refine Below.alloc ?_ ?_ _) | (with_reducible refine Below.drew ?_) | (with_reducible refine Below.setCell ?_ ?_ _) | go_size))⟩

end Go.Proofs.Ytbghjklnlhoklaa
namespace Go.Proofs.Ytbghjklnlhoklaa
open Go.RowKit

/-- Column and row of a zone's number. -/
theorem col_row {cx cy n : Int} (h0 : 0 ≤ cx) (h1 : cx < n) : (cy * n + cx) % n = cx ∧ (cy * n + cx) / n = cy := by
  have e1 : (cy * n + cx) % n = cx := by rw [Int.add_comm, Int.add_mul_emod_self_right, Int.emod_eq_of_lt h0 h1]
  have e2 : (cy * n + cx) / n = cy := by rw [Int.add_comm, Int.add_mul_ediv_right _ _ (by omega), Int.ediv_eq_zero_of_lt h0 h1, Int.zero_add]
  exact ⟨e1, e2⟩

theorem ofF_in {c : Cfg} (ho : CfgOk c) {x y : Int} (h : inW c x y = true) : ofF c x y = y / c.side * c.cols + x / c.side ∧ 0 ≤ x / c.side ∧ x / c.side < c.cols ∧ 0 ≤ y / c.side ∧ y / c.side < c.rows ∧ 0 ≤ ofF c x y ∧ ofF c x y < c.cols * c.rows := by
  have h' := h
  unfold inW at h'
  obtain ⟨x0, x1, y0, y1⟩ := of_decide_eq_true h'
  have s0 := ho.s0
  obtain ⟨a0, a1⟩ := div_rng x0 x1 (by omega)
  obtain ⟨b0, b1⟩ := div_rng y0 y1 (by omega)
  have e : ofF c x y = y / c.side * c.cols + x / c.side := by unfold ofF; rw [h, if_pos rfl]
  have hc := ho.c0
  have m0 : 0 ≤ y / c.side * c.cols := Int.mul_nonneg b0 (by omega)
  have m1 : y / c.side * c.cols ≤ (c.rows - 1) * c.cols := Int.mul_le_mul_of_nonneg_right (by omega) (by omega)
  have m2 : (c.rows - 1) * c.cols = c.cols * c.rows - c.cols := by rw [Int.sub_mul, Int.one_mul, Int.mul_comm]
  refine ⟨e, a0, a1, b0, b1, by omega, by omega⟩

theorem CfgOk.cnt {c : Cfg} (h : CfgOk c) : 1 ≤ c.cols * c.rows ∧ c.cols * c.rows ≤ 16 := by
  have h1 := Int.mul_le_mul h.c0 h.r0 (by omega) (by have := h.c0; omega)
  have h2 := Int.mul_le_mul h.c1 h.r1 (by have := h.r0; omega) (by omega)
  omega

theorem zcount_any (w : World) (b : Nat) (c : Cfg) (h : MapAt w b c) (ho : CfgOk c) :
    Calls Try.prog 35 #[.pointer (some ⟨b, 0, none⟩)] w fun e w' => e = .returned (.int .i64 (c.cols * c.rows)) ∧ Below w.heap.size w w' := by
  obtain ⟨n1, n2⟩ := ho.cnt
  have hb := (Array.getElem?_eq_some_iff.1 h).1
  have h0 := h.cell 0; have h1 := h.cell 1
  simp only [List.getElem?_toArray, List.getElem?_cons_succ, List.getElem?_cons_zero] at h0 h1
  obtain ⟨z0, z1, z2⟩ := ltz hb
  have w1 : IntKind.i64.wrap (c.cols * c.rows) = c.cols * c.rows := by rw [IntKind.wrap_i64]; omega
  clear h ho
  generalize c.cols = cols at *
  generalize c.rows = rows at *
  go_enter Try.func35, Try.ntmps35
  go_wp2_with fail
  refine wp_region_more (by kernel_rfl) (by kernel_rfl) ?_
  repeat (go_big_quiet_step (fail))
  refine wpQuiet_nil ?_
  rintro _ ⟨pn, rfl⟩
  go_wp2_with fail
  go_ret
  exact ⟨rfl, (by repeat' (first | (with_reducible exact Below.refl _ _) | (with_reducible assumption) | (with_reducible refine below_drewN ?_ _) | (with_reducible refine below_more _ _ _ ?_ ?_) | (with_reducible refine Below.alloc ?_ ?_ _) | (with_reducible refine Below.drew ?_) | (with_reducible refine Below.setCell ?_ ?_ _) | go_size))⟩
end Go.Proofs.Ytbghjklnlhoklaa
namespace Go.Proofs.Ytbghjklnlhoklaa
open Go.RowKit

def zoneF (c : Cfg) (k : Int) : Int × Int × Int × Int := if 0 ≤ k ∧ k < c.cols * c.rows then (k % c.cols * c.side, k / c.cols * c.side, (k % c.cols + 1) * c.side, (k / c.cols + 1) * c.side) else (0, 0, 0, 0)
def rectV (z : Int × Int × Int × Int) : Value := .agg #[.int .i64 z.1, .int .i64 z.2.1, .int .i64 z.2.2.1, .int .i64 z.2.2.2]

theorem zone_at (c : Cfg) (h : CfgOk c) (i j : Nat) (hi : (i : Int) < c.cols) (hj : (j : Int) < c.rows) : zoneF c ((j : Int) * c.cols + i) = ((i : Int) * c.side, (j : Int) * c.side, ((i : Int) + 1) * c.side, ((j : Int) + 1) * c.side) := by
  have hc := h.c0
  have e1 : ((j : Int) * c.cols + i) % c.cols = i := by rw [Int.add_comm, Int.add_mul_emod_self_right]; exact Int.emod_eq_of_lt (by omega) hi
  have e2 : ((j : Int) * c.cols + i) / c.cols = j := by rw [Int.add_comm, Int.add_mul_ediv_right _ _ (by omega), Int.ediv_eq_zero_of_lt (by omega) hi]; omega
  have h0 : 0 ≤ (j : Int) * c.cols := Int.mul_nonneg (by omega) (by omega)
  have h1 : ((j : Int) + 1) * c.cols ≤ c.rows * c.cols := Int.mul_le_mul_of_nonneg_right (by omega) (by omega)
  rw [Int.add_mul, Int.one_mul] at h1
  unfold zoneF
  rw [if_pos ⟨by omega, by rw [Int.mul_comm c.cols]; omega⟩, e1, e2]

theorem zone_out (c : Cfg) (k : Int) (h : ¬ (0 ≤ k ∧ k < c.cols * c.rows)) : zoneF c k = (0, 0, 0, 0) := by unfold zoneF; rw [if_neg h]

set_option maxRecDepth 100000 in
set_option maxHeartbeats 1000000 in
theorem rzone_any (cols rows side radius speed ids queue : Int) (k : Int) (w : World) (ho : CfgOk ⟨cols, rows, side, radius, speed, ids, queue⟩) :
    Calls Try.prog 64 #[.agg #[.int .i64 cols, .int .i64 rows, .int .i64 side, .int .i64 radius, .int .i64 speed, .int .i64 ids, .int .i64 queue], .int .i64 k] w fun e w' => e = .returned (rectV (zoneF ⟨cols, rows, side, radius, speed, ids, queue⟩ k)) ∧ Below w.heap.size w w' := by
  have HZ := Lib.hid (zone_at ⟨cols, rows, side, radius, speed, ids, queue⟩ ho)
  have HO := Lib.hid (zone_out ⟨cols, rows, side, radius, speed, ids, queue⟩ k)
  simp only at HZ HO
  obtain ⟨c0, c1, r0, r1, s0, s1, _⟩ := ho
  simp only at c0 c1 r0 r1 s0 s1
  generalize hzf : zoneF ⟨cols, rows, side, radius, speed, ids, queue⟩ = zf at *
  clear hzf
  obtain ⟨cn, rfl⟩ : ∃ cn : Nat, cols = (cn : Int) := ⟨cols.toNat, by omega⟩
  obtain ⟨rn, rfl⟩ : ∃ rn : Nat, rows = (rn : Int) := ⟨rows.toNat, by omega⟩
  go_enter Try.func64, Try.ntmps64
  go_wp2_with fail
  generalize hw1 : (w.alloc _).alloc _ = w1
  have q0 : w1.cell? ⟨w.heap.size, 0, none⟩ = some (.int .i64 cn) := by rw [← hw1]; simp
  have q1 : w1.cell? ⟨w.heap.size, 1, none⟩ = some (.int .i64 rn) := by rw [← hw1]; simp
  have q2 : w1.cell? ⟨w.heap.size, 2, none⟩ = some (.int .i64 side) := by rw [← hw1]; simp
  have HW := Lib.hid hw1
  clear hw1
  go_loopg [5] rn (fun kx sj wr => ∃ j : Nat, sj = .int .i64 j ∧ j ≤ rn ∧ rn - j ≤ kx ∧ Hid (w1 = wr) ∧ Hid (k < 0 ∨ (j : Int) * cn ≤ k))
  case atStart => exact ⟨0, by go_num, by omega, by omega, Lib.hid rfl, Lib.hid (by omega)⟩
  case round =>
    obtain ⟨j, rfl, hj, hkx, HWR, HK⟩ := hrel
    obtain rfl := HWR.out
    by_cases hlt : j < rn
    · have t1 : (j : Int) < (rn : Int) := by omega
      go_wp2_with fail
      go_loopg [6] cn (fun ky si wr => ∃ i : Nat, si = .int .i64 i ∧ i ≤ cn ∧ cn - i ≤ ky ∧ Hid (w1 = wr) ∧ Hid (k < 0 ∨ (j : Int) * cn + i ≤ k))
      case atStart => exact ⟨0, by go_num, by omega, by omega, Lib.hid rfl, Lib.hid (by have := HK.out; omega)⟩
      case round =>
        obtain ⟨i, rfl, hi, hky, HWR2, HK2⟩ := hrel
        obtain rfl := HWR2.out
        by_cases hlt2 : i < cn
        · have t2 : (i : Int) < (cn : Int) := by omega
          have m1 : (j : Int) * cn ≤ 3 * 4 := Int.mul_le_mul (by omega) (by omega) (by omega) (by omega)
          have m2 : 0 ≤ (j : Int) * cn := Int.mul_nonneg (by omega) (by omega)
          have v1 : IntKind.i64.wrap ((j : Int) * cn) = (j : Int) * cn := by rw [IntKind.wrap_i64]; omega
          have v2 : IntKind.i64.wrap ((j : Int) * cn + i) = (j : Int) * cn + i := by rw [IntKind.wrap_i64]; omega
          by_cases hk : (j : Int) * cn + i = k
          · have n1 : (i : Int) * side ≤ 4 * 1048576 := Int.mul_le_mul (by omega) s1 (by omega) (by omega)
            have n2 : 0 ≤ (i : Int) * side := Int.mul_nonneg (by omega) (by omega)
            have n3 : (j : Int) * side ≤ 4 * 1048576 := Int.mul_le_mul (by omega) s1 (by omega) (by omega)
            have n4 : 0 ≤ (j : Int) * side := Int.mul_nonneg (by omega) (by omega)
            have n5 : ((i : Int) + 1) * side ≤ 4 * 1048576 := Int.mul_le_mul (by omega) s1 (by omega) (by omega)
            have n6 : 0 ≤ ((i : Int) + 1) * side := Int.mul_nonneg (by omega) (by omega)
            have n7 : ((j : Int) + 1) * side ≤ 4 * 1048576 := Int.mul_le_mul (by omega) s1 (by omega) (by omega)
            have n8 : 0 ≤ ((j : Int) + 1) * side := Int.mul_nonneg (by omega) (by omega)
            have v3 : IntKind.i64.wrap ((i : Int) * side) = (i : Int) * side := by rw [IntKind.wrap_i64]; omega
            have v4 : IntKind.i64.wrap ((j : Int) * side) = (j : Int) * side := by rw [IntKind.wrap_i64]; omega
            have v5 : IntKind.i64.wrap ((i : Int) + 1) = (i : Int) + 1 := by rw [IntKind.wrap_i64]; omega
            have v6 : IntKind.i64.wrap ((j : Int) + 1) = (j : Int) + 1 := by rw [IntKind.wrap_i64]; omega
            have v7 : IntKind.i64.wrap (((i : Int) + 1) * side) = ((i : Int) + 1) * side := by rw [IntKind.wrap_i64]; omega
            have v8 : IntKind.i64.wrap (((j : Int) + 1) * side) = ((j : Int) + 1) * side := by rw [IntKind.wrap_i64]; omega
            have hz := HZ.out i j t2 t1
            rw [hk] at hz
            have HZ2 := Lib.hid hz
            have hke : ((j : Int) * cn + i == k) = true := by rw [hk]; simp
            clear hz hk n1 n2 n3 n4 n5 n6 n7 n8 m1 m2
            obtain rfl := HW.out
            go_wp2_with fail
            exact bodyPost_ret (v := rectV ((i : Int) * side, (j : Int) * side, ((i : Int) + 1) * side, ((j : Int) + 1) * side)) (by simp [results, Try.results64, go_sem, rectV]) rfl ⟨by rw [HZ2.out], (by repeat' (first | (with_reducible exact Below.refl _ _) | (with_reducible assumption) | (with_reducible refine below_drewN ?_ _) | (with_reducible refine below_more _ _ _ ?_ ?_) | (with_reducible refine Below.alloc ?_ ?_ _) | (with_reducible refine Below.drew ?_) | (with_reducible refine Below.setCell ?_ ?_ _) | go_size))⟩
          · have hke : ((j : Int) * cn + i == k) = false := by simpa using hk
            go_wp2_with fail
            go_roundg (cn - (i + 1))
            case measure => omega
            case rel => exact ⟨i + 1, by go_num, by omega, by omega, Lib.hid rfl, Lib.hid (by have := HK2.out; omega)⟩
        · have t2 : ¬ (i : Int) < (cn : Int) := by omega
          obtain rfl : i = cn := by omega
          go_wp2_with fail
          go_roundg (rn - (j + 1))
          case measure => omega
          case rel => exact ⟨j + 1, by go_num, by omega, by omega, Lib.hid rfl, Lib.hid (by have := HK2.out; rw [Int.natCast_add, Int.add_mul]; omega)⟩
    · have t1 : ¬ (j : Int) < (rn : Int) := by omega
      obtain rfl : j = rn := by omega
      have hz := HO.out (by have := HK.out; rw [Int.mul_comm] at this; omega)
      have HZ2 := Lib.hid hz
      clear hz
      obtain rfl := HW.out
      go_wp2_with fail
      exact bodyPost_ret (v := rectV (0, 0, 0, 0)) (by simp [results, Try.results64, go_sem, rectV]) rfl ⟨by rw [HZ2.out], (by repeat' (first | (with_reducible exact Below.refl _ _) | (with_reducible assumption) | (with_reducible refine below_drewN ?_ _) | (with_reducible refine below_more _ _ _ ?_ ?_) | (with_reducible refine Below.alloc ?_ ?_ _) | (with_reducible refine Below.drew ?_) | (with_reducible refine Below.setCell ?_ ?_ _) | go_size))⟩

theorem rHasR_any (z : Int × Int × Int × Int) (x y : Int) (w : World) :
    Calls Try.prog 63 #[rectV z, .int .i64 x, .int .i64 y] w fun e w' => e = .returned (.bool (hasF z.1 z.2.1 z.2.2.1 z.2.2.2 x y)) ∧ Below w.heap.size w w' := rHas_any _ _ _ _ x y w

/-- A zone's rectangle: its numbers, and that they may be. -/
theorem zone_rng {c : Cfg} (ho : CfgOk c) {k : Int} (h0 : 0 ≤ k) (h1 : k < c.cols * c.rows) :
    zoneF c k = (k % c.cols * c.side, k / c.cols * c.side, k % c.cols * c.side + c.side, k / c.cols * c.side + c.side) ∧ 0 ≤ k % c.cols * c.side ∧ k % c.cols * c.side ≤ 3 * 1048576 ∧ 0 ≤ k / c.cols * c.side ∧ k / c.cols * c.side ≤ 3 * 1048576 ∧ 0 ≤ k % c.cols ∧ k % c.cols < c.cols ∧ 0 ≤ k / c.cols ∧ k / c.cols < c.rows := by
  have hc0 := ho.c0; have hc1 := ho.c1; have hr1 := ho.r1; have hs1 := ho.s1; have hs0 := ho.s0
  have i0 : 0 ≤ k % c.cols := Int.emod_nonneg _ (by omega)
  have i1 : k % c.cols < c.cols := Int.emod_lt_of_pos _ (by omega)
  have j0 : 0 ≤ k / c.cols := Int.ediv_nonneg h0 (by omega)
  have j1 : k / c.cols < c.rows := Int.ediv_lt_of_lt_mul (by omega) (by rw [Int.mul_comm]; exact h1)
  refine ⟨?_, Int.mul_nonneg i0 (by omega), Int.mul_le_mul (by omega) hs1 (by omega) (by omega), Int.mul_nonneg j0 (by omega), Int.mul_le_mul (by omega) hs1 (by omega) (by omega), i0, i1, j0, j1⟩
  unfold zoneF
  rw [if_pos ⟨h0, h1⟩, Int.add_mul, Int.one_mul, Int.add_mul, Int.one_mul]

theorem div_iff {x i s : Int} (hs : 0 < s) : (i * s ≤ x ∧ x < i * s + s) ↔ x / s = i := by
  constructor
  · rintro ⟨h0, h1⟩
    have e1 : i ≤ x / s := Int.le_ediv_of_mul_le hs h0
    have e2 : x / s < i + 1 := Int.ediv_lt_of_lt_mul hs (by rw [Int.add_mul, Int.one_mul]; exact h1)
    omega
  · rintro rfl
    have := Int.mul_ediv_add_emod x s
    have h0 := Int.emod_nonneg x (show s ≠ 0 by omega)
    have h1 := Int.emod_lt_of_pos x hs
    rw [Int.mul_comm] at this
    omega

theorem has_of {c : Cfg} (ho : CfgOk c) {k : Int} (h0 : 0 ≤ k) (h1 : k < c.cols * c.rows) (x y : Int) :
    hasF (zoneF c k).1 (zoneF c k).2.1 (zoneF c k).2.2.1 (zoneF c k).2.2.2 x y = (ofF c x y == k) := by
  obtain ⟨e, a0, a1, b0, b1, i0, i1, j0, j1⟩ := zone_rng ho h0 h1
  have hs0 := ho.s0; have hs1 := ho.s1; have hc0 := ho.c0
  obtain ⟨p1, p2, p3, p4⟩ := ho.prod
  rw [e]
  unfold hasF
  simp only
  rw [clampF_id (k % c.cols * c.side) (by omega) (by omega), clampF_id (k / c.cols * c.side) (by omega) (by omega), clampF_id (k % c.cols * c.side + c.side) (by omega) (by omega), clampF_id (k / c.cols * c.side + c.side) (by omega) (by omega)]
  have hx : (k % c.cols * c.side ≤ clampF x ∧ clampF x < k % c.cols * c.side + c.side) ↔ (k % c.cols * c.side ≤ x ∧ x < k % c.cols * c.side + c.side) := by unfold clampF; omega
  have hy : (k / c.cols * c.side ≤ clampF y ∧ clampF y < k / c.cols * c.side + c.side) ↔ (k / c.cols * c.side ≤ y ∧ y < k / c.cols * c.side + c.side) := by unfold clampF; omega
  rw [Bool.eq_iff_iff, beq_iff_eq, decide_eq_true_iff]
  constructor
  · intro h
    obtain ⟨hx0, hx1⟩ := hx.1 ⟨h.1, h.2.1⟩
    obtain ⟨hy0, hy1⟩ := hy.1 h.2.2
    have ex := (div_iff (by omega)).1 ⟨hx0, hx1⟩
    have ey := (div_iff (by omega)).1 ⟨hy0, hy1⟩
    have q1 : (k % c.cols + 1) * c.side ≤ c.cols * c.side := Int.mul_le_mul_of_nonneg_right (by omega) (by omega)
    have q2 : (k / c.cols + 1) * c.side ≤ c.rows * c.side := Int.mul_le_mul_of_nonneg_right (by omega) (by omega)
    rw [Int.add_mul, Int.one_mul] at q1 q2
    have hin : inW c x y = true := decide_eq_true ⟨by omega, by omega, by omega, by omega⟩
    unfold ofF
    rw [hin, if_pos rfl, ex, ey]
    have := Int.mul_ediv_add_emod k c.cols
    rw [Int.mul_comm] at this
    exact this
  · intro h
    cases hin : inW c x y with
    | false => unfold ofF at h; rw [hin] at h; simp at h; omega
    | true =>
      obtain ⟨e1, u0, u1, v0, v1, _⟩ := ofF_in ho hin
      rw [e1] at h
      obtain ⟨m1, m2⟩ := col_row (cy := y / c.side) u0 u1
      rw [h] at m1 m2
      have hx' := hx.2 ((div_iff (by omega)).2 m1.symm)
      have hy' := hy.2 ((div_iff (by omega)).2 m2.symm)
      exact ⟨hx'.1, hx'.2, hy'.1, hy'.2⟩

theorem of_rng {c : Cfg} (ho : CfgOk c) (x y : Int) : ofF c x y = -1 ∨ 0 ≤ ofF c x y ∧ ofF c x y < c.cols * c.rows := by
  cases hin : inW c x y with
  | false => left; unfold ofF; rw [hin]; rfl
  | true => obtain ⟨_, _, _, _, _, h⟩ := ofF_in ho hin; exact Or.inr h

set_option maxRecDepth 100000 in
set_option maxHeartbeats 1000000 in
theorem rof_any (cols rows side radius speed ids queue : Int) (x y : Int) (w : World) (ho : CfgOk ⟨cols, rows, side, radius, speed, ids, queue⟩) :
    Calls Try.prog 31 #[.agg #[.int .i64 cols, .int .i64 rows, .int .i64 side, .int .i64 radius, .int .i64 speed, .int .i64 ids, .int .i64 queue], .int .i64 x, .int .i64 y] w fun e w' => e = .returned (.int .i64 (ofF ⟨cols, rows, side, radius, speed, ids, queue⟩ x y)) ∧ Below w.heap.size w w' := by
  have HZ := Lib.hid (fun k W => rzone_any cols rows side radius speed ids queue k W ho)
  have HA := Lib.hid (fun k h0 h1 => has_of ho (k := k) h0 h1 x y)
  have HR := Lib.hid (of_rng ho x y)
  obtain ⟨n1, n2⟩ := ho.cnt
  simp only at n1 n2 HR HA
  clear ho
  generalize hr : ofF ⟨cols, rows, side, radius, speed, ids, queue⟩ x y = r at *
  generalize hzf : zoneF ⟨cols, rows, side, radius, speed, ids, queue⟩ = zf at *
  clear hr hzf
  obtain ⟨cnt, hcnt⟩ : ∃ cnt : Nat, cols * rows = (cnt : Int) := ⟨(cols * rows).toNat, by omega⟩
  rw [hcnt] at n1 n2 HR HA
  have v1 : IntKind.i64.wrap (cols * rows) = (cnt : Int) := by rw [hcnt, IntKind.wrap_i64]; omega
  clear hcnt
  go_enter Try.func31, Try.ntmps31
  go_wp2_with fail
  go_loopg [7] cnt (fun kx sx wr => ∃ k : Nat, sx = .int .i64 k ∧ k ≤ cnt ∧ cnt - k ≤ kx ∧ Hid (Below w.heap.size w wr) ∧ w.heap.size < wr.heap.size ∧ Hid (∀ u, wr.cell? ⟨w.heap.size, u, none⟩ = (#[.int .i64 cols, .int .i64 rows, .int .i64 side, .int .i64 radius, .int .i64 speed, .int .i64 ids, .int .i64 queue] : Array Value)[u]?) ∧ Hid (r < 0 ∨ (k : Int) ≤ r))
  case atStart => exact ⟨0, by go_num, by omega, by omega, Lib.hid (by repeat' (first | (with_reducible exact Below.refl _ _) | (with_reducible assumption) | (with_reducible refine below_drewN ?_ _) | (with_reducible refine below_more _ _ _ ?_ ?_) | (with_reducible refine Below.alloc ?_ ?_ _) | (with_reducible refine Below.drew ?_) | (with_reducible refine Below.setCell ?_ ?_ _) | go_size)), by simp, Lib.hid (fun u => by simp), Lib.hid (by omega)⟩
  case round =>
    obtain ⟨k, rfl, hk, hkx, HW, hsz, HB, HK⟩ := hrel
    obtain ⟨z0, z1, z2⟩ := ltw hsz
    have y0 := HB.out 0; simp at y0
    have y1 := HB.out 1; simp at y1
    have y2 := HB.out 2; simp at y2
    have y3 := HB.out 3; simp at y3
    have y4 := HB.out 4; simp at y4
    have y5 := HB.out 5; simp at y5
    have y6 := HB.out 6; simp at y6
    by_cases hlt : k < cnt
    · have t1 : (k : Int) < (cnt : Int) := by omega
      have ha := HA.out k (by omega) t1
      have HH := Lib.hid (fun W => rHasR_any (zf k) x y W)
      rw [ha] at HH
      have HZK := Lib.hid (HZ.out k)
      clear ha
      generalize zf (k : Int) = zk at *
      cases he : (r == (k : Int)) with
      | true =>
        have hrk : r = (k : Int) := by simpa using he
        have HRK := Lib.hid hrk
        rw [he] at HH
        clear he hrk
        go_wp2_with fail
        refine (HZK.out _).mono ?_; rintro e w' ⟨rfl, hb⟩; obtain ⟨d1, os1, rfl⟩ := more_of hb; clear hb
        go_wp2_with fail
        refine (HH.out _).mono ?_; rintro e w' ⟨rfl, hb⟩; obtain ⟨d2, os2, rfl⟩ := more_of hb; clear hb
        go_wp2_with fail
        go_ret
        exact ⟨ret_int HRK.out.symm, HW.out.trans (Below.mono (B := wr.heap.size) (by repeat' (first | (with_reducible exact Below.refl _ _) | (with_reducible assumption) | (with_reducible refine below_drewN ?_ _) | (with_reducible refine below_more _ _ _ ?_ ?_) | (with_reducible refine Below.alloc ?_ ?_ _) | (with_reducible refine Below.drew ?_) | (with_reducible refine Below.setCell ?_ ?_ _) | go_size)) HW.out.size)⟩
      | false =>
        have hrk : ¬ r = (k : Int) := by simpa using he
        have HRK := Lib.hid hrk
        rw [he] at HH
        clear he hrk
        go_wp2_with fail
        refine (HZK.out _).mono ?_; rintro e w' ⟨rfl, hb⟩; obtain ⟨d1, os1, rfl⟩ := more_of hb; clear hb
        go_wp2_with fail
        refine (HH.out _).mono ?_; rintro e w' ⟨rfl, hb⟩; obtain ⟨d2, os2, rfl⟩ := more_of hb; clear hb
        go_wp2_with fail
        go_roundg (cnt - (k + 1))
        case measure => omega
        case rel => exact ⟨k + 1, by go_num, by omega, by omega, Lib.hid (HW.out.trans (Below.mono (B := wr.heap.size) (by repeat' (first | (with_reducible exact Below.refl _ _) | (with_reducible assumption) | (with_reducible refine below_drewN ?_ _) | (with_reducible refine below_more _ _ _ ?_ ?_) | (with_reducible refine Below.alloc ?_ ?_ _) | (with_reducible refine Below.drew ?_) | (with_reducible refine Below.setCell ?_ ?_ _) | go_size)) HW.out.size)), by simp; omega, Lib.hid (fun u => by rw [← HB.out u]; exact Below.cell (B := wr.heap.size) (by repeat' (first | (with_reducible exact Below.refl _ _) | (with_reducible assumption) | (with_reducible refine below_drewN ?_ _) | (with_reducible refine below_more _ _ _ ?_ ?_) | (with_reducible refine Below.alloc ?_ ?_ _) | (with_reducible refine Below.drew ?_) | (with_reducible refine Below.setCell ?_ ?_ _) | go_size)) (by simpa using hsz)), Lib.hid (by have := HK.out; have := HRK.out; omega)⟩
    · have t1 : ¬ (k : Int) < (cnt : Int) := by omega
      obtain rfl : k = cnt := by omega
      have hr1 : r = -1 := by have h1 := HK.out; have h2 := HR.out; omega
      have HR1 := Lib.hid hr1
      clear hr1
      go_wp2_with fail
      go_ret
      exact ⟨ret_int HR1.out.symm, HW.out⟩
end Go.Proofs.Ytbghjklnlhoklaa
