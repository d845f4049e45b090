/-
  The reference of rectangles: None, Has, nearest, Gap. No condition.
-/
import Derived.Test.YtcnclcfipabimaaMca
import Derived.Test.YtcnclcfipabimaaShB
namespace Go.Proofs.Ytcnclcfipabimaa
open Go.RowKit


theorem rNone_any (x0 y0 x1 y1 : Int) (w : World) :
    Calls Try.prog 73 #[.agg #[.int .i64 x0, .int .i64 y0, .int .i64 x1, .int .i64 y1]] w fun e w' => e = .returned (.bool (!boxOk x0 y0 x1 y1)) ∧ Below w.heap.size w w' := by
  unfold boxOk
  have C0 := Lib.hid (fun W => rClamp_any x0 W)
  have C1 := Lib.hid (fun W => rClamp_any y0 W)
  have C2 := Lib.hid (fun W => rClamp_any x1 W)
  have C3 := Lib.hid (fun W => rClamp_any y1 W)
  generalize clampF x0 = a0 at *
  generalize clampF y0 = b0 at *
  generalize clampF x1 = a1 at *
  generalize clampF y1 = b1 at *
  by_cases h1 : a0 < a1
  · have d1 : decide (a1 ≤ a0) = false := decide_eq_false (by omega)
    have e1 : decide (a0 < a1) = true := decide_eq_true h1
    by_cases h2 : b0 < b1
    · have d2 : decide (b1 ≤ b0) = false := decide_eq_false (by omega)
      have e2 : decide (b0 < b1) = true := decide_eq_true h2
      rw [e1, e2]
      go_enter Try.func73, Try.ntmps73
      go_wp2_with fail
      refine wp_region_more (by kernel_rfl) (by kernel_rfl) ?_
      repeat (go_big_quiet_step ((first | (go_at_call 112; with_reducible exact more_same (C0.out _)) | (go_at_call 112; with_reducible exact more_same (C1.out _)) | (go_at_call 112; with_reducible exact more_same (C2.out _)) | (go_at_call 112; with_reducible exact more_same (C3.out _)))))
      refine wpQuiet_nil ?_
      rintro _ ⟨pm, rfl⟩
      go_wp2_with fail
      go_ret
      exact ⟨rfl, (by repeat' (first | (with_reducible exact Below.refl _ _) | (with_reducible assumption) | (with_reducible refine below_drewN ?_ _) | (with_reducible refine below_more _ _ _ ?_ ?_) | (with_reducible refine Below.alloc ?_ ?_ _) | (with_reducible refine Below.drew ?_) | (with_reducible refine Below.setCell ?_ ?_ _) | go_size))⟩
    · have d2 : decide (b1 ≤ b0) = true := decide_eq_true (by omega)
      have e2 : decide (b0 < b1) = false := decide_eq_false h2
      rw [e1, e2]
      go_enter Try.func73, Try.ntmps73
      go_wp2_with fail
      refine wp_region_more (by kernel_rfl) (by kernel_rfl) ?_
      repeat (go_big_quiet_step ((first | (go_at_call 112; with_reducible exact more_same (C0.out _)) | (go_at_call 112; with_reducible exact more_same (C1.out _)) | (go_at_call 112; with_reducible exact more_same (C2.out _)) | (go_at_call 112; with_reducible exact more_same (C3.out _)))))
      refine wpQuiet_nil ?_
      rintro _ ⟨pm, rfl⟩
      go_wp2_with fail
      go_ret
      exact ⟨rfl, (by repeat' (first | (with_reducible exact Below.refl _ _) | (with_reducible assumption) | (with_reducible refine below_drewN ?_ _) | (with_reducible refine below_more _ _ _ ?_ ?_) | (with_reducible refine Below.alloc ?_ ?_ _) | (with_reducible refine Below.drew ?_) | (with_reducible refine Below.setCell ?_ ?_ _) | go_size))⟩
  · have d1 : decide (a1 ≤ a0) = true := decide_eq_true (by omega)
    have e1 : decide (a0 < a1) = false := decide_eq_false h1
    rw [e1]
    go_enter Try.func73, Try.ntmps73
    go_wp2_with fail
    refine wp_region_more (by kernel_rfl) (by kernel_rfl) ?_
    repeat (go_big_quiet_step ((first | (go_at_call 112; with_reducible exact more_same (C0.out _)) | (go_at_call 112; with_reducible exact more_same (C1.out _)) | (go_at_call 112; with_reducible exact more_same (C2.out _)) | (go_at_call 112; with_reducible exact more_same (C3.out _)))))
    refine wpQuiet_nil ?_
    rintro _ ⟨pm, rfl⟩
    go_wp2_with fail
    go_ret
    exact ⟨rfl, (by repeat' (first | (with_reducible exact Below.refl _ _) | (with_reducible assumption) | (with_reducible refine below_drewN ?_ _) | (with_reducible refine below_more _ _ _ ?_ ?_) | (with_reducible refine Below.alloc ?_ ?_ _) | (with_reducible refine Below.drew ?_) | (with_reducible refine Below.setCell ?_ ?_ _) | go_size))⟩

/-- Lies a point in a rectangle, by clamped numbers? -/
def hasF (x0 y0 x1 y1 x y : Int) : Bool := decide (clampF x0 ≤ clampF x ∧ clampF x < clampF x1 ∧ clampF y0 ≤ clampF y ∧ clampF y < clampF y1)

theorem rHas_any (x0 y0 x1 y1 x y : Int) (w : World) :
    Calls Try.prog 72 #[.agg #[.int .i64 x0, .int .i64 y0, .int .i64 x1, .int .i64 y1], .int .i64 x, .int .i64 y] w fun e w' => e = .returned (.bool (hasF x0 y0 x1 y1 x y)) ∧ Below w.heap.size w w' := by
  unfold hasF
  have CX := Lib.hid (fun W => rClamp_any x W)
  have CY := Lib.hid (fun W => rClamp_any y W)
  have C0 := Lib.hid (fun W => rClamp_any x0 W)
  have C1 := Lib.hid (fun W => rClamp_any y0 W)
  have C2 := Lib.hid (fun W => rClamp_any x1 W)
  have C3 := Lib.hid (fun W => rClamp_any y1 W)
  generalize clampF x0 = a0 at *
  generalize clampF y0 = b0 at *
  generalize clampF x1 = a1 at *
  generalize clampF y1 = b1 at *
  generalize clampF x = cx at *
  generalize clampF y = cy at *
  
  by_cases h1 : a0 ≤ cx
  · have d1 : decide (a0 ≤ cx) = true := decide_eq_true h1
    by_cases h2 : cx < a1
    · have d2 : decide (cx < a1) = true := decide_eq_true h2
      by_cases h3 : b0 ≤ cy
      · have d3 : decide (b0 ≤ cy) = true := decide_eq_true h3
        by_cases h4 : cy < b1
        · have d4 : decide (cy < b1) = true := decide_eq_true h4
          rw [show decide (a0 ≤ cx ∧ cx < a1 ∧ b0 ≤ cy ∧ cy < b1) = true from decide_eq_true ⟨h1, h2, h3, h4⟩]
          go_enter Try.func72, Try.ntmps72
          go_wp2_with fail
          refine (CX.out _).mono ?_; rintro e w' ⟨rfl, rfl⟩
          go_wp2_with fail
          refine (CY.out _).mono ?_; rintro e w' ⟨rfl, rfl⟩
          go_wp2_with fail
          refine (C0.out _).mono ?_; rintro e w' ⟨rfl, rfl⟩
          go_wp2_with fail
          refine (C2.out _).mono ?_; rintro e w' ⟨rfl, rfl⟩
          go_wp2_with fail
          refine (C1.out _).mono ?_; rintro e w' ⟨rfl, rfl⟩
          go_wp2_with fail
          refine (C3.out _).mono ?_; rintro e w' ⟨rfl, rfl⟩
          go_wp2_with fail
          go_ret
          exact ⟨rfl, (by repeat' (first | (with_reducible exact Below.refl _ _) | (with_reducible assumption) | (with_reducible refine below_drewN ?_ _) | (with_reducible refine below_more _ _ _ ?_ ?_) | (with_reducible refine Below.alloc ?_ ?_ _) | (with_reducible refine Below.drew ?_) | (with_reducible refine Below.setCell ?_ ?_ _) | go_size))⟩
        · have d4 : decide (cy < b1) = false := decide_eq_false h4
          rw [show decide (a0 ≤ cx ∧ cx < a1 ∧ b0 ≤ cy ∧ cy < b1) = false from decide_eq_false (by omega)]
          go_enter Try.func72, Try.ntmps72
          go_wp2_with fail
          refine (CX.out _).mono ?_; rintro e w' ⟨rfl, rfl⟩
          go_wp2_with fail
          refine (CY.out _).mono ?_; rintro e w' ⟨rfl, rfl⟩
          go_wp2_with fail
          refine (C0.out _).mono ?_; rintro e w' ⟨rfl, rfl⟩
          go_wp2_with fail
          refine (C2.out _).mono ?_; rintro e w' ⟨rfl, rfl⟩
          go_wp2_with fail
          refine (C1.out _).mono ?_; rintro e w' ⟨rfl, rfl⟩
          go_wp2_with fail
          refine (C3.out _).mono ?_; rintro e w' ⟨rfl, rfl⟩
          go_wp2_with fail
          go_ret
          exact ⟨rfl, (by repeat' (first | (with_reducible exact Below.refl _ _) | (with_reducible assumption) | (with_reducible refine below_drewN ?_ _) | (with_reducible refine below_more _ _ _ ?_ ?_) | (with_reducible refine Below.alloc ?_ ?_ _) | (with_reducible refine Below.drew ?_) | (with_reducible refine Below.setCell ?_ ?_ _) | go_size))⟩
      · have d3 : decide (b0 ≤ cy) = false := decide_eq_false h3
        rw [show decide (a0 ≤ cx ∧ cx < a1 ∧ b0 ≤ cy ∧ cy < b1) = false from decide_eq_false (by omega)]
        go_enter Try.func72, Try.ntmps72
        go_wp2_with fail
        refine (CX.out _).mono ?_; rintro e w' ⟨rfl, rfl⟩
        go_wp2_with fail
        refine (CY.out _).mono ?_; rintro e w' ⟨rfl, rfl⟩
        go_wp2_with fail
        refine (C0.out _).mono ?_; rintro e w' ⟨rfl, rfl⟩
        go_wp2_with fail
        refine (C2.out _).mono ?_; rintro e w' ⟨rfl, rfl⟩
        go_wp2_with fail
        refine (C1.out _).mono ?_; rintro e w' ⟨rfl, rfl⟩
        go_wp2_with fail
        go_ret
        exact ⟨rfl, (by repeat' (first | (with_reducible exact Below.refl _ _) | (with_reducible assumption) | (with_reducible refine below_drewN ?_ _) | (with_reducible refine below_more _ _ _ ?_ ?_) | (with_reducible refine Below.alloc ?_ ?_ _) | (with_reducible refine Below.drew ?_) | (with_reducible refine Below.setCell ?_ ?_ _) | go_size))⟩
    · have d2 : decide (cx < a1) = false := decide_eq_false h2
      rw [show decide (a0 ≤ cx ∧ cx < a1 ∧ b0 ≤ cy ∧ cy < b1) = false from decide_eq_false (by omega)]
      go_enter Try.func72, Try.ntmps72
      go_wp2_with fail
      refine (CX.out _).mono ?_; rintro e w' ⟨rfl, rfl⟩
      go_wp2_with fail
      refine (CY.out _).mono ?_; rintro e w' ⟨rfl, rfl⟩
      go_wp2_with fail
      refine (C0.out _).mono ?_; rintro e w' ⟨rfl, rfl⟩
      go_wp2_with fail
      refine (C2.out _).mono ?_; rintro e w' ⟨rfl, rfl⟩
      go_wp2_with fail
      go_ret
      exact ⟨rfl, (by repeat' (first | (with_reducible exact Below.refl _ _) | (with_reducible assumption) | (with_reducible refine below_drewN ?_ _) | (with_reducible refine below_more _ _ _ ?_ ?_) | (with_reducible refine Below.alloc ?_ ?_ _) | (with_reducible refine Below.drew ?_) | (with_reducible refine Below.setCell ?_ ?_ _) | go_size))⟩
  · have d1 : decide (a0 ≤ cx) = false := decide_eq_false h1
    rw [show decide (a0 ≤ cx ∧ cx < a1 ∧ b0 ≤ cy ∧ cy < b1) = false from decide_eq_false (by omega)]
    go_enter Try.func72, Try.ntmps72
    go_wp2_with fail
    refine (CX.out _).mono ?_; rintro e w' ⟨rfl, rfl⟩
    go_wp2_with fail
    refine (CY.out _).mono ?_; rintro e w' ⟨rfl, rfl⟩
    go_wp2_with fail
    refine (C0.out _).mono ?_; rintro e w' ⟨rfl, rfl⟩
    go_wp2_with fail
    go_ret
    exact ⟨rfl, (by repeat' (first | (with_reducible exact Below.refl _ _) | (with_reducible assumption) | (with_reducible refine below_drewN ?_ _) | (with_reducible refine below_more _ _ _ ?_ ?_) | (with_reducible refine Below.alloc ?_ ?_ _) | (with_reducible refine Below.drew ?_) | (with_reducible refine Below.setCell ?_ ?_ _) | go_size))⟩

def nearestF (n lo hi : Int) : Int := if clampF n < clampF lo then clampF lo else if clampF n ≥ clampF hi then clampF hi - 1 else clampF n

theorem rnearest_any (n lo hi : Int) (w : World) :
    Calls Try.prog 75 #[.int .i64 n, .int .i64 lo, .int .i64 hi] w fun e w' => e = .returned (.int .i64 (nearestF n lo hi)) ∧ w = w' := by
  unfold nearestF
  have l1 := clampF_lo hi
  have l2 := clampF_hi hi
  have C0 := Lib.hid (fun W => rClamp_any n W)
  have C1 := Lib.hid (fun W => rClamp_any lo W)
  have C2 := Lib.hid (fun W => rClamp_any hi W)
  generalize clampF n = cn at *
  generalize clampF lo = cl at *
  generalize clampF hi = ch at *
  have w1 : IntKind.i64.wrap (ch - 1) = ch - 1 := by rw [IntKind.wrap_i64]; omega
  
  by_cases h1 : cn < cl
  · rw [if_pos h1]
    go_enter Try.func75, Try.ntmps75
    go_wp2_with fail
    refine (C0.out _).mono ?_; rintro e w' ⟨rfl, rfl⟩
    go_wp2_with fail
    refine (C1.out _).mono ?_; rintro e w' ⟨rfl, rfl⟩
    go_wp2_with fail
    refine (C2.out _).mono ?_; rintro e w' ⟨rfl, rfl⟩
    go_wp2_with fail
    go_ret
    exact ⟨rfl, rfl⟩
  · rw [if_neg h1]
    by_cases h2 : cn ≥ ch
    · rw [if_pos h2]
      have h2' : ch ≤ cn := h2
      go_enter Try.func75, Try.ntmps75
      go_wp2_with fail
      refine (C0.out _).mono ?_; rintro e w' ⟨rfl, rfl⟩
      go_wp2_with fail
      refine (C1.out _).mono ?_; rintro e w' ⟨rfl, rfl⟩
      go_wp2_with fail
      refine (C2.out _).mono ?_; rintro e w' ⟨rfl, rfl⟩
      go_wp2_with fail
      go_ret
      exact ⟨rfl, rfl⟩
    · rw [if_neg h2]
      have h2' : ¬ ch ≤ cn := h2
      go_enter Try.func75, Try.ntmps75
      go_wp2_with fail
      refine (C0.out _).mono ?_; rintro e w' ⟨rfl, rfl⟩
      go_wp2_with fail
      refine (C1.out _).mono ?_; rintro e w' ⟨rfl, rfl⟩
      go_wp2_with fail
      refine (C2.out _).mono ?_; rintro e w' ⟨rfl, rfl⟩
      go_wp2_with fail
      go_ret
      exact ⟨rfl, rfl⟩

theorem nearestF_rng (n lo hi : Int) (h : clampF lo < clampF hi) : -1073741824 ≤ nearestF n lo hi ∧ nearestF n lo hi ≤ 1073741824 := by
  have l1 := clampF_lo lo; have l2 := clampF_hi lo; have l3 := clampF_lo hi; have l4 := clampF_hi hi
  have m1 := clampF_lo n; have m2 := clampF_hi n
  unfold nearestF
  split
  · omega
  · split <;> omega

/-- The nearest point is as far away as the rectangle is. -/
theorem near_gap (x0 y0 x1 y1 x y : Int) (h : boxOk x0 y0 x1 y1 = true) : farF x y (nearestF x x0 x1) (nearestF y y0 y1) = gapF x0 y0 x1 y1 x y := by
  have hb := h
  unfold gapF
  rw [h, if_pos rfl]
  unfold boxOk at hb
  simp only [Bool.and_eq_true, decide_eq_true_iff] at hb
  have l1 := clampF_lo x0; have l2 := clampF_hi x0; have l3 := clampF_lo y0; have l4 := clampF_hi y0
  have l5 := clampF_lo x1; have l6 := clampF_hi x1; have l7 := clampF_lo y1; have l8 := clampF_hi y1
  have m1 := clampF_lo x; have m2 := clampF_hi x; have m3 := clampF_lo y; have m4 := clampF_hi y
  have nx : clampF (nearestF x x0 x1) = nearestF x x0 x1 := clampF_id _ (nearestF_rng x x0 x1 hb.1).1 (nearestF_rng x x0 x1 hb.1).2
  have ny : clampF (nearestF y y0 y1) = nearestF y y0 y1 := clampF_id _ (nearestF_rng y y0 y1 hb.2).1 (nearestF_rng y y0 y1 hb.2).2
  unfold farF
  rw [nx, ny]
  unfold nearestF offF
  generalize clampF x0 = a0 at *
  generalize clampF y0 = b0 at *
  generalize clampF x1 = a1 at *
  generalize clampF y1 = b1 at *
  generalize clampF x = cx at *
  generalize clampF y = cy at *
  clear nx ny h
  repeat' split
  all_goals omega

theorem rGap_any (x0 y0 x1 y1 x y : Int) (w : World) :
    Calls Try.prog 37 #[.agg #[.int .i64 x0, .int .i64 y0, .int .i64 x1, .int .i64 y1], .int .i64 x, .int .i64 y] w fun e w' => e = .returned (.int .i64 (gapF x0 y0 x1 y1 x y)) ∧ Below w.heap.size w w' := by
  have HN := Lib.hid (fun W => rNone_any x0 y0 x1 y1 W)
  cases hok : boxOk x0 y0 x1 y1 with
  | false =>
    rw [hok] at HN
    rw [show gapF x0 y0 x1 y1 x y = -1 by unfold gapF; rw [hok]; rfl]
    go_enter Try.func37, Try.ntmps37
    go_wp2_with (go_at_call 73; refine (HN.out _).mono ?_; rintro e w' ⟨rfl, hb⟩; obtain ⟨d, os, rfl⟩ := more_of hb; clear hb)
    go_ret
    exact ⟨rfl, (by repeat' (first | (with_reducible exact Below.refl _ _) | (with_reducible assumption) | (with_reducible refine below_drewN ?_ _) | (with_reducible refine below_more _ _ _ ?_ ?_) | (with_reducible refine Below.alloc ?_ ?_ _) | (with_reducible refine Below.drew ?_) | (with_reducible refine Below.setCell ?_ ?_ _) | go_size))⟩
  | true =>
    rw [hok] at HN
    rw [← near_gap x0 y0 x1 y1 x y hok]
    have HF := Lib.hid (fun W => rFar_any x y (nearestF x x0 x1) (nearestF y y0 y1) W)
    have H1 := Lib.hid (fun W => rnearest_any x x0 x1 W)
    have H2 := Lib.hid (fun W => rnearest_any y y0 y1 W)
    generalize farF x y (nearestF x x0 x1) (nearestF y y0 y1) = r at *
    generalize nearestF x x0 x1 = nx at *
    generalize nearestF y y0 y1 = ny at *
    go_enter Try.func37, Try.ntmps37
    go_wp2_with (go_at_call 73; refine (HN.out _).mono ?_; rintro e w' ⟨rfl, hb⟩; obtain ⟨d, os, rfl⟩ := more_of hb; clear hb)
    refine wp_region_more (by kernel_rfl) (by kernel_rfl) ?_
    repeat (go_big_quiet_step ((first | (go_at_call 75; with_reducible exact more_same (H1.out _)) | (go_at_call 75; with_reducible exact more_same (H2.out _)) | (go_at_call 74; with_reducible exact more_same (HF.out _)))))
    refine wpQuiet_nil ?_
    rintro _ ⟨pm, rfl⟩
    go_wp2_with fail
    go_ret
    exact ⟨rfl, (by repeat' (first | (with_reducible exact Below.refl _ _) | (with_reducible assumption) | (with_reducible refine below_drewN ?_ _) | (with_reducible refine below_more _ _ _ ?_ ?_) | (with_reducible refine Below.alloc ?_ ?_ _) | (with_reducible refine Below.drew ?_) | (with_reducible refine Below.setCell ?_ ?_ _) | go_size))⟩
end Go.Proofs.Ytcnclcfipabimaa
