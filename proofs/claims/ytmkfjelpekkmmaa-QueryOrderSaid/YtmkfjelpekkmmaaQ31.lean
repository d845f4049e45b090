/-
  Chapter texts RfA: what the claim reaches of them. Conditions stand at each theorem.
-/
import Derived.Test.YtmkfjelpekkmmaaQ27
namespace Go.Proofs.Ytmkfjelpekkmmaa
open Go.RowKit


def hasF (x0 y0 x1 y1 x y : Int) : Bool := decide (clampF x0 ≤ clampF x ∧ clampF x < clampF x1 ∧ clampF y0 ≤ clampF y ∧ clampF y < clampF y1)

theorem rHas_any (x0 y0 x1 y1 x y : Int) (w : World) :
    Calls Try.prog 42 #[.agg #[.int .i64 x0, .int .i64 y0, .int .i64 x1, .int .i64 y1], .int .i64 x, .int .i64 y] w fun e w' => e = .returned (.bool (hasF x0 y0 x1 y1 x y)) ∧ Below w.heap.size w w' := by
  unfold hasF
  have CX := Lib.hid (fun W => rClamp_any x W)
  have CY := Lib.hid (fun W => rClamp_any y W)
  have C0 := Lib.hid (fun W => rClamp_any x0 W)
  have C1 := Lib.hid (fun W => rClamp_any y0 W)
  have C2 := Lib.hid (fun W => rClamp_any x1 W)
  have C3 := Lib.hid (fun W => rClamp_any y1 W)
  generalize clampF x0 = a0 at *
  generalize clampF y0 = b0 at *
  generalize clampF x1 = a1 at *
  generalize clampF y1 = b1 at *
  generalize clampF x = cx at *
  generalize clampF y = cy at *
  
  by_cases h1 : a0 ≤ cx
  · have d1 : decide (a0 ≤ cx) = true := decide_eq_true h1
    by_cases h2 : cx < a1
    · have d2 : decide (cx < a1) = true := decide_eq_true h2
      by_cases h3 : b0 ≤ cy
      · have d3 : decide (b0 ≤ cy) = true := decide_eq_true h3
        by_cases h4 : cy < b1
        · have d4 : decide (cy < b1) = true := decide_eq_true h4
          rw [show decide (a0 ≤ cx ∧ cx < a1 ∧ b0 ≤ cy ∧ cy < b1) = true from decide_eq_true ⟨h1, h2, h3, h4⟩]
          go_enter Try.func42, Try.ntmps42
          go_wp2_with fail
          refine (CX.out _).mono ?_; rintro e w' ⟨rfl, rfl⟩
          go_wp2_with fail
          refine (CY.out _).mono ?_; rintro e w' ⟨rfl, rfl⟩
          go_wp2_with fail
          refine (C0.out _).mono ?_; rintro e w' ⟨rfl, rfl⟩
          go_wp2_with fail
          refine (C2.out _).mono ?_; rintro e w' ⟨rfl, rfl⟩
          go_wp2_with fail
          refine (C1.out _).mono ?_; rintro e w' ⟨rfl, rfl⟩
          go_wp2_with fail
          refine (C3.out _).mono ?_; rintro e w' ⟨rfl, rfl⟩
          go_wp2_with fail
          go_ret
          exact ⟨rfl, (by repeat' (first | (with_reducible exact Below.refl _ _) | (with_reducible assumption) | (with_reducible refine below_drewN ?_ _) | (with_reducible refine below_more _ _ _ ?_ ?_) | (with_reducible refine Below.alloc ?_ ?_ _) | (with_reducible refine Below.drew ?_) | (with_reducible refine Below.setCell ?_ ?_ _) | go_size))⟩
        · have d4 : decide (cy < b1) = false := decide_eq_false h4
          rw [show decide (a0 ≤ cx ∧ cx < a1 ∧ b0 ≤ cy ∧ cy < b1) = false from decide_eq_false (by omega)]
          go_enter Try.func42, Try.ntmps42
          go_wp2_with fail
          refine (CX.out _).mono ?_; rintro e w' ⟨rfl, rfl⟩
          go_wp2_with fail
          refine (CY.out _).mono ?_; rintro e w' ⟨rfl, rfl⟩
          go_wp2_with fail
          refine (C0.out _).mono ?_; rintro e w' ⟨rfl, rfl⟩
          go_wp2_with fail
          refine (C2.out _).mono ?_; rintro e w' ⟨rfl, rfl⟩
          go_wp2_with fail
          refine (C1.out _).mono ?_; rintro e w' ⟨rfl, rfl⟩
          go_wp2_with fail
          refine (C3.out _).mono ?_; rintro e w' ⟨rfl, rfl⟩
          go_wp2_with fail
          go_ret
          exact ⟨rfl, (by repeat' (first | (with_reducible exact Below.refl _ _) | (with_reducible assumption) | (with_reducible refine below_drewN ?_ _) | (with_reducible refine below_more _ _ _ ?_ ?_) | (with_reducible refine Below.alloc ?_ ?_ _) | (with_reducible refine Below.drew ?_) | (with_reducible refine Below.setCell ?_ ?_ _) | go_size))⟩
      · have d3 : decide (b0 ≤ cy) = false := decide_eq_false h3
        rw [show decide (a0 ≤ cx ∧ cx < a1 ∧ b0 ≤ cy ∧ cy < b1) = false from decide_eq_false (by omega)]
        go_enter Try.func42, Try.ntmps42
        go_wp2_with fail
        refine (CX.out _).mono ?_; rintro e w' ⟨rfl, rfl⟩
        go_wp2_with fail
        refine (CY.out _).mono ?_; rintro e w' ⟨rfl, rfl⟩
        go_wp2_with fail
        refine (C0.out _).mono ?_; rintro e w' ⟨rfl, rfl⟩
        go_wp2_with fail
        refine (C2.out _).mono ?_; rintro e w' ⟨rfl, rfl⟩
        go_wp2_with fail
        refine (C1.out _).mono ?_; rintro e w' ⟨rfl, rfl⟩
        go_wp2_with fail
        go_ret
        exact ⟨rfl, (by repeat' (first | (with_reducible exact Below.refl _ _) | (with_reducible assumption) | (with_reducible refine below_drewN ?_ _) | (with_reducible refine below_more _ _ _ ?_ ?_) | (with_reducible refine Below.alloc ?_ ?_ _) | (with_reducible refine Below.drew ?_) | (with_reducible refine Below.setCell ?_ ?_ _) | go_size))⟩
    · have d2 : decide (cx < a1) = false := decide_eq_false h2
      rw [show decide (a0 ≤ cx ∧ cx < a1 ∧ b0 ≤ cy ∧ cy < b1) = false from decide_eq_false (by omega)]
      go_enter Try.func42, Try.ntmps42
      go_wp2_with fail
      refine (CX.out _).mono ?_; rintro e w' ⟨rfl, rfl⟩
      go_wp2_with fail
      refine (CY.out _).mono ?_; rintro e w' ⟨rfl, rfl⟩
      go_wp2_with fail
      refine (C0.out _).mono ?_; rintro e w' ⟨rfl, rfl⟩
      go_wp2_with fail
      refine (C2.out _).mono ?_; rintro e w' ⟨rfl, rfl⟩
      go_wp2_with fail
      go_ret
      exact ⟨rfl, (by repeat' (first | (with_reducible exact Below.refl _ _) | (with_reducible assumption) | (with_reducible refine below_drewN ?_ _) | (with_reducible refine below_more _ _ _ ?_ ?_) | (with_reducible refine Below.alloc ?_ ?_ _) | (with_reducible refine Below.drew ?_) | (with_reducible refine Below.setCell ?_ ?_ _) | go_size))⟩
  · have d1 : decide (a0 ≤ cx) = false := decide_eq_false h1
    rw [show decide (a0 ≤ cx ∧ cx < a1 ∧ b0 ≤ cy ∧ cy < b1) = false from decide_eq_false (by omega)]
    go_enter Try.func42, Try.ntmps42
    go_wp2_with fail
    refine (CX.out _).mono ?_; rintro e w' ⟨rfl, rfl⟩
    go_wp2_with fail
    refine (CY.out _).mono ?_; rintro e w' ⟨rfl, rfl⟩
    go_wp2_with fail
    refine (C0.out _).mono ?_; rintro e w' ⟨rfl, rfl⟩
    go_wp2_with fail
    go_ret
    exact ⟨rfl, (by repeat' (first | (with_reducible exact Below.refl _ _) | (with_reducible assumption) | (with_reducible refine below_drewN ?_ _) | (with_reducible refine below_more _ _ _ ?_ ?_) | (with_reducible refine Below.alloc ?_ ?_ _) | (with_reducible refine Below.drew ?_) | (with_reducible refine Below.setCell ?_ ?_ _) | go_size))⟩

end Go.Proofs.Ytmkfjelpekkmmaa
