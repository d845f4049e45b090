/-
  Walks of the reference of chapter 9: Error, half, Bit, in, Right, RightID, May, takes. Each function computes its plain twin; new memory alone is written. Condition of half and Bit: the number is an int (64 bits).
-/
import Derived.Test.YtcnclcfipabimaaEq
namespace Go.Proofs.Ytcnclcfipabimaa
open Go.RowKit

theorem tmod_two (m : Int) : m.tmod 2 = if m % 2 = 0 then 0 else if m < 0 then -1 else 1 := by
  rcases Int.lt_or_le m 0 with h | h
  · have e : m.tmod 2 = -((-m) % 2) := by
      have := Int.neg_tmod (-m) 2
      rw [Int.neg_neg] at this
      rw [this, Int.tmod_eq_emod_of_nonneg (by omega)]
    rw [e]
    split <;> omega
  · rw [Int.tmod_eq_emod_of_nonneg h]
    split <;> omega

theorem tdiv_two (m : Int) : m.tdiv 2 = if m % 2 = 0 then m / 2 else if m < 0 then m / 2 + 1 else m / 2 := by
  have h := Int.tmod_add_mul_tdiv m 2
  rw [tmod_two] at h
  split at h <;> omega

theorem wrap64_at (n : Int) (h0 : -9223372036854775808 ≤ n) (h1 : n ≤ 9223372036854775807) : wrap64 n = n := by unfold wrap64; omega

theorem half_neg_odd (m : Int) (h0 : -9223372036854775808 ≤ m) (h1 : m < 0) (h2 : (m.tmod 2 != 0) = true) : wrap64 ((wrap64 (m - 1)).tdiv 2) = m / 2 := by
  rw [bne_iff_ne, tmod_two] at h2
  have ho : m % 2 ≠ 0 := by intro h; simp [h] at h2
  rw [wrap64_at (m - 1) (by omega) (by omega), tdiv_two, if_pos (by omega), wrap64_at _ (by omega) (by omega)]
  omega

theorem half_neg_even (m : Int) (h0 : -9223372036854775808 ≤ m) (h1 : m < 0) (h2 : (m.tmod 2 != 0) = false) : wrap64 (m.tdiv 2) = m / 2 := by
  rw [bne_eq_false_iff_eq, tmod_two] at h2
  have ho : m % 2 = 0 := by
    by_cases h : m % 2 = 0
    · exact h
    · rw [if_neg h] at h2; split at h2 <;> omega
  rw [tdiv_two, if_pos ho, wrap64_at _ (by omega) (by omega)]

theorem half_any (m : Int) (w : World) (h0 : -9223372036854775808 ≤ m) (h1 : m ≤ 9223372036854775807) : Calls Try.prog 131 #[.int .i64 m] w fun e w' => e = .returned (.int .i64 (m / 2)) ∧ w = w' := by
  generalize hr : m / 2 = r
  have HR := Lib.hid hr
  clear hr
  have H0 := Lib.hid h0
  clear h0
  go_enter Try.func131, Try.ntmps131
  go_wp2
  · go_ret
    refine ⟨?_, rfl⟩
    rw [← HR.out]
    exact congrArg (fun n => Ending.returned (Value.int .i64 n)) (half_neg_odd m H0.out (by assumption) (by assumption))
  · go_ret
    refine ⟨?_, rfl⟩
    rw [← HR.out]
    exact congrArg (fun n => Ending.returned (Value.int .i64 n)) (half_neg_even m H0.out (by assumption) (by assumption))
  · go_ret
    exact ⟨by rw [← HR.out]; rfl, rfl⟩

theorem bit_end (q : Int) : (q.tmod 2 != 0) = !(q % 2 == 0) := by
  rw [tmod_two]
  by_cases h : q % 2 = 0
  · simp [h]
  · by_cases h2 : q < 0 <;> simp [h, h2]

set_option maxHeartbeats 1000000 in
theorem bit_any (m c : Int) (w : World) (h0 : -9223372036854775808 ≤ m) (h1 : m ≤ 9223372036854775807) (hc : c = 1 ∨ c = 2 ∨ c = 4 ∨ c = 8 ∨ c = 16) :
    Calls Try.prog 96 #[.int .i64 m, .int .i64 c] w fun e w' => e = .returned (.bool (tb m c)) ∧ w = w' := by
  generalize hr : tb m c = r
  have HR := Lib.hid hr
  clear hr
  rcases hc with rfl | rfl | rfl | rfl | rfl
  all_goals
    go_enter Try.func96, Try.ntmps96
    go_wp2_with fail
    refine wp_loop_rounds 5 ?_
    repeat any_goals (rw [rounds_succ]; go_wp2_with (go_at_call 131; refine (half_any _ _ (by omega) (by omega)).mono ?_; rintro e w' ⟨rfl, rfl⟩))
    go_ret
    refine ⟨?_, rfl⟩
    rw [← HR.out]
    unfold tb
    refine congrArg (fun b => Ending.returned (Value.bool b)) ?_
    refine (bit_end _).trans ?_
    refine congrArg (fun n : Int => !(n % 2 == 0)) ?_
    omega

theorem rIn_any (n lo hi : Int) (h : Bool) (w : World) :
    Calls Try.prog 132 #[.int .i64 n, .int .i64 lo, .int .i64 hi, .bool h] w fun e w' => e = .returned (.bool (withinB h n lo hi)) ∧ w = w' := by
  cases h
  · go_enter Try.func132, Try.ntmps132
    go_wp2
    go_ret
    exact ⟨rfl, rfl⟩
  · by_cases h1 : lo ≤ n
    · go_enter Try.func132, Try.ntmps132
      go_wp2
      go_ret
      exact ⟨by simp [withinB, inR]; omega, rfl⟩
    · go_enter Try.func132, Try.ntmps132
      go_wp2
      go_ret
      exact ⟨by simp [withinB, inR]; omega, rfl⟩

theorem rTakes_any (m : Int) (w : World) : Calls Try.prog 114 #[.int .i64 m] w fun e w' => e = .returned (.bool (rTakesB m)) ∧ w = w' := by
  generalize hr : rTakesB m = r
  have HR := Lib.hid hr
  clear hr
  go_enter Try.func114, Try.ntmps114
  go_wp2
  all_goals go_ret
  all_goals refine ⟨?_, rfl⟩
  all_goals go_tidy
  all_goals (have h := HR.out; rw [← h]; simp [rTakesB, *]; try omega)

theorem rRightID_any (s i g : Int) (w : World) :
    Calls Try.prog 98 #[.agg #[.int .i64 s, .int .i64 i, .int .i64 g]] w fun e w' => e = .returned (.bool (rIdOk s i g)) ∧ Below w.heap.size w w' := by
  generalize hr : rIdOk _ _ _ = r
  have HR := Lib.hid hr
  clear hr
  go_enter Try.func98, Try.ntmps98
  go_wp2
  all_goals go_ret
  all_goals refine ⟨?_, by go_grown⟩
  all_goals go_tidy
  all_goals (have h := HR.out; rw [← h]; simp [rIdOk, *]; try omega)

end Go.Proofs.Ytcnclcfipabimaa
