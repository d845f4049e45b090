/-
  Walks of package parts, first half: within, Has, CheckID, right, some. Each function computes its plain twin; new memory alone is written. No condition.
-/
import Derived.Test.YtbghjklnlhoklaaEq
namespace Go.Proofs.Ytbghjklnlhoklaa
open Go.RowKit

theorem within_any (h : Bool) (n lo hi : Int) (w : World) :
    Calls Try.prog 88 #[.bool h, .int .i64 n, .int .i64 lo, .int .i64 hi] w fun e w' => e = .returned (.bool (withinB h n lo hi)) ∧ w = w' := by
  cases h
  · go_enter Try.func88, Try.ntmps88
    go_wp2
    go_ret
    exact ⟨rfl, rfl⟩
  · by_cases h1 : lo ≤ n
    · go_enter Try.func88, Try.ntmps88
      go_wp2
      go_ret
      exact ⟨by simp [withinB, inR]; omega, rfl⟩
    · go_enter Try.func88, Try.ntmps88
      go_wp2
      go_ret
      exact ⟨by simp [withinB, inR]; omega, rfl⟩

theorem has_any (s i g m x y vx vy hp pw lf k : Int) (w : World) :
    Calls Try.prog 89 #[.agg #[.int .i64 s, .int .i64 i, .int .i64 g, .int .i64 m, .int .i64 x, .int .i64 y, .int .i64 vx, .int .i64 vy, .int .i64 hp, .int .i64 pw, .int .i64 lf], .int .i64 k] w fun e w' => e = .returned (.bool (hasB m k)) ∧ Below w.heap.size w w' := by
  go_enter Try.func89, Try.ntmps89
  go_wp2
  go_ret
  exact ⟨rfl, (Below.refl _ _).alloc (Nat.le_refl _) _⟩

set_option maxHeartbeats 400000 in
theorem checkID_any (s i g : Int) (w : World) :
    Calls Try.prog 67 #[.agg #[.int .i64 s, .int .i64 i, .int .i64 g]] w fun e w' => e = .returned (.int .i64 (errB (idOk s i g))) ∧ Below w.heap.size w w' := by
  generalize hr : errB _ = r
  have HR := Lib.hid hr
  clear hr
  go_enter Try.func67, Try.ntmps67
  go_wp2_with (go_at_call 88; refine (within_any _ _ _ _ _).mono ?_; rintro e w' ⟨rfl, rfl⟩)
  all_goals go_ret
  all_goals refine ⟨?_, by go_grown⟩
  all_goals go_tidy
  all_goals (have h := HR.out; rw [← h]; simp_all [errB, idOk, withinB])

theorem some_any (m : Int) (w : World) : Calls Try.prog 69 #[.int .i64 m] w fun e w' => e = .returned (.bool (someB m)) ∧ w = w' := by
  generalize hr : someB m = r
  have HR := Lib.hid hr
  clear hr
  go_enter Try.func69, Try.ntmps69
  go_wp2
  all_goals go_ret
  all_goals refine ⟨?_, rfl⟩
  all_goals go_tidy
  all_goals (have h := HR.out; rw [← h]; simp [someB, *]; try omega)

set_option maxHeartbeats 4000000 in
theorem right_any (s i g m x y vx vy hp pw lf : Int) (w : World) :
    Calls Try.prog 70 #[.agg #[.int .i64 s, .int .i64 i, .int .i64 g, .int .i64 m, .int .i64 x, .int .i64 y, .int .i64 vx, .int .i64 vy, .int .i64 hp, .int .i64 pw, .int .i64 lf]] w fun e w' => e = .returned (.bool (rightB ⟨s, i, g, m, x, y, vx, vy, hp, pw, lf⟩)) ∧ Below w.heap.size w w' := by
  generalize hr : rightB _ = r
  unfold rightB at hr
  have HR := Lib.hid hr
  clear hr
  by_cases hm : 0 ≤ m ∧ m ≤ 31
  · obtain ⟨hm0, hm1⟩ := hm
    go_enter Try.func70, Try.ntmps70
    go_wp2_with fail
    go_region_held3 (fun W => (Below w.heap.size w W ∧ w.heap.size ≤ W.heap.size ∧ w.heap.size < W.heap.size) ∧ ∀ j, W.cell? ⟨w.heap.size, j, none⟩ = (#[.int .i64 s, .int .i64 i, .int .i64 g, .int .i64 m, .int .i64 x, .int .i64 y, .int .i64 vx, .int .i64 vy, .int .i64 hp, .int .i64 pw, .int .i64 lf] : Array Value)[j]?) (first | exact box_new _ _ _ | exact box_keep hb (by assumption))
      (first | (go_at_call 89; refine (has_any _ _ _ _ _ _ _ _ _ _ _ _ _).mono ?_; rintro e w' ⟨rfl, hb⟩))
    go_wp2_with fail
    go_region_held3 (fun W => (Below w.heap.size w W ∧ w.heap.size ≤ W.heap.size ∧ w.heap.size < W.heap.size) ∧ ∀ j, W.cell? ⟨w.heap.size, j, none⟩ = (#[.int .i64 s, .int .i64 i, .int .i64 g, .int .i64 m, .int .i64 x, .int .i64 y, .int .i64 vx, .int .i64 vy, .int .i64 hp, .int .i64 pw, .int .i64 lf] : Array Value)[j]?) (first | exact box_keep hb (by assumption) | exact box_alloc _ (by assumption) | exact box_drew (by assumption))
      (first | (go_at_call 89; refine (has_any _ _ _ _ _ _ _ _ _ _ _ _ _).mono ?_; rintro e w' ⟨rfl, hb⟩))
    go_wp2_with fail
    rename_i hH
    obtain ⟨⟨hB, hsz, -⟩, -⟩ := hH
    simp only [World.size_alloc] at hsz
    refine wp_loop_rounds 8 ?_
    repeat any_goals (rw [rounds_succ]; go_wp2_with (go_at_call 88; refine (within_any _ _ _ _ _).mono ?_; rintro e w' ⟨rfl, rfl⟩))
    all_goals go_ret
    all_goals refine ⟨?_, by go_grown⟩
    all_goals clear hB hsz
    all_goals go_tidy
    all_goals (have h := HR.out; rw [← h]; simp only [Bool.not_eq_true', Bool.not_eq_false'] at *; simp [*, inR])
  · go_enter Try.func70, Try.ntmps70
    go_wp2_with fail
    all_goals go_ret
    all_goals refine ⟨?_, by go_grown⟩
    all_goals go_tidy
    all_goals (have h := HR.out; rw [← h]; simp [inR]; omega)

end Go.Proofs.Ytbghjklnlhoklaa
