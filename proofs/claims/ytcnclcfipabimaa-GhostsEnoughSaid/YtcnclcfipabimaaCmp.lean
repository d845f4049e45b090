/-
  The order of names: parts.Compare and the reference's Before, with cmp.Compare and cmp.Or at int. No condition.
-/
import Derived.Test.YtcnclcfipabimaaEq
namespace Go.Proofs.Ytcnclcfipabimaa
open Go.RowKit

/-- -1, 0 or 1. -/
def cmpI (a b : Int) : Int := if a < b then -1 else if b < a then 1 else 0
/-- Two names. -/
def cmpId (s i g s' i' g' : Int) : Int := if cmpI s s' ≠ 0 then cmpI s s' else if cmpI i i' ≠ 0 then cmpI i i' else cmpI g g'
/-- The reference's. -/
def beforeB (s i g s' i' g' : Int) : Bool := if s ≠ s' then decide (s < s') else if i ≠ i' then decide (i < i') else decide (g < g')

theorem cmpI_spec (a b : Int) : (a < b ∧ cmpI a b = -1) ∨ (a = b ∧ cmpI a b = 0) ∨ (b < a ∧ cmpI a b = 1) := by
  unfold cmpI
  by_cases h : a < b
  · simp [h]
  · by_cases h2 : b < a
    · simp [h, h2]
    · simp [h, h2]; omega
theorem cmpId_neg (s i g s' i' g' : Int) : cmpId s' i' g' s i g = -cmpId s i g s' i' g' := by
  unfold cmpId
  have h1 := cmpI_spec s s'; have h2 := cmpI_spec i i'; have h3 := cmpI_spec g g'
  have k1 := cmpI_spec s' s; have k2 := cmpI_spec i' i; have k3 := cmpI_spec g' g
  repeat' split
  all_goals omega
theorem cmpId_self (s i g : Int) : cmpId s i g s i g = 0 := by
  unfold cmpId
  have h1 := cmpI_spec s s; have h2 := cmpI_spec i i; have h3 := cmpI_spec g g
  repeat' split
  all_goals omega
theorem cmpId_lo (s i g s' i' g' : Int) : -1 ≤ cmpId s i g s' i' g' ∧ cmpId s i g s' i' g' ≤ 1 := by
  unfold cmpId
  have h1 := cmpI_spec s s'; have h2 := cmpI_spec i i'; have h3 := cmpI_spec g g'
  repeat' split
  all_goals omega
theorem cmpId_before (s i g s' i' g' : Int) : beforeB s i g s' i' g' = decide (cmpId s i g s' i' g' < 0) := by
  unfold beforeB cmpId
  have h1 := cmpI_spec s s'; have h2 := cmpI_spec i i'; have h3 := cmpI_spec g g'
  repeat' split
  all_goals rw [decide_eq_decide]
  all_goals omega
set_option maxHeartbeats 4000000 in
theorem cmpId_trans (s i g s' i' g' s2 i2 g2 : Int) (h1 : cmpId s i g s' i' g' ≤ 0) (h2 : cmpId s' i' g' s2 i2 g2 ≤ 0) : cmpId s i g s2 i2 g2 = min (cmpId s i g s' i' g') (cmpId s' i' g' s2 i2 g2) := by
  unfold cmpId at *
  have a1 := cmpI_spec s s'; have a2 := cmpI_spec i i'; have a3 := cmpI_spec g g'
  have b1 := cmpI_spec s' s2; have b2 := cmpI_spec i' i2; have b3 := cmpI_spec g' g2
  have c1 := cmpI_spec s s2; have c2 := cmpI_spec i i2; have c3 := cmpI_spec g g2
  generalize cmpI s s' = x1 at *; generalize cmpI i i' = x2 at *; generalize cmpI g g' = x3 at *
  generalize cmpI s' s2 = y1 at *; generalize cmpI i' i2 = y2 at *; generalize cmpI g' g2 = y3 at *
  generalize cmpI s s2 = z1 at *; generalize cmpI i i2 = z2 at *; generalize cmpI g g2 = z3 at *
  repeat' split at h1
  all_goals repeat' split at h2
  all_goals repeat' split
  all_goals omega

theorem cmpC_any (a b : Int) (w : World) : Calls Try.prog 130 #[.int .i64 a, .int .i64 b] w fun e w' => e = .returned (.int .i64 (cmpI a b)) ∧ w = w' := by
  generalize hr : cmpI a b = r
  have HR := Lib.hid hr
  clear hr
  go_enter Try.func130, Try.ntmps130
  go_wp2
  all_goals go_ret
  all_goals (refine ⟨?_, rfl⟩; go_tidy; (have h := HR.out; clear HR; subst h; simp [cmpI, *]))
  all_goals (try omega)

/-- The first that is not nought. -/
def or3 (x y z : Int) : Int := if x ≠ 0 then x else if y ≠ 0 then y else z

theorem or_any (b : Nat) (x y z : Int) (w : World) (h0 : w.cell? ⟨b, 0, none⟩ = some (.int .i64 x)) (h1 : w.cell? ⟨b, 1, none⟩ = some (.int .i64 y)) (h2 : w.cell? ⟨b, 2, none⟩ = some (.int .i64 z)) :
    Calls Try.prog 129 #[.slice (some ⟨b, 0, none⟩) 3 3] w fun e w' => e = .returned (.int .i64 (or3 x y z)) ∧ w = w' := by
  generalize hr : or3 x y z = r
  have HR := Lib.hid hr
  clear hr
  go_enter Try.func129, Try.ntmps129
  go_wp2_with fail
  refine wp_loop_rounds 4 ?_
  repeat any_goals (rw [rounds_succ]; go_wp2)
  all_goals go_ret
  all_goals (refine ⟨?_, rfl⟩; go_tidy; (have h := HR.out; clear HR; subst h; simp_all [or3]))

theorem before_any (s i g s' i' g' : Int) (w : World) :
    Calls Try.prog 42 #[.agg #[.int .i64 s, .int .i64 i, .int .i64 g], .agg #[.int .i64 s', .int .i64 i', .int .i64 g']] w fun e w' => e = .returned (.bool (beforeB s i g s' i' g')) ∧ Below w.heap.size w w' := by
  generalize hr : beforeB s i g s' i' g' = r
  have HR := Lib.hid hr
  clear hr
  go_enter Try.func42, Try.ntmps42
  go_wp2
  all_goals go_ret
  all_goals (refine ⟨?_, (by repeat' (first | (with_reducible exact Below.refl _ _) | (with_reducible assumption) | (with_reducible refine below_drewN ?_ _) | (with_reducible refine below_more _ _ _ ?_ ?_) | (with_reducible refine Below.alloc ?_ ?_ _) | (with_reducible refine Below.drew ?_) | (with_reducible refine Below.setCell ?_ ?_ _) | go_size))⟩; go_tidy; (have h := HR.out; clear HR; subst h; simp_all [beforeB]))


set_option maxHeartbeats 1000000 in
theorem compare_any (s i g s' i' g' : Int) (w : World) :
    Calls Try.prog 93 #[.agg #[.int .i64 s, .int .i64 i, .int .i64 g], .agg #[.int .i64 s', .int .i64 i', .int .i64 g']] w fun e w' => e = .returned (.int .i64 (cmpId s i g s' i' g')) ∧ Below w.heap.size w w' := by
  generalize hr : cmpId s i g s' i' g' = r
  have HR := Lib.hid hr
  clear hr
  go_enter Try.func93, Try.ntmps93
  go_wp2_with fail
  go_region_held3 (fun W => ((w.alloc (.cells #[.int .i64 s, .int .i64 i, .int .i64 g] 39)).alloc (.cells #[.int .i64 s', .int .i64 i', .int .i64 g'] 39)).heap.size ≤ W.heap.size ∧ ∀ b o, b < ((w.alloc (.cells #[.int .i64 s, .int .i64 i, .int .i64 g] 39)).alloc (.cells #[.int .i64 s', .int .i64 i', .int .i64 g'] 39)).heap.size → W.cell? ⟨b, o, none⟩ = ((w.alloc (.cells #[.int .i64 s, .int .i64 i, .int .i64 g] 39)).alloc (.cells #[.int .i64 s', .int .i64 i', .int .i64 g'] 39)).cell? ⟨b, o, none⟩) (with_reducible (repeat (first | assumption | exact s_refl _ | exact s_id _ | refine s_more _ _ ?_ | refine s_alloc _ ?_ | refine s_drew ?_))) (first | (go_at_call 130; refine (cmpC_any _ _ _).mono ?_; rintro e w' ⟨rfl, rfl⟩) | (go_at_call 129; refine (or_any _ (cmpI s s') (cmpI i i') (cmpI g g') _ (by simp [go_sem]) (by simp [go_sem]) (by simp [go_sem])).mono ?_; rintro e w' ⟨rfl, rfl⟩))
  go_wp2_with fail
  go_ret
  refine ⟨?_, (by repeat' (first | (with_reducible exact Below.refl _ _) | (with_reducible assumption) | (with_reducible refine below_drewN ?_ _) | (with_reducible refine below_more _ _ _ ?_ ?_) | (with_reducible refine Below.alloc ?_ ?_ _) | (with_reducible refine Below.drew ?_) | (with_reducible refine Below.setCell ?_ ?_ _) | go_size))⟩
  rw [← HR.out]
  rfl

end Go.Proofs.Ytcnclcfipabimaa
