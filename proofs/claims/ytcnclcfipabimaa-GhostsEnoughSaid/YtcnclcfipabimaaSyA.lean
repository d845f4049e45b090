/-
  Package fixed and rect, as chapter 14 uses them: Clamp, Add of two, Far; the references' too. No condition.
-/
import Derived.Test.YtcnclcfipabimaaEq
import Derived.Lib.MinMax
namespace Go.Proofs.Ytcnclcfipabimaa
open Go.RowKit

theorem ltb {a W : Nat} (h : a < W) : a < W + 1 ∧ (∀ n, a < W + 1 + n) ∧ (∀ n m, a < W + 1 + n + m) ∧ (∀ n m q, a < W + 1 + n + m + q) := ⟨by omega, fun _ => by omega, fun _ _ => by omega, fun _ _ _ => by omega⟩

theorem max_if (x y : Int) : (if y > x then y else x) = max x y := by rw [Int.max_def]; split <;> split <;> omega
@[go_sem high] theorem run_max_ints4 {P : Program} (w : World) (ts : Array TypeId) (t : TypeId) (k : IntKind) (x y u v : Int) :
    (Builtin.max_ ts t #[.int k x, .int k y, .int k u, .int k v]).run P w = .ok (.int k (max (max (max x y) u) v)) w := by
  simp [Builtin.max_, Builtin.max2, max_if]
@[go_sem high] theorem run_max_ints3 {P : Program} (w : World) (ts : Array TypeId) (t : TypeId) (k : IntKind) (x y u : Int) :
    (Builtin.max_ ts t #[.int k x, .int k y, .int k u]).run P w = .ok (.int k (max (max x y) u)) w := by
  simp [Builtin.max_, Builtin.max2, max_if]

def clampF (n : Int) : Int := max (-1073741824) (min 1073741824 n)
theorem clampF_lo (n : Int) : -1073741824 ≤ clampF n := by unfold clampF; omega
theorem clampF_hi (n : Int) : clampF n ≤ 1073741824 := by unfold clampF; omega
theorem clampF_id (n : Int) (h0 : -1073741824 ≤ n) (h1 : n ≤ 1073741824) : clampF n = n := by unfold clampF; omega
def addF (a b : Int) : Int := clampF (clampF a + clampF b)
def farF (x y u v : Int) : Int := max (clampF x - clampF u) (max (-(clampF x - clampF u)) (max (clampF y - clampF v) (-(clampF y - clampF v))))
theorem farF_bd (x y u v : Int) : 0 ≤ farF x y u v ∧ farF x y u v ≤ 2147483648 := by
  have h1 := clampF_lo x; have h2 := clampF_hi x; have h3 := clampF_lo u; have h4 := clampF_hi u
  have h5 := clampF_lo y; have h6 := clampF_hi y; have h7 := clampF_lo v; have h8 := clampF_hi v
  unfold farF; omega

theorem ret_int {k : IntKind} {a b : Int} (h : a = b) : Ending.returned (.int k a) = .returned (.int k b) := by rw [h]

theorem clamp_any (n : Int) (w : World) : Calls Try.prog 104 #[.int .i64 n] w fun e w' => e = .returned (.int .i64 (clampF n)) ∧ w = w' := by
  by_cases h1 : n < -1073741824
  · rw [show clampF n = -1073741824 from by unfold clampF; omega]
    have h2 : n ≤ 1073741824 := by omega
    go_enter Try.func104, Try.ntmps104
    go_wp2
    all_goals go_ret
    all_goals (refine ⟨ret_int ?_, rfl⟩; first | omega | ((repeat' split at *) <;> omega))
  · by_cases h2 : 1073741824 < n
    · rw [show clampF n = 1073741824 from by unfold clampF; omega]
      have h3 : -1073741824 ≤ n := by omega
      clear h1
      go_enter Try.func104, Try.ntmps104
      go_wp2
      all_goals go_ret
      all_goals (refine ⟨ret_int ?_, rfl⟩; first | omega | ((repeat' split at *) <;> omega))
    · rw [show clampF n = n from by unfold clampF; omega]
      have h3 : -1073741824 ≤ n := by omega
      have h4 : n ≤ 1073741824 := by omega
      clear h1 h2
      go_enter Try.func104, Try.ntmps104
      go_wp2
      all_goals go_ret
      all_goals (refine ⟨ret_int ?_, rfl⟩; first | omega | ((repeat' split at *) <;> omega))

theorem rClamp_any (n : Int) (w : World) : Calls Try.prog 112 #[.int .i64 n] w fun e w' => e = .returned (.int .i64 (clampF n)) ∧ w = w' := by
  by_cases h1 : n < -1073741824
  · rw [show clampF n = -1073741824 from by unfold clampF; omega]
    have h2 : n ≤ 1073741824 := by omega
    go_enter Try.func112, Try.ntmps112
    go_wp2
    all_goals go_ret
    all_goals (refine ⟨ret_int ?_, rfl⟩; first | omega | ((repeat' split at *) <;> omega))
  · by_cases h2 : 1073741824 < n
    · rw [show clampF n = 1073741824 from by unfold clampF; omega]
      have h3 : -1073741824 ≤ n := by omega
      clear h1
      go_enter Try.func112, Try.ntmps112
      go_wp2
      all_goals go_ret
      all_goals (refine ⟨ret_int ?_, rfl⟩; first | omega | ((repeat' split at *) <;> omega))
    · rw [show clampF n = n from by unfold clampF; omega]
      have h3 : -1073741824 ≤ n := by omega
      have h4 : n ≤ 1073741824 := by omega
      clear h1 h2
      go_enter Try.func112, Try.ntmps112
      go_wp2
      all_goals go_ret
      all_goals (refine ⟨ret_int ?_, rfl⟩; first | omega | ((repeat' split at *) <;> omega))

theorem clampF_zero_add (a : Int) : clampF (0 + clampF a) = clampF a := by
  have := clampF_lo a; have := clampF_hi a
  rw [Int.zero_add, clampF_id _ (by omega) (by omega)]

theorem add_any (b : Nat) (x y : Int) (w : World) (h0 : w.cell? ⟨b, 0, none⟩ = some (.int .i64 x)) (h1 : w.cell? ⟨b, 1, none⟩ = some (.int .i64 y)) :
    Calls Try.prog 121 #[.slice (some ⟨b, 0, none⟩) 2 2] w fun e w' => e = .returned (.int .i64 (addF x y)) ∧ w = w' := by
  have l1 := clampF_lo x; have l2 := clampF_hi x; have l3 := clampF_lo y; have l4 := clampF_hi y
  have e0 := clampF_id (clampF x) l1 l2
  unfold addF
  generalize hcx : clampF x = cx at *
  generalize hcy : clampF y = cy at *
  go_enter Try.func121, Try.ntmps121
  go_wp2_with fail
  refine wp_loop_rounds 3 ?_
  repeat any_goals (rw [rounds_succ]; go_wp2_with (go_at_call 104; refine (clamp_any _ _).mono ?_; rintro e w' ⟨rfl, rfl⟩))
  all_goals go_ret
  all_goals exact ⟨rfl, rfl⟩

theorem far_any (x y u v : Int) (w : World) : Calls Try.prog 120 #[.int .i64 x, .int .i64 y, .int .i64 u, .int .i64 v] w fun e w' => e = .returned (.int .i64 (farF x y u v)) ∧ w = w' := by
  have h1 := clampF_lo x; have h2 := clampF_hi x; have h3 := clampF_lo u; have h4 := clampF_hi u
  have h5 := clampF_lo y; have h6 := clampF_hi y; have h7 := clampF_lo v; have h8 := clampF_hi v
  generalize hr : farF x y u v = r
  unfold farF at hr
  have HR := Lib.hid hr
  clear hr
  go_enter Try.func120, Try.ntmps120
  go_wp2_with (go_at_call 104; refine (clamp_any _ _).mono ?_; rintro e w' ⟨rfl, rfl⟩)
  go_ret
  exact ⟨ret_int HR.out, rfl⟩
end Go.Proofs.Ytcnclcfipabimaa
