/-
  Chapter texts Base Hlp Bun SyA PaR PaP PaS PaT RfA: what the claim reaches of them. Conditions stand at each theorem.
-/
import Derived.Test.YtoimjjhopljdmaaGreatProg
import Derived.WalkKit
import Derived.WalkSpells
import Derived.WalkLawsBesides
import Derived.Handy
import Derived.Lib.Hide
import Derived.Lib.QuietBelow
import Derived.BigQuiet
import Derived.Deep.RegionHeld3
import Derived.Deep.RegionWith
import Derived.Deep.DeepFit
import Derived.Deep.DeepCutAuto
import Derived.Deep.LoopGhost
import Derived.Deep.Light
import Derived.Deep.RegionLaw
import Derived.Deep.RegionLawGrows
import Derived.Lib.MinMax
import Derived.StillTailTactics
import Derived.BigRegion
import Derived.Shelf.RegionOpenPlain
import Derived.Test.YtoimjjhopljdmaaGreatQ01
import Derived.Test.YtoimjjhopljdmaaGreatQ02
import Derived.Test.YtoimjjhopljdmaaGreatQ03
import Derived.Test.YtoimjjhopljdmaaGreatQ04
import Derived.Test.YtoimjjhopljdmaaGreatQ05
import Derived.Test.YtoimjjhopljdmaaGreatQ06
import Derived.Test.YtoimjjhopljdmaaGreatQ07
import Derived.Test.YtoimjjhopljdmaaGreatQ08
import Derived.Test.YtoimjjhopljdmaaGreatQ09
import Derived.Test.YtoimjjhopljdmaaGreatQ10
import Derived.Test.YtoimjjhopljdmaaGreatQ11
import Derived.Test.YtoimjjhopljdmaaGreatQ12
import Derived.Test.YtoimjjhopljdmaaGreatQ13
import Derived.Test.YtoimjjhopljdmaaGreatQ14
import Derived.Test.YtoimjjhopljdmaaGreatQ15
import Derived.Test.YtoimjjhopljdmaaGreatQ16
import Derived.Test.YtoimjjhopljdmaaGreatQ17
import Derived.Test.YtoimjjhopljdmaaGreatQ18
import Derived.Test.YtoimjjhopljdmaaGreatQ19
import Derived.Test.YtoimjjhopljdmaaGreatQ20
import Derived.Test.YtoimjjhopljdmaaGreatQ21
import Derived.Test.YtoimjjhopljdmaaGreatQ22
import Derived.Test.YtoimjjhopljdmaaGreatQ23
import Derived.Test.YtoimjjhopljdmaaGreatQ24
import Derived.Test.YtoimjjhopljdmaaGreatQ25
import Derived.Test.YtoimjjhopljdmaaGreatQ26
import Derived.Test.YtoimjjhopljdmaaGreatQ27
import Derived.Test.YtoimjjhopljdmaaGreatQ28
import Derived.Test.YtoimjjhopljdmaaGreatQ29
import Derived.Test.YtoimjjhopljdmaaGreatQ30
import Derived.Test.YtoimjjhopljdmaaGreatQ31
import Derived.Test.YtoimjjhopljdmaaGreatQ32
import Derived.Test.YtoimjjhopljdmaaGreatQ33
import Derived.Test.YtoimjjhopljdmaaGreatQ34
import Derived.Test.YtoimjjhopljdmaaGreatQ35
import Derived.Test.YtoimjjhopljdmaaGreatQ36
import Derived.Test.YtoimjjhopljdmaaGreatQ37
import Derived.Test.YtoimjjhopljdmaaGreatQ38
import Derived.Test.YtoimjjhopljdmaaGreatQ39
import Derived.Test.YtoimjjhopljdmaaGreatQ40
import Derived.Test.YtoimjjhopljdmaaGreatR01
import Derived.Test.YtoimjjhopljdmaaGreatR02
import Derived.Test.YtoimjjhopljdmaaGreatR03
import Derived.Test.YtoimjjhopljdmaaGreatR04
namespace Go.Proofs.YtoimjjhopljdmaaGreat
open Go.RowKit

theorem quiet_same {P : Program} {f : FuncId} {args : Array Value} {w : World} {n : Nat} {v : Value}
    (h : Calls P f args (w.drewN n) fun e w' => e = .returned v ∧ w.drewN n = w') : Calls P f args (w.drewN n) fun e w'' => e = .returned v ∧ ∃ m, w'' = w.drewN m :=
  h.mono fun _ _ ⟨he, hm⟩ => ⟨he, n, hm.symm⟩

theorem quiet_add_left {P : Program} {f : FuncId} {args : Array Value} {w : World} {a n : Nat} {v : Value}
    (h : Calls P f args (w.drewN (a + n)) fun e w' => e = .returned v ∧ w.drewN (a + n) = w') :
    Calls P f args (w.drewN (a + n)) fun e w'' => e = .returned v ∧ ∃ m, w'' = w.drewN (a + m) :=
  h.mono fun _ _ ⟨he, hm⟩ => ⟨he, n, hm.symm⟩

end Go.Proofs.YtoimjjhopljdmaaGreat
namespace Go.Proofs.YtoimjjhopljdmaaGreat
open Go.RowKit
theorem ltw {a W : Nat} (h : a < W) : (∀ n, a < W + n) ∧ (∀ n m, a < W + n + m) ∧ (∀ n m q, a < W + n + m + q) := ⟨fun _ => by omega, fun _ _ => by omega, fun _ _ _ => by omega⟩
end Go.Proofs.YtoimjjhopljdmaaGreat
namespace Go.Proofs.YtoimjjhopljdmaaGreat
open Go.RowKit

def rRightB (b : Bun) : Bool :=
  inR 0 b.m 31 && withinB (tb b.m 1) b.x (-1073741824) 1073741824 && withinB (tb b.m 1) b.y (-1073741824) 1073741824 && withinB (tb b.m 2) b.vx (-1073741824) 1073741824 &&
  withinB (tb b.m 2) b.vy (-1073741824) 1073741824 && withinB (tb b.m 4) b.hp 1 1048576 && withinB (tb b.m 8) b.pw 0 1024 && withinB (tb b.m 16) b.lf 1 1048576
def rIdOk (s i g : Int) : Bool := decide (0 ≤ s) && decide (s ≤ 15) && decide (0 ≤ i) && decide (i ≤ 15) && decide (0 ≤ g) && decide (g < 1048576)
def rMayB (b : Bun) : Bool := rIdOk b.s b.i b.g && rRightB b && tb b.m 1
end Go.Proofs.YtoimjjhopljdmaaGreat
namespace Go.Proofs.YtoimjjhopljdmaaGreat
open Go.RowKit

theorem rClamp_any (n : Int) (w : World) : Calls Tryz.prog 78 #[.int .i64 n] w fun e w' => e = .returned (.int .i64 (clampF n)) ∧ w = w' := by
  by_cases h1 : n < -1073741824
  · rw [show clampF n = -1073741824 from by unfold clampF; omega]
    have h2 : n ≤ 1073741824 := by omega
    go_enter Tryz.func78, Tryz.ntmps78
    go_wp2
    all_goals go_ret
    all_goals (refine ⟨ret_int ?_, rfl⟩; first | omega | ((repeat' split at *) <;> omega))
  · by_cases h2 : 1073741824 < n
    · rw [show clampF n = 1073741824 from by unfold clampF; omega]
      have h3 : -1073741824 ≤ n := by omega
      clear h1
      go_enter Tryz.func78, Tryz.ntmps78
      go_wp2
      all_goals go_ret
      all_goals (refine ⟨ret_int ?_, rfl⟩; first | omega | ((repeat' split at *) <;> omega))
    · rw [show clampF n = n from by unfold clampF; omega]
      have h3 : -1073741824 ≤ n := by omega
      have h4 : n ≤ 1073741824 := by omega
      clear h1 h2
      go_enter Tryz.func78, Tryz.ntmps78
      go_wp2
      all_goals go_ret
      all_goals (refine ⟨ret_int ?_, rfl⟩; first | omega | ((repeat' split at *) <;> omega))

end Go.Proofs.YtoimjjhopljdmaaGreat
namespace Go.Proofs.YtoimjjhopljdmaaGreat
open Go.RowKit

theorem tmod_two (m : Int) : m.tmod 2 = if m % 2 = 0 then 0 else if m < 0 then -1 else 1 := by
  rcases Int.lt_or_le m 0 with h | h
  · have e : m.tmod 2 = -((-m) % 2) := by
      have := Int.neg_tmod (-m) 2
      rw [Int.neg_neg] at this
      rw [this, Int.tmod_eq_emod_of_nonneg (by omega)]
    rw [e]
    split <;> omega
  · rw [Int.tmod_eq_emod_of_nonneg h]
    split <;> omega

theorem tdiv_two (m : Int) : m.tdiv 2 = if m % 2 = 0 then m / 2 else if m < 0 then m / 2 + 1 else m / 2 := by
  have h := Int.tmod_add_mul_tdiv m 2
  rw [tmod_two] at h
  split at h <;> omega

theorem wrap64_at (n : Int) (h0 : -9223372036854775808 ≤ n) (h1 : n ≤ 9223372036854775807) : wrap64 n = n := by unfold wrap64; omega

theorem half_neg_odd (m : Int) (h0 : -9223372036854775808 ≤ m) (h1 : m < 0) (h2 : (m.tmod 2 != 0) = true) : wrap64 ((wrap64 (m - 1)).tdiv 2) = m / 2 := by
  rw [bne_iff_ne, tmod_two] at h2
  have ho : m % 2 ≠ 0 := by intro h; simp [h] at h2
  rw [wrap64_at (m - 1) (by omega) (by omega), tdiv_two, if_pos (by omega), wrap64_at _ (by omega) (by omega)]
  omega

theorem half_neg_even (m : Int) (h0 : -9223372036854775808 ≤ m) (h1 : m < 0) (h2 : (m.tmod 2 != 0) = false) : wrap64 (m.tdiv 2) = m / 2 := by
  rw [bne_eq_false_iff_eq, tmod_two] at h2
  have ho : m % 2 = 0 := by
    by_cases h : m % 2 = 0
    · exact h
    · rw [if_neg h] at h2; split at h2 <;> omega
  rw [tdiv_two, if_pos ho, wrap64_at _ (by omega) (by omega)]

theorem half_any (m : Int) (w : World) (h0 : -9223372036854775808 ≤ m) (h1 : m ≤ 9223372036854775807) : Calls Tryz.prog 77 #[.int .i64 m] w fun e w' => e = .returned (.int .i64 (m / 2)) ∧ w = w' := by
  generalize hr : m / 2 = r
  have HR := Lib.hid hr
  clear hr
  have H0 := Lib.hid h0
  clear h0
  go_enter Tryz.func77, Tryz.ntmps77
  go_wp2
  · go_ret
    refine ⟨?_, rfl⟩
    rw [← HR.out]
    exact congrArg (fun n => Ending.returned (Value.int .i64 n)) (half_neg_odd m H0.out (by assumption) (by assumption))
  · go_ret
    refine ⟨?_, rfl⟩
    rw [← HR.out]
    exact congrArg (fun n => Ending.returned (Value.int .i64 n)) (half_neg_even m H0.out (by assumption) (by assumption))
  · go_ret
    exact ⟨by rw [← HR.out]; rfl, rfl⟩

theorem bit_end (q : Int) : (q.tmod 2 != 0) = !(q % 2 == 0) := by
  rw [tmod_two]
  by_cases h : q % 2 = 0
  · simp [h]
  · by_cases h2 : q < 0 <;> simp [h, h2]

set_option maxHeartbeats 1000000 in
theorem bit_any (m c : Int) (w : World) (h0 : -9223372036854775808 ≤ m) (h1 : m ≤ 9223372036854775807) (hc : c = 1 ∨ c = 2 ∨ c = 4 ∨ c = 8 ∨ c = 16) :
    Calls Tryz.prog 41 #[.int .i64 m, .int .i64 c] w fun e w' => e = .returned (.bool (tb m c)) ∧ w = w' := by
  generalize hr : tb m c = r
  have HR := Lib.hid hr
  clear hr
  rcases hc with rfl | rfl | rfl | rfl | rfl
  all_goals
    go_enter Tryz.func41, Tryz.ntmps41
    go_wp2_with fail
    refine wp_loop_rounds 5 ?_
    repeat any_goals (rw [rounds_succ]; go_wp2_with (go_at_call 77; refine (half_any _ _ (by omega) (by omega)).mono ?_; rintro e w' ⟨rfl, rfl⟩))
    go_ret
    refine ⟨?_, rfl⟩
    rw [← HR.out]
    unfold tb
    refine congrArg (fun b => Ending.returned (Value.bool b)) ?_
    refine (bit_end _).trans ?_
    refine congrArg (fun n : Int => !(n % 2 == 0)) ?_
    omega

theorem rIn_any (n lo hi : Int) (h : Bool) (w : World) :
    Calls Tryz.prog 76 #[.int .i64 n, .int .i64 lo, .int .i64 hi, .bool h] w fun e w' => e = .returned (.bool (withinB h n lo hi)) ∧ w = w' := by
  cases h
  · go_enter Tryz.func76, Tryz.ntmps76
    go_wp2
    go_ret
    exact ⟨rfl, rfl⟩
  · by_cases h1 : lo ≤ n
    · go_enter Tryz.func76, Tryz.ntmps76
      go_wp2
      go_ret
      exact ⟨by simp [withinB, inR]; omega, rfl⟩
    · go_enter Tryz.func76, Tryz.ntmps76
      go_wp2
      go_ret
      exact ⟨by simp [withinB, inR]; omega, rfl⟩

theorem rRightID_any (s i g : Int) (w : World) :
    Calls Tryz.prog 39 #[.agg #[.int .i64 s, .int .i64 i, .int .i64 g]] w fun e w' => e = .returned (.bool (rIdOk s i g)) ∧ Below w.heap.size w w' := by
  generalize hr : rIdOk _ _ _ = r
  have HR := Lib.hid hr
  clear hr
  go_enter Tryz.func39, Tryz.ntmps39
  go_wp2
  all_goals go_ret
  all_goals refine ⟨?_, by go_grown⟩
  all_goals go_tidy
  all_goals (have h := HR.out; rw [← h]; simp [rIdOk, *]; try omega)

end Go.Proofs.YtoimjjhopljdmaaGreat
namespace Go.Proofs.YtoimjjhopljdmaaGreat
open Go.RowKit

theorem hasB_tb1 (m : Int) : hasB m 1 = tb m 1 := hasB_tb m 0 (by decide)
theorem hasB_tb2 (m : Int) : hasB m 2 = tb m 2 := hasB_tb m 1 (by decide)
theorem hasB_tb4 (m : Int) : hasB m 4 = tb m 4 := hasB_tb m 2 (by decide)
theorem hasB_tb8 (m : Int) : hasB m 8 = tb m 8 := hasB_tb m 3 (by decide)
theorem hasB_tb16 (m : Int) : hasB m 16 = tb m 16 := hasB_tb m 4 (by decide)

theorem idOk_eq (s i g : Int) : rIdOk s i g = idOk s i g := by
  unfold rIdOk idOk inR
  rw [Bool.eq_iff_iff]
  simp
  omega
theorem rightB_eq (b : Bun) : rRightB b = rightB b := by
  unfold rRightB rightB
  rw [hasB_tb1, hasB_tb2, hasB_tb4, hasB_tb8, hasB_tb16]
theorem checkB_eq (b : Bun) : rMayB b = checkB b := by
  unfold rMayB checkB
  rw [idOk_eq, rightB_eq, hasB_tb1]
  cases idOk b.s b.i b.g <;> cases rightB b <;> cases tb b.m 1 <;> rfl
end Go.Proofs.YtoimjjhopljdmaaGreat
namespace Go.Proofs.YtoimjjhopljdmaaGreat
open Go.RowKit

set_option maxHeartbeats 8000000 in
theorem rRight_any (s i g m x y vx vy hp pw lf : Int) (w : World) (hm0 : -9223372036854775808 ≤ m) (hm1 : m ≤ 9223372036854775807) :
    Calls Tryz.prog 40 #[.agg #[.int .i64 s, .int .i64 i, .int .i64 g, .int .i64 m, .int .i64 x, .int .i64 y, .int .i64 vx, .int .i64 vy, .int .i64 hp, .int .i64 pw, .int .i64 lf]] w fun e w' => e = .returned (.bool (rRightB ⟨s, i, g, m, x, y, vx, vy, hp, pw, lf⟩)) ∧ Below w.heap.size w w' := by
  generalize hr : rRightB _ = r
  unfold rRightB at hr
  have HR := Lib.hid hr
  clear hr
  by_cases hm : 0 ≤ m ∧ m ≤ 31
  · obtain ⟨hm0, hm1⟩ := hm
    go_enter Tryz.func40, Tryz.ntmps40
    go_wp2_with fail
    by_cases h1 : withinB (tb m 1) x (-1073741824) 1073741824 = true
    · go_quiet ((first | (go_at_call 41; exact quiet_same (bit_any _ _ _ (by omega) (by omega) (by omega))) | (go_at_call 76; exact quiet_same (rIn_any _ _ _ _ _))))
      go_wp2_with fail
      · all_goals (go_ret; refine ⟨?_, (by repeat' (first | (with_reducible exact Below.refl _ _) | (with_reducible assumption) | (with_reducible refine below_drewN ?_ _) | (with_reducible refine below_more _ _ _ ?_ ?_) | (with_reducible refine Below.alloc ?_ ?_ _) | (with_reducible refine Below.drew ?_) | (with_reducible refine Below.setCell ?_ ?_ _) | go_size))⟩; go_tidy; (have h := HR.out; rw [← h]; simp_all [inR]))
      · by_cases h2 : withinB (tb m 2) vx (-1073741824) 1073741824 = true
        · go_quiet ((first | (go_at_call 41; exact quiet_add_left (bit_any _ _ _ (by omega) (by omega) (by omega))) | (go_at_call 76; exact quiet_add_left (rIn_any _ _ _ _ _))))
          go_wp2_with fail
          · all_goals (go_ret; refine ⟨?_, (by repeat' (first | (with_reducible exact Below.refl _ _) | (with_reducible assumption) | (with_reducible refine below_drewN ?_ _) | (with_reducible refine below_more _ _ _ ?_ ?_) | (with_reducible refine Below.alloc ?_ ?_ _) | (with_reducible refine Below.drew ?_) | (with_reducible refine Below.setCell ?_ ?_ _) | go_size))⟩; go_tidy; (have h := HR.out; rw [← h]; simp_all [inR]))
          · by_cases h3 : withinB (tb m 4) hp 1 1048576 = true
            · by_cases h4 : withinB (tb m 8) pw 0 1024 = true
              · go_quiet ((first | (go_at_call 41; exact quiet_add_left (bit_any _ _ _ (by omega) (by omega) (by omega))) | (go_at_call 76; exact quiet_add_left (rIn_any _ _ _ _ _))))
                go_wp2_with fail
                all_goals (go_ret; refine ⟨?_, (by repeat' (first | (with_reducible exact Below.refl _ _) | (with_reducible assumption) | (with_reducible refine below_drewN ?_ _) | (with_reducible refine below_more _ _ _ ?_ ?_) | (with_reducible refine Below.alloc ?_ ?_ _) | (with_reducible refine Below.drew ?_) | (with_reducible refine Below.setCell ?_ ?_ _) | go_size))⟩; go_tidy; (have h := HR.out; rw [← h]; simp_all [inR]))
              · rw [Bool.not_eq_true] at h4
                go_quiet ((first | (go_at_call 41; exact quiet_add_left (bit_any _ _ _ (by omega) (by omega) (by omega))) | (go_at_call 76; exact quiet_add_left (rIn_any _ _ _ _ _))))
                go_wp2_with fail
                all_goals (go_ret; refine ⟨?_, (by repeat' (first | (with_reducible exact Below.refl _ _) | (with_reducible assumption) | (with_reducible refine below_drewN ?_ _) | (with_reducible refine below_more _ _ _ ?_ ?_) | (with_reducible refine Below.alloc ?_ ?_ _) | (with_reducible refine Below.drew ?_) | (with_reducible refine Below.setCell ?_ ?_ _) | go_size))⟩; go_tidy; (have h := HR.out; rw [← h]; simp_all [inR]))
            · rw [Bool.not_eq_true] at h3
              go_quiet ((first | (go_at_call 41; exact quiet_add_left (bit_any _ _ _ (by omega) (by omega) (by omega))) | (go_at_call 76; exact quiet_add_left (rIn_any _ _ _ _ _))))
              go_wp2_with fail
              all_goals (go_ret; refine ⟨?_, (by repeat' (first | (with_reducible exact Below.refl _ _) | (with_reducible assumption) | (with_reducible refine below_drewN ?_ _) | (with_reducible refine below_more _ _ _ ?_ ?_) | (with_reducible refine Below.alloc ?_ ?_ _) | (with_reducible refine Below.drew ?_) | (with_reducible refine Below.setCell ?_ ?_ _) | go_size))⟩; go_tidy; (have h := HR.out; rw [← h]; simp_all [inR]))
        · rw [Bool.not_eq_true] at h2
          go_quiet ((first | (go_at_call 41; exact quiet_add_left (bit_any _ _ _ (by omega) (by omega) (by omega))) | (go_at_call 76; exact quiet_add_left (rIn_any _ _ _ _ _))))
          go_wp2_with fail
          all_goals (go_ret; refine ⟨?_, (by repeat' (first | (with_reducible exact Below.refl _ _) | (with_reducible assumption) | (with_reducible refine below_drewN ?_ _) | (with_reducible refine below_more _ _ _ ?_ ?_) | (with_reducible refine Below.alloc ?_ ?_ _) | (with_reducible refine Below.drew ?_) | (with_reducible refine Below.setCell ?_ ?_ _) | go_size))⟩; go_tidy; (have h := HR.out; rw [← h]; simp_all [inR]))
    · rw [Bool.not_eq_true] at h1
      go_quiet ((first | (go_at_call 41; exact quiet_same (bit_any _ _ _ (by omega) (by omega) (by omega))) | (go_at_call 76; exact quiet_same (rIn_any _ _ _ _ _))))
      go_wp2_with fail
      all_goals (go_ret; refine ⟨?_, (by repeat' (first | (with_reducible exact Below.refl _ _) | (with_reducible assumption) | (with_reducible refine below_drewN ?_ _) | (with_reducible refine below_more _ _ _ ?_ ?_) | (with_reducible refine Below.alloc ?_ ?_ _) | (with_reducible refine Below.drew ?_) | (with_reducible refine Below.setCell ?_ ?_ _) | go_size))⟩; go_tidy; (have h := HR.out; rw [← h]; simp_all [inR]))
  · go_enter Tryz.func40, Tryz.ntmps40
    go_wp2_with fail
    all_goals go_ret
    all_goals refine ⟨?_, by go_grown⟩
    all_goals go_tidy
    all_goals (have h := HR.out; rw [← h]; simp [inR]; omega)

end Go.Proofs.YtoimjjhopljdmaaGreat
namespace Go.Proofs.YtoimjjhopljdmaaGreat
open Go.RowKit

set_option maxHeartbeats 2000000 in
theorem rMay_any (s i g m x y vx vy hp pw lf : Int) (w : World) (hm0 : -9223372036854775808 ≤ m) (hm1 : m ≤ 9223372036854775807) :
    Calls Tryz.prog 14 #[.agg #[.int .i64 s, .int .i64 i, .int .i64 g, .int .i64 m, .int .i64 x, .int .i64 y, .int .i64 vx, .int .i64 vy, .int .i64 hp, .int .i64 pw, .int .i64 lf]] w fun e w' => e = .returned (.bool (rMayB ⟨s, i, g, m, x, y, vx, vy, hp, pw, lf⟩)) ∧ Below w.heap.size w w' := by
  generalize hr : rMayB _ = r
  unfold rMayB at hr
  dsimp only at hr
  have HR := Lib.hid hr
  clear hr
  go_enter Tryz.func14, Tryz.ntmps14
  go_wp2_with (first
    | (go_at_call 39; refine (rRightID_any _ _ _ _).mono ?_; rintro e w1 ⟨rfl, hb⟩; obtain ⟨⟨hB1, hs1, hl1⟩, hc1⟩ := box_keep hb (box_new0 w _ _); clear hb)
    | (go_at_call 40; refine (rRight_any _ _ _ _ _ _ _ _ _ _ _ _ (by omega) (by omega)).mono ?_; rintro e w2 ⟨rfl, hb⟩; obtain ⟨⟨hB2, hs2, hl2⟩, hc2⟩ := box_keep hb ⟨⟨hB1, hs1, hl1⟩, hc1⟩; clear hb hB1 hs1 hl1 hc1)
    | (go_at_call 41; refine (bit_any _ _ _ (by omega) (by omega) (by omega)).mono ?_; rintro e w3 ⟨rfl, rfl⟩))
  all_goals (go_ret; refine ⟨?_, by assumption⟩; go_tidy; (have h := HR.out; rw [← h]; simp_all))

end Go.Proofs.YtoimjjhopljdmaaGreat
namespace Go.Proofs.YtoimjjhopljdmaaGreat
open Go.RowKit


def hasF (x0 y0 x1 y1 x y : Int) : Bool := decide (clampF x0 ≤ clampF x ∧ clampF x < clampF x1 ∧ clampF y0 ≤ clampF y ∧ clampF y < clampF y1)

theorem rHas_any (x0 y0 x1 y1 x y : Int) (w : World) :
    Calls Tryz.prog 42 #[.agg #[.int .i64 x0, .int .i64 y0, .int .i64 x1, .int .i64 y1], .int .i64 x, .int .i64 y] w fun e w' => e = .returned (.bool (hasF x0 y0 x1 y1 x y)) ∧ Below w.heap.size w w' := by
  unfold hasF
  have CX := Lib.hid (fun W => rClamp_any x W)
  have CY := Lib.hid (fun W => rClamp_any y W)
  have C0 := Lib.hid (fun W => rClamp_any x0 W)
  have C1 := Lib.hid (fun W => rClamp_any y0 W)
  have C2 := Lib.hid (fun W => rClamp_any x1 W)
  have C3 := Lib.hid (fun W => rClamp_any y1 W)
  generalize clampF x0 = a0 at *
  generalize clampF y0 = b0 at *
  generalize clampF x1 = a1 at *
  generalize clampF y1 = b1 at *
  generalize clampF x = cx at *
  generalize clampF y = cy at *
  
  by_cases h1 : a0 ≤ cx
  · have d1 : decide (a0 ≤ cx) = true := decide_eq_true h1
    by_cases h2 : cx < a1
    · have d2 : decide (cx < a1) = true := decide_eq_true h2
      by_cases h3 : b0 ≤ cy
      · have d3 : decide (b0 ≤ cy) = true := decide_eq_true h3
        by_cases h4 : cy < b1
        · have d4 : decide (cy < b1) = true := decide_eq_true h4
          rw [show decide (a0 ≤ cx ∧ cx < a1 ∧ b0 ≤ cy ∧ cy < b1) = true from decide_eq_true ⟨h1, h2, h3, h4⟩]
          go_enter Tryz.func42, Tryz.ntmps42
          go_wp2_with fail
          refine (CX.out _).mono ?_; rintro e w' ⟨rfl, rfl⟩
          go_wp2_with fail
          refine (CY.out _).mono ?_; rintro e w' ⟨rfl, rfl⟩
          go_wp2_with fail
          refine (C0.out _).mono ?_; rintro e w' ⟨rfl, rfl⟩
          go_wp2_with fail
          refine (C2.out _).mono ?_; rintro e w' ⟨rfl, rfl⟩
          go_wp2_with fail
          refine (C1.out _).mono ?_; rintro e w' ⟨rfl, rfl⟩
          go_wp2_with fail
          refine (C3.out _).mono ?_; rintro e w' ⟨rfl, rfl⟩
          go_wp2_with fail
          go_ret
          exact ⟨rfl, (by repeat' (first | (with_reducible exact Below.refl _ _) | (with_reducible assumption) | (with_reducible refine below_drewN ?_ _) | (with_reducible refine below_more _ _ _ ?_ ?_) | (with_reducible refine Below.alloc ?_ ?_ _) | (with_reducible refine Below.drew ?_) | (with_reducible refine Below.setCell ?_ ?_ _) | go_size))⟩
        · have d4 : decide (cy < b1) = false := decide_eq_false h4
          rw [show decide (a0 ≤ cx ∧ cx < a1 ∧ b0 ≤ cy ∧ cy < b1) = false from decide_eq_false (by omega)]
          go_enter Tryz.func42, Tryz.ntmps42
          go_wp2_with fail
          refine (CX.out _).mono ?_; rintro e w' ⟨rfl, rfl⟩
          go_wp2_with fail
          refine (CY.out _).mono ?_; rintro e w' ⟨rfl, rfl⟩
          go_wp2_with fail
          refine (C0.out _).mono ?_; rintro e w' ⟨rfl, rfl⟩
          go_wp2_with fail
          refine (C2.out _).mono ?_; rintro e w' ⟨rfl, rfl⟩
          go_wp2_with fail
          refine (C1.out _).mono ?_; rintro e w' ⟨rfl, rfl⟩
          go_wp2_with fail
          refine (C3.out _).mono ?_; rintro e w' ⟨rfl, rfl⟩
          go_wp2_with fail
          go_ret
          exact ⟨rfl, (by repeat' (first | (with_reducible exact Below.refl _ _) | (with_reducible assumption) | (with_reducible refine below_drewN ?_ _) | (with_reducible refine below_more _ _ _ ?_ ?_) | (with_reducible refine Below.alloc ?_ ?_ _) | (with_reducible refine Below.drew ?_) | (with_reducible refine Below.setCell ?_ ?_ _) | go_size))⟩
      · have d3 : decide (b0 ≤ cy) = false := decide_eq_false h3
        rw [show decide (a0 ≤ cx ∧ cx < a1 ∧ b0 ≤ cy ∧ cy < b1) = false from decide_eq_false (by omega)]
        go_enter Tryz.func42, Tryz.ntmps42
        go_wp2_with fail
        refine (CX.out _).mono ?_; rintro e w' ⟨rfl, rfl⟩
        go_wp2_with fail
        refine (CY.out _).mono ?_; rintro e w' ⟨rfl, rfl⟩
        go_wp2_with fail
        refine (C0.out _).mono ?_; rintro e w' ⟨rfl, rfl⟩
        go_wp2_with fail
        refine (C2.out _).mono ?_; rintro e w' ⟨rfl, rfl⟩
        go_wp2_with fail
        refine (C1.out _).mono ?_; rintro e w' ⟨rfl, rfl⟩
        go_wp2_with fail
        go_ret
        exact ⟨rfl, (by repeat' (first | (with_reducible exact Below.refl _ _) | (with_reducible assumption) | (with_reducible refine below_drewN ?_ _) | (with_reducible refine below_more _ _ _ ?_ ?_) | (with_reducible refine Below.alloc ?_ ?_ _) | (with_reducible refine Below.drew ?_) | (with_reducible refine Below.setCell ?_ ?_ _) | go_size))⟩
    · have d2 : decide (cx < a1) = false := decide_eq_false h2
      rw [show decide (a0 ≤ cx ∧ cx < a1 ∧ b0 ≤ cy ∧ cy < b1) = false from decide_eq_false (by omega)]
      go_enter Tryz.func42, Tryz.ntmps42
      go_wp2_with fail
      refine (CX.out _).mono ?_; rintro e w' ⟨rfl, rfl⟩
      go_wp2_with fail
      refine (CY.out _).mono ?_; rintro e w' ⟨rfl, rfl⟩
      go_wp2_with fail
      refine (C0.out _).mono ?_; rintro e w' ⟨rfl, rfl⟩
      go_wp2_with fail
      refine (C2.out _).mono ?_; rintro e w' ⟨rfl, rfl⟩
      go_wp2_with fail
      go_ret
      exact ⟨rfl, (by repeat' (first | (with_reducible exact Below.refl _ _) | (with_reducible assumption) | (with_reducible refine below_drewN ?_ _) | (with_reducible refine below_more _ _ _ ?_ ?_) | (with_reducible refine Below.alloc ?_ ?_ _) | (with_reducible refine Below.drew ?_) | (with_reducible refine Below.setCell ?_ ?_ _) | go_size))⟩
  · have d1 : decide (a0 ≤ cx) = false := decide_eq_false h1
    rw [show decide (a0 ≤ cx ∧ cx < a1 ∧ b0 ≤ cy ∧ cy < b1) = false from decide_eq_false (by omega)]
    go_enter Tryz.func42, Tryz.ntmps42
    go_wp2_with fail
    refine (CX.out _).mono ?_; rintro e w' ⟨rfl, rfl⟩
    go_wp2_with fail
    refine (CY.out _).mono ?_; rintro e w' ⟨rfl, rfl⟩
    go_wp2_with fail
    refine (C0.out _).mono ?_; rintro e w' ⟨rfl, rfl⟩
    go_wp2_with fail
    go_ret
    exact ⟨rfl, (by repeat' (first | (with_reducible exact Below.refl _ _) | (with_reducible assumption) | (with_reducible refine below_drewN ?_ _) | (with_reducible refine below_more _ _ _ ?_ ?_) | (with_reducible refine Below.alloc ?_ ?_ _) | (with_reducible refine Below.drew ?_) | (with_reducible refine Below.setCell ?_ ?_ _) | go_size))⟩

end Go.Proofs.YtoimjjhopljdmaaGreat
