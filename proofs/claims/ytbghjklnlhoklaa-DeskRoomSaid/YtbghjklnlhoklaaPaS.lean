/-
  Walks of the reference of chapter 9: Right, May. Each function computes its plain twin; new memory alone is written. No condition.
-/
import Derived.Test.YtbghjklnlhoklaaMk10
namespace Go.Proofs.Ytbghjklnlhoklaa
open Go.RowKit

set_option maxHeartbeats 8000000 in
theorem rRight_any (s i g m x y vx vy hp pw lf : Int) (w : World) (hm0 : -9223372036854775808 ≤ m) (hm1 : m ≤ 9223372036854775807) :
    Calls Try.prog 52 #[.agg #[.int .i64 s, .int .i64 i, .int .i64 g, .int .i64 m, .int .i64 x, .int .i64 y, .int .i64 vx, .int .i64 vy, .int .i64 hp, .int .i64 pw, .int .i64 lf]] w fun e w' => e = .returned (.bool (rRightB ⟨s, i, g, m, x, y, vx, vy, hp, pw, lf⟩)) ∧ Below w.heap.size w w' := by
  generalize hr : rRightB _ = r
  unfold rRightB at hr
  have HR := Lib.hid hr
  clear hr
  by_cases hm : 0 ≤ m ∧ m ≤ 31
  · obtain ⟨hm0, hm1⟩ := hm
    go_enter Try.func52, Try.ntmps52
    go_wp2_with fail
    by_cases h1 : withinB (tb m 1) x (-1073741824) 1073741824 = true
    · go_quiet ((first | (go_at_call 79; exact quiet_same (bit_any _ _ _ (by omega) (by omega) (by omega))) | (go_at_call 80; exact quiet_same (rIn_any _ _ _ _ _))))
      go_wp2_with fail
      · all_goals (go_ret; refine ⟨?_, (by repeat' (first | (with_reducible exact Below.refl _ _) | (with_reducible assumption) | (with_reducible refine below_drewN ?_ _) | (with_reducible refine below_more _ _ _ ?_ ?_) | (with_reducible refine Below.alloc ?_ ?_ _) | (with_reducible refine Below.drew ?_) | (with_reducible refine Below.setCell ?_ ?_ _) | go_size))⟩; go_tidy; (have h := HR.out; rw [← h]; simp_all [inR]))
      · by_cases h2 : withinB (tb m 2) vx (-1073741824) 1073741824 = true
        · go_quiet ((first | (go_at_call 79; exact quiet_add_left (bit_any _ _ _ (by omega) (by omega) (by omega))) | (go_at_call 80; exact quiet_add_left (rIn_any _ _ _ _ _))))
          go_wp2_with fail
          · all_goals (go_ret; refine ⟨?_, (by repeat' (first | (with_reducible exact Below.refl _ _) | (with_reducible assumption) | (with_reducible refine below_drewN ?_ _) | (with_reducible refine below_more _ _ _ ?_ ?_) | (with_reducible refine Below.alloc ?_ ?_ _) | (with_reducible refine Below.drew ?_) | (with_reducible refine Below.setCell ?_ ?_ _) | go_size))⟩; go_tidy; (have h := HR.out; rw [← h]; simp_all [inR]))
          · by_cases h3 : withinB (tb m 4) hp 1 1048576 = true
            · by_cases h4 : withinB (tb m 8) pw 0 1024 = true
              · go_quiet ((first | (go_at_call 79; exact quiet_add_left (bit_any _ _ _ (by omega) (by omega) (by omega))) | (go_at_call 80; exact quiet_add_left (rIn_any _ _ _ _ _))))
                go_wp2_with fail
                all_goals (go_ret; refine ⟨?_, (by repeat' (first | (with_reducible exact Below.refl _ _) | (with_reducible assumption) | (with_reducible refine below_drewN ?_ _) | (with_reducible refine below_more _ _ _ ?_ ?_) | (with_reducible refine Below.alloc ?_ ?_ _) | (with_reducible refine Below.drew ?_) | (with_reducible refine Below.setCell ?_ ?_ _) | go_size))⟩; go_tidy; (have h := HR.out; rw [← h]; simp_all [inR]))
              · rw [Bool.not_eq_true] at h4
                go_quiet ((first | (go_at_call 79; exact quiet_add_left (bit_any _ _ _ (by omega) (by omega) (by omega))) | (go_at_call 80; exact quiet_add_left (rIn_any _ _ _ _ _))))
                go_wp2_with fail
                all_goals (go_ret; refine ⟨?_, (by repeat' (first | (with_reducible exact Below.refl _ _) | (with_reducible assumption) | (with_reducible refine below_drewN ?_ _) | (with_reducible refine below_more _ _ _ ?_ ?_) | (with_reducible refine Below.alloc ?_ ?_ _) | (with_reducible refine Below.drew ?_) | (with_reducible refine Below.setCell ?_ ?_ _) | go_size))⟩; go_tidy; (have h := HR.out; rw [← h]; simp_all [inR]))
            · rw [Bool.not_eq_true] at h3
              go_quiet ((first | (go_at_call 79; exact quiet_add_left (bit_any _ _ _ (by omega) (by omega) (by omega))) | (go_at_call 80; exact quiet_add_left (rIn_any _ _ _ _ _))))
              go_wp2_with fail
              all_goals (go_ret; refine ⟨?_, (by repeat' (first | (with_reducible exact Below.refl _ _) | (with_reducible assumption) | (with_reducible refine below_drewN ?_ _) | (with_reducible refine below_more _ _ _ ?_ ?_) | (with_reducible refine Below.alloc ?_ ?_ _) | (with_reducible refine Below.drew ?_) | (with_reducible refine Below.setCell ?_ ?_ _) | go_size))⟩; go_tidy; (have h := HR.out; rw [← h]; simp_all [inR]))
        · rw [Bool.not_eq_true] at h2
          go_quiet ((first | (go_at_call 79; exact quiet_add_left (bit_any _ _ _ (by omega) (by omega) (by omega))) | (go_at_call 80; exact quiet_add_left (rIn_any _ _ _ _ _))))
          go_wp2_with fail
          all_goals (go_ret; refine ⟨?_, (by repeat' (first | (with_reducible exact Below.refl _ _) | (with_reducible assumption) | (with_reducible refine below_drewN ?_ _) | (with_reducible refine below_more _ _ _ ?_ ?_) | (with_reducible refine Below.alloc ?_ ?_ _) | (with_reducible refine Below.drew ?_) | (with_reducible refine Below.setCell ?_ ?_ _) | go_size))⟩; go_tidy; (have h := HR.out; rw [← h]; simp_all [inR]))
    · rw [Bool.not_eq_true] at h1
      go_quiet ((first | (go_at_call 79; exact quiet_same (bit_any _ _ _ (by omega) (by omega) (by omega))) | (go_at_call 80; exact quiet_same (rIn_any _ _ _ _ _))))
      go_wp2_with fail
      all_goals (go_ret; refine ⟨?_, (by repeat' (first | (with_reducible exact Below.refl _ _) | (with_reducible assumption) | (with_reducible refine below_drewN ?_ _) | (with_reducible refine below_more _ _ _ ?_ ?_) | (with_reducible refine Below.alloc ?_ ?_ _) | (with_reducible refine Below.drew ?_) | (with_reducible refine Below.setCell ?_ ?_ _) | go_size))⟩; go_tidy; (have h := HR.out; rw [← h]; simp_all [inR]))
  · go_enter Try.func52, Try.ntmps52
    go_wp2_with fail
    all_goals go_ret
    all_goals refine ⟨?_, by go_grown⟩
    all_goals go_tidy
    all_goals (have h := HR.out; rw [← h]; simp [inR]; omega)

end Go.Proofs.Ytbghjklnlhoklaa
