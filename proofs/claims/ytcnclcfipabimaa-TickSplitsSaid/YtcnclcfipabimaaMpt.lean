/-
  Walks of the reference of chapter 9: Right, May. Each function computes its plain twin; new memory alone is written. No condition.
  Walks of the reference of chapter 9: May, MayCmd, With, Without. Each function computes its plain twin; new memory alone is written. Condition: masks are ints (64 bits).
-/
import Derived.Test.YtcnclcfipabimaaMpr
namespace Go.Proofs.Ytcnclcfipabimaa
open Go.RowKit

set_option maxHeartbeats 8000000 in
theorem rRight_any (s i g m x y vx vy hp pw lf : Int) (w : World) (hm0 : -9223372036854775808 ≤ m) (hm1 : m ≤ 9223372036854775807) :
    Calls Try.prog 99 #[.agg #[.int .i64 s, .int .i64 i, .int .i64 g, .int .i64 m, .int .i64 x, .int .i64 y, .int .i64 vx, .int .i64 vy, .int .i64 hp, .int .i64 pw, .int .i64 lf]] w fun e w' => e = .returned (.bool (rRightB ⟨s, i, g, m, x, y, vx, vy, hp, pw, lf⟩)) ∧ Below w.heap.size w w' := by
  generalize hr : rRightB _ = r
  unfold rRightB at hr
  have HR := Lib.hid hr
  clear hr
  by_cases hm : 0 ≤ m ∧ m ≤ 31
  · obtain ⟨hm0, hm1⟩ := hm
    go_enter Try.func99, Try.ntmps99
    go_wp2_with fail
    by_cases h1 : withinB (tb m 1) x (-1073741824) 1073741824 = true
    · go_quiet ((first | (go_at_call 96; exact quiet_same (bit_any _ _ _ (by omega) (by omega) (by omega))) | (go_at_call 132; exact quiet_same (rIn_any _ _ _ _ _))))
      go_wp2_with fail
      · all_goals (go_ret; refine ⟨?_, (by repeat' (first | (with_reducible exact Below.refl _ _) | (with_reducible assumption) | (with_reducible refine below_drewN ?_ _) | (with_reducible refine below_more _ _ _ ?_ ?_) | (with_reducible refine Below.alloc ?_ ?_ _) | (with_reducible refine Below.drew ?_) | (with_reducible refine Below.setCell ?_ ?_ _) | go_size))⟩; go_tidy; (have h := HR.out; rw [← h]; simp_all [inR]))
      · by_cases h2 : withinB (tb m 2) vx (-1073741824) 1073741824 = true
        · go_quiet ((first | (go_at_call 96; exact quiet_add_left (bit_any _ _ _ (by omega) (by omega) (by omega))) | (go_at_call 132; exact quiet_add_left (rIn_any _ _ _ _ _))))
          go_wp2_with fail
          · all_goals (go_ret; refine ⟨?_, (by repeat' (first | (with_reducible exact Below.refl _ _) | (with_reducible assumption) | (with_reducible refine below_drewN ?_ _) | (with_reducible refine below_more _ _ _ ?_ ?_) | (with_reducible refine Below.alloc ?_ ?_ _) | (with_reducible refine Below.drew ?_) | (with_reducible refine Below.setCell ?_ ?_ _) | go_size))⟩; go_tidy; (have h := HR.out; rw [← h]; simp_all [inR]))
          · by_cases h3 : withinB (tb m 4) hp 1 1048576 = true
            · by_cases h4 : withinB (tb m 8) pw 0 1024 = true
              · go_quiet ((first | (go_at_call 96; exact quiet_add_left (bit_any _ _ _ (by omega) (by omega) (by omega))) | (go_at_call 132; exact quiet_add_left (rIn_any _ _ _ _ _))))
                go_wp2_with fail
                all_goals (go_ret; refine ⟨?_, (by repeat' (first | (with_reducible exact Below.refl _ _) | (with_reducible assumption) | (with_reducible refine below_drewN ?_ _) | (with_reducible refine below_more _ _ _ ?_ ?_) | (with_reducible refine Below.alloc ?_ ?_ _) | (with_reducible refine Below.drew ?_) | (with_reducible refine Below.setCell ?_ ?_ _) | go_size))⟩; go_tidy; (have h := HR.out; rw [← h]; simp_all [inR]))
              · rw [Bool.not_eq_true] at h4
                go_quiet ((first | (go_at_call 96; exact quiet_add_left (bit_any _ _ _ (by omega) (by omega) (by omega))) | (go_at_call 132; exact quiet_add_left (rIn_any _ _ _ _ _))))
                go_wp2_with fail
                all_goals (go_ret; refine ⟨?_, (by repeat' (first | (with_reducible exact Below.refl _ _) | (with_reducible assumption) | (with_reducible refine below_drewN ?_ _) | (with_reducible refine below_more _ _ _ ?_ ?_) | (with_reducible refine Below.alloc ?_ ?_ _) | (with_reducible refine Below.drew ?_) | (with_reducible refine Below.setCell ?_ ?_ _) | go_size))⟩; go_tidy; (have h := HR.out; rw [← h]; simp_all [inR]))
            · rw [Bool.not_eq_true] at h3
              go_quiet ((first | (go_at_call 96; exact quiet_add_left (bit_any _ _ _ (by omega) (by omega) (by omega))) | (go_at_call 132; exact quiet_add_left (rIn_any _ _ _ _ _))))
              go_wp2_with fail
              all_goals (go_ret; refine ⟨?_, (by repeat' (first | (with_reducible exact Below.refl _ _) | (with_reducible assumption) | (with_reducible refine below_drewN ?_ _) | (with_reducible refine below_more _ _ _ ?_ ?_) | (with_reducible refine Below.alloc ?_ ?_ _) | (with_reducible refine Below.drew ?_) | (with_reducible refine Below.setCell ?_ ?_ _) | go_size))⟩; go_tidy; (have h := HR.out; rw [← h]; simp_all [inR]))
        · rw [Bool.not_eq_true] at h2
          go_quiet ((first | (go_at_call 96; exact quiet_add_left (bit_any _ _ _ (by omega) (by omega) (by omega))) | (go_at_call 132; exact quiet_add_left (rIn_any _ _ _ _ _))))
          go_wp2_with fail
          all_goals (go_ret; refine ⟨?_, (by repeat' (first | (with_reducible exact Below.refl _ _) | (with_reducible assumption) | (with_reducible refine below_drewN ?_ _) | (with_reducible refine below_more _ _ _ ?_ ?_) | (with_reducible refine Below.alloc ?_ ?_ _) | (with_reducible refine Below.drew ?_) | (with_reducible refine Below.setCell ?_ ?_ _) | go_size))⟩; go_tidy; (have h := HR.out; rw [← h]; simp_all [inR]))
    · rw [Bool.not_eq_true] at h1
      go_quiet ((first | (go_at_call 96; exact quiet_same (bit_any _ _ _ (by omega) (by omega) (by omega))) | (go_at_call 132; exact quiet_same (rIn_any _ _ _ _ _))))
      go_wp2_with fail
      all_goals (go_ret; refine ⟨?_, (by repeat' (first | (with_reducible exact Below.refl _ _) | (with_reducible assumption) | (with_reducible refine below_drewN ?_ _) | (with_reducible refine below_more _ _ _ ?_ ?_) | (with_reducible refine Below.alloc ?_ ?_ _) | (with_reducible refine Below.drew ?_) | (with_reducible refine Below.setCell ?_ ?_ _) | go_size))⟩; go_tidy; (have h := HR.out; rw [← h]; simp_all [inR]))
  · go_enter Try.func99, Try.ntmps99
    go_wp2_with fail
    all_goals go_ret
    all_goals refine ⟨?_, by go_grown⟩
    all_goals go_tidy
    all_goals (have h := HR.out; rw [← h]; simp [inR]; omega)

end Go.Proofs.Ytcnclcfipabimaa
namespace Go.Proofs.Ytcnclcfipabimaa
open Go.RowKit

set_option maxHeartbeats 2000000 in
theorem rMay_any (s i g m x y vx vy hp pw lf : Int) (w : World) (hm0 : -9223372036854775808 ≤ m) (hm1 : m ≤ 9223372036854775807) :
    Calls Try.prog 54 #[.agg #[.int .i64 s, .int .i64 i, .int .i64 g, .int .i64 m, .int .i64 x, .int .i64 y, .int .i64 vx, .int .i64 vy, .int .i64 hp, .int .i64 pw, .int .i64 lf]] w fun e w' => e = .returned (.bool (rMayB ⟨s, i, g, m, x, y, vx, vy, hp, pw, lf⟩)) ∧ Below w.heap.size w w' := by
  generalize hr : rMayB _ = r
  unfold rMayB at hr
  dsimp only at hr
  have HR := Lib.hid hr
  clear hr
  go_enter Try.func54, Try.ntmps54
  go_wp2_with (first
    | (go_at_call 98; refine (rRightID_any _ _ _ _).mono ?_; rintro e w1 ⟨rfl, hb⟩; obtain ⟨⟨hB1, hs1, hl1⟩, hc1⟩ := box_keep hb (box_new0 w _ _); clear hb)
    | (go_at_call 99; refine (rRight_any _ _ _ _ _ _ _ _ _ _ _ _ (by omega) (by omega)).mono ?_; rintro e w2 ⟨rfl, hb⟩; obtain ⟨⟨hB2, hs2, hl2⟩, hc2⟩ := box_keep hb ⟨⟨hB1, hs1, hl1⟩, hc1⟩; clear hb hB1 hs1 hl1 hc1)
    | (go_at_call 96; refine (bit_any _ _ _ (by omega) (by omega) (by omega)).mono ?_; rintro e w3 ⟨rfl, rfl⟩))
  all_goals (go_ret; refine ⟨?_, by assumption⟩; go_tidy; (have h := HR.out; rw [← h]; simp_all))

set_option maxHeartbeats 4000000 in
theorem rMayCmd_any (k s i g es ei eg m x y vx vy hp pw lf mask : Int) (w : World) (hm0 : -9223372036854775808 ≤ m) (hm1 : m ≤ 9223372036854775807) :
    Calls Try.prog 76 #[.agg #[.int .i64 k, .int .i64 s, .int .i64 i, .int .i64 g, .int .i64 es, .int .i64 ei, .int .i64 eg, .int .i64 m, .int .i64 x, .int .i64 y, .int .i64 vx, .int .i64 vy, .int .i64 hp, .int .i64 pw, .int .i64 lf, .int .i64 mask]] w fun e w' => e = .returned (.bool (rCmdB ⟨k, s, i, g, ⟨es, ei, eg, m, x, y, vx, vy, hp, pw, lf⟩, mask⟩)) ∧ Below w.heap.size w w' := by
  generalize hr : rCmdB _ = r
  unfold rCmdB at hr
  dsimp only at hr
  have HR := Lib.hid hr
  clear hr
  go_enter Try.func76, Try.ntmps76
  go_wp2_with (first
    | (go_at_call 98; refine (rRightID_any _ _ _ _).mono ?_; rintro e w1 ⟨rfl, hb⟩; obtain ⟨⟨hB1, hs1, hl1⟩, hc1⟩ := box_keep hb (box_new0 w _ _); clear hb)
    | (go_at_call 99; refine (rRight_any _ _ _ _ _ _ _ _ _ _ _ _ (by omega) (by omega)).mono ?_; rintro e w2 ⟨rfl, hb⟩; obtain ⟨⟨hB2, hs2, hl2⟩, hc2⟩ := box_keep hb ⟨⟨hB1, hs1, hl1⟩, hc1⟩; clear hb hB1 hs1 hl1 hc1)
    | (go_at_call 54; refine (rMay_any _ _ _ _ _ _ _ _ _ _ _ _ (by omega) (by omega)).mono ?_; rintro e w2 ⟨rfl, hb⟩; obtain ⟨⟨hB2, hs2, hl2⟩, hc2⟩ := box_keep hb (box_new0 w _ _); clear hb)
    | (go_at_call 114; refine (rTakes_any _ _).mono ?_; rintro e w' ⟨rfl, rfl⟩))
  all_goals (go_ret; refine ⟨?_, by first | assumption | go_grown⟩; go_tidy; (have h := HR.out; clear HR; subst h; simp_all [idZero, bunZero]))

end Go.Proofs.Ytcnclcfipabimaa
