/-
  Package systems: Hurt, Age, and the reference's. No condition (the numbers are ints).
-/
import Derived.Test.YtcnclcfipabimaaPaA
import Derived.Test.YtcnclcfipabimaaMpr
namespace Go.Proofs.Ytcnclcfipabimaa
open Go.RowKit

def zeroB : Bun := ⟨0, 0, 0, 0, 0, 0, 0, 0, 0, 0, 0⟩
def hurtF (b : Bun) (n : Int) : Bun × Bool := if hasB b.m 4 = false ∨ n ≤ 0 then (b, true) else if b.hp ≤ n then (zeroB, false) else ({ b with hp := b.hp - n }, true)
def ageF (b : Bun) : Bun × Bool := if hasB b.m 16 = false then (b, true) else if b.lf ≤ 1 then (zeroB, false) else ({ b with lf := b.lf - 1 }, true)



set_option maxHeartbeats 1000000 in
theorem hurt_any (s i g m x y vx vy hp pw lf n : Int) (w : World) (hh : (-9223372036854775808 ≤ hp ∧ hp ≤ 9223372036854775807)) :
    Calls Try.prog 87 #[.agg #[.int .i64 s, .int .i64 i, .int .i64 g, .int .i64 m, .int .i64 x, .int .i64 y, .int .i64 vx, .int .i64 vy, .int .i64 hp, .int .i64 pw, .int .i64 lf], .int .i64 n] w fun e w' => e = .returned (.tuple #[.agg #[.int .i64 ((hurtF ⟨s, i, g, m, x, y, vx, vy, hp, pw, lf⟩ n).1).s, .int .i64 ((hurtF ⟨s, i, g, m, x, y, vx, vy, hp, pw, lf⟩ n).1).i, .int .i64 ((hurtF ⟨s, i, g, m, x, y, vx, vy, hp, pw, lf⟩ n).1).g, .int .i64 ((hurtF ⟨s, i, g, m, x, y, vx, vy, hp, pw, lf⟩ n).1).m, .int .i64 ((hurtF ⟨s, i, g, m, x, y, vx, vy, hp, pw, lf⟩ n).1).x, .int .i64 ((hurtF ⟨s, i, g, m, x, y, vx, vy, hp, pw, lf⟩ n).1).y, .int .i64 ((hurtF ⟨s, i, g, m, x, y, vx, vy, hp, pw, lf⟩ n).1).vx, .int .i64 ((hurtF ⟨s, i, g, m, x, y, vx, vy, hp, pw, lf⟩ n).1).vy, .int .i64 ((hurtF ⟨s, i, g, m, x, y, vx, vy, hp, pw, lf⟩ n).1).hp, .int .i64 ((hurtF ⟨s, i, g, m, x, y, vx, vy, hp, pw, lf⟩ n).1).pw, .int .i64 ((hurtF ⟨s, i, g, m, x, y, vx, vy, hp, pw, lf⟩ n).1).lf], .bool (hurtF ⟨s, i, g, m, x, y, vx, vy, hp, pw, lf⟩ n).2]) ∧ Below w.heap.size w w' := by
  obtain ⟨hh0, hh1⟩ := hh
  cases hb : hasB m 4 with
  | false =>
    simp only [hurtF, hb, true_or, if_true]
    go_enter Try.func87, Try.ntmps87
    go_wp2_with (go_at_call 119; refine (has_any _ _ _ _ _ _ _ _ _ _ _ _ _).mono ?_; rintro e w' ⟨rfl, hb⟩; obtain ⟨d, os, rfl⟩ := more_of hb; clear hb)
    exact bodyPost_ret (v := .tuple #[.agg #[.int .i64 s, .int .i64 i, .int .i64 g, .int .i64 m, .int .i64 x, .int .i64 y, .int .i64 vx, .int .i64 vy, .int .i64 hp, .int .i64 pw, .int .i64 lf], .bool true]) (by simp [results, Try.results87, go_sem]) rfl ⟨rfl, (by repeat' (first | (with_reducible exact Below.refl _ _) | (with_reducible assumption) | (with_reducible refine below_drewN ?_ _) | (with_reducible refine below_more _ _ _ ?_ ?_) | (with_reducible refine Below.alloc ?_ ?_ _) | (with_reducible refine Below.drew ?_) | (with_reducible refine Below.setCell ?_ ?_ _) | go_size))⟩
  | true =>
    by_cases h1 : n ≤ 0
    · simp only [hurtF, hb, h1, or_true, if_true]
      go_enter Try.func87, Try.ntmps87
      go_wp2_with (go_at_call 119; refine (has_any _ _ _ _ _ _ _ _ _ _ _ _ _).mono ?_; rintro e w' ⟨rfl, hb⟩; obtain ⟨d, os, rfl⟩ := more_of hb; clear hb)
      exact bodyPost_ret (v := .tuple #[.agg #[.int .i64 s, .int .i64 i, .int .i64 g, .int .i64 m, .int .i64 x, .int .i64 y, .int .i64 vx, .int .i64 vy, .int .i64 hp, .int .i64 pw, .int .i64 lf], .bool true]) (by simp [results, Try.results87, go_sem]) rfl ⟨rfl, (by repeat' (first | (with_reducible exact Below.refl _ _) | (with_reducible assumption) | (with_reducible refine below_drewN ?_ _) | (with_reducible refine below_more _ _ _ ?_ ?_) | (with_reducible refine Below.alloc ?_ ?_ _) | (with_reducible refine Below.drew ?_) | (with_reducible refine Below.setCell ?_ ?_ _) | go_size))⟩
    · by_cases h2 : hp ≤ n
      · simp only [hurtF, hb, h1, Bool.true_eq_false, or_self, if_false, if_pos h2, zeroB]
        have h1' : 0 < n := by omega
        clear h1
        go_enter Try.func87, Try.ntmps87
        go_wp2_with (go_at_call 119; refine (has_any _ _ _ _ _ _ _ _ _ _ _ _ _).mono ?_; rintro e w' ⟨rfl, hb⟩; obtain ⟨d, os, rfl⟩ := more_of hb; clear hb)
        exact bodyPost_ret (v := .tuple #[.agg #[.int .i64 0, .int .i64 0, .int .i64 0, .int .i64 0, .int .i64 0, .int .i64 0, .int .i64 0, .int .i64 0, .int .i64 0, .int .i64 0, .int .i64 0], .bool false]) (by simp [results, Try.results87, go_sem]) rfl ⟨rfl, (by repeat' (first | (with_reducible exact Below.refl _ _) | (with_reducible assumption) | (with_reducible refine below_drewN ?_ _) | (with_reducible refine below_more _ _ _ ?_ ?_) | (with_reducible refine Below.alloc ?_ ?_ _) | (with_reducible refine Below.drew ?_) | (with_reducible refine Below.setCell ?_ ?_ _) | go_size))⟩
      · simp only [hurtF, hb, h1, Bool.true_eq_false, or_self, if_false, if_neg h2]
        have h1' : 0 < n := by omega
        have h2' : n < hp := by omega
        clear h1 h2
        go_enter Try.func87, Try.ntmps87
        go_wp2_with (go_at_call 119; refine (has_any _ _ _ _ _ _ _ _ _ _ _ _ _).mono ?_; rintro e w' ⟨rfl, hb⟩; obtain ⟨d, os, rfl⟩ := more_of hb; clear hb)
        exact bodyPost_ret (v := .tuple #[.agg #[.int .i64 s, .int .i64 i, .int .i64 g, .int .i64 m, .int .i64 x, .int .i64 y, .int .i64 vx, .int .i64 vy, .int .i64 (hp - n), .int .i64 pw, .int .i64 lf], .bool true]) (by simp [results, Try.results87, go_sem]) rfl ⟨rfl, (by repeat' (first | (with_reducible exact Below.refl _ _) | (with_reducible assumption) | (with_reducible refine below_drewN ?_ _) | (with_reducible refine below_more _ _ _ ?_ ?_) | (with_reducible refine Below.alloc ?_ ?_ _) | (with_reducible refine Below.drew ?_) | (with_reducible refine Below.setCell ?_ ?_ _) | go_size))⟩

set_option maxHeartbeats 1000000 in
theorem age_any (s i g m x y vx vy hp pw lf : Int) (w : World) (hl : (-9223372036854775808 ≤ lf ∧ lf ≤ 9223372036854775807)) :
    Calls Try.prog 90 #[.agg #[.int .i64 s, .int .i64 i, .int .i64 g, .int .i64 m, .int .i64 x, .int .i64 y, .int .i64 vx, .int .i64 vy, .int .i64 hp, .int .i64 pw, .int .i64 lf]] w fun e w' => e = .returned (.tuple #[.agg #[.int .i64 ((ageF ⟨s, i, g, m, x, y, vx, vy, hp, pw, lf⟩).1).s, .int .i64 ((ageF ⟨s, i, g, m, x, y, vx, vy, hp, pw, lf⟩).1).i, .int .i64 ((ageF ⟨s, i, g, m, x, y, vx, vy, hp, pw, lf⟩).1).g, .int .i64 ((ageF ⟨s, i, g, m, x, y, vx, vy, hp, pw, lf⟩).1).m, .int .i64 ((ageF ⟨s, i, g, m, x, y, vx, vy, hp, pw, lf⟩).1).x, .int .i64 ((ageF ⟨s, i, g, m, x, y, vx, vy, hp, pw, lf⟩).1).y, .int .i64 ((ageF ⟨s, i, g, m, x, y, vx, vy, hp, pw, lf⟩).1).vx, .int .i64 ((ageF ⟨s, i, g, m, x, y, vx, vy, hp, pw, lf⟩).1).vy, .int .i64 ((ageF ⟨s, i, g, m, x, y, vx, vy, hp, pw, lf⟩).1).hp, .int .i64 ((ageF ⟨s, i, g, m, x, y, vx, vy, hp, pw, lf⟩).1).pw, .int .i64 ((ageF ⟨s, i, g, m, x, y, vx, vy, hp, pw, lf⟩).1).lf], .bool (ageF ⟨s, i, g, m, x, y, vx, vy, hp, pw, lf⟩).2]) ∧ Below w.heap.size w w' := by
  obtain ⟨hh0, hh1⟩ := hl
  cases hb : hasB m 16 with
  | false =>
    simp only [ageF, hb, if_true]
    go_enter Try.func90, Try.ntmps90
    go_wp2_with (go_at_call 119; refine (has_any _ _ _ _ _ _ _ _ _ _ _ _ _).mono ?_; rintro e w' ⟨rfl, hb⟩; obtain ⟨d, os, rfl⟩ := more_of hb; clear hb)
    exact bodyPost_ret (v := .tuple #[.agg #[.int .i64 s, .int .i64 i, .int .i64 g, .int .i64 m, .int .i64 x, .int .i64 y, .int .i64 vx, .int .i64 vy, .int .i64 hp, .int .i64 pw, .int .i64 lf], .bool true]) (by simp [results, Try.results90, go_sem]) rfl ⟨rfl, (by repeat' (first | (with_reducible exact Below.refl _ _) | (with_reducible assumption) | (with_reducible refine below_drewN ?_ _) | (with_reducible refine below_more _ _ _ ?_ ?_) | (with_reducible refine Below.alloc ?_ ?_ _) | (with_reducible refine Below.drew ?_) | (with_reducible refine Below.setCell ?_ ?_ _) | go_size))⟩
  | true =>
    by_cases h2 : lf ≤ 1
    · simp only [ageF, hb, Bool.true_eq_false, if_false, if_pos h2, zeroB]
      go_enter Try.func90, Try.ntmps90
      go_wp2_with (go_at_call 119; refine (has_any _ _ _ _ _ _ _ _ _ _ _ _ _).mono ?_; rintro e w' ⟨rfl, hb⟩; obtain ⟨d, os, rfl⟩ := more_of hb; clear hb)
      exact bodyPost_ret (v := .tuple #[.agg #[.int .i64 0, .int .i64 0, .int .i64 0, .int .i64 0, .int .i64 0, .int .i64 0, .int .i64 0, .int .i64 0, .int .i64 0, .int .i64 0, .int .i64 0], .bool false]) (by simp [results, Try.results90, go_sem]) rfl ⟨rfl, (by repeat' (first | (with_reducible exact Below.refl _ _) | (with_reducible assumption) | (with_reducible refine below_drewN ?_ _) | (with_reducible refine below_more _ _ _ ?_ ?_) | (with_reducible refine Below.alloc ?_ ?_ _) | (with_reducible refine Below.drew ?_) | (with_reducible refine Below.setCell ?_ ?_ _) | go_size))⟩
    · simp only [ageF, hb, Bool.true_eq_false, if_false, if_neg h2]
      have h2' : 1 < lf := by omega
      clear h2
      go_enter Try.func90, Try.ntmps90
      go_wp2_with (go_at_call 119; refine (has_any _ _ _ _ _ _ _ _ _ _ _ _ _).mono ?_; rintro e w' ⟨rfl, hb⟩; obtain ⟨d, os, rfl⟩ := more_of hb; clear hb)
      exact bodyPost_ret (v := .tuple #[.agg #[.int .i64 s, .int .i64 i, .int .i64 g, .int .i64 m, .int .i64 x, .int .i64 y, .int .i64 vx, .int .i64 vy, .int .i64 hp, .int .i64 pw, .int .i64 (lf - 1)], .bool true]) (by simp [results, Try.results90, go_sem]) rfl ⟨rfl, (by repeat' (first | (with_reducible exact Below.refl _ _) | (with_reducible assumption) | (with_reducible refine below_drewN ?_ _) | (with_reducible refine below_more _ _ _ ?_ ?_) | (with_reducible refine Below.alloc ?_ ?_ _) | (with_reducible refine Below.drew ?_) | (with_reducible refine Below.setCell ?_ ?_ _) | go_size))⟩


set_option maxHeartbeats 1000000 in
theorem rHurt_any (s i g m x y vx vy hp pw lf n : Int) (w : World) (hh : (-9223372036854775808 ≤ hp ∧ hp ≤ 9223372036854775807)) (HM : (-9223372036854775808 ≤ m ∧ m ≤ 9223372036854775807)) :
    Calls Try.prog 78 #[.agg #[.int .i64 s, .int .i64 i, .int .i64 g, .int .i64 m, .int .i64 x, .int .i64 y, .int .i64 vx, .int .i64 vy, .int .i64 hp, .int .i64 pw, .int .i64 lf], .int .i64 n] w fun e w' => e = .returned (.tuple #[.agg #[.int .i64 ((hurtF ⟨s, i, g, m, x, y, vx, vy, hp, pw, lf⟩ n).1).s, .int .i64 ((hurtF ⟨s, i, g, m, x, y, vx, vy, hp, pw, lf⟩ n).1).i, .int .i64 ((hurtF ⟨s, i, g, m, x, y, vx, vy, hp, pw, lf⟩ n).1).g, .int .i64 ((hurtF ⟨s, i, g, m, x, y, vx, vy, hp, pw, lf⟩ n).1).m, .int .i64 ((hurtF ⟨s, i, g, m, x, y, vx, vy, hp, pw, lf⟩ n).1).x, .int .i64 ((hurtF ⟨s, i, g, m, x, y, vx, vy, hp, pw, lf⟩ n).1).y, .int .i64 ((hurtF ⟨s, i, g, m, x, y, vx, vy, hp, pw, lf⟩ n).1).vx, .int .i64 ((hurtF ⟨s, i, g, m, x, y, vx, vy, hp, pw, lf⟩ n).1).vy, .int .i64 ((hurtF ⟨s, i, g, m, x, y, vx, vy, hp, pw, lf⟩ n).1).hp, .int .i64 ((hurtF ⟨s, i, g, m, x, y, vx, vy, hp, pw, lf⟩ n).1).pw, .int .i64 ((hurtF ⟨s, i, g, m, x, y, vx, vy, hp, pw, lf⟩ n).1).lf], .bool (hurtF ⟨s, i, g, m, x, y, vx, vy, hp, pw, lf⟩ n).2]) ∧ Below w.heap.size w w' := by
  obtain ⟨hh0, hh1⟩ := hh
  have HM := Lib.hid HM
  have HB4 := fun W => bit_any m 4 W HM.out.1 HM.out.2 (by omega)
  rw [← hasB_tb4] at HB4
  cases hb : hasB m 4 with
  | false =>
    simp only [hurtF, hb, true_or, if_true]
    have HB4 := Lib.hid HB4
    go_enter Try.func78, Try.ntmps78
    go_wp2_with (go_at_call 96; refine (HB4.out _).mono ?_; rintro e w' ⟨rfl, rfl⟩)
    exact bodyPost_ret (v := .tuple #[.agg #[.int .i64 s, .int .i64 i, .int .i64 g, .int .i64 m, .int .i64 x, .int .i64 y, .int .i64 vx, .int .i64 vy, .int .i64 hp, .int .i64 pw, .int .i64 lf], .bool true]) (by simp [results, Try.results78, go_sem]) rfl ⟨rfl, (by repeat' (first | (with_reducible exact Below.refl _ _) | (with_reducible assumption) | (with_reducible refine below_drewN ?_ _) | (with_reducible refine below_more _ _ _ ?_ ?_) | (with_reducible refine Below.alloc ?_ ?_ _) | (with_reducible refine Below.drew ?_) | (with_reducible refine Below.setCell ?_ ?_ _) | go_size))⟩
  | true =>
    by_cases h1 : n ≤ 0
    · simp only [hurtF, hb, h1, or_true, if_true]
      have HB4 := Lib.hid HB4
      go_enter Try.func78, Try.ntmps78
      go_wp2_with (go_at_call 96; refine (HB4.out _).mono ?_; rintro e w' ⟨rfl, rfl⟩)
      exact bodyPost_ret (v := .tuple #[.agg #[.int .i64 s, .int .i64 i, .int .i64 g, .int .i64 m, .int .i64 x, .int .i64 y, .int .i64 vx, .int .i64 vy, .int .i64 hp, .int .i64 pw, .int .i64 lf], .bool true]) (by simp [results, Try.results78, go_sem]) rfl ⟨rfl, (by repeat' (first | (with_reducible exact Below.refl _ _) | (with_reducible assumption) | (with_reducible refine below_drewN ?_ _) | (with_reducible refine below_more _ _ _ ?_ ?_) | (with_reducible refine Below.alloc ?_ ?_ _) | (with_reducible refine Below.drew ?_) | (with_reducible refine Below.setCell ?_ ?_ _) | go_size))⟩
    · by_cases h2 : hp ≤ n
      · simp only [hurtF, hb, h1, Bool.true_eq_false, or_self, if_false, if_pos h2, zeroB]
        have h1' : 0 < n := by omega
        have HB4 := Lib.hid HB4
        clear h1
        go_enter Try.func78, Try.ntmps78
        go_wp2_with (go_at_call 96; refine (HB4.out _).mono ?_; rintro e w' ⟨rfl, rfl⟩)
        exact bodyPost_ret (v := .tuple #[.agg #[.int .i64 0, .int .i64 0, .int .i64 0, .int .i64 0, .int .i64 0, .int .i64 0, .int .i64 0, .int .i64 0, .int .i64 0, .int .i64 0, .int .i64 0], .bool false]) (by simp [results, Try.results78, go_sem]) rfl ⟨rfl, (by repeat' (first | (with_reducible exact Below.refl _ _) | (with_reducible assumption) | (with_reducible refine below_drewN ?_ _) | (with_reducible refine below_more _ _ _ ?_ ?_) | (with_reducible refine Below.alloc ?_ ?_ _) | (with_reducible refine Below.drew ?_) | (with_reducible refine Below.setCell ?_ ?_ _) | go_size))⟩
      · simp only [hurtF, hb, h1, Bool.true_eq_false, or_self, if_false, if_neg h2]
        have h1' : 0 < n := by omega
        have h2' : n < hp := by omega
        have HB4 := Lib.hid HB4
        clear h1 h2
        go_enter Try.func78, Try.ntmps78
        go_wp2_with (go_at_call 96; refine (HB4.out _).mono ?_; rintro e w' ⟨rfl, rfl⟩)
        exact bodyPost_ret (v := .tuple #[.agg #[.int .i64 s, .int .i64 i, .int .i64 g, .int .i64 m, .int .i64 x, .int .i64 y, .int .i64 vx, .int .i64 vy, .int .i64 (hp - n), .int .i64 pw, .int .i64 lf], .bool true]) (by simp [results, Try.results78, go_sem]) rfl ⟨rfl, (by repeat' (first | (with_reducible exact Below.refl _ _) | (with_reducible assumption) | (with_reducible refine below_drewN ?_ _) | (with_reducible refine below_more _ _ _ ?_ ?_) | (with_reducible refine Below.alloc ?_ ?_ _) | (with_reducible refine Below.drew ?_) | (with_reducible refine Below.setCell ?_ ?_ _) | go_size))⟩

set_option maxHeartbeats 1000000 in
theorem rAge_any (s i g m x y vx vy hp pw lf : Int) (w : World) (hl : (-9223372036854775808 ≤ lf ∧ lf ≤ 9223372036854775807)) (HM : (-9223372036854775808 ≤ m ∧ m ≤ 9223372036854775807)) :
    Calls Try.prog 82 #[.agg #[.int .i64 s, .int .i64 i, .int .i64 g, .int .i64 m, .int .i64 x, .int .i64 y, .int .i64 vx, .int .i64 vy, .int .i64 hp, .int .i64 pw, .int .i64 lf]] w fun e w' => e = .returned (.tuple #[.agg #[.int .i64 ((ageF ⟨s, i, g, m, x, y, vx, vy, hp, pw, lf⟩).1).s, .int .i64 ((ageF ⟨s, i, g, m, x, y, vx, vy, hp, pw, lf⟩).1).i, .int .i64 ((ageF ⟨s, i, g, m, x, y, vx, vy, hp, pw, lf⟩).1).g, .int .i64 ((ageF ⟨s, i, g, m, x, y, vx, vy, hp, pw, lf⟩).1).m, .int .i64 ((ageF ⟨s, i, g, m, x, y, vx, vy, hp, pw, lf⟩).1).x, .int .i64 ((ageF ⟨s, i, g, m, x, y, vx, vy, hp, pw, lf⟩).1).y, .int .i64 ((ageF ⟨s, i, g, m, x, y, vx, vy, hp, pw, lf⟩).1).vx, .int .i64 ((ageF ⟨s, i, g, m, x, y, vx, vy, hp, pw, lf⟩).1).vy, .int .i64 ((ageF ⟨s, i, g, m, x, y, vx, vy, hp, pw, lf⟩).1).hp, .int .i64 ((ageF ⟨s, i, g, m, x, y, vx, vy, hp, pw, lf⟩).1).pw, .int .i64 ((ageF ⟨s, i, g, m, x, y, vx, vy, hp, pw, lf⟩).1).lf], .bool (ageF ⟨s, i, g, m, x, y, vx, vy, hp, pw, lf⟩).2]) ∧ Below w.heap.size w w' := by
  obtain ⟨hh0, hh1⟩ := hl
  have HM := Lib.hid HM
  have HB4 := fun W => bit_any m 16 W HM.out.1 HM.out.2 (by omega)
  rw [← hasB_tb16] at HB4
  cases hb : hasB m 16 with
  | false =>
    simp only [ageF, hb, if_true]
    have HB4 := Lib.hid HB4
    go_enter Try.func82, Try.ntmps82
    go_wp2_with (go_at_call 96; refine (HB4.out _).mono ?_; rintro e w' ⟨rfl, rfl⟩)
    exact bodyPost_ret (v := .tuple #[.agg #[.int .i64 s, .int .i64 i, .int .i64 g, .int .i64 m, .int .i64 x, .int .i64 y, .int .i64 vx, .int .i64 vy, .int .i64 hp, .int .i64 pw, .int .i64 lf], .bool true]) (by simp [results, Try.results82, go_sem]) rfl ⟨rfl, (by repeat' (first | (with_reducible exact Below.refl _ _) | (with_reducible assumption) | (with_reducible refine below_drewN ?_ _) | (with_reducible refine below_more _ _ _ ?_ ?_) | (with_reducible refine Below.alloc ?_ ?_ _) | (with_reducible refine Below.drew ?_) | (with_reducible refine Below.setCell ?_ ?_ _) | go_size))⟩
  | true =>
    by_cases h2 : lf ≤ 1
    · simp only [ageF, hb, Bool.true_eq_false, if_false, if_pos h2, zeroB]
      have h2' : lf < 2 := by omega
      have HB4 := Lib.hid HB4
      clear h2
      go_enter Try.func82, Try.ntmps82
      go_wp2_with (go_at_call 96; refine (HB4.out _).mono ?_; rintro e w' ⟨rfl, rfl⟩)
      exact bodyPost_ret (v := .tuple #[.agg #[.int .i64 0, .int .i64 0, .int .i64 0, .int .i64 0, .int .i64 0, .int .i64 0, .int .i64 0, .int .i64 0, .int .i64 0, .int .i64 0, .int .i64 0], .bool false]) (by simp [results, Try.results82, go_sem]) rfl ⟨rfl, (by repeat' (first | (with_reducible exact Below.refl _ _) | (with_reducible assumption) | (with_reducible refine below_drewN ?_ _) | (with_reducible refine below_more _ _ _ ?_ ?_) | (with_reducible refine Below.alloc ?_ ?_ _) | (with_reducible refine Below.drew ?_) | (with_reducible refine Below.setCell ?_ ?_ _) | go_size))⟩
    · simp only [ageF, hb, Bool.true_eq_false, if_false, if_neg h2]
      have h2' : 2 ≤ lf := by omega
      have HB4 := Lib.hid HB4
      clear h2
      go_enter Try.func82, Try.ntmps82
      go_wp2_with (go_at_call 96; refine (HB4.out _).mono ?_; rintro e w' ⟨rfl, rfl⟩)
      exact bodyPost_ret (v := .tuple #[.agg #[.int .i64 s, .int .i64 i, .int .i64 g, .int .i64 m, .int .i64 x, .int .i64 y, .int .i64 vx, .int .i64 vy, .int .i64 hp, .int .i64 pw, .int .i64 (lf - 1)], .bool true]) (by simp [results, Try.results82, go_sem]) rfl ⟨rfl, (by repeat' (first | (with_reducible exact Below.refl _ _) | (with_reducible assumption) | (with_reducible refine below_drewN ?_ _) | (with_reducible refine below_more _ _ _ ?_ ?_) | (with_reducible refine Below.alloc ?_ ?_ _) | (with_reducible refine Below.drew ?_) | (with_reducible refine Below.setCell ?_ ?_ _) | go_size))⟩
end Go.Proofs.Ytcnclcfipabimaa
