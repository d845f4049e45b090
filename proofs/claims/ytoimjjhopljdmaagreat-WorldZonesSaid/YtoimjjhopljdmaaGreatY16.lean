/-
  Chapter texts SyB PaC: what the claim reaches of them. Conditions stand at each theorem.
-/
import Derived.Test.YtoimjjhopljdmaaGreatY01
import Derived.Test.YtoimjjhopljdmaaGreatY08
import Derived.Test.YtoimjjhopljdmaaGreatY09
import Derived.Test.YtoimjjhopljdmaaGreatY02
namespace Go.Proofs.YtoimjjhopljdmaaGreat
open Go.RowKit

def hurtF (b : Bun) (n : Int) : Bun × Bool := if hasB b.m 4 = false ∨ n ≤ 0 then (b, true) else if b.hp ≤ n then (zeroB, false) else ({ b with hp := b.hp - n }, true)
def ageF (b : Bun) : Bun × Bool := if hasB b.m 16 = false then (b, true) else if b.lf ≤ 1 then (zeroB, false) else ({ b with lf := b.lf - 1 }, true)



set_option maxHeartbeats 1000000 in
theorem hurt_any (s i g m x y vx vy hp pw lf n : Int) (w : World) (hh : (-9223372036854775808 ≤ hp ∧ hp ≤ 9223372036854775807)) :
    Calls Tryz.prog 100 #[.agg #[.int .i64 s, .int .i64 i, .int .i64 g, .int .i64 m, .int .i64 x, .int .i64 y, .int .i64 vx, .int .i64 vy, .int .i64 hp, .int .i64 pw, .int .i64 lf], .int .i64 n] w fun e w' => e = .returned (.tuple #[.agg #[.int .i64 ((hurtF ⟨s, i, g, m, x, y, vx, vy, hp, pw, lf⟩ n).1).s, .int .i64 ((hurtF ⟨s, i, g, m, x, y, vx, vy, hp, pw, lf⟩ n).1).i, .int .i64 ((hurtF ⟨s, i, g, m, x, y, vx, vy, hp, pw, lf⟩ n).1).g, .int .i64 ((hurtF ⟨s, i, g, m, x, y, vx, vy, hp, pw, lf⟩ n).1).m, .int .i64 ((hurtF ⟨s, i, g, m, x, y, vx, vy, hp, pw, lf⟩ n).1).x, .int .i64 ((hurtF ⟨s, i, g, m, x, y, vx, vy, hp, pw, lf⟩ n).1).y, .int .i64 ((hurtF ⟨s, i, g, m, x, y, vx, vy, hp, pw, lf⟩ n).1).vx, .int .i64 ((hurtF ⟨s, i, g, m, x, y, vx, vy, hp, pw, lf⟩ n).1).vy, .int .i64 ((hurtF ⟨s, i, g, m, x, y, vx, vy, hp, pw, lf⟩ n).1).hp, .int .i64 ((hurtF ⟨s, i, g, m, x, y, vx, vy, hp, pw, lf⟩ n).1).pw, .int .i64 ((hurtF ⟨s, i, g, m, x, y, vx, vy, hp, pw, lf⟩ n).1).lf], .bool (hurtF ⟨s, i, g, m, x, y, vx, vy, hp, pw, lf⟩ n).2]) ∧ Below w.heap.size w w' := by
  obtain ⟨hh0, hh1⟩ := hh
  cases hb : hasB m 4 with
  | false =>
    simp only [hurtF, hb, true_or, if_true]
    go_enter Tryz.func100, Tryz.ntmps100
    go_wp2_with (go_at_call 136; refine (has_any _ _ _ _ _ _ _ _ _ _ _ _ _).mono ?_; rintro e w' ⟨rfl, hb⟩; obtain ⟨d, os, rfl⟩ := more_of hb; clear hb)
    exact bodyPost_ret (v := .tuple #[.agg #[.int .i64 s, .int .i64 i, .int .i64 g, .int .i64 m, .int .i64 x, .int .i64 y, .int .i64 vx, .int .i64 vy, .int .i64 hp, .int .i64 pw, .int .i64 lf], .bool true]) (by simp [results, Tryz.results100, go_sem]) rfl ⟨rfl, bg⟩
  | true =>
    by_cases h1 : n ≤ 0
    · simp only [hurtF, hb, h1, or_true, if_true]
      go_enter Tryz.func100, Tryz.ntmps100
      go_wp2_with (go_at_call 136; refine (has_any _ _ _ _ _ _ _ _ _ _ _ _ _).mono ?_; rintro e w' ⟨rfl, hb⟩; obtain ⟨d, os, rfl⟩ := more_of hb; clear hb)
      exact bodyPost_ret (v := .tuple #[.agg #[.int .i64 s, .int .i64 i, .int .i64 g, .int .i64 m, .int .i64 x, .int .i64 y, .int .i64 vx, .int .i64 vy, .int .i64 hp, .int .i64 pw, .int .i64 lf], .bool true]) (by simp [results, Tryz.results100, go_sem]) rfl ⟨rfl, bg⟩
    · by_cases h2 : hp ≤ n
      · simp only [hurtF, hb, h1, Bool.true_eq_false, or_self, if_false, if_pos h2, zeroB]
        have h1' : 0 < n := by omega
        clear h1
        go_enter Tryz.func100, Tryz.ntmps100
        go_wp2_with (go_at_call 136; refine (has_any _ _ _ _ _ _ _ _ _ _ _ _ _).mono ?_; rintro e w' ⟨rfl, hb⟩; obtain ⟨d, os, rfl⟩ := more_of hb; clear hb)
        exact bodyPost_ret (v := .tuple #[.agg #[.int .i64 0, .int .i64 0, .int .i64 0, .int .i64 0, .int .i64 0, .int .i64 0, .int .i64 0, .int .i64 0, .int .i64 0, .int .i64 0, .int .i64 0], .bool false]) (by simp [results, Tryz.results100, go_sem]) rfl ⟨rfl, bg⟩
      · simp only [hurtF, hb, h1, Bool.true_eq_false, or_self, if_false, if_neg h2]
        have h1' : 0 < n := by omega
        have h2' : n < hp := by omega
        clear h1 h2
        go_enter Tryz.func100, Tryz.ntmps100
        go_wp2_with (go_at_call 136; refine (has_any _ _ _ _ _ _ _ _ _ _ _ _ _).mono ?_; rintro e w' ⟨rfl, hb⟩; obtain ⟨d, os, rfl⟩ := more_of hb; clear hb)
        exact bodyPost_ret (v := .tuple #[.agg #[.int .i64 s, .int .i64 i, .int .i64 g, .int .i64 m, .int .i64 x, .int .i64 y, .int .i64 vx, .int .i64 vy, .int .i64 (hp - n), .int .i64 pw, .int .i64 lf], .bool true]) (by simp [results, Tryz.results100, go_sem]) rfl ⟨rfl, bg⟩

set_option maxHeartbeats 1000000 in
theorem age_any (s i g m x y vx vy hp pw lf : Int) (w : World) (hl : (-9223372036854775808 ≤ lf ∧ lf ≤ 9223372036854775807)) :
    Calls Tryz.prog 103 #[.agg #[.int .i64 s, .int .i64 i, .int .i64 g, .int .i64 m, .int .i64 x, .int .i64 y, .int .i64 vx, .int .i64 vy, .int .i64 hp, .int .i64 pw, .int .i64 lf]] w fun e w' => e = .returned (.tuple #[.agg #[.int .i64 ((ageF ⟨s, i, g, m, x, y, vx, vy, hp, pw, lf⟩).1).s, .int .i64 ((ageF ⟨s, i, g, m, x, y, vx, vy, hp, pw, lf⟩).1).i, .int .i64 ((ageF ⟨s, i, g, m, x, y, vx, vy, hp, pw, lf⟩).1).g, .int .i64 ((ageF ⟨s, i, g, m, x, y, vx, vy, hp, pw, lf⟩).1).m, .int .i64 ((ageF ⟨s, i, g, m, x, y, vx, vy, hp, pw, lf⟩).1).x, .int .i64 ((ageF ⟨s, i, g, m, x, y, vx, vy, hp, pw, lf⟩).1).y, .int .i64 ((ageF ⟨s, i, g, m, x, y, vx, vy, hp, pw, lf⟩).1).vx, .int .i64 ((ageF ⟨s, i, g, m, x, y, vx, vy, hp, pw, lf⟩).1).vy, .int .i64 ((ageF ⟨s, i, g, m, x, y, vx, vy, hp, pw, lf⟩).1).hp, .int .i64 ((ageF ⟨s, i, g, m, x, y, vx, vy, hp, pw, lf⟩).1).pw, .int .i64 ((ageF ⟨s, i, g, m, x, y, vx, vy, hp, pw, lf⟩).1).lf], .bool (ageF ⟨s, i, g, m, x, y, vx, vy, hp, pw, lf⟩).2]) ∧ Below w.heap.size w w' := by
  obtain ⟨hh0, hh1⟩ := hl
  cases hb : hasB m 16 with
  | false =>
    simp only [ageF, hb, if_true]
    go_enter Tryz.func103, Tryz.ntmps103
    go_wp2_with (go_at_call 136; refine (has_any _ _ _ _ _ _ _ _ _ _ _ _ _).mono ?_; rintro e w' ⟨rfl, hb⟩; obtain ⟨d, os, rfl⟩ := more_of hb; clear hb)
    exact bodyPost_ret (v := .tuple #[.agg #[.int .i64 s, .int .i64 i, .int .i64 g, .int .i64 m, .int .i64 x, .int .i64 y, .int .i64 vx, .int .i64 vy, .int .i64 hp, .int .i64 pw, .int .i64 lf], .bool true]) (by simp [results, Tryz.results103, go_sem]) rfl ⟨rfl, bg⟩
  | true =>
    by_cases h2 : lf ≤ 1
    · simp only [ageF, hb, Bool.true_eq_false, if_false, if_pos h2, zeroB]
      go_enter Tryz.func103, Tryz.ntmps103
      go_wp2_with (go_at_call 136; refine (has_any _ _ _ _ _ _ _ _ _ _ _ _ _).mono ?_; rintro e w' ⟨rfl, hb⟩; obtain ⟨d, os, rfl⟩ := more_of hb; clear hb)
      exact bodyPost_ret (v := .tuple #[.agg #[.int .i64 0, .int .i64 0, .int .i64 0, .int .i64 0, .int .i64 0, .int .i64 0, .int .i64 0, .int .i64 0, .int .i64 0, .int .i64 0, .int .i64 0], .bool false]) (by simp [results, Tryz.results103, go_sem]) rfl ⟨rfl, bg⟩
    · simp only [ageF, hb, Bool.true_eq_false, if_false, if_neg h2]
      have h2' : 1 < lf := by omega
      clear h2
      go_enter Tryz.func103, Tryz.ntmps103
      go_wp2_with (go_at_call 136; refine (has_any _ _ _ _ _ _ _ _ _ _ _ _ _).mono ?_; rintro e w' ⟨rfl, hb⟩; obtain ⟨d, os, rfl⟩ := more_of hb; clear hb)
      exact bodyPost_ret (v := .tuple #[.agg #[.int .i64 s, .int .i64 i, .int .i64 g, .int .i64 m, .int .i64 x, .int .i64 y, .int .i64 vx, .int .i64 vy, .int .i64 hp, .int .i64 pw, .int .i64 (lf - 1)], .bool true]) (by simp [results, Tryz.results103, go_sem]) rfl ⟨rfl, bg⟩


set_option maxHeartbeats 1000000 in
theorem rHurt_any (s i g m x y vx vy hp pw lf n : Int) (w : World) (hh : (-9223372036854775808 ≤ hp ∧ hp ≤ 9223372036854775807)) (HM : (-9223372036854775808 ≤ m ∧ m ≤ 9223372036854775807)) :
    Calls Tryz.prog 52 #[.agg #[.int .i64 s, .int .i64 i, .int .i64 g, .int .i64 m, .int .i64 x, .int .i64 y, .int .i64 vx, .int .i64 vy, .int .i64 hp, .int .i64 pw, .int .i64 lf], .int .i64 n] w fun e w' => e = .returned (.tuple #[.agg #[.int .i64 ((hurtF ⟨s, i, g, m, x, y, vx, vy, hp, pw, lf⟩ n).1).s, .int .i64 ((hurtF ⟨s, i, g, m, x, y, vx, vy, hp, pw, lf⟩ n).1).i, .int .i64 ((hurtF ⟨s, i, g, m, x, y, vx, vy, hp, pw, lf⟩ n).1).g, .int .i64 ((hurtF ⟨s, i, g, m, x, y, vx, vy, hp, pw, lf⟩ n).1).m, .int .i64 ((hurtF ⟨s, i, g, m, x, y, vx, vy, hp, pw, lf⟩ n).1).x, .int .i64 ((hurtF ⟨s, i, g, m, x, y, vx, vy, hp, pw, lf⟩ n).1).y, .int .i64 ((hurtF ⟨s, i, g, m, x, y, vx, vy, hp, pw, lf⟩ n).1).vx, .int .i64 ((hurtF ⟨s, i, g, m, x, y, vx, vy, hp, pw, lf⟩ n).1).vy, .int .i64 ((hurtF ⟨s, i, g, m, x, y, vx, vy, hp, pw, lf⟩ n).1).hp, .int .i64 ((hurtF ⟨s, i, g, m, x, y, vx, vy, hp, pw, lf⟩ n).1).pw, .int .i64 ((hurtF ⟨s, i, g, m, x, y, vx, vy, hp, pw, lf⟩ n).1).lf], .bool (hurtF ⟨s, i, g, m, x, y, vx, vy, hp, pw, lf⟩ n).2]) ∧ Below w.heap.size w w' := by
  obtain ⟨hh0, hh1⟩ := hh
  have HM := Lib.hid HM
  have HB4 := fun W => bit_any m 4 W HM.out.1 HM.out.2 (by omega)
  rw [← hasB_tb4] at HB4
  cases hb : hasB m 4 with
  | false =>
    simp only [hurtF, hb, true_or, if_true]
    have HB4 := Lib.hid HB4
    go_enter Tryz.func52, Tryz.ntmps52
    go_wp2_with (go_at_call 41; refine (HB4.out _).mono ?_; rintro e w' ⟨rfl, rfl⟩)
    exact bodyPost_ret (v := .tuple #[.agg #[.int .i64 s, .int .i64 i, .int .i64 g, .int .i64 m, .int .i64 x, .int .i64 y, .int .i64 vx, .int .i64 vy, .int .i64 hp, .int .i64 pw, .int .i64 lf], .bool true]) (by simp [results, Tryz.results52, go_sem]) rfl ⟨rfl, bg⟩
  | true =>
    by_cases h1 : n ≤ 0
    · simp only [hurtF, hb, h1, or_true, if_true]
      have HB4 := Lib.hid HB4
      go_enter Tryz.func52, Tryz.ntmps52
      go_wp2_with (go_at_call 41; refine (HB4.out _).mono ?_; rintro e w' ⟨rfl, rfl⟩)
      exact bodyPost_ret (v := .tuple #[.agg #[.int .i64 s, .int .i64 i, .int .i64 g, .int .i64 m, .int .i64 x, .int .i64 y, .int .i64 vx, .int .i64 vy, .int .i64 hp, .int .i64 pw, .int .i64 lf], .bool true]) (by simp [results, Tryz.results52, go_sem]) rfl ⟨rfl, bg⟩
    · by_cases h2 : hp ≤ n
      · simp only [hurtF, hb, h1, Bool.true_eq_false, or_self, if_false, if_pos h2, zeroB]
        have h1' : 0 < n := by omega
        have HB4 := Lib.hid HB4
        clear h1
        go_enter Tryz.func52, Tryz.ntmps52
        go_wp2_with (go_at_call 41; refine (HB4.out _).mono ?_; rintro e w' ⟨rfl, rfl⟩)
        exact bodyPost_ret (v := .tuple #[.agg #[.int .i64 0, .int .i64 0, .int .i64 0, .int .i64 0, .int .i64 0, .int .i64 0, .int .i64 0, .int .i64 0, .int .i64 0, .int .i64 0, .int .i64 0], .bool false]) (by simp [results, Tryz.results52, go_sem]) rfl ⟨rfl, bg⟩
      · simp only [hurtF, hb, h1, Bool.true_eq_false, or_self, if_false, if_neg h2]
        have h1' : 0 < n := by omega
        have h2' : n < hp := by omega
        have HB4 := Lib.hid HB4
        clear h1 h2
        go_enter Tryz.func52, Tryz.ntmps52
        go_wp2_with (go_at_call 41; refine (HB4.out _).mono ?_; rintro e w' ⟨rfl, rfl⟩)
        exact bodyPost_ret (v := .tuple #[.agg #[.int .i64 s, .int .i64 i, .int .i64 g, .int .i64 m, .int .i64 x, .int .i64 y, .int .i64 vx, .int .i64 vy, .int .i64 (hp - n), .int .i64 pw, .int .i64 lf], .bool true]) (by simp [results, Tryz.results52, go_sem]) rfl ⟨rfl, bg⟩

set_option maxHeartbeats 1000000 in
theorem rAge_any (s i g m x y vx vy hp pw lf : Int) (w : World) (hl : (-9223372036854775808 ≤ lf ∧ lf ≤ 9223372036854775807)) (HM : (-9223372036854775808 ≤ m ∧ m ≤ 9223372036854775807)) :
    Calls Tryz.prog 56 #[.agg #[.int .i64 s, .int .i64 i, .int .i64 g, .int .i64 m, .int .i64 x, .int .i64 y, .int .i64 vx, .int .i64 vy, .int .i64 hp, .int .i64 pw, .int .i64 lf]] w fun e w' => e = .returned (.tuple #[.agg #[.int .i64 ((ageF ⟨s, i, g, m, x, y, vx, vy, hp, pw, lf⟩).1).s, .int .i64 ((ageF ⟨s, i, g, m, x, y, vx, vy, hp, pw, lf⟩).1).i, .int .i64 ((ageF ⟨s, i, g, m, x, y, vx, vy, hp, pw, lf⟩).1).g, .int .i64 ((ageF ⟨s, i, g, m, x, y, vx, vy, hp, pw, lf⟩).1).m, .int .i64 ((ageF ⟨s, i, g, m, x, y, vx, vy, hp, pw, lf⟩).1).x, .int .i64 ((ageF ⟨s, i, g, m, x, y, vx, vy, hp, pw, lf⟩).1).y, .int .i64 ((ageF ⟨s, i, g, m, x, y, vx, vy, hp, pw, lf⟩).1).vx, .int .i64 ((ageF ⟨s, i, g, m, x, y, vx, vy, hp, pw, lf⟩).1).vy, .int .i64 ((ageF ⟨s, i, g, m, x, y, vx, vy, hp, pw, lf⟩).1).hp, .int .i64 ((ageF ⟨s, i, g, m, x, y, vx, vy, hp, pw, lf⟩).1).pw, .int .i64 ((ageF ⟨s, i, g, m, x, y, vx, vy, hp, pw, lf⟩).1).lf], .bool (ageF ⟨s, i, g, m, x, y, vx, vy, hp, pw, lf⟩).2]) ∧ Below w.heap.size w w' := by
  obtain ⟨hh0, hh1⟩ := hl
  have HM := Lib.hid HM
  have HB4 := fun W => bit_any m 16 W HM.out.1 HM.out.2 (by omega)
  rw [← hasB_tb16] at HB4
  cases hb : hasB m 16 with
  | false =>
    simp only [ageF, hb, if_true]
    have HB4 := Lib.hid HB4
    go_enter Tryz.func56, Tryz.ntmps56
    go_wp2_with (go_at_call 41; refine (HB4.out _).mono ?_; rintro e w' ⟨rfl, rfl⟩)
    exact bodyPost_ret (v := .tuple #[.agg #[.int .i64 s, .int .i64 i, .int .i64 g, .int .i64 m, .int .i64 x, .int .i64 y, .int .i64 vx, .int .i64 vy, .int .i64 hp, .int .i64 pw, .int .i64 lf], .bool true]) (by simp [results, Tryz.results56, go_sem]) rfl ⟨rfl, bg⟩
  | true =>
    by_cases h2 : lf ≤ 1
    · simp only [ageF, hb, Bool.true_eq_false, if_false, if_pos h2, zeroB]
      have h2' : lf < 2 := by omega
      have HB4 := Lib.hid HB4
      clear h2
      go_enter Tryz.func56, Tryz.ntmps56
      go_wp2_with (go_at_call 41; refine (HB4.out _).mono ?_; rintro e w' ⟨rfl, rfl⟩)
      exact bodyPost_ret (v := .tuple #[.agg #[.int .i64 0, .int .i64 0, .int .i64 0, .int .i64 0, .int .i64 0, .int .i64 0, .int .i64 0, .int .i64 0, .int .i64 0, .int .i64 0, .int .i64 0], .bool false]) (by simp [results, Tryz.results56, go_sem]) rfl ⟨rfl, bg⟩
    · simp only [ageF, hb, Bool.true_eq_false, if_false, if_neg h2]
      have h2' : 2 ≤ lf := by omega
      have HB4 := Lib.hid HB4
      clear h2
      go_enter Tryz.func56, Tryz.ntmps56
      go_wp2_with (go_at_call 41; refine (HB4.out _).mono ?_; rintro e w' ⟨rfl, rfl⟩)
      exact bodyPost_ret (v := .tuple #[.agg #[.int .i64 s, .int .i64 i, .int .i64 g, .int .i64 m, .int .i64 x, .int .i64 y, .int .i64 vx, .int .i64 vy, .int .i64 hp, .int .i64 pw, .int .i64 (lf - 1)], .bool true]) (by simp [results, Tryz.results56, go_sem]) rfl ⟨rfl, bg⟩
end Go.Proofs.YtoimjjhopljdmaaGreat
namespace Go.Proofs.YtoimjjhopljdmaaGreat
open Go.RowKit

set_option maxHeartbeats 8000000 in
theorem with_any (s i g m x y vx vy hp pw lf s' i' g' m' x' y' vx' vy' hp' pw' lf' : Int) (w : World) :
    Calls Tryz.prog 156 #[.agg #[.int .i64 s, .int .i64 i, .int .i64 g, .int .i64 m, .int .i64 x, .int .i64 y, .int .i64 vx, .int .i64 vy, .int .i64 hp, .int .i64 pw, .int .i64 lf], .agg #[.int .i64 s', .int .i64 i', .int .i64 g', .int .i64 m', .int .i64 x', .int .i64 y', .int .i64 vx', .int .i64 vy', .int .i64 hp', .int .i64 pw', .int .i64 lf']] w fun e w' => e = .returned (withF ⟨s, i, g, m, x, y, vx, vy, hp, pw, lf⟩ ⟨s', i', g', m', x', y', vx', vy', hp', pw', lf'⟩).v ∧ Below w.heap.size w w' := by
  generalize hr : withF _ _ = r
  unfold withF hasB at hr
  dsimp only at hr
  have HR := Lib.hid hr
  clear hr
  go_enter Tryz.func156, Tryz.ntmps156
  go_upto_if 12 with (go_in)
  go_cut [] (fun wx => ∃ (n : Nat) (Xx Xy : Int), Hid (Xx = (if (bits BinOp.and IntKind.i64 m' 1 == 1) = true then x' else x) ∧ Xy = (if (bits BinOp.and IntKind.i64 m' 1 == 1) = true then y' else y)) ∧ wx = World.drewN ((((w.alloc (.cells #[.int .i64 s, .int .i64 i, .int .i64 g, .int .i64 (bits BinOp.or IntKind.i64 m m'), .int .i64 Xx, .int .i64 Xy, .int .i64 vx, .int .i64 vy, .int .i64 hp, .int .i64 pw, .int .i64 lf] 32)).alloc (.cells #[.int .i64 s', .int .i64 i', .int .i64 g', .int .i64 m', .int .i64 x', .int .i64 y', .int .i64 vx', .int .i64 vy', .int .i64 hp', .int .i64 pw', .int .i64 lf'] 32)).alloc (.cells #[.int .i64 0, .int .i64 0, .int .i64 0, .int .i64 0, .int .i64 0, .int .i64 0, .int .i64 0, .int .i64 0, .int .i64 0, .int .i64 0, .int .i64 0] 32)).alloc (.cells #[.int .i64 s', .int .i64 i', .int .i64 g', .int .i64 m', .int .i64 x', .int .i64 y', .int .i64 vx', .int .i64 vy', .int .i64 hp', .int .i64 pw', .int .i64 lf'] 32)) n)
  case first =>
    go_wp2_with (go_in)
    · go_region
      all_goals (go_wp2_with fail; go_meet; exact ⟨1, x', y', Lib.hid (by simp [*]), rfl⟩)
    · go_meet
      exact ⟨0, x, y, Lib.hid (by simp [*]), rfl⟩
  obtain ⟨n1, Xx, Xy, HX1, rfl⟩ := hcut
  go_upto_if 20 with (go_in)
  go_cut [] (fun wx => ∃ (n : Nat) (Xvx Xvy : Int), Hid (Xvx = (if (bits BinOp.and IntKind.i64 m' 2 == 2) = true then vx' else vx) ∧ Xvy = (if (bits BinOp.and IntKind.i64 m' 2 == 2) = true then vy' else vy)) ∧ wx = World.drewN (((((w.alloc (.cells #[.int .i64 s, .int .i64 i, .int .i64 g, .int .i64 (bits BinOp.or IntKind.i64 m m'), .int .i64 Xx, .int .i64 Xy, .int .i64 Xvx, .int .i64 Xvy, .int .i64 hp, .int .i64 pw, .int .i64 lf] 32)).alloc (.cells #[.int .i64 s', .int .i64 i', .int .i64 g', .int .i64 m', .int .i64 x', .int .i64 y', .int .i64 vx', .int .i64 vy', .int .i64 hp', .int .i64 pw', .int .i64 lf'] 32)).alloc (.cells #[.int .i64 0, .int .i64 0, .int .i64 0, .int .i64 0, .int .i64 0, .int .i64 0, .int .i64 0, .int .i64 0, .int .i64 0, .int .i64 0, .int .i64 0] 32)).alloc (.cells #[.int .i64 s', .int .i64 i', .int .i64 g', .int .i64 m', .int .i64 x', .int .i64 y', .int .i64 vx', .int .i64 vy', .int .i64 hp', .int .i64 pw', .int .i64 lf'] 32)).alloc (.cells #[.int .i64 s', .int .i64 i', .int .i64 g', .int .i64 m', .int .i64 x', .int .i64 y', .int .i64 vx', .int .i64 vy', .int .i64 hp', .int .i64 pw', .int .i64 lf'] 32)) n)
  case first =>
    go_wp2_with (go_in)
    · go_region
      all_goals (go_wp2_with fail; go_meet; exact ⟨n1 + 1, vx', vy', Lib.hid (by simp [*]), rfl⟩)
    · go_meet
      exact ⟨n1, vx, vy, Lib.hid (by simp [*]), rfl⟩
  obtain ⟨n2, Xvx, Xvy, HX2, rfl⟩ := hcut
  go_upto_if 28 with (go_in)
  go_cut [] (fun wx => ∃ (n : Nat) (Xhp : Int), Hid (Xhp = (if (bits BinOp.and IntKind.i64 m' 4 == 4) = true then hp' else hp)) ∧ wx = World.drewN ((((((w.alloc (.cells #[.int .i64 s, .int .i64 i, .int .i64 g, .int .i64 (bits BinOp.or IntKind.i64 m m'), .int .i64 Xx, .int .i64 Xy, .int .i64 Xvx, .int .i64 Xvy, .int .i64 Xhp, .int .i64 pw, .int .i64 lf] 32)).alloc (.cells #[.int .i64 s', .int .i64 i', .int .i64 g', .int .i64 m', .int .i64 x', .int .i64 y', .int .i64 vx', .int .i64 vy', .int .i64 hp', .int .i64 pw', .int .i64 lf'] 32)).alloc (.cells #[.int .i64 0, .int .i64 0, .int .i64 0, .int .i64 0, .int .i64 0, .int .i64 0, .int .i64 0, .int .i64 0, .int .i64 0, .int .i64 0, .int .i64 0] 32)).alloc (.cells #[.int .i64 s', .int .i64 i', .int .i64 g', .int .i64 m', .int .i64 x', .int .i64 y', .int .i64 vx', .int .i64 vy', .int .i64 hp', .int .i64 pw', .int .i64 lf'] 32)).alloc (.cells #[.int .i64 s', .int .i64 i', .int .i64 g', .int .i64 m', .int .i64 x', .int .i64 y', .int .i64 vx', .int .i64 vy', .int .i64 hp', .int .i64 pw', .int .i64 lf'] 32)).alloc (.cells #[.int .i64 s', .int .i64 i', .int .i64 g', .int .i64 m', .int .i64 x', .int .i64 y', .int .i64 vx', .int .i64 vy', .int .i64 hp', .int .i64 pw', .int .i64 lf'] 32)) n)
  case first =>
    go_wp2_with (go_in)
    · go_meet
      exact ⟨n2, hp', Lib.hid (by simp [*]), rfl⟩
    · go_meet
      exact ⟨n2, hp, Lib.hid (by simp [*]), rfl⟩
  obtain ⟨n3, Xhp, HX3, rfl⟩ := hcut
  go_upto_if 33 with (go_in)
  go_cut [] (fun wx => ∃ (n : Nat) (Xpw : Int), Hid (Xpw = (if (bits BinOp.and IntKind.i64 m' 8 == 8) = true then pw' else pw)) ∧ wx = World.drewN (((((((w.alloc (.cells #[.int .i64 s, .int .i64 i, .int .i64 g, .int .i64 (bits BinOp.or IntKind.i64 m m'), .int .i64 Xx, .int .i64 Xy, .int .i64 Xvx, .int .i64 Xvy, .int .i64 Xhp, .int .i64 Xpw, .int .i64 lf] 32)).alloc (.cells #[.int .i64 s', .int .i64 i', .int .i64 g', .int .i64 m', .int .i64 x', .int .i64 y', .int .i64 vx', .int .i64 vy', .int .i64 hp', .int .i64 pw', .int .i64 lf'] 32)).alloc (.cells #[.int .i64 0, .int .i64 0, .int .i64 0, .int .i64 0, .int .i64 0, .int .i64 0, .int .i64 0, .int .i64 0, .int .i64 0, .int .i64 0, .int .i64 0] 32)).alloc (.cells #[.int .i64 s', .int .i64 i', .int .i64 g', .int .i64 m', .int .i64 x', .int .i64 y', .int .i64 vx', .int .i64 vy', .int .i64 hp', .int .i64 pw', .int .i64 lf'] 32)).alloc (.cells #[.int .i64 s', .int .i64 i', .int .i64 g', .int .i64 m', .int .i64 x', .int .i64 y', .int .i64 vx', .int .i64 vy', .int .i64 hp', .int .i64 pw', .int .i64 lf'] 32)).alloc (.cells #[.int .i64 s', .int .i64 i', .int .i64 g', .int .i64 m', .int .i64 x', .int .i64 y', .int .i64 vx', .int .i64 vy', .int .i64 hp', .int .i64 pw', .int .i64 lf'] 32)).alloc (.cells #[.int .i64 s', .int .i64 i', .int .i64 g', .int .i64 m', .int .i64 x', .int .i64 y', .int .i64 vx', .int .i64 vy', .int .i64 hp', .int .i64 pw', .int .i64 lf'] 32)) n)
  case first =>
    go_wp2_with (go_in)
    · go_meet
      exact ⟨n3, pw', Lib.hid (by simp [*]), rfl⟩
    · go_meet
      exact ⟨n3, pw, Lib.hid (by simp [*]), rfl⟩
  obtain ⟨n4, Xpw, HX4, rfl⟩ := hcut
  go_upto_if 38 with (go_in)
  go_cut [] (fun wx => ∃ (n : Nat) (Xlf : Int), Hid (Xlf = (if (bits BinOp.and IntKind.i64 m' 16 == 16) = true then lf' else lf)) ∧ wx = World.drewN ((((((((w.alloc (.cells #[.int .i64 s, .int .i64 i, .int .i64 g, .int .i64 (bits BinOp.or IntKind.i64 m m'), .int .i64 Xx, .int .i64 Xy, .int .i64 Xvx, .int .i64 Xvy, .int .i64 Xhp, .int .i64 Xpw, .int .i64 Xlf] 32)).alloc (.cells #[.int .i64 s', .int .i64 i', .int .i64 g', .int .i64 m', .int .i64 x', .int .i64 y', .int .i64 vx', .int .i64 vy', .int .i64 hp', .int .i64 pw', .int .i64 lf'] 32)).alloc (.cells #[.int .i64 0, .int .i64 0, .int .i64 0, .int .i64 0, .int .i64 0, .int .i64 0, .int .i64 0, .int .i64 0, .int .i64 0, .int .i64 0, .int .i64 0] 32)).alloc (.cells #[.int .i64 s', .int .i64 i', .int .i64 g', .int .i64 m', .int .i64 x', .int .i64 y', .int .i64 vx', .int .i64 vy', .int .i64 hp', .int .i64 pw', .int .i64 lf'] 32)).alloc (.cells #[.int .i64 s', .int .i64 i', .int .i64 g', .int .i64 m', .int .i64 x', .int .i64 y', .int .i64 vx', .int .i64 vy', .int .i64 hp', .int .i64 pw', .int .i64 lf'] 32)).alloc (.cells #[.int .i64 s', .int .i64 i', .int .i64 g', .int .i64 m', .int .i64 x', .int .i64 y', .int .i64 vx', .int .i64 vy', .int .i64 hp', .int .i64 pw', .int .i64 lf'] 32)).alloc (.cells #[.int .i64 s', .int .i64 i', .int .i64 g', .int .i64 m', .int .i64 x', .int .i64 y', .int .i64 vx', .int .i64 vy', .int .i64 hp', .int .i64 pw', .int .i64 lf'] 32)).alloc (.cells #[.int .i64 s', .int .i64 i', .int .i64 g', .int .i64 m', .int .i64 x', .int .i64 y', .int .i64 vx', .int .i64 vy', .int .i64 hp', .int .i64 pw', .int .i64 lf'] 32)) n)
  case first =>
    go_wp2_with (go_in)
    · go_meet
      exact ⟨n4, lf', Lib.hid (by simp [*]), rfl⟩
    · go_meet
      exact ⟨n4, lf, Lib.hid (by simp [*]), rfl⟩
  obtain ⟨n5, Xlf, HX5, rfl⟩ := hcut
  go_wp2
  go_returns
  refine ⟨?_, bg⟩
  go_tidy
  obtain ⟨e1, e2⟩ := HX1.out
  obtain ⟨e3, e4⟩ := HX2.out
  have e5 := HX3.out
  have e6 := HX4.out
  have e7 := HX5.out
  rw [← HR.out, ← e1, ← e2, ← e3, ← e4, ← e5, ← e6, ← e7]


theorem with_call (s i g m x y vx vy hp pw lf s' i' g' m' x' y' vx' vy' hp' pw' lf' : Int) (w : World) :
    Calls Tryz.prog 156 #[.agg #[.int .i64 s, .int .i64 i, .int .i64 g, .int .i64 m, .int .i64 x, .int .i64 y, .int .i64 vx, .int .i64 vy, .int .i64 hp, .int .i64 pw, .int .i64 lf], .agg #[.int .i64 s', .int .i64 i', .int .i64 g', .int .i64 m', .int .i64 x', .int .i64 y', .int .i64 vx', .int .i64 vy', .int .i64 hp', .int .i64 pw', .int .i64 lf']] w fun e w' => e = .returned (.agg #[.int .i64 (withF ⟨s, i, g, m, x, y, vx, vy, hp, pw, lf⟩ ⟨s', i', g', m', x', y', vx', vy', hp', pw', lf'⟩).s, .int .i64 (withF ⟨s, i, g, m, x, y, vx, vy, hp, pw, lf⟩ ⟨s', i', g', m', x', y', vx', vy', hp', pw', lf'⟩).i, .int .i64 (withF ⟨s, i, g, m, x, y, vx, vy, hp, pw, lf⟩ ⟨s', i', g', m', x', y', vx', vy', hp', pw', lf'⟩).g, .int .i64 (withF ⟨s, i, g, m, x, y, vx, vy, hp, pw, lf⟩ ⟨s', i', g', m', x', y', vx', vy', hp', pw', lf'⟩).m, .int .i64 (withF ⟨s, i, g, m, x, y, vx, vy, hp, pw, lf⟩ ⟨s', i', g', m', x', y', vx', vy', hp', pw', lf'⟩).x, .int .i64 (withF ⟨s, i, g, m, x, y, vx, vy, hp, pw, lf⟩ ⟨s', i', g', m', x', y', vx', vy', hp', pw', lf'⟩).y, .int .i64 (withF ⟨s, i, g, m, x, y, vx, vy, hp, pw, lf⟩ ⟨s', i', g', m', x', y', vx', vy', hp', pw', lf'⟩).vx, .int .i64 (withF ⟨s, i, g, m, x, y, vx, vy, hp, pw, lf⟩ ⟨s', i', g', m', x', y', vx', vy', hp', pw', lf'⟩).vy, .int .i64 (withF ⟨s, i, g, m, x, y, vx, vy, hp, pw, lf⟩ ⟨s', i', g', m', x', y', vx', vy', hp', pw', lf'⟩).hp, .int .i64 (withF ⟨s, i, g, m, x, y, vx, vy, hp, pw, lf⟩ ⟨s', i', g', m', x', y', vx', vy', hp', pw', lf'⟩).pw, .int .i64 (withF ⟨s, i, g, m, x, y, vx, vy, hp, pw, lf⟩ ⟨s', i', g', m', x', y', vx', vy', hp', pw', lf'⟩).lf]) ∧ Below w.heap.size w w' :=
  with_any s i g m x y vx vy hp pw lf s' i' g' m' x' y' vx' vy' hp' pw' lf' w

end Go.Proofs.YtoimjjhopljdmaaGreat
