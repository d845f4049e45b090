/-
  Walks: parts.Without, and the reference's With and Without. Each computes its plain twin; new memory alone is written. Condition of the reference's: masks are ints (64 bits).
-/
import Derived.Test.YtloampfkjldmnaaPaR
import Derived.Test.YtloampfkjldmnaaPaC
namespace Go.Proofs.Ytloampfkjldmnaa
open Go.RowKit

set_option maxHeartbeats 2000000 in
theorem without_any (s i g m x y vx vy hp pw lf k : Int) (w : World) :
    Calls Try.prog 53 #[.agg #[.int .i64 s, .int .i64 i, .int .i64 g, .int .i64 m, .int .i64 x, .int .i64 y, .int .i64 vx, .int .i64 vy, .int .i64 hp, .int .i64 pw, .int .i64 lf], .int .i64 k] w fun e w' => e = .returned (withoutF ⟨s, i, g, m, x, y, vx, vy, hp, pw, lf⟩ k).v ∧ Below w.heap.size w w' := by
  generalize hr : withoutF _ _ = r
  have HR := Lib.hid hr
  clear hr
  go_enter Try.func53, Try.ntmps53
  go_wp2_with (go_at_call 52; refine (with_call _ _ _ _ _ _ _ _ _ _ _ _ _ _ _ _ _ _ _ _ _ _ _).mono ?_; rintro e w1 ⟨rfl, hb⟩; obtain ⟨d, os, rfl⟩ := more_of hb; clear hb)
  go_returns
  refine ⟨?_, (by repeat' (first | (with_reducible exact Below.refl _ _) | (with_reducible assumption) | (with_reducible refine below_drewN ?_ _) | (with_reducible refine below_more _ _ _ ?_ ?_) | (with_reducible refine Below.alloc ?_ ?_ _) | (with_reducible refine Below.drew ?_) | (with_reducible refine Below.setCell ?_ ?_ _) | go_size))⟩
  rw [← HR.out]
  rfl

set_option maxHeartbeats 8000000 in
theorem rWith_any (s i g m x y vx vy hp pw lf s' i' g' m' x' y' vx' vy' hp' pw' lf' : Int) (w : World) (hm0 : -9223372036854775808 ≤ m') (hm1 : m' ≤ 9223372036854775807) :
    Calls Try.prog 54 #[.agg #[.int .i64 s, .int .i64 i, .int .i64 g, .int .i64 m, .int .i64 x, .int .i64 y, .int .i64 vx, .int .i64 vy, .int .i64 hp, .int .i64 pw, .int .i64 lf], .agg #[.int .i64 s', .int .i64 i', .int .i64 g', .int .i64 m', .int .i64 x', .int .i64 y', .int .i64 vx', .int .i64 vy', .int .i64 hp', .int .i64 pw', .int .i64 lf']] w fun e w' => e = .returned (rWithF ⟨s, i, g, m, x, y, vx, vy, hp, pw, lf⟩ ⟨s', i', g', m', x', y', vx', vy', hp', pw', lf'⟩).v ∧ Below w.heap.size w w' := by
  generalize hr : rWithF _ _ = r
  unfold rWithF at hr
  dsimp only at hr
  have HR := Lib.hid hr
  clear hr
  go_enter Try.func54, Try.ntmps54
  go_upto_if 7 with (go_at_call 42; refine (bit_any _ _ _ (by omega) (by omega) (by omega)).mono ?_; rintro e w' ⟨rfl, rfl⟩)
  go_cut [] (fun wx => ∃ (Xx Xy : Int), Hid (Xx = (if tb m' 1 = true then x' else x) ∧ Xy = (if tb m' 1 = true then y' else y)) ∧ wx = ((w.alloc (.cells #[.int .i64 s, .int .i64 i, .int .i64 g, .int .i64 m, .int .i64 Xx, .int .i64 Xy, .int .i64 vx, .int .i64 vy, .int .i64 hp, .int .i64 pw, .int .i64 lf] 34)).alloc (.cells #[.int .i64 s', .int .i64 i', .int .i64 g', .int .i64 m', .int .i64 x', .int .i64 y', .int .i64 vx', .int .i64 vy', .int .i64 hp', .int .i64 pw', .int .i64 lf'] 34)).alloc (.cells #[.int .i64 0, .int .i64 0, .int .i64 0, .int .i64 0, .int .i64 0, .int .i64 0, .int .i64 0, .int .i64 0, .int .i64 0, .int .i64 0, .int .i64 0] 34))
  case first =>
    go_wp2_with fail
    · go_meet
      exact ⟨x', y', Lib.hid (by simp [*]), rfl⟩
    · go_meet
      exact ⟨x, y, Lib.hid (by simp [*]), rfl⟩
  obtain ⟨Xx, Xy, HX1, rfl⟩ := hcut
  go_upto_if 16 with (go_at_call 42; refine (bit_any _ _ _ (by omega) (by omega) (by omega)).mono ?_; rintro e w' ⟨rfl, rfl⟩)
  go_cut [] (fun wx => ∃ (Xvx Xvy : Int), Hid (Xvx = (if tb m' 2 = true then vx' else vx) ∧ Xvy = (if tb m' 2 = true then vy' else vy)) ∧ wx = ((w.alloc (.cells #[.int .i64 s, .int .i64 i, .int .i64 g, .int .i64 m, .int .i64 Xx, .int .i64 Xy, .int .i64 Xvx, .int .i64 Xvy, .int .i64 hp, .int .i64 pw, .int .i64 lf] 34)).alloc (.cells #[.int .i64 s', .int .i64 i', .int .i64 g', .int .i64 m', .int .i64 x', .int .i64 y', .int .i64 vx', .int .i64 vy', .int .i64 hp', .int .i64 pw', .int .i64 lf'] 34)).alloc (.cells #[.int .i64 0, .int .i64 0, .int .i64 0, .int .i64 0, .int .i64 0, .int .i64 0, .int .i64 0, .int .i64 0, .int .i64 0, .int .i64 0, .int .i64 0] 34))
  case first =>
    go_wp2_with fail
    · go_meet
      exact ⟨vx', vy', Lib.hid (by simp [*]), rfl⟩
    · go_meet
      exact ⟨vx, vy, Lib.hid (by simp [*]), rfl⟩
  obtain ⟨Xvx, Xvy, HX2, rfl⟩ := hcut
  go_upto_if 25 with (go_at_call 42; refine (bit_any _ _ _ (by omega) (by omega) (by omega)).mono ?_; rintro e w' ⟨rfl, rfl⟩)
  go_cut [] (fun wx => ∃ (Xhp : Int), Hid (Xhp = (if tb m' 4 = true then hp' else hp)) ∧ wx = ((w.alloc (.cells #[.int .i64 s, .int .i64 i, .int .i64 g, .int .i64 m, .int .i64 Xx, .int .i64 Xy, .int .i64 Xvx, .int .i64 Xvy, .int .i64 Xhp, .int .i64 pw, .int .i64 lf] 34)).alloc (.cells #[.int .i64 s', .int .i64 i', .int .i64 g', .int .i64 m', .int .i64 x', .int .i64 y', .int .i64 vx', .int .i64 vy', .int .i64 hp', .int .i64 pw', .int .i64 lf'] 34)).alloc (.cells #[.int .i64 0, .int .i64 0, .int .i64 0, .int .i64 0, .int .i64 0, .int .i64 0, .int .i64 0, .int .i64 0, .int .i64 0, .int .i64 0, .int .i64 0] 34))
  case first =>
    go_wp2_with fail
    · go_meet
      exact ⟨hp', Lib.hid (by simp [*]), rfl⟩
    · go_meet
      exact ⟨hp, Lib.hid (by simp [*]), rfl⟩
  obtain ⟨Xhp, HX3, rfl⟩ := hcut
  go_upto_if 31 with (go_at_call 42; refine (bit_any _ _ _ (by omega) (by omega) (by omega)).mono ?_; rintro e w' ⟨rfl, rfl⟩)
  go_cut [] (fun wx => ∃ (Xpw : Int), Hid (Xpw = (if tb m' 8 = true then pw' else pw)) ∧ wx = ((w.alloc (.cells #[.int .i64 s, .int .i64 i, .int .i64 g, .int .i64 m, .int .i64 Xx, .int .i64 Xy, .int .i64 Xvx, .int .i64 Xvy, .int .i64 Xhp, .int .i64 Xpw, .int .i64 lf] 34)).alloc (.cells #[.int .i64 s', .int .i64 i', .int .i64 g', .int .i64 m', .int .i64 x', .int .i64 y', .int .i64 vx', .int .i64 vy', .int .i64 hp', .int .i64 pw', .int .i64 lf'] 34)).alloc (.cells #[.int .i64 0, .int .i64 0, .int .i64 0, .int .i64 0, .int .i64 0, .int .i64 0, .int .i64 0, .int .i64 0, .int .i64 0, .int .i64 0, .int .i64 0] 34))
  case first =>
    go_wp2_with fail
    · go_meet
      exact ⟨pw', Lib.hid (by simp [*]), rfl⟩
    · go_meet
      exact ⟨pw, Lib.hid (by simp [*]), rfl⟩
  obtain ⟨Xpw, HX4, rfl⟩ := hcut
  go_upto_if 37 with (go_at_call 42; refine (bit_any _ _ _ (by omega) (by omega) (by omega)).mono ?_; rintro e w' ⟨rfl, rfl⟩)
  go_cut [] (fun wx => ∃ (Xlf : Int), Hid (Xlf = (if tb m' 16 = true then lf' else lf)) ∧ wx = ((w.alloc (.cells #[.int .i64 s, .int .i64 i, .int .i64 g, .int .i64 m, .int .i64 Xx, .int .i64 Xy, .int .i64 Xvx, .int .i64 Xvy, .int .i64 Xhp, .int .i64 Xpw, .int .i64 Xlf] 34)).alloc (.cells #[.int .i64 s', .int .i64 i', .int .i64 g', .int .i64 m', .int .i64 x', .int .i64 y', .int .i64 vx', .int .i64 vy', .int .i64 hp', .int .i64 pw', .int .i64 lf'] 34)).alloc (.cells #[.int .i64 0, .int .i64 0, .int .i64 0, .int .i64 0, .int .i64 0, .int .i64 0, .int .i64 0, .int .i64 0, .int .i64 0, .int .i64 0, .int .i64 0] 34))
  case first =>
    go_wp2_with fail
    · go_meet
      exact ⟨lf', Lib.hid (by simp [*]), rfl⟩
    · go_meet
      exact ⟨lf, Lib.hid (by simp [*]), rfl⟩
  obtain ⟨Xlf, HX5, rfl⟩ := hcut
  go_wp2
  go_returns
  refine ⟨?_, (by repeat' (first | (with_reducible exact Below.refl _ _) | (with_reducible assumption) | (with_reducible refine below_drewN ?_ _) | (with_reducible refine below_more _ _ _ ?_ ?_) | (with_reducible refine Below.alloc ?_ ?_ _) | (with_reducible refine Below.drew ?_) | (with_reducible refine Below.setCell ?_ ?_ _) | go_size))⟩
  go_tidy
  obtain ⟨e1, e2⟩ := HX1.out
  obtain ⟨e3, e4⟩ := HX2.out
  have e5 := HX3.out
  have e6 := HX4.out
  have e7 := HX5.out
  rw [← HR.out, ← e1, ← e2, ← e3, ← e4, ← e5, ← e6, ← e7]

set_option maxHeartbeats 8000000 in
theorem rWithout_any (s i g m x y vx vy hp pw lf k : Int) (w : World) (hm0 : -9223372036854775808 ≤ k) (hm1 : k ≤ 9223372036854775807) :
    Calls Try.prog 55 #[.agg #[.int .i64 s, .int .i64 i, .int .i64 g, .int .i64 m, .int .i64 x, .int .i64 y, .int .i64 vx, .int .i64 vy, .int .i64 hp, .int .i64 pw, .int .i64 lf], .int .i64 k] w fun e w' => e = .returned (rWithoutF ⟨s, i, g, m, x, y, vx, vy, hp, pw, lf⟩ k).v ∧ Below w.heap.size w w' := by
  generalize hr : rWithoutF _ _ = r
  unfold rWithoutF at hr
  dsimp only at hr
  have HR := Lib.hid hr
  clear hr
  go_enter Try.func55, Try.ntmps55
  go_upto_if 6 with (go_at_call 42; refine (bit_any _ _ _ (by omega) (by omega) (by omega)).mono ?_; rintro e w' ⟨rfl, rfl⟩)
  go_cut [] (fun wx => ∃ (Xx Xy : Int), Hid (Xx = (if tb k 1 = true then 0 else x) ∧ Xy = (if tb k 1 = true then 0 else y)) ∧ wx = (w.alloc (.cells #[.int .i64 s, .int .i64 i, .int .i64 g, .int .i64 m, .int .i64 Xx, .int .i64 Xy, .int .i64 vx, .int .i64 vy, .int .i64 hp, .int .i64 pw, .int .i64 lf] 34)).alloc (.cells #[.int .i64 0, .int .i64 0, .int .i64 0, .int .i64 0, .int .i64 0, .int .i64 0, .int .i64 0, .int .i64 0, .int .i64 0, .int .i64 0, .int .i64 0] 34))
  case first =>
    go_wp2_with fail
    · go_meet
      exact ⟨0, 0, Lib.hid (by simp [*]), rfl⟩
    · go_meet
      exact ⟨x, y, Lib.hid (by simp [*]), rfl⟩
  obtain ⟨Xx, Xy, HX1, rfl⟩ := hcut
  go_upto_if 10 with (go_at_call 42; refine (bit_any _ _ _ (by omega) (by omega) (by omega)).mono ?_; rintro e w' ⟨rfl, rfl⟩)
  go_cut [] (fun wx => ∃ (Xvx Xvy : Int), Hid (Xvx = (if tb k 2 = true then 0 else vx) ∧ Xvy = (if tb k 2 = true then 0 else vy)) ∧ wx = (w.alloc (.cells #[.int .i64 s, .int .i64 i, .int .i64 g, .int .i64 m, .int .i64 Xx, .int .i64 Xy, .int .i64 Xvx, .int .i64 Xvy, .int .i64 hp, .int .i64 pw, .int .i64 lf] 34)).alloc (.cells #[.int .i64 0, .int .i64 0, .int .i64 0, .int .i64 0, .int .i64 0, .int .i64 0, .int .i64 0, .int .i64 0, .int .i64 0, .int .i64 0, .int .i64 0] 34))
  case first =>
    go_wp2_with fail
    · go_meet
      exact ⟨0, 0, Lib.hid (by simp [*]), rfl⟩
    · go_meet
      exact ⟨vx, vy, Lib.hid (by simp [*]), rfl⟩
  obtain ⟨Xvx, Xvy, HX2, rfl⟩ := hcut
  go_upto_if 14 with (go_at_call 42; refine (bit_any _ _ _ (by omega) (by omega) (by omega)).mono ?_; rintro e w' ⟨rfl, rfl⟩)
  go_cut [] (fun wx => ∃ (Xhp : Int), Hid (Xhp = (if tb k 4 = true then 0 else hp)) ∧ wx = (w.alloc (.cells #[.int .i64 s, .int .i64 i, .int .i64 g, .int .i64 m, .int .i64 Xx, .int .i64 Xy, .int .i64 Xvx, .int .i64 Xvy, .int .i64 Xhp, .int .i64 pw, .int .i64 lf] 34)).alloc (.cells #[.int .i64 0, .int .i64 0, .int .i64 0, .int .i64 0, .int .i64 0, .int .i64 0, .int .i64 0, .int .i64 0, .int .i64 0, .int .i64 0, .int .i64 0] 34))
  case first =>
    go_wp2_with fail
    · go_meet
      exact ⟨0, Lib.hid (by simp [*]), rfl⟩
    · go_meet
      exact ⟨hp, Lib.hid (by simp [*]), rfl⟩
  obtain ⟨Xhp, HX3, rfl⟩ := hcut
  go_upto_if 17 with (go_at_call 42; refine (bit_any _ _ _ (by omega) (by omega) (by omega)).mono ?_; rintro e w' ⟨rfl, rfl⟩)
  go_cut [] (fun wx => ∃ (Xpw : Int), Hid (Xpw = (if tb k 8 = true then 0 else pw)) ∧ wx = (w.alloc (.cells #[.int .i64 s, .int .i64 i, .int .i64 g, .int .i64 m, .int .i64 Xx, .int .i64 Xy, .int .i64 Xvx, .int .i64 Xvy, .int .i64 Xhp, .int .i64 Xpw, .int .i64 lf] 34)).alloc (.cells #[.int .i64 0, .int .i64 0, .int .i64 0, .int .i64 0, .int .i64 0, .int .i64 0, .int .i64 0, .int .i64 0, .int .i64 0, .int .i64 0, .int .i64 0] 34))
  case first =>
    go_wp2_with fail
    · go_meet
      exact ⟨0, Lib.hid (by simp [*]), rfl⟩
    · go_meet
      exact ⟨pw, Lib.hid (by simp [*]), rfl⟩
  obtain ⟨Xpw, HX4, rfl⟩ := hcut
  go_upto_if 20 with (go_at_call 42; refine (bit_any _ _ _ (by omega) (by omega) (by omega)).mono ?_; rintro e w' ⟨rfl, rfl⟩)
  go_cut [] (fun wx => ∃ (Xlf : Int), Hid (Xlf = (if tb k 16 = true then 0 else lf)) ∧ wx = (w.alloc (.cells #[.int .i64 s, .int .i64 i, .int .i64 g, .int .i64 m, .int .i64 Xx, .int .i64 Xy, .int .i64 Xvx, .int .i64 Xvy, .int .i64 Xhp, .int .i64 Xpw, .int .i64 Xlf] 34)).alloc (.cells #[.int .i64 0, .int .i64 0, .int .i64 0, .int .i64 0, .int .i64 0, .int .i64 0, .int .i64 0, .int .i64 0, .int .i64 0, .int .i64 0, .int .i64 0] 34))
  case first =>
    go_wp2_with fail
    · go_meet
      exact ⟨0, Lib.hid (by simp [*]), rfl⟩
    · go_meet
      exact ⟨lf, Lib.hid (by simp [*]), rfl⟩
  obtain ⟨Xlf, HX5, rfl⟩ := hcut
  go_wp2
  go_returns
  refine ⟨?_, (by repeat' (first | (with_reducible exact Below.refl _ _) | (with_reducible assumption) | (with_reducible refine below_drewN ?_ _) | (with_reducible refine below_more _ _ _ ?_ ?_) | (with_reducible refine Below.alloc ?_ ?_ _) | (with_reducible refine Below.drew ?_) | (with_reducible refine Below.setCell ?_ ?_ _) | go_size))⟩
  go_tidy
  obtain ⟨e1, e2⟩ := HX1.out
  obtain ⟨e3, e4⟩ := HX2.out
  have e5 := HX3.out
  have e6 := HX4.out
  have e7 := HX5.out
  rw [← HR.out, ← e1, ← e2, ← e3, ← e4, ← e5, ← e6, ← e7]

end Go.Proofs.Ytloampfkjldmnaa
