/-
  Chapter texts PaU SyO: what the claim reaches of them. Conditions stand at each theorem.
-/
import Derived.Test.YtoimjjhopljdmaaGreatY08
import Derived.Test.YtoimjjhopljdmaaGreatY16
import Derived.Test.YtoimjjhopljdmaaGreatY09
namespace Go.Proofs.YtoimjjhopljdmaaGreat
open Go.RowKit

set_option maxHeartbeats 2000000 in
theorem without_any (s i g m x y vx vy hp pw lf k : Int) (w : World) :
    Calls Tryz.prog 157 #[.agg #[.int .i64 s, .int .i64 i, .int .i64 g, .int .i64 m, .int .i64 x, .int .i64 y, .int .i64 vx, .int .i64 vy, .int .i64 hp, .int .i64 pw, .int .i64 lf], .int .i64 k] w fun e w' => e = .returned (withoutF ⟨s, i, g, m, x, y, vx, vy, hp, pw, lf⟩ k).v ∧ Below w.heap.size w w' := by
  generalize hr : withoutF _ _ = r
  have HR := Lib.hid hr
  clear hr
  go_enter Tryz.func157, Tryz.ntmps157
  go_wp2_with (go_at_call 156; refine (with_call _ _ _ _ _ _ _ _ _ _ _ _ _ _ _ _ _ _ _ _ _ _ _).mono ?_; rintro e w1 ⟨rfl, hb⟩; obtain ⟨d, os, rfl⟩ := more_of hb; clear hb)
  go_returns
  refine ⟨?_, bg⟩
  rw [← HR.out]
  rfl

set_option maxHeartbeats 8000000 in
theorem rWith_any (s i g m x y vx vy hp pw lf s' i' g' m' x' y' vx' vy' hp' pw' lf' : Int) (w : World) (hm0 : -9223372036854775808 ≤ m') (hm1 : m' ≤ 9223372036854775807) :
    Calls Tryz.prog 132 #[.agg #[.int .i64 s, .int .i64 i, .int .i64 g, .int .i64 m, .int .i64 x, .int .i64 y, .int .i64 vx, .int .i64 vy, .int .i64 hp, .int .i64 pw, .int .i64 lf], .agg #[.int .i64 s', .int .i64 i', .int .i64 g', .int .i64 m', .int .i64 x', .int .i64 y', .int .i64 vx', .int .i64 vy', .int .i64 hp', .int .i64 pw', .int .i64 lf']] w fun e w' => e = .returned (rWithF ⟨s, i, g, m, x, y, vx, vy, hp, pw, lf⟩ ⟨s', i', g', m', x', y', vx', vy', hp', pw', lf'⟩).v ∧ Below w.heap.size w w' := by
  generalize hr : rWithF _ _ = r
  unfold rWithF at hr
  dsimp only at hr
  have HR := Lib.hid hr
  clear hr
  go_enter Tryz.func132, Tryz.ntmps132
  go_upto_if 7 with (go_at_call 41; refine (bit_any _ _ _ (by omega) (by omega) (by omega)).mono ?_; rintro e w' ⟨rfl, rfl⟩)
  go_cut [] (fun wx => ∃ (Xx Xy : Int), Hid (Xx = (if tb m' 1 = true then x' else x) ∧ Xy = (if tb m' 1 = true then y' else y)) ∧ wx = ((w.alloc (.cells #[.int .i64 s, .int .i64 i, .int .i64 g, .int .i64 m, .int .i64 Xx, .int .i64 Xy, .int .i64 vx, .int .i64 vy, .int .i64 hp, .int .i64 pw, .int .i64 lf] 32)).alloc (.cells #[.int .i64 s', .int .i64 i', .int .i64 g', .int .i64 m', .int .i64 x', .int .i64 y', .int .i64 vx', .int .i64 vy', .int .i64 hp', .int .i64 pw', .int .i64 lf'] 32)).alloc (.cells #[.int .i64 0, .int .i64 0, .int .i64 0, .int .i64 0, .int .i64 0, .int .i64 0, .int .i64 0, .int .i64 0, .int .i64 0, .int .i64 0, .int .i64 0] 32))
  case first =>
    go_wp2_with fail
    · go_meet
      exact ⟨x', y', Lib.hid (by simp [*]), rfl⟩
    · go_meet
      exact ⟨x, y, Lib.hid (by simp [*]), rfl⟩
  obtain ⟨Xx, Xy, HX1, rfl⟩ := hcut
  go_upto_if 16 with (go_at_call 41; refine (bit_any _ _ _ (by omega) (by omega) (by omega)).mono ?_; rintro e w' ⟨rfl, rfl⟩)
  go_cut [] (fun wx => ∃ (Xvx Xvy : Int), Hid (Xvx = (if tb m' 2 = true then vx' else vx) ∧ Xvy = (if tb m' 2 = true then vy' else vy)) ∧ wx = ((w.alloc (.cells #[.int .i64 s, .int .i64 i, .int .i64 g, .int .i64 m, .int .i64 Xx, .int .i64 Xy, .int .i64 Xvx, .int .i64 Xvy, .int .i64 hp, .int .i64 pw, .int .i64 lf] 32)).alloc (.cells #[.int .i64 s', .int .i64 i', .int .i64 g', .int .i64 m', .int .i64 x', .int .i64 y', .int .i64 vx', .int .i64 vy', .int .i64 hp', .int .i64 pw', .int .i64 lf'] 32)).alloc (.cells #[.int .i64 0, .int .i64 0, .int .i64 0, .int .i64 0, .int .i64 0, .int .i64 0, .int .i64 0, .int .i64 0, .int .i64 0, .int .i64 0, .int .i64 0] 32))
  case first =>
    go_wp2_with fail
    · go_meet
      exact ⟨vx', vy', Lib.hid (by simp [*]), rfl⟩
    · go_meet
      exact ⟨vx, vy, Lib.hid (by simp [*]), rfl⟩
  obtain ⟨Xvx, Xvy, HX2, rfl⟩ := hcut
  go_upto_if 25 with (go_at_call 41; refine (bit_any _ _ _ (by omega) (by omega) (by omega)).mono ?_; rintro e w' ⟨rfl, rfl⟩)
  go_cut [] (fun wx => ∃ (Xhp : Int), Hid (Xhp = (if tb m' 4 = true then hp' else hp)) ∧ wx = ((w.alloc (.cells #[.int .i64 s, .int .i64 i, .int .i64 g, .int .i64 m, .int .i64 Xx, .int .i64 Xy, .int .i64 Xvx, .int .i64 Xvy, .int .i64 Xhp, .int .i64 pw, .int .i64 lf] 32)).alloc (.cells #[.int .i64 s', .int .i64 i', .int .i64 g', .int .i64 m', .int .i64 x', .int .i64 y', .int .i64 vx', .int .i64 vy', .int .i64 hp', .int .i64 pw', .int .i64 lf'] 32)).alloc (.cells #[.int .i64 0, .int .i64 0, .int .i64 0, .int .i64 0, .int .i64 0, .int .i64 0, .int .i64 0, .int .i64 0, .int .i64 0, .int .i64 0, .int .i64 0] 32))
  case first =>
    go_wp2_with fail
    · go_meet
      exact ⟨hp', Lib.hid (by simp [*]), rfl⟩
    · go_meet
      exact ⟨hp, Lib.hid (by simp [*]), rfl⟩
  obtain ⟨Xhp, HX3, rfl⟩ := hcut
  go_upto_if 31 with (go_at_call 41; refine (bit_any _ _ _ (by omega) (by omega) (by omega)).mono ?_; rintro e w' ⟨rfl, rfl⟩)
  go_cut [] (fun wx => ∃ (Xpw : Int), Hid (Xpw = (if tb m' 8 = true then pw' else pw)) ∧ wx = ((w.alloc (.cells #[.int .i64 s, .int .i64 i, .int .i64 g, .int .i64 m, .int .i64 Xx, .int .i64 Xy, .int .i64 Xvx, .int .i64 Xvy, .int .i64 Xhp, .int .i64 Xpw, .int .i64 lf] 32)).alloc (.cells #[.int .i64 s', .int .i64 i', .int .i64 g', .int .i64 m', .int .i64 x', .int .i64 y', .int .i64 vx', .int .i64 vy', .int .i64 hp', .int .i64 pw', .int .i64 lf'] 32)).alloc (.cells #[.int .i64 0, .int .i64 0, .int .i64 0, .int .i64 0, .int .i64 0, .int .i64 0, .int .i64 0, .int .i64 0, .int .i64 0, .int .i64 0, .int .i64 0] 32))
  case first =>
    go_wp2_with fail
    · go_meet
      exact ⟨pw', Lib.hid (by simp [*]), rfl⟩
    · go_meet
      exact ⟨pw, Lib.hid (by simp [*]), rfl⟩
  obtain ⟨Xpw, HX4, rfl⟩ := hcut
  go_upto_if 37 with (go_at_call 41; refine (bit_any _ _ _ (by omega) (by omega) (by omega)).mono ?_; rintro e w' ⟨rfl, rfl⟩)
  go_cut [] (fun wx => ∃ (Xlf : Int), Hid (Xlf = (if tb m' 16 = true then lf' else lf)) ∧ wx = ((w.alloc (.cells #[.int .i64 s, .int .i64 i, .int .i64 g, .int .i64 m, .int .i64 Xx, .int .i64 Xy, .int .i64 Xvx, .int .i64 Xvy, .int .i64 Xhp, .int .i64 Xpw, .int .i64 Xlf] 32)).alloc (.cells #[.int .i64 s', .int .i64 i', .int .i64 g', .int .i64 m', .int .i64 x', .int .i64 y', .int .i64 vx', .int .i64 vy', .int .i64 hp', .int .i64 pw', .int .i64 lf'] 32)).alloc (.cells #[.int .i64 0, .int .i64 0, .int .i64 0, .int .i64 0, .int .i64 0, .int .i64 0, .int .i64 0, .int .i64 0, .int .i64 0, .int .i64 0, .int .i64 0] 32))
  case first =>
    go_wp2_with fail
    · go_meet
      exact ⟨lf', Lib.hid (by simp [*]), rfl⟩
    · go_meet
      exact ⟨lf, Lib.hid (by simp [*]), rfl⟩
  obtain ⟨Xlf, HX5, rfl⟩ := hcut
  go_wp2
  go_returns
  refine ⟨?_, bg⟩
  go_tidy
  obtain ⟨e1, e2⟩ := HX1.out
  obtain ⟨e3, e4⟩ := HX2.out
  have e5 := HX3.out
  have e6 := HX4.out
  have e7 := HX5.out
  rw [← HR.out, ← e1, ← e2, ← e3, ← e4, ← e5, ← e6, ← e7]

set_option maxHeartbeats 8000000 in
theorem rWithout_any (s i g m x y vx vy hp pw lf k : Int) (w : World) (hm0 : -9223372036854775808 ≤ k) (hm1 : k ≤ 9223372036854775807) :
    Calls Tryz.prog 133 #[.agg #[.int .i64 s, .int .i64 i, .int .i64 g, .int .i64 m, .int .i64 x, .int .i64 y, .int .i64 vx, .int .i64 vy, .int .i64 hp, .int .i64 pw, .int .i64 lf], .int .i64 k] w fun e w' => e = .returned (rWithoutF ⟨s, i, g, m, x, y, vx, vy, hp, pw, lf⟩ k).v ∧ Below w.heap.size w w' := by
  generalize hr : rWithoutF _ _ = r
  unfold rWithoutF at hr
  dsimp only at hr
  have HR := Lib.hid hr
  clear hr
  go_enter Tryz.func133, Tryz.ntmps133
  go_upto_if 6 with (go_at_call 41; refine (bit_any _ _ _ (by omega) (by omega) (by omega)).mono ?_; rintro e w' ⟨rfl, rfl⟩)
  go_cut [] (fun wx => ∃ (Xx Xy : Int), Hid (Xx = (if tb k 1 = true then 0 else x) ∧ Xy = (if tb k 1 = true then 0 else y)) ∧ wx = (w.alloc (.cells #[.int .i64 s, .int .i64 i, .int .i64 g, .int .i64 m, .int .i64 Xx, .int .i64 Xy, .int .i64 vx, .int .i64 vy, .int .i64 hp, .int .i64 pw, .int .i64 lf] 32)).alloc (.cells #[.int .i64 0, .int .i64 0, .int .i64 0, .int .i64 0, .int .i64 0, .int .i64 0, .int .i64 0, .int .i64 0, .int .i64 0, .int .i64 0, .int .i64 0] 32))
  case first =>
    go_wp2_with fail
    · go_meet
      exact ⟨0, 0, Lib.hid (by simp [*]), rfl⟩
    · go_meet
      exact ⟨x, y, Lib.hid (by simp [*]), rfl⟩
  obtain ⟨Xx, Xy, HX1, rfl⟩ := hcut
  go_upto_if 10 with (go_at_call 41; refine (bit_any _ _ _ (by omega) (by omega) (by omega)).mono ?_; rintro e w' ⟨rfl, rfl⟩)
  go_cut [] (fun wx => ∃ (Xvx Xvy : Int), Hid (Xvx = (if tb k 2 = true then 0 else vx) ∧ Xvy = (if tb k 2 = true then 0 else vy)) ∧ wx = (w.alloc (.cells #[.int .i64 s, .int .i64 i, .int .i64 g, .int .i64 m, .int .i64 Xx, .int .i64 Xy, .int .i64 Xvx, .int .i64 Xvy, .int .i64 hp, .int .i64 pw, .int .i64 lf] 32)).alloc (.cells #[.int .i64 0, .int .i64 0, .int .i64 0, .int .i64 0, .int .i64 0, .int .i64 0, .int .i64 0, .int .i64 0, .int .i64 0, .int .i64 0, .int .i64 0] 32))
  case first =>
    go_wp2_with fail
    · go_meet
      exact ⟨0, 0, Lib.hid (by simp [*]), rfl⟩
    · go_meet
      exact ⟨vx, vy, Lib.hid (by simp [*]), rfl⟩
  obtain ⟨Xvx, Xvy, HX2, rfl⟩ := hcut
  go_upto_if 14 with (go_at_call 41; refine (bit_any _ _ _ (by omega) (by omega) (by omega)).mono ?_; rintro e w' ⟨rfl, rfl⟩)
  go_cut [] (fun wx => ∃ (Xhp : Int), Hid (Xhp = (if tb k 4 = true then 0 else hp)) ∧ wx = (w.alloc (.cells #[.int .i64 s, .int .i64 i, .int .i64 g, .int .i64 m, .int .i64 Xx, .int .i64 Xy, .int .i64 Xvx, .int .i64 Xvy, .int .i64 Xhp, .int .i64 pw, .int .i64 lf] 32)).alloc (.cells #[.int .i64 0, .int .i64 0, .int .i64 0, .int .i64 0, .int .i64 0, .int .i64 0, .int .i64 0, .int .i64 0, .int .i64 0, .int .i64 0, .int .i64 0] 32))
  case first =>
    go_wp2_with fail
    · go_meet
      exact ⟨0, Lib.hid (by simp [*]), rfl⟩
    · go_meet
      exact ⟨hp, Lib.hid (by simp [*]), rfl⟩
  obtain ⟨Xhp, HX3, rfl⟩ := hcut
  go_upto_if 17 with (go_at_call 41; refine (bit_any _ _ _ (by omega) (by omega) (by omega)).mono ?_; rintro e w' ⟨rfl, rfl⟩)
  go_cut [] (fun wx => ∃ (Xpw : Int), Hid (Xpw = (if tb k 8 = true then 0 else pw)) ∧ wx = (w.alloc (.cells #[.int .i64 s, .int .i64 i, .int .i64 g, .int .i64 m, .int .i64 Xx, .int .i64 Xy, .int .i64 Xvx, .int .i64 Xvy, .int .i64 Xhp, .int .i64 Xpw, .int .i64 lf] 32)).alloc (.cells #[.int .i64 0, .int .i64 0, .int .i64 0, .int .i64 0, .int .i64 0, .int .i64 0, .int .i64 0, .int .i64 0, .int .i64 0, .int .i64 0, .int .i64 0] 32))
  case first =>
    go_wp2_with fail
    · go_meet
      exact ⟨0, Lib.hid (by simp [*]), rfl⟩
    · go_meet
      exact ⟨pw, Lib.hid (by simp [*]), rfl⟩
  obtain ⟨Xpw, HX4, rfl⟩ := hcut
  go_upto_if 20 with (go_at_call 41; refine (bit_any _ _ _ (by omega) (by omega) (by omega)).mono ?_; rintro e w' ⟨rfl, rfl⟩)
  go_cut [] (fun wx => ∃ (Xlf : Int), Hid (Xlf = (if tb k 16 = true then 0 else lf)) ∧ wx = (w.alloc (.cells #[.int .i64 s, .int .i64 i, .int .i64 g, .int .i64 m, .int .i64 Xx, .int .i64 Xy, .int .i64 Xvx, .int .i64 Xvy, .int .i64 Xhp, .int .i64 Xpw, .int .i64 Xlf] 32)).alloc (.cells #[.int .i64 0, .int .i64 0, .int .i64 0, .int .i64 0, .int .i64 0, .int .i64 0, .int .i64 0, .int .i64 0, .int .i64 0, .int .i64 0, .int .i64 0] 32))
  case first =>
    go_wp2_with fail
    · go_meet
      exact ⟨0, Lib.hid (by simp [*]), rfl⟩
    · go_meet
      exact ⟨lf, Lib.hid (by simp [*]), rfl⟩
  obtain ⟨Xlf, HX5, rfl⟩ := hcut
  go_wp2
  go_returns
  refine ⟨?_, bg⟩
  go_tidy
  obtain ⟨e1, e2⟩ := HX1.out
  obtain ⟨e3, e4⟩ := HX2.out
  have e5 := HX3.out
  have e6 := HX4.out
  have e7 := HX5.out
  rw [← HR.out, ← e1, ← e2, ← e3, ← e4, ← e5, ← e6, ← e7]

end Go.Proofs.YtoimjjhopljdmaaGreat
namespace Go.Proofs.YtoimjjhopljdmaaGreat
open Go.RowKit

def obeyF (b : Bun) (c : Cm) : Bun × Bool :=
  if idEq c.s c.i c.g b.s b.i b.g = false then (b, true)
  else if c.k = 2 then (zeroB, false)
  else if c.k = 3 then (withF b c.b, true)
  else if c.k = 4 then (withoutF b c.mask, true)
  else (b, true)

set_option maxRecDepth 100000 in
set_option maxHeartbeats 4000000 in
theorem obey_any (s i g m x y vx vy hp pw lf ck cs ci cg s' i' g' m' x' y' vx' vy' hp' pw' lf' mask : Int) (w : World) :
    Calls Tryz.prog 140 #[.agg #[.int .i64 s, .int .i64 i, .int .i64 g, .int .i64 m, .int .i64 x, .int .i64 y, .int .i64 vx, .int .i64 vy, .int .i64 hp, .int .i64 pw, .int .i64 lf], .agg #[.int .i64 ck, .int .i64 cs, .int .i64 ci, .int .i64 cg, .int .i64 s', .int .i64 i', .int .i64 g', .int .i64 m', .int .i64 x', .int .i64 y', .int .i64 vx', .int .i64 vy', .int .i64 hp', .int .i64 pw', .int .i64 lf', .int .i64 mask]] w fun e w' => e = .returned (.tuple #[.agg #[.int .i64 ((obeyF ⟨s, i, g, m, x, y, vx, vy, hp, pw, lf⟩ (⟨ck, cs, ci, cg, ⟨s', i', g', m', x', y', vx', vy', hp', pw', lf'⟩, mask⟩ : Cm)).1).s, .int .i64 ((obeyF ⟨s, i, g, m, x, y, vx, vy, hp, pw, lf⟩ (⟨ck, cs, ci, cg, ⟨s', i', g', m', x', y', vx', vy', hp', pw', lf'⟩, mask⟩ : Cm)).1).i, .int .i64 ((obeyF ⟨s, i, g, m, x, y, vx, vy, hp, pw, lf⟩ (⟨ck, cs, ci, cg, ⟨s', i', g', m', x', y', vx', vy', hp', pw', lf'⟩, mask⟩ : Cm)).1).g, .int .i64 ((obeyF ⟨s, i, g, m, x, y, vx, vy, hp, pw, lf⟩ (⟨ck, cs, ci, cg, ⟨s', i', g', m', x', y', vx', vy', hp', pw', lf'⟩, mask⟩ : Cm)).1).m, .int .i64 ((obeyF ⟨s, i, g, m, x, y, vx, vy, hp, pw, lf⟩ (⟨ck, cs, ci, cg, ⟨s', i', g', m', x', y', vx', vy', hp', pw', lf'⟩, mask⟩ : Cm)).1).x, .int .i64 ((obeyF ⟨s, i, g, m, x, y, vx, vy, hp, pw, lf⟩ (⟨ck, cs, ci, cg, ⟨s', i', g', m', x', y', vx', vy', hp', pw', lf'⟩, mask⟩ : Cm)).1).y, .int .i64 ((obeyF ⟨s, i, g, m, x, y, vx, vy, hp, pw, lf⟩ (⟨ck, cs, ci, cg, ⟨s', i', g', m', x', y', vx', vy', hp', pw', lf'⟩, mask⟩ : Cm)).1).vx, .int .i64 ((obeyF ⟨s, i, g, m, x, y, vx, vy, hp, pw, lf⟩ (⟨ck, cs, ci, cg, ⟨s', i', g', m', x', y', vx', vy', hp', pw', lf'⟩, mask⟩ : Cm)).1).vy, .int .i64 ((obeyF ⟨s, i, g, m, x, y, vx, vy, hp, pw, lf⟩ (⟨ck, cs, ci, cg, ⟨s', i', g', m', x', y', vx', vy', hp', pw', lf'⟩, mask⟩ : Cm)).1).hp, .int .i64 ((obeyF ⟨s, i, g, m, x, y, vx, vy, hp, pw, lf⟩ (⟨ck, cs, ci, cg, ⟨s', i', g', m', x', y', vx', vy', hp', pw', lf'⟩, mask⟩ : Cm)).1).pw, .int .i64 ((obeyF ⟨s, i, g, m, x, y, vx, vy, hp, pw, lf⟩ (⟨ck, cs, ci, cg, ⟨s', i', g', m', x', y', vx', vy', hp', pw', lf'⟩, mask⟩ : Cm)).1).lf], .bool (obeyF ⟨s, i, g, m, x, y, vx, vy, hp, pw, lf⟩ (⟨ck, cs, ci, cg, ⟨s', i', g', m', x', y', vx', vy', hp', pw', lf'⟩, mask⟩ : Cm)).2]) ∧ Below w.heap.size w w' := by
  cases hid : idEq cs ci cg s i g with
  | false =>
    simp only [obeyF, hid, if_true]
    go_enter Tryz.func140, Tryz.ntmps140
    go_wp2_with fail
    exact bodyPost_ret (v := .tuple #[.agg #[.int .i64 s, .int .i64 i, .int .i64 g, .int .i64 m, .int .i64 x, .int .i64 y, .int .i64 vx, .int .i64 vy, .int .i64 hp, .int .i64 pw, .int .i64 lf], .bool true]) (by simp [results, Tryz.results140, go_sem]) rfl ⟨rfl, bg⟩
  | true =>
    by_cases h2 : ck = 2
    · subst h2
      simp only [obeyF, hid, Bool.true_eq_false, if_false, if_true, zeroB]
      go_enter Tryz.func140, Tryz.ntmps140
      go_wp2_with fail
      exact bodyPost_ret (v := .tuple #[.agg #[.int .i64 0, .int .i64 0, .int .i64 0, .int .i64 0, .int .i64 0, .int .i64 0, .int .i64 0, .int .i64 0, .int .i64 0, .int .i64 0, .int .i64 0], .bool false]) (by simp [results, Tryz.results140, go_sem]) rfl ⟨rfl, bg⟩
    · by_cases h3 : ck = 3
      · subst h3
        simp only [obeyF, hid, Bool.true_eq_false, if_false, if_true, h2]
        clear h2
        go_enter Tryz.func140, Tryz.ntmps140
        go_wp2_with (go_at_call 156; refine (with_call _ _ _ _ _ _ _ _ _ _ _ _ _ _ _ _ _ _ _ _ _ _ _).mono ?_; rintro e w' ⟨rfl, hb⟩; obtain ⟨d, os, rfl⟩ := more_of hb; clear hb)
        exact bodyPost_ret (v := .tuple #[.agg #[.int .i64 (withF ⟨s, i, g, m, x, y, vx, vy, hp, pw, lf⟩ ⟨s', i', g', m', x', y', vx', vy', hp', pw', lf'⟩).s, .int .i64 (withF ⟨s, i, g, m, x, y, vx, vy, hp, pw, lf⟩ ⟨s', i', g', m', x', y', vx', vy', hp', pw', lf'⟩).i, .int .i64 (withF ⟨s, i, g, m, x, y, vx, vy, hp, pw, lf⟩ ⟨s', i', g', m', x', y', vx', vy', hp', pw', lf'⟩).g, .int .i64 (withF ⟨s, i, g, m, x, y, vx, vy, hp, pw, lf⟩ ⟨s', i', g', m', x', y', vx', vy', hp', pw', lf'⟩).m, .int .i64 (withF ⟨s, i, g, m, x, y, vx, vy, hp, pw, lf⟩ ⟨s', i', g', m', x', y', vx', vy', hp', pw', lf'⟩).x, .int .i64 (withF ⟨s, i, g, m, x, y, vx, vy, hp, pw, lf⟩ ⟨s', i', g', m', x', y', vx', vy', hp', pw', lf'⟩).y, .int .i64 (withF ⟨s, i, g, m, x, y, vx, vy, hp, pw, lf⟩ ⟨s', i', g', m', x', y', vx', vy', hp', pw', lf'⟩).vx, .int .i64 (withF ⟨s, i, g, m, x, y, vx, vy, hp, pw, lf⟩ ⟨s', i', g', m', x', y', vx', vy', hp', pw', lf'⟩).vy, .int .i64 (withF ⟨s, i, g, m, x, y, vx, vy, hp, pw, lf⟩ ⟨s', i', g', m', x', y', vx', vy', hp', pw', lf'⟩).hp, .int .i64 (withF ⟨s, i, g, m, x, y, vx, vy, hp, pw, lf⟩ ⟨s', i', g', m', x', y', vx', vy', hp', pw', lf'⟩).pw, .int .i64 (withF ⟨s, i, g, m, x, y, vx, vy, hp, pw, lf⟩ ⟨s', i', g', m', x', y', vx', vy', hp', pw', lf'⟩).lf], .bool true]) (by simp [results, Tryz.results140, go_sem]) rfl ⟨rfl, bg⟩
      · by_cases h4 : ck = 4
        · subst h4
          simp only [obeyF, hid, Bool.true_eq_false, if_false, if_true, h2, h3]
          clear h2 h3
          have HW := Lib.hid (fun W => without_any s i g m x y vx vy hp pw lf mask W)
          go_enter Tryz.func140, Tryz.ntmps140
          go_wp2_with (go_at_call 157; refine (HW.out _).mono ?_; rintro e w' ⟨rfl, hb⟩; obtain ⟨d, os, rfl⟩ := more_of hb; clear hb)
          exact bodyPost_ret (v := .tuple #[.agg #[.int .i64 (withoutF ⟨s, i, g, m, x, y, vx, vy, hp, pw, lf⟩ mask).s, .int .i64 (withoutF ⟨s, i, g, m, x, y, vx, vy, hp, pw, lf⟩ mask).i, .int .i64 (withoutF ⟨s, i, g, m, x, y, vx, vy, hp, pw, lf⟩ mask).g, .int .i64 (withoutF ⟨s, i, g, m, x, y, vx, vy, hp, pw, lf⟩ mask).m, .int .i64 (withoutF ⟨s, i, g, m, x, y, vx, vy, hp, pw, lf⟩ mask).x, .int .i64 (withoutF ⟨s, i, g, m, x, y, vx, vy, hp, pw, lf⟩ mask).y, .int .i64 (withoutF ⟨s, i, g, m, x, y, vx, vy, hp, pw, lf⟩ mask).vx, .int .i64 (withoutF ⟨s, i, g, m, x, y, vx, vy, hp, pw, lf⟩ mask).vy, .int .i64 (withoutF ⟨s, i, g, m, x, y, vx, vy, hp, pw, lf⟩ mask).hp, .int .i64 (withoutF ⟨s, i, g, m, x, y, vx, vy, hp, pw, lf⟩ mask).pw, .int .i64 (withoutF ⟨s, i, g, m, x, y, vx, vy, hp, pw, lf⟩ mask).lf], .bool true]) (by simp [results, Tryz.results140, go_sem]) rfl ⟨rfl, bg⟩
        · simp only [obeyF, hid, Bool.true_eq_false, if_false, h2, h3, h4]
          have k2 : (ck == 2) = false := by simpa using h2
          have k3 : (ck == 3) = false := by simpa using h3
          have k4 : (ck == 4) = false := by simpa using h4
          clear h2 h3 h4
          go_enter Tryz.func140, Tryz.ntmps140
          go_wp2_with fail
          exact bodyPost_ret (v := .tuple #[.agg #[.int .i64 s, .int .i64 i, .int .i64 g, .int .i64 m, .int .i64 x, .int .i64 y, .int .i64 vx, .int .i64 vy, .int .i64 hp, .int .i64 pw, .int .i64 lf], .bool true]) (by simp [results, Tryz.results140, go_sem]) rfl ⟨rfl, bg⟩

set_option maxRecDepth 100000 in
set_option maxHeartbeats 4000000 in
theorem rObey_any (s i g m x y vx vy hp pw lf ck cs ci cg s' i' g' m' x' y' vx' vy' hp' pw' lf' mask : Int) (w : World) (hm : (-9223372036854775808 ≤ m ∧ m ≤ 9223372036854775807)) (hm' : (-9223372036854775808 ≤ m' ∧ m' ≤ 9223372036854775807)) (hk : (-9223372036854775808 ≤ mask ∧ mask ≤ 9223372036854775807)) :
    Calls Tryz.prog 94 #[.agg #[.int .i64 s, .int .i64 i, .int .i64 g, .int .i64 m, .int .i64 x, .int .i64 y, .int .i64 vx, .int .i64 vy, .int .i64 hp, .int .i64 pw, .int .i64 lf], .agg #[.int .i64 ck, .int .i64 cs, .int .i64 ci, .int .i64 cg, .int .i64 s', .int .i64 i', .int .i64 g', .int .i64 m', .int .i64 x', .int .i64 y', .int .i64 vx', .int .i64 vy', .int .i64 hp', .int .i64 pw', .int .i64 lf', .int .i64 mask]] w fun e w' => e = .returned (.tuple #[.agg #[.int .i64 ((obeyF ⟨s, i, g, m, x, y, vx, vy, hp, pw, lf⟩ (⟨ck, cs, ci, cg, ⟨s', i', g', m', x', y', vx', vy', hp', pw', lf'⟩, mask⟩ : Cm)).1).s, .int .i64 ((obeyF ⟨s, i, g, m, x, y, vx, vy, hp, pw, lf⟩ (⟨ck, cs, ci, cg, ⟨s', i', g', m', x', y', vx', vy', hp', pw', lf'⟩, mask⟩ : Cm)).1).i, .int .i64 ((obeyF ⟨s, i, g, m, x, y, vx, vy, hp, pw, lf⟩ (⟨ck, cs, ci, cg, ⟨s', i', g', m', x', y', vx', vy', hp', pw', lf'⟩, mask⟩ : Cm)).1).g, .int .i64 ((obeyF ⟨s, i, g, m, x, y, vx, vy, hp, pw, lf⟩ (⟨ck, cs, ci, cg, ⟨s', i', g', m', x', y', vx', vy', hp', pw', lf'⟩, mask⟩ : Cm)).1).m, .int .i64 ((obeyF ⟨s, i, g, m, x, y, vx, vy, hp, pw, lf⟩ (⟨ck, cs, ci, cg, ⟨s', i', g', m', x', y', vx', vy', hp', pw', lf'⟩, mask⟩ : Cm)).1).x, .int .i64 ((obeyF ⟨s, i, g, m, x, y, vx, vy, hp, pw, lf⟩ (⟨ck, cs, ci, cg, ⟨s', i', g', m', x', y', vx', vy', hp', pw', lf'⟩, mask⟩ : Cm)).1).y, .int .i64 ((obeyF ⟨s, i, g, m, x, y, vx, vy, hp, pw, lf⟩ (⟨ck, cs, ci, cg, ⟨s', i', g', m', x', y', vx', vy', hp', pw', lf'⟩, mask⟩ : Cm)).1).vx, .int .i64 ((obeyF ⟨s, i, g, m, x, y, vx, vy, hp, pw, lf⟩ (⟨ck, cs, ci, cg, ⟨s', i', g', m', x', y', vx', vy', hp', pw', lf'⟩, mask⟩ : Cm)).1).vy, .int .i64 ((obeyF ⟨s, i, g, m, x, y, vx, vy, hp, pw, lf⟩ (⟨ck, cs, ci, cg, ⟨s', i', g', m', x', y', vx', vy', hp', pw', lf'⟩, mask⟩ : Cm)).1).hp, .int .i64 ((obeyF ⟨s, i, g, m, x, y, vx, vy, hp, pw, lf⟩ (⟨ck, cs, ci, cg, ⟨s', i', g', m', x', y', vx', vy', hp', pw', lf'⟩, mask⟩ : Cm)).1).pw, .int .i64 ((obeyF ⟨s, i, g, m, x, y, vx, vy, hp, pw, lf⟩ (⟨ck, cs, ci, cg, ⟨s', i', g', m', x', y', vx', vy', hp', pw', lf'⟩, mask⟩ : Cm)).1).lf], .bool (obeyF ⟨s, i, g, m, x, y, vx, vy, hp, pw, lf⟩ (⟨ck, cs, ci, cg, ⟨s', i', g', m', x', y', vx', vy', hp', pw', lf'⟩, mask⟩ : Cm)).2]) ∧ Below w.heap.size w w' := by
  cases hid : idEq cs ci cg s i g with
  | false =>
    simp only [obeyF, hid, if_true]
    clear hm hm' hk
    go_enter Tryz.func94, Tryz.ntmps94
    go_wp2_with fail
    exact bodyPost_ret (v := .tuple #[.agg #[.int .i64 s, .int .i64 i, .int .i64 g, .int .i64 m, .int .i64 x, .int .i64 y, .int .i64 vx, .int .i64 vy, .int .i64 hp, .int .i64 pw, .int .i64 lf], .bool true]) (by simp [results, Tryz.results94, go_sem]) rfl ⟨rfl, bg⟩
  | true =>
    by_cases h2 : ck = 2
    · subst h2
      simp only [obeyF, hid, Bool.true_eq_false, if_false, if_true, zeroB]
      clear hm hm' hk
      go_enter Tryz.func94, Tryz.ntmps94
      go_wp2_with fail
      exact bodyPost_ret (v := .tuple #[.agg #[.int .i64 0, .int .i64 0, .int .i64 0, .int .i64 0, .int .i64 0, .int .i64 0, .int .i64 0, .int .i64 0, .int .i64 0, .int .i64 0, .int .i64 0], .bool false]) (by simp [results, Tryz.results94, go_sem]) rfl ⟨rfl, bg⟩
    · by_cases h3 : ck = 3
      · subst h3
        simp only [obeyF, hid, Bool.true_eq_false, if_false, if_true, h2]
        have hw := fun W => rWith_any s i g m x y vx vy hp pw lf s' i' g' m' x' y' vx' vy' hp' pw' lf' W hm'.1 hm'.2
        rw [withF_eq] at hw
        have HW := Lib.hid hw
        clear h2 hm hm' hk hw
        go_enter Tryz.func94, Tryz.ntmps94
        go_wp2_with (go_at_call 132; refine (HW.out _).mono ?_; rintro e w' ⟨rfl, hb⟩; obtain ⟨d, os, rfl⟩ := more_of hb; clear hb)
        exact bodyPost_ret (v := .tuple #[.agg #[.int .i64 (withF ⟨s, i, g, m, x, y, vx, vy, hp, pw, lf⟩ ⟨s', i', g', m', x', y', vx', vy', hp', pw', lf'⟩).s, .int .i64 (withF ⟨s, i, g, m, x, y, vx, vy, hp, pw, lf⟩ ⟨s', i', g', m', x', y', vx', vy', hp', pw', lf'⟩).i, .int .i64 (withF ⟨s, i, g, m, x, y, vx, vy, hp, pw, lf⟩ ⟨s', i', g', m', x', y', vx', vy', hp', pw', lf'⟩).g, .int .i64 (withF ⟨s, i, g, m, x, y, vx, vy, hp, pw, lf⟩ ⟨s', i', g', m', x', y', vx', vy', hp', pw', lf'⟩).m, .int .i64 (withF ⟨s, i, g, m, x, y, vx, vy, hp, pw, lf⟩ ⟨s', i', g', m', x', y', vx', vy', hp', pw', lf'⟩).x, .int .i64 (withF ⟨s, i, g, m, x, y, vx, vy, hp, pw, lf⟩ ⟨s', i', g', m', x', y', vx', vy', hp', pw', lf'⟩).y, .int .i64 (withF ⟨s, i, g, m, x, y, vx, vy, hp, pw, lf⟩ ⟨s', i', g', m', x', y', vx', vy', hp', pw', lf'⟩).vx, .int .i64 (withF ⟨s, i, g, m, x, y, vx, vy, hp, pw, lf⟩ ⟨s', i', g', m', x', y', vx', vy', hp', pw', lf'⟩).vy, .int .i64 (withF ⟨s, i, g, m, x, y, vx, vy, hp, pw, lf⟩ ⟨s', i', g', m', x', y', vx', vy', hp', pw', lf'⟩).hp, .int .i64 (withF ⟨s, i, g, m, x, y, vx, vy, hp, pw, lf⟩ ⟨s', i', g', m', x', y', vx', vy', hp', pw', lf'⟩).pw, .int .i64 (withF ⟨s, i, g, m, x, y, vx, vy, hp, pw, lf⟩ ⟨s', i', g', m', x', y', vx', vy', hp', pw', lf'⟩).lf], .bool true]) (by simp [results, Tryz.results94, go_sem]) rfl ⟨rfl, bg⟩
      · by_cases h4 : ck = 4
        · subst h4
          simp only [obeyF, hid, Bool.true_eq_false, if_false, if_true, h2, h3]
          have hw := fun W => rWithout_any s i g m x y vx vy hp pw lf mask W hk.1 hk.2
          rw [withoutF_eq _ _ hm] at hw
          have HW := Lib.hid hw
          clear h2 h3 hm hm' hk hw
          go_enter Tryz.func94, Tryz.ntmps94
          go_wp2_with (go_at_call 133; refine (HW.out _).mono ?_; rintro e w' ⟨rfl, hb⟩; obtain ⟨d, os, rfl⟩ := more_of hb; clear hb)
          exact bodyPost_ret (v := .tuple #[.agg #[.int .i64 (withoutF ⟨s, i, g, m, x, y, vx, vy, hp, pw, lf⟩ mask).s, .int .i64 (withoutF ⟨s, i, g, m, x, y, vx, vy, hp, pw, lf⟩ mask).i, .int .i64 (withoutF ⟨s, i, g, m, x, y, vx, vy, hp, pw, lf⟩ mask).g, .int .i64 (withoutF ⟨s, i, g, m, x, y, vx, vy, hp, pw, lf⟩ mask).m, .int .i64 (withoutF ⟨s, i, g, m, x, y, vx, vy, hp, pw, lf⟩ mask).x, .int .i64 (withoutF ⟨s, i, g, m, x, y, vx, vy, hp, pw, lf⟩ mask).y, .int .i64 (withoutF ⟨s, i, g, m, x, y, vx, vy, hp, pw, lf⟩ mask).vx, .int .i64 (withoutF ⟨s, i, g, m, x, y, vx, vy, hp, pw, lf⟩ mask).vy, .int .i64 (withoutF ⟨s, i, g, m, x, y, vx, vy, hp, pw, lf⟩ mask).hp, .int .i64 (withoutF ⟨s, i, g, m, x, y, vx, vy, hp, pw, lf⟩ mask).pw, .int .i64 (withoutF ⟨s, i, g, m, x, y, vx, vy, hp, pw, lf⟩ mask).lf], .bool true]) (by simp [results, Tryz.results94, go_sem]) rfl ⟨rfl, bg⟩
        · simp only [obeyF, hid, Bool.true_eq_false, if_false, h2, h3, h4]
          have k2 : (ck == 2) = false := by simpa using h2
          have k3 : (ck == 3) = false := by simpa using h3
          have k4 : (ck == 4) = false := by simpa using h4
          clear h2 h3 h4 hm hm' hk
          go_enter Tryz.func94, Tryz.ntmps94
          go_wp2_with fail
          exact bodyPost_ret (v := .tuple #[.agg #[.int .i64 s, .int .i64 i, .int .i64 g, .int .i64 m, .int .i64 x, .int .i64 y, .int .i64 vx, .int .i64 vy, .int .i64 hp, .int .i64 pw, .int .i64 lf], .bool true]) (by simp [results, Tryz.results94, go_sem]) rfl ⟨rfl, bg⟩
end Go.Proofs.YtoimjjhopljdmaaGreat
