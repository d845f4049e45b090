/-
  Walks of package parts: With. It computes its plain twin; new memory alone is written. No condition.
-/
import Derived.Test.YtloampfkjldmnaaEq
namespace Go.Proofs.Ytloampfkjldmnaa
open Go.RowKit

set_option maxHeartbeats 8000000 in
theorem with_any (s i g m x y vx vy hp pw lf s' i' g' m' x' y' vx' vy' hp' pw' lf' : Int) (w : World) :
    Calls Try.prog 52 #[.agg #[.int .i64 s, .int .i64 i, .int .i64 g, .int .i64 m, .int .i64 x, .int .i64 y, .int .i64 vx, .int .i64 vy, .int .i64 hp, .int .i64 pw, .int .i64 lf], .agg #[.int .i64 s', .int .i64 i', .int .i64 g', .int .i64 m', .int .i64 x', .int .i64 y', .int .i64 vx', .int .i64 vy', .int .i64 hp', .int .i64 pw', .int .i64 lf']] w fun e w' => e = .returned (withF ⟨s, i, g, m, x, y, vx, vy, hp, pw, lf⟩ ⟨s', i', g', m', x', y', vx', vy', hp', pw', lf'⟩).v ∧ Below w.heap.size w w' := by
  generalize hr : withF _ _ = r
  unfold withF hasB at hr
  dsimp only at hr
  have HR := Lib.hid hr
  clear hr
  go_enter Try.func52, Try.ntmps52
  go_upto_if 12 with (go_in)
  go_cut [] (fun wx => ∃ (n : Nat) (Xx Xy : Int), Hid (Xx = (if (bits BinOp.and IntKind.i64 m' 1 == 1) = true then x' else x) ∧ Xy = (if (bits BinOp.and IntKind.i64 m' 1 == 1) = true then y' else y)) ∧ wx = World.drewN ((((w.alloc (.cells #[.int .i64 s, .int .i64 i, .int .i64 g, .int .i64 (bits BinOp.or IntKind.i64 m m'), .int .i64 Xx, .int .i64 Xy, .int .i64 vx, .int .i64 vy, .int .i64 hp, .int .i64 pw, .int .i64 lf] 34)).alloc (.cells #[.int .i64 s', .int .i64 i', .int .i64 g', .int .i64 m', .int .i64 x', .int .i64 y', .int .i64 vx', .int .i64 vy', .int .i64 hp', .int .i64 pw', .int .i64 lf'] 34)).alloc (.cells #[.int .i64 0, .int .i64 0, .int .i64 0, .int .i64 0, .int .i64 0, .int .i64 0, .int .i64 0, .int .i64 0, .int .i64 0, .int .i64 0, .int .i64 0] 34)).alloc (.cells #[.int .i64 s', .int .i64 i', .int .i64 g', .int .i64 m', .int .i64 x', .int .i64 y', .int .i64 vx', .int .i64 vy', .int .i64 hp', .int .i64 pw', .int .i64 lf'] 34)) n)
  case first =>
    go_wp2_with (go_in)
    · go_region
      all_goals (go_wp2_with fail; go_meet; exact ⟨1, x', y', Lib.hid (by simp [*]), rfl⟩)
    · go_meet
      exact ⟨0, x, y, Lib.hid (by simp [*]), rfl⟩
  obtain ⟨n1, Xx, Xy, HX1, rfl⟩ := hcut
  go_upto_if 20 with (go_in)
  go_cut [] (fun wx => ∃ (n : Nat) (Xvx Xvy : Int), Hid (Xvx = (if (bits BinOp.and IntKind.i64 m' 2 == 2) = true then vx' else vx) ∧ Xvy = (if (bits BinOp.and IntKind.i64 m' 2 == 2) = true then vy' else vy)) ∧ wx = World.drewN (((((w.alloc (.cells #[.int .i64 s, .int .i64 i, .int .i64 g, .int .i64 (bits BinOp.or IntKind.i64 m m'), .int .i64 Xx, .int .i64 Xy, .int .i64 Xvx, .int .i64 Xvy, .int .i64 hp, .int .i64 pw, .int .i64 lf] 34)).alloc (.cells #[.int .i64 s', .int .i64 i', .int .i64 g', .int .i64 m', .int .i64 x', .int .i64 y', .int .i64 vx', .int .i64 vy', .int .i64 hp', .int .i64 pw', .int .i64 lf'] 34)).alloc (.cells #[.int .i64 0, .int .i64 0, .int .i64 0, .int .i64 0, .int .i64 0, .int .i64 0, .int .i64 0, .int .i64 0, .int .i64 0, .int .i64 0, .int .i64 0] 34)).alloc (.cells #[.int .i64 s', .int .i64 i', .int .i64 g', .int .i64 m', .int .i64 x', .int .i64 y', .int .i64 vx', .int .i64 vy', .int .i64 hp', .int .i64 pw', .int .i64 lf'] 34)).alloc (.cells #[.int .i64 s', .int .i64 i', .int .i64 g', .int .i64 m', .int .i64 x', .int .i64 y', .int .i64 vx', .int .i64 vy', .int .i64 hp', .int .i64 pw', .int .i64 lf'] 34)) n)
  case first =>
    go_wp2_with (go_in)
    · go_region
      all_goals (go_wp2_with fail; go_meet; exact ⟨n1 + 1, vx', vy', Lib.hid (by simp [*]), rfl⟩)
    · go_meet
      exact ⟨n1, vx, vy, Lib.hid (by simp [*]), rfl⟩
  obtain ⟨n2, Xvx, Xvy, HX2, rfl⟩ := hcut
  go_upto_if 28 with (go_in)
  go_cut [] (fun wx => ∃ (n : Nat) (Xhp : Int), Hid (Xhp = (if (bits BinOp.and IntKind.i64 m' 4 == 4) = true then hp' else hp)) ∧ wx = World.drewN ((((((w.alloc (.cells #[.int .i64 s, .int .i64 i, .int .i64 g, .int .i64 (bits BinOp.or IntKind.i64 m m'), .int .i64 Xx, .int .i64 Xy, .int .i64 Xvx, .int .i64 Xvy, .int .i64 Xhp, .int .i64 pw, .int .i64 lf] 34)).alloc (.cells #[.int .i64 s', .int .i64 i', .int .i64 g', .int .i64 m', .int .i64 x', .int .i64 y', .int .i64 vx', .int .i64 vy', .int .i64 hp', .int .i64 pw', .int .i64 lf'] 34)).alloc (.cells #[.int .i64 0, .int .i64 0, .int .i64 0, .int .i64 0, .int .i64 0, .int .i64 0, .int .i64 0, .int .i64 0, .int .i64 0, .int .i64 0, .int .i64 0] 34)).alloc (.cells #[.int .i64 s', .int .i64 i', .int .i64 g', .int .i64 m', .int .i64 x', .int .i64 y', .int .i64 vx', .int .i64 vy', .int .i64 hp', .int .i64 pw', .int .i64 lf'] 34)).alloc (.cells #[.int .i64 s', .int .i64 i', .int .i64 g', .int .i64 m', .int .i64 x', .int .i64 y', .int .i64 vx', .int .i64 vy', .int .i64 hp', .int .i64 pw', .int .i64 lf'] 34)).alloc (.cells #[.int .i64 s', .int .i64 i', .int .i64 g', .int .i64 m', .int .i64 x', .int .i64 y', .int .i64 vx', .int .i64 vy', .int .i64 hp', .int .i64 pw', .int .i64 lf'] 34)) n)
  case first =>
    go_wp2_with (go_in)
    · go_meet
      exact ⟨n2, hp', Lib.hid (by simp [*]), rfl⟩
    · go_meet
      exact ⟨n2, hp, Lib.hid (by simp [*]), rfl⟩
  obtain ⟨n3, Xhp, HX3, rfl⟩ := hcut
  go_upto_if 33 with (go_in)
  go_cut [] (fun wx => ∃ (n : Nat) (Xpw : Int), Hid (Xpw = (if (bits BinOp.and IntKind.i64 m' 8 == 8) = true then pw' else pw)) ∧ wx = World.drewN (((((((w.alloc (.cells #[.int .i64 s, .int .i64 i, .int .i64 g, .int .i64 (bits BinOp.or IntKind.i64 m m'), .int .i64 Xx, .int .i64 Xy, .int .i64 Xvx, .int .i64 Xvy, .int .i64 Xhp, .int .i64 Xpw, .int .i64 lf] 34)).alloc (.cells #[.int .i64 s', .int .i64 i', .int .i64 g', .int .i64 m', .int .i64 x', .int .i64 y', .int .i64 vx', .int .i64 vy', .int .i64 hp', .int .i64 pw', .int .i64 lf'] 34)).alloc (.cells #[.int .i64 0, .int .i64 0, .int .i64 0, .int .i64 0, .int .i64 0, .int .i64 0, .int .i64 0, .int .i64 0, .int .i64 0, .int .i64 0, .int .i64 0] 34)).alloc (.cells #[.int .i64 s', .int .i64 i', .int .i64 g', .int .i64 m', .int .i64 x', .int .i64 y', .int .i64 vx', .int .i64 vy', .int .i64 hp', .int .i64 pw', .int .i64 lf'] 34)).alloc (.cells #[.int .i64 s', .int .i64 i', .int .i64 g', .int .i64 m', .int .i64 x', .int .i64 y', .int .i64 vx', .int .i64 vy', .int .i64 hp', .int .i64 pw', .int .i64 lf'] 34)).alloc (.cells #[.int .i64 s', .int .i64 i', .int .i64 g', .int .i64 m', .int .i64 x', .int .i64 y', .int .i64 vx', .int .i64 vy', .int .i64 hp', .int .i64 pw', .int .i64 lf'] 34)).alloc (.cells #[.int .i64 s', .int .i64 i', .int .i64 g', .int .i64 m', .int .i64 x', .int .i64 y', .int .i64 vx', .int .i64 vy', .int .i64 hp', .int .i64 pw', .int .i64 lf'] 34)) n)
  case first =>
    go_wp2_with (go_in)
    · go_meet
      exact ⟨n3, pw', Lib.hid (by simp [*]), rfl⟩
    · go_meet
      exact ⟨n3, pw, Lib.hid (by simp [*]), rfl⟩
  obtain ⟨n4, Xpw, HX4, rfl⟩ := hcut
  go_upto_if 38 with (go_in)
  go_cut [] (fun wx => ∃ (n : Nat) (Xlf : Int), Hid (Xlf = (if (bits BinOp.and IntKind.i64 m' 16 == 16) = true then lf' else lf)) ∧ wx = World.drewN ((((((((w.alloc (.cells #[.int .i64 s, .int .i64 i, .int .i64 g, .int .i64 (bits BinOp.or IntKind.i64 m m'), .int .i64 Xx, .int .i64 Xy, .int .i64 Xvx, .int .i64 Xvy, .int .i64 Xhp, .int .i64 Xpw, .int .i64 Xlf] 34)).alloc (.cells #[.int .i64 s', .int .i64 i', .int .i64 g', .int .i64 m', .int .i64 x', .int .i64 y', .int .i64 vx', .int .i64 vy', .int .i64 hp', .int .i64 pw', .int .i64 lf'] 34)).alloc (.cells #[.int .i64 0, .int .i64 0, .int .i64 0, .int .i64 0, .int .i64 0, .int .i64 0, .int .i64 0, .int .i64 0, .int .i64 0, .int .i64 0, .int .i64 0] 34)).alloc (.cells #[.int .i64 s', .int .i64 i', .int .i64 g', .int .i64 m', .int .i64 x', .int .i64 y', .int .i64 vx', .int .i64 vy', .int .i64 hp', .int .i64 pw', .int .i64 lf'] 34)).alloc (.cells #[.int .i64 s', .int .i64 i', .int .i64 g', .int .i64 m', .int .i64 x', .int .i64 y', .int .i64 vx', .int .i64 vy', .int .i64 hp', .int .i64 pw', .int .i64 lf'] 34)).alloc (.cells #[.int .i64 s', .int .i64 i', .int .i64 g', .int .i64 m', .int .i64 x', .int .i64 y', .int .i64 vx', .int .i64 vy', .int .i64 hp', .int .i64 pw', .int .i64 lf'] 34)).alloc (.cells #[.int .i64 s', .int .i64 i', .int .i64 g', .int .i64 m', .int .i64 x', .int .i64 y', .int .i64 vx', .int .i64 vy', .int .i64 hp', .int .i64 pw', .int .i64 lf'] 34)).alloc (.cells #[.int .i64 s', .int .i64 i', .int .i64 g', .int .i64 m', .int .i64 x', .int .i64 y', .int .i64 vx', .int .i64 vy', .int .i64 hp', .int .i64 pw', .int .i64 lf'] 34)) n)
  case first =>
    go_wp2_with (go_in)
    · go_meet
      exact ⟨n4, lf', Lib.hid (by simp [*]), rfl⟩
    · go_meet
      exact ⟨n4, lf, Lib.hid (by simp [*]), rfl⟩
  obtain ⟨n5, Xlf, HX5, rfl⟩ := hcut
  go_wp2
  go_returns
  refine ⟨?_, (by repeat' (first | (with_reducible exact Below.refl _ _) | (with_reducible assumption) | (with_reducible refine below_drewN ?_ _) | (with_reducible refine below_more _ _ _ ?_ ?_) | (with_reducible refine Below.alloc ?_ ?_ _) | (with_reducible refine Below.drew ?_) | (with_reducible refine Below.setCell ?_ ?_ _) | go_size))⟩
  go_tidy
  obtain ⟨e1, e2⟩ := HX1.out
  obtain ⟨e3, e4⟩ := HX2.out
  have e5 := HX3.out
  have e6 := HX4.out
  have e7 := HX5.out
  rw [← HR.out, ← e1, ← e2, ← e3, ← e4, ← e5, ← e6, ← e7]


/-- The same, the result's cells written out. -/
theorem with_call (s i g m x y vx vy hp pw lf s' i' g' m' x' y' vx' vy' hp' pw' lf' : Int) (w : World) :
    Calls Try.prog 52 #[.agg #[.int .i64 s, .int .i64 i, .int .i64 g, .int .i64 m, .int .i64 x, .int .i64 y, .int .i64 vx, .int .i64 vy, .int .i64 hp, .int .i64 pw, .int .i64 lf], .agg #[.int .i64 s', .int .i64 i', .int .i64 g', .int .i64 m', .int .i64 x', .int .i64 y', .int .i64 vx', .int .i64 vy', .int .i64 hp', .int .i64 pw', .int .i64 lf']] w fun e w' => e = .returned (.agg #[.int .i64 (withF ⟨s, i, g, m, x, y, vx, vy, hp, pw, lf⟩ ⟨s', i', g', m', x', y', vx', vy', hp', pw', lf'⟩).s, .int .i64 (withF ⟨s, i, g, m, x, y, vx, vy, hp, pw, lf⟩ ⟨s', i', g', m', x', y', vx', vy', hp', pw', lf'⟩).i, .int .i64 (withF ⟨s, i, g, m, x, y, vx, vy, hp, pw, lf⟩ ⟨s', i', g', m', x', y', vx', vy', hp', pw', lf'⟩).g, .int .i64 (withF ⟨s, i, g, m, x, y, vx, vy, hp, pw, lf⟩ ⟨s', i', g', m', x', y', vx', vy', hp', pw', lf'⟩).m, .int .i64 (withF ⟨s, i, g, m, x, y, vx, vy, hp, pw, lf⟩ ⟨s', i', g', m', x', y', vx', vy', hp', pw', lf'⟩).x, .int .i64 (withF ⟨s, i, g, m, x, y, vx, vy, hp, pw, lf⟩ ⟨s', i', g', m', x', y', vx', vy', hp', pw', lf'⟩).y, .int .i64 (withF ⟨s, i, g, m, x, y, vx, vy, hp, pw, lf⟩ ⟨s', i', g', m', x', y', vx', vy', hp', pw', lf'⟩).vx, .int .i64 (withF ⟨s, i, g, m, x, y, vx, vy, hp, pw, lf⟩ ⟨s', i', g', m', x', y', vx', vy', hp', pw', lf'⟩).vy, .int .i64 (withF ⟨s, i, g, m, x, y, vx, vy, hp, pw, lf⟩ ⟨s', i', g', m', x', y', vx', vy', hp', pw', lf'⟩).hp, .int .i64 (withF ⟨s, i, g, m, x, y, vx, vy, hp, pw, lf⟩ ⟨s', i', g', m', x', y', vx', vy', hp', pw', lf'⟩).pw, .int .i64 (withF ⟨s, i, g, m, x, y, vx, vy, hp, pw, lf⟩ ⟨s', i', g', m', x', y', vx', vy', hp', pw', lf'⟩).lf]) ∧ Below w.heap.size w w' :=
  with_any s i g m x y vx vy hp pw lf s' i' g' m' x' y' vx' vy' hp' pw' lf' w

end Go.Proofs.Ytloampfkjldmnaa
