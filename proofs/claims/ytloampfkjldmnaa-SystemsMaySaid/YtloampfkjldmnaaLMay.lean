/-
  SystemsMay: for every entity, number and command the law returns true, and the arguments stay as they were. No condition.
-/
import Derived.Test.YtloampfkjldmnaaSyJ
import Derived.Test.YtloampfkjldmnaaSyP
import Derived.Test.YtloampfkjldmnaaFr
namespace Go.Proofs.Ytloampfkjldmnaa.systemsMay
open Go.ChangeShapes Go.WideShapes Go.ChangeAt Go.RowKit

theorem i64_hurt (b : Bun) (n : Int) (h : (-9223372036854775808 ≤ b.m ∧ b.m ≤ 9223372036854775807)) : (-9223372036854775808 ≤ (hurtF b n).1.m ∧ (hurtF b n).1.m ≤ 9223372036854775807) := by
  unfold hurtF; split
  · exact h
  · split
    · decide
    · exact h
theorem i64_age (b : Bun) (h : (-9223372036854775808 ≤ b.m ∧ b.m ≤ 9223372036854775807)) : (-9223372036854775808 ≤ (ageF b).1.m ∧ (ageF b).1.m ≤ 9223372036854775807) := by
  unfold ageF; split
  · exact h
  · split
    · decide
    · exact h
theorem i64_obey (b : Bun) (c : Cm) (h : (-9223372036854775808 ≤ b.m ∧ b.m ≤ 9223372036854775807)) : (-9223372036854775808 ≤ (obeyF b c).1.m ∧ (obeyF b c).1.m ≤ 9223372036854775807) := by
  unfold obeyF; split
  · exact h
  · split
    · decide
    · split
      · exact i64_or _ _
      · split
        · exact i64_andNot _ _
        · exact h

set_option maxRecDepth 100000 in
set_option maxHeartbeats 8000000 in
theorem walk_no1 (s i g m x y vx vy hp pw lf n ck cs ci cg s' i' g' m' x' y' vx' vy' hp' pw' lf' mask : Int) (w : World) (HM0 : Hid (∀ W : World, Calls Try.prog 32 #[.agg #[.int .i64 s, .int .i64 i, .int .i64 g, .int .i64 m, .int .i64 x, .int .i64 y, .int .i64 vx, .int .i64 vy, .int .i64 hp, .int .i64 pw, .int .i64 lf]] W fun e w' => e = .returned (.bool false) ∧ Below W.heap.size W w')) : Calls Try.prog 10 #[.agg #[.int .i64 s, .int .i64 i, .int .i64 g, .int .i64 m, .int .i64 x, .int .i64 y, .int .i64 vx, .int .i64 vy, .int .i64 hp, .int .i64 pw, .int .i64 lf], .int .i64 n, .agg #[.int .i64 ck, .int .i64 cs, .int .i64 ci, .int .i64 cg, .int .i64 s', .int .i64 i', .int .i64 g', .int .i64 m', .int .i64 x', .int .i64 y', .int .i64 vx', .int .i64 vy', .int .i64 hp', .int .i64 pw', .int .i64 lf', .int .i64 mask]] w fun e w' => e = .returned (.bool true) ∧ Below w.heap.size w w' := by
  go_enter Try.func10, Try.ntmps10
  go_wp2_with (first | (go_at_call 32; refine (HM0.out _).mono ?_; rintro e w' ⟨rfl, hb⟩; obtain ⟨d, os, rfl⟩ := more_of hb; clear hb) | (go_at_call 17; refine (awake14 _).mono ?_; rintro e w' ⟨rfl, hb⟩; obtain ⟨d, os, rfl⟩ := more_of hb; clear hb))
  go_ret
  exact ⟨rfl, (by repeat' (first | (with_reducible exact Below.refl _ _) | (with_reducible assumption) | (with_reducible refine below_drewN ?_ _) | (with_reducible refine below_more _ _ _ ?_ ?_) | (with_reducible refine Below.alloc ?_ ?_ _) | (with_reducible refine Below.drew ?_) | (with_reducible refine Below.setCell ?_ ?_ _) | go_size))⟩

set_option maxRecDepth 100000 in
set_option maxHeartbeats 8000000 in
theorem walk_no2 (s i g m x y vx vy hp pw lf n ck cs ci cg s' i' g' m' x' y' vx' vy' hp' pw' lf' mask : Int) (w : World) (HM0 : Hid (∀ W : World, Calls Try.prog 32 #[.agg #[.int .i64 s, .int .i64 i, .int .i64 g, .int .i64 m, .int .i64 x, .int .i64 y, .int .i64 vx, .int .i64 vy, .int .i64 hp, .int .i64 pw, .int .i64 lf]] W fun e w' => e = .returned (.bool true) ∧ Below W.heap.size W w')) (HMC : Hid (∀ W : World, Calls Try.prog 33 #[.agg #[.int .i64 ck, .int .i64 cs, .int .i64 ci, .int .i64 cg, .int .i64 s', .int .i64 i', .int .i64 g', .int .i64 m', .int .i64 x', .int .i64 y', .int .i64 vx', .int .i64 vy', .int .i64 hp', .int .i64 pw', .int .i64 lf', .int .i64 mask]] W fun e w' => e = .returned (.bool false) ∧ Below W.heap.size W w')) : Calls Try.prog 10 #[.agg #[.int .i64 s, .int .i64 i, .int .i64 g, .int .i64 m, .int .i64 x, .int .i64 y, .int .i64 vx, .int .i64 vy, .int .i64 hp, .int .i64 pw, .int .i64 lf], .int .i64 n, .agg #[.int .i64 ck, .int .i64 cs, .int .i64 ci, .int .i64 cg, .int .i64 s', .int .i64 i', .int .i64 g', .int .i64 m', .int .i64 x', .int .i64 y', .int .i64 vx', .int .i64 vy', .int .i64 hp', .int .i64 pw', .int .i64 lf', .int .i64 mask]] w fun e w' => e = .returned (.bool true) ∧ Below w.heap.size w w' := by
  go_enter Try.func10, Try.ntmps10
  go_wp2_with (first | (go_at_call 32; refine (HM0.out _).mono ?_; rintro e w' ⟨rfl, hb⟩; obtain ⟨d, os, rfl⟩ := more_of hb; clear hb) | (go_at_call 33; refine (HMC.out _).mono ?_; rintro e w' ⟨rfl, hb⟩; obtain ⟨d, os, rfl⟩ := more_of hb; clear hb) | (go_at_call 17; refine (awake14 _).mono ?_; rintro e w' ⟨rfl, hb⟩; obtain ⟨d, os, rfl⟩ := more_of hb; clear hb))
  go_ret
  exact ⟨rfl, (by repeat' (first | (with_reducible exact Below.refl _ _) | (with_reducible assumption) | (with_reducible refine below_drewN ?_ _) | (with_reducible refine below_more _ _ _ ?_ ?_) | (with_reducible refine Below.alloc ?_ ?_ _) | (with_reducible refine Below.drew ?_) | (with_reducible refine Below.setCell ?_ ?_ _) | go_size))⟩

set_option maxRecDepth 100000 in
set_option maxHeartbeats 8000000 in
theorem walk_false_false (s i g m x y vx vy hp pw lf n ck cs ci cg s' i' g' m' x' y' vx' vy' hp' pw' lf' mask : Int) (w : World) (Xs Xi Xg Xm Xx Xy Xvx Xvy Xhp Xpw Xlf Ys Yi Yg Ym Yx Yy Yvx Yvy Yhp Ypw Ylf Zs Zi Zg Zm Zx Zy Zvx Zvy Zhp Zpw Zlf : Int) (has : Bool)
    (HM0 : Hid (∀ W : World, Calls Try.prog 32 #[.agg #[.int .i64 s, .int .i64 i, .int .i64 g, .int .i64 m, .int .i64 x, .int .i64 y, .int .i64 vx, .int .i64 vy, .int .i64 hp, .int .i64 pw, .int .i64 lf]] W fun e w' => e = .returned (.bool true) ∧ Below W.heap.size W w')) (HMC : Hid (∀ W : World, Calls Try.prog 33 #[.agg #[.int .i64 ck, .int .i64 cs, .int .i64 ci, .int .i64 cg, .int .i64 s', .int .i64 i', .int .i64 g', .int .i64 m', .int .i64 x', .int .i64 y', .int .i64 vx', .int .i64 vy', .int .i64 hp', .int .i64 pw', .int .i64 lf', .int .i64 mask]] W fun e w' => e = .returned (.bool true) ∧ Below W.heap.size W w')) (HHU : Hid (∀ W : World, Calls Try.prog 18 #[.agg #[.int .i64 s, .int .i64 i, .int .i64 g, .int .i64 m, .int .i64 x, .int .i64 y, .int .i64 vx, .int .i64 vy, .int .i64 hp, .int .i64 pw, .int .i64 lf], .int .i64 n] W fun e w' => e = .returned (.tuple #[.agg #[.int .i64 Xs, .int .i64 Xi, .int .i64 Xg, .int .i64 Xm, .int .i64 Xx, .int .i64 Xy, .int .i64 Xvx, .int .i64 Xvy, .int .i64 Xhp, .int .i64 Xpw, .int .i64 Xlf], .bool false]) ∧ Below W.heap.size W w')) (HAG : Hid (∀ W : World, Calls Try.prog 20 #[.agg #[.int .i64 s, .int .i64 i, .int .i64 g, .int .i64 m, .int .i64 x, .int .i64 y, .int .i64 vx, .int .i64 vy, .int .i64 hp, .int .i64 pw, .int .i64 lf]] W fun e w' => e = .returned (.tuple #[.agg #[.int .i64 Ys, .int .i64 Yi, .int .i64 Yg, .int .i64 Ym, .int .i64 Yx, .int .i64 Yy, .int .i64 Yvx, .int .i64 Yvy, .int .i64 Yhp, .int .i64 Ypw, .int .i64 Ylf], .bool false]) ∧ Below W.heap.size W w')) (HOB : Hid (∀ W : World, Calls Try.prog 30 #[.agg #[.int .i64 s, .int .i64 i, .int .i64 g, .int .i64 m, .int .i64 x, .int .i64 y, .int .i64 vx, .int .i64 vy, .int .i64 hp, .int .i64 pw, .int .i64 lf], .agg #[.int .i64 ck, .int .i64 s, .int .i64 i, .int .i64 g, .int .i64 s', .int .i64 i', .int .i64 g', .int .i64 m', .int .i64 x', .int .i64 y', .int .i64 vx', .int .i64 vy', .int .i64 hp', .int .i64 pw', .int .i64 lf', .int .i64 mask]] W fun e w' => e = .returned (.tuple #[.agg #[.int .i64 Zs, .int .i64 Zi, .int .i64 Zg, .int .i64 Zm, .int .i64 Zx, .int .i64 Zy, .int .i64 Zvx, .int .i64 Zvy, .int .i64 Zhp, .int .i64 Zpw, .int .i64 Zlf], .bool has]) ∧ Below W.heap.size W w')) (HM1 : Hid (∀ W : World, Calls Try.prog 32 #[.agg #[.int .i64 Xs, .int .i64 Xi, .int .i64 Xg, .int .i64 Xm, .int .i64 Xx, .int .i64 Xy, .int .i64 Xvx, .int .i64 Xvy, .int .i64 Xhp, .int .i64 Xpw, .int .i64 Xlf]] W fun e w' => e = .returned (.bool false) ∧ Below W.heap.size W w')) (HM2 : Hid (∀ W : World, Calls Try.prog 32 #[.agg #[.int .i64 Ys, .int .i64 Yi, .int .i64 Yg, .int .i64 Ym, .int .i64 Yx, .int .i64 Yy, .int .i64 Yvx, .int .i64 Yvy, .int .i64 Yhp, .int .i64 Ypw, .int .i64 Ylf]] W fun e w' => e = .returned (.bool false) ∧ Below W.heap.size W w')) (HM3 : Hid (∀ W : World, Calls Try.prog 32 #[.agg #[.int .i64 Zs, .int .i64 Zi, .int .i64 Zg, .int .i64 Zm, .int .i64 Zx, .int .i64 Zy, .int .i64 Zvx, .int .i64 Zvy, .int .i64 Zhp, .int .i64 Zpw, .int .i64 Zlf]] W fun e w' => e = .returned (.bool has) ∧ Below W.heap.size W w')) :
    Calls Try.prog 10 #[.agg #[.int .i64 s, .int .i64 i, .int .i64 g, .int .i64 m, .int .i64 x, .int .i64 y, .int .i64 vx, .int .i64 vy, .int .i64 hp, .int .i64 pw, .int .i64 lf], .int .i64 n, .agg #[.int .i64 ck, .int .i64 cs, .int .i64 ci, .int .i64 cg, .int .i64 s', .int .i64 i', .int .i64 g', .int .i64 m', .int .i64 x', .int .i64 y', .int .i64 vx', .int .i64 vy', .int .i64 hp', .int .i64 pw', .int .i64 lf', .int .i64 mask]] w fun e w' => e = .returned (.bool true) ∧ Below w.heap.size w w' := by
  go_enter Try.func10, Try.ntmps10
  go_wp2_with (first | (go_at_call 18; refine (HHU.out _).mono ?_; rintro e w' ⟨rfl, hb⟩; obtain ⟨d, os, rfl⟩ := more_of hb; clear hb) | (go_at_call 20; refine (HAG.out _).mono ?_; rintro e w' ⟨rfl, hb⟩; obtain ⟨d, os, rfl⟩ := more_of hb; clear hb) | (go_at_call 30; refine (HOB.out _).mono ?_; rintro e w' ⟨rfl, hb⟩; obtain ⟨d, os, rfl⟩ := more_of hb; clear hb) | (go_at_call 33; refine (HMC.out _).mono ?_; rintro e w' ⟨rfl, hb⟩; obtain ⟨d, os, rfl⟩ := more_of hb; clear hb) | (go_at_call 17; refine (awake14 _).mono ?_; rintro e w' ⟨rfl, hb⟩; obtain ⟨d, os, rfl⟩ := more_of hb; clear hb) | (go_at_call 32; (first | ((with_reducible refine (HM0.out _).mono ?_); rintro e w' ⟨rfl, hb⟩; obtain ⟨d, os, rfl⟩ := more_of hb; clear hb))) | (go_at_call 32; (first | ((with_reducible refine (HM1.out _).mono ?_); rintro e w' ⟨rfl, hb⟩; obtain ⟨d, os, rfl⟩ := more_of hb; clear hb))) | (go_at_call 32; (first | ((with_reducible refine (HM2.out _).mono ?_); rintro e w' ⟨rfl, hb⟩; obtain ⟨d, os, rfl⟩ := more_of hb; clear hb))) | (go_at_call 32; (first | ((with_reducible refine (HM3.out _).mono ?_); rintro e w' ⟨rfl, hb⟩; obtain ⟨d, os, rfl⟩ := more_of hb; clear hb))))
  go_ret
  exact ⟨by simp, (by repeat' (first | (with_reducible exact Below.refl _ _) | (with_reducible assumption) | (with_reducible refine below_drewN ?_ _) | (with_reducible refine below_more _ _ _ ?_ ?_) | (with_reducible refine Below.alloc ?_ ?_ _) | (with_reducible refine Below.drew ?_) | (with_reducible refine Below.setCell ?_ ?_ _) | go_size))⟩

set_option maxRecDepth 100000 in
set_option maxHeartbeats 8000000 in
theorem walk_false_true (s i g m x y vx vy hp pw lf n ck cs ci cg s' i' g' m' x' y' vx' vy' hp' pw' lf' mask : Int) (w : World) (Xs Xi Xg Xm Xx Xy Xvx Xvy Xhp Xpw Xlf Ys Yi Yg Ym Yx Yy Yvx Yvy Yhp Ypw Ylf Zs Zi Zg Zm Zx Zy Zvx Zvy Zhp Zpw Zlf : Int) (has : Bool)
    (HM0 : Hid (∀ W : World, Calls Try.prog 32 #[.agg #[.int .i64 s, .int .i64 i, .int .i64 g, .int .i64 m, .int .i64 x, .int .i64 y, .int .i64 vx, .int .i64 vy, .int .i64 hp, .int .i64 pw, .int .i64 lf]] W fun e w' => e = .returned (.bool true) ∧ Below W.heap.size W w')) (HMC : Hid (∀ W : World, Calls Try.prog 33 #[.agg #[.int .i64 ck, .int .i64 cs, .int .i64 ci, .int .i64 cg, .int .i64 s', .int .i64 i', .int .i64 g', .int .i64 m', .int .i64 x', .int .i64 y', .int .i64 vx', .int .i64 vy', .int .i64 hp', .int .i64 pw', .int .i64 lf', .int .i64 mask]] W fun e w' => e = .returned (.bool true) ∧ Below W.heap.size W w')) (HHU : Hid (∀ W : World, Calls Try.prog 18 #[.agg #[.int .i64 s, .int .i64 i, .int .i64 g, .int .i64 m, .int .i64 x, .int .i64 y, .int .i64 vx, .int .i64 vy, .int .i64 hp, .int .i64 pw, .int .i64 lf], .int .i64 n] W fun e w' => e = .returned (.tuple #[.agg #[.int .i64 Xs, .int .i64 Xi, .int .i64 Xg, .int .i64 Xm, .int .i64 Xx, .int .i64 Xy, .int .i64 Xvx, .int .i64 Xvy, .int .i64 Xhp, .int .i64 Xpw, .int .i64 Xlf], .bool false]) ∧ Below W.heap.size W w')) (HAG : Hid (∀ W : World, Calls Try.prog 20 #[.agg #[.int .i64 s, .int .i64 i, .int .i64 g, .int .i64 m, .int .i64 x, .int .i64 y, .int .i64 vx, .int .i64 vy, .int .i64 hp, .int .i64 pw, .int .i64 lf]] W fun e w' => e = .returned (.tuple #[.agg #[.int .i64 Ys, .int .i64 Yi, .int .i64 Yg, .int .i64 Ym, .int .i64 Yx, .int .i64 Yy, .int .i64 Yvx, .int .i64 Yvy, .int .i64 Yhp, .int .i64 Ypw, .int .i64 Ylf], .bool true]) ∧ Below W.heap.size W w')) (HOB : Hid (∀ W : World, Calls Try.prog 30 #[.agg #[.int .i64 s, .int .i64 i, .int .i64 g, .int .i64 m, .int .i64 x, .int .i64 y, .int .i64 vx, .int .i64 vy, .int .i64 hp, .int .i64 pw, .int .i64 lf], .agg #[.int .i64 ck, .int .i64 s, .int .i64 i, .int .i64 g, .int .i64 s', .int .i64 i', .int .i64 g', .int .i64 m', .int .i64 x', .int .i64 y', .int .i64 vx', .int .i64 vy', .int .i64 hp', .int .i64 pw', .int .i64 lf', .int .i64 mask]] W fun e w' => e = .returned (.tuple #[.agg #[.int .i64 Zs, .int .i64 Zi, .int .i64 Zg, .int .i64 Zm, .int .i64 Zx, .int .i64 Zy, .int .i64 Zvx, .int .i64 Zvy, .int .i64 Zhp, .int .i64 Zpw, .int .i64 Zlf], .bool has]) ∧ Below W.heap.size W w')) (HM1 : Hid (∀ W : World, Calls Try.prog 32 #[.agg #[.int .i64 Xs, .int .i64 Xi, .int .i64 Xg, .int .i64 Xm, .int .i64 Xx, .int .i64 Xy, .int .i64 Xvx, .int .i64 Xvy, .int .i64 Xhp, .int .i64 Xpw, .int .i64 Xlf]] W fun e w' => e = .returned (.bool false) ∧ Below W.heap.size W w')) (HM2 : Hid (∀ W : World, Calls Try.prog 32 #[.agg #[.int .i64 Ys, .int .i64 Yi, .int .i64 Yg, .int .i64 Ym, .int .i64 Yx, .int .i64 Yy, .int .i64 Yvx, .int .i64 Yvy, .int .i64 Yhp, .int .i64 Ypw, .int .i64 Ylf]] W fun e w' => e = .returned (.bool true) ∧ Below W.heap.size W w')) (HM3 : Hid (∀ W : World, Calls Try.prog 32 #[.agg #[.int .i64 Zs, .int .i64 Zi, .int .i64 Zg, .int .i64 Zm, .int .i64 Zx, .int .i64 Zy, .int .i64 Zvx, .int .i64 Zvy, .int .i64 Zhp, .int .i64 Zpw, .int .i64 Zlf]] W fun e w' => e = .returned (.bool has) ∧ Below W.heap.size W w')) (y2 : Ylf ≤ lf) :
    Calls Try.prog 10 #[.agg #[.int .i64 s, .int .i64 i, .int .i64 g, .int .i64 m, .int .i64 x, .int .i64 y, .int .i64 vx, .int .i64 vy, .int .i64 hp, .int .i64 pw, .int .i64 lf], .int .i64 n, .agg #[.int .i64 ck, .int .i64 cs, .int .i64 ci, .int .i64 cg, .int .i64 s', .int .i64 i', .int .i64 g', .int .i64 m', .int .i64 x', .int .i64 y', .int .i64 vx', .int .i64 vy', .int .i64 hp', .int .i64 pw', .int .i64 lf', .int .i64 mask]] w fun e w' => e = .returned (.bool true) ∧ Below w.heap.size w w' := by
  go_enter Try.func10, Try.ntmps10
  go_wp2_with (first | (go_at_call 18; refine (HHU.out _).mono ?_; rintro e w' ⟨rfl, hb⟩; obtain ⟨d, os, rfl⟩ := more_of hb; clear hb) | (go_at_call 20; refine (HAG.out _).mono ?_; rintro e w' ⟨rfl, hb⟩; obtain ⟨d, os, rfl⟩ := more_of hb; clear hb) | (go_at_call 30; refine (HOB.out _).mono ?_; rintro e w' ⟨rfl, hb⟩; obtain ⟨d, os, rfl⟩ := more_of hb; clear hb) | (go_at_call 33; refine (HMC.out _).mono ?_; rintro e w' ⟨rfl, hb⟩; obtain ⟨d, os, rfl⟩ := more_of hb; clear hb) | (go_at_call 17; refine (awake14 _).mono ?_; rintro e w' ⟨rfl, hb⟩; obtain ⟨d, os, rfl⟩ := more_of hb; clear hb) | (go_at_call 32; (first | ((with_reducible refine (HM0.out _).mono ?_); rintro e w' ⟨rfl, hb⟩; obtain ⟨d, os, rfl⟩ := more_of hb; clear hb))) | (go_at_call 32; (first | ((with_reducible refine (HM1.out _).mono ?_); rintro e w' ⟨rfl, hb⟩; obtain ⟨d, os, rfl⟩ := more_of hb; clear hb))) | (go_at_call 32; (first | ((with_reducible refine (HM2.out _).mono ?_); rintro e w' ⟨rfl, hb⟩; obtain ⟨d, os, rfl⟩ := more_of hb; clear hb))) | (go_at_call 32; (first | ((with_reducible refine (HM3.out _).mono ?_); rintro e w' ⟨rfl, hb⟩; obtain ⟨d, os, rfl⟩ := more_of hb; clear hb))))
  go_ret
  exact ⟨by simp, (by repeat' (first | (with_reducible exact Below.refl _ _) | (with_reducible assumption) | (with_reducible refine below_drewN ?_ _) | (with_reducible refine below_more _ _ _ ?_ ?_) | (with_reducible refine Below.alloc ?_ ?_ _) | (with_reducible refine Below.drew ?_) | (with_reducible refine Below.setCell ?_ ?_ _) | go_size))⟩

set_option maxRecDepth 100000 in
set_option maxHeartbeats 8000000 in
theorem walk_true_false (s i g m x y vx vy hp pw lf n ck cs ci cg s' i' g' m' x' y' vx' vy' hp' pw' lf' mask : Int) (w : World) (Xs Xi Xg Xm Xx Xy Xvx Xvy Xhp Xpw Xlf Ys Yi Yg Ym Yx Yy Yvx Yvy Yhp Ypw Ylf Zs Zi Zg Zm Zx Zy Zvx Zvy Zhp Zpw Zlf : Int) (has : Bool)
    (HM0 : Hid (∀ W : World, Calls Try.prog 32 #[.agg #[.int .i64 s, .int .i64 i, .int .i64 g, .int .i64 m, .int .i64 x, .int .i64 y, .int .i64 vx, .int .i64 vy, .int .i64 hp, .int .i64 pw, .int .i64 lf]] W fun e w' => e = .returned (.bool true) ∧ Below W.heap.size W w')) (HMC : Hid (∀ W : World, Calls Try.prog 33 #[.agg #[.int .i64 ck, .int .i64 cs, .int .i64 ci, .int .i64 cg, .int .i64 s', .int .i64 i', .int .i64 g', .int .i64 m', .int .i64 x', .int .i64 y', .int .i64 vx', .int .i64 vy', .int .i64 hp', .int .i64 pw', .int .i64 lf', .int .i64 mask]] W fun e w' => e = .returned (.bool true) ∧ Below W.heap.size W w')) (HHU : Hid (∀ W : World, Calls Try.prog 18 #[.agg #[.int .i64 s, .int .i64 i, .int .i64 g, .int .i64 m, .int .i64 x, .int .i64 y, .int .i64 vx, .int .i64 vy, .int .i64 hp, .int .i64 pw, .int .i64 lf], .int .i64 n] W fun e w' => e = .returned (.tuple #[.agg #[.int .i64 Xs, .int .i64 Xi, .int .i64 Xg, .int .i64 Xm, .int .i64 Xx, .int .i64 Xy, .int .i64 Xvx, .int .i64 Xvy, .int .i64 Xhp, .int .i64 Xpw, .int .i64 Xlf], .bool true]) ∧ Below W.heap.size W w')) (HAG : Hid (∀ W : World, Calls Try.prog 20 #[.agg #[.int .i64 s, .int .i64 i, .int .i64 g, .int .i64 m, .int .i64 x, .int .i64 y, .int .i64 vx, .int .i64 vy, .int .i64 hp, .int .i64 pw, .int .i64 lf]] W fun e w' => e = .returned (.tuple #[.agg #[.int .i64 Ys, .int .i64 Yi, .int .i64 Yg, .int .i64 Ym, .int .i64 Yx, .int .i64 Yy, .int .i64 Yvx, .int .i64 Yvy, .int .i64 Yhp, .int .i64 Ypw, .int .i64 Ylf], .bool false]) ∧ Below W.heap.size W w')) (HOB : Hid (∀ W : World, Calls Try.prog 30 #[.agg #[.int .i64 s, .int .i64 i, .int .i64 g, .int .i64 m, .int .i64 x, .int .i64 y, .int .i64 vx, .int .i64 vy, .int .i64 hp, .int .i64 pw, .int .i64 lf], .agg #[.int .i64 ck, .int .i64 s, .int .i64 i, .int .i64 g, .int .i64 s', .int .i64 i', .int .i64 g', .int .i64 m', .int .i64 x', .int .i64 y', .int .i64 vx', .int .i64 vy', .int .i64 hp', .int .i64 pw', .int .i64 lf', .int .i64 mask]] W fun e w' => e = .returned (.tuple #[.agg #[.int .i64 Zs, .int .i64 Zi, .int .i64 Zg, .int .i64 Zm, .int .i64 Zx, .int .i64 Zy, .int .i64 Zvx, .int .i64 Zvy, .int .i64 Zhp, .int .i64 Zpw, .int .i64 Zlf], .bool has]) ∧ Below W.heap.size W w')) (HM1 : Hid (∀ W : World, Calls Try.prog 32 #[.agg #[.int .i64 Xs, .int .i64 Xi, .int .i64 Xg, .int .i64 Xm, .int .i64 Xx, .int .i64 Xy, .int .i64 Xvx, .int .i64 Xvy, .int .i64 Xhp, .int .i64 Xpw, .int .i64 Xlf]] W fun e w' => e = .returned (.bool true) ∧ Below W.heap.size W w')) (HM2 : Hid (∀ W : World, Calls Try.prog 32 #[.agg #[.int .i64 Ys, .int .i64 Yi, .int .i64 Yg, .int .i64 Ym, .int .i64 Yx, .int .i64 Yy, .int .i64 Yvx, .int .i64 Yvy, .int .i64 Yhp, .int .i64 Ypw, .int .i64 Ylf]] W fun e w' => e = .returned (.bool false) ∧ Below W.heap.size W w')) (HM3 : Hid (∀ W : World, Calls Try.prog 32 #[.agg #[.int .i64 Zs, .int .i64 Zi, .int .i64 Zg, .int .i64 Zm, .int .i64 Zx, .int .i64 Zy, .int .i64 Zvx, .int .i64 Zvy, .int .i64 Zhp, .int .i64 Zpw, .int .i64 Zlf]] W fun e w' => e = .returned (.bool has) ∧ Below W.heap.size W w')) (x2 : Xhp ≤ hp) :
    Calls Try.prog 10 #[.agg #[.int .i64 s, .int .i64 i, .int .i64 g, .int .i64 m, .int .i64 x, .int .i64 y, .int .i64 vx, .int .i64 vy, .int .i64 hp, .int .i64 pw, .int .i64 lf], .int .i64 n, .agg #[.int .i64 ck, .int .i64 cs, .int .i64 ci, .int .i64 cg, .int .i64 s', .int .i64 i', .int .i64 g', .int .i64 m', .int .i64 x', .int .i64 y', .int .i64 vx', .int .i64 vy', .int .i64 hp', .int .i64 pw', .int .i64 lf', .int .i64 mask]] w fun e w' => e = .returned (.bool true) ∧ Below w.heap.size w w' := by
  go_enter Try.func10, Try.ntmps10
  go_wp2_with (first | (go_at_call 18; refine (HHU.out _).mono ?_; rintro e w' ⟨rfl, hb⟩; obtain ⟨d, os, rfl⟩ := more_of hb; clear hb) | (go_at_call 20; refine (HAG.out _).mono ?_; rintro e w' ⟨rfl, hb⟩; obtain ⟨d, os, rfl⟩ := more_of hb; clear hb) | (go_at_call 30; refine (HOB.out _).mono ?_; rintro e w' ⟨rfl, hb⟩; obtain ⟨d, os, rfl⟩ := more_of hb; clear hb) | (go_at_call 33; refine (HMC.out _).mono ?_; rintro e w' ⟨rfl, hb⟩; obtain ⟨d, os, rfl⟩ := more_of hb; clear hb) | (go_at_call 17; refine (awake14 _).mono ?_; rintro e w' ⟨rfl, hb⟩; obtain ⟨d, os, rfl⟩ := more_of hb; clear hb) | (go_at_call 32; (first | ((with_reducible refine (HM0.out _).mono ?_); rintro e w' ⟨rfl, hb⟩; obtain ⟨d, os, rfl⟩ := more_of hb; clear hb))) | (go_at_call 32; (first | ((with_reducible refine (HM1.out _).mono ?_); rintro e w' ⟨rfl, hb⟩; obtain ⟨d, os, rfl⟩ := more_of hb; clear hb))) | (go_at_call 32; (first | ((with_reducible refine (HM2.out _).mono ?_); rintro e w' ⟨rfl, hb⟩; obtain ⟨d, os, rfl⟩ := more_of hb; clear hb))) | (go_at_call 32; (first | ((with_reducible refine (HM3.out _).mono ?_); rintro e w' ⟨rfl, hb⟩; obtain ⟨d, os, rfl⟩ := more_of hb; clear hb))))
  go_ret
  exact ⟨by simp, (by repeat' (first | (with_reducible exact Below.refl _ _) | (with_reducible assumption) | (with_reducible refine below_drewN ?_ _) | (with_reducible refine below_more _ _ _ ?_ ?_) | (with_reducible refine Below.alloc ?_ ?_ _) | (with_reducible refine Below.drew ?_) | (with_reducible refine Below.setCell ?_ ?_ _) | go_size))⟩

set_option maxRecDepth 100000 in
set_option maxHeartbeats 8000000 in
theorem walk_true_true (s i g m x y vx vy hp pw lf n ck cs ci cg s' i' g' m' x' y' vx' vy' hp' pw' lf' mask : Int) (w : World) (Xs Xi Xg Xm Xx Xy Xvx Xvy Xhp Xpw Xlf Ys Yi Yg Ym Yx Yy Yvx Yvy Yhp Ypw Ylf Zs Zi Zg Zm Zx Zy Zvx Zvy Zhp Zpw Zlf : Int) (has : Bool)
    (HM0 : Hid (∀ W : World, Calls Try.prog 32 #[.agg #[.int .i64 s, .int .i64 i, .int .i64 g, .int .i64 m, .int .i64 x, .int .i64 y, .int .i64 vx, .int .i64 vy, .int .i64 hp, .int .i64 pw, .int .i64 lf]] W fun e w' => e = .returned (.bool true) ∧ Below W.heap.size W w')) (HMC : Hid (∀ W : World, Calls Try.prog 33 #[.agg #[.int .i64 ck, .int .i64 cs, .int .i64 ci, .int .i64 cg, .int .i64 s', .int .i64 i', .int .i64 g', .int .i64 m', .int .i64 x', .int .i64 y', .int .i64 vx', .int .i64 vy', .int .i64 hp', .int .i64 pw', .int .i64 lf', .int .i64 mask]] W fun e w' => e = .returned (.bool true) ∧ Below W.heap.size W w')) (HHU : Hid (∀ W : World, Calls Try.prog 18 #[.agg #[.int .i64 s, .int .i64 i, .int .i64 g, .int .i64 m, .int .i64 x, .int .i64 y, .int .i64 vx, .int .i64 vy, .int .i64 hp, .int .i64 pw, .int .i64 lf], .int .i64 n] W fun e w' => e = .returned (.tuple #[.agg #[.int .i64 Xs, .int .i64 Xi, .int .i64 Xg, .int .i64 Xm, .int .i64 Xx, .int .i64 Xy, .int .i64 Xvx, .int .i64 Xvy, .int .i64 Xhp, .int .i64 Xpw, .int .i64 Xlf], .bool true]) ∧ Below W.heap.size W w')) (HAG : Hid (∀ W : World, Calls Try.prog 20 #[.agg #[.int .i64 s, .int .i64 i, .int .i64 g, .int .i64 m, .int .i64 x, .int .i64 y, .int .i64 vx, .int .i64 vy, .int .i64 hp, .int .i64 pw, .int .i64 lf]] W fun e w' => e = .returned (.tuple #[.agg #[.int .i64 Ys, .int .i64 Yi, .int .i64 Yg, .int .i64 Ym, .int .i64 Yx, .int .i64 Yy, .int .i64 Yvx, .int .i64 Yvy, .int .i64 Yhp, .int .i64 Ypw, .int .i64 Ylf], .bool true]) ∧ Below W.heap.size W w')) (HOB : Hid (∀ W : World, Calls Try.prog 30 #[.agg #[.int .i64 s, .int .i64 i, .int .i64 g, .int .i64 m, .int .i64 x, .int .i64 y, .int .i64 vx, .int .i64 vy, .int .i64 hp, .int .i64 pw, .int .i64 lf], .agg #[.int .i64 ck, .int .i64 s, .int .i64 i, .int .i64 g, .int .i64 s', .int .i64 i', .int .i64 g', .int .i64 m', .int .i64 x', .int .i64 y', .int .i64 vx', .int .i64 vy', .int .i64 hp', .int .i64 pw', .int .i64 lf', .int .i64 mask]] W fun e w' => e = .returned (.tuple #[.agg #[.int .i64 Zs, .int .i64 Zi, .int .i64 Zg, .int .i64 Zm, .int .i64 Zx, .int .i64 Zy, .int .i64 Zvx, .int .i64 Zvy, .int .i64 Zhp, .int .i64 Zpw, .int .i64 Zlf], .bool has]) ∧ Below W.heap.size W w')) (HM1 : Hid (∀ W : World, Calls Try.prog 32 #[.agg #[.int .i64 Xs, .int .i64 Xi, .int .i64 Xg, .int .i64 Xm, .int .i64 Xx, .int .i64 Xy, .int .i64 Xvx, .int .i64 Xvy, .int .i64 Xhp, .int .i64 Xpw, .int .i64 Xlf]] W fun e w' => e = .returned (.bool true) ∧ Below W.heap.size W w')) (HM2 : Hid (∀ W : World, Calls Try.prog 32 #[.agg #[.int .i64 Ys, .int .i64 Yi, .int .i64 Yg, .int .i64 Ym, .int .i64 Yx, .int .i64 Yy, .int .i64 Yvx, .int .i64 Yvy, .int .i64 Yhp, .int .i64 Ypw, .int .i64 Ylf]] W fun e w' => e = .returned (.bool true) ∧ Below W.heap.size W w')) (HM3 : Hid (∀ W : World, Calls Try.prog 32 #[.agg #[.int .i64 Zs, .int .i64 Zi, .int .i64 Zg, .int .i64 Zm, .int .i64 Zx, .int .i64 Zy, .int .i64 Zvx, .int .i64 Zvy, .int .i64 Zhp, .int .i64 Zpw, .int .i64 Zlf]] W fun e w' => e = .returned (.bool has) ∧ Below W.heap.size W w')) (x2 : Xhp ≤ hp) (y2 : Ylf ≤ lf) :
    Calls Try.prog 10 #[.agg #[.int .i64 s, .int .i64 i, .int .i64 g, .int .i64 m, .int .i64 x, .int .i64 y, .int .i64 vx, .int .i64 vy, .int .i64 hp, .int .i64 pw, .int .i64 lf], .int .i64 n, .agg #[.int .i64 ck, .int .i64 cs, .int .i64 ci, .int .i64 cg, .int .i64 s', .int .i64 i', .int .i64 g', .int .i64 m', .int .i64 x', .int .i64 y', .int .i64 vx', .int .i64 vy', .int .i64 hp', .int .i64 pw', .int .i64 lf', .int .i64 mask]] w fun e w' => e = .returned (.bool true) ∧ Below w.heap.size w w' := by
  go_enter Try.func10, Try.ntmps10
  go_wp2_with (first | (go_at_call 18; refine (HHU.out _).mono ?_; rintro e w' ⟨rfl, hb⟩; obtain ⟨d, os, rfl⟩ := more_of hb; clear hb) | (go_at_call 20; refine (HAG.out _).mono ?_; rintro e w' ⟨rfl, hb⟩; obtain ⟨d, os, rfl⟩ := more_of hb; clear hb) | (go_at_call 30; refine (HOB.out _).mono ?_; rintro e w' ⟨rfl, hb⟩; obtain ⟨d, os, rfl⟩ := more_of hb; clear hb) | (go_at_call 33; refine (HMC.out _).mono ?_; rintro e w' ⟨rfl, hb⟩; obtain ⟨d, os, rfl⟩ := more_of hb; clear hb) | (go_at_call 17; refine (awake14 _).mono ?_; rintro e w' ⟨rfl, hb⟩; obtain ⟨d, os, rfl⟩ := more_of hb; clear hb) | (go_at_call 32; (first | ((with_reducible refine (HM0.out _).mono ?_); rintro e w' ⟨rfl, hb⟩; obtain ⟨d, os, rfl⟩ := more_of hb; clear hb))) | (go_at_call 32; (first | ((with_reducible refine (HM1.out _).mono ?_); rintro e w' ⟨rfl, hb⟩; obtain ⟨d, os, rfl⟩ := more_of hb; clear hb))) | (go_at_call 32; (first | ((with_reducible refine (HM2.out _).mono ?_); rintro e w' ⟨rfl, hb⟩; obtain ⟨d, os, rfl⟩ := more_of hb; clear hb))) | (go_at_call 32; (first | ((with_reducible refine (HM3.out _).mono ?_); rintro e w' ⟨rfl, hb⟩; obtain ⟨d, os, rfl⟩ := more_of hb; clear hb))))
  go_ret
  exact ⟨by simp, (by repeat' (first | (with_reducible exact Below.refl _ _) | (with_reducible assumption) | (with_reducible refine below_drewN ?_ _) | (with_reducible refine below_more _ _ _ ?_ ?_) | (with_reducible refine Below.alloc ?_ ?_ _) | (with_reducible refine Below.drew ?_) | (with_reducible refine Below.setCell ?_ ?_ _) | go_size))⟩


set_option maxHeartbeats 8000000 in
theorem walk (s i g m x y vx vy hp pw lf n ck cs ci cg s' i' g' m' x' y' vx' vy' hp' pw' lf' mask : Int) (w : World) (hm : (-9223372036854775808 ≤ m ∧ m ≤ 9223372036854775807)) (hh : (-9223372036854775808 ≤ hp ∧ hp ≤ 9223372036854775807)) (hl : (-9223372036854775808 ≤ lf ∧ lf ≤ 9223372036854775807)) (hm' : (-9223372036854775808 ≤ m' ∧ m' ≤ 9223372036854775807)) : Calls Try.prog 10 #[.agg #[.int .i64 s, .int .i64 i, .int .i64 g, .int .i64 m, .int .i64 x, .int .i64 y, .int .i64 vx, .int .i64 vy, .int .i64 hp, .int .i64 pw, .int .i64 lf], .int .i64 n, .agg #[.int .i64 ck, .int .i64 cs, .int .i64 ci, .int .i64 cg, .int .i64 s', .int .i64 i', .int .i64 g', .int .i64 m', .int .i64 x', .int .i64 y', .int .i64 vx', .int .i64 vy', .int .i64 hp', .int .i64 pw', .int .i64 lf', .int .i64 mask]] w fun e w' => e = .returned (.bool true) ∧ Below w.heap.size w w' := by
  have HM0 := fun W => rMay_s s i g m x y vx vy hp pw lf W hm
  have HMC := fun W => rMayCmd_s ck cs ci cg s' i' g' m' x' y' vx' vy' hp' pw' lf' mask W hm'
  cases hc1 : checkB ⟨s, i, g, m, x, y, vx, vy, hp, pw, lf⟩ with
  | false =>
    rw [hc1] at HM0
    exact walk_no1 s i g m x y vx vy hp pw lf n ck cs ci cg s' i' g' m' x' y' vx' vy' hp' pw' lf' mask w HM0
  | true =>
    rw [hc1] at HM0
    cases hc2 : cmdB (⟨ck, cs, ci, cg, ⟨s', i', g', m', x', y', vx', vy', hp', pw', lf'⟩, mask⟩ : Cm) with
    | false =>
      rw [hc2] at HMC
      exact walk_no2 s i g m x y vx vy hp pw lf n ck cs ci cg s' i' g' m' x' y' vx' vy' hp' pw' lf' mask w HM0 HMC
    | true =>
      rw [hc2] at HMC
      have x1 := hurt_may ⟨s, i, g, m, x, y, vx, vy, hp, pw, lf⟩ n hc1
      have x2 := hurt_le ⟨s, i, g, m, x, y, vx, vy, hp, pw, lf⟩ n
      have x3 := i64_hurt ⟨s, i, g, m, x, y, vx, vy, hp, pw, lf⟩ n hm
      have y1 := age_may ⟨s, i, g, m, x, y, vx, vy, hp, pw, lf⟩ hc1
      have y2 := age_le ⟨s, i, g, m, x, y, vx, vy, hp, pw, lf⟩
      have y3 := i64_age ⟨s, i, g, m, x, y, vx, vy, hp, pw, lf⟩ hm
      have z1 := obey_may ⟨s, i, g, m, x, y, vx, vy, hp, pw, lf⟩ (⟨ck, cs, ci, cg, ⟨s', i', g', m', x', y', vx', vy', hp', pw', lf'⟩, mask⟩ : Cm) hc1 hc2
      have z3 := i64_obey ⟨s, i, g, m, x, y, vx, vy, hp, pw, lf⟩ (⟨ck, s, i, g, ⟨s', i', g', m', x', y', vx', vy', hp', pw', lf'⟩, mask⟩ : Cm) hm
      simp only at z1 x2 y2
      have HHU := fun W => hurt_any s i g m x y vx vy hp pw lf n W hh
      have HAG := fun W => age_any s i g m x y vx vy hp pw lf W hl
      have HOB := fun W => obey_any s i g m x y vx vy hp pw lf ck s i g s' i' g' m' x' y' vx' vy' hp' pw' lf' mask W
      generalize hurtF ⟨s, i, g, m, x, y, vx, vy, hp, pw, lf⟩ n = hx at *
      generalize ageF ⟨s, i, g, m, x, y, vx, vy, hp, pw, lf⟩ = hy at *
      generalize obeyF ⟨s, i, g, m, x, y, vx, vy, hp, pw, lf⟩ (⟨ck, s, i, g, ⟨s', i', g', m', x', y', vx', vy', hp', pw', lf'⟩, mask⟩ : Cm) = hz at *
      obtain ⟨⟨Xs, Xi, Xg, Xm, Xx, Xy, Xvx, Xvy, Xhp, Xpw, Xlf⟩, ok⟩ := hx
      obtain ⟨⟨Ys, Yi, Yg, Ym, Yx, Yy, Yvx, Yvy, Yhp, Ypw, Ylf⟩, is⟩ := hy
      obtain ⟨⟨Zs, Zi, Zg, Zm, Zx, Zy, Zvx, Zvy, Zhp, Zpw, Zlf⟩, has⟩ := hz
      simp only at x1 x2 x3 y1 y2 y3 z1 z3 HHU HAG HOB
      have HM1 := fun W => rMay_s Xs Xi Xg Xm Xx Xy Xvx Xvy Xhp Xpw Xlf W x3
      have HM2 := fun W => rMay_s Ys Yi Yg Ym Yx Yy Yvx Yvy Yhp Ypw Ylf W y3
      have HM3 := fun W => rMay_s Zs Zi Zg Zm Zx Zy Zvx Zvy Zhp Zpw Zlf W z3
      rw [x1] at HM1
      rw [y1] at HM2
      rw [z1] at HM3
      cases ok <;> cases is
      · exact walk_false_false s i g m x y vx vy hp pw lf n ck cs ci cg s' i' g' m' x' y' vx' vy' hp' pw' lf' mask w _ _ _ _ _ _ _ _ _ _ _ _ _ _ _ _ _ _ _ _ _ _ _ _ _ _ _ _ _ _ _ _ _ has HM0 HMC HHU HAG HOB HM1 HM2 HM3
      · exact walk_false_true s i g m x y vx vy hp pw lf n ck cs ci cg s' i' g' m' x' y' vx' vy' hp' pw' lf' mask w _ _ _ _ _ _ _ _ _ _ _ _ _ _ _ _ _ _ _ _ _ _ _ _ _ _ _ _ _ _ _ _ _ has HM0 HMC HHU HAG HOB HM1 HM2 HM3 (y2 rfl)
      · exact walk_true_false s i g m x y vx vy hp pw lf n ck cs ci cg s' i' g' m' x' y' vx' vy' hp' pw' lf' mask w _ _ _ _ _ _ _ _ _ _ _ _ _ _ _ _ _ _ _ _ _ _ _ _ _ _ _ _ _ _ _ _ _ has HM0 HMC HHU HAG HOB HM1 HM2 HM3 (x2 rfl)
      · exact walk_true_true s i g m x y vx vy hp pw lf n ck cs ci cg s' i' g' m' x' y' vx' vy' hp' pw' lf' mask w _ _ _ _ _ _ _ _ _ _ _ _ _ _ _ _ _ _ _ _ _ _ _ _ _ _ _ _ _ _ _ _ _ has HM0 HMC HHU HAG HOB HM1 HM2 HM3 (x2 rfl) (y2 rfl)

set_option maxRecDepth 100000 in
theorem lifted (os : Os) (started : os.Started) (H : Type) (enc : TypeId × Value → H) :
    ReturnsInHanded {} Try.checked os 10 .any (Rows.systemsMaySpec.pre6 enc Try.prog Try.f10 Rows.systemsMayRow.domain false) (Rows.systemsMaySpec.post enc Try.prog Try.f10 false true false false) := by
  refine returnsInHanded_of_change (C := Try.checked) ownKnob0 started (by kernel_rfl) Try.func10
    (ChangeSpec.witness6 (enc := enc) (C := Try.checked) false ⟨#[], #[.agg #[.int .i64 0, .int .i64 0, .int .i64 0, .int .i64 0, .int .i64 0, .int .i64 0, .int .i64 0, .int .i64 0, .int .i64 0, .int .i64 0, .int .i64 0], .int .i64 0, .agg #[.int .i64 0, .int .i64 0, .int .i64 0, .int .i64 0, .int .i64 0, .int .i64 0, .int .i64 0, .int .i64 0, .int .i64 0, .int .i64 0, .int .i64 0, .int .i64 0, .int .i64 0, .int .i64 0, .int .i64 0, .int .i64 0]], []⟩ 8 (by kernel_rfl) (by kernel_rfl) (by kernel_rfl) (by kernel_rfl)) ?_
  intro W base args ds gs before hval0 hW _ _
  have hval : ∀ (j : Nat) t v, Try.f10.params[j]? = some t → args[j]? = some v → Value.okWide Try.prog W .any base t v := hval0
  have hread : ∀ t ∈ Try.f10.params.toList, Try.prog.readableRec t = true ∧ t < Try.prog.types.size := by
    rw [Try.params10]
    intro t ht
    simp only [List.mem_cons, List.not_mem_nil, or_false] at ht
    rcases ht with rfl | rfl | rfl
    all_goals exact ⟨by kernel_rfl, of_decide_eq_true (by kernel_rfl)⟩
  have hW' := hW
  obtain ⟨p, q, hA0, hV, -, -⟩ := hW'
  have hA : DataW.TrodAll enc Try.prog W 0 (fun _ => true) true Try.f10.params.toList args.toList ds p := hA0
  rw [Try.params10] at hA hval
  obtain ⟨v0, vs0, d0, ds0, p0, q0, hargs, rfl, rfl, h0, r0⟩ := trodAll_cons hA
  obtain ⟨v1, vs1, d1, ds1, p1, q1, rfl, rfl, rfl, h1, r1⟩ := trodAll_cons r0
  obtain ⟨v2, vs2, d2, ds2, p2, q2, rfl, rfl, rfl, h2, r2⟩ := trodAll_cons r1
  obtain ⟨rfl, rfl, rfl⟩ := trodAll_nil r2
  obtain rfl : args = #[v0, v1, v2] := by cases args; simp_all
  obtain ⟨rfl, rfl⟩ := trodVars_none hV
  have k0 := hval 0 34 v0 rfl rfl
  have k1 := hval 1 3 v1 rfl rfl
  have k2 := hval 2 56 v2 rfl rfl
  clear hval hval0 hA0 hV hA
  obtain ⟨c0, fuel0, rfl, g0⟩ := agg_of Try.underlying34 k0 h0
  obtain ⟨s, i, g, m, x, y, vx, vy, hp, pw, lf, rfl, is, ii, ig, im, ix, iy, ivx, ivy, ihp, ipw, ilf⟩ := read_bun g0
  obtain ⟨k, rfl, rfl, rfl, w2⟩ := open_int Try.underlying3 k1 h1
  obtain ⟨c1, fuel1, rfl, g1⟩ := agg_of Try.underlying56 k2 h2
  obtain ⟨c1k, c1s, c1i, c1g, c1es, c1ei, c1eg, c1m, c1x, c1y, c1vx, c1vy, c1hp, c1pw, c1lf, c1mask, rfl, hcm, hck⟩ := read_cmd g1
  exact (walk _ _ _ _ _ _ _ _ _ _ _ _ _ _ _ _ _ _ _ _ _ _ _ _ _ _ _ _ W im ihp ilf hcm).mono fun e W' ⟨he, hb⟩ => ⟨_, he, post_true rfl rfl hread rfl hW hb⟩

/-- SystemsMay: true for every input; the arguments stay. -/
theorem proved : Rows.SystemsMaySaid :=
  OpenClaim.holds_of_wide 10 Try.f10 rfl rfl rfl rfl rfl rfl rfl ⟨rfl, rfl, rfl, rfl, rfl⟩ rfl rfl rfl rfl rfl (by kernel_rfl) Try.func10 (by kernel_rfl)
    (of_decide_eq_true (by kernel_rfl)) (by unfold Func.isWrapper; first | (rw [if_pos (by decide +kernel)]; kernel_rfl) | (rw [if_neg (by decide +kernel)]; exact ⟨rfl, rfl⟩))
    (fun os started H enc _ => lifted os started H enc)
end Go.Proofs.Ytloampfkjldmnaa.systemsMay
