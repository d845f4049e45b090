/-
  The reference's Move; worlds that may be (May of chapter 4). Condition: the world may be.
-/
import Derived.Test.YtcnclcfipabimaaSyD
namespace Go.Proofs.Ytcnclcfipabimaa
open Go.RowKit

theorem more_self (w : World) : more w w.drawn #[] = w := by simp [more]

theorem still_of {P : Program} {f : FuncId} {args : Array Value} {w : World} {v : Value} (h : Calls P f args w fun e w' => e = .returned v ∧ w = w') : Calls P f args w fun e w'' => e = .returned v ∧ w'' = w := h.mono fun _ _ ⟨a, b⟩ => ⟨a, b.symm⟩

set_option maxRecDepth 100000 in
set_option maxHeartbeats 2000000 in
theorem rMove_any (cols rows side radius speed ids queue s i g m x y vx vy hp pw lf : Int) (w : World) (ho : CfgOk ⟨cols, rows, side, radius, speed, ids, queue⟩) (HM : (-9223372036854775808 ≤ m ∧ m ≤ 9223372036854775807)) :
    Calls Try.prog 83 #[.agg #[.int .i64 cols, .int .i64 rows, .int .i64 side, .int .i64 radius, .int .i64 speed, .int .i64 ids, .int .i64 queue], .agg #[.int .i64 s, .int .i64 i, .int .i64 g, .int .i64 m, .int .i64 x, .int .i64 y, .int .i64 vx, .int .i64 vy, .int .i64 hp, .int .i64 pw, .int .i64 lf]] w fun e w' => e = .returned (.agg #[.int .i64 (moveF ⟨cols, rows, side, radius, speed, ids, queue⟩ ⟨s, i, g, m, x, y, vx, vy, hp, pw, lf⟩).s, .int .i64 (moveF ⟨cols, rows, side, radius, speed, ids, queue⟩ ⟨s, i, g, m, x, y, vx, vy, hp, pw, lf⟩).i, .int .i64 (moveF ⟨cols, rows, side, radius, speed, ids, queue⟩ ⟨s, i, g, m, x, y, vx, vy, hp, pw, lf⟩).g, .int .i64 (moveF ⟨cols, rows, side, radius, speed, ids, queue⟩ ⟨s, i, g, m, x, y, vx, vy, hp, pw, lf⟩).m, .int .i64 (moveF ⟨cols, rows, side, radius, speed, ids, queue⟩ ⟨s, i, g, m, x, y, vx, vy, hp, pw, lf⟩).x, .int .i64 (moveF ⟨cols, rows, side, radius, speed, ids, queue⟩ ⟨s, i, g, m, x, y, vx, vy, hp, pw, lf⟩).y, .int .i64 (moveF ⟨cols, rows, side, radius, speed, ids, queue⟩ ⟨s, i, g, m, x, y, vx, vy, hp, pw, lf⟩).vx, .int .i64 (moveF ⟨cols, rows, side, radius, speed, ids, queue⟩ ⟨s, i, g, m, x, y, vx, vy, hp, pw, lf⟩).vy, .int .i64 (moveF ⟨cols, rows, side, radius, speed, ids, queue⟩ ⟨s, i, g, m, x, y, vx, vy, hp, pw, lf⟩).hp, .int .i64 (moveF ⟨cols, rows, side, radius, speed, ids, queue⟩ ⟨s, i, g, m, x, y, vx, vy, hp, pw, lf⟩).pw, .int .i64 (moveF ⟨cols, rows, side, radius, speed, ids, queue⟩ ⟨s, i, g, m, x, y, vx, vy, hp, pw, lf⟩).lf]) ∧ Below w.heap.size w w' := by
  have HB := fun W => bit_any m 2 W HM.1 HM.2 (by omega)
  rw [← hasB_tb2] at HB
  have hs0 := ho.v0
  have hs1 := ho.v1
  have hs2 := ho.s1
  simp only at hs0 hs1 hs2
  have HI := Lib.hid (fun W x y => rIn_k cols rows side radius speed ids queue x y W ho)
  have cx := clampF_lo x; have cx' := clampF_hi x; have cy := clampF_lo y; have cy' := clampF_hi y
  clear ho
  cases hb : hasB m 2 with
  | false =>
    rw [hb] at HB
    have HB := Lib.hid HB
    go_enter Try.func83, Try.ntmps83
    go_wp2_with (first | (go_at_call 96; refine (HB.out _).mono ?_; rintro e w' ⟨rfl, rfl⟩) | (go_at_call 70; refine (HI.out _ _ _).mono ?_; rintro e w' ⟨rfl, hb⟩; obtain ⟨d, os, rfl⟩ := more_of hb; clear hb))
    go_returns
    refine ⟨?_, (by repeat' (first | (with_reducible exact Below.refl _ _) | (with_reducible assumption) | (with_reducible refine below_drewN ?_ _) | (with_reducible refine below_more _ _ _ ?_ ?_) | (with_reducible refine Below.alloc ?_ ?_ _) | (with_reducible refine Below.drew ?_) | (with_reducible refine Below.setCell ?_ ?_ _) | go_size))⟩
    simp [moveF, hb]
  | true =>
    rw [hb] at HB
    have HB := Lib.hid HB
    go_enter Try.func83, Try.ntmps83
    go_wp2_with (first | (go_at_call 96; refine (HB.out _).mono ?_; rintro e w' ⟨rfl, rfl⟩) | (go_at_call 70; refine (HI.out _ _ _).mono ?_; rintro e w' ⟨rfl, hb⟩; obtain ⟨d, os, rfl⟩ := more_of hb; clear hb) | (go_at_call 112; refine (rClamp_any _ _).mono ?_; rintro e w' ⟨rfl, rfl⟩) | (go_at_call 118; refine (near_any _ _ _ (by omega) (by omega)).mono ?_; rintro e w' ⟨rfl, rfl⟩))
    rw [← more_self (((w.alloc _).alloc _).alloc _)]
    generalize World.drawn _ = d0
    generalize (#[] : Array Obj) = os0
    refine wp_region_still_tail 9 (by kernel_rfl) (by kernel_rfl) ?_
    simp only [List.take_succ_cons, List.take_zero, List.drop_succ_cons, List.drop_zero]
    repeat (first | still_step | (still_call (still_of (rClamp_any _ _))) | (still_call (still_of (near_any _ _ _ (by omega) (by omega)))))
    refine wpStill_nil ?_
    go_wp2_with (go_at_call 112; refine (rClamp_any _ _).mono ?_; rintro e w' ⟨rfl, rfl⟩)
    refine wp_region_still_tail 9 (by kernel_rfl) (by kernel_rfl) ?_
    simp only [List.take_succ_cons, List.take_zero, List.drop_succ_cons, List.drop_zero]
    repeat (first | still_step | (still_call (still_of (rClamp_any _ _))) | (still_call (still_of (near_any _ _ _ (by omega) (by omega)))))
    refine wpStill_nil ?_
    go_wp2_with (first | (go_at_call 112; refine (rClamp_any _ _).mono ?_; rintro e w' ⟨rfl, rfl⟩) | (go_at_call 70; refine (HI.out _ _ _).mono ?_; rintro e w' ⟨rfl, hb⟩; obtain ⟨d, os, rfl⟩ := more_of hb; clear hb))
    go_returns
    refine ⟨?_, (by repeat' (first | (with_reducible exact Below.refl _ _) | (with_reducible assumption) | (with_reducible refine below_drewN ?_ _) | (with_reducible refine below_more _ _ _ ?_ ?_) | (with_reducible refine Below.alloc ?_ ?_ _) | (with_reducible refine Below.drew ?_) | (with_reducible refine Below.setCell ?_ ?_ _) | go_size))⟩
    simp [moveF, hb, addF_near _ _ _ hs0 (by omega : speed ≤ 1073741824)]

end Go.Proofs.Ytcnclcfipabimaa
