/-
  Package zones, as chapter 14 uses it: Check, New, In; systems.Move; the references'. Condition: the world may be.
-/
import Derived.Test.YtcnclcfipabimaaMca
import Derived.Test.YtcnclcfipabimaaPaA
import Derived.Test.YtcnclcfipabimaaMpr
import Derived.StillTailTactics
namespace Go.Proofs.Ytcnclcfipabimaa
open Go.RowKit

structure Cfg where
  (cols rows side radius speed ids queue : Int)
structure CfgOk (c : Cfg) : Prop where
  c0 : 1 ≤ c.cols
  c1 : c.cols ≤ 4
  r0 : 1 ≤ c.rows
  r1 : c.rows ≤ 4
  s0 : 256 ≤ c.side
  s1 : c.side ≤ 1048576
  a0 : 0 ≤ c.radius
  a1 : c.radius ≤ c.side
  v0 : 0 ≤ c.speed
  v1 : c.speed ≤ c.side
  i0 : 1 ≤ c.ids
  i1 : c.ids ≤ 16
  q0 : 1 ≤ c.queue
  q1 : c.queue ≤ 64


set_option maxHeartbeats 1000000 in
theorem zcheck_ok (cols rows side radius speed ids queue : Int) (w : World) (h : CfgOk ⟨cols, rows, side, radius, speed, ids, queue⟩) :
    Calls Try.prog 56 #[.agg #[.int .i64 cols, .int .i64 rows, .int .i64 side, .int .i64 radius, .int .i64 speed, .int .i64 ids, .int .i64 queue]] w fun e w' => e = .returned (.int .i64 0) ∧ Below w.heap.size w w' := by
  obtain ⟨c0, c1, r0, r1, s0, s1, a0, a1, v0, v1, i0, i1, q0, q1⟩ := h
  simp only at c0 c1 r0 r1 s0 s1 a0 a1 v0 v1 i0 i1 q0 q1
  go_enter Try.func56, Try.ntmps56
  go_wp2_with fail
  refine wp_loop_rounds 8 ?_
  repeat any_goals (rw [rounds_succ]; go_wp2_with fail)
  all_goals go_ret
  exact ⟨rfl, (by repeat' (first | (with_reducible exact Below.refl _ _) | (with_reducible assumption) | (with_reducible refine below_drewN ?_ _) | (with_reducible refine below_more _ _ _ ?_ ?_) | (with_reducible refine Below.alloc ?_ ?_ _) | (with_reducible refine Below.drew ?_) | (with_reducible refine Below.setCell ?_ ?_ _) | go_size))⟩

theorem CfgOk.prod {c : Cfg} (h : CfgOk c) : 256 ≤ c.cols * c.side ∧ c.cols * c.side ≤ 4194304 ∧ 256 ≤ c.rows * c.side ∧ c.rows * c.side ≤ 4194304 := by
  obtain ⟨c0, c1, r0, r1, s0, s1, _⟩ := h
  refine ⟨?_, ?_, ?_, ?_⟩
  · have := Int.mul_le_mul c0 s0 (by omega) (by omega); omega
  · have := Int.mul_le_mul c1 s1 (by omega) (by omega); omega
  · have := Int.mul_le_mul r0 s0 (by omega) (by omega); omega
  · have := Int.mul_le_mul r1 s1 (by omega) (by omega); omega

def MapAt (w : World) (b : Nat) (c : Cfg) : Prop := w.heap[b]? = some (.cells #[.int .i64 c.cols, .int .i64 c.rows, .int .i64 c.side, .int .i64 c.radius, .int .i64 c.speed, .int .i64 c.ids, .int .i64 c.queue, .int .i64 0, .int .i64 0, .int .i64 (c.cols * c.side), .int .i64 (c.rows * c.side)] 103 (0, 0))

set_option maxHeartbeats 1000000 in
theorem znew_ok (cols rows side radius speed ids queue : Int) (w : World) (h : CfgOk ⟨cols, rows, side, radius, speed, ids, queue⟩) :
    Calls Try.prog 18 #[.agg #[.int .i64 cols, .int .i64 rows, .int .i64 side, .int .i64 radius, .int .i64 speed, .int .i64 ids, .int .i64 queue]] w fun e w' => ∃ b, e = .returned (.tuple #[.pointer (some ⟨b, 0, none⟩), .int .i64 0]) ∧ Below w.heap.size w w' ∧ MapAt w' b ⟨cols, rows, side, radius, speed, ids, queue⟩ ∧ w.heap.size ≤ b := by
  obtain ⟨p1, p2, p3, p4⟩ := h.prod
  have HC := Lib.hid (fun W => zcheck_ok cols rows side radius speed ids queue W h)
  clear h
  simp only at p1 p2 p3 p4
  generalize hx1 : cols * side = x1 at *
  generalize hy1 : rows * side = y1 at *
  go_enter Try.func18, Try.ntmps18
  go_wp2_with (go_at_call 56; refine (HC.out _).mono ?_; rintro e w' ⟨rfl, hb⟩; obtain ⟨d, os, rfl⟩ := more_of hb; clear hb)
  go_ret2
  refine ⟨_, rfl, (by repeat' (first | (with_reducible exact Below.refl _ _) | (with_reducible assumption) | (with_reducible refine below_drewN ?_ _) | (with_reducible refine below_more _ _ _ ?_ ?_) | (with_reducible refine Below.alloc ?_ ?_ _) | (with_reducible refine Below.drew ?_) | (with_reducible refine Below.setCell ?_ ?_ _) | go_size)), ?_, by omega⟩
  unfold MapAt
  simp only [hx1, hy1]
  have hn := heap_alloc_new (more (w.alloc (.cells #[.int .i64 cols, .int .i64 rows, .int .i64 side, .int .i64 radius, .int .i64 speed, .int .i64 ids, .int .i64 queue] 23)) d os) (.cells #[.int .i64 cols, .int .i64 rows, .int .i64 side, .int .i64 radius, .int .i64 speed, .int .i64 ids, .int .i64 queue, .int .i64 0, .int .i64 0, .int .i64 x1, .int .i64 y1] 103)
  simpa using hn

def inF (c : Cfg) (x y : Int) : Int × Int := (max 0 (min x (c.cols * c.side - 1)), max 0 (min y (c.rows * c.side - 1)))

theorem MapAt.cell {w : World} {b : Nat} {c : Cfg} (h : MapAt w b c) (j : Nat) : w.cell? ⟨b, j, none⟩ = (#[.int .i64 c.cols, .int .i64 c.rows, .int .i64 c.side, .int .i64 c.radius, .int .i64 c.speed, .int .i64 c.ids, .int .i64 c.queue, .int .i64 0, .int .i64 0, .int .i64 (c.cols * c.side), .int .i64 (c.rows * c.side)] : Array Value)[j]? := by
  simp only [MapAt] at h
  simp [World.cell?, h]

theorem MapAt.grow {w w' : World} {b : Nat} {c : Cfg} (h : MapAt w b c) (hb : Below w.heap.size w w') : MapAt w' b c := (hb.block b (Array.getElem?_eq_some_iff.1 h).1).trans h

set_option maxHeartbeats 1000000 in
theorem zin_any (w : World) (b : Nat) (c : Cfg) (x y : Int) (h : MapAt w b c) (ho : CfgOk c) :
    Calls Try.prog 126 #[.pointer (some ⟨b, 0, none⟩), .int .i64 x, .int .i64 y] w fun e w' => e = .returned (.tuple #[.int .i64 (inF c x y).1, .int .i64 (inF c x y).2]) ∧ ∃ n, w' = w.drewN n := by
  obtain ⟨p1, p2, p3, p4⟩ := ho.prod
  have h9 := h.cell 9
  have h10 := h.cell 10
  simp only [List.getElem?_toArray, List.getElem?_cons_succ, List.getElem?_cons_zero] at h9 h10
  simp only [inF]
  clear h ho
  generalize c.cols * c.side = x1 at *
  generalize c.rows * c.side = y1 at *
  go_enter Try.func126, Try.ntmps126
  go_wp2_with fail
  go_quiet (fail)
  go_wp2_with fail
  all_goals go_ret2
  all_goals exact ⟨rfl, _, rfl⟩

end Go.Proofs.Ytcnclcfipabimaa
