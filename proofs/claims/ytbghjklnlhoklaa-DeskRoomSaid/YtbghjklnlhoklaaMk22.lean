/-
  systems.Move, and the reference's. Condition: the world may be.
  The reference's Move; worlds that may be (May of chapter 4). Condition: the world may be.
  Worlds that may be (May of chapter 4). Condition: the world may be.
-/
import Derived.Test.YtbghjklnlhoklaaMk10
import Derived.Test.YtbghjklnlhoklaaPaA
import Derived.StillTailTactics
namespace Go.Proofs.Ytbghjklnlhoklaa
open Go.RowKit

theorem more_alloc (w : World) (d : Nat) (os : Array Obj) (o : Obj) : (more w d os).alloc o = more w d (os.push o) := by
  have e : (w.heap ++ os).push o = w.heap ++ os.push o := by apply Array.ext'; simp
  show ({ more w d os with heap := (w.heap ++ os).push o } : World) = _
  rw [e]
  rfl

def moveF (c : Cfg) (b : Bun) : Bun :=
  let x := if hasB b.m 2 then addF b.x (max (-c.speed) (min c.speed b.vx)) else b.x
  let y := if hasB b.m 2 then addF b.y (max (-c.speed) (min c.speed b.vy)) else b.y
  { b with x := (inF c x y).1, y := (inF c x y).2 }


/-- The same move by sums of two. -/
theorem addF_near (x v n : Int) (h0 : 0 ≤ n) (h1 : n ≤ 1073741824) : clampF (clampF x + max (-n) (min n v)) = addF x (max (-n) (min n v)) := by
  unfold addF
  rw [clampF_id (max (-n) (min n v)) (by omega) (by omega)]
end Go.Proofs.Ytbghjklnlhoklaa
namespace Go.Proofs.Ytbghjklnlhoklaa
open Go.RowKit

theorem more_self (w : World) : more w w.drawn #[] = w := by simp [more]

theorem still_of {P : Program} {f : FuncId} {args : Array Value} {w : World} {v : Value} (h : Calls P f args w fun e w' => e = .returned v ∧ w = w') : Calls P f args w fun e w'' => e = .returned v ∧ w'' = w := h.mono fun _ _ ⟨a, b⟩ => ⟨a, b.symm⟩

end Go.Proofs.Ytbghjklnlhoklaa
namespace Go.Proofs.Ytbghjklnlhoklaa
open Go.RowKit


/-- Any world made one that may be. -/
def mayF (c : Cfg) : Cfg :=
  let side := 256 + c.side % 5000
  { cols := 1 + c.cols % 4, rows := 1 + c.rows % 4, side := side, radius := c.radius % (side + 1), speed := c.speed % (side + 1), ids := 1 + c.ids % 16, queue := 1 + c.queue % 64 }

theorem mayF_ok (c : Cfg) : CfgOk (mayF c) := by
  have h1 := Int.emod_nonneg c.side (by omega : (5000 : Int) ≠ 0)
  have h2 := Int.emod_lt_of_pos c.side (by omega : (0 : Int) < 5000)
  constructor <;> simp only [mayF]
  all_goals first
    | omega
    | exact Int.emod_nonneg _ (by omega)
    | (have := Int.emod_lt_of_pos c.radius (by omega : 0 < 256 + c.side % 5000 + 1); omega)
    | (have := Int.emod_lt_of_pos c.speed (by omega : 0 < 256 + c.side % 5000 + 1); omega)

theorem mod4_any (k n : Int) (w : World) (h1 : 1 ≤ n) (h2 : n ≤ 1000000) :
    Calls Try.prog 36 #[.int .i64 k, .int .i64 n] w fun e w' => e = .returned (.int .i64 (k % n)) ∧ w = w' := by
  have e0 : (Int.tmod k n + n) % n = k % n := by
    rw [Int.add_emod_right]
    by_cases hk0 : 0 ≤ k
    · rw [Int.tmod_eq_emod_of_nonneg hk0, Int.emod_emod_of_dvd _ (Int.dvd_refl n)]
    · rw [Int.tmod_eq_emod]
      split
      · simp
      · have hn : ((n.natAbs : Int)) = n := by omega
        rw [hn, Int.sub_emod_right, Int.emod_emod_of_dvd _ (Int.dvd_refl n)]
  have E0 := Lib.hid e0
  have t1 : -n < Int.tmod k n := by have := Int.tmod_lt_of_pos k (by omega : 0 < n); have := Int.lt_tmod_of_pos k (by omega : 0 < n); omega
  have t2 : Int.tmod k n < n := Int.tmod_lt_of_pos k (by omega)
  clear e0
  go_enter Try.func36, Try.ntmps36
  go_wp2
  go_ret
  refine ⟨?_, rfl⟩
  show Ending.returned (.int .i64 ((Int.tmod k n + n) % n)) = _
  rw [E0.out]

set_option maxRecDepth 100000 in
set_option maxHeartbeats 2000000 in
theorem may_any (cols rows side radius speed ids queue : Int) (w : World) :
    Calls Try.prog 11 #[.agg #[.int .i64 cols, .int .i64 rows, .int .i64 side, .int .i64 radius, .int .i64 speed, .int .i64 ids, .int .i64 queue]] w fun e w' => e = .returned (.agg #[.int .i64 (mayF ⟨cols, rows, side, radius, speed, ids, queue⟩).cols, .int .i64 (mayF ⟨cols, rows, side, radius, speed, ids, queue⟩).rows, .int .i64 (mayF ⟨cols, rows, side, radius, speed, ids, queue⟩).side, .int .i64 (mayF ⟨cols, rows, side, radius, speed, ids, queue⟩).radius, .int .i64 (mayF ⟨cols, rows, side, radius, speed, ids, queue⟩).speed, .int .i64 (mayF ⟨cols, rows, side, radius, speed, ids, queue⟩).ids, .int .i64 (mayF ⟨cols, rows, side, radius, speed, ids, queue⟩).queue]) ∧ Below w.heap.size w w' := by
  have h1 := Int.emod_nonneg side (by omega : (5000 : Int) ≠ 0)
  have h2 := Int.emod_lt_of_pos side (by omega : (0 : Int) < 5000)
  have h3 := Int.emod_nonneg cols (by omega : (4 : Int) ≠ 0)
  have h4 := Int.emod_lt_of_pos cols (by omega : (0 : Int) < 4)
  have h5 := Int.emod_nonneg rows (by omega : (4 : Int) ≠ 0)
  have h6 := Int.emod_lt_of_pos rows (by omega : (0 : Int) < 4)
  have h7 := Int.emod_nonneg ids (by omega : (16 : Int) ≠ 0)
  have h8 := Int.emod_lt_of_pos ids (by omega : (0 : Int) < 16)
  have h9 := Int.emod_nonneg queue (by omega : (64 : Int) ≠ 0)
  have h10 := Int.emod_lt_of_pos queue (by omega : (0 : Int) < 64)
  
  go_enter Try.func11, Try.ntmps11
  go_wp2_with fail
  go_region_held3 (fun W => ((w.alloc (.cells #[.int .i64 cols, .int .i64 rows, .int .i64 side, .int .i64 radius, .int .i64 speed, .int .i64 ids, .int .i64 queue] 23)).alloc (.cells #[.int .i64 0, .int .i64 0, .int .i64 0, .int .i64 0, .int .i64 0, .int .i64 0, .int .i64 0] 23)).heap.size ≤ W.heap.size ∧ ∀ b o, b < ((w.alloc (.cells #[.int .i64 cols, .int .i64 rows, .int .i64 side, .int .i64 radius, .int .i64 speed, .int .i64 ids, .int .i64 queue] 23)).alloc (.cells #[.int .i64 0, .int .i64 0, .int .i64 0, .int .i64 0, .int .i64 0, .int .i64 0, .int .i64 0] 23)).heap.size → W.cell? ⟨b, o, none⟩ = ((w.alloc (.cells #[.int .i64 cols, .int .i64 rows, .int .i64 side, .int .i64 radius, .int .i64 speed, .int .i64 ids, .int .i64 queue] 23)).alloc (.cells #[.int .i64 0, .int .i64 0, .int .i64 0, .int .i64 0, .int .i64 0, .int .i64 0, .int .i64 0] 23)).cell? ⟨b, o, none⟩) (with_reducible (repeat (first | assumption | exact s_refl _ | exact s_id _ | refine s_more _ _ ?_ | refine s_alloc _ ?_ | refine s_drew ?_))) (first | (go_at_call 36; refine (mod4_any _ _ _ (by omega) (by omega)).mono ?_; rintro e w' ⟨rfl, rfl⟩))
  all_goals go_wp2_with (go_at_call 36; refine (mod4_any _ _ _ (by omega) (by omega)).mono ?_; rintro e w' ⟨rfl, rfl⟩)
  all_goals go_returns
  all_goals exact ⟨rfl, (by repeat' (first | (with_reducible exact Below.refl _ _) | (with_reducible assumption) | (with_reducible refine below_drewN ?_ _) | (with_reducible refine below_more _ _ _ ?_ ?_) | (with_reducible refine Below.alloc ?_ ?_ _) | (with_reducible refine Below.drew ?_) | (with_reducible refine Below.setCell ?_ ?_ _) | go_size))⟩
end Go.Proofs.Ytbghjklnlhoklaa
