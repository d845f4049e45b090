/-
  Chapter texts SyA RcA: what the claim reaches of them. Conditions stand at each theorem.
-/
import Derived.Lib.MinMax
import Derived.StillTailTactics
import Derived.BigRegion
import Derived.Shelf.RegionOpenPlain
import Derived.Test.YtmkfjelpekkmmaaQ11
namespace Go.Proofs.Ytmkfjelpekkmmaa
open Go.RowKit

theorem max_if (x y : Int) : (if y > x then y else x) = max x y := by rw [Int.max_def]; split <;> split <;> omega
@[go_sem high] theorem run_max_ints4 {P : Program} (w : World) (ts : Array TypeId) (t : TypeId) (k : IntKind) (x y u v : Int) :
    (Builtin.max_ ts t #[.int k x, .int k y, .int k u, .int k v]).run P w = .ok (.int k (max (max (max x y) u) v)) w := by
  simp [Builtin.max_, Builtin.max2, max_if]
@[go_sem high] theorem run_max_ints3 {P : Program} (w : World) (ts : Array TypeId) (t : TypeId) (k : IntKind) (x y u : Int) :
    (Builtin.max_ ts t #[.int k x, .int k y, .int k u]).run P w = .ok (.int k (max (max x y) u)) w := by
  simp [Builtin.max_, Builtin.max2, max_if]

def clampF (n : Int) : Int := max (-1073741824) (min 1073741824 n)
theorem clampF_lo (n : Int) : -1073741824 ≤ clampF n := by unfold clampF; omega
theorem clampF_hi (n : Int) : clampF n ≤ 1073741824 := by unfold clampF; omega
theorem clampF_id (n : Int) (h0 : -1073741824 ≤ n) (h1 : n ≤ 1073741824) : clampF n = n := by unfold clampF; omega
def farF (x y u v : Int) : Int := max (clampF x - clampF u) (max (-(clampF x - clampF u)) (max (clampF y - clampF v) (-(clampF y - clampF v))))
theorem ret_int {k : IntKind} {a b : Int} (h : a = b) : Ending.returned (.int k a) = .returned (.int k b) := by rw [h]

theorem clamp_any (n : Int) (w : World) : Calls Try.prog 62 #[.int .i64 n] w fun e w' => e = .returned (.int .i64 (clampF n)) ∧ w = w' := by
  by_cases h1 : n < -1073741824
  · rw [show clampF n = -1073741824 from by unfold clampF; omega]
    have h2 : n ≤ 1073741824 := by omega
    go_enter Try.func62, Try.ntmps62
    go_wp2
    all_goals go_ret
    all_goals (refine ⟨ret_int ?_, rfl⟩; first | omega | ((repeat' split at *) <;> omega))
  · by_cases h2 : 1073741824 < n
    · rw [show clampF n = 1073741824 from by unfold clampF; omega]
      have h3 : -1073741824 ≤ n := by omega
      clear h1
      go_enter Try.func62, Try.ntmps62
      go_wp2
      all_goals go_ret
      all_goals (refine ⟨ret_int ?_, rfl⟩; first | omega | ((repeat' split at *) <;> omega))
    · rw [show clampF n = n from by unfold clampF; omega]
      have h3 : -1073741824 ≤ n := by omega
      have h4 : n ≤ 1073741824 := by omega
      clear h1 h2
      go_enter Try.func62, Try.ntmps62
      go_wp2
      all_goals go_ret
      all_goals (refine ⟨ret_int ?_, rfl⟩; first | omega | ((repeat' split at *) <;> omega))

theorem rClamp_any (n : Int) (w : World) : Calls Try.prog 53 #[.int .i64 n] w fun e w' => e = .returned (.int .i64 (clampF n)) ∧ w = w' := by
  by_cases h1 : n < -1073741824
  · rw [show clampF n = -1073741824 from by unfold clampF; omega]
    have h2 : n ≤ 1073741824 := by omega
    go_enter Try.func53, Try.ntmps53
    go_wp2
    all_goals go_ret
    all_goals (refine ⟨ret_int ?_, rfl⟩; first | omega | ((repeat' split at *) <;> omega))
  · by_cases h2 : 1073741824 < n
    · rw [show clampF n = 1073741824 from by unfold clampF; omega]
      have h3 : -1073741824 ≤ n := by omega
      clear h1
      go_enter Try.func53, Try.ntmps53
      go_wp2
      all_goals go_ret
      all_goals (refine ⟨ret_int ?_, rfl⟩; first | omega | ((repeat' split at *) <;> omega))
    · rw [show clampF n = n from by unfold clampF; omega]
      have h3 : -1073741824 ≤ n := by omega
      have h4 : n ≤ 1073741824 := by omega
      clear h1 h2
      go_enter Try.func53, Try.ntmps53
      go_wp2
      all_goals go_ret
      all_goals (refine ⟨ret_int ?_, rfl⟩; first | omega | ((repeat' split at *) <;> omega))

theorem far_any (x y u v : Int) (w : World) : Calls Try.prog 44 #[.int .i64 x, .int .i64 y, .int .i64 u, .int .i64 v] w fun e w' => e = .returned (.int .i64 (farF x y u v)) ∧ w = w' := by
  have h1 := clampF_lo x; have h2 := clampF_hi x; have h3 := clampF_lo u; have h4 := clampF_hi u
  have h5 := clampF_lo y; have h6 := clampF_hi y; have h7 := clampF_lo v; have h8 := clampF_hi v
  generalize hr : farF x y u v = r
  unfold farF at hr
  have HR := Lib.hid hr
  clear hr
  go_enter Try.func44, Try.ntmps44
  go_wp2_with (go_at_call 62; refine (clamp_any _ _).mono ?_; rintro e w' ⟨rfl, rfl⟩)
  go_ret
  exact ⟨ret_int HR.out, rfl⟩
end Go.Proofs.Ytmkfjelpekkmmaa
namespace Go.Proofs.Ytmkfjelpekkmmaa
open Go.RowKit

theorem still_ofR {P : Program} {f : FuncId} {args : Array Value} {w : World} {v : Value} (h : Calls P f args w fun e w' => e = .returned v ∧ w = w') : Calls P f args w fun e w'' => e = .returned v ∧ w'' = w := h.mono fun _ _ ⟨a, b⟩ => ⟨a, b.symm⟩
theorem more_selfR (w : World) : more w w.drawn #[] = w := by simp [more]
def boxOk (x0 y0 x1 y1 : Int) : Bool := decide (clampF x0 < clampF x1) && decide (clampF y0 < clampF y1)

set_option maxRecDepth 100000 in
set_option maxHeartbeats 1000000 in
theorem box_any (x0 y0 x1 y1 : Int) (w : World) :
    Calls Try.prog 75 #[.agg #[.int .i64 x0, .int .i64 y0, .int .i64 x1, .int .i64 y1]] w fun e w' => e = .returned (.tuple #[.agg #[.int .i64 (clampF x0), .int .i64 (clampF y0), .int .i64 (clampF x1), .int .i64 (clampF y1)], .bool (boxOk x0 y0 x1 y1)]) ∧ Below w.heap.size w w' := by
  have C0 := Lib.hid (fun W => clamp_any x0 W)
  have C1 := Lib.hid (fun W => clamp_any y0 W)
  have C2 := Lib.hid (fun W => clamp_any x1 W)
  have C3 := Lib.hid (fun W => clamp_any y1 W)
  unfold boxOk
  generalize clampF x0 = a0 at *
  generalize clampF y0 = b0 at *
  generalize clampF x1 = a1 at *
  generalize clampF y1 = b1 at *
  go_enter Try.func75, Try.ntmps75
  go_wp2_with fail
  rw [← more_selfR ((w.alloc _).alloc _)]
  generalize World.drawn _ = d0
  generalize (#[] : Array Obj) = os0
  refine wp_region_still_tail 12 (by kernel_rfl) (by kernel_rfl) ?_
  simp only [List.take_succ_cons, List.take_zero, List.drop_succ_cons, List.drop_zero]
  repeat (first | still_step | (still_call (still_ofR (C0.out _))) | (still_call (still_ofR (C1.out _))) | (still_call (still_ofR (C2.out _))) | (still_call (still_ofR (C3.out _))))
  refine wpStill_nil ?_
  go_wp2_with fail
  generalize d0 + 1 = d1
  have mixed : Try.prog.follows .mixedOrders = true := by kernel_rfl
  have hc0 : ∀ j, (more ((w.alloc (.cells #[.int .i64 a0, .int .i64 b0, .int .i64 a1, .int .i64 b1] 31)).alloc (.cells #[.int .i64 0, .int .i64 0, .int .i64 0, .int .i64 0] 31)) d1 os0).cell? ⟨w.heap.size, j, none⟩ = (#[.int .i64 a0, .int .i64 b0, .int .i64 a1, .int .i64 b1] : Array Value)[j]? := fun j => by rw [more_cell _ _ _ _ (by simp; omega)]; simp
  have q0 := hc0 0; have q1 := hc0 1; have q2 := hc0 2; have q3 := hc0 3
  simp only [List.getElem?_toArray, List.getElem?_cons_succ, List.getElem?_cons_zero] at q0 q1 q2 q3
  clear hc0
  cases h1 : decide (a0 < a1) with
  | true =>
    cases h2 : decide (b0 < b1) with
    | true =>
      go_big_region_o
      all_goals go_wp2_with fail
      all_goals exact bodyPost_ret (v := .tuple #[.agg #[.int .i64 a0, .int .i64 b0, .int .i64 a1, .int .i64 b1], .bool true]) (by simp [results, Try.results75, go_sem]) rfl ⟨by simp at h1 h2 ⊢; omega, (by repeat' (first | (with_reducible exact Below.refl _ _) | (with_reducible assumption) | (with_reducible refine below_drewN ?_ _) | (with_reducible refine below_more _ _ _ ?_ ?_) | (with_reducible refine Below.alloc ?_ ?_ _) | (with_reducible refine Below.drew ?_) | (with_reducible refine Below.setCell ?_ ?_ _) | go_size))⟩
    | false =>
      go_big_region_o
      all_goals go_wp2_with fail
      all_goals exact bodyPost_ret (v := .tuple #[.agg #[.int .i64 a0, .int .i64 b0, .int .i64 a1, .int .i64 b1], .bool false]) (by simp [results, Try.results75, go_sem]) rfl ⟨by simp at h1 h2 ⊢; omega, (by repeat' (first | (with_reducible exact Below.refl _ _) | (with_reducible assumption) | (with_reducible refine below_drewN ?_ _) | (with_reducible refine below_more _ _ _ ?_ ?_) | (with_reducible refine Below.alloc ?_ ?_ _) | (with_reducible refine Below.drew ?_) | (with_reducible refine Below.setCell ?_ ?_ _) | go_size))⟩
  | false =>
    go_big_region_o
    all_goals go_wp2_with fail
    all_goals exact bodyPost_ret (v := .tuple #[.agg #[.int .i64 a0, .int .i64 b0, .int .i64 a1, .int .i64 b1], .bool false]) (by simp [results, Try.results75, go_sem]) rfl ⟨by simp at h1 ⊢; omega, (by repeat' (first | (with_reducible exact Below.refl _ _) | (with_reducible assumption) | (with_reducible refine below_drewN ?_ _) | (with_reducible refine below_more _ _ _ ?_ ?_) | (with_reducible refine Below.alloc ?_ ?_ _) | (with_reducible refine Below.drew ?_) | (with_reducible refine Below.setCell ?_ ?_ _) | go_size))⟩

def offF (n lo hi : Int) : Int := max (lo - n) (max (n - hi) 0)
theorem off_any (n lo hi : Int) (w : World) (h0 : -4294967296 ≤ n) (h1 : n ≤ 4294967296) (h2 : -4294967296 ≤ lo) (h3 : lo ≤ 4294967296) (h4 : -4294967296 ≤ hi) (h5 : hi ≤ 4294967296) :
    Calls Try.prog 76 #[.int .i64 n, .int .i64 lo, .int .i64 hi] w fun e w' => e = .returned (.int .i64 (offF n lo hi)) ∧ w = w' := by
  generalize hr : offF n lo hi = r
  unfold offF at hr
  have HR := Lib.hid hr
  clear hr
  go_enter Try.func76, Try.ntmps76
  go_wp2
  go_ret
  exact ⟨ret_int HR.out, rfl⟩

def gapF (x0 y0 x1 y1 x y : Int) : Int := if boxOk x0 y0 x1 y1 then max (offF (clampF x) (clampF x0) (clampF x1 - 1)) (offF (clampF y) (clampF y0) (clampF y1 - 1)) else -1

set_option maxRecDepth 100000 in
set_option maxHeartbeats 1000000 in
theorem gap_any (x0 y0 x1 y1 x y : Int) (w : World) :
    Calls Try.prog 61 #[.agg #[.int .i64 x0, .int .i64 y0, .int .i64 x1, .int .i64 y1], .int .i64 x, .int .i64 y] w fun e w' => e = .returned (.int .i64 (gapF x0 y0 x1 y1 x y)) ∧ Below w.heap.size w w' := by
  have HBX := Lib.hid (fun W => box_any x0 y0 x1 y1 W)
  have CX := Lib.hid (fun W => clamp_any x W)
  have CY := Lib.hid (fun W => clamp_any y W)
  have l1 := clampF_lo x0; have l2 := clampF_hi x0; have l3 := clampF_lo y0; have l4 := clampF_hi y0
  have l5 := clampF_lo x1; have l6 := clampF_hi x1; have l7 := clampF_lo y1; have l8 := clampF_hi y1
  have m1 := clampF_lo x; have m2 := clampF_hi x; have m3 := clampF_lo y; have m4 := clampF_hi y
  unfold gapF
  cases hok : boxOk x0 y0 x1 y1 with
  | false =>
    rw [hok] at HBX
    simp only [Bool.false_eq_true, if_false]
    generalize clampF x0 = a0 at *
    generalize clampF y0 = b0 at *
    generalize clampF x1 = a1 at *
    generalize clampF y1 = b1 at *
    go_enter Try.func61, Try.ntmps61
    go_wp2_with (go_at_call 75; refine (HBX.out _).mono ?_; rintro e w' ⟨rfl, hb⟩; obtain ⟨d, os, rfl⟩ := more_of hb; clear hb)
    go_ret
    exact ⟨rfl, (by repeat' (first | (with_reducible exact Below.refl _ _) | (with_reducible assumption) | (with_reducible refine below_drewN ?_ _) | (with_reducible refine below_more _ _ _ ?_ ?_) | (with_reducible refine Below.alloc ?_ ?_ _) | (with_reducible refine Below.drew ?_) | (with_reducible refine Below.setCell ?_ ?_ _) | go_size))⟩
  | true =>
    rw [hok] at HBX
    simp only [if_true]
    generalize clampF x0 = a0 at *
    generalize clampF y0 = b0 at *
    generalize clampF x1 = a1 at *
    generalize clampF y1 = b1 at *
    generalize clampF x = cx at *
    generalize clampF y = cy at *
    have O1 := Lib.hid (fun W => off_any cx a0 (a1 - 1) W (by omega) (by omega) (by omega) (by omega) (by omega) (by omega))
    have O2 := Lib.hid (fun W => off_any cy b0 (b1 - 1) W (by omega) (by omega) (by omega) (by omega) (by omega) (by omega))
    have r1 : IntKind.i64.wrap (a1 - 1) = a1 - 1 := by rw [IntKind.wrap_i64]; omega
    have r2 : IntKind.i64.wrap (b1 - 1) = b1 - 1 := by rw [IntKind.wrap_i64]; omega
    generalize offF cx a0 (a1 - 1) = p1 at *
    generalize offF cy b0 (b1 - 1) = p2 at *
    clear l1 l2 l3 l4 l5 l6 l7 l8 m1 m2 m3 m4
    go_enter Try.func61, Try.ntmps61
    go_wp2_with (go_at_call 75; refine (HBX.out _).mono ?_; rintro e w' ⟨rfl, hb⟩; obtain ⟨d, os, rfl⟩ := more_of hb; clear hb)
    refine wp_region_more (by kernel_rfl) (by kernel_rfl) ?_
    repeat (go_big_quiet_step ((first | (go_at_call 62; with_reducible exact more_same (CX.out _)) | (go_at_call 62; with_reducible exact more_same (CY.out _)) | (go_at_call 76; with_reducible exact more_same (O1.out _)) | (go_at_call 76; with_reducible exact more_same (O2.out _)))))
    refine wpQuiet_nil ?_
    rintro _ ⟨pm, rfl⟩
    go_wp2_with fail
    go_ret
    exact ⟨rfl, (by repeat' (first | (with_reducible exact Below.refl _ _) | (with_reducible assumption) | (with_reducible refine below_drewN ?_ _) | (with_reducible refine below_more _ _ _ ?_ ?_) | (with_reducible refine Below.alloc ?_ ?_ _) | (with_reducible refine Below.drew ?_) | (with_reducible refine Below.setCell ?_ ?_ _) | go_size))⟩

theorem rhas_any (x0 y0 x1 y1 x y : Int) (w : World) :
    Calls Try.prog 41 #[.agg #[.int .i64 x0, .int .i64 y0, .int .i64 x1, .int .i64 y1], .int .i64 x, .int .i64 y] w fun e w' => e = .returned (.bool (gapF x0 y0 x1 y1 x y == 0)) ∧ Below w.heap.size w w' := by
  have HG := Lib.hid (fun W => gap_any x0 y0 x1 y1 x y W)
  generalize gapF x0 y0 x1 y1 x y = r at *
  go_enter Try.func41, Try.ntmps41
  go_wp2_with (go_at_call 61; refine (HG.out _).mono ?_; rintro e w' ⟨rfl, hb⟩; obtain ⟨d, os, rfl⟩ := more_of hb; clear hb)
  go_ret
  exact ⟨rfl, (by repeat' (first | (with_reducible exact Below.refl _ _) | (with_reducible assumption) | (with_reducible refine below_drewN ?_ _) | (with_reducible refine below_more _ _ _ ?_ ?_) | (with_reducible refine Below.alloc ?_ ?_ _) | (with_reducible refine Below.drew ?_) | (with_reducible refine Below.setCell ?_ ?_ _) | go_size))⟩

end Go.Proofs.Ytmkfjelpekkmmaa
