/-
  Chapter texts RcA RfA PaA PaR: what the claim reaches of them. Conditions stand at each theorem.
-/
import Derived.StillTailTactics
import Derived.BigRegion
import Derived.Shelf.RegionOpenPlain
import Derived.Test.YtoimjjhopljdmaaGreatY07
import Derived.Test.YtoimjjhopljdmaaGreatY02
namespace Go.Proofs.YtoimjjhopljdmaaGreat
open Go.RowKit

theorem still_ofR {P : Program} {f : FuncId} {args : Array Value} {w : World} {v : Value} (h : Calls P f args w fun e w' => e = .returned v ∧ w = w') : Calls P f args w fun e w'' => e = .returned v ∧ w'' = w := h.mono fun _ _ ⟨a, b⟩ => ⟨a, b.symm⟩
theorem more_selfR (w : World) : more w w.drawn #[] = w := by simp [more]
def boxOk (x0 y0 x1 y1 : Int) : Bool := decide (clampF x0 < clampF x1) && decide (clampF y0 < clampF y1)

set_option maxRecDepth 100000 in
set_option maxHeartbeats 1000000 in
theorem box_any (x0 y0 x1 y1 : Int) (w : World) :
    Calls Tryz.prog 171 #[.agg #[.int .i64 x0, .int .i64 y0, .int .i64 x1, .int .i64 y1]] w fun e w' => e = .returned (.tuple #[.agg #[.int .i64 (clampF x0), .int .i64 (clampF y0), .int .i64 (clampF x1), .int .i64 (clampF y1)], .bool (boxOk x0 y0 x1 y1)]) ∧ Below w.heap.size w w' := by
  have C0 := Lib.hid (fun W => clamp_any x0 W)
  have C1 := Lib.hid (fun W => clamp_any y0 W)
  have C2 := Lib.hid (fun W => clamp_any x1 W)
  have C3 := Lib.hid (fun W => clamp_any y1 W)
  unfold boxOk
  generalize clampF x0 = a0 at *
  generalize clampF y0 = b0 at *
  generalize clampF x1 = a1 at *
  generalize clampF y1 = b1 at *
  go_enter Tryz.func171, Tryz.ntmps171
  go_wp2_with fail
  rw [← more_selfR ((w.alloc _).alloc _)]
  generalize World.drawn _ = d0
  generalize (#[] : Array Obj) = os0
  refine wp_region_still_tail 12 (by kernel_rfl) (by kernel_rfl) ?_
  simp only [List.take_succ_cons, List.take_zero, List.drop_succ_cons, List.drop_zero]
  repeat (first | still_step | (still_call (still_ofR (C0.out _))) | (still_call (still_ofR (C1.out _))) | (still_call (still_ofR (C2.out _))) | (still_call (still_ofR (C3.out _))))
  refine wpStill_nil ?_
  go_wp2_with fail
  generalize d0 + 1 = d1
  have mixed : Tryz.prog.follows .mixedOrders = true := by kernel_rfl
  have hc0 : ∀ j, (more ((w.alloc (.cells #[.int .i64 a0, .int .i64 b0, .int .i64 a1, .int .i64 b1] 54)).alloc (.cells #[.int .i64 0, .int .i64 0, .int .i64 0, .int .i64 0] 54)) d1 os0).cell? ⟨w.heap.size, j, none⟩ = (#[.int .i64 a0, .int .i64 b0, .int .i64 a1, .int .i64 b1] : Array Value)[j]? := fun j => by rw [more_cell _ _ _ _ (by simp; omega)]; simp
  have q0 := hc0 0; have q1 := hc0 1; have q2 := hc0 2; have q3 := hc0 3
  simp only [List.getElem?_toArray, List.getElem?_cons_succ, List.getElem?_cons_zero] at q0 q1 q2 q3
  clear hc0
  cases h1 : decide (a0 < a1) with
  | true =>
    cases h2 : decide (b0 < b1) with
    | true =>
      go_big_region_o
      all_goals go_wp2_with fail
      all_goals exact bodyPost_ret (v := .tuple #[.agg #[.int .i64 a0, .int .i64 b0, .int .i64 a1, .int .i64 b1], .bool true]) (by simp [results, Tryz.results171, go_sem]) rfl ⟨by simp at h1 h2 ⊢; omega, bg⟩
    | false =>
      go_big_region_o
      all_goals go_wp2_with fail
      all_goals exact bodyPost_ret (v := .tuple #[.agg #[.int .i64 a0, .int .i64 b0, .int .i64 a1, .int .i64 b1], .bool false]) (by simp [results, Tryz.results171, go_sem]) rfl ⟨by simp at h1 h2 ⊢; omega, bg⟩
  | false =>
    go_big_region_o
    all_goals go_wp2_with fail
    all_goals exact bodyPost_ret (v := .tuple #[.agg #[.int .i64 a0, .int .i64 b0, .int .i64 a1, .int .i64 b1], .bool false]) (by simp [results, Tryz.results171, go_sem]) rfl ⟨by simp at h1 ⊢; omega, bg⟩

def offF (n lo hi : Int) : Int := max (lo - n) (max (n - hi) 0)
theorem off_any (n lo hi : Int) (w : World) (h0 : -4294967296 ≤ n) (h1 : n ≤ 4294967296) (h2 : -4294967296 ≤ lo) (h3 : lo ≤ 4294967296) (h4 : -4294967296 ≤ hi) (h5 : hi ≤ 4294967296) :
    Calls Tryz.prog 172 #[.int .i64 n, .int .i64 lo, .int .i64 hi] w fun e w' => e = .returned (.int .i64 (offF n lo hi)) ∧ w = w' := by
  generalize hr : offF n lo hi = r
  unfold offF at hr
  have HR := Lib.hid hr
  clear hr
  go_enter Tryz.func172, Tryz.ntmps172
  go_wp2
  go_ret
  exact ⟨ret_int HR.out, rfl⟩

def gapF (x0 y0 x1 y1 x y : Int) : Int := if boxOk x0 y0 x1 y1 then max (offF (clampF x) (clampF x0) (clampF x1 - 1)) (offF (clampF y) (clampF y0) (clampF y1 - 1)) else -1

set_option maxRecDepth 100000 in
set_option maxHeartbeats 1000000 in
theorem gap_any (x0 y0 x1 y1 x y : Int) (w : World) :
    Calls Tryz.prog 150 #[.agg #[.int .i64 x0, .int .i64 y0, .int .i64 x1, .int .i64 y1], .int .i64 x, .int .i64 y] w fun e w' => e = .returned (.int .i64 (gapF x0 y0 x1 y1 x y)) ∧ Below w.heap.size w w' := by
  have HBX := Lib.hid (fun W => box_any x0 y0 x1 y1 W)
  have CX := Lib.hid (fun W => clamp_any x W)
  have CY := Lib.hid (fun W => clamp_any y W)
  have l1 := clampF_lo x0; have l2 := clampF_hi x0; have l3 := clampF_lo y0; have l4 := clampF_hi y0
  have l5 := clampF_lo x1; have l6 := clampF_hi x1; have l7 := clampF_lo y1; have l8 := clampF_hi y1
  have m1 := clampF_lo x; have m2 := clampF_hi x; have m3 := clampF_lo y; have m4 := clampF_hi y
  unfold gapF
  cases hok : boxOk x0 y0 x1 y1 with
  | false =>
    rw [hok] at HBX
    simp only [Bool.false_eq_true, if_false]
    generalize clampF x0 = a0 at *
    generalize clampF y0 = b0 at *
    generalize clampF x1 = a1 at *
    generalize clampF y1 = b1 at *
    go_enter Tryz.func150, Tryz.ntmps150
    go_wp2_with (go_at_call 171; refine (HBX.out _).mono ?_; rintro e w' ⟨rfl, hb⟩; obtain ⟨d, os, rfl⟩ := more_of hb; clear hb)
    go_ret
    exact ⟨rfl, bg⟩
  | true =>
    rw [hok] at HBX
    simp only [if_true]
    generalize clampF x0 = a0 at *
    generalize clampF y0 = b0 at *
    generalize clampF x1 = a1 at *
    generalize clampF y1 = b1 at *
    generalize clampF x = cx at *
    generalize clampF y = cy at *
    have O1 := Lib.hid (fun W => off_any cx a0 (a1 - 1) W (by omega) (by omega) (by omega) (by omega) (by omega) (by omega))
    have O2 := Lib.hid (fun W => off_any cy b0 (b1 - 1) W (by omega) (by omega) (by omega) (by omega) (by omega) (by omega))
    have r1 : IntKind.i64.wrap (a1 - 1) = a1 - 1 := by rw [IntKind.wrap_i64]; omega
    have r2 : IntKind.i64.wrap (b1 - 1) = b1 - 1 := by rw [IntKind.wrap_i64]; omega
    generalize offF cx a0 (a1 - 1) = p1 at *
    generalize offF cy b0 (b1 - 1) = p2 at *
    clear l1 l2 l3 l4 l5 l6 l7 l8 m1 m2 m3 m4
    go_enter Tryz.func150, Tryz.ntmps150
    go_wp2_with (go_at_call 171; refine (HBX.out _).mono ?_; rintro e w' ⟨rfl, hb⟩; obtain ⟨d, os, rfl⟩ := more_of hb; clear hb)
    refine wp_region_more (by kernel_rfl) (by kernel_rfl) ?_
    repeat (go_big_quiet_step ((first | (go_at_call 155; with_reducible exact more_same (CX.out _)) | (go_at_call 155; with_reducible exact more_same (CY.out _)) | (go_at_call 172; with_reducible exact more_same (O1.out _)) | (go_at_call 172; with_reducible exact more_same (O2.out _)))))
    refine wpQuiet_nil ?_
    rintro _ ⟨pm, rfl⟩
    go_wp2_with fail
    go_ret
    exact ⟨rfl, bg⟩

theorem rhas_any (x0 y0 x1 y1 x y : Int) (w : World) :
    Calls Tryz.prog 124 #[.agg #[.int .i64 x0, .int .i64 y0, .int .i64 x1, .int .i64 y1], .int .i64 x, .int .i64 y] w fun e w' => e = .returned (.bool (gapF x0 y0 x1 y1 x y == 0)) ∧ Below w.heap.size w w' := by
  have HG := Lib.hid (fun W => gap_any x0 y0 x1 y1 x y W)
  generalize gapF x0 y0 x1 y1 x y = r at *
  go_enter Tryz.func124, Tryz.ntmps124
  go_wp2_with (go_at_call 150; refine (HG.out _).mono ?_; rintro e w' ⟨rfl, hb⟩; obtain ⟨d, os, rfl⟩ := more_of hb; clear hb)
  go_ret
  exact ⟨rfl, bg⟩

theorem gapF_world (X Y x y : Int) (hx0 : 1 ≤ X) (hx1 : X ≤ 1073741823) (hy0 : 1 ≤ Y) (hy1 : Y ≤ 1073741823) : (gapF 0 0 X Y x y == 0) = decide (0 ≤ x ∧ x < X ∧ 0 ≤ y ∧ y < Y) := by
  have e0 : clampF 0 = 0 := by decide
  have e1 : clampF X = X := clampF_id X (by omega) (by omega)
  have e2 : clampF Y = Y := clampF_id Y (by omega) (by omega)
  have hok : boxOk 0 0 X Y = true := by unfold boxOk; rw [e0, e1, e2]; simp; omega
  unfold gapF
  rw [hok, if_pos rfl, e0, e1, e2, Bool.eq_iff_iff, beq_iff_eq, decide_eq_true_iff]
  unfold offF clampF
  omega
end Go.Proofs.YtoimjjhopljdmaaGreat
namespace Go.Proofs.YtoimjjhopljdmaaGreat
open Go.RowKit


theorem rNone_any (x0 y0 x1 y1 : Int) (w : World) :
    Calls Tryz.prog 48 #[.agg #[.int .i64 x0, .int .i64 y0, .int .i64 x1, .int .i64 y1]] w fun e w' => e = .returned (.bool (!boxOk x0 y0 x1 y1)) ∧ Below w.heap.size w w' := by
  unfold boxOk
  have C0 := Lib.hid (fun W => rClamp_any x0 W)
  have C1 := Lib.hid (fun W => rClamp_any y0 W)
  have C2 := Lib.hid (fun W => rClamp_any x1 W)
  have C3 := Lib.hid (fun W => rClamp_any y1 W)
  generalize clampF x0 = a0 at *
  generalize clampF y0 = b0 at *
  generalize clampF x1 = a1 at *
  generalize clampF y1 = b1 at *
  by_cases h1 : a0 < a1
  · have d1 : decide (a1 ≤ a0) = false := decide_eq_false (by omega)
    have e1 : decide (a0 < a1) = true := decide_eq_true h1
    by_cases h2 : b0 < b1
    · have d2 : decide (b1 ≤ b0) = false := decide_eq_false (by omega)
      have e2 : decide (b0 < b1) = true := decide_eq_true h2
      rw [e1, e2]
      go_enter Tryz.func48, Tryz.ntmps48
      go_wp2_with fail
      refine wp_region_more (by kernel_rfl) (by kernel_rfl) ?_
      repeat (go_big_quiet_step ((first | (go_at_call 78; with_reducible exact more_same (C0.out _)) | (go_at_call 78; with_reducible exact more_same (C1.out _)) | (go_at_call 78; with_reducible exact more_same (C2.out _)) | (go_at_call 78; with_reducible exact more_same (C3.out _)))))
      refine wpQuiet_nil ?_
      rintro _ ⟨pm, rfl⟩
      go_wp2_with fail
      go_ret
      exact ⟨rfl, bg⟩
    · have d2 : decide (b1 ≤ b0) = true := decide_eq_true (by omega)
      have e2 : decide (b0 < b1) = false := decide_eq_false h2
      rw [e1, e2]
      go_enter Tryz.func48, Tryz.ntmps48
      go_wp2_with fail
      refine wp_region_more (by kernel_rfl) (by kernel_rfl) ?_
      repeat (go_big_quiet_step ((first | (go_at_call 78; with_reducible exact more_same (C0.out _)) | (go_at_call 78; with_reducible exact more_same (C1.out _)) | (go_at_call 78; with_reducible exact more_same (C2.out _)) | (go_at_call 78; with_reducible exact more_same (C3.out _)))))
      refine wpQuiet_nil ?_
      rintro _ ⟨pm, rfl⟩
      go_wp2_with fail
      go_ret
      exact ⟨rfl, bg⟩
  · have d1 : decide (a1 ≤ a0) = true := decide_eq_true (by omega)
    have e1 : decide (a0 < a1) = false := decide_eq_false h1
    rw [e1]
    go_enter Tryz.func48, Tryz.ntmps48
    go_wp2_with fail
    refine wp_region_more (by kernel_rfl) (by kernel_rfl) ?_
    repeat (go_big_quiet_step ((first | (go_at_call 78; with_reducible exact more_same (C0.out _)) | (go_at_call 78; with_reducible exact more_same (C1.out _)) | (go_at_call 78; with_reducible exact more_same (C2.out _)) | (go_at_call 78; with_reducible exact more_same (C3.out _)))))
    refine wpQuiet_nil ?_
    rintro _ ⟨pm, rfl⟩
    go_wp2_with fail
    go_ret
    exact ⟨rfl, bg⟩

def hasF (x0 y0 x1 y1 x y : Int) : Bool := decide (clampF x0 ≤ clampF x ∧ clampF x < clampF x1 ∧ clampF y0 ≤ clampF y ∧ clampF y < clampF y1)

theorem rHas_any (x0 y0 x1 y1 x y : Int) (w : World) :
    Calls Tryz.prog 42 #[.agg #[.int .i64 x0, .int .i64 y0, .int .i64 x1, .int .i64 y1], .int .i64 x, .int .i64 y] w fun e w' => e = .returned (.bool (hasF x0 y0 x1 y1 x y)) ∧ Below w.heap.size w w' := by
  unfold hasF
  have CX := Lib.hid (fun W => rClamp_any x W)
  have CY := Lib.hid (fun W => rClamp_any y W)
  have C0 := Lib.hid (fun W => rClamp_any x0 W)
  have C1 := Lib.hid (fun W => rClamp_any y0 W)
  have C2 := Lib.hid (fun W => rClamp_any x1 W)
  have C3 := Lib.hid (fun W => rClamp_any y1 W)
  generalize clampF x0 = a0 at *
  generalize clampF y0 = b0 at *
  generalize clampF x1 = a1 at *
  generalize clampF y1 = b1 at *
  generalize clampF x = cx at *
  generalize clampF y = cy at *
  
  by_cases h1 : a0 ≤ cx
  · have d1 : decide (a0 ≤ cx) = true := decide_eq_true h1
    by_cases h2 : cx < a1
    · have d2 : decide (cx < a1) = true := decide_eq_true h2
      by_cases h3 : b0 ≤ cy
      · have d3 : decide (b0 ≤ cy) = true := decide_eq_true h3
        by_cases h4 : cy < b1
        · have d4 : decide (cy < b1) = true := decide_eq_true h4
          rw [show decide (a0 ≤ cx ∧ cx < a1 ∧ b0 ≤ cy ∧ cy < b1) = true from decide_eq_true ⟨h1, h2, h3, h4⟩]
          go_enter Tryz.func42, Tryz.ntmps42
          go_wp2_with fail
          refine (CX.out _).mono ?_; rintro e w' ⟨rfl, rfl⟩
          go_wp2_with fail
          refine (CY.out _).mono ?_; rintro e w' ⟨rfl, rfl⟩
          go_wp2_with fail
          refine (C0.out _).mono ?_; rintro e w' ⟨rfl, rfl⟩
          go_wp2_with fail
          refine (C2.out _).mono ?_; rintro e w' ⟨rfl, rfl⟩
          go_wp2_with fail
          refine (C1.out _).mono ?_; rintro e w' ⟨rfl, rfl⟩
          go_wp2_with fail
          refine (C3.out _).mono ?_; rintro e w' ⟨rfl, rfl⟩
          go_wp2_with fail
          go_ret
          exact ⟨rfl, bg⟩
        · have d4 : decide (cy < b1) = false := decide_eq_false h4
          rw [show decide (a0 ≤ cx ∧ cx < a1 ∧ b0 ≤ cy ∧ cy < b1) = false from decide_eq_false (by omega)]
          go_enter Tryz.func42, Tryz.ntmps42
          go_wp2_with fail
          refine (CX.out _).mono ?_; rintro e w' ⟨rfl, rfl⟩
          go_wp2_with fail
          refine (CY.out _).mono ?_; rintro e w' ⟨rfl, rfl⟩
          go_wp2_with fail
          refine (C0.out _).mono ?_; rintro e w' ⟨rfl, rfl⟩
          go_wp2_with fail
          refine (C2.out _).mono ?_; rintro e w' ⟨rfl, rfl⟩
          go_wp2_with fail
          refine (C1.out _).mono ?_; rintro e w' ⟨rfl, rfl⟩
          go_wp2_with fail
          refine (C3.out _).mono ?_; rintro e w' ⟨rfl, rfl⟩
          go_wp2_with fail
          go_ret
          exact ⟨rfl, bg⟩
      · have d3 : decide (b0 ≤ cy) = false := decide_eq_false h3
        rw [show decide (a0 ≤ cx ∧ cx < a1 ∧ b0 ≤ cy ∧ cy < b1) = false from decide_eq_false (by omega)]
        go_enter Tryz.func42, Tryz.ntmps42
        go_wp2_with fail
        refine (CX.out _).mono ?_; rintro e w' ⟨rfl, rfl⟩
        go_wp2_with fail
        refine (CY.out _).mono ?_; rintro e w' ⟨rfl, rfl⟩
        go_wp2_with fail
        refine (C0.out _).mono ?_; rintro e w' ⟨rfl, rfl⟩
        go_wp2_with fail
        refine (C2.out _).mono ?_; rintro e w' ⟨rfl, rfl⟩
        go_wp2_with fail
        refine (C1.out _).mono ?_; rintro e w' ⟨rfl, rfl⟩
        go_wp2_with fail
        go_ret
        exact ⟨rfl, bg⟩
    · have d2 : decide (cx < a1) = false := decide_eq_false h2
      rw [show decide (a0 ≤ cx ∧ cx < a1 ∧ b0 ≤ cy ∧ cy < b1) = false from decide_eq_false (by omega)]
      go_enter Tryz.func42, Tryz.ntmps42
      go_wp2_with fail
      refine (CX.out _).mono ?_; rintro e w' ⟨rfl, rfl⟩
      go_wp2_with fail
      refine (CY.out _).mono ?_; rintro e w' ⟨rfl, rfl⟩
      go_wp2_with fail
      refine (C0.out _).mono ?_; rintro e w' ⟨rfl, rfl⟩
      go_wp2_with fail
      refine (C2.out _).mono ?_; rintro e w' ⟨rfl, rfl⟩
      go_wp2_with fail
      go_ret
      exact ⟨rfl, bg⟩
  · have d1 : decide (a0 ≤ cx) = false := decide_eq_false h1
    rw [show decide (a0 ≤ cx ∧ cx < a1 ∧ b0 ≤ cy ∧ cy < b1) = false from decide_eq_false (by omega)]
    go_enter Tryz.func42, Tryz.ntmps42
    go_wp2_with fail
    refine (CX.out _).mono ?_; rintro e w' ⟨rfl, rfl⟩
    go_wp2_with fail
    refine (CY.out _).mono ?_; rintro e w' ⟨rfl, rfl⟩
    go_wp2_with fail
    refine (C0.out _).mono ?_; rintro e w' ⟨rfl, rfl⟩
    go_wp2_with fail
    go_ret
    exact ⟨rfl, bg⟩

end Go.Proofs.YtoimjjhopljdmaaGreat
namespace Go.Proofs.YtoimjjhopljdmaaGreat
open Go.RowKit

theorem within_any (h : Bool) (n lo hi : Int) (w : World) :
    Calls Tryz.prog 149 #[.bool h, .int .i64 n, .int .i64 lo, .int .i64 hi] w fun e w' => e = .returned (.bool (withinB h n lo hi)) ∧ w = w' := by
  cases h
  · go_enter Tryz.func149, Tryz.ntmps149
    go_wp2
    go_ret
    exact ⟨rfl, rfl⟩
  · by_cases h1 : lo ≤ n
    · go_enter Tryz.func149, Tryz.ntmps149
      go_wp2
      go_ret
      exact ⟨by simp [withinB, inR]; omega, rfl⟩
    · go_enter Tryz.func149, Tryz.ntmps149
      go_wp2
      go_ret
      exact ⟨by simp [withinB, inR]; omega, rfl⟩

theorem has_any (s i g m x y vx vy hp pw lf k : Int) (w : World) :
    Calls Tryz.prog 136 #[.agg #[.int .i64 s, .int .i64 i, .int .i64 g, .int .i64 m, .int .i64 x, .int .i64 y, .int .i64 vx, .int .i64 vy, .int .i64 hp, .int .i64 pw, .int .i64 lf], .int .i64 k] w fun e w' => e = .returned (.bool (hasB m k)) ∧ Below w.heap.size w w' := by
  go_enter Tryz.func136, Tryz.ntmps136
  go_wp2
  go_ret
  exact ⟨rfl, (Below.refl _ _).alloc (Nat.le_refl _) _⟩

set_option maxHeartbeats 400000 in
theorem checkID_any (s i g : Int) (w : World) :
    Calls Tryz.prog 120 #[.agg #[.int .i64 s, .int .i64 i, .int .i64 g]] w fun e w' => e = .returned (.int .i64 (errB (idOk s i g))) ∧ Below w.heap.size w w' := by
  generalize hr : errB _ = r
  have HR := Lib.hid hr
  clear hr
  go_enter Tryz.func120, Tryz.ntmps120
  go_wp2_with (go_at_call 149; refine (within_any _ _ _ _ _).mono ?_; rintro e w' ⟨rfl, rfl⟩)
  all_goals go_ret
  all_goals refine ⟨?_, by go_grown⟩
  all_goals go_tidy
  all_goals (have h := HR.out; rw [← h]; simp_all [errB, idOk, withinB])

theorem some_any (m : Int) (w : World) : Calls Tryz.prog 122 #[.int .i64 m] w fun e w' => e = .returned (.bool (someB m)) ∧ w = w' := by
  generalize hr : someB m = r
  have HR := Lib.hid hr
  clear hr
  go_enter Tryz.func122, Tryz.ntmps122
  go_wp2
  all_goals go_ret
  all_goals refine ⟨?_, rfl⟩
  all_goals go_tidy
  all_goals (have h := HR.out; rw [← h]; simp [someB, *]; try omega)

set_option maxHeartbeats 4000000 in
theorem right_any (s i g m x y vx vy hp pw lf : Int) (w : World) :
    Calls Tryz.prog 123 #[.agg #[.int .i64 s, .int .i64 i, .int .i64 g, .int .i64 m, .int .i64 x, .int .i64 y, .int .i64 vx, .int .i64 vy, .int .i64 hp, .int .i64 pw, .int .i64 lf]] w fun e w' => e = .returned (.bool (rightB ⟨s, i, g, m, x, y, vx, vy, hp, pw, lf⟩)) ∧ Below w.heap.size w w' := by
  generalize hr : rightB _ = r
  unfold rightB at hr
  have HR := Lib.hid hr
  clear hr
  by_cases hm : 0 ≤ m ∧ m ≤ 31
  · obtain ⟨hm0, hm1⟩ := hm
    go_enter Tryz.func123, Tryz.ntmps123
    go_wp2_with fail
    go_region_held3 (fun W => (Below w.heap.size w W ∧ w.heap.size ≤ W.heap.size ∧ w.heap.size < W.heap.size) ∧ ∀ j, W.cell? ⟨w.heap.size, j, none⟩ = (#[.int .i64 s, .int .i64 i, .int .i64 g, .int .i64 m, .int .i64 x, .int .i64 y, .int .i64 vx, .int .i64 vy, .int .i64 hp, .int .i64 pw, .int .i64 lf] : Array Value)[j]?) (first | exact box_new _ _ _ | exact box_keep hb (by assumption))
      (first | (go_at_call 136; refine (has_any _ _ _ _ _ _ _ _ _ _ _ _ _).mono ?_; rintro e w' ⟨rfl, hb⟩))
    go_wp2_with fail
    go_region_held3 (fun W => (Below w.heap.size w W ∧ w.heap.size ≤ W.heap.size ∧ w.heap.size < W.heap.size) ∧ ∀ j, W.cell? ⟨w.heap.size, j, none⟩ = (#[.int .i64 s, .int .i64 i, .int .i64 g, .int .i64 m, .int .i64 x, .int .i64 y, .int .i64 vx, .int .i64 vy, .int .i64 hp, .int .i64 pw, .int .i64 lf] : Array Value)[j]?) (first | exact box_keep hb (by assumption) | exact box_alloc _ (by assumption) | exact box_drew (by assumption))
      (first | (go_at_call 136; refine (has_any _ _ _ _ _ _ _ _ _ _ _ _ _).mono ?_; rintro e w' ⟨rfl, hb⟩))
    go_wp2_with fail
    rename_i hH
    obtain ⟨⟨hB, hsz, -⟩, -⟩ := hH
    simp only [World.size_alloc] at hsz
    refine wp_loop_rounds 8 ?_
    repeat any_goals (rw [rounds_succ]; go_wp2_with (go_at_call 149; refine (within_any _ _ _ _ _).mono ?_; rintro e w' ⟨rfl, rfl⟩))
    all_goals go_ret
    all_goals refine ⟨?_, by go_grown⟩
    all_goals clear hB hsz
    all_goals go_tidy
    all_goals (have h := HR.out; rw [← h]; simp only [Bool.not_eq_true', Bool.not_eq_false'] at *; simp [*, inR])
  · go_enter Tryz.func123, Tryz.ntmps123
    go_wp2_with fail
    all_goals go_ret
    all_goals refine ⟨?_, by go_grown⟩
    all_goals go_tidy
    all_goals (have h := HR.out; rw [← h]; simp [inR]; omega)

end Go.Proofs.YtoimjjhopljdmaaGreat
namespace Go.Proofs.YtoimjjhopljdmaaGreat
open Go.RowKit

theorem tmod_two (m : Int) : m.tmod 2 = if m % 2 = 0 then 0 else if m < 0 then -1 else 1 := by
  rcases Int.lt_or_le m 0 with h | h
  · have e : m.tmod 2 = -((-m) % 2) := by
      have := Int.neg_tmod (-m) 2
      rw [Int.neg_neg] at this
      rw [this, Int.tmod_eq_emod_of_nonneg (by omega)]
    rw [e]
    split <;> omega
  · rw [Int.tmod_eq_emod_of_nonneg h]
    split <;> omega

theorem tdiv_two (m : Int) : m.tdiv 2 = if m % 2 = 0 then m / 2 else if m < 0 then m / 2 + 1 else m / 2 := by
  have h := Int.tmod_add_mul_tdiv m 2
  rw [tmod_two] at h
  split at h <;> omega

theorem wrap64_at (n : Int) (h0 : -9223372036854775808 ≤ n) (h1 : n ≤ 9223372036854775807) : wrap64 n = n := by unfold wrap64; omega

theorem half_neg_odd (m : Int) (h0 : -9223372036854775808 ≤ m) (h1 : m < 0) (h2 : (m.tmod 2 != 0) = true) : wrap64 ((wrap64 (m - 1)).tdiv 2) = m / 2 := by
  rw [bne_iff_ne, tmod_two] at h2
  have ho : m % 2 ≠ 0 := by intro h; simp [h] at h2
  rw [wrap64_at (m - 1) (by omega) (by omega), tdiv_two, if_pos (by omega), wrap64_at _ (by omega) (by omega)]
  omega

theorem half_neg_even (m : Int) (h0 : -9223372036854775808 ≤ m) (h1 : m < 0) (h2 : (m.tmod 2 != 0) = false) : wrap64 (m.tdiv 2) = m / 2 := by
  rw [bne_eq_false_iff_eq, tmod_two] at h2
  have ho : m % 2 = 0 := by
    by_cases h : m % 2 = 0
    · exact h
    · rw [if_neg h] at h2; split at h2 <;> omega
  rw [tdiv_two, if_pos ho, wrap64_at _ (by omega) (by omega)]

theorem half_any (m : Int) (w : World) (h0 : -9223372036854775808 ≤ m) (h1 : m ≤ 9223372036854775807) : Calls Tryz.prog 77 #[.int .i64 m] w fun e w' => e = .returned (.int .i64 (m / 2)) ∧ w = w' := by
  generalize hr : m / 2 = r
  have HR := Lib.hid hr
  clear hr
  have H0 := Lib.hid h0
  clear h0
  go_enter Tryz.func77, Tryz.ntmps77
  go_wp2
  · go_ret
    refine ⟨?_, rfl⟩
    rw [← HR.out]
    exact congrArg (fun n => Ending.returned (Value.int .i64 n)) (half_neg_odd m H0.out (by assumption) (by assumption))
  · go_ret
    refine ⟨?_, rfl⟩
    rw [← HR.out]
    exact congrArg (fun n => Ending.returned (Value.int .i64 n)) (half_neg_even m H0.out (by assumption) (by assumption))
  · go_ret
    exact ⟨by rw [← HR.out]; rfl, rfl⟩

theorem bit_end (q : Int) : (q.tmod 2 != 0) = !(q % 2 == 0) := by
  rw [tmod_two]
  by_cases h : q % 2 = 0
  · simp [h]
  · by_cases h2 : q < 0 <;> simp [h, h2]

set_option maxHeartbeats 1000000 in
theorem bit_any (m c : Int) (w : World) (h0 : -9223372036854775808 ≤ m) (h1 : m ≤ 9223372036854775807) (hc : c = 1 ∨ c = 2 ∨ c = 4 ∨ c = 8 ∨ c = 16) :
    Calls Tryz.prog 41 #[.int .i64 m, .int .i64 c] w fun e w' => e = .returned (.bool (tb m c)) ∧ w = w' := by
  generalize hr : tb m c = r
  have HR := Lib.hid hr
  clear hr
  rcases hc with rfl | rfl | rfl | rfl | rfl
  all_goals
    go_enter Tryz.func41, Tryz.ntmps41
    go_wp2_with fail
    refine wp_loop_rounds 5 ?_
    repeat any_goals (rw [rounds_succ]; go_wp2_with (go_at_call 77; refine (half_any _ _ (by omega) (by omega)).mono ?_; rintro e w' ⟨rfl, rfl⟩))
    go_ret
    refine ⟨?_, rfl⟩
    rw [← HR.out]
    unfold tb
    refine congrArg (fun b => Ending.returned (Value.bool b)) ?_
    refine (bit_end _).trans ?_
    refine congrArg (fun n : Int => !(n % 2 == 0)) ?_
    omega

end Go.Proofs.YtoimjjhopljdmaaGreat
