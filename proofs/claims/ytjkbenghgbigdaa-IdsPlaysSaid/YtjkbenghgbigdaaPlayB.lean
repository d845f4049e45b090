/-
  Chapter 8's laws: step: a deed is done to both pools alike. No condition.
-/
import Derived.Test.YtjkbenghgbigdaaPlayA
namespace Go.Proofs.Ytjkbenghgbigdaa
open Go.RowKit

/-- Both stand alike behind a deed. -/
def Play (w0 w' : World) (P : Nat) (R : RLay) (ids : Nat) (c : Int) : Prop := ∃ (L : Lay) (M : List Sh), Pl w0 w' L M P R ids c M

theorem Pl.more {w0 W : World} {L : Lay} {M : List Sh} {P : Nat} {R : RLay} {ids : Nat} {c : Int} {N : List Sh} (h : Pl w0 W L M P R ids c N) : Pl w0 W L M P R ids (c + 1) N := by
  obtain ⟨rw, put, h1, h2, h3⟩ := h.r
  exact ⟨h.st, ⟨rw, put, h1, h2, by omega⟩, h.ap, h.ro⟩

variable (w0 w : World) (L : Lay) (M : List Sh) (P : Nat) (R : RLay) (ids : Nat) (c : Int)

set_option maxRecDepth 100000 in
set_option maxHeartbeats 4000000 in
theorem step_reserve (h : Pl w0 w L M P R ids c M) (kd s i g : Int) (hk : kd = 0 ∨ kd = 1) : Calls Try.prog 46 #[.pointer (some ⟨P, 0, none⟩), .pointer (some ⟨R.p, 0, none⟩), .agg #[.int .i64 kd, .int .i64 s, .int .i64 i, .int .i64 g]] w fun e w' => e = .returned (.bool true) ∧ Play w0 w' P R ids (c + 1) := by
  have HP := Lib.hid h
  clear h
  rcases hk with rfl | rfl
  all_goals
    go_enter Try.func46, Try.ntmps46
    go_wp2_with fail
    refine wp_region_more (by kernel_rfl) (by kernel_rfl) ?_
    repeat (go_big_quiet_step (fail))
    refine wpQuiet_nil ?_
    rintro _ ⟨pn, rfl⟩
    go_wp2_with fail
    refine (reserve_p _ L _ _ HP.out.st.hP (HP.out.grow (by repeat' (first | (with_reducible exact Below.refl _ _) | (with_reducible assumption) | (with_reducible refine below_drewN ?_ _) | (with_reducible refine below_more _ _ _ ?_ ?_) | (with_reducible refine Below.alloc ?_ ?_ _) | (with_reducible refine Below.drew ?_) | (with_reducible refine Below.setCell ?_ ?_ _) | go_size))).st.hp s i).mono ?_
    rintro e w1 ⟨rfl, hs⟩
    obtain ⟨L1, h1, k1, o1⟩ := (HP.out.grow (by repeat' (first | (with_reducible exact Below.refl _ _) | (with_reducible assumption) | (with_reducible refine below_drewN ?_ _) | (with_reducible refine below_more _ _ _ ?_ ?_) | (with_reducible refine Below.alloc ?_ ?_ _) | (with_reducible refine Below.drew ?_) | (with_reducible refine Below.setCell ?_ ?_ _) | go_size))).wentP hs
    have H1 := Lib.hid h1
    clear hs h1
    go_wp2_with fail
    refine (rreserve_any _ R ids _ (H1.out.grow (by repeat' (first | (with_reducible exact Below.refl _ _) | (with_reducible assumption) | (with_reducible refine below_drewN ?_ _) | (with_reducible refine below_more _ _ _ ?_ ?_) | (with_reducible refine Below.alloc ?_ ?_ _) | (with_reducible refine Below.drew ?_) | (with_reducible refine Below.setCell ?_ ?_ _) | go_size))).r s i).mono ?_
    rintro e w2 ⟨rfl, hs⟩
    obtain ⟨h2, k2⟩ := (H1.out.grow (by repeat' (first | (with_reducible exact Below.refl _ _) | (with_reducible assumption) | (with_reducible refine below_drewN ?_ _) | (with_reducible refine below_more _ _ _ ?_ ?_) | (with_reducible refine Below.alloc ?_ ?_ _) | (with_reducible refine Below.drew ?_) | (with_reducible refine Below.setCell ?_ ?_ _) | go_size))).wentR hs
    have H2 := Lib.hid h2
    clear hs h2
    go_wp2_with fail
    go_ret
    exact ⟨by simp, L1, _, (H2.out.grow (by repeat' (first | (with_reducible exact Below.refl _ _) | (with_reducible assumption) | (with_reducible refine below_drewN ?_ _) | (with_reducible refine below_more _ _ _ ?_ ?_) | (with_reducible refine Below.alloc ?_ ?_ _) | (with_reducible refine Below.drew ?_) | (with_reducible refine Below.setCell ?_ ?_ _) | go_size))).more⟩

set_option maxRecDepth 100000 in
set_option maxHeartbeats 4000000 in
theorem step_issue (h : Pl w0 w L M P R ids c M) (kd s i g : Int) (hk : kd = 2 ∨ kd = 3) : Calls Try.prog 46 #[.pointer (some ⟨P, 0, none⟩), .pointer (some ⟨R.p, 0, none⟩), .agg #[.int .i64 kd, .int .i64 s, .int .i64 i, .int .i64 g]] w fun e w' => e = .returned (.bool true) ∧ Play w0 w' P R ids (c + 1) := by
  have HP := Lib.hid h
  have HI := Lib.hid fun W (hW : Below w.heap.size w W) => issue_p W L M P h.st.hP (h.grow hW).st.hp s
  have HR := Lib.hid fun W (hW : RPool W R ids c M) => rissue_any W R ids M hW s
  clear h
  generalize issueF M s = q at *
  obtain ⟨⟨a, b, d⟩, er, M'⟩ := q
  have heq : idEq a b d a b d = true := by simp [idEq]
  rcases hk with rfl | rfl
  all_goals
    go_enter Try.func46, Try.ntmps46
    go_wp2_with fail
    refine wp_region_more (by kernel_rfl) (by kernel_rfl) ?_
    repeat (go_big_quiet_step (fail))
    refine wpQuiet_nil ?_
    rintro _ ⟨pn, rfl⟩
    go_wp2_with fail
    refine (HI.out _ (by repeat' (first | (with_reducible exact Below.refl _ _) | (with_reducible assumption) | (with_reducible refine below_drewN ?_ _) | (with_reducible refine below_more _ _ _ ?_ ?_) | (with_reducible refine Below.alloc ?_ ?_ _) | (with_reducible refine Below.drew ?_) | (with_reducible refine Below.setCell ?_ ?_ _) | go_size))).mono ?_
    rintro e w1 ⟨rfl, hs⟩
    obtain ⟨L1, h1, k1, o1⟩ := (HP.out.grow (by repeat' (first | (with_reducible exact Below.refl _ _) | (with_reducible assumption) | (with_reducible refine below_drewN ?_ _) | (with_reducible refine below_more _ _ _ ?_ ?_) | (with_reducible refine Below.alloc ?_ ?_ _) | (with_reducible refine Below.drew ?_) | (with_reducible refine Below.setCell ?_ ?_ _) | go_size))).wentP hs
    have H1 := Lib.hid h1
    have bx := Box2.new h1 #[.int .i64 a, .int .i64 b, .int .i64 d] 30
    clear hs h1
    go_wp2_with fail
    refine (HR.out _ (H1.out.grow (by repeat' (first | (with_reducible exact Below.refl _ _) | (with_reducible assumption) | (with_reducible refine below_drewN ?_ _) | (with_reducible refine below_more _ _ _ ?_ ?_) | (with_reducible refine Below.alloc ?_ ?_ _) | (with_reducible refine Below.drew ?_) | (with_reducible refine Below.setCell ?_ ?_ _) | go_size))).r).mono ?_
    rintro e w2 ⟨rfl, hs⟩
    obtain ⟨h2, k2⟩ := (H1.out.grow (by repeat' (first | (with_reducible exact Below.refl _ _) | (with_reducible assumption) | (with_reducible refine below_drewN ?_ _) | (with_reducible refine below_more _ _ _ ?_ ?_) | (with_reducible refine Below.alloc ?_ ?_ _) | (with_reducible refine Below.drew ?_) | (with_reducible refine Below.setCell ?_ ?_ _) | go_size))).wentR hs
    have H2 := Lib.hid h2
    have bx2 := bx.wentR k2
    have a1 := bx2.1
    have a2 := bx2.2.2.2
    obtain ⟨y0, y1, y2, y3⟩ := lts a1
    clear hs h2 bx bx2 k2 k1 o1
    go_wp2_with fail
    go_ret
    exact ⟨rfl, L1, _, (H2.out.grow (by repeat' (first | (with_reducible exact Below.refl _ _) | (with_reducible assumption) | (with_reducible refine below_drewN ?_ _) | (with_reducible refine below_more _ _ _ ?_ ?_) | (with_reducible refine Below.alloc ?_ ?_ _) | (with_reducible refine Below.drew ?_) | (with_reducible refine Below.setCell ?_ ?_ _) | go_size))).more⟩
set_option maxRecDepth 100000 in
set_option maxHeartbeats 4000000 in
theorem step_lapse (h : Pl w0 w L M P R ids c M) (kd s i g : Int) (hk : kd = 7) : Calls Try.prog 46 #[.pointer (some ⟨P, 0, none⟩), .pointer (some ⟨R.p, 0, none⟩), .agg #[.int .i64 kd, .int .i64 s, .int .i64 i, .int .i64 g]] w fun e w' => e = .returned (.bool true) ∧ Play w0 w' P R ids (c + 1) := by
  have HP := Lib.hid h
  clear h
  rcases hk with rfl
  all_goals
    go_enter Try.func46, Try.ntmps46
    go_wp2_with fail
    refine wp_region_more (by kernel_rfl) (by kernel_rfl) ?_
    repeat (go_big_quiet_step (fail))
    refine wpQuiet_nil ?_
    rintro _ ⟨pn, rfl⟩
    go_wp2_with fail
    refine (lapse_p _ L _ _ HP.out.st.hP (HP.out.grow (by repeat' (first | (with_reducible exact Below.refl _ _) | (with_reducible assumption) | (with_reducible refine below_drewN ?_ _) | (with_reducible refine below_more _ _ _ ?_ ?_) | (with_reducible refine Below.alloc ?_ ?_ _) | (with_reducible refine Below.drew ?_) | (with_reducible refine Below.setCell ?_ ?_ _) | go_size))).st.hp ).mono ?_
    rintro e w1 ⟨rfl, hs⟩
    obtain ⟨L1, h1, k1, o1⟩ := (HP.out.grow (by repeat' (first | (with_reducible exact Below.refl _ _) | (with_reducible assumption) | (with_reducible refine below_drewN ?_ _) | (with_reducible refine below_more _ _ _ ?_ ?_) | (with_reducible refine Below.alloc ?_ ?_ _) | (with_reducible refine Below.drew ?_) | (with_reducible refine Below.setCell ?_ ?_ _) | go_size))).wentP hs
    have H1 := Lib.hid h1
    clear hs h1
    go_wp2_with fail
    refine (rlapse_any _ R ids _ (H1.out.grow (by repeat' (first | (with_reducible exact Below.refl _ _) | (with_reducible assumption) | (with_reducible refine below_drewN ?_ _) | (with_reducible refine below_more _ _ _ ?_ ?_) | (with_reducible refine Below.alloc ?_ ?_ _) | (with_reducible refine Below.drew ?_) | (with_reducible refine Below.setCell ?_ ?_ _) | go_size))).r ).mono ?_
    rintro e w2 ⟨rfl, hs⟩
    obtain ⟨h2, k2⟩ := (H1.out.grow (by repeat' (first | (with_reducible exact Below.refl _ _) | (with_reducible assumption) | (with_reducible refine below_drewN ?_ _) | (with_reducible refine below_more _ _ _ ?_ ?_) | (with_reducible refine Below.alloc ?_ ?_ _) | (with_reducible refine Below.drew ?_) | (with_reducible refine Below.setCell ?_ ?_ _) | go_size))).wentR hs
    have H2 := Lib.hid h2
    clear hs h2
    go_wp2_with fail
    go_ret
    exact ⟨by simp, L1, _, (H2.out.grow (by repeat' (first | (with_reducible exact Below.refl _ _) | (with_reducible assumption) | (with_reducible refine below_drewN ?_ _) | (with_reducible refine below_more _ _ _ ?_ ?_) | (with_reducible refine Below.alloc ?_ ?_ _) | (with_reducible refine Below.drew ?_) | (with_reducible refine Below.setCell ?_ ?_ _) | go_size))).more⟩



set_option maxRecDepth 100000 in
set_option maxHeartbeats 4000000 in
theorem step_take (h : Pl w0 w L M P R ids c M) (s i g : Int) : Calls Try.prog 46 #[.pointer (some ⟨P, 0, none⟩), .pointer (some ⟨R.p, 0, none⟩), .agg #[.int .i64 4, .int .i64 s, .int .i64 i, .int .i64 g]] w fun e w' => e = .returned (.bool true) ∧ Play w0 w' P R ids (c + 1) := by
  have HP := Lib.hid h
  have HI := Lib.hid fun W (hW : Below w.heap.size w W) => take_p W L M P h.st.hP (h.grow hW).st.hp s i g
  have HR := Lib.hid fun W (hW : RPool W R ids c M) => rtake_any W R ids M hW s i g
  have HNB := Lib.hid fun e => (by have := h.r.lt e; simp only at this; omega : ¬ R.own (⟨w.heap.size, 0, none⟩ : Addr).block) e
  clear h
  generalize takeF M s i g = q at *
  obtain ⟨er, M'⟩ := q
  go_enter Try.func46, Try.ntmps46
  go_wp2_with fail
  refine wp_region_more (by kernel_rfl) (by kernel_rfl) ?_
  repeat (go_big_quiet_step (fail))
  refine wpQuiet_nil ?_
  rintro _ ⟨pn, rfl⟩
  go_wp2_with fail
  go_region_held3 (fun W => W.cell? ⟨w.heap.size, 1, none⟩ = some (.int .i64 s) ∧ W.cell? ⟨w.heap.size, 2, none⟩ = some (.int .i64 i) ∧ W.cell? ⟨w.heap.size, 3, none⟩ = some (.int .i64 g)) ((refine ⟨?_, ?_, ?_⟩ <;> first | assumption | (simp [go_sem]; done))) (first | (go_at_call 42; refine (HI.out _ (by repeat' (first | (with_reducible exact Below.refl _ _) | (with_reducible assumption) | (with_reducible refine below_drewN ?_ _) | (with_reducible refine below_more _ _ _ ?_ ?_) | (with_reducible refine Below.alloc ?_ ?_ _) | (with_reducible refine Below.drew ?_) | (with_reducible refine Below.setCell ?_ ?_ _) | go_size))).mono ?_; rintro e w1 ⟨rfl, hs⟩; obtain ⟨L1, h1, k1, o1⟩ := (HP.out.grow (by repeat' (first | (with_reducible exact Below.refl _ _) | (with_reducible assumption) | (with_reducible refine below_drewN ?_ _) | (with_reducible refine below_more _ _ _ ?_ ?_) | (with_reducible refine Below.alloc ?_ ?_ _) | (with_reducible refine Below.drew ?_) | (with_reducible refine Below.setCell ?_ ?_ _) | go_size))).wentP hs; have H1 := Lib.hid h1; have bx := ((Box2.new HP.out #[.int .i64 4, .int .i64 s, .int .i64 i, .int .i64 g] 71).grow (by repeat' (first | (with_reducible exact Below.refl _ _) | (with_reducible assumption) | (with_reducible refine below_drewN ?_ _) | (with_reducible refine below_more _ _ _ ?_ ?_) | (with_reducible refine Below.alloc ?_ ?_ _) | (with_reducible refine Below.drew ?_) | (with_reducible refine Below.setCell ?_ ?_ _) | go_size))).wentP k1 o1; have q1 := bx.2.2.2 1; have q2 := bx.2.2.2 2; have q3 := bx.2.2.2 3; simp at q1 q2 q3; have q4 := bx.1; clear hs h1 bx k1 o1) | (go_at_call 70; refine (HR.out _ (H1.out.grow (by repeat' (first | (with_reducible exact Below.refl _ _) | (with_reducible assumption) | (with_reducible refine below_drewN ?_ _) | (with_reducible refine below_more _ _ _ ?_ ?_) | (with_reducible refine Below.alloc ?_ ?_ _) | (with_reducible refine Below.drew ?_) | (with_reducible refine Below.setCell ?_ ?_ _) | go_size))).r).mono ?_; rintro e w2 ⟨rfl, hs⟩; obtain ⟨h2, k2⟩ := (H1.out.grow (by repeat' (first | (with_reducible exact Below.refl _ _) | (with_reducible assumption) | (with_reducible refine below_drewN ?_ _) | (with_reducible refine below_more _ _ _ ?_ ?_) | (with_reducible refine Below.alloc ?_ ?_ _) | (with_reducible refine Below.drew ?_) | (with_reducible refine Below.setCell ?_ ?_ _) | go_size))).wentR hs; have H2 := Lib.hid h2; have z1 := (k2.cell (a := ⟨w.heap.size, 1, none⟩) (by simp; omega) HNB.out).trans (by simpa [go_sem] using q1); have z2 := (k2.cell (a := ⟨w.heap.size, 2, none⟩) (by simp; omega) HNB.out).trans (by simpa [go_sem] using q2); have z3 := (k2.cell (a := ⟨w.heap.size, 3, none⟩) (by simp; omega) HNB.out).trans (by simpa [go_sem] using q3); clear hs h2 k2))
  go_wp2_with fail
  go_ret
  exact ⟨by simp, L1, _, (H2.out.grow (by repeat' (first | (with_reducible exact Below.refl _ _) | (with_reducible assumption) | (with_reducible refine below_drewN ?_ _) | (with_reducible refine below_more _ _ _ ?_ ?_) | (with_reducible refine Below.alloc ?_ ?_ _) | (with_reducible refine Below.drew ?_) | (with_reducible refine Below.setCell ?_ ?_ _) | go_size))).more⟩

set_option maxRecDepth 100000 in
set_option maxHeartbeats 4000000 in
theorem step_free5 (h : Pl w0 w L M P R ids c M) (s i g : Int) (hc : c ≤ 1000000000) : Calls Try.prog 46 #[.pointer (some ⟨P, 0, none⟩), .pointer (some ⟨R.p, 0, none⟩), .agg #[.int .i64 5, .int .i64 s, .int .i64 i, .int .i64 g]] w fun e w' => e = .returned (.bool true) ∧ Play w0 w' P R ids (c + 1) := by
  have HP := Lib.hid h
  have HI := Lib.hid fun W (hW : Below w.heap.size w W) => free_p W L M P h.st.hP (h.grow hW).st.hp s i g
  have HR := Lib.hid fun W (hW : RPool W R ids c M) => rfree_any W R ids M hW hc s i g
  have HNB := Lib.hid fun e => (by have := h.r.lt e; simp only at this; omega : ¬ R.own (⟨w.heap.size, 0, none⟩ : Addr).block) e
  clear h
  generalize freeF M s i g = q at *
  obtain ⟨er, M'⟩ := q
  go_enter Try.func46, Try.ntmps46
  go_wp2_with fail
  refine wp_region_more (by kernel_rfl) (by kernel_rfl) ?_
  repeat (go_big_quiet_step (fail))
  refine wpQuiet_nil ?_
  rintro _ ⟨pn, rfl⟩
  go_wp2_with fail
  go_region_held3 (fun W => W.cell? ⟨w.heap.size, 1, none⟩ = some (.int .i64 s) ∧ W.cell? ⟨w.heap.size, 2, none⟩ = some (.int .i64 i) ∧ W.cell? ⟨w.heap.size, 3, none⟩ = some (.int .i64 g)) ((refine ⟨?_, ?_, ?_⟩ <;> first | assumption | (simp [go_sem]; done))) (first | (go_at_call 21; refine (HI.out _ (by repeat' (first | (with_reducible exact Below.refl _ _) | (with_reducible assumption) | (with_reducible refine below_drewN ?_ _) | (with_reducible refine below_more _ _ _ ?_ ?_) | (with_reducible refine Below.alloc ?_ ?_ _) | (with_reducible refine Below.drew ?_) | (with_reducible refine Below.setCell ?_ ?_ _) | go_size))).mono ?_; rintro e w1 ⟨rfl, hs⟩; obtain ⟨L1, h1, k1, o1⟩ := (HP.out.grow (by repeat' (first | (with_reducible exact Below.refl _ _) | (with_reducible assumption) | (with_reducible refine below_drewN ?_ _) | (with_reducible refine below_more _ _ _ ?_ ?_) | (with_reducible refine Below.alloc ?_ ?_ _) | (with_reducible refine Below.drew ?_) | (with_reducible refine Below.setCell ?_ ?_ _) | go_size))).wentP hs; have H1 := Lib.hid h1; have bx := ((Box2.new HP.out #[.int .i64 5, .int .i64 s, .int .i64 i, .int .i64 g] 71).grow (by repeat' (first | (with_reducible exact Below.refl _ _) | (with_reducible assumption) | (with_reducible refine below_drewN ?_ _) | (with_reducible refine below_more _ _ _ ?_ ?_) | (with_reducible refine Below.alloc ?_ ?_ _) | (with_reducible refine Below.drew ?_) | (with_reducible refine Below.setCell ?_ ?_ _) | go_size))).wentP k1 o1; have q1 := bx.2.2.2 1; have q2 := bx.2.2.2 2; have q3 := bx.2.2.2 3; simp at q1 q2 q3; have q4 := bx.1; clear hs h1 bx k1 o1) | (go_at_call 71; refine (HR.out _ (H1.out.grow (by repeat' (first | (with_reducible exact Below.refl _ _) | (with_reducible assumption) | (with_reducible refine below_drewN ?_ _) | (with_reducible refine below_more _ _ _ ?_ ?_) | (with_reducible refine Below.alloc ?_ ?_ _) | (with_reducible refine Below.drew ?_) | (with_reducible refine Below.setCell ?_ ?_ _) | go_size))).r).mono ?_; rintro e w2 ⟨rfl, hs⟩; obtain ⟨h2, k2⟩ := (H1.out.grow (by repeat' (first | (with_reducible exact Below.refl _ _) | (with_reducible assumption) | (with_reducible refine below_drewN ?_ _) | (with_reducible refine below_more _ _ _ ?_ ?_) | (with_reducible refine Below.alloc ?_ ?_ _) | (with_reducible refine Below.drew ?_) | (with_reducible refine Below.setCell ?_ ?_ _) | go_size))).wentR hs; have H2 := Lib.hid h2; have z1 := (k2.cell (a := ⟨w.heap.size, 1, none⟩) (by simp; omega) HNB.out).trans (by simpa [go_sem] using q1); have z2 := (k2.cell (a := ⟨w.heap.size, 2, none⟩) (by simp; omega) HNB.out).trans (by simpa [go_sem] using q2); have z3 := (k2.cell (a := ⟨w.heap.size, 3, none⟩) (by simp; omega) HNB.out).trans (by simpa [go_sem] using q3); clear hs h2 k2))
  go_wp2_with fail
  go_ret
  exact ⟨by simp, L1, _, (H2.out.grow (by repeat' (first | (with_reducible exact Below.refl _ _) | (with_reducible assumption) | (with_reducible refine below_drewN ?_ _) | (with_reducible refine below_more _ _ _ ?_ ?_) | (with_reducible refine Below.alloc ?_ ?_ _) | (with_reducible refine Below.drew ?_) | (with_reducible refine Below.setCell ?_ ?_ _) | go_size)))⟩

set_option maxRecDepth 100000 in
set_option maxHeartbeats 4000000 in
theorem step_free6 (h : Pl w0 w L M P R ids c M) (s i g : Int) (hc : c ≤ 1000000000) : Calls Try.prog 46 #[.pointer (some ⟨P, 0, none⟩), .pointer (some ⟨R.p, 0, none⟩), .agg #[.int .i64 6, .int .i64 s, .int .i64 i, .int .i64 g]] w fun e w' => e = .returned (.bool true) ∧ Play w0 w' P R ids (c + 1) := by
  have HP := Lib.hid h
  have HI := Lib.hid fun W (hW : Below w.heap.size w W) => free_p W L M P h.st.hP (h.grow hW).st.hp s i g
  have HR := Lib.hid fun W (hW : RPool W R ids c M) => rfree_any W R ids M hW hc s i g
  have HNB := Lib.hid fun e => (by have := h.r.lt e; simp only at this; omega : ¬ R.own (⟨w.heap.size, 0, none⟩ : Addr).block) e
  clear h
  generalize freeF M s i g = q at *
  obtain ⟨er, M'⟩ := q
  go_enter Try.func46, Try.ntmps46
  go_wp2_with fail
  refine wp_region_more (by kernel_rfl) (by kernel_rfl) ?_
  repeat (go_big_quiet_step (fail))
  refine wpQuiet_nil ?_
  rintro _ ⟨pn, rfl⟩
  go_wp2_with fail
  go_region_held3 (fun W => W.cell? ⟨w.heap.size, 1, none⟩ = some (.int .i64 s) ∧ W.cell? ⟨w.heap.size, 2, none⟩ = some (.int .i64 i) ∧ W.cell? ⟨w.heap.size, 3, none⟩ = some (.int .i64 g)) ((refine ⟨?_, ?_, ?_⟩ <;> first | assumption | (simp [go_sem]; done))) (first | (go_at_call 21; refine (HI.out _ (by repeat' (first | (with_reducible exact Below.refl _ _) | (with_reducible assumption) | (with_reducible refine below_drewN ?_ _) | (with_reducible refine below_more _ _ _ ?_ ?_) | (with_reducible refine Below.alloc ?_ ?_ _) | (with_reducible refine Below.drew ?_) | (with_reducible refine Below.setCell ?_ ?_ _) | go_size))).mono ?_; rintro e w1 ⟨rfl, hs⟩; obtain ⟨L1, h1, k1, o1⟩ := (HP.out.grow (by repeat' (first | (with_reducible exact Below.refl _ _) | (with_reducible assumption) | (with_reducible refine below_drewN ?_ _) | (with_reducible refine below_more _ _ _ ?_ ?_) | (with_reducible refine Below.alloc ?_ ?_ _) | (with_reducible refine Below.drew ?_) | (with_reducible refine Below.setCell ?_ ?_ _) | go_size))).wentP hs; have H1 := Lib.hid h1; have bx := ((Box2.new HP.out #[.int .i64 6, .int .i64 s, .int .i64 i, .int .i64 g] 71).grow (by repeat' (first | (with_reducible exact Below.refl _ _) | (with_reducible assumption) | (with_reducible refine below_drewN ?_ _) | (with_reducible refine below_more _ _ _ ?_ ?_) | (with_reducible refine Below.alloc ?_ ?_ _) | (with_reducible refine Below.drew ?_) | (with_reducible refine Below.setCell ?_ ?_ _) | go_size))).wentP k1 o1; have q1 := bx.2.2.2 1; have q2 := bx.2.2.2 2; have q3 := bx.2.2.2 3; simp at q1 q2 q3; have q4 := bx.1; clear hs h1 bx k1 o1) | (go_at_call 71; refine (HR.out _ (H1.out.grow (by repeat' (first | (with_reducible exact Below.refl _ _) | (with_reducible assumption) | (with_reducible refine below_drewN ?_ _) | (with_reducible refine below_more _ _ _ ?_ ?_) | (with_reducible refine Below.alloc ?_ ?_ _) | (with_reducible refine Below.drew ?_) | (with_reducible refine Below.setCell ?_ ?_ _) | go_size))).r).mono ?_; rintro e w2 ⟨rfl, hs⟩; obtain ⟨h2, k2⟩ := (H1.out.grow (by repeat' (first | (with_reducible exact Below.refl _ _) | (with_reducible assumption) | (with_reducible refine below_drewN ?_ _) | (with_reducible refine below_more _ _ _ ?_ ?_) | (with_reducible refine Below.alloc ?_ ?_ _) | (with_reducible refine Below.drew ?_) | (with_reducible refine Below.setCell ?_ ?_ _) | go_size))).wentR hs; have H2 := Lib.hid h2; have z1 := (k2.cell (a := ⟨w.heap.size, 1, none⟩) (by simp; omega) HNB.out).trans (by simpa [go_sem] using q1); have z2 := (k2.cell (a := ⟨w.heap.size, 2, none⟩) (by simp; omega) HNB.out).trans (by simpa [go_sem] using q2); have z3 := (k2.cell (a := ⟨w.heap.size, 3, none⟩) (by simp; omega) HNB.out).trans (by simpa [go_sem] using q3); clear hs h2 k2))
  go_wp2_with fail
  go_ret
  exact ⟨by simp, L1, _, (H2.out.grow (by repeat' (first | (with_reducible exact Below.refl _ _) | (with_reducible assumption) | (with_reducible refine below_drewN ?_ _) | (with_reducible refine below_more _ _ _ ?_ ?_) | (with_reducible refine Below.alloc ?_ ?_ _) | (with_reducible refine Below.drew ?_) | (with_reducible refine Below.setCell ?_ ?_ _) | go_size)))⟩


set_option maxRecDepth 100000 in
set_option maxHeartbeats 4000000 in
theorem step_other (h : Pl w0 w L M P R ids c M) (kd s i g : Int) (hk : ¬ (0 ≤ kd ∧ kd ≤ 7)) : Calls Try.prog 46 #[.pointer (some ⟨P, 0, none⟩), .pointer (some ⟨R.p, 0, none⟩), .agg #[.int .i64 kd, .int .i64 s, .int .i64 i, .int .i64 g]] w fun e w' => e = .returned (.bool true) ∧ Play w0 w' P R ids (c + 1) := by
  have HP := Lib.hid h
  have k0 : (kd == 0) = false := by simp; omega
  have k1 : (kd == 1) = false := by simp; omega
  have k2 : (kd == 2) = false := by simp; omega
  have k3 : (kd == 3) = false := by simp; omega
  have k4 : (kd == 4) = false := by simp; omega
  have k5 : (kd == 5) = false := by simp; omega
  have k6 : (kd == 6) = false := by simp; omega
  have k7 : (kd == 7) = false := by simp; omega
  clear h hk
  go_enter Try.func46, Try.ntmps46
  go_wp2_with fail
  refine wp_region_more (by kernel_rfl) (by kernel_rfl) ?_
  repeat (go_big_quiet_step (fail))
  refine wpQuiet_nil ?_
  rintro _ ⟨pn, rfl⟩
  go_wp2_with fail
  go_ret
  exact ⟨rfl, L, M, (HP.out.grow (by repeat' (first | (with_reducible exact Below.refl _ _) | (with_reducible assumption) | (with_reducible refine below_drewN ?_ _) | (with_reducible refine below_more _ _ _ ?_ ?_) | (with_reducible refine Below.alloc ?_ ?_ _) | (with_reducible refine Below.drew ?_) | (with_reducible refine Below.setCell ?_ ?_ _) | go_size))).more⟩

theorem step_any (h : Pl w0 w L M P R ids c M) (hc : c ≤ 1000000000) (kd s i g : Int) : Calls Try.prog 46 #[.pointer (some ⟨P, 0, none⟩), .pointer (some ⟨R.p, 0, none⟩), .agg #[.int .i64 kd, .int .i64 s, .int .i64 i, .int .i64 g]] w fun e w' => e = .returned (.bool true) ∧ Play w0 w' P R ids (c + 1) := by
  by_cases hk : 0 ≤ kd ∧ kd ≤ 7
  · have : kd = 0 ∨ kd = 1 ∨ kd = 2 ∨ kd = 3 ∨ kd = 4 ∨ kd = 5 ∨ kd = 6 ∨ kd = 7 := by omega
    rcases this with rfl | rfl | rfl | rfl | rfl | rfl | rfl | rfl
    · exact step_reserve w0 w L M P R ids c h 0 s i g (.inl rfl)
    · exact step_reserve w0 w L M P R ids c h 1 s i g (.inr rfl)
    · exact step_issue w0 w L M P R ids c h 2 s i g (.inl rfl)
    · exact step_issue w0 w L M P R ids c h 3 s i g (.inr rfl)
    · exact step_take w0 w L M P R ids c h s i g
    · exact step_free5 w0 w L M P R ids c h s i g hc
    · exact step_free6 w0 w L M P R ids c h s i g hc
    · exact step_lapse w0 w L M P R ids c h 7 s i g rfl
  · exact step_other w0 w L M P R ids c h kd s i g hk
end Go.Proofs.Ytjkbenghgbigdaa
