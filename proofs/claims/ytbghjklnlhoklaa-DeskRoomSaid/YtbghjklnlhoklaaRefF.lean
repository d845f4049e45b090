/-
  The reference's pool of names: Take, Free as the program's. No condition.
-/
import Derived.Test.YtbghjklnlhoklaaMk15
namespace Go.Proofs.Ytbghjklnlhoklaa
open Go.RowKit


set_option maxRecDepth 100000 in
set_option maxHeartbeats 4000000 in
theorem rtake_any (w : World) (R : RLay) (ids : Nat) {c : Int} (M : List Sh) (h : RPool w R ids c M) (s i g : Int) : Calls Try.prog 84 #[.pointer (some ⟨R.p, 0, none⟩), .agg #[.int .i64 s, .int .i64 i, .int .i64 g]] w fun e w' => e = .returned (.int .i64 (takeF M s i g).1) ∧ RStp w R ids c w' (takeF M s i g).2 := by
  have HE := Lib.hid fun w' (hb : Below w.heap.size w w') => RStp.same h hb
  obtain ⟨rw, put, h1, h2, hpc⟩ := h
  cases hix : ixOf M s i with
  | none =>
    simp only [takeF, hix]
    have HA := Lib.hid fun W (hW : Below w.heap.size w W) => rat_none W R ids M rw put (h1.grown hW) h2 s i hix
    clear hix h1 h2
    go_enter Try.func84, Try.ntmps84
    go_wp2_with (go_at_call 48; refine (HA.out _ (by repeat' (first | (with_reducible exact Below.refl _ _) | (with_reducible assumption) | (with_reducible refine below_drewN ?_ _) | (with_reducible refine below_more _ _ _ ?_ ?_) | (with_reducible refine Below.alloc ?_ ?_ _) | (with_reducible refine Below.drew ?_) | (with_reducible refine Below.setCell ?_ ?_ _) | go_size))).mono ?_; rintro e w' ⟨rfl, rfl⟩)
    go_ret
    exact ⟨rfl, HE.out _ (by repeat' (first | (with_reducible exact Below.refl _ _) | (with_reducible assumption) | (with_reducible refine below_drewN ?_ _) | (with_reducible refine below_more _ _ _ ?_ ?_) | (with_reducible refine Below.alloc ?_ ?_ _) | (with_reducible refine Below.drew ?_) | (with_reducible refine Below.setCell ?_ ?_ _) | go_size))⟩
  | some x =>
    simp only [takeF, hix]
    obtain ⟨k, i, m, rfl, rfl, hm, hx⟩ := ixOf_nat' hix
    have HA := Lib.hid fun W (hW : Below w.heap.size w W) => rat_some W R ids M rw put (h1.grown hW) h2 k i m x hm hx
    by_cases hg : g < 0
    · rw [if_pos hg]
      clear hix h1 h2 hm hx
      have hnI : 0 ≤ ((k * ids + i : Nat) : Int) := Int.natCast_nonneg _
      generalize k * ids + i = n at *
      go_enter Try.func84, Try.ntmps84
      go_wp2_with (go_at_call 48; refine (HA.out _ (by repeat' (first | (with_reducible exact Below.refl _ _) | (with_reducible assumption) | (with_reducible refine below_drewN ?_ _) | (with_reducible refine below_more _ _ _ ?_ ?_) | (with_reducible refine Below.alloc ?_ ?_ _) | (with_reducible refine Below.drew ?_) | (with_reducible refine Below.setCell ?_ ?_ _) | go_size))).mono ?_; rintro e w' ⟨rfl, rfl⟩)
      go_ret
      exact ⟨rfl, HE.out _ (by repeat' (first | (with_reducible exact Below.refl _ _) | (with_reducible assumption) | (with_reducible refine below_drewN ?_ _) | (with_reducible refine below_more _ _ _ ?_ ?_) | (with_reducible refine Below.alloc ?_ ?_ _) | (with_reducible refine Below.drew ?_) | (with_reducible refine Below.setCell ?_ ?_ _) | go_size))⟩
    · rw [if_neg hg]
      have hg0 : 0 ≤ g := by omega
      clear hg
      have hfo := frOf_nat hm
      rw [hfo]
      have hil : i < ids := by rw [← h2.len m (List.mem_of_getElem? hm)]; exact (List.getElem?_eq_some_iff.1 hx).1
      have hrow := (h2.row k m hm i hil).1
      have hrow0 : rw (0 + (k : Int)) i = rw k i := by rw [Int.zero_add]
      have hs := mSlots_get (rw := rw) M 0 k i m x h2.len hm hx
      obtain ⟨s0, s1, s2, s3, s4, s5⟩ := h1.slot hs
      obtain ⟨c0, c1, fp, fb, b0, b1⟩ := h1.tops
      obtain ⟨z1, z2⟩ := h1.bnd
      obtain ⟨y0, y1, y2, y3⟩ := lts b0
      obtain ⟨x0, x1, x2, x3⟩ := lts b1
      have b00 : ∀ n, R.p < w.heap.size + n := fun n => by omega
      have b11 : ∀ n, R.b < w.heap.size + n := fun n => by omega
      have hn := (List.getElem?_eq_some_iff.1 hs).1
      have hnI : 0 ≤ ((k * ids + i : Nat) : Int) := Int.natCast_nonneg _
      have hnL : ((k * ids + i : Nat) : Int) < ((mSlots rw 0 M).length : Int) := by omega
      unfold maxLen at z2
      by_cases hn0 : (i : Int) ∈ m.free
      · rw [if_neg (fun h => h hn0)]
        have hr0 : 0 ≤ rw (0 + (k : Int)) i := by rw [hrow0]; exact hrow.2 hn0
        by_cases hst : g < x.gen ∨ x.bound ≤ g
        · rw [if_pos hst]
          generalize rw (0 + (k : Int)) i = rr at *
          generalize (mSlots rw 0 M).length = len at *
          generalize k * ids + i = n at *
          clear hs hm hx hix h1 h2 hrow hrow0 hfo hn0
          obtain ⟨gen, bound, alive⟩ := x
          simp only at s0 s1 s2 s3 s4 s5 hst
          by_cases hq : g < gen
          · have hd1 : decide (g < gen) = true := by simpa using hq
            clear hst
            go_enter Try.func84, Try.ntmps84
            go_wp2_with (go_at_call 48; refine (HA.out _ (by repeat' (first | (with_reducible exact Below.refl _ _) | (with_reducible assumption) | (with_reducible refine below_drewN ?_ _) | (with_reducible refine below_more _ _ _ ?_ ?_) | (with_reducible refine Below.alloc ?_ ?_ _) | (with_reducible refine Below.drew ?_) | (with_reducible refine Below.setCell ?_ ?_ _) | go_size))).mono ?_; rintro e w' ⟨rfl, rfl⟩)
            refine wp_region_more (by kernel_rfl) (by kernel_rfl) ?_
            repeat (go_big_quiet_step (fail))
            refine wpQuiet_nil ?_
            rintro _ ⟨pn, rfl⟩
            go_wp2_with fail
            go_ret
            exact ⟨rfl, HE.out _ (by repeat' (first | (with_reducible exact Below.refl _ _) | (with_reducible assumption) | (with_reducible refine below_drewN ?_ _) | (with_reducible refine below_more _ _ _ ?_ ?_) | (with_reducible refine Below.alloc ?_ ?_ _) | (with_reducible refine Below.drew ?_) | (with_reducible refine Below.setCell ?_ ?_ _) | go_size))⟩
          · have hd1 : decide (g < gen) = false := by simpa using hq
            have hq2 : bound ≤ g := by omega
            have hd2 : decide (bound ≤ g) = true := by simpa using hq2
            clear hst hq
            go_enter Try.func84, Try.ntmps84
            go_wp2_with (go_at_call 48; refine (HA.out _ (by repeat' (first | (with_reducible exact Below.refl _ _) | (with_reducible assumption) | (with_reducible refine below_drewN ?_ _) | (with_reducible refine below_more _ _ _ ?_ ?_) | (with_reducible refine Below.alloc ?_ ?_ _) | (with_reducible refine Below.drew ?_) | (with_reducible refine Below.setCell ?_ ?_ _) | go_size))).mono ?_; rintro e w' ⟨rfl, rfl⟩)
            refine wp_region_more (by kernel_rfl) (by kernel_rfl) ?_
            repeat (go_big_quiet_step (fail))
            refine wpQuiet_nil ?_
            rintro _ ⟨pn, rfl⟩
            go_wp2_with fail
            go_ret
            exact ⟨rfl, HE.out _ (by repeat' (first | (with_reducible exact Below.refl _ _) | (with_reducible assumption) | (with_reducible refine below_drewN ?_ _) | (with_reducible refine below_more _ _ _ ?_ ?_) | (with_reducible refine Below.alloc ?_ ?_ _) | (with_reducible refine Below.drew ?_) | (with_reducible refine Below.setCell ?_ ?_ _) | go_size))⟩
        · rw [if_neg hst]
          have HI := Lib.hid fun W (hW : Below w.heap.size w W) => fin_take (h1.grown hW) h2 hpc hm hx hg0 (by omega : g < x.bound)
          generalize rw (0 + (k : Int)) i = rr at *
          generalize (mSlots rw 0 M).length = len at *
          generalize k * ids + i = n at *
          clear hs hm hx hix h1 h2 hrow hrow0 hfo hn0
          obtain ⟨gen, bound, alive⟩ := x
          simp only at s0 s1 s2 s3 s4 s5 hst
          have hd1 : decide (g < gen) = false := by simp; omega
          have hd2 : decide (bound ≤ g) = false := by simp; omega
          clear hst
          go_enter Try.func84, Try.ntmps84
          go_wp2_with (go_at_call 48; refine (HA.out _ (by repeat' (first | (with_reducible exact Below.refl _ _) | (with_reducible assumption) | (with_reducible refine below_drewN ?_ _) | (with_reducible refine below_more _ _ _ ?_ ?_) | (with_reducible refine Below.alloc ?_ ?_ _) | (with_reducible refine Below.drew ?_) | (with_reducible refine Below.setCell ?_ ?_ _) | go_size))).mono ?_; rintro e w' ⟨rfl, rfl⟩)
          refine wp_region_more (by kernel_rfl) (by kernel_rfl) ?_
          repeat (go_big_quiet_step (fail))
          refine wpQuiet_nil ?_
          rintro _ ⟨pn, rfl⟩
          go_wp2_with fail
          refine wp_region_still_tail 9 (by kernel_rfl) (by kernel_rfl) ?_
          simp only [List.take_succ_cons, List.take_zero, List.drop_succ_cons, List.drop_zero]
          repeat (first | still_step)
          refine wpStill_nil ?_
          go_wp2_with fail
          go_ret
          exact ⟨rfl, RStp.of (HI.out _ (Below.refl _ _)).2 (HI.out _ (Below.refl _ _)).1 (by repeat' (first | (with_reducible exact Below.refl _ _) | (with_reducible assumption) | (with_reducible refine below_drewN ?_ _) | (with_reducible refine below_more _ _ _ ?_ ?_) | (with_reducible refine Below.alloc ?_ ?_ _) | (with_reducible refine Below.drew ?_) | (with_reducible refine Below.setCell ?_ ?_ _) | go_size))⟩
      · rw [if_pos hn0]
        have hr0 : rw (0 + (k : Int)) i < 0 := by rw [hrow0]; exact Int.not_le.1 fun h => hn0 (hrow.1 h)
        generalize rw (0 + (k : Int)) i = rr at *
        generalize (mSlots rw 0 M).length = len at *
        generalize k * ids + i = n at *
        clear hs hm hx hix h1 h2 hrow hrow0 hfo hn0
        obtain ⟨gen, bound, alive⟩ := x
        simp only at s0 s1 s2 s3 s4 s5
        go_enter Try.func84, Try.ntmps84
        go_wp2_with (go_at_call 48; refine (HA.out _ (by repeat' (first | (with_reducible exact Below.refl _ _) | (with_reducible assumption) | (with_reducible refine below_drewN ?_ _) | (with_reducible refine below_more _ _ _ ?_ ?_) | (with_reducible refine Below.alloc ?_ ?_ _) | (with_reducible refine Below.drew ?_) | (with_reducible refine Below.setCell ?_ ?_ _) | go_size))).mono ?_; rintro e w' ⟨rfl, rfl⟩)
        go_ret
        exact ⟨rfl, HE.out _ (by repeat' (first | (with_reducible exact Below.refl _ _) | (with_reducible assumption) | (with_reducible refine below_drewN ?_ _) | (with_reducible refine below_more _ _ _ ?_ ?_) | (with_reducible refine Below.alloc ?_ ?_ _) | (with_reducible refine Below.drew ?_) | (with_reducible refine Below.setCell ?_ ?_ _) | go_size))⟩

set_option maxRecDepth 100000 in
set_option maxHeartbeats 4000000 in
theorem rfree_any (w : World) (R : RLay) (ids : Nat) {c : Int} (M : List Sh) (h : RPool w R ids c M) (hc : c ≤ 1000000000) (s i g : Int) : Calls Try.prog 85 #[.pointer (some ⟨R.p, 0, none⟩), .agg #[.int .i64 s, .int .i64 i, .int .i64 g]] w fun e w' => e = .returned (.int .i64 (freeF M s i g).1) ∧ RStp w R ids (c + 1) w' (freeF M s i g).2 := by
  have HE := Lib.hid fun w' (hb : Below w.heap.size w w') => (RStp.same h hb).more
  have HAL := Lib.hid fun W (hW : Below w.heap.size w W) => ralive_any W R ids M (h.grown hW) s i g
  obtain ⟨rw, put, h1, h2, hpc⟩ := h
  cases hix : ixOf M s i with
  | none =>
    simp only [freeF, hix]
    have HA := Lib.hid fun W (hW : Below w.heap.size w W) => rat_none W R ids M rw put (h1.grown hW) h2 s i hix
    clear hix h1 h2
    go_enter Try.func85, Try.ntmps85
    go_wp2_with (go_at_call 48; refine (HA.out _ (by repeat' (first | (with_reducible exact Below.refl _ _) | (with_reducible assumption) | (with_reducible refine below_drewN ?_ _) | (with_reducible refine below_more _ _ _ ?_ ?_) | (with_reducible refine Below.alloc ?_ ?_ _) | (with_reducible refine Below.drew ?_) | (with_reducible refine Below.setCell ?_ ?_ _) | go_size))).mono ?_; rintro e w' ⟨rfl, rfl⟩)
    go_ret
    exact ⟨rfl, HE.out _ (by repeat' (first | (with_reducible exact Below.refl _ _) | (with_reducible assumption) | (with_reducible refine below_drewN ?_ _) | (with_reducible refine below_more _ _ _ ?_ ?_) | (with_reducible refine Below.alloc ?_ ?_ _) | (with_reducible refine Below.drew ?_) | (with_reducible refine Below.setCell ?_ ?_ _) | go_size))⟩
  | some x =>
    simp only [freeF, hix]
    obtain ⟨k, i, m, rfl, rfl, hm, hx⟩ := ixOf_nat' hix
    have HA := Lib.hid fun W (hW : Below w.heap.size w W) => rat_some W R ids M rw put (h1.grown hW) h2 k i m x hm hx
    have hnI : 0 ≤ ((k * ids + i : Nat) : Int) := Int.natCast_nonneg _
    by_cases hg : g < 0
    · rw [if_pos hg]
      clear hix h1 h2 hm hx
      generalize k * ids + i = n at *
      go_enter Try.func85, Try.ntmps85
      go_wp2_with (go_at_call 48; refine (HA.out _ (by repeat' (first | (with_reducible exact Below.refl _ _) | (with_reducible assumption) | (with_reducible refine below_drewN ?_ _) | (with_reducible refine below_more _ _ _ ?_ ?_) | (with_reducible refine Below.alloc ?_ ?_ _) | (with_reducible refine Below.drew ?_) | (with_reducible refine Below.setCell ?_ ?_ _) | go_size))).mono ?_; rintro e w' ⟨rfl, rfl⟩)
      go_ret
      exact ⟨rfl, HE.out _ (by repeat' (first | (with_reducible exact Below.refl _ _) | (with_reducible assumption) | (with_reducible refine below_drewN ?_ _) | (with_reducible refine below_more _ _ _ ?_ ?_) | (with_reducible refine Below.alloc ?_ ?_ _) | (with_reducible refine Below.drew ?_) | (with_reducible refine Below.setCell ?_ ?_ _) | go_size))⟩
    · rw [if_neg hg]
      have hg0 : 0 ≤ g := by omega
      clear hg
      have hal : aliveF M k i g = (x.alive && x.gen == g) := by simp only [aliveF, hix]
      cases ha : (x.alive && x.gen == g) with
      | false =>
        rw [if_pos rfl]
        rw [hal, ha] at HAL
        clear hix h1 h2 hm hx hal ha
        generalize k * ids + i = n at *
        go_enter Try.func85, Try.ntmps85
        go_wp2_with (first | (go_at_call 48; refine (HA.out _ (by repeat' (first | (with_reducible exact Below.refl _ _) | (with_reducible assumption) | (with_reducible refine below_drewN ?_ _) | (with_reducible refine below_more _ _ _ ?_ ?_) | (with_reducible refine Below.alloc ?_ ?_ _) | (with_reducible refine Below.drew ?_) | (with_reducible refine Below.setCell ?_ ?_ _) | go_size))).mono ?_; rintro e w' ⟨rfl, rfl⟩) | (go_at_call 22; refine (HAL.out _ (by repeat' (first | (with_reducible exact Below.refl _ _) | (with_reducible assumption) | (with_reducible refine below_drewN ?_ _) | (with_reducible refine below_more _ _ _ ?_ ?_) | (with_reducible refine Below.alloc ?_ ?_ _) | (with_reducible refine Below.drew ?_) | (with_reducible refine Below.setCell ?_ ?_ _) | go_size))).mono ?_; rintro e w' ⟨rfl, hb⟩; obtain ⟨d, os, rfl⟩ := more_of hb; clear hb))
        go_ret
        exact ⟨rfl, HE.out _ (by repeat' (first | (with_reducible exact Below.refl _ _) | (with_reducible assumption) | (with_reducible refine below_drewN ?_ _) | (with_reducible refine below_more _ _ _ ?_ ?_) | (with_reducible refine Below.alloc ?_ ?_ _) | (with_reducible refine Below.drew ?_) | (with_reducible refine Below.setCell ?_ ?_ _) | go_size))⟩
      | true =>
        rw [if_neg (by simp)]
        rw [hal, ha] at HAL
        have ha' := ha
        simp only [Bool.and_eq_true, beq_iff_eq] at ha'
        obtain ⟨hxa, rfl⟩ := ha'
        have hxr := ((h2.good m (List.mem_of_getElem? hm)).inv.rng i x hx)
        have hx1 := hxr.2.2.2.2 hxa
        have hp0 := h2.put
        have hil : i < ids := by rw [← h2.len m (List.mem_of_getElem? hm)]; exact (List.getElem?_eq_some_iff.1 hx).1
        have hs := mSlots_get (rw := rw) M 0 k i m x h2.len hm hx
        obtain ⟨s0, s1, s2, s3, s4, s5⟩ := h1.slot hs
        obtain ⟨c0, c1, fp, fb, b0, b1⟩ := h1.tops
        obtain ⟨z1, z2⟩ := h1.bnd
        obtain ⟨y0, y1, y2, y3⟩ := lts b0
        obtain ⟨x0, x1, x2, x3⟩ := lts b1
        have b00 : ∀ n, R.p < w.heap.size + n := fun n => by omega
        have b11 : ∀ n, R.b < w.heap.size + n := fun n => by omega
        have hn := (List.getElem?_eq_some_iff.1 hs).1
        have hnI : 0 ≤ ((k * ids + i : Nat) : Int) := Int.natCast_nonneg _
        have hnL : ((k * ids + i : Nat) : Int) < ((mSlots rw 0 M).length : Int) := by omega
        unfold maxLen at z2
        by_cases hw : x.gen + 1 < 1048576
        · rw [if_pos hw]
          have HI := Lib.hid fun W (hW : Below w.heap.size w W) => fin_free (h1.grown hW) h2 hpc hm hx hxa hw
          have hpb : R.p ≠ R.b := h1.ne
          generalize rw (0 + (k : Int)) i = rr at *
          generalize (mSlots rw 0 M).length = len at *
          generalize k * ids + i = n at *
          clear hs hm hx hix h1 h2 hal ha hxr
          obtain ⟨gen, bound, alive⟩ := x
          simp only at s0 s1 s2 s3 s4 s5 hw hxa hx1 hg0
          subst hxa
          go_enter Try.func85, Try.ntmps85
          go_wp2_with (first | (go_at_call 48; refine (HA.out _ (by repeat' (first | (with_reducible exact Below.refl _ _) | (with_reducible assumption) | (with_reducible refine below_drewN ?_ _) | (with_reducible refine below_more _ _ _ ?_ ?_) | (with_reducible refine Below.alloc ?_ ?_ _) | (with_reducible refine Below.drew ?_) | (with_reducible refine Below.setCell ?_ ?_ _) | go_size))).mono ?_; rintro e w' ⟨rfl, rfl⟩) | (go_at_call 22; refine (HAL.out _ (by repeat' (first | (with_reducible exact Below.refl _ _) | (with_reducible assumption) | (with_reducible refine below_drewN ?_ _) | (with_reducible refine below_more _ _ _ ?_ ?_) | (with_reducible refine Below.alloc ?_ ?_ _) | (with_reducible refine Below.drew ?_) | (with_reducible refine Below.setCell ?_ ?_ _) | go_size))).mono ?_; rintro e w' ⟨rfl, hb⟩; obtain ⟨d, os, rfl⟩ := more_of hb; clear hb))
          refine wp_region_still_tail 16 (by kernel_rfl) (by kernel_rfl) ?_
          simp only [List.take_succ_cons, List.take_zero, List.drop_succ_cons, List.drop_zero]
          repeat (first | still_step)
          refine wpStill_nil ?_
          go_wp2_with fail
          refine wp_region_still_tail 11 (by kernel_rfl) (by kernel_rfl) ?_
          simp only [List.take_succ_cons, List.take_zero, List.drop_succ_cons, List.drop_zero]
          repeat (first | still_step)
          refine wpStill_nil ?_
          go_wp2_with fail
          go_ret
          exact ⟨rfl, RStp.of (HI.out _ (Below.refl _ _)).2 (HI.out _ (Below.refl _ _)).1 (by repeat' (first | (with_reducible exact Below.refl _ _) | (with_reducible assumption) | (with_reducible refine below_drewN ?_ _) | (with_reducible refine below_more _ _ _ ?_ ?_) | (with_reducible refine Below.alloc ?_ ?_ _) | (with_reducible refine Below.drew ?_) | (with_reducible refine Below.setCell ?_ ?_ _) | go_size))⟩
        · rw [if_neg hw]
          have HI := Lib.hid fun W (hW : Below w.heap.size w W) => (fin_worn (h1.grown hW) h2 hpc hm hx hxa hw).more
          generalize rw (0 + (k : Int)) i = rr at *
          generalize (mSlots rw 0 M).length = len at *
          generalize k * ids + i = n at *
          clear hs hm hx hix h1 h2 hal ha hxr
          obtain ⟨gen, bound, alive⟩ := x
          simp only at s0 s1 s2 s3 s4 s5 hw hxa hx1 hg0
          subst hxa
          have hw2 : (1048576 : Int) ≤ gen + 1 := by omega
          clear hw
          go_enter Try.func85, Try.ntmps85
          go_wp2_with (first | (go_at_call 48; refine (HA.out _ (by repeat' (first | (with_reducible exact Below.refl _ _) | (with_reducible assumption) | (with_reducible refine below_drewN ?_ _) | (with_reducible refine below_more _ _ _ ?_ ?_) | (with_reducible refine Below.alloc ?_ ?_ _) | (with_reducible refine Below.drew ?_) | (with_reducible refine Below.setCell ?_ ?_ _) | go_size))).mono ?_; rintro e w' ⟨rfl, rfl⟩) | (go_at_call 22; refine (HAL.out _ (by repeat' (first | (with_reducible exact Below.refl _ _) | (with_reducible assumption) | (with_reducible refine below_drewN ?_ _) | (with_reducible refine below_more _ _ _ ?_ ?_) | (with_reducible refine Below.alloc ?_ ?_ _) | (with_reducible refine Below.drew ?_) | (with_reducible refine Below.setCell ?_ ?_ _) | go_size))).mono ?_; rintro e w' ⟨rfl, hb⟩; obtain ⟨d, os, rfl⟩ := more_of hb; clear hb))
          refine wp_region_still_tail 16 (by kernel_rfl) (by kernel_rfl) ?_
          simp only [List.take_succ_cons, List.take_zero, List.drop_succ_cons, List.drop_zero]
          repeat (first | still_step)
          refine wpStill_nil ?_
          go_wp2_with fail
          go_ret
          exact ⟨rfl, RStp.of (HI.out _ (Below.refl _ _)).2 (HI.out _ (Below.refl _ _)).1 (by repeat' (first | (with_reducible exact Below.refl _ _) | (with_reducible assumption) | (with_reducible refine below_drewN ?_ _) | (with_reducible refine below_more _ _ _ ?_ ?_) | (with_reducible refine Below.alloc ?_ ?_ _) | (with_reducible refine Below.drew ?_) | (with_reducible refine Below.setCell ?_ ?_ _) | go_size))⟩
end Go.Proofs.Ytbghjklnlhoklaa
