/-
  The reference's pool of names: Lapse, as the program's. No condition.
-/
import Derived.Test.YtjkbenghgbigdaaRefG
namespace Go.Proofs.Ytjkbenghgbigdaa
open Go.RowKit

/-- Behind n slots of the walk. -/
def LapR (w : World) (R : RLay) (l : List Slot) (put : Int) (wr : World) (n : Nat) : Prop := RefAt wr R (lapL l n) put ∧ Chg w wr R.own ∧ w.heap.size ≤ wr.heap.size
theorem LapR.later {w wr W : World} {R : RLay} {l : List Slot} {put : Int} {n : Nat} (h : LapR w R l put wr n) (hb : Below wr.heap.size wr W) : LapR w R l put W n := ⟨h.1.grown hb, h.2.1.then_below (hb.mono h.2.2), Nat.le_trans h.2.2 hb.size⟩
theorem LapR.same {w wr : World} {R : RLay} {l : List Slot} {put : Int} {n : Nat} {s : Slot} (h : LapR w R l put wr n) (hs : l[n]? = some s) (hn : lapsS s = false) : LapR w R l put wr (n + 1) := by
  refine ⟨?_, h.2⟩
  rw [lapL_succ hs, lapSlot, hn]
  have := lapL_get hs
  rw [if_neg (by simp), ← (List.getElem?_eq_some_iff.1 this).2]
  simpa using h.1
theorem LapR.gen {w wr : World} {R : RLay} {l : List Slot} {put : Int} {n : Nat} {s : Slot} (h : LapR w R l put wr n) (hs : l[n]? = some s) (hn : lapsS s = true) (hb : s.bound ≠ 1048576) : LapR w R l put (wr.setCell ⟨R.b, R.off + n * 6 + 2, none⟩ (.int .i64 s.bound)) (n + 1) := by
  refine ⟨?_, h.2.1.put1 _ _, by simpa [World.setCell] using h.2.2⟩
  rw [lapL_succ hs, lapSlot, hn]
  exact h.1.put1 (lapL_get hs) 2 _ (by omega) (by simp [Slot.cells, hb])
theorem LapR.worn {w wr : World} {R : RLay} {l : List Slot} {put : Int} {n : Nat} {s : Slot} (h : LapR w R l put wr n) (hs : l[n]? = some s) (hn : lapsS s = true) (hb : s.bound = 1048576) :
    LapR w R l put ((wr.setCell ⟨R.b, R.off + n * 6 + 2, none⟩ (.int .i64 s.bound)).setCell ⟨R.b, R.off + n * 6 + 4, none⟩ (.int .i64 (-1))) (n + 1) := by
  refine ⟨?_, (h.2.1.put1 _ _).put1 _ _, by simpa [World.setCell] using h.2.2⟩
  rw [lapL_succ hs, lapSlot, hn]
  have h3 := h.1.put1 (lapL_get hs) 2 (.int .i64 s.bound) (s' := { s with gen := s.bound }) (by omega) (by simp [Slot.cells])
  have h4 := h3.put1 (get_set (lapL_get hs)) 4 (.int .i64 (-1)) (s' := { s with gen := s.bound, row := -1 }) (by omega) (by simp [Slot.cells])
  rw [List.set_set] at h4
  simpa [hb] using h4

set_option maxRecDepth 100000 in
set_option maxHeartbeats 4000000 in
theorem rlapse_any (w : World) (R : RLay) (ids : Nat) {c : Int} (M : List Sh) (h : RPool w R ids c M) : Calls Try.prog 72 #[.pointer (some ⟨R.p, 0, none⟩)] w fun e w' => e = .returned (.int .i64 (lapseF M).1) ∧ RStp w R ids c w' (lapseF M).2 := by
  obtain ⟨rw, put, h1, h2, hpc⟩ := h
  have hcnt := h2.cnt
  have hlen := mSlots_len (rw := rw) M 0 h2.len
  have hle : (mSlots rw 0 M).length ≤ 256 := by rw [hlen]; exact Nat.mul_le_mul h2.pos.2.2 h2.pos.2.1
  have hfin : ∀ W, LapR w R (mSlots rw 0 M) put W (mSlots rw 0 M).length → RStp w R ids c W (lapseF M).2 := fun W hW => by
    have := hW.1
    rw [lapL_all, mSlots_lap h2] at this
    exact ⟨⟨_, put, this, h2.lapse, hpc⟩, hW.2.1⟩
  have HFIN := Lib.hid hfin
  have hres : ((lapC (mSlots rw 0 M) : Nat) : Int) = (lapseF M).1 := by rw [hcnt]; rfl
  have HRES := Lib.hid hres
  have h0 : LapR w R (mSlots rw 0 M) put w 0 := ⟨by rw [lapL_zero]; exact h1, Chg.refl _ _, Nat.le_refl _⟩
  have H0 := Lib.hid h0
  obtain ⟨z1, z2⟩ := h1.bnd
  unfold maxLen at z2
  clear hcnt hlen hfin hres h1 h2 hpc h0
  generalize mSlots rw 0 M = l at *
  go_enter Try.func72, Try.ntmps72
  go_wp2_with fail
  go_loopw [3, 4] (fun v x wr => ∃ n : Nat, n ≤ l.length ∧ x = .int .i64 n ∧ v = .int .i64 (lapC (l.take n) : Nat) ∧ Hid (LapR w R l put wr n)) (fun _ x _ => l.length - (intOf x).toNat)
  case atStart => exact ⟨0, Nat.zero_le _, rfl, by simp [lapC], H0⟩
  case round =>
    obtain ⟨n, hn, rfl, rfl, hh⟩ := hrel
    obtain ⟨wo, rfl⟩ : ∃ wo : World, wo = wr := ⟨_, rfl⟩
    have hI : 0 ≤ (n : Int) := Int.natCast_nonneg n
    obtain ⟨c0, _, fp, fb, b0, b1⟩ := hh.out.1.tops
    rw [lapL_len l n hn] at c0
    have hpb := hh.out.1.ne
    obtain ⟨y0, y1, y2, y3⟩ := lts b0
    obtain ⟨x0, x1, x2, x3⟩ := lts b1
    have b00 : ∀ n, R.p < wo.heap.size + n := fun n => by omega
    have b11 : ∀ n, R.b < wo.heap.size + n := fun n => by omega
    have hc0 := lapC_le (l.take n)
    rw [List.length_take, Nat.min_eq_left hn] at hc0
    by_cases hlt : n < l.length
    · obtain ⟨s, hs⟩ : ∃ s, l[n]? = some s := ⟨_, List.getElem?_eq_getElem hlt⟩
      obtain ⟨s0, s1, s2, s3, s4, s5⟩ := hh.out.1.slot (lapL_get hs)
      have hcs := lapC_succ hs
      have HS := Lib.hid hs
      have HC := Lib.hid hcs
      clear hs hcs
      obtain ⟨sk, si, sg, sb, srow, sa⟩ := s
      simp only at s0 s1 s2 s3 s4 s5
      generalize lapC (l.take n) = cn at *
      by_cases hr : 0 ≤ srow
      · have hd1 : decide (srow < 0) = false := by simpa using hr
        by_cases hg : sg < sb
        · have hd2 : decide (sb ≤ sg) = false := by simpa using hg
          have hl : lapsS ⟨sk, si, sg, sb, srow, sa⟩ = true := by simp [lapsS, hr, hg]
          rw [hl] at HC
          have HLL := Lib.hid hl
          clear hl
          by_cases hb : sb = 1048576
          · have hbb : (sb == 1048576) = true := by simpa using hb
            have HB := Lib.hid hb
            clear hb
            go_wp2_with fail
            refine wp_region_more (by kernel_rfl) (by kernel_rfl) ?_
            repeat (go_big_quiet_step (fail))
            refine wpQuiet_nil ?_
            rintro _ ⟨pn, rfl⟩
            go_wp2_with fail
            refine wp_region_still_tail 15 (by kernel_rfl) (by kernel_rfl) ?_
            simp only [List.take_succ_cons, List.take_zero, List.drop_succ_cons, List.drop_zero]
            repeat (first | still_step)
            refine wpStill_nil ?_
            go_wp2_with fail
            go_roundw
            case rel => exact ⟨n + 1, hlt, by go_num, by rw [HC.out]; go_num, Lib.hid ((hh.out.worn HS.out HLL.out HB.out).later (by repeat' (first | (with_reducible exact Below.refl _ _) | (with_reducible assumption) | (with_reducible refine below_drewN ?_ _) | (with_reducible refine below_more _ _ _ ?_ ?_) | (with_reducible refine Below.alloc ?_ ?_ _) | (with_reducible refine Below.drew ?_) | (with_reducible refine Below.setCell ?_ ?_ _) | go_size)))⟩
            case measure => simp [intOf]; omega
          · have hbb : (sb == 1048576) = false := by simpa using hb
            have HB := Lib.hid hb
            clear hb
            go_wp2_with fail
            refine wp_region_more (by kernel_rfl) (by kernel_rfl) ?_
            repeat (go_big_quiet_step (fail))
            refine wpQuiet_nil ?_
            rintro _ ⟨pn, rfl⟩
            go_wp2_with fail
            refine wp_region_still_tail 15 (by kernel_rfl) (by kernel_rfl) ?_
            simp only [List.take_succ_cons, List.take_zero, List.drop_succ_cons, List.drop_zero]
            repeat (first | still_step)
            refine wpStill_nil ?_
            go_wp2_with fail
            go_roundw
            case rel => exact ⟨n + 1, hlt, by go_num, by rw [HC.out]; go_num, Lib.hid ((hh.out.gen HS.out HLL.out HB.out).later (by repeat' (first | (with_reducible exact Below.refl _ _) | (with_reducible assumption) | (with_reducible refine below_drewN ?_ _) | (with_reducible refine below_more _ _ _ ?_ ?_) | (with_reducible refine Below.alloc ?_ ?_ _) | (with_reducible refine Below.drew ?_) | (with_reducible refine Below.setCell ?_ ?_ _) | go_size)))⟩
            case measure => simp [intOf]; omega
        · have hd2 : decide (sb ≤ sg) = true := by simpa using hg
          have hl : lapsS ⟨sk, si, sg, sb, srow, sa⟩ = false := by simp [lapsS, hg]
          rw [hl] at HC
          have HLL := Lib.hid hl
          clear hl hg
          go_wp2_with fail
          refine wp_region_more (by kernel_rfl) (by kernel_rfl) ?_
          repeat (go_big_quiet_step (fail))
          refine wpQuiet_nil ?_
          rintro _ ⟨pn, rfl⟩
          go_wp2_with fail
          go_roundw
          case rel => exact ⟨n + 1, hlt, by go_num, by rw [HC.out]; go_num, Lib.hid ((hh.out.same HS.out HLL.out).later (by repeat' (first | (with_reducible exact Below.refl _ _) | (with_reducible assumption) | (with_reducible refine below_drewN ?_ _) | (with_reducible refine below_more _ _ _ ?_ ?_) | (with_reducible refine Below.alloc ?_ ?_ _) | (with_reducible refine Below.drew ?_) | (with_reducible refine Below.setCell ?_ ?_ _) | go_size)))⟩
          case measure => simp [intOf]; omega
      · have hd1 : decide (srow < 0) = true := by simpa using hr
        have hl : lapsS ⟨sk, si, sg, sb, srow, sa⟩ = false := by simp [lapsS]; omega
        rw [hl] at HC
        have HLL := Lib.hid hl
        clear hl hr
        go_wp2_with fail
        refine wp_region_more (by kernel_rfl) (by kernel_rfl) ?_
        repeat (go_big_quiet_step (fail))
        refine wpQuiet_nil ?_
        rintro _ ⟨pn, rfl⟩
        go_wp2_with fail
        go_roundw
        case rel => exact ⟨n + 1, hlt, by go_num, by rw [HC.out]; go_num, Lib.hid ((hh.out.same HS.out HLL.out).later (by repeat' (first | (with_reducible exact Below.refl _ _) | (with_reducible assumption) | (with_reducible refine below_drewN ?_ _) | (with_reducible refine below_more _ _ _ ?_ ?_) | (with_reducible refine Below.alloc ?_ ?_ _) | (with_reducible refine Below.drew ?_) | (with_reducible refine Below.setCell ?_ ?_ _) | go_size)))⟩
        case measure => simp [intOf]; omega
    · obtain rfl : n = l.length := by omega
      rw [List.take_length] at hc0 ⊢
      clear hlt
      go_wp2_with fail
      go_ret
      exact ⟨by rw [← HRES.out]; rfl, HFIN.out _ (hh.out.later (by repeat' (first | (with_reducible exact Below.refl _ _) | (with_reducible assumption) | (with_reducible refine below_drewN ?_ _) | (with_reducible refine below_more _ _ _ ?_ ?_) | (with_reducible refine Below.alloc ?_ ?_ _) | (with_reducible refine Below.drew ?_) | (with_reducible refine Below.setCell ?_ ?_ _) | go_size)))⟩
end Go.Proofs.Ytjkbenghgbigdaa
