/-
  Chapter texts QmU: what the claim reaches of them. Conditions stand at each theorem.
-/
import Derived.Test.YtmkfjelpekkmmaaQ23
namespace Go.Proofs.Ytmkfjelpekkmmaa
open Go.RowKit

def intE (n : Int) : List Value := [.int .i64 n]
theorem info_intE : (Try.prog.info? 3).map (fun i => (i.zero, i.size, i.bytes)) = some (some (.int .i64 0), 1, 8) := by kernel_rfl
def masksT (a n : Int) (t : Nat) : List Int := ((List.range t).filter fun m : Nat => matchB a n m).map fun m : Nat => (m : Int)
theorem masksT_step (a n : Int) (t : Nat) : masksT a n (t + 1) = masksT a n t ++ if matchB a n t then [(t : Int)] else [] := masks_step a n t
theorem masksT_len (a n : Int) (t : Nat) : (masksT a n t).length ≤ t := by
  unfold masksT
  rw [List.length_map]
  exact Nat.le_trans (List.length_filter_le _ _) (by simp)

set_option maxRecDepth 100000 in
set_option maxHeartbeats 1000000 in
theorem qmasks_any (qa qn : Int) (w : World) :
    Calls Try.prog 16 #[.agg #[.int .i64 qa, .int .i64 qn]] w fun e w' => ∃ v', e = .returned v' ∧ RNew intE 3 1 w w' v' (masksF qa qn) := by
  obtain ⟨i0, hi0, hz0, hz1, hz2⟩ := info_partsG info_intE
  obtain ⟨w1, hw1, hc, hb1, hf1, hs1⟩ := one_box w #[.int .i64 qa, .int .i64 qn] 23
  have l1 : w.heap.size < w1.heap.size := by omega
  have HW1 := Lib.hid hw1
  have HB1 := Lib.hid hb1
  have HC := Lib.hid hc
  clear hw1 hb1 hc hf1 hs1
  go_enter Try.func16, Try.ntmps16
  go_wp2_with fail
  rw [← HW1.out]
  go_loopg [3, 5] 32 (fun kx o sx wr => ∃ t : Nat, sx = .int .i64 t ∧ t ≤ 32 ∧ 32 - t ≤ kx ∧ Hid (RNew intE 3 1 w1 wr o (masksT qa qn t)))
  case atStart => exact ⟨0, by go_num, by omega, by omega, Lib.hid (RNew.nil w1)⟩
  case round =>
    obtain ⟨t, rfl, ht, hkx, HN⟩ := hrel
    obtain ⟨wa, rfl⟩ : ∃ wa : World, wa = wr := ⟨_, rfl⟩
    by_cases hlt : t < 32
    · have t1 : (t : Int) < 32 := by omega
      have hbl := HN.out.2.1
      have y0 := (hbl.cell (p := ⟨w.heap.size, 0, none⟩) l1).trans (HC.out 0)
      have y1 := (hbl.cell (p := ⟨w.heap.size, 1, none⟩) l1).trans (HC.out 1)
      simp at y0 y1
      have la := Nat.lt_of_lt_of_le l1 hbl.size
      have hal := masksT_len qa qn t
      have HST := Lib.hid (masksT_step qa qn t)
      have HM := Lib.hid (fun W => qmatch_any qa qn t W)
      obtain ⟨po, co, hpo⟩ := sl_frm HN.out.1
      subst hpo
      clear hbl
      generalize masksT qa qn t = acc at *
      generalize matchB qa qn t = mb at *
      cases mb with
      | false =>
        go_wp2_with (go_at_call 13; refine (HM.out _).mono ?_; rintro e w' ⟨rfl, hb⟩; obtain ⟨d, os, rfl⟩ := more_of hb; clear hb)
        go_roundg (32 - (t + 1))
        case measure => omega
        case rel => exact ⟨t + 1, by go_num, by omega, by omega, Lib.hid (by rw [HST.out]; simpa using HN.out.grow (by repeat' (first | (with_reducible exact Below.refl _ _) | (with_reducible assumption) | (with_reducible refine below_drewN ?_ _) | (with_reducible refine below_more _ _ _ ?_ ?_) | (with_reducible refine Below.alloc ?_ ?_ _) | (with_reducible refine Below.drew ?_) | (with_reducible refine Below.setCell ?_ ?_ _) | go_size)))⟩
      | true =>
        go_wp2_with (first | (go_at_call 13; refine (HM.out _).mono ?_; rintro e w' ⟨rfl, hb⟩; obtain ⟨d, os, rfl⟩ := more_of hb; clear hb) | (at_builtin; refine wpList_append_sl _ (by rfl) _ _ 26 (by rfl) 3 i0 _ 1 8 Try.underlying26 hi0 hz0 hz1 hz2 rfl (by omega) _ acc.length (cellsR intE acc) (by rfl) ((HN.out.grow (w' := _) (by repeat' (first | (with_reducible exact Below.refl _ _) | (with_reducible assumption) | (with_reducible refine below_drewN ?_ _) | (with_reducible refine below_more _ _ _ ?_ ?_) | (with_reducible refine Below.alloc ?_ ?_ _) | (with_reducible refine Below.drew ?_) | (with_reducible refine Below.setCell ?_ ?_ _) | go_size))).1) ⟨_, 0, none⟩ 1 1 [.int .i64 t] (by rfl) (by rfl) (new_cellsN _ _ _ _ (by simp)) (by simp [Value.oneCell']) (by omega) (by unfold maxLen; omega) (by omega) ?_; intro v' w4 hs4 ht4 ho4))
        have HF := Lib.hid ((HN.out.grow (w' := (more wa d os).alloc (.cells #[.int .i64 t] 3)) (by repeat' (first | (with_reducible exact Below.refl _ _) | (with_reducible assumption) | (with_reducible refine below_drewN ?_ _) | (with_reducible refine below_more _ _ _ ?_ ?_) | (with_reducible refine Below.alloc ?_ ?_ _) | (with_reducible refine Below.drew ?_) | (with_reducible refine Below.setCell ?_ ?_ _) | go_size))).snoc (b := (t : Int)) hs4 ht4 ho4)
        clear hs4 ht4 ho4
        go_wp2_with fail
        go_roundg (32 - (t + 1))
        case measure => omega
        case rel => exact ⟨t + 1, by go_num, by omega, by omega, Lib.hid (by rw [HST.out]; exact HF.out)⟩
    · obtain rfl : t = 32 := by omega
      have HF := Lib.hid (HN.out.since HB1.out)
      clear HN
      go_wp2_with fail
      go_ret
      exact ⟨_, rfl, HF.out⟩
set_option maxRecDepth 100000 in
set_option maxHeartbeats 1000000 in
theorem rmasks_any (qa qn : Int) (w : World) (ha : I64 qa) :
    Calls Try.prog 17 #[.agg #[.int .i64 qa, .int .i64 qn]] w fun e w' => ∃ v', e = .returned v' ∧ RNew intE 3 1 w w' v' (masksF qa qn) := by
  obtain ⟨i0, hi0, hz0, hz1, hz2⟩ := info_partsG info_intE
  obtain ⟨w1, hw1, hc, hb1, hf1, hs1⟩ := one_box w #[.int .i64 qa, .int .i64 qn] 23
  have l1 : w.heap.size < w1.heap.size := by omega
  have HW1 := Lib.hid hw1
  have HB1 := Lib.hid hb1
  have HC := Lib.hid hc
  clear hw1 hb1 hc hf1 hs1
  go_enter Try.func17, Try.ntmps17
  go_wp2_with fail
  rw [← HW1.out]
  go_loopg [3, 4] 32 (fun kx o sx wr => ∃ t : Nat, sx = .int .i64 t ∧ t ≤ 32 ∧ 32 - t ≤ kx ∧ Hid (RNew intE 3 1 w1 wr o (masksT qa qn t)))
  case atStart => exact ⟨0, by go_num, by omega, by omega, Lib.hid (RNew.nil w1)⟩
  case round =>
    obtain ⟨t, rfl, ht, hkx, HN⟩ := hrel
    obtain ⟨wa, rfl⟩ : ∃ wa : World, wa = wr := ⟨_, rfl⟩
    by_cases hlt : t < 32
    · have t1 : (t : Int) < 32 := by omega
      have hbl := HN.out.2.1
      have y0 := (hbl.cell (p := ⟨w.heap.size, 0, none⟩) l1).trans (HC.out 0)
      have y1 := (hbl.cell (p := ⟨w.heap.size, 1, none⟩) l1).trans (HC.out 1)
      simp at y0 y1
      have la := Nat.lt_of_lt_of_le l1 hbl.size
      have hal := masksT_len qa qn t
      have HST := Lib.hid (masksT_step qa qn t)
      have HM := Lib.hid (fun W => rmatch_any qa qn t W ha (by unfold I64; omega))
      obtain ⟨po, co, hpo⟩ := sl_frm HN.out.1
      subst hpo
      clear hbl
      generalize masksT qa qn t = acc at *
      generalize matchB qa qn t = mb at *
      cases mb with
      | false =>
        go_wp2_with (go_at_call 14; refine (HM.out _).mono ?_; rintro e w' ⟨rfl, hb⟩; obtain ⟨d, os, rfl⟩ := more_of hb; clear hb)
        go_roundg (32 - (t + 1))
        case measure => omega
        case rel => exact ⟨t + 1, by go_num, by omega, by omega, Lib.hid (by rw [HST.out]; simpa using HN.out.grow (by repeat' (first | (with_reducible exact Below.refl _ _) | (with_reducible assumption) | (with_reducible refine below_drewN ?_ _) | (with_reducible refine below_more _ _ _ ?_ ?_) | (with_reducible refine Below.alloc ?_ ?_ _) | (with_reducible refine Below.drew ?_) | (with_reducible refine Below.setCell ?_ ?_ _) | go_size)))⟩
      | true =>
        go_wp2_with (first | (go_at_call 14; refine (HM.out _).mono ?_; rintro e w' ⟨rfl, hb⟩; obtain ⟨d, os, rfl⟩ := more_of hb; clear hb) | (at_builtin; refine wpList_append_sl _ (by rfl) _ _ 26 (by rfl) 3 i0 _ 1 8 Try.underlying26 hi0 hz0 hz1 hz2 rfl (by omega) _ acc.length (cellsR intE acc) (by rfl) ((HN.out.grow (w' := _) (by repeat' (first | (with_reducible exact Below.refl _ _) | (with_reducible assumption) | (with_reducible refine below_drewN ?_ _) | (with_reducible refine below_more _ _ _ ?_ ?_) | (with_reducible refine Below.alloc ?_ ?_ _) | (with_reducible refine Below.drew ?_) | (with_reducible refine Below.setCell ?_ ?_ _) | go_size))).1) ⟨_, 0, none⟩ 1 1 [.int .i64 t] (by rfl) (by rfl) (new_cellsN _ _ _ _ (by simp)) (by simp [Value.oneCell']) (by omega) (by unfold maxLen; omega) (by omega) ?_; intro v' w4 hs4 ht4 ho4))
        have HF := Lib.hid ((HN.out.grow (w' := (more wa d os).alloc (.cells #[.int .i64 t] 3)) (by repeat' (first | (with_reducible exact Below.refl _ _) | (with_reducible assumption) | (with_reducible refine below_drewN ?_ _) | (with_reducible refine below_more _ _ _ ?_ ?_) | (with_reducible refine Below.alloc ?_ ?_ _) | (with_reducible refine Below.drew ?_) | (with_reducible refine Below.setCell ?_ ?_ _) | go_size))).snoc (b := (t : Int)) hs4 ht4 ho4)
        clear hs4 ht4 ho4
        go_wp2_with fail
        go_roundg (32 - (t + 1))
        case measure => omega
        case rel => exact ⟨t + 1, by go_num, by omega, by omega, Lib.hid (by rw [HST.out]; exact HF.out)⟩
    · obtain rfl : t = 32 := by omega
      have HF := Lib.hid (HN.out.since HB1.out)
      clear HN
      go_wp2_with fail
      go_ret
      exact ⟨_, rfl, HF.out⟩

set_option maxRecDepth 100000 in
set_option maxHeartbeats 1000000 in
theorem sameI_self (va vb : Value) (l : List Int) (w : World) (ha : RIn intE w va l) (hb : RIn intE w vb l) :
    Calls Try.prog 15 #[va, vb] w fun e w' => e = .returned (.bool true) ∧ Below w.heap.size w w' := by
  have HA := Lib.hid ha
  have HB := Lib.hid hb
  obtain ⟨pa, ca, rfl, ma, _⟩ := ha
  obtain ⟨pb, cb, rfl, mb, _⟩ := hb
  unfold maxLen at ma mb
  go_enter Try.func15, Try.ntmps15
  go_wp2_with fail
  go_loopg [5] l.length (fun kx x wr => ∃ k : Nat, x = .int .i64 k ∧ k ≤ l.length ∧ l.length - k ≤ kx ∧ Hid (Below w.heap.size w wr))
  case atStart => exact ⟨0, by go_num, by omega, by omega, Lib.hid (Below.refl _ _)⟩
  case round =>
    obtain ⟨j, rfl, hk, hkx, HW⟩ := hrel
    by_cases hlt : j < l.length
    · have t1 : (j : Int) < (l.length : Int) := by omega
      obtain ⟨b, hb⟩ : ∃ b, l[j]? = some b := ⟨_, List.getElem?_eq_getElem hlt⟩
      obtain ⟨g1, o1, c1, hv1, b1, l1⟩ := RIn.cells (size := 1) (fun _ => rfl) (HA.out.keep HW.out) hb
      obtain ⟨g2, o2, c2, hv2, b2, l2⟩ := RIn.cells (size := 1) (fun _ => rfl) (HB.out.keep HW.out) hb
      simp only [Value.slice.injEq, true_and] at hv1 hv2
      obtain ⟨rfl, rfl⟩ := hv1
      obtain ⟨rfl, rfl⟩ := hv2
      clear hb
      skip
      skip
      have p0 := l1 0 _ rfl; have q0 := l2 0 _ rfl
      simp only [Nat.add_zero, Nat.mul_one] at p0 q0
      obtain ⟨z0, z1, z2⟩ := ltz b1
      obtain ⟨y0, y1, y2⟩ := ltz b2
      clear l1 l2
      go_wp2_with fail
      refine wp_region_more (by kernel_rfl) (by kernel_rfl) ?_
      repeat (go_big_quiet_step (fail))
      refine wpQuiet_nil ?_
      rintro _ ⟨pn, rfl⟩
      go_wp2_with fail
      go_roundg (l.length - (j + 1))
      case measure => omega
      case rel => exact ⟨j + 1, by go_num, by omega, by omega, Lib.hid (HW.out.trans (Below.mono (B := wr.heap.size) (by repeat' (first | (with_reducible exact Below.refl _ _) | (with_reducible assumption) | (with_reducible refine below_drewN ?_ _) | (with_reducible refine below_more _ _ _ ?_ ?_) | (with_reducible refine Below.alloc ?_ ?_ _) | (with_reducible refine Below.drew ?_) | (with_reducible refine Below.setCell ?_ ?_ _) | go_size)) HW.out.size))⟩
    · have t1 : ¬ (j : Int) < (l.length : Int) := by omega
      go_wp2_with fail
      go_ret
      exact ⟨rfl, HW.out⟩
set_option maxRecDepth 100000 in
set_option maxHeartbeats 1000000 in
theorem sameNd_self (va vb : Value) (l : List Nid) (w : World) (ha : RIn nidL w va l) (hb : RIn nidL w vb l) :
    Calls Try.prog 20 #[va, vb] w fun e w' => e = .returned (.bool true) ∧ Below w.heap.size w w' := by
  have HA := Lib.hid ha
  have HB := Lib.hid hb
  obtain ⟨pa, ca, rfl, ma, _⟩ := ha
  obtain ⟨pb, cb, rfl, mb, _⟩ := hb
  unfold maxLen at ma mb
  go_enter Try.func20, Try.ntmps20
  go_wp2_with fail
  go_loopg [5] l.length (fun kx x wr => ∃ k : Nat, x = .int .i64 k ∧ k ≤ l.length ∧ l.length - k ≤ kx ∧ Hid (Below w.heap.size w wr))
  case atStart => exact ⟨0, by go_num, by omega, by omega, Lib.hid (Below.refl _ _)⟩
  case round =>
    obtain ⟨j, rfl, hk, hkx, HW⟩ := hrel
    by_cases hlt : j < l.length
    · have t1 : (j : Int) < (l.length : Int) := by omega
      obtain ⟨b, hb⟩ : ∃ b, l[j]? = some b := ⟨_, List.getElem?_eq_getElem hlt⟩
      obtain ⟨g1, o1, c1, hv1, b1, l1⟩ := RIn.cells nidL_len (HA.out.keep HW.out) hb
      obtain ⟨g2, o2, c2, hv2, b2, l2⟩ := RIn.cells nidL_len (HB.out.keep HW.out) hb
      simp only [Value.slice.injEq, true_and] at hv1 hv2
      obtain ⟨rfl, rfl⟩ := hv1
      obtain ⟨rfl, rfl⟩ := hv2
      clear hb
      obtain ⟨s, i, g⟩ := b
      have hbe : idEq s i g s i g = true := by simp [idEq]
      have p0 := l1 0 _ rfl; have q0 := l2 0 _ rfl
      have p1 := l1 1 _ rfl; have q1 := l2 1 _ rfl
      have p2 := l1 2 _ rfl; have q2 := l2 2 _ rfl
      simp only [Nat.add_zero] at p0 q0
      obtain ⟨z0, z1, z2⟩ := ltz b1
      obtain ⟨y0, y1, y2⟩ := ltz b2
      clear l1 l2
      go_wp2_with fail
      refine wp_region_more (by kernel_rfl) (by kernel_rfl) ?_
      repeat (go_big_quiet_step (fail))
      refine wpQuiet_nil ?_
      rintro _ ⟨pn, rfl⟩
      go_wp2_with fail
      go_roundg (l.length - (j + 1))
      case measure => omega
      case rel => exact ⟨j + 1, by go_num, by omega, by omega, Lib.hid (HW.out.trans (Below.mono (B := wr.heap.size) (by repeat' (first | (with_reducible exact Below.refl _ _) | (with_reducible assumption) | (with_reducible refine below_drewN ?_ _) | (with_reducible refine below_more _ _ _ ?_ ?_) | (with_reducible refine Below.alloc ?_ ?_ _) | (with_reducible refine Below.drew ?_) | (with_reducible refine Below.setCell ?_ ?_ _) | go_size)) HW.out.size))⟩
    · have t1 : ¬ (j : Int) < (l.length : Int) := by omega
      go_wp2_with fail
      go_ret
      exact ⟨rfl, HW.out⟩
end Go.Proofs.Ytmkfjelpekkmmaa
