/-
  Chapter 16: the program's desk: New. The reference's Check of a world; of a world that may not be. No condition.
-/
import Derived.Test.YtbghjklnlhoklaaMk11
import Derived.Test.YtbghjklnlhoklaaMk16
import Derived.Test.YtbghjklnlhoklaaMk8
namespace Go.Proofs.Ytbghjklnlhoklaa
open Go.RowKit

set_option maxRecDepth 100000 in
set_option maxHeartbeats 2000000 in
theorem zcheck_bad (cols rows side radius speed ids queue : Int) (w : World) (h : ¬ CfgOk ⟨cols, rows, side, radius, speed, ids, queue⟩) :
    Calls Try.prog 66 #[.agg #[.int .i64 cols, .int .i64 rows, .int .i64 side, .int .i64 radius, .int .i64 speed, .int .i64 ids, .int .i64 queue]] w fun e w' => e = .returned (.int .i64 1) ∧ Below w.heap.size w w' := by
  have H := Lib.hid (fun a1 a2 a3 a4 a5 a6 a7 a8 a9 b1 b2 b3 b4 b5 => h ⟨a1, a2, a3, a4, a5, a6, a7, a8, a9, b1, b2, b3, b4, b5⟩)
  simp only at H
  clear h
  go_enter Try.func66, Try.ntmps66
  go_wp2_with fail
  refine wp_loop_rounds 8 ?_
  repeat any_goals (rw [rounds_succ]; go_wp2_with fail)
  all_goals go_ret
  all_goals first
    | exact ⟨rfl, (by repeat' (first | (with_reducible exact Below.refl _ _) | (with_reducible assumption) | (with_reducible refine below_drewN ?_ _) | (with_reducible refine below_more _ _ _ ?_ ?_) | (with_reducible refine Below.alloc ?_ ?_ _) | (with_reducible refine Below.drew ?_) | (with_reducible refine Below.setCell ?_ ?_ _) | go_size))⟩
    | exact (H.out (by omega) (by omega) (by omega) (by omega) (by omega) (by omega) (by omega) (by omega) (by omega) (by omega) (by omega) (by omega) (by omega) (by omega)).elim
theorem znew_bad (cols rows side radius speed ids queue : Int) (w : World) (h : ¬ CfgOk ⟨cols, rows, side, radius, speed, ids, queue⟩) :
    Calls Try.prog 33 #[.agg #[.int .i64 cols, .int .i64 rows, .int .i64 side, .int .i64 radius, .int .i64 speed, .int .i64 ids, .int .i64 queue]] w fun e w' => e = .returned (.tuple #[.pointer none, .int .i64 1]) ∧ Below w.heap.size w w' := by
  have HC := Lib.hid (fun W => zcheck_bad cols rows side radius speed ids queue W h)
  clear h
  go_enter Try.func33, Try.ntmps33
  go_wp2_with (go_at_call 66; refine (HC.out _).mono ?_; rintro e w' ⟨rfl, hb⟩; obtain ⟨d, os, rfl⟩ := more_of hb; clear hb)
  go_ret2
  exact ⟨rfl, (by repeat' (first | (with_reducible exact Below.refl _ _) | (with_reducible assumption) | (with_reducible refine below_drewN ?_ _) | (with_reducible refine below_more _ _ _ ?_ ?_) | (with_reducible refine Below.alloc ?_ ?_ _) | (with_reducible refine Below.drew ?_) | (with_reducible refine Below.setCell ?_ ?_ _) | go_size))⟩
theorem dnew_bad (cols rows side radius speed ids queue : Int) (w : World) (h : ¬ CfgOk ⟨cols, rows, side, radius, speed, ids, queue⟩) :
    Calls Try.prog 10 #[.agg #[.int .i64 cols, .int .i64 rows, .int .i64 side, .int .i64 radius, .int .i64 speed, .int .i64 ids, .int .i64 queue]] w fun e w' => e = .returned (.tuple #[.pointer none, .int .i64 1]) ∧ Below w.heap.size w w' := by
  have HC := Lib.hid (fun W => znew_bad cols rows side radius speed ids queue W h)
  clear h
  go_enter Try.func10, Try.ntmps10
  go_wp2_with (go_at_call 33; refine (HC.out _).mono ?_; rintro e w' ⟨rfl, hb⟩; obtain ⟨d, os, rfl⟩ := more_of hb; clear hb)
  go_ret2
  exact ⟨rfl, (by repeat' (first | (with_reducible exact Below.refl _ _) | (with_reducible assumption) | (with_reducible refine below_drewN ?_ _) | (with_reducible refine below_more _ _ _ ?_ ?_) | (with_reducible refine Below.alloc ?_ ?_ _) | (with_reducible refine Below.drew ?_) | (with_reducible refine Below.setCell ?_ ?_ _) | go_size))⟩
theorem deskMade {w W : World} {c : Cfg} {bm : Nat} {L : Lay} {M : List Sh} {P p : Nat} (hpw : p = W.heap.size) (hw : Below w.heap.size w W) (hm : MapAt W bm c) (hp : PoolAt W L M) (hP : L.P = P) (hbm : w.heap.size ≤ bm) (ho : ∀ b, L.own b → w.heap.size ≤ b) (hob : ∀ b, L.own b → bm < b) (hq : (([] : List Cm).length : Int) ≤ c.queue) :
    Made w (W.alloc (.cells #[.pointer (some ⟨bm, 0, none⟩), .pointer (some ⟨P, 0, none⟩), .slice none 0 0, .int .i64 0, .bool false] 83)) (deskO p c ⟨M, [], 0, false⟩) := by
  subst hP hpw
  have hb := (Below.refl W.heap.size W).alloc (Nat.le_refl _) (.cells #[.pointer (some ⟨bm, 0, none⟩), .pointer (some ⟨L.P, 0, none⟩), .slice none 0 0, .int .i64 0, .bool false] 83)
  have hlm := lt_of_heap hm
  have h1 := hw.size
  refine ⟨fun x => DLay.own ⟨W.heap.size, bm, L, .slice none 0 0⟩ x ∨ x = bm, ⟨⟨W.heap.size, bm, L, .slice none 0 0⟩, rfl, ⟨heap_alloc_new W _, hm.grow hb, hp.grown hb, ⟨rfl, .inl ⟨rfl, rfl⟩⟩, hq, by simp only; omega, fun e => ?_, fun g hg => (by cases hg), ?_⟩, fun _ => Iff.rfl⟩, hw.trans (hb.mono h1), fun x hx => ?_⟩
  · have e' : L.own W.heap.size := e
    have := hp.lt e'; omega
  · rintro (e | e | e)
    · have e' : bm = W.heap.size := e
      omega
    · have := hob _ e; simp only at this; omega
    · cases e
  · rcases hx with (e | e | e) | e
    · have e' : x = W.heap.size := e
      omega
    · exact ho x e
    · cases e
    · omega
set_option maxRecDepth 100000 in
set_option maxHeartbeats 2000000 in
theorem dnew_ok (cols rows side radius speed ids queue : Int) (w : World) (h : CfgOk ⟨cols, rows, side, radius, speed, ids, queue⟩) :
    Calls Try.prog 10 #[.agg #[.int .i64 cols, .int .i64 rows, .int .i64 side, .int .i64 radius, .int .i64 speed, .int .i64 ids, .int .i64 queue]] w fun e w' => ∃ p, e = .returned (.tuple #[.pointer (some ⟨p, 0, none⟩), .int .i64 0]) ∧ Made w w' (deskO p ⟨cols, rows, side, radius, speed, ids, queue⟩ (newD ⟨cols, rows, side, radius, speed, ids, queue⟩)) := by
  obtain ⟨n1, n2⟩ := h.cnt
  simp only at n1 n2
  have i0 := h.i0
  have i1 := h.i1
  have q0 := h.q0
  simp only at i0 i1 q0
  obtain ⟨n, hn⟩ : ∃ n : Nat, cols * rows = (n : Int) := ⟨(cols * rows).toNat, by omega⟩
  obtain ⟨k, rfl⟩ : ∃ k : Nat, ids = (k : Int) := ⟨ids.toNat, by omega⟩
  have HZ := Lib.hid (fun W => znew_ok cols rows side radius speed k queue W h)
  have HCN := Lib.hid (fun W b (hm : MapAt W b ⟨cols, rows, side, radius, speed, k, queue⟩) => zcount_any W b _ hm h)
  simp only [hn] at HCN
  have HNW := Lib.hid (fun W => new_p n k W (by omega) (by omega) (by omega) (by omega))
  have hnd : newD ⟨cols, rows, side, radius, speed, k, queue⟩ = ⟨List.replicate n (fresh k k), [], 0, false⟩ := by
    unfold newD; simp only [hn, Int.toNat_natCast]
  rw [hnd]
  clear h hnd
  go_enter Try.func10, Try.ntmps10
  go_wp2_with fail
  generalize hw1 : World.alloc w _ = w1
  have y5 : w1.cell? ⟨w.heap.size, 5, none⟩ = some (.int .i64 k) := by rw [← hw1]; simp
  have s1 : w.heap.size < w1.heap.size := by rw [← hw1]; simp
  have hb1 : Below w.heap.size w w1 := by rw [← hw1]; exact (by repeat' (first | (with_reducible exact Below.refl _ _) | (with_reducible assumption) | (with_reducible refine below_drewN ?_ _) | (with_reducible refine below_more _ _ _ ?_ ?_) | (with_reducible refine Below.alloc ?_ ?_ _) | (with_reducible refine Below.drew ?_) | (with_reducible refine Below.setCell ?_ ?_ _) | go_size))
  have HB1 := Lib.hid hb1
  clear hw1 hb1
  refine (HZ.out _).mono ?_
  rintro e w2 ⟨bm, rfl, hb2, hm2, hbm⟩
  replace y5 := (hb2.cell (p := ⟨w.heap.size, 5, none⟩) s1).trans y5
  have s2 : w.heap.size < w2.heap.size := Nat.lt_of_lt_of_le s1 hb2.size
  have HB2 := Lib.hid (HB1.out.trans (hb2.mono HB1.out.size))
  have HM2 := Lib.hid hm2
  have HBM := Lib.hid (Nat.le_trans HB1.out.size hbm)
  have HLM := Lib.hid (lt_of_heap hm2)
  clear hb2 hm2 hbm HB1
  go_wp2_with fail
  go_region_held3 (fun W => (w2).heap.size ≤ W.heap.size ∧ ∀ b o, b < (w2).heap.size → W.cell? ⟨b, o, none⟩ = (w2).cell? ⟨b, o, none⟩) (with_reducible (repeat (first | assumption | exact s_refl _ | exact s_id _ | refine s_more _ _ ?_ | refine s_alloc _ ?_ | refine s_drew ?_))) (first | (go_at_call 35; refine (HCN.out _ _ (HM2.out.grow (by repeat' (first | (with_reducible exact Below.refl _ _) | (with_reducible assumption) | (with_reducible refine below_drewN ?_ _) | (with_reducible refine below_more _ _ _ ?_ ?_) | (with_reducible refine Below.alloc ?_ ?_ _) | (with_reducible refine Below.drew ?_) | (with_reducible refine Below.setCell ?_ ?_ _) | go_size)))).mono ?_; rintro e w' ⟨rfl, hb⟩; obtain ⟨d, os, rfl⟩ := more_of hb; clear hb) | (go_at_call 34; refine (HNW.out _).mono ?_; rintro e w' ⟨rfl, hbn, L, hP, hp, hown⟩; obtain ⟨d2, os2, rfl⟩ := more_of hbn; have HP := Lib.hid hp; have HOW := Lib.hid hown; clear hp hown hbn))
  go_wp2_with fail
  go_ret2
  have hb2 := HB2.out
  have hbw : ∀ W, Below w2.heap.size w2 W → Below w.heap.size w W := fun W hW => hb2.trans (hW.mono hb2.size)
  refine ⟨_, rfl, deskMade (W := more (more _ _ _) _ _) (by simp) (hbw _ (by repeat' (first | (with_reducible exact Below.refl _ _) | (with_reducible assumption) | (with_reducible refine below_drewN ?_ _) | (with_reducible refine below_more _ _ _ ?_ ?_) | (with_reducible refine Below.alloc ?_ ?_ _) | (with_reducible refine Below.drew ?_) | (with_reducible refine Below.setCell ?_ ?_ _) | go_size))) (HM2.out.grow (by repeat' (first | (with_reducible exact Below.refl _ _) | (with_reducible assumption) | (with_reducible refine below_drewN ?_ _) | (with_reducible refine below_more _ _ _ ?_ ?_) | (with_reducible refine Below.alloc ?_ ?_ _) | (with_reducible refine Below.drew ?_) | (with_reducible refine Below.setCell ?_ ?_ _) | go_size))) HP.out (hP.trans (by simp)) HBM.out (fun b hb => ?_) (fun b hb => ?_) (by simp only [List.length_nil]; omega)⟩
  · have := HOW.out b hb; simp at this; have := hb2.size; omega
  · have := HOW.out b hb; simp at this; have := HLM.out; omega
def withinB2 (n lo hi : Int) : Bool := decide (lo ≤ n) && decide (n ≤ hi)
theorem rwithin4_any (n lo hi : Int) (w : World) : Calls Try.prog 54 #[.int .i64 n, .int .i64 lo, .int .i64 hi] w fun e w' => e = .returned (.bool (withinB2 n lo hi)) ∧ w = w' := by
  unfold withinB2
  by_cases h1 : lo ≤ n
  · have d1 : decide (lo ≤ n) = true := decide_eq_true h1
    rw [d1]
    go_enter Try.func54, Try.ntmps54
    go_wp2
    go_ret
    exact ⟨rfl, rfl⟩
  · have d1 : decide (lo ≤ n) = false := decide_eq_false h1
    rw [d1]
    go_enter Try.func54, Try.ntmps54
    go_wp2
    go_ret
    exact ⟨rfl, rfl⟩
def cfgB (c : Cfg) : Bool := withinB2 c.cols 1 4 && withinB2 c.rows 1 4 && withinB2 c.side 256 1048576 && withinB2 c.radius 0 c.side && withinB2 c.speed 0 c.side && withinB2 c.ids 1 16 && withinB2 c.queue 1 64
theorem cfgB_iff (c : Cfg) : cfgB c = true ↔ CfgOk c := by
  unfold cfgB withinB2
  simp only [Bool.and_eq_true, decide_eq_true_eq]
  constructor
  · rintro ⟨⟨⟨⟨⟨⟨h1, h2⟩, h3⟩, h4⟩, h5⟩, h6⟩, h7⟩
    exact ⟨h1.1, h1.2, h2.1, h2.2, h3.1, h3.2, h4.1, h4.2, h5.1, h5.2, h6.1, h6.2, h7.1, h7.2⟩
  · rintro ⟨a1, a2, a3, a4, a5, a6, a7, a8, a9, b1, b2, b3, b4, b5⟩
    exact ⟨⟨⟨⟨⟨⟨⟨a1, a2⟩, a3, a4⟩, a5, a6⟩, a7, a8⟩, a9, b1⟩, b2, b3⟩, b4, b5⟩
set_option maxRecDepth 100000 in
set_option maxHeartbeats 4000000 in
theorem rcheck_any (cols rows side radius speed ids queue : Int) (w : World) :
    Calls Try.prog 27 #[.agg #[.int .i64 cols, .int .i64 rows, .int .i64 side, .int .i64 radius, .int .i64 speed, .int .i64 ids, .int .i64 queue]] w fun e w' => e = .returned (.int .i64 (if cfgB ⟨cols, rows, side, radius, speed, ids, queue⟩ then 0 else 1)) ∧ Below w.heap.size w w' := by
  have H1 := Lib.hid (fun W => rwithin4_any cols 1 4 W)
  have H2 := Lib.hid (fun W => rwithin4_any rows 1 4 W)
  have H3 := Lib.hid (fun W => rwithin4_any side 256 1048576 W)
  have H4 := Lib.hid (fun W => rwithin4_any radius 0 side W)
  have H5 := Lib.hid (fun W => rwithin4_any speed 0 side W)
  have H6 := Lib.hid (fun W => rwithin4_any ids 1 16 W)
  have H7 := Lib.hid (fun W => rwithin4_any queue 1 64 W)
  unfold cfgB
  simp only
  generalize withinB2 cols 1 4 = b1 at *
  generalize withinB2 rows 1 4 = b2 at *
  generalize withinB2 side 256 1048576 = b3 at *
  generalize withinB2 radius 0 side = b4 at *
  generalize withinB2 speed 0 side = b5 at *
  generalize withinB2 ids 1 16 = b6 at *
  generalize withinB2 queue 1 64 = b7 at *
  
  cases b1
  case false =>
    go_enter Try.func27, Try.ntmps27
    go_wp2_with (go_at_call 54; (first | (with_reducible refine (H1.out _).mono ?_; rintro e w' ⟨rfl, rfl⟩) | (with_reducible refine (H2.out _).mono ?_; rintro e w' ⟨rfl, rfl⟩) | (with_reducible refine (H3.out _).mono ?_; rintro e w' ⟨rfl, rfl⟩) | (with_reducible refine (H4.out _).mono ?_; rintro e w' ⟨rfl, rfl⟩) | (with_reducible refine (H5.out _).mono ?_; rintro e w' ⟨rfl, rfl⟩) | (with_reducible refine (H6.out _).mono ?_; rintro e w' ⟨rfl, rfl⟩) | (with_reducible refine (H7.out _).mono ?_; rintro e w' ⟨rfl, rfl⟩)))
    go_ret
    exact ⟨rfl, (by repeat' (first | (with_reducible exact Below.refl _ _) | (with_reducible assumption) | (with_reducible refine below_drewN ?_ _) | (with_reducible refine below_more _ _ _ ?_ ?_) | (with_reducible refine Below.alloc ?_ ?_ _) | (with_reducible refine Below.drew ?_) | (with_reducible refine Below.setCell ?_ ?_ _) | go_size))⟩
  cases b2
  case false =>
    go_enter Try.func27, Try.ntmps27
    go_wp2_with (go_at_call 54; (first | (with_reducible refine (H1.out _).mono ?_; rintro e w' ⟨rfl, rfl⟩) | (with_reducible refine (H2.out _).mono ?_; rintro e w' ⟨rfl, rfl⟩) | (with_reducible refine (H3.out _).mono ?_; rintro e w' ⟨rfl, rfl⟩) | (with_reducible refine (H4.out _).mono ?_; rintro e w' ⟨rfl, rfl⟩) | (with_reducible refine (H5.out _).mono ?_; rintro e w' ⟨rfl, rfl⟩) | (with_reducible refine (H6.out _).mono ?_; rintro e w' ⟨rfl, rfl⟩) | (with_reducible refine (H7.out _).mono ?_; rintro e w' ⟨rfl, rfl⟩)))
    go_ret
    exact ⟨rfl, (by repeat' (first | (with_reducible exact Below.refl _ _) | (with_reducible assumption) | (with_reducible refine below_drewN ?_ _) | (with_reducible refine below_more _ _ _ ?_ ?_) | (with_reducible refine Below.alloc ?_ ?_ _) | (with_reducible refine Below.drew ?_) | (with_reducible refine Below.setCell ?_ ?_ _) | go_size))⟩
  cases b3
  case false =>
    go_enter Try.func27, Try.ntmps27
    go_wp2_with (go_at_call 54; (first | (with_reducible refine (H1.out _).mono ?_; rintro e w' ⟨rfl, rfl⟩) | (with_reducible refine (H2.out _).mono ?_; rintro e w' ⟨rfl, rfl⟩) | (with_reducible refine (H3.out _).mono ?_; rintro e w' ⟨rfl, rfl⟩) | (with_reducible refine (H4.out _).mono ?_; rintro e w' ⟨rfl, rfl⟩) | (with_reducible refine (H5.out _).mono ?_; rintro e w' ⟨rfl, rfl⟩) | (with_reducible refine (H6.out _).mono ?_; rintro e w' ⟨rfl, rfl⟩) | (with_reducible refine (H7.out _).mono ?_; rintro e w' ⟨rfl, rfl⟩)))
    go_ret
    exact ⟨rfl, (by repeat' (first | (with_reducible exact Below.refl _ _) | (with_reducible assumption) | (with_reducible refine below_drewN ?_ _) | (with_reducible refine below_more _ _ _ ?_ ?_) | (with_reducible refine Below.alloc ?_ ?_ _) | (with_reducible refine Below.drew ?_) | (with_reducible refine Below.setCell ?_ ?_ _) | go_size))⟩
  cases b4
  case false =>
    go_enter Try.func27, Try.ntmps27
    go_wp2_with (go_at_call 54; (first | (with_reducible refine (H1.out _).mono ?_; rintro e w' ⟨rfl, rfl⟩) | (with_reducible refine (H2.out _).mono ?_; rintro e w' ⟨rfl, rfl⟩) | (with_reducible refine (H3.out _).mono ?_; rintro e w' ⟨rfl, rfl⟩) | (with_reducible refine (H4.out _).mono ?_; rintro e w' ⟨rfl, rfl⟩) | (with_reducible refine (H5.out _).mono ?_; rintro e w' ⟨rfl, rfl⟩) | (with_reducible refine (H6.out _).mono ?_; rintro e w' ⟨rfl, rfl⟩) | (with_reducible refine (H7.out _).mono ?_; rintro e w' ⟨rfl, rfl⟩)))
    go_ret
    exact ⟨rfl, (by repeat' (first | (with_reducible exact Below.refl _ _) | (with_reducible assumption) | (with_reducible refine below_drewN ?_ _) | (with_reducible refine below_more _ _ _ ?_ ?_) | (with_reducible refine Below.alloc ?_ ?_ _) | (with_reducible refine Below.drew ?_) | (with_reducible refine Below.setCell ?_ ?_ _) | go_size))⟩
  cases b5
  case false =>
    go_enter Try.func27, Try.ntmps27
    go_wp2_with (go_at_call 54; (first | (with_reducible refine (H1.out _).mono ?_; rintro e w' ⟨rfl, rfl⟩) | (with_reducible refine (H2.out _).mono ?_; rintro e w' ⟨rfl, rfl⟩) | (with_reducible refine (H3.out _).mono ?_; rintro e w' ⟨rfl, rfl⟩) | (with_reducible refine (H4.out _).mono ?_; rintro e w' ⟨rfl, rfl⟩) | (with_reducible refine (H5.out _).mono ?_; rintro e w' ⟨rfl, rfl⟩) | (with_reducible refine (H6.out _).mono ?_; rintro e w' ⟨rfl, rfl⟩) | (with_reducible refine (H7.out _).mono ?_; rintro e w' ⟨rfl, rfl⟩)))
    go_ret
    exact ⟨rfl, (by repeat' (first | (with_reducible exact Below.refl _ _) | (with_reducible assumption) | (with_reducible refine below_drewN ?_ _) | (with_reducible refine below_more _ _ _ ?_ ?_) | (with_reducible refine Below.alloc ?_ ?_ _) | (with_reducible refine Below.drew ?_) | (with_reducible refine Below.setCell ?_ ?_ _) | go_size))⟩
  cases b6
  case false =>
    go_enter Try.func27, Try.ntmps27
    go_wp2_with (go_at_call 54; (first | (with_reducible refine (H1.out _).mono ?_; rintro e w' ⟨rfl, rfl⟩) | (with_reducible refine (H2.out _).mono ?_; rintro e w' ⟨rfl, rfl⟩) | (with_reducible refine (H3.out _).mono ?_; rintro e w' ⟨rfl, rfl⟩) | (with_reducible refine (H4.out _).mono ?_; rintro e w' ⟨rfl, rfl⟩) | (with_reducible refine (H5.out _).mono ?_; rintro e w' ⟨rfl, rfl⟩) | (with_reducible refine (H6.out _).mono ?_; rintro e w' ⟨rfl, rfl⟩) | (with_reducible refine (H7.out _).mono ?_; rintro e w' ⟨rfl, rfl⟩)))
    go_ret
    exact ⟨rfl, (by repeat' (first | (with_reducible exact Below.refl _ _) | (with_reducible assumption) | (with_reducible refine below_drewN ?_ _) | (with_reducible refine below_more _ _ _ ?_ ?_) | (with_reducible refine Below.alloc ?_ ?_ _) | (with_reducible refine Below.drew ?_) | (with_reducible refine Below.setCell ?_ ?_ _) | go_size))⟩
  cases b7
  case false =>
    go_enter Try.func27, Try.ntmps27
    go_wp2_with (go_at_call 54; (first | (with_reducible refine (H1.out _).mono ?_; rintro e w' ⟨rfl, rfl⟩) | (with_reducible refine (H2.out _).mono ?_; rintro e w' ⟨rfl, rfl⟩) | (with_reducible refine (H3.out _).mono ?_; rintro e w' ⟨rfl, rfl⟩) | (with_reducible refine (H4.out _).mono ?_; rintro e w' ⟨rfl, rfl⟩) | (with_reducible refine (H5.out _).mono ?_; rintro e w' ⟨rfl, rfl⟩) | (with_reducible refine (H6.out _).mono ?_; rintro e w' ⟨rfl, rfl⟩) | (with_reducible refine (H7.out _).mono ?_; rintro e w' ⟨rfl, rfl⟩)))
    go_ret
    exact ⟨rfl, (by repeat' (first | (with_reducible exact Below.refl _ _) | (with_reducible assumption) | (with_reducible refine below_drewN ?_ _) | (with_reducible refine below_more _ _ _ ?_ ?_) | (with_reducible refine Below.alloc ?_ ?_ _) | (with_reducible refine Below.drew ?_) | (with_reducible refine Below.setCell ?_ ?_ _) | go_size))⟩
  case true =>
    go_enter Try.func27, Try.ntmps27
    go_wp2_with (go_at_call 54; (first | (with_reducible refine (H1.out _).mono ?_; rintro e w' ⟨rfl, rfl⟩) | (with_reducible refine (H2.out _).mono ?_; rintro e w' ⟨rfl, rfl⟩) | (with_reducible refine (H3.out _).mono ?_; rintro e w' ⟨rfl, rfl⟩) | (with_reducible refine (H4.out _).mono ?_; rintro e w' ⟨rfl, rfl⟩) | (with_reducible refine (H5.out _).mono ?_; rintro e w' ⟨rfl, rfl⟩) | (with_reducible refine (H6.out _).mono ?_; rintro e w' ⟨rfl, rfl⟩) | (with_reducible refine (H7.out _).mono ?_; rintro e w' ⟨rfl, rfl⟩)))
    go_ret
    exact ⟨rfl, (by repeat' (first | (with_reducible exact Below.refl _ _) | (with_reducible assumption) | (with_reducible refine below_drewN ?_ _) | (with_reducible refine below_more _ _ _ ?_ ?_) | (with_reducible refine Below.alloc ?_ ?_ _) | (with_reducible refine Below.drew ?_) | (with_reducible refine Below.setCell ?_ ?_ _) | go_size))⟩
end Go.Proofs.Ytbghjklnlhoklaa
