/-
  Chapter 15: same of equal results; few: a case cut to forty of each. Condition: the masks of a case's world are taken as they are.
-/
import Derived.Test.YtcnclcfipabimaaRtD
import Derived.Test.YtcnclcfipabimaaSyF
import Derived.Test.YtcnclcfipabimaaMsn
namespace Go.Proofs.Ytcnclcfipabimaa
open Go.RowKit

set_option maxRecDepth 100000 in
set_option maxHeartbeats 2000000 in
theorem sameIDs_self (v1 v2 : Value) (l : List Nid) (w : World) (h1 : RIn nidL w v1 l) (h2 : RIn nidL w v2 l) : Calls Try.prog 95 #[v1, v2] w fun e w' => e = .returned (.bool true) ∧ Below w.heap.size w w' := by
  have H1 := Lib.hid h1; have H2 := Lib.hid h2
  obtain ⟨p1, c1, rfl, hm, _⟩ := h1
  obtain ⟨p2, c2, rfl, _, _⟩ := h2
  unfold maxLen at hm
  have hlen : ((l.length : Int) != (l.length : Int)) = false := by simp
  go_enter Try.func95, Try.ntmps95
  go_wp2_with fail
  go_loopg [5] l.length (fun kx sx wr => ∃ t : Nat, sx = .int .i64 t ∧ t ≤ l.length ∧ l.length - t ≤ kx ∧ Hid (Below w.heap.size w wr))
  case atStart => exact ⟨0, by go_num, by omega, by omega, Lib.hid (by repeat' (first | (with_reducible exact Below.refl _ _) | (with_reducible assumption) | (with_reducible refine below_drewN ?_ _) | (with_reducible refine below_more _ _ _ ?_ ?_) | (with_reducible refine Below.alloc ?_ ?_ _) | (with_reducible refine Below.drew ?_) | (with_reducible refine Below.setCell ?_ ?_ _) | go_size))⟩
  case round =>
    obtain ⟨t, rfl, ht, hkx, HB⟩ := hrel
    obtain ⟨wd, rfl⟩ : ∃ wd : World, wd = wr := ⟨_, rfl⟩
    by_cases hlt3 : t < l.length
    · have t3 : (t : Int) < (l.length : Int) := by omega
      obtain ⟨d0, hd0⟩ : ∃ d0, l[t]? = some d0 := ⟨_, List.getElem?_eq_getElem hlt3⟩
      obtain ⟨gb, ob, cb', hv, hgb, hcb⟩ := (H1.out.keep HB.out).cells nidL_len hd0
      simp only [Value.slice.injEq, true_and] at hv
      obtain ⟨rfl, rfl⟩ := hv
      obtain ⟨gb', ob', cb'', hv, hgb', hcb'⟩ := (H2.out.keep HB.out).cells nidL_len hd0
      simp only [Value.slice.injEq, true_and] at hv
      obtain ⟨rfl, rfl⟩ := hv
      have c0 := hcb 0 _ rfl; have v0 := hcb' 0 _ rfl; have c1 := hcb 1 _ rfl; have v1 := hcb' 1 _ rfl; have c2 := hcb 2 _ rfl; have v2 := hcb' 2 _ rfl
      simp only [Nat.add_zero] at c0 v0
      have hid : idEq d0.s d0.i d0.g d0.s d0.i d0.g = true := by simp [idEq]
      clear hcb hcb' hd0
      obtain ⟨ds', di', dg'⟩ := d0
      simp only at hid c0 c1 c2 v0 v1 v2
      go_wp2_with fail
      refine wp_region_more (by kernel_rfl) (by kernel_rfl) ?_
      repeat (go_big_quiet_step (fail))
      refine wpQuiet_nil ?_
      rintro _ ⟨pq5, rfl⟩
      go_wp2_with fail
      go_roundg (l.length - (t + 1))
      case measure => omega
      case rel => exact ⟨t + 1, by go_num, by omega, by omega, Lib.hid (HB.out.trans (Below.mono (B := wd.heap.size) (by repeat' (first | (with_reducible exact Below.refl _ _) | (with_reducible assumption) | (with_reducible refine below_drewN ?_ _) | (with_reducible refine below_more _ _ _ ?_ ?_) | (with_reducible refine Below.alloc ?_ ?_ _) | (with_reducible refine Below.drew ?_) | (with_reducible refine Below.setCell ?_ ?_ _) | go_size)) HB.out.size))⟩
    · have t3 : ¬ (t : Int) < (l.length : Int) := by omega
      go_wp2_with fail
      go_ret
      exact ⟨rfl, HB.out.trans (Below.mono (B := wd.heap.size) (by repeat' (first | (with_reducible exact Below.refl _ _) | (with_reducible assumption) | (with_reducible refine below_drewN ?_ _) | (with_reducible refine below_more _ _ _ ?_ ?_) | (with_reducible refine Below.alloc ?_ ?_ _) | (with_reducible refine Below.drew ?_) | (with_reducible refine Below.setCell ?_ ?_ _) | go_size)) HB.out.size)⟩
set_option maxRecDepth 100000 in
set_option maxHeartbeats 2000000 in
theorem same15 (va vb vd va' vb' vd' : Value) (oL gL : List Bun) (dN : List Nid) (w : World) (h1 : BIn w va oL) (h2 : BIn w vb gL) (h3 : RIn nidL w vd dN) (h1' : BIn w va' oL) (h2' : BIn w vb' gL) (h3' : RIn nidL w vd' dN) :
    Calls Try.prog 47 #[.agg #[va, vb, vd], .agg #[va', vb', vd']] w fun e w' => e = .returned (.bool true) ∧ Below w.heap.size w w' := by
  have HA := Lib.hid (fun W (hW : Below w.heap.size w W) => same_any va va' oL oL W (h1.keep hW) (h1'.keep hW))
  have HB := Lib.hid (fun W (hW : Below w.heap.size w W) => same_any vb vb' gL gL W (h2.keep hW) (h2'.keep hW))
  have HD := Lib.hid (fun W (hW : Below w.heap.size w W) => sameIDs_self vd vd' dN W (h3.keep hW) (h3'.keep hW))
  rw [decide_eq_true rfl] at HA HB
  obtain ⟨p1, c1, rfl, _⟩ := h1; obtain ⟨p2, c2, rfl, _⟩ := h2; obtain ⟨p3, c3, rfl, _⟩ := h3
  obtain ⟨p1', c1', rfl, _⟩ := h1'; obtain ⟨p2', c2', rfl, _⟩ := h2'; obtain ⟨p3', c3', rfl, _⟩ := h3'
  go_enter Try.func47, Try.ntmps47
  go_wp2_with fail
  refine (HA.out _ (by repeat' (first | (with_reducible exact Below.refl _ _) | (with_reducible assumption) | (with_reducible refine below_drewN ?_ _) | (with_reducible refine below_more _ _ _ ?_ ?_) | (with_reducible refine Below.alloc ?_ ?_ _) | (with_reducible refine Below.drew ?_) | (with_reducible refine Below.setCell ?_ ?_ _) | go_size))).mono ?_; rintro e w' ⟨rfl, hb⟩; obtain ⟨d3, os3, rfl⟩ := more_of hb; clear hb
  go_wp2_with fail
  refine (HB.out _ (by repeat' (first | (with_reducible exact Below.refl _ _) | (with_reducible assumption) | (with_reducible refine below_drewN ?_ _) | (with_reducible refine below_more _ _ _ ?_ ?_) | (with_reducible refine Below.alloc ?_ ?_ _) | (with_reducible refine Below.drew ?_) | (with_reducible refine Below.setCell ?_ ?_ _) | go_size))).mono ?_; rintro e w' ⟨rfl, hb⟩; obtain ⟨d4, os4, rfl⟩ := more_of hb; clear hb
  go_wp2_with fail
  refine (HD.out _ (by repeat' (first | (with_reducible exact Below.refl _ _) | (with_reducible assumption) | (with_reducible refine below_drewN ?_ _) | (with_reducible refine below_more _ _ _ ?_ ?_) | (with_reducible refine Below.alloc ?_ ?_ _) | (with_reducible refine Below.drew ?_) | (with_reducible refine Below.setCell ?_ ?_ _) | go_size))).mono ?_; rintro e w' ⟨rfl, hb⟩; obtain ⟨d5, os5, rfl⟩ := more_of hb; clear hb
  go_wp2_with fail
  go_ret
  exact ⟨rfl, (by repeat' (first | (with_reducible exact Below.refl _ _) | (with_reducible assumption) | (with_reducible refine below_drewN ?_ _) | (with_reducible refine below_more _ _ _ ?_ ?_) | (with_reducible refine Below.alloc ?_ ?_ _) | (with_reducible refine Below.drew ?_) | (with_reducible refine Below.setCell ?_ ?_ _) | go_size))⟩
/-- A slice cut to its first k. -/
theorem rin_cut {β : Type} {enc : β → List Value} {w : World} {p : Option Addr} {cap : Nat} {l : List β} (k : Nat) (h : RIn enc w (.slice p l.length cap) l) : RIn enc w (.slice p (l.take k).length cap) (l.take k) := by
  obtain ⟨p', cap', hv, h1, h2, h3, h4⟩ := h
  simp only [Value.slice.injEq, true_and] at hv
  obtain ⟨rfl, rfl⟩ := hv
  have hle : (l.take k).length ≤ l.length := by rw [List.length_take]; omega
  refine ⟨p, cap, rfl, by omega, h2, by omega, fun hn => ?_⟩
  obtain ⟨blk, off, rfl, h5, h6⟩ := h4 (fun e => hn (by rw [e]; simp))
  refine ⟨blk, off, rfl, h5, fun t u hu => h6 t u ?_⟩
  have e : cellsR enc l = cellsR enc (l.take k) ++ cellsR enc (l.drop k) := by rw [← cellsR_app, List.take_append_drop]
  rw [e, List.getElem?_append_left (List.getElem?_eq_some_iff.1 hu).1]
  exact hu
theorem cut_len {β : Type} (l : List β) : ((l.length : Int) > 40 → (l.take 40).length = 40) ∧ (¬ (l.length : Int) > 40 → (l.take 40).length = l.length) := ⟨fun h => by rw [List.length_take]; omega, fun h => by rw [List.length_take]; omega⟩


set_option maxRecDepth 100000 in
set_option maxHeartbeats 4000000 in
theorem few15 (cols rows side radius speed ids queue z : Int) (po pn pc : Option Addr) (eo en ec : Nat) (own near : List Bun) (ms : List Cm) (w : World) (h1 : BIn w (.slice po own.length eo) own) (h2 : BIn w (.slice pn near.length en) near) (h3 : RIn cmC w (.slice pc ms.length ec) ms) :
    Calls Try.prog 46 #[.agg #[.int .i64 cols, .int .i64 rows, .int .i64 side, .int .i64 radius, .int .i64 speed, .int .i64 ids, .int .i64 queue, .int .i64 z, .slice po own.length eo, .slice pn near.length en, .slice pc ms.length ec]] w fun e w' => e = .returned (.agg #[.int .i64 (mayF ⟨cols, rows, side, radius, speed, ids, queue⟩).cols, .int .i64 (mayF ⟨cols, rows, side, radius, speed, ids, queue⟩).rows, .int .i64 (mayF ⟨cols, rows, side, radius, speed, ids, queue⟩).side, .int .i64 (mayF ⟨cols, rows, side, radius, speed, ids, queue⟩).radius, .int .i64 (mayF ⟨cols, rows, side, radius, speed, ids, queue⟩).speed, .int .i64 (mayF ⟨cols, rows, side, radius, speed, ids, queue⟩).ids, .int .i64 (mayF ⟨cols, rows, side, radius, speed, ids, queue⟩).queue, .int .i64 z, .slice po (own.take 40).length eo, .slice pn (near.take 40).length en, .slice pc (ms.take 40).length ec]) ∧ Below w.heap.size w w' := by
  have HM := Lib.hid (fun W => may_any cols rows side radius speed ids queue W)
  generalize mayF ⟨cols, rows, side, radius, speed, ids, queue⟩ = d at *
  obtain ⟨dcols, drows, dside, dradius, dspeed, dids, dqueue⟩ := d
  simp only at HM
  obtain ⟨a1, a2⟩ := cut_len own
  obtain ⟨b1, b2⟩ := cut_len near
  obtain ⟨c1, c2⟩ := cut_len ms
  have hm1 : own.length ≤ maxLen ∧ own.length ≤ eo := by obtain ⟨_, _, hv, h, _, h', _⟩ := h1; simp only [Value.slice.injEq, true_and] at hv; omega
  have hm2 : near.length ≤ maxLen ∧ near.length ≤ en := by obtain ⟨_, _, hv, h, _, h', _⟩ := h2; simp only [Value.slice.injEq, true_and] at hv; omega
  have hm3 : ms.length ≤ maxLen ∧ ms.length ≤ ec := by obtain ⟨_, _, hv, h, _, h', _⟩ := h3; simp only [Value.slice.injEq, true_and] at hv; omega
  unfold maxLen at hm1 hm2 hm3
  clear h1 h2 h3
  generalize (own.take 40).length = ko at *
  generalize (near.take 40).length = kn at *
  generalize (ms.take 40).length = kc at *
  generalize own.length = lo at *
  generalize near.length = ln at *
  generalize ms.length = lc at *
  obtain ⟨hm1, hm1'⟩ := hm1; obtain ⟨hm2, hm2'⟩ := hm2; obtain ⟨hm3, hm3'⟩ := hm3
  by_cases q1 : (lo : Int) > 40
  · by_cases q2 : (ln : Int) > 40
    · by_cases q3 : (lc : Int) > 40
      · obtain rfl := (a1 q1).symm
        have z1 : 40 ≤ lo := by omega
        obtain rfl := (b1 q2).symm
        have z2 : 40 ≤ ln := by omega
        obtain rfl := (c1 q3).symm
        have z3 : 40 ≤ lc := by omega
        clear a1 a2 b1 b2 c1 c2
        go_enter Try.func46, Try.ntmps46
        go_wp2_with (go_at_call 17; refine (HM.out _).mono ?_; rintro e w' ⟨rfl, hb⟩; obtain ⟨d, os, rfl⟩ := more_of hb; clear hb)
        exact bodyPost_ret (v := .agg #[.int .i64 dcols, .int .i64 drows, .int .i64 dside, .int .i64 dradius, .int .i64 dspeed, .int .i64 dids, .int .i64 dqueue, .int .i64 z, .slice po 40 eo, .slice pn 40 en, .slice pc 40 ec]) (by simp [results, Try.results46, go_sem]) rfl ⟨rfl, (by repeat' (first | (with_reducible exact Below.refl _ _) | (with_reducible assumption) | (with_reducible refine below_drewN ?_ _) | (with_reducible refine below_more _ _ _ ?_ ?_) | (with_reducible refine Below.alloc ?_ ?_ _) | (with_reducible refine Below.drew ?_) | (with_reducible refine Below.setCell ?_ ?_ _) | go_size))⟩
      · obtain rfl := (a1 q1).symm
        have z1 : 40 ≤ lo := by omega
        obtain rfl := (b1 q2).symm
        have z2 : 40 ≤ ln := by omega
        obtain rfl := (c2 q3).symm
        clear a1 a2 b1 b2 c1 c2
        go_enter Try.func46, Try.ntmps46
        go_wp2_with (go_at_call 17; refine (HM.out _).mono ?_; rintro e w' ⟨rfl, hb⟩; obtain ⟨d, os, rfl⟩ := more_of hb; clear hb)
        exact bodyPost_ret (v := .agg #[.int .i64 dcols, .int .i64 drows, .int .i64 dside, .int .i64 dradius, .int .i64 dspeed, .int .i64 dids, .int .i64 dqueue, .int .i64 z, .slice po 40 eo, .slice pn 40 en, .slice pc lc ec]) (by simp [results, Try.results46, go_sem]) rfl ⟨rfl, (by repeat' (first | (with_reducible exact Below.refl _ _) | (with_reducible assumption) | (with_reducible refine below_drewN ?_ _) | (with_reducible refine below_more _ _ _ ?_ ?_) | (with_reducible refine Below.alloc ?_ ?_ _) | (with_reducible refine Below.drew ?_) | (with_reducible refine Below.setCell ?_ ?_ _) | go_size))⟩
    · by_cases q3 : (lc : Int) > 40
      · obtain rfl := (a1 q1).symm
        have z1 : 40 ≤ lo := by omega
        obtain rfl := (b2 q2).symm
        obtain rfl := (c1 q3).symm
        have z3 : 40 ≤ lc := by omega
        clear a1 a2 b1 b2 c1 c2
        go_enter Try.func46, Try.ntmps46
        go_wp2_with (go_at_call 17; refine (HM.out _).mono ?_; rintro e w' ⟨rfl, hb⟩; obtain ⟨d, os, rfl⟩ := more_of hb; clear hb)
        exact bodyPost_ret (v := .agg #[.int .i64 dcols, .int .i64 drows, .int .i64 dside, .int .i64 dradius, .int .i64 dspeed, .int .i64 dids, .int .i64 dqueue, .int .i64 z, .slice po 40 eo, .slice pn ln en, .slice pc 40 ec]) (by simp [results, Try.results46, go_sem]) rfl ⟨rfl, (by repeat' (first | (with_reducible exact Below.refl _ _) | (with_reducible assumption) | (with_reducible refine below_drewN ?_ _) | (with_reducible refine below_more _ _ _ ?_ ?_) | (with_reducible refine Below.alloc ?_ ?_ _) | (with_reducible refine Below.drew ?_) | (with_reducible refine Below.setCell ?_ ?_ _) | go_size))⟩
      · obtain rfl := (a1 q1).symm
        have z1 : 40 ≤ lo := by omega
        obtain rfl := (b2 q2).symm
        obtain rfl := (c2 q3).symm
        clear a1 a2 b1 b2 c1 c2
        go_enter Try.func46, Try.ntmps46
        go_wp2_with (go_at_call 17; refine (HM.out _).mono ?_; rintro e w' ⟨rfl, hb⟩; obtain ⟨d, os, rfl⟩ := more_of hb; clear hb)
        exact bodyPost_ret (v := .agg #[.int .i64 dcols, .int .i64 drows, .int .i64 dside, .int .i64 dradius, .int .i64 dspeed, .int .i64 dids, .int .i64 dqueue, .int .i64 z, .slice po 40 eo, .slice pn ln en, .slice pc lc ec]) (by simp [results, Try.results46, go_sem]) rfl ⟨rfl, (by repeat' (first | (with_reducible exact Below.refl _ _) | (with_reducible assumption) | (with_reducible refine below_drewN ?_ _) | (with_reducible refine below_more _ _ _ ?_ ?_) | (with_reducible refine Below.alloc ?_ ?_ _) | (with_reducible refine Below.drew ?_) | (with_reducible refine Below.setCell ?_ ?_ _) | go_size))⟩
  · by_cases q2 : (ln : Int) > 40
    · by_cases q3 : (lc : Int) > 40
      · obtain rfl := (a2 q1).symm
        obtain rfl := (b1 q2).symm
        have z2 : 40 ≤ ln := by omega
        obtain rfl := (c1 q3).symm
        have z3 : 40 ≤ lc := by omega
        clear a1 a2 b1 b2 c1 c2
        go_enter Try.func46, Try.ntmps46
        go_wp2_with (go_at_call 17; refine (HM.out _).mono ?_; rintro e w' ⟨rfl, hb⟩; obtain ⟨d, os, rfl⟩ := more_of hb; clear hb)
        exact bodyPost_ret (v := .agg #[.int .i64 dcols, .int .i64 drows, .int .i64 dside, .int .i64 dradius, .int .i64 dspeed, .int .i64 dids, .int .i64 dqueue, .int .i64 z, .slice po lo eo, .slice pn 40 en, .slice pc 40 ec]) (by simp [results, Try.results46, go_sem]) rfl ⟨rfl, (by repeat' (first | (with_reducible exact Below.refl _ _) | (with_reducible assumption) | (with_reducible refine below_drewN ?_ _) | (with_reducible refine below_more _ _ _ ?_ ?_) | (with_reducible refine Below.alloc ?_ ?_ _) | (with_reducible refine Below.drew ?_) | (with_reducible refine Below.setCell ?_ ?_ _) | go_size))⟩
      · obtain rfl := (a2 q1).symm
        obtain rfl := (b1 q2).symm
        have z2 : 40 ≤ ln := by omega
        obtain rfl := (c2 q3).symm
        clear a1 a2 b1 b2 c1 c2
        go_enter Try.func46, Try.ntmps46
        go_wp2_with (go_at_call 17; refine (HM.out _).mono ?_; rintro e w' ⟨rfl, hb⟩; obtain ⟨d, os, rfl⟩ := more_of hb; clear hb)
        exact bodyPost_ret (v := .agg #[.int .i64 dcols, .int .i64 drows, .int .i64 dside, .int .i64 dradius, .int .i64 dspeed, .int .i64 dids, .int .i64 dqueue, .int .i64 z, .slice po lo eo, .slice pn 40 en, .slice pc lc ec]) (by simp [results, Try.results46, go_sem]) rfl ⟨rfl, (by repeat' (first | (with_reducible exact Below.refl _ _) | (with_reducible assumption) | (with_reducible refine below_drewN ?_ _) | (with_reducible refine below_more _ _ _ ?_ ?_) | (with_reducible refine Below.alloc ?_ ?_ _) | (with_reducible refine Below.drew ?_) | (with_reducible refine Below.setCell ?_ ?_ _) | go_size))⟩
    · by_cases q3 : (lc : Int) > 40
      · obtain rfl := (a2 q1).symm
        obtain rfl := (b2 q2).symm
        obtain rfl := (c1 q3).symm
        have z3 : 40 ≤ lc := by omega
        clear a1 a2 b1 b2 c1 c2
        go_enter Try.func46, Try.ntmps46
        go_wp2_with (go_at_call 17; refine (HM.out _).mono ?_; rintro e w' ⟨rfl, hb⟩; obtain ⟨d, os, rfl⟩ := more_of hb; clear hb)
        exact bodyPost_ret (v := .agg #[.int .i64 dcols, .int .i64 drows, .int .i64 dside, .int .i64 dradius, .int .i64 dspeed, .int .i64 dids, .int .i64 dqueue, .int .i64 z, .slice po lo eo, .slice pn ln en, .slice pc 40 ec]) (by simp [results, Try.results46, go_sem]) rfl ⟨rfl, (by repeat' (first | (with_reducible exact Below.refl _ _) | (with_reducible assumption) | (with_reducible refine below_drewN ?_ _) | (with_reducible refine below_more _ _ _ ?_ ?_) | (with_reducible refine Below.alloc ?_ ?_ _) | (with_reducible refine Below.drew ?_) | (with_reducible refine Below.setCell ?_ ?_ _) | go_size))⟩
      · obtain rfl := (a2 q1).symm
        obtain rfl := (b2 q2).symm
        obtain rfl := (c2 q3).symm
        clear a1 a2 b1 b2 c1 c2
        go_enter Try.func46, Try.ntmps46
        go_wp2_with (go_at_call 17; refine (HM.out _).mono ?_; rintro e w' ⟨rfl, hb⟩; obtain ⟨d, os, rfl⟩ := more_of hb; clear hb)
        exact bodyPost_ret (v := .agg #[.int .i64 dcols, .int .i64 drows, .int .i64 dside, .int .i64 dradius, .int .i64 dspeed, .int .i64 dids, .int .i64 dqueue, .int .i64 z, .slice po lo eo, .slice pn ln en, .slice pc lc ec]) (by simp [results, Try.results46, go_sem]) rfl ⟨rfl, (by repeat' (first | (with_reducible exact Below.refl _ _) | (with_reducible assumption) | (with_reducible refine below_drewN ?_ _) | (with_reducible refine below_more _ _ _ ?_ ?_) | (with_reducible refine Below.alloc ?_ ?_ _) | (with_reducible refine Below.drew ?_) | (with_reducible refine Below.setCell ?_ ?_ _) | go_size))⟩
end Go.Proofs.Ytcnclcfipabimaa
