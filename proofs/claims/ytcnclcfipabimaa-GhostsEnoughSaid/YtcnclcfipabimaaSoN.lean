/-
  parts.Find, the reference's Find and Same. Condition: at most so many entities.
-/
import Derived.Test.YtcnclcfipabimaaSoM
import Derived.Test.YtcnclcfipabimaaFr
namespace Go.Proofs.Ytcnclcfipabimaa
open Go.RowKit Go.Sort

set_option maxRecDepth 100000 in
set_option maxHeartbeats 4000000 in
theorem find_any (v : Value) (l : List Bun) (s i g : Int) (w : World) (h : BIn w v l) (hl : l.length ≤ 1000000) :
    Calls Try.prog 124 #[v, .agg #[.int .i64 s, .int .i64 i, .int .i64 g]] w fun e w' => e = .returned (.tuple #[.int .i64 (findB s i g l 0).1, .bool (findB s i g l 0).2]) ∧ Below w.heap.size w w' := by
  have H := Lib.hid h
  obtain ⟨pv, cv, rfl, _⟩ := h
  go_enter Try.func124, Try.ntmps124
  go_wp2_with fail
  go_loopg [11] l.length (fun kx x wr => ∃ k : Nat, x = .int .i64 k ∧ k ≤ l.length ∧ l.length - k ≤ kx ∧ Hid (findB s i g (l.drop k) k = findB s i g l 0) ∧ Hid (Below w.heap.size w wr) ∧ w.heap.size < wr.heap.size ∧ Hid (∀ j, wr.cell? ⟨w.heap.size, j, none⟩ = (#[.int .i64 s, .int .i64 i, .int .i64 g] : Array Value)[j]?))
  case atStart => exact ⟨0, by go_num, by omega, by omega, Lib.hid rfl, Lib.hid (by repeat' (first | (with_reducible exact Below.refl _ _) | (with_reducible assumption) | (with_reducible refine below_drewN ?_ _) | (with_reducible refine below_more _ _ _ ?_ ?_) | (with_reducible refine Below.alloc ?_ ?_ _) | (with_reducible refine Below.drew ?_) | (with_reducible refine Below.setCell ?_ ?_ _) | go_size)), by simp, Lib.hid (fun j => by simp)⟩
  case round =>
    obtain ⟨k, rfl, hk, hkx, HF, HB, hsz, HI⟩ := hrel
    by_cases hlt : k < l.length
    · have t1 : (k : Int) < (l.length : Int) := by omega
      obtain ⟨b, hb⟩ : ∃ b, l[k]? = some b := ⟨_, List.getElem?_eq_getElem hlt⟩
      obtain ⟨gb, ob, cb, hv, hgb, hcb⟩ := (H.out.keep HB.out).cells hb
      simp only [Value.slice.injEq, true_and] at hv
      obtain ⟨rfl, rfl⟩ := hv
      have hq := HF.out
      rw [List.drop_eq_getElem_cons hlt, show l[k] = b from by have := List.getElem?_eq_getElem hlt; rw [hb] at this; exact (Option.some.inj this).symm] at hq
      simp only [findB] at hq
      have c0 := hcb 0 _ rfl
      have c1 := hcb 1 _ rfl
      have c2 := hcb 2 _ rfl
      have c3 := hcb 3 _ rfl
      have c4 := hcb 4 _ rfl
      have c5 := hcb 5 _ rfl
      have c6 := hcb 6 _ rfl
      have c7 := hcb 7 _ rfl
      have c8 := hcb 8 _ rfl
      have c9 := hcb 9 _ rfl
      have c10 := hcb 10 _ rfl
      simp only [Nat.add_zero] at c0
      have i0 := HI.out 0; have i1 := HI.out 1; have i2 := HI.out 2
      simp at i0 i1 i2
      have HQ := Lib.hid hq
      clear hcb hq hb
      obtain ⟨s', i', g', m', x', y', vx', vy', hp', pw', lf'⟩ := b
      have HC := Lib.hid (fun W => compare_any s' i' g' s i g W)
      have lb : w.heap.size < wr.heap.size := hsz
      obtain ⟨x0, x1, x2, x3⟩ := ltq hsz
      by_cases h0 : 0 ≤ cmpId s' i' g' s i g
      · have hr := HQ.out
        simp only [if_pos h0] at hr
        have HR := Lib.hid hr
        clear hr
        generalize cmpId s' i' g' s i g = r at *
        go_wp2_with (go_at_call 93; refine (HC.out _).mono ?_; rintro e w' ⟨rfl, hb⟩; obtain ⟨d, os, rfl⟩ := more_of hb; clear hb)
        exact bodyPost_ret (v := .tuple #[.int .i64 k, .bool (r == 0)]) (by simp [results, Try.results124, go_sem]) rfl ⟨by rw [← HR.out], HB.out.trans (Below.mono (B := wr.heap.size) (by repeat' (first | (with_reducible exact Below.refl _ _) | (with_reducible assumption) | (with_reducible refine below_drewN ?_ _) | (with_reducible refine below_more _ _ _ ?_ ?_) | (with_reducible refine Below.alloc ?_ ?_ _) | (with_reducible refine Below.drew ?_) | (with_reducible refine Below.setCell ?_ ?_ _) | go_size)) (by omega))⟩
      · have hr := HQ.out
        simp only [if_neg h0] at hr
        have HR := Lib.hid hr
        clear hr
        generalize cmpId s' i' g' s i g = r at *
        go_wp2_with (go_at_call 93; refine (HC.out _).mono ?_; rintro e w' ⟨rfl, hb⟩; obtain ⟨d, os, rfl⟩ := more_of hb; clear hb)
        go_roundg (l.length - (k + 1))
        case measure => omega
        case rel => exact ⟨k + 1, by go_num, by omega, by omega, HR, Lib.hid (HB.out.trans (Below.mono (B := wr.heap.size) (by repeat' (first | (with_reducible exact Below.refl _ _) | (with_reducible assumption) | (with_reducible refine below_drewN ?_ _) | (with_reducible refine below_more _ _ _ ?_ ?_) | (with_reducible refine Below.alloc ?_ ?_ _) | (with_reducible refine Below.drew ?_) | (with_reducible refine Below.setCell ?_ ?_ _) | go_size)) (by omega))), by simp; omega, Lib.hid (fun j => by rw [← HI.out j]; exact Below.cell (B := wr.heap.size) (by repeat' (first | (with_reducible exact Below.refl _ _) | (with_reducible assumption) | (with_reducible refine below_drewN ?_ _) | (with_reducible refine below_more _ _ _ ?_ ?_) | (with_reducible refine Below.alloc ?_ ?_ _) | (with_reducible refine Below.drew ?_) | (with_reducible refine Below.setCell ?_ ?_ _) | go_size)) (by simpa using hsz))⟩
    · obtain rfl : k = l.length := by omega
      have hr := HF.out
      rw [List.drop_length] at hr
      simp only [findB] at hr
      have HR := Lib.hid hr
      clear hr
      go_wp2_with fail
      exact bodyPost_ret (v := .tuple #[.int .i64 l.length, .bool false]) (by simp [results, Try.results124, go_sem]) rfl ⟨by rw [← HR.out], HB.out⟩

/-- Some cells of an entity of a slice. -/
theorem BIn.cell3 {w : World} {v : Value} {l : List Bun} (h : BIn w v l) {k : Nat} {b : Bun} (hk : l[k]? = some b) : ∃ blk off cap, v = .slice (some ⟨blk, off, none⟩) l.length cap ∧ blk < w.heap.size ∧ w.cell? ⟨blk, off + k * 11, none⟩ = some (.int .i64 b.s) ∧ w.cell? ⟨blk, off + k * 11 + 1, none⟩ = some (.int .i64 b.i) ∧ w.cell? ⟨blk, off + k * 11 + 2, none⟩ = some (.int .i64 b.g) := by
  obtain ⟨g, o, c, hv, h1, h2⟩ := h.cells hk
  exact ⟨g, o, c, hv, h1, h2 0 _ rfl, h2 1 _ rfl, h2 2 _ rfl⟩

set_option maxRecDepth 100000 in
set_option maxHeartbeats 4000000 in
theorem rfind_any (v : Value) (l : List Bun) (s i g : Int) (w : World) (h : BIn w v l) (hl : l.length ≤ 1000000) :
    Calls Try.prog 116 #[v, .agg #[.int .i64 s, .int .i64 i, .int .i64 g]] w fun e w' => e = .returned (.tuple #[.int .i64 (findB s i g l 0).1, .bool (findB s i g l 0).2]) ∧ Below w.heap.size w w' := by
  have H := Lib.hid h
  obtain ⟨pv, cv, rfl, _⟩ := h
  go_enter Try.func116, Try.ntmps116
  go_wp2_with fail
  go_loopg [6] l.length (fun kx x wr => ∃ k : Nat, x = .int .i64 k ∧ k ≤ l.length ∧ l.length - k ≤ kx ∧ Hid (findB s i g (l.drop k) k = findB s i g l 0) ∧ Hid (Below w.heap.size w wr) ∧ w.heap.size < wr.heap.size ∧ Hid (∀ j, wr.cell? ⟨w.heap.size, j, none⟩ = (#[.int .i64 s, .int .i64 i, .int .i64 g] : Array Value)[j]?))
  case atStart => exact ⟨0, by go_num, by omega, by omega, Lib.hid rfl, Lib.hid (by repeat' (first | (with_reducible exact Below.refl _ _) | (with_reducible assumption) | (with_reducible refine below_drewN ?_ _) | (with_reducible refine below_more _ _ _ ?_ ?_) | (with_reducible refine Below.alloc ?_ ?_ _) | (with_reducible refine Below.drew ?_) | (with_reducible refine Below.setCell ?_ ?_ _) | go_size)), by simp, Lib.hid (fun j => by simp)⟩
  case round =>
    obtain ⟨k, rfl, hk, hkx, HF, HB, hsz, HI⟩ := hrel
    have i0 := HI.out 0; have i1 := HI.out 1; have i2 := HI.out 2
    simp at i0 i1 i2
    obtain ⟨x0, x1, x2, x3⟩ := ltq hsz
    by_cases hlt : k < l.length
    · have t1 : (k : Int) < (l.length : Int) := by omega
      obtain ⟨b, hb⟩ : ∃ b, l[k]? = some b := ⟨_, List.getElem?_eq_getElem hlt⟩
      obtain ⟨gb, ob, cb, hv, hgb, c0, c1, c2⟩ := (H.out.keep HB.out).cell3 hb
      simp only [Value.slice.injEq, true_and] at hv
      obtain ⟨rfl, rfl⟩ := hv
      obtain ⟨y0, y1, y2, y3⟩ := ltq hgb
      have hq := HF.out
      rw [List.drop_eq_getElem_cons hlt, show l[k] = b from by have := List.getElem?_eq_getElem hlt; rw [hb] at this; exact (Option.some.inj this).symm] at hq
      simp only [findB] at hq
      have HQ := Lib.hid hq
      have HBC := Lib.hid (cmpId_before b.s b.i b.g s i g)
      have HZ := Lib.hid (cmpId_zero b.s b.i b.g s i g)
      have HBF := Lib.hid (fun W => before_any b.s b.i b.g s i g W)
      clear hq hb
      cases hbv : beforeB b.s b.i b.g s i g with
      | true =>
        have h1 := HBF.out
        rw [hbv] at h1
        have HBF2 := Lib.hid h1
        have hr := HQ.out
        have hlt2 := HBC.out
        rw [hbv] at hlt2
        simp only [if_neg (show ¬ 0 ≤ cmpId b.s b.i b.g s i g by have := of_decide_eq_true hlt2.symm; omega)] at hr
        have HR := Lib.hid hr
        clear hr h1 hlt2 hbv
        go_wp2_with fail
        refine wp_region_more (by kernel_rfl) (by kernel_rfl) ?_
        repeat (go_big_quiet_step ((first | (go_at_call 42; exact more_call (HBF2.out _)))))
        refine wpQuiet_nil ?_
        rintro _ ⟨pm, rfl⟩
        go_wp2_with fail
        go_roundg (l.length - (k + 1))
        case measure => omega
        case rel => exact ⟨k + 1, by go_num, by omega, by omega, HR, Lib.hid (HB.out.trans (Below.mono (B := wr.heap.size) (by repeat' (first | (with_reducible exact Below.refl _ _) | (with_reducible assumption) | (with_reducible refine below_drewN ?_ _) | (with_reducible refine below_more _ _ _ ?_ ?_) | (with_reducible refine Below.alloc ?_ ?_ _) | (with_reducible refine Below.drew ?_) | (with_reducible refine Below.setCell ?_ ?_ _) | go_size)) (by omega))), by simp; omega, Lib.hid (fun j => by rw [← HI.out j]; exact Below.cell (B := wr.heap.size) (by repeat' (first | (with_reducible exact Below.refl _ _) | (with_reducible assumption) | (with_reducible refine below_drewN ?_ _) | (with_reducible refine below_more _ _ _ ?_ ?_) | (with_reducible refine Below.alloc ?_ ?_ _) | (with_reducible refine Below.drew ?_) | (with_reducible refine Below.setCell ?_ ?_ _) | go_size)) (by simpa using hsz))⟩
      | false =>
        have h1 := HBF.out
        rw [hbv] at h1
        have HBF2 := Lib.hid h1
        have hr := HQ.out
        have hlt2 := HBC.out
        rw [hbv] at hlt2
        simp only [if_pos (show 0 ≤ cmpId b.s b.i b.g s i g by have := of_decide_eq_false hlt2.symm; omega)] at hr
        have hz : (cmpId b.s b.i b.g s i g == 0) = idEq b.s b.i b.g s i g := by
          rw [Bool.eq_iff_iff, beq_iff_eq, HZ.out]
          simp [idEq, and_assoc]
        rw [hz] at hr
        have HR := Lib.hid hr
        clear hr h1 hlt2 hbv hz
        go_wp2_with fail
        refine wp_region_more (by kernel_rfl) (by kernel_rfl) ?_
        repeat (go_big_quiet_step ((first | (go_at_call 42; exact more_call (HBF2.out _)))))
        refine wpQuiet_nil ?_
        rintro _ ⟨pm, rfl⟩
        have hw2 : Below w.heap.size w (more wr pm.d pm.os) := HB.out.trans (Below.mono (B := wr.heap.size) (by repeat' (first | (with_reducible exact Below.refl _ _) | (with_reducible assumption) | (with_reducible refine below_drewN ?_ _) | (with_reducible refine below_more _ _ _ ?_ ?_) | (with_reducible refine Below.alloc ?_ ?_ _) | (with_reducible refine Below.drew ?_) | (with_reducible refine Below.setCell ?_ ?_ _) | go_size)) (by omega))
        have d0 := (more_cell wr pm.d pm.os ⟨gb, ob + k * 11, none⟩ hgb).trans c0
        have d1 := (more_cell wr pm.d pm.os ⟨gb, ob + k * 11 + 1, none⟩ hgb).trans c1
        have d2 := (more_cell wr pm.d pm.os ⟨gb, ob + k * 11 + 2, none⟩ hgb).trans c2
        have j0 := (more_cell wr pm.d pm.os ⟨w.heap.size, 0, none⟩ hsz).trans i0
        have j1 := (more_cell wr pm.d pm.os ⟨w.heap.size, 1, none⟩ hsz).trans i1
        have j2 := (more_cell wr pm.d pm.os ⟨w.heap.size, 2, none⟩ hsz).trans i2
        have hg2 : gb < (more wr pm.d pm.os).heap.size := by rw [more_size]; omega
        have hw3 : w.heap.size < (more wr pm.d pm.os).heap.size := by rw [more_size]; omega
        have HW2 := Lib.hid hw2
        clear hw2 c0 c1 c2 i0 i1 i2
        generalize more wr pm.d pm.os = W2 at *
        go_wp2_with fail
        refine wp_region_more (by kernel_rfl) (by kernel_rfl) ?_
        repeat (go_big_quiet_step (fail))
        refine wpQuiet_nil ?_
        rintro _ ⟨pn, rfl⟩
        go_wp2_with fail
        exact bodyPost_ret (v := .tuple #[.int .i64 k, .bool (idEq b.s b.i b.g s i g)]) (by simp [results, Try.results116, go_sem]) rfl ⟨by rw [← HR.out], HW2.out.trans (Below.mono (B := W2.heap.size) (by repeat' (first | (with_reducible exact Below.refl _ _) | (with_reducible assumption) | (with_reducible refine below_drewN ?_ _) | (with_reducible refine below_more _ _ _ ?_ ?_) | (with_reducible refine Below.alloc ?_ ?_ _) | (with_reducible refine Below.drew ?_) | (with_reducible refine Below.setCell ?_ ?_ _) | go_size)) (by omega))⟩
    · obtain rfl : k = l.length := by omega
      have hr := HF.out
      rw [List.drop_length] at hr
      simp only [findB] at hr
      have HR := Lib.hid hr
      have t1 : ¬ (l.length : Int) < (l.length : Int) := by omega
      clear hr
      go_wp2_with fail
      refine wp_region_more (by kernel_rfl) (by kernel_rfl) ?_
      repeat (go_big_quiet_step (fail))
      refine wpQuiet_nil ?_
      rintro _ ⟨pn, rfl⟩
      go_wp2_with fail
      refine wp_region_more (by kernel_rfl) (by kernel_rfl) ?_
      repeat (go_big_quiet_step (fail))
      refine wpQuiet_nil ?_
      rintro _ ⟨pq, rfl⟩
      go_wp2_with fail
      exact bodyPost_ret (v := .tuple #[.int .i64 l.length, .bool false]) (by simp [results, Try.results116, go_sem]) rfl ⟨by rw [← HR.out], HB.out.trans (Below.mono (B := wr.heap.size) (by repeat' (first | (with_reducible exact Below.refl _ _) | (with_reducible assumption) | (with_reducible refine below_drewN ?_ _) | (with_reducible refine below_more _ _ _ ?_ ?_) | (with_reducible refine Below.alloc ?_ ?_ _) | (with_reducible refine Below.drew ?_) | (with_reducible refine Below.setCell ?_ ?_ _) | go_size)) (by omega))⟩
end Go.Proofs.Ytcnclcfipabimaa
