/-
  parts.Find, the reference's Find and Same. Condition: at most so many entities.
  The reference's Same of entities; one store into a slice of the call's own; a slice of entities that came in. No condition.
  A slice of entities that came in; one store into a slice of the call's own; a copy by append. No condition but the sizes that an append owes.
-/
import Derived.Test.YtcnclcfipabimaaSoM
import Derived.Test.YtcnclcfipabimaaMpr
import Derived.Test.YtcnclcfipabimaaMba
import Derived.ChangeSlices
import Derived.Deep.Slices
namespace Go.Proofs.Ytcnclcfipabimaa
open Go.RowKit Go.Sort

set_option maxRecDepth 100000 in
set_option maxHeartbeats 4000000 in
theorem find_any (v : Value) (l : List Bun) (s i g : Int) (w : World) (h : BIn w v l) (hl : l.length ≤ 1000000) :
    Calls Try.prog 124 #[v, .agg #[.int .i64 s, .int .i64 i, .int .i64 g]] w fun e w' => e = .returned (.tuple #[.int .i64 (findB s i g l 0).1, .bool (findB s i g l 0).2]) ∧ Below w.heap.size w w' := by
  have H := Lib.hid h
  obtain ⟨pv, cv, rfl, _⟩ := h
  go_enter Try.func124, Try.ntmps124
  go_wp2_with fail
  go_loopg [11] l.length (fun kx x wr => ∃ k : Nat, x = .int .i64 k ∧ k ≤ l.length ∧ l.length - k ≤ kx ∧ Hid (findB s i g (l.drop k) k = findB s i g l 0) ∧ Hid (Below w.heap.size w wr) ∧ w.heap.size < wr.heap.size ∧ Hid (∀ j, wr.cell? ⟨w.heap.size, j, none⟩ = (#[.int .i64 s, .int .i64 i, .int .i64 g] : Array Value)[j]?))
  case atStart => exact ⟨0, by go_num, by omega, by omega, Lib.hid rfl, Lib.hid (by repeat' (first | (with_reducible exact Below.refl _ _) | (with_reducible assumption) | (with_reducible refine below_drewN ?_ _) | (with_reducible refine below_more _ _ _ ?_ ?_) | (with_reducible refine Below.alloc ?_ ?_ _) | (with_reducible refine Below.drew ?_) | (with_reducible refine Below.setCell ?_ ?_ _) | go_size)), by simp, Lib.hid (fun j => by simp)⟩
  case round =>
    obtain ⟨k, rfl, hk, hkx, HF, HB, hsz, HI⟩ := hrel
    by_cases hlt : k < l.length
    · have t1 : (k : Int) < (l.length : Int) := by omega
      obtain ⟨b, hb⟩ : ∃ b, l[k]? = some b := ⟨_, List.getElem?_eq_getElem hlt⟩
      obtain ⟨gb, ob, cb, hv, hgb, hcb⟩ := (H.out.keep HB.out).cells hb
      simp only [Value.slice.injEq, true_and] at hv
      obtain ⟨rfl, rfl⟩ := hv
      have hq := HF.out
      rw [List.drop_eq_getElem_cons hlt, show l[k] = b from by have := List.getElem?_eq_getElem hlt; rw [hb] at this; exact (Option.some.inj this).symm] at hq
      simp only [findB] at hq
      have c0 := hcb 0 _ rfl
      have c1 := hcb 1 _ rfl
      have c2 := hcb 2 _ rfl
      have c3 := hcb 3 _ rfl
      have c4 := hcb 4 _ rfl
      have c5 := hcb 5 _ rfl
      have c6 := hcb 6 _ rfl
      have c7 := hcb 7 _ rfl
      have c8 := hcb 8 _ rfl
      have c9 := hcb 9 _ rfl
      have c10 := hcb 10 _ rfl
      simp only [Nat.add_zero] at c0
      have i0 := HI.out 0; have i1 := HI.out 1; have i2 := HI.out 2
      simp at i0 i1 i2
      have HQ := Lib.hid hq
      clear hcb hq hb
      obtain ⟨s', i', g', m', x', y', vx', vy', hp', pw', lf'⟩ := b
      have HC := Lib.hid (fun W => compare_any s' i' g' s i g W)
      have lb : w.heap.size < wr.heap.size := hsz
      obtain ⟨x0, x1, x2, x3⟩ := ltq hsz
      by_cases h0 : 0 ≤ cmpId s' i' g' s i g
      · have hr := HQ.out
        simp only [if_pos h0] at hr
        have HR := Lib.hid hr
        clear hr
        generalize cmpId s' i' g' s i g = r at *
        go_wp2_with (go_at_call 93; refine (HC.out _).mono ?_; rintro e w' ⟨rfl, hb⟩; obtain ⟨d, os, rfl⟩ := more_of hb; clear hb)
        exact bodyPost_ret (v := .tuple #[.int .i64 k, .bool (r == 0)]) (by simp [results, Try.results124, go_sem]) rfl ⟨by rw [← HR.out], HB.out.trans (Below.mono (B := wr.heap.size) (by repeat' (first | (with_reducible exact Below.refl _ _) | (with_reducible assumption) | (with_reducible refine below_drewN ?_ _) | (with_reducible refine below_more _ _ _ ?_ ?_) | (with_reducible refine Below.alloc ?_ ?_ _) | (with_reducible refine Below.drew ?_) | (with_reducible refine Below.setCell ?_ ?_ _) | go_size)) (by omega))⟩
      · have hr := HQ.out
        simp only [if_neg h0] at hr
        have HR := Lib.hid hr
        clear hr
        generalize cmpId s' i' g' s i g = r at *
        go_wp2_with (go_at_call 93; refine (HC.out _).mono ?_; rintro e w' ⟨rfl, hb⟩; obtain ⟨d, os, rfl⟩ := more_of hb; clear hb)
        go_roundg (l.length - (k + 1))
        case measure => omega
        case rel => exact ⟨k + 1, by go_num, by omega, by omega, HR, Lib.hid (HB.out.trans (Below.mono (B := wr.heap.size) (by repeat' (first | (with_reducible exact Below.refl _ _) | (with_reducible assumption) | (with_reducible refine below_drewN ?_ _) | (with_reducible refine below_more _ _ _ ?_ ?_) | (with_reducible refine Below.alloc ?_ ?_ _) | (with_reducible refine Below.drew ?_) | (with_reducible refine Below.setCell ?_ ?_ _) | go_size)) (by omega))), by simp; omega, Lib.hid (fun j => by rw [← HI.out j]; exact Below.cell (B := wr.heap.size) (by repeat' (first | (with_reducible exact Below.refl _ _) | (with_reducible assumption) | (with_reducible refine below_drewN ?_ _) | (with_reducible refine below_more _ _ _ ?_ ?_) | (with_reducible refine Below.alloc ?_ ?_ _) | (with_reducible refine Below.drew ?_) | (with_reducible refine Below.setCell ?_ ?_ _) | go_size)) (by simpa using hsz))⟩
    · obtain rfl : k = l.length := by omega
      have hr := HF.out
      rw [List.drop_length] at hr
      simp only [findB] at hr
      have HR := Lib.hid hr
      clear hr
      go_wp2_with fail
      exact bodyPost_ret (v := .tuple #[.int .i64 l.length, .bool false]) (by simp [results, Try.results124, go_sem]) rfl ⟨by rw [← HR.out], HB.out⟩

/-- Some cells of an entity of a slice. -/
theorem BIn.cell3 {w : World} {v : Value} {l : List Bun} (h : BIn w v l) {k : Nat} {b : Bun} (hk : l[k]? = some b) : ∃ blk off cap, v = .slice (some ⟨blk, off, none⟩) l.length cap ∧ blk < w.heap.size ∧ w.cell? ⟨blk, off + k * 11, none⟩ = some (.int .i64 b.s) ∧ w.cell? ⟨blk, off + k * 11 + 1, none⟩ = some (.int .i64 b.i) ∧ w.cell? ⟨blk, off + k * 11 + 2, none⟩ = some (.int .i64 b.g) := by
  obtain ⟨g, o, c, hv, h1, h2⟩ := h.cells hk
  exact ⟨g, o, c, hv, h1, h2 0 _ rfl, h2 1 _ rfl, h2 2 _ rfl⟩

set_option maxRecDepth 100000 in
set_option maxHeartbeats 4000000 in
theorem rfind_any (v : Value) (l : List Bun) (s i g : Int) (w : World) (h : BIn w v l) (hl : l.length ≤ 1000000) :
    Calls Try.prog 116 #[v, .agg #[.int .i64 s, .int .i64 i, .int .i64 g]] w fun e w' => e = .returned (.tuple #[.int .i64 (findB s i g l 0).1, .bool (findB s i g l 0).2]) ∧ Below w.heap.size w w' := by
  have H := Lib.hid h
  obtain ⟨pv, cv, rfl, _⟩ := h
  go_enter Try.func116, Try.ntmps116
  go_wp2_with fail
  go_loopg [6] l.length (fun kx x wr => ∃ k : Nat, x = .int .i64 k ∧ k ≤ l.length ∧ l.length - k ≤ kx ∧ Hid (findB s i g (l.drop k) k = findB s i g l 0) ∧ Hid (Below w.heap.size w wr) ∧ w.heap.size < wr.heap.size ∧ Hid (∀ j, wr.cell? ⟨w.heap.size, j, none⟩ = (#[.int .i64 s, .int .i64 i, .int .i64 g] : Array Value)[j]?))
  case atStart => exact ⟨0, by go_num, by omega, by omega, Lib.hid rfl, Lib.hid (by repeat' (first | (with_reducible exact Below.refl _ _) | (with_reducible assumption) | (with_reducible refine below_drewN ?_ _) | (with_reducible refine below_more _ _ _ ?_ ?_) | (with_reducible refine Below.alloc ?_ ?_ _) | (with_reducible refine Below.drew ?_) | (with_reducible refine Below.setCell ?_ ?_ _) | go_size)), by simp, Lib.hid (fun j => by simp)⟩
  case round =>
    obtain ⟨k, rfl, hk, hkx, HF, HB, hsz, HI⟩ := hrel
    have i0 := HI.out 0; have i1 := HI.out 1; have i2 := HI.out 2
    simp at i0 i1 i2
    obtain ⟨x0, x1, x2, x3⟩ := ltq hsz
    by_cases hlt : k < l.length
    · have t1 : (k : Int) < (l.length : Int) := by omega
      obtain ⟨b, hb⟩ : ∃ b, l[k]? = some b := ⟨_, List.getElem?_eq_getElem hlt⟩
      obtain ⟨gb, ob, cb, hv, hgb, c0, c1, c2⟩ := (H.out.keep HB.out).cell3 hb
      simp only [Value.slice.injEq, true_and] at hv
      obtain ⟨rfl, rfl⟩ := hv
      obtain ⟨y0, y1, y2, y3⟩ := ltq hgb
      have hq := HF.out
      rw [List.drop_eq_getElem_cons hlt, show l[k] = b from by have := List.getElem?_eq_getElem hlt; rw [hb] at this; exact (Option.some.inj this).symm] at hq
      simp only [findB] at hq
      have HQ := Lib.hid hq
      have HBC := Lib.hid (cmpId_before b.s b.i b.g s i g)
      have HZ := Lib.hid (cmpId_zero b.s b.i b.g s i g)
      have HBF := Lib.hid (fun W => before_any b.s b.i b.g s i g W)
      clear hq hb
      cases hbv : beforeB b.s b.i b.g s i g with
      | true =>
        have h1 := HBF.out
        rw [hbv] at h1
        have HBF2 := Lib.hid h1
        have hr := HQ.out
        have hlt2 := HBC.out
        rw [hbv] at hlt2
        simp only [if_neg (show ¬ 0 ≤ cmpId b.s b.i b.g s i g by have := of_decide_eq_true hlt2.symm; omega)] at hr
        have HR := Lib.hid hr
        clear hr h1 hlt2 hbv
        go_wp2_with fail
        refine wp_region_more (by kernel_rfl) (by kernel_rfl) ?_
        repeat (go_big_quiet_step ((first | (go_at_call 42; exact more_call (HBF2.out _)))))
        refine wpQuiet_nil ?_
        rintro _ ⟨pm, rfl⟩
        go_wp2_with fail
        go_roundg (l.length - (k + 1))
        case measure => omega
        case rel => exact ⟨k + 1, by go_num, by omega, by omega, HR, Lib.hid (HB.out.trans (Below.mono (B := wr.heap.size) (by repeat' (first | (with_reducible exact Below.refl _ _) | (with_reducible assumption) | (with_reducible refine below_drewN ?_ _) | (with_reducible refine below_more _ _ _ ?_ ?_) | (with_reducible refine Below.alloc ?_ ?_ _) | (with_reducible refine Below.drew ?_) | (with_reducible refine Below.setCell ?_ ?_ _) | go_size)) (by omega))), by simp; omega, Lib.hid (fun j => by rw [← HI.out j]; exact Below.cell (B := wr.heap.size) (by repeat' (first | (with_reducible exact Below.refl _ _) | (with_reducible assumption) | (with_reducible refine below_drewN ?_ _) | (with_reducible refine below_more _ _ _ ?_ ?_) | (with_reducible refine Below.alloc ?_ ?_ _) | (with_reducible refine Below.drew ?_) | (with_reducible refine Below.setCell ?_ ?_ _) | go_size)) (by simpa using hsz))⟩
      | false =>
        have h1 := HBF.out
        rw [hbv] at h1
        have HBF2 := Lib.hid h1
        have hr := HQ.out
        have hlt2 := HBC.out
        rw [hbv] at hlt2
        simp only [if_pos (show 0 ≤ cmpId b.s b.i b.g s i g by have := of_decide_eq_false hlt2.symm; omega)] at hr
        have hz : (cmpId b.s b.i b.g s i g == 0) = idEq b.s b.i b.g s i g := by
          rw [Bool.eq_iff_iff, beq_iff_eq, HZ.out]
          simp [idEq, and_assoc]
        rw [hz] at hr
        have HR := Lib.hid hr
        clear hr h1 hlt2 hbv hz
        go_wp2_with fail
        refine wp_region_more (by kernel_rfl) (by kernel_rfl) ?_
        repeat (go_big_quiet_step ((first | (go_at_call 42; exact more_call (HBF2.out _)))))
        refine wpQuiet_nil ?_
        rintro _ ⟨pm, rfl⟩
        have hw2 : Below w.heap.size w (more wr pm.d pm.os) := HB.out.trans (Below.mono (B := wr.heap.size) (by repeat' (first | (with_reducible exact Below.refl _ _) | (with_reducible assumption) | (with_reducible refine below_drewN ?_ _) | (with_reducible refine below_more _ _ _ ?_ ?_) | (with_reducible refine Below.alloc ?_ ?_ _) | (with_reducible refine Below.drew ?_) | (with_reducible refine Below.setCell ?_ ?_ _) | go_size)) (by omega))
        have d0 := (more_cell wr pm.d pm.os ⟨gb, ob + k * 11, none⟩ hgb).trans c0
        have d1 := (more_cell wr pm.d pm.os ⟨gb, ob + k * 11 + 1, none⟩ hgb).trans c1
        have d2 := (more_cell wr pm.d pm.os ⟨gb, ob + k * 11 + 2, none⟩ hgb).trans c2
        have j0 := (more_cell wr pm.d pm.os ⟨w.heap.size, 0, none⟩ hsz).trans i0
        have j1 := (more_cell wr pm.d pm.os ⟨w.heap.size, 1, none⟩ hsz).trans i1
        have j2 := (more_cell wr pm.d pm.os ⟨w.heap.size, 2, none⟩ hsz).trans i2
        have hg2 : gb < (more wr pm.d pm.os).heap.size := by rw [more_size]; omega
        have hw3 : w.heap.size < (more wr pm.d pm.os).heap.size := by rw [more_size]; omega
        have HW2 := Lib.hid hw2
        clear hw2 c0 c1 c2 i0 i1 i2
        generalize more wr pm.d pm.os = W2 at *
        go_wp2_with fail
        refine wp_region_more (by kernel_rfl) (by kernel_rfl) ?_
        repeat (go_big_quiet_step (fail))
        refine wpQuiet_nil ?_
        rintro _ ⟨pn, rfl⟩
        go_wp2_with fail
        exact bodyPost_ret (v := .tuple #[.int .i64 k, .bool (idEq b.s b.i b.g s i g)]) (by simp [results, Try.results116, go_sem]) rfl ⟨by rw [← HR.out], HW2.out.trans (Below.mono (B := W2.heap.size) (by repeat' (first | (with_reducible exact Below.refl _ _) | (with_reducible assumption) | (with_reducible refine below_drewN ?_ _) | (with_reducible refine below_more _ _ _ ?_ ?_) | (with_reducible refine Below.alloc ?_ ?_ _) | (with_reducible refine Below.drew ?_) | (with_reducible refine Below.setCell ?_ ?_ _) | go_size)) (by omega))⟩
    · obtain rfl : k = l.length := by omega
      have hr := HF.out
      rw [List.drop_length] at hr
      simp only [findB] at hr
      have HR := Lib.hid hr
      have t1 : ¬ (l.length : Int) < (l.length : Int) := by omega
      clear hr
      go_wp2_with fail
      refine wp_region_more (by kernel_rfl) (by kernel_rfl) ?_
      repeat (go_big_quiet_step (fail))
      refine wpQuiet_nil ?_
      rintro _ ⟨pn, rfl⟩
      go_wp2_with fail
      refine wp_region_more (by kernel_rfl) (by kernel_rfl) ?_
      repeat (go_big_quiet_step (fail))
      refine wpQuiet_nil ?_
      rintro _ ⟨pq, rfl⟩
      go_wp2_with fail
      exact bodyPost_ret (v := .tuple #[.int .i64 l.length, .bool false]) (by simp [results, Try.results116, go_sem]) rfl ⟨by rw [← HR.out], HB.out.trans (Below.mono (B := wr.heap.size) (by repeat' (first | (with_reducible exact Below.refl _ _) | (with_reducible assumption) | (with_reducible refine below_drewN ?_ _) | (with_reducible refine below_more _ _ _ ?_ ?_) | (with_reducible refine Below.alloc ?_ ?_ _) | (with_reducible refine Below.drew ?_) | (with_reducible refine Below.setCell ?_ ?_ _) | go_size)) (by omega))⟩
end Go.Proofs.Ytcnclcfipabimaa
namespace Go.Proofs.Ytcnclcfipabimaa
open Go.RowKit Go.Sort

attribute [local go_sem ↓] loadVar_ldB
theorem BIn.ldm {w : World} {v : Value} {l : List Bun} (h : BIn w v l) {k : Nat} {b : Bun} (hk : l[k]? = some b) : ∃ blk off cap, v = .slice (some ⟨blk, off, none⟩) l.length cap ∧ ∀ d os, (ldB ⟨blk, off + k * 11, none⟩).run Try.prog (more w d os) = .ok (.agg b.arr) (more w d os) := by
  obtain ⟨g, o, c, hv, h1, h2⟩ := h.cells hk
  exact ⟨g, o, c, hv, fun d os => ld_of fun j u hj => (more_cell w d os ⟨g, o + k * 11 + j, none⟩ h1).trans (h2 j u hj)⟩

set_option maxRecDepth 100000 in
set_option maxHeartbeats 4000000 in
theorem same_any (va vb : Value) (la lb : List Bun) (w : World) (ha : BIn w va la) (hb : BIn w vb lb) :
    Calls Try.prog 20 #[va, vb] w fun e w' => e = .returned (.bool (decide (la = lb))) ∧ Below w.heap.size w w' := by
  have mixed : Try.prog.follows .mixedOrders = true := by kernel_rfl
  have HA := Lib.hid ha
  have HB := Lib.hid hb
  obtain ⟨pa, ca, rfl, ma, _⟩ := ha
  obtain ⟨pb, cb, rfl, mb, _⟩ := hb
  unfold maxLen at ma mb
  by_cases hlen : la.length = lb.length
  · have hd : ((la.length : Int) != (lb.length : Int)) = false := by simp; omega
    have hd2 : (la.length : Int) = (lb.length : Int) := by omega
    have HL := Lib.hid hlen
    clear hlen
    by_cases heq : la = lb
    · subst heq
      rw [decide_eq_true rfl]
      go_enter Try.func20, Try.ntmps20
      go_wp2_with fail
      go_loopg [5] la.length (fun kx x wr => ∃ k : Nat, x = .int .i64 k ∧ k ≤ la.length ∧ la.length - k ≤ kx ∧ Hid (Below w.heap.size w wr))
      case atStart => exact ⟨0, by go_num, by omega, by omega, Lib.hid (Below.refl _ _)⟩
      case round =>
        obtain ⟨k, rfl, hk, hkx, HW⟩ := hrel
        by_cases hlt : k < la.length
        · have t1 : (k : Int) < (la.length : Int) := by omega
          obtain ⟨b, hb⟩ : ∃ b, la[k]? = some b := ⟨_, List.getElem?_eq_getElem hlt⟩
          obtain ⟨g1, o1, c1, hv1, l1⟩ := (HA.out.keep HW.out).ldm hb
          obtain ⟨g2, o2, c2, hv2, l2⟩ := (HB.out.keep HW.out).ldm hb
          simp only [Value.slice.injEq, true_and] at hv1 hv2
          obtain ⟨rfl, rfl⟩ := hv1
          obtain ⟨rfl, rfl⟩ := hv2
          clear hb
          obtain ⟨s, i, g, m, x, y, vx, vy, hp, pw, lf⟩ := b
          have hbe : bunEq ⟨s, i, g, m, x, y, vx, vy, hp, pw, lf⟩ ⟨s, i, g, m, x, y, vx, vy, hp, pw, lf⟩ = true := by simp [bunEq]
          go_wp2_with fail
          refine wp_region_more (by kernel_rfl) (by kernel_rfl) ?_
          repeat (go_big_quiet_step (fail))
          refine wpQuiet_nil ?_
          rintro _ ⟨pn, rfl⟩
          go_wp2_with fail
          go_roundg (la.length - (k + 1))
          case measure => omega
          case rel => exact ⟨k + 1, by go_num, by omega, by omega, Lib.hid (HW.out.trans (Below.mono (B := wr.heap.size) (by repeat' (first | (with_reducible exact Below.refl _ _) | (with_reducible assumption) | (with_reducible refine below_drewN ?_ _) | (with_reducible refine below_more _ _ _ ?_ ?_) | (with_reducible refine Below.alloc ?_ ?_ _) | (with_reducible refine Below.drew ?_) | (with_reducible refine Below.setCell ?_ ?_ _) | go_size)) HW.out.size))⟩
        · have t1 : ¬ (k : Int) < (la.length : Int) := by omega
          go_wp2_with fail
          go_ret
          exact ⟨rfl, HW.out⟩
    · rw [decide_eq_false heq]
      have HNE := Lib.hid heq
      clear heq
      go_enter Try.func20, Try.ntmps20
      go_wp2_with fail
      go_loopg [5] la.length (fun kx x wr => ∃ k : Nat, x = .int .i64 k ∧ k ≤ la.length ∧ la.length - k ≤ kx ∧ Hid (Below w.heap.size w wr) ∧ Hid (∀ t, t < k → la[t]? = lb[t]?))
      case atStart => exact ⟨0, by go_num, by omega, by omega, Lib.hid (Below.refl _ _), Lib.hid (fun t ht => by omega)⟩
      case round =>
        obtain ⟨k, rfl, hk, hkx, HW, HT⟩ := hrel
        by_cases hlt : k < la.length
        · have t1 : (k : Int) < (la.length : Int) := by omega
          have t2 : (k : Int) < (lb.length : Int) := by omega
          obtain ⟨b, hb⟩ : ∃ b, la[k]? = some b := ⟨_, List.getElem?_eq_getElem hlt⟩
          obtain ⟨c, hc⟩ : ∃ c, lb[k]? = some c := ⟨_, List.getElem?_eq_getElem (by omega)⟩
          obtain ⟨g1, o1, c1, hv1, l1⟩ := (HA.out.keep HW.out).ldm hb
          obtain ⟨g2, o2, c2, hv2, l2⟩ := (HB.out.keep HW.out).ldm hc
          simp only [Value.slice.injEq, true_and] at hv1 hv2
          obtain ⟨rfl, rfl⟩ := hv1
          obtain ⟨rfl, rfl⟩ := hv2
          have HBC := Lib.hid (And.intro hb hc)
          clear hb hc
          by_cases hbc : b = c
          · subst hbc
            obtain ⟨s, i, g, m, x, y, vx, vy, hp, pw, lf⟩ := b
            have hbe : bunEq ⟨s, i, g, m, x, y, vx, vy, hp, pw, lf⟩ ⟨s, i, g, m, x, y, vx, vy, hp, pw, lf⟩ = true := by simp [bunEq]
            go_wp2_with fail
            refine wp_region_more (by kernel_rfl) (by kernel_rfl) ?_
            repeat (go_big_quiet_step (fail))
            refine wpQuiet_nil ?_
            rintro _ ⟨pn, rfl⟩
            go_wp2_with fail
            go_roundg (la.length - (k + 1))
            case measure => omega
            case rel => exact ⟨k + 1, by go_num, by omega, by omega, Lib.hid (HW.out.trans (Below.mono (B := wr.heap.size) (by repeat' (first | (with_reducible exact Below.refl _ _) | (with_reducible assumption) | (with_reducible refine below_drewN ?_ _) | (with_reducible refine below_more _ _ _ ?_ ?_) | (with_reducible refine Below.alloc ?_ ?_ _) | (with_reducible refine Below.drew ?_) | (with_reducible refine Below.setCell ?_ ?_ _) | go_size)) HW.out.size)), Lib.hid (fun t ht => by
              by_cases htk : t = k
              · subst htk; exact HBC.out.1.trans HBC.out.2.symm
              · exact HT.out t (by omega))⟩
          · obtain ⟨s, i, g, m, x, y, vx, vy, hp, pw, lf⟩ := b
            obtain ⟨s', i', g', m', x', y', vx', vy', hp', pw', lf'⟩ := c
            have hbe : bunEq ⟨s, i, g, m, x, y, vx, vy, hp, pw, lf⟩ ⟨s', i', g', m', x', y', vx', vy', hp', pw', lf'⟩ = false := by unfold bunEq; exact decide_eq_false hbc
            clear hbc
            go_wp2_with fail
            refine wp_region_more (by kernel_rfl) (by kernel_rfl) ?_
            repeat (go_big_quiet_step (fail))
            refine wpQuiet_nil ?_
            rintro _ ⟨pn, rfl⟩
            go_wp2_with fail
            go_ret
            exact ⟨rfl, HW.out.trans (Below.mono (B := wr.heap.size) (by repeat' (first | (with_reducible exact Below.refl _ _) | (with_reducible assumption) | (with_reducible refine below_drewN ?_ _) | (with_reducible refine below_more _ _ _ ?_ ?_) | (with_reducible refine Below.alloc ?_ ?_ _) | (with_reducible refine Below.drew ?_) | (with_reducible refine Below.setCell ?_ ?_ _) | go_size)) HW.out.size)⟩
        · exfalso
          obtain rfl : k = la.length := by omega
          refine HNE.out (List.ext_getElem? fun t => ?_)
          by_cases ht : t < la.length
          · exact HT.out t ht
          · rw [List.getElem?_eq_none (by omega), List.getElem?_eq_none (by have := HL.out; omega)]
  · have hd : ((la.length : Int) != (lb.length : Int)) = true := by simp; omega
    have hd2 : ¬ (la.length : Int) = (lb.length : Int) := by omega
    rw [decide_eq_false (fun e => hlen (by rw [e]))]
    clear hlen
    go_enter Try.func20, Try.ntmps20
    go_wp2_with fail
    go_ret
    exact ⟨rfl, Below.refl _ _⟩
end Go.Proofs.Ytcnclcfipabimaa
namespace Go.Proofs.Ytcnclcfipabimaa
open Go.RowKit Go.Sort
theorem list_of {β : Type} {P : Nat → β → Prop} : ∀ (n : Nat), (∀ i, i < n → ∃ b, P i b) → ∃ l : List β, l.length = n ∧ ∀ i b, l[i]? = some b → P i b
  | 0, _ => ⟨[], rfl, fun i b h => by cases h⟩
  | n + 1, h => by
    obtain ⟨l, hl, hp⟩ := list_of n fun i hi => h i (by omega)
    obtain ⟨b, hb⟩ := h n (by omega)
    refine ⟨l ++ [b], by simp [hl], fun i c hc => ?_⟩
    by_cases hi : i < n
    · rw [List.getElem?_append_left (by omega)] at hc; exact hp i c hc
    · rw [List.getElem?_append_right (by omega)] at hc
      have : i - l.length = 0 := by have := (List.getElem?_eq_some_iff.1 hc).1; simp at this; omega
      rw [this] at hc
      simp at hc
      subst hc
      obtain rfl : i = n := by omega
      exact hb

theorem bunCells_split : ∀ (l : List Bun) (t : Nat) (u : Value), (bunCells l)[t]? = some u → ∃ b, l[t / 11]? = some b ∧ (bunL b)[t % 11]? = some u := fun l t u h => by
  have ht : t < l.length * 11 := by have := (List.getElem?_eq_some_iff.1 h).1; rwa [bunCells_len] at this
  have hk : t / 11 < l.length := by omega
  refine ⟨l[t / 11], List.getElem?_eq_getElem hk, ?_⟩
  have e := bunCells_get l (t / 11) (t % 11) l[t / 11] (List.getElem?_eq_getElem hk) (Nat.mod_lt _ (by omega))
  rw [show t / 11 * 11 + t % 11 = t by omega] at e
  rw [← e]; exact h

/-- Its numbers fit. -/
def BFit (b : Bun) : Prop := (-9223372036854775808 ≤ b.s ∧ b.s ≤ 9223372036854775807) ∧ (-9223372036854775808 ≤ b.i ∧ b.i ≤ 9223372036854775807) ∧ (-9223372036854775808 ≤ b.g ∧ b.g ≤ 9223372036854775807) ∧ (-9223372036854775808 ≤ b.m ∧ b.m ≤ 9223372036854775807) ∧ (-9223372036854775808 ≤ b.x ∧ b.x ≤ 9223372036854775807) ∧ (-9223372036854775808 ≤ b.y ∧ b.y ≤ 9223372036854775807) ∧ (-9223372036854775808 ≤ b.vx ∧ b.vx ≤ 9223372036854775807) ∧ (-9223372036854775808 ≤ b.vy ∧ b.vy ≤ 9223372036854775807) ∧ (-9223372036854775808 ≤ b.hp ∧ b.hp ≤ 9223372036854775807) ∧ (-9223372036854775808 ≤ b.pw ∧ b.pw ≤ 9223372036854775807) ∧ (-9223372036854775808 ≤ b.lf ∧ b.lf ≤ 9223372036854775807)

set_option maxRecDepth 100000 in
theorem buns_in {H : Type} {enc : TypeId × Value → H} {W : World} {base b0 : Nat} {spare : Nat → Bool} {held : Bool} {r : Reach} {v : Value} {d : DataW H} {p : List MemPlace} (hv : Value.okWide Try.prog W r b0 24 v) (h : DataW.Trod enc Try.prog W base spare held 24 v d p) : ∃ l, BIn W v l ∧ ∀ b ∈ l, BFit b := by
  obtain ⟨a, len, cap, rfl⟩ := Go.WideShapes.okWide_slice Try.underlying24 hv
  obtain ⟨fuel, hf⟩ := h
  have hf' : DataW.trod enc Try.prog W base spare held fuel 24 [.slice a len cap] = some (d, p) := by simpa [Value.cells] using hf
  rcases Go.Deep.open_slice Try.underlying24 hf' with ⟨h0, _⟩ | ⟨⟨b, off, sp⟩, len', cap', m, n, D, Pl, h0, _, hl, hm, hmm, _, hi⟩
  · simp at h0
    obtain ⟨rfl, rfl, rfl⟩ := h0
    exact ⟨[], ⟨none, 0, rfl, by simp [maxLen], fun _ => rfl, Nat.le_refl _, fun h => absurd rfl h⟩, by simp⟩
  · simp only [List.cons.injEq, and_true, Value.slice.injEq] at h0
    obtain ⟨rfl, rfl, rfl⟩ := h0
    have hle : len ≤ m := by rw [hmm]; split <;> omega
    rw [cells_bun] at hi
    by_cases hz : len = 0
    · subst hz
      exact ⟨[], ⟨_, cap, rfl, by simp [maxLen], (fun h => by cases h), Nat.zero_le _, fun h => absurd rfl h⟩, by simp⟩
    have hsp : sp = none := by
      obtain ⟨cs', hc, ht⟩ := hi 0 (by omega)
      obtain ⟨_, hlen, hcell⟩ := World.cells?_some hc
      have hc0 := hcell 0 (by omega)
      rw [List.getElem?_eq_getElem (by omega)] at hc0
      simp only [Addr.add, Nat.zero_mul, if_true] at hc0
      cases sp with
      | none => rfl
      | some q =>
        simp only [World.cell?, Option.isSome_some, if_true] at hc0
        split at hc0 <;> cases hc0
    subst hsp
    have hq : ∀ q, q < len → ∃ c : Bun, (∀ j, j < 11 → W.cell? ⟨b, off + q * 11 + j, none⟩ = (bunL c)[j]?) ∧ BFit c := by
      intro q hql
      obtain ⟨cs', hc, ht⟩ := hi q (by omega)
      obtain ⟨_, hlen, hcell⟩ := World.cells?_some hc
      obtain ⟨s', i', g', m', x', y', vx', vy', hp', pw', lf', rfl, hfit⟩ := read_bun ht
      refine ⟨⟨s', i', g', m', x', y', vx', vy', hp', pw', lf'⟩, fun j hj => ?_, hfit⟩
      have e : (⟨b, off + q * 11 + j, none⟩ : Addr) = ((⟨b, off, none⟩ : Addr).add (q * 11)).add j := by
        unfold Addr.add
        by_cases h1 : q * 11 = 0
        · by_cases h2 : j = 0 <;> simp [h1, h2]
        · by_cases h2 : j = 0 <;> simp [h1, h2]
      rw [e]
      exact hcell j hj
    obtain ⟨l, hll, hlp⟩ := list_of len hq
    refine ⟨l, ⟨some ⟨b, off, none⟩, cap, by rw [hll], by omega, (fun h => by cases h), by omega, fun hn => ⟨b, off, rfl, ?_, fun t u hu => ?_⟩⟩, fun c hc => ?_⟩
    · have h1 : 0 < l.length := List.length_pos_iff.2 hn
      have h0 := (hlp 0 l[0] (List.getElem?_eq_getElem h1)).1 0 (by omega)
      exact World.block_lt_of_cell? W _ (h0.trans rfl)
    · obtain ⟨c, hc, hcu⟩ := bunCells_split l t u hu
      have h1 := (hlp _ c hc).1 (t % 11) (Nat.mod_lt _ (by omega))
      rw [show off + t = off + t / 11 * 11 + t % 11 by omega, h1, hcu]
    · obtain ⟨q, hi', e⟩ := List.getElem_of_mem hc
      exact (hlp q c (by rw [← e]; exact List.getElem?_eq_getElem hi')).2

/-- One store into a slice of the call's own. -/
theorem sl_store1 {w : World} {e : TypeId} {size n : Nat} {g off cap : Nat} {xs : List Value} (h : Sl w e size (.slice (some ⟨g, off, none⟩) n cap) n xs) {t : Nat} (ht : t < n * size) (u : Value) :
    (∃ u', w.cell? ⟨g, off + t, none⟩ = some u') ∧ w.frozen? ⟨g, off + t, none⟩ = false ∧ Sl (w.setCell ⟨g, off + t, none⟩ u) e size (.slice (some ⟨g, off, none⟩) n cap) n (xs.set t u) ∧ Turned w (w.setCell ⟨g, off + t, none⟩ u) (some g) := by
  obtain ⟨hl, ⟨h0, _⟩ | ⟨g', off', cap', cur, hv, hb, hn, hc, hsz, hr⟩⟩ := h
  · cases h0
  simp only [Value.slice.injEq, Option.some.injEq, Addr.mk.injEq, and_true, true_and] at hv
  obtain ⟨⟨rfl, rfl⟩, rfl⟩ := hv
  have hlt : off + t < cur.size := by
    have : n * size ≤ cap * size := Nat.mul_le_mul_right _ hn
    omega
  have hs := setCells_turned g [u] (off + t) w
  refine ⟨⟨cur[off + t], by simp [World.cell?, hb, hlt]⟩, by simp [World.frozen?, hb], ⟨by rw [List.length_set, hl], .inr ⟨g, off, cap, cur.setIfInBounds (off + t) u, rfl, ?_, hn, hc, by simpa using hsz, fun j v hj => ?_⟩⟩, hs⟩
  · simp [World.setCell, Array.getElem?_modify, hb]
  · rw [List.getElem?_set] at hj
    split at hj
    · rename_i e1
      subst e1
      split at hj
      · rw [Array.getElem?_setIfInBounds_self, if_pos hlt]; exact hj
      · cases hj
    · rename_i e1
      rw [Array.getElem?_setIfInBounds_ne (by omega)]
      exact hr j v hj

/-- A slice that came in reads the same behind what is turned elsewhere. -/
theorem BIn.turned {w w' : World} {v : Value} {l : List Bun} {b : Option Nat} (h : BIn w v l) (ht : Turned w w' b) (hn : ∀ k, b = some k → ∀ blk off cap, v = .slice (some ⟨blk, off, none⟩) l.length cap → blk ≠ k) : BIn w' v l := by
  obtain ⟨p, cap, rfl, h1, h2, h3, h4⟩ := h
  refine ⟨p, cap, rfl, h1, h2, h3, fun hne => ?_⟩
  obtain ⟨blk, off, rfl, h5, h6⟩ := h4 hne
  refine ⟨blk, off, rfl, Nat.lt_of_lt_of_le h5 ht.size, fun t u hu => ?_⟩
  have hb := ht.block blk h5 (fun e => hn blk e.symm blk off cap rfl rfl)
  have := h6 t u hu
  simp only [World.cell?] at this ⊢
  rw [hb]
  exact this
end Go.Proofs.Ytcnclcfipabimaa
