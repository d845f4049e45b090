/-
  DeskStale: for any config, every list of deeds and every name the law returns true, and the arguments stay as they were. No condition.
-/
import Derived.Test.YtbghjklnlhoklaaMk23
import Derived.Test.YtbghjklnlhoklaaRdC
import Derived.Test.YtbghjklnlhoklaaDkK
namespace Go.Proofs.Ytbghjklnlhoklaa.deskStale
open Go.ChangeShapes Go.WideShapes Go.ChangeAt Go.RowKit

/-- What the law wants. -/
def wantE (cb al en fu : Bool) : Int := if cb = false then 1 else if al = false then 9 else if en = true then 10 else if fu = true then 8 else 0
theorem look_want (c : Cfg) (D : Dk) (m : Cm) (hk : m.k ≠ 1) : (lookF c D m).2.2 = wantE (cmdB m) (aliveF D.M m.s m.i m.g) (endsF D.q m.s m.i m.g) (fullB c D) := by
  unfold lookF wantE
  by_cases h1 : cmdB m = false
  · rw [if_pos (Or.inl h1), if_pos h1]
  · rw [if_neg (fun h => h.elim h1 fun h => hk h.1), if_neg h1, if_neg hk]
    by_cases h2 : aliveF D.M m.s m.i m.g = false
    · rw [if_pos h2, if_pos h2]
    · rw [if_neg h2, if_neg h2]
      by_cases h3 : endsF D.q m.s m.i m.g = true
      · rw [if_pos h3, if_pos h3]
      · rw [if_neg h3, if_neg h3]
        by_cases h4 : fullB c D = true
        · rw [if_pos h4, if_pos h4]
        · rw [if_neg h4, if_neg h4]
theorem at48 {a b c : Cm} (n : Nat) {q : Nat} {u : Value} (h : (cmC (if n = 0 then a else if n = 1 then b else c))[q]? = some u) (hn : n ≤ 2) : (cmC a ++ cmC b ++ cmC c)[16 * n + q]? = some u := by
  have hq : q < 16 := (List.getElem?_eq_some_iff.1 h).1
  have hab : (cmC a ++ cmC b).length = 32 := by rw [List.length_append, cmC_len, cmC_len]
  rcases (by omega : n = 0 ∨ n = 1 ∨ n = 2) with rfl | rfl | rfl
  · rw [if_pos rfl] at h
    rw [List.getElem?_append_left (by omega), List.getElem?_append_left (by rw [cmC_len]; omega), Nat.mul_zero, Nat.zero_add]; exact h
  · rw [if_neg (by omega), if_pos rfl] at h
    rw [List.getElem?_append_left (by omega), List.getElem?_append_right (by rw [cmC_len]; omega), cmC_len, show 16 * 1 + q - 16 = q by omega]; exact h
  · rw [if_neg (by omega), if_neg (by omega)] at h
    rw [List.getElem?_append_right (by omega), hab, show 16 * 2 + q - 32 = q by omega]; exact h
attribute [local go_sem ↓] loadVar_ldM storeVar_stM
set_option maxRecDepth 100000 in
set_option maxHeartbeats 4000000 in
theorem walk (cols rows side radius speed ids queue s i g : Int) (v : Value) (zs : List Ded) (w : World) (hz : RIn dedL w v zs) (hd : ∀ d ∈ zs, ∃ l, DOk w d l) :
    Calls Try.prog 4 #[.agg #[.int .i64 cols, .int .i64 rows, .int .i64 side, .int .i64 radius, .int .i64 speed, .int .i64 ids, .int .i64 queue], v, .agg #[.int .i64 s, .int .i64 i, .int .i64 g]] w fun e w' => e = .returned (.bool true) ∧ Below w.heap.size w w' := by
  obtain ⟨w1, hw1, hb1, k0, k1, g0, g1, hsz⟩ := two_boxes w #[.int .i64 cols, .int .i64 rows, .int .i64 side, .int .i64 radius, .int .i64 speed, .int .i64 ids, .int .i64 queue] #[.int .i64 s, .int .i64 i, .int .i64 g] 23 33
  have HMA := Lib.hid (made_any cols rows side radius speed ids queue v zs w1 (hz.keep hb1) (fun d hdm => by obtain ⟨l, q1, q2, q3⟩ := hd d hdm; exact ⟨l, q1, q2.keep hb1, q3⟩))
  have HMY := Lib.hid (fun W => may_any cols rows side radius speed ids queue W)
  have ho := mayF_ok ⟨cols, rows, side, radius, speed, ids, queue⟩
  generalize mayF ⟨cols, rows, side, radius, speed, ids, queue⟩ = cm at *
  have HO := Lib.hid ho
  have HW1 := Lib.hid hw1
  have HB1 := Lib.hid hb1
  have s6 : w.heap.size < w1.heap.size := by omega
  have s7 : w.heap.size + 1 < w1.heap.size := by omega
  have y0 := k0 0; simp at y0; have y1 := k0 1; simp at y1; have y2 := k0 2; simp at y2; have y3 := k0 3; simp at y3; have y4 := k0 4; simp at y4; have y5 := k0 5; simp at y5; have y6 := k0 6; simp at y6
  have x0 := k1 0; simp at x0; have x1 := k1 1; simp at x1; have x2 := k1 2; simp at x2
  clear hw1 hb1 k0 k1 g0 g1 hsz ho hz hd
  go_enter Try.func4, Try.ntmps4
  go_upto_region 1 with fail
  rw [← HW1.out]
  go_wp2_with fail
  refine HMA.out.mono ?_
  rintro e w2 ⟨p, q, R, kk, rfl, hkk, h2⟩
  generalize playF cm _ _ _ = D at *
  have hb2 := h2.below
  have H2 := Lib.hid h2
  replace y0 := (hb2.cell (p := ⟨w.heap.size, 0, none⟩) s6).trans y0; replace y1 := (hb2.cell (p := ⟨w.heap.size, 1, none⟩) s6).trans y1; replace y2 := (hb2.cell (p := ⟨w.heap.size, 2, none⟩) s6).trans y2; replace y3 := (hb2.cell (p := ⟨w.heap.size, 3, none⟩) s6).trans y3; replace y4 := (hb2.cell (p := ⟨w.heap.size, 4, none⟩) s6).trans y4; replace y5 := (hb2.cell (p := ⟨w.heap.size, 5, none⟩) s6).trans y5; replace y6 := (hb2.cell (p := ⟨w.heap.size, 6, none⟩) s6).trans y6
  replace x0 := (hb2.cell (p := ⟨w.heap.size + 1, 0, none⟩) s7).trans x0; replace x1 := (hb2.cell (p := ⟨w.heap.size + 1, 1, none⟩) s7).trans x1; replace x2 := (hb2.cell (p := ⟨w.heap.size + 1, 2, none⟩) s7).trans x2
  replace s6 := Nat.lt_of_lt_of_le s6 hb2.size
  replace s7 := Nat.lt_of_lt_of_le s7 hb2.size
  have HB2 := Lib.hid (HB1.out.trans (hb2.mono HB1.out.size))
  obtain ⟨c7, _, _, _, hlt⟩ := h2.snd.rcells
  obtain ⟨z0, z1, z2⟩ := ltz s6
  obtain ⟨z3, z4, z5⟩ := ltz s7
  obtain ⟨z6, z7, z8⟩ := ltz hlt
  have HAL := Lib.hid (fun W (hW : Below w2.heap.size w2 W) => ralive_o (H2.out.grow hW).swap s i g)
  have HWT := Lib.hid (fun W (hW : Below w2.heap.size w2 W) => waiting_o (H2.out.grow hW) HO.out)
  have HLK := Lib.hid (fun W (hW : Below w2.heap.size w2 W) m => look_o (H2.out.grow hW) HO.out m)
  have HLW := Lib.hid (look_want cm D)
  have hq64 : D.q.length ≤ 64 := by have := h2.dbounds.1; have := HO.out.q1; omega
  clear h2 hb2 HMA HB1 HW1 hkk
  generalize hal : aliveF D.M s i g = al at *
  go_wp2_with fail
  refine wp_region_more (by kernel_rfl) (by kernel_rfl) ?_
  repeat (go_big_quiet_step ((first | (go_at_call 22; exact more_call (HAL.out _ (by repeat' (first | (with_reducible exact Below.refl _ _) | (with_reducible assumption) | (with_reducible refine below_drewN ?_ _) | (with_reducible refine below_more _ _ _ ?_ ?_) | (with_reducible refine Below.alloc ?_ ?_ _) | (with_reducible refine Below.drew ?_) | (with_reducible refine Below.setCell ?_ ?_ _) | go_size)))))))
  refine wpQuiet_nil ?_
  rintro _ ⟨pm, rfl⟩
  go_wp2_with fail
  refine (HWT.out _ (by repeat' (first | (with_reducible exact Below.refl _ _) | (with_reducible assumption) | (with_reducible refine below_drewN ?_ _) | (with_reducible refine below_more _ _ _ ?_ ?_) | (with_reducible refine Below.alloc ?_ ?_ _) | (with_reducible refine Below.drew ?_) | (with_reducible refine Below.setCell ?_ ?_ _) | go_size))).mono ?_
  rintro e W3 ⟨v3, rfl, hn3⟩
  have hb3 : Below w2.heap.size w2 W3 := by
    have hbm := hn3.2.1
    refine Below.trans ?_ (hbm.mono ?_)
    · exact (by repeat' (first | (with_reducible exact Below.refl _ _) | (with_reducible assumption) | (with_reducible refine below_drewN ?_ _) | (with_reducible refine below_more _ _ _ ?_ ?_) | (with_reducible refine Below.alloc ?_ ?_ _) | (with_reducible refine Below.drew ?_) | (with_reducible refine Below.setCell ?_ ?_ _) | go_size))
    · exact (show Below w2.heap.size w2 _ from (by repeat' (first | (with_reducible exact Below.refl _ _) | (with_reducible assumption) | (with_reducible refine below_drewN ?_ _) | (with_reducible refine below_more _ _ _ ?_ ?_) | (with_reducible refine Below.alloc ?_ ?_ _) | (with_reducible refine Below.drew ?_) | (with_reducible refine Below.setCell ?_ ?_ _) | go_size))).size
  obtain ⟨p3, cap3, rfl⟩ := sl_frm hn3.1
  have HR3 := Lib.hid hn3.rin
  replace y0 := (hb3.cell (p := ⟨w.heap.size, 0, none⟩) s6).trans y0; replace y1 := (hb3.cell (p := ⟨w.heap.size, 1, none⟩) s6).trans y1; replace y2 := (hb3.cell (p := ⟨w.heap.size, 2, none⟩) s6).trans y2; replace y3 := (hb3.cell (p := ⟨w.heap.size, 3, none⟩) s6).trans y3; replace y4 := (hb3.cell (p := ⟨w.heap.size, 4, none⟩) s6).trans y4; replace y5 := (hb3.cell (p := ⟨w.heap.size, 5, none⟩) s6).trans y5; replace y6 := (hb3.cell (p := ⟨w.heap.size, 6, none⟩) s6).trans y6
  replace x0 := (hb3.cell (p := ⟨w.heap.size + 1, 0, none⟩) s7).trans x0; replace x1 := (hb3.cell (p := ⟨w.heap.size + 1, 1, none⟩) s7).trans x1; replace x2 := (hb3.cell (p := ⟨w.heap.size + 1, 2, none⟩) s7).trans x2
  replace s6 := Nat.lt_of_lt_of_le s6 hb3.size
  replace s7 := Nat.lt_of_lt_of_le s7 hb3.size
  have HB3 := Lib.hid hb3
  have HW3 := Lib.hid (HB2.out.trans (hb3.mono HB2.out.size))
  clear hn3 hb3 HAL HWT c7 hlt z0 z1 z2 z3 z4 z5 z6 z7 z8 HB2
  have HES := Lib.hid (fun j m hm => endsF_step D.q s i g (k := j) (m := m) hm)
  go_wp2_with fail
  go_loopw [10, 12] (fun en x wr => ∃ j : Nat, x = .int .i64 j ∧ j ≤ D.q.length ∧ en = .bool (endsF (D.q.take j) s i g) ∧ Hid (Below W3.heap.size W3 wr)) (fun _ x _ => D.q.length - (intOf x).toNat)
  case atStart => exact ⟨0, rfl, Nat.zero_le _, rfl, Lib.hid (Below.refl _ _)⟩
  case round =>
    obtain ⟨j, rfl, hj, rfl, hB⟩ := hrel
    obtain ⟨wo, rfl⟩ : ∃ wo : World, wo = wr := ⟨_, rfl⟩
    have hI : 0 ≤ (j : Int) := Int.natCast_nonneg j
    by_cases hlt : j < D.q.length
    · have t1 : (j : Int) < (D.q.length : Int) := by omega
      obtain ⟨m, hm⟩ : ∃ m, D.q[j]? = some m := ⟨_, List.getElem?_eq_getElem hlt⟩
      have hst := HES.out j m hm
      obtain ⟨blk, off, cap', hve, hb, hcx⟩ := (HR3.out.keep hB.out).cells cmC_len hm
      simp only [Value.slice.injEq, true_and] at hve
      obtain ⟨rfl, rfl⟩ := hve
      have q0 := hcx 0 _ rfl
      have q1 := hcx 1 _ rfl
      have q2 := hcx 2 _ rfl
      have q3 := hcx 3 _ rfl
      rw [Nat.add_zero] at q0
      obtain ⟨mk, ms, mi, mg, mb, mm⟩ := m
      simp only at q0 q1 q2 q3 hst
      have HS := Lib.hid hst
      have u0 := (hB.out.cell (p := ⟨w.heap.size + 1, 0, none⟩) s7).trans x0; have u1 := (hB.out.cell (p := ⟨w.heap.size + 1, 1, none⟩) s7).trans x1; have u2 := (hB.out.cell (p := ⟨w.heap.size + 1, 2, none⟩) s7).trans x2
      have l7 := Nat.lt_of_lt_of_le s7 hB.out.size
      obtain ⟨z0, z1, z2⟩ := ltz hb
      obtain ⟨z3, z4, z5⟩ := ltz l7
      clear hcx hm hst
      generalize endsF (D.q.take j) s i g = eb at *
      cases eb with
      | true =>
        go_wp2_with fail
        refine wp_region_more (by kernel_rfl) (by kernel_rfl) ?_
        repeat (go_big_quiet_step (fail))
        refine wpQuiet_nil ?_
        rintro _ ⟨pn, rfl⟩
        go_wp2_with fail
        go_roundw
        case rel => exact ⟨j + 1, by go_num, hlt, by rw [HS.out]; rfl, Lib.hid (hB.out.trans (Below.mono (B := wo.heap.size) (by repeat' (first | (with_reducible exact Below.refl _ _) | (with_reducible assumption) | (with_reducible refine below_drewN ?_ _) | (with_reducible refine below_more _ _ _ ?_ ?_) | (with_reducible refine Below.alloc ?_ ?_ _) | (with_reducible refine Below.drew ?_) | (with_reducible refine Below.setCell ?_ ?_ _) | go_size)) hB.out.size))⟩
        case measure => simp [intOf]; omega
      | false =>
        cases h2 : (mk == 2) with
        | false =>
          rw [h2] at HS
          go_wp2_with fail
          refine wp_region_more (by kernel_rfl) (by kernel_rfl) ?_
          repeat (go_big_quiet_step (fail))
          refine wpQuiet_nil ?_
          rintro _ ⟨pn, rfl⟩
          go_wp2_with fail
          go_roundw
          case rel => exact ⟨j + 1, by go_num, hlt, by rw [HS.out]; rfl, Lib.hid (hB.out.trans (Below.mono (B := wo.heap.size) (by repeat' (first | (with_reducible exact Below.refl _ _) | (with_reducible assumption) | (with_reducible refine below_drewN ?_ _) | (with_reducible refine below_more _ _ _ ?_ ?_) | (with_reducible refine Below.alloc ?_ ?_ _) | (with_reducible refine Below.drew ?_) | (with_reducible refine Below.setCell ?_ ?_ _) | go_size)) hB.out.size))⟩
          case measure => simp [intOf]; omega
        | true =>
          rw [h2] at HS
          go_wp2_with fail
          refine wp_region_more (by kernel_rfl) (by kernel_rfl) ?_
          repeat (go_big_quiet_step (fail))
          refine wpQuiet_nil ?_
          rintro _ ⟨pn, rfl⟩
          go_wp2_with fail
          go_roundw
          case rel => exact ⟨j + 1, by go_num, hlt, by rw [HS.out]; simp, Lib.hid (hB.out.trans (Below.mono (B := wo.heap.size) (by repeat' (first | (with_reducible exact Below.refl _ _) | (with_reducible assumption) | (with_reducible refine below_drewN ?_ _) | (with_reducible refine below_more _ _ _ ?_ ?_) | (with_reducible refine Below.alloc ?_ ?_ _) | (with_reducible refine Below.drew ?_) | (with_reducible refine Below.setCell ?_ ?_ _) | go_size)) hB.out.size))⟩
          case measure => simp [intOf]; omega
    · obtain rfl : j = D.q.length := by omega
      rw [List.take_length]
      generalize hen : endsF D.q s i g = en at *
      have v0 := (hB.out.cell (p := ⟨w.heap.size, 0, none⟩) s6).trans y0; have v1 := (hB.out.cell (p := ⟨w.heap.size, 1, none⟩) s6).trans y1; have v2 := (hB.out.cell (p := ⟨w.heap.size, 2, none⟩) s6).trans y2; have v3 := (hB.out.cell (p := ⟨w.heap.size, 3, none⟩) s6).trans y3; have v4 := (hB.out.cell (p := ⟨w.heap.size, 4, none⟩) s6).trans y4; have v5 := (hB.out.cell (p := ⟨w.heap.size, 5, none⟩) s6).trans y5; have v6 := (hB.out.cell (p := ⟨w.heap.size, 6, none⟩) s6).trans y6
      have u0 := (hB.out.cell (p := ⟨w.heap.size + 1, 0, none⟩) s7).trans x0; have u1 := (hB.out.cell (p := ⟨w.heap.size + 1, 1, none⟩) s7).trans x1; have u2 := (hB.out.cell (p := ⟨w.heap.size + 1, 2, none⟩) s7).trans x2
      have l6 := Nat.lt_of_lt_of_le s6 hB.out.size
      have l7 := Nat.lt_of_lt_of_le s7 hB.out.size
      clear hlt hj y0 y1 y2 y3 y4 y5 y6 x0 x1 x2 HES
      have hfq : ∀ W : World, (Instr.field 23 (.agg #[.int .i64 cm.cols, .int .i64 cm.rows, .int .i64 cm.side, .int .i64 cm.radius, .int .i64 cm.speed, .int .i64 cm.ids, .int .i64 cm.queue]) 6).run Try.prog W = .ok (.int .i64 cm.queue) W := fun _ => by kernel_rfl
      go_wp2_with (go_at_call 11; refine (HMY.out _).mono ?_; rintro e w' ⟨rfl, hb⟩; obtain ⟨d, os, rfl⟩ := more_of hb; clear hb)
      generalize hW4 : more _ _ _ = W4
      have hb4 : Below W3.heap.size W3 W4 := by rw [← hW4]; exact hB.out.trans (Below.mono (B := wo.heap.size) (by repeat' (first | (with_reducible exact Below.refl _ _) | (with_reducible assumption) | (with_reducible refine below_drewN ?_ _) | (with_reducible refine below_more _ _ _ ?_ ?_) | (with_reducible refine Below.alloc ?_ ?_ _) | (with_reducible refine Below.drew ?_) | (with_reducible refine Below.setCell ?_ ?_ _) | go_size)) hB.out.size)
      have HB4 := Lib.hid hb4
      have x0 := (Below.cell (B := wo.heap.size) (by rw [← hW4]; exact (by repeat' (first | (with_reducible exact Below.refl _ _) | (with_reducible assumption) | (with_reducible refine below_drewN ?_ _) | (with_reducible refine below_more _ _ _ ?_ ?_) | (with_reducible refine Below.alloc ?_ ?_ _) | (with_reducible refine Below.drew ?_) | (with_reducible refine Below.setCell ?_ ?_ _) | go_size)) : Below wo.heap.size wo W4) (p := ⟨w.heap.size + 1, 0, none⟩) l7).trans u0
      have x1 := (Below.cell (B := wo.heap.size) (by rw [← hW4]; exact (by repeat' (first | (with_reducible exact Below.refl _ _) | (with_reducible assumption) | (with_reducible refine below_drewN ?_ _) | (with_reducible refine below_more _ _ _ ?_ ?_) | (with_reducible refine Below.alloc ?_ ?_ _) | (with_reducible refine Below.drew ?_) | (with_reducible refine Below.setCell ?_ ?_ _) | go_size)) : Below wo.heap.size wo W4) (p := ⟨w.heap.size + 1, 1, none⟩) l7).trans u1
      have x2 := (Below.cell (B := wo.heap.size) (by rw [← hW4]; exact (by repeat' (first | (with_reducible exact Below.refl _ _) | (with_reducible assumption) | (with_reducible refine below_drewN ?_ _) | (with_reducible refine below_more _ _ _ ?_ ?_) | (with_reducible refine Below.alloc ?_ ?_ _) | (with_reducible refine Below.drew ?_) | (with_reducible refine Below.setCell ?_ ?_ _) | go_size)) : Below wo.heap.size wo W4) (p := ⟨w.heap.size + 1, 2, none⟩) l7).trans u2
      have l8 : w.heap.size + 1 < W4.heap.size := Nat.lt_of_lt_of_le s7 hb4.size
      have HFU := Lib.hid (show fullB cm D = decide (cm.queue ≤ (D.q.length : Int)) from rfl)
      clear hW4 hb4 u0 u1 u2 v0 v1 v2 v3 v4 v5 v6 l6 l7 hB HR3 HMY s6 s7 hI
      generalize decide (cm.queue ≤ (D.q.length : Int)) = fu at *
      go_loopw [14] (fun x wr => ∃ j : Nat, x = .int .i64 j ∧ j ≤ 3 ∧ Hid (Below W4.heap.size W4 wr)) (fun x _ => 3 - (intOf x).toNat)
      case atStart => exact ⟨0, rfl, by omega, Lib.hid (Below.refl _ _)⟩
      case round =>
        obtain ⟨j, rfl, hj, hB⟩ := hrel
        obtain ⟨wo, rfl⟩ : ∃ wo : World, wo = wr := ⟨_, rfl⟩
        have u0 := (hB.out.cell (p := ⟨w.heap.size + 1, 0, none⟩) l8).trans x0
        have u1 := (hB.out.cell (p := ⟨w.heap.size + 1, 1, none⟩) l8).trans x1
        have u2 := (hB.out.cell (p := ⟨w.heap.size + 1, 2, none⟩) l8).trans x2
        have l9 := Nat.lt_of_lt_of_le l8 hB.out.size
        clear x0 x1 x2
        have hj3 : j = 0 ∨ j = 1 ∨ j = 2 ∨ j = 3 := by omega
        rcases hj3 with rfl | rfl | rfl | rfl
        · have hlk := look_want cm D ⟨2, s, i, g, ⟨0, 0, 0, 0, 0, 0, 0, 0, 0, 0, 0⟩, 0⟩ (by simp)
          have HMC := Lib.hid (fun W => rMayCmd_m ⟨2, s, i, g, ⟨0, 0, 0, 0, 0, 0, 0, 0, 0, 0, 0⟩, 0⟩ W (by simp only; omega))
          simp only [hal, hen, HFU.out] at hlk
          have hla : ∃ a must er, lookF cm D ⟨2, s, i, g, ⟨0, 0, 0, 0, 0, 0, 0, 0, 0, 0, 0⟩, 0⟩ = (a, must, er) := ⟨_, _, _, rfl⟩
          obtain ⟨⟨uk, us, ui, ug, ⟨ues, uei, ueg, um, ux, uy, uvx, uvy, uhp, upw, ulf⟩, umask⟩, must, er, hla⟩ := hla
          have HLK1 : Hid (∀ W, Below w2.heap.size w2 W → Calls Try.prog 13 #[.pointer (some ⟨p, 0, none⟩), .agg #[.int .i64 2, .int .i64 s, .int .i64 i, .int .i64 g, .int .i64 0, .int .i64 0, .int .i64 0, .int .i64 0, .int .i64 0, .int .i64 0, .int .i64 0, .int .i64 0, .int .i64 0, .int .i64 0, .int .i64 0, .int .i64 0]] W fun e w' => e = .returned (.tuple #[.agg #[.int .i64 uk, .int .i64 us, .int .i64 ui, .int .i64 ug, .int .i64 ues, .int .i64 uei, .int .i64 ueg, .int .i64 um, .int .i64 ux, .int .i64 uy, .int .i64 uvx, .int .i64 uvy, .int .i64 uhp, .int .i64 upw, .int .i64 ulf, .int .i64 umask], .bool must, .int .i64 er]) ∧ Below W.heap.size W w') := Lib.hid (fun W hW => by have := HLK.out W hW ⟨2, s, i, g, ⟨0, 0, 0, 0, 0, 0, 0, 0, 0, 0, 0⟩, 0⟩; rw [hla] at this; exact this)
          rw [hla] at hlk
          simp only at hlk
          generalize hcb : cmdB ⟨2, s, i, g, ⟨0, 0, 0, 0, 0, 0, 0, 0, 0, 0, 0⟩, 0⟩ = cb at *
          obtain ⟨kv, gv, lv, bv⟩ := new_box wo #[.int .i64 2, .int .i64 s, .int .i64 i, .int .i64 g, .int .i64 0, .int .i64 0, .int .i64 0, .int .i64 0, .int .i64 0, .int .i64 0, .int .i64 0, .int .i64 0, .int .i64 0, .int .i64 0, .int .i64 0, .int .i64 0, .int .i64 4, .int .i64 s, .int .i64 i, .int .i64 g, .int .i64 0, .int .i64 0, .int .i64 0, .int .i64 0, .int .i64 0, .int .i64 0, .int .i64 0, .int .i64 0, .int .i64 0, .int .i64 0, .int .i64 0, .int .i64 2, .int .i64 3, .int .i64 s, .int .i64 i, .int .i64 g, .int .i64 0, .int .i64 0, .int .i64 0, .int .i64 2, .int .i64 0, .int .i64 0, .int .i64 0, .int .i64 0, .int .i64 0, .int .i64 0, .int .i64 0, .int .i64 0] 37 wo.heap.size rfl
          have hld : (ldM ⟨wo.heap.size, 0, none⟩).run Try.prog (wo.alloc (.cells #[.int .i64 2, .int .i64 s, .int .i64 i, .int .i64 g, .int .i64 0, .int .i64 0, .int .i64 0, .int .i64 0, .int .i64 0, .int .i64 0, .int .i64 0, .int .i64 0, .int .i64 0, .int .i64 0, .int .i64 0, .int .i64 0, .int .i64 4, .int .i64 s, .int .i64 i, .int .i64 g, .int .i64 0, .int .i64 0, .int .i64 0, .int .i64 0, .int .i64 0, .int .i64 0, .int .i64 0, .int .i64 0, .int .i64 0, .int .i64 0, .int .i64 0, .int .i64 2, .int .i64 3, .int .i64 s, .int .i64 i, .int .i64 g, .int .i64 0, .int .i64 0, .int .i64 0, .int .i64 2, .int .i64 0, .int .i64 0, .int .i64 0, .int .i64 0, .int .i64 0, .int .i64 0, .int .i64 0, .int .i64 0] 37)) = .ok (.agg #[.int .i64 2, .int .i64 s, .int .i64 i, .int .i64 g, .int .i64 0, .int .i64 0, .int .i64 0, .int .i64 0, .int .i64 0, .int .i64 0, .int .i64 0, .int .i64 0, .int .i64 0, .int .i64 0, .int .i64 0, .int .i64 0]) (wo.alloc (.cells #[.int .i64 2, .int .i64 s, .int .i64 i, .int .i64 g, .int .i64 0, .int .i64 0, .int .i64 0, .int .i64 0, .int .i64 0, .int .i64 0, .int .i64 0, .int .i64 0, .int .i64 0, .int .i64 0, .int .i64 0, .int .i64 0, .int .i64 4, .int .i64 s, .int .i64 i, .int .i64 g, .int .i64 0, .int .i64 0, .int .i64 0, .int .i64 0, .int .i64 0, .int .i64 0, .int .i64 0, .int .i64 0, .int .i64 0, .int .i64 0, .int .i64 0, .int .i64 2, .int .i64 3, .int .i64 s, .int .i64 i, .int .i64 g, .int .i64 0, .int .i64 0, .int .i64 0, .int .i64 2, .int .i64 0, .int .i64 0, .int .i64 0, .int .i64 0, .int .i64 0, .int .i64 0, .int .i64 0, .int .i64 0] 37)) := ldM_of ⟨2, s, i, g, ⟨0, 0, 0, 0, 0, 0, 0, 0, 0, 0, 0⟩, 0⟩ fun q u hq => by rw [kv, List.getElem?_toArray]; exact at48 (a := ⟨2, s, i, g, ⟨0, 0, 0, 0, 0, 0, 0, 0, 0, 0, 0⟩, 0⟩) (b := ⟨4, s, i, g, ⟨0, 0, 0, 0, 0, 0, 0, 0, 0, 0, 0⟩, 2⟩) (c := ⟨3, s, i, g, ⟨0, 0, 0, 2, 0, 0, 0, 0, 0, 0, 0⟩, 0⟩) 0 hq (by omega)
          obtain ⟨w5, hs5, hm5⟩ := new_cmO (wo.alloc (.cells #[.int .i64 2, .int .i64 s, .int .i64 i, .int .i64 g, .int .i64 0, .int .i64 0, .int .i64 0, .int .i64 0, .int .i64 0, .int .i64 0, .int .i64 0, .int .i64 0, .int .i64 0, .int .i64 0, .int .i64 0, .int .i64 0, .int .i64 4, .int .i64 s, .int .i64 i, .int .i64 g, .int .i64 0, .int .i64 0, .int .i64 0, .int .i64 0, .int .i64 0, .int .i64 0, .int .i64 0, .int .i64 0, .int .i64 0, .int .i64 0, .int .i64 0, .int .i64 2, .int .i64 3, .int .i64 s, .int .i64 i, .int .i64 g, .int .i64 0, .int .i64 0, .int .i64 0, .int .i64 2, .int .i64 0, .int .i64 0, .int .i64 0, .int .i64 0, .int .i64 0, .int .i64 0, .int .i64 0, .int .i64 0] 37)) ⟨2, s, i, g, ⟨0, 0, 0, 0, 0, 0, 0, 0, 0, 0, 0⟩, 0⟩
          have hbx5 := ((Own.nil _).made hm5).box
          rw [World.size_alloc] at hs5 hbx5
          have hst5 : (stM ⟨wo.heap.size + 1, 0, none⟩ (.agg #[.int .i64 2, .int .i64 s, .int .i64 i, .int .i64 g, .int .i64 0, .int .i64 0, .int .i64 0, .int .i64 0, .int .i64 0, .int .i64 0, .int .i64 0, .int .i64 0, .int .i64 0, .int .i64 0, .int .i64 0, .int .i64 0])).run Try.prog ((wo.alloc (.cells #[.int .i64 2, .int .i64 s, .int .i64 i, .int .i64 g, .int .i64 0, .int .i64 0, .int .i64 0, .int .i64 0, .int .i64 0, .int .i64 0, .int .i64 0, .int .i64 0, .int .i64 0, .int .i64 0, .int .i64 0, .int .i64 0, .int .i64 4, .int .i64 s, .int .i64 i, .int .i64 g, .int .i64 0, .int .i64 0, .int .i64 0, .int .i64 0, .int .i64 0, .int .i64 0, .int .i64 0, .int .i64 0, .int .i64 0, .int .i64 0, .int .i64 0, .int .i64 2, .int .i64 3, .int .i64 s, .int .i64 i, .int .i64 g, .int .i64 0, .int .i64 0, .int .i64 0, .int .i64 2, .int .i64 0, .int .i64 0, .int .i64 0, .int .i64 0, .int .i64 0, .int .i64 0, .int .i64 0, .int .i64 0] 37)).alloc (.cells #[.int .i64 0, .int .i64 0, .int .i64 0, .int .i64 0, .int .i64 0, .int .i64 0, .int .i64 0, .int .i64 0, .int .i64 0, .int .i64 0, .int .i64 0, .int .i64 0, .int .i64 0, .int .i64 0, .int .i64 0, .int .i64 0] 37)) = .ok () w5 := hs5
          have hb5 : Below wo.heap.size wo w5 := bv.trans (Below.mono (B := (wo.alloc (.cells #[.int .i64 2, .int .i64 s, .int .i64 i, .int .i64 g, .int .i64 0, .int .i64 0, .int .i64 0, .int .i64 0, .int .i64 0, .int .i64 0, .int .i64 0, .int .i64 0, .int .i64 0, .int .i64 0, .int .i64 0, .int .i64 0, .int .i64 4, .int .i64 s, .int .i64 i, .int .i64 g, .int .i64 0, .int .i64 0, .int .i64 0, .int .i64 0, .int .i64 0, .int .i64 0, .int .i64 0, .int .i64 0, .int .i64 0, .int .i64 0, .int .i64 0, .int .i64 2, .int .i64 3, .int .i64 s, .int .i64 i, .int .i64 g, .int .i64 0, .int .i64 0, .int .i64 0, .int .i64 2, .int .i64 0, .int .i64 0, .int .i64 0, .int .i64 0, .int .i64 0, .int .i64 0, .int .i64 0, .int .i64 0] 37)).heap.size) (by obtain ⟨_, _, h, _⟩ := hm5; exact h) bv.size)
          have hld5 : (ldM ⟨wo.heap.size + 1, 0, none⟩).run Try.prog w5 = .ok (.agg #[.int .i64 2, .int .i64 s, .int .i64 i, .int .i64 g, .int .i64 0, .int .i64 0, .int .i64 0, .int .i64 0, .int .i64 0, .int .i64 0, .int .i64 0, .int .i64 0, .int .i64 0, .int .i64 0, .int .i64 0, .int .i64 0]) w5 := ldM_of ⟨2, s, i, g, ⟨0, 0, 0, 0, 0, 0, 0, 0, 0, 0, 0⟩, 0⟩ fun q u hq => by rw [Nat.zero_add, hbx5.1, List.getElem?_toArray]; exact hq
          have HX5 := Lib.hid hbx5
          have HB5 := Lib.hid hb5
          clear kv gv lv bv hs5 hm5 hbx5 hb5 hcb hla
          go_wp2_with fail
          refine (HLK1.out _ (HB3.out.trans (Below.mono (B := W3.heap.size) (HB4.out.trans (Below.mono (B := W4.heap.size) (hB.out.trans (Below.mono (B := wo.heap.size) HB5.out hB.out.size)) HB4.out.size)) HB3.out.size))).mono ?_
          rintro e V1 ⟨rfl, hb1⟩
          obtain ⟨w6, hs6, hm6⟩ := new_cmO V1 ⟨uk, us, ui, ug, ⟨ues, uei, ueg, um, ux, uy, uvx, uvy, uhp, upw, ulf⟩, umask⟩
          have hst6 : (stM ⟨V1.heap.size, 0, none⟩ (.agg #[.int .i64 uk, .int .i64 us, .int .i64 ui, .int .i64 ug, .int .i64 ues, .int .i64 uei, .int .i64 ueg, .int .i64 um, .int .i64 ux, .int .i64 uy, .int .i64 uvx, .int .i64 uvy, .int .i64 uhp, .int .i64 upw, .int .i64 ulf, .int .i64 umask])).run Try.prog (V1.alloc (.cells #[.int .i64 0, .int .i64 0, .int .i64 0, .int .i64 0, .int .i64 0, .int .i64 0, .int .i64 0, .int .i64 0, .int .i64 0, .int .i64 0, .int .i64 0, .int .i64 0, .int .i64 0, .int .i64 0, .int .i64 0, .int .i64 0] 37)) = .ok () w6 := hs6
          have hb6 : Below w5.heap.size w5 w6 := hb1.trans (Below.mono (B := V1.heap.size) (by obtain ⟨_, _, h, _⟩ := hm6; exact h) hb1.size)
          have hld6 : (ldM ⟨wo.heap.size + 1, 0, none⟩).run Try.prog w6 = .ok (.agg #[.int .i64 2, .int .i64 s, .int .i64 i, .int .i64 g, .int .i64 0, .int .i64 0, .int .i64 0, .int .i64 0, .int .i64 0, .int .i64 0, .int .i64 0, .int .i64 0, .int .i64 0, .int .i64 0, .int .i64 0, .int .i64 0]) w6 := ldM_of ⟨2, s, i, g, ⟨0, 0, 0, 0, 0, 0, 0, 0, 0, 0, 0⟩, 0⟩ fun q u hq => by rw [Nat.zero_add, hb6.cell (p := ⟨wo.heap.size + 1, q, none⟩) HX5.out.2.2.1, HX5.out.1, List.getElem?_toArray]; exact hq
          have HB6 := Lib.hid (HB5.out.trans (Below.mono (B := w5.heap.size) hb6 HB5.out.size))
          clear hs6 hm6 hb1 hb6 hst5 hld hld5 HX5 HB5 HLK1 u0 u1 u2 l9
          go_upto_region 14 with fail
          clear hst6
          cases cb with
          | false =>
            obtain rfl : er = 1 := hlk
            go_wp2_with (go_at_call 23; refine (HMC.out _).mono ?_; rintro e w' ⟨rfl, hb⟩; obtain ⟨d, os, rfl⟩ := more_of hb; clear hb)
            go_roundw
            case rel => exact ⟨1, by go_num, by omega, Lib.hid (hB.out.trans (Below.mono (B := wo.heap.size) (HB6.out.trans (Below.mono (B := w6.heap.size) (by repeat' (first | (with_reducible exact Below.refl _ _) | (with_reducible assumption) | (with_reducible refine below_drewN ?_ _) | (with_reducible refine below_more _ _ _ ?_ ?_) | (with_reducible refine Below.alloc ?_ ?_ _) | (with_reducible refine Below.drew ?_) | (with_reducible refine Below.setCell ?_ ?_ _) | go_size)) HB6.out.size)) hB.out.size))⟩
            case measure => simp [intOf]
          | true =>
            cases al with
            | false =>
              obtain rfl : er = 9 := hlk
              go_wp2_with (go_at_call 23; refine (HMC.out _).mono ?_; rintro e w' ⟨rfl, hb⟩; obtain ⟨d, os, rfl⟩ := more_of hb; clear hb)
              go_roundw
              case rel => exact ⟨1, by go_num, by omega, Lib.hid (hB.out.trans (Below.mono (B := wo.heap.size) (HB6.out.trans (Below.mono (B := w6.heap.size) (by repeat' (first | (with_reducible exact Below.refl _ _) | (with_reducible assumption) | (with_reducible refine below_drewN ?_ _) | (with_reducible refine below_more _ _ _ ?_ ?_) | (with_reducible refine Below.alloc ?_ ?_ _) | (with_reducible refine Below.drew ?_) | (with_reducible refine Below.setCell ?_ ?_ _) | go_size)) HB6.out.size)) hB.out.size))⟩
              case measure => simp [intOf]
            | true =>
              cases en with
              | true =>
                obtain rfl : er = 10 := hlk
                go_wp2_with (go_at_call 23; refine (HMC.out _).mono ?_; rintro e w' ⟨rfl, hb⟩; obtain ⟨d, os, rfl⟩ := more_of hb; clear hb)
                go_roundw
                case rel => exact ⟨1, by go_num, by omega, Lib.hid (hB.out.trans (Below.mono (B := wo.heap.size) (HB6.out.trans (Below.mono (B := w6.heap.size) (by repeat' (first | (with_reducible exact Below.refl _ _) | (with_reducible assumption) | (with_reducible refine below_drewN ?_ _) | (with_reducible refine below_more _ _ _ ?_ ?_) | (with_reducible refine Below.alloc ?_ ?_ _) | (with_reducible refine Below.drew ?_) | (with_reducible refine Below.setCell ?_ ?_ _) | go_size)) HB6.out.size)) hB.out.size))⟩
                case measure => simp [intOf]
              | false =>
                cases fu with
                | true =>
                  obtain rfl : er = 8 := hlk
                  go_wp2_with (go_at_call 23; refine (HMC.out _).mono ?_; rintro e w' ⟨rfl, hb⟩; obtain ⟨d, os, rfl⟩ := more_of hb; clear hb)
                  go_roundw
                  case rel => exact ⟨1, by go_num, by omega, Lib.hid (hB.out.trans (Below.mono (B := wo.heap.size) (HB6.out.trans (Below.mono (B := w6.heap.size) (by repeat' (first | (with_reducible exact Below.refl _ _) | (with_reducible assumption) | (with_reducible refine below_drewN ?_ _) | (with_reducible refine below_more _ _ _ ?_ ?_) | (with_reducible refine Below.alloc ?_ ?_ _) | (with_reducible refine Below.drew ?_) | (with_reducible refine Below.setCell ?_ ?_ _) | go_size)) HB6.out.size)) hB.out.size))⟩
                  case measure => simp [intOf]
                | false =>
                  obtain rfl : er = 0 := hlk
                  go_wp2_with (go_at_call 23; refine (HMC.out _).mono ?_; rintro e w' ⟨rfl, hb⟩; obtain ⟨d, os, rfl⟩ := more_of hb; clear hb)
                  go_roundw
                  case rel => exact ⟨1, by go_num, by omega, Lib.hid (hB.out.trans (Below.mono (B := wo.heap.size) (HB6.out.trans (Below.mono (B := w6.heap.size) (by repeat' (first | (with_reducible exact Below.refl _ _) | (with_reducible assumption) | (with_reducible refine below_drewN ?_ _) | (with_reducible refine below_more _ _ _ ?_ ?_) | (with_reducible refine Below.alloc ?_ ?_ _) | (with_reducible refine Below.drew ?_) | (with_reducible refine Below.setCell ?_ ?_ _) | go_size)) HB6.out.size)) hB.out.size))⟩
                  case measure => simp [intOf]
        · have hlk := look_want cm D ⟨4, s, i, g, ⟨0, 0, 0, 0, 0, 0, 0, 0, 0, 0, 0⟩, 2⟩ (by simp)
          have HMC := Lib.hid (fun W => rMayCmd_m ⟨4, s, i, g, ⟨0, 0, 0, 0, 0, 0, 0, 0, 0, 0, 0⟩, 2⟩ W (by simp only; omega))
          simp only [hal, hen, HFU.out] at hlk
          have hla : ∃ a must er, lookF cm D ⟨4, s, i, g, ⟨0, 0, 0, 0, 0, 0, 0, 0, 0, 0, 0⟩, 2⟩ = (a, must, er) := ⟨_, _, _, rfl⟩
          obtain ⟨⟨uk, us, ui, ug, ⟨ues, uei, ueg, um, ux, uy, uvx, uvy, uhp, upw, ulf⟩, umask⟩, must, er, hla⟩ := hla
          have HLK1 : Hid (∀ W, Below w2.heap.size w2 W → Calls Try.prog 13 #[.pointer (some ⟨p, 0, none⟩), .agg #[.int .i64 4, .int .i64 s, .int .i64 i, .int .i64 g, .int .i64 0, .int .i64 0, .int .i64 0, .int .i64 0, .int .i64 0, .int .i64 0, .int .i64 0, .int .i64 0, .int .i64 0, .int .i64 0, .int .i64 0, .int .i64 2]] W fun e w' => e = .returned (.tuple #[.agg #[.int .i64 uk, .int .i64 us, .int .i64 ui, .int .i64 ug, .int .i64 ues, .int .i64 uei, .int .i64 ueg, .int .i64 um, .int .i64 ux, .int .i64 uy, .int .i64 uvx, .int .i64 uvy, .int .i64 uhp, .int .i64 upw, .int .i64 ulf, .int .i64 umask], .bool must, .int .i64 er]) ∧ Below W.heap.size W w') := Lib.hid (fun W hW => by have := HLK.out W hW ⟨4, s, i, g, ⟨0, 0, 0, 0, 0, 0, 0, 0, 0, 0, 0⟩, 2⟩; rw [hla] at this; exact this)
          rw [hla] at hlk
          simp only at hlk
          generalize hcb : cmdB ⟨4, s, i, g, ⟨0, 0, 0, 0, 0, 0, 0, 0, 0, 0, 0⟩, 2⟩ = cb at *
          obtain ⟨kv, gv, lv, bv⟩ := new_box wo #[.int .i64 2, .int .i64 s, .int .i64 i, .int .i64 g, .int .i64 0, .int .i64 0, .int .i64 0, .int .i64 0, .int .i64 0, .int .i64 0, .int .i64 0, .int .i64 0, .int .i64 0, .int .i64 0, .int .i64 0, .int .i64 0, .int .i64 4, .int .i64 s, .int .i64 i, .int .i64 g, .int .i64 0, .int .i64 0, .int .i64 0, .int .i64 0, .int .i64 0, .int .i64 0, .int .i64 0, .int .i64 0, .int .i64 0, .int .i64 0, .int .i64 0, .int .i64 2, .int .i64 3, .int .i64 s, .int .i64 i, .int .i64 g, .int .i64 0, .int .i64 0, .int .i64 0, .int .i64 2, .int .i64 0, .int .i64 0, .int .i64 0, .int .i64 0, .int .i64 0, .int .i64 0, .int .i64 0, .int .i64 0] 37 wo.heap.size rfl
          have hld : (ldM ⟨wo.heap.size, 16, none⟩).run Try.prog (wo.alloc (.cells #[.int .i64 2, .int .i64 s, .int .i64 i, .int .i64 g, .int .i64 0, .int .i64 0, .int .i64 0, .int .i64 0, .int .i64 0, .int .i64 0, .int .i64 0, .int .i64 0, .int .i64 0, .int .i64 0, .int .i64 0, .int .i64 0, .int .i64 4, .int .i64 s, .int .i64 i, .int .i64 g, .int .i64 0, .int .i64 0, .int .i64 0, .int .i64 0, .int .i64 0, .int .i64 0, .int .i64 0, .int .i64 0, .int .i64 0, .int .i64 0, .int .i64 0, .int .i64 2, .int .i64 3, .int .i64 s, .int .i64 i, .int .i64 g, .int .i64 0, .int .i64 0, .int .i64 0, .int .i64 2, .int .i64 0, .int .i64 0, .int .i64 0, .int .i64 0, .int .i64 0, .int .i64 0, .int .i64 0, .int .i64 0] 37)) = .ok (.agg #[.int .i64 4, .int .i64 s, .int .i64 i, .int .i64 g, .int .i64 0, .int .i64 0, .int .i64 0, .int .i64 0, .int .i64 0, .int .i64 0, .int .i64 0, .int .i64 0, .int .i64 0, .int .i64 0, .int .i64 0, .int .i64 2]) (wo.alloc (.cells #[.int .i64 2, .int .i64 s, .int .i64 i, .int .i64 g, .int .i64 0, .int .i64 0, .int .i64 0, .int .i64 0, .int .i64 0, .int .i64 0, .int .i64 0, .int .i64 0, .int .i64 0, .int .i64 0, .int .i64 0, .int .i64 0, .int .i64 4, .int .i64 s, .int .i64 i, .int .i64 g, .int .i64 0, .int .i64 0, .int .i64 0, .int .i64 0, .int .i64 0, .int .i64 0, .int .i64 0, .int .i64 0, .int .i64 0, .int .i64 0, .int .i64 0, .int .i64 2, .int .i64 3, .int .i64 s, .int .i64 i, .int .i64 g, .int .i64 0, .int .i64 0, .int .i64 0, .int .i64 2, .int .i64 0, .int .i64 0, .int .i64 0, .int .i64 0, .int .i64 0, .int .i64 0, .int .i64 0, .int .i64 0] 37)) := ldM_of ⟨4, s, i, g, ⟨0, 0, 0, 0, 0, 0, 0, 0, 0, 0, 0⟩, 2⟩ fun q u hq => by rw [kv, List.getElem?_toArray]; exact at48 (a := ⟨2, s, i, g, ⟨0, 0, 0, 0, 0, 0, 0, 0, 0, 0, 0⟩, 0⟩) (b := ⟨4, s, i, g, ⟨0, 0, 0, 0, 0, 0, 0, 0, 0, 0, 0⟩, 2⟩) (c := ⟨3, s, i, g, ⟨0, 0, 0, 2, 0, 0, 0, 0, 0, 0, 0⟩, 0⟩) 1 hq (by omega)
          obtain ⟨w5, hs5, hm5⟩ := new_cmO (wo.alloc (.cells #[.int .i64 2, .int .i64 s, .int .i64 i, .int .i64 g, .int .i64 0, .int .i64 0, .int .i64 0, .int .i64 0, .int .i64 0, .int .i64 0, .int .i64 0, .int .i64 0, .int .i64 0, .int .i64 0, .int .i64 0, .int .i64 0, .int .i64 4, .int .i64 s, .int .i64 i, .int .i64 g, .int .i64 0, .int .i64 0, .int .i64 0, .int .i64 0, .int .i64 0, .int .i64 0, .int .i64 0, .int .i64 0, .int .i64 0, .int .i64 0, .int .i64 0, .int .i64 2, .int .i64 3, .int .i64 s, .int .i64 i, .int .i64 g, .int .i64 0, .int .i64 0, .int .i64 0, .int .i64 2, .int .i64 0, .int .i64 0, .int .i64 0, .int .i64 0, .int .i64 0, .int .i64 0, .int .i64 0, .int .i64 0] 37)) ⟨4, s, i, g, ⟨0, 0, 0, 0, 0, 0, 0, 0, 0, 0, 0⟩, 2⟩
          have hbx5 := ((Own.nil _).made hm5).box
          rw [World.size_alloc] at hs5 hbx5
          have hst5 : (stM ⟨wo.heap.size + 1, 0, none⟩ (.agg #[.int .i64 4, .int .i64 s, .int .i64 i, .int .i64 g, .int .i64 0, .int .i64 0, .int .i64 0, .int .i64 0, .int .i64 0, .int .i64 0, .int .i64 0, .int .i64 0, .int .i64 0, .int .i64 0, .int .i64 0, .int .i64 2])).run Try.prog ((wo.alloc (.cells #[.int .i64 2, .int .i64 s, .int .i64 i, .int .i64 g, .int .i64 0, .int .i64 0, .int .i64 0, .int .i64 0, .int .i64 0, .int .i64 0, .int .i64 0, .int .i64 0, .int .i64 0, .int .i64 0, .int .i64 0, .int .i64 0, .int .i64 4, .int .i64 s, .int .i64 i, .int .i64 g, .int .i64 0, .int .i64 0, .int .i64 0, .int .i64 0, .int .i64 0, .int .i64 0, .int .i64 0, .int .i64 0, .int .i64 0, .int .i64 0, .int .i64 0, .int .i64 2, .int .i64 3, .int .i64 s, .int .i64 i, .int .i64 g, .int .i64 0, .int .i64 0, .int .i64 0, .int .i64 2, .int .i64 0, .int .i64 0, .int .i64 0, .int .i64 0, .int .i64 0, .int .i64 0, .int .i64 0, .int .i64 0] 37)).alloc (.cells #[.int .i64 0, .int .i64 0, .int .i64 0, .int .i64 0, .int .i64 0, .int .i64 0, .int .i64 0, .int .i64 0, .int .i64 0, .int .i64 0, .int .i64 0, .int .i64 0, .int .i64 0, .int .i64 0, .int .i64 0, .int .i64 0] 37)) = .ok () w5 := hs5
          have hb5 : Below wo.heap.size wo w5 := bv.trans (Below.mono (B := (wo.alloc (.cells #[.int .i64 2, .int .i64 s, .int .i64 i, .int .i64 g, .int .i64 0, .int .i64 0, .int .i64 0, .int .i64 0, .int .i64 0, .int .i64 0, .int .i64 0, .int .i64 0, .int .i64 0, .int .i64 0, .int .i64 0, .int .i64 0, .int .i64 4, .int .i64 s, .int .i64 i, .int .i64 g, .int .i64 0, .int .i64 0, .int .i64 0, .int .i64 0, .int .i64 0, .int .i64 0, .int .i64 0, .int .i64 0, .int .i64 0, .int .i64 0, .int .i64 0, .int .i64 2, .int .i64 3, .int .i64 s, .int .i64 i, .int .i64 g, .int .i64 0, .int .i64 0, .int .i64 0, .int .i64 2, .int .i64 0, .int .i64 0, .int .i64 0, .int .i64 0, .int .i64 0, .int .i64 0, .int .i64 0, .int .i64 0] 37)).heap.size) (by obtain ⟨_, _, h, _⟩ := hm5; exact h) bv.size)
          have hld5 : (ldM ⟨wo.heap.size + 1, 0, none⟩).run Try.prog w5 = .ok (.agg #[.int .i64 4, .int .i64 s, .int .i64 i, .int .i64 g, .int .i64 0, .int .i64 0, .int .i64 0, .int .i64 0, .int .i64 0, .int .i64 0, .int .i64 0, .int .i64 0, .int .i64 0, .int .i64 0, .int .i64 0, .int .i64 2]) w5 := ldM_of ⟨4, s, i, g, ⟨0, 0, 0, 0, 0, 0, 0, 0, 0, 0, 0⟩, 2⟩ fun q u hq => by rw [Nat.zero_add, hbx5.1, List.getElem?_toArray]; exact hq
          have HX5 := Lib.hid hbx5
          have HB5 := Lib.hid hb5
          clear kv gv lv bv hs5 hm5 hbx5 hb5 hcb hla
          go_wp2_with fail
          refine (HLK1.out _ (HB3.out.trans (Below.mono (B := W3.heap.size) (HB4.out.trans (Below.mono (B := W4.heap.size) (hB.out.trans (Below.mono (B := wo.heap.size) HB5.out hB.out.size)) HB4.out.size)) HB3.out.size))).mono ?_
          rintro e V1 ⟨rfl, hb1⟩
          obtain ⟨w6, hs6, hm6⟩ := new_cmO V1 ⟨uk, us, ui, ug, ⟨ues, uei, ueg, um, ux, uy, uvx, uvy, uhp, upw, ulf⟩, umask⟩
          have hst6 : (stM ⟨V1.heap.size, 0, none⟩ (.agg #[.int .i64 uk, .int .i64 us, .int .i64 ui, .int .i64 ug, .int .i64 ues, .int .i64 uei, .int .i64 ueg, .int .i64 um, .int .i64 ux, .int .i64 uy, .int .i64 uvx, .int .i64 uvy, .int .i64 uhp, .int .i64 upw, .int .i64 ulf, .int .i64 umask])).run Try.prog (V1.alloc (.cells #[.int .i64 0, .int .i64 0, .int .i64 0, .int .i64 0, .int .i64 0, .int .i64 0, .int .i64 0, .int .i64 0, .int .i64 0, .int .i64 0, .int .i64 0, .int .i64 0, .int .i64 0, .int .i64 0, .int .i64 0, .int .i64 0] 37)) = .ok () w6 := hs6
          have hb6 : Below w5.heap.size w5 w6 := hb1.trans (Below.mono (B := V1.heap.size) (by obtain ⟨_, _, h, _⟩ := hm6; exact h) hb1.size)
          have hld6 : (ldM ⟨wo.heap.size + 1, 0, none⟩).run Try.prog w6 = .ok (.agg #[.int .i64 4, .int .i64 s, .int .i64 i, .int .i64 g, .int .i64 0, .int .i64 0, .int .i64 0, .int .i64 0, .int .i64 0, .int .i64 0, .int .i64 0, .int .i64 0, .int .i64 0, .int .i64 0, .int .i64 0, .int .i64 2]) w6 := ldM_of ⟨4, s, i, g, ⟨0, 0, 0, 0, 0, 0, 0, 0, 0, 0, 0⟩, 2⟩ fun q u hq => by rw [Nat.zero_add, hb6.cell (p := ⟨wo.heap.size + 1, q, none⟩) HX5.out.2.2.1, HX5.out.1, List.getElem?_toArray]; exact hq
          have HB6 := Lib.hid (HB5.out.trans (Below.mono (B := w5.heap.size) hb6 HB5.out.size))
          clear hs6 hm6 hb1 hb6 hst5 hld hld5 HX5 HB5 HLK1 u0 u1 u2 l9
          go_upto_region 14 with fail
          clear hst6
          cases cb with
          | false =>
            obtain rfl : er = 1 := hlk
            go_wp2_with (go_at_call 23; refine (HMC.out _).mono ?_; rintro e w' ⟨rfl, hb⟩; obtain ⟨d, os, rfl⟩ := more_of hb; clear hb)
            go_roundw
            case rel => exact ⟨2, by go_num, by omega, Lib.hid (hB.out.trans (Below.mono (B := wo.heap.size) (HB6.out.trans (Below.mono (B := w6.heap.size) (by repeat' (first | (with_reducible exact Below.refl _ _) | (with_reducible assumption) | (with_reducible refine below_drewN ?_ _) | (with_reducible refine below_more _ _ _ ?_ ?_) | (with_reducible refine Below.alloc ?_ ?_ _) | (with_reducible refine Below.drew ?_) | (with_reducible refine Below.setCell ?_ ?_ _) | go_size)) HB6.out.size)) hB.out.size))⟩
            case measure => simp [intOf]
          | true =>
            cases al with
            | false =>
              obtain rfl : er = 9 := hlk
              go_wp2_with (go_at_call 23; refine (HMC.out _).mono ?_; rintro e w' ⟨rfl, hb⟩; obtain ⟨d, os, rfl⟩ := more_of hb; clear hb)
              go_roundw
              case rel => exact ⟨2, by go_num, by omega, Lib.hid (hB.out.trans (Below.mono (B := wo.heap.size) (HB6.out.trans (Below.mono (B := w6.heap.size) (by repeat' (first | (with_reducible exact Below.refl _ _) | (with_reducible assumption) | (with_reducible refine below_drewN ?_ _) | (with_reducible refine below_more _ _ _ ?_ ?_) | (with_reducible refine Below.alloc ?_ ?_ _) | (with_reducible refine Below.drew ?_) | (with_reducible refine Below.setCell ?_ ?_ _) | go_size)) HB6.out.size)) hB.out.size))⟩
              case measure => simp [intOf]
            | true =>
              cases en with
              | true =>
                obtain rfl : er = 10 := hlk
                go_wp2_with (go_at_call 23; refine (HMC.out _).mono ?_; rintro e w' ⟨rfl, hb⟩; obtain ⟨d, os, rfl⟩ := more_of hb; clear hb)
                go_roundw
                case rel => exact ⟨2, by go_num, by omega, Lib.hid (hB.out.trans (Below.mono (B := wo.heap.size) (HB6.out.trans (Below.mono (B := w6.heap.size) (by repeat' (first | (with_reducible exact Below.refl _ _) | (with_reducible assumption) | (with_reducible refine below_drewN ?_ _) | (with_reducible refine below_more _ _ _ ?_ ?_) | (with_reducible refine Below.alloc ?_ ?_ _) | (with_reducible refine Below.drew ?_) | (with_reducible refine Below.setCell ?_ ?_ _) | go_size)) HB6.out.size)) hB.out.size))⟩
                case measure => simp [intOf]
              | false =>
                cases fu with
                | true =>
                  obtain rfl : er = 8 := hlk
                  go_wp2_with (go_at_call 23; refine (HMC.out _).mono ?_; rintro e w' ⟨rfl, hb⟩; obtain ⟨d, os, rfl⟩ := more_of hb; clear hb)
                  go_roundw
                  case rel => exact ⟨2, by go_num, by omega, Lib.hid (hB.out.trans (Below.mono (B := wo.heap.size) (HB6.out.trans (Below.mono (B := w6.heap.size) (by repeat' (first | (with_reducible exact Below.refl _ _) | (with_reducible assumption) | (with_reducible refine below_drewN ?_ _) | (with_reducible refine below_more _ _ _ ?_ ?_) | (with_reducible refine Below.alloc ?_ ?_ _) | (with_reducible refine Below.drew ?_) | (with_reducible refine Below.setCell ?_ ?_ _) | go_size)) HB6.out.size)) hB.out.size))⟩
                  case measure => simp [intOf]
                | false =>
                  obtain rfl : er = 0 := hlk
                  go_wp2_with (go_at_call 23; refine (HMC.out _).mono ?_; rintro e w' ⟨rfl, hb⟩; obtain ⟨d, os, rfl⟩ := more_of hb; clear hb)
                  go_roundw
                  case rel => exact ⟨2, by go_num, by omega, Lib.hid (hB.out.trans (Below.mono (B := wo.heap.size) (HB6.out.trans (Below.mono (B := w6.heap.size) (by repeat' (first | (with_reducible exact Below.refl _ _) | (with_reducible assumption) | (with_reducible refine below_drewN ?_ _) | (with_reducible refine below_more _ _ _ ?_ ?_) | (with_reducible refine Below.alloc ?_ ?_ _) | (with_reducible refine Below.drew ?_) | (with_reducible refine Below.setCell ?_ ?_ _) | go_size)) HB6.out.size)) hB.out.size))⟩
                  case measure => simp [intOf]
        · have hlk := look_want cm D ⟨3, s, i, g, ⟨0, 0, 0, 2, 0, 0, 0, 0, 0, 0, 0⟩, 0⟩ (by simp)
          have HMC := Lib.hid (fun W => rMayCmd_m ⟨3, s, i, g, ⟨0, 0, 0, 2, 0, 0, 0, 0, 0, 0, 0⟩, 0⟩ W (by simp only; omega))
          simp only [hal, hen, HFU.out] at hlk
          have hla : ∃ a must er, lookF cm D ⟨3, s, i, g, ⟨0, 0, 0, 2, 0, 0, 0, 0, 0, 0, 0⟩, 0⟩ = (a, must, er) := ⟨_, _, _, rfl⟩
          obtain ⟨⟨uk, us, ui, ug, ⟨ues, uei, ueg, um, ux, uy, uvx, uvy, uhp, upw, ulf⟩, umask⟩, must, er, hla⟩ := hla
          have HLK1 : Hid (∀ W, Below w2.heap.size w2 W → Calls Try.prog 13 #[.pointer (some ⟨p, 0, none⟩), .agg #[.int .i64 3, .int .i64 s, .int .i64 i, .int .i64 g, .int .i64 0, .int .i64 0, .int .i64 0, .int .i64 2, .int .i64 0, .int .i64 0, .int .i64 0, .int .i64 0, .int .i64 0, .int .i64 0, .int .i64 0, .int .i64 0]] W fun e w' => e = .returned (.tuple #[.agg #[.int .i64 uk, .int .i64 us, .int .i64 ui, .int .i64 ug, .int .i64 ues, .int .i64 uei, .int .i64 ueg, .int .i64 um, .int .i64 ux, .int .i64 uy, .int .i64 uvx, .int .i64 uvy, .int .i64 uhp, .int .i64 upw, .int .i64 ulf, .int .i64 umask], .bool must, .int .i64 er]) ∧ Below W.heap.size W w') := Lib.hid (fun W hW => by have := HLK.out W hW ⟨3, s, i, g, ⟨0, 0, 0, 2, 0, 0, 0, 0, 0, 0, 0⟩, 0⟩; rw [hla] at this; exact this)
          rw [hla] at hlk
          simp only at hlk
          generalize hcb : cmdB ⟨3, s, i, g, ⟨0, 0, 0, 2, 0, 0, 0, 0, 0, 0, 0⟩, 0⟩ = cb at *
          obtain ⟨kv, gv, lv, bv⟩ := new_box wo #[.int .i64 2, .int .i64 s, .int .i64 i, .int .i64 g, .int .i64 0, .int .i64 0, .int .i64 0, .int .i64 0, .int .i64 0, .int .i64 0, .int .i64 0, .int .i64 0, .int .i64 0, .int .i64 0, .int .i64 0, .int .i64 0, .int .i64 4, .int .i64 s, .int .i64 i, .int .i64 g, .int .i64 0, .int .i64 0, .int .i64 0, .int .i64 0, .int .i64 0, .int .i64 0, .int .i64 0, .int .i64 0, .int .i64 0, .int .i64 0, .int .i64 0, .int .i64 2, .int .i64 3, .int .i64 s, .int .i64 i, .int .i64 g, .int .i64 0, .int .i64 0, .int .i64 0, .int .i64 2, .int .i64 0, .int .i64 0, .int .i64 0, .int .i64 0, .int .i64 0, .int .i64 0, .int .i64 0, .int .i64 0] 37 wo.heap.size rfl
          have hld : (ldM ⟨wo.heap.size, 32, none⟩).run Try.prog (wo.alloc (.cells #[.int .i64 2, .int .i64 s, .int .i64 i, .int .i64 g, .int .i64 0, .int .i64 0, .int .i64 0, .int .i64 0, .int .i64 0, .int .i64 0, .int .i64 0, .int .i64 0, .int .i64 0, .int .i64 0, .int .i64 0, .int .i64 0, .int .i64 4, .int .i64 s, .int .i64 i, .int .i64 g, .int .i64 0, .int .i64 0, .int .i64 0, .int .i64 0, .int .i64 0, .int .i64 0, .int .i64 0, .int .i64 0, .int .i64 0, .int .i64 0, .int .i64 0, .int .i64 2, .int .i64 3, .int .i64 s, .int .i64 i, .int .i64 g, .int .i64 0, .int .i64 0, .int .i64 0, .int .i64 2, .int .i64 0, .int .i64 0, .int .i64 0, .int .i64 0, .int .i64 0, .int .i64 0, .int .i64 0, .int .i64 0] 37)) = .ok (.agg #[.int .i64 3, .int .i64 s, .int .i64 i, .int .i64 g, .int .i64 0, .int .i64 0, .int .i64 0, .int .i64 2, .int .i64 0, .int .i64 0, .int .i64 0, .int .i64 0, .int .i64 0, .int .i64 0, .int .i64 0, .int .i64 0]) (wo.alloc (.cells #[.int .i64 2, .int .i64 s, .int .i64 i, .int .i64 g, .int .i64 0, .int .i64 0, .int .i64 0, .int .i64 0, .int .i64 0, .int .i64 0, .int .i64 0, .int .i64 0, .int .i64 0, .int .i64 0, .int .i64 0, .int .i64 0, .int .i64 4, .int .i64 s, .int .i64 i, .int .i64 g, .int .i64 0, .int .i64 0, .int .i64 0, .int .i64 0, .int .i64 0, .int .i64 0, .int .i64 0, .int .i64 0, .int .i64 0, .int .i64 0, .int .i64 0, .int .i64 2, .int .i64 3, .int .i64 s, .int .i64 i, .int .i64 g, .int .i64 0, .int .i64 0, .int .i64 0, .int .i64 2, .int .i64 0, .int .i64 0, .int .i64 0, .int .i64 0, .int .i64 0, .int .i64 0, .int .i64 0, .int .i64 0] 37)) := ldM_of ⟨3, s, i, g, ⟨0, 0, 0, 2, 0, 0, 0, 0, 0, 0, 0⟩, 0⟩ fun q u hq => by rw [kv, List.getElem?_toArray]; exact at48 (a := ⟨2, s, i, g, ⟨0, 0, 0, 0, 0, 0, 0, 0, 0, 0, 0⟩, 0⟩) (b := ⟨4, s, i, g, ⟨0, 0, 0, 0, 0, 0, 0, 0, 0, 0, 0⟩, 2⟩) (c := ⟨3, s, i, g, ⟨0, 0, 0, 2, 0, 0, 0, 0, 0, 0, 0⟩, 0⟩) 2 hq (by omega)
          obtain ⟨w5, hs5, hm5⟩ := new_cmO (wo.alloc (.cells #[.int .i64 2, .int .i64 s, .int .i64 i, .int .i64 g, .int .i64 0, .int .i64 0, .int .i64 0, .int .i64 0, .int .i64 0, .int .i64 0, .int .i64 0, .int .i64 0, .int .i64 0, .int .i64 0, .int .i64 0, .int .i64 0, .int .i64 4, .int .i64 s, .int .i64 i, .int .i64 g, .int .i64 0, .int .i64 0, .int .i64 0, .int .i64 0, .int .i64 0, .int .i64 0, .int .i64 0, .int .i64 0, .int .i64 0, .int .i64 0, .int .i64 0, .int .i64 2, .int .i64 3, .int .i64 s, .int .i64 i, .int .i64 g, .int .i64 0, .int .i64 0, .int .i64 0, .int .i64 2, .int .i64 0, .int .i64 0, .int .i64 0, .int .i64 0, .int .i64 0, .int .i64 0, .int .i64 0, .int .i64 0] 37)) ⟨3, s, i, g, ⟨0, 0, 0, 2, 0, 0, 0, 0, 0, 0, 0⟩, 0⟩
          have hbx5 := ((Own.nil _).made hm5).box
          rw [World.size_alloc] at hs5 hbx5
          have hst5 : (stM ⟨wo.heap.size + 1, 0, none⟩ (.agg #[.int .i64 3, .int .i64 s, .int .i64 i, .int .i64 g, .int .i64 0, .int .i64 0, .int .i64 0, .int .i64 2, .int .i64 0, .int .i64 0, .int .i64 0, .int .i64 0, .int .i64 0, .int .i64 0, .int .i64 0, .int .i64 0])).run Try.prog ((wo.alloc (.cells #[.int .i64 2, .int .i64 s, .int .i64 i, .int .i64 g, .int .i64 0, .int .i64 0, .int .i64 0, .int .i64 0, .int .i64 0, .int .i64 0, .int .i64 0, .int .i64 0, .int .i64 0, .int .i64 0, .int .i64 0, .int .i64 0, .int .i64 4, .int .i64 s, .int .i64 i, .int .i64 g, .int .i64 0, .int .i64 0, .int .i64 0, .int .i64 0, .int .i64 0, .int .i64 0, .int .i64 0, .int .i64 0, .int .i64 0, .int .i64 0, .int .i64 0, .int .i64 2, .int .i64 3, .int .i64 s, .int .i64 i, .int .i64 g, .int .i64 0, .int .i64 0, .int .i64 0, .int .i64 2, .int .i64 0, .int .i64 0, .int .i64 0, .int .i64 0, .int .i64 0, .int .i64 0, .int .i64 0, .int .i64 0] 37)).alloc (.cells #[.int .i64 0, .int .i64 0, .int .i64 0, .int .i64 0, .int .i64 0, .int .i64 0, .int .i64 0, .int .i64 0, .int .i64 0, .int .i64 0, .int .i64 0, .int .i64 0, .int .i64 0, .int .i64 0, .int .i64 0, .int .i64 0] 37)) = .ok () w5 := hs5
          have hb5 : Below wo.heap.size wo w5 := bv.trans (Below.mono (B := (wo.alloc (.cells #[.int .i64 2, .int .i64 s, .int .i64 i, .int .i64 g, .int .i64 0, .int .i64 0, .int .i64 0, .int .i64 0, .int .i64 0, .int .i64 0, .int .i64 0, .int .i64 0, .int .i64 0, .int .i64 0, .int .i64 0, .int .i64 0, .int .i64 4, .int .i64 s, .int .i64 i, .int .i64 g, .int .i64 0, .int .i64 0, .int .i64 0, .int .i64 0, .int .i64 0, .int .i64 0, .int .i64 0, .int .i64 0, .int .i64 0, .int .i64 0, .int .i64 0, .int .i64 2, .int .i64 3, .int .i64 s, .int .i64 i, .int .i64 g, .int .i64 0, .int .i64 0, .int .i64 0, .int .i64 2, .int .i64 0, .int .i64 0, .int .i64 0, .int .i64 0, .int .i64 0, .int .i64 0, .int .i64 0, .int .i64 0] 37)).heap.size) (by obtain ⟨_, _, h, _⟩ := hm5; exact h) bv.size)
          have hld5 : (ldM ⟨wo.heap.size + 1, 0, none⟩).run Try.prog w5 = .ok (.agg #[.int .i64 3, .int .i64 s, .int .i64 i, .int .i64 g, .int .i64 0, .int .i64 0, .int .i64 0, .int .i64 2, .int .i64 0, .int .i64 0, .int .i64 0, .int .i64 0, .int .i64 0, .int .i64 0, .int .i64 0, .int .i64 0]) w5 := ldM_of ⟨3, s, i, g, ⟨0, 0, 0, 2, 0, 0, 0, 0, 0, 0, 0⟩, 0⟩ fun q u hq => by rw [Nat.zero_add, hbx5.1, List.getElem?_toArray]; exact hq
          have HX5 := Lib.hid hbx5
          have HB5 := Lib.hid hb5
          clear kv gv lv bv hs5 hm5 hbx5 hb5 hcb hla
          go_wp2_with fail
          refine (HLK1.out _ (HB3.out.trans (Below.mono (B := W3.heap.size) (HB4.out.trans (Below.mono (B := W4.heap.size) (hB.out.trans (Below.mono (B := wo.heap.size) HB5.out hB.out.size)) HB4.out.size)) HB3.out.size))).mono ?_
          rintro e V1 ⟨rfl, hb1⟩
          obtain ⟨w6, hs6, hm6⟩ := new_cmO V1 ⟨uk, us, ui, ug, ⟨ues, uei, ueg, um, ux, uy, uvx, uvy, uhp, upw, ulf⟩, umask⟩
          have hst6 : (stM ⟨V1.heap.size, 0, none⟩ (.agg #[.int .i64 uk, .int .i64 us, .int .i64 ui, .int .i64 ug, .int .i64 ues, .int .i64 uei, .int .i64 ueg, .int .i64 um, .int .i64 ux, .int .i64 uy, .int .i64 uvx, .int .i64 uvy, .int .i64 uhp, .int .i64 upw, .int .i64 ulf, .int .i64 umask])).run Try.prog (V1.alloc (.cells #[.int .i64 0, .int .i64 0, .int .i64 0, .int .i64 0, .int .i64 0, .int .i64 0, .int .i64 0, .int .i64 0, .int .i64 0, .int .i64 0, .int .i64 0, .int .i64 0, .int .i64 0, .int .i64 0, .int .i64 0, .int .i64 0] 37)) = .ok () w6 := hs6
          have hb6 : Below w5.heap.size w5 w6 := hb1.trans (Below.mono (B := V1.heap.size) (by obtain ⟨_, _, h, _⟩ := hm6; exact h) hb1.size)
          have hld6 : (ldM ⟨wo.heap.size + 1, 0, none⟩).run Try.prog w6 = .ok (.agg #[.int .i64 3, .int .i64 s, .int .i64 i, .int .i64 g, .int .i64 0, .int .i64 0, .int .i64 0, .int .i64 2, .int .i64 0, .int .i64 0, .int .i64 0, .int .i64 0, .int .i64 0, .int .i64 0, .int .i64 0, .int .i64 0]) w6 := ldM_of ⟨3, s, i, g, ⟨0, 0, 0, 2, 0, 0, 0, 0, 0, 0, 0⟩, 0⟩ fun q u hq => by rw [Nat.zero_add, hb6.cell (p := ⟨wo.heap.size + 1, q, none⟩) HX5.out.2.2.1, HX5.out.1, List.getElem?_toArray]; exact hq
          have HB6 := Lib.hid (HB5.out.trans (Below.mono (B := w5.heap.size) hb6 HB5.out.size))
          clear hs6 hm6 hb1 hb6 hst5 hld hld5 HX5 HB5 HLK1 u0 u1 u2 l9
          go_upto_region 14 with fail
          clear hst6
          cases cb with
          | false =>
            obtain rfl : er = 1 := hlk
            go_wp2_with (go_at_call 23; refine (HMC.out _).mono ?_; rintro e w' ⟨rfl, hb⟩; obtain ⟨d, os, rfl⟩ := more_of hb; clear hb)
            go_roundw
            case rel => exact ⟨3, by go_num, by omega, Lib.hid (hB.out.trans (Below.mono (B := wo.heap.size) (HB6.out.trans (Below.mono (B := w6.heap.size) (by repeat' (first | (with_reducible exact Below.refl _ _) | (with_reducible assumption) | (with_reducible refine below_drewN ?_ _) | (with_reducible refine below_more _ _ _ ?_ ?_) | (with_reducible refine Below.alloc ?_ ?_ _) | (with_reducible refine Below.drew ?_) | (with_reducible refine Below.setCell ?_ ?_ _) | go_size)) HB6.out.size)) hB.out.size))⟩
            case measure => simp [intOf]
          | true =>
            cases al with
            | false =>
              obtain rfl : er = 9 := hlk
              go_wp2_with (go_at_call 23; refine (HMC.out _).mono ?_; rintro e w' ⟨rfl, hb⟩; obtain ⟨d, os, rfl⟩ := more_of hb; clear hb)
              go_roundw
              case rel => exact ⟨3, by go_num, by omega, Lib.hid (hB.out.trans (Below.mono (B := wo.heap.size) (HB6.out.trans (Below.mono (B := w6.heap.size) (by repeat' (first | (with_reducible exact Below.refl _ _) | (with_reducible assumption) | (with_reducible refine below_drewN ?_ _) | (with_reducible refine below_more _ _ _ ?_ ?_) | (with_reducible refine Below.alloc ?_ ?_ _) | (with_reducible refine Below.drew ?_) | (with_reducible refine Below.setCell ?_ ?_ _) | go_size)) HB6.out.size)) hB.out.size))⟩
              case measure => simp [intOf]
            | true =>
              cases en with
              | true =>
                obtain rfl : er = 10 := hlk
                go_wp2_with (go_at_call 23; refine (HMC.out _).mono ?_; rintro e w' ⟨rfl, hb⟩; obtain ⟨d, os, rfl⟩ := more_of hb; clear hb)
                go_roundw
                case rel => exact ⟨3, by go_num, by omega, Lib.hid (hB.out.trans (Below.mono (B := wo.heap.size) (HB6.out.trans (Below.mono (B := w6.heap.size) (by repeat' (first | (with_reducible exact Below.refl _ _) | (with_reducible assumption) | (with_reducible refine below_drewN ?_ _) | (with_reducible refine below_more _ _ _ ?_ ?_) | (with_reducible refine Below.alloc ?_ ?_ _) | (with_reducible refine Below.drew ?_) | (with_reducible refine Below.setCell ?_ ?_ _) | go_size)) HB6.out.size)) hB.out.size))⟩
                case measure => simp [intOf]
              | false =>
                cases fu with
                | true =>
                  obtain rfl : er = 8 := hlk
                  go_wp2_with (go_at_call 23; refine (HMC.out _).mono ?_; rintro e w' ⟨rfl, hb⟩; obtain ⟨d, os, rfl⟩ := more_of hb; clear hb)
                  go_roundw
                  case rel => exact ⟨3, by go_num, by omega, Lib.hid (hB.out.trans (Below.mono (B := wo.heap.size) (HB6.out.trans (Below.mono (B := w6.heap.size) (by repeat' (first | (with_reducible exact Below.refl _ _) | (with_reducible assumption) | (with_reducible refine below_drewN ?_ _) | (with_reducible refine below_more _ _ _ ?_ ?_) | (with_reducible refine Below.alloc ?_ ?_ _) | (with_reducible refine Below.drew ?_) | (with_reducible refine Below.setCell ?_ ?_ _) | go_size)) HB6.out.size)) hB.out.size))⟩
                  case measure => simp [intOf]
                | false =>
                  obtain rfl : er = 0 := hlk
                  go_wp2_with (go_at_call 23; refine (HMC.out _).mono ?_; rintro e w' ⟨rfl, hb⟩; obtain ⟨d, os, rfl⟩ := more_of hb; clear hb)
                  go_roundw
                  case rel => exact ⟨3, by go_num, by omega, Lib.hid (hB.out.trans (Below.mono (B := wo.heap.size) (HB6.out.trans (Below.mono (B := w6.heap.size) (by repeat' (first | (with_reducible exact Below.refl _ _) | (with_reducible assumption) | (with_reducible refine below_drewN ?_ _) | (with_reducible refine below_more _ _ _ ?_ ?_) | (with_reducible refine Below.alloc ?_ ?_ _) | (with_reducible refine Below.drew ?_) | (with_reducible refine Below.setCell ?_ ?_ _) | go_size)) HB6.out.size)) hB.out.size))⟩
                  case measure => simp [intOf]
        · go_wp2_with (go_at_call 20; refine (awake16 _).mono ?_; rintro e w' ⟨rfl, hb⟩; obtain ⟨d, os, rfl⟩ := more_of hb; clear hb)
          go_ret
          exact ⟨rfl, HW3.out.trans (Below.mono (B := W3.heap.size) (HB4.out.trans (Below.mono (B := W4.heap.size) (hB.out.trans (Below.mono (B := wo.heap.size) (by repeat' (first | (with_reducible exact Below.refl _ _) | (with_reducible assumption) | (with_reducible refine below_drewN ?_ _) | (with_reducible refine below_more _ _ _ ?_ ?_) | (with_reducible refine Below.alloc ?_ ?_ _) | (with_reducible refine Below.drew ?_) | (with_reducible refine Below.setCell ?_ ?_ _) | go_size)) hB.out.size)) HB4.out.size)) HW3.out.size)⟩
set_option maxRecDepth 100000 in
theorem lifted (os : Os) (started : os.Started) (H : Type) (enc : TypeId × Value → H) :
    ReturnsInHanded {} Try.checked os 4 .any (Rows.deskStaleSpec.pre6 enc Try.prog Try.f4 Rows.deskStaleRow.domain false) (Rows.deskStaleSpec.post enc Try.prog Try.f4 false true false false) := by
  refine returnsInHanded_of_change (C := Try.checked) ownKnob0 started (by kernel_rfl) Try.func4
    (ChangeSpec.witness6 (enc := enc) (C := Try.checked) false ⟨#[], #[.agg #[.int .i64 0, .int .i64 0, .int .i64 0, .int .i64 0, .int .i64 0, .int .i64 0, .int .i64 0], .slice none 0 0, .agg #[.int .i64 0, .int .i64 0, .int .i64 0]], []⟩ 8 (by kernel_rfl) (by kernel_rfl) (by kernel_rfl) (by kernel_rfl)) ?_
  intro W base args ds gs before hval0 hW _ _
  have hval : ∀ (j : Nat) t v, Try.f4.params[j]? = some t → args[j]? = some v → Value.okWide Try.prog W .any base t v := hval0
  have hread : ∀ t ∈ Try.f4.params.toList, Try.prog.readableRec t = true ∧ t < Try.prog.types.size := by
    rw [Try.params4]
    intro t ht
    simp only [List.mem_cons, List.not_mem_nil, or_false] at ht
    rcases ht with rfl | rfl | rfl
    all_goals exact ⟨by kernel_rfl, of_decide_eq_true (by kernel_rfl)⟩
  have hW' := hW
  obtain ⟨p, q, hA0, hV, -, -⟩ := hW'
  have hA : DataW.TrodAll enc Try.prog W 0 (fun _ => true) true Try.f4.params.toList args.toList ds p := hA0
  rw [Try.params4] at hA hval
  obtain ⟨v0, vs0, d0, ds0, p0, q0, hargs, rfl, rfl, h0, r0⟩ := trodAll_cons hA
  obtain ⟨v1, vs1, d1, ds1, p1, q1, rfl, rfl, rfl, h1, r1⟩ := trodAll_cons r0
  obtain ⟨v2, vs2, d2, ds2, p2, q2, rfl, rfl, rfl, h2, r2⟩ := trodAll_cons r1
  obtain ⟨rfl, rfl, rfl⟩ := trodAll_nil r2
  obtain rfl : args = #[v0, v1, v2] := by cases args; simp_all
  obtain ⟨rfl, rfl⟩ := trodVars_none hV
  have k0 := hval 0 23 v0 rfl rfl
  have k1 := hval 1 24 v1 rfl rfl
  have k2 := hval 2 33 v2 rfl rfl
  clear hval hval0 hA0 hV hA
  obtain ⟨c0, fuel0, rfl, g0⟩ := agg_of Try.underlying23 k0 h0
  obtain ⟨acols, arows, aside, aradius, aspeed, aids, aqueue, rfl⟩ := read_cfg g0
  obtain ⟨zs, hz, hd⟩ := deeds_in k1 h1
  obtain ⟨c2, fuel2, rfl, g2⟩ := agg_of Try.underlying33 k2 h2
  obtain ⟨s2, i2, n2, rfl, _⟩ := read_id g2
  exact (walk _ _ _ _ _ _ _ _ _ _ _ zs W hz hd).mono fun e W' ⟨he, hb⟩ => ⟨_, he, post_true rfl rfl hread rfl hW hb⟩

/-- DeskStale: true for every input; the arguments stay. -/
theorem proved : Rows.DeskStaleSaid :=
  OpenClaim.holds_of_wide 4 Try.f4 rfl rfl rfl rfl rfl rfl rfl ⟨rfl, rfl, rfl, rfl, rfl⟩ rfl rfl rfl rfl rfl (by kernel_rfl) Try.func4 (by kernel_rfl)
    (of_decide_eq_true (by kernel_rfl)) (by unfold Func.isWrapper; first | (rw [if_pos (by decide +kernel)]; kernel_rfl) | (rw [if_neg (by decide +kernel)]; exact ⟨rfl, rfl⟩))
    (fun os started H enc _ => lifted os started H enc)
end Go.Proofs.Ytbghjklnlhoklaa.deskStale
