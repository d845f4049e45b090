/-
  Chapter texts QmV ShB: what the claim reaches of them. Conditions stand at each theorem.
-/
import Derived.Test.YtmkfjelpekkmmaaQ28
import Derived.Test.YtmkfjelpekkmmaaQ27
import Derived.Test.YtmkfjelpekkmmaaQ31
import Derived.Test.YtmkfjelpekkmmaaQ22
import Derived.Test.YtmkfjelpekkmmaaQ21
import Derived.Test.YtmkfjelpekkmmaaQ05
import Derived.Test.YtmkfjelpekkmmaaQ11
import Derived.Test.YtmkfjelpekkmmaaQ01
import Derived.Test.YtmkfjelpekkmmaaQ23
namespace Go.Proofs.Ytmkfjelpekkmmaa
open Go.RowKit Go.Sort

theorem gap_has (x0 y0 x1 y1 x y : Int) : (gapF x0 y0 x1 y1 x y == 0) = hasF x0 y0 x1 y1 x y := by
  unfold gapF hasF boxOk offF
  rw [Bool.eq_iff_iff]
  simp only [beq_iff_eq, decide_eq_true_eq, Bool.and_eq_true]
  generalize clampF x0 = a0
  generalize clampF x1 = a1
  generalize clampF y0 = b0
  generalize clampF y1 = b1
  generalize clampF x = cx
  generalize clampF y = cy
  split
  · omega
  · omega
set_option maxRecDepth 100000 in
set_option maxHeartbeats 2000000 in
theorem rof12_any (v : Value) (l : List Bun) (w : World) (qa qn : Int) (h : BIn w v l) (hl : l.length ≤ 1000000) (ha : I64 qa) (hm : ∀ b ∈ l, I64 b.m) :
    Calls Try.prog 31 #[v, .agg #[.int .i64 qa, .int .i64 qn]] w fun e w' => ∃ v', e = .returned v' ∧ BNew w w' v' (askF qa qn l) := by
  obtain ⟨i0, hi0, hz0, hz1, hz2⟩ := info_parts info_bunJ
  unfold askF
  obtain ⟨w1, hw1, hc, hb1, hf1, hs1⟩ := one_box w #[.int .i64 qa, .int .i64 qn] 23
  have H := Lib.hid (h.keep hb1)
  have HMM := Lib.hid hm
  obtain ⟨pl, cl, rfl, _⟩ := h
  have l1 : w.heap.size < w1.heap.size := by omega
  have HW1 := Lib.hid hw1
  have HB1 := Lib.hid hb1
  have HC := Lib.hid hc
  obtain ⟨f, hf⟩ : ∃ f : Bun → Bool, f = fun b => matchB qa qn b.m := ⟨_, rfl⟩
  rw [← hf]
  have HFD := Lib.hid (fun b => congrFun hf b)
  clear hw1 hb1 hc hf1 hs1 hm hf
  go_enter Try.func31, Try.ntmps31
  go_wp2_with fail
  rw [← HW1.out]
  go_loopg [5, 6] l.length (fun kx o sx wr => ∃ t : Nat, sx = .int .i64 t ∧ t ≤ l.length ∧ l.length - t ≤ kx ∧ Hid (BNew w1 wr o ((l.take t).filter f)) ∧ Hid (((l.take t).filter f).length ≤ t))
  case atStart => exact ⟨0, by go_num, by omega, by omega, Lib.hid (BNew.nil w1), Lib.hid (by simp)⟩
  case round =>
    obtain ⟨t, rfl, ht, hkx, HN, HNL⟩ := hrel
    obtain ⟨wa, rfl⟩ : ∃ wa : World, wa = wr := ⟨_, rfl⟩
    by_cases hlt : t < l.length
    · have t1 : (t : Int) < (l.length : Int) := by omega
      obtain ⟨b, hb⟩ : ∃ b, l[t]? = some b := ⟨_, List.getElem?_eq_getElem hlt⟩
      have hbl := HN.out.2.1
      obtain ⟨gb, ob, cb, hv, hgb, hcb⟩ := (H.out.keep hbl).cells hb
      simp only [Value.slice.injEq, true_and] at hv
      obtain ⟨rfl, rfl⟩ := hv
      have c0 := hcb 0 _ rfl; have c1 := hcb 1 _ rfl; have c2 := hcb 2 _ rfl; have c3 := hcb 3 _ rfl; have c4 := hcb 4 _ rfl; have c5 := hcb 5 _ rfl; have c6 := hcb 6 _ rfl; have c7 := hcb 7 _ rfl; have c8 := hcb 8 _ rfl; have c9 := hcb 9 _ rfl; have c10 := hcb 10 _ rfl
      simp only [Nat.add_zero] at c0
      have y0 := (hbl.cell (p := ⟨w.heap.size, 0, none⟩) l1).trans (HC.out 0)
      have y1 := (hbl.cell (p := ⟨w.heap.size, 1, none⟩) l1).trans (HC.out 1)
      simp at y0 y1
      have la := Nat.lt_of_lt_of_le l1 hbl.size
      have hstep : (l.take (t + 1)).filter f = (l.take t).filter f ++ if f b then [b] else [] := by
        rw [List.take_succ_eq_append_getElem hlt, List.filter_append, show l[t] = b from by have := List.getElem?_eq_getElem hlt; rw [hb] at this; exact (Option.some.inj this).symm]
        cases hh : f b <;> simp [hh]
      have HST := Lib.hid hstep
      have hal := HNL.out
      have HM := Lib.hid (fun W => rmatch_any qa qn b.m W ha (HMM.out b (List.mem_of_getElem? hb)))
      rw [← HFD.out b] at HM
      obtain ⟨po, co, hpo⟩ := sl_frm HN.out.1
      subst hpo
      obtain ⟨z0, z1, z2⟩ := ltz hgb
      obtain ⟨z3, z4, z5⟩ := ltz la
      clear hcb hb hstep HNL hbl
      generalize (l.take t).filter f = acc at *
      generalize f b = fb at *
      obtain ⟨s, i, g, m, x, y, vx, vy, hp, pw, lf⟩ := b
      cases fb with
      | false =>
        go_wp2_with fail
        refine wp_region_more (by kernel_rfl) (by kernel_rfl) ?_
        repeat (go_big_quiet_step ((first | (go_at_call 14; exact more_call (HM.out _)))))
        refine wpQuiet_nil ?_
        rintro _ ⟨pm, rfl⟩
        go_wp2_with fail
        go_roundg (l.length - (t + 1))
        case measure => omega
        case rel => exact ⟨t + 1, by go_num, by omega, by omega, Lib.hid (by rw [HST.out]; simpa using HN.out.grow (by repeat' (first | (with_reducible exact Below.refl _ _) | (with_reducible assumption) | (with_reducible refine below_drewN ?_ _) | (with_reducible refine below_more _ _ _ ?_ ?_) | (with_reducible refine Below.alloc ?_ ?_ _) | (with_reducible refine Below.drew ?_) | (with_reducible refine Below.setCell ?_ ?_ _) | go_size))), Lib.hid (by rw [HST.out]; simp; omega)⟩
      | true =>
        go_wp2_with fail
        refine wp_region_more (by kernel_rfl) (by kernel_rfl) ?_
        repeat (go_big_quiet_step ((first | (go_at_call 14; exact more_call (HM.out _)))))
        refine wpQuiet_nil ?_
        rintro _ ⟨pm, rfl⟩
        go_wp2_with (at_builtin; refine wpList_append_sl _ (by rfl) _ _ 29 (by rfl) 51 i0 _ 11 88 Try.underlying29 hi0 hz0 hz1 hz2 rfl (by omega) _ acc.length (bunCells acc) (by rfl) (HN.out.grow (by repeat' (first | (with_reducible exact Below.refl _ _) | (with_reducible assumption) | (with_reducible refine below_drewN ?_ _) | (with_reducible refine below_more _ _ _ ?_ ?_) | (with_reducible refine Below.alloc ?_ ?_ _) | (with_reducible refine Below.drew ?_) | (with_reducible refine Below.setCell ?_ ?_ _) | go_size))).1 ⟨_, 0, none⟩ 1 1 [.int .i64 s, .int .i64 i, .int .i64 g, .int .i64 m, .int .i64 x, .int .i64 y, .int .i64 vx, .int .i64 vy, .int .i64 hp, .int .i64 pw, .int .i64 lf] (by rfl) (by rfl) (new_cellsN _ _ _ _ (by simp)) (by simp [Value.oneCell']) (by omega) (by unfold maxLen; omega) (by omega) ?_; intro v' w4 hs4 ht4 ho4)
        have HF := Lib.hid ((HN.out.grow (w' := (more wa pm.d pm.os).alloc (.cells #[.int .i64 s, .int .i64 i, .int .i64 g, .int .i64 m, .int .i64 x, .int .i64 y, .int .i64 vx, .int .i64 vy, .int .i64 hp, .int .i64 pw, .int .i64 lf] 51)) (by repeat' (first | (with_reducible exact Below.refl _ _) | (with_reducible assumption) | (with_reducible refine below_drewN ?_ _) | (with_reducible refine below_more _ _ _ ?_ ?_) | (with_reducible refine Below.alloc ?_ ?_ _) | (with_reducible refine Below.drew ?_) | (with_reducible refine Below.setCell ?_ ?_ _) | go_size))).snoc (b := ⟨s, i, g, m, x, y, vx, vy, hp, pw, lf⟩) hs4 ht4 ho4)
        clear hs4 ht4 ho4
        go_wp2_with fail
        go_roundg (l.length - (t + 1))
        case measure => omega
        case rel => exact ⟨t + 1, by go_num, by omega, by omega, Lib.hid (by rw [HST.out]; exact HF.out), Lib.hid (by rw [HST.out]; simp; omega)⟩
    · obtain rfl : t = l.length := by omega
      have HF := Lib.hid HN.out
      rw [List.take_length] at HF
      have HSO := Lib.hid (rsorted_any _ (l.filter f) wa HF.out.bin (Nat.le_trans (List.length_filter_le _ _) hl))
      have HB2 := Lib.hid (HB1.out.trans (HF.out.2.1.mono HB1.out.size))
      obtain ⟨po, co, hpo⟩ := sl_frm HF.out.1
      subst hpo
      clear HN HNL HF
      go_wp2_with fail
      refine HSO.out.mono ?_
      rintro e w5 ⟨v5, rfl, hR⟩
      have HR := Lib.hid hR
      clear hR
      go_wp2_with fail
      go_ret
      exact ⟨_, rfl, HR.out.1, HB2.out.trans (HR.out.2.1.mono HB2.out.size), fun q hq => Nat.le_trans HB2.out.size (HR.out.2.2 q hq)⟩
set_option maxRecDepth 100000 in
set_option maxHeartbeats 2000000 in
theorem rwithin12_any (v : Value) (l : List Bun) (w : World) (qa qn x0 y0 x1 y1 : Int) (h : BIn w v l) (hl : l.length ≤ 1000000) (ha : I64 qa) (hm : ∀ b ∈ l, I64 b.m) :
    Calls Try.prog 23 #[v, .agg #[.int .i64 qa, .int .i64 qn], .agg #[.int .i64 x0, .int .i64 y0, .int .i64 x1, .int .i64 y1]] w fun e w' => ∃ v', e = .returned v' ∧ BNew w w' v' ((askF qa qn l).filter fun b => hasF x0 y0 x1 y1 b.x b.y) := by
  obtain ⟨i0, hi0, hz0, hz1, hz2⟩ := info_parts info_bunJ
  obtain ⟨w1, hw1, hb1, hc0, hc1, hf0, hf1, hs1⟩ := two_boxes w #[.int .i64 qa, .int .i64 qn] #[.int .i64 x0, .int .i64 y0, .int .i64 x1, .int .i64 y1] 23 31
  have HOF := Lib.hid (rof12_any v l w1 qa qn (h.keep hb1) hl ha hm)
  have hlen : (askF qa qn l).length ≤ 1000000 := by unfold askF; rw [stableF_len]; exact Nat.le_trans (List.length_filter_le _ _) hl
  obtain ⟨pl, cl, rfl, _⟩ := h
  have l0 : w.heap.size < w1.heap.size := by omega
  have l1 : w.heap.size + 1 < w1.heap.size := by omega
  have q0 := hc0 0; simp at q0; have q1 := hc0 1; simp at q1
  have r0 := hc1 0; simp at r0; have r1 := hc1 1; simp at r1; have r2 := hc1 2; simp at r2; have r3 := hc1 3; simp at r3
  have HW1 := Lib.hid hw1
  have HB1 := Lib.hid hb1
  obtain ⟨f, hf⟩ : ∃ f : Bun → Bool, f = fun b => hasF x0 y0 x1 y1 b.x b.y := ⟨_, rfl⟩
  rw [← hf]
  have HFD := Lib.hid (fun b => congrFun hf b)
  generalize askF qa qn l = la at *
  clear hw1 hb1 hc0 hc1 hf0 hf1 hs1 hm hf hl ha
  go_enter Try.func23, Try.ntmps23
  go_wp2_with fail
  rw [← HW1.out]
  refine HOF.out.mono ?_
  rintro e w2 ⟨v2, rfl, hN⟩
  obtain ⟨p2, c2, rfl⟩ := sl_frm hN.1
  replace r0 := cell_keep hN.2.1 r0; replace r1 := cell_keep hN.2.1 r1; replace r2 := cell_keep hN.2.1 r2; replace r3 := cell_keep hN.2.1 r3
  replace l1 := Nat.lt_of_lt_of_le l1 hN.2.1.size
  have HB2 := Lib.hid (HB1.out.trans (hN.2.1.mono HB1.out.size))
  have H := Lib.hid hN.bin
  clear hN HOF q0 q1
  go_wp2_with fail
  go_loopg [7, 9] la.length (fun kx o sx wr => ∃ t : Nat, sx = .int .i64 t ∧ t ≤ la.length ∧ la.length - t ≤ kx ∧ Hid (BNew w2 wr o ((la.take t).filter f)) ∧ Hid (((la.take t).filter f).length ≤ t))
  case atStart => exact ⟨0, by go_num, by omega, by omega, Lib.hid (BNew.nil w2), Lib.hid (by simp)⟩
  case round =>
    obtain ⟨t, rfl, ht, hkx, HN, HNL⟩ := hrel
    obtain ⟨wa, rfl⟩ : ∃ wa : World, wa = wr := ⟨_, rfl⟩
    by_cases hlt : t < la.length
    · have t1 : (t : Int) < (la.length : Int) := by omega
      obtain ⟨b, hb⟩ : ∃ b, la[t]? = some b := ⟨_, List.getElem?_eq_getElem hlt⟩
      have hbl := HN.out.2.1
      obtain ⟨gb, ob, cb, hv, hgb, hcb⟩ := (H.out.keep hbl).cells hb
      simp only [Value.slice.injEq, true_and] at hv
      obtain ⟨rfl, rfl⟩ := hv
      have c0 := hcb 0 _ rfl; have c1 := hcb 1 _ rfl; have c2 := hcb 2 _ rfl; have c3 := hcb 3 _ rfl; have c4 := hcb 4 _ rfl; have c5 := hcb 5 _ rfl; have c6 := hcb 6 _ rfl; have c7 := hcb 7 _ rfl; have c8 := hcb 8 _ rfl; have c9 := hcb 9 _ rfl; have c10 := hcb 10 _ rfl
      simp only [Nat.add_zero] at c0
      have u0 := cell_keep hbl r0; have u1 := cell_keep hbl r1; have u2 := cell_keep hbl r2; have u3 := cell_keep hbl r3
      have la1 := Nat.lt_of_lt_of_le l1 hbl.size
      have hstep : (la.take (t + 1)).filter f = (la.take t).filter f ++ if f b then [b] else [] := by
        rw [List.take_succ_eq_append_getElem hlt, List.filter_append, show la[t] = b from by have := List.getElem?_eq_getElem hlt; rw [hb] at this; exact (Option.some.inj this).symm]
        cases hh : f b <;> simp [hh]
      have HST := Lib.hid hstep
      have hal := HNL.out
      have HM := Lib.hid (fun W => rHas_any x0 y0 x1 y1 b.x b.y W)
      rw [← HFD.out b] at HM
      obtain ⟨po, co, hpo⟩ := sl_frm HN.out.1
      subst hpo
      obtain ⟨z0, z1, z2⟩ := ltz hgb
      obtain ⟨z3, z4, z5⟩ := ltz la1
      clear hcb hb hstep HNL hbl
      generalize (la.take t).filter f = acc at *
      generalize f b = fb at *
      obtain ⟨s, i, g, m, x, y, vx, vy, hp, pw, lf⟩ := b
      cases fb with
      | false =>
        go_wp2_with fail
        refine wp_region_more (by kernel_rfl) (by kernel_rfl) ?_
        repeat (go_big_quiet_step ((first | (go_at_call 42; exact more_call (HM.out _)))))
        refine wpQuiet_nil ?_
        rintro _ ⟨pm, rfl⟩
        go_wp2_with fail
        go_roundg (la.length - (t + 1))
        case measure => omega
        case rel => exact ⟨t + 1, by go_num, by omega, by omega, Lib.hid (by rw [HST.out]; simpa using HN.out.grow (by repeat' (first | (with_reducible exact Below.refl _ _) | (with_reducible assumption) | (with_reducible refine below_drewN ?_ _) | (with_reducible refine below_more _ _ _ ?_ ?_) | (with_reducible refine Below.alloc ?_ ?_ _) | (with_reducible refine Below.drew ?_) | (with_reducible refine Below.setCell ?_ ?_ _) | go_size))), Lib.hid (by rw [HST.out]; simp; omega)⟩
      | true =>
        go_wp2_with fail
        refine wp_region_more (by kernel_rfl) (by kernel_rfl) ?_
        repeat (go_big_quiet_step ((first | (go_at_call 42; exact more_call (HM.out _)))))
        refine wpQuiet_nil ?_
        rintro _ ⟨pm, rfl⟩
        go_wp2_with (at_builtin; refine wpList_append_sl _ (by rfl) _ _ 29 (by rfl) 51 i0 _ 11 88 Try.underlying29 hi0 hz0 hz1 hz2 rfl (by omega) _ acc.length (bunCells acc) (by rfl) (HN.out.grow (by repeat' (first | (with_reducible exact Below.refl _ _) | (with_reducible assumption) | (with_reducible refine below_drewN ?_ _) | (with_reducible refine below_more _ _ _ ?_ ?_) | (with_reducible refine Below.alloc ?_ ?_ _) | (with_reducible refine Below.drew ?_) | (with_reducible refine Below.setCell ?_ ?_ _) | go_size))).1 ⟨_, 0, none⟩ 1 1 [.int .i64 s, .int .i64 i, .int .i64 g, .int .i64 m, .int .i64 x, .int .i64 y, .int .i64 vx, .int .i64 vy, .int .i64 hp, .int .i64 pw, .int .i64 lf] (by rfl) (by rfl) (new_cellsN _ _ _ _ (by simp)) (by simp [Value.oneCell']) (by omega) (by unfold maxLen; omega) (by omega) ?_; intro v' w4 hs4 ht4 ho4)
        have HF := Lib.hid ((HN.out.grow (w' := (more wa pm.d pm.os).alloc (.cells #[.int .i64 s, .int .i64 i, .int .i64 g, .int .i64 m, .int .i64 x, .int .i64 y, .int .i64 vx, .int .i64 vy, .int .i64 hp, .int .i64 pw, .int .i64 lf] 51)) (by repeat' (first | (with_reducible exact Below.refl _ _) | (with_reducible assumption) | (with_reducible refine below_drewN ?_ _) | (with_reducible refine below_more _ _ _ ?_ ?_) | (with_reducible refine Below.alloc ?_ ?_ _) | (with_reducible refine Below.drew ?_) | (with_reducible refine Below.setCell ?_ ?_ _) | go_size))).snoc (b := ⟨s, i, g, m, x, y, vx, vy, hp, pw, lf⟩) hs4 ht4 ho4)
        clear hs4 ht4 ho4
        go_wp2_with fail
        go_roundg (la.length - (t + 1))
        case measure => omega
        case rel => exact ⟨t + 1, by go_num, by omega, by omega, Lib.hid (by rw [HST.out]; exact HF.out), Lib.hid (by rw [HST.out]; simp; omega)⟩
    · obtain rfl : t = la.length := by omega
      have HF := Lib.hid HN.out
      rw [List.take_length] at HF
      clear HN HNL
      go_wp2_with fail
      go_ret
      exact ⟨_, rfl, HF.out.1, HB2.out.trans (HF.out.2.1.mono HB2.out.size), fun q hq => Nat.le_trans HB2.out.size (HF.out.2.2 q hq)⟩
end Go.Proofs.Ytmkfjelpekkmmaa
namespace Go.Proofs.Ytmkfjelpekkmmaa
open Go.RowKit

theorem abs_any (n : Int) (w : World) (h0 : -4294967296 ≤ n) (h1 : n ≤ 4294967296) : Calls Try.prog 52 #[.int .i64 n] w fun e w' => e = .returned (.int .i64 (max n (-n))) ∧ w = w' := by
  by_cases h : n < 0
  · rw [show max n (-n) = -n by omega]
    go_enter Try.func52, Try.ntmps52
    go_wp2
    go_ret
    exact ⟨rfl, rfl⟩
  · rw [show max n (-n) = n by omega]
    have h' : 0 ≤ n := by omega
    go_enter Try.func52, Try.ntmps52
    go_wp2
    go_ret
    exact ⟨rfl, rfl⟩

theorem rFar_any (x y u v : Int) (w : World) : Calls Try.prog 28 #[.int .i64 x, .int .i64 y, .int .i64 u, .int .i64 v] w fun e w' => e = .returned (.int .i64 (farF x y u v)) ∧ w = w' := by
  have h1 := clampF_lo x; have h2 := clampF_hi x; have h3 := clampF_lo u; have h4 := clampF_hi u
  have h5 := clampF_lo y; have h6 := clampF_hi y; have h7 := clampF_lo v; have h8 := clampF_hi v
  by_cases hc : max (clampF x - clampF u) (-(clampF x - clampF u)) > max (clampF y - clampF v) (-(clampF y - clampF v))
  · rw [show farF x y u v = max (clampF x - clampF u) (-(clampF x - clampF u)) by unfold farF; omega]
    generalize hcx : clampF x = cx at *
    generalize hcy : clampF y = cy at *
    generalize hcu : clampF u = cu at *
    generalize hcv : clampF v = cv at *
    have HX := Lib.hid (And.intro hcx (And.intro hcy (And.intro hcu hcv)))
    have HA := Lib.hid (fun n W a b => abs_any n W a b)
    have e1 := Lib.hid (fun W => by have := clamp_any x W; exact this)
    have C1 := Lib.hid (fun W => by have h := rClamp_any x W; rw [hcx] at h; exact h)
    have C2 := Lib.hid (fun W => by have h := rClamp_any u W; rw [hcu] at h; exact h)
    have C3 := Lib.hid (fun W => by have h := rClamp_any y W; rw [hcy] at h; exact h)
    have C4 := Lib.hid (fun W => by have h := rClamp_any v W; rw [hcv] at h; exact h)
    clear hcx hcy hcu hcv e1
    go_enter Try.func28, Try.ntmps28
    go_wp2_with fail
    refine (C1.out _).mono ?_; rintro e w' ⟨rfl, rfl⟩
    go_wp2_with fail
    refine (C2.out _).mono ?_; rintro e w' ⟨rfl, rfl⟩
    go_wp2_with fail
    refine (HA.out _ _ (by omega) (by omega)).mono ?_; rintro e w' ⟨rfl, rfl⟩
    go_wp2_with fail
    refine (C3.out _).mono ?_; rintro e w' ⟨rfl, rfl⟩
    go_wp2_with fail
    refine (C4.out _).mono ?_; rintro e w' ⟨rfl, rfl⟩
    go_wp2_with fail
    refine (HA.out _ _ (by omega) (by omega)).mono ?_; rintro e w' ⟨rfl, rfl⟩
    go_wp2_with fail
    go_ret
    exact ⟨rfl, rfl⟩
  · rw [show farF x y u v = max (clampF y - clampF v) (-(clampF y - clampF v)) by unfold farF; omega]
    generalize hcx : clampF x = cx at *
    generalize hcy : clampF y = cy at *
    generalize hcu : clampF u = cu at *
    generalize hcv : clampF v = cv at *
    have HA := Lib.hid (fun n W a b => abs_any n W a b)
    have C1 := Lib.hid (fun W => by have h := rClamp_any x W; rw [hcx] at h; exact h)
    have C2 := Lib.hid (fun W => by have h := rClamp_any u W; rw [hcu] at h; exact h)
    have C3 := Lib.hid (fun W => by have h := rClamp_any y W; rw [hcy] at h; exact h)
    have C4 := Lib.hid (fun W => by have h := rClamp_any v W; rw [hcv] at h; exact h)
    clear hcx hcy hcu hcv
    go_enter Try.func28, Try.ntmps28
    go_wp2_with fail
    refine (C1.out _).mono ?_; rintro e w' ⟨rfl, rfl⟩
    go_wp2_with fail
    refine (C2.out _).mono ?_; rintro e w' ⟨rfl, rfl⟩
    go_wp2_with fail
    refine (HA.out _ _ (by omega) (by omega)).mono ?_; rintro e w' ⟨rfl, rfl⟩
    go_wp2_with fail
    refine (C3.out _).mono ?_; rintro e w' ⟨rfl, rfl⟩
    go_wp2_with fail
    refine (C4.out _).mono ?_; rintro e w' ⟨rfl, rfl⟩
    go_wp2_with fail
    refine (HA.out _ _ (by omega) (by omega)).mono ?_; rintro e w' ⟨rfl, rfl⟩
    go_wp2_with fail
    go_ret
    exact ⟨rfl, rfl⟩
end Go.Proofs.Ytmkfjelpekkmmaa
