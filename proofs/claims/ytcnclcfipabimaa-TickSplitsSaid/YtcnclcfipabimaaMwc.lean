/-
  Chapter 15: part: those that stand in a zone, and those that lie near it. Two lists of the call's own. Condition: the world may be; not too many entities.
  Lists of entities of the call's own: one is stored into, two grow; what Run leaves, as constructors. No condition.
-/
import Derived.Test.YtcnclcfipabimaaMtl
import Derived.Test.YtcnclcfipabimaaMwa
import Derived.Test.YtcnclcfipabimaaTkR
import Derived.Test.YtcnclcfipabimaaMsn
import Derived.Test.YtcnclcfipabimaaMsl
namespace Go.Proofs.Ytcnclcfipabimaa
open Go.RowKit

/-- Two lists of the call's own, in memory apart. -/
structure Prs (w0 w : World) (va vb : Value) (la lb : List Bun) : Prop where
  a : BNew w0 w va la
  b : BNew w0 w vb lb
  ap : ∀ g, va.ownBlock = some g → vb.ownBlock ≠ some g
theorem Prs.nil (w : World) : Prs w w (.slice none 0 0) (.slice none 0 0) [] [] := ⟨BNew.nil w, BNew.nil w, fun g hg => by cases hg⟩
theorem Prs.swap {w0 w : World} {va vb : Value} {la lb : List Bun} (h : Prs w0 w va vb la lb) : Prs w0 w vb va lb la := ⟨h.b, h.a, fun g h1 h2 => h.ap g h2 h1⟩
theorem Prs.grow {w0 w w' : World} {va vb : Value} {la lb : List Bun} (h : Prs w0 w va vb la lb) (hb : Below w.heap.size w w') : Prs w0 w' va vb la lb := ⟨h.a.grow hb, h.b.grow hb, h.ap⟩
theorem Prs.since {w0 w1 w : World} {va vb : Value} {la lb : List Bun} (h : Prs w1 w va vb la lb) (hb : Below w0.heap.size w0 w1) : Prs w0 w va vb la lb := ⟨h.a.since hb, h.b.since hb, h.ap⟩
theorem Prs.app {w0 w w' : World} {va vb v' : Value} {la lb l : List Bun} (h : Prs w0 w va vb la lb) (hs : Sl w' 41 11 v' (la ++ l).length (bunCells (la ++ l))) (ht : Turned w w' va.ownBlock)
    (ho : v'.ownBlock = va.ownBlock ∨ ∃ g, v'.ownBlock = some g ∧ w.heap.size ≤ g) : Prs w0 w' v' vb (la ++ l) lb := by
  have hbel : Below w0.heap.size w0 w' := h.a.2.1.trans ⟨ht.os, ht.tape, ht.output, ht.size, fun k hk => ht.block k (by have := h.a.2.1.size; omega) fun e => by have := h.a.2.2 k e.symm; omega⟩
  refine ⟨⟨hs, hbel, fun q hq => ?_⟩, ⟨h.b.1.keep fun g hg => ht.block g (sl_lt h.b.1 hg) fun e => h.ap g e.symm hg, hbel, h.b.2.2⟩, fun g hg e2 => ?_⟩
  · rcases ho with e | ⟨g', e, hg'⟩
    · exact h.a.2.2 q (e ▸ hq)
    · rw [e] at hq; cases hq; exact Nat.le_trans h.a.2.1.size hg'
  · rcases ho with e | ⟨g', e, hg'⟩
    · exact h.ap g (e ▸ hg) e2
    · rw [e] at hg; cases hg; have := sl_lt h.b.1 e2; omega
theorem Prs.app1 {w0 w w' : World} {va vb v' : Value} {la lb : List Bun} {x : Bun} (h : Prs w0 w va vb la lb) (hs : Sl w' 41 11 v' (la.length + 1) (bunCells la ++ bunL x)) (ht : Turned w w' va.ownBlock)
    (ho : v'.ownBlock = va.ownBlock ∨ ∃ g, v'.ownBlock = some g ∧ w.heap.size ≤ g) : Prs w0 w' v' vb (la ++ [x]) lb :=
  h.app (by rw [bunCells_app, List.length_append, show bunCells [x] = bunL x by simp [bunCells]]; exact hs) ht ho
/-- Entities behind the first of two lists. -/
theorem wpList_append_prs (w0 w : World) {ops : Array Oper} {rest : List Oper} {o : Oper} {a : Act} {Q : Exit → Act → World → Prop}
    (hg : o.guard = none) (s x : Operand) (hop : o.op = Op.call { callee := Callee.builtin Builtin.append, args := #[s, x], argTypes := #[24, 24] })
    (v vx vb : Value) (l0 l lb : List Bun) (hv : a.eval s = v) (hp : Prs w0 w v vb l0 lb) (hx : a.eval x = vx) (hb : BIn w vx l) (h0 : l0.length ≤ 1000000) (hl : l.length ≤ 1000000)
    (hK : ∀ v' w', Prs w0 w' v' vb (l0 ++ l) lb → Turned w w' v.ownBlock → (v'.ownBlock = v.ownBlock ∨ ∃ g, v'.ownBlock = some g ∧ w.heap.size ≤ g) → wpList Try.prog ops Q rest (a.put o.dst v') w') :
    wpList Try.prog ops Q (o :: rest) a w := by
  obtain ⟨i0, hi0, hz0, hz1, hz2⟩ := info_parts info_bunJ
  obtain ⟨p, cap, rfl, h1, h2, h3, h4⟩ := hb
  by_cases hn : l = []
  · subst hn
    obtain ⟨q, c, rfl⟩ := sl_frm hp.a.1
    refine wpList_append_zero hg s x 24 hop 41 i0 Try.underlying24 hi0 _ _ _ _ _ hv hx ?_ (hK _ _ (by simpa using hp) (Turned.of_grown ⟨rfl, rfl, rfl, Nat.le_refl _, fun k hk _ => rfl⟩) (.inl rfl))
    obtain ⟨_, ⟨h, h0⟩ | ⟨g, off, cap', cur, h, hb, hn, hc, hsz, hr⟩⟩ := hp.a.1
    · simp only [Value.slice.injEq] at h; omega
    · simp only [Value.slice.injEq] at h; omega
  · obtain ⟨blk, off, rfl, h5, h6⟩ := h4 hn
    have hn0 : 0 < l.length := List.length_pos_iff.2 hn
    refine wpList_append_sl w hg s x 24 hop 41 i0 _ 11 88 Try.underlying24 hi0 hz0 hz1 hz2 rfl (by omega) v l0.length (bunCells l0) hv hp.a.1 ⟨blk, off, none⟩ l.length cap (bunCells l) hx (bunCells_len l) (fun j u hj => ?_) (bunCells_one l) hn0 (by unfold maxLen; omega) (by omega) (fun v' w' hs ht ho => hK v' w' (hp.app ?_ ht ho) ht ho)
    · rw [show Addr.add ⟨blk, off, none⟩ j = ⟨blk, off + j, none⟩ from by unfold Addr.add; split <;> simp_all]
      exact h6 j u hj
    · rw [bunCells_app, List.length_append]; exact hs
set_option maxRecDepth 100000 in
set_option maxHeartbeats 4000000 in
theorem part15_any (cols rows side radius speed ids queue : Int) (k : Int) (v : Value) (l : List Bun) (w : World) (ho : CfgOk ⟨cols, rows, side, radius, speed, ids, queue⟩) (hl : BIn w v l) (hn : l.length ≤ 1000) :
    Calls Try.prog 44 #[.agg #[.int .i64 cols, .int .i64 rows, .int .i64 side, .int .i64 radius, .int .i64 speed, .int .i64 ids, .int .i64 queue], .int .i64 k, v] w fun e w' => ∃ v1 v2, e = .returned (.tuple #[v1, v2]) ∧ Prs w w' v1 v2 (partF ⟨cols, rows, side, radius, speed, ids, queue⟩ k l) (wantF ⟨cols, rows, side, radius, speed, ids, queue⟩ k l) := by
  obtain ⟨i0, hi0, hz0, hz1, hz2⟩ := info_parts info_bunJ
  have HO := Lib.hid (fun x y W => rof_any cols rows side radius speed ids queue x y W ho)
  have HZ := Lib.hid (fun W => rzone_any cols rows side radius speed ids queue k W ho)
  have HG := Lib.hid (fun x y W => (show _ from rGap_any (zoneF ⟨cols, rows, side, radius, speed, ids, queue⟩ k).1 (zoneF ⟨cols, rows, side, radius, speed, ids, queue⟩ k).2.1 (zoneF ⟨cols, rows, side, radius, speed, ids, queue⟩ k).2.2.1 (zoneF ⟨cols, rows, side, radius, speed, ids, queue⟩ k).2.2.2 x y W))
  have HL := Lib.hid hl
  clear ho
  unfold partF wantF
  have hgz : ∀ b : Bun, forB ⟨cols, rows, side, radius, speed, ids, queue⟩ k b = (!(ofF ⟨cols, rows, side, radius, speed, ids, queue⟩ b.x b.y == k) && decide (gapZ ⟨cols, rows, side, radius, speed, ids, queue⟩ k b.x b.y ≤ radius)) := fun b => rfl
  have hgy : ∀ x y, gapZ ⟨cols, rows, side, radius, speed, ids, queue⟩ k x y = gapF (zoneF ⟨cols, rows, side, radius, speed, ids, queue⟩ k).1 (zoneF ⟨cols, rows, side, radius, speed, ids, queue⟩ k).2.1 (zoneF ⟨cols, rows, side, radius, speed, ids, queue⟩ k).2.2.1 (zoneF ⟨cols, rows, side, radius, speed, ids, queue⟩ k).2.2.2 x y := fun x y => rfl
  simp only [hgy] at hgz
  have HGZ := Lib.hid hgz
  clear hgy hgz
  generalize forB ⟨cols, rows, side, radius, speed, ids, queue⟩ k = fw at *
  generalize zoneF ⟨cols, rows, side, radius, speed, ids, queue⟩ k = zz at *
  obtain ⟨z0, z1, z2, z3⟩ := zz
  simp only [rectV] at HZ HG HGZ
  generalize gapF z0 z1 z2 z3 = gp at *
  generalize ofF ⟨cols, rows, side, radius, speed, ids, queue⟩ = of at *
  generalize hfb : (fun b : Bun => of b.x b.y == k) = fb
  have HFB := Lib.hid (fun b => congrFun hfb b)
  clear hfb
  obtain ⟨p1, e1, rfl, _⟩ := hl
  go_enter Try.func44, Try.ntmps44
  go_upto_region 1 with fail
  generalize hw1 : World.alloc w _ = w1
  have hb1 : Below w.heap.size w w1 := by rw [← hw1]; exact (by repeat' (first | (with_reducible exact Below.refl _ _) | (with_reducible assumption) | (with_reducible refine below_drewN ?_ _) | (with_reducible refine below_more _ _ _ ?_ ?_) | (with_reducible refine Below.alloc ?_ ?_ _) | (with_reducible refine Below.drew ?_) | (with_reducible refine Below.setCell ?_ ?_ _) | go_size))
  have hcf : ∀ u, w1.cell? ⟨w.heap.size, u, none⟩ = (#[.int .i64 cols, .int .i64 rows, .int .i64 side, .int .i64 radius, .int .i64 speed, .int .i64 ids, .int .i64 queue] : Array Value)[u]? := fun u => by rw [← hw1]; simp
  have hs2 : w.heap.size < w1.heap.size := by rw [← hw1]; simp
  have HB1 := Lib.hid hb1
  have HCF := Lib.hid hcf
  clear hb1 hcf hw1
  go_wp2_with fail
  go_loopg [8, 9, 10] l.length (fun kx o1 o2 sx wr => ∃ t : Nat, sx = .int .i64 t ∧ t ≤ l.length ∧ l.length - t ≤ kx ∧ Hid (Prs w1 wr o1 o2 ((l.take t).filter fb) ((l.take t).filter fw)) ∧ Hid (((l.take t).filter fb).length ≤ t ∧ ((l.take t).filter fw).length ≤ t))
  case atStart => exact ⟨0, by go_num, by omega, by omega, Lib.hid (Prs.nil w1), Lib.hid ⟨Nat.le_refl _, Nat.le_refl _⟩⟩
  case round =>
    obtain ⟨t, rfl, ht, hkx, HN, HNL⟩ := hrel
    obtain ⟨wa, rfl⟩ : ∃ wa : World, wa = wr := ⟨_, rfl⟩
    have hbl := HN.out.a.2.1
    have hsl := hbl.size
    have x0 := (hbl.cell (p := ⟨w.heap.size, 0, none⟩) hs2).trans (HCF.out 0); simp at x0
    have x1 := (hbl.cell (p := ⟨w.heap.size, 1, none⟩) hs2).trans (HCF.out 1); simp at x1
    have x2 := (hbl.cell (p := ⟨w.heap.size, 2, none⟩) hs2).trans (HCF.out 2); simp at x2
    have x3 := (hbl.cell (p := ⟨w.heap.size, 3, none⟩) hs2).trans (HCF.out 3); simp at x3
    have x4 := (hbl.cell (p := ⟨w.heap.size, 4, none⟩) hs2).trans (HCF.out 4); simp at x4
    have x5 := (hbl.cell (p := ⟨w.heap.size, 5, none⟩) hs2).trans (HCF.out 5); simp at x5
    have x6 := (hbl.cell (p := ⟨w.heap.size, 6, none⟩) hs2).trans (HCF.out 6); simp at x6
    have s2a : w.heap.size < wa.heap.size := by omega
    obtain ⟨f0, f1, f2⟩ := ltz s2a
    have HBL := Lib.hid hbl
    clear hbl
    obtain ⟨po, co, hpo⟩ := sl_frm HN.out.a.1
    subst hpo
    obtain ⟨pq, cq, hpq⟩ := sl_frm HN.out.b.1
    subst hpq
    by_cases hlt : t < l.length
    · have t1 : (t : Int) < (l.length : Int) := by omega
      obtain ⟨x0, hx0⟩ : ∃ x0, l[t]? = some x0 := ⟨_, List.getElem?_eq_getElem hlt⟩
      obtain ⟨gb, ob, cb, hv, hgb, hcb⟩ := (HL.out.keep (HB1.out.trans (HBL.out.mono HB1.out.size))).cells hx0
      simp only [Value.slice.injEq, true_and] at hv
      obtain ⟨rfl, rfl⟩ := hv
      have c0 := hcb 0 _ rfl
      have c1 := hcb 1 _ rfl
      have c2 := hcb 2 _ rfl
      have c3 := hcb 3 _ rfl
      have c4 := hcb 4 _ rfl
      have c5 := hcb 5 _ rfl
      have c6 := hcb 6 _ rfl
      have c7 := hcb 7 _ rfl
      have c8 := hcb 8 _ rfl
      have c9 := hcb 9 _ rfl
      have c10 := hcb 10 _ rfl
      simp only [Nat.add_zero] at c0
      have hst := filter_step fb hx0
      have hst2 := filter_step fw hx0
      rw [← HFB.out x0] at hst
      rw [HGZ.out x0] at hst2
      have HST := Lib.hid hst
      have HST2 := Lib.hid hst2
      have HOX := Lib.hid (HO.out x0.x x0.y)
      have HGX := Lib.hid (HG.out x0.x x0.y)
      generalize of x0.x x0.y = oz at *
      generalize gp x0.x x0.y = gx at *
      obtain ⟨e0, e1', e2'⟩ := ltz hgb
      clear hcb hx0 hst hst2
      generalize hacc : (l.take t).filter fb = acc at *
      generalize hacq : (l.take t).filter fw = acq at *
      have hal := HNL.out
      obtain ⟨hal1, hal2⟩ := hal
      clear hacc hacq HNL HO HG HFB HGZ
      obtain ⟨s, i, g, m, x, y, vx, vy, hp, pw, lf⟩ := x0
      simp only at HOX HGX
      
      go_wp2_with fail
      refine wp_region_more (by kernel_rfl) (by kernel_rfl) ?_
      repeat (go_big_quiet_step ((first | (go_at_call 36; exact more_call (HOX.out _)))))
      refine wpQuiet_nil ?_
      rintro _ ⟨pq, rfl⟩
      cases h1 : (oz == k) with
      | true =>
        have heq : oz = k := by simpa using h1
        rw [h1] at HST HST2
        go_wp2_with (at_builtin; refine wpList_append_sl _ (by rfl) _ _ 24 (by rfl) 41 i0 _ 11 88 Try.underlying24 hi0 hz0 hz1 hz2 rfl (by omega) _ acc.length (bunCells acc) (by rfl) (HN.out.a.grow (by repeat' (first | (with_reducible exact Below.refl _ _) | (with_reducible assumption) | (with_reducible refine below_drewN ?_ _) | (with_reducible refine below_more _ _ _ ?_ ?_) | (with_reducible refine Below.alloc ?_ ?_ _) | (with_reducible refine Below.drew ?_) | (with_reducible refine Below.setCell ?_ ?_ _) | go_size))).1 ⟨_, 0, none⟩ 1 1 (bunL ⟨s, i, g, m, x, y, vx, vy, hp, pw, lf⟩) (by rfl) (by rfl) (new_cellsN _ _ _ _ (by simp)) (bunL_one _) (by omega) (by unfold maxLen; omega) (by omega) ?_; intro v' w4 hs4 ht4 ho4)
        have hm := (HN.out.grow (by repeat' (first | (with_reducible exact Below.refl _ _) | (with_reducible assumption) | (with_reducible refine below_drewN ?_ _) | (with_reducible refine below_more _ _ _ ?_ ?_) | (with_reducible refine Below.alloc ?_ ?_ _) | (with_reducible refine Below.drew ?_) | (with_reducible refine Below.setCell ?_ ?_ _) | go_size))).app1 hs4 ht4 ho4
        have HM := Lib.hid hm
        clear hs4 ht4 ho4 hm
        go_roundg (l.length - (t + 1))
        case measure => omega
        case rel => exact ⟨t + 1, by go_num, by omega, by omega, Lib.hid (by rw [HST.out, HST2.out]; simpa using HM.out), Lib.hid (by rw [HST.out, HST2.out]; constructor <;> simp <;> omega)⟩
      | false =>
        have heq : ¬ oz = k := by simpa using h1
        rw [h1] at HST HST2
        go_wp2_with fail
        refine wp_region_more (by kernel_rfl) (by kernel_rfl) ?_
        repeat (go_big_quiet_step ((first | (go_at_call 38; exact more_call (HZ.out _)) | (go_at_call 37; exact more_call (HGX.out _)))))
        refine wpQuiet_nil ?_
        rintro _ ⟨pz, rfl⟩
        by_cases hg : gx ≤ radius
        · rw [decide_eq_true hg] at HST2
          go_wp2_with (at_builtin; refine wpList_append_sl _ (by rfl) _ _ 24 (by rfl) 41 i0 _ 11 88 Try.underlying24 hi0 hz0 hz1 hz2 rfl (by omega) _ acq.length (bunCells acq) (by rfl) (HN.out.b.grow (by repeat' (first | (with_reducible exact Below.refl _ _) | (with_reducible assumption) | (with_reducible refine below_drewN ?_ _) | (with_reducible refine below_more _ _ _ ?_ ?_) | (with_reducible refine Below.alloc ?_ ?_ _) | (with_reducible refine Below.drew ?_) | (with_reducible refine Below.setCell ?_ ?_ _) | go_size))).1 ⟨_, 0, none⟩ 1 1 (bunL ⟨s, i, g, m, x, y, vx, vy, hp, pw, lf⟩) (by rfl) (by rfl) (new_cellsN _ _ _ _ (by simp)) (bunL_one _) (by omega) (by unfold maxLen; omega) (by omega) ?_; intro v' w4 hs4 ht4 ho4)
          have hm := ((HN.out.grow (by repeat' (first | (with_reducible exact Below.refl _ _) | (with_reducible assumption) | (with_reducible refine below_drewN ?_ _) | (with_reducible refine below_more _ _ _ ?_ ?_) | (with_reducible refine Below.alloc ?_ ?_ _) | (with_reducible refine Below.drew ?_) | (with_reducible refine Below.setCell ?_ ?_ _) | go_size))).swap.app1 hs4 ht4 ho4).swap
          have HM := Lib.hid hm
          clear hs4 ht4 ho4 hm
          go_roundg (l.length - (t + 1))
          case measure => omega
          case rel => exact ⟨t + 1, by go_num, by omega, by omega, Lib.hid (by rw [HST.out, HST2.out]; simpa using HM.out), Lib.hid (by rw [HST.out, HST2.out]; constructor <;> simp <;> omega)⟩
        · rw [decide_eq_false hg] at HST2
          go_wp2_with fail
          go_roundg (l.length - (t + 1))
          case measure => omega
          case rel => exact ⟨t + 1, by go_num, by omega, by omega, Lib.hid (by rw [HST.out, HST2.out]; simpa using HN.out.grow (by repeat' (first | (with_reducible exact Below.refl _ _) | (with_reducible assumption) | (with_reducible refine below_drewN ?_ _) | (with_reducible refine below_more _ _ _ ?_ ?_) | (with_reducible refine Below.alloc ?_ ?_ _) | (with_reducible refine Below.drew ?_) | (with_reducible refine Below.setCell ?_ ?_ _) | go_size))), Lib.hid (by rw [HST.out, HST2.out]; constructor <;> simp <;> omega)⟩
    · have t1 : ¬ (t : Int) < (l.length : Int) := by omega
      obtain rfl : t = l.length := by omega
      rw [List.take_length] at HN HNL
      go_wp2_with fail
      exact bodyPost_ret (v := .tuple #[.slice po (l.filter fb).length co, .slice pq (l.filter fw).length cq]) (by simp [results, Try.results44, go_sem]) rfl ⟨_, _, rfl, HN.out.since HB1.out⟩
end Go.Proofs.Ytcnclcfipabimaa
namespace Go.Proofs.Ytcnclcfipabimaa
open Go.RowKit
/-- Nobody's power is below nothing. -/
def noneg (b : Bun) : Bun := { b with pw := max 0 b.pw }
theorem rev_step {α : Type} {l : List α} {t : Nat} {x : α} (h : l[t]? = some x) : (l.drop t).reverse = (l.drop (t + 1)).reverse ++ [x] := by
  obtain ⟨hlt, e⟩ := List.getElem?_eq_some_iff.1 h
  rw [List.drop_eq_getElem_cons hlt, e, List.reverse_cons]
/-- Behind some of them, from the end on. -/
def negTo (l : List Bun) (t : Nat) : List Bun := l.take t ++ (l.drop t).map noneg
theorem negTo_len (l : List Bun) (t : Nat) : (negTo l t).length = l.length := by
  unfold negTo; simp only [List.length_append, List.length_take, List.length_map, List.length_drop]; omega
theorem negTo_set {l : List Bun} {t : Nat} {x : Bun} (h : l[t]? = some x) : negTo l t = (negTo l (t + 1)).set t (noneg x) := by
  obtain ⟨hlt, e⟩ := List.getElem?_eq_some_iff.1 h
  unfold negTo
  have h1 : (l.take t).length = t := by rw [List.length_take]; omega
  rw [List.drop_eq_getElem_cons hlt, e, List.map_cons, List.take_succ_eq_append_getElem hlt, e, List.append_assoc, List.set_append_right _ _ (by omega), h1, Nat.sub_self]
  rfl
theorem negTo_at {l : List Bun} {t : Nat} {x : Bun} (h : l[t]? = some x) : (negTo l (t + 1))[t]? = some x := by
  obtain ⟨hlt, e⟩ := List.getElem?_eq_some_iff.1 h
  unfold negTo
  rw [List.getElem?_append_left (by rw [List.length_take]; omega), List.getElem?_take, if_pos (by omega), h]
/-- A power stored. -/
theorem bnew_setPw {w0 w : World} {blk off n cap : Nat} {l : List Bun} (h : BNew w0 w (.slice (some ⟨blk, off, none⟩) n cap) l) (hn : l.length = n) {k : Nat} {b : Bun} (hk : l[k]? = some b) (p : Int) :
    (∃ u, w.cell? ⟨blk, off + (k * 11 + 9), none⟩ = some u) ∧ w.frozen? ⟨blk, off + (k * 11 + 9), none⟩ = false ∧ BNew w0 (w.setCell ⟨blk, off + (k * 11 + 9), none⟩ (.int .i64 p)) (.slice (some ⟨blk, off, none⟩) n cap) (l.set k { b with pw := p }) ∧ Turned w (w.setCell ⟨blk, off + (k * 11 + 9), none⟩ (.int .i64 p)) (some blk) := by
  obtain ⟨hlt, hbk⟩ := List.getElem?_eq_some_iff.1 hk
  subst hn
  obtain ⟨a1, a2, a3, a4⟩ := sl_store1 h.1 (t := k * 11 + 9) (by omega) (.int .i64 p)
  refine ⟨a1, a2, ⟨?_, Turned.below_new a4 (fun q hq => by cases hq; exact h.2.2 blk rfl) h.2.1 h.2.1.size, h.2.2⟩, a4⟩
  have e : bunCells (l.set k { b with pw := p }) = (bunCells l).set (k * 11 + 9) (.int .i64 p) := by
    apply List.ext_getElem?
    intro t
    rw [bunCells_set l k _ t hlt, List.getElem?_set]
    by_cases h1 : k * 11 + 9 = t
    · subst h1
      rw [if_pos (by omega), if_pos rfl, if_pos (by rw [bunCells_len]; omega), show k * 11 + 9 - k * 11 = 9 by omega]
      rfl
    · rw [if_neg h1]
      split
      · rename_i h2
        obtain ⟨j, rfl⟩ : ∃ j, t = k * 11 + j := ⟨t - k * 11, by omega⟩
        rw [Nat.add_sub_cancel_left]
        have hj : j < 11 := by omega
        have h3 := cellsR_get bunL 11 bunL_len l k j b hk hj
        rw [bunCells_R] at h3
        rw [h3]
        have h4 : j ≠ 9 := by omega
        match j, hj, h4 with
        | 0, _, _ | 1, _, _ | 2, _, _ | 3, _, _ | 4, _, _ | 5, _, _ | 6, _, _ | 7, _, _ | 8, _, _ | 10, _, _ => rfl
      · rfl
  rw [List.length_set, e]
  exact a3
theorem Prs.setB {w0 w w' : World} {va vb : Value} {la lb lb' : List Bun} {q : Nat} (h : Prs w0 w va vb la lb) (hb : BNew w0 w' vb lb') (ht : Turned w w' (some q)) (hq : vb.ownBlock = some q) : Prs w0 w' va vb la lb' :=
  ⟨⟨h.a.1.keep fun g hg => ht.block g (sl_lt h.a.1 hg) fun e => h.ap g hg (by rw [hq]; cases e; rfl), hb.2.1, h.a.2.2⟩, hb, h.ap⟩
/-- Three lists of the call's own, in memory apart: the first grows, the second is stored into. -/
structure Tri (w0 w : World) (va vb vc : Value) (la lb lc : List Bun) : Prop where
  pb : Prs w0 w va vb la lb
  pc : Prs w0 w va vc la lc
  bc : ∀ g, vb.ownBlock = some g → vc.ownBlock ≠ some g
theorem Tri.grow {w0 w w' : World} {va vb vc : Value} {la lb lc : List Bun} (h : Tri w0 w va vb vc la lb lc) (hb : Below w.heap.size w w') : Tri w0 w' va vb vc la lb lc := ⟨h.pb.grow hb, h.pc.grow hb, h.bc⟩
theorem Tri.app1 {w0 w w' : World} {va vb vc v' : Value} {la lb lc : List Bun} {x : Bun} (h : Tri w0 w va vb vc la lb lc) (hs : Sl w' 41 11 v' (la.length + 1) (bunCells la ++ bunL x)) (ht : Turned w w' va.ownBlock)
    (ho : v'.ownBlock = va.ownBlock ∨ ∃ g, v'.ownBlock = some g ∧ w.heap.size ≤ g) : Tri w0 w' v' vb vc (la ++ [x]) lb lc := ⟨h.pb.app1 hs ht ho, h.pc.app1 hs ht ho, h.bc⟩
theorem Tri.setPw {w0 w : World} {va vc : Value} {blk off n cap : Nat} {la lb lc : List Bun} (h : Tri w0 w va (.slice (some ⟨blk, off, none⟩) n cap) vc la lb lc) (hn : lb.length = n) {k : Nat} {b : Bun} (hk : lb[k]? = some b) (p : Int) :
    Tri w0 (w.setCell ⟨blk, off + (k * 11 + 9), none⟩ (.int .i64 p)) va (.slice (some ⟨blk, off, none⟩) n cap) vc la (lb.set k { b with pw := p }) lc := by
  obtain ⟨_, _, hB, ht⟩ := bnew_setPw h.pb.b hn hk p
  have h1 := h.pb.setB hB ht rfl
  exact ⟨h1, ⟨h1.a, ⟨h.pc.b.1.keep fun g hg => ht.block g (sl_lt h.pc.b.1 hg) fun e => h.bc g (by cases e; rfl) hg, hB.2.1, h.pc.b.2.2⟩, h.pc.ap⟩, h.bc⟩
theorem RunN.opn {w : World} {own gone : List Bun} {dead : List Nid} {e : Ending} {w' : World} (h : RunN w own gone dead e w') :
    ∃ pa ca pb cb pd cd d os, e = .returned (.agg #[.slice pa own.length ca, .slice pb gone.length cb, .slice pd dead.length cd]) ∧ w' = more w d os ∧ BNew w (more w d os) (.slice pa own.length ca) own ∧ BNew w (more w d os) (.slice pb gone.length cb) gone ∧ RNew nidL 39 3 w (more w d os) (.slice pd dead.length cd) dead := by
  obtain ⟨va, vb, vd, rfl, hb, h1, h2, h3⟩ := h
  obtain ⟨d, os, rfl⟩ := more_of hb
  obtain ⟨pa, ca, rfl⟩ := sl_frm h1.1
  obtain ⟨pb, cb, rfl⟩ := sl_frm h2.1
  obtain ⟨pd, cd, rfl⟩ := sl_frm h3.1
  exact ⟨pa, ca, pb, cb, pd, cd, d, os, rfl, rfl, h1, h2, h3⟩
end Go.Proofs.Ytcnclcfipabimaa
