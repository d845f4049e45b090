/-
  Plain: to sort and then to sift is to sift and then to sort. No condition.
  ghosts.For of a zone that there is. Condition: the world may be; not too many entities.
  ghosts.For of a zone that there is not, and of a map that is none. Condition: the world may be.
  The reference's For. Condition: the world may be; not too many entities.
-/
import Derived.Test.YtcnclcfipabimaaMsi
import Derived.Test.YtcnclcfipabimaaMrf
namespace Go.Proofs.Ytcnclcfipabimaa
open Go.RowKit
theorem rSort_pair (l : List Bun) : (rSort l).Pairwise fun a b => bef b a = false := by
  obtain ⟨T, h1, h2, h3⟩ := rSort_tag l l.length (Nat.le_refl _)
  rw [List.take_length] at h1
  rw [← h1, List.pairwise_map]
  refine h3.imp fun {a b} h => ?_
  rw [bef_cmp]
  have hn := cmpBun_ok.neg b.1 a.1
  have hz := cmpBun_ok.zero b.1 a.1
  rcases (ltT_iff a b).1 h with h | ⟨h, _⟩
  · exact decide_eq_false (by have := cmpBun_ok.neg a.1 b.1; omega)
  · exact decide_eq_false (by omega)

theorem rIns_parts (x : Bun) (l : List Bun) (h : l.Pairwise fun a b => bef b a = false) : ∃ n, rIns x l = l.take n ++ x :: l.drop n ∧ l.filter (fun y => !bef x y) = l.take n ∧ l.filter (fun y => bef x y) = l.drop n := by
  have hle := rPos_le x l l.length
  have hlo := rPos_lo x l l.length
  have hhi := rPos_hi x l l.length
  unfold rIns
  generalize rPos x l l.length = n at *
  have h1 : ∀ y ∈ l.take n, bef x y = false := fun y hy => by
    obtain ⟨t, ht, rfl⟩ := List.mem_iff_getElem.1 hy
    rw [List.length_take] at ht
    rw [List.getElem_take]
    rcases hlo with rfl | hlo
    · omega
    have e1 : l.getD (n - 1) default = l[n - 1]'(by omega) := by simp [List.getD, show n - 1 < l.length by omega]
    rw [e1] at hlo
    by_cases he : t = n - 1
    · subst he; exact hlo
    have hp := List.pairwise_iff_getElem.1 h t (n - 1) (by omega) (by omega) (by omega)
    rw [bef_cmp, decide_eq_false_iff_not] at hp hlo ⊢
    intro hc
    have hn := cmpBun_ok.neg (l[n - 1]'(by omega)) (l[t]'(by omega))
    exact hlo (cmpBun_ok.transl _ _ _ hc (by omega))
  have h2 : ∀ y ∈ l.drop n, bef x y = true := fun y hy => by
    obtain ⟨t, ht, rfl⟩ := List.mem_iff_getElem.1 hy
    rw [List.length_drop] at ht
    rw [List.getElem_drop]
    have := hhi (n + t) (by omega) (by omega)
    have e1 : l.getD (n + t) default = l[n + t]'(by omega) := by simp [List.getD, show n + t < l.length by omega]
    rw [e1] at this
    exact this
  have hl : l = l.take n ++ l.drop n := (List.take_append_drop n l).symm
  have f1 : l.filter (fun y => !bef x y) = l.take n := by
    conv => lhs; rw [hl]
    rw [List.filter_append, List.filter_eq_self.2 fun y hy => by simp [h1 y hy], List.filter_eq_nil_iff.2 fun y hy => by simp [h2 y hy], List.append_nil]
  have f2 : l.filter (fun y => bef x y) = l.drop n := by
    conv => lhs; rw [hl]
    rw [List.filter_append, List.filter_eq_nil_iff.2 fun y hy => by simp [h1 y hy], List.filter_eq_self.2 fun y hy => by simp [h2 y hy], List.nil_append]
  exact ⟨n, rfl, f1, f2⟩

theorem rIns_filter (x : Bun) (l : List Bun) (h : l.Pairwise fun a b => bef b a = false) : rIns x l = l.filter (fun y => !bef x y) ++ x :: l.filter (fun y => bef x y) ∧ l.filter (fun y => !bef x y) ++ l.filter (fun y => bef x y) = l := by
  obtain ⟨n, h1, h2, h3⟩ := rIns_parts x l h
  exact ⟨by rw [h1, h2, h3], by rw [h2, h3]; exact List.take_append_drop n l⟩

theorem rSort_filter (p : Bun → Bool) (l : List Bun) : rSort (l.filter p) = (rSort l).filter p := by
  have key : ∀ r : List Bun, rSort (r.reverse.filter p) = (rSort r.reverse).filter p := by
    intro r
    induction r with
    | nil => rfl
    | cons x r ih =>
      rw [List.reverse_cons, List.filter_append, rSort_snoc, (rIns_filter x _ (rSort_pair _)).1]
      have hs := rSort_pair r.reverse
      generalize r.reverse = m at *
      cases hx : p x with
      | false =>
        have hw := (rIns_filter x _ hs).2
        have h2 : (rSort m).filter p = ((rSort m).filter (fun y => !bef x y)).filter p ++ ((rSort m).filter (fun y => bef x y)).filter p := by
          conv => lhs; rw [← hw]
          rw [List.filter_append]
        have h3 : (x :: (rSort m).filter (fun y => bef x y)).filter p = ((rSort m).filter (fun y => bef x y)).filter p := by simp [hx]
        have h4 : [x].filter p = [] := by simp [hx]
        rw [List.filter_append, h3, ← h2, ← ih, h4, List.append_nil]
      | true =>
        simp only [List.filter_cons, hx, if_true, List.filter_nil]
        rw [rSort_snoc, ih, (rIns_filter x _ (hs.filter _)).1]
        simp [List.filter_append, hx, List.filter_filter, Bool.and_comm]
  have := key l.reverse
  simpa using this

theorem stableF_filter (p : Bun → Bool) (l : List Bun) : stableF cmpBun (l.filter p) = (stableF cmpBun l).filter p := by
  rw [← rSort_stable, ← rSort_stable, rSort_filter]
end Go.Proofs.Ytcnclcfipabimaa
namespace Go.Proofs.Ytcnclcfipabimaa
open Go.RowKit

/-- Must a zone know of an entity? -/
def gapZ (c : Cfg) (z x y : Int) : Int := gapF (zoneF c z).1 (zoneF c z).2.1 (zoneF c z).2.2.1 (zoneF c z).2.2.2 x y
def forB (c : Cfg) (z : Int) (b : Bun) : Bool := !(ofF c b.x b.y == z) && decide (gapZ c z b.x b.y ≤ c.radius)
def forF (c : Cfg) (z : Int) (l : List Bun) : List Bun := (stableF cmpBun l).filter (forB c z)

theorem gapR_any (z : Int × Int × Int × Int) (x y : Int) (w : World) :
    Calls Try.prog 59 #[rectV z, .int .i64 x, .int .i64 y] w fun e w' => e = .returned (.int .i64 (gapF z.1 z.2.1 z.2.2.1 z.2.2.2 x y)) ∧ Below w.heap.size w w' := gap_any _ _ _ _ x y w

set_option maxRecDepth 100000 in
set_option maxHeartbeats 2000000 in
theorem for_in (w : World) (b : Nat) (c : Cfg) (k : Int) (v : Value) (l : List Bun) (h : MapAt w b c) (ho : CfgOk c) (hk0 : 0 ≤ k) (hk1 : k < c.cols * c.rows) (hl : BIn w v l) (hn : l.length ≤ 1000) :
    Calls Try.prog 21 #[.pointer (some ⟨b, 0, none⟩), .int .i64 k, v] w fun e w' => ∃ v', e = .returned v' ∧ BNew w w' v' (forF c k l) := by
  obtain ⟨i0, hi0, hz0, hz1, hz2⟩ := info_parts info_bunJ
  have HC := Lib.hid (fun W hW => zcount_any W b c (h.grow hW) ho)
  have HZ := Lib.hid (fun W hW => zzone_any W b c k (h.grow hW) ho hk0 hk1)
  have HO := Lib.hid (fun x y W hW => zof_any W b c x y (h.grow hW) ho)
  have HSO := Lib.hid (fun W hW => sorted_any v l W (hl.keep hW) (by omega))
  have HG := Lib.hid (fun x y W => gapR_any (zoneF c k) x y W)
  have hb := (Array.getElem?_eq_some_iff.1 h).1
  have h3 := h.cell 3
  simp only [List.getElem?_toArray, List.getElem?_cons_succ, List.getElem?_cons_zero] at h3
  have hlsn : (stableF cmpBun l).length ≤ 1000 := by rw [stableF_len]; exact hn
  unfold forF
  have hfb : ∀ b : Bun, forB c k b = (!(ofF c b.x b.y == k) && decide (gapF (zoneF c k).1 (zoneF c k).2.1 (zoneF c k).2.2.1 (zoneF c k).2.2.2 b.x b.y ≤ c.radius)) := fun b => rfl
  generalize zoneF c k = z at *
  obtain ⟨z0, z1, z2, z3⟩ := z
  generalize forB c k = fb at *
  have HFB := Lib.hid hfb
  clear hfb
  generalize stableF cmpBun l = ls at *
  obtain ⟨p1, e1, rfl, _⟩ := hl
  have d1 : ¬ k < 0 := by omega
  have d2 : ¬ c.cols * c.rows ≤ k := by omega
  clear h ho
  go_enter Try.func21, Try.ntmps21
  go_wp2_with fail
  refine (HC.out _ (by repeat' (first | (with_reducible exact Below.refl _ _) | (with_reducible assumption) | (with_reducible refine below_drewN ?_ _) | (with_reducible refine below_more _ _ _ ?_ ?_) | (with_reducible refine Below.alloc ?_ ?_ _) | (with_reducible refine Below.drew ?_) | (with_reducible refine Below.setCell ?_ ?_ _) | go_size))).mono ?_; rintro e w' ⟨rfl, hb'⟩; obtain ⟨d, os, rfl⟩ := more_of hb'; clear hb'
  go_wp2_with fail
  refine (HZ.out _ (by repeat' (first | (with_reducible exact Below.refl _ _) | (with_reducible assumption) | (with_reducible refine below_drewN ?_ _) | (with_reducible refine below_more _ _ _ ?_ ?_) | (with_reducible refine Below.alloc ?_ ?_ _) | (with_reducible refine Below.drew ?_) | (with_reducible refine Below.setCell ?_ ?_ _) | go_size))).mono ?_; rintro e w' ⟨rfl, hb'⟩; obtain ⟨d0, os0, rfl⟩ := more_of hb'; clear hb'
  rw [show rectV (z0, z1, z2, z3) = .agg #[.int .i64 z0, .int .i64 z1, .int .i64 z2, .int .i64 z3] from rfl]
  go_wp2_with fail
  refine (HSO.out _ (by repeat' (first | (with_reducible exact Below.refl _ _) | (with_reducible assumption) | (with_reducible refine below_drewN ?_ _) | (with_reducible refine below_more _ _ _ ?_ ?_) | (with_reducible refine Below.alloc ?_ ?_ _) | (with_reducible refine Below.drew ?_) | (with_reducible refine Below.setCell ?_ ?_ _) | go_size))).mono ?_
  rintro e w2 ⟨vs, rfl, hS⟩
  obtain ⟨ps, cs, rfl⟩ := sl_frm hS.1
  have hsz := hS.2.1.size
  have hbw : Below w.heap.size w w2 := Below.trans (b := (more (more w d os) d0 os0).alloc (.cells #[.int .i64 z0, .int .i64 z1, .int .i64 z2, .int .i64 z3] 72)) (by repeat' (first | (with_reducible exact Below.refl _ _) | (with_reducible assumption) | (with_reducible refine below_drewN ?_ _) | (with_reducible refine below_more _ _ _ ?_ ?_) | (with_reducible refine Below.alloc ?_ ?_ _) | (with_reducible refine Below.drew ?_) | (with_reducible refine Below.setCell ?_ ?_ _) | go_size)) (hS.2.1.mono (by simp; omega))
  have q7 : ∀ u, w2.cell? ⟨w.heap.size + os.size + os0.size, u, none⟩ = (#[.int .i64 z0, .int .i64 z1, .int .i64 z2, .int .i64 z3] : Array Value)[u]? := fun u => (hS.2.1.cell (p := ⟨w.heap.size + os.size + os0.size, u, none⟩) (by simp)).trans (alloc_cells _ _ _ _ _ (by simp))
  have s7 : w.heap.size + os.size + os0.size < w2.heap.size := by simp at hsz; omega
  have q3 := (hbw.cell (p := ⟨b, 3, none⟩) hb).trans h3
  have sb : b < w2.heap.size := Nat.lt_of_lt_of_le hb hbw.size
  have sw := hbw.size
  have HS := Lib.hid hS
  have HBW := Lib.hid hbw
  generalize w.heap.size + os.size + os0.size = n7 at *
  have Q7 := Lib.hid q7
  clear hS hbw q7 hsz h3
  go_wp2_with fail
  go_loopg [8, 29] ls.length (fun kx o sx wr => ∃ t : Nat, sx = .int .i64 t ∧ t ≤ ls.length ∧ ls.length - t ≤ kx ∧ Hid (BNew w2 wr o ((ls.take t).filter fb)) ∧ Hid (((ls.take t).filter fb).length ≤ t))
  case atStart => exact ⟨0, by go_num, by omega, by omega, Lib.hid (BNew.nil w2), Lib.hid (Nat.le_refl _)⟩
  case round =>
    obtain ⟨t, rfl, ht, hkx, HN, HNL⟩ := hrel
    obtain ⟨wa, rfl⟩ : ∃ wa : World, wa = wr := ⟨_, rfl⟩
    have hbl := HN.out.2.1
    have hsl := hbl.size
    have y3 := (hbl.cell (p := ⟨b, 3, none⟩) sb).trans q3
    have y70 := (hbl.cell (p := ⟨n7, 0, none⟩) s7).trans (Q7.out 0); simp at y70; have y71 := (hbl.cell (p := ⟨n7, 1, none⟩) s7).trans (Q7.out 1); simp at y71; have y72 := (hbl.cell (p := ⟨n7, 2, none⟩) s7).trans (Q7.out 2); simp at y72; have y73 := (hbl.cell (p := ⟨n7, 3, none⟩) s7).trans (Q7.out 3); simp at y73
    have sba : b < wa.heap.size := by omega
    have s7a : n7 < wa.heap.size := by omega
    obtain ⟨f0, f1, f2⟩ := ltz sba
    obtain ⟨f3, f4, f5⟩ := ltz s7a
    have HBL := Lib.hid hbl
    clear hbl
    by_cases hlt : t < ls.length
    · have t1 : (t : Int) < (ls.length : Int) := by omega
      obtain ⟨x0, hx0⟩ : ∃ x0, ls[t]? = some x0 := ⟨_, List.getElem?_eq_getElem hlt⟩
      obtain ⟨gb, ob, cb, hv, hgb, hcb⟩ := (HS.out.bin.keep HBL.out).cells hx0
      simp only [Value.slice.injEq, true_and] at hv
      obtain ⟨rfl, rfl⟩ := hv
      have c0 := hcb 0 _ rfl
      have c1 := hcb 1 _ rfl
      have c2 := hcb 2 _ rfl
      have c3 := hcb 3 _ rfl
      have c4 := hcb 4 _ rfl
      have c5 := hcb 5 _ rfl
      have c6 := hcb 6 _ rfl
      have c7 := hcb 7 _ rfl
      have c8 := hcb 8 _ rfl
      have c9 := hcb 9 _ rfl
      have c10 := hcb 10 _ rfl
      simp only [Nat.add_zero] at c0
      obtain ⟨po, co, hpo⟩ := sl_frm HN.out.1
      subst hpo
      have hstep : (ls.take (t + 1)).filter fb = (ls.take t).filter fb ++ (if fb x0 then [x0] else []) := by
        rw [List.take_succ_eq_append_getElem hlt, List.filter_append, show ls[t] = x0 from by have := List.getElem?_eq_getElem hlt; rw [hx0] at this; exact (Option.some.inj this).symm]
        cases hh : fb x0 <;> simp [hh]
      have HST := Lib.hid hstep
      have hfx := HFB.out x0
      have HOX := Lib.hid (fun W (hW : Below wa.heap.size wa W) => HO.out x0.x x0.y W (HBW.out.trans (Below.mono (HBL.out.trans (hW.mono hsl)) sw)))
      have HGX := Lib.hid (HG.out x0.x x0.y)
      generalize ofF c x0.x x0.y = oz at *
      try simp only at HGX hfx
      generalize gapF z0 z1 z2 z3 x0.x x0.y = gz at *
      obtain ⟨e0, e1', e2'⟩ := ltz hgb
      clear hcb hx0 hstep
      generalize hacc : (ls.take t).filter fb = acc at *
      have hal := HNL.out
      clear hacc HNL
      obtain ⟨s, i, g, m, x, y, vx, vy, hp, pw, lf⟩ := x0
      
      cases h1 : (oz == k) with
      | true =>
        have hne : (oz != k) = false := by simp at h1 ⊢; exact h1
        rw [h1] at hfx
        rw [show fb ⟨s, i, g, m, x, y, vx, vy, hp, pw, lf⟩ = false by rw [hfx]; rfl] at HST
        have HS2 := Lib.hid HST.out
        clear hfx HST
        go_wp2_with fail
        refine wp_region_more (by kernel_rfl) (by kernel_rfl) ?_
        repeat (go_big_quiet_step ((first | (go_at_call 53; exact more_call (HOX.out _ (by repeat' (first | (with_reducible exact Below.refl _ _) | (with_reducible assumption) | (with_reducible refine below_drewN ?_ _) | (with_reducible refine below_more _ _ _ ?_ ?_) | (with_reducible refine Below.alloc ?_ ?_ _) | (with_reducible refine Below.drew ?_) | (with_reducible refine Below.setCell ?_ ?_ _) | go_size)))) | (go_at_call 59; exact more_call (HGX.out _)))))
        refine wpQuiet_nil ?_
        rintro _ ⟨pq, rfl⟩
        go_wp2_with fail
        go_roundg (ls.length - (t + 1))
        case measure => omega
        case rel => exact ⟨t + 1, by go_num, by omega, by omega, Lib.hid (by rw [HS2.out]; simpa using HN.out.grow (by repeat' (first | (with_reducible exact Below.refl _ _) | (with_reducible assumption) | (with_reducible refine below_drewN ?_ _) | (with_reducible refine below_more _ _ _ ?_ ?_) | (with_reducible refine Below.alloc ?_ ?_ _) | (with_reducible refine Below.drew ?_) | (with_reducible refine Below.setCell ?_ ?_ _) | go_size))), Lib.hid (by rw [HS2.out]; simp; omega)⟩
      | false =>
        have hne : (oz != k) = true := by simp at h1 ⊢; exact h1
        rw [h1] at hfx
        cases h2 : decide (gz ≤ c.radius) with
        | false =>
          rw [h2] at hfx
          rw [show fb ⟨s, i, g, m, x, y, vx, vy, hp, pw, lf⟩ = false by rw [hfx]; rfl] at HST
          have HS2 := Lib.hid HST.out
          clear hfx HST
          go_wp2_with fail
          refine wp_region_more (by kernel_rfl) (by kernel_rfl) ?_
          repeat (go_big_quiet_step ((first | (go_at_call 53; exact more_call (HOX.out _ (by repeat' (first | (with_reducible exact Below.refl _ _) | (with_reducible assumption) | (with_reducible refine below_drewN ?_ _) | (with_reducible refine below_more _ _ _ ?_ ?_) | (with_reducible refine Below.alloc ?_ ?_ _) | (with_reducible refine Below.drew ?_) | (with_reducible refine Below.setCell ?_ ?_ _) | go_size)))) | (go_at_call 59; exact more_call (HGX.out _)))))
          refine wpQuiet_nil ?_
          rintro _ ⟨pq, rfl⟩
          go_wp2_with fail
          go_roundg (ls.length - (t + 1))
          case measure => omega
          case rel => exact ⟨t + 1, by go_num, by omega, by omega, Lib.hid (by rw [HS2.out]; simpa using HN.out.grow (by repeat' (first | (with_reducible exact Below.refl _ _) | (with_reducible assumption) | (with_reducible refine below_drewN ?_ _) | (with_reducible refine below_more _ _ _ ?_ ?_) | (with_reducible refine Below.alloc ?_ ?_ _) | (with_reducible refine Below.drew ?_) | (with_reducible refine Below.setCell ?_ ?_ _) | go_size))), Lib.hid (by rw [HS2.out]; simp; omega)⟩
        | true =>
          rw [h2] at hfx
          rw [show fb ⟨s, i, g, m, x, y, vx, vy, hp, pw, lf⟩ = true by rw [hfx]; rfl] at HST
          have HS2 := Lib.hid HST.out
          clear hfx HST
          go_wp2_with fail
          refine wp_region_more (by kernel_rfl) (by kernel_rfl) ?_
          repeat (go_big_quiet_step ((first | (go_at_call 53; exact more_call (HOX.out _ (by repeat' (first | (with_reducible exact Below.refl _ _) | (with_reducible assumption) | (with_reducible refine below_drewN ?_ _) | (with_reducible refine below_more _ _ _ ?_ ?_) | (with_reducible refine Below.alloc ?_ ?_ _) | (with_reducible refine Below.drew ?_) | (with_reducible refine Below.setCell ?_ ?_ _) | go_size)))) | (go_at_call 59; exact more_call (HGX.out _)))))
          refine wpQuiet_nil ?_
          rintro _ ⟨pq, rfl⟩
          go_wp2_with (at_builtin; refine wpList_append_sl _ (by rfl) _ _ 24 (by rfl) 41 i0 _ 11 88 Try.underlying24 hi0 hz0 hz1 hz2 rfl (by omega) _ acc.length (bunCells acc) (by rfl) (HN.out.grow (by repeat' (first | (with_reducible exact Below.refl _ _) | (with_reducible assumption) | (with_reducible refine below_drewN ?_ _) | (with_reducible refine below_more _ _ _ ?_ ?_) | (with_reducible refine Below.alloc ?_ ?_ _) | (with_reducible refine Below.drew ?_) | (with_reducible refine Below.setCell ?_ ?_ _) | go_size))).1 ⟨_, 0, none⟩ 1 1 (bunL ⟨s, i, g, m, x, y, vx, vy, hp, pw, lf⟩) (by rfl) (by rfl) (new_cellsN _ _ _ _ (by simp)) (bunL_one _) (by omega) (by unfold maxLen; omega) (by omega) ?_; intro v' w4 hs4 ht4 ho4)
          have hm := (HN.out.grow (by repeat' (first | (with_reducible exact Below.refl _ _) | (with_reducible assumption) | (with_reducible refine below_drewN ?_ _) | (with_reducible refine below_more _ _ _ ?_ ?_) | (with_reducible refine Below.alloc ?_ ?_ _) | (with_reducible refine Below.drew ?_) | (with_reducible refine Below.setCell ?_ ?_ _) | go_size))).snoc hs4 ht4 ho4
          have HM := Lib.hid hm
          clear hs4 ht4 ho4 hm
          go_roundg (ls.length - (t + 1))
          case measure => omega
          case rel => exact ⟨t + 1, by go_num, by omega, by omega, Lib.hid (by rw [HS2.out]; simpa using HM.out), Lib.hid (by rw [HS2.out]; simp; omega)⟩
    · have t1 : ¬ (t : Int) < (ls.length : Int) := by omega
      obtain rfl : t = ls.length := by omega
      rw [List.take_length] at HN
      go_wp2_with fail
      go_ret
      exact ⟨_, rfl, HN.out.1, HBW.out.trans (HN.out.2.1.mono sw), fun g hg => Nat.le_trans sw (HN.out.2.2 g hg)⟩
end Go.Proofs.Ytcnclcfipabimaa
namespace Go.Proofs.Ytcnclcfipabimaa
open Go.RowKit

theorem BNew.none {w w' : World} (h : Below w.heap.size w w') : BNew w w' (.slice none 0 0) [] := ⟨(BNew.nil w').1, h, fun g hg => by cases hg⟩

theorem for_nil (w : World) (k : Int) (v : Value) :
    Calls Try.prog 21 #[.pointer none, .int .i64 k, v] w fun e w' => ∃ v', e = .returned v' ∧ BNew w w' v' [] := by
  go_enter Try.func21, Try.ntmps21
  go_wp2_with fail
  go_ret
  exact ⟨_, rfl, BNew.none (by repeat' (first | (with_reducible exact Below.refl _ _) | (with_reducible assumption) | (with_reducible refine below_drewN ?_ _) | (with_reducible refine below_more _ _ _ ?_ ?_) | (with_reducible refine Below.alloc ?_ ?_ _) | (with_reducible refine Below.drew ?_) | (with_reducible refine Below.setCell ?_ ?_ _) | go_size))⟩

theorem for_out (w : World) (b : Nat) (c : Cfg) (k : Int) (v : Value) (h : MapAt w b c) (ho : CfgOk c) (hk : ¬ (0 ≤ k ∧ k < c.cols * c.rows)) :
    Calls Try.prog 21 #[.pointer (some ⟨b, 0, none⟩), .int .i64 k, v] w fun e w' => ∃ v', e = .returned v' ∧ BNew w w' v' [] := by
  have HC := Lib.hid (fun W hW => zcount_any W b c (h.grow hW) ho)
  clear h ho
  generalize c.cols * c.rows = cnt at *
  by_cases h0 : k < 0
  · go_enter Try.func21, Try.ntmps21
    go_wp2_with fail
    go_ret
    exact ⟨_, rfl, BNew.none (by repeat' (first | (with_reducible exact Below.refl _ _) | (with_reducible assumption) | (with_reducible refine below_drewN ?_ _) | (with_reducible refine below_more _ _ _ ?_ ?_) | (with_reducible refine Below.alloc ?_ ?_ _) | (with_reducible refine Below.drew ?_) | (with_reducible refine Below.setCell ?_ ?_ _) | go_size))⟩
  · have h1 : cnt ≤ k := by omega
    go_enter Try.func21, Try.ntmps21
    go_wp2_with fail
    refine (HC.out _ (by repeat' (first | (with_reducible exact Below.refl _ _) | (with_reducible assumption) | (with_reducible refine below_drewN ?_ _) | (with_reducible refine below_more _ _ _ ?_ ?_) | (with_reducible refine Below.alloc ?_ ?_ _) | (with_reducible refine Below.drew ?_) | (with_reducible refine Below.setCell ?_ ?_ _) | go_size))).mono ?_; rintro e w' ⟨rfl, hb'⟩; obtain ⟨d, os, rfl⟩ := more_of hb'; clear hb'
    go_wp2_with fail
    go_ret
    exact ⟨_, rfl, BNew.none (by repeat' (first | (with_reducible exact Below.refl _ _) | (with_reducible assumption) | (with_reducible refine below_drewN ?_ _) | (with_reducible refine below_more _ _ _ ?_ ?_) | (with_reducible refine Below.alloc ?_ ?_ _) | (with_reducible refine Below.drew ?_) | (with_reducible refine Below.setCell ?_ ?_ _) | go_size))⟩
end Go.Proofs.Ytcnclcfipabimaa
namespace Go.Proofs.Ytcnclcfipabimaa
open Go.RowKit

theorem BNew.since {w0 w w' : World} {v : Value} {l : List Bun} (h : BNew w w' v l) (hb : Below w0.heap.size w0 w) : BNew w0 w' v l :=
  ⟨h.1, hb.trans (h.2.1.mono hb.size), fun g hg => Nat.le_trans hb.size (h.2.2 g hg)⟩
theorem rGapR_any (z : Int × Int × Int × Int) (x y : Int) (w : World) :
    Calls Try.prog 37 #[rectV z, .int .i64 x, .int .i64 y] w fun e w' => e = .returned (.int .i64 (gapF z.1 z.2.1 z.2.2.1 z.2.2.2 x y)) ∧ Below w.heap.size w w' := rGap_any _ _ _ _ x y w

set_option maxRecDepth 100000 in
set_option maxHeartbeats 2000000 in
theorem rfor_in (cols rows side radius speed ids queue : Int) (k : Int) (v : Value) (l : List Bun) (w : World) (ho : CfgOk ⟨cols, rows, side, radius, speed, ids, queue⟩) (hk0 : 0 ≤ k) (hk1 : k < cols * rows) (hl : BIn w v l) (hn : l.length ≤ 1000) :
    Calls Try.prog 22 #[.agg #[.int .i64 cols, .int .i64 rows, .int .i64 side, .int .i64 radius, .int .i64 speed, .int .i64 ids, .int .i64 queue], .int .i64 k, v] w fun e w' => ∃ v', e = .returned v' ∧ BNew w w' v' (forF ⟨cols, rows, side, radius, speed, ids, queue⟩ k l) := by
  obtain ⟨i0, hi0, hz0, hz1, hz2⟩ := info_parts info_bunJ
  obtain ⟨n1, n2⟩ := ho.cnt
  simp only at n1 n2
  have HZ := Lib.hid (fun W => rzone_any cols rows side radius speed ids queue k W ho)
  have HO := Lib.hid (fun x y W => rof_any cols rows side radius speed ids queue x y W ho)
  have HG := Lib.hid (fun x y W => rGapR_any (zoneF ⟨cols, rows, side, radius, speed, ids, queue⟩ k) x y W)
  have HSO := Lib.hid (fun (v : Value) (l : List Bun) W h hl => rsorted_any v l W h hl)
  have HL := Lib.hid hl
  have hff : forF ⟨cols, rows, side, radius, speed, ids, queue⟩ k l = stableF cmpBun (l.filter (forB ⟨cols, rows, side, radius, speed, ids, queue⟩ k)) := (stableF_filter _ _).symm
  rw [hff]
  clear hff ho
  have hfb : ∀ b : Bun, forB ⟨cols, rows, side, radius, speed, ids, queue⟩ k b = (!(ofF ⟨cols, rows, side, radius, speed, ids, queue⟩ b.x b.y == k) && decide (gapF (zoneF ⟨cols, rows, side, radius, speed, ids, queue⟩ k).1 (zoneF ⟨cols, rows, side, radius, speed, ids, queue⟩ k).2.1 (zoneF ⟨cols, rows, side, radius, speed, ids, queue⟩ k).2.2.1 (zoneF ⟨cols, rows, side, radius, speed, ids, queue⟩ k).2.2.2 b.x b.y ≤ radius)) := fun b => rfl
  generalize zoneF ⟨cols, rows, side, radius, speed, ids, queue⟩ k = z at *
  obtain ⟨z0, z1, z2, z3⟩ := z
  generalize forB ⟨cols, rows, side, radius, speed, ids, queue⟩ k = fb at *
  generalize ofF ⟨cols, rows, side, radius, speed, ids, queue⟩ = of at *
  have HFB := Lib.hid hfb
  clear hfb
  obtain ⟨cnt, hcnt⟩ : ∃ cnt : Nat, cols * rows = (cnt : Int) := ⟨(cols * rows).toNat, by omega⟩
  rw [hcnt] at hk1 n1 n2
  have v1 : IntKind.i64.wrap (cols * rows) = (cnt : Int) := by rw [hcnt, IntKind.wrap_i64]; omega
  clear hcnt
  have d1 : ¬ k < 0 := by omega
  have d2 : ¬ (cnt : Int) ≤ k := by omega
  obtain ⟨p1, e1, rfl, _⟩ := hl
  go_enter Try.func22, Try.ntmps22
  go_wp2_with fail
  refine (HZ.out _).mono ?_; rintro e w' ⟨rfl, hb'⟩; obtain ⟨d, os, rfl⟩ := more_of hb'; clear hb'
  rw [show rectV (z0, z1, z2, z3) = .agg #[.int .i64 z0, .int .i64 z1, .int .i64 z2, .int .i64 z3] from rfl]
  go_upto_region 5 with fail
  generalize hw1 : World.alloc (more _ _ _) _ = w1
  have hb1 : Below w.heap.size w w1 := by rw [← hw1]; exact (by repeat' (first | (with_reducible exact Below.refl _ _) | (with_reducible assumption) | (with_reducible refine below_drewN ?_ _) | (with_reducible refine below_more _ _ _ ?_ ?_) | (with_reducible refine Below.alloc ?_ ?_ _) | (with_reducible refine Below.drew ?_) | (with_reducible refine Below.setCell ?_ ?_ _) | go_size))
  have hcf : ∀ u, w1.cell? ⟨w.heap.size, u, none⟩ = (#[.int .i64 cols, .int .i64 rows, .int .i64 side, .int .i64 radius, .int .i64 speed, .int .i64 ids, .int .i64 queue] : Array Value)[u]? := fun u => by
    rw [← hw1, Below.cell (B := w.heap.size + 1) (w := w.alloc (.cells #[.int .i64 cols, .int .i64 rows, .int .i64 side, .int .i64 radius, .int .i64 speed, .int .i64 ids, .int .i64 queue] 23)) (by repeat' (first | (with_reducible exact Below.refl _ _) | (with_reducible assumption) | (with_reducible refine below_drewN ?_ _) | (with_reducible refine below_more _ _ _ ?_ ?_) | (with_reducible refine Below.alloc ?_ ?_ _) | (with_reducible refine Below.drew ?_) | (with_reducible refine Below.setCell ?_ ?_ _) | go_size)) (by simp)]; simp
  have hcg : ∀ u, w1.cell? ⟨w.heap.size + 1 + os.size, u, none⟩ = (#[.int .i64 z0, .int .i64 z1, .int .i64 z2, .int .i64 z3] : Array Value)[u]? := fun u => by rw [← hw1]; exact alloc_cells _ _ _ _ _ (by simp)
  have hs8 : w.heap.size + 1 + os.size < w1.heap.size := by rw [← hw1]; simp
  have hs2 : w.heap.size < w1.heap.size := by omega
  generalize w.heap.size + 1 + os.size = n8 at *
  have HB1 := Lib.hid hb1
  have HCF := Lib.hid hcf
  have HCG := Lib.hid hcg
  clear hb1 hcf hcg hw1
  go_wp2_with fail
  go_loopg [7, 9] l.length (fun kx o sx wr => ∃ t : Nat, sx = .int .i64 t ∧ t ≤ l.length ∧ l.length - t ≤ kx ∧ Hid (BNew w1 wr o ((l.take t).filter fb)) ∧ Hid (((l.take t).filter fb).length ≤ t))
  case atStart => exact ⟨0, by go_num, by omega, by omega, Lib.hid (BNew.nil w1), Lib.hid (Nat.le_refl _)⟩
  case round =>
    obtain ⟨t, rfl, ht, hkx, HN, HNL⟩ := hrel
    obtain ⟨wa, rfl⟩ : ∃ wa : World, wa = wr := ⟨_, rfl⟩
    have hbl := HN.out.2.1
    have hsl := hbl.size
    have x0 := (hbl.cell (p := ⟨w.heap.size, 0, none⟩) hs2).trans (HCF.out 0); simp at x0
    have x1 := (hbl.cell (p := ⟨w.heap.size, 1, none⟩) hs2).trans (HCF.out 1); simp at x1
    have x2 := (hbl.cell (p := ⟨w.heap.size, 2, none⟩) hs2).trans (HCF.out 2); simp at x2
    have x3 := (hbl.cell (p := ⟨w.heap.size, 3, none⟩) hs2).trans (HCF.out 3); simp at x3
    have x4 := (hbl.cell (p := ⟨w.heap.size, 4, none⟩) hs2).trans (HCF.out 4); simp at x4
    have x5 := (hbl.cell (p := ⟨w.heap.size, 5, none⟩) hs2).trans (HCF.out 5); simp at x5
    have x6 := (hbl.cell (p := ⟨w.heap.size, 6, none⟩) hs2).trans (HCF.out 6); simp at x6
    have y80 := (hbl.cell (p := ⟨n8, 0, none⟩) hs8).trans (HCG.out 0); simp at y80
    have y81 := (hbl.cell (p := ⟨n8, 1, none⟩) hs8).trans (HCG.out 1); simp at y81
    have y82 := (hbl.cell (p := ⟨n8, 2, none⟩) hs8).trans (HCG.out 2); simp at y82
    have y83 := (hbl.cell (p := ⟨n8, 3, none⟩) hs8).trans (HCG.out 3); simp at y83
    have s2a : w.heap.size < wa.heap.size := by omega
    have s8a : n8 < wa.heap.size := by omega
    obtain ⟨f0, f1, f2⟩ := ltz s2a
    obtain ⟨f3, f4, f5⟩ := ltz s8a
    have HBL := Lib.hid hbl
    clear hbl
    by_cases hlt : t < l.length
    · have t1 : (t : Int) < (l.length : Int) := by omega
      obtain ⟨x0, hx0⟩ : ∃ x0, l[t]? = some x0 := ⟨_, List.getElem?_eq_getElem hlt⟩
      obtain ⟨gb, ob, cb, hv, hgb, hcb⟩ := (HL.out.keep (HB1.out.trans (HBL.out.mono HB1.out.size))).cells hx0
      simp only [Value.slice.injEq, true_and] at hv
      obtain ⟨rfl, rfl⟩ := hv
      have c0 := hcb 0 _ rfl
      have c1 := hcb 1 _ rfl
      have c2 := hcb 2 _ rfl
      have c3 := hcb 3 _ rfl
      have c4 := hcb 4 _ rfl
      have c5 := hcb 5 _ rfl
      have c6 := hcb 6 _ rfl
      have c7 := hcb 7 _ rfl
      have c8 := hcb 8 _ rfl
      have c9 := hcb 9 _ rfl
      have c10 := hcb 10 _ rfl
      simp only [Nat.add_zero] at c0
      obtain ⟨po, co, hpo⟩ := sl_frm HN.out.1
      subst hpo
      have hstep : (l.take (t + 1)).filter fb = (l.take t).filter fb ++ (if fb x0 then [x0] else []) := by
        rw [List.take_succ_eq_append_getElem hlt, List.filter_append, show l[t] = x0 from by have := List.getElem?_eq_getElem hlt; rw [hx0] at this; exact (Option.some.inj this).symm]
        cases hh : fb x0 <;> simp [hh]
      have HST := Lib.hid hstep
      have hfx := HFB.out x0
      have HOX := Lib.hid (HO.out x0.x x0.y)
      have HGX := Lib.hid (HG.out x0.x x0.y)
      generalize of x0.x x0.y = oz at *
      try simp only at HGX hfx
      generalize gapF z0 z1 z2 z3 x0.x x0.y = gz at *
      obtain ⟨e0, e1', e2'⟩ := ltz hgb
      clear hcb hx0 hstep
      generalize hacc : (l.take t).filter fb = acc at *
      have hal := HNL.out
      clear hacc HNL
      obtain ⟨s, i, g, m, x, y, vx, vy, hp, pw, lf⟩ := x0
      try simp only at HOX HGX hfx
      
      cases h1 : (oz == k) with
      | true =>
        have heq : oz = k := by simpa using h1
        rw [h1] at hfx
        rw [show fb ⟨s, i, g, m, x, y, vx, vy, hp, pw, lf⟩ = false by rw [hfx]; rfl] at HST
        have HS2 := Lib.hid HST.out
        clear hfx HST
        go_wp2_with fail
        refine wp_region_more (by kernel_rfl) (by kernel_rfl) ?_
        repeat (go_big_quiet_step (fail))
        refine wpQuiet_nil ?_
        rintro _ ⟨p8, rfl⟩
        go_wp2_with fail
        refine (HOX.out _).mono ?_; rintro e w' ⟨rfl, hb'⟩; obtain ⟨do1, oso1, rfl⟩ := more_of hb'; clear hb'
        go_wp2_with fail
        go_roundg (l.length - (t + 1))
        case measure => omega
        case rel => exact ⟨t + 1, by go_num, by omega, by omega, Lib.hid (by rw [HS2.out]; simpa using HN.out.grow (by repeat' (first | (with_reducible exact Below.refl _ _) | (with_reducible assumption) | (with_reducible refine below_drewN ?_ _) | (with_reducible refine below_more _ _ _ ?_ ?_) | (with_reducible refine Below.alloc ?_ ?_ _) | (with_reducible refine Below.drew ?_) | (with_reducible refine Below.setCell ?_ ?_ _) | go_size))), Lib.hid (by rw [HS2.out]; simp; omega)⟩
      | false =>
        have heq : ¬ oz = k := by simpa using h1
        rw [h1] at hfx
        cases h2 : decide (gz ≤ radius) with
        | false =>
          rw [h2] at hfx
          rw [show fb ⟨s, i, g, m, x, y, vx, vy, hp, pw, lf⟩ = false by rw [hfx]; rfl] at HST
          have HS2 := Lib.hid HST.out
          clear hfx HST
          go_wp2_with fail
          refine wp_region_more (by kernel_rfl) (by kernel_rfl) ?_
          repeat (go_big_quiet_step (fail))
          refine wpQuiet_nil ?_
          rintro _ ⟨p8, rfl⟩
          go_wp2_with fail
          refine (HOX.out _).mono ?_; rintro e w' ⟨rfl, hb'⟩; obtain ⟨do1, oso1, rfl⟩ := more_of hb'; clear hb'
          go_wp2_with fail
          refine wp_region_more (by kernel_rfl) (by kernel_rfl) ?_
          repeat (go_big_quiet_step ((first | (go_at_call 37; exact more_call (HGX.out _)))))
          refine wpQuiet_nil ?_
          rintro _ ⟨pq, rfl⟩
          go_wp2_with fail
          go_roundg (l.length - (t + 1))
          case measure => omega
          case rel => exact ⟨t + 1, by go_num, by omega, by omega, Lib.hid (by rw [HS2.out]; simpa using HN.out.grow (by repeat' (first | (with_reducible exact Below.refl _ _) | (with_reducible assumption) | (with_reducible refine below_drewN ?_ _) | (with_reducible refine below_more _ _ _ ?_ ?_) | (with_reducible refine Below.alloc ?_ ?_ _) | (with_reducible refine Below.drew ?_) | (with_reducible refine Below.setCell ?_ ?_ _) | go_size))), Lib.hid (by rw [HS2.out]; simp; omega)⟩
        | true =>
          rw [h2] at hfx
          rw [show fb ⟨s, i, g, m, x, y, vx, vy, hp, pw, lf⟩ = true by rw [hfx]; rfl] at HST
          have HS2 := Lib.hid HST.out
          clear hfx HST
          go_wp2_with fail
          refine wp_region_more (by kernel_rfl) (by kernel_rfl) ?_
          repeat (go_big_quiet_step (fail))
          refine wpQuiet_nil ?_
          rintro _ ⟨p8, rfl⟩
          go_wp2_with fail
          refine (HOX.out _).mono ?_; rintro e w' ⟨rfl, hb'⟩; obtain ⟨do1, oso1, rfl⟩ := more_of hb'; clear hb'
          go_wp2_with fail
          refine wp_region_more (by kernel_rfl) (by kernel_rfl) ?_
          repeat (go_big_quiet_step ((first | (go_at_call 37; exact more_call (HGX.out _)))))
          refine wpQuiet_nil ?_
          rintro _ ⟨pq, rfl⟩
          go_wp2_with (at_builtin; refine wpList_append_sl _ (by rfl) _ _ 24 (by rfl) 41 i0 _ 11 88 Try.underlying24 hi0 hz0 hz1 hz2 rfl (by omega) _ acc.length (bunCells acc) (by rfl) (HN.out.grow (by repeat' (first | (with_reducible exact Below.refl _ _) | (with_reducible assumption) | (with_reducible refine below_drewN ?_ _) | (with_reducible refine below_more _ _ _ ?_ ?_) | (with_reducible refine Below.alloc ?_ ?_ _) | (with_reducible refine Below.drew ?_) | (with_reducible refine Below.setCell ?_ ?_ _) | go_size))).1 ⟨_, 0, none⟩ 1 1 (bunL ⟨s, i, g, m, x, y, vx, vy, hp, pw, lf⟩) (by rfl) (by rfl) (new_cellsN _ _ _ _ (by simp)) (bunL_one _) (by omega) (by unfold maxLen; omega) (by omega) ?_; intro v' w4 hs4 ht4 ho4)
          have hm := (HN.out.grow (by repeat' (first | (with_reducible exact Below.refl _ _) | (with_reducible assumption) | (with_reducible refine below_drewN ?_ _) | (with_reducible refine below_more _ _ _ ?_ ?_) | (with_reducible refine Below.alloc ?_ ?_ _) | (with_reducible refine Below.drew ?_) | (with_reducible refine Below.setCell ?_ ?_ _) | go_size))).snoc hs4 ht4 ho4
          have HM := Lib.hid hm
          clear hs4 ht4 ho4 hm
          go_roundg (l.length - (t + 1))
          case measure => omega
          case rel => exact ⟨t + 1, by go_num, by omega, by omega, Lib.hid (by rw [HS2.out]; simpa using HM.out), Lib.hid (by rw [HS2.out]; simp; omega)⟩
    · have t1 : ¬ (t : Int) < (l.length : Int) := by omega
      obtain rfl : t = l.length := by omega
      rw [List.take_length] at HN HNL
      obtain ⟨po, co, hpo⟩ := sl_frm HN.out.1
      subst hpo
      generalize hlf : l.filter fb = lf at *
      have HLF := Lib.hid hlf
      clear hlf
      have HSL := Lib.hid (HSO.out _ lf wa HN.out.bin (by have := HNL.out; omega))
      go_wp2_with fail
      refine HSL.out.mono ?_
      rintro e w3 ⟨v3, rfl, hS⟩
      go_wp2_with fail
      go_ret
      exact ⟨_, rfl, by rw [HLF.out]; exact hS.since (HB1.out.trans (HN.out.2.1.mono HB1.out.size))⟩
end Go.Proofs.Ytcnclcfipabimaa
