/-
  DeskAgain: for any config and any two lists of deeds the law returns true, and the arguments stay as they were. No condition.
-/
import Derived.Test.YtbghjklnlhoklaaMk23
import Derived.Test.YtbghjklnlhoklaaRdC
import Derived.Test.YtbghjklnlhoklaaDkK
import Derived.Test.YtbghjklnlhoklaaCmL
namespace Go.Proofs.Ytbghjklnlhoklaa.deskAgain
open Go.ChangeShapes Go.WideShapes Go.ChangeAt Go.RowKit

theorem new_dedO (W : World) (d : Ded) : ∃ w5, (stDd ⟨W.heap.size, 0, none⟩ (.agg (dedL d).toArray)).run Try.prog (W.alloc (.cells #[.int .i64 0, .int .i64 0, .int .i64 0, .int .i64 0, .int .i64 0, .int .i64 0, .int .i64 0, .int .i64 0, .int .i64 0, .int .i64 0, .int .i64 0, .int .i64 0, .int .i64 0, .int .i64 0, .int .i64 0, .int .i64 0, .int .i64 0, .slice none 0 0] 40)) = .ok () w5 ∧ Made W w5 (boxO W.heap.size (dedL d).toArray 40) := by
  obtain ⟨k5, g5, s5, b5⟩ := new_box W #[.int .i64 0, .int .i64 0, .int .i64 0, .int .i64 0, .int .i64 0, .int .i64 0, .int .i64 0, .int .i64 0, .int .i64 0, .int .i64 0, .int .i64 0, .int .i64 0, .int .i64 0, .int .i64 0, .int .i64 0, .int .i64 0, .int .i64 0, .slice none 0 0] 40 W.heap.size rfl
  have hh := heap_alloc_new W (.cells #[.int .i64 0, .int .i64 0, .int .i64 0, .int .i64 0, .int .i64 0, .int .i64 0, .int .i64 0, .int .i64 0, .int .i64 0, .int .i64 0, .int .i64 0, .int .i64 0, .int .i64 0, .int .i64 0, .int .i64 0, .int .i64 0, .int .i64 0, .slice none 0 0] 40)
  generalize W.alloc (.cells #[.int .i64 0, .int .i64 0, .int .i64 0, .int .i64 0, .int .i64 0, .int .i64 0, .int .i64 0, .int .i64 0, .int .i64 0, .int .i64 0, .int .i64 0, .int .i64 0, .int .i64 0, .int .i64 0, .int .i64 0, .int .i64 0, .int .i64 0, .slice none 0 0] 40) = V at *
  have hsome : ∀ j, j < (dedL d).length → (V.cell? ⟨W.heap.size, 0 + j, none⟩).isSome = true := fun j hj => by
    have hj : j < 18 := hj
    rw [Nat.zero_add, k5 j, Array.getElem?_eq_getElem (by simpa using hj)]; rfl
  have h := Go.run_storeCells_cells (P := Try.prog) W.heap.size 0 (dedL d) 0 V (fun j hj => by
    rw [show 0 + 0 + j = 0 + j by omega]; exact hsome j hj) (fun j _ => g5 _) (dedL_one d)
  have ht := setCells_turned W.heap.size (dedL d) 0 V
  obtain ⟨cur', hg', hs', _, hin, _⟩ := setCells_heap W.heap.size _ (0, 0) (dedL d) 0 V _ hh (by rw [dedL_len]; exact Nat.le_refl _)
  have e : cur' = (dedL d).toArray := by
    apply Array.ext_getElem?
    intro j
    have e : (dedL d).toArray[j]? = (dedL d)[j]? := List.getElem?_toArray ..
    rw [e]
    cases h : (dedL d)[j]? with
    | some u => have := hin j u h; rwa [Nat.zero_add] at this
    | none =>
      have := List.getElem?_eq_none_iff.1 h
      rw [dedL_len] at this
      exact Array.getElem?_eq_none (by rw [hs']; exact this)
  refine ⟨V.setCells W.heap.size 0 (dedL d), ?_, fun x => x = W.heap.size, ⟨by rw [hg', e], fun _ => Iff.rfl⟩, Turned.below_new ht (fun q hq => by cases hq; exact Nat.le_refl _) b5 b5.size, fun x hx => Nat.le_of_eq hx.symm⟩
  have h' : Sem.run Try.prog (storeCells ⟨W.heap.size, 0, none⟩ (dedL d) 0) V = .ok () (V.setCells W.heap.size 0 (dedL d)) := by simpa using h
  simp [stDd, storeVar, Value.cells, dedL_len, h']
attribute [local go_sem ↓] loadVar_ldM storeVar_stM loadVar_ldDd storeVar_stDd

set_option maxRecDepth 100000 in
set_option maxHeartbeats 8000000 in
theorem walk (cols rows side radius speed ids queue : Int) (v1 v2 : Value) (zs ys : List Ded) (w : World) (hz : RIn dedL w v1 zs) (hd : ∀ d ∈ zs, ∃ l, DOk w d l) (hz2 : RIn dedL w v2 ys) (hd2 : ∀ d ∈ ys, ∃ l, DOk w d l) :
    Calls Try.prog 5 #[.agg #[.int .i64 cols, .int .i64 rows, .int .i64 side, .int .i64 radius, .int .i64 speed, .int .i64 ids, .int .i64 queue], v1, v2] w fun e w' => e = .returned (.bool true) ∧ Below w.heap.size w w' := by
  obtain ⟨hf50, hfo⟩ := few_ok hd
  have HFO := Lib.hid hfo
  have HMAY := Lib.hid (fun W => may_any cols rows side radius speed ids queue W)
  have ho := mayF_ok ⟨cols, rows, side, radius, speed, ids, queue⟩
  have HFW := Lib.hid (fun W (hW : Below w.heap.size w W) => few_any v1 zs W (hz.keep hW) (fun d hdm => by
    obtain ⟨l, _, h2, h3⟩ := hd d hdm
    obtain ⟨p, cap, e, _, _, h5, _⟩ := h2
    simp only [Value.slice.injEq, true_and] at e
    omega))
  have HFW2 := Lib.hid (fun W (hW : Below w.heap.size w W) => few_any v2 ys W (hz2.keep hW) (fun d hdm => by
    obtain ⟨l, _, h2, h3⟩ := hd2 d hdm
    obtain ⟨p, cap, e, _, _, h5, _⟩ := h2
    simp only [Value.slice.injEq, true_and] at e
    omega))
  have hr50 := (few_ok hd2).1
  generalize mayF ⟨cols, rows, side, radius, speed, ids, queue⟩ = cm at *
  obtain ⟨dcols, drows, dside, dradius, dspeed, dids, dqueue⟩ := cm
  simp only at HMAY
  have HO := Lib.hid ho
  have HN := Lib.hid (fun W => dnew_ok dcols drows dside dradius dspeed dids dqueue W ho)
  clear ho hd hfo hz hd2 hz2
  generalize fewF zs = ds at *
  generalize fewF ys = rs at *
  obtain ⟨w1, hw1, k0, hb1, g0, hsz⟩ := one_box w #[.int .i64 cols, .int .i64 rows, .int .i64 side, .int .i64 radius, .int .i64 speed, .int .i64 ids, .int .i64 queue] 23
  have HW1 := Lib.hid hw1
  have s1 : w.heap.size < w1.heap.size := by omega
  have x0 := k0 0; simp at x0; have f0 := g0 0; have x1 := k0 1; simp at x1; have f1 := g0 1; have x2 := k0 2; simp at x2; have f2 := g0 2; have x3 := k0 3; simp at x3; have f3 := g0 3; have x4 := k0 4; simp at x4; have f4 := g0 4; have x5 := k0 5; simp at x5; have f5 := g0 5; have x6 := k0 6; simp at x6; have f6 := g0 6
  obtain ⟨z0, z1, z2⟩ := ltz s1
  clear hw1 k0 g0 hsz
  go_enter Try.func5, Try.ntmps5
  go_upto_region 1 with fail
  rw [← HW1.out]
  go_upto_region 2 with (go_at_call 11; refine (HMAY.out _).mono ?_; rintro e w' ⟨rfl, hb⟩; obtain ⟨d, os, rfl⟩ := more_of hb; clear hb)
  generalize hw2 : more _ d os = W2
  have y0 : W2.cell? ⟨w.heap.size, 0, none⟩ = some (.int .i64 dcols) := (by subst hw2; simp [go_sem, *]); have y1 : W2.cell? ⟨w.heap.size, 1, none⟩ = some (.int .i64 drows) := (by subst hw2; simp [go_sem, *]); have y2 : W2.cell? ⟨w.heap.size, 2, none⟩ = some (.int .i64 dside) := (by subst hw2; simp [go_sem, *]); have y3 : W2.cell? ⟨w.heap.size, 3, none⟩ = some (.int .i64 dradius) := (by subst hw2; simp [go_sem, *]); have y4 : W2.cell? ⟨w.heap.size, 4, none⟩ = some (.int .i64 dspeed) := (by subst hw2; simp [go_sem, *]); have y5 : W2.cell? ⟨w.heap.size, 5, none⟩ = some (.int .i64 dids) := (by subst hw2; simp [go_sem, *]); have y6 : W2.cell? ⟨w.heap.size, 6, none⟩ = some (.int .i64 dqueue) := (by subst hw2; simp [go_sem, *])
  have hb2 : Below w.heap.size w W2 := by rw [← hw2]; exact (by repeat' (first | (with_reducible exact Below.refl _ _) | (with_reducible assumption) | (with_reducible refine below_drewN ?_ _) | (with_reducible refine below_more _ _ _ ?_ ?_) | (with_reducible refine Below.alloc ?_ ?_ _) | (with_reducible refine Below.drew ?_) | (with_reducible refine Below.setCell ?_ ?_ _) | go_size))
  have s2 : w.heap.size < W2.heap.size := by rw [← hw2]; simp [World.setCell]; omega
  have HB2 := Lib.hid hb2
  clear hw2 hb2 HMAY HW1 hb1 s1 z0 z1 z2 x0 f0 x1 f1 x2 f2 x3 f3 x4 f4 x5 f5 x6 f6
  go_wp2_with fail
  refine (HN.out _).mono ?_
  rintro e W3 ⟨pa, rfl, hm3⟩
  have H3 := Lib.hid (((Own.nil w).grow HB2.out).made hm3)
  have hb3 : Below W2.heap.size W2 W3 := by obtain ⟨_, _, h, _⟩ := hm3; exact h
  replace y0 := (hb3.cell (p := ⟨w.heap.size, 0, none⟩) s2).trans y0; replace y1 := (hb3.cell (p := ⟨w.heap.size, 1, none⟩) s2).trans y1; replace y2 := (hb3.cell (p := ⟨w.heap.size, 2, none⟩) s2).trans y2; replace y3 := (hb3.cell (p := ⟨w.heap.size, 3, none⟩) s2).trans y3; replace y4 := (hb3.cell (p := ⟨w.heap.size, 4, none⟩) s2).trans y4; replace y5 := (hb3.cell (p := ⟨w.heap.size, 5, none⟩) s2).trans y5; replace y6 := (hb3.cell (p := ⟨w.heap.size, 6, none⟩) s2).trans y6
  clear hm3 hb3 HB2 s2
  go_wp2_with fail
  refine (HN.out _).mono ?_
  rintro e W4 ⟨pb, rfl, hm4⟩
  have H4 := Lib.hid ((H3.out.made hm4).swap)
  clear hm4 H3 HN
  clear y0 y1 y2 y3 y4 y5 y6
  go_wp2_with fail
  refine (HFW.out _ H4.out.below).mono ?_
  rintro e W5 ⟨v5, rfl, hn5⟩
  have H5 := Lib.hid ((H4.out.made hn5.made).new3)
  obtain ⟨p5, cap5, rfl⟩ := sl_frm hn5.1
  clear hn5 H4 HFW
  go_wp2_with fail
  refine (HFW2.out _ H5.out.below).mono ?_
  rintro e W6 ⟨v6, rfl, hn6⟩
  have H6 := Lib.hid ((H5.out.made hn6.made).new3)
  obtain ⟨p6, cap6, rfl⟩ := sl_frm hn6.1
  clear hn6 H5 HFW2
  obtain ⟨cm, hcm⟩ : ∃ cm : Cfg, cm = ⟨dcols, drows, dside, dradius, dspeed, dids, dqueue⟩ := ⟨_, rfl⟩
  rw [← hcm] at H6 HO
  clear hcm
  go_wp2_with fail
  go_loopw [11] (fun x wr => ∃ (j : Nat) (D : Dk), x = .int .i64 j ∧ j ≤ ds.length ∧ Hid (Own w wr ((deskO pa cm D).and ((deskO pb cm D).and ((slO 40 18 (.slice p6 rs.length cap6) rs.length (cellsR dedL rs)).and ((slO 40 18 (.slice p5 ds.length cap5) ds.length (cellsR dedL ds)).and .nil)))))) (fun x _ => ds.length - (intOf x).toNat)
  case atStart => exact ⟨0, _, rfl, Nat.zero_le _, H6⟩
  case round =>
    clear H6
    obtain ⟨j, D, rfl, hj, hh⟩ := hrel
    obtain ⟨wo, rfl⟩ : ∃ wo : World, wo = wr := ⟨_, rfl⟩
    have hI : 0 ≤ (j : Int) := Int.natCast_nonneg j
    by_cases hlt : j < ds.length
    · have t1 : (j : Int) < (ds.length : Int) := by omega
      obtain ⟨x, hx⟩ : ∃ x, ds[j]? = some x := ⟨_, List.getElem?_eq_getElem hlt⟩
      obtain ⟨hok, hok40⟩ := HFO.out x (List.mem_of_getElem? hx)
      obtain ⟨blk, off, cap', hve, hb, hcx⟩ := (RIn.of_sl hh.out.fourth.sl.1).cells dedL_len hx
      simp only [Value.slice.injEq, true_and] at hve
      obtain ⟨rfl, rfl⟩ := hve
      have hld0 := ldDd_of x hcx
      obtain ⟨w5, hst0, hm5⟩ := new_dedO wo x
      have H5 := Lib.hid ((hh.out.made hm5).new3)
      have hla : ∃ a must er, lookF cm D x.m = (a, must, er) := ⟨_, _, _, rfl⟩
      obtain ⟨⟨uk, us, ui, ug, ⟨ues, uei, ueg, um, ux, uy, uvx, uvy, uhp, upw, ulf⟩, umask⟩, must, er, hla⟩ := hla
      have hlm := look_must cm D x.m
      rw [hla] at hlm
      simp only at hlm
      have hok1 := hok.r
      have hok2 := hok.n
      generalize nmOf w x = l at *
      obtain ⟨kd, ⟨k, s, i, g, ⟨es, ei, eg, m, x, y, vx, vy, hp, pw, lf⟩, mask⟩, px, nx, cx⟩ := x
      simp only at hok1 hok2 hla
      subst hok2
      have hld : (ldDd ⟨blk, off + j * 18, none⟩).run Try.prog wo = .ok (.agg #[.int .i64 kd, .int .i64 k, .int .i64 s, .int .i64 i, .int .i64 g, .int .i64 es, .int .i64 ei, .int .i64 eg, .int .i64 m, .int .i64 x, .int .i64 y, .int .i64 vx, .int .i64 vy, .int .i64 hp, .int .i64 pw, .int .i64 lf, .int .i64 mask, .slice px l.length cx]) wo := hld0
      have hst : (stDd ⟨wo.heap.size, 0, none⟩ (.agg #[.int .i64 kd, .int .i64 k, .int .i64 s, .int .i64 i, .int .i64 g, .int .i64 es, .int .i64 ei, .int .i64 eg, .int .i64 m, .int .i64 x, .int .i64 y, .int .i64 vx, .int .i64 vy, .int .i64 hp, .int .i64 pw, .int .i64 lf, .int .i64 mask, .slice px l.length cx])).run Try.prog (wo.alloc (.cells #[.int .i64 0, .int .i64 0, .int .i64 0, .int .i64 0, .int .i64 0, .int .i64 0, .int .i64 0, .int .i64 0, .int .i64 0, .int .i64 0, .int .i64 0, .int .i64 0, .int .i64 0, .int .i64 0, .int .i64 0, .int .i64 0, .int .i64 0, .slice none 0 0] 40)) = .ok () w5 := hst0
      have hbx := H5.out.third.box
      have hL5 : (ldM ⟨wo.heap.size, 1, none⟩).run Try.prog w5 = .ok (.agg #[.int .i64 k, .int .i64 s, .int .i64 i, .int .i64 g, .int .i64 es, .int .i64 ei, .int .i64 eg, .int .i64 m, .int .i64 x, .int .i64 y, .int .i64 vx, .int .i64 vy, .int .i64 hp, .int .i64 pw, .int .i64 lf, .int .i64 mask]) w5 := ldM_of ⟨k, s, i, g, ⟨es, ei, eg, m, x, y, vx, vy, hp, pw, lf⟩, mask⟩ fun j v hj => (hbx.1 _).trans (deed_get _ ⟨k, s, i, g, ⟨es, ei, eg, m, x, y, vx, vy, hp, pw, lf⟩, mask⟩ _ hj)
      have c0 : w5.cell? ⟨wo.heap.size, 0, none⟩ = some (.int .i64 kd) := hbx.1 0
      have c17 : w5.cell? ⟨wo.heap.size, 17, none⟩ = some (.slice px l.length cx) := hbx.1 17
      clear hcx hx hld0 hst0 hm5 hbx hh hok
      by_cases h5 : kd < 5
      · have HLK : Hid (∀ W E, Own w W ((deskO pa cm D).and E) → Calls Try.prog 13 #[.pointer (some ⟨pa, 0, none⟩), .agg #[.int .i64 k, .int .i64 s, .int .i64 i, .int .i64 g, .int .i64 es, .int .i64 ei, .int .i64 eg, .int .i64 m, .int .i64 x, .int .i64 y, .int .i64 vx, .int .i64 vy, .int .i64 hp, .int .i64 pw, .int .i64 lf, .int .i64 mask]] W fun e w' => e = .returned (.tuple #[.agg #[.int .i64 uk, .int .i64 us, .int .i64 ui, .int .i64 ug, .int .i64 ues, .int .i64 uei, .int .i64 ueg, .int .i64 um, .int .i64 ux, .int .i64 uy, .int .i64 uvx, .int .i64 uvy, .int .i64 uhp, .int .i64 upw, .int .i64 ulf, .int .i64 umask], .bool must, .int .i64 er]) ∧ Below W.heap.size W w') := Lib.hid (fun W E hW => by have := look_o hW HO.out ⟨k, s, i, g, ⟨es, ei, eg, m, x, y, vx, vy, hp, pw, lf⟩, mask⟩; rw [hla] at this; exact this)
        go_wp2_with fail
        refine (HLK.out _ _ H5.out).mono ?_
        rintro e V1 ⟨rfl, hb1⟩
        obtain ⟨w3, hs3, hm3⟩ := new_cmO V1 ⟨uk, us, ui, ug, ⟨ues, uei, ueg, um, ux, uy, uvx, uvy, uhp, upw, ulf⟩, umask⟩
        have H3 := Lib.hid (((H5.out.grow hb1).made hm3).new3)
        have hs3' : (stM ⟨V1.heap.size, 0, none⟩ (.agg #[.int .i64 uk, .int .i64 us, .int .i64 ui, .int .i64 ug, .int .i64 ues, .int .i64 uei, .int .i64 ueg, .int .i64 um, .int .i64 ux, .int .i64 uy, .int .i64 uvx, .int .i64 uvy, .int .i64 uhp, .int .i64 upw, .int .i64 ulf, .int .i64 umask])).run Try.prog (V1.alloc (.cells #[.int .i64 0, .int .i64 0, .int .i64 0, .int .i64 0, .int .i64 0, .int .i64 0, .int .i64 0, .int .i64 0, .int .i64 0, .int .i64 0, .int .i64 0, .int .i64 0, .int .i64 0, .int .i64 0, .int .i64 0, .int .i64 0] 37)) = .ok () w3 := hs3
        have hb7 := H3.out.third.box.1
        have HAD : Hid (∀ D W E q, Own w W ((deskO q cm D).and E) → Calls Try.prog 15 #[.pointer (some ⟨q, 0, none⟩), .agg #[.int .i64 uk, .int .i64 us, .int .i64 ui, .int .i64 ug, .int .i64 ues, .int .i64 uei, .int .i64 ueg, .int .i64 um, .int .i64 ux, .int .i64 uy, .int .i64 uvx, .int .i64 uvy, .int .i64 uhp, .int .i64 upw, .int .i64 ulf, .int .i64 umask]] W fun e w' => e = .returned (.int .i64 (admitF cm D ⟨uk, us, ui, ug, ⟨ues, uei, ueg, um, ux, uy, uvx, uvy, uhp, upw, ulf⟩, umask⟩).1) ∧ Own w w' ((deskO q cm (admitF cm D ⟨uk, us, ui, ug, ⟨ues, uei, ueg, um, ux, uy, uvx, uvy, uhp, upw, ulf⟩, umask⟩).2).and E)) := Lib.hid (fun D W E q hW => admit_o hW HO.out ⟨uk, us, ui, ug, ⟨ues, uei, ueg, um, ux, uy, uvx, uvy, uhp, upw, ulf⟩, umask⟩)
        clear hm3 hs3 hb1 hL5 hst hld c17 H5 HLK
        by_cases her : er = 0
        · subst her
          cases must with
          | false =>
            clear hb7
            obtain ⟨W4, rfl⟩ : ∃ W4 : World, W4 = w3 := ⟨_, rfl⟩
            have H4 := H3
            clear H3
            go_upto_region 18 with fail
            clear hs3'
            have hLD7 : ∀ W : World, (∀ j, W.cell? ⟨V1.heap.size, j, none⟩ = (#[.int .i64 uk, .int .i64 us, .int .i64 ui, .int .i64 ug, .int .i64 ues, .int .i64 uei, .int .i64 ueg, .int .i64 um, .int .i64 ux, .int .i64 uy, .int .i64 uvx, .int .i64 uvy, .int .i64 uhp, .int .i64 upw, .int .i64 ulf, .int .i64 umask] : Array Value)[j]?) → (ldM ⟨V1.heap.size, 0, none⟩).run Try.prog W = .ok (.agg #[.int .i64 uk, .int .i64 us, .int .i64 ui, .int .i64 ug, .int .i64 ues, .int .i64 uei, .int .i64 ueg, .int .i64 um, .int .i64 ux, .int .i64 uy, .int .i64 uvx, .int .i64 uvy, .int .i64 uhp, .int .i64 upw, .int .i64 ulf, .int .i64 umask]) W := fun W hW => ldM_of ⟨uk, us, ui, ug, ⟨ues, uei, ueg, um, ux, uy, uvx, uvy, uhp, upw, ulf⟩, umask⟩ fun j v hj => by rw [Nat.zero_add, hW j, List.getElem?_toArray]; exact hj
            have hS4 : ∀ j, W4.cell? ⟨V1.heap.size, j, none⟩ = (#[.int .i64 uk, .int .i64 us, .int .i64 ui, .int .i64 ug, .int .i64 ues, .int .i64 uei, .int .i64 ueg, .int .i64 um, .int .i64 ux, .int .i64 uy, .int .i64 uvx, .int .i64 uvy, .int .i64 uhp, .int .i64 upw, .int .i64 ulf, .int .i64 umask] : Array Value)[j]? := fun j => H4.out.third.box.1 j
            go_region_held3 (fun W => ∀ j, W.cell? ⟨V1.heap.size, j, none⟩ = (#[.int .i64 uk, .int .i64 us, .int .i64 ui, .int .i64 ug, .int .i64 ues, .int .i64 uei, .int .i64 ueg, .int .i64 um, .int .i64 ux, .int .i64 uy, .int .i64 uvx, .int .i64 uvy, .int .i64 uhp, .int .i64 upw, .int .i64 ulf, .int .i64 umask] : Array Value)[j]?) (first | exact hS4 | exact hS5 | exact hS6) (first | (go_at_call 15; have hq1 := HAD.out _ _ _ _ (H4.out.grow (show Below W4.heap.size W4 W4.drew from (by repeat' (first | (with_reducible exact Below.refl _ _) | (with_reducible assumption) | (with_reducible refine below_drewN ?_ _) | (with_reducible refine below_more _ _ _ ?_ ?_) | (with_reducible refine Below.alloc ?_ ?_ _) | (with_reducible refine Below.drew ?_) | (with_reducible refine Below.setCell ?_ ?_ _) | go_size)))); (with_reducible refine hq1.mono ?_); clear hq1; rintro e W5 ⟨rfl, h5⟩; have H5 := Lib.hid h5; have hS5 : ∀ j, W5.cell? ⟨V1.heap.size, j, none⟩ = (#[.int .i64 uk, .int .i64 us, .int .i64 ui, .int .i64 ug, .int .i64 ues, .int .i64 uei, .int .i64 ueg, .int .i64 um, .int .i64 ux, .int .i64 uy, .int .i64 uvx, .int .i64 uvy, .int .i64 uhp, .int .i64 upw, .int .i64 ulf, .int .i64 umask] : Array Value)[j]? := (fun j => h5.third.box.1 j); clear h5) | (go_at_call 15; have hq2 := HAD.out _ _ _ _ H5.out.swap; (with_reducible refine hq2.mono ?_); clear hq2; rintro e W6 ⟨rfl, h6⟩; have H6 := Lib.hid h6.swap; have hS6 : ∀ j, W6.cell? ⟨V1.heap.size, j, none⟩ = (#[.int .i64 uk, .int .i64 us, .int .i64 ui, .int .i64 ug, .int .i64 ues, .int .i64 uei, .int .i64 ueg, .int .i64 um, .int .i64 ux, .int .i64 uy, .int .i64 uvx, .int .i64 uvy, .int .i64 uhp, .int .i64 upw, .int .i64 ulf, .int .i64 umask] : Array Value)[j]? := (fun j => h6.third.box.1 j); clear h6))
            go_wp2_with fail
            go_roundw
            case rel => exact ⟨j + 1, _, by go_num, hlt, Lib.hid (H6.out.drop3.drop3.grow (by repeat' (first | (with_reducible exact Below.refl _ _) | (with_reducible assumption) | (with_reducible refine below_drewN ?_ _) | (with_reducible refine below_more _ _ _ ?_ ?_) | (with_reducible refine Below.alloc ?_ ?_ _) | (with_reducible refine Below.drew ?_) | (with_reducible refine Below.setCell ?_ ?_ _) | go_size)))⟩
            case measure => simp [intOf]; omega
          | true =>
            have c4 := hb7 4
            have c5 := hb7 5
            simp [cmC, bunL] at c4 c5
            clear hb7
            go_wp2_with fail
            refine (reserve_o H3.out ues uei).mono ?_
            rintro e Wa ⟨rfl, ha⟩
            have Ha := Lib.hid ha
            have c4' := ha.third.box.1 4
            have c5' := ha.third.box.1 5
            simp [cmC, bunL] at c4' c5'
            clear ha H3 c4 c5 hs3'
            go_wp2_with fail
            refine (reserve_o Ha.out.swap ues uei).mono ?_
            rintro e W4 ⟨rfl, hb'⟩
            have H4 := Lib.hid hb'.swap
            clear hb' Ha c4' c5'
            go_upto_region 18 with fail
            have hLD7 : ∀ W : World, (∀ j, W.cell? ⟨V1.heap.size, j, none⟩ = (#[.int .i64 uk, .int .i64 us, .int .i64 ui, .int .i64 ug, .int .i64 ues, .int .i64 uei, .int .i64 ueg, .int .i64 um, .int .i64 ux, .int .i64 uy, .int .i64 uvx, .int .i64 uvy, .int .i64 uhp, .int .i64 upw, .int .i64 ulf, .int .i64 umask] : Array Value)[j]?) → (ldM ⟨V1.heap.size, 0, none⟩).run Try.prog W = .ok (.agg #[.int .i64 uk, .int .i64 us, .int .i64 ui, .int .i64 ug, .int .i64 ues, .int .i64 uei, .int .i64 ueg, .int .i64 um, .int .i64 ux, .int .i64 uy, .int .i64 uvx, .int .i64 uvy, .int .i64 uhp, .int .i64 upw, .int .i64 ulf, .int .i64 umask]) W := fun W hW => ldM_of ⟨uk, us, ui, ug, ⟨ues, uei, ueg, um, ux, uy, uvx, uvy, uhp, upw, ulf⟩, umask⟩ fun j v hj => by rw [Nat.zero_add, hW j, List.getElem?_toArray]; exact hj
            have hS4 : ∀ j, W4.cell? ⟨V1.heap.size, j, none⟩ = (#[.int .i64 uk, .int .i64 us, .int .i64 ui, .int .i64 ug, .int .i64 ues, .int .i64 uei, .int .i64 ueg, .int .i64 um, .int .i64 ux, .int .i64 uy, .int .i64 uvx, .int .i64 uvy, .int .i64 uhp, .int .i64 upw, .int .i64 ulf, .int .i64 umask] : Array Value)[j]? := fun j => H4.out.third.box.1 j
            go_region_held3 (fun W => ∀ j, W.cell? ⟨V1.heap.size, j, none⟩ = (#[.int .i64 uk, .int .i64 us, .int .i64 ui, .int .i64 ug, .int .i64 ues, .int .i64 uei, .int .i64 ueg, .int .i64 um, .int .i64 ux, .int .i64 uy, .int .i64 uvx, .int .i64 uvy, .int .i64 uhp, .int .i64 upw, .int .i64 ulf, .int .i64 umask] : Array Value)[j]?) (first | exact hS4 | exact hS5 | exact hS6) (first | (go_at_call 15; have hq1 := HAD.out _ _ _ _ (H4.out.grow (show Below W4.heap.size W4 W4.drew from (by repeat' (first | (with_reducible exact Below.refl _ _) | (with_reducible assumption) | (with_reducible refine below_drewN ?_ _) | (with_reducible refine below_more _ _ _ ?_ ?_) | (with_reducible refine Below.alloc ?_ ?_ _) | (with_reducible refine Below.drew ?_) | (with_reducible refine Below.setCell ?_ ?_ _) | go_size)))); (with_reducible refine hq1.mono ?_); clear hq1; rintro e W5 ⟨rfl, h5⟩; have H5 := Lib.hid h5; have hS5 : ∀ j, W5.cell? ⟨V1.heap.size, j, none⟩ = (#[.int .i64 uk, .int .i64 us, .int .i64 ui, .int .i64 ug, .int .i64 ues, .int .i64 uei, .int .i64 ueg, .int .i64 um, .int .i64 ux, .int .i64 uy, .int .i64 uvx, .int .i64 uvy, .int .i64 uhp, .int .i64 upw, .int .i64 ulf, .int .i64 umask] : Array Value)[j]? := (fun j => h5.third.box.1 j); clear h5) | (go_at_call 15; have hq2 := HAD.out _ _ _ _ H5.out.swap; (with_reducible refine hq2.mono ?_); clear hq2; rintro e W6 ⟨rfl, h6⟩; have H6 := Lib.hid h6.swap; have hS6 : ∀ j, W6.cell? ⟨V1.heap.size, j, none⟩ = (#[.int .i64 uk, .int .i64 us, .int .i64 ui, .int .i64 ug, .int .i64 ues, .int .i64 uei, .int .i64 ueg, .int .i64 um, .int .i64 ux, .int .i64 uy, .int .i64 uvx, .int .i64 uvy, .int .i64 uhp, .int .i64 upw, .int .i64 ulf, .int .i64 umask] : Array Value)[j]? := (fun j => h6.third.box.1 j); clear h6))
            go_wp2_with fail
            go_roundw
            case rel => exact ⟨j + 1, _, by go_num, hlt, Lib.hid (H6.out.drop3.drop3.grow (by repeat' (first | (with_reducible exact Below.refl _ _) | (with_reducible assumption) | (with_reducible refine below_drewN ?_ _) | (with_reducible refine below_more _ _ _ ?_ ?_) | (with_reducible refine Below.alloc ?_ ?_ _) | (with_reducible refine Below.drew ?_) | (with_reducible refine Below.setCell ?_ ?_ _) | go_size)))⟩
            case measure => simp [intOf]; omega
        · have hmf := hlm her
          subst hmf
          have her' : (er == 0) = false := by simpa using her
          clear hb7
          go_wp2_with fail
          refine wp_region_more (by kernel_rfl) (by kernel_rfl) ?_
          repeat (go_big_quiet_step (fail))
          refine wpQuiet_nil ?_
          rintro _ ⟨pm, rfl⟩
          go_wp2_with fail
          go_roundw
          case rel => exact ⟨j + 1, _, by go_num, hlt, Lib.hid (H3.out.drop3.drop3.grow (by repeat' (first | (with_reducible exact Below.refl _ _) | (with_reducible assumption) | (with_reducible refine below_drewN ?_ _) | (with_reducible refine below_more _ _ _ ?_ ?_) | (with_reducible refine Below.alloc ?_ ?_ _) | (with_reducible refine Below.drew ?_) | (with_reducible refine Below.setCell ?_ ?_ _) | go_size)))⟩
          case measure => simp [intOf]; omega
      · by_cases h7 : kd < 7
        · go_wp2_with fail
          refine (open_o H5.out).mono ?_
          rintro e W7 ⟨va, rfl, h7'⟩
          have H7 := Lib.hid h7'.assoc.drop
          clear h7' H5 hL5 hst hld c0 c17
          go_wp2_with fail
          refine (open_o H7.out.swap).mono ?_
          rintro e W8 ⟨vb, rfl, h8⟩
          have H8 := Lib.hid h8.assoc.drop.swap.drop3
          clear h8 H7
          go_wp2_with fail
          go_roundw
          case rel => exact ⟨j + 1, _, by go_num, hlt, H8⟩
          case measure => simp [intOf]; omega
        · go_wp2_with fail
          refine (close_o H5.out _ l (hok1.keep H5.out.below) (rin_old hok1) (by omega)).mono ?_
          rintro e W7 ⟨rfl, h7'⟩
          have H7 := Lib.hid h7'
          have c17' : W7.cell? ⟨wo.heap.size, 17, none⟩ = some (.slice px l.length cx) := h7'.third.box.1 17
          clear h7' H5 hL5 hst hld c0 c17
          go_wp2_with fail
          refine (close_o H7.out.swap _ l (hok1.keep H7.out.below) (rin_old hok1) (by omega)).mono ?_
          rintro e W8 ⟨rfl, h8⟩
          have H8 := Lib.hid h8.swap.drop3
          clear h8 H7 c17'
          go_wp2_with fail
          go_roundw
          case rel => exact ⟨j + 1, _, by go_num, hlt, H8⟩
          case measure => simp [intOf]; omega
    · obtain rfl : j = ds.length := by omega
      go_wp2_with fail
      go_loopw [16] (fun x wr => ∃ (j : Nat) (D : Dk), x = .int .i64 j ∧ j ≤ rs.length ∧ Hid (Own w wr ((deskO pa cm D).and ((deskO pb cm D).and ((slO 40 18 (.slice p6 rs.length cap6) rs.length (cellsR dedL rs)).and ((slO 40 18 (.slice p5 ds.length cap5) ds.length (cellsR dedL ds)).and .nil)))))) (fun x _ => rs.length - (intOf x).toNat)
      case atStart => exact ⟨0, D, rfl, Nat.zero_le _, hh⟩
      case round =>
        clear hh
        obtain ⟨j, D, rfl, hj, hh⟩ := hrel
        obtain ⟨wo, rfl⟩ : ∃ wo : World, wo = wr := ⟨_, rfl⟩
        have hI : 0 ≤ (j : Int) := Int.natCast_nonneg j
        by_cases hlt : j < rs.length
        · have t1 : (j : Int) < (rs.length : Int) := by omega
          obtain ⟨x, hx⟩ : ∃ x, rs[j]? = some x := ⟨_, List.getElem?_eq_getElem hlt⟩
          have HLD := Lib.hid (fun W (hW : Sl W 40 18 (.slice p6 rs.length cap6) rs.length (cellsR dedL rs)) => (RIn.of_sl hW).cells dedL_len hx)
          have hla : ∃ a must er, lookF cm D x.m = (a, must, er) := ⟨_, _, _, rfl⟩
          obtain ⟨⟨uk, us, ui, ug, ⟨ues, uei, ueg, um, ux, uy, uvx, uvy, uhp, upw, ulf⟩, umask⟩, must, er, hla⟩ := hla
          obtain ⟨kd, ⟨k, s, i, g, ⟨es, ei, eg, m, x, y, vx, vy, hp, pw, lf⟩, mask⟩, px, nx, cx⟩ := x
          simp only at hla
          have HLK : Hid (∀ W E q, Own w W ((deskO q cm D).and E) → Calls Try.prog 13 #[.pointer (some ⟨q, 0, none⟩), .agg #[.int .i64 k, .int .i64 s, .int .i64 i, .int .i64 g, .int .i64 es, .int .i64 ei, .int .i64 eg, .int .i64 m, .int .i64 x, .int .i64 y, .int .i64 vx, .int .i64 vy, .int .i64 hp, .int .i64 pw, .int .i64 lf, .int .i64 mask]] W fun e w' => e = .returned (.tuple #[.agg #[.int .i64 uk, .int .i64 us, .int .i64 ui, .int .i64 ug, .int .i64 ues, .int .i64 uei, .int .i64 ueg, .int .i64 um, .int .i64 ux, .int .i64 uy, .int .i64 uvx, .int .i64 uvy, .int .i64 uhp, .int .i64 upw, .int .i64 ulf, .int .i64 umask], .bool must, .int .i64 er]) ∧ Below W.heap.size W w') := Lib.hid (fun W E q hW => by have := look_o hW HO.out ⟨k, s, i, g, ⟨es, ei, eg, m, x, y, vx, vy, hp, pw, lf⟩, mask⟩; rw [hla] at this; exact this)
          have HAD : Hid (∀ W E q, Own w W ((deskO q cm D).and E) → Calls Try.prog 15 #[.pointer (some ⟨q, 0, none⟩), .agg #[.int .i64 uk, .int .i64 us, .int .i64 ui, .int .i64 ug, .int .i64 ues, .int .i64 uei, .int .i64 ueg, .int .i64 um, .int .i64 ux, .int .i64 uy, .int .i64 uvx, .int .i64 uvy, .int .i64 uhp, .int .i64 upw, .int .i64 ulf, .int .i64 umask]] W fun e w' => e = .returned (.int .i64 (admitF cm D ⟨uk, us, ui, ug, ⟨ues, uei, ueg, um, ux, uy, uvx, uvy, uhp, upw, ulf⟩, umask⟩).1) ∧ Own w w' ((deskO q cm (admitF cm D ⟨uk, us, ui, ug, ⟨ues, uei, ueg, um, ux, uy, uvx, uvy, uhp, upw, ulf⟩, umask⟩).2).and E)) := Lib.hid (fun W E q hW => admit_o hW HO.out ⟨uk, us, ui, ug, ⟨ues, uei, ueg, um, ux, uy, uvx, uvy, uhp, upw, ulf⟩, umask⟩)
          obtain ⟨blk, off, cap', hve, hb, hcx⟩ := HLD.out _ hh.out.third.sl.1
          simp only [Value.slice.injEq, true_and] at hve
          obtain ⟨rfl, rfl⟩ := hve
          have hL1 : (ldM ⟨blk, off + j * 18 + 1, none⟩).run Try.prog wo = .ok (.agg #[.int .i64 k, .int .i64 s, .int .i64 i, .int .i64 g, .int .i64 es, .int .i64 ei, .int .i64 eg, .int .i64 m, .int .i64 x, .int .i64 y, .int .i64 vx, .int .i64 vy, .int .i64 hp, .int .i64 pw, .int .i64 lf, .int .i64 mask]) wo := ldM_of ⟨k, s, i, g, ⟨es, ei, eg, m, x, y, vx, vy, hp, pw, lf⟩, mask⟩ fun q u hq => by
            rw [Nat.add_assoc (off + j * 18)]
            exact hcx (1 + q) u (by have := deed_get (.int .i64 kd) ⟨k, s, i, g, ⟨es, ei, eg, m, x, y, vx, vy, hp, pw, lf⟩, mask⟩ (.slice px nx cx) hq; rw [List.getElem?_toArray] at this; exact this)
          clear hcx hx hla
          go_wp2_with fail
          refine (HLK.out _ _ _ hh.out).mono ?_
          rintro e V1 ⟨rfl, hb1⟩
          obtain ⟨w3, hs3, hm3⟩ := new_cmO V1 ⟨uk, us, ui, ug, ⟨ues, uei, ueg, um, ux, uy, uvx, uvy, uhp, upw, ulf⟩, umask⟩
          have H3 := Lib.hid (((hh.out.grow hb1).made hm3).new3)
          have hs3' : (stM ⟨V1.heap.size, 0, none⟩ (.agg #[.int .i64 uk, .int .i64 us, .int .i64 ui, .int .i64 ug, .int .i64 ues, .int .i64 uei, .int .i64 ueg, .int .i64 um, .int .i64 ux, .int .i64 uy, .int .i64 uvx, .int .i64 uvy, .int .i64 uhp, .int .i64 upw, .int .i64 ulf, .int .i64 umask])).run Try.prog (V1.alloc (.cells #[.int .i64 0, .int .i64 0, .int .i64 0, .int .i64 0, .int .i64 0, .int .i64 0, .int .i64 0, .int .i64 0, .int .i64 0, .int .i64 0, .int .i64 0, .int .i64 0, .int .i64 0, .int .i64 0, .int .i64 0, .int .i64 0] 37)) = .ok () w3 := hs3
          obtain ⟨blk2, off2, cap2, hve2, hb2, hcx2⟩ := HLD.out _ H3.out.fourth.sl.1
          simp only [Value.slice.injEq, Option.some.injEq, Addr.mk.injEq, and_true, true_and] at hve2
          obtain ⟨⟨rfl, rfl⟩, rfl⟩ := hve2
          have hL2 : (ldM ⟨blk, off + j * 18 + 1, none⟩).run Try.prog w3 = .ok (.agg #[.int .i64 k, .int .i64 s, .int .i64 i, .int .i64 g, .int .i64 es, .int .i64 ei, .int .i64 eg, .int .i64 m, .int .i64 x, .int .i64 y, .int .i64 vx, .int .i64 vy, .int .i64 hp, .int .i64 pw, .int .i64 lf, .int .i64 mask]) w3 := ldM_of ⟨k, s, i, g, ⟨es, ei, eg, m, x, y, vx, vy, hp, pw, lf⟩, mask⟩ fun q u hq => by
            rw [Nat.add_assoc (off + j * 18)]
            exact hcx2 (1 + q) u (by have := deed_get (.int .i64 kd) ⟨k, s, i, g, ⟨es, ei, eg, m, x, y, vx, vy, hp, pw, lf⟩, mask⟩ (.slice px nx cx) hq; rw [List.getElem?_toArray] at this; exact this)
          clear hcx2 hs3 hm3 hb1 hL1 hh
          go_wp2_with fail
          refine (HLK.out _ _ _ H3.out.swap).mono ?_
          rintro e V2 ⟨rfl, hbb⟩
          obtain ⟨w4, hs4, hm4⟩ := new_cmO V2 ⟨uk, us, ui, ug, ⟨ues, uei, ueg, um, ux, uy, uvx, uvy, uhp, upw, ulf⟩, umask⟩
          have H4 := Lib.hid (((H3.out.grow hbb).made hm4).new3)
          have hs4' : (stM ⟨V2.heap.size, 0, none⟩ (.agg #[.int .i64 uk, .int .i64 us, .int .i64 ui, .int .i64 ug, .int .i64 ues, .int .i64 uei, .int .i64 ueg, .int .i64 um, .int .i64 ux, .int .i64 uy, .int .i64 uvx, .int .i64 uvy, .int .i64 uhp, .int .i64 upw, .int .i64 ulf, .int .i64 umask])).run Try.prog (V2.alloc (.cells #[.int .i64 0, .int .i64 0, .int .i64 0, .int .i64 0, .int .i64 0, .int .i64 0, .int .i64 0, .int .i64 0, .int .i64 0, .int .i64 0, .int .i64 0, .int .i64 0, .int .i64 0, .int .i64 0, .int .i64 0, .int .i64 0] 37)) = .ok () w4 := hs4
          have b17 := H4.out.fourth.box.1
          have b20 := H4.out.third.box.1
          have hL17 : (ldM ⟨V1.heap.size, 0, none⟩).run Try.prog w4 = .ok (.agg #[.int .i64 uk, .int .i64 us, .int .i64 ui, .int .i64 ug, .int .i64 ues, .int .i64 uei, .int .i64 ueg, .int .i64 um, .int .i64 ux, .int .i64 uy, .int .i64 uvx, .int .i64 uvy, .int .i64 uhp, .int .i64 upw, .int .i64 ulf, .int .i64 umask]) w4 := ldM_of ⟨uk, us, ui, ug, ⟨ues, uei, ueg, um, ux, uy, uvx, uvy, uhp, upw, ulf⟩, umask⟩ fun j v hj => by rw [Nat.zero_add, b17, List.getElem?_toArray]; exact hj
          have hL20 : (ldM ⟨V2.heap.size, 0, none⟩).run Try.prog w4 = .ok (.agg #[.int .i64 uk, .int .i64 us, .int .i64 ui, .int .i64 ug, .int .i64 ues, .int .i64 uei, .int .i64 ueg, .int .i64 um, .int .i64 ux, .int .i64 uy, .int .i64 uvx, .int .i64 uvy, .int .i64 uhp, .int .i64 upw, .int .i64 ulf, .int .i64 umask]) w4 := ldM_of ⟨uk, us, ui, ug, ⟨ues, uei, ueg, um, ux, uy, uvx, uvy, uhp, upw, ulf⟩, umask⟩ fun j v hj => by rw [Nat.zero_add, b20, List.getElem?_toArray]; exact hj
          have heq : cmEq ⟨uk, us, ui, ug, ⟨ues, uei, ueg, um, ux, uy, uvx, uvy, uhp, upw, ulf⟩, umask⟩ ⟨uk, us, ui, ug, ⟨ues, uei, ueg, um, ux, uy, uvx, uvy, uhp, upw, ulf⟩, umask⟩ = true := cmEq_self _
          clear b17 b20 hs4 hm4 hbb hL2 H3 HLK HLD hs3'
          go_wp2_with fail
          refine (HAD.out _ _ _ H4.out).mono ?_
          rintro e W5 ⟨rfl, h5⟩
          have H5 := Lib.hid h5
          have b20 := h5.third.box.1
          have hL20' : (ldM ⟨V2.heap.size, 0, none⟩).run Try.prog W5 = .ok (.agg #[.int .i64 uk, .int .i64 us, .int .i64 ui, .int .i64 ug, .int .i64 ues, .int .i64 uei, .int .i64 ueg, .int .i64 um, .int .i64 ux, .int .i64 uy, .int .i64 uvx, .int .i64 uvy, .int .i64 uhp, .int .i64 upw, .int .i64 ulf, .int .i64 umask]) W5 := ldM_of ⟨uk, us, ui, ug, ⟨ues, uei, ueg, um, ux, uy, uvx, uvy, uhp, upw, ulf⟩, umask⟩ fun j v hj => by rw [Nat.zero_add, b20, List.getElem?_toArray]; exact hj
          clear h5 b20 H4 hL17 hL20 hs4'
          go_wp2_with fail
          refine (HAD.out _ _ _ H5.out.swap).mono ?_
          rintro e W6 ⟨rfl, h6⟩
          have H6 := Lib.hid h6.swap.drop3.drop3
          clear h6 H5 hL20'
          go_wp2_with fail
          go_roundw
          case rel => exact ⟨j + 1, _, by go_num, hlt, H6⟩
          case measure => simp [intOf]; omega
        · obtain rfl : j = rs.length := by omega
          clear hlt hj
          go_wp2_with fail
          refine (tick_o hh.out).mono ?_
          rintro e W1 ⟨rfl, hb1⟩
          have H1 := Lib.hid (hh.out.grow hb1)
          clear hb1 hh
          generalize hT : D.t = T at *
          generalize hP : D.op = op at *
          go_wp2_with fail
          refine (tick_o H1.out.swap).mono ?_
          rintro e W2 ⟨rfl, hb2⟩
          rw [hT, hP]
          have H2 := Lib.hid (H1.out.grow hb2)
          clear hb2 H1
          go_wp2_with fail
          refine (waiting_o H2.out HO.out).mono ?_
          rintro e W3 ⟨va, rfl, hn3⟩
          have H3 := Lib.hid (H2.out.grow hn3.2.1)
          go_wp2_with fail
          refine (waiting_o H3.out.swap HO.out).mono ?_
          rintro e W4 ⟨vb, rfl, hn4⟩
          have H4 := Lib.hid (H3.out.grow hn4.2.1)
          have HS := Lib.hid (sameCm_self va vb D.q W4 (hn3.rin.keep hn4.2.1) hn4.rin)
          clear hn3 hn4 H2 H3
          go_wp2_with fail
          refine HS.out.mono ?_
          rintro e W5 ⟨rfl, hb5⟩
          have H5 := Lib.hid (H4.out.grow hb5)
          clear hb5 H4 HS
          go_wp2_with fail
          refine (alive_o H5.out).mono ?_
          rintro e W6 ⟨vc, rfl, hn6⟩
          have H6 := Lib.hid (H5.out.grow hn6.2.1)
          go_wp2_with fail
          refine (alive_o H6.out.swap).mono ?_
          rintro e W7 ⟨vd, rfl, hn7⟩
          have HB7 := Lib.hid (H6.out.grow hn7.2.1).below
          have HS := Lib.hid (sameNid_self vc vd _ W7 (hn6.rin.keep hn7.2.1) hn7.rin)
          clear hn6 hn7 H5 H6
          go_wp2_with (first | (go_at_call 25; refine HS.out.mono ?_; rintro e w' ⟨rfl, hb⟩; obtain ⟨d8, os8, rfl⟩ := more_of hb; clear hb) | (go_at_call 20; refine (awake16 _).mono ?_; rintro e w' ⟨rfl, hb⟩; obtain ⟨d, os, rfl⟩ := more_of hb; clear hb))
          go_ret
          exact ⟨rfl, HB7.out.trans (Below.mono (B := W7.heap.size) (by repeat' (first | (with_reducible exact Below.refl _ _) | (with_reducible assumption) | (with_reducible refine below_drewN ?_ _) | (with_reducible refine below_more _ _ _ ?_ ?_) | (with_reducible refine Below.alloc ?_ ?_ _) | (with_reducible refine Below.drew ?_) | (with_reducible refine Below.setCell ?_ ?_ _) | go_size)) HB7.out.size)⟩
set_option maxRecDepth 100000 in
theorem lifted (os : Os) (started : os.Started) (H : Type) (enc : TypeId × Value → H) :
    ReturnsInHanded {} Try.checked os 5 .any (Rows.deskAgainSpec.pre6 enc Try.prog Try.f5 Rows.deskAgainRow.domain false) (Rows.deskAgainSpec.post enc Try.prog Try.f5 false true false false) := by
  refine returnsInHanded_of_change (C := Try.checked) ownKnob0 started (by kernel_rfl) Try.func5
    (ChangeSpec.witness6 (enc := enc) (C := Try.checked) false ⟨#[], #[.agg #[.int .i64 0, .int .i64 0, .int .i64 0, .int .i64 0, .int .i64 0, .int .i64 0, .int .i64 0], .slice none 0 0, .slice none 0 0], []⟩ 8 (by kernel_rfl) (by kernel_rfl) (by kernel_rfl) (by kernel_rfl)) ?_
  intro W base args ds gs before hval0 hW _ _
  have hval : ∀ (j : Nat) t v, Try.f5.params[j]? = some t → args[j]? = some v → Value.okWide Try.prog W .any base t v := hval0
  have hread : ∀ t ∈ Try.f5.params.toList, Try.prog.readableRec t = true ∧ t < Try.prog.types.size := by
    rw [Try.params5]
    intro t ht
    simp only [List.mem_cons, List.not_mem_nil, or_false] at ht
    rcases ht with rfl | rfl | rfl
    all_goals exact ⟨by kernel_rfl, of_decide_eq_true (by kernel_rfl)⟩
  have hW' := hW
  obtain ⟨p, q, hA0, hV, -, -⟩ := hW'
  have hA : DataW.TrodAll enc Try.prog W 0 (fun _ => true) true Try.f5.params.toList args.toList ds p := hA0
  rw [Try.params5] at hA hval
  obtain ⟨v0, vs0, d0, ds0, p0, q0, hargs, rfl, rfl, h0, r0⟩ := trodAll_cons hA
  obtain ⟨v1, vs1, d1, ds1, p1, q1, rfl, rfl, rfl, h1, r1⟩ := trodAll_cons r0
  obtain ⟨v2, vs2, d2, ds2, p2, q2, rfl, rfl, rfl, h2, r2⟩ := trodAll_cons r1
  obtain ⟨rfl, rfl, rfl⟩ := trodAll_nil r2
  obtain rfl : args = #[v0, v1, v2] := by cases args; simp_all
  obtain ⟨rfl, rfl⟩ := trodVars_none hV
  have k0 := hval 0 23 v0 rfl rfl
  have k1 := hval 1 24 v1 rfl rfl
  have k2 := hval 2 24 v2 rfl rfl
  clear hval hval0 hA0 hV hA
  obtain ⟨c0, fuel0, rfl, g0⟩ := agg_of Try.underlying23 k0 h0
  obtain ⟨acols, arows, aside, aradius, aspeed, aids, aqueue, rfl⟩ := read_cfg g0
  obtain ⟨zs, hz, hd⟩ := deeds_in k1 h1
  obtain ⟨ys, hy, he⟩ := deeds_in k2 h2
  exact (walk _ _ _ _ _ _ _ _ _ zs ys W hz hd hy he).mono fun e W' ⟨he, hb⟩ => ⟨_, he, post_true rfl rfl hread rfl hW hb⟩

/-- DeskAgain: true for every input; the arguments stay. -/
theorem proved : Rows.DeskAgainSaid :=
  OpenClaim.holds_of_wide 5 Try.f5 rfl rfl rfl rfl rfl rfl rfl ⟨rfl, rfl, rfl, rfl, rfl⟩ rfl rfl rfl rfl rfl (by kernel_rfl) Try.func5 (by kernel_rfl)
    (of_decide_eq_true (by kernel_rfl)) (by unfold Func.isWrapper; first | (rw [if_pos (by decide +kernel)]; kernel_rfl) | (rw [if_neg (by decide +kernel)]; exact ⟨rfl, rfl⟩))
    (fun os started H enc _ => lifted os started H enc)
end Go.Proofs.Ytbghjklnlhoklaa.deskAgain
