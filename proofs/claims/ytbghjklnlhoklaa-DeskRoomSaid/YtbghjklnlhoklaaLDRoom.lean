/-
  DeskRoom: for any config and every list of deeds the law returns true, and the arguments stay as they were. No condition.
-/
import Derived.Test.YtbghjklnlhoklaaMk23
import Derived.Test.YtbghjklnlhoklaaRdC
import Derived.Test.YtbghjklnlhoklaaDkK
import Derived.Test.YtbghjklnlhoklaaLsB
namespace Go.Proofs.Ytbghjklnlhoklaa.deskRoom
open Go.ChangeShapes Go.WideShapes Go.ChangeAt Go.RowKit

def stC (a : Addr) (v : Value) : Sem Unit := storeVar 23 a v
theorem storeVar_stC (a : Addr) (v : Value) : storeVar 23 a v = stC a v := rfl
theorem own_made {w0 W : World} {X : Ob} (h : Own w0 W X) : Made w0 W X := by
  obtain ⟨o, h1, h2, h3⟩ := h
  exact ⟨o, h1, h3, h2⟩

theorem st_cfg {w0 W : World} {F : Ob} {b : Nat} {acols arows aside aradius aspeed aids aqueue cols rows side radius speed ids queue : Int} (h : Own w0 W ((boxO b #[.int .i64 acols, .int .i64 arows, .int .i64 aside, .int .i64 aradius, .int .i64 aspeed, .int .i64 aids, .int .i64 aqueue] 23).and F)) :
    (stC ⟨b, 0, none⟩ (.agg #[.int .i64 cols, .int .i64 rows, .int .i64 side, .int .i64 radius, .int .i64 speed, .int .i64 ids, .int .i64 queue])).run Try.prog W = .ok () (((((((W.setCell ⟨b, 0, none⟩ (.int .i64 cols)).setCell ⟨b, 1, none⟩ (.int .i64 rows)).setCell ⟨b, 2, none⟩ (.int .i64 side)).setCell ⟨b, 3, none⟩ (.int .i64 radius)).setCell ⟨b, 4, none⟩ (.int .i64 speed)).setCell ⟨b, 5, none⟩ (.int .i64 ids)).setCell ⟨b, 6, none⟩ (.int .i64 queue)) ∧ Own w0 (((((((W.setCell ⟨b, 0, none⟩ (.int .i64 cols)).setCell ⟨b, 1, none⟩ (.int .i64 rows)).setCell ⟨b, 2, none⟩ (.int .i64 side)).setCell ⟨b, 3, none⟩ (.int .i64 radius)).setCell ⟨b, 4, none⟩ (.int .i64 speed)).setCell ⟨b, 5, none⟩ (.int .i64 ids)).setCell ⟨b, 6, none⟩ (.int .i64 queue)) ((boxO b #[.int .i64 cols, .int .i64 rows, .int .i64 side, .int .i64 radius, .int .i64 speed, .int .i64 ids, .int .i64 queue] 23).and F) := by
  have hb := h.box
  have h1 := Go.run_storeCells_cells (P := Try.prog) b 0 [.int .i64 cols, .int .i64 rows, .int .i64 side, .int .i64 radius, .int .i64 speed, .int .i64 ids, .int .i64 queue] 0 W (fun j hj => by
    have hj : j < 7 := hj
    rw [show 0 + 0 + j = j by omega, hb.1]
    rcases (by omega : j = 0 ∨ j = 1 ∨ j = 2 ∨ j = 3 ∨ j = 4 ∨ j = 5 ∨ j = 6) with rfl | rfl | rfl | rfl | rfl | rfl | rfl <;> rfl) (fun j _ => hb.2.1 _) (fun u hu => by
    simp at hu
    rcases hu with rfl | rfl | rfl | rfl | rfl | rfl | rfl <;> rfl)
  have h8 := ((((((h.set 0 (.int .i64 cols)).set 1 (.int .i64 rows)).set 2 (.int .i64 side)).set 3 (.int .i64 radius)).set 4 (.int .i64 speed)).set 5 (.int .i64 ids)).set 6 (.int .i64 queue)
  simp only [List.setIfInBounds_toArray, List.set_cons_zero, List.set_cons_succ] at h8
  refine ⟨?_, h8⟩
  have h' : Sem.run Try.prog (storeCells ⟨b, 0, none⟩ [.int .i64 cols, .int .i64 rows, .int .i64 side, .int .i64 radius, .int .i64 speed, .int .i64 ids, .int .i64 queue] 0) W = .ok () (((((((W.setCell ⟨b, 0, none⟩ (.int .i64 cols)).setCell ⟨b, 1, none⟩ (.int .i64 rows)).setCell ⟨b, 2, none⟩ (.int .i64 side)).setCell ⟨b, 3, none⟩ (.int .i64 radius)).setCell ⟨b, 4, none⟩ (.int .i64 speed)).setCell ⟨b, 5, none⟩ (.int .i64 ids)).setCell ⟨b, 6, none⟩ (.int .i64 queue)) := h1
  clear h1 hb h h8
  generalize (((((((W.setCell ⟨b, 0, none⟩ (.int .i64 cols)).setCell ⟨b, 1, none⟩ (.int .i64 rows)).setCell ⟨b, 2, none⟩ (.int .i64 side)).setCell ⟨b, 3, none⟩ (.int .i64 radius)).setCell ⟨b, 4, none⟩ (.int .i64 speed)).setCell ⟨b, 5, none⟩ (.int .i64 ids)).setCell ⟨b, 6, none⟩ (.int .i64 queue)) = W2 at *
  simp [stC, storeVar, Value.cells, h']
theorem nid_at {W : World} {T : TypeId} {blk off n ca : Nat} {L : List Nid} (h : Sl W T 3 (.slice (some ⟨blk, off, none⟩) n ca) L.length (cellsR nidL L)) {k : Nat} {y : Nid} (hy : L[k]? = some y) : W.cell? ⟨blk, off + k * 3, none⟩ = some (.int .i64 y.s) ∧ W.cell? ⟨blk, off + k * 3 + 1, none⟩ = some (.int .i64 y.i) ∧ blk < W.heap.size := by
  obtain ⟨b2, o2, c2, hve, hb, hcx⟩ := (RIn.of_sl h).cells nidL_len hy
  simp only [Value.slice.injEq, Option.some.injEq, Addr.mk.injEq, and_true] at hve
  obtain ⟨⟨rfl, rfl⟩, _⟩ := hve
  exact ⟨hcx 0 _ rfl, hcx 1 _ rfl, hb⟩
attribute [local go_sem ↓] storeVar_stC
set_option maxRecDepth 100000 in
set_option maxHeartbeats 8000000 in
theorem walk (cols rows side radius speed ids queue : Int) (v1 : Value) (zs : List Ded) (w : World) (hz : RIn dedL w v1 zs) (hd : ∀ d ∈ zs, ∃ l, DOk w d l) :
    Calls Try.prog 6 #[.agg #[.int .i64 cols, .int .i64 rows, .int .i64 side, .int .i64 radius, .int .i64 speed, .int .i64 ids, .int .i64 queue], v1] w fun e w' => e = .returned (.bool true) ∧ Below w.heap.size w w' := by
  obtain ⟨w1, hw1, k0, hb1, g0, hsz⟩ := one_box w #[.int .i64 cols, .int .i64 rows, .int .i64 side, .int .i64 radius, .int .i64 speed, .int .i64 ids, .int .i64 queue] 23
  have hbx := (Own.nil w).made (made_box w #[.int .i64 cols, .int .i64 rows, .int .i64 side, .int .i64 radius, .int .i64 speed, .int .i64 ids, .int .i64 queue] 23)
  rw [← hw1] at hbx
  have HBX := Lib.hid hbx
  have HMA := Lib.hid (made_any cols rows side radius speed ids queue v1 zs w1 (hz.keep hb1) (fun d hdm => by obtain ⟨l, q1, q2, q3⟩ := hd d hdm; exact ⟨l, q1, q2.keep hb1, q3⟩))
  have HMY := Lib.hid (fun W => may_any cols rows side radius speed ids queue W)
  have ho := mayF_ok ⟨cols, rows, side, radius, speed, ids, queue⟩
  generalize mayF ⟨cols, rows, side, radius, speed, ids, queue⟩ = cm at *
  have hml : (playF cm (nmOf w1) (newD cm) (fewF zs)).M.length = (cm.cols * cm.rows).toNat := by rw [play_len, newD_len]
  have HML := Lib.hid hml
  generalize playF cm _ _ _ = D at *
  have HO := Lib.hid ho
  have HW1 := Lib.hid hw1
  have y0 := k0 0; simp at y0; have y1 := k0 1; simp at y1; have y2 := k0 2; simp at y2; have y3 := k0 3; simp at y3; have y4 := k0 4; simp at y4; have y5 := k0 5; simp at y5; have y6 := k0 6; simp at y6
  have s1 : w.heap.size < w1.heap.size := by omega
  clear hw1 hb1 k0 g0 hsz ho hz hd hml hbx
  go_enter Try.func6, Try.ntmps6
  go_upto_region 1 with fail
  rw [← HW1.out]
  go_wp2_with fail
  refine HMA.out.mono ?_
  rintro e w2 ⟨p, q, R, kk, rfl, hkk, h2⟩
  have H2 := Lib.hid (HBX.out.made (own_made h2)).swap
  have hbc := H2.out.box
  clear y0 y1 y2 y3 y4 y5 y6 h2 HMA HBX HW1 hkk s1
  have y0 := hbc.1 0; simp at y0; have y1 := hbc.1 1; simp at y1; have y2 := hbc.1 2; simp at y2; have y3 := hbc.1 3; simp at y3; have y4 := hbc.1 4; simp at y4; have y5 := hbc.1 5; simp at y5; have y6 := hbc.1 6; simp at y6
  clear hbc
  go_wp2_with fail
  refine (HMY.out _).mono ?_
  rintro e w3 ⟨rfl, hb3⟩
  obtain ⟨hst, h4⟩ := st_cfg (cols := cm.cols) (rows := cm.rows) (side := cm.side) (radius := cm.radius) (speed := cm.speed) (ids := cm.ids) (queue := cm.queue) (H2.out.grow hb3)
  obtain ⟨w4, hw4⟩ : ∃ W, W = (((((((w3.setCell ⟨w.heap.size, 0, none⟩ (.int .i64 cm.cols)).setCell ⟨w.heap.size, 1, none⟩ (.int .i64 cm.rows)).setCell ⟨w.heap.size, 2, none⟩ (.int .i64 cm.side)).setCell ⟨w.heap.size, 3, none⟩ (.int .i64 cm.radius)).setCell ⟨w.heap.size, 4, none⟩ (.int .i64 cm.speed)).setCell ⟨w.heap.size, 5, none⟩ (.int .i64 cm.ids)).setCell ⟨w.heap.size, 6, none⟩ (.int .i64 cm.queue)) := ⟨_, rfl⟩
  rw [← hw4] at hst h4
  clear hw4
  clear hb3 HMY y0 y1 y2 y3 y4 y5 y6
  go_upto_region 3 with fail
  have H4 := Lib.hid h4.swap.assoc
  have hbnd := h4.swap.assoc.swap.assoc.bounds
  obtain ⟨⟨rw, put, hsim⟩, hqn, _⟩ := hbnd
  have hin := names_in hsim.len HML.out
  have hcn := cntN_le hsim.len
  have HIN := Lib.hid hin
  have HCN := Lib.hid hcn
  have HNE := Lib.hid (names_ne (M := D.M))
  have hq64 : D.q.length ≤ 64 := by have := HO.out.q1; omega
  have x6 := h4.box.1 6
  simp at x6
  have l6 := h4.box.2.2.1
  obtain ⟨z0, z1, z2⟩ := ltz l6
  have HWT := Lib.hid (fun W (hW : Below w4.heap.size w4 W) => waiting_o (H4.out.grow hW) HO.out)
  have HAL := Lib.hid (fun W (hW : Below w4.heap.size w4 W) => alive_o (H4.out.grow hW))
  have hgt : ¬ (D.q.length : Int) > cm.queue := by omega
  clear hst h4 H2 hin hcn
  have hL : ((listF D.M).map toNid).length ≤ 1000000 := by
    have h3 := hsim.pos
    exact list_len hsim.len (by omega) (by omega)
  have hcr : 0 ≤ cm.cols * cm.rows ∧ cm.cols * cm.rows ≤ 16 := by
    have h1 := HO.out
    exact ⟨Int.mul_nonneg (by have := h1.c0; omega) (by have := h1.r0; omega), Int.mul_le_mul h1.c1 h1.r1 (by have := h1.r0; omega) (by omega)⟩
  have hid := And.intro HO.out.i0 HO.out.i1
  clear hsim
  generalize (listF D.M).map toNid = L at *
  go_region_held3 (fun W => (w4).heap.size ≤ W.heap.size ∧ ∀ b o, b < (w4).heap.size → W.cell? ⟨b, o, none⟩ = (w4).cell? ⟨b, o, none⟩) (with_reducible (repeat (first | assumption | exact s_refl _ | exact s_id _ | refine s_more _ _ ?_ | refine s_alloc _ ?_ | refine s_drew ?_))) (first | (go_at_call 18; refine (HWT.out _ (by repeat' (first | (with_reducible exact Below.refl _ _) | (with_reducible assumption) | (with_reducible refine below_drewN ?_ _) | (with_reducible refine below_more _ _ _ ?_ ?_) | (with_reducible refine Below.alloc ?_ ?_ _) | (with_reducible refine Below.drew ?_) | (with_reducible refine Below.setCell ?_ ?_ _) | go_size))).mono ?_; rintro e w' ⟨va, rfl, hn⟩; obtain ⟨d2, os2, rfl⟩ := more_of hn.2.1; obtain ⟨p3, cap3, rfl⟩ := sl_frm hn.1; clear hn))
  go_wp2_with fail
  refine (HAL.out _ (by repeat' (first | (with_reducible exact Below.refl _ _) | (with_reducible assumption) | (with_reducible refine below_drewN ?_ _) | (with_reducible refine below_more _ _ _ ?_ ?_) | (with_reducible refine Below.alloc ?_ ?_ _) | (with_reducible refine Below.drew ?_) | (with_reducible refine Below.setCell ?_ ?_ _) | go_size))).mono ?_
  rintro e w5 ⟨va, rfl, hn5⟩
  have H5 := Lib.hid ((H4.out.grow (by repeat' (first | (with_reducible exact Below.refl _ _) | (with_reducible assumption) | (with_reducible refine below_drewN ?_ _) | (with_reducible refine below_more _ _ _ ?_ ?_) | (with_reducible refine Below.alloc ?_ ?_ _) | (with_reducible refine Below.drew ?_) | (with_reducible refine Below.setCell ?_ ?_ _) | go_size))).made hn5.made)
  obtain ⟨pa, ca, rfl⟩ := sl_frm hn5.1
  clear hn5 HWT HAL H4 x6 l6 z0 z1 z2 hgt
  have hmk : ∀ w, (Instr.makeSlice 67 (.int .i64 16) (.int .i64 16)).run Try.prog w = .ok (.slice (some ⟨w.heap.size, 0, none⟩) 16 16) (w.alloc (.cells #[.int .i64 0, .int .i64 0, .int .i64 0, .int .i64 0, .int .i64 0, .int .i64 0, .int .i64 0, .int .i64 0, .int .i64 0, .int .i64 0, .int .i64 0, .int .i64 0, .int .i64 0, .int .i64 0, .int .i64 0, .int .i64 0] 3)) := fun _ => by kernel_rfl
  go_upto_region 6 with fail
  have hm6 := made_box w5 #[.int .i64 0, .int .i64 0, .int .i64 0, .int .i64 0, .int .i64 0, .int .i64 0, .int .i64 0, .int .i64 0, .int .i64 0, .int .i64 0, .int .i64 0, .int .i64 0, .int .i64 0, .int .i64 0, .int .i64 0, .int .i64 0] 3
  have H6 := Lib.hid (H5.out.made hm6).drop3.drop3
  have hm0 : w5.heap.size < (w5.alloc (.cells #[.int .i64 0, .int .i64 0, .int .i64 0, .int .i64 0, .int .i64 0, .int .i64 0, .int .i64 0, .int .i64 0, .int .i64 0, .int .i64 0, .int .i64 0, .int .i64 0, .int .i64 0, .int .i64 0, .int .i64 0, .int .i64 0] 3)).heap.size := by simp
  clear hm6 H5
  go_upto_region 7 with fail
  generalize w5.heap.size = mb at *
  generalize (w5.alloc _ : World) = w6 at *
  clear hm0 hmk
  go_wp2_with fail
  go_loopw [9] (fun x wr => ∃ j : Nat, x = .int .i64 j ∧ j ≤ L.length ∧ Hid (Own w wr ((boxO mb (manyL (L.take j)).toArray 3).and ((slO 33 3 (.slice pa L.length ca) L.length (cellsR nidL L)).and ((boxO w.heap.size #[.int .i64 cm.cols, .int .i64 cm.rows, .int .i64 cm.side, .int .i64 cm.radius, .int .i64 cm.speed, .int .i64 cm.ids, .int .i64 cm.queue] 23).and .nil))))) (fun x _ => L.length - (intOf x).toNat)
  case atStart => exact ⟨0, rfl, Nat.zero_le _, Lib.hid (by rw [List.take_zero, manyL_nil]; exact H6.out)⟩
  case round =>
    clear H6
    obtain ⟨j, rfl, hj, hh⟩ := hrel
    obtain ⟨wo, rfl⟩ : ∃ wo : World, wo = wr := ⟨_, rfl⟩
    have hI : 0 ≤ (j : Int) := Int.natCast_nonneg j
    obtain ⟨cc, _, lc, _⟩ := hh.out.third.box
    have o0 := cc 0; have o1 := cc 1; have o5 := cc 5
    simp at o0 o1 o5
    obtain ⟨z0, z1, z2⟩ := ltz lc
    obtain ⟨bb, bf, lb, _⟩ := hh.out.box
    by_cases hlt : j < L.length
    · have t1 : (j : Int) < (L.length : Int) := by omega
      obtain ⟨x, hx⟩ : ∃ x, L[j]? = some x := ⟨_, List.getElem?_eq_getElem hlt⟩
      have hi := HIN.out j x hx
      have hcnt : cntN (L.take j) x.s ≤ j := Nat.le_trans (cntN_le_len _ _) (by rw [List.length_take]; omega)
      have hms := fun n hs => manyL_step hx (n := n) hs
      obtain ⟨xs, xi, xg⟩ := x
      simp only at hi hcnt hms
      obtain ⟨ks, rfl⟩ : ∃ ks : Nat, xs = (ks : Int) := ⟨xs.toNat, by omega⟩
      have hk16 : ks < 16 := by have := hcr.2; omega
      have hc0 := manyL_at (L.take j) hk16
      have t16 : (ks : Int) < 16 := by omega
      have t17 : 0 ≤ (ks : Int) := by omega
      obtain ⟨blk, off, cap', hve, hb, hcx⟩ := (RIn.of_sl hh.out.swap.sl.1).cells nidL_len hx
      simp only [Value.slice.injEq, true_and] at hve
      obtain ⟨rfl, rfl⟩ := hve
      have q0 := hcx 0 _ rfl
      have q1 := hcx 1 _ rfl
      rw [Nat.add_zero] at q0
      obtain ⟨z3, z4, z5⟩ := ltz hb
      obtain ⟨z6, z7, z8⟩ := ltz lb
      have d1 : decide ((ks : Int) < 0) = false := by simp
      have d2 : decide ((ks : Int) ≥ cm.cols * cm.rows) = false := by simp; omega
      have d3 : decide (xi < 0) = false := by simp; omega
      have d4 : decide (xi ≥ cm.ids) = false := by simp; omega
      have c0 : wo.cell? ⟨mb, ks, none⟩ = some (.int .i64 (cntN (L.take j) (ks : Int) : Nat)) := (bb ks).trans (by rw [List.getElem?_toArray]; exact hc0)
      have f0 : wo.frozen? ⟨mb, ks, none⟩ = false := bf ks
      have HMS := Lib.hid (hms ks rfl)
      have hset := Lib.hid (hh.out.set ks (.int .i64 ((cntN (L.take j) (ks : Int) : Nat) + 1)))
      clear hcx hms hc0 cc bb bf
      generalize cntN (L.take j) (ks : Int) = cn at *
      go_wp2_with fail
      refine wp_region_more (by kernel_rfl) (by kernel_rfl) ?_
      repeat (go_big_quiet_step (fail))
      refine wpQuiet_nil ?_
      rintro _ ⟨pn, rfl⟩
      go_upto_region 13 with fail
      have h7 := hset.out
      rw [List.setIfInBounds_toArray, ← HMS.out] at h7
      generalize hW7 : more (wo.setCell _ _) _ _ = W7
      have H7 := Lib.hid (h7.grow (show Below (wo.setCell ⟨mb, ks, none⟩ (.int .i64 ((cn : Int) + 1))).heap.size (wo.setCell ⟨mb, ks, none⟩ (.int .i64 ((cn : Int) + 1))) W7 from by rw [← hW7]; exact (by repeat' (first | (with_reducible exact Below.refl _ _) | (with_reducible assumption) | (with_reducible refine below_drewN ?_ _) | (with_reducible refine below_more _ _ _ ?_ ?_) | (with_reducible refine Below.alloc ?_ ?_ _) | (with_reducible refine Below.drew ?_) | (with_reducible refine Below.setCell ?_ ?_ _) | go_size))))
      have HX := Lib.hid hx
      clear hW7 h7 hset HMS c0 f0 o0 o1 o5 q0 q1 z0 z1 z2 z3 z4 z5 z6 z7 z8 lc lb hb hh hx d1 d2 d3 d4 hcnt
      go_wp2_with fail
      go_loopw [10] (fun y wr => ∃ k : Nat, y = .int .i64 k ∧ k ≤ j ∧ Hid (Below W7.heap.size W7 wr)) (fun y _ => j - (intOf y).toNat)
      case atStart => exact ⟨0, rfl, Nat.zero_le _, Lib.hid (Below.refl _ _)⟩
      case round =>
        obtain ⟨k, rfl, hk, hB⟩ := hrel
        obtain ⟨wi, rfl⟩ : ∃ wi : World, wi = wr := ⟨_, rfl⟩
        have hI3 : 0 ≤ (k : Int) := Int.natCast_nonneg k
        by_cases hlk : k < j
        · have t2 : (k : Int) < (j : Int) := by omega
          have t3 : (k : Int) < (L.length : Int) := by omega
          obtain ⟨y, hy⟩ : ∃ y, L[k]? = some y := ⟨_, List.getElem?_eq_getElem (by omega)⟩
          have hne := HNE.out j k _ y hlk HX.out hy
          obtain ⟨q0, q1, hb⟩ := nid_at (H7.out.grow hB.out).swap.sl.1 HX.out
          obtain ⟨r0, r1, _⟩ := nid_at (H7.out.grow hB.out).swap.sl.1 hy
          obtain ⟨ys, yi, yg⟩ := y
          simp only at hne q0 q1 r0 r1
          obtain ⟨z3, z4, z5⟩ := ltz hb
          clear hy
          by_cases hs : ys = (ks : Int)
          · have hs' : (ys == (ks : Int)) = true := by simpa using hs
            have hn' : (yi == xi) = false := by simp; exact fun e => hne ⟨hs, e⟩
            go_wp2_with fail
            refine wp_region_more (by kernel_rfl) (by kernel_rfl) ?_
            repeat (go_big_quiet_step (fail))
            refine wpQuiet_nil ?_
            rintro _ ⟨pn, rfl⟩
            go_wp2_with fail
            go_roundw
            case rel => exact ⟨k + 1, by go_num, hlk, Lib.hid (hB.out.trans (Below.mono (B := wi.heap.size) (by repeat' (first | (with_reducible exact Below.refl _ _) | (with_reducible assumption) | (with_reducible refine below_drewN ?_ _) | (with_reducible refine below_more _ _ _ ?_ ?_) | (with_reducible refine Below.alloc ?_ ?_ _) | (with_reducible refine Below.drew ?_) | (with_reducible refine Below.setCell ?_ ?_ _) | go_size)) hB.out.size))⟩
            case measure => simp [intOf]; omega
          · have hs' : (ys == (ks : Int)) = false := by simpa using hs
            go_wp2_with fail
            refine wp_region_more (by kernel_rfl) (by kernel_rfl) ?_
            repeat (go_big_quiet_step (fail))
            refine wpQuiet_nil ?_
            rintro _ ⟨pn, rfl⟩
            go_wp2_with fail
            go_roundw
            case rel => exact ⟨k + 1, by go_num, hlk, Lib.hid (hB.out.trans (Below.mono (B := wi.heap.size) (by repeat' (first | (with_reducible exact Below.refl _ _) | (with_reducible assumption) | (with_reducible refine below_drewN ?_ _) | (with_reducible refine below_more _ _ _ ?_ ?_) | (with_reducible refine Below.alloc ?_ ?_ _) | (with_reducible refine Below.drew ?_) | (with_reducible refine Below.setCell ?_ ?_ _) | go_size)) hB.out.size))⟩
            case measure => simp [intOf]; omega
        · obtain rfl : k = j := by omega
          go_wp2_with fail
          go_roundw
          case rel => exact ⟨k + 1, by go_num, hlt, Lib.hid (H7.out.grow (hB.out.trans (Below.mono (B := wi.heap.size) (by repeat' (first | (with_reducible exact Below.refl _ _) | (with_reducible assumption) | (with_reducible refine below_drewN ?_ _) | (with_reducible refine below_more _ _ _ ?_ ?_) | (with_reducible refine Below.alloc ?_ ?_ _) | (with_reducible refine Below.drew ?_) | (with_reducible refine Below.setCell ?_ ?_ _) | go_size)) hB.out.size)))⟩
          case measure => simp [intOf]; omega
    · obtain rfl : j = L.length := by omega
      rw [List.take_length] at hh
      have x5 := hh.out.third.box.1 5
      simp at x5
      have HMA := Lib.hid (fun W (hW : Below wo.heap.size wo W) k => (hh.out.grow hW).box.1 k)
      have HM5 := Lib.hid (fun W (hW : Below wo.heap.size wo W) => (hW.cell (p := ⟨w.heap.size, 5, none⟩) lc).trans x5)
      have HBO := Lib.hid hh.out.below
      clear o0 o1 o5 x5 cc z0 z1 z2 bb bf hh hlt hj
      go_wp2_with fail
      go_loopw [11] (fun x wr => ∃ k : Nat, x = .int .i64 k ∧ k ≤ 16 ∧ Hid (Below wo.heap.size wo wr)) (fun x _ => 16 - (intOf x).toNat)
      case atStart => exact ⟨0, rfl, Nat.zero_le _, Lib.hid (Below.refl _ _)⟩
      case round =>
        obtain ⟨k, rfl, hk, hB⟩ := hrel
        obtain ⟨wi, rfl⟩ : ∃ wi : World, wi = wr := ⟨_, rfl⟩
        have hI3 : 0 ≤ (k : Int) := Int.natCast_nonneg k
        by_cases hlk : k < 16
        · have t2 : (k : Int) < 16 := by omega
          have hc0 := manyL_at L hlk
          have hcn := HCN.out (k : Int)
          have c0 : wi.cell? ⟨mb, k, none⟩ = some (.int .i64 (cntN L (k : Int) : Nat)) := (HMA.out wi hB.out k).trans (by rw [List.getElem?_toArray]; exact hc0)
          have x5 := HM5.out wi hB.out
          have d1 : decide (((cntN L (k : Int) : Nat) : Int) > cm.ids) = false := by simp; omega
          have lb := Nat.lt_of_lt_of_le lb hB.out.size
          have lc := Nat.lt_of_lt_of_le lc hB.out.size
          obtain ⟨z3, z4, z5⟩ := ltz lb
          obtain ⟨z6, z7, z8⟩ := ltz lc
          clear hc0 hcn
          generalize cntN L (k : Int) = cn at *
          go_wp2_with fail
          refine wp_region_more (by kernel_rfl) (by kernel_rfl) ?_
          repeat (go_big_quiet_step (fail))
          refine wpQuiet_nil ?_
          rintro _ ⟨pn, rfl⟩
          go_wp2_with fail
          go_roundw
          case rel => exact ⟨k + 1, by go_num, hlk, Lib.hid (hB.out.trans (Below.mono (B := wi.heap.size) (by repeat' (first | (with_reducible exact Below.refl _ _) | (with_reducible assumption) | (with_reducible refine below_drewN ?_ _) | (with_reducible refine below_more _ _ _ ?_ ?_) | (with_reducible refine Below.alloc ?_ ?_ _) | (with_reducible refine Below.drew ?_) | (with_reducible refine Below.setCell ?_ ?_ _) | go_size)) hB.out.size))⟩
          case measure => simp [intOf]; omega
        · obtain rfl : k = 16 := by omega
          go_wp2_with (go_at_call 20; refine (awake16 _).mono ?_; rintro e w' ⟨rfl, hb⟩; obtain ⟨d, os, rfl⟩ := more_of hb; clear hb)
          go_ret
          exact ⟨rfl, HBO.out.trans (Below.mono (B := wo.heap.size) (hB.out.trans (Below.mono (B := wi.heap.size) (by repeat' (first | (with_reducible exact Below.refl _ _) | (with_reducible assumption) | (with_reducible refine below_drewN ?_ _) | (with_reducible refine below_more _ _ _ ?_ ?_) | (with_reducible refine Below.alloc ?_ ?_ _) | (with_reducible refine Below.drew ?_) | (with_reducible refine Below.setCell ?_ ?_ _) | go_size)) hB.out.size)) HBO.out.size)⟩
set_option maxRecDepth 100000 in
theorem lifted (os : Os) (started : os.Started) (H : Type) (enc : TypeId × Value → H) :
    ReturnsInHanded {} Try.checked os 6 .any (Rows.deskRoomSpec.pre6 enc Try.prog Try.f6 Rows.deskRoomRow.domain false) (Rows.deskRoomSpec.post enc Try.prog Try.f6 false true false false) := by
  refine returnsInHanded_of_change (C := Try.checked) ownKnob0 started (by kernel_rfl) Try.func6
    (ChangeSpec.witness6 (enc := enc) (C := Try.checked) false ⟨#[], #[.agg #[.int .i64 0, .int .i64 0, .int .i64 0, .int .i64 0, .int .i64 0, .int .i64 0, .int .i64 0], .slice none 0 0], []⟩ 8 (by kernel_rfl) (by kernel_rfl) (by kernel_rfl) (by kernel_rfl)) ?_
  intro W base args ds gs before hval0 hW _ _
  have hval : ∀ (j : Nat) t v, Try.f6.params[j]? = some t → args[j]? = some v → Value.okWide Try.prog W .any base t v := hval0
  have hread : ∀ t ∈ Try.f6.params.toList, Try.prog.readableRec t = true ∧ t < Try.prog.types.size := by
    rw [Try.params6]
    intro t ht
    simp only [List.mem_cons, List.not_mem_nil, or_false] at ht
    rcases ht with rfl | rfl
    all_goals exact ⟨by kernel_rfl, of_decide_eq_true (by kernel_rfl)⟩
  have hW' := hW
  obtain ⟨p, q, hA0, hV, -, -⟩ := hW'
  have hA : DataW.TrodAll enc Try.prog W 0 (fun _ => true) true Try.f6.params.toList args.toList ds p := hA0
  rw [Try.params6] at hA hval
  obtain ⟨v0, vs0, d0, ds0, p0, q0, hargs, rfl, rfl, h0, r0⟩ := trodAll_cons hA
  obtain ⟨v1, vs1, d1, ds1, p1, q1, rfl, rfl, rfl, h1, r1⟩ := trodAll_cons r0
  obtain ⟨rfl, rfl, rfl⟩ := trodAll_nil r1
  obtain rfl : args = #[v0, v1] := by cases args; simp_all
  obtain ⟨rfl, rfl⟩ := trodVars_none hV
  have k0 := hval 0 23 v0 rfl rfl
  have k1 := hval 1 24 v1 rfl rfl
  clear hval hval0 hA0 hV hA
  obtain ⟨c0, fuel0, rfl, g0⟩ := agg_of Try.underlying23 k0 h0
  obtain ⟨acols, arows, aside, aradius, aspeed, aids, aqueue, rfl⟩ := read_cfg g0
  obtain ⟨zs, hz, hd⟩ := deeds_in k1 h1
  exact (walk _ _ _ _ _ _ _ _ zs W hz hd).mono fun e W' ⟨he, hb⟩ => ⟨_, he, post_true rfl rfl hread rfl hW hb⟩

/-- DeskRoom: true for every input; the arguments stay. -/
theorem proved : Rows.DeskRoomSaid :=
  OpenClaim.holds_of_wide 6 Try.f6 rfl rfl rfl rfl rfl rfl rfl ⟨rfl, rfl, rfl, rfl, rfl⟩ rfl rfl rfl rfl rfl (by kernel_rfl) Try.func6 (by kernel_rfl)
    (of_decide_eq_true (by kernel_rfl)) (by unfold Func.isWrapper; first | (rw [if_pos (by decide +kernel)]; kernel_rfl) | (rw [if_neg (by decide +kernel)]; exact ⟨rfl, rfl⟩))
    (fun os started H enc _ => lifted os started H enc)
end Go.Proofs.Ytbghjklnlhoklaa.deskRoom
