/-
  WorldZones: for any config and every list of turns the law returns true, and the arguments stay as they were. No condition.
-/
import Derived.Test.YtoimjjhopljdmaaGreatY45
import Derived.Test.YtoimjjhopljdmaaGreatY46
import Derived.Test.YtoimjjhopljdmaaGreatY38
import Derived.Test.YtoimjjhopljdmaaGreatY12
namespace Go.Proofs.YtoimjjhopljdmaaGreat.worldZones
open Go.ChangeShapes Go.WideShapes Go.ChangeAt Go.RowKit

attribute [local go_sem ↓] storeVar_stC loadVar_ldM
set_option maxRecDepth 100000 in
set_option maxHeartbeats 8000000 in
theorem walk (cols rows side radius speed ids queue : Int) (v : Value) (zs : List Tn) (w : World) (hz : RIn tnL w v zs) :
    Calls Tryz.prog 5 #[.agg #[.int .i64 cols, .int .i64 rows, .int .i64 side, .int .i64 radius, .int .i64 speed, .int .i64 ids, .int .i64 queue], v] w fun e w' => e = .returned (.bool true) ∧ Below w.heap.size w w' := by
  obtain ⟨i0, hi0, hz0, hz1, hz2⟩ := info_parts info_bunJ
  obtain ⟨pt, ct, rfl, _⟩ := id hz
  have HFW := Lib.hid (fun W (hW : Below w.heap.size w W) => few17_any pt ct zs W (hz.keep hW))
  have hts : (zs.take 60).length ≤ 60 := by rw [List.length_take]; omega
  have HIN := Lib.hid (rin_cut 60 hz)
  generalize zs.take 60 = ts at *
  have HMY := Lib.hid (fun W => may_any cols rows side radius speed ids queue W)
  have ho := mayF_ok ⟨cols, rows, side, radius, speed, ids, queue⟩
  generalize mayF ⟨cols, rows, side, radius, speed, ids, queue⟩ = cm at *
  obtain ⟨dcols, drows, dside, dradius, dspeed, dids, dqueue⟩ := cm
  simp only at HMY
  have HN := Lib.hid (fun W => wnew_ok dcols drows dside dradius dspeed dids dqueue W ho)
  have HROF := Lib.hid (fun x y W => rof_any dcols drows dside dradius dspeed dids dqueue x y W ho)
  have HRZN := Lib.hid (fun (k : Int) W => rzone_any dcols drows dside dradius dspeed dids dqueue k W ho)
  have HO := Lib.hid ho
  obtain ⟨hc1, hc2⟩ := ho.cnt
  simp only at hc1 hc2
  obtain ⟨cnt, hcnt⟩ : ∃ cnt : Nat, dcols * drows = (cnt : Int) := ⟨(dcols * drows).toNat, by omega⟩
  have hwr : IntKind.i64.wrap (dcols * drows) = (cnt : Int) := by rw [hcnt, IntKind.wrap_i64]; omega
  have HCN := Lib.hid hcnt
  have hbx := (Own.nil w).made (made_box w #[.int .i64 cols, .int .i64 rows, .int .i64 side, .int .i64 radius, .int .i64 speed, .int .i64 ids, .int .i64 queue] 23)
  clear hz ho
  go_enter Tryz.func5, Tryz.ntmps5
  go_upto_region 1 with fail
  generalize w.alloc _ = w1 at *
  have s2 := hbx.box.2.2.1
  have y0 := hbx.box.1 0; simp at y0; have y1 := hbx.box.1 1; simp at y1; have y2 := hbx.box.1 2; simp at y2; have y3 := hbx.box.1 3; simp at y3; have y4 := hbx.box.1 4; simp at y4; have y5 := hbx.box.1 5; simp at y5; have y6 := hbx.box.1 6; simp at y6
  obtain ⟨z0, z1, z2⟩ := ltz s2
  have HBX := Lib.hid hbx
  clear hbx
  go_wp2_with fail
  refine (HMY.out _).mono ?_
  rintro e w4 ⟨rfl, hb4⟩
  obtain ⟨hst, h5⟩ := st_cfg (cols := dcols) (rows := drows) (side := dside) (radius := dradius) (speed := dspeed) (ids := dids) (queue := dqueue) (HBX.out.grow hb4)
  obtain ⟨w5, hw5⟩ : ∃ W, W = (((((((w4.setCell ⟨w.heap.size, 0, none⟩ (.int .i64 dcols)).setCell ⟨w.heap.size, 1, none⟩ (.int .i64 drows)).setCell ⟨w.heap.size, 2, none⟩ (.int .i64 dside)).setCell ⟨w.heap.size, 3, none⟩ (.int .i64 dradius)).setCell ⟨w.heap.size, 4, none⟩ (.int .i64 dspeed)).setCell ⟨w.heap.size, 5, none⟩ (.int .i64 dids)).setCell ⟨w.heap.size, 6, none⟩ (.int .i64 dqueue)) := ⟨_, rfl⟩
  rw [← hw5] at hst h5
  clear hw5 hb4 HMY y0 y1 y2 y3 y4 y5 y6 s2 z0 z1 z2 HBX
  go_upto_region 2 with fail
  have s2 := h5.box.2.2.1
  have y0 := h5.box.1 0; simp at y0; have y1 := h5.box.1 1; simp at y1; have y2 := h5.box.1 2; simp at y2; have y3 := h5.box.1 3; simp at y3; have y4 := h5.box.1 4; simp at y4; have y5 := h5.box.1 5; simp at y5; have y6 := h5.box.1 6; simp at y6
  obtain ⟨z0, z1, z2⟩ := ltz s2
  have H5 := Lib.hid h5
  clear h5 hst
  go_wp2_with fail
  refine (HN.out _).mono ?_
  rintro e W3 ⟨p, rfl, hm3⟩
  have H3 : Hid (Own w W3 ((worldO p ⟨dcols, drows, dside, dradius, dspeed, dids, dqueue⟩ (newW ⟨dcols, drows, dside, dradius, dspeed, dids, dqueue⟩)).and ((boxO w.heap.size #[.int .i64 dcols, .int .i64 drows, .int .i64 dside, .int .i64 dradius, .int .i64 dspeed, .int .i64 dids, .int .i64 dqueue] 23).and .nil))) := Lib.hid (H5.out.made hm3)
  clear hm3 H5 HN y0 y1 y2 y3 y4 y5 y6 s2 z0 z1 z2
  go_wp2_with fail
  refine (HFW.out _ H3.out.below).mono ?_
  rintro e W4 ⟨rfl, hb4⟩
  have hnil : Made W4 W4 (slO 32 11 (.slice none 0 0) (newW ⟨dcols, drows, dside, dradius, dspeed, dids, dqueue⟩).L.length (cellsR bunL (newW ⟨dcols, drows, dside, dradius, dspeed, dids, dqueue⟩).L)) := made_sl ⟨rfl, .inl ⟨rfl, rfl⟩⟩ (Below.refl _ _) (fun g hg => by cases hg)
  have H4 : Hid (Own w W4 ((worldO p ⟨dcols, drows, dside, dradius, dspeed, dids, dqueue⟩ (newW ⟨dcols, drows, dside, dradius, dspeed, dids, dqueue⟩)).and ((boxO w.heap.size #[.int .i64 dcols, .int .i64 drows, .int .i64 dside, .int .i64 dradius, .int .i64 dspeed, .int .i64 dids, .int .i64 dqueue] 23).and ((slO 32 11 (.slice none 0 0) (newW ⟨dcols, drows, dside, dradius, dspeed, dids, dqueue⟩).L.length (cellsR bunL (newW ⟨dcols, drows, dside, dradius, dspeed, dids, dqueue⟩).L)).and .nil)))) := Lib.hid ((H3.out.grow hb4).made hnil).new3
  clear hb4 H3 HFW hnil
  go_wp2_with fail
  go_loopw [7, 8] (fun s7 x wr => ∃ (j : Nat) (X : Wo) (pv : Option Addr) (cv : Nat) (F : Ob), s7 = .slice pv X.L.length cv ∧ x = .int .i64 j ∧ j ≤ ts.length ∧ WInv ⟨dcols, drows, dside, dradius, dspeed, dids, dqueue⟩ j X ∧ Hid (Own w wr ((worldO p ⟨dcols, drows, dside, dradius, dspeed, dids, dqueue⟩ X).and ((boxO w.heap.size #[.int .i64 dcols, .int .i64 drows, .int .i64 dside, .int .i64 dradius, .int .i64 dspeed, .int .i64 dids, .int .i64 dqueue] 23).and ((slO 32 11 (.slice pv X.L.length cv) X.L.length (cellsR bunL X.L)).and F))))) (fun _ x _ => ts.length - (intOf x).toNat)
  case atStart => exact ⟨0, _, none, 0, _, rfl, rfl, Nat.zero_le _, new_inv HO.out, H4⟩
  case round =>
    clear H4
    obtain ⟨j, X, pv, cv, F, rfl, rfl, hj, hinv, hh⟩ := hrel
    obtain ⟨wo, rfl⟩ : ∃ wo : World, wo = wr := ⟨_, rfl⟩
    have hI : 0 ≤ (j : Int) := Int.natCast_nonneg j
    by_cases hlt : j < ts.length
    · have t1 : (j : Int) < (ts.length : Int) := by omega
      obtain ⟨t, ht⟩ : ∃ t, ts[j]? = some t := ⟨_, List.getElem?_eq_getElem hlt⟩
      obtain ⟨blk, off, cap', hve, hb, hcx⟩ := (HIN.out.keep hh.out.below).cells tnL_len ht
      simp only [Value.slice.injEq, true_and] at hve
      obtain ⟨rfl, rfl⟩ := hve
      obtain ⟨st, ⟨k, s, i, g, ⟨es, ei, eg, m, x, y, vx, vy, hp, pw, lf⟩, mask⟩⟩ := t
      have c0 : wo.cell? ⟨blk, off + j * 17, none⟩ = some (.bool st) := hcx 0 _ rfl
      obtain ⟨z0, z1, z2⟩ := ltz hb
      clear ht
      cases st with
      | false =>
        have hi2 := (call_inv hinv ⟨k, s, i, g, ⟨es, ei, eg, m, x, y, vx, vy, hp, pw, lf⟩, mask⟩).inv
        have hL2 := callW_L ⟨dcols, drows, dside, dradius, dspeed, dids, dqueue⟩ X ⟨k, s, i, g, ⟨es, ei, eg, m, x, y, vx, vy, hp, pw, lf⟩, mask⟩
        have HCL := Lib.hid (wcall_o hh.out HO.out ⟨k, s, i, g, ⟨es, ei, eg, m, x, y, vx, vy, hp, pw, lf⟩, mask⟩)
        have hL1 : (ldM ⟨blk, off + j * 17 + 1, none⟩).run Tryz.prog wo = .ok (.agg #[.int .i64 k, .int .i64 s, .int .i64 i, .int .i64 g, .int .i64 es, .int .i64 ei, .int .i64 eg, .int .i64 m, .int .i64 x, .int .i64 y, .int .i64 vx, .int .i64 vy, .int .i64 hp, .int .i64 pw, .int .i64 lf, .int .i64 mask]) wo := ldM_of ⟨k, s, i, g, ⟨es, ei, eg, m, x, y, vx, vy, hp, pw, lf⟩, mask⟩ fun q u hq => by
          rw [Nat.add_assoc (off + j * 17)]
          exact hcx (1 + q) u (by rw [Nat.add_comm 1 q]; exact hq)
        generalize callW ⟨dcols, drows, dside, dradius, dspeed, dids, dqueue⟩ X ⟨k, s, i, g, ⟨es, ei, eg, m, x, y, vx, vy, hp, pw, lf⟩, mask⟩ = cr at *
        obtain ⟨⟨m2, er⟩, X2⟩ := cr
        simp only at hi2 hL2
        have HCL2 : Hid (Calls Tryz.prog 19 #[.pointer (some ⟨p, 0, none⟩), .agg #[.int .i64 k, .int .i64 s, .int .i64 i, .int .i64 g, .int .i64 es, .int .i64 ei, .int .i64 eg, .int .i64 m, .int .i64 x, .int .i64 y, .int .i64 vx, .int .i64 vy, .int .i64 hp, .int .i64 pw, .int .i64 lf, .int .i64 mask]] wo fun e w' => e = .returned (.tuple #[.agg (cmC m2).toArray, .int .i64 er]) ∧ Own w w' ((worldO p ⟨dcols, drows, dside, dradius, dspeed, dids, dqueue⟩ X2).and ((boxO w.heap.size #[.int .i64 dcols, .int .i64 drows, .int .i64 dside, .int .i64 dradius, .int .i64 dspeed, .int .i64 dids, .int .i64 dqueue] 23).and ((slO 32 11 (.slice pv X.L.length cv) X.L.length (cellsR bunL X.L)).and F)))) := Lib.hid HCL.out
        clear hcx HCL hinv hh
        go_wp2_with fail
        refine HCL2.out.mono ?_
        rintro e V1 ⟨rfl, h1⟩
        have H1 := Lib.hid h1
        clear h1 HCL2
        go_wp2_with fail
        go_roundw
        case rel => exact ⟨j + 1, X2, pv, cv, F, by rw [hL2], by go_num, hlt, hi2, Lib.hid (by rw [hL2]; exact H1.out)⟩
        case measure => simp [intOf]; omega
      | true =>
        have hL2 : (stepW ⟨dcols, drows, dside, dradius, dspeed, dids, dqueue⟩ X).2.L = ownL ⟨dcols, drows, dside, dradius, dspeed, dids, dqueue⟩ (-1) X.L [] X.D.q := by rw [(step_inv HO.out hinv (by omega)).2.1]
        have hi2 := (step_inv HO.out hinv (by omega)).1
        have hlen := hinv.len
        have HG := Lib.hid hinv.good
        have HQK := Lib.hid hinv.qok
        have hnd := List.nodup_append.1 hinv.nd
        have hfr : ∀ n ∈ begM X.D.q, n ∉ X.L.map idOf := fun n hn hm => hnd.2.2 n hm n hn rfl
        have hA := all_whole (c := ⟨dcols, drows, dside, dradius, dspeed, dids, dqueue⟩) HO.out HCN.out (rise_un hinv.rise) (fun b hb => (hinv.good b hb).1.2.1) (fun b hb => check_pw (hinv.good b hb).1.1) (by omega) hfr hnd.2.1
        rw [← hL2] at hA
        have HST := Lib.hid (fun W E (hW : Own w W ((worldO p ⟨dcols, drows, dside, dradius, dspeed, dids, dqueue⟩ X).and E)) => wstep_i hW HO.out hinv (by omega))
        have HWT := Lib.hid (wwaits_o hh.out HO.out)
        have hzx : ∃ (oF gF : Nat → List Bun) (zD : Nat → List Nid), (∀ (k : Nat) (_ : k < cnt) vo vn vc W (_ : BIn W vo (partF ⟨dcols, drows, dside, dradius, dspeed, dids, dqueue⟩ k X.L)) (_ : BIn W vn (wantF ⟨dcols, drows, dside, dradius, dspeed, dids, dqueue⟩ k X.L)) (_ : RIn cmC W vc X.D.q), Calls Tryz.prog 23 #[.agg #[.int .i64 dcols, .int .i64 drows, .int .i64 dside, .int .i64 dradius, .int .i64 dspeed, .int .i64 dids, .int .i64 dqueue], .int .i64 k, vo, vn, vc] W (RunM W (oF k) (gF k) (zD k))) ∧ ∀ k, zoneL ⟨dcols, drows, dside, dradius, dspeed, dids, dqueue⟩ X.L X.D.q k = oF k ++ gF k :=
          ⟨fun k => ownL ⟨dcols, drows, dside, dradius, dspeed, dids, dqueue⟩ k (partF ⟨dcols, drows, dside, dradius, dspeed, dids, dqueue⟩ k X.L) (wantF ⟨dcols, drows, dside, dradius, dspeed, dids, dqueue⟩ k X.L) X.D.q, fun k => goneL ⟨dcols, drows, dside, dradius, dspeed, dids, dqueue⟩ k (partF ⟨dcols, drows, dside, dradius, dspeed, dids, dqueue⟩ k X.L) (wantF ⟨dcols, drows, dside, dradius, dspeed, dids, dqueue⟩ k X.L) X.D.q, fun k => setN (deadN ⟨dcols, drows, dside, dradius, dspeed, dids, dqueue⟩ k (partF ⟨dcols, drows, dside, dradius, dspeed, dids, dqueue⟩ k X.L) (wantF ⟨dcols, drows, dside, dradius, dspeed, dids, dqueue⟩ k X.L) X.D.q), fun k hk vo vn vc W hl hl2 hc => run15_new dcols drows dside dradius dspeed dids dqueue k vo vn vc (partF ⟨dcols, drows, dside, dradius, dspeed, dids, dqueue⟩ k X.L) (wantF ⟨dcols, drows, dside, dradius, dspeed, dids, dqueue⟩ k X.L) X.D.q W HO.out (by omega) (by omega) hl hl2 hc (fun b hb => good_fit (HG.out b (List.mem_filter.1 hb).1).1.1) (fun b hb => good_fit (HG.out b (List.mem_filter.1 hb).1).1.1) (fun m hm => cmd_fit (HQK.out m hm).1) (Nat.le_trans (List.length_filter_le _ _) (by omega)) (Nat.le_trans (List.length_filter_le _ _) (by omega)) (by omega), fun k => rfl⟩
        obtain ⟨oF, gF, zD, hrz, hz1'⟩ := hzx
        have HRZ := Lib.hid hrz; have HZ1 := Lib.hid hz1'
        have HAS := Lib.hid (fun k => allTo_succ ⟨dcols, drows, dside, dradius, dspeed, dids, dqueue⟩ X.L X.D.q k)
        have HAL := Lib.hid (fun (k : Nat) (hk : k ≤ cnt) => show (allTo ⟨dcols, drows, dside, dradius, dspeed, dids, dqueue⟩ X.L X.D.q k).length ≤ 1600 from Nat.le_trans (allTo_len ⟨dcols, drows, dside, dradius, dspeed, dids, dqueue⟩ X.L X.D.q k) (Nat.le_trans (Nat.mul_le_mul (show k ≤ 16 by omega) (show X.L.length + X.D.q.length ≤ 100 by omega)) (by omega)))
        have HZL := Lib.hid (fun (k : Nat) => show (zoneL ⟨dcols, drows, dside, dradius, dspeed, dids, dqueue⟩ X.L X.D.q k).length ≤ 100 from Nat.le_trans (zoneL_len ⟨dcols, drows, dside, dradius, dspeed, dids, dqueue⟩ X.L X.D.q k) (by omega))
        have HT0 := Lib.hid (show allTo ⟨dcols, drows, dside, dradius, dspeed, dids, dqueue⟩ X.L X.D.q 0 = [] from rfl)
        generalize allTo ⟨dcols, drows, dside, dradius, dspeed, dids, dqueue⟩ X.L X.D.q = aT at *
        generalize zoneL ⟨dcols, drows, dside, dradius, dspeed, dids, dqueue⟩ X.L X.D.q = zL at *
        have HA := Lib.hid hA
        have hX2 : (stepW ⟨dcols, drows, dside, dradius, dspeed, dids, dqueue⟩ X).2.L.length ≤ 1000000 := by have := hi2.len; omega
        clear hcx hrz hz1' hnd hfr hL2 hA
        generalize hgL : X.L = XL at *
        generalize (stepW ⟨dcols, drows, dside, dradius, dspeed, dids, dqueue⟩ X).2 = X2 at *
        generalize deadW ⟨dcols, drows, dside, dradius, dspeed, dids, dqueue⟩ X = dN at *
        go_wp2_with fail
        refine HWT.out.mono ?_
        rintro e wq ⟨vq, rfl, hn⟩
        obtain ⟨pq, cq, rfl⟩ := sl_frm hn.1
        have h6 := (hh.out.made hn.made).swap
        have HCS := Lib.hid hn.rin
        have HQO := Lib.hid h6
        have HC := Lib.hid h6.third.box.1
        have l2 := h6.third.box.2.2.1
        have HL := Lib.hid (BIn.of_sl h6.fourth.sl.1)
        clear hn h6 hh HWT
        go_wp2_with fail
        go_loopg [10, 11] cnt (fun kx s10 sx wr => ∃ k : Nat, sx = .int .i64 k ∧ k ≤ cnt ∧ cnt - k ≤ kx ∧ Hid (BNew wq wr s10 (aT k)))
        case atStart => exact ⟨0, by go_num, by omega, by omega, Lib.hid (by rw [HT0.out]; exact BNew.nil _)⟩
        case round =>
          obtain ⟨k, rfl, hk, hkx, HP⟩ := hrel
          obtain ⟨wa, rfl⟩ : ∃ wa : World, wa = wr := ⟨_, rfl⟩
          have hba := HP.out.2.1
          have l2a := Nat.lt_of_lt_of_le l2 hba.size
          have CA := Lib.hid (box_on hba l2 HC.out)
          have HLA := Lib.hid (HL.out.keep hba)
          have HCSA := Lib.hid (HCS.out.keep hba)
          obtain ⟨f0, f1, f2⟩ := ltz l2a
          have q0 := CA.out 0; simp at q0; have q1 := CA.out 1; simp at q1; have q2 := CA.out 2; simp at q2; have q3 := CA.out 3; simp at q3; have q4 := CA.out 4; simp at q4; have q5 := CA.out 5; simp at q5; have q6 := CA.out 6; simp at q6
          obtain ⟨p10, c10, h10⟩ := sl_frm HP.out.1
          subst h10
          have hal := HAL.out k hk
          clear hba
          by_cases hlt2 : k < cnt
          · have t2 : (k : Int) < dcols * drows := by omega
            have hex : ∃ (fb fw : Bun → Bool) (of gp : Int → Int → Int) (r0 r1 r2 r3 : Int), (∀ b : Bun, (of b.x b.y == (k : Int)) = fb b) ∧ (∀ b : Bun, fw b = (!(of b.x b.y == (k : Int)) && decide (gp b.x b.y ≤ dradius))) ∧
                (∀ x y W, Calls Tryz.prog 15 #[.agg #[.int .i64 dcols, .int .i64 drows, .int .i64 dside, .int .i64 dradius, .int .i64 dspeed, .int .i64 dids, .int .i64 dqueue], .int .i64 x, .int .i64 y] W fun e w' => e = .returned (.int .i64 (of x y)) ∧ Below W.heap.size W w') ∧
                (∀ W, Calls Tryz.prog 22 #[.agg #[.int .i64 dcols, .int .i64 drows, .int .i64 dside, .int .i64 dradius, .int .i64 dspeed, .int .i64 dids, .int .i64 dqueue], .int .i64 k] W fun e w' => e = .returned (.agg #[.int .i64 r0, .int .i64 r1, .int .i64 r2, .int .i64 r3]) ∧ Below W.heap.size W w') ∧
                (∀ x y W, Calls Tryz.prog 21 #[.agg #[.int .i64 r0, .int .i64 r1, .int .i64 r2, .int .i64 r3], .int .i64 x, .int .i64 y] W fun e w' => e = .returned (.int .i64 (gp x y)) ∧ Below W.heap.size W w') ∧
                (∀ vo vn vc W, BIn W vo (XL.filter fb) → BIn W vn (XL.filter fw) → RIn cmC W vc X.D.q → Calls Tryz.prog 23 #[.agg #[.int .i64 dcols, .int .i64 drows, .int .i64 dside, .int .i64 dradius, .int .i64 dspeed, .int .i64 dids, .int .i64 dqueue], .int .i64 k, vo, vn, vc] W (RunM W (oF k) (gF k) (zD k))) :=
              ⟨fun b => ofF ⟨dcols, drows, dside, dradius, dspeed, dids, dqueue⟩ b.x b.y == k, forB ⟨dcols, drows, dside, dradius, dspeed, dids, dqueue⟩ k, ofF ⟨dcols, drows, dside, dradius, dspeed, dids, dqueue⟩, gapZ ⟨dcols, drows, dside, dradius, dspeed, dids, dqueue⟩ k, _, _, _, _, fun b => rfl, fun b => rfl, HROF.out, HRZN.out k, fun x y W => rGap_any _ _ _ _ x y W, fun vo vn vc W h1 h2 h3 => HRZ.out k hlt2 vo vn vc W h1 h2 h3⟩
            obtain ⟨fb, fw, of, gp, r0, r1, r2, r3, hfb, hgz, hofc, hzc, hgc, hrc⟩ := hex
            have HFB := Lib.hid hfb; have HGZ := Lib.hid hgz; have HOF := Lib.hid hofc; have HZ := Lib.hid hzc; have HG' := Lib.hid hgc; have HRC := Lib.hid hrc
            clear hfb hgz hofc hzc hgc hrc
            go_wp2_with fail
            go_loopg [12, 13, 14] XL.length (fun kx o1 o2 sx wr => ∃ t : Nat, sx = .int .i64 t ∧ t ≤ XL.length ∧ XL.length - t ≤ kx ∧ Hid (Prs wa wr o1 o2 ((XL.take t).filter fb) ((XL.take t).filter fw)) ∧ Hid (((XL.take t).filter fb).length ≤ t ∧ ((XL.take t).filter fw).length ≤ t))
            case atStart => exact ⟨0, by go_num, by omega, by omega, Lib.hid (Prs.nil wa), Lib.hid ⟨Nat.le_refl _, Nat.le_refl _⟩⟩
            case round =>
              obtain ⟨t, rfl, ht, hkx2, HN, HNL⟩ := hrel
              obtain ⟨wb, rfl⟩ : ∃ wb : World, wb = wr := ⟨_, rfl⟩
              have hbl := HN.out.a.2.1
              have s2b := Nat.lt_of_lt_of_le l2a hbl.size
              have x0 := (hbl.cell (p := ⟨w.heap.size, 0, none⟩) l2a).trans q0; have x1 := (hbl.cell (p := ⟨w.heap.size, 1, none⟩) l2a).trans q1; have x2 := (hbl.cell (p := ⟨w.heap.size, 2, none⟩) l2a).trans q2; have x3 := (hbl.cell (p := ⟨w.heap.size, 3, none⟩) l2a).trans q3; have x4 := (hbl.cell (p := ⟨w.heap.size, 4, none⟩) l2a).trans q4; have x5 := (hbl.cell (p := ⟨w.heap.size, 5, none⟩) l2a).trans q5; have x6 := (hbl.cell (p := ⟨w.heap.size, 6, none⟩) l2a).trans q6
              obtain ⟨f3, f4, f5⟩ := ltz s2b
              have HBL := Lib.hid hbl
              clear hbl
              obtain ⟨po, co, hpo⟩ := sl_frm HN.out.a.1
              subst hpo
              obtain ⟨pr, cr, hpr⟩ := sl_frm HN.out.b.1
              subst hpr
              by_cases hlt3 : t < XL.length
              · have t3 : (t : Int) < (XL.length : Int) := by omega
                obtain ⟨x0, hx0⟩ : ∃ x0, XL[t]? = some x0 := ⟨_, List.getElem?_eq_getElem hlt3⟩
                obtain ⟨gb, ob, cb, hv, hgb, hcb⟩ := (HLA.out.keep HBL.out).cells hx0
                simp only [Value.slice.injEq, true_and] at hv
                obtain ⟨rfl, rfl⟩ := hv
                have c0 := hcb 0 _ rfl; have c1 := hcb 1 _ rfl; have c2 := hcb 2 _ rfl; have c3 := hcb 3 _ rfl; have c4 := hcb 4 _ rfl; have c5 := hcb 5 _ rfl; have c6 := hcb 6 _ rfl; have c7 := hcb 7 _ rfl; have c8 := hcb 8 _ rfl; have c9 := hcb 9 _ rfl; have c10 := hcb 10 _ rfl
                simp only [Nat.add_zero] at c0
                have hst := filter_step fb hx0
                have hst2 := filter_step fw hx0
                rw [← HFB.out x0] at hst
                rw [HGZ.out x0] at hst2
                have HST := Lib.hid hst
                have HST2 := Lib.hid hst2
                have HOX := Lib.hid (HOF.out x0.x x0.y)
                have HGX := Lib.hid (HG'.out x0.x x0.y)
                generalize of x0.x x0.y = oz at *
                generalize gp x0.x x0.y = gx at *
                obtain ⟨e0, e1', e2'⟩ := ltz hgb
                clear hcb hx0 hst hst2
                generalize hacc : (XL.take t).filter fb = acc at *
                generalize hacq : (XL.take t).filter fw = acq at *
                obtain ⟨hal1, hal2⟩ := HNL.out
                clear hacc hacq HNL
                obtain ⟨s, i, g, m, x, y, vx, vy, hp, pw, lf⟩ := x0
                simp only at HOX HGX
                go_wp2_with fail
                refine wp_region_more (by kernel_rfl) (by kernel_rfl) ?_
                repeat (go_big_quiet_step ((first | (go_at_call 15; exact more_call (HOX.out _)))))
                refine wpQuiet_nil ?_
                rintro _ ⟨pq, rfl⟩
                cases h1 : (oz == (k : Int)) with
                | true =>
                  have heq : oz = k := by simpa using h1
                  rw [h1] at HST HST2
                  go_wp2_with (at_builtin; refine wpList_append_sl _ (by rfl) _ _ 37 (by rfl) 32 i0 _ 11 88 Tryz.underlying37 hi0 hz0 hz1 hz2 rfl (by omega) _ acc.length (bunCells acc) (by rfl) (HN.out.a.grow bg).1 ⟨_, 0, none⟩ 1 1 (bunL ⟨s, i, g, m, x, y, vx, vy, hp, pw, lf⟩) (by rfl) (by rfl) (new_cellsN _ _ _ _ (by simp)) (bunL_one _) (by omega) (by unfold maxLen; omega) (by omega) ?_; intro v' w4 hs4 ht4 ho4)
                  have hm := (HN.out.grow bg).app1 hs4 ht4 ho4
                  have HM := Lib.hid hm
                  clear hs4 ht4 ho4 hm
                  go_roundg (XL.length - (t + 1))
                  case measure => omega
                  case rel => exact ⟨t + 1, by go_num, by omega, by omega, Lib.hid (by rw [HST.out, HST2.out]; simpa using HM.out), Lib.hid (by rw [HST.out, HST2.out]; constructor <;> simp <;> omega)⟩
                | false =>
                  have heq : ¬ oz = k := by simpa using h1
                  rw [h1] at HST HST2
                  go_wp2_with fail
                  refine wp_region_more (by kernel_rfl) (by kernel_rfl) ?_
                  repeat (go_big_quiet_step ((first | (go_at_call 22; exact more_call (HZ.out _)) | (go_at_call 21; exact more_call (HGX.out _)))))
                  refine wpQuiet_nil ?_
                  rintro _ ⟨pz, rfl⟩
                  by_cases hg : gx ≤ dradius
                  · rw [decide_eq_true hg] at HST2
                    go_wp2_with (at_builtin; refine wpList_append_sl _ (by rfl) _ _ 37 (by rfl) 32 i0 _ 11 88 Tryz.underlying37 hi0 hz0 hz1 hz2 rfl (by omega) _ acq.length (bunCells acq) (by rfl) (HN.out.b.grow bg).1 ⟨_, 0, none⟩ 1 1 (bunL ⟨s, i, g, m, x, y, vx, vy, hp, pw, lf⟩) (by rfl) (by rfl) (new_cellsN _ _ _ _ (by simp)) (bunL_one _) (by omega) (by unfold maxLen; omega) (by omega) ?_; intro v' w4 hs4 ht4 ho4)
                    have hm := ((HN.out.grow bg).swap.app1 hs4 ht4 ho4).swap
                    have HM := Lib.hid hm
                    clear hs4 ht4 ho4 hm
                    go_roundg (XL.length - (t + 1))
                    case measure => omega
                    case rel => exact ⟨t + 1, by go_num, by omega, by omega, Lib.hid (by rw [HST.out, HST2.out]; simpa using HM.out), Lib.hid (by rw [HST.out, HST2.out]; constructor <;> simp <;> omega)⟩
                  · rw [decide_eq_false hg] at HST2
                    go_wp2_with fail
                    go_roundg (XL.length - (t + 1))
                    case measure => omega
                    case rel => exact ⟨t + 1, by go_num, by omega, by omega, Lib.hid (by rw [HST.out, HST2.out]; simpa using HN.out.grow bg), Lib.hid (by rw [HST.out, HST2.out]; constructor <;> simp <;> omega)⟩
              · have t3 : ¬ (t : Int) < (XL.length : Int) := by omega
                obtain rfl : t = XL.length := by omega
                rw [List.take_length] at HN HNL
                have hzl := HZL.out k
                rw [HZ1.out k, List.length_append] at hzl
                have HRR := Lib.hid (HRC.out _ _ _ _ (HN.out.a.bin) (HN.out.b.bin) (HCSA.out.keep HBL.out))
                have HPB := Lib.hid (HP.out.grow HBL.out)
                clear HOF HZ HG' HFB HGZ HRC
                go_wp2_with fail
                refine HRR.out.mono ?_
                rintro e w' hq
                obtain ⟨pa, ca, pb, cb, pd, cd, d6, os6, rfl, rfl, ha6, hg6⟩ := hq.opn
                clear hq HRR
                go_upto_region 26 with fail
                obtain ⟨k7, g7, s7, b7⟩ := new_box (more wb d6 os6) #[.slice pa (oF k).length ca, .slice pb (gF k).length cb, .slice pd (zD k).length cd] 58 (wb.heap.size + os6.size) (by simp)
                have hb7 : Below wb.heap.size wb ((more wb d6 os6).alloc (.cells #[.slice pa (oF k).length ca, .slice pb (gF k).length cb, .slice pd (zD k).length cd] 58)) := bg
                have hbq : Below wq.heap.size wq wb := HPB.out.2.1
                have HA7 := Lib.hid (ha6.bin.keep b7)
                have HP7 : Hid (Prs wq ((more wb d6 os6).alloc (.cells #[.slice pa (oF k).length ca, .slice pb (gF k).length cb, .slice pd (zD k).length cd] 58)) (.slice p10 (aT k).length c10) (.slice pb (gF k).length cb) (aT k) (gF k)) := Lib.hid ⟨HPB.out.grow hb7, (hg6.grow b7).since hbq, fun g hg1 hg2 => by have := sl_lt HPB.out.1 hg1; have := hg6.2.2 g hg2; omega⟩
                have HQ1 := Lib.hid (fun g (hg : (Value.slice p10 (aT k).length c10).ownBlock = some g) => show g < wb.heap.size from sl_lt HPB.out.1 hg)
                have hn7 : wb.heap.size ≤ wb.heap.size + os6.size := by omega
                have K7 := Lib.hid k7
                clear g7 b7 ha6 hg6 hb7 hbq
                generalize ((more wb d6 os6).alloc (.cells #[.slice pa (oF k).length ca, .slice pb (gF k).length cb, .slice pd (zD k).length cd] 58)) = w7 at *
                generalize wb.heap.size + os6.size = n7 at *
                have y0 := k7 0; have y1 := k7 1
                simp at y0 y1
                clear k7
                obtain ⟨g0, g1, g2⟩ := ltz s7
                go_upto_region 27 with (at_builtin; refine wpList_append_prs wq _ (by rfl) _ _ (by rfl) _ _ _ (aT k) (oF k) (gF k) (by rfl) (HP7.out.grow bg) (by rfl) (HA7.out.keep bg) (by omega) (by omega) ?_; intro v8 w8 hP8 hT8 ho8)
                have hk8 : ∀ g, wb.heap.size ≤ g → g < w7.heap.size → w8.heap[g]? = w7.heap[g]? := fun g h1 h2 => hT8.block g h2 (fun e => by have := HQ1.out g e.symm; omega)
                have k8 := fun u => (World.cell?_of_block (w := w7) (a := ⟨n7, u, none⟩) (hk8 n7 hn7 s7)).trans (K7.out u)
                obtain ⟨p8, c8, rfl⟩ := sl_frm hP8.a.1
                have s8 := Nat.lt_of_lt_of_le s7 hT8.size
                have HP8 := Lib.hid hP8
                clear y0 y1 g0 g1 g2 hP8 hT8 ho8 hk8 HA7 HP7 K7
                have y1 := k8 1
                simp at y1
                clear k8
                obtain ⟨g0, g1, g2⟩ := ltz s8
                have hal8 : (aT k ++ oF k).length ≤ 2000 := by rw [List.length_append]; omega
                go_wp2_with (at_builtin; refine wpList_append_prs wq _ (by rfl) _ _ (by rfl) _ _ _ (aT k ++ oF k) (gF k) (gF k) (by rfl) (HP8.out.grow bg) (by rfl) (BIn.keep HP8.out.b.bin bg) (by omega) (by omega) ?_; intro v9 w9 hP9 hT9 ho9)
                rw [List.append_assoc, ← HZ1.out k, ← HAS.out k] at hP9
                have HP9 := Lib.hid hP9.a
                clear hP9 hT9 ho9 HP8 y1 g0 g1 g2
                go_roundg (cnt - (k + 1))
                case measure => omega
                case rel => exact ⟨k + 1, by go_num, by omega, by omega, HP9⟩
          · have t2 : ¬ (k : Int) < dcols * drows := by omega
            obtain rfl : k = cnt := by omega
            have HSR := Lib.hid (rsorted_any (.slice p10 (aT k).length c10) (aT k) wa HP.out.bin (by omega))
            rw [HA.out] at HSR
            have HQA := Lib.hid (HQO.out.grow HP.out.2.1)
            clear HRZ HZ1 HAS HAL HZL HT0 HA HLA HCSA CA HC HL HCS HQO l2 l2a
            generalize aT k = aK at *
            go_wp2_with fail
            refine HSR.out.mono ?_
            rintro e w6 ⟨vs, rfl, hS⟩
            obtain ⟨ps, cs, rfl⟩ := sl_frm hS.1
            have h6 := (HQA.out.made (made_sl hS.1 hS.2.1 hS.2.2)).swap
            have H6 := Lib.hid h6
            clear h6 hS HSR HQA HP q0 q1 q2 q3 q4 q5 q6 f0 f1 f2
            go_wp2_with fail
            refine (HST.out _ _ H6.out).mono ?_
            rintro e w7 ⟨v7, rfl, h7⟩
            obtain ⟨p7, c7, rfl⟩ := sl_frm h7.swap.sl.1
            have H7 := Lib.hid h7
            have HLS := Lib.hid (wlist_o h7 hX2)
            have HB7 := Lib.hid (BIn.of_sl (l := X2.L) h7.third.sl.1)
            clear h7 H6 HST
            go_wp2_with fail
            refine HLS.out.mono ?_
            rintro e w8 ⟨v8, rfl, hn⟩
            obtain ⟨p8, c8, rfl⟩ := sl_frm hn.1
            have HSM := Lib.hid (same_any (.slice ps X2.L.length cs) (.slice p8 X2.L.length c8) X2.L X2.L w8 (HB7.out.keep hn.2.1) (BIn.of_sl hn.1))
            rw [decide_eq_true rfl] at HSM
            have h8 := H7.out.grow hn.2.1
            have H8 : Hid (Own w w8 ((worldO p ⟨dcols, drows, dside, dradius, dspeed, dids, dqueue⟩ X2).and ((boxO w.heap.size #[.int .i64 dcols, .int .i64 drows, .int .i64 dside, .int .i64 dradius, .int .i64 dspeed, .int .i64 dids, .int .i64 dqueue] 23).and ((slO 32 11 (.slice ps X2.L.length cs) X2.L.length (cellsR bunL X2.L)).and _)))) := Lib.hid ((h8.fifth.swap).inner fun _ h => and_in' (fun _ h => and_swap' h) h)
            clear hn h8 H7 HLS HB7
            go_wp2_with (go_at_call 26; refine (HSM.out).mono ?_; rintro e w' ⟨rfl, hb⟩; obtain ⟨d, os, rfl⟩ := more_of hb; clear hb)
            go_roundw
            case rel => exact ⟨j + 1, X2, ps, cs, _, rfl, by go_num, hlt, hi2, Lib.hid (H8.out.grow bg)⟩
            case measure => simp [intOf]; omega
    · obtain rfl : j = ts.length := by omega
      have HB := Lib.hid hh.out.below
      clear hh
      go_wp2_with (go_at_call 11; refine (awake17 _).mono ?_; rintro e w' ⟨rfl, hb⟩; obtain ⟨d, os, rfl⟩ := more_of hb; clear hb)
      go_ret
      exact ⟨rfl, HB.out.trans (Below.mono (B := wo.heap.size) bg HB.out.size)⟩
set_option maxRecDepth 100000 in
theorem lifted (os : Os) (started : os.Started) (H : Type) (enc : TypeId × Value → H) :
    ReturnsInHanded {} Tryz.checked os 5 .any (Rows.worldZonesSpec.pre6 enc Tryz.prog Tryz.f5 Rows.worldZonesRow.domain false) (Rows.worldZonesSpec.post enc Tryz.prog Tryz.f5 false true false false) := by
  refine returnsInHanded_of_change (C := Tryz.checked) ownKnob0 started (by kernel_rfl) Tryz.func5
    (ChangeSpec.witness6 (enc := enc) (C := Tryz.checked) false ⟨#[], #[.agg #[.int .i64 0, .int .i64 0, .int .i64 0, .int .i64 0, .int .i64 0, .int .i64 0, .int .i64 0], .slice none 0 0], []⟩ 8 (by kernel_rfl) (by kernel_rfl) (by kernel_rfl) (by kernel_rfl)) ?_
  intro W base args ds gs before hval0 hW _ _
  have hval : ∀ (j : Nat) t v, Tryz.f5.params[j]? = some t → args[j]? = some v → Value.okWide Tryz.prog W .any base t v := hval0
  have hread : ∀ t ∈ Tryz.f5.params.toList, Tryz.prog.readableRec t = true ∧ t < Tryz.prog.types.size := by
    rw [Tryz.params5]
    intro t ht
    simp only [List.mem_cons, List.not_mem_nil, or_false] at ht
    rcases ht with rfl | rfl
    all_goals exact ⟨by kernel_rfl, of_decide_eq_true (by kernel_rfl)⟩
  have hW' := hW
  obtain ⟨p, q, hA0, hV, -, -⟩ := hW'
  have hA : DataW.TrodAll enc Tryz.prog W 0 (fun _ => true) true Tryz.f5.params.toList args.toList ds p := hA0
  rw [Tryz.params5] at hA hval
  obtain ⟨v0, vs0, d0, ds0, p0, q0, hargs, rfl, rfl, h0, r0⟩ := trodAll_cons hA
  obtain ⟨v1, vs1, d1, ds1, p1, q1, rfl, rfl, rfl, h1, r1⟩ := trodAll_cons r0
  obtain ⟨rfl, rfl, rfl⟩ := trodAll_nil r1
  obtain rfl : args = #[v0, v1] := by cases args; simp_all
  obtain ⟨rfl, rfl⟩ := trodVars_none hV
  have k0 := hval 0 23 v0 rfl rfl
  have k1 := hval 1 24 v1 rfl rfl
  clear hval hval0 hA0 hV hA
  obtain ⟨c0, fuel0, rfl, g0⟩ := agg_of Tryz.underlying23 k0 h0
  obtain ⟨acols, arows, aside, aradius, aspeed, aids, aqueue, rfl⟩ := read_cfg g0
  obtain ⟨zs, hz, _⟩ := turns_in k1 h1
  exact (walk _ _ _ _ _ _ _ _ zs W hz).mono fun e W' ⟨he, hb⟩ => ⟨_, he, post_true rfl rfl hread rfl hW hb⟩

theorem proved : Rows.WorldZonesSaid :=
  OpenClaim.holds_of_wide 5 Tryz.f5 rfl rfl rfl rfl rfl rfl rfl ⟨rfl, rfl, rfl, rfl, rfl⟩ rfl rfl rfl rfl rfl (by kernel_rfl) Tryz.func5 (by kernel_rfl)
    (of_decide_eq_true (by kernel_rfl)) (by unfold Func.isWrapper; first | (rw [if_pos (by decide +kernel)]; kernel_rfl) | (rw [if_neg (by decide +kernel)]; exact ⟨rfl, rfl⟩))
    (fun os started H enc _ => lifted os started H enc)
end Go.Proofs.YtoimjjhopljdmaaGreat.worldZones
