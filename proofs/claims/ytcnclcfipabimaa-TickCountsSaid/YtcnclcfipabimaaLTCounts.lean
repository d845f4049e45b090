/-
  TickCounts: for every case the law returns true, and the argument stays as it was. No condition.
-/
import Derived.Test.YtcnclcfipabimaaTwA
import Derived.Test.YtcnclcfipabimaaTwB
import Derived.Test.YtcnclcfipabimaaMrt
import Derived.Test.YtcnclcfipabimaaMwa
import Derived.Test.YtcnclcfipabimaaMpb
import Derived.Test.YtcnclcfipabimaaOrd
import Derived.Test.YtcnclcfipabimaaLiv
namespace Go.Proofs.Ytcnclcfipabimaa.tickCounts
open Go.ChangeShapes Go.WideShapes Go.ChangeAt Go.RowKit

set_option maxRecDepth 100000 in
set_option maxHeartbeats 4000000 in
theorem walk (cols rows side radius speed ids queue z : Int) (po pn pc : Option Addr) (eo en ec : Nat) (own near : List Bun) (ms : List Cm) (w : World) (h1 : BIn w (.slice po own.length eo) own) (h2 : BIn w (.slice pn near.length en) near) (h3 : RIn cmC w (.slice pc ms.length ec) ms)
    (hf1 : ∀ b ∈ own, BFit b) (hf3 : ∀ m ∈ ms, CmFit m) :
    Calls Try.prog 13 #[.agg #[.int .i64 cols, .int .i64 rows, .int .i64 side, .int .i64 radius, .int .i64 speed, .int .i64 ids, .int .i64 queue, .int .i64 z, .slice po own.length eo, .slice pn near.length en, .slice pc ms.length ec]] w fun e w' => e = .returned (.bool true) ∧ Below w.heap.size w w' := by
  have HF := Lib.hid (fun W (hW : Below w.heap.size w W) => few15 cols rows side radius speed ids queue z po pn pc eo en ec own near ms W (h1.keep hW) (h2.keep hW) (h3.keep hW))
  have ho := mayF_ok ⟨cols, rows, side, radius, speed, ids, queue⟩
  generalize mayF ⟨cols, rows, side, radius, speed, ids, queue⟩ = d at *
  obtain ⟨dcols, drows, dside, dradius, dspeed, dids, dqueue⟩ := d
  have HO := Lib.hid ho
  simp only at HF
  have b1 := rin_cut (enc := bunL) 40 h1
  have b2 := rin_cut (enc := bunL) 40 h2
  have b3 := rin_cut (enc := cmC) 40 h3
  have f1 : ∀ b ∈ own.take 40, BFit b := fun b hb => hf1 b (List.mem_of_mem_take hb)
  have f3 : ∀ m ∈ ms.take 40, CmFit m := fun m hm => hf3 m (List.mem_of_mem_take hm)
  have n1 : (own.take 40).length ≤ 40 := by rw [List.length_take]; omega
  have n2 : (near.take 40).length ≤ 40 := by rw [List.length_take]; omega
  have n3 : (ms.take 40).length ≤ 40 := by rw [List.length_take]; omega
  generalize own.take 40 = own4 at *
  generalize near.take 40 = near4 at *
  generalize ms.take 40 = ms4 at *
  clear h1 h2 h3 hf1 hf3
  have HLV := Lib.hid (fun W (hW : Below w.heap.size w W) => living_any dcols drows dside dradius dspeed dids dqueue (.slice po own4.length eo) own4 W ho (BIn.keep b1 hW) (fun b hb => ⟨(f1 b hb).2.2.2.1.1, (f1 b hb).2.2.2.1.2⟩))
  have HOD := Lib.hid (fun vl l W (hW : Below w.heap.size w W) (hl : BIn W vl l) => orders_any vl (.slice pc ms4.length ec) l ms4 W hl (b3.keep hW) f3)
  have HLF := Lib.hid (livF_fit ho f1)
  have hlu := livF_un ⟨dcols, drows, dside, dradius, dspeed, dids, dqueue⟩ own4
  have hln := livF_len ⟨dcols, drows, dside, dradius, dspeed, dids, dqueue⟩ own4
  generalize livF ⟨dcols, drows, dside, dradius, dspeed, dids, dqueue⟩ own4 = l0 at *
  have hcn := ordF_len l0 ms4
  have HCF := Lib.hid (fun m hm => (ordF_mem l0 CmFit ms4 f3 m hm).1)
  have hfr := ordF_fresh l0 ms4
  have HODX := Lib.hid (fun vl W (hW : Below w.heap.size w W) (hl : BIn W vl l0) => HOD.out vl l0 W hW hl)
  clear HOD
  generalize ordF l0 ms4 = cs at *
  have HRUN := Lib.hid (fun bm (h0 : -1 ≤ z) (h1 : z < dcols * drows) vo vc W (hm : MapAt W bm ⟨dcols, drows, dside, dradius, dspeed, dids, dqueue⟩) (hW : Below w.heap.size w W) (hl : BIn W vo l0) (hc : RIn cmC W vc cs) => prun_any bm ⟨dcols, drows, dside, dradius, dspeed, dids, dqueue⟩ z vo (.slice pn near4.length en) vc l0 near4 cs W hm ho h0 h1 hl (BIn.keep b2 hW) hc HLF.out HCF.out (by omega) (by omega) (by omega))
  have HK1 := Lib.hid (fun (b : Bun) (hb : b ∈ l0) => counts_own (c := ⟨dcols, drows, dside, dradius, dspeed, dids, dqueue⟩) (z := z) (near := near4) hlu hfr.1 hfr.2 hb)
  have HK2 := Lib.hid (fun (m : Cm) (hm : m ∈ cs) (hk : m.k = 1) => counts_beg (c := ⟨dcols, drows, dside, dradius, dspeed, dids, dqueue⟩) (z := z) (near := near4) hlu hfr.1 hfr.2 hm hk)
  have HTOT := Lib.hid (tick_total ⟨dcols, drows, dside, dradius, dspeed, dids, dqueue⟩ z near4 hlu hfr.1 hfr.2)
  have HLEN := Lib.hid (show (leftL ⟨dcols, drows, dside, dradius, dspeed, dids, dqueue⟩ z l0 near4 cs).length ≤ l0.length + cs.length from Nat.le_trans (eachL_len _ _) (Nat.le_trans (cmdsL_len _ _ _ _) (Nat.add_le_add_right (Nat.le_trans (eachL_len _ _) (by rw [stableF_len]; exact Nat.le_refl _)) _)))
  have hol : (ownL ⟨dcols, drows, dside, dradius, dspeed, dids, dqueue⟩ z l0 near4 cs).length ≤ 1000 := Nat.le_trans (List.length_filter_le _ _) (by have := HLEN.out; omega)
  have hgl : (goneL ⟨dcols, drows, dside, dradius, dspeed, dids, dqueue⟩ z l0 near4 cs).length ≤ 1000 := Nat.le_trans (List.length_filter_le _ _) (by have := HLEN.out; omega)
  have hbl := begsN_len ⟨dcols, drows, dside, dradius, dspeed, dids, dqueue⟩ z cs
  have HST := Lib.hid (fun t (m : Cm) (h : cs[t]? = some m) => begsN_step ⟨dcols, drows, dside, dradius, dspeed, dids, dqueue⟩ z h)
  have HBZ := Lib.hid (fun (m : Cm) => (show begZ ⟨dcols, drows, dside, dradius, dspeed, dids, dqueue⟩ z m = (decide (0 ≤ ofF ⟨dcols, drows, dside, dradius, dspeed, dids, dqueue⟩ m.b.x m.b.y) && (decide (z < 0) || decide (ofF ⟨dcols, drows, dside, dradius, dspeed, dids, dqueue⟩ m.b.x m.b.y = z))) from rfl))
  have HBL := Lib.hid (fun t => begsN_len ⟨dcols, drows, dside, dradius, dspeed, dids, dqueue⟩ z (cs.take t))
  generalize ownL ⟨dcols, drows, dside, dradius, dspeed, dids, dqueue⟩ z l0 near4 cs = oL at *
  generalize goneL ⟨dcols, drows, dside, dradius, dspeed, dids, dqueue⟩ z l0 near4 cs = gL at *
  generalize setN (deadN ⟨dcols, drows, dside, dradius, dspeed, dids, dqueue⟩ z l0 near4 cs) = dN at *
  have HOF := Lib.hid (fun x y W => rof_any dcols drows dside dradius dspeed dids dqueue x y W ho)
  generalize ofF ⟨dcols, drows, dside, dradius, dspeed, dids, dqueue⟩ = of at *
  have hdl : dN.length ≤ 1000 := by have := HTOT.out; omega
  obtain ⟨hc1, hc2⟩ := ho.cnt
  simp only at hc1 hc2
  have HZ0 := Lib.hid (show begsN ⟨dcols, drows, dside, dradius, dspeed, dids, dqueue⟩ z (cs.take 0) = [] from rfl)
  generalize begsN ⟨dcols, drows, dside, dradius, dspeed, dids, dqueue⟩ z = bz at *
  generalize begZ ⟨dcols, drows, dside, dradius, dspeed, dids, dqueue⟩ z = bq at *
  generalize own4.length = ko at *
  generalize near4.length = kn at *
  generalize ms4.length = kc at *
  clear ho b1 b2 b3 f1 f3 hfr hlu HLEN HLF HCF
  go_enter Try.func13, Try.ntmps13
  go_wp2_with fail
  refine (HF.out _ (by repeat' (first | (with_reducible exact Below.refl _ _) | (with_reducible assumption) | (with_reducible refine below_drewN ?_ _) | (with_reducible refine below_more _ _ _ ?_ ?_) | (with_reducible refine Below.alloc ?_ ?_ _) | (with_reducible refine Below.drew ?_) | (with_reducible refine Below.setCell ?_ ?_ _) | go_size))).mono ?_; rintro e w' ⟨rfl, hb⟩; obtain ⟨d1, os1, rfl⟩ := more_of hb; clear hb
  go_wp2_with fail
  refine (znew_ok dcols drows dside dradius dspeed dids dqueue _ HO.out).mono ?_
  rintro e w2 ⟨b, rfl, hb2, hmap, hbb⟩
  have cC : ∀ j, w2.cell? ⟨w.heap.size, j, none⟩ = (#[.int .i64 dcols, .int .i64 drows, .int .i64 dside, .int .i64 dradius, .int .i64 dspeed, .int .i64 dids, .int .i64 dqueue, .int .i64 z, .slice po ko eo, .slice pn kn en, .slice pc kc ec] : Array Value)[j]? := fun j => by rw [hb2.cell (by simp; omega)]; simp [go_sem]
  have l2 : w.heap.size < w2.heap.size := by have := hb2.size; simp at this; omega
  have hb2w : Below w.heap.size w w2 := Below.trans (Below.mono (B := w.heap.size) (by repeat' (first | (with_reducible exact Below.refl _ _) | (with_reducible assumption) | (with_reducible refine below_drewN ?_ _) | (with_reducible refine below_more _ _ _ ?_ ?_) | (with_reducible refine Below.alloc ?_ ?_ _) | (with_reducible refine Below.drew ?_) | (with_reducible refine Below.setCell ?_ ?_ _) | go_size)) (Nat.le_refl _)) (hb2.mono (by simp; omega))
  have HB2 := Lib.hid hb2w
  have HMP := Lib.hid hmap
  have HC2 := Lib.hid cC
  have q0 := cC 0; simp at q0; have q1 := cC 1; simp at q1; have q2 := cC 2; simp at q2; have q3 := cC 3; simp at q3; have q4 := cC 4; simp at q4; have q5 := cC 5; simp at q5; have q6 := cC 6; simp at q6; have q7 := cC 7; simp at q7; have q8 := cC 8; simp at q8; have q9 := cC 9; simp at q9; have q10 := cC 10; simp at q10
  obtain ⟨f0, f1, f2⟩ := ltz l2
  clear hb2 hmap hbb hb2w cC HF
  go_wp2_with fail
  refine (HLV.out _ HB2.out).mono ?_
  rintro e w3 ⟨vl, rfl, hN⟩
  obtain ⟨pl, cl, rfl⟩ := sl_frm hN.1
  have hb3 := hN.2.1
  have HL3 := Lib.hid hN.bin
  have HM3 := Lib.hid (HMP.out.grow hb3)
  have HB3 := Lib.hid (HB2.out.trans (hb3.mono HB2.out.size))
  have HC3 := Lib.hid (box_on hb3 l2 HC2.out)
  replace q0 := (hb3.cell (p := ⟨w.heap.size, 0, none⟩) l2).trans q0; replace q1 := (hb3.cell (p := ⟨w.heap.size, 1, none⟩) l2).trans q1; replace q2 := (hb3.cell (p := ⟨w.heap.size, 2, none⟩) l2).trans q2; replace q3 := (hb3.cell (p := ⟨w.heap.size, 3, none⟩) l2).trans q3; replace q4 := (hb3.cell (p := ⟨w.heap.size, 4, none⟩) l2).trans q4; replace q5 := (hb3.cell (p := ⟨w.heap.size, 5, none⟩) l2).trans q5; replace q6 := (hb3.cell (p := ⟨w.heap.size, 6, none⟩) l2).trans q6; replace q7 := (hb3.cell (p := ⟨w.heap.size, 7, none⟩) l2).trans q7; replace q8 := (hb3.cell (p := ⟨w.heap.size, 8, none⟩) l2).trans q8; replace q9 := (hb3.cell (p := ⟨w.heap.size, 9, none⟩) l2).trans q9; replace q10 := (hb3.cell (p := ⟨w.heap.size, 10, none⟩) l2).trans q10
  replace l2 := Nat.lt_of_lt_of_le l2 hb3.size
  clear hN hb3 HMP HB2 HLV HC2 f0 f1 f2
  obtain ⟨f0, f1, f2⟩ := ltz l2
  go_wp2_with fail
  refine (HODX.out _ _ HB3.out HL3.out).mono ?_
  rintro e w4 ⟨vc, rfl, hN⟩
  obtain ⟨pk, ck, rfl⟩ := sl_frm hN.1
  have hb4 := hN.2.1
  have HCS4 := Lib.hid hN.rin
  have HL4 := Lib.hid (HL3.out.keep hb4)
  have HM4 := Lib.hid (HM3.out.grow hb4)
  have HB4 := Lib.hid (HB3.out.trans (hb4.mono HB3.out.size))
  have HC4 := Lib.hid (box_on hb4 l2 HC3.out)
  replace q0 := (hb4.cell (p := ⟨w.heap.size, 0, none⟩) l2).trans q0; replace q1 := (hb4.cell (p := ⟨w.heap.size, 1, none⟩) l2).trans q1; replace q2 := (hb4.cell (p := ⟨w.heap.size, 2, none⟩) l2).trans q2; replace q3 := (hb4.cell (p := ⟨w.heap.size, 3, none⟩) l2).trans q3; replace q4 := (hb4.cell (p := ⟨w.heap.size, 4, none⟩) l2).trans q4; replace q5 := (hb4.cell (p := ⟨w.heap.size, 5, none⟩) l2).trans q5; replace q6 := (hb4.cell (p := ⟨w.heap.size, 6, none⟩) l2).trans q6; replace q7 := (hb4.cell (p := ⟨w.heap.size, 7, none⟩) l2).trans q7; replace q8 := (hb4.cell (p := ⟨w.heap.size, 8, none⟩) l2).trans q8; replace q9 := (hb4.cell (p := ⟨w.heap.size, 9, none⟩) l2).trans q9; replace q10 := (hb4.cell (p := ⟨w.heap.size, 10, none⟩) l2).trans q10
  replace l2 := Nat.lt_of_lt_of_le l2 hb4.size
  clear hN hb4 HM3 HB3 HL3 HC3 HODX f0 f1 f2
  obtain ⟨f0, f1, f2⟩ := ltz l2
  have HCN := Lib.hid (fun W (hW : Below w4.heap.size w4 W) => zcount_any W b _ (HM4.out.grow hW) HO.out)
  simp only at HCN
  have ha : ∀ W : World, Calls Try.prog 45 #[] W fun e w' => e = .returned (.bool true) ∧ Below W.heap.size W w' := awake15
  by_cases hz0 : z < -1
  · go_wp2_with (go_at_call 45; refine (ha _).mono ?_; rintro e w' ⟨rfl, hb⟩; obtain ⟨d, os, rfl⟩ := more_of hb; clear hb)
    go_ret
    exact ⟨rfl, HB4.out.trans (Below.mono (B := w4.heap.size) (by repeat' (first | (with_reducible exact Below.refl _ _) | (with_reducible assumption) | (with_reducible refine below_drewN ?_ _) | (with_reducible refine below_more _ _ _ ?_ ?_) | (with_reducible refine Below.alloc ?_ ?_ _) | (with_reducible refine Below.drew ?_) | (with_reducible refine Below.setCell ?_ ?_ _) | go_size)) HB4.out.size)⟩
  by_cases hz1 : z < dcols * drows
  · have hz2 : -1 ≤ z := by omega
    go_wp2_with (go_at_call 49; refine (HCN.out _ (by repeat' (first | (with_reducible exact Below.refl _ _) | (with_reducible assumption) | (with_reducible refine below_drewN ?_ _) | (with_reducible refine below_more _ _ _ ?_ ?_) | (with_reducible refine Below.alloc ?_ ?_ _) | (with_reducible refine Below.drew ?_) | (with_reducible refine Below.setCell ?_ ?_ _) | go_size))).mono ?_; rintro e w' ⟨rfl, hb⟩; obtain ⟨d1', os1', rfl⟩ := more_of hb; clear hb)
    refine (HRUN.out b hz2 hz1 _ _ _ (HM4.out.grow (by repeat' (first | (with_reducible exact Below.refl _ _) | (with_reducible assumption) | (with_reducible refine below_drewN ?_ _) | (with_reducible refine below_more _ _ _ ?_ ?_) | (with_reducible refine Below.alloc ?_ ?_ _) | (with_reducible refine Below.drew ?_) | (with_reducible refine Below.setCell ?_ ?_ _) | go_size))) (HB4.out.trans (Below.mono (B := w4.heap.size) (by repeat' (first | (with_reducible exact Below.refl _ _) | (with_reducible assumption) | (with_reducible refine below_drewN ?_ _) | (with_reducible refine below_more _ _ _ ?_ ?_) | (with_reducible refine Below.alloc ?_ ?_ _) | (with_reducible refine Below.drew ?_) | (with_reducible refine Below.setCell ?_ ?_ _) | go_size)) HB4.out.size)) (HL4.out.keep (by repeat' (first | (with_reducible exact Below.refl _ _) | (with_reducible assumption) | (with_reducible refine below_drewN ?_ _) | (with_reducible refine below_more _ _ _ ?_ ?_) | (with_reducible refine Below.alloc ?_ ?_ _) | (with_reducible refine Below.drew ?_) | (with_reducible refine Below.setCell ?_ ?_ _) | go_size))) (HCS4.out.keep (by repeat' (first | (with_reducible exact Below.refl _ _) | (with_reducible assumption) | (with_reducible refine below_drewN ?_ _) | (with_reducible refine below_more _ _ _ ?_ ?_) | (with_reducible refine Below.alloc ?_ ?_ _) | (with_reducible refine Below.drew ?_) | (with_reducible refine Below.setCell ?_ ?_ _) | go_size)))).mono ?_
    rintro e w' hq
    obtain ⟨pa, ca, pb, cb, pd, cd, d5, os5, rfl, rfl, ha5, hg5, hd5⟩ := hq.opn
    clear hq
    go_upto_region 9 with fail
    obtain ⟨k9, g9, s9, b9⟩ := new_box (more (more w4 d1' os1') d5 os5) #[.slice pa oL.length ca, .slice pb gL.length cb, .slice pd dN.length cd] 82 (w4.heap.size + os1'.size + os5.size) (by simp)
    have hb5 : Below w4.heap.size w4 ((more (more w4 d1' os1') d5 os5).alloc (.cells #[.slice pa oL.length ca, .slice pb gL.length cb, .slice pd dN.length cd] 82)) := (by repeat' (first | (with_reducible exact Below.refl _ _) | (with_reducible assumption) | (with_reducible refine below_drewN ?_ _) | (with_reducible refine below_more _ _ _ ?_ ?_) | (with_reducible refine Below.alloc ?_ ?_ _) | (with_reducible refine Below.drew ?_) | (with_reducible refine Below.setCell ?_ ?_ _) | go_size))
    have HA5 := Lib.hid (ha5.keep b9)
    have HG5 := Lib.hid (hg5.keep b9)
    have HD5 := Lib.hid (hd5.keep b9)
    have HL5 := Lib.hid (HL4.out.keep hb5)
    have HCS5 := Lib.hid (HCS4.out.keep hb5)
    have HB5 := Lib.hid (HB4.out.trans (hb5.mono HB4.out.size))
    have HC5 := Lib.hid (box_on hb5 l2 HC4.out)
    have K9 := Lib.hid k9
    replace l2 := Nat.lt_of_lt_of_le l2 hb5.size
    clear q0 q1 q2 q3 q4 q5 q6 q7 q8 q9 q10 f0 f1 f2 hb5 g9 b9 ha5 hg5 hd5 HM4 HB4 HL4 HCS4 HC4 HRUN HCN
    generalize ((more (more w4 d1' os1') d5 os5).alloc (.cells #[.slice pa oL.length ca, .slice pb gL.length cb, .slice pd dN.length cd] 82)) = w5 at *
    generalize w4.heap.size + os1'.size + os5.size = n9 at *
    have x0 := k9 0; have x1 := k9 1; have x2 := k9 2
    simp at x0 x1 x2
    clear k9
    obtain ⟨f3, f4, f5⟩ := ltz s9
    go_cut [9] (fun sv wx => ∃ p c, sv = .slice p (oL ++ gL).length c ∧ Hid (BNew w5 wx (.slice p (oL ++ gL).length c) (oL ++ gL)))
    case first =>
      
      refine wp_region_x (S := fun W' => w5.heap.size ≤ W'.heap.size ∧ ∀ b o, b < w5.heap.size → W'.cell? ⟨b, o, none⟩ = w5.cell? ⟨b, o, none⟩) 7 (by kernel_rfl) (by with_reducible (repeat (first | assumption | exact s_refl _ | exact s_id _ | exact s_bnew hN7 | exact s_bnew hN6 | refine s_more _ _ ?_ | refine s_alloc _ ?_ | refine s_drew ?_))) (fun hHeld => ?_)
      refine anyX_take (n := 7) (i := 1) (v := ?_) rfl (by kernel_rfl) (fun _ _ _ h => h) (Or.inl ⟨by rfl, ?_⟩) (by assumption) ?_
      rotate_left 1
      · (intro w hSw; (try dsimp only at hSw); go_simp; (try with_reducible rfl))
      simp [Act.put]
      refine anyX_take (n := 7) (i := 2) (v := ?_) rfl (by kernel_rfl) (fun _ _ _ h => h) (Or.inl ⟨by rfl, ?_⟩) (by assumption) ?_
      rotate_left 1
      · (intro w hSw; (try dsimp only at hSw); go_simp; (try with_reducible rfl))
      simp [Act.put]
      refine anyX_take (n := 7) (i := 4) (v := ?_) rfl (by kernel_rfl) (fun _ _ _ h => h) (Or.inl ⟨by rfl, ?_⟩) (by assumption) ?_
      rotate_left 1
      · (intro w hSw; (try dsimp only at hSw); go_simp; (try with_reducible rfl))
      simp [Act.put]
      refine anyX_take (n := 7) (i := 5) (v := ?_) rfl (by kernel_rfl) (fun _ _ _ h => h) (Or.inl ⟨by rfl, ?_⟩) (by assumption) ?_
      rotate_left 1
      · (intro w hSw; (try dsimp only at hSw); go_simp; (try with_reducible rfl))
      simp [Act.put]
      refine anyX_ready (rs := [0]) (by kernel_rfl) (by simp) (ReadyX.cons rfl (fun K hK => ?_) ReadyX.nil)
      go_simp
      refine hK.out _ _ (fun hlt => ?_) (fun hHeld => ?_)
      · (try dsimp only); with_reducible (repeat (first | assumption | exact s_refl _ | exact s_id _ | exact s_bnew hN7 | exact s_bnew hN6 | refine s_more _ _ ?_ | refine s_alloc _ ?_ | refine s_drew ?_))
      clear hK
      replace hHeld := hHeld (by omega); try simp [Act.put]
      refine anyX_ready (rs := [3]) (by kernel_rfl) (by simp) (ReadyX.cons rfl (fun K hK => ?_) ReadyX.nil)
      (refine step_append_bins w5 _ (by rfl) (.tmp 58) (.tmp 60) (by rfl) _ _ [] oL (by rfl) (bnew_drew (bnew_empty (Below.refl _ _))) (by rfl) (HA5.out.keep (by repeat' (first | (with_reducible exact Below.refl _ _) | (with_reducible assumption) | (with_reducible refine below_drewN ?_ _) | (with_reducible refine below_more _ _ _ ?_ ?_) | (with_reducible refine Below.alloc ?_ ?_ _) | (with_reducible refine Below.drew ?_) | (with_reducible refine Below.setCell ?_ ?_ _) | go_size))) (by simp) (by omega) ?_; intro p1 c1 w6 hN6; simp only [List.nil_append] at hN6 ⊢)
      refine hK.out _ _ (fun hlt => ?_) (fun hHeld => ?_)
      · (try dsimp only); with_reducible (repeat (first | assumption | exact s_refl _ | exact s_id _ | exact s_bnew hN7 | exact s_bnew hN6 | refine s_more _ _ ?_ | refine s_alloc _ ?_ | refine s_drew ?_))
      clear hK
      replace hHeld := hHeld (by omega); try simp [Act.put]
      refine anyX_ready (rs := [6]) (by kernel_rfl) (by simp) (ReadyX.cons rfl (fun K hK => ?_) ReadyX.nil)
      (refine step_append_bins w5 _ (by rfl) (.tmp 61) (.tmp 63) (by rfl) _ _ oL gL (by rfl) (hN6.grow (by repeat' (first | (with_reducible exact Below.refl _ _) | (with_reducible assumption) | (with_reducible refine below_drewN ?_ _) | (with_reducible refine below_more _ _ _ ?_ ?_) | (with_reducible refine Below.alloc ?_ ?_ _) | (with_reducible refine Below.drew ?_) | (with_reducible refine Below.setCell ?_ ?_ _) | go_size))) (by rfl) (HG5.out.keep (hN6.2.1.trans (Below.mono (B := w6.heap.size) (by repeat' (first | (with_reducible exact Below.refl _ _) | (with_reducible assumption) | (with_reducible refine below_drewN ?_ _) | (with_reducible refine below_more _ _ _ ?_ ?_) | (with_reducible refine Below.alloc ?_ ?_ _) | (with_reducible refine Below.drew ?_) | (with_reducible refine Below.setCell ?_ ?_ _) | go_size)) hN6.2.1.size))) (by omega) (by omega) ?_; intro p2 c2 w7 hN7)
      refine hK.out _ _ (fun hlt => ?_) (fun hHeld => ?_)
      · (try dsimp only); with_reducible (repeat (first | assumption | exact s_refl _ | exact s_id _ | exact s_bnew hN7 | exact s_bnew hN6 | refine s_more _ _ ?_ | refine s_alloc _ ?_ | refine s_drew ?_))
      clear hK
      replace hHeld := hHeld (by omega); try simp [Act.put]
      refine anyX_ready (rs := [7]) (by kernel_rfl) (by simp) (ReadyX.cons rfl (fun K hK => ?_) ReadyX.nil)
      go_simp
      refine hK.out _ _ (fun hlt => ?_) (fun hHeld => ?_)
      · exact absurd hlt (by omega)
      clear hK
      clear hHeld; try simp [Act.put]
      refine anyX_done (by kernel_rfl) ?_ _
      go_wp2_with fail
      go_meet
      exact ⟨_, _, by rw [List.length_append], Lib.hid (hN7.grow (by repeat' (first | (with_reducible exact Below.refl _ _) | (with_reducible assumption) | (with_reducible refine below_drewN ?_ _) | (with_reducible refine below_more _ _ _ ?_ ?_) | (with_reducible refine Below.alloc ?_ ?_ _) | (with_reducible refine Below.drew ?_) | (with_reducible refine Below.setCell ?_ ?_ _) | go_size)))⟩
    obtain ⟨pz, cz, rfl, HAL⟩ := hcut
    obtain ⟨wx, rfl⟩ : ∃ wx : World, wx = wc := ⟨_, rfl⟩
    have hbx := HAL.out.2.1
    have HBX := Lib.hid (HB5.out.trans (hbx.mono HB5.out.size))
    have HLX := Lib.hid (HL5.out.keep hbx)
    have HCX := Lib.hid (HCS5.out.keep hbx)
    have HDX := Lib.hid (HD5.out.keep hbx)
    have KX := Lib.hid (box_on hbx s9 K9.out)
    have CX := Lib.hid (box_on hbx l2 HC5.out)
    have HALB := Lib.hid HAL.out.bin
    replace l2 := Nat.lt_of_lt_of_le l2 hbx.size
    replace s9 := Nat.lt_of_lt_of_le s9 hbx.size
    have hal : (oL ++ gL).length ≤ 2000 := by rw [List.length_append]; omega
    generalize oL ++ gL = aL at *
    have HC1 := Lib.hid (fun (x : Bun) (hx : x ∈ l0) W (hW : Below wx.heap.size wx W) => (show Calls Try.prog 50 #[.slice pz aL.length cz, .slice pd dN.length cd, .agg #[.int .i64 x.s, .int .i64 x.i, .int .i64 x.g]] W fun e w' => e = .returned (.int .i64 1) ∧ Below W.heap.size W w' from by
      have h := count15 (.slice pz aL.length cz) (.slice pd dN.length cd) aL dN x.s x.i x.g W (HALB.out.keep hW) (HDX.out.keep hW) (by omega) (by omega)
      rw [show cntF aL dN ⟨x.s, x.i, x.g⟩ = 1 from HK1.out x hx] at h
      exact h))
    have HC2 := Lib.hid (fun (m : Cm) (hm : m ∈ cs) (hk : m.k = 1) W (hW : Below wx.heap.size wx W) => (show Calls Try.prog 50 #[.slice pz aL.length cz, .slice pd dN.length cd, .agg #[.int .i64 m.b.s, .int .i64 m.b.i, .int .i64 m.b.g]] W fun e w' => e = .returned (.int .i64 (cond (bq m) 1 0)) ∧ Below W.heap.size W w' from by
      have h := count15 (.slice pz aL.length cz) (.slice pd dN.length cd) aL dN m.b.s m.b.i m.b.g W (HALB.out.keep hW) (HDX.out.keep hW) (by omega) (by omega)
      rw [show cntF aL dN ⟨m.b.s, m.b.i, m.b.g⟩ = (bq m).toNat from HK2.out m hm hk, show (((bq m).toNat : Nat) : Int) = cond (bq m) 1 0 from by cases bq m <;> rfl] at h
      exact h))
    clear x0 x1 x2 f3 f4 f5 hbx HAL HALB HB5 HL5 HCS5 HD5 HA5 HG5 K9 HC5 HK1 HK2 HDX
    
    go_wp2_with fail
    go_loopg [11] l0.length (fun kx sx wr => ∃ t : Nat, sx = .int .i64 t ∧ t ≤ l0.length ∧ l0.length - t ≤ kx ∧ Hid (Below wx.heap.size wx wr))
    case atStart => exact ⟨0, by go_num, by omega, by omega, Lib.hid (by repeat' (first | (with_reducible exact Below.refl _ _) | (with_reducible assumption) | (with_reducible refine below_drewN ?_ _) | (with_reducible refine below_more _ _ _ ?_ ?_) | (with_reducible refine Below.alloc ?_ ?_ _) | (with_reducible refine Below.drew ?_) | (with_reducible refine Below.setCell ?_ ?_ _) | go_size))⟩
    case round =>
      obtain ⟨t, rfl, ht, hkx, HW⟩ := hrel
      obtain ⟨wa, rfl⟩ : ∃ wa : World, wa = wr := ⟨_, rfl⟩
      have hbb := HW.out; have l2b := Nat.lt_of_lt_of_le l2 hbb.size; have s9b := Nat.lt_of_lt_of_le s9 hbb.size; obtain ⟨f0, f1, f2⟩ := ltz l2b; obtain ⟨f3, f4, f5⟩ := ltz s9b; have q0 := (box_on hbb l2 CX.out) 0; simp at q0; have q1 := (box_on hbb l2 CX.out) 1; simp at q1; have q2 := (box_on hbb l2 CX.out) 2; simp at q2; have q3 := (box_on hbb l2 CX.out) 3; simp at q3; have q4 := (box_on hbb l2 CX.out) 4; simp at q4; have q5 := (box_on hbb l2 CX.out) 5; simp at q5; have q6 := (box_on hbb l2 CX.out) 6; simp at q6; have x2 := (box_on hbb s9 KX.out) 2; simp at x2
      by_cases hlt : t < l0.length
      · have t1 : (t : Int) < (l0.length : Int) := by omega
        obtain ⟨b0, hb0⟩ : ∃ b0, l0[t]? = some b0 := ⟨_, List.getElem?_eq_getElem hlt⟩
        obtain ⟨gb, ob, cb', hv, hgb, hcb⟩ := (HLX.out.keep hbb).cells hb0
        simp only [Value.slice.injEq, true_and] at hv
        obtain ⟨rfl, rfl⟩ := hv
        have v0 := hcb 0 _ rfl; have v1 := hcb 1 _ rfl; have v2 := hcb 2 _ rfl
        simp only [Nat.add_zero] at v0
        obtain ⟨e0, e1, e2⟩ := ltz hgb
        have HCY := Lib.hid (fun W (hW : Below wa.heap.size wa W) => HC1.out b0 (List.mem_of_getElem? hb0) W (hbb.trans (hW.mono hbb.size)))
        clear hcb hb0
        go_wp2_with fail
        refine wp_region_more (by kernel_rfl) (by kernel_rfl) ?_
        repeat (go_big_quiet_step ((first | (go_at_call 50; exact more_call (HCY.out _ (by repeat' (first | (with_reducible exact Below.refl _ _) | (with_reducible assumption) | (with_reducible refine below_drewN ?_ _) | (with_reducible refine below_more _ _ _ ?_ ?_) | (with_reducible refine Below.alloc ?_ ?_ _) | (with_reducible refine Below.drew ?_) | (with_reducible refine Below.setCell ?_ ?_ _) | go_size)))))))
        refine wpQuiet_nil ?_
        rintro _ ⟨pq14, rfl⟩
        go_wp2_with fail
        go_roundg (l0.length - (t + 1))
        case measure => omega
        case rel => exact ⟨t + 1, by go_num, by omega, by omega, Lib.hid (hbb.trans (Below.mono (B := wa.heap.size) (by repeat' (first | (with_reducible exact Below.refl _ _) | (with_reducible assumption) | (with_reducible refine below_drewN ?_ _) | (with_reducible refine below_more _ _ _ ?_ ?_) | (with_reducible refine Below.alloc ?_ ?_ _) | (with_reducible refine Below.drew ?_) | (with_reducible refine Below.setCell ?_ ?_ _) | go_size)) hbb.size))⟩
      · have t1 : ¬ (t : Int) < (l0.length : Int) := by omega
        obtain rfl : t = l0.length := by omega
        clear HLX HC1 q0 q1 q2 q3 q4 q5 q6 x2 f0 f1 f2 f3 f4 f5
        have HBA := Lib.hid hbb
        clear hbb l2b s9b
        go_wp2_with fail
        go_loopg [10, 12] cs.length (fun kx sn sx wr => ∃ t : Nat, sx = .int .i64 t ∧ t ≤ cs.length ∧ cs.length - t ≤ kx ∧ sn = .int .i64 ((l0.length + (bz (cs.take t)).length : Nat) : Int) ∧ Hid (Below wx.heap.size wx wr))
        case atStart => exact ⟨0, by go_num, by omega, by omega, by rw [HZ0.out]; simp, Lib.hid (HBA.out.trans (Below.mono (B := wa.heap.size) (by repeat' (first | (with_reducible exact Below.refl _ _) | (with_reducible assumption) | (with_reducible refine below_drewN ?_ _) | (with_reducible refine below_more _ _ _ ?_ ?_) | (with_reducible refine Below.alloc ?_ ?_ _) | (with_reducible refine Below.drew ?_) | (with_reducible refine Below.setCell ?_ ?_ _) | go_size)) HBA.out.size))⟩
        case round =>
          obtain ⟨t, rfl, ht, hkx, rfl, HW⟩ := hrel
          obtain ⟨wb, rfl⟩ : ∃ wb : World, wb = wr := ⟨_, rfl⟩
          have hbb := HW.out; have l2b := Nat.lt_of_lt_of_le l2 hbb.size; have s9b := Nat.lt_of_lt_of_le s9 hbb.size; obtain ⟨f0, f1, f2⟩ := ltz l2b; obtain ⟨f3, f4, f5⟩ := ltz s9b; have q0 := (box_on hbb l2 CX.out) 0; simp at q0; have q1 := (box_on hbb l2 CX.out) 1; simp at q1; have q2 := (box_on hbb l2 CX.out) 2; simp at q2; have q3 := (box_on hbb l2 CX.out) 3; simp at q3; have q4 := (box_on hbb l2 CX.out) 4; simp at q4; have q5 := (box_on hbb l2 CX.out) 5; simp at q5; have q6 := (box_on hbb l2 CX.out) 6; simp at q6; have x2 := (box_on hbb s9 KX.out) 2; simp at x2
          have hbt := HBL.out t
          rw [List.length_take] at hbt
          by_cases hlt2 : t < cs.length
          · have t2 : (t : Int) < (cs.length : Int) := by omega
            obtain ⟨m0, hm0⟩ : ∃ m0, cs[t]? = some m0 := ⟨_, List.getElem?_eq_getElem hlt2⟩
            obtain ⟨gb, ob, cb', hv, hgb, hcb⟩ := (HCX.out.keep hbb).cells cmC_len hm0
            simp only [Value.slice.injEq, true_and] at hv
            obtain ⟨rfl, rfl⟩ := hv
            have c0 := hcb 0 _ rfl; have c4 := hcb 4 _ rfl; have c5 := hcb 5 _ rfl; have c6 := hcb 6 _ rfl; have c8 := hcb 8 _ rfl; have c9 := hcb 9 _ rfl
            simp only [Nat.add_zero] at c0
            obtain ⟨e0, e1, e2⟩ := ltz hgb
            have hst := HST.out t m0 hm0
            have hbq := HBZ.out m0
            have HMM := Lib.hid (List.mem_of_getElem? hm0)
            clear hcb hm0
            by_cases hk : m0.k = 1
            · rw [hk] at c0
              have HCY := Lib.hid (fun W (hW : Below wb.heap.size wb W) => HC2.out m0 HMM.out hk W (hbb.trans (hW.mono hbb.size)))
              have HOX := Lib.hid (fun W => HOF.out m0.b.x m0.b.y W)
              simp only [hk, decide_true, Bool.true_and] at hst
              generalize of m0.b.x m0.b.y = oq at *
              clear HMM HC2 HST HBZ HOF
              
              by_cases hq0 : 0 ≤ oq
              · by_cases hz : z < 0
                · have hb : bq m0 = true := by rw [hbq]; simp [hq0, hz]
                  rw [hb] at hst HCY
                  simp only [cond_true] at HCY
                  have HSX := Lib.hid (show _ = _ + 1 from hst)
                  clear hst hbq hb
                  go_wp2_with fail
                  refine wp_region_more (by kernel_rfl) (by kernel_rfl) ?_
                  repeat (go_big_quiet_step ((first | (go_at_call 36; exact more_call (HOX.out _)))))
                  refine wpQuiet_nil ?_
                  rintro _ ⟨pq20, rfl⟩
                  go_wp2_with fail
                  refine wp_region_more (by kernel_rfl) (by kernel_rfl) ?_
                  repeat (go_big_quiet_step ((first | (go_at_call 50; exact more_call (HCY.out _ (by repeat' (first | (with_reducible exact Below.refl _ _) | (with_reducible assumption) | (with_reducible refine below_drewN ?_ _) | (with_reducible refine below_more _ _ _ ?_ ?_) | (with_reducible refine Below.alloc ?_ ?_ _) | (with_reducible refine Below.drew ?_) | (with_reducible refine Below.setCell ?_ ?_ _) | go_size)))))))
                  refine wpQuiet_nil ?_
                  rintro _ ⟨pq24, rfl⟩
                  go_wp2_with fail
                  go_roundg (cs.length - (t + 1))
                  case measure => omega
                  case rel => exact ⟨t + 1, by go_num, by omega, by omega, by rw [HSX.out]; go_num, Lib.hid (hbb.trans (Below.mono (B := wb.heap.size) (by repeat' (first | (with_reducible exact Below.refl _ _) | (with_reducible assumption) | (with_reducible refine below_drewN ?_ _) | (with_reducible refine below_more _ _ _ ?_ ?_) | (with_reducible refine Below.alloc ?_ ?_ _) | (with_reducible refine Below.drew ?_) | (with_reducible refine Below.setCell ?_ ?_ _) | go_size)) hbb.size))⟩
                · by_cases hoz : oq = z
                  · subst hoz
                    have hb : bq m0 = true := by rw [hbq]; simp [hq0]
                    rw [hb] at hst HCY
                    simp only [cond_true] at HCY
                    have HSX := Lib.hid (show _ = _ + 1 from hst)
                    clear hst hbq hb
                    go_wp2_with fail
                    refine wp_region_more (by kernel_rfl) (by kernel_rfl) ?_
                    repeat (go_big_quiet_step ((first | (go_at_call 36; exact more_call (HOX.out _)))))
                    refine wpQuiet_nil ?_
                    rintro _ ⟨pq20, rfl⟩
                    go_wp2_with fail
                    refine wp_region_more (by kernel_rfl) (by kernel_rfl) ?_
                    repeat (go_big_quiet_step ((first | (go_at_call 50; exact more_call (HCY.out _ (by repeat' (first | (with_reducible exact Below.refl _ _) | (with_reducible assumption) | (with_reducible refine below_drewN ?_ _) | (with_reducible refine below_more _ _ _ ?_ ?_) | (with_reducible refine Below.alloc ?_ ?_ _) | (with_reducible refine Below.drew ?_) | (with_reducible refine Below.setCell ?_ ?_ _) | go_size)))))))
                    refine wpQuiet_nil ?_
                    rintro _ ⟨pq24, rfl⟩
                    go_wp2_with fail
                    go_roundg (cs.length - (t + 1))
                    case measure => omega
                    case rel => exact ⟨t + 1, by go_num, by omega, by omega, by rw [HSX.out]; go_num, Lib.hid (hbb.trans (Below.mono (B := wb.heap.size) (by repeat' (first | (with_reducible exact Below.refl _ _) | (with_reducible assumption) | (with_reducible refine below_drewN ?_ _) | (with_reducible refine below_more _ _ _ ?_ ?_) | (with_reducible refine Below.alloc ?_ ?_ _) | (with_reducible refine Below.drew ?_) | (with_reducible refine Below.setCell ?_ ?_ _) | go_size)) hbb.size))⟩
                  · have hoz2 : (oq == z) = false := by simpa using hoz
                    have hb : bq m0 = false := by rw [hbq]; simp [hz, hoz]
                    rw [hb] at hst HCY
                    simp only [cond_false] at HCY
                    have HSX := Lib.hid (show _ = _ + 0 from hst)
                    clear hst hbq hb
                    go_wp2_with fail
                    refine wp_region_more (by kernel_rfl) (by kernel_rfl) ?_
                    repeat (go_big_quiet_step ((first | (go_at_call 36; exact more_call (HOX.out _)))))
                    refine wpQuiet_nil ?_
                    rintro _ ⟨pq20, rfl⟩
                    go_wp2_with fail
                    refine wp_region_more (by kernel_rfl) (by kernel_rfl) ?_
                    repeat (go_big_quiet_step ((first | (go_at_call 50; exact more_call (HCY.out _ (by repeat' (first | (with_reducible exact Below.refl _ _) | (with_reducible assumption) | (with_reducible refine below_drewN ?_ _) | (with_reducible refine below_more _ _ _ ?_ ?_) | (with_reducible refine Below.alloc ?_ ?_ _) | (with_reducible refine Below.drew ?_) | (with_reducible refine Below.setCell ?_ ?_ _) | go_size)))))))
                    refine wpQuiet_nil ?_
                    rintro _ ⟨pq24, rfl⟩
                    go_wp2_with fail
                    go_roundg (cs.length - (t + 1))
                    case measure => omega
                    case rel => exact ⟨t + 1, by go_num, by omega, by omega, by rw [HSX.out]; rfl, Lib.hid (hbb.trans (Below.mono (B := wb.heap.size) (by repeat' (first | (with_reducible exact Below.refl _ _) | (with_reducible assumption) | (with_reducible refine below_drewN ?_ _) | (with_reducible refine below_more _ _ _ ?_ ?_) | (with_reducible refine Below.alloc ?_ ?_ _) | (with_reducible refine Below.drew ?_) | (with_reducible refine Below.setCell ?_ ?_ _) | go_size)) hbb.size))⟩
              · have hb : bq m0 = false := by rw [hbq]; simp [hq0]
                rw [hb] at hst HCY
                simp only [cond_false] at HCY
                have HSX := Lib.hid (show _ = _ + 0 from hst)
                clear hst hbq hb
                go_wp2_with fail
                refine wp_region_more (by kernel_rfl) (by kernel_rfl) ?_
                repeat (go_big_quiet_step ((first | (go_at_call 36; exact more_call (HOX.out _)))))
                refine wpQuiet_nil ?_
                rintro _ ⟨pq20, rfl⟩
                go_wp2_with fail
                refine wp_region_more (by kernel_rfl) (by kernel_rfl) ?_
                repeat (go_big_quiet_step ((first | (go_at_call 50; exact more_call (HCY.out _ (by repeat' (first | (with_reducible exact Below.refl _ _) | (with_reducible assumption) | (with_reducible refine below_drewN ?_ _) | (with_reducible refine below_more _ _ _ ?_ ?_) | (with_reducible refine Below.alloc ?_ ?_ _) | (with_reducible refine Below.drew ?_) | (with_reducible refine Below.setCell ?_ ?_ _) | go_size)))))))
                refine wpQuiet_nil ?_
                rintro _ ⟨pq24, rfl⟩
                go_wp2_with fail
                go_roundg (cs.length - (t + 1))
                case measure => omega
                case rel => exact ⟨t + 1, by go_num, by omega, by omega, by rw [HSX.out]; rfl, Lib.hid (hbb.trans (Below.mono (B := wb.heap.size) (by repeat' (first | (with_reducible exact Below.refl _ _) | (with_reducible assumption) | (with_reducible refine below_drewN ?_ _) | (with_reducible refine below_more _ _ _ ?_ ?_) | (with_reducible refine Below.alloc ?_ ?_ _) | (with_reducible refine Below.drew ?_) | (with_reducible refine Below.setCell ?_ ?_ _) | go_size)) hbb.size))⟩
            · simp only [hk, decide_false, Bool.false_and, Bool.toNat_false, Nat.add_zero] at hst
              have HSX := Lib.hid hst
              have hk2 : (m0.k != 1) = true := by simpa using hk
              clear hst hbq HMM
              go_wp2_with fail
              go_roundg (cs.length - (t + 1))
              case measure => omega
              case rel => exact ⟨t + 1, by go_num, by omega, by omega, by rw [HSX.out], Lib.hid (hbb.trans (Below.mono (B := wb.heap.size) (by repeat' (first | (with_reducible exact Below.refl _ _) | (with_reducible assumption) | (with_reducible refine below_drewN ?_ _) | (with_reducible refine below_more _ _ _ ?_ ?_) | (with_reducible refine Below.alloc ?_ ?_ _) | (with_reducible refine Below.drew ?_) | (with_reducible refine Below.setCell ?_ ?_ _) | go_size)) hbb.size))⟩
          · have t2 : ¬ (t : Int) < (cs.length : Int) := by omega
            obtain rfl : t = cs.length := by omega
            rw [List.take_length] at hbt ⊢
            have htot := HTOT.out
            generalize (bz cs).length = bn at *
            have htoti : (aL.length : Int) + (dN.length : Int) = (l0.length : Int) + (bn : Int) := by omega
            go_wp2_with (go_at_call 45; refine (ha _).mono ?_; rintro e w' ⟨rfl, hb⟩; obtain ⟨d, os, rfl⟩ := more_of hb; clear hb)
            go_ret
            exact ⟨rfl, (HBX.out.trans (hbb.mono HBX.out.size)).trans (Below.mono (B := wb.heap.size) (by repeat' (first | (with_reducible exact Below.refl _ _) | (with_reducible assumption) | (with_reducible refine below_drewN ?_ _) | (with_reducible refine below_more _ _ _ ?_ ?_) | (with_reducible refine Below.alloc ?_ ?_ _) | (with_reducible refine Below.drew ?_) | (with_reducible refine Below.setCell ?_ ?_ _) | go_size)) (HBX.out.trans (hbb.mono HBX.out.size)).size)⟩
  · go_wp2_with (first | (go_at_call 49; refine (HCN.out _ (by repeat' (first | (with_reducible exact Below.refl _ _) | (with_reducible assumption) | (with_reducible refine below_drewN ?_ _) | (with_reducible refine below_more _ _ _ ?_ ?_) | (with_reducible refine Below.alloc ?_ ?_ _) | (with_reducible refine Below.drew ?_) | (with_reducible refine Below.setCell ?_ ?_ _) | go_size))).mono ?_; rintro e w' ⟨rfl, hb⟩; obtain ⟨d1', os1', rfl⟩ := more_of hb; clear hb) | (go_at_call 45; refine (ha _).mono ?_; rintro e w' ⟨rfl, hb⟩; obtain ⟨d, os, rfl⟩ := more_of hb; clear hb))
    go_ret
    exact ⟨rfl, HB4.out.trans (Below.mono (B := w4.heap.size) (by repeat' (first | (with_reducible exact Below.refl _ _) | (with_reducible assumption) | (with_reducible refine below_drewN ?_ _) | (with_reducible refine below_more _ _ _ ?_ ?_) | (with_reducible refine Below.alloc ?_ ?_ _) | (with_reducible refine Below.drew ?_) | (with_reducible refine Below.setCell ?_ ?_ _) | go_size)) HB4.out.size)⟩
set_option maxRecDepth 100000 in
theorem lifted (os : Os) (started : os.Started) (H : Type) (enc : TypeId × Value → H) :
    ReturnsInHanded {} Try.checked os 13 .any (Rows.tickCountsSpec.pre6 enc Try.prog Try.f13 Rows.tickCountsRow.domain false) (Rows.tickCountsSpec.post enc Try.prog Try.f13 false true false false) := by
  refine returnsInHanded_of_change (C := Try.checked) ownKnob0 started (by kernel_rfl) Try.func13
    (ChangeSpec.witness6 (enc := enc) (C := Try.checked) false ⟨#[], #[.agg #[.int .i64 0, .int .i64 0, .int .i64 0, .int .i64 0, .int .i64 0, .int .i64 0, .int .i64 0, .int .i64 0, .slice none 0 0, .slice none 0 0, .slice none 0 0]], []⟩ 8 (by kernel_rfl) (by kernel_rfl) (by kernel_rfl) (by kernel_rfl)) ?_
  intro W base args ds gs before hval0 hW _ _
  have hval : ∀ (j : Nat) t v, Try.f13.params[j]? = some t → args[j]? = some v → Value.okWide Try.prog W .any base t v := hval0
  have hread : ∀ t ∈ Try.f13.params.toList, Try.prog.readableRec t = true ∧ t < Try.prog.types.size := by
    rw [Try.params13]
    intro t ht
    simp only [List.mem_cons, List.not_mem_nil, or_false] at ht
    rcases ht with rfl
    all_goals exact ⟨by kernel_rfl, of_decide_eq_true (by kernel_rfl)⟩
  have hW' := hW
  obtain ⟨p, q, hA0, hV, -, -⟩ := hW'
  have hA : DataW.TrodAll enc Try.prog W 0 (fun _ => true) true Try.f13.params.toList args.toList ds p := hA0
  rw [Try.params13] at hA hval
  obtain ⟨v0, vs0, d0, ds0, p0, q0, hargs, rfl, rfl, h0, r0⟩ := trodAll_cons hA
  obtain ⟨rfl, rfl, rfl⟩ := trodAll_nil r0
  obtain rfl : args = #[v0] := by cases args; simp_all
  obtain ⟨rfl, rfl⟩ := trodVars_none hV
  have k0 := hval 0 87 v0 rfl rfl
  clear hval hval0 hA0 hV hA
  obtain ⟨cc, fuel0, rfl, g0⟩ := agg_of Try.underlying87 k0 h0
  obtain ⟨zcols, zrows, zside, zradius, zspeed, zids, zqueue, zz, po, pn, pc, eo, en, ec, own, near, ms, e0, b1, b2, b3, y1, y2, y3, _⟩ := read_case15 g0
  subst e0
  exact (walk _ _ _ _ _ _ _ _ po pn pc eo en ec own near ms W b1 b2 b3 y1 y3).mono fun e W' ⟨he, hb⟩ => ⟨_, he, post_true rfl rfl hread rfl hW hb⟩

/-- TickCounts: true for every input; the arguments stay. -/
theorem proved : Rows.TickCountsSaid :=
  OpenClaim.holds_of_wide 13 Try.f13 rfl rfl rfl rfl rfl rfl rfl ⟨rfl, rfl, rfl, rfl, rfl⟩ rfl rfl rfl rfl rfl (by kernel_rfl) Try.func13 (by kernel_rfl)
    (of_decide_eq_true (by kernel_rfl)) (by unfold Func.isWrapper; first | (rw [if_pos (by decide +kernel)]; kernel_rfl) | (rw [if_neg (by decide +kernel)]; exact ⟨rfl, rfl⟩))
    (fun os started H enc _ => lifted os started H enc)
end Go.Proofs.Ytcnclcfipabimaa.tickCounts
