/-
  TickGoes: for every case the law returns true, and the argument stays as it was. No condition.
-/
import Derived.Test.YtcnclcfipabimaaTwA
import Derived.Test.YtcnclcfipabimaaMrt
import Derived.Test.YtcnclcfipabimaaMwc
import Derived.Test.YtcnclcfipabimaaTpH
import Derived.Test.YtcnclcfipabimaaTkM
import Derived.Test.YtcnclcfipabimaaLiv
import Derived.Test.YtcnclcfipabimaaMzn
namespace Go.Proofs.Ytcnclcfipabimaa.tickGoes
open Go.ChangeShapes Go.WideShapes Go.ChangeAt Go.RowKit

theorem check_i64 {b : Bun} (h : checkB b = true) : I64 b.m := by
  unfold checkB rightB at h
  simp only [Bool.and_eq_true] at h
  have h1 := h.1.1.1.1.1.1.1.1.1
  unfold inR at h1
  simp only [Bool.and_eq_true, decide_eq_true_eq] at h1
  unfold I64; omega
set_option maxRecDepth 100000 in
set_option maxHeartbeats 4000000 in
theorem walk (cols rows side radius speed ids queue z : Int) (po pn pc : Option Addr) (eo en ec : Nat) (own near : List Bun) (ms : List Cm) (w : World) (h1 : BIn w (.slice po own.length eo) own) (h2 : BIn w (.slice pn near.length en) near) (h3 : RIn cmC w (.slice pc ms.length ec) ms)
    (hf1 : ∀ b ∈ own, BFit b) (hf2 : ∀ b ∈ near, BFit b) (hf3 : ∀ m ∈ ms, CmFit m) :
    Calls Try.prog 16 #[.agg #[.int .i64 cols, .int .i64 rows, .int .i64 side, .int .i64 radius, .int .i64 speed, .int .i64 ids, .int .i64 queue, .int .i64 z, .slice po own.length eo, .slice pn near.length en, .slice pc ms.length ec]] w fun e w' => e = .returned (.bool true) ∧ Below w.heap.size w w' := by
  have HF := Lib.hid (fun W (hW : Below w.heap.size w W) => few15 cols rows side radius speed ids queue z po pn pc eo en ec own near ms W (h1.keep hW) (h2.keep hW) (h3.keep hW))
  have ho := mayF_ok ⟨cols, rows, side, radius, speed, ids, queue⟩
  generalize mayF ⟨cols, rows, side, radius, speed, ids, queue⟩ = d at *
  obtain ⟨dcols, drows, dside, dradius, dspeed, dids, dqueue⟩ := d
  have HO := Lib.hid ho
  simp only at HF
  have b1 := rin_cut (enc := bunL) 40 h1
  have b2 := rin_cut (enc := bunL) 40 h2
  have b3 := rin_cut (enc := cmC) 40 h3
  have f1 : ∀ b ∈ own.take 40, BFit b := fun b hb => hf1 b (List.mem_of_mem_take hb)
  have f2 : ∀ b ∈ near.take 40, BFit b := fun b hb => hf2 b (List.mem_of_mem_take hb)
  have f3 : ∀ m ∈ ms.take 40, CmFit m := fun m hm => hf3 m (List.mem_of_mem_take hm)
  have n1 : (own.take 40).length ≤ 40 := by rw [List.length_take]; omega
  have n2 : (near.take 40).length ≤ 40 := by rw [List.length_take]; omega
  have n3 : (ms.take 40).length ≤ 40 := by rw [List.length_take]; omega
  generalize own.take 40 = own4 at *
  generalize near.take 40 = near4 at *
  generalize ms.take 40 = ms4 at *
  clear h1 h2 h3 hf1 hf2 hf3
  have HLV := Lib.hid (fun W (hW : Below w.heap.size w W) => living_any dcols drows dside dradius dspeed dids dqueue (.slice po own4.length eo) own4 W ho (BIn.keep b1 hW) (fun b hb => ⟨(f1 b hb).2.2.2.1.1, (f1 b hb).2.2.2.1.2⟩))
  have HLF := Lib.hid (livF_fit ho f1)
  have hlu := livF_un ⟨dcols, drows, dside, dradius, dspeed, dids, dqueue⟩ own4
  have hlm := livF_may ⟨dcols, drows, dside, dradius, dspeed, dids, dqueue⟩ own4
  have hli := livF_in ho own4
  have hln := livF_len ⟨dcols, drows, dside, dradius, dspeed, dids, dqueue⟩ own4
  generalize livF ⟨dcols, drows, dside, dradius, dspeed, dids, dqueue⟩ own4 = l0 at *
  have ha : ∀ W : World, Calls Try.prog 45 #[] W fun e w' => e = .returned (.bool true) ∧ Below W.heap.size W w' := awake15
  have hgd : ∀ b ∈ partF ⟨dcols, drows, dside, dradius, dspeed, dids, dqueue⟩ z l0, GoodZ ⟨dcols, drows, dside, dradius, dspeed, dids, dqueue⟩ z b := fun b hb => by
    obtain ⟨g1, g2⟩ := List.mem_filter.1 hb
    exact ⟨by rw [← checkB_eq]; exact hlm b g1, hli b g1, by simpa using g2⟩
  have hpl : (partF ⟨dcols, drows, dside, dradius, dspeed, dids, dqueue⟩ z l0).length ≤ 60 := Nat.le_trans (List.length_filter_le _ _) hln
  have HPF := Lib.hid (fun b (hb : b ∈ partF ⟨dcols, drows, dside, dradius, dspeed, dids, dqueue⟩ z l0) => HLF.out b (List.mem_filter.1 hb).1)
  have HPT := Lib.hid (fun v W (hl : BIn W v l0) => part15_any dcols drows dside dradius dspeed dids dqueue z v l0 W ho hl (by omega))
  generalize hpf : partF ⟨dcols, drows, dside, dradius, dspeed, dids, dqueue⟩ z l0 = own5 at *
  have HOR := Lib.hid (fun vl W (hW : Below w.heap.size w W) (hl : BIn W vl own5) => orders_any vl (.slice pc ms4.length ec) own5 ms4 W hl (b3.keep hW) f3)
  have hcl := ordF_len own5 ms4
  have hcm := ordF_mem own5 CmFit ms4 f3
  generalize ordF own5 ms4 = cs at *
  have HTG := Lib.hid (fun (h0 : 0 ≤ z) => tick_goes ho h0 near4 (fun m hm => (hcm m hm).2) hgd)
  have HRUN := Lib.hid (fun bm (h0 : -1 ≤ z) (h1 : z < dcols * drows) vo vc W (hm : MapAt W bm ⟨dcols, drows, dside, dradius, dspeed, dids, dqueue⟩) (hW : Below w.heap.size w W) (hl : BIn W vo own5) (hc : RIn cmC W vc cs) => prun_any bm ⟨dcols, drows, dside, dradius, dspeed, dids, dqueue⟩ z vo (.slice pn near4.length en) vc own5 near4 cs W hm ho h0 h1 hl (BIn.keep b2 hW) hc HPF.out (fun m hm => (hcm m hm).1) (by omega) (by omega) (by omega))
  have HOF := Lib.hid (fun bm x y W (hm : MapAt W bm ⟨dcols, drows, dside, dradius, dspeed, dids, dqueue⟩) => zof_any W bm ⟨dcols, drows, dside, dradius, dspeed, dids, dqueue⟩ x y hm ho)
  have HBE := Lib.hid (fun bm (h0 : 0 ≤ z) (h1 : z < dcols * drows) W (hm : MapAt W bm ⟨dcols, drows, dside, dradius, dspeed, dids, dqueue⟩) => beside_in W bm ⟨dcols, drows, dside, dradius, dspeed, dids, dqueue⟩ z hm ho h0 h1)
  have hbl := besideF_le ⟨dcols, drows, dside, dradius, dspeed, dids, dqueue⟩ z ho
  have hol : (ownL ⟨dcols, drows, dside, dradius, dspeed, dids, dqueue⟩ z own5 near4 cs).length ≤ 1000 := by
    unfold ownL leftL
    exact Nat.le_trans (List.length_filter_le _ _) (Nat.le_trans (eachL_len _ _) (Nat.le_trans (cmdsL_len _ _ _ _) (by have : (hurtL dradius own5 near4).length ≤ (stableF cmpBun own5).length := eachL_len _ _; rw [stableF_len] at this; show (hurtL dradius own5 near4).length + _ ≤ _; omega)))
  have hgl : (goneL ⟨dcols, drows, dside, dradius, dspeed, dids, dqueue⟩ z own5 near4 cs).length ≤ 1000 := by
    unfold goneL leftL
    exact Nat.le_trans (List.length_filter_le _ _) (Nat.le_trans (eachL_len _ _) (Nat.le_trans (cmdsL_len _ _ _ _) (by have : (hurtL dradius own5 near4).length ≤ (stableF cmpBun own5).length := eachL_len _ _; rw [stableF_len] at this; show (hurtL dradius own5 near4).length + _ ≤ _; omega)))
  generalize ownL ⟨dcols, drows, dside, dradius, dspeed, dids, dqueue⟩ z own5 near4 cs = oL at *
  generalize goneL ⟨dcols, drows, dside, dradius, dspeed, dids, dqueue⟩ z own5 near4 cs = gL at *
  generalize setN (deadN ⟨dcols, drows, dside, dradius, dspeed, dids, dqueue⟩ z own5 near4 cs) = dN at *
  generalize besideF ⟨dcols, drows, dside, dradius, dspeed, dids, dqueue⟩ z = bes at *
  generalize ofF ⟨dcols, drows, dside, dradius, dspeed, dids, dqueue⟩ = of at *
  obtain ⟨hc1, hc2⟩ := ho.cnt
  simp only at hc1 hc2
  clear ho b1 b2 b3 f1 f2 f3 hlu hlm hli hcm hgd hpf
  go_enter Try.func16, Try.ntmps16
  go_wp2_with fail
  refine (HF.out _ (by repeat' (first | (with_reducible exact Below.refl _ _) | (with_reducible assumption) | (with_reducible refine below_drewN ?_ _) | (with_reducible refine below_more _ _ _ ?_ ?_) | (with_reducible refine Below.alloc ?_ ?_ _) | (with_reducible refine Below.drew ?_) | (with_reducible refine Below.setCell ?_ ?_ _) | go_size))).mono ?_; rintro e w' ⟨rfl, hb⟩; obtain ⟨d1, os1, rfl⟩ := more_of hb; clear hb
  go_wp2_with fail
  refine (znew_ok dcols drows dside dradius dspeed dids dqueue _ HO.out).mono ?_
  rintro e w2 ⟨b, rfl, hb2, hmap, hbb⟩
  have cC : ∀ j, w2.cell? ⟨w.heap.size, j, none⟩ = (#[.int .i64 dcols, .int .i64 drows, .int .i64 dside, .int .i64 dradius, .int .i64 dspeed, .int .i64 dids, .int .i64 dqueue, .int .i64 z, .slice po own4.length eo, .slice pn near4.length en, .slice pc ms4.length ec] : Array Value)[j]? := fun j => by rw [hb2.cell (by simp; omega)]; simp [go_sem]
  have l2 : w.heap.size < w2.heap.size := by have := hb2.size; simp at this; omega
  have hb2w : Below w.heap.size w w2 := Below.trans (Below.mono (B := w.heap.size) (by repeat' (first | (with_reducible exact Below.refl _ _) | (with_reducible assumption) | (with_reducible refine below_drewN ?_ _) | (with_reducible refine below_more _ _ _ ?_ ?_) | (with_reducible refine Below.alloc ?_ ?_ _) | (with_reducible refine Below.drew ?_) | (with_reducible refine Below.setCell ?_ ?_ _) | go_size)) (Nat.le_refl _)) (hb2.mono (by simp; omega))
  have HB2 := Lib.hid hb2w
  have HMP := Lib.hid hmap
  have HC2 := Lib.hid cC
  have q0 := cC 0; simp at q0; have q1 := cC 1; simp at q1; have q2 := cC 2; simp at q2; have q3 := cC 3; simp at q3; have q4 := cC 4; simp at q4; have q5 := cC 5; simp at q5; have q6 := cC 6; simp at q6; have q7 := cC 7; simp at q7; have q8 := cC 8; simp at q8; have q9 := cC 9; simp at q9; have q10 := cC 10; simp at q10
  obtain ⟨f0, f1, f2⟩ := ltz l2
  clear hb2 hmap hbb hb2w cC HF
  have HCN := Lib.hid (fun W (hW : Below w2.heap.size w2 W) => zcount_any W b _ (HMP.out.grow hW) HO.out)
  simp only at HCN
  by_cases hz0 : z < 0
  · go_wp2_with fail
    refine wp_region_more (by kernel_rfl) (by kernel_rfl) ?_
    repeat (go_big_quiet_step ((first | (go_at_call 49; exact more_call (HCN.out _ (by repeat' (first | (with_reducible exact Below.refl _ _) | (with_reducible assumption) | (with_reducible refine below_drewN ?_ _) | (with_reducible refine below_more _ _ _ ?_ ?_) | (with_reducible refine Below.alloc ?_ ?_ _) | (with_reducible refine Below.drew ?_) | (with_reducible refine Below.setCell ?_ ?_ _) | go_size)))))))
    refine wpQuiet_nil ?_
    rintro _ ⟨pq3, rfl⟩
    go_wp2_with (go_at_call 45; refine (ha _).mono ?_; rintro e w' ⟨rfl, hb⟩; obtain ⟨d, os, rfl⟩ := more_of hb; clear hb)
    go_ret
    exact ⟨rfl, HB2.out.trans (Below.mono (B := w2.heap.size) (by repeat' (first | (with_reducible exact Below.refl _ _) | (with_reducible assumption) | (with_reducible refine below_drewN ?_ _) | (with_reducible refine below_more _ _ _ ?_ ?_) | (with_reducible refine Below.alloc ?_ ?_ _) | (with_reducible refine Below.drew ?_) | (with_reducible refine Below.setCell ?_ ?_ _) | go_size)) HB2.out.size)⟩
  have hzd : decide (z < 0) = false := decide_eq_false hz0
  by_cases hz1 : dcols * drows ≤ z
  · go_wp2_with fail
    refine wp_region_more (by kernel_rfl) (by kernel_rfl) ?_
    repeat (go_big_quiet_step ((first | (go_at_call 49; exact more_call (HCN.out _ (by repeat' (first | (with_reducible exact Below.refl _ _) | (with_reducible assumption) | (with_reducible refine below_drewN ?_ _) | (with_reducible refine below_more _ _ _ ?_ ?_) | (with_reducible refine Below.alloc ?_ ?_ _) | (with_reducible refine Below.drew ?_) | (with_reducible refine Below.setCell ?_ ?_ _) | go_size)))))))
    refine wpQuiet_nil ?_
    rintro _ ⟨pq3, rfl⟩
    go_wp2_with (go_at_call 45; refine (ha _).mono ?_; rintro e w' ⟨rfl, hb⟩; obtain ⟨d, os, rfl⟩ := more_of hb; clear hb)
    go_ret
    exact ⟨rfl, HB2.out.trans (Below.mono (B := w2.heap.size) (by repeat' (first | (with_reducible exact Below.refl _ _) | (with_reducible assumption) | (with_reducible refine below_drewN ?_ _) | (with_reducible refine below_more _ _ _ ?_ ?_) | (with_reducible refine Below.alloc ?_ ?_ _) | (with_reducible refine Below.drew ?_) | (with_reducible refine Below.setCell ?_ ?_ _) | go_size)) HB2.out.size)⟩
  have hz2 : 0 ≤ z := by omega
  have hz3 : z < dcols * drows := by omega
  go_wp2_with fail
  refine wp_region_more (by kernel_rfl) (by kernel_rfl) ?_
  repeat (go_big_quiet_step ((first | (go_at_call 49; exact more_call (HCN.out _ (by repeat' (first | (with_reducible exact Below.refl _ _) | (with_reducible assumption) | (with_reducible refine below_drewN ?_ _) | (with_reducible refine below_more _ _ _ ?_ ?_) | (with_reducible refine Below.alloc ?_ ?_ _) | (with_reducible refine Below.drew ?_) | (with_reducible refine Below.setCell ?_ ?_ _) | go_size)))))))
  refine wpQuiet_nil ?_
  rintro _ ⟨pq3, rfl⟩
  have HPT2 := Lib.hid (fun v W (hl : BIn W v l0) => HPT.out v W hl)
  generalize wantF ⟨dcols, drows, dside, dradius, dspeed, dids, dqueue⟩ z l0 = wF at *
  have HB2w := fun W (hW : Below w2.heap.size w2 W) => HB2.out.trans (hW.mono HB2.out.size)
  have HBW := Lib.hid HB2w
  clear HB2w HPT
  
  go_upto_region 5 with fail
  go_cut [5, 6] (fun s5 s6 wx => ∃ p c, s5 = .slice p own5.length c ∧ Below w2.heap.size w2 wx ∧ BIn wx (.slice p own5.length c) own5)
  case first =>
    go_region_held3 (fun W => (w2).heap.size ≤ W.heap.size ∧ ∀ b o, b < (w2).heap.size → W.cell? ⟨b, o, none⟩ = (w2).cell? ⟨b, o, none⟩) (with_reducible (repeat (first | assumption | exact s_refl _ | exact s_id _ | refine s_more _ _ ?_ | refine s_alloc _ ?_ | refine s_drew ?_))) (first | (go_at_call 34; refine (HLV.out _ (HBW.out _ (by repeat' (first | (with_reducible exact Below.refl _ _) | (with_reducible assumption) | (with_reducible refine below_drewN ?_ _) | (with_reducible refine below_more _ _ _ ?_ ?_) | (with_reducible refine Below.alloc ?_ ?_ _) | (with_reducible refine Below.drew ?_) | (with_reducible refine Below.setCell ?_ ?_ _) | go_size)))).mono ?_; rintro e w' ⟨vl, rfl, hN⟩; obtain ⟨pl, cl, rfl⟩ := sl_frm hN.1; have HLX := hN.bin; have hNb := hN.2.1; clear hN; obtain ⟨d3, os3, rfl⟩ := more_of hNb; clear hNb; replace HLX := Lib.hid HLX) | (go_at_call 44; refine (HPT2.out _ _ (HLX.out.keep (by repeat' (first | (with_reducible exact Below.refl _ _) | (with_reducible assumption) | (with_reducible refine below_drewN ?_ _) | (with_reducible refine below_more _ _ _ ?_ ?_) | (with_reducible refine Below.alloc ?_ ?_ _) | (with_reducible refine Below.drew ?_) | (with_reducible refine Below.setCell ?_ ?_ _) | go_size)))).mono ?_; rintro e w' ⟨v1, v2, rfl, hP⟩; obtain ⟨p1, c1, rfl⟩ := sl_frm hP.a.1; obtain ⟨p2, c2, rfl⟩ := sl_frm hP.b.1; have HPX := hP.a.bin; have hPb := hP.a.2.1; clear hP; obtain ⟨d4, os4, rfl⟩ := more_of hPb; clear hPb; replace HPX := Lib.hid HPX))
    all_goals (go_wp2_with fail; go_meet; exact ⟨_, _, rfl, (by repeat' (first | (with_reducible exact Below.refl _ _) | (with_reducible assumption) | (with_reducible refine below_drewN ?_ _) | (with_reducible refine below_more _ _ _ ?_ ?_) | (with_reducible refine Below.alloc ?_ ?_ _) | (with_reducible refine Below.drew ?_) | (with_reducible refine Below.setCell ?_ ?_ _) | go_size)), HPX.out.keep (by repeat' (first | (with_reducible exact Below.refl _ _) | (with_reducible assumption) | (with_reducible refine below_drewN ?_ _) | (with_reducible refine below_more _ _ _ ?_ ?_) | (with_reducible refine Below.alloc ?_ ?_ _) | (with_reducible refine Below.drew ?_) | (with_reducible refine Below.setCell ?_ ?_ _) | go_size))⟩)
  obtain ⟨p5, c5, rfl, hbx, hP5⟩ := hcut
  obtain ⟨w5, rfl⟩ : ∃ w5 : World, w5 = wc := ⟨_, rfl⟩
  have HO5 := Lib.hid hP5
  have HM5 := Lib.hid (HMP.out.grow hbx)
  have HB5 := Lib.hid (HB2.out.trans (hbx.mono HB2.out.size))
  have HC5 := Lib.hid (box_on hbx l2 HC2.out)
  have HBW5 := Lib.hid (fun W (hW : Below w5.heap.size w5 W) => HB5.out.trans (hW.mono HB5.out.size))
  replace q0 := (hbx.cell (p := ⟨w.heap.size, 0, none⟩) l2).trans q0; replace q1 := (hbx.cell (p := ⟨w.heap.size, 1, none⟩) l2).trans q1; replace q2 := (hbx.cell (p := ⟨w.heap.size, 2, none⟩) l2).trans q2; replace q3 := (hbx.cell (p := ⟨w.heap.size, 3, none⟩) l2).trans q3; replace q4 := (hbx.cell (p := ⟨w.heap.size, 4, none⟩) l2).trans q4; replace q5 := (hbx.cell (p := ⟨w.heap.size, 5, none⟩) l2).trans q5; replace q6 := (hbx.cell (p := ⟨w.heap.size, 6, none⟩) l2).trans q6; replace q7 := (hbx.cell (p := ⟨w.heap.size, 7, none⟩) l2).trans q7; replace q8 := (hbx.cell (p := ⟨w.heap.size, 8, none⟩) l2).trans q8; replace q9 := (hbx.cell (p := ⟨w.heap.size, 9, none⟩) l2).trans q9; replace q10 := (hbx.cell (p := ⟨w.heap.size, 10, none⟩) l2).trans q10
  replace l2 := Nat.lt_of_lt_of_le l2 hbx.size
  clear hP5 hbx HMP HB2 HC2 HBW HLV HPT2 HCN f0 f1 f2
  obtain ⟨f0, f1, f2⟩ := ltz l2
  have hz4 : -1 ≤ z := by omega
  
  go_upto_region 6 with fail
  go_cut [7] (fun s7 wx => Below w5.heap.size w5 wx ∧ Rsx wx s7 oL gL dN)
  case first =>
    go_region_held3 (fun W => (w5).heap.size ≤ W.heap.size ∧ ∀ b o, b < (w5).heap.size → W.cell? ⟨b, o, none⟩ = (w5).cell? ⟨b, o, none⟩) (with_reducible (repeat (first | assumption | exact s_refl _ | exact s_id _ | refine s_more _ _ ?_ | refine s_alloc _ ?_ | refine s_drew ?_))) (first | (go_at_call 40; refine (HOR.out _ _ (HBW5.out _ (by repeat' (first | (with_reducible exact Below.refl _ _) | (with_reducible assumption) | (with_reducible refine below_drewN ?_ _) | (with_reducible refine below_more _ _ _ ?_ ?_) | (with_reducible refine Below.alloc ?_ ?_ _) | (with_reducible refine Below.drew ?_) | (with_reducible refine Below.setCell ?_ ?_ _) | go_size))) (HO5.out.keep (by repeat' (first | (with_reducible exact Below.refl _ _) | (with_reducible assumption) | (with_reducible refine below_drewN ?_ _) | (with_reducible refine below_more _ _ _ ?_ ?_) | (with_reducible refine Below.alloc ?_ ?_ _) | (with_reducible refine Below.drew ?_) | (with_reducible refine Below.setCell ?_ ?_ _) | go_size)))).mono ?_; rintro e w' ⟨vk, rfl, hN⟩; obtain ⟨pk, ck, rfl⟩ := sl_frm hN.1; have HCX := hN.rin; have hNb := hN.2.1; clear hN; obtain ⟨d3, os3, rfl⟩ := more_of hNb; clear hNb; (try simp only [more_of_drew] at HCX ⊢); replace HCX := Lib.hid HCX) | (go_at_call 43; refine (HRUN.out b hz4 hz3 _ _ _ (HM5.out.grow (by repeat' (first | (with_reducible exact Below.refl _ _) | (with_reducible assumption) | (with_reducible refine below_drewN ?_ _) | (with_reducible refine below_more _ _ _ ?_ ?_) | (with_reducible refine Below.alloc ?_ ?_ _) | (with_reducible refine Below.drew ?_) | (with_reducible refine Below.setCell ?_ ?_ _) | go_size))) (HBW5.out _ (by repeat' (first | (with_reducible exact Below.refl _ _) | (with_reducible assumption) | (with_reducible refine below_drewN ?_ _) | (with_reducible refine below_more _ _ _ ?_ ?_) | (with_reducible refine Below.alloc ?_ ?_ _) | (with_reducible refine Below.drew ?_) | (with_reducible refine Below.setCell ?_ ?_ _) | go_size))) (HO5.out.keep (by repeat' (first | (with_reducible exact Below.refl _ _) | (with_reducible assumption) | (with_reducible refine below_drewN ?_ _) | (with_reducible refine below_more _ _ _ ?_ ?_) | (with_reducible refine Below.alloc ?_ ?_ _) | (with_reducible refine Below.drew ?_) | (with_reducible refine Below.setCell ?_ ?_ _) | go_size))) (HCX.out.keep (by repeat' (first | (with_reducible exact Below.refl _ _) | (with_reducible assumption) | (with_reducible refine below_drewN ?_ _) | (with_reducible refine below_more _ _ _ ?_ ?_) | (with_reducible refine Below.alloc ?_ ?_ _) | (with_reducible refine Below.drew ?_) | (with_reducible refine Below.setCell ?_ ?_ _) | go_size)))).mono ?_; rintro e w' hq; obtain ⟨pa, ca, pb, cb, pd, cd, d2, os2, rfl, rfl, ha', hg', hd'⟩ := hq.open; clear hq; replace ha' := Lib.hid ha'; replace hg' := Lib.hid hg'; replace hd' := Lib.hid hd'))
    all_goals (clear q0 q1 q2 q3 q4 q5 q6 q7 q8 q9 q10 f0 f1 f2)
    all_goals (go_wp2_with fail; go_meet)
    all_goals (refine ⟨(by repeat' (first | (with_reducible exact Below.refl _ _) | (with_reducible assumption) | (with_reducible refine below_drewN ?_ _) | (with_reducible refine below_more _ _ _ ?_ ?_) | (with_reducible refine Below.alloc ?_ ?_ _) | (with_reducible refine Below.drew ?_) | (with_reducible refine Below.setCell ?_ ?_ _) | go_size)), ?_⟩)
    all_goals (apply Rsx.mk rfl)
    all_goals (first | (focus ((repeat (first | (with_reducible refine bxo_more _ _ ?_) | (with_reducible refine bxo_drew ?_) | (focus ((with_reducible refine bxo_new _ _ _ _ ?_); (simp; done))) | (with_reducible refine bxo_alloc _ ?_))); done)) | (focus ((repeat (first | (focus ((with_reducible refine BIn.simH (by assumption) ?_); (repeat (first | (with_reducible exact sim_refl _) | (with_reducible refine sim_more ?_ _ _ _) | (with_reducible refine sim_put ?_ _ _ _) | (with_reducible refine sim_alloc ?_ _) | (with_reducible refine sim_drewL ?_) | (with_reducible refine sim_drewR ?_))); done)) | (with_reducible refine bin_more _ _ ?_) | (with_reducible refine bin_alloc _ ?_) | (with_reducible refine bin_drew ?_))); done)) | (focus ((repeat (first | (focus ((with_reducible refine nin_simH (by assumption) ?_); (repeat (first | (with_reducible exact sim_refl _) | (with_reducible refine sim_more ?_ _ _ _) | (with_reducible refine sim_put ?_ _ _ _) | (with_reducible refine sim_alloc ?_ _) | (with_reducible refine sim_drewL ?_) | (with_reducible refine sim_drewR ?_))); done)) | (with_reducible refine nin_more _ _ ?_) | (with_reducible refine nin_alloc _ ?_) | (with_reducible refine nin_drew ?_))); done)))
  obtain ⟨hbx, n7, pa, ca, pb, cb, pd, cd, rfl, hX1, hA1, hG1, hD1⟩ := hcut
  obtain ⟨w6, rfl⟩ : ∃ w6 : World, w6 = wc := ⟨_, rfl⟩
  have HBX := Lib.hid (HB5.out.trans (hbx.mono HB5.out.size))
  have HM6 := Lib.hid (HM5.out.grow hbx)
  have HC6 := Lib.hid (box_on hbx l2 HC5.out)
  have HX6 := Lib.hid hX1
  have HA6 := Lib.hid hA1
  have HG6 := Lib.hid hG1
  replace l2 := Nat.lt_of_lt_of_le l2 hbx.size
  have s7 := hX1.1
  clear hbx hX1 hA1 hG1 hD1 HM5 HB5 HC5 HBW5 HO5 HRUN HOR q0 q1 q2 q3 q4 q5 q6 q7 q8 q9 q10 f0 f1 f2
  have q7 := HC6.out 7; simp at q7
  obtain ⟨f0, f1, f2⟩ := ltz l2
  obtain ⟨f3, f4, f5⟩ := ltz s7
  go_wp2_with fail
  refine (HBE.out b hz2 hz3 _ (HM6.out.grow (by repeat' (first | (with_reducible exact Below.refl _ _) | (with_reducible assumption) | (with_reducible refine below_drewN ?_ _) | (with_reducible refine below_more _ _ _ ?_ ?_) | (with_reducible refine Below.alloc ?_ ?_ _) | (with_reducible refine Below.drew ?_) | (with_reducible refine Below.setCell ?_ ?_ _) | go_size)))).mono ?_
  rintro e w7 ⟨vb, rfl, hN⟩
  obtain ⟨pbe, cbe, rfl⟩ := sl_frm hN.1
  have hb7 : Below w6.heap.size w6 w7 := Below.trans (Below.mono (B := w6.heap.size) (by repeat' (first | (with_reducible exact Below.refl _ _) | (with_reducible assumption) | (with_reducible refine below_drewN ?_ _) | (with_reducible refine below_more _ _ _ ?_ ?_) | (with_reducible refine Below.alloc ?_ ?_ _) | (with_reducible refine Below.drew ?_) | (with_reducible refine Below.setCell ?_ ?_ _) | go_size)) (Nat.le_refl _)) (hN.2.1.mono (by simp))
  have HBS := Lib.hid hN.rin
  have HB7 := Lib.hid (HBX.out.trans (hb7.mono HBX.out.size))
  have HM7 := Lib.hid (HM6.out.grow hb7)
  have HA7 := Lib.hid (HA6.out.keep hb7)
  have HG7 := Lib.hid (HG6.out.keep hb7)
  have HC7 := Lib.hid (box_on hb7 l2 HC6.out)
  have HX7 := Lib.hid (box_on hb7 s7 HX6.out.2)
  replace l2 := Nat.lt_of_lt_of_le l2 hb7.size
  replace s7 := Nat.lt_of_lt_of_le s7 hb7.size
  obtain ⟨hown, hgone⟩ := HTG.out hz2
  have HOW := Lib.hid hown
  have HGO := Lib.hid hgone
  have HOFX := Lib.hid (fun x y W (hW : Below w7.heap.size w7 W) => HOF.out b x y W (HM7.out.grow hW))
  clear hN hb7 hown hgone HTG HM6 HA6 HG6 HC6 HX6 HBX HBE HOF q7 f0 f1 f2 f3 f4 f5
  
  go_wp2_with fail
  go_loopg [9] oL.length (fun kx sx wr => ∃ t : Nat, sx = .int .i64 t ∧ t ≤ oL.length ∧ oL.length - t ≤ kx ∧ Hid (Below w7.heap.size w7 wr))
  case atStart => exact ⟨0, by go_num, by omega, by omega, Lib.hid (Below.refl _ _)⟩
  case round =>
    obtain ⟨t, rfl, ht, hkx, HW⟩ := hrel
    obtain ⟨wa, rfl⟩ : ∃ wa : World, wa = wr := ⟨_, rfl⟩
    have hbb := HW.out; have l2b := Nat.lt_of_lt_of_le l2 hbb.size; have s7b := Nat.lt_of_lt_of_le s7 hbb.size; obtain ⟨f0, f1, f2⟩ := ltz l2b; obtain ⟨f3, f4, f5⟩ := ltz s7b; have q7 := (box_on hbb l2 HC7.out) 7; simp at q7; have x0 := (box_on hbb s7 HX7.out) 0; simp at x0; have x1 := (box_on hbb s7 HX7.out) 1; simp at x1
    by_cases hlt : t < oL.length
    · have t1 : (t : Int) < (oL.length : Int) := by omega
      obtain ⟨x0', hx0⟩ : ∃ x0', oL[t]? = some x0' := ⟨_, List.getElem?_eq_getElem hlt⟩
      obtain ⟨gb, ob, cb', hv, hgb, hcb⟩ := (HA7.out.keep hbb).cells hx0
      simp only [Value.slice.injEq, true_and] at hv
      obtain ⟨rfl, rfl⟩ := hv
      have c0 := hcb 0 _ rfl; have c1 := hcb 1 _ rfl; have c2 := hcb 2 _ rfl; have c3 := hcb 3 _ rfl; have c4 := hcb 4 _ rfl; have c5 := hcb 5 _ rfl; have c6 := hcb 6 _ rfl; have c7 := hcb 7 _ rfl; have c8 := hcb 8 _ rfl; have c9 := hcb 9 _ rfl; have c10 := hcb 10 _ rfl
      simp only [Nat.add_zero] at c0
      obtain ⟨e0, e1, e2⟩ := ltz hgb
      obtain ⟨hof, hck⟩ := HOW.out x0' (List.mem_of_getElem? hx0)
      have hfm := check_i64 hck
      have hmy := fun W => rMay_s x0'.s x0'.i x0'.g x0'.m x0'.x x0'.y x0'.vx x0'.vy x0'.hp x0'.pw x0'.lf W hfm
      rw [show checkB ⟨x0'.s, x0'.i, x0'.g, x0'.m, x0'.x, x0'.y, x0'.vx, x0'.vy, x0'.hp, x0'.pw, x0'.lf⟩ = true from hck] at hmy
      have HMY := Lib.hid hmy
      have hofx := fun W hW => HOFX.out x0'.x x0'.y W hW
      simp only [hof] at hofx
      have HOFY := Lib.hid (fun W (hW : Below wa.heap.size wa W) => hofx W (hbb.trans (hW.mono hbb.size)))
      clear hcb hx0 hof hck hfm hmy hofx
      obtain ⟨s, i, g, m, x, y, vx, vy, hp, pw, lf⟩ := x0'
      simp only at HMY HOFY c0 c1 c2 c3 c4 c5 c6 c7 c8 c9 c10
      go_wp2_with fail
      refine wp_region_more (by kernel_rfl) (by kernel_rfl) ?_
      repeat (go_big_quiet_step ((first | (go_at_call 53; exact more_call (HOFY.out _ (by repeat' (first | (with_reducible exact Below.refl _ _) | (with_reducible assumption) | (with_reducible refine below_drewN ?_ _) | (with_reducible refine below_more _ _ _ ?_ ?_) | (with_reducible refine Below.alloc ?_ ?_ _) | (with_reducible refine Below.drew ?_) | (with_reducible refine Below.setCell ?_ ?_ _) | go_size)))) | (go_at_call 54; exact more_call (HMY.out _)))))
      refine wpQuiet_nil ?_
      rintro _ ⟨pq9, rfl⟩
      go_wp2_with fail
      go_roundg (oL.length - (t + 1))
      case measure => omega
      case rel => exact ⟨t + 1, by go_num, by omega, by omega, Lib.hid (hbb.trans (Below.mono (B := wa.heap.size) (by repeat' (first | (with_reducible exact Below.refl _ _) | (with_reducible assumption) | (with_reducible refine below_drewN ?_ _) | (with_reducible refine below_more _ _ _ ?_ ?_) | (with_reducible refine Below.alloc ?_ ?_ _) | (with_reducible refine Below.drew ?_) | (with_reducible refine Below.setCell ?_ ?_ _) | go_size)) hbb.size))⟩
    · have t1 : ¬ (t : Int) < (oL.length : Int) := by omega
      have HWA := Lib.hid hbb
      clear HA7 HOW
      go_wp2_with fail
      go_loopg [10] gL.length (fun kx sx wr => ∃ t : Nat, sx = .int .i64 t ∧ t ≤ gL.length ∧ gL.length - t ≤ kx ∧ Hid (Below w7.heap.size w7 wr))
      case atStart => exact ⟨0, by go_num, by omega, by omega, Lib.hid (hbb.trans (Below.mono (B := wa.heap.size) (by repeat' (first | (with_reducible exact Below.refl _ _) | (with_reducible assumption) | (with_reducible refine below_drewN ?_ _) | (with_reducible refine below_more _ _ _ ?_ ?_) | (with_reducible refine Below.alloc ?_ ?_ _) | (with_reducible refine Below.drew ?_) | (with_reducible refine Below.setCell ?_ ?_ _) | go_size)) hbb.size))⟩
      case round =>
        clear q7 x0 x1 f0 f1 f2 f3 f4 f5 hbb l2b s7b
        obtain ⟨u, rfl, hu, hkx2, HV⟩ := hrel
        obtain ⟨wb, rfl⟩ : ∃ wb : World, wb = wr := ⟨_, rfl⟩
        have hbb := HV.out; have l2b := Nat.lt_of_lt_of_le l2 hbb.size; have s7b := Nat.lt_of_lt_of_le s7 hbb.size; obtain ⟨f0, f1, f2⟩ := ltz l2b; obtain ⟨f3, f4, f5⟩ := ltz s7b; have q7 := (box_on hbb l2 HC7.out) 7; simp at q7; have x0 := (box_on hbb s7 HX7.out) 0; simp at x0; have x1 := (box_on hbb s7 HX7.out) 1; simp at x1
        by_cases hlu : u < gL.length
        · have t2 : (u : Int) < (gL.length : Int) := by omega
          obtain ⟨x0', hx0⟩ : ∃ x0', gL[u]? = some x0' := ⟨_, List.getElem?_eq_getElem hlu⟩
          obtain ⟨gb, ob, cb', hv, hgb, hcb⟩ := (HG7.out.keep hbb).cells hx0
          simp only [Value.slice.injEq, true_and] at hv
          obtain ⟨rfl, rfl⟩ := hv
          obtain ⟨hof, hck⟩ := HGO.out x0' (List.mem_of_getElem? hx0)
          have hfm := check_i64 hck
          have hmy := fun W => rMay_s x0'.s x0'.i x0'.g x0'.m x0'.x x0'.y x0'.vx x0'.vy x0'.hp x0'.pw x0'.lf W hfm
          rw [show checkB ⟨x0'.s, x0'.i, x0'.g, x0'.m, x0'.x, x0'.y, x0'.vx, x0'.vy, x0'.hp, x0'.pw, x0'.lf⟩ = true from hck] at hmy
          have HMY := Lib.hid hmy
          have HOFY := Lib.hid (fun W (hW : Below w7.heap.size w7 W) => HOFX.out x0'.x x0'.y W hW)
          have HCB := Lib.hid hcb
          have HBB := Lib.hid hbb
          have HANY := Lib.hid (List.any_eq_true.2 ⟨_, hof, by simp⟩ : (bes.any fun q => q == of x0'.x x0'.y) = true)
          clear hcb hx0 hof hck hfm hmy q7 x0 f0 f1 f2 hbb
          generalize of x0'.x x0'.y = oz at *
          obtain ⟨s, i, g, m, x, y, vx, vy, hp, pw, lf⟩ := x0'
          simp only at HMY HOFY
          go_wp2_with fail
          go_loopg [11, 12] bes.length (fun kx sm sx wr => ∃ k : Nat, sx = .int .i64 k ∧ k ≤ bes.length ∧ bes.length - k ≤ kx ∧ sm = .bool ((bes.take k).any fun q => q == oz) ∧ Hid (Below wb.heap.size wb wr))
          case atStart => exact ⟨0, by go_num, by omega, by omega, by simp, Lib.hid (Below.refl _ _)⟩
          case round =>
            clear x1 f3 f4 f5
            obtain ⟨k, rfl, hk, hkx3, rfl, HU⟩ := hrel
            obtain ⟨wc', rfl⟩ : ∃ wc' : World, wc' = wr := ⟨_, rfl⟩
            have hbc := HBB.out.trans (HU.out.mono HBB.out.size)
            have sgb := Nat.lt_of_lt_of_le hgb HU.out.size
            have l2c := Nat.lt_of_lt_of_le l2 hbc.size
            have s7c := Nat.lt_of_lt_of_le s7 hbc.size
            obtain ⟨f0, f1, f2⟩ := ltz l2c
            obtain ⟨f3, f4, f5⟩ := ltz s7c
            obtain ⟨e0, e1, e2⟩ := ltz sgb
            have x1 := (box_on hbc s7 HX7.out) 1
            simp at x1
            have c0 := (HU.out.cell (p := ⟨gb, ob + u * 11 + 0, none⟩) hgb).trans (HCB.out 0 _ rfl); have c1 := (HU.out.cell (p := ⟨gb, ob + u * 11 + 1, none⟩) hgb).trans (HCB.out 1 _ rfl); have c2 := (HU.out.cell (p := ⟨gb, ob + u * 11 + 2, none⟩) hgb).trans (HCB.out 2 _ rfl); have c3 := (HU.out.cell (p := ⟨gb, ob + u * 11 + 3, none⟩) hgb).trans (HCB.out 3 _ rfl); have c4 := (HU.out.cell (p := ⟨gb, ob + u * 11 + 4, none⟩) hgb).trans (HCB.out 4 _ rfl); have c5 := (HU.out.cell (p := ⟨gb, ob + u * 11 + 5, none⟩) hgb).trans (HCB.out 5 _ rfl); have c6 := (HU.out.cell (p := ⟨gb, ob + u * 11 + 6, none⟩) hgb).trans (HCB.out 6 _ rfl); have c7 := (HU.out.cell (p := ⟨gb, ob + u * 11 + 7, none⟩) hgb).trans (HCB.out 7 _ rfl); have c8 := (HU.out.cell (p := ⟨gb, ob + u * 11 + 8, none⟩) hgb).trans (HCB.out 8 _ rfl); have c9 := (HU.out.cell (p := ⟨gb, ob + u * 11 + 9, none⟩) hgb).trans (HCB.out 9 _ rfl); have c10 := (HU.out.cell (p := ⟨gb, ob + u * 11 + 10, none⟩) hgb).trans (HCB.out 10 _ rfl)
            simp only [Nat.add_zero] at c0
            have HOFZ := Lib.hid (fun W (hW : Below wc'.heap.size wc' W) => HOFY.out W (hbc.trans (hW.mono hbc.size)))
            by_cases hlk : k < bes.length
            · have t3 : (k : Int) < (bes.length : Int) := by omega
              obtain ⟨b0, hb0⟩ : ∃ b0, bes[k]? = some b0 := ⟨_, List.getElem?_eq_getElem hlk⟩
              obtain ⟨gc, oc, cc, hv, hgc, hcc⟩ := (HBS.out.keep hbc).cells intL_len hb0
              simp only [Value.slice.injEq, true_and] at hv
              obtain ⟨rfl, rfl⟩ := hv
              have y0 := hcc 0 _ rfl
              simp only [Nat.add_zero, Nat.mul_one] at y0
              obtain ⟨g0, g1, g2⟩ := ltz hgc
              have hst : ((bes.take (k + 1)).any fun q => q == oz) = (((bes.take k).any fun q => q == oz) || b0 == oz) := by
                rw [List.take_succ_eq_append_getElem hlk, List.any_append, (List.getElem?_eq_some_iff.1 hb0).2]; simp
              have HST := Lib.hid hst
              clear hst hcc hb0
              generalize (bes.take k).any (fun q => q == oz) = fl at *
              cases fl with
              | true =>
                go_wp2_with fail
                refine wp_region_more (by kernel_rfl) (by kernel_rfl) ?_
                repeat (go_big_quiet_step ((first | (go_at_call 53; exact more_call (HOFZ.out _ (by repeat' (first | (with_reducible exact Below.refl _ _) | (with_reducible assumption) | (with_reducible refine below_drewN ?_ _) | (with_reducible refine below_more _ _ _ ?_ ?_) | (with_reducible refine Below.alloc ?_ ?_ _) | (with_reducible refine Below.drew ?_) | (with_reducible refine Below.setCell ?_ ?_ _) | go_size)))))))
                refine wpQuiet_nil ?_
                rintro _ ⟨pq20, rfl⟩
                go_wp2_with fail
                go_roundg (bes.length - (k + 1))
                case measure => omega
                case rel => exact ⟨k + 1, by go_num, by omega, by omega, by rw [HST.out]; rfl, Lib.hid (HU.out.trans (Below.mono (B := wc'.heap.size) (by repeat' (first | (with_reducible exact Below.refl _ _) | (with_reducible assumption) | (with_reducible refine below_drewN ?_ _) | (with_reducible refine below_more _ _ _ ?_ ?_) | (with_reducible refine Below.alloc ?_ ?_ _) | (with_reducible refine Below.drew ?_) | (with_reducible refine Below.setCell ?_ ?_ _) | go_size)) HU.out.size))⟩
              | false =>
                go_wp2_with fail
                refine wp_region_more (by kernel_rfl) (by kernel_rfl) ?_
                repeat (go_big_quiet_step ((first | (go_at_call 53; exact more_call (HOFZ.out _ (by repeat' (first | (with_reducible exact Below.refl _ _) | (with_reducible assumption) | (with_reducible refine below_drewN ?_ _) | (with_reducible refine below_more _ _ _ ?_ ?_) | (with_reducible refine Below.alloc ?_ ?_ _) | (with_reducible refine Below.drew ?_) | (with_reducible refine Below.setCell ?_ ?_ _) | go_size)))))))
                refine wpQuiet_nil ?_
                rintro _ ⟨pq20, rfl⟩
                go_wp2_with fail
                go_roundg (bes.length - (k + 1))
                case measure => omega
                case rel => exact ⟨k + 1, by go_num, by omega, by omega, by rw [HST.out]; simp, Lib.hid (HU.out.trans (Below.mono (B := wc'.heap.size) (by repeat' (first | (with_reducible exact Below.refl _ _) | (with_reducible assumption) | (with_reducible refine below_drewN ?_ _) | (with_reducible refine below_more _ _ _ ?_ ?_) | (with_reducible refine Below.alloc ?_ ?_ _) | (with_reducible refine Below.drew ?_) | (with_reducible refine Below.setCell ?_ ?_ _) | go_size)) HU.out.size))⟩
            · have t3 : ¬ (k : Int) < (bes.length : Int) := by omega
              obtain rfl : k = bes.length := by omega
              rw [List.take_length, HANY.out]
              go_wp2_with (go_at_call 54; refine (HMY.out _).mono ?_; rintro e w' ⟨rfl, hb⟩; obtain ⟨d, os, rfl⟩ := more_of hb; clear hb)
              go_roundg (gL.length - (u + 1))
              case measure => omega
              case rel => exact ⟨u + 1, by go_num, by omega, by omega, Lib.hid (hbc.trans (Below.mono (B := wc'.heap.size) (by repeat' (first | (with_reducible exact Below.refl _ _) | (with_reducible assumption) | (with_reducible refine below_drewN ?_ _) | (with_reducible refine below_more _ _ _ ?_ ?_) | (with_reducible refine Below.alloc ?_ ?_ _) | (with_reducible refine Below.drew ?_) | (with_reducible refine Below.setCell ?_ ?_ _) | go_size)) hbc.size))⟩
        · have t2 : ¬ (u : Int) < (gL.length : Int) := by omega
          go_wp2_with (go_at_call 45; refine (ha _).mono ?_; rintro e w' ⟨rfl, hb⟩; obtain ⟨d, os, rfl⟩ := more_of hb; clear hb)
          go_ret
          exact ⟨rfl, (HB7.out.trans (hbb.mono HB7.out.size)).trans (Below.mono (B := wb.heap.size) (by repeat' (first | (with_reducible exact Below.refl _ _) | (with_reducible assumption) | (with_reducible refine below_drewN ?_ _) | (with_reducible refine below_more _ _ _ ?_ ?_) | (with_reducible refine Below.alloc ?_ ?_ _) | (with_reducible refine Below.drew ?_) | (with_reducible refine Below.setCell ?_ ?_ _) | go_size)) (HB7.out.trans (hbb.mono HB7.out.size)).size)⟩
set_option maxRecDepth 100000 in
theorem lifted (os : Os) (started : os.Started) (H : Type) (enc : TypeId × Value → H) :
    ReturnsInHanded {} Try.checked os 16 .any (Rows.tickGoesSpec.pre6 enc Try.prog Try.f16 Rows.tickGoesRow.domain false) (Rows.tickGoesSpec.post enc Try.prog Try.f16 false true false false) := by
  refine returnsInHanded_of_change (C := Try.checked) ownKnob0 started (by kernel_rfl) Try.func16
    (ChangeSpec.witness6 (enc := enc) (C := Try.checked) false ⟨#[], #[.agg #[.int .i64 0, .int .i64 0, .int .i64 0, .int .i64 0, .int .i64 0, .int .i64 0, .int .i64 0, .int .i64 0, .slice none 0 0, .slice none 0 0, .slice none 0 0]], []⟩ 8 (by kernel_rfl) (by kernel_rfl) (by kernel_rfl) (by kernel_rfl)) ?_
  intro W base args ds gs before hval0 hW _ _
  have hval : ∀ (j : Nat) t v, Try.f16.params[j]? = some t → args[j]? = some v → Value.okWide Try.prog W .any base t v := hval0
  have hread : ∀ t ∈ Try.f16.params.toList, Try.prog.readableRec t = true ∧ t < Try.prog.types.size := by
    rw [Try.params16]
    intro t ht
    simp only [List.mem_cons, List.not_mem_nil, or_false] at ht
    rcases ht with rfl
    all_goals exact ⟨by kernel_rfl, of_decide_eq_true (by kernel_rfl)⟩
  have hW' := hW
  obtain ⟨p, q, hA0, hV, -, -⟩ := hW'
  have hA : DataW.TrodAll enc Try.prog W 0 (fun _ => true) true Try.f16.params.toList args.toList ds p := hA0
  rw [Try.params16] at hA hval
  obtain ⟨v0, vs0, d0, ds0, p0, q0, hargs, rfl, rfl, h0, r0⟩ := trodAll_cons hA
  obtain ⟨rfl, rfl, rfl⟩ := trodAll_nil r0
  obtain rfl : args = #[v0] := by cases args; simp_all
  obtain ⟨rfl, rfl⟩ := trodVars_none hV
  have k0 := hval 0 87 v0 rfl rfl
  clear hval hval0 hA0 hV hA
  obtain ⟨cc, fuel0, rfl, g0⟩ := agg_of Try.underlying87 k0 h0
  obtain ⟨zcols, zrows, zside, zradius, zspeed, zids, zqueue, zz, po, pn, pc, eo, en, ec, own, near, ms, e0, b1, b2, b3, y1, y2, y3, _⟩ := read_case15 g0
  subst e0
  exact (walk _ _ _ _ _ _ _ _ po pn pc eo en ec own near ms W b1 b2 b3 y1 y2 y3).mono fun e W' ⟨he, hb⟩ => ⟨_, he, post_true rfl rfl hread rfl hW hb⟩

/-- TickGoes: true for every input; the arguments stay. -/
theorem proved : Rows.TickGoesSaid :=
  OpenClaim.holds_of_wide 16 Try.f16 rfl rfl rfl rfl rfl rfl rfl ⟨rfl, rfl, rfl, rfl, rfl⟩ rfl rfl rfl rfl rfl (by kernel_rfl) Try.func16 (by kernel_rfl)
    (of_decide_eq_true (by kernel_rfl)) (by unfold Func.isWrapper; first | (rw [if_pos (by decide +kernel)]; kernel_rfl) | (rw [if_neg (by decide +kernel)]; exact ⟨rfl, rfl⟩))
    (fun os started H enc _ => lifted os started H enc)
end Go.Proofs.Ytcnclcfipabimaa.tickGoes
