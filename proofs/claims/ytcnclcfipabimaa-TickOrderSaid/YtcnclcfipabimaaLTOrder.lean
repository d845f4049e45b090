/-
  TickOrder: for every case the law returns true, and the argument stays as it was. No condition.
-/
import Derived.Test.YtcnclcfipabimaaTwA
import Derived.Test.YtcnclcfipabimaaMrt
import Derived.Test.YtcnclcfipabimaaMwc
import Derived.Test.YtcnclcfipabimaaTpD
import Derived.Test.YtcnclcfipabimaaTkM
import Derived.Test.YtcnclcfipabimaaLiv
namespace Go.Proofs.Ytcnclcfipabimaa.tickOrder
open Go.ChangeShapes Go.WideShapes Go.ChangeAt Go.RowKit


set_option maxRecDepth 100000 in
set_option maxHeartbeats 4000000 in
theorem walk (cols rows side radius speed ids queue z : Int) (po pn pc : Option Addr) (eo en ec : Nat) (own near : List Bun) (ms : List Cm) (w : World) (h1 : BIn w (.slice po own.length eo) own) (h2 : BIn w (.slice pn near.length en) near) (h3 : RIn cmC w (.slice pc ms.length ec) ms)
    (hf1 : ∀ b ∈ own, BFit b) (hf2 : ∀ b ∈ near, BFit b) (hf3 : ∀ m ∈ ms, CmFit m) :
    Calls Try.prog 11 #[.agg #[.int .i64 cols, .int .i64 rows, .int .i64 side, .int .i64 radius, .int .i64 speed, .int .i64 ids, .int .i64 queue, .int .i64 z, .slice po own.length eo, .slice pn near.length en, .slice pc ms.length ec]] w fun e w' => e = .returned (.bool true) ∧ Below w.heap.size w w' := by
  obtain ⟨i0, hi0, hz0, hz1, hz2⟩ := info_parts info_bunJ
  have HF := Lib.hid (fun W (hW : Below w.heap.size w W) => few15 cols rows side radius speed ids queue z po pn pc eo en ec own near ms W (h1.keep hW) (h2.keep hW) (h3.keep hW))
  have ho := mayF_ok ⟨cols, rows, side, radius, speed, ids, queue⟩
  generalize mayF ⟨cols, rows, side, radius, speed, ids, queue⟩ = d at *
  obtain ⟨dcols, drows, dside, dradius, dspeed, dids, dqueue⟩ := d
  have HO := Lib.hid ho
  simp only at HF
  have b1 := rin_cut (enc := bunL) 40 h1
  have b2 := rin_cut (enc := bunL) 40 h2
  have b3 := rin_cut (enc := cmC) 40 h3
  have f1 : ∀ b ∈ own.take 40, BFit b := fun b hb => hf1 b (List.mem_of_mem_take hb)
  have f2 : ∀ b ∈ near.take 40, BFit b := fun b hb => hf2 b (List.mem_of_mem_take hb)
  have f3 : ∀ m ∈ ms.take 40, CmFit m := fun m hm => hf3 m (List.mem_of_mem_take hm)
  have n1 : (own.take 40).length ≤ 40 := by rw [List.length_take]; omega
  have n2 : (near.take 40).length ≤ 40 := by rw [List.length_take]; omega
  have n3 : (ms.take 40).length ≤ 40 := by rw [List.length_take]; omega
  generalize own.take 40 = own4 at *
  generalize near.take 40 = near4 at *
  generalize ms.take 40 = ms4 at *
  clear h1 h2 h3 hf1 hf2 hf3
  have HLV := Lib.hid (fun W (hW : Below w.heap.size w W) => living_any dcols drows dside dradius dspeed dids dqueue (.slice po own4.length eo) own4 W ho (BIn.keep b1 hW) (fun b hb => ⟨(f1 b hb).2.2.2.1.1, (f1 b hb).2.2.2.1.2⟩))
  have HLF := Lib.hid (livF_fit ho f1)
  have hlu := livF_un ⟨dcols, drows, dside, dradius, dspeed, dids, dqueue⟩ own4
  have hlm := livF_may ⟨dcols, drows, dside, dradius, dspeed, dids, dqueue⟩ own4
  have hli := livF_in ho own4
  have hln := livF_len ⟨dcols, drows, dside, dradius, dspeed, dids, dqueue⟩ own4
  generalize livF ⟨dcols, drows, dside, dradius, dspeed, dids, dqueue⟩ own4 = l0 at *
  have ha : ∀ W : World, Calls Try.prog 45 #[] W fun e w' => e = .returned (.bool true) ∧ Below W.heap.size W w' := awake15
  have hpw : ∀ b ∈ l0, 0 ≤ b.pw := fun b hb => (rMay_pw b (hlm b hb)).1
  have hnp : ∀ b ∈ near4.map noneg, 0 ≤ b.pw := fun b hb => by
    obtain ⟨x, _, rfl⟩ := List.mem_map.1 hb
    show 0 ≤ max 0 x.pw
    omega
  have hnl : (near4.map noneg).length ≤ 40 := by rw [List.length_map]; exact n2
  have hpm : ownZ ⟨dcols, drows, dside, dradius, dspeed, dids, dqueue⟩ z l0.reverse (near4.map noneg).reverse ms4 = ownZ ⟨dcols, drows, dside, dradius, dspeed, dids, dqueue⟩ z l0 (near4.map noneg) ms4 ∧ goneZ ⟨dcols, drows, dside, dradius, dspeed, dids, dqueue⟩ z l0.reverse (near4.map noneg).reverse ms4 = goneZ ⟨dcols, drows, dside, dradius, dspeed, dids, dqueue⟩ z l0 (near4.map noneg) ms4 ∧ deadZ ⟨dcols, drows, dside, dradius, dspeed, dids, dqueue⟩ z l0.reverse (near4.map noneg).reverse ms4 = deadZ ⟨dcols, drows, dside, dradius, dspeed, dids, dqueue⟩ z l0 (near4.map noneg) ms4 := by
    obtain ⟨e1, e2, e3⟩ := tick_perm ⟨dcols, drows, dside, dradius, dspeed, dids, dqueue⟩ z ms4 hlu (List.reverse_perm l0).symm (List.reverse_perm (near4.map noneg)).symm hpw hnp
    unfold ownZ goneZ deadZ
    rw [e1, e2, e3]
    exact ⟨rfl, rfl, rfl⟩
  have HRUN := Lib.hid (fun bm vo vn W (hm : MapAt W bm ⟨dcols, drows, dside, dradius, dspeed, dids, dqueue⟩) (hW : Below w.heap.size w W) (h : (BIn W vo l0 ∧ BIn W vn (near4.map noneg)) ∨ (BIn W vo l0.reverse ∧ BIn W vn (near4.map noneg).reverse)) =>
    show Calls Try.prog 43 #[.pointer (some ⟨bm, 0, none⟩), .int .i64 z, vo, vn, .slice pc ms4.length ec] W (RunQ W (ownZ ⟨dcols, drows, dside, dradius, dspeed, dids, dqueue⟩ z l0 (near4.map noneg) ms4) (goneZ ⟨dcols, drows, dside, dradius, dspeed, dids, dqueue⟩ z l0 (near4.map noneg) ms4) (deadZ ⟨dcols, drows, dside, dradius, dspeed, dids, dqueue⟩ z l0 (near4.map noneg) ms4)) from by
      rcases h with ⟨g1, g2⟩ | ⟨g1, g2⟩
      · exact prun_z bm ⟨dcols, drows, dside, dradius, dspeed, dids, dqueue⟩ z vo vn _ l0 (near4.map noneg) ms4 W hm ho g1 g2 (b3.keep hW) HLF.out f3 (by omega) (by omega) (by omega)
      · have h := prun_z bm ⟨dcols, drows, dside, dradius, dspeed, dids, dqueue⟩ z vo vn _ l0.reverse (near4.map noneg).reverse ms4 W hm ho g1 g2 (b3.keep hW) (fun b hb => HLF.out b (List.mem_reverse.1 hb)) f3 (by rw [List.length_reverse]; omega) (by rw [List.length_reverse]; omega) (by omega)
        rw [hpm.1, hpm.2.1, hpm.2.2] at h
        exact h)
  generalize ownZ ⟨dcols, drows, dside, dradius, dspeed, dids, dqueue⟩ z l0 (near4.map noneg) ms4 = oL at *
  generalize goneZ ⟨dcols, drows, dside, dradius, dspeed, dids, dqueue⟩ z l0 (near4.map noneg) ms4 = gL at *
  generalize deadZ ⟨dcols, drows, dside, dradius, dspeed, dids, dqueue⟩ z l0 (near4.map noneg) ms4 = dN at *
  have BN := Lib.hid b2
  clear hpm hpw hnp hnl b1 b2 b3 f1 f2 f3 hlu hlm hli
  go_enter Try.func11, Try.ntmps11
  go_wp2_with fail
  refine (HF.out _ (by repeat' (first | (with_reducible exact Below.refl _ _) | (with_reducible assumption) | (with_reducible refine below_drewN ?_ _) | (with_reducible refine below_more _ _ _ ?_ ?_) | (with_reducible refine Below.alloc ?_ ?_ _) | (with_reducible refine Below.drew ?_) | (with_reducible refine Below.setCell ?_ ?_ _) | go_size))).mono ?_; rintro e w' ⟨rfl, hb⟩; obtain ⟨d1, os1, rfl⟩ := more_of hb; clear hb
  go_wp2_with fail
  refine (znew_ok dcols drows dside dradius dspeed dids dqueue _ HO.out).mono ?_
  rintro e w2 ⟨b, rfl, hb2, hmap, hbb⟩
  have cC : ∀ j, w2.cell? ⟨w.heap.size, j, none⟩ = (#[.int .i64 dcols, .int .i64 drows, .int .i64 dside, .int .i64 dradius, .int .i64 dspeed, .int .i64 dids, .int .i64 dqueue, .int .i64 z, .slice po own4.length eo, .slice pn near4.length en, .slice pc ms4.length ec] : Array Value)[j]? := fun j => by rw [hb2.cell (by simp; omega)]; simp [go_sem]
  have l2 : w.heap.size < w2.heap.size := by have := hb2.size; simp at this; omega
  have hb2w : Below w.heap.size w w2 := Below.trans (Below.mono (B := w.heap.size) (by repeat' (first | (with_reducible exact Below.refl _ _) | (with_reducible assumption) | (with_reducible refine below_drewN ?_ _) | (with_reducible refine below_more _ _ _ ?_ ?_) | (with_reducible refine Below.alloc ?_ ?_ _) | (with_reducible refine Below.drew ?_) | (with_reducible refine Below.setCell ?_ ?_ _) | go_size)) (Nat.le_refl _)) (hb2.mono (by simp; omega))
  have HB2 := Lib.hid hb2w
  have HMP := Lib.hid hmap
  have HC2 := Lib.hid cC
  have q0 := cC 0; simp at q0; have q1 := cC 1; simp at q1; have q2 := cC 2; simp at q2; have q3 := cC 3; simp at q3; have q4 := cC 4; simp at q4; have q5 := cC 5; simp at q5; have q6 := cC 6; simp at q6; have q7 := cC 7; simp at q7; have q8 := cC 8; simp at q8; have q9 := cC 9; simp at q9; have q10 := cC 10; simp at q10
  obtain ⟨f0, f1, f2⟩ := ltz l2
  clear hb2 hmap hbb hb2w cC HF
  go_wp2_with fail
  refine (HLV.out _ HB2.out).mono ?_
  rintro e w3 ⟨vl, rfl, hN⟩
  obtain ⟨pl, cl, rfl⟩ := sl_frm hN.1
  have hb3 := hN.2.1
  have HL3 := Lib.hid hN.bin
  have HM3 := Lib.hid (HMP.out.grow hb3)
  have HB3 := Lib.hid (HB2.out.trans (hb3.mono HB2.out.size))
  have HC3 := Lib.hid (box_on hb3 l2 HC2.out)
  replace q0 := (hb3.cell (p := ⟨w.heap.size, 0, none⟩) l2).trans q0; replace q1 := (hb3.cell (p := ⟨w.heap.size, 1, none⟩) l2).trans q1; replace q2 := (hb3.cell (p := ⟨w.heap.size, 2, none⟩) l2).trans q2; replace q3 := (hb3.cell (p := ⟨w.heap.size, 3, none⟩) l2).trans q3; replace q4 := (hb3.cell (p := ⟨w.heap.size, 4, none⟩) l2).trans q4; replace q5 := (hb3.cell (p := ⟨w.heap.size, 5, none⟩) l2).trans q5; replace q6 := (hb3.cell (p := ⟨w.heap.size, 6, none⟩) l2).trans q6; replace q7 := (hb3.cell (p := ⟨w.heap.size, 7, none⟩) l2).trans q7; replace q8 := (hb3.cell (p := ⟨w.heap.size, 8, none⟩) l2).trans q8; replace q9 := (hb3.cell (p := ⟨w.heap.size, 9, none⟩) l2).trans q9; replace q10 := (hb3.cell (p := ⟨w.heap.size, 10, none⟩) l2).trans q10
  replace l2 := Nat.lt_of_lt_of_le l2 hb3.size
  clear hN hb3 HMP HB2 HLV HC2 f0 f1 f2
  obtain ⟨f0, f1, f2⟩ := ltz l2
  have HN3 := Lib.hid (BIn.keep BN.out HB3.out)
  clear BN
  go_wp2_with (at_builtin; refine wpList_append_bins w3 _ (by rfl) _ _ (by rfl) _ _ [] near4 (by rfl) (bnew_empty (by repeat' (first | (with_reducible exact Below.refl _ _) | (with_reducible assumption) | (with_reducible refine below_drewN ?_ _) | (with_reducible refine below_more _ _ _ ?_ ?_) | (with_reducible refine Below.alloc ?_ ?_ _) | (with_reducible refine Below.drew ?_) | (with_reducible refine Below.setCell ?_ ?_ _) | go_size))) (by rfl) (HN3.out.keep (by repeat' (first | (with_reducible exact Below.refl _ _) | (with_reducible assumption) | (with_reducible refine below_drewN ?_ _) | (with_reducible refine below_more _ _ _ ?_ ?_) | (with_reducible refine Below.alloc ?_ ?_ _) | (with_reducible refine Below.drew ?_) | (with_reducible refine Below.setCell ?_ ?_ _) | go_size))) (by simp) (by omega) ?_; intro v6 w4 hN6; simp only [List.nil_append] at hN6)
  obtain ⟨p6, c6, rfl⟩ := sl_frm hN6.1
  have hp0 : Prs w3 w4 (.slice none 0 0) (.slice p6 near4.length c6) [] near4 := ⟨BNew.none hN6.2.1, hN6, fun g hg => by cases hg⟩
  have HP0 := Lib.hid hp0
  have HC4 := Lib.hid (box_on hN6.2.1 l2 HC3.out)
  clear hN6 hp0 f0 f1 f2 q0 q1 q2 q3 q4 q5 q6 q7 q8 q9 q10
  go_wp2_with fail
  go_loopg [7, 9] l0.length (fun kx o sx wr => ∃ (t : Nat) (j : Int), sx = .int .i64 j ∧ j = (t : Int) - 1 ∧ t ≤ l0.length ∧ t ≤ kx ∧ Hid (Prs w3 wr o (.slice p6 near4.length c6) (l0.drop t).reverse near4))
  case atStart => exact ⟨l0.length, _, by go_num, rfl, by omega, by omega, Lib.hid (by rw [List.drop_of_length_le (Nat.le_refl _)]; exact HP0.out)⟩
  case round =>
    obtain ⟨t, j, rfl, hj, ht, hkx, HP⟩ := hrel
    obtain ⟨wa, rfl⟩ : ∃ wa : World, wa = wr := ⟨_, rfl⟩
    obtain ⟨pb, cb, hpb⟩ := sl_frm HP.out.a.1
    subst hpb
    rcases t with _ | t
    · have t1 : ¬ 0 ≤ j := by omega
      rw [List.drop_zero] at HP
      have hrl : l0.reverse.length ≤ 60 := by rw [List.length_reverse]; exact hln
      clear HP0 HC4
      have ht3 : Tri w3 wa (.slice none 0 0) (.slice p6 near4.length c6) (.slice pb l0.length cb) [] near4 l0.reverse := ⟨⟨BNew.none HP.out.a.2.1, HP.out.b, fun g hg => by cases hg⟩, ⟨BNew.none HP.out.a.2.1, by have h := HP.out.a; rwa [List.length_reverse] at h, fun g hg => by cases hg⟩, fun g h1 h2 => HP.out.ap g (by rw [List.length_reverse]; exact h2) h1⟩
      rw [List.length_reverse] at HP
      have HT3 := Lib.hid ht3
      clear ht3 HP
      go_wp2_with fail
      go_loopg [8, 10] near4.length (fun kx o sx wr => ∃ (t : Nat) (j : Int), sx = .int .i64 j ∧ j = (t : Int) - 1 ∧ t ≤ near4.length ∧ t ≤ kx ∧ Hid (Tri w3 wr o (.slice p6 near4.length c6) (.slice pb l0.length cb) ((near4.drop t).map noneg).reverse (negTo near4 t) l0.reverse))
      case atStart => exact ⟨near4.length, _, by go_num, rfl, by omega, by omega, Lib.hid (by rw [List.drop_of_length_le (Nat.le_refl _), show negTo near4 near4.length = near4 from by unfold negTo; simp]; exact HT3.out)⟩
      case round =>
        obtain ⟨t, j, rfl, hj, ht, hkx, HP⟩ := hrel
        obtain ⟨wb, rfl⟩ : ∃ wb : World, wb = wr := ⟨_, rfl⟩
        obtain ⟨pf, cf, hpf⟩ := sl_frm HP.out.pb.a.1
        subst hpf
        rcases t with _ | t
        · obtain rfl : j = -1 := by omega
          clear hj
          have hfl : ((near4.drop 0).map noneg).reverse.length ≤ 40 := by simp; omega
          rw [List.drop_zero, show negTo near4 0 = near4.map noneg from by unfold negTo; simp] at HP
          clear HT3
          have hb7 := HP.out.pb.a.2.1
          have HL7 := Lib.hid (HL3.out.keep hb7)
          have HM7 := Lib.hid (HM3.out.grow hb7)
          have HB7 := Lib.hid (HB3.out.trans (hb7.mono HB3.out.size))
          have HBK7 := Lib.hid (show BIn wb (.slice pb l0.length cb) l0.reverse from HP.out.pc.b.bin)
          have HN7 := Lib.hid HP.out.pb.b.bin
          have HF7 := Lib.hid (show BIn wb (.slice pf near4.length cf) (near4.map noneg).reverse from by have h := HP.out.pb.a.bin; rwa [List.length_reverse, List.length_map] at h)
          try simp only [List.drop_zero, List.length_reverse, List.length_map]
          have HBW := Lib.hid (fun W (hW : Below wb.heap.size wb W) => HB7.out.trans (hW.mono HB7.out.size))
          have HX7 := Lib.hid (box_on hb7 l2 HC3.out)
          have l7 := Nat.lt_of_lt_of_le l2 hb7.size
          clear hb7 HP HL3 HM3 HB3 HC3 HN3
          have q7 := HX7.out 7; simp at q7; have q8 := HX7.out 8; simp at q8; have q9 := HX7.out 9; simp at q9; have q10 := HX7.out 10; simp at q10
          obtain ⟨f0, f1, f2⟩ := ltz l7
          go_upto_region 15 with fail
          go_cut [11, 12] (fun s11 s12 wx => Below wb.heap.size wb wx ∧ Rsx wx s11 oL gL dN ∧ Rsx wx s12 oL gL dN)
          case first =>
            go_region_held3 (fun W => (wb).heap.size ≤ W.heap.size ∧ ∀ b o, b < (wb).heap.size → W.cell? ⟨b, o, none⟩ = (wb).cell? ⟨b, o, none⟩) (with_reducible (repeat (first | assumption | exact s_refl _ | exact s_id _ | refine s_more _ _ ?_ | refine s_alloc _ ?_ | refine s_drew ?_))) (first | (go_at_call 43; refine (HRUN.out b _ _ _ (HM7.out.grow (by repeat' (first | (with_reducible exact Below.refl _ _) | (with_reducible assumption) | (with_reducible refine below_drewN ?_ _) | (with_reducible refine below_more _ _ _ ?_ ?_) | (with_reducible refine Below.alloc ?_ ?_ _) | (with_reducible refine Below.drew ?_) | (with_reducible refine Below.setCell ?_ ?_ _) | go_size))) (HBW.out _ (by repeat' (first | (with_reducible exact Below.refl _ _) | (with_reducible assumption) | (with_reducible refine below_drewN ?_ _) | (with_reducible refine below_more _ _ _ ?_ ?_) | (with_reducible refine Below.alloc ?_ ?_ _) | (with_reducible refine Below.drew ?_) | (with_reducible refine Below.setCell ?_ ?_ _) | go_size))) ?_).mono ?_; (first | (focus (refine Or.inl ⟨HL7.out.keep (by repeat' (first | (with_reducible exact Below.refl _ _) | (with_reducible assumption) | (with_reducible refine below_drewN ?_ _) | (with_reducible refine below_more _ _ _ ?_ ?_) | (with_reducible refine Below.alloc ?_ ?_ _) | (with_reducible refine Below.drew ?_) | (with_reducible refine Below.setCell ?_ ?_ _) | go_size)), ?_⟩; exact HN7.out.keep (by repeat' (first | (with_reducible exact Below.refl _ _) | (with_reducible assumption) | (with_reducible refine below_drewN ?_ _) | (with_reducible refine below_more _ _ _ ?_ ?_) | (with_reducible refine Below.alloc ?_ ?_ _) | (with_reducible refine Below.drew ?_) | (with_reducible refine Below.setCell ?_ ?_ _) | go_size)); done)) | (focus (refine Or.inr ⟨HBK7.out.keep (by repeat' (first | (with_reducible exact Below.refl _ _) | (with_reducible assumption) | (with_reducible refine below_drewN ?_ _) | (with_reducible refine below_more _ _ _ ?_ ?_) | (with_reducible refine Below.alloc ?_ ?_ _) | (with_reducible refine Below.drew ?_) | (with_reducible refine Below.setCell ?_ ?_ _) | go_size)), ?_⟩; exact HF7.out.keep (by repeat' (first | (with_reducible exact Below.refl _ _) | (with_reducible assumption) | (with_reducible refine below_drewN ?_ _) | (with_reducible refine below_more _ _ _ ?_ ?_) | (with_reducible refine Below.alloc ?_ ?_ _) | (with_reducible refine Below.drew ?_) | (with_reducible refine Below.setCell ?_ ?_ _) | go_size)); done))); rintro e w' hq; obtain ⟨pa, ca, pb, cb, pd, cd, d2, os2, rfl, rfl, ha', hg', hd'⟩ := hq.open; clear hq; replace ha' := Lib.hid ha'; replace hg' := Lib.hid hg'; replace hd' := Lib.hid hd'))
            all_goals (clear q7 q8 q9 q10 f0 f1 f2)
            all_goals (go_wp2_with fail; go_meet)
            all_goals (refine ⟨(by repeat' (first | (with_reducible exact Below.refl _ _) | (with_reducible assumption) | (with_reducible refine below_drewN ?_ _) | (with_reducible refine below_more _ _ _ ?_ ?_) | (with_reducible refine Below.alloc ?_ ?_ _) | (with_reducible refine Below.drew ?_) | (with_reducible refine Below.setCell ?_ ?_ _) | go_size)), ?_, ?_⟩)
            all_goals (apply Rsx.mk rfl)
            all_goals (first | (focus ((repeat (first | (with_reducible refine bxo_more _ _ ?_) | (with_reducible refine bxo_drew ?_) | (focus ((with_reducible refine bxo_new _ _ _ _ ?_); (simp; done))) | (with_reducible refine bxo_alloc _ ?_))); done)) | (focus ((repeat (first | (focus ((with_reducible refine BIn.simH (by assumption) ?_); (repeat (first | (with_reducible exact sim_refl _) | (with_reducible refine sim_more ?_ _ _ _) | (with_reducible refine sim_put ?_ _ _ _) | (with_reducible refine sim_alloc ?_ _) | (with_reducible refine sim_drewL ?_) | (with_reducible refine sim_drewR ?_))); done)) | (with_reducible refine bin_more _ _ ?_) | (with_reducible refine bin_alloc _ ?_) | (with_reducible refine bin_drew ?_))); done)) | (focus ((repeat (first | (focus ((with_reducible refine nin_simH (by assumption) ?_); (repeat (first | (with_reducible exact sim_refl _) | (with_reducible refine sim_more ?_ _ _ _) | (with_reducible refine sim_put ?_ _ _ _) | (with_reducible refine sim_alloc ?_ _) | (with_reducible refine sim_drewL ?_) | (with_reducible refine sim_drewR ?_))); done)) | (with_reducible refine nin_more _ _ ?_) | (with_reducible refine nin_alloc _ ?_) | (with_reducible refine nin_drew ?_))); done)))
          obtain ⟨hbx, ⟨n1, pa, ca, pb, cb, pd, cd, rfl, hX1, hA1, hG1, hD1⟩, ⟨n2, pa2, ca2, pb2, cb2, pd2, cd2, rfl, hX2, hA2, hG2, hD2⟩⟩ := hcut
          obtain ⟨wx, rfl⟩ : ∃ wx : World, wx = wc := ⟨_, rfl⟩
          have HSM := Lib.hid (fun W (hW : Below wx.heap.size wx W) => same15 _ _ _ _ _ _ oL gL dN W (hA1.keep hW) (hG1.keep hW) (hD1.keep hW) (hA2.keep hW) (hG2.keep hW) (hD2.keep hW))
          have x0 := hX1.2 0; simp at x0; have y0 := hX2.2 0; simp at y0; have x1 := hX1.2 1; simp at x1; have y1 := hX2.2 1; simp at y1; have x2 := hX1.2 2; simp at x2; have y2 := hX2.2 2; simp at y2
          have s1 := hX1.1; have s2 := hX2.1
          obtain ⟨z0, z1, z2⟩ := ltz s1
          obtain ⟨z3, z4, z5⟩ := ltz s2
          have HBX := Lib.hid (HB7.out.trans (hbx.mono HB7.out.size))
          clear hA1 hA2 hG1 hG2 hD1 hD2 hX1 hX2 hbx q7 q8 q9 q10 f0 f1 f2
          go_wp2_with (first | (go_at_call 47; refine (HSM.out _ (by repeat' (first | (with_reducible exact Below.refl _ _) | (with_reducible assumption) | (with_reducible refine below_drewN ?_ _) | (with_reducible refine below_more _ _ _ ?_ ?_) | (with_reducible refine Below.alloc ?_ ?_ _) | (with_reducible refine Below.drew ?_) | (with_reducible refine Below.setCell ?_ ?_ _) | go_size))).mono ?_; rintro e w' ⟨rfl, hb⟩; obtain ⟨d5, os5, rfl⟩ := more_of hb; clear hb) | (go_at_call 45; refine (ha _).mono ?_; rintro e w' ⟨rfl, hb⟩; obtain ⟨d, os, rfl⟩ := more_of hb; clear hb))
          go_ret
          exact ⟨rfl, HBX.out.trans (Below.mono (B := wx.heap.size) (by repeat' (first | (with_reducible exact Below.refl _ _) | (with_reducible assumption) | (with_reducible refine below_drewN ?_ _) | (with_reducible refine below_more _ _ _ ?_ ?_) | (with_reducible refine Below.alloc ?_ ?_ _) | (with_reducible refine Below.drew ?_) | (with_reducible refine Below.setCell ?_ ?_ _) | go_size)) HBX.out.size)⟩
        · obtain rfl : j = (t : Int) := by omega
          have t2 : (0 : Int) ≤ (t : Int) := by omega
          have t3 : (t : Int) < (near4.length : Int) := by omega
          clear hj
          obtain ⟨x0, hx0⟩ : ∃ x0, near4[t]? = some x0 := ⟨_, List.getElem?_eq_getElem (by omega)⟩
          have hnt := negTo_at hx0
          have hln2 := negTo_len near4 (t + 1)
          obtain ⟨gb, ob, cb', hv, hgb, hcb⟩ := HP.out.pb.b.bin.cells hnt
          rw [hln2] at hv
          simp only [Value.slice.injEq, true_and] at hv
          obtain ⟨rfl, rfl⟩ := hv
          obtain ⟨⟨u9, hu9⟩, hf9, _, hT9⟩ := bnew_setPw HP.out.pb.b hln2 hnt (max 0 x0.pw)
          have hP2 := HP.out.setPw hln2 hnt (max 0 x0.pw)
          rw [show ({ x0 with pw := max 0 x0.pw } : Bun) = noneg x0 from rfl, ← negTo_set hx0] at hP2
          have HP2 := Lib.hid hP2
          have HRS := Lib.hid (show ((near4.drop t).map noneg).reverse = ((near4.drop (t + 1)).map noneg).reverse ++ [noneg x0] from by
            rw [← List.map_reverse, rev_step hx0, List.map_append, ← List.map_reverse]; rfl)
          have hal : ((near4.drop (t + 1)).map noneg).reverse.length ≤ 40 := by rw [List.length_reverse, List.length_map, List.length_drop]; omega
          have y9 := hcb 9 _ rfl
          obtain ⟨e0, e1, e2⟩ := ltz hgb
          simp only [← Nat.add_assoc] at hu9 hf9 hP2
          have hn6 : (negTo near4 t)[t]? = some (noneg x0) := by rw [negTo_set hx0]; exact List.getElem?_set_self (by rw [hln2]; omega)
          have hln6 := negTo_len near4 t
          clear hnt hcb HP2 hT9 hx0 HP HT3
          go_upto_region 14 with fail
          generalize wb.setCell ⟨gb, ob + t * 11 + 9, none⟩ (.int .i64 (max 0 x0.pw)) = w6 at *
          obtain ⟨gb', ob', cb'', hv, hgb6, hcb6⟩ := hP2.pb.b.bin.cells hn6
          rw [hln6] at hv
          simp only [Value.slice.injEq, Option.some.injEq, Addr.mk.injEq, and_true, true_and] at hv
          obtain ⟨⟨rfl, rfl⟩, rfl⟩ := hv
          have HP6 := Lib.hid hP2
          clear hu9 hf9 y9 e0 e1 e2 hP2 hn6 hln6 hln2 hgb
          have y0 := hcb6 0 _ rfl; have y1 := hcb6 1 _ rfl; have y2 := hcb6 2 _ rfl; have y3 := hcb6 3 _ rfl; have y4 := hcb6 4 _ rfl; have y5 := hcb6 5 _ rfl; have y6 := hcb6 6 _ rfl; have y7 := hcb6 7 _ rfl; have y8 := hcb6 8 _ rfl; have y9 := hcb6 9 _ rfl; have y10 := hcb6 10 _ rfl
          simp only [Nat.add_zero] at y0
          obtain ⟨e0, e1, e2⟩ := ltz hgb6
          clear hcb6
          generalize ((near4.drop (t + 1)).map noneg).reverse = acc at *
          generalize noneg x0 = x1 at *
          obtain ⟨s, i, g, m, x, y, vx, vy, hp, pw, lf⟩ := x1
          simp only at y0 y1 y2 y3 y4 y5 y6 y7 y8 y9 y10
          go_wp2_with (at_builtin; refine wpList_append_sl _ (by rfl) _ _ 24 (by rfl) 41 i0 _ 11 88 Try.underlying24 hi0 hz0 hz1 hz2 rfl (by omega) _ acc.length (bunCells acc) (by rfl) (HP6.out.pb.a.grow (by repeat' (first | (with_reducible exact Below.refl _ _) | (with_reducible assumption) | (with_reducible refine below_drewN ?_ _) | (with_reducible refine below_more _ _ _ ?_ ?_) | (with_reducible refine Below.alloc ?_ ?_ _) | (with_reducible refine Below.drew ?_) | (with_reducible refine Below.setCell ?_ ?_ _) | go_size))).1 ⟨_, 0, none⟩ 1 1 (bunL ⟨s, i, g, m, x, y, vx, vy, hp, pw, lf⟩) (by rfl) (by rfl) (new_cellsN _ _ _ _ (by simp)) (bunL_one _) (by omega) (by unfold maxLen; omega) (by omega) ?_; intro v' w6 hs6 ht6 ho6)
          have hm := (HP6.out.grow (by repeat' (first | (with_reducible exact Below.refl _ _) | (with_reducible assumption) | (with_reducible refine below_drewN ?_ _) | (with_reducible refine below_more _ _ _ ?_ ?_) | (with_reducible refine Below.alloc ?_ ?_ _) | (with_reducible refine Below.drew ?_) | (with_reducible refine Below.setCell ?_ ?_ _) | go_size))).app1 hs6 ht6 ho6
          have HM := Lib.hid hm
          clear hs6 ht6 ho6 hm
          go_roundg t
          case measure => omega
          case rel => exact ⟨t, _, by go_num, rfl, by omega, by omega, Lib.hid (by rw [HRS.out]; exact HM.out)⟩
    · obtain rfl : j = (t : Int) := by omega
      have t1 : (0 : Int) ≤ (t : Int) := by omega
      clear hj
      obtain ⟨x0, hx0⟩ : ∃ x0, l0[t]? = some x0 := ⟨_, List.getElem?_eq_getElem (by omega)⟩
      obtain ⟨gb, ob, cb', hv, hgb, hcb⟩ := (HL3.out.keep HP.out.a.2.1).cells hx0
      simp only [Value.slice.injEq, true_and] at hv
      obtain ⟨rfl, rfl⟩ := hv
      have y0 := hcb 0 _ rfl; have y1 := hcb 1 _ rfl; have y2 := hcb 2 _ rfl; have y3 := hcb 3 _ rfl; have y4 := hcb 4 _ rfl; have y5 := hcb 5 _ rfl; have y6 := hcb 6 _ rfl; have y7 := hcb 7 _ rfl; have y8 := hcb 8 _ rfl; have y9 := hcb 9 _ rfl; have y10 := hcb 10 _ rfl
      simp only [Nat.add_zero] at y0
      obtain ⟨e0, e1, e2⟩ := ltz hgb
      have HRS := Lib.hid (rev_step hx0)
      clear hcb hx0
      have hal : (l0.drop (t + 1)).reverse.length ≤ 60 := by rw [List.length_reverse, List.length_drop]; omega
      generalize (l0.drop (t + 1)).reverse = acc at *
      obtain ⟨s, i, g, m, x, y, vx, vy, hp, pw, lf⟩ := x0
      simp only at y0 y1 y2 y3 y4 y5 y6 y7 y8 y9 y10
      go_wp2_with (at_builtin; refine wpList_append_sl _ (by rfl) _ _ 24 (by rfl) 41 i0 _ 11 88 Try.underlying24 hi0 hz0 hz1 hz2 rfl (by omega) _ acc.length (bunCells acc) (by rfl) (HP.out.a.grow (by repeat' (first | (with_reducible exact Below.refl _ _) | (with_reducible assumption) | (with_reducible refine below_drewN ?_ _) | (with_reducible refine below_more _ _ _ ?_ ?_) | (with_reducible refine Below.alloc ?_ ?_ _) | (with_reducible refine Below.drew ?_) | (with_reducible refine Below.setCell ?_ ?_ _) | go_size))).1 ⟨_, 0, none⟩ 1 1 (bunL ⟨s, i, g, m, x, y, vx, vy, hp, pw, lf⟩) (by rfl) (by rfl) (new_cellsN _ _ _ _ (by simp)) (bunL_one _) (by omega) (by unfold maxLen; omega) (by omega) ?_; intro v' w6 hs6 ht6 ho6)
      have hm := (HP.out.grow (by repeat' (first | (with_reducible exact Below.refl _ _) | (with_reducible assumption) | (with_reducible refine below_drewN ?_ _) | (with_reducible refine below_more _ _ _ ?_ ?_) | (with_reducible refine Below.alloc ?_ ?_ _) | (with_reducible refine Below.drew ?_) | (with_reducible refine Below.setCell ?_ ?_ _) | go_size))).app1 hs6 ht6 ho6
      have HM := Lib.hid hm
      clear hs6 ht6 ho6 hm
      go_roundg t
      case measure => omega
      case rel => exact ⟨t, _, by go_num, rfl, by omega, by omega, Lib.hid (by rw [HRS.out]; exact HM.out)⟩
set_option maxRecDepth 100000 in
theorem lifted (os : Os) (started : os.Started) (H : Type) (enc : TypeId × Value → H) :
    ReturnsInHanded {} Try.checked os 11 .any (Rows.tickOrderSpec.pre6 enc Try.prog Try.f11 Rows.tickOrderRow.domain false) (Rows.tickOrderSpec.post enc Try.prog Try.f11 false true false false) := by
  refine returnsInHanded_of_change (C := Try.checked) ownKnob0 started (by kernel_rfl) Try.func11
    (ChangeSpec.witness6 (enc := enc) (C := Try.checked) false ⟨#[], #[.agg #[.int .i64 0, .int .i64 0, .int .i64 0, .int .i64 0, .int .i64 0, .int .i64 0, .int .i64 0, .int .i64 0, .slice none 0 0, .slice none 0 0, .slice none 0 0]], []⟩ 8 (by kernel_rfl) (by kernel_rfl) (by kernel_rfl) (by kernel_rfl)) ?_
  intro W base args ds gs before hval0 hW _ _
  have hval : ∀ (j : Nat) t v, Try.f11.params[j]? = some t → args[j]? = some v → Value.okWide Try.prog W .any base t v := hval0
  have hread : ∀ t ∈ Try.f11.params.toList, Try.prog.readableRec t = true ∧ t < Try.prog.types.size := by
    rw [Try.params11]
    intro t ht
    simp only [List.mem_cons, List.not_mem_nil, or_false] at ht
    rcases ht with rfl
    all_goals exact ⟨by kernel_rfl, of_decide_eq_true (by kernel_rfl)⟩
  have hW' := hW
  obtain ⟨p, q, hA0, hV, -, -⟩ := hW'
  have hA : DataW.TrodAll enc Try.prog W 0 (fun _ => true) true Try.f11.params.toList args.toList ds p := hA0
  rw [Try.params11] at hA hval
  obtain ⟨v0, vs0, d0, ds0, p0, q0, hargs, rfl, rfl, h0, r0⟩ := trodAll_cons hA
  obtain ⟨rfl, rfl, rfl⟩ := trodAll_nil r0
  obtain rfl : args = #[v0] := by cases args; simp_all
  obtain ⟨rfl, rfl⟩ := trodVars_none hV
  have k0 := hval 0 87 v0 rfl rfl
  clear hval hval0 hA0 hV hA
  obtain ⟨cc, fuel0, rfl, g0⟩ := agg_of Try.underlying87 k0 h0
  obtain ⟨zcols, zrows, zside, zradius, zspeed, zids, zqueue, zz, po, pn, pc, eo, en, ec, own, near, ms, e0, b1, b2, b3, y1, y2, y3, _⟩ := read_case15 g0
  subst e0
  exact (walk _ _ _ _ _ _ _ _ po pn pc eo en ec own near ms W b1 b2 b3 y1 y2 y3).mono fun e W' ⟨he, hb⟩ => ⟨_, he, post_true rfl rfl hread rfl hW hb⟩

/-- TickOrder: true for every input; the arguments stay. -/
theorem proved : Rows.TickOrderSaid :=
  OpenClaim.holds_of_wide 11 Try.f11 rfl rfl rfl rfl rfl rfl rfl ⟨rfl, rfl, rfl, rfl, rfl⟩ rfl rfl rfl rfl rfl (by kernel_rfl) Try.func11 (by kernel_rfl)
    (of_decide_eq_true (by kernel_rfl)) (by unfold Func.isWrapper; first | (rw [if_pos (by decide +kernel)]; kernel_rfl) | (rw [if_neg (by decide +kernel)]; exact ⟨rfl, rfl⟩))
    (fun os started H enc _ => lifted os started H enc)
end Go.Proofs.Ytcnclcfipabimaa.tickOrder
