/-
  GhostsTick: for every world, entities and commands the law returns true, and the arguments stay as they were. No condition.
-/
import Derived.Test.YtcnclcfipabimaaMtl
import Derived.Test.YtcnclcfipabimaaLiv
import Derived.Test.YtcnclcfipabimaaMtg
import Derived.Test.YtcnclcfipabimaaTkM
import Derived.Test.YtcnclcfipabimaaOrd
import Derived.Test.YtcnclcfipabimaaMgd
import Derived.Test.YtcnclcfipabimaaSyF
import Derived.Test.YtcnclcfipabimaaRdC
import Derived.Test.YtcnclcfipabimaaMsn
import Derived.Test.YtcnclcfipabimaaRdM
namespace Go.Proofs.Ytcnclcfipabimaa.ghostsTick
open Go.ChangeShapes Go.WideShapes Go.ChangeAt Go.RowKit


set_option maxRecDepth 100000 in
set_option maxHeartbeats 4000000 in
theorem walk (cols rows side radius speed ids queue : Int) (v vc : Value) (l : List Bun) (ms : List Cm) (w : World) (hl : BIn w v l) (hbf : ∀ b ∈ l, BFit b) (hm : RIn cmC w vc ms) (hcf : ∀ m ∈ ms, CmFit m) :
    Calls Try.prog 6 #[.agg #[.int .i64 cols, .int .i64 rows, .int .i64 side, .int .i64 radius, .int .i64 speed, .int .i64 ids, .int .i64 queue], v, vc] w fun e w' => e = .returned (.bool true) ∧ Below w.heap.size w w' := by
  have HMay := Lib.hid (fun W => may_any cols rows side radius speed ids queue W)
  have ho := mayF_ok ⟨cols, rows, side, radius, speed, ids, queue⟩
  generalize mayF ⟨cols, rows, side, radius, speed, ids, queue⟩ = d at *
  obtain ⟨dcols, drows, dside, dradius, dspeed, dids, dqueue⟩ := d
  have HO := Lib.hid ho
  have hf : ∀ b ∈ l, MFit b := fun b hb => ⟨(hbf b hb).2.2.2.1.1, (hbf b hb).2.2.2.1.2⟩
  have HLV := Lib.hid (fun W (hW : Below w.heap.size w W) => living_any dcols drows dside dradius dspeed dids dqueue v l W ho (hl.keep hW) hf)
  have HLF := Lib.hid (livF_fit ho hbf)
  have HLI := Lib.hid (livF_in ho l)
  have HLU := Lib.hid (livF_un ⟨dcols, drows, dside, dradius, dspeed, dids, dqueue⟩ l)
  have HLM := Lib.hid (livF_may ⟨dcols, drows, dside, dradius, dspeed, dids, dqueue⟩ l)
  have hln := livF_len ⟨dcols, drows, dside, dradius, dspeed, dids, dqueue⟩ l
  have HRUN := Lib.hid (fun (k : Int) h0 h1 mq hm hml vo vn vc W => run_two dcols drows dside dradius dspeed dids dqueue k l mq ho h0 h1 (livF_fit ho hbf) hm hml (livF_len ⟨dcols, drows, dside, dradius, dspeed, dids, dqueue⟩ l) vo vn vc W)
  generalize livF ⟨dcols, drows, dside, dradius, dspeed, dids, dqueue⟩ l = l0 at *
  obtain ⟨q1, q2⟩ := ho.cnt
  simp only at q1 q2
  obtain ⟨cnt, hcnt⟩ : ∃ cnt : Nat, dcols * drows = (cnt : Int) := ⟨(dcols * drows).toNat, by omega⟩
  have hcn : cnt ≤ 16 := by omega
  have v1 : IntKind.i64.wrap (dcols * drows) = (cnt : Int) := by rw [hcnt, IntKind.wrap_i64]; omega
  have HCNT := Lib.hid hcnt
  have HMI := Lib.hid hm; have HCF := Lib.hid hcf
  obtain ⟨pcm, ecm, rfl, _⟩ := hm
  clear ho hl hf hbf hcf hcnt q1 q2
  obtain ⟨i0, hi0, hz0, hz1, hz2⟩ := info_parts info_bunJ
  go_enter Try.func6, Try.ntmps6
  go_wp2_with (go_at_call 17; refine (HMay.out _).mono ?_; rintro e w' ⟨rfl, hb⟩; obtain ⟨d, os, rfl⟩ := more_of hb; clear hb)
  refine (znew_ok dcols drows dside dradius dspeed dids dqueue _ HO.out).mono ?_
  rintro e w2 ⟨b, rfl, hb2, hmap, hbb⟩
  have cC : ∀ j, w2.cell? ⟨w.heap.size, j, none⟩ = (#[.int .i64 dcols, .int .i64 drows, .int .i64 dside, .int .i64 dradius, .int .i64 dspeed, .int .i64 dids, .int .i64 dqueue] : Array Value)[j]? := fun j => by rw [hb2.cell (by simp; omega)]; simp [go_sem]
  have l1 : w.heap.size < w2.heap.size := by have := hb2.size; simp at this; omega
  have hb2w : Below w.heap.size w w2 := Below.trans (Below.mono (B := w.heap.size) (by repeat' (first | (with_reducible exact Below.refl _ _) | (with_reducible assumption) | (with_reducible refine below_drewN ?_ _) | (with_reducible refine below_more _ _ _ ?_ ?_) | (with_reducible refine Below.alloc ?_ ?_ _) | (with_reducible refine Below.drew ?_) | (with_reducible refine Below.setCell ?_ ?_ _) | go_size)) (Nat.le_refl _)) (hb2.mono (by simp; omega))
  have HB2 := Lib.hid hb2w
  have HMP := Lib.hid hmap
  have CC2 := Lib.hid cC
  have q0 := cC 0; simp at q0; have q1 := cC 1; simp at q1; have q2 := cC 2; simp at q2; have q3 := cC 3; simp at q3; have q4 := cC 4; simp at q4; have q5 := cC 5; simp at q5; have q6 := cC 6; simp at q6
  clear hb2 hmap hb2w hbb cC
  go_wp2_with fail
  refine (HLV.out _ HB2.out).mono ?_
  rintro e w3 ⟨vl, rfl, hN⟩
  obtain ⟨pl, cl, rfl⟩ := sl_frm hN.1
  have hb3 := hN.2.1
  have HL3 := Lib.hid hN.bin
  have HM3 := Lib.hid (HMP.out.grow hb3)
  have HB3 := Lib.hid (HB2.out.trans (hb3.mono HB2.out.size))
  have CC3 := Lib.hid (box_on hb3 l1 CC2.out)
  have l3 : w.heap.size < w3.heap.size := by have := hb3.size; omega
  clear hN hb3 CC2 HMP HB2 HLV l1 q0 q1 q2 q3 q4 q5 q6
  go_wp2_with fail
  refine (orders_any _ _ l0 ms w3 HL3.out (HMI.out.keep HB3.out) HCF.out).mono ?_
  rintro e w4 ⟨vq, rfl, hQ⟩
  obtain ⟨pq, cq, rfl⟩ := sl_frm hQ.1
  have HQL := Lib.hid (ordF_mem l0 CmFit ms HCF.out)
  have hql := ordF_len l0 ms
  generalize ordF l0 ms = mq at *
  have hb4 := hQ.2.1
  have HQ4 := Lib.hid hQ.rin
  have HL4 := Lib.hid (HL3.out.keep hb4)
  have HM4 := Lib.hid (HM3.out.grow hb4)
  have HB4 := Lib.hid (HB3.out.trans (hb4.mono HB3.out.size))
  have CC4 := Lib.hid (box_on hb4 l3 CC3.out)
  have l4 : w.heap.size < w4.heap.size := Nat.lt_of_lt_of_le l3 hb4.size
  clear hQ hb4 HL3 HM3 HB3 CC3 l3
  go_wp2_with fail
  go_loopg [9] cnt (fun kx sx wr => ∃ k : Nat, sx = .int .i64 k ∧ k ≤ cnt ∧ cnt - k ≤ kx ∧ Hid (Below w4.heap.size w4 wr))
  case atStart => exact ⟨0, by go_num, by omega, by omega, Lib.hid (Below.refl _ _)⟩
  case round =>
    obtain ⟨k, rfl, hk, hkx, HK⟩ := hrel
    obtain ⟨wa, rfl⟩ : ∃ wa : World, wa = wr := ⟨_, rfl⟩
    have CA := Lib.hid (box_on HK.out l4 CC4.out)
    have HLA := Lib.hid (HL4.out.keep HK.out)
    have HMA := Lib.hid (HM4.out.grow HK.out)
    have la : w.heap.size < wa.heap.size := Nat.lt_of_lt_of_le l4 HK.out.size
    obtain ⟨f0, f1, f2⟩ := ltz la
    have q0 := CA.out 0; simp at q0; have q1 := CA.out 1; simp at q1; have q2 := CA.out 2; simp at q2; have q3 := CA.out 3; simp at q3; have q4 := CA.out 4; simp at q4; have q5 := CA.out 5; simp at q5; have q6 := CA.out 6; simp at q6
    by_cases hlt : k < cnt
    · have t1 : (k : Int) < (cnt : Int) := by omega
      have hk0 : (0 : Int) ≤ (k : Int) := by omega
      have hk1 : (k : Int) < dcols * drows := by rw [HCNT.out]; omega
      have HT := Lib.hid (told_any b dcols drows dside dradius dspeed dids dqueue k 2 _ l0 wa HMA.out HO.out hk0 hk1 HLA.out (by omega))
      clear hk1
      go_wp2_with fail
      refine HT.out.mono ?_
      rintro e w' ⟨po, no, co, pg, ng, cg, Lg, rfl, hb, hT1, hT2, hT3, hT4, hT5⟩
      obtain ⟨d1, os1, rfl⟩ := more_of hb
      clear HT hb
      go_upto_region 11 with fail
      obtain ⟨k8, g8, s8, b8⟩ := new_box (more wa d1 os1) #[.int .i64 0, .int .i64 2, .slice po no co, .slice none 0 0, .slice none 0 0, .slice none 0 0, .slice pg ng cg, .int .i64 0] 46 (wa.heap.size + os1.size) (by simp)
      have hb8 : Below wa.heap.size wa ((more wa d1 os1).alloc (.cells #[.int .i64 0, .int .i64 2, .slice po no co, .slice none 0 0, .slice none 0 0, .slice none 0 0, .slice pg ng cg, .int .i64 0] 46)) := (by repeat' (first | (with_reducible exact Below.refl _ _) | (with_reducible assumption) | (with_reducible refine below_drewN ?_ _) | (with_reducible refine below_more _ _ _ ?_ ?_) | (with_reducible refine Below.alloc ?_ ?_ _) | (with_reducible refine Below.drew ?_) | (with_reducible refine Below.setCell ?_ ?_ _) | go_size))
      have hT1' := hT1.keep b8
      have hT2' := hT2.keep b8
      have hT4' := hT4.keep b8
      have hnr : nearG Lg ((⟨0, 2, po, no, co, none, 0, 0, none, 0, 0, none, 0, 0, pg, ng, cg, 0⟩ : Sta)).t (blZ ⟨dcols, drows, dside, dradius, dspeed, dids, dqueue⟩ k l0) = stableF cmpBun (saysF ⟨dcols, drows, dside, dradius, dspeed, dids, dqueue⟩ k l0 (besideF ⟨dcols, drows, dside, dradius, dspeed, dids, dqueue⟩ k)) := hT5
      generalize ((more wa d1 os1).alloc (.cells #[.int .i64 0, .int .i64 2, .slice po no co, .slice none 0 0, .slice none 0 0, .slice none 0 0, .slice pg ng cg, .int .i64 0] 46)) = w5 at *
      have HNR := Lib.hid (fun W (hW : Below w5.heap.size w5 W) => gnear_any (⟨0, 2, po, no, co, none, 0, 0, none, 0, 0, none, 0, 0, pg, ng, cg, 0⟩ : Sta) Lg (blZ ⟨dcols, drows, dside, dradius, dspeed, dids, dqueue⟩ k l0) W (hT2'.keep hW) (hT4'.keep hW) (by omega))
      rw [hnr] at HNR
      have HOWN := Lib.hid hT1'
      have HRN := Lib.hid (fun vo vn vc W => HRUN.out k hk0 (by rw [HCNT.out]; omega) mq (fun m hm => (HQL.out m hm).1) (by omega) vo vn vc W)
      generalize wa.heap.size + os1.size = n8 at *
      have HOF := Lib.hid (fun x y W => rof_any dcols drows dside dradius dspeed dids dqueue x y W HO.out)
      have hfb : ∀ b : Bun, (fun b : Bun => !(ofF ⟨dcols, drows, dside, dradius, dspeed, dids, dqueue⟩ b.x b.y == (k : Int))) b = !(ofF ⟨dcols, drows, dside, dradius, dspeed, dids, dqueue⟩ b.x b.y == (k : Int)) := fun b => rfl
      have hot : othF ⟨dcols, drows, dside, dradius, dspeed, dids, dqueue⟩ k l0 = l0.filter fun b => !(ofF ⟨dcols, drows, dside, dradius, dspeed, dids, dqueue⟩ b.x b.y == (k : Int)) := rfl
      rw [hot] at HRN
      generalize stableF cmpBun (saysF ⟨dcols, drows, dside, dradius, dspeed, dids, dqueue⟩ k l0 (besideF ⟨dcols, drows, dside, dradius, dspeed, dids, dqueue⟩ k)) = nrl at *
      generalize (fun b : Bun => !(ofF ⟨dcols, drows, dside, dradius, dspeed, dids, dqueue⟩ b.x b.y == (k : Int))) = fb at *
      generalize stableF cmpBun (partF ⟨dcols, drows, dside, dradius, dspeed, dids, dqueue⟩ k l0) = owl at *
      generalize ownL ⟨dcols, drows, dside, dradius, dspeed, dids, dqueue⟩ k owl (l0.filter fb) mq = oL at *
      generalize goneL ⟨dcols, drows, dside, dradius, dspeed, dids, dqueue⟩ k owl (l0.filter fb) mq = gL at *
      generalize setN (deadN ⟨dcols, drows, dside, dradius, dspeed, dids, dqueue⟩ k owl (l0.filter fb) mq) = dN at *
      generalize ofF ⟨dcols, drows, dside, dradius, dspeed, dids, dqueue⟩ = of at *
      have HFB := Lib.hid hfb
      clear hfb hot hT1 hT2 hT3 hT4 hT5 hT1' hT2' hT4' hnr b8 g8 q0 q1 q2 q3 q4 q5 q6 f0 f1 f2 hk0
      have HB8 := Lib.hid hb8
      have K8 := Lib.hid k8
      have K8L := Lib.hid s8
      have HK5 := Lib.hid (HK.out.trans (hb8.mono HK.out.size))
      have CA5 := Lib.hid (box_on hb8 la CA.out)
      have l5 : w.heap.size < w5.heap.size := Nat.lt_of_lt_of_le la hb8.size
      have HL5 := Lib.hid (HLA.out.keep hb8)
      clear hb8 k8 CA HLA HMA la
      go_wp2_with fail
      go_loopg [12, 13] l0.length (fun kx o sx wr => ∃ t : Nat, sx = .int .i64 t ∧ t ≤ l0.length ∧ l0.length - t ≤ kx ∧ Hid (BNew w5 wr o ((l0.take t).filter fb)) ∧ Hid (((l0.take t).filter fb).length ≤ t))
      case atStart => exact ⟨0, by go_num, by omega, by omega, Lib.hid (BNew.nil w5), Lib.hid (Nat.le_refl _)⟩
      case round =>
        obtain ⟨t, rfl, ht, hkx2, HN, HNL⟩ := hrel
        obtain ⟨wb, rfl⟩ : ∃ wb : World, wb = wr := ⟨_, rfl⟩
        have hbl := HN.out.2.1
        have lb : w.heap.size < wb.heap.size := Nat.lt_of_lt_of_le l5 hbl.size
        obtain ⟨f0, f1, f2⟩ := ltz lb
        have CB := Lib.hid (box_on hbl l5 CA5.out)
        have HBL := Lib.hid hbl
        clear hbl
        by_cases hlt2 : t < l0.length
        · have t2 : (t : Int) < (l0.length : Int) := by omega
          obtain ⟨x0, hx0⟩ : ∃ x0, l0[t]? = some x0 := ⟨_, List.getElem?_eq_getElem hlt2⟩
          obtain ⟨gb, ob, cb, hv, hgb, hcb⟩ := (HL5.out.keep HBL.out).cells hx0
          simp only [Value.slice.injEq, true_and] at hv
          obtain ⟨rfl, rfl⟩ := hv
          have c0 := hcb 0 _ rfl; have c1 := hcb 1 _ rfl; have c2 := hcb 2 _ rfl; have c3 := hcb 3 _ rfl; have c4 := hcb 4 _ rfl; have c5 := hcb 5 _ rfl; have c6 := hcb 6 _ rfl; have c7 := hcb 7 _ rfl; have c8 := hcb 8 _ rfl; have c9 := hcb 9 _ rfl; have c10 := hcb 10 _ rfl
          simp only [Nat.add_zero] at c0
          obtain ⟨e0, e1, e2⟩ := ltz hgb
          have q0 := CB.out 0; simp at q0; have q1 := CB.out 1; simp at q1; have q2 := CB.out 2; simp at q2; have q3 := CB.out 3; simp at q3; have q4 := CB.out 4; simp at q4; have q5 := CB.out 5; simp at q5; have q6 := CB.out 6; simp at q6
          obtain ⟨po', co', hpo⟩ := sl_frm HN.out.1
          subst hpo
          have hstep := filter_step fb hx0
          have HST := Lib.hid hstep
          have hfx := HFB.out x0
          have HOX := Lib.hid (HOF.out x0.x x0.y)
          generalize of x0.x x0.y = oz at *
          clear hcb hx0 hstep
          generalize hacc : (l0.take t).filter fb = acc at *
          have hal := HNL.out
          clear hacc HNL
          obtain ⟨s, i, g, m, x, y, vx, vy, hp, pw, lf⟩ := x0
          simp only at HOX hfx c0 c1 c2 c3 c4 c5 c6 c7 c8 c9 c10
          cases h1 : (oz == (k : Int)) with
          | true =>
            have hne : (oz != (k : Int)) = false := by simpa using h1
            rw [h1] at hfx
            rw [show fb ⟨s, i, g, m, x, y, vx, vy, hp, pw, lf⟩ = false by rw [hfx]; rfl] at HST
            have HS2 := Lib.hid HST.out
            clear hfx HST
            go_wp2_with fail
            refine wp_region_more (by kernel_rfl) (by kernel_rfl) ?_
            repeat (go_big_quiet_step ((first | (go_at_call 36; exact more_call (HOX.out _)))))
            refine wpQuiet_nil ?_
            rintro _ ⟨pq1, rfl⟩
            go_wp2_with fail
            go_roundg (l0.length - (t + 1))
            case measure => omega
            case rel => exact ⟨t + 1, by go_num, by omega, by omega, Lib.hid (by rw [HS2.out]; simpa using HN.out.grow (by repeat' (first | (with_reducible exact Below.refl _ _) | (with_reducible assumption) | (with_reducible refine below_drewN ?_ _) | (with_reducible refine below_more _ _ _ ?_ ?_) | (with_reducible refine Below.alloc ?_ ?_ _) | (with_reducible refine Below.drew ?_) | (with_reducible refine Below.setCell ?_ ?_ _) | go_size))), Lib.hid (by rw [HS2.out]; simp; omega)⟩
          | false =>
            have hne : (oz != (k : Int)) = true := by simpa using h1
            rw [h1] at hfx
            rw [show fb ⟨s, i, g, m, x, y, vx, vy, hp, pw, lf⟩ = true by rw [hfx]; rfl] at HST
            have HS2 := Lib.hid HST.out
            clear hfx HST
            go_wp2_with fail
            refine wp_region_more (by kernel_rfl) (by kernel_rfl) ?_
            repeat (go_big_quiet_step ((first | (go_at_call 36; exact more_call (HOX.out _)))))
            refine wpQuiet_nil ?_
            rintro _ ⟨pq1, rfl⟩
            go_wp2_with (at_builtin; refine wpList_append_sl _ (by rfl) _ _ 24 (by rfl) 41 i0 _ 11 88 Try.underlying24 hi0 hz0 hz1 hz2 rfl (by omega) _ acc.length (bunCells acc) (by rfl) (HN.out.grow (by repeat' (first | (with_reducible exact Below.refl _ _) | (with_reducible assumption) | (with_reducible refine below_drewN ?_ _) | (with_reducible refine below_more _ _ _ ?_ ?_) | (with_reducible refine Below.alloc ?_ ?_ _) | (with_reducible refine Below.drew ?_) | (with_reducible refine Below.setCell ?_ ?_ _) | go_size))).1 ⟨_, 0, none⟩ 1 1 (bunL ⟨s, i, g, m, x, y, vx, vy, hp, pw, lf⟩) (by rfl) (by rfl) (new_cellsN _ _ _ _ (by simp)) (bunL_one _) (by omega) (by unfold maxLen; omega) (by omega) ?_; intro v' w4 hs4 ht4 ho4)
            have hm := (HN.out.grow (by repeat' (first | (with_reducible exact Below.refl _ _) | (with_reducible assumption) | (with_reducible refine below_drewN ?_ _) | (with_reducible refine below_more _ _ _ ?_ ?_) | (with_reducible refine Below.alloc ?_ ?_ _) | (with_reducible refine Below.drew ?_) | (with_reducible refine Below.setCell ?_ ?_ _) | go_size))).snoc hs4 ht4 ho4
            have HM := Lib.hid hm
            clear hs4 ht4 ho4 hm
            go_roundg (l0.length - (t + 1))
            case measure => omega
            case rel => exact ⟨t + 1, by go_num, by omega, by omega, Lib.hid (by rw [HS2.out]; simpa using HM.out), Lib.hid (by rw [HS2.out]; simp; omega)⟩
        · have t2 : ¬ (t : Int) < (l0.length : Int) := by omega
          obtain rfl : t = l0.length := by omega
          rw [List.take_length] at HN HNL
          obtain ⟨po', co', hpo⟩ := sl_frm HN.out.1
          subst hpo
          have q0 := CB.out 0; simp at q0; have q1 := CB.out 1; simp at q1; have q2 := CB.out 2; simp at q2; have q3 := CB.out 3; simp at q3; have q4 := CB.out 4; simp at q4; have q5 := CB.out 5; simp at q5; have q6 := CB.out 6; simp at q6
          have k8b := box_on HBL.out K8L.out K8.out
          have e0 := k8b 0; simp at e0; have e1 := k8b 1; simp at e1; have e2 := k8b 2; simp at e2; have e3 := k8b 3; simp at e3; have e4 := k8b 4; simp at e4; have e5 := k8b 5; simp at e5; have e6 := k8b 6; simp at e6; have e7 := k8b 7; simp at e7
          have s8 := Nat.lt_of_lt_of_le K8L.out HBL.out.size
          obtain ⟨g0, g1, g2⟩ := ltz s8
          have HNB := Lib.hid (fun W (hW : Below wb.heap.size wb W) => HNR.out W (HBL.out.trans (hW.mono HBL.out.size)))
          have HOB := Lib.hid (HOWN.out.keep HBL.out)
          have HQB := Lib.hid (HQ4.out.keep (HK5.out.trans (HBL.out.mono HK5.out.size)))
          clear k8b
          go_upto_region 17 with fail
          
          
          go_cut [14, 15] (fun s14 s15 wx => Below wb.heap.size wb wx ∧ Rsx wx s14 oL gL dN ∧ Rsx wx s15 oL gL dN)
          case first =>
            go_region_held3 (fun W => (wb).heap.size ≤ W.heap.size ∧ ∀ b o, b < (wb).heap.size → W.cell? ⟨b, o, none⟩ = (wb).cell? ⟨b, o, none⟩) (with_reducible (repeat (first | assumption | exact s_refl _ | exact s_id _ | refine s_more _ _ ?_ | refine s_alloc _ ?_ | refine s_drew ?_))) (first | (go_at_call 28; refine (HNB.out _ (by repeat' (first | (with_reducible exact Below.refl _ _) | (with_reducible assumption) | (with_reducible refine below_drewN ?_ _) | (with_reducible refine below_more _ _ _ ?_ ?_) | (with_reducible refine Below.alloc ?_ ?_ _) | (with_reducible refine Below.drew ?_) | (with_reducible refine Below.setCell ?_ ?_ _) | go_size))).mono ?_; rintro e w' ⟨vn, rfl, hN⟩; obtain ⟨pn, cn, rfl⟩ := sl_frm hN.1; have HNX := hN.bin; have hNb := hN.2.1; clear hN; obtain ⟨d1, os1, rfl⟩ := more_of hNb; clear hNb; (try simp only [more_of_drew] at HNX ⊢); replace HNX := Lib.hid HNX) | (go_at_call 41; refine (HRN.out _ _ _ _ ?_ ?_ ?_).mono ?_; (repeat (first | (with_reducible exact HNX.out) | (with_reducible exact HOB.out) | (with_reducible exact HN.out.bin) | (with_reducible refine bin_more _ _ ?_) | (with_reducible refine bin_alloc _ ?_) | (with_reducible refine bin_drew ?_))); (first | (focus (refine Or.inl ?_; (repeat (first | (with_reducible exact HNX.out) | (with_reducible exact HOB.out) | (with_reducible exact HN.out.bin) | (with_reducible refine bin_more _ _ ?_) | (with_reducible refine bin_alloc _ ?_) | (with_reducible refine bin_drew ?_))); done)) | (focus (refine Or.inr ?_; (repeat (first | (with_reducible exact HNX.out) | (with_reducible exact HOB.out) | (with_reducible exact HN.out.bin) | (with_reducible refine bin_more _ _ ?_) | (with_reducible refine bin_alloc _ ?_) | (with_reducible refine bin_drew ?_))); done))); exact HQB.out.keep (by repeat' (first | (with_reducible exact Below.refl _ _) | (with_reducible assumption) | (with_reducible refine below_drewN ?_ _) | (with_reducible refine below_more _ _ _ ?_ ?_) | (with_reducible refine Below.alloc ?_ ?_ _) | (with_reducible refine Below.drew ?_) | (with_reducible refine Below.setCell ?_ ?_ _) | go_size)); rintro e w' hq; obtain ⟨pa, ca, pb, cb, pd, cd, d2, os2, rfl, rfl, ha, hg, hd⟩ := hq.open; clear hq; replace ha := Lib.hid ha; replace hg := Lib.hid hg; replace hd := Lib.hid hd))
            all_goals (clear q0 q1 q2 q3 q4 q5 q6 e0 e1 e2 e3 e4 e5 e6 e7 f0 f1 f2 g0 g1 g2)
            all_goals (go_wp2_with fail; go_meet)
            all_goals (refine ⟨(by repeat' (first | (with_reducible exact Below.refl _ _) | (with_reducible assumption) | (with_reducible refine below_drewN ?_ _) | (with_reducible refine below_more _ _ _ ?_ ?_) | (with_reducible refine Below.alloc ?_ ?_ _) | (with_reducible refine Below.drew ?_) | (with_reducible refine Below.setCell ?_ ?_ _) | go_size)), ?_, ?_⟩)
            all_goals (apply Rsx.mk rfl)
            all_goals (first | (focus ((repeat (first | (with_reducible refine bxo_more _ _ ?_) | (with_reducible refine bxo_drew ?_) | (focus ((with_reducible refine bxo_new _ _ _ _ ?_); (simp; done))) | (with_reducible refine bxo_alloc _ ?_))); done)) | (focus ((repeat (first | (focus ((with_reducible refine BIn.simH (by assumption) ?_); (repeat (first | (with_reducible exact sim_refl _) | (with_reducible refine sim_more ?_ _ _ _) | (with_reducible refine sim_put ?_ _ _ _) | (with_reducible refine sim_alloc ?_ _) | (with_reducible refine sim_drewL ?_) | (with_reducible refine sim_drewR ?_))); done)) | (with_reducible refine bin_more _ _ ?_) | (with_reducible refine bin_alloc _ ?_) | (with_reducible refine bin_drew ?_))); done)) | (focus ((repeat (first | (focus ((with_reducible refine nin_simH (by assumption) ?_); (repeat (first | (with_reducible exact sim_refl _) | (with_reducible refine sim_more ?_ _ _ _) | (with_reducible refine sim_put ?_ _ _ _) | (with_reducible refine sim_alloc ?_ _) | (with_reducible refine sim_drewL ?_) | (with_reducible refine sim_drewR ?_))); done)) | (with_reducible refine nin_more _ _ ?_) | (with_reducible refine nin_alloc _ ?_) | (with_reducible refine nin_drew ?_))); done)))
          obtain ⟨hbx, ⟨n1, pa, ca, pb, cb, pd, cd, rfl, hX1, hA1, hG1, hD1⟩, ⟨n2, pa2, ca2, pb2, cb2, pd2, cd2, rfl, hX2, hA2, hG2, hD2⟩⟩ := hcut
          obtain ⟨wx, rfl⟩ : ∃ wx : World, wx = wc := ⟨_, rfl⟩
          have HSA := Lib.hid (fun W (hW : Below wx.heap.size wx W) => same_any _ _ oL oL W (hA1.keep hW) (hA2.keep hW))
          have HSG := Lib.hid (fun W (hW : Below wx.heap.size wx W) => same_any _ _ gL gL W (hG1.keep hW) (hG2.keep hW))
          rw [decide_eq_true rfl] at HSA HSG
          have HD1 := Lib.hid hD1; have HD2 := Lib.hid hD2
          have HX1 := Lib.hid hX1; have HX2 := Lib.hid hX2
          have x0 := hX1.2 0; simp at x0; have y0 := hX2.2 0; simp at y0; have x1 := hX1.2 1; simp at x1; have y1 := hX2.2 1; simp at y1; have x2 := hX1.2 2; simp at x2; have y2 := hX2.2 2; simp at y2
          have s1 := hX1.1; have s2 := hX2.1
          obtain ⟨z0, z1, z2⟩ := ltz s1
          obtain ⟨z3, z4, z5⟩ := ltz s2
          have hlen : ((dN.length : Int) != (dN.length : Int)) = false := by simp
          have HBX := Lib.hid (HK5.out.trans ((HBL.out.trans (hbx.mono HBL.out.size)).mono HK5.out.size))
          have l4x := HBX.out.size
          have hdn : dN.length ≤ maxLen := by obtain ⟨_, _, _, h, _⟩ := hD1; exact h
          unfold maxLen at hdn
          clear hA1 hA2 hG1 hG2 hD1 hD2 hX1 hX2 hbx q0 q1 q2 q3 q4 q5 q6 e0 e1 e2 e3 e4 e5 e6 e7 f0 f1 f2 g0 g1 g2
          go_wp2_with fail
          refine (HSA.out _ (by repeat' (first | (with_reducible exact Below.refl _ _) | (with_reducible assumption) | (with_reducible refine below_drewN ?_ _) | (with_reducible refine below_more _ _ _ ?_ ?_) | (with_reducible refine Below.alloc ?_ ?_ _) | (with_reducible refine Below.drew ?_) | (with_reducible refine Below.setCell ?_ ?_ _) | go_size))).mono ?_; rintro e w' ⟨rfl, hb⟩; obtain ⟨d3, os3, rfl⟩ := more_of hb; clear hb
          go_wp2_with fail
          refine (HSG.out _ (by repeat' (first | (with_reducible exact Below.refl _ _) | (with_reducible assumption) | (with_reducible refine below_drewN ?_ _) | (with_reducible refine below_more _ _ _ ?_ ?_) | (with_reducible refine Below.alloc ?_ ?_ _) | (with_reducible refine Below.drew ?_) | (with_reducible refine Below.setCell ?_ ?_ _) | go_size))).mono ?_; rintro e w' ⟨rfl, hb⟩; obtain ⟨d4, os4, rfl⟩ := more_of hb; clear hb
          go_wp2_with fail
          go_loopg [16] dN.length (fun kx sx wr => ∃ t : Nat, sx = .int .i64 t ∧ t ≤ dN.length ∧ dN.length - t ≤ kx ∧ Hid (Below wx.heap.size wx wr))
          case atStart => exact ⟨0, by go_num, by omega, by omega, Lib.hid (by repeat' (first | (with_reducible exact Below.refl _ _) | (with_reducible assumption) | (with_reducible refine below_drewN ?_ _) | (with_reducible refine below_more _ _ _ ?_ ?_) | (with_reducible refine Below.alloc ?_ ?_ _) | (with_reducible refine Below.drew ?_) | (with_reducible refine Below.setCell ?_ ?_ _) | go_size))⟩
          case round =>
            clear x0 x1 x2 y0 y1 y2 z0 z1 z2 z3 z4 z5
            obtain ⟨t, rfl, ht, hkx3, HR⟩ := hrel
            obtain ⟨wd, rfl⟩ : ∃ wd : World, wd = wr := ⟨_, rfl⟩
            have s1' := Nat.lt_of_lt_of_le s1 HR.out.size
            have s2' := Nat.lt_of_lt_of_le s2 HR.out.size
            obtain ⟨z0, z1, z2⟩ := ltz s1'
            obtain ⟨z3, z4, z5⟩ := ltz s2'
            have kx1 := box_on HR.out s1 HX1.out.2
            have kx2 := box_on HR.out s2 HX2.out.2
            have x2 := kx1 2; simp at x2; have y2 := kx2 2; simp at y2
            clear kx1 kx2
            by_cases hlt3 : t < dN.length
            · have t3 : (t : Int) < (dN.length : Int) := by omega
              obtain ⟨d0, hd0⟩ : ∃ d0, dN[t]? = some d0 := ⟨_, List.getElem?_eq_getElem hlt3⟩
              obtain ⟨gb, ob, cb', hv, hgb, hcb⟩ := (HD1.out.keep HR.out).cells nidL_len hd0
              simp only [Value.slice.injEq, true_and] at hv
              obtain ⟨rfl, rfl⟩ := hv
              obtain ⟨gb', ob', cb'', hv, hgb', hcb'⟩ := (HD2.out.keep HR.out).cells nidL_len hd0
              simp only [Value.slice.injEq, true_and] at hv
              obtain ⟨rfl, rfl⟩ := hv
              have c0 := hcb 0 _ rfl; have v0 := hcb' 0 _ rfl; have c1 := hcb 1 _ rfl; have v1 := hcb' 1 _ rfl; have c2 := hcb 2 _ rfl; have v2 := hcb' 2 _ rfl
              simp only [Nat.add_zero] at c0 v0
              have hid : idEq d0.s d0.i d0.g d0.s d0.i d0.g = true := by simp [idEq]
              clear hcb hcb' hd0
              obtain ⟨ds', di', dg'⟩ := d0
              simp only at hid c0 c1 c2 v0 v1 v2
              go_wp2_with fail
              refine wp_region_more (by kernel_rfl) (by kernel_rfl) ?_
              repeat (go_big_quiet_step (fail))
              refine wpQuiet_nil ?_
              rintro _ ⟨pq5, rfl⟩
              go_wp2_with fail
              go_roundg (dN.length - (t + 1))
              case measure => omega
              case rel => exact ⟨t + 1, by go_num, by omega, by omega, Lib.hid (HR.out.trans (Below.mono (B := wd.heap.size) (by repeat' (first | (with_reducible exact Below.refl _ _) | (with_reducible assumption) | (with_reducible refine below_drewN ?_ _) | (with_reducible refine below_more _ _ _ ?_ ?_) | (with_reducible refine Below.alloc ?_ ?_ _) | (with_reducible refine Below.drew ?_) | (with_reducible refine Below.setCell ?_ ?_ _) | go_size)) HR.out.size))⟩
            · have t3 : ¬ (t : Int) < (dN.length : Int) := by omega
              go_wp2_with fail
              go_roundg (cnt - (k + 1))
              case measure => omega
              case rel => exact ⟨k + 1, by go_num, by omega, by omega, Lib.hid (HBX.out.trans ((HR.out.trans (Below.mono (B := wd.heap.size) (by repeat' (first | (with_reducible exact Below.refl _ _) | (with_reducible assumption) | (with_reducible refine below_drewN ?_ _) | (with_reducible refine below_more _ _ _ ?_ ?_) | (with_reducible refine Below.alloc ?_ ?_ _) | (with_reducible refine Below.drew ?_) | (with_reducible refine Below.setCell ?_ ?_ _) | go_size)) HR.out.size)).mono HBX.out.size))⟩
    · have t1 : ¬ (k : Int) < (cnt : Int) := by omega
      obtain rfl : k = cnt := by omega
      go_wp2_with (go_at_call 23; refine (awake22 _).mono ?_; rintro e w' ⟨rfl, hb⟩; obtain ⟨d, os, rfl⟩ := more_of hb; clear hb)
      go_ret
      exact ⟨rfl, HB4.out.trans ((HK.out.trans (Below.mono (B := wa.heap.size) (by repeat' (first | (with_reducible exact Below.refl _ _) | (with_reducible assumption) | (with_reducible refine below_drewN ?_ _) | (with_reducible refine below_more _ _ _ ?_ ?_) | (with_reducible refine Below.alloc ?_ ?_ _) | (with_reducible refine Below.drew ?_) | (with_reducible refine Below.setCell ?_ ?_ _) | go_size)) HK.out.size)).mono HB4.out.size)⟩
set_option maxRecDepth 100000 in
theorem lifted (os : Os) (started : os.Started) (H : Type) (enc : TypeId × Value → H) :
    ReturnsInHanded {} Try.checked os 6 .any (Rows.ghostsTickSpec.pre6 enc Try.prog Try.f6 Rows.ghostsTickRow.domain false) (Rows.ghostsTickSpec.post enc Try.prog Try.f6 false true false false) := by
  refine returnsInHanded_of_change (C := Try.checked) ownKnob0 started (by kernel_rfl) Try.func6
    (ChangeSpec.witness6 (enc := enc) (C := Try.checked) false ⟨#[], #[.agg #[.int .i64 0, .int .i64 0, .int .i64 0, .int .i64 0, .int .i64 0, .int .i64 0, .int .i64 0], .slice none 0 0, .slice none 0 0], []⟩ 8 (by kernel_rfl) (by kernel_rfl) (by kernel_rfl) (by kernel_rfl)) ?_
  intro W base args ds gs before hval0 hW _ _
  have hval : ∀ (j : Nat) t v, Try.f6.params[j]? = some t → args[j]? = some v → Value.okWide Try.prog W .any base t v := hval0
  have hread : ∀ t ∈ Try.f6.params.toList, Try.prog.readableRec t = true ∧ t < Try.prog.types.size := by
    rw [Try.params6]
    intro t ht
    simp only [List.mem_cons, List.not_mem_nil, or_false] at ht
    rcases ht with rfl | rfl | rfl
    all_goals exact ⟨by kernel_rfl, of_decide_eq_true (by kernel_rfl)⟩
  have hW' := hW
  obtain ⟨p, q, hA0, hV, -, -⟩ := hW'
  have hA : DataW.TrodAll enc Try.prog W 0 (fun _ => true) true Try.f6.params.toList args.toList ds p := hA0
  rw [Try.params6] at hA hval
  obtain ⟨v0, vs0, d0, ds0, p0, q0, hargs, rfl, rfl, h0, r0⟩ := trodAll_cons hA
  obtain ⟨v1, vs1, d1, ds1, p1, q1, rfl, rfl, rfl, h1, r1⟩ := trodAll_cons r0
  obtain ⟨v2, vs2, d2, ds2, p2, q2, rfl, rfl, rfl, h2, r2⟩ := trodAll_cons r1
  obtain ⟨rfl, rfl, rfl⟩ := trodAll_nil r2
  obtain rfl : args = #[v0, v1, v2] := by cases args; simp_all
  obtain ⟨rfl, rfl⟩ := trodVars_none hV
  have k0 := hval 0 23 v0 rfl rfl
  have k1 := hval 1 24 v1 rfl rfl
  have k2 := hval 2 37 v2 rfl rfl
  clear hval hval0 hA0 hV hA
  obtain ⟨cc, fuel0, rfl, g0⟩ := agg_of Try.underlying23 k0 h0
  obtain ⟨zcols, zrows, zside, zradius, zspeed, zids, zqueue, rfl⟩ := read_cfg g0
  obtain ⟨l, hl, hf⟩ := buns_in k1 h1
  obtain ⟨ms, hm, hmf⟩ := cmds_in k2 h2
  exact (walk _ _ _ _ _ _ _ _ _ l ms W hl hf hm hmf).mono fun e W' ⟨he, hb⟩ => ⟨_, he, post_true rfl rfl hread rfl hW hb⟩

/-- GhostsTick: true for every input; the arguments stay. -/
theorem proved : Rows.GhostsTickSaid :=
  OpenClaim.holds_of_wide 6 Try.f6 rfl rfl rfl rfl rfl rfl rfl ⟨rfl, rfl, rfl, rfl, rfl⟩ rfl rfl rfl rfl rfl (by kernel_rfl) Try.func6 (by kernel_rfl)
    (of_decide_eq_true (by kernel_rfl)) (by unfold Func.isWrapper; first | (rw [if_pos (by decide +kernel)]; kernel_rfl) | (rw [if_neg (by decide +kernel)]; exact ⟨rfl, rfl⟩))
    (fun os started H enc _ => lifted os started H enc)
end Go.Proofs.Ytcnclcfipabimaa.ghostsTick
