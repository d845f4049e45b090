/-
  GhostsEnough: for every world and entities the law returns true, and the arguments stay as they were. No condition.
-/
import Derived.Test.YtcnclcfipabimaaMtl
import Derived.Test.YtcnclcfipabimaaLiv
import Derived.Test.YtcnclcfipabimaaMgd
import Derived.Test.YtcnclcfipabimaaSyF
import Derived.Test.YtcnclcfipabimaaRdC
import Derived.Test.YtcnclcfipabimaaSoP
namespace Go.Proofs.Ytcnclcfipabimaa.ghostsEnough
open Go.ChangeShapes Go.WideShapes Go.ChangeAt Go.RowKit


set_option maxRecDepth 100000 in
set_option maxHeartbeats 4000000 in
theorem walk (cols rows side radius speed ids queue : Int) (v : Value) (l : List Bun) (w : World) (hl : BIn w v l) (hf : ∀ b ∈ l, MFit b) :
    Calls Try.prog 5 #[.agg #[.int .i64 cols, .int .i64 rows, .int .i64 side, .int .i64 radius, .int .i64 speed, .int .i64 ids, .int .i64 queue], v] w fun e w' => e = .returned (.bool true) ∧ Below w.heap.size w w' := by
  have HMay := Lib.hid (fun W => may_any cols rows side radius speed ids queue W)
  have ho := mayF_ok ⟨cols, rows, side, radius, speed, ids, queue⟩
  generalize mayF ⟨cols, rows, side, radius, speed, ids, queue⟩ = d at *
  obtain ⟨dcols, drows, dside, dradius, dspeed, dids, dqueue⟩ := d
  have HO := Lib.hid ho
  have HLV := Lib.hid (fun W (hW : Below w.heap.size w W) => living_any dcols drows dside dradius dspeed dids dqueue v l W ho (hl.keep hW) hf)
  have HLI := Lib.hid (livF_in ho l)
  have HLU := Lib.hid (livF_un ⟨dcols, drows, dside, dradius, dspeed, dids, dqueue⟩ l)
  have HLM := Lib.hid (livF_may ⟨dcols, drows, dside, dradius, dspeed, dids, dqueue⟩ l)
  have hln := livF_len ⟨dcols, drows, dside, dradius, dspeed, dids, dqueue⟩ l
  generalize livF ⟨dcols, drows, dside, dradius, dspeed, dids, dqueue⟩ l = l0 at *
  obtain ⟨q1, q2⟩ := ho.cnt
  simp only at q1 q2
  obtain ⟨cnt, hcnt⟩ : ∃ cnt : Nat, dcols * drows = (cnt : Int) := ⟨(dcols * drows).toNat, by omega⟩
  have hcn : cnt ≤ 16 := by omega
  have v1 : IntKind.i64.wrap (dcols * drows) = (cnt : Int) := by rw [hcnt, IntKind.wrap_i64]; omega
  have HCNT := Lib.hid hcnt
  clear ho hl hf hcnt q1 q2
  obtain ⟨i0, hi0, hz0, hz1, hz2⟩ := info_parts info_bunJ
  go_enter Try.func5, Try.ntmps5
  go_wp2_with (go_at_call 17; refine (HMay.out _).mono ?_; rintro e w' ⟨rfl, hb⟩; obtain ⟨d, os, rfl⟩ := more_of hb; clear hb)
  refine (znew_ok dcols drows dside dradius dspeed dids dqueue _ HO.out).mono ?_
  rintro e w2 ⟨b, rfl, hb2, hmap, hbb⟩
  have cC : ∀ j, w2.cell? ⟨w.heap.size, j, none⟩ = (#[.int .i64 dcols, .int .i64 drows, .int .i64 dside, .int .i64 dradius, .int .i64 dspeed, .int .i64 dids, .int .i64 dqueue] : Array Value)[j]? := fun j => by rw [hb2.cell (by simp; omega)]; simp [go_sem]
  have l1 : w.heap.size < w2.heap.size := by have := hb2.size; simp at this; omega
  have hb2w : Below w.heap.size w w2 := Below.trans (Below.mono (B := w.heap.size) (by repeat' (first | (with_reducible exact Below.refl _ _) | (with_reducible assumption) | (with_reducible refine below_drewN ?_ _) | (with_reducible refine below_more _ _ _ ?_ ?_) | (with_reducible refine Below.alloc ?_ ?_ _) | (with_reducible refine Below.drew ?_) | (with_reducible refine Below.setCell ?_ ?_ _) | go_size)) (Nat.le_refl _)) (hb2.mono (by simp; omega))
  have HB2 := Lib.hid hb2w
  have HMP := Lib.hid hmap
  have CC2 := Lib.hid cC
  have q0 := cC 0; simp at q0; have q1 := cC 1; simp at q1; have q2 := cC 2; simp at q2; have q3 := cC 3; simp at q3; have q4 := cC 4; simp at q4; have q5 := cC 5; simp at q5; have q6 := cC 6; simp at q6
  clear hb2 hmap hb2w hbb cC
  go_wp2_with fail
  refine (HLV.out _ HB2.out).mono ?_
  rintro e w3 ⟨vl, rfl, hN⟩
  obtain ⟨pl, cl, rfl⟩ := sl_frm hN.1
  have hb3 := hN.2.1
  have HL3 := Lib.hid hN.bin
  have HM3 := Lib.hid (HMP.out.grow hb3)
  have HB3 := Lib.hid (HB2.out.trans (hb3.mono HB2.out.size))
  have CC3 := Lib.hid (box_on hb3 l1 CC2.out)
  have l3 : w.heap.size < w3.heap.size := by have := hb3.size; omega
  clear hN hb3 CC2 HMP HB2 HLV l1 q0 q1 q2 q3 q4 q5 q6
  go_wp2_with fail
  go_loopg [7] cnt (fun kx sx wr => ∃ k : Nat, sx = .int .i64 k ∧ k ≤ cnt ∧ cnt - k ≤ kx ∧ Hid (Below w3.heap.size w3 wr))
  case atStart => exact ⟨0, by go_num, by omega, by omega, Lib.hid (Below.refl _ _)⟩
  case round =>
    obtain ⟨k, rfl, hk, hkx, HK⟩ := hrel
    obtain ⟨wa, rfl⟩ : ∃ wa : World, wa = wr := ⟨_, rfl⟩
    have CA := Lib.hid (box_on HK.out l3 CC3.out)
    have HLA := Lib.hid (HL3.out.keep HK.out)
    have HMA := Lib.hid (HM3.out.grow HK.out)
    have la : w.heap.size < wa.heap.size := Nat.lt_of_lt_of_le l3 HK.out.size
    obtain ⟨f0, f1, f2⟩ := ltz la
    have q0 := CA.out 0; simp at q0; have q1 := CA.out 1; simp at q1; have q2 := CA.out 2; simp at q2; have q3 := CA.out 3; simp at q3; have q4 := CA.out 4; simp at q4; have q5 := CA.out 5; simp at q5; have q6 := CA.out 6; simp at q6
    by_cases hlt : k < cnt
    · have t1 : (k : Int) < (cnt : Int) := by omega
      have hk0 : (0 : Int) ≤ (k : Int) := by omega
      have hk1 : (k : Int) < dcols * drows := by rw [HCNT.out]; omega
      have HT := Lib.hid (told_any b dcols drows dside dradius dspeed dids dqueue k 5 _ l0 wa HMA.out HO.out hk0 hk1 HLA.out (by omega))
      clear hk1
      go_wp2_with fail
      refine HT.out.mono ?_
      rintro e w' ⟨po, no, co, pg, ng, cg, Lg, rfl, hb, hT1, hT2, hT3, hT4, hT5⟩
      obtain ⟨d1, os1, rfl⟩ := more_of hb
      clear HT hb
      go_upto_region 10 with fail
      obtain ⟨k8, g8, s8, b8⟩ := new_box (more wa d1 os1) #[.int .i64 0, .int .i64 5, .slice po no co, .slice none 0 0, .slice none 0 0, .slice none 0 0, .slice pg ng cg, .int .i64 0] 46 (wa.heap.size + os1.size) (by simp)
      have hb8 : Below wa.heap.size wa ((more wa d1 os1).alloc (.cells #[.int .i64 0, .int .i64 5, .slice po no co, .slice none 0 0, .slice none 0 0, .slice none 0 0, .slice pg ng cg, .int .i64 0] 46)) := (by repeat' (first | (with_reducible exact Below.refl _ _) | (with_reducible assumption) | (with_reducible refine below_drewN ?_ _) | (with_reducible refine below_more _ _ _ ?_ ?_) | (with_reducible refine Below.alloc ?_ ?_ _) | (with_reducible refine Below.drew ?_) | (with_reducible refine Below.setCell ?_ ?_ _) | go_size))
      have hT2' := hT2.keep b8
      have hT4' := hT4.keep b8
      have hnr : nearG Lg ((⟨0, 5, po, no, co, none, 0, 0, none, 0, 0, none, 0, 0, pg, ng, cg, 0⟩ : Sta)).t (blZ ⟨dcols, drows, dside, dradius, dspeed, dids, dqueue⟩ k l0) = stableF cmpBun (l0.filter (forB ⟨dcols, drows, dside, dradius, dspeed, dids, dqueue⟩ k)) := hT5.trans (says_sorted HO.out hk0 (by rw [HCNT.out]; omega) HLI.out HLU.out)
      generalize ((more wa d1 os1).alloc (.cells #[.int .i64 0, .int .i64 5, .slice po no co, .slice none 0 0, .slice none 0 0, .slice none 0 0, .slice pg ng cg, .int .i64 0] 46)) = w5 at *
      have HNR := Lib.hid (fun W (hW : Below w5.heap.size w5 W) => gnear_any (⟨0, 5, po, no, co, none, 0, 0, none, 0, 0, none, 0, 0, pg, ng, cg, 0⟩ : Sta) Lg (blZ ⟨dcols, drows, dside, dradius, dspeed, dids, dqueue⟩ k l0) W (hT2'.keep hW) (hT4'.keep hW) (by omega))
      rw [hnr] at HNR
      generalize wa.heap.size + os1.size = n8 at *
      have HZ := Lib.hid (fun W => rzone_any dcols drows dside dradius dspeed dids dqueue k W HO.out)
      have HG := Lib.hid (fun x y W => rGapR_any (zoneF ⟨dcols, drows, dside, dradius, dspeed, dids, dqueue⟩ k) x y W)
      have HOF := Lib.hid (fun x y W => rof_any dcols drows dside dradius dspeed dids dqueue x y W HO.out)
      have hfb : ∀ b : Bun, forB ⟨dcols, drows, dside, dradius, dspeed, dids, dqueue⟩ k b = (!(ofF ⟨dcols, drows, dside, dradius, dspeed, dids, dqueue⟩ b.x b.y == k) && decide (gapF (zoneF ⟨dcols, drows, dside, dradius, dspeed, dids, dqueue⟩ k).1 (zoneF ⟨dcols, drows, dside, dradius, dspeed, dids, dqueue⟩ k).2.1 (zoneF ⟨dcols, drows, dside, dradius, dspeed, dids, dqueue⟩ k).2.2.1 (zoneF ⟨dcols, drows, dside, dradius, dspeed, dids, dqueue⟩ k).2.2.2 b.x b.y ≤ dradius)) := fun b => rfl
      generalize hrz : rectV (zoneF ⟨dcols, drows, dside, dradius, dspeed, dids, dqueue⟩ k) = rz at *
      generalize zoneF ⟨dcols, drows, dside, dradius, dspeed, dids, dqueue⟩ k = z at *
      obtain ⟨z0, z1, z2, z3⟩ := z
      simp only at HG hfb
      generalize forB ⟨dcols, drows, dside, dradius, dspeed, dids, dqueue⟩ k = fb at *
      generalize ofF ⟨dcols, drows, dside, dradius, dspeed, dids, dqueue⟩ = of at *
      generalize gapF z0 z1 z2 z3 = gf at *
      have HFB := Lib.hid hfb
      clear hrz hfb
      clear hT1 hT2 hT3 hT4 hT5 hT2' hT4' hnr b8 g8 q0 q1 q2 q3 q4 q5 q6 f0 f1 f2 hk0
      have HB8 := Lib.hid hb8
      have K8 := Lib.hid k8
      have HK5 := Lib.hid (HK.out.trans (hb8.mono HK.out.size))
      have CA5 := Lib.hid (box_on hb8 la CA.out)
      have l5 : w.heap.size < w5.heap.size := Nat.lt_of_lt_of_le la hb8.size
      have HL5 := Lib.hid (HLA.out.keep hb8)
      clear hb8 k8 CA HLA HMA la
      go_wp2_with fail
      go_loopg [10, 11] l0.length (fun kx o sx wr => ∃ t : Nat, sx = .int .i64 t ∧ t ≤ l0.length ∧ l0.length - t ≤ kx ∧ Hid (BNew w5 wr o ((l0.take t).filter fb)) ∧ Hid (((l0.take t).filter fb).length ≤ t))
      case atStart => exact ⟨0, by go_num, by omega, by omega, Lib.hid (BNew.nil w5), Lib.hid (Nat.le_refl _)⟩
      case round =>
        obtain ⟨t, rfl, ht, hkx2, HN, HNL⟩ := hrel
        obtain ⟨wb, rfl⟩ : ∃ wb : World, wb = wr := ⟨_, rfl⟩
        have hbl := HN.out.2.1
        have lb : w.heap.size < wb.heap.size := Nat.lt_of_lt_of_le l5 hbl.size
        obtain ⟨f0, f1, f2⟩ := ltz lb
        have CB := Lib.hid (box_on hbl l5 CA5.out)
        have HBL := Lib.hid hbl
        clear hbl
        by_cases hlt2 : t < l0.length
        · have t2 : (t : Int) < (l0.length : Int) := by omega
          obtain ⟨x0, hx0⟩ : ∃ x0, l0[t]? = some x0 := ⟨_, List.getElem?_eq_getElem hlt2⟩
          obtain ⟨gb, ob, cb, hv, hgb, hcb⟩ := (HL5.out.keep HBL.out).cells hx0
          simp only [Value.slice.injEq, true_and] at hv
          obtain ⟨rfl, rfl⟩ := hv
          have c0 := hcb 0 _ rfl; have c1 := hcb 1 _ rfl; have c2 := hcb 2 _ rfl; have c3 := hcb 3 _ rfl; have c4 := hcb 4 _ rfl; have c5 := hcb 5 _ rfl; have c6 := hcb 6 _ rfl; have c7 := hcb 7 _ rfl; have c8 := hcb 8 _ rfl; have c9 := hcb 9 _ rfl; have c10 := hcb 10 _ rfl
          simp only [Nat.add_zero] at c0
          obtain ⟨e0, e1, e2⟩ := ltz hgb
          have q0 := CB.out 0; simp at q0; have q1 := CB.out 1; simp at q1; have q2 := CB.out 2; simp at q2; have q3 := CB.out 3; simp at q3; have q4 := CB.out 4; simp at q4; have q5 := CB.out 5; simp at q5; have q6 := CB.out 6; simp at q6
          obtain ⟨po', co', hpo⟩ := sl_frm HN.out.1
          subst hpo
          have hstep := filter_step fb hx0
          have HST := Lib.hid hstep
          have hfx := HFB.out x0
          have HOX := Lib.hid (HOF.out x0.x x0.y)
          have HGX := Lib.hid (HG.out x0.x x0.y)
          generalize of x0.x x0.y = oz at *
          generalize gf x0.x x0.y = gz at *
          clear hcb hx0 hstep
          generalize hacc : (l0.take t).filter fb = acc at *
          have hal := HNL.out
          clear hacc HNL
          obtain ⟨s, i, g, m, x, y, vx, vy, hp, pw, lf⟩ := x0
          simp only at HOX HGX hfx c0 c1 c2 c3 c4 c5 c6 c7 c8 c9 c10
          
          cases h1 : (oz == (k : Int)) with
          | true =>
            have heq : oz = (k : Int) := by simpa using h1
            have hne : (oz != (k : Int)) = false := by simpa using heq
            rw [h1] at hfx
            rw [show fb ⟨s, i, g, m, x, y, vx, vy, hp, pw, lf⟩ = false by rw [hfx]; rfl] at HST
            have HS2 := Lib.hid HST.out
            clear hfx HST
            go_wp2_with fail
            refine wp_region_more (by kernel_rfl) (by kernel_rfl) ?_
            repeat (go_big_quiet_step ((first | (go_at_call 36; exact more_call (HOX.out _)) | (go_at_call 38; exact more_call (HZ.out _)) | (go_at_call 37; exact more_call (HGX.out _)))))
            refine wpQuiet_nil ?_
            rintro _ ⟨pq1, rfl⟩
            go_wp2_with fail
            go_roundg (l0.length - (t + 1))
            case measure => omega
            case rel => exact ⟨t + 1, by go_num, by omega, by omega, Lib.hid (by rw [HS2.out]; simpa using HN.out.grow (by repeat' (first | (with_reducible exact Below.refl _ _) | (with_reducible assumption) | (with_reducible refine below_drewN ?_ _) | (with_reducible refine below_more _ _ _ ?_ ?_) | (with_reducible refine Below.alloc ?_ ?_ _) | (with_reducible refine Below.drew ?_) | (with_reducible refine Below.setCell ?_ ?_ _) | go_size))), Lib.hid (by rw [HS2.out]; simp; omega)⟩
          | false =>
            have heq : ¬ oz = (k : Int) := by simpa using h1
            have hne : (oz != (k : Int)) = true := by simpa using heq
            rw [h1] at hfx
            cases h2 : decide (gz ≤ dradius) with
            | false =>
              rw [h2] at hfx
              rw [show fb ⟨s, i, g, m, x, y, vx, vy, hp, pw, lf⟩ = false by rw [hfx]; rfl] at HST
              have HS2 := Lib.hid HST.out
              clear hfx HST
              go_wp2_with fail
              refine wp_region_more (by kernel_rfl) (by kernel_rfl) ?_
              repeat (go_big_quiet_step ((first | (go_at_call 36; exact more_call (HOX.out _)) | (go_at_call 38; exact more_call (HZ.out _)) | (go_at_call 37; exact more_call (HGX.out _)))))
              refine wpQuiet_nil ?_
              rintro _ ⟨pq1, rfl⟩
              go_wp2_with fail
              go_roundg (l0.length - (t + 1))
              case measure => omega
              case rel => exact ⟨t + 1, by go_num, by omega, by omega, Lib.hid (by rw [HS2.out]; simpa using HN.out.grow (by repeat' (first | (with_reducible exact Below.refl _ _) | (with_reducible assumption) | (with_reducible refine below_drewN ?_ _) | (with_reducible refine below_more _ _ _ ?_ ?_) | (with_reducible refine Below.alloc ?_ ?_ _) | (with_reducible refine Below.drew ?_) | (with_reducible refine Below.setCell ?_ ?_ _) | go_size))), Lib.hid (by rw [HS2.out]; simp; omega)⟩
            | true =>
              rw [h2] at hfx
              rw [show fb ⟨s, i, g, m, x, y, vx, vy, hp, pw, lf⟩ = true by rw [hfx]; rfl] at HST
              have HS2 := Lib.hid HST.out
              clear hfx HST
              go_wp2_with fail
              refine wp_region_more (by kernel_rfl) (by kernel_rfl) ?_
              repeat (go_big_quiet_step ((first | (go_at_call 36; exact more_call (HOX.out _)) | (go_at_call 38; exact more_call (HZ.out _)) | (go_at_call 37; exact more_call (HGX.out _)))))
              refine wpQuiet_nil ?_
              rintro _ ⟨pq1, rfl⟩
              go_wp2_with (at_builtin; refine wpList_append_sl _ (by rfl) _ _ 24 (by rfl) 41 i0 _ 11 88 Try.underlying24 hi0 hz0 hz1 hz2 rfl (by omega) _ acc.length (bunCells acc) (by rfl) (HN.out.grow (by repeat' (first | (with_reducible exact Below.refl _ _) | (with_reducible assumption) | (with_reducible refine below_drewN ?_ _) | (with_reducible refine below_more _ _ _ ?_ ?_) | (with_reducible refine Below.alloc ?_ ?_ _) | (with_reducible refine Below.drew ?_) | (with_reducible refine Below.setCell ?_ ?_ _) | go_size))).1 ⟨_, 0, none⟩ 1 1 (bunL ⟨s, i, g, m, x, y, vx, vy, hp, pw, lf⟩) (by rfl) (by rfl) (new_cellsN _ _ _ _ (by simp)) (bunL_one _) (by omega) (by unfold maxLen; omega) (by omega) ?_; intro v' w4 hs4 ht4 ho4)
              have hm := (HN.out.grow (by repeat' (first | (with_reducible exact Below.refl _ _) | (with_reducible assumption) | (with_reducible refine below_drewN ?_ _) | (with_reducible refine below_more _ _ _ ?_ ?_) | (with_reducible refine Below.alloc ?_ ?_ _) | (with_reducible refine Below.drew ?_) | (with_reducible refine Below.setCell ?_ ?_ _) | go_size))).snoc hs4 ht4 ho4
              have HM := Lib.hid hm
              clear hs4 ht4 ho4 hm
              go_roundg (l0.length - (t + 1))
              case measure => omega
              case rel => exact ⟨t + 1, by go_num, by omega, by omega, Lib.hid (by rw [HS2.out]; simpa using HM.out), Lib.hid (by rw [HS2.out]; simp; omega)⟩
        · have t2 : ¬ (t : Int) < (l0.length : Int) := by omega
          obtain rfl : t = l0.length := by omega
          rw [List.take_length] at HN HNL
          have hwl := HNL.out
          obtain ⟨po', co', hpo⟩ := sl_frm HN.out.1
          subst hpo
          have K8b := Lib.hid (box_on HBL.out s8 K8.out)
          have s8b : n8 < wb.heap.size := Nat.lt_of_lt_of_le s8 HBL.out.size
          have y0 := K8b.out 0; simp at y0; have y1 := K8b.out 1; simp at y1; have y2 := K8b.out 2; simp at y2; have y3 := K8b.out 3; simp at y3; have y4 := K8b.out 4; simp at y4; have y5 := K8b.out 5; simp at y5; have y6 := K8b.out 6; simp at y6; have y7 := K8b.out 7; simp at y7
          have HSO := Lib.hid (fun W (hW : Below wb.heap.size wb W) => rsorted_any _ _ W (HN.out.bin.keep hW) (by omega))
          generalize l0.filter fb = wf at *
          generalize stableF cmpBun wf = ns at *
          have HSM := Lib.hid (fun va vb W h1 h2 => same_any va vb ns ns W h1 h2)
          rw [decide_eq_true rfl] at HSM
          obtain ⟨f3, f4, f5⟩ := ltz s8b
          have HB9 := Lib.hid HBL.out
          go_wp2_with fail
          refine (HNR.out _ (HB9.out.trans (Below.mono (B := wb.heap.size) (by repeat' (first | (with_reducible exact Below.refl _ _) | (with_reducible assumption) | (with_reducible refine below_drewN ?_ _) | (with_reducible refine below_more _ _ _ ?_ ?_) | (with_reducible refine Below.alloc ?_ ?_ _) | (with_reducible refine Below.drew ?_) | (with_reducible refine Below.setCell ?_ ?_ _) | go_size)) HB9.out.size))).mono ?_; rintro e w' ⟨vn, rfl, hNR⟩; obtain ⟨d3, os3, rfl⟩ := more_of hNR.2.1
          have HN9 := Lib.hid hNR.bin
          clear hNR
          go_wp2_with fail
          refine (HSO.out _ (by repeat' (first | (with_reducible exact Below.refl _ _) | (with_reducible assumption) | (with_reducible refine below_drewN ?_ _) | (with_reducible refine below_more _ _ _ ?_ ?_) | (with_reducible refine Below.alloc ?_ ?_ _) | (with_reducible refine Below.drew ?_) | (with_reducible refine Below.setCell ?_ ?_ _) | go_size))).mono ?_; rintro e w' ⟨vs, rfl, hS⟩; obtain ⟨d4, os4, rfl⟩ := more_of hS.2.1
          have HS9 := Lib.hid hS.bin
          clear hS
          go_wp2_with fail
          refine (HSM.out _ _ _ (HN9.out.keep (by repeat' (first | (with_reducible exact Below.refl _ _) | (with_reducible assumption) | (with_reducible refine below_drewN ?_ _) | (with_reducible refine below_more _ _ _ ?_ ?_) | (with_reducible refine Below.alloc ?_ ?_ _) | (with_reducible refine Below.drew ?_) | (with_reducible refine Below.setCell ?_ ?_ _) | go_size))) (HS9.out.keep (by repeat' (first | (with_reducible exact Below.refl _ _) | (with_reducible assumption) | (with_reducible refine below_drewN ?_ _) | (with_reducible refine below_more _ _ _ ?_ ?_) | (with_reducible refine Below.alloc ?_ ?_ _) | (with_reducible refine Below.drew ?_) | (with_reducible refine Below.setCell ?_ ?_ _) | go_size)))).mono ?_; rintro e w' ⟨rfl, hb⟩; obtain ⟨d5, os5, rfl⟩ := more_of hb; clear hb
          go_wp2_with fail
          go_roundg (cnt - (k + 1))
          case measure => omega
          case rel => exact ⟨k + 1, by go_num, by omega, by omega, Lib.hid (HK5.out.trans ((HB9.out.trans (Below.mono (B := wb.heap.size) (by repeat' (first | (with_reducible exact Below.refl _ _) | (with_reducible assumption) | (with_reducible refine below_drewN ?_ _) | (with_reducible refine below_more _ _ _ ?_ ?_) | (with_reducible refine Below.alloc ?_ ?_ _) | (with_reducible refine Below.drew ?_) | (with_reducible refine Below.setCell ?_ ?_ _) | go_size)) HB9.out.size)).mono HK5.out.size))⟩
    · have t1 : ¬ (k : Int) < (cnt : Int) := by omega
      obtain rfl : k = cnt := by omega
      go_wp2_with (go_at_call 23; refine (awake22 _).mono ?_; rintro e w' ⟨rfl, hb⟩; obtain ⟨d, os, rfl⟩ := more_of hb; clear hb)
      go_ret
      exact ⟨rfl, HB3.out.trans ((HK.out.trans (Below.mono (B := wa.heap.size) (by repeat' (first | (with_reducible exact Below.refl _ _) | (with_reducible assumption) | (with_reducible refine below_drewN ?_ _) | (with_reducible refine below_more _ _ _ ?_ ?_) | (with_reducible refine Below.alloc ?_ ?_ _) | (with_reducible refine Below.drew ?_) | (with_reducible refine Below.setCell ?_ ?_ _) | go_size)) HK.out.size)).mono HB3.out.size)⟩
set_option maxRecDepth 100000 in
theorem lifted (os : Os) (started : os.Started) (H : Type) (enc : TypeId × Value → H) :
    ReturnsInHanded {} Try.checked os 5 .any (Rows.ghostsEnoughSpec.pre6 enc Try.prog Try.f5 Rows.ghostsEnoughRow.domain false) (Rows.ghostsEnoughSpec.post enc Try.prog Try.f5 false true false false) := by
  refine returnsInHanded_of_change (C := Try.checked) ownKnob0 started (by kernel_rfl) Try.func5
    (ChangeSpec.witness6 (enc := enc) (C := Try.checked) false ⟨#[], #[.agg #[.int .i64 0, .int .i64 0, .int .i64 0, .int .i64 0, .int .i64 0, .int .i64 0, .int .i64 0], .slice none 0 0], []⟩ 8 (by kernel_rfl) (by kernel_rfl) (by kernel_rfl) (by kernel_rfl)) ?_
  intro W base args ds gs before hval0 hW _ _
  have hval : ∀ (j : Nat) t v, Try.f5.params[j]? = some t → args[j]? = some v → Value.okWide Try.prog W .any base t v := hval0
  have hread : ∀ t ∈ Try.f5.params.toList, Try.prog.readableRec t = true ∧ t < Try.prog.types.size := by
    rw [Try.params5]
    intro t ht
    simp only [List.mem_cons, List.not_mem_nil, or_false] at ht
    rcases ht with rfl | rfl
    all_goals exact ⟨by kernel_rfl, of_decide_eq_true (by kernel_rfl)⟩
  have hW' := hW
  obtain ⟨p, q, hA0, hV, -, -⟩ := hW'
  have hA : DataW.TrodAll enc Try.prog W 0 (fun _ => true) true Try.f5.params.toList args.toList ds p := hA0
  rw [Try.params5] at hA hval
  obtain ⟨v0, vs0, d0, ds0, p0, q0, hargs, rfl, rfl, h0, r0⟩ := trodAll_cons hA
  obtain ⟨v1, vs1, d1, ds1, p1, q1, rfl, rfl, rfl, h1, r1⟩ := trodAll_cons r0
  obtain ⟨rfl, rfl, rfl⟩ := trodAll_nil r1
  obtain rfl : args = #[v0, v1] := by cases args; simp_all
  obtain ⟨rfl, rfl⟩ := trodVars_none hV
  have k0 := hval 0 23 v0 rfl rfl
  have k1 := hval 1 24 v1 rfl rfl
  clear hval hval0 hA0 hV hA
  obtain ⟨cc, fuel0, rfl, g0⟩ := agg_of Try.underlying23 k0 h0
  obtain ⟨zcols, zrows, zside, zradius, zspeed, zids, zqueue, rfl⟩ := read_cfg g0
  obtain ⟨l, hl, hf⟩ := buns_in k1 h1
  exact (walk _ _ _ _ _ _ _ _ l W hl (fun b hb => ⟨(hf b hb).2.2.2.1.1, (hf b hb).2.2.2.1.2⟩)).mono fun e W' ⟨he, hb⟩ => ⟨_, he, post_true rfl rfl hread rfl hW hb⟩

/-- GhostsEnough: true for every input; the arguments stay. -/
theorem proved : Rows.GhostsEnoughSaid :=
  OpenClaim.holds_of_wide 5 Try.f5 rfl rfl rfl rfl rfl rfl rfl ⟨rfl, rfl, rfl, rfl, rfl⟩ rfl rfl rfl rfl rfl (by kernel_rfl) Try.func5 (by kernel_rfl)
    (of_decide_eq_true (by kernel_rfl)) (by unfold Func.isWrapper; first | (rw [if_pos (by decide +kernel)]; kernel_rfl) | (rw [if_neg (by decide +kernel)]; exact ⟨rfl, rfl⟩))
    (fun os started H enc _ => lifted os started H enc)
end Go.Proofs.Ytcnclcfipabimaa.ghostsEnough
