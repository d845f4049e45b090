/-
  TickQuiet: for every world and entities the law returns true, and the arguments stay as they were. No condition.
-/
import Derived.Test.YtcnclcfipabimaaTwB
import Derived.Test.YtcnclcfipabimaaTpC
import Derived.Test.YtcnclcfipabimaaMtg
import Derived.Test.YtcnclcfipabimaaSyF
import Derived.Test.YtcnclcfipabimaaRdC
import Derived.Test.YtcnclcfipabimaaMsn
import Derived.Test.YtcnclcfipabimaaMpc
namespace Go.Proofs.Ytcnclcfipabimaa.tickQuiet
open Go.ChangeShapes Go.WideShapes Go.ChangeAt Go.RowKit

set_option maxRecDepth 100000 in
set_option maxHeartbeats 1000000 in
theorem walk (cols rows side radius speed ids queue : Int) (v : Value) (l : List Bun) (w : World) (hl : BIn w v l) (hbf : ∀ b ∈ l, BFit b) :
    Calls Try.prog 14 #[.agg #[.int .i64 cols, .int .i64 rows, .int .i64 side, .int .i64 radius, .int .i64 speed, .int .i64 ids, .int .i64 queue], v] w fun e w' => e = .returned (.bool true) ∧ Below w.heap.size w w' := by
  have HMay := Lib.hid (fun W => may_any cols rows side radius speed ids queue W)
  have ho := mayF_ok ⟨cols, rows, side, radius, speed, ids, queue⟩
  generalize mayF ⟨cols, rows, side, radius, speed, ids, queue⟩ = d at *
  obtain ⟨dcols, drows, dside, dradius, dspeed, dids, dqueue⟩ := d
  simp only at HMay
  have HO := Lib.hid ho
  have hf : ∀ b ∈ l, MFit b := fun b hb => ⟨(hbf b hb).2.2.2.1.1, (hbf b hb).2.2.2.1.2⟩
  have HLV := Lib.hid (fun W (hW : Below w.heap.size w W) => living_any dcols drows dside dradius dspeed dids dqueue v l W ho (hl.keep hW) hf)
  have HLF := Lib.hid (livF_fit ho hbf)
  have HLI := Lib.hid (livF_in ho l)
  have hln := livF_len ⟨dcols, drows, dside, dradius, dspeed, dids, dqueue⟩ l
  generalize livF ⟨dcols, drows, dside, dradius, dspeed, dids, dqueue⟩ l = l0 at *
  have hc1 := ho.cnt.1
  simp only at hc1
  obtain ⟨i0, hi0, hz0, hz1, hz2⟩ := info_parts info_bunJ
  clear ho hl hf hbf
  go_enter Try.func14, Try.ntmps14
  go_wp2_with (go_at_call 17; refine (HMay.out _).mono ?_; rintro e w' ⟨rfl, hb⟩; obtain ⟨d, os, rfl⟩ := more_of hb; clear hb)
  refine (znew_ok dcols drows dside dradius dspeed dids dqueue _ HO.out).mono ?_
  rintro e w2 ⟨b, rfl, hb2, hmap, hbb⟩
  have cC : ∀ j, w2.cell? ⟨w.heap.size, j, none⟩ = (#[.int .i64 dcols, .int .i64 drows, .int .i64 dside, .int .i64 dradius, .int .i64 dspeed, .int .i64 dids, .int .i64 dqueue] : Array Value)[j]? := fun j => by rw [hb2.cell (by simp; omega)]; simp [go_sem]
  have l2 : w.heap.size < w2.heap.size := by have := hb2.size; simp at this; omega
  have hb2w : Below w.heap.size w w2 := Below.trans (Below.mono (B := w.heap.size) (by repeat' (first | (with_reducible exact Below.refl _ _) | (with_reducible assumption) | (with_reducible refine below_drewN ?_ _) | (with_reducible refine below_more _ _ _ ?_ ?_) | (with_reducible refine Below.alloc ?_ ?_ _) | (with_reducible refine Below.drew ?_) | (with_reducible refine Below.setCell ?_ ?_ _) | go_size)) (Nat.le_refl _)) (hb2.mono (by simp; omega))
  have HB2 := Lib.hid hb2w
  have HMP := Lib.hid hmap
  have q0 := cC 0; simp at q0; have q1 := cC 1; simp at q1; have q2 := cC 2; simp at q2; have q3 := cC 3; simp at q3; have q4 := cC 4; simp at q4; have q5 := cC 5; simp at q5; have q6 := cC 6; simp at q6
  clear hb2 hmap hbb hb2w cC
  go_wp2_with fail
  refine (HLV.out _ HB2.out).mono ?_
  rintro e w3 ⟨vl, rfl, hN⟩
  obtain ⟨pl, cl, rfl⟩ := sl_frm hN.1
  have hb3 := hN.2.1
  have HL3 := Lib.hid hN.bin
  have HM3 := Lib.hid (HMP.out.grow hb3)
  have HB3 := Lib.hid (HB2.out.trans (hb3.mono HB2.out.size))
  clear hN hb3 HMP HB2 HLV l2 q0 q1 q2 q3 q4 q5 q6
  go_wp2_with fail
  go_loopg [7, 8] l0.length (fun kx o sx wr => ∃ t : Nat, sx = .int .i64 t ∧ t ≤ l0.length ∧ l0.length - t ≤ kx ∧ Hid (BNew w3 wr o ((l0.take t).map calm)))
  case atStart => exact ⟨0, by go_num, by omega, by omega, Lib.hid (BNew.nil w3)⟩
  case round =>
    obtain ⟨t, rfl, ht, hkx, HN⟩ := hrel
    obtain ⟨wa, rfl⟩ : ∃ wa : World, wa = wr := ⟨_, rfl⟩
    have hacl : ((l0.take t).map calm).length = t := by rw [List.length_map, List.length_take]; omega
    obtain ⟨po, co, hpo⟩ := sl_frm HN.out.1
    subst hpo
    by_cases hlt : t < l0.length
    · have t1 : (t : Int) < (l0.length : Int) := by omega
      obtain ⟨x0, hx0⟩ : ∃ x0, l0[t]? = some x0 := ⟨_, List.getElem?_eq_getElem hlt⟩
      obtain ⟨gb, ob, cb, hv, hgb, hcb⟩ := (HL3.out.keep HN.out.2.1).cells hx0
      simp only [Value.slice.injEq, true_and] at hv
      obtain ⟨rfl, rfl⟩ := hv
      have c0 := hcb 0 _ rfl; have c1 := hcb 1 _ rfl; have c2 := hcb 2 _ rfl; have c3 := hcb 3 _ rfl; have c4 := hcb 4 _ rfl; have c5 := hcb 5 _ rfl; have c6 := hcb 6 _ rfl; have c7 := hcb 7 _ rfl; have c8 := hcb 8 _ rfl; have c9 := hcb 9 _ rfl; have c10 := hcb 10 _ rfl
      simp only [Nat.add_zero] at c0
      obtain ⟨e0, e1, e2⟩ := ltz hgb
      have hm := (HLF.out x0 (List.mem_of_getElem? hx0)).2.2.2.1
      have hwo := fun W => rWithout_any x0.s x0.i x0.g x0.m x0.x x0.y x0.vx x0.vy x0.hp x0.pw x0.lf 26 W (by omega) (by omega)
      rw [show rWithoutF ⟨x0.s, x0.i, x0.g, x0.m, x0.x, x0.y, x0.vx, x0.vy, x0.hp, x0.pw, x0.lf⟩ 26 = calm x0 from withoutF_eq x0 26 hm] at hwo
      have hst : (l0.take (t + 1)).map calm = (l0.take t).map calm ++ [calm x0] := by
        rw [List.take_succ_eq_append_getElem hlt, (List.getElem?_eq_some_iff.1 hx0).2]; simp
      have HST := Lib.hid hst
      generalize (l0.take t).map calm = acc at *
      generalize calm x0 = y0 at *
      obtain ⟨s, i, g, m, x, y, vx, vy, hp, pw, lf⟩ := x0
      obtain ⟨s', i', g', m', x', y', vx', vy', hp', pw', lf'⟩ := y0
      simp only [Bun.v] at hwo
      have HWO := Lib.hid hwo
      have hal := hacl
      clear hcb hx0 hm hwo hst hacl
      simp only at c0 c1 c2 c3 c4 c5 c6 c7 c8 c9 c10
      have hal2 : acc.length ≤ 60 := by omega
      clear hal
      go_wp2_with (first | (go_at_call 51; refine (HWO.out _).mono ?_; rintro e w' ⟨rfl, hb⟩; obtain ⟨d, os, rfl⟩ := more_of hb; clear hb) | (at_builtin; refine wpList_append_sl _ (by rfl) _ _ 24 (by rfl) 41 i0 _ 11 88 Try.underlying24 hi0 hz0 hz1 hz2 rfl (by omega) _ acc.length (bunCells acc) (by rfl) (HN.out.grow (by repeat' (first | (with_reducible exact Below.refl _ _) | (with_reducible assumption) | (with_reducible refine below_drewN ?_ _) | (with_reducible refine below_more _ _ _ ?_ ?_) | (with_reducible refine Below.alloc ?_ ?_ _) | (with_reducible refine Below.drew ?_) | (with_reducible refine Below.setCell ?_ ?_ _) | go_size))).1 ⟨_, 0, none⟩ 1 1 (bunL ⟨s', i', g', m', x', y', vx', vy', hp', pw', lf'⟩) (by rfl) (by rfl) (new_cellsN _ _ _ _ (by simp)) (bunL_one _) (by omega) (by unfold maxLen; omega) (by omega) ?_; intro v' w4 hs4 ht4 ho4))
      have hm := (HN.out.grow (by repeat' (first | (with_reducible exact Below.refl _ _) | (with_reducible assumption) | (with_reducible refine below_drewN ?_ _) | (with_reducible refine below_more _ _ _ ?_ ?_) | (with_reducible refine Below.alloc ?_ ?_ _) | (with_reducible refine Below.drew ?_) | (with_reducible refine Below.setCell ?_ ?_ _) | go_size))).snoc hs4 ht4 ho4
      have HM := Lib.hid hm
      clear hs4 ht4 ho4 hm
      go_roundg (l0.length - (t + 1))
      case measure => omega
      case rel => exact ⟨t + 1, by go_num, by omega, by omega, Lib.hid (by rw [HST.out]; exact HM.out)⟩
    · have t1 : ¬ (t : Int) < (l0.length : Int) := by omega
      obtain rfl : t = l0.length := by omega
      rw [List.take_length] at HN hacl
      have hfit : ∀ b ∈ l0.map calm, BFit b := fun b hb => by
        obtain ⟨x, hx, rfl⟩ := List.mem_map.1 hb
        exact bfit_without 26 (HLF.out x hx)
      have hq := tick_quiet ⟨dcols, drows, dside, dradius, dspeed, dids, dqueue⟩ (own := l0.map calm) (fun b hb => by
        obtain ⟨x, hx, rfl⟩ := List.mem_map.1 hb
        exact calm_still (HLI.out x hx))
      have HFT := Lib.hid hfit; have HQ := Lib.hid hq
      have HSTB := Lib.hid (show BIn wa (.slice po l0.length co) (l0.map calm) from by have h := HN.out.bin; rwa [hacl] at h)
      clear hfit hq
      generalize l0.map calm = st at *
      have hst : st.length ≤ 60 := by omega
      clear hacl
      have HB3a := Lib.hid HN.out.2.1
      have hrun : ∀ (vo : Value) (W : World), Below w3.heap.size w3 W → BIn W vo st → Calls Try.prog 43 #[.pointer (some ⟨b, 0, none⟩), .int .i64 (-1), vo, .slice none 0 0, .slice none 0 0] W (RunQ W (stableF cmpBun st) [] []) := fun vo W hW hB => by
        have h := prun_any b ⟨dcols, drows, dside, dradius, dspeed, dids, dqueue⟩ (-1) vo (.slice none 0 0) (.slice none 0 0) st [] [] W (HM3.out.grow hW) HO.out (by omega) (by simp only; omega) hB (rin_zero (enc := bunL) _) (rin_zero _) HFT.out (by simp) (by omega) (by simp) (by simp)
        rw [HQ.out.1, HQ.out.2.1, HQ.out.2.2, setN_nil] at h
        exact h
      have HRUN := Lib.hid hrun
      clear hrun
      go_wp2_with fail
      refine (HRUN.out _ _ ?_ ?_).mono ?_
      · exact HB3a.out.trans (Below.mono (B := wa.heap.size) (by repeat' (first | (with_reducible exact Below.refl _ _) | (with_reducible assumption) | (with_reducible refine below_drewN ?_ _) | (with_reducible refine below_more _ _ _ ?_ ?_) | (with_reducible refine Below.alloc ?_ ?_ _) | (with_reducible refine Below.drew ?_) | (with_reducible refine Below.setCell ?_ ?_ _) | go_size)) HB3a.out.size)
      · exact HSTB.out.keep (by repeat' (first | (with_reducible exact Below.refl _ _) | (with_reducible assumption) | (with_reducible refine below_drewN ?_ _) | (with_reducible refine below_more _ _ _ ?_ ?_) | (with_reducible refine Below.alloc ?_ ?_ _) | (with_reducible refine Below.drew ?_) | (with_reducible refine Below.setCell ?_ ?_ _) | go_size))
      rintro e w' hq
      obtain ⟨pa, ca, pb, cb, pd, cd, d5, os5, rfl, rfl, ha, hg, hd⟩ := hq.opn
      clear hq
      go_upto_region 10 with fail
      obtain ⟨k9, g9, s9, b9⟩ := new_box (more wa d5 os5) #[.slice pa (stableF cmpBun st).length ca, .slice pb 0 cb, .slice pd 0 cd] 82 (wa.heap.size + os5.size) (by simp)
      have hb5 : Below wa.heap.size wa ((more wa d5 os5).alloc (.cells #[.slice pa (stableF cmpBun st).length ca, .slice pb 0 cb, .slice pd 0 cd] 82)) := (by repeat' (first | (with_reducible exact Below.refl _ _) | (with_reducible assumption) | (with_reducible refine below_drewN ?_ _) | (with_reducible refine below_more _ _ _ ?_ ?_) | (with_reducible refine Below.alloc ?_ ?_ _) | (with_reducible refine Below.drew ?_) | (with_reducible refine Below.setCell ?_ ?_ _) | go_size))
      have HA5 := Lib.hid (ha.keep b9)
      have HST5 := Lib.hid (HSTB.out.keep hb5)
      have HB5 := Lib.hid ((HB3.out.trans (HB3a.out.mono HB3.out.size)).trans (hb5.mono (HB3.out.trans (HB3a.out.mono HB3.out.size)).size))
      generalize ((more wa d5 os5).alloc (.cells #[.slice pa (stableF cmpBun st).length ca, .slice pb 0 cb, .slice pd 0 cd] 82)) = w5 at *
      generalize wa.heap.size + os5.size = n9 at *
      have x0 := k9 0; have x1 := k9 1; have x2 := k9 2
      simp at x0 x1 x2
      obtain ⟨z0, z1, z2⟩ := ltz s9
      have HSO := Lib.hid (fun W (hW : Below w5.heap.size w5 W) => rsorted_any (.slice po l0.length co) st W (HST5.out.keep hW) (by omega))
      have hsm := fun vx vy W (h1 : BIn W vx (stableF cmpBun st)) (h2 : BIn W vy (stableF cmpBun st)) => same_any vx vy (stableF cmpBun st) (stableF cmpBun st) W h1 h2
      rw [decide_eq_true rfl] at hsm
      have HSM := Lib.hid hsm
      clear k9 g9 b9 hb5 ha hg hd hsm HRUN HN HB3a HSTB HM3 HL3 HB3 HQ HFT
      generalize stableF cmpBun st = so at *
      
      go_region_held3 (fun W => (w5).heap.size ≤ W.heap.size ∧ ∀ b o, b < (w5).heap.size → W.cell? ⟨b, o, none⟩ = (w5).cell? ⟨b, o, none⟩) (with_reducible (repeat (first | assumption | exact s_refl _ | exact s_id _ | refine s_more _ _ ?_ | refine s_alloc _ ?_ | refine s_drew ?_))) (first | (go_at_call 39; refine (HSO.out _ (by repeat' (first | (with_reducible exact Below.refl _ _) | (with_reducible assumption) | (with_reducible refine below_drewN ?_ _) | (with_reducible refine below_more _ _ _ ?_ ?_) | (with_reducible refine Below.alloc ?_ ?_ _) | (with_reducible refine Below.drew ?_) | (with_reducible refine Below.setCell ?_ ?_ _) | go_size))).mono ?_; rintro e w' ⟨vs, rfl, hS⟩; obtain ⟨ps, cs, rfl⟩ := sl_frm hS.1; have hSB := hS.bin; have hSb := hS.2.1; clear hS; obtain ⟨d6, os6, rfl⟩ := more_of hSb; clear hSb; (try simp only [more_of_drew] at hSB ⊢)) | (go_at_call 20; refine (HSM.out _ _ _ ?_ ?_).mono ?_; exact HA5.out.keep (by repeat' (first | (with_reducible exact Below.refl _ _) | (with_reducible assumption) | (with_reducible refine below_drewN ?_ _) | (with_reducible refine below_more _ _ _ ?_ ?_) | (with_reducible refine Below.alloc ?_ ?_ _) | (with_reducible refine Below.drew ?_) | (with_reducible refine Below.setCell ?_ ?_ _) | go_size)); (first | exact hSB | exact hSB.keep (by repeat' (first | (with_reducible exact Below.refl _ _) | (with_reducible assumption) | (with_reducible refine below_drewN ?_ _) | (with_reducible refine below_more _ _ _ ?_ ?_) | (with_reducible refine Below.alloc ?_ ?_ _) | (with_reducible refine Below.drew ?_) | (with_reducible refine Below.setCell ?_ ?_ _) | go_size))); rintro e w' ⟨rfl, hb⟩; obtain ⟨d7, os7, rfl⟩ := more_of hb; clear hb) | (go_at_call 45; refine (awake15 _).mono ?_; rintro e w' ⟨rfl, hb⟩; obtain ⟨d8, os8, rfl⟩ := more_of hb; clear hb))
      clear x0 x1 x2
      go_wp2_with fail
      go_ret
      exact ⟨rfl, HB5.out.trans (Below.mono (B := w5.heap.size) (by repeat' (first | (with_reducible exact Below.refl _ _) | (with_reducible assumption) | (with_reducible refine below_drewN ?_ _) | (with_reducible refine below_more _ _ _ ?_ ?_) | (with_reducible refine Below.alloc ?_ ?_ _) | (with_reducible refine Below.drew ?_) | (with_reducible refine Below.setCell ?_ ?_ _) | go_size)) HB5.out.size)⟩
set_option maxRecDepth 100000 in
theorem lifted (os : Os) (started : os.Started) (H : Type) (enc : TypeId × Value → H) :
    ReturnsInHanded {} Try.checked os 14 .any (Rows.tickQuietSpec.pre6 enc Try.prog Try.f14 Rows.tickQuietRow.domain false) (Rows.tickQuietSpec.post enc Try.prog Try.f14 false true false false) := by
  refine returnsInHanded_of_change (C := Try.checked) ownKnob0 started (by kernel_rfl) Try.func14
    (ChangeSpec.witness6 (enc := enc) (C := Try.checked) false ⟨#[], #[.agg #[.int .i64 0, .int .i64 0, .int .i64 0, .int .i64 0, .int .i64 0, .int .i64 0, .int .i64 0], .slice none 0 0], []⟩ 8 (by kernel_rfl) (by kernel_rfl) (by kernel_rfl) (by kernel_rfl)) ?_
  intro W base args ds gs before hval0 hW _ _
  have hval : ∀ (j : Nat) t v, Try.f14.params[j]? = some t → args[j]? = some v → Value.okWide Try.prog W .any base t v := hval0
  have hread : ∀ t ∈ Try.f14.params.toList, Try.prog.readableRec t = true ∧ t < Try.prog.types.size := by
    rw [Try.params14]
    intro t ht
    simp only [List.mem_cons, List.not_mem_nil, or_false] at ht
    rcases ht with rfl | rfl
    all_goals exact ⟨by kernel_rfl, of_decide_eq_true (by kernel_rfl)⟩
  have hW' := hW
  obtain ⟨p, q, hA0, hV, -, -⟩ := hW'
  have hA : DataW.TrodAll enc Try.prog W 0 (fun _ => true) true Try.f14.params.toList args.toList ds p := hA0
  rw [Try.params14] at hA hval
  obtain ⟨v0, vs0, d0, ds0, p0, q0, hargs, rfl, rfl, h0, r0⟩ := trodAll_cons hA
  obtain ⟨v1, vs1, d1, ds1, p1, q1, rfl, rfl, rfl, h1, r1⟩ := trodAll_cons r0
  obtain ⟨rfl, rfl, rfl⟩ := trodAll_nil r1
  obtain rfl : args = #[v0, v1] := by cases args; simp_all
  obtain ⟨rfl, rfl⟩ := trodVars_none hV
  have k0 := hval 0 23 v0 rfl rfl
  have k1 := hval 1 24 v1 rfl rfl
  clear hval hval0 hA0 hV hA
  obtain ⟨cc, fuel0, rfl, g0⟩ := agg_of Try.underlying23 k0 h0
  obtain ⟨zcols, zrows, zside, zradius, zspeed, zids, zqueue, rfl⟩ := read_cfg g0
  obtain ⟨l, hl, hf⟩ := buns_in k1 h1
  exact (walk _ _ _ _ _ _ _ _ l W hl hf).mono fun e W' ⟨he, hb⟩ => ⟨_, he, post_true rfl rfl hread rfl hW hb⟩

/-- TickQuiet: true for every input; the arguments stay. -/
theorem proved : Rows.TickQuietSaid :=
  OpenClaim.holds_of_wide 14 Try.f14 rfl rfl rfl rfl rfl rfl rfl ⟨rfl, rfl, rfl, rfl, rfl⟩ rfl rfl rfl rfl rfl (by kernel_rfl) Try.func14 (by kernel_rfl)
    (of_decide_eq_true (by kernel_rfl)) (by unfold Func.isWrapper; first | (rw [if_pos (by decide +kernel)]; kernel_rfl) | (rw [if_neg (by decide +kernel)]; exact ⟨rfl, rfl⟩))
    (fun os started H enc _ => lifted os started H enc)
end Go.Proofs.Ytcnclcfipabimaa.tickQuiet
