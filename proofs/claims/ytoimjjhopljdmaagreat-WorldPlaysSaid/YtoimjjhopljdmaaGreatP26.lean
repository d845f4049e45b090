/- Texts TkR ClN: what the claim reaches of them. Conditions stand at each theorem. -/
import Derived.Test.YtoimjjhopljdmaaGreatP25
set_option maxRecDepth 100000
set_option maxHeartbeats 8000000
namespace Go.Proofs.YtoimjjhopljdmaaGreat
open Go.RowKit
open Go.Proofs.Tryz (prog)
open Go.Value (int)
open Go.IntKind (i64)
open Go.Lib (hid)
section
def ldRs (a : Addr) : Sem Value := loadVar 108 a
def stRs (a : Addr) (v : Value) : Sem Unit := storeVar 108 a v
theorem loadVar_ldRs (a : Addr) : loadVar 108 a = ldRs a := rfl
theorem storeVar_stRs (a : Addr) (v : Value) : storeVar 108 a v = stRs a v := rfl
theorem ldRs_of {W : World} {b o : Nat} (cs : List Value) (hl : cs.length = 3) (h : ∀ j v, cs[j]? = some v → W.cell? ⟨b, o + j, none⟩ = some v) : (ldRs ⟨b, o, none⟩).run prog W = .ok (.agg cs.toArray) W := by
 have h1 := Go.Proofs.run_loadCellsFrom_list prog W ⟨b, o, none⟩ cs 3 hl (fun j v hj => by rw [Addr.add_lit]; exact h j v hj)
 simp [ldRs, loadVar, loadCells, h1]
theorem stRs_of {W W' : World} {a : Addr} {cs : List Value} (hl : cs.length = 3) (h : Sem.run prog (storeCells a cs 0) W = .ok () W') : (stRs a (.agg cs.toArray)).run prog W = .ok () W' := by
 simp [stRs, storeVar, Value.cells, hl, h]
attribute [local go_sem ↓] loadVar_ldRs storeVar_stRs
def RunN (w : World) (own gone : List Bun) (dead : List Nid) (e : Ending) (w' : World) : Prop :=
 ∃ va vb vd, e = .returned (.agg #[va, vb, vd]) ∧ Below w.heap.size w w' ∧ BNew w w' va own ∧ BNew w w' vb gone ∧ RNew nidL 30 3 w w' vd dead
theorem RunN.q {w : World} {own gone : List Bun} {dead : List Nid} {e : Ending} {w' : World} (h : RunN w own gone dead e w') : RunQ w own gone dead e w' := by
 obtain ⟨va, vb, vd, rfl, hb, h1, h2, h3⟩ := h
 exact ⟨va, vb, vd, rfl, hb, h1.bin, h2.bin, h3.rin⟩
theorem prun_new (bm : Nat) (c : Cfg) (z : Int) (vo vn vc : Value) (own near : List Bun) (ms : List Cm) (w : World) (hm : MapAt w bm c) (ho : CfgOk c) (hz0 : -1 ≤ z) (hz1 : z < c.cols * c.rows) (h1 : BIn w vo own) (h2 : BIn w vn near) (h3 : RIn cmC w vc ms)
 (hf1 : ∀ b ∈ own, BFit b) (hf3 : ∀ m ∈ ms, CmFit m) (hl1 : own.length ≤ 400) (hl2 : near.length ≤ 400) (hl3 : ms.length ≤ 400) :
 Calls prog 59 #[.pointer (some ⟨bm, 0, none⟩), int i64 z, vo, vn, vc] w (RunN w (ownL c z own near ms) (goneL c z own near ms) (setN (deadN c z own near ms))) := by
 obtain ⟨i0, hi0, hz0', hz1', hz2'⟩ := info_parts info_bunJ
 obtain ⟨wz, hwz, hbz, k5, k10, g5, g10, hsz⟩ := two_boxes w #[.pointer (some ⟨bm, 0, none⟩)] #[.slice none 0 0, .slice none 0 0, .slice none 0 0] 110 108
 have hmz := hm.grow hbz
 have HMZ := hid hmz
 have HCN := hid (fun W (hW : Below wz.heap.size wz W) => zcount_any W bm c (hmz.grow hW) ho)
 have HSO := hid (fun W (hW : Below wz.heap.size wz W) => sorted_any vo own W ((h1.keep hbz).keep hW) (by omega))
 have HHI := hid (fun W (hW : Below wz.heap.size wz W) => hits_any c.radius vo vn own near W ((h1.keep hbz).keep hW) ((h2.keep hbz).keep hW) (by omega) (by omega))
 have H3 := hid (h3.keep hbz)
 have HF1 := hid hf1; have HF3 := hid hf3; have HO := hid ho
 have HBZ := hid hbz
 have d1 : ¬ z < -1 := by omega
 have d2 : ¬ c.cols * c.rows ≤ z := by omega
 have HZ := hid hz1
 have x5 := k5 0
 simp at x5
 have s5 : w.heap.size < wz.heap.size := by omega
 obtain ⟨u0, u1, u2⟩ := ltz s5
 have hbm := (Array.getElem?_eq_some_iff.1 hmz).1
 obtain ⟨u3, u4, u5⟩ := ltz hbm
 have hrad := hmz.cell 3
 simp at hrad
 have HSZ := hid hsz
 have K10 := hid k10; have G10 := hid g10
 obtain ⟨po, eo, rfl, _⟩ := h1
 obtain ⟨pn, en, rfl, _⟩ := h2
 obtain ⟨pc, ec, rfl, hmc, _⟩ := h3
 unfold maxLen at hmc
 clear hm ho hz0 hz1 hf1 hf3 hbz hmz hsz k5 k10 g5 g10
 go_enter Tryz.func59, Tryz.ntmps59
 go_upto_region 1 with fail
 rw [← hwz]
 clear hwz
 go_wp2_with (go_at_call 81; refine (HCN.out _ bg).mono ?_; rintro e w' ⟨rfl, hb⟩; obtain ⟨d1', os1, rfl⟩ := more_of hb; clear hb)
 go_region_held3 (fun W => (wz).heap.size ≤ W.heap.size ∧ ∀ b o, b < (wz).heap.size → W.cell? ⟨b, o, none⟩ = (wz).cell? ⟨b, o, none⟩) (with_reducible (repeat (first | assumption | exact s_refl _ | exact s_id _ | refine s_more _ _ ?_ | refine s_alloc _ ?_ | refine s_drew ?_))) (first | (go_at_call 96; refine (HSO.out _ bg).mono ?_; rintro e w' ⟨vs, rfl, hS⟩; obtain ⟨ps, cs, rfl⟩ := sl_frm hS.1; have hSb := hS.2.1; obtain ⟨d2', os2, rfl⟩ := more_of hSb; clear hSb))
 have hgr := (hS.grow (new_box (more (more wz (d1' + 1) os1) d2' os2) #[.pointer (some ⟨bm, 0, none⟩), .slice ps (stableF cmpBun own).length cs, .slice none 0 0, .slice none 0 0, .slice none 0 0] 154 (wz.heap.size + os1.size + os2.size) (by simp)).2.2.2)
 obtain ⟨kb, gb, sb, bb⟩ := new_box (more (more wz (d1' + 1) os1) d2' os2) #[.pointer (some ⟨bm, 0, none⟩), .slice ps (stableF cmpBun own).length cs, .slice none 0 0, .slice none 0 0, .slice none 0 0] 154 (wz.heap.size + os1.size + os2.size) (by simp)
 have hb3 : Below wz.heap.size wz ((more (more wz (d1' + 1) os1) d2' os2).alloc (.cells #[.pointer (some ⟨bm, 0, none⟩), .slice ps (stableF cmpBun own).length cs, .slice none 0 0, .slice none 0 0, .slice none 0 0] 154)) := bg
 have hst0 : Stg wz ((more (more wz (d1' + 1) os1) d2' os2).alloc (.cells #[.pointer (some ⟨bm, 0, none⟩), .slice ps (stableF cmpBun own).length cs, .slice none 0 0, .slice none 0 0, .slice none 0 0] 154)) (wz.heap.size + os1.size + os2.size) (.pointer (some ⟨bm, 0, none⟩)) (.slice ps (stableF cmpBun own).length cs) (stableF cmpBun own) (.slice none 0 0) (.slice none 0 0) (.slice none 0 0) [] :=
  ⟨hb3, ⟨kb, gb⟩, hgr.1, ⟨rfl, .inl ⟨rfl, rfl⟩⟩, by omega, fun g hg => (by have := hS.2.2 g hg; simp at this; omega), fun g hg => (by cases hg), fun e => (by have := sl_lt hS.1 e; simp at this), fun e => (by cases e), fun g hg e => (by cases e)⟩
 generalize ((more (more wz (d1' + 1) os1) d2' os2).alloc (.cells #[.pointer (some ⟨bm, 0, none⟩), .slice ps (stableF cmpBun own).length cs, .slice none 0 0, .slice none 0 0, .slice none 0 0] 154)) = w3 at *
 generalize wz.heap.size + os1.size + os2.size = b at *
 have HST := hid hst0
 have x5' := (hb3.cell (p := ⟨w.heap.size, 0, none⟩) s5).trans x5
 have hrad' := (hb3.cell (p := ⟨bm, 3, none⟩) hbm).trans hrad
 have hz3 := hb3.size
 have s53 : w.heap.size < w3.heap.size := by omega
 have hbm3 : bm < w3.heap.size := by omega
 obtain ⟨v0, v1, v2⟩ := ltz s53
 obtain ⟨v3, v4, v5⟩ := ltz hbm3
 have HHB := hid (fun W (hW : Below w3.heap.size w3 W) => HHI.out W (hb3.trans (hW.mono hb3.size)))
 have HX5 := hid x5
 have HBM := hid hbm
 clear hgr kb gb bb hst0 hS x5 hrad hz3 u0 u1 u2 u3 u4 u5 hb3
 rename wz.heap.size ≤ w3.heap.size ∧ _ => hHeld
 clear hHeld
 go_upto_region 5 with (go_at_call 97; refine (HHB.out _ bg).mono ?_; rintro e w' ⟨vh, rfl, hH⟩; obtain ⟨ph, eh, rfl⟩ := sl_frm hH.1; have hHb := hH.2.1; obtain ⟨d3', os3, rfl⟩ := more_of hHb; clear hHb)
 obtain ⟨k12, g12, s12, b12⟩ := new_box (more w3 d3' os3) #[.slice ph (hitsF c.radius own near).length eh] 97 (w3.heap.size + os3.size) (by simp)
 have hb4 : Below w3.heap.size w3 ((more w3 d3' os3).alloc (.cells #[.slice ph (hitsF c.radius own near).length eh] 97)) := bg
 have hH4 := hH.grow b12
 have hst4 := HST.out.grow hb4
 have hsb := HST.out.st.lt
 generalize ((more w3 d3' os3).alloc (.cells #[.slice ph (hitsF c.radius own near).length eh] 97)) = w4 at *
 have hbn : w3.heap.size + os3.size ≠ b := by omega
 have hhb : ∀ g, (Value.slice ph (hitsF c.radius own near).length eh).ownBlock = some g → g ≠ b := fun g hg => by have := hH.2.2 g hg; omega
 generalize w3.heap.size + os3.size = n12 at *
 generalize hhs : hitsF c.radius own near = hs at *
 have HHS := hid hhs
 have hrb : RIb hitL w4 (.slice ph hs.length eh) hs := RIb.of_sl hH4.1
 have hfs : ∀ x ∈ stableF cmpBun own, BFit x := fun x hx => HF1.out x ((stF_perm _).mem_iff.1 hx)
 have hcl : ∀ W', Tu2 w4 W' b (.slice none 0 0 : Value).ownBlock → ∀ x ∈ stableF cmpBun own, Calls prog 99 (#[.agg #[int i64 (x).s, int i64 (x).i, int i64 (x).g, int i64 (x).m, int i64 (x).x, int i64 (x).y, int i64 (x).vx, int i64 (x).vy, int i64 (x).hp, int i64 (x).pw, int i64 (x).lf]] ++ #[.pointer (some ⟨n12, 0, none⟩)]) W' fun e w' => e = .returned (.tuple #[.agg #[int i64 ((hitF hs x).1).s, int i64 ((hitF hs x).1).i, int i64 ((hitF hs x).1).g, int i64 ((hitF hs x).1).m, int i64 ((hitF hs x).1).x, int i64 ((hitF hs x).1).y, int i64 ((hitF hs x).1).vx, int i64 ((hitF hs x).1).vy, int i64 ((hitF hs x).1).hp, int i64 ((hitF hs x).1).pw, int i64 ((hitF hs x).1).lf], .bool (hitF hs x).2]) ∧ Below W'.heap.size W' w' := fun W' hW x hx =>
  run1_any x.s x.i x.g x.m x.x x.y x.vx x.vy x.hp x.pw x.lf hs n12 _ W' ((World.cell?_of_block (w := w4) (a := ⟨n12, 0, none⟩) (hW.block n12 s12 hbn (fun e => by cases e))).trans (k12 0)) (hrb.tu hW hhb).1 (hfs x hx).2.2.2.2.2.2.2.2.1
 have HE1 := hid (each_any 99 #[.pointer (some ⟨n12, 0, none⟩)] eg_run1 (hitF hs) b (.pointer (some ⟨bm, 0, none⟩)) _ (.slice none 0 0) (.slice none 0 0) (.slice none 0 0) (stableF cmpBun own) [] w4 hst4.st hst4.sl hst4.lb hst4.sd hst4.db hst4.ld (by rw [stableF_len]; omega) (by simp) hcl)
 have hln : (eachL (hitF hs) (stableF cmpBun own)).length ≤ 400 := by have := eachL_len (hitF hs) (stableF cmpBun own); rw [stableF_len] at this; omega
 have hdn : (eachD (hitF hs) (stableF cmpBun own)).length ≤ 400 := by have := eachD_len (hitF hs) (stableF cmpBun own); rw [stableF_len] at this; omega
 have HFL := hid (bfit_each (fun _ hx => bfit_hit hs hx) hfs)
 have e1 : hurtL c.radius own near = eachL (hitF hs) (stableF cmpBun own) := by unfold hurtL; rw [HHS.out]
 have e2 : hurtN c.radius own near = eachD (hitF hs) (stableF cmpBun own) := by unfold hurtN; rw [HHS.out]
 have HU1 := hid e1; have HU2 := hid e2
 have HS4 := hid hst4
 clear hH hH4 hst4 hcl hrb hfs e1 e2 k12 g12 b12 hhb hb4 hhs x5' hrad' v0 v1 v2 v3 v4 v5 HHB HST HHI HSO
 go_wp2_with fail
 refine HE1.out.mono ?_
 rintro e w' ⟨rfl, lv1, dv1, hE⟩
 obtain ⟨w5, rfl⟩ : ∃ w5 : World, w5 = w' := ⟨_, rfl⟩
 have HS5 := hid (HS4.out.of_ea hE)
 rw [List.nil_append] at HS5
 clear hE HE1 HS4
 generalize eachL (hitF hs) (stableF cmpBun own) = l1 at *
 generalize eachD (hitF hs) (stableF cmpBun own) = dd1 at *
 have HLS := hid (fun t m h => cmdsL_step c z l1 (ms := ms) (t := t) (m := m) h)
 have HNS := hid (fun t m h => cmdsN_step c z l1 (ms := ms) (t := t) (m := m) h)
 have HCL := hid (fun t => cmds_cnt c z (ms.take t) l1)
 go_wp2_with fail
 go_loopg [48] ms.length (fun kx sx wr => ∃ (t : Nat) (lv dv : Value), sx = int i64 t ∧ t ≤ ms.length ∧ ms.length - t ≤ kx ∧ Hid (Stg wz wr b (.pointer (some ⟨bm, 0, none⟩)) lv (cmdsL c z l1 (ms.take t)) (.slice none 0 0) (.slice none 0 0) dv (dd1 ++ cmdsN c z l1 (ms.take t))))
 case atStart => exact ⟨0, _, _, by go_num, by omega, by omega, hid (by simpa [cmdsL, cmdsN] using HS5.out)⟩
 case round =>
  obtain ⟨t, lv, dv, rfl, ht, hkx, HSR⟩ := hrel
  obtain ⟨wa, rfl⟩ : ∃ wa : World, wa = wr := ⟨_, rfl⟩
  by_cases hlt : t < ms.length
  · have t1 : (t : Int) < (ms.length : Int) := by omega
    obtain ⟨m0, hm0⟩ : ∃ m0, ms[t]? = some m0 := ⟨_, List.getElem?_eq_getElem hlt⟩
    obtain ⟨gb, ob, cb, hv, hgb, hcb⟩ := (H3.out.keep HSR.out.bel).cells cmC_len hm0
    simp only [Value.slice.injEq, true_and] at hv
    obtain ⟨rfl, rfl⟩ := hv
    have c0 := hcb 0 _ rfl; have c1 := hcb 1 _ rfl; have c2 := hcb 2 _ rfl; have c3 := hcb 3 _ rfl; have c4 := hcb 4 _ rfl; have c5 := hcb 5 _ rfl; have c6 := hcb 6 _ rfl; have c7 := hcb 7 _ rfl; have c8 := hcb 8 _ rfl; have c9 := hcb 9 _ rfl; have c10 := hcb 10 _ rfl; have c11 := hcb 11 _ rfl; have c12 := hcb 12 _ rfl; have c13 := hcb 13 _ rfl; have c14 := hcb 14 _ rfl; have c15 := hcb 15 _ rfl
    simp only [Nat.add_zero] at c0
    obtain ⟨e0, e1', e2'⟩ := ltz hgb
    have hcl := HCL.out t
    rw [List.length_take] at hcl
    have HSL := hid (HLS.out t m0 hm0)
    have HSN := hid (HNS.out t m0 hm0)
    generalize cmdsL c z l1 (ms.take t) = lt at *
    generalize cmdsN c z l1 (ms.take t) = nt at *
    obtain ⟨mk, msn, mi, mg, ⟨s', i', g', m', x', y', vx', vy', hp', pw', lf'⟩, mmk⟩ := m0
    have hdl : (dd1 ++ nt).length ≤ 1000000 := by rw [List.length_append]; omega
    have HOB := hid (fun W (hW : Below wa.heap.size wa W) => obey_st wz b bm c z lv (.slice none 0 0) (.slice none 0 0) dv lt (dd1 ++ nt) mk msn mi mg s' i' g' m' x' y' vx' vy' hp' pw' lf' mmk W (HSR.out.grow hW) HMZ.out HO.out (by omega) hdl)
    clear hcb hm0
    go_wp2_with (go_at_call 101; refine (HOB.out _ bg).mono ?_; rintro e w' ⟨rfl, lv', dv', hS'⟩)
    go_roundg (ms.length - (t + 1))
    case measure => omega
    case rel => exact ⟨t + 1, lv', dv', by go_num, by omega, by omega, hid (by rw [HSL.out, HSN.out, ← List.append_assoc]; exact hS')⟩
  · have t1 : ¬ (t : Int) < (ms.length : Int) := by omega
    obtain rfl : t = ms.length := by omega
    rw [List.take_length] at HSR
    go_upto_region 11 with fail
    have hcl := HCL.out ms.length
    rw [List.take_length] at hcl
    have HFM := hid (bfit_cmds c z ms l1 HFL.out HF3.out)
    have HE3 := hid (show midL c z own near ms = cmdsL c z l1 ms from by unfold midL; rw [HU1.out])
    have hB' : ∀ W', Tu2 wa W' b dv.ownBlock → Below wz.heap.size wz W' := fun W' hW => hW.below HSR.out.bel HSR.out.bz (fun g hg => by have := HSR.out.dz g hg; have := HSR.out.bz; omega)
    have hc2 : ∀ W', Tu2 wa W' b dv.ownBlock → ∀ x ∈ cmdsL c z l1 ms, Calls prog 102 (#[.agg #[int i64 (x).s, int i64 (x).i, int i64 (x).g, int i64 (x).m, int i64 (x).x, int i64 (x).y, int i64 (x).vx, int i64 (x).vy, int i64 (x).hp, int i64 (x).pw, int i64 (x).lf]] ++ #[.pointer (some ⟨w.heap.size, 0, none⟩)]) W' fun e w' => e = .returned (.tuple #[.agg #[int i64 ((passF c x).1).s, int i64 ((passF c x).1).i, int i64 ((passF c x).1).g, int i64 ((passF c x).1).m, int i64 ((passF c x).1).x, int i64 ((passF c x).1).y, int i64 ((passF c x).1).vx, int i64 ((passF c x).1).vy, int i64 ((passF c x).1).hp, int i64 ((passF c x).1).pw, int i64 ((passF c x).1).lf], .bool (passF c x).2]) ∧ Below W'.heap.size W' w' := fun W' hW x hx =>
     run2_any x.s x.i x.g x.m x.x x.y x.vx x.vy x.hp x.pw x.lf w.heap.size bm c W' (((hB' W' hW).cell (p := ⟨w.heap.size, 0, none⟩) s5).trans HX5.out) (HMZ.out.grow ((hB' W' hW))) HO.out (HFM.out x hx).2.2.2.2.2.2.2.2.2.2
    have HE2 := hid (each_any 102 #[.pointer (some ⟨w.heap.size, 0, none⟩)] eg_run2 (passF c) b (.pointer (some ⟨bm, 0, none⟩)) lv (.slice none 0 0) (.slice none 0 0) dv (cmdsL c z l1 ms) (dd1 ++ cmdsN c z l1 ms) wa HSR.out.st HSR.out.sl HSR.out.lb HSR.out.sd HSR.out.db HSR.out.ld (by omega) (by rw [List.length_append]; omega) hc2)
    have h1l := eachL_len (passF c) (cmdsL c z l1 ms)
    have h1d := eachD_len (passF c) (cmdsL c z l1 ms)
    have HFIN := hid (And.intro (show ownL c z own near ms = (eachL (passF c) (cmdsL c z l1 ms)).filter (inZ c z) from by unfold ownL leftL; rw [HE3.out]) (And.intro (show goneL c z own near ms = (eachL (passF c) (cmdsL c z l1 ms)).filter (fun b => !inZ c z b) from by unfold goneL leftL; rw [HE3.out])
     (show deadN c z own near ms = dd1 ++ cmdsN c z l1 ms ++ eachD (passF c) (cmdsL c z l1 ms) from by unfold deadN; rw [HE3.out, HU1.out, HU2.out])))
    clear hB' hc2
    go_wp2_with fail
    refine HE2.out.mono ?_
    rintro e w' ⟨rfl, lv6, dv6, hE⟩
    obtain ⟨w6, rfl⟩ : ∃ w6 : World, w6 = w' := ⟨_, rfl⟩
    have hS6 := HSR.out.of_ea hE
    have hd6 : (dd1 ++ cmdsN c z l1 ms ++ eachD (passF c) (cmdsL c z l1 ms)).length ≤ 2000 := by simp only [List.length_append]; omega
    clear hE HE2 HSR HS5 HLS HNS HCL HE3
    generalize eachL (passF c) (cmdsL c z l1 ms) = lL at *
    generalize dd1 ++ cmdsN c z l1 ms ++ eachD (passF c) (cmdsL c z l1 ms) = d6 at *
    have HS6 := hid hS6
    have HL6 := hid (show RIb bunL w6 lv6 lL from RIb.of_sl hS6.sl)
    have HLB := hid (fun g (hg : lv6.ownBlock = some g) => show g ≠ b from fun e => hS6.lb (by rw [hg, e]))
    have HRC := hid (Rc.start (n := b) (RIb.of_sl hS6.sd) hS6.dz)
    have HSB := hid hS6.st
    have hiz0 : ∀ b : Bun, inZ c z b = (decide (z < 0) || decide (ofF c b.x b.y = z)) := fun b => rfl
    have HIZ := hid hiz0
    have hb6 := hS6.bel
    have HOF := hid (fun x y W (hW : Below w6.heap.size w6 W ∨ Below wz.heap.size wz W) => zof_any W bm c x y (HMZ.out.grow (hW.elim (fun h => hb6.trans (h.mono hb6.size)) id)) HO.out)
    have HFS : Hid (∀ (t : Nat) (x : Bun), lL[t]? = some x → (lL.take (t + 1)).filter (inZ c z) = (lL.take t).filter (inZ c z) ++ (if inZ c z x = true then [x] else []) ∧ (lL.take (t + 1)).filter (fun b => !inZ c z b) = (lL.take t).filter (fun b => !inZ c z b) ++ (if (!inZ c z x) = true then [x] else [])) := hid (fun t x h => And.intro (filter_step2 (inZ c z) h) (filter_step2 (fun b => !inZ c z b) h))
    have sb6 := hS6.st.lt
    have x61 := hS6.st.c 1
    simp at x61
    obtain ⟨pl6, cl6, rfl⟩ := sl_frm hS6.sl
    obtain ⟨y0, y1, y2⟩ := ltz sb6
    generalize inZ c z = inb at *
    clear hiz0 hS6
    go_wp2_with fail
    go_loopg [65] lL.length (fun kx sx wr => ∃ (t : Nat) (va vb : Value), sx = int i64 t ∧ t ≤ lL.length ∧ lL.length - t ≤ kx ∧ Hid (Rc w6 wr b va vb dv6 ((lL.take t).filter inb) ((lL.take t).filter fun b => !inb b) d6) ∧ Hid (StB wr b (.pointer (some ⟨bm, 0, none⟩)) (.slice pl6 lL.length cl6) va vb dv6))
    case atStart => exact ⟨0, _, _, by go_num, by omega, by omega, HRC, HSB⟩
    case round =>
     clear HRC HSB x61 y0 y1 y2
     obtain ⟨t, va, vb, rfl, ht, hkx2, HR, HX⟩ := hrel
     obtain ⟨wb, rfl⟩ : ∃ wb : World, wb = wr := ⟨_, rfl⟩
     have hta := HR.out.tu
     have hza := hta.size
     obtain ⟨pva, cva, hva⟩ := sl_frm HR.out.a
     subst hva
     obtain ⟨pvb, cvb, hvb⟩ := sl_frm HR.out.b
     subst hvb
     have hla := List.length_filter_le inb (lL.take t)
     have hlb := List.length_filter_le (fun b => !inb b) (lL.take t)
     rw [List.length_take] at hla hlb
     have hbb := hta.below HS6.out.bel HS6.out.bz (fun g hg => by cases hg)
     have HBB := hid hbb
     by_cases hlt2 : t < lL.length
     · have t2 : (t : Int) < (lL.length : Int) := by omega
       obtain ⟨x0, hx0⟩ : ∃ x0, lL[t]? = some x0 := ⟨_, List.getElem?_eq_getElem hlt2⟩
       obtain ⟨gb, ob, cb, hv, hgb, hcb⟩ := BIn.cells (HL6.out.tu hta HLB.out).1 hx0
       simp only [Value.slice.injEq, true_and] at hv
       obtain ⟨rfl, rfl⟩ := hv
       have c0 := hcb 0 _ rfl; have c1 := hcb 1 _ rfl; have c2 := hcb 2 _ rfl; have c3 := hcb 3 _ rfl; have c4 := hcb 4 _ rfl; have c5 := hcb 5 _ rfl; have c6 := hcb 6 _ rfl; have c7 := hcb 7 _ rfl; have c8 := hcb 8 _ rfl; have c9 := hcb 9 _ rfl; have c10 := hcb 10 _ rfl
       simp only [Nat.add_zero] at c0
       obtain ⟨e0, e1', e2'⟩ := ltz hgb
       have HXS := hid (HFS.out t x0 hx0)
       have hiz := HIZ.out x0
       have HOX := hid (HOF.out x0.x x0.y)
       have x5b := (hbb.cell (p := ⟨w.heap.size, 0, none⟩) s5).trans HX5.out
       have s5b : w.heap.size < wb.heap.size := Nat.lt_of_lt_of_le s5 hbb.size
       obtain ⟨v0, v1, v2⟩ := ltz s5b
       generalize ofF c x0.x x0.y = oz at *
       obtain ⟨s, i, g, m, x, y, vx, vy, hp, pw, lf⟩ := x0
       simp only at HOX hiz c0 c1 c2 c3 c4 c5 c6 c7 c8 c9 c10
       have HIZ2 := hid hiz
       clear hcb hx0 hiz hta hbb
       by_cases hz : z < 0
       · have HIN := hid (show inb ⟨s, i, g, m, x, y, vx, vy, hp, pw, lf⟩ = true from by rw [HIZ2.out]; simp [hz])
         have HF1 := hid (show (if inb ⟨s, i, g, m, x, y, vx, vy, hp, pw, lf⟩ = true then [(⟨s, i, g, m, x, y, vx, vy, hp, pw, lf⟩ : Bun)] else []) = [⟨s, i, g, m, x, y, vx, vy, hp, pw, lf⟩] from by rw [HIN.out]; rfl)
         have HF2 := hid (show (if (!inb ⟨s, i, g, m, x, y, vx, vy, hp, pw, lf⟩) = true then [(⟨s, i, g, m, x, y, vx, vy, hp, pw, lf⟩ : Bun)] else []) = [] from by rw [HIN.out]; rfl)
         generalize hfa : (lL.take t).filter inb = fa at *
         have HRG := hid HR.out
         clear hfa HIN HIZ2
         go_upto_region 16 with (go_at_call 83; refine (HOX.out _ (.inr (HBB.out.trans (Below.mono (B := wb.heap.size) bg HBB.out.size)))).mono ?_; rintro e w' ⟨rfl, hb⟩; obtain ⟨d7, os7, rfl⟩ := more_of hb; clear hb)
         obtain ⟨k16, g16, s16, b16⟩ := new_box wb #[int i64 s, int i64 i, int i64 g, int i64 m, int i64 x, int i64 y, int i64 vx, int i64 vy, int i64 hp, int i64 pw, int i64 lf] 32 wb.heap.size rfl
         have hw16 : Below (wb.alloc (.cells #[int i64 s, int i64 i, int i64 g, int i64 m, int i64 x, int i64 y, int i64 vx, int i64 vy, int i64 hp, int i64 pw, int i64 lf] 32)).heap.size (wb.alloc (.cells #[int i64 s, int i64 i, int i64 g, int i64 m, int i64 x, int i64 y, int i64 vx, int i64 vy, int i64 hp, int i64 pw, int i64 lf] 32)) (wb.alloc (.cells #[int i64 s, int i64 i, int i64 g, int i64 m, int i64 x, int i64 y, int i64 vx, int i64 vy, int i64 hp, int i64 pw, int i64 lf] 32)) := bg
         replace k16 := box_on hw16 s16 k16
         replace s16 := Nat.lt_of_lt_of_le s16 hw16.size
         have hbx := b16.trans (hw16.mono b16.size)
         have hrx := HRG.out.grow hbx
         have hsx := HX.out.keep (hbx.block b HX.out.lt)
         have hn16 : ∀ g, (Value.slice pva fa.length cva).ownBlock = some g → g < wb.heap.size := fun g hg => sl_lt HRG.out.a hg
         generalize (wb.alloc (.cells #[int i64 s, int i64 i, int i64 g, int i64 m, int i64 x, int i64 y, int i64 vx, int i64 vy, int i64 hp, int i64 pw, int i64 lf] 32)) = wx at *
         generalize wb.heap.size = n16 at *
         have sbx := hsx.lt
         have y0 := k16 0
         have y1 := k16 1
         have y2 := k16 2
         have y3 := k16 3
         have y4 := k16 4
         have y5 := k16 5
         have y6 := k16 6
         have y7 := k16 7
         have y8 := k16 8
         have y9 := k16 9
         have y10 := k16 10
         simp at y0 y1 y2 y3 y4 y5 y6 y7 y8 y9 y10
         have x2 := hsx.c 2
         have f2 := hsx.f 2
         simp at x2
         have HRX := hid hrx; have HSX := hid hsx
         have HN1 := hid (show some b ≠ (Value.slice pva fa.length cva).ownBlock from fun e => by have := hrx.ao b e.symm; omega)
         have HN2 := hid (show some n16 ≠ (Value.slice pva fa.length cva).ownBlock from fun e => by have := hn16 n16 e.symm; omega)
         clear k16 g16 b16 hw16 hbx hrx hsx hn16 x5b v0 v1 v2 c0 c1 c2 c3 c4 c5 c6 c7 c8 c9 c10 e0 e1' e2'
         refine wp_region_x (S := Two wx b n16) 12 (by kernel_rfl) (Two.drew (Two.refl _ _ _)) (fun hHeld => ?_)
         refine anyX_tk 0 (v := ?_) rfl ?_ (by assumption) ?_
         rotate_left 1
         · (intro w hSw; have hSc := hSw.cb; have hSn := hSw.cn; go_simp; (try with_reducible rfl))
         simp [Act.put]
         refine anyX_tk 1 (v := ?_) rfl ?_ (by assumption) ?_
         rotate_left 1
         · (intro w hSw; have hSc := hSw.cb; have hSn := hSw.cn; go_simp; (try with_reducible rfl))
         simp [Act.put]
         refine anyX_tk 2 (v := ?_) rfl ?_ (by assumption) ?_
         rotate_left 1
         · (intro w hSw; have hSc := hSw.cb; have hSn := hSw.cn; go_simp; (try with_reducible rfl))
         simp [Act.put]
         refine anyX_tk 3 (v := ?_) rfl ?_ (by assumption) ?_
         rotate_left 1
         · (intro w hSw; have hSc := hSw.cb; have hSn := hSw.cn; go_simp; (try with_reducible rfl))
         simp [Act.put]
         refine anyX_tk 4 (v := ?_) rfl ?_ (by assumption) ?_
         rotate_left 1
         · (intro w hSw; have hSc := hSw.cb; have hSn := hSw.cn; go_simp; (try with_reducible rfl))
         simp [Act.put]
         refine anyX_tk 5 (v := ?_) rfl ?_ (by assumption) ?_
         rotate_left 1
         · (intro w hSw; have hSc := hSw.cb; have hSn := hSw.cn; go_simp; (try with_reducible rfl))
         simp [Act.put]
         refine anyX_tk 6 (v := ?_) rfl ?_ (by assumption) ?_
         rotate_left 1
         · (intro w hSw; have hSc := hSw.cb; have hSn := hSw.cn; go_simp; (try with_reducible rfl))
         simp [Act.put]
         refine anyX_r1 7 fun K hK => ?_
         go_simp
         refine hK.out _ _ (fun hlt => ?_) (fun hHeld => ?_)
         · with_reducible (repeat (first | assumption | exact Two.refl _ _ _ | refine Two.alloc (by assumption) (by assumption) _ ?_ | refine Two.drew ?_))
         clear hK
         replace hHeld := hHeld (by omega); try simp [Act.put]
         refine anyX_r1 8 fun K hK => ?_
         (refine step_append_sl _ (by rfl) (.tmp 86) (.tmp 88) 37 (by rfl) 32 i0 _ 11 88 Tryz.underlying37 hi0 hz0' hz1' hz2' rfl (by omega) _ fa.length (bunCells fa) (by rfl) (HRX.out.grow bg).a ⟨_, 0, none⟩ 1 1 (bunL ⟨s, i, g, m, x, y, vx, vy, hp, pw, lf⟩) (by rfl) (by rfl) (new_cellsN _ _ _ _ (by simp)) (bunL_one _) (by omega) (by unfold maxLen; omega) (by omega) ?_; intro g4 off4 cap4 w4 hs4 ht4 ho4)
         refine hK.out _ _ (fun hlt => ?_) (fun hHeld => ?_)
         · exact Two.tur sbx s16 HN1.out HN2.out (by with_reducible (repeat (first | assumption | exact Two.refl _ _ _ | refine Two.alloc (by assumption) (by assumption) _ ?_ | refine Two.drew ?_))) ht4
         clear hK
         replace hHeld := hHeld (by omega); try simp [Act.put]
         refine anyX_tk 9 (v := ?_) rfl ?_ (by assumption) ?_
         rotate_left 1
         · (intro w hSw; have hSc := hSw.cb; have hSn := hSw.cn; go_simp; (try with_reducible rfl))
         simp [Act.put]
         refine anyX_tk 10 (v := ?_) rfl ?_ (by assumption) ?_
         rotate_left 1
         · (intro w hSw; have hSc := hSw.cb; have hSn := hSw.cn; go_simp; (try with_reducible rfl))
         simp [Act.put]
         refine anyX_tk 11 (v := ?_) rfl ?_ (by assumption) ?_
         rotate_left 1
         · (intro w hSw; have hSc := hSw.cb; have hSn := hSw.cn; go_simp; (try with_reducible rfl))
         simp [Act.put]
         have hq4 := (hHeld.cb 2).trans x2
         have hf4 := (hHeld.fb 2).trans f2
         refine anyX_r1 12 fun K hK => ?_
         go_simp
         refine hK.out _ _ (fun hlt => ?_) (fun hHeld => ?_)
         · exact absurd hlt (by omega)
         clear hK
         clear hHeld; try simp [Act.put]
         refine anyX_done (by kernel_rfl) ?_ _
         have hm := (HRX.out.grow bg).appA hs4 ht4 (ho4.elim (fun e => .inl e.symm) (fun e => .inr ⟨g4, rfl, e⟩))
         have HM := hid hm
         have hst2 := HSX.out.keep (w' := w4) ((ht4.block b (Nat.lt_of_lt_of_le sbx (Below.size (B := wx.heap.size) (w := wx) bg)) HN1.out).trans (Below.block (B := wx.heap.size) (w := wx) bg b sbx))
         have hst3 := StB.store (u := 2) (by omega) rfl (.slice (some ⟨g4, off4, none⟩) (fa.length + 1) cap4) hst2.c hst2.f
         have HST3 := hid hst3
         clear hs4 ht4 ho4 hm hst2 hst3
         go_wp2_with fail
         go_roundg (lL.length - (t + 1))
         case measure => omega
         case rel => exact ⟨t + 1, _, _, by go_num, by omega, by omega, hid (by rw [HXS.out.1, HXS.out.2, HF1.out, HF2.out, List.append_nil]; exact HM.out.set sb6 2 _), hid ⟨HST3.out.1, HST3.out.2⟩⟩
       · by_cases hoz : oz = z
         · have HIN := hid (show inb ⟨s, i, g, m, x, y, vx, vy, hp, pw, lf⟩ = true from by rw [HIZ2.out]; simp [hoz])
           have HF1 := hid (show (if inb ⟨s, i, g, m, x, y, vx, vy, hp, pw, lf⟩ = true then [(⟨s, i, g, m, x, y, vx, vy, hp, pw, lf⟩ : Bun)] else []) = [⟨s, i, g, m, x, y, vx, vy, hp, pw, lf⟩] from by rw [HIN.out]; rfl)
           have HF2 := hid (show (if (!inb ⟨s, i, g, m, x, y, vx, vy, hp, pw, lf⟩) = true then [(⟨s, i, g, m, x, y, vx, vy, hp, pw, lf⟩ : Bun)] else []) = [] from by rw [HIN.out]; rfl)
           generalize hfa : (lL.take t).filter inb = fa at *
           have HRG := hid HR.out
           clear hfa HIN HIZ2
           go_upto_region 16 with (go_at_call 83; refine (HOX.out _ (.inr (HBB.out.trans (Below.mono (B := wb.heap.size) bg HBB.out.size)))).mono ?_; rintro e w' ⟨rfl, hb⟩; obtain ⟨d7, os7, rfl⟩ := more_of hb; clear hb)
           obtain ⟨k16, g16, s16, b16⟩ := new_box wb #[int i64 s, int i64 i, int i64 g, int i64 m, int i64 x, int i64 y, int i64 vx, int i64 vy, int i64 hp, int i64 pw, int i64 lf] 32 wb.heap.size rfl
           have hw16 : Below (wb.alloc (.cells #[int i64 s, int i64 i, int i64 g, int i64 m, int i64 x, int i64 y, int i64 vx, int i64 vy, int i64 hp, int i64 pw, int i64 lf] 32)).heap.size (wb.alloc (.cells #[int i64 s, int i64 i, int i64 g, int i64 m, int i64 x, int i64 y, int i64 vx, int i64 vy, int i64 hp, int i64 pw, int i64 lf] 32)) (more (wb.alloc (.cells #[int i64 s, int i64 i, int i64 g, int i64 m, int i64 x, int i64 y, int i64 vx, int i64 vy, int i64 hp, int i64 pw, int i64 lf] 32)) d7 os7) := bg
           replace k16 := box_on hw16 s16 k16
           replace s16 := Nat.lt_of_lt_of_le s16 hw16.size
           have hbx := b16.trans (hw16.mono b16.size)
           have hrx := HRG.out.grow hbx
           have hsx := HX.out.keep (hbx.block b HX.out.lt)
           have hn16 : ∀ g, (Value.slice pva fa.length cva).ownBlock = some g → g < wb.heap.size := fun g hg => sl_lt HRG.out.a hg
           generalize (more (wb.alloc (.cells #[int i64 s, int i64 i, int i64 g, int i64 m, int i64 x, int i64 y, int i64 vx, int i64 vy, int i64 hp, int i64 pw, int i64 lf] 32)) d7 os7) = wx at *
           generalize wb.heap.size = n16 at *
           have sbx := hsx.lt
           have y0 := k16 0
           have y1 := k16 1
           have y2 := k16 2
           have y3 := k16 3
           have y4 := k16 4
           have y5 := k16 5
           have y6 := k16 6
           have y7 := k16 7
           have y8 := k16 8
           have y9 := k16 9
           have y10 := k16 10
           simp at y0 y1 y2 y3 y4 y5 y6 y7 y8 y9 y10
           have x2 := hsx.c 2
           have f2 := hsx.f 2
           simp at x2
           have HRX := hid hrx; have HSX := hid hsx
           have HN1 := hid (show some b ≠ (Value.slice pva fa.length cva).ownBlock from fun e => by have := hrx.ao b e.symm; omega)
           have HN2 := hid (show some n16 ≠ (Value.slice pva fa.length cva).ownBlock from fun e => by have := hn16 n16 e.symm; omega)
           clear k16 g16 b16 hw16 hbx hrx hsx hn16 x5b v0 v1 v2 c0 c1 c2 c3 c4 c5 c6 c7 c8 c9 c10 e0 e1' e2'
           refine wp_region_x (S := Two wx b n16) 12 (by kernel_rfl) (Two.drew (Two.refl _ _ _)) (fun hHeld => ?_)
           refine anyX_tk 0 (v := ?_) rfl ?_ (by assumption) ?_
           rotate_left 1
           · (intro w hSw; have hSc := hSw.cb; have hSn := hSw.cn; go_simp; (try with_reducible rfl))
           simp [Act.put]
           refine anyX_tk 1 (v := ?_) rfl ?_ (by assumption) ?_
           rotate_left 1
           · (intro w hSw; have hSc := hSw.cb; have hSn := hSw.cn; go_simp; (try with_reducible rfl))
           simp [Act.put]
           refine anyX_tk 2 (v := ?_) rfl ?_ (by assumption) ?_
           rotate_left 1
           · (intro w hSw; have hSc := hSw.cb; have hSn := hSw.cn; go_simp; (try with_reducible rfl))
           simp [Act.put]
           refine anyX_tk 3 (v := ?_) rfl ?_ (by assumption) ?_
           rotate_left 1
           · (intro w hSw; have hSc := hSw.cb; have hSn := hSw.cn; go_simp; (try with_reducible rfl))
           simp [Act.put]
           refine anyX_tk 4 (v := ?_) rfl ?_ (by assumption) ?_
           rotate_left 1
           · (intro w hSw; have hSc := hSw.cb; have hSn := hSw.cn; go_simp; (try with_reducible rfl))
           simp [Act.put]
           refine anyX_tk 5 (v := ?_) rfl ?_ (by assumption) ?_
           rotate_left 1
           · (intro w hSw; have hSc := hSw.cb; have hSn := hSw.cn; go_simp; (try with_reducible rfl))
           simp [Act.put]
           refine anyX_tk 6 (v := ?_) rfl ?_ (by assumption) ?_
           rotate_left 1
           · (intro w hSw; have hSc := hSw.cb; have hSn := hSw.cn; go_simp; (try with_reducible rfl))
           simp [Act.put]
           refine anyX_r1 7 fun K hK => ?_
           go_simp
           refine hK.out _ _ (fun hlt => ?_) (fun hHeld => ?_)
           · with_reducible (repeat (first | assumption | exact Two.refl _ _ _ | refine Two.alloc (by assumption) (by assumption) _ ?_ | refine Two.drew ?_))
           clear hK
           replace hHeld := hHeld (by omega); try simp [Act.put]
           refine anyX_r1 8 fun K hK => ?_
           (refine step_append_sl _ (by rfl) (.tmp 86) (.tmp 88) 37 (by rfl) 32 i0 _ 11 88 Tryz.underlying37 hi0 hz0' hz1' hz2' rfl (by omega) _ fa.length (bunCells fa) (by rfl) (HRX.out.grow bg).a ⟨_, 0, none⟩ 1 1 (bunL ⟨s, i, g, m, x, y, vx, vy, hp, pw, lf⟩) (by rfl) (by rfl) (new_cellsN _ _ _ _ (by simp)) (bunL_one _) (by omega) (by unfold maxLen; omega) (by omega) ?_; intro g4 off4 cap4 w4 hs4 ht4 ho4)
           refine hK.out _ _ (fun hlt => ?_) (fun hHeld => ?_)
           · exact Two.tur sbx s16 HN1.out HN2.out (by with_reducible (repeat (first | assumption | exact Two.refl _ _ _ | refine Two.alloc (by assumption) (by assumption) _ ?_ | refine Two.drew ?_))) ht4
           clear hK
           replace hHeld := hHeld (by omega); try simp [Act.put]
           refine anyX_tk 9 (v := ?_) rfl ?_ (by assumption) ?_
           rotate_left 1
           · (intro w hSw; have hSc := hSw.cb; have hSn := hSw.cn; go_simp; (try with_reducible rfl))
           simp [Act.put]
           refine anyX_tk 10 (v := ?_) rfl ?_ (by assumption) ?_
           rotate_left 1
           · (intro w hSw; have hSc := hSw.cb; have hSn := hSw.cn; go_simp; (try with_reducible rfl))
           simp [Act.put]
           refine anyX_tk 11 (v := ?_) rfl ?_ (by assumption) ?_
           rotate_left 1
           · (intro w hSw; have hSc := hSw.cb; have hSn := hSw.cn; go_simp; (try with_reducible rfl))
           simp [Act.put]
           have hq4 := (hHeld.cb 2).trans x2
           have hf4 := (hHeld.fb 2).trans f2
           refine anyX_r1 12 fun K hK => ?_
           go_simp
           refine hK.out _ _ (fun hlt => ?_) (fun hHeld => ?_)
           · exact absurd hlt (by omega)
           clear hK
           clear hHeld; try simp [Act.put]
           refine anyX_done (by kernel_rfl) ?_ _
           have hm := (HRX.out.grow bg).appA hs4 ht4 (ho4.elim (fun e => .inl e.symm) (fun e => .inr ⟨g4, rfl, e⟩))
           have HM := hid hm
           have hst2 := HSX.out.keep (w' := w4) ((ht4.block b (Nat.lt_of_lt_of_le sbx (Below.size (B := wx.heap.size) (w := wx) bg)) HN1.out).trans (Below.block (B := wx.heap.size) (w := wx) bg b sbx))
           have hst3 := StB.store (u := 2) (by omega) rfl (.slice (some ⟨g4, off4, none⟩) (fa.length + 1) cap4) hst2.c hst2.f
           have HST3 := hid hst3
           clear hs4 ht4 ho4 hm hst2 hst3
           go_wp2_with fail
           go_roundg (lL.length - (t + 1))
           case measure => omega
           case rel => exact ⟨t + 1, _, _, by go_num, by omega, by omega, hid (by rw [HXS.out.1, HXS.out.2, HF1.out, HF2.out, List.append_nil]; exact HM.out.set sb6 2 _), hid ⟨HST3.out.1, HST3.out.2⟩⟩
         · have HIN := hid (show inb ⟨s, i, g, m, x, y, vx, vy, hp, pw, lf⟩ = false from by rw [HIZ2.out]; simp [hoz, hz])
           have HF1 := hid (show (if inb ⟨s, i, g, m, x, y, vx, vy, hp, pw, lf⟩ = true then [(⟨s, i, g, m, x, y, vx, vy, hp, pw, lf⟩ : Bun)] else []) = [] from by rw [HIN.out]; rfl)
           have HF2 := hid (show (if (!inb ⟨s, i, g, m, x, y, vx, vy, hp, pw, lf⟩) = true then [(⟨s, i, g, m, x, y, vx, vy, hp, pw, lf⟩ : Bun)] else []) = [⟨s, i, g, m, x, y, vx, vy, hp, pw, lf⟩] from by rw [HIN.out]; rfl)
           generalize hfa : (lL.take t).filter (fun b => !inb b) = fa at *
           have HRG := hid HR.out.swap
           clear hfa HIN HIZ2
           go_upto_region 17 with (go_at_call 83; refine (HOX.out _ (.inr (HBB.out.trans (Below.mono (B := wb.heap.size) bg HBB.out.size)))).mono ?_; rintro e w' ⟨rfl, hb⟩; obtain ⟨d7, os7, rfl⟩ := more_of hb; clear hb)
           obtain ⟨k16, g16, s16, b16⟩ := new_box wb #[int i64 s, int i64 i, int i64 g, int i64 m, int i64 x, int i64 y, int i64 vx, int i64 vy, int i64 hp, int i64 pw, int i64 lf] 32 wb.heap.size rfl
           have hw16 : Below (wb.alloc (.cells #[int i64 s, int i64 i, int i64 g, int i64 m, int i64 x, int i64 y, int i64 vx, int i64 vy, int i64 hp, int i64 pw, int i64 lf] 32)).heap.size (wb.alloc (.cells #[int i64 s, int i64 i, int i64 g, int i64 m, int i64 x, int i64 y, int i64 vx, int i64 vy, int i64 hp, int i64 pw, int i64 lf] 32)) (more (wb.alloc (.cells #[int i64 s, int i64 i, int i64 g, int i64 m, int i64 x, int i64 y, int i64 vx, int i64 vy, int i64 hp, int i64 pw, int i64 lf] 32)) d7 os7) := bg
           replace k16 := box_on hw16 s16 k16
           replace s16 := Nat.lt_of_lt_of_le s16 hw16.size
           have hbx := b16.trans (hw16.mono b16.size)
           have hrx := HRG.out.grow hbx
           have hsx := HX.out.keep (hbx.block b HX.out.lt)
           have hn16 : ∀ g, (Value.slice pvb fa.length cvb).ownBlock = some g → g < wb.heap.size := fun g hg => sl_lt HRG.out.a hg
           generalize (more (wb.alloc (.cells #[int i64 s, int i64 i, int i64 g, int i64 m, int i64 x, int i64 y, int i64 vx, int i64 vy, int i64 hp, int i64 pw, int i64 lf] 32)) d7 os7) = wx at *
           generalize wb.heap.size = n16 at *
           have sbx := hsx.lt
           have y0 := k16 0
           have y1 := k16 1
           have y2 := k16 2
           have y3 := k16 3
           have y4 := k16 4
           have y5 := k16 5
           have y6 := k16 6
           have y7 := k16 7
           have y8 := k16 8
           have y9 := k16 9
           have y10 := k16 10
           simp at y0 y1 y2 y3 y4 y5 y6 y7 y8 y9 y10
           have x2 := hsx.c 3
           have f2 := hsx.f 3
           simp at x2
           have HRX := hid hrx; have HSX := hid hsx
           have HN1 := hid (show some b ≠ (Value.slice pvb fa.length cvb).ownBlock from fun e => by have := hrx.ao b e.symm; omega)
           have HN2 := hid (show some n16 ≠ (Value.slice pvb fa.length cvb).ownBlock from fun e => by have := hn16 n16 e.symm; omega)
           clear k16 g16 b16 hw16 hbx hrx hsx hn16 x5b v0 v1 v2 c0 c1 c2 c3 c4 c5 c6 c7 c8 c9 c10 e0 e1' e2'
           refine wp_region_x (S := Two wx b n16) 12 (by kernel_rfl) (Two.drew (Two.refl _ _ _)) (fun hHeld => ?_)
           refine anyX_tk 0 (v := ?_) rfl ?_ (by assumption) ?_
           rotate_left 1
           · (intro w hSw; have hSc := hSw.cb; have hSn := hSw.cn; go_simp; (try with_reducible rfl))
           simp [Act.put]
           refine anyX_tk 1 (v := ?_) rfl ?_ (by assumption) ?_
           rotate_left 1
           · (intro w hSw; have hSc := hSw.cb; have hSn := hSw.cn; go_simp; (try with_reducible rfl))
           simp [Act.put]
           refine anyX_tk 2 (v := ?_) rfl ?_ (by assumption) ?_
           rotate_left 1
           · (intro w hSw; have hSc := hSw.cb; have hSn := hSw.cn; go_simp; (try with_reducible rfl))
           simp [Act.put]
           refine anyX_tk 3 (v := ?_) rfl ?_ (by assumption) ?_
           rotate_left 1
           · (intro w hSw; have hSc := hSw.cb; have hSn := hSw.cn; go_simp; (try with_reducible rfl))
           simp [Act.put]
           refine anyX_tk 4 (v := ?_) rfl ?_ (by assumption) ?_
           rotate_left 1
           · (intro w hSw; have hSc := hSw.cb; have hSn := hSw.cn; go_simp; (try with_reducible rfl))
           simp [Act.put]
           refine anyX_tk 5 (v := ?_) rfl ?_ (by assumption) ?_
           rotate_left 1
           · (intro w hSw; have hSc := hSw.cb; have hSn := hSw.cn; go_simp; (try with_reducible rfl))
           simp [Act.put]
           refine anyX_tk 6 (v := ?_) rfl ?_ (by assumption) ?_
           rotate_left 1
           · (intro w hSw; have hSc := hSw.cb; have hSn := hSw.cn; go_simp; (try with_reducible rfl))
           simp [Act.put]
           refine anyX_r1 7 fun K hK => ?_
           go_simp
           refine hK.out _ _ (fun hlt => ?_) (fun hHeld => ?_)
           · with_reducible (repeat (first | assumption | exact Two.refl _ _ _ | refine Two.alloc (by assumption) (by assumption) _ ?_ | refine Two.drew ?_))
           clear hK
           replace hHeld := hHeld (by omega); try simp [Act.put]
           refine anyX_r1 8 fun K hK => ?_
           (refine step_append_sl _ (by rfl) (.tmp 98) (.tmp 100) 37 (by rfl) 32 i0 _ 11 88 Tryz.underlying37 hi0 hz0' hz1' hz2' rfl (by omega) _ fa.length (bunCells fa) (by rfl) (HRX.out.grow bg).a ⟨_, 0, none⟩ 1 1 (bunL ⟨s, i, g, m, x, y, vx, vy, hp, pw, lf⟩) (by rfl) (by rfl) (new_cellsN _ _ _ _ (by simp)) (bunL_one _) (by omega) (by unfold maxLen; omega) (by omega) ?_; intro g4 off4 cap4 w4 hs4 ht4 ho4)
           refine hK.out _ _ (fun hlt => ?_) (fun hHeld => ?_)
           · exact Two.tur sbx s16 HN1.out HN2.out (by with_reducible (repeat (first | assumption | exact Two.refl _ _ _ | refine Two.alloc (by assumption) (by assumption) _ ?_ | refine Two.drew ?_))) ht4
           clear hK
           replace hHeld := hHeld (by omega); try simp [Act.put]
           refine anyX_tk 9 (v := ?_) rfl ?_ (by assumption) ?_
           rotate_left 1
           · (intro w hSw; have hSc := hSw.cb; have hSn := hSw.cn; go_simp; (try with_reducible rfl))
           simp [Act.put]
           refine anyX_tk 10 (v := ?_) rfl ?_ (by assumption) ?_
           rotate_left 1
           · (intro w hSw; have hSc := hSw.cb; have hSn := hSw.cn; go_simp; (try with_reducible rfl))
           simp [Act.put]
           refine anyX_tk 11 (v := ?_) rfl ?_ (by assumption) ?_
           rotate_left 1
           · (intro w hSw; have hSc := hSw.cb; have hSn := hSw.cn; go_simp; (try with_reducible rfl))
           simp [Act.put]
           have hq4 := (hHeld.cb 3).trans x2
           have hf4 := (hHeld.fb 3).trans f2
           refine anyX_r1 12 fun K hK => ?_
           go_simp
           refine hK.out _ _ (fun hlt => ?_) (fun hHeld => ?_)
           · exact absurd hlt (by omega)
           clear hK
           clear hHeld; try simp [Act.put]
           refine anyX_done (by kernel_rfl) ?_ _
           have hm := (HRX.out.grow bg).appA hs4 ht4 (ho4.elim (fun e => .inl e.symm) (fun e => .inr ⟨g4, rfl, e⟩))
           have HM := hid hm
           have hst2 := HSX.out.keep (w' := w4) ((ht4.block b (Nat.lt_of_lt_of_le sbx (Below.size (B := wx.heap.size) (w := wx) bg)) HN1.out).trans (Below.block (B := wx.heap.size) (w := wx) bg b sbx))
           have hst3 := StB.store (u := 3) (by omega) rfl (.slice (some ⟨g4, off4, none⟩) (fa.length + 1) cap4) hst2.c hst2.f
           have HST3 := hid hst3
           clear hs4 ht4 ho4 hm hst2 hst3
           go_wp2_with fail
           go_roundg (lL.length - (t + 1))
           case measure => omega
           case rel => exact ⟨t + 1, _, _, by go_num, by omega, by omega, hid (by rw [HXS.out.1, HXS.out.2, HF1.out, HF2.out, List.append_nil]; exact HM.out.swap.set sb6 3 _), hid ⟨HST3.out.1, HST3.out.2⟩⟩
     · have t2 : ¬ (t : Int) < (lL.length : Int) := by omega
       obtain rfl : t = lL.length := by omega
       rw [List.take_length] at HR HX hla hlb
       generalize lL.filter inb = fo at *
       generalize lL.filter (fun b => !inb b) = fg at *
       have hsd : Sl wb 30 3 dv6 d6.length (cellsR nidL d6) := HS6.out.sd.keep fun g hg => hta.block g (sl_lt HS6.out.sd hg) (fun e => HS6.out.db (by rw [hg, e])) (fun e => by cases e)
       have HSO := hid (sortN_any dv6 d6 wb hsd (by omega))
       have x4 := HX.out.c 4
       simp at x4
       have sbb := HX.out.lt
       obtain ⟨y0, y1, y2⟩ := ltz sbb
       obtain ⟨pd6, cd6, rfl⟩ := sl_frm hsd
       have HDB := hid HS6.out.db
       have HDZ := hid HS6.out.dz
       have HBZ2 := hid HS6.out.bz
       have HSD := hid hsd
       clear hta hbb hsd
       go_wp2_with fail
       refine HSO.out.mono ?_
       rintro e w' ⟨rfl, hs7, ht7⟩
       obtain ⟨w7, rfl⟩ : ∃ w7 : World, w7 = w' := ⟨_, rfl⟩
       have hz7 := ht7.size
       have hnb : some b ≠ (Value.slice pd6 d6.length cd6).ownBlock := fun e => HDB.out e.symm
       have hx7 := HX.out.keep (ht7.block b sbb hnb)
       have ha7 := HR.out.a.keep fun g hg => ht7.block g (sl_lt HR.out.a hg) (fun e => HR.out.ad g hg e.symm)
       have hb7 := HR.out.b.keep fun g hg => ht7.block g (sl_lt HR.out.b hg) (fun e => HR.out.bd g hg e.symm)
       have hw7 := Turned.below_new ht7 (fun k hk => by have := HDZ.out k hk; have := HBZ2.out; omega) HBB.out HBB.out.size
       have hsl : (sortN d6).length = d6.length := (sortN_perm d6).length_eq
       have HCO := hid (comp_any (.slice pd6 d6.length cd6) (sortN d6) w7 (by rw [hsl]; exact hs7) (by rw [hsl]; omega))
       have x47 := hx7.c 4
       simp at x47
       have sb7 := hx7.lt
       have f47 := hx7.f 4
       obtain ⟨y3, y4, y5⟩ := ltz sb7
       have HX7 := hid hx7; have HA7 := hid ha7; have HB7 := hid hb7; have HW7 := hid hw7; have HS7 := hid hs7
       clear hx7 ha7 hb7 hw7 hs7 ht7 HSO x4 y0 y1 y2 hz7
       go_wp2_with fail
       refine HCO.out.mono ?_
       rintro e w' ⟨v8, rfl, hs8, ht8, ho8⟩
       obtain ⟨w8, rfl⟩ : ∃ w8 : World, w8 = w' := ⟨_, rfl⟩
       obtain ⟨p8, c8', rfl⟩ := sl_frm hs8
       have hx8 := HX7.out.keep (ht8.block b sb7 hnb)
       have ha8 := HA7.out.keep fun g hg => ht8.block g (sl_lt HA7.out hg) (fun e => HR.out.ad g hg e.symm)
       have hb8 := HB7.out.keep fun g hg => ht8.block g (sl_lt HB7.out hg) (fun e => HR.out.bd g hg e.symm)
       have hw8 := Turned.below_new ht8 (fun k hk => by have := HDZ.out k hk; have := HBZ2.out; omega) HW7.out HW7.out.size
       have f48 := hx8.f 4
       have x48 := hx8.c 4
       simp at x48
       have sb8 := hx8.lt
       obtain ⟨q1, q2⟩ := StB.store (u := 4) (by omega) rfl (.slice p8 (compF (sortN d6)).length c8') hx8.c hx8.f
       have hkk : ∀ k, k ≠ b → (w8.setCell ⟨b, 4, none⟩ (.slice p8 (compF (sortN d6)).length c8')).heap[k]? = w8.heap[k]? := fun k hk => Below.heap_setCell _ _ _ _ (fun e => hk e)
       have ha9 := ha8.keep fun g hg => hkk g (by have := HR.out.ao g hg; omega)
       have hb9 := hb8.keep fun g hg => hkk g (by have := HR.out.bo g hg; omega)
       have hd9 := hs8.keep fun g hg => hkk g (fun e => HDB.out (by rw [← ho8, hg, e]))
       have hw9 : Below wz.heap.size wz (w8.setCell ⟨b, 4, none⟩ (.slice p8 (compF (sortN d6)).length c8')) := Turned.below_new (setCells_turned b [.slice p8 (compF (sortN d6)).length c8'] 4 w8) (fun k e => by cases e; exact HBZ2.out) hw8 hw8.size
       have HA9 := hid ha9; have HB9 := hid hb9; have HD9 := hid hd9; have HW9 := hid hw9; have HQ1 := hid q1; have HQ2 := hid q2
       clear ha8 hb8 hw8 hx8 hs8 ht8 ha9 hb9 hd9 hw9 q1 q2 hkk x47 f47 HX7 HA7 HB7 HW7 HS7 HCO y3 y4 y5
       go_upto_region 21 with fail
       generalize w8.setCell ⟨b, 4, none⟩ (.slice p8 (compF (sortN d6)).length c8') = w9 at *
       have h10 : w.heap.size + 1 < wz.heap.size := by have := HSZ.out; omega
       have hn1 : ∀ u, w9.cell? ⟨w.heap.size + 1, u, none⟩ = (#[.slice none 0 0, .slice none 0 0, .slice none 0 0] : Array Value)[u]? := fun u => (HW9.out.cell (p := ⟨w.heap.size + 1, u, none⟩) h10).trans (K10.out u)
       have hn2 : ∀ u, w9.frozen? ⟨w.heap.size + 1, u, none⟩ = false := fun u => (World.frozen?_of_block (w := wz) (a := ⟨w.heap.size + 1, u, none⟩) (HW9.out.block _ h10)).trans (G10.out u)
       have hld : (ldRs ⟨b, 2, none⟩).run prog w9 = .ok (.agg #[.slice pva fo.length cva, .slice pvb fg.length cvb, .slice p8 (compF (sortN d6)).length c8']) w9 := ldRs_of [.slice pva fo.length cva, .slice pvb fg.length cvb, .slice p8 (compF (sortN d6)).length c8'] rfl (fun j v hj => by
        rcases j with _ | _ | _ | j
        · have := HQ1.out 2; simp at this hj; rw [← hj]; exact this
        · have := HQ1.out 3; simp at this hj; rw [← hj]; exact this
        · have := HQ1.out 4; simp at this hj; rw [← hj]; exact this
        · simp at hj)
       have hst : (stRs ⟨w.heap.size + 1, 0, none⟩ (.agg #[.slice pva fo.length cva, .slice pvb fg.length cvb, .slice p8 (compF (sortN d6)).length c8'])).run prog w9 = .ok () (w9.setCells (w.heap.size + 1) 0 [.slice pva fo.length cva, .slice pvb fg.length cvb, .slice p8 (compF (sortN d6)).length c8']) := by
        have h := Go.run_storeCells_cells (P := prog) (w.heap.size + 1) 0 [.slice pva fo.length cva, .slice pvb fg.length cvb, .slice p8 (compF (sortN d6)).length c8'] 0 w9 (fun j hj => by
         rw [show 0 + 0 + j = j by omega, hn1 j]
         rcases j with _ | _ | _ | j
         · rfl
         · rfl
         · rfl
         · simp at hj; omega) (fun j _ => hn2 _) (by
         intro v hv
         simp only [List.mem_cons, List.not_mem_nil, or_false] at hv
         rcases hv with rfl | rfl | rfl <;> rfl)
        exact stRs_of (cs := [.slice pva fo.length cva, .slice pvb fg.length cvb, .slice p8 (compF (sortN d6)).length c8']) rfl (by simpa using h)
       have hin := World.cell?_setCells_in (w.heap.size + 1) [.slice pva fo.length cva, .slice pvb fg.length cvb, .slice p8 (compF (sortN d6)).length c8'] 0 w9 (fun j hj => by
        rw [Nat.zero_add, hn1 j]
        rcases j with _ | _ | _ | j
        · rfl
        · rfl
        · rfl
        · simp at hj; omega)
       have r0 := hin 0 (by simp); have r1 := hin 1 (by simp); have r2 := hin 2 (by simp)
       simp at r0 r1 r2
       have hB0 := Turned.below_new (setCells_turned (w.heap.size + 1) [.slice pva fo.length cva, .slice pvb fg.length cvb, .slice p8 (compF (sortN d6)).length c8'] 0 w9) (fun k e => by cases e; exact Nat.le_succ _) (HBZ.out.trans (HW9.out.mono HBZ.out.size)) (HBZ.out.trans (HW9.out.mono HBZ.out.size)).size
       have hkk : ∀ g, g < w9.heap.size → g ≠ w.heap.size + 1 → (w9.setCells (w.heap.size + 1) 0 [.slice pva fo.length cva, .slice pvb fg.length cvb, .slice p8 (compF (sortN d6)).length c8']).heap[g]? = w9.heap[g]? := fun g h1 h2 => (setCells_turned (w.heap.size + 1) [.slice pva fo.length cva, .slice pvb fg.length cvb, .slice p8 (compF (sortN d6)).length c8'] 0 w9).block g h1 (fun e => h2 (Option.some.inj e))
       have hz6 := hb6.size
       have hwz := HBZ.out.size
       have hw6 := HS6.out.bel.size
       have hb10 := hB0
       have hq : RunN w (ownL c z own near ms) (goneL c z own near ms) (setN (deadN c z own near ms)) (.returned (.agg #[.slice pva fo.length cva, .slice pvb fg.length cvb, .slice p8 (compF (sortN d6)).length c8'])) (w9.setCells (w.heap.size + 1) 0 [.slice pva fo.length cva, .slice pvb fg.length cvb, .slice p8 (compF (sortN d6)).length c8']) := by
        rw [HFIN.out.1, HFIN.out.2.1, HFIN.out.2.2]
        exact ⟨_, _, _, rfl, hB0, ⟨HA9.out.keep fun g hg => hkk g (sl_lt HA9.out hg) (by have := HR.out.ao g hg; omega), hb10, fun g hg => by have := HR.out.ao g hg; omega⟩, ⟨HB9.out.keep fun g hg => hkk g (sl_lt HB9.out hg) (by have := HR.out.bo g hg; omega), hb10, fun g hg => by have := HR.out.bo g hg; omega⟩,
         ⟨HD9.out.keep fun g hg => hkk g (sl_lt HD9.out hg) (by have := HDZ.out g (by rw [← ho8]; exact hg); have := HBZ2.out; omega), hb10, fun g hg => by have := HDZ.out g (by rw [← ho8]; exact hg); have := HBZ2.out; omega⟩⟩
       clear hb10
       have HQ := hid hq
       clear hq hkk hB0 hn1 hn2 hin f48 x48 ho8 hla hlb
       generalize w9.setCells (w.heap.size + 1) 0 [.slice pva fo.length cva, .slice pvb fg.length cvb, .slice p8 (compF (sortN d6)).length c8'] = w10 at *
       go_wp2_with fail
       exact bodyPost_ret (v := .agg #[.slice pva fo.length cva, .slice pvb fg.length cvb, .slice p8 (compF (sortN d6)).length c8']) (by simp [results, Tryz.results59, go_sem, r0, r1, r2]) rfl HQ.out
end
section
open Go.Shelf
theorem sl_emptyN (W : World) : Sl (W.alloc (.cells #[] 30)) 30 3 (.slice (some ⟨W.heap.size, 0, none⟩) 0 0) 0 [] := ⟨rfl, .inr ⟨W.heap.size, 0, 0, #[], rfl, heap_alloc_new W _, Nat.le_refl _, by simp [maxLen], by simp, fun j u hj => by cases hj⟩⟩
theorem rnew_ofN {w w1 : World} {l : List Nid} {v v' : Value} (o : Obj) (hv : v.ownBlock = some w.heap.size) (hs : Sl w1 30 3 v' (0 + l.length) ([] ++ cellsR nidL l)) (ht : Turned (w.alloc o) w1 v.ownBlock)
 (ho : v'.ownBlock = v.ownBlock ∨ ∃ g, v'.ownBlock = some g ∧ (w.alloc o).heap.size ≤ g) : RNew nidL 30 3 w w1 v' l := by
 rw [Nat.zero_add, List.nil_append] at hs
 have hsz := ht.size
 rw [World.size_alloc] at hsz
 refine ⟨hs, ((Below.refl w.heap.size w).alloc (Nat.le_refl _) o).trans ⟨ht.os, ht.tape, ht.output, ht.size, fun k hk => ht.block k (by rw [World.size_alloc]; omega) (fun e => by rw [hv] at e; simp at e; omega)⟩, fun g hg => ?_⟩
 rcases ho with e | ⟨g', e, hg'⟩
 · rw [e, hv] at hg; simp at hg; omega
 · rw [e] at hg; simp at hg; rw [World.size_alloc] at hg'; omega
theorem cloneN_any (v : Value) (l : List Nid) (w : World) (h : RIn nidL w v l) (hl : l.length ≤ 1000000) :
 Calls prog 61 #[v] w fun e w' => ∃ v', e = .returned v' ∧ RNew nidL 30 3 w w' v' l := by
 obtain ⟨i0, hi0, hz0, hz1, hz2⟩ := info_partsG info_nid
 obtain ⟨p, cap, rfl, h1, h2, h3, h4⟩ := h
 have HS := hid sl_emptyN
 by_cases hn : l = []
 · subst hn
   clear h4 h1
   cases p with
   | none =>
     obtain rfl := h2 rfl
     clear h2 h3
     have hnil := fun W : World => Lib.run_eql_slice_nil (P := prog) W 56 30 none 0 0 0 0 Tryz.underlying56
     go_enter Tryz.func61, Tryz.ntmps61
     go_wp2_with fail
     go_ret
     exact ⟨_, rfl, ⟨rfl, .inl ⟨rfl, rfl⟩⟩, bg, fun g hg => by cases hg⟩
   | some a =>
     clear h2
     have hnil := fun W : World => Lib.run_eql_slice_nil (P := prog) W 56 30 (some a) 0 cap 0 0 Tryz.underlying56
     go_enter Tryz.func61, Tryz.ntmps61
     go_wp2_with (at_builtin; refine wpList_append_zero (by rfl) _ _ 56 (by rfl) 30 i0 Tryz.underlying56 hi0 _ _ 0 0 _ (by rfl) (by rfl) (Nat.le_refl _) ?_)
     go_ret
     exact ⟨_, rfl, HS.out w, bg, fun g hg => by simp [Value.ownBlock] at hg; omega⟩
 · obtain ⟨blk, off, rfl, h5, h6⟩ := h4 hn
   have hn0 : 0 < l.length := List.length_pos_iff.2 hn
   have hcw : ∀ j u, (cellsR nidL l)[j]? = some u → (w.alloc (.cells #[] 30)).cell? (Addr.add ⟨blk, off, none⟩ j) = some u := fun j u hj => by
    have h := h6 j u hj
    rw [show Addr.add ⟨blk, off, none⟩ j = ⟨blk, off + j, none⟩ from by unfold Addr.add; split <;> simp_all]
    exact cell_keep ((Below.refl _ _).alloc (Nat.le_refl _) _) h
   have HW := hid hcw
   have H1 := hid (cellsR_mem nidL (l := l) nidL_one)
   have HX := hid (cellsR_len nidL 3 nidL_len l)
   clear hcw h4 h6 h2 hn h1
   have hnil := fun W : World => Lib.run_eql_slice_nil (P := prog) W 56 30 (some ⟨blk, off, none⟩) l.length cap 0 0 Tryz.underlying56
   go_enter Tryz.func61, Tryz.ntmps61
   go_wp2_with (at_builtin; refine wpList_append_sl _ (by rfl) _ _ 56 (by rfl) 30 i0 _ 3 24 Tryz.underlying56 hi0 hz0 hz1 hz2 rfl (by omega) _ 0 [] (by rfl) (HS.out _) ⟨blk, off, none⟩ l.length cap (cellsR nidL l) (by rfl) HX.out HW.out H1.out hn0 (by unfold maxLen; omega) (by omega) ?_; intro v' w1 hs1 ht ho)
   go_ret
   exact ⟨_, rfl, rnew_ofN _ rfl hs1 ht ho⟩
end
end Go.Proofs.YtoimjjhopljdmaaGreat
