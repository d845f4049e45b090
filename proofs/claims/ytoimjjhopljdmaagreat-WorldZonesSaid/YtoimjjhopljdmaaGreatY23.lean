/-
  Chapter texts RtD: what the claim reaches of them. Conditions stand at each theorem.
-/
import Derived.Test.YtoimjjhopljdmaaGreatY22
import Derived.Test.YtoimjjhopljdmaaGreatY13
import Derived.Test.YtoimjjhopljdmaaGreatY11
namespace Go.Proofs.YtoimjjhopljdmaaGreat
open Go.RowKit

def RunQ (w : World) (own gone : List Bun) (dead : List Nid) (e : Ending) (w' : World) : Prop :=
  ∃ va vb vd, e = .returned (.agg #[va, vb, vd]) ∧ Below w.heap.size w w' ∧ BIn w' va own ∧ BIn w' vb gone ∧ RIn nidL w' vd dead
def RunM (w : World) (own gone : List Bun) (dead : List Nid) (e : Ending) (w' : World) : Prop :=
  ∃ va vb vd, e = .returned (.agg #[va, vb, vd]) ∧ BNew w w' va own ∧ BNew w w' vb gone ∧ RIb nidL w' vd dead ∧ (∀ g, vd.ownBlock = some g → w.heap.size ≤ g) ∧ ∀ g, va.ownBlock = some g → vd.ownBlock ≠ some g
theorem RunM.q {w : World} {own gone : List Bun} {dead : List Nid} {e : Ending} {w' : World} (h : RunM w own gone dead e w') : RunQ w own gone dead e w' := by
  obtain ⟨va, vb, vd, h1, h2, h3, h4, _⟩ := h
  exact ⟨va, vb, vd, h1, h2.2.1, h2.bin, h3.bin, h4.1⟩
theorem hit_hurt (hs : List Hit) (b : Bun) : hitF hs b = hurtF b (hitN hs b.s b.i b.g) := by
  unfold hitF hitN
  cases hs.find? fun h => idEq h.s h.i h.g b.s b.i b.g with
  | some h => rfl
  | none => unfold hurtF; rw [if_pos (.inr (by simp))]
set_option maxRecDepth 100000 in
set_option maxHeartbeats 8000000 in
theorem run15_new (cols rows side radius speed ids queue z : Int) (vo vn vc : Value) (own near : List Bun) (ms : List Cm) (w : World) (ho : CfgOk ⟨cols, rows, side, radius, speed, ids, queue⟩) (hz0 : -1 ≤ z) (hz1 : z < cols * rows) (h1 : BIn w vo own) (h2 : BIn w vn near) (h3 : RIn cmC w vc ms)
    (hf1 : ∀ b ∈ own, BFit b) (hf2 : ∀ b ∈ near, BFit b) (hf3 : ∀ m ∈ ms, CmFit m) (hl1 : own.length ≤ 1000) (hl2 : near.length ≤ 1000) (hl3 : ms.length ≤ 1000) :
    Calls Tryz.prog 23 #[.agg #[.int .i64 cols, .int .i64 rows, .int .i64 side, .int .i64 radius, .int .i64 speed, .int .i64 ids, .int .i64 queue], .int .i64 z, vo, vn, vc] w (RunM w (ownL ⟨cols, rows, side, radius, speed, ids, queue⟩ z own near ms) (goneL ⟨cols, rows, side, radius, speed, ids, queue⟩ z own near ms) (setN (deadN ⟨cols, rows, side, radius, speed, ids, queue⟩ z own near ms))) := by
  obtain ⟨i0, hi0, hz0', hz1', hz2'⟩ := info_parts info_bunJ
  generalize hres : RunM w (ownL ⟨cols, rows, side, radius, speed, ids, queue⟩ z own near ms) (goneL ⟨cols, rows, side, radius, speed, ids, queue⟩ z own near ms) (setN (deadN ⟨cols, rows, side, radius, speed, ids, queue⟩ z own near ms)) = Q
  have HRES := Lib.hid hres
  clear hres
  have HHI := Lib.hid (fun W (hW : Below w.heap.size w W) => rHits_any radius vo vn own near W (h1.keep hW) (h2.keep hW) hf1 hf2 hl1 hl2)
  have HSO := Lib.hid (fun W (hW : Below w.heap.size w W) => rsorted_any vo own W (h1.keep hW) (by omega))
  have HFS := Lib.hid (fun b (hb : b ∈ stableF cmpBun own) => hf1 b ((stF_perm _).mem_iff.1 hb))
  have H3 := Lib.hid h3
  have HF3 := Lib.hid hf3
  have hsl : (stableF cmpBun own).length ≤ 1000 := by rw [stableF_len]; exact hl1
  have HO := Lib.hid ho
  generalize hhs : hitsF radius own near = hs at *
  generalize hso : stableF cmpBun own = so at *
  have HHS := Lib.hid hhs; have HSS := Lib.hid hso
  have HF1 := Lib.hid hf1
  obtain ⟨q1, q2⟩ := ho.cnt
  simp only at q1 q2
  obtain ⟨cnt, hcnt⟩ : ∃ cnt : Nat, cols * rows = (cnt : Int) := ⟨(cols * rows).toNat, by omega⟩
  rw [hcnt] at hz1
  have v1 : IntKind.i64.wrap (cols * rows) = (cnt : Int) := by rw [hcnt, IntKind.wrap_i64]; omega
  have d1 : ¬ z < -1 := by omega
  have d2 : ¬ (cnt : Int) ≤ z := by omega
  obtain ⟨po, eo, rfl, _⟩ := h1
  obtain ⟨pn, en, rfl, _⟩ := h2
  obtain ⟨pc, ec, rfl, hmc, _⟩ := h3
  unfold maxLen at hmc
  clear ho hf1 hf2 hf3 hhs hso hcnt q1 q2
  obtain ⟨wz, hwz, hbz, k5, k10, g5, g10, hsz⟩ := two_boxes w #[.int .i64 cols, .int .i64 rows, .int .i64 side, .int .i64 radius, .int .i64 speed, .int .i64 ids, .int .i64 queue] #[.slice none 0 0, .slice none 0 0, .slice none 0 0] 23 58
  obtain ⟨k11, g11, s11, b11⟩ := new_box wz #[.slice none 0 0, .slice none 0 0, .slice none 0 0] 58 (w.heap.size + 1 + 1) (by omega)
  have hb1 := hbz.trans (b11.mono hbz.size)
  have s5z : w.heap.size < wz.heap.size := by omega
  have s10z : w.heap.size + 1 < wz.heap.size := by omega
  have K5 := Lib.hid (box_on b11 s5z k5)
  have K10 := Lib.hid (box_on b11 s10z k10)
  have G10 := Lib.hid (box_fr b11 s10z g10)
  have s5 := Nat.lt_of_lt_of_le s5z b11.size
  have s10 := Nat.lt_of_lt_of_le s10z b11.size
  obtain ⟨w1, hw1⟩ : ∃ w1, w1 = wz.alloc (.cells #[.slice none 0 0, .slice none 0 0, .slice none 0 0] 58) := ⟨_, rfl⟩
  rw [← hw1] at hb1 k11 g11 s11 K5 K10 G10 s5 s10
  rw [hwz] at hw1
  have HW1 := Lib.hid hw1
  have HX1 := Lib.hid (⟨k11, g11⟩ : Bx w1 (w.heap.size + 1 + 1) (.slice none 0 0) (.slice none 0 0) (.slice none 0 0))
  have HB1 := Lib.hid hb1
  have HS11 := Lib.hid s11
  have l1 : w.heap.size < w.heap.size + 1 + 1 := by omega
  have l2 : w.heap.size + 1 < w.heap.size + 1 + 1 := by omega
  have a0 := K5.out 0; simp at a0; have a1 := K5.out 1; simp at a1; have a2 := K5.out 2; simp at a2; have a3 := K5.out 3; simp at a3; have a4 := K5.out 4; simp at a4; have a5 := K5.out 5; simp at a5; have a6 := K5.out 6; simp at a6
  clear hwz hbz k5 k10 g5 g10 hsz k11 g11 b11 hw1 s5z s10z
  go_enter Tryz.func23, Tryz.ntmps23
  go_upto_region 2 with fail
  rw [← HW1.out]
  clear HW1
  generalize hn11 : w.heap.size + 1 + 1 = n11 at *
  have HN11 := Lib.hid hn11
  clear hn11
  generalize hn10 : w.heap.size + 1 = n10 at *
  have HN10 := Lib.hid hn10
  clear hn10
  go_wp2_with fail
  refine (HHI.out _ hb1).mono ?_; rintro e w' ⟨vh, rfl, hH⟩
  obtain ⟨w2, rfl⟩ : ∃ w2 : World, w2 = w' := ⟨_, rfl⟩
  obtain ⟨ph, eh, rfl⟩ := sl_frm hH.1
  have hb2 := hb1.trans (hH.2.1.mono hb1.size)
  have HH2 := Lib.hid hH
  have K52 := Lib.hid (box_on hH.2.1 s5 K5.out)
  clear hH a0 a1 a2 a3 a4 a5 a6
  go_wp2_with fail
  refine (HSO.out _ hb2).mono ?_; rintro e w' ⟨vs, rfl, hS⟩
  obtain ⟨w3, rfl⟩ : ∃ w3 : World, w3 = w' := ⟨_, rfl⟩
  obtain ⟨ps, es, rfl⟩ := sl_frm hS.1
  have hb13 := HH2.out.2.1.trans (hS.2.1.mono HH2.out.2.1.size)
  have HH := Lib.hid (RIb.of_sl (HH2.out.grow hS.2.1).1)
  have HHN := Lib.hid (fun g hg => show g ≠ n11 by have := HH2.out.2.2 g hg; have := HS11.out; omega)
  have HS := Lib.hid (show RIb bunL w3 _ so from RIb.of_sl hS.1)
  have HSN := Lib.hid (fun g hg => show g ≠ n11 by have := hS.2.2 g hg; have := HS11.out; have := HH2.out.2.1.size; omega)
  have K53 := Lib.hid (box_on hb13 s5 K5.out)
  have K103 := Lib.hid (box_on hb13 s10 K10.out)
  have G103 := Lib.hid (box_fr hb13 s10 G10.out)
  have HX3 := Lib.hid (HX1.out.keep (hb13.block n11 HS11.out))
  have HB3 := Lib.hid (hb1.trans (hb13.mono hb1.size))
  have s11 : n11 < w3.heap.size := Nat.lt_of_lt_of_le HS11.out hb13.size
  have s5' : w.heap.size < w3.heap.size := by omega
  have s10' : n10 < w3.heap.size := by omega
  clear hS hb2 hb13 hb1 HH2 K52 K5 K10 G10 HX1 HB1 HS11 HHI HSO s5 s10
  have hlp : ∀ t x, so[t]? = some x → eachL (hitF hs) (so.take (t + 1)) = eachL (hitF hs) (so.take t) ++ (if (hitF hs x).2 then [(hitF hs x).1] else []) := fun t x h => eachL_step (hitF hs) h
  have hdp : ∀ t x, so[t]? = some x → eachD (hitF hs) (so.take (t + 1)) = eachD (hitF hs) (so.take t) ++ (if (hitF hs x).2 then [] else [idOf x]) := fun t x h => eachD_step (hitF hs) h
  have HLP := Lib.hid hlp; have HDP := Lib.hid hdp
  have HLL := Lib.hid (fun t => eachL_le (hitF hs) so t)
  have HDL := Lib.hid (fun t => eachD_le (hitF hs) so t)
  clear hlp hdp
  go_wp2_with fail
  go_loopg [14, 15] so.length (fun kx o sx wr => ∃ (t : Nat) (vd : Value), sx = .int .i64 t ∧ t ≤ so.length ∧ so.length - t ≤ kx ∧ Hid (Rc w3 wr n11 o (.slice none 0 0) vd (eachL (hitF hs) (so.take t)) [] ((eachD (hitF hs) (so.take t)).foldl putN [])) ∧ Hid (Bx wr n11 (.slice none 0 0) (.slice none 0 0) vd))
  case atStart => exact ⟨0, .slice none 0 0, by go_num, by omega, by omega, Lib.hid (Rc.start ⟨rin_zero _, (fun g hg => by cases hg), .inl rfl⟩ (fun g hg => by cases hg)), HX3⟩
  case round =>
    obtain ⟨t, vd, rfl, ht, hkx, HR, HX⟩ := hrel
    obtain ⟨wa, rfl⟩ : ∃ wa : World, wa = wr := ⟨_, rfl⟩
    have hta := HR.out.tu
    have hza := hta.size
    have hal := HLL.out t
    have hdl := HDL.out t
    have s11a : n11 < wa.heap.size := by omega
    obtain ⟨pd, cd, hpd, _⟩ := HR.out.d.1
    subst hpd
    have hpl := putNs_len (eachD (hitF hs) (so.take t)) []
    rw [List.length_nil, Nat.zero_add] at hpl
    obtain ⟨po', co', hpo⟩ := sl_frm HR.out.a
    subst hpo
    have HHA := Lib.hid (HH.out.tu hta HHN.out)
    by_cases hlt : t < so.length
    · have t1 : (t : Int) < (so.length : Int) := by omega
      obtain ⟨x0, hx0⟩ : ∃ x0, so[t]? = some x0 := ⟨_, List.getElem?_eq_getElem hlt⟩
      have HSA := Lib.hid (HS.out.tu hta HSN.out)
      obtain ⟨gb, ob, cb, hv, hgb, hcb⟩ := BIn.cells HSA.out.1 hx0
      simp only [Value.slice.injEq, true_and] at hv
      obtain ⟨rfl, rfl⟩ := hv
      have c0 := hcb 0 _ rfl; have c1 := hcb 1 _ rfl; have c2 := hcb 2 _ rfl; have c3 := hcb 3 _ rfl; have c4 := hcb 4 _ rfl; have c5 := hcb 5 _ rfl; have c6 := hcb 6 _ rfl; have c7 := hcb 7 _ rfl; have c8 := hcb 8 _ rfl; have c9 := hcb 9 _ rfl; have c10 := hcb 10 _ rfl
      simp only [Nat.add_zero] at c0
      obtain ⟨e0, e1', e2'⟩ := ltz hgb
      have HXL := Lib.hid (HLP.out t x0 hx0)
      have HXD := Lib.hid (HDP.out t x0 hx0)
      have hfx := HFS.out x0 (List.mem_of_getElem? hx0)
      have HHT := Lib.hid (fun W (hW : Below wa.heap.size wa W) => hit15_any _ hs x0.s x0.i x0.g W (HHA.out.1.keep hW))
      have hhu := fun W => rHurt_any x0.s x0.i x0.g x0.m x0.x x0.y x0.vx x0.vy x0.hp x0.pw x0.lf (hitN hs x0.s x0.i x0.g) W hfx.2.2.2.2.2.2.2.2.1 hfx.2.2.2.1
      rw [show hurtF ⟨x0.s, x0.i, x0.g, x0.m, x0.x, x0.y, x0.vx, x0.vy, x0.hp, x0.pw, x0.lf⟩ (hitN hs x0.s x0.i x0.g) = hitF hs x0 from (hit_hurt hs x0).symm] at hhu
      have HHU := Lib.hid hhu
      have HX0 := Lib.hid hx0
      clear hcb hx0 hhu hfx hta
      generalize hitF hs x0 = r at *
      generalize eachL (hitF hs) (so.take t) = la at *
      generalize eachD (hitF hs) (so.take t) = da at *
      generalize hpd : da.foldl putN [] = pdl at *
      have HPD := Lib.hid hpd
      clear hpd
      generalize hitN hs x0.s x0.i x0.g = hn at *
      obtain ⟨⟨sw, iw, gw, mw, xw, yw, vxw, vyw, hpw, pww, lfw⟩, ok⟩ := r
      obtain ⟨s, i, g, m, x, y, vx, vy, hp, pw, lf⟩ := x0
      simp only at HHT HHU HXL HXD c0 c1 c2 c3 c4 c5 c6 c7 c8 c9 c10
      go_upto_region 10 with fail
      go_cut [16, 17] (fun sq ss wx => Boxed wa wa.heap.size #[.int .i64 sw, .int .i64 iw, .int .i64 gw, .int .i64 mw, .int .i64 xw, .int .i64 yw, .int .i64 vxw, .int .i64 vyw, .int .i64 hpw, .int .i64 pww, .int .i64 lfw] 32 sq wx ∧ ss = .bool ok)
      case first =>
        go_region_held3 (fun W => (wa).heap.size ≤ W.heap.size ∧ ∀ b o, b < (wa).heap.size → W.cell? ⟨b, o, none⟩ = (wa).cell? ⟨b, o, none⟩) (with_reducible (repeat (first | assumption | exact s_refl _ | exact s_id _ | refine s_more _ _ ?_ | refine s_alloc _ ?_ | refine s_drew ?_))) (first | (go_at_call 53; refine (HHT.out _ bg).mono ?_; rintro e w' ⟨rfl, hb⟩; obtain ⟨d1, os1, rfl⟩ := more_of hb; clear hb) | (go_at_call 52; refine (HHU.out _).mono ?_; rintro e w' ⟨rfl, hb⟩; obtain ⟨d2, os2, rfl⟩ := more_of hb; clear hb))
        all_goals (clear c0 c1 c2 c3 c4 c5 c6 c7 c8 c9 c10 e0 e1' e2')
        all_goals (go_wp2_with fail; go_meet)
        all_goals (refine ⟨?_, rfl⟩; ((with_reducible (repeat (first | exact grew_refl _ | exact grew_redrawn _ _ _ _ | refine boxed_drew ?_ | refine boxed_more _ _ ?_ | refine boxed_end ?_ ?_ ?_ | refine grew_more _ _ ?_ | refine grew_drew ?_))); (all_goals (try simp))))
      obtain ⟨⟨d1, os1, d2, os2, rfl, hwc⟩, rfl⟩ := hcut
      obtain ⟨wx, rfl⟩ : ∃ wx : World, wx = wc := ⟨_, rfl⟩
      have hbx : Below wa.heap.size wa wx := by rw [hwc]; exact bg
      have hnb := new_box (more wa d1 os1) #[.int .i64 sw, .int .i64 iw, .int .i64 gw, .int .i64 mw, .int .i64 xw, .int .i64 yw, .int .i64 vxw, .int .i64 vyw, .int .i64 hpw, .int .i64 pww, .int .i64 lfw] 32 (wa.heap.size + os1.size) (by simp)
      have hmb : Below ((more wa d1 os1).alloc (.cells #[.int .i64 sw, .int .i64 iw, .int .i64 gw, .int .i64 mw, .int .i64 xw, .int .i64 yw, .int .i64 vxw, .int .i64 vyw, .int .i64 hpw, .int .i64 pww, .int .i64 lfw] 32)).heap.size ((more wa d1 os1).alloc (.cells #[.int .i64 sw, .int .i64 iw, .int .i64 gw, .int .i64 mw, .int .i64 xw, .int .i64 yw, .int .i64 vxw, .int .i64 vyw, .int .i64 hpw, .int .i64 pww, .int .i64 lfw] 32)) wx := by rw [hwc]; exact more_below _ _ _
      have kx := box_on hmb hnb.2.2.1 hnb.1
      have sx := Nat.lt_of_lt_of_le hnb.2.2.1 hmb.size
      have HRX := Lib.hid (HR.out.grow hbx)
      have HXX := Lib.hid (HX.out.keep (hbx.block n11 s11a))
      have HSX := Lib.hid (HSA.out.keep hbx)
      have s11x := Nat.lt_of_lt_of_le s11a hbx.size
      generalize wa.heap.size + os1.size = n16 at *
      clear hwc hnb hmb hbx c0 c1 c2 c3 c4 c5 c6 c7 c8 c9 c10 e0 e1' e2'
      cases ok with
      | true =>
        simp only [if_true, List.append_nil] at HXL HXD
        have q0 := kx 0; simp at q0; have q1 := kx 1; simp at q1; have q2 := kx 2; simp at q2; have q3 := kx 3; simp at q3; have q4 := kx 4; simp at q4; have q5 := kx 5; simp at q5; have q6 := kx 6; simp at q6; have q7 := kx 7; simp at q7; have q8 := kx 8; simp at q8; have q9 := kx 9; simp at q9; have q10 := kx 10; simp at q10
        obtain ⟨f0, f1, f2⟩ := ltz sx
        clear kx
        go_wp2_with (at_builtin; refine wpList_append_sl _ (by rfl) _ _ 37 (by rfl) 32 i0 _ 11 88 Tryz.underlying37 hi0 hz0' hz1' hz2' rfl (by omega) _ la.length (bunCells la) (by rfl) (HRX.out.grow bg).a ⟨_, 0, none⟩ 1 1 (bunL ⟨sw, iw, gw, mw, xw, yw, vxw, vyw, hpw, pww, lfw⟩) (by rfl) (by rfl) (new_cellsN _ _ _ _ (by simp)) (bunL_one _) (by omega) (by unfold maxLen; omega) (by omega) ?_; intro v' w4 hs4 ht4 ho4)
        have hm := (HRX.out.grow bg).appA hs4 ht4 ho4
        have hmx := (HXX.out.keep (w' := w4) ((ht4.block n11 (Nat.lt_of_lt_of_le s11x (Below.size (B := wx.heap.size) (w := wx) bg)) (fun e => by have := HRX.out.ao n11 e.symm; omega)).trans (Below.block (B := wx.heap.size) (w := wx) bg n11 s11x)))
        have HM := Lib.hid hm
        have HMX := Lib.hid hmx
        clear hs4 ht4 ho4 hm hmx
        go_roundg (so.length - (t + 1))
        case measure => omega
        case rel => exact ⟨t + 1, _, by go_num, by omega, by omega, Lib.hid (by rw [HXL.out, HXD.out, HPD.out]; exact HM.out), HMX⟩
      | false =>
        simp only [Bool.false_eq_true, if_false, List.append_nil] at HXL HXD
        obtain ⟨gb2, ob2, cb2, hv2, hgb2, hcb2⟩ := BIn.cells HSX.out.1 HX0.out
        simp only [Value.slice.injEq, Option.some.injEq, Addr.mk.injEq, true_and, and_true] at hv2
        obtain ⟨⟨rfl, rfl⟩, rfl⟩ := hv2
        have c0 := hcb2 0 _ rfl; have c1 := hcb2 1 _ rfl; have c2 := hcb2 2 _ rfl
        simp only [Nat.add_zero] at c0
        obtain ⟨e0, e1', e2'⟩ := ltz hgb2
        obtain ⟨f0, f1, f2⟩ := ltz s11x
        have b2 := HXX.out.c 2
        simp at b2
        have g2 := HXX.out.f 2
        have HWI := Lib.hid (fun W (hW : Below wx.heap.size wx W) => with15_any _ pdl s i g W (HRX.out.d.keep hW) (by omega))
        clear hcb2 kx
        
        go_upto_region 13 with fail
        refine wp_region_x (S := fun W' => wx.heap.size ≤ W'.heap.size ∧ ∀ b o, b < wx.heap.size → W'.cell? ⟨b, o, none⟩ = wx.cell? ⟨b, o, none⟩) 9 (by kernel_rfl) (by with_reducible (repeat (first | assumption | exact s_refl _ | exact s_id _ | refine s_more _ _ ?_ | refine s_alloc _ ?_ | refine s_drew ?_))) (fun hHeld => ?_)
        refine anyX_take (n := 9) (i := 0) (v := ?_) rfl (by kernel_rfl) (fun _ _ _ h => h) (Or.inl ⟨by rfl, ?_⟩) (by assumption) ?_
        rotate_left 1
        · (intro w hSw; (try dsimp only at hSw); go_simp; (try with_reducible rfl))
        simp [Act.put]
        refine anyX_take (n := 9) (i := 1) (v := ?_) rfl (by kernel_rfl) (fun _ _ _ h => h) (Or.inl ⟨by rfl, ?_⟩) (by assumption) ?_
        rotate_left 1
        · (intro w hSw; (try dsimp only at hSw); go_simp; (try with_reducible rfl))
        simp [Act.put]
        refine anyX_take (n := 9) (i := 2) (v := ?_) rfl (by kernel_rfl) (fun _ _ _ h => h) (Or.inl ⟨by rfl, ?_⟩) (by assumption) ?_
        rotate_left 1
        · (intro w hSw; (try dsimp only at hSw); go_simp; (try with_reducible rfl))
        simp [Act.put]
        refine anyX_take (n := 9) (i := 3) (v := ?_) rfl (by kernel_rfl) (fun _ _ _ h => h) (Or.inl ⟨by rfl, ?_⟩) (by assumption) ?_
        rotate_left 1
        · (intro w hSw; (try dsimp only at hSw); go_simp; (try with_reducible rfl))
        simp [Act.put]
        refine anyX_take (n := 9) (i := 4) (v := ?_) rfl (by kernel_rfl) (fun _ _ _ h => h) (Or.inl ⟨by rfl, ?_⟩) (by assumption) ?_
        rotate_left 1
        · (intro w hSw; (try dsimp only at hSw); go_simp; (try with_reducible rfl))
        simp [Act.put]
        refine anyX_take (n := 9) (i := 5) (v := ?_) rfl (by kernel_rfl) (fun _ _ _ h => h) (Or.inl ⟨by rfl, ?_⟩) (by assumption) ?_
        rotate_left 1
        · (intro w hSw; (try dsimp only at hSw); go_simp; (try with_reducible rfl))
        simp [Act.put]
        refine anyX_take (n := 9) (i := 6) (v := ?_) rfl (by kernel_rfl) (fun _ _ _ h => h) (Or.inl ⟨by rfl, ?_⟩) (by assumption) ?_
        rotate_left 1
        · (intro w hSw; (try dsimp only at hSw); go_simp; (try with_reducible rfl))
        simp [Act.put]
        refine anyX_ready (rs := [7]) (by kernel_rfl) (by simp) (ReadyX.cons rfl (fun K hK => ?_) ReadyX.nil)
        (go_simp; go_at_call 54; refine (HWI.out _ bg).mono ?_; rintro e w' ⟨vq, rfl, hb, hr, ho⟩; obtain ⟨d1, os1, rfl⟩ := more_of hb; obtain ⟨pq, cq, hvq, _⟩ := hr.1; subst hvq; (try simp only [more_of_drew] at hb hr ho ⊢))
        refine hK.out _ _ (fun hlt => ?_) (fun hHeld => ?_)
        · (try dsimp only); with_reducible (repeat (first | assumption | exact s_refl _ | exact s_id _ | refine s_more _ _ ?_ | refine s_alloc _ ?_ | refine s_drew ?_))
        clear hK
        replace hHeld := hHeld (by omega); try simp [Act.put]
        refine anyX_take (n := 9) (i := 8) (v := ?_) rfl (by kernel_rfl) (fun _ _ _ h => h) (Or.inl ⟨by rfl, ?_⟩) (by assumption) ?_
        rotate_left 1
        · (intro w hSw; (try dsimp only at hSw); go_simp; (try with_reducible rfl))
        simp [Act.put]
        refine anyX_ready (rs := [9]) (by kernel_rfl) (by simp) (ReadyX.cons rfl (fun K hK => ?_) ReadyX.nil)
        go_simp
        refine hK.out _ _ (fun hlt => ?_) (fun hHeld => ?_)
        · exact absurd hlt (by omega)
        clear hK
        clear hHeld; try simp [Act.put]
        refine anyX_done (by kernel_rfl) ?_ _
        clear b2 g2 c0 c1 c2 e0 e1' e2' f0 f1 f2
        have hm := (Rc.put s11 HRX.out (more_below wx d1 os1) hr (show OrNew wx _ _ from ho)).set s11 2 (.slice pq (putN pdl ⟨s, i, g⟩).length cq)
        have hmx := (HXX.out.keep ((more_below wx d1 os1).block n11 s11x)).set2 (.slice pq (putN pdl ⟨s, i, g⟩).length cq)
        rw [more_setCell _ _ _ _ _ s11x] at hm hmx
        have HM := Lib.hid hm
        have HMX := Lib.hid hmx
        clear hm hmx hb hr ho
        go_wp2_with fail
        go_roundg (so.length - (t + 1))
        case measure => omega
        case rel => exact ⟨t + 1, _, by go_num, by omega, by omega, Lib.hid (by rw [HXL.out, HXD.out, List.foldl_append, HPD.out]; exact HM.out), HMX⟩
    · have t1 : ¬ (t : Int) < (so.length : Int) := by omega
      obtain rfl : t = so.length := by omega
      rw [List.take_length] at HR HX hal hdl hpl ⊢
      have HRY := Lib.hid (⟨Tu2.refl _ _ _, RIb.of_sl HR.out.a, HR.out.d, (fun g hg => by have := HR.out.ao g hg; omega), HR.out.dn⟩ : Ry wa wa n11 _ _ _ _)
      have hk : ∀ k, k < w3.heap.size → k ≠ n11 → wa.heap[k]? = w3.heap[k]? := fun k h1 h2 => hta.block k h1 h2 (fun e => by cases e)
      have K54 := Lib.hid (fun u => (World.cell?_of_block (w := w3) (a := ⟨w.heap.size, u, none⟩) (hk w.heap.size s5' (by have := HN11.out; omega))).trans (K53.out u))
      have K104 := Lib.hid (fun u => (World.cell?_of_block (w := w3) (a := ⟨n10, u, none⟩) (hk n10 s10' (by have := HN11.out; have := HN10.out; omega))).trans (K103.out u))
      have G104 := Lib.hid (fun u => (World.frozen?_of_block (w := w3) (a := ⟨n10, u, none⟩) (hk n10 s10' (by have := HN11.out; have := HN10.out; omega))).trans (G103.out u))
      have HB4 := Lib.hid (hta.below HB3.out (by have := HN11.out; omega) (fun g hg => by cases hg))
      have s54 : w.heap.size < wa.heap.size := by omega
      have s104 : n10 < wa.heap.size := by omega
      have hll : (eachL (hitF hs) so).length ≤ 1000 := by omega
      have hdd : ((eachD (hitF hs) so).foldl putN []).length ≤ 1000 := by omega
      have HFL := Lib.hid (bfit_each (fun _ hx => bfit_hit hs hx) HFS.out)
      have e1 : hurtL radius own near = eachL (hitF hs) so := by unfold hurtL; rw [HHS.out, HSS.out]
      have e2 : hurtN radius own near = eachD (hitF hs) so := by unfold hurtN; rw [HHS.out, HSS.out]
      have HE1 := Lib.hid e1; have HE2 := Lib.hid e2
      clear HR hta hk K53 K103 G103 HB3 HHA HH HS HSN HHN HLP HDP HLL HDL HX3 e1 e2 hal hdl hpl
      generalize eachL (hitF hs) so = l4 at *
      generalize eachD (hitF hs) so = da4 at *
      generalize hd4 : da4.foldl putN [] = d4 at *
      have HD4 := Lib.hid hd4
      clear hd4
      have HLS := Lib.hid (fun t m h => cmdsL_step ⟨cols, rows, side, radius, speed, ids, queue⟩ z l4 (ms := ms) (t := t) (m := m) h)
      have HNS := Lib.hid (fun t m h => cmdsN_step ⟨cols, rows, side, radius, speed, ids, queue⟩ z l4 (ms := ms) (t := t) (m := m) h)
      have HCL := Lib.hid (fun t => cmds_cnt ⟨cols, rows, side, radius, speed, ids, queue⟩ z (ms.take t) l4)
      have HCF := Lib.hid (fun t => bfit_cmds ⟨cols, rows, side, radius, speed, ids, queue⟩ z (ms.take t) l4 HFL.out (fun m hm => HF3.out m (List.mem_of_mem_take hm)))
      go_wp2_with fail
      go_loopg [14, 18] ms.length (fun kx o sx wr => ∃ (t : Nat) (vd : Value), sx = .int .i64 t ∧ t ≤ ms.length ∧ ms.length - t ≤ kx ∧ Hid (Ry wa wr n11 o vd (cmdsL ⟨cols, rows, side, radius, speed, ids, queue⟩ z l4 (ms.take t)) ((cmdsN ⟨cols, rows, side, radius, speed, ids, queue⟩ z l4 (ms.take t)).foldl putN d4)) ∧ Hid (Bx wr n11 (.slice none 0 0) (.slice none 0 0) vd))
      case atStart => exact ⟨0, _, by go_num, by omega, by omega, HRY, HX⟩
      case round =>
        obtain ⟨t, vd, rfl, ht, hkx, HY, HX2⟩ := hrel
        obtain ⟨wb, rfl⟩ : ∃ wb : World, wb = wr := ⟨_, rfl⟩
        have htb := HY.out.tu
        have hzb := htb.size
        have s11b : n11 < wb.heap.size := by omega
        have s5b : w.heap.size < wb.heap.size := by omega
        have s11a : n11 < wa.heap.size := by omega
        have hk : ∀ k, k < wa.heap.size → k ≠ n11 → wb.heap[k]? = wa.heap[k]? := fun k h1 h2 => htb.block k h1 h2 (fun e => by cases e)
        have K5b := Lib.hid (fun u => (World.cell?_of_block (w := wa) (a := ⟨w.heap.size, u, none⟩) (hk w.heap.size s54 (by have := HN11.out; omega))).trans (K54.out u))
        have HBb := Lib.hid (htb.below HB4.out (by have := HN11.out; omega) (fun g hg => by cases hg))
        obtain ⟨f0, f1, f2⟩ := ltz s11b
        obtain ⟨f3, f4, f5⟩ := ltz s5b
        have hcl := HCL.out t
        rw [List.length_take] at hcl
        obtain ⟨pl4, cl4, hpl, _⟩ := HY.out.l.1
        subst hpl
        obtain ⟨pd4, cd4, hpd, _⟩ := HY.out.d.1
        subst hpd
        by_cases hlt : t < ms.length
        · have t1 : (t : Int) < (ms.length : Int) := by omega
          obtain ⟨m0, hm0⟩ : ∃ m0, ms[t]? = some m0 := ⟨_, List.getElem?_eq_getElem hlt⟩
          obtain ⟨gb, ob, cb, hv, hgb, hcb⟩ := (H3.out.keep HBb.out).cells cmC_len hm0
          simp only [Value.slice.injEq, true_and] at hv
          obtain ⟨rfl, rfl⟩ := hv
          have c0 := hcb 0 _ rfl; have c1 := hcb 1 _ rfl; have c2 := hcb 2 _ rfl; have c3 := hcb 3 _ rfl; have c4 := hcb 4 _ rfl; have c5 := hcb 5 _ rfl; have c6 := hcb 6 _ rfl; have c7 := hcb 7 _ rfl; have c8 := hcb 8 _ rfl; have c9 := hcb 9 _ rfl; have c10 := hcb 10 _ rfl; have c11 := hcb 11 _ rfl; have c12 := hcb 12 _ rfl; have c13 := hcb 13 _ rfl; have c14 := hcb 14 _ rfl; have c15 := hcb 15 _ rfl
          simp only [Nat.add_zero] at c0
          obtain ⟨e0, e1', e2'⟩ := ltz hgb
          have a0 := K5b.out 0; simp at a0; have a1 := K5b.out 1; simp at a1; have a2 := K5b.out 2; simp at a2; have a3 := K5b.out 3; simp at a3; have a4 := K5b.out 4; simp at a4; have a5 := K5b.out 5; simp at a5; have a6 := K5b.out 6; simp at a6
          have b2 := HX2.out.c 2
          simp at b2
          have g2 := HX2.out.f 2
          have hfm := HF3.out m0 (List.mem_of_getElem? hm0)
          have hfl := HCF.out t
          have HSL := Lib.hid (HLS.out t m0 hm0)
          have HSN := Lib.hid (HNS.out t m0 hm0)
          generalize cmdsL ⟨cols, rows, side, radius, speed, ids, queue⟩ z l4 (ms.take t) = lt at *
          generalize cmdsN ⟨cols, rows, side, radius, speed, ids, queue⟩ z l4 (ms.take t) = nt at *
          generalize hdt : nt.foldl putN d4 = dt at *
          have hcn := putNs_len nt d4
          rw [hdt] at hcn
          obtain ⟨mk, msn, mi, mg, ⟨s', i', g', m', x', y', vx', vy', hp', pw', lf'⟩, mmk⟩ := m0
          have HCM := Lib.hid (fun W (hW : Below wb.heap.size wb W) => cmd15_any cols rows side radius speed ids queue z _ _ lt dt mk msn mi mg s' i' g' m' x' y' vx' vy' hp' pw' lf' mmk W HO.out (HY.out.l.keep hW) (HY.out.d.keep hW) (by omega) (by omega) (fun b hb => (hfl b hb).2.2.2.1) hfm.1.2.2.2.1 hfm.2)
          generalize cmdL ⟨cols, rows, side, radius, speed, ids, queue⟩ z lt ⟨mk, msn, mi, mg, ⟨s', i', g', m', x', y', vx', vy', hp', pw', lf'⟩, mmk⟩ = lt' at *
          generalize cmdN lt ⟨mk, msn, mi, mg, ⟨s', i', g', m', x', y', vx', vy', hp', pw', lf'⟩, mmk⟩ = nn at *
          have HDT := Lib.hid hdt
          clear hcb hm0 hdt hfm hfl hk
          go_upto_region 17 with fail
          go_region_held3 (fun W => (wb).heap.size ≤ W.heap.size ∧ ∀ b o, b < (wb).heap.size → W.cell? ⟨b, o, none⟩ = (wb).cell? ⟨b, o, none⟩) (with_reducible (repeat (first | assumption | exact s_refl _ | exact s_id _ | refine s_more _ _ ?_ | refine s_alloc _ ?_ | refine s_drew ?_))) (first | (go_at_call 55; refine (HCM.out _ bg).mono ?_; rintro e w' ⟨vl', vd', rfl, hb, hl', hd', hol, hod⟩; obtain ⟨d1, os1, rfl⟩ := more_of hb; obtain ⟨pl5, cl5, hvl, _⟩ := hl'.1; subst hvl; obtain ⟨pd5, cd5, hvd, _⟩ := hd'.1; subst hvd; (try simp only [more_of_drew] at hl' hd' ⊢)))
          clear c0 c1 c2 c3 c4 c5 c6 c7 c8 c9 c10 c11 c12 c13 c14 c15 e0 e1' e2' a0 a1 a2 a3 a4 a5 a6
          have hm := HY.out.step s11a (more_below wb d1 os1) hl' hd' (show OrNew wb _ _ from hol) (show OrNew wb _ _ from hod) 2 (.slice pd5 (nn.foldl putN dt).length cd5)
          have hmx := (HX2.out.keep ((more_below wb d1 os1).block n11 s11b)).set2 (.slice pd5 (nn.foldl putN dt).length cd5)
          rw [more_setCell _ _ _ _ _ s11b] at hm hmx
          have HM := Lib.hid hm
          have HMX := Lib.hid hmx
          clear hm hmx hl' hd' hol hod hb
          go_wp2_with fail
          go_roundg (ms.length - (t + 1))
          case measure => omega
          case rel => exact ⟨t + 1, _, by go_num, by omega, by omega, Lib.hid (by rw [HSL.out, HSN.out, List.foldl_append, HDT.out]; exact HM.out), HMX⟩
        · have t1 : ¬ (t : Int) < (ms.length : Int) := by omega
          obtain rfl : t = ms.length := by omega
          rw [List.take_length] at HY HX2 hcl ⊢
          have HRC := Lib.hid (Rc.start HY.out.d HY.out.dn)
          have HL5 := Lib.hid HY.out.l
          have HLN5 := Lib.hid HY.out.ln
          have K105 := Lib.hid (fun u => (World.cell?_of_block (w := wa) (a := ⟨n10, u, none⟩) (hk n10 s104 (by have := HN11.out; have := HN10.out; omega))).trans (K104.out u))
          have G105 := Lib.hid (fun u => (World.frozen?_of_block (w := wa) (a := ⟨n10, u, none⟩) (hk n10 s104 (by have := HN11.out; have := HN10.out; omega))).trans (G104.out u))
          have s10b : n10 < wb.heap.size := by omega
          have l10 : n10 < n11 := by have := HN11.out; have := HN10.out; omega
          have HFM := Lib.hid (bfit_cmds ⟨cols, rows, side, radius, speed, ids, queue⟩ z ms l4 HFL.out HF3.out)
          have hcd := putNs_len (cmdsN ⟨cols, rows, side, radius, speed, ids, queue⟩ z l4 ms) d4
          have HE3 := Lib.hid (show midL ⟨cols, rows, side, radius, speed, ids, queue⟩ z own near ms = cmdsL ⟨cols, rows, side, radius, speed, ids, queue⟩ z l4 ms from by unfold midL; rw [show (⟨cols, rows, side, radius, speed, ids, queue⟩ : Cfg).radius = radius from rfl, HE1.out])
          have hcm := cmds_cnt ⟨cols, rows, side, radius, speed, ids, queue⟩ z ms l4
          clear HY hk htb K104 G104 HB4 HRY HX HLS HNS HCL HCF f0 f1 f2 f3 f4 f5 hcl
          generalize cmdsL ⟨cols, rows, side, radius, speed, ids, queue⟩ z l4 ms = l5 at *
          generalize hn5 : cmdsN ⟨cols, rows, side, radius, speed, ids, queue⟩ z l4 ms = n5 at *
          have HN5 := Lib.hid hn5
          generalize hd5 : n5.foldl putN d4 = d5 at *
          have HD5 := Lib.hid hd5
          clear hn5 hd5
          have hlen5 : l5.length ≤ 2000 := by omega
          have hlend5 : d5.length ≤ 3000 := by omega
          have HPL := Lib.hid (fun t x h => eachL_step (passF ⟨cols, rows, side, radius, speed, ids, queue⟩) (l := l5) (t := t) (x := x) h)
          have HPD := Lib.hid (fun t x h => eachD_step (passF ⟨cols, rows, side, radius, speed, ids, queue⟩) (l := l5) (t := t) (x := x) h)
          have HLE := Lib.hid (fun t => eachL_le (passF ⟨cols, rows, side, radius, speed, ids, queue⟩) l5 t)
          have HDE := Lib.hid (fun t => eachD_le (passF ⟨cols, rows, side, radius, speed, ids, queue⟩) l5 t)
          have hpa0 : ∀ b : Bun, passF ⟨cols, rows, side, radius, speed, ids, queue⟩ b = ageF (moveF ⟨cols, rows, side, radius, speed, ids, queue⟩ b) := fun b => rfl
          have hiz0 : ∀ b : Bun, inZ ⟨cols, rows, side, radius, speed, ids, queue⟩ z b = (decide (z < 0) || decide (ofF ⟨cols, rows, side, radius, speed, ids, queue⟩ b.x b.y = z)) := fun b => rfl
          have HPA := Lib.hid hpa0; have HIZ := Lib.hid hiz0
          clear hpa0 hiz0
          have HFIN := Lib.hid (And.intro (show ownL ⟨cols, rows, side, radius, speed, ids, queue⟩ z own near ms = (eachL (passF ⟨cols, rows, side, radius, speed, ids, queue⟩) l5).filter (inZ ⟨cols, rows, side, radius, speed, ids, queue⟩ z) from by unfold ownL leftL; rw [HE3.out]) (And.intro (show goneL ⟨cols, rows, side, radius, speed, ids, queue⟩ z own near ms = (eachL (passF ⟨cols, rows, side, radius, speed, ids, queue⟩) l5).filter (fun b => !inZ ⟨cols, rows, side, radius, speed, ids, queue⟩ z b) from by unfold goneL leftL; rw [HE3.out])
            (show setN (deadN ⟨cols, rows, side, radius, speed, ids, queue⟩ z own near ms) = (eachD (passF ⟨cols, rows, side, radius, speed, ids, queue⟩) l5).foldl putN d5 from by
              unfold deadN
              rw [HE3.out, show (⟨cols, rows, side, radius, speed, ids, queue⟩ : Cfg).radius = radius from rfl, HE1.out, HE2.out, HN5.out, ← HD5.out, ← HD4.out, ← List.foldl_append, ← List.foldl_append, ← List.append_assoc]
              have h := putN_all [] (da4 ++ n5 ++ eachD (passF ⟨cols, rows, side, radius, speed, ids, queue⟩) l5)
              rw [setN_nil, List.nil_append] at h
              exact h.symm)))
          have HMV := Lib.hid (fun (b : Bun) (hb : I64 b.m) W => rMove_any cols rows side radius speed ids queue b.s b.i b.g b.m b.x b.y b.vx b.vy b.hp b.pw b.lf W HO.out hb)
          have hmy0 : ∀ b : Bun, (moveF ⟨cols, rows, side, radius, speed, ids, queue⟩ b).m = b.m ∧ (moveF ⟨cols, rows, side, radius, speed, ids, queue⟩ b).lf = b.lf := fun b => ⟨rfl, rfl⟩
          have HMY := Lib.hid hmy0
          clear hmy0
          have HOF := Lib.hid (fun x y W => rof_any cols rows side radius speed ids queue x y W HO.out)
          generalize ofF ⟨cols, rows, side, radius, speed, ids, queue⟩ = of at *
          generalize moveF ⟨cols, rows, side, radius, speed, ids, queue⟩ = mv at *
          generalize passF ⟨cols, rows, side, radius, speed, ids, queue⟩ = pf at *
          generalize inZ ⟨cols, rows, side, radius, speed, ids, queue⟩ z = inb at *
          go_wp2_with fail
          go_loopg [21] l5.length (fun kx sx wr => ∃ (t : Nat) (va vb vd : Value), sx = .int .i64 t ∧ t ≤ l5.length ∧ l5.length - t ≤ kx ∧ Hid (Rc wb wr n11 va vb vd ((eachL pf (l5.take t)).filter inb) ((eachL pf (l5.take t)).filter fun b => !inb b) ((eachD pf (l5.take t)).foldl putN d5)) ∧ Hid (Bx wr n11 va vb vd))
          case atStart => exact ⟨0, _, _, _, by go_num, by omega, by omega, HRC, HX2⟩
          case round =>
            clear HRC HX2
            obtain ⟨t, va, vb, vd, rfl, ht, hkx, HR, HX⟩ := hrel
            obtain ⟨wa', rfl⟩ : ∃ wa' : World, wa' = wr := ⟨_, rfl⟩
            have hta := HR.out.tu
            have hza := hta.size
            have s11d : n11 < wa'.heap.size := by omega
            have s5d : w.heap.size < wa'.heap.size := by omega
            have hk : ∀ k, k < wb.heap.size → k ≠ n11 → wa'.heap[k]? = wb.heap[k]? := fun k h1 h2 => hta.block k h1 h2 (fun e => by cases e)
            have K5c := Lib.hid (fun u => (World.cell?_of_block (w := wb) (a := ⟨w.heap.size, u, none⟩) (hk w.heap.size s5b (by have := HN11.out; omega))).trans (K5b.out u))
            have HLC := Lib.hid (HL5.out.tu hta HLN5.out)
            have hal := HLE.out t
            have hdl := HDE.out t
            obtain ⟨pva, cva, hva⟩ := sl_frm HR.out.a
            subst hva
            obtain ⟨pvb, cvb, hvb⟩ := sl_frm HR.out.b
            subst hvb
            obtain ⟨pvd, cvd, hvd, _⟩ := HR.out.d.1
            subst hvd
            have hla := List.length_filter_le inb (eachL pf (l5.take t))
            have hlb := List.length_filter_le (fun b => !inb b) (eachL pf (l5.take t))
            have hld := putNs_len (eachD pf (l5.take t)) d5
            by_cases hlt : t < l5.length
            · have t1 : (t : Int) < (l5.length : Int) := by omega
              obtain ⟨x0, hx0⟩ : ∃ x0, l5[t]? = some x0 := ⟨_, List.getElem?_eq_getElem hlt⟩
              obtain ⟨gb, ob, cb, hv, hgb, hcb⟩ := BIn.cells HLC.out.1 hx0
              simp only [Value.slice.injEq, true_and] at hv
              obtain ⟨rfl, rfl⟩ := hv
              have c0 := hcb 0 _ rfl; have c1 := hcb 1 _ rfl; have c2 := hcb 2 _ rfl; have c3 := hcb 3 _ rfl; have c4 := hcb 4 _ rfl; have c5 := hcb 5 _ rfl; have c6 := hcb 6 _ rfl; have c7 := hcb 7 _ rfl; have c8 := hcb 8 _ rfl; have c9 := hcb 9 _ rfl; have c10 := hcb 10 _ rfl
              simp only [Nat.add_zero] at c0
              obtain ⟨e0, e1', e2'⟩ := ltz hgb
              obtain ⟨f0, f1, f2⟩ := ltz s5d
              have a0 := K5c.out 0; simp at a0; have a1 := K5c.out 1; simp at a1; have a2 := K5c.out 2; simp at a2; have a3 := K5c.out 3; simp at a3; have a4 := K5c.out 4; simp at a4; have a5 := K5c.out 5; simp at a5; have a6 := K5c.out 6; simp at a6
              have HXL := Lib.hid (HPL.out t x0 hx0)
              have HXD := Lib.hid (HPD.out t x0 hx0)
              have hfx := HFM.out x0 (List.mem_of_getElem? hx0)
              have hmv := HMV.out x0 hfx.2.2.2.1
              have hmy := HMY.out x0
              have hpa := HPA.out x0
              have HX0 := Lib.hid hx0
              clear hcb hx0 hk
              generalize eachL pf (l5.take t) = la at *
              generalize eachD pf (l5.take t) = da at *
              generalize hpd : da.foldl putN d5 = pdl at *
              have HDP2 := Lib.hid hpd
              clear hpd
              generalize hyy : mv x0 = y0 at *
              have HMO := Lib.hid hmv
              have hag := fun W => rAge_any y0.s y0.i y0.g y0.m y0.x y0.y y0.vx y0.vy y0.hp y0.pw y0.lf W (by rw [hmy.2]; exact hfx.2.2.2.2.2.2.2.2.2.2) (by rw [hmy.1]; exact hfx.2.2.2.1)
              rw [show ageF ⟨y0.s, y0.i, y0.g, y0.m, y0.x, y0.y, y0.vx, y0.vy, y0.hp, y0.pw, y0.lf⟩ = pf x0 from hpa.symm] at hag
              have HAG := Lib.hid hag
              clear hmv hag hmy hpa hyy hfx
              generalize pf x0 = r at *
              obtain ⟨⟨sw, iw, gw, mw, xw, yw, vxw, vyw, hpw, pww, lfw⟩, ok⟩ := r
              obtain ⟨s', i', g', m', x', y', vx', vy', hp', pw', lf'⟩ := y0
              obtain ⟨s, i, g, m, x, y, vx, vy, hp, pw, lf⟩ := x0
              simp only at HMO HAG HXL HXD c0 c1 c2 c3 c4 c5 c6 c7 c8 c9 c10
              go_upto_region 23 with fail
              go_cut [22, 23] (fun sq ss wx => Boxed wa' wa'.heap.size #[.int .i64 sw, .int .i64 iw, .int .i64 gw, .int .i64 mw, .int .i64 xw, .int .i64 yw, .int .i64 vxw, .int .i64 vyw, .int .i64 hpw, .int .i64 pww, .int .i64 lfw] 32 sq wx ∧ ss = .bool ok)
              case first =>
                go_region_held3 (fun W => (wa').heap.size ≤ W.heap.size ∧ ∀ b o, b < (wa').heap.size → W.cell? ⟨b, o, none⟩ = (wa').cell? ⟨b, o, none⟩) (with_reducible (repeat (first | assumption | exact s_refl _ | exact s_id _ | refine s_more _ _ ?_ | refine s_alloc _ ?_ | refine s_drew ?_))) (first | (go_at_call 57; refine (HMO.out _).mono ?_; rintro e w' ⟨rfl, hb⟩; obtain ⟨d1, os1, rfl⟩ := more_of hb; clear hb) | (go_at_call 56; refine (HAG.out _).mono ?_; rintro e w' ⟨rfl, hb⟩; obtain ⟨d2, os2, rfl⟩ := more_of hb; clear hb))
                all_goals (clear c0 c1 c2 c3 c4 c5 c6 c7 c8 c9 c10 e0 e1' e2' a0 a1 a2 a3 a4 a5 a6 f0 f1 f2)
                all_goals (go_wp2_with fail; go_meet)
                all_goals (refine ⟨?_, rfl⟩; ((with_reducible (repeat (first | exact grew_refl _ | exact grew_redrawn _ _ _ _ | refine boxed_drew ?_ | refine boxed_more _ _ ?_ | refine boxed_end ?_ ?_ ?_ | refine grew_more _ _ ?_ | refine grew_drew ?_))); (all_goals (try simp))))
              obtain ⟨⟨d1, os1, d2, os2, rfl, hwc⟩, rfl⟩ := hcut
              obtain ⟨wx, rfl⟩ : ∃ wx : World, wx = wc := ⟨_, rfl⟩
              have hbx : Below wa'.heap.size wa' wx := by rw [hwc]; exact bg
              have hnb := new_box (more wa' d1 os1) #[.int .i64 sw, .int .i64 iw, .int .i64 gw, .int .i64 mw, .int .i64 xw, .int .i64 yw, .int .i64 vxw, .int .i64 vyw, .int .i64 hpw, .int .i64 pww, .int .i64 lfw] 32 (wa'.heap.size + os1.size) (by simp)
              have hmb : Below ((more wa' d1 os1).alloc (.cells #[.int .i64 sw, .int .i64 iw, .int .i64 gw, .int .i64 mw, .int .i64 xw, .int .i64 yw, .int .i64 vxw, .int .i64 vyw, .int .i64 hpw, .int .i64 pww, .int .i64 lfw] 32)).heap.size ((more wa' d1 os1).alloc (.cells #[.int .i64 sw, .int .i64 iw, .int .i64 gw, .int .i64 mw, .int .i64 xw, .int .i64 yw, .int .i64 vxw, .int .i64 vyw, .int .i64 hpw, .int .i64 pww, .int .i64 lfw] 32)) wx := by rw [hwc]; exact more_below _ _ _
              have kx := box_on hmb hnb.2.2.1 hnb.1
              have sx := Nat.lt_of_lt_of_le hnb.2.2.1 hmb.size
              have HRX := Lib.hid (HR.out.grow hbx)
              have HXX := Lib.hid (HX.out.keep (hbx.block n11 s11d))
              have HLX := Lib.hid (HLC.out.keep hbx)
              have s11x := Nat.lt_of_lt_of_le s11d hbx.size
              have s5x := Nat.lt_of_lt_of_le s5d hbx.size
              have K5x := Lib.hid (box_on hbx s5d K5c.out)
              generalize wa'.heap.size + os1.size = n22 at *
              clear hwc hnb hmb hbx c0 c1 c2 c3 c4 c5 c6 c7 c8 c9 c10 e0 e1' e2' a0 a1 a2 a3 a4 a5 a6 f0 f1 f2
              obtain ⟨f0, f1, f2⟩ := ltz s11x
              cases ok with
              | false =>
                simp only [Bool.false_eq_true, if_false, List.append_nil] at HXL HXD
                obtain ⟨gb2, ob2, cb2, hv2, hgb2, hcb2⟩ := BIn.cells HLX.out.1 HX0.out
                simp only [Value.slice.injEq, Option.some.injEq, Addr.mk.injEq, true_and, and_true] at hv2
                obtain ⟨⟨rfl, rfl⟩, rfl⟩ := hv2
                have c0 := hcb2 0 _ rfl; have c1 := hcb2 1 _ rfl; have c2 := hcb2 2 _ rfl
                simp only [Nat.add_zero] at c0
                obtain ⟨e0, e1', e2'⟩ := ltz hgb2
                have b2 := HXX.out.c 2
                simp at b2
                have g2 := HXX.out.f 2
                have HWI := Lib.hid (fun W (hW : Below wx.heap.size wx W) => with15_any _ pdl s i g W (HRX.out.d.keep hW) (by omega))
                clear hcb2 kx
                go_upto_region 25 with fail
                refine wp_region_x (S := fun W' => wx.heap.size ≤ W'.heap.size ∧ ∀ b o, b < wx.heap.size → W'.cell? ⟨b, o, none⟩ = wx.cell? ⟨b, o, none⟩) 9 (by kernel_rfl) (by with_reducible (repeat (first | assumption | exact s_refl _ | exact s_id _ | refine s_more _ _ ?_ | refine s_alloc _ ?_ | refine s_drew ?_))) (fun hHeld => ?_)
                refine anyX_take (n := 9) (i := 0) (v := ?_) rfl (by kernel_rfl) (fun _ _ _ h => h) (Or.inl ⟨by rfl, ?_⟩) (by assumption) ?_
                rotate_left 1
                · (intro w hSw; (try dsimp only at hSw); go_simp; (try with_reducible rfl))
                simp [Act.put]
                refine anyX_take (n := 9) (i := 1) (v := ?_) rfl (by kernel_rfl) (fun _ _ _ h => h) (Or.inl ⟨by rfl, ?_⟩) (by assumption) ?_
                rotate_left 1
                · (intro w hSw; (try dsimp only at hSw); go_simp; (try with_reducible rfl))
                simp [Act.put]
                refine anyX_take (n := 9) (i := 2) (v := ?_) rfl (by kernel_rfl) (fun _ _ _ h => h) (Or.inl ⟨by rfl, ?_⟩) (by assumption) ?_
                rotate_left 1
                · (intro w hSw; (try dsimp only at hSw); go_simp; (try with_reducible rfl))
                simp [Act.put]
                refine anyX_take (n := 9) (i := 3) (v := ?_) rfl (by kernel_rfl) (fun _ _ _ h => h) (Or.inl ⟨by rfl, ?_⟩) (by assumption) ?_
                rotate_left 1
                · (intro w hSw; (try dsimp only at hSw); go_simp; (try with_reducible rfl))
                simp [Act.put]
                refine anyX_take (n := 9) (i := 4) (v := ?_) rfl (by kernel_rfl) (fun _ _ _ h => h) (Or.inl ⟨by rfl, ?_⟩) (by assumption) ?_
                rotate_left 1
                · (intro w hSw; (try dsimp only at hSw); go_simp; (try with_reducible rfl))
                simp [Act.put]
                refine anyX_take (n := 9) (i := 5) (v := ?_) rfl (by kernel_rfl) (fun _ _ _ h => h) (Or.inl ⟨by rfl, ?_⟩) (by assumption) ?_
                rotate_left 1
                · (intro w hSw; (try dsimp only at hSw); go_simp; (try with_reducible rfl))
                simp [Act.put]
                refine anyX_take (n := 9) (i := 6) (v := ?_) rfl (by kernel_rfl) (fun _ _ _ h => h) (Or.inl ⟨by rfl, ?_⟩) (by assumption) ?_
                rotate_left 1
                · (intro w hSw; (try dsimp only at hSw); go_simp; (try with_reducible rfl))
                simp [Act.put]
                refine anyX_ready (rs := [7]) (by kernel_rfl) (by simp) (ReadyX.cons rfl (fun K hK => ?_) ReadyX.nil)
                (go_simp; go_at_call 54; refine (HWI.out _ bg).mono ?_; rintro e w' ⟨vq, rfl, hb, hr, ho⟩; obtain ⟨d1, os1, rfl⟩ := more_of hb; obtain ⟨pq, cq, hvq, _⟩ := hr.1; subst hvq; (try simp only [more_of_drew] at hb hr ho ⊢))
                refine hK.out _ _ (fun hlt => ?_) (fun hHeld => ?_)
                · (try dsimp only); with_reducible (repeat (first | assumption | exact s_refl _ | exact s_id _ | refine s_more _ _ ?_ | refine s_alloc _ ?_ | refine s_drew ?_))
                clear hK
                replace hHeld := hHeld (by omega); try simp [Act.put]
                refine anyX_take (n := 9) (i := 8) (v := ?_) rfl (by kernel_rfl) (fun _ _ _ h => h) (Or.inl ⟨by rfl, ?_⟩) (by assumption) ?_
                rotate_left 1
                · (intro w hSw; (try dsimp only at hSw); go_simp; (try with_reducible rfl))
                simp [Act.put]
                refine anyX_ready (rs := [9]) (by kernel_rfl) (by simp) (ReadyX.cons rfl (fun K hK => ?_) ReadyX.nil)
                go_simp
                refine hK.out _ _ (fun hlt => ?_) (fun hHeld => ?_)
                · exact absurd hlt (by omega)
                clear hK
                clear hHeld; try simp [Act.put]
                refine anyX_done (by kernel_rfl) ?_ _
                clear b2 g2 c0 c1 c2 e0 e1' e2' f0 f1 f2
                have hm := (Rc.put s11b HRX.out (more_below wx d1 os1) hr (show OrNew wx _ _ from ho)).set s11b 2 (.slice pq (putN pdl ⟨s, i, g⟩).length cq)
                have hmx := (HXX.out.keep ((more_below wx d1 os1).block n11 s11x)).set2 (.slice pq (putN pdl ⟨s, i, g⟩).length cq)
                rw [more_setCell _ _ _ _ _ s11x] at hm hmx
                have HM := Lib.hid hm
                have HMX := Lib.hid hmx
                clear hm hmx hb hr ho
                go_wp2_with fail
                go_roundg (l5.length - (t + 1))
                case measure => omega
                case rel => exact ⟨t + 1, _, _, _, by go_num, by omega, by omega, Lib.hid (by rw [HXL.out, HXD.out, List.foldl_append, HDP2.out]; exact HM.out), HMX⟩
              | true =>
                simp only [if_true, List.append_nil] at HXL HXD
                have q0 := kx 0; simp at q0; have q1 := kx 1; simp at q1; have q2 := kx 2; simp at q2; have q3 := kx 3; simp at q3; have q4 := kx 4; simp at q4; have q5 := kx 5; simp at q5; have q6 := kx 6; simp at q6; have q7 := kx 7; simp at q7; have q8 := kx 8; simp at q8; have q9 := kx 9; simp at q9; have q10 := kx 10; simp at q10
                have a0 := K5x.out 0; simp at a0; have a1 := K5x.out 1; simp at a1; have a2 := K5x.out 2; simp at a2; have a3 := K5x.out 3; simp at a3; have a4 := K5x.out 4; simp at a4; have a5 := K5x.out 5; simp at a5; have a6 := K5x.out 6; simp at a6
                obtain ⟨f3, f4, f5⟩ := ltz sx
                obtain ⟨f6, f7, f8⟩ := ltz s5x
                have b0 := HXX.out.c 0
                have b1 := HXX.out.c 1
                simp at b0 b1
                have g0 := HXX.out.f 0
                have g1 := HXX.out.f 1
                have hiz := HIZ.out ⟨sw, iw, gw, mw, xw, yw, vxw, vyw, hpw, pww, lfw⟩
                have HOX := Lib.hid (HOF.out xw yw)
                simp only at hiz
                generalize of xw yw = oz at *
                clear kx
                
                have HIZ2 := Lib.hid hiz
                clear hiz
                by_cases hz : z < 0
                · have HIN := Lib.hid (show inb ⟨sw, iw, gw, mw, xw, yw, vxw, vyw, hpw, pww, lfw⟩ = true from by rw [HIZ2.out]; simp [hz])
                  have HF1S := Lib.hid (show [(⟨sw, iw, gw, mw, xw, yw, vxw, vyw, hpw, pww, lfw⟩ : Bun)].filter inb = [⟨sw, iw, gw, mw, xw, yw, vxw, vyw, hpw, pww, lfw⟩] from by simp [HIN.out])
                  have HF2S := Lib.hid (show ([(⟨sw, iw, gw, mw, xw, yw, vxw, vyw, hpw, pww, lfw⟩ : Bun)].filter fun b => !inb b) = [] from by simp [HIN.out])
                  clear HIN HIZ2
                  generalize hfa : la.filter inb = fa at *
                  have HFA := Lib.hid hfa
                  have HRY2 := Lib.hid HRX.out
                  clear hfa
                  go_wp2_with (at_builtin; refine wpList_append_sl _ (by rfl) _ _ 37 (by rfl) 32 i0 _ 11 88 Tryz.underlying37 hi0 hz0' hz1' hz2' rfl (by omega) _ fa.length (bunCells fa) (by rfl) (HRY2.out.grow bg).a ⟨_, 0, none⟩ 1 1 (bunL ⟨sw, iw, gw, mw, xw, yw, vxw, vyw, hpw, pww, lfw⟩) (by rfl) (by rfl) (new_cellsN _ _ _ _ (by simp)) (bunL_one _) (by omega) (by unfold maxLen; omega) (by omega) ?_; intro v' w4 hs4 ht4 ho4; obtain ⟨p4, c4, rfl⟩ := sl_frm hs4; have hm := (HRY2.out.grow bg).appA hs4 ht4 ho4; have hmx := (HXX.out.keep (w' := w4) ((ht4.block n11 (Nat.lt_of_lt_of_le s11x (Below.size (B := wx.heap.size) (w := wx) bg)) (fun e => by have := HRY2.out.ao n11 e.symm; omega)).trans (Below.block (B := wx.heap.size) (w := wx) bg n11 s11x))); have HM := Lib.hid hm; have b4 := hmx.c 0; simp at b4; have g4 := hmx.f 0; have HMX := Lib.hid hmx; clear hs4 ht4 ho4 hm hmx)
                  go_roundg (l5.length - (t + 1))
                  case measure => omega
                  case rel => exact ⟨t + 1, _, _, _, by go_num, by omega, by omega, Lib.hid (by rw [HXL.out, HXD.out, HDP2.out, List.filter_append, List.filter_append, HF1S.out, HF2S.out, List.append_nil, HFA.out]; exact HM.out.set s11b 0 _), Lib.hid (HMX.out.set0 _)⟩
                · by_cases hoz : oz = z
                  · have HIN := Lib.hid (show inb ⟨sw, iw, gw, mw, xw, yw, vxw, vyw, hpw, pww, lfw⟩ = true from by rw [HIZ2.out]; simp [hoz])
                    have HF1S := Lib.hid (show [(⟨sw, iw, gw, mw, xw, yw, vxw, vyw, hpw, pww, lfw⟩ : Bun)].filter inb = [⟨sw, iw, gw, mw, xw, yw, vxw, vyw, hpw, pww, lfw⟩] from by simp [HIN.out])
                    have HF2S := Lib.hid (show ([(⟨sw, iw, gw, mw, xw, yw, vxw, vyw, hpw, pww, lfw⟩ : Bun)].filter fun b => !inb b) = [] from by simp [HIN.out])
                    clear HIN HIZ2
                    generalize hfa : la.filter inb = fa at *
                    have HFA := Lib.hid hfa
                    have HRY2 := Lib.hid HRX.out
                    clear hfa
                    go_wp2_with (first | (go_at_call 15; refine (HOX.out _).mono ?_; rintro e w' ⟨rfl, hb⟩; obtain ⟨d3, os3, rfl⟩ := more_of hb; clear hb) | (at_builtin; refine wpList_append_sl _ (by rfl) _ _ 37 (by rfl) 32 i0 _ 11 88 Tryz.underlying37 hi0 hz0' hz1' hz2' rfl (by omega) _ fa.length (bunCells fa) (by rfl) (HRY2.out.grow bg).a ⟨_, 0, none⟩ 1 1 (bunL ⟨sw, iw, gw, mw, xw, yw, vxw, vyw, hpw, pww, lfw⟩) (by rfl) (by rfl) (new_cellsN _ _ _ _ (by simp)) (bunL_one _) (by omega) (by unfold maxLen; omega) (by omega) ?_; intro v' w4 hs4 ht4 ho4; obtain ⟨p4, c4, rfl⟩ := sl_frm hs4; have hm := (HRY2.out.grow bg).appA hs4 ht4 ho4; have hmx := (HXX.out.keep (w' := w4) ((ht4.block n11 (Nat.lt_of_lt_of_le s11x (Below.size (B := wx.heap.size) (w := wx) bg)) (fun e => by have := HRY2.out.ao n11 e.symm; omega)).trans (Below.block (B := wx.heap.size) (w := wx) bg n11 s11x))); have HM := Lib.hid hm; have b4 := hmx.c 0; simp at b4; have g4 := hmx.f 0; have HMX := Lib.hid hmx; clear hs4 ht4 ho4 hm hmx))
                    go_roundg (l5.length - (t + 1))
                    case measure => omega
                    case rel => exact ⟨t + 1, _, _, _, by go_num, by omega, by omega, Lib.hid (by rw [HXL.out, HXD.out, HDP2.out, List.filter_append, List.filter_append, HF1S.out, HF2S.out, List.append_nil, HFA.out]; exact HM.out.set s11b 0 _), Lib.hid (HMX.out.set0 _)⟩
                  · have HIN := Lib.hid (show inb ⟨sw, iw, gw, mw, xw, yw, vxw, vyw, hpw, pww, lfw⟩ = false from by rw [HIZ2.out]; simp [hoz, hz])
                    have HF1S := Lib.hid (show [(⟨sw, iw, gw, mw, xw, yw, vxw, vyw, hpw, pww, lfw⟩ : Bun)].filter inb = [] from by simp [HIN.out])
                    have HF2S := Lib.hid (show ([(⟨sw, iw, gw, mw, xw, yw, vxw, vyw, hpw, pww, lfw⟩ : Bun)].filter fun b => !inb b) = [⟨sw, iw, gw, mw, xw, yw, vxw, vyw, hpw, pww, lfw⟩] from by simp [HIN.out])
                    clear HIN HIZ2
                    generalize hfa : (la.filter fun b => !inb b) = fa at *
                    have HFA := Lib.hid hfa
                    have HRY2 := Lib.hid HRX.out.swap
                    clear hfa
                    go_wp2_with (first | (go_at_call 15; refine (HOX.out _).mono ?_; rintro e w' ⟨rfl, hb⟩; obtain ⟨d3, os3, rfl⟩ := more_of hb; clear hb) | (at_builtin; refine wpList_append_sl _ (by rfl) _ _ 37 (by rfl) 32 i0 _ 11 88 Tryz.underlying37 hi0 hz0' hz1' hz2' rfl (by omega) _ fa.length (bunCells fa) (by rfl) (HRY2.out.grow bg).a ⟨_, 0, none⟩ 1 1 (bunL ⟨sw, iw, gw, mw, xw, yw, vxw, vyw, hpw, pww, lfw⟩) (by rfl) (by rfl) (new_cellsN _ _ _ _ (by simp)) (bunL_one _) (by omega) (by unfold maxLen; omega) (by omega) ?_; intro v' w4 hs4 ht4 ho4; obtain ⟨p4, c4, rfl⟩ := sl_frm hs4; have hm := (HRY2.out.grow bg).appA hs4 ht4 ho4; have hmx := (HXX.out.keep (w' := w4) ((ht4.block n11 (Nat.lt_of_lt_of_le s11x (Below.size (B := wx.heap.size) (w := wx) bg)) (fun e => by have := HRY2.out.ao n11 e.symm; omega)).trans (Below.block (B := wx.heap.size) (w := wx) bg n11 s11x))); have HM := Lib.hid hm; have b4 := hmx.c 1; simp at b4; have g4 := hmx.f 1; have HMX := Lib.hid hmx; clear hs4 ht4 ho4 hm hmx))
                    go_roundg (l5.length - (t + 1))
                    case measure => omega
                    case rel => exact ⟨t + 1, _, _, _, by go_num, by omega, by omega, Lib.hid (by rw [HXL.out, HXD.out, HDP2.out, List.filter_append, List.filter_append, HF1S.out, HF2S.out, List.append_nil, HFA.out]; exact (HM.out.swap).set s11b 1 _), Lib.hid (HMX.out.set1 _)⟩
            · have t1 : ¬ (t : Int) < (l5.length : Int) := by omega
              obtain rfl : t = l5.length := by omega
              rw [List.take_length] at HR HX
              rw [List.take_length] at hla hlb hld
              have K106 := Lib.hid (fun u => (World.cell?_of_block (w := wb) (a := ⟨n10, u, none⟩) (hk n10 s10b (by omega))).trans (K105.out u))
              have G106 := Lib.hid (fun u => (World.frozen?_of_block (w := wb) (a := ⟨n10, u, none⟩) (hk n10 s10b (by omega))).trans (G105.out u))
              have hw10 : w.heap.size ≤ n10 := by have := HN10.out; omega
              have hw11 : w.heap.size ≤ n11 := by omega
              have hbw := hta.below HBb.out hw11 (fun g hg => by cases hg)
              have HBW := Lib.hid hbw
              have r0 := K106.out 0; simp at r0; have r1 := K106.out 1; simp at r1; have r2 := K106.out 2; simp at r2
              have q0 := G106.out 0; have q1 := G106.out 1; have q2 := G106.out 2
              have b0 := HX.out.c 0; simp at b0; have b1 := HX.out.c 1; simp at b1; have b2 := HX.out.c 2; simp at b2
              have hne : n10 ≠ n11 := by omega
              have HTA := Lib.hid hta
              clear hta hbw hk
              generalize (eachL pf l5).filter inb = fa at *
              generalize ((eachL pf l5).filter fun b => !inb b) = fb at *
              generalize (eachD pf l5).foldl putN d5 = fd at *
              go_wp2_with fail
              have hT := setCells_turned n10 [.slice pva fa.length cva, .slice pvb fb.length cvb, .slice pvd fd.length cvd] 0 wa'
              have hkf : ∀ g, g < wa'.heap.size → g ≠ n10 → (wa'.setCells n10 0 [.slice pva fa.length cva, .slice pvb fb.length cvb, .slice pvd fd.length cvd]).heap[g]? = wa'.heap[g]? := fun g h1 h2 => hT.block g h1 (fun e => h2 (Option.some.inj e))
              have hB : Below w.heap.size w (wa'.setCells n10 0 [.slice pva fa.length cva, .slice pvb fb.length cvb, .slice pvd fd.length cvd]) := HBW.out.trans ⟨hT.os, hT.tape, hT.output, hT.size, fun g hg => hT.block g (Nat.lt_of_lt_of_le hg HBW.out.size) (fun e => by cases e; omega)⟩
              have hq : RunM w fa fb fd (.returned (.agg #[.slice pva fa.length cva, .slice pvb fb.length cvb, .slice pvd fd.length cvd])) (wa'.setCells n10 0 [.slice pva fa.length cva, .slice pvb fb.length cvb, .slice pvd fd.length cvd]) :=
                ⟨_, _, _, rfl, ⟨HR.out.a.keep fun g hg => hkf g (sl_lt HR.out.a hg) (by have := HR.out.ao g hg; omega), hB, fun g hg => by have := HR.out.ao g hg; omega⟩, ⟨HR.out.b.keep fun g hg => hkf g (sl_lt HR.out.b hg) (by have := HR.out.bo g hg; omega), hB, fun g hg => by have := HR.out.bo g hg; omega⟩, HR.out.d.block hT.size fun g hg => hkf g (HR.out.d.2.1 g hg) (by have := HR.out.dn g hg; omega), fun g hg => by have := HR.out.dn g hg; omega, HR.out.ad⟩
              have hqq : RunM w fa fb fd = Q := by rw [← HRES.out, HFIN.out.1, HFIN.out.2.1, HFIN.out.2.2]
              rw [hqq] at hq
              exact bodyPost_ret (v := .agg #[.slice pva fa.length cva, .slice pvb fb.length cvb, .slice pvd fd.length cvd]) (by simp [results, Tryz.results23, go_sem, r0, r1, r2]) rfl hq
end Go.Proofs.YtoimjjhopljdmaaGreat
