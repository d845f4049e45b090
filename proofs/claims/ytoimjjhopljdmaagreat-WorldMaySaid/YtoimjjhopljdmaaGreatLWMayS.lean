/-
  WorldMay: for any config and every list of turns the law returns true, and the arguments stay as they were. No condition.
-/
import Derived.Deep.RegionLaw
import Derived.Deep.RegionLawGrows
import Derived.RegionTactic
import Derived.StillTailTactics
import Derived.Deep.RegionHeld3
import Derived.Deep.AppendLies
import Derived.Shelf.SlicesE.DeleteFunc
import Derived.Laws.MakeOwn
import Derived.Test.YtoimjjhopljdmaaGreatProg
import Derived.Shelf.SlicesQ.IndexFunc
import Derived.BigRegion
import Derived.Shelf.RegionOpenPlain
import Derived.Test.YtoimjjhopljdmaaGreatRows
import Derived.WalkKit
import Derived.ProofKit
import Derived.OpenShut
import Derived.Carry
import Derived.ChangeSlices
import Derived.Shelf.SlicesQ.Load
import Derived.StillTail
import Derived.Shelf.SlSortCmp.KitK
import Derived.Sort.WalkB2
import Derived.Sort.WalkB12
import Derived.Sort.LotA
import Derived.Shelf.SlSortCmp.Insertion
import Derived.Shelf.SlSortCmp.NoneTotal
import Derived.Deep.Slices
import Derived.Lib.SliceRun
import Derived.Lib.Overlaps
import Derived.Lib.AppendZerosOnto
import Derived.Laws.Externs
import Derived.Laws.IdiomCopy
import Derived.Laws.NewBlocks
import Derived.Test.YtoimjjhopljdmaaGreatQ01
import Derived.Test.YtoimjjhopljdmaaGreatQ02
import Derived.Test.YtoimjjhopljdmaaGreatQ03
import Derived.Test.YtoimjjhopljdmaaGreatQ04
import Derived.Test.YtoimjjhopljdmaaGreatQ05
import Derived.Test.YtoimjjhopljdmaaGreatQ06
import Derived.Test.YtoimjjhopljdmaaGreatQ07
import Derived.Test.YtoimjjhopljdmaaGreatQ08
import Derived.Test.YtoimjjhopljdmaaGreatQ09
import Derived.Test.YtoimjjhopljdmaaGreatQ10
import Derived.Test.YtoimjjhopljdmaaGreatQ11
import Derived.Test.YtoimjjhopljdmaaGreatQ12
import Derived.Test.YtoimjjhopljdmaaGreatQ13
import Derived.Test.YtoimjjhopljdmaaGreatQ14
import Derived.Test.YtoimjjhopljdmaaGreatQ15
import Derived.Test.YtoimjjhopljdmaaGreatQ16
import Derived.Test.YtoimjjhopljdmaaGreatQ17
import Derived.Test.YtoimjjhopljdmaaGreatQ18
import Derived.Test.YtoimjjhopljdmaaGreatQ19
import Derived.Test.YtoimjjhopljdmaaGreatQ20
import Derived.Test.YtoimjjhopljdmaaGreatQ21
import Derived.Test.YtoimjjhopljdmaaGreatQ22
import Derived.Test.YtoimjjhopljdmaaGreatQ23
import Derived.Test.YtoimjjhopljdmaaGreatQ24
import Derived.Test.YtoimjjhopljdmaaGreatQ25
import Derived.Test.YtoimjjhopljdmaaGreatQ26
import Derived.Test.YtoimjjhopljdmaaGreatQ27
import Derived.Test.YtoimjjhopljdmaaGreatQ28
import Derived.Test.YtoimjjhopljdmaaGreatQ29
import Derived.Test.YtoimjjhopljdmaaGreatQ30
import Derived.Test.YtoimjjhopljdmaaGreatQ31
import Derived.Test.YtoimjjhopljdmaaGreatQ32
import Derived.Test.YtoimjjhopljdmaaGreatQ33
import Derived.Test.YtoimjjhopljdmaaGreatQ34
import Derived.Test.YtoimjjhopljdmaaGreatQ35
import Derived.Test.YtoimjjhopljdmaaGreatQ36
import Derived.Test.YtoimjjhopljdmaaGreatQ37
import Derived.Test.YtoimjjhopljdmaaGreatQ38
import Derived.Test.YtoimjjhopljdmaaGreatQ39
import Derived.Test.YtoimjjhopljdmaaGreatQ40
import Derived.Test.YtoimjjhopljdmaaGreatR01
import Derived.Test.YtoimjjhopljdmaaGreatR02
import Derived.Test.YtoimjjhopljdmaaGreatR03
import Derived.Test.YtoimjjhopljdmaaGreatR04
import Derived.Test.YtoimjjhopljdmaaGreatS01
import Derived.Test.YtoimjjhopljdmaaGreatS02
namespace Go.Proofs.YtoimjjhopljdmaaGreat.worldMay
open Go.ChangeShapes Go.WideShapes Go.ChangeAt Go.RowKit

attribute [local go_sem ↓] storeVar_stC
set_option maxRecDepth 100000 in
set_option maxHeartbeats 8000000 in
theorem walk (cols rows side radius speed ids queue : Int) (v : Value) (zs : List Tn) (w : World) (hz : RIn tnL w v zs) :
    Calls Tryz.prog 4 #[.agg #[.int .i64 cols, .int .i64 rows, .int .i64 side, .int .i64 radius, .int .i64 speed, .int .i64 ids, .int .i64 queue], v] w fun e w' => e = .returned (.bool true) ∧ Below w.heap.size w w' := by
  obtain ⟨w1, hw1, k0, hb1, g0, hsz⟩ := one_box w #[.int .i64 cols, .int .i64 rows, .int .i64 side, .int .i64 radius, .int .i64 speed, .int .i64 ids, .int .i64 queue] 23
  have hbx := (Own.nil w).made (made_box w #[.int .i64 cols, .int .i64 rows, .int .i64 side, .int .i64 radius, .int .i64 speed, .int .i64 ids, .int .i64 queue] 23)
  rw [← hw1] at hbx
  have HBX := Lib.hid hbx
  have HMA := Lib.hid (made17_any cols rows side radius speed ids queue v zs w1 (hz.keep hb1))
  have HMY := Lib.hid (fun W => may_any cols rows side radius speed ids queue W)
  have ho := mayF_ok ⟨cols, rows, side, radius, speed, ids, queue⟩
  generalize mayF ⟨cols, rows, side, radius, speed, ids, queue⟩ = cm at *
  have hts : (zs.take 60).length ≤ 60 := by rw [List.length_take]; omega
  have hpi := (play_inv ho (zs.take 60) hts _ (Nat.le_refl _)).1
  rw [List.take_length] at hpi
  generalize playW cm (zs.take 60) = s at *
  obtain ⟨X, li⟩ := s
  simp only at hpi HMA
  have hl : X.L.length ≤ 60 := by have := hpi.len; omega
  have HG := Lib.hid hpi.good
  have HR := Lib.hid (List.pairwise_iff_getElem.1 hpi.rise)
  have HROF := Lib.hid (fun x y W => rof_any cm.cols cm.rows cm.side cm.radius cm.speed cm.ids cm.queue x y W ho)
  have hbl : ∀ x : Bun, (bunL x).length = 11 := fun _ => rfl
  have HW1 := Lib.hid hw1
  have y0 := k0 0; simp at y0; have y1 := k0 1; simp at y1; have y2 := k0 2; simp at y2; have y3 := k0 3; simp at y3; have y4 := k0 4; simp at y4; have y5 := k0 5; simp at y5; have y6 := k0 6; simp at y6
  have s1 : w.heap.size < w1.heap.size := by omega
  clear hw1 hb1 k0 g0 hsz ho hz hts hpi hbx
  go_enter Tryz.func4, Tryz.ntmps4
  go_upto_region 1 with fail
  rw [← HW1.out]
  go_wp2_with fail
  refine HMA.out.mono ?_
  rintro e w2 ⟨p, pi, ci, rfl, h2⟩
  have H2 := Lib.hid (HBX.out.made (own_made h2)).swap
  have hbc := H2.out.box
  clear y0 y1 y2 y3 y4 y5 y6 h2 HMA HBX HW1 s1
  go_wp2_with fail
  refine (wlist_o (H2.out.swap.assoc) (by omega)).mono ?_
  rintro e w3 ⟨vl, rfl, hn⟩
  obtain ⟨pl, cl, rfl⟩ := sl_frm hn.1
  have H3 := Lib.hid (H2.out.made hn.made).swap
  clear hn hbc
  have hbc := H3.out.box
  have y0 := hbc.1 0; simp at y0; have y1 := hbc.1 1; simp at y1; have y2 := hbc.1 2; simp at y2; have y3 := hbc.1 3; simp at y3; have y4 := hbc.1 4; simp at y4; have y5 := hbc.1 5; simp at y5; have y6 := hbc.1 6; simp at y6
  clear hbc H2
  go_wp2_with fail
  refine (HMY.out _).mono ?_
  rintro e w4 ⟨rfl, hb4⟩
  obtain ⟨hst, h5⟩ := st_cfg (cols := cm.cols) (rows := cm.rows) (side := cm.side) (radius := cm.radius) (speed := cm.speed) (ids := cm.ids) (queue := cm.queue) (H3.out.grow hb4)
  obtain ⟨w5, hw5⟩ : ∃ W, W = (((((((w4.setCell ⟨w.heap.size, 0, none⟩ (.int .i64 cm.cols)).setCell ⟨w.heap.size, 1, none⟩ (.int .i64 cm.rows)).setCell ⟨w.heap.size, 2, none⟩ (.int .i64 cm.side)).setCell ⟨w.heap.size, 3, none⟩ (.int .i64 cm.radius)).setCell ⟨w.heap.size, 4, none⟩ (.int .i64 cm.speed)).setCell ⟨w.heap.size, 5, none⟩ (.int .i64 cm.ids)).setCell ⟨w.heap.size, 6, none⟩ (.int .i64 cm.queue)) := ⟨_, rfl⟩
  rw [← hw5] at hst h5
  clear hw5 hb4 HMY y0 y1 y2 y3 y4 y5 y6 H3
  go_upto_region 4 with fail
  have hbc := h5.box
  have y0 := hbc.1 0; simp at y0; have y1 := hbc.1 1; simp at y1; have y2 := hbc.1 2; simp at y2; have y3 := hbc.1 3; simp at y3; have y4 := hbc.1 4; simp at y4; have y5 := hbc.1 5; simp at y5; have y6 := hbc.1 6; simp at y6
  have lc := hbc.2.2.1
  have HRI := Lib.hid (RIn.of_sl (enc := bunL) h5.swap.sl.1)
  have HBW := Lib.hid h5.below
  clear hst hbc h5
  go_wp2_with fail
  go_loopw [8] (fun x wr => ∃ j : Nat, x = .int .i64 j ∧ j ≤ X.L.length ∧ Hid (Below w5.heap.size w5 wr)) (fun x _ => X.L.length - (intOf x).toNat)
  case atStart => exact ⟨0, rfl, Nat.zero_le _, Lib.hid (Below.refl _ _)⟩
  case round =>
    obtain ⟨j, rfl, hj, hB⟩ := hrel
    obtain ⟨wo, rfl⟩ : ∃ wo : World, wo = wr := ⟨_, rfl⟩
    have hI : 0 ≤ (j : Int) := Int.natCast_nonneg j
    by_cases hlt : j < X.L.length
    · have t1 : (j : Int) < (X.L.length : Int) := by omega
      obtain ⟨x, hx⟩ : ∃ x, X.L[j]? = some x := ⟨_, List.getElem?_eq_getElem hlt⟩
      obtain ⟨blk, off, cap', hve, hb, hcx⟩ := (HRI.out.keep hB.out).cells hbl hx
      simp only [Value.slice.injEq, true_and] at hve
      obtain ⟨rfl, rfl⟩ := hve
      have hgd := HG.out x (List.mem_of_getElem? hx)
      have hck := hgd.1.1
      have hfit := good_fit hck
      have o0 := (hB.out.cell (p := ⟨w.heap.size, 0, none⟩) lc).trans y0; have o1 := (hB.out.cell (p := ⟨w.heap.size, 1, none⟩) lc).trans y1; have o2 := (hB.out.cell (p := ⟨w.heap.size, 2, none⟩) lc).trans y2; have o3 := (hB.out.cell (p := ⟨w.heap.size, 3, none⟩) lc).trans y3; have o4 := (hB.out.cell (p := ⟨w.heap.size, 4, none⟩) lc).trans y4; have o5 := (hB.out.cell (p := ⟨w.heap.size, 5, none⟩) lc).trans y5; have o6 := (hB.out.cell (p := ⟨w.heap.size, 6, none⟩) lc).trans y6
      have lc2 := Nat.lt_of_lt_of_le lc hB.out.size
      obtain ⟨z0, z1, z2⟩ := ltz lc2
      obtain ⟨z3, z4, z5⟩ := ltz hb
      have hof := hgd.2
      have HOF := Lib.hid (HROF.out x.x x.y)
      generalize ofF _ x.x x.y = zi at *
      have d1 : decide (zi < 0) = false := by simp; omega
      have HM : Hid (∀ W, Calls Tryz.prog 14 #[.agg (bunL x).toArray] W fun e w' => e = .returned (.bool true) ∧ Below W.heap.size W w') := Lib.hid (fun W => by have := rMay_s x.s x.i x.g x.m x.x x.y x.vx x.vy x.hp x.pw x.lf W hfit.2.2.2.1; rw [hck] at this; exact this)
      by_cases hj0 : j = 0
      · subst hj0
        obtain ⟨s, i, g, m, x, y, vx, vy, hp, pw, lf⟩ := x
        simp only at HOF
        have c0 := hcx 0 _ rfl; have c1 := hcx 1 _ rfl; have c2 := hcx 2 _ rfl; have c3 := hcx 3 _ rfl; have c4 := hcx 4 _ rfl; have c5 := hcx 5 _ rfl; have c6 := hcx 6 _ rfl; have c7 := hcx 7 _ rfl; have c8 := hcx 8 _ rfl; have c9 := hcx 9 _ rfl; have c10 := hcx 10 _ rfl
        simp only [Nat.add_zero] at c0
        clear hcx hx hgd hck hfit
        go_wp2_with fail
        refine wp_region_more (by kernel_rfl) (by kernel_rfl) ?_
        repeat (go_big_quiet_step ((first | (go_at_call 14; exact more_call (HM.out _)) | (go_at_call 15; exact more_call (HOF.out _)))))
        refine wpQuiet_nil ?_
        rintro _ ⟨pm, rfl⟩
        go_wp2_with fail
        go_roundw
        case rel => exact ⟨0 + 1, by go_num, hlt, Lib.hid (hB.out.trans (Below.mono (B := wo.heap.size) (by repeat' (first | (with_reducible exact Below.refl _ _) | (with_reducible assumption) | (with_reducible refine below_drewN ?_ _) | (with_reducible refine below_more _ _ _ ?_ ?_) | (with_reducible refine Below.alloc ?_ ?_ _) | (with_reducible refine Below.drew ?_) | (with_reducible refine Below.setCell ?_ ?_ _) | go_size)) hB.out.size))⟩
        case measure => simp [intOf]; omega
      · obtain ⟨j', hj'⟩ : ∃ j' : Nat, j = j' + 1 := ⟨j - 1, by omega⟩
        have hsub : (j : Int) - 1 = (j' : Int) := by omega
        have tj : (j' : Int) < (X.L.length : Int) := by omega
        have tk : 0 ≤ (j' : Int) := by omega
        have tp : 0 < (j : Int) := by omega
        have tq : 0 < j := by omega
        have td : decide (0 < j) = true := decide_eq_true tq
        obtain ⟨x', hx'⟩ : ∃ x', X.L[j']? = some x' := ⟨_, List.getElem?_eq_getElem (by omega)⟩
        obtain ⟨blk2, off2, cap2, hve2, _, hcx2⟩ := (HRI.out.keep hB.out).cells hbl hx'
        simp only [Value.slice.injEq, Option.some.injEq, Addr.mk.injEq, and_true, true_and] at hve2
        obtain ⟨⟨rfl, rfl⟩, rfl⟩ := hve2
        have hbf := HR.out j' j (by omega) hlt (by omega)
        rw [(List.getElem?_eq_some_iff.1 hx).2, (List.getElem?_eq_some_iff.1 hx').2] at hbf
        obtain ⟨s, i, g, m, x, y, vx, vy, hp, pw, lf⟩ := x
        obtain ⟨s', i', g', m', x', y', vx', vy', hp', pw', lf'⟩ := x'
        simp only at HOF
        have HBF : Hid (∀ W, Calls Tryz.prog 16 #[.agg #[.int .i64 s', .int .i64 i', .int .i64 g'], .agg #[.int .i64 s, .int .i64 i, .int .i64 g]] W fun e w' => e = .returned (.bool true) ∧ Below W.heap.size W w') := Lib.hid (fun W => by have := before_any s' i' g' s i g W; rw [show beforeB s' i' g' s i g = true from hbf] at this; exact this)
        have c0 := hcx 0 _ rfl; have c1 := hcx 1 _ rfl; have c2 := hcx 2 _ rfl; have c3 := hcx 3 _ rfl; have c4 := hcx 4 _ rfl; have c5 := hcx 5 _ rfl; have c6 := hcx 6 _ rfl; have c7 := hcx 7 _ rfl; have c8 := hcx 8 _ rfl; have c9 := hcx 9 _ rfl; have c10 := hcx 10 _ rfl
        have e0 := hcx2 0 _ rfl; have e1 := hcx2 1 _ rfl; have e2 := hcx2 2 _ rfl
        simp only [Nat.add_zero] at c0 e0
        clear hcx hx hgd hck hfit hcx2 hx' hbf hj' hj0
        go_wp2_with fail
        refine wp_region_more (by kernel_rfl) (by kernel_rfl) ?_
        repeat (go_big_quiet_step ((first | (go_at_call 14; exact more_call (HM.out _)) | (go_at_call 15; exact more_call (HOF.out _)) | (go_at_call 16; exact more_call (HBF.out _)))))
        refine wpQuiet_nil ?_
        rintro _ ⟨pm, rfl⟩
        go_wp2_with fail
        go_roundw
        case rel => exact ⟨j + 1, by go_num, hlt, Lib.hid (hB.out.trans (Below.mono (B := wo.heap.size) (by repeat' (first | (with_reducible exact Below.refl _ _) | (with_reducible assumption) | (with_reducible refine below_drewN ?_ _) | (with_reducible refine below_more _ _ _ ?_ ?_) | (with_reducible refine Below.alloc ?_ ?_ _) | (with_reducible refine Below.drew ?_) | (with_reducible refine Below.setCell ?_ ?_ _) | go_size)) hB.out.size))⟩
        case measure => simp [intOf]; omega
    · obtain rfl : j = X.L.length := by omega
      go_wp2_with (go_at_call 11; refine (awake17 _).mono ?_; rintro e w' ⟨rfl, hb⟩; obtain ⟨d, os, rfl⟩ := more_of hb; clear hb)
      go_ret
      exact ⟨rfl, HBW.out.trans (Below.mono (B := w5.heap.size) (hB.out.trans (Below.mono (B := wo.heap.size) (by repeat' (first | (with_reducible exact Below.refl _ _) | (with_reducible assumption) | (with_reducible refine below_drewN ?_ _) | (with_reducible refine below_more _ _ _ ?_ ?_) | (with_reducible refine Below.alloc ?_ ?_ _) | (with_reducible refine Below.drew ?_) | (with_reducible refine Below.setCell ?_ ?_ _) | go_size)) hB.out.size)) HBW.out.size)⟩
set_option maxRecDepth 100000 in
theorem lifted (os : Os) (started : os.Started) (H : Type) (enc : TypeId × Value → H) :
    ReturnsInHanded {} Tryz.checked os 4 .any (Rows.worldMaySpec.pre6 enc Tryz.prog Tryz.f4 Rows.worldMayRow.domain false) (Rows.worldMaySpec.post enc Tryz.prog Tryz.f4 false true false false) := by
  refine returnsInHanded_of_change (C := Tryz.checked) ownKnob0 started (by kernel_rfl) Tryz.func4
    (ChangeSpec.witness6 (enc := enc) (C := Tryz.checked) false ⟨#[], #[.agg #[.int .i64 0, .int .i64 0, .int .i64 0, .int .i64 0, .int .i64 0, .int .i64 0, .int .i64 0], .slice none 0 0], []⟩ 8 (by kernel_rfl) (by kernel_rfl) (by kernel_rfl) (by kernel_rfl)) ?_
  intro W base args ds gs before hval0 hW _ _
  have hval : ∀ (j : Nat) t v, Tryz.f4.params[j]? = some t → args[j]? = some v → Value.okWide Tryz.prog W .any base t v := hval0
  have hread : ∀ t ∈ Tryz.f4.params.toList, Tryz.prog.readableRec t = true ∧ t < Tryz.prog.types.size := by
    rw [Tryz.params4]
    intro t ht
    simp only [List.mem_cons, List.not_mem_nil, or_false] at ht
    rcases ht with rfl | rfl
    all_goals exact ⟨by kernel_rfl, of_decide_eq_true (by kernel_rfl)⟩
  have hW' := hW
  obtain ⟨p, q, hA0, hV, -, -⟩ := hW'
  have hA : DataW.TrodAll enc Tryz.prog W 0 (fun _ => true) true Tryz.f4.params.toList args.toList ds p := hA0
  rw [Tryz.params4] at hA hval
  obtain ⟨v0, vs0, d0, ds0, p0, q0, hargs, rfl, rfl, h0, r0⟩ := trodAll_cons hA
  obtain ⟨v1, vs1, d1, ds1, p1, q1, rfl, rfl, rfl, h1, r1⟩ := trodAll_cons r0
  obtain ⟨rfl, rfl, rfl⟩ := trodAll_nil r1
  obtain rfl : args = #[v0, v1] := by cases args; simp_all
  obtain ⟨rfl, rfl⟩ := trodVars_none hV
  have k0 := hval 0 23 v0 rfl rfl
  have k1 := hval 1 24 v1 rfl rfl
  clear hval hval0 hA0 hV hA
  obtain ⟨c0, fuel0, rfl, g0⟩ := agg_of Tryz.underlying23 k0 h0
  obtain ⟨acols, arows, aside, aradius, aspeed, aids, aqueue, rfl⟩ := read_cfg g0
  obtain ⟨zs, hz, _⟩ := turns_in k1 h1
  exact (walk _ _ _ _ _ _ _ _ zs W hz).mono fun e W' ⟨he, hb⟩ => ⟨_, he, post_true rfl rfl hread rfl hW hb⟩

theorem proved : Rows.WorldMaySaid :=
  OpenClaim.holds_of_wide 4 Tryz.f4 rfl rfl rfl rfl rfl rfl rfl ⟨rfl, rfl, rfl, rfl, rfl⟩ rfl rfl rfl rfl rfl (by kernel_rfl) Tryz.func4 (by kernel_rfl)
    (of_decide_eq_true (by kernel_rfl)) (by unfold Func.isWrapper; first | (rw [if_pos (by decide +kernel)]; kernel_rfl) | (rw [if_neg (by decide +kernel)]; exact ⟨rfl, rfl⟩))
    (fun os started H enc _ => lifted os started H enc)
end Go.Proofs.YtoimjjhopljdmaaGreat.worldMay
