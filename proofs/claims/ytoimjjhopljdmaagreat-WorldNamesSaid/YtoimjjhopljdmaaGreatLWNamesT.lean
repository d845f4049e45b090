/-
  WorldNames: for any config and every list of turns the law returns true, and the arguments stay as they were. No condition.
-/
import Derived.Test.YtoimjjhopljdmaaGreatProg
import Derived.WalkKit
import Derived.WalkSpells
import Derived.WalkLawsBesides
import Derived.Handy
import Derived.Lib.Hide
import Derived.Lib.QuietBelow
import Derived.BigQuiet
import Derived.Deep.RegionHeld3
import Derived.Deep.RegionWith
import Derived.Deep.DeepFit
import Derived.Deep.DeepCutAuto
import Derived.Deep.LoopGhost
import Derived.Deep.Light
import Derived.StillTail
import Derived.Deep.RegionLaw
import Derived.Deep.RegionLawGrows
import Derived.Lib.MinMax
import Derived.StillTailTactics
import Derived.BigRegion
import Derived.Shelf.RegionOpenPlain
import Derived.Test.YtoimjjhopljdmaaGreatRows
import Derived.ProofKit
import Derived.OpenShut
import Derived.Carry
import Derived.ChangeSlices
import Derived.Deep.Slices
import Derived.Lib.SliceRun
import Derived.Shelf.SlicesQ.IndexFunc
import Derived.Lib.Overlaps
import Derived.Lib.AppendZerosOnto
import Derived.Laws.Externs
import Derived.Laws.IdiomCopy
import Derived.Laws.NewBlocks
import Derived.Test.YtoimjjhopljdmaaGreatQ01
import Derived.Test.YtoimjjhopljdmaaGreatQ02
import Derived.Test.YtoimjjhopljdmaaGreatQ03
import Derived.Test.YtoimjjhopljdmaaGreatQ04
import Derived.Test.YtoimjjhopljdmaaGreatQ05
import Derived.Test.YtoimjjhopljdmaaGreatQ06
import Derived.Test.YtoimjjhopljdmaaGreatQ07
import Derived.Test.YtoimjjhopljdmaaGreatQ08
import Derived.Test.YtoimjjhopljdmaaGreatQ09
import Derived.Test.YtoimjjhopljdmaaGreatQ10
import Derived.Test.YtoimjjhopljdmaaGreatQ11
import Derived.Test.YtoimjjhopljdmaaGreatQ12
import Derived.Test.YtoimjjhopljdmaaGreatQ13
import Derived.Test.YtoimjjhopljdmaaGreatQ14
import Derived.Test.YtoimjjhopljdmaaGreatQ15
import Derived.Test.YtoimjjhopljdmaaGreatQ16
import Derived.Test.YtoimjjhopljdmaaGreatQ17
import Derived.Test.YtoimjjhopljdmaaGreatQ18
import Derived.Test.YtoimjjhopljdmaaGreatQ19
import Derived.Test.YtoimjjhopljdmaaGreatQ20
import Derived.Test.YtoimjjhopljdmaaGreatQ21
import Derived.Test.YtoimjjhopljdmaaGreatQ22
import Derived.Test.YtoimjjhopljdmaaGreatQ23
import Derived.Test.YtoimjjhopljdmaaGreatQ24
import Derived.Test.YtoimjjhopljdmaaGreatQ25
import Derived.Test.YtoimjjhopljdmaaGreatQ26
import Derived.Test.YtoimjjhopljdmaaGreatQ27
import Derived.Test.YtoimjjhopljdmaaGreatQ28
import Derived.Test.YtoimjjhopljdmaaGreatQ29
import Derived.Test.YtoimjjhopljdmaaGreatQ30
import Derived.Test.YtoimjjhopljdmaaGreatQ31
import Derived.Test.YtoimjjhopljdmaaGreatQ32
import Derived.Test.YtoimjjhopljdmaaGreatQ33
import Derived.Test.YtoimjjhopljdmaaGreatQ34
import Derived.Test.YtoimjjhopljdmaaGreatQ35
import Derived.Test.YtoimjjhopljdmaaGreatQ36
import Derived.Test.YtoimjjhopljdmaaGreatQ37
import Derived.Test.YtoimjjhopljdmaaGreatQ38
import Derived.Test.YtoimjjhopljdmaaGreatQ39
import Derived.Test.YtoimjjhopljdmaaGreatQ40
import Derived.Test.YtoimjjhopljdmaaGreatR01
import Derived.Test.YtoimjjhopljdmaaGreatR02
import Derived.Test.YtoimjjhopljdmaaGreatR03
import Derived.Test.YtoimjjhopljdmaaGreatR04
import Derived.Test.YtoimjjhopljdmaaGreatT02
import Derived.Test.YtoimjjhopljdmaaGreatT01
namespace Go.Proofs.YtoimjjhopljdmaaGreat.worldNames
open Go.ChangeShapes Go.WideShapes Go.ChangeAt Go.RowKit

set_option maxRecDepth 100000 in
set_option maxHeartbeats 8000000 in
theorem walk (cols rows side radius speed ids queue : Int) (v : Value) (zs : List Tn) (w : World) (hz : RIn tnL w v zs) :
    Calls Tryz.prog 7 #[.agg #[.int .i64 cols, .int .i64 rows, .int .i64 side, .int .i64 radius, .int .i64 speed, .int .i64 ids, .int .i64 queue], v] w fun e w' => e = .returned (.bool true) ∧ Below w.heap.size w w' := by
  obtain ⟨w1, hw1, k0, hb1, g0, hsz⟩ := one_box w #[.int .i64 cols, .int .i64 rows, .int .i64 side, .int .i64 radius, .int .i64 speed, .int .i64 ids, .int .i64 queue] 23
  have HMA := Lib.hid (made17_any cols rows side radius speed ids queue v zs w1 (hz.keep hb1))
  have ho := mayF_ok ⟨cols, rows, side, radius, speed, ids, queue⟩
  generalize mayF ⟨cols, rows, side, radius, speed, ids, queue⟩ = cm at *
  have hts : (zs.take 60).length ≤ 60 := by rw [List.length_take]; omega
  have hpi := (play_inv ho (zs.take 60) hts _ (Nat.le_refl _)).1
  rw [List.take_length] at hpi
  generalize playW cm (zs.take 60) = s at *
  obtain ⟨X, li⟩ := s
  simp only at hpi HMA
  have hl : X.L.length ≤ 60 := by have := hpi.len; omega
  have hq : X.D.q.length ≤ 60 := by have := hpi.len; omega
  have HNE := Lib.hid (names_eq hpi)
  have HO := Lib.hid ho
  have HSP := Lib.hid (fun j m (hm : X.D.q[j]? = some m) => spB_step hm)
  have HSL := Lib.hid (fun j => Nat.le_trans (spB_len (X.D.q.take j)) (List.length_take_le j X.D.q))
  obtain ⟨i0, hi0, hz0, hz1, hz2⟩ := info_parts info_bunJ
  obtain ⟨n0, hn0, hy0, hy1, hy2⟩ := info_partsG info_nid
  have HW1 := Lib.hid hw1
  have HB1 := Lib.hid hb1
  have y0 := k0 0; simp at y0; have y1 := k0 1; simp at y1; have y2 := k0 2; simp at y2; have y3 := k0 3; simp at y3; have y4 := k0 4; simp at y4; have y5 := k0 5; simp at y5; have y6 := k0 6; simp at y6
  have s1 : w.heap.size < w1.heap.size := by omega
  clear hw1 hb1 k0 g0 hsz ho hz hts hpi
  go_enter Tryz.func7, Tryz.ntmps7
  go_upto_region 1 with fail
  rw [← HW1.out]
  go_wp2_with fail
  refine HMA.out.mono ?_
  rintro e w2 ⟨p, pi, ci, rfl, h2⟩
  have H2 := Lib.hid h2
  clear y0 y1 y2 y3 y4 y5 y6 h2 HMA HW1 s1
  go_wp2_with fail
  refine (wlist_o H2.out (by omega)).mono ?_
  rintro e w3 ⟨vl, rfl, hn⟩
  have H3 := Lib.hid (H2.out.made hn.made).swap
  clear hn H2
  go_wp2_with fail
  refine (wwaits_o H3.out HO.out).mono ?_
  rintro e w4 ⟨vq, rfl, hn⟩
  obtain ⟨pq, cq, rfl⟩ := sl_frm hn.1
  have h4 := (H3.out.made hn.made).third
  have H4 : Hid (Own w1 w4 ((slO 32 11 vl (X.L ++ spB (X.D.q.take 0)).length (cellsR bunL (X.L ++ spB (X.D.q.take 0)))).and ((slO 34 16 (.slice pq X.D.q.length cq) X.D.q.length (cellsR cmC X.D.q)).and ((worldO p cm X).and ((slO 34 16 (.slice pi li.length ci) li.length (cellsR cmC li)).and .nil))))) := Lib.hid (by rw [List.take_zero, show spB [] = [] from rfl, List.append_nil]; exact h4)
  clear hn H3 h4
  go_wp2_with fail
  go_loopw [7, 9] (fun s7 x wr => ∃ (j : Nat) (sv : Value), x = .int .i64 j ∧ s7 = sv ∧ j ≤ X.D.q.length ∧ Hid (Own w1 wr ((slO 32 11 sv (X.L ++ spB (X.D.q.take j)).length (cellsR bunL (X.L ++ spB (X.D.q.take j)))).and ((slO 34 16 (.slice pq X.D.q.length cq) X.D.q.length (cellsR cmC X.D.q)).and ((worldO p cm X).and ((slO 34 16 (.slice pi li.length ci) li.length (cellsR cmC li)).and .nil)))))) (fun _ x _ => X.D.q.length - (intOf x).toNat)
  case atStart => exact ⟨0, _, rfl, rfl, Nat.zero_le _, H4⟩
  case round =>
    clear H4
    obtain ⟨j, sv, rfl, rfl, hj, hh⟩ := hrel
    obtain ⟨wo, rfl⟩ : ∃ wo : World, wo = wr := ⟨_, rfl⟩
    have hI : 0 ≤ (j : Int) := Int.natCast_nonneg j
    by_cases hlt : j < X.D.q.length
    · have t1 : (j : Int) < (X.D.q.length : Int) := by omega
      obtain ⟨m, hm⟩ : ∃ m, X.D.q[j]? = some m := ⟨_, List.getElem?_eq_getElem hlt⟩
      have hsp := HSP.out j m hm
      have hsl := HSL.out j
      obtain ⟨blk, off, cap', hve, hb, hcx⟩ := (RIn.of_sl (enc := cmC) hh.out.swap.sl.1).cells cmC_len hm
      simp only [Value.slice.injEq, true_and] at hve
      obtain ⟨rfl, rfl⟩ := hve
      have hll : (X.L ++ spB (X.D.q.take j)).length ≤ 200 := by rw [List.length_append]; omega
      have HE := Lib.hid (show (X.L ++ spB (X.D.q.take (j + 1))) = (X.L ++ spB (X.D.q.take j)) ++ (if m.k = 1 then [m.b] else []) from by rw [hsp, List.append_assoc])
      generalize (X.L ++ spB (X.D.q.take j)) = lo at *
      obtain ⟨k, s, i, g, ⟨es, ei, eg, m, x, y, vx, vy, hp, pw, lf⟩, mask⟩ := m
      have c0 := hcx 0 _ rfl
      have c4 := hcx 4 _ rfl; have c5 := hcx 5 _ rfl; have c6 := hcx 6 _ rfl; have c7 := hcx 7 _ rfl; have c8 := hcx 8 _ rfl; have c9 := hcx 9 _ rfl; have c10 := hcx 10 _ rfl; have c11 := hcx 11 _ rfl; have c12 := hcx 12 _ rfl; have c13 := hcx 13 _ rfl; have c14 := hcx 14 _ rfl
      rw [Nat.add_zero] at c0
      simp only at c0 HE
      obtain ⟨z0, z1, z2⟩ := ltz hb
      clear hcx hsp hsl hm
      by_cases hk : k = 1
      · have hk' : (k == 1) = true := by simpa using hk
        rw [if_pos hk] at HE
        clear hk
        go_wp2_with (at_builtin; refine wpList_append_sl _ (by rfl) _ _ 37 (by rfl) 32 i0 _ 11 88 Tryz.underlying37 hi0 hz0 hz1 hz2 rfl (by omega) _ lo.length (cellsR bunL lo) (by rfl) (hh.out.grow (by repeat' (first | (with_reducible exact Below.refl _ _) | (with_reducible assumption) | (with_reducible refine below_drewN ?_ _) | (with_reducible refine below_more _ _ _ ?_ ?_) | (with_reducible refine Below.alloc ?_ ?_ _) | (with_reducible refine Below.drew ?_) | (with_reducible refine Below.setCell ?_ ?_ _) | go_size))).sl.1 ⟨_, 0, none⟩ 1 1 (bunL ⟨es, ei, eg, m, x, y, vx, vy, hp, pw, lf⟩) (by rfl) (by rfl) (new_cellsN _ _ _ _ (by simp)) (bunL_one _) (by omega) (by unfold maxLen; omega) (by omega) ?_; intro v' w8 hs1 ht ho)
        rw [show cellsR bunL lo ++ bunL (⟨es, ei, eg, m, x, y, vx, vy, hp, pw, lf⟩ : Bun) = cellsR bunL (lo ++ [⟨es, ei, eg, m, x, y, vx, vy, hp, pw, lf⟩]) from by rw [cellsR_app]; congr 1, show lo.length + 1 = (lo ++ [(⟨es, ei, eg, m, x, y, vx, vy, hp, pw, lf⟩ : Bun)]).length from by simp] at hs1
        have H8 := Lib.hid ((hh.out.grow (by repeat' (first | (with_reducible exact Below.refl _ _) | (with_reducible assumption) | (with_reducible refine below_drewN ?_ _) | (with_reducible refine below_more _ _ _ ?_ ?_) | (with_reducible refine Below.alloc ?_ ?_ _) | (with_reducible refine Below.drew ?_) | (with_reducible refine Below.setCell ?_ ?_ _) | go_size))).app hs1 ht ho)
        clear hs1 ht ho hh
        go_wp2_with fail
        go_roundw
        case rel => exact ⟨j + 1, _, by go_num, rfl, hlt, Lib.hid (by rw [HE.out]; exact H8.out)⟩
        case measure => simp [intOf]; omega
      · have hk' : (k == 1) = false := by simpa using hk
        rw [if_neg hk, List.append_nil] at HE
        clear hk
        go_wp2_with fail
        go_roundw
        case rel => exact ⟨j + 1, _, by go_num, rfl, hlt, Lib.hid (by rw [HE.out]; exact hh.out.grow (by repeat' (first | (with_reducible exact Below.refl _ _) | (with_reducible assumption) | (with_reducible refine below_drewN ?_ _) | (with_reducible refine below_more _ _ _ ?_ ?_) | (with_reducible refine Below.alloc ?_ ?_ _) | (with_reducible refine Below.drew ?_) | (with_reducible refine Below.setCell ?_ ?_ _) | go_size)))⟩
        case measure => simp [intOf]; omega
    · obtain rfl : j = X.D.q.length := by omega
      have hsl := HSL.out X.D.q.length
      rw [List.take_length] at hh hsl
      have hll : (X.L ++ spB X.D.q).length ≤ 200 := by rw [List.length_append]; omega
      have HRS := Lib.hid (rsorted_any _ (X.L ++ spB X.D.q) wo (BIn.of_sl hh.out.sl.1) (by omega))
      have HW := Lib.hid hh.out.snd.snd
      have hsn : (stableF cmpBun (X.L ++ spB X.D.q)).length ≤ 200 := by rw [(stF_perm _).length_eq]; omega
      generalize stableF cmpBun (X.L ++ spB X.D.q) = so at *
      generalize hli : (listF X.D.M).map toNid = ln at *
      clear hh hsl hll
      go_wp2_with fail
      refine HRS.out.mono ?_
      rintro e w5 ⟨vs, rfl, hn5⟩
      obtain ⟨ps, cs, rfl⟩ := sl_frm hn5.1
      have hm5 : Made wo w5 (slO 32 11 (.slice ps so.length cs) so.length (cellsR bunL so)) := made_sl hn5.1 hn5.2.1 hn5.2.2
      have hnil : Made w5 w5 (slO 30 3 (.slice none 0 0) ([] : List Nid).length (cellsR nidL ([] : List Nid))) := made_sl ⟨rfl, .inl ⟨rfl, rfl⟩⟩ (Below.refl _ _) (fun g hg => by cases hg)
      have H5 : Hid (Own w1 w5 ((slO 30 3 (.slice none 0 0) ((so.take 0).map idOf).length (cellsR nidL ((so.take 0).map idOf))).and ((slO 32 11 (.slice ps so.length cs) so.length (cellsR bunL so)).and ((worldO p cm X).and ((slO 34 16 (.slice pi li.length ci) li.length (cellsR cmC li)).and .nil))))) := Lib.hid (by rw [List.take_zero]; exact (HW.out.made hm5).made hnil)
      clear hn5 hm5 hnil HW HRS
      go_wp2_with fail
      go_loopw [10, 12] (fun s10 x wr => ∃ (j : Nat) (sv : Value), x = .int .i64 j ∧ s10 = sv ∧ j ≤ so.length ∧ Hid (Own w1 wr ((slO 30 3 sv ((so.take j).map idOf).length (cellsR nidL ((so.take j).map idOf))).and ((slO 32 11 (.slice ps so.length cs) so.length (cellsR bunL so)).and ((worldO p cm X).and ((slO 34 16 (.slice pi li.length ci) li.length (cellsR cmC li)).and .nil)))))) (fun _ x _ => so.length - (intOf x).toNat)
      case atStart => exact ⟨0, _, rfl, rfl, Nat.zero_le _, H5⟩
      case round =>
        clear H5
        obtain ⟨j, sv, rfl, rfl, hj, hh⟩ := hrel
        obtain ⟨wo, rfl⟩ : ∃ wo : World, wo = wr := ⟨_, rfl⟩
        have hI2 : 0 ≤ (j : Int) := Int.natCast_nonneg j
        by_cases hlt : j < so.length
        · have t1 : (j : Int) < (so.length : Int) := by omega
          obtain ⟨b, hm⟩ : ∃ b, so[j]? = some b := ⟨_, List.getElem?_eq_getElem hlt⟩
          have hbl : ∀ x : Bun, (bunL x).length = 11 := fun _ => rfl
          obtain ⟨blk, off, cap', hve, hb, hcx⟩ := (RIn.of_sl (enc := bunL) hh.out.swap.sl.1).cells hbl hm
          simp only [Value.slice.injEq, true_and] at hve
          obtain ⟨rfl, rfl⟩ := hve
          have HE := Lib.hid (show (so.take (j + 1)).map idOf = (so.take j).map idOf ++ [idOf b] from by
            rw [List.take_succ_eq_append_getElem hlt, List.map_append, (List.getElem?_eq_some_iff.1 hm).2]; rfl)
          have hlj : ((so.take j).map idOf).length ≤ 200 := by rw [List.length_map, List.length_take]; omega
          generalize (so.take j).map idOf = ln0 at *
          obtain ⟨s, i, g, m, x, y, vx, vy, hp, pw, lf⟩ := b
          have c0 := hcx 0 _ rfl
          have c1 := hcx 1 _ rfl
          have c2 := hcx 2 _ rfl
          rw [Nat.add_zero] at c0
          simp only at c0 c1 c2
          obtain ⟨z0, z1, z2⟩ := ltz hb
          clear hcx hm
          go_wp2_with (at_builtin; refine wpList_append_sl _ (by rfl) _ _ 56 (by rfl) 30 n0 _ 3 24 Tryz.underlying56 hn0 hy0 hy1 hy2 rfl (by omega) _ ln0.length (cellsR nidL ln0) (by rfl) (hh.out.grow (by repeat' (first | (with_reducible exact Below.refl _ _) | (with_reducible assumption) | (with_reducible refine below_drewN ?_ _) | (with_reducible refine below_more _ _ _ ?_ ?_) | (with_reducible refine Below.alloc ?_ ?_ _) | (with_reducible refine Below.drew ?_) | (with_reducible refine Below.setCell ?_ ?_ _) | go_size))).sl.1 ⟨_, 0, none⟩ 1 1 [.int .i64 s, .int .i64 i, .int .i64 g] (by rfl) (by rfl) (new_cellsN _ _ _ _ (by simp)) (by simp [Value.oneCell']) (by omega) (by unfold maxLen; omega) (by omega) ?_; intro v' w8 hs1 ht ho)
          rw [show cellsR nidL ln0 ++ [.int .i64 s, .int .i64 i, .int .i64 g] = cellsR nidL (ln0 ++ [(⟨s, i, g⟩ : Nid)]) from by rw [cellsR_app]; congr 1, show ln0.length + 1 = (ln0 ++ [(⟨s, i, g⟩ : Nid)]).length from by simp] at hs1
          have H8 := Lib.hid ((hh.out.grow (by repeat' (first | (with_reducible exact Below.refl _ _) | (with_reducible assumption) | (with_reducible refine below_drewN ?_ _) | (with_reducible refine below_more _ _ _ ?_ ?_) | (with_reducible refine Below.alloc ?_ ?_ _) | (with_reducible refine Below.drew ?_) | (with_reducible refine Below.setCell ?_ ?_ _) | go_size))).app hs1 ht ho)
          clear hs1 ht ho hh
          go_wp2_with fail
          go_roundw
          case rel => exact ⟨j + 1, _, by go_num, rfl, hlt, Lib.hid (by rw [HE.out]; exact H8.out)⟩
          case measure => simp [intOf]; omega
        · obtain rfl : j = so.length := by omega
          rw [List.take_length, HNE.out] at hh
          go_wp2_with fail
          refine (wnames_o hh.out.third ln hli).mono ?_
          rintro e w6 ⟨vn, rfl, hn6⟩
          have HSS := Lib.hid (sameNid_self _ vn ln w6 (RIn.of_sl (hh.out.grow hn6.2.1).sl.1) hn6.rin)
          have HBF := Lib.hid (hh.out.grow hn6.2.1).below
          clear hn6 hh
          go_wp2_with (first | (go_at_call 30; refine HSS.out.mono ?_; rintro e w' ⟨rfl, hb⟩; obtain ⟨d8, os8, rfl⟩ := more_of hb; clear hb) | (go_at_call 11; refine (awake17 _).mono ?_; rintro e w' ⟨rfl, hb⟩; obtain ⟨d, os, rfl⟩ := more_of hb; clear hb))
          go_ret
          exact ⟨rfl, HB1.out.trans (Below.mono (B := w1.heap.size) (HBF.out.trans (Below.mono (B := w6.heap.size) (by repeat' (first | (with_reducible exact Below.refl _ _) | (with_reducible assumption) | (with_reducible refine below_drewN ?_ _) | (with_reducible refine below_more _ _ _ ?_ ?_) | (with_reducible refine Below.alloc ?_ ?_ _) | (with_reducible refine Below.drew ?_) | (with_reducible refine Below.setCell ?_ ?_ _) | go_size)) HBF.out.size)) HB1.out.size)⟩
set_option maxRecDepth 100000 in
theorem lifted (os : Os) (started : os.Started) (H : Type) (enc : TypeId × Value → H) :
    ReturnsInHanded {} Tryz.checked os 7 .any (Rows.worldNamesSpec.pre6 enc Tryz.prog Tryz.f7 Rows.worldNamesRow.domain false) (Rows.worldNamesSpec.post enc Tryz.prog Tryz.f7 false true false false) := by
  refine returnsInHanded_of_change (C := Tryz.checked) ownKnob0 started (by kernel_rfl) Tryz.func7
    (ChangeSpec.witness6 (enc := enc) (C := Tryz.checked) false ⟨#[], #[.agg #[.int .i64 0, .int .i64 0, .int .i64 0, .int .i64 0, .int .i64 0, .int .i64 0, .int .i64 0], .slice none 0 0], []⟩ 8 (by kernel_rfl) (by kernel_rfl) (by kernel_rfl) (by kernel_rfl)) ?_
  intro W base args ds gs before hval0 hW _ _
  have hval : ∀ (j : Nat) t v, Tryz.f7.params[j]? = some t → args[j]? = some v → Value.okWide Tryz.prog W .any base t v := hval0
  have hread : ∀ t ∈ Tryz.f7.params.toList, Tryz.prog.readableRec t = true ∧ t < Tryz.prog.types.size := by
    rw [Tryz.params7]
    intro t ht
    simp only [List.mem_cons, List.not_mem_nil, or_false] at ht
    rcases ht with rfl | rfl
    all_goals exact ⟨by kernel_rfl, of_decide_eq_true (by kernel_rfl)⟩
  have hW' := hW
  obtain ⟨p, q, hA0, hV, -, -⟩ := hW'
  have hA : DataW.TrodAll enc Tryz.prog W 0 (fun _ => true) true Tryz.f7.params.toList args.toList ds p := hA0
  rw [Tryz.params7] at hA hval
  obtain ⟨v0, vs0, d0, ds0, p0, q0, hargs, rfl, rfl, h0, r0⟩ := trodAll_cons hA
  obtain ⟨v1, vs1, d1, ds1, p1, q1, rfl, rfl, rfl, h1, r1⟩ := trodAll_cons r0
  obtain ⟨rfl, rfl, rfl⟩ := trodAll_nil r1
  obtain rfl : args = #[v0, v1] := by cases args; simp_all
  obtain ⟨rfl, rfl⟩ := trodVars_none hV
  have k0 := hval 0 23 v0 rfl rfl
  have k1 := hval 1 24 v1 rfl rfl
  clear hval hval0 hA0 hV hA
  obtain ⟨c0, fuel0, rfl, g0⟩ := agg_of Tryz.underlying23 k0 h0
  obtain ⟨acols, arows, aside, aradius, aspeed, aids, aqueue, rfl⟩ := read_cfg g0
  obtain ⟨zs, hz, _⟩ := turns_in k1 h1
  exact (walk _ _ _ _ _ _ _ _ zs W hz).mono fun e W' ⟨he, hb⟩ => ⟨_, he, post_true rfl rfl hread rfl hW hb⟩

theorem proved : Rows.WorldNamesSaid :=
  OpenClaim.holds_of_wide 7 Tryz.f7 rfl rfl rfl rfl rfl rfl rfl ⟨rfl, rfl, rfl, rfl, rfl⟩ rfl rfl rfl rfl rfl (by kernel_rfl) Tryz.func7 (by kernel_rfl)
    (of_decide_eq_true (by kernel_rfl)) (by unfold Func.isWrapper; first | (rw [if_pos (by decide +kernel)]; kernel_rfl) | (rw [if_neg (by decide +kernel)]; exact ⟨rfl, rfl⟩))
    (fun os started H enc _ => lifted os started H enc)
end Go.Proofs.YtoimjjhopljdmaaGreat.worldNames
