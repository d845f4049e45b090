/-
  WorldFades: for any config and any three numbers the law returns true, and the arguments stay as they were. No condition.
-/
import Derived.Test.YtoimjjhopljdmaaGreatProg
import Derived.WalkKit
import Derived.WalkSpells
import Derived.WalkLawsBesides
import Derived.Handy
import Derived.Lib.Hide
import Derived.Lib.QuietBelow
import Derived.BigQuiet
import Derived.Deep.RegionHeld3
import Derived.Deep.RegionWith
import Derived.Deep.DeepFit
import Derived.Deep.DeepCutAuto
import Derived.Deep.LoopGhost
import Derived.Deep.Light
import Derived.StillTail
import Derived.Deep.RegionLaw
import Derived.Deep.RegionLawGrows
import Derived.Shelf.SlicesQ.Load
import Derived.Shelf.SlSortCmp.KitK
import Derived.Sort.WalkB2
import Derived.Sort.WalkB12
import Derived.Sort.LotA
import Derived.Shelf.SlSortCmp.Insertion
import Derived.StillTailTactics
import Derived.Lib.MinMax
import Derived.BigRegion
import Derived.Shelf.RegionOpenPlain
import Derived.Deep.Slices
import Derived.ChangeSlices
import Derived.Lib.SliceRun
import Derived.Shelf.SlicesQ.IndexFunc
import Derived.Lib.Overlaps
import Derived.Lib.AppendZerosOnto
import Derived.Laws.Externs
import Derived.Laws.IdiomCopy
import Derived.Laws.NewBlocks
import Derived.Test.YtoimjjhopljdmaaGreatRows
import Derived.ProofKit
import Derived.OpenShut
import Derived.Carry
import Derived.Test.YtoimjjhopljdmaaGreatQ01
import Derived.Test.YtoimjjhopljdmaaGreatQ02
import Derived.Test.YtoimjjhopljdmaaGreatQ03
import Derived.Test.YtoimjjhopljdmaaGreatQ04
import Derived.Test.YtoimjjhopljdmaaGreatQ05
import Derived.Test.YtoimjjhopljdmaaGreatQ06
import Derived.Test.YtoimjjhopljdmaaGreatQ07
import Derived.Test.YtoimjjhopljdmaaGreatQ08
import Derived.Test.YtoimjjhopljdmaaGreatQ09
import Derived.Test.YtoimjjhopljdmaaGreatQ10
import Derived.Test.YtoimjjhopljdmaaGreatQ11
import Derived.Test.YtoimjjhopljdmaaGreatQ12
import Derived.Test.YtoimjjhopljdmaaGreatQ13
import Derived.Test.YtoimjjhopljdmaaGreatQ14
import Derived.Test.YtoimjjhopljdmaaGreatQ15
import Derived.Test.YtoimjjhopljdmaaGreatQ16
import Derived.Test.YtoimjjhopljdmaaGreatQ17
import Derived.Test.YtoimjjhopljdmaaGreatQ18
import Derived.Test.YtoimjjhopljdmaaGreatQ19
import Derived.Test.YtoimjjhopljdmaaGreatQ20
import Derived.Test.YtoimjjhopljdmaaGreatQ21
import Derived.Test.YtoimjjhopljdmaaGreatQ22
import Derived.Test.YtoimjjhopljdmaaGreatQ23
import Derived.Test.YtoimjjhopljdmaaGreatQ24
import Derived.Test.YtoimjjhopljdmaaGreatQ25
import Derived.Test.YtoimjjhopljdmaaGreatQ26
import Derived.Test.YtoimjjhopljdmaaGreatQ27
import Derived.Test.YtoimjjhopljdmaaGreatQ28
import Derived.Test.YtoimjjhopljdmaaGreatQ29
import Derived.Test.YtoimjjhopljdmaaGreatQ30
import Derived.Test.YtoimjjhopljdmaaGreatQ31
import Derived.Test.YtoimjjhopljdmaaGreatQ32
import Derived.Test.YtoimjjhopljdmaaGreatQ33
import Derived.Test.YtoimjjhopljdmaaGreatQ34
import Derived.Test.YtoimjjhopljdmaaGreatQ35
import Derived.Test.YtoimjjhopljdmaaGreatQ36
import Derived.Test.YtoimjjhopljdmaaGreatQ37
import Derived.Test.YtoimjjhopljdmaaGreatQ38
import Derived.Test.YtoimjjhopljdmaaGreatQ39
import Derived.Test.YtoimjjhopljdmaaGreatQ40
import Derived.Test.YtoimjjhopljdmaaGreatR01
import Derived.Test.YtoimjjhopljdmaaGreatR02
import Derived.Test.YtoimjjhopljdmaaGreatR03
import Derived.Test.YtoimjjhopljdmaaGreatR04
import Derived.Test.YtoimjjhopljdmaaGreatU01
import Derived.Test.YtoimjjhopljdmaaGreatU02
namespace Go.Proofs.YtoimjjhopljdmaaGreat.worldFades
open Go.ChangeShapes Go.WideShapes Go.ChangeAt Go.RowKit

def FadAt (z x y : Int) (n j : Nat) (X : Wo) : Prop :=
  (j = 0 ∧ X.L = [] ∧ X.D.q = [fadM z x y n]) ∨ (1 ≤ j ∧ j < n ∧ X.L = [fadB z x y ((n - j : Nat) : Int)] ∧ X.D.q = []) ∨ (j = n ∧ X.L = [] ∧ X.D.q = [])
theorem fad_step {c : Cfg} (ho : CfgOk c) {z x y : Int} (hin : inW c x y = true) {n j : Nat} (hj : j < n) (hn : n ≤ 60) {X : Wo} (hi : WInv c (j + 1) X) (h : FadAt z x y n j X) :
    WInv c (j + 1 + 1) (stepW c X).2 ∧ FadAt z x y n (j + 1) (stepW c X).2 ∧ deadW c X = (if j + 1 = n then [⟨z, 0, 0⟩] else []) ∧ (stepW c X).2.L = (if j + 1 = n then [] else [fadB z x y ((n - (j + 1) : Nat) : Int)]) := by
  obtain ⟨h1, h2, _⟩ := step_inv ho hi (by omega)
  have hq : (stepW c X).2.D.q = [] := by rw [h2]
  have hL : (stepW c X).2.L = ownL c (-1) X.L [] X.D.q := by rw [h2]
  have key : ∀ k : Int, k = ((n - j : Nat) : Int) → ownL c (-1) X.L [] X.D.q = (if k ≤ 1 then [] else [fadB z x y (k - 1)]) → deadW c X = (if k ≤ 1 then [⟨z, 0, 0⟩] else []) → WInv c (j + 1 + 1) (stepW c X).2 ∧ FadAt z x y n (j + 1) (stepW c X).2 ∧ deadW c X = (if j + 1 = n then [⟨z, 0, 0⟩] else []) ∧ (stepW c X).2.L = (if j + 1 = n then [] else [fadB z x y ((n - (j + 1) : Nat) : Int)]) := by
    intro k hk e1 e2
    by_cases hjn : j + 1 = n
    · rw [if_pos (by omega)] at e1 e2
      refine ⟨h1, .inr (.inr ⟨hjn, hL.trans e1, hq⟩), by rw [if_pos hjn]; exact e2, by rw [if_pos hjn]; exact hL.trans e1⟩
    · rw [if_neg (by omega)] at e1 e2
      have ek : k - 1 = ((n - (j + 1) : Nat) : Int) := by omega
      rw [ek] at e1
      refine ⟨h1, .inr (.inl ⟨by omega, by omega, hL.trans e1, hq⟩), by rw [if_neg hjn]; exact e2, by rw [if_neg hjn]; exact hL.trans e1⟩
  obtain ⟨D, Lx⟩ := X
  rcases h with ⟨rfl, e1, e2⟩ | ⟨g1, g2, e1, e2⟩ | ⟨g1, _, _⟩
  · simp only at e1 e2
    subst e1
    obtain ⟨f1, f2⟩ := fad_first ho z hin (n : Int) D e2
    exact key (n : Int) (by omega) f1 f2
  · simp only at e1 e2
    subst e1
    obtain ⟨f1, f2⟩ := fad_tick z hin ((n - j : Nat) : Int) D e2
    exact key _ rfl f1 f2
  · omega
theorem fad_find {z x y k : Int} : findB z 0 0 [fadB z x y k] 0 = (((0 : Nat) : Int), true) := by
  have e : cmpId z 0 0 z 0 0 = 0 := (cmpId_zero _ _ _ _ _ _).2 ⟨rfl, rfl, rfl⟩
  simp [findB, fadB, e]
theorem names_none {M : List Sh} (h : ∀ a, ¬ alN M a) : (listF M).map toNid = [] := List.eq_nil_iff_forall_not_mem.2 fun a ha => h a (list_al a |>.1 ha)
theorem tmod50 (k : Int) : (Int.tmod (Int.tmod k 50 + 50) 50) = k % 50 := by
  have h1 : -50 < Int.tmod k 50 := Int.lt_tmod_of_pos k (by omega)
  have h2 : Int.tmod k 50 < 50 := Int.tmod_lt_of_pos k (by omega)
  rw [Int.tmod_eq_emod_of_nonneg (by omega), Int.add_emod_right]
  rw [Int.tmod_eq_emod]
  split
  · simp
  · simp
attribute [local go_sem ↓] loadVar_ldM storeVar_stM
set_option maxRecDepth 100000 in
set_option maxHeartbeats 8000000 in
theorem walk (cols rows side radius speed ids queue x y left : Int) (w : World) :
    Calls Tryz.prog 6 #[.agg #[.int .i64 cols, .int .i64 rows, .int .i64 side, .int .i64 radius, .int .i64 speed, .int .i64 ids, .int .i64 queue], .int .i64 x, .int .i64 y, .int .i64 left] w fun e w' => e = .returned (.bool true) ∧ Below w.heap.size w w' := by
  obtain ⟨w1, hw1, k0, hb1, g0, hsz⟩ := one_box w #[.int .i64 cols, .int .i64 rows, .int .i64 side, .int .i64 radius, .int .i64 speed, .int .i64 ids, .int .i64 queue] 23
  have HMY := Lib.hid (fun W => may_any cols rows side radius speed ids queue W)
  have ho := mayF_ok ⟨cols, rows, side, radius, speed, ids, queue⟩
  generalize mayF ⟨cols, rows, side, radius, speed, ids, queue⟩ = cm at *
  have HNW : Hid (∀ W, Calls Tryz.prog 17 #[.agg #[.int .i64 cm.cols, .int .i64 cm.rows, .int .i64 cm.side, .int .i64 cm.radius, .int .i64 cm.speed, .int .i64 cm.ids, .int .i64 cm.queue]] W fun e w' => ∃ p, e = .returned (.tuple #[.pointer (some ⟨p, 0, none⟩), .int .i64 0]) ∧ Made W w' (worldO p cm (newW cm))) := Lib.hid (fun W => wnew_ok _ _ _ _ _ _ _ W ho)
  have HIN := Lib.hid (fun W => rIn_k cm.cols cm.rows cm.side cm.radius cm.speed cm.ids cm.queue x y W ho)
  have hin := inF_in ho x y
  generalize inF _ x y = ixy at *
  obtain ⟨ix, iy⟩ := ixy
  simp only at hin HIN
  have hmod := tmod50 left
  have h50 := Int.emod_nonneg left (by omega : (50 : Int) ≠ 0)
  have h51 := Int.emod_lt_of_pos left (by omega : (0 : Int) < 50)
  have hr1 : -50 < Int.tmod left 50 := Int.lt_tmod_of_pos left (by omega)
  have hr2 : Int.tmod left 50 < 50 := Int.tmod_lt_of_pos left (by omega)
  obtain ⟨n, hn⟩ : ∃ n : Nat, 1 + left % 50 = (n : Int) := ⟨(1 + left % 50).toNat, by omega⟩
  have hn1 : 1 ≤ n := by omega
  have hn2 : n ≤ 50 := by omega
  obtain ⟨q1, q2, q3⟩ := fad_call ho (k := (n : Int)) hin (by omega) (by omega)
  have hinv := (call_inv (new_inv ho) (fadM 0 ix iy n)).inv
  have HCL : Hid (∀ W p E, Own w1 W ((worldO p cm (newW cm)).and E) → Calls Tryz.prog 19 #[.pointer (some ⟨p, 0, none⟩), .agg #[.int .i64 1, .int .i64 0, .int .i64 0, .int .i64 0, .int .i64 0, .int .i64 0, .int .i64 0, .int .i64 17, .int .i64 ix, .int .i64 iy, .int .i64 0, .int .i64 0, .int .i64 0, .int .i64 0, .int .i64 (n : Int), .int .i64 0]] W fun e w' => e = .returned (.tuple #[.agg #[.int .i64 1, .int .i64 0, .int .i64 0, .int .i64 0, .int .i64 (ofF cm ix iy), .int .i64 0, .int .i64 0, .int .i64 17, .int .i64 ix, .int .i64 iy, .int .i64 0, .int .i64 0, .int .i64 0, .int .i64 0, .int .i64 (n : Int), .int .i64 0], .int .i64 0]) ∧ Own w1 w' ((worldO p cm (callW cm (newW cm) (fadM 0 ix iy n)).2).and E)) := Lib.hid (fun W p E hW => by have := wcall_o hW ho (fadM 0 ix iy n); rw [q1] at this; exact this)
  generalize (callW cm (newW cm) (fadM 0 ix iy n)).2 = X1 at *
  generalize ofF cm ix iy = z at *
  have HI1 := Lib.hid (show WInv cm 1 X1 ∧ FadAt z ix iy n 0 X1 from ⟨hinv, .inl ⟨rfl, q2, q3⟩⟩)
  have HST := Lib.hid (fun j X (h1 : j < n) (h2 : WInv cm (j + 1) X) (h3 : FadAt z ix iy n j X) => fad_step ho hin h1 (by omega) h2 h3)
  have HO := Lib.hid ho
  have HW1 := Lib.hid hw1
  have HB1 := Lib.hid hb1
  have y0 := k0 0; simp at y0; have y1 := k0 1; simp at y1; have y2 := k0 2; simp at y2; have y3 := k0 3; simp at y3; have y4 := k0 4; simp at y4; have y5 := k0 5; simp at y5; have y6 := k0 6; simp at y6
  have s1 : w.heap.size < w1.heap.size := by omega
  clear hw1 k0 g0 hsz ho q1 q2 q3 hinv hin hb1
  go_enter Tryz.func6, Tryz.ntmps6
  go_upto_region 1 with fail
  rw [← HW1.out]
  go_wp2_with (go_at_call 13; refine (HMY.out _).mono ?_; rintro e w' ⟨rfl, hb⟩; obtain ⟨d, os, rfl⟩ := more_of hb; clear hb)
  generalize hw2 : more _ _ _ = W2
  have hb2 : Below w1.heap.size w1 W2 := by rw [← hw2]; exact (by repeat' (first | (with_reducible exact Below.refl _ _) | (with_reducible assumption) | (with_reducible refine below_drewN ?_ _) | (with_reducible refine below_more _ _ _ ?_ ?_) | (with_reducible refine Below.alloc ?_ ?_ _) | (with_reducible refine Below.drew ?_) | (with_reducible refine Below.setCell ?_ ?_ _) | go_size))
  have K0 := Lib.hid (show ∀ V, Below w1.heap.size w1 V → V.cell? ⟨w.heap.size, 0, none⟩ = some (.int .i64 cols) ∧ V.cell? ⟨w.heap.size, 1, none⟩ = some (.int .i64 rows) ∧ V.cell? ⟨w.heap.size, 2, none⟩ = some (.int .i64 side) ∧ V.cell? ⟨w.heap.size, 3, none⟩ = some (.int .i64 radius) ∧ V.cell? ⟨w.heap.size, 4, none⟩ = some (.int .i64 speed) ∧ V.cell? ⟨w.heap.size, 5, none⟩ = some (.int .i64 ids) ∧ V.cell? ⟨w.heap.size, 6, none⟩ = some (.int .i64 queue) from fun V hV => ⟨(hV.cell (p := ⟨w.heap.size, 0, none⟩) s1).trans y0, (hV.cell (p := ⟨w.heap.size, 1, none⟩) s1).trans y1, (hV.cell (p := ⟨w.heap.size, 2, none⟩) s1).trans y2, (hV.cell (p := ⟨w.heap.size, 3, none⟩) s1).trans y3, (hV.cell (p := ⟨w.heap.size, 4, none⟩) s1).trans y4, (hV.cell (p := ⟨w.heap.size, 5, none⟩) s1).trans y5, (hV.cell (p := ⟨w.heap.size, 6, none⟩) s1).trans y6⟩)
  clear hw2 y0 y1 y2 y3 y4 y5 y6
  refine (HNW.out _).mono ?_
  rintro e W3 ⟨p, rfl, hm⟩
  have h3 := ((Own.nil w1).grow hb2).made hm
  have H3 := Lib.hid h3
  obtain ⟨y0, y1, y2, y3, y4, y5, y6⟩ := K0.out W3 h3.below
  have s3 := Nat.lt_of_lt_of_le s1 h3.below.size
  obtain ⟨z0, z1, z2⟩ := ltz s3
  clear hm hb2 h3 HNW
  go_upto_region 5 with fail
  go_wp2_with (first | (go_at_call 13; refine (HMY.out _).mono ?_; rintro e w' ⟨rfl, hb⟩; obtain ⟨d, os, rfl⟩ := more_of hb; clear hb) | (go_at_call 27; refine (HIN.out _).mono ?_; rintro e w' ⟨rfl, hb⟩; obtain ⟨d, os, rfl⟩ := more_of hb; clear hb))
  refine (HCL.out _ p _ (H3.out.grow (by repeat' (first | (with_reducible exact Below.refl _ _) | (with_reducible assumption) | (with_reducible refine below_drewN ?_ _) | (with_reducible refine below_more _ _ _ ?_ ?_) | (with_reducible refine Below.alloc ?_ ?_ _) | (with_reducible refine Below.drew ?_) | (with_reducible refine Below.setCell ?_ ?_ _) | go_size)))).mono ?_
  rintro e V1 ⟨rfl, h4⟩
  obtain ⟨w5, hs5, hm5⟩ := new_cmO V1 (fadM z ix iy n)
  have H5 := Lib.hid ((h4.made hm5).swap)
  have hs5' : (stM ⟨V1.heap.size, 0, none⟩ (.agg #[.int .i64 1, .int .i64 0, .int .i64 0, .int .i64 0, .int .i64 z, .int .i64 0, .int .i64 0, .int .i64 17, .int .i64 ix, .int .i64 iy, .int .i64 0, .int .i64 0, .int .i64 0, .int .i64 0, .int .i64 (n : Int), .int .i64 0])).run Tryz.prog (V1.alloc (.cells #[.int .i64 0, .int .i64 0, .int .i64 0, .int .i64 0, .int .i64 0, .int .i64 0, .int .i64 0, .int .i64 0, .int .i64 0, .int .i64 0, .int .i64 0, .int .i64 0, .int .i64 0, .int .i64 0, .int .i64 0, .int .i64 0] 34)) = .ok () w5 := hs5
  clear hs5 hm5 h4 H3 HCL y0 y1 y2 y3 y4 y5 y6 z0 z1 z2 s3
  go_wp2_with fail
  go_loopw [14] (fun x wr => ∃ (j : Nat) (X : Wo), x = .int .i64 ((j : Int) + 1) ∧ j ≤ n ∧ Hid (WInv cm (j + 1) X ∧ FadAt z ix iy n j X) ∧ Hid (Own w1 wr ((worldO p cm X).and ((boxO V1.heap.size (cmC (fadM z ix iy n)).toArray 34).and .nil)))) (fun x _ => n + 1 - (intOf x).toNat)
  case atStart => exact ⟨0, X1, rfl, Nat.zero_le _, HI1, H5⟩
  case round =>
    clear H5 HI1 hs5'
    obtain ⟨j, X, rfl, hj, hI, hh⟩ := hrel
    obtain ⟨wo, rfl⟩ : ∃ wo : World, wo = wr := ⟨_, rfl⟩
    have hI0 : 0 ≤ (j : Int) := Int.natCast_nonneg j
    by_cases hlt : j < n
    · have t1 : (j : Int) + 1 ≤ (n : Int) := by omega
      obtain ⟨g1, g2, g3, g4⟩ := HST.out j X hlt hI.out.1 hI.out.2
      have HSP := Lib.hid (wstep_i hh.out HO.out hI.out.1 (by omega))
      generalize (stepW cm X).2 = X2 at *
      generalize deadW cm X = dn at *
      have HI2 := Lib.hid (And.intro g1 g2)
      clear g1 g2 hI
      go_wp2_with fail
      refine HSP.out.mono ?_
      rintro e w6 ⟨v6, rfl, h6⟩
      obtain ⟨p6, c6, rfl⟩ := sl_frm h6.swap.sl.1
      have hbx := h6.third.box
      have b4 := hbx.1 4
      have b5 := hbx.1 5
      have b6 := hbx.1 6
      simp [fadM, fadB, cmC, bunL] at b4 b5 b6
      have lb := hbx.2.2.1
      obtain ⟨z0, z1, z2⟩ := ltz lb
      have H6 := Lib.hid h6
      clear hbx h6 hh HSP
      by_cases hjn : j + 1 = n
      · rw [if_pos hjn] at g3 g4
        subst g3
        have hfn := wfind_no (x := 0) H6.out z 0 0 (by rw [g4]; simp) (by rw [g4]; rfl)
        obtain ⟨blk, off, cap', hve, hb, hcx⟩ := (RIn.of_sl (enc := nidL) (l := [⟨z, 0, 0⟩]) H6.out.swap.sl.1).cells nidL_len (k := 0) rfl
        simp only [Value.slice.injEq] at hve
        obtain ⟨rfl, _, rfl⟩ := hve
        have c0 := hcx 0 _ rfl
        have c1 := hcx 1 _ rfl
        have c2 := hcx 2 _ rfl
        simp at c0 c1 c2
        obtain ⟨z3, z4, z5⟩ := ltz hb
        have hid : idEq z 0 0 z 0 0 = true := by simp [idEq]
        have hlt2 : decide ((j : Int) + 1 < (n : Int)) = false := by simp; omega
        clear hcx g4
        go_wp2_with fail
        refine hfn.mono ?_
        rintro e w7 ⟨rfl, hb7⟩
        obtain ⟨d7, os7, rfl⟩ := more_of hb7
        clear hb7 hfn
        go_upto_region 14 with fail
        generalize hW8 : World.alloc _ _ = W8
        have hb8 : Below w6.heap.size w6 W8 := by rw [← hW8]; exact (by repeat' (first | (with_reducible exact Below.refl _ _) | (with_reducible assumption) | (with_reducible refine below_drewN ?_ _) | (with_reducible refine below_more _ _ _ ?_ ?_) | (with_reducible refine Below.alloc ?_ ?_ _) | (with_reducible refine Below.drew ?_) | (with_reducible refine Below.setCell ?_ ?_ _) | go_size))
        replace b4 := (hb8.cell (p := ⟨V1.heap.size, 4, none⟩) lb).trans b4; replace b5 := (hb8.cell (p := ⟨V1.heap.size, 5, none⟩) lb).trans b5; replace b6 := (hb8.cell (p := ⟨V1.heap.size, 6, none⟩) lb).trans b6
        replace c0 := (hb8.cell (p := ⟨blk, off, none⟩) hb).trans c0
        replace c1 := (hb8.cell (p := ⟨blk, off + 1, none⟩) hb).trans c1
        replace c2 := (hb8.cell (p := ⟨blk, off + 2, none⟩) hb).trans c2
        have H8 := Lib.hid (H6.out.drop.grow hb8)
        replace lb := Nat.lt_of_lt_of_le lb hb8.size
        replace hb := Nat.lt_of_lt_of_le hb hb8.size
        obtain ⟨z0, z1, z2⟩ := ltz lb
        obtain ⟨z3, z4, z5⟩ := ltz hb
        clear hW8 hb8 H6
        refine wp_region_more (by kernel_rfl) (by kernel_rfl) ?_
        repeat (go_big_quiet_step (fail))
        refine wpQuiet_nil ?_
        rintro _ ⟨pn, rfl⟩
        go_wp2_with fail
        go_roundw
        case rel => exact ⟨j + 1, X2, by go_num, by omega, HI2, Lib.hid (H8.out.grow (by repeat' (first | (with_reducible exact Below.refl _ _) | (with_reducible assumption) | (with_reducible refine below_drewN ?_ _) | (with_reducible refine below_more _ _ _ ?_ ?_) | (with_reducible refine Below.alloc ?_ ?_ _) | (with_reducible refine Below.drew ?_) | (with_reducible refine Below.setCell ?_ ?_ _) | go_size)))⟩
        case measure => simp [intOf]; omega
      · rw [if_neg hjn] at g3 g4
        subst g3
        obtain ⟨kf, hkf⟩ : ∃ kf : Int, kf = ((n - (j + 1) : Nat) : Int) := ⟨_, rfl⟩
        rw [← hkf] at g4
        have hsub : (n : Int) - ((j : Int) + 1) = kf := by omega
        have hfn := wfind_yes (q := 0) H6.out z 0 0 (by rw [g4]; simp) z 0 0 17 ix iy 0 0 0 0 kf (by rw [g4]; exact fad_find) (by rw [g4]; rfl)
        have hlt2 : decide ((j : Int) + 1 < (n : Int)) = true := by simp; omega
        have hle : (j : Int) + 1 < (n : Int) := by omega
        clear g4 hkf
        go_wp2_with fail
        refine hfn.mono ?_
        rintro e w7 ⟨rfl, hb7⟩
        obtain ⟨d7, os7, rfl⟩ := more_of hb7
        clear hb7 hfn
        go_upto_region 14 with fail
        obtain ⟨u8, f8, s8, l8⟩ := new_box (more w6 d7 os7) #[.int .i64 z, .int .i64 0, .int .i64 0, .int .i64 17, .int .i64 ix, .int .i64 iy, .int .i64 0, .int .i64 0, .int .i64 0, .int .i64 0, .int .i64 kf] 32 (w6.heap.size + os7.size) (by simp)
        have v8 := u8 10
        generalize hW8 : World.alloc (more w6 d7 os7) _ = W8 at *
        have hb8 : Below w6.heap.size w6 W8 := by rw [← hW8]; exact (by repeat' (first | (with_reducible exact Below.refl _ _) | (with_reducible assumption) | (with_reducible refine below_drewN ?_ _) | (with_reducible refine below_more _ _ _ ?_ ?_) | (with_reducible refine Below.alloc ?_ ?_ _) | (with_reducible refine Below.drew ?_) | (with_reducible refine Below.setCell ?_ ?_ _) | go_size))
        have H8 := Lib.hid (H6.out.drop.grow hb8)
        obtain ⟨z3, z4, z5⟩ := ltz s8
        clear hW8 hb8 H6 u8 f8 l8 b4 b5 b6 lb z0 z1 z2
        generalize w6.heap.size + os7.size = n8 at *
        simp at v8
        refine wp_region_more (by kernel_rfl) (by kernel_rfl) ?_
        repeat (go_big_quiet_step (fail))
        refine wpQuiet_nil ?_
        rintro _ ⟨pn, rfl⟩
        go_wp2_with fail
        go_roundw
        case rel => exact ⟨j + 1, X2, by go_num, by omega, HI2, Lib.hid (H8.out.grow (by repeat' (first | (with_reducible exact Below.refl _ _) | (with_reducible assumption) | (with_reducible refine below_drewN ?_ _) | (with_reducible refine below_more _ _ _ ?_ ?_) | (with_reducible refine Below.alloc ?_ ?_ _) | (with_reducible refine Below.drew ?_) | (with_reducible refine Below.setCell ?_ ?_ _) | go_size)))⟩
        case measure => simp [intOf]; omega
    · obtain rfl : j = n := by omega
      have hXq : X.L = [] ∧ X.D.q = [] := by
        rcases hI.out.2 with ⟨h1, _, _⟩ | ⟨_, h2, _⟩ | ⟨_, h3, h4⟩
        · omega
        · omega
        · exact ⟨h3, h4⟩
      have hnn := names_none (M := X.D.M) fun a ha => by
        have := (hI.out.1.al a).1 ha
        rw [hXq.1, hXq.2] at this
        cases this
      have t1 : ¬ (j : Int) + 1 ≤ (j : Int) := by omega
      have HNM := Lib.hid (wnames_o hh.out [] hnn)
      have HBF := Lib.hid hh.out.below
      clear hI hXq hnn
      go_wp2_with fail
      refine HNM.out.mono ?_
      rintro e w6 ⟨v6, rfl, hn6⟩
      obtain ⟨p6, c6, rfl⟩ := sl_frm hn6.1
      have HB6 := Lib.hid (HBF.out.trans (hn6.2.1.mono HBF.out.size))
      clear hn6 HNM hh HBF
      go_wp2_with (go_at_call 11; refine (awake17 _).mono ?_; rintro e w' ⟨rfl, hb⟩; obtain ⟨d, os, rfl⟩ := more_of hb; clear hb)
      go_ret
      exact ⟨rfl, HB1.out.trans (Below.mono (B := w1.heap.size) (HB6.out.trans (Below.mono (B := w6.heap.size) (by repeat' (first | (with_reducible exact Below.refl _ _) | (with_reducible assumption) | (with_reducible refine below_drewN ?_ _) | (with_reducible refine below_more _ _ _ ?_ ?_) | (with_reducible refine Below.alloc ?_ ?_ _) | (with_reducible refine Below.drew ?_) | (with_reducible refine Below.setCell ?_ ?_ _) | go_size)) HB6.out.size)) HB1.out.size)⟩
set_option maxRecDepth 100000 in
theorem lifted (os : Os) (started : os.Started) (H : Type) (enc : TypeId × Value → H) :
    ReturnsInHanded {} Tryz.checked os 6 .any (Rows.worldFadesSpec.pre6 enc Tryz.prog Tryz.f6 Rows.worldFadesRow.domain false) (Rows.worldFadesSpec.post enc Tryz.prog Tryz.f6 false true false false) := by
  refine returnsInHanded_of_change (C := Tryz.checked) ownKnob0 started (by kernel_rfl) Tryz.func6
    (ChangeSpec.witness6 (enc := enc) (C := Tryz.checked) false ⟨#[], #[.agg #[.int .i64 0, .int .i64 0, .int .i64 0, .int .i64 0, .int .i64 0, .int .i64 0, .int .i64 0], .int .i64 0, .int .i64 0, .int .i64 0], []⟩ 8 (by kernel_rfl) (by kernel_rfl) (by kernel_rfl) (by kernel_rfl)) ?_
  intro W base args ds gs before hval0 hW _ _
  have hval : ∀ (j : Nat) t v, Tryz.f6.params[j]? = some t → args[j]? = some v → Value.okWide Tryz.prog W .any base t v := hval0
  have hread : ∀ t ∈ Tryz.f6.params.toList, Tryz.prog.readableRec t = true ∧ t < Tryz.prog.types.size := by
    rw [Tryz.params6]
    intro t ht
    simp only [List.mem_cons, List.not_mem_nil, or_false] at ht
    rcases ht with rfl | rfl | rfl | rfl
    all_goals exact ⟨by kernel_rfl, of_decide_eq_true (by kernel_rfl)⟩
  have hW' := hW
  obtain ⟨p, q, hA0, hV, -, -⟩ := hW'
  have hA : DataW.TrodAll enc Tryz.prog W 0 (fun _ => true) true Tryz.f6.params.toList args.toList ds p := hA0
  rw [Tryz.params6] at hA hval
  obtain ⟨v0, vs0, d0, ds0, p0, q0, hargs, rfl, rfl, h0, r0⟩ := trodAll_cons hA
  obtain ⟨v1, vs1, d1, ds1, p1, q1, rfl, rfl, rfl, h1, r1⟩ := trodAll_cons r0
  obtain ⟨v2, vs2, d2, ds2, p2, q2, rfl, rfl, rfl, h2, r2⟩ := trodAll_cons r1
  obtain ⟨v3, vs3, d3, ds3, p3, q3, rfl, rfl, rfl, h3, r3⟩ := trodAll_cons r2
  obtain ⟨rfl, rfl, rfl⟩ := trodAll_nil r3
  obtain rfl : args = #[v0, v1, v2, v3] := by cases args; simp_all
  obtain ⟨rfl, rfl⟩ := trodVars_none hV
  have k0 := hval 0 23 v0 rfl rfl
  have k1 := hval 1 3 v1 rfl rfl
  have k2 := hval 2 3 v2 rfl rfl
  have k3 := hval 3 3 v3 rfl rfl
  clear hval hval0 hA0 hV hA
  obtain ⟨c0, fuel0, rfl, g0⟩ := agg_of Tryz.underlying23 k0 h0
  obtain ⟨acols, arows, aside, aradius, aspeed, aids, aqueue, rfl⟩ := read_cfg g0
  obtain ⟨n1, rfl, rfl, rfl, w1⟩ := open_int Tryz.underlying3 k1 h1
  obtain ⟨n2, rfl, rfl, rfl, w2⟩ := open_int Tryz.underlying3 k2 h2
  obtain ⟨n3, rfl, rfl, rfl, w3⟩ := open_int Tryz.underlying3 k3 h3
  exact (walk _ _ _ _ _ _ _ _ _ _ W).mono fun e W' ⟨he, hb⟩ => ⟨_, he, post_true rfl rfl hread rfl hW hb⟩

theorem proved : Rows.WorldFadesSaid :=
  OpenClaim.holds_of_wide 6 Tryz.f6 rfl rfl rfl rfl rfl rfl rfl ⟨rfl, rfl, rfl, rfl, rfl⟩ rfl rfl rfl rfl rfl (by kernel_rfl) Tryz.func6 (by kernel_rfl)
    (of_decide_eq_true (by kernel_rfl)) (by unfold Func.isWrapper; first | (rw [if_pos (by decide +kernel)]; kernel_rfl) | (rw [if_neg (by decide +kernel)]; exact ⟨rfl, rfl⟩))
    (fun os started H enc _ => lifted os started H enc)
end Go.Proofs.YtoimjjhopljdmaaGreat.worldFades
