/-
  QueryOrder: for all entities, every query and place the law returns true, and the arguments stay as they were. No condition.
-/
import Derived.Test.YtmkfjelpekkmmaaProg
import Derived.WalkKit
import Derived.WalkSpells
import Derived.WalkLawsBesides
import Derived.Handy
import Derived.Lib.Hide
import Derived.Lib.QuietBelow
import Derived.BigQuiet
import Derived.Deep.RegionHeld3
import Derived.Deep.RegionWith
import Derived.Deep.DeepFit
import Derived.Deep.DeepCutAuto
import Derived.Deep.LoopGhost
import Derived.Deep.Light
import Derived.Test.YtmkfjelpekkmmaaQ01
import Derived.Test.YtmkfjelpekkmmaaQ02
import Derived.Test.YtmkfjelpekkmmaaQ03
import Derived.Test.YtmkfjelpekkmmaaQ04
import Derived.Test.YtmkfjelpekkmmaaQ05
import Derived.Test.YtmkfjelpekkmmaaQ06
import Derived.Test.YtmkfjelpekkmmaaQ07
import Derived.Test.YtmkfjelpekkmmaaQ08
import Derived.Test.YtmkfjelpekkmmaaQ09
import Derived.Test.YtmkfjelpekkmmaaQ10
import Derived.Test.YtmkfjelpekkmmaaQ11
import Derived.Test.YtmkfjelpekkmmaaQ12
import Derived.Test.YtmkfjelpekkmmaaQ13
import Derived.Test.YtmkfjelpekkmmaaQ14
import Derived.Test.YtmkfjelpekkmmaaQ15
import Derived.Test.YtmkfjelpekkmmaaQ16
import Derived.Test.YtmkfjelpekkmmaaQ17
import Derived.Test.YtmkfjelpekkmmaaQ18
import Derived.Test.YtmkfjelpekkmmaaQ19
import Derived.Test.YtmkfjelpekkmmaaQ20
import Derived.Test.YtmkfjelpekkmmaaQ21
import Derived.Test.YtmkfjelpekkmmaaQ22
import Derived.Test.YtmkfjelpekkmmaaQ23
import Derived.Test.YtmkfjelpekkmmaaQ24
import Derived.Test.YtmkfjelpekkmmaaQ25
import Derived.Test.YtmkfjelpekkmmaaQ26
import Derived.Test.YtmkfjelpekkmmaaQ27
import Derived.Test.YtmkfjelpekkmmaaQ28
import Derived.Test.YtmkfjelpekkmmaaQ29
import Derived.Test.YtmkfjelpekkmmaaQ30
import Derived.Test.YtmkfjelpekkmmaaQ31
import Derived.Test.YtmkfjelpekkmmaaQ32
import Derived.Test.YtmkfjelpekkmmaaQ33
import Derived.Test.YtmkfjelpekkmmaaQ34
import Derived.Test.YtmkfjelpekkmmaaQ35
import Derived.Test.YtmkfjelpekkmmaaU04
namespace Go.Proofs.Ytmkfjelpekkmmaa.queryOrder
open Go.ChangeShapes Go.WideShapes Go.ChangeAt Go.RowKit

set_option maxRecDepth 100000 in
set_option maxHeartbeats 40000000 in
theorem walk (v : Value) (l : List Bun) (qa qn px py d : Int) (w : World) (hl : BIn w v l) :
    Calls Try.prog 11 #[v, .agg #[.int .i64 qa, .int .i64 qn], .agg #[.int .i64 px, .int .i64 py, .int .i64 d]] w fun e w' => e = .returned (.bool true) ∧ Below w.heap.size w w' := by
  go_enter Try.func11, Try.ntmps11
  have HLI := Lib.hid (fun W (hW : Below w.heap.size w W) => smade_any W v l (hl.keep hW))
  have hn := made_len l
  have HGO := Lib.hid (good_made l)
  clear hl
  go_wp2_with fail
  generalize madeF l = L at *
  refine (HLI.out _ (by repeat' (first | (with_reducible exact Below.refl _ _) | (with_reducible assumption) | (with_reducible refine below_drewN ?_ _) | (with_reducible refine below_more _ _ _ ?_ ?_) | (with_reducible refine Below.alloc ?_ ?_ _) | (with_reducible refine Below.drew ?_) | (with_reducible refine Below.setCell ?_ ?_ _) | go_size))).mono ?_
  rintro e w1 ⟨p, v', rfl, hO⟩
  obtain ⟨pp, cc, rfl⟩ := sl_frm hO.comm.assoc.sl.1
  obtain ⟨w0, hw0⟩ : ∃ w0, w0 = (w.alloc (.cells #[.int .i64 qa, .int .i64 qn] 23)).alloc (.cells #[.int .i64 px, .int .i64 py, .int .i64 d] 42) := ⟨_, rfl⟩
  rw [← hw0] at hO
  have b0 : Below w.heap.size w w0 := by rw [hw0]; exact (by repeat' (first | (with_reducible exact Below.refl _ _) | (with_reducible assumption) | (with_reducible refine below_drewN ?_ _) | (with_reducible refine below_more _ _ _ ?_ ?_) | (with_reducible refine Below.alloc ?_ ?_ _) | (with_reducible refine Below.drew ?_) | (with_reducible refine Below.setCell ?_ ?_ _) | go_size))
  have l1 : w.heap.size + 1 < w0.heap.size := by rw [hw0]; simp
  have l0 : w.heap.size < w0.heap.size := by omega
  have a0 : w0.cell? ⟨w.heap.size, 0, none⟩ = some (.int .i64 qa) := by rw [hw0]; simp [go_sem]
  have a1 : w0.cell? ⟨w.heap.size, 1, none⟩ = some (.int .i64 qn) := by rw [hw0]; simp [go_sem]
  have r0 : w0.cell? ⟨w.heap.size + 1, 0, none⟩ = some (.int .i64 px) := by rw [hw0]; simp [go_sem]
  have r1 : w0.cell? ⟨w.heap.size + 1, 1, none⟩ = some (.int .i64 py) := by rw [hw0]; simp [go_sem]
  have r2 : w0.cell? ⟨w.heap.size + 1, 2, none⟩ = some (.int .i64 d) := by rw [hw0]; simp [go_sem]
  have HO1 := Lib.hid hO
  clear hO hw0 HLI
  go_wp2_with fail
  refine (snew_any w1).mono ?_
  rintro e w2 ⟨rfl, hm⟩
  generalize w1.heap.size + 1 = q at *
  have HO2 : Hid (Own w0 w2 ((stoO q []).and ((stoO p L).and ((slO 51 11 (.slice pp L.length cc) L.length (cellsR bunL L)).and .nil)))) := Lib.hid (HO1.out.made hm)
  clear hm HO1
  go_wp2_with fail
  go_loopw [10] (fun ix wr => ∃ m : Nat, ix = .int .i64 ((m : Int) - 1) ∧ m ≤ L.length ∧ Hid (Own w0 wr ((stoO q (revT L m)).and ((stoO p L).and ((slO 51 11 (.slice pp L.length cc) L.length (cellsR bunL L)).and .nil))))) (fun ix _ => (intOf ix + 1).toNat)
  case atStart => exact ⟨L.length, by go_num, Nat.le_refl _, Lib.hid (by have e : revT L L.length = [] := (by unfold revT; simp); rw [e]; exact HO2.out)⟩
  case round =>
    obtain ⟨m, rfl, hm, HW⟩ := hrel
    by_cases hj : m = 0
    · obtain rfl : m = 0 := by omega
      have hix : ((0 : Nat) : Int) - 1 = -1 := rfl
      rw [hix]
      obtain ⟨oa, hoa, _, _⟩ := HW.out.fst
      obtain ⟨ob, hob, _, _⟩ := HW.out.snd.fst
      have hrl : (revT L 0).length = L.length := by unfold revT; simp
      have hB := HW.out.below
      have fT := foundAt_sto hoa (by omega)
      have fS := foundAt_sto hob (by omega)
      have HL1 := Lib.hid (slen_o wr q _ oa hoa)
      rw [hrl] at HL1
      have HL2 := Lib.hid (slen_o wr p _ ob hob)
      have HI1 := Lib.hid (fun W (hW : Below wr.heap.size wr W) => ids_any W _ _ (fT.grow hW) ⟨_, rfl⟩ qa qn)
      have HI2 := Lib.hid (fun W (hW : Below wr.heap.size wr W) => ids_any W _ _ (fS.grow hW) ⟨_, rfl⟩ qa qn)
      have HN1 := Lib.hid (fun W (hW : Below wr.heap.size wr W) => qnear_any W _ _ (fT.grow hW) ⟨_, rfl⟩ qa qn px py d)
      have HN2 := Lib.hid (fun W (hW : Below wr.heap.size wr W) => qnear_any W _ _ (fS.grow hW) ⟨_, rfl⟩ qa qn px py d)
      have hnr : nearF qa qn px py d (revT L 0) = nearF qa qn px py d L := by unfold nearF; rw [revT_found HGO.out]
      rw [revT_found HGO.out] at HI1
      rw [hnr] at HN1
      replace a0 := (hB.cell (p := ⟨w.heap.size, 0, none⟩) l0).trans a0; replace a1 := (hB.cell (p := ⟨w.heap.size, 1, none⟩) l0).trans a1
      replace r0 := (hB.cell (p := ⟨w.heap.size + 1, 0, none⟩) l1).trans r0; replace r1 := (hB.cell (p := ⟨w.heap.size + 1, 1, none⟩) l1).trans r1; replace r2 := (hB.cell (p := ⟨w.heap.size + 1, 2, none⟩) l1).trans r2
      have s1 : w.heap.size + 1 < wr.heap.size := by have := hB.size; omega
      have s0 : w.heap.size < wr.heap.size := by omega
      have hbw : Below w.heap.size w wr := b0.trans (hB.mono (by omega))
      have HBW := Lib.hid hbw
      generalize foundF qa qn (fun _ => true) L = lf at *
      generalize nearF qa qn px py d L = lg at *
      clear hoa hob hB fT fS hbw HW HO2 hnr HGO hn hm hrl b0
      go_upto_region 16 with (first | (go_at_call 30; (first | refine HL1.out.mono ?_ | refine HL2.out.mono ?_); rintro e w' ⟨rfl, rfl⟩))
      go_region_held3 (fun W => (wr).heap.size ≤ W.heap.size ∧ ∀ b o, b < (wr).heap.size → W.cell? ⟨b, o, none⟩ = (wr).cell? ⟨b, o, none⟩) (with_reducible (repeat (first | assumption | exact s_refl _ | exact s_id _ | refine s_more _ _ ?_ | refine s_alloc _ ?_ | refine s_drew ?_))) (first | (go_at_call 26; (with_reducible refine (HI1.out _ (by repeat' (first | (with_reducible exact Below.refl _ _) | (with_reducible assumption) | (with_reducible refine below_drewN ?_ _) | (with_reducible refine below_more _ _ _ ?_ ?_) | (with_reducible refine Below.alloc ?_ ?_ _) | (with_reducible refine Below.drew ?_) | (with_reducible refine Below.setCell ?_ ?_ _) | go_size))).mono ?_); rintro e w' ⟨v1, rfl, hX⟩; obtain ⟨d1, os1, rfl⟩ := more_of hX.2.1) | (go_at_call 26; (with_reducible refine (HI2.out _ (by repeat' (first | (with_reducible exact Below.refl _ _) | (with_reducible assumption) | (with_reducible refine below_drewN ?_ _) | (with_reducible refine below_more _ _ _ ?_ ?_) | (with_reducible refine Below.alloc ?_ ?_ _) | (with_reducible refine Below.drew ?_) | (with_reducible refine Below.setCell ?_ ?_ _) | go_size))).mono ?_); rintro e w' ⟨v2, rfl, hY⟩; obtain ⟨d2, os2, rfl⟩ := more_of hY.2.1) | (go_at_call 24; (with_reducible refine (HN1.out _ (by repeat' (first | (with_reducible exact Below.refl _ _) | (with_reducible assumption) | (with_reducible refine below_drewN ?_ _) | (with_reducible refine below_more _ _ _ ?_ ?_) | (with_reducible refine Below.alloc ?_ ?_ _) | (with_reducible refine Below.drew ?_) | (with_reducible refine Below.setCell ?_ ?_ _) | go_size))).mono ?_); rintro e w' ⟨v3, rfl, hZ⟩; obtain ⟨d3, os3, rfl⟩ := more_of hZ.2.1) | (go_at_call 24; (with_reducible refine (HN2.out _ (by repeat' (first | (with_reducible exact Below.refl _ _) | (with_reducible assumption) | (with_reducible refine below_drewN ?_ _) | (with_reducible refine below_more _ _ _ ?_ ?_) | (with_reducible refine Below.alloc ?_ ?_ _) | (with_reducible refine Below.drew ?_) | (with_reducible refine Below.setCell ?_ ?_ _) | go_size))).mono ?_); rintro e w' ⟨v4, rfl, hV⟩; obtain ⟨d4, os4, rfl⟩ := more_of hV.2.1) | (go_at_call 20; (with_reducible refine (sameNd_self _ _ _ _ (hY.rin.keep (by repeat' (first | (with_reducible exact Below.refl _ _) | (with_reducible assumption) | (with_reducible refine below_drewN ?_ _) | (with_reducible refine below_more _ _ _ ?_ ?_) | (with_reducible refine Below.alloc ?_ ?_ _) | (with_reducible refine Below.drew ?_) | (with_reducible refine Below.setCell ?_ ?_ _) | go_size))) (hX.rin.keep (by repeat' (first | (with_reducible exact Below.refl _ _) | (with_reducible assumption) | (with_reducible refine below_drewN ?_ _) | (with_reducible refine below_more _ _ _ ?_ ?_) | (with_reducible refine Below.alloc ?_ ?_ _) | (with_reducible refine Below.drew ?_) | (with_reducible refine Below.setCell ?_ ?_ _) | go_size)))).mono ?_); rintro e w' ⟨rfl, hb⟩; obtain ⟨d5, os5, rfl⟩ := more_of hb; clear hb) | (go_at_call 20; (with_reducible refine (sameNd_self _ _ _ _ (hV.rin.keep (by repeat' (first | (with_reducible exact Below.refl _ _) | (with_reducible assumption) | (with_reducible refine below_drewN ?_ _) | (with_reducible refine below_more _ _ _ ?_ ?_) | (with_reducible refine Below.alloc ?_ ?_ _) | (with_reducible refine Below.drew ?_) | (with_reducible refine Below.setCell ?_ ?_ _) | go_size))) (hZ.rin.keep (by repeat' (first | (with_reducible exact Below.refl _ _) | (with_reducible assumption) | (with_reducible refine below_drewN ?_ _) | (with_reducible refine below_more _ _ _ ?_ ?_) | (with_reducible refine Below.alloc ?_ ?_ _) | (with_reducible refine Below.drew ?_) | (with_reducible refine Below.setCell ?_ ?_ _) | go_size)))).mono ?_); rintro e w' ⟨rfl, hb⟩; obtain ⟨d5, os5, rfl⟩ := more_of hb; clear hb) | (go_at_call 18; refine (awake12 _).mono ?_; rintro e w' ⟨rfl, hb⟩; obtain ⟨d5, os5, rfl⟩ := more_of hb; clear hb))
      all_goals
        go_wp2_with fail
        go_ret
        exact ⟨rfl, HBW.out.trans (Below.mono (B := wr.heap.size) (by repeat' (first | (with_reducible exact Below.refl _ _) | (with_reducible assumption) | (with_reducible refine below_drewN ?_ _) | (with_reducible refine below_more _ _ _ ?_ ?_) | (with_reducible refine Below.alloc ?_ ?_ _) | (with_reducible refine Below.drew ?_) | (with_reducible refine Below.setCell ?_ ?_ _) | go_size)) HBW.out.size)⟩
    · obtain ⟨j, rfl⟩ : ∃ j, m = j + 1 := ⟨m - 1, by omega⟩
      have hix : ((j + 1 : Nat) : Int) - 1 = (j : Int) := by omega
      rw [hix]
      have hjl : j < L.length := by omega
      have t0 : (0 : Int) ≤ (j : Int) := by omega
      have t1 : (j : Int) < (L.length : Int) := by omega
      obtain ⟨b, hb⟩ : ∃ b, L[j]? = some b := ⟨_, List.getElem?_eq_getElem hjl⟩
      have HB := Lib.hid hb
      obtain ⟨gb, ob, cb, hv, hgb, hcb⟩ := (BIn.of_sl HW.out.snd.snd.sl.1).cells hb
      simp only [Value.slice.injEq, true_and] at hv
      obtain ⟨rfl, rfl⟩ := hv
      have c0 := hcb 0 _ rfl; have c1 := hcb 1 _ rfl; have c2 := hcb 2 _ rfl; have c3 := hcb 3 _ rfl; have c4 := hcb 4 _ rfl; have c5 := hcb 5 _ rfl; have c6 := hcb 6 _ rfl; have c7 := hcb 7 _ rfl; have c8 := hcb 8 _ rfl; have c9 := hcb 9 _ rfl; have c10 := hcb 10 _ rfl
      simp only [Nat.add_zero] at c0
      have hck := HGO.out.2 b (List.mem_of_getElem? hb)
      have hck2 := lastG_check hck
      have hlen := revT_len L (j + 1)
      have HX := Lib.hid (HW.out.made (made_box wr (lastG b).arr 51)).swap
      have HP := Lib.hid (sput_o HX.out (by omega) (lastG b))
      rw [hck2] at HP
      simp only [if_true] at HP
      have HPO := fun (h : b.g = 1048575) => ord_same HGO.out hb h
      have HPN := fun (h : b.g ≠ 1048575) (hk : putOk (revT L (j + 1)) (lastG b) = true) => ord_new HGO.out hb h hk
      have HPE := fun (hk : putOk (revT L (j + 1)) (lastG b) = false) => ord_old HGO.out hb hk
      have HCK := Lib.hid hck
      have HCK2 := Lib.hid hck2
      clear hcb hb HX hck hck2
      by_cases hg : b.g = 1048575
      · obtain ⟨e1, e2, e3, e4⟩ := HPO hg
        rw [e1, e2] at HP
        simp only [if_true] at HP
        clear HPN HPE HPO hg
        go_wp2_with fail
        refine HP.out.mono ?_
        rintro e w4 ⟨rfl, hW4⟩
        obtain ⟨g4, o4, f4, hv4, bb4, hc4⟩ := (BIn.of_sl (hW4.snd.snd.snd.sl.1)).cells HB.out
        simp only [Value.slice.injEq, Option.some.injEq, Addr.mk.injEq, true_and, and_true] at hv4
        obtain ⟨⟨rfl, rfl⟩, rfl⟩ := hv4
        have d0 := hc4 0 _ rfl; have d1 := hc4 1 _ rfl; have d2 := hc4 2 _ rfl; have d3 := hc4 3 _ rfl; have d4 := hc4 4 _ rfl; have d5 := hc4 5 _ rfl; have d6 := hc4 6 _ rfl; have d7 := hc4 7 _ rfl; have d8 := hc4 8 _ rfl; have d9 := hc4 9 _ rfl; have d10 := hc4 10 _ rfl
        simp only [Nat.add_zero] at d0
        clear hc4
        have HP2 := Lib.hid (sput_o hW4 (by have := put_len (revT L (j + 1)) (lastG b); have := revT_len L j; omega) b)
        rw [HCK.out, e3, e4] at HP2
        simp only [if_true, Bool.false_eq_true, if_false] at HP2
        clear hW4 HP
        go_wp2_with fail
        refine HP2.out.mono ?_
        rintro e w5 ⟨rfl, hW5⟩
        go_wp2_with fail
        go_roundw
        case rel => exact ⟨j, by go_num, by omega, Lib.hid hW5.swap.snd⟩
        case measure => simp [intOf]
      · cases hk : putOk (revT L (j + 1)) (lastG b) with
        | true =>
        obtain ⟨e1, e2⟩ := HPN hg hk
        rw [hk] at HP
        simp only [if_true] at HP
        have HNG := Lib.hid hg
        have HE2 := Lib.hid e2
        clear HPN HPE HPO hg hk
        go_wp2_with fail
        refine HP.out.mono ?_
        rintro e w4 ⟨rfl, hW4⟩
        obtain ⟨g4, o4, f4, hv4, bb4, hc4⟩ := (BIn.of_sl (hW4.snd.snd.snd.sl.1)).cells HB.out
        simp only [Value.slice.injEq, Option.some.injEq, Addr.mk.injEq, true_and, and_true] at hv4
        obtain ⟨⟨rfl, rfl⟩, rfl⟩ := hv4
        have d0 := hc4 0 _ rfl; have d1 := hc4 1 _ rfl; have d2 := hc4 2 _ rfl; have d3 := hc4 3 _ rfl; have d4 := hc4 4 _ rfl; have d5 := hc4 5 _ rfl; have d6 := hc4 6 _ rfl; have d7 := hc4 7 _ rfl; have d8 := hc4 8 _ rfl; have d9 := hc4 9 _ rfl; have d10 := hc4 10 _ rfl
        simp only [Nat.add_zero] at d0
        clear hc4
        have HP2 := Lib.hid (sput_o hW4 (by have := put_len (revT L (j + 1)) (lastG b); have := revT_len L j; omega) b)
        rw [HCK.out, e1] at HP2
        simp only [if_true] at HP2
        clear hW4 HP
        go_wp2_with fail
        refine HP2.out.mono ?_
        rintro e w5 ⟨rfl, hW5⟩
        obtain ⟨g5, o5, f5, hv5, bb5, hc5⟩ := (BIn.of_sl (hW5.snd.snd.snd.sl.1)).cells HB.out
        simp only [Value.slice.injEq, Option.some.injEq, Addr.mk.injEq, true_and, and_true] at hv5
        obtain ⟨⟨rfl, rfl⟩, rfl⟩ := hv5
        have y0 := hc5 0 _ rfl; have y1 := hc5 1 _ rfl; have y2 := hc5 2 _ rfl; have y3 := hc5 3 _ rfl; have y4 := hc5 4 _ rfl; have y5 := hc5 5 _ rfl; have y6 := hc5 6 _ rfl; have y7 := hc5 7 _ rfl; have y8 := hc5 8 _ rfl; have y9 := hc5 9 _ rfl; have y10 := hc5 10 _ rfl
        simp only [Nat.add_zero] at y0
        clear hc5
        have hX5 := hW5.swap.box
        have lX := hX5.2.2.1
        have x0 := hX5.1 0
        have x1 := hX5.1 1
        have x2 := hX5.1 2
        simp [lastG] at x0 x1 x2
        have lr : wr.heap.size ≤ w5.heap.size := by omega
        have hbe : idEq b.s b.i 1048575 b.s b.i b.g = false := by
          have := HNG.out
          simp [idEq]; omega
        have HRM := Lib.hid (fun d os => srem_o (hW5.grow (more_below w5 d os)) (idOf (lastG b)) (nfit_of_check HCK2.out))
        clear hX5 hW5 HP2
        go_upto_region 12 with fail
        refine wp_region_more (by kernel_rfl) (by kernel_rfl) ?_
        repeat (go_big_quiet_step (fail))
        refine wpQuiet_nil ?_
        rintro _ ⟨pn, rfl⟩
        go_wp2_with fail
        refine (HRM.out _ _).mono ?_
        rintro e w6 ⟨rfl, hW6⟩
        rw [HE2.out] at hW6
        go_wp2_with fail
        go_roundw
        case rel => exact ⟨j, by go_num, by omega, Lib.hid hW6.swap.snd⟩
        case measure => simp [intOf]
        | false =>
        obtain ⟨e1, e2⟩ := HPE hk
        rw [hk] at HP
        simp only [Bool.false_eq_true, if_false] at HP
        have HNG := Lib.hid hg
        clear HPN HPE HPO hg hk
        go_wp2_with fail
        refine HP.out.mono ?_
        rintro e w4 ⟨rfl, hW4⟩
        obtain ⟨g4, o4, f4, hv4, bb4, hc4⟩ := (BIn.of_sl (hW4.snd.snd.snd.sl.1)).cells HB.out
        simp only [Value.slice.injEq, Option.some.injEq, Addr.mk.injEq, true_and, and_true] at hv4
        obtain ⟨⟨rfl, rfl⟩, rfl⟩ := hv4
        have d0 := hc4 0 _ rfl; have d1 := hc4 1 _ rfl; have d2 := hc4 2 _ rfl; have d3 := hc4 3 _ rfl; have d4 := hc4 4 _ rfl; have d5 := hc4 5 _ rfl; have d6 := hc4 6 _ rfl; have d7 := hc4 7 _ rfl; have d8 := hc4 8 _ rfl; have d9 := hc4 9 _ rfl; have d10 := hc4 10 _ rfl
        simp only [Nat.add_zero] at d0
        clear hc4
        have HP2 := Lib.hid (sput_o hW4 (by have := put_len (revT L (j + 1)) (lastG b); have := revT_len L j; omega) b)
        rw [HCK.out, e1, e2] at HP2
        simp only [if_true] at HP2
        clear hW4 HP
        go_wp2_with fail
        refine HP2.out.mono ?_
        rintro e w5 ⟨rfl, hW5⟩
        obtain ⟨g5, o5, f5, hv5, bb5, hc5⟩ := (BIn.of_sl (hW5.snd.snd.snd.sl.1)).cells HB.out
        simp only [Value.slice.injEq, Option.some.injEq, Addr.mk.injEq, true_and, and_true] at hv5
        obtain ⟨⟨rfl, rfl⟩, rfl⟩ := hv5
        have y0 := hc5 0 _ rfl; have y1 := hc5 1 _ rfl; have y2 := hc5 2 _ rfl; have y3 := hc5 3 _ rfl; have y4 := hc5 4 _ rfl; have y5 := hc5 5 _ rfl; have y6 := hc5 6 _ rfl; have y7 := hc5 7 _ rfl; have y8 := hc5 8 _ rfl; have y9 := hc5 9 _ rfl; have y10 := hc5 10 _ rfl
        simp only [Nat.add_zero] at y0
        clear hc5
        have hX5 := hW5.swap.box
        have lX := hX5.2.2.1
        have x0 := hX5.1 0
        have x1 := hX5.1 1
        have x2 := hX5.1 2
        simp [lastG] at x0 x1 x2
        have lr : wr.heap.size ≤ w5.heap.size := by omega
        have hbe : idEq b.s b.i 1048575 b.s b.i b.g = false := by
          have := HNG.out
          simp [idEq]; omega
        have HW5 := Lib.hid hW5
        clear hX5 hW5 HP2
        go_upto_region 12 with fail
        refine wp_region_more (by kernel_rfl) (by kernel_rfl) ?_
        repeat (go_big_quiet_step (fail))
        refine wpQuiet_nil ?_
        rintro _ ⟨pn, rfl⟩
        go_wp2_with fail
        go_roundw
        case rel => exact ⟨j, by go_num, by omega, Lib.hid (HW5.out.grow (more_below w5 pn.d pn.os)).swap.snd⟩
        case measure => simp [intOf]

set_option maxRecDepth 100000 in
theorem lifted (os : Os) (started : os.Started) (H : Type) (enc : TypeId × Value → H) :
    ReturnsInHanded {} Try.checked os 11 .any (Rows.queryOrderSpec.pre6 enc Try.prog Try.f11 Rows.queryOrderRow.domain false) (Rows.queryOrderSpec.post enc Try.prog Try.f11 false true false false) := by
  refine returnsInHanded_of_change (C := Try.checked) ownKnob0 started (by kernel_rfl) Try.func11
    (ChangeSpec.witness6 (enc := enc) (C := Try.checked) false ⟨#[], #[.slice none 0 0, .agg #[.int .i64 0, .int .i64 0], .agg #[.int .i64 0, .int .i64 0, .int .i64 0]], []⟩ 8 (by kernel_rfl) (by kernel_rfl) (by kernel_rfl) (by kernel_rfl)) ?_
  intro W base args ds gs before hval0 hW _ _
  have hval : ∀ (j : Nat) t v, Try.f11.params[j]? = some t → args[j]? = some v → Value.okWide Try.prog W .any base t v := hval0
  have hread : ∀ t ∈ Try.f11.params.toList, Try.prog.readableRec t = true ∧ t < Try.prog.types.size := by
    rw [Try.params11]
    intro t ht
    simp only [List.mem_cons, List.not_mem_nil, or_false] at ht
    rcases ht with rfl | rfl | rfl
    all_goals exact ⟨by kernel_rfl, of_decide_eq_true (by kernel_rfl)⟩
  have hW' := hW
  obtain ⟨p, q, hA0, hV, -, -⟩ := hW'
  have hA : DataW.TrodAll enc Try.prog W 0 (fun _ => true) true Try.f11.params.toList args.toList ds p := hA0
  rw [Try.params11] at hA hval
  obtain ⟨v0, vs0, d0, ds0, p0, q0, hargs, rfl, rfl, h0, r0⟩ := trodAll_cons hA
  obtain ⟨v1, vs1, d1, ds1, p1, q1, rfl, rfl, rfl, h1, r1⟩ := trodAll_cons r0
  obtain ⟨v2, vs2, d2, ds2, p2, q2, rfl, rfl, rfl, h2, r2⟩ := trodAll_cons r1
  obtain ⟨rfl, rfl, rfl⟩ := trodAll_nil r2
  obtain rfl : args = #[v0, v1, v2] := by cases args; simp_all
  obtain ⟨rfl, rfl⟩ := trodVars_none hV
  have k0 := hval 0 29 v0 rfl rfl
  have k1 := hval 1 23 v1 rfl rfl
  have k2 := hval 2 42 v2 rfl rfl
  clear hval hval0 hA0 hV hA
  obtain ⟨l, hl, _⟩ := buns_in k0 h0
  obtain ⟨cc, fuel1, rfl, g1⟩ := agg_of Try.underlying23 k1 h1
  obtain ⟨qa, qn, rfl, _⟩ := read_query g1
  obtain ⟨cd, fuel2, rfl, g2⟩ := agg_of Try.underlying42 k2 h2
  obtain ⟨px, py, d, rfl, _⟩ := read_place g2
  exact (walk _ l _ _ _ _ _ W hl).mono fun e W' ⟨he, hb⟩ => ⟨_, he, post_true rfl rfl hread rfl hW hb⟩

theorem proved : Rows.QueryOrderSaid :=
  OpenClaim.holds_of_wide 11 Try.f11 rfl rfl rfl rfl rfl rfl rfl ⟨rfl, rfl, rfl, rfl, rfl⟩ rfl rfl rfl rfl rfl (by kernel_rfl) Try.func11 (by kernel_rfl)
    (of_decide_eq_true (by kernel_rfl)) (by unfold Func.isWrapper; first | (rw [if_pos (by decide +kernel)]; kernel_rfl) | (rw [if_neg (by decide +kernel)]; exact ⟨rfl, rfl⟩))
    (fun os started H enc _ => lifted os started H enc)
end Go.Proofs.Ytmkfjelpekkmmaa.queryOrder
