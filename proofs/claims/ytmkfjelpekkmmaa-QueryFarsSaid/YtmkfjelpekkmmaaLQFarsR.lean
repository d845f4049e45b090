/-
  QueryFars: for all entities, every query and place the law returns true, and the arguments stay as they were. No condition.
-/
import Derived.WalkKit
import Derived.Test.YtmkfjelpekkmmaaProg
import Derived.WalkSpells
import Derived.WalkLawsBesides
import Derived.Handy
import Derived.Lib.Hide
import Derived.Lib.QuietBelow
import Derived.BigQuiet
import Derived.Deep.RegionHeld3
import Derived.Deep.RegionWith
import Derived.Deep.DeepFit
import Derived.Deep.DeepCutAuto
import Derived.Deep.LoopGhost
import Derived.Deep.Light
import Derived.Deep.RegionLaw
import Derived.Deep.RegionLawGrows
import Derived.Test.YtmkfjelpekkmmaaRows
import Derived.ProofKit
import Derived.OpenShut
import Derived.Carry
import Derived.Maps.OwnSet
import Derived.DeepKeys4
import Derived.StillTailTactics
import Derived.StillTail
import Derived.RegionTactic
import Derived.Deep.AppendLies
import Derived.Shelf.SlSortCmp.KitK
import Derived.Sort.WalkB2
import Derived.Sort.WalkB12
import Derived.Sort.LotA
import Derived.Shelf.SlSortCmp.Insertion
import Derived.ChangeSlices
import Derived.Deep.Slices
import Derived.RangeFuncNested
import Derived.RangeFuncBound
import Derived.RangeFuncCalls
import Derived.RangeFuncLeaves
import Derived.Shelf.Abstract
import Derived.Shelf.RegionOpen
import Derived.OwnWalkIn
import Derived.TacticsInMore
import Derived.LoopNIn
import Derived.LoopIn
import Derived.Maps.AppendAt
import Derived.BigRegion
import Derived.Shelf.RegionOpenPlain
import Derived.Laws.EntriesVeiled
import Derived.Test.YtmkfjelpekkmmaaQ01
import Derived.Test.YtmkfjelpekkmmaaQ02
import Derived.Test.YtmkfjelpekkmmaaQ03
import Derived.Test.YtmkfjelpekkmmaaQ04
import Derived.Test.YtmkfjelpekkmmaaQ05
import Derived.Test.YtmkfjelpekkmmaaQ06
import Derived.Test.YtmkfjelpekkmmaaQ07
import Derived.Test.YtmkfjelpekkmmaaQ08
import Derived.Test.YtmkfjelpekkmmaaQ09
import Derived.Test.YtmkfjelpekkmmaaQ10
import Derived.Test.YtmkfjelpekkmmaaQ11
import Derived.Test.YtmkfjelpekkmmaaQ12
import Derived.Test.YtmkfjelpekkmmaaQ13
import Derived.Test.YtmkfjelpekkmmaaQ14
import Derived.Test.YtmkfjelpekkmmaaQ15
import Derived.Test.YtmkfjelpekkmmaaQ16
import Derived.Test.YtmkfjelpekkmmaaQ17
import Derived.Test.YtmkfjelpekkmmaaQ18
import Derived.Test.YtmkfjelpekkmmaaQ19
import Derived.Test.YtmkfjelpekkmmaaQ20
import Derived.Test.YtmkfjelpekkmmaaQ21
import Derived.Test.YtmkfjelpekkmmaaQ22
import Derived.Test.YtmkfjelpekkmmaaQ23
import Derived.Test.YtmkfjelpekkmmaaQ24
import Derived.Test.YtmkfjelpekkmmaaQ25
import Derived.Test.YtmkfjelpekkmmaaQ26
import Derived.Test.YtmkfjelpekkmmaaQ27
import Derived.Test.YtmkfjelpekkmmaaQ28
import Derived.Test.YtmkfjelpekkmmaaQ29
import Derived.Test.YtmkfjelpekkmmaaQ30
import Derived.Test.YtmkfjelpekkmmaaQ31
import Derived.Test.YtmkfjelpekkmmaaQ32
import Derived.Test.YtmkfjelpekkmmaaQ33
import Derived.Test.YtmkfjelpekkmmaaQ34
import Derived.Test.YtmkfjelpekkmmaaQ35
import Derived.Test.YtmkfjelpekkmmaaR01
namespace Go.Proofs.Ytmkfjelpekkmmaa.queryFars
open Go.ChangeShapes Go.WideShapes Go.ChangeAt Go.RowKit

theorem near_in (qa qn px py d : Int) (l : List Bun) (h1 : -100000 < px ∧ px < 100000) (h2 : -100000 < py ∧ py < 100000) (h3 : 0 ≤ d ∧ d < 100000) :
    foundF qa qn (fun b => gapF (px - d) (py - d) (px + d + 1) (py + d + 1) b.x b.y == 0) l = foundF qa qn (fun b => decide (farF px py b.x b.y ≤ d)) l := by
  unfold foundF
  refine congrArg _ (List.filter_congr fun b _ => ?_)
  dsimp only
  rw [gap_has]
  refine congrArg _ ?_
  unfold hasF farF
  rw [clampF_id (px - d) (by omega) (by omega), clampF_id (py - d) (by omega) (by omega), clampF_id (px + d + 1) (by omega) (by omega), clampF_id (py + d + 1) (by omega) (by omega), clampF_id px (by omega) (by omega), clampF_id py (by omega) (by omega)]
  generalize clampF b.x = cx
  generalize clampF b.y = cy
  rw [Bool.eq_iff_iff, decide_eq_true_eq, decide_eq_true_eq]
  omega
theorem stabG_perm (cf : Bun → Bun → Int) (l : List Bun) : (stableF cf l).Perm l := by
  unfold stableF
  have h := (List.mergeSort_perm l.zipIdx fun x y => !ltT cf y x).map fun x => x.1
  have e : l.zipIdx.map (fun x => x.1) = l := by simp
  exact h.trans (List.Perm.of_eq e)
theorem stabG_pair {cf : Bun → Bun → Int} (hcf : CmpOk cf) (l : List Bun) : (stableF cf l).Pairwise fun a b => cf a b ≤ 0 := by
  rw [← gSort_stable hcf]
  obtain ⟨T, h1, _, h3⟩ := gSort_tag hcf l l.length (Nat.le_refl _)
  rw [List.take_length] at h1
  rw [← h1, List.pairwise_map]
  refine h3.imp fun {a b} h => ?_
  unfold ltT at h
  simp only [Bool.or_eq_true, Bool.and_eq_true, decide_eq_true_eq] at h
  omega
theorem near_far (qa qn px py d : Int) (l : List Bun) : (∀ b ∈ nearF qa qn px py d l, b ∈ l ∧ farF px py b.x b.y ≤ d) ∧ (nearF qa qn px py d l).Pairwise fun a b => farF px py a.x a.y ≤ farF px py b.x b.y := by
  constructor
  · intro b hb
    unfold nearF at hb
    have h1 := (stabG_perm _ _).mem_iff.1 hb
    unfold foundF at h1
    have h2 := (stF_perm _).mem_iff.1 h1
    simp only [List.mem_filter, Bool.and_eq_true, decide_eq_true_eq] at h2
    exact ⟨h2.1, h2.2.2⟩
  · refine (stabG_pair (cmpFar_ok px py) _).imp fun {a b} h => ?_
    unfold cmpFar cmpI at h
    revert h
    split
    · omega
    · split <;> omega
theorem near_len (qa qn px py d : Int) (l : List Bun) : (nearF qa qn px py d l).length = (foundF qa qn (fun b => decide (farF px py b.x b.y ≤ d)) l).length := by
  unfold nearF; exact (stabG_perm _ _).length_eq
theorem tmod_bd (x : Int) : -100000 < x.tmod 100000 ∧ x.tmod 100000 < 100000 := ⟨Int.lt_tmod_of_pos x (by omega), Int.tmod_lt_of_pos x (by omega)⟩
set_option maxRecDepth 100000 in
set_option maxHeartbeats 4000000 in
theorem walk (v : Value) (l : List Bun) (qa qn px py d : Int) (w : World) (hl : BIn w v l) :
    Calls Try.prog 7 #[v, .agg #[.int .i64 qa, .int .i64 qn], .agg #[.int .i64 px, .int .i64 py, .int .i64 d]] w fun e w' => e = .returned (.bool true) ∧ Below w.heap.size w w' := by
  go_enter Try.func7, Try.ntmps7
  have HLI := Lib.hid (fun W (hW : Below w.heap.size w W) => made_open W v l (hl.keep hW))
  have hn := made_len l
  clear hl
  have hp1 := tmod_bd px
  have hp2 := tmod_bd py
  have hp3 : 0 ≤ max 0 (d.tmod 100000) ∧ max 0 (d.tmod 100000) < 100000 := by have := tmod_bd d; omega
  go_upto_region 2 with fail
  generalize px.tmod 100000 = pa at *
  generalize py.tmod 100000 = pb at *
  generalize max 0 (d.tmod 100000) = pd at *
  generalize d.tmod 100000 = pd2 at *
  obtain ⟨x1, x2⟩ := hp1
  obtain ⟨y1, y2⟩ := hp2
  obtain ⟨z1, z2⟩ := hp3
  go_wp2_with fail
  have hun : True := trivial
  generalize madeF l = L at *
  refine (HLI.out _ (by repeat' (first | (with_reducible exact Below.refl _ _) | (with_reducible assumption) | (with_reducible refine below_drewN ?_ _) | (with_reducible refine below_more _ _ _ ?_ ?_) | (with_reducible refine Below.alloc ?_ ?_ _) | (with_reducible refine Below.drew ?_) | (with_reducible refine Below.setCell ?_ ?_ _) | go_size))).mono ?_
  rintro e w1 ⟨p, pp, cc, rfl, hF, hS, _, hb⟩
  have b1 : Below w.heap.size w w1 := Below.trans (b := (w.alloc (.cells #[.int .i64 qa, .int .i64 qn] 23)).alloc (.cells #[.int .i64 pa, .int .i64 pb, .int .i64 pd] 42)) (by repeat' (first | (with_reducible exact Below.refl _ _) | (with_reducible assumption) | (with_reducible refine below_drewN ?_ _) | (with_reducible refine below_more _ _ _ ?_ ?_) | (with_reducible refine Below.alloc ?_ ?_ _) | (with_reducible refine Below.drew ?_) | (with_reducible refine Below.setCell ?_ ?_ _) | go_size)) (hb.mono (by simp; omega))
  have l1 : w.heap.size + 1 < w1.heap.size := by have := hb.size; simp at this; omega
  have l0 : w.heap.size < w1.heap.size := by omega
  have cA : ∀ j, w1.cell? ⟨w.heap.size, j, none⟩ = (#[.int .i64 qa, .int .i64 qn] : Array Value)[j]? := fun j => (hb.cell (p := ⟨w.heap.size, j, none⟩) (by simp; omega)).trans (by simp [go_sem])
  have cB : ∀ j, w1.cell? ⟨w.heap.size + 1, j, none⟩ = (#[.int .i64 pa, .int .i64 pb, .int .i64 pd] : Array Value)[j]? := fun j => (hb.cell (p := ⟨w.heap.size + 1, j, none⟩) (by simp)).trans (by simp [go_sem])
  have a0 := cA 0; simp at a0; have a1 := cA 1; simp at a1
  have r0 := cB 0; simp at r0; have r1 := cB 1; simp at r1; have r2 := cB 2; simp at r2
  have HQ := qnear_any w1 _ L hF ⟨_, rfl⟩ qa qn pa pb pd
  have HI := Lib.hid (fun W (hW : Below w1.heap.size w1 W) => qwithin_any W _ L (hF.grow hW) ⟨_, rfl⟩ qa qn (pa - pd) (pb - pd) (pa + pd + 1) (pb + pd + 1))
  rw [near_in qa qn pa pb pd L ⟨x1, x2⟩ ⟨y1, y2⟩ ⟨z1, z2⟩] at HI
  obtain ⟨hmem, hpair⟩ := near_far qa qn pa pb pd L
  have hll := near_len qa qn pa pb pd L
  have hnl : (nearF qa qn pa pb pd L).length ≤ 60 := by rw [hll]; exact Nat.le_trans (foundF_len _ _ _ _) hn
  generalize foundF qa qn (fun b => decide (farF pa pb b.x b.y ≤ pd)) L = L2 at *
  generalize nearF qa qn pa pb pd L = NL at *
  have HQ' := Lib.hid HQ
  have HSS := Lib.hid hS
  have HMEM := Lib.hid hmem
  have HLL := Lib.hid hll
  have HPAIR := Lib.hid hpair
  have HB1 := Lib.hid b1
  clear hF hS hb cA cB HLI HQ hmem hpair b1 hun hll
  go_wp2_with fail
  refine HQ'.out.mono ?_
  rintro e w2 ⟨v1, rfl, hN⟩
  have hr := hN.rin
  obtain ⟨p2, c2, rfl⟩ := sl_frm hN.1
  have HR2 := Lib.hid hr
  have l2 := hN.2.1.size
  have s0 : w.heap.size < w2.heap.size := by omega
  have s1 : w.heap.size + 1 < w2.heap.size := by omega
  replace a0 := (hN.2.1.cell (p := ⟨w.heap.size, 0, none⟩) l0).trans a0; replace a1 := (hN.2.1.cell (p := ⟨w.heap.size, 1, none⟩) l0).trans a1
  replace r0 := (hN.2.1.cell (p := ⟨w.heap.size + 1, 0, none⟩) l1).trans r0; replace r1 := (hN.2.1.cell (p := ⟨w.heap.size + 1, 1, none⟩) l1).trans r1; replace r2 := (hN.2.1.cell (p := ⟨w.heap.size + 1, 2, none⟩) l1).trans r2
  have HB2 := Lib.hid (HB1.out.trans (hN.2.1.mono HB1.out.size))
  have HS2 := Lib.hid (sto_keep HSS.out hN.2.1)
  have HI2 := Lib.hid (HI.out w2 hN.2.1)
  clear hN hr HB1 HSS HI HQ'
  go_wp2_with fail
  refine HI2.out.mono ?_
  rintro e w3 ⟨v2, rfl, hN⟩
  obtain ⟨p3, c3, hv⟩ := sl_frm hN.1
  rw [List.length_map, ← HLL.out] at hv
  subst hv
  have l3 := hN.2.1.size
  have e0 : w.heap.size < w3.heap.size := by omega
  have e1 : w.heap.size + 1 < w3.heap.size := by omega
  replace r0 := (hN.2.1.cell (p := ⟨w.heap.size + 1, 0, none⟩) s1).trans r0; replace r1 := (hN.2.1.cell (p := ⟨w.heap.size + 1, 1, none⟩) s1).trans r1; replace r2 := (hN.2.1.cell (p := ⟨w.heap.size + 1, 2, none⟩) s1).trans r2
  have HB3 := Lib.hid (HB2.out.trans (hN.2.1.mono HB2.out.size))
  have HS3 := Lib.hid (sto_keep HS2.out hN.2.1)
  have HR3 := Lib.hid (HR2.out.keep hN.2.1)
  clear hN HB2 HS2 HR2 HI2 a0 a1
  go_wp2_with fail
  go_loopw [11, 12] (fun lx ix wr => ∃ (lv : Int) (t : Nat), lx = .int .i64 lv ∧ ix = .int .i64 t ∧ t ≤ NL.length ∧ Hid (∀ b, NL[t]? = some b → lv ≤ farF pa pb b.x b.y) ∧ Hid (Below w3.heap.size w3 wr)) (fun _ ix _ => NL.length - (intOf ix).toNat)
  case atStart => exact ⟨0, 0, rfl, rfl, by omega, Lib.hid (fun b _ => (farF_bd pa pb b.x b.y).1), Lib.hid (Below.refl _ _)⟩
  case round =>
    obtain ⟨lv, t, rfl, rfl, ht, HLV, HW⟩ := hrel
    by_cases hlt : t < NL.length
    · have t1 : (t : Int) < (NL.length : Int) := by omega
      obtain ⟨b, hb⟩ : ∃ b, NL[t]? = some b := ⟨_, List.getElem?_eq_getElem hlt⟩
      have hm := HMEM.out b (List.mem_of_getElem? hb)
      have hlv := HLV.out b hb
      have hnx : ∀ b', NL[t + 1]? = some b' → farF pa pb b.x b.y ≤ farF pa pb b'.x b'.y := fun b' hb' => by
        obtain ⟨h1, h1'⟩ := List.getElem?_eq_some_iff.1 hb
        obtain ⟨h2, h2'⟩ := List.getElem?_eq_some_iff.1 hb'
        have := List.pairwise_iff_getElem.1 HPAIR.out t (t + 1) h1 h2 (by omega)
        rwa [h1', h2'] at this
      obtain ⟨g1, o1, d1, hv1, bb1, k1⟩ := (HR3.out.keep HW.out).cells nidL_len (show (NL.map idOf)[t]? = some (idOf b) by rw [List.getElem?_map, hb]; rfl)
      rw [List.length_map] at hv1
      simp only [Value.slice.injEq, true_and] at hv1
      obtain ⟨rfl, rfl⟩ := hv1
      have q0 := k1 0 _ rfl; have q1 := k1 1 _ rfl; have q2 := k1 2 _ rfl
      simp only [Nat.add_zero] at q0
      have m0 := (HW.out.cell (p := ⟨w.heap.size + 1, 0, none⟩) e1).trans r0; have m1 := (HW.out.cell (p := ⟨w.heap.size + 1, 1, none⟩) e1).trans r1; have m2 := (HW.out.cell (p := ⟨w.heap.size + 1, 2, none⟩) e1).trans r2
      have HG : Hid (Calls Try.prog 27 #[.pointer (some ⟨p, 0, none⟩), .agg #[.int .i64 b.s, .int .i64 b.i, .int .i64 b.g]] wr fun e w' => e = .returned (.tuple #[.agg b.arr, .bool true]) ∧ Below wr.heap.size wr w') := Lib.hid (by
        obtain ⟨a9, h9⟩ := sto_keep HS3.out HW.out
        exact sget_any wr p L b a9 h9 hm.1)
      have hfd := hm.2
      have hbd := farF_bd pa pb b.x b.y
      have HNX := Lib.hid hnx
      have lr := HW.out.size
      have u1 : w.heap.size + 1 < wr.heap.size := by omega
      clear k1 hb hm hnx
      go_wp2_with fail
      refine HG.out.mono ?_
      rintro e w8 ⟨rfl, hb8⟩
      replace m0 := (hb8.cell (p := ⟨w.heap.size + 1, 0, none⟩) u1).trans m0; replace m1 := (hb8.cell (p := ⟨w.heap.size + 1, 1, none⟩) u1).trans m1; replace m2 := (hb8.cell (p := ⟨w.heap.size + 1, 2, none⟩) u1).trans m2
      have u2 : w.heap.size + 1 < w8.heap.size := by have := hb8.size; omega
      have HB8 := Lib.hid (Below.trans HW.out (Below.mono hb8 lr))
      have l8 : w3.heap.size ≤ w8.heap.size := by have := hb8.size; omega
      clear hb8
      go_wp2_with (go_at_call 28; refine (rFar_any pa pb b.x b.y _).mono ?_; rintro e w' ⟨rfl, rfl⟩)
      go_roundw
      case rel => exact ⟨farF pa pb b.x b.y, t + 1, by go_num, by go_num, by omega, HNX, Lib.hid (Below.trans HB8.out (Below.mono (B := w8.heap.size) (by repeat' (first | (with_reducible exact Below.refl _ _) | (with_reducible assumption) | (with_reducible refine below_drewN ?_ _) | (with_reducible refine below_more _ _ _ ?_ ?_) | (with_reducible refine Below.alloc ?_ ?_ _) | (with_reducible refine Below.drew ?_) | (with_reducible refine Below.setCell ?_ ?_ _) | go_size)) l8))⟩
      case measure => simp [intOf]; omega
    · obtain rfl : t = NL.length := by omega
      obtain ⟨d7, os7, rfl⟩ := more_of HW.out
      go_wp2_with (go_at_call 18; refine (awake12 _).mono ?_; rintro e w' ⟨rfl, hb⟩; obtain ⟨d, os, rfl⟩ := more_of hb; clear hb)
      go_ret
      exact ⟨rfl, HB3.out.trans (Below.mono (B := w3.heap.size) (by repeat' (first | (with_reducible exact Below.refl _ _) | (with_reducible assumption) | (with_reducible refine below_drewN ?_ _) | (with_reducible refine below_more _ _ _ ?_ ?_) | (with_reducible refine Below.alloc ?_ ?_ _) | (with_reducible refine Below.drew ?_) | (with_reducible refine Below.setCell ?_ ?_ _) | go_size)) HB3.out.size)⟩

set_option maxRecDepth 100000 in
theorem lifted (os : Os) (started : os.Started) (H : Type) (enc : TypeId × Value → H) :
    ReturnsInHanded {} Try.checked os 7 .any (Rows.queryFarsSpec.pre6 enc Try.prog Try.f7 Rows.queryFarsRow.domain false) (Rows.queryFarsSpec.post enc Try.prog Try.f7 false true false false) := by
  refine returnsInHanded_of_change (C := Try.checked) ownKnob0 started (by kernel_rfl) Try.func7
    (ChangeSpec.witness6 (enc := enc) (C := Try.checked) false ⟨#[], #[.slice none 0 0, .agg #[.int .i64 0, .int .i64 0], .agg #[.int .i64 0, .int .i64 0, .int .i64 0]], []⟩ 8 (by kernel_rfl) (by kernel_rfl) (by kernel_rfl) (by kernel_rfl)) ?_
  intro W base args ds gs before hval0 hW _ _
  have hval : ∀ (j : Nat) t v, Try.f7.params[j]? = some t → args[j]? = some v → Value.okWide Try.prog W .any base t v := hval0
  have hread : ∀ t ∈ Try.f7.params.toList, Try.prog.readableRec t = true ∧ t < Try.prog.types.size := by
    rw [Try.params7]
    intro t ht
    simp only [List.mem_cons, List.not_mem_nil, or_false] at ht
    rcases ht with rfl | rfl | rfl
    all_goals exact ⟨by kernel_rfl, of_decide_eq_true (by kernel_rfl)⟩
  have hW' := hW
  obtain ⟨p, q, hA0, hV, -, -⟩ := hW'
  have hA : DataW.TrodAll enc Try.prog W 0 (fun _ => true) true Try.f7.params.toList args.toList ds p := hA0
  rw [Try.params7] at hA hval
  obtain ⟨v0, vs0, d0, ds0, p0, q0, hargs, rfl, rfl, h0, r0⟩ := trodAll_cons hA
  obtain ⟨v1, vs1, d1, ds1, p1, q1, rfl, rfl, rfl, h1, r1⟩ := trodAll_cons r0
  obtain ⟨v2, vs2, d2, ds2, p2, q2, rfl, rfl, rfl, h2, r2⟩ := trodAll_cons r1
  obtain ⟨rfl, rfl, rfl⟩ := trodAll_nil r2
  obtain rfl : args = #[v0, v1, v2] := by cases args; simp_all
  obtain ⟨rfl, rfl⟩ := trodVars_none hV
  have k0 := hval 0 29 v0 rfl rfl
  have k1 := hval 1 23 v1 rfl rfl
  have k2 := hval 2 42 v2 rfl rfl
  clear hval hval0 hA0 hV hA
  obtain ⟨l, hl, _⟩ := buns_in k0 h0
  obtain ⟨cc, fuel1, rfl, g1⟩ := agg_of Try.underlying23 k1 h1
  obtain ⟨qa, qn, rfl, _⟩ := read_query g1
  obtain ⟨cd, fuel2, rfl, g2⟩ := agg_of Try.underlying42 k2 h2
  obtain ⟨px, py, d, rfl, _⟩ := read_place g2
  exact (walk _ l _ _ _ _ _ W hl).mono fun e W' ⟨he, hb⟩ => ⟨_, he, post_true rfl rfl hread rfl hW hb⟩

theorem proved : Rows.QueryFarsSaid :=
  OpenClaim.holds_of_wide 7 Try.f7 rfl rfl rfl rfl rfl rfl rfl ⟨rfl, rfl, rfl, rfl, rfl⟩ rfl rfl rfl rfl rfl (by kernel_rfl) Try.func7 (by kernel_rfl)
    (of_decide_eq_true (by kernel_rfl)) (by unfold Func.isWrapper; first | (rw [if_pos (by decide +kernel)]; kernel_rfl) | (rw [if_neg (by decide +kernel)]; exact ⟨rfl, rfl⟩))
    (fun os started H enc _ => lifted os started H enc)
end Go.Proofs.Ytmkfjelpekkmmaa.queryFars
