/-
  QueryNear: for all entities, every query and place the law returns true, and the arguments stay as they were. No condition.
-/
import Derived.Test.YtmkfjelpekkmmaaQ30
import Derived.Test.YtmkfjelpekkmmaaQ32
import Derived.Test.YtmkfjelpekkmmaaQ33
namespace Go.Proofs.Ytmkfjelpekkmmaa.queryNear
open Go.ChangeShapes Go.WideShapes Go.ChangeAt Go.RowKit

theorem near_eq (qa qn px py d : Int) (l : List Bun) : nearF qa qn px py d l = nearG px py d (askF qa qn l) := by
  unfold nearF nearG
  rw [gSort_stable (cmpFar_ok px py)]
  unfold foundF askF
  rw [stableF_filter, stableF_filter, List.filter_filter]
  simp only [Bool.and_comm]
set_option maxRecDepth 100000 in
set_option maxHeartbeats 4000000 in
theorem walk (v : Value) (l : List Bun) (qa qn px py d : Int) (w : World) (hl : BIn w v l) (ha : I64 qa) :
    Calls Try.prog 5 #[v, .agg #[.int .i64 qa, .int .i64 qn], .agg #[.int .i64 px, .int .i64 py, .int .i64 d]] w fun e w' => e = .returned (.bool true) ∧ Below w.heap.size w w' := by
  go_enter Try.func5, Try.ntmps5
  have HLI := Lib.hid (fun W (hW : Below w.heap.size w W) => made_open W v l (hl.keep hW))
  have hi := made_i64 l
  have hn := made_len l
  clear hl
  go_wp2_with fail
  generalize madeF l = L at *
  refine (HLI.out _ (by repeat' (first | (with_reducible exact Below.refl _ _) | (with_reducible assumption) | (with_reducible refine below_drewN ?_ _) | (with_reducible refine below_more _ _ _ ?_ ?_) | (with_reducible refine Below.alloc ?_ ?_ _) | (with_reducible refine Below.drew ?_) | (with_reducible refine Below.setCell ?_ ?_ _) | go_size))).mono ?_
  rintro e w1 ⟨p, pp, cc, rfl, hF, _, hB, hb⟩
  have b1 : Below w.heap.size w w1 := Below.trans (b := (w.alloc (.cells #[.int .i64 qa, .int .i64 qn] 23)).alloc (.cells #[.int .i64 px, .int .i64 py, .int .i64 d] 42)) (by repeat' (first | (with_reducible exact Below.refl _ _) | (with_reducible assumption) | (with_reducible refine below_drewN ?_ _) | (with_reducible refine below_more _ _ _ ?_ ?_) | (with_reducible refine Below.alloc ?_ ?_ _) | (with_reducible refine Below.drew ?_) | (with_reducible refine Below.setCell ?_ ?_ _) | go_size)) (hb.mono (by simp; omega))
  have cA : ∀ j, w1.cell? ⟨w.heap.size, j, none⟩ = (#[.int .i64 qa, .int .i64 qn] : Array Value)[j]? := fun j => (hb.cell (p := ⟨w.heap.size, j, none⟩) (by simp; omega)).trans (by simp [go_sem])
  have cB : ∀ j, w1.cell? ⟨w.heap.size + 1, j, none⟩ = (#[.int .i64 px, .int .i64 py, .int .i64 d] : Array Value)[j]? := fun j => (hb.cell (p := ⟨w.heap.size + 1, j, none⟩) (by simp)).trans (by simp [go_sem])
  have l1 : w.heap.size + 1 < w1.heap.size := by have := hb.size; simp at this; omega
  have l0 : w.heap.size < w1.heap.size := by omega
  have a0 := cA 0; simp at a0; have a1 := cA 1; simp at a1
  have r0 := cB 0; simp at r0; have r1 := cB 1; simp at r1; have r2 := cB 2; simp at r2
  have HQ := Lib.hid (fun W (hW : Below w1.heap.size w1 W) => qnear_any W _ L (hF.grow hW) ⟨_, rfl⟩ qa qn px py d)
  have HR := Lib.hid (fun W (hW : Below w1.heap.size w1 W) => rnear12_any _ L W qa qn px py d (hB.keep hW) (by omega) ha hi)
  rw [near_eq] at HQ
  have hll : (nearG px py d (askF qa qn L)).length ≤ 1000000 := by
    unfold nearG
    rw [gSort_len]
    have h1 := List.length_filter_le (fun b => decide (farF px py b.x b.y ≤ d)) (askF qa qn L)
    have h2 : (askF qa qn L).length ≤ L.length := by unfold askF; rw [stableF_len]; exact List.length_filter_le _ _
    omega
  generalize nearG px py d (askF qa qn L) = lf at *
  have HN := Lib.hid (fun v W (h : BIn W v lf) => rNames_any v lf W h hll)
  clear hF hB hb cA cB hi hn hll ha HLI
  go_upto_region 2 with fail
  go_region_held3 (fun W => (w1).heap.size ≤ W.heap.size ∧ ∀ b o, b < (w1).heap.size → W.cell? ⟨b, o, none⟩ = (w1).cell? ⟨b, o, none⟩) (with_reducible (repeat (first | assumption | exact s_refl _ | exact s_id _ | refine s_more _ _ ?_ | refine s_alloc _ ?_ | refine s_drew ?_))) (first | (go_at_call 24; refine (HQ.out _ (by repeat' (first | (with_reducible exact Below.refl _ _) | (with_reducible assumption) | (with_reducible refine below_drewN ?_ _) | (with_reducible refine below_more _ _ _ ?_ ?_) | (with_reducible refine Below.alloc ?_ ?_ _) | (with_reducible refine Below.drew ?_) | (with_reducible refine Below.setCell ?_ ?_ _) | go_size))).mono ?_; rintro e w' ⟨v1, rfl, hX⟩; obtain ⟨d1, os1, rfl⟩ := more_of hX.2.1) | (go_at_call 25; refine (HR.out _ (by repeat' (first | (with_reducible exact Below.refl _ _) | (with_reducible assumption) | (with_reducible refine below_drewN ?_ _) | (with_reducible refine below_more _ _ _ ?_ ?_) | (with_reducible refine Below.alloc ?_ ?_ _) | (with_reducible refine Below.drew ?_) | (with_reducible refine Below.setCell ?_ ?_ _) | go_size))).mono ?_; rintro e w' ⟨v2, rfl, hY⟩; obtain ⟨d2, os2, rfl⟩ := more_of hY.2.1) | (go_at_call 22; refine (HN.out _ _ (hY.bin.keep (by repeat' (first | (with_reducible exact Below.refl _ _) | (with_reducible assumption) | (with_reducible refine below_drewN ?_ _) | (with_reducible refine below_more _ _ _ ?_ ?_) | (with_reducible refine Below.alloc ?_ ?_ _) | (with_reducible refine Below.drew ?_) | (with_reducible refine Below.setCell ?_ ?_ _) | go_size)))).mono ?_; rintro e w' ⟨v3, rfl, hZ⟩; obtain ⟨d3, os3, rfl⟩ := more_of hZ.2.1) | (go_at_call 20; refine (sameNd_self _ _ _ _ (hX.rin.keep (by repeat' (first | (with_reducible exact Below.refl _ _) | (with_reducible assumption) | (with_reducible refine below_drewN ?_ _) | (with_reducible refine below_more _ _ _ ?_ ?_) | (with_reducible refine Below.alloc ?_ ?_ _) | (with_reducible refine Below.drew ?_) | (with_reducible refine Below.setCell ?_ ?_ _) | go_size))) (hZ.rin.keep (by repeat' (first | (with_reducible exact Below.refl _ _) | (with_reducible assumption) | (with_reducible refine below_drewN ?_ _) | (with_reducible refine below_more _ _ _ ?_ ?_) | (with_reducible refine Below.alloc ?_ ?_ _) | (with_reducible refine Below.drew ?_) | (with_reducible refine Below.setCell ?_ ?_ _) | go_size)))).mono ?_; rintro e w' ⟨rfl, hb⟩; obtain ⟨d4, os4, rfl⟩ := more_of hb) | (go_at_call 18; refine (awake12 _).mono ?_; rintro e w' ⟨rfl, hb⟩; obtain ⟨d5, os5, rfl⟩ := more_of hb))
  all_goals
    go_wp2_with fail
    go_ret
    exact ⟨rfl, b1.trans (Below.mono (B := w1.heap.size) (by repeat' (first | (with_reducible exact Below.refl _ _) | (with_reducible assumption) | (with_reducible refine below_drewN ?_ _) | (with_reducible refine below_more _ _ _ ?_ ?_) | (with_reducible refine Below.alloc ?_ ?_ _) | (with_reducible refine Below.drew ?_) | (with_reducible refine Below.setCell ?_ ?_ _) | go_size)) b1.size)⟩

set_option maxRecDepth 100000 in
theorem lifted (os : Os) (started : os.Started) (H : Type) (enc : TypeId × Value → H) :
    ReturnsInHanded {} Try.checked os 5 .any (Rows.queryNearSpec.pre6 enc Try.prog Try.f5 Rows.queryNearRow.domain false) (Rows.queryNearSpec.post enc Try.prog Try.f5 false true false false) := by
  refine returnsInHanded_of_change (C := Try.checked) ownKnob0 started (by kernel_rfl) Try.func5
    (ChangeSpec.witness6 (enc := enc) (C := Try.checked) false ⟨#[], #[.slice none 0 0, .agg #[.int .i64 0, .int .i64 0], .agg #[.int .i64 0, .int .i64 0, .int .i64 0]], []⟩ 8 (by kernel_rfl) (by kernel_rfl) (by kernel_rfl) (by kernel_rfl)) ?_
  intro W base args ds gs before hval0 hW _ _
  have hval : ∀ (j : Nat) t v, Try.f5.params[j]? = some t → args[j]? = some v → Value.okWide Try.prog W .any base t v := hval0
  have hread : ∀ t ∈ Try.f5.params.toList, Try.prog.readableRec t = true ∧ t < Try.prog.types.size := by
    rw [Try.params5]
    intro t ht
    simp only [List.mem_cons, List.not_mem_nil, or_false] at ht
    rcases ht with rfl | rfl | rfl
    all_goals exact ⟨by kernel_rfl, of_decide_eq_true (by kernel_rfl)⟩
  have hW' := hW
  obtain ⟨p, q, hA0, hV, -, -⟩ := hW'
  have hA : DataW.TrodAll enc Try.prog W 0 (fun _ => true) true Try.f5.params.toList args.toList ds p := hA0
  rw [Try.params5] at hA hval
  obtain ⟨v0, vs0, d0, ds0, p0, q0, hargs, rfl, rfl, h0, r0⟩ := trodAll_cons hA
  obtain ⟨v1, vs1, d1, ds1, p1, q1, rfl, rfl, rfl, h1, r1⟩ := trodAll_cons r0
  obtain ⟨v2, vs2, d2, ds2, p2, q2, rfl, rfl, rfl, h2, r2⟩ := trodAll_cons r1
  obtain ⟨rfl, rfl, rfl⟩ := trodAll_nil r2
  obtain rfl : args = #[v0, v1, v2] := by cases args; simp_all
  obtain ⟨rfl, rfl⟩ := trodVars_none hV
  have k0 := hval 0 29 v0 rfl rfl
  have k1 := hval 1 23 v1 rfl rfl
  have k2 := hval 2 42 v2 rfl rfl
  clear hval hval0 hA0 hV hA
  obtain ⟨l, hl, _⟩ := buns_in k0 h0
  obtain ⟨cc, fuel1, rfl, g1⟩ := agg_of Try.underlying23 k1 h1
  obtain ⟨qa, qn, rfl, ia, _⟩ := read_query g1
  obtain ⟨cd, fuel2, rfl, g2⟩ := agg_of Try.underlying42 k2 h2
  obtain ⟨px, py, d, rfl, _⟩ := read_place g2
  exact (walk _ l _ _ _ _ _ W hl ia).mono fun e W' ⟨he, hb⟩ => ⟨_, he, post_true rfl rfl hread rfl hW hb⟩

theorem proved : Rows.QueryNearSaid :=
  OpenClaim.holds_of_wide 5 Try.f5 rfl rfl rfl rfl rfl rfl rfl ⟨rfl, rfl, rfl, rfl, rfl⟩ rfl rfl rfl rfl rfl (by kernel_rfl) Try.func5 (by kernel_rfl)
    (of_decide_eq_true (by kernel_rfl)) (by unfold Func.isWrapper; first | (rw [if_pos (by decide +kernel)]; kernel_rfl) | (rw [if_neg (by decide +kernel)]; exact ⟨rfl, rfl⟩))
    (fun os started H enc _ => lifted os started H enc)
end Go.Proofs.Ytmkfjelpekkmmaa.queryNear
