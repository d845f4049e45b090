/-
  QueryNone: for every query and place the law returns true, and the arguments stay as they were. No condition.
-/
import Derived.Test.YtmkfjelpekkmmaaQ30
import Derived.Test.YtmkfjelpekkmmaaQ35
namespace Go.Proofs.Ytmkfjelpekkmmaa.queryNone
open Go.ChangeShapes Go.WideShapes Go.ChangeAt Go.RowKit

theorem found_nil (qa qn : Int) (hf : Bun → Bool) : foundF qa qn hf [] = [] := by
  have := foundF_len qa qn hf []
  exact List.length_eq_zero_iff.1 (by simpa using this)
theorem near_nil (qa qn px py d : Int) : nearF qa qn px py d [] = [] := by
  unfold nearF
  rw [found_nil, ← gSort_stable (cmpFar_ok px py)]
  rfl
theorem n_ids (qa qn : Int) (w : World) : Calls Try.prog 26 #[.pointer none, .agg #[.int .i64 qa, .int .i64 qn]] w fun e w' => ∃ v', e = .returned v' ∧ RNew nidL 48 3 w w' v' [] := by
  have := ids_any w _ [] (foundAt_none w) ⟨_, rfl⟩ qa qn
  rwa [found_nil] at this
theorem n_count (qa qn : Int) (w : World) : Calls Try.prog 29 #[.pointer none, .agg #[.int .i64 qa, .int .i64 qn]] w fun e w' => e = .returned (.int .i64 0) ∧ Below w.heap.size w w' := by
  have := count_any w _ [] (foundAt_none w) ⟨_, rfl⟩ qa qn
  rwa [found_nil] at this
theorem n_all (qa qn : Int) (w : World) : Calls Try.prog 33 #[.pointer none, .agg #[.int .i64 qa, .int .i64 qn], .int .i64 9] w fun e w' => ∃ v, e = .returned v ∧ BNew w w' v [] := by
  have := all12_any w none [] qa qn 9 (foundAt_none w)
  rwa [found_nil] at this
theorem n_in (qa qn x0 y0 x1 y1 : Int) (w : World) : Calls Try.prog 21 #[.pointer none, .agg #[.int .i64 qa, .int .i64 qn], .agg #[.int .i64 x0, .int .i64 y0, .int .i64 x1, .int .i64 y1]] w fun e w' => ∃ v', e = .returned v' ∧ RNew nidL 48 3 w w' v' [] := by
  have := qwithin_any w _ [] (foundAt_none w) ⟨_, rfl⟩ qa qn x0 y0 x1 y1
  rwa [found_nil] at this
theorem n_near (qa qn px py d : Int) (w : World) : Calls Try.prog 24 #[.pointer none, .agg #[.int .i64 qa, .int .i64 qn], .int .i64 px, .int .i64 py, .int .i64 d] w fun e w' => ∃ v', e = .returned v' ∧ RNew nidL 48 3 w w' v' [] := by
  have := qnear_any w _ [] (foundAt_none w) ⟨_, rfl⟩ qa qn px py d
  rwa [near_nil] at this
set_option maxRecDepth 100000 in
set_option maxHeartbeats 4000000 in
theorem walk (qa qn px py d : Int) (w : World) :
    Calls Try.prog 10 #[.agg #[.int .i64 qa, .int .i64 qn], .agg #[.int .i64 px, .int .i64 py, .int .i64 d]] w fun e w' => e = .returned (.bool true) ∧ Below w.heap.size w w' := by
  go_enter Try.func10, Try.ntmps10
  go_upto_region 1 with fail
  obtain ⟨W1, hW1⟩ : ∃ W1, W1 = (w.alloc (.cells #[.int .i64 qa, .int .i64 qn] 23)).alloc (.cells #[.int .i64 px, .int .i64 py, .int .i64 d] 42) := ⟨_, rfl⟩
  have b1 : Below w.heap.size w W1 := by rw [hW1]; exact (by repeat' (first | (with_reducible exact Below.refl _ _) | (with_reducible assumption) | (with_reducible refine below_drewN ?_ _) | (with_reducible refine below_more _ _ _ ?_ ?_) | (with_reducible refine Below.alloc ?_ ?_ _) | (with_reducible refine Below.drew ?_) | (with_reducible refine Below.setCell ?_ ?_ _) | go_size))
  have l1 : w.heap.size + 1 < W1.heap.size := by rw [hW1]; simp
  have l0 : w.heap.size < W1.heap.size := by omega
  have a0 : W1.cell? ⟨w.heap.size, 0, none⟩ = some (.int .i64 qa) := by rw [hW1]; simp [go_sem]
  have a1 : W1.cell? ⟨w.heap.size, 1, none⟩ = some (.int .i64 qn) := by rw [hW1]; simp [go_sem]
  have r0 : W1.cell? ⟨w.heap.size + 1, 0, none⟩ = some (.int .i64 px) := by rw [hW1]; simp [go_sem]
  have r1 : W1.cell? ⟨w.heap.size + 1, 1, none⟩ = some (.int .i64 py) := by rw [hW1]; simp [go_sem]
  have r2 : W1.cell? ⟨w.heap.size + 1, 2, none⟩ = some (.int .i64 d) := by rw [hW1]; simp [go_sem]
  rw [← hW1]
  clear hW1
  go_wp2_with (first | (go_at_call 26; refine (n_ids _ _ _).mono ?_; rintro e w' ⟨v1, rfl, hX⟩; obtain ⟨p1, c1, rfl⟩ := sl_frm hX.1; have hk := Below.trans (B := W1.heap.size) (a := W1) (by repeat' (first | (with_reducible exact Below.refl _ _) | (with_reducible assumption) | (with_reducible refine below_drewN ?_ _) | (with_reducible refine below_more _ _ _ ?_ ?_) | (with_reducible refine Below.alloc ?_ ?_ _) | (with_reducible refine Below.drew ?_) | (with_reducible refine Below.setCell ?_ ?_ _) | go_size)) (Below.mono (B' := W1.heap.size) hX.2.1 (by simp)); obtain ⟨d1, os1, rfl⟩ := more_of hk; clear hk; clear hX) | (go_at_call 29; refine (n_count _ _ _).mono ?_; rintro e w' ⟨rfl, hb⟩; have hk := Below.trans (B := W1.heap.size) (a := W1) (by repeat' (first | (with_reducible exact Below.refl _ _) | (with_reducible assumption) | (with_reducible refine below_drewN ?_ _) | (with_reducible refine below_more _ _ _ ?_ ?_) | (with_reducible refine Below.alloc ?_ ?_ _) | (with_reducible refine Below.drew ?_) | (with_reducible refine Below.setCell ?_ ?_ _) | go_size)) (Below.mono (B' := W1.heap.size) hb (by simp)); obtain ⟨d5, os5, rfl⟩ := more_of hk; clear hk; clear hb) | (go_at_call 33; refine (n_all _ _ _).mono ?_; rintro e w' ⟨v1, rfl, hX⟩; obtain ⟨p1, c1, rfl⟩ := sl_frm hX.1; have hk := Below.trans (B := W1.heap.size) (a := W1) (by repeat' (first | (with_reducible exact Below.refl _ _) | (with_reducible assumption) | (with_reducible refine below_drewN ?_ _) | (with_reducible refine below_more _ _ _ ?_ ?_) | (with_reducible refine Below.alloc ?_ ?_ _) | (with_reducible refine Below.drew ?_) | (with_reducible refine Below.setCell ?_ ?_ _) | go_size)) (Below.mono (B' := W1.heap.size) hX.2.1 (by simp)); obtain ⟨d1, os1, rfl⟩ := more_of hk; clear hk; clear hX) | (go_at_call 21; refine (n_in _ _ _ _ _ _ _).mono ?_; rintro e w' ⟨v1, rfl, hX⟩; obtain ⟨p1, c1, rfl⟩ := sl_frm hX.1; have hk := Below.trans (B := W1.heap.size) (a := W1) (by repeat' (first | (with_reducible exact Below.refl _ _) | (with_reducible assumption) | (with_reducible refine below_drewN ?_ _) | (with_reducible refine below_more _ _ _ ?_ ?_) | (with_reducible refine Below.alloc ?_ ?_ _) | (with_reducible refine Below.drew ?_) | (with_reducible refine Below.setCell ?_ ?_ _) | go_size)) (Below.mono (B' := W1.heap.size) hX.2.1 (by simp)); obtain ⟨d1, os1, rfl⟩ := more_of hk; clear hk; clear hX) | (go_at_call 24; refine (n_near _ _ _ _ _ _).mono ?_; rintro e w' ⟨v1, rfl, hX⟩; obtain ⟨p1, c1, rfl⟩ := sl_frm hX.1; have hk := Below.trans (B := W1.heap.size) (a := W1) (by repeat' (first | (with_reducible exact Below.refl _ _) | (with_reducible assumption) | (with_reducible refine below_drewN ?_ _) | (with_reducible refine below_more _ _ _ ?_ ?_) | (with_reducible refine Below.alloc ?_ ?_ _) | (with_reducible refine Below.drew ?_) | (with_reducible refine Below.setCell ?_ ?_ _) | go_size)) (Below.mono (B' := W1.heap.size) hX.2.1 (by simp)); obtain ⟨d1, os1, rfl⟩ := more_of hk; clear hk; clear hX) | (go_at_call 18; refine (awake12 _).mono ?_; rintro e w' ⟨rfl, hb⟩; have hk := Below.trans (B := W1.heap.size) (a := W1) (by repeat' (first | (with_reducible exact Below.refl _ _) | (with_reducible assumption) | (with_reducible refine below_drewN ?_ _) | (with_reducible refine below_more _ _ _ ?_ ?_) | (with_reducible refine Below.alloc ?_ ?_ _) | (with_reducible refine Below.drew ?_) | (with_reducible refine Below.setCell ?_ ?_ _) | go_size)) (Below.mono (B' := W1.heap.size) hb (by simp)); obtain ⟨d5, os5, rfl⟩ := more_of hk; clear hk; clear hb))
  go_ret
  exact ⟨rfl, b1.trans (Below.mono (B := W1.heap.size) (by repeat' (first | (with_reducible exact Below.refl _ _) | (with_reducible assumption) | (with_reducible refine below_drewN ?_ _) | (with_reducible refine below_more _ _ _ ?_ ?_) | (with_reducible refine Below.alloc ?_ ?_ _) | (with_reducible refine Below.drew ?_) | (with_reducible refine Below.setCell ?_ ?_ _) | go_size)) b1.size)⟩

set_option maxRecDepth 100000 in
theorem lifted (os : Os) (started : os.Started) (H : Type) (enc : TypeId × Value → H) :
    ReturnsInHanded {} Try.checked os 10 .any (Rows.queryNoneSpec.pre6 enc Try.prog Try.f10 Rows.queryNoneRow.domain false) (Rows.queryNoneSpec.post enc Try.prog Try.f10 false true false false) := by
  refine returnsInHanded_of_change (C := Try.checked) ownKnob0 started (by kernel_rfl) Try.func10
    (ChangeSpec.witness6 (enc := enc) (C := Try.checked) false ⟨#[], #[.agg #[.int .i64 0, .int .i64 0], .agg #[.int .i64 0, .int .i64 0, .int .i64 0]], []⟩ 8 (by kernel_rfl) (by kernel_rfl) (by kernel_rfl) (by kernel_rfl)) ?_
  intro W base args ds gs before hval0 hW _ _
  have hval : ∀ (j : Nat) t v, Try.f10.params[j]? = some t → args[j]? = some v → Value.okWide Try.prog W .any base t v := hval0
  have hread : ∀ t ∈ Try.f10.params.toList, Try.prog.readableRec t = true ∧ t < Try.prog.types.size := by
    rw [Try.params10]
    intro t ht
    simp only [List.mem_cons, List.not_mem_nil, or_false] at ht
    rcases ht with rfl | rfl
    all_goals exact ⟨by kernel_rfl, of_decide_eq_true (by kernel_rfl)⟩
  have hW' := hW
  obtain ⟨p, q, hA0, hV, -, -⟩ := hW'
  have hA : DataW.TrodAll enc Try.prog W 0 (fun _ => true) true Try.f10.params.toList args.toList ds p := hA0
  rw [Try.params10] at hA hval
  obtain ⟨v0, vs0, d0, ds0, p0, q0, hargs, rfl, rfl, h0, r0⟩ := trodAll_cons hA
  obtain ⟨v1, vs1, d1, ds1, p1, q1, rfl, rfl, rfl, h1, r1⟩ := trodAll_cons r0
  obtain ⟨rfl, rfl, rfl⟩ := trodAll_nil r1
  obtain rfl : args = #[v0, v1] := by cases args; simp_all
  obtain ⟨rfl, rfl⟩ := trodVars_none hV
  have k0 := hval 0 23 v0 rfl rfl
  have k1 := hval 1 42 v1 rfl rfl
  clear hval hval0 hA0 hV hA
  obtain ⟨cc, fuel1, rfl, g1⟩ := agg_of Try.underlying23 k0 h0
  obtain ⟨qa, qn, rfl, ia, _⟩ := read_query g1
  obtain ⟨cd, fuel2, rfl, g2⟩ := agg_of Try.underlying42 k1 h1
  obtain ⟨px, py, d, rfl, _⟩ := read_place g2
  exact (walk _ _ _ _ _ W).mono fun e W' ⟨he, hb⟩ => ⟨_, he, post_true rfl rfl hread rfl hW hb⟩

theorem proved : Rows.QueryNoneSaid :=
  OpenClaim.holds_of_wide 10 Try.f10 rfl rfl rfl rfl rfl rfl rfl ⟨rfl, rfl, rfl, rfl, rfl⟩ rfl rfl rfl rfl rfl (by kernel_rfl) Try.func10 (by kernel_rfl)
    (of_decide_eq_true (by kernel_rfl)) (by unfold Func.isWrapper; first | (rw [if_pos (by decide +kernel)]; kernel_rfl) | (rw [if_neg (by decide +kernel)]; exact ⟨rfl, rfl⟩))
    (fun os started H enc _ => lifted os started H enc)
end Go.Proofs.Ytmkfjelpekkmmaa.queryNone
