/-
  PartsPuts: for any two entities and any mask the law returns true, and the arguments stay as they were. No condition.
-/
import Derived.Test.YtjkbenghgbigdaaPaK
import Derived.Test.YtjkbenghgbigdaaFr
namespace Go.Proofs.Ytjkbenghgbigdaa.partsPuts
open Go.ChangeShapes Go.WideShapes Go.ChangeAt Go.RowKit

theorem has_raw (s i g m x y vx vy hp pw lf k : Int) (w : World) :
    Calls Try.prog 35 #[.agg #[.int .i64 s, .int .i64 i, .int .i64 g, .int .i64 m, .int .i64 x, .int .i64 y, .int .i64 vx, .int .i64 vy, .int .i64 hp, .int .i64 pw, .int .i64 lf], .int .i64 k] w fun e w' => e = .returned (.bool (bits .and .i64 m k == k)) ∧ Below w.heap.size w w' := has_any s i g m x y vx vy hp pw lf k w

set_option maxHeartbeats 4000000 in
theorem walk (s i g m x y vx vy hp pw lf s' i' g' m' x' y' vx' vy' hp' pw' lf' k : Int) (w : World) (hm : (-9223372036854775808 ≤ m ∧ m ≤ 9223372036854775807)) (hm' : (-9223372036854775808 ≤ m' ∧ m' ≤ 9223372036854775807)) (hk : (-9223372036854775808 ≤ k ∧ k ≤ 9223372036854775807)) :
    Calls Try.prog 6 #[.agg #[.int .i64 s, .int .i64 i, .int .i64 g, .int .i64 m, .int .i64 x, .int .i64 y, .int .i64 vx, .int .i64 vy, .int .i64 hp, .int .i64 pw, .int .i64 lf], .agg #[.int .i64 s', .int .i64 i', .int .i64 g', .int .i64 m', .int .i64 x', .int .i64 y', .int .i64 vx', .int .i64 vy', .int .i64 hp', .int .i64 pw', .int .i64 lf'], .int .i64 k] w fun e w' => e = .returned (.bool true) ∧ Below w.heap.size w w' := by
  have HM := Lib.hid hm
  have HM' := Lib.hid hm'
  have HK := Lib.hid hk
  clear hm hm' hk
  go_enter Try.func6, Try.ntmps6
  go_wp2_with fail
  refine wp_region_more (by kernel_rfl) (by kernel_rfl) ?_
  repeat (go_big_quiet_step ((first | (go_at_call 31; exact more_call (with_call _ _ _ _ _ _ _ _ _ _ _ _ _ _ _ _ _ _ _ _ _ _ _)) | (go_at_call 32; exact more_call (rWith_k _ _ _ _ _ _ _ _ _ _ _ _ _ _ _ _ _ _ _ _ _ _ _ HM'.out)) | (go_at_call 33; exact more_call (without_k _ _ _ _ _ _ _ _ _ _ _ _ _)) | (go_at_call 34; exact more_call (rWithout_k _ _ _ _ _ _ _ _ _ _ _ _ _ HM.out HK.out)) | (go_at_call 35; exact more_call (has_raw _ _ _ _ _ _ _ _ _ _ _ _ _)) | (go_at_call 28; exact more_call (awake9 _)))))
  refine wpQuiet_nil ?_
  rintro _ ⟨pm, rfl⟩
  go_wp2_with fail
  go_ret
  exact ⟨by simp, (by repeat' (first | (with_reducible exact Below.refl _ _) | (with_reducible assumption) | (with_reducible refine below_drewN ?_ _) | (with_reducible refine below_more _ _ _ ?_ ?_) | (with_reducible refine Below.alloc ?_ ?_ _) | (with_reducible refine Below.drew ?_) | (with_reducible refine Below.setCell ?_ ?_ _) | go_size))⟩

set_option maxRecDepth 100000 in
theorem lifted (os : Os) (started : os.Started) (H : Type) (enc : TypeId × Value → H) :
    ReturnsInHanded {} Try.checked os 6 .any (Rows.partsPutsSpec.pre6 enc Try.prog Try.f6 Rows.partsPutsRow.domain false) (Rows.partsPutsSpec.post enc Try.prog Try.f6 false true false false) := by
  refine returnsInHanded_of_change (C := Try.checked) ownKnob0 started (by kernel_rfl) Try.func6
    (ChangeSpec.witness6 (enc := enc) (C := Try.checked) false ⟨#[], #[.agg #[.int .i64 0, .int .i64 0, .int .i64 0, .int .i64 0, .int .i64 0, .int .i64 0, .int .i64 0, .int .i64 0, .int .i64 0, .int .i64 0, .int .i64 0], .agg #[.int .i64 0, .int .i64 0, .int .i64 0, .int .i64 0, .int .i64 0, .int .i64 0, .int .i64 0, .int .i64 0, .int .i64 0, .int .i64 0, .int .i64 0], .int .i64 0], []⟩ 8 (by kernel_rfl) (by kernel_rfl) (by kernel_rfl) (by kernel_rfl)) ?_
  intro W base args ds gs before hval0 hW _ _
  have hval : ∀ (j : Nat) t v, Try.f6.params[j]? = some t → args[j]? = some v → Value.okWide Try.prog W .any base t v := hval0
  have hread : ∀ t ∈ Try.f6.params.toList, Try.prog.readableRec t = true ∧ t < Try.prog.types.size := by
    rw [Try.params6]
    intro t ht
    simp only [List.mem_cons, List.not_mem_nil, or_false] at ht
    rcases ht with rfl | rfl | rfl
    all_goals exact ⟨by kernel_rfl, of_decide_eq_true (by kernel_rfl)⟩
  have hW' := hW
  obtain ⟨p, q, hA0, hV, -, -⟩ := hW'
  have hA : DataW.TrodAll enc Try.prog W 0 (fun _ => true) true Try.f6.params.toList args.toList ds p := hA0
  rw [Try.params6] at hA hval
  obtain ⟨v0, vs0, d0, ds0, p0, q0, hargs, rfl, rfl, h0, r0⟩ := trodAll_cons hA
  obtain ⟨v1, vs1, d1, ds1, p1, q1, rfl, rfl, rfl, h1, r1⟩ := trodAll_cons r0
  obtain ⟨v2, vs2, d2, ds2, p2, q2, rfl, rfl, rfl, h2, r2⟩ := trodAll_cons r1
  obtain ⟨rfl, rfl, rfl⟩ := trodAll_nil r2
  obtain rfl : args = #[v0, v1, v2] := by cases args; simp_all
  obtain ⟨rfl, rfl⟩ := trodVars_none hV
  have k0 := hval 0 38 v0 rfl rfl
  have k1 := hval 1 38 v1 rfl rfl
  have k2 := hval 2 3 v2 rfl rfl
  clear hval hval0 hA0 hV hA
  obtain ⟨c0, fuel0, rfl, g0⟩ := agg_of Try.underlying38 k0 h0
  obtain ⟨s, i, g, m, x, y, vx, vy, hp, pw, lf, rfl, is, ii, ig, im, ix, iy, ivx, ivy, ihp, ipw, ilf⟩ := read_bun g0
  obtain ⟨c1, fuel1, rfl, g1⟩ := agg_of Try.underlying38 k1 h1
  obtain ⟨s', i', g', m', x', y', vx', vy', hp', pw', lf', rfl, is', ii', ig', im', ix', iy', ivx', ivy', ihp', ipw', ilf'⟩ := read_bun g1
  obtain ⟨k, rfl, rfl, rfl, w2⟩ := open_int Try.underlying3 k2 h2
  exact (walk _ _ _ _ _ _ _ _ _ _ _ _ _ _ _ _ _ _ _ _ _ _ _ W im im' (i64_of_wf w2)).mono fun e W' ⟨he, hb⟩ => ⟨_, he, post_true rfl rfl hread rfl hW hb⟩

/-- PartsPuts: true for every input; the arguments stay. -/
theorem proved : Rows.PartsPutsSaid :=
  OpenClaim.holds_of_wide 6 Try.f6 rfl rfl rfl rfl rfl rfl rfl ⟨rfl, rfl, rfl, rfl, rfl⟩ rfl rfl rfl rfl rfl (by kernel_rfl) Try.func6 (by kernel_rfl)
    (of_decide_eq_true (by kernel_rfl)) (by unfold Func.isWrapper; first | (rw [if_pos (by decide +kernel)]; kernel_rfl) | (rw [if_neg (by decide +kernel)]; exact ⟨rfl, rfl⟩))
    (fun os started H enc _ => lifted os started H enc)
end Go.Proofs.Ytjkbenghgbigdaa.partsPuts
