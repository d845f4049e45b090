/-
  QueryNarrows: for all entities, every query and any more the law returns true, and the arguments stay as they were. No condition.
-/
import Derived.Test.YtmkfjelpekkmmaaQ30
import Derived.Test.YtmkfjelpekkmmaaQ11
namespace Go.Proofs.Ytmkfjelpekkmmaa.queryNarrows
open Go.ChangeShapes Go.WideShapes Go.ChangeAt Go.RowKit

theorem narrow_sub (qa qn a n : Int) (l : List Bun) (ha : I64 qa) :
    ((foundF (bits .or .i64 qa a) (bits .or .i64 qn n) (fun _ => true) l).map idOf).Sublist ((foundF qa qn (fun _ => true) l).map idOf) := by
  refine List.Sublist.map _ ?_
  have e : l.filter (fun b => matchB (bits .or .i64 qa a) (bits .or .i64 qn n) b.m && true) = (l.filter fun b => matchB qa qn b.m && true).filter fun b => matchB (bits .or .i64 qa a) (bits .or .i64 qn n) b.m := by
    rw [List.filter_filter]
    refine List.filter_congr fun b _ => ?_
    have := match_more (a := qa) (a' := a) qn n b.m ha
    cases h : matchB (bits .or .i64 qa a) (bits .or .i64 qn n) b.m with
    | false => simp
    | true => simp [this h]
  unfold foundF
  rw [e, stableF_filter]
  exact List.filter_sublist
theorem idEq_dec (a b : Nid) : idEq a.s a.i a.g b.s b.i b.g = decide (a = b) := by
  rw [Bool.eq_iff_iff]
  cases a; cases b
  simp [idEq, and_assoc]
set_option maxRecDepth 100000 in
set_option maxHeartbeats 4000000 in
theorem walk (v : Value) (l : List Bun) (qa qn a n : Int) (w : World) (hl : BIn w v l) (ha : I64 qa) :
    Calls Try.prog 6 #[v, .agg #[.int .i64 qa, .int .i64 qn], .agg #[.int .i64 a, .int .i64 n]] w fun e w' => e = .returned (.bool true) ∧ Below w.heap.size w w' := by
  go_enter Try.func6, Try.ntmps6
  have HLI := Lib.hid (fun W (hW : Below w.heap.size w W) => made_open W v l (hl.keep hW))
  have hn := made_len l
  clear hl
  go_wp2_with fail
  generalize madeF l = L at *
  refine (HLI.out _ (by repeat' (first | (with_reducible exact Below.refl _ _) | (with_reducible assumption) | (with_reducible refine below_drewN ?_ _) | (with_reducible refine below_more _ _ _ ?_ ?_) | (with_reducible refine Below.alloc ?_ ?_ _) | (with_reducible refine Below.drew ?_) | (with_reducible refine Below.setCell ?_ ?_ _) | go_size))).mono ?_
  rintro e w1 ⟨p, pp, cc, rfl, hF, _, _, hb⟩
  have b1 : Below w.heap.size w w1 := Below.trans (b := (w.alloc (.cells #[.int .i64 qa, .int .i64 qn] 23)).alloc (.cells #[.int .i64 a, .int .i64 n] 23)) (by repeat' (first | (with_reducible exact Below.refl _ _) | (with_reducible assumption) | (with_reducible refine below_drewN ?_ _) | (with_reducible refine below_more _ _ _ ?_ ?_) | (with_reducible refine Below.alloc ?_ ?_ _) | (with_reducible refine Below.drew ?_) | (with_reducible refine Below.setCell ?_ ?_ _) | go_size)) (hb.mono (by simp; omega))
  have l1 : w.heap.size + 1 < w1.heap.size := by have := hb.size; simp at this; omega
  have a0 : w1.cell? ⟨w.heap.size, 0, none⟩ = some (.int .i64 qa) := (hb.cell (p := ⟨w.heap.size, 0, none⟩) (by simp; omega)).trans (by simp [go_sem])
  have a1 : w1.cell? ⟨w.heap.size, 1, none⟩ = some (.int .i64 qn) := (hb.cell (p := ⟨w.heap.size, 1, none⟩) (by simp; omega)).trans (by simp [go_sem])
  have r0 : w1.cell? ⟨w.heap.size + 1, 0, none⟩ = some (.int .i64 a) := (hb.cell (p := ⟨w.heap.size + 1, 0, none⟩) (by simp)).trans (by simp [go_sem])
  have r1 : w1.cell? ⟨w.heap.size + 1, 1, none⟩ = some (.int .i64 n) := (hb.cell (p := ⟨w.heap.size + 1, 1, none⟩) (by simp)).trans (by simp [go_sem])
  have l0 : w.heap.size < w1.heap.size := by omega
  have hsub := narrow_sub qa qn a n L ha
  have hwl : ((foundF qa qn (fun _ => true) L).map idOf).length ≤ 60 := by rw [List.length_map]; exact Nat.le_trans (foundF_len _ _ _ _) hn
  have HC := fun x y W (hW : Below w1.heap.size w1 W) => ids_any W _ L (hF.grow hW) ⟨_, rfl⟩ x y
  have H1 := Lib.hid (HC qa qn)
  have H2 := Lib.hid (HC (bits .or .i64 qa a) (bits .or .i64 qn n))
  generalize (foundF (bits .or .i64 qa a) (bits .or .i64 qn n) (fun _ => true) L).map idOf = S at *
  generalize (foundF qa qn (fun _ => true) L).map idOf = T at *
  have HB1 := Lib.hid b1
  clear hF hb HLI ha HC hn b1
  go_wp2_with fail
  refine (H1.out _ (by repeat' (first | (with_reducible exact Below.refl _ _) | (with_reducible assumption) | (with_reducible refine below_drewN ?_ _) | (with_reducible refine below_more _ _ _ ?_ ?_) | (with_reducible refine Below.alloc ?_ ?_ _) | (with_reducible refine Below.drew ?_) | (with_reducible refine Below.setCell ?_ ?_ _) | go_size))).mono ?_
  rintro e w2 ⟨v1, rfl, hX⟩
  have b0 : w2.cell? ⟨w.heap.size, 0, none⟩ = some (.int .i64 qa) := (hX.2.1.cell (p := ⟨w.heap.size, 0, none⟩) l0).trans a0
  have b1 : w2.cell? ⟨w.heap.size, 1, none⟩ = some (.int .i64 qn) := (hX.2.1.cell (p := ⟨w.heap.size, 1, none⟩) l0).trans a1
  have c0 : w2.cell? ⟨w.heap.size + 1, 0, none⟩ = some (.int .i64 a) := (hX.2.1.cell (p := ⟨w.heap.size + 1, 0, none⟩) l1).trans r0
  have c1 : w2.cell? ⟨w.heap.size + 1, 1, none⟩ = some (.int .i64 n) := (hX.2.1.cell (p := ⟨w.heap.size + 1, 1, none⟩) l1).trans r1
  have HB2 := Lib.hid (HB1.out.trans (hX.2.1.mono HB1.out.size))
  have h2 := H2.out w2 hX.2.1
  have HX := Lib.hid hX.rin
  obtain ⟨p2, c2, rfl⟩ := sl_frm hX.1
  clear hX a0 a1 r0 r1 H1 H2 HB1
  have H2 := Lib.hid h2
  clear h2
  go_wp2_with fail
  refine H2.out.mono ?_
  rintro e w3 ⟨v1, rfl, hY⟩
  have HB3 := Lib.hid (HB2.out.trans (hY.2.1.mono HB2.out.size))
  have HX3 := Lib.hid (HX.out.keep hY.2.1)
  have HY := Lib.hid hY.rin
  obtain ⟨p3, c3, rfl⟩ := sl_frm hY.1
  have hsl := hsub.length_le
  have HS := Lib.hid (show (S.drop 0).Sublist (T.drop 0) by simpa using hsub)
  clear hY HX HB2 H2 b0 b1 c0 c1 hsub
  go_wp2_with fail
  go_loopw [11, 12] (fun kx ix wr => ∃ k i : Nat, kx = .int .i64 k ∧ ix = .int .i64 i ∧ k ≤ T.length ∧ i ≤ S.length ∧ Hid ((S.drop i).Sublist (T.drop k)) ∧ Hid (Below w3.heap.size w3 wr)) (fun _ ix _ => S.length - (intOf ix).toNat)
  case atStart => exact ⟨0, 0, rfl, rfl, by omega, by omega, HS, Lib.hid (Below.refl _ _)⟩
  case round =>
    obtain ⟨k, i, rfl, rfl, hk, hi, hS, HW⟩ := hrel
    by_cases hlt : i < S.length
    · have t1 : (i : Int) < (S.length : Int) := by omega
      obtain ⟨y, hy⟩ : ∃ y, S[i]? = some y := ⟨_, List.getElem?_eq_getElem hlt⟩
      have hdy : S.drop i = y :: S.drop (i + 1) := by
        rw [List.drop_eq_getElem_cons hlt]
        have := List.getElem?_eq_getElem hlt
        rw [hy] at this
        rw [← Option.some.inj this]
      have HDY := Lib.hid hdy
      have HYY := Lib.hid hy
      clear hdy hy
      go_wp2_with fail
      go_loopw [11] (fun kx wr => ∃ k : Nat, kx = .int .i64 k ∧ k ≤ T.length ∧ Hid ((S.drop i).Sublist (T.drop k)) ∧ Hid (Below w3.heap.size w3 wr)) (fun kx _ => T.length - (intOf kx).toNat)
      case atStart => exact ⟨k, rfl, hk, hS, HW⟩
      case round =>
        clear hS HW hk
        obtain ⟨k2, rfl, hk2, hS2, HW2⟩ := hrel
        have hkt : k2 < T.length := by
          rcases Nat.lt_or_ge k2 T.length with h | h
          · exact h
          · have h1 := hS2.out
            rw [HDY.out, List.drop_eq_nil_of_le h] at h1
            cases h1
        have t2 : (k2 : Int) < (T.length : Int) := by omega
        obtain ⟨x, hx⟩ : ∃ x, T[k2]? = some x := ⟨_, List.getElem?_eq_getElem hkt⟩
        have hdx : T.drop k2 = x :: T.drop (k2 + 1) := by
          rw [List.drop_eq_getElem_cons hkt]
          have := List.getElem?_eq_getElem hkt
          rw [hx] at this
          rw [← Option.some.inj this]
        have HDX := Lib.hid hdx
        obtain ⟨g1, o1, d1, hv1, bb1, k1⟩ := (HX3.out.keep HW2.out).cells nidL_len hx
        obtain ⟨g2, o2, d2, hv2, bb2, k3⟩ := (HY.out.keep HW2.out).cells nidL_len HYY.out
        simp only [Value.slice.injEq, true_and] at hv1 hv2
        obtain ⟨rfl, rfl⟩ := hv1
        obtain ⟨rfl, rfl⟩ := hv2
        have p0 := k1 0 _ rfl; have q0 := k3 0 _ rfl; have p1 := k1 1 _ rfl; have q1 := k3 1 _ rfl; have p2 := k1 2 _ rfl; have q2 := k3 2 _ rfl
        simp only [Nat.add_zero] at p0 q0
        have hbe := idEq_dec x y
        clear k1 k3 hdx hx
        by_cases hxy : x = y
        · have hs3 := hS2.out
          rw [HDY.out, HDX.out, hxy] at hs3
          have HS3 := Lib.hid (show (S.drop (i + 1)).Sublist (T.drop k2) by rw [HDX.out]; exact (List.cons_sublist_cons.1 hs3).cons _)
          rw [decide_eq_true hxy] at hbe
          subst hxy
          have t3 : ((k2 : Int) == (T.length : Int)) = false := by simp; omega
          clear hs3
          go_upto_region 8 with fail
          refine wp_region_more (by kernel_rfl) (by kernel_rfl) ?_
          repeat (go_big_quiet_step (fail))
          refine wpQuiet_nil ?_
          rintro _ ⟨pn, rfl⟩
          go_wp2_with fail
          exact ⟨⟨k2, i + 1, rfl, by go_num, by omega, by omega, HS3, Lib.hid (HW2.out.trans ((more_below wr pn.d pn.os).mono HW2.out.size))⟩, by simp [intOf]; omega⟩
        · have hs3 := hS2.out
          rw [HDY.out, HDX.out] at hs3
          have HS3 : Hid ((S.drop i).Sublist (T.drop (k2 + 1))) := Lib.hid (by
            rw [HDY.out]
            cases hs3 with
            | cons _ h => exact h
            | cons_cons _ h => exact absurd rfl hxy)
          rw [decide_eq_false hxy] at hbe
          clear hs3
          go_upto_region 8 with fail
          refine wp_region_more (by kernel_rfl) (by kernel_rfl) ?_
          repeat (go_big_quiet_step (fail))
          refine wpQuiet_nil ?_
          rintro _ ⟨pn, rfl⟩
          go_wp2_with fail
          go_roundw
          case rel => exact ⟨k2 + 1, by go_num, by omega, HS3, Lib.hid (HW2.out.trans ((more_below wr pn.d pn.os).mono HW2.out.size))⟩
          case measure => simp [intOf]; omega
    · obtain rfl : i = S.length := by omega
      have t1 : (S.length : Int) ≤ (T.length : Int) := by omega
      obtain ⟨d, os, rfl⟩ := more_of HW.out
      go_wp2_with (go_at_call 18; refine (awake12 _).mono ?_; rintro e w' ⟨rfl, hb⟩; obtain ⟨d, os, rfl⟩ := more_of hb; clear hb)
      go_ret
      exact ⟨rfl, HB3.out.trans (Below.mono (B := w3.heap.size) (by repeat' (first | (with_reducible exact Below.refl _ _) | (with_reducible assumption) | (with_reducible refine below_drewN ?_ _) | (with_reducible refine below_more _ _ _ ?_ ?_) | (with_reducible refine Below.alloc ?_ ?_ _) | (with_reducible refine Below.drew ?_) | (with_reducible refine Below.setCell ?_ ?_ _) | go_size)) HB3.out.size)⟩

set_option maxRecDepth 100000 in
theorem lifted (os : Os) (started : os.Started) (H : Type) (enc : TypeId × Value → H) :
    ReturnsInHanded {} Try.checked os 6 .any (Rows.queryNarrowsSpec.pre6 enc Try.prog Try.f6 Rows.queryNarrowsRow.domain false) (Rows.queryNarrowsSpec.post enc Try.prog Try.f6 false true false false) := by
  refine returnsInHanded_of_change (C := Try.checked) ownKnob0 started (by kernel_rfl) Try.func6
    (ChangeSpec.witness6 (enc := enc) (C := Try.checked) false ⟨#[], #[.slice none 0 0, .agg #[.int .i64 0, .int .i64 0], .agg #[.int .i64 0, .int .i64 0]], []⟩ 8 (by kernel_rfl) (by kernel_rfl) (by kernel_rfl) (by kernel_rfl)) ?_
  intro W base args ds gs before hval0 hW _ _
  have hval : ∀ (j : Nat) t v, Try.f6.params[j]? = some t → args[j]? = some v → Value.okWide Try.prog W .any base t v := hval0
  have hread : ∀ t ∈ Try.f6.params.toList, Try.prog.readableRec t = true ∧ t < Try.prog.types.size := by
    rw [Try.params6]
    intro t ht
    simp only [List.mem_cons, List.not_mem_nil, or_false] at ht
    rcases ht with rfl | rfl | rfl
    all_goals exact ⟨by kernel_rfl, of_decide_eq_true (by kernel_rfl)⟩
  have hW' := hW
  obtain ⟨p, q, hA0, hV, -, -⟩ := hW'
  have hA : DataW.TrodAll enc Try.prog W 0 (fun _ => true) true Try.f6.params.toList args.toList ds p := hA0
  rw [Try.params6] at hA hval
  obtain ⟨v0, vs0, d0, ds0, p0, q0, hargs, rfl, rfl, h0, r0⟩ := trodAll_cons hA
  obtain ⟨v1, vs1, d1, ds1, p1, q1, rfl, rfl, rfl, h1, r1⟩ := trodAll_cons r0
  obtain ⟨v2, vs2, d2, ds2, p2, q2, rfl, rfl, rfl, h2, r2⟩ := trodAll_cons r1
  obtain ⟨rfl, rfl, rfl⟩ := trodAll_nil r2
  obtain rfl : args = #[v0, v1, v2] := by cases args; simp_all
  obtain ⟨rfl, rfl⟩ := trodVars_none hV
  have k0 := hval 0 29 v0 rfl rfl
  have k1 := hval 1 23 v1 rfl rfl
  have k2 := hval 2 23 v2 rfl rfl
  clear hval hval0 hA0 hV hA
  obtain ⟨l, hl, _⟩ := buns_in k0 h0
  obtain ⟨cc, fuel1, rfl, g1⟩ := agg_of Try.underlying23 k1 h1
  obtain ⟨qa, qn, rfl, ia, _⟩ := read_query g1
  obtain ⟨cd, fuel2, rfl, g2⟩ := agg_of Try.underlying23 k2 h2
  obtain ⟨qb, qm, rfl, _⟩ := read_query g2
  exact (walk _ l _ _ _ _ W hl ia).mono fun e W' ⟨he, hb⟩ => ⟨_, he, post_true rfl rfl hread rfl hW hb⟩

theorem proved : Rows.QueryNarrowsSaid :=
  OpenClaim.holds_of_wide 6 Try.f6 rfl rfl rfl rfl rfl rfl rfl ⟨rfl, rfl, rfl, rfl, rfl⟩ rfl rfl rfl rfl rfl (by kernel_rfl) Try.func6 (by kernel_rfl)
    (of_decide_eq_true (by kernel_rfl)) (by unfold Func.isWrapper; first | (rw [if_pos (by decide +kernel)]; kernel_rfl) | (rw [if_neg (by decide +kernel)]; exact ⟨rfl, rfl⟩))
    (fun os started H enc _ => lifted os started H enc)
end Go.Proofs.Ytmkfjelpekkmmaa.queryNarrows
