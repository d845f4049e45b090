/-
  SystemsHits: for every radius and all entities the law returns true, and the arguments stay as they were. No condition.
-/
import Derived.Test.YtloampfkjldmnaaShE
import Derived.Test.YtloampfkjldmnaaSyI
namespace Go.Proofs.Ytloampfkjldmnaa.systemsHits
open Go.ChangeShapes Go.WideShapes Go.ChangeAt Go.RowKit

theorem sl_emptyN (W : World) (n : Nat) (hn : n = W.heap.size) : Sl (W.alloc (.cells #[] 34)) 34 11 (.slice (some ⟨n, 0, none⟩) 0 0) 0 [] := by subst hn; exact sl_empty W


set_option maxRecDepth 100000 in
set_option maxHeartbeats 1000000 in
theorem walk (r : Int) (v1 v2 : Value) (m1 m2 : List Bun) (w : World) (h1 : BIn w v1 m1) (h2 : BIn w v2 m2) (f1 : ∀ c ∈ m1, BFit c) (f2 : ∀ c ∈ m2, BFit c) :
    Calls Try.prog 3 #[.int .i64 r, v1, v2] w fun e w' => e = .returned (.bool true) ∧ Below w.heap.size w w' := by
  have F1 := few_any v1 m1 w h1
  have F2 := few_any v2 m2 w h2
  have g1 : ∀ c ∈ m1.take 60, BFit c := fun c hc => f1 c (List.mem_of_mem_take hc)
  have g2 : ∀ c ∈ m2.take 60, BFit c := fun c hc => f2 c (List.mem_of_mem_take hc)
  have n1 : (m1.take 60).length ≤ 60 := by simp; omega
  have n2 : (m2.take 60).length ≤ 60 := by simp; omega
  generalize m1.take 60 = l1 at *
  generalize m2.take 60 = l2 at *
  have HF1 := Lib.hid F1
  have HF2 := Lib.hid F2
  have G := Lib.hid (And.intro g1 g2)
  clear F1 F2 g1 g2 f1 f2 h1 h2
  go_enter Try.func3, Try.ntmps3
  go_wp2_with fail
  refine HF1.out.mono ?_; rintro e w' ⟨⟨va, rfl, hb1⟩, rfl⟩
  go_wp2_with fail
  refine HF2.out.mono ?_; rintro e w' ⟨⟨vb, rfl, hb2⟩, rfl⟩
  have HB1 := Lib.hid hb1
  have HB2 := Lib.hid hb2
  have KB1 := Lib.hid (fun W (hW : Below w.heap.size w W) => hb1.keep hW)
  have KB2 := Lib.hid (fun W (hW : Below w.heap.size w W) => hb2.keep hW)
  clear hb1 hb2
  go_wp2_with (first | (at_builtin; refine wpList_append_bin _ (by rfl) _ _ (by rfl) _ _ l1 (by rfl) (sl_emptyN _ _ (by simp)) (by rfl) (KB1.out _ (by repeat' (first | (with_reducible exact Below.refl _ _) | (with_reducible assumption) | (with_reducible refine below_drewN ?_ _) | (with_reducible refine below_more _ _ _ ?_ ?_) | (with_reducible refine Below.alloc ?_ ?_ _) | (with_reducible refine Below.drew ?_) | (with_reducible refine Below.setCell ?_ ?_ _) | go_size))) (by omega) ?_; intro a4 w4 hs ht ho; have hn := bnew_of _ (by simp [Value.ownBlock]) (by simpa using hs) ht ho; have hb1 := hn.2.1; have hz1 := hn.2.1.size; have HN1 := Lib.hid hn; clear hs ht ho hn) | (at_builtin; refine wpList_append_bin _ (by rfl) _ _ (by rfl) _ _ l2 (by rfl) (sl_emptyN _ _ (by simp)) (by rfl) (KB2.out _ (by repeat' (first | (with_reducible exact Below.refl _ _) | (with_reducible assumption) | (with_reducible refine below_drewN ?_ _) | (with_reducible refine below_more _ _ _ ?_ ?_) | (with_reducible refine Below.alloc ?_ ?_ _) | (with_reducible refine Below.drew ?_) | (with_reducible refine Below.setCell ?_ ?_ _) | go_size))) (by omega) ?_; intro a5 w5 hs ht ho; have hn := bnew_of _ (by simp [Value.ownBlock]) (by simpa using hs) ht ho; have hb2 := hn.2.1; have hz2 := hn.2.1.size; have HN2 := Lib.hid hn; clear hs ht ho hn))
  have b5 : Below w.heap.size w w5 := hb1.trans (hb2.mono hz1)
  have A5 := Lib.hid (fun W (hW : Below w5.heap.size w5 W) => (HN1.out.grow (hb2.trans (hW.mono hz2))).bin)
  have B5 := Lib.hid (fun W (hW : Below w5.heap.size w5 W) => (HN2.out.grow hW).bin)
  have K1 := Lib.hid (fun W (hW : Below w5.heap.size w5 W) => KB1.out W (b5.trans (hW.mono b5.size)))
  have K2 := Lib.hid (fun W (hW : Below w5.heap.size w5 W) => KB2.out W (b5.trans (hW.mono b5.size)))
  have HB5 := Lib.hid b5
  clear hb1 hb2 b5
  refine (hits_any r _ _ l1 l2 _ (A5.out _ (Below.refl _ _)) (B5.out _ (Below.refl _ _)) (by omega) (by omega)).mono ?_
  rintro e w6 ⟨vx, rfl, hX⟩
  have HX := Lib.hid hX
  have b6 := hX.2.1
  have z6 := hX.2.1.size
  clear hX
  go_wp2_with fail
  refine (rHits_any r _ _ l1 l2 _ (K1.out _ b6) (K2.out _ b6) G.out.1 G.out.2 (by omega) (by omega)).mono ?_
  rintro e w7 ⟨vy, rfl, hY⟩
  have HY := Lib.hid hY
  have b7 : Below w5.heap.size w5 w7 := b6.trans (hY.2.1.mono z6)
  have z7 := b7.size
  have hsx := (HX.out.grow hY.2.1).rin
  have HSX := Lib.hid hsx
  clear hY b6 hsx
  go_wp2_with fail
  refine (sameH_self _ _ _ _ HSX.out HY.out.rin).mono ?_; rintro e w' ⟨rfl, hb⟩; obtain ⟨d1, os1, rfl⟩ := more_of hb; clear hb
  go_wp2_with fail
  refine (same_any _ _ l1 l1 _ (A5.out _ (by repeat' (first | (with_reducible exact Below.refl _ _) | (with_reducible assumption) | (with_reducible refine below_drewN ?_ _) | (with_reducible refine below_more _ _ _ ?_ ?_) | (with_reducible refine Below.alloc ?_ ?_ _) | (with_reducible refine Below.drew ?_) | (with_reducible refine Below.setCell ?_ ?_ _) | go_size))) (K1.out _ (by repeat' (first | (with_reducible exact Below.refl _ _) | (with_reducible assumption) | (with_reducible refine below_drewN ?_ _) | (with_reducible refine below_more _ _ _ ?_ ?_) | (with_reducible refine Below.alloc ?_ ?_ _) | (with_reducible refine Below.drew ?_) | (with_reducible refine Below.setCell ?_ ?_ _) | go_size)))).mono ?_
  rw [decide_eq_true rfl]; rintro e w' ⟨rfl, hb⟩; obtain ⟨d2, os2, rfl⟩ := more_of hb; clear hb
  go_wp2_with fail
  refine (same_any _ _ l2 l2 _ (B5.out _ (by repeat' (first | (with_reducible exact Below.refl _ _) | (with_reducible assumption) | (with_reducible refine below_drewN ?_ _) | (with_reducible refine below_more _ _ _ ?_ ?_) | (with_reducible refine Below.alloc ?_ ?_ _) | (with_reducible refine Below.drew ?_) | (with_reducible refine Below.setCell ?_ ?_ _) | go_size))) (K2.out _ (by repeat' (first | (with_reducible exact Below.refl _ _) | (with_reducible assumption) | (with_reducible refine below_drewN ?_ _) | (with_reducible refine below_more _ _ _ ?_ ?_) | (with_reducible refine Below.alloc ?_ ?_ _) | (with_reducible refine Below.drew ?_) | (with_reducible refine Below.setCell ?_ ?_ _) | go_size)))).mono ?_
  rw [decide_eq_true rfl]; rintro e w' ⟨rfl, hb⟩; obtain ⟨d3, os3, rfl⟩ := more_of hb; clear hb
  go_wp2_with (go_at_call 17; refine (awake14 _).mono ?_; rintro e w' ⟨rfl, hb⟩; obtain ⟨d, os, rfl⟩ := more_of hb; clear hb)
  go_ret
  have b8 : Below w5.heap.size w5 (more (more (more (more w7 d1 os1) d2 os2) d3 os3) d os) := (by repeat' (first | (with_reducible exact Below.refl _ _) | (with_reducible assumption) | (with_reducible refine below_drewN ?_ _) | (with_reducible refine below_more _ _ _ ?_ ?_) | (with_reducible refine Below.alloc ?_ ?_ _) | (with_reducible refine Below.drew ?_) | (with_reducible refine Below.setCell ?_ ?_ _) | go_size))
  exact ⟨rfl, HB5.out.trans (b8.mono HB5.out.size)⟩

set_option maxRecDepth 100000 in
theorem lifted (os : Os) (started : os.Started) (H : Type) (enc : TypeId × Value → H) :
    ReturnsInHanded {} Try.checked os 3 .any (Rows.systemsHitsSpec.pre6 enc Try.prog Try.f3 Rows.systemsHitsRow.domain false) (Rows.systemsHitsSpec.post enc Try.prog Try.f3 false true false false) := by
  refine returnsInHanded_of_change (C := Try.checked) ownKnob0 started (by kernel_rfl) Try.func3
    (ChangeSpec.witness6 (enc := enc) (C := Try.checked) false ⟨#[], #[.int .i64 0, .slice none 0 0, .slice none 0 0], []⟩ 8 (by kernel_rfl) (by kernel_rfl) (by kernel_rfl) (by kernel_rfl)) ?_
  intro W base args ds gs before hval0 hW _ _
  have hval : ∀ (j : Nat) t v, Try.f3.params[j]? = some t → args[j]? = some v → Value.okWide Try.prog W .any base t v := hval0
  have hread : ∀ t ∈ Try.f3.params.toList, Try.prog.readableRec t = true ∧ t < Try.prog.types.size := by
    rw [Try.params3]
    intro t ht
    simp only [List.mem_cons, List.not_mem_nil, or_false] at ht
    rcases ht with rfl | rfl | rfl
    all_goals exact ⟨by kernel_rfl, of_decide_eq_true (by kernel_rfl)⟩
  have hW' := hW
  obtain ⟨p, q, hA0, hV, -, -⟩ := hW'
  have hA : DataW.TrodAll enc Try.prog W 0 (fun _ => true) true Try.f3.params.toList args.toList ds p := hA0
  rw [Try.params3] at hA hval
  obtain ⟨v0, vs0, d0, ds0, p0, q0, hargs, rfl, rfl, h0, r0⟩ := trodAll_cons hA
  obtain ⟨v1, vs1, d1, ds1, p1, q1, rfl, rfl, rfl, h1, r1⟩ := trodAll_cons r0
  obtain ⟨v2, vs2, d2, ds2, p2, q2, rfl, rfl, rfl, h2, r2⟩ := trodAll_cons r1
  obtain ⟨rfl, rfl, rfl⟩ := trodAll_nil r2
  obtain rfl : args = #[v0, v1, v2] := by cases args; simp_all
  obtain ⟨rfl, rfl⟩ := trodVars_none hV
  have k0 := hval 0 3 v0 rfl rfl
  have k1 := hval 1 22 v1 rfl rfl
  have k2 := hval 2 22 v2 rfl rfl
  clear hval hval0 hA0 hV hA
  obtain ⟨r, rfl, rfl, rfl, _⟩ := open_int Try.underlying3 k0 h0
  obtain ⟨l1, hl1, hf1⟩ := buns_in k1 h1
  obtain ⟨l2, hl2, hf2⟩ := buns_in k2 h2
  exact (walk r _ _ l1 l2 W hl1 hl2 hf1 hf2).mono fun e W' ⟨he, hb⟩ => ⟨_, he, post_true rfl rfl hread rfl hW hb⟩

/-- SystemsHits: true for every input; the arguments stay. -/
theorem proved : Rows.SystemsHitsSaid :=
  OpenClaim.holds_of_wide 3 Try.f3 rfl rfl rfl rfl rfl rfl rfl ⟨rfl, rfl, rfl, rfl, rfl⟩ rfl rfl rfl rfl rfl (by kernel_rfl) Try.func3 (by kernel_rfl)
    (of_decide_eq_true (by kernel_rfl)) (by unfold Func.isWrapper; first | (rw [if_pos (by decide +kernel)]; kernel_rfl) | (rw [if_neg (by decide +kernel)]; exact ⟨rfl, rfl⟩))
    (fun os started H enc _ => lifted os started H enc)
end Go.Proofs.Ytloampfkjldmnaa.systemsHits
