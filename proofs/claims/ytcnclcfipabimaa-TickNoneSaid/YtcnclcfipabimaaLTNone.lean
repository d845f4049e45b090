/-
  TickNone: for every case the law returns true, and the argument stays as it was. No condition.
-/
import Derived.Test.YtcnclcfipabimaaTwA
import Derived.Test.YtcnclcfipabimaaTwB
import Derived.Test.YtcnclcfipabimaaTwC
namespace Go.Proofs.Ytcnclcfipabimaa.tickNone
open Go.ChangeShapes Go.WideShapes Go.ChangeAt Go.RowKit

theorem same_nil15 (w : World) : Calls Try.prog 47 #[.agg #[.slice none 0 0, .slice none 0 0, .slice none 0 0], .agg #[.slice none 0 0, .slice none 0 0, .slice none 0 0]] w fun e w' => e = .returned (.bool true) ∧ Below w.heap.size w w' :=
  same15 _ _ _ _ _ _ [] [] [] w (rin_zero (enc := bunL) _) (rin_zero (enc := bunL) _) (rin_zero _) (rin_zero (enc := bunL) _) (rin_zero (enc := bunL) _) (rin_zero _)
set_option maxRecDepth 100000 in
set_option maxHeartbeats 4000000 in
theorem walk (cols rows side radius speed ids queue z : Int) (po pn pc : Option Addr) (eo en ec : Nat) (own near : List Bun) (ms : List Cm) (w : World) (h1 : BIn w (.slice po own.length eo) own) (h2 : BIn w (.slice pn near.length en) near) (h3 : RIn cmC w (.slice pc ms.length ec) ms) :
    Calls Try.prog 15 #[.agg #[.int .i64 cols, .int .i64 rows, .int .i64 side, .int .i64 radius, .int .i64 speed, .int .i64 ids, .int .i64 queue, .int .i64 z, .slice po own.length eo, .slice pn near.length en, .slice pc ms.length ec]] w fun e w' => e = .returned (.bool true) ∧ Below w.heap.size w w' := by
  have HF := Lib.hid (fun W (hW : Below w.heap.size w W) => few15 cols rows side radius speed ids queue z po pn pc eo en ec own near ms W (h1.keep hW) (h2.keep hW) (h3.keep hW))
  have ho := mayF_ok ⟨cols, rows, side, radius, speed, ids, queue⟩
  generalize mayF ⟨cols, rows, side, radius, speed, ids, queue⟩ = d at *
  obtain ⟨dcols, drows, dside, dradius, dspeed, dids, dqueue⟩ := d
  have HO := Lib.hid ho
  simp only at HF
  generalize (own.take 40).length = ko at *
  generalize (near.take 40).length = kn at *
  generalize (ms.take 40).length = kc at *
  clear ho h1 h2 h3
  go_enter Try.func15, Try.ntmps15
  go_wp2_with fail
  refine (HF.out _ (by repeat' (first | (with_reducible exact Below.refl _ _) | (with_reducible assumption) | (with_reducible refine below_drewN ?_ _) | (with_reducible refine below_more _ _ _ ?_ ?_) | (with_reducible refine Below.alloc ?_ ?_ _) | (with_reducible refine Below.drew ?_) | (with_reducible refine Below.setCell ?_ ?_ _) | go_size))).mono ?_; rintro e w' ⟨rfl, hb⟩; obtain ⟨d1, os1, rfl⟩ := more_of hb; clear hb
  go_wp2_with fail
  refine (znew_ok dcols drows dside dradius dspeed dids dqueue _ HO.out).mono ?_
  rintro e w2 ⟨b, rfl, hb2, hmap, hbb⟩
  have cC : ∀ j, w2.cell? ⟨w.heap.size, j, none⟩ = (#[.int .i64 dcols, .int .i64 drows, .int .i64 dside, .int .i64 dradius, .int .i64 dspeed, .int .i64 dids, .int .i64 dqueue, .int .i64 z, .slice po ko eo, .slice pn kn en, .slice pc kc ec] : Array Value)[j]? := fun j => by rw [hb2.cell (by simp; omega)]; simp [go_sem]
  have l2 : w.heap.size < w2.heap.size := by have := hb2.size; simp at this; omega
  have hb2w : Below w.heap.size w w2 := Below.trans (Below.mono (B := w.heap.size) (by repeat' (first | (with_reducible exact Below.refl _ _) | (with_reducible assumption) | (with_reducible refine below_drewN ?_ _) | (with_reducible refine below_more _ _ _ ?_ ?_) | (with_reducible refine Below.alloc ?_ ?_ _) | (with_reducible refine Below.drew ?_) | (with_reducible refine Below.setCell ?_ ?_ _) | go_size)) (Nat.le_refl _)) (hb2.mono (by simp; omega))
  have HB2 := Lib.hid hb2w
  have HMP := Lib.hid hmap
  have q7 := cC 7; simp at q7; have q8 := cC 8; simp at q8; have q9 := cC 9; simp at q9; have q10 := cC 10; simp at q10
  obtain ⟨f0, f1, f2⟩ := ltz l2
  clear hb2 hmap hbb hb2w cC
  go_wp2_with fail
  refine (prun_nil _ _ _ _ _).mono ?_; rintro e w' ⟨rfl, hb⟩; obtain ⟨d2, os2, rfl⟩ := more_of hb; clear hb
  go_upto_region 4 with fail
  have hb3 : Below w2.heap.size w2 ((more w2 d2 os2).alloc (.cells #[.slice none 0 0, .slice none 0 0, .slice none 0 0] 82)) := (by repeat' (first | (with_reducible exact Below.refl _ _) | (with_reducible assumption) | (with_reducible refine below_drewN ?_ _) | (with_reducible refine below_more _ _ _ ?_ ?_) | (with_reducible refine Below.alloc ?_ ?_ _) | (with_reducible refine Below.drew ?_) | (with_reducible refine Below.setCell ?_ ?_ _) | go_size))
  obtain ⟨k5, g5, s5, b5⟩ := new_box (more w2 d2 os2) #[.slice none 0 0, .slice none 0 0, .slice none 0 0] 82 (w2.heap.size + os2.size) (by simp)
  have HM3 := Lib.hid (HMP.out.grow hb3)
  have HB3 := Lib.hid (HB2.out.trans (hb3.mono HB2.out.size))
  replace q7 := (hb3.cell (p := ⟨w.heap.size, 7, none⟩) l2).trans q7; replace q8 := (hb3.cell (p := ⟨w.heap.size, 8, none⟩) l2).trans q8; replace q9 := (hb3.cell (p := ⟨w.heap.size, 9, none⟩) l2).trans q9; replace q10 := (hb3.cell (p := ⟨w.heap.size, 10, none⟩) l2).trans q10
  replace l2 := Nat.lt_of_lt_of_le l2 hb3.size
  have K5 := Lib.hid k5
  clear f0 f1 f2 k5 g5 b5 hb3
  generalize ((more w2 d2 os2).alloc (.cells #[.slice none 0 0, .slice none 0 0, .slice none 0 0] 82)) = w3 at *
  generalize w2.heap.size + os2.size = n5 at *
  obtain ⟨f0, f1, f2⟩ := ltz l2
  obtain ⟨f3, f4, f5⟩ := ltz s5
  have HCN := Lib.hid (fun W (hW : Below w3.heap.size w3 W) => zcount_any W b _ (HM3.out.grow hW) HO.out)
  have HRH := Lib.hid (fun vo vn vc W (hW : Below w3.heap.size w3 W) => prun_high b _ (dcols * drows) vo vn vc W (HM3.out.grow hW) HO.out (Int.le_refl _))
  simp only at HCN HRH
  go_upto_region 4 with fail
  go_cut [6] (fun sq wx => Boxed (w3) (w3.heap.size) #[.slice none 0 0, .slice none 0 0, .slice none 0 0] 82 sq wx)
  case first =>
    go_region_held3 (fun W => (w3).heap.size ≤ W.heap.size ∧ ∀ b o, b < (w3).heap.size → W.cell? ⟨b, o, none⟩ = (w3).cell? ⟨b, o, none⟩) (with_reducible (repeat (first | assumption | exact s_refl _ | exact s_id _ | refine s_more _ _ ?_ | refine s_alloc _ ?_ | refine s_drew ?_))) (first | (go_at_call 49; refine (HCN.out _ (by repeat' (first | (with_reducible exact Below.refl _ _) | (with_reducible assumption) | (with_reducible refine below_drewN ?_ _) | (with_reducible refine below_more _ _ _ ?_ ?_) | (with_reducible refine Below.alloc ?_ ?_ _) | (with_reducible refine Below.drew ?_) | (with_reducible refine Below.setCell ?_ ?_ _) | go_size))).mono ?_; rintro e w' ⟨rfl, hb⟩; obtain ⟨d3, os3, rfl⟩ := more_of hb; clear hb) | (go_at_call 43; refine (HRH.out _ _ _ _ (by repeat' (first | (with_reducible exact Below.refl _ _) | (with_reducible assumption) | (with_reducible refine below_drewN ?_ _) | (with_reducible refine below_more _ _ _ ?_ ?_) | (with_reducible refine Below.alloc ?_ ?_ _) | (with_reducible refine Below.drew ?_) | (with_reducible refine Below.setCell ?_ ?_ _) | go_size))).mono ?_; rintro e w' ⟨rfl, hb⟩; obtain ⟨d4, os4, rfl⟩ := more_of hb; clear hb))
    all_goals (go_wp2_with fail; go_meet; ((with_reducible (repeat (first | exact grew_refl _ | exact grew_redrawn _ _ _ _ | refine boxed_drew ?_ | refine boxed_more _ _ ?_ | refine boxed_end ?_ ?_ ?_ | refine grew_more _ _ ?_ | refine grew_drew ?_))); (all_goals (try simp))))
  obtain ⟨db4, ob4, dc4, oc4, rfl, rfl⟩ := hcut
  obtain ⟨k6, g6, s6, b6⟩ := new_box (more w3 db4 ob4) #[.slice none 0 0, .slice none 0 0, .slice none 0 0] 82 (w3.heap.size + ob4.size) (by simp)
  have hm6 := more_below ((more w3 db4 ob4).alloc (.cells #[.slice none 0 0, .slice none 0 0, .slice none 0 0] 82)) dc4 oc4
  have hb4 : Below w3.heap.size w3 (more ((more w3 db4 ob4).alloc (.cells #[.slice none 0 0, .slice none 0 0, .slice none 0 0] 82)) dc4 oc4) := (by repeat' (first | (with_reducible exact Below.refl _ _) | (with_reducible assumption) | (with_reducible refine below_drewN ?_ _) | (with_reducible refine below_more _ _ _ ?_ ?_) | (with_reducible refine Below.alloc ?_ ?_ _) | (with_reducible refine Below.drew ?_) | (with_reducible refine Below.setCell ?_ ?_ _) | go_size))
  replace k6 := box_on hm6 s6 k6
  replace s6 := Nat.lt_of_lt_of_le s6 hm6.size
  have HM4 := Lib.hid (HM3.out.grow hb4)
  have HB4 := Lib.hid (HB3.out.trans (hb4.mono HB3.out.size))
  have k5 := box_on hb4 s5 K5.out
  replace q7 := (hb4.cell (p := ⟨w.heap.size, 7, none⟩) l2).trans q7; replace q8 := (hb4.cell (p := ⟨w.heap.size, 8, none⟩) l2).trans q8; replace q9 := (hb4.cell (p := ⟨w.heap.size, 9, none⟩) l2).trans q9; replace q10 := (hb4.cell (p := ⟨w.heap.size, 10, none⟩) l2).trans q10
  replace l2 := Nat.lt_of_lt_of_le l2 hb4.size
  replace s5 := Nat.lt_of_lt_of_le s5 hb4.size
  have x0 := k5 0; simp at x0; have y0 := k6 0; simp at y0; have x1 := k5 1; simp at x1; have y1 := k6 1; simp at y1; have x2 := k5 2; simp at x2; have y2 := k6 2; simp at y2
  clear k5 k6 g6 b6 hm6 hb4 f0 f1 f2 f3 f4 f5 HCN HRH HF HM3 HB3 K5
  generalize more ((more w3 db4 ob4).alloc (.cells #[.slice none 0 0, .slice none 0 0, .slice none 0 0] 82)) dc4 oc4 = w4 at *
  generalize w3.heap.size + ob4.size = n6 at *
  obtain ⟨f0, f1, f2⟩ := ltz l2
  obtain ⟨f3, f4, f5⟩ := ltz s5
  obtain ⟨f6, f7, f8⟩ := ltz s6
  go_wp2_with fail
  refine (prun_low b (-2) _ _ _ _ (by omega)).mono ?_; rintro e w' ⟨rfl, hb⟩; obtain ⟨d5, os5, rfl⟩ := more_of hb; clear hb
  go_wp2_with fail
  refine (same_nil15 _).mono ?_; rintro e w' ⟨rfl, hb⟩; obtain ⟨d6, os6, rfl⟩ := more_of hb; clear hb
  go_wp2_with fail
  refine (same_nil15 _).mono ?_; rintro e w' ⟨rfl, hb⟩; obtain ⟨d7, os7, rfl⟩ := more_of hb; clear hb
  go_wp2_with fail
  refine (same_nil15 _).mono ?_; rintro e w' ⟨rfl, hb⟩; obtain ⟨d8, os8, rfl⟩ := more_of hb; clear hb
  go_wp2_with (go_at_call 45; refine (awake15 _).mono ?_; rintro e w' ⟨rfl, hb⟩; obtain ⟨d, os, rfl⟩ := more_of hb; clear hb)
  go_ret
  exact ⟨rfl, HB4.out.trans (Below.mono (B := w4.heap.size) (by repeat' (first | (with_reducible exact Below.refl _ _) | (with_reducible assumption) | (with_reducible refine below_drewN ?_ _) | (with_reducible refine below_more _ _ _ ?_ ?_) | (with_reducible refine Below.alloc ?_ ?_ _) | (with_reducible refine Below.drew ?_) | (with_reducible refine Below.setCell ?_ ?_ _) | go_size)) HB4.out.size)⟩
set_option maxRecDepth 100000 in
theorem lifted (os : Os) (started : os.Started) (H : Type) (enc : TypeId × Value → H) :
    ReturnsInHanded {} Try.checked os 15 .any (Rows.tickNoneSpec.pre6 enc Try.prog Try.f15 Rows.tickNoneRow.domain false) (Rows.tickNoneSpec.post enc Try.prog Try.f15 false true false false) := by
  refine returnsInHanded_of_change (C := Try.checked) ownKnob0 started (by kernel_rfl) Try.func15
    (ChangeSpec.witness6 (enc := enc) (C := Try.checked) false ⟨#[], #[.agg #[.int .i64 0, .int .i64 0, .int .i64 0, .int .i64 0, .int .i64 0, .int .i64 0, .int .i64 0, .int .i64 0, .slice none 0 0, .slice none 0 0, .slice none 0 0]], []⟩ 8 (by kernel_rfl) (by kernel_rfl) (by kernel_rfl) (by kernel_rfl)) ?_
  intro W base args ds gs before hval0 hW _ _
  have hval : ∀ (j : Nat) t v, Try.f15.params[j]? = some t → args[j]? = some v → Value.okWide Try.prog W .any base t v := hval0
  have hread : ∀ t ∈ Try.f15.params.toList, Try.prog.readableRec t = true ∧ t < Try.prog.types.size := by
    rw [Try.params15]
    intro t ht
    simp only [List.mem_cons, List.not_mem_nil, or_false] at ht
    rcases ht with rfl
    all_goals exact ⟨by kernel_rfl, of_decide_eq_true (by kernel_rfl)⟩
  have hW' := hW
  obtain ⟨p, q, hA0, hV, -, -⟩ := hW'
  have hA : DataW.TrodAll enc Try.prog W 0 (fun _ => true) true Try.f15.params.toList args.toList ds p := hA0
  rw [Try.params15] at hA hval
  obtain ⟨v0, vs0, d0, ds0, p0, q0, hargs, rfl, rfl, h0, r0⟩ := trodAll_cons hA
  obtain ⟨rfl, rfl, rfl⟩ := trodAll_nil r0
  obtain rfl : args = #[v0] := by cases args; simp_all
  obtain ⟨rfl, rfl⟩ := trodVars_none hV
  have k0 := hval 0 87 v0 rfl rfl
  clear hval hval0 hA0 hV hA
  obtain ⟨cc, fuel0, rfl, g0⟩ := agg_of Try.underlying87 k0 h0
  obtain ⟨zcols, zrows, zside, zradius, zspeed, zids, zqueue, zz, po, pn, pc, eo, en, ec, own, near, ms, e0, b1, b2, b3, _, _, _, _⟩ := read_case15 g0
  subst e0
  exact (walk _ _ _ _ _ _ _ _ po pn pc eo en ec own near ms W b1 b2 b3).mono fun e W' ⟨he, hb⟩ => ⟨_, he, post_true rfl rfl hread rfl hW hb⟩

/-- TickNone: true for every input; the arguments stay. -/
theorem proved : Rows.TickNoneSaid :=
  OpenClaim.holds_of_wide 15 Try.f15 rfl rfl rfl rfl rfl rfl rfl ⟨rfl, rfl, rfl, rfl, rfl⟩ rfl rfl rfl rfl rfl (by kernel_rfl) Try.func15 (by kernel_rfl)
    (of_decide_eq_true (by kernel_rfl)) (by unfold Func.isWrapper; first | (rw [if_pos (by decide +kernel)]; kernel_rfl) | (rw [if_neg (by decide +kernel)]; exact ⟨rfl, rfl⟩))
    (fun os started H enc _ => lifted os started H enc)
end Go.Proofs.Ytcnclcfipabimaa.tickNone
