/-
  GhostsFor: for every world, zone and entities the law returns true, and the arguments stay as they were. No condition.
-/
import Derived.Test.YtcnclcfipabimaaMgd
import Derived.Test.YtcnclcfipabimaaSoO
import Derived.Test.YtcnclcfipabimaaSyF
import Derived.Test.YtcnclcfipabimaaRdC
import Derived.Test.YtcnclcfipabimaaSoP
namespace Go.Proofs.Ytcnclcfipabimaa.ghostsFor
open Go.ChangeShapes Go.WideShapes Go.ChangeAt Go.RowKit

theorem sl_emptyN (W : World) (n : Nat) (hn : n = W.heap.size) : Sl (W.alloc (.cells #[] 41)) 41 11 (.slice (some ⟨n, 0, none⟩) 0 0) 0 [] := by subst hn; exact sl_empty W
def forR (c : Cfg) (k : Int) (l : List Bun) : List Bun := if 0 ≤ k ∧ k < c.cols * c.rows then forF c k l else []
theorem for_any (w : World) (b : Nat) (c : Cfg) (k : Int) (v : Value) (l : List Bun) (h : MapAt w b c) (ho : CfgOk c) (hl : BIn w v l) (hn : l.length ≤ 1000) :
    Calls Try.prog 21 #[.pointer (some ⟨b, 0, none⟩), .int .i64 k, v] w fun e w' => ∃ v', e = .returned v' ∧ BNew w w' v' (forR c k l) := by
  unfold forR
  by_cases hk : 0 ≤ k ∧ k < c.cols * c.rows
  · rw [if_pos hk]; exact for_in w b c k v l h ho hk.1 hk.2 hl hn
  · rw [if_neg hk]; exact for_out w b c k v h ho hk
theorem rfor_any (dcols drows dside dradius dspeed dids dqueue : Int) (k : Int) (v : Value) (l : List Bun) (w : World) (ho : CfgOk ⟨dcols, drows, dside, dradius, dspeed, dids, dqueue⟩) (hl : BIn w v l) (hn : l.length ≤ 1000) :
    Calls Try.prog 22 #[.agg #[.int .i64 dcols, .int .i64 drows, .int .i64 dside, .int .i64 dradius, .int .i64 dspeed, .int .i64 dids, .int .i64 dqueue], .int .i64 k, v] w fun e w' => ∃ v', e = .returned v' ∧ BNew w w' v' (forR ⟨dcols, drows, dside, dradius, dspeed, dids, dqueue⟩ k l) := by
  unfold forR
  by_cases hk : 0 ≤ k ∧ k < dcols * drows
  · rw [if_pos hk]; exact rfor_in dcols drows dside dradius dspeed dids dqueue k v l w ho hk.1 hk.2 hl hn
  · rw [if_neg hk]; exact rfor_out dcols drows dside dradius dspeed dids dqueue k v w ho hk

set_option maxRecDepth 100000 in
set_option maxHeartbeats 4000000 in
theorem walk (cols rows side radius speed ids queue k : Int) (v : Value) (l : List Bun) (w : World) (hl : BIn w v l) :
    Calls Try.prog 3 #[.agg #[.int .i64 cols, .int .i64 rows, .int .i64 side, .int .i64 radius, .int .i64 speed, .int .i64 ids, .int .i64 queue], .int .i64 k, v] w fun e w' => e = .returned (.bool true) ∧ Below w.heap.size w w' := by
  have HMay := Lib.hid (fun W => may_any cols rows side radius speed ids queue W)
  have ho := mayF_ok ⟨cols, rows, side, radius, speed, ids, queue⟩
  generalize mayF ⟨cols, rows, side, radius, speed, ids, queue⟩ = d at *
  obtain ⟨dcols, drows, dside, dradius, dspeed, dids, dqueue⟩ := d
  have HO := Lib.hid ho
  have hlen : (l.take 50).length ≤ 50 := by simp; omega
  have HFW := Lib.hid (fun W (hW : Below w.heap.size w W) => few22_any v l W (hl.keep hW))
  generalize l.take 50 = l0 at *
  clear ho hl
  go_enter Try.func3, Try.ntmps3
  go_wp2_with (go_at_call 17; refine (HMay.out _).mono ?_; rintro e w' ⟨rfl, hb⟩; obtain ⟨d, os, rfl⟩ := more_of hb; clear hb)
  refine (znew_ok dcols drows dside dradius dspeed dids dqueue _ HO.out).mono ?_
  rintro e w2 ⟨b, rfl, hb2, hmap, hbb⟩
  have cC : ∀ j, w2.cell? ⟨w.heap.size, j, none⟩ = (#[.int .i64 dcols, .int .i64 drows, .int .i64 dside, .int .i64 dradius, .int .i64 dspeed, .int .i64 dids, .int .i64 dqueue] : Array Value)[j]? := fun j => by rw [hb2.cell (by simp; omega)]; simp [go_sem]
  have l1 : w.heap.size < w2.heap.size := by have := hb2.size; simp at this; omega
  have hb2w : Below w.heap.size w w2 := Below.trans (Below.mono (B := w.heap.size) (by repeat' (first | (with_reducible exact Below.refl _ _) | (with_reducible assumption) | (with_reducible refine below_drewN ?_ _) | (with_reducible refine below_more _ _ _ ?_ ?_) | (with_reducible refine Below.alloc ?_ ?_ _) | (with_reducible refine Below.drew ?_) | (with_reducible refine Below.setCell ?_ ?_ _) | go_size)) (Nat.le_refl _)) (hb2.mono (by simp; omega))
  have HB2 := Lib.hid hb2w
  have HMP := Lib.hid hmap
  clear hb2 hmap hb2w hbb
  go_wp2_with fail
  refine (HFW.out _ HB2.out).mono ?_
  rintro e w' ⟨⟨vl, rfl, hl⟩, rfl⟩
  have HL := Lib.hid hl
  obtain ⟨pl, cl, rfl, _⟩ := hl
  clear HFW
  go_wp2_with (at_builtin; refine wpList_append_bin _ (by rfl) _ _ (by rfl) _ _ l0 (by rfl) (sl_emptyN _ _ (by simp)) (by rfl) (HL.out.keep (by repeat' (first | (with_reducible exact Below.refl _ _) | (with_reducible assumption) | (with_reducible refine below_drewN ?_ _) | (with_reducible refine below_more _ _ _ ?_ ?_) | (with_reducible refine Below.alloc ?_ ?_ _) | (with_reducible refine Below.drew ?_) | (with_reducible refine Below.setCell ?_ ?_ _) | go_size))) (by omega) ?_; intro vo w3 hs ht ho; have hn := bnew_of _ (by simp [Value.ownBlock]) (by simpa using hs) ht ho; have HN := Lib.hid hn; clear hs ht ho hn)
  obtain ⟨po, co, hpo⟩ := sl_frm HN.out.1
  subst hpo
  have hb3 := HN.out.2.1
  have HM3 := Lib.hid (HMP.out.grow hb3)
  have HL3 := Lib.hid (HL.out.keep hb3)
  have HN3 := Lib.hid HN.out.bin
  have q0 := (hb3.cell (p := ⟨w.heap.size, 0, none⟩) l1).trans (cC 0); simp at q0; have q1 := (hb3.cell (p := ⟨w.heap.size, 1, none⟩) l1).trans (cC 1); simp at q1; have q2 := (hb3.cell (p := ⟨w.heap.size, 2, none⟩) l1).trans (cC 2); simp at q2; have q3 := (hb3.cell (p := ⟨w.heap.size, 3, none⟩) l1).trans (cC 3); simp at q3; have q4 := (hb3.cell (p := ⟨w.heap.size, 4, none⟩) l1).trans (cC 4); simp at q4; have q5 := (hb3.cell (p := ⟨w.heap.size, 5, none⟩) l1).trans (cC 5); simp at q5; have q6 := (hb3.cell (p := ⟨w.heap.size, 6, none⟩) l1).trans (cC 6); simp at q6
  have l3 : w.heap.size < w3.heap.size := by have := hb3.size; omega
  have HB3 := Lib.hid (HB2.out.trans (hb3.mono HB2.out.size))
  have HFO := Lib.hid (fun W (hW : Below w3.heap.size w3 W) => for_any W b ⟨dcols, drows, dside, dradius, dspeed, dids, dqueue⟩ k _ l0 (HM3.out.grow hW) HO.out (HN3.out.keep hW) (by omega))
  have HRF := Lib.hid (fun W (hW : Below w3.heap.size w3 W) => rfor_any dcols drows dside dradius dspeed dids dqueue k _ l0 W HO.out (HL3.out.keep hW) (by omega))
  have HS2 := Lib.hid (fun W (hW : Below w3.heap.size w3 W) => same_any _ _ l0 l0 W (HN3.out.keep hW) (HL3.out.keep hW))
  rw [decide_eq_true rfl] at HS2
  generalize forR ⟨dcols, drows, dside, dradius, dspeed, dids, dqueue⟩ k l0 = lf at *
  have HS1 := Lib.hid (fun va vb W h1 h2 => same_any va vb lf lf W h1 h2)
  rw [decide_eq_true rfl] at HS1
  clear hb3 HN HM3 HMP HL3 HL HB2 cC
  go_upto_region 5 with fail
  go_region_held3 (fun W => (w3).heap.size ≤ W.heap.size ∧ ∀ b o, b < (w3).heap.size → W.cell? ⟨b, o, none⟩ = (w3).cell? ⟨b, o, none⟩) (with_reducible (repeat (first | assumption | exact s_refl _ | exact s_id _ | refine s_more _ _ ?_ | refine s_alloc _ ?_ | refine s_drew ?_))) (first | (go_at_call 21; refine (HFO.out _ (by repeat' (first | (with_reducible exact Below.refl _ _) | (with_reducible assumption) | (with_reducible refine below_drewN ?_ _) | (with_reducible refine below_more _ _ _ ?_ ?_) | (with_reducible refine Below.alloc ?_ ?_ _) | (with_reducible refine Below.drew ?_) | (with_reducible refine Below.setCell ?_ ?_ _) | go_size))).mono ?_; rintro e w' ⟨v1, rfl, hF⟩; obtain ⟨d1, os1, rfl⟩ := more_of hF.2.1) | (go_at_call 22; refine (HRF.out _ (by repeat' (first | (with_reducible exact Below.refl _ _) | (with_reducible assumption) | (with_reducible refine below_drewN ?_ _) | (with_reducible refine below_more _ _ _ ?_ ?_) | (with_reducible refine Below.alloc ?_ ?_ _) | (with_reducible refine Below.drew ?_) | (with_reducible refine Below.setCell ?_ ?_ _) | go_size))).mono ?_; rintro e w' ⟨v2, rfl, hR⟩; obtain ⟨d2, os2, rfl⟩ := more_of hR.2.1) | (go_at_call 20; (with_reducible refine (HS2.out _ (by repeat' (first | (with_reducible exact Below.refl _ _) | (with_reducible assumption) | (with_reducible refine below_drewN ?_ _) | (with_reducible refine below_more _ _ _ ?_ ?_) | (with_reducible refine Below.alloc ?_ ?_ _) | (with_reducible refine Below.drew ?_) | (with_reducible refine Below.setCell ?_ ?_ _) | go_size))).mono ?_); rintro e w' ⟨rfl, hb⟩; obtain ⟨d3, os3, rfl⟩ := more_of hb) | (go_at_call 20; refine (HS1.out _ _ _ (hF.bin.keep (by repeat' (first | (with_reducible exact Below.refl _ _) | (with_reducible assumption) | (with_reducible refine below_drewN ?_ _) | (with_reducible refine below_more _ _ _ ?_ ?_) | (with_reducible refine Below.alloc ?_ ?_ _) | (with_reducible refine Below.drew ?_) | (with_reducible refine Below.setCell ?_ ?_ _) | go_size))) (hR.bin.keep (by repeat' (first | (with_reducible exact Below.refl _ _) | (with_reducible assumption) | (with_reducible refine below_drewN ?_ _) | (with_reducible refine below_more _ _ _ ?_ ?_) | (with_reducible refine Below.alloc ?_ ?_ _) | (with_reducible refine Below.drew ?_) | (with_reducible refine Below.setCell ?_ ?_ _) | go_size)))).mono ?_; rintro e w' ⟨rfl, hb⟩; obtain ⟨d3, os3, rfl⟩ := more_of hb) | (go_at_call 23; refine (awake22 _).mono ?_; rintro e w' ⟨rfl, hb⟩; obtain ⟨d5, os5, rfl⟩ := more_of hb))
  all_goals
    go_wp2_with fail
    go_ret
    exact ⟨rfl, HB3.out.trans (Below.mono (B := w3.heap.size) (by repeat' (first | (with_reducible exact Below.refl _ _) | (with_reducible assumption) | (with_reducible refine below_drewN ?_ _) | (with_reducible refine below_more _ _ _ ?_ ?_) | (with_reducible refine Below.alloc ?_ ?_ _) | (with_reducible refine Below.drew ?_) | (with_reducible refine Below.setCell ?_ ?_ _) | go_size)) HB3.out.size)⟩

set_option maxRecDepth 100000 in
theorem lifted (os : Os) (started : os.Started) (H : Type) (enc : TypeId × Value → H) :
    ReturnsInHanded {} Try.checked os 3 .any (Rows.ghostsForSpec.pre6 enc Try.prog Try.f3 Rows.ghostsForRow.domain false) (Rows.ghostsForSpec.post enc Try.prog Try.f3 false true false false) := by
  refine returnsInHanded_of_change (C := Try.checked) ownKnob0 started (by kernel_rfl) Try.func3
    (ChangeSpec.witness6 (enc := enc) (C := Try.checked) false ⟨#[], #[.agg #[.int .i64 0, .int .i64 0, .int .i64 0, .int .i64 0, .int .i64 0, .int .i64 0, .int .i64 0], .int .i64 0, .slice none 0 0], []⟩ 8 (by kernel_rfl) (by kernel_rfl) (by kernel_rfl) (by kernel_rfl)) ?_
  intro W base args ds gs before hval0 hW _ _
  have hval : ∀ (j : Nat) t v, Try.f3.params[j]? = some t → args[j]? = some v → Value.okWide Try.prog W .any base t v := hval0
  have hread : ∀ t ∈ Try.f3.params.toList, Try.prog.readableRec t = true ∧ t < Try.prog.types.size := by
    rw [Try.params3]
    intro t ht
    simp only [List.mem_cons, List.not_mem_nil, or_false] at ht
    rcases ht with rfl | rfl | rfl
    all_goals exact ⟨by kernel_rfl, of_decide_eq_true (by kernel_rfl)⟩
  have hW' := hW
  obtain ⟨p, q, hA0, hV, -, -⟩ := hW'
  have hA : DataW.TrodAll enc Try.prog W 0 (fun _ => true) true Try.f3.params.toList args.toList ds p := hA0
  rw [Try.params3] at hA hval
  obtain ⟨v0, vs0, d0, ds0, p0, q0, hargs, rfl, rfl, h0, r0⟩ := trodAll_cons hA
  obtain ⟨v1, vs1, d1, ds1, p1, q1, rfl, rfl, rfl, h1, r1⟩ := trodAll_cons r0
  obtain ⟨v2, vs2, d2, ds2, p2, q2, rfl, rfl, rfl, h2, r2⟩ := trodAll_cons r1
  obtain ⟨rfl, rfl, rfl⟩ := trodAll_nil r2
  obtain rfl : args = #[v0, v1, v2] := by cases args; simp_all
  obtain ⟨rfl, rfl⟩ := trodVars_none hV
  have k0 := hval 0 23 v0 rfl rfl
  have k1 := hval 1 3 v1 rfl rfl
  have k2 := hval 2 24 v2 rfl rfl
  clear hval hval0 hA0 hV hA
  obtain ⟨cc, fuel0, rfl, g0⟩ := agg_of Try.underlying23 k0 h0
  obtain ⟨zcols, zrows, zside, zradius, zspeed, zids, zqueue, rfl⟩ := read_cfg g0
  obtain ⟨z, rfl, rfl, rfl, _⟩ := open_int Try.underlying3 k1 h1
  obtain ⟨l, hl, _⟩ := buns_in k2 h2
  exact (walk _ _ _ _ _ _ _ z _ l W hl).mono fun e W' ⟨he, hb⟩ => ⟨_, he, post_true rfl rfl hread rfl hW hb⟩

/-- GhostsFor: true for every input; the arguments stay. -/
theorem proved : Rows.GhostsForSaid :=
  OpenClaim.holds_of_wide 3 Try.f3 rfl rfl rfl rfl rfl rfl rfl ⟨rfl, rfl, rfl, rfl, rfl⟩ rfl rfl rfl rfl rfl (by kernel_rfl) Try.func3 (by kernel_rfl)
    (of_decide_eq_true (by kernel_rfl)) (by unfold Func.isWrapper; first | (rw [if_pos (by decide +kernel)]; kernel_rfl) | (rw [if_neg (by decide +kernel)]; exact ⟨rfl, rfl⟩))
    (fun os started H enc _ => lifted os started H enc)
end Go.Proofs.Ytcnclcfipabimaa.ghostsFor
