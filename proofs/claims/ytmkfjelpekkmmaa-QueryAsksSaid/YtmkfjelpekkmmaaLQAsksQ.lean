/-
  QueryAsks: for all entities and every query the law returns true, and the arguments stay as they were. No condition.
-/
import Derived.Test.YtmkfjelpekkmmaaQ30
import Derived.Test.YtmkfjelpekkmmaaQ35
import Derived.Test.YtmkfjelpekkmmaaQ32
namespace Go.Proofs.Ytmkfjelpekkmmaa.queryAsks
open Go.ChangeShapes Go.WideShapes Go.ChangeAt Go.RowKit

theorem found_ask (qa qn : Int) (l : List Bun) : foundF qa qn (fun _ => true) l = askF qa qn l := by
  unfold foundF askF
  simp
theorem ask_len (qa qn : Int) (l : List Bun) : (askF qa qn l).length ≤ l.length := by unfold askF; rw [stableF_len]; exact List.length_filter_le _ _
set_option maxRecDepth 100000 in
set_option maxHeartbeats 4000000 in
theorem walk (v : Value) (l : List Bun) (qa qn : Int) (w : World) (hl : BIn w v l) (ha : I64 qa) :
    Calls Try.prog 9 #[v, .agg #[.int .i64 qa, .int .i64 qn]] w fun e w' => e = .returned (.bool true) ∧ Below w.heap.size w w' := by
  go_enter Try.func9, Try.ntmps9
  have HLI := Lib.hid (fun W (hW : Below w.heap.size w W) => made_open W v l (hl.keep hW))
  have hi := made_i64 l
  have hn := made_len l
  clear hl
  go_wp2_with fail
  generalize madeF l = L at *
  refine (HLI.out _ (by repeat' (first | (with_reducible exact Below.refl _ _) | (with_reducible assumption) | (with_reducible refine below_drewN ?_ _) | (with_reducible refine below_more _ _ _ ?_ ?_) | (with_reducible refine Below.alloc ?_ ?_ _) | (with_reducible refine Below.drew ?_) | (with_reducible refine Below.setCell ?_ ?_ _) | go_size))).mono ?_
  rintro e w1 ⟨p, pp, cc, rfl, hF, _, hB, hb⟩
  have b1 : Below w.heap.size w w1 := Below.trans (b := w.alloc (.cells #[.int .i64 qa, .int .i64 qn] 23)) (by repeat' (first | (with_reducible exact Below.refl _ _) | (with_reducible assumption) | (with_reducible refine below_drewN ?_ _) | (with_reducible refine below_more _ _ _ ?_ ?_) | (with_reducible refine Below.alloc ?_ ?_ _) | (with_reducible refine Below.drew ?_) | (with_reducible refine Below.setCell ?_ ?_ _) | go_size)) (hb.mono (by simp))
  have l1 : w.heap.size < w1.heap.size := by have := hb.size; simp at this; omega
  have a0 : w1.cell? ⟨w.heap.size, 0, none⟩ = some (.int .i64 qa) := (hb.cell (p := ⟨w.heap.size, 0, none⟩) (by simp)).trans (by simp [go_sem])
  have a1 : w1.cell? ⟨w.heap.size, 1, none⟩ = some (.int .i64 qn) := (hb.cell (p := ⟨w.heap.size, 1, none⟩) (by simp)).trans (by simp [go_sem])
  have HO := Lib.hid (rof12_any _ L w1 qa qn hB (by omega) ha hi)
  have HFF := Lib.hid hF
  have HB1 := Lib.hid b1
  clear hF hB hb hi HLI b1
  go_wp2_with fail
  refine HO.out.mono ?_
  rintro e w2 ⟨v2, rfl, hN⟩
  have b0 : w2.cell? ⟨w.heap.size, 0, none⟩ = some (.int .i64 qa) := (hN.2.1.cell (p := ⟨w.heap.size, 0, none⟩) l1).trans a0
  have b1 : w2.cell? ⟨w.heap.size, 1, none⟩ = some (.int .i64 qn) := (hN.2.1.cell (p := ⟨w.heap.size, 1, none⟩) l1).trans a1
  have l2 : w.heap.size < w2.heap.size := Nat.lt_of_lt_of_le l1 hN.2.1.size
  have HB2 := Lib.hid (HB1.out.trans (hN.2.1.mono HB1.out.size))
  have hF2 := HFF.out.grow hN.2.1
  have hlen : (askF qa qn L).length ≤ 60 := Nat.le_trans (ask_len _ _ _) hn
  have HI := Lib.hid (fun W (hW : Below w2.heap.size w2 W) => ids_any W _ L (hF2.grow hW) ⟨_, rfl⟩ qa qn)
  have HC := Lib.hid (fun W (hW : Below w2.heap.size w2 W) => count_any W _ L (hF2.grow hW) ⟨_, rfl⟩ qa qn)
  have HA := Lib.hid (fun W (hW : Below w2.heap.size w2 W) => all12_any W _ L qa qn 1000 (hF2.grow hW))
  rw [found_ask] at HI HC HA
  have he : allF 1000 (askF qa qn L) = askF qa qn L := by unfold allF; rw [if_neg (by omega)]; exact List.take_of_length_le (by omega)
  rw [he] at HA
  obtain ⟨p2, c2, rfl⟩ := sl_frm hN.1
  have HW := Lib.hid hN.bin
  generalize askF qa qn L = lf at *
  have HS := Lib.hid (fun va vb W h1 h2 => same_any va vb lf lf W h1 h2)
  rw [decide_eq_true rfl] at HS
  have HM := Lib.hid (fun W (hW : Below w2.heap.size w2 W) => rNames_any _ lf W (HW.out.keep hW) (by omega))
  clear hN HFF HB1 HO hF2 he a0 a1
  go_wp2_with (first
    | (go_at_call 26; refine (HI.out _ (by repeat' (first | (with_reducible exact Below.refl _ _) | (with_reducible assumption) | (with_reducible refine below_drewN ?_ _) | (with_reducible refine below_more _ _ _ ?_ ?_) | (with_reducible refine Below.alloc ?_ ?_ _) | (with_reducible refine Below.drew ?_) | (with_reducible refine Below.setCell ?_ ?_ _) | go_size))).mono ?_; rintro e w' ⟨v1, rfl, hX⟩; obtain ⟨d1, os1, rfl⟩ := more_of hX.2.1)
    | (go_at_call 22; refine (HM.out _ (by repeat' (first | (with_reducible exact Below.refl _ _) | (with_reducible assumption) | (with_reducible refine below_drewN ?_ _) | (with_reducible refine below_more _ _ _ ?_ ?_) | (with_reducible refine Below.alloc ?_ ?_ _) | (with_reducible refine Below.drew ?_) | (with_reducible refine Below.setCell ?_ ?_ _) | go_size))).mono ?_; rintro e w' ⟨v3, rfl, hZ⟩; obtain ⟨d3, os3, rfl⟩ := more_of hZ.2.1)
    | (go_at_call 20; refine (sameNd_self _ _ _ _ (hX.rin.keep (by repeat' (first | (with_reducible exact Below.refl _ _) | (with_reducible assumption) | (with_reducible refine below_drewN ?_ _) | (with_reducible refine below_more _ _ _ ?_ ?_) | (with_reducible refine Below.alloc ?_ ?_ _) | (with_reducible refine Below.drew ?_) | (with_reducible refine Below.setCell ?_ ?_ _) | go_size))) (hZ.rin.keep (by repeat' (first | (with_reducible exact Below.refl _ _) | (with_reducible assumption) | (with_reducible refine below_drewN ?_ _) | (with_reducible refine below_more _ _ _ ?_ ?_) | (with_reducible refine Below.alloc ?_ ?_ _) | (with_reducible refine Below.drew ?_) | (with_reducible refine Below.setCell ?_ ?_ _) | go_size)))).mono ?_; rintro e w' ⟨rfl, hb⟩; have hk := Below.trans (B := w2.heap.size) (a := w2) (by repeat' (first | (with_reducible exact Below.refl _ _) | (with_reducible assumption) | (with_reducible refine below_drewN ?_ _) | (with_reducible refine below_more _ _ _ ?_ ?_) | (with_reducible refine Below.alloc ?_ ?_ _) | (with_reducible refine Below.drew ?_) | (with_reducible refine Below.setCell ?_ ?_ _) | go_size)) (Below.mono (B' := w2.heap.size) hb (by first | (simp; done) | (simp; omega))); obtain ⟨d4, os4, rfl⟩ := more_of hk; clear hk; clear hb)
    | (go_at_call 29; refine (HC.out _ (by repeat' (first | (with_reducible exact Below.refl _ _) | (with_reducible assumption) | (with_reducible refine below_drewN ?_ _) | (with_reducible refine below_more _ _ _ ?_ ?_) | (with_reducible refine Below.alloc ?_ ?_ _) | (with_reducible refine Below.drew ?_) | (with_reducible refine Below.setCell ?_ ?_ _) | go_size))).mono ?_; rintro e w' ⟨rfl, hb⟩; have hk := Below.trans (B := w2.heap.size) (a := w2) (by repeat' (first | (with_reducible exact Below.refl _ _) | (with_reducible assumption) | (with_reducible refine below_drewN ?_ _) | (with_reducible refine below_more _ _ _ ?_ ?_) | (with_reducible refine Below.alloc ?_ ?_ _) | (with_reducible refine Below.drew ?_) | (with_reducible refine Below.setCell ?_ ?_ _) | go_size)) (Below.mono (B' := w2.heap.size) hb (by first | (simp; done) | (simp; omega))); obtain ⟨d5, os5, rfl⟩ := more_of hk; clear hk; clear hb)
    | (go_at_call 33; refine (HA.out _ (by repeat' (first | (with_reducible exact Below.refl _ _) | (with_reducible assumption) | (with_reducible refine below_drewN ?_ _) | (with_reducible refine below_more _ _ _ ?_ ?_) | (with_reducible refine Below.alloc ?_ ?_ _) | (with_reducible refine Below.drew ?_) | (with_reducible refine Below.setCell ?_ ?_ _) | go_size))).mono ?_; rintro e w' ⟨v6, rfl, hA⟩; obtain ⟨d6, os6, rfl⟩ := more_of hA.2.1)
    | (go_at_call 32; refine (HS.out _ _ _ (hA.bin.keep (by repeat' (first | (with_reducible exact Below.refl _ _) | (with_reducible assumption) | (with_reducible refine below_drewN ?_ _) | (with_reducible refine below_more _ _ _ ?_ ?_) | (with_reducible refine Below.alloc ?_ ?_ _) | (with_reducible refine Below.drew ?_) | (with_reducible refine Below.setCell ?_ ?_ _) | go_size))) (HW.out.keep (by repeat' (first | (with_reducible exact Below.refl _ _) | (with_reducible assumption) | (with_reducible refine below_drewN ?_ _) | (with_reducible refine below_more _ _ _ ?_ ?_) | (with_reducible refine Below.alloc ?_ ?_ _) | (with_reducible refine Below.drew ?_) | (with_reducible refine Below.setCell ?_ ?_ _) | go_size)))).mono ?_; rintro e w' ⟨rfl, hb⟩; have hk := Below.trans (B := w2.heap.size) (a := w2) (by repeat' (first | (with_reducible exact Below.refl _ _) | (with_reducible assumption) | (with_reducible refine below_drewN ?_ _) | (with_reducible refine below_more _ _ _ ?_ ?_) | (with_reducible refine Below.alloc ?_ ?_ _) | (with_reducible refine Below.drew ?_) | (with_reducible refine Below.setCell ?_ ?_ _) | go_size)) (Below.mono (B' := w2.heap.size) hb (by first | (simp; done) | (simp; omega))); obtain ⟨d7, os7, rfl⟩ := more_of hk; clear hk; clear hb)
    | (go_at_call 18; refine (awake12 _).mono ?_; rintro e w' ⟨rfl, hb⟩; have hk := Below.trans (B := w2.heap.size) (a := w2) (by repeat' (first | (with_reducible exact Below.refl _ _) | (with_reducible assumption) | (with_reducible refine below_drewN ?_ _) | (with_reducible refine below_more _ _ _ ?_ ?_) | (with_reducible refine Below.alloc ?_ ?_ _) | (with_reducible refine Below.drew ?_) | (with_reducible refine Below.setCell ?_ ?_ _) | go_size)) (Below.mono (B' := w2.heap.size) hb (by first | (simp; done) | (simp; omega))); obtain ⟨d8, os8, rfl⟩ := more_of hk; clear hk; clear hb))
  go_ret
  exact ⟨rfl, HB2.out.trans (Below.mono (B := w2.heap.size) (by repeat' (first | (with_reducible exact Below.refl _ _) | (with_reducible assumption) | (with_reducible refine below_drewN ?_ _) | (with_reducible refine below_more _ _ _ ?_ ?_) | (with_reducible refine Below.alloc ?_ ?_ _) | (with_reducible refine Below.drew ?_) | (with_reducible refine Below.setCell ?_ ?_ _) | go_size)) HB2.out.size)⟩

set_option maxRecDepth 100000 in
theorem lifted (os : Os) (started : os.Started) (H : Type) (enc : TypeId × Value → H) :
    ReturnsInHanded {} Try.checked os 9 .any (Rows.queryAsksSpec.pre6 enc Try.prog Try.f9 Rows.queryAsksRow.domain false) (Rows.queryAsksSpec.post enc Try.prog Try.f9 false true false false) := by
  refine returnsInHanded_of_change (C := Try.checked) ownKnob0 started (by kernel_rfl) Try.func9
    (ChangeSpec.witness6 (enc := enc) (C := Try.checked) false ⟨#[], #[.slice none 0 0, .agg #[.int .i64 0, .int .i64 0]], []⟩ 8 (by kernel_rfl) (by kernel_rfl) (by kernel_rfl) (by kernel_rfl)) ?_
  intro W base args ds gs before hval0 hW _ _
  have hval : ∀ (j : Nat) t v, Try.f9.params[j]? = some t → args[j]? = some v → Value.okWide Try.prog W .any base t v := hval0
  have hread : ∀ t ∈ Try.f9.params.toList, Try.prog.readableRec t = true ∧ t < Try.prog.types.size := by
    rw [Try.params9]
    intro t ht
    simp only [List.mem_cons, List.not_mem_nil, or_false] at ht
    rcases ht with rfl | rfl
    all_goals exact ⟨by kernel_rfl, of_decide_eq_true (by kernel_rfl)⟩
  have hW' := hW
  obtain ⟨p, q, hA0, hV, -, -⟩ := hW'
  have hA : DataW.TrodAll enc Try.prog W 0 (fun _ => true) true Try.f9.params.toList args.toList ds p := hA0
  rw [Try.params9] at hA hval
  obtain ⟨v0, vs0, d0, ds0, p0, q0, hargs, rfl, rfl, h0, r0⟩ := trodAll_cons hA
  obtain ⟨v1, vs1, d1, ds1, p1, q1, rfl, rfl, rfl, h1, r1⟩ := trodAll_cons r0
  obtain ⟨rfl, rfl, rfl⟩ := trodAll_nil r1
  obtain rfl : args = #[v0, v1] := by cases args; simp_all
  obtain ⟨rfl, rfl⟩ := trodVars_none hV
  have k0 := hval 0 29 v0 rfl rfl
  have k1 := hval 1 23 v1 rfl rfl
  clear hval hval0 hA0 hV hA
  obtain ⟨l, hl, _⟩ := buns_in k0 h0
  obtain ⟨cc, fuel1, rfl, g1⟩ := agg_of Try.underlying23 k1 h1
  obtain ⟨qa, qn, rfl, ia, _⟩ := read_query g1
  exact (walk _ l _ _ W hl ia).mono fun e W' ⟨he, hb⟩ => ⟨_, he, post_true rfl rfl hread rfl hW hb⟩

theorem proved : Rows.QueryAsksSaid :=
  OpenClaim.holds_of_wide 9 Try.f9 rfl rfl rfl rfl rfl rfl rfl ⟨rfl, rfl, rfl, rfl, rfl⟩ rfl rfl rfl rfl rfl (by kernel_rfl) Try.func9 (by kernel_rfl)
    (of_decide_eq_true (by kernel_rfl)) (by unfold Func.isWrapper; first | (rw [if_pos (by decide +kernel)]; kernel_rfl) | (rw [if_neg (by decide +kernel)]; exact ⟨rfl, rfl⟩))
    (fun os started H enc _ => lifted os started H enc)
end Go.Proofs.Ytmkfjelpekkmmaa.queryAsks
