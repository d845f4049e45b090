/-
  QueryParts: for all entities, every query and component the law returns true, and the arguments stay as they were. No condition.
-/
import Derived.Test.YtmkfjelpekkmmaaQ30
namespace Go.Proofs.Ytmkfjelpekkmmaa.queryParts
open Go.ChangeShapes Go.WideShapes Go.ChangeAt Go.RowKit

theorem u64_of_wf {z : Int} (h : (Lit.int .u64 z).wf = true) : 0 ≤ z := by
  have : 0 ≤ z ∧ z ≤ 18446744073709551615 := by simpa [Lit.wf, IntKind.min, IntKind.max, IntKind.bits, IntKind.signed] using h
  exact this.1
theorem pw0 : wrap64 (2 ^ 0) = (2 : Int) ^ 0 := by kernel_rfl
theorem pw1 : wrap64 (2 ^ 1) = (2 : Int) ^ 1 := by kernel_rfl
theorem pw2 : wrap64 (2 ^ 2) = (2 : Int) ^ 2 := by kernel_rfl
theorem pw3 : wrap64 (2 ^ 3) = (2 : Int) ^ 3 := by kernel_rfl
theorem pw4 : wrap64 (2 ^ 4) = (2 : Int) ^ 4 := by kernel_rfl
theorem split_len {α : Type} (p : α → Bool) : ∀ l : List α, (l.filter p).length + (l.filter fun b => !p b).length = l.length
  | [] => rfl
  | b :: l => by
    have := split_len p l
    cases h : p b <;> simp [h] <;> omega
theorem parts_sum (qa qn : Int) (l : List Bun) (k : Nat) (hk : k < 5) (ha : I64 qa) :
    (foundF (bits .or .i64 qa (2 ^ k)) qn (fun _ => true) l).length + (foundF qa (bits .or .i64 qn (2 ^ k)) (fun _ => true) l).length = (foundF qa qn (fun _ => true) l).length := by
  unfold foundF
  rw [stableF_len, stableF_len, stableF_len]
  simp only [Bool.and_true, match_with qn _ k (by omega) ha, match_wout qn _ k (by omega) ha]
  have := split_len (fun b : Bun => gb b.m k) (l.filter fun b => matchB qa qn b.m)
  rw [List.filter_filter, List.filter_filter] at this
  simp only [Bool.and_comm] at this ⊢
  exact this
theorem parts_all (l : List Bun) : (foundF 0 0 (fun _ => true) l).length = l.length := by
  unfold foundF
  rw [stableF_len]
  simp [match_all]
set_option maxRecDepth 100000 in
set_option maxHeartbeats 4000000 in
theorem walk (v : Value) (l : List Bun) (qa qn z : Int) (w : World) (hl : BIn w v l) (ha : I64 qa) (hz : 0 ≤ z) :
    Calls Try.prog 8 #[v, .agg #[.int .i64 qa, .int .i64 qn], .int .u64 z] w fun e w' => e = .returned (.bool true) ∧ Below w.heap.size w w' := by
  go_enter Try.func8, Try.ntmps8
  have HLI := Lib.hid (fun W (hW : Below w.heap.size w W) => made_open W v l (hl.keep hW))
  have hi := made_i64 l
  have hn := made_len l
  clear hl
  go_wp2_with fail
  generalize madeF l = L at *
  refine (HLI.out _ (by repeat' (first | (with_reducible exact Below.refl _ _) | (with_reducible assumption) | (with_reducible refine below_drewN ?_ _) | (with_reducible refine below_more _ _ _ ?_ ?_) | (with_reducible refine Below.alloc ?_ ?_ _) | (with_reducible refine Below.drew ?_) | (with_reducible refine Below.setCell ?_ ?_ _) | go_size))).mono ?_
  rintro e w1 ⟨p, pp, cc, rfl, hF, hS, hB, hb⟩
  have b1 : Below w.heap.size w w1 := Below.trans (b := w.alloc (.cells #[.int .i64 qa, .int .i64 qn] 23)) (by repeat' (first | (with_reducible exact Below.refl _ _) | (with_reducible assumption) | (with_reducible refine below_drewN ?_ _) | (with_reducible refine below_more _ _ _ ?_ ?_) | (with_reducible refine Below.alloc ?_ ?_ _) | (with_reducible refine Below.drew ?_) | (with_reducible refine Below.setCell ?_ ?_ _) | go_size)) (hb.mono (by simp))
  have l1 : w.heap.size < w1.heap.size := by have := hb.size; simp at this; omega
  have a0 : w1.cell? ⟨w.heap.size, 0, none⟩ = some (.int .i64 qa) := (hb.cell (p := ⟨w.heap.size, 0, none⟩) (by simp)).trans (by simp [go_sem])
  have a1 : w1.cell? ⟨w.heap.size, 1, none⟩ = some (.int .i64 qn) := (hb.cell (p := ⟨w.heap.size, 1, none⟩) (by simp)).trans (by simp [go_sem])
  have hk : (z % 5).toNat < 5 := by omega
  have hw : wrap64 (2 ^ (z % 5).toNat) = 2 ^ (z % 5).toNat := by
    have : (z % 5).toNat = 0 ∨ (z % 5).toNat = 1 ∨ (z % 5).toNat = 2 ∨ (z % 5).toNat = 3 ∨ (z % 5).toNat = 4 := by omega
    rcases this with h | h | h | h | h <;> rw [h] <;> first | exact pw0 | exact pw1 | exact pw2 | exact pw3 | exact pw4
  have hs := parts_sum qa qn L (z % 5).toNat hk ha
  have hall := parts_all L
  have HC := fun x y W (hW : Below w1.heap.size w1 W) => count_any W _ L (hF.grow hW) ⟨_, rfl⟩ x y
  have H1 := Lib.hid (HC (bits .or .i64 qa (2 ^ (z % 5).toNat)) qn)
  have H2 := Lib.hid (HC qa (bits .or .i64 qn (2 ^ (z % 5).toNat)))
  have H3 := Lib.hid (HC qa qn)
  have H4 := Lib.hid (HC 0 0)
  have HL := Lib.hid (fun W (hW : Below w1.heap.size w1 W) => by obtain ⟨a9, h9⟩ := sto_keep hS hW; exact slen_o W p L a9 h9)
  have hm := foundF_len qa qn (fun _ => true) L
  rw [hall] at H4
  generalize (foundF (bits .or .i64 qa (2 ^ (z % 5).toNat)) qn (fun _ => true) L).length = na at *
  generalize (foundF qa (bits .or .i64 qn (2 ^ (z % 5).toNat)) (fun _ => true) L).length = nb at *
  generalize (foundF qa qn (fun _ => true) L).length = nc at *
  clear hF hS hB hb hi HLI ha HC
  go_upto_region 3 with fail
  rw [hw]
  have HW := Lib.hid hw
  generalize (2 : Int) ^ (z % 5).toNat = c at *
  clear hw hall
  go_wp2_with (first
    | (go_at_call 29; (first | refine (H1.out _ (by repeat' (first | (with_reducible exact Below.refl _ _) | (with_reducible assumption) | (with_reducible refine below_drewN ?_ _) | (with_reducible refine below_more _ _ _ ?_ ?_) | (with_reducible refine Below.alloc ?_ ?_ _) | (with_reducible refine Below.drew ?_) | (with_reducible refine Below.setCell ?_ ?_ _) | go_size))).mono ?_ | refine (H2.out _ (by repeat' (first | (with_reducible exact Below.refl _ _) | (with_reducible assumption) | (with_reducible refine below_drewN ?_ _) | (with_reducible refine below_more _ _ _ ?_ ?_) | (with_reducible refine Below.alloc ?_ ?_ _) | (with_reducible refine Below.drew ?_) | (with_reducible refine Below.setCell ?_ ?_ _) | go_size))).mono ?_ | refine (H3.out _ (by repeat' (first | (with_reducible exact Below.refl _ _) | (with_reducible assumption) | (with_reducible refine below_drewN ?_ _) | (with_reducible refine below_more _ _ _ ?_ ?_) | (with_reducible refine Below.alloc ?_ ?_ _) | (with_reducible refine Below.drew ?_) | (with_reducible refine Below.setCell ?_ ?_ _) | go_size))).mono ?_ | refine (H4.out _ (by repeat' (first | (with_reducible exact Below.refl _ _) | (with_reducible assumption) | (with_reducible refine below_drewN ?_ _) | (with_reducible refine below_more _ _ _ ?_ ?_) | (with_reducible refine Below.alloc ?_ ?_ _) | (with_reducible refine Below.drew ?_) | (with_reducible refine Below.setCell ?_ ?_ _) | go_size))).mono ?_); rintro e w' ⟨rfl, hb⟩; have hk2 := Below.trans (B := w1.heap.size) (a := w1) (by repeat' (first | (with_reducible exact Below.refl _ _) | (with_reducible assumption) | (with_reducible refine below_drewN ?_ _) | (with_reducible refine below_more _ _ _ ?_ ?_) | (with_reducible refine Below.alloc ?_ ?_ _) | (with_reducible refine Below.drew ?_) | (with_reducible refine Below.setCell ?_ ?_ _) | go_size)) (Below.mono (B' := w1.heap.size) hb (by first | (simp; done) | (simp; omega))); obtain ⟨d5, os5, rfl⟩ := more_of hk2; clear hk2; clear hb)
    | (go_at_call 30; refine (HL.out _ (by repeat' (first | (with_reducible exact Below.refl _ _) | (with_reducible assumption) | (with_reducible refine below_drewN ?_ _) | (with_reducible refine below_more _ _ _ ?_ ?_) | (with_reducible refine Below.alloc ?_ ?_ _) | (with_reducible refine Below.drew ?_) | (with_reducible refine Below.setCell ?_ ?_ _) | go_size))).mono ?_; rintro e w' ⟨rfl, rfl⟩)
    | (go_at_call 18; refine (awake12 _).mono ?_; rintro e w' ⟨rfl, hb⟩; have hk2 := Below.trans (B := w1.heap.size) (a := w1) (by repeat' (first | (with_reducible exact Below.refl _ _) | (with_reducible assumption) | (with_reducible refine below_drewN ?_ _) | (with_reducible refine below_more _ _ _ ?_ ?_) | (with_reducible refine Below.alloc ?_ ?_ _) | (with_reducible refine Below.drew ?_) | (with_reducible refine Below.setCell ?_ ?_ _) | go_size)) (Below.mono (B' := w1.heap.size) hb (by first | (simp; done) | (simp; omega))); obtain ⟨d5, os5, rfl⟩ := more_of hk2; clear hk2; clear hb))
  go_ret
  exact ⟨rfl, b1.trans (Below.mono (B := w1.heap.size) (by repeat' (first | (with_reducible exact Below.refl _ _) | (with_reducible assumption) | (with_reducible refine below_drewN ?_ _) | (with_reducible refine below_more _ _ _ ?_ ?_) | (with_reducible refine Below.alloc ?_ ?_ _) | (with_reducible refine Below.drew ?_) | (with_reducible refine Below.setCell ?_ ?_ _) | go_size)) b1.size)⟩

set_option maxRecDepth 100000 in
theorem lifted (os : Os) (started : os.Started) (H : Type) (enc : TypeId × Value → H) :
    ReturnsInHanded {} Try.checked os 8 .any (Rows.queryPartsSpec.pre6 enc Try.prog Try.f8 Rows.queryPartsRow.domain false) (Rows.queryPartsSpec.post enc Try.prog Try.f8 false true false false) := by
  refine returnsInHanded_of_change (C := Try.checked) ownKnob0 started (by kernel_rfl) Try.func8
    (ChangeSpec.witness6 (enc := enc) (C := Try.checked) false ⟨#[], #[.slice none 0 0, .agg #[.int .i64 0, .int .i64 0], .int .u64 0], []⟩ 8 (by kernel_rfl) (by kernel_rfl) (by kernel_rfl) (by kernel_rfl)) ?_
  intro W base args ds gs before hval0 hW _ _
  have hval : ∀ (j : Nat) t v, Try.f8.params[j]? = some t → args[j]? = some v → Value.okWide Try.prog W .any base t v := hval0
  have hread : ∀ t ∈ Try.f8.params.toList, Try.prog.readableRec t = true ∧ t < Try.prog.types.size := by
    rw [Try.params8]
    intro t ht
    simp only [List.mem_cons, List.not_mem_nil, or_false] at ht
    rcases ht with rfl | rfl | rfl
    all_goals exact ⟨by kernel_rfl, of_decide_eq_true (by kernel_rfl)⟩
  have hW' := hW
  obtain ⟨p, q, hA0, hV, -, -⟩ := hW'
  have hA : DataW.TrodAll enc Try.prog W 0 (fun _ => true) true Try.f8.params.toList args.toList ds p := hA0
  rw [Try.params8] at hA hval
  obtain ⟨v0, vs0, d0, ds0, p0, q0, hargs, rfl, rfl, h0, r0⟩ := trodAll_cons hA
  obtain ⟨v1, vs1, d1, ds1, p1, q1, rfl, rfl, rfl, h1, r1⟩ := trodAll_cons r0
  obtain ⟨v2, vs2, d2, ds2, p2, q2, rfl, rfl, rfl, h2, r2⟩ := trodAll_cons r1
  obtain ⟨rfl, rfl, rfl⟩ := trodAll_nil r2
  obtain rfl : args = #[v0, v1, v2] := by cases args; simp_all
  obtain ⟨rfl, rfl⟩ := trodVars_none hV
  have k0 := hval 0 29 v0 rfl rfl
  have k1 := hval 1 23 v1 rfl rfl
  have k2 := hval 2 55 v2 rfl rfl
  clear hval hval0 hA0 hV hA
  obtain ⟨l, hl, _⟩ := buns_in k0 h0
  obtain ⟨cc, fuel1, rfl, g1⟩ := agg_of Try.underlying23 k1 h1
  obtain ⟨qa, qn, rfl, ia, _⟩ := read_query g1
  obtain ⟨z, rfl, rfl, rfl, iz⟩ := open_int Try.underlying55 k2 h2
  exact (walk _ l _ _ z W hl ia (u64_of_wf iz)).mono fun e W' ⟨he, hb⟩ => ⟨_, he, post_true rfl rfl hread rfl hW hb⟩

theorem proved : Rows.QueryPartsSaid :=
  OpenClaim.holds_of_wide 8 Try.f8 rfl rfl rfl rfl rfl rfl rfl ⟨rfl, rfl, rfl, rfl, rfl⟩ rfl rfl rfl rfl rfl (by kernel_rfl) Try.func8 (by kernel_rfl)
    (of_decide_eq_true (by kernel_rfl)) (by unfold Func.isWrapper; first | (rw [if_pos (by decide +kernel)]; kernel_rfl) | (rw [if_neg (by decide +kernel)]; exact ⟨rfl, rfl⟩))
    (fun os started H enc _ => lifted os started H enc)
end Go.Proofs.Ytmkfjelpekkmmaa.queryParts
