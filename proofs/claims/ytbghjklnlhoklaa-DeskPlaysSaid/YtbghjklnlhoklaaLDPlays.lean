/-
  DeskPlays: for any config and every list of deeds the law returns true, and the arguments stay as they were. No condition.
-/
import Derived.Test.YtbghjklnlhoklaaMk23
import Derived.Test.YtbghjklnlhoklaaRdC
import Derived.Test.YtbghjklnlhoklaaDkX
import Derived.Test.YtbghjklnlhoklaaDkK
namespace Go.Proofs.Ytbghjklnlhoklaa.deskPlays
open Go.ChangeShapes Go.WideShapes Go.ChangeAt Go.RowKit

attribute [local go_sem ↓] loadVar_ldDd storeVar_stDd
set_option maxRecDepth 100000 in
set_option maxHeartbeats 4000000 in
theorem walk_bad (cols rows side radius speed ids queue : Int) (v : Value) (w : World) (h : ¬ CfgOk ⟨cols, rows, side, radius, speed, ids, queue⟩) :
    Calls Try.prog 7 #[.agg #[.int .i64 cols, .int .i64 rows, .int .i64 side, .int .i64 radius, .int .i64 speed, .int .i64 ids, .int .i64 queue], v] w fun e w' => e = .returned (.bool true) ∧ Below w.heap.size w w' := by
  have HN := Lib.hid (fun W => dnew_bad cols rows side radius speed ids queue W h)
  have HC := Lib.hid (fun W => rcheck_any cols rows side radius speed ids queue W)
  have hb : cfgB ⟨cols, rows, side, radius, speed, ids, queue⟩ = false := by
    cases hc : cfgB ⟨cols, rows, side, radius, speed, ids, queue⟩ with
    | false => rfl
    | true => exact absurd ((cfgB_iff _).1 hc) h
  rw [hb] at HC
  simp only [Bool.false_eq_true, if_false] at HC
  clear h hb
  go_enter Try.func7, Try.ntmps7
  go_wp2_with (first | (go_at_call 10; refine (HN.out _).mono ?_; rintro e w' ⟨rfl, hb⟩; obtain ⟨d, os, rfl⟩ := more_of hb; clear hb) | (go_at_call 27; refine (HC.out _).mono ?_; rintro e w' ⟨rfl, hb⟩; obtain ⟨d, os, rfl⟩ := more_of hb; clear hb) | (go_at_call 20; refine (awake16 _).mono ?_; rintro e w' ⟨rfl, hb⟩; obtain ⟨d, os, rfl⟩ := more_of hb; clear hb))
  go_ret
  exact ⟨rfl, (by repeat' (first | (with_reducible exact Below.refl _ _) | (with_reducible assumption) | (with_reducible refine below_drewN ?_ _) | (with_reducible refine below_more _ _ _ ?_ ?_) | (with_reducible refine Below.alloc ?_ ?_ _) | (with_reducible refine Below.drew ?_) | (with_reducible refine Below.setCell ?_ ?_ _) | go_size))⟩
set_option maxRecDepth 100000 in
set_option maxHeartbeats 4000000 in
theorem walk_ok (cols rows side radius speed ids queue : Int) (v : Value) (zs : List Ded) (w : World) (hz : RIn dedL w v zs) (hd : ∀ d ∈ zs, ∃ l, DOk w d l) (ho : CfgOk ⟨cols, rows, side, radius, speed, ids, queue⟩) :
    Calls Try.prog 7 #[.agg #[.int .i64 cols, .int .i64 rows, .int .i64 side, .int .i64 radius, .int .i64 speed, .int .i64 ids, .int .i64 queue], v] w fun e w' => e = .returned (.bool true) ∧ Below w.heap.size w w' := by
  obtain ⟨hf50, hfo⟩ := few_ok hd
  have HFO := Lib.hid hfo
  have HFW := Lib.hid (fun W (hW : Below w.heap.size w W) => few_any v zs W (hz.keep hW) (fun d hdm => by
    obtain ⟨l, _, h2, h3⟩ := hd d hdm
    obtain ⟨p, cap, e, _, _, h5, _⟩ := h2
    simp only [Value.slice.injEq, true_and] at e
    omega))
  have HO := Lib.hid ho
  have HN := Lib.hid (fun W => dnew_ok cols rows side radius speed ids queue W ho)
  have HR := Lib.hid (fun W => rdnew_ok cols rows side radius speed ids queue W ho)
  have HC := Lib.hid (fun W => rcheck_any cols rows side radius speed ids queue W)
  rw [(cfgB_iff _).2 ho] at HC
  simp only [if_true] at HC
  clear ho hd hfo hz
  generalize fewF zs = ds at *
  obtain ⟨w1, hw1, k0, hb1, g0, hsz⟩ := one_box w #[.int .i64 cols, .int .i64 rows, .int .i64 side, .int .i64 radius, .int .i64 speed, .int .i64 ids, .int .i64 queue] 23
  have HW1 := Lib.hid hw1
  have s2 : w.heap.size < w1.heap.size := by omega
  have y0 := k0 0; simp at y0; have y1 := k0 1; simp at y1; have y2 := k0 2; simp at y2; have y3 := k0 3; simp at y3; have y4 := k0 4; simp at y4; have y5 := k0 5; simp at y5; have y6 := k0 6; simp at y6
  have HB1 := Lib.hid hb1
  clear hw1 k0 g0 hsz hb1
  go_enter Try.func7, Try.ntmps7
  go_upto_region 1 with fail
  rw [← HW1.out]
  go_wp2_with fail
  refine (HN.out _).mono ?_
  rintro e W3 ⟨p, rfl, hm3⟩
  have H3 := Lib.hid (((Own.nil w).grow HB1.out).made hm3)
  have hb3 : Below w1.heap.size w1 W3 := by obtain ⟨_, _, h, _⟩ := hm3; exact h
  replace y0 := (hb3.cell (p := ⟨w.heap.size, 0, none⟩) s2).trans y0; replace y1 := (hb3.cell (p := ⟨w.heap.size, 1, none⟩) s2).trans y1; replace y2 := (hb3.cell (p := ⟨w.heap.size, 2, none⟩) s2).trans y2; replace y3 := (hb3.cell (p := ⟨w.heap.size, 3, none⟩) s2).trans y3; replace y4 := (hb3.cell (p := ⟨w.heap.size, 4, none⟩) s2).trans y4; replace y5 := (hb3.cell (p := ⟨w.heap.size, 5, none⟩) s2).trans y5; replace y6 := (hb3.cell (p := ⟨w.heap.size, 6, none⟩) s2).trans y6
  replace s2 := Nat.lt_of_lt_of_le s2 hb3.size
  obtain ⟨z0, z1, z2⟩ := ltz s2
  clear hm3 hb3 HN HB1 HW1
  go_wp2_with (go_at_call 27; refine (HC.out _).mono ?_; rintro e w' ⟨rfl, hb⟩; obtain ⟨d, os, rfl⟩ := more_of hb; clear hb)
  refine (HR.out _).mono ?_
  rintro e W4 ⟨q, R, rfl, hm4⟩
  have H4 := Lib.hid (((H3.out.grow (by repeat' (first | (with_reducible exact Below.refl _ _) | (with_reducible assumption) | (with_reducible refine below_drewN ?_ _) | (with_reducible refine below_more _ _ _ ?_ ?_) | (with_reducible refine Below.alloc ?_ ?_ _) | (with_reducible refine Below.drew ?_) | (with_reducible refine Below.setCell ?_ ?_ _) | go_size))).made hm4).swap)
  clear hm4 H3 HR
  clear y0 y1 y2 y3 y4 y5 y6
  go_wp2_with fail
  refine (HFW.out _ H4.out.below).mono ?_
  rintro e W5 ⟨v5, rfl, hn5⟩
  have H5 := Lib.hid ((H4.out.made hn5.made).new3)
  obtain ⟨p5, cap5, rfl⟩ := sl_frm hn5.1
  clear hn5 H4 HFW s2 z0 z1 z2
  go_wp2_with fail
  go_loopw [8] (fun x wr => ∃ (j : Nat) (D : Dk), x = .int .i64 j ∧ j ≤ ds.length ∧ Hid (Own w wr ((deskO p ⟨cols, rows, side, radius, speed, ids, queue⟩ D).and ((rdeskO q R ⟨cols, rows, side, radius, speed, ids, queue⟩ (256 + 40 * j) D).and ((slO 40 18 (.slice p5 ds.length cap5) ds.length (cellsR dedL ds)).and .nil))))) (fun x _ => ds.length - (intOf x).toNat)
  case atStart => exact ⟨0, _, rfl, Nat.zero_le _, H5⟩
  case round =>
    clear H5
    obtain ⟨j, D, rfl, hj, hh⟩ := hrel
    obtain ⟨wo, rfl⟩ : ∃ wo : World, wo = wr := ⟨_, rfl⟩
    have hI : 0 ≤ (j : Int) := Int.natCast_nonneg j
    by_cases hlt : j < ds.length
    · have t1 : (j : Int) < (ds.length : Int) := by omega
      obtain ⟨x, hx⟩ : ∃ x, ds[j]? = some x := ⟨_, List.getElem?_eq_getElem hlt⟩
      obtain ⟨hok, hok40⟩ := HFO.out x (List.mem_of_getElem? hx)
      obtain ⟨blk, off, cap', hve, hb, hcx⟩ := (RIn.of_sl hh.out.third.sl.1).cells dedL_len hx
      simp only [Value.slice.injEq, true_and] at hve
      obtain ⟨rfl, rfl⟩ := hve
      have hld0 := ldDd_of x hcx
      have HST := Lib.hid (step16_any hh.out (by omega) HO.out x (nmOf w x) hok.im hok.r hok.n hok40)
      generalize stepF ⟨cols, rows, side, radius, speed, ids, queue⟩ D x.kd x.m (nmOf w x) = D1 at *
      obtain ⟨kd, ⟨k, s, i, g, ⟨es, ei, eg, m, x, y, vx, vy, hp, pw, lf⟩, mask⟩, px, nx, cx⟩ := x
      have hld : (ldDd ⟨blk, off + j * 18, none⟩).run Try.prog wo = .ok (.agg #[.int .i64 kd, .int .i64 k, .int .i64 s, .int .i64 i, .int .i64 g, .int .i64 es, .int .i64 ei, .int .i64 eg, .int .i64 m, .int .i64 x, .int .i64 y, .int .i64 vx, .int .i64 vy, .int .i64 hp, .int .i64 pw, .int .i64 lf, .int .i64 mask, .slice px nx cx]) wo := hld0
      clear hld0 hcx hx hok hok40
      go_wp2_with fail
      refine HST.out.mono ?_
      rintro e w6 ⟨rfl, h6⟩
      have H6 := Lib.hid h6
      clear h6 HST hld
      go_wp2_with fail
      refine (alike16_any w w6 _ p q R ⟨cols, rows, side, radius, speed, ids, queue⟩ _ D1 H6.out HO.out).mono ?_
      rintro e w7 ⟨rfl, h7⟩
      have H7 := Lib.hid h7
      clear h7 H6
      go_wp2_with fail
      go_roundw
      case rel => exact ⟨j + 1, D1, by go_num, hlt, Lib.hid (by rw [show (256 + 40 * ((j + 1 : Nat) : Int)) = 256 + 40 * j + 40 by omega]; exact H7.out)⟩
      case measure => simp [intOf]; omega
    · obtain rfl : j = ds.length := by omega
      have HB := Lib.hid hh.out.below
      clear hh
      go_wp2_with (go_at_call 20; refine (awake16 _).mono ?_; rintro e w' ⟨rfl, hb⟩; obtain ⟨d, os, rfl⟩ := more_of hb; clear hb)
      go_ret
      exact ⟨rfl, HB.out.trans (Below.mono (B := wo.heap.size) (by repeat' (first | (with_reducible exact Below.refl _ _) | (with_reducible assumption) | (with_reducible refine below_drewN ?_ _) | (with_reducible refine below_more _ _ _ ?_ ?_) | (with_reducible refine Below.alloc ?_ ?_ _) | (with_reducible refine Below.drew ?_) | (with_reducible refine Below.setCell ?_ ?_ _) | go_size)) HB.out.size)⟩
theorem walk (cols rows side radius speed ids queue : Int) (v : Value) (zs : List Ded) (w : World) (hz : RIn dedL w v zs) (hd : ∀ d ∈ zs, ∃ l, DOk w d l) :
    Calls Try.prog 7 #[.agg #[.int .i64 cols, .int .i64 rows, .int .i64 side, .int .i64 radius, .int .i64 speed, .int .i64 ids, .int .i64 queue], v] w fun e w' => e = .returned (.bool true) ∧ Below w.heap.size w w' := by
  by_cases ho : CfgOk ⟨cols, rows, side, radius, speed, ids, queue⟩
  · exact walk_ok cols rows side radius speed ids queue v zs w hz hd ho
  · exact walk_bad cols rows side radius speed ids queue v w ho
set_option maxRecDepth 100000 in
theorem lifted (os : Os) (started : os.Started) (H : Type) (enc : TypeId × Value → H) :
    ReturnsInHanded {} Try.checked os 7 .any (Rows.deskPlaysSpec.pre6 enc Try.prog Try.f7 Rows.deskPlaysRow.domain false) (Rows.deskPlaysSpec.post enc Try.prog Try.f7 false true false false) := by
  refine returnsInHanded_of_change (C := Try.checked) ownKnob0 started (by kernel_rfl) Try.func7
    (ChangeSpec.witness6 (enc := enc) (C := Try.checked) false ⟨#[], #[.agg #[.int .i64 0, .int .i64 0, .int .i64 0, .int .i64 0, .int .i64 0, .int .i64 0, .int .i64 0], .slice none 0 0], []⟩ 8 (by kernel_rfl) (by kernel_rfl) (by kernel_rfl) (by kernel_rfl)) ?_
  intro W base args ds gs before hval0 hW _ _
  have hval : ∀ (j : Nat) t v, Try.f7.params[j]? = some t → args[j]? = some v → Value.okWide Try.prog W .any base t v := hval0
  have hread : ∀ t ∈ Try.f7.params.toList, Try.prog.readableRec t = true ∧ t < Try.prog.types.size := by
    rw [Try.params7]
    intro t ht
    simp only [List.mem_cons, List.not_mem_nil, or_false] at ht
    rcases ht with rfl | rfl
    all_goals exact ⟨by kernel_rfl, of_decide_eq_true (by kernel_rfl)⟩
  have hW' := hW
  obtain ⟨p, q, hA0, hV, -, -⟩ := hW'
  have hA : DataW.TrodAll enc Try.prog W 0 (fun _ => true) true Try.f7.params.toList args.toList ds p := hA0
  rw [Try.params7] at hA hval
  obtain ⟨v0, vs0, d0, ds0, p0, q0, hargs, rfl, rfl, h0, r0⟩ := trodAll_cons hA
  obtain ⟨v1, vs1, d1, ds1, p1, q1, rfl, rfl, rfl, h1, r1⟩ := trodAll_cons r0
  obtain ⟨rfl, rfl, rfl⟩ := trodAll_nil r1
  obtain rfl : args = #[v0, v1] := by cases args; simp_all
  obtain ⟨rfl, rfl⟩ := trodVars_none hV
  have k0 := hval 0 23 v0 rfl rfl
  have k1 := hval 1 24 v1 rfl rfl
  clear hval hval0 hA0 hV hA
  obtain ⟨c0, fuel0, rfl, g0⟩ := agg_of Try.underlying23 k0 h0
  obtain ⟨acols, arows, aside, aradius, aspeed, aids, aqueue, rfl⟩ := read_cfg g0
  obtain ⟨zs, hz, hd⟩ := deeds_in k1 h1
  exact (walk _ _ _ _ _ _ _ _ zs W hz hd).mono fun e W' ⟨he, hb⟩ => ⟨_, he, post_true rfl rfl hread rfl hW hb⟩

/-- DeskPlays: true for every input; the arguments stay. -/
theorem proved : Rows.DeskPlaysSaid :=
  OpenClaim.holds_of_wide 7 Try.f7 rfl rfl rfl rfl rfl rfl rfl ⟨rfl, rfl, rfl, rfl, rfl⟩ rfl rfl rfl rfl rfl (by kernel_rfl) Try.func7 (by kernel_rfl)
    (of_decide_eq_true (by kernel_rfl)) (by unfold Func.isWrapper; first | (rw [if_pos (by decide +kernel)]; kernel_rfl) | (rw [if_neg (by decide +kernel)]; exact ⟨rfl, rfl⟩))
    (fun os started H enc _ => lifted os started H enc)
end Go.Proofs.Ytbghjklnlhoklaa.deskPlays
