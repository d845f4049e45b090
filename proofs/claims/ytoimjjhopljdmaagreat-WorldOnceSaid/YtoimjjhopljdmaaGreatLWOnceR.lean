/-
  WorldOnce: for any config and every list of turns the law returns true, and the arguments stay as they were. No condition.
-/
import Derived.Test.YtoimjjhopljdmaaGreatQ01
import Derived.Test.YtoimjjhopljdmaaGreatQ02
import Derived.Test.YtoimjjhopljdmaaGreatQ03
import Derived.Test.YtoimjjhopljdmaaGreatQ04
import Derived.Test.YtoimjjhopljdmaaGreatQ05
import Derived.Test.YtoimjjhopljdmaaGreatQ06
import Derived.Test.YtoimjjhopljdmaaGreatQ07
import Derived.Test.YtoimjjhopljdmaaGreatQ08
import Derived.Test.YtoimjjhopljdmaaGreatQ09
import Derived.Test.YtoimjjhopljdmaaGreatQ10
import Derived.Test.YtoimjjhopljdmaaGreatQ11
import Derived.Test.YtoimjjhopljdmaaGreatQ12
import Derived.Test.YtoimjjhopljdmaaGreatQ13
import Derived.Test.YtoimjjhopljdmaaGreatQ14
import Derived.Test.YtoimjjhopljdmaaGreatQ15
import Derived.Test.YtoimjjhopljdmaaGreatQ16
import Derived.Test.YtoimjjhopljdmaaGreatQ17
import Derived.Test.YtoimjjhopljdmaaGreatQ18
import Derived.Test.YtoimjjhopljdmaaGreatQ19
import Derived.Test.YtoimjjhopljdmaaGreatQ20
import Derived.Test.YtoimjjhopljdmaaGreatQ21
import Derived.Test.YtoimjjhopljdmaaGreatQ22
import Derived.Test.YtoimjjhopljdmaaGreatQ23
import Derived.Test.YtoimjjhopljdmaaGreatQ24
import Derived.Test.YtoimjjhopljdmaaGreatQ25
import Derived.Test.YtoimjjhopljdmaaGreatQ26
import Derived.Test.YtoimjjhopljdmaaGreatQ27
import Derived.Test.YtoimjjhopljdmaaGreatQ28
import Derived.Test.YtoimjjhopljdmaaGreatQ29
import Derived.Test.YtoimjjhopljdmaaGreatQ30
import Derived.Test.YtoimjjhopljdmaaGreatQ31
import Derived.Test.YtoimjjhopljdmaaGreatQ32
import Derived.Test.YtoimjjhopljdmaaGreatQ33
import Derived.Test.YtoimjjhopljdmaaGreatQ34
import Derived.Test.YtoimjjhopljdmaaGreatQ35
import Derived.Test.YtoimjjhopljdmaaGreatQ36
import Derived.Test.YtoimjjhopljdmaaGreatQ37
import Derived.Test.YtoimjjhopljdmaaGreatQ38
import Derived.Test.YtoimjjhopljdmaaGreatQ39
import Derived.Test.YtoimjjhopljdmaaGreatQ40
import Derived.Test.YtoimjjhopljdmaaGreatR04
namespace Go.Proofs.YtoimjjhopljdmaaGreat.worldOnce
open Go.ChangeShapes Go.WideShapes Go.ChangeAt Go.RowKit

theorem play_once {c : Cfg} (ho : CfgOk c) (ts : List Tn) (hl : ts.length ≤ 60) : ∀ j, j ≤ ts.length → (∀ m ∈ (playW c (ts.take j)).2, m.k = 1 → usedN (playW c (ts.take j)).1.D.M (idOf m.b)) ∧ (playW c (ts.take j)).2.Pairwise fun a b => a.k = 1 → b.k = 1 → idOf a.b ≠ idOf b.b := by
  intro j
  induction j with
  | zero => intro _; rw [List.take_zero]; exact ⟨fun m hm => (by cases hm), List.Pairwise.nil⟩
  | succ j ih =>
    intro hj
    obtain ⟨h1, h2⟩ := ih (by omega)
    obtain ⟨hinv, _⟩ := play_inv ho ts hl j (by omega)
    rw [playW_snoc c (List.getElem?_eq_getElem (show j < ts.length by omega))]
    generalize playW c (ts.take j) = s at *
    generalize ts[j] = t
    unfold turnW
    cases t.st with
    | true => exact ⟨fun m hm hk => (step_inv ho hinv (by omega)).2.2 _ (h1 m hm hk), h2⟩
    | false =>
      have hc := call_inv hinv t.m
      rw [if_neg (by simp)]
      by_cases he : (callW c s.1 t.m).1.2 = 0
      · simp only [if_pos he]
        refine ⟨fun m hm hk => ?_, ?_⟩
        · rcases List.mem_append.1 hm with hm | hm
          · exact hc.used _ (h1 m hm hk)
          · obtain rfl : m = (callW c s.1 t.m).1.1 := by simpa using hm
            exact (hc.fresh he hk).2
        · rw [List.pairwise_append]
          refine ⟨h2, List.pairwise_singleton _ _, fun a ha b hb hka hkb e => ?_⟩
          obtain rfl : b = (callW c s.1 t.m).1.1 := by simpa using hb
          exact (hc.fresh he hkb).1 (e ▸ h1 a ha hka)
      · simp only [if_neg he]
        exact ⟨fun m hm hk => hc.used _ (h1 m hm hk), h2⟩
theorem cm_at {W : World} {blk off n ca : Nat} {l : List Cm} (h : RIn cmC W (.slice (some ⟨blk, off, none⟩) n ca) l) {k : Nat} {y : Cm} (hy : l[k]? = some y) : W.cell? ⟨blk, off + k * 16, none⟩ = some (.int .i64 y.k) ∧ W.cell? ⟨blk, off + k * 16 + 4, none⟩ = some (.int .i64 y.b.s) ∧ W.cell? ⟨blk, off + k * 16 + 5, none⟩ = some (.int .i64 y.b.i) ∧ W.cell? ⟨blk, off + k * 16 + 6, none⟩ = some (.int .i64 y.b.g) ∧ blk < W.heap.size := by
  obtain ⟨b2, o2, c2, hve, hb, hcx⟩ := h.cells cmC_len hy
  simp only [Value.slice.injEq, Option.some.injEq, Addr.mk.injEq, and_true] at hve
  obtain ⟨⟨rfl, rfl⟩, _⟩ := hve
  exact ⟨hcx 0 _ rfl, hcx 4 _ rfl, hcx 5 _ rfl, hcx 6 _ rfl, hb⟩
set_option maxRecDepth 100000 in
set_option maxHeartbeats 8000000 in
theorem walk (cols rows side radius speed ids queue : Int) (v : Value) (zs : List Tn) (w : World) (hz : RIn tnL w v zs) :
    Calls Tryz.prog 3 #[.agg #[.int .i64 cols, .int .i64 rows, .int .i64 side, .int .i64 radius, .int .i64 speed, .int .i64 ids, .int .i64 queue], v] w fun e w' => e = .returned (.bool true) ∧ Below w.heap.size w w' := by
  obtain ⟨w1, hw1, k0, hb1, g0, hsz⟩ := one_box w #[.int .i64 cols, .int .i64 rows, .int .i64 side, .int .i64 radius, .int .i64 speed, .int .i64 ids, .int .i64 queue] 23
  have HMA := Lib.hid (made17_any cols rows side radius speed ids queue v zs w1 (hz.keep hb1))
  have ho := mayF_ok ⟨cols, rows, side, radius, speed, ids, queue⟩
  generalize mayF ⟨cols, rows, side, radius, speed, ids, queue⟩ = cm at *
  have hts : (zs.take 60).length ≤ 60 := by rw [List.length_take]; omega
  have hpo := (play_once ho (zs.take 60) hts _ (Nat.le_refl _)).2
  have hpl := (play_inv ho (zs.take 60) hts _ (Nat.le_refl _)).2
  rw [List.take_length] at hpo hpl
  generalize playW cm (zs.take 60) = s at *
  obtain ⟨X, l⟩ := s
  simp only at hpo hpl HMA
  have hl : l.length ≤ 60 := by omega
  have HPO := Lib.hid (List.pairwise_iff_getElem.1 hpo)
  have HW1 := Lib.hid hw1
  have HB1 := Lib.hid hb1
  have y0 := k0 0; simp at y0; have y1 := k0 1; simp at y1; have y2 := k0 2; simp at y2; have y3 := k0 3; simp at y3; have y4 := k0 4; simp at y4; have y5 := k0 5; simp at y5; have y6 := k0 6; simp at y6
  have s1 : w.heap.size < w1.heap.size := by omega
  clear hw1 hb1 k0 g0 hsz ho hz hts hpo hpl
  go_enter Tryz.func3, Tryz.ntmps3
  go_upto_region 1 with fail
  rw [← HW1.out]
  go_wp2_with fail
  refine HMA.out.mono ?_
  rintro e w2 ⟨p, pi, ci, rfl, h2⟩
  have HR := Lib.hid (RIn.of_sl h2.swap.sl.1)
  have HB2 := Lib.hid (HB1.out.trans (h2.below.mono HB1.out.size))
  clear y0 y1 y2 y3 y4 y5 y6 h2 HMA HW1 HB1 s1
  go_wp2_with fail
  go_loopw [7] (fun x wr => ∃ j : Nat, x = .int .i64 j ∧ j ≤ l.length ∧ Hid (Below w2.heap.size w2 wr)) (fun x _ => l.length - (intOf x).toNat)
  case atStart => exact ⟨0, rfl, Nat.zero_le _, Lib.hid (Below.refl _ _)⟩
  case round =>
    obtain ⟨j, rfl, hj, hB⟩ := hrel
    obtain ⟨wo, rfl⟩ : ∃ wo : World, wo = wr := ⟨_, rfl⟩
    have hI : 0 ≤ (j : Int) := Int.natCast_nonneg j
    by_cases hlt : j < l.length
    · have t1 : (j : Int) < (l.length : Int) := by omega
      obtain ⟨a, ha⟩ : ∃ a, l[j]? = some a := ⟨_, List.getElem?_eq_getElem hlt⟩
      obtain ⟨blk, off, cap', hve, _, _⟩ := HR.out.cells cmC_len ha
      simp only [Value.slice.injEq, true_and] at hve
      obtain ⟨rfl, rfl⟩ := hve
      have HAT := Lib.hid (fun V (hV : Below w2.heap.size w2 V) k y (hy : l[k]? = some y) => cm_at (HR.out.keep (w' := V) hV) hy)
      go_wp2_with fail
      go_loopw [8] (fun x wr => ∃ k : Nat, x = .int .i64 k ∧ k ≤ j ∧ Hid (Below wo.heap.size wo wr)) (fun x _ => j - (intOf x).toNat)
      case atStart => exact ⟨0, rfl, Nat.zero_le _, Lib.hid (Below.refl _ _)⟩
      case round =>
        obtain ⟨k, rfl, hk, hB2⟩ := hrel
        obtain ⟨wi, rfl⟩ : ∃ wi : World, wi = wr := ⟨_, rfl⟩
        have hI3 : 0 ≤ (k : Int) := Int.natCast_nonneg k
        by_cases hlk : k < j
        · have t2 : (k : Int) < (j : Int) := by omega
          have t3 : (k : Int) < (l.length : Int) := by omega
          obtain ⟨b, hb⟩ : ∃ b, l[k]? = some b := ⟨_, List.getElem?_eq_getElem (by omega)⟩
          have hbw : Below w2.heap.size w2 wi := hB.out.trans (hB2.out.mono hB.out.size)
          obtain ⟨q0, q4, q5, q6, hbl⟩ := HAT.out wi hbw j a ha
          obtain ⟨r0, r4, r5, r6, _⟩ := HAT.out wi hbw k b hb
          have hne : a.k = 1 → b.k = 1 → idEq a.b.s a.b.i a.b.g b.b.s b.b.i b.b.g = false := by
            intro h1 h2
            have hp := HPO.out k j (by omega) hlt hlk
            rw [(List.getElem?_eq_some_iff.1 ha).2, (List.getElem?_eq_some_iff.1 hb).2] at hp
            cases hq : idEq a.b.s a.b.i a.b.g b.b.s b.b.i b.b.g with
            | false => rfl
            | true =>
              simp only [idEq, Bool.and_eq_true, beq_iff_eq] at hq
              exact absurd (by unfold idOf; rw [hq.1.1, hq.1.2, hq.2]) (hp h2 h1)
          obtain ⟨ak, as', ai, ag, ⟨aes, aei, aeg, am, ax, ay, avx, avy, ahp, apw, alf⟩, amask⟩ := a
          obtain ⟨bk, bs, bi, bg, ⟨bes, bei, beg, bm, bx, by', bvx, bvy, bhp, bpw, blf⟩, bmask⟩ := b
          simp only at q0 q4 q5 q6 r0 r4 r5 r6 hne
          obtain ⟨z3, z4, z5⟩ := ltz hbl
          clear ha hb hbw
          by_cases h1 : ak = 1
          · have h1' : (ak == 1) = true := by simpa using h1
            by_cases h2 : bk = 1
            · have h2' : (bk == 1) = true := by simpa using h2
              have hi := hne h1 h2
              clear h1 h2 hne
              go_wp2_with fail
              refine wp_region_more (by kernel_rfl) (by kernel_rfl) ?_
              repeat (go_big_quiet_step (fail))
              refine wpQuiet_nil ?_
              rintro _ ⟨pn, rfl⟩
              go_wp2_with fail
              go_roundw
              case rel => exact ⟨k + 1, by go_num, hlk, Lib.hid (hB2.out.trans (Below.mono (B := wi.heap.size) (by repeat' (first | (with_reducible exact Below.refl _ _) | (with_reducible assumption) | (with_reducible refine below_drewN ?_ _) | (with_reducible refine below_more _ _ _ ?_ ?_) | (with_reducible refine Below.alloc ?_ ?_ _) | (with_reducible refine Below.drew ?_) | (with_reducible refine Below.setCell ?_ ?_ _) | go_size)) hB2.out.size))⟩
              case measure => simp [intOf]; omega
            · have h2' : (bk == 1) = false := by simpa using h2
              clear h1 h2 hne
              go_wp2_with fail
              refine wp_region_more (by kernel_rfl) (by kernel_rfl) ?_
              repeat (go_big_quiet_step (fail))
              refine wpQuiet_nil ?_
              rintro _ ⟨pn, rfl⟩
              go_wp2_with fail
              go_roundw
              case rel => exact ⟨k + 1, by go_num, hlk, Lib.hid (hB2.out.trans (Below.mono (B := wi.heap.size) (by repeat' (first | (with_reducible exact Below.refl _ _) | (with_reducible assumption) | (with_reducible refine below_drewN ?_ _) | (with_reducible refine below_more _ _ _ ?_ ?_) | (with_reducible refine Below.alloc ?_ ?_ _) | (with_reducible refine Below.drew ?_) | (with_reducible refine Below.setCell ?_ ?_ _) | go_size)) hB2.out.size))⟩
              case measure => simp [intOf]; omega
          · have h1' : (ak == 1) = false := by simpa using h1
            clear h1 hne
            go_wp2_with fail
            refine wp_region_more (by kernel_rfl) (by kernel_rfl) ?_
            repeat (go_big_quiet_step (fail))
            refine wpQuiet_nil ?_
            rintro _ ⟨pn, rfl⟩
            go_wp2_with fail
            go_roundw
            case rel => exact ⟨k + 1, by go_num, hlk, Lib.hid (hB2.out.trans (Below.mono (B := wi.heap.size) (by repeat' (first | (with_reducible exact Below.refl _ _) | (with_reducible assumption) | (with_reducible refine below_drewN ?_ _) | (with_reducible refine below_more _ _ _ ?_ ?_) | (with_reducible refine Below.alloc ?_ ?_ _) | (with_reducible refine Below.drew ?_) | (with_reducible refine Below.setCell ?_ ?_ _) | go_size)) hB2.out.size))⟩
            case measure => simp [intOf]; omega
        · obtain rfl : k = j := by omega
          go_wp2_with fail
          go_roundw
          case rel => exact ⟨k + 1, by go_num, hlt, Lib.hid (hB.out.trans (Below.mono (B := wo.heap.size) (hB2.out.trans (Below.mono (B := wi.heap.size) (by repeat' (first | (with_reducible exact Below.refl _ _) | (with_reducible assumption) | (with_reducible refine below_drewN ?_ _) | (with_reducible refine below_more _ _ _ ?_ ?_) | (with_reducible refine Below.alloc ?_ ?_ _) | (with_reducible refine Below.drew ?_) | (with_reducible refine Below.setCell ?_ ?_ _) | go_size)) hB2.out.size)) hB.out.size))⟩
          case measure => simp [intOf]; omega
    · obtain rfl : j = l.length := by omega
      go_wp2_with (go_at_call 11; refine (awake17 _).mono ?_; rintro e w' ⟨rfl, hb⟩; obtain ⟨d, os, rfl⟩ := more_of hb; clear hb)
      go_ret
      exact ⟨rfl, HB2.out.trans (Below.mono (B := w2.heap.size) (hB.out.trans (Below.mono (B := wo.heap.size) (by repeat' (first | (with_reducible exact Below.refl _ _) | (with_reducible assumption) | (with_reducible refine below_drewN ?_ _) | (with_reducible refine below_more _ _ _ ?_ ?_) | (with_reducible refine Below.alloc ?_ ?_ _) | (with_reducible refine Below.drew ?_) | (with_reducible refine Below.setCell ?_ ?_ _) | go_size)) hB.out.size)) HB2.out.size)⟩
set_option maxRecDepth 100000 in
theorem lifted (os : Os) (started : os.Started) (H : Type) (enc : TypeId × Value → H) :
    ReturnsInHanded {} Tryz.checked os 3 .any (Rows.worldOnceSpec.pre6 enc Tryz.prog Tryz.f3 Rows.worldOnceRow.domain false) (Rows.worldOnceSpec.post enc Tryz.prog Tryz.f3 false true false false) := by
  refine returnsInHanded_of_change (C := Tryz.checked) ownKnob0 started (by kernel_rfl) Tryz.func3
    (ChangeSpec.witness6 (enc := enc) (C := Tryz.checked) false ⟨#[], #[.agg #[.int .i64 0, .int .i64 0, .int .i64 0, .int .i64 0, .int .i64 0, .int .i64 0, .int .i64 0], .slice none 0 0], []⟩ 8 (by kernel_rfl) (by kernel_rfl) (by kernel_rfl) (by kernel_rfl)) ?_
  intro W base args ds gs before hval0 hW _ _
  have hval : ∀ (j : Nat) t v, Tryz.f3.params[j]? = some t → args[j]? = some v → Value.okWide Tryz.prog W .any base t v := hval0
  have hread : ∀ t ∈ Tryz.f3.params.toList, Tryz.prog.readableRec t = true ∧ t < Tryz.prog.types.size := by
    rw [Tryz.params3]
    intro t ht
    simp only [List.mem_cons, List.not_mem_nil, or_false] at ht
    rcases ht with rfl | rfl
    all_goals exact ⟨by kernel_rfl, of_decide_eq_true (by kernel_rfl)⟩
  have hW' := hW
  obtain ⟨p, q, hA0, hV, -, -⟩ := hW'
  have hA : DataW.TrodAll enc Tryz.prog W 0 (fun _ => true) true Tryz.f3.params.toList args.toList ds p := hA0
  rw [Tryz.params3] at hA hval
  obtain ⟨v0, vs0, d0, ds0, p0, q0, hargs, rfl, rfl, h0, r0⟩ := trodAll_cons hA
  obtain ⟨v1, vs1, d1, ds1, p1, q1, rfl, rfl, rfl, h1, r1⟩ := trodAll_cons r0
  obtain ⟨rfl, rfl, rfl⟩ := trodAll_nil r1
  obtain rfl : args = #[v0, v1] := by cases args; simp_all
  obtain ⟨rfl, rfl⟩ := trodVars_none hV
  have k0 := hval 0 23 v0 rfl rfl
  have k1 := hval 1 24 v1 rfl rfl
  clear hval hval0 hA0 hV hA
  obtain ⟨c0, fuel0, rfl, g0⟩ := agg_of Tryz.underlying23 k0 h0
  obtain ⟨acols, arows, aside, aradius, aspeed, aids, aqueue, rfl⟩ := read_cfg g0
  obtain ⟨zs, hz, _⟩ := turns_in k1 h1
  exact (walk _ _ _ _ _ _ _ _ zs W hz).mono fun e W' ⟨he, hb⟩ => ⟨_, he, post_true rfl rfl hread rfl hW hb⟩

theorem proved : Rows.WorldOnceSaid :=
  OpenClaim.holds_of_wide 3 Tryz.f3 rfl rfl rfl rfl rfl rfl rfl ⟨rfl, rfl, rfl, rfl, rfl⟩ rfl rfl rfl rfl rfl (by kernel_rfl) Tryz.func3 (by kernel_rfl)
    (of_decide_eq_true (by kernel_rfl)) (by unfold Func.isWrapper; first | (rw [if_pos (by decide +kernel)]; kernel_rfl) | (rw [if_neg (by decide +kernel)]; exact ⟨rfl, rfl⟩))
    (fun os started H enc _ => lifted os started H enc)
end Go.Proofs.YtoimjjhopljdmaaGreat.worldOnce
