/-
  SystemsSplits: for every radius, all entities and every pick the law returns true, and the arguments stay as they were. No condition.
-/
import Derived.Test.YtloampfkjldmnaaShG
import Derived.Test.YtloampfkjldmnaaSyI
namespace Go.Proofs.Ytloampfkjldmnaa.systemsSplits
open Go.ChangeShapes Go.WideShapes Go.ChangeAt Go.RowKit

/-- Behind k entities: they lie in two lists of the call's own, in memory apart. -/
def TwoL (w W : World) (l : List Bun) (k : Nat) (oa ob : Value) (la lb : List Bun) : Prop :=
  BNew w W oa la ∧ BNew w W ob lb ∧ (∀ g, oa.ownBlock = some g → ob.ownBlock ≠ some g) ∧ (la ++ lb).Perm (l.take k)
theorem TwoL.swap {w W : World} {l : List Bun} {k : Nat} {oa ob : Value} {la lb : List Bun} (h : TwoL w W l k oa ob la lb) : TwoL w W l k ob oa lb la :=
  ⟨h.2.1, h.1, fun g h1 h2 => h.2.2.1 g h2 h1, List.perm_append_comm.trans h.2.2.2⟩
theorem TwoL.snoc {w W w1 : World} {l : List Bun} {k : Nat} {oa ob v' : Value} {la lb : List Bun} {b : Bun} (h : TwoL w W l k oa ob la lb) (o : Obj) (hb : l[k]? = some b)
    (hs : Sl w1 34 11 v' (la.length + 1) (bunCells la ++ bunL b)) (ht : Turned (W.alloc o) w1 oa.ownBlock) (ho : v'.ownBlock = oa.ownBlock ∨ ∃ g, v'.ownBlock = some g ∧ (W.alloc o).heap.size ≤ g) : TwoL w w1 l (k + 1) v' ob (la ++ [b]) lb := by
  obtain ⟨h1, h2, h3, h4⟩ := h
  have ga : Below W.heap.size W (W.alloc o) := (Below.refl _ _).alloc (Nat.le_refl _) o
  have e1 := (h1.grow ga).snoc hs ht ho
  have e2 := h2.grow ga
  refine ⟨e1, ⟨e2.1.keep fun g hg => ht.block g (sl_lt e2.1 hg) (fun e => h3 g e.symm hg), e1.2.1, h2.2.2⟩, fun g hg hg2 => ?_, ?_⟩
  · rcases ho with e | ⟨g', e, hge⟩
    · exact h3 g (by rw [← e]; exact hg) hg2
    · rw [e] at hg
      cases hg
      have := sl_lt e2.1 hg2
      omega
  · have hk := (List.getElem?_eq_some_iff.1 hb).1
    have e : l[k] = b := by have := List.getElem?_eq_getElem hk; rw [hb] at this; exact (Option.some.inj this).symm
    rw [List.take_succ_eq_append_getElem hk, e]
    refine List.Perm.trans ?_ (h4.append_right [b])
    rw [List.append_assoc, List.append_assoc]
    exact List.perm_append_comm.append_left la

set_option maxRecDepth 100000 in
set_option maxHeartbeats 1000000 in
theorem walk (r pick : Int) (v : Value) (m : List Bun) (w : World) (h : BIn w v m) (hf : ∀ c ∈ m, BFit c) :
    Calls Try.prog 6 #[.int .i64 r, v, .int .i64 pick] w fun e w' => e = .returned (.bool true) ∧ Below w.heap.size w w' := by
  obtain ⟨i0, hi0, hz0, hz1, hz2⟩ := info_parts info_bunJ
  have HU := Lib.hid (unlike_any v m w h hf)
  clear h hf
  go_enter Try.func6, Try.ntmps6
  go_wp2_with fail
  refine HU.out.mono ?_
  rintro e w1 ⟨v1, l, rfl, hn, hl60, hpw⟩
  obtain ⟨p1, c1, rfl⟩ := sl_frm hn.1
  have HN := Lib.hid hn
  have HPW := Lib.hid hpw
  clear hn hpw
  go_wp2_with fail
  go_loopg [9, 7, 8] l.length (fun kx sx oa ob wr => ∃ (k : Nat) (la lb : List Bun), sx = .int .i64 k ∧ k ≤ l.length ∧ l.length - k ≤ kx ∧ la.length + lb.length ≤ k ∧ Hid (TwoL w1 wr l k oa ob la lb))
  case atStart => exact ⟨0, [], [], by go_num, by omega, by omega, by simp, Lib.hid ⟨BNew.nil w1, BNew.nil w1, (fun g hg => by cases hg), by simp⟩⟩
  case round =>
    obtain ⟨k, la, lb, rfl, hk, hkx, hab, HT⟩ := hrel
    obtain ⟨wa, rfl⟩ : ∃ wa : World, wa = wr := ⟨_, rfl⟩
    by_cases hlt : k < l.length
    · have t1 : (k : Int) < (l.length : Int) := by omega
      obtain ⟨b, hb⟩ : ∃ b, l[k]? = some b := ⟨_, List.getElem?_eq_getElem hlt⟩
      obtain ⟨gb, ob, cb', hv, hgb, hcb⟩ := (HN.out.bin.keep HT.out.1.2.1).cells hb
      simp only [Value.slice.injEq, true_and] at hv
      obtain ⟨rfl, rfl⟩ := hv
      have c0 := hcb 0 _ rfl
      have c1 := hcb 1 _ rfl
      have c2 := hcb 2 _ rfl
      have c3 := hcb 3 _ rfl
      have c4 := hcb 4 _ rfl
      have c5 := hcb 5 _ rfl
      have c6 := hcb 6 _ rfl
      have c7 := hcb 7 _ rfl
      have c8 := hcb 8 _ rfl
      have c9 := hcb 9 _ rfl
      have c10 := hcb 10 _ rfl
      simp only [Nat.add_zero] at c0
      obtain ⟨pa, ca, rfl⟩ := sl_frm HT.out.1.1
      obtain ⟨pb, cb, rfl⟩ := sl_frm HT.out.2.1.1
      have HB := Lib.hid hb
      have hk0 : (0 : Int) ≤ (k : Int) := Int.natCast_nonneg k
      clear hcb hb
      obtain ⟨s, i, g, m, x, y, vx, vy, hp, pw, lf⟩ := b
      go_upto_region 6 with fail
      go_cut [28] (fun t wx => (∃ tb : Bool, t = .bool tb) ∧ wx = wa)
      case first =>
        go_wp2_with fail
        go_meet
        exact ⟨⟨_, rfl⟩, rfl⟩
      obtain ⟨⟨tb, rfl⟩, rfl⟩ := hcut
      
      cases tb with
      | true =>
        go_wp2_with (at_builtin; refine wpList_append_sl _ (by rfl) _ _ 22 (by rfl) 34 i0 _ 11 88 Try.underlying22 hi0 hz0 hz1 hz2 rfl (by omega) _ la.length (bunCells la) (by rfl) (HT.out.1.grow (by repeat' (first | (with_reducible exact Below.refl _ _) | (with_reducible assumption) | (with_reducible refine below_drewN ?_ _) | (with_reducible refine below_more _ _ _ ?_ ?_) | (with_reducible refine Below.alloc ?_ ?_ _) | (with_reducible refine Below.drew ?_) | (with_reducible refine Below.setCell ?_ ?_ _) | go_size))).1 ⟨_, 0, none⟩ 1 1 (bunL ⟨s, i, g, m, x, y, vx, vy, hp, pw, lf⟩) (by rfl) (by rfl) (new_cellsN _ _ _ _ (by simp)) (bunL_one _) (by omega) (by unfold maxLen; omega) (by omega) ?_; intro v' w4 hs4 ht4 ho4)
        have HM := Lib.hid (HT.out.snoc _ HB.out hs4 ht4 ho4)
        clear hs4 ht4 ho4
        go_roundg (l.length - (k + 1))
        case measure => omega
        case rel => exact ⟨k + 1, _, lb, by go_num, by omega, by omega, by simp; omega, HM⟩
      | false =>
        go_wp2_with (at_builtin; refine wpList_append_sl _ (by rfl) _ _ 22 (by rfl) 34 i0 _ 11 88 Try.underlying22 hi0 hz0 hz1 hz2 rfl (by omega) _ lb.length (bunCells lb) (by rfl) (HT.out.2.1.grow (by repeat' (first | (with_reducible exact Below.refl _ _) | (with_reducible assumption) | (with_reducible refine below_drewN ?_ _) | (with_reducible refine below_more _ _ _ ?_ ?_) | (with_reducible refine Below.alloc ?_ ?_ _) | (with_reducible refine Below.drew ?_) | (with_reducible refine Below.setCell ?_ ?_ _) | go_size))).1 ⟨_, 0, none⟩ 1 1 (bunL ⟨s, i, g, m, x, y, vx, vy, hp, pw, lf⟩) (by rfl) (by rfl) (new_cellsN _ _ _ _ (by simp)) (bunL_one _) (by omega) (by unfold maxLen; omega) (by omega) ?_; intro v' w4 hs4 ht4 ho4)
        have HM := Lib.hid (HT.out.swap.snoc _ HB.out hs4 ht4 ho4).swap
        clear hs4 ht4 ho4
        go_roundg (l.length - (k + 1))
        case measure => omega
        case rel => exact ⟨k + 1, la, _, by go_num, by omega, by omega, by simp; omega, HM⟩
    · have t1 : ¬ (k : Int) < (l.length : Int) := by omega
      obtain rfl : k = l.length := by omega
      obtain ⟨pa, ca, hpa⟩ := sl_frm HT.out.1.1
      subst hpa
      obtain ⟨pb, cb, hpb⟩ := sl_frm HT.out.2.1.1
      subst hpb
      have hperm := HT.out.2.2.2
      rw [List.take_length] at hperm
      have hsp := hits_split r l la lb hperm HPW.out hl60
      have q1 := hits_any r (.slice p1 l.length c1) (.slice none 0 0) l [] wa (HN.out.bin.keep HT.out.1.2.1) ⟨none, 0, rfl, by simp [maxLen], fun _ => rfl, Nat.le_refl _, fun h => absurd rfl h⟩ (by omega) (by simp)
      have q2 := fun W (hW : Below wa.heap.size wa W) => hits_any r _ _ la lb W (HT.out.1.bin.keep hW) (HT.out.2.1.bin.keep hW) (by omega) (by omega)
      have q3 := fun W (hW : Below wa.heap.size wa W) => hits_any r _ _ lb la W (HT.out.2.1.bin.keep hW) (HT.out.1.bin.keep hW) (by omega) (by omega)
      have o1 := hitsF_ok r l []
      have o2 := hitsF_ok r la lb
      have o3 := hitsF_ok r lb la
      generalize hitsF r l [] = hA at *
      generalize hitsF r la lb = hX at *
      generalize hitsF r lb la = hY at *
      have hl1 : hA.length = hX.length + hY.length := by rw [hsp.length_eq, List.length_append]
      have HS := Lib.hid (fun s i g => by have := sumH_perm s i g hsp; rw [sumH_app] at this; exact this)
      have HLN := Lib.hid hl1
      have Q1 := Lib.hid q1
      have Q2 := Lib.hid q2
      have Q3 := Lib.hid q3
      have HO := Lib.hid (And.intro o1.1 (And.intro o2.1 o3.1))
      have y1 : hA.length ≤ 60 := by omega
      have y2 : hX.length ≤ 60 := by omega
      have y3 : hY.length ≤ 60 := by omega
      clear hsp q1 q2 q3 o1 o2 o3 hl1 hperm
      go_wp2_with fail
      refine Q1.out.mono ?_
      rintro e w2 ⟨vA, rfl, hZ1⟩
      obtain ⟨qA, eA, rfl⟩ := sl_frm hZ1.1
      have R1 := Lib.hid hZ1
      have b2 := hZ1.2.1
      have z2 := hZ1.2.1.size
      clear hZ1
      go_wp2_with fail
      refine (Q2.out _ b2).mono ?_
      rintro e w3 ⟨vX, rfl, hZ2⟩
      obtain ⟨qX, eX, rfl⟩ := sl_frm hZ2.1
      have R2 := Lib.hid hZ2
      have b3 := b2.trans (hZ2.2.1.mono z2)
      have z3 := hZ2.2.1.size
      have R1b := Lib.hid (R1.out.grow hZ2.2.1)
      clear hZ2 b2
      go_wp2_with fail
      refine (Q3.out _ b3).mono ?_
      rintro e w4 ⟨vY, rfl, hZ3⟩
      obtain ⟨qY, eY, rfl⟩ := sl_frm hZ3.1
      have R3 := Lib.hid hZ3.rin
      have R2b := Lib.hid (R2.out.grow hZ3.2.1).rin
      have R1c := Lib.hid (R1b.out.grow hZ3.2.1).rin
      have b4 := b3.trans (hZ3.2.1.mono b3.size)
      have B4 := Lib.hid b4
      have z4 := b4.size
      have hww := HN.out.2.1.trans (HT.out.1.2.1.mono HN.out.2.1.size)
      have HWW := Lib.hid hww
      have BL := Lib.hid (HN.out.bin.keep (HT.out.1.2.1.trans (b4.mono HT.out.1.2.1.size)))
      clear hZ3 b3 b4 hww R1 R2 R1b Q1 Q2 Q3 HT HN
      go_wp2_with fail
      go_loopg [13] l.length (fun kx sx wr => ∃ k : Nat, sx = .int .i64 k ∧ k ≤ l.length ∧ l.length - k ≤ kx ∧ Hid (Below w4.heap.size w4 wr))
      case atStart => exact ⟨0, by go_num, by omega, by omega, Lib.hid (Below.refl _ _)⟩
      case round =>
        obtain ⟨k, rfl, hk, hkx, HW⟩ := hrel
        obtain ⟨wd, rfl⟩ : ∃ wd : World, wd = wr := ⟨_, rfl⟩
        by_cases hlt : k < l.length
        · have t1 : (k : Int) < (l.length : Int) := by omega
          obtain ⟨b, hb⟩ : ∃ b, l[k]? = some b := ⟨_, List.getElem?_eq_getElem hlt⟩
          obtain ⟨gb, ob, cb', hv, lgb, u0, u1, u2⟩ := (BL.out.keep HW.out).cell3 hb
          simp only [Value.slice.injEq, true_and] at hv
          obtain ⟨rfl, rfl⟩ := hv
          obtain ⟨x0, x1, x2⟩ := ltw lgb
          have s1 := sumH_rng b.s b.i b.g hA HO.out.1
          have s2 := sumH_rng b.s b.i b.g hX HO.out.2.1
          have s3 := sumH_rng b.s b.i b.g hY HO.out.2.2
          have s4 := HS.out b.s b.i b.g
          have C1 := Lib.hid (fun W (hW : Below wd.heap.size wd W) => sum_any _ hA b.s b.i b.g W (R1c.out.keep (HW.out.trans (hW.mono HW.out.size))) y1 HO.out.1)
          have C2 := Lib.hid (fun W (hW : Below wd.heap.size wd W) => sum_any _ hX b.s b.i b.g W (R2b.out.keep (HW.out.trans (hW.mono HW.out.size))) y2 HO.out.2.1)
          have C3 := Lib.hid (fun W (hW : Below wd.heap.size wd W) => sum_any _ hY b.s b.i b.g W (R3.out.keep (HW.out.trans (hW.mono HW.out.size))) y3 HO.out.2.2)
          generalize sumH b.s b.i b.g hA = nA at *
          generalize sumH b.s b.i b.g hX = nX at *
          generalize sumH b.s b.i b.g hY = nY at *
          have ra : IntKind.i64.wrap (nX + nY) = nX + nY := by rw [IntKind.wrap_i64]; omega
          have rn : (nA != nX + nY) = false := by simp; omega
          have rn2 : nA = nX + nY := s4
          subst rn2
          clear hb s4
          go_wp2_with fail
          refine wp_region_more (by kernel_rfl) (by kernel_rfl) ?_
          repeat (go_big_quiet_step ((first | (go_at_call 27; with_reducible exact more_call (C1.out _ (more_below _ _ _))) | (go_at_call 27; with_reducible exact more_call (C2.out _ (more_below _ _ _))) | (go_at_call 27; with_reducible exact more_call (C3.out _ (more_below _ _ _))))))
          refine wpQuiet_nil ?_
          rintro _ ⟨pm, rfl⟩
          go_wp2_with fail
          go_roundg (l.length - (k + 1))
          case measure => omega
          case rel => exact ⟨k + 1, by go_num, by omega, by omega, Lib.hid (HW.out.trans (Below.mono (B := wd.heap.size) (by repeat' (first | (with_reducible exact Below.refl _ _) | (with_reducible assumption) | (with_reducible refine below_drewN ?_ _) | (with_reducible refine below_more _ _ _ ?_ ?_) | (with_reducible refine Below.alloc ?_ ?_ _) | (with_reducible refine Below.drew ?_) | (with_reducible refine Below.setCell ?_ ?_ _) | go_size)) HW.out.size))⟩
        · have t1 : ¬ (k : Int) < (l.length : Int) := by omega
          have hln : ((hA.length : Int) == (hX.length : Int) + (hY.length : Int)) = true := by have := HLN.out; simp; omega
          have hln2 : (hA.length : Int) = (hX.length : Int) + (hY.length : Int) := by have := HLN.out; omega
          go_wp2_with (go_at_call 17; refine (awake14 _).mono ?_; rintro e w' ⟨rfl, hb⟩; obtain ⟨d, os, rfl⟩ := more_of hb; clear hb)
          go_ret
          have b8 : Below w4.heap.size w4 (more wd d os) := HW.out.trans (Below.mono (B := wd.heap.size) (by repeat' (first | (with_reducible exact Below.refl _ _) | (with_reducible assumption) | (with_reducible refine below_drewN ?_ _) | (with_reducible refine below_more _ _ _ ?_ ?_) | (with_reducible refine Below.alloc ?_ ?_ _) | (with_reducible refine Below.drew ?_) | (with_reducible refine Below.setCell ?_ ?_ _) | go_size)) HW.out.size)
          exact ⟨rfl, HWW.out.trans ((B4.out.trans (b8.mono z4)).mono HWW.out.size)⟩

set_option maxRecDepth 100000 in
theorem lifted (os : Os) (started : os.Started) (H : Type) (enc : TypeId × Value → H) :
    ReturnsInHanded {} Try.checked os 6 .any (Rows.systemsSplitsSpec.pre6 enc Try.prog Try.f6 Rows.systemsSplitsRow.domain false) (Rows.systemsSplitsSpec.post enc Try.prog Try.f6 false true false false) := by
  refine returnsInHanded_of_change (C := Try.checked) ownKnob0 started (by kernel_rfl) Try.func6
    (ChangeSpec.witness6 (enc := enc) (C := Try.checked) false ⟨#[], #[.int .i64 0, .slice none 0 0, .int .i64 0], []⟩ 8 (by kernel_rfl) (by kernel_rfl) (by kernel_rfl) (by kernel_rfl)) ?_
  intro W base args ds gs before hval0 hW _ _
  have hval : ∀ (j : Nat) t v, Try.f6.params[j]? = some t → args[j]? = some v → Value.okWide Try.prog W .any base t v := hval0
  have hread : ∀ t ∈ Try.f6.params.toList, Try.prog.readableRec t = true ∧ t < Try.prog.types.size := by
    rw [Try.params6]
    intro t ht
    simp only [List.mem_cons, List.not_mem_nil, or_false] at ht
    rcases ht with rfl | rfl | rfl
    all_goals exact ⟨by kernel_rfl, of_decide_eq_true (by kernel_rfl)⟩
  have hW' := hW
  obtain ⟨p, q, hA0, hV, -, -⟩ := hW'
  have hA : DataW.TrodAll enc Try.prog W 0 (fun _ => true) true Try.f6.params.toList args.toList ds p := hA0
  rw [Try.params6] at hA hval
  obtain ⟨v0, vs0, d0, ds0, p0, q0, hargs, rfl, rfl, h0, r0⟩ := trodAll_cons hA
  obtain ⟨v1, vs1, d1, ds1, p1, q1, rfl, rfl, rfl, h1, r1⟩ := trodAll_cons r0
  obtain ⟨v2, vs2, d2, ds2, p2, q2, rfl, rfl, rfl, h2, r2⟩ := trodAll_cons r1
  obtain ⟨rfl, rfl, rfl⟩ := trodAll_nil r2
  obtain rfl : args = #[v0, v1, v2] := by cases args; simp_all
  obtain ⟨rfl, rfl⟩ := trodVars_none hV
  have k0 := hval 0 3 v0 rfl rfl
  have k1 := hval 1 22 v1 rfl rfl
  have k2 := hval 2 3 v2 rfl rfl
  clear hval hval0 hA0 hV hA
  obtain ⟨r, rfl, rfl, rfl, _⟩ := open_int Try.underlying3 k0 h0
  obtain ⟨l1, hl1, hf1⟩ := buns_in k1 h1
  obtain ⟨q, rfl, rfl, rfl, _⟩ := open_int Try.underlying3 k2 h2
  exact (walk r q _ l1 W hl1 hf1).mono fun e W' ⟨he, hb⟩ => ⟨_, he, post_true rfl rfl hread rfl hW hb⟩

/-- SystemsSplits: true for every input; the arguments stay. -/
theorem proved : Rows.SystemsSplitsSaid :=
  OpenClaim.holds_of_wide 6 Try.f6 rfl rfl rfl rfl rfl rfl rfl ⟨rfl, rfl, rfl, rfl, rfl⟩ rfl rfl rfl rfl rfl (by kernel_rfl) Try.func6 (by kernel_rfl)
    (of_decide_eq_true (by kernel_rfl)) (by unfold Func.isWrapper; first | (rw [if_pos (by decide +kernel)]; kernel_rfl) | (rw [if_neg (by decide +kernel)]; exact ⟨rfl, rfl⟩))
    (fun os started H enc _ => lifted os started H enc)
end Go.Proofs.Ytloampfkjldmnaa.systemsSplits
