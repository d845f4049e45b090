/-
  Chapter texts RtA GhW GhO Prt Tol: what the claim reaches of them. Conditions stand at each theorem.
-/
import Derived.Test.YtoimjjhopljdmaaGreatY19
import Derived.Test.YtoimjjhopljdmaaGreatY18
import Derived.Test.YtoimjjhopljdmaaGreatY02
import Derived.Test.YtoimjjhopljdmaaGreatY14
import Derived.Test.YtoimjjhopljdmaaGreatY12
import Derived.Test.YtoimjjhopljdmaaGreatY13
import Derived.Test.YtoimjjhopljdmaaGreatY01
namespace Go.Proofs.YtoimjjhopljdmaaGreat
open Go.RowKit

theorem befN_before (a b : Nid) : befN a b = beforeB a.s a.i a.g b.s b.i b.g := by
  rw [cmpId_before]
  cases h : befN a b with
  | true => rw [befN_iff] at h; exact (decide_eq_true h).symm
  | false =>
    have : ¬ cmpN a b < 0 := fun h2 => by rw [(befN_iff a b).2 h2] at h; cases h
    exact (decide_eq_false this).symm
theorem idEq_nid (a b : Nid) : idEq a.s a.i a.g b.s b.i b.g = true ↔ a = b := by
  obtain ⟨s, i, g⟩ := a
  obtain ⟨s', i', g'⟩ := b
  unfold idEq
  simp [and_assoc]
theorem putN_has {l : List Nid} {t : Nat} {x n : Nid} (h : l[t]? = some x) (he : idEq x.s x.i x.g n.s n.i n.g = true) : putN l n = l := by
  obtain rfl := (idEq_nid x n).1 he
  unfold putN
  rw [if_pos (by simpa using List.mem_of_getElem? h)]
theorem putN_new {l : List Nid} {n : Nid} (h : ∀ j y, j < l.length → l[j]? = some y → idEq y.s y.i y.g n.s n.i n.g = false) : putN l n = witE n (witG n l) := by
  unfold putN
  rw [if_neg]
  intro hc
  simp only [List.contains_iff_mem] at hc
  obtain ⟨j, hj, e⟩ := List.mem_iff_getElem.1 hc
  have := h j _ hj (List.getElem?_eq_getElem hj)
  rw [(idEq_nid _ _).2 e] at this; cases this
theorem witG_len (n : Nid) (l : List Nid) (t : Nat) : (witG n (l.take t)).1.length ≤ 2 * t := by
  have key : ∀ l : List Nid, (witG n l).1.length ≤ 2 * l.length := fun l => by
    have k2 : ∀ (l : List Nid) (st : List Nid × Bool), (l.foldl (witS n) st).1.length ≤ st.1.length + 2 * l.length := fun l => by
      induction l with
      | nil => intro st; simp
      | cons x l ih =>
        intro st
        rw [List.foldl_cons]
        have := ih (witS n st x)
        have := witS_len n st x
        simp only [List.length_cons]; omega
    simpa [witG] using k2 l ([], false)
  have := key (l.take t)
  rw [List.length_take] at this
  omega
set_option maxRecDepth 100000 in
set_option maxHeartbeats 2000000 in
theorem with15_any (v : Value) (l : List Nid) (s i g : Int) (w : World) (hb0 : RIb nidL w v l) (hl : l.length ≤ 1000000) :
    Calls Tryz.prog 54 #[v, .agg #[.int .i64 s, .int .i64 i, .int .i64 g]] w fun e w' => ∃ v', e = .returned v' ∧ Below w.heap.size w w' ∧ RIb nidL w' v' (putN l ⟨s, i, g⟩) ∧ OrNew w v v' := by
  obtain ⟨j0, hj0, hy0, hy1, hy2⟩ := info_partsG info_nid
  have h := hb0.1
  have HL := Lib.hid h
  have HB0 := Lib.hid hb0
  clear hb0
  have HBF := Lib.hid (fun (x : Nid) W => before_any s i g x.s x.i x.g W)
  have HST := Lib.hid (fun t x h => witG_step (n := ⟨s, i, g⟩) (l := l) (t := t) (x := x) h)
  have HLN := Lib.hid (fun t => witG_len ⟨s, i, g⟩ l t)
  have HYES := Lib.hid (fun t x h he => putN_has (l := l) (t := t) (x := x) (n := ⟨s, i, g⟩) h he)
  have HNO := Lib.hid (fun h => putN_new (l := l) (n := ⟨s, i, g⟩) h)
  have HEND := Lib.hid (show witG ⟨s, i, g⟩ (l.take l.length) = witG ⟨s, i, g⟩ l by rw [List.take_length])
  obtain ⟨p1, e1, rfl, hmx, _⟩ := h
  unfold maxLen at hmx
  go_enter Tryz.func54, Tryz.ntmps54
  go_upto_region 1 with fail
  generalize hw1 : World.alloc w _ = w1
  have hb1 : Below w.heap.size w w1 := by rw [← hw1]; exact bg
  have hcf : ∀ u, w1.cell? ⟨w.heap.size, u, none⟩ = (#[.int .i64 s, .int .i64 i, .int .i64 g] : Array Value)[u]? := fun u => by rw [← hw1]; simp
  have hs2 : w.heap.size < w1.heap.size := by rw [← hw1]; simp
  have HB1 := Lib.hid hb1
  have HCF := Lib.hid hcf
  clear hb1 hcf hw1
  go_wp2_with fail
  go_loopg [5, 6, 7] l.length (fun kx o pu sx wr => ∃ t : Nat, sx = .int .i64 t ∧ t ≤ l.length ∧ l.length - t ≤ kx ∧ pu = .bool (witG ⟨s, i, g⟩ (l.take t)).2 ∧ Hid (RNew nidL 30 3 w1 wr o (witG ⟨s, i, g⟩ (l.take t)).1) ∧ Hid (∀ j y, j < t → l[j]? = some y → idEq y.s y.i y.g s i g = false))
  case atStart => exact ⟨0, by go_num, by omega, by omega, rfl, Lib.hid (RNew.nil w1), Lib.hid (fun j y hj => absurd hj (by omega))⟩
  case round =>
    obtain ⟨t, rfl, ht, hkx, rfl, HN, HNE⟩ := hrel
    obtain ⟨wa, rfl⟩ : ∃ wa : World, wa = wr := ⟨_, rfl⟩
    have hbl := HN.out.2.1
    have hsl := hbl.size
    have HCA := Lib.hid (fun W (hW : Below wa.heap.size wa W) j => ((hbl.trans (hW.mono hbl.size)).cell (p := ⟨w.heap.size, j, none⟩) hs2).trans (HCF.out j))
    have HLA := Lib.hid (fun W (hW : Below wa.heap.size wa W) => HL.out.keep (HB1.out.trans ((hbl.trans (hW.mono hbl.size)).mono HB1.out.size)))
    have HBL := Lib.hid (HB1.out.trans (hbl.mono HB1.out.size))
    have s2a : w.heap.size < wa.heap.size := by omega
    obtain ⟨f0, f1, f2⟩ := ltz s2a
    have x0 := HCA.out wa (Below.refl _ _) 0
    have x1 := HCA.out wa (Below.refl _ _) 1
    have x2 := HCA.out wa (Below.refl _ _) 2
    simp at x0 x1 x2
    clear hbl
    have hal := HLN.out t
    by_cases hlt : t < l.length
    · have t1 : (t : Int) < (l.length : Int) := by omega
      obtain ⟨x, hx⟩ : ∃ x, l[t]? = some x := ⟨_, List.getElem?_eq_getElem hlt⟩
      obtain ⟨gb, ob, cb, hv, hgb, hcb⟩ := (HLA.out wa (Below.refl _ _)).cells nidL_len hx
      simp only [Value.slice.injEq, true_and] at hv
      obtain ⟨rfl, rfl⟩ := hv
      have c0 := hcb 0 _ rfl
      have c1 := hcb 1 _ rfl
      have c2 := hcb 2 _ rfl
      simp only [Nat.add_zero] at c0
      obtain ⟨e0, e1', e2'⟩ := ltz hgb
      have HCB := Lib.hid hcb
      have HSX := Lib.hid (HST.out t x hx)
      have HYX := Lib.hid (HYES.out t x hx)
      have HBX := Lib.hid (HBF.out x)
      have HX := Lib.hid hx
      clear hx hcb
      generalize witG ⟨s, i, g⟩ (l.take t) = st at *
      obtain ⟨acc, pu⟩ := st
      simp only at hal
      obtain ⟨po, co, hpo⟩ := sl_frm HN.out.1
      subst hpo
      obtain ⟨xs, xi, xg⟩ := x
      simp only at HYX HBX c0 c1 c2
      cases hid : idEq xs xi xg s i g with
      | true =>
        have hpt := HYX.out hid
        go_wp2_with fail
        refine wp_region_more (by kernel_rfl) (by kernel_rfl) ?_
        repeat (go_big_quiet_step (fail))
        refine wpQuiet_nil ?_
        rintro _ ⟨pq1, rfl⟩
        go_wp2_with fail
        go_ret
        exact ⟨_, rfl, HBL.out.trans (Below.mono (B := wa.heap.size) bg HBL.out.size), by rw [hpt]; exact HB0.out.keep (HBL.out.trans (Below.mono (B := wa.heap.size) bg HBL.out.size)), .inl rfl⟩
      | false =>
        have HNX := Lib.hid (fun j y (hj : j < t + 1) (hy : l[j]? = some y) => show idEq y.s y.i y.g s i g = false by
          by_cases hjt : j = t
          · subst hjt
            obtain rfl := Option.some.inj (HX.out.symm.trans hy)
            exact hid
          · exact HNE.out j y (by omega) hy)
        cases pu with
        | true =>
          go_wp2_with fail
          refine wp_region_more (by kernel_rfl) (by kernel_rfl) ?_
          repeat (go_big_quiet_step (fail))
          refine wpQuiet_nil ?_
          rintro _ ⟨pq1, rfl⟩
          go_wp2_with fail
          refine wp_region_more (by kernel_rfl) (by kernel_rfl) ?_
          repeat (go_big_quiet_step (fail))
          refine wpQuiet_nil ?_
          rintro _ ⟨pq2, rfl⟩
          go_wp2_with (at_builtin; refine wpList_append_sl _ (by rfl) _ _ 56 (by rfl) 30 j0 _ 3 24 Tryz.underlying56 hj0 hy0 hy1 hy2 rfl (by omega) _ acc.length (cellsR nidL acc) (by rfl) (HN.out.grow bg).1 ⟨_, 0, none⟩ 1 1 (nidL ⟨xs, xi, xg⟩) (by rfl) (by rfl) (new_cellsN _ _ _ _ (by simp)) (nidL_one _) (by omega) (by unfold maxLen; omega) (by omega) ?_; intro v' w4 hs4 ht4 ho4)
          have hm := (HN.out.grow bg).snoc hs4 ht4 ho4
          have HM := Lib.hid hm
          clear hs4 ht4 ho4 hm
          go_roundg (l.length - (t + 1))
          case measure => omega
          case rel => exact ⟨t + 1, by go_num, by omega, by omega, by rw [HSX.out]; rfl, Lib.hid (by rw [HSX.out]; exact HM.out), HNX⟩
        | false =>
          cases hbv : beforeB s i g xs xi xg with
          | false =>
            have hbx := HBX.out
            rw [hbv] at hbx
            have HBX2 := Lib.hid hbx
            have hws : witS ⟨s, i, g⟩ (acc, false) ⟨xs, xi, xg⟩ = (acc ++ [⟨xs, xi, xg⟩], false) := by
              unfold witS
              rw [befN_before]
              simp only [hbv, Bool.and_false, Bool.false_eq_true, if_false]
            rw [hws] at HSX
            clear hbx HBX hbv hws
            go_wp2_with fail
            refine wp_region_more (by kernel_rfl) (by kernel_rfl) ?_
            repeat (go_big_quiet_step (fail))
            refine wpQuiet_nil ?_
            rintro _ ⟨pq1, rfl⟩
            go_wp2_with fail
            refine wp_region_more (by kernel_rfl) (by kernel_rfl) ?_
            repeat (go_big_quiet_step ((first | (go_at_call 16; exact more_call (HBX2.out _)))))
            refine wpQuiet_nil ?_
            rintro _ ⟨pq2, rfl⟩
            go_wp2_with (at_builtin; refine wpList_append_sl _ (by rfl) _ _ 56 (by rfl) 30 j0 _ 3 24 Tryz.underlying56 hj0 hy0 hy1 hy2 rfl (by omega) _ acc.length (cellsR nidL acc) (by rfl) (HN.out.grow bg).1 ⟨_, 0, none⟩ 1 1 (nidL ⟨xs, xi, xg⟩) (by rfl) (by rfl) (new_cellsN _ _ _ _ (by simp)) (nidL_one _) (by omega) (by unfold maxLen; omega) (by omega) ?_; intro v' w4 hs4 ht4 ho4)
            have hm := (HN.out.grow bg).snoc hs4 ht4 ho4
            have HM := Lib.hid hm
            clear hs4 ht4 ho4 hm
            go_roundg (l.length - (t + 1))
            case measure => omega
            case rel => exact ⟨t + 1, by go_num, by omega, by omega, by rw [HSX.out], Lib.hid (by rw [HSX.out]; exact HM.out), HNX⟩
          | true =>
            have hbx := HBX.out
            rw [hbv] at hbx
            have HBX2 := Lib.hid hbx
            have hws : witS ⟨s, i, g⟩ (acc, false) ⟨xs, xi, xg⟩ = (acc ++ [⟨s, i, g⟩] ++ [⟨xs, xi, xg⟩], true) := by
              unfold witS
              rw [befN_before]
              simp only [hbv, Bool.not_false, Bool.and_self, if_true]
            rw [hws] at HSX
            clear hbx HBX hbv hws
            go_wp2_with fail
            refine wp_region_more (by kernel_rfl) (by kernel_rfl) ?_
            repeat (go_big_quiet_step (fail))
            refine wpQuiet_nil ?_
            rintro _ ⟨pq1, rfl⟩
            go_wp2_with fail
            refine wp_region_more (by kernel_rfl) (by kernel_rfl) ?_
            repeat (go_big_quiet_step ((first | (go_at_call 16; exact more_call (HBX2.out _)))))
            refine wpQuiet_nil ?_
            rintro _ ⟨pq2, rfl⟩
            go_upto_region 11 with (at_builtin; refine wpList_append_sl _ (by rfl) _ _ 56 (by rfl) 30 j0 _ 3 24 Tryz.underlying56 hj0 hy0 hy1 hy2 rfl (by omega) _ acc.length (cellsR nidL acc) (by rfl) (HN.out.grow bg).1 ⟨_, 0, none⟩ 1 1 (nidL ⟨s, i, g⟩) (by rfl) (by rfl) (new_cellsN _ _ _ _ (by simp)) (nidL_one _) (by omega) (by unfold maxLen; omega) (by omega) ?_; intro v' w4 hs4 ht4 ho4)
            have hm := (HN.out.grow bg).snoc hs4 ht4 ho4
            obtain ⟨acc2, hacc2⟩ : ∃ a2, a2 = acc ++ [(⟨s, i, g⟩ : Nid)] := ⟨_, rfl⟩
            rw [← hacc2] at hm HSX
            have hal2 : acc2.length ≤ 2 * t + 1 := by rw [hacc2]; simp; omega
            have HM := Lib.hid hm
            clear hs4 ht4 ho4 hacc2 x0 x1 x2 c0 c1 c2 f0 f1 f2 e0 e1' e2'
            obtain ⟨p4, c4, hp4⟩ := sl_frm hm.1
            subst hp4
            have hb4 := hm.2.1
            have hz4 := hb4.size
            have s24 : w.heap.size < w4.heap.size := by omega
            have x0 := (hb4.cell (p := ⟨w.heap.size, 0, none⟩) hs2).trans (HCF.out 0)
            have x1 := (hb4.cell (p := ⟨w.heap.size, 1, none⟩) hs2).trans (HCF.out 1)
            have x2 := (hb4.cell (p := ⟨w.heap.size, 2, none⟩) hs2).trans (HCF.out 2)
            simp at x0 x1 x2
            obtain ⟨gb2, ob2, cb2, hv2, hgb2, hcb2⟩ := (HL.out.keep (HB1.out.trans (hb4.mono HB1.out.size))).cells nidL_len HX.out
            simp only [Value.slice.injEq, Option.some.injEq, Addr.mk.injEq, true_and, and_true] at hv2
            obtain ⟨⟨rfl, rfl⟩, rfl⟩ := hv2
            have c0 := hcb2 0 _ rfl
            have c1 := hcb2 1 _ rfl
            have c2 := hcb2 2 _ rfl
            simp only [Nat.add_zero] at c0
            clear hm hb4 hcb2 hgb
            obtain ⟨e0, e1', e2'⟩ := ltz hgb2
            go_wp2_with (at_builtin; refine wpList_append_sl _ (by rfl) _ _ 56 (by rfl) 30 j0 _ 3 24 Tryz.underlying56 hj0 hy0 hy1 hy2 rfl (by omega) _ acc2.length (cellsR nidL acc2) (by rfl) (HM.out.grow bg).1 ⟨_, 0, none⟩ 1 1 (nidL ⟨xs, xi, xg⟩) (by rfl) (by rfl) (new_cellsN _ _ _ _ (by simp)) (nidL_one _) (by omega) (by unfold maxLen; omega) (by omega) ?_; intro v' w4 hs4 ht4 ho4)
            have hm := (HM.out.grow bg).snoc hs4 ht4 ho4
            have HM2 := Lib.hid hm
            clear hs4 ht4 ho4 hm
            go_roundg (l.length - (t + 1))
            case measure => omega
            case rel => exact ⟨t + 1, by go_num, by omega, by omega, by rw [HSX.out], Lib.hid (by rw [HSX.out]; exact HM2.out), HNX⟩
    · have t1 : ¬ (t : Int) < (l.length : Int) := by omega
      obtain rfl : t = l.length := by omega
      have HNN := Lib.hid (HNO.out HNE.out)
      rw [HEND.out] at HN hal ⊢
      generalize witG ⟨s, i, g⟩ l = st at *
      obtain ⟨acc, pu⟩ := st
      simp only at hal
      obtain ⟨po, co, hpo⟩ := sl_frm HN.out.1
      subst hpo
      cases pu with
      | true =>
        have hE : witE ⟨s, i, g⟩ (acc, true) = acc := rfl
        rw [hE] at HNN
        go_wp2_with fail
        go_ret
        exact ⟨_, rfl, HBL.out, by rw [HNN.out]; exact RIb.of_sl HN.out.1, .inr fun q hq => Nat.le_trans HB1.out.size (HN.out.2.2 q hq)⟩
      | false =>
        have hE : witE ⟨s, i, g⟩ (acc, false) = acc ++ [⟨s, i, g⟩] := rfl
        rw [hE] at HNN
        go_wp2_with (at_builtin; refine wpList_append_sl _ (by rfl) _ _ 56 (by rfl) 30 j0 _ 3 24 Tryz.underlying56 hj0 hy0 hy1 hy2 rfl (by omega) _ acc.length (cellsR nidL acc) (by rfl) (HN.out.grow bg).1 ⟨_, 0, none⟩ 1 1 (nidL ⟨s, i, g⟩) (by rfl) (by rfl) (new_cellsN _ _ _ _ (by simp)) (nidL_one _) (by omega) (by unfold maxLen; omega) (by omega) ?_; intro v' w4 hs4 ht4 ho4)
        have hm := (HN.out.grow bg).snoc hs4 ht4 ho4
        have HM := Lib.hid hm
        clear hs4 ht4 ho4 hm
        go_ret
        exact ⟨_, rfl, HB1.out.trans (HM.out.2.1.mono HB1.out.size), by rw [HNN.out]; exact RIb.of_sl HM.out.1, .inr fun q hq => Nat.le_trans HB1.out.size (HM.out.2.2 q hq)⟩
def hitN (hs : List Hit) (s i g : Int) : Int := match hs.find? fun h => idEq h.s h.i h.g s i g with
  | some h => h.n
  | none => 0
set_option maxRecDepth 100000 in
set_option maxHeartbeats 2000000 in
theorem hit15_any (v : Value) (hs : List Hit) (s i g : Int) (w : World) (h : RIn hitL w v hs) :
    Calls Tryz.prog 53 #[v, .agg #[.int .i64 s, .int .i64 i, .int .i64 g]] w fun e w' => e = .returned (.int .i64 (hitN hs s i g)) ∧ Below w.heap.size w w' := by
  have HR := Lib.hid h
  obtain ⟨p1, e1, rfl, hmx, _⟩ := h
  unfold maxLen at hmx
  obtain ⟨zr, hzr⟩ : ∃ zr, hitN hs s i g = zr := ⟨_, rfl⟩
  rw [hzr]
  have HZR := Lib.hid hzr
  clear hzr
  go_enter Tryz.func53, Tryz.ntmps53
  go_upto_region 1 with fail
  generalize hw1 : World.alloc w _ = w1
  have hb1 : Below w.heap.size w w1 := by rw [← hw1]; exact bg
  have hcf : ∀ u, w1.cell? ⟨w.heap.size, u, none⟩ = (#[.int .i64 s, .int .i64 i, .int .i64 g] : Array Value)[u]? := fun u => by rw [← hw1]; simp
  have hs2 : w.heap.size < w1.heap.size := by rw [← hw1]; simp
  have HB1 := Lib.hid hb1
  have HCF := Lib.hid hcf
  clear hb1 hcf hw1
  go_wp2_with fail
  go_loopg [5] hs.length (fun kx sx wr => ∃ t : Nat, sx = .int .i64 t ∧ t ≤ hs.length ∧ hs.length - t ≤ kx ∧ Hid (Below w1.heap.size w1 wr) ∧ Hid (∀ j y, j < t → hs[j]? = some y → idEq y.s y.i y.g s i g = false))
  case atStart => exact ⟨0, by go_num, by omega, by omega, Lib.hid (Below.refl _ _), Lib.hid (fun j y hj => absurd hj (by omega))⟩
  case round =>
    obtain ⟨t, rfl, ht, hkx, HBW, HNO⟩ := hrel
    obtain ⟨wa, rfl⟩ : ∃ wa : World, wa = wr := ⟨_, rfl⟩
    have hz := HBW.out.size
    have a1 : w.heap.size < wa.heap.size := by omega
    obtain ⟨z0, z1, z2⟩ := ltz a1
    have x0 := (HBW.out.cell (p := ⟨w.heap.size, 0, none⟩) hs2).trans (HCF.out 0); simp at x0
    have x1 := (HBW.out.cell (p := ⟨w.heap.size, 1, none⟩) hs2).trans (HCF.out 1); simp at x1
    have x2 := (HBW.out.cell (p := ⟨w.heap.size, 2, none⟩) hs2).trans (HCF.out 2); simp at x2
    have HBX := Lib.hid (HB1.out.trans (HBW.out.mono HB1.out.size))
    by_cases hlt : t < hs.length
    · have t1 : (t : Int) < (hs.length : Int) := by omega
      obtain ⟨h0, hx0⟩ : ∃ h0, hs[t]? = some h0 := ⟨_, List.getElem?_eq_getElem hlt⟩
      obtain ⟨gb, ob, cb, hv, hgb, hcb⟩ := (HR.out.keep HBX.out).cells hitL_len hx0
      simp only [Value.slice.injEq, true_and] at hv
      obtain ⟨rfl, rfl⟩ := hv
      have c0 := hcb 0 _ rfl
      have c1 := hcb 1 _ rfl
      have c2 := hcb 2 _ rfl
      have c3 := hcb 3 _ rfl
      simp only [Nat.add_zero] at c0
      obtain ⟨e0, e1, e2⟩ := ltz hgb
      have HX := Lib.hid hx0
      clear hcb hx0
      obtain ⟨hs', hi, hg, hn⟩ := h0
      simp only at c0 c1 c2 c3
      cases hid : idEq hs' hi hg s i g with
      | true =>
        have hres : zr = hn := by
          rw [← HZR.out]
          unfold hitN
          rw [find_at (p := fun h => idEq h.s h.i h.g s i g) HX.out hid HNO.out]
        subst hres
        go_wp2_with fail
        refine wp_region_more (by kernel_rfl) (by kernel_rfl) ?_
        repeat (go_big_quiet_step (fail))
        refine wpQuiet_nil ?_
        rintro _ ⟨pq1, rfl⟩
        go_wp2_with fail
        go_ret
        exact ⟨rfl, HBX.out.trans (Below.mono (B := wa.heap.size) bg HBX.out.size)⟩
      | false =>
        go_wp2_with fail
        refine wp_region_more (by kernel_rfl) (by kernel_rfl) ?_
        repeat (go_big_quiet_step (fail))
        refine wpQuiet_nil ?_
        rintro _ ⟨pq1, rfl⟩
        go_wp2_with fail
        go_roundg (hs.length - (t + 1))
        case measure => omega
        case rel => exact ⟨t + 1, by go_num, by omega, by omega, Lib.hid (HBW.out.trans (Below.mono (B := wa.heap.size) bg HBW.out.size)), Lib.hid (fun j y hj hy => by
          by_cases hjt : j = t
          · subst hjt
            obtain rfl := Option.some.inj (HX.out.symm.trans hy)
            exact hid
          · exact HNO.out j y (by omega) hy)⟩
    · have t1 : ¬ (t : Int) < (hs.length : Int) := by omega
      have hres : zr = 0 := by
        rw [← HZR.out]
        unfold hitN
        rw [find_no (p := fun h => idEq h.s h.i h.g s i g) fun j y hj hy => HNO.out j y (by omega) hy]
      subst hres
      go_wp2_with fail
      go_ret
      exact ⟨rfl, HBX.out⟩
end Go.Proofs.YtoimjjhopljdmaaGreat
namespace Go.Proofs.YtoimjjhopljdmaaGreat
open Go.RowKit

def AlikeG (W : World) (L1 L2 : List Gh) : Prop := L1.length = L2.length ∧ ∀ (k : Nat) g1 g2, L1[k]? = some g1 → L2[k]? = some g2 → g1.f = g2.f ∧ g1.t = g2.t ∧ ∃ l, BIn W (.slice g1.p g1.n g1.c) l ∧ BIn W (.slice g2.p g2.n g2.c) l
theorem AlikeG.keep {W W' : World} {L1 L2 : List Gh} (h : AlikeG W L1 L2) (hb : Below W.heap.size W W') : AlikeG W' L1 L2 :=
  ⟨h.1, fun k g1 g2 h1 h2 => let ⟨a, b, l, c, d⟩ := h.2 k g1 g2 h1 h2; ⟨a, b, l, c.keep hb, d.keep hb⟩⟩
end Go.Proofs.YtoimjjhopljdmaaGreat
namespace Go.Proofs.YtoimjjhopljdmaaGreat
open Go.RowKit Go.Sort
theorem stF_perm (l : List Bun) : (stableF cmpBun l).Perm l := by
  unfold stableF
  have h := (List.mergeSort_perm l.zipIdx fun x y => !ltT cmpBun y x).map fun x => x.1
  have e : l.zipIdx.map (fun x => x.1) = l := by simp
  exact h.trans (List.Perm.of_eq e)
def sameId (a b : Bun) : Prop := a.s = b.s ∧ a.i = b.i ∧ a.g = b.g
def UnId (l : List Bun) : Prop := l.Pairwise fun a b => ¬ sameId a b
theorem UnId.perm {l l' : List Bun} (h : UnId l) (hp : l.Perm l') : UnId l' := List.Pairwise.perm h hp fun {_ _} hn hs => hn ⟨hs.1.symm, hs.2.1.symm, hs.2.2.symm⟩
theorem UnId.sub {l l' : List Bun} (h : UnId l) (hs : l'.Sublist l) : UnId l' := List.Pairwise.sublist hs h
theorem UnId.one {l : List Bun} (h : UnId l) {a b : Bun} (ha : a ∈ l) (hb : b ∈ l) (hs : sameId a b) : a = b := by
  obtain ⟨i, hi, rfl⟩ := List.mem_iff_getElem.1 ha
  obtain ⟨j, hj, rfl⟩ := List.mem_iff_getElem.1 hb
  rcases Nat.lt_trichotomy i j with h1 | h1 | h1
  · exact absurd hs (List.pairwise_iff_getElem.1 h i j hi hj h1)
  · subst h1; rfl
  · exact absurd ⟨hs.1.symm, hs.2.1.symm, hs.2.2.symm⟩ (List.pairwise_iff_getElem.1 h j i hj hi h1)
theorem stF_pair (l : List Bun) : (stableF cmpBun l).Pairwise fun a b => bef b a = false := by rw [← rSort_stable]; exact rSort_pair l
theorem bef_anti {a b : Bun} (h1 : bef b a = false) (h2 : bef a b = false) : sameId a b := by
  rw [bef_cmp, decide_eq_false_iff_not] at h1 h2
  have hn := cmpBun_ok.neg b a
  exact (cmpId_zero _ _ _ _ _ _).1 (by unfold cmpBun at *; omega)
theorem stF_rise {l : List Bun} (hu : UnId l) : (stableF cmpBun l).Pairwise fun a b => bef a b = true := by
  have h1 := stF_pair l
  have h2 := hu.perm (stF_perm l).symm
  refine (h1.and h2).imp fun {a b} h => ?_
  cases hb : bef a b with
  | true => rfl
  | false => exact absurd (bef_anti h.1 hb) h.2

def partF (c : Cfg) (k : Int) (l : List Bun) : List Bun := l.filter fun b => ofF c b.x b.y == k
def wantF (c : Cfg) (k : Int) (l : List Bun) : List Bun := l.filter (forB c k)
end Go.Proofs.YtoimjjhopljdmaaGreat
namespace Go.Proofs.YtoimjjhopljdmaaGreat
open Go.RowKit

theorem filter_step {α : Type} (f : α → Bool) {l : List α} {t : Nat} {x : α} (h : l[t]? = some x) : (l.take (t + 1)).filter f = (l.take t).filter f ++ (if f x then [x] else []) := by
  have hlt := (List.getElem?_eq_some_iff.1 h).1
  rw [List.take_succ_eq_append_getElem hlt, List.filter_append, (List.getElem?_eq_some_iff.1 h).2]
  cases hh : f x <;> simp [hh]
end Go.Proofs.YtoimjjhopljdmaaGreat
namespace Go.Proofs.YtoimjjhopljdmaaGreat
open Go.RowKit

theorem rin_zero {β : Type} {enc : β → List Value} (w : World) : RIn enc w (.slice Option.none 0 0) ([] : List β) := ⟨Option.none, 0, rfl, by simp [maxLen], fun _ => rfl, Nat.le_refl _, fun h => absurd rfl h⟩
end Go.Proofs.YtoimjjhopljdmaaGreat
