/- Texts RtA GhW Tol RtB SyE: what the claim reaches of them. Conditions stand at each theorem. -/
import Derived.Test.YtoimjjhopljdmaaGreatP18
set_option maxRecDepth 100000
set_option maxHeartbeats 8000000
namespace Go.Proofs.YtoimjjhopljdmaaGreat
open Go.RowKit
open Go.Proofs.Tryz (prog)
open Go.Value (int)
open Go.IntKind (i64)
open Go.Lib (hid)
theorem befN_before (a b : Nid) : befN a b = beforeB a.s a.i a.g b.s b.i b.g := by
 rw [cmpId_before]
 cases h : befN a b with
 | true => rw [befN_iff] at h; exact (decide_eq_true h).symm
 | false =>
   have : ¬ cmpN a b < 0 := fun h2 => by rw [(befN_iff a b).2 h2] at h; cases h
   exact (decide_eq_false this).symm
theorem idEq_nid (a b : Nid) : idEq a.s a.i a.g b.s b.i b.g = true ↔ a = b := by
 obtain ⟨s, i, g⟩ := a
 obtain ⟨s', i', g'⟩ := b
 unfold idEq
 simp [and_assoc]
theorem putN_has {l : List Nid} {t : Nat} {x n : Nid} (h : l[t]? = some x) (he : idEq x.s x.i x.g n.s n.i n.g = true) : putN l n = l := by
 obtain rfl := (idEq_nid x n).1 he
 unfold putN
 rw [if_pos (by simpa using List.mem_of_getElem? h)]
theorem putN_new {l : List Nid} {n : Nid} (h : ∀ j y, j < l.length → l[j]? = some y → idEq y.s y.i y.g n.s n.i n.g = false) : putN l n = witE n (witG n l) := by
 unfold putN
 rw [if_neg]
 intro hc
 simp only [List.contains_iff_mem] at hc
 obtain ⟨j, hj, e⟩ := List.mem_iff_getElem.1 hc
 have := h j _ hj (List.getElem?_eq_getElem hj)
 rw [(idEq_nid _ _).2 e] at this; cases this
theorem witG_len (n : Nid) (l : List Nid) (t : Nat) : (witG n (l.take t)).1.length ≤ 2 * t := by
 have key : ∀ l : List Nid, (witG n l).1.length ≤ 2 * l.length := fun l => by
  have k2 : ∀ (l : List Nid) (st : List Nid × Bool), (l.foldl (witS n) st).1.length ≤ st.1.length + 2 * l.length := fun l => by
   induction l with
   | nil => intro st; simp
   | cons x l ih =>
     intro st
     rw [List.foldl_cons]
     have := ih (witS n st x)
     have := witS_len n st x
     simp only [List.length_cons]; omega
  simpa [witG] using k2 l ([], false)
 have := key (l.take t)
 rw [List.length_take] at this
 omega
theorem with15_any (v : Value) (l : List Nid) (s i g : Int) (w : World) (hb0 : RIb nidL w v l) (hl : l.length ≤ 1000000) :
 Calls prog 54 #[v, .agg #[int i64 s, int i64 i, int i64 g]] w fun e w' => ∃ v', e = .returned v' ∧ Below w.heap.size w w' ∧ RIb nidL w' v' (putN l ⟨s, i, g⟩) ∧ OrNew w v v' := by
 obtain ⟨j0, hj0, hy0, hy1, hy2⟩ := info_partsG info_nid
 have h := hb0.1
 have HL := Lib.hid h
 have HB0 := Lib.hid hb0
 clear hb0
 have HBF := Lib.hid (fun (x : Nid) W => before_any s i g x.s x.i x.g W)
 have HST := Lib.hid (fun t x h => witG_step (n := ⟨s, i, g⟩) (l := l) (t := t) (x := x) h)
 have HLN := Lib.hid (fun t => witG_len ⟨s, i, g⟩ l t)
 have HYES := Lib.hid (fun t x h he => putN_has (l := l) (t := t) (x := x) (n := ⟨s, i, g⟩) h he)
 have HNO := Lib.hid (fun h => putN_new (l := l) (n := ⟨s, i, g⟩) h)
 have HEND := Lib.hid (show witG ⟨s, i, g⟩ (l.take l.length) = witG ⟨s, i, g⟩ l by rw [List.take_length])
 obtain ⟨p1, e1, rfl, hmx, _⟩ := h
 unfold maxLen at hmx
 go_enter Tryz.func54, Tryz.ntmps54
 go_upto_region 1 with fail
 generalize hw1 : World.alloc w _ = w1
 have hb1 : Below w.heap.size w w1 := by rw [← hw1]; exact bg
 have hcf : ∀ u, w1.cell? ⟨w.heap.size, u, none⟩ = (#[int i64 s, int i64 i, int i64 g] : Array Value)[u]? := fun u => by rw [← hw1]; simp
 have hs2 : w.heap.size < w1.heap.size := by rw [← hw1]; simp
 have HB1 := Lib.hid hb1
 have HCF := Lib.hid hcf
 clear hb1 hcf hw1
 go_wp2_with fail
 go_loopg [5, 6, 7] l.length (fun kx o pu sx wr => ∃ t : Nat, sx = int i64 t ∧ t ≤ l.length ∧ l.length - t ≤ kx ∧ pu = .bool (witG ⟨s, i, g⟩ (l.take t)).2 ∧ Hid (RNew nidL 30 3 w1 wr o (witG ⟨s, i, g⟩ (l.take t)).1) ∧ Hid (∀ j y, j < t → l[j]? = some y → idEq y.s y.i y.g s i g = false))
 case atStart => exact ⟨0, by go_num, by omega, by omega, rfl, Lib.hid (RNew.nil w1), Lib.hid (fun j y hj => absurd hj (by omega))⟩
 case round =>
  obtain ⟨t, rfl, ht, hkx, rfl, HN, HNE⟩ := hrel
  obtain ⟨wa, rfl⟩ : ∃ wa : World, wa = wr := ⟨_, rfl⟩
  have hbl := HN.out.2.1
  have hsl := hbl.size
  have HCA := Lib.hid (fun W (hW : Below wa.heap.size wa W) j => ((hbl.trans (hW.mono hbl.size)).cell (p := ⟨w.heap.size, j, none⟩) hs2).trans (HCF.out j))
  have HLA := Lib.hid (fun W (hW : Below wa.heap.size wa W) => HL.out.keep (HB1.out.trans ((hbl.trans (hW.mono hbl.size)).mono HB1.out.size)))
  have HBL := Lib.hid (HB1.out.trans (hbl.mono HB1.out.size))
  have s2a : w.heap.size < wa.heap.size := by omega
  obtain ⟨f0, f1, f2⟩ := ltz s2a
  have x0 := HCA.out wa (Below.refl _ _) 0
  have x1 := HCA.out wa (Below.refl _ _) 1
  have x2 := HCA.out wa (Below.refl _ _) 2
  simp at x0 x1 x2
  clear hbl
  have hal := HLN.out t
  by_cases hlt : t < l.length
  · have t1 : (t : Int) < (l.length : Int) := by omega
    obtain ⟨x, hx⟩ : ∃ x, l[t]? = some x := ⟨_, List.getElem?_eq_getElem hlt⟩
    obtain ⟨gb, ob, cb, hv, hgb, hcb⟩ := (HLA.out wa (Below.refl _ _)).cells nidL_len hx
    simp only [Value.slice.injEq, true_and] at hv
    obtain ⟨rfl, rfl⟩ := hv
    have c0 := hcb 0 _ rfl
    have c1 := hcb 1 _ rfl
    have c2 := hcb 2 _ rfl
    simp only [Nat.add_zero] at c0
    obtain ⟨e0, e1', e2'⟩ := ltz hgb
    have HCB := Lib.hid hcb
    have HSX := Lib.hid (HST.out t x hx)
    have HYX := Lib.hid (HYES.out t x hx)
    have HBX := Lib.hid (HBF.out x)
    have HX := Lib.hid hx
    clear hx hcb
    generalize witG ⟨s, i, g⟩ (l.take t) = st at *
    obtain ⟨acc, pu⟩ := st
    simp only at hal
    obtain ⟨po, co, hpo⟩ := sl_frm HN.out.1
    subst hpo
    obtain ⟨xs, xi, xg⟩ := x
    simp only at HYX HBX c0 c1 c2
    cases hid : idEq xs xi xg s i g with
    | true =>
      have hpt := HYX.out hid
      go_wp2_with fail
      refine wpm ?_
      repeat (go_big_quiet_step (fail))
      refine wpQuiet_nil ?_
      rintro _ ⟨pq1, rfl⟩
      go_wp2_with fail
      go_ret
      exact ⟨_, rfl, HBL.out.trans (Below.mono (B := wa.heap.size) bg HBL.out.size), by rw [hpt]; exact HB0.out.keep (HBL.out.trans (Below.mono (B := wa.heap.size) bg HBL.out.size)), .inl rfl⟩
    | false =>
      have HNX := Lib.hid (fun j y (hj : j < t + 1) (hy : l[j]? = some y) => show idEq y.s y.i y.g s i g = false by
       by_cases hjt : j = t
       · subst hjt
         obtain rfl := Option.some.inj (HX.out.symm.trans hy)
         exact hid
       · exact HNE.out j y (by omega) hy)
      cases pu with
      | true =>
        go_wp2_with fail
        refine wpm ?_
        repeat (go_big_quiet_step (fail))
        refine wpQuiet_nil ?_
        rintro _ ⟨pq1, rfl⟩
        go_wp2_with fail
        refine wpm ?_
        repeat (go_big_quiet_step (fail))
        refine wpQuiet_nil ?_
        rintro _ ⟨pq2, rfl⟩
        go_wp2_with (at_builtin; refine wpList_append_sl _ (by rfl) _ _ 56 (by rfl) 30 j0 _ 3 24 Tryz.underlying56 hj0 hy0 hy1 hy2 rfl (by omega) _ acc.length (cellsR nidL acc) (by rfl) (HN.out.grow bg).1 ⟨_, 0, none⟩ 1 1 (nidL ⟨xs, xi, xg⟩) (by rfl) (by rfl) (new_cellsN _ _ _ _ (by simp)) (nidL_one _) (by omega) (by unfold maxLen; omega) (by omega) ?_; intro v' w4 hs4 ht4 ho4)
        have hm := (HN.out.grow bg).snoc hs4 ht4 ho4
        have HM := Lib.hid hm
        clear hs4 ht4 ho4 hm
        go_roundg (l.length - (t + 1))
        case measure => omega
        case rel => exact ⟨t + 1, by go_num, by omega, by omega, by rw [HSX.out]; rfl, Lib.hid (by rw [HSX.out]; exact HM.out), HNX⟩
      | false =>
        cases hbv : beforeB s i g xs xi xg with
        | false =>
          have hbx := HBX.out
          rw [hbv] at hbx
          have HBX2 := Lib.hid hbx
          have hws : witS ⟨s, i, g⟩ (acc, false) ⟨xs, xi, xg⟩ = (acc ++ [⟨xs, xi, xg⟩], false) := by
           unfold witS
           rw [befN_before]
           simp only [hbv, Bool.and_false, Bool.false_eq_true, if_false]
          rw [hws] at HSX
          clear hbx HBX hbv hws
          go_wp2_with fail
          refine wpm ?_
          repeat (go_big_quiet_step (fail))
          refine wpQuiet_nil ?_
          rintro _ ⟨pq1, rfl⟩
          go_wp2_with fail
          refine wpm ?_
          repeat (go_big_quiet_step ((first | (go_at_call 16; exact more_call (HBX2.out _)))))
          refine wpQuiet_nil ?_
          rintro _ ⟨pq2, rfl⟩
          go_wp2_with (at_builtin; refine wpList_append_sl _ (by rfl) _ _ 56 (by rfl) 30 j0 _ 3 24 Tryz.underlying56 hj0 hy0 hy1 hy2 rfl (by omega) _ acc.length (cellsR nidL acc) (by rfl) (HN.out.grow bg).1 ⟨_, 0, none⟩ 1 1 (nidL ⟨xs, xi, xg⟩) (by rfl) (by rfl) (new_cellsN _ _ _ _ (by simp)) (nidL_one _) (by omega) (by unfold maxLen; omega) (by omega) ?_; intro v' w4 hs4 ht4 ho4)
          have hm := (HN.out.grow bg).snoc hs4 ht4 ho4
          have HM := Lib.hid hm
          clear hs4 ht4 ho4 hm
          go_roundg (l.length - (t + 1))
          case measure => omega
          case rel => exact ⟨t + 1, by go_num, by omega, by omega, by rw [HSX.out], Lib.hid (by rw [HSX.out]; exact HM.out), HNX⟩
        | true =>
          have hbx := HBX.out
          rw [hbv] at hbx
          have HBX2 := Lib.hid hbx
          have hws : witS ⟨s, i, g⟩ (acc, false) ⟨xs, xi, xg⟩ = (acc ++ [⟨s, i, g⟩] ++ [⟨xs, xi, xg⟩], true) := by
           unfold witS
           rw [befN_before]
           simp only [hbv, Bool.not_false, Bool.and_self, if_true]
          rw [hws] at HSX
          clear hbx HBX hbv hws
          go_wp2_with fail
          refine wpm ?_
          repeat (go_big_quiet_step (fail))
          refine wpQuiet_nil ?_
          rintro _ ⟨pq1, rfl⟩
          go_wp2_with fail
          refine wpm ?_
          repeat (go_big_quiet_step ((first | (go_at_call 16; exact more_call (HBX2.out _)))))
          refine wpQuiet_nil ?_
          rintro _ ⟨pq2, rfl⟩
          go_upto_region 11 with (at_builtin; refine wpList_append_sl _ (by rfl) _ _ 56 (by rfl) 30 j0 _ 3 24 Tryz.underlying56 hj0 hy0 hy1 hy2 rfl (by omega) _ acc.length (cellsR nidL acc) (by rfl) (HN.out.grow bg).1 ⟨_, 0, none⟩ 1 1 (nidL ⟨s, i, g⟩) (by rfl) (by rfl) (new_cellsN _ _ _ _ (by simp)) (nidL_one _) (by omega) (by unfold maxLen; omega) (by omega) ?_; intro v' w4 hs4 ht4 ho4)
          have hm := (HN.out.grow bg).snoc hs4 ht4 ho4
          obtain ⟨acc2, hacc2⟩ : ∃ a2, a2 = acc ++ [(⟨s, i, g⟩ : Nid)] := ⟨_, rfl⟩
          rw [← hacc2] at hm HSX
          have hal2 : acc2.length ≤ 2 * t + 1 := by rw [hacc2]; simp; omega
          have HM := Lib.hid hm
          clear hs4 ht4 ho4 hacc2 x0 x1 x2 c0 c1 c2 f0 f1 f2 e0 e1' e2'
          obtain ⟨p4, c4, hp4⟩ := sl_frm hm.1
          subst hp4
          have hb4 := hm.2.1
          have hz4 := hb4.size
          have s24 : w.heap.size < w4.heap.size := by omega
          have x0 := (hb4.cell (p := ⟨w.heap.size, 0, none⟩) hs2).trans (HCF.out 0)
          have x1 := (hb4.cell (p := ⟨w.heap.size, 1, none⟩) hs2).trans (HCF.out 1)
          have x2 := (hb4.cell (p := ⟨w.heap.size, 2, none⟩) hs2).trans (HCF.out 2)
          simp at x0 x1 x2
          obtain ⟨gb2, ob2, cb2, hv2, hgb2, hcb2⟩ := (HL.out.keep (HB1.out.trans (hb4.mono HB1.out.size))).cells nidL_len HX.out
          simp only [Value.slice.injEq, Option.some.injEq, Addr.mk.injEq, true_and, and_true] at hv2
          obtain ⟨⟨rfl, rfl⟩, rfl⟩ := hv2
          have c0 := hcb2 0 _ rfl
          have c1 := hcb2 1 _ rfl
          have c2 := hcb2 2 _ rfl
          simp only [Nat.add_zero] at c0
          clear hm hb4 hcb2 hgb
          obtain ⟨e0, e1', e2'⟩ := ltz hgb2
          go_wp2_with (at_builtin; refine wpList_append_sl _ (by rfl) _ _ 56 (by rfl) 30 j0 _ 3 24 Tryz.underlying56 hj0 hy0 hy1 hy2 rfl (by omega) _ acc2.length (cellsR nidL acc2) (by rfl) (HM.out.grow bg).1 ⟨_, 0, none⟩ 1 1 (nidL ⟨xs, xi, xg⟩) (by rfl) (by rfl) (new_cellsN _ _ _ _ (by simp)) (nidL_one _) (by omega) (by unfold maxLen; omega) (by omega) ?_; intro v' w4 hs4 ht4 ho4)
          have hm := (HM.out.grow bg).snoc hs4 ht4 ho4
          have HM2 := Lib.hid hm
          clear hs4 ht4 ho4 hm
          go_roundg (l.length - (t + 1))
          case measure => omega
          case rel => exact ⟨t + 1, by go_num, by omega, by omega, by rw [HSX.out], Lib.hid (by rw [HSX.out]; exact HM2.out), HNX⟩
  · have t1 : ¬ (t : Int) < (l.length : Int) := by omega
    obtain rfl : t = l.length := by omega
    have HNN := Lib.hid (HNO.out HNE.out)
    rw [HEND.out] at HN hal ⊢
    generalize witG ⟨s, i, g⟩ l = st at *
    obtain ⟨acc, pu⟩ := st
    simp only at hal
    obtain ⟨po, co, hpo⟩ := sl_frm HN.out.1
    subst hpo
    cases pu with
    | true =>
      have hE : witE ⟨s, i, g⟩ (acc, true) = acc := rfl
      rw [hE] at HNN
      go_wp2_with fail
      go_ret
      exact ⟨_, rfl, HBL.out, by rw [HNN.out]; exact RIb.of_sl HN.out.1, .inr fun q hq => Nat.le_trans HB1.out.size (HN.out.2.2 q hq)⟩
    | false =>
      have hE : witE ⟨s, i, g⟩ (acc, false) = acc ++ [⟨s, i, g⟩] := rfl
      rw [hE] at HNN
      go_wp2_with (at_builtin; refine wpList_append_sl _ (by rfl) _ _ 56 (by rfl) 30 j0 _ 3 24 Tryz.underlying56 hj0 hy0 hy1 hy2 rfl (by omega) _ acc.length (cellsR nidL acc) (by rfl) (HN.out.grow bg).1 ⟨_, 0, none⟩ 1 1 (nidL ⟨s, i, g⟩) (by rfl) (by rfl) (new_cellsN _ _ _ _ (by simp)) (nidL_one _) (by omega) (by unfold maxLen; omega) (by omega) ?_; intro v' w4 hs4 ht4 ho4)
      have hm := (HN.out.grow bg).snoc hs4 ht4 ho4
      have HM := Lib.hid hm
      clear hs4 ht4 ho4 hm
      go_ret
      exact ⟨_, rfl, HB1.out.trans (HM.out.2.1.mono HB1.out.size), by rw [HNN.out]; exact RIb.of_sl HM.out.1, .inr fun q hq => Nat.le_trans HB1.out.size (HM.out.2.2 q hq)⟩
def hitN (hs : List Hit) (s i g : Int) : Int := match hs.find? fun h => idEq h.s h.i h.g s i g with
 | some h => h.n
 | none => 0
theorem hit15_any (v : Value) (hs : List Hit) (s i g : Int) (w : World) (h : RIn hitL w v hs) :
 Calls prog 53 #[v, .agg #[int i64 s, int i64 i, int i64 g]] w fun e w' => e = .returned (int i64 (hitN hs s i g)) ∧ Below w.heap.size w w' := by
 have HR := Lib.hid h
 obtain ⟨p1, e1, rfl, hmx, _⟩ := h
 unfold maxLen at hmx
 obtain ⟨zr, hzr⟩ : ∃ zr, hitN hs s i g = zr := ⟨_, rfl⟩
 rw [hzr]
 have HZR := Lib.hid hzr
 clear hzr
 go_enter Tryz.func53, Tryz.ntmps53
 go_upto_region 1 with fail
 generalize hw1 : World.alloc w _ = w1
 have hb1 : Below w.heap.size w w1 := by rw [← hw1]; exact bg
 have hcf : ∀ u, w1.cell? ⟨w.heap.size, u, none⟩ = (#[int i64 s, int i64 i, int i64 g] : Array Value)[u]? := fun u => by rw [← hw1]; simp
 have hs2 : w.heap.size < w1.heap.size := by rw [← hw1]; simp
 have HB1 := Lib.hid hb1
 have HCF := Lib.hid hcf
 clear hb1 hcf hw1
 go_wp2_with fail
 go_loopg [5] hs.length (fun kx sx wr => ∃ t : Nat, sx = int i64 t ∧ t ≤ hs.length ∧ hs.length - t ≤ kx ∧ Hid (Below w1.heap.size w1 wr) ∧ Hid (∀ j y, j < t → hs[j]? = some y → idEq y.s y.i y.g s i g = false))
 case atStart => exact ⟨0, by go_num, by omega, by omega, Lib.hid (Below.refl _ _), Lib.hid (fun j y hj => absurd hj (by omega))⟩
 case round =>
  obtain ⟨t, rfl, ht, hkx, HBW, HNO⟩ := hrel
  obtain ⟨wa, rfl⟩ : ∃ wa : World, wa = wr := ⟨_, rfl⟩
  have hz := HBW.out.size
  have a1 : w.heap.size < wa.heap.size := by omega
  obtain ⟨z0, z1, z2⟩ := ltz a1
  have x0 := (HBW.out.cell (p := ⟨w.heap.size, 0, none⟩) hs2).trans (HCF.out 0); simp at x0
  have x1 := (HBW.out.cell (p := ⟨w.heap.size, 1, none⟩) hs2).trans (HCF.out 1); simp at x1
  have x2 := (HBW.out.cell (p := ⟨w.heap.size, 2, none⟩) hs2).trans (HCF.out 2); simp at x2
  have HBX := Lib.hid (HB1.out.trans (HBW.out.mono HB1.out.size))
  by_cases hlt : t < hs.length
  · have t1 : (t : Int) < (hs.length : Int) := by omega
    obtain ⟨h0, hx0⟩ : ∃ h0, hs[t]? = some h0 := ⟨_, List.getElem?_eq_getElem hlt⟩
    obtain ⟨gb, ob, cb, hv, hgb, hcb⟩ := (HR.out.keep HBX.out).cells hitL_len hx0
    simp only [Value.slice.injEq, true_and] at hv
    obtain ⟨rfl, rfl⟩ := hv
    have c0 := hcb 0 _ rfl
    have c1 := hcb 1 _ rfl
    have c2 := hcb 2 _ rfl
    have c3 := hcb 3 _ rfl
    simp only [Nat.add_zero] at c0
    obtain ⟨e0, e1, e2⟩ := ltz hgb
    have HX := Lib.hid hx0
    clear hcb hx0
    obtain ⟨hs', hi, hg, hn⟩ := h0
    simp only at c0 c1 c2 c3
    cases hid : idEq hs' hi hg s i g with
    | true =>
      have hres : zr = hn := by
       rw [← HZR.out]
       unfold hitN
       rw [find_at (p := fun h => idEq h.s h.i h.g s i g) HX.out hid HNO.out]
      subst hres
      go_wp2_with fail
      refine wpm ?_
      repeat (go_big_quiet_step (fail))
      refine wpQuiet_nil ?_
      rintro _ ⟨pq1, rfl⟩
      go_wp2_with fail
      go_ret
      exact ⟨rfl, HBX.out.trans (Below.mono (B := wa.heap.size) bg HBX.out.size)⟩
    | false =>
      go_wp2_with fail
      refine wpm ?_
      repeat (go_big_quiet_step (fail))
      refine wpQuiet_nil ?_
      rintro _ ⟨pq1, rfl⟩
      go_wp2_with fail
      go_roundg (hs.length - (t + 1))
      case measure => omega
      case rel => exact ⟨t + 1, by go_num, by omega, by omega, Lib.hid (HBW.out.trans (Below.mono (B := wa.heap.size) bg HBW.out.size)), Lib.hid (fun j y hj hy => by
       by_cases hjt : j = t
       · subst hjt
         obtain rfl := Option.some.inj (HX.out.symm.trans hy)
         exact hid
       · exact HNO.out j y (by omega) hy)⟩
  · have t1 : ¬ (t : Int) < (hs.length : Int) := by omega
    have hres : zr = 0 := by
     rw [← HZR.out]
     unfold hitN
     rw [find_no (p := fun h => idEq h.s h.i h.g s i g) fun j y hj hy => HNO.out j y (by omega) hy]
    subst hres
    go_wp2_with fail
    go_ret
    exact ⟨rfl, HBX.out⟩
def AlikeG (W : World) (L1 L2 : List Gh) : Prop := L1.length = L2.length ∧ ∀ (k : Nat) g1 g2, L1[k]? = some g1 → L2[k]? = some g2 → g1.f = g2.f ∧ g1.t = g2.t ∧ ∃ l, BIn W (.slice g1.p g1.n g1.c) l ∧ BIn W (.slice g2.p g2.n g2.c) l
theorem AlikeG.keep {W W' : World} {L1 L2 : List Gh} (h : AlikeG W L1 L2) (hb : Below W.heap.size W W') : AlikeG W' L1 L2 :=
 ⟨h.1, fun k g1 g2 h1 h2 => let ⟨a, b, l, c, d⟩ := h.2 k g1 g2 h1 h2; ⟨a, b, l, c.keep hb, d.keep hb⟩⟩
theorem rin_zero {β : Type} {enc : β → List Value} (w : World) : RIn enc w (.slice Option.none 0 0) ([] : List β) := ⟨Option.none, 0, rfl, by simp [maxLen], fun _ => rfl, Nat.le_refl _, fun h => absurd rfl h⟩
def CmdQ (w : World) (vl vd : Value) (l' : List Bun) (d' : List Nid) (e : Ending) (w' : World) : Prop :=
 ∃ vl' vd', e = .returned (.tuple #[vl', vd']) ∧ Below w.heap.size w w' ∧ RIb bunL w' vl' l' ∧ RIb nidL w' vd' d' ∧ OrNew w vl vl' ∧ OrNew w vd vd'
theorem bin_drop {w : World} {g off n cap : Nat} {l : List Bun} (h : BIn w (.slice (some ⟨g, off, none⟩) n cap) l) (k : Nat) (hk : k ≤ n) : BIn w (.slice (if cap = k then some ⟨g, off, none⟩ else some ⟨g, off + k * 11, none⟩) (n - k) (cap - k)) (l.drop k) := by
 obtain ⟨_, _, e, h1, h2, h3, h4⟩ := h
 simp only [Value.slice.injEq] at e
 obtain ⟨rfl, rfl, rfl⟩ := e
 have hlen : (l.drop k).length = l.length - k := by simp
 refine ⟨if cap = k then some ⟨g, off, none⟩ else some ⟨g, off + k * 11, none⟩, cap - k, by rw [hlen], by omega, fun h => ?_, by omega, fun hne => ?_⟩
 · split at h <;> cases h
 · have hk2 : k < l.length := by
    rcases Nat.lt_or_ge k l.length with h | h
    · exact h
    · exact absurd (List.drop_of_length_le h) hne
   have hne2 : l ≠ [] := fun e => by subst e; simp at hk2
   obtain ⟨blk, o, e, h5, h6⟩ := h4 hne2
   simp only [Option.some.injEq, Addr.mk.injEq, and_true] at e
   obtain ⟨rfl, rfl⟩ := e
   rw [if_neg (by omega)]
   refine ⟨g, off + k * 11, rfl, h5, fun t u hu => ?_⟩
   have e2 : (bunCells l)[k * 11 + t]? = some u := by
    have e3 : bunCells l = bunCells (l.take k) ++ bunCells (l.drop k) := by rw [← bunCells_app, List.take_append_drop]
    rw [e3, List.getElem?_append_right (by rw [bunCells_len, List.length_take, Nat.min_eq_left (by omega)]; omega), bunCells_len, List.length_take, Nat.min_eq_left (by omega), Nat.add_sub_cancel_left]
    exact hu
   rw [Nat.add_assoc]
   exact h6 _ u e2
theorem cmd15_spawn (cols rows side radius speed ids queue z : Int) (vl vd : Value) (l : List Bun) (d : List Nid) (cs ci cg s' i' g' m' x' y' vx' vy' hp' pw' lf' mask : Int) (w : World) (ho : CfgOk ⟨cols, rows, side, radius, speed, ids, queue⟩) (hl : RIb bunL w vl l) (hd : RIb nidL w vd d) (hn : l.length ≤ 100000) :
 Calls prog 55 #[.agg #[int i64 cols, int i64 rows, int i64 side, int i64 radius, int i64 speed, int i64 ids, int i64 queue], int i64 z, vl, vd, .agg #[int i64 1, int i64 cs, int i64 ci, int i64 cg, int i64 s', int i64 i', int i64 g', int i64 m', int i64 x', int i64 y', int i64 vx', int i64 vy', int i64 hp', int i64 pw', int i64 lf', int i64 mask]] w (CmdQ w vl vd (if spawnB ⟨cols, rows, side, radius, speed, ids, queue⟩ z l (⟨1, cs, ci, cg, ⟨s', i', g', m', x', y', vx', vy', hp', pw', lf'⟩, mask⟩ : Cm) then insF l (findB s' i' g' l 0).1.toNat ⟨s', i', g', m', x', y', vx', vy', hp', pw', lf'⟩ else l) d) := by
 obtain ⟨i0, hi0, hz0, hz1, hz2⟩ := info_parts info_bunJ
 have HOF := hid (fun W => rof_any cols rows side radius speed ids queue x' y' W ho)
 have HFI := hid (fun W (hW : Below w.heap.size w W) => rfind_any vl l s' i' g' W (BIn.keep hl.1 hW) (by omega))
 obtain ⟨K, hK, _, hK2⟩ := findB_rng s' i' g' l 0
 rw [Nat.zero_add] at hK2
 have hsp : spawnB ⟨cols, rows, side, radius, speed, ids, queue⟩ z l (⟨1, cs, ci, cg, ⟨s', i', g', m', x', y', vx', vy', hp', pw', lf'⟩, mask⟩ : Cm) = (!(findB s' i' g' l 0).2 && decide (0 ≤ ofF ⟨cols, rows, side, radius, speed, ids, queue⟩ x' y') && (decide (z < 0) || decide (ofF ⟨cols, rows, side, radius, speed, ids, queue⟩ x' y' = z))) := rfl
 rw [hsp, hK]
 generalize (findB s' i' g' l 0).2 = is at *
 rw [hK] at HFI
 generalize ofF ⟨cols, rows, side, radius, speed, ids, queue⟩ x' y' = oz at *
 have HL := hid hl; have HD := hid hd
 have hEnd : ∀ w', Below w.heap.size w w' → CmdQ w vl vd l d (.returned (.tuple #[vl, vd])) w' := fun w' hb => ⟨vl, vd, rfl, hb, hl.keep hb, hd.keep hb, .inl rfl, .inl rfl⟩
 have hEnd2 : ∀ w' v', BNew w w' v' (insF l K ⟨s', i', g', m', x', y', vx', vy', hp', pw', lf'⟩) → CmdQ w vl vd (insF l K ⟨s', i', g', m', x', y', vx', vy', hp', pw', lf'⟩) d (.returned (.tuple #[v', vd])) w' := fun w' v' hb => ⟨v', vd, rfl, hb.2.1, RIb.of_sl hb.1, hd.keep hb.2.1, .inr hb.2.2, .inl rfl⟩
 have HEND := hid hEnd; have HEND2 := hid hEnd2
 clear hEnd hEnd2
 clear hsp ho
 obtain ⟨⟨pl, el, rfl, hm, _, hle, _⟩, _, hfm⟩ := hl
 obtain ⟨⟨pd, ed, rfl, _⟩, _⟩ := hd
 have hpl : (pl = none ∧ l = [] ∧ el = 0) ∨ ∃ g off, pl = some ⟨g, off, none⟩ := by
  rcases hfm with e | ⟨g, off, n, cap, e⟩
  · simp only [Value.slice.injEq] at e
    exact .inl ⟨e.1, List.eq_nil_of_length_eq_zero e.2.1, e.2.2⟩
  · simp only [Value.slice.injEq] at e
    exact .inr ⟨g, off, e.1⟩
 clear hfm
 have t1 : (K : Int) ≤ (l.length : Int) := by omega
 have t2 : (0 : Int) ≤ (K : Int) := by omega
 have t3 : (K : Int) ≤ (el : Int) := by omega
 have t4 : ((K : Int)).toNat = K := by omega
 have t5 : (l.length : Int) ≤ (el : Int) := by omega
 have hkt : (K : Int).toNat = K := by omega
 rw [hkt]
 cases is with
 | true =>
   rw [show (if (!true && decide (0 ≤ oz) && (decide (z < 0) || decide (oz = z))) = true then insF l K ⟨s', i', g', m', x', y', vx', vy', hp', pw', lf'⟩ else l) = l from by simp]
   generalize hres : CmdQ w (.slice pl l.length el) (.slice pd d.length ed) l d = Q at *
   clear hres
   go_enter Tryz.func55, Tryz.ntmps55
   go_wp2_with fail
   refine belA (HOF.out _) fun d1 os1 => ?_
   go_wp2_with fail
   refine belA (HFI.out _ bg) fun d2 os2 => ?_
   go_wp2_with fail
   first | exact HEND.out _ bg | (go_ret2; exact HEND.out _ bg)
 | false =>
   by_cases ho0 : oz < 0
   · rw [show (if (!false && decide (0 ≤ oz) && (decide (z < 0) || decide (oz = z))) = true then insF l K ⟨s', i', g', m', x', y', vx', vy', hp', pw', lf'⟩ else l) = l from by rw [show decide (0 ≤ oz) = false by simp; omega]; simp]
     generalize hres : CmdQ w (.slice pl l.length el) (.slice pd d.length ed) l d = Q at *
     clear hres
     go_enter Tryz.func55, Tryz.ntmps55
     go_wp2_with fail
     refine belA (HOF.out _) fun d1 os1 => ?_
     go_wp2_with fail
     refine belA (HFI.out _ bg) fun d2 os2 => ?_
     go_wp2_with fail
     first | exact HEND.out _ bg | (go_ret2; exact HEND.out _ bg)
   · have ho1 : (0 : Int) ≤ oz := by omega
     by_cases hz : 0 ≤ z
     · by_cases hq : oz = z
       · have hq2 : (oz != z) = false := by simpa using hq
         rw [if_pos (by simp; omega)]
         generalize hres : CmdQ w (.slice pl l.length el) (.slice pd d.length ed) (insF l K ⟨s', i', g', m', x', y', vx', vy', hp', pw', lf'⟩) d = Q at *
         clear hres
         rcases hpl with ⟨rfl, rfl, rfl⟩ | ⟨gl, ol, rfl⟩
         · obtain rfl : K = 0 := by simpa using hK2
           have hVX := hid (fun w' : World => (show BIn w' (.slice none 0 0) ([] : List Bun) from rin_zero w'))
           have hDR := hid (show (([] : List Bun).take 0 = [] ∧ ([] : List Bun).drop 0 = []) from ⟨rfl, rfl⟩)
           try simp only [List.length_nil, Int.ofNat_zero, Int.cast_ofNat_Int, Nat.cast_zero] at *
           go_enter Tryz.func55, Tryz.ntmps55
           go_wp2_with fail
           refine belA (HOF.out _) fun d1 os1 => ?_
           go_wp2_with fail
           refine belA (HFI.out _ bg) fun d2 os2 => ?_
           go_upto_region 7 with fail
           generalize hw2 : more (more _ _ _) _ _ = w2
           have hb2 : Below w.heap.size w w2 := by rw [← hw2]; exact bg
           have k9 : ∀ u, w2.cell? ⟨w.heap.size + 1, u, none⟩ = (#[int i64 1, int i64 cs, int i64 ci, int i64 cg, int i64 s', int i64 i', int i64 g', int i64 m', int i64 x', int i64 y', int i64 vx', int i64 vy', int i64 hp', int i64 pw', int i64 lf', int i64 mask] : Array Value)[u]? := fun u => by
            rw [← hw2, Below.cell (B := w.heap.size + 1 + 1) (w := (w.alloc (.cells #[int i64 cols, int i64 rows, int i64 side, int i64 radius, int i64 speed, int i64 ids, int i64 queue] 23)).alloc (.cells #[int i64 1, int i64 cs, int i64 ci, int i64 cg, int i64 s', int i64 i', int i64 g', int i64 m', int i64 x', int i64 y', int i64 vx', int i64 vy', int i64 hp', int i64 pw', int i64 lf', int i64 mask] 34)) bg (by simp)]; simp [go_sem]
           have s9 : w.heap.size + 1 < w2.heap.size := by rw [← hw2]; simp; omega
           have HB2 := hid hb2
           have K9 := hid k9
           generalize w.heap.size + 1 = n9 at *
           clear hw2 hb2 k9
           go_upto_region 8 with (at_builtin; refine wpList_append_bins w2 w2 (by rfl) _ _ (by rfl) _ (.slice none 0 0) [] (([] : List Bun)) (by rfl) (BNew.nil w2) (by rfl) (hVX.out _) (by simp) (by simp; try omega) ?_; intro v1 w3 hA)
           rw [List.nil_append] at hA
           have hlt : (([] : List Bun)).length ≤ 100000 := by simp; try omega
           obtain ⟨lk, hlk⟩ : ∃ lk, lk = ([] : List Bun) := ⟨_, rfl⟩
           rw [← hlk] at hA hlt
           obtain ⟨p1, c1, rfl⟩ := sl_frm hA.1
           have HLK := hid hlk
           clear hlk
           have HA := hid hA
           have k9 := box_on hA.2.1 s9 K9.out
           have s93 := Nat.lt_of_lt_of_le s9 hA.2.1.size
           obtain ⟨f0, f1, f2⟩ := ltz s93
           have y0 := k9 0; simp at y0; have y1 := k9 1; simp at y1; have y2 := k9 2; simp at y2; have y3 := k9 3; simp at y3; have y4 := k9 4; simp at y4; have y5 := k9 5; simp at y5; have y6 := k9 6; simp at y6; have y7 := k9 7; simp at y7; have y8 := k9 8; simp at y8; have y9 := k9 9; simp at y9; have y10 := k9 10; simp at y10; have y11 := k9 11; simp at y11; have y12 := k9 12; simp at y12; have y13 := k9 13; simp at y13; have y14 := k9 14; simp at y14; have y15 := k9 15; simp at y15
           clear k9 hA
           go_upto_region 9 with (at_builtin; refine wpList_append_sl _ (by rfl) _ _ 37 (by rfl) 32 i0 _ 11 88 Tryz.underlying37 hi0 hz0 hz1 hz2 rfl (by omega) _ lk.length (bunCells lk) (by rfl) (HA.out.grow bg).1 ⟨_, 0, none⟩ 1 1 (bunL ⟨s', i', g', m', x', y', vx', vy', hp', pw', lf'⟩) (by rfl) (by rfl) (new_cellsN _ _ _ _ (by simp)) (bunL_one _) (by omega) (by unfold maxLen; omega) (by omega) ?_; intro v' w4 hs4 ht4 ho4)
           have hm := (HA.out.grow bg).snoc hs4 ht4 ho4
           obtain ⟨p2, c2, rfl⟩ := sl_frm hm.1
           have HM := hid hm
           clear hs4 ht4 ho4 hm f0 f1 f2 y0 y1 y2 y3 y4 y5 y6 y7 y8 y9 y10 y11 y12 y13 y14 y15
           go_wp2_with (at_builtin; refine wpList_append_bins w2 w4 (by rfl) _ _ (by rfl) _ (.slice none 0 0) _ (([] : List Bun)) (by rfl) HM.out (by rfl) (hVX.out _) (by simp; omega) (by simp; try omega) ?_; intro v3 w5 hC; have HC := hid hC; clear hC)
           all_goals
            have hfin : BNew w w5 v3 (insF [] 0 ⟨s', i', g', m', x', y', vx', vy', hp', pw', lf'⟩) := by
             have h := HC.out.since HB2.out
             rw [HLK.out] at h
             simpa [insF] using h
            exact HEND2.out _ _ hfin
         · have hVX := hid (fun w' (hW : Below w.heap.size w w') => BIn.take (BIn.keep HL.out.1 hW) K hK2)
           have hVY := hid (fun w' (hW : Below w.heap.size w w') => bin_drop (BIn.keep HL.out.1 hW) K hK2)
           go_enter Tryz.func55, Tryz.ntmps55
           go_wp2_with fail
           refine belA (HOF.out _) fun d1 os1 => ?_
           go_wp2_with fail
           refine belA (HFI.out _ bg) fun d2 os2 => ?_
           go_upto_region 7 with fail
           generalize hw2 : more (more _ _ _) _ _ = w2
           have hb2 : Below w.heap.size w w2 := by rw [← hw2]; exact bg
           have k9 : ∀ u, w2.cell? ⟨w.heap.size + 1, u, none⟩ = (#[int i64 1, int i64 cs, int i64 ci, int i64 cg, int i64 s', int i64 i', int i64 g', int i64 m', int i64 x', int i64 y', int i64 vx', int i64 vy', int i64 hp', int i64 pw', int i64 lf', int i64 mask] : Array Value)[u]? := fun u => by
            rw [← hw2, Below.cell (B := w.heap.size + 1 + 1) (w := (w.alloc (.cells #[int i64 cols, int i64 rows, int i64 side, int i64 radius, int i64 speed, int i64 ids, int i64 queue] 23)).alloc (.cells #[int i64 1, int i64 cs, int i64 ci, int i64 cg, int i64 s', int i64 i', int i64 g', int i64 m', int i64 x', int i64 y', int i64 vx', int i64 vy', int i64 hp', int i64 pw', int i64 lf', int i64 mask] 34)) bg (by simp)]; simp [go_sem]
           have s9 : w.heap.size + 1 < w2.heap.size := by rw [← hw2]; simp; omega
           have HB2 := hid hb2
           have K9 := hid k9
           generalize w.heap.size + 1 = n9 at *
           clear hw2 hb2 k9
           go_upto_region 8 with (at_builtin; refine wpList_append_bins w2 w2 (by rfl) _ _ (by rfl) _ (.slice (some ⟨gl, ol, none⟩) K el) [] (l.take K) (by rfl) (BNew.nil w2) (by rfl) (hVX.out _ HB2.out) (by simp) (by simp; try omega) ?_; intro v1 w3 hA)
           rw [List.nil_append] at hA
           have hlt : (l.take K).length ≤ 100000 := by simp; try omega
           obtain ⟨lk, hlk⟩ : ∃ lk, lk = l.take K := ⟨_, rfl⟩
           rw [← hlk] at hA hlt
           obtain ⟨p1, c1, rfl⟩ := sl_frm hA.1
           have HLK := hid hlk
           clear hlk
           have HA := hid hA
           have k9 := box_on hA.2.1 s9 K9.out
           have s93 := Nat.lt_of_lt_of_le s9 hA.2.1.size
           obtain ⟨f0, f1, f2⟩ := ltz s93
           have y0 := k9 0; simp at y0; have y1 := k9 1; simp at y1; have y2 := k9 2; simp at y2; have y3 := k9 3; simp at y3; have y4 := k9 4; simp at y4; have y5 := k9 5; simp at y5; have y6 := k9 6; simp at y6; have y7 := k9 7; simp at y7; have y8 := k9 8; simp at y8; have y9 := k9 9; simp at y9; have y10 := k9 10; simp at y10; have y11 := k9 11; simp at y11; have y12 := k9 12; simp at y12; have y13 := k9 13; simp at y13; have y14 := k9 14; simp at y14; have y15 := k9 15; simp at y15
           clear k9 hA
           go_upto_region 9 with (at_builtin; refine wpList_append_sl _ (by rfl) _ _ 37 (by rfl) 32 i0 _ 11 88 Tryz.underlying37 hi0 hz0 hz1 hz2 rfl (by omega) _ lk.length (bunCells lk) (by rfl) (HA.out.grow bg).1 ⟨_, 0, none⟩ 1 1 (bunL ⟨s', i', g', m', x', y', vx', vy', hp', pw', lf'⟩) (by rfl) (by rfl) (new_cellsN _ _ _ _ (by simp)) (bunL_one _) (by omega) (by unfold maxLen; omega) (by omega) ?_; intro v' w4 hs4 ht4 ho4)
           have hm := (HA.out.grow bg).snoc hs4 ht4 ho4
           obtain ⟨p2, c2, rfl⟩ := sl_frm hm.1
           have HM := hid hm
           clear hs4 ht4 ho4 hm f0 f1 f2 y0 y1 y2 y3 y4 y5 y6 y7 y8 y9 y10 y11 y12 y13 y14 y15
           go_wp2_with (at_builtin; refine wpList_append_bins w2 w4 (by rfl) _ _ (by rfl) _ (.slice (if el = K then some ⟨gl, ol, none⟩ else some ⟨gl, ol + K * 11, none⟩) (l.length - K) (el - K)) _ (l.drop K) (by rfl) HM.out (by rfl) (hVY.out _ (HB2.out.trans (HM.out.2.1.mono HB2.out.size))) (by simp; omega) (by simp; try omega) ?_; intro v3 w5 hC; have HC := hid hC; clear hC)
           all_goals
            have hfin : BNew w w5 v3 (insF l K ⟨s', i', g', m', x', y', vx', vy', hp', pw', lf'⟩) := by
             have h := HC.out.since HB2.out
             rw [HLK.out] at h
             simpa [insF] using h
            exact HEND2.out _ _ hfin
       · have hq2 : (oz != z) = true := by simpa using hq
         rw [if_neg (by simp; omega)]
         generalize hres : CmdQ w (.slice pl l.length el) (.slice pd d.length ed) l d = Q at *
         clear hres
         go_enter Tryz.func55, Tryz.ntmps55
         go_wp2_with fail
         refine belA (HOF.out _) fun d1 os1 => ?_
         go_wp2_with fail
         refine belA (HFI.out _ bg) fun d2 os2 => ?_
         go_wp2_with fail
         first | exact HEND.out _ bg | (go_ret2; exact HEND.out _ bg)
     · have hzn : z < 0 := by omega
       rw [if_pos (by simp; omega)]
       generalize hres : CmdQ w (.slice pl l.length el) (.slice pd d.length ed) (insF l K ⟨s', i', g', m', x', y', vx', vy', hp', pw', lf'⟩) d = Q at *
       clear hres
       rcases hpl with ⟨rfl, rfl, rfl⟩ | ⟨gl, ol, rfl⟩
       · obtain rfl : K = 0 := by simpa using hK2
         have hVX := hid (fun w' : World => (show BIn w' (.slice none 0 0) ([] : List Bun) from rin_zero w'))
         have hDR := hid (show (([] : List Bun).take 0 = [] ∧ ([] : List Bun).drop 0 = []) from ⟨rfl, rfl⟩)
         try simp only [List.length_nil, Int.ofNat_zero, Int.cast_ofNat_Int, Nat.cast_zero] at *
         go_enter Tryz.func55, Tryz.ntmps55
         go_wp2_with fail
         refine belA (HOF.out _) fun d1 os1 => ?_
         go_wp2_with fail
         refine belA (HFI.out _ bg) fun d2 os2 => ?_
         go_upto_region 7 with fail
         generalize hw2 : more (more _ _ _) _ _ = w2
         have hb2 : Below w.heap.size w w2 := by rw [← hw2]; exact bg
         have k9 : ∀ u, w2.cell? ⟨w.heap.size + 1, u, none⟩ = (#[int i64 1, int i64 cs, int i64 ci, int i64 cg, int i64 s', int i64 i', int i64 g', int i64 m', int i64 x', int i64 y', int i64 vx', int i64 vy', int i64 hp', int i64 pw', int i64 lf', int i64 mask] : Array Value)[u]? := fun u => by
          rw [← hw2, Below.cell (B := w.heap.size + 1 + 1) (w := (w.alloc (.cells #[int i64 cols, int i64 rows, int i64 side, int i64 radius, int i64 speed, int i64 ids, int i64 queue] 23)).alloc (.cells #[int i64 1, int i64 cs, int i64 ci, int i64 cg, int i64 s', int i64 i', int i64 g', int i64 m', int i64 x', int i64 y', int i64 vx', int i64 vy', int i64 hp', int i64 pw', int i64 lf', int i64 mask] 34)) bg (by simp)]; simp [go_sem]
         have s9 : w.heap.size + 1 < w2.heap.size := by rw [← hw2]; simp; omega
         have HB2 := hid hb2
         have K9 := hid k9
         generalize w.heap.size + 1 = n9 at *
         clear hw2 hb2 k9
         go_upto_region 8 with (at_builtin; refine wpList_append_bins w2 w2 (by rfl) _ _ (by rfl) _ (.slice none 0 0) [] (([] : List Bun)) (by rfl) (BNew.nil w2) (by rfl) (hVX.out _) (by simp) (by simp; try omega) ?_; intro v1 w3 hA)
         rw [List.nil_append] at hA
         have hlt : (([] : List Bun)).length ≤ 100000 := by simp; try omega
         obtain ⟨lk, hlk⟩ : ∃ lk, lk = ([] : List Bun) := ⟨_, rfl⟩
         rw [← hlk] at hA hlt
         obtain ⟨p1, c1, rfl⟩ := sl_frm hA.1
         have HLK := hid hlk
         clear hlk
         have HA := hid hA
         have k9 := box_on hA.2.1 s9 K9.out
         have s93 := Nat.lt_of_lt_of_le s9 hA.2.1.size
         obtain ⟨f0, f1, f2⟩ := ltz s93
         have y0 := k9 0; simp at y0; have y1 := k9 1; simp at y1; have y2 := k9 2; simp at y2; have y3 := k9 3; simp at y3; have y4 := k9 4; simp at y4; have y5 := k9 5; simp at y5; have y6 := k9 6; simp at y6; have y7 := k9 7; simp at y7; have y8 := k9 8; simp at y8; have y9 := k9 9; simp at y9; have y10 := k9 10; simp at y10; have y11 := k9 11; simp at y11; have y12 := k9 12; simp at y12; have y13 := k9 13; simp at y13; have y14 := k9 14; simp at y14; have y15 := k9 15; simp at y15
         clear k9 hA
         go_upto_region 9 with (at_builtin; refine wpList_append_sl _ (by rfl) _ _ 37 (by rfl) 32 i0 _ 11 88 Tryz.underlying37 hi0 hz0 hz1 hz2 rfl (by omega) _ lk.length (bunCells lk) (by rfl) (HA.out.grow bg).1 ⟨_, 0, none⟩ 1 1 (bunL ⟨s', i', g', m', x', y', vx', vy', hp', pw', lf'⟩) (by rfl) (by rfl) (new_cellsN _ _ _ _ (by simp)) (bunL_one _) (by omega) (by unfold maxLen; omega) (by omega) ?_; intro v' w4 hs4 ht4 ho4)
         have hm := (HA.out.grow bg).snoc hs4 ht4 ho4
         obtain ⟨p2, c2, rfl⟩ := sl_frm hm.1
         have HM := hid hm
         clear hs4 ht4 ho4 hm f0 f1 f2 y0 y1 y2 y3 y4 y5 y6 y7 y8 y9 y10 y11 y12 y13 y14 y15
         go_wp2_with (at_builtin; refine wpList_append_bins w2 w4 (by rfl) _ _ (by rfl) _ (.slice none 0 0) _ (([] : List Bun)) (by rfl) HM.out (by rfl) (hVX.out _) (by simp; omega) (by simp; try omega) ?_; intro v3 w5 hC; have HC := hid hC; clear hC)
         all_goals
          have hfin : BNew w w5 v3 (insF [] 0 ⟨s', i', g', m', x', y', vx', vy', hp', pw', lf'⟩) := by
           have h := HC.out.since HB2.out
           rw [HLK.out] at h
           simpa [insF] using h
          exact HEND2.out _ _ hfin
       · have hVX := hid (fun w' (hW : Below w.heap.size w w') => BIn.take (BIn.keep HL.out.1 hW) K hK2)
         have hVY := hid (fun w' (hW : Below w.heap.size w w') => bin_drop (BIn.keep HL.out.1 hW) K hK2)
         go_enter Tryz.func55, Tryz.ntmps55
         go_wp2_with fail
         refine belA (HOF.out _) fun d1 os1 => ?_
         go_wp2_with fail
         refine belA (HFI.out _ bg) fun d2 os2 => ?_
         go_upto_region 7 with fail
         generalize hw2 : more (more _ _ _) _ _ = w2
         have hb2 : Below w.heap.size w w2 := by rw [← hw2]; exact bg
         have k9 : ∀ u, w2.cell? ⟨w.heap.size + 1, u, none⟩ = (#[int i64 1, int i64 cs, int i64 ci, int i64 cg, int i64 s', int i64 i', int i64 g', int i64 m', int i64 x', int i64 y', int i64 vx', int i64 vy', int i64 hp', int i64 pw', int i64 lf', int i64 mask] : Array Value)[u]? := fun u => by
          rw [← hw2, Below.cell (B := w.heap.size + 1 + 1) (w := (w.alloc (.cells #[int i64 cols, int i64 rows, int i64 side, int i64 radius, int i64 speed, int i64 ids, int i64 queue] 23)).alloc (.cells #[int i64 1, int i64 cs, int i64 ci, int i64 cg, int i64 s', int i64 i', int i64 g', int i64 m', int i64 x', int i64 y', int i64 vx', int i64 vy', int i64 hp', int i64 pw', int i64 lf', int i64 mask] 34)) bg (by simp)]; simp [go_sem]
         have s9 : w.heap.size + 1 < w2.heap.size := by rw [← hw2]; simp; omega
         have HB2 := hid hb2
         have K9 := hid k9
         generalize w.heap.size + 1 = n9 at *
         clear hw2 hb2 k9
         go_upto_region 8 with (at_builtin; refine wpList_append_bins w2 w2 (by rfl) _ _ (by rfl) _ (.slice (some ⟨gl, ol, none⟩) K el) [] (l.take K) (by rfl) (BNew.nil w2) (by rfl) (hVX.out _ HB2.out) (by simp) (by simp; try omega) ?_; intro v1 w3 hA)
         rw [List.nil_append] at hA
         have hlt : (l.take K).length ≤ 100000 := by simp; try omega
         obtain ⟨lk, hlk⟩ : ∃ lk, lk = l.take K := ⟨_, rfl⟩
         rw [← hlk] at hA hlt
         obtain ⟨p1, c1, rfl⟩ := sl_frm hA.1
         have HLK := hid hlk
         clear hlk
         have HA := hid hA
         have k9 := box_on hA.2.1 s9 K9.out
         have s93 := Nat.lt_of_lt_of_le s9 hA.2.1.size
         obtain ⟨f0, f1, f2⟩ := ltz s93
         have y0 := k9 0; simp at y0; have y1 := k9 1; simp at y1; have y2 := k9 2; simp at y2; have y3 := k9 3; simp at y3; have y4 := k9 4; simp at y4; have y5 := k9 5; simp at y5; have y6 := k9 6; simp at y6; have y7 := k9 7; simp at y7; have y8 := k9 8; simp at y8; have y9 := k9 9; simp at y9; have y10 := k9 10; simp at y10; have y11 := k9 11; simp at y11; have y12 := k9 12; simp at y12; have y13 := k9 13; simp at y13; have y14 := k9 14; simp at y14; have y15 := k9 15; simp at y15
         clear k9 hA
         go_upto_region 9 with (at_builtin; refine wpList_append_sl _ (by rfl) _ _ 37 (by rfl) 32 i0 _ 11 88 Tryz.underlying37 hi0 hz0 hz1 hz2 rfl (by omega) _ lk.length (bunCells lk) (by rfl) (HA.out.grow bg).1 ⟨_, 0, none⟩ 1 1 (bunL ⟨s', i', g', m', x', y', vx', vy', hp', pw', lf'⟩) (by rfl) (by rfl) (new_cellsN _ _ _ _ (by simp)) (bunL_one _) (by omega) (by unfold maxLen; omega) (by omega) ?_; intro v' w4 hs4 ht4 ho4)
         have hm := (HA.out.grow bg).snoc hs4 ht4 ho4
         obtain ⟨p2, c2, rfl⟩ := sl_frm hm.1
         have HM := hid hm
         clear hs4 ht4 ho4 hm f0 f1 f2 y0 y1 y2 y3 y4 y5 y6 y7 y8 y9 y10 y11 y12 y13 y14 y15
         go_wp2_with (at_builtin; refine wpList_append_bins w2 w4 (by rfl) _ _ (by rfl) _ (.slice (if el = K then some ⟨gl, ol, none⟩ else some ⟨gl, ol + K * 11, none⟩) (l.length - K) (el - K)) _ (l.drop K) (by rfl) HM.out (by rfl) (hVY.out _ (HB2.out.trans (HM.out.2.1.mono HB2.out.size))) (by simp; omega) (by simp; try omega) ?_; intro v3 w5 hC; have HC := hid hC; clear hC)
         all_goals
          have hfin : BNew w w5 v3 (insF l K ⟨s', i', g', m', x', y', vx', vy', hp', pw', lf'⟩) := by
           have h := HC.out.since HB2.out
           rw [HLK.out] at h
           simpa [insF] using h
          exact HEND2.out _ _ hfin
structure Co (w1 wr : World) (vo vd0 vd : Value) (lo : List Bun) (dd : List Nid) : Prop where
 bn : BNew w1 wr vo lo
 rd : RIb nidL wr vd dd
 od : OrNew w1 vd0 vd
 ne : ∀ g, vo.ownBlock = some g → vd.ownBlock ≠ some g
theorem Co.grow {w1 wr w' : World} {vo vd0 vd : Value} {lo : List Bun} {dd : List Nid} (h : Co w1 wr vo vd0 vd lo dd) (hb : Below wr.heap.size wr w') : Co w1 w' vo vd0 vd lo dd :=
 ⟨h.bn.grow hb, h.rd.keep hb, h.od, h.ne⟩
theorem Co.app {w1 wr w' : World} {vo vd0 vd vo' : Value} {lo : List Bun} {dd : List Nid} {x : Bun} (h : Co w1 wr vo vd0 vd lo dd) (hs : Sl w' 32 11 vo' (lo.length + 1) (bunCells lo ++ bunL x)) (ht : Turned wr w' vo.ownBlock) (ho : vo'.ownBlock = vo.ownBlock ∨ ∃ g, vo'.ownBlock = some g ∧ wr.heap.size ≤ g) : Co w1 w' vo' vd0 vd (lo ++ [x]) dd :=
 ⟨h.bn.snoc hs ht ho, h.rd.turned ht (fun g hg e => h.ne g e hg), h.od, fun g hg => by
  rcases ho with e | ⟨g', e, hg'⟩
  · exact h.ne g (e ▸ hg)
  · rw [e] at hg; cases hg
    intro e2; have := h.rd.2.1 g e2; omega⟩
theorem Co.put {w1 wr w' : World} {vo vd0 vd vd' : Value} {lo : List Bun} {dd dd' : List Nid} (h : Co w1 wr vo vd0 vd lo dd) (hb : Below wr.heap.size wr w') (hr : RIb nidL w' vd' dd') (ho : OrNew wr vd vd') : Co w1 w' vo vd0 vd' lo dd' :=
 ⟨h.bn.grow hb, hr, by
  rcases ho with rfl | ho
  · exact h.od
  · exact .inr fun g hg => Nat.le_trans h.bn.2.1.size (ho g hg), fun g hg => by
  rcases ho with rfl | ho
  · exact h.ne g hg
  · intro e; have := ho g e; have := sl_lt h.bn.1 hg; omega⟩
theorem witG_cnt (n : Nid) (l : List Nid) : (witG n l).1.length = l.length + (witG n l).2.toNat := by
 have key : ∀ (l : List Nid) (st : List Nid × Bool) (k : Nat), st.1.length = k + st.2.toNat → (l.foldl (witS n) st).1.length = k + l.length + (l.foldl (witS n) st).2.toNat := fun l => by
  induction l with
  | nil => intro st k h; simpa using h
  | cons x l ih =>
    intro st k h
    rw [List.foldl_cons]
    have := ih (witS n st x) (k + 1) (by
     unfold witS
     obtain ⟨o, p⟩ := st
     cases p <;> cases befN n x <;> simp at h ⊢ <;> omega)
    rw [this]
    simp only [List.length_cons]; omega
 have := key l ([], false) 0 (by simp)
 simpa [witG] using this
theorem putN_len (l : List Nid) (n : Nid) : (putN l n).length ≤ l.length + 1 := by
 unfold putN witE
 split
 · omega
 · have := witG_cnt n l
   cases h : (witG n l).2 with
   | true => rw [h] at this; simp only [Bool.toNat_true] at this; simp; omega
   | false => rw [h] at this; simp only [Bool.toNat_false] at this; simp; omega
theorem putNs_len : ∀ (e d : List Nid), (e.foldl putN d).length ≤ d.length + e.length
 | [], d => by simp
 | n :: e, d => by
   have h1 := putNs_len e (putN d n)
   have h2 := putN_len d n
   rw [List.foldl_cons]
   simp only [List.length_cons]; omega
theorem cmd15_other (cols rows side radius speed ids queue z : Int) (vl vd : Value) (l : List Bun) (d : List Nid) (ck cs ci cg s' i' g' m' x' y' vx' vy' hp' pw' lf' mask : Int) (w : World) (hk : ck ≠ 1) (hl : RIb bunL w vl l) (hd : RIb nidL w vd d) (hn : l.length ≤ 100000) (hdn : d.length ≤ 100000)
 (hf : ∀ b ∈ l, -9223372036854775808 ≤ b.m ∧ b.m ≤ 9223372036854775807) (hm' : (-9223372036854775808 ≤ m' ∧ m' ≤ 9223372036854775807)) (hmk : (-9223372036854775808 ≤ mask ∧ mask ≤ 9223372036854775807)) :
 Calls prog 55 #[.agg #[int i64 cols, int i64 rows, int i64 side, int i64 radius, int i64 speed, int i64 ids, int i64 queue], int i64 z, vl, vd, .agg #[int i64 ck, int i64 cs, int i64 ci, int i64 cg, int i64 s', int i64 i', int i64 g', int i64 m', int i64 x', int i64 y', int i64 vx', int i64 vy', int i64 hp', int i64 pw', int i64 lf', int i64 mask]] w (CmdQ w vl vd (eachL (fun b => obeyF b (⟨ck, cs, ci, cg, ⟨s', i', g', m', x', y', vx', vy', hp', pw', lf'⟩, mask⟩ : Cm)) l) ((eachD (fun b => obeyF b (⟨ck, cs, ci, cg, ⟨s', i', g', m', x', y', vx', vy', hp', pw', lf'⟩, mask⟩ : Cm)) l).foldl putN d)) := by
 obtain ⟨i0, hi0, hz0, hz1, hz2⟩ := info_parts info_bunJ
 have HOB := hid (fun (b : Bun) (hb : b ∈ l) W => rObey_any b.s b.i b.g b.m b.x b.y b.vx b.vy b.hp b.pw b.lf ck cs ci cg s' i' g' m' x' y' vx' vy' hp' pw' lf' mask W (hf b hb) hm' hmk)
 have hfe : ∀ b : Bun, obeyF b (⟨ck, cs, ci, cg, ⟨s', i', g', m', x', y', vx', vy', hp', pw', lf'⟩, mask⟩ : Cm) = obeyF ⟨b.s, b.i, b.g, b.m, b.x, b.y, b.vx, b.vy, b.hp, b.pw, b.lf⟩ (⟨ck, cs, ci, cg, ⟨s', i', g', m', x', y', vx', vy', hp', pw', lf'⟩, mask⟩ : Cm) := fun b => rfl
 generalize hff : (fun b => obeyF b (⟨ck, cs, ci, cg, ⟨s', i', g', m', x', y', vx', vy', hp', pw', lf'⟩, mask⟩ : Cm)) = f at *
 have HFF := hid (fun b => congrFun hff b)
 have HSL := hid (fun t x h => eachL_step f (l := l) (t := t) (x := x) h)
 have HSD := hid (fun t x h => eachD_step f (l := l) (t := t) (x := x) h)
 have HLL := hid (fun t => eachL_le f l t)
 have HDL := hid (fun t => eachD_le f l t)
 have HPL := hid (fun t => putNs_len (eachD f (l.take t)) d)
 have HZ1 := hid (And.intro (rfl : eachL f (l.take 0) = []) (rfl : eachD f (l.take 0) = []))
 have HL := hid hl; have HD := hid hd
 have hEnd : ∀ w1 w' vo vd', Below w.heap.size w w1 → Co w1 w' vo vd vd' (eachL f l) ((eachD f l).foldl putN d) → CmdQ w vl vd (eachL f l) ((eachD f l).foldl putN d) (.returned (.tuple #[vo, vd'])) w' := fun w1 w' vo vd' hb hc =>
  ⟨vo, vd', rfl, hb.trans (hc.bn.2.1.mono hb.size), RIb.of_sl hc.bn.1, hc.rd, .inr fun g hg => Nat.le_trans hb.size (hc.bn.2.2 g hg), hc.od.imp id fun h g hg => Nat.le_trans hb.size (h g hg)⟩
 have HEND := hid hEnd
 clear hfe hff hf hEnd
 generalize hres : CmdQ w vl vd (eachL f l) ((eachD f l).foldl putN d) = Q at *
 have hk2 : (ck == 1) = false := by simpa using hk
 clear hres hk
 obtain ⟨⟨pl, el, rfl, hmx, _⟩, _, _⟩ := hl
 unfold maxLen at hmx
 obtain ⟨w1, hw1, hb1, k5, k9, g5, g9, hsz1⟩ := two_boxes w #[int i64 cols, int i64 rows, int i64 side, int i64 radius, int i64 speed, int i64 ids, int i64 queue] #[int i64 ck, int i64 cs, int i64 ci, int i64 cg, int i64 s', int i64 i', int i64 g', int i64 m', int i64 x', int i64 y', int i64 vx', int i64 vy', int i64 hp', int i64 pw', int i64 lf', int i64 mask] 23 34
 have HW1 := hid hw1; have HB1 := hid hb1; have K9 := hid k9
 have s9 : w.heap.size + 1 < w1.heap.size := by omega
 have x0 := k9 0
 simp at x0
 have hdl0 : RIb nidL w1 vd d := hd.keep hb1
 have HD1 := hid hdl0
 clear hw1 hb1 k5 k9 g5 g9 hsz1 hd hdl0
 go_enter Tryz.func55, Tryz.ntmps55
 go_upto_region 1 with fail
 rw [← HW1.out]
 generalize w.heap.size + 1 = n9 at *
 clear HW1
 go_wp2_with fail
 go_loopg [3, 12, 16] l.length (fun kx dv o sx wr => ∃ t : Nat, sx = int i64 t ∧ t ≤ l.length ∧ l.length - t ≤ kx ∧ Hid (Co w1 wr o vd dv (eachL f (l.take t)) ((eachD f (l.take t)).foldl putN d)))
 case atStart => exact ⟨0, by go_num, by omega, by omega, hid ⟨BNew.nil w1, HD1.out, .inl rfl, fun g hg => by cases hg⟩⟩
 case round =>
  obtain ⟨t, rfl, ht, hkx, HC⟩ := hrel
  obtain ⟨wa, rfl⟩ : ∃ wa : World, wa = wr := ⟨_, rfl⟩
  have hbl := HC.out.bn.2.1
  have s9a : n9 < wa.heap.size := Nat.lt_of_lt_of_le s9 hbl.size
  obtain ⟨f0, f1, f2⟩ := ltz s9a
  have k9a := box_on hbl s9 K9.out
  have y0 := k9a 0; simp at y0; have y1 := k9a 1; simp at y1; have y2 := k9a 2; simp at y2; have y3 := k9a 3; simp at y3; have y4 := k9a 4; simp at y4; have y5 := k9a 5; simp at y5; have y6 := k9a 6; simp at y6; have y7 := k9a 7; simp at y7; have y8 := k9a 8; simp at y8; have y9 := k9a 9; simp at y9; have y10 := k9a 10; simp at y10; have y11 := k9a 11; simp at y11; have y12 := k9a 12; simp at y12; have y13 := k9a 13; simp at y13; have y14 := k9a 14; simp at y14; have y15 := k9a 15; simp at y15
  have hal := HLL.out t
  have hdl := HDL.out t
  have hpl := HPL.out t
  clear k9a x0
  by_cases hlt : t < l.length
  · have t1 : (t : Int) < (l.length : Int) := by omega
    obtain ⟨x0, hx0⟩ : ∃ x0, l[t]? = some x0 := ⟨_, List.getElem?_eq_getElem hlt⟩
    obtain ⟨gb, ob, cb, hv, hgb, hcb⟩ := BIn.cells (HL.out.keep (HB1.out.trans (hbl.mono HB1.out.size))).1 hx0
    simp only [Value.slice.injEq, true_and] at hv
    obtain ⟨rfl, rfl⟩ := hv
    have c0 := hcb 0 _ rfl; have c1 := hcb 1 _ rfl; have c2 := hcb 2 _ rfl; have c3 := hcb 3 _ rfl; have c4 := hcb 4 _ rfl; have c5 := hcb 5 _ rfl; have c6 := hcb 6 _ rfl; have c7 := hcb 7 _ rfl; have c8 := hcb 8 _ rfl; have c9 := hcb 9 _ rfl; have c10 := hcb 10 _ rfl
    simp only [Nat.add_zero] at c0
    obtain ⟨e0, e1', e2'⟩ := ltz hgb
    have HXL := hid (HSL.out t x0 hx0)
    have HXD := hid (HSD.out t x0 hx0)
    have hob := HOB.out x0 (List.mem_of_getElem? hx0)
    rw [show obeyF ⟨x0.s, x0.i, x0.g, x0.m, x0.x, x0.y, x0.vx, x0.vy, x0.hp, x0.pw, x0.lf⟩ (⟨ck, cs, ci, cg, ⟨s', i', g', m', x', y', vx', vy', hp', pw', lf'⟩, mask⟩ : Cm) = f x0 from HFF.out x0] at hob
    have HOX := hid hob
    have HX0 := hid hx0
    clear hcb hx0 hob hbl
    generalize f x0 = r at *
    generalize eachL f (l.take t) = la at *
    generalize eachD f (l.take t) = da at *
    generalize hpd : da.foldl putN d = pd at *
    have HPD := hid hpd
    clear hpd
    obtain ⟨⟨so, io, go, mo, xo, yo, vxo, vyo, hpo, pwo, lfo⟩, ok⟩ := r
    obtain ⟨s, i, g, m, x, y, vx, vy, hp, pw, lf⟩ := x0
    simp only at HOX HXL HXD c0 c1 c2 c3 c4 c5 c6 c7 c8 c9 c10
    obtain ⟨po, co, hpo⟩ := sl_frm HC.out.bn.1
    subst hpo
    obtain ⟨pq, cq, hpq, _⟩ := HC.out.rd.1
    subst hpq
    go_upto_region 13 with fail
    go_cut [17, 18] (fun sq ss wx => Boxed wa wa.heap.size #[int i64 so, int i64 io, int i64 go, int i64 mo, int i64 xo, int i64 yo, int i64 vxo, int i64 vyo, int i64 hpo, int i64 pwo, int i64 lfo] 32 sq wx ∧ ss = .bool ok)
    case first =>
     go_region_held3 (fun W => (wa).heap.size ≤ W.heap.size ∧ ∀ b o, b < (wa).heap.size → W.cell? ⟨b, o, none⟩ = (wa).cell? ⟨b, o, none⟩) (with_reducible (repeat (first | assumption | exact s_refl _ | exact s_id _ | refine s_more _ _ ?_ | refine s_alloc _ ?_ | refine s_drew ?_))) (first | (go_at_call 94; refine belA (HOX.out _) fun d1 os1 => ?_))
     all_goals (clear c0 c1 c2 c3 c4 c5 c6 c7 c8 c9 c10 e0 e1' e2' f0 f1 f2; clear y0 y1 y2 y3 y4 y5 y6 y7 y8 y9 y10 y11 y12 y13 y14 y15)
     all_goals (go_wp2_with fail; go_meet)
     all_goals (refine ⟨?_, rfl⟩; ((with_reducible (repeat (first | exact grew_refl _ | exact grew_redrawn _ _ _ _ | refine boxed_drew ?_ | refine boxed_more _ _ ?_ | refine boxed_end ?_ ?_ ?_ | refine grew_more _ _ ?_ | refine grew_drew ?_))); (all_goals (try simp))))
    obtain ⟨⟨d1, os1, d2, os2, rfl, hwc⟩, rfl⟩ := hcut
    obtain ⟨wx, rfl⟩ : ∃ wx : World, wx = wc := ⟨_, rfl⟩
    have hbx : Below wa.heap.size wa wx := by rw [hwc]; exact bg
    have hnb := new_box (more wa d1 os1) #[int i64 so, int i64 io, int i64 go, int i64 mo, int i64 xo, int i64 yo, int i64 vxo, int i64 vyo, int i64 hpo, int i64 pwo, int i64 lfo] 32 (wa.heap.size + os1.size) (by simp)
    have hmb : Below ((more wa d1 os1).alloc (.cells #[int i64 so, int i64 io, int i64 go, int i64 mo, int i64 xo, int i64 yo, int i64 vxo, int i64 vyo, int i64 hpo, int i64 pwo, int i64 lfo] 32)).heap.size ((more wa d1 os1).alloc (.cells #[int i64 so, int i64 io, int i64 go, int i64 mo, int i64 xo, int i64 yo, int i64 vxo, int i64 vyo, int i64 hpo, int i64 pwo, int i64 lfo] 32)) wx := by rw [hwc]; exact more_below _ _ _
    have kx := box_on hmb hnb.2.2.1 hnb.1
    have sx := Nat.lt_of_lt_of_le hnb.2.2.1 hmb.size
    have HCX := hid (HC.out.grow hbx)
    have HBX := hid (HB1.out.trans ((HC.out.bn.2.1.trans (hbx.mono HC.out.bn.2.1.size)).mono HB1.out.size))
    generalize wa.heap.size + os1.size = n17 at *
    clear hwc hnb hmb hbx c0 c1 c2 c3 c4 c5 c6 c7 c8 c9 c10 e0 e1' e2' f0 f1 f2
    clear y0 y1 y2 y3 y4 y5 y6 y7 y8 y9 y10 y11 y12 y13 y14 y15
    cases ok with
    | true =>
      simp only [if_true, List.append_nil] at HXL HXD
      have q0 := kx 0; simp at q0; have q1 := kx 1; simp at q1; have q2 := kx 2; simp at q2; have q3 := kx 3; simp at q3; have q4 := kx 4; simp at q4; have q5 := kx 5; simp at q5; have q6 := kx 6; simp at q6; have q7 := kx 7; simp at q7; have q8 := kx 8; simp at q8; have q9 := kx 9; simp at q9; have q10 := kx 10; simp at q10
      obtain ⟨f0, f1, f2⟩ := ltz sx
      clear kx
      go_wp2_with (at_builtin; refine wpList_append_sl _ (by rfl) _ _ 37 (by rfl) 32 i0 _ 11 88 Tryz.underlying37 hi0 hz0 hz1 hz2 rfl (by omega) _ la.length (bunCells la) (by rfl) (HCX.out.bn.grow bg).1 ⟨_, 0, none⟩ 1 1 (bunL ⟨so, io, go, mo, xo, yo, vxo, vyo, hpo, pwo, lfo⟩) (by rfl) (by rfl) (new_cellsN _ _ _ _ (by simp)) (bunL_one _) (by omega) (by unfold maxLen; omega) (by omega) ?_; intro v' w4 hs4 ht4 ho4)
      have hm := (HCX.out.grow bg).app hs4 ht4 ho4
      have HM := hid hm
      clear hs4 ht4 ho4 hm
      go_roundg (l.length - (t + 1))
      case measure => omega
      case rel => exact ⟨t + 1, by go_num, by omega, by omega, hid (by rw [HXL.out, HXD.out, HPD.out]; exact HM.out)⟩
    | false =>
      simp only [Bool.false_eq_true, if_false, List.append_nil] at HXL HXD
      obtain ⟨gb2, ob2, cb2, hv2, hgb2, hcb2⟩ := BIn.cells (HL.out.keep HBX.out).1 HX0.out
      simp only [Value.slice.injEq, Option.some.injEq, Addr.mk.injEq, true_and, and_true] at hv2
      obtain ⟨⟨rfl, rfl⟩, rfl⟩ := hv2
      have c0 := hcb2 0 _ rfl; have c1 := hcb2 1 _ rfl; have c2 := hcb2 2 _ rfl
      simp only [Nat.add_zero] at c0
      obtain ⟨e0, e1', e2'⟩ := ltz hgb2
      clear hcb2 kx
      go_wp2_with fail
      refine (with15_any _ pd s i g _ HCX.out.rd (by omega)).mono ?_; rintro e w' ⟨vq, rfl, hb, hr, ho⟩
      have hm := HCX.out.put hb hr ho
      have HM := hid hm
      clear hb hr ho hm
      go_wp2_with fail
      go_roundg (l.length - (t + 1))
      case measure => omega
      case rel => exact ⟨t + 1, by go_num, by omega, by omega, hid (by rw [HXL.out, HXD.out, List.foldl_append, HPD.out]; exact HM.out)⟩
  · have t1 : ¬ (t : Int) < (l.length : Int) := by omega
    obtain rfl : t = l.length := by omega
    rw [List.take_length] at HC
    have hq := HEND.out w1 wa _ _ HB1.out HC.out
    clear f0 f1 f2 hbl
    clear y0 y1 y2 y3 y4 y5 y6 y7 y8 y9 y10 y11 y12 y13 y14 y15
    have HQ := hid hq
    clear hq
    go_wp2_with fail
    first | exact HQ.out | (go_ret2; exact HQ.out)
theorem cmd15_any (cols rows side radius speed ids queue z : Int) (vl vd : Value) (l : List Bun) (d : List Nid) (ck cs ci cg s' i' g' m' x' y' vx' vy' hp' pw' lf' mask : Int) (w : World) (ho : CfgOk ⟨cols, rows, side, radius, speed, ids, queue⟩) (hl : RIb bunL w vl l) (hd : RIb nidL w vd d) (hn : l.length ≤ 100000) (hdn : d.length ≤ 100000)
 (hf : ∀ b ∈ l, -9223372036854775808 ≤ b.m ∧ b.m ≤ 9223372036854775807) (hm' : (-9223372036854775808 ≤ m' ∧ m' ≤ 9223372036854775807)) (hmk : (-9223372036854775808 ≤ mask ∧ mask ≤ 9223372036854775807)) :
 Calls prog 55 #[.agg #[int i64 cols, int i64 rows, int i64 side, int i64 radius, int i64 speed, int i64 ids, int i64 queue], int i64 z, vl, vd, .agg #[int i64 ck, int i64 cs, int i64 ci, int i64 cg, int i64 s', int i64 i', int i64 g', int i64 m', int i64 x', int i64 y', int i64 vx', int i64 vy', int i64 hp', int i64 pw', int i64 lf', int i64 mask]] w (CmdQ w vl vd (cmdL ⟨cols, rows, side, radius, speed, ids, queue⟩ z l (⟨ck, cs, ci, cg, ⟨s', i', g', m', x', y', vx', vy', hp', pw', lf'⟩, mask⟩ : Cm)) ((cmdN l (⟨ck, cs, ci, cg, ⟨s', i', g', m', x', y', vx', vy', hp', pw', lf'⟩, mask⟩ : Cm)).foldl putN d)) := by
 by_cases hk : ck = 1
 · subst hk
   exact cmd15_spawn cols rows side radius speed ids queue z vl vd l d cs ci cg s' i' g' m' x' y' vx' vy' hp' pw' lf' mask w ho hl hd hn
 · have e1 : cmdL ⟨cols, rows, side, radius, speed, ids, queue⟩ z l (⟨ck, cs, ci, cg, ⟨s', i', g', m', x', y', vx', vy', hp', pw', lf'⟩, mask⟩ : Cm) = eachL (fun b => obeyF b (⟨ck, cs, ci, cg, ⟨s', i', g', m', x', y', vx', vy', hp', pw', lf'⟩, mask⟩ : Cm)) l := by unfold cmdL; rw [if_neg hk]
   have e2 : cmdN l (⟨ck, cs, ci, cg, ⟨s', i', g', m', x', y', vx', vy', hp', pw', lf'⟩, mask⟩ : Cm) = eachD (fun b => obeyF b (⟨ck, cs, ci, cg, ⟨s', i', g', m', x', y', vx', vy', hp', pw', lf'⟩, mask⟩ : Cm)) l := by unfold cmdN; rw [if_neg hk]
   rw [e1, e2]
   exact cmd15_other cols rows side radius speed ids queue z vl vd l d ck cs ci cg s' i' g' m' x' y' vx' vy' hp' pw' lf' mask w hk hl hd hn hdn hf hm' hmk
theorem more_self (w : World) : more w w.drawn #[] = w := by simp [more]
theorem still_of {P : Program} {f : FuncId} {args : Array Value} {w : World} {v : Value} (h : Calls P f args w fun e w' => e = .returned v ∧ w = w') : Calls P f args w fun e w'' => e = .returned v ∧ w'' = w := h.mono fun _ _ ⟨a, b⟩ => ⟨a, b.symm⟩
theorem rMove_any (cols rows side radius speed ids queue s i g m x y vx vy hp pw lf : Int) (w : World) (ho : CfgOk ⟨cols, rows, side, radius, speed, ids, queue⟩) (HM : (-9223372036854775808 ≤ m ∧ m ≤ 9223372036854775807)) :
 Calls prog 57 #[.agg #[int i64 cols, int i64 rows, int i64 side, int i64 radius, int i64 speed, int i64 ids, int i64 queue], .agg #[int i64 s, int i64 i, int i64 g, int i64 m, int i64 x, int i64 y, int i64 vx, int i64 vy, int i64 hp, int i64 pw, int i64 lf]] w fun e w' => e = .returned (.agg #[int i64 (moveF ⟨cols, rows, side, radius, speed, ids, queue⟩ ⟨s, i, g, m, x, y, vx, vy, hp, pw, lf⟩).s, int i64 (moveF ⟨cols, rows, side, radius, speed, ids, queue⟩ ⟨s, i, g, m, x, y, vx, vy, hp, pw, lf⟩).i, int i64 (moveF ⟨cols, rows, side, radius, speed, ids, queue⟩ ⟨s, i, g, m, x, y, vx, vy, hp, pw, lf⟩).g, int i64 (moveF ⟨cols, rows, side, radius, speed, ids, queue⟩ ⟨s, i, g, m, x, y, vx, vy, hp, pw, lf⟩).m, int i64 (moveF ⟨cols, rows, side, radius, speed, ids, queue⟩ ⟨s, i, g, m, x, y, vx, vy, hp, pw, lf⟩).x, int i64 (moveF ⟨cols, rows, side, radius, speed, ids, queue⟩ ⟨s, i, g, m, x, y, vx, vy, hp, pw, lf⟩).y, int i64 (moveF ⟨cols, rows, side, radius, speed, ids, queue⟩ ⟨s, i, g, m, x, y, vx, vy, hp, pw, lf⟩).vx, int i64 (moveF ⟨cols, rows, side, radius, speed, ids, queue⟩ ⟨s, i, g, m, x, y, vx, vy, hp, pw, lf⟩).vy, int i64 (moveF ⟨cols, rows, side, radius, speed, ids, queue⟩ ⟨s, i, g, m, x, y, vx, vy, hp, pw, lf⟩).hp, int i64 (moveF ⟨cols, rows, side, radius, speed, ids, queue⟩ ⟨s, i, g, m, x, y, vx, vy, hp, pw, lf⟩).pw, int i64 (moveF ⟨cols, rows, side, radius, speed, ids, queue⟩ ⟨s, i, g, m, x, y, vx, vy, hp, pw, lf⟩).lf]) ∧ Below w.heap.size w w' := by
 have HB := fun W => bit_any m 2 W HM.1 HM.2 (by omega)
 rw [← hasB_tb2] at HB
 have hs0 := ho.v0
 have hs1 := ho.v1
 have hs2 := ho.s1
 simp only at hs0 hs1 hs2
 have HI := hid (fun W x y => rIn_k cols rows side radius speed ids queue x y W ho)
 have cx := clampF_lo x; have cx' := clampF_hi x; have cy := clampF_lo y; have cy' := clampF_hi y
 clear ho
 cases hb : hasB m 2 with
 | false =>
   rw [hb] at HB
   have HB := hid HB
   go_enter Tryz.func57, Tryz.ntmps57
   go_wp2_with (first | (go_at_call 41; refine eqA (HB.out _) ?_) | (go_at_call 27; refine belA (HI.out _ _ _) fun d os => ?_))
   go_returns
   refine ⟨?_, bg⟩
   simp [moveF, hb]
 | true =>
   rw [hb] at HB
   have HB := hid HB
   go_enter Tryz.func57, Tryz.ntmps57
   go_wp2_with (first | (go_at_call 41; refine eqA (HB.out _) ?_) | (go_at_call 27; refine belA (HI.out _ _ _) fun d os => ?_) | (go_at_call 78; refine eqA (rClamp_any _ _) ?_) | (go_at_call 95; refine eqA (near_any _ _ _ (by omega) (by omega)) ?_))
   rw [← more_self (((w.alloc _).alloc _).alloc _)]
   generalize World.drawn _ = d0
   generalize (#[] : Array Obj) = os0
   refine wp_region_still_tail 9 (by kernel_rfl) (by kernel_rfl) ?_
   simp only [List.take_succ_cons, List.take_zero, List.drop_succ_cons, List.drop_zero]
   repeat (first | still_step | (still_call (still_of (rClamp_any _ _))) | (still_call (still_of (near_any _ _ _ (by omega) (by omega)))))
   refine wpStill_nil ?_
   go_wp2_with (go_at_call 78; refine eqA (rClamp_any _ _) ?_)
   refine wp_region_still_tail 9 (by kernel_rfl) (by kernel_rfl) ?_
   simp only [List.take_succ_cons, List.take_zero, List.drop_succ_cons, List.drop_zero]
   repeat (first | still_step | (still_call (still_of (rClamp_any _ _))) | (still_call (still_of (near_any _ _ _ (by omega) (by omega)))))
   refine wpStill_nil ?_
   go_wp2_with (first | (go_at_call 78; refine eqA (rClamp_any _ _) ?_) | (go_at_call 27; refine belA (HI.out _ _ _) fun d os => ?_))
   go_returns
   refine ⟨?_, bg⟩
   simp [moveF, hb, addF_near _ _ _ hs0 (by omega : speed ≤ 1073741824)]
end Go.Proofs.YtoimjjhopljdmaaGreat
