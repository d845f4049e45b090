/-
  Plain: entities of unlike names are sorted in one way; what all zones beside one tell it, each of its own entities, is all that lies near it. No program here. Condition: the world may be.
  Chapter 22: part: those that stand in a zone. Condition: the world may be; not too many entities.
  Chapter 15: a tick's stage as it lies in memory; what turns in it; names as they lie in memory. No condition.
  A region that draws, with loads out of one block beside calls that make memory, and stores into another block. No condition.
  Chapter 22: told: a state of a zone whom all zones beside it told what they must. Condition: the world may be; not too many entities.
-/
import Derived.Test.YtcnclcfipabimaaMge
import Derived.Test.YtcnclcfipabimaaMgb
import Derived.Test.YtcnclcfipabimaaMsd
import Derived.Test.YtcnclcfipabimaaMsl
import Derived.Test.YtcnclcfipabimaaMgc
import Derived.Test.YtcnclcfipabimaaMgx
import Derived.Test.YtcnclcfipabimaaBase
import Derived.Test.YtcnclcfipabimaaGhZ
namespace Go.Proofs.Ytcnclcfipabimaa
open Go.RowKit Go.Sort
theorem stF_perm (l : List Bun) : (stableF cmpBun l).Perm l := by
  unfold stableF
  have h := (List.mergeSort_perm l.zipIdx fun x y => !ltT cmpBun y x).map fun x => x.1
  have e : l.zipIdx.map (fun x => x.1) = l := by simp
  exact h.trans (List.Perm.of_eq e)
/-- Two entities of one name. -/
def sameId (a b : Bun) : Prop := a.s = b.s ∧ a.i = b.i ∧ a.g = b.g
def UnId (l : List Bun) : Prop := l.Pairwise fun a b => ¬ sameId a b
theorem UnId.perm {l l' : List Bun} (h : UnId l) (hp : l.Perm l') : UnId l' := List.Pairwise.perm h hp fun {_ _} hn hs => hn ⟨hs.1.symm, hs.2.1.symm, hs.2.2.symm⟩
theorem UnId.sub {l l' : List Bun} (h : UnId l) (hs : l'.Sublist l) : UnId l' := List.Pairwise.sublist hs h
theorem UnId.one {l : List Bun} (h : UnId l) {a b : Bun} (ha : a ∈ l) (hb : b ∈ l) (hs : sameId a b) : a = b := by
  obtain ⟨i, hi, rfl⟩ := List.mem_iff_getElem.1 ha
  obtain ⟨j, hj, rfl⟩ := List.mem_iff_getElem.1 hb
  rcases Nat.lt_trichotomy i j with h1 | h1 | h1
  · exact absurd hs (List.pairwise_iff_getElem.1 h i j hi hj h1)
  · subst h1; rfl
  · exact absurd ⟨hs.1.symm, hs.2.1.symm, hs.2.2.symm⟩ (List.pairwise_iff_getElem.1 h j i hj hi h1)
theorem stF_pair (l : List Bun) : (stableF cmpBun l).Pairwise fun a b => bef b a = false := by rw [← rSort_stable]; exact rSort_pair l
theorem bef_anti {a b : Bun} (h1 : bef b a = false) (h2 : bef a b = false) : sameId a b := by
  rw [bef_cmp, decide_eq_false_iff_not] at h1 h2
  have hn := cmpBun_ok.neg b a
  exact (cmpId_zero _ _ _ _ _ _).1 (by unfold cmpBun at *; omega)
/-- Entities of unlike names: in whatever order they stand, they are sorted in one way. -/
theorem stF_eq {l l' : List Bun} (hp : l.Perm l') (hu : UnId l) : stableF cmpBun l = stableF cmpBun l' := by
  refine List.Perm.eq_of_pairwise (le := fun a b => bef b a = false) (fun a b ha hb h1 h2 => ?_) (stF_pair l) (stF_pair l') ((stF_perm l).trans (hp.trans (stF_perm l').symm))
  have ha' := (stF_perm l).mem_iff.1 ha
  have hb' := hp.mem_iff.2 ((stF_perm l').mem_iff.1 hb)
  exact hu.one ha' hb' (bef_anti h1 h2)
/-- .. and each stands ahead of the next. -/
theorem stF_rise {l : List Bun} (hu : UnId l) : (stableF cmpBun l).Pairwise fun a b => bef a b = true := by
  have h1 := stF_pair l
  have h2 := hu.perm (stF_perm l).symm
  refine (h1.and h2).imp fun {a b} h => ?_
  cases hb : bef a b with
  | true => rfl
  | false => exact absurd (bef_anti h.1 hb) h.2

/-- Those that stand in a zone. -/
def partF (c : Cfg) (k : Int) (l : List Bun) : List Bun := l.filter fun b => ofF c b.x b.y == k
/-- Those that lie near a zone, of others. -/
def wantF (c : Cfg) (k : Int) (l : List Bun) : List Bun := l.filter (forB c k)
/-- What all zones beside one tell it. -/
def saysF (c : Cfg) (k : Int) (l : List Bun) (ks : List Int) : List Bun := ks.flatMap fun j => forF c k (partF c j l)

theorem off_near {x i s r : Int} (hs : 0 < s) (hr : r ≤ s) (h : offF x (i * s) (i * s + s - 1) ≤ r) : -1 ≤ x / s - i ∧ x / s - i ≤ 1 := by
  unfold offF at h
  have h1 : i * s - s ≤ x := by omega
  have h2 : x ≤ i * s + s - 1 + s := by omega
  have e1 : (i - 1) * s ≤ x := by rw [Int.sub_mul, Int.one_mul]; exact h1
  have e2 : x < (i + 2) * s := by rw [Int.add_mul]; omega
  have a1 := Int.le_ediv_of_mul_le hs e1
  have a2 := Int.ediv_lt_of_lt_mul hs e2
  omega

/-- Whoever lies near a zone, and not in it, stands in one beside it. -/
theorem near_beside {c : Cfg} (ho : CfgOk c) {k : Int} (h0 : 0 ≤ k) (h1 : k < c.cols * c.rows) {b : Bun} (hin : inW c b.x b.y = true) (hf : forB c k b = true) : ofF c b.x b.y ∈ besideF c k := by
  unfold forB at hf
  simp only [Bool.and_eq_true, Bool.not_eq_true', beq_eq_false_iff_ne, decide_eq_true_eq] at hf
  obtain ⟨hne, hg⟩ := hf
  obtain ⟨e, a0, a1, b0, b1, m0, m1⟩ := ofF_in ho hin
  have s0 := ho.s0; have s1 := ho.s1; have r1 := ho.a1; have r0 := ho.a0
  obtain ⟨hz, z1, z2, z3, z4⟩ := zone_rng ho h0 h1
  unfold inW at hin
  obtain ⟨x0, x1, y0, y1⟩ := of_decide_eq_true hin
  obtain ⟨p1, p2, p3, p4⟩ := ho.prod
  unfold gapZ at hg
  rw [hz] at hg
  simp only at hg
  unfold gapF boxOk at hg
  generalize hi : k % c.cols = i at *
  generalize hj : k / c.cols = j at *
  rw [clampF_id b.x (by omega) (by omega), clampF_id b.y (by omega) (by omega), clampF_id (i * c.side) (by omega) (by omega), clampF_id (j * c.side) (by omega) (by omega), clampF_id (i * c.side + c.side) (by omega) (by omega), clampF_id (j * c.side + c.side) (by omega) (by omega)] at hg
  rw [show (decide (i * c.side < i * c.side + c.side) && decide (j * c.side < j * c.side + c.side)) = true by simp; omega, if_pos rfl] at hg
  obtain ⟨d1, d2⟩ := off_near (x := b.x) (i := i) (s := c.side) (r := c.radius) (by omega) r1 (by omega)
  obtain ⟨d3, d4⟩ := off_near (x := b.y) (i := j) (s := c.side) (r := c.radius) (by omega) r1 (by omega)
  refine mem_beside m0 m1 ?_
  obtain ⟨c1, c2⟩ := col_row (cy := b.y / c.side) a0 a1
  unfold nextB
  have hne' : (ofF c b.x b.y == k) = false := by simp; exact hne
  rw [hne', e, c1, c2, hi, hj]
  have hk : k = j * c.cols + i := by rw [← hi, ← hj]; have := Int.mul_ediv_add_emod k c.cols; rw [Int.mul_comm] at this; omega
  have hpq : ¬ (b.x / c.side = i ∧ b.y / c.side = j) := fun ⟨q1, q2⟩ => hne (by rw [e, q1, q2, hk])
  generalize b.x / c.side = p at *
  generalize b.y / c.side = q at *
  simp only [Bool.not_false, Bool.true_and, beq_iff_eq]
  omega

theorem beside_nodup (c : Cfg) (k : Int) : (besideF c k).Nodup := by
  unfold besideF
  refine List.Pairwise.filter _ ?_
  rw [List.pairwise_map]
  exact List.nodup_range.imp fun {a b} h e => h (by omega)
theorem beside_ne {c : Cfg} {k j : Int} (h : j ∈ besideF c k) : j ≠ k := by
  unfold besideF at h
  have := (List.mem_filter.1 h).2
  unfold nextB at this
  simp only [Bool.and_eq_true, Bool.not_eq_true', beq_eq_false_iff_ne] at this
  exact this.1
theorem says_perm (c : Cfg) (k : Int) (l : List Bun) : ∀ ks : List Int, ks.Nodup → (saysF c k l ks).Perm (l.filter fun b => forB c k b && ks.contains (ofF c b.x b.y))
  | [], _ => by simp [saysF]
  | j :: ks, hn => by
    obtain ⟨h1, h2⟩ := List.nodup_cons.1 hn
    have ih := says_perm c k l ks h2
    have e1 : (saysF c k l (j :: ks)) = forF c k (partF c j l) ++ saysF c k l ks := by simp [saysF]
    rw [e1]
    have q1 : (forF c k (partF c j l)).Perm ((partF c j l).filter (forB c k)) := (stF_perm _).filter _
    have q2 := q1.append ih
    refine q2.trans ?_
    have q3 := (List.filter_append_perm (fun b : Bun => ofF c b.x b.y == j) (l.filter fun b => forB c k b && (j :: ks).contains (ofF c b.x b.y)))
    refine List.Perm.trans (List.Perm.of_eq ?_) q3
    unfold partF
    rw [List.filter_filter, List.filter_filter, List.filter_filter]
    congr 1
    · refine List.filter_congr fun b _ => ?_
      by_cases he : ofF c b.x b.y = j
      · simp [he]
      · have he' : (ofF c b.x b.y == j) = false := by simpa using he
        simp [he']
    · refine List.filter_congr fun b _ => ?_
      by_cases he : ofF c b.x b.y = j
      · have : ks.contains j = false := by simpa using h1
        simp [he, h1]
      · simp [he]
/-- What all zones beside one tell it is all that lies near it. -/
theorem says_all {c : Cfg} (ho : CfgOk c) {k : Int} (h0 : 0 ≤ k) (h1 : k < c.cols * c.rows) {l : List Bun} (hin : ∀ b ∈ l, inW c b.x b.y = true) : (saysF c k l (besideF c k)).Perm (wantF c k l) := by
  refine (says_perm c k l _ (beside_nodup c k)).trans (List.Perm.of_eq ?_)
  unfold wantF
  refine List.filter_congr fun b hb => ?_
  cases hf : forB c k b with
  | false => rfl
  | true => simpa using near_beside ho h0 h1 (hin b hb) hf
theorem says_sorted {c : Cfg} (ho : CfgOk c) {k : Int} (h0 : 0 ≤ k) (h1 : k < c.cols * c.rows) {l : List Bun} (hin : ∀ b ∈ l, inW c b.x b.y = true) (hu : UnId l) : stableF cmpBun (saysF c k l (besideF c k)) = stableF cmpBun (wantF c k l) :=
  (stF_eq (says_all ho h0 h1 hin).symm (hu.sub List.filter_sublist)).symm
end Go.Proofs.Ytcnclcfipabimaa
namespace Go.Proofs.Ytcnclcfipabimaa
open Go.RowKit

theorem filter_step {α : Type} (f : α → Bool) {l : List α} {t : Nat} {x : α} (h : l[t]? = some x) : (l.take (t + 1)).filter f = (l.take t).filter f ++ (if f x then [x] else []) := by
  have hlt := (List.getElem?_eq_some_iff.1 h).1
  rw [List.take_succ_eq_append_getElem hlt, List.filter_append, (List.getElem?_eq_some_iff.1 h).2]
  cases hh : f x <;> simp [hh]
set_option maxRecDepth 100000 in
set_option maxHeartbeats 2000000 in
theorem part_any (cols rows side radius speed ids queue : Int) (k : Int) (v : Value) (l : List Bun) (w : World) (ho : CfgOk ⟨cols, rows, side, radius, speed, ids, queue⟩) (hl : BIn w v l) (hn : l.length ≤ 1000) :
    Calls Try.prog 71 #[.agg #[.int .i64 cols, .int .i64 rows, .int .i64 side, .int .i64 radius, .int .i64 speed, .int .i64 ids, .int .i64 queue], .int .i64 k, v] w fun e w' => ∃ v', e = .returned v' ∧ BNew w w' v' (partF ⟨cols, rows, side, radius, speed, ids, queue⟩ k l) := by
  obtain ⟨i0, hi0, hz0, hz1, hz2⟩ := info_parts info_bunJ
  have HO := Lib.hid (fun x y W => rof_any cols rows side radius speed ids queue x y W ho)
  have HL := Lib.hid hl
  clear ho
  unfold partF
  generalize ofF ⟨cols, rows, side, radius, speed, ids, queue⟩ = of at *
  generalize hfb : (fun b : Bun => of b.x b.y == k) = fb
  have HFB := Lib.hid (fun b => congrFun hfb b)
  clear hfb
  obtain ⟨p1, e1, rfl, _⟩ := hl
  go_enter Try.func71, Try.ntmps71
  go_upto_region 1 with fail
  generalize hw1 : World.alloc w _ = w1
  have hb1 : Below w.heap.size w w1 := by rw [← hw1]; exact (by repeat' (first | (with_reducible exact Below.refl _ _) | (with_reducible assumption) | (with_reducible refine below_drewN ?_ _) | (with_reducible refine below_more _ _ _ ?_ ?_) | (with_reducible refine Below.alloc ?_ ?_ _) | (with_reducible refine Below.drew ?_) | (with_reducible refine Below.setCell ?_ ?_ _) | go_size))
  have hcf : ∀ u, w1.cell? ⟨w.heap.size, u, none⟩ = (#[.int .i64 cols, .int .i64 rows, .int .i64 side, .int .i64 radius, .int .i64 speed, .int .i64 ids, .int .i64 queue] : Array Value)[u]? := fun u => by rw [← hw1]; simp
  have hs2 : w.heap.size < w1.heap.size := by rw [← hw1]; simp
  have HB1 := Lib.hid hb1
  have HCF := Lib.hid hcf
  clear hb1 hcf hw1
  go_wp2_with fail
  go_loopg [7, 8] l.length (fun kx o sx wr => ∃ t : Nat, sx = .int .i64 t ∧ t ≤ l.length ∧ l.length - t ≤ kx ∧ Hid (BNew w1 wr o ((l.take t).filter fb)) ∧ Hid (((l.take t).filter fb).length ≤ t))
  case atStart => exact ⟨0, by go_num, by omega, by omega, Lib.hid (BNew.nil w1), Lib.hid (Nat.le_refl _)⟩
  case round =>
    obtain ⟨t, rfl, ht, hkx, HN, HNL⟩ := hrel
    obtain ⟨wa, rfl⟩ : ∃ wa : World, wa = wr := ⟨_, rfl⟩
    have hbl := HN.out.2.1
    have hsl := hbl.size
    have x0 := (hbl.cell (p := ⟨w.heap.size, 0, none⟩) hs2).trans (HCF.out 0); simp at x0
    have x1 := (hbl.cell (p := ⟨w.heap.size, 1, none⟩) hs2).trans (HCF.out 1); simp at x1
    have x2 := (hbl.cell (p := ⟨w.heap.size, 2, none⟩) hs2).trans (HCF.out 2); simp at x2
    have x3 := (hbl.cell (p := ⟨w.heap.size, 3, none⟩) hs2).trans (HCF.out 3); simp at x3
    have x4 := (hbl.cell (p := ⟨w.heap.size, 4, none⟩) hs2).trans (HCF.out 4); simp at x4
    have x5 := (hbl.cell (p := ⟨w.heap.size, 5, none⟩) hs2).trans (HCF.out 5); simp at x5
    have x6 := (hbl.cell (p := ⟨w.heap.size, 6, none⟩) hs2).trans (HCF.out 6); simp at x6
    have s2a : w.heap.size < wa.heap.size := by omega
    obtain ⟨f0, f1, f2⟩ := ltz s2a
    have HBL := Lib.hid hbl
    clear hbl
    by_cases hlt : t < l.length
    · have t1 : (t : Int) < (l.length : Int) := by omega
      obtain ⟨x0, hx0⟩ : ∃ x0, l[t]? = some x0 := ⟨_, List.getElem?_eq_getElem hlt⟩
      obtain ⟨gb, ob, cb, hv, hgb, hcb⟩ := (HL.out.keep (HB1.out.trans (HBL.out.mono HB1.out.size))).cells hx0
      simp only [Value.slice.injEq, true_and] at hv
      obtain ⟨rfl, rfl⟩ := hv
      have c0 := hcb 0 _ rfl
      have c1 := hcb 1 _ rfl
      have c2 := hcb 2 _ rfl
      have c3 := hcb 3 _ rfl
      have c4 := hcb 4 _ rfl
      have c5 := hcb 5 _ rfl
      have c6 := hcb 6 _ rfl
      have c7 := hcb 7 _ rfl
      have c8 := hcb 8 _ rfl
      have c9 := hcb 9 _ rfl
      have c10 := hcb 10 _ rfl
      simp only [Nat.add_zero] at c0
      obtain ⟨po, co, hpo⟩ := sl_frm HN.out.1
      subst hpo
      have hst := filter_step fb hx0
      rw [← HFB.out x0] at hst
      have HST := Lib.hid hst
      have HOX := Lib.hid (HO.out x0.x x0.y)
      generalize of x0.x x0.y = oz at *
      obtain ⟨e0, e1', e2'⟩ := ltz hgb
      clear hcb hx0 hst
      generalize hacc : (l.take t).filter fb = acc at *
      have hal := HNL.out
      clear hacc HNL
      obtain ⟨s, i, g, m, x, y, vx, vy, hp, pw, lf⟩ := x0
      simp only at HOX
      go_wp2_with fail
      refine wp_region_more (by kernel_rfl) (by kernel_rfl) ?_
      repeat (go_big_quiet_step ((first | (go_at_call 36; exact more_call (HOX.out _)))))
      refine wpQuiet_nil ?_
      rintro _ ⟨pq, rfl⟩
      cases h1 : (oz == k) with
      | false =>
        have heq : ¬ oz = k := by simpa using h1
        rw [h1] at HST
        go_wp2_with fail
        go_roundg (l.length - (t + 1))
        case measure => omega
        case rel => exact ⟨t + 1, by go_num, by omega, by omega, Lib.hid (by rw [HST.out]; simpa using HN.out.grow (by repeat' (first | (with_reducible exact Below.refl _ _) | (with_reducible assumption) | (with_reducible refine below_drewN ?_ _) | (with_reducible refine below_more _ _ _ ?_ ?_) | (with_reducible refine Below.alloc ?_ ?_ _) | (with_reducible refine Below.drew ?_) | (with_reducible refine Below.setCell ?_ ?_ _) | go_size))), Lib.hid (by rw [HST.out]; simp; omega)⟩
      | true =>
        have heq : oz = k := by simpa using h1
        rw [h1] at HST
        go_wp2_with (at_builtin; refine wpList_append_sl _ (by rfl) _ _ 24 (by rfl) 41 i0 _ 11 88 Try.underlying24 hi0 hz0 hz1 hz2 rfl (by omega) _ acc.length (bunCells acc) (by rfl) (HN.out.grow (by repeat' (first | (with_reducible exact Below.refl _ _) | (with_reducible assumption) | (with_reducible refine below_drewN ?_ _) | (with_reducible refine below_more _ _ _ ?_ ?_) | (with_reducible refine Below.alloc ?_ ?_ _) | (with_reducible refine Below.drew ?_) | (with_reducible refine Below.setCell ?_ ?_ _) | go_size))).1 ⟨_, 0, none⟩ 1 1 (bunL ⟨s, i, g, m, x, y, vx, vy, hp, pw, lf⟩) (by rfl) (by rfl) (new_cellsN _ _ _ _ (by simp)) (bunL_one _) (by omega) (by unfold maxLen; omega) (by omega) ?_; intro v' w4 hs4 ht4 ho4)
        have hm := (HN.out.grow (by repeat' (first | (with_reducible exact Below.refl _ _) | (with_reducible assumption) | (with_reducible refine below_drewN ?_ _) | (with_reducible refine below_more _ _ _ ?_ ?_) | (with_reducible refine Below.alloc ?_ ?_ _) | (with_reducible refine Below.drew ?_) | (with_reducible refine Below.setCell ?_ ?_ _) | go_size))).snoc hs4 ht4 ho4
        have HM := Lib.hid hm
        clear hs4 ht4 ho4 hm
        go_roundg (l.length - (t + 1))
        case measure => omega
        case rel => exact ⟨t + 1, by go_num, by omega, by omega, Lib.hid (by rw [HST.out]; simpa using HM.out), Lib.hid (by rw [HST.out]; simp; omega)⟩
    · have t1 : ¬ (t : Int) < (l.length : Int) := by omega
      obtain rfl : t = l.length := by omega
      rw [List.take_length] at HN HNL
      obtain ⟨po, co, hpo⟩ := sl_frm HN.out.1
      subst hpo
      go_wp2_with fail
      go_ret
      exact ⟨_, rfl, HN.out.since HB1.out⟩
end Go.Proofs.Ytcnclcfipabimaa
namespace Go.Proofs.Ytcnclcfipabimaa
open Go.RowKit
theorem filter_step2 {α : Type} (f : α → Bool) {l : List α} {t : Nat} {x : α} (h : l[t]? = some x) : (l.take (t + 1)).filter f = (l.take t).filter f ++ (if f x then [x] else []) := by
  have hlt := (List.getElem?_eq_some_iff.1 h).1
  rw [List.take_succ_eq_append_getElem hlt, List.filter_append, (List.getElem?_eq_some_iff.1 h).2]
  cases hh : f x <;> simp [hh]
/-- A name. -/
structure Nid where
  (s i g : Int)
  deriving DecidableEq, Inhabited
def nidL (n : Nid) : List Value := [.int .i64 n.s, .int .i64 n.i, .int .i64 n.g]
theorem nidL_len (n : Nid) : (nidL n).length = 3 := rfl
theorem nidL_one (n : Nid) : ∀ v ∈ nidL n, v.oneCell' = true := fun v hv => by
  simp only [nidL, List.mem_cons, List.not_mem_nil, or_false] at hv
  rcases hv with rfl | rfl | rfl <;> rfl
theorem info_nid : (Try.prog.info? 39).map (fun i => (i.zero, i.size, i.bytes)) = some (some (.agg #[.int .i64 0, .int .i64 0, .int .i64 0]), 3, 24) := by kernel_rfl
def idOf (b : Bun) : Nid := ⟨b.s, b.i, b.g⟩
/-- The stage: a map, entities, who stays, who goes, who is no more. -/
structure StB (w : World) (b : Nat) (m lv ov gv dv : Value) : Prop where
  c : ∀ j, w.cell? ⟨b, j, none⟩ = (#[m, lv, ov, gv, dv] : Array Value)[j]?
  f : ∀ j, w.frozen? ⟨b, j, none⟩ = false
theorem StB.keep {w w' : World} {b : Nat} {m lv ov gv dv : Value} (h : StB w b m lv ov gv dv) (hb : w'.heap[b]? = w.heap[b]?) : StB w' b m lv ov gv dv :=
  ⟨fun j => (World.cell?_of_block (w := w) (a := ⟨b, j, none⟩) hb).trans (h.c j), fun j => (World.frozen?_of_block (w := w) (a := ⟨b, j, none⟩) hb).trans (h.f j)⟩
theorem StB.lt {w : World} {b : Nat} {m lv ov gv dv : Value} (h : StB w b m lv ov gv dv) : b < w.heap.size := World.block_lt_of_cell? w ⟨b, 0, none⟩ (h.c 0)
theorem StB.block {w : World} {b : Nat} {m lv ov gv dv : Value} (h : StB w b m lv ov gv dv) : ∃ c e fr, w.heap[b]? = some (.cells c e fr) ∧ 4 < c.size := by
  have h6 := h.c 4
  simp only [World.cell?] at h6
  split at h6
  · rename_i c e fr hb
    refine ⟨c, e, fr, hb, ?_⟩
    simp at h6
    exact (Array.getElem?_eq_some_iff.1 h6).1
  · simp at h6
/-- A store into the stage. -/
theorem StB.store {w : World} {b : Nat} {vs : Array Value} {u : Nat} (hu : u < 5) (hs : vs.size = 5) (v' : Value) (hc : ∀ j, w.cell? ⟨b, j, none⟩ = vs[j]?) (hf : ∀ j, w.frozen? ⟨b, j, none⟩ = false) :
    (∀ j, (w.setCell ⟨b, u, none⟩ v').cell? ⟨b, j, none⟩ = (vs.setIfInBounds u v')[j]?) ∧ (∀ j, (w.setCell ⟨b, u, none⟩ v').frozen? ⟨b, j, none⟩ = false) := by
  have h6 := hc u
  rw [Array.getElem?_eq_getElem (by omega)] at h6
  simp only [World.cell?] at h6
  split at h6
  · rename_i c e fr hb
    simp at h6
    have hcs := (Array.getElem?_eq_some_iff.1 h6).1
    have hs' : (w.setCell ⟨b, u, none⟩ v').heap[b]? = some (.cells (c.setIfInBounds u v') e fr) := by simp [World.setCell, Array.getElem?_modify, hb]
    have hcc : ∀ j, c[j]? = vs[j]? := fun j => by have := hc j; simpa [World.cell?, hb] using this
    refine ⟨fun j => ?_, fun j => ?_⟩
    · have e1 : (w.setCell ⟨b, u, none⟩ v').cell? ⟨b, j, none⟩ = (c.setIfInBounds u v')[j]? := by unfold World.cell?; rw [hs']; simp
      rw [e1]
      simp only [Array.getElem?_setIfInBounds, hcc]
      split
      · rw [if_pos (by omega)]
      · rfl
    · rw [← hf j]
      simp only [World.frozen?, hs', hb]
  · simp at h6
/-- What turns: one box, one slice's block, and what is new. -/
structure Tu2 (w w' : World) (b : Nat) (o : Option Nat) : Prop where
  os : w'.os = w.os
  tape : w'.tape = w.tape
  output : w'.output = w.output
  size : w.heap.size ≤ w'.heap.size
  block : ∀ k, k < w.heap.size → k ≠ b → some k ≠ o → w'.heap[k]? = w.heap[k]?
theorem Tu2.refl (w : World) (b : Nat) (o : Option Nat) : Tu2 w w b o := ⟨rfl, rfl, rfl, Nat.le_refl _, fun _ _ _ _ => rfl⟩
theorem Tu2.bel {w w1 w2 : World} {b : Nat} {o : Option Nat} (h : Tu2 w w1 b o) (hb : Below w1.heap.size w1 w2) : Tu2 w w2 b o :=
  ⟨hb.os.trans h.os, hb.tape.trans h.tape, hb.output.trans h.output, Nat.le_trans h.size hb.size, fun k hk h1 h2 => (hb.block k (Nat.lt_of_lt_of_le hk h.size)).trans (h.block k hk h1 h2)⟩
theorem Tu2.tur {w w1 w2 : World} {b : Nat} {o o' : Option Nat} (h : Tu2 w w1 b o) (ht : Turned w1 w2 o') (ho : ∀ g, o' = some g → some g = o ∨ g = b ∨ w.heap.size ≤ g) : Tu2 w w2 b o :=
  ⟨ht.os.trans h.os, ht.tape.trans h.tape, ht.output.trans h.output, Nat.le_trans h.size ht.size, fun k hk h1 h2 => (ht.block k (Nat.lt_of_lt_of_le hk h.size) (fun e => by
    rcases ho k e.symm with h3 | h3 | h3
    · exact h2 h3
    · exact h1 h3
    · omega)).trans (h.block k hk h1 h2)⟩
theorem Tu2.trans {w w1 w2 : World} {b : Nat} {o o' : Option Nat} (h : Tu2 w w1 b o) (h2 : Tu2 w1 w2 b o') (ho : ∀ g, o' = some g → some g = o ∨ g = b ∨ w.heap.size ≤ g) : Tu2 w w2 b o :=
  ⟨h2.os.trans h.os, h2.tape.trans h.tape, h2.output.trans h.output, Nat.le_trans h.size h2.size, fun k hk h3 h4 => (h2.block k (Nat.lt_of_lt_of_le hk h.size) h3 (fun e => by
    rcases ho k e.symm with h5 | h5 | h5
    · exact h4 h5
    · exact h3 h5
    · omega)).trans (h.block k hk h3 h4)⟩
/-- Below what was there ahead of the stage nothing turns. -/
theorem Tu2.below {W w w' : World} {b : Nat} {o : Option Nat} (h : Tu2 w w' b o) (hb : Below W.heap.size W w) (h1 : W.heap.size ≤ b) (h2 : ∀ g, o = some g → W.heap.size ≤ g) : Below W.heap.size W w' :=
  hb.trans ⟨h.os, h.tape, h.output, h.size, fun k hk => h.block k (Nat.lt_of_lt_of_le hk hb.size) (by omega) (fun e => by have := h2 k e.symm; omega)⟩
/-- Two boxes read as they did. -/
structure Two (w1 : World) (b n : Nat) (W : World) : Prop where
  sz : w1.heap.size ≤ W.heap.size
  cb : ∀ o, W.cell? ⟨b, o, none⟩ = w1.cell? ⟨b, o, none⟩
  fb : ∀ o, W.frozen? ⟨b, o, none⟩ = w1.frozen? ⟨b, o, none⟩
  cn : ∀ o, W.cell? ⟨n, o, none⟩ = w1.cell? ⟨n, o, none⟩
theorem Two.refl (w1 : World) (b n : Nat) : Two w1 b n w1 := ⟨Nat.le_refl _, fun _ => rfl, fun _ => rfl, fun _ => rfl⟩
theorem Two.step {w1 W W' : World} {b n : Nat} (h : Two w1 b n W) (hs : W.heap.size ≤ W'.heap.size) (hb : W'.heap[b]? = W.heap[b]?) (hn : W'.heap[n]? = W.heap[n]?) : Two w1 b n W' :=
  ⟨Nat.le_trans h.sz hs, fun o => (World.cell?_of_block (w := W) (a := ⟨b, o, none⟩) hb).trans (h.cb o), fun o => (World.frozen?_of_block (w := W) (a := ⟨b, o, none⟩) hb).trans (h.fb o), fun o => (World.cell?_of_block (w := W) (a := ⟨n, o, none⟩) hn).trans (h.cn o)⟩
theorem Two.bel {w1 W W' : World} {b n : Nat} (hb : b < w1.heap.size) (hn : n < w1.heap.size) (h : Two w1 b n W) (hB : Below W.heap.size W W') : Two w1 b n W' :=
  h.step hB.size (hB.block b (Nat.lt_of_lt_of_le hb h.sz)) (hB.block n (Nat.lt_of_lt_of_le hn h.sz))
theorem Two.drew {w1 W : World} {b n : Nat} (h : Two w1 b n W) : Two w1 b n W.drew := h.step (Nat.le_refl _) rfl rfl
theorem Two.alloc {w1 W : World} {b n : Nat} (hb : b < w1.heap.size) (hn : n < w1.heap.size) (o : Obj) (h : Two w1 b n W) : Two w1 b n (W.alloc o) :=
  h.bel hb hn ((Below.refl _ _).alloc (Nat.le_refl _) o)
theorem Two.tur {w1 W W' : World} {b n : Nat} {o : Option Nat} (hb : b < w1.heap.size) (hn : n < w1.heap.size) (h1 : some b ≠ o) (h2 : some n ≠ o) (h : Two w1 b n W) (ht : Turned W W' o) : Two w1 b n W' :=
  h.step ht.size (ht.block b (Nat.lt_of_lt_of_le hb h.sz) h1) (ht.block n (Nat.lt_of_lt_of_le hn h.sz) h2)
end Go.Proofs.Ytcnclcfipabimaa
namespace Go.Proofs.Ytcnclcfipabimaa
open Go.RowKit

/- Of W1's block n nothing has turned. -/
theorem e_refl (W1 : World) (n : Nat) : W1.heap.size ≤ W1.drew.heap.size ∧ ∀ o, W1.drew.cell? ⟨n, o, none⟩ = W1.cell? ⟨n, o, none⟩ := ⟨Nat.le_refl _, fun _ => rfl⟩
theorem e_id (W1 : World) (n : Nat) : W1.heap.size ≤ W1.heap.size ∧ ∀ o, W1.cell? ⟨n, o, none⟩ = W1.cell? ⟨n, o, none⟩ := ⟨Nat.le_refl _, fun _ => rfl⟩
theorem e_drew {W1 W : World} {n : Nat} (h : W1.heap.size ≤ W.heap.size ∧ ∀ o, W.cell? ⟨n, o, none⟩ = W1.cell? ⟨n, o, none⟩) : W1.heap.size ≤ W.drew.heap.size ∧ ∀ o, W.drew.cell? ⟨n, o, none⟩ = W1.cell? ⟨n, o, none⟩ := h
theorem e_below {W1 W w' : World} {n : Nat} (hb : Below W.heap.size W w') (hn : n < W1.heap.size) (h : W1.heap.size ≤ W.heap.size ∧ ∀ o, W.cell? ⟨n, o, none⟩ = W1.cell? ⟨n, o, none⟩) : W1.heap.size ≤ w'.heap.size ∧ ∀ o, w'.cell? ⟨n, o, none⟩ = W1.cell? ⟨n, o, none⟩ :=
  ⟨Nat.le_trans h.1 hb.size, fun o => (hb.cell (p := ⟨n, o, none⟩) (Nat.lt_of_lt_of_le hn h.1)).trans (h.2 o)⟩
theorem e_more {W1 W : World} {n : Nat} (d : Nat) (os : Array Obj) (hn : n < W1.heap.size) (h : W1.heap.size ≤ W.heap.size ∧ ∀ o, W.cell? ⟨n, o, none⟩ = W1.cell? ⟨n, o, none⟩) : W1.heap.size ≤ (more W d os).heap.size ∧ ∀ o, (more W d os).cell? ⟨n, o, none⟩ = W1.cell? ⟨n, o, none⟩ := e_below (more_below W d os) hn h
theorem e_alloc {W1 W : World} {n : Nat} (o' : Obj) (hn : n < W1.heap.size) (h : W1.heap.size ≤ W.heap.size ∧ ∀ o, W.cell? ⟨n, o, none⟩ = W1.cell? ⟨n, o, none⟩) : W1.heap.size ≤ (W.alloc o').heap.size ∧ ∀ o, (W.alloc o').cell? ⟨n, o, none⟩ = W1.cell? ⟨n, o, none⟩ := e_below ((Below.refl _ _).alloc (Nat.le_refl _) o') hn h
theorem e_set {W1 W : World} {n m : Nat} (u : Nat) (v : Value) (hm : n ≠ m) (h : W1.heap.size ≤ W.heap.size ∧ ∀ o, W.cell? ⟨n, o, none⟩ = W1.cell? ⟨n, o, none⟩) : W1.heap.size ≤ (W.setCell ⟨m, u, none⟩ v).heap.size ∧ ∀ o, (W.setCell ⟨m, u, none⟩ v).cell? ⟨n, o, none⟩ = W1.cell? ⟨n, o, none⟩ :=
  ⟨by simpa [World.setCell] using h.1, fun o => (World.cell?_of_block (w := W) (a := ⟨n, o, none⟩) (Below.heap_setCell _ _ _ _ hm)).trans (h.2 o)⟩
end Go.Proofs.Ytcnclcfipabimaa
namespace Go.Proofs.Ytcnclcfipabimaa
open Go.RowKit

/-- What one told a zone. -/
def blZ (c : Cfg) (z : Int) (l : List Bun) (g : Gh) : List Bun := forF c z (partF c g.f l)
theorem said_iff {L : List Gh} {T k : Int} (ht : ∀ g ∈ L, g.t = T) : saidF L T k = true ↔ k ∈ L.map (·.f) := by
  unfold saidF
  simp only [List.any_eq_true, Bool.and_eq_true, beq_iff_eq, List.mem_map]
  constructor
  · rintro ⟨g, hg, h1, _⟩; exact ⟨g, hg, h1⟩
  · rintro ⟨g, hg, h1⟩; exact ⟨g, hg, h1, ht g hg⟩
theorem miss_next {bes : List Int} {L : List Gh} {T : Int} {i : Nat} {k : Int} (hn : bes.Nodup) (ht : ∀ g ∈ L, g.t = T) (hf : L.map (·.f) = bes.take i) (hk : bes[i]? = some k) : k ∈ missF bes L T := by
  unfold missF
  refine List.mem_filter.2 ⟨List.mem_of_getElem? hk, ?_⟩
  cases hs : saidF L T k with
  | false => rfl
  | true =>
    have h := (said_iff ht).1 hs
    rw [hf] at h
    obtain ⟨j, hj, e⟩ := List.mem_iff_getElem.1 h
    rw [List.length_take] at hj
    rw [List.getElem_take] at e
    have hi := (List.getElem?_eq_some_iff.1 hk).1
    have e2 := (List.getElem?_eq_some_iff.1 hk).2
    have := List.pairwise_iff_getElem.1 hn j i (by omega) hi (by omega)
    exact absurd (e.trans e2.symm) this
theorem miss_none {bes : List Int} {L : List Gh} {T : Int} (ht : ∀ g ∈ L, g.t = T) (hf : L.map (·.f) = bes) : missF bes L T = [] := by
  unfold missF
  refine List.filter_eq_nil_iff.2 fun k hk => ?_
  rw [(said_iff ht).2 (hf ▸ hk)]
  simp
theorem miss_all (bes : List Int) (T : Int) : missF bes [] T = bes := by
  unfold missF
  refine List.filter_eq_self.2 fun k _ => ?_
  simp [saidF]
theorem near_says {c : Cfg} {z T : Int} {l : List Bun} {bes : List Int} {L : List Gh} (ht : ∀ g ∈ L, g.t = T) (hf : L.map (·.f) = bes) : nearG L T (blZ c z l) = stableF cmpBun (saysF c z l bes) := by
  unfold nearG nearTo saysF
  rw [List.filter_eq_self.2 fun g hg => by simpa using ht g hg, ← hf, List.flatMap_map]
  rfl
theorem fold_at2 (b : Nat) (c : Cfg) (z t k : Int) (po pg p : Option Addr) (no co ng cg n cc : Nat) (L : List Gh) (lr : List Bun) (W : World) (hm : MapAt W b c) (ho : CfgOk c) (hL : RIn ghL W (.slice pg ng cg) L) (hn : L.length ≤ 1000) (hr : BIn W (.slice p n cc) lr) (hln : lr.length ≤ 1000000) (hf : k ∈ missF (besR c z) L t) :
    Calls Try.prog 30 #[.pointer (some ⟨b, 0, none⟩), .int .i64 z, .agg #[.int .i64 0, .int .i64 t, .slice po no co, .slice none 0 0, .slice none 0 0, .slice none 0 0, .slice pg ng cg, .int .i64 0], .agg #[.int .i64 8, .int .i64 t, .int .i64 k, .slice none 0 0, .int .i64 0, .int .i64 0, .int .i64 0, .int .i64 0, .int .i64 0, .int .i64 0, .int .i64 0, .int .i64 0, .int .i64 0, .int .i64 0, .int .i64 0, .slice p n cc, .int .i64 0, .int .i64 0, .slice none 0 0, .slice none 0 0, .slice none 0 0, .slice none 0 0, .slice none 0 0, .int .i64 0]] W fun e w' => ∃ p' n' c' p2 n2 c2, e = .returned (.tuple #[.agg #[.int .i64 0, .int .i64 t, .slice po no co, .slice none 0 0, .slice none 0 0, .slice none 0 0, .slice p' n' c', .int .i64 0], .int .i64 0]) ∧
      RNew ghL 64 3 W w' (.slice p' n' c') (L ++ [⟨k, t, p2, n2, c2⟩]) ∧ Sl w' 41 11 (.slice p2 n2 c2) lr.length (bunCells lr) ∧ ∀ g, (Value.slice p2 n2 c2).ownBlock = some g → W.heap.size ≤ g :=
  fold_new ⟨b, 0, none⟩ z (⟨0, t, po, no, co, none, 0, 0, none, 0, 0, none, 0, 0, pg, ng, cg, 0⟩ : Sta) (⟨8, t, k, none, 0, 0, ⟨0, 0, 0, 0, 0, 0, 0, 0, 0, 0, 0⟩, p, n, cc, ⟨0, 0, none, 0, 0, none, 0, 0, none, 0, 0, none, 0, 0, none, 0, 0, 0⟩⟩ : Rcd) L lr (besR c z) W hL hn hr hln rfl rfl hf (beside_all W b c z hm ho)
theorem missing_at2 (b : Nat) (c : Cfg) (z t : Int) (po pg : Option Addr) (no co ng cg : Nat) (L : List Gh) (W : World) (hm : MapAt W b c) (ho : CfgOk c) (hL : RIn ghL W (.slice pg ng cg) L) :
    Calls Try.prog 26 #[.pointer (some ⟨b, 0, none⟩), .int .i64 z, .agg #[.int .i64 0, .int .i64 t, .slice po no co, .slice none 0 0, .slice none 0 0, .slice none 0 0, .slice pg ng cg, .int .i64 0]] W fun e w' => ∃ v', e = .returned v' ∧ RNew intL 3 1 W w' v' (missF (besR c z) L t) :=
  missing_of (.pointer (some ⟨b, 0, none⟩)) z (⟨0, t, po, no, co, none, 0, 0, none, 0, 0, none, 0, 0, pg, ng, cg, 0⟩ : Sta) L (besR c z) W ⟨_, rfl⟩ hL (beside_all W b c z hm ho)
/-- A box whose cells are all stored. -/
theorem box_stores {w : World} {n : Nat} {vs : Array Value} (news : List Value) (hl : news.length = vs.size) (h0 : 0 < vs.size) (hc : ∀ j, w.cell? ⟨n, j, none⟩ = vs[j]?) (hf : ∀ j, w.frozen? ⟨n, j, none⟩ = false) :
    (∀ j, (w.setCells n 0 news).cell? ⟨n, j, none⟩ = news.toArray[j]?) ∧ ∀ j, (w.setCells n 0 news).frozen? ⟨n, j, none⟩ = false := by
  have h6 := hc 0
  rw [Array.getElem?_eq_getElem h0] at h6
  simp only [World.cell?] at h6
  split at h6
  · rename_i c e fr hb
    have hcc : ∀ j, c[j]? = vs[j]? := fun j => by have := hc j; simpa [World.cell?, hb] using this
    have hsz : c.size = vs.size := by
      have h1 := hcc vs.size
      rw [Array.getElem?_eq_none (Nat.le_refl _)] at h1
      have h2 := Array.getElem?_eq_none_iff.1 h1
      by_cases h3 : c.size = vs.size
      · exact h3
      · have h4 := hcc c.size
        rw [Array.getElem?_eq_none (Nat.le_refl _), Array.getElem?_eq_getElem (by omega)] at h4
        cases h4
    obtain ⟨c', h1, h2, h3, h4, h5⟩ := setCells_heap n e fr news 0 w c hb (by omega)
    refine ⟨fun j => ?_, fun j => ?_⟩
    · have e1 : (w.setCells n 0 news).cell? ⟨n, j, none⟩ = c'[j]? := by unfold World.cell?; rw [h1]; simp
      rw [e1, show news.toArray[j]? = news[j]? by simp]
      cases hj : news[j]? with
      | some u => have := h4 j u hj; rwa [Nat.zero_add] at this
      | none =>
        have := List.getElem?_eq_none_iff.1 hj
        exact Array.getElem?_eq_none (by omega)
    · have := hf j
      simp only [World.frozen?, hb] at this
      simp only [World.frozen?, h1]
      exact this
  · simp at h6
/-- What holds in told's loop. -/
structure To (c : Cfg) (z t : Int) (l : List Bun) (bes : List Int) (w2 wr : World) (n i : Nat) (po : Option Addr) (no co : Nat) (pg : Option Addr) (ng cg : Nat) (L : List Gh) : Prop where
  tu : Tu2 w2 wr n none
  cs : ∀ j, wr.cell? ⟨n, j, none⟩ = (#[.int .i64 0, .int .i64 t, .slice po no co, .slice none 0 0, .slice none 0 0, .slice none 0 0, .slice pg ng cg, .int .i64 0] : Array Value)[j]?
  fz : ∀ j, wr.frozen? ⟨n, j, none⟩ = false
  sl : Sl wr 64 3 (.slice pg ng cg) L.length (cellsR ghL L)
  so : ∀ g, (Value.slice pg ng cg).ownBlock = some g → w2.heap.size ≤ g
  gs : ∀ g ∈ L, Sl wr 41 11 (.slice g.p g.n g.c) (blZ c z l g).length (bunCells (blZ c z l g)) ∧ ∀ k, (Value.slice g.p g.n g.c).ownBlock = some k → w2.heap.size ≤ k
  hf : L.map (·.f) = bes.take i
  ht : ∀ g ∈ L, g.t = t
theorem To.rin {c : Cfg} {z t : Int} {l : List Bun} {bes : List Int} {w2 wr : World} {n i : Nat} {po : Option Addr} {no co : Nat} {pg : Option Addr} {ng cg : Nat} {L : List Gh} (h : To c z t l bes w2 wr n i po no co pg ng cg L) : RIn ghL wr (.slice pg ng cg) L := RIn.of_sl h.sl
theorem To.step {c : Cfg} {z t : Int} {l : List Bun} {bes : List Int} {w2 wr wx : World} {n i : Nat} {po : Option Addr} {no co : Nat} {pg p1 p2 : Option Addr} {ng cg n1 c1 n2 c2 : Nat} {L : List Gh} {k : Int} (h : To c z t l bes w2 wr n i po no co pg ng cg L) (hn : n < w2.heap.size) (hk : bes[i]? = some k)
    (hb : Below wr.heap.size wr wx) (hr : RNew ghL 64 3 wr wx (.slice p1 n1 c1) (L ++ [⟨k, t, p2, n2, c2⟩])) (hs : Sl wx 41 11 (.slice p2 n2 c2) (forF c z (partF c k l)).length (bunCells (forF c z (partF c k l)))) (hs2 : ∀ g, (Value.slice p2 n2 c2).ownBlock = some g → wr.heap.size ≤ g) :
    To c z t l bes w2 (wx.setCells n 0 [.int .i64 0, .int .i64 t, .slice po no co, .slice none 0 0, .slice none 0 0, .slice none 0 0, .slice p1 n1 c1, .int .i64 0]) n (i + 1) po no co p1 n1 c1 (L ++ [⟨k, t, p2, n2, c2⟩]) := by
  have hnx : n < wx.heap.size := Nat.lt_of_lt_of_le hn (Nat.le_trans h.tu.size hb.size)
  have hnr : n < wr.heap.size := Nat.lt_of_lt_of_le hn h.tu.size
  have hcx : ∀ j, wx.cell? ⟨n, j, none⟩ = (#[.int .i64 0, .int .i64 t, .slice po no co, .slice none 0 0, .slice none 0 0, .slice none 0 0, .slice pg ng cg, .int .i64 0] : Array Value)[j]? := fun j => (hb.cell (p := ⟨n, j, none⟩) hnr).trans (h.cs j)
  have hfx : ∀ j, wx.frozen? ⟨n, j, none⟩ = false := fun j => (World.frozen?_of_block (w := wr) (a := ⟨n, j, none⟩) (hb.block n hnr)).trans (h.fz j)
  obtain ⟨q1, q2⟩ := box_stores (vs := #[.int .i64 0, .int .i64 t, .slice po no co, .slice none 0 0, .slice none 0 0, .slice none 0 0, .slice pg ng cg, .int .i64 0]) [.int .i64 0, .int .i64 t, .slice po no co, .slice none 0 0, .slice none 0 0, .slice none 0 0, .slice p1 n1 c1, .int .i64 0] rfl (by simp) hcx hfx
  have hk' : ∀ g, g < wx.heap.size → g ≠ n → (wx.setCells n 0 [.int .i64 0, .int .i64 t, .slice po no co, .slice none 0 0, .slice none 0 0, .slice none 0 0, .slice p1 n1 c1, .int .i64 0]).heap[g]? = wx.heap[g]? := fun g h1 hg => (setCells_turned n _ 0 wx).block g h1 (fun e => hg (Option.some.inj e))
  have hsz := h.tu.size
  refine ⟨(h.tu.bel hb).tur (setCells_turned n _ 0 wx) fun k hk => by cases hk; exact .inr (.inl rfl), q1, q2, hr.1.keep fun g hg => hk' g (sl_lt hr.1 hg) fun e => by have := hr.2.2 g hg; omega, fun g hg => Nat.le_trans hsz (hr.2.2 g hg), fun g hg => ?_, ?_, fun g hg => ?_⟩
  · rcases List.mem_append.1 hg with hg | hg
    · obtain ⟨a1, a2⟩ := h.gs g hg
      exact ⟨a1.keep fun q hq => (hk' q (Nat.lt_of_lt_of_le (sl_lt a1 hq) hb.size) fun e => by have := a2 q hq; omega).trans (hb.block q (sl_lt a1 hq)), a2⟩
    · obtain rfl := List.mem_singleton.1 hg
      exact ⟨hs.keep fun q hq => hk' q (sl_lt hs hq) fun e => by have := hs2 q hq; omega, fun q hq => Nat.le_trans hsz (hs2 q hq)⟩
  · rw [List.map_append, h.hf, List.take_succ_eq_append_getElem (List.getElem?_eq_some_iff.1 hk).1, (List.getElem?_eq_some_iff.1 hk).2]; rfl
  · rcases List.mem_append.1 hg with hg | hg
    · exact h.ht g hg
    · obtain rfl := List.mem_singleton.1 hg; rfl
theorem two_boxes (W : World) (a6 a7 : Array Value) (t6 t7 : TypeId) : ∃ w1, w1 = (W.alloc (.cells a6 t6)).alloc (.cells a7 t7) ∧ Below W.heap.size W w1 ∧ (∀ u, w1.cell? ⟨W.heap.size, u, none⟩ = a6[u]?) ∧ (∀ u, w1.cell? ⟨W.heap.size + 1, u, none⟩ = a7[u]?) ∧
    (∀ u, w1.frozen? ⟨W.heap.size, u, none⟩ = false) ∧ (∀ u, w1.frozen? ⟨W.heap.size + 1, u, none⟩ = false) ∧ w1.heap.size = W.heap.size + 1 + 1 := by
  have e6 : ((W.alloc (.cells a6 t6)).alloc (.cells a7 t7)).heap[W.heap.size]? = some (.cells a6 t6) :=
    (((Below.refl _ (W.alloc (.cells a6 t6))).alloc (Nat.le_refl _) (.cells a7 t7)).block W.heap.size (by simp)).trans (heap_alloc_new_at W _ _ rfl)
  have e7 : ((W.alloc (.cells a6 t6)).alloc (.cells a7 t7)).heap[W.heap.size + 1]? = some (.cells a7 t7) := heap_alloc_new_at _ _ _ (by simp)
  refine ⟨_, rfl, (by repeat' (first | (with_reducible exact Below.refl _ _) | (with_reducible assumption) | (with_reducible refine below_drewN ?_ _) | (with_reducible refine below_more _ _ _ ?_ ?_) | (with_reducible refine Below.alloc ?_ ?_ _) | (with_reducible refine Below.drew ?_) | (with_reducible refine Below.setCell ?_ ?_ _) | go_size)), fun u => ?_, fun u => ?_, fun u => ?_, fun u => ?_, by simp⟩
  · unfold World.cell?; rw [e6]; rfl
  · unfold World.cell?; rw [e7]; rfl
  · unfold World.frozen?; rw [e6]; simp
  · unfold World.frozen?; rw [e7]; simp
theorem rin_zero {β : Type} {enc : β → List Value} (w : World) : RIn enc w (.slice Option.none 0 0) ([] : List β) := ⟨Option.none, 0, rfl, by simp [maxLen], fun _ => rfl, Nat.le_refl _, fun h => absurd rfl h⟩
/-- What was laid behind a world, laid behind another one of its size. -/
theorem more_shift {W W' : World} {d : Nat} {os : Array Obj} {g : Nat} (hs : W'.heap.size = W.heap.size) (hg : W.heap.size ≤ g) : (more W' d os).heap[g]? = (more W d os).heap[g]? := by
  simp only [more]
  rw [Array.getElem?_append_right (by omega), Array.getElem?_append_right hg, hs]
theorem RNew.shift {β : Type} {enc : β → List Value} {T : TypeId} {size : Nat} {W W' : World} {d : Nat} {os : Array Obj} {v : Value} {l : List β} (h : RNew enc T size W (more W d os) v l) (hs : W'.heap.size = W.heap.size) : RNew enc T size W' (more W' d os) v l :=
  ⟨h.1.keep fun g hg => more_shift hs (h.2.2 g hg), more_below _ _ _, fun g hg => by rw [hs]; exact h.2.2 g hg⟩
theorem sl_shift {W W' : World} {T : TypeId} {size : Nat} {d : Nat} {os : Array Obj} {v : Value} {n : Nat} {xs : List Value} (h : Sl (more W d os) T size v n xs) (ho : ∀ g, v.ownBlock = some g → W.heap.size ≤ g) (hs : W'.heap.size = W.heap.size) : Sl (more W' d os) T size v n xs :=
  h.keep fun g hg => more_shift hs (ho g hg)
/-- A box just laid. -/
theorem new_box (W : World) (arr : Array Value) (t : TypeId) (n : Nat) (hn : n = W.heap.size) : (∀ u, (W.alloc (.cells arr t)).cell? ⟨n, u, none⟩ = arr[u]?) ∧ (∀ u, (W.alloc (.cells arr t)).frozen? ⟨n, u, none⟩ = false) ∧ n < (W.alloc (.cells arr t)).heap.size ∧ Below W.heap.size W (W.alloc (.cells arr t)) := by
  subst hn
  have e := heap_alloc_new_at W (.cells arr t) W.heap.size rfl
  refine ⟨fun u => ?_, fun u => ?_, by simp, (Below.refl _ _).alloc (Nat.le_refl _) _⟩
  · unfold World.cell?; rw [e]; rfl
  · unfold World.frozen?; rw [e]; simp
/-- A box that stays. -/
theorem box_on {w w' : World} {n : Nat} {arr : Array Value} (hb : Below w.heap.size w w') (hn : n < w.heap.size) (hc : ∀ u, w.cell? ⟨n, u, none⟩ = arr[u]?) : ∀ u, w'.cell? ⟨n, u, none⟩ = arr[u]? := fun u => (hb.cell (p := ⟨n, u, none⟩) hn).trans (hc u)
theorem box_fr {w w' : World} {n : Nat} (hb : Below w.heap.size w w') (hn : n < w.heap.size) (hf : ∀ u, w.frozen? ⟨n, u, none⟩ = false) : ∀ u, w'.frozen? ⟨n, u, none⟩ = false := fun u => (World.frozen?_of_block (w := w) (a := ⟨n, u, none⟩) (hb.block n hn)).trans (hf u)
/-- What told leaves: a state of its own entities and of what all told it. -/
def ToldQ (c : Cfg) (z t : Int) (l : List Bun) (W : World) (e : Ending) (w' : World) : Prop :=
  ∃ po no co pg ng cg L, e = .returned (.tuple #[.agg #[.int .i64 0, .int .i64 t, .slice po no co, .slice none 0 0, .slice none 0 0, .slice none 0 0, .slice pg ng cg, .int .i64 0], .bool true]) ∧ Below W.heap.size W w' ∧
    BIn w' (.slice po no co) (stableF cmpBun (partF c z l)) ∧ RIn ghL w' (.slice pg ng cg) L ∧ L.length ≤ 16 ∧ GhOk w' L (blZ c z l) ∧ nearG L t (blZ c z l) = stableF cmpBun (saysF c z l (besideF c z))
set_option maxRecDepth 100000 in
set_option maxHeartbeats 4000000 in
theorem told_any (b : Nat) (cols rows side radius speed ids queue z t : Int) (v : Value) (l : List Bun) (W : World) (hm : MapAt W b ⟨cols, rows, side, radius, speed, ids, queue⟩) (ho : CfgOk ⟨cols, rows, side, radius, speed, ids, queue⟩) (hz0 : 0 ≤ z) (hz1 : z < cols * rows) (hl : BIn W v l) (hn : l.length ≤ 1000) :
    Calls Try.prog 35 #[.pointer (some ⟨b, 0, none⟩), .agg #[.int .i64 cols, .int .i64 rows, .int .i64 side, .int .i64 radius, .int .i64 speed, .int .i64 ids, .int .i64 queue], .int .i64 z, .int .i64 t, v] W (ToldQ ⟨cols, rows, side, radius, speed, ids, queue⟩ z t l W) := by
  have HPT := Lib.hid (fun k W' (hW : Below W.heap.size W W') => part_any cols rows side radius speed ids queue k v l W' ho (hl.keep hW) hn)
  have HFR := Lib.hid (fun k v1 W' (hW : Below W.heap.size W W') (h : BIn W' v1 (partF ⟨cols, rows, side, radius, speed, ids, queue⟩ k l)) => for_in W' b ⟨cols, rows, side, radius, speed, ids, queue⟩ z v1 (partF ⟨cols, rows, side, radius, speed, ids, queue⟩ k l) (hm.grow hW) ho hz0 hz1 h (Nat.le_trans (List.length_filter_le _ _) hn))
  have HFD := Lib.hid (fun k po no co pg ng cg L p n cc lr W' (hW : Below W.heap.size W W') hL hn hr hln hf => fold_at2 b ⟨cols, rows, side, radius, speed, ids, queue⟩ z t k po pg p no co ng cg n cc L lr W' (hm.grow hW) ho hL hn hr hln hf)
  have HMI := Lib.hid (fun po no co pg ng cg L W' (hW : Below W.heap.size W W') hL => missing_at2 b ⟨cols, rows, side, radius, speed, ids, queue⟩ z t po pg no co ng cg L W' (hm.grow hW) ho hL)
  have hbs : besR ⟨cols, rows, side, radius, speed, ids, queue⟩ z = besideF ⟨cols, rows, side, radius, speed, ids, queue⟩ z := by unfold besR; rw [if_pos ⟨hz0, hz1⟩]
  rw [hbs] at HFD HMI
  have hbn := beside_nodup ⟨cols, rows, side, radius, speed, ids, queue⟩ z
  have hbl : (besideF ⟨cols, rows, side, radius, speed, ids, queue⟩ z).length ≤ 16 := by
    unfold besideF
    refine Nat.le_trans (List.length_filter_le _ _) ?_
    have := ho.cnt.2
    simp at this ⊢
    omega
  have HBN := Lib.hid hbn
  have hEnd : ∀ po no co pg ng cg L w', Below W.heap.size W w' → BIn w' (.slice po no co) (stableF cmpBun (partF ⟨cols, rows, side, radius, speed, ids, queue⟩ z l)) → RIn ghL w' (.slice pg ng cg) L → L.length ≤ 16 → GhOk w' L (blZ ⟨cols, rows, side, radius, speed, ids, queue⟩ z l) → nearG L t (blZ ⟨cols, rows, side, radius, speed, ids, queue⟩ z l) = stableF cmpBun (saysF ⟨cols, rows, side, radius, speed, ids, queue⟩ z l (besideF ⟨cols, rows, side, radius, speed, ids, queue⟩ z)) → ToldQ ⟨cols, rows, side, radius, speed, ids, queue⟩ z t l W (.returned (.tuple #[.agg #[.int .i64 0, .int .i64 t, .slice po no co, .slice none 0 0, .slice none 0 0, .slice none 0 0, .slice pg ng cg, .int .i64 0], .bool true])) w' := fun po no co pg ng cg L w' h1 h2 h3 h4 h5 h6 => ⟨po, no, co, pg, ng, cg, L, rfl, h1, h2, h3, h4, h5, h6⟩
  have HEND := Lib.hid hEnd
  clear hEnd
  generalize hTQ : ToldQ ⟨cols, rows, side, radius, speed, ids, queue⟩ z t l W = TQ at *
  clear hTQ
  generalize besideF ⟨cols, rows, side, radius, speed, ids, queue⟩ z = bes at *
  obtain ⟨p0, c0, rfl, _⟩ := hl
  clear hm ho hz0 hz1 hbn hbs
  obtain ⟨w1, hw1, hb1, k1, k2, g1, g2, hsz1⟩ := two_boxes W #[.int .i64 cols, .int .i64 rows, .int .i64 side, .int .i64 radius, .int .i64 speed, .int .i64 ids, .int .i64 queue] #[.int .i64 0, .int .i64 0, .slice none 0 0, .slice none 0 0, .slice none 0 0, .slice none 0 0, .slice none 0 0, .int .i64 0] 23 46
  have a0 := k1 0; simp at a0; have a1 := k1 1; simp at a1; have a2 := k1 2; simp at a2; have a3 := k1 3; simp at a3; have a4 := k1 4; simp at a4; have a5 := k1 5; simp at a5; have a6 := k1 6; simp at a6
  have HB1 := Lib.hid hb1; have K1 := Lib.hid k1; have K2 := Lib.hid k2; have G1 := Lib.hid g2; have G2 := Lib.hid g2
  have HW1 := Lib.hid hw1
  have s1 : W.heap.size < w1.heap.size := by omega
  have s2 : W.heap.size + 1 < w1.heap.size := by omega
  have HSZ := Lib.hid hsz1
  obtain ⟨f0, f1, f2⟩ := ltz s1
  clear hb1 k1 k2 g1 g2 hw1 hsz1
  go_enter Try.func35, Try.ntmps35
  go_upto_region 1 with fail
  rw [← HW1.out]
  have hb1 := HB1.out
  go_wp2_with fail
  refine (HPT.out _ _ (by repeat' (first | (with_reducible exact Below.refl _ _) | (with_reducible assumption) | (with_reducible refine below_drewN ?_ _) | (with_reducible refine below_more _ _ _ ?_ ?_) | (with_reducible refine Below.alloc ?_ ?_ _) | (with_reducible refine Below.drew ?_) | (with_reducible refine Below.setCell ?_ ?_ _) | go_size))).mono ?_; rintro e w' ⟨v1, rfl, hP⟩; obtain ⟨d1, os1, rfl⟩ := more_of hP.2.1
  have hpl : (partF ⟨cols, rows, side, radius, speed, ids, queue⟩ z l).length ≤ 1000 := Nat.le_trans (List.length_filter_le _ _) hn
  have HP := Lib.hid hP
  clear hP
  go_wp2_with fail
  refine (rsorted_any v1 _ _ (HP.out.bin.keep (by repeat' (first | (with_reducible exact Below.refl _ _) | (with_reducible assumption) | (with_reducible refine below_drewN ?_ _) | (with_reducible refine below_more _ _ _ ?_ ?_) | (with_reducible refine Below.alloc ?_ ?_ _) | (with_reducible refine Below.drew ?_) | (with_reducible refine Below.setCell ?_ ?_ _) | go_size))) (by omega)).mono ?_; rintro e w' ⟨v2, rfl, hS⟩; obtain ⟨d2, os2, rfl⟩ := more_of hS.2.1
  obtain ⟨po, co, rfl⟩ := sl_frm hS.1
  have HS := Lib.hid hS.1
  have HSO := Lib.hid (fun g (hg : (.slice po _ co : Value).ownBlock = some g) => And.intro (hS.2.2 g hg) (sl_lt hS.1 hg))
  clear hS
  generalize hsp : stableF cmpBun (partF ⟨cols, rows, side, radius, speed, ids, queue⟩ z l) = sp at *
  have HSP := Lib.hid hsp
  generalize hno : sp.length = no at *
  have HNO := Lib.hid hno
  clear hsp hno
  go_upto_region 2 with fail
  obtain ⟨k3, g3, s3, b3⟩ := new_box (more (more w1 d1 os1) d2 os2) #[.int .i64 0, .int .i64 t, .slice po no co, .slice none 0 0, .slice none 0 0, .slice none 0 0, .slice none 0 0, .int .i64 0] 46 (w1.heap.size + os1.size + os2.size) (by simp)
  have hb3 : Below w1.heap.size w1 ((more (more w1 d1 os1) d2 os2).alloc (.cells #[.int .i64 0, .int .i64 t, .slice po no co, .slice none 0 0, .slice none 0 0, .slice none 0 0, .slice none 0 0, .int .i64 0] 46)) := (by repeat' (first | (with_reducible exact Below.refl _ _) | (with_reducible assumption) | (with_reducible refine below_drewN ?_ _) | (with_reducible refine below_more _ _ _ ?_ ?_) | (with_reducible refine Below.alloc ?_ ?_ _) | (with_reducible refine Below.drew ?_) | (with_reducible refine Below.setCell ?_ ?_ _) | go_size))
  have hlt : w1.heap.size ≤ w1.heap.size + os1.size + os2.size := by omega
  have HS3 := Lib.hid (HS.out.grow b3)
  have HSO3 := Lib.hid (fun g hg => show w1.heap.size ≤ g ∧ g < w1.heap.size + os1.size + os2.size from ⟨Nat.le_trans (by simp) (HSO.out g hg).1, Nat.lt_of_lt_of_le (HSO.out g hg).2 (by simp)⟩)
  generalize ((more (more w1 d1 os1) d2 os2).alloc (.cells #[.int .i64 0, .int .i64 t, .slice po no co, .slice none 0 0, .slice none 0 0, .slice none 0 0, .slice none 0 0, .int .i64 0] 46)) = w3 at *
  generalize w1.heap.size + os1.size + os2.size = n at *
  have B3 := Lib.hid hb3; have K3 := Lib.hid k3; have G3 := Lib.hid g3
  have HB3 := Lib.hid (HB1.out.trans (hb3.mono HB1.out.size))
  have C3 := Lib.hid (box_on hb3 s1 K1.out)
  have R3 := Lib.hid (box_on hb3 s2 K2.out)
  have F3 := Lib.hid (box_fr hb3 s2 G2.out)
  clear hb3 k3 g3 b3 HS HP HSO a0 a1 a2 a3 a4 a5 a6 f0 f1 f2 hb1
  have v0 := K3.out 0; simp at v0; have v1 := K3.out 1; simp at v1; have v2 := K3.out 2; simp at v2; have v3 := K3.out 3; simp at v3; have v4 := K3.out 4; simp at v4; have v5 := K3.out 5; simp at v5; have v6 := K3.out 6; simp at v6; have v7 := K3.out 7; simp at v7
  have hb3 := HB3.out
  obtain ⟨f0, f1, f2⟩ := ltz s3
  go_wp2_with fail
  refine (HMI.out po no co none 0 0 [] _ (by repeat' (first | (with_reducible exact Below.refl _ _) | (with_reducible assumption) | (with_reducible refine below_drewN ?_ _) | (with_reducible refine below_more _ _ _ ?_ ?_) | (with_reducible refine Below.alloc ?_ ?_ _) | (with_reducible refine Below.drew ?_) | (with_reducible refine Below.setCell ?_ ?_ _) | go_size)) (rin_zero _)).mono ?_; rintro e w' ⟨v4, rfl, hM⟩
  rw [miss_all] at hM
  obtain ⟨pk, ck, rfl⟩ := sl_frm hM.1
  have hb4 := hM.2.1
  obtain ⟨w4, rfl⟩ : ∃ w4 : World, w4 = w' := ⟨_, rfl⟩
  have hT0 : To ⟨cols, rows, side, radius, speed, ids, queue⟩ z t l bes w4 w4 n 0 po no co none 0 0 [] := ⟨Tu2.refl _ _ _, box_on hb4 s3 K3.out, box_fr hb4 s3 G3.out, ⟨rfl, .inl ⟨rfl, rfl⟩⟩, (fun g hg => by cases hg), (fun g hg => by cases hg), rfl, (fun g hg => by cases hg)⟩
  have HT0 := Lib.hid hT0
  have HB4 := Lib.hid (hb3.trans (hb4.mono hb3.size))
  have s4 : n < w4.heap.size := by have := hb4.size; omega
  have HM4 := Lib.hid hM.1
  have HMO := Lib.hid (fun g hg => Nat.lt_of_lt_of_le s3 (hM.2.2 g hg))
  have C4 := Lib.hid (box_on hb4 (Nat.lt_of_lt_of_le s1 B3.out.size) C3.out)
  have R4 := Lib.hid (box_on hb4 (Nat.lt_of_lt_of_le s2 B3.out.size) R3.out)
  have F4 := Lib.hid (box_fr hb4 (Nat.lt_of_lt_of_le s2 B3.out.size) F3.out)
  have HS4 := Lib.hid (HS3.out.grow hb4)
  have l1 : W.heap.size < n := by omega
  have l2 : W.heap.size + 1 < n := by have := HSZ.out; omega
  clear hM hb3 hb4 hT0 K3 G3 B3 C3 R3 F3 HS3 HB3 s3 f0 f1 f2 v0 v1 v2 v3 v4 v5 v6 v7
  go_wp2_with fail
  go_loopg [14] bes.length (fun kx sx wr => ∃ (i : Nat) (pg : Option Addr) (ng cg : Nat) (L : List Gh), sx = .int .i64 i ∧ i ≤ bes.length ∧ bes.length - i ≤ kx ∧ Hid (To ⟨cols, rows, side, radius, speed, ids, queue⟩ z t l bes w4 wr n i po no co pg ng cg L))
  case atStart => exact ⟨0, _, _, _, _, by go_num, by omega, by omega, HT0⟩
  case round =>
    clear HT0
    obtain ⟨i, pg, ng, cg, L, rfl, hi, hkx, HT⟩ := hrel
    obtain ⟨wa, rfl⟩ : ∃ wa : World, wa = wr := ⟨_, rfl⟩
    have hta := HT.out.tu
    have hza := hta.size
    have sna : n < wa.heap.size := by omega
    have HBW := Lib.hid (hta.below HB4.out (by omega) (fun g hg => by cases hg))
    have hkp : ∀ q, q < w4.heap.size → q ≠ n → wa.heap[q]? = w4.heap[q]? := fun q h1 h2 => hta.block q h1 h2 (fun e => by cases e)
    have CA := Lib.hid (fun u => (World.cell?_of_block (w := w4) (a := ⟨W.heap.size, u, none⟩) (hkp W.heap.size (by omega) (by omega))).trans (C4.out u))
    have RA := Lib.hid (fun u => (World.cell?_of_block (w := w4) (a := ⟨W.heap.size + 1, u, none⟩) (hkp (W.heap.size + 1) (by omega) (by omega))).trans (R4.out u))
    have FA := Lib.hid (fun u => (World.frozen?_of_block (w := w4) (a := ⟨W.heap.size + 1, u, none⟩) (hkp (W.heap.size + 1) (by omega) (by omega))).trans (F4.out u))
    have HKL := Lib.hid (RIn.of_sl (HM4.out.keep fun g hg => hkp g (sl_lt HM4.out hg) (fun e => by have := HMO.out g hg; omega)))
    have s1a : W.heap.size < wa.heap.size := by omega
    have s2a : W.heap.size + 1 < wa.heap.size := by omega
    obtain ⟨f0, f1, f2⟩ := ltz s1a
    obtain ⟨f3, f4, f5⟩ := ltz s2a
    obtain ⟨f6, f7, f8⟩ := ltz sna
    have v0 := HT.out.cs 0; simp at v0; have v1 := HT.out.cs 1; simp at v1; have v2 := HT.out.cs 2; simp at v2; have v3 := HT.out.cs 3; simp at v3; have v4 := HT.out.cs 4; simp at v4; have v5 := HT.out.cs 5; simp at v5; have v6 := HT.out.cs 6; simp at v6; have v7 := HT.out.cs 7; simp at v7
    have a0 := CA.out 0; simp at a0; have a1 := CA.out 1; simp at a1; have a2 := CA.out 2; simp at a2; have a3 := CA.out 3; simp at a3; have a4 := CA.out 4; simp at a4; have a5 := CA.out 5; simp at a5; have a6 := CA.out 6; simp at a6
    have g0 := HT.out.fz 0; have g1 := HT.out.fz 1; have g2 := HT.out.fz 2; have g3 := HT.out.fz 3; have g4 := HT.out.fz 4; have g5 := HT.out.fz 5; have g6 := HT.out.fz 6; have g7 := HT.out.fz 7
    clear hta hkp
    by_cases hlt : i < bes.length
    · have t1 : (i : Int) < (bes.length : Int) := by omega
      obtain ⟨k, hk⟩ : ∃ k, bes[i]? = some k := ⟨_, List.getElem?_eq_getElem hlt⟩
      obtain ⟨gk, ok, ck', hv, hgk, hck⟩ := HKL.out.cells intL_len hk
      simp only [Value.slice.injEq, true_and] at hv
      obtain ⟨rfl, rfl⟩ := hv
      have c0 := hck 0 _ rfl
      simp only [Nat.add_zero, Nat.mul_one] at c0
      obtain ⟨e0, e1, e2⟩ := ltz hgk
      have HK := Lib.hid hk
      have HMS := Lib.hid (miss_next HBN.out HT.out.ht HT.out.hf hk)
      have hll : L.length ≤ 16 := by have := congrArg List.length HT.out.hf; rw [List.length_map, List.length_take] at this; omega
      have hfl : (forF ⟨cols, rows, side, radius, speed, ids, queue⟩ z (partF ⟨cols, rows, side, radius, speed, ids, queue⟩ k l)).length ≤ 1000000 := by
        unfold forF
        have h1 := List.length_filter_le (forB ⟨cols, rows, side, radius, speed, ids, queue⟩ z) (stableF cmpBun (partF ⟨cols, rows, side, radius, speed, ids, queue⟩ k l))
        rw [stableF_len] at h1
        have h2 : (partF ⟨cols, rows, side, radius, speed, ids, queue⟩ k l).length ≤ l.length := List.length_filter_le _ _
        omega
      clear hck hk
      have hng : ng = L.length := by obtain ⟨_, _, e⟩ := sl_frm HT.out.sl; simp only [Value.slice.injEq] at e; exact e.2.1
      subst hng
      have hbw := HBW.out
      go_upto_region 6 with fail
      go_cut [15, 16] (fun sq ss wx => ∃ p1 n1 c1 p2 n2 c2, (Boxed wa wa.heap.size #[.int .i64 0, .int .i64 t, .slice po no co, .slice none 0 0, .slice none 0 0, .slice none 0 0, .slice p1 n1 c1, .int .i64 0] 46 sq wx ∧ ss = .int .i64 0) ∧ Hid (RNew ghL 64 3 wa wx (.slice p1 n1 c1) (L ++ [⟨k, t, p2, n2, c2⟩])) ∧ Hid (Sl wx 41 11 (.slice p2 n2 c2) (forF ⟨cols, rows, side, radius, speed, ids, queue⟩ z (partF ⟨cols, rows, side, radius, speed, ids, queue⟩ k l)).length (bunCells (forF ⟨cols, rows, side, radius, speed, ids, queue⟩ z (partF ⟨cols, rows, side, radius, speed, ids, queue⟩ k l)))) ∧ Hid (∀ g, (Value.slice p2 n2 c2).ownBlock = some g → wa.heap.size ≤ g))
      case first =>
        go_region_held3 (fun W => (wa).heap.size ≤ W.heap.size ∧ ∀ b o, b < (wa).heap.size → W.cell? ⟨b, o, none⟩ = (wa).cell? ⟨b, o, none⟩) (with_reducible (repeat (first | assumption | exact s_refl _ | exact s_id _ | refine s_more _ _ ?_ | refine s_alloc _ ?_ | refine s_drew ?_))) (first | (go_at_call 71; refine (HPT.out _ _ (by repeat' (first | (with_reducible exact Below.refl _ _) | (with_reducible assumption) | (with_reducible refine below_drewN ?_ _) | (with_reducible refine below_more _ _ _ ?_ ?_) | (with_reducible refine Below.alloc ?_ ?_ _) | (with_reducible refine Below.drew ?_) | (with_reducible refine Below.setCell ?_ ?_ _) | go_size))).mono ?_; rintro e w' ⟨u1, rfl, hP⟩; obtain ⟨d1, os1, rfl⟩ := more_of hP.2.1) | (go_at_call 21; refine (HFR.out _ _ _ (by repeat' (first | (with_reducible exact Below.refl _ _) | (with_reducible assumption) | (with_reducible refine below_drewN ?_ _) | (with_reducible refine below_more _ _ _ ?_ ?_) | (with_reducible refine Below.alloc ?_ ?_ _) | (with_reducible refine Below.drew ?_) | (with_reducible refine Below.setCell ?_ ?_ _) | go_size)) (hP.bin.keep (by repeat' (first | (with_reducible exact Below.refl _ _) | (with_reducible assumption) | (with_reducible refine below_drewN ?_ _) | (with_reducible refine below_more _ _ _ ?_ ?_) | (with_reducible refine Below.alloc ?_ ?_ _) | (with_reducible refine Below.drew ?_) | (with_reducible refine Below.setCell ?_ ?_ _) | go_size)))).mono ?_; rintro e w' ⟨u2, rfl, hF⟩; obtain ⟨d2, os2, rfl⟩ := more_of hF.2.1; obtain ⟨pf, cf, rfl⟩ := sl_frm hF.1) | (go_at_call 30; refine (HFD.out k po no co pg L.length cg L pf _ cf _ _ (by repeat' (first | (with_reducible exact Below.refl _ _) | (with_reducible assumption) | (with_reducible refine below_drewN ?_ _) | (with_reducible refine below_more _ _ _ ?_ ?_) | (with_reducible refine Below.alloc ?_ ?_ _) | (with_reducible refine Below.drew ?_) | (with_reducible refine Below.setCell ?_ ?_ _) | go_size)) (HT.out.rin.keep (by repeat' (first | (with_reducible exact Below.refl _ _) | (with_reducible assumption) | (with_reducible refine below_drewN ?_ _) | (with_reducible refine below_more _ _ _ ?_ ?_) | (with_reducible refine Below.alloc ?_ ?_ _) | (with_reducible refine Below.drew ?_) | (with_reducible refine Below.setCell ?_ ?_ _) | go_size))) (by omega) (hF.bin.keep (by repeat' (first | (with_reducible exact Below.refl _ _) | (with_reducible assumption) | (with_reducible refine below_drewN ?_ _) | (with_reducible refine below_more _ _ _ ?_ ?_) | (with_reducible refine Below.alloc ?_ ?_ _) | (with_reducible refine Below.drew ?_) | (with_reducible refine Below.setCell ?_ ?_ _) | go_size))) (by omega) HMS.out).mono ?_; rintro e w' ⟨p1, n1, c1, p2, n2, c2, rfl, hD, hD2, hD3⟩; obtain ⟨d3, os3, rfl⟩ := more_of hD.2.1))
        all_goals (have HD := Lib.hid (And.intro hD (And.intro hD2 hD3)); clear hP hF hD hD2 hD3 hbw e0 e1 e2 f0 f1 f2 f3 f4 f5 f6 f7 f8 c0; clear v0 v1 v2 v3 v4 v5 v6 v7 a0 a1 a2 a3 a4 a5 a6 g0 g1 g2 g3 g4 g5 g6 g7)
        all_goals (go_wp2_with fail; go_meet)
        · refine ⟨p1, n1, c1, p2, n2, c2, ⟨?_, rfl⟩, Lib.hid ?_, Lib.hid ?_, Lib.hid (fun g hg => Nat.le_trans (by first | (simp; done) | (simp; omega)) (HD.out.2.2 g hg))⟩
          · (with_reducible (repeat (first | exact grew_refl _ | exact grew_redrawn _ _ _ _ | refine boxed_drew ?_ | refine boxed_more _ _ ?_ | refine boxed_end ?_ ?_ ?_ | refine grew_more _ _ ?_ | refine grew_drew ?_))); (all_goals (try simp))
          · exact (HD.out.1.grow (by repeat' (first | (with_reducible exact Below.refl _ _) | (with_reducible assumption) | (with_reducible refine below_drewN ?_ _) | (with_reducible refine below_more _ _ _ ?_ ?_) | (with_reducible refine Below.alloc ?_ ?_ _) | (with_reducible refine Below.drew ?_) | (with_reducible refine Below.setCell ?_ ?_ _) | go_size))).since (by repeat' (first | (with_reducible exact Below.refl _ _) | (with_reducible assumption) | (with_reducible refine below_drewN ?_ _) | (with_reducible refine below_more _ _ _ ?_ ?_) | (with_reducible refine Below.alloc ?_ ?_ _) | (with_reducible refine Below.drew ?_) | (with_reducible refine Below.setCell ?_ ?_ _) | go_size))
          · exact HD.out.2.1.grow (by repeat' (first | (with_reducible exact Below.refl _ _) | (with_reducible assumption) | (with_reducible refine below_drewN ?_ _) | (with_reducible refine below_more _ _ _ ?_ ?_) | (with_reducible refine Below.alloc ?_ ?_ _) | (with_reducible refine Below.drew ?_) | (with_reducible refine Below.setCell ?_ ?_ _) | go_size))
        all_goals
          refine ⟨p1, n1, c1, p2, n2, c2, ⟨?_, rfl⟩, Lib.hid ?_, Lib.hid ?_, Lib.hid (fun g hg => Nat.le_trans (by first | (simp; done) | (simp; omega)) (HD.out.2.2 g hg))⟩
          · (with_reducible (repeat (first | exact grew_refl _ | exact grew_redrawn _ _ _ _ | refine boxed_drew ?_ | refine boxed_more _ _ ?_ | refine boxed_end ?_ ?_ ?_ | refine grew_more _ _ ?_ | refine grew_drew ?_))); (all_goals (try simp))
          · with_reducible exact (HD.out.1.shift (by simp)).since (by repeat' (first | (with_reducible exact Below.refl _ _) | (with_reducible assumption) | (with_reducible refine below_drewN ?_ _) | (with_reducible refine below_more _ _ _ ?_ ?_) | (with_reducible refine Below.alloc ?_ ?_ _) | (with_reducible refine Below.drew ?_) | (with_reducible refine Below.setCell ?_ ?_ _) | go_size))
          · with_reducible exact sl_shift HD.out.2.1 HD.out.2.2 (by simp)
      obtain ⟨p1, n1, c1, p2, n2, c2, ⟨⟨d1, os1, d2, os2, rfl, hwc⟩, rfl⟩, HR, HSL, HOW⟩ := hcut
      obtain ⟨wx, rfl⟩ : ∃ wx : World, wx = wc := ⟨_, rfl⟩
      have hbx : Below wa.heap.size wa wx := by rw [hwc]; exact (by repeat' (first | (with_reducible exact Below.refl _ _) | (with_reducible assumption) | (with_reducible refine below_drewN ?_ _) | (with_reducible refine below_more _ _ _ ?_ ?_) | (with_reducible refine Below.alloc ?_ ?_ _) | (with_reducible refine Below.drew ?_) | (with_reducible refine Below.setCell ?_ ?_ _) | go_size))
      have hnb := new_box (more wa d1 os1) #[.int .i64 0, .int .i64 t, .slice po no co, .slice none 0 0, .slice none 0 0, .slice none 0 0, .slice p1 n1 c1, .int .i64 0] 46 (wa.heap.size + os1.size) (by simp)
      have hmb : Below ((more wa d1 os1).alloc (.cells #[.int .i64 0, .int .i64 t, .slice po no co, .slice none 0 0, .slice none 0 0, .slice none 0 0, .slice p1 n1 c1, .int .i64 0] 46)).heap.size ((more wa d1 os1).alloc (.cells #[.int .i64 0, .int .i64 t, .slice po no co, .slice none 0 0, .slice none 0 0, .slice none 0 0, .slice p1 n1 c1, .int .i64 0] 46)) wx := by rw [hwc]; exact more_below _ _ _
      have kx := box_on hmb hnb.2.2.1 hnb.1
      have sx := Nat.lt_of_lt_of_le hnb.2.2.1 hmb.size
      have kn := box_on hbx sna HT.out.cs
      have gn := box_fr hbx sna HT.out.fz
      have snx := Nat.lt_of_lt_of_le sna hbx.size
      have HBX := Lib.hid hbx
      generalize wa.heap.size + os1.size = n15 at *
      clear hwc hnb hmb hbx hbw e0 e1 e2 f0 f1 f2 f3 f4 f5 f6 f7 f8 c0
      clear v0 v1 v2 v3 v4 v5 v6 v7 a0 a1 a2 a3 a4 a5 a6 g0 g1 g2 g3 g4 g5 g6 g7
      have y0 := kx 0; simp at y0; have y1 := kx 1; simp at y1; have y2 := kx 2; simp at y2; have y3 := kx 3; simp at y3; have y4 := kx 4; simp at y4; have y5 := kx 5; simp at y5; have y6 := kx 6; simp at y6; have y7 := kx 7; simp at y7
      have v0 := kn 0; simp at v0; have v1 := kn 1; simp at v1; have v2 := kn 2; simp at v2; have v3 := kn 3; simp at v3; have v4 := kn 4; simp at v4; have v5 := kn 5; simp at v5; have v6 := kn 6; simp at v6; have v7 := kn 7; simp at v7
      have g0 := gn 0; have g1 := gn 1; have g2 := gn 2; have g3 := gn 3; have g4 := gn 4; have g5 := gn 5; have g6 := gn 6; have g7 := gn 7
      clear kx kn gn
      go_upto_region 9 with fail
      go_wp2_with fail
      go_roundg (bes.length - (i + 1))
      case measure => omega
      case rel => exact ⟨i + 1, _, _, _, _, by go_num, by omega, by omega, Lib.hid (HT.out.step (by omega) HK.out HBX.out HR.out HSL.out HOW.out)⟩
    · have t1 : ¬ (i : Int) < (bes.length : Int) := by omega
      obtain rfl : i = bes.length := by omega
      have hf := HT.out.hf
      rw [List.take_length] at hf
      have HMN := Lib.hid (miss_none HT.out.ht hf)
      have hng : ng = L.length := by obtain ⟨_, _, e⟩ := sl_frm HT.out.sl; simp only [Value.slice.injEq] at e; exact e.2.1
      subst hng
      have hll : L.length ≤ 16 := by have := congrArg List.length hf; rw [List.length_map] at this; omega
      have HF := Lib.hid hf
      have hbw := HBW.out
      have r0 := RA.out 0; simp at r0; have r1 := RA.out 1; simp at r1; have r2 := RA.out 2; simp at r2; have r3 := RA.out 3; simp at r3; have r4 := RA.out 4; simp at r4; have r5 := RA.out 5; simp at r5; have r6 := RA.out 6; simp at r6; have r7 := RA.out 7; simp at r7
      have q0 := FA.out 0; have q1 := FA.out 1; have q2 := FA.out 2; have q3 := FA.out 3; have q4 := FA.out 4; have q5 := FA.out 5; have q6 := FA.out 6; have q7 := FA.out 7
      clear hf a0 a1 a2 a3 a4 a5 a6 g0 g1 g2 g3 g4 g5 g6 g7
      have HS5 := Lib.hid (fun W' (hW : Below wa.heap.size wa W') => hW)
      have l3 : n ≠ W.heap.size + 1 := by omega
      have l5 : W.heap.size ≤ W.heap.size + 1 := by omega
      have l6 := HSZ.out
      generalize W.heap.size + 1 = rb at *
      go_upto_region 10 with fail
      go_region_held3 (fun W => (wa).heap.size ≤ W.heap.size ∧ ∀ o, W.cell? ⟨n, o, none⟩ = (wa).cell? ⟨n, o, none⟩) (with_reducible (repeat (first | assumption | exact e_refl _ _ | exact e_id _ _ | refine e_set _ _ (by assumption) ?_ | refine e_more _ _ (by assumption) ?_ | refine e_alloc _ (by assumption) ?_ | refine e_drew ?_))) (first | (go_at_call 26; refine (HMI.out po no co pg L.length cg L _ (by repeat' (first | (with_reducible exact Below.refl _ _) | (with_reducible assumption) | (with_reducible refine below_drewN ?_ _) | (with_reducible refine below_more _ _ _ ?_ ?_) | (with_reducible refine Below.alloc ?_ ?_ _) | (with_reducible refine Below.drew ?_) | (with_reducible refine Below.setCell ?_ ?_ _) | go_size)) (HT.out.rin.keep (by repeat' (first | (with_reducible exact Below.refl _ _) | (with_reducible assumption) | (with_reducible refine below_drewN ?_ _) | (with_reducible refine below_more _ _ _ ?_ ?_) | (with_reducible refine Below.alloc ?_ ?_ _) | (with_reducible refine Below.drew ?_) | (with_reducible refine Below.setCell ?_ ?_ _) | go_size)))).mono ?_; rintro e w' ⟨u1, rfl, hM⟩; rw [HMN.out] at hM; obtain ⟨d1, os1, rfl⟩ := more_of hM.2.1; obtain ⟨pm, cm, rfl⟩ := sl_frm hM.1; clear hM; (try simp only [more_of_drew])))
      clear q0 v0 q1 v1 q2 v2 q3 v3 q4 v4 q5 v5 q6 v6 q7 v7 f0 f1 f2 f6 f7 f8
      have HBW2 := Lib.hid hbw
      clear hbw
      go_wp2_with fail
      have hbw := HBW2.out
      have hT := setCells_turned rb [.int .i64 0, .int .i64 t, .slice po no co, .slice none 0 0, .slice none 0 0, .slice none 0 0, .slice pg L.length cg, .int .i64 0] 0 wa
      have hM := more_below (wa.setCells rb 0 [.int .i64 0, .int .i64 t, .slice po no co, .slice none 0 0, .slice none 0 0, .slice none 0 0, .slice pg L.length cg, .int .i64 0]) d1 os1
      have hk : ∀ g, g < wa.heap.size → g ≠ rb → (more (wa.setCells rb 0 [.int .i64 0, .int .i64 t, .slice po no co, .slice none 0 0, .slice none 0 0, .slice none 0 0, .slice pg L.length cg, .int .i64 0]) d1 os1).heap[g]? = wa.heap[g]? := fun g h1 h2 => (hM.block g (Nat.lt_of_lt_of_le h1 hT.size)).trans (hT.block g h1 (fun e => h2 (Option.some.inj e)))
      have hk4 : ∀ g, g < w4.heap.size → g ≠ rb → g ≠ n → (more (wa.setCells rb 0 [.int .i64 0, .int .i64 t, .slice po no co, .slice none 0 0, .slice none 0 0, .slice none 0 0, .slice pg L.length cg, .int .i64 0]) d1 os1).heap[g]? = w4.heap[g]? := fun g h1 h2 h3 => (hk g (by omega) h2).trans (HT.out.tu.block g h1 h3 (fun e => by cases e))
      have hB : Below W.heap.size W (more (wa.setCells rb 0 [.int .i64 0, .int .i64 t, .slice po no co, .slice none 0 0, .slice none 0 0, .slice none 0 0, .slice pg L.length cg, .int .i64 0]) d1 os1) := (hbw.trans ⟨hT.os, hT.tape, hT.output, hT.size, fun g hg => hT.block g (by have := hbw.size; omega) (fun e => by cases e; omega)⟩).trans (hM.mono (Nat.le_trans hbw.size hT.size))
      refine bodyPost_ret (v := .tuple #[.agg #[.int .i64 0, .int .i64 t, .slice po no co, .slice none 0 0, .slice none 0 0, .slice none 0 0, .slice pg L.length cg, .int .i64 0], .bool true]) (by simp [results, Try.results35, go_sem, *]) rfl (HEND.out po no co pg L.length cg L _ hB ?_ ?_ hll ?_ ?_)
      · skip
        have h := HS4.out.keep (w' := more (wa.setCells rb 0 [.int .i64 0, .int .i64 t, .slice po no co, .slice none 0 0, .slice none 0 0, .slice none 0 0, .slice pg L.length cg, .int .i64 0]) d1 os1) fun g hg => hk4 g (sl_lt HS4.out hg) (by have := HSO3.out g hg; omega) (by have := HSO3.out g hg; omega)
        rw [← HNO.out] at h ⊢
        exact BIn.of_sl h
      · exact RIn.of_sl (HT.out.sl.keep fun g hg => hk g (sl_lt HT.out.sl hg) (by have := HT.out.so g hg; omega))
      · intro g hg
        obtain ⟨q1, q2⟩ := HT.out.gs g hg
        refine ⟨BIn.of_sl (q1.keep fun u hu => hk u (sl_lt q1 hu) (by have := q2 u hu; omega)), ?_⟩
        unfold blZ forF
        have h1 := List.length_filter_le (forB ⟨cols, rows, side, radius, speed, ids, queue⟩ z) (stableF cmpBun (partF ⟨cols, rows, side, radius, speed, ids, queue⟩ g.f l))
        rw [stableF_len] at h1
        have h2 : (partF ⟨cols, rows, side, radius, speed, ids, queue⟩ g.f l).length ≤ l.length := List.length_filter_le _ _
        omega
      · exact near_says HT.out.ht HF.out
end Go.Proofs.Ytcnclcfipabimaa
