/-
  Chapter texts TpB SyP ShF GhTk TpH TpE TpG: what the claim reaches of them. Conditions stand at each theorem.
-/
import Derived.Test.YtoimjjhopljdmaaGreatY36
import Derived.Test.YtoimjjhopljdmaaGreatY17
import Derived.Test.YtoimjjhopljdmaaGreatY08
import Derived.Test.YtoimjjhopljdmaaGreatY14
import Derived.Test.YtoimjjhopljdmaaGreatY20
import Derived.Test.YtoimjjhopljdmaaGreatY13
import Derived.Test.YtoimjjhopljdmaaGreatY09
namespace Go.Proofs.YtoimjjhopljdmaaGreat
open Go.RowKit Go.Sort
def lk (l : List Bun) (n : Nid) : Option Bun := l.find? fun b => decide (idOf b = n)
theorem rise_one {l : List Bun} (h : Rise l) {a b : Bun} (ha : a ∈ l) (hb : b ∈ l) (e : idOf a = idOf b) : a = b := (rise_un h).one ha hb ((sameId_iff a b).2 e)
theorem lk_iff {l : List Bun} (h : Rise l) (n : Nid) (b : Bun) : lk l n = some b ↔ b ∈ l ∧ idOf b = n := by
  unfold lk
  constructor
  · intro e
    exact ⟨List.mem_of_find?_eq_some e, by simpa using List.find?_some e⟩
  · rintro ⟨hb, e⟩
    cases hf : l.find? fun b => decide (idOf b = n) with
    | none =>
      have := List.find?_eq_none.1 hf b hb
      simp [e] at this
    | some a =>
      have h1 := List.mem_of_find?_eq_some hf
      have h2 : idOf a = n := by simpa using List.find?_some hf
      rw [rise_one h h1 hb (h2.trans e.symm)]
theorem lk_none {l : List Bun} (n : Nid) : lk l n = none ↔ n ∉ l.map idOf := by
  unfold lk
  rw [List.find?_eq_none]
  simp only [decide_eq_true_eq, List.mem_map, not_exists, not_and]
theorem hasN_iff (l : List Bun) (n : Nid) : hasN l n = true ↔ n ∈ l.map idOf := by unfold hasN; rw [List.contains_iff_mem]
theorem hasN_lk (l : List Bun) (n : Nid) : hasN l n = (lk l n).isSome := by
  rw [Bool.eq_iff_iff, hasN_iff]
  cases h : lk l n with
  | none => simp [(lk_none n).1 h]
  | some b =>
    simp only [Option.isSome_some, iff_true]
    unfold lk at h
    have h2 : idOf b = n := by simpa using List.find?_some h
    exact List.mem_map.2 ⟨b, List.mem_of_find?_eq_some h, h2⟩
theorem lk_each {f : Bun → Bun × Bool} (hf : KeepId f) {l : List Bun} (h : Rise l) (n : Nid) : lk (eachL f l) n = (lk l n).bind fun x => if (f x).2 = true then some (f x).1 else none := by
  have hr := each_rise hf h
  cases hl : lk l n with
  | none =>
    rw [Option.bind_none, lk_none]
    intro hm
    obtain ⟨b, hb, e⟩ := List.mem_map.1 hm
    obtain ⟨x, hx, h1, h2⟩ := each_mem.1 hb
    refine (lk_none n).1 hl (List.mem_map.2 ⟨x, hx, ?_⟩)
    rw [← e, ← h2, hf x h1]
  | some x =>
    obtain ⟨hx, e⟩ := (lk_iff h n x).1 hl
    rw [Option.bind_some]
    cases h1 : (f x).2 with
    | true =>
      rw [if_pos rfl, lk_iff hr]
      exact ⟨each_mem.2 ⟨x, hx, h1, rfl⟩, (hf x h1).trans e⟩
    | false =>
      rw [if_neg (by simp), lk_none]
      intro hm
      obtain ⟨b, hb, e2⟩ := List.mem_map.1 hm
      obtain ⟨y, hy, h2, h3⟩ := each_mem.1 hb
      have : y = x := rise_one h hy hx (by rw [← hf y h2, h3, e2, e])
      subst this
      rw [h1] at h2; cases h2
def ownN (m : Cm) : Nid := if m.k = 1 then idOf m.b else ⟨m.s, m.i, m.g⟩
def begZ (c : Cfg) (z : Int) (m : Cm) : Bool := decide (0 ≤ ofF c m.b.x m.b.y) && (decide (z < 0) || decide (ofF c m.b.x m.b.y = z))
def upd (c : Cfg) (z : Int) (m : Cm) (o : Option Bun) : Option Bun :=
  if m.k = 1 then (match o with | some x => some x | none => if begZ c z m = true then some m.b else none)
  else o.bind fun x => if (obeyF x m).2 = true then some (obeyF x m).1 else none
theorem obey_other {x : Bun} {m : Cm} (h : idOf x ≠ ⟨m.s, m.i, m.g⟩) : obeyF x m = (x, true) := by
  unfold obeyF
  rw [if_pos]
  cases hh : idEq m.s m.i m.g x.s x.i x.g with
  | false => rfl
  | true =>
    simp [idEq] at hh
    obtain ⟨⟨h1, h2⟩, h3⟩ := hh
    exact absurd (by unfold idOf; rw [h1, h2, h3]) h
theorem lk_insF {l : List Bun} (h : Rise l) (b : Bun) (hn : (findB b.s b.i b.g l 0).2 = false) (n : Nid) : lk (insF l (findB b.s b.i b.g l 0).1.toNat b) n = if n = idOf b then some b else lk l n := by
  have hr := ins_rise h b hn
  have hp := ins_perm l (findB b.s b.i b.g l 0).1.toNat b
  split
  · rename_i e
    rw [lk_iff hr]
    exact ⟨hp.mem_iff.2 (by simp), e.symm⟩
  · rename_i e
    cases hl : lk l n with
    | none =>
      rw [lk_none]
      intro hm
      obtain ⟨x, hx, e2⟩ := List.mem_map.1 hm
      rcases List.mem_cons.1 (hp.mem_iff.1 hx) with rfl | hx
      · exact e e2.symm
      · exact (lk_none n).1 hl (List.mem_map.2 ⟨x, hx, e2⟩)
    | some x =>
      obtain ⟨hx, e2⟩ := (lk_iff h n x).1 hl
      rw [lk_iff hr]
      exact ⟨hp.mem_iff.2 (List.mem_cons_of_mem _ hx), e2⟩
theorem cmdL_lk {c : Cfg} {z : Int} {l : List Bun} (h : Rise l) (m : Cm) (n : Nid) : lk (cmdL c z l m) n = if n = ownN m then upd c z m (lk l n) else lk l n := by
  unfold cmdL ownN upd
  by_cases hk : m.k = 1
  · simp only [if_pos hk]
    rw [spawnB_iff h]
    cases hs : hasN l (idOf m.b) with
    | true =>
      simp only [Bool.not_true, Bool.false_and, Bool.false_eq_true, if_false]
      split
      · rename_i e
        subst e
        rw [hasN_lk] at hs
        obtain ⟨x, hx⟩ := Option.isSome_iff_exists.1 hs
        rw [hx]
      · rfl
    | false =>
      simp only [Bool.not_false, Bool.true_and]
      have hs' := hs
      rw [hasN_lk] at hs'
      have hn0 : lk l (idOf m.b) = none := by simpa using hs'
      show lk (if begZ c z m = true then _ else _) n = _
      by_cases hb : begZ c z m = true
      · rw [if_pos hb]
        obtain ⟨q, _, _, _, _, q5⟩ := findB_spec m.b.s m.b.i m.b.g l 0 h
        have hf : (findB m.b.s m.b.i m.b.g l 0).2 = false := by
          cases hh : (findB m.b.s m.b.i m.b.g l 0).2 with
          | false => rfl
          | true => exact absurd (q5.1 hh) ((lk_none _).1 hn0)
        rw [lk_insF h m.b hf]
        split
        · rename_i e
          subst e
          rw [hn0]
        · rfl
      · rw [if_neg hb]
        split
        · rename_i e
          subst e
          rw [hn0]
        · rfl
  · simp only [if_neg hk]
    rw [lk_each (keep_obey m) h]
    split
    · rfl
    · rename_i e
      cases hl : lk l n with
      | none => rfl
      | some x =>
        obtain ⟨_, e2⟩ := (lk_iff h n x).1 hl
        rw [Option.bind_some, obey_other (by rw [e2]; exact e)]
        rfl
end Go.Proofs.YtoimjjhopljdmaaGreat
namespace Go.Proofs.YtoimjjhopljdmaaGreat
open Go.RowKit
theorem check_zero : checkB zeroB = false := by decide

theorem hurt_may (b : Bun) (n : Int) (h : checkB b = true) : checkB (hurtF b n).1 = (hurtF b n).2 := by
  unfold hurtF
  split
  · exact h
  · rename_i h1
    split
    · exact check_zero
    · rename_i h2
      simp only [not_or, Bool.not_eq_false] at h1
      show checkB { b with hp := b.hp - n } = true
      simp only [checkB, rightB, Bool.and_eq_true] at h ⊢
      obtain ⟨⟨⟨⟨⟨⟨⟨⟨⟨a1, a2⟩, a3⟩, a4⟩, a5⟩, a6⟩, a7⟩, a8⟩, a9⟩, a10⟩ := h
      refine ⟨⟨⟨⟨⟨⟨⟨⟨⟨a1, a2⟩, a3⟩, a4⟩, a5⟩, ?_⟩, a7⟩, a8⟩, a9⟩, a10⟩
      rw [h1.1] at a6 ⊢
      simp only [withinB, if_true, inR, Bool.and_eq_true, decide_eq_true_eq] at a6 ⊢
      omega
theorem age_may (b : Bun) (h : checkB b = true) : checkB (ageF b).1 = (ageF b).2 := by
  unfold ageF
  split
  · exact h
  · rename_i h1
    split
    · exact check_zero
    · rename_i h2
      simp only [Bool.not_eq_false] at h1
      show checkB { b with lf := b.lf - 1 } = true
      simp only [checkB, rightB, Bool.and_eq_true] at h ⊢
      obtain ⟨⟨⟨⟨⟨⟨⟨⟨⟨a1, a2⟩, a3⟩, a4⟩, a5⟩, a6⟩, a7⟩, a8⟩, a9⟩, a10⟩ := h
      refine ⟨⟨⟨⟨⟨⟨⟨⟨⟨a1, a2⟩, a3⟩, a4⟩, a5⟩, a6⟩, a7⟩, ?_⟩, a9⟩, a10⟩
      rw [h1] at a8 ⊢
      simp only [withinB, if_true, inR, Bool.and_eq_true, decide_eq_true_eq] at a8 ⊢
      omega
theorem obey_may (b : Bun) (c : Cm) (h : checkB b = true) (hc : cmdB c = true) : checkB (obeyF b { c with s := b.s, i := b.i, g := b.g }).1 = (obeyF b { c with s := b.s, i := b.i, g := b.g }).2 := by
  have hid : idEq b.s b.i b.g b.s b.i b.g = true := by simp [idEq]
  simp only [obeyF, hid, Bool.true_eq_false, if_false]
  split
  · exact check_zero
  · split
    · rename_i h2 h3
      have h1 : (c.k == 1) = false := by simp; omega
      have h3' : (c.k == 3) = true := by simpa using h3
      simp only [cmdB, h1, h3', Bool.false_eq_true, if_false, if_true, Bool.and_eq_true] at hc
      exact check_with b c.b h hc.1.2
    · split
      · rename_i h2 h3 h4
        have h1 : (c.k == 1) = false := by simp; omega
        have h3' : (c.k == 3) = false := by simp; omega
        have h4' : (c.k == 4) = true := by simpa using h4
        simp only [cmdB, h1, h3', h4', Bool.false_eq_true, if_false, if_true, Bool.and_eq_true, someB] at hc
        show checkB (withoutF b c.mask) = true
        rw [check_without b c.mask h]
        exact hc.1.1.2
      · exact h


end Go.Proofs.YtoimjjhopljdmaaGreat
namespace Go.Proofs.YtoimjjhopljdmaaGreat
open Go.RowKit Go.Sort

def powr (r : Int) (e c : Bun) : Int := if takeC r e c then c.pw else 0
def sumP (f : Bun → Int) : List Bun → Int
  | [] => 0
  | c :: l => f c + sumP f l
theorem sumP_app (f : Bun → Int) : ∀ (l l' : List Bun), sumP f (l ++ l') = sumP f l + sumP f l'
  | [], l' => by simp [sumP]
  | c :: l, l' => by simp only [List.cons_append, sumP, sumP_app f l l']; omega
theorem sumP_perm (f : Bun → Int) {l l' : List Bun} (h : l.Perm l') : sumP f l = sumP f l' := by
  induction h with
  | nil => rfl
  | cons x _ ih => simp only [sumP, ih]
  | swap x y l => simp only [sumP]; omega
  | trans _ _ h1 h2 => exact h1.trans h2
def PwOk (c : Bun) : Prop := 0 ≤ c.pw ∧ c.pw ≤ 1024
theorem takesF_sum (r : Int) (e : Bun) : ∀ (l : List Bun) (q : Int), (∀ c ∈ l, PwOk c) → 0 ≤ q → q + 1024 * l.length ≤ 1073741824 → takesF r e q l = q + sumP (powr r e) l ∧ 0 ≤ sumP (powr r e) l ∧ sumP (powr r e) l ≤ 1024 * l.length
  | [], q, _, _, _ => by simp [takesF, sumP]
  | c :: l, q, hp, h0, h1 => by
    obtain ⟨p0, p1⟩ := hp c (by simp)
    simp only [List.length_cons] at h1
    have hc : addF q c.pw = q + c.pw := by unfold addF; rw [clampF_id q (by omega) (by omega), clampF_id c.pw (by omega) (by omega), clampF_id _ (by omega) (by omega)]
    unfold takesF
    simp only [sumP, List.length_cons]
    unfold powr
    cases ht : takeC r e c with
    | true =>
      simp only [if_true]
      rw [hc]
      have ih := takesF_sum r e l (q + c.pw) (fun d hd => hp d (List.mem_cons_of_mem _ hd)) (by omega) (by omega)
      unfold powr at ih
      refine ⟨?_, ?_, ?_⟩ <;> omega
    | false =>
      simp only [Bool.false_eq_true, if_false]
      have ih := takesF_sum r e l q (fun d hd => hp d (List.mem_cons_of_mem _ hd)) h0 (by omega)
      unfold powr at ih
      refine ⟨?_, ?_, ?_⟩ <;> omega

theorem hitOf_split (r : Int) (l a b : List Bun) (hp : (a ++ b).Perm l) (hw : ∀ c ∈ l, PwOk c) (hl : l.length ≤ 60) (e : Bun) : hitOf r l [] e = hitOf r a b e := by
  have hlen := hp.length_eq
  simp only [List.length_append] at hlen
  have t1 := takesF_sum r e l 0 hw (by omega) (by omega)
  have t2 := takesF_sum r e a 0 (fun c hc => hw c (hp.mem_iff.1 (List.mem_append_left _ hc))) (by omega) (by omega)
  have t3 := takesF_sum r e b (takesF r e 0 a) (fun c hc => hw c (hp.mem_iff.1 (List.mem_append_right _ hc))) (by omega) (by omega)
  have t4 := sumP_perm (powr r e) hp
  rw [sumP_app] at t4
  have t5 : takesF r e (takesF r e 0 l) [] = takesF r e (takesF r e 0 a) b := by
    show takesF r e 0 l = _
    omega
  unfold hitOf
  rw [t5]
end Go.Proofs.YtoimjjhopljdmaaGreat
namespace Go.Proofs.YtoimjjhopljdmaaGreat
open Go.RowKit Go.Sort
theorem sumP_filter (f : Bun → Int) (p : Bun → Bool) : ∀ l : List Bun, (∀ b ∈ l, p b = false → f b = 0) → sumP f (l.filter p) = sumP f l
  | [], _ => rfl
  | b :: l, h => by
    have ih := sumP_filter f p l fun x hx => h x (List.mem_cons_of_mem _ hx)
    cases hp : p b with
    | true => rw [List.filter_cons, if_pos hp]; simp only [sumP, ih]
    | false =>
      rw [List.filter_cons, if_neg (by rw [hp]; decide), ih]
      simp only [sumP, h b (by simp) hp]; omega
theorem off_far {x i s u : Int} (hs : 0 < s) (h : x / s = i) : offF u (i * s) (i * s + s - 1) ≤ max (x - u) (-(x - u)) := by
  obtain ⟨h1, h2⟩ := (div_iff hs).2 h
  unfold offF
  omega
theorem gap_far {c : Cfg} (ho : CfgOk c) {k : Int} (h0 : 0 ≤ k) (h1 : k < c.cols * c.rows) {b d : Bun} (hb : inW c b.x b.y = true) (hd : inW c d.x d.y = true) (hk : ofF c b.x b.y = k) : gapZ c k d.x d.y ≤ farF b.x b.y d.x d.y := by
  obtain ⟨e, a0, a1, b0, b1, m0, m1⟩ := ofF_in ho hb
  have s0 := ho.s0
  obtain ⟨hz, z1, z2, z3, z4⟩ := zone_rng ho h0 h1
  obtain ⟨p1, p2, p3, p4⟩ := ho.prod
  unfold inW at hb hd
  obtain ⟨x0, x1, y0, y1⟩ := of_decide_eq_true hb
  obtain ⟨u0, u1, v0, v1⟩ := of_decide_eq_true hd
  obtain ⟨c1, c2⟩ := col_row (cy := b.y / c.side) a0 a1
  rw [← e, hk] at c1 c2
  have o1 := off_far (x := b.x) (i := k % c.cols) (u := d.x) (s := c.side) (by omega) c1.symm
  have o2 := off_far (x := b.y) (i := k / c.cols) (u := d.y) (s := c.side) (by omega) c2.symm
  have hs1 := ho.s1
  unfold gapZ
  rw [hz]
  simp only
  generalize k % c.cols = i at *
  generalize k / c.cols = j at *
  unfold gapF boxOk farF
  rw [clampF_id b.x (by omega) (by omega), clampF_id b.y (by omega) (by omega), clampF_id d.x (by omega) (by omega), clampF_id d.y (by omega) (by omega), clampF_id (i * c.side) (by omega) (by omega), clampF_id (j * c.side) (by omega) (by omega), clampF_id (i * c.side + c.side) (by omega) (by omega), clampF_id (j * c.side + c.side) (by omega) (by omega)]
  rw [show (decide (i * c.side < i * c.side + c.side) && decide (j * c.side < j * c.side + c.side)) = true by simp; omega, if_pos rfl]
  omega
theorem part_len (c : Cfg) (k : Int) (l : List Bun) : (partF c k l).length ≤ l.length := List.length_filter_le _ _
theorem want_len (c : Cfg) (k : Int) (l : List Bun) : (wantF c k l).length ≤ l.length := List.length_filter_le _ _
def othF (c : Cfg) (k : Int) (l : List Bun) : List Bun := l.filter fun b => !(ofF c b.x b.y == k)
theorem want_oth (c : Cfg) (k : Int) (l : List Bun) : wantF c k l = (othF c k l).filter fun b => decide (gapZ c k b.x b.y ≤ c.radius) := by
  unfold wantF othF
  rw [List.filter_filter]
  refine List.filter_congr fun b _ => ?_
  unfold forB
  exact Bool.and_comm _ _
theorem hitOf_near {c : Cfg} (ho : CfgOk c) {k : Int} (h0 : 0 ≤ k) (h1 : k < c.cols * c.rows) {l own : List Bun} (hin : ∀ b ∈ l, inW c b.x b.y = true) (hp : ∀ b ∈ l, PwOk b) (hl : l.length ≤ 60) (hown : ∀ b ∈ own, PwOk b) (hol : own.length ≤ 60) {b : Bun} (hb : b ∈ l) (hk : ofF c b.x b.y = k) :
    hitOf c.radius own (stableF cmpBun (wantF c k l)) b = hitOf c.radius own (othF c k l) b := by
  have hsub : ∀ x ∈ othF c k l, x ∈ l := fun x hx => (List.mem_filter.1 hx).1
  have hsw : ∀ x ∈ stableF cmpBun (wantF c k l), x ∈ l := fun x hx => (List.mem_filter.1 ((stF_perm _).mem_iff.1 hx)).1
  have n1 : (stableF cmpBun (wantF c k l)).length ≤ 60 := by rw [(stF_perm _).length_eq]; exact Nat.le_trans (want_len c k l) hl
  have n2 : (othF c k l).length ≤ 60 := Nat.le_trans (List.length_filter_le _ _) hl
  have t1 := takesF_sum c.radius b own 0 hown (by omega) (by omega)
  have t2 := takesF_sum c.radius b (stableF cmpBun (wantF c k l)) (takesF c.radius b 0 own) (fun x hx => hp x (hsw x hx)) (by omega) (by omega)
  have t3 := takesF_sum c.radius b (othF c k l) (takesF c.radius b 0 own) (fun x hx => hp x (hsub x hx)) (by omega) (by omega)
  have e1 : sumP (powr c.radius b) (stableF cmpBun (wantF c k l)) = sumP (powr c.radius b) (othF c k l) := by
    rw [sumP_perm _ (stF_perm _), want_oth]
    refine sumP_filter _ _ _ fun d hd hg => ?_
    have hg' := of_decide_eq_false hg
    have := gap_far ho h0 h1 (hin b hb) (hin d (hsub d hd)) hk
    unfold powr takeC
    rw [show decide (farF b.x b.y d.x d.y ≤ c.radius) = false by simp; omega, Bool.and_false]
    rfl
  unfold hitOf
  rw [show takesF c.radius b (takesF c.radius b 0 own) (stableF cmpBun (wantF c k l)) = takesF c.radius b (takesF c.radius b 0 own) (othF c k l) by rw [t2.1, t3.1, e1]]
end Go.Proofs.YtoimjjhopljdmaaGreat
namespace Go.Proofs.YtoimjjhopljdmaaGreat
open Go.RowKit
def GoodZ (c : Cfg) (z : Int) (b : Bun) : Prop := checkB b = true ∧ inW c b.x b.y = true ∧ ofF c b.x b.y = z
theorem good_pos {c : Cfg} {z : Int} {b b' : Bun} (h : GoodZ c z b) (hc : checkB b' = true) (hx : b'.x = b.x) (hy : b'.y = b.y) : GoodZ c z b' := ⟨hc, by rw [hx, hy]; exact h.2.1, by rw [hx, hy]; exact h.2.2⟩
theorem good_hit {c : Cfg} {z : Int} {hs : List Hit} {b : Bun} (h : GoodZ c z b) (hk : (hitF hs b).2 = true) : GoodZ c z (hitF hs b).1 := by
  unfold hitF at hk ⊢
  cases hf : hs.find? fun h => idEq h.s h.i h.g b.s b.i b.g with
  | none => exact h
  | some x =>
    rw [hf] at hk
    have hk : (hurtF b x.n).2 = true := hk
    show GoodZ c z (hurtF b x.n).1
    refine good_pos h ((hurt_may b x.n h.1).trans hk) ?_ ?_ <;> (unfold hurtF at hk ⊢; split; rfl; rename_i h1; rw [if_neg h1] at hk; split; (rename_i h2; rw [if_pos h2] at hk; cases hk); rfl)
theorem some_not1 {m : Int} (h : someB m = true) : hasB m 1 = false := by
  unfold someB at h
  simp only [Bool.and_eq_true] at h
  have h2 := h.2
  rw [and1_zero] at h2
  simpa using h2
theorem good_obey {c : Cfg} {z : Int} {m : Cm} {b : Bun} (hm : cmdB m = true) (hk1 : m.k ≠ 1) (h : GoodZ c z b) (hk : (obeyF b m).2 = true) : GoodZ c z (obeyF b m).1 := by
  by_cases hid : idEq m.s m.i m.g b.s b.i b.g = false
  · have e : obeyF b m = (b, true) := by unfold obeyF; rw [if_pos hid]
    rw [e]; exact h
  · have hid2 : idEq m.s m.i m.g b.s b.i b.g = true := by simpa using hid
    have e : m = { m with s := b.s, i := b.i, g := b.g } := by
      simp only [idEq, Bool.and_eq_true, beq_iff_eq] at hid2
      obtain ⟨⟨h1, h2⟩, h3⟩ := hid2
      rw [← h1, ← h2, ← h3]
    have hc := obey_may b m h.1 hm
    rw [← e] at hc
    refine good_pos h (hc.trans hk) ?_ ?_
    all_goals
      unfold cmdB at hm
      have n1 : (m.k == 1) = false := by simpa using hk1
      rw [n1] at hm
      simp only [Bool.false_eq_true, if_false] at hm
      unfold obeyF at hk ⊢
      rw [if_neg hid] at hk ⊢
      by_cases h2 : m.k = 2
      · rw [if_pos h2] at hk; cases hk
      · rw [if_neg h2] at hk ⊢
        by_cases h3 : m.k = 3
        · rw [if_pos h3]
          have n3 : (m.k == 3) = true := by simpa using h3
          rw [n3] at hm
          simp only [if_true, Bool.and_eq_true] at hm
          have := some_not1 hm.1.1.2
          unfold withF
          simp [this]
        · rw [if_neg h3]
          by_cases h4 : m.k = 4
          · rw [if_pos h4]
            have n3 : (m.k == 3) = false := by simpa using h3
            have n4 : (m.k == 4) = true := by simpa using h4
            rw [n3, n4] at hm
            simp only [Bool.false_eq_true, if_false, if_true, Bool.and_eq_true] at hm
            have := some_not1 hm.1.1
            unfold withoutF
            simp [this]
          · rw [if_neg h4]
theorem check_at {b : Bun} {x y : Int} (h : checkB b = true) (hx : -1073741824 ≤ x ∧ x ≤ 1073741824) (hy : -1073741824 ≤ y ∧ y ≤ 1073741824) : checkB { b with x := x, y := y } = true := by
  unfold checkB rightB at h ⊢
  simp only [Bool.and_eq_true] at h ⊢
  obtain ⟨⟨⟨⟨⟨⟨⟨⟨⟨h1, h2⟩, h3⟩, h4⟩, h5⟩, h6⟩, h7⟩, h8⟩, h9⟩, h10⟩ := h
  refine ⟨⟨⟨⟨⟨⟨⟨⟨⟨h1, ?_⟩, ?_⟩, h4⟩, h5⟩, h6⟩, h7⟩, h8⟩, h9⟩, h10⟩
  · unfold withinB; rw [h9]; simp [inR, hx.1, hx.2]
  · unfold withinB; rw [h9]; simp [inR, hy.1, hy.2]
theorem good_pass {c : Cfg} (ho : CfgOk c) {z : Int} {b : Bun} (h : GoodZ c z b) (hk : (passF c b).2 = true) : checkB (passF c b).1 = true ∧ (ofF c (passF c b).1.x (passF c b).1.y = z ∨ ofF c (passF c b).1.x (passF c b).1.y ∈ besideF c z) := by
  obtain ⟨p1, p2, p3, p4⟩ := ho.prod
  have hin := inF_in ho (if hasB b.m 2 then addF b.x (max (-c.speed) (min c.speed b.vx)) else b.x) (if hasB b.m 2 then addF b.y (max (-c.speed) (min c.speed b.vy)) else b.y)
  have hmv : inW c (moveF c b).x (moveF c b).y = true := hin
  have hcm : checkB (moveF c b) = true := by
    unfold inW at hmv
    have hmv := of_decide_eq_true hmv
    have e : moveF c b = { b with x := (moveF c b).x, y := (moveF c b).y } := rfl
    rw [e]
    exact check_at h.1 ⟨by omega, by omega⟩ ⟨by omega, by omega⟩
  have hst := move_stays ho b h.2.1
  rw [h.2.2] at hst
  have hage := age_may (moveF c b) hcm
  have e : passF c b = ageF (moveF c b) := rfl
  rw [e] at hk ⊢
  have hpos : (ageF (moveF c b)).1.x = (moveF c b).x ∧ (ageF (moveF c b)).1.y = (moveF c b).y := by
    generalize moveF c b = y at *
    unfold ageF at hk ⊢
    split
    · exact ⟨rfl, rfl⟩
    · rename_i h1
      rw [if_neg h1] at hk
      split
      · rename_i h2; rw [if_pos h2] at hk; cases hk
      · exact ⟨rfl, rfl⟩
  refine ⟨hage.trans hk, ?_⟩
  rw [hpos.1, hpos.2]
  exact hst.imp (fun e => e.symm) id
end Go.Proofs.YtoimjjhopljdmaaGreat
namespace Go.Proofs.YtoimjjhopljdmaaGreat
open Go.RowKit Go.Sort
def begM (ms : List Cm) : List Nid := (ms.filter fun m => decide (m.k = 1)).map fun m => idOf m.b
def begsN (c : Cfg) (z : Int) (ms : List Cm) : List Nid := (ms.filter fun m => decide (m.k = 1) && begZ c z m).map fun m => idOf m.b
theorem begM_cons (m : Cm) (ms : List Cm) : begM (m :: ms) = (if m.k = 1 then [idOf m.b] else []) ++ begM ms := by
  unfold begM
  rw [List.filter_cons]
  by_cases h : m.k = 1 <;> simp [h]
theorem begsN_cons (c : Cfg) (z : Int) (m : Cm) (ms : List Cm) : begsN c z (m :: ms) = begsN c z [m] ++ begsN c z ms := by
  unfold begsN
  rw [List.filter_cons, List.filter_cons]
  cases (decide (m.k = 1) && begZ c z m) <;> simp
theorem begsN_sub (c : Cfg) (z : Int) (ms : List Cm) : (begsN c z ms).Sublist (begM ms) := by
  unfold begsN begM
  refine List.Sublist.map _ ?_
  rw [show (fun m => decide (m.k = 1) && begZ c z m) = fun m => begZ c z m && decide (m.k = 1) from funext fun m => Bool.and_comm _ _, ← List.filter_filter]
  exact List.filter_sublist
theorem cmd_ids {c : Cfg} {z : Int} {l : List Bun} (h : Rise l) (m : Cm) (hf : m.k = 1 → idOf m.b ∉ l.map idOf) : ((cmdL c z l m).map idOf ++ cmdN l m).Perm (l.map idOf ++ begsN c z [m]) := by
  unfold cmdL cmdN begsN
  by_cases hk : m.k = 1
  · rw [if_pos hk, if_pos hk, spawnB_iff h]
    have hn : hasN l (idOf m.b) = false := by
      cases hh : hasN l (idOf m.b) with
      | false => rfl
      | true => exact absurd ((hasN_iff l _).1 hh) (hf hk)
    rw [hn]
    simp only [Bool.not_false, Bool.true_and, List.append_nil]
    show ((if begZ c z m = true then insF l (findB m.b.s m.b.i m.b.g l 0).1.toNat m.b else l).map idOf).Perm _
    by_cases hb : begZ c z m = true
    · rw [if_pos hb]
      refine ((ins_perm l _ m.b).map idOf).trans ?_
      simp only [List.map_cons, List.filter_cons, hk, hb, decide_true, Bool.and_self, if_true, List.filter_nil, List.map_nil]
      exact List.perm_append_comm (l₁ := [idOf m.b])
    · rw [if_neg hb]
      simp [hk, hb]
  · rw [if_neg hk, if_neg hk]
    have := each_ids (keep_obey m) l
    simpa [hk] using this
theorem cmds_ids (c : Cfg) (z : Int) : ∀ (ms : List Cm) {l : List Bun}, Rise l → (∀ n ∈ begM ms, n ∉ l.map idOf) → (begM ms).Nodup → ((cmdsL c z l ms).map idOf ++ cmdsN c z l ms).Perm (l.map idOf ++ begsN c z ms)
  | [], l, _, _, _ => by simp [cmdsL, cmdsN, begsN]
  | m :: ms, l, h, hf, hn => by
    rw [begM_cons] at hf hn
    have h2 := cmd_ids (c := c) (z := z) h m fun hk => hf _ (by simp [hk])
    have hl' : Rise (cmdL c z l m) := cmdL_rise h m
    have h1 := cmds_ids c z ms hl' (fun n hm hx => by
      have hx2 := h2.mem_iff.1 (List.mem_append_left _ hx)
      rcases List.mem_append.1 hx2 with h3 | h3
      · exact hf n (List.mem_append_right _ hm) h3
      · have h4 := (begsN_sub c z [m]).subset h3
        rw [begM_cons] at h4
        simp only [begM, List.filter_nil, List.map_nil, List.append_nil] at h4
        exact (List.nodup_append.1 hn).2.2 n h4 n hm rfl) (List.nodup_append.1 hn).2.1
    rw [begsN_cons]
    show ((cmdsL c z (cmdL c z l m) ms).map idOf ++ (cmdN l m ++ cmdsN c z (cmdL c z l m) ms)).Perm _
    rw [List.perm_iff_count]
    intro a
    have a1 := h1.count_eq a
    have a2 := h2.count_eq a
    simp only [List.count_append] at a1 a2 ⊢
    omega
theorem tick_ids (c : Cfg) (z : Int) {own : List Bun} (near : List Bun) {ms : List Cm} (hu : UnId own) (hf : ∀ n ∈ begM ms, n ∉ own.map idOf) (hn : (begM ms).Nodup) :
    ((leftL c z own near ms).map idOf ++ deadN c z own near ms).Perm (own.map idOf ++ begsN c z ms) := by
  have h1 := each_ids (keep_hit (hitsF c.radius own near)) (stableF cmpBun own)
  have h2 := (stF_perm own).map idOf
  have hr := hurtL_rise c.radius near hu
  have h3 := cmds_ids c z ms hr (fun n hm hx => hf n hm (h2.mem_iff.1 (h1.mem_iff.1 (List.mem_append_left _ hx)))) hn
  have h4 := each_ids (keep_pass c) (midL c z own near ms)
  unfold leftL deadN
  rw [List.perm_iff_count]
  intro a
  have a1 := h1.count_eq a
  have a2 := h2.count_eq a
  have a3 := h3.count_eq a
  have a4 := h4.count_eq a
  unfold hurtL hurtN midL at *
  unfold hurtL at *
  simp only [List.count_append] at a1 a2 a3 a4 ⊢
  omega
end Go.Proofs.YtoimjjhopljdmaaGreat
namespace Go.Proofs.YtoimjjhopljdmaaGreat
open Go.RowKit
theorem left_split (c : Cfg) (z : Int) (own near : List Bun) (ms : List Cm) : (ownL c z own near ms ++ goneL c z own near ms).Perm (leftL c z own near ms) := by
  unfold ownL goneL
  exact List.filter_append_perm _ _
theorem names_nodup (c : Cfg) (z : Int) {own : List Bun} {ms : List Cm} (hu : UnId own) (hf : ∀ n ∈ begM ms, n ∉ own.map idOf) (hn : (begM ms).Nodup) : (own.map idOf ++ begsN c z ms).Nodup := by
  refine List.nodup_append.2 ⟨?_, hn.sublist (begsN_sub c z ms), fun a ha b hb e => ?_⟩
  · unfold List.Nodup
    rw [List.pairwise_map]
    exact hu.imp fun {a b} h e => h ((sameId_iff a b).2 e)
  · subst e
    exact hf a ((begsN_sub c z ms).subset hb) ha
theorem dead_perm (c : Cfg) (z : Int) {own : List Bun} (near : List Bun) {ms : List Cm} (hu : UnId own) (hf : ∀ n ∈ begM ms, n ∉ own.map idOf) (hn : (begM ms).Nodup) : (setN (deadN c z own near ms)).Perm (deadN c z own near ms) := by
  have hp := tick_ids c z near hu hf hn
  have hnd := (hp.nodup_iff.2 (names_nodup c z hu hf hn))
  have h2 := (List.nodup_append.1 hnd).2.1
  obtain ⟨h3, h4⟩ := setN_ok (deadN c z own near ms)
  have h5 : (setN (deadN c z own near ms)).Nodup := h3.imp fun {a b} h e => by subst e; rw [befN_irr] at h; cases h
  exact (List.perm_ext_iff_of_nodup h5 h2).2 h4
theorem tick_total (c : Cfg) (z : Int) {own : List Bun} (near : List Bun) {ms : List Cm} (hu : UnId own) (hf : ∀ n ∈ begM ms, n ∉ own.map idOf) (hn : (begM ms).Nodup) :
    (ownL c z own near ms ++ goneL c z own near ms).length + (setN (deadN c z own near ms)).length = own.length + (begsN c z ms).length := by
  have h1 := (left_split c z own near ms).length_eq
  have h2 := (dead_perm c z near hu hf hn).length_eq
  have h3 := (tick_ids c z near hu hf hn).length_eq
  simp only [List.length_append, List.length_map] at h1 h3 ⊢
  omega
end Go.Proofs.YtoimjjhopljdmaaGreat
