/-
  SystemsSplits, plain: of two parts, each with the other as others, the hits together are those of all. And the law's helpers: unlike, sum. Condition: the entities' numbers fit.
  Plain: whoever stands in a zone takes nothing from those that do not lie near it: with the ghosts each takes what it takes with all. No program here. Condition: the world may be; powers may be.
  Plain: what Living leaves fits; with its ghosts a zone's tick leaves what it leaves with all others. No program here. Condition: the world may be.
  What is left of an entity that may be, may be: plain. No program. No condition.
-/
import Derived.Test.YtcnclcfipabimaaShE
import Derived.Test.YtcnclcfipabimaaMpt
import Derived.Test.YtcnclcfipabimaaMtl
import Derived.Test.YtcnclcfipabimaaRtD
import Derived.Test.YtcnclcfipabimaaLiv
import Derived.Test.YtcnclcfipabimaaMpc
namespace Go.Proofs.Ytcnclcfipabimaa
open Go.RowKit Go.Sort

def powr (r : Int) (e c : Bun) : Int := if takeC r e c then c.pw else 0
def sumP (f : Bun → Int) : List Bun → Int
  | [] => 0
  | c :: l => f c + sumP f l
theorem sumP_app (f : Bun → Int) : ∀ (l l' : List Bun), sumP f (l ++ l') = sumP f l + sumP f l'
  | [], l' => by simp [sumP]
  | c :: l, l' => by simp only [List.cons_append, sumP, sumP_app f l l']; omega
theorem sumP_perm (f : Bun → Int) {l l' : List Bun} (h : l.Perm l') : sumP f l = sumP f l' := by
  induction h with
  | nil => rfl
  | cons x _ ih => simp only [sumP, ih]
  | swap x y l => simp only [sumP]; omega
  | trans _ _ h1 h2 => exact h1.trans h2
def PwOk (c : Bun) : Prop := 0 ≤ c.pw ∧ c.pw ≤ 1024
theorem takesF_sum (r : Int) (e : Bun) : ∀ (l : List Bun) (q : Int), (∀ c ∈ l, PwOk c) → 0 ≤ q → q + 1024 * l.length ≤ 1073741824 → takesF r e q l = q + sumP (powr r e) l ∧ 0 ≤ sumP (powr r e) l ∧ sumP (powr r e) l ≤ 1024 * l.length
  | [], q, _, _, _ => by simp [takesF, sumP]
  | c :: l, q, hp, h0, h1 => by
    obtain ⟨p0, p1⟩ := hp c (by simp)
    simp only [List.length_cons] at h1
    have hc : addF q c.pw = q + c.pw := by unfold addF; rw [clampF_id q (by omega) (by omega), clampF_id c.pw (by omega) (by omega), clampF_id _ (by omega) (by omega)]
    unfold takesF
    simp only [sumP, List.length_cons]
    unfold powr
    cases ht : takeC r e c with
    | true =>
      simp only [if_true]
      rw [hc]
      have ih := takesF_sum r e l (q + c.pw) (fun d hd => hp d (List.mem_cons_of_mem _ hd)) (by omega) (by omega)
      unfold powr at ih
      refine ⟨?_, ?_, ?_⟩ <;> omega
    | false =>
      simp only [Bool.false_eq_true, if_false]
      have ih := takesF_sum r e l q (fun d hd => hp d (List.mem_cons_of_mem _ hd)) h0 (by omega)
      unfold powr at ih
      refine ⟨?_, ?_, ?_⟩ <;> omega

theorem stableF_perm (l : List Bun) : (stableF cmpBun l).Perm l := by
  unfold stableF
  have h := (List.mergeSort_perm l.zipIdx fun x y => !ltT cmpBun y x).map fun x => x.1
  have e : l.zipIdx.map (fun x => x.1) = l := by simp
  exact h.trans (List.Perm.of_eq e)

theorem hitOf_split (r : Int) (l a b : List Bun) (hp : (a ++ b).Perm l) (hw : ∀ c ∈ l, PwOk c) (hl : l.length ≤ 60) (e : Bun) : hitOf r l [] e = hitOf r a b e := by
  have hlen := hp.length_eq
  simp only [List.length_append] at hlen
  have t1 := takesF_sum r e l 0 hw (by omega) (by omega)
  have t2 := takesF_sum r e a 0 (fun c hc => hw c (hp.mem_iff.1 (List.mem_append_left _ hc))) (by omega) (by omega)
  have t3 := takesF_sum r e b (takesF r e 0 a) (fun c hc => hw c (hp.mem_iff.1 (List.mem_append_right _ hc))) (by omega) (by omega)
  have t4 := sumP_perm (powr r e) hp
  rw [sumP_app] at t4
  have t5 : takesF r e (takesF r e 0 l) [] = takesF r e (takesF r e 0 a) b := by
    show takesF r e 0 l = _
    omega
  unfold hitOf
  rw [t5]
theorem hits_split (r : Int) (l a b : List Bun) (hp : (a ++ b).Perm l) (hw : ∀ c ∈ l, PwOk c) (hl : l.length ≤ 60) : (hitsF r l []).Perm (hitsF r a b ++ hitsF r b a) := by
  have e1 : hitOf r l [] = hitOf r a b := funext fun e => hitOf_split r l a b hp hw hl e
  have e2 : hitOf r l [] = hitOf r b a := funext fun e => hitOf_split r l b a (List.perm_append_comm.trans hp) hw hl e
  unfold hitsF
  have h1 := (stableF_perm l).filterMap (hitOf r l [])
  have h2 := hp.symm.filterMap (hitOf r l [])
  rw [List.filterMap_append] at h2
  refine h1.trans (h2.trans ?_)
  have h3 := ((stableF_perm a).symm.filterMap (hitOf r l []))
  have h4 := ((stableF_perm b).symm.filterMap (hitOf r l []))
  rw [← e1, ← e2]
  exact h3.append h4

def sumH (s i g : Int) : List Hit → Int
  | [] => 0
  | h :: l => (if idEq h.s h.i h.g s i g then h.n else 0) + sumH s i g l
theorem sumH_app (s i g : Int) : ∀ (l l' : List Hit), sumH s i g (l ++ l') = sumH s i g l + sumH s i g l'
  | [], l' => by simp [sumH]
  | c :: l, l' => by simp only [List.cons_append, sumH, sumH_app s i g l l']; omega
theorem sumH_perm (s i g : Int) {l l' : List Hit} (h : l.Perm l') : sumH s i g l = sumH s i g l' := by
  induction h with
  | nil => rfl
  | cons x _ ih => simp only [sumH, ih]
  | swap x y l => simp only [sumH]; omega
  | trans _ _ h1 h2 => exact h1.trans h2
def HnOk (h : Hit) : Prop := 0 ≤ h.n ∧ h.n ≤ 1073741824
theorem sumH_rng (s i g : Int) : ∀ (l : List Hit), (∀ h ∈ l, HnOk h) → 0 ≤ sumH s i g l ∧ sumH s i g l ≤ 1073741824 * l.length
  | [], _ => by simp [sumH]
  | c :: l, h => by
    obtain ⟨h0, h1⟩ := h c (by simp)
    have ih := sumH_rng s i g l fun d hd => h d (List.mem_cons_of_mem _ hd)
    simp only [sumH, List.length_cons]
    split <;> omega
theorem hitsF_ok (r : Int) (l a : List Bun) : (∀ h ∈ hitsF r l a, HnOk h) ∧ (hitsF r l a).length ≤ l.length := by
  constructor
  · intro h hh
    obtain ⟨b, _, hb⟩ := List.mem_filterMap.1 hh
    have h1 := takesF_rng r b l 0 (by omega)
    have h2 := takesF_rng r b a _ h1
    unfold hitOf at hb
    split at hb
    · split at hb
      · cases hb; exact ⟨by simp only; omega, h2.2⟩
      · cases hb
    · cases hb
  · have := List.length_filterMap_le (hitOf r l a) (stableF cmpBun l)
    rw [stableF_len] at this
    exact this
theorem rMay_pw (b : Bun) (h : rMayB b = true) : PwOk b := by
  unfold rMayB rRightB at h
  simp only [Bool.and_eq_true] at h
  have h1 := h.1.2.1.2
  unfold withinB inR at h1
  unfold PwOk
  split at h1
  · simp only [Bool.and_eq_true, decide_eq_true_eq] at h1; omega
  · have := eq_of_beq h1; omega
end Go.Proofs.Ytcnclcfipabimaa
namespace Go.Proofs.Ytcnclcfipabimaa
open Go.RowKit Go.Sort
theorem sumP_filter (f : Bun → Int) (p : Bun → Bool) : ∀ l : List Bun, (∀ b ∈ l, p b = false → f b = 0) → sumP f (l.filter p) = sumP f l
  | [], _ => rfl
  | b :: l, h => by
    have ih := sumP_filter f p l fun x hx => h x (List.mem_cons_of_mem _ hx)
    cases hp : p b with
    | true => rw [List.filter_cons, if_pos hp]; simp only [sumP, ih]
    | false =>
      rw [List.filter_cons, if_neg (by rw [hp]; decide), ih]
      simp only [sumP, h b (by simp) hp]; omega
theorem off_far {x i s u : Int} (hs : 0 < s) (h : x / s = i) : offF u (i * s) (i * s + s - 1) ≤ max (x - u) (-(x - u)) := by
  obtain ⟨h1, h2⟩ := (div_iff hs).2 h
  unfold offF
  omega
theorem gap_far {c : Cfg} (ho : CfgOk c) {k : Int} (h0 : 0 ≤ k) (h1 : k < c.cols * c.rows) {b d : Bun} (hb : inW c b.x b.y = true) (hd : inW c d.x d.y = true) (hk : ofF c b.x b.y = k) : gapZ c k d.x d.y ≤ farF b.x b.y d.x d.y := by
  obtain ⟨e, a0, a1, b0, b1, m0, m1⟩ := ofF_in ho hb
  have s0 := ho.s0
  obtain ⟨hz, z1, z2, z3, z4⟩ := zone_rng ho h0 h1
  obtain ⟨p1, p2, p3, p4⟩ := ho.prod
  unfold inW at hb hd
  obtain ⟨x0, x1, y0, y1⟩ := of_decide_eq_true hb
  obtain ⟨u0, u1, v0, v1⟩ := of_decide_eq_true hd
  obtain ⟨c1, c2⟩ := col_row (cy := b.y / c.side) a0 a1
  rw [← e, hk] at c1 c2
  have o1 := off_far (x := b.x) (i := k % c.cols) (u := d.x) (s := c.side) (by omega) c1.symm
  have o2 := off_far (x := b.y) (i := k / c.cols) (u := d.y) (s := c.side) (by omega) c2.symm
  have hs1 := ho.s1
  unfold gapZ
  rw [hz]
  simp only
  generalize k % c.cols = i at *
  generalize k / c.cols = j at *
  unfold gapF boxOk farF
  rw [clampF_id b.x (by omega) (by omega), clampF_id b.y (by omega) (by omega), clampF_id d.x (by omega) (by omega), clampF_id d.y (by omega) (by omega), clampF_id (i * c.side) (by omega) (by omega), clampF_id (j * c.side) (by omega) (by omega), clampF_id (i * c.side + c.side) (by omega) (by omega), clampF_id (j * c.side + c.side) (by omega) (by omega)]
  rw [show (decide (i * c.side < i * c.side + c.side) && decide (j * c.side < j * c.side + c.side)) = true by simp; omega, if_pos rfl]
  omega
theorem part_len (c : Cfg) (k : Int) (l : List Bun) : (partF c k l).length ≤ l.length := List.length_filter_le _ _
theorem want_len (c : Cfg) (k : Int) (l : List Bun) : (wantF c k l).length ≤ l.length := List.length_filter_le _ _
/-- All others of the world. -/
def othF (c : Cfg) (k : Int) (l : List Bun) : List Bun := l.filter fun b => !(ofF c b.x b.y == k)
theorem want_oth (c : Cfg) (k : Int) (l : List Bun) : wantF c k l = (othF c k l).filter fun b => decide (gapZ c k b.x b.y ≤ c.radius) := by
  unfold wantF othF
  rw [List.filter_filter]
  refine List.filter_congr fun b _ => ?_
  unfold forB
  exact Bool.and_comm _ _
theorem hitOf_near {c : Cfg} (ho : CfgOk c) {k : Int} (h0 : 0 ≤ k) (h1 : k < c.cols * c.rows) {l own : List Bun} (hin : ∀ b ∈ l, inW c b.x b.y = true) (hp : ∀ b ∈ l, PwOk b) (hl : l.length ≤ 60) (hown : ∀ b ∈ own, PwOk b) (hol : own.length ≤ 60) {b : Bun} (hb : b ∈ l) (hk : ofF c b.x b.y = k) :
    hitOf c.radius own (stableF cmpBun (wantF c k l)) b = hitOf c.radius own (othF c k l) b := by
  have hsub : ∀ x ∈ othF c k l, x ∈ l := fun x hx => (List.mem_filter.1 hx).1
  have hsw : ∀ x ∈ stableF cmpBun (wantF c k l), x ∈ l := fun x hx => (List.mem_filter.1 ((stF_perm _).mem_iff.1 hx)).1
  have n1 : (stableF cmpBun (wantF c k l)).length ≤ 60 := by rw [(stF_perm _).length_eq]; exact Nat.le_trans (want_len c k l) hl
  have n2 : (othF c k l).length ≤ 60 := Nat.le_trans (List.length_filter_le _ _) hl
  have t1 := takesF_sum c.radius b own 0 hown (by omega) (by omega)
  have t2 := takesF_sum c.radius b (stableF cmpBun (wantF c k l)) (takesF c.radius b 0 own) (fun x hx => hp x (hsw x hx)) (by omega) (by omega)
  have t3 := takesF_sum c.radius b (othF c k l) (takesF c.radius b 0 own) (fun x hx => hp x (hsub x hx)) (by omega) (by omega)
  have e1 : sumP (powr c.radius b) (stableF cmpBun (wantF c k l)) = sumP (powr c.radius b) (othF c k l) := by
    rw [sumP_perm _ (stF_perm _), want_oth]
    refine sumP_filter _ _ _ fun d hd hg => ?_
    have hg' := of_decide_eq_false hg
    have := gap_far ho h0 h1 (hin b hb) (hin d (hsub d hd)) hk
    unfold powr takeC
    rw [show decide (farF b.x b.y d.x d.y ≤ c.radius) = false by simp; omega, Bool.and_false]
    rfl
  unfold hitOf
  rw [show takesF c.radius b (takesF c.radius b 0 own) (stableF cmpBun (wantF c k l)) = takesF c.radius b (takesF c.radius b 0 own) (othF c k l) by rw [t2.1, t3.1, e1]]
theorem filterMap_congr2 {α β : Type} {f g : α → Option β} : ∀ {l : List α}, (∀ x ∈ l, f x = g x) → l.filterMap f = l.filterMap g
  | [], _ => rfl
  | x :: l, h => by simp only [List.filterMap_cons, h x (by simp), filterMap_congr2 fun y hy => h y (List.mem_cons_of_mem _ hy)]
/-- With its ghosts a zone's entities take what they take with all others. -/
theorem hits_near {c : Cfg} (ho : CfgOk c) {k : Int} (h0 : 0 ≤ k) (h1 : k < c.cols * c.rows) {l : List Bun} (hin : ∀ b ∈ l, inW c b.x b.y = true) (hp : ∀ b ∈ l, PwOk b) (hl : l.length ≤ 60) :
    hitsF c.radius (stableF cmpBun (partF c k l)) (stableF cmpBun (wantF c k l)) = hitsF c.radius (stableF cmpBun (partF c k l)) (othF c k l) := by
  have hm : ∀ x ∈ stableF cmpBun (partF c k l), x ∈ l ∧ ofF c x.x x.y = k := fun x hx => by
    have := List.mem_filter.1 ((stF_perm _).mem_iff.1 hx)
    exact ⟨this.1, by simpa using this.2⟩
  unfold hitsF
  refine filterMap_congr2 fun b hb => ?_
  obtain ⟨m1, m2⟩ := hm b ((stF_perm _).mem_iff.1 hb)
  exact hitOf_near ho h0 h1 hin hp hl (fun x hx => hp x (hm x hx).1) (by rw [(stF_perm _).length_eq]; exact Nat.le_trans (part_len c k l) hl) m1 m2
end Go.Proofs.Ytcnclcfipabimaa
namespace Go.Proofs.Ytcnclcfipabimaa
open Go.RowKit Go.Sort
theorem livF_fit {c : Cfg} (ho : CfgOk c) {l : List Bun} (h : ∀ b ∈ l, BFit b) : ∀ b ∈ livF c l, BFit b := by
  have key : ∀ (ms o : List Bun), (∀ b ∈ ms, BFit b) → (∀ b ∈ o, BFit b) → ∀ b ∈ ms.foldl (fun o b => addU o (livB c b)) o, BFit b := fun ms => by
    induction ms with
    | nil => intro o _ h2; exact h2
    | cons x ms ih =>
      intro o h1 h2
      rw [List.foldl_cons]
      refine ih _ (fun b hb => h1 b (List.mem_cons_of_mem _ hb)) fun b hb => ?_
      unfold addU at hb
      split at hb
      · rcases List.mem_append.1 hb with hb | hb
        · exact h2 b hb
        · obtain rfl := List.mem_singleton.1 hb
          have hx := h1 x (by simp)
          have hi := inF_in ho x.x x.y
          obtain ⟨p1, p2, p3, p4⟩ := ho.prod
          unfold inW at hi
          obtain ⟨i0, i1, i2, i3⟩ := of_decide_eq_true hi
          unfold livB BFit at *
          simp only at *
          omega
      · exact h2 b hb
  exact key (l.take 60) [] (fun b hb => h b (List.mem_of_mem_take hb)) (fun b hb => by cases hb)
theorem livF_pw (c : Cfg) (l : List Bun) : ∀ b ∈ livF c l, PwOk b := fun b hb => rMay_pw b (livF_may c l b hb)
theorem hurt_eq {r : Int} {own n1 n2 : List Bun} (h : hitsF r own n1 = hitsF r own n2) : hurtL r own n1 = hurtL r own n2 ∧ hurtN r own n1 = hurtN r own n2 := by unfold hurtL hurtN; rw [h]; exact ⟨rfl, rfl⟩
/-- With the same hits a tick is the same. -/
theorem tick_eq {c : Cfg} {z : Int} {own n1 n2 : List Bun} {ms : List Cm} (h : hitsF c.radius own n1 = hitsF c.radius own n2) : ownL c z own n1 ms = ownL c z own n2 ms ∧ goneL c z own n1 ms = goneL c z own n2 ms ∧ deadN c z own n1 ms = deadN c z own n2 ms := by
  obtain ⟨h1, h2⟩ := hurt_eq h
  unfold ownL goneL deadN leftL midL
  rw [h1, h2]
  exact ⟨rfl, rfl, rfl⟩
/-- .. with its ghosts as with all others. -/
theorem tick_near {c : Cfg} (ho : CfgOk c) {k : Int} (h0 : 0 ≤ k) (h1 : k < c.cols * c.rows) (l : List Bun) (ms : List Cm) :
    ownL c k (stableF cmpBun (partF c k (livF c l))) (stableF cmpBun (saysF c k (livF c l) (besideF c k))) ms = ownL c k (stableF cmpBun (partF c k (livF c l))) (othF c k (livF c l)) ms ∧
    goneL c k (stableF cmpBun (partF c k (livF c l))) (stableF cmpBun (saysF c k (livF c l) (besideF c k))) ms = goneL c k (stableF cmpBun (partF c k (livF c l))) (othF c k (livF c l)) ms ∧
    deadN c k (stableF cmpBun (partF c k (livF c l))) (stableF cmpBun (saysF c k (livF c l) (besideF c k))) ms = deadN c k (stableF cmpBun (partF c k (livF c l))) (othF c k (livF c l)) ms := by
  rw [says_sorted ho h0 h1 (livF_in ho l) (livF_un c l)]
  exact tick_eq (hits_near ho h0 h1 (livF_in ho l) (livF_pw c l) (livF_len c l))
end Go.Proofs.Ytcnclcfipabimaa
namespace Go.Proofs.Ytcnclcfipabimaa
open Go.RowKit
theorem check_zero : checkB zeroB = false := by decide

theorem hurt_may (b : Bun) (n : Int) (h : checkB b = true) : checkB (hurtF b n).1 = (hurtF b n).2 := by
  unfold hurtF
  split
  · exact h
  · rename_i h1
    split
    · exact check_zero
    · rename_i h2
      simp only [not_or, Bool.not_eq_false] at h1
      show checkB { b with hp := b.hp - n } = true
      simp only [checkB, rightB, Bool.and_eq_true] at h ⊢
      obtain ⟨⟨⟨⟨⟨⟨⟨⟨⟨a1, a2⟩, a3⟩, a4⟩, a5⟩, a6⟩, a7⟩, a8⟩, a9⟩, a10⟩ := h
      refine ⟨⟨⟨⟨⟨⟨⟨⟨⟨a1, a2⟩, a3⟩, a4⟩, a5⟩, ?_⟩, a7⟩, a8⟩, a9⟩, a10⟩
      rw [h1.1] at a6 ⊢
      simp only [withinB, if_true, inR, Bool.and_eq_true, decide_eq_true_eq] at a6 ⊢
      omega
theorem hurt_le (b : Bun) (n : Int) : (hurtF b n).2 = true → (hurtF b n).1.hp ≤ b.hp := by
  unfold hurtF
  split
  · intro _; exact Int.le_refl _
  · rename_i h1
    split
    · intro h; cases h
    · intro _
      show b.hp - n ≤ b.hp
      omega
theorem age_may (b : Bun) (h : checkB b = true) : checkB (ageF b).1 = (ageF b).2 := by
  unfold ageF
  split
  · exact h
  · rename_i h1
    split
    · exact check_zero
    · rename_i h2
      simp only [Bool.not_eq_false] at h1
      show checkB { b with lf := b.lf - 1 } = true
      simp only [checkB, rightB, Bool.and_eq_true] at h ⊢
      obtain ⟨⟨⟨⟨⟨⟨⟨⟨⟨a1, a2⟩, a3⟩, a4⟩, a5⟩, a6⟩, a7⟩, a8⟩, a9⟩, a10⟩ := h
      refine ⟨⟨⟨⟨⟨⟨⟨⟨⟨a1, a2⟩, a3⟩, a4⟩, a5⟩, a6⟩, a7⟩, ?_⟩, a9⟩, a10⟩
      rw [h1] at a8 ⊢
      simp only [withinB, if_true, inR, Bool.and_eq_true, decide_eq_true_eq] at a8 ⊢
      omega
theorem age_le (b : Bun) : (ageF b).2 = true → (ageF b).1.lf ≤ b.lf := by
  unfold ageF
  split
  · intro _; exact Int.le_refl _
  · split
    · intro h; cases h
    · intro _
      show b.lf - 1 ≤ b.lf
      omega
theorem obey_may (b : Bun) (c : Cm) (h : checkB b = true) (hc : cmdB c = true) : checkB (obeyF b { c with s := b.s, i := b.i, g := b.g }).1 = (obeyF b { c with s := b.s, i := b.i, g := b.g }).2 := by
  have hid : idEq b.s b.i b.g b.s b.i b.g = true := by simp [idEq]
  simp only [obeyF, hid, Bool.true_eq_false, if_false]
  split
  · exact check_zero
  · split
    · rename_i h2 h3
      have h1 : (c.k == 1) = false := by simp; omega
      have h3' : (c.k == 3) = true := by simpa using h3
      simp only [cmdB, h1, h3', Bool.false_eq_true, if_false, if_true, Bool.and_eq_true] at hc
      exact check_with b c.b h hc.1.2
    · split
      · rename_i h2 h3 h4
        have h1 : (c.k == 1) = false := by simp; omega
        have h3' : (c.k == 3) = false := by simp; omega
        have h4' : (c.k == 4) = true := by simpa using h4
        simp only [cmdB, h1, h3', h4', Bool.false_eq_true, if_false, if_true, Bool.and_eq_true, someB] at hc
        show checkB (withoutF b c.mask) = true
        rw [check_without b c.mask h]
        exact hc.1.1.2
      · exact h


theorem rMay_s (s i g m x y vx vy hp pw lf : Int) (w : World) (hm : I64 m) :
    Calls Try.prog 54 #[.agg #[.int .i64 s, .int .i64 i, .int .i64 g, .int .i64 m, .int .i64 x, .int .i64 y, .int .i64 vx, .int .i64 vy, .int .i64 hp, .int .i64 pw, .int .i64 lf]] w fun e w' => e = .returned (.bool (checkB ⟨s, i, g, m, x, y, vx, vy, hp, pw, lf⟩)) ∧ Below w.heap.size w w' := by
  have h := rMay_any s i g m x y vx vy hp pw lf w hm.1 hm.2
  rw [checkB_eq] at h
  exact h
theorem rMayCmd_s (k s i g es ei eg m x y vx vy hp pw lf mask : Int) (w : World) (hm : I64 m) :
    Calls Try.prog 76 #[.agg #[.int .i64 k, .int .i64 s, .int .i64 i, .int .i64 g, .int .i64 es, .int .i64 ei, .int .i64 eg, .int .i64 m, .int .i64 x, .int .i64 y, .int .i64 vx, .int .i64 vy, .int .i64 hp, .int .i64 pw, .int .i64 lf, .int .i64 mask]] w fun e w' => e = .returned (.bool (cmdB ⟨k, s, i, g, ⟨es, ei, eg, m, x, y, vx, vy, hp, pw, lf⟩, mask⟩)) ∧ Below w.heap.size w w' := by
  have h := rMayCmd_any k s i g es ei eg m x y vx vy hp pw lf mask w hm.1 hm.2
  rw [cmdB_eq] at h
  exact h
end Go.Proofs.Ytcnclcfipabimaa
