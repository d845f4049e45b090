/-
  SystemsSplits, plain: of two parts, each with the other as others, the hits together are those of all. And the law's helpers: unlike, sum. Condition: the entities' numbers fit.
-/
import Derived.Test.YtloampfkjldmnaaShE
import Derived.Test.YtloampfkjldmnaaPaT
namespace Go.Proofs.Ytloampfkjldmnaa
open Go.RowKit Go.Sort

def powr (r : Int) (e c : Bun) : Int := if takeC r e c then c.pw else 0
def sumP (f : Bun → Int) : List Bun → Int
  | [] => 0
  | c :: l => f c + sumP f l
theorem sumP_app (f : Bun → Int) : ∀ (l l' : List Bun), sumP f (l ++ l') = sumP f l + sumP f l'
  | [], l' => by simp [sumP]
  | c :: l, l' => by simp only [List.cons_append, sumP, sumP_app f l l']; omega
theorem sumP_perm (f : Bun → Int) {l l' : List Bun} (h : l.Perm l') : sumP f l = sumP f l' := by
  induction h with
  | nil => rfl
  | cons x _ ih => simp only [sumP, ih]
  | swap x y l => simp only [sumP]; omega
  | trans _ _ h1 h2 => exact h1.trans h2
def PwOk (c : Bun) : Prop := 0 ≤ c.pw ∧ c.pw ≤ 1024
theorem takesF_sum (r : Int) (e : Bun) : ∀ (l : List Bun) (q : Int), (∀ c ∈ l, PwOk c) → 0 ≤ q → q + 1024 * l.length ≤ 1073741824 → takesF r e q l = q + sumP (powr r e) l ∧ 0 ≤ sumP (powr r e) l ∧ sumP (powr r e) l ≤ 1024 * l.length
  | [], q, _, _, _ => by simp [takesF, sumP]
  | c :: l, q, hp, h0, h1 => by
    obtain ⟨p0, p1⟩ := hp c (by simp)
    simp only [List.length_cons] at h1
    have hc : addF q c.pw = q + c.pw := by unfold addF; rw [clampF_id q (by omega) (by omega), clampF_id c.pw (by omega) (by omega), clampF_id _ (by omega) (by omega)]
    unfold takesF
    simp only [sumP, List.length_cons]
    unfold powr
    cases ht : takeC r e c with
    | true =>
      simp only [if_true]
      rw [hc]
      have ih := takesF_sum r e l (q + c.pw) (fun d hd => hp d (List.mem_cons_of_mem _ hd)) (by omega) (by omega)
      unfold powr at ih
      refine ⟨?_, ?_, ?_⟩ <;> omega
    | false =>
      simp only [Bool.false_eq_true, if_false]
      have ih := takesF_sum r e l q (fun d hd => hp d (List.mem_cons_of_mem _ hd)) h0 (by omega)
      unfold powr at ih
      refine ⟨?_, ?_, ?_⟩ <;> omega

theorem stableF_perm (l : List Bun) : (stableF cmpBun l).Perm l := by
  unfold stableF
  have h := (List.mergeSort_perm l.zipIdx fun x y => !ltT cmpBun y x).map fun x => x.1
  have e : l.zipIdx.map (fun x => x.1) = l := by simp
  exact h.trans (List.Perm.of_eq e)

theorem hitOf_split (r : Int) (l a b : List Bun) (hp : (a ++ b).Perm l) (hw : ∀ c ∈ l, PwOk c) (hl : l.length ≤ 60) (e : Bun) : hitOf r l [] e = hitOf r a b e := by
  have hlen := hp.length_eq
  simp only [List.length_append] at hlen
  have t1 := takesF_sum r e l 0 hw (by omega) (by omega)
  have t2 := takesF_sum r e a 0 (fun c hc => hw c (hp.mem_iff.1 (List.mem_append_left _ hc))) (by omega) (by omega)
  have t3 := takesF_sum r e b (takesF r e 0 a) (fun c hc => hw c (hp.mem_iff.1 (List.mem_append_right _ hc))) (by omega) (by omega)
  have t4 := sumP_perm (powr r e) hp
  rw [sumP_app] at t4
  have t5 : takesF r e (takesF r e 0 l) [] = takesF r e (takesF r e 0 a) b := by
    show takesF r e 0 l = _
    omega
  unfold hitOf
  rw [t5]
theorem hits_split (r : Int) (l a b : List Bun) (hp : (a ++ b).Perm l) (hw : ∀ c ∈ l, PwOk c) (hl : l.length ≤ 60) : (hitsF r l []).Perm (hitsF r a b ++ hitsF r b a) := by
  have e1 : hitOf r l [] = hitOf r a b := funext fun e => hitOf_split r l a b hp hw hl e
  have e2 : hitOf r l [] = hitOf r b a := funext fun e => hitOf_split r l b a (List.perm_append_comm.trans hp) hw hl e
  unfold hitsF
  have h1 := (stableF_perm l).filterMap (hitOf r l [])
  have h2 := hp.symm.filterMap (hitOf r l [])
  rw [List.filterMap_append] at h2
  refine h1.trans (h2.trans ?_)
  have h3 := ((stableF_perm a).symm.filterMap (hitOf r l []))
  have h4 := ((stableF_perm b).symm.filterMap (hitOf r l []))
  rw [← e1, ← e2]
  exact h3.append h4

def sumH (s i g : Int) : List Hit → Int
  | [] => 0
  | h :: l => (if idEq h.s h.i h.g s i g then h.n else 0) + sumH s i g l
theorem sumH_app (s i g : Int) : ∀ (l l' : List Hit), sumH s i g (l ++ l') = sumH s i g l + sumH s i g l'
  | [], l' => by simp [sumH]
  | c :: l, l' => by simp only [List.cons_append, sumH, sumH_app s i g l l']; omega
theorem sumH_perm (s i g : Int) {l l' : List Hit} (h : l.Perm l') : sumH s i g l = sumH s i g l' := by
  induction h with
  | nil => rfl
  | cons x _ ih => simp only [sumH, ih]
  | swap x y l => simp only [sumH]; omega
  | trans _ _ h1 h2 => exact h1.trans h2
def HnOk (h : Hit) : Prop := 0 ≤ h.n ∧ h.n ≤ 1073741824
theorem sumH_rng (s i g : Int) : ∀ (l : List Hit), (∀ h ∈ l, HnOk h) → 0 ≤ sumH s i g l ∧ sumH s i g l ≤ 1073741824 * l.length
  | [], _ => by simp [sumH]
  | c :: l, h => by
    obtain ⟨h0, h1⟩ := h c (by simp)
    have ih := sumH_rng s i g l fun d hd => h d (List.mem_cons_of_mem _ hd)
    simp only [sumH, List.length_cons]
    split <;> omega
theorem hitsF_ok (r : Int) (l a : List Bun) : (∀ h ∈ hitsF r l a, HnOk h) ∧ (hitsF r l a).length ≤ l.length := by
  constructor
  · intro h hh
    obtain ⟨b, _, hb⟩ := List.mem_filterMap.1 hh
    have h1 := takesF_rng r b l 0 (by omega)
    have h2 := takesF_rng r b a _ h1
    unfold hitOf at hb
    split at hb
    · split at hb
      · cases hb; exact ⟨by simp only; omega, h2.2⟩
      · cases hb
    · cases hb
  · have := List.length_filterMap_le (hitOf r l a) (stableF cmpBun l)
    rw [stableF_len] at this
    exact this
theorem rMay_pw (b : Bun) (h : rMayB b = true) : PwOk b := by
  unfold rMayB rRightB at h
  simp only [Bool.and_eq_true] at h
  have h1 := h.1.2.1.2
  unfold withinB inR at h1
  unfold PwOk
  split at h1
  · simp only [Bool.and_eq_true, decide_eq_true_eq] at h1; omega
  · have := eq_of_beq h1; omega
end Go.Proofs.Ytloampfkjldmnaa
