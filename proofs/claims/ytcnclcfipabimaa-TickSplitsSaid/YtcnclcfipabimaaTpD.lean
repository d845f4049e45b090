/-
  Plain: what a tick leaves does not hang on the order of its entities. No program here. Condition: nobody's power is below nothing.
-/
import Derived.Test.YtcnclcfipabimaaMpa
import Derived.Test.YtcnclcfipabimaaMtg
namespace Go.Proofs.Ytcnclcfipabimaa
open Go.RowKit Go.Sort
def powc (r : Int) (e c : Bun) : Int := if takeC r e c then min 1073741824 c.pw else 0
theorem addF_min {q p : Int} (h0 : 0 ≤ q) (h1 : q ≤ 1073741824) (hp : 0 ≤ p) : addF q p = min 1073741824 (q + min 1073741824 p) := by
  unfold addF clampF
  omega
theorem takesF_min (r : Int) (e : Bun) : ∀ (l : List Bun) (q : Int), 0 ≤ q → q ≤ 1073741824 → (∀ c ∈ l, 0 ≤ c.pw) → takesF r e q l = min 1073741824 (q + sumP (powc r e) l) ∧ 0 ≤ sumP (powc r e) l
  | [], q, h0, h1, _ => by simp only [takesF, sumP]; omega
  | c :: l, q, h0, h1, h => by
    have hc := h c (by simp)
    unfold takesF
    simp only [sumP]
    cases ht : takeC r e c with
    | true =>
      rw [if_pos rfl]
      have ha := addF_min h0 h1 hc
      obtain ⟨e1, e2⟩ := takesF_min r e l (addF q c.pw) (by rw [ha]; omega) (by rw [ha]; omega) fun x hx => h x (List.mem_cons_of_mem _ hx)
      rw [e1, ha]
      have hp : powc r e c = min 1073741824 c.pw := by unfold powc; rw [if_pos ht]
      rw [hp]
      omega
    | false =>
      rw [if_neg (by simp)]
      obtain ⟨e1, e2⟩ := takesF_min r e l q h0 h1 fun x hx => h x (List.mem_cons_of_mem _ hx)
      have hp : powc r e c = 0 := by unfold powc; rw [if_neg (by simp [ht])]
      rw [e1, hp]
      omega
theorem hitOf_perm (r : Int) {own own' oth oth' : List Bun} (hp : own.Perm own') (hq : oth.Perm oth') (h1 : ∀ c ∈ own, 0 ≤ c.pw) (h2 : ∀ c ∈ oth, 0 ≤ c.pw) (b : Bun) : hitOf r own oth b = hitOf r own' oth' b := by
  have a1 := takesF_min r b own 0 (by omega) (by omega) h1
  have a2 := takesF_min r b oth (takesF r b 0 own) (by rw [a1.1]; omega) (by rw [a1.1]; omega) h2
  have b1 := takesF_min r b own' 0 (by omega) (by omega) fun c hc => h1 c (hp.mem_iff.2 hc)
  have b2 := takesF_min r b oth' (takesF r b 0 own') (by rw [b1.1]; omega) (by rw [b1.1]; omega) fun c hc => h2 c (hq.mem_iff.2 hc)
  have e : takesF r b (takesF r b 0 own) oth = takesF r b (takesF r b 0 own') oth' := by
    rw [a2.1, b2.1, a1.1, b1.1, sumP_perm _ hp, sumP_perm _ hq]
  unfold hitOf
  rw [e]
theorem hits_perm (r : Int) {own own' oth oth' : List Bun} (hu : UnId own) (hp : own.Perm own') (hq : oth.Perm oth') (h1 : ∀ c ∈ own, 0 ≤ c.pw) (h2 : ∀ c ∈ oth, 0 ≤ c.pw) : hitsF r own oth = hitsF r own' oth' := by
  unfold hitsF
  rw [stF_eq hp hu]
  exact filterMap_congr2 fun x _ => hitOf_perm r hp hq h1 h2 x
theorem tick_perm (c : Cfg) (z : Int) {own own' near near' : List Bun} (ms : List Cm) (hu : UnId own) (hp : own.Perm own') (hq : near.Perm near') (h1 : ∀ b ∈ own, 0 ≤ b.pw) (h2 : ∀ b ∈ near, 0 ≤ b.pw) :
    ownL c z own near ms = ownL c z own' near' ms ∧ goneL c z own near ms = goneL c z own' near' ms ∧ deadN c z own near ms = deadN c z own' near' ms := by
  have e1 := hits_perm c.radius hu hp hq h1 h2
  have e2 := stF_eq hp hu
  have m1 : hurtL c.radius own near = hurtL c.radius own' near' := by unfold hurtL; rw [e1, e2]
  have m2 : hurtN c.radius own near = hurtN c.radius own' near' := by unfold hurtN; rw [e1, e2]
  have m3 : midL c z own near ms = midL c z own' near' ms := by unfold midL; rw [m1]
  refine ⟨?_, ?_, ?_⟩
  · unfold ownL leftL; rw [m3]
  · unfold goneL leftL; rw [m3]
  · unfold deadN; rw [m1, m2, m3]
end Go.Proofs.Ytcnclcfipabimaa
