/-
  The stable sort, plain: from blocks to blocks of twice the size. No program here. No condition.
-/
import Derived.Test.YtloampfkjldmnaaSoF
namespace Go.Proofs.Ytloampfkjldmnaa
open Go.Sort Go.Proofs
variable {β : Type} [Inhabited β] {cf : β → β → Int} {d d' : Array (β × Nat)}

theorem tags_ne {a b : Nat} (hp : PermIn a b d d') (hb : b ≤ d.size) (h : ∀ i j, a ≤ i → i < j → j < b → d[i]!.2 ≠ d[j]!.2) : ∀ i j, a ≤ i → i < j → j < b → d'[i]!.2 ≠ d'[j]!.2 := by
  have e1 := extract_toList d a b hb
  have e2 := extract_toList d' a b (by rw [hp.1]; exact hb)
  have p1 : List.Pairwise (fun x y : β × Nat => x.2 ≠ y.2) (d.extract a b).toList := by
    rw [e1, List.pairwise_iff_getElem]
    intro i j hi hj hij
    simp at hi hj
    simp
    exact h _ _ (by omega) (by omega) (by omega)
  have p2 := (hp.2.2.symm.pairwise_iff (R := fun x y : β × Nat => x.2 ≠ y.2) (fun h => Ne.symm h)).1 p1
  rw [e2, List.pairwise_iff_getElem] at p2
  intro i j h1 h2 h3
  have := p2 (i - a) (j - a) (by simp; omega) (by simp; omega) (by omega)
  simp at this
  rwa [show a + (i - a) = i by omega, show a + (j - a) = j by omega] at this

/-- Insertion of a block as it stood makes a block of it. -/
theorem blk_ins (h : CmpOk cf) {a b : Nat} (hab : a ≤ b) (hb : b ≤ d.size) (ht : ∀ t, a ≤ t → t < b → d[t]!.2 = t) :
    PermIn a b d (insertionSort (ltOf (cfT cf)) d a b) ∧ Blk cf a b (insertionSort (ltOf (cfT cf)) d a b) := by
  obtain ⟨p, s⟩ := ins_block h d hab hb (fun t u h1 h2 h3 => by rw [ht t h1 (by omega), ht u (by omega) h3]; exact h2)
  refine ⟨p, permIn_all d _ a b (fun y => a ≤ y.2 ∧ y.2 < b) hb p (fun i h1 h2 => by rw [ht i h1 h2]; exact ⟨h1, h2⟩), asc_of h s (tags_ne p hb fun i j h1 h2 h3 => ?_)⟩
  rw [ht i h1 (by omega), ht j (by omega) h3]
  omega

theorem blks2_step {B n A j : Nat} (hA : A = j * B) (h : Blks2 cf B n A d) (he : ∀ t, t < A → d'[t]! = d[t]!) (hn : Blk cf A (min (A + B) n) d') : Blks2 cf B n (A + B) d' := by
  intro i h1 h2
  by_cases hij : i < j
  · have h3 : (i + 1) * B ≤ j * B := Nat.mul_le_mul_right B hij
    rw [Nat.add_mul, Nat.one_mul, ← hA] at h3
    by_cases hB : B = 0
    · subst hB; simp at hA; subst hA; exact (h i (by omega) h2).keep fun t _ t2 => he t (by omega)
    · exact (h i (by omega) h2).keep fun t _ t2 => he t (by omega)
  · by_cases hji : i = j
    · subst hji; rw [← hA]; exact hn
    · have h3 : (j + 1) * B ≤ i * B := Nat.mul_le_mul_right B (by omega)
      rw [Nat.add_mul, Nat.one_mul, ← hA] at h3
      omega
theorem blks2_nil (B n : Nat) : Blks2 cf B n 0 d := fun _ h1 => absurd h1 (Nat.not_lt_zero _)
theorem blks2_all {B n A : Nat} (h : Blks2 cf B n A d) (hA : n ≤ A) : Blks cf B n 0 d := fun i _ h2 => h i (by omega) h2
theorem blks_mono {B n A A' : Nat} (h : Blks cf B n A d) (hA : A ≤ A') (he : ∀ t, A' ≤ t → d'[t]! = d[t]!) : Blks cf B n A' d' := fun i h1 h2 => (h i (by omega) h2).keep fun t t1 _ => he t (by omega)
/-- The two blocks that come next. -/
theorem blks_two {B n A j : Nat} (hA : A = j * (2 * B)) (h : Blks cf B n A d) (hn : A + B < n) : Blk cf A (A + B) d ∧ Blk cf (A + B) (min (A + 2 * B) n) d := by
  have e1 : A = (2 * j) * B := by rw [hA, Nat.mul_left_comm, Nat.mul_assoc]
  have e2 : A + B = (2 * j + 1) * B := by rw [Nat.add_mul, Nat.one_mul, ← e1]
  have h1 := h (2 * j) (by omega) (by omega)
  have h2 := h (2 * j + 1) (by omega) (by omega)
  rw [← e1, Nat.min_eq_left (by omega)] at h1
  rw [← e2, show A + B + B = A + 2 * B by omega] at h2
  exact ⟨h1, h2⟩
/-- .. the one that is left alone is a block of twice the size. -/
theorem blks_one {B n A j : Nat} (hA : A = j * (2 * B)) (h : Blks cf B n A d) (h1 : A < n) (h2 : n ≤ A + B) : Blk cf A (min (A + 2 * B) n) d := by
  have e1 : A = (2 * j) * B := by rw [hA, Nat.mul_left_comm, Nat.mul_assoc]
  have h3 := h (2 * j) (by omega) (by omega)
  rw [← e1, Nat.min_eq_right (by omega)] at h3
  rw [Nat.min_eq_right (by omega)]
  exact h3
theorem blks_whole {B n : Nat} (h : Blks cf B n 0 d) (hB : n ≤ B) : Asc (ltT cf) 0 n d := by
  intro i j h1 h2 h3
  have h4 := h 0 (by omega) (by omega)
  rw [Nat.zero_mul, Nat.zero_add, Nat.min_eq_right hB] at h4
  exact h4.2 i j h1 h2 h3
end Go.Proofs.Ytloampfkjldmnaa
