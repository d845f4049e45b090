/-
  Chapter texts SoF SoG: what the claim reaches of them. Conditions stand at each theorem.
-/
import Derived.Shelf.SlSortCmp.Insertion
import Derived.Test.YtmkfjelpekkmmaaQ13
namespace Go.Proofs.Ytmkfjelpekkmmaa
open Go.Sort Go.Proofs
variable {β : Type}

def ltT (cf : β → β → Int) (x y : β × Nat) : Bool := decide (cf x.1 y.1 < 0) || (decide (cf x.1 y.1 = 0) && decide (x.2 < y.2))
def cfT (cf : β → β → Int) (x y : β × Nat) : Int := cf x.1 y.1

structure CmpOk (cf : β → β → Int) : Prop where
  neg : ∀ x y, cf x y < 0 ↔ 0 < cf y x
  zero : ∀ x y, cf x y = 0 ↔ cf y x = 0
  trans : ∀ x y z, cf x y ≤ 0 → cf y z ≤ 0 → cf x z ≤ 0
  transl : ∀ x y z, cf x y < 0 → cf y z ≤ 0 → cf x z < 0
  transr : ∀ x y z, cf x y ≤ 0 → cf y z < 0 → cf x z < 0

theorem CmpOk.self {cf : β → β → Int} (h : CmpOk cf) (x : β) : cf x x = 0 := by
  have := h.neg x x
  omega
theorem ltT_iff {cf : β → β → Int} (x y : β × Nat) : ltT cf x y = true ↔ cf x.1 y.1 < 0 ∨ (cf x.1 y.1 = 0 ∧ x.2 < y.2) := by
  unfold ltT; simp
theorem ltT_swo {cf : β → β → Int} (h : CmpOk cf) : SWO (ltT cf) where
  irrefl x := by
    have := h.self x.1
    rw [Bool.eq_false_iff]; intro e; rw [ltT_iff] at e; omega
  trans x y z h1 h2 := by
    rw [ltT_iff] at *
    have t1 := h.trans x.1 y.1 z.1
    have t2 := h.transl x.1 y.1 z.1
    have t3 := h.transr x.1 y.1 z.1
    omega
  ntrans x y z h1 h2 := by
    rw [Bool.eq_false_iff] at *
    intro e
    rw [ne_eq, ltT_iff] at h1 h2
    rw [ltT_iff] at e
    have n1 := h.neg x.1 y.1
    have n2 := h.neg y.1 z.1
    have n3 := h.neg x.1 z.1
    have n1' := h.neg y.1 x.1
    have n2' := h.neg z.1 y.1
    have n3' := h.neg z.1 x.1
    have t1 := h.trans z.1 y.1 x.1
    have t2 := h.transl z.1 y.1 x.1
    have t3 := h.transr z.1 y.1 x.1
    have z1 := h.zero x.1 y.1
    have z2 := h.zero y.1 z.1
    have z3 := h.zero x.1 z.1
    omega
theorem ltT_total {cf : β → β → Int} (h : CmpOk cf) {x y : β × Nat} (hn : x.2 < y.2) : ltT cf y x = decide (cf y.1 x.1 < 0) ∧ ltT cf x y = !decide (cf y.1 x.1 < 0) := by
  have n1 := h.neg x.1 y.1
  have n2 := h.neg y.1 x.1
  have z1 := h.zero x.1 y.1
  constructor
  · rw [Bool.eq_iff_iff, ltT_iff, decide_eq_true_iff]; omega
  · rw [Bool.eq_iff_iff, ltT_iff, Bool.not_eq_true', decide_eq_false_iff_not]; omega

variable [Inhabited β]
section
variable {cf : β → β → Int} {a b : Nat}

theorem insInner_tag (h : CmpOk cf) (a : Nat) : ∀ (j : Nat) (d : Array (β × Nat)), j < d.size → (∀ t, a ≤ t → t < j → d[t]!.2 < d[j]!.2) → insInner (ltOf (cfT cf)) a j d = insInner (ltT cf) a j d
  | 0, d, _, _ => by rw [insInner_stop _ _ _ _ (.inl (Nat.zero_le _)), insInner_stop _ _ _ _ (.inl (Nat.zero_le _))]
  | j + 1, d, hj, ht => by
    by_cases hja : j + 1 ≤ a
    · rw [insInner_stop _ _ _ _ (.inl hja), insInner_stop _ _ _ _ (.inl hja)]
    · have e0 : ltOf (cfT cf) d[j + 1]! d[j]! = ltT cf d[j + 1]! d[j]! := ((ltT_total h (ht j (by omega) (by omega))).1).symm
      cases hv : ltT cf d[j + 1]! d[j]! with
      | false =>
        rw [insInner_stop _ _ _ _ (.inr (by rw [Nat.add_sub_cancel, e0, hv])), insInner_stop _ _ _ _ (.inr (by rw [Nat.add_sub_cancel, hv]))]
      | true =>
        have g1 := insInner_go (ltOf (cfT cf)) a (j + 1) d (by omega) (by rw [Nat.add_sub_cancel, e0, hv])
        have g2 := insInner_go (ltT cf) a (j + 1) d (by omega) (by rw [Nat.add_sub_cancel, hv])
        rw [Nat.add_sub_cancel] at g1 g2
        rw [g1, g2]
        refine insInner_tag h a j _ (by rw [size_swp]; omega) fun t h1 h2 => ?_
        rw [swp_other _ _ _ _ (by omega) (by omega), swp_right d (j + 1) j (by omega)]
        exact ht t h1 (by omega)

theorem insOuter_tag (h : CmpOk cf) (a b : Nat) : ∀ (n i : Nat) (d : Array (β × Nat)), b - i = n → a < i → b ≤ d.size → (∀ t u, a ≤ t → t < u → i ≤ u → u < b → d[t]!.2 < d[u]!.2) → SortedIn (ltT cf) a i d →
    insOuter (ltOf (cfT cf)) a b i d = insOuter (ltT cf) a b i d
  | n, i, d, hn, hai, hb, ht, hso => by
    by_cases hib : i < b
    · rw [insOuter_go _ _ _ _ _ hib, insOuter_go _ _ _ _ _ hib, insInner_tag h a i d (by omega) (fun t h1 h2 => ht t i h1 h2 (Nat.le_refl i) hib)]
      have hsw := ltT_swo h
      have hp := insInner_spec hsw swp_permIn permIn_refl permIn_trans a (i + 1) i (Nat.lt_succ_self i) i d (by omega) (Nat.le_refl i) (by omega) ⟨fun p q h1 h2 h3 h4 h5 => hso p q h1 h2 (by omega), fun p h1 h2 => by omega⟩
      have hp1 := hp.1
      have hs1 := hp1.1
      match n, hn with
      | 0, hn => omega
      | n + 1, hn =>
        refine insOuter_tag h a b n (i + 1) _ (by omega) (by omega) (by omega) (fun t u h1 h2 h3 h4 => ?_) hp.2
        rw [hp1.2.1 u (.inr (by omega))]
        by_cases hti : t < i + 1
        · refine permIn_all _ _ a (i + 1) (fun y => y.2 < d[u]!.2) (by omega) hp1 (fun v v1 v2 => ht v u v1 (by omega) (by omega) h4) t h1 hti
        · rw [hp1.2.1 t (.inr (by omega))]
          exact ht t u h1 h2 (by omega) h4
    · rw [insOuter_stop _ _ _ _ _ hib, insOuter_stop _ _ _ _ _ hib]

theorem ins_block (h : CmpOk cf) (d : Array (β × Nat)) (hab : a ≤ b) (hb : b ≤ d.size) (ht : ∀ t u, a ≤ t → t < u → u < b → d[t]!.2 < d[u]!.2) :
    PermIn a b d (insertionSort (ltOf (cfT cf)) d a b) ∧ SortedIn (ltT cf) a b (insertionSort (ltOf (cfT cf)) d a b) := by
  have e : insertionSort (ltOf (cfT cf)) d a b = insertionSort (ltT cf) d a b := by
    unfold insertionSort
    exact insOuter_tag h a b _ (a + 1) d rfl (by omega) hb (fun t u h1 h2 _ h4 => ht t u h1 h2 h4) fun p q h1 h2 h3 => by omega
  rw [e]
  exact insertionSort_holds (ltT_swo h) d a b hab hb

def Blk (cf : β → β → Int) (lo hi : Nat) (d : Array (β × Nat)) : Prop := (∀ p, lo ≤ p → p < hi → lo ≤ d[p]!.2 ∧ d[p]!.2 < hi) ∧ Asc (ltT cf) lo hi d

theorem asc_of (h : CmpOk cf) {d : Array (β × Nat)} (hs : SortedIn (ltT cf) a b d) (hn : ∀ i j, a ≤ i → i < j → j < b → d[i]!.2 ≠ d[j]!.2) : Asc (ltT cf) a b d := by
  intro i j h1 h2 h3
  have h4 := hs i j h1 h2 h3
  rcases Nat.lt_or_gt_of_ne (hn i j h1 h2 h3) with hlt | hgt
  · have t := ltT_total h (x := d[i]!) (y := d[j]!) hlt
    rw [t.2, ← t.1, h4]; rfl
  · have t := ltT_total h (x := d[j]!) (y := d[i]!) hgt
    rw [t.2] at h4
    rw [t.1]
    simpa using h4

def Blks (cf : β → β → Int) (bs n a : Nat) (d : Array (β × Nat)) : Prop := ∀ i, a ≤ i * bs → i * bs < n → Blk cf (i * bs) (min (i * bs + bs) n) d
def Blks2 (cf : β → β → Int) (bs n b : Nat) (d : Array (β × Nat)) : Prop := ∀ i, i * bs < b → i * bs < n → Blk cf (i * bs) (min (i * bs + bs) n) d

theorem Blk.keep {lo hi : Nat} {d d' : Array (β × Nat)} (h : Blk cf lo hi d) (he : ∀ t, lo ≤ t → t < hi → d'[t]! = d[t]!) : Blk cf lo hi d' := by
  refine ⟨fun p h1 h2 => by rw [he p h1 h2]; exact h.1 p h1 h2, fun i j h1 h2 h3 => ?_⟩
  rw [he i h1 (by omega), he j (by omega) h3]
  exact h.2 i j h1 h2 h3

theorem blk_pre (h : CmpOk cf) {m : Nat} {d : Array (β × Nat)} (h1 : a ≤ m) (h2 : m ≤ b) (hb : b ≤ d.size) (k1 : Blk cf a m d) (k2 : Blk cf m b d) : MPre (cfT cf) (ltT cf) d a m b := by
  refine ⟨h1, h2, hb, k1.2, k2.2, fun i j q1 q2 q3 q4 => ?_, fun i j q1 q2 q3 q4 => ?_⟩
  · exact (ltT_total h (x := d[i]!) (y := d[j]!) (by have := (k1.1 i q1 q2).2; have := (k2.1 j q3 q4).1; omega)).1
  · exact (ltT_total h (x := d[i]!) (y := d[j]!) (by have := (k1.1 i q1 q2).2; have := (k2.1 j q3 q4).1; omega)).2
theorem blk_post {m : Nat} {d d' : Array (β × Nat)} (h1 : a ≤ m) (h2 : m ≤ b) (hb : b ≤ d.size) (k1 : Blk cf a m d) (k2 : Blk cf m b d) (hp : MPost (ltT cf) d a b d') : Blk cf a b d' := by
  refine ⟨permIn_all d d' a b (fun y => a ≤ y.2 ∧ y.2 < b) hb hp.1 fun i q1 q2 => ?_, hp.2⟩
  by_cases hi : i < m
  · have := k1.1 i q1 hi; omega
  · have := k2.1 i (by omega) q2; omega
end

def tagd (l : List β) : Array (β × Nat) := l.zipIdx.toArray
omit [Inhabited β] in
theorem size_tagd (l : List β) : (tagd l).size = l.length := by simp [tagd]
theorem tagd_get (l : List β) {t : Nat} (h : t < l.length) : (tagd l)[t]! = (l[t], t) := by
  rw [getElem!_pos (tagd l) t (by rw [size_tagd]; exact h)]
  simp [tagd]
def stableF (cf : β → β → Int) (l : List β) : List β := (l.zipIdx.mergeSort fun x y => !ltT cf y x).map fun x => x.1
theorem stable_of {cf : β → β → Int} (h : CmpOk cf) {l : List β} {d : Array (β × Nat)} (hp : PermIn 0 l.length (tagd l) d) (hb : Asc (ltT cf) 0 l.length d) : d.toList.map (fun x => x.1) = stableF cf l := by
  have hs := hp.1
  rw [size_tagd] at hs
  unfold stableF
  have hsz : l.length = (tagd l).size := (size_tagd l).symm
  have hS := ltT_swo h
  congr 1
  have e1 : d.extract 0 l.length = d := by rw [← hs]; exact Array.extract_size
  have e2 : (tagd l).extract 0 l.length = tagd l := by rw [hsz]; exact Array.extract_size
  have hperm := hp.2.2
  rw [e1, e2] at hperm
  refine List.Perm.eq_of_pairwise (le := fun x y => (!ltT cf y x) = true) ?_ ?_ ?_ ((hperm.trans (List.Perm.of_eq (by simp [tagd]))).trans (List.mergeSort_perm _ _).symm)
  · intro x y hx hy h1 h2
    simp only [Bool.not_eq_true'] at h1 h2
    have mx : x ∈ l.zipIdx := by have := hperm.mem_iff.1 hx; simpa [tagd] using this
    have my : y ∈ l.zipIdx := (List.mergeSort_perm _ _).mem_iff.1 hy
    by_cases hxy : x.2 = y.2
    · have q1 := List.mem_zipIdx_iff_getElem?.1 mx
      have q2 := List.mem_zipIdx_iff_getElem?.1 my
      rw [hxy] at q1
      have q3 := q1.symm.trans q2
      exact Prod.ext (Option.some.inj q3) hxy
    · rcases Nat.lt_or_gt_of_ne hxy with hlt | hgt
      · have t := ltT_total h hlt
        rw [t.1] at h1; rw [t.2] at h2; simp at h1 h2; omega
      · have t := ltT_total h hgt
        rw [t.1] at h2; rw [t.2] at h1; simp at h1 h2; omega
  · rw [List.pairwise_iff_getElem]
    intro i j hi hj hij
    have hi' : i < d.size := by simpa using hi
    have hj' : j < d.size := by simpa using hj
    have := hS.asymmA (hb i j (Nat.zero_le _) hij (by omega))
    rw [getElem!_pos d j hj', getElem!_pos d i hi'] at this
    simpa using this
  · refine List.pairwise_mergeSort ?_ ?_ _
    · intro x y z h1 h2
      simp only [Bool.not_eq_true'] at h1 h2 ⊢
      exact hS.ntrans z y x h2 h1
    · intro x y
      cases hh : ltT cf y x with
      | false => simp
      | true => simp [hS.asymmA hh]
end Go.Proofs.Ytmkfjelpekkmmaa
namespace Go.Proofs.Ytmkfjelpekkmmaa
open Go.Sort Go.Proofs
variable {β : Type} [Inhabited β] {cf : β → β → Int} {d d' : Array (β × Nat)}

theorem tags_ne {a b : Nat} (hp : PermIn a b d d') (hb : b ≤ d.size) (h : ∀ i j, a ≤ i → i < j → j < b → d[i]!.2 ≠ d[j]!.2) : ∀ i j, a ≤ i → i < j → j < b → d'[i]!.2 ≠ d'[j]!.2 := by
  have e1 := extract_toList d a b hb
  have e2 := extract_toList d' a b (by rw [hp.1]; exact hb)
  have p1 : List.Pairwise (fun x y : β × Nat => x.2 ≠ y.2) (d.extract a b).toList := by
    rw [e1, List.pairwise_iff_getElem]
    intro i j hi hj hij
    simp at hi hj
    simp
    exact h _ _ (by omega) (by omega) (by omega)
  have p2 := (hp.2.2.symm.pairwise_iff (R := fun x y : β × Nat => x.2 ≠ y.2) (fun h => Ne.symm h)).1 p1
  rw [e2, List.pairwise_iff_getElem] at p2
  intro i j h1 h2 h3
  have := p2 (i - a) (j - a) (by simp; omega) (by simp; omega) (by omega)
  simp at this
  rwa [show a + (i - a) = i by omega, show a + (j - a) = j by omega] at this

theorem blk_ins (h : CmpOk cf) {a b : Nat} (hab : a ≤ b) (hb : b ≤ d.size) (ht : ∀ t, a ≤ t → t < b → d[t]!.2 = t) :
    PermIn a b d (insertionSort (ltOf (cfT cf)) d a b) ∧ Blk cf a b (insertionSort (ltOf (cfT cf)) d a b) := by
  obtain ⟨p, s⟩ := ins_block h d hab hb (fun t u h1 h2 h3 => by rw [ht t h1 (by omega), ht u (by omega) h3]; exact h2)
  refine ⟨p, permIn_all d _ a b (fun y => a ≤ y.2 ∧ y.2 < b) hb p (fun i h1 h2 => by rw [ht i h1 h2]; exact ⟨h1, h2⟩), asc_of h s (tags_ne p hb fun i j h1 h2 h3 => ?_)⟩
  rw [ht i h1 (by omega), ht j (by omega) h3]
  omega

theorem blks2_step {B n A j : Nat} (hA : A = j * B) (h : Blks2 cf B n A d) (he : ∀ t, t < A → d'[t]! = d[t]!) (hn : Blk cf A (min (A + B) n) d') : Blks2 cf B n (A + B) d' := by
  intro i h1 h2
  by_cases hij : i < j
  · have h3 : (i + 1) * B ≤ j * B := Nat.mul_le_mul_right B hij
    rw [Nat.add_mul, Nat.one_mul, ← hA] at h3
    by_cases hB : B = 0
    · subst hB; simp at hA; subst hA; exact (h i (by omega) h2).keep fun t _ t2 => he t (by omega)
    · exact (h i (by omega) h2).keep fun t _ t2 => he t (by omega)
  · by_cases hji : i = j
    · subst hji; rw [← hA]; exact hn
    · have h3 : (j + 1) * B ≤ i * B := Nat.mul_le_mul_right B (by omega)
      rw [Nat.add_mul, Nat.one_mul, ← hA] at h3
      omega
theorem blks2_nil (B n : Nat) : Blks2 cf B n 0 d := fun _ h1 => absurd h1 (Nat.not_lt_zero _)
theorem blks2_all {B n A : Nat} (h : Blks2 cf B n A d) (hA : n ≤ A) : Blks cf B n 0 d := fun i _ h2 => h i (by omega) h2
theorem blks_mono {B n A A' : Nat} (h : Blks cf B n A d) (hA : A ≤ A') (he : ∀ t, A' ≤ t → d'[t]! = d[t]!) : Blks cf B n A' d' := fun i h1 h2 => (h i (by omega) h2).keep fun t t1 _ => he t (by omega)
theorem blks_two {B n A j : Nat} (hA : A = j * (2 * B)) (h : Blks cf B n A d) (hn : A + B < n) : Blk cf A (A + B) d ∧ Blk cf (A + B) (min (A + 2 * B) n) d := by
  have e1 : A = (2 * j) * B := by rw [hA, Nat.mul_left_comm, Nat.mul_assoc]
  have e2 : A + B = (2 * j + 1) * B := by rw [Nat.add_mul, Nat.one_mul, ← e1]
  have h1 := h (2 * j) (by omega) (by omega)
  have h2 := h (2 * j + 1) (by omega) (by omega)
  rw [← e1, Nat.min_eq_left (by omega)] at h1
  rw [← e2, show A + B + B = A + 2 * B by omega] at h2
  exact ⟨h1, h2⟩
theorem blks_one {B n A j : Nat} (hA : A = j * (2 * B)) (h : Blks cf B n A d) (h1 : A < n) (h2 : n ≤ A + B) : Blk cf A (min (A + 2 * B) n) d := by
  have e1 : A = (2 * j) * B := by rw [hA, Nat.mul_left_comm, Nat.mul_assoc]
  have h3 := h (2 * j) (by omega) (by omega)
  rw [← e1, Nat.min_eq_right (by omega)] at h3
  rw [Nat.min_eq_right (by omega)]
  exact h3
theorem blks_whole {B n : Nat} (h : Blks cf B n 0 d) (hB : n ≤ B) : Asc (ltT cf) 0 n d := by
  intro i j h1 h2 h3
  have h4 := h 0 (by omega) (by omega)
  rw [Nat.zero_mul, Nat.zero_add, Nat.min_eq_right hB] at h4
  exact h4.2 i j h1 h2 h3
end Go.Proofs.Ytmkfjelpekkmmaa
