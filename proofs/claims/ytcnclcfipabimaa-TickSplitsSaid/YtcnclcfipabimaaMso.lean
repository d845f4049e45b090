/-
  Sorting in place, plain: what an exchange of ranges, a rotation and a merge by rotations leave. No program here. No condition.
  The stable sort, plain: elements that bear their first places; what insertion leaves of a block, what merging leaves of blocks. No program here. No condition.
  The stable sort, plain: from blocks to blocks of twice the size. No program here. No condition.
-/
import Derived.Test.YtcnclcfipabimaaSoA
import Derived.Sort.LotA
import Derived.Shelf.SlSortCmp.Insertion
namespace Go.Proofs.Ytcnclcfipabimaa
open Go.Sort
variable {α : Type} [Inhabited α]

theorem swapN_get (a b : Nat) : ∀ (n : Nat) (d : Array α), a + n ≤ b → b + n ≤ d.size → ∀ t, (swapN a b n d)[t]! = if a ≤ t ∧ t < a + n then d[t - a + b]! else if b ≤ t ∧ t < b + n then d[t - b + a]! else d[t]!
  | 0, d, _, _, t => by
    rw [if_neg (by omega), if_neg (by omega)]; rfl
  | n + 1, d, h1, h2, t => by
    have ih := swapN_get a b n d (by omega) (by omega)
    have hs := size_swapN a b n d
    rw [swapN, swp_get _ (by omega) (by omega)]
    rw [ih, ih, ih]
    repeat' split
    all_goals first | (exfalso; omega) | (congr 1; omega) | rfl

/-- What the rotation of [a, m) with [m, b) holds at t. -/
def rotG (d : Array α) (a m b t : Nat) : α := if a ≤ t ∧ t < a + (b - m) then d[t + (m - a)]! else if a + (b - m) ≤ t ∧ t < b then d[t - (b - m)]! else d[t]!

theorem rot_left (d : Array α) (m i j : Nat) (hi : i ≤ m) (hij : j < i) (hs : m + j ≤ d.size) (t : Nat) : rotG (swapN (m - i) m j d) (m - (i - j)) m (m + j) t = rotG d (m - i) m (m + j) t := by
  unfold rotG
  simp only [swapN_get (m - i) m j d (by omega) (by omega)]
  repeat' split
  all_goals first | (exfalso; omega) | (congr 1; omega) | rfl
theorem rot_right (d : Array α) (m i j : Nat) (hi : i ≤ m) (hij : i < j) (hs : m + j ≤ d.size) (t : Nat) : rotG (swapN (m - i) (m + j - i) i d) (m - i) m (m + (j - i)) t = rotG d (m - i) m (m + j) t := by
  unfold rotG
  simp only [swapN_get (m - i) (m + j - i) i d (by omega) (by omega)]
  repeat' split
  all_goals first | (exfalso; omega) | (congr 1; omega) | rfl
theorem rot_end (d : Array α) (m i : Nat) (hi : i ≤ m) (hs : m + i ≤ d.size) (t : Nat) : (swapN (m - i) m i d)[t]! = rotG d (m - i) m (m + i) t := by
  unfold rotG
  rw [swapN_get (m - i) m i d (by omega) (by omega)]
  repeat' split
  all_goals first | (exfalso; omega) | (congr 1; omega) | rfl
theorem rot_none (d : Array α) (a t : Nat) : rotG d a (a + 1) (a + 1) t = d[t]! := by
  unfold rotG
  repeat' split
  all_goals first | (exfalso; omega) | (congr 1; omega) | rfl
theorem rot_none' (d : Array α) (m t : Nat) : rotG d m m (m + 1) t = d[t]! := by
  unfold rotG
  repeat' split
  all_goals first | (exfalso; omega) | (congr 1; omega) | rfl
theorem rot_skip (d : Array α) (a b t : Nat) : rotG d a a b t = d[t]! := by
  unfold rotG
  repeat' split
  all_goals first | (exfalso; omega) | (congr 1; omega) | rfl
theorem rot_skip' (d : Array α) (a m t : Nat) : rotG d a m m t = d[t]! := by
  unfold rotG
  repeat' split
  all_goals first | (exfalso; omega) | (congr 1; omega) | rfl
theorem rot_up (d dk : Array α) (a k : Nat) (hk : a ≤ k) (hs : k + 1 < dk.size) (h : ∀ t, dk[t]! = rotG d a (a + 1) (k + 1) t) (t : Nat) : (swp dk k (k + 1))[t]! = rotG d a (a + 1) (k + 2) t := by
  rw [swp_get _ (by omega) (by omega)]
  simp only [h]
  unfold rotG
  repeat' split
  all_goals first | (exfalso; omega) | (congr 1; omega) | rfl
theorem rot_down (d dk : Array α) (m k : Nat) (hk : k + 1 ≤ m) (hs : m < dk.size) (h : ∀ t, dk[t]! = rotG d (k + 1) m (m + 1) t) (t : Nat) : (swp dk (k + 1) k)[t]! = rotG d k m (m + 1) t := by
  rw [swp_get _ (by omega) (by omega)]
  simp only [h]
  unfold rotG
  repeat' split
  all_goals first | (exfalso; omega) | (congr 1; omega) | rfl

theorem rg_app (a n b k : Nat) (hb : b = a + n) : List.range' a n ++ List.range' b k = List.range' a (n + k) := by subst hb; exact List.range'_append_1

/-- A rotation is a permutation. -/
theorem rot_perm {d d' : Array α} {a s m e b : Nat} (h0 : a ≤ s) (h1 : s ≤ m) (h2 : m ≤ e) (h3 : e ≤ b) (hb : b ≤ d.size) (hs : d'.size = d.size) (h : ∀ t, d'[t]! = rotG d s m e t) : PermIn a b d d' := by
  refine ⟨hs, fun i hi => ?_, ?_⟩
  · rw [h]; unfold rotG; rw [if_neg (by omega), if_neg (by omega)]
  · rw [extract_toList d' a b (by omega), extract_toList d a b hb]
    have e1 : List.range' a (b - a) = List.range' a (s - a) ++ (List.range' s (e - m) ++ (List.range' (s + (e - m)) (m - s) ++ List.range' e (b - e))) := by
      rw [rg_app (s + (e - m)) (m - s) e _ (by omega), rg_app s (e - m) (s + (e - m)) _ rfl, rg_app a (s - a) s _ (by omega)]
      congr 1; omega
    have e2 : List.range' a (b - a) = List.range' a (s - a) ++ (List.range' s (m - s) ++ (List.range' m (e - m) ++ List.range' e (b - e))) := by
      rw [rg_app m (e - m) e _ (by omega), rg_app s (m - s) m _ (by omega), rg_app a (s - a) s _ (by omega)]
      congr 1; omega
    conv => lhs; rw [e1]
    conv => rhs; rw [e2]
    simp only [List.map_append]
    have p1 : (List.range' a (s - a)).map (fun i => d'[i]!) = (List.range' a (s - a)).map (fun i => d[i]!) := List.map_congr_left fun t ht => by
      have := List.mem_range'_1.1 ht
      rw [h]; unfold rotG; rw [if_neg (by omega), if_neg (by omega)]
    have p4 : (List.range' e (b - e)).map (fun i => d'[i]!) = (List.range' e (b - e)).map (fun i => d[i]!) := List.map_congr_left fun t ht => by
      have := List.mem_range'_1.1 ht
      rw [h]; unfold rotG; rw [if_neg (by omega), if_neg (by omega)]
    have p2 : (List.range' s (e - m)).map (fun i => d'[i]!) = (List.range' m (e - m)).map (fun i => d[i]!) := by
      apply List.ext_getElem
      · simp
      · intro k hk1 hk2
        simp at hk1
        simp [h]
        unfold rotG; rw [if_pos (by omega)]; congr 1; omega
    have p3 : (List.range' (s + (e - m)) (m - s)).map (fun i => d'[i]!) = (List.range' s (m - s)).map (fun i => d[i]!) := by
      apply List.ext_getElem
      · simp
      · intro k hk1 hk2
        simp at hk1
        simp [h]
        unfold rotG; rw [if_neg (by omega), if_pos (by omega)]; congr 1; omega
    rw [p1, p2, p3, p4]
    refine List.Perm.append_left _ ?_
    rw [← List.append_assoc, ← List.append_assoc]
    exact List.Perm.append_right _ List.perm_append_comm

/-- Ascending on [a, b). -/
def Asc (lt : α → α → Bool) (a b : Nat) (d : Array α) : Prop := ∀ i j, a ≤ i → i < j → j < b → lt d[i]! d[j]! = true

/-- Two ascending runs, neighbours, of which the comparison tells the order. -/
structure MPre (cf : α → α → Int) (lt : α → α → Bool) (d : Array α) (a m b : Nat) : Prop where
  am : a ≤ m
  mb : m ≤ b
  bs : b ≤ d.size
  s1 : Asc lt a m d
  s2 : Asc lt m b d
  c1 : ∀ i j, a ≤ i → i < m → m ≤ j → j < b → lt d[j]! d[i]! = decide (cf d[j]! d[i]! < 0)
  c2 : ∀ i j, a ≤ i → i < m → m ≤ j → j < b → lt d[i]! d[j]! = !decide (cf d[j]! d[i]! < 0)

def MPost (lt : α → α → Bool) (d : Array α) (a b : Nat) (d' : Array α) : Prop := PermIn a b d d' ∧ Asc lt a b d'

section
variable {cf : α → α → Int} {lt : α → α → Bool} {d d' : Array α} {a m b : Nat}

theorem Asc.le (hS : SWO lt) (h : Asc lt a b d) {i j : Nat} (h1 : a ≤ i) (h2 : i ≤ j) (h3 : j < b) {x : α} (hx : lt d[j]! x = true) : lt d[i]! x = true := by
  by_cases e : i = j
  · subst e; exact hx
  · exact hS.trans _ _ _ (h i j h1 (by omega) h3) hx
theorem Asc.ge (hS : SWO lt) (h : Asc lt a b d) {i j : Nat} (h1 : a ≤ i) (h2 : i ≤ j) (h3 : j < b) {x : α} (hx : lt x d[i]! = true) : lt x d[j]! = true := by
  by_cases e : i = j
  · subst e; exact hx
  · exact hS.trans _ _ _ hx (h i j h1 (by omega) h3)

/-- The rotation parts the merge in two. -/
theorem MPre.split (h : MPre cf lt d a m b) {s e : Nat} (h1 : a ≤ s) (h2 : s ≤ m) (h3 : m ≤ e) (h4 : e ≤ b) (k1 : ∀ i j, s ≤ i → i < m → m ≤ j → j < e → lt d[j]! d[i]! = true) (k2 : ∀ i j, a ≤ i → i < s → e ≤ j → j < b → lt d[i]! d[j]! = true)
    (hs : d'.size = d.size) (hr : ∀ t, d'[t]! = rotG d s m e t) :
    PermIn a b d d' ∧ MPre cf lt d' a s (s + (e - m)) ∧ MPre cf lt d' (s + (e - m)) e b ∧ ∀ i j, a ≤ i → i < s + (e - m) → s + (e - m) ≤ j → j < b → lt d'[i]! d'[j]! = true := by
  have g1 : ∀ t, t < s ∨ e ≤ t → d'[t]! = d[t]! := fun t ht => by rw [hr]; unfold rotG; rw [if_neg (by omega), if_neg (by omega)]
  have g2 : ∀ t, s ≤ t → t < s + (e - m) → d'[t]! = d[t + (m - s)]! := fun t ht ht2 => by rw [hr]; unfold rotG; rw [if_pos (by omega)]
  have g3 : ∀ t, s + (e - m) ≤ t → t < e → d'[t]! = d[t - (e - m)]! := fun t ht ht2 => by rw [hr]; unfold rotG; rw [if_neg (by omega), if_pos (by omega)]
  have hbs := h.bs
  refine ⟨rot_perm h1 h2 h3 h4 hbs hs hr, ⟨by omega, by omega, by omega, ?_, ?_, ?_, ?_⟩, ⟨by omega, by omega, by omega, ?_, ?_, ?_, ?_⟩, ?_⟩
  · intro i j q1 q2 q3
    rw [g1 i (by omega), g1 j (by omega)]; exact h.s1 i j q1 q2 (by omega)
  · intro i j q1 q2 q3
    rw [g2 i (by omega) (by omega), g2 j (by omega) (by omega)]; exact h.s2 _ _ (by omega) (by omega) (by omega)
  · intro i j q1 q2 q3 q4
    rw [g1 i (by omega), g2 j (by omega) (by omega)]; exact h.c1 _ _ (by omega) (by omega) (by omega) (by omega)
  · intro i j q1 q2 q3 q4
    rw [g1 i (by omega), g2 j (by omega) (by omega)]; exact h.c2 _ _ (by omega) (by omega) (by omega) (by omega)
  · intro i j q1 q2 q3
    rw [g3 i (by omega) (by omega), g3 j (by omega) (by omega)]; exact h.s1 _ _ (by omega) (by omega) (by omega)
  · intro i j q1 q2 q3
    rw [g1 i (by omega), g1 j (by omega)]; exact h.s2 _ _ (by omega) (by omega) (by omega)
  · intro i j q1 q2 q3 q4
    rw [g3 i (by omega) (by omega), g1 j (by omega)]; exact h.c1 _ _ (by omega) (by omega) (by omega) (by omega)
  · intro i j q1 q2 q3 q4
    rw [g3 i (by omega) (by omega), g1 j (by omega)]; exact h.c2 _ _ (by omega) (by omega) (by omega) (by omega)
  · intro i j q1 q2 q3 q4
    by_cases u1 : i < s
    · rw [g1 i (by omega)]
      by_cases u2 : j < e
      · rw [g3 j (by omega) (by omega)]; exact h.s1 _ _ (by omega) (by omega) (by omega)
      · rw [g1 j (by omega)]; exact k2 _ _ (by omega) (by omega) (by omega) (by omega)
    · rw [g2 i (by omega) (by omega)]
      by_cases u2 : j < e
      · rw [g3 j (by omega) (by omega)]; exact k1 _ _ (by omega) (by omega) (by omega) (by omega)
      · rw [g1 j (by omega)]; exact h.s2 _ _ (by omega) (by omega) (by omega)

/-- Both parts merged: all is. -/
theorem asc_join {q : Nat} {d1 d2 : Array α} (h1 : a ≤ q) (h2 : q ≤ b) (hb : b ≤ d.size) (hx : ∀ i j, a ≤ i → i < q → q ≤ j → j < b → lt d[i]! d[j]! = true) (p1 : PermIn a q d d1) (p2 : PermIn q b d1 d2) (a1 : Asc lt a q d1) (a2 : Asc lt q b d2) : PermIn a b d d2 ∧ Asc lt a b d2 := by
  have s1 := p1.1
  have s2 := p2.1
  refine ⟨permIn_trans _ _ _ _ _ (permIn_mono _ _ _ _ _ _ (Nat.le_refl a) h2 hb p1) (permIn_mono _ _ _ _ _ _ h1 (Nat.le_refl b) (by omega) p2), fun i j q1 q2 q3 => ?_⟩
  by_cases u1 : j < q
  · rw [p2.2.1 i (by omega), p2.2.1 j (by omega)]; exact a1 i j q1 q2 u1
  · by_cases u2 : i < q
    · rw [p2.2.1 i (by omega)]
      refine permIn_all _ _ q b (fun y => lt d1[i]! y = true) (by omega) p2 (fun t t1 t2 => ?_) j (by omega) q3
      rw [p1.2.1 t (by omega)]
      refine permIn_all _ _ a q (fun y => lt y d[t]! = true) (by omega) p1 (fun u v1 v2 => ?_) i q1 u2
      exact hx u t v1 v2 t1 t2
    · exact a2 i j (by omega) q2 q3

/-- One element on the left: the search has found its place. -/
theorem merge_one_left (hS : SWO lt) (h : MPre cf lt d a (a + 1) b) {i : Nat} (h1 : a + 1 ≤ i) (h2 : i ≤ b) (k1 : i = a + 1 ∨ cf d[i - 1]! d[a]! < 0) (k2 : i = b ∨ ¬ cf d[i]! d[a]! < 0) (hs : d'.size = d.size) (hr : ∀ t, d'[t]! = rotG d a (a + 1) i t) : MPost lt d a b d' := by
  obtain ⟨p, m1, m2, hx⟩ := h.split (Nat.le_refl a) (by omega) h1 h2 (fun u v u1 u2 v1 v2 => by
    obtain rfl : u = a := by omega
    rcases k1 with k1 | k1
    · omega
    · refine h.s2.le hS (j := i - 1) (by omega) (by omega) (by omega) ?_
      rw [h.c1 _ _ (by omega) (by omega) (by omega) (by omega)]; simpa using k1) (fun u v u1 u2 => by omega) hs hr
  have e1 : ∀ u v, a + (i - (a + 1)) ≤ u → u < v → v < b → lt d'[u]! d'[v]! = true := by
    intro u v u1 u2 v2
    by_cases hu : i ≤ u
    · exact m2.s2 u v hu u2 v2
    · obtain rfl : u = a + (i - (a + 1)) := by omega
      have c0 : ∀ v, i ≤ v → v < b → lt d'[a + (i - (a + 1))]! d'[v]! = !decide (cf d'[v]! d'[a + (i - (a + 1))]! < 0) := fun v w1 w2 => m2.c2 _ _ (by omega) (by omega) w1 w2
      have g0 : d'[a + (i - (a + 1))]! = d[a]! := by rw [hr]; unfold rotG; rw [if_neg (by omega), if_pos (by omega)]; congr 1; omega
      have gi : d'[i]! = d[i]! := by rw [hr]; unfold rotG; rw [if_neg (by omega), if_neg (by omega)]
      have ci : lt d'[a + (i - (a + 1))]! d'[i]! = true := by
        rw [c0 i (Nat.le_refl i) (by omega), g0, gi]
        rcases k2 with k2 | k2
        · omega
        · simpa using k2
      exact m2.s2.ge hS (i := i) (Nat.le_refl i) (by omega) v2 ci
  refine ⟨p, fun u v u1 u2 v2 => ?_⟩
  by_cases hv : v < a + (i - (a + 1))
  · exact m1.s2 u v u1 u2 hv
  · by_cases hu : u < a + (i - (a + 1))
    · exact hx u v u1 hu (by omega) v2
    · exact e1 u v (by omega) u2 v2

/-- One element on the right: the search has found its place. -/
theorem merge_one_right (hS : SWO lt) (h : MPre cf lt d a m (m + 1)) {i : Nat} (h1 : a ≤ i) (h2 : i ≤ m) (k1 : i = a ∨ ¬ cf d[m]! d[i - 1]! < 0) (k2 : i = m ∨ cf d[m]! d[i]! < 0) (hs : d'.size = d.size) (hr : ∀ t, d'[t]! = rotG d i m (m + 1) t) : MPost lt d a (m + 1) d' := by
  obtain ⟨p, m1, m2, hx⟩ := h.split h1 h2 (Nat.le_succ m) (Nat.le_refl _) (fun u v u1 u2 v1 v2 => by
    obtain rfl : v = m := by omega
    rcases k2 with k2 | k2
    · omega
    · refine h.s1.ge hS (i := i) (by omega) u1 u2 ?_
      rw [h.c1 _ _ (by omega) (by omega) (by omega) (by omega)]; simpa using k2) (fun u v u1 u2 v1 v2 => by omega) hs hr
  have gi : d'[i]! = d[m]! := by rw [hr]; unfold rotG; rw [if_pos (by omega)]; congr 1; omega
  have gp : ∀ u, u < i → d'[u]! = d[u]! := fun u hu => by rw [hr]; unfold rotG; rw [if_neg (by omega), if_neg (by omega)]
  refine ⟨p, fun u v u1 u2 v2 => ?_⟩
  by_cases hv : i < v
  · by_cases hu : u ≤ i
    · exact hx u v u1 (by omega) (by omega) v2
    · exact m2.s1 u v (by omega) u2 v2
  · by_cases hvi : v = i
    · subst hvi
      have ci : lt d[v - 1]! d[m]! = true := by
        rw [h.c2 _ _ (by omega) (by omega) (by omega) (by omega)]
        rcases k1 with k1 | k1
        · omega
        · simpa using k1
      rw [gi, gp u u2]
      exact h.s1.le hS u1 (by omega : u ≤ v - 1) (by omega) ci
    · exact m1.s1 u v u1 u2 (by omega)

/-- The general case: where the search has ended. -/
theorem merge_split (hS : SWO lt) (h : MPre cf lt d a m b) {mid s e s0 r0 : Nat} (hmid : mid = (a + b) / 2) (ha2 : a + 2 ≤ m) (hb2 : m + 2 ≤ b) (hse : e = mid + m - s) (h0 : s0 = if mid < m then mid + m - b else a) (hr0 : r0 = if mid < m then mid else m) (q1 : s0 ≤ s) (q2 : s ≤ r0)
    (k1 : s = s0 ∨ ¬ cf d[mid + m - s]! d[s - 1]! < 0) (k2 : s = r0 ∨ cf d[mid + m - 1 - s]! d[s]! < 0) (hs : d'.size = d.size) (hr : ∀ t, d'[t]! = rotG d s m e t) :
    s ≤ m ∧ m ≤ e ∧ e ≤ b ∧ a ≤ s ∧ s ≤ mid ∧ mid ≤ e ∧ PermIn a b d d' ∧ MPre cf lt d' a s mid ∧ MPre cf lt d' mid e b ∧ ∀ i j, a ≤ i → i < mid → mid ≤ j → j < b → lt d'[i]! d'[j]! = true := by
  have z1 : s ≤ m ∧ m ≤ e ∧ e ≤ b ∧ a ≤ s ∧ s ≤ mid ∧ mid ≤ e := by
    by_cases hc : mid < m
    · rw [if_pos hc] at h0 hr0; refine ⟨?_, ?_, ?_, ?_, ?_, ?_⟩ <;> omega
    · rw [if_neg hc] at h0 hr0; refine ⟨?_, ?_, ?_, ?_, ?_, ?_⟩ <;> omega
  obtain ⟨y1, y2, y3, y4, y5, y6⟩ := z1
  have hmm : s + (e - m) = mid := by omega
  obtain ⟨p, m1, m2, hx⟩ := h.split y4 y1 y2 y3 (fun u v u1 u2 v1 v2 => by
    rcases k2 with k2 | k2
    · exfalso
      split at hr0 <;> omega
    · have c0 : lt d[e - 1]! d[s]! = true := by
        rw [h.c1 _ _ (by omega) (by omega) (by omega) (by omega), show e - 1 = mid + m - 1 - s by omega]; simpa using k2
      exact h.s2.le hS v1 (by omega : v ≤ e - 1) (by omega) (h.s1.ge hS y4 u1 u2 c0)) (fun u v u1 u2 v1 v2 => by
    rcases k1 with k1 | k1
    · exfalso
      split at h0 <;> omega
    · have c0 : lt d[s - 1]! d[e]! = true := by
        rw [h.c2 _ _ (by omega) (by omega) (by omega) (by omega), hse]; simpa using k1
      exact h.s1.le hS u1 (by omega : u ≤ s - 1) (by omega) (h.s2.ge hS y2 v1 v2 c0)) hs hr
  rw [hmm] at m1 m2 hx
  exact ⟨y1, y2, y3, y4, y5, y6, p, m1, m2, hx⟩

/-- A run of which one side is empty is merged. -/
theorem MPre.nil_left (h : MPre cf lt d a a b) : MPost lt d a b d := ⟨permIn_refl _ _ _, h.s2⟩
theorem MPre.nil_right (h : MPre cf lt d a b b) : MPost lt d a b d := ⟨permIn_refl _ _ _, h.s1⟩
/-- .. of what is elsewhere nothing is asked. -/
theorem MPre.elsewhere (h : MPre cf lt d a m b) (hs : d'.size = d.size) (he : ∀ t, a ≤ t → t < b → d'[t]! = d[t]!) : MPre cf lt d' a m b := by
  have am := h.am
  have mb := h.mb
  have bs := h.bs
  refine ⟨h.am, h.mb, by omega, ?_, ?_, ?_, ?_⟩
  · intro i j q1 q2 q3
    rw [he i (by omega) (by omega), he j (by omega) (by omega)]; exact h.s1 i j q1 q2 q3
  · intro i j q1 q2 q3
    rw [he i (by omega) (by omega), he j (by omega) (by omega)]; exact h.s2 i j q1 q2 q3
  · intro i j q1 q2 q3 q4
    rw [he i (by omega) (by omega), he j (by omega) (by omega)]; exact h.c1 i j q1 q2 q3 q4
  · intro i j q1 q2 q3 q4
    rw [he i (by omega) (by omega), he j (by omega) (by omega)]; exact h.c2 i j q1 q2 q3 q4
end
end Go.Proofs.Ytcnclcfipabimaa
namespace Go.Proofs.Ytcnclcfipabimaa
open Go.Sort Go.Proofs
variable {β : Type}

/-- The order by a comparison, and, of equals, by first places. -/
def ltT (cf : β → β → Int) (x y : β × Nat) : Bool := decide (cf x.1 y.1 < 0) || (decide (cf x.1 y.1 = 0) && decide (x.2 < y.2))
def cfT (cf : β → β → Int) (x y : β × Nat) : Int := cf x.1 y.1

/-- A comparison that orders. -/
structure CmpOk (cf : β → β → Int) : Prop where
  neg : ∀ x y, cf x y < 0 ↔ 0 < cf y x
  zero : ∀ x y, cf x y = 0 ↔ cf y x = 0
  trans : ∀ x y z, cf x y ≤ 0 → cf y z ≤ 0 → cf x z ≤ 0
  transl : ∀ x y z, cf x y < 0 → cf y z ≤ 0 → cf x z < 0
  transr : ∀ x y z, cf x y ≤ 0 → cf y z < 0 → cf x z < 0

theorem CmpOk.self {cf : β → β → Int} (h : CmpOk cf) (x : β) : cf x x = 0 := by
  have := h.neg x x
  omega
theorem ltT_iff {cf : β → β → Int} (x y : β × Nat) : ltT cf x y = true ↔ cf x.1 y.1 < 0 ∨ (cf x.1 y.1 = 0 ∧ x.2 < y.2) := by
  unfold ltT; simp
theorem ltT_swo {cf : β → β → Int} (h : CmpOk cf) : SWO (ltT cf) where
  irrefl x := by
    have := h.self x.1
    rw [Bool.eq_false_iff]; intro e; rw [ltT_iff] at e; omega
  trans x y z h1 h2 := by
    rw [ltT_iff] at *
    have t1 := h.trans x.1 y.1 z.1
    have t2 := h.transl x.1 y.1 z.1
    have t3 := h.transr x.1 y.1 z.1
    omega
  ntrans x y z h1 h2 := by
    rw [Bool.eq_false_iff] at *
    intro e
    rw [ne_eq, ltT_iff] at h1 h2
    rw [ltT_iff] at e
    have n1 := h.neg x.1 y.1
    have n2 := h.neg y.1 z.1
    have n3 := h.neg x.1 z.1
    have n1' := h.neg y.1 x.1
    have n2' := h.neg z.1 y.1
    have n3' := h.neg z.1 x.1
    have t1 := h.trans z.1 y.1 x.1
    have t2 := h.transl z.1 y.1 x.1
    have t3 := h.transr z.1 y.1 x.1
    have z1 := h.zero x.1 y.1
    have z2 := h.zero y.1 z.1
    have z3 := h.zero x.1 z.1
    omega
/-- Of two of unlike places the order tells one. -/
theorem ltT_total {cf : β → β → Int} (h : CmpOk cf) {x y : β × Nat} (hn : x.2 < y.2) : ltT cf y x = decide (cf y.1 x.1 < 0) ∧ ltT cf x y = !decide (cf y.1 x.1 < 0) := by
  have n1 := h.neg x.1 y.1
  have n2 := h.neg y.1 x.1
  have z1 := h.zero x.1 y.1
  constructor
  · rw [Bool.eq_iff_iff, ltT_iff, decide_eq_true_iff]; omega
  · rw [Bool.eq_iff_iff, ltT_iff, Bool.not_eq_true', decide_eq_false_iff_not]; omega

variable [Inhabited β]
section
variable {cf : β → β → Int} {a b : Nat}

theorem insInner_tag (h : CmpOk cf) (a : Nat) : ∀ (j : Nat) (d : Array (β × Nat)), j < d.size → (∀ t, a ≤ t → t < j → d[t]!.2 < d[j]!.2) → insInner (ltOf (cfT cf)) a j d = insInner (ltT cf) a j d
  | 0, d, _, _ => by rw [insInner_stop _ _ _ _ (.inl (Nat.zero_le _)), insInner_stop _ _ _ _ (.inl (Nat.zero_le _))]
  | j + 1, d, hj, ht => by
    by_cases hja : j + 1 ≤ a
    · rw [insInner_stop _ _ _ _ (.inl hja), insInner_stop _ _ _ _ (.inl hja)]
    · have e0 : ltOf (cfT cf) d[j + 1]! d[j]! = ltT cf d[j + 1]! d[j]! := ((ltT_total h (ht j (by omega) (by omega))).1).symm
      cases hv : ltT cf d[j + 1]! d[j]! with
      | false =>
        rw [insInner_stop _ _ _ _ (.inr (by rw [Nat.add_sub_cancel, e0, hv])), insInner_stop _ _ _ _ (.inr (by rw [Nat.add_sub_cancel, hv]))]
      | true =>
        have g1 := insInner_go (ltOf (cfT cf)) a (j + 1) d (by omega) (by rw [Nat.add_sub_cancel, e0, hv])
        have g2 := insInner_go (ltT cf) a (j + 1) d (by omega) (by rw [Nat.add_sub_cancel, hv])
        rw [Nat.add_sub_cancel] at g1 g2
        rw [g1, g2]
        refine insInner_tag h a j _ (by rw [size_swp]; omega) fun t h1 h2 => ?_
        rw [swp_other _ _ _ _ (by omega) (by omega), swp_right d (j + 1) j (by omega)]
        exact ht t h1 (by omega)

theorem insOuter_tag (h : CmpOk cf) (a b : Nat) : ∀ (n i : Nat) (d : Array (β × Nat)), b - i = n → a < i → b ≤ d.size → (∀ t u, a ≤ t → t < u → i ≤ u → u < b → d[t]!.2 < d[u]!.2) → SortedIn (ltT cf) a i d →
    insOuter (ltOf (cfT cf)) a b i d = insOuter (ltT cf) a b i d
  | n, i, d, hn, hai, hb, ht, hso => by
    by_cases hib : i < b
    · rw [insOuter_go _ _ _ _ _ hib, insOuter_go _ _ _ _ _ hib, insInner_tag h a i d (by omega) (fun t h1 h2 => ht t i h1 h2 (Nat.le_refl i) hib)]
      have hsw := ltT_swo h
      have hp := insInner_spec hsw swp_permIn permIn_refl permIn_trans a (i + 1) i (Nat.lt_succ_self i) i d (by omega) (Nat.le_refl i) (by omega) ⟨fun p q h1 h2 h3 h4 h5 => hso p q h1 h2 (by omega), fun p h1 h2 => by omega⟩
      have hp1 := hp.1
      have hs1 := hp1.1
      match n, hn with
      | 0, hn => omega
      | n + 1, hn =>
        refine insOuter_tag h a b n (i + 1) _ (by omega) (by omega) (by omega) (fun t u h1 h2 h3 h4 => ?_) hp.2
        rw [hp1.2.1 u (.inr (by omega))]
        by_cases hti : t < i + 1
        · refine permIn_all _ _ a (i + 1) (fun y => y.2 < d[u]!.2) (by omega) hp1 (fun v v1 v2 => ht v u v1 (by omega) (by omega) h4) t h1 hti
        · rw [hp1.2.1 t (.inr (by omega))]
          exact ht t u h1 h2 (by omega) h4
    · rw [insOuter_stop _ _ _ _ _ hib, insOuter_stop _ _ _ _ _ hib]

/-- Insertion of a block whose elements bear rising places: a stable one. -/
theorem ins_block (h : CmpOk cf) (d : Array (β × Nat)) (hab : a ≤ b) (hb : b ≤ d.size) (ht : ∀ t u, a ≤ t → t < u → u < b → d[t]!.2 < d[u]!.2) :
    PermIn a b d (insertionSort (ltOf (cfT cf)) d a b) ∧ SortedIn (ltT cf) a b (insertionSort (ltOf (cfT cf)) d a b) := by
  have e : insertionSort (ltOf (cfT cf)) d a b = insertionSort (ltT cf) d a b := by
    unfold insertionSort
    exact insOuter_tag h a b _ (a + 1) d rfl (by omega) hb (fun t u h1 h2 _ h4 => ht t u h1 h2 h4) fun p q h1 h2 h3 => by omega
  rw [e]
  exact insertionSort_holds (ltT_swo h) d a b hab hb

/-- A block: its elements are those that stood there, in order. -/
def Blk (cf : β → β → Int) (lo hi : Nat) (d : Array (β × Nat)) : Prop := (∀ p, lo ≤ p → p < hi → lo ≤ d[p]!.2 ∧ d[p]!.2 < hi) ∧ Asc (ltT cf) lo hi d

/-- Elements of unlike places, in order where none is less than one ahead of it. -/
theorem asc_of (h : CmpOk cf) {d : Array (β × Nat)} (hs : SortedIn (ltT cf) a b d) (hn : ∀ i j, a ≤ i → i < j → j < b → d[i]!.2 ≠ d[j]!.2) : Asc (ltT cf) a b d := by
  intro i j h1 h2 h3
  have h4 := hs i j h1 h2 h3
  rcases Nat.lt_or_gt_of_ne (hn i j h1 h2 h3) with hlt | hgt
  · have t := ltT_total h (x := d[i]!) (y := d[j]!) hlt
    rw [t.2, ← t.1, h4]; rfl
  · have t := ltT_total h (x := d[j]!) (y := d[i]!) hgt
    rw [t.2] at h4
    rw [t.1]
    simpa using h4

/-- All blocks of so many from a on are blocks. -/
def Blks (cf : β → β → Int) (bs n a : Nat) (d : Array (β × Nat)) : Prop := ∀ i, a ≤ i * bs → i * bs < n → Blk cf (i * bs) (min (i * bs + bs) n) d
/-- .. and up to b. -/
def Blks2 (cf : β → β → Int) (bs n b : Nat) (d : Array (β × Nat)) : Prop := ∀ i, i * bs < b → i * bs < n → Blk cf (i * bs) (min (i * bs + bs) n) d

theorem Blk.keep {lo hi : Nat} {d d' : Array (β × Nat)} (h : Blk cf lo hi d) (he : ∀ t, lo ≤ t → t < hi → d'[t]! = d[t]!) : Blk cf lo hi d' := by
  refine ⟨fun p h1 h2 => by rw [he p h1 h2]; exact h.1 p h1 h2, fun i j h1 h2 h3 => ?_⟩
  rw [he i h1 (by omega), he j (by omega) h3]
  exact h.2 i j h1 h2 h3

/-- Two neighbouring blocks can be merged. -/
theorem blk_pre (h : CmpOk cf) {m : Nat} {d : Array (β × Nat)} (h1 : a ≤ m) (h2 : m ≤ b) (hb : b ≤ d.size) (k1 : Blk cf a m d) (k2 : Blk cf m b d) : MPre (cfT cf) (ltT cf) d a m b := by
  refine ⟨h1, h2, hb, k1.2, k2.2, fun i j q1 q2 q3 q4 => ?_, fun i j q1 q2 q3 q4 => ?_⟩
  · exact (ltT_total h (x := d[i]!) (y := d[j]!) (by have := (k1.1 i q1 q2).2; have := (k2.1 j q3 q4).1; omega)).1
  · exact (ltT_total h (x := d[i]!) (y := d[j]!) (by have := (k1.1 i q1 q2).2; have := (k2.1 j q3 q4).1; omega)).2
/-- .. and are one then. -/
theorem blk_post {m : Nat} {d d' : Array (β × Nat)} (h1 : a ≤ m) (h2 : m ≤ b) (hb : b ≤ d.size) (k1 : Blk cf a m d) (k2 : Blk cf m b d) (hp : MPost (ltT cf) d a b d') : Blk cf a b d' := by
  refine ⟨permIn_all d d' a b (fun y => a ≤ y.2 ∧ y.2 < b) hb hp.1 fun i q1 q2 => ?_, hp.2⟩
  by_cases hi : i < m
  · have := k1.1 i q1 hi; omega
  · have := k2.1 i (by omega) q2; omega
end

/-- The elements with their first places. -/
def tagd (l : List β) : Array (β × Nat) := l.zipIdx.toArray
omit [Inhabited β] in
theorem size_tagd (l : List β) : (tagd l).size = l.length := by simp [tagd]
theorem tagd_get (l : List β) {t : Nat} (h : t < l.length) : (tagd l)[t]! = (l[t], t) := by
  rw [getElem!_pos (tagd l) t (by rw [size_tagd]; exact h)]
  simp [tagd]
/-- What a stable sort leaves. -/
def stableF (cf : β → β → Int) (l : List β) : List β := (l.zipIdx.mergeSort fun x y => !ltT cf y x).map fun x => x.1
theorem stable_of {cf : β → β → Int} (h : CmpOk cf) {l : List β} {d : Array (β × Nat)} (hp : PermIn 0 l.length (tagd l) d) (hb : Asc (ltT cf) 0 l.length d) : d.toList.map (fun x => x.1) = stableF cf l := by
  have hs := hp.1
  rw [size_tagd] at hs
  unfold stableF
  have hsz : l.length = (tagd l).size := (size_tagd l).symm
  have hS := ltT_swo h
  congr 1
  have e1 : d.extract 0 l.length = d := by rw [← hs]; exact Array.extract_size
  have e2 : (tagd l).extract 0 l.length = tagd l := by rw [hsz]; exact Array.extract_size
  have hperm := hp.2.2
  rw [e1, e2] at hperm
  refine List.Perm.eq_of_pairwise (le := fun x y => (!ltT cf y x) = true) ?_ ?_ ?_ ((hperm.trans (List.Perm.of_eq (by simp [tagd]))).trans (List.mergeSort_perm _ _).symm)
  · intro x y hx hy h1 h2
    simp only [Bool.not_eq_true'] at h1 h2
    have mx : x ∈ l.zipIdx := by have := hperm.mem_iff.1 hx; simpa [tagd] using this
    have my : y ∈ l.zipIdx := (List.mergeSort_perm _ _).mem_iff.1 hy
    by_cases hxy : x.2 = y.2
    · have q1 := List.mem_zipIdx_iff_getElem?.1 mx
      have q2 := List.mem_zipIdx_iff_getElem?.1 my
      rw [hxy] at q1
      have q3 := q1.symm.trans q2
      exact Prod.ext (Option.some.inj q3) hxy
    · rcases Nat.lt_or_gt_of_ne hxy with hlt | hgt
      · have t := ltT_total h hlt
        rw [t.1] at h1; rw [t.2] at h2; simp at h1 h2; omega
      · have t := ltT_total h hgt
        rw [t.1] at h2; rw [t.2] at h1; simp at h1 h2; omega
  · rw [List.pairwise_iff_getElem]
    intro i j hi hj hij
    have hi' : i < d.size := by simpa using hi
    have hj' : j < d.size := by simpa using hj
    have := hS.asymmA (hb i j (Nat.zero_le _) hij (by omega))
    rw [getElem!_pos d j hj', getElem!_pos d i hi'] at this
    simpa using this
  · refine List.pairwise_mergeSort ?_ ?_ _
    · intro x y z h1 h2
      simp only [Bool.not_eq_true'] at h1 h2 ⊢
      exact hS.ntrans z y x h2 h1
    · intro x y
      cases hh : ltT cf y x with
      | false => simp
      | true => simp [hS.asymmA hh]
end Go.Proofs.Ytcnclcfipabimaa
namespace Go.Proofs.Ytcnclcfipabimaa
open Go.Sort Go.Proofs
variable {β : Type} [Inhabited β] {cf : β → β → Int} {d d' : Array (β × Nat)}

theorem tags_ne {a b : Nat} (hp : PermIn a b d d') (hb : b ≤ d.size) (h : ∀ i j, a ≤ i → i < j → j < b → d[i]!.2 ≠ d[j]!.2) : ∀ i j, a ≤ i → i < j → j < b → d'[i]!.2 ≠ d'[j]!.2 := by
  have e1 := extract_toList d a b hb
  have e2 := extract_toList d' a b (by rw [hp.1]; exact hb)
  have p1 : List.Pairwise (fun x y : β × Nat => x.2 ≠ y.2) (d.extract a b).toList := by
    rw [e1, List.pairwise_iff_getElem]
    intro i j hi hj hij
    simp at hi hj
    simp
    exact h _ _ (by omega) (by omega) (by omega)
  have p2 := (hp.2.2.symm.pairwise_iff (R := fun x y : β × Nat => x.2 ≠ y.2) (fun h => Ne.symm h)).1 p1
  rw [e2, List.pairwise_iff_getElem] at p2
  intro i j h1 h2 h3
  have := p2 (i - a) (j - a) (by simp; omega) (by simp; omega) (by omega)
  simp at this
  rwa [show a + (i - a) = i by omega, show a + (j - a) = j by omega] at this

/-- Insertion of a block as it stood makes a block of it. -/
theorem blk_ins (h : CmpOk cf) {a b : Nat} (hab : a ≤ b) (hb : b ≤ d.size) (ht : ∀ t, a ≤ t → t < b → d[t]!.2 = t) :
    PermIn a b d (insertionSort (ltOf (cfT cf)) d a b) ∧ Blk cf a b (insertionSort (ltOf (cfT cf)) d a b) := by
  obtain ⟨p, s⟩ := ins_block h d hab hb (fun t u h1 h2 h3 => by rw [ht t h1 (by omega), ht u (by omega) h3]; exact h2)
  refine ⟨p, permIn_all d _ a b (fun y => a ≤ y.2 ∧ y.2 < b) hb p (fun i h1 h2 => by rw [ht i h1 h2]; exact ⟨h1, h2⟩), asc_of h s (tags_ne p hb fun i j h1 h2 h3 => ?_)⟩
  rw [ht i h1 (by omega), ht j (by omega) h3]
  omega

theorem blks2_step {B n A j : Nat} (hA : A = j * B) (h : Blks2 cf B n A d) (he : ∀ t, t < A → d'[t]! = d[t]!) (hn : Blk cf A (min (A + B) n) d') : Blks2 cf B n (A + B) d' := by
  intro i h1 h2
  by_cases hij : i < j
  · have h3 : (i + 1) * B ≤ j * B := Nat.mul_le_mul_right B hij
    rw [Nat.add_mul, Nat.one_mul, ← hA] at h3
    by_cases hB : B = 0
    · subst hB; simp at hA; subst hA; exact (h i (by omega) h2).keep fun t _ t2 => he t (by omega)
    · exact (h i (by omega) h2).keep fun t _ t2 => he t (by omega)
  · by_cases hji : i = j
    · subst hji; rw [← hA]; exact hn
    · have h3 : (j + 1) * B ≤ i * B := Nat.mul_le_mul_right B (by omega)
      rw [Nat.add_mul, Nat.one_mul, ← hA] at h3
      omega
theorem blks2_nil (B n : Nat) : Blks2 cf B n 0 d := fun _ h1 => absurd h1 (Nat.not_lt_zero _)
theorem blks2_all {B n A : Nat} (h : Blks2 cf B n A d) (hA : n ≤ A) : Blks cf B n 0 d := fun i _ h2 => h i (by omega) h2
theorem blks_mono {B n A A' : Nat} (h : Blks cf B n A d) (hA : A ≤ A') (he : ∀ t, A' ≤ t → d'[t]! = d[t]!) : Blks cf B n A' d' := fun i h1 h2 => (h i (by omega) h2).keep fun t t1 _ => he t (by omega)
/-- The two blocks that come next. -/
theorem blks_two {B n A j : Nat} (hA : A = j * (2 * B)) (h : Blks cf B n A d) (hn : A + B < n) : Blk cf A (A + B) d ∧ Blk cf (A + B) (min (A + 2 * B) n) d := by
  have e1 : A = (2 * j) * B := by rw [hA, Nat.mul_left_comm, Nat.mul_assoc]
  have e2 : A + B = (2 * j + 1) * B := by rw [Nat.add_mul, Nat.one_mul, ← e1]
  have h1 := h (2 * j) (by omega) (by omega)
  have h2 := h (2 * j + 1) (by omega) (by omega)
  rw [← e1, Nat.min_eq_left (by omega)] at h1
  rw [← e2, show A + B + B = A + 2 * B by omega] at h2
  exact ⟨h1, h2⟩
/-- .. the one that is left alone is a block of twice the size. -/
theorem blks_one {B n A j : Nat} (hA : A = j * (2 * B)) (h : Blks cf B n A d) (h1 : A < n) (h2 : n ≤ A + B) : Blk cf A (min (A + 2 * B) n) d := by
  have e1 : A = (2 * j) * B := by rw [hA, Nat.mul_left_comm, Nat.mul_assoc]
  have h3 := h (2 * j) (by omega) (by omega)
  rw [← e1, Nat.min_eq_right (by omega)] at h3
  rw [Nat.min_eq_right (by omega)]
  exact h3
theorem blks_whole {B n : Nat} (h : Blks cf B n 0 d) (hB : n ≤ B) : Asc (ltT cf) 0 n d := by
  intro i j h1 h2 h3
  have h4 := h 0 (by omega) (by omega)
  rw [Nat.zero_mul, Nat.zero_add, Nat.min_eq_right hB] at h4
  exact h4.2 i j h1 h2 h3
end Go.Proofs.Ytcnclcfipabimaa
