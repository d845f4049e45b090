/-
  Chapter texts SoB SoC: what the claim reaches of them. Conditions stand at each theorem.
-/
import Derived.Sort.LotA
import Derived.Test.YtoimjjhopljdmaaGreatY02
namespace Go.Proofs.YtoimjjhopljdmaaGreat
open Go.Sort
variable {α : Type} [Inhabited α]

theorem swapN_get (a b : Nat) : ∀ (n : Nat) (d : Array α), a + n ≤ b → b + n ≤ d.size → ∀ t, (swapN a b n d)[t]! = if a ≤ t ∧ t < a + n then d[t - a + b]! else if b ≤ t ∧ t < b + n then d[t - b + a]! else d[t]!
  | 0, d, _, _, t => by
    rw [if_neg (by omega), if_neg (by omega)]; rfl
  | n + 1, d, h1, h2, t => by
    have ih := swapN_get a b n d (by omega) (by omega)
    have hs := size_swapN a b n d
    rw [swapN, swp_get _ (by omega) (by omega)]
    rw [ih, ih, ih]
    repeat' split
    all_goals first | (exfalso; omega) | (congr 1; omega) | rfl

def rotG (d : Array α) (a m b t : Nat) : α := if a ≤ t ∧ t < a + (b - m) then d[t + (m - a)]! else if a + (b - m) ≤ t ∧ t < b then d[t - (b - m)]! else d[t]!

theorem rot_left (d : Array α) (m i j : Nat) (hi : i ≤ m) (hij : j < i) (hs : m + j ≤ d.size) (t : Nat) : rotG (swapN (m - i) m j d) (m - (i - j)) m (m + j) t = rotG d (m - i) m (m + j) t := by
  unfold rotG
  simp only [swapN_get (m - i) m j d (by omega) (by omega)]
  repeat' split
  all_goals first | (exfalso; omega) | (congr 1; omega) | rfl
theorem rot_right (d : Array α) (m i j : Nat) (hi : i ≤ m) (hij : i < j) (hs : m + j ≤ d.size) (t : Nat) : rotG (swapN (m - i) (m + j - i) i d) (m - i) m (m + (j - i)) t = rotG d (m - i) m (m + j) t := by
  unfold rotG
  simp only [swapN_get (m - i) (m + j - i) i d (by omega) (by omega)]
  repeat' split
  all_goals first | (exfalso; omega) | (congr 1; omega) | rfl
theorem rot_end (d : Array α) (m i : Nat) (hi : i ≤ m) (hs : m + i ≤ d.size) (t : Nat) : (swapN (m - i) m i d)[t]! = rotG d (m - i) m (m + i) t := by
  unfold rotG
  rw [swapN_get (m - i) m i d (by omega) (by omega)]
  repeat' split
  all_goals first | (exfalso; omega) | (congr 1; omega) | rfl
theorem rot_none (d : Array α) (a t : Nat) : rotG d a (a + 1) (a + 1) t = d[t]! := by
  unfold rotG
  repeat' split
  all_goals first | (exfalso; omega) | (congr 1; omega) | rfl
theorem rot_none' (d : Array α) (m t : Nat) : rotG d m m (m + 1) t = d[t]! := by
  unfold rotG
  repeat' split
  all_goals first | (exfalso; omega) | (congr 1; omega) | rfl
theorem rot_skip (d : Array α) (a b t : Nat) : rotG d a a b t = d[t]! := by
  unfold rotG
  repeat' split
  all_goals first | (exfalso; omega) | (congr 1; omega) | rfl
theorem rot_skip' (d : Array α) (a m t : Nat) : rotG d a m m t = d[t]! := by
  unfold rotG
  repeat' split
  all_goals first | (exfalso; omega) | (congr 1; omega) | rfl
theorem rot_up (d dk : Array α) (a k : Nat) (hk : a ≤ k) (hs : k + 1 < dk.size) (h : ∀ t, dk[t]! = rotG d a (a + 1) (k + 1) t) (t : Nat) : (swp dk k (k + 1))[t]! = rotG d a (a + 1) (k + 2) t := by
  rw [swp_get _ (by omega) (by omega)]
  simp only [h]
  unfold rotG
  repeat' split
  all_goals first | (exfalso; omega) | (congr 1; omega) | rfl
theorem rot_down (d dk : Array α) (m k : Nat) (hk : k + 1 ≤ m) (hs : m < dk.size) (h : ∀ t, dk[t]! = rotG d (k + 1) m (m + 1) t) (t : Nat) : (swp dk (k + 1) k)[t]! = rotG d k m (m + 1) t := by
  rw [swp_get _ (by omega) (by omega)]
  simp only [h]
  unfold rotG
  repeat' split
  all_goals first | (exfalso; omega) | (congr 1; omega) | rfl

theorem rg_app (a n b k : Nat) (hb : b = a + n) : List.range' a n ++ List.range' b k = List.range' a (n + k) := by subst hb; exact List.range'_append_1

theorem rot_perm {d d' : Array α} {a s m e b : Nat} (h0 : a ≤ s) (h1 : s ≤ m) (h2 : m ≤ e) (h3 : e ≤ b) (hb : b ≤ d.size) (hs : d'.size = d.size) (h : ∀ t, d'[t]! = rotG d s m e t) : PermIn a b d d' := by
  refine ⟨hs, fun i hi => ?_, ?_⟩
  · rw [h]; unfold rotG; rw [if_neg (by omega), if_neg (by omega)]
  · rw [extract_toList d' a b (by omega), extract_toList d a b hb]
    have e1 : List.range' a (b - a) = List.range' a (s - a) ++ (List.range' s (e - m) ++ (List.range' (s + (e - m)) (m - s) ++ List.range' e (b - e))) := by
      rw [rg_app (s + (e - m)) (m - s) e _ (by omega), rg_app s (e - m) (s + (e - m)) _ rfl, rg_app a (s - a) s _ (by omega)]
      congr 1; omega
    have e2 : List.range' a (b - a) = List.range' a (s - a) ++ (List.range' s (m - s) ++ (List.range' m (e - m) ++ List.range' e (b - e))) := by
      rw [rg_app m (e - m) e _ (by omega), rg_app s (m - s) m _ (by omega), rg_app a (s - a) s _ (by omega)]
      congr 1; omega
    conv => lhs; rw [e1]
    conv => rhs; rw [e2]
    simp only [List.map_append]
    have p1 : (List.range' a (s - a)).map (fun i => d'[i]!) = (List.range' a (s - a)).map (fun i => d[i]!) := List.map_congr_left fun t ht => by
      have := List.mem_range'_1.1 ht
      rw [h]; unfold rotG; rw [if_neg (by omega), if_neg (by omega)]
    have p4 : (List.range' e (b - e)).map (fun i => d'[i]!) = (List.range' e (b - e)).map (fun i => d[i]!) := List.map_congr_left fun t ht => by
      have := List.mem_range'_1.1 ht
      rw [h]; unfold rotG; rw [if_neg (by omega), if_neg (by omega)]
    have p2 : (List.range' s (e - m)).map (fun i => d'[i]!) = (List.range' m (e - m)).map (fun i => d[i]!) := by
      apply List.ext_getElem
      · simp
      · intro k hk1 hk2
        simp at hk1
        simp [h]
        unfold rotG; rw [if_pos (by omega)]; congr 1; omega
    have p3 : (List.range' (s + (e - m)) (m - s)).map (fun i => d'[i]!) = (List.range' s (m - s)).map (fun i => d[i]!) := by
      apply List.ext_getElem
      · simp
      · intro k hk1 hk2
        simp at hk1
        simp [h]
        unfold rotG; rw [if_neg (by omega), if_pos (by omega)]; congr 1; omega
    rw [p1, p2, p3, p4]
    refine List.Perm.append_left _ ?_
    rw [← List.append_assoc, ← List.append_assoc]
    exact List.Perm.append_right _ List.perm_append_comm

def Asc (lt : α → α → Bool) (a b : Nat) (d : Array α) : Prop := ∀ i j, a ≤ i → i < j → j < b → lt d[i]! d[j]! = true

structure MPre (cf : α → α → Int) (lt : α → α → Bool) (d : Array α) (a m b : Nat) : Prop where
  am : a ≤ m
  mb : m ≤ b
  bs : b ≤ d.size
  s1 : Asc lt a m d
  s2 : Asc lt m b d
  c1 : ∀ i j, a ≤ i → i < m → m ≤ j → j < b → lt d[j]! d[i]! = decide (cf d[j]! d[i]! < 0)
  c2 : ∀ i j, a ≤ i → i < m → m ≤ j → j < b → lt d[i]! d[j]! = !decide (cf d[j]! d[i]! < 0)

def MPost (lt : α → α → Bool) (d : Array α) (a b : Nat) (d' : Array α) : Prop := PermIn a b d d' ∧ Asc lt a b d'

section
variable {cf : α → α → Int} {lt : α → α → Bool} {d d' : Array α} {a m b : Nat}

theorem Asc.le (hS : SWO lt) (h : Asc lt a b d) {i j : Nat} (h1 : a ≤ i) (h2 : i ≤ j) (h3 : j < b) {x : α} (hx : lt d[j]! x = true) : lt d[i]! x = true := by
  by_cases e : i = j
  · subst e; exact hx
  · exact hS.trans _ _ _ (h i j h1 (by omega) h3) hx
theorem Asc.ge (hS : SWO lt) (h : Asc lt a b d) {i j : Nat} (h1 : a ≤ i) (h2 : i ≤ j) (h3 : j < b) {x : α} (hx : lt x d[i]! = true) : lt x d[j]! = true := by
  by_cases e : i = j
  · subst e; exact hx
  · exact hS.trans _ _ _ hx (h i j h1 (by omega) h3)

theorem MPre.split (h : MPre cf lt d a m b) {s e : Nat} (h1 : a ≤ s) (h2 : s ≤ m) (h3 : m ≤ e) (h4 : e ≤ b) (k1 : ∀ i j, s ≤ i → i < m → m ≤ j → j < e → lt d[j]! d[i]! = true) (k2 : ∀ i j, a ≤ i → i < s → e ≤ j → j < b → lt d[i]! d[j]! = true)
    (hs : d'.size = d.size) (hr : ∀ t, d'[t]! = rotG d s m e t) :
    PermIn a b d d' ∧ MPre cf lt d' a s (s + (e - m)) ∧ MPre cf lt d' (s + (e - m)) e b ∧ ∀ i j, a ≤ i → i < s + (e - m) → s + (e - m) ≤ j → j < b → lt d'[i]! d'[j]! = true := by
  have g1 : ∀ t, t < s ∨ e ≤ t → d'[t]! = d[t]! := fun t ht => by rw [hr]; unfold rotG; rw [if_neg (by omega), if_neg (by omega)]
  have g2 : ∀ t, s ≤ t → t < s + (e - m) → d'[t]! = d[t + (m - s)]! := fun t ht ht2 => by rw [hr]; unfold rotG; rw [if_pos (by omega)]
  have g3 : ∀ t, s + (e - m) ≤ t → t < e → d'[t]! = d[t - (e - m)]! := fun t ht ht2 => by rw [hr]; unfold rotG; rw [if_neg (by omega), if_pos (by omega)]
  have hbs := h.bs
  refine ⟨rot_perm h1 h2 h3 h4 hbs hs hr, ⟨by omega, by omega, by omega, ?_, ?_, ?_, ?_⟩, ⟨by omega, by omega, by omega, ?_, ?_, ?_, ?_⟩, ?_⟩
  · intro i j q1 q2 q3
    rw [g1 i (by omega), g1 j (by omega)]; exact h.s1 i j q1 q2 (by omega)
  · intro i j q1 q2 q3
    rw [g2 i (by omega) (by omega), g2 j (by omega) (by omega)]; exact h.s2 _ _ (by omega) (by omega) (by omega)
  · intro i j q1 q2 q3 q4
    rw [g1 i (by omega), g2 j (by omega) (by omega)]; exact h.c1 _ _ (by omega) (by omega) (by omega) (by omega)
  · intro i j q1 q2 q3 q4
    rw [g1 i (by omega), g2 j (by omega) (by omega)]; exact h.c2 _ _ (by omega) (by omega) (by omega) (by omega)
  · intro i j q1 q2 q3
    rw [g3 i (by omega) (by omega), g3 j (by omega) (by omega)]; exact h.s1 _ _ (by omega) (by omega) (by omega)
  · intro i j q1 q2 q3
    rw [g1 i (by omega), g1 j (by omega)]; exact h.s2 _ _ (by omega) (by omega) (by omega)
  · intro i j q1 q2 q3 q4
    rw [g3 i (by omega) (by omega), g1 j (by omega)]; exact h.c1 _ _ (by omega) (by omega) (by omega) (by omega)
  · intro i j q1 q2 q3 q4
    rw [g3 i (by omega) (by omega), g1 j (by omega)]; exact h.c2 _ _ (by omega) (by omega) (by omega) (by omega)
  · intro i j q1 q2 q3 q4
    by_cases u1 : i < s
    · rw [g1 i (by omega)]
      by_cases u2 : j < e
      · rw [g3 j (by omega) (by omega)]; exact h.s1 _ _ (by omega) (by omega) (by omega)
      · rw [g1 j (by omega)]; exact k2 _ _ (by omega) (by omega) (by omega) (by omega)
    · rw [g2 i (by omega) (by omega)]
      by_cases u2 : j < e
      · rw [g3 j (by omega) (by omega)]; exact k1 _ _ (by omega) (by omega) (by omega) (by omega)
      · rw [g1 j (by omega)]; exact h.s2 _ _ (by omega) (by omega) (by omega)

theorem asc_join {q : Nat} {d1 d2 : Array α} (h1 : a ≤ q) (h2 : q ≤ b) (hb : b ≤ d.size) (hx : ∀ i j, a ≤ i → i < q → q ≤ j → j < b → lt d[i]! d[j]! = true) (p1 : PermIn a q d d1) (p2 : PermIn q b d1 d2) (a1 : Asc lt a q d1) (a2 : Asc lt q b d2) : PermIn a b d d2 ∧ Asc lt a b d2 := by
  have s1 := p1.1
  have s2 := p2.1
  refine ⟨permIn_trans _ _ _ _ _ (permIn_mono _ _ _ _ _ _ (Nat.le_refl a) h2 hb p1) (permIn_mono _ _ _ _ _ _ h1 (Nat.le_refl b) (by omega) p2), fun i j q1 q2 q3 => ?_⟩
  by_cases u1 : j < q
  · rw [p2.2.1 i (by omega), p2.2.1 j (by omega)]; exact a1 i j q1 q2 u1
  · by_cases u2 : i < q
    · rw [p2.2.1 i (by omega)]
      refine permIn_all _ _ q b (fun y => lt d1[i]! y = true) (by omega) p2 (fun t t1 t2 => ?_) j (by omega) q3
      rw [p1.2.1 t (by omega)]
      refine permIn_all _ _ a q (fun y => lt y d[t]! = true) (by omega) p1 (fun u v1 v2 => ?_) i q1 u2
      exact hx u t v1 v2 t1 t2
    · exact a2 i j (by omega) q2 q3

theorem merge_one_left (hS : SWO lt) (h : MPre cf lt d a (a + 1) b) {i : Nat} (h1 : a + 1 ≤ i) (h2 : i ≤ b) (k1 : i = a + 1 ∨ cf d[i - 1]! d[a]! < 0) (k2 : i = b ∨ ¬ cf d[i]! d[a]! < 0) (hs : d'.size = d.size) (hr : ∀ t, d'[t]! = rotG d a (a + 1) i t) : MPost lt d a b d' := by
  obtain ⟨p, m1, m2, hx⟩ := h.split (Nat.le_refl a) (by omega) h1 h2 (fun u v u1 u2 v1 v2 => by
    obtain rfl : u = a := by omega
    rcases k1 with k1 | k1
    · omega
    · refine h.s2.le hS (j := i - 1) (by omega) (by omega) (by omega) ?_
      rw [h.c1 _ _ (by omega) (by omega) (by omega) (by omega)]; simpa using k1) (fun u v u1 u2 => by omega) hs hr
  have e1 : ∀ u v, a + (i - (a + 1)) ≤ u → u < v → v < b → lt d'[u]! d'[v]! = true := by
    intro u v u1 u2 v2
    by_cases hu : i ≤ u
    · exact m2.s2 u v hu u2 v2
    · obtain rfl : u = a + (i - (a + 1)) := by omega
      have c0 : ∀ v, i ≤ v → v < b → lt d'[a + (i - (a + 1))]! d'[v]! = !decide (cf d'[v]! d'[a + (i - (a + 1))]! < 0) := fun v w1 w2 => m2.c2 _ _ (by omega) (by omega) w1 w2
      have g0 : d'[a + (i - (a + 1))]! = d[a]! := by rw [hr]; unfold rotG; rw [if_neg (by omega), if_pos (by omega)]; congr 1; omega
      have gi : d'[i]! = d[i]! := by rw [hr]; unfold rotG; rw [if_neg (by omega), if_neg (by omega)]
      have ci : lt d'[a + (i - (a + 1))]! d'[i]! = true := by
        rw [c0 i (Nat.le_refl i) (by omega), g0, gi]
        rcases k2 with k2 | k2
        · omega
        · simpa using k2
      exact m2.s2.ge hS (i := i) (Nat.le_refl i) (by omega) v2 ci
  refine ⟨p, fun u v u1 u2 v2 => ?_⟩
  by_cases hv : v < a + (i - (a + 1))
  · exact m1.s2 u v u1 u2 hv
  · by_cases hu : u < a + (i - (a + 1))
    · exact hx u v u1 hu (by omega) v2
    · exact e1 u v (by omega) u2 v2

theorem merge_one_right (hS : SWO lt) (h : MPre cf lt d a m (m + 1)) {i : Nat} (h1 : a ≤ i) (h2 : i ≤ m) (k1 : i = a ∨ ¬ cf d[m]! d[i - 1]! < 0) (k2 : i = m ∨ cf d[m]! d[i]! < 0) (hs : d'.size = d.size) (hr : ∀ t, d'[t]! = rotG d i m (m + 1) t) : MPost lt d a (m + 1) d' := by
  obtain ⟨p, m1, m2, hx⟩ := h.split h1 h2 (Nat.le_succ m) (Nat.le_refl _) (fun u v u1 u2 v1 v2 => by
    obtain rfl : v = m := by omega
    rcases k2 with k2 | k2
    · omega
    · refine h.s1.ge hS (i := i) (by omega) u1 u2 ?_
      rw [h.c1 _ _ (by omega) (by omega) (by omega) (by omega)]; simpa using k2) (fun u v u1 u2 v1 v2 => by omega) hs hr
  have gi : d'[i]! = d[m]! := by rw [hr]; unfold rotG; rw [if_pos (by omega)]; congr 1; omega
  have gp : ∀ u, u < i → d'[u]! = d[u]! := fun u hu => by rw [hr]; unfold rotG; rw [if_neg (by omega), if_neg (by omega)]
  refine ⟨p, fun u v u1 u2 v2 => ?_⟩
  by_cases hv : i < v
  · by_cases hu : u ≤ i
    · exact hx u v u1 (by omega) (by omega) v2
    · exact m2.s1 u v (by omega) u2 v2
  · by_cases hvi : v = i
    · subst hvi
      have ci : lt d[v - 1]! d[m]! = true := by
        rw [h.c2 _ _ (by omega) (by omega) (by omega) (by omega)]
        rcases k1 with k1 | k1
        · omega
        · simpa using k1
      rw [gi, gp u u2]
      exact h.s1.le hS u1 (by omega : u ≤ v - 1) (by omega) ci
    · exact m1.s1 u v u1 u2 (by omega)

theorem merge_split (hS : SWO lt) (h : MPre cf lt d a m b) {mid s e s0 r0 : Nat} (hmid : mid = (a + b) / 2) (ha2 : a + 2 ≤ m) (hb2 : m + 2 ≤ b) (hse : e = mid + m - s) (h0 : s0 = if mid < m then mid + m - b else a) (hr0 : r0 = if mid < m then mid else m) (q1 : s0 ≤ s) (q2 : s ≤ r0)
    (k1 : s = s0 ∨ ¬ cf d[mid + m - s]! d[s - 1]! < 0) (k2 : s = r0 ∨ cf d[mid + m - 1 - s]! d[s]! < 0) (hs : d'.size = d.size) (hr : ∀ t, d'[t]! = rotG d s m e t) :
    s ≤ m ∧ m ≤ e ∧ e ≤ b ∧ a ≤ s ∧ s ≤ mid ∧ mid ≤ e ∧ PermIn a b d d' ∧ MPre cf lt d' a s mid ∧ MPre cf lt d' mid e b ∧ ∀ i j, a ≤ i → i < mid → mid ≤ j → j < b → lt d'[i]! d'[j]! = true := by
  have z1 : s ≤ m ∧ m ≤ e ∧ e ≤ b ∧ a ≤ s ∧ s ≤ mid ∧ mid ≤ e := by
    by_cases hc : mid < m
    · rw [if_pos hc] at h0 hr0; refine ⟨?_, ?_, ?_, ?_, ?_, ?_⟩ <;> omega
    · rw [if_neg hc] at h0 hr0; refine ⟨?_, ?_, ?_, ?_, ?_, ?_⟩ <;> omega
  obtain ⟨y1, y2, y3, y4, y5, y6⟩ := z1
  have hmm : s + (e - m) = mid := by omega
  obtain ⟨p, m1, m2, hx⟩ := h.split y4 y1 y2 y3 (fun u v u1 u2 v1 v2 => by
    rcases k2 with k2 | k2
    · exfalso
      split at hr0 <;> omega
    · have c0 : lt d[e - 1]! d[s]! = true := by
        rw [h.c1 _ _ (by omega) (by omega) (by omega) (by omega), show e - 1 = mid + m - 1 - s by omega]; simpa using k2
      exact h.s2.le hS v1 (by omega : v ≤ e - 1) (by omega) (h.s1.ge hS y4 u1 u2 c0)) (fun u v u1 u2 v1 v2 => by
    rcases k1 with k1 | k1
    · exfalso
      split at h0 <;> omega
    · have c0 : lt d[s - 1]! d[e]! = true := by
        rw [h.c2 _ _ (by omega) (by omega) (by omega) (by omega), hse]; simpa using k1
      exact h.s1.le hS u1 (by omega : u ≤ s - 1) (by omega) (h.s2.ge hS y2 v1 v2 c0)) hs hr
  rw [hmm] at m1 m2 hx
  exact ⟨y1, y2, y3, y4, y5, y6, p, m1, m2, hx⟩

theorem MPre.nil_left (h : MPre cf lt d a a b) : MPost lt d a b d := ⟨permIn_refl _ _ _, h.s2⟩
theorem MPre.nil_right (h : MPre cf lt d a b b) : MPost lt d a b d := ⟨permIn_refl _ _ _, h.s1⟩
theorem MPre.elsewhere (h : MPre cf lt d a m b) (hs : d'.size = d.size) (he : ∀ t, a ≤ t → t < b → d'[t]! = d[t]!) : MPre cf lt d' a m b := by
  have am := h.am
  have mb := h.mb
  have bs := h.bs
  refine ⟨h.am, h.mb, by omega, ?_, ?_, ?_, ?_⟩
  · intro i j q1 q2 q3
    rw [he i (by omega) (by omega), he j (by omega) (by omega)]; exact h.s1 i j q1 q2 q3
  · intro i j q1 q2 q3
    rw [he i (by omega) (by omega), he j (by omega) (by omega)]; exact h.s2 i j q1 q2 q3
  · intro i j q1 q2 q3 q4
    rw [he i (by omega) (by omega), he j (by omega) (by omega)]; exact h.c1 i j q1 q2 q3 q4
  · intro i j q1 q2 q3 q4
    rw [he i (by omega) (by omega), he j (by omega) (by omega)]; exact h.c2 i j q1 q2 q3 q4
end
end Go.Proofs.YtoimjjhopljdmaaGreat
namespace Go.Proofs.YtoimjjhopljdmaaGreat
open Go.Shelf Go.RowKit Go.Lib Go.Sort Go.Proofs

variable {α : Type} [Inhabited α]

def Rotd (enc : α → List Value) (w0 : World) (blk off : Nat) (d : Array α) (a m b : Nat) (w' : World) : Prop :=
  ∃ d' : Array α, d'.size = d.size ∧ (∀ t, d'[t]! = rotG d a m b t) ∧ SWK enc 11 w0 blk off d' w'


set_option maxHeartbeats 4000000 in
set_option maxRecDepth 1000000 in
theorem rotate_any (enc : α → List Value) (f : Value) (blk off cap a m b : Nat) (d0 d : Array α) (w0 w : World)
    (R : RowK enc 11 w0 blk off d0) (hs : d0.size = d.size) (S : SWK enc 11 w0 blk off d w) (ham : a < m) (hmb : m < b) (hb : b ≤ d.size) (hsz : d.size < 4611686018427387904) :
    Calls Tryz.prog 181 #[.slice (some ⟨blk, off, none⟩) d.size cap, .int .i64 a, .int .i64 m, .int .i64 b, f] w fun e w' => e = .returned (.tuple #[]) ∧ Rotd enc w0 blk off d a m b w' := by
  have S0 : Aside (SWK enc 11 w0 blk off d w) := S
  clear S
  have b1 : (b : Int) ≤ (d.size : Int) := by omega
  have b2 : (a : Int) < (m : Int) := by omega
  have b3 : (m : Int) < (b : Int) := by omega
  go_enter Tryz.func181, Tryz.ntmps181
  go_wp2_with fail
  go_loopg [10, 11] (b - a) (fun kx si sj wr => ∃ (i j : Nat) (dk : Array α), si = .int .i64 i ∧ sj = .int .i64 j ∧ 0 < i ∧ 0 < j ∧ i ≤ m ∧ m + j ≤ d.size ∧ i + j ≤ kx ∧ dk.size = d.size ∧ Hid (∀ t, rotG dk (m - i) m (m + j) t = rotG d a m b t) ∧ Aside (SWK enc 11 w0 blk off dk wr))
  case atStart => exact ⟨m - a, b - m, d, by congr 1; omega, by congr 1; omega, by omega, by omega, by omega, by omega, by omega, rfl, Lib.hid (fun t => by rw [show m - (m - a) = a by omega, show m + (b - m) = b by omega]), S0⟩
  case round =>
    clear S0
    obtain ⟨i, j, dk, rfl, rfl, hi0, hj0, him, hjs, hkx, hds, HE, S1⟩ := hrel
    have c1 : (i : Int) ≤ (m : Int) := by omega
    have c2 : (m : Int) + (j : Int) ≤ (d.size : Int) := by omega
    have c3 : 0 < (i : Int) := by omega
    have c4 : 0 < (j : Int) := by omega
    by_cases hij : j < i
    · have t1 : (j : Int) < (i : Int) := by omega
      have t2 : ((i : Int) != (j : Int)) = true := by simp; omega
      have q1 := swapRange enc f blk off cap (m - i) (m) j d0 dk w0 wr R (by omega) S1.out (by omega) (by omega) (by omega)
      rw [hds, show ((m - i : Nat) : Int) = (m : Int) - (i : Int) by omega, show ((m : Nat) : Int) = (m : Int) by omega] at q1
      have Q1 := Lib.hid q1
      clear q1
      go_wp2_with fail
      refine Q1.out.mono ?_
      rintro e w1 ⟨rfl, S2⟩
      have S3 : Aside _ := S2
      clear S2
      go_wp2_with fail
      go_roundg (i - j + j)
      case measure => omega
      case rel => exact ⟨i - j, j, swapN (m - i) m j dk, by congr 1; omega, rfl, by omega, hj0, by omega, hjs, by omega, by rw [size_swapN]; exact hds, Lib.hid (fun t => by rw [← HE.out t]; exact rot_left dk m i j him hij (by omega) t), S3⟩
    · by_cases hji : i < j
      · have t1 : ¬ (j : Int) < (i : Int) := by omega
        have t2 : ((i : Int) != (j : Int)) = true := by simp; omega
        have q1 := swapRange enc f blk off cap (m - i) (m + j - i) i d0 dk w0 wr R (by omega) S1.out (by omega) (by omega) (by omega)
        rw [hds, show ((m - i : Nat) : Int) = (m : Int) - (i : Int) by omega, show ((m + j - i : Nat) : Int) = (m : Int) + (j : Int) - (i : Int) by omega] at q1
        have Q1 := Lib.hid q1
        clear q1
        go_wp2_with fail
        refine Q1.out.mono ?_
        rintro e w1 ⟨rfl, S2⟩
        have S3 : Aside _ := S2
        clear S2
        go_wp2_with fail
        go_roundg (i + (j - i))
        case measure => omega
        case rel => exact ⟨i, j - i, swapN (m - i) (m + j - i) i dk, rfl, by congr 1; omega, hi0, by omega, him, by omega, by omega, by rw [size_swapN]; exact hds, Lib.hid (fun t => by rw [← HE.out t]; exact rot_right dk m i j him hji (by omega) t), S3⟩
      · obtain rfl : i = j := by omega
        clear hij hji
        have q1 := swapRange enc f blk off cap (m - i) (m) i d0 dk w0 wr R (by omega) S1.out (by omega) (by omega) (by omega)
        rw [hds, show ((m - i : Nat) : Int) = (m : Int) - (i : Int) by omega, show ((m : Nat) : Int) = (m : Int) by omega] at q1
        have Q1 := Lib.hid q1
        clear q1
        go_wp2_with fail
        refine Q1.out.mono ?_
        rintro e w1 ⟨rfl, S2⟩
        have S3 : Aside _ := S2
        clear S2
        go_wp2_with fail
        go_returns
        exact ⟨rfl, swapN (m - i) m i dk, by rw [size_swapN]; exact hds, fun t => by rw [← HE.out t]; exact rot_end dk m i him (by omega) t, S3.out⟩
end Go.Proofs.YtoimjjhopljdmaaGreat
