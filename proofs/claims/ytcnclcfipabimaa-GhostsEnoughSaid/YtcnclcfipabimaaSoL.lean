/-
  The reference's sorting of entities, and finding, plain: they are the stable sort, and the first that does not come ahead. No program here. No condition.
-/
import Derived.Test.YtcnclcfipabimaaSoI
namespace Go.Proofs.Ytcnclcfipabimaa
open Go.Sort
def bef (x y : Bun) : Bool := beforeB x.s x.i x.g y.s y.i y.g
theorem bef_cmp (x y : Bun) : bef x y = decide (cmpBun x y < 0) := cmpId_before _ _ _ _ _ _

def rPos (x : Bun) (l : List Bun) : Nat → Nat
  | 0 => 0
  | k + 1 => if bef x (l.getD k default) then rPos x l k else k + 1
theorem rPos_le (x : Bun) (l : List Bun) : ∀ k, rPos x l k ≤ k
  | 0 => Nat.le_refl _
  | k + 1 => by
    have := rPos_le x l k
    unfold rPos
    split <;> omega
theorem rPos_lo (x : Bun) (l : List Bun) : ∀ k, rPos x l k = 0 ∨ bef x (l.getD (rPos x l k - 1) default) = false
  | 0 => .inl rfl
  | k + 1 => by
    unfold rPos
    split
    · exact rPos_lo x l k
    · rename_i h
      right
      rw [Nat.add_sub_cancel]
      simpa using h
theorem rPos_hi (x : Bun) (l : List Bun) : ∀ k t, rPos x l k ≤ t → t < k → bef x (l.getD t default) = true
  | 0, t, _, h => absurd h (Nat.not_lt_zero _)
  | k + 1, t, h1, h2 => by
    unfold rPos at h1
    split at h1
    · rename_i hb
      by_cases ht : t = k
      · subst ht; exact hb
      · exact rPos_hi x l k t h1 (by omega)
    · omega
def rIns (x : Bun) (l : List Bun) : List Bun := l.take (rPos x l l.length) ++ x :: l.drop (rPos x l l.length)
def rSort (l : List Bun) : List Bun := l.foldl (fun out x => rIns x out) []
theorem rSort_snoc (l : List Bun) (x : Bun) : rSort (l ++ [x]) = rIns x (rSort l) := by simp [rSort]
theorem rIns_len (x : Bun) (l : List Bun) : (rIns x l).length = l.length + 1 := by
  have := rPos_le x l l.length
  simp [rIns]; omega

theorem rIns_tag {n : Nat} (x : Bun) (T : List (Bun × Nat)) (hp : T.Pairwise fun a b => ltT cmpBun a b = true) (ht : ∀ y ∈ T, y.2 < n) :
    ∃ T' : List (Bun × Nat), T'.map (fun y => y.1) = rIns x (T.map fun y => y.1) ∧ T'.Perm ((x, n) :: T) ∧ T'.Pairwise fun a b => ltT cmpBun a b = true := by
  have hS := ltT_swo cmpBun_ok
  generalize hk : rPos x (T.map fun y => y.1) (T.map fun y => y.1).length = k
  have h1 := rPos_le x (T.map fun y => y.1) (T.map fun y => y.1).length
  have h2 := rPos_lo x (T.map fun y => y.1) (T.map fun y => y.1).length
  have h3 := rPos_hi x (T.map fun y => y.1) (T.map fun y => y.1).length
  rw [hk] at h1 h2 h3
  simp only [List.length_map] at h1 h3
  refine ⟨T.take k ++ (x, n) :: T.drop k, ?_, ?_, ?_⟩
  · unfold rIns
    rw [hk]
    simp [List.map_take, List.map_drop]
  · refine List.perm_middle.trans ?_
    rw [List.take_append_drop]
  · have hlo : ∀ y ∈ T.take k, ltT cmpBun y (x, n) = true := by
      intro y hy
      rcases h2 with h2 | h2
      · subst h2; simp at hy
      · by_cases hk0 : k = 0
        · subst hk0; simp at hy
        obtain ⟨j, hj, e⟩ := List.getElem_of_mem hy
        have hj' : j < k := by simp at hj; omega
        have hkl : k - 1 < T.length := by omega
        have e2 : (T.map fun y => y.1).getD (k - 1) default = T[k - 1].1 := by simp [List.getD, hkl]
        rw [e2, bef_cmp] at h2
        have hl : ltT cmpBun T[k - 1] (x, n) = true := by
          rw [(ltT_total cmpBun_ok (x := T[k - 1]) (y := (x, n)) (ht _ (List.getElem_mem hkl))).2, h2]; rfl
        have e3 : y = T[j] := by rw [← e]; simp
        rw [e3]
        by_cases hjk : j = k - 1
        · subst hjk; exact hl
        · exact hS.trans _ _ _ (List.pairwise_iff_getElem.1 hp j (k - 1) (by omega) hkl (by omega)) hl
    have hhi : ∀ y ∈ T.drop k, ltT cmpBun (x, n) y = true := by
      intro y hy
      obtain ⟨j, hj, e⟩ := List.getElem_of_mem hy
      have hj' : k + j < T.length := by simp at hj; omega
      have h4 := h3 (k + j) (by omega) hj'
      have e2 : (T.map fun y => y.1).getD (k + j) default = T[k + j].1 := by simp [List.getD, hj']
      rw [e2, bef_cmp] at h4
      have e3 : y = T[k + j] := by rw [← e]; simp
      rw [e3, (ltT_total cmpBun_ok (x := T[k + j]) (y := (x, n)) (ht _ (List.getElem_mem hj'))).1, h4]
    rw [List.pairwise_append]
    refine ⟨hp.sublist (List.take_sublist _ _), List.pairwise_cons.2 ⟨hhi, hp.sublist (List.drop_sublist _ _)⟩, fun y hy z hz => ?_⟩
    rcases List.mem_cons.1 hz with rfl | hz
    · exact hlo y hy
    · exact hS.trans _ _ _ (hlo y hy) (hhi z hz)

theorem rSort_tag (l : List Bun) : ∀ n, n ≤ l.length → ∃ T : List (Bun × Nat), T.map (fun y => y.1) = rSort (l.take n) ∧ T.Perm (l.take n).zipIdx ∧ T.Pairwise fun a b => ltT cmpBun a b = true
  | 0, _ => ⟨[], rfl, by simp, List.Pairwise.nil⟩
  | n + 1, h => by
    obtain ⟨T, h1, h2, h3⟩ := rSort_tag l n (by omega)
    have e : l.take (n + 1) = l.take n ++ [l[n]] := by rw [List.take_succ_eq_append_getElem (by omega)]
    obtain ⟨T', g1, g2, g3⟩ := rIns_tag (n := n) l[n] T h3 (fun y hy => by
      have := h2.mem_iff.1 hy
      have := List.mem_zipIdx this
      simp at this
      omega)
    refine ⟨T', by rw [g1, h1, e, rSort_snoc], ?_, g3⟩
    rw [e, List.zipIdx_append]
    refine g2.trans ((List.Perm.cons _ h2).trans ?_)
    have : (l.take n).length = n := by simp; omega
    simp [this]
    exact List.perm_append_comm (l₁ := [_])

theorem rSort_stable (l : List Bun) : rSort l = stableF cmpBun l := by
  obtain ⟨T, h1, h2, h3⟩ := rSort_tag l l.length (Nat.le_refl _)
  rw [List.take_length] at h1 h2
  have hl : T.length = l.length := by rw [h2.length_eq]; simp
  rw [← h1, ← stable_of cmpBun_ok (d := T.toArray) ?_ ?_]
  · refine ⟨by rw [size_tagd]; simpa using hl, fun i hi => ?_, ?_⟩
    · have h0 : l.length ≤ i := by omega
      rw [getElem!_neg _ _ (by simp; omega), getElem!_neg _ _ (by rw [size_tagd]; omega)]
    · have e1 : T.toArray.extract 0 l.length = T.toArray := by rw [← hl, ← List.size_toArray]; exact Array.extract_size
      have e2 : (tagd l).extract 0 l.length = tagd l := by
        have h := Array.extract_size (xs := tagd l)
        rwa [size_tagd] at h
      rw [e1, e2]
      simpa [tagd] using h2
  · intro i j _ hij hj
    rw [getElem!_pos _ i (by simp; omega), getElem!_pos _ j (by simp; omega)]
    simpa using List.pairwise_iff_getElem.1 h3 i j (by omega) (by omega) hij

/-- The first that does not come ahead of a name; whether it is of that name. -/
def findB (s i g : Int) : List Bun → Nat → Int × Bool
  | [], k => (k, false)
  | b :: l, k => if 0 ≤ cmpId b.s b.i b.g s i g then ((k : Int), cmpId b.s b.i b.g s i g == 0) else findB s i g l (k + 1)
theorem cmpId_zero (s i g s' i' g' : Int) : cmpId s i g s' i' g' = 0 ↔ s = s' ∧ i = i' ∧ g = g' := by
  unfold cmpId
  have h1 := cmpI_spec s s'; have h2 := cmpI_spec i i'; have h3 := cmpI_spec g g'
  repeat' split
  all_goals omega
end Go.Proofs.Ytcnclcfipabimaa
