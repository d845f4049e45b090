/-
  The names that a pool tells: which, unlike, and how many of a shard. Plain. No condition.
-/
import Derived.Test.YtbghjklnlhoklaaMk11
namespace Go.Proofs.Ytbghjklnlhoklaa
open Go.RowKit
theorem ixList_mem16 (k : Int) : ∀ (l : List Ix) (i : Int) (x : Id3), x ∈ ixList k i l → ∃ (j : Nat), j < l.length ∧ x.1 = k ∧ x.2.1 = i + j
  | [], _, _, h => by cases h
  | y :: l, i, x, h => by
    simp only [ixList, List.mem_append] at h
    rcases h with h | h
    · split at h
      · obtain rfl : x = (k, i, y.gen) := by simpa using h
        exact ⟨0, by simp, rfl, by simp⟩
      · cases h
    · obtain ⟨j, h1, h2, h3⟩ := ixList_mem16 k l (i + 1) x h
      exact ⟨j + 1, by simpa using h1, h2, by omega⟩
theorem shList_mem16 {ids : Nat} : ∀ (M : List Sh) (k : Int) (x : Id3), (∀ m ∈ M, m.all.length = ids) → x ∈ shList k M → ∃ (j i : Nat), j < M.length ∧ i < ids ∧ x.1 = k + j ∧ x.2.1 = i
  | [], _, _, _, h => by cases h
  | m :: M, k, x, hl, h => by
    simp only [shList, List.mem_append] at h
    rcases h with h | h
    · obtain ⟨i, h1, h2, h3⟩ := ixList_mem16 k m.all 0 x h
      exact ⟨0, i, by simp, by rw [← hl m (by simp)]; exact h1, by omega, by omega⟩
    · obtain ⟨j, i, h0, h1, h2, h3⟩ := shList_mem16 M (k + 1) x (fun m hm => hl m (List.mem_cons_of_mem _ hm)) h
      exact ⟨j + 1, i, by simpa using h0, h1, by omega, h3⟩
/-- No name twice. -/
def NoDup (l : List Id3) : Prop := l.Pairwise fun a b => ¬ (a.1 = b.1 ∧ a.2.1 = b.2.1)
theorem ixList_nodup (k : Int) : ∀ (l : List Ix) (i : Int), NoDup (ixList k i l)
  | [], _ => List.Pairwise.nil
  | y :: l, i => by
    have ih := ixList_nodup k l (i + 1)
    unfold NoDup at *
    simp only [ixList]
    rw [List.pairwise_append]
    refine ⟨?_, ih, fun a ha b hb => ?_⟩
    · split
      · exact List.pairwise_singleton _ _
      · exact List.Pairwise.nil
    · obtain ⟨j, _, _, h3⟩ := ixList_mem16 k l (i + 1) b hb
      split at ha
      · obtain rfl : a = (k, i, y.gen) := by simpa using ha
        intro h
        have := h.2
        simp only at this
        omega
      · cases ha
theorem shList_nodup : ∀ (M : List Sh) (k : Int), NoDup (shList k M)
  | [], _ => List.Pairwise.nil
  | m :: M, k => by
    have ih := shList_nodup M (k + 1)
    have h1 := ixList_nodup k m.all 0
    unfold NoDup at *
    simp only [shList]
    rw [List.pairwise_append]
    refine ⟨h1, ih, fun a ha b hb h => ?_⟩
    obtain ⟨_, _, h2, _⟩ := ixList_mem16 k m.all 0 a ha
    have key : ∀ (M : List Sh) (k : Int), b ∈ shList k M → k ≤ b.1 := by
      intro M
      induction M with
      | nil => intro k h; cases h
      | cons m M ih =>
        intro k h
        simp only [shList, List.mem_append] at h
        rcases h with h | h
        · obtain ⟨_, _, h2, _⟩ := ixList_mem16 k m.all 0 b h; omega
        · have := ih (k + 1) h; omega
    have := key M (k + 1) hb
    have := h.1
    omega
/-- How many names of a shard there are. -/
def cntS (l : List Id3) (k : Int) : Nat := (l.filter fun x => x.1 == k).length
theorem cntS_snoc (l : List Id3) (k : Int) (x : Id3) : cntS (l ++ [x]) k = cntS l k + if x.1 = k then 1 else 0 := by
  unfold cntS
  rw [List.filter_append, List.length_append]
  by_cases h : x.1 = k <;> simp [h]
theorem cntS_le_take (l : List Id3) (k : Int) (n : Nat) : cntS (l.take n) k ≤ cntS l k := by
  unfold cntS
  exact ((List.take_sublist n l).filter _).length_le
theorem ixList_len16 (k : Int) : ∀ (l : List Ix) (i : Int), (ixList k i l).length ≤ l.length
  | [], _ => Nat.le_refl _
  | y :: l, i => by
    have := ixList_len16 k l (i + 1)
    simp only [ixList, List.length_append, List.length_cons]
    split <;> simp <;> omega
theorem cntS_app (a b : List Id3) (k : Int) : cntS (a ++ b) k = cntS a k + cntS b k := by
  unfold cntS; rw [List.filter_append, List.length_append]
theorem cntS_none (l : List Id3) (k : Int) (h : ∀ x ∈ l, x.1 ≠ k) : cntS l k = 0 := by
  unfold cntS
  rw [List.length_eq_zero_iff, List.filter_eq_nil_iff]
  intro x hx
  simpa using h x hx
theorem shList_cnt {ids : Nat} : ∀ (M : List Sh) (k0 k : Int), (∀ m ∈ M, m.all.length = ids) → cntS (shList k0 M) k ≤ ids
  | [], _, _, _ => Nat.zero_le _
  | m :: M, k0, k, hl => by
    simp only [shList]
    rw [cntS_app]
    by_cases hk : k = k0
    · have h2 : cntS (shList (k0 + 1) M) k = 0 := cntS_none _ _ fun x hx => by
        obtain ⟨j, i, _, _, h3, _⟩ := shList_mem16 M (k0 + 1) x (fun m hm => hl m (List.mem_cons_of_mem _ hm)) hx
        omega
      have h1 : cntS (ixList k0 0 m.all) k ≤ ids := by
        unfold cntS
        have h3 := ixList_len16 k0 m.all 0
        rw [hl m (by simp)] at h3
        exact Nat.le_trans (List.length_filter_le _ _) h3
      omega
    · have h1 : cntS (ixList k0 0 m.all) k = 0 := cntS_none _ _ fun x hx => by
        obtain ⟨j, _, h3, _⟩ := ixList_mem16 k0 m.all 0 x hx
        omega
      have := shList_cnt M (k0 + 1) k (fun m hm => hl m (List.mem_cons_of_mem _ hm))
      omega
/-! The count of shards stays. -/
theorem setIx_len (M : List Sh) (k i : Int) (x : Ix) : (setIx M k i x).length = M.length := by unfold setIx; split <;> simp
theorem setFr_len (M : List Sh) (k : Int) (fr : List Int) : (setFr M k fr).length = M.length := by unfold setFr; split <;> simp
theorem addFr_len (M : List Sh) (k i : Int) : (addFr M k i).length = M.length := by unfold addFr; split <;> simp
theorem reserve_len (M : List Sh) (k i : Int) : (reserveF M k i).2.length = M.length := by
  unfold reserveF
  split
  · rfl
  · split
    · rfl
    · exact setIx_len _ _ _ _
theorem take_len16 (M : List Sh) (s i g : Int) : (takeF M s i g).2.length = M.length := by
  unfold takeF
  split
  · rfl
  · repeat' split
    all_goals first | rfl | (simp only [setFr_len, setIx_len])
theorem free_len16 (M : List Sh) (s i g : Int) : (freeF M s i g).2.length = M.length := by
  unfold freeF
  split
  · rfl
  · repeat' split
    all_goals first | rfl | (simp only [addFr_len, setIx_len])
theorem frees_len (M : List Sh) (n : Nat) (l : List Nid) : (freesF M n l).2.length = M.length := by
  induction l generalizing M n with
  | nil => rfl
  | cons x l ih => rw [freesF, ih, free_len16]
end Go.Proofs.Ytbghjklnlhoklaa
