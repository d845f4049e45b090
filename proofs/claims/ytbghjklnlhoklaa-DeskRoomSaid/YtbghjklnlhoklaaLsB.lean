/-
  Chapter 16, plain: behind any deeds a desk has as many shards as at first. No program here. No condition.
-/
import Derived.Test.YtbghjklnlhoklaaLsA
import Derived.Test.YtbghjklnlhoklaaMk23
namespace Go.Proofs.Ytbghjklnlhoklaa
open Go.RowKit
theorem res_len (D : Dk) (s i : Int) : (reservedF D s i).2.M.length = D.M.length := reserve_len _ _ _
theorem admit_len (c : Cfg) (D : Dk) (m : Cm) : (admitF c D m).2.M.length = D.M.length := by
  unfold admitF
  repeat' split
  all_goals first | rfl | exact take_len16 _ _ _ _
theorem begin_len (D : Dk) : (beginF D).2.M.length = D.M.length := by unfold beginF; split <;> rfl
theorem close_len (D : Dk) (l : List Nid) : (closeF D l).2.M.length = D.M.length := by
  unfold closeF
  split
  · rfl
  · exact frees_len _ _ _
theorem lapsed_len (D : Dk) : (lapsedF D).2.M.length = D.M.length := by unfold lapsedF lapseF; simp
theorem looked_len (c : Cfg) (D : Dk) (m : Cm) : (lookedF c D m).M.length = D.M.length := by
  unfold lookedF
  split
  · exact res_len _ _ _
  · rfl
theorem step_len16 (c : Cfg) (D : Dk) (kd : Int) (m : Cm) (l : List Nid) : (stepF c D kd m l).M.length = D.M.length := by
  unfold stepF
  split
  · split
    · exact looked_len _ _ _
    · rw [admit_len]; exact looked_len _ _ _
  split
  · exact admit_len _ _ _
  split
  · exact res_len _ _ _
  split
  · exact begin_len _
  split
  · exact close_len _ _
  split
  · exact lapsed_len _
  · rfl
theorem play_len (c : Cfg) (nm : Ded → List Nid) : ∀ (ds : List Ded) (D : Dk), (playF c nm D ds).M.length = D.M.length
  | [], _ => rfl
  | d :: ds, D => by
    unfold playF
    rw [List.foldl_cons]
    have := play_len c nm ds (stepF c D d.kd d.m (nm d))
    unfold playF at this
    rw [this, step_len16]
theorem newD_len (c : Cfg) : (newD c).M.length = (c.cols * c.rows).toNat := by simp [newD]
/-- What is told of the names that are somebody's. -/
theorem names_in {M : List Sh} {ids n : Nat} (hl : ∀ m ∈ M, m.all.length = ids) (hn : M.length = n) : ∀ (k : Nat) (x : Nid), ((listF M).map toNid)[k]? = some x → 0 ≤ x.s ∧ x.s < n ∧ 0 ≤ x.i ∧ x.i < ids := by
  intro k x hx
  rw [List.getElem?_map] at hx
  cases hy : (listF M)[k]? with
  | none => rw [hy] at hx; cases hx
  | some y =>
    rw [hy] at hx
    obtain rfl : toNid y = x := by simpa using hx
    obtain ⟨j, i, h1, h2, h3, h4⟩ := shList_mem16 M 0 y hl (List.mem_of_getElem? hy)
    simp only [toNid]
    omega
theorem names_ne {M : List Sh} : ∀ (i k : Nat) (x y : Nid), k < i → ((listF M).map toNid)[i]? = some x → ((listF M).map toNid)[k]? = some y → ¬ (y.s = x.s ∧ y.i = x.i) := by
  intro i k x y hki hx hy
  rw [List.getElem?_map] at hx hy
  cases hu : (listF M)[i]? with
  | none => rw [hu] at hx; cases hx
  | some u =>
    cases hv : (listF M)[k]? with
    | none => rw [hv] at hy; cases hy
    | some v =>
      rw [hu] at hx
      rw [hv] at hy
      obtain rfl : toNid u = x := by simpa using hx
      obtain rfl : toNid v = y := by simpa using hy
      have hnd := shList_nodup M 0
      unfold NoDup at hnd
      rw [List.pairwise_iff_getElem] at hnd
      obtain ⟨h1, h2⟩ := List.getElem?_eq_some_iff.1 hu
      obtain ⟨h3, h4⟩ := List.getElem?_eq_some_iff.1 hv
      have := hnd k i h3 h1 hki
      simp only [listF] at h1 h2 h3 h4
      have e1 : (shList 0 M)[k] = v := h4
      have e2 : (shList 0 M)[i] = u := h2
      rw [e1, e2] at this
      exact this
theorem list_len {M : List Sh} {ids : Nat} (hl : ∀ m ∈ M, m.all.length = ids) (hi : ids ≤ 16) (hm : M.length ≤ 16) : ((listF M).map toNid).length ≤ 1000000 := by
  have key : ∀ (M : List Sh) (k : Int), (∀ m ∈ M, m.all.length = ids) → (shList k M).length ≤ M.length * ids := by
    intro M
    induction M with
    | nil => intro k _; exact Nat.zero_le _
    | cons m M ih =>
      intro k hl
      have h1 := ih (k + 1) fun m hm => hl m (List.mem_cons_of_mem _ hm)
      have h2 := ixList_len16 k m.all 0
      rw [hl m (by simp)] at h2
      simp only [shList, List.length_append, List.length_cons, Nat.succ_mul]
      omega
  rw [List.length_map]
  have h1 := key M 0 hl
  have h2 : M.length * ids ≤ 16 * 16 := Nat.mul_le_mul hm hi
  unfold listF
  omega
/-- How many names of a shard there are among the first ones. -/
def cntN (l : List Nid) (k : Int) : Nat := (l.filter fun x => x.s == k).length
theorem cntN_snoc (l : List Nid) (k : Int) {i : Nat} {x : Nid} (h : l[i]? = some x) : cntN (l.take (i + 1)) k = cntN (l.take i) k + if x.s = k then 1 else 0 := by
  have hlt := (List.getElem?_eq_some_iff.1 h).1
  unfold cntN
  rw [List.take_succ_eq_append_getElem hlt, (List.getElem?_eq_some_iff.1 h).2, List.filter_append, List.length_append]
  by_cases h : x.s = k <;> simp [h]
theorem cntN_le {M : List Sh} {ids : Nat} (hl : ∀ m ∈ M, m.all.length = ids) (k : Int) : cntN ((listF M).map toNid) k ≤ ids := by
  have h := shList_cnt M 0 k hl
  unfold cntN
  unfold cntS at h
  rw [List.filter_map, List.length_map]
  exact h
theorem cntN_le_len (l : List Nid) (k : Int) : cntN l k ≤ l.length := List.length_filter_le _ _
/-- All that are counted, of sixteen shards. -/
def manyL (l : List Nid) : List Value := (List.range 16).map fun (k : Nat) => .int .i64 ((cntN l (k : Int) : Nat) : Int)
theorem manyL_len (l : List Nid) : (manyL l).length = 16 := by simp [manyL]
theorem manyL_at (l : List Nid) {k : Nat} (h : k < 16) : (manyL l)[k]? = some (.int .i64 ((cntN l (k : Int) : Nat) : Int)) := by
  unfold manyL
  rw [List.getElem?_map, List.getElem?_range h]; rfl
theorem manyL_nil : manyL [] = List.replicate 16 (.int .i64 0) := by rfl
theorem manyL_step {l : List Nid} {i n : Nat} {x : Nid} (h : l[i]? = some x) (hs : x.s = (n : Int)) : manyL (l.take (i + 1)) = (manyL (l.take i)).set n (.int .i64 (((cntN (l.take i) x.s : Nat) : Int) + 1)) := by
  apply List.ext_getElem?
  intro j
  by_cases hj : j < 16
  · rw [manyL_at _ hj, List.getElem?_set, manyL_at _ hj, cntN_snoc l (j : Int) h, manyL_len]
    by_cases he : n = j
    · subst he
      rw [if_pos rfl, if_pos hj, if_pos hs, hs]
      simp
    · rw [if_neg he, if_neg (fun e => he (by omega)), Nat.add_zero]
  · rw [List.getElem?_eq_none (by rw [manyL_len]; omega), List.getElem?_set, manyL_len]
    split
    · rw [if_neg (by omega)]
    · rw [List.getElem?_eq_none (by rw [manyL_len]; omega)]
end Go.Proofs.Ytbghjklnlhoklaa
