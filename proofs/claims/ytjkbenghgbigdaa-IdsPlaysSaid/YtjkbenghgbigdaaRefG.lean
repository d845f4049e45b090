/-
  The reference's pool of names: what Lapse makes of the slots, plain. No condition.
-/
import Derived.Test.YtjkbenghgbigdaaRefF
import Derived.Test.YtjkbenghgbigdaaOncA
namespace Go.Proofs.Ytjkbenghgbigdaa
open Go.RowKit
def lapsS (s : Slot) : Bool := decide (0 ≤ s.row) && decide (s.gen < s.bound)
def lapSlot (s : Slot) : Slot := if lapsS s then { s with gen := s.bound, row := if s.bound = 1048576 then -1 else s.row } else s
def lapRw (M : List Sh) (rw : Int → Int → Int) : Int → Int → Int := fun a b => match ixOf M a b with
  | some x => if 0 ≤ rw a b ∧ x.gen < x.bound ∧ x.bound = 1048576 then -1 else rw a b
  | none => rw a b
/-- Behind n slots. -/
def lapL (l : List Slot) (n : Nat) : List Slot := (l.take n).map lapSlot ++ l.drop n
theorem lapL_zero (l : List Slot) : lapL l 0 = l := by simp [lapL]
theorem lapL_all (l : List Slot) : lapL l l.length = l.map lapSlot := by simp [lapL]
theorem lapL_len (l : List Slot) (n : Nat) (h : n ≤ l.length) : (lapL l n).length = l.length := by simp [lapL]; omega
theorem lapL_get {l : List Slot} {n : Nat} {s : Slot} (hs : l[n]? = some s) : (lapL l n)[n]? = some s := by
  have hn := (List.getElem?_eq_some_iff.1 hs).1
  rw [lapL, List.getElem?_append_right (by simp; omega)]
  simp [Nat.min_eq_left (Nat.le_of_lt hn), hs]
theorem lapL_succ {l : List Slot} {n : Nat} {s : Slot} (hs : l[n]? = some s) : lapL l (n + 1) = (lapL l n).set n (lapSlot s) := by
  have hn := (List.getElem?_eq_some_iff.1 hs).1
  have e := (List.getElem?_eq_some_iff.1 hs).2
  have hd : l.drop n = s :: l.drop (n + 1) := by rw [List.drop_eq_getElem_cons hn, e]
  rw [lapL, lapL, List.take_succ_eq_append_getElem hn, e, hd, List.set_append_right _ _ (by simp; omega)]
  simp [Nat.min_eq_left (Nat.le_of_lt hn)]
def lapC (l : List Slot) : Nat := (l.filter lapsS).length
theorem lapC_succ {l : List Slot} {n : Nat} {s : Slot} (hs : l[n]? = some s) : lapC (l.take (n + 1)) = lapC (l.take n) + if lapsS s then 1 else 0 := by
  have hn := (List.getElem?_eq_some_iff.1 hs).1
  rw [List.take_succ_eq_append_getElem hn, (List.getElem?_eq_some_iff.1 hs).2]
  simp only [lapC, List.filter_append, List.length_append]
  cases h : lapsS s <;> simp [h]

variable {ids : Nat} {M : List Sh} {rw : Int → Int → Int} {put : Int}
theorem lapSh_get {m : Sh} (hg : Good m) {i : Nat} {x : Ix} (hx : m.all[i]? = some x) : (lapSh m).all[i]? = some (if (i : Int) ∈ m.free then lapIx x else x) := by
  have hn : ∀ f ∈ m.free, 0 ≤ f := fun f hf => (hg.inv.fr f hf).1
  simp only [lapSh]
  split
  · rename_i hi
    rw [lapAll_mem _ _ _ hn hg.inv.nd hi, hx]; rfl
  · rename_i hi
    rw [lapAll_ne _ _ _ hn hi, hx]
theorem lapSh_len (m : Sh) : (lapSh m).all.length = m.all.length := lapAll_len _ _
theorem lapRw_at {k i : Nat} {m : Sh} {x : Ix} (hm : M[k]? = some m) (hx : m.all[i]? = some x) : lapRw M rw k i = if 0 ≤ rw k i ∧ x.gen < x.bound ∧ x.bound = 1048576 then -1 else rw k i := by
  simp [lapRw, ixOf, shOf, hm, hx]

theorem mSlots_lap (h : Sim ids M rw put) : (mSlots rw 0 M).map lapSlot = mSlots (lapRw M rw) 0 (M.map lapSh) := by
  have hl' : ∀ a ∈ M.map lapSh, a.all.length = ids := by
    intro a ha
    obtain ⟨m, hm, rfl⟩ := List.mem_map.1 ha
    rw [lapSh_len]; exact h.len m hm
  apply List.ext_getElem?
  intro n
  rw [List.getElem?_map]
  cases hs : (mSlots rw 0 M)[n]? with
  | none =>
    have : (mSlots rw 0 M).length ≤ n := List.getElem?_eq_none_iff.1 hs
    rw [mSlots_len M 0 h.len] at this
    rw [Option.map_none, List.getElem?_eq_none (by rw [mSlots_len _ 0 hl', List.length_map]; exact this)]
  | some s =>
    obtain ⟨k, i, m, x, rfl, hi, hm, hx, rfl⟩ := mSlots_split h.len hs
    have hg := h.good m (List.mem_of_getElem? hm)
    have := mSlots_get (rw := lapRw M rw) (M.map lapSh) 0 k i (lapSh m) _ hl' (by simp [hm]) (lapSh_get hg hx)
    rw [this, Option.map_some]
    have hrow := (h.row k m hm i hi).1
    have hle := hg.le i x hx
    simp only [Int.zero_add, lapRw_at hm hx, Option.some.injEq]
    by_cases hf : (i : Int) ∈ m.free
    · have hr := hrow.2 hf
      rw [if_pos hf]
      by_cases hlt : x.gen < x.bound
      · have e : lapsS ⟨k, i, x.gen, x.bound, rw k i, x.alive⟩ = true := by simp [lapsS, hr, hlt]
        simp [lapSlot, e, lapIx, hlt, hr]
      · have e : lapsS ⟨k, i, x.gen, x.bound, rw k i, x.alive⟩ = false := by simp [lapsS, hlt]
        simp [lapSlot, e, lapIx, hlt]
    · have hr : ¬ 0 ≤ rw k i := fun hr => hf (hrow.1 hr)
      have e : lapsS ⟨k, i, x.gen, x.bound, rw k i, x.alive⟩ = false := by simp [lapsS]; omega
      simp [lapSlot, e, hf, hr]

theorem Sim.lapse (h : Sim ids M rw put) : Sim ids (M.map lapSh) (lapRw M rw) put := by
  have key : ∀ (k : Nat) (m' : Sh), (M.map lapSh)[k]? = some m' → ∃ m, M[k]? = some m ∧ m' = lapSh m := by
    intro k m' hm
    rw [List.getElem?_map] at hm
    obtain ⟨m, h1, h2⟩ := Option.map_eq_some_iff.1 hm
    exact ⟨m, h1, h2.symm⟩
  have kf : ∀ (k : Nat) (m : Sh), M[k]? = some m → ∀ (i : Nat), i < ids → ((i : Int) ∈ (lapSh m).free ↔ (i : Int) ∈ m.free ∧ ¬ (∃ x, m.all[i]? = some x ∧ x.gen < x.bound ∧ x.bound = 1048576)) := by
    intro k m hm i hi
    have hg := h.good m (List.mem_of_getElem? hm)
    have hal := h.len m (List.mem_of_getElem? hm)
    have hx : m.all[i]? = some m.all[i] := List.getElem?_eq_getElem (by omega)
    generalize m.all[i] = x at hx
    show (i : Int) ∈ m.free.filter (fun f => !(genAt (lapSh m).all f == 1048576)) ↔ _
    rw [List.mem_filter]
    refine ⟨fun ⟨h1, h2⟩ => ⟨h1, ?_⟩, fun ⟨h1, h2⟩ => ⟨h1, ?_⟩⟩
    · rintro ⟨y, hy, h3, h4⟩
      rw [hx] at hy
      obtain rfl := Option.some.inj hy
      have := lapSh_get hg hx
      rw [if_pos h1] at this
      have h5 : x.gen < 1048576 := by omega
      simp [genAt, this, lapIx, h4, h5] at h2
    · have := lapSh_get hg hx
      rw [if_pos h1] at this
      have hfg := hg.fg i h1 x (by simpa using hx)
      simp only [genAt, Int.toNat_natCast, this]
      by_cases hlt : x.gen < x.bound
      · simp only [lapIx, if_pos hlt]
        simp
        intro e
        exact h2 ⟨x, hx, hlt, e⟩
      · simp only [lapIx, if_neg hlt]
        simp
        omega
  refine ⟨⟨h.pos.1, h.pos.2.1, by simpa using h.pos.2.2⟩, fun m' hm0 => ?_, fun m' hm0 => ?_, fun k m' hm0 i hi => ?_, fun k m' hm0 => ?_, h.put⟩
  · obtain ⟨m, hm, rfl⟩ := List.mem_map.1 hm0
    rw [lapSh_len]; exact h.len m hm
  · obtain ⟨m, hm, rfl⟩ := List.mem_map.1 hm0
    exact lap_good (h.good m hm)
  · obtain ⟨m, hm, rfl⟩ := key k m' hm0
    have hal := h.len m (List.mem_of_getElem? hm)
    have hx : m.all[i]? = some m.all[i] := List.getElem?_eq_getElem (by omega)
    generalize m.all[i] = x at hx
    obtain ⟨r1, r2⟩ := h.row k m hm i hi
    have hp := h.put
    rw [lapRw_at hm hx, kf k m hm i hi]
    by_cases hc : 0 ≤ rw k i ∧ x.gen < x.bound ∧ x.bound = 1048576
    · rw [if_pos hc]
      refine ⟨⟨fun h => by omega, fun h => absurd ⟨x, hx, hc.2⟩ h.2⟩, by omega⟩
    · rw [if_neg hc]
      refine ⟨⟨fun h => ⟨r1.1 h, ?_⟩, fun h => r1.2 h.1⟩, r2⟩
      rintro ⟨y, hy, h3⟩
      rw [hx] at hy
      obtain rfl := Option.some.inj hy
      exact hc ⟨h, h3⟩
  · obtain ⟨m, hm, rfl⟩ := key k m' hm0
    have hg := h.good m (List.mem_of_getElem? hm)
    have hal := h.len m (List.mem_of_getElem? hm)
    have hsub : (lapSh m).free.Sublist m.free := List.filter_sublist
    have e : (lapSh m).free.map (lapRw M rw k) = (lapSh m).free.map (rw k) := by
      refine List.map_congr_left fun f hf => ?_
      have hfm := hsub.subset hf
      obtain ⟨h0, h1⟩ := hg.inv.fr f hfm
      obtain ⟨i, rfl⟩ := Int.eq_ofNat_of_zero_le h0
      have hi : i < ids := by omega
      have hx : m.all[i]? = some m.all[i] := List.getElem?_eq_getElem (by omega)
      rw [lapRw_at hm hx, if_neg]
      rintro ⟨_, h3⟩
      exact ((kf k m hm i hi).1 hf).2 ⟨_, hx, h3⟩
    rw [e]
    exact (h.ord k m hm).sublist (hsub.map _)

/-- So many lapse. -/
theorem ixSlots_cnt (k : Nat) (m : Sh) (hg : Good m) (hr : ∀ i : Nat, i < m.all.length → (0 ≤ rw k i ↔ (i : Int) ∈ m.free)) : lapC (ixSlots rw k 0 m.all) = lapN m := by
  have h1 : ixSlots rw k 0 m.all = (List.range m.all.length).map fun (i : Nat) => (⟨(k : Int), (i : Int), (m.all.getD i ⟨0, 0, false⟩).gen, (m.all.getD i ⟨0, 0, false⟩).bound, rw (k : Int) (i : Int), (m.all.getD i ⟨0, 0, false⟩).alive⟩ : Slot) := by
    apply List.ext_getElem?
    intro j
    rw [ixSlots_get, List.getElem?_map]
    by_cases hj : j < m.all.length
    · simp [List.getElem?_range hj, List.getElem?_eq_getElem hj, List.getD]
    · rw [List.getElem?_eq_none (by omega), List.getElem?_eq_none (by simp; omega)]; rfl
  have h2 : (m.free.filter (lapses m.all)).Perm (((List.range m.all.length).filter fun (i : Nat) => decide ((i : Int) ∈ m.free) && lapses m.all i).map Int.ofNat) := by
    refine (List.perm_ext_iff_of_nodup (hg.inv.nd.filter _) ?_).2 fun a => ?_
    · rw [List.nodup_iff_pairwise_ne, List.pairwise_map]
      exact (List.nodup_range.filter _).imp fun hne e => hne (Int.ofNat.inj e)
    · simp only [List.mem_filter, List.mem_map, List.mem_range, Bool.and_eq_true, decide_eq_true_eq]
      constructor
      · rintro ⟨h3, h4⟩
        obtain ⟨h0, h5⟩ := hg.inv.fr a h3
        obtain ⟨i, rfl⟩ := Int.eq_ofNat_of_zero_le h0
        exact ⟨i, ⟨by omega, h3, h4⟩, rfl⟩
      · rintro ⟨i, ⟨_, h3, h4⟩, rfl⟩
        exact ⟨h3, h4⟩
  rw [lapN, lapCnt, h2.length_eq, List.length_map, lapC, h1, List.filter_map, List.length_map]
  congr 1
  refine List.filter_congr fun i hi => ?_
  have hil := List.mem_range.1 hi
  have hrr := hr i hil
  simp only [Function.comp, lapsS, lapses, Int.toNat_natCast, List.getElem?_eq_getElem hil, List.getD, Option.getD_some]
  by_cases hf : (i : Int) ∈ m.free
  · simp [hf, hrr.2 hf]
  · have : ¬ 0 ≤ rw k i := fun h => hf (hrr.1 h)
    simp [hf, this]
theorem mSlots_cnt : ∀ (M : List Sh) (k0 : Nat), (∀ m ∈ M, Good m) → (∀ (k : Nat) (m : Sh), M[k]? = some m → ∀ i : Nat, i < m.all.length → (0 ≤ rw ((k0 + k : Nat) : Int) i ↔ (i : Int) ∈ m.free)) → lapC (mSlots rw k0 M) = (M.map lapN).sum
  | [], _, _, _ => by simp [mSlots, lapC]
  | m :: M, k0, hg, hr => by
    have h1 := ixSlots_cnt (rw := rw) k0 m (hg m (by simp)) (hr 0 m rfl)
    have h2 := mSlots_cnt M (k0 + 1) (fun m hm => hg m (List.mem_cons_of_mem _ hm)) fun k m hm i hi => by
      have := hr (k + 1) m (by simpa using hm) i hi
      rwa [show k0 + (k + 1) = k0 + 1 + k by omega] at this
    have e : lapC (mSlots rw k0 (m :: M)) = lapC (ixSlots rw k0 0 m.all) + lapC (mSlots rw ((k0 : Int) + 1) M) := by
      simp [mSlots, lapC, List.filter_append]
    rw [e, h1, List.map_cons, List.sum_cons, ← h2]
    rfl
theorem Sim.cnt (h : Sim ids M rw put) : lapC (mSlots rw 0 M) = (M.map lapN).sum :=
  mSlots_cnt M 0 h.good fun k m hm i hi => by
    have := (h.row k m hm i (by rw [← h.len m (List.mem_of_getElem? hm)]; exact hi)).1
    simpa using this
theorem lapC_le (l : List Slot) : lapC l ≤ l.length := List.length_filter_le _ _
end Go.Proofs.Ytjkbenghgbigdaa
