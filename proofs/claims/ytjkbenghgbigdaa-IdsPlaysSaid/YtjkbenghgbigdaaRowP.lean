/-
  IdsRow, plain: a shard whose free row and whose given names are told by two lists; what next, Free, Alive, List and Head make of it. No program here. No condition.
-/
import Derived.Test.YtjkbenghgbigdaaPoolN
namespace Go.Proofs.Ytjkbenghgbigdaa
open Go.RowKit
def FreeAt (m : Sh) (x : Id3) : Prop := x.1 = 0 ∧ 0 ≤ x.2.1 ∧ ∃ y : Ix, m.all[x.2.1.toNat]? = some y ∧ y.gen = x.2.2 ∧ y.alive = false
def LiveAt (m : Sh) (x : Id3) : Prop := x.1 = 0 ∧ 0 ≤ x.2.1 ∧ ∃ y : Ix, m.all[x.2.1.toNat]? = some y ∧ y.gen = x.2.2 ∧ y.alive = true
structure RowR (m : Sh) (row hv : List Id3) (k : Int) : Prop where
  g : Good m
  fr : m.free = row.map (·.2.1)
  rw : ∀ x ∈ row, FreeAt m x
  lv : ∀ x ∈ hv, LiveAt m x
  nd : ((row ++ hv).map (·.2.1)).Nodup
  ct : (ixList 0 0 m.all).length = hv.length
  gn : ∀ x ∈ row ++ hv, x.2.2 ≤ k

theorem ixList_set (x' : Ix) : ∀ (l : List Ix) (f : Nat) (x : Ix) (i : Int), l[f]? = some x → (ixList 0 i (l.set f x')).length + (if x.alive then 1 else 0) = (ixList 0 i l).length + (if x'.alive then 1 else 0)
  | y :: l, 0, x, i, h => by
    obtain rfl : y = x := by simpa using h
    simp only [List.set_cons_zero, ixList, List.length_append]
    split <;> split <;> simp <;> omega
  | y :: l, f + 1, x, i, h => by
    have ih := ixList_set x' l f x (i + 1) (by simpa using h)
    simp only [List.set_cons_succ, ixList, List.length_append]
    omega

theorem FreeAt.set {m : Sh} {x : Id3} {f : Int} {y : Ix} {fr : List Int} (h : FreeAt m x) (hf : 0 ≤ f) (hn : x.2.1 ≠ f) : FreeAt ⟨m.all.set f.toNat y, fr⟩ x := by
  obtain ⟨h1, h2, z, h3, h4⟩ := h
  exact ⟨h1, h2, z, by rw [List.getElem?_set_ne (by omega)]; exact h3, h4⟩
theorem LiveAt.set {m : Sh} {x : Id3} {f : Int} {y : Ix} {fr : List Int} (h : LiveAt m x) (hf : 0 ≤ f) (hn : x.2.1 ≠ f) : LiveAt ⟨m.all.set f.toNat y, fr⟩ x := by
  obtain ⟨h1, h2, z, h3, h4⟩ := h
  exact ⟨h1, h2, z, by rw [List.getElem?_set_ne (by omega)]; exact h3, h4⟩

/-- A name is given: the row's first. -/
theorem RowR.next {m : Sh} {r : Id3} {rs hv : List Id3} {k : Int} (h : RowR m (r :: rs) hv k) : ∃ (a : Int) (m' : Sh), nextF [m] 0 = ((r, a, true), [m']) ∧ RowR m' rs (hv ++ [r]) k := by
  obtain ⟨x, hx, hf, e, g⟩ := nextF_cons (M := [m]) (k := 0) rfl h.fr h.g
  obtain ⟨r0, r1, r2⟩ := r
  obtain ⟨e0, e1, y, e2, e3, e4⟩ := h.rw (r0, r1, r2) (by simp)
  simp only at e0 e1 e2 e3 hx hf e
  subst e0
  rw [hx] at e2
  obtain rfl := Option.some.inj e2
  have hnd := h.nd
  simp only [List.cons_append, List.map_cons, List.nodup_cons] at hnd
  have hne : ∀ z ∈ rs ++ hv, z.2.1 ≠ r1 := fun z hz e => hnd.1 (by rw [← e]; exact List.mem_map_of_mem hz)
  have hil := (List.getElem?_eq_some_iff.1 hx).1
  refine ⟨nxtAt x r1, _, by rw [e3] at e; simpa using e, ⟨g, rfl, fun z hz => (h.rw z (List.mem_cons_of_mem _ hz)).set e1 (hne z (List.mem_append_left _ hz)), fun z hz => ?_, ?_, ?_, fun z hz => ?_⟩⟩
  · rcases List.mem_append.1 hz with hz | hz
    · exact (h.lv z hz).set e1 (hne z (List.mem_append_right _ hz))
    · obtain rfl : z = (0, r1, r2) := by simpa using hz
      exact ⟨rfl, e1, nxtIx x, by simp only; rw [List.getElem?_set_self hil], by simpa [nxtIx] using e3, rfl⟩
  · rw [← List.append_assoc, List.map_append, List.nodup_append]
    refine ⟨hnd.2, by simp, fun a ha b hb => ?_⟩
    simp at hb
    subst hb
    intro e
    exact hnd.1 (by rw [← e]; exact ha)
  · have := ixList_set (nxtIx x) m.all r1.toNat x 0 hx
    rw [e4] at this
    simp [nxtIx] at this ⊢
    rw [this, h.ct]
  · refine h.gn z ?_
    simp only [List.mem_append, List.mem_cons, List.not_mem_nil, or_false] at hz ⊢
    rcases hz with hz | hz | rfl
    · exact .inl (.inr hz)
    · exact .inr hz
    · exact .inl (.inl rfl)

/-- A name is taken back. -/
theorem RowR.free {m : Sh} {row hv : List Id3} {k : Int} (h : RowR m row hv k) {j : Nat} {x : Id3} (hj : hv[j]? = some x) (hk : k + 1 < 1048576) :
    ∃ m' : Sh, freeF [m] 0 x.2.1 x.2.2 = (0, [m']) ∧ aliveF [m'] 0 x.2.1 x.2.2 = false ∧ freeF [m'] 0 x.2.1 x.2.2 = (9, [m']) ∧ RowR m' (row ++ [(0, x.2.1, x.2.2 + 1)]) (hv.eraseIdx j) (k + 1) := by
  have hmem := List.mem_of_getElem? hj
  obtain ⟨s, i0, gn⟩ := x
  obtain ⟨e0, e1, y, e2, e3, e4⟩ := h.lv _ hmem
  simp only at e0 e1 e2 e3
  subst e0
  obtain ⟨i, rfl⟩ := Int.eq_ofNat_of_zero_le e1
  rw [Int.toNat_natCast] at e2
  subst e3
  have hgk := h.gn _ (List.mem_append_right _ hmem)
  simp only at hgk
  obtain ⟨f1, f2⟩ := freeF_alive (M := [m]) (k := 0) rfl e2 e4 h.g
  have hil := (List.getElem?_eq_some_iff.1 e2).1
  have hrng := h.g.inv.rng i y e2
  have hfs : freedSh m i y = ⟨m.all.set i ⟨y.gen + 1, y.bound, false⟩, m.free ++ [(i : Int)]⟩ := by unfold freedSh; rw [if_pos (by omega)]
  rw [hfs] at f1 f2
  have hix : ixOf [(⟨m.all.set i ⟨y.gen + 1, y.bound, false⟩, m.free ++ [(i : Int)]⟩ : Sh)] 0 i = some ⟨y.gen + 1, y.bound, false⟩ := by
    simp [ixOf, shOf, List.getElem?_set_self hil]
  have hjl := (List.getElem?_eq_some_iff.1 hj).1
  have hperm : hv.Perm ((0, (i : Int), y.gen) :: hv.eraseIdx j) := by
    have e := (List.getElem?_eq_some_iff.1 hj).2
    rw [List.eraseIdx_eq_take_drop_succ]
    have h1 : hv = hv.take j ++ hv[j] :: hv.drop (j + 1) := by rw [List.getElem_cons_drop, List.take_append_drop]
    conv => lhs; rw [h1]
    rw [e]
    exact List.perm_middle
  have hnd : ((row ++ (0, (i : Int), y.gen) :: hv.eraseIdx j).map (·.2.1)).Nodup := ((hperm.append_left row).map _).nodup_iff.1 h.nd
  have hnd2 : (((0, (i : Int), y.gen) :: (row ++ hv.eraseIdx j)).map (fun z : Id3 => z.2.1)).Nodup := ((List.perm_middle).map (fun z : Id3 => z.2.1)).nodup_iff.1 hnd
  simp only [List.map_cons, List.nodup_cons] at hnd2
  have hne : ∀ z ∈ row ++ hv.eraseIdx j, z.2.1 ≠ (i : Int) := fun z hz e => hnd2.1 (by rw [← e]; exact List.mem_map_of_mem hz)
  refine ⟨_, by simpa using f1, by simp only [aliveF, hix]; rfl, by simp only [freeF, hix]; rw [if_neg (by omega)]; rfl, ⟨f2, by simp only; rw [h.fr]; simp, fun z hz => ?_, fun z hz => ?_, ?_, ?_, fun z hz => ?_⟩⟩
  · rcases List.mem_append.1 hz with hz | hz
    · have := (h.rw z hz).set (y := ⟨y.gen + 1, y.bound, false⟩) (fr := m.free ++ [(i : Int)]) (Int.natCast_nonneg i) (hne z (List.mem_append_left _ hz))
      simpa using this
    · obtain rfl : z = (0, (i : Int), y.gen + 1) := by simpa using hz
      exact ⟨rfl, e1, ⟨y.gen + 1, y.bound, false⟩, by simp [List.getElem?_set_self hil], rfl, rfl⟩
  · have hz2 := List.mem_of_mem_eraseIdx hz
    have := (h.lv z hz2).set (y := ⟨y.gen + 1, y.bound, false⟩) (fr := m.free ++ [(i : Int)]) (Int.natCast_nonneg i) (hne z (List.mem_append_right _ hz))
    simpa using this
  · have e : (row ++ [(0, (i : Int), y.gen + 1)] ++ hv.eraseIdx j).map (fun z : Id3 => z.2.1) = (row ++ (0, (i : Int), y.gen) :: hv.eraseIdx j).map (fun z : Id3 => z.2.1) := by simp
    show ((row ++ [(0, (i : Int), y.gen + 1)] ++ hv.eraseIdx j).map (fun z : Id3 => z.2.1)).Nodup
    rw [e]; exact hnd
  · have := ixList_set ⟨y.gen + 1, y.bound, false⟩ m.all i y 0 e2
    rw [e4] at this
    simp only [if_true, Bool.false_eq_true, if_false] at this
    rw [List.length_eraseIdx_of_lt hjl]
    have := h.ct
    simp only
    omega
  · simp only [List.mem_append, List.mem_singleton] at hz
    rcases hz with (hz | rfl) | hz
    · have := h.gn z (List.mem_append_left _ hz); omega
    · simp only; omega
    · have := h.gn z (List.mem_append_right _ (List.mem_of_mem_eraseIdx hz)); omega

theorem RowR.list {m : Sh} {row hv : List Id3} {k : Int} (h : RowR m row hv k) : (listF [m]).length = hv.length := by
  simp [listF, shList, h.ct]
theorem RowR.head {m : Sh} {row hv : List Id3} {k : Int} (h : RowR m row hv k) : ((headF [m] 0).2.2 == 8) = decide (row = []) := by
  cases row with
  | nil =>
    have : m.free = [] := by rw [h.fr]; rfl
    simp [headF, shOf, this]
  | cons r rs =>
    obtain ⟨_, _, y, hy, _⟩ := h.rw r (by simp)
    have hfr : m.free = r.2.1 :: rs.map (·.2.1) := by rw [h.fr]; rfl
    simp [headF, shOf, hfr, hy]
end Go.Proofs.Ytjkbenghgbigdaa
