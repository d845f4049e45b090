/-
  Names of a slice as a source of an append; one element cut out. No condition.
-/
import Derived.Test.YtjkbenghgbigdaaRowB
namespace Go.Proofs.Ytjkbenghgbigdaa
open Go.RowKit
theorem idCells_len (l : List Id3) : (idCells l).length = l.length * 3 := by
  induction l with
  | nil => simp [idCells]
  | cons x l ih =>
    have e : idCells (x :: l) = .int .i64 x.1 :: .int .i64 x.2.1 :: .int .i64 x.2.2 :: idCells l := by simp [idCells]
    rw [e]; simp only [List.length_cons, ih]; omega
theorem idCells_take : ∀ (j : Nat) (l : List Id3), (idCells l).take (j * 3) = idCells (l.take j)
  | 0, l => by simp [idCells]
  | j + 1, [] => by simp [idCells]
  | j + 1, x :: l => by
    have e : ∀ y l, idCells (y :: l) = .int .i64 y.1 :: .int .i64 y.2.1 :: .int .i64 y.2.2 :: idCells l := fun y l => by simp [idCells]
    rw [List.take_succ_cons, e, e, show (j + 1) * 3 = j * 3 + 1 + 1 + 1 by omega]
    simp only [List.take_succ_cons, idCells_take j l]
theorem idCells_drop : ∀ (j : Nat) (l : List Id3), (idCells l).drop (j * 3) = idCells (l.drop j)
  | 0, l => by simp
  | j + 1, [] => by simp [idCells]
  | j + 1, x :: l => by
    have e : ∀ y l, idCells (y :: l) = .int .i64 y.1 :: .int .i64 y.2.1 :: .int .i64 y.2.2 :: idCells l := fun y l => by simp [idCells]
    rw [List.drop_succ_cons, e, show (j + 1) * 3 = j * 3 + 1 + 1 + 1 by omega]
    simp only [List.drop_succ_cons, idCells_drop j l]
theorem idCells_one' (l : List Id3) : ∀ u ∈ idCells l, u.oneCell' = true := by
  intro u hu
  simp only [idCells, List.mem_flatMap] at hu
  obtain ⟨x, _, hx⟩ := hu
  simp at hx
  rcases hx with rfl | rfl | rfl <;> simp [Value.oneCell']

theorem addr_at (g off k : Nat) : Addr.add ⟨g, off, none⟩ k = ⟨g, off + k, none⟩ := by unfold Addr.add; split <;> simp_all
theorem Lst.src_take {w0 W : World} {F : Nat → Prop} {l : List Id3} {p : Option Addr} {n cap : Nat} (h : Lst w0 W F (.slice p n cap) l) {j : Nat} (hj : j ≤ l.length) : Src W 3 (.slice p j cap) j (idCells (l.take j)) := by
  refine ⟨by rw [idCells_len, List.length_take, Nat.min_eq_left hj], idCells_one' _, p, cap, rfl, fun h0 => ?_⟩
  obtain ⟨_, ⟨_, hn⟩ | ⟨g, off, cap', cur, hv, hb, _, _, _, hr⟩⟩ := h.sl
  · omega
  · simp only [Value.slice.injEq] at hv
    refine ⟨⟨g, off, none⟩, hv.1, fun k u hk => ?_⟩
    rw [← idCells_take, List.getElem?_take] at hk
    split at hk
    · have := hr k u hk
      rw [addr_at]
      simp [World.cell?, hb, this]
    · cases hk
theorem Lst.src_drop {w0 W : World} {F : Nat → Prop} {l : List Id3} {g off n cap c' : Nat} (h : Lst w0 W F (.slice (some ⟨g, off, none⟩) n cap) l) {j m : Nat} (hj : l.length = j + m) : Src W 3 (.slice (some ⟨g, off + j * 3, none⟩) m c') m (idCells (l.drop j)) := by
  refine ⟨by rw [idCells_len, List.length_drop, hj, Nat.add_sub_cancel_left], idCells_one' _, _, _, rfl, fun h0 => ⟨_, rfl, fun k u hk => ?_⟩⟩
  obtain ⟨_, ⟨_, hn⟩ | ⟨g', off', cap', cur, hv, hb, _, _, _, hr⟩⟩ := h.sl
  · omega
  · simp only [Value.slice.injEq, Option.some.injEq, Addr.mk.injEq, and_true] at hv
    obtain ⟨⟨rfl, rfl⟩, _, _⟩ := hv
    rw [← idCells_drop, List.getElem?_drop] at hk
    have := hr _ u hk
    rw [← Nat.add_assoc] at this
    rw [addr_at]
    simp [World.cell?, hb, this]
theorem Src.none {W : World} {p : Option Addr} {c : Nat} : Src W 3 (.slice p 0 c) 0 [] := ⟨by simp, by simp, p, c, rfl, fun h => by omega⟩

theorem Lst.src_cut {w0 W : World} {F : Nat → Prop} {l : List Id3} {g off n cap : Nat} (h : Lst w0 W F (.slice (some ⟨g, off, none⟩) n cap) l) {j : Nat} (hj : j + 1 ≤ l.length) (hc : l.length ≤ cap) :
    Src W 3 (.slice (if cap = j + 1 then some ⟨g, off, none⟩ else some ⟨g, off + (j + 1) * 3, none⟩) (l.length - (j + 1)) (cap - (j + 1))) (l.length - (j + 1)) (idCells (l.drop (j + 1))) := by
  split
  · rw [List.drop_of_length_le (by omega), show l.length - (j + 1) = 0 by omega]
    exact Src.none
  · exact Lst.src_drop h (by omega)

theorem Lst.turned {w0 W W' : World} {F : Nat → Prop} {v : Value} {l : List Id3} {b : Option Nat} (h : Lst w0 W F v l) (ht : Turned W W' b) (hn : ∀ g, v.ownBlock = some g → b ≠ some g) : Lst w0 W' F v l :=
  ⟨h.sl.keep fun g hg => ht.block g (h.sl.lt hg) fun e => hn g hg e.symm, h.ap⟩

/-- The list is another one, in a block that is new. -/
theorem Row2.fresh {w0 W W' : World} {L : Lay} {m : Sh} {P : Nat} {rv hv v' : Value} {row hav l' : List Id3} (h : Row2 w0 W L m P rv hv row hav) (hb : Below W.heap.size W W') (hs : Sl W' 30 3 v' l'.length (idCells l')) (ho : ∀ g, v'.ownBlock = some g → W.heap.size ≤ g) : Row2 w0 W' L m P rv v' row l' :=
  ⟨h.st.grow hb, h.r.grow hb, ⟨hs, fun g hg => ⟨Nat.le_trans h.st.hb.size (ho g hg), fun e => by have := h.st.hp.lt e; have := ho g hg; omega⟩⟩, fun g h1 h2 => by have := h.r.sl.lt h1; have := ho g h2; omega⟩

/-- Behind the cut: the list without one, in a block that is new. -/
def CutRow (W wx : World) (l : List Id3) (v : Value) : Prop := Below W.heap.size W wx ∧ Sl wx 30 3 v l.length (idCells l) ∧ (∀ g, v.ownBlock = some g → W.heap.size ≤ g) ∧ ∃ p cap, v = .slice p l.length cap

theorem Sl.empty {W : World} {g : Nat} {e : TypeId} {size : Nat} (h : W.heap[g]? = some (.cells #[] e (0, 0))) : Sl W e size (.slice (some ⟨g, 0, none⟩) 0 0) 0 [] :=
  ⟨by simp, .inr ⟨g, 0, 0, #[], rfl, h, Nat.le_refl _, Nat.zero_le _, by simp, by simp⟩⟩

theorem Below.of_turned {W W' W'' : World} {b : Option Nat} (h : Below W.heap.size W W') (ht : Turned W' W'' b) (hb : ∀ g, b = some g → W.heap.size ≤ g) : Below W.heap.size W W'' :=
  h.trans ⟨ht.os, ht.tape, ht.output, ht.size, fun k hk => ht.block k (Nat.lt_of_lt_of_le hk h.size) fun e => by have := hb k e.symm; omega⟩

theorem CutRow.mk {W w1 w6 w7 : World} {l : List Id3} {j : Nat} {p1 p2 : Option Addr} {c1 c2 : Nat} (hj : j < l.length) (h0 : Below W.heap.size W w1) (ht6 : Turned w1 w6 (some W.heap.size))
    (ho6 : (Value.slice p1 j c1).ownBlock = some W.heap.size ∨ ∃ g, (Value.slice p1 j c1).ownBlock = some g ∧ w1.heap.size ≤ g) (ht7 : Turned w6 w7 (Value.slice p1 j c1).ownBlock)
    (hs7 : Sl w7 30 3 (.slice p2 (j + (l.length - (j + 1))) c2) (j + (l.length - (j + 1))) (idCells (l.take j) ++ idCells (l.drop (j + 1))))
    (ho7 : (Value.slice p2 (j + (l.length - (j + 1))) c2).ownBlock = (Value.slice p1 j c1).ownBlock ∨ ∃ g, (Value.slice p2 (j + (l.length - (j + 1))) c2).ownBlock = some g ∧ w6.heap.size ≤ g) :
    CutRow W w7 (l.eraseIdx j) (.slice p2 (j + (l.length - (j + 1))) c2) := by
  have hb6 : Below W.heap.size W w6 := Below.of_turned h0 ht6 fun g e => by cases e; exact Nat.le_refl _
  have hp1 : ∀ g, (Value.slice p1 j c1).ownBlock = some g → W.heap.size ≤ g := by
    intro g e
    rcases ho6 with h | ⟨g', h, h'⟩
    · rw [h] at e; cases e; exact Nat.le_refl _
    · rw [h] at e; cases e; exact Nat.le_trans h0.size h'
  have hlen : (l.eraseIdx j).length = j + (l.length - (j + 1)) := by rw [List.length_eraseIdx_of_lt hj]; omega
  have hcells : idCells (l.eraseIdx j) = idCells (l.take j) ++ idCells (l.drop (j + 1)) := by rw [List.eraseIdx_eq_take_drop_succ, idCells_app]
  refine ⟨Below.of_turned hb6 ht7 hp1, by rw [hlen, hcells]; exact hs7, fun g e => ?_, p2, c2, by rw [hlen]⟩
  rcases ho7 with h | ⟨g', h, h'⟩
  · exact hp1 g (by rw [← h]; exact e)
  · rw [h] at e; cases e; exact Nat.le_trans hb6.size h'
end Go.Proofs.Ytjkbenghgbigdaa
