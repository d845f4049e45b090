/-
  Slices of structs of one kind, whatever the kind: those that are read, those of the call's own. No condition.
-/
import Derived.Test.YtcnclcfipabimaaSoK
namespace Go.Proofs.Ytcnclcfipabimaa
open Go.RowKit
section
variable {β : Type} (enc : β → List Value) (T : TypeId) (size : Nat) (hk : ∀ x, (enc x).length = size)
/-- All their cells. -/
def cellsR (l : List β) : List Value := l.flatMap enc
theorem cellsR_app (l l' : List β) : cellsR enc (l ++ l') = cellsR enc l ++ cellsR enc l' := by simp [cellsR]
theorem cellsR_one (x : β) : cellsR enc [x] = enc x := by simp [cellsR]
theorem cellsR_nil : cellsR enc ([] : List β) = [] := rfl
theorem cellsR_mem {l : List β} (h1 : ∀ x, ∀ v ∈ enc x, v.oneCell' = true) : ∀ u ∈ cellsR enc l, u.oneCell' = true := fun u hu => by
  obtain ⟨b, _, hb⟩ := List.mem_flatMap.1 hu
  exact h1 b u hb
include hk in
theorem cellsR_len : ∀ l : List β, (cellsR enc l).length = l.length * size
  | [] => by simp [cellsR]
  | b :: l => by
    have h := cellsR_len l
    simp only [cellsR, List.flatMap_cons, List.length_append, hk, List.length_cons] at *
    rw [h, Nat.add_mul, Nat.one_mul, Nat.add_comm]
include hk in
theorem cellsR_get : ∀ (l : List β) (k j : Nat) (b : β), l[k]? = some b → j < size → (cellsR enc l)[k * size + j]? = (enc b)[j]?
  | c :: l, 0, j, b, h, hj => by
    obtain rfl : c = b := by simpa using h
    simp only [cellsR, List.flatMap_cons, Nat.zero_mul, Nat.zero_add]
    rw [List.getElem?_append_left (by rw [hk]; exact hj)]
  | c :: l, k + 1, j, b, h, hj => by
    have ih := cellsR_get l k j b (by simpa using h) hj
    simp only [cellsR, List.flatMap_cons] at *
    rw [List.getElem?_append_right (by rw [hk, Nat.add_mul]; omega), hk, show (k + 1) * size + j - size = k * size + j by rw [Nat.add_mul]; omega, ih]

/-- A slice that reads as these. -/
def RIn (w : World) (v : Value) (l : List β) : Prop :=
  ∃ p cap, v = .slice p l.length cap ∧ l.length ≤ maxLen ∧ (p = none → cap = 0) ∧ l.length ≤ cap ∧ (l ≠ [] → ∃ blk off, p = some ⟨blk, off, none⟩ ∧ blk < w.heap.size ∧ ∀ t u, (cellsR enc l)[t]? = some u → w.cell? ⟨blk, off + t, none⟩ = some u)
/-- A slice of the call's own that reads as these. -/
def RNew (w w' : World) (v : Value) (l : List β) : Prop := Sl w' T size v l.length (cellsR enc l) ∧ Below w.heap.size w w' ∧ ∀ g, v.ownBlock = some g → w.heap.size ≤ g
variable {enc T size}

theorem RIn.of_sl {w : World} {v : Value} {l : List β} (h : Sl w T size v l.length (cellsR enc l)) : RIn enc w v l := by
  obtain ⟨_, ⟨rfl, h0⟩ | ⟨g, off, cap, cur, rfl, hb, hn, hc, hsz, hr⟩⟩ := h
  · obtain rfl := List.eq_nil_of_length_eq_zero h0
    exact ⟨none, 0, rfl, by simp [maxLen], fun _ => rfl, Nat.le_refl _, fun h => absurd rfl h⟩
  · exact ⟨_, cap, rfl, by omega, (fun h => by cases h), hn, fun _ => ⟨g, off, rfl, (Array.getElem?_eq_some_iff.1 hb).1, fun t u hu => by simp [World.cell?, hb, hr t u hu]⟩⟩
theorem RIn.keep {w w' : World} {v : Value} {l : List β} (h : RIn enc w v l) (hb : Below w.heap.size w w') : RIn enc w' v l := by
  obtain ⟨p, cap, rfl, h1, h2, h3, h4⟩ := h
  refine ⟨p, cap, rfl, h1, h2, h3, fun hn => ?_⟩
  obtain ⟨blk, off, rfl, h5, h6⟩ := h4 hn
  exact ⟨blk, off, rfl, Nat.lt_of_lt_of_le h5 hb.size, fun t u hu => (hb.cell (p := ⟨blk, off + t, none⟩) h5).trans (h6 t u hu)⟩
include hk in
/-- The cells of one of them. -/
theorem RIn.cells {w : World} {v : Value} {l : List β} (h : RIn enc w v l) {k : Nat} {b : β} (hb : l[k]? = some b) : ∃ blk off cap, v = .slice (some ⟨blk, off, none⟩) l.length cap ∧ blk < w.heap.size ∧ ∀ j u, (enc b)[j]? = some u → w.cell? ⟨blk, off + k * size + j, none⟩ = some u := by
  obtain ⟨p, cap, rfl, _, _, _, h4⟩ := h
  obtain ⟨blk, off, rfl, h5, h6⟩ := h4 (fun e => by subst e; cases hb)
  refine ⟨blk, off, cap, rfl, h5, fun j u hj => ?_⟩
  have hj' : j < size := by have := (List.getElem?_eq_some_iff.1 hj).1; rwa [hk] at this
  have e := cellsR_get enc size hk l k j b hb hj'
  rw [Nat.add_assoc]
  exact h6 _ u (e.trans hj)
theorem RNew.rin {w0 w : World} {v : Value} {l : List β} (h : RNew enc T size w0 w v l) : RIn enc w v l := RIn.of_sl h.1
theorem RNew.grow {w0 w w' : World} {v : Value} {l : List β} (h : RNew enc T size w0 w v l) (hb : Below w.heap.size w w') : RNew enc T size w0 w' v l :=
  ⟨h.1.keep fun g hg => hb.block g (sl_lt h.1 hg), h.2.1.trans (hb.mono h.2.1.size), h.2.2⟩
theorem RNew.nil (w : World) : RNew enc T size w w (.slice none 0 0) ([] : List β) := ⟨⟨by simp [cellsR], .inl ⟨rfl, rfl⟩⟩, Below.refl _ _, fun g hg => by cases hg⟩
/-- The same, of a later beginning. -/
theorem RNew.since {w0 w1 w : World} {v : Value} {l : List β} (h : RNew enc T size w1 w v l) (hb : Below w0.heap.size w0 w1) : RNew enc T size w0 w v l :=
  ⟨h.1, hb.trans (h.2.1.mono hb.size), fun g hg => Nat.le_trans hb.size (h.2.2 g hg)⟩
theorem RNew.snoc {w0 w w1 : World} {v v' : Value} {l : List β} {b : β} (h : RNew enc T size w0 w v l) (hs : Sl w1 T size v' (l.length + 1) (cellsR enc l ++ enc b)) (ht : Turned w w1 v.ownBlock)
    (ho : v'.ownBlock = v.ownBlock ∨ ∃ g, v'.ownBlock = some g ∧ w.heap.size ≤ g) : RNew enc T size w0 w1 v' (l ++ [b]) := by
  refine ⟨?_, h.2.1.trans ⟨ht.os, ht.tape, ht.output, ht.size, fun k hk => ht.block k (by have := h.2.1.size; omega) fun e => by have := h.2.2 k e.symm; omega⟩, fun q hq => ?_⟩
  · rw [cellsR_app, cellsR_one]; simpa using hs
  · rcases ho with e | ⟨g', e, hg'⟩
    · exact h.2.2 q (by rw [← e]; exact hq)
    · rw [e] at hq
      cases hq
      exact Nat.le_trans h.2.1.size hg'
end
/-- Entities, both ways. -/
theorem bunCells_R (l : List Bun) : cellsR bunL l = bunCells l := rfl
end Go.Proofs.Ytcnclcfipabimaa
