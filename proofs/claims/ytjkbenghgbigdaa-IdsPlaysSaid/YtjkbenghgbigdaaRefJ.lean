/-
  The reference's pool of names: New. No condition.
-/
import Derived.Test.YtjkbenghgbigdaaRefI
namespace Go.Proofs.Ytjkbenghgbigdaa
open Go.RowKit

def slCells (l : List Slot) : List Value := l.flatMap Slot.cells
def newL (ids n : Nat) : List Slot := (List.range n).map fun (j : Nat) => (⟨((j / ids : Nat) : Int), ((j % ids : Nat) : Int), 0, 0, (j : Int), false⟩ : Slot)
theorem newL_len (ids n : Nat) : (newL ids n).length = n := by simp [newL]
theorem newL_succ (ids n : Nat) : newL ids (n + 1) = newL ids n ++ [⟨((n / ids : Nat) : Int), ((n % ids : Nat) : Int), 0, 0, (n : Int), false⟩] := by simp [newL, List.range_succ]
theorem slCells_get : ∀ (l : List Slot) (n j : Nat) (s : Slot), l[n]? = some s → j < 6 → (slCells l)[n * 6 + j]? = s.cells[j]?
  | [], _, _, _, h, _ => by simp at h
  | t :: l, 0, j, s, h, hj => by
    obtain rfl : t = s := by simpa using h
    have e : slCells (t :: l) = t.cells ++ slCells l := by simp [slCells]
    rw [e, List.getElem?_append_left (by simp [Slot.cells]; omega)]
    simp
  | t :: l, n + 1, j, s, h, hj => by
    have e : slCells (t :: l) = t.cells ++ slCells l := by simp [slCells]
    have hl : t.cells.length = 6 := rfl
    rw [e, show (n + 1) * 6 + j = 6 + (n * 6 + j) by omega, List.getElem?_append_right (by rw [hl]; omega), hl, Nat.add_sub_cancel_left]
    exact slCells_get l n j s (by simpa using h) hj
theorem slCells_len (l : List Slot) : (slCells l).length = l.length * 6 := by
  induction l with
  | nil => simp [slCells]
  | cons s l ih =>
    have e : slCells (s :: l) = s.cells ++ slCells l := by simp [slCells]
    rw [e, List.length_append, ih, List.length_cons]
    simp [Slot.cells]; omega

/-- What has been made so far. -/
structure NewR (w wr : World) (ids n : Nat) (v : Value) : Prop where
  top : wr.heap[w.heap.size]? = some (.cells #[v, .int .i64 n] 103 (0, 0))
  sl : Sl wr 105 6 v n (slCells (newL ids n))
  ap : ∀ g, v.ownBlock = some g → w.heap.size ≤ g ∧ g ≠ w.heap.size
  hb : Below w.heap.size w wr

theorem NewR.later {w wr W : World} {ids n : Nat} {v : Value} (h : NewR w wr ids n v) (hb : Below wr.heap.size wr W) : NewR w W ids n v :=
  ⟨(hb.block _ (lt_of_heap h.top)).trans h.top, h.sl.keep fun g hg => hb.block g (h.sl.lt hg), h.ap, h.hb.trans (hb.mono h.hb.size)⟩
theorem NewR.facts {w wr : World} {ids n : Nat} {v : Value} (h : NewR w wr ids n v) : wr.cell? ⟨w.heap.size, 0, none⟩ = some v ∧ wr.cell? ⟨w.heap.size, 1, none⟩ = some (.int .i64 n) ∧ (∀ o, wr.frozen? ⟨w.heap.size, o, none⟩ = false) ∧ w.heap.size < wr.heap.size ∧ v.ownBlock ≠ some w.heap.size :=
  ⟨by simp [World.cell?, h.top], by simp [World.cell?, h.top], fun o => by simp [World.frozen?, h.top], lt_of_heap h.top, fun e => (h.ap _ e).2 rfl⟩

theorem NewR.app {w wo W w4 : World} {ids n k i : Nat} {v : Value} {g off cap : Nat} (h : NewR w wo ids n v) (hn : n = k * ids + i) (hi : i < ids) (hW : Below wo.heap.size wo W)
    (hs : Sl w4 105 6 (.slice (some ⟨g, off, none⟩) (n + 1) cap) (n + 1) (slCells (newL ids n) ++ [.int .i64 k, .int .i64 i, .int .i64 0, .int .i64 0, .int .i64 n, .bool false])) (ht : Turned W w4 v.ownBlock) (ho : v.ownBlock = some g ∨ W.heap.size ≤ g) :
    NewR w ((w4.setCell ⟨w.heap.size, 0, none⟩ (.slice (some ⟨g, off, none⟩) (n + 1) cap)).setCell ⟨w.heap.size, 1, none⟩ (.int .i64 ((n : Int) + 1))) ids (n + 1) (.slice (some ⟨g, off, none⟩) (n + 1) cap) := by
  have hlt := lt_of_heap h.top
  have hz := hW.size
  have hne : v.ownBlock ≠ some w.heap.size := fun e => (h.ap _ e).2 rfl
  have ht4 : w4.heap[w.heap.size]? = some (.cells #[v, .int .i64 n] 103 (0, 0)) := (ht.block _ (by omega) hne.symm).trans ((hW.block _ hlt).trans h.top)
  have hg : w.heap.size ≤ g ∧ g ≠ w.heap.size := by
    rcases ho with e | e
    · exact h.ap g e
    · exact ⟨by omega, by omega⟩
  have e1 : n / ids = k := by rw [hn, Nat.mul_comm, Nat.mul_add_div (by omega), Nat.div_eq_of_lt hi, Nat.add_zero]
  have e2 : n % ids = i := by rw [hn, Nat.mul_comm, Nat.mul_add_mod, Nat.mod_eq_of_lt hi]
  refine ⟨?_, ?_, fun q hq => ?_, ?_⟩
  · rw [heap_setCell_same _ _ _ _ _ _ _ (heap_setCell_same _ _ _ _ _ _ _ ht4)]; simp
  · have hs2 : Sl w4 105 6 (.slice (some ⟨g, off, none⟩) (n + 1) cap) (n + 1) (slCells (newL ids (n + 1))) := by
      have : slCells (newL ids (n + 1)) = slCells (newL ids n) ++ [.int .i64 k, .int .i64 i, .int .i64 0, .int .i64 0, .int .i64 n, .bool false] := by rw [newL_succ, e1, e2]; simp [slCells, Slot.cells]
      rw [this]; exact hs
    refine hs2.keep fun q hq => ?_
    obtain rfl : g = q := by simpa [Value.ownBlock] using hq
    rw [Below.heap_setCell _ _ _ _ (show g ≠ (⟨w.heap.size, 1, none⟩ : Addr).block from hg.2), Below.heap_setCell _ _ _ _ (show g ≠ (⟨w.heap.size, 0, none⟩ : Addr).block from hg.2)]
  · obtain rfl : g = q := by simpa [Value.ownBlock] using hq
    exact hg
  · have hb2 : Below w.heap.size w w4 := h.hb.trans ((hW.mono h.hb.size).trans ⟨ht.os, ht.tape, ht.output, ht.size, fun x hx => ht.block x (by have := h.hb.size; omega) fun e => by have := (h.ap x e.symm).1; omega⟩)
    exact (hb2.setCell (Nat.le_refl _) _).setCell (Nat.le_refl _) _

theorem newL_eq {shards ids : Nat} (h : 1 ≤ ids) : newL ids (shards * ids) = mSlots (fun a b => a * ids + b) 0 (List.replicate shards (fresh ids ids)) := by
  have hl : ∀ m ∈ List.replicate shards (fresh ids ids), m.all.length = ids := by
    intro m hm
    rw [List.eq_of_mem_replicate hm]; simp [fresh, freshIx]
  apply List.ext_getElem?
  intro n
  by_cases hn : n < shards * ids
  · have hk : n / ids < shards := by rw [Nat.div_lt_iff_lt_mul h]; exact hn
    have hi := Nat.mod_lt n h
    have := mSlots_get (rw := fun a b => a * ids + b) (List.replicate shards (fresh ids ids)) 0 (n / ids) (n % ids) (fresh ids ids) ⟨0, 0, false⟩ hl (by simp [hk]) (by simp [fresh, freshIx, hi])
    have hd : n / ids * ids + n % ids = n := by have := Nat.div_add_mod n ids; rw [Nat.mul_comm] at this; exact this
    rw [hd] at this
    rw [this]
    simp only [newL, List.getElem?_map, List.getElem?_range hn, Option.map_some, Option.some.injEq, Int.zero_add]
    congr 1
    have : ((n / ids * ids + n % ids : Nat) : Int) = n := by rw [hd]
    simpa using this.symm
  · rw [List.getElem?_eq_none (by rw [newL_len]; omega), List.getElem?_eq_none (by rw [mSlots_len _ 0 hl, List.length_replicate]; omega)]

theorem fresh_sim (shards ids : Nat) (h1 : shards ≤ 16) (h2 : 1 ≤ ids) (h3 : ids ≤ 16) : Sim ids (List.replicate shards (fresh ids ids)) (fun a b => a * ids + b) ((shards * ids : Nat) : Int) := by
  have hm : ∀ (k : Nat) (m : Sh), (List.replicate shards (fresh ids ids))[k]? = some m → k < shards ∧ m = fresh ids ids := by
    intro k m hm
    rw [List.getElem?_replicate] at hm
    split at hm
    · exact ⟨by assumption, by cases hm; rfl⟩
    · cases hm
  refine ⟨⟨h2, h3, by simpa using h1⟩, fun m hm => by rw [List.eq_of_mem_replicate hm]; simp [fresh, freshIx], fun m hm => by rw [List.eq_of_mem_replicate hm]; exact fresh_good ids h3, fun k m hk i hi => ?_, fun k m hk => ?_, by omega⟩
  · obtain ⟨hks, rfl⟩ := hm k m hk
    refine ⟨⟨fun _ => ?_, fun _ => ?_⟩, ?_⟩
    · simp [fresh]; exact ⟨i, hi, rfl⟩
    · have : (0 : Int) ≤ (k : Int) * (ids : Int) := Int.mul_nonneg (by omega) (by omega)
      omega
    · have h4 : (k + 1) * ids ≤ shards * ids := Nat.mul_le_mul_right ids hks
      rw [Nat.add_mul, Nat.one_mul] at h4
      have h5 : ((k * ids + i : Nat) : Int) < ((shards * ids : Nat) : Int) := by omega
      simpa using h5
  · obtain ⟨hks, rfl⟩ := hm k m hk
    simp only [fresh, List.map_map, List.pairwise_map]
    refine (List.pairwise_lt_range).imp fun h => ?_
    simp only [Function.comp, Int.ofNat_eq_natCast]
    omega
end Go.Proofs.Ytjkbenghgbigdaa
