/-
  The reference's pool of names in memory, and how it stands to the program's. Plain: no program walked. No condition.
-/
import Derived.Test.YtjkbenghgbigdaaLapA
namespace Go.Proofs.Ytjkbenghgbigdaa
open Go.RowKit
structure Slot where
  (k i gen bound row : Int) (alive : Bool)
def Slot.cells (s : Slot) : List Value := [.int .i64 s.k, .int .i64 s.i, .int .i64 s.gen, .int .i64 s.bound, .int .i64 s.row, .bool s.alive]
/-- Where the pool lies, and its slots. -/
structure RLay where
  (p b off cap : Nat)
def RLay.own (R : RLay) (x : Nat) : Prop := x = R.p ∨ x = R.b

structure RefAt (w : World) (R : RLay) (l : List Slot) (put : Int) : Prop where
  top : w.heap[R.p]? = some (.cells #[.slice (some ⟨R.b, R.off, none⟩) l.length R.cap, .int .i64 put] 103 (0, 0))
  rows : ∃ cur : Array Value, w.heap[R.b]? = some (.cells cur 105 (0, 0)) ∧ l.length ≤ R.cap ∧ R.cap ≤ maxLen ∧ R.off + R.cap * 6 ≤ cur.size ∧ ∀ (n j : Nat) (s : Slot), l[n]? = some s → j < 6 → cur[R.off + n * 6 + j]? = s.cells[j]?
  ne : R.p ≠ R.b

variable {w w' : World} {R : RLay} {l : List Slot} {put : Int}
theorem RefAt.lt (h : RefAt w R l put) {x : Nat} (hx : R.own x) : x < w.heap.size := by
  rcases hx with rfl | rfl
  · exact lt_of_heap h.top
  · obtain ⟨cur, hc, _⟩ := h.rows; exact lt_of_heap hc
theorem RefAt.keep (h : RefAt w R l put) (hk : ∀ b, R.own b → w'.heap[b]? = w.heap[b]?) : RefAt w' R l put := by
  obtain ⟨cur, hc, r⟩ := h.rows
  exact ⟨by rw [hk _ (.inl rfl)]; exact h.top, ⟨cur, by rw [hk _ (.inr rfl)]; exact hc, r⟩, h.ne⟩
theorem RefAt.grown (h : RefAt w R l put) (hb : Below w.heap.size w w') : RefAt w' R l put := h.keep fun b ho => hb.block b (h.lt ho)
theorem RefAt.chg (h : RefAt w R l put) {F : Nat → Prop} (hc : Chg w w' F) (hF : ∀ b, R.own b → ¬ F b) : RefAt w' R l put := h.keep fun b ho => hc.block b (h.lt ho) (hF b ho)

/-- What the walk reads. -/
theorem RefAt.tops (h : RefAt w R l put) : w.cell? ⟨R.p, 0, none⟩ = some (.slice (some ⟨R.b, R.off, none⟩) l.length R.cap) ∧ w.cell? ⟨R.p, 1, none⟩ = some (.int .i64 put) ∧ (∀ o, w.frozen? ⟨R.p, o, none⟩ = false) ∧ (∀ o, w.frozen? ⟨R.b, o, none⟩ = false) ∧ R.p < w.heap.size ∧ R.b < w.heap.size := by
  obtain ⟨cur, hc, r⟩ := h.rows
  exact ⟨by simp [World.cell?, h.top], by simp [World.cell?, h.top], fun o => by simp [World.frozen?, h.top], fun o => by simp [World.frozen?, hc], lt_of_heap h.top, lt_of_heap hc⟩
theorem RefAt.bnd (h : RefAt w R l put) : l.length ≤ R.cap ∧ R.cap ≤ maxLen := by obtain ⟨cur, hc, h1, h2, _⟩ := h.rows; exact ⟨h1, h2⟩
theorem RefAt.slot (h : RefAt w R l put) {n : Nat} {s : Slot} (hs : l[n]? = some s) :
    w.cell? ⟨R.b, R.off + n * 6, none⟩ = some (.int .i64 s.k) ∧ w.cell? ⟨R.b, R.off + n * 6 + 1, none⟩ = some (.int .i64 s.i) ∧ w.cell? ⟨R.b, R.off + n * 6 + 2, none⟩ = some (.int .i64 s.gen) ∧ w.cell? ⟨R.b, R.off + n * 6 + 3, none⟩ = some (.int .i64 s.bound) ∧ w.cell? ⟨R.b, R.off + n * 6 + 4, none⟩ = some (.int .i64 s.row) ∧ w.cell? ⟨R.b, R.off + n * 6 + 5, none⟩ = some (.bool s.alive) := by
  obtain ⟨cur, hc, _, _, _, hr⟩ := h.rows
  have r0 := hr n 0 s hs (by omega)
  have r1 := hr n 1 s hs (by omega)
  have r2 := hr n 2 s hs (by omega)
  have r3 := hr n 3 s hs (by omega)
  have r4 := hr n 4 s hs (by omega)
  have r5 := hr n 5 s hs (by omega)
  rw [Nat.add_zero] at r0
  simp [Slot.cells] at r0 r1 r2 r3 r4 r5
  exact ⟨by simp [World.cell?, hc, r0], by simp [World.cell?, hc, r1], by simp [World.cell?, hc, r2], by simp [World.cell?, hc, r3], by simp [World.cell?, hc, r4], by simp [World.cell?, hc, r5]⟩

/-- A cell of a slot is stored into. -/
theorem RefAt.set (h : RefAt w R l put) {n : Nat} {s s' : Slot} (hs : l[n]? = some s) (q : Nat) (v : Value) (hq : q < 6) (hv : s'.cells[q]? = some v) (ho : ∀ j, j ≠ q → s'.cells[j]? = s.cells[j]?) :
    RefAt (w.setCell ⟨R.b, R.off + n * 6 + q, none⟩ v) R (l.set n s') put := by
  obtain ⟨cur, hc, h1, h2, h3, hr⟩ := h.rows
  have hn : n < l.length := (List.getElem?_eq_some_iff.1 hs).1
  refine ⟨?_, ⟨cur.setIfInBounds (R.off + n * 6 + q) v, heap_setCell_same _ _ _ _ _ _ _ hc, by simpa using h1, h2, by simpa using h3, fun m j t ht hj => ?_⟩, h.ne⟩
  · rw [Below.heap_setCell _ _ _ _ h.ne, List.length_set]; exact h.top
  · rw [List.getElem?_set] at ht
    by_cases hm : n = m
    · subst hm
      rw [if_pos rfl, if_pos hn] at ht
      obtain rfl : s' = t := by simpa using ht
      by_cases hjq : j = q
      · subst hjq
        rw [set_self _ _ _ (by omega), hv]
      · rw [Array.getElem?_setIfInBounds_ne (by omega), hr n j s hs hj, ho j hjq]
    · rw [if_neg hm] at ht
      rw [Array.getElem?_setIfInBounds_ne (by omega)]
      exact hr m j t ht hj
/-- The count is stored into. -/
theorem RefAt.setPut (h : RefAt w R l put) (p' : Int) : RefAt (w.setCell ⟨R.p, 1, none⟩ (.int .i64 p')) R l p' := by
  obtain ⟨cur, hc, r⟩ := h.rows
  refine ⟨?_, ⟨cur, ?_, r⟩, h.ne⟩
  · rw [heap_setCell_same _ _ _ _ _ _ _ h.top]; simp
  · rw [Below.heap_setCell _ _ _ _ h.ne.symm]; exact hc

/-! The program's shards, as slots. -/
def ixSlots (rw : Int → Int → Int) (k : Int) : Int → List Ix → List Slot
  | _, [] => []
  | i, x :: xs => ⟨k, i, x.gen, x.bound, rw k i, x.alive⟩ :: ixSlots rw k (i + 1) xs
def mSlots (rw : Int → Int → Int) : Int → List Sh → List Slot
  | _, [] => []
  | k, m :: ms => ixSlots rw k 0 m.all ++ mSlots rw (k + 1) ms
variable {rw : Int → Int → Int}
theorem ixSlots_len : ∀ (l : List Ix) (k i : Int), (ixSlots rw k i l).length = l.length
  | [], _, _ => rfl
  | x :: l, k, i => by simp [ixSlots, ixSlots_len l k (i + 1)]
theorem ixSlots_get : ∀ (l : List Ix) (k i : Int) (j : Nat), (ixSlots rw k i l)[j]? = (l[j]?).map fun x => ⟨k, i + j, x.gen, x.bound, rw k (i + j), x.alive⟩
  | [], _, _, _ => by simp [ixSlots]
  | x :: l, k, i, 0 => by simp [ixSlots]
  | x :: l, k, i, j + 1 => by
    simp only [ixSlots, List.getElem?_cons_succ, ixSlots_get l k (i + 1) j]
    rw [show i + 1 + (j : Int) = i + ((j + 1 : Nat) : Int) by omega]
theorem mSlots_len {ids : Nat} : ∀ (M : List Sh) (k : Int), (∀ m ∈ M, m.all.length = ids) → (mSlots rw k M).length = M.length * ids
  | [], _, _ => by simp [mSlots]
  | m :: M, k, h => by
    rw [mSlots, List.length_append, ixSlots_len, h m (by simp), mSlots_len M (k + 1) fun m hm => h m (List.mem_cons_of_mem _ hm), List.length_cons, Nat.add_mul, Nat.one_mul, Nat.add_comm]
theorem mSlots_get {ids : Nat} : ∀ (M : List Sh) (k0 : Int) (k i : Nat) (m : Sh) (x : Ix), (∀ m ∈ M, m.all.length = ids) → M[k]? = some m → m.all[i]? = some x → (mSlots rw k0 M)[k * ids + i]? = some ⟨k0 + k, i, x.gen, x.bound, rw (k0 + k) i, x.alive⟩
  | [], _, _, _, _, _, _, h, _ => by simp at h
  | a :: M, k0, 0, i, m, x, hl, hm, hx => by
    obtain rfl : a = m := by simpa using hm
    have hil := (List.getElem?_eq_some_iff.1 hx).1
    rw [mSlots, Nat.zero_mul, Nat.zero_add, List.getElem?_append_left (by rw [ixSlots_len]; exact hil), ixSlots_get, hx]
    simp
  | a :: M, k0, k + 1, i, m, x, hl, hm, hx => by
    have h1 := mSlots_get (ids := ids) M (k0 + 1) k i m x (fun m hm => hl m (List.mem_cons_of_mem _ hm)) (by simpa using hm) hx
    have ha := hl a (by simp)
    have e : (k + 1) * ids + i = ids + (k * ids + i) := by rw [Nat.add_mul, Nat.one_mul]; omega
    rw [mSlots, e, List.getElem?_append_right (by rw [ixSlots_len, ha]; omega), ixSlots_len, ha, Nat.add_sub_cancel_left, h1]
    rw [show k0 + 1 + (k : Int) = k0 + ((k + 1 : Nat) : Int) by omega]

/-- Every slot is one of a shard's indices. -/
theorem mSlots_split {ids : Nat} {M : List Sh} (hl : ∀ m ∈ M, m.all.length = ids) {n : Nat} {s : Slot} (hs : (mSlots rw 0 M)[n]? = some s) : ∃ (k i : Nat) (m : Sh) (x : Ix), n = k * ids + i ∧ i < ids ∧ M[k]? = some m ∧ m.all[i]? = some x ∧ s = ⟨k, i, x.gen, x.bound, rw k i, x.alive⟩ := by
  have hn : n < M.length * ids := by rw [← mSlots_len M 0 hl]; exact (List.getElem?_eq_some_iff.1 hs).1
  have h0 : 0 < ids := by
    rcases Nat.eq_zero_or_pos ids with h | h
    · rw [h] at hn; omega
    · exact h
  have hk : n / ids < M.length := by rw [Nat.div_lt_iff_lt_mul h0]; exact hn
  have hi := Nat.mod_lt n h0
  have hm := List.getElem?_eq_getElem hk
  have hal := hl _ (List.getElem_mem hk)
  have hx : M[n / ids].all[n % ids]? = some (M[n / ids].all[n % ids]'(by omega)) := List.getElem?_eq_getElem (by omega)
  have hd : n = n / ids * ids + n % ids := by have := Nat.div_add_mod n ids; rw [Nat.mul_comm] at this; omega
  have hg := mSlots_get (rw := rw) M 0 (n / ids) (n % ids) _ _ hl hm hx
  rw [← hd, hs] at hg
  refine ⟨n / ids, n % ids, _, _, hd, hi, hm, hx, ?_⟩
  have := Option.some.inj hg
  rw [this]
  simp

/-- How the reference stands to the shards. -/
structure Sim (ids : Nat) (M : List Sh) (rw : Int → Int → Int) (put : Int) : Prop where
  pos : 1 ≤ ids ∧ ids ≤ 16 ∧ M.length ≤ 16
  len : ∀ m ∈ M, m.all.length = ids
  good : ∀ m ∈ M, Good m
  row : ∀ (k : Nat) (m : Sh), M[k]? = some m → ∀ i : Nat, i < ids → (0 ≤ rw k i ↔ (i : Int) ∈ m.free) ∧ rw k i < put
  ord : ∀ (k : Nat) (m : Sh), M[k]? = some m → (m.free.map (rw k)).Pairwise (· < ·)
  put : 0 ≤ put

/-- One index, and its row, have turned. -/
theorem mSlots_set {ids : Nat} {M : List Sh} {rw' : Int → Int → Int} {k i : Nat} {m m' : Sh} {x x' : Ix} (hl : ∀ m ∈ M, m.all.length = ids) (hm : M[k]? = some m) (hx : m.all[i]? = some x) (ha : m'.all = m.all.set i x')
    (hrw : ∀ (a b : Nat), ¬ (a = k ∧ b = i) → rw' a b = rw a b) : mSlots rw' 0 (M.set k m') = (mSlots rw 0 M).set (k * ids + i) ⟨k, i, x'.gen, x'.bound, rw' k i, x'.alive⟩ := by
  have hkl : k < M.length := (List.getElem?_eq_some_iff.1 hm).1
  have hil : i < m.all.length := (List.getElem?_eq_some_iff.1 hx).1
  have him : i < ids := by rw [← hl m (List.mem_of_getElem? hm)]; exact hil
  have hl' : ∀ a ∈ M.set k m', a.all.length = ids := by
    intro a h
    rcases List.mem_or_eq_of_mem_set h with h | rfl
    · exact hl a h
    · rw [ha, List.length_set]; exact hl m (List.mem_of_getElem? hm)
  apply List.ext_getElem?
  intro n
  by_cases hn : n < M.length * ids
  · obtain ⟨s, hs⟩ : ∃ s, (mSlots rw 0 M)[n]? = some s := ⟨_, List.getElem?_eq_getElem (by rw [mSlots_len M 0 hl]; exact hn)⟩
    obtain ⟨a, b, ma, y, rfl, hb, hma, hy, rfl⟩ := mSlots_split hl hs
    by_cases hab : a = k ∧ b = i
    · obtain ⟨rfl, rfl⟩ := hab
      rw [hm] at hma
      obtain rfl := Option.some.inj hma
      rw [List.getElem?_set_self (by rw [mSlots_len M 0 hl]; exact hn)]
      have := mSlots_get (rw := rw') (M.set a m') 0 a b m' x' hl' (List.getElem?_set_self hkl) (by rw [ha]; exact List.getElem?_set_self hil)
      rw [this]
      simp
    · have hne : k * ids + i ≠ a * ids + b := by
        intro e
        apply hab
        have h1 : (a * ids + b) % ids = b := by rw [Nat.mul_comm, Nat.mul_add_mod]; exact Nat.mod_eq_of_lt hb
        have h2 : (k * ids + i) % ids = i := by rw [Nat.mul_comm, Nat.mul_add_mod]; exact Nat.mod_eq_of_lt him
        have h3 : b = i := by rw [← h1, ← h2, e]
        subst h3
        have h4 : a * ids = k * ids := by omega
        exact ⟨Nat.eq_of_mul_eq_mul_right (by omega) h4, rfl⟩
      rw [List.getElem?_set_ne hne, hs]
      by_cases hk : a = k
      · subst hk
        rw [hm] at hma
        obtain rfl := Option.some.inj hma
        have hbi : b ≠ i := fun e => hab ⟨rfl, e⟩
        have := mSlots_get (rw := rw') (M.set a m') 0 a b m' y hl' (List.getElem?_set_self hkl) (by rw [ha, List.getElem?_set_ne (fun e => hbi e.symm)]; exact hy)
        rw [this]
        simp [hrw a b hab]
      · have := mSlots_get (rw := rw') (M.set k m') 0 a b ma y hl' (by rw [List.getElem?_set_ne (fun e => hk e.symm)]; exact hma) hy
        rw [this]
        simp [hrw a b hab]
  · rw [List.getElem?_eq_none (by rw [mSlots_len _ 0 hl', List.length_set]; omega), List.getElem?_eq_none (by rw [List.length_set, mSlots_len M 0 hl]; omega)]
end Go.Proofs.Ytjkbenghgbigdaa
