/-
  A slice that owns its array, wherever in it it begins: what an append leaves, in one way. No condition but the sizes that an append owes.
  Small lemmas on slices of the call's own, new boxes, block numbers. No condition.
  Slices of structs of one kind, whatever the kind: those that are read, those of the call's own. No condition.
-/
import Derived.Test.YtbghjklnlhoklaaBase
import Derived.Deep.RegionLaw
import Derived.Deep.RegionLawGrows
namespace Go.Proofs.Ytbghjklnlhoklaa
open Go.RowKit

/-- v reads as the cells xs (of 'size' cells an element), and the block that it lies in is its own: not frozen, with all its capacity there. -/
def Sl (w : World) (e : TypeId) (size : Nat) (v : Value) (n : Nat) (xs : List Value) : Prop :=
  xs.length = n * size ∧
  ((v = .slice none 0 0 ∧ n = 0) ∨
   ∃ g off cap cur, v = .slice (some ⟨g, off, none⟩) n cap ∧ w.heap[g]? = some (.cells cur e (0, 0)) ∧ n ≤ cap ∧ cap ≤ maxLen ∧ off + cap * size ≤ cur.size ∧ ∀ j u, xs[j]? = some u → cur[off + j]? = some u)

theorem Sl.of_own {w : World} {base : Nat} {e : TypeId} {size : Nat} {v : Value} {n : Nat} {xs : List Value} (h : w.ownsRow base e size v n xs) : Sl w e size v n xs := by
  obtain ⟨h1, h2 | ⟨g, cap, cur, hv, hb, hg, hn, hm, hs, ht⟩⟩ := h
  · exact ⟨h1, .inl h2⟩
  · refine ⟨h1, .inr ⟨g, 0, cap, cur, hv, hg, hn, hm, by omega, fun j u hj => ?_⟩⟩
    rw [← ht] at hj
    rw [List.getElem?_take] at hj
    split at hj
    · simpa using hj
    · cases hj

/-- Another world in which its block is as it was. -/
theorem Sl.keep {w w' : World} {e : TypeId} {size : Nat} {v : Value} {n : Nat} {xs : List Value} (h : Sl w e size v n xs) (hk : ∀ g, v.ownBlock = some g → w'.heap[g]? = w.heap[g]?) : Sl w' e size v n xs := by
  obtain ⟨h1, h2 | ⟨g, off, cap, cur, rfl, hg, r⟩⟩ := h
  · exact ⟨h1, .inl h2⟩
  · exact ⟨h1, .inr ⟨g, off, cap, cur, rfl, by rw [hk g rfl]; exact hg, r⟩⟩

/-- What has turned: the block b alone (if any), and what is new. -/
structure Turned (w w' : World) (b : Option Nat) : Prop where
  os : w'.os = w.os
  tape : w'.tape = w.tape
  output : w'.output = w.output
  size : w.heap.size ≤ w'.heap.size
  block : ∀ k, k < w.heap.size → some k ≠ b → w'.heap[k]? = w.heap[k]?

theorem Turned.of_grown {w w' : World} {b : Option Nat} (h : w.grownBy w' none) : Turned w w' b := ⟨h.os, h.tape, h.output, h.size, fun k hk _ => h.block k hk (by simp)⟩

theorem setCells_heap (g : Nat) (e : TypeId) (fr : Nat × Nat) : ∀ (vs : List Value) (o : Nat) (w : World) (cur : Array Value), w.heap[g]? = some (.cells cur e fr) → o + vs.length ≤ cur.size →
    ∃ cur', (w.setCells g o vs).heap[g]? = some (.cells cur' e fr) ∧ cur'.size = cur.size ∧ (∀ j, j < o → cur'[j]? = cur[j]?) ∧ (∀ j u, vs[j]? = some u → cur'[o + j]? = some u) ∧ (∀ j, o + vs.length ≤ j → cur'[j]? = cur[j]?)
  | [], o, w, cur, h, _ => ⟨cur, h, rfl, fun _ _ => rfl, fun j u hj => by simp at hj, fun _ _ => rfl⟩
  | v :: vs, o, w, cur, h, hl => by
    have h1 : (w.setCell ⟨g, o, none⟩ v).heap[g]? = some (.cells (cur.setIfInBounds o v) e fr) := by
      simp [World.setCell, Array.getElem?_modify, h]
    simp only [List.length_cons] at hl
    obtain ⟨cur', hg, hs, hlo, hin, hhi⟩ := setCells_heap g e fr vs (o + 1) _ _ h1 (by simp; omega)
    refine ⟨cur', hg, by rw [hs]; simp, fun j hj => ?_, fun j u hj => ?_, fun j hj => ?_⟩
    · rw [hlo j (by omega), Array.getElem?_setIfInBounds_ne (by omega)]
    · cases j with
      | zero =>
        simp only [List.getElem?_cons_zero, Option.some.injEq] at hj
        subst hj
        rw [Nat.add_zero, hlo o (by omega), Array.getElem?_setIfInBounds_self]
        rw [if_pos (by omega)]
      | succ j =>
        simp only [List.getElem?_cons_succ] at hj
        have := hin j u hj
        rwa [show o + 1 + j = o + (j + 1) from by omega] at this
    · simp only [List.length_cons] at hj
      rw [hhi j (by omega), Array.getElem?_setIfInBounds_ne (by omega)]

theorem setCells_turned (g : Nat) : ∀ (vs : List Value) (o : Nat) (w : World), Turned w (w.setCells g o vs) (some g)
  | [], o, w => ⟨rfl, rfl, rfl, Nat.le_refl _, fun _ _ _ => rfl⟩
  | v :: vs, o, w => by
    have h := setCells_turned g vs (o + 1) (w.setCell ⟨g, o, none⟩ v)
    refine ⟨h.os, h.tape, h.output, ?_, fun k hk hne => ?_⟩
    · have h2 := h.size
      rw [World.size_setCell] at h2
      exact h2
    · have h1 := h.block k (by simpa [World.setCell] using hk) hne
      rw [show w.setCells g o (v :: vs) = (w.setCell ⟨g, o, none⟩ v).setCells g (o + 1) vs from rfl, h1]
      exact Below.heap_setCell _ _ _ _ (by intro e; exact hne (by rw [e]))

/-- An append, in one way. -/
theorem wpList_append_sl {P : Program} (w : World) {ops : Array Oper} {rest : List Oper} {o : Oper} {a : Act} {Q : Exit → Act → World → Prop}
    (hg : o.guard = none) (s x : Operand) (t : TypeId) (hop : o.op = Op.call { callee := Callee.builtin Builtin.append, args := #[s, x], argTypes := #[t, t] })
    (e : TypeId) (i : TypeInfo) (z : Value) (size bytes : Nat) (h1 : P.underlying t = some (.slice e)) (h2 : P.info? e = some i) (h3 : i.zero = some z) (h4 : i.size = size) (h5 : i.bytes = bytes) (h6 : z.cells.size = size) (h7 : 0 < size)
    (v : Value) (n : Nat) (xs : List Value) (hv : a.eval s = v) (hsl : Sl w e size v n xs)
    (ad : Addr) (m c : Nat) (news : List Value) (hx : a.eval x = .slice (some ad) m c) (hn : news.length = m * size) (hc : ∀ j u, news[j]? = some u → w.cell? (ad.add j) = some u) (h1c : ∀ u ∈ news, u.oneCell' = true) (hm : 0 < m)
    (b1 : n + m ≤ maxLen) (b2 : (n + m) * bytes ≤ 140737488355328)
    (hK : ∀ v' w', Sl w' e size v' (n + m) (xs ++ news) → Turned w w' v.ownBlock → (v'.ownBlock = v.ownBlock ∨ ∃ g, v'.ownBlock = some g ∧ w.heap.size ≤ g) → wpList P ops Q rest (a.put o.dst v') w') :
    wpList P ops Q (o :: rest) a w := by
  obtain ⟨hlx, ⟨rfl, rfl⟩ | ⟨g, off, cap, cur, rfl, hgb, hncap, hcm, hsz, hcur⟩⟩ := hsl
  · have hx0 : xs = [] := by simpa using hlx
    subst hx0
    refine wpList_append_grows w hg s x t hop e i z size bytes h1 h2 h3 h4 h5 h6 h7 none 0 0 [] hv (fun _ => ⟨rfl, rfl⟩) (by simp) (fun b hb => by cases hb) ad m c news hx hn hc h1c (by omega) b1 b2 fun v' w' ho hgr => ?_
    refine hK v' w' (Sl.of_own ho) (Turned.of_grown hgr) ?_
    obtain ⟨_, ⟨_, h0⟩ | ⟨g, cap, cur, rfl, hb, _⟩⟩ := ho
    · omega
    · exact .inr ⟨g, rfl, hb⟩
  · have hcell : ∀ j, w.cell? ⟨g, j, none⟩ = cur[j]? := fun j => by simp [World.cell?, hgb]
    have hfro : ∀ j, w.frozen? ⟨g, j, none⟩ = false := fun j => by simp [World.frozen?, hgb]
    refine wpList_append_arg w hg s x t hop e i z size bytes h1 h2 h3 h4 h5 h6 h7 g off n cap xs hv hlx (fun j u hj => by rw [hcell]; exact hcur j u hj) ad m c news hx hn hc h1c (fun hr j hj => ?_) b1 b2 (fun hr => ?_) fun hr v' w' ho hgr => ?_
    · have hlt : off + n * size + j < cur.size := by
        have : (n + m) * size ≤ cap * size := Nat.mul_le_mul_right _ hr
        rw [Nat.add_mul] at this
        omega
      exact ⟨by rw [hcell, Array.getElem?_eq_getElem hlt]; rfl, hfro _⟩
    · have hle : off + n * size + news.length ≤ cur.size := by
        have : (n + m) * size ≤ cap * size := Nat.mul_le_mul_right _ hr
        rw [Nat.add_mul] at this
        omega
      obtain ⟨cur', hg', hs', hlo, hin, hhi⟩ := setCells_heap g e (0, 0) news (off + n * size) w cur hgb hle
      refine hK _ _ ⟨by rw [List.length_append, hlx, hn, Nat.add_mul], .inr ⟨g, off, cap, cur', rfl, hg', hr, hcm, by omega, fun j u hj => ?_⟩⟩ (setCells_turned g news _ w) (.inl rfl)
      rw [List.getElem?_append] at hj
      split at hj
      · rename_i hlt
        rw [hlo _ (by omega)]
        exact hcur j u hj
      · rename_i hge
        have := hin (j - xs.length) u hj
        rwa [show off + n * size + (j - xs.length) = off + j from by omega] at this
    · refine hK v' w' (Sl.of_own ho) (Turned.of_grown hgr) ?_
      obtain ⟨_, ⟨_, h0⟩ | ⟨g', cap', cur', rfl, hb, _⟩⟩ := ho
      · omega
      · exact .inr ⟨g', rfl, hb⟩


/-- An append, in one way, as a step of a region that draws its order; the new value written out. -/
theorem step_append_sl {P : Program} (w : World) {ops : Array Oper} {o : Oper} {a : Act} {K : Act → World → Prop} {Q : Exit → Act → World → Prop} {E : Prop}
    (hg : o.guard = none) (s x : Operand) (t : TypeId) (hop : o.op = Op.call { callee := Callee.builtin Builtin.append, args := #[s, x], argTypes := #[t, t] })
    (e : TypeId) (i : TypeInfo) (z : Value) (size bytes : Nat) (h1 : P.underlying t = some (.slice e)) (h2 : P.info? e = some i) (h3 : i.zero = some z) (h4 : i.size = size) (h5 : i.bytes = bytes) (h6 : z.cells.size = size) (h7 : 0 < size)
    (v : Value) (n : Nat) (xs : List Value) (hv : a.eval s = v) (hsl : Sl w e size v n xs)
    (ad : Addr) (m c : Nat) (news : List Value) (hx : a.eval x = .slice (some ad) m c) (hn : news.length = m * size) (hc : ∀ j u, news[j]? = some u → w.cell? (ad.add j) = some u) (h1c : ∀ u ∈ news, u.oneCell' = true) (hm : 0 < m)
    (b1 : n + m ≤ maxLen) (b2 : (n + m) * bytes ≤ 140737488355328)
    (hK : ∀ g off cap w', Sl w' e size (.slice (some ⟨g, off, none⟩) (n + m) cap) (n + m) (xs ++ news) → Turned w w' v.ownBlock → (v.ownBlock = some g ∨ w.heap.size ≤ g) → K (a.put o.dst (.slice (some ⟨g, off, none⟩) (n + m) cap)) w') :
    if Region.wanted o (yielded ops a.tmps) = true then Oper.wp P o a w K Q else E := by
  have fin : ∀ v' w', w'.ownsRow w.heap.size e size v' (n + m) (xs ++ news) → w.grownBy w' none → K (a.put o.dst v') w' := by
    intro v' w' ho hgr
    have hs := Sl.of_own ho
    obtain ⟨_, ⟨_, h0⟩ | ⟨g, cap, cur, rfl, hb, _⟩⟩ := ho
    · omega
    · have := hK g 0 cap w' hs (Turned.of_grown hgr) (.inr hb)
      exact this
  obtain ⟨hlx, ⟨rfl, rfl⟩ | ⟨g, off, cap, cur, rfl, hgb, hncap, hcm, hsz, hcur⟩⟩ := hsl
  · have hx0 : xs = [] := by simpa using hlx
    subst hx0
    exact step_append_grows hg s x t hop e i z size bytes h1 h2 h3 h4 h5 h6 h7 none 0 0 [] hv (fun _ => ⟨rfl, rfl⟩) (by simp) (fun b hb => by cases hb) ad m c news hx hn hc h1c (by omega) b1 b2 fin
  · have hcell : ∀ j, w.cell? ⟨g, j, none⟩ = cur[j]? := fun j => by simp [World.cell?, hgb]
    have hfro : ∀ j, w.frozen? ⟨g, j, none⟩ = false := fun j => by simp [World.frozen?, hgb]
    by_cases hr : n + m ≤ cap
    · have hle : off + n * size + news.length ≤ cur.size := by
        have : (n + m) * size ≤ cap * size := Nat.mul_le_mul_right _ hr
        rw [Nat.add_mul] at this
        omega
      refine step_append_room hg s x t hop e i size h1 h2 h4 g off n cap hv ad m c news hx hn hc h1c hr (fun j hj => ?_) ?_
      · have hlt : off + n * size + j < cur.size := by omega
        exact ⟨by rw [hcell, Array.getElem?_eq_getElem hlt]; rfl, hfro _⟩
      · obtain ⟨cur', hg', hs', hlo, hin, hhi⟩ := setCells_heap g e (0, 0) news (off + n * size) w cur hgb hle
        refine hK g off cap _ ⟨by rw [List.length_append, hlx, hn, Nat.add_mul], .inr ⟨g, off, cap, cur', rfl, hg', hr, hcm, by omega, fun j u hj => ?_⟩⟩ (setCells_turned g news _ w) (.inl rfl)
        rw [List.getElem?_append] at hj
        split at hj
        · rename_i hlt
          rw [hlo _ (by omega)]
          exact hcur j u hj
        · rename_i hge
          have := hin (j - xs.length) u hj
          rwa [show off + n * size + (j - xs.length) = off + j from by omega] at this
    · exact step_append_grows hg s x t hop e i z size bytes h1 h2 h3 h4 h5 h6 h7 (some ⟨g, off, none⟩) n cap xs hv (fun h => by cases h) hlx (fun b hb j u hj => by cases hb; rw [show Addr.add ⟨g, off, none⟩ j = ⟨g, off + j, none⟩ from by unfold Addr.add; split <;> simp_all]; rw [hcell]; exact hcur j u hj) ad m c news hx hn hc h1c (by omega) b1 b2 fin

end Go.Proofs.Ytbghjklnlhoklaa
namespace Go.Proofs.Ytbghjklnlhoklaa
open Go.RowKit
theorem sl_lt {w : World} {e : TypeId} {size : Nat} {v : Value} {n : Nat} {xs : List Value} (h : Sl w e size v n xs) {g : Nat} (hg : v.ownBlock = some g) : g < w.heap.size := by
  obtain ⟨_, ⟨rfl, _⟩ | ⟨g', off, cap, cur, rfl, hb, _⟩⟩ := h
  · cases hg
  · cases hg; exact (Array.getElem?_eq_some_iff.1 hb).1
theorem sl_frm {w : World} {e : TypeId} {size : Nat} {v : Value} {n : Nat} {xs : List Value} (h : Sl w e size v n xs) : ∃ p cap, v = .slice p n cap := by
  obtain ⟨_, ⟨rfl, rfl⟩ | ⟨g, off, cap, cur, rfl, _⟩⟩ := h
  · exact ⟨none, 0, rfl⟩
  · exact ⟨_, cap, rfl⟩
theorem new_cells (W : World) (arr : Array Value) (t : TypeId) (j : Nat) (u : Value) (h : arr.toList[j]? = some u) : (W.alloc (.cells arr t)).cell? (Addr.add ⟨W.heap.size, 0, none⟩ j) = some u := by
  have e : Addr.add ⟨W.heap.size, 0, none⟩ j = ⟨W.heap.size, j, none⟩ := by unfold Addr.add; split <;> simp_all
  rw [e]
  simp
  simpa using h
theorem heap_alloc_new_at (W : World) (o : Obj) (n : Nat) (h : n = W.heap.size) : (W.alloc o).heap[n]? = some o := by subst h; exact heap_alloc_new W o
theorem new_cellsN (W : World) (arr : Array Value) (t : TypeId) (n : Nat) (hn : n = W.heap.size) (j : Nat) (u : Value) (h : arr.toList[j]? = some u) : (W.alloc (.cells arr t)).cell? (Addr.add ⟨n, 0, none⟩ j) = some u := by subst hn; exact new_cells W arr t j u h
theorem info_partsG {P : Program} {t : TypeId} {z : Value} {s b : Nat} (h : (P.info? t).map (fun i => (i.zero, i.size, i.bytes)) = some (some z, s, b)) : ∃ i, P.info? t = some i ∧ i.zero = some z ∧ i.size = s ∧ i.bytes = b := by
  cases hi : P.info? t with
  | none => rw [hi] at h; cases h
  | some i => rw [hi] at h; simp at h; exact ⟨i, rfl, h.1, h.2.1, h.2.2⟩
theorem ltz {a W : Nat} (h : a < W) : (∀ n, a < W + n) ∧ (∀ n m, a < W + n + m) ∧ (∀ n m q, a < W + n + m + q) := ⟨fun _ => by omega, fun _ _ => by omega, fun _ _ _ => by omega⟩
/-- A box just laid. -/
theorem new_box (W : World) (arr : Array Value) (t : TypeId) (n : Nat) (hn : n = W.heap.size) : (∀ u, (W.alloc (.cells arr t)).cell? ⟨n, u, none⟩ = arr[u]?) ∧ (∀ u, (W.alloc (.cells arr t)).frozen? ⟨n, u, none⟩ = false) ∧ n < (W.alloc (.cells arr t)).heap.size ∧ Below W.heap.size W (W.alloc (.cells arr t)) := by
  subst hn
  have e := heap_alloc_new_at W (.cells arr t) W.heap.size rfl
  refine ⟨fun u => ?_, fun u => ?_, by simp, (Below.refl _ _).alloc (Nat.le_refl _) _⟩
  · unfold World.cell?; rw [e]; rfl
  · unfold World.frozen?; rw [e]; simp
/-- A box that stays. -/
theorem box_on {w w' : World} {n : Nat} {arr : Array Value} (hb : Below w.heap.size w w') (hn : n < w.heap.size) (hc : ∀ u, w.cell? ⟨n, u, none⟩ = arr[u]?) : ∀ u, w'.cell? ⟨n, u, none⟩ = arr[u]? := fun u => (hb.cell (p := ⟨n, u, none⟩) hn).trans (hc u)
theorem box_fr {w w' : World} {n : Nat} (hb : Below w.heap.size w w') (hn : n < w.heap.size) (hf : ∀ u, w.frozen? ⟨n, u, none⟩ = false) : ∀ u, w'.frozen? ⟨n, u, none⟩ = false := fun u => (World.frozen?_of_block (w := w) (a := ⟨n, u, none⟩) (hb.block n hn)).trans (hf u)
theorem ltw {a W : Nat} (h : a < W) : (∀ n, a < W + n) ∧ (∀ n m, a < W + n + m) ∧ (∀ n m q, a < W + n + m + q) := ⟨fun _ => by omega, fun _ _ => by omega, fun _ _ _ => by omega⟩
theorem list_of {β : Type} {P : Nat → β → Prop} : ∀ (n : Nat), (∀ i, i < n → ∃ b, P i b) → ∃ l : List β, l.length = n ∧ ∀ i b, l[i]? = some b → P i b
  | 0, _ => ⟨[], rfl, fun i b h => by cases h⟩
  | n + 1, h => by
    obtain ⟨l, hl, hp⟩ := list_of n fun i hi => h i (by omega)
    obtain ⟨b, hb⟩ := h n (by omega)
    refine ⟨l ++ [b], by simp [hl], fun i c hc => ?_⟩
    by_cases hi : i < n
    · rw [List.getElem?_append_left (by omega)] at hc; exact hp i c hc
    · rw [List.getElem?_append_right (by omega)] at hc
      have : i - l.length = 0 := by have := (List.getElem?_eq_some_iff.1 hc).1; simp at this; omega
      rw [this] at hc
      simp at hc
      subst hc
      obtain rfl : i = n := by omega
      exact hb
theorem two_boxes (W : World) (a6 a7 : Array Value) (t6 t7 : TypeId) : ∃ w1, w1 = (W.alloc (.cells a6 t6)).alloc (.cells a7 t7) ∧ Below W.heap.size W w1 ∧ (∀ u, w1.cell? ⟨W.heap.size, u, none⟩ = a6[u]?) ∧ (∀ u, w1.cell? ⟨W.heap.size + 1, u, none⟩ = a7[u]?) ∧
    (∀ u, w1.frozen? ⟨W.heap.size, u, none⟩ = false) ∧ (∀ u, w1.frozen? ⟨W.heap.size + 1, u, none⟩ = false) ∧ w1.heap.size = W.heap.size + 1 + 1 := by
  have e6 : ((W.alloc (.cells a6 t6)).alloc (.cells a7 t7)).heap[W.heap.size]? = some (.cells a6 t6) :=
    (((Below.refl _ (W.alloc (.cells a6 t6))).alloc (Nat.le_refl _) (.cells a7 t7)).block W.heap.size (by simp)).trans (heap_alloc_new_at W _ _ rfl)
  have e7 : ((W.alloc (.cells a6 t6)).alloc (.cells a7 t7)).heap[W.heap.size + 1]? = some (.cells a7 t7) := heap_alloc_new_at _ _ _ (by simp)
  refine ⟨_, rfl, (by repeat' (first | (with_reducible exact Below.refl _ _) | (with_reducible assumption) | (with_reducible refine below_drewN ?_ _) | (with_reducible refine below_more _ _ _ ?_ ?_) | (with_reducible refine Below.alloc ?_ ?_ _) | (with_reducible refine Below.drew ?_) | (with_reducible refine Below.setCell ?_ ?_ _) | go_size)), fun u => ?_, fun u => ?_, fun u => ?_, fun u => ?_, by simp⟩
  · unfold World.cell?; rw [e6]; rfl
  · unfold World.cell?; rw [e7]; rfl
  · unfold World.frozen?; rw [e6]; simp
  · unfold World.frozen?; rw [e7]; simp
theorem Turned.below_new {W w2 a : World} {b : Option Nat} {B : Nat} (h : Turned W w2 b) (hb : ∀ k, b = some k → B ≤ k) (h0 : Below B a W) (hB : B ≤ W.heap.size) : Below B a w2 :=
  h0.trans ⟨h.os, h.tape, h.output, by have := h.size; omega, fun k hk => h.block k (by omega) (fun e => by have := hb k e.symm; omega)⟩
theorem cell_set_ne {w : World} {b o o' : Nat} {u : Value} (h : o ≠ o') : (w.setCell ⟨b, o, none⟩ u).cell? ⟨b, o', none⟩ = w.cell? ⟨b, o', none⟩ := by
  simp only [World.setCell, World.cell?, Array.getElem?_modify, if_true]
  cases w.heap[b]? with
  | none => rfl
  | some x =>
    cases x <;> simp [Array.getElem?_setIfInBounds_ne h]
theorem frozen_set {w : World} {b o o' : Nat} {u : Value} : (w.setCell ⟨b, o, none⟩ u).frozen? ⟨b, o', none⟩ = w.frozen? ⟨b, o', none⟩ := by
  simp only [World.setCell, World.frozen?, Array.getElem?_modify, if_true]
  cases w.heap[b]? with
  | none => rfl
  | some x => cases x <;> rfl
theorem one_box (W : World) (a6 : Array Value) (t6 : TypeId) : ∃ w1, w1 = W.alloc (.cells a6 t6) ∧ (∀ u, w1.cell? ⟨W.heap.size, u, none⟩ = a6[u]?) ∧ Below W.heap.size W w1 ∧ (∀ u, w1.frozen? ⟨W.heap.size, u, none⟩ = false) ∧ w1.heap.size = W.heap.size + 1 := by
  obtain ⟨h1, h2, h3, h4⟩ := new_box W a6 t6 W.heap.size rfl
  exact ⟨_, rfl, h1, h4, h2, by simp⟩
end Go.Proofs.Ytbghjklnlhoklaa
namespace Go.Proofs.Ytbghjklnlhoklaa
open Go.RowKit
section
variable {β : Type} (enc : β → List Value) (T : TypeId) (size : Nat) (hk : ∀ x, (enc x).length = size)
/-- All their cells. -/
def cellsR (l : List β) : List Value := l.flatMap enc
theorem cellsR_app (l l' : List β) : cellsR enc (l ++ l') = cellsR enc l ++ cellsR enc l' := by simp [cellsR]
theorem cellsR_one (x : β) : cellsR enc [x] = enc x := by simp [cellsR]
theorem cellsR_nil : cellsR enc ([] : List β) = [] := rfl
theorem cellsR_mem {l : List β} (h1 : ∀ x, ∀ v ∈ enc x, v.oneCell' = true) : ∀ u ∈ cellsR enc l, u.oneCell' = true := fun u hu => by
  obtain ⟨b, _, hb⟩ := List.mem_flatMap.1 hu
  exact h1 b u hb
include hk in
theorem cellsR_len : ∀ l : List β, (cellsR enc l).length = l.length * size
  | [] => by simp [cellsR]
  | b :: l => by
    have h := cellsR_len l
    simp only [cellsR, List.flatMap_cons, List.length_append, hk, List.length_cons] at *
    rw [h, Nat.add_mul, Nat.one_mul, Nat.add_comm]
include hk in
theorem cellsR_get : ∀ (l : List β) (k j : Nat) (b : β), l[k]? = some b → j < size → (cellsR enc l)[k * size + j]? = (enc b)[j]?
  | c :: l, 0, j, b, h, hj => by
    obtain rfl : c = b := by simpa using h
    simp only [cellsR, List.flatMap_cons, Nat.zero_mul, Nat.zero_add]
    rw [List.getElem?_append_left (by rw [hk]; exact hj)]
  | c :: l, k + 1, j, b, h, hj => by
    have ih := cellsR_get l k j b (by simpa using h) hj
    simp only [cellsR, List.flatMap_cons] at *
    rw [List.getElem?_append_right (by rw [hk, Nat.add_mul]; omega), hk, show (k + 1) * size + j - size = k * size + j by rw [Nat.add_mul]; omega, ih]

/-- A slice that reads as these. -/
def RIn (w : World) (v : Value) (l : List β) : Prop :=
  ∃ p cap, v = .slice p l.length cap ∧ l.length ≤ maxLen ∧ (p = none → cap = 0) ∧ l.length ≤ cap ∧ (l ≠ [] → ∃ blk off, p = some ⟨blk, off, none⟩ ∧ blk < w.heap.size ∧ ∀ t u, (cellsR enc l)[t]? = some u → w.cell? ⟨blk, off + t, none⟩ = some u)
/-- A slice of the call's own that reads as these. -/
def RNew (w w' : World) (v : Value) (l : List β) : Prop := Sl w' T size v l.length (cellsR enc l) ∧ Below w.heap.size w w' ∧ ∀ g, v.ownBlock = some g → w.heap.size ≤ g
variable {enc T size}

theorem RIn.of_sl {w : World} {v : Value} {l : List β} (h : Sl w T size v l.length (cellsR enc l)) : RIn enc w v l := by
  obtain ⟨_, ⟨rfl, h0⟩ | ⟨g, off, cap, cur, rfl, hb, hn, hc, hsz, hr⟩⟩ := h
  · obtain rfl := List.eq_nil_of_length_eq_zero h0
    exact ⟨none, 0, rfl, by simp [maxLen], fun _ => rfl, Nat.le_refl _, fun h => absurd rfl h⟩
  · exact ⟨_, cap, rfl, by omega, (fun h => by cases h), hn, fun _ => ⟨g, off, rfl, (Array.getElem?_eq_some_iff.1 hb).1, fun t u hu => by simp [World.cell?, hb, hr t u hu]⟩⟩
theorem RIn.keep {w w' : World} {v : Value} {l : List β} (h : RIn enc w v l) (hb : Below w.heap.size w w') : RIn enc w' v l := by
  obtain ⟨p, cap, rfl, h1, h2, h3, h4⟩ := h
  refine ⟨p, cap, rfl, h1, h2, h3, fun hn => ?_⟩
  obtain ⟨blk, off, rfl, h5, h6⟩ := h4 hn
  exact ⟨blk, off, rfl, Nat.lt_of_lt_of_le h5 hb.size, fun t u hu => (hb.cell (p := ⟨blk, off + t, none⟩) h5).trans (h6 t u hu)⟩
include hk in
/-- The cells of one of them. -/
theorem RIn.cells {w : World} {v : Value} {l : List β} (h : RIn enc w v l) {k : Nat} {b : β} (hb : l[k]? = some b) : ∃ blk off cap, v = .slice (some ⟨blk, off, none⟩) l.length cap ∧ blk < w.heap.size ∧ ∀ j u, (enc b)[j]? = some u → w.cell? ⟨blk, off + k * size + j, none⟩ = some u := by
  obtain ⟨p, cap, rfl, _, _, _, h4⟩ := h
  obtain ⟨blk, off, rfl, h5, h6⟩ := h4 (fun e => by subst e; cases hb)
  refine ⟨blk, off, cap, rfl, h5, fun j u hj => ?_⟩
  have hj' : j < size := by have := (List.getElem?_eq_some_iff.1 hj).1; rwa [hk] at this
  have e := cellsR_get enc size hk l k j b hb hj'
  rw [Nat.add_assoc]
  exact h6 _ u (e.trans hj)
theorem RNew.rin {w0 w : World} {v : Value} {l : List β} (h : RNew enc T size w0 w v l) : RIn enc w v l := RIn.of_sl h.1
theorem RNew.grow {w0 w w' : World} {v : Value} {l : List β} (h : RNew enc T size w0 w v l) (hb : Below w.heap.size w w') : RNew enc T size w0 w' v l :=
  ⟨h.1.keep fun g hg => hb.block g (sl_lt h.1 hg), h.2.1.trans (hb.mono h.2.1.size), h.2.2⟩
theorem RNew.nil (w : World) : RNew enc T size w w (.slice none 0 0) ([] : List β) := ⟨⟨by simp [cellsR], .inl ⟨rfl, rfl⟩⟩, Below.refl _ _, fun g hg => by cases hg⟩
/-- The same, of a later beginning. -/
theorem RNew.since {w0 w1 w : World} {v : Value} {l : List β} (h : RNew enc T size w1 w v l) (hb : Below w0.heap.size w0 w1) : RNew enc T size w0 w v l :=
  ⟨h.1, hb.trans (h.2.1.mono hb.size), fun g hg => Nat.le_trans hb.size (h.2.2 g hg)⟩
theorem RNew.snoc {w0 w w1 : World} {v v' : Value} {l : List β} {b : β} (h : RNew enc T size w0 w v l) (hs : Sl w1 T size v' (l.length + 1) (cellsR enc l ++ enc b)) (ht : Turned w w1 v.ownBlock)
    (ho : v'.ownBlock = v.ownBlock ∨ ∃ g, v'.ownBlock = some g ∧ w.heap.size ≤ g) : RNew enc T size w0 w1 v' (l ++ [b]) := by
  refine ⟨?_, h.2.1.trans ⟨ht.os, ht.tape, ht.output, ht.size, fun k hk => ht.block k (by have := h.2.1.size; omega) fun e => by have := h.2.2 k e.symm; omega⟩, fun q hq => ?_⟩
  · rw [cellsR_app, cellsR_one]; simpa using hs
  · rcases ho with e | ⟨g', e, hg'⟩
    · exact h.2.2 q (by rw [← e]; exact hq)
    · rw [e] at hq
      cases hq
      exact Nat.le_trans h.2.1.size hg'
end
end Go.Proofs.Ytbghjklnlhoklaa
