/-
  A slice that owns its array, wherever in it it begins: what an append leaves, in one way. No condition but the sizes that an append owes.
-/
import Derived.Test.YtcnclcfipabimaaBase
import Derived.Deep.RegionLaw
import Derived.Deep.RegionLawGrows
namespace Go.Proofs.Ytcnclcfipabimaa
open Go.RowKit

/-- v reads as the cells xs (of 'size' cells an element), and the block that it lies in is its own: not frozen, with all its capacity there. -/
def Sl (w : World) (e : TypeId) (size : Nat) (v : Value) (n : Nat) (xs : List Value) : Prop :=
  xs.length = n * size ∧
  ((v = .slice none 0 0 ∧ n = 0) ∨
   ∃ g off cap cur, v = .slice (some ⟨g, off, none⟩) n cap ∧ w.heap[g]? = some (.cells cur e (0, 0)) ∧ n ≤ cap ∧ cap ≤ maxLen ∧ off + cap * size ≤ cur.size ∧ ∀ j u, xs[j]? = some u → cur[off + j]? = some u)

theorem Sl.of_own {w : World} {base : Nat} {e : TypeId} {size : Nat} {v : Value} {n : Nat} {xs : List Value} (h : w.ownsRow base e size v n xs) : Sl w e size v n xs := by
  obtain ⟨h1, h2 | ⟨g, cap, cur, hv, hb, hg, hn, hm, hs, ht⟩⟩ := h
  · exact ⟨h1, .inl h2⟩
  · refine ⟨h1, .inr ⟨g, 0, cap, cur, hv, hg, hn, hm, by omega, fun j u hj => ?_⟩⟩
    rw [← ht] at hj
    rw [List.getElem?_take] at hj
    split at hj
    · simpa using hj
    · cases hj

/-- Another world in which its block is as it was. -/
theorem Sl.keep {w w' : World} {e : TypeId} {size : Nat} {v : Value} {n : Nat} {xs : List Value} (h : Sl w e size v n xs) (hk : ∀ g, v.ownBlock = some g → w'.heap[g]? = w.heap[g]?) : Sl w' e size v n xs := by
  obtain ⟨h1, h2 | ⟨g, off, cap, cur, rfl, hg, r⟩⟩ := h
  · exact ⟨h1, .inl h2⟩
  · exact ⟨h1, .inr ⟨g, off, cap, cur, rfl, by rw [hk g rfl]; exact hg, r⟩⟩

/-- What has turned: the block b alone (if any), and what is new. -/
structure Turned (w w' : World) (b : Option Nat) : Prop where
  os : w'.os = w.os
  tape : w'.tape = w.tape
  output : w'.output = w.output
  size : w.heap.size ≤ w'.heap.size
  block : ∀ k, k < w.heap.size → some k ≠ b → w'.heap[k]? = w.heap[k]?

theorem Turned.of_grown {w w' : World} {b : Option Nat} (h : w.grownBy w' none) : Turned w w' b := ⟨h.os, h.tape, h.output, h.size, fun k hk _ => h.block k hk (by simp)⟩

theorem setCells_heap (g : Nat) (e : TypeId) (fr : Nat × Nat) : ∀ (vs : List Value) (o : Nat) (w : World) (cur : Array Value), w.heap[g]? = some (.cells cur e fr) → o + vs.length ≤ cur.size →
    ∃ cur', (w.setCells g o vs).heap[g]? = some (.cells cur' e fr) ∧ cur'.size = cur.size ∧ (∀ j, j < o → cur'[j]? = cur[j]?) ∧ (∀ j u, vs[j]? = some u → cur'[o + j]? = some u) ∧ (∀ j, o + vs.length ≤ j → cur'[j]? = cur[j]?)
  | [], o, w, cur, h, _ => ⟨cur, h, rfl, fun _ _ => rfl, fun j u hj => by simp at hj, fun _ _ => rfl⟩
  | v :: vs, o, w, cur, h, hl => by
    have h1 : (w.setCell ⟨g, o, none⟩ v).heap[g]? = some (.cells (cur.setIfInBounds o v) e fr) := by
      simp [World.setCell, Array.getElem?_modify, h]
    simp only [List.length_cons] at hl
    obtain ⟨cur', hg, hs, hlo, hin, hhi⟩ := setCells_heap g e fr vs (o + 1) _ _ h1 (by simp; omega)
    refine ⟨cur', hg, by rw [hs]; simp, fun j hj => ?_, fun j u hj => ?_, fun j hj => ?_⟩
    · rw [hlo j (by omega), Array.getElem?_setIfInBounds_ne (by omega)]
    · cases j with
      | zero =>
        simp only [List.getElem?_cons_zero, Option.some.injEq] at hj
        subst hj
        rw [Nat.add_zero, hlo o (by omega), Array.getElem?_setIfInBounds_self]
        rw [if_pos (by omega)]
      | succ j =>
        simp only [List.getElem?_cons_succ] at hj
        have := hin j u hj
        rwa [show o + 1 + j = o + (j + 1) from by omega] at this
    · simp only [List.length_cons] at hj
      rw [hhi j (by omega), Array.getElem?_setIfInBounds_ne (by omega)]

theorem setCells_turned (g : Nat) : ∀ (vs : List Value) (o : Nat) (w : World), Turned w (w.setCells g o vs) (some g)
  | [], o, w => ⟨rfl, rfl, rfl, Nat.le_refl _, fun _ _ _ => rfl⟩
  | v :: vs, o, w => by
    have h := setCells_turned g vs (o + 1) (w.setCell ⟨g, o, none⟩ v)
    refine ⟨h.os, h.tape, h.output, ?_, fun k hk hne => ?_⟩
    · have h2 := h.size
      rw [World.size_setCell] at h2
      exact h2
    · have h1 := h.block k (by simpa [World.setCell] using hk) hne
      rw [show w.setCells g o (v :: vs) = (w.setCell ⟨g, o, none⟩ v).setCells g (o + 1) vs from rfl, h1]
      exact Below.heap_setCell _ _ _ _ (by intro e; exact hne (by rw [e]))

/-- An append, in one way. -/
theorem wpList_append_sl {P : Program} (w : World) {ops : Array Oper} {rest : List Oper} {o : Oper} {a : Act} {Q : Exit → Act → World → Prop}
    (hg : o.guard = none) (s x : Operand) (t : TypeId) (hop : o.op = Op.call { callee := Callee.builtin Builtin.append, args := #[s, x], argTypes := #[t, t] })
    (e : TypeId) (i : TypeInfo) (z : Value) (size bytes : Nat) (h1 : P.underlying t = some (.slice e)) (h2 : P.info? e = some i) (h3 : i.zero = some z) (h4 : i.size = size) (h5 : i.bytes = bytes) (h6 : z.cells.size = size) (h7 : 0 < size)
    (v : Value) (n : Nat) (xs : List Value) (hv : a.eval s = v) (hsl : Sl w e size v n xs)
    (ad : Addr) (m c : Nat) (news : List Value) (hx : a.eval x = .slice (some ad) m c) (hn : news.length = m * size) (hc : ∀ j u, news[j]? = some u → w.cell? (ad.add j) = some u) (h1c : ∀ u ∈ news, u.oneCell' = true) (hm : 0 < m)
    (b1 : n + m ≤ maxLen) (b2 : (n + m) * bytes ≤ 140737488355328)
    (hK : ∀ v' w', Sl w' e size v' (n + m) (xs ++ news) → Turned w w' v.ownBlock → (v'.ownBlock = v.ownBlock ∨ ∃ g, v'.ownBlock = some g ∧ w.heap.size ≤ g) → wpList P ops Q rest (a.put o.dst v') w') :
    wpList P ops Q (o :: rest) a w := by
  obtain ⟨hlx, ⟨rfl, rfl⟩ | ⟨g, off, cap, cur, rfl, hgb, hncap, hcm, hsz, hcur⟩⟩ := hsl
  · have hx0 : xs = [] := by simpa using hlx
    subst hx0
    refine wpList_append_grows w hg s x t hop e i z size bytes h1 h2 h3 h4 h5 h6 h7 none 0 0 [] hv (fun _ => ⟨rfl, rfl⟩) (by simp) (fun b hb => by cases hb) ad m c news hx hn hc h1c (by omega) b1 b2 fun v' w' ho hgr => ?_
    refine hK v' w' (Sl.of_own ho) (Turned.of_grown hgr) ?_
    obtain ⟨_, ⟨_, h0⟩ | ⟨g, cap, cur, rfl, hb, _⟩⟩ := ho
    · omega
    · exact .inr ⟨g, rfl, hb⟩
  · have hcell : ∀ j, w.cell? ⟨g, j, none⟩ = cur[j]? := fun j => by simp [World.cell?, hgb]
    have hfro : ∀ j, w.frozen? ⟨g, j, none⟩ = false := fun j => by simp [World.frozen?, hgb]
    refine wpList_append_arg w hg s x t hop e i z size bytes h1 h2 h3 h4 h5 h6 h7 g off n cap xs hv hlx (fun j u hj => by rw [hcell]; exact hcur j u hj) ad m c news hx hn hc h1c (fun hr j hj => ?_) b1 b2 (fun hr => ?_) fun hr v' w' ho hgr => ?_
    · have hlt : off + n * size + j < cur.size := by
        have : (n + m) * size ≤ cap * size := Nat.mul_le_mul_right _ hr
        rw [Nat.add_mul] at this
        omega
      exact ⟨by rw [hcell, Array.getElem?_eq_getElem hlt]; rfl, hfro _⟩
    · have hle : off + n * size + news.length ≤ cur.size := by
        have : (n + m) * size ≤ cap * size := Nat.mul_le_mul_right _ hr
        rw [Nat.add_mul] at this
        omega
      obtain ⟨cur', hg', hs', hlo, hin, hhi⟩ := setCells_heap g e (0, 0) news (off + n * size) w cur hgb hle
      refine hK _ _ ⟨by rw [List.length_append, hlx, hn, Nat.add_mul], .inr ⟨g, off, cap, cur', rfl, hg', hr, hcm, by omega, fun j u hj => ?_⟩⟩ (setCells_turned g news _ w) (.inl rfl)
      rw [List.getElem?_append] at hj
      split at hj
      · rename_i hlt
        rw [hlo _ (by omega)]
        exact hcur j u hj
      · rename_i hge
        have := hin (j - xs.length) u hj
        rwa [show off + n * size + (j - xs.length) = off + j from by omega] at this
    · refine hK v' w' (Sl.of_own ho) (Turned.of_grown hgr) ?_
      obtain ⟨_, ⟨_, h0⟩ | ⟨g', cap', cur', rfl, hb, _⟩⟩ := ho
      · omega
      · exact .inr ⟨g', rfl, hb⟩


/-- An append, in one way, as a step of a region that draws its order; the new value written out. -/
theorem step_append_sl {P : Program} (w : World) {ops : Array Oper} {o : Oper} {a : Act} {K : Act → World → Prop} {Q : Exit → Act → World → Prop} {E : Prop}
    (hg : o.guard = none) (s x : Operand) (t : TypeId) (hop : o.op = Op.call { callee := Callee.builtin Builtin.append, args := #[s, x], argTypes := #[t, t] })
    (e : TypeId) (i : TypeInfo) (z : Value) (size bytes : Nat) (h1 : P.underlying t = some (.slice e)) (h2 : P.info? e = some i) (h3 : i.zero = some z) (h4 : i.size = size) (h5 : i.bytes = bytes) (h6 : z.cells.size = size) (h7 : 0 < size)
    (v : Value) (n : Nat) (xs : List Value) (hv : a.eval s = v) (hsl : Sl w e size v n xs)
    (ad : Addr) (m c : Nat) (news : List Value) (hx : a.eval x = .slice (some ad) m c) (hn : news.length = m * size) (hc : ∀ j u, news[j]? = some u → w.cell? (ad.add j) = some u) (h1c : ∀ u ∈ news, u.oneCell' = true) (hm : 0 < m)
    (b1 : n + m ≤ maxLen) (b2 : (n + m) * bytes ≤ 140737488355328)
    (hK : ∀ g off cap w', Sl w' e size (.slice (some ⟨g, off, none⟩) (n + m) cap) (n + m) (xs ++ news) → Turned w w' v.ownBlock → (v.ownBlock = some g ∨ w.heap.size ≤ g) → K (a.put o.dst (.slice (some ⟨g, off, none⟩) (n + m) cap)) w') :
    if Region.wanted o (yielded ops a.tmps) = true then Oper.wp P o a w K Q else E := by
  have fin : ∀ v' w', w'.ownsRow w.heap.size e size v' (n + m) (xs ++ news) → w.grownBy w' none → K (a.put o.dst v') w' := by
    intro v' w' ho hgr
    have hs := Sl.of_own ho
    obtain ⟨_, ⟨_, h0⟩ | ⟨g, cap, cur, rfl, hb, _⟩⟩ := ho
    · omega
    · have := hK g 0 cap w' hs (Turned.of_grown hgr) (.inr hb)
      exact this
  obtain ⟨hlx, ⟨rfl, rfl⟩ | ⟨g, off, cap, cur, rfl, hgb, hncap, hcm, hsz, hcur⟩⟩ := hsl
  · have hx0 : xs = [] := by simpa using hlx
    subst hx0
    exact step_append_grows hg s x t hop e i z size bytes h1 h2 h3 h4 h5 h6 h7 none 0 0 [] hv (fun _ => ⟨rfl, rfl⟩) (by simp) (fun b hb => by cases hb) ad m c news hx hn hc h1c (by omega) b1 b2 fin
  · have hcell : ∀ j, w.cell? ⟨g, j, none⟩ = cur[j]? := fun j => by simp [World.cell?, hgb]
    have hfro : ∀ j, w.frozen? ⟨g, j, none⟩ = false := fun j => by simp [World.frozen?, hgb]
    by_cases hr : n + m ≤ cap
    · have hle : off + n * size + news.length ≤ cur.size := by
        have : (n + m) * size ≤ cap * size := Nat.mul_le_mul_right _ hr
        rw [Nat.add_mul] at this
        omega
      refine step_append_room hg s x t hop e i size h1 h2 h4 g off n cap hv ad m c news hx hn hc h1c hr (fun j hj => ?_) ?_
      · have hlt : off + n * size + j < cur.size := by omega
        exact ⟨by rw [hcell, Array.getElem?_eq_getElem hlt]; rfl, hfro _⟩
      · obtain ⟨cur', hg', hs', hlo, hin, hhi⟩ := setCells_heap g e (0, 0) news (off + n * size) w cur hgb hle
        refine hK g off cap _ ⟨by rw [List.length_append, hlx, hn, Nat.add_mul], .inr ⟨g, off, cap, cur', rfl, hg', hr, hcm, by omega, fun j u hj => ?_⟩⟩ (setCells_turned g news _ w) (.inl rfl)
        rw [List.getElem?_append] at hj
        split at hj
        · rename_i hlt
          rw [hlo _ (by omega)]
          exact hcur j u hj
        · rename_i hge
          have := hin (j - xs.length) u hj
          rwa [show off + n * size + (j - xs.length) = off + j from by omega] at this
    · exact step_append_grows hg s x t hop e i z size bytes h1 h2 h3 h4 h5 h6 h7 (some ⟨g, off, none⟩) n cap xs hv (fun h => by cases h) hlx (fun b hb j u hj => by cases hb; rw [show Addr.add ⟨g, off, none⟩ j = ⟨g, off + j, none⟩ from by unfold Addr.add; split <;> simp_all]; rw [hcell]; exact hcur j u hj) ad m c news hx hn hc h1c (by omega) b1 b2 fin

end Go.Proofs.Ytcnclcfipabimaa
