/-
  A slice that owns its array, wherever in it it begins: what an append leaves, in one way. No condition but the sizes that an append owes.
  parts.Sorted of however many entities; slices of entities that are read. Condition: at most a million.
  Slices of entities: loads, stores and appends of whole ones. No condition but the sizes that an append owes.
  Slices of structs of one kind, whatever the kind: those that are read, those of the call's own. No condition.
-/
import Derived.Test.YtcnclcfipabimaaBase
import Derived.Deep.RegionLaw
import Derived.Deep.RegionLawGrows
import Derived.Test.YtcnclcfipabimaaMsi
namespace Go.Proofs.Ytcnclcfipabimaa
open Go.RowKit

/-- v reads as the cells xs (of 'size' cells an element), and the block that it lies in is its own: not frozen, with all its capacity there. -/
def Sl (w : World) (e : TypeId) (size : Nat) (v : Value) (n : Nat) (xs : List Value) : Prop :=
  xs.length = n * size ∧
  ((v = .slice none 0 0 ∧ n = 0) ∨
   ∃ g off cap cur, v = .slice (some ⟨g, off, none⟩) n cap ∧ w.heap[g]? = some (.cells cur e (0, 0)) ∧ n ≤ cap ∧ cap ≤ maxLen ∧ off + cap * size ≤ cur.size ∧ ∀ j u, xs[j]? = some u → cur[off + j]? = some u)

theorem Sl.of_own {w : World} {base : Nat} {e : TypeId} {size : Nat} {v : Value} {n : Nat} {xs : List Value} (h : w.ownsRow base e size v n xs) : Sl w e size v n xs := by
  obtain ⟨h1, h2 | ⟨g, cap, cur, hv, hb, hg, hn, hm, hs, ht⟩⟩ := h
  · exact ⟨h1, .inl h2⟩
  · refine ⟨h1, .inr ⟨g, 0, cap, cur, hv, hg, hn, hm, by omega, fun j u hj => ?_⟩⟩
    rw [← ht] at hj
    rw [List.getElem?_take] at hj
    split at hj
    · simpa using hj
    · cases hj

/-- Another world in which its block is as it was. -/
theorem Sl.keep {w w' : World} {e : TypeId} {size : Nat} {v : Value} {n : Nat} {xs : List Value} (h : Sl w e size v n xs) (hk : ∀ g, v.ownBlock = some g → w'.heap[g]? = w.heap[g]?) : Sl w' e size v n xs := by
  obtain ⟨h1, h2 | ⟨g, off, cap, cur, rfl, hg, r⟩⟩ := h
  · exact ⟨h1, .inl h2⟩
  · exact ⟨h1, .inr ⟨g, off, cap, cur, rfl, by rw [hk g rfl]; exact hg, r⟩⟩

/-- What has turned: the block b alone (if any), and what is new. -/
structure Turned (w w' : World) (b : Option Nat) : Prop where
  os : w'.os = w.os
  tape : w'.tape = w.tape
  output : w'.output = w.output
  size : w.heap.size ≤ w'.heap.size
  block : ∀ k, k < w.heap.size → some k ≠ b → w'.heap[k]? = w.heap[k]?

theorem Turned.of_grown {w w' : World} {b : Option Nat} (h : w.grownBy w' none) : Turned w w' b := ⟨h.os, h.tape, h.output, h.size, fun k hk _ => h.block k hk (by simp)⟩

theorem setCells_heap (g : Nat) (e : TypeId) (fr : Nat × Nat) : ∀ (vs : List Value) (o : Nat) (w : World) (cur : Array Value), w.heap[g]? = some (.cells cur e fr) → o + vs.length ≤ cur.size →
    ∃ cur', (w.setCells g o vs).heap[g]? = some (.cells cur' e fr) ∧ cur'.size = cur.size ∧ (∀ j, j < o → cur'[j]? = cur[j]?) ∧ (∀ j u, vs[j]? = some u → cur'[o + j]? = some u) ∧ (∀ j, o + vs.length ≤ j → cur'[j]? = cur[j]?)
  | [], o, w, cur, h, _ => ⟨cur, h, rfl, fun _ _ => rfl, fun j u hj => by simp at hj, fun _ _ => rfl⟩
  | v :: vs, o, w, cur, h, hl => by
    have h1 : (w.setCell ⟨g, o, none⟩ v).heap[g]? = some (.cells (cur.setIfInBounds o v) e fr) := by
      simp [World.setCell, Array.getElem?_modify, h]
    simp only [List.length_cons] at hl
    obtain ⟨cur', hg, hs, hlo, hin, hhi⟩ := setCells_heap g e fr vs (o + 1) _ _ h1 (by simp; omega)
    refine ⟨cur', hg, by rw [hs]; simp, fun j hj => ?_, fun j u hj => ?_, fun j hj => ?_⟩
    · rw [hlo j (by omega), Array.getElem?_setIfInBounds_ne (by omega)]
    · cases j with
      | zero =>
        simp only [List.getElem?_cons_zero, Option.some.injEq] at hj
        subst hj
        rw [Nat.add_zero, hlo o (by omega), Array.getElem?_setIfInBounds_self]
        rw [if_pos (by omega)]
      | succ j =>
        simp only [List.getElem?_cons_succ] at hj
        have := hin j u hj
        rwa [show o + 1 + j = o + (j + 1) from by omega] at this
    · simp only [List.length_cons] at hj
      rw [hhi j (by omega), Array.getElem?_setIfInBounds_ne (by omega)]

theorem setCells_turned (g : Nat) : ∀ (vs : List Value) (o : Nat) (w : World), Turned w (w.setCells g o vs) (some g)
  | [], o, w => ⟨rfl, rfl, rfl, Nat.le_refl _, fun _ _ _ => rfl⟩
  | v :: vs, o, w => by
    have h := setCells_turned g vs (o + 1) (w.setCell ⟨g, o, none⟩ v)
    refine ⟨h.os, h.tape, h.output, ?_, fun k hk hne => ?_⟩
    · have h2 := h.size
      rw [World.size_setCell] at h2
      exact h2
    · have h1 := h.block k (by simpa [World.setCell] using hk) hne
      rw [show w.setCells g o (v :: vs) = (w.setCell ⟨g, o, none⟩ v).setCells g (o + 1) vs from rfl, h1]
      exact Below.heap_setCell _ _ _ _ (by intro e; exact hne (by rw [e]))

/-- An append, in one way. -/
theorem wpList_append_sl {P : Program} (w : World) {ops : Array Oper} {rest : List Oper} {o : Oper} {a : Act} {Q : Exit → Act → World → Prop}
    (hg : o.guard = none) (s x : Operand) (t : TypeId) (hop : o.op = Op.call { callee := Callee.builtin Builtin.append, args := #[s, x], argTypes := #[t, t] })
    (e : TypeId) (i : TypeInfo) (z : Value) (size bytes : Nat) (h1 : P.underlying t = some (.slice e)) (h2 : P.info? e = some i) (h3 : i.zero = some z) (h4 : i.size = size) (h5 : i.bytes = bytes) (h6 : z.cells.size = size) (h7 : 0 < size)
    (v : Value) (n : Nat) (xs : List Value) (hv : a.eval s = v) (hsl : Sl w e size v n xs)
    (ad : Addr) (m c : Nat) (news : List Value) (hx : a.eval x = .slice (some ad) m c) (hn : news.length = m * size) (hc : ∀ j u, news[j]? = some u → w.cell? (ad.add j) = some u) (h1c : ∀ u ∈ news, u.oneCell' = true) (hm : 0 < m)
    (b1 : n + m ≤ maxLen) (b2 : (n + m) * bytes ≤ 140737488355328)
    (hK : ∀ v' w', Sl w' e size v' (n + m) (xs ++ news) → Turned w w' v.ownBlock → (v'.ownBlock = v.ownBlock ∨ ∃ g, v'.ownBlock = some g ∧ w.heap.size ≤ g) → wpList P ops Q rest (a.put o.dst v') w') :
    wpList P ops Q (o :: rest) a w := by
  obtain ⟨hlx, ⟨rfl, rfl⟩ | ⟨g, off, cap, cur, rfl, hgb, hncap, hcm, hsz, hcur⟩⟩ := hsl
  · have hx0 : xs = [] := by simpa using hlx
    subst hx0
    refine wpList_append_grows w hg s x t hop e i z size bytes h1 h2 h3 h4 h5 h6 h7 none 0 0 [] hv (fun _ => ⟨rfl, rfl⟩) (by simp) (fun b hb => by cases hb) ad m c news hx hn hc h1c (by omega) b1 b2 fun v' w' ho hgr => ?_
    refine hK v' w' (Sl.of_own ho) (Turned.of_grown hgr) ?_
    obtain ⟨_, ⟨_, h0⟩ | ⟨g, cap, cur, rfl, hb, _⟩⟩ := ho
    · omega
    · exact .inr ⟨g, rfl, hb⟩
  · have hcell : ∀ j, w.cell? ⟨g, j, none⟩ = cur[j]? := fun j => by simp [World.cell?, hgb]
    have hfro : ∀ j, w.frozen? ⟨g, j, none⟩ = false := fun j => by simp [World.frozen?, hgb]
    refine wpList_append_arg w hg s x t hop e i z size bytes h1 h2 h3 h4 h5 h6 h7 g off n cap xs hv hlx (fun j u hj => by rw [hcell]; exact hcur j u hj) ad m c news hx hn hc h1c (fun hr j hj => ?_) b1 b2 (fun hr => ?_) fun hr v' w' ho hgr => ?_
    · have hlt : off + n * size + j < cur.size := by
        have : (n + m) * size ≤ cap * size := Nat.mul_le_mul_right _ hr
        rw [Nat.add_mul] at this
        omega
      exact ⟨by rw [hcell, Array.getElem?_eq_getElem hlt]; rfl, hfro _⟩
    · have hle : off + n * size + news.length ≤ cur.size := by
        have : (n + m) * size ≤ cap * size := Nat.mul_le_mul_right _ hr
        rw [Nat.add_mul] at this
        omega
      obtain ⟨cur', hg', hs', hlo, hin, hhi⟩ := setCells_heap g e (0, 0) news (off + n * size) w cur hgb hle
      refine hK _ _ ⟨by rw [List.length_append, hlx, hn, Nat.add_mul], .inr ⟨g, off, cap, cur', rfl, hg', hr, hcm, by omega, fun j u hj => ?_⟩⟩ (setCells_turned g news _ w) (.inl rfl)
      rw [List.getElem?_append] at hj
      split at hj
      · rename_i hlt
        rw [hlo _ (by omega)]
        exact hcur j u hj
      · rename_i hge
        have := hin (j - xs.length) u hj
        rwa [show off + n * size + (j - xs.length) = off + j from by omega] at this
    · refine hK v' w' (Sl.of_own ho) (Turned.of_grown hgr) ?_
      obtain ⟨_, ⟨_, h0⟩ | ⟨g', cap', cur', rfl, hb, _⟩⟩ := ho
      · omega
      · exact .inr ⟨g', rfl, hb⟩


/-- An append, in one way, as a step of a region that draws its order; the new value written out. -/
theorem step_append_sl {P : Program} (w : World) {ops : Array Oper} {o : Oper} {a : Act} {K : Act → World → Prop} {Q : Exit → Act → World → Prop} {E : Prop}
    (hg : o.guard = none) (s x : Operand) (t : TypeId) (hop : o.op = Op.call { callee := Callee.builtin Builtin.append, args := #[s, x], argTypes := #[t, t] })
    (e : TypeId) (i : TypeInfo) (z : Value) (size bytes : Nat) (h1 : P.underlying t = some (.slice e)) (h2 : P.info? e = some i) (h3 : i.zero = some z) (h4 : i.size = size) (h5 : i.bytes = bytes) (h6 : z.cells.size = size) (h7 : 0 < size)
    (v : Value) (n : Nat) (xs : List Value) (hv : a.eval s = v) (hsl : Sl w e size v n xs)
    (ad : Addr) (m c : Nat) (news : List Value) (hx : a.eval x = .slice (some ad) m c) (hn : news.length = m * size) (hc : ∀ j u, news[j]? = some u → w.cell? (ad.add j) = some u) (h1c : ∀ u ∈ news, u.oneCell' = true) (hm : 0 < m)
    (b1 : n + m ≤ maxLen) (b2 : (n + m) * bytes ≤ 140737488355328)
    (hK : ∀ g off cap w', Sl w' e size (.slice (some ⟨g, off, none⟩) (n + m) cap) (n + m) (xs ++ news) → Turned w w' v.ownBlock → (v.ownBlock = some g ∨ w.heap.size ≤ g) → K (a.put o.dst (.slice (some ⟨g, off, none⟩) (n + m) cap)) w') :
    if Region.wanted o (yielded ops a.tmps) = true then Oper.wp P o a w K Q else E := by
  have fin : ∀ v' w', w'.ownsRow w.heap.size e size v' (n + m) (xs ++ news) → w.grownBy w' none → K (a.put o.dst v') w' := by
    intro v' w' ho hgr
    have hs := Sl.of_own ho
    obtain ⟨_, ⟨_, h0⟩ | ⟨g, cap, cur, rfl, hb, _⟩⟩ := ho
    · omega
    · have := hK g 0 cap w' hs (Turned.of_grown hgr) (.inr hb)
      exact this
  obtain ⟨hlx, ⟨rfl, rfl⟩ | ⟨g, off, cap, cur, rfl, hgb, hncap, hcm, hsz, hcur⟩⟩ := hsl
  · have hx0 : xs = [] := by simpa using hlx
    subst hx0
    exact step_append_grows hg s x t hop e i z size bytes h1 h2 h3 h4 h5 h6 h7 none 0 0 [] hv (fun _ => ⟨rfl, rfl⟩) (by simp) (fun b hb => by cases hb) ad m c news hx hn hc h1c (by omega) b1 b2 fin
  · have hcell : ∀ j, w.cell? ⟨g, j, none⟩ = cur[j]? := fun j => by simp [World.cell?, hgb]
    have hfro : ∀ j, w.frozen? ⟨g, j, none⟩ = false := fun j => by simp [World.frozen?, hgb]
    by_cases hr : n + m ≤ cap
    · have hle : off + n * size + news.length ≤ cur.size := by
        have : (n + m) * size ≤ cap * size := Nat.mul_le_mul_right _ hr
        rw [Nat.add_mul] at this
        omega
      refine step_append_room hg s x t hop e i size h1 h2 h4 g off n cap hv ad m c news hx hn hc h1c hr (fun j hj => ?_) ?_
      · have hlt : off + n * size + j < cur.size := by omega
        exact ⟨by rw [hcell, Array.getElem?_eq_getElem hlt]; rfl, hfro _⟩
      · obtain ⟨cur', hg', hs', hlo, hin, hhi⟩ := setCells_heap g e (0, 0) news (off + n * size) w cur hgb hle
        refine hK g off cap _ ⟨by rw [List.length_append, hlx, hn, Nat.add_mul], .inr ⟨g, off, cap, cur', rfl, hg', hr, hcm, by omega, fun j u hj => ?_⟩⟩ (setCells_turned g news _ w) (.inl rfl)
        rw [List.getElem?_append] at hj
        split at hj
        · rename_i hlt
          rw [hlo _ (by omega)]
          exact hcur j u hj
        · rename_i hge
          have := hin (j - xs.length) u hj
          rwa [show off + n * size + (j - xs.length) = off + j from by omega] at this
    · exact step_append_grows hg s x t hop e i z size bytes h1 h2 h3 h4 h5 h6 h7 (some ⟨g, off, none⟩) n cap xs hv (fun h => by cases h) hlx (fun b hb j u hj => by cases hb; rw [show Addr.add ⟨g, off, none⟩ j = ⟨g, off + j, none⟩ from by unfold Addr.add; split <;> simp_all]; rw [hcell]; exact hcur j u hj) ad m c news hx hn hc h1c (by omega) b1 b2 fin

end Go.Proofs.Ytcnclcfipabimaa
namespace Go.Proofs.Ytcnclcfipabimaa
open Go.RowKit Go.Sort

/-- Entities' cells. -/
def bunCells (l : List Bun) : List Value := l.flatMap bunL
theorem bunL_len (b : Bun) : (bunL b).length = 11 := rfl
theorem bunCells_len : ∀ l : List Bun, (bunCells l).length = l.length * 11
  | [] => rfl
  | b :: l => by
    have h := bunCells_len l
    simp only [bunCells, List.flatMap_cons, List.length_append, bunL_len, List.length_cons] at *
    omega
theorem bunCells_app (l l' : List Bun) : bunCells (l ++ l') = bunCells l ++ bunCells l' := by simp [bunCells]
theorem bunCells_get : ∀ (l : List Bun) (k j : Nat) (b : Bun), l[k]? = some b → j < 11 → (bunCells l)[k * 11 + j]? = (bunL b)[j]?
  | c :: l, 0, j, b, h, hj => by
    obtain rfl : c = b := by simpa using h
    simp only [bunCells, List.flatMap_cons, Nat.zero_mul, Nat.zero_add]
    rw [List.getElem?_append_left (by rw [bunL_len]; exact hj)]
  | c :: l, k + 1, j, b, h, hj => by
    have ih := bunCells_get l k j b (by simpa using h) hj
    simp only [bunCells, List.flatMap_cons] at *
    rw [List.getElem?_append_right (by rw [bunL_len]; omega), bunL_len, show (k + 1) * 11 + j - 11 = k * 11 + j by omega, ih]
theorem bunL_one (b : Bun) : ∀ u ∈ bunL b, u.oneCell' = true := fun u hu => by
  simp [bunL] at hu
  rcases hu with rfl | rfl | rfl | rfl | rfl | rfl | rfl | rfl | rfl | rfl | rfl <;> rfl
theorem bunCells_one (l : List Bun) : ∀ u ∈ bunCells l, u.oneCell' = true := fun u hu => by
  obtain ⟨b, _, hb⟩ := List.mem_flatMap.1 hu
  exact bunL_one b u hb

/-- A slice that reads as these entities. -/
def BIn (w : World) (v : Value) (l : List Bun) : Prop :=
  ∃ p cap, v = .slice p l.length cap ∧ l.length ≤ maxLen ∧ (p = none → cap = 0) ∧ l.length ≤ cap ∧ (l ≠ [] → ∃ blk off, p = some ⟨blk, off, none⟩ ∧ blk < w.heap.size ∧ ∀ t u, (bunCells l)[t]? = some u → w.cell? ⟨blk, off + t, none⟩ = some u)

theorem BIn.of_sl {w : World} {v : Value} {l : List Bun} (h : Sl w 41 11 v l.length (bunCells l)) : BIn w v l := by
  obtain ⟨_, ⟨rfl, h0⟩ | ⟨g, off, cap, cur, rfl, hb, hn, hc, hsz, hr⟩⟩ := h
  · obtain rfl := List.eq_nil_of_length_eq_zero h0
    exact ⟨none, 0, rfl, by simp [maxLen], fun _ => rfl, Nat.le_refl _, fun h => absurd rfl h⟩
  · exact ⟨_, cap, rfl, by omega, (fun h => by cases h), hn, fun _ => ⟨g, off, rfl, (Array.getElem?_eq_some_iff.1 hb).1, fun t u hu => by simp [World.cell?, hb, hr t u hu]⟩⟩
theorem BIn.keep {w w' : World} {v : Value} {l : List Bun} (h : BIn w v l) (hb : Below w.heap.size w w') : BIn w' v l := by
  obtain ⟨p, cap, rfl, h1, h2, h3, h4⟩ := h
  refine ⟨p, cap, rfl, h1, h2, h3, fun hn => ?_⟩
  obtain ⟨blk, off, rfl, h5, h6⟩ := h4 hn
  exact ⟨blk, off, rfl, Nat.lt_of_lt_of_le h5 hb.size, fun t u hu => (hb.cell (p := ⟨blk, off + t, none⟩) h5).trans (h6 t u hu)⟩

/-- An append of nothing. -/
theorem run_append_zero {P : Program} {w : World} (t ty e : TypeId) (i : TypeInfo) (ht : P.underlying t = some (.slice e)) (hi : P.info? e = some i) (p q : Option Addr) (n cap c : Nat) (hn : n ≤ cap) :
    (Builtin.append_ #[t, t] ty #[.slice p n cap, .slice q 0 c]).run P w = .ok (.slice p n cap) w := by
  cases p <;> cases q <;> simp [Builtin.append_, run_underlying ht, sizeOf, typeInfo, hi, Builtin.lenOf, Builtin.firstCells, hn, storeCells, loadCells, loadCellsFrom]

theorem wpList_append_zero {P : Program} {w : World} {ops : Array Oper} {rest : List Oper} {o : Oper} {a : Act} {Q : Exit → Act → World → Prop} (hgd : o.guard = none) (s x : Operand) (t : TypeId)
    (ho : o.op = .call { callee := .builtin .append, args := #[s, x], argTypes := #[t, t] })
    (e : TypeId) (i : TypeInfo) (ht : P.underlying t = some (.slice e)) (hi : P.info? e = some i) (p q : Option Addr) (n cap c : Nat) (hs : a.eval s = .slice p n cap) (hx : a.eval x = .slice q 0 c) (hn : n ≤ cap)
    (h : wpList P ops Q rest (a.put o.dst (.slice p n cap)) w) : wpList P ops Q (o :: rest) a w := by
  refine wpList_plain hgd fun K hK => ?_
  have hrun := run_append_zero (P := P) (w := w) t o.type e i ht hi p q n cap c hn
  unfold Oper.wp
  simp [execOp, ho, resolve, invoke, builtin, hs, hx, hrun, Result.andThen]
  exact hK _ _ h

/-- A new slice that reads as these entities, in memory of its own. -/
def BNew (w w' : World) (v : Value) (l : List Bun) : Prop := Sl w' 41 11 v l.length (bunCells l) ∧ Below w.heap.size w w' ∧ ∀ g, v.ownBlock = some g → w.heap.size ≤ g

theorem info_bunJ : (Try.prog.info? 41).map (fun i => (i.zero, i.size, i.bytes)) = some (some (.agg #[.int .i64 0, .int .i64 0, .int .i64 0, .int .i64 0, .int .i64 0, .int .i64 0, .int .i64 0, .int .i64 0, .int .i64 0, .int .i64 0, .int .i64 0]), 11, 88) := by kernel_rfl

/-- What an append to a new empty slice leaves. -/
theorem bnew_of {w w1 : World} {l : List Bun} {v v' : Value} (o : Obj) (hv : v.ownBlock = some w.heap.size) (hs : Sl w1 41 11 v' (0 + l.length) ([] ++ bunCells l)) (ht : Turned (w.alloc o) w1 v.ownBlock)
    (ho : v'.ownBlock = v.ownBlock ∨ ∃ g, v'.ownBlock = some g ∧ (w.alloc o).heap.size ≤ g) : BNew w w1 v' l := by
  rw [Nat.zero_add, List.nil_append] at hs
  have hsz := ht.size
  rw [World.size_alloc] at hsz
  refine ⟨hs, ((Below.refl w.heap.size w).alloc (Nat.le_refl _) o).trans ⟨ht.os, ht.tape, ht.output, ht.size, fun k hk => ht.block k (by rw [World.size_alloc]; omega) (fun e => by rw [hv] at e; simp at e; omega)⟩, fun g hg => ?_⟩
  rcases ho with e | ⟨g', e, hg'⟩
  · rw [e, hv] at hg; simp at hg; omega
  · rw [e] at hg; simp at hg; rw [World.size_alloc] at hg'; omega

theorem sl_empty (W : World) : Sl (W.alloc (.cells #[] 41)) 41 11 (.slice (some ⟨W.heap.size, 0, none⟩) 0 0) 0 [] := ⟨rfl, .inr ⟨W.heap.size, 0, 0, #[], rfl, heap_alloc_new W _, Nat.le_refl _, by simp [maxLen], by simp, fun j u hj => by cases hj⟩⟩

set_option maxRecDepth 100000 in
/-- slices.Clone of entities. -/
theorem clone_bin (v : Value) (l : List Bun) (w : World) (h : BIn w v l) (hl : l.length ≤ 1000000) :
    Calls Try.prog 67 #[v] w fun e w' => ∃ v', e = .returned v' ∧ BNew w w' v' l := by
  obtain ⟨i0, hi0, hz0, hz1, hz2⟩ := info_parts info_bunJ
  obtain ⟨p, cap, rfl, h1, h2, h3, h4⟩ := h
  have HS := Lib.hid sl_empty
  by_cases hn : l = []
  · subst hn
    clear h4 h1
    cases p with
    | none =>
      obtain rfl := h2 rfl
      clear h2 h3
      have hnil := fun W : World => Lib.run_eql_slice_nil (P := Try.prog) W 24 41 none 0 0 0 0 Try.underlying24
      go_enter Try.func67, Try.ntmps67
      go_wp2_with fail
      go_ret
      exact ⟨_, rfl, ⟨rfl, .inl ⟨rfl, rfl⟩⟩, (by repeat' (first | (with_reducible exact Below.refl _ _) | (with_reducible assumption) | (with_reducible refine below_drewN ?_ _) | (with_reducible refine below_more _ _ _ ?_ ?_) | (with_reducible refine Below.alloc ?_ ?_ _) | (with_reducible refine Below.drew ?_) | (with_reducible refine Below.setCell ?_ ?_ _) | go_size)), fun g hg => by cases hg⟩
    | some a =>
      clear h2
      have hnil := fun W : World => Lib.run_eql_slice_nil (P := Try.prog) W 24 41 (some a) 0 cap 0 0 Try.underlying24
      go_enter Try.func67, Try.ntmps67
      go_wp2_with (at_builtin; refine wpList_append_zero (by rfl) _ _ 24 (by rfl) 41 i0 Try.underlying24 hi0 _ _ 0 0 _ (by rfl) (by rfl) (Nat.le_refl _) ?_)
      go_ret
      exact ⟨_, rfl, HS.out w, (by repeat' (first | (with_reducible exact Below.refl _ _) | (with_reducible assumption) | (with_reducible refine below_drewN ?_ _) | (with_reducible refine below_more _ _ _ ?_ ?_) | (with_reducible refine Below.alloc ?_ ?_ _) | (with_reducible refine Below.drew ?_) | (with_reducible refine Below.setCell ?_ ?_ _) | go_size)), fun g hg => by simp [Value.ownBlock] at hg; omega⟩
  · obtain ⟨blk, off, rfl, h5, h6⟩ := h4 hn
    have hn0 : 0 < l.length := List.length_pos_iff.2 hn
    have hcw : ∀ j u, (bunCells l)[j]? = some u → (w.alloc (.cells #[] 41)).cell? (Addr.add ⟨blk, off, none⟩ j) = some u := fun j u hj => by
      have h := h6 j u hj
      rw [show Addr.add ⟨blk, off, none⟩ j = ⟨blk, off + j, none⟩ from by unfold Addr.add; split <;> simp_all]
      exact cell_keep ((Below.refl _ _).alloc (Nat.le_refl _) _) h
    have HW := Lib.hid hcw
    have H1 := Lib.hid (bunCells_one l)
    have HX := Lib.hid (bunCells_len l)
    clear hcw h4 h6 h2 hn h1
    have hnil := fun W : World => Lib.run_eql_slice_nil (P := Try.prog) W 24 41 (some ⟨blk, off, none⟩) l.length cap 0 0 Try.underlying24
    go_enter Try.func67, Try.ntmps67
    go_wp2_with (at_builtin; refine wpList_append_sl _ (by rfl) _ _ 24 (by rfl) 41 i0 _ 11 88 Try.underlying24 hi0 hz0 hz1 hz2 rfl (by omega) _ 0 [] (by rfl) (HS.out _) ⟨blk, off, none⟩ l.length cap (bunCells l) (by rfl) HX.out HW.out H1.out hn0 (by unfold maxLen; omega) (by omega) ?_; intro v' w1 hs1 ht ho)
    go_ret
    exact ⟨_, rfl, bnew_of _ rfl hs1 ht ho⟩

/-- The row of a slice of its own. -/
theorem holds_of_sl {w : World} {l : List Bun} {blk off cap : Nat} (h : Sl w 41 11 (.slice (some ⟨blk, off, none⟩) l.length cap) l.length (bunCells l)) : blk < w.heap.size ∧ HoldsK (fun x : Bun × Nat => bunL x.1) 11 w blk off (tagd l) := by
  obtain ⟨_, ⟨h0, _⟩ | ⟨g, off', cap', cur, hv, hb, hn, hc, hsz, hr⟩⟩ := h
  · cases h0
  · simp only [Value.slice.injEq, Option.some.injEq, Addr.mk.injEq, and_true, true_and] at hv
    obtain ⟨⟨rfl, rfl⟩, rfl⟩ := hv
    refine ⟨(Array.getElem?_eq_some_iff.1 hb).1, fun t ht => ?_⟩
    rw [size_flatK, size_tagd] at ht
    rw [get_flatK _ _ _ _ (by rw [size_tagd]; exact ht), tagd_get l (by omega)]
    have hk : t / 11 < l.length := by omega
    have e1 := bunCells_get l (t / 11) (t % 11) l[t / 11] (List.getElem?_eq_getElem hk) (Nat.mod_lt _ (by omega))
    rw [show t / 11 * 11 + t % 11 = t by omega] at e1
    have e2 : (bunL l[t / 11])[t % 11]? = some ((bunL l[t / 11])[t % 11]!) := by
      rw [List.getElem!_eq_getElem?_getD]
      have : t % 11 < (bunL l[t / 11]).length := by rw [bunL_len]; exact Nat.mod_lt _ (by omega)
      rw [List.getElem?_eq_getElem this]; rfl
    have h3 := hr t _ (e1.trans e2)
    refine ⟨?_, by simp [World.frozen?, hb]⟩
    show w.cell? ⟨blk, off + t, none⟩ = some ((bunL l[t / 11])[t % 11]!)
    simp [World.cell?, hb, h3]

/-- .. and a slice of its own of a row that was sorted. -/
theorem sl_of_sorted {w w' : World} {l : List Bun} {blk off cap : Nat} {d' : Array (Bun × Nat)} (h : Sl w 41 11 (.slice (some ⟨blk, off, none⟩) l.length cap) l.length (bunCells l)) (hd : d'.size = l.length)
    (hw : SWK (fun x : Bun × Nat => bunL x.1) 11 w blk off d' w') : Sl w' 41 11 (.slice (some ⟨blk, off, none⟩) l.length cap) l.length (bunCells (d'.toList.map fun x => x.1)) ∧ Turned w w' (some blk) := by
  obtain ⟨_, hH⟩ := holds_of_sl h
  obtain ⟨_, ⟨h0, _⟩ | ⟨g, off', cap', cur, hv, hb, hn, hc, hsz, hr⟩⟩ := h
  · cases h0
  · simp only [Value.slice.injEq, Option.some.injEq, Addr.mk.injEq, and_true, true_and] at hv
    obtain ⟨⟨rfl, rfl⟩, rfl⟩ := hv
    have hlt := (Array.getElem?_eq_some_iff.1 hb).1
    obtain ⟨n, os, rfl⟩ := hw
    have hheap : (sortWorldK (fun x : Bun × Nat => bunL x.1) 11 w blk off n d' os).heap[blk]? = some (.cells (putCells id off (flatK (fun x : Bun × Nat => bunL x.1) 11 d') cur) 41 (0, 0)) := by
      unfold sortWorldK putRowK
      simp only [grow]
      rw [Array.getElem?_append_left (by simp [putRow, mapBlock, Sort.ahead]; exact hlt)]
      simp [putRow, mapBlock, Sort.ahead, Array.getElem?_modify, hb, onCells]
    have hF : ∀ j, j < l.length * 11 → (flatK (fun x : Bun × Nat => bunL x.1) 11 d')[j]! = (bunL (d'[j / 11]!).1)[j % 11]! := fun j hj => get_flatK _ _ _ _ (by rw [hd]; exact hj)
    have hlen : (d'.toList.map fun x => x.1).length = l.length := by simp [hd]
    refine ⟨⟨by rw [bunCells_len, hlen], .inr ⟨blk, off, cap, _, rfl, hheap, hn, hc, by simp [putCells]; omega, fun j u hj => ?_⟩⟩, ?_⟩
    · have hj' : j < l.length * 11 := by
        have := (List.getElem?_eq_some_iff.1 hj).1; rw [bunCells_len, hlen] at this; exact this
      have hk : j / 11 < d'.size := by omega
      have e1 := bunCells_get (d'.toList.map fun x => x.1) (j / 11) (j % 11) (d'[j / 11]!).1 (by
        rw [List.getElem?_map, List.getElem?_eq_getElem (by simpa using hk), getElem!_pos d' _ hk]; simp) (Nat.mod_lt _ (by omega))
      rw [show j / 11 * 11 + j % 11 = j by omega] at e1
      rw [e1] at hj
      have hcj : (cur[off + j]?).isSome = true := by
        have : l.length * 11 ≤ cap * 11 := Nat.mul_le_mul_right _ hn
        rw [Array.getElem?_eq_getElem (by omega)]; rfl
      obtain ⟨y, hy⟩ := Option.isSome_iff_exists.1 hcj
      simp only [putCells, Array.getElem?_mapIdx, hy, Option.map_some]
      rw [if_pos ⟨by omega, by rw [size_flatK, hd]; omega⟩, show off + j - off = j by omega]
      show some ((flatK (fun x : Bun × Nat => bunL x.1) 11 d')[j]!) = some u
      rw [hF j hj', List.getElem!_eq_getElem?_getD, hj]; rfl
    · unfold sortWorldK putRowK
      refine ⟨rfl, rfl, rfl, ?_, fun k hk hne => ?_⟩
      · simp [grow, Sort.ahead]
      · have hgk : blk ≠ k := fun e => hne (by rw [e])
        show ((putRow id (Sort.ahead w n) blk off (flatK (fun x : Bun × Nat => bunL x.1) 11 d')).heap ++ os)[k]? = _
        rw [Array.getElem?_append_left (by simpa [Sort.ahead] using hk)]
        simp [putRow, mapBlock, Array.getElem?_modify, Sort.ahead, hgk]

theorem stableF_len (l : List Bun) : (stableF cmpBun l).length = l.length := by simp [stableF]

theorem ssf_nil (f : Value) (p : Option Addr) (cap : Nat) (w : World) : Calls Try.prog 100 #[.slice p 0 cap, f] w fun e w' => e = .returned (.tuple #[]) ∧ w = w' := by
  have hi : Calls Try.prog 151 #[.slice p 0 cap, .int .i64 0, .int .i64 0, f] w fun e w' => e = .returned (.tuple #[]) ∧ w = w' := by
    go_enter Try.func151, Try.ntmps151
    go_wp2_with fail
    refine wp_loop_rounds 1 ?_
    rw [rounds_succ]
    go_wp2
    go_returns
    exact ⟨rfl, rfl⟩
  have hc : Calls Try.prog 133 #[.slice p 0 cap, .int .i64 0, f] w fun e w' => e = .returned (.tuple #[]) ∧ w = w' := by
    go_enter Try.func133, Try.ntmps133
    go_wp2_with fail
    refine wp_loop_rounds 1 ?_
    rw [rounds_succ]
    go_wp2_with (go_at_call 151; refine hi.mono ?_; rintro e w' ⟨rfl, rfl⟩)
    refine wp_loop_rounds 1 ?_
    rw [rounds_succ]
    go_wp2
    go_returns
    exact ⟨rfl, rfl⟩
  go_enter Try.func100, Try.ntmps100
  go_wp2_with (go_at_call 133; refine hc.mono ?_; rintro e w' ⟨rfl, rfl⟩)
  go_returns
  exact ⟨rfl, rfl⟩

theorem Turned.below_new {W w2 a : World} {b : Option Nat} {B : Nat} (h : Turned W w2 b) (hb : ∀ k, b = some k → B ≤ k) (h0 : Below B a W) (hB : B ≤ W.heap.size) : Below B a w2 :=
  h0.trans ⟨h.os, h.tape, h.output, by have := h.size; omega, fun k hk => h.block k (by omega) (fun e => by have := hb k e.symm; omega)⟩

set_option maxRecDepth 100000 in
/-- parts.Sorted, of however many. -/
theorem sorted_any (v : Value) (l : List Bun) (w : World) (h : BIn w v l) (hl : l.length ≤ 1000000) :
    Calls Try.prog 58 #[v] w fun e w' => ∃ v', e = .returned v' ∧ BNew w w' v' (stableF cmpBun l) := by
  have HC := Lib.hid (clone_bin v l w h hl)
  clear h
  go_enter Try.func58, Try.ntmps58
  go_wp2_with fail
  refine HC.out.mono ?_
  rintro e w1 ⟨v1, rfl, hs, hb, hg⟩
  have HS := Lib.hid hs
  have HB := Lib.hid hb
  have HG := Lib.hid hg
  by_cases h0 : l = []
  · subst h0
    obtain ⟨p, cap, rfl⟩ : ∃ p cap, v1 = .slice p 0 cap := by
      obtain ⟨_, ⟨rfl, _⟩ | ⟨g, off, cap, cur, rfl, _⟩⟩ := hs
      · exact ⟨none, 0, rfl⟩
      · exact ⟨_, cap, rfl⟩
    clear hs hb hg
    go_wp2_with (go_at_call 100; refine (ssf_nil _ _ _ _).mono ?_; rintro e w' ⟨rfl, rfl⟩)
    go_ret
    have e0 : stableF cmpBun [] = [] := by simp [stableF]
    exact ⟨.slice p 0 cap, rfl, by rw [e0]; exact HS.out, HB.out, HG.out⟩
  · obtain ⟨blk, off, cap, rfl⟩ : ∃ blk off cap, v1 = .slice (some ⟨blk, off, none⟩) l.length cap := by
      obtain ⟨_, ⟨rfl, h1⟩ | ⟨g, off, cap, cur, rfl, _⟩⟩ := hs
      · exact absurd (List.eq_nil_of_length_eq_zero h1) h0
      · exact ⟨g, off, cap, rfl⟩
    obtain ⟨hblk, hH⟩ := holds_of_sl hs
    have hss := ssf_any bunL cmpBun cmpBun_ok 101 #[] blk off cap l w1 (cmpr_bun blk off l w1 hl hblk hH)
    have HSS := Lib.hid hss
    clear hs hb hg hss hH h0
    go_wp2_with fail
    refine HSS.out.mono ?_
    rintro e w2 ⟨rfl, d', hd, hsz, hw⟩
    have hq := sl_of_sorted HS.out hsz hw
    rw [hd] at hq
    have HQ := Lib.hid hq
    clear hd hw hq
    go_wp2_with fail
    go_ret
    have hgb := HG.out blk rfl
    refine ⟨.slice (some ⟨blk, off, none⟩) l.length cap, rfl, ?_, HQ.out.2.below_new (fun k hk => by cases hk; exact hgb) HB.out HB.out.size, fun g hg => HG.out g hg⟩
    rw [stableF_len l]
    exact HQ.out.1
end Go.Proofs.Ytcnclcfipabimaa
namespace Go.Proofs.Ytcnclcfipabimaa
open Go.RowKit Go.Sort
/-- The cells of one entity of a slice. -/
theorem BIn.cells {w : World} {v : Value} {l : List Bun} (h : BIn w v l) {k : Nat} {b : Bun} (hk : l[k]? = some b) : ∃ blk off cap, v = .slice (some ⟨blk, off, none⟩) l.length cap ∧ blk < w.heap.size ∧ ∀ j u, (bunL b)[j]? = some u → w.cell? ⟨blk, off + k * 11 + j, none⟩ = some u := by
  obtain ⟨p, cap, rfl, _, _, _, h4⟩ := h
  obtain ⟨blk, off, rfl, h5, h6⟩ := h4 (fun e => by subst e; cases hk)
  refine ⟨blk, off, cap, rfl, h5, fun j u hj => ?_⟩
  have hj' : j < 11 := by have := (List.getElem?_eq_some_iff.1 hj).1; rwa [bunL_len] at this
  have e := bunCells_get l k j b hk hj'
  rw [Nat.add_assoc]
  exact h6 _ u (e.trans hj)
/-- .. as the walk loads it. -/
theorem ld_of {w : World} {blk o : Nat} {b : Bun} (h : ∀ j u, (bunL b)[j]? = some u → w.cell? ⟨blk, o + j, none⟩ = some u) : (ldB ⟨blk, o, none⟩).run Try.prog w = .ok (.agg b.arr) w := by
  have := ldB_of (cs := bunL b) (Go.Proofs.run_loadCellsFrom_list Try.prog w ⟨blk, o, none⟩ (bunL b) 11 rfl (fun j v hj => by
    rw [show Addr.add ⟨blk, o, none⟩ j = ⟨blk, o + j, none⟩ from by unfold Addr.add; split <;> simp_all]
    exact h j v hj))
  exact this

theorem sl_lt {w : World} {e : TypeId} {size : Nat} {v : Value} {n : Nat} {xs : List Value} (h : Sl w e size v n xs) {g : Nat} (hg : v.ownBlock = some g) : g < w.heap.size := by
  obtain ⟨_, ⟨rfl, _⟩ | ⟨g', off, cap, cur, rfl, hb, _⟩⟩ := h
  · cases hg
  · cases hg; exact (Array.getElem?_eq_some_iff.1 hb).1
theorem BNew.bin {w0 w : World} {v : Value} {l : List Bun} (h : BNew w0 w v l) : BIn w v l := BIn.of_sl h.1
theorem BNew.grow {w0 w w' : World} {v : Value} {l : List Bun} (h : BNew w0 w v l) (hb : Below w.heap.size w w') : BNew w0 w' v l :=
  ⟨h.1.keep fun g hg => hb.block g (sl_lt h.1 hg), h.2.1.trans (hb.mono h.2.1.size), h.2.2⟩
theorem BNew.nil (w : World) : BNew w w (.slice none 0 0) [] := ⟨⟨rfl, .inl ⟨rfl, rfl⟩⟩, Below.refl _ _, fun g hg => by cases hg⟩
/-- An append leaves a longer one. -/
theorem BNew.snoc {w0 w w1 : World} {v v' : Value} {l : List Bun} {b : Bun} (h : BNew w0 w v l) (hs : Sl w1 41 11 v' (l.length + 1) (bunCells l ++ bunL b)) (ht : Turned w w1 v.ownBlock)
    (ho : v'.ownBlock = v.ownBlock ∨ ∃ g, v'.ownBlock = some g ∧ w.heap.size ≤ g) : BNew w0 w1 v' (l ++ [b]) := by
  refine ⟨?_, h.2.1.trans ⟨ht.os, ht.tape, ht.output, ht.size, fun k hk => ht.block k (by have := h.2.1.size; omega) fun e => by have := h.2.2 k e.symm; omega⟩, fun q hq => ?_⟩
  · rw [bunCells_app, show bunCells [b] = bunL b by simp [bunCells]]; simpa using hs
  · rcases ho with e | ⟨g', e, hg'⟩
    · exact h.2.2 q (by rw [← e]; exact hq)
    · rw [e] at hq
      cases hq
      exact Nat.le_trans h.2.1.size hg'

theorem bunCells_set : ∀ (l : List Bun) (k : Nat) (b : Bun) (t : Nat), k < l.length → (bunCells (l.set k b))[t]? = if k * 11 ≤ t ∧ t < k * 11 + 11 then (bunL b)[t - k * 11]? else (bunCells l)[t]?
  | [], k, b, t, h => by simp at h
  | c :: l, 0, b, t, h => by
    have e1 : bunCells (b :: l) = bunL b ++ bunCells l := by simp [bunCells]
    have e2 : bunCells (c :: l) = bunL c ++ bunCells l := by simp [bunCells]
    rw [List.set_cons_zero, e1, e2]
    by_cases ht : t < 11
    · rw [if_pos (by omega), List.getElem?_append_left (by rw [bunL_len]; exact ht)]; rfl
    · rw [if_neg (by omega), List.getElem?_append_right (by rw [bunL_len]; omega), List.getElem?_append_right (by rw [bunL_len]; omega), bunL_len, bunL_len]
  | c :: l, k + 1, b, t, h => by
    have e1 : bunCells (c :: l.set k b) = bunL c ++ bunCells (l.set k b) := by simp [bunCells]
    have e2 : bunCells (c :: l) = bunL c ++ bunCells l := by simp [bunCells]
    rw [List.set_cons_succ, e1, e2]
    by_cases ht : t < 11
    · rw [if_neg (by omega), List.getElem?_append_left (by rw [bunL_len]; exact ht), List.getElem?_append_left (by rw [bunL_len]; exact ht)]
    · have ih := bunCells_set l k b (t - 11) (by simpa using h)
      rw [List.getElem?_append_right (by rw [bunL_len]; omega), List.getElem?_append_right (by rw [bunL_len]; omega), bunL_len, ih]
      by_cases h1 : (k + 1) * 11 ≤ t ∧ t < (k + 1) * 11 + 11
      · rw [if_pos h1, if_pos (by omega)]; congr 1; omega
      · rw [if_neg h1, if_neg (by omega)]

/-- A store of a whole entity. -/
theorem BNew.store {w0 w : World} {blk off cap : Nat} {l : List Bun} (h : BNew w0 w (.slice (some ⟨blk, off, none⟩) l.length cap) l) {k : Nat} (hk : k < l.length) (b : Bun) :
    (stB ⟨blk, off + k * 11, none⟩ b.v).run Try.prog w = .ok () (w.setCells blk (off + k * 11) (bunL b)) ∧ BNew w0 (w.setCells blk (off + k * 11) (bunL b)) (.slice (some ⟨blk, off, none⟩) l.length cap) (l.set k b) := by
  obtain ⟨⟨hlen, ⟨h0, _⟩ | ⟨g, off', cap', cur, hv, hb, hn, hc, hsz, hr⟩⟩, h2, h3⟩ := h
  · cases h0
  simp only [Value.slice.injEq, Option.some.injEq, Addr.mk.injEq, and_true, true_and] at hv
  obtain ⟨⟨rfl, rfl⟩, rfl⟩ := hv
  have hle : off + k * 11 + (bunL b).length ≤ cur.size := by
    have : l.length * 11 ≤ cap * 11 := Nat.mul_le_mul_right _ hn
    rw [bunL_len]; omega
  obtain ⟨cur', hg', hs', hlo, hin, hhi⟩ := setCells_heap blk 41 (0, 0) (bunL b) (off + k * 11) w cur hb hle
  have ht := setCells_turned blk (bunL b) (off + k * 11) w
  have hblk := h3 blk rfl
  refine ⟨?_, ⟨by rw [bunCells_len, List.length_set], .inr ⟨blk, off, cap, cur', by rw [List.length_set], hg', by rw [List.length_set]; exact hn, hc, by omega, fun j u hj => ?_⟩⟩, Turned.below_new ht (fun q hq => by cases hq; exact hblk) h2 h2.size, h3⟩
  · have := stB_of (W := w) (W' := w.setCells blk (off + k * 11) (bunL b)) (a := ⟨blk, off + k * 11, none⟩) (cs := bunL b) rfl (by
      have := Go.run_storeCells_cells (P := Try.prog) blk (off + k * 11) (bunL b) 0 w (fun j hj => by
        have hj2 : off + k * 11 + j < cur.size := by rw [bunL_len] at hj hle; omega
        simp [World.cell?, hb]; exact hj2) (fun j hj => by simp [World.frozen?, hb]) (bunL_one b)
      simpa using this)
    exact this
  · rw [bunCells_set l k b j hk] at hj
    split at hj
    · rename_i h1
      have := hin (j - k * 11) u hj
      rwa [show off + k * 11 + (j - k * 11) = off + j by omega] at this
    · rename_i h1
      by_cases h4 : j < k * 11
      · rw [hlo _ (by omega)]; exact hr j u hj
      · rw [hhi _ (by rw [bunL_len]; omega)]; exact hr j u hj
end Go.Proofs.Ytcnclcfipabimaa
namespace Go.Proofs.Ytcnclcfipabimaa
open Go.RowKit
section
variable {β : Type} (enc : β → List Value) (T : TypeId) (size : Nat) (hk : ∀ x, (enc x).length = size)
/-- All their cells. -/
def cellsR (l : List β) : List Value := l.flatMap enc
theorem cellsR_app (l l' : List β) : cellsR enc (l ++ l') = cellsR enc l ++ cellsR enc l' := by simp [cellsR]
theorem cellsR_one (x : β) : cellsR enc [x] = enc x := by simp [cellsR]
theorem cellsR_nil : cellsR enc ([] : List β) = [] := rfl
theorem cellsR_mem {l : List β} (h1 : ∀ x, ∀ v ∈ enc x, v.oneCell' = true) : ∀ u ∈ cellsR enc l, u.oneCell' = true := fun u hu => by
  obtain ⟨b, _, hb⟩ := List.mem_flatMap.1 hu
  exact h1 b u hb
include hk in
theorem cellsR_len : ∀ l : List β, (cellsR enc l).length = l.length * size
  | [] => by simp [cellsR]
  | b :: l => by
    have h := cellsR_len l
    simp only [cellsR, List.flatMap_cons, List.length_append, hk, List.length_cons] at *
    rw [h, Nat.add_mul, Nat.one_mul, Nat.add_comm]
include hk in
theorem cellsR_get : ∀ (l : List β) (k j : Nat) (b : β), l[k]? = some b → j < size → (cellsR enc l)[k * size + j]? = (enc b)[j]?
  | c :: l, 0, j, b, h, hj => by
    obtain rfl : c = b := by simpa using h
    simp only [cellsR, List.flatMap_cons, Nat.zero_mul, Nat.zero_add]
    rw [List.getElem?_append_left (by rw [hk]; exact hj)]
  | c :: l, k + 1, j, b, h, hj => by
    have ih := cellsR_get l k j b (by simpa using h) hj
    simp only [cellsR, List.flatMap_cons] at *
    rw [List.getElem?_append_right (by rw [hk, Nat.add_mul]; omega), hk, show (k + 1) * size + j - size = k * size + j by rw [Nat.add_mul]; omega, ih]

/-- A slice that reads as these. -/
def RIn (w : World) (v : Value) (l : List β) : Prop :=
  ∃ p cap, v = .slice p l.length cap ∧ l.length ≤ maxLen ∧ (p = none → cap = 0) ∧ l.length ≤ cap ∧ (l ≠ [] → ∃ blk off, p = some ⟨blk, off, none⟩ ∧ blk < w.heap.size ∧ ∀ t u, (cellsR enc l)[t]? = some u → w.cell? ⟨blk, off + t, none⟩ = some u)
/-- A slice of the call's own that reads as these. -/
def RNew (w w' : World) (v : Value) (l : List β) : Prop := Sl w' T size v l.length (cellsR enc l) ∧ Below w.heap.size w w' ∧ ∀ g, v.ownBlock = some g → w.heap.size ≤ g
variable {enc T size}

theorem RIn.of_sl {w : World} {v : Value} {l : List β} (h : Sl w T size v l.length (cellsR enc l)) : RIn enc w v l := by
  obtain ⟨_, ⟨rfl, h0⟩ | ⟨g, off, cap, cur, rfl, hb, hn, hc, hsz, hr⟩⟩ := h
  · obtain rfl := List.eq_nil_of_length_eq_zero h0
    exact ⟨none, 0, rfl, by simp [maxLen], fun _ => rfl, Nat.le_refl _, fun h => absurd rfl h⟩
  · exact ⟨_, cap, rfl, by omega, (fun h => by cases h), hn, fun _ => ⟨g, off, rfl, (Array.getElem?_eq_some_iff.1 hb).1, fun t u hu => by simp [World.cell?, hb, hr t u hu]⟩⟩
theorem RIn.keep {w w' : World} {v : Value} {l : List β} (h : RIn enc w v l) (hb : Below w.heap.size w w') : RIn enc w' v l := by
  obtain ⟨p, cap, rfl, h1, h2, h3, h4⟩ := h
  refine ⟨p, cap, rfl, h1, h2, h3, fun hn => ?_⟩
  obtain ⟨blk, off, rfl, h5, h6⟩ := h4 hn
  exact ⟨blk, off, rfl, Nat.lt_of_lt_of_le h5 hb.size, fun t u hu => (hb.cell (p := ⟨blk, off + t, none⟩) h5).trans (h6 t u hu)⟩
include hk in
/-- The cells of one of them. -/
theorem RIn.cells {w : World} {v : Value} {l : List β} (h : RIn enc w v l) {k : Nat} {b : β} (hb : l[k]? = some b) : ∃ blk off cap, v = .slice (some ⟨blk, off, none⟩) l.length cap ∧ blk < w.heap.size ∧ ∀ j u, (enc b)[j]? = some u → w.cell? ⟨blk, off + k * size + j, none⟩ = some u := by
  obtain ⟨p, cap, rfl, _, _, _, h4⟩ := h
  obtain ⟨blk, off, rfl, h5, h6⟩ := h4 (fun e => by subst e; cases hb)
  refine ⟨blk, off, cap, rfl, h5, fun j u hj => ?_⟩
  have hj' : j < size := by have := (List.getElem?_eq_some_iff.1 hj).1; rwa [hk] at this
  have e := cellsR_get enc size hk l k j b hb hj'
  rw [Nat.add_assoc]
  exact h6 _ u (e.trans hj)
theorem RNew.rin {w0 w : World} {v : Value} {l : List β} (h : RNew enc T size w0 w v l) : RIn enc w v l := RIn.of_sl h.1
theorem RNew.grow {w0 w w' : World} {v : Value} {l : List β} (h : RNew enc T size w0 w v l) (hb : Below w.heap.size w w') : RNew enc T size w0 w' v l :=
  ⟨h.1.keep fun g hg => hb.block g (sl_lt h.1 hg), h.2.1.trans (hb.mono h.2.1.size), h.2.2⟩
theorem RNew.nil (w : World) : RNew enc T size w w (.slice none 0 0) ([] : List β) := ⟨⟨by simp [cellsR], .inl ⟨rfl, rfl⟩⟩, Below.refl _ _, fun g hg => by cases hg⟩
/-- The same, of a later beginning. -/
theorem RNew.since {w0 w1 w : World} {v : Value} {l : List β} (h : RNew enc T size w1 w v l) (hb : Below w0.heap.size w0 w1) : RNew enc T size w0 w v l :=
  ⟨h.1, hb.trans (h.2.1.mono hb.size), fun g hg => Nat.le_trans hb.size (h.2.2 g hg)⟩
theorem RNew.snoc {w0 w w1 : World} {v v' : Value} {l : List β} {b : β} (h : RNew enc T size w0 w v l) (hs : Sl w1 T size v' (l.length + 1) (cellsR enc l ++ enc b)) (ht : Turned w w1 v.ownBlock)
    (ho : v'.ownBlock = v.ownBlock ∨ ∃ g, v'.ownBlock = some g ∧ w.heap.size ≤ g) : RNew enc T size w0 w1 v' (l ++ [b]) := by
  refine ⟨?_, h.2.1.trans ⟨ht.os, ht.tape, ht.output, ht.size, fun k hk => ht.block k (by have := h.2.1.size; omega) fun e => by have := h.2.2 k e.symm; omega⟩, fun q hq => ?_⟩
  · rw [cellsR_app, cellsR_one]; simpa using hs
  · rcases ho with e | ⟨g', e, hg'⟩
    · exact h.2.2 q (by rw [← e]; exact hq)
    · rw [e] at hq
      cases hq
      exact Nat.le_trans h.2.1.size hg'
end
/-- Entities, both ways. -/
theorem bunCells_R (l : List Bun) : cellsR bunL l = bunCells l := rfl
end Go.Proofs.Ytcnclcfipabimaa
