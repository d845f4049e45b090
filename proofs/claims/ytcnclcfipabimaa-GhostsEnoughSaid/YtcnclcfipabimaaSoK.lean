/-
  Slices of entities: loads, stores and appends of whole ones. No condition but the sizes that an append owes.
-/
import Derived.Test.YtcnclcfipabimaaSoJ
namespace Go.Proofs.Ytcnclcfipabimaa
open Go.RowKit Go.Sort
/-- The cells of one entity of a slice. -/
theorem BIn.cells {w : World} {v : Value} {l : List Bun} (h : BIn w v l) {k : Nat} {b : Bun} (hk : l[k]? = some b) : ∃ blk off cap, v = .slice (some ⟨blk, off, none⟩) l.length cap ∧ blk < w.heap.size ∧ ∀ j u, (bunL b)[j]? = some u → w.cell? ⟨blk, off + k * 11 + j, none⟩ = some u := by
  obtain ⟨p, cap, rfl, _, _, _, h4⟩ := h
  obtain ⟨blk, off, rfl, h5, h6⟩ := h4 (fun e => by subst e; cases hk)
  refine ⟨blk, off, cap, rfl, h5, fun j u hj => ?_⟩
  have hj' : j < 11 := by have := (List.getElem?_eq_some_iff.1 hj).1; rwa [bunL_len] at this
  have e := bunCells_get l k j b hk hj'
  rw [Nat.add_assoc]
  exact h6 _ u (e.trans hj)
/-- .. as the walk loads it. -/
theorem ld_of {w : World} {blk o : Nat} {b : Bun} (h : ∀ j u, (bunL b)[j]? = some u → w.cell? ⟨blk, o + j, none⟩ = some u) : (ldB ⟨blk, o, none⟩).run Try.prog w = .ok (.agg b.arr) w := by
  have := ldB_of (cs := bunL b) (Go.Proofs.run_loadCellsFrom_list Try.prog w ⟨blk, o, none⟩ (bunL b) 11 rfl (fun j v hj => by
    rw [show Addr.add ⟨blk, o, none⟩ j = ⟨blk, o + j, none⟩ from by unfold Addr.add; split <;> simp_all]
    exact h j v hj))
  exact this

theorem sl_lt {w : World} {e : TypeId} {size : Nat} {v : Value} {n : Nat} {xs : List Value} (h : Sl w e size v n xs) {g : Nat} (hg : v.ownBlock = some g) : g < w.heap.size := by
  obtain ⟨_, ⟨rfl, _⟩ | ⟨g', off, cap, cur, rfl, hb, _⟩⟩ := h
  · cases hg
  · cases hg; exact (Array.getElem?_eq_some_iff.1 hb).1
theorem BNew.bin {w0 w : World} {v : Value} {l : List Bun} (h : BNew w0 w v l) : BIn w v l := BIn.of_sl h.1
theorem BNew.grow {w0 w w' : World} {v : Value} {l : List Bun} (h : BNew w0 w v l) (hb : Below w.heap.size w w') : BNew w0 w' v l :=
  ⟨h.1.keep fun g hg => hb.block g (sl_lt h.1 hg), h.2.1.trans (hb.mono h.2.1.size), h.2.2⟩
theorem BNew.nil (w : World) : BNew w w (.slice none 0 0) [] := ⟨⟨rfl, .inl ⟨rfl, rfl⟩⟩, Below.refl _ _, fun g hg => by cases hg⟩
/-- An append leaves a longer one. -/
theorem BNew.snoc {w0 w w1 : World} {v v' : Value} {l : List Bun} {b : Bun} (h : BNew w0 w v l) (hs : Sl w1 41 11 v' (l.length + 1) (bunCells l ++ bunL b)) (ht : Turned w w1 v.ownBlock)
    (ho : v'.ownBlock = v.ownBlock ∨ ∃ g, v'.ownBlock = some g ∧ w.heap.size ≤ g) : BNew w0 w1 v' (l ++ [b]) := by
  refine ⟨?_, h.2.1.trans ⟨ht.os, ht.tape, ht.output, ht.size, fun k hk => ht.block k (by have := h.2.1.size; omega) fun e => by have := h.2.2 k e.symm; omega⟩, fun q hq => ?_⟩
  · rw [bunCells_app, show bunCells [b] = bunL b by simp [bunCells]]; simpa using hs
  · rcases ho with e | ⟨g', e, hg'⟩
    · exact h.2.2 q (by rw [← e]; exact hq)
    · rw [e] at hq
      cases hq
      exact Nat.le_trans h.2.1.size hg'

theorem bunCells_set : ∀ (l : List Bun) (k : Nat) (b : Bun) (t : Nat), k < l.length → (bunCells (l.set k b))[t]? = if k * 11 ≤ t ∧ t < k * 11 + 11 then (bunL b)[t - k * 11]? else (bunCells l)[t]?
  | [], k, b, t, h => by simp at h
  | c :: l, 0, b, t, h => by
    have e1 : bunCells (b :: l) = bunL b ++ bunCells l := by simp [bunCells]
    have e2 : bunCells (c :: l) = bunL c ++ bunCells l := by simp [bunCells]
    rw [List.set_cons_zero, e1, e2]
    by_cases ht : t < 11
    · rw [if_pos (by omega), List.getElem?_append_left (by rw [bunL_len]; exact ht)]; rfl
    · rw [if_neg (by omega), List.getElem?_append_right (by rw [bunL_len]; omega), List.getElem?_append_right (by rw [bunL_len]; omega), bunL_len, bunL_len]
  | c :: l, k + 1, b, t, h => by
    have e1 : bunCells (c :: l.set k b) = bunL c ++ bunCells (l.set k b) := by simp [bunCells]
    have e2 : bunCells (c :: l) = bunL c ++ bunCells l := by simp [bunCells]
    rw [List.set_cons_succ, e1, e2]
    by_cases ht : t < 11
    · rw [if_neg (by omega), List.getElem?_append_left (by rw [bunL_len]; exact ht), List.getElem?_append_left (by rw [bunL_len]; exact ht)]
    · have ih := bunCells_set l k b (t - 11) (by simpa using h)
      rw [List.getElem?_append_right (by rw [bunL_len]; omega), List.getElem?_append_right (by rw [bunL_len]; omega), bunL_len, ih]
      by_cases h1 : (k + 1) * 11 ≤ t ∧ t < (k + 1) * 11 + 11
      · rw [if_pos h1, if_pos (by omega)]; congr 1; omega
      · rw [if_neg h1, if_neg (by omega)]

/-- A store of a whole entity. -/
theorem BNew.store {w0 w : World} {blk off cap : Nat} {l : List Bun} (h : BNew w0 w (.slice (some ⟨blk, off, none⟩) l.length cap) l) {k : Nat} (hk : k < l.length) (b : Bun) :
    (stB ⟨blk, off + k * 11, none⟩ b.v).run Try.prog w = .ok () (w.setCells blk (off + k * 11) (bunL b)) ∧ BNew w0 (w.setCells blk (off + k * 11) (bunL b)) (.slice (some ⟨blk, off, none⟩) l.length cap) (l.set k b) := by
  obtain ⟨⟨hlen, ⟨h0, _⟩ | ⟨g, off', cap', cur, hv, hb, hn, hc, hsz, hr⟩⟩, h2, h3⟩ := h
  · cases h0
  simp only [Value.slice.injEq, Option.some.injEq, Addr.mk.injEq, and_true, true_and] at hv
  obtain ⟨⟨rfl, rfl⟩, rfl⟩ := hv
  have hle : off + k * 11 + (bunL b).length ≤ cur.size := by
    have : l.length * 11 ≤ cap * 11 := Nat.mul_le_mul_right _ hn
    rw [bunL_len]; omega
  obtain ⟨cur', hg', hs', hlo, hin, hhi⟩ := setCells_heap blk 41 (0, 0) (bunL b) (off + k * 11) w cur hb hle
  have ht := setCells_turned blk (bunL b) (off + k * 11) w
  have hblk := h3 blk rfl
  refine ⟨?_, ⟨by rw [bunCells_len, List.length_set], .inr ⟨blk, off, cap, cur', by rw [List.length_set], hg', by rw [List.length_set]; exact hn, hc, by omega, fun j u hj => ?_⟩⟩, Turned.below_new ht (fun q hq => by cases hq; exact hblk) h2 h2.size, h3⟩
  · have := stB_of (W := w) (W' := w.setCells blk (off + k * 11) (bunL b)) (a := ⟨blk, off + k * 11, none⟩) (cs := bunL b) rfl (by
      have := Go.run_storeCells_cells (P := Try.prog) blk (off + k * 11) (bunL b) 0 w (fun j hj => by
        have hj2 : off + k * 11 + j < cur.size := by rw [bunL_len] at hj hle; omega
        simp [World.cell?, hb]; exact hj2) (fun j hj => by simp [World.frozen?, hb]) (bunL_one b)
      simpa using this)
    exact this
  · rw [bunCells_set l k b j hk] at hj
    split at hj
    · rename_i h1
      have := hin (j - k * 11) u hj
      rwa [show off + k * 11 + (j - k * 11) = off + j by omega] at this
    · rename_i h1
      by_cases h4 : j < k * 11
      · rw [hlo _ (by omega)]; exact hr j u hj
      · rw [hhi _ (by rw [bunL_len]; omega)]; exact hr j u hj
end Go.Proofs.Ytcnclcfipabimaa
