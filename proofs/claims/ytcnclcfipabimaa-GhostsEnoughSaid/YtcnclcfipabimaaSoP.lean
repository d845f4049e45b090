/-
  A slice of entities that came in; one store into a slice of the call's own; a copy by append. No condition but the sizes that an append owes.
-/
import Derived.Test.YtcnclcfipabimaaSoO
import Derived.Deep.Slices
import Derived.ChangeSlices
namespace Go.Proofs.Ytcnclcfipabimaa
open Go.RowKit Go.Sort
theorem list_of {β : Type} {P : Nat → β → Prop} : ∀ (n : Nat), (∀ i, i < n → ∃ b, P i b) → ∃ l : List β, l.length = n ∧ ∀ i b, l[i]? = some b → P i b
  | 0, _ => ⟨[], rfl, fun i b h => by cases h⟩
  | n + 1, h => by
    obtain ⟨l, hl, hp⟩ := list_of n fun i hi => h i (by omega)
    obtain ⟨b, hb⟩ := h n (by omega)
    refine ⟨l ++ [b], by simp [hl], fun i c hc => ?_⟩
    by_cases hi : i < n
    · rw [List.getElem?_append_left (by omega)] at hc; exact hp i c hc
    · rw [List.getElem?_append_right (by omega)] at hc
      have : i - l.length = 0 := by have := (List.getElem?_eq_some_iff.1 hc).1; simp at this; omega
      rw [this] at hc
      simp at hc
      subst hc
      obtain rfl : i = n := by omega
      exact hb

theorem bunCells_split : ∀ (l : List Bun) (t : Nat) (u : Value), (bunCells l)[t]? = some u → ∃ b, l[t / 11]? = some b ∧ (bunL b)[t % 11]? = some u := fun l t u h => by
  have ht : t < l.length * 11 := by have := (List.getElem?_eq_some_iff.1 h).1; rwa [bunCells_len] at this
  have hk : t / 11 < l.length := by omega
  refine ⟨l[t / 11], List.getElem?_eq_getElem hk, ?_⟩
  have e := bunCells_get l (t / 11) (t % 11) l[t / 11] (List.getElem?_eq_getElem hk) (Nat.mod_lt _ (by omega))
  rw [show t / 11 * 11 + t % 11 = t by omega] at e
  rw [← e]; exact h

/-- Its numbers fit. -/
def BFit (b : Bun) : Prop := (-9223372036854775808 ≤ b.s ∧ b.s ≤ 9223372036854775807) ∧ (-9223372036854775808 ≤ b.i ∧ b.i ≤ 9223372036854775807) ∧ (-9223372036854775808 ≤ b.g ∧ b.g ≤ 9223372036854775807) ∧ (-9223372036854775808 ≤ b.m ∧ b.m ≤ 9223372036854775807) ∧ (-9223372036854775808 ≤ b.x ∧ b.x ≤ 9223372036854775807) ∧ (-9223372036854775808 ≤ b.y ∧ b.y ≤ 9223372036854775807) ∧ (-9223372036854775808 ≤ b.vx ∧ b.vx ≤ 9223372036854775807) ∧ (-9223372036854775808 ≤ b.vy ∧ b.vy ≤ 9223372036854775807) ∧ (-9223372036854775808 ≤ b.hp ∧ b.hp ≤ 9223372036854775807) ∧ (-9223372036854775808 ≤ b.pw ∧ b.pw ≤ 9223372036854775807) ∧ (-9223372036854775808 ≤ b.lf ∧ b.lf ≤ 9223372036854775807)

set_option maxRecDepth 100000 in
theorem buns_in {H : Type} {enc : TypeId × Value → H} {W : World} {base b0 : Nat} {spare : Nat → Bool} {held : Bool} {r : Reach} {v : Value} {d : DataW H} {p : List MemPlace} (hv : Value.okWide Try.prog W r b0 24 v) (h : DataW.Trod enc Try.prog W base spare held 24 v d p) : ∃ l, BIn W v l ∧ ∀ b ∈ l, BFit b := by
  obtain ⟨a, len, cap, rfl⟩ := Go.WideShapes.okWide_slice Try.underlying24 hv
  obtain ⟨fuel, hf⟩ := h
  have hf' : DataW.trod enc Try.prog W base spare held fuel 24 [.slice a len cap] = some (d, p) := by simpa [Value.cells] using hf
  rcases Go.Deep.open_slice Try.underlying24 hf' with ⟨h0, _⟩ | ⟨⟨b, off, sp⟩, len', cap', m, n, D, Pl, h0, _, hl, hm, hmm, _, hi⟩
  · simp at h0
    obtain ⟨rfl, rfl, rfl⟩ := h0
    exact ⟨[], ⟨none, 0, rfl, by simp [maxLen], fun _ => rfl, Nat.le_refl _, fun h => absurd rfl h⟩, by simp⟩
  · simp only [List.cons.injEq, and_true, Value.slice.injEq] at h0
    obtain ⟨rfl, rfl, rfl⟩ := h0
    have hle : len ≤ m := by rw [hmm]; split <;> omega
    rw [cells_bun] at hi
    by_cases hz : len = 0
    · subst hz
      exact ⟨[], ⟨_, cap, rfl, by simp [maxLen], (fun h => by cases h), Nat.zero_le _, fun h => absurd rfl h⟩, by simp⟩
    have hsp : sp = none := by
      obtain ⟨cs', hc, ht⟩ := hi 0 (by omega)
      obtain ⟨_, hlen, hcell⟩ := World.cells?_some hc
      have hc0 := hcell 0 (by omega)
      rw [List.getElem?_eq_getElem (by omega)] at hc0
      simp only [Addr.add, Nat.zero_mul, if_true] at hc0
      cases sp with
      | none => rfl
      | some q =>
        simp only [World.cell?, Option.isSome_some, if_true] at hc0
        split at hc0 <;> cases hc0
    subst hsp
    have hq : ∀ q, q < len → ∃ c : Bun, (∀ j, j < 11 → W.cell? ⟨b, off + q * 11 + j, none⟩ = (bunL c)[j]?) ∧ BFit c := by
      intro q hql
      obtain ⟨cs', hc, ht⟩ := hi q (by omega)
      obtain ⟨_, hlen, hcell⟩ := World.cells?_some hc
      obtain ⟨s', i', g', m', x', y', vx', vy', hp', pw', lf', rfl, hfit⟩ := read_bun ht
      refine ⟨⟨s', i', g', m', x', y', vx', vy', hp', pw', lf'⟩, fun j hj => ?_, hfit⟩
      have e : (⟨b, off + q * 11 + j, none⟩ : Addr) = ((⟨b, off, none⟩ : Addr).add (q * 11)).add j := by
        unfold Addr.add
        by_cases h1 : q * 11 = 0
        · by_cases h2 : j = 0 <;> simp [h1, h2]
        · by_cases h2 : j = 0 <;> simp [h1, h2]
      rw [e]
      exact hcell j hj
    obtain ⟨l, hll, hlp⟩ := list_of len hq
    refine ⟨l, ⟨some ⟨b, off, none⟩, cap, by rw [hll], by omega, (fun h => by cases h), by omega, fun hn => ⟨b, off, rfl, ?_, fun t u hu => ?_⟩⟩, fun c hc => ?_⟩
    · have h1 : 0 < l.length := List.length_pos_iff.2 hn
      have h0 := (hlp 0 l[0] (List.getElem?_eq_getElem h1)).1 0 (by omega)
      exact World.block_lt_of_cell? W _ (h0.trans rfl)
    · obtain ⟨c, hc, hcu⟩ := bunCells_split l t u hu
      have h1 := (hlp _ c hc).1 (t % 11) (Nat.mod_lt _ (by omega))
      rw [show off + t = off + t / 11 * 11 + t % 11 by omega, h1, hcu]
    · obtain ⟨q, hi', e⟩ := List.getElem_of_mem hc
      exact (hlp q c (by rw [← e]; exact List.getElem?_eq_getElem hi')).2

/-- One store into a slice of the call's own. -/
theorem sl_store1 {w : World} {e : TypeId} {size n : Nat} {g off cap : Nat} {xs : List Value} (h : Sl w e size (.slice (some ⟨g, off, none⟩) n cap) n xs) {t : Nat} (ht : t < n * size) (u : Value) :
    (∃ u', w.cell? ⟨g, off + t, none⟩ = some u') ∧ w.frozen? ⟨g, off + t, none⟩ = false ∧ Sl (w.setCell ⟨g, off + t, none⟩ u) e size (.slice (some ⟨g, off, none⟩) n cap) n (xs.set t u) ∧ Turned w (w.setCell ⟨g, off + t, none⟩ u) (some g) := by
  obtain ⟨hl, ⟨h0, _⟩ | ⟨g', off', cap', cur, hv, hb, hn, hc, hsz, hr⟩⟩ := h
  · cases h0
  simp only [Value.slice.injEq, Option.some.injEq, Addr.mk.injEq, and_true, true_and] at hv
  obtain ⟨⟨rfl, rfl⟩, rfl⟩ := hv
  have hlt : off + t < cur.size := by
    have : n * size ≤ cap * size := Nat.mul_le_mul_right _ hn
    omega
  have hs := setCells_turned g [u] (off + t) w
  refine ⟨⟨cur[off + t], by simp [World.cell?, hb, hlt]⟩, by simp [World.frozen?, hb], ⟨by rw [List.length_set, hl], .inr ⟨g, off, cap, cur.setIfInBounds (off + t) u, rfl, ?_, hn, hc, by simpa using hsz, fun j v hj => ?_⟩⟩, hs⟩
  · simp [World.setCell, Array.getElem?_modify, hb]
  · rw [List.getElem?_set] at hj
    split at hj
    · rename_i e1
      subst e1
      split at hj
      · rw [Array.getElem?_setIfInBounds_self, if_pos hlt]; exact hj
      · cases hj
    · rename_i e1
      rw [Array.getElem?_setIfInBounds_ne (by omega)]
      exact hr j v hj

/-- A slice that came in reads the same behind what is turned elsewhere. -/
theorem BIn.turned {w w' : World} {v : Value} {l : List Bun} {b : Option Nat} (h : BIn w v l) (ht : Turned w w' b) (hn : ∀ k, b = some k → ∀ blk off cap, v = .slice (some ⟨blk, off, none⟩) l.length cap → blk ≠ k) : BIn w' v l := by
  obtain ⟨p, cap, rfl, h1, h2, h3, h4⟩ := h
  refine ⟨p, cap, rfl, h1, h2, h3, fun hne => ?_⟩
  obtain ⟨blk, off, rfl, h5, h6⟩ := h4 hne
  refine ⟨blk, off, rfl, Nat.lt_of_lt_of_le h5 ht.size, fun t u hu => ?_⟩
  have hb := ht.block blk h5 (fun e => hn blk e.symm blk off cap rfl rfl)
  have := h6 t u hu
  simp only [World.cell?] at this ⊢
  rw [hb]
  exact this
end Go.Proofs.Ytcnclcfipabimaa
