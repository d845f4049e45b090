/-
  An append as a step of a region that draws its order, of a source that may be empty; a slice cut at its head, or in two. No condition but the sizes that an append owes.
-/
import Derived.Test.YtjkbenghgbigdaaPoolM
namespace Go.Proofs.Ytjkbenghgbigdaa
open Go.RowKit
theorem run_append_zero {P : Program} {w : World} (t ty e : TypeId) (i : TypeInfo) (ht : P.underlying t = some (.slice e)) (hi : P.info? e = some i) (p q : Option Addr) (n cap c : Nat) (hn : n ≤ cap) :
    (Builtin.append_ #[t, t] ty #[.slice p n cap, .slice q 0 c]).run P w = .ok (.slice p n cap) w := by
  cases p <;> cases q <;> simp [Builtin.append_, run_underlying ht, sizeOf, typeInfo, hi, Builtin.lenOf, Builtin.firstCells, hn, storeCells, loadCells, loadCellsFrom]

theorem step_append_zero {P : Program} {ops : Array Oper} {o : Oper} {a : Act} {w : World} {K : Act → World → Prop} {Q : Exit → Act → World → Prop} {E : Prop}
    (hg : o.guard = none) (s x : Operand) (t : TypeId) (hop : o.op = Op.call { callee := Callee.builtin Builtin.append, args := #[s, x], argTypes := #[t, t] })
    (e : TypeId) (i : TypeInfo) (h1 : P.underlying t = some (.slice e)) (h2 : P.info? e = some i) (p q : Option Addr) (n cap c : Nat) (hs : a.eval s = .slice p n cap) (hx : a.eval x = .slice q 0 c) (hn : n ≤ cap)
    (hK : K (a.put o.dst (.slice p n cap)) w) :
    if Region.wanted o (yielded ops a.tmps) = true then Oper.wp P o a w K Q else E := by
  have hw : Region.wanted o (yielded ops a.tmps) = true := by simp [Region.wanted, hg]
  rw [if_pos hw]
  have hrun := run_append_zero (P := P) (w := w) t o.type e i h1 h2 p q n cap c hn
  unfold Oper.wp
  simp [execOp, hop, resolve, invoke, builtin, hs, hx, hrun, Result.andThen]
  exact hK

/-- What a source of an append reads as: m elements, none or more. -/
def Src (w : World) (size : Nat) (v : Value) (m : Nat) (news : List Value) : Prop :=
  news.length = m * size ∧ (∀ u ∈ news, u.oneCell' = true) ∧ ∃ q c, v = .slice q m c ∧ (0 < m → ∃ ad, q = some ad ∧ ∀ j u, news[j]? = some u → w.cell? (ad.add j) = some u)

/-- An append of none or more. -/
theorem step_append_src {P : Program} (w : World) {ops : Array Oper} {o : Oper} {a : Act} {K : Act → World → Prop} {Q : Exit → Act → World → Prop} {E : Prop}
    (hg : o.guard = none) (s x : Operand) (t : TypeId) (hop : o.op = Op.call { callee := Callee.builtin Builtin.append, args := #[s, x], argTypes := #[t, t] })
    (e : TypeId) (i : TypeInfo) (z : Value) (size bytes : Nat) (h1 : P.underlying t = some (.slice e)) (h2 : P.info? e = some i) (h3 : i.zero = some z) (h4 : i.size = size) (h5 : i.bytes = bytes) (h6 : z.cells.size = size) (h7 : 0 < size)
    (v : Value) (n : Nat) (xs : List Value) (hv : a.eval s = v) (hsl : Sl w e size v n xs)
    (vx : Value) (m : Nat) (news : List Value) (hx : a.eval x = vx) (hsrc : Src w size vx m news)
    (b1 : n + m ≤ maxLen) (b2 : (n + m) * bytes ≤ 140737488355328)
    (hK : ∀ p cap w', Sl w' e size (.slice p (n + m) cap) (n + m) (xs ++ news) → Turned w w' v.ownBlock → ((Value.slice p (n + m) cap).ownBlock = v.ownBlock ∨ ∃ g, (Value.slice p (n + m) cap).ownBlock = some g ∧ w.heap.size ≤ g) → K (a.put o.dst (.slice p (n + m) cap)) w') :
    if Region.wanted o (yielded ops a.tmps) = true then Oper.wp P o a w K Q else E := by
  obtain ⟨hn, h1c, q, c, rfl, hq⟩ := hsrc
  by_cases hm : m = 0
  · subst hm
    have hn0 : news = [] := List.eq_nil_of_length_eq_zero (by simpa using hn)
    subst hn0
    have hfrm : ∃ p cap, v = .slice p n cap ∧ n ≤ cap := by
      obtain ⟨_, ⟨rfl, rfl⟩ | ⟨g, off, cap, cur, rfl, _, hc, _⟩⟩ := hsl
      · exact ⟨none, 0, rfl, Nat.le_refl _⟩
      · exact ⟨_, cap, rfl, hc⟩
    obtain ⟨p, cap, rfl, hc⟩ := hfrm
    refine step_append_zero hg s x t hop e i h1 h2 p q n cap c hv hx hc ?_
    exact hK p cap w (by simpa using hsl) (Turned.of_grown ⟨rfl, rfl, rfl, Nat.le_refl _, fun k hk _ => rfl⟩) (.inl rfl)
  · obtain ⟨ad, rfl, hc⟩ := hq (by omega)
    refine step_append_sl w hg s x t hop e i z size bytes h1 h2 h3 h4 h5 h6 h7 v n xs hv hsl ad m c news hx hn hc h1c (by omega) b1 b2 fun g off cap w' hs ht ho => hK _ cap w' hs ht ?_
    rcases ho with h | h
    · exact .inl h.symm
    · exact .inr ⟨g, rfl, h⟩

/-- A slice of the call's own, its first element cut off. -/
theorem Sl.tailN {w : World} {e : TypeId} {size n : Nat} {g off cap : Nat} {xs : List Value} (h : Sl w e size (.slice (some ⟨g, off, none⟩) (n + 1) cap) (n + 1) xs) : Sl w e size (.slice (some ⟨g, off + size, none⟩) n (cap - 1)) n (xs.drop size) := by
  obtain ⟨hl, ⟨h0, _⟩ | ⟨g', off', cap', cur, hv, hb, hn, hc, hsz, hr⟩⟩ := h
  · cases h0
  simp only [Value.slice.injEq, Option.some.injEq, Addr.mk.injEq, and_true, true_and] at hv
  obtain ⟨⟨rfl, rfl⟩, rfl⟩ := hv
  have hm : (cap - 1) * size + size = cap * size := by
    obtain ⟨q, rfl⟩ : ∃ q, cap = q + 1 := ⟨cap - 1, by omega⟩
    rw [Nat.add_sub_cancel, Nat.add_mul, Nat.one_mul]
  refine ⟨by rw [List.length_drop, hl, Nat.add_mul, Nat.one_mul, Nat.add_sub_cancel], .inr ⟨g, off + size, cap - 1, cur, rfl, hb, by omega, by omega, by omega, fun j u hj => ?_⟩⟩
  rw [List.getElem?_drop] at hj
  have := hr _ u hj
  rwa [← Nat.add_assoc] at this
end Go.Proofs.Ytjkbenghgbigdaa
