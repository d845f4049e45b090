/-
  Same of hits; few; a copy of entities by append to a new empty slice. No condition but the sizes that an append owes.
-/
import Derived.Test.YtcnclcfipabimaaMhc
import Derived.Test.YtcnclcfipabimaaMsn
namespace Go.Proofs.Ytcnclcfipabimaa
open Go.RowKit

def hitEq (a b : Hit) : Bool := decide (a = b)
@[go_sem high] theorem run_eql_hit (s i g n s' i' g' n' : Int) (W : World) :
    (binOp .eql 137 (.agg #[.int .i64 s, .int .i64 i, .int .i64 g, .int .i64 n]) (.agg #[.int .i64 s', .int .i64 i', .int .i64 g', .int .i64 n'])).run Try.prog W = .ok (.bool (hitEq ⟨s, i, g, n⟩ ⟨s', i', g', n'⟩)) W := by
  rw [run_eql_struct]
  by_cases h1 : s = s'
  · by_cases h2 : i = i'
    · by_cases h3 : g = g'
      · by_cases h4 : n = n' <;> simp [go_sem, hitEq, h1, h2, h3, h4]
      · simp [go_sem, hitEq, h1, h2, h3]
    · simp [go_sem, hitEq, h1, h2]
  · simp [go_sem, hitEq, h1]
@[go_sem high] theorem run_neq_hit (s i g n s' i' g' n' : Int) (W : World) :
    (binOp .neq 137 (.agg #[.int .i64 s, .int .i64 i, .int .i64 g, .int .i64 n]) (.agg #[.int .i64 s', .int .i64 i', .int .i64 g', .int .i64 n'])).run Try.prog W = .ok (.bool (!(hitEq ⟨s, i, g, n⟩ ⟨s', i', g', n'⟩))) W := by
  have h := run_eql_hit s i g n s' i' g' n' W
  rw [run_eql_struct] at h
  rw [run_neq_struct]
  generalize (Op.equalIn _ _ _ _).run Try.prog W = r at *
  cases r with
  | ok b w => simp only [Result.andThen_ok] at *; cases b <;> simp_all
  | halt x w => simp [Result.andThen] at h


theorem BIn.take {w : World} {p : Option Addr} {n cap : Nat} {l : List Bun} (h : BIn w (.slice p n cap) l) (k : Nat) (hk : k ≤ n) : BIn w (.slice p k cap) (l.take k) := by
  obtain ⟨p', cap', hv, h1, h2, h3, h4⟩ := h
  simp only [Value.slice.injEq] at hv
  obtain ⟨rfl, rfl, rfl⟩ := hv
  have e : (l.take k).length = k := by simp; omega
  refine ⟨p, cap, by rw [e], by rw [e]; omega, h2, by rw [e]; omega, fun hn => ?_⟩
  obtain ⟨blk, off, rfl, h5, h6⟩ := h4 (fun e => hn (by rw [e]; simp))
  refine ⟨blk, off, rfl, h5, fun t u hu => ?_⟩
  obtain ⟨b, hb, hbu⟩ := bunCells_split _ t u hu
  have ht : t / 11 < k := by have := (List.getElem?_eq_some_iff.1 hb).1; omega
  rw [List.getElem?_take_of_lt ht] at hb
  have e2 := bunCells_get l (t / 11) (t % 11) b hb (Nat.mod_lt _ (by omega))
  rw [show t / 11 * 11 + t % 11 = t by omega] at e2
  exact h6 t u (e2.trans hbu)


/-- A copy by append to an empty slice. -/
theorem wpList_append_bin (w : World) {ops : Array Oper} {rest : List Oper} {o : Oper} {a : Act} {Q : Exit → Act → World → Prop}
    (hg : o.guard = none) (s x : Operand) (hop : o.op = Op.call { callee := Callee.builtin Builtin.append, args := #[s, x], argTypes := #[24, 24] })
    (v vx : Value) (l : List Bun) (hv : a.eval s = v) (hsl : Sl w 41 11 v 0 []) (hx : a.eval x = vx) (hb : BIn w vx l) (hl : l.length ≤ 1000000)
    (hK : ∀ v' w', Sl w' 41 11 v' l.length (bunCells l) → Turned w w' v.ownBlock → (v'.ownBlock = v.ownBlock ∨ ∃ g, v'.ownBlock = some g ∧ w.heap.size ≤ g) → wpList Try.prog ops Q rest (a.put o.dst v') w') :
    wpList Try.prog ops Q (o :: rest) a w := by
  obtain ⟨i0, hi0, hz0, hz1, hz2⟩ := info_parts info_bunJ
  obtain ⟨p, cap, rfl, h1, h2, h3, h4⟩ := hb
  by_cases hn : l = []
  · subst hn
    obtain ⟨q, c, rfl⟩ := sl_frm hsl
    exact wpList_append_zero hg s x 24 hop 41 i0 Try.underlying24 hi0 _ _ 0 _ _ hv hx (Nat.zero_le _) (hK _ _ hsl (Turned.of_grown ⟨rfl, rfl, rfl, Nat.le_refl _, fun k hk _ => rfl⟩) (.inl rfl))
  · obtain ⟨blk, off, rfl, h5, h6⟩ := h4 hn
    have hn0 : 0 < l.length := List.length_pos_iff.2 hn
    refine wpList_append_sl w hg s x 24 hop 41 i0 _ 11 88 Try.underlying24 hi0 hz0 hz1 hz2 rfl (by omega) v 0 [] hv hsl ⟨blk, off, none⟩ l.length cap (bunCells l) hx (bunCells_len l) (fun j u hj => ?_) (bunCells_one l) hn0 (by unfold maxLen; omega) (by omega) (fun v' w' hs ht ho => hK v' w' (by simpa using hs) ht ho)
    rw [show Addr.add ⟨blk, off, none⟩ j = ⟨blk, off + j, none⟩ from by unfold Addr.add; split <;> simp_all]
    exact h6 j u hj
end Go.Proofs.Ytcnclcfipabimaa
