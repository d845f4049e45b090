/-
  Commands appended to a slice of the call's own. Condition: a million at most.
-/
import Derived.Test.YtbghjklnlhoklaaMk1
import Derived.Test.YtbghjklnlhoklaaMk2
import Derived.Test.YtbghjklnlhoklaaEq
namespace Go.Proofs.Ytbghjklnlhoklaa
open Go.RowKit
theorem run_append_zeroC {P : Program} {w : World} (t ty e : TypeId) (i : TypeInfo) (ht : P.underlying t = some (.slice e)) (hi : P.info? e = some i) (p q : Option Addr) (n cap c : Nat) (hn : n ≤ cap) :
    (Builtin.append_ #[t, t] ty #[.slice p n cap, .slice q 0 c]).run P w = .ok (.slice p n cap) w := by
  cases p <;> cases q <;> simp [Builtin.append_, run_underlying ht, sizeOf, typeInfo, hi, Builtin.lenOf, Builtin.firstCells, hn, storeCells, loadCells, loadCellsFrom]

theorem wpList_append_zeroC {P : Program} {w : World} {ops : Array Oper} {rest : List Oper} {o : Oper} {a : Act} {Q : Exit → Act → World → Prop} (hgd : o.guard = none) (s x : Operand) (t : TypeId)
    (ho : o.op = .call { callee := .builtin .append, args := #[s, x], argTypes := #[t, t] })
    (e : TypeId) (i : TypeInfo) (ht : P.underlying t = some (.slice e)) (hi : P.info? e = some i) (p q : Option Addr) (n cap c : Nat) (hs : a.eval s = .slice p n cap) (hx : a.eval x = .slice q 0 c) (hn : n ≤ cap)
    (h : wpList P ops Q rest (a.put o.dst (.slice p n cap)) w) : wpList P ops Q (o :: rest) a w := by
  refine wpList_plain hgd fun K hK => ?_
  have hrun := run_append_zeroC (P := P) (w := w) t o.type e i ht hi p q n cap c hn
  unfold Oper.wp
  simp [execOp, ho, resolve, invoke, builtin, hs, hx, hrun, Result.andThen]
  exact hK _ _ h

theorem wpList_append_cmO (w : World) {ops : Array Oper} {rest : List Oper} {o : Oper} {a : Act} {Q : Exit → Act → World → Prop}
    (hg : o.guard = none) (s x : Operand) (hop : o.op = Op.call { callee := Callee.builtin Builtin.append, args := #[s, x], argTypes := #[31, 31] })
    (v vx : Value) (l0 l : List Cm) (hv : a.eval s = v) (hsl : Sl w 37 16 v l0.length (cellsR cmC l0)) (hx : a.eval x = vx) (hb : RIn cmC w vx l) (h0 : l0.length ≤ 1000000) (hl : l.length ≤ 1000000)
    (hK : ∀ v' w', Sl w' 37 16 v' (l0 ++ l).length (cellsR cmC (l0 ++ l)) → Turned w w' v.ownBlock → (v'.ownBlock = v.ownBlock ∨ ∃ g, v'.ownBlock = some g ∧ w.heap.size ≤ g) → wpList Try.prog ops Q rest (a.put o.dst v') w') :
    wpList Try.prog ops Q (o :: rest) a w := by
  obtain ⟨i0, hi0, hz0, hz1, hz2⟩ := info_partsG info_cm
  obtain ⟨p, cap, rfl, h1, h2, h3, h4⟩ := hb
  by_cases hn : l = []
  · subst hn
    obtain ⟨q, c, rfl⟩ := sl_frm hsl
    refine wpList_append_zeroC hg s x 31 hop 37 i0 Try.underlying31 hi0 _ _ _ _ _ hv hx ?_ (hK _ _ (by simpa using hsl) ⟨rfl, rfl, rfl, Nat.le_refl _, fun _ _ _ => rfl⟩ (.inl rfl))
    obtain ⟨_, ⟨h, h0⟩ | ⟨g, off, cap', cur, h, hb, hn, hc, hsz, hr⟩⟩ := hsl
    · simp only [Value.slice.injEq] at h; omega
    · simp only [Value.slice.injEq] at h; omega
  · obtain ⟨blk, off, rfl, h5, h6⟩ := h4 hn
    have hn0 : 0 < l.length := List.length_pos_iff.2 hn
    refine wpList_append_sl w hg s x 31 hop 37 i0 _ 16 128 Try.underlying31 hi0 hz0 hz1 hz2 rfl (by omega) v l0.length (cellsR cmC l0) hv hsl ⟨blk, off, none⟩ l.length cap (cellsR cmC l) hx (cellsR_len cmC 16 cmC_len l) (fun j u hj => ?_) (fun u hu => by
      obtain ⟨b, _, hb⟩ := List.mem_flatMap.1 hu
      exact cmC_one b u hb) hn0 (by unfold maxLen; omega) (by omega) (fun v' w' hs ht ho => hK v' w' ?_ ht ho)
    · rw [show Addr.add ⟨blk, off, none⟩ j = ⟨blk, off + j, none⟩ from by unfold Addr.add; split <;> simp_all]
      exact h6 j u hj
    · rw [cellsR_app, List.length_append]; exact hs
end Go.Proofs.Ytbghjklnlhoklaa
