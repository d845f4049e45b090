/-
  Chapter 15: owner: whose a command is. No condition.
  Commands of the call's own in memory: a whole one loaded, stored; a copy of a slice by append. Condition: a million at most.
-/
import Derived.Test.YtcnclcfipabimaaMpa
import Derived.Test.YtcnclcfipabimaaBoxed
import Derived.Test.YtcnclcfipabimaaMwa
import Derived.Test.YtcnclcfipabimaaOrd
namespace Go.Proofs.Ytcnclcfipabimaa
open Go.RowKit

set_option maxRecDepth 100000 in
set_option maxHeartbeats 1000000 in
theorem owner_any (k s i g es ei eg m x y vx vy hp pw lf mask : Int) (w : World) : Calls Try.prog 48 #[.agg #[.int .i64 k, .int .i64 s, .int .i64 i, .int .i64 g, .int .i64 es, .int .i64 ei, .int .i64 eg, .int .i64 m, .int .i64 x, .int .i64 y, .int .i64 vx, .int .i64 vy, .int .i64 hp, .int .i64 pw, .int .i64 lf, .int .i64 mask]] w fun e w' => e = .returned (.agg #[.int .i64 (ownN (⟨k, s, i, g, ⟨es, ei, eg, m, x, y, vx, vy, hp, pw, lf⟩, mask⟩ : Cm)).s, .int .i64 (ownN (⟨k, s, i, g, ⟨es, ei, eg, m, x, y, vx, vy, hp, pw, lf⟩, mask⟩ : Cm)).i, .int .i64 (ownN (⟨k, s, i, g, ⟨es, ei, eg, m, x, y, vx, vy, hp, pw, lf⟩, mask⟩ : Cm)).g]) ∧ Below w.heap.size w w' := by
  by_cases hk : k = 1
  · have e : ownN (⟨k, s, i, g, ⟨es, ei, eg, m, x, y, vx, vy, hp, pw, lf⟩, mask⟩ : Cm) = ⟨es, ei, eg⟩ := by unfold ownN; rw [if_pos hk]; rfl
    rw [e]
    subst hk
    go_enter Try.func48, Try.ntmps48
    go_wp2_with fail
    exact bodyPost_ret (v := .agg #[.int .i64 es, .int .i64 ei, .int .i64 eg]) (by simp [results, Try.results48, go_sem]) rfl ⟨rfl, (by repeat' (first | (with_reducible exact Below.refl _ _) | (with_reducible assumption) | (with_reducible refine below_drewN ?_ _) | (with_reducible refine below_more _ _ _ ?_ ?_) | (with_reducible refine Below.alloc ?_ ?_ _) | (with_reducible refine Below.drew ?_) | (with_reducible refine Below.setCell ?_ ?_ _) | go_size))⟩
  · have e : ownN (⟨k, s, i, g, ⟨es, ei, eg, m, x, y, vx, vy, hp, pw, lf⟩, mask⟩ : Cm) = ⟨s, i, g⟩ := by unfold ownN; rw [if_neg hk]
    rw [e]
    have hk2 : (k == 1) = false := by simpa using hk
    go_enter Try.func48, Try.ntmps48
    go_wp2_with fail
    exact bodyPost_ret (v := .agg #[.int .i64 s, .int .i64 i, .int .i64 g]) (by simp [results, Try.results48, go_sem]) rfl ⟨rfl, (by repeat' (first | (with_reducible exact Below.refl _ _) | (with_reducible assumption) | (with_reducible refine below_drewN ?_ _) | (with_reducible refine below_more _ _ _ ?_ ?_) | (with_reducible refine Below.alloc ?_ ?_ _) | (with_reducible refine Below.drew ?_) | (with_reducible refine Below.setCell ?_ ?_ _) | go_size))⟩
end Go.Proofs.Ytcnclcfipabimaa
namespace Go.Proofs.Ytcnclcfipabimaa
open Go.RowKit

def ldM (a : Addr) : Sem Value := loadVar 93 a
def stM (a : Addr) (v : Value) : Sem Unit := storeVar 93 a v
theorem loadVar_ldM (a : Addr) : loadVar 93 a = ldM a := rfl
theorem storeVar_stM (a : Addr) (v : Value) : storeVar 93 a v = stM a v := rfl
theorem ldM_of {W : World} {b o : Nat} (m : Cm) (h : ∀ j v, (cmC m)[j]? = some v → W.cell? ⟨b, o + j, none⟩ = some v) : (ldM ⟨b, o, none⟩).run Try.prog W = .ok (.agg (cmC m).toArray) W := by
  have h1 := Go.Proofs.run_loadCellsFrom_list Try.prog W ⟨b, o, none⟩ (cmC m) 16 rfl (fun j v hj => by rw [Addr.add_lit]; exact h j v hj)
  simp [ldM, loadVar, loadCells, h1]
theorem stM_of {W W' : World} {a : Addr} (m : Cm) (h : Sem.run Try.prog (storeCells a (cmC m) 0) W = .ok () W') : (stM a (.agg (cmC m).toArray)).run Try.prog W = .ok () W' := by
  simp [stM, storeVar, Value.cells, cmC_len, h]
theorem owner_m (m : Cm) (w : World) : Calls Try.prog 48 #[.agg (cmC m).toArray] w fun e w' => e = .returned (.agg #[.int .i64 (ownN m).s, .int .i64 (ownN m).i, .int .i64 (ownN m).g]) ∧ Below w.heap.size w w' := by
  obtain ⟨k, s, i, g, ⟨es, ei, eg, m, x, y, vx, vy, hp, pw, lf⟩, mask⟩ := m
  exact owner_any k s i g es ei eg m x y vx vy hp pw lf mask w
theorem cellsR_set {β : Type} (enc : β → List Value) (size : Nat) (hk : ∀ x, (enc x).length = size) : ∀ (l : List β) (k : Nat) (b : β) (t : Nat), k < l.length → (cellsR enc (l.set k b))[t]? = if k * size ≤ t ∧ t < k * size + size then (enc b)[t - k * size]? else (cellsR enc l)[t]?
  | [], k, b, t, h => by simp at h
  | c :: l, 0, b, t, h => by
    have e1 : cellsR enc (b :: l) = enc b ++ cellsR enc l := by simp [cellsR]
    have e2 : cellsR enc (c :: l) = enc c ++ cellsR enc l := by simp [cellsR]
    rw [List.set_cons_zero, e1, e2, Nat.zero_mul]
    by_cases ht : t < size
    · rw [if_pos (by omega), List.getElem?_append_left (by rw [hk]; exact ht)]; rfl
    · rw [if_neg (by omega), List.getElem?_append_right (by rw [hk]; omega), List.getElem?_append_right (by rw [hk]; omega), hk, hk]
  | c :: l, k + 1, b, t, h => by
    have e1 : cellsR enc (c :: l.set k b) = enc c ++ cellsR enc (l.set k b) := by simp [cellsR]
    have e2 : cellsR enc (c :: l) = enc c ++ cellsR enc l := by simp [cellsR]
    have e3 : (k + 1) * size = k * size + size := by rw [Nat.add_mul, Nat.one_mul]
    rw [List.set_cons_succ, e1, e2, e3]
    by_cases ht : t < size
    · rw [if_neg (by omega), List.getElem?_append_left (by rw [hk]; exact ht), List.getElem?_append_left (by rw [hk]; exact ht)]
    · have ih := cellsR_set enc size hk l k b (t - size) (by simpa using h)
      rw [List.getElem?_append_right (by rw [hk]; omega), List.getElem?_append_right (by rw [hk]; omega), hk, ih]
      generalize k * size = ks at *
      by_cases h1 : ks + size ≤ t ∧ t < ks + size + size
      · rw [if_pos h1, if_pos (by omega)]; congr 1; omega
      · rw [if_neg h1, if_neg (by omega)]
/-- A store of a whole one. -/
theorem RNew.store {β : Type} {enc : β → List Value} {T : TypeId} {size : Nat} (he : ∀ x, (enc x).length = size) (h1c : ∀ x, ∀ u ∈ enc x, u.oneCell' = true) {w0 w : World} {blk off n cap : Nat} {l : List β} (h : RNew enc T size w0 w (.slice (some ⟨blk, off, none⟩) n cap) l) {k : Nat} (hk : k < l.length) (b : β) :
    Sem.run Try.prog (storeCells ⟨blk, off + k * size, none⟩ (enc b) 0) w = .ok () (w.setCells blk (off + k * size) (enc b)) ∧ RNew enc T size w0 (w.setCells blk (off + k * size) (enc b)) (.slice (some ⟨blk, off, none⟩) n cap) (l.set k b) := by
  obtain ⟨⟨hlen, ⟨h0, _⟩ | ⟨g, off', cap', cur, hv, hb, hn, hc, hsz, hr⟩⟩, h2, h3⟩ := h
  · cases h0
  simp only [Value.slice.injEq, Option.some.injEq, Addr.mk.injEq, and_true] at hv
  obtain ⟨⟨rfl, rfl⟩, rfl, rfl⟩ := hv
  have hks : k * size + size ≤ l.length * size := by rw [show k * size + size = (k + 1) * size by rw [Nat.add_mul, Nat.one_mul]]; exact Nat.mul_le_mul_right _ hk
  have hle : off + k * size + (enc b).length ≤ cur.size := by
    have : l.length * size ≤ cap * size := Nat.mul_le_mul_right _ hn
    rw [he]; omega
  obtain ⟨cur', hg', hs', hlo, hin, hhi⟩ := setCells_heap blk T (0, 0) (enc b) (off + k * size) w cur hb hle
  have ht := setCells_turned blk (enc b) (off + k * size) w
  have hblk := h3 blk rfl
  refine ⟨?_, ⟨by rw [cellsR_len enc size he, List.length_set], .inr ⟨blk, off, cap, cur', by rw [List.length_set], hg', by rw [List.length_set]; exact hn, hc, by omega, fun j u hj => ?_⟩⟩, Turned.below_new ht (fun q hq => by cases hq; exact hblk) h2 h2.size, h3⟩
  · have := Go.run_storeCells_cells (P := Try.prog) blk (off + k * size) (enc b) 0 w (fun j hj => by
        have hj2 : off + k * size + j < cur.size := by omega
        simp [World.cell?, hb]; exact hj2) (fun j hj => by simp [World.frozen?, hb]) (h1c b)
    simpa using this
  · rw [cellsR_set enc size he l k b j hk] at hj
    split at hj
    · rename_i h1
      have := hin (j - k * size) u hj
      rwa [show off + k * size + (j - k * size) = off + j by omega] at this
    · rename_i h1
      by_cases h4 : j < k * size
      · rw [hlo _ (by omega)]; exact hr j u hj
      · rw [hhi _ (by rw [he]; omega)]; exact hr j u hj
/-- A copy of commands by append to an empty slice. -/
theorem wpList_append_cms (w0 w : World) {ops : Array Oper} {rest : List Oper} {o : Oper} {a : Act} {Q : Exit → Act → World → Prop}
    (hg : o.guard = none) (s x : Operand) (hop : o.op = Op.call { callee := Callee.builtin Builtin.append, args := #[s, x], argTypes := #[37, 37] })
    (v vx : Value) (l0 l : List Cm) (hv : a.eval s = v) (hsl : RNew cmC 93 16 w0 w v l0) (hx : a.eval x = vx) (hb : RIn cmC w vx l) (h0 : l0.length ≤ 1000000) (hl : l.length ≤ 1000000)
    (hK : ∀ v' w', RNew cmC 93 16 w0 w' v' (l0 ++ l) → wpList Try.prog ops Q rest (a.put o.dst v') w') :
    wpList Try.prog ops Q (o :: rest) a w := by
  obtain ⟨i0, hi0, hz0, hz1, hz2⟩ := info_partsG info_cm
  obtain ⟨p, cap, rfl, h1, h2, h3, h4⟩ := hb
  by_cases hn : l = []
  · subst hn
    obtain ⟨q, c, rfl⟩ := sl_frm hsl.1
    refine wpList_append_zero hg s x 37 hop 93 i0 Try.underlying37 hi0 _ _ _ _ _ hv hx ?_ (hK _ _ (by simpa using hsl))
    obtain ⟨_, ⟨h, h0⟩ | ⟨g, off, cap', cur, h, hb, hn, hc, hsz, hr⟩⟩ := hsl.1
    · simp only [Value.slice.injEq] at h; omega
    · simp only [Value.slice.injEq] at h; omega
  · obtain ⟨blk, off, rfl, h5, h6⟩ := h4 hn
    have hn0 : 0 < l.length := List.length_pos_iff.2 hn
    refine wpList_append_sl w hg s x 37 hop 93 i0 _ 16 128 Try.underlying37 hi0 hz0 hz1 hz2 rfl (by omega) v l0.length (cellsR cmC l0) hv hsl.1 ⟨blk, off, none⟩ l.length cap (cellsR cmC l) hx (cellsR_len cmC 16 cmC_len l) (fun j u hj => ?_) (fun u hu => by
      obtain ⟨b, _, hb⟩ := List.mem_flatMap.1 hu
      exact cmC_one b u hb) hn0 (by unfold maxLen; omega) (by omega) (fun v' w' hs ht ho => hK v' w' ⟨?_, ?_, ?_⟩)
    · rw [show Addr.add ⟨blk, off, none⟩ j = ⟨blk, off + j, none⟩ from by unfold Addr.add; split <;> simp_all]
      exact h6 j u hj
    · rw [cellsR_app, List.length_append]; exact hs
    · exact hsl.2.1.trans ⟨ht.os, ht.tape, ht.output, ht.size, fun k hk => ht.block k (by have := hsl.2.1.size; omega) fun e => by have := hsl.2.2 k e.symm; omega⟩
    · intro q hq
      rcases ho with e | ⟨g', e, hg'⟩
      · exact hsl.2.2 q (by rw [← e]; exact hq)
      · rw [e] at hq
        cases hq
        exact Nat.le_trans hsl.2.1.size hg'
theorem cms_empty {w0 W : World} (hb : Below w0.heap.size w0 W) : RNew cmC 93 16 w0 (W.alloc (.cells #[] 93)) (.slice (some ⟨W.heap.size, 0, none⟩) 0 0) [] :=
  ⟨⟨by simp [cellsR], .inr ⟨W.heap.size, 0, 0, #[], rfl, heap_alloc_new _ _, Nat.le_refl _, Nat.zero_le _, by simp, by simp [cellsR]⟩⟩, hb.trans ((Below.refl _ _).alloc hb.size _), fun g hg => by
    simp [Value.ownBlock] at hg; rw [← hg]; exact hb.size⟩
/-- A new one. -/
theorem new_cm (W : World) (m : Cm) : ∃ w5, (stM ⟨W.heap.size, 0, none⟩ (.agg (cmC m).toArray)).run Try.prog (W.alloc (.cells #[.int .i64 0, .int .i64 0, .int .i64 0, .int .i64 0, .int .i64 0, .int .i64 0, .int .i64 0, .int .i64 0, .int .i64 0, .int .i64 0, .int .i64 0, .int .i64 0, .int .i64 0, .int .i64 0, .int .i64 0, .int .i64 0] 93)) = .ok () w5 ∧ Below W.heap.size W w5 ∧ W.heap.size < w5.heap.size ∧ ∀ j v, (cmC m)[j]? = some v → w5.cell? ⟨W.heap.size, 0 + j, none⟩ = some v := by
  obtain ⟨k5, g5, s5, b5⟩ := new_box W #[.int .i64 0, .int .i64 0, .int .i64 0, .int .i64 0, .int .i64 0, .int .i64 0, .int .i64 0, .int .i64 0, .int .i64 0, .int .i64 0, .int .i64 0, .int .i64 0, .int .i64 0, .int .i64 0, .int .i64 0, .int .i64 0] 93 W.heap.size rfl
  generalize W.alloc (.cells #[.int .i64 0, .int .i64 0, .int .i64 0, .int .i64 0, .int .i64 0, .int .i64 0, .int .i64 0, .int .i64 0, .int .i64 0, .int .i64 0, .int .i64 0, .int .i64 0, .int .i64 0, .int .i64 0, .int .i64 0, .int .i64 0] 93) = V at *
  have hsome : ∀ j, j < (cmC m).length → (V.cell? ⟨W.heap.size, 0 + j, none⟩).isSome = true := fun j hj => by
    have hj : j < 16 := hj
    rw [Nat.zero_add, k5 j, Array.getElem?_eq_getElem (by simpa using hj)]; rfl
  have h := Go.run_storeCells_cells (P := Try.prog) W.heap.size 0 (cmC m) 0 V (fun j hj => by
    rw [show 0 + 0 + j = 0 + j by omega]; exact hsome j hj) (fun j _ => g5 _) (cmC_one m)
  have ht := setCells_turned W.heap.size (cmC m) 0 V
  have hin := World.cell?_setCells_in W.heap.size (cmC m) 0 V hsome
  refine ⟨_, stM_of m (by simpa using h), Turned.below_new ht (fun q hq => by cases hq; exact Nat.le_refl _) b5 b5.size, Nat.lt_of_lt_of_le s5 ht.size, fun j v hj => ?_⟩
  have hlt := (List.getElem?_eq_some_iff.1 hj).1
  rw [hin j hlt, ← hj, List.getElem?_eq_getElem hlt]
end Go.Proofs.Ytcnclcfipabimaa
