/-
  Chapter texts QmD: what the claim reaches of them. Conditions stand at each theorem.
-/
import Derived.Test.YtmkfjelpekkmmaaQ05
import Derived.Test.YtmkfjelpekkmmaaQ06
namespace Go.Proofs.Ytmkfjelpekkmmaa
open Go.RowKit

def numL (b : Bun) : List Int := [b.x, b.y, b.vx, b.vy, b.hp, b.pw, b.lf]
def colE (c : Nat) : TypeId := if c = 0 then 48 else 3
def colS (c : Nat) : Nat := if c = 0 then 3 else 1
def colL (c : Nat) (b : Bun) : List Value := if c = 0 then nidL (idOf b) else [.int .i64 ((numL b).getD (c - 1) 0)]
theorem colL_len (c : Nat) (b : Bun) : (colL c b).length = colS c := by unfold colL colS; split <;> rfl
theorem colL_one (c : Nat) (b : Bun) : ∀ u ∈ colL c b, u.oneCell' = true := fun u hu => by
  unfold colL at hu
  split at hu
  · exact nidL_one _ u hu
  · simp only [List.mem_singleton] at hu
    subst hu; rfl
def updV {α : Type} (V : Nat → α) (j : Nat) (v : α) : Nat → α := fun k => if k = j then v else V k
theorem updV_same {α : Type} (V : Nat → α) (j : Nat) (v : α) : updV V j v j = v := by simp [updV]
theorem updV_ne {α : Type} (V : Nat → α) {j k : Nat} (v : α) (h : k ≠ j) : updV V j v k = V k := by simp [updV, h]
structure StoC (w : World) (p mb : Nat) (o : Obj) (V : Nat → Value) (C : Nat → List Bun) : Prop where
  top : ∃ cs : Array Value, w.heap[p]? = some (.cells cs 87 (0, 0)) ∧ cs.size = 257 ∧ (∀ j, j < 256 → cs[j]? = some (V j)) ∧ cs[256]? = some (.map (some mb))
  col : ∀ j, j < 256 → Sl w (colE (j % 8)) (colS (j % 8)) (V j) (C j).length (cellsR (colL (j % 8)) (C j))
  map : w.heap[mb]? = some o
  apart : ∀ j j' g, j < 256 → j' < 256 → (V j).ownBlock = some g → (V j').ownBlock = some g → j = j'
  off : ∀ j g, j < 256 → (V j).ownBlock = some g → g ≠ p ∧ g ≠ mb
  pm : p ≠ mb
def StoOwn (p mb : Nat) (V : Nat → Value) (b : Nat) : Prop := b = p ∨ b = mb ∨ ∃ j, j < 256 ∧ (V j).ownBlock = some b
section
variable {w w' w1 : World} {p mb : Nat} {o : Obj} {V : Nat → Value} {C : Nat → List Bun}
theorem StoC.lt (h : StoC w p mb o V C) {b : Nat} (hb : StoOwn p mb V b) : b < w.heap.size := by
  rcases hb with rfl | rfl | ⟨j, hj, e⟩
  · obtain ⟨cs, h1, _⟩ := h.top; exact lt_of_heap h1
  · exact lt_of_heap h.map
  · exact (h.col j hj).lt e
theorem StoC.keep (h : StoC w p mb o V C) (hk : ∀ b, StoOwn p mb V b → w'.heap[b]? = w.heap[b]?) : StoC w' p mb o V C := by
  obtain ⟨cs, h1, h2⟩ := h.top
  exact ⟨⟨cs, (hk p (.inl rfl)).trans h1, h2⟩, fun j hj => (h.col j hj).keep fun g hg => hk g (.inr (.inr ⟨j, hj, hg⟩)), (hk mb (.inr (.inl rfl))).trans h.map, h.apart, h.off, h.pm⟩
theorem StoC.grow (h : StoC w p mb o V C) (hb : Below w.heap.size w w') : StoC w' p mb o V C := h.keep fun b hx => hb.block b (h.lt hx)
theorem StoC.cell (h : StoC w p mb o V C) {j : Nat} (hj : j < 256) : w.cell? ⟨p, j, none⟩ = some (V j) := by
  obtain ⟨cs, h1, _, h3, _⟩ := h.top
  simp [World.cell?, h1, h3 j hj]
theorem StoC.mcell (h : StoC w p mb o V C) : w.cell? ⟨p, 256, none⟩ = some (.map (some mb)) := by
  obtain ⟨cs, h1, _, _, h4⟩ := h.top
  simp [World.cell?, h1, h4]
theorem StoC.fr (h : StoC w p mb o V C) (j : Nat) : w.frozen? ⟨p, j, none⟩ = false := by
  obtain ⟨cs, h1, _⟩ := h.top
  simp [World.frozen?, h1]
theorem StoC.setmap (h : StoC w p mb o V C) (ht : Turned w w' (some mb)) {o' : Obj} (hm : w'.heap[mb]? = some o') : StoC w' p mb o' V C := by
  have hp : ∀ b, StoOwn p mb V b → b ≠ mb → w'.heap[b]? = w.heap[b]? := fun b hb hne => ht.block b (h.lt hb) fun e => hne (by cases e; rfl)
  obtain ⟨cs, h1, h2⟩ := h.top
  exact ⟨⟨cs, (hp p (.inl rfl) h.pm).trans h1, h2⟩, fun j hj => (h.col j hj).keep fun g hg => hp g (.inr (.inr ⟨j, hj, hg⟩)) (h.off j g hj hg).2, hm, h.apart, h.off, h.pm⟩
theorem StoC.turn (h : StoC w p mb o V C) {j : Nat} (hj : j < 256) (ht : Turned w w' (V j).ownBlock) {l : List Bun} (hs : Sl w' (colE (j % 8)) (colS (j % 8)) (V j) l.length (cellsR (colL (j % 8)) l)) : StoC w' p mb o V (updV C j l) := by
  have hp : ∀ b, StoOwn p mb V b → (V j).ownBlock ≠ some b → w'.heap[b]? = w.heap[b]? := fun b hb hne => ht.block b (h.lt hb) (Ne.symm hne)
  obtain ⟨cs, h1, h2⟩ := h.top
  refine ⟨⟨cs, (hp p (.inl rfl) fun e => (h.off j p hj e).1 rfl).trans h1, h2⟩, fun k hk => ?_, (hp mb (.inr (.inl rfl)) fun e => (h.off j mb hj e).2 rfl).trans h.map, h.apart, h.off, h.pm⟩
  by_cases e : k = j
  · subst e
    rw [updV_same]
    exact hs
  · rw [updV_ne _ _ e]
    exact (h.col k hk).keep fun g hg => hp g (.inr (.inr ⟨k, hk, hg⟩)) fun e2 => e (h.apart k j g hk hj hg e2)
theorem StoC.put (h : StoC w p mb o V C) {j : Nat} (hj : j < 256) {v : Value} (ht : Turned w w1 (V j).ownBlock) {l : List Bun} (hs : Sl w1 (colE (j % 8)) (colS (j % 8)) v l.length (cellsR (colL (j % 8)) l))
    (ho : ∀ g, v.ownBlock = some g → (V j).ownBlock = some g ∨ w.heap.size ≤ g) : StoC (w1.setCell ⟨p, j, none⟩ v) p mb o (updV V j v) (updV C j l) := by
  have hp : ∀ b, StoOwn p mb V b → (V j).ownBlock ≠ some b → w1.heap[b]? = w.heap[b]? := fun b hb hne => ht.block b (h.lt hb) (Ne.symm hne)
  have hv : ∀ g, v.ownBlock = some g → g ≠ p ∧ g ≠ mb := fun g hg => by
    rcases ho g hg with e | e
    · exact h.off j g hj e
    · have h1 := h.lt (.inl rfl)
      have h2 := h.lt (.inr (.inl rfl))
      exact ⟨by omega, by omega⟩
  have hset : ∀ b, b ≠ p → (w1.setCell ⟨p, j, none⟩ v).heap[b]? = w1.heap[b]? := fun b hb => Below.heap_setCell _ _ _ _ hb
  obtain ⟨cs, h1, h2, h3, h4⟩ := h.top
  have h1' : w1.heap[p]? = some (.cells cs 87 (0, 0)) := (hp p (.inl rfl) fun e => (h.off j p hj e).1 rfl).trans h1
  refine ⟨⟨cs.setIfInBounds j v, heap_setCell_same _ _ _ _ _ _ _ h1', by simp [h2], fun k hk => ?_, ?_⟩, fun k hk => ?_, ?_, fun k k' g hk hk' hg hg' => ?_, fun k g hk hg => ?_, h.pm⟩
  · by_cases e : k = j
    · subst e
      rw [updV_same]
      exact set_self _ _ _ (by omega)
    · rw [updV_ne _ _ e, Array.getElem?_setIfInBounds_ne (Ne.symm e)]
      exact h3 k hk
  · rw [Array.getElem?_setIfInBounds_ne (by omega)]
    exact h4
  · by_cases e : k = j
    · subst e
      rw [updV_same, updV_same]
      exact hs.keep fun g hg => hset g (hv g hg).1
    · rw [updV_ne _ _ e, updV_ne _ _ e]
      refine (h.col k hk).keep fun g hg => ?_
      rw [hset g (h.off k g hk hg).1]
      exact hp g (.inr (.inr ⟨k, hk, hg⟩)) fun e2 => e (h.apart k j g hk hj hg e2)
  · rw [hset mb (Ne.symm h.pm)]
    exact (hp mb (.inr (.inl rfl)) fun e => (h.off j mb hj e).2 rfl).trans h.map
  · have hold : ∀ i g, i < 256 → (V i).ownBlock = some g → v.ownBlock = some g → i = j := fun i g hi e1 e2 => by
      rcases ho g e2 with e3 | e3
      · exact h.apart i j g hi hj e1 e3
      · have := h.lt (.inr (.inr ⟨i, hi, e1⟩)); omega
    by_cases e : k = j <;> by_cases e' : k' = j
    · rw [e, e']
    · rw [e, updV_same] at hg
      rw [updV_ne _ _ e'] at hg'
      exact e.trans (hold k' g hk' hg' hg).symm
    · rw [updV_ne _ _ e] at hg
      rw [e', updV_same] at hg'
      exact (hold k g hk hg hg').trans e'.symm
    · rw [updV_ne _ _ e] at hg
      rw [updV_ne _ _ e'] at hg'
      exact h.apart k k' g hk hk' hg hg'
  · by_cases e : k = j
    · rw [e, updV_same] at hg
      exact hv g hg
    · rw [updV_ne _ _ e] at hg
      exact h.off k g hk hg
structure StoG (w1 : World) (A : Nat → Prop) (W : World) (p mb : Nat) (o : Obj) (V : Nat → Value) (C : Nat → List Bun) : Prop where
  at_ : StoC W p mb o V C
  chg : Chg w1 W A
  own : ∀ x, StoOwn p mb V x → A x ∨ w1.heap.size ≤ x
variable {W W' : World} {A : Nat → Prop}
theorem StoG.refl (h : StoC w p mb o V C) : StoG w (StoOwn p mb V) w p mb o V C := ⟨h, Chg.refl _ _, fun _ hx => .inl hx⟩
theorem StoG.grow (h : StoG w1 A W p mb o V C) (hb : Below W.heap.size W W') : StoG w1 A W' p mb o V C := ⟨h.at_.grow hb, h.chg.then_below (hb.mono h.chg.size), h.own⟩
theorem StoG.went (h : StoG w1 A W p mb o V C) {b : Option Nat} (ht : Turned W W' b) (hb : ∀ k, b = some k → StoOwn p mb V k) : Chg w1 W' A :=
  h.chg.trans (Chg.of_turned ht (F := StoOwn p mb V) fun k e _ => hb k e) fun b hlt hx => (h.own b hx).elim id fun e => by omega
theorem StoG.setmap (h : StoG w1 A W p mb o V C) (ht : Turned W W' (some mb)) {o' : Obj} (hm : W'.heap[mb]? = some o') : StoG w1 A W' p mb o' V C :=
  ⟨h.at_.setmap ht hm, h.went ht fun _ e => by cases e; exact .inr (.inl rfl), h.own⟩
theorem StoG.turn (h : StoG w1 A W p mb o V C) {j : Nat} (hj : j < 256) (ht : Turned W W' (V j).ownBlock) {l : List Bun} (hs : Sl W' (colE (j % 8)) (colS (j % 8)) (V j) l.length (cellsR (colL (j % 8)) l)) : StoG w1 A W' p mb o V (updV C j l) :=
  ⟨h.at_.turn hj ht hs, h.went ht fun _ e => .inr (.inr ⟨j, hj, e⟩), h.own⟩
theorem StoG.put (h : StoG w1 A W p mb o V C) {j : Nat} (hj : j < 256) {v : Value} (ht : Turned W W' (V j).ownBlock) {l : List Bun} (hs : Sl W' (colE (j % 8)) (colS (j % 8)) v l.length (cellsR (colL (j % 8)) l))
    (ho : ∀ g, v.ownBlock = some g → (V j).ownBlock = some g ∨ W.heap.size ≤ g) : StoG w1 A (W'.setCell ⟨p, j, none⟩ v) p mb o (updV V j v) (updV C j l) := by
  refine ⟨h.at_.put hj ht hs ho, ?_, fun x hx => ?_⟩
  · have hc := h.went ht fun _ e => .inr (.inr ⟨j, hj, e⟩)
    refine ⟨hc.os, hc.tape, hc.output, by have := hc.size; simpa [World.setCell] using this, fun k hk hn => ?_⟩
    by_cases e : k = p
    · subst e
      rcases h.own k (.inl rfl) with e | e
      · exact absurd e hn
      · omega
    · exact (Below.heap_setCell _ _ _ _ e).trans (hc.block k hk hn)
  · rcases hx with e | e | ⟨k, hk, e⟩
    · exact h.own x (.inl e)
    · exact h.own x (.inr (.inl e))
    · by_cases ej : k = j
      · rw [ej, updV_same] at e
        rcases ho x e with e | e
        · exact h.own x (.inr (.inr ⟨j, hj, e⟩))
        · exact .inr (Nat.le_trans h.chg.size e)
      · rw [updV_ne _ _ ej] at e
        exact h.own x (.inr (.inr ⟨k, hk, e⟩))
theorem StoG.cell (h : StoG w1 A W p mb o V C) {n : Nat} (h1 : n < w1.heap.size) (h2 : ¬ A n) (j : Nat) : W.cell? ⟨n, j, none⟩ = w1.cell? ⟨n, j, none⟩ := h.chg.cell h1 h2
theorem StoG.frozen (h : StoG w1 A W p mb o V C) {n : Nat} (h1 : n < w1.heap.size) (h2 : ¬ A n) (j : Nat) : W.frozen? ⟨n, j, none⟩ = w1.frozen? ⟨n, j, none⟩ := h.chg.frozen h1 h2
end
def stoO (p : Nat) (L : List Bun) : Ob where
  holds w a := ∃ mb o V T P, StoC w p mb o V (fun j => T (j / 8)) ∧ MpO o P ∧ SInv T P ∧ (allT T).Perm L ∧ ∀ x, a x ↔ StoOwn p mb V x
  lt := by
    rintro w a ⟨mb, o, V, T, P, h1, _, _, _, h5⟩ b hb
    exact h1.lt ((h5 b).1 hb)
  keep := by
    rintro w w' a ⟨mb, o, V, T, P, h1, h2, h3, h4, h5⟩ hk
    exact ⟨mb, o, V, T, P, h1.keep fun b hb => hk b ((h5 b).2 hb), h2, h3, h4, h5⟩
end Go.Proofs.Ytmkfjelpekkmmaa
