/-
  Chapter texts PoolA Ob: what the claim reaches of them. Conditions stand at each theorem.
-/
import Derived.Test.YtmkfjelpekkmmaaQ04
import Derived.Test.YtmkfjelpekkmmaaQ05
namespace Go.Proofs.Ytmkfjelpekkmmaa
open Go.RowKit

structure Ix where
  (gen bound : Int) (alive : Bool)
structure Sh where
  (all : List Ix) (free : List Int)
structure ShL where
  (A : Nat) (fv : Value)
structure Lay where
  (P S : Nat) (sh : List ShL)

def Lay.has (L : Lay) : Nat → Nat → Prop
  | 0, b => L.P = b
  | 1, b => L.S = b
  | t + 2, b => ∃ l, L.sh[t / 2]? = some l ∧ ((t % 2 = 0 ∧ l.A = b) ∨ (t % 2 = 1 ∧ l.fv.ownBlock = some b))
def Lay.own (L : Lay) (b : Nat) : Prop := ∃ t, L.has t b

structure ShInv (m : Sh) : Prop where
  few : m.all.length ≤ 16
  rng : ∀ (i : Nat) (x : Ix), m.all[i]? = some x → 0 ≤ x.gen ∧ x.gen ≤ 1048576 ∧ 0 ≤ x.bound ∧ x.bound ≤ 1048576 ∧ (x.alive = true → x.gen < 1048576)
  fr : ∀ f ∈ m.free, (0 : Int) ≤ f ∧ f < m.all.length
  nd : m.free.Nodup
  dead : ∀ f ∈ m.free, ∀ (x : Ix), m.all[f.toNat]? = some x → x.alive = false

structure Chg (w w' : World) (F : Nat → Prop) : Prop where
  os : w'.os = w.os
  tape : w'.tape = w.tape
  output : w'.output = w.output
  size : w.heap.size ≤ w'.heap.size
  block : ∀ k, k < w.heap.size → ¬ F k → w'.heap[k]? = w.heap[k]?

theorem Chg.of_below {w w' : World} {F : Nat → Prop} (h : Below w.heap.size w w') : Chg w w' F := ⟨h.os, h.tape, h.output, h.size, fun k hk _ => h.block k hk⟩
theorem Chg.refl (w : World) (F : Nat → Prop) : Chg w w F := Chg.of_below (Below.refl _ _)
theorem Chg.trans {w w' w'' : World} {F F' : Nat → Prop} (h : Chg w w' F) (h' : Chg w' w'' F') (hF : ∀ b, b < w.heap.size → F' b → F b) : Chg w w'' F :=
  ⟨h'.os.trans h.os, h'.tape.trans h.tape, h'.output.trans h.output, Nat.le_trans h.size h'.size, fun k hk hn => (h'.block k (Nat.lt_of_lt_of_le hk h.size) (fun e => hn (hF k hk e))).trans (h.block k hk hn)⟩
theorem Chg.mono {w w' : World} {F F' : Nat → Prop} (h : Chg w w' F) (hF : ∀ b, b < w.heap.size → F b → F' b) : Chg w w' F' := ⟨h.os, h.tape, h.output, h.size, fun k hk hn => h.block k hk fun e => hn (hF k hk e)⟩
theorem Chg.setCell {w w' : World} {F : Nat → Prop} (h : Chg w w' F) (a : Addr) (u : Value) (ha : F a.block ∨ w.heap.size ≤ a.block) : Chg w (w'.setCell a u) F :=
  ⟨h.os, h.tape, h.output, by have := h.size; simpa [World.setCell] using this, fun k hk hn => (Below.heap_setCell _ _ _ _ (by rintro rfl; rcases ha with ha | ha; exact hn ha; omega)).trans (h.block k hk hn)⟩
theorem Chg.then_below {w w' w'' : World} {F : Nat → Prop} (h : Chg w w' F) (h' : Below w.heap.size w' w'') : Chg w w'' F :=
  ⟨h'.os.trans h.os, h'.tape.trans h.tape, h'.output.trans h.output, Nat.le_trans h.size h'.size, fun k hk hn => (h'.block k hk).trans (h.block k hk hn)⟩
theorem Chg.of_turned {w w' : World} {b : Option Nat} {F : Nat → Prop} (h : Turned w w' b) (hF : ∀ k, b = some k → k < w.heap.size → F k) : Chg w w' F :=
  ⟨h.os, h.tape, h.output, h.size, fun k hk hn => h.block k hk (fun e => hn (hF k e.symm hk))⟩
theorem Chg.cell {w w' : World} {F : Nat → Prop} (h : Chg w w' F) {a : Addr} (hs : a.block < w.heap.size) (hn : ¬ F a.block) : w'.cell? a = w.cell? a := World.cell?_of_block (w := w) (h.block _ hs hn)
theorem Chg.frozen {w w' : World} {F : Nat → Prop} (h : Chg w w' F) {a : Addr} (hs : a.block < w.heap.size) (hn : ¬ F a.block) : w'.frozen? a = w.frozen? a := World.frozen?_of_block (w := w) (h.block _ hs hn)
theorem Chg.below {w w' : World} {F : Nat → Prop} {B : Nat} (h : Chg w w' F) (hB : B ≤ w.heap.size) (hF : ∀ b, F b → B ≤ b) : Below B w w' :=
  ⟨h.os, h.tape, h.output, h.size, fun k hk => h.block k (by omega) fun e => by have := hF k e; omega⟩

theorem lt_of_heap {w : World} {b : Nat} {o : Obj} (h : w.heap[b]? = some o) : b < w.heap.size := (Array.getElem?_eq_some_iff.1 h).1

theorem Sl.lt {w : World} {e : TypeId} {size : Nat} {v : Value} {n : Nat} {xs : List Value} (h : Sl w e size v n xs) {g : Nat} (hg : v.ownBlock = some g) : g < w.heap.size := by
  obtain ⟨_, ⟨rfl, _⟩ | ⟨g', off, cap, cur, rfl, hb, _⟩⟩ := h
  · cases hg
  · simp [Value.ownBlock] at hg
    subst hg
    exact lt_of_heap hb

def Lay.at (L : Lay) (l : ShL) (b : Nat) : Prop := b = L.S ∨ b = l.A ∨ l.fv.ownBlock = some b

theorem heap_setCell_same (w : World) (b o : Nat) (u : Value) (cs : Array Value) (e : TypeId) (fr : Nat × Nat) (h : w.heap[b]? = some (.cells cs e fr)) : (w.setCell ⟨b, o, none⟩ u).heap[b]? = some (.cells (cs.setIfInBounds o u) e fr) := by
  simp [World.setCell, Array.getElem?_modify, h]

theorem set_self (ca : Array Value) (j : Nat) (v : Value) (h : j < ca.size) : (ca.setIfInBounds j v)[j]? = some v := by simp [h]

end Go.Proofs.Ytmkfjelpekkmmaa
namespace Go.Proofs.Ytmkfjelpekkmmaa
open Go.RowKit
structure Ob where
  holds : World → (Nat → Prop) → Prop
  lt : ∀ (w : World) (o : Nat → Prop), holds w o → ∀ b, o b → b < w.heap.size
  keep : ∀ (w w' : World) (o : Nat → Prop), holds w o → (∀ b, o b → w'.heap[b]? = w.heap[b]?) → holds w' o
def Ob.and (A B : Ob) : Ob where
  holds w o := ∃ a b, A.holds w a ∧ B.holds w b ∧ (∀ x, a x → ¬ b x) ∧ ∀ x, o x ↔ a x ∨ b x
  lt := by
    rintro w o ⟨a, b, h1, h2, _, h4⟩ x hx
    rcases (h4 x).1 hx with h | h
    · exact A.lt _ _ h1 _ h
    · exact B.lt _ _ h2 _ h
  keep := by
    rintro w w' o ⟨a, b, h1, h2, h3, h4⟩ hk
    exact ⟨a, b, A.keep _ _ _ h1 fun x hx => hk x ((h4 x).2 (.inl hx)), B.keep _ _ _ h2 fun x hx => hk x ((h4 x).2 (.inr hx)), h3, h4⟩
def Ob.nil : Ob := ⟨fun _ o => ∀ x, ¬ o x, fun _ _ h b hb => absurd hb (h b), fun _ _ _ h _ => h⟩
def boxO (n : Nat) (cs : Array Value) (T : TypeId) : Ob where
  holds w o := w.heap[n]? = some (.cells cs T (0, 0)) ∧ ∀ x, o x ↔ x = n
  lt := by
    rintro w o ⟨h1, h2⟩ b hb
    obtain rfl := (h2 b).1 hb
    exact lt_of_heap h1
  keep := by
    rintro w w' o ⟨h1, h2⟩ hk
    exact ⟨(hk n ((h2 n).2 rfl)).trans h1, h2⟩
def slO (T : TypeId) (size : Nat) (v : Value) (n : Nat) (xs : List Value) : Ob where
  holds w o := Sl w T size v n xs ∧ ∀ x, o x ↔ v.ownBlock = some x
  lt := by
    rintro w o ⟨h1, h2⟩ b hb
    exact sl_lt h1 ((h2 b).1 hb)
  keep := by
    rintro w w' o ⟨h1, h2⟩ hk
    exact ⟨h1.keep fun g hg => hk g ((h2 g).2 hg), h2⟩
def Gone (a : Nat → Prop) (w w' : World) (B : Ob) : Prop := ∃ b, B.holds w' b ∧ Chg w w' a ∧ ∀ x, b x → a x ∨ w.heap.size ≤ x
def Made (w w' : World) (B : Ob) : Prop := ∃ b, B.holds w' b ∧ Below w.heap.size w w' ∧ ∀ x, b x → w.heap.size ≤ x
def Own (w0 W : World) (X : Ob) : Prop := ∃ o, X.holds W o ∧ (∀ x, o x → w0.heap.size ≤ x) ∧ Below w0.heap.size w0 W
variable {w0 W W' : World} {A A' B C F : Ob}
theorem Gone.of_below {a : Nat → Prop} (h : A.holds W a) (hb : Below W.heap.size W W') : Gone a W W' A := ⟨a, A.keep _ _ _ h fun b hx => hb.block b (A.lt _ _ h b hx), Chg.of_below hb, fun _ h => .inl h⟩
theorem Gone.trans {a : Nat → Prop} {w w' w'' : World} (h : Gone a w w' A) (h2 : ∀ b, A.holds w' b → Gone b w' w'' B) : Gone a w w'' B := by
  obtain ⟨b, h1, h3, h4⟩ := h
  obtain ⟨c, h5, h6, h7⟩ := h2 b h1
  refine ⟨c, h5, h3.trans h6 fun x hx hb => (h4 x hb).elim id fun e => by omega, fun x hx => ?_⟩
  rcases h7 x hx with e | e
  · exact h4 x e
  · exact .inr (Nat.le_trans h3.size e)
theorem Gone.beside {o : Nat → Prop} (h : (A.and F).holds W o) (hs : ∀ a, A.holds W a → (∀ x, a x → o x) → Gone a W W' A') : Gone o W W' (A'.and F) := by
  obtain ⟨a, f, h1, h2, h3, h4⟩ := h
  obtain ⟨b, h5, h6, h7⟩ := hs a h1 fun x hx => (h4 x).2 (.inl hx)
  refine ⟨fun x => b x ∨ f x, ⟨b, f, h5, F.keep _ _ _ h2 fun x hx => h6.block x (F.lt _ _ h2 x hx) fun e => h3 x e hx, fun x hb hf => ?_, fun x => Iff.rfl⟩, h6.mono fun x _ hx => (h4 x).2 (.inl hx), fun x hx => ?_⟩
  · rcases h7 x hb with e | e
    · exact h3 x e hf
    · have := F.lt _ _ h2 x hf; omega
  · rcases hx with e | e
    · exact (h7 x e).imp (fun h => (h4 x).2 (.inl h)) id
    · exact .inl ((h4 x).2 (.inr e))
theorem Own.nil (w : World) : Own w w .nil := ⟨fun _ => False, fun _ h => h, fun _ h => h.elim, Below.refl _ _⟩
theorem Own.below (h : Own w0 W A) : Below w0.heap.size w0 W := by obtain ⟨_, _, _, h⟩ := h; exact h
theorem Own.grow (h : Own w0 W A) (hb : Below W.heap.size W W') : Own w0 W' A := by
  obtain ⟨o, h1, h2, h3⟩ := h
  exact ⟨o, A.keep _ _ _ h1 fun b hx => hb.block b (A.lt _ _ h1 b hx), h2, h3.trans (hb.mono h3.size)⟩
theorem Own.went (h : Own w0 W A) (hs : ∀ a, A.holds W a → Gone a W W' A') : Own w0 W' A' := by
  obtain ⟨o, h1, h2, h3⟩ := h
  obtain ⟨b, h5, h6, h7⟩ := hs o h1
  refine ⟨b, h5, fun x hx => ?_, h3.trans (h6.below h3.size h2)⟩
  rcases h7 x hx with e | e
  · exact h2 x e
  · exact Nat.le_trans h3.size e
theorem Own.step (h : Own w0 W (A.and F)) (hs : ∀ a, A.holds W a → Gone a W W' A') : Own w0 W' (A'.and F) := h.went fun _ ho => Gone.beside ho fun a ha _ => hs a ha
theorem Own.made (h : Own w0 W A) (hm : Made W W' B) : Own w0 W' (B.and A) := by
  obtain ⟨o, h1, h2, h3⟩ := h
  obtain ⟨b, h5, h6, h7⟩ := hm
  exact ⟨fun x => b x ∨ o x, ⟨b, o, h5, A.keep _ _ _ h1 fun x hx => h6.block x (A.lt _ _ h1 x hx), fun x hb ho => by have := A.lt _ _ h1 x ho; have := h7 x hb; omega, fun x => Iff.rfl⟩, fun x hx => hx.elim (fun e => Nat.le_trans h3.size (h7 x e)) (h2 x), h3.trans (h6.mono h3.size)⟩
theorem and_comm' {o : Nat → Prop} (h : (A.and B).holds W o) : (B.and A).holds W o := by
  obtain ⟨a, b, h1, h2, h3, h4⟩ := h
  exact ⟨b, a, h2, h1, fun x hb ha => h3 x ha hb, fun x => (h4 x).trans (by constructor <;> exact Or.symm)⟩
theorem and_assoc' {o : Nat → Prop} (h : ((A.and B).and C).holds W o) : (A.and (B.and C)).holds W o := by
  obtain ⟨ab, c, ⟨a, b, h1, h2, h3, h4⟩, h5, h6, h7⟩ := h
  refine ⟨a, fun x => b x ∨ c x, h1, ⟨b, c, h2, h5, fun x hb hc => h6 x ((h4 x).2 (.inr hb)) hc, fun _ => Iff.rfl⟩, fun x ha hbc => hbc.elim (h3 x ha) (h6 x ((h4 x).2 (.inl ha))), fun x => ?_⟩
  rw [h7 x, h4 x, or_assoc]
theorem Own.comm (h : Own w0 W (A.and B)) : Own w0 W (B.and A) := by obtain ⟨o, h1, h2⟩ := h; exact ⟨o, and_comm' h1, h2⟩
theorem Own.assoc (h : Own w0 W ((A.and B).and C)) : Own w0 W (A.and (B.and C)) := by obtain ⟨o, h1, h2⟩ := h; exact ⟨o, and_assoc' h1, h2⟩
theorem Own.swap (h : Own w0 W (A.and (B.and C))) : Own w0 W (B.and (A.and C)) := by
  obtain ⟨o, ⟨a, bc, h1, ⟨b, c, h2, h3, h4, h5⟩, h6, h7⟩, h8⟩ := h
  refine ⟨o, ⟨b, fun x => a x ∨ c x, h2, ⟨a, c, h1, h3, fun x ha hc => h6 x ha ((h5 x).2 (.inr hc)), fun _ => Iff.rfl⟩, fun x hb hac => hac.elim (fun ha => h6 x ha ((h5 x).2 (.inl hb))) (h4 x hb), fun x => ?_⟩, h8⟩
  rw [h7 x, h5 x, or_left_comm]
theorem Own.fst (h : Own w0 W (A.and B)) : Own w0 W A := by
  obtain ⟨o, ⟨a, b, h1, h2, h3, h4⟩, h5, h6⟩ := h
  exact ⟨a, h1, fun x hx => h5 x ((h4 x).2 (.inl hx)), h6⟩
theorem made_sl {T : TypeId} {size n : Nat} {v : Value} {xs : List Value} (h : Sl W' T size v n xs) (hb : Below W.heap.size W W') (ho : ∀ g, v.ownBlock = some g → W.heap.size ≤ g) : Made W W' (slO T size v n xs) :=
  ⟨fun x => v.ownBlock = some x, ⟨h, fun _ => Iff.rfl⟩, hb, ho⟩
theorem RNew.made {β : Type} {enc : β → List Value} {T : TypeId} {size : Nat} {v : Value} {l : List β} (h : RNew enc T size W W' v l) : Made W W' (slO T size v l.length (cellsR enc l)) := made_sl h.1 h.2.1 h.2.2
theorem gone_set {n : Nat} {cs : Array Value} {T : TypeId} {a : Nat → Prop} (h : (boxO n cs T).holds W a) (j : Nat) (v : Value) : Gone a W (W.setCell ⟨n, j, none⟩ v) (boxO n (cs.setIfInBounds j v) T) := by
  obtain ⟨h1, h2⟩ := h
  exact ⟨a, ⟨heap_setCell_same _ _ _ _ _ _ _ h1, h2⟩, (Chg.refl W a).setCell _ _ (.inl ((h2 n).2 rfl)), fun _ h => .inl h⟩
theorem Own.set {n : Nat} {cs : Array Value} {T : TypeId} (h : Own w0 W ((boxO n cs T).and F)) (j : Nat) (v : Value) : Own w0 (W.setCell ⟨n, j, none⟩ v) ((boxO n (cs.setIfInBounds j v) T).and F) := h.step fun _ ha => gone_set ha j v
theorem Own.sl {T : TypeId} {size n : Nat} {v : Value} {xs : List Value} (h : Own w0 W ((slO T size v n xs).and F)) : Sl W T size v n xs ∧ ∀ g, v.ownBlock = some g → w0.heap.size ≤ g := by
  obtain ⟨o, ⟨a, f, ⟨h1, h0⟩, h2, h3, h4⟩, h5, h6⟩ := h
  exact ⟨h1, fun g hg => h5 g ((h4 g).2 (.inl ((h0 g).2 hg)))⟩
theorem Own.app {T : TypeId} {size n n' : Nat} {v v' : Value} {xs xs' : List Value} (h : Own w0 W ((slO T size v n xs).and F)) (hs : Sl W' T size v' n' xs') (ht : Turned W W' v.ownBlock) (ho : v'.ownBlock = v.ownBlock ∨ ∃ g, v'.ownBlock = some g ∧ W.heap.size ≤ g) :
    Own w0 W' ((slO T size v' n' xs').and F) := h.step fun a ⟨_, h0⟩ => ⟨fun x => v'.ownBlock = some x, ⟨hs, fun _ => Iff.rfl⟩, Chg.of_turned ht fun k hk _ => (h0 k).2 hk, fun x hx => by
  rcases ho with e | ⟨g, e, hg⟩
  · exact .inl ((h0 x).2 (e ▸ hx))
  · rw [e] at hx; cases hx; exact .inr hg⟩
theorem Own.call {P : Program} {f : FuncId} {args : Array Value} {R : Ending → Prop} (h : Own w0 W (A.and F)) (hc : ∀ a, A.holds W a → Calls P f args W fun e w' => R e ∧ Gone a W w' A') : Calls P f args W fun e w' => R e ∧ Own w0 w' (A'.and F) := by
  have h' := h
  obtain ⟨o, ⟨a, f, h1, h2, h3, h4⟩, h5, h6⟩ := h
  refine (hc a h1).mono fun e w' ⟨hr, b, q1, q2, q3⟩ => ⟨hr, ?_⟩
  refine ⟨fun x => b x ∨ f x, ⟨b, f, q1, F.keep _ _ _ h2 fun x hx => q2.block x (F.lt _ _ h2 x hx) fun e => h3 x e hx, fun x hb hf => ?_, fun x => Iff.rfl⟩, fun x hx => ?_, h6.trans (q2.below h6.size fun x hx => h5 x ((h4 x).2 (.inl hx)))⟩
  · rcases q3 x hb with e | e
    · exact h3 x e hf
    · have := F.lt _ _ h2 x hf; omega
  · rcases hx with e | e
    · exact (q3 x e).elim (fun h => h5 x ((h4 x).2 (.inl h))) fun h => Nat.le_trans h6.size h
    · exact h5 x ((h4 x).2 (.inr e))
end Go.Proofs.Ytmkfjelpekkmmaa
