/-
  Chapter texts DkA Ob DkB PoolM DkC PaB: what the claim reaches of them. Conditions stand at each theorem.
-/
import Derived.ChangeSlices
import Derived.Test.YtoimjjhopljdmaaGreatY28
import Derived.Test.YtoimjjhopljdmaaGreatY27
import Derived.Test.YtoimjjhopljdmaaGreatY07
import Derived.Test.YtoimjjhopljdmaaGreatY01
import Derived.Test.YtoimjjhopljdmaaGreatY09
import Derived.Test.YtoimjjhopljdmaaGreatY24
import Derived.Test.YtoimjjhopljdmaaGreatY12
import Derived.Test.YtoimjjhopljdmaaGreatY08
namespace Go.Proofs.YtoimjjhopljdmaaGreat
open Go.RowKit
structure Dk where
  (M : List Sh) (q : List Cm) (t : Int) (op : Bool)
def zeroCm : Cm := ⟨0, 0, 0, 0, zeroB, 0⟩
def newB (m : Cm) : Bool := idEq m.b.s m.b.i m.b.g 0 0 0
def fullB (c : Cfg) (D : Dk) : Bool := decide (c.queue ≤ (D.q.length : Int))
def nameCm (m : Cm) (s i g : Int) : Cm := { m with b := { m.b with s := s, i := i, g := g } }
def lookF (c : Cfg) (D : Dk) (m : Cm) : Cm × Bool × Int :=
  if cmdB m = false ∨ (m.k = 1 ∧ newB m = false) then (zeroCm, false, 1)
  else if m.k = 1 then
    if ofF c m.b.x m.b.y < 0 then (zeroCm, false, 5)
    else if fullB c D = true then (zeroCm, false, 8)
    else if (headF D.M (ofF c m.b.x m.b.y)).2.2 ≠ 0 then (zeroCm, false, 13)
    else (nameCm m (ofF c m.b.x m.b.y) (headF D.M (ofF c m.b.x m.b.y)).1 (genF D.M (ofF c m.b.x m.b.y) (headF D.M (ofF c m.b.x m.b.y)).1), !(headF D.M (ofF c m.b.x m.b.y)).2.1, 0)
  else if aliveF D.M m.s m.i m.g = false then (zeroCm, false, 9)
  else if endsF D.q m.s m.i m.g = true then (zeroCm, false, 10)
  else if fullB c D = true then (zeroCm, false, 8)
  else (m, false, 0)
def admitF (c : Cfg) (D : Dk) (m : Cm) : Int × Dk :=
  if cmdB m = false then (1, D)
  else if fullB c D = true then (8, D)
  else if m.k = 1 then
    if ofF c m.b.x m.b.y ≠ m.b.s then (5, D)
    else if (takeF D.M m.b.s m.b.i m.b.g).1 ≠ 0 then ((takeF D.M m.b.s m.b.i m.b.g).1, { D with M := (takeF D.M m.b.s m.b.i m.b.g).2 })
    else (0, { D with M := (takeF D.M m.b.s m.b.i m.b.g).2, q := D.q ++ [m] })
  else if aliveF D.M m.s m.i m.g = false then (9, D)
  else (0, { D with q := D.q ++ [m] })
def beginB (D : Dk) : Bool := D.op || decide (1099511627776 ≤ D.t)
def beginF (D : Dk) : (Int × List Cm × Int) × Dk := if beginB D = true then ((0, [], 14), D) else ((D.t + 1, D.q, 0), { D with q := [], t := D.t + 1, op := true })
def freesF (M : List Sh) (n : Nat) : List Nid → Nat × List Sh
  | [] => (n, M)
  | x :: l => freesF (freeF M x.s x.i x.g).2 (n + if (freeF M x.s x.i x.g).1 = 0 then 1 else 0) l
def closeF (D : Dk) (l : List Nid) : (Int × Int) × Dk := if D.op = false then ((0, 14), D) else ((((freesF D.M 0 l).1 : Nat), 0), { D with M := (freesF D.M 0 l).2, op := false })
def reservedF (D : Dk) (k i : Int) : Int × Dk := ((reserveF D.M k i).1, { D with M := (reserveF D.M k i).2 })
def newD (c : Cfg) : Dk := ⟨List.replicate (c.cols * c.rows).toNat (fresh c.ids.toNat c.ids.toNat), [], 0, false⟩
theorem frees_snoc (M : List Sh) (n : Nat) (l : List Nid) (x : Nid) : freesF M n (l ++ [x]) = ((freesF M n l).1 + (if (freeF (freesF M n l).2 x.s x.i x.g).1 = 0 then 1 else 0), (freeF (freesF M n l).2 x.s x.i x.g).2) := by
  induction l generalizing M n with
  | nil => rfl
  | cons y l ih => rw [List.cons_append, freesF, ih]; rfl
theorem frees_step (M : List Sh) {l : List Nid} {t : Nat} {x : Nid} (h : l[t]? = some x) : freesF M 0 (l.take (t + 1)) = ((freesF M 0 (l.take t)).1 + (if (freeF (freesF M 0 (l.take t)).2 x.s x.i x.g).1 = 0 then 1 else 0), (freeF (freesF M 0 (l.take t)).2 x.s x.i x.g).2) := by
  have hlt := (List.getElem?_eq_some_iff.1 h).1
  rw [List.take_succ_eq_append_getElem hlt, (List.getElem?_eq_some_iff.1 h).2, frees_snoc]
theorem frees_le (M : List Sh) (n : Nat) (l : List Nid) : (freesF M n l).1 ≤ n + l.length := by
  induction l generalizing M n with
  | nil => exact Nat.le_refl _
  | cons x l ih =>
    have := ih (freeF M x.s x.i x.g).2 (n + if (freeF M x.s x.i x.g).1 = 0 then 1 else 0)
    rw [freesF, List.length_cons]
    refine Nat.le_trans this ?_
    split <;> omega
end Go.Proofs.YtoimjjhopljdmaaGreat
namespace Go.Proofs.YtoimjjhopljdmaaGreat
open Go.RowKit
structure Ob where
  holds : World → (Nat → Prop) → Prop
  lt : ∀ (w : World) (o : Nat → Prop), holds w o → ∀ b, o b → b < w.heap.size
  keep : ∀ (w w' : World) (o : Nat → Prop), holds w o → (∀ b, o b → w'.heap[b]? = w.heap[b]?) → holds w' o
def Ob.and (A B : Ob) : Ob where
  holds w o := ∃ a b, A.holds w a ∧ B.holds w b ∧ (∀ x, a x → ¬ b x) ∧ ∀ x, o x ↔ a x ∨ b x
  lt := by
    rintro w o ⟨a, b, h1, h2, _, h4⟩ x hx
    rcases (h4 x).1 hx with h | h
    · exact A.lt _ _ h1 _ h
    · exact B.lt _ _ h2 _ h
  keep := by
    rintro w w' o ⟨a, b, h1, h2, h3, h4⟩ hk
    exact ⟨a, b, A.keep _ _ _ h1 fun x hx => hk x ((h4 x).2 (.inl hx)), B.keep _ _ _ h2 fun x hx => hk x ((h4 x).2 (.inr hx)), h3, h4⟩
def Ob.nil : Ob := ⟨fun _ o => ∀ x, ¬ o x, fun _ _ h b hb => absurd hb (h b), fun _ _ _ h _ => h⟩
def boxO (n : Nat) (cs : Array Value) (T : TypeId) : Ob where
  holds w o := w.heap[n]? = some (.cells cs T (0, 0)) ∧ ∀ x, o x ↔ x = n
  lt := by
    rintro w o ⟨h1, h2⟩ b hb
    obtain rfl := (h2 b).1 hb
    exact lt_of_heap h1
  keep := by
    rintro w w' o ⟨h1, h2⟩ hk
    exact ⟨(hk n ((h2 n).2 rfl)).trans h1, h2⟩
def slO (T : TypeId) (size : Nat) (v : Value) (n : Nat) (xs : List Value) : Ob where
  holds w o := Sl w T size v n xs ∧ ∀ x, o x ↔ v.ownBlock = some x
  lt := by
    rintro w o ⟨h1, h2⟩ b hb
    exact sl_lt h1 ((h2 b).1 hb)
  keep := by
    rintro w w' o ⟨h1, h2⟩ hk
    exact ⟨h1.keep fun g hg => hk g ((h2 g).2 hg), h2⟩
def Gone (a : Nat → Prop) (w w' : World) (B : Ob) : Prop := ∃ b, B.holds w' b ∧ Chg w w' a ∧ ∀ x, b x → a x ∨ w.heap.size ≤ x
def Made (w w' : World) (B : Ob) : Prop := ∃ b, B.holds w' b ∧ Below w.heap.size w w' ∧ ∀ x, b x → w.heap.size ≤ x
def Own (w0 W : World) (X : Ob) : Prop := ∃ o, X.holds W o ∧ (∀ x, o x → w0.heap.size ≤ x) ∧ Below w0.heap.size w0 W
variable {w0 W W' : World} {A A' B C F : Ob}
theorem Gone.trans {a : Nat → Prop} {w w' w'' : World} (h : Gone a w w' A) (h2 : ∀ b, A.holds w' b → Gone b w' w'' B) : Gone a w w'' B := by
  obtain ⟨b, h1, h3, h4⟩ := h
  obtain ⟨c, h5, h6, h7⟩ := h2 b h1
  refine ⟨c, h5, h3.trans h6 fun x hx hb => (h4 x hb).elim id fun e => by omega, fun x hx => ?_⟩
  rcases h7 x hx with e | e
  · exact h4 x e
  · exact .inr (Nat.le_trans h3.size e)
theorem Gone.beside {o : Nat → Prop} (h : (A.and F).holds W o) (hs : ∀ a, A.holds W a → (∀ x, a x → o x) → Gone a W W' A') : Gone o W W' (A'.and F) := by
  obtain ⟨a, f, h1, h2, h3, h4⟩ := h
  obtain ⟨b, h5, h6, h7⟩ := hs a h1 fun x hx => (h4 x).2 (.inl hx)
  refine ⟨fun x => b x ∨ f x, ⟨b, f, h5, F.keep _ _ _ h2 fun x hx => h6.block x (F.lt _ _ h2 x hx) fun e => h3 x e hx, fun x hb hf => ?_, fun x => Iff.rfl⟩, h6.mono fun x _ hx => (h4 x).2 (.inl hx), fun x hx => ?_⟩
  · rcases h7 x hb with e | e
    · exact h3 x e hf
    · have := F.lt _ _ h2 x hf; omega
  · rcases hx with e | e
    · exact (h7 x e).imp (fun h => (h4 x).2 (.inl h)) id
    · exact .inl ((h4 x).2 (.inr e))
theorem Own.nil (w : World) : Own w w .nil := ⟨fun _ => False, fun _ h => h, fun _ h => h.elim, Below.refl _ _⟩
theorem Own.below (h : Own w0 W A) : Below w0.heap.size w0 W := by obtain ⟨_, _, _, h⟩ := h; exact h
theorem Own.grow (h : Own w0 W A) (hb : Below W.heap.size W W') : Own w0 W' A := by
  obtain ⟨o, h1, h2, h3⟩ := h
  exact ⟨o, A.keep _ _ _ h1 fun b hx => hb.block b (A.lt _ _ h1 b hx), h2, h3.trans (hb.mono h3.size)⟩
theorem Own.went (h : Own w0 W A) (hs : ∀ a, A.holds W a → Gone a W W' A') : Own w0 W' A' := by
  obtain ⟨o, h1, h2, h3⟩ := h
  obtain ⟨b, h5, h6, h7⟩ := hs o h1
  refine ⟨b, h5, fun x hx => ?_, h3.trans (h6.below h3.size h2)⟩
  rcases h7 x hx with e | e
  · exact h2 x e
  · exact Nat.le_trans h3.size e
theorem Own.step (h : Own w0 W (A.and F)) (hs : ∀ a, A.holds W a → Gone a W W' A') : Own w0 W' (A'.and F) := h.went fun _ ho => Gone.beside ho fun a ha _ => hs a ha
theorem Own.made (h : Own w0 W A) (hm : Made W W' B) : Own w0 W' (B.and A) := by
  obtain ⟨o, h1, h2, h3⟩ := h
  obtain ⟨b, h5, h6, h7⟩ := hm
  exact ⟨fun x => b x ∨ o x, ⟨b, o, h5, A.keep _ _ _ h1 fun x hx => h6.block x (A.lt _ _ h1 x hx), fun x hb ho => by have := A.lt _ _ h1 x ho; have := h7 x hb; omega, fun x => Iff.rfl⟩, fun x hx => hx.elim (fun e => Nat.le_trans h3.size (h7 x e)) (h2 x), h3.trans (h6.mono h3.size)⟩
theorem and_comm' {o : Nat → Prop} (h : (A.and B).holds W o) : (B.and A).holds W o := by
  obtain ⟨a, b, h1, h2, h3, h4⟩ := h
  exact ⟨b, a, h2, h1, fun x hb ha => h3 x ha hb, fun x => (h4 x).trans (by constructor <;> exact Or.symm)⟩
theorem and_assoc' {o : Nat → Prop} (h : ((A.and B).and C).holds W o) : (A.and (B.and C)).holds W o := by
  obtain ⟨ab, c, ⟨a, b, h1, h2, h3, h4⟩, h5, h6, h7⟩ := h
  refine ⟨a, fun x => b x ∨ c x, h1, ⟨b, c, h2, h5, fun x hb hc => h6 x ((h4 x).2 (.inr hb)) hc, fun _ => Iff.rfl⟩, fun x ha hbc => hbc.elim (h3 x ha) (h6 x ((h4 x).2 (.inl ha))), fun x => ?_⟩
  rw [h7 x, h4 x, or_assoc]
theorem Own.comm (h : Own w0 W (A.and B)) : Own w0 W (B.and A) := by obtain ⟨o, h1, h2⟩ := h; exact ⟨o, and_comm' h1, h2⟩
theorem Own.assoc (h : Own w0 W ((A.and B).and C)) : Own w0 W (A.and (B.and C)) := by obtain ⟨o, h1, h2⟩ := h; exact ⟨o, and_assoc' h1, h2⟩
theorem Own.assoc' (h : Own w0 W (A.and (B.and C))) : Own w0 W ((A.and B).and C) := (h.comm.assoc.comm.assoc).comm
theorem Own.swap (h : Own w0 W (A.and (B.and C))) : Own w0 W (B.and (A.and C)) := by
  obtain ⟨o, ⟨a, bc, h1, ⟨b, c, h2, h3, h4, h5⟩, h6, h7⟩, h8⟩ := h
  refine ⟨o, ⟨b, fun x => a x ∨ c x, h2, ⟨a, c, h1, h3, fun x ha hc => h6 x ha ((h5 x).2 (.inr hc)), fun _ => Iff.rfl⟩, fun x hb hac => hac.elim (fun ha => h6 x ha ((h5 x).2 (.inl hb))) (h4 x hb), fun x => ?_⟩, h8⟩
  rw [h7 x, h5 x, or_left_comm]
theorem Own.fst (h : Own w0 W (A.and B)) : Own w0 W A := by
  obtain ⟨o, ⟨a, b, h1, h2, h3, h4⟩, h5, h6⟩ := h
  exact ⟨a, h1, fun x hx => h5 x ((h4 x).2 (.inl hx)), h6⟩
theorem Own.snd (h : Own w0 W (A.and B)) : Own w0 W B := h.comm.fst
theorem made_box (W : World) (cs : Array Value) (T : TypeId) : Made W (W.alloc (.cells cs T)) (boxO W.heap.size cs T) :=
  ⟨fun x => x = W.heap.size, ⟨heap_alloc_new W _, fun _ => Iff.rfl⟩, (Below.refl _ _).alloc (Nat.le_refl _) _, fun x hx => by omega⟩
theorem made_sl {T : TypeId} {size n : Nat} {v : Value} {xs : List Value} (h : Sl W' T size v n xs) (hb : Below W.heap.size W W') (ho : ∀ g, v.ownBlock = some g → W.heap.size ≤ g) : Made W W' (slO T size v n xs) :=
  ⟨fun x => v.ownBlock = some x, ⟨h, fun _ => Iff.rfl⟩, hb, ho⟩
theorem RNew.made {β : Type} {enc : β → List Value} {T : TypeId} {size : Nat} {v : Value} {l : List β} (h : RNew enc T size W W' v l) : Made W W' (slO T size v l.length (cellsR enc l)) := made_sl h.1 h.2.1 h.2.2
theorem Own.box {n : Nat} {cs : Array Value} {T : TypeId} (h : Own w0 W ((boxO n cs T).and F)) : (∀ j, W.cell? ⟨n, j, none⟩ = cs[j]?) ∧ (∀ j, W.frozen? ⟨n, j, none⟩ = false) ∧ n < W.heap.size ∧ w0.heap.size ≤ n := by
  obtain ⟨o, ⟨a, f, ⟨h1, h0⟩, h2, h3, h4⟩, h5, h6⟩ := h
  exact ⟨fun j => by simp [World.cell?, h1], fun j => by simp [World.frozen?, h1], lt_of_heap h1, h5 n ((h4 n).2 (.inl ((h0 n).2 rfl)))⟩
theorem gone_set {n : Nat} {cs : Array Value} {T : TypeId} {a : Nat → Prop} (h : (boxO n cs T).holds W a) (j : Nat) (v : Value) : Gone a W (W.setCell ⟨n, j, none⟩ v) (boxO n (cs.setIfInBounds j v) T) := by
  obtain ⟨h1, h2⟩ := h
  exact ⟨a, ⟨heap_setCell_same _ _ _ _ _ _ _ h1, h2⟩, (Chg.refl W a).setCell _ _ (.inl ((h2 n).2 rfl)), fun _ h => .inl h⟩
theorem Own.set {n : Nat} {cs : Array Value} {T : TypeId} (h : Own w0 W ((boxO n cs T).and F)) (j : Nat) (v : Value) : Own w0 (W.setCell ⟨n, j, none⟩ v) ((boxO n (cs.setIfInBounds j v) T).and F) := h.step fun _ ha => gone_set ha j v
theorem Own.sl {T : TypeId} {size n : Nat} {v : Value} {xs : List Value} (h : Own w0 W ((slO T size v n xs).and F)) : Sl W T size v n xs ∧ ∀ g, v.ownBlock = some g → w0.heap.size ≤ g := by
  obtain ⟨o, ⟨a, f, ⟨h1, h0⟩, h2, h3, h4⟩, h5, h6⟩ := h
  exact ⟨h1, fun g hg => h5 g ((h4 g).2 (.inl ((h0 g).2 hg)))⟩
theorem Own.app {T : TypeId} {size n n' : Nat} {v v' : Value} {xs xs' : List Value} (h : Own w0 W ((slO T size v n xs).and F)) (hs : Sl W' T size v' n' xs') (ht : Turned W W' v.ownBlock) (ho : v'.ownBlock = v.ownBlock ∨ ∃ g, v'.ownBlock = some g ∧ W.heap.size ≤ g) :
    Own w0 W' ((slO T size v' n' xs').and F) := h.step fun a ⟨_, h0⟩ => ⟨fun x => v'.ownBlock = some x, ⟨hs, fun _ => Iff.rfl⟩, Chg.of_turned ht fun k hk _ => (h0 k).2 hk, fun x hx => by
  rcases ho with e | ⟨g, e, hg⟩
  · exact .inl ((h0 x).2 (e ▸ hx))
  · rw [e] at hx; cases hx; exact .inr hg⟩
theorem Own.call {P : Program} {f : FuncId} {args : Array Value} {R : Ending → Prop} (h : Own w0 W (A.and F)) (hc : ∀ a, A.holds W a → Calls P f args W fun e w' => R e ∧ Gone a W w' A') : Calls P f args W fun e w' => R e ∧ Own w0 w' (A'.and F) := by
  have h' := h
  obtain ⟨o, ⟨a, f, h1, h2, h3, h4⟩, h5, h6⟩ := h
  refine (hc a h1).mono fun e w' ⟨hr, b, q1, q2, q3⟩ => ⟨hr, ?_⟩
  refine ⟨fun x => b x ∨ f x, ⟨b, f, q1, F.keep _ _ _ h2 fun x hx => q2.block x (F.lt _ _ h2 x hx) fun e => h3 x e hx, fun x hb hf => ?_, fun x => Iff.rfl⟩, fun x hx => ?_, h6.trans (q2.below h6.size fun x hx => h5 x ((h4 x).2 (.inl hx)))⟩
  · rcases q3 x hb with e | e
    · exact h3 x e hf
    · have := F.lt _ _ h2 x hf; omega
  · rcases hx with e | e
    · exact (q3 x e).elim (fun h => h5 x ((h4 x).2 (.inl h))) fun h => Nat.le_trans h6.size h
    · exact h5 x ((h4 x).2 (.inr e))
theorem Own.look {P : Program} {f : FuncId} {args : Array Value} {Q : Ending → World → Prop} (h : Own w0 W (A.and F)) (hc : ∀ a, A.holds W a → Calls P f args W Q) : Calls P f args W Q := by
  obtain ⟨o, ⟨a, f, h1, h2, h3, h4⟩, h5, h6⟩ := h
  exact hc a h1
end Go.Proofs.YtoimjjhopljdmaaGreat
namespace Go.Proofs.YtoimjjhopljdmaaGreat
open Go.RowKit
structure DLay where
  (p bm : Nat) (L : Lay) (qv : Value)
def DLay.own (d : DLay) (b : Nat) : Prop := b = d.p ∨ d.L.own b ∨ d.qv.ownBlock = some b
def deskC (d : DLay) (D : Dk) : Array Value := #[.pointer (some ⟨d.bm, 0, none⟩), .pointer (some ⟨d.L.P, 0, none⟩), d.qv, .int .i64 D.t, .bool D.op]
structure DeskAt (w : World) (d : DLay) (c : Cfg) (D : Dk) : Prop where
  box : w.heap[d.p]? = some (.cells (deskC d D) 113 (0, 0))
  map : MapAt w d.bm c
  pool : PoolAt w d.L D.M
  q : Sl w 34 16 d.qv D.q.length (cellsR cmC D.q)
  qn : (D.q.length : Int) ≤ c.queue
  t0 : 0 ≤ D.t ∧ D.t ≤ 1099511627776
  ap : ¬ d.L.own d.p
  aq : ∀ g, d.qv.ownBlock = some g → g ≠ d.p ∧ ¬ d.L.own g
  am : ¬ d.own d.bm
variable {w w' w'' : World} {d d' : DLay} {c : Cfg} {D D' D'' : Dk}
theorem DeskAt.lt (h : DeskAt w d c D) {b : Nat} (hb : d.own b) : b < w.heap.size := by
  rcases hb with rfl | hb | hb
  · exact lt_of_heap h.box
  · exact h.pool.lt hb
  · exact sl_lt h.q hb
theorem DeskAt.ltm (h : DeskAt w d c D) : d.bm < w.heap.size := lt_of_heap h.map
theorem DeskAt.keep (h : DeskAt w d c D) (hk : ∀ b, d.own b ∨ b = d.bm → w'.heap[b]? = w.heap[b]?) : DeskAt w' d c D :=
  ⟨(hk _ (.inl (.inl rfl))).trans h.box, (hk _ (.inr rfl)).trans h.map, h.pool.keep fun b hb => hk b (.inl (.inr (.inl hb))), h.q.keep fun g hg => hk g (.inl (.inr (.inr hg))), h.qn, h.t0, h.ap, h.aq, h.am⟩
theorem DeskAt.grown (h : DeskAt w d c D) (hb : Below w.heap.size w w') : DeskAt w' d c D := h.keep fun b hb' => hb.block b (hb'.elim h.lt fun e => e ▸ h.ltm)
def DStp (w : World) (d : DLay) (c : Cfg) (w' : World) (D' : Dk) : Prop := ∃ d', d'.p = d.p ∧ d'.bm = d.bm ∧ DeskAt w' d' c D' ∧ Chg w w' d.own ∧ ∀ b, d'.own b → d.own b ∨ w.heap.size ≤ b
theorem DStp.of_grown (h : DeskAt w d c D) (hb : Below w.heap.size w w') : DStp w d c w' D := ⟨d, rfl, rfl, h.grown hb, Chg.of_below hb, fun _ h => .inl h⟩
theorem DStp.trans (h : DStp w d c w' D') (h2 : ∀ d', d'.p = d.p → d'.bm = d.bm → DeskAt w' d' c D' → DStp w' d' c w'' D'') : DStp w d c w'' D'' := by
  obtain ⟨d1, e1, e2, hd, hc, ho⟩ := h
  obtain ⟨d2, f1, f2, hd2, hc2, ho2⟩ := h2 d1 e1 e2 hd
  refine ⟨d2, f1.trans e1, f2.trans e2, hd2, hc.trans hc2 fun b hb h1 => ?_, fun b hb => ?_⟩
  · rcases ho b h1 with h | h
    · exact h
    · omega
  · rcases ho2 b hb with h | h
    · exact ho b h
    · exact .inr (Nat.le_trans hc.size h)
theorem DStp.then_below (h : DStp w d c w' D') (hb : Below w'.heap.size w' w'') : DStp w d c w'' D' := h.trans fun _ _ _ h2 => DStp.of_grown h2 hb
theorem DStp.from_below (hb : Below w.heap.size w w') (h : DStp w' d c w'' D') : DStp w d c w'' D' := by
  obtain ⟨d1, e1, e2, hd, hc, ho⟩ := h
  exact ⟨d1, e1, e2, hd, (Chg.of_below hb).trans hc fun _ _ h => h, fun b h => (ho b h).imp_right fun h => Nat.le_trans hb.size h⟩
theorem DeskAt.pooled (h : DeskAt w d c D) {M' : List Sh} (hs : Stp w d.L w' M') : ∃ L', L'.P = d.L.P ∧ DeskAt w' ⟨d.p, d.bm, L', d.qv⟩ c { D with M := M' } ∧ Chg w w' d.own ∧ ∀ b, DLay.own ⟨d.p, d.bm, L', d.qv⟩ b → d.own b ∨ w.heap.size ≤ b := by
  obtain ⟨L', hP, hp, hc, ho⟩ := hs
  have hk : ∀ b, b < w.heap.size → ¬ d.L.own b → w'.heap[b]? = w.heap[b]? := fun b h1 h2 => hc.block b h1 h2
  have hn : ∀ b, b < w.heap.size → ¬ d.L.own b → ¬ L'.own b := fun b h1 h2 h3 => (ho b h3).elim h2 fun h4 => by omega
  have hm : ¬ d.L.own d.bm := fun e => h.am (.inr (.inl e))
  refine ⟨L', hP, ⟨?_, (hk _ h.ltm hm).trans h.map, hp, h.q.keep fun g hg => hk g (sl_lt h.q hg) (h.aq g hg).2, h.qn, h.t0, hn _ (lt_of_heap h.box) h.ap, fun g hg => ⟨(h.aq g hg).1, hn g (sl_lt h.q hg) (h.aq g hg).2⟩, ?_⟩, hc.mono fun b _ hb => .inr (.inl hb), fun b hb => ?_⟩
  · rw [hk _ (lt_of_heap h.box) h.ap, h.box]; simp only [deskC, hP]
  · rintro (e | e | e)
    · exact h.am (.inl e)
    · exact hn _ h.ltm hm e
    · exact h.am (.inr (.inr e))
  · rcases hb with e | e | e
    · exact .inl (.inl e)
    · exact (ho b e).imp (fun h => .inr (.inl h)) id
    · exact .inl (.inr (.inr e))
theorem DStp.pool (h : DeskAt w d c D) {M' : List Sh} (hs : Stp w d.L w' M') : DStp w d c w' { D with M := M' } := by
  obtain ⟨L', _, h1, h2, h3⟩ := h.pooled hs
  exact ⟨⟨d.p, d.bm, L', d.qv⟩, rfl, rfl, h1, h2, h3⟩
theorem DeskAt.cell (h : DeskAt w d c D) (j : Nat) : w.cell? ⟨d.p, j, none⟩ = (deskC d D)[j]? := by simp [World.cell?, h.box]
theorem DeskAt.frozen (h : DeskAt w d c D) (j : Nat) : w.frozen? ⟨d.p, j, none⟩ = false := by simp [World.frozen?, h.box]
theorem DeskAt.boxed (h : DeskAt w d c D) {v' : Value} (hb : w'.heap[d.p]? = some (.cells (deskC ⟨d.p, d.bm, d.L, v'⟩ D') 113 (0, 0))) (hM : D'.M = D.M) (hq : Sl w' 34 16 v' D'.q.length (cellsR cmC D'.q)) (hn : (D'.q.length : Int) ≤ c.queue) (ht : 0 ≤ D'.t ∧ D'.t ≤ 1099511627776)
    (ho : ∀ g, v'.ownBlock = some g → d.qv.ownBlock = some g ∨ w.heap.size ≤ g) (hc : Chg w w' fun b => b = d.p ∨ d.qv.ownBlock = some b) : DStp w d c w' D' := by
  have hk : ∀ b, b < w.heap.size → b ≠ d.p → d.qv.ownBlock ≠ some b → w'.heap[b]? = w.heap[b]? := fun b h1 h2 h3 => hc.block b h1 fun e => e.elim h2 h3
  refine ⟨⟨d.p, d.bm, d.L, v'⟩, rfl, rfl, ⟨hb, (hk _ h.ltm (fun e => h.am (.inl e)) (fun e => h.am (.inr (.inr e)))).trans h.map, ?_, hq, hn, ht, h.ap, fun g hg => ?_, ?_⟩, hc.mono fun b _ e => e.elim .inl fun e => .inr (.inr e), fun b hb => ?_⟩
  · rw [hM]
    exact h.pool.keep fun b hb => hk b (h.pool.lt hb) (fun e => h.ap (e ▸ hb)) (fun e => (h.aq b e).2 hb)
  · rcases ho g hg with e | e
    · exact h.aq g e
    · exact ⟨fun e2 => by have h1 := lt_of_heap h.box; have e3 : g = d.p := e2; omega, fun e2 => by have := h.pool.lt e2; omega⟩
  · rintro (e | e | e)
    · exact h.am (.inl e)
    · exact h.am (.inr (.inl e))
    · rcases ho _ e with e2 | e2
      · exact h.am (.inr (.inr e2))
      · have := h.ltm; simp only at this e2; omega
  · rcases hb with e | e | e
    · exact .inl (.inl e)
    · exact .inl (.inr (.inl e))
    · exact (ho b e).imp (fun h => .inr (.inr h)) id
theorem DeskAt.queued (h : DeskAt w d c D) {w4 : World} {v' : Value} {m : Cm} (hs : Sl w4 34 16 v' (D.q.length + 1) (cellsR cmC D.q ++ cmC m)) (ht : Turned w w4 d.qv.ownBlock)
    (ho : v'.ownBlock = d.qv.ownBlock ∨ ∃ g, v'.ownBlock = some g ∧ w.heap.size ≤ g) (hq : (D.q.length : Int) < c.queue) : DStp w d c (w4.setCell ⟨d.p, 2, none⟩ v') { D with q := D.q ++ [m] } := by
  have hp := lt_of_heap h.box
  have hnp : d.qv.ownBlock ≠ some d.p := fun e => (h.aq _ e).1 rfl
  have hb4 := (ht.block d.p hp fun e => hnp e.symm).trans h.box
  have hvp : v'.ownBlock ≠ some d.p := fun e => by
    rcases ho with e2 | ⟨g, e2, e3⟩
    · exact hnp (e2 ▸ e)
    · rw [e] at e2; cases e2; omega
  refine h.boxed (v' := v') ?_ rfl ?_ (by simp only [List.length_append, List.length_singleton]; omega) h.t0 (fun g hg => ?_) ?_
  · rw [heap_setCell_same _ _ _ _ _ _ _ hb4]
    simp [deskC]
  · rw [show cellsR cmC (D.q ++ [m]) = cellsR cmC D.q ++ cmC m from by rw [cellsR_app, cellsR_one], List.length_append, List.length_singleton]
    exact hs.keep fun g hg => Below.heap_setCell _ _ _ _ fun e => hvp (by rw [hg, e])
  · rcases ho with e2 | ⟨g', e2, e3⟩
    · exact .inl (e2 ▸ hg)
    · rw [hg] at e2; cases e2; exact .inr e3
  · exact (Chg.of_turned ht (F := fun b => b = d.p ∨ d.qv.ownBlock = some b) fun k e _ => .inr e).setCell _ _ (.inl (.inl rfl))
def deskO (p : Nat) (c : Cfg) (D : Dk) : Ob where
  holds w o := ∃ d : DLay, d.p = p ∧ DeskAt w d c D ∧ ∀ x, o x ↔ d.own x ∨ x = d.bm
  lt := by
    rintro w o ⟨d, _, h, ho⟩ b hb
    rcases (ho b).1 hb with e | e
    · exact h.lt e
    · subst e; exact h.ltm
  keep := by
    rintro w w' o ⟨d, hp, h, ho⟩ hk
    exact ⟨d, hp, h.keep fun b hb => hk b ((ho b).2 hb), ho⟩
theorem DStp.gone {a : Nat → Prop} (h : DStp w d c w' D') (ha : ∀ x, a x ↔ d.own x ∨ x = d.bm) : Gone a w w' (deskO d.p c D') := by
  obtain ⟨d', hp, hm, hd, hc, ho⟩ := h
  refine ⟨fun x => d'.own x ∨ x = d'.bm, ⟨d', hp, hd, fun _ => Iff.rfl⟩, hc.mono fun x _ hx => (ha x).2 (.inl hx), fun x hx => ?_⟩
  rcases hx with e | e
  · exact (ho x e).imp (fun h => (ha x).2 (.inl h)) id
  · exact .inl ((ha x).2 (.inr (e.trans hm)))
theorem Own.desk {w0 W : World} {F : Ob} {p : Nat} (h : Own w0 W ((deskO p c D).and F)) {P : Program} {f : FuncId} {args : Array Value} {R : Ending → Prop} {D' : Dk} (hc : ∀ d : DLay, d.p = p → DeskAt W d c D → Calls P f args W fun e w' => R e ∧ DStp W d c w' D') :
    Calls P f args W fun e w' => R e ∧ Own w0 w' ((deskO p c D').and F) := h.call fun _ ⟨d, hp, hd, ha⟩ => (hc d hp hd).mono fun _ _ ⟨hr, hs⟩ => ⟨hr, hp ▸ hs.gone ha⟩
theorem Own.reads {w0 W : World} {F : Ob} {p : Nat} (h : Own w0 W ((deskO p c D).and F)) {P : Program} {f : FuncId} {args : Array Value} {Q : Ending → World → Prop} (hc : ∀ d : DLay, d.p = p → DeskAt W d c D → Calls P f args W Q) : Calls P f args W Q := h.look fun _ ⟨d, hp, hd, _⟩ => hc d hp hd
end Go.Proofs.YtoimjjhopljdmaaGreat
namespace Go.Proofs.YtoimjjhopljdmaaGreat
open Go.RowKit
structure St2 (w0 W : World) (L : Lay) (M : List Sh) (p : Nat) (L' : Lay) (M' : List Sh) (p' : Nat) : Prop where
  a : St w0 W L M p
  b : St w0 W L' M' p'
  ap : ∀ b, L.own b → ¬ L'.own b

theorem St2.swap {w0 W : World} {L L' : Lay} {M M' : List Sh} {p p' : Nat} (h : St2 w0 W L M p L' M' p') : St2 w0 W L' M' p' L M p := ⟨h.b, h.a, fun b h1 h2 => h.ap b h2 h1⟩
theorem St2.grow {w0 W W' : World} {L L' : Lay} {M M' : List Sh} {p p' : Nat} (h : St2 w0 W L M p L' M' p') (hb : Below W.heap.size W W') : St2 w0 W' L M p L' M' p' := ⟨h.a.grow hb, h.b.grow hb, h.ap⟩
structure Lst (w0 W : World) (F : Nat → Prop) (v : Value) (l : List Id3) : Prop where
  sl : Sl W 30 3 v l.length (idCells l)
  ap : ∀ g, v.ownBlock = some g → w0.heap.size ≤ g ∧ ¬ F g

theorem Lst.nil (w0 W : World) (F : Nat → Prop) : Lst w0 W F (.slice none 0 0) [] := ⟨⟨by simp [idCells], .inl ⟨rfl, rfl⟩⟩, fun g hg => by cases hg⟩
theorem Lst.grow {w0 W W' : World} {F : Nat → Prop} {v : Value} {l : List Id3} (h : Lst w0 W F v l) (hb : Below W.heap.size W W') : Lst w0 W' F v l := ⟨h.sl.keep fun g hg => hb.block g (h.sl.lt hg), h.ap⟩
theorem Lst.snoc {w0 W w1 : World} {F : Nat → Prop} {v v' : Value} {l : List Id3} {s i g : Int} (h : Lst w0 W F v l) (h0 : w0.heap.size ≤ W.heap.size) (hF : ∀ b, F b → b < W.heap.size) (hs : Sl w1 30 3 v' (l.length + 1) (idCells l ++ [.int .i64 s, .int .i64 i, .int .i64 g]))
    (ho : v'.ownBlock = v.ownBlock ∨ ∃ g, v'.ownBlock = some g ∧ W.heap.size ≤ g) : Lst w0 w1 F v' (l ++ [(s, i, g)]) := by
  refine ⟨by rw [idCells_app, idCells_one]; simpa using hs, fun q hq => ?_⟩
  rcases ho with e | ⟨g', e, hg'⟩
  · exact h.ap q (by rw [← e]; exact hq)
  · rw [e] at hq
    cases hq
    exact ⟨by omega, fun h => by have := hF q h; omega⟩

theorem Lst.cells {w0 W : World} {F : Nat → Prop} {v : Value} {l : List Id3} (h : Lst w0 W F v l) : ∃ p cap, v = .slice p l.length cap ∧ l.length ≤ maxLen ∧ ∀ k (x : Id3), l[k]? = some x → ∃ b off, p = some ⟨b, off, none⟩ ∧ l.length ≤ cap ∧
    W.cell? ⟨b, off + k * 3, none⟩ = some (.int .i64 x.1) ∧ W.cell? ⟨b, off + k * 3 + 1, none⟩ = some (.int .i64 x.2.1) ∧ W.cell? ⟨b, off + k * 3 + 2, none⟩ = some (.int .i64 x.2.2) := by
  have key : ∀ (l : List Id3) (k : Nat) (x : Id3), l[k]? = some x → (idCells l)[k * 3]? = some (.int .i64 x.1) ∧ (idCells l)[k * 3 + 1]? = some (.int .i64 x.2.1) ∧ (idCells l)[k * 3 + 2]? = some (.int .i64 x.2.2) := by
    intro l
    induction l with
    | nil => intro k x hx; cases hx
    | cons y l ih =>
      intro k x hx
      cases k with
      | zero => simp at hx; subst hx; simp [idCells]
      | succ k =>
        obtain ⟨h1, h2, h3⟩ := ih k x (by simpa using hx)
        have e : idCells (y :: l) = .int .i64 y.1 :: .int .i64 y.2.1 :: .int .i64 y.2.2 :: idCells l := by simp [idCells]
        rw [e, show (k + 1) * 3 = k * 3 + 1 + 1 + 1 by omega]
        exact ⟨by simpa using h1, by simpa using h2, by simpa using h3⟩
  obtain ⟨_, ⟨hv, h0⟩ | ⟨blk, off, cap, cur, rfl, hb, hn, hc, hsz, hr⟩⟩ := h.sl
  · exact ⟨none, 0, by rw [hv, h0], by omega, fun k x hx => by have := (List.getElem?_eq_some_iff.1 hx).1; omega⟩
  · refine ⟨_, cap, rfl, by omega, fun k x hx => ⟨blk, off, rfl, hn, ?_⟩⟩
    obtain ⟨h1, h2, h3⟩ := key l k x hx
    have r1 := hr _ _ h1
    have r2 := hr _ _ h2
    have r3 := hr _ _ h3
    rw [show off + (k * 3 + 1) = off + k * 3 + 1 by omega] at r2
    rw [show off + (k * 3 + 2) = off + k * 3 + 2 by omega] at r3
    exact ⟨by simp [World.cell?, hb, r1], by simp [World.cell?, hb, r2], by simp [World.cell?, hb, r3]⟩

end Go.Proofs.YtoimjjhopljdmaaGreat
namespace Go.Proofs.YtoimjjhopljdmaaGreat
open Go.RowKit

section
variable (w : World) (d : DLay) (c : Cfg) (D : Dk) (h : DeskAt w d c D)
include h
theorem dreserve_any (k i : Int) : Calls Tryz.prog 45 #[.pointer (some ⟨d.p, 0, none⟩), .int .i64 k, .int .i64 i] w fun e w' => e = .returned (.int .i64 (reservedF D k i).1) ∧ DStp w d c w' (reservedF D k i).2 := by
  have c1 := h.cell 1
  simp [deskC] at c1
  have HR := Lib.hid (reserve_any w d.L D.M k i h.pool)
  have HP := Lib.hid (fun w' (hs : Stp w d.L w' (reserveF D.M k i).2) => DStp.pool h hs)
  clear h
  go_enter Tryz.func45, Tryz.ntmps45
  go_wp2_with (go_at_call 88; refine HR.out.mono ?_; rintro e w' ⟨rfl, hs⟩)
  go_ret
  exact ⟨rfl, HP.out _ hs⟩
theorem dtick_any : Calls Tryz.prog 75 #[.pointer (some ⟨d.p, 0, none⟩)] w fun e w' => e = .returned (.tuple #[.int .i64 D.t, .bool D.op]) ∧ Below w.heap.size w w' := by
  have c3 := h.cell 3
  have c4 := h.cell 4
  simp [deskC] at c3 c4
  have hlt := lt_of_heap h.box
  clear h
  go_enter Tryz.func75, Tryz.ntmps75
  go_wp2_with fail
  refine wp_region_more (by kernel_rfl) (by kernel_rfl) ?_
  repeat (go_big_quiet_step (fail))
  refine wpQuiet_nil ?_
  rintro _ ⟨pn, rfl⟩
  go_wp2_with fail
  go_ret2
  exact ⟨rfl, bg⟩
theorem DeskAt.qc (ho : CfgOk c) : D.q.length ≤ 64 := by have := h.qn; have := ho.q1; omega
theorem dwaiting_any (ho : CfgOk c) : Calls Tryz.prog 47 #[.pointer (some ⟨d.p, 0, none⟩)] w fun e w' => ∃ v, e = .returned v ∧ RNew cmC 34 16 w w' v D.q := by
  have c2 := h.cell 2
  simp [deskC] at c2
  have HR := Lib.hid (cloneCm_any d.qv D.q w (RIn.of_sl h.q) (by have := h.qc _ _ _ _ ho; omega))
  obtain ⟨p, cap, hv⟩ := sl_frm h.q
  rw [hv] at c2 HR
  clear h hv
  go_enter Tryz.func47, Tryz.ntmps47
  go_wp2_with fail
  refine HR.out.mono ?_
  rintro e w' ⟨v, rfl, hl⟩
  go_wp2_with fail
  go_ret
  exact ⟨_, rfl, hl⟩
theorem dwaits_any (s i g : Int) : Calls Tryz.prog 85 #[.pointer (some ⟨d.p, 0, none⟩), .agg #[.int .i64 s, .int .i64 i, .int .i64 g]] w fun e w' => e = .returned (.bool (endsF D.q s i g)) ∧ Below w.heap.size w w' := by
  have c2 := h.cell 2
  simp [deskC] at c2
  have hlt := lt_of_heap h.box
  have HR := Lib.hid (fun W (hW : Below w.heap.size w W) B a1 a2 a3 a4 => contCm_any s i g D.q d.qv B W (RIn.of_sl (h.q.keep fun g hg => hW.block g (sl_lt h.q hg))) a1 a2 a3 a4)
  obtain ⟨p, cap, hv⟩ := sl_frm h.q
  rw [hv] at c2 HR
  obtain ⟨z0, z1, z2⟩ := ltz hlt
  clear h hv
  go_enter Tryz.func85, Tryz.ntmps85
  go_wp2_with fail
  refine (HR.out _ bg _ (by first | (simp; done) | (simp; omega)) (by simp [go_sem]) (by simp [go_sem]) (by simp [go_sem])).mono ?_
  rintro e w' ⟨rfl, hb⟩
  obtain ⟨d, os, rfl⟩ := more_of hb; clear hb
  go_wp2_with fail
  go_ret
  exact ⟨rfl, bg⟩
end
end Go.Proofs.YtoimjjhopljdmaaGreat
namespace Go.Proofs.YtoimjjhopljdmaaGreat
open Go.RowKit

set_option maxHeartbeats 1000000 in
theorem check_any (s i g m x y vx vy hp pw lf : Int) (w : World) :
    Calls Tryz.prog 121 #[.agg #[.int .i64 s, .int .i64 i, .int .i64 g, .int .i64 m, .int .i64 x, .int .i64 y, .int .i64 vx, .int .i64 vy, .int .i64 hp, .int .i64 pw, .int .i64 lf]] w fun e w' => e = .returned (.int .i64 (errB (checkB ⟨s, i, g, m, x, y, vx, vy, hp, pw, lf⟩))) ∧ Below w.heap.size w w' := by
  generalize hr : errB _ = r
  unfold checkB at hr
  have HR := Lib.hid hr
  clear hr
  go_enter Tryz.func121, Tryz.ntmps121
  go_wp2_with (first
    | (go_at_call 123; refine (right_any _ _ _ _ _ _ _ _ _ _ _ _).mono ?_; rintro e w1 ⟨rfl, hb⟩; obtain ⟨⟨hB1, hs1, hl1⟩, hc1⟩ := box_keep hb (box_new0 w _ _); clear hb)
    | (go_at_call 136; refine (has_any _ _ _ _ _ _ _ _ _ _ _ _ _).mono ?_; rintro e w2 ⟨rfl, hb⟩; obtain ⟨⟨hB2, hs2, hl2⟩, hc2⟩ := box_keep hb ⟨⟨hB1, hs1, hl1⟩, hc1⟩; clear hb hB1 hs1 hl1 hc1)
    | (go_at_call 120; refine (checkID_any _ _ _ _).mono ?_; rintro e w3 ⟨rfl, hb⟩; obtain ⟨⟨hB3, hs3, hl3⟩, hc3⟩ := box_keep hb ⟨⟨hB2, hs2, hl2⟩, hc2⟩; clear hb hB2 hs2 hl2 hc2))
  all_goals go_ret
  all_goals refine ⟨?_, by assumption⟩
  all_goals go_tidy
  all_goals (have h := HR.out; rw [← h]; simp_all [errB])

set_option maxHeartbeats 2000000 in
theorem checkCmd_any (k s i g es ei eg m x y vx vy hp pw lf mask : Int) (w : World) :
    Calls Tryz.prog 82 #[.agg #[.int .i64 k, .int .i64 s, .int .i64 i, .int .i64 g, .int .i64 es, .int .i64 ei, .int .i64 eg, .int .i64 m, .int .i64 x, .int .i64 y, .int .i64 vx, .int .i64 vy, .int .i64 hp, .int .i64 pw, .int .i64 lf, .int .i64 mask]] w fun e w' => e = .returned (.int .i64 (errB (cmdB ⟨k, s, i, g, ⟨es, ei, eg, m, x, y, vx, vy, hp, pw, lf⟩, mask⟩))) ∧ Below w.heap.size w w' := by
  generalize hr : errB _ = r
  unfold cmdB at hr
  dsimp only at hr
  have HR := Lib.hid hr
  clear hr
  go_enter Tryz.func82, Tryz.ntmps82
  go_wp2_with (first
    | (go_at_call 120; refine (checkID_any _ _ _ _).mono ?_; rintro e w1 ⟨rfl, hb⟩; obtain ⟨⟨hB1, hs1, hl1⟩, hc1⟩ := box_keep hb (box_new0 w _ _); clear hb)
    | (go_at_call 123; refine (right_any _ _ _ _ _ _ _ _ _ _ _ _).mono ?_; rintro e w2 ⟨rfl, hb⟩; obtain ⟨⟨hB2, hs2, hl2⟩, hc2⟩ := box_keep hb ⟨⟨hB1, hs1, hl1⟩, hc1⟩; clear hb hB1 hs1 hl1 hc1)
    | (go_at_call 121; refine (check_any _ _ _ _ _ _ _ _ _ _ _ _).mono ?_; rintro e w2 ⟨rfl, hb⟩; obtain ⟨⟨hB2, hs2, hl2⟩, hc2⟩ := box_keep hb ⟨⟨hB1, hs1, hl1⟩, hc1⟩; clear hb hB1 hs1 hl1 hc1)
    | (go_at_call 122; refine (some_any _ _).mono ?_; rintro e w' ⟨rfl, rfl⟩))
  all_goals go_ret
  all_goals refine ⟨?_, by assumption⟩
  all_goals go_tidy
  all_goals (have h := HR.out; rw [← h]; simp_all [errB, idZero, bunZero])

end Go.Proofs.YtoimjjhopljdmaaGreat
