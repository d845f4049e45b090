/- Texts Ob DkB LapB Fr PoolM DkC PaB PaS PaT CmE CmV CmW CmX: what the claim reaches of them. Conditions stand at each theorem. -/
import Derived.Test.YtoimjjhopljdmaaGreatRows
import Derived.ProofKit
import Derived.OpenShut
import Derived.Carry
import Derived.ChangeSlices
import Derived.Shelf.SlicesQ.Load
import Derived.Test.YtoimjjhopljdmaaGreatP05
set_option maxRecDepth 100000
set_option maxHeartbeats 8000000
namespace Go.Proofs.YtoimjjhopljdmaaGreat
open Go.RowKit
open Go.Proofs.Tryz (prog)
open Go.Value (int)
open Go.IntKind (i64)
open Go.Lib (hid)
section
structure Ob where
 holds : World → (Nat → Prop) → Prop
 lt : ∀ (w : World) (o : Nat → Prop), holds w o → ∀ b, o b → b < w.heap.size
 keep : ∀ (w w' : World) (o : Nat → Prop), holds w o → (∀ b, o b → w'.heap[b]? = w.heap[b]?) → holds w' o
def Ob.and (A B : Ob) : Ob where
 holds w o := ∃ a b, A.holds w a ∧ B.holds w b ∧ (∀ x, a x → ¬ b x) ∧ ∀ x, o x ↔ a x ∨ b x
 lt := by
  rintro w o ⟨a, b, h1, h2, _, h4⟩ x hx
  rcases (h4 x).1 hx with h | h
  · exact A.lt _ _ h1 _ h
  · exact B.lt _ _ h2 _ h
 keep := by
  rintro w w' o ⟨a, b, h1, h2, h3, h4⟩ hk
  exact ⟨a, b, A.keep _ _ _ h1 fun x hx => hk x ((h4 x).2 (.inl hx)), B.keep _ _ _ h2 fun x hx => hk x ((h4 x).2 (.inr hx)), h3, h4⟩
def Ob.nil : Ob := ⟨fun _ o => ∀ x, ¬ o x, fun _ _ h b hb => absurd hb (h b), fun _ _ _ h _ => h⟩
def boxO (n : Nat) (cs : Array Value) (T : TypeId) : Ob where
 holds w o := w.heap[n]? = some (.cells cs T (0, 0)) ∧ ∀ x, o x ↔ x = n
 lt := by
  rintro w o ⟨h1, h2⟩ b hb
  obtain rfl := (h2 b).1 hb
  exact lt_of_heap h1
 keep := by
  rintro w w' o ⟨h1, h2⟩ hk
  exact ⟨(hk n ((h2 n).2 rfl)).trans h1, h2⟩
def slO (T : TypeId) (size : Nat) (v : Value) (n : Nat) (xs : List Value) : Ob where
 holds w o := Sl w T size v n xs ∧ ∀ x, o x ↔ v.ownBlock = some x
 lt := by
  rintro w o ⟨h1, h2⟩ b hb
  exact sl_lt h1 ((h2 b).1 hb)
 keep := by
  rintro w w' o ⟨h1, h2⟩ hk
  exact ⟨h1.keep fun g hg => hk g ((h2 g).2 hg), h2⟩
def Gone (a : Nat → Prop) (w w' : World) (B : Ob) : Prop := ∃ b, B.holds w' b ∧ Chg w w' a ∧ ∀ x, b x → a x ∨ w.heap.size ≤ x
def Made (w w' : World) (B : Ob) : Prop := ∃ b, B.holds w' b ∧ Below w.heap.size w w' ∧ ∀ x, b x → w.heap.size ≤ x
def Own (w0 W : World) (X : Ob) : Prop := ∃ o, X.holds W o ∧ (∀ x, o x → w0.heap.size ≤ x) ∧ Below w0.heap.size w0 W
variable {w0 W W' : World} {A A' B C F : Ob}
theorem Gone.trans {a : Nat → Prop} {w w' w'' : World} (h : Gone a w w' A) (h2 : ∀ b, A.holds w' b → Gone b w' w'' B) : Gone a w w'' B := by
 obtain ⟨b, h1, h3, h4⟩ := h
 obtain ⟨c, h5, h6, h7⟩ := h2 b h1
 refine ⟨c, h5, h3.trans h6 fun x hx hb => (h4 x hb).elim id fun e => by omega, fun x hx => ?_⟩
 rcases h7 x hx with e | e
 · exact h4 x e
 · exact .inr (Nat.le_trans h3.size e)
theorem Gone.beside {o : Nat → Prop} (h : (A.and F).holds W o) (hs : ∀ a, A.holds W a → (∀ x, a x → o x) → Gone a W W' A') : Gone o W W' (A'.and F) := by
 obtain ⟨a, f, h1, h2, h3, h4⟩ := h
 obtain ⟨b, h5, h6, h7⟩ := hs a h1 fun x hx => (h4 x).2 (.inl hx)
 refine ⟨fun x => b x ∨ f x, ⟨b, f, h5, F.keep _ _ _ h2 fun x hx => h6.block x (F.lt _ _ h2 x hx) fun e => h3 x e hx, fun x hb hf => ?_, fun x => Iff.rfl⟩, h6.mono fun x _ hx => (h4 x).2 (.inl hx), fun x hx => ?_⟩
 · rcases h7 x hb with e | e
   · exact h3 x e hf
   · have := F.lt _ _ h2 x hf; omega
 · rcases hx with e | e
   · exact (h7 x e).imp (fun h => (h4 x).2 (.inl h)) id
   · exact .inl ((h4 x).2 (.inr e))
theorem Own.nil (w : World) : Own w w .nil := ⟨fun _ => False, fun _ h => h, fun _ h => h.elim, Below.refl _ _⟩
theorem Own.below (h : Own w0 W A) : Below w0.heap.size w0 W := by obtain ⟨_, _, _, h⟩ := h; exact h
theorem Own.grow (h : Own w0 W A) (hb : Below W.heap.size W W') : Own w0 W' A := by
 obtain ⟨o, h1, h2, h3⟩ := h
 exact ⟨o, A.keep _ _ _ h1 fun b hx => hb.block b (A.lt _ _ h1 b hx), h2, h3.trans (hb.mono h3.size)⟩
theorem Own.went (h : Own w0 W A) (hs : ∀ a, A.holds W a → Gone a W W' A') : Own w0 W' A' := by
 obtain ⟨o, h1, h2, h3⟩ := h
 obtain ⟨b, h5, h6, h7⟩ := hs o h1
 refine ⟨b, h5, fun x hx => ?_, h3.trans (h6.below h3.size h2)⟩
 rcases h7 x hx with e | e
 · exact h2 x e
 · exact Nat.le_trans h3.size e
theorem Own.step (h : Own w0 W (A.and F)) (hs : ∀ a, A.holds W a → Gone a W W' A') : Own w0 W' (A'.and F) := h.went fun _ ho => Gone.beside ho fun a ha _ => hs a ha
theorem Own.made (h : Own w0 W A) (hm : Made W W' B) : Own w0 W' (B.and A) := by
 obtain ⟨o, h1, h2, h3⟩ := h
 obtain ⟨b, h5, h6, h7⟩ := hm
 exact ⟨fun x => b x ∨ o x, ⟨b, o, h5, A.keep _ _ _ h1 fun x hx => h6.block x (A.lt _ _ h1 x hx), fun x hb ho => by have := A.lt _ _ h1 x ho; have := h7 x hb; omega, fun x => Iff.rfl⟩, fun x hx => hx.elim (fun e => Nat.le_trans h3.size (h7 x e)) (h2 x), h3.trans (h6.mono h3.size)⟩
theorem and_comm' {o : Nat → Prop} (h : (A.and B).holds W o) : (B.and A).holds W o := by
 obtain ⟨a, b, h1, h2, h3, h4⟩ := h
 exact ⟨b, a, h2, h1, fun x hb ha => h3 x ha hb, fun x => (h4 x).trans (by constructor <;> exact Or.symm)⟩
theorem and_assoc' {o : Nat → Prop} (h : ((A.and B).and C).holds W o) : (A.and (B.and C)).holds W o := by
 obtain ⟨ab, c, ⟨a, b, h1, h2, h3, h4⟩, h5, h6, h7⟩ := h
 refine ⟨a, fun x => b x ∨ c x, h1, ⟨b, c, h2, h5, fun x hb hc => h6 x ((h4 x).2 (.inr hb)) hc, fun _ => Iff.rfl⟩, fun x ha hbc => hbc.elim (h3 x ha) (h6 x ((h4 x).2 (.inl ha))), fun x => ?_⟩
 rw [h7 x, h4 x, or_assoc]
theorem Own.comm (h : Own w0 W (A.and B)) : Own w0 W (B.and A) := by obtain ⟨o, h1, h2⟩ := h; exact ⟨o, and_comm' h1, h2⟩
theorem Own.assoc (h : Own w0 W ((A.and B).and C)) : Own w0 W (A.and (B.and C)) := by obtain ⟨o, h1, h2⟩ := h; exact ⟨o, and_assoc' h1, h2⟩
theorem Own.assoc' (h : Own w0 W (A.and (B.and C))) : Own w0 W ((A.and B).and C) := (h.comm.assoc.comm.assoc).comm
theorem Own.swap (h : Own w0 W (A.and (B.and C))) : Own w0 W (B.and (A.and C)) := by
 obtain ⟨o, ⟨a, bc, h1, ⟨b, c, h2, h3, h4, h5⟩, h6, h7⟩, h8⟩ := h
 refine ⟨o, ⟨b, fun x => a x ∨ c x, h2, ⟨a, c, h1, h3, fun x ha hc => h6 x ha ((h5 x).2 (.inr hc)), fun _ => Iff.rfl⟩, fun x hb hac => hac.elim (fun ha => h6 x ha ((h5 x).2 (.inl hb))) (h4 x hb), fun x => ?_⟩, h8⟩
 rw [h7 x, h5 x, or_left_comm]
theorem Own.fst (h : Own w0 W (A.and B)) : Own w0 W A := by
 obtain ⟨o, ⟨a, b, h1, h2, h3, h4⟩, h5, h6⟩ := h
 exact ⟨a, h1, fun x hx => h5 x ((h4 x).2 (.inl hx)), h6⟩
theorem Own.snd (h : Own w0 W (A.and B)) : Own w0 W B := h.comm.fst
theorem made_box (W : World) (cs : Array Value) (T : TypeId) : Made W (W.alloc (.cells cs T)) (boxO W.heap.size cs T) :=
 ⟨fun x => x = W.heap.size, ⟨heap_alloc_new W _, fun _ => Iff.rfl⟩, (Below.refl _ _).alloc (Nat.le_refl _) _, fun x hx => by omega⟩
theorem made_sl {T : TypeId} {size n : Nat} {v : Value} {xs : List Value} (h : Sl W' T size v n xs) (hb : Below W.heap.size W W') (ho : ∀ g, v.ownBlock = some g → W.heap.size ≤ g) : Made W W' (slO T size v n xs) :=
 ⟨fun x => v.ownBlock = some x, ⟨h, fun _ => Iff.rfl⟩, hb, ho⟩
theorem RNew.made {β : Type} {enc : β → List Value} {T : TypeId} {size : Nat} {v : Value} {l : List β} (h : RNew enc T size W W' v l) : Made W W' (slO T size v l.length (cellsR enc l)) := made_sl h.1 h.2.1 h.2.2
theorem Own.box {n : Nat} {cs : Array Value} {T : TypeId} (h : Own w0 W ((boxO n cs T).and F)) : (∀ j, W.cell? ⟨n, j, none⟩ = cs[j]?) ∧ (∀ j, W.frozen? ⟨n, j, none⟩ = false) ∧ n < W.heap.size ∧ w0.heap.size ≤ n := by
 obtain ⟨o, ⟨a, f, ⟨h1, h0⟩, h2, h3, h4⟩, h5, h6⟩ := h
 exact ⟨fun j => by simp [World.cell?, h1], fun j => by simp [World.frozen?, h1], lt_of_heap h1, h5 n ((h4 n).2 (.inl ((h0 n).2 rfl)))⟩
theorem gone_set {n : Nat} {cs : Array Value} {T : TypeId} {a : Nat → Prop} (h : (boxO n cs T).holds W a) (j : Nat) (v : Value) : Gone a W (W.setCell ⟨n, j, none⟩ v) (boxO n (cs.setIfInBounds j v) T) := by
 obtain ⟨h1, h2⟩ := h
 exact ⟨a, ⟨heap_setCell_same _ _ _ _ _ _ _ h1, h2⟩, (Chg.refl W a).setCell _ _ (.inl ((h2 n).2 rfl)), fun _ h => .inl h⟩
theorem Own.set {n : Nat} {cs : Array Value} {T : TypeId} (h : Own w0 W ((boxO n cs T).and F)) (j : Nat) (v : Value) : Own w0 (W.setCell ⟨n, j, none⟩ v) ((boxO n (cs.setIfInBounds j v) T).and F) := h.step fun _ ha => gone_set ha j v
theorem Own.sl {T : TypeId} {size n : Nat} {v : Value} {xs : List Value} (h : Own w0 W ((slO T size v n xs).and F)) : Sl W T size v n xs ∧ ∀ g, v.ownBlock = some g → w0.heap.size ≤ g := by
 obtain ⟨o, ⟨a, f, ⟨h1, h0⟩, h2, h3, h4⟩, h5, h6⟩ := h
 exact ⟨h1, fun g hg => h5 g ((h4 g).2 (.inl ((h0 g).2 hg)))⟩
theorem Own.app {T : TypeId} {size n n' : Nat} {v v' : Value} {xs xs' : List Value} (h : Own w0 W ((slO T size v n xs).and F)) (hs : Sl W' T size v' n' xs') (ht : Turned W W' v.ownBlock) (ho : v'.ownBlock = v.ownBlock ∨ ∃ g, v'.ownBlock = some g ∧ W.heap.size ≤ g) :
 Own w0 W' ((slO T size v' n' xs').and F) := h.step fun a ⟨_, h0⟩ => ⟨fun x => v'.ownBlock = some x, ⟨hs, fun _ => Iff.rfl⟩, Chg.of_turned ht fun k hk _ => (h0 k).2 hk, fun x hx => by
 rcases ho with e | ⟨g, e, hg⟩
 · exact .inl ((h0 x).2 (e ▸ hx))
 · rw [e] at hx; cases hx; exact .inr hg⟩
theorem Own.call {P : Program} {f : FuncId} {args : Array Value} {R : Ending → Prop} (h : Own w0 W (A.and F)) (hc : ∀ a, A.holds W a → Calls P f args W fun e w' => R e ∧ Gone a W w' A') : Calls P f args W fun e w' => R e ∧ Own w0 w' (A'.and F) := by
 have h' := h
 obtain ⟨o, ⟨a, f, h1, h2, h3, h4⟩, h5, h6⟩ := h
 refine (hc a h1).mono fun e w' ⟨hr, b, q1, q2, q3⟩ => ⟨hr, ?_⟩
 refine ⟨fun x => b x ∨ f x, ⟨b, f, q1, F.keep _ _ _ h2 fun x hx => q2.block x (F.lt _ _ h2 x hx) fun e => h3 x e hx, fun x hb hf => ?_, fun x => Iff.rfl⟩, fun x hx => ?_, h6.trans (q2.below h6.size fun x hx => h5 x ((h4 x).2 (.inl hx)))⟩
 · rcases q3 x hb with e | e
   · exact h3 x e hf
   · have := F.lt _ _ h2 x hf; omega
 · rcases hx with e | e
   · exact (q3 x e).elim (fun h => h5 x ((h4 x).2 (.inl h))) fun h => Nat.le_trans h6.size h
   · exact h5 x ((h4 x).2 (.inr e))
theorem Own.look {P : Program} {f : FuncId} {args : Array Value} {Q : Ending → World → Prop} (h : Own w0 W (A.and F)) (hc : ∀ a, A.holds W a → Calls P f args W Q) : Calls P f args W Q := by
 obtain ⟨o, ⟨a, f, h1, h2, h3, h4⟩, h5, h6⟩ := h
 exact hc a h1
end
section
structure DLay where
 (p bm : Nat) (L : Lay) (qv : Value)
def DLay.own (d : DLay) (b : Nat) : Prop := b = d.p ∨ d.L.own b ∨ d.qv.ownBlock = some b
def deskC (d : DLay) (D : Dk) : Array Value := #[.pointer (some ⟨d.bm, 0, none⟩), .pointer (some ⟨d.L.P, 0, none⟩), d.qv, int i64 D.t, .bool D.op]
structure DeskAt (w : World) (d : DLay) (c : Cfg) (D : Dk) : Prop where
 box : w.heap[d.p]? = some (.cells (deskC d D) 113 (0, 0))
 map : MapAt w d.bm c
 pool : PoolAt w d.L D.M
 q : Sl w 34 16 d.qv D.q.length (cellsR cmC D.q)
 qn : (D.q.length : Int) ≤ c.queue
 t0 : 0 ≤ D.t ∧ D.t ≤ 1099511627776
 ap : ¬ d.L.own d.p
 aq : ∀ g, d.qv.ownBlock = some g → g ≠ d.p ∧ ¬ d.L.own g
 am : ¬ d.own d.bm
variable {w w' w'' : World} {d d' : DLay} {c : Cfg} {D D' D'' : Dk}
theorem DeskAt.lt (h : DeskAt w d c D) {b : Nat} (hb : d.own b) : b < w.heap.size := by
 rcases hb with rfl | hb | hb
 · exact lt_of_heap h.box
 · exact h.pool.lt hb
 · exact sl_lt h.q hb
theorem DeskAt.ltm (h : DeskAt w d c D) : d.bm < w.heap.size := lt_of_heap h.map
theorem DeskAt.keep (h : DeskAt w d c D) (hk : ∀ b, d.own b ∨ b = d.bm → w'.heap[b]? = w.heap[b]?) : DeskAt w' d c D :=
 ⟨(hk _ (.inl (.inl rfl))).trans h.box, (hk _ (.inr rfl)).trans h.map, h.pool.keep fun b hb => hk b (.inl (.inr (.inl hb))), h.q.keep fun g hg => hk g (.inl (.inr (.inr hg))), h.qn, h.t0, h.ap, h.aq, h.am⟩
theorem DeskAt.grown (h : DeskAt w d c D) (hb : Below w.heap.size w w') : DeskAt w' d c D := h.keep fun b hb' => hb.block b (hb'.elim h.lt fun e => e ▸ h.ltm)
def DStp (w : World) (d : DLay) (c : Cfg) (w' : World) (D' : Dk) : Prop := ∃ d', d'.p = d.p ∧ d'.bm = d.bm ∧ DeskAt w' d' c D' ∧ Chg w w' d.own ∧ ∀ b, d'.own b → d.own b ∨ w.heap.size ≤ b
theorem DStp.of_grown (h : DeskAt w d c D) (hb : Below w.heap.size w w') : DStp w d c w' D := ⟨d, rfl, rfl, h.grown hb, Chg.of_below hb, fun _ h => .inl h⟩
theorem DStp.trans (h : DStp w d c w' D') (h2 : ∀ d', d'.p = d.p → d'.bm = d.bm → DeskAt w' d' c D' → DStp w' d' c w'' D'') : DStp w d c w'' D'' := by
 obtain ⟨d1, e1, e2, hd, hc, ho⟩ := h
 obtain ⟨d2, f1, f2, hd2, hc2, ho2⟩ := h2 d1 e1 e2 hd
 refine ⟨d2, f1.trans e1, f2.trans e2, hd2, hc.trans hc2 fun b hb h1 => ?_, fun b hb => ?_⟩
 · rcases ho b h1 with h | h
   · exact h
   · omega
 · rcases ho2 b hb with h | h
   · exact ho b h
   · exact .inr (Nat.le_trans hc.size h)
theorem DStp.then_below (h : DStp w d c w' D') (hb : Below w'.heap.size w' w'') : DStp w d c w'' D' := h.trans fun _ _ _ h2 => DStp.of_grown h2 hb
theorem DStp.from_below (hb : Below w.heap.size w w') (h : DStp w' d c w'' D') : DStp w d c w'' D' := by
 obtain ⟨d1, e1, e2, hd, hc, ho⟩ := h
 exact ⟨d1, e1, e2, hd, (Chg.of_below hb).trans hc fun _ _ h => h, fun b h => (ho b h).imp_right fun h => Nat.le_trans hb.size h⟩
theorem DeskAt.pooled (h : DeskAt w d c D) {M' : List Sh} (hs : Stp w d.L w' M') : ∃ L', L'.P = d.L.P ∧ DeskAt w' ⟨d.p, d.bm, L', d.qv⟩ c { D with M := M' } ∧ Chg w w' d.own ∧ ∀ b, DLay.own ⟨d.p, d.bm, L', d.qv⟩ b → d.own b ∨ w.heap.size ≤ b := by
 obtain ⟨L', hP, hp, hc, ho⟩ := hs
 have hk : ∀ b, b < w.heap.size → ¬ d.L.own b → w'.heap[b]? = w.heap[b]? := fun b h1 h2 => hc.block b h1 h2
 have hn : ∀ b, b < w.heap.size → ¬ d.L.own b → ¬ L'.own b := fun b h1 h2 h3 => (ho b h3).elim h2 fun h4 => by omega
 have hm : ¬ d.L.own d.bm := fun e => h.am (.inr (.inl e))
 refine ⟨L', hP, ⟨?_, (hk _ h.ltm hm).trans h.map, hp, h.q.keep fun g hg => hk g (sl_lt h.q hg) (h.aq g hg).2, h.qn, h.t0, hn _ (lt_of_heap h.box) h.ap, fun g hg => ⟨(h.aq g hg).1, hn g (sl_lt h.q hg) (h.aq g hg).2⟩, ?_⟩, hc.mono fun b _ hb => .inr (.inl hb), fun b hb => ?_⟩
 · rw [hk _ (lt_of_heap h.box) h.ap, h.box]; simp only [deskC, hP]
 · rintro (e | e | e)
   · exact h.am (.inl e)
   · exact hn _ h.ltm hm e
   · exact h.am (.inr (.inr e))
 · rcases hb with e | e | e
   · exact .inl (.inl e)
   · exact (ho b e).imp (fun h => .inr (.inl h)) id
   · exact .inl (.inr (.inr e))
theorem DStp.pool (h : DeskAt w d c D) {M' : List Sh} (hs : Stp w d.L w' M') : DStp w d c w' { D with M := M' } := by
 obtain ⟨L', _, h1, h2, h3⟩ := h.pooled hs
 exact ⟨⟨d.p, d.bm, L', d.qv⟩, rfl, rfl, h1, h2, h3⟩
theorem DeskAt.cell (h : DeskAt w d c D) (j : Nat) : w.cell? ⟨d.p, j, none⟩ = (deskC d D)[j]? := by simp [World.cell?, h.box]
theorem DeskAt.frozen (h : DeskAt w d c D) (j : Nat) : w.frozen? ⟨d.p, j, none⟩ = false := by simp [World.frozen?, h.box]
theorem DeskAt.boxed (h : DeskAt w d c D) {v' : Value} (hb : w'.heap[d.p]? = some (.cells (deskC ⟨d.p, d.bm, d.L, v'⟩ D') 113 (0, 0))) (hM : D'.M = D.M) (hq : Sl w' 34 16 v' D'.q.length (cellsR cmC D'.q)) (hn : (D'.q.length : Int) ≤ c.queue) (ht : 0 ≤ D'.t ∧ D'.t ≤ 1099511627776)
 (ho : ∀ g, v'.ownBlock = some g → d.qv.ownBlock = some g ∨ w.heap.size ≤ g) (hc : Chg w w' fun b => b = d.p ∨ d.qv.ownBlock = some b) : DStp w d c w' D' := by
 have hk : ∀ b, b < w.heap.size → b ≠ d.p → d.qv.ownBlock ≠ some b → w'.heap[b]? = w.heap[b]? := fun b h1 h2 h3 => hc.block b h1 fun e => e.elim h2 h3
 refine ⟨⟨d.p, d.bm, d.L, v'⟩, rfl, rfl, ⟨hb, (hk _ h.ltm (fun e => h.am (.inl e)) (fun e => h.am (.inr (.inr e)))).trans h.map, ?_, hq, hn, ht, h.ap, fun g hg => ?_, ?_⟩, hc.mono fun b _ e => e.elim .inl fun e => .inr (.inr e), fun b hb => ?_⟩
 · rw [hM]
   exact h.pool.keep fun b hb => hk b (h.pool.lt hb) (fun e => h.ap (e ▸ hb)) (fun e => (h.aq b e).2 hb)
 · rcases ho g hg with e | e
   · exact h.aq g e
   · exact ⟨fun e2 => by have h1 := lt_of_heap h.box; have e3 : g = d.p := e2; omega, fun e2 => by have := h.pool.lt e2; omega⟩
 · rintro (e | e | e)
   · exact h.am (.inl e)
   · exact h.am (.inr (.inl e))
   · rcases ho _ e with e2 | e2
     · exact h.am (.inr (.inr e2))
     · have := h.ltm; simp only at this e2; omega
 · rcases hb with e | e | e
   · exact .inl (.inl e)
   · exact .inl (.inr (.inl e))
   · exact (ho b e).imp (fun h => .inr (.inr h)) id
theorem DeskAt.queued (h : DeskAt w d c D) {w4 : World} {v' : Value} {m : Cm} (hs : Sl w4 34 16 v' (D.q.length + 1) (cellsR cmC D.q ++ cmC m)) (ht : Turned w w4 d.qv.ownBlock)
 (ho : v'.ownBlock = d.qv.ownBlock ∨ ∃ g, v'.ownBlock = some g ∧ w.heap.size ≤ g) (hq : (D.q.length : Int) < c.queue) : DStp w d c (w4.setCell ⟨d.p, 2, none⟩ v') { D with q := D.q ++ [m] } := by
 have hp := lt_of_heap h.box
 have hnp : d.qv.ownBlock ≠ some d.p := fun e => (h.aq _ e).1 rfl
 have hb4 := (ht.block d.p hp fun e => hnp e.symm).trans h.box
 have hvp : v'.ownBlock ≠ some d.p := fun e => by
  rcases ho with e2 | ⟨g, e2, e3⟩
  · exact hnp (e2 ▸ e)
  · rw [e] at e2; cases e2; omega
 refine h.boxed (v' := v') ?_ rfl ?_ (by simp only [List.length_append, List.length_singleton]; omega) h.t0 (fun g hg => ?_) ?_
 · rw [heap_setCell_same _ _ _ _ _ _ _ hb4]
   simp [deskC]
 · rw [show cellsR cmC (D.q ++ [m]) = cellsR cmC D.q ++ cmC m from by rw [cellsR_app, cellsR_one], List.length_append, List.length_singleton]
   exact hs.keep fun g hg => Below.heap_setCell _ _ _ _ fun e => hvp (by rw [hg, e])
 · rcases ho with e2 | ⟨g', e2, e3⟩
   · exact .inl (e2 ▸ hg)
   · rw [hg] at e2; cases e2; exact .inr e3
 · exact (Chg.of_turned ht (F := fun b => b = d.p ∨ d.qv.ownBlock = some b) fun k e _ => .inr e).setCell _ _ (.inl (.inl rfl))
def deskO (p : Nat) (c : Cfg) (D : Dk) : Ob where
 holds w o := ∃ d : DLay, d.p = p ∧ DeskAt w d c D ∧ ∀ x, o x ↔ d.own x ∨ x = d.bm
 lt := by
  rintro w o ⟨d, _, h, ho⟩ b hb
  rcases (ho b).1 hb with e | e
  · exact h.lt e
  · subst e; exact h.ltm
 keep := by
  rintro w w' o ⟨d, hp, h, ho⟩ hk
  exact ⟨d, hp, h.keep fun b hb => hk b ((ho b).2 hb), ho⟩
theorem DStp.gone {a : Nat → Prop} (h : DStp w d c w' D') (ha : ∀ x, a x ↔ d.own x ∨ x = d.bm) : Gone a w w' (deskO d.p c D') := by
 obtain ⟨d', hp, hm, hd, hc, ho⟩ := h
 refine ⟨fun x => d'.own x ∨ x = d'.bm, ⟨d', hp, hd, fun _ => Iff.rfl⟩, hc.mono fun x _ hx => (ha x).2 (.inl hx), fun x hx => ?_⟩
 rcases hx with e | e
 · exact (ho x e).imp (fun h => (ha x).2 (.inl h)) id
 · exact .inl ((ha x).2 (.inr (e.trans hm)))
theorem Own.desk {w0 W : World} {F : Ob} {p : Nat} (h : Own w0 W ((deskO p c D).and F)) {P : Program} {f : FuncId} {args : Array Value} {R : Ending → Prop} {D' : Dk} (hc : ∀ d : DLay, d.p = p → DeskAt W d c D → Calls P f args W fun e w' => R e ∧ DStp W d c w' D') :
 Calls P f args W fun e w' => R e ∧ Own w0 w' ((deskO p c D').and F) := h.call fun _ ⟨d, hp, hd, ha⟩ => (hc d hp hd).mono fun _ _ ⟨hr, hs⟩ => ⟨hr, hp ▸ hs.gone ha⟩
theorem Own.reads {w0 W : World} {F : Ob} {p : Nat} (h : Own w0 W ((deskO p c D).and F)) {P : Program} {f : FuncId} {args : Array Value} {Q : Ending → World → Prop} (hc : ∀ d : DLay, d.p = p → DeskAt W d c D → Calls P f args W Q) : Calls P f args W Q := h.look fun _ ⟨d, hp, hd, _⟩ => hc d hp hd
end
def LapI (wo : World) (S : Nat) (L1 : Lay) (N : List Sh) (k : Nat) (m : Sh) (wr : World) (q : Nat) : Prop :=
 PoolAt wr L1 (N.set k ⟨lapAll m.all (m.free.take q), m.free⟩) ∧ Chg wo wr L1.own ∧ wo.heap.size < wr.heap.size ∧ wr.cell? ⟨wo.heap.size, 0, none⟩ = some (.pointer (some ⟨S, k * 2, none⟩))
theorem LapI.later {wo wi W : World} {S : Nat} {L1 : Lay} {N : List Sh} {k : Nat} {m : Sh} {q : Nat} (h : LapI wo S L1 N k m wi q) (hb : Below wi.heap.size wi W) : LapI wo S L1 N k m W q :=
 ⟨h.1.grown hb, h.2.1.then_below (hb.mono h.2.1.size), Nat.lt_of_lt_of_le h.2.2.1 hb.size, (hb.cell (p := ⟨wo.heap.size, 0, none⟩) h.2.2.1).trans h.2.2.2⟩
section
open Go.ChangeShapes Go.WideShapes Go.ChangeAt
theorem ownKnob0 : ownKnob prog.godebug = none := by kernel_rfl
theorem laidOut : laidOutB prog = true := by kernel_rfl
theorem trodAll_stays {H : Type} {enc : TypeId × Value → H} {W W' : World} {sp : Nat → Bool} : ∀ {ts : List TypeId} {vs : List Value} {ds : List (DataW H)} {ps : List MemPlace},
 DataW.TrodAll enc prog W 0 (fun _ => true) true ts vs ds ps → (∀ t ∈ ts, prog.readableRec t = true ∧ t < prog.types.size) → (∀ p ∈ ps, W.sameAt W' p) → (∀ p ∈ ps, sp p.block = true) →
 DataW.TrodAll enc prog W' 0 sp true ts vs ds ps
 | [], [], [], _, h, _, _, _ => h
 | t :: ts, v :: vs, d :: ds, _, h, hr, hs, hp => by
   obtain ⟨p, q, h1, h2, rfl⟩ := h
   obtain ⟨r1, r2⟩ := hr t List.mem_cons_self
   exact ⟨p, q, WideElems.Trod_stays laidOut r1 r2 h1 (fun x hx => hs x (List.mem_append_left _ hx)) (fun x hx => hp x (List.mem_append_left _ hx)),
    trodAll_stays h2 (fun t ht => hr t (List.mem_cons_of_mem _ ht)) (fun x hx => hs x (List.mem_append_right _ hx)) (fun x hx => hp x (List.mem_append_right _ hx)), rfl⟩
theorem post_true {H : Type} {enc : TypeId × Value → H} {f : Func} {s : ChangeSpec} {W W' : World} {args : Array Value} {ds gs : List (DataW H)} {before : List MemPlace}
 (hv : s.vars = []) (hr : f.resultTypes = #[4]) (hread : ∀ t ∈ f.params.toList, prog.readableRec t = true ∧ t < prog.types.size)
 (hs : s.fn H (ds ++ gs) = { results := [.lit (.bool true)], args := ds })
 (hW : DataW.Whole enc prog f.params.toList s.vars false W args.toList ds gs before) (hb : Below W.heap.size W W') :
 s.post enc prog f false true false false W args (.bool true) W' := by
 have hlt := hW.lt
 have hW' := hW
 obtain ⟨p, q, hA, hV, rfl, _⟩ := hW'
 refine ⟨ds, gs, p ++ q, [], p, [], hW, ?_, ?_, ?_, hb.frame _, fun h => by cases h⟩
 · rw [hs, hr]
   exact trodAll_cons_mk (shut_bool Tryz.underlying4 true) trodAll_mk0
 · rw [hs]
   exact trodAll_stays hA hread (fun x hx => hb.same (hlt x (List.mem_append_left _ hx))) (fun x hx => by simpa using hlt x (List.mem_append_left _ hx))
 · rw [hs, hv]
   rfl
theorem cells_id : prog.cellsOf 30 = 3 := by kernel_rfl
theorem cells_int : prog.cellsOf 3 = 1 := by kernel_rfl
theorem cells_bun : prog.cellsOf 32 = 11 := by kernel_rfl
theorem cells_cmd : prog.cellsOf 34 = 16 := by kernel_rfl
theorem i64_of_wf {n : Int} (h : (Lit.int .i64 n).wf = true) : -9223372036854775808 ≤ n ∧ n ≤ 9223372036854775807 := by
 simpa [Lit.wf, IntKind.min, IntKind.max, IntKind.bits, IntKind.signed] using h
section
variable {H : Type} {enc : TypeId × Value → H} {w : World} {base : Nat} {spare : Nat → Bool} {held : Bool} {fuel : Nat}
theorem read_int {c : List Value} {x : DataW H × List MemPlace} (h : DataW.trod enc prog w base spare held fuel 3 c = some x) : ∃ n, c = [int i64 n] ∧ -9223372036854775808 ≤ n ∧ n ≤ 9223372036854775807 := by
 obtain ⟨n, h1, _, h3⟩ := DataW.trod_int Tryz.underlying3 h
 exact ⟨n, h1, i64_of_wf h3⟩
theorem read_id {c : List Value} {x : DataW H × List MemPlace} (h : DataW.trod enc prog w base spare held fuel 30 c = some x) :
 ∃ s i g : Int, c = [int i64 s, int i64 i, int i64 g] ∧ (-9223372036854775808 ≤ s ∧ s ≤ 9223372036854775807) ∧ (-9223372036854775808 ≤ i ∧ i ≤ 9223372036854775807) ∧ (-9223372036854775808 ≤ g ∧ g ≤ 9223372036854775807) := by
 obtain ⟨xs, n, _, _, hc, hl, hf⟩ := DataW.trod_struct Tryz.underlying30 h
 rw [cells_id] at hc
 match c, hc with
 | [c0, c1, c2], _ =>
   match xs, hl with
   | [x0, x1, x2], _ =>
     have h0 := hf 0 _ rfl
     have h1 := hf 1 _ rfl
     have h2 := hf 2 _ rfl
     simp [cells_int] at h0 h1 h2
     obtain ⟨s, e0, b0⟩ := read_int h0
     obtain ⟨i, e1, b1⟩ := read_int h1
     obtain ⟨g, e2, b2⟩ := read_int h2
     simp at e0 e1 e2
     subst e0 e1 e2
     exact ⟨s, i, g, rfl, b0, b1, b2⟩
theorem read_bun {c : List Value} {x : DataW H × List MemPlace} (h : DataW.trod enc prog w base spare held fuel 32 c = some x) :
 ∃ s i g m x y vx vy hp pw lf : Int, c = [int i64 s, int i64 i, int i64 g, int i64 m, int i64 x, int i64 y, int i64 vx, int i64 vy, int i64 hp, int i64 pw, int i64 lf] ∧ (-9223372036854775808 ≤ s ∧ s ≤ 9223372036854775807) ∧ (-9223372036854775808 ≤ i ∧ i ≤ 9223372036854775807) ∧ (-9223372036854775808 ≤ g ∧ g ≤ 9223372036854775807) ∧ (-9223372036854775808 ≤ m ∧ m ≤ 9223372036854775807) ∧ (-9223372036854775808 ≤ x ∧ x ≤ 9223372036854775807) ∧ (-9223372036854775808 ≤ y ∧ y ≤ 9223372036854775807) ∧ (-9223372036854775808 ≤ vx ∧ vx ≤ 9223372036854775807) ∧ (-9223372036854775808 ≤ vy ∧ vy ≤ 9223372036854775807) ∧ (-9223372036854775808 ≤ hp ∧ hp ≤ 9223372036854775807) ∧ (-9223372036854775808 ≤ pw ∧ pw ≤ 9223372036854775807) ∧ (-9223372036854775808 ≤ lf ∧ lf ≤ 9223372036854775807) := by
 obtain ⟨xs, n, _, _, hc, hl, hf⟩ := DataW.trod_struct Tryz.underlying32 h
 rw [cells_bun] at hc
 match c, hc with
 | [c0, c1, c2, c3, c4, c5, c6, c7, c8, c9, c10], _ =>
   match xs, hl with
   | [x0, x1, x2, x3, x4, x5, x6, x7, x8], _ =>
     have h0 := hf 0 _ rfl
     have h1 := hf 1 _ rfl
     have h2 := hf 2 _ rfl
     have h3 := hf 3 _ rfl
     have h4 := hf 4 _ rfl
     have h5 := hf 5 _ rfl
     have h6 := hf 6 _ rfl
     have h7 := hf 7 _ rfl
     have h8 := hf 8 _ rfl
     simp [cells_int, cells_id] at h0 h1 h2 h3 h4 h5 h6 h7 h8
     obtain ⟨s, i, g, e0, b0, b1, b2⟩ := read_id h0
     obtain ⟨m, e1, d1⟩ := read_int h1
     obtain ⟨x, e2, d2⟩ := read_int h2
     obtain ⟨y, e3, d3⟩ := read_int h3
     obtain ⟨vx, e4, d4⟩ := read_int h4
     obtain ⟨vy, e5, d5⟩ := read_int h5
     obtain ⟨hp, e6, d6⟩ := read_int h6
     obtain ⟨pw, e7, d7⟩ := read_int h7
     obtain ⟨lf, e8, d8⟩ := read_int h8
     simp at e0 e1 e2 e3 e4 e5 e6 e7 e8
     obtain ⟨e0, e00, e01⟩ := e0
     subst e0 e00 e01 e1 e2 e3 e4 e5 e6 e7 e8
     exact ⟨s, i, g, m, x, y, vx, vy, hp, pw, lf, rfl, b0, b1, b2, d1, d2, d3, d4, d5, d6, d7, d8⟩
end
theorem agg_of {H : Type} {enc : TypeId × Value → H} {W : World} {base b0 : Nat} {spare : Nat → Bool} {held : Bool} {r : Reach} {t : TypeId} {fs : Array Field} {v : Value} {d : DataW H} {p : List MemPlace} (hs : prog.underlying t = some (.struct fs))
 (hv : Value.okWide prog W r b0 t v) (h : DataW.Trod enc prog W base spare held t v d p) : ∃ (c : List Value) (fuel : Nat), v = .agg c.toArray ∧ DataW.trod enc prog W base spare held fuel t c = some (d, p) := by
 obtain ⟨⟨c⟩, rfl, _⟩ := okWide_struct hs hv
 obtain ⟨fuel, hf⟩ := h
 exact ⟨c, fuel, rfl, by simpa [Value.cells] using hf⟩
end
structure St2 (w0 W : World) (L : Lay) (M : List Sh) (p : Nat) (L' : Lay) (M' : List Sh) (p' : Nat) : Prop where
 a : St w0 W L M p
 b : St w0 W L' M' p'
 ap : ∀ b, L.own b → ¬ L'.own b
theorem St2.swap {w0 W : World} {L L' : Lay} {M M' : List Sh} {p p' : Nat} (h : St2 w0 W L M p L' M' p') : St2 w0 W L' M' p' L M p := ⟨h.b, h.a, fun b h1 h2 => h.ap b h2 h1⟩
theorem St2.grow {w0 W W' : World} {L L' : Lay} {M M' : List Sh} {p p' : Nat} (h : St2 w0 W L M p L' M' p') (hb : Below W.heap.size W W') : St2 w0 W' L M p L' M' p' := ⟨h.a.grow hb, h.b.grow hb, h.ap⟩
structure Lst (w0 W : World) (F : Nat → Prop) (v : Value) (l : List Id3) : Prop where
 sl : Sl W 30 3 v l.length (idCells l)
 ap : ∀ g, v.ownBlock = some g → w0.heap.size ≤ g ∧ ¬ F g
theorem Lst.nil (w0 W : World) (F : Nat → Prop) : Lst w0 W F (.slice none 0 0) [] := ⟨⟨by simp [idCells], .inl ⟨rfl, rfl⟩⟩, fun g hg => by cases hg⟩
theorem Lst.grow {w0 W W' : World} {F : Nat → Prop} {v : Value} {l : List Id3} (h : Lst w0 W F v l) (hb : Below W.heap.size W W') : Lst w0 W' F v l := ⟨h.sl.keep fun g hg => hb.block g (h.sl.lt hg), h.ap⟩
theorem Lst.snoc {w0 W w1 : World} {F : Nat → Prop} {v v' : Value} {l : List Id3} {s i g : Int} (h : Lst w0 W F v l) (h0 : w0.heap.size ≤ W.heap.size) (hF : ∀ b, F b → b < W.heap.size) (hs : Sl w1 30 3 v' (l.length + 1) (idCells l ++ [int i64 s, int i64 i, int i64 g]))
 (ho : v'.ownBlock = v.ownBlock ∨ ∃ g, v'.ownBlock = some g ∧ W.heap.size ≤ g) : Lst w0 w1 F v' (l ++ [(s, i, g)]) := by
 refine ⟨by rw [idCells_app, idCells_one]; simpa using hs, fun q hq => ?_⟩
 rcases ho with e | ⟨g', e, hg'⟩
 · exact h.ap q (by rw [← e]; exact hq)
 · rw [e] at hq
   cases hq
   exact ⟨by omega, fun h => by have := hF q h; omega⟩
theorem Lst.cells {w0 W : World} {F : Nat → Prop} {v : Value} {l : List Id3} (h : Lst w0 W F v l) : ∃ p cap, v = .slice p l.length cap ∧ l.length ≤ maxLen ∧ ∀ k (x : Id3), l[k]? = some x → ∃ b off, p = some ⟨b, off, none⟩ ∧ l.length ≤ cap ∧
 W.cell? ⟨b, off + k * 3, none⟩ = some (int i64 x.1) ∧ W.cell? ⟨b, off + k * 3 + 1, none⟩ = some (int i64 x.2.1) ∧ W.cell? ⟨b, off + k * 3 + 2, none⟩ = some (int i64 x.2.2) := by
 have key : ∀ (l : List Id3) (k : Nat) (x : Id3), l[k]? = some x → (idCells l)[k * 3]? = some (int i64 x.1) ∧ (idCells l)[k * 3 + 1]? = some (int i64 x.2.1) ∧ (idCells l)[k * 3 + 2]? = some (int i64 x.2.2) := by
  intro l
  induction l with
  | nil => intro k x hx; cases hx
  | cons y l ih =>
    intro k x hx
    cases k with
    | zero => simp at hx; subst hx; simp [idCells]
    | succ k =>
      obtain ⟨h1, h2, h3⟩ := ih k x (by simpa using hx)
      have e : idCells (y :: l) = int i64 y.1 :: int i64 y.2.1 :: int i64 y.2.2 :: idCells l := by simp [idCells]
      rw [e, show (k + 1) * 3 = k * 3 + 1 + 1 + 1 by omega]
      exact ⟨by simpa using h1, by simpa using h2, by simpa using h3⟩
 obtain ⟨_, ⟨hv, h0⟩ | ⟨blk, off, cap, cur, rfl, hb, hn, hc, hsz, hr⟩⟩ := h.sl
 · exact ⟨none, 0, by rw [hv, h0], by omega, fun k x hx => by have := (List.getElem?_eq_some_iff.1 hx).1; omega⟩
 · refine ⟨_, cap, rfl, by omega, fun k x hx => ⟨blk, off, rfl, hn, ?_⟩⟩
   obtain ⟨h1, h2, h3⟩ := key l k x hx
   have r1 := hr _ _ h1
   have r2 := hr _ _ h2
   have r3 := hr _ _ h3
   rw [show off + (k * 3 + 1) = off + k * 3 + 1 by omega] at r2
   rw [show off + (k * 3 + 2) = off + k * 3 + 2 by omega] at r3
   exact ⟨by simp [World.cell?, hb, r1], by simp [World.cell?, hb, r2], by simp [World.cell?, hb, r3]⟩
section
section
variable (w : World) (d : DLay) (c : Cfg) (D : Dk) (h : DeskAt w d c D)
include h
theorem dreserve_any (k i : Int) : Calls prog 45 #[.pointer (some ⟨d.p, 0, none⟩), int i64 k, int i64 i] w fun e w' => e = .returned (int i64 (reservedF D k i).1) ∧ DStp w d c w' (reservedF D k i).2 := by
 have c1 := h.cell 1
 simp [deskC] at c1
 have HR := hid (reserve_any w d.L D.M k i h.pool)
 have HP := hid (fun w' (hs : Stp w d.L w' (reserveF D.M k i).2) => DStp.pool h hs)
 clear h
 go_enter Tryz.func45, Tryz.ntmps45
 go_wp2_with (go_at_call 88; refine HR.out.mono ?_; rintro e w' ⟨rfl, hs⟩)
 go_ret
 exact ⟨rfl, HP.out _ hs⟩
theorem dtick_any : Calls prog 75 #[.pointer (some ⟨d.p, 0, none⟩)] w fun e w' => e = .returned (.tuple #[int i64 D.t, .bool D.op]) ∧ Below w.heap.size w w' := by
 have c3 := h.cell 3
 have c4 := h.cell 4
 simp [deskC] at c3 c4
 have hlt := lt_of_heap h.box
 clear h
 go_enter Tryz.func75, Tryz.ntmps75
 go_wp2_with fail
 refine wpm ?_
 repeat (go_big_quiet_step (fail))
 refine wpQuiet_nil ?_
 rintro _ ⟨pn, rfl⟩
 go_wp2_with fail
 go_ret2
 exact ⟨rfl, bg⟩
theorem dalive_any : Calls prog 64 #[.pointer (some ⟨d.p, 0, none⟩)] w fun e w' => ∃ v, e = .returned v ∧ ListAt w w' v (listF D.M) := by
 have c1 := h.cell 1
 simp [deskC] at c1
 have HR := hid (list_any w d.L D.M h.pool)
 clear h
 go_enter Tryz.func64, Tryz.ntmps64
 go_wp2_with (go_at_call 109; refine HR.out.mono ?_; rintro e w' ⟨v, rfl, hl⟩)
 go_ret
 exact ⟨_, rfl, hl⟩
theorem DeskAt.qc (ho : CfgOk c) : D.q.length ≤ 64 := by have := h.qn; have := ho.q1; omega
theorem dwaiting_any (ho : CfgOk c) : Calls prog 47 #[.pointer (some ⟨d.p, 0, none⟩)] w fun e w' => ∃ v, e = .returned v ∧ RNew cmC 34 16 w w' v D.q := by
 have c2 := h.cell 2
 simp [deskC] at c2
 have HR := hid (cloneCm_any d.qv D.q w (RIn.of_sl h.q) (by have := h.qc _ _ _ _ ho; omega))
 obtain ⟨p, cap, hv⟩ := sl_frm h.q
 rw [hv] at c2 HR
 clear h hv
 go_enter Tryz.func47, Tryz.ntmps47
 go_wp2_with fail
 refine HR.out.mono ?_
 rintro e w' ⟨v, rfl, hl⟩
 go_wp2_with fail
 go_ret
 exact ⟨_, rfl, hl⟩
theorem dwaits_any (s i g : Int) : Calls prog 85 #[.pointer (some ⟨d.p, 0, none⟩), .agg #[int i64 s, int i64 i, int i64 g]] w fun e w' => e = .returned (.bool (endsF D.q s i g)) ∧ Below w.heap.size w w' := by
 have c2 := h.cell 2
 simp [deskC] at c2
 have hlt := lt_of_heap h.box
 have HR := hid (fun W (hW : Below w.heap.size w W) B a1 a2 a3 a4 => contCm_any s i g D.q d.qv B W (RIn.of_sl (h.q.keep fun g hg => hW.block g (sl_lt h.q hg))) a1 a2 a3 a4)
 obtain ⟨p, cap, hv⟩ := sl_frm h.q
 rw [hv] at c2 HR
 obtain ⟨z0, z1, z2⟩ := ltz hlt
 clear h hv
 go_enter Tryz.func85, Tryz.ntmps85
 go_wp2_with fail
 refine (HR.out _ bg _ (by first | (simp; done) | (simp; omega)) (by simp [go_sem]) (by simp [go_sem]) (by simp [go_sem])).mono ?_
 rintro e w' ⟨rfl, hb⟩
 obtain ⟨d, os, rfl⟩ := more_of hb; clear hb
 go_wp2_with fail
 go_ret
 exact ⟨rfl, bg⟩
end
end
theorem check_any (s i g m x y vx vy hp pw lf : Int) (w : World) :
 Calls prog 121 #[.agg #[int i64 s, int i64 i, int i64 g, int i64 m, int i64 x, int i64 y, int i64 vx, int i64 vy, int i64 hp, int i64 pw, int i64 lf]] w fun e w' => e = .returned (int i64 (errB (checkB ⟨s, i, g, m, x, y, vx, vy, hp, pw, lf⟩))) ∧ Below w.heap.size w w' := by
 generalize hr : errB _ = r
 unfold checkB at hr
 have HR := hid hr
 clear hr
 go_enter Tryz.func121, Tryz.ntmps121
 go_wp2_with (first
  | (go_at_call 123; refine (right_any _ _ _ _ _ _ _ _ _ _ _ _).mono ?_; rintro e w1 ⟨rfl, hb⟩; obtain ⟨⟨hB1, hs1, hl1⟩, hc1⟩ := box_keep hb (box_new0 w _ _); clear hb)
  | (go_at_call 136; refine (has_any _ _ _ _ _ _ _ _ _ _ _ _ _).mono ?_; rintro e w2 ⟨rfl, hb⟩; obtain ⟨⟨hB2, hs2, hl2⟩, hc2⟩ := box_keep hb ⟨⟨hB1, hs1, hl1⟩, hc1⟩; clear hb hB1 hs1 hl1 hc1)
  | (go_at_call 120; refine (checkID_any _ _ _ _).mono ?_; rintro e w3 ⟨rfl, hb⟩; obtain ⟨⟨hB3, hs3, hl3⟩, hc3⟩ := box_keep hb ⟨⟨hB2, hs2, hl2⟩, hc2⟩; clear hb hB2 hs2 hl2 hc2))
 all_goals go_ret
 all_goals refine ⟨?_, by assumption⟩
 all_goals go_tidy
 all_goals (have h := HR.out; rw [← h]; simp_all [errB])
theorem checkCmd_any (k s i g es ei eg m x y vx vy hp pw lf mask : Int) (w : World) :
 Calls prog 82 #[.agg #[int i64 k, int i64 s, int i64 i, int i64 g, int i64 es, int i64 ei, int i64 eg, int i64 m, int i64 x, int i64 y, int i64 vx, int i64 vy, int i64 hp, int i64 pw, int i64 lf, int i64 mask]] w fun e w' => e = .returned (int i64 (errB (cmdB ⟨k, s, i, g, ⟨es, ei, eg, m, x, y, vx, vy, hp, pw, lf⟩, mask⟩))) ∧ Below w.heap.size w w' := by
 generalize hr : errB _ = r
 unfold cmdB at hr
 dsimp only at hr
 have HR := hid hr
 clear hr
 go_enter Tryz.func82, Tryz.ntmps82
 go_wp2_with (first
  | (go_at_call 120; refine (checkID_any _ _ _ _).mono ?_; rintro e w1 ⟨rfl, hb⟩; obtain ⟨⟨hB1, hs1, hl1⟩, hc1⟩ := box_keep hb (box_new0 w _ _); clear hb)
  | (go_at_call 123; refine (right_any _ _ _ _ _ _ _ _ _ _ _ _).mono ?_; rintro e w2 ⟨rfl, hb⟩; obtain ⟨⟨hB2, hs2, hl2⟩, hc2⟩ := box_keep hb ⟨⟨hB1, hs1, hl1⟩, hc1⟩; clear hb hB1 hs1 hl1 hc1)
  | (go_at_call 121; refine (check_any _ _ _ _ _ _ _ _ _ _ _ _).mono ?_; rintro e w2 ⟨rfl, hb⟩; obtain ⟨⟨hB2, hs2, hl2⟩, hc2⟩ := box_keep hb ⟨⟨hB1, hs1, hl1⟩, hc1⟩; clear hb hB1 hs1 hl1 hc1)
  | (go_at_call 122; refine eqA (some_any _ _) ?_))
 all_goals go_ret
 all_goals refine ⟨?_, by assumption⟩
 all_goals go_tidy
 all_goals (have h := HR.out; rw [← h]; simp_all [errB, idZero, bunZero])
theorem rRight_any (s i g m x y vx vy hp pw lf : Int) (w : World) (hm0 : -9223372036854775808 ≤ m) (hm1 : m ≤ 9223372036854775807) :
 Calls prog 40 #[.agg #[int i64 s, int i64 i, int i64 g, int i64 m, int i64 x, int i64 y, int i64 vx, int i64 vy, int i64 hp, int i64 pw, int i64 lf]] w fun e w' => e = .returned (.bool (rRightB ⟨s, i, g, m, x, y, vx, vy, hp, pw, lf⟩)) ∧ Below w.heap.size w w' := by
 generalize hr : rRightB _ = r
 unfold rRightB at hr
 have HR := hid hr
 clear hr
 by_cases hm : 0 ≤ m ∧ m ≤ 31
 · obtain ⟨hm0, hm1⟩ := hm
   go_enter Tryz.func40, Tryz.ntmps40
   go_wp2_with fail
   by_cases h1 : withinB (tb m 1) x (-1073741824) 1073741824 = true
   · go_quiet ((first | (go_at_call 41; exact quiet_same (bit_any _ _ _ (by omega) (by omega) (by omega))) | (go_at_call 76; exact quiet_same (rIn_any _ _ _ _ _))))
     go_wp2_with fail
     · all_goals (go_ret; refine ⟨?_, bg⟩; go_tidy; (have h := HR.out; rw [← h]; simp_all [inR]))
     · by_cases h2 : withinB (tb m 2) vx (-1073741824) 1073741824 = true
       · go_quiet ((first | (go_at_call 41; exact quiet_add_left (bit_any _ _ _ (by omega) (by omega) (by omega))) | (go_at_call 76; exact quiet_add_left (rIn_any _ _ _ _ _))))
         go_wp2_with fail
         · all_goals (go_ret; refine ⟨?_, bg⟩; go_tidy; (have h := HR.out; rw [← h]; simp_all [inR]))
         · by_cases h3 : withinB (tb m 4) hp 1 1048576 = true
           · by_cases h4 : withinB (tb m 8) pw 0 1024 = true
             · go_quiet ((first | (go_at_call 41; exact quiet_add_left (bit_any _ _ _ (by omega) (by omega) (by omega))) | (go_at_call 76; exact quiet_add_left (rIn_any _ _ _ _ _))))
               go_wp2_with fail
               all_goals (go_ret; refine ⟨?_, bg⟩; go_tidy; (have h := HR.out; rw [← h]; simp_all [inR]))
             · rw [Bool.not_eq_true] at h4
               go_quiet ((first | (go_at_call 41; exact quiet_add_left (bit_any _ _ _ (by omega) (by omega) (by omega))) | (go_at_call 76; exact quiet_add_left (rIn_any _ _ _ _ _))))
               go_wp2_with fail
               all_goals (go_ret; refine ⟨?_, bg⟩; go_tidy; (have h := HR.out; rw [← h]; simp_all [inR]))
           · rw [Bool.not_eq_true] at h3
             go_quiet ((first | (go_at_call 41; exact quiet_add_left (bit_any _ _ _ (by omega) (by omega) (by omega))) | (go_at_call 76; exact quiet_add_left (rIn_any _ _ _ _ _))))
             go_wp2_with fail
             all_goals (go_ret; refine ⟨?_, bg⟩; go_tidy; (have h := HR.out; rw [← h]; simp_all [inR]))
       · rw [Bool.not_eq_true] at h2
         go_quiet ((first | (go_at_call 41; exact quiet_add_left (bit_any _ _ _ (by omega) (by omega) (by omega))) | (go_at_call 76; exact quiet_add_left (rIn_any _ _ _ _ _))))
         go_wp2_with fail
         all_goals (go_ret; refine ⟨?_, bg⟩; go_tidy; (have h := HR.out; rw [← h]; simp_all [inR]))
   · rw [Bool.not_eq_true] at h1
     go_quiet ((first | (go_at_call 41; exact quiet_same (bit_any _ _ _ (by omega) (by omega) (by omega))) | (go_at_call 76; exact quiet_same (rIn_any _ _ _ _ _))))
     go_wp2_with fail
     all_goals (go_ret; refine ⟨?_, bg⟩; go_tidy; (have h := HR.out; rw [← h]; simp_all [inR]))
 · go_enter Tryz.func40, Tryz.ntmps40
   go_wp2_with fail
   all_goals go_ret
   all_goals refine ⟨?_, by go_grown⟩
   all_goals go_tidy
   all_goals (have h := HR.out; rw [← h]; simp [inR]; omega)
theorem rMay_any (s i g m x y vx vy hp pw lf : Int) (w : World) (hm0 : -9223372036854775808 ≤ m) (hm1 : m ≤ 9223372036854775807) :
 Calls prog 14 #[.agg #[int i64 s, int i64 i, int i64 g, int i64 m, int i64 x, int i64 y, int i64 vx, int i64 vy, int i64 hp, int i64 pw, int i64 lf]] w fun e w' => e = .returned (.bool (rMayB ⟨s, i, g, m, x, y, vx, vy, hp, pw, lf⟩)) ∧ Below w.heap.size w w' := by
 generalize hr : rMayB _ = r
 unfold rMayB at hr
 dsimp only at hr
 have HR := hid hr
 clear hr
 go_enter Tryz.func14, Tryz.ntmps14
 go_wp2_with (first
  | (go_at_call 39; refine (rRightID_any _ _ _ _).mono ?_; rintro e w1 ⟨rfl, hb⟩; obtain ⟨⟨hB1, hs1, hl1⟩, hc1⟩ := box_keep hb (box_new0 w _ _); clear hb)
  | (go_at_call 40; refine (rRight_any _ _ _ _ _ _ _ _ _ _ _ _ (by omega) (by omega)).mono ?_; rintro e w2 ⟨rfl, hb⟩; obtain ⟨⟨hB2, hs2, hl2⟩, hc2⟩ := box_keep hb ⟨⟨hB1, hs1, hl1⟩, hc1⟩; clear hb hB1 hs1 hl1 hc1)
  | (go_at_call 41; refine (bit_any _ _ _ (by omega) (by omega) (by omega)).mono ?_; rintro e w3 ⟨rfl, rfl⟩))
 all_goals (go_ret; refine ⟨?_, by assumption⟩; go_tidy; (have h := HR.out; rw [← h]; simp_all))
theorem rMayCmd_any (k s i g es ei eg m x y vx vy hp pw lf mask : Int) (w : World) (hm0 : -9223372036854775808 ≤ m) (hm1 : m ≤ 9223372036854775807) :
 Calls prog 112 #[.agg #[int i64 k, int i64 s, int i64 i, int i64 g, int i64 es, int i64 ei, int i64 eg, int i64 m, int i64 x, int i64 y, int i64 vx, int i64 vy, int i64 hp, int i64 pw, int i64 lf, int i64 mask]] w fun e w' => e = .returned (.bool (rCmdB ⟨k, s, i, g, ⟨es, ei, eg, m, x, y, vx, vy, hp, pw, lf⟩, mask⟩)) ∧ Below w.heap.size w w' := by
 generalize hr : rCmdB _ = r
 unfold rCmdB at hr
 dsimp only at hr
 have HR := hid hr
 clear hr
 go_enter Tryz.func112, Tryz.ntmps112
 go_wp2_with (first
  | (go_at_call 39; refine (rRightID_any _ _ _ _).mono ?_; rintro e w1 ⟨rfl, hb⟩; obtain ⟨⟨hB1, hs1, hl1⟩, hc1⟩ := box_keep hb (box_new0 w _ _); clear hb)
  | (go_at_call 40; refine (rRight_any _ _ _ _ _ _ _ _ _ _ _ _ (by omega) (by omega)).mono ?_; rintro e w2 ⟨rfl, hb⟩; obtain ⟨⟨hB2, hs2, hl2⟩, hc2⟩ := box_keep hb ⟨⟨hB1, hs1, hl1⟩, hc1⟩; clear hb hB1 hs1 hl1 hc1)
  | (go_at_call 14; refine (rMay_any _ _ _ _ _ _ _ _ _ _ _ _ (by omega) (by omega)).mono ?_; rintro e w2 ⟨rfl, hb⟩; obtain ⟨⟨hB2, hs2, hl2⟩, hc2⟩ := box_keep hb (box_new0 w _ _); clear hb)
  | (go_at_call 147; refine eqA (rTakes_any _ _) ?_))
 all_goals (go_ret; refine ⟨?_, by first | assumption | go_grown⟩; go_tidy; (have h := HR.out; clear HR; subst h; simp_all [idZero, bunZero]))
def cmEq (a b : Cm) : Bool := a.k == b.k && idEq a.s a.i a.g b.s b.i b.g && bunEq a.b b.b && a.mask == b.mask
theorem cmEq_iff (a a2 : Cm) : cmEq a a2 = true ↔ a = a2 := by
 obtain ⟨k, s, i, g, b, mask⟩ := a
 obtain ⟨k', s', i', g', b', mask'⟩ := a2
 simp [cmEq, idEq, bunEq, and_assoc]
theorem cmEq_self (a : Cm) : cmEq a a = true := (cmEq_iff a a).2 rfl
@[go_sem high] theorem run_eql_cm (k s i g es ei eg m x y vx vy hp pw lf mask k' s' i' g' es' ei' eg' m' x' y' vx' vy' hp' pw' lf' mask' : Int) (W : World) :
 (binOp .eql 34 (.agg #[int i64 k, int i64 s, int i64 i, int i64 g, int i64 es, int i64 ei, int i64 eg, int i64 m, int i64 x, int i64 y, int i64 vx, int i64 vy, int i64 hp, int i64 pw, int i64 lf, int i64 mask]) (.agg #[int i64 k', int i64 s', int i64 i', int i64 g', int i64 es', int i64 ei', int i64 eg', int i64 m', int i64 x', int i64 y', int i64 vx', int i64 vy', int i64 hp', int i64 pw', int i64 lf', int i64 mask'])).run prog W = .ok (.bool (cmEq ⟨k, s, i, g, ⟨es, ei, eg, m, x, y, vx, vy, hp, pw, lf⟩, mask⟩ ⟨k', s', i', g', ⟨es', ei', eg', m', x', y', vx', vy', hp', pw', lf'⟩, mask'⟩)) W := by
 rw [run_eql_struct]
 by_cases h0 : k = k'
 · by_cases h1 : s = s'
   · by_cases h2 : i = i'
     · by_cases h3 : g = g'
       · by_cases h4 : es = es'
         · by_cases h5 : ei = ei'
           · by_cases h6 : eg = eg'
             · by_cases h7 : m = m'
               · by_cases h8 : x = x'
                 · by_cases h9 : y = y'
                   · by_cases h10 : vx = vx'
                     · by_cases h11 : vy = vy'
                       · by_cases h12 : hp = hp'
                         · by_cases h13 : pw = pw'
                           · by_cases h14 : lf = lf'
                             · by_cases h15 : mask = mask'
                               · simp [go_sem, cmEq, idEq, bunEq, h0, h1, h2, h3, h4, h5, h6, h7, h8, h9, h10, h11, h12, h13, h14, h15]
                               · simp [go_sem, cmEq, idEq, bunEq, h0, h1, h2, h3, h4, h5, h6, h7, h8, h9, h10, h11, h12, h13, h14, h15]
                             · simp [go_sem, cmEq, idEq, bunEq, h0, h1, h2, h3, h4, h5, h6, h7, h8, h9, h10, h11, h12, h13, h14]
                           · simp [go_sem, cmEq, idEq, bunEq, h0, h1, h2, h3, h4, h5, h6, h7, h8, h9, h10, h11, h12, h13]
                         · simp [go_sem, cmEq, idEq, bunEq, h0, h1, h2, h3, h4, h5, h6, h7, h8, h9, h10, h11, h12]
                       · simp [go_sem, cmEq, idEq, bunEq, h0, h1, h2, h3, h4, h5, h6, h7, h8, h9, h10, h11]
                     · simp [go_sem, cmEq, idEq, bunEq, h0, h1, h2, h3, h4, h5, h6, h7, h8, h9, h10]
                   · simp [go_sem, cmEq, idEq, bunEq, h0, h1, h2, h3, h4, h5, h6, h7, h8, h9]
                 · simp [go_sem, cmEq, idEq, bunEq, h0, h1, h2, h3, h4, h5, h6, h7, h8]
               · simp [go_sem, cmEq, idEq, bunEq, h0, h1, h2, h3, h4, h5, h6, h7]
             · simp [go_sem, cmEq, idEq, bunEq, h0, h1, h2, h3, h4, h5, h6]
           · simp [go_sem, cmEq, idEq, bunEq, h0, h1, h2, h3, h4, h5]
         · simp [go_sem, cmEq, idEq, bunEq, h0, h1, h2, h3, h4]
       · simp [go_sem, cmEq, idEq, bunEq, h0, h1, h2, h3]
     · simp [go_sem, cmEq, idEq, bunEq, h0, h1, h2]
   · simp [go_sem, cmEq, idEq, bunEq, h0, h1]
 · simp [go_sem, cmEq, idEq, bunEq, h0]
@[go_sem high] theorem run_neq_cm (k s i g es ei eg m x y vx vy hp pw lf mask k' s' i' g' es' ei' eg' m' x' y' vx' vy' hp' pw' lf' mask' : Int) (W : World) :
 (binOp .neq 34 (.agg #[int i64 k, int i64 s, int i64 i, int i64 g, int i64 es, int i64 ei, int i64 eg, int i64 m, int i64 x, int i64 y, int i64 vx, int i64 vy, int i64 hp, int i64 pw, int i64 lf, int i64 mask]) (.agg #[int i64 k', int i64 s', int i64 i', int i64 g', int i64 es', int i64 ei', int i64 eg', int i64 m', int i64 x', int i64 y', int i64 vx', int i64 vy', int i64 hp', int i64 pw', int i64 lf', int i64 mask'])).run prog W = .ok (.bool (!(cmEq ⟨k, s, i, g, ⟨es, ei, eg, m, x, y, vx, vy, hp, pw, lf⟩, mask⟩ ⟨k', s', i', g', ⟨es', ei', eg', m', x', y', vx', vy', hp', pw', lf'⟩, mask'⟩))) W := by
 have h := run_eql_cm k s i g es ei eg m x y vx vy hp pw lf mask k' s' i' g' es' ei' eg' m' x' y' vx' vy' hp' pw' lf' mask' W
 rw [run_eql_struct] at h
 rw [run_neq_struct]
 generalize (Op.equalIn _ _ _ _).run prog W = r at *
 cases r with
 | ok b w => simp only [Result.andThen_ok] at *; cases b <;> simp_all
 | halt x w => simp [Result.andThen] at h
theorem rMayCmd_m (m : Cm) (w : World) (hm : (-9223372036854775808 ≤ m.b.m ∧ m.b.m ≤ 9223372036854775807)) : Calls prog 112 #[.agg (cmC m).toArray] w fun e w' => e = .returned (.bool (cmdB m)) ∧ Below w.heap.size w w' := by
 obtain ⟨k, s, i, g, ⟨es, ei, eg, m, x, y, vx, vy, hp, pw, lf⟩, mask⟩ := m
 have h := rMayCmd_any k s i g es ei eg m x y vx vy hp pw lf mask w hm.1 hm.2
 rw [cmdB_eq] at h
 exact h
def ldM (a : Addr) : Sem Value := loadVar 34 a
def stM (a : Addr) (v : Value) : Sem Unit := storeVar 34 a v
theorem loadVar_ldM (a : Addr) : loadVar 34 a = ldM a := rfl
theorem storeVar_stM (a : Addr) (v : Value) : storeVar 34 a v = stM a v := rfl
theorem ldM_of {W : World} {b o : Nat} (m : Cm) (h : ∀ j v, (cmC m)[j]? = some v → W.cell? ⟨b, o + j, none⟩ = some v) : (ldM ⟨b, o, none⟩).run prog W = .ok (.agg (cmC m).toArray) W := by
 have h1 := Go.Proofs.run_loadCellsFrom_list prog W ⟨b, o, none⟩ (cmC m) 16 rfl (fun j v hj => by rw [Addr.add_lit]; exact h j v hj)
 simp [ldM, loadVar, loadCells, h1]
theorem stM_of {W W' : World} {a : Addr} (m : Cm) (h : Sem.run prog (storeCells a (cmC m) 0) W = .ok () W') : (stM a (.agg (cmC m).toArray)).run prog W = .ok () W' := by
 simp [stM, storeVar, Value.cells, cmC_len, h]
theorem more_setCells (b : Nat) (d : Nat) (os : Array Obj) : ∀ (vs : List Value) (o : Nat) (W : World), b < W.heap.size → (more W d os).setCells b o vs = more (W.setCells b o vs) d os
 | [], _, _, _ => rfl
 | v :: r, o, W, h => by
   rw [World.setCells, World.setCells, more_setCell _ _ _ _ _ h, more_setCells b d os r _ _ (by simpa [World.setCell] using h)]
theorem size_setCells (b : Nat) : ∀ (vs : List Value) (o : Nat) (W : World), (W.setCells b o vs).heap.size = W.heap.size
 | [], _, _ => rfl
 | v :: r, o, W => by rw [World.setCells, size_setCells b r]; simp [World.setCell]
theorem ld_box {W : World} {b : Nat} (m : Cm) (hb : b < W.heap.size) (h : ∀ j, W.cell? ⟨b, j, none⟩ = (cmC m)[j]?) (d : Nat) (os : Array Obj) : (ldM ⟨b, 0, none⟩).run prog (more W d os) = .ok (.agg (cmC m).toArray) (more W d os) :=
 ldM_of m fun j v hj => by rw [Nat.zero_add, more_cell _ _ _ _ hb, h j, hj]
theorem ld_box0 {W : World} {b : Nat} (m : Cm) (h : ∀ j, W.cell? ⟨b, j, none⟩ = (cmC m)[j]?) : (ldM ⟨b, 0, none⟩).run prog W = .ok (.agg (cmC m).toArray) W :=
 ldM_of m fun j v hj => by rw [Nat.zero_add, h j, hj]
theorem st_box (V : World) (b : Nat) (h16 : ∀ j, j < 16 → (V.cell? ⟨b, j, none⟩).isSome = true) (hf : ∀ j, V.frozen? ⟨b, j, none⟩ = false) (hb : b < V.heap.size) (m : Cm) :
 ∃ V2, (∀ d os, (stM ⟨b, 0, none⟩ (.agg (cmC m).toArray)).run prog (more V d os) = .ok () (more V2 d os)) ∧ (stM ⟨b, 0, none⟩ (.agg (cmC m).toArray)).run prog V = .ok () V2 ∧ (∀ j v, (cmC m)[j]? = some v → V2.cell? ⟨b, j, none⟩ = some v) ∧ V2.heap.size = V.heap.size ∧ Turned V V2 (some b) := by
 have key : ∀ W : World, (∀ j, j < 16 → (W.cell? ⟨b, j, none⟩).isSome = true) → (∀ j, W.frozen? ⟨b, j, none⟩ = false) → (stM ⟨b, 0, none⟩ (.agg (cmC m).toArray)).run prog W = .ok () (W.setCells b 0 (cmC m)) := fun W hw hv => by
  have h := Go.run_storeCells_cells (P := prog) b 0 (cmC m) 0 W (fun j hj => by rw [show 0 + 0 + j = j by omega]; exact hw j hj) (fun j _ => hv _) (cmC_one m)
  exact stM_of m (by simpa using h)
 have hin := World.cell?_setCells_in b (cmC m) 0 V fun j hj => by rw [Nat.zero_add]; exact h16 j hj
 refine ⟨V.setCells b 0 (cmC m), fun d os => ?_, key V h16 hf, fun j v hj => ?_, size_setCells _ _ _ _, setCells_turned _ _ _ _⟩
 · rw [key _ (fun j hj => by rw [more_cell _ _ _ _ hb]; exact h16 j hj) (fun j => by rw [more_frozen _ _ _ _ hb]; exact hf j), more_setCells _ _ _ _ _ _ hb]
 · have hlt := (List.getElem?_eq_some_iff.1 hj).1
   have := hin j hlt
   rw [Nat.zero_add] at this
   rw [this, ← hj, List.getElem?_eq_getElem hlt]
theorem ld_more {W : World} {b : Nat} {m : Cm} (h : ∀ j v, (cmC m)[j]? = some v → W.cell? ⟨b, j, none⟩ = some v) (hb : b < W.heap.size) (d : Nat) (os : Array Obj) : (ldM ⟨b, 0, none⟩).run prog (more W d os) = .ok (.agg (cmC m).toArray) (more W d os) :=
 ldM_of m fun j v hj => by rw [Nat.zero_add, more_cell _ _ _ _ hb]; exact h j v hj
theorem results_cm {fn : Func} {a b c : Tmp} {tmps : Array Value} {W : World} {ad : Addr} {v vb vc : Value} (h : fn.results = #[.cell a 34, .tmp b, .tmp c]) (ha : tmps.getD a undef = .pointer (some ad)) (hb : tmps.getD b undef = vb) (hc : tmps.getD c undef = vc) (hl : (ldM ad).run prog W = .ok v W) :
 (results fn tmps).run prog W = .ok (.tuple #[v, vb, vc]) W := by
 unfold results
 rw [h]
 simp only [List.mapM_toArray, List.mapM_cons, List.mapM_nil, ha, hb, hc, loadVar_ldM]
 simp [asAddr, hl, go_sem]
theorem belC {P : Program} {f : FuncId} {args : Array Value} {w : World} {v : Value} {R : Ending → World → Prop} (h : Calls P f args w fun e w' => e = .returned v ∧ Below w.heap.size w w') (hR : ∀ d os, R (.returned v) (more w d os)) : Calls P f args w R :=
 h.mono fun e w' ⟨he, hb⟩ => by
  obtain ⟨d, os, rfl⟩ := more_of hb
  rw [he]; exact hR d os
theorem ld_boxL {w1 : World} {b : Nat} {k s i g es ei eg m x y vx vy hp pw lf mask : Int} (hb : b < w1.heap.size) (k0 : ∀ j, w1.cell? ⟨b, j, none⟩ = (#[int i64 k, int i64 s, int i64 i, int i64 g, int i64 es, int i64 ei, int i64 eg, int i64 m, int i64 x, int i64 y, int i64 vx, int i64 vy, int i64 hp, int i64 pw, int i64 lf, int i64 mask] : Array Value)[j]?) :
 (∀ d os, (ldM ⟨b, 0, none⟩).run prog (more w1 d os) = .ok (.agg #[int i64 k, int i64 s, int i64 i, int i64 g, int i64 es, int i64 ei, int i64 eg, int i64 m, int i64 x, int i64 y, int i64 vx, int i64 vy, int i64 hp, int i64 pw, int i64 lf, int i64 mask]) (more w1 d os)) ∧ (ldM ⟨b, 0, none⟩).run prog w1 = .ok (.agg #[int i64 k, int i64 s, int i64 i, int i64 g, int i64 es, int i64 ei, int i64 eg, int i64 m, int i64 x, int i64 y, int i64 vx, int i64 vy, int i64 hp, int i64 pw, int i64 lf, int i64 mask]) w1 :=
 ⟨fun d os => ld_box ⟨k, s, i, g, ⟨es, ei, eg, m, x, y, vx, vy, hp, pw, lf⟩, mask⟩ hb (fun j => by rw [k0 j, List.getElem?_toArray]; rfl) d os, ld_box0 ⟨k, s, i, g, ⟨es, ei, eg, m, x, y, vx, vy, hp, pw, lf⟩, mask⟩ (fun j => by rw [k0 j, List.getElem?_toArray]; rfl)⟩
theorem ld_moreZ {W : World} {b : Nat} (h : ∀ j v, (cmC ⟨0, 0, 0, 0, ⟨0, 0, 0, 0, 0, 0, 0, 0, 0, 0, 0⟩, 0⟩)[j]? = some v → W.cell? ⟨b, j, none⟩ = some v) (hb : b < W.heap.size) : ∀ d os, (ldM ⟨b, 0, none⟩).run prog (more W d os) = .ok (.agg #[int i64 0, int i64 0, int i64 0, int i64 0, int i64 0, int i64 0, int i64 0, int i64 0, int i64 0, int i64 0, int i64 0, int i64 0, int i64 0, int i64 0, int i64 0, int i64 0]) (more W d os) := fun d os => ld_more (m := ⟨0, 0, 0, 0, ⟨0, 0, 0, 0, 0, 0, 0, 0, 0, 0, 0⟩, 0⟩) h hb d os
theorem st_boxZ {w1 : World} {b : Nat} (k1 : ∀ j, w1.cell? ⟨b, j, none⟩ = (#[int i64 0, int i64 0, int i64 0, int i64 0, int i64 0, int i64 0, int i64 0, int i64 0, int i64 0, int i64 0, int i64 0, int i64 0, int i64 0, int i64 0, int i64 0, int i64 0] : Array Value)[j]?) (g1 : ∀ j, w1.frozen? ⟨b, j, none⟩ = false) (s7 : b < w1.heap.size) :
 ∃ w2, (∀ d os, (stM ⟨b, 0, none⟩ (.agg #[int i64 0, int i64 0, int i64 0, int i64 0, int i64 0, int i64 0, int i64 0, int i64 0, int i64 0, int i64 0, int i64 0, int i64 0, int i64 0, int i64 0, int i64 0, int i64 0])).run prog (more w1 d os) = .ok () (more w2 d os)) ∧ (∀ j v, (cmC ⟨0, 0, 0, 0, ⟨0, 0, 0, 0, 0, 0, 0, 0, 0, 0, 0⟩, 0⟩)[j]? = some v → w2.cell? ⟨b, j, none⟩ = some v) ∧ w2.heap.size = w1.heap.size ∧ Turned w1 w2 (some b) := by
 obtain ⟨w2, hS, _, hq, h⟩ := st_box w1 b (fun j hj => by rw [k1 j, Array.getElem?_eq_getElem (by simpa using hj)]; rfl) g1 s7 ⟨0, 0, 0, 0, ⟨0, 0, 0, 0, 0, 0, 0, 0, 0, 0, 0⟩, 0⟩
 exact ⟨w2, hS, hq, h⟩
theorem one_boxC (W : World) (k s i g es ei eg m x y vx vy hp pw lf mask : Int) (T : TypeId) : ∃ w1, w1 = W.alloc (.cells #[int i64 k, int i64 s, int i64 i, int i64 g, int i64 es, int i64 ei, int i64 eg, int i64 m, int i64 x, int i64 y, int i64 vx, int i64 vy, int i64 hp, int i64 pw, int i64 lf, int i64 mask] T) ∧ (∀ u, w1.cell? ⟨W.heap.size, u, none⟩ = (#[int i64 k, int i64 s, int i64 i, int i64 g, int i64 es, int i64 ei, int i64 eg, int i64 m, int i64 x, int i64 y, int i64 vx, int i64 vy, int i64 hp, int i64 pw, int i64 lf, int i64 mask] : Array Value)[u]?) ∧ Below W.heap.size W w1 ∧ (∀ u, w1.frozen? ⟨W.heap.size, u, none⟩ = false) ∧ w1.heap.size = W.heap.size + 1 := one_box W _ T
theorem two_boxesC (W : World) (k s i g es ei eg m x y vx vy hp pw lf mask : Int) (T : TypeId) : ∃ w1, w1 = (W.alloc (.cells #[int i64 k, int i64 s, int i64 i, int i64 g, int i64 es, int i64 ei, int i64 eg, int i64 m, int i64 x, int i64 y, int i64 vx, int i64 vy, int i64 hp, int i64 pw, int i64 lf, int i64 mask] T)).alloc (.cells #[int i64 0, int i64 0, int i64 0, int i64 0, int i64 0, int i64 0, int i64 0, int i64 0, int i64 0, int i64 0, int i64 0, int i64 0, int i64 0, int i64 0, int i64 0, int i64 0] T) ∧ Below W.heap.size W w1 ∧ (∀ u, w1.cell? ⟨W.heap.size, u, none⟩ = (#[int i64 k, int i64 s, int i64 i, int i64 g, int i64 es, int i64 ei, int i64 eg, int i64 m, int i64 x, int i64 y, int i64 vx, int i64 vy, int i64 hp, int i64 pw, int i64 lf, int i64 mask] : Array Value)[u]?) ∧ (∀ u, w1.cell? ⟨W.heap.size + 1, u, none⟩ = (#[int i64 0, int i64 0, int i64 0, int i64 0, int i64 0, int i64 0, int i64 0, int i64 0, int i64 0, int i64 0, int i64 0, int i64 0, int i64 0, int i64 0, int i64 0, int i64 0] : Array Value)[u]?) ∧
 (∀ u, w1.frozen? ⟨W.heap.size, u, none⟩ = false) ∧ (∀ u, w1.frozen? ⟨W.heap.size + 1, u, none⟩ = false) ∧ w1.heap.size = W.heap.size + 1 + 1 := two_boxes W _ _ T T
theorem cells9 {V : World} {b : Nat} {k s i g es ei eg m x y vx vy hp pw lf mask : Int} (h : ∀ j, V.cell? ⟨b, j, none⟩ = (#[int i64 k, int i64 s, int i64 i, int i64 g, int i64 es, int i64 ei, int i64 eg, int i64 m, int i64 x, int i64 y, int i64 vx, int i64 vy, int i64 hp, int i64 pw, int i64 lf, int i64 mask] : Array Value)[j]?) :
 V.cell? ⟨b, 0, none⟩ = some (int i64 k) ∧ V.cell? ⟨b, 1, none⟩ = some (int i64 s) ∧ V.cell? ⟨b, 2, none⟩ = some (int i64 i) ∧ V.cell? ⟨b, 3, none⟩ = some (int i64 g) ∧ V.cell? ⟨b, 4, none⟩ = some (int i64 es) ∧ V.cell? ⟨b, 5, none⟩ = some (int i64 ei) ∧ V.cell? ⟨b, 6, none⟩ = some (int i64 eg) ∧ V.cell? ⟨b, 8, none⟩ = some (int i64 x) ∧ V.cell? ⟨b, 9, none⟩ = some (int i64 y) := ⟨h 0, h 1, h 2, h 3, h 4, h 5, h 6, h 8, h 9⟩
theorem DeskAt.at1 {w w1 : World} {d : DLay} {c : Cfg} {D : Dk} (h : DeskAt w d c D) (hb1 : Below w.heap.size w w1) : ∃ p cap, w1.cell? ⟨d.p, 0, none⟩ = some (.pointer (some ⟨d.bm, 0, none⟩)) ∧ w1.cell? ⟨d.p, 1, none⟩ = some (.pointer (some ⟨d.L.P, 0, none⟩)) ∧
 w1.cell? ⟨d.p, 2, none⟩ = some (.slice p D.q.length cap) ∧ w1.cell? ⟨d.bm, 6, none⟩ = some (int i64 c.queue) ∧ d.p < w1.heap.size ∧ d.bm < w1.heap.size := by
 have hlt := lt_of_heap h.box
 have hltm := h.ltm
 have c0 := h.cell 0
 have c1 := h.cell 1
 have c2 := h.cell 2
 simp [deskC] at c0 c1 c2
 have m6 := MapAt.cell h.map 6
 simp at m6
 obtain ⟨p, cap, hv⟩ := sl_frm h.q
 rw [hv] at c2
 have hz := hb1.size
 exact ⟨p, cap, (hb1.cell (p := ⟨d.p, 0, none⟩) hlt).trans c0, (hb1.cell (p := ⟨d.p, 1, none⟩) hlt).trans c1, (hb1.cell (p := ⟨d.p, 2, none⟩) hlt).trans c2, (hb1.cell (p := ⟨d.bm, 6, none⟩) hltm).trans m6, by omega, by omega⟩
end Go.Proofs.YtoimjjhopljdmaaGreat
