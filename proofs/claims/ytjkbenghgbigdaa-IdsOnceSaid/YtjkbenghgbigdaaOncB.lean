/-
  Two pools, a list of names and one of bools beside them. No condition.
-/
import Derived.Test.YtjkbenghgbigdaaOncA
import Derived.Test.YtjkbenghgbigdaaLapB
import Derived.Test.YtjkbenghgbigdaaRowC
namespace Go.Proofs.Ytjkbenghgbigdaa
open Go.RowKit
theorem info_bool : (Try.prog.info? 4).map (fun i => (i.zero, i.size, i.bytes)) = some (some (.bool false), 1, 1) := by kernel_rfl
/-- A list of bools of the call's own, beside whatever blocks F. -/
structure Lbo (w0 W : World) (F : Nat → Prop) (v : Value) (l : List Bool) : Prop where
  sl : Sl W 4 1 v l.length (l.map Value.bool)
  ap : ∀ g, v.ownBlock = some g → w0.heap.size ≤ g ∧ ¬ F g
theorem Lbo.grow {w0 W W' : World} {F : Nat → Prop} {v : Value} {l : List Bool} (h : Lbo w0 W F v l) (hb : Below W.heap.size W W') : Lbo w0 W' F v l := ⟨h.sl.keep fun g hg => hb.block g (h.sl.lt hg), h.ap⟩
theorem Lbo.went {w0 W w' : World} {F F' : Nat → Prop} {G : Nat → Prop} {v : Value} {l : List Bool} (h : Lbo w0 W F v l) (hc : Chg W w' G) (hG : ∀ b, G b → F b) (ho : ∀ b, F' b → F b ∨ W.heap.size ≤ b) : Lbo w0 w' F' v l :=
  ⟨h.sl.keep fun g hg => hc.block g (h.sl.lt hg) fun e => (h.ap g hg).2 (hG g e), fun g hg => ⟨(h.ap g hg).1, fun e => (ho g e).elim (h.ap g hg).2 fun h' => absurd (h.sl.lt hg) (by omega)⟩⟩
theorem Lbo.cells {w0 W : World} {F : Nat → Prop} {v : Value} {l : List Bool} (h : Lbo w0 W F v l) : ∃ p cap, v = .slice p l.length cap ∧ l.length ≤ maxLen ∧ ∀ k (b : Bool), l[k]? = some b → ∃ g off, p = some ⟨g, off, none⟩ ∧ l.length ≤ cap ∧ W.cell? ⟨g, off + k, none⟩ = some (.bool b) := by
  obtain ⟨_, ⟨hv, h0⟩ | ⟨blk, off, cap, cur, rfl, hb, hn, hc, hsz, hr⟩⟩ := h.sl
  · exact ⟨none, 0, by rw [hv, h0], by omega, fun k x hx => by have := (List.getElem?_eq_some_iff.1 hx).1; omega⟩
  · refine ⟨_, cap, rfl, by omega, fun k b hk => ⟨blk, off, rfl, hn, ?_⟩⟩
    have := hr k (.bool b) (by simp [hk])
    simp [World.cell?, hb, this]

structure Once4 (w0 W : World) (Lp : Lay) (mp : Sh) (P : Nat) (Lq : Lay) (mq : Sh) (Q : Nat) (gv tv : Value) (gl : List Id3) (tl : List Bool) : Prop where
  st : St2 w0 W Lp [mp] P Lq [mq] Q
  g : Lst w0 W (fun b => Lp.own b ∨ Lq.own b) gv gl
  t : Lbo w0 W (fun b => Lp.own b ∨ Lq.own b) tv tl
  ne : ∀ b, gv.ownBlock = some b → tv.ownBlock ≠ some b

variable {w0 W : World} {Lp Lq : Lay} {mp mq : Sh} {P Q : Nat} {gv tv : Value} {gl : List Id3} {tl : List Bool}
theorem Once4.grow {W' : World} (h : Once4 w0 W Lp mp P Lq mq Q gv tv gl tl) (hb : Below W.heap.size W W') : Once4 w0 W' Lp mp P Lq mq Q gv tv gl tl := ⟨h.st.grow hb, h.g.grow hb, h.t.grow hb, h.ne⟩
theorem Once4.wentP {w' : World} {m' : Sh} (h : Once4 w0 W Lp mp P Lq mq Q gv tv gl tl) (hs : Stp W Lp w' [m']) : ∃ L', Once4 w0 w' L' m' P Lq mq Q gv tv gl tl ∧ Chg W w' Lp.own ∧ ∀ b, L'.own b → Lp.own b ∨ W.heap.size ≤ b := by
  obtain ⟨L', s, c, o⟩ := h.st.went hs
  exact ⟨L', ⟨s, h.g.went c (fun _ h => .inl h) (fun b h => h.elim (fun h => (o b h).imp_left .inl) fun h => .inl (.inr h)), h.t.went c (fun _ h => .inl h) (fun b h => h.elim (fun h => (o b h).imp_left .inl) fun h => .inl (.inr h)), h.ne⟩, c, o⟩
theorem Once4.wentQ {w' : World} {m' : Sh} (h : Once4 w0 W Lp mp P Lq mq Q gv tv gl tl) (hs : Stp W Lq w' [m']) : ∃ L', Once4 w0 w' Lp mp P L' m' Q gv tv gl tl ∧ Chg W w' Lq.own ∧ ∀ b, L'.own b → Lq.own b ∨ W.heap.size ≤ b := by
  obtain ⟨L', s, c, o⟩ := h.st.swap.went hs
  exact ⟨L', ⟨s.swap, h.g.went c (fun _ h => .inr h) (fun b h => h.elim (fun h => .inl (.inl h)) fun h => (o b h).imp_left .inr), h.t.went c (fun _ h => .inr h) (fun b h => h.elim (fun h => .inl (.inl h)) fun h => (o b h).imp_left .inr), h.ne⟩, c, o⟩

theorem St.turnedB {w4 : World} {F : Nat → Prop} {L : Lay} {M : List Sh} {p : Nat} {b : Option Nat} (h : St w0 W L M p) (hb : ∀ g, b = some g → w0.heap.size ≤ g ∧ ¬ F g) (hF : ∀ b, L.own b → F b) (ht : Turned W w4 b) : St w0 w4 L M p :=
  ⟨h.hP, h.hp.chg (Chg.of_turned ht (F := fun x => b = some x) fun _ e _ => e) fun x hx e => (hb x e).2 (hF x hx), h.hb.trans ⟨ht.os, ht.tape, ht.output, ht.size, fun k hk => ht.block k (by have := h.hb.size; omega) fun e => by have := (hb k e.symm).1; omega⟩, h.ho⟩
theorem Once4.snocG {w1 : World} {v' : Value} {s i g : Int} {n : Nat} (h : Once4 w0 W Lp mp P Lq mq Q gv tv gl tl) (hn : gl.length = n) (hs : Sl w1 30 3 v' (n + 1) (idCells gl ++ [.int .i64 s, .int .i64 i, .int .i64 g])) (ht : Turned W w1 gv.ownBlock)
    (ho : v'.ownBlock = gv.ownBlock ∨ ∃ g, v'.ownBlock = some g ∧ W.heap.size ≤ g) : Once4 w0 w1 Lp mp P Lq mq Q v' tv (gl ++ [(s, i, g)]) tl := by
  subst hn
  have h0 := h.st.a.hb.size
  refine ⟨⟨h.st.a.turnedB h.g.ap (fun _ h => .inl h) ht, h.st.b.turnedB h.g.ap (fun _ h => .inr h) ht, h.st.ap⟩, h.g.snoc h0 (fun b hb => hb.elim h.st.a.hp.lt h.st.b.hp.lt) hs ho, ⟨h.t.sl.keep fun b hb => ht.block b (h.t.sl.lt hb) fun e => h.ne b e.symm hb, h.t.ap⟩, fun b hb hb' => ?_⟩
  rcases ho with e | ⟨g', e, hg'⟩
  · exact h.ne b (by rw [← e]; exact hb) hb'
  · rw [e] at hb
    cases hb
    have := h.t.sl.lt hb'
    omega
theorem Once4.snocT {w1 : World} {v' : Value} {b : Bool} {n : Nat} (h : Once4 w0 W Lp mp P Lq mq Q gv tv gl tl) (hn : tl.length = n) (hs : Sl w1 4 1 v' (n + 1) (tl.map Value.bool ++ [.bool b])) (ht : Turned W w1 tv.ownBlock)
    (ho : v'.ownBlock = tv.ownBlock ∨ ∃ g, v'.ownBlock = some g ∧ W.heap.size ≤ g) : Once4 w0 w1 Lp mp P Lq mq Q gv v' gl (tl ++ [b]) := by
  subst hn
  have h0 := h.st.a.hb.size
  refine ⟨⟨h.st.a.turnedB h.t.ap (fun _ h => .inl h) ht, h.st.b.turnedB h.t.ap (fun _ h => .inr h) ht, h.st.ap⟩, ⟨h.g.sl.keep fun x hx => ht.block x (h.g.sl.lt hx) fun e => h.ne x hx e.symm, h.g.ap⟩, ⟨by simpa using hs, fun q hq => ?_⟩, fun x hx hx' => ?_⟩
  · rcases ho with e | ⟨g', e, hg'⟩
    · exact h.t.ap q (by rw [← e]; exact hq)
    · rw [e] at hq
      cases hq
      exact ⟨by omega, fun hh => hh.elim (fun h1 => by have := h.st.a.hp.lt h1; omega) fun h1 => by have := h.st.b.hp.lt h1; omega⟩
  · rcases ho with e | ⟨g', e, hg'⟩
    · exact h.ne x hx (by rw [← e]; exact hx')
    · rw [e] at hx'
      cases hx'
      have := h.g.sl.lt hx
      omega
theorem Once4.gsl {n : Nat} (h : Once4 w0 W Lp mp P Lq mq Q gv tv gl tl) (hn : gl.length = n) : Sl W 30 3 gv n (idCells gl) := hn ▸ h.g.sl
theorem Once4.tsl {n : Nat} (h : Once4 w0 W Lp mp P Lq mq Q gv tv gl tl) (hn : tl.length = n) : Sl W 4 1 tv n (tl.map Value.bool) := hn ▸ h.t.sl
theorem Lst.at {F : Nat → Prop} {p : Option Addr} {n cap : Nat} {l : List Id3} (h : Lst w0 W F (.slice p n cap) l) {k : Nat} {x : Id3} (hx : l[k]? = some x) : ∃ b off, p = some ⟨b, off, none⟩ ∧ l.length ≤ cap ∧
    W.cell? ⟨b, off + k * 3, none⟩ = some (.int .i64 x.1) ∧ W.cell? ⟨b, off + k * 3 + 1, none⟩ = some (.int .i64 x.2.1) ∧ W.cell? ⟨b, off + k * 3 + 2, none⟩ = some (.int .i64 x.2.2) := by
  obtain ⟨p', cap', hv, _, hc⟩ := h.cells
  simp only [Value.slice.injEq] at hv
  obtain ⟨rfl, _, rfl⟩ := hv
  exact hc k x hx
theorem Lbo.at {F : Nat → Prop} {p : Option Addr} {n cap : Nat} {l : List Bool} (h : Lbo w0 W F (.slice p n cap) l) {k : Nat} {x : Bool} (hx : l[k]? = some x) : ∃ b off, p = some ⟨b, off, none⟩ ∧ l.length ≤ cap ∧ W.cell? ⟨b, off + k, none⟩ = some (.bool x) := by
  obtain ⟨p', cap', hv, _, hc⟩ := h.cells
  simp only [Value.slice.injEq] at hv
  obtain ⟨rfl, _, rfl⟩ := hv
  exact hc k x hx
theorem Box.turned {W1 w1 : World} {L : Lay} {b : Nat} {cs : Array Value} {o : Option Nat} (h : Box W L b cs) (hb : Below W.heap.size W W1) (ht : Turned W1 w1 o) (hn : o ≠ some b) : Box w1 L b cs :=
  ⟨Nat.lt_of_lt_of_le h.1 (Nat.le_trans hb.size ht.size), h.2.1, fun j => (ht.cell (a := ⟨b, j, none⟩) (Nat.lt_of_lt_of_le h.1 hb.size) hn).trans ((hb.cell (p := ⟨b, j, none⟩) h.1).trans (h.2.2 j))⟩
end Go.Proofs.Ytjkbenghgbigdaa
