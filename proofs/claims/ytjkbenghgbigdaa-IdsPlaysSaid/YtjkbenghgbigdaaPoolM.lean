/-
  Two pools beside each other, and lists of names beside them; a slice of ints that came in. No condition.
-/
import Derived.Test.YtjkbenghgbigdaaPoolL
import Derived.Test.YtjkbenghgbigdaaFr
import Derived.ChangeSlices
namespace Go.Proofs.Ytjkbenghgbigdaa
open Go.RowKit
structure St2 (w0 W : World) (L : Lay) (M : List Sh) (p : Nat) (L' : Lay) (M' : List Sh) (p' : Nat) : Prop where
  a : St w0 W L M p
  b : St w0 W L' M' p'
  ap : ∀ b, L.own b → ¬ L'.own b

theorem St2.swap {w0 W : World} {L L' : Lay} {M M' : List Sh} {p p' : Nat} (h : St2 w0 W L M p L' M' p') : St2 w0 W L' M' p' L M p := ⟨h.b, h.a, fun b h1 h2 => h.ap b h2 h1⟩
theorem St2.grow {w0 W W' : World} {L L' : Lay} {M M' : List Sh} {p p' : Nat} (h : St2 w0 W L M p L' M' p') (hb : Below W.heap.size W W') : St2 w0 W' L M p L' M' p' := ⟨h.a.grow hb, h.b.grow hb, h.ap⟩
theorem St2.went {w0 W w' : World} {L L' : Lay} {M M' Mn : List Sh} {p p' : Nat} (h : St2 w0 W L M p L' M' p') (hs : Stp W L w' Mn) : ∃ Ln, St2 w0 w' Ln Mn p L' M' p' ∧ Chg W w' L.own ∧ ∀ b, Ln.own b → L.own b ∨ W.heap.size ≤ b := by
  obtain ⟨Ln, s, c, o⟩ := h.a.went hs
  refine ⟨Ln, ⟨s, ⟨h.b.hP, h.b.hp.chg c fun b h1 h2 => h.ap b h2 h1, s.hb, h.b.ho⟩, fun b h1 h2 => ?_⟩, c, o⟩
  rcases o b h1 with h3 | h3
  · exact h.ap b h3 h2
  · have := h.b.hp.lt h2; omega

/-- A list of names of the call's own, beside whatever blocks F. -/
structure Lst (w0 W : World) (F : Nat → Prop) (v : Value) (l : List Id3) : Prop where
  sl : Sl W 30 3 v l.length (idCells l)
  ap : ∀ g, v.ownBlock = some g → w0.heap.size ≤ g ∧ ¬ F g

theorem Lst.nil (w0 W : World) (F : Nat → Prop) : Lst w0 W F (.slice none 0 0) [] := ⟨⟨by simp [idCells], .inl ⟨rfl, rfl⟩⟩, fun g hg => by cases hg⟩
theorem Lst.grow {w0 W W' : World} {F : Nat → Prop} {v : Value} {l : List Id3} (h : Lst w0 W F v l) (hb : Below W.heap.size W W') : Lst w0 W' F v l := ⟨h.sl.keep fun g hg => hb.block g (h.sl.lt hg), h.ap⟩
theorem Lst.went {w0 W w' : World} {F F' : Nat → Prop} {G : Nat → Prop} {v : Value} {l : List Id3} (h : Lst w0 W F v l) (hc : Chg W w' G) (hG : ∀ b, G b → F b) (ho : ∀ b, F' b → F b ∨ W.heap.size ≤ b) : Lst w0 w' F' v l :=
  ⟨h.sl.keep fun g hg => hc.block g (h.sl.lt hg) fun e => (h.ap g hg).2 (hG g e), fun g hg => ⟨(h.ap g hg).1, fun e => (ho g e).elim (h.ap g hg).2 fun h' => absurd (h.sl.lt hg) (by omega)⟩⟩
theorem Lst.snoc {w0 W w1 : World} {F : Nat → Prop} {v v' : Value} {l : List Id3} {s i g : Int} (h : Lst w0 W F v l) (h0 : w0.heap.size ≤ W.heap.size) (hF : ∀ b, F b → b < W.heap.size) (hs : Sl w1 30 3 v' (l.length + 1) (idCells l ++ [.int .i64 s, .int .i64 i, .int .i64 g]))
    (ho : v'.ownBlock = v.ownBlock ∨ ∃ g, v'.ownBlock = some g ∧ W.heap.size ≤ g) : Lst w0 w1 F v' (l ++ [(s, i, g)]) := by
  refine ⟨by rw [idCells_app, idCells_one]; simpa using hs, fun q hq => ?_⟩
  rcases ho with e | ⟨g', e, hg'⟩
  · exact h.ap q (by rw [← e]; exact hq)
  · rw [e] at hq
    cases hq
    exact ⟨by omega, fun h => by have := hF q h; omega⟩

/-- The names' cells. -/
theorem Lst.cells {w0 W : World} {F : Nat → Prop} {v : Value} {l : List Id3} (h : Lst w0 W F v l) : ∃ p cap, v = .slice p l.length cap ∧ l.length ≤ maxLen ∧ ∀ k (x : Id3), l[k]? = some x → ∃ b off, p = some ⟨b, off, none⟩ ∧ l.length ≤ cap ∧
    W.cell? ⟨b, off + k * 3, none⟩ = some (.int .i64 x.1) ∧ W.cell? ⟨b, off + k * 3 + 1, none⟩ = some (.int .i64 x.2.1) ∧ W.cell? ⟨b, off + k * 3 + 2, none⟩ = some (.int .i64 x.2.2) := by
  have key : ∀ (l : List Id3) (k : Nat) (x : Id3), l[k]? = some x → (idCells l)[k * 3]? = some (.int .i64 x.1) ∧ (idCells l)[k * 3 + 1]? = some (.int .i64 x.2.1) ∧ (idCells l)[k * 3 + 2]? = some (.int .i64 x.2.2) := by
    intro l
    induction l with
    | nil => intro k x hx; cases hx
    | cons y l ih =>
      intro k x hx
      cases k with
      | zero => simp at hx; subst hx; simp [idCells]
      | succ k =>
        obtain ⟨h1, h2, h3⟩ := ih k x (by simpa using hx)
        have e : idCells (y :: l) = .int .i64 y.1 :: .int .i64 y.2.1 :: .int .i64 y.2.2 :: idCells l := by simp [idCells]
        rw [e, show (k + 1) * 3 = k * 3 + 1 + 1 + 1 by omega]
        exact ⟨by simpa using h1, by simpa using h2, by simpa using h3⟩
  obtain ⟨_, ⟨hv, h0⟩ | ⟨blk, off, cap, cur, rfl, hb, hn, hc, hsz, hr⟩⟩ := h.sl
  · exact ⟨none, 0, by rw [hv, h0], by omega, fun k x hx => by have := (List.getElem?_eq_some_iff.1 hx).1; omega⟩
  · refine ⟨_, cap, rfl, by omega, fun k x hx => ⟨blk, off, rfl, hn, ?_⟩⟩
    obtain ⟨h1, h2, h3⟩ := key l k x hx
    have r1 := hr _ _ h1
    have r2 := hr _ _ h2
    have r3 := hr _ _ h3
    rw [show off + (k * 3 + 1) = off + k * 3 + 1 by omega] at r2
    rw [show off + (k * 3 + 2) = off + k * 3 + 2 by omega] at r3
    exact ⟨by simp [World.cell?, hb, r1], by simp [World.cell?, hb, r2], by simp [World.cell?, hb, r3]⟩

/-- A slice of ints that came in: so many, and its cells. -/
def IntsIn (w : World) (v : Value) (zs : List Int) : Prop := ∃ p cap, v = .slice p zs.length cap ∧ zs.length ≤ maxLen ∧ (∀ z ∈ zs, (-9223372036854775808 ≤ z ∧ z ≤ 9223372036854775807)) ∧ ∀ k, k < zs.length → ∃ b off, p = some ⟨b, off, none⟩ ∧ zs.length ≤ cap ∧ b < w.heap.size ∧ w.cell? ⟨b, off + k, none⟩ = some (.int .i64 (zs.getD k 0))

set_option maxRecDepth 100000 in
theorem ints_in {H : Type} {enc : TypeId × Value → H} {W : World} {base b0 : Nat} {spare : Nat → Bool} {held : Bool} {r : Reach} {v : Value} {d : DataW H} {p : List MemPlace} (hv : Value.okWide Try.prog W r b0 22 v) (h : DataW.Trod enc Try.prog W base spare held 22 v d p) : ∃ zs, IntsIn W v zs := by
  obtain ⟨a, len, cap, rfl⟩ := Go.WideShapes.okWide_slice Try.underlying22 hv
  obtain ⟨fuel, hf⟩ := h
  have hf' : DataW.trod enc Try.prog W base spare held fuel 22 [.slice a len cap] = some (d, p) := by simpa [Value.cells] using hf
  rcases Go.ChangeShapes.open_ints Try.underlying22 Try.underlying3 cells_int hf' with ⟨h0, _⟩ | ⟨⟨b, off, sp⟩, len', cap', zs, h0, _, hl, hm, hz, _, hc, hw⟩
  · simp at h0
    obtain ⟨rfl, rfl, rfl⟩ := h0
    exact ⟨[], none, 0, rfl, by simp [maxLen], by simp, fun k hk => by simp at hk⟩
  · simp only [List.cons.injEq, and_true, Value.slice.injEq] at h0
    obtain ⟨rfl, rfl, rfl⟩ := h0
    have hle : len ≤ zs.length := by rw [hz]; split <;> omega
    have e1 : (zs.take len).length = len := by simp [hle]
    refine ⟨zs.take len, some ⟨b, off, sp⟩, cap, by rw [e1], by rw [e1]; omega, fun z hz => i64_of_wf (hw z (List.mem_of_mem_take hz)), fun k hk => ?_⟩
    rw [e1] at hk
    have hck := hc k (by omega)
    have hc0 := hc 0 (by omega)
    have hsp : sp = none := by
      simp only [Addr.add, if_true] at hc0
      cases sp with
      | none => rfl
      | some q =>
        simp only [World.cell?, Option.isSome_some, if_true] at hc0
        split at hc0 <;> cases hc0
    subst hsp
    have ea : Addr.add ⟨b, off, none⟩ k = ⟨b, off + k, none⟩ := by unfold Addr.add; split <;> simp_all
    rw [ea] at hck
    refine ⟨b, off, rfl, by rw [e1]; exact hl, World.block_lt_of_cell? W _ hck, ?_⟩
    rw [hck]
    simp [List.getD, hk]
end Go.Proofs.Ytjkbenghgbigdaa
