/-
  One pool beside two lists of names of the call's own. No condition.
-/
import Derived.Test.YtjkbenghgbigdaaRowA
import Derived.Test.YtjkbenghgbigdaaRowP
namespace Go.Proofs.Ytjkbenghgbigdaa
open Go.RowKit
structure Row2 (w0 W : World) (L : Lay) (m : Sh) (P : Nat) (rv hv : Value) (row hav : List Id3) : Prop where
  st : St w0 W L [m] P
  r : Lst w0 W L.own rv row
  h : Lst w0 W L.own hv hav
  ap : ∀ g, rv.ownBlock = some g → hv.ownBlock ≠ some g

theorem St.turned {w0 W w4 : World} {F : Nat → Prop} {L : Lay} {M : List Sh} {p : Nat} {v : Value} {l : List Id3} (h : St w0 W L M p) (hl : Lst w0 W F v l) (hF : ∀ b, L.own b → F b) (ht : Turned W w4 v.ownBlock) : St w0 w4 L M p :=
  ⟨h.hP, h.hp.chg (Chg.of_turned ht (F := fun b => v.ownBlock = some b) fun _ e _ => e) fun b hb e => (hl.ap b e).2 (hF b hb), h.hb.trans ⟨ht.os, ht.tape, ht.output, ht.size, fun k hk => ht.block k (by have := h.hb.size; omega) fun e => by have := (hl.ap k e.symm).1; omega⟩, h.ho⟩

variable {w0 W : World} {L : Lay} {m : Sh} {P : Nat} {rv hv : Value} {row hav : List Id3}
theorem Row2.swap (h : Row2 w0 W L m P rv hv row hav) : Row2 w0 W L m P hv rv hav row := ⟨h.st, h.h, h.r, fun g h1 h2 => h.ap g h2 h1⟩
theorem Row2.grow {W' : World} (h : Row2 w0 W L m P rv hv row hav) (hb : Below W.heap.size W W') : Row2 w0 W' L m P rv hv row hav := ⟨h.st.grow hb, h.r.grow hb, h.h.grow hb, h.ap⟩
theorem Row2.went {w' : World} {m' : Sh} (h : Row2 w0 W L m P rv hv row hav) (hs : Stp W L w' [m']) : ∃ L', Row2 w0 w' L' m' P rv hv row hav ∧ Chg W w' L.own ∧ ∀ b, L'.own b → L.own b ∨ W.heap.size ≤ b := by
  obtain ⟨L', s, c, o⟩ := h.st.went hs
  exact ⟨L', ⟨s, h.r.went c (fun _ h => h) o, h.h.went c (fun _ h => h) o, h.ap⟩, c, o⟩
theorem Row2.set {w1 : World} {v' : Value} {l' : List Id3} (h : Row2 w0 W L m P rv hv row hav) (hs : Sl w1 30 3 v' l'.length (idCells l')) (ht : Turned W w1 rv.ownBlock)
    (ho : v'.ownBlock = rv.ownBlock ∨ ∃ g, v'.ownBlock = some g ∧ W.heap.size ≤ g) : Row2 w0 w1 L m P v' hv l' hav := by
  refine ⟨h.st.turned h.r (fun _ h => h) ht, ⟨hs, fun q hq => ?_⟩, ⟨h.h.sl.keep fun g hg => ht.block g (h.h.sl.lt hg) fun e => h.ap g e.symm hg, h.h.ap⟩, fun q hq hq' => ?_⟩
  · rcases ho with e | ⟨g', e, hg'⟩
    · exact h.r.ap q (by rw [← e]; exact hq)
    · rw [e] at hq
      cases hq
      have := h.st.hb.size
      exact ⟨by omega, fun h' => by have := h.st.hp.lt h'; omega⟩
  · rcases ho with e | ⟨g', e, hg'⟩
    · exact h.ap q (by rw [← e]; exact hq) hq'
    · rw [e] at hq
      cases hq
      have := h.h.sl.lt hq'
      omega
theorem Row2.snoc {w1 : World} {v' : Value} {s i g : Int} (h : Row2 w0 W L m P rv hv row hav) (hs : Sl w1 30 3 v' (row.length + 1) (idCells row ++ [.int .i64 s, .int .i64 i, .int .i64 g])) (ht : Turned W w1 rv.ownBlock)
    (ho : v'.ownBlock = rv.ownBlock ∨ ∃ g, v'.ownBlock = some g ∧ W.heap.size ≤ g) : Row2 w0 w1 L m P v' hv (row ++ [(s, i, g)]) hav :=
  h.set (by rw [idCells_app, idCells_one]; simpa using hs) ht ho
/-- The row's first is cut off. -/
theorem Row2.tail {g off cap : Nat} {r : Id3} {n : Nat} (hn : row.length = n) (h : Row2 w0 W L m P (.slice (some ⟨g, off, none⟩) (n + 1) cap) hv (r :: row) hav) :
    Row2 w0 W L m P (.slice (some ⟨g, off + 3, none⟩) n (cap - 1)) hv row hav ∧ (cap = 1 → Row2 w0 W L m P (.slice (some ⟨g, off, none⟩) 0 0) hv row hav) := by
  subst hn
  have h1 := h.r.sl
  have hT : Turned W W (Value.slice (some ⟨g, off, none⟩) (row.length + 1) cap).ownBlock := ⟨rfl, rfl, rfl, Nat.le_refl _, fun _ _ _ => rfl⟩
  have e : (idCells (r :: row)).drop 3 = idCells row := by simp [idCells]
  refine ⟨h.set (by have := Sl.tailN h1; rwa [e] at this) hT (.inl rfl), fun hc => h.set ?_ hT (.inl rfl)⟩
  subst hc
  obtain ⟨_, ⟨h2, _⟩ | ⟨g', off', cap', cur, h2, hb, hn, hcm, hsz, hr⟩⟩ := h1
  · cases h2
  simp only [List.length_cons, Value.slice.injEq, Option.some.injEq, Addr.mk.injEq, and_true, true_and] at h2
  obtain ⟨⟨rfl, rfl⟩, rfl⟩ := h2
  have h0 : row = [] := List.eq_nil_of_length_eq_zero (by rw [List.length_cons] at hn; omega)
  subst h0
  exact ⟨by simp [idCells], .inr ⟨g, off, 0, cur, rfl, hb, by simp, by omega, by omega, fun j u hj => by simp [idCells] at hj⟩⟩
end Go.Proofs.Ytjkbenghgbigdaa
