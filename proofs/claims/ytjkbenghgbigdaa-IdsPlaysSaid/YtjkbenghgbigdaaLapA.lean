/-
  Lapse, plain: what it makes of a shard. No program here. No condition.
-/
import Derived.Test.YtjkbenghgbigdaaPoolN
namespace Go.Proofs.Ytjkbenghgbigdaa
open Go.RowKit
def lapIx (x : Ix) : Ix := if x.gen < x.bound then ⟨x.bound, x.bound, x.alive⟩ else x
def lapAll (all : List Ix) (fr : List Int) : List Ix := fr.foldl (fun a f => match a[f.toNat]? with | none => a | some x => a.set f.toNat (lapIx x)) all
def lapses (all : List Ix) (f : Int) : Bool := match all[f.toNat]? with | none => false | some x => decide (x.gen < x.bound)
def lapCnt (all : List Ix) (fr : List Int) : Nat := (fr.filter (lapses all)).length
def genAt (all : List Ix) (f : Int) : Int := match all[f.toNat]? with | none => 0 | some x => x.gen
def lapSh (m : Sh) : Sh := ⟨lapAll m.all m.free, m.free.filter fun f => !(genAt (lapAll m.all m.free) f == 1048576)⟩
def lapN (m : Sh) : Nat := lapCnt m.all m.free
def lapseF (M : List Sh) : Int × List Sh := (((M.map lapN).sum : Nat), M.map lapSh)

theorem lapAll_snoc (all : List Ix) (l : List Int) (f : Int) : lapAll all (l ++ [f]) = match (lapAll all l)[f.toNat]? with | none => lapAll all l | some x => (lapAll all l).set f.toNat (lapIx x) := by
  simp [lapAll, List.foldl_append]
theorem lapAll_len : ∀ (l : List Int) (all : List Ix), (lapAll all l).length = all.length
  | [], _ => rfl
  | f :: l, all => by
    simp only [lapAll, List.foldl_cons]
    have := lapAll_len l (match all[f.toNat]? with | none => all | some x => all.set f.toNat (lapIx x))
    simp only [lapAll] at this
    rw [this]
    split <;> simp
theorem lapAll_ne : ∀ (l : List Int) (all : List Ix) (i : Nat), (∀ f ∈ l, 0 ≤ f) → (i : Int) ∉ l → (lapAll all l)[i]? = all[i]?
  | [], _, _, _, _ => rfl
  | f :: l, all, i, h0, hi => by
    simp only [lapAll, List.foldl_cons]
    have := lapAll_ne l (match all[f.toNat]? with | none => all | some x => all.set f.toNat (lapIx x)) i (fun g hg => h0 g (List.mem_cons_of_mem _ hg)) fun h => hi (List.mem_cons_of_mem _ h)
    simp only [lapAll] at this
    rw [this]
    split
    · rfl
    · have hf := h0 f (by simp)
      rw [List.getElem?_set_ne]
      intro e
      exact hi (by rw [show (i : Int) = f by omega]; simp)
theorem lapAll_mem : ∀ (l : List Int) (all : List Ix) (i : Nat), (∀ f ∈ l, 0 ≤ f) → l.Nodup → (i : Int) ∈ l → (lapAll all l)[i]? = (all[i]?).map lapIx
  | f :: l, all, i, h0, hn, hi => by
    have hf := h0 f (by simp)
    simp only [lapAll, List.foldl_cons]
    have hl0 : ∀ g ∈ l, 0 ≤ g := fun g hg => h0 g (List.mem_cons_of_mem _ hg)
    rcases List.mem_cons.1 hi with e | hi'
    · subst e
      have := lapAll_ne l (match all[(i : Int).toNat]? with | none => all | some x => all.set (i : Int).toNat (lapIx x)) i hl0 (List.nodup_cons.1 hn).1
      simp only [lapAll] at this
      rw [this, Int.toNat_natCast]
      cases hx : all[i]? with
      | none => simp [hx]
      | some x => simp [List.getElem?_set_self (List.getElem?_eq_some_iff.1 hx).1]
    · have hne : f.toNat ≠ i := fun e => (List.nodup_cons.1 hn).1 (by rw [show f = (i : Int) by omega]; exact hi')
      have := lapAll_mem l (match all[f.toNat]? with | none => all | some x => all.set f.toNat (lapIx x)) i hl0 (List.nodup_cons.1 hn).2 hi'
      simp only [lapAll] at this
      rw [this]
      split
      · rfl
      · rw [List.getElem?_set_ne hne]
theorem lapCnt_snoc (all : List Ix) (l : List Int) (f : Int) : lapCnt all (l ++ [f]) = lapCnt all l + if lapses all f then 1 else 0 := by
  simp only [lapCnt, List.filter_append, List.length_append]
  cases h : lapses all f <;> simp [h]
theorem lapCnt_le (all : List Ix) (l : List Int) : lapCnt all l ≤ l.length := List.length_filter_le _ _
theorem lapIx_range {x : Ix} (h : 0 ≤ x.gen ∧ x.gen ≤ 1048576 ∧ 0 ≤ x.bound ∧ x.bound ≤ 1048576 ∧ (x.alive = true → x.gen < 1048576)) (ha : x.alive = false) :
    0 ≤ (lapIx x).gen ∧ (lapIx x).gen ≤ 1048576 ∧ 0 ≤ (lapIx x).bound ∧ (lapIx x).bound ≤ 1048576 ∧ ((lapIx x).alive = true → (lapIx x).gen < 1048576) := by
  unfold lapIx
  split
  · exact ⟨h.2.2.1, h.2.2.2.1, h.2.2.1, h.2.2.2.1, fun e => by rw [ha] at e; cases e⟩
  · exact h
theorem lapIx_alive (x : Ix) : (lapIx x).alive = x.alive := by unfold lapIx; split <;> rfl

theorem lap_take {m : Sh} (h : ShInv m) : ∀ q, q ≤ m.free.length → ShInv ⟨lapAll m.all (m.free.take q), m.free⟩
  | 0, _ => by simpa [lapAll] using h
  | q + 1, hq => by
    have ih := lap_take h q (by omega)
    have hlt : q < m.free.length := hq
    rw [show m.free.take (q + 1) = m.free.take q ++ [m.free[q]] by rw [List.take_succ_eq_append_getElem hlt], lapAll_snoc]
    split
    · exact ih
    · rename_i x hx
      have hfr := h.fr m.free[q] (List.getElem_mem hlt)
      have hmem : m.free[q] ∈ m.free := List.getElem_mem hlt
      generalize m.free[q] = f at *
      have hd := ih.dead f hmem x hx
      have := ih.set_ix f.toNat (lapIx x) (lapIx_range (ih.rng _ x hx) hd) fun _ => by rw [lapIx_alive]; exact hd
      exact this
theorem lap_inv {m : Sh} (h : ShInv m) : ShInv (lapSh m) := by
  have h1 := lap_take h m.free.length (Nat.le_refl _)
  rw [List.take_length] at h1
  exact ⟨h1.few, h1.rng, fun f hf => h1.fr f (List.mem_filter.1 hf).1, h1.nd.filter _, fun f hf => h1.dead f (List.mem_filter.1 hf).1⟩
/-- The element that comes up is as it was at the start. -/
theorem lap_at {m : Sh} (h : ShInv m) {q : Nat} {f : Int} (hf : m.free[q]? = some f) : 0 ≤ f ∧ ∃ x, m.all[f.toNat]? = some x ∧ (lapAll m.all (m.free.take q))[f.toNat]? = some x ∧ x.alive = false := by
  have hmem := List.mem_of_getElem? hf
  obtain ⟨h0, h1⟩ := h.fr f hmem
  have hil : f.toNat < m.all.length := by omega
  refine ⟨h0, _, List.getElem?_eq_getElem hil, ?_, h.dead f hmem _ (List.getElem?_eq_getElem hil)⟩
  rw [lapAll_ne _ _ _ (fun g hg => (h.fr g (List.mem_of_mem_take hg)).1)]
  · exact List.getElem?_eq_getElem hil
  · intro hin
    rw [Int.toNat_of_nonneg h0] at hin
    obtain ⟨j, hj, e⟩ := List.getElem_of_mem hin
    rw [List.getElem_take] at e
    rw [List.length_take] at hj
    have hq : q < m.free.length := (List.getElem?_eq_some_iff.1 hf).1
    have e2 := (List.getElem?_eq_some_iff.1 hf).2
    exact (List.pairwise_iff_getElem.1 h.nd) j q (by omega) hq (by omega) (e.trans e2.symm)
end Go.Proofs.Ytjkbenghgbigdaa
