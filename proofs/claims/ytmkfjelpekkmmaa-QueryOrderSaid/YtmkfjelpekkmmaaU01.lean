/-
  Chapter texts Nid QmA QmB: what the claim reaches of them. Conditions stand at each theorem.
-/
import Derived.Test.YtmkfjelpekkmmaaProg
import Derived.WalkKit
import Derived.Test.YtmkfjelpekkmmaaQ01
import Derived.Test.YtmkfjelpekkmmaaQ02
import Derived.Test.YtmkfjelpekkmmaaQ03
import Derived.Test.YtmkfjelpekkmmaaQ04
import Derived.Test.YtmkfjelpekkmmaaQ05
import Derived.Test.YtmkfjelpekkmmaaQ06
import Derived.Test.YtmkfjelpekkmmaaQ07
import Derived.Test.YtmkfjelpekkmmaaQ08
import Derived.Test.YtmkfjelpekkmmaaQ09
import Derived.Test.YtmkfjelpekkmmaaQ10
import Derived.Test.YtmkfjelpekkmmaaQ11
import Derived.Test.YtmkfjelpekkmmaaQ12
import Derived.Test.YtmkfjelpekkmmaaQ13
import Derived.Test.YtmkfjelpekkmmaaQ14
import Derived.Test.YtmkfjelpekkmmaaQ15
import Derived.Test.YtmkfjelpekkmmaaQ16
import Derived.Test.YtmkfjelpekkmmaaQ17
import Derived.Test.YtmkfjelpekkmmaaQ18
import Derived.Test.YtmkfjelpekkmmaaQ19
import Derived.Test.YtmkfjelpekkmmaaQ20
import Derived.Test.YtmkfjelpekkmmaaQ21
import Derived.Test.YtmkfjelpekkmmaaQ22
import Derived.Test.YtmkfjelpekkmmaaQ23
import Derived.Test.YtmkfjelpekkmmaaQ24
import Derived.Test.YtmkfjelpekkmmaaQ25
import Derived.Test.YtmkfjelpekkmmaaQ26
import Derived.Test.YtmkfjelpekkmmaaQ27
import Derived.Test.YtmkfjelpekkmmaaQ28
import Derived.Test.YtmkfjelpekkmmaaQ29
import Derived.Test.YtmkfjelpekkmmaaQ30
import Derived.Test.YtmkfjelpekkmmaaQ31
import Derived.Test.YtmkfjelpekkmmaaQ32
import Derived.Test.YtmkfjelpekkmmaaQ33
import Derived.Test.YtmkfjelpekkmmaaQ34
import Derived.Test.YtmkfjelpekkmmaaQ35
namespace Go.Proofs.Ytmkfjelpekkmmaa
open Go.RowKit
def zeroB : Bun := ⟨0, 0, 0, 0, 0, 0, 0, 0, 0, 0, 0⟩
end Go.Proofs.Ytmkfjelpekkmmaa
namespace Go.Proofs.Ytmkfjelpekkmmaa
open Go.RowKit
theorem UnId.perm {l l' : List Bun} (h : UnId l) (hp : l.Perm l') : UnId l' := List.Pairwise.perm h hp fun {_ _} hn hs => hn ⟨hs.1.symm, hs.2.1.symm, hs.2.2.symm⟩
end Go.Proofs.Ytmkfjelpekkmmaa
namespace Go.Proofs.Ytmkfjelpekkmmaa
open Go.RowKit
def mputP (P : List Pl) (n : Nid) (v : Nat × Nat) : List Pl := P.map fun x => if x.1 = n then (n, v) else x
def mdelP (P : List Pl) (n : Nid) : List Pl := P.filter fun x => decide (x.1 ≠ n)
def cutR (l : List Bun) (r : Nat) : List Bun := ((l.set r (l.getD (l.length - 1) zeroB)).take (l.length - 1))
theorem mput_keys (P : List Pl) (n : Nid) (v : Nat × Nat) : (mputP P n v).map (fun x => x.1) = P.map fun x => x.1 := by
  unfold mputP
  rw [List.map_map]
  refine List.map_congr_left fun x _ => ?_
  simp only [Function.comp]
  split <;> simp_all
theorem cutR_get {l : List Bun} {r : Nat} (hr : r < l.length) (j : Nat) : (cutR l r)[j]? = if j + 1 < l.length then (if j = r then l[l.length - 1]? else l[j]?) else none := by
  unfold cutR
  rw [List.getElem?_take]
  by_cases h : j + 1 < l.length
  · rw [if_pos (by omega), if_pos h, List.getElem?_set]
    by_cases e : r = j
    · rw [if_pos e, if_pos e.symm, if_pos (by omega), List.getD_eq_getElem?_getD, List.getElem?_eq_getElem (show l.length - 1 < l.length by omega)]; rfl
    · rw [if_neg e, if_neg (Ne.symm e)]
  · rw [if_neg (by omega), if_neg h]
theorem SInv.cut {T : Nat → List Bun} {P : List Pl} (h : SInv T P) {n : Nid} {m r : Nat} (hp : (n, m, r) ∈ P) {lb : Bun} (hl : (T m)[(T m).length - 1]? = some lb) :
    SInv (updT T m (cutR (T m) r)) (mdelP (mputP P (idOf lb) (m, r)) n) ∧ (allT (updT T m (cutR (T m) r))).Perm ((allT T).filter fun b => decide (idOf b ≠ n)) := by
  obtain ⟨hm, b0, hb0, hid0⟩ := h.row _ _ _ hp
  have hr : r < (T m).length := (List.getElem?_eq_some_iff.1 hb0).1
  have hlast := (h.ent m hm _ _ hl).2.2
  have hget : ∀ m' j x, (updT T m (cutR (T m) r) m')[j]? = some x ↔ (m' ≠ m ∧ (T m')[j]? = some x) ∨ (m' = m ∧ j + 1 < (T m).length ∧ ((j = r ∧ x = lb) ∨ (j ≠ r ∧ (T m)[j]? = some x))) := by
    intro m' j x
    unfold updT
    by_cases e : m' = m
    · subst e
      rw [if_pos rfl, cutR_get hr]
      simp only [ne_eq, not_true_eq_false, false_and, true_and, false_or]
      by_cases h1 : j + 1 < (T m').length
      · rw [if_pos h1]
        by_cases h2 : j = r
        · subst h2
          rw [if_pos rfl, hl]
          simp only [Option.some.injEq, h1, true_and, not_true_eq_false, false_and, or_false]
          exact eq_comm
        · rw [if_neg h2]
          simp [h1, h2]
      · rw [if_neg h1]
        simp [h1]
    · rw [if_neg e]
      simp [e]
  have hmem : ∀ n' m' r', (n', m', r') ∈ mdelP (mputP P (idOf lb) (m, r)) n ↔ n' ≠ n ∧ ((n' = idOf lb ∧ m' = m ∧ r' = r) ∨ (n' ≠ idOf lb ∧ (n', m', r') ∈ P)) := by
    intro n' m' r'
    unfold mdelP mputP
    rw [List.mem_filter, List.mem_map]
    simp only [decide_eq_true_eq]
    constructor
    · rintro ⟨⟨⟨a, b, c⟩, hx, e⟩, hne⟩
      refine ⟨hne, ?_⟩
      simp only at e
      split at e
      · simp only [Prod.mk.injEq] at e
        exact .inl ⟨e.1.symm, e.2.1.symm, e.2.2.symm⟩
      · rename_i hna
        cases e
        exact .inr ⟨hna, hx⟩
    · rintro ⟨hne, ⟨rfl, rfl, rfl⟩ | ⟨h1, h2⟩⟩
      · exact ⟨⟨_, hlast, by simp⟩, hne⟩
      · exact ⟨⟨_, h2, by simp [h1]⟩, hne⟩
  have hS : SInv (updT T m (cutR (T m) r)) (mdelP (mputP P (idOf lb) (m, r)) n) := by
    refine ⟨fun n' m' r' hx => ?_, fun m' hm' j x hx => ?_, ?_⟩
    · obtain ⟨hne, ⟨rfl, rfl, rfl⟩ | ⟨h1, h2⟩⟩ := (hmem _ _ _).1 hx
      · refine ⟨hm, lb, (hget _ _ _).2 (.inr ⟨rfl, ?_, .inl ⟨rfl, rfl⟩⟩), rfl⟩
        rcases Nat.lt_or_ge (r' + 1) (T m').length with hh | hh
        · exact hh
        · exfalso
          have e1 : r' = (T m').length - 1 := by omega
          rw [← e1, hb0] at hl
          cases hl
          exact hne hid0
      · obtain ⟨hm2, x, hx2, e2⟩ := h.row _ _ _ h2
        refine ⟨hm2, x, (hget _ _ _).2 ?_, e2⟩
        by_cases e : m' = m
        · subst e
          have hlt := (List.getElem?_eq_some_iff.1 hx2).1
          have hnl : r' ≠ (T m').length - 1 := fun e => by
            rw [← e, hx2] at hl
            cases hl
            exact h1 e2.symm
          have hnr : r' ≠ r := fun e => by
            rw [e, hb0] at hx2
            cases hx2
            exact hne (e2.symm.trans hid0)
          exact .inr ⟨rfl, by omega, .inr ⟨hnr, hx2⟩⟩
        · exact .inl ⟨e, hx2⟩
    · rcases (hget _ _ _).1 hx with ⟨hne, hx⟩ | ⟨rfl, hj, ⟨rfl, rfl⟩ | ⟨hjr, hx⟩⟩
      · obtain ⟨h1, h2, h3⟩ := h.ent m' hm' j x hx
        refine ⟨h1, h2, (hmem _ _ _).2 ⟨fun e => ?_, .inr ⟨fun e => ?_, h3⟩⟩⟩
        · rw [e] at h3; exact hne (h.uniq h3 hp).1
        · rw [e] at h3; exact hne (h.uniq h3 hlast).1
      · have h2 := h.ent m' hm' _ _ hl
        refine ⟨h2.1, h2.2.1, (hmem _ _ _).2 ⟨fun e => ?_, .inl ⟨rfl, rfl, rfl⟩⟩⟩
        rw [e] at hlast
        have := (h.uniq hlast hp).2
        omega
      · obtain ⟨h1, h2, h3⟩ := h.ent m' hm' j x hx
        refine ⟨h1, h2, (hmem _ _ _).2 ⟨fun e => ?_, .inr ⟨fun e => ?_, h3⟩⟩⟩
        · rw [e] at h3; exact hjr (h.uniq h3 hp).2
        · rw [e] at h3
          have := (h.uniq h3 hlast).2
          omega
    · unfold mdelP
      refine List.Nodup.sublist (List.Sublist.map _ List.filter_sublist) ?_
      rw [mput_keys]
      exact h.key
  refine ⟨hS, perm_of_mem hS.unId (h.unId.sub List.filter_sublist) fun x => ?_⟩
  rw [mem_all, List.mem_filter, mem_all]
  simp only [decide_eq_true_eq]
  constructor
  · rintro ⟨m', hm', j, hx⟩
    have h3 := (hS.ent m' hm' j x hx).2.2
    refine ⟨?_, ((hmem _ _ _).1 h3).1⟩
    rcases (hget _ _ _).1 hx with ⟨_, hx⟩ | ⟨rfl, _, ⟨rfl, rfl⟩ | ⟨_, hx⟩⟩
    · exact ⟨m', hm', j, hx⟩
    · exact ⟨m', hm', _, hl⟩
    · exact ⟨m', hm', j, hx⟩
  · rintro ⟨⟨m', hm', j, hx⟩, hne⟩
    have h3 := (h.ent m' hm' j x hx).2.2
    by_cases e : m' = m
    · subst e
      have hlt := (List.getElem?_eq_some_iff.1 hx).1
      by_cases ej : j = (T m').length - 1
      · rw [ej, hl] at hx
        cases hx
        refine ⟨m', hm', r, (hget _ _ _).2 (.inr ⟨rfl, ?_, .inl ⟨rfl, rfl⟩⟩)⟩
        rcases Nat.lt_or_ge (r + 1) (T m').length with hh | hh
        · exact hh
        · exfalso
          have e1 : r = (T m').length - 1 := by omega
          rw [← e1, hb0] at hl
          cases hl
          exact hne hid0
      · refine ⟨m', hm', j, (hget _ _ _).2 (.inr ⟨rfl, by omega, .inr ⟨fun e => ?_, hx⟩⟩)⟩
        rw [e, hb0] at hx
        cases hx
        exact hne hid0
    · exact ⟨m', hm', j, (hget _ _ _).2 (.inl ⟨e, hx⟩)⟩
end Go.Proofs.Ytmkfjelpekkmmaa
