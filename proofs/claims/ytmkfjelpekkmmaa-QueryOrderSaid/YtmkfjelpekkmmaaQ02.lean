/-
  Chapter texts QmB: what the claim reaches of them. Conditions stand at each theorem.
-/
import Derived.Test.YtmkfjelpekkmmaaQ01
namespace Go.Proofs.Ytmkfjelpekkmmaa
open Go.RowKit
abbrev Pl := Nid × Nat × Nat
def updT (T : Nat → List Bun) (m : Nat) (l : List Bun) : Nat → List Bun := fun k => if k = m then l else T k
def allT (T : Nat → List Bun) : List Bun := (List.range 32).flatMap T
structure SInv (T : Nat → List Bun) (P : List Pl) : Prop where
  row : ∀ n m r, (n, m, r) ∈ P → m < 32 ∧ ∃ b, (T m)[r]? = some b ∧ idOf b = n
  ent : ∀ m, m < 32 → ∀ r b, (T m)[r]? = some b → b.m = (m : Int) ∧ checkB b = true ∧ (idOf b, m, r) ∈ P
  key : (P.map fun x => x.1).Nodup
theorem SInv.uniq {T : Nat → List Bun} {P : List Pl} (h : SInv T P) {n : Nid} {m r m' r' : Nat} (h1 : (n, m, r) ∈ P) (h2 : (n, m', r') ∈ P) : m = m' ∧ r = r' := by
  have hk := h.key
  unfold List.Nodup at hk
  rw [List.pairwise_map] at hk
  obtain ⟨i, hi, e1⟩ := List.mem_iff_getElem.1 h1
  obtain ⟨j, hj, e2⟩ := List.mem_iff_getElem.1 h2
  rcases Nat.lt_trichotomy i j with hlt | rfl | hlt
  · exact absurd (by rw [e1, e2]) (List.pairwise_iff_getElem.1 hk i j hi hj hlt)
  · rw [e1] at e2; cases e2; exact ⟨rfl, rfl⟩
  · exact absurd (by rw [e1, e2]) (List.pairwise_iff_getElem.1 hk j i hj hi hlt)
theorem mem_all {T : Nat → List Bun} {b : Bun} : b ∈ allT T ↔ ∃ m, m < 32 ∧ ∃ r : Nat, (T m)[r]? = some b := by
  unfold allT
  rw [List.mem_flatMap]
  constructor
  · rintro ⟨m, hm, hb⟩
    obtain ⟨r, hr⟩ := List.mem_iff_getElem?.1 hb
    exact ⟨m, List.mem_range.1 hm, r, hr⟩
  · rintro ⟨m, hm, r, hr⟩
    exact ⟨m, List.mem_range.2 hm, List.mem_iff_getElem?.2 ⟨r, hr⟩⟩
theorem SInv.unId {T : Nat → List Bun} {P : List Pl} (h : SInv T P) : UnId (allT T) := by
  unfold UnId allT
  rw [List.pairwise_flatMap]
  refine ⟨fun m hm => ?_, ?_⟩
  · have hm := List.mem_range.1 hm
    rw [List.pairwise_iff_getElem]
    intro i j hi hj hlt hs
    have h1 := (h.ent m hm i _ (List.getElem?_eq_getElem hi)).2.2
    have h2 := (h.ent m hm j _ (List.getElem?_eq_getElem hj)).2.2
    rw [(sameId_iff _ _).1 hs] at h1
    have := (h.uniq h1 h2).2
    omega
  · refine List.Pairwise.imp_of_mem (R := fun a b => a < b) ?_ List.pairwise_lt_range
    intro m m' hm hm' hlt x hx y hy hs
    obtain ⟨i, hi⟩ := List.mem_iff_getElem?.1 hx
    obtain ⟨j, hj⟩ := List.mem_iff_getElem?.1 hy
    have h1 := (h.ent m (List.mem_range.1 hm) i _ hi).2.2
    have h2 := (h.ent m' (List.mem_range.1 hm') j _ hj).2.2
    rw [(sameId_iff _ _).1 hs] at h1
    have := (h.uniq h1 h2).1
    omega
theorem SInv.keys {T : Nat → List Bun} {P : List Pl} (h : SInv T P) (n : Nid) : n ∈ P.map (fun x => x.1) ↔ n ∈ (allT T).map idOf := by
  rw [List.mem_map, List.mem_map]
  constructor
  · rintro ⟨⟨n', m, r⟩, hx, rfl⟩
    obtain ⟨hm, b, hb, e⟩ := h.row _ _ _ hx
    exact ⟨b, mem_all.2 ⟨m, hm, r, hb⟩, e⟩
  · rintro ⟨b, hb, rfl⟩
    obtain ⟨m, hm, r, hr⟩ := mem_all.1 hb
    exact ⟨_, (h.ent m hm r b hr).2.2, rfl⟩
theorem SInv.len {T : Nat → List Bun} {P : List Pl} (h : SInv T P) : P.length = (allT T).length := by
  have hp : (P.map fun x => x.1).Perm ((allT T).map idOf) := (List.perm_ext_iff_of_nodup h.key (UnId.map.1 h.unId)).2 fun n => h.keys n
  simpa using hp.length_eq
theorem sinv_nil : SInv (fun _ => []) [] := ⟨fun _ _ _ h => by simp at h, fun _ _ _ _ h => by simp at h, by simp⟩
theorem all_nil : allT (fun _ => []) = [] := by
  unfold allT
  rw [List.flatMap_eq_nil_iff]
  exact fun _ _ => rfl
theorem SInv.add {T : Nat → List Bun} {P : List Pl} (h : SInv T P) {b : Bun} {m : Nat} (hm : m < 32) (hb : b.m = (m : Int)) (hc : checkB b = true) (hn : idOf b ∉ P.map fun x => x.1) :
    SInv (updT T m (T m ++ [b])) (P ++ [(idOf b, m, (T m).length)]) ∧ (allT (updT T m (T m ++ [b]))).Perm (allT T ++ [b]) := by
  have hget : ∀ m' r x, (updT T m (T m ++ [b]) m')[r]? = some x ↔ (T m')[r]? = some x ∨ (m' = m ∧ r = (T m).length ∧ x = b) := by
    intro m' r x
    unfold updT
    by_cases e : m' = m
    · subst e
      rw [if_pos rfl, List.getElem?_append]
      split
      · rename_i hlt
        exact ⟨.inl, fun hh => hh.elim id fun hh => by omega⟩
      · rename_i hge
        rw [List.getElem?_eq_none (Nat.le_of_not_lt hge)]
        by_cases er : r = (T m').length
        · subst er
          simp only [Nat.sub_self, List.getElem?_cons_zero, Option.some.injEq, true_and]
          exact ⟨fun e => .inr e.symm, fun hh => hh.elim (fun e => by cases e) Eq.symm⟩
        · rw [List.getElem?_eq_none (by simp; omega)]
          exact ⟨fun e => (by cases e), fun hh => hh.elim (fun e => by cases e) fun e => absurd e.2.1 er⟩
    · rw [if_neg e]
      exact ⟨.inl, fun hh => hh.elim id fun hh => absurd hh.1 e⟩
  have hS : SInv (updT T m (T m ++ [b])) (P ++ [(idOf b, m, (T m).length)]) := by
    refine ⟨fun n m' r hx => ?_, fun m' hm' r x hx => ?_, ?_⟩
    · rcases List.mem_append.1 hx with hx | hx
      · obtain ⟨h1, c, h2, h3⟩ := h.row _ _ _ hx
        exact ⟨h1, c, (hget _ _ _).2 (.inl h2), h3⟩
      · simp only [List.mem_singleton, Prod.mk.injEq] at hx
        obtain ⟨rfl, rfl, rfl⟩ := hx
        exact ⟨hm, b, (hget _ _ _).2 (.inr ⟨rfl, rfl, rfl⟩), rfl⟩
    · rcases (hget _ _ _).1 hx with hx | ⟨rfl, rfl, rfl⟩
      · obtain ⟨h1, h2, h3⟩ := h.ent m' hm' r x hx
        exact ⟨h1, h2, List.mem_append_left _ h3⟩
      · exact ⟨hb, hc, by simp⟩
    · rw [List.map_append]
      refine List.nodup_append.2 ⟨h.key, by simp, fun x hx y hy => ?_⟩
      simp only [List.map_cons, List.map_nil, List.mem_singleton] at hy
      subst hy
      exact fun e => hn (e ▸ hx)
  refine ⟨hS, perm_of_mem hS.unId ?_ fun x => ?_⟩
  · rw [UnId.map, List.map_append]
    refine List.nodup_append.2 ⟨UnId.map.1 h.unId, by simp, fun x hx y hy => ?_⟩
    simp only [List.map_cons, List.map_nil, List.mem_singleton] at hy
    subst hy
    exact fun e => hn ((h.keys _).2 (e ▸ hx))
  · rw [mem_all, List.mem_append, mem_all, List.mem_singleton]
    constructor
    · rintro ⟨m', hm', r, hx⟩
      rcases (hget _ _ _).1 hx with hx | ⟨_, _, rfl⟩
      · exact .inl ⟨m', hm', r, hx⟩
      · exact .inr rfl
    · rintro (⟨m', hm', r, hx⟩ | rfl)
      · exact ⟨m', hm', r, (hget _ _ _).2 (.inl hx)⟩
      · exact ⟨m, hm, _, (hget _ _ _).2 (.inr ⟨rfl, rfl, rfl⟩)⟩
end Go.Proofs.Ytmkfjelpekkmmaa
