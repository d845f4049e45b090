/-
  Chapter texts WoP CmL DkV DkW TpA: what the claim reaches of them. Conditions stand at each theorem.
-/
import Derived.Test.YtoimjjhopljdmaaGreatY35
import Derived.Test.YtoimjjhopljdmaaGreatY07
import Derived.Test.YtoimjjhopljdmaaGreatY01
import Derived.Test.YtoimjjhopljdmaaGreatY02
import Derived.Test.YtoimjjhopljdmaaGreatY29
import Derived.Test.YtoimjjhopljdmaaGreatY08
import Derived.Test.YtoimjjhopljdmaaGreatY09
import Derived.Test.YtoimjjhopljdmaaGreatY30
import Derived.Test.YtoimjjhopljdmaaGreatY19
import Derived.Test.YtoimjjhopljdmaaGreatY20
namespace Go.Proofs.YtoimjjhopljdmaaGreat
open Go.RowKit
structure GM (ids : Nat) (M : List Sh) : Prop where
  i16 : ids ≤ 16
  m16 : M.length ≤ 16
  len : ∀ m ∈ M, m.all.length = ids
  good : ∀ m ∈ M, Good m
theorem GM.set {ids : Nat} {M : List Sh} (h : GM ids M) {k : Nat} {m' : Sh} (hl : m'.all.length = ids) (hg : Good m') : GM ids (M.set k m') := by
  refine ⟨h.i16, by rw [List.length_set]; exact h.m16, fun a ha => ?_, fun a ha => ?_⟩
  · rcases List.mem_or_eq_of_mem_set ha with ha | rfl
    · exact h.len a ha
    · exact hl
  · rcases List.mem_or_eq_of_mem_set ha with ha | rfl
    · exact h.good a ha
    · exact hg
theorem shOf_iff {M : List Sh} {k : Int} {m : Sh} : shOf M k = some m ↔ ∃ n : Nat, k = n ∧ M[n]? = some m := by
  unfold shOf
  constructor
  · intro h
    split at h
    · exact ⟨k.toNat, by omega, h⟩
    · cases h
  · rintro ⟨n, rfl, h⟩
    rw [if_pos (Int.natCast_nonneg n), Int.toNat_natCast]; exact h
theorem ixOf_iff {M : List Sh} {k i : Int} {x : Ix} : ixOf M k i = some x ↔ ∃ (n j : Nat) (m : Sh), k = n ∧ i = j ∧ M[n]? = some m ∧ m.all[j]? = some x := by
  unfold ixOf
  constructor
  · intro h
    obtain ⟨m, hm, hx⟩ := Option.bind_eq_some_iff.1 h
    obtain ⟨n, rfl, hn⟩ := shOf_iff.1 hm
    split at hx
    · exact ⟨n, i.toNat, m, rfl, by omega, hn, hx⟩
    · cases hx
  · rintro ⟨n, j, m, rfl, rfl, hm, hx⟩
    rw [shOf_iff.2 ⟨n, rfl, hm⟩]
    simp only [Option.bind_some, if_pos (Int.natCast_nonneg j), Int.toNat_natCast]; exact hx
theorem ixOf_set {M : List Sh} {k j : Nat} {m : Sh} {x y : Ix} {fr : List Int} (hm : M[k]? = some m) (hx : m.all[j]? = some x) (s i : Int) : ixOf (M.set k ⟨m.all.set j y, fr⟩) s i = if s = k ∧ i = j then some y else ixOf M s i := by
  have hk := (List.getElem?_eq_some_iff.1 hm).1
  have hj := (List.getElem?_eq_some_iff.1 hx).1
  apply Option.ext
  intro a
  constructor
  · intro h
    obtain ⟨n, q, m', rfl, rfl, h1, h2⟩ := ixOf_iff.1 h
    by_cases hn : n = k
    · subst hn
      rw [List.getElem?_set_self hk] at h1
      cases h1
      by_cases hq : q = j
      · subst hq
        rw [List.getElem?_set_self hj] at h2
        rw [if_pos ⟨rfl, rfl⟩]; exact h2
      · rw [List.getElem?_set_ne (Ne.symm hq)] at h2
        rw [if_neg (fun e => hq (by omega))]
        exact ixOf_iff.2 ⟨n, q, m, rfl, rfl, hm, h2⟩
    · rw [List.getElem?_set_ne (Ne.symm hn)] at h1
      rw [if_neg (fun e => hn (by omega))]
      exact ixOf_iff.2 ⟨n, q, m', rfl, rfl, h1, h2⟩
  · intro h
    by_cases he : s = k ∧ i = j
    · obtain ⟨rfl, rfl⟩ := he
      rw [if_pos ⟨rfl, rfl⟩] at h
      exact ixOf_iff.2 ⟨k, j, _, rfl, rfl, List.getElem?_set_self hk, by rw [List.getElem?_set_self hj]; exact h⟩
    · rw [if_neg he] at h
      obtain ⟨n, q, m', rfl, rfl, h1, h2⟩ := ixOf_iff.1 h
      by_cases hn : n = k
      · subst hn
        rw [hm] at h1
        cases h1
        exact ixOf_iff.2 ⟨n, q, _, rfl, rfl, List.getElem?_set_self hk, by rw [List.getElem?_set_ne (fun e => he ⟨rfl, by omega⟩)]; exact h2⟩
      · exact ixOf_iff.2 ⟨n, q, m', rfl, rfl, by rw [List.getElem?_set_ne (Ne.symm hn)]; exact h1, h2⟩
def alN (M : List Sh) (n : Nid) : Prop := aliveF M n.s n.i n.g = true
theorem alN_iff {M : List Sh} {n : Nid} : alN M n ↔ ∃ x, ixOf M n.s n.i = some x ∧ x.alive = true ∧ x.gen = n.g := by
  unfold alN aliveF
  cases h : ixOf M n.s n.i with
  | none => simp
  | some x => simp
def usedN (M : List Sh) (n : Nid) : Prop := ∃ x, ixOf M n.s n.i = some x ∧ (n.g < x.gen ∨ (n.g = x.gen ∧ x.alive = true))
theorem alN.used {M : List Sh} {n : Nid} (h : alN M n) : usedN M n := by
  obtain ⟨x, h1, h2, h3⟩ := alN_iff.1 h
  exact ⟨x, h1, .inr ⟨h3.symm, h2⟩⟩
structure Beg (ids : Nat) (M : List Sh) (k : Int) (M' : List Sh) (n : Nid) : Prop where
  gm : GM ids M'
  len : M'.length = M.length
  al : ∀ a, alN M' a ↔ alN M a ∨ a = n
  fresh : ¬ usedN M n
  used : ∀ a, usedN M a → usedN M' a
  s : n.s = k
theorem take_go {M : List Sh} {k i : Nat} {m : Sh} {fs : List Int} {x : Ix} (hm : M[k]? = some m) (hf : m.free = (i : Int) :: fs) (hx : m.all[i]? = some x) (hg : Good m) (hb : x.gen < x.bound) : takeF M k i x.gen = (0, M.set k ⟨m.all.set i ⟨x.gen, x.bound, true⟩, fs⟩) := by
  have hkl := (List.getElem?_eq_some_iff.1 hm).1
  have hix : ixOf M k i = some x := ixOf_iff.2 ⟨k, i, m, rfl, rfl, hm, hx⟩
  have hfr : frOf M k = (i : Int) :: fs := by rw [frOf_nat hm]; exact hf
  have h0 := (hg.inv.rng i x hx).1
  have hnd := hg.inv.nd
  rw [hf] at hnd
  have hni := (List.nodup_cons.1 hnd).1
  unfold takeF
  simp only [hix, hfr]
  rw [if_neg (by omega), if_neg (by simp), if_neg (by omega), setIx_nat _ hm]
  rw [setFr_nat (m := { m with all := m.all.set i ⟨x.gen, x.bound, true⟩ }) _ (List.getElem?_set_self hkl), List.set_set]
  have e : ((i : Int) :: fs).filter (fun j => !(j == (i : Int))) = fs := by
    rw [List.filter_cons]
    simp only [beq_self_eq_true, Bool.not_true, Bool.false_eq_true, if_false]
    rw [List.filter_eq_self]
    intro a ha
    simp only [Bool.not_eq_true', beq_eq_false_iff_ne]
    intro e; subst e; exact hni ha
  rw [e]
theorem res_go {M : List Sh} {k i : Nat} {m : Sh} {x : Ix} (hm : M[k]? = some m) (hx : m.all[i]? = some x) (hb : ¬ x.bound = 1048576) : reserveF M k i = (0, M.set k { m with all := m.all.set i { x with bound := min (x.bound + 8) 1048576 } }) := by
  have hix : ixOf M k i = some x := ixOf_iff.2 ⟨k, i, m, rfl, rfl, hm, hx⟩
  unfold reserveF
  simp only [hix, if_neg hb]
  rw [setIx_nat _ hm]
theorem beg_pool {ids : Nat} {M : List Sh} (h : GM ids M) {k : Int} (hh : (headF M k).2.2 = 0) :
    ∃ f g : Int, f = (headF M k).1 ∧ g = genF M k (headF M k).1 ∧ ((headF M k).2.1 = true → (takeF M k f g).1 = 0 ∧ Beg ids M k (takeF M k f g).2 ⟨k, f, g⟩) ∧
      ((headF M k).2.1 = false → (reserveF M k f).1 = 0 ∧ (takeF (reserveF M k f).2 k f g).1 = 0 ∧ Beg ids M k (takeF (reserveF M k f).2 k f g).2 ⟨k, f, g⟩) := by
  obtain ⟨m, x, f, fs, hm, hmem, hf, hx, he, h1, h2, q1, q2, q3, q4, hix⟩ := head_ok h.good hh
  obtain ⟨n, rfl, hn⟩ := shOf_iff.1 hm
  obtain ⟨i, rfl⟩ := Int.eq_ofNat_of_zero_le h1
  rw [Int.toNat_natCast] at hx
  have hG := h.good m hmem
  have hge : genF M (n : Int) (i : Int) = x.gen := by unfold genF; rw [hix]
  rw [he]
  refine ⟨(i : Int), x.gen, rfl, hge.symm, ?_⟩
  obtain ⟨x', hx', _, _, hgood⟩ := nextF_cons hn hf hG
  rw [Int.toNat_natCast, hx] at hx'
  cases hx'
  rw [Int.toNat_natCast] at hgood
  have hdead := hG.inv.dead (i : Int) (by rw [hf]; simp) x (by simpa using hx)
  have key : ∀ M', M' = M.set n ⟨m.all.set i (nxtIx x), fs⟩ → Beg ids M (n : Int) M' ⟨n, i, x.gen⟩ := by
    rintro M' rfl
    have hset := fun s j => ixOf_set (y := nxtIx x) (fr := fs) hn hx s j
    refine ⟨h.set (by rw [List.length_set]; exact h.len m hmem) hgood, List.length_set .., fun a => ?_, ?_, fun a ha => ?_, rfl⟩
    · rw [alN_iff, hset, alN_iff]
      by_cases he2 : a.s = (n : Int) ∧ a.i = (i : Int)
      · rw [if_pos he2]
        constructor
        · rintro ⟨y, hy, _, h4⟩
          cases hy
          refine .inr ?_
          obtain ⟨a1, a2, a3⟩ := a
          simp only at he2 h4
          rw [he2.1, he2.2, ← h4]; rfl
        · rintro (⟨y, hy, h3, h4⟩ | rfl)
          · rw [he2.1, he2.2, hix] at hy; cases hy; rw [hdead] at h3; cases h3
          · exact ⟨_, rfl, rfl, rfl⟩
      · rw [if_neg he2]
        constructor
        · intro h; exact .inl h
        · rintro (h | rfl)
          · exact h
          · exact absurd ⟨rfl, rfl⟩ he2
    · rintro ⟨y, hy, h3⟩
      rw [hix] at hy
      cases hy
      simp only at h3
      rcases h3 with h3 | h3
      · omega
      · rw [hdead] at h3; cases h3.2
    · obtain ⟨y, hy, h3⟩ := ha
      by_cases he2 : a.s = (n : Int) ∧ a.i = (i : Int)
      · rw [he2.1, he2.2, hix] at hy
        cases hy
        refine ⟨nxtIx x, by rw [hset, if_pos he2], ?_⟩
        rcases h3 with h3 | h3
        · exact .inl h3
        · exact .inr ⟨h3.1, rfl⟩
      · exact ⟨y, by rw [hset, if_neg he2]; exact hy, h3⟩
  constructor
  · intro hb
    have hb : x.gen < x.bound := by simpa using hb
    rw [take_go hn hf hx hG hb]
    refine ⟨rfl, key _ ?_⟩
    simp only [nxtIx, if_pos hb]
  · intro hb
    have hb : ¬ x.gen < x.bound := by simpa using hb
    rw [res_go hn hx (by omega)]
    have hkl := (List.getElem?_eq_some_iff.1 hn).1
    have hil := (List.getElem?_eq_some_iff.1 hx).1
    have hr := hG.inv.rng i x hx
    have hn1 : (M.set n { m with all := m.all.set i { x with bound := min (x.bound + 8) 1048576 } })[n]? = some { m with all := m.all.set i { x with bound := min (x.bound + 8) 1048576 } } := List.getElem?_set_self hkl
    have hG1 : Good { m with all := m.all.set i { x with bound := min (x.bound + 8) 1048576 } } := by
      refine set_good hG _ (hG.inv.set_ix i _ ⟨hr.1, hr.2.1, ?_, ?_, fun ha => hr.2.2.2.2 ha⟩ fun _ => hdead) ?_ ?_ fun _ => q2
      · simp only; omega
      · simp only; omega
      · simp only; omega
      · simp only; intro ha; rw [hdead] at ha; cases ha
    have ht := take_go (x := { x with bound := min (x.bound + 8) 1048576 }) hn1 hf (List.getElem?_set_self hil) hG1 (by simp only; omega)
    simp only at ht
    rw [ht]
    refine ⟨rfl, rfl, key _ ?_⟩
    rw [List.set_set, List.set_set]
    simp only [nxtIx, if_neg hb]
theorem free_pool {ids : Nat} {M : List Sh} (h : GM ids M) (d : Nid) : GM ids (freeF M d.s d.i d.g).2 ∧ (freeF M d.s d.i d.g).2.length = M.length ∧ (∀ a, alN (freeF M d.s d.i d.g).2 a ↔ alN M a ∧ a ≠ d) ∧ (∀ a, usedN M a → usedN (freeF M d.s d.i d.g).2 a) ∧ ((freeF M d.s d.i d.g).1 = 0 ↔ alN M d) := by
  by_cases hd : alN M d
  · obtain ⟨x, hx, ha, hg⟩ := alN_iff.1 hd
    obtain ⟨n, i, m, h1, h2, hm, hxi⟩ := ixOf_iff.1 hx
    have hG := h.good m (List.mem_of_getElem? hm)
    obtain ⟨e1, e2⟩ := freeF_alive hm hxi ha hG
    obtain ⟨ds, di, dg⟩ := d
    simp only at h1 h2 hg hx ⊢
    subst h1 h2 hg
    rw [e1]
    have hl : (freedSh m i x).all = m.all.set i ⟨x.gen + 1, x.bound, false⟩ := by unfold freedSh; split <;> rfl
    have hset : ∀ s j, ixOf (M.set n (freedSh m i x)) s j = if s = (n : Int) ∧ j = (i : Int) then some ⟨x.gen + 1, x.bound, false⟩ else ixOf M s j := fun s j => by
      have e : freedSh m i x = ⟨m.all.set i ⟨x.gen + 1, x.bound, false⟩, (freedSh m i x).free⟩ := by rw [← hl]
      rw [e]
      exact ixOf_set hm hxi s j
    refine ⟨h.set (by rw [hl, List.length_set]; exact h.len m (List.mem_of_getElem? hm)) e2, List.length_set .., fun a => ?_, fun a hu => ?_, ?_⟩
    · rw [alN_iff, hset, alN_iff]
      by_cases he2 : a.s = (n : Int) ∧ a.i = (i : Int)
      · rw [if_pos he2]
        constructor
        · rintro ⟨y, hy, h3, _⟩; cases hy; cases h3
        · rintro ⟨⟨y, hy, h3, h4⟩, hne⟩
          rw [he2.1, he2.2, hx] at hy
          cases hy
          obtain ⟨a1, a2, a3⟩ := a
          simp only at he2 h4
          exact absurd (by rw [he2.1, he2.2, h4]) hne
      · rw [if_neg he2]
        constructor
        · intro h3; exact ⟨h3, fun e => he2 (by rw [e]; exact ⟨rfl, rfl⟩)⟩
        · exact fun h3 => h3.1
    · obtain ⟨y, hy, h3⟩ := hu
      by_cases he2 : a.s = (n : Int) ∧ a.i = (i : Int)
      · rw [he2.1, he2.2, hx] at hy
        cases hy
        exact ⟨_, by rw [hset, if_pos he2], .inl (by simp only; rcases h3 with h3 | h3 <;> omega)⟩
      · exact ⟨y, by rw [hset, if_neg he2]; exact hy, h3⟩
    · exact ⟨fun _ => hd, fun _ => rfl⟩
  · have e : (freeF M d.s d.i d.g).2 = M ∧ (freeF M d.s d.i d.g).1 ≠ 0 := by
      unfold freeF
      cases hx : ixOf M d.s d.i with
      | none => exact ⟨rfl, by simp⟩
      | some x =>
        simp only
        split
        · exact ⟨rfl, by simp⟩
        · split
          · exact ⟨rfl, by simp⟩
          · rename_i h3
            simp only [Bool.not_eq_false, Bool.and_eq_true, beq_iff_eq] at h3
            exact absurd (alN_iff.2 ⟨x, hx, h3.1, h3.2⟩) hd
    rw [e.1]
    exact ⟨h, rfl, fun a => ⟨fun h3 => ⟨h3, fun e => hd (e ▸ h3)⟩, fun h3 => h3.1⟩, fun _ h => h, ⟨fun h3 => absurd h3 e.2, fun h3 => absurd h3 hd⟩⟩
theorem frees_pool {ids : Nat} : ∀ (l : List Nid) {M : List Sh} (n : Nat), GM ids M → GM ids (freesF M n l).2 ∧ (freesF M n l).2.length = M.length ∧ (∀ a, alN (freesF M n l).2 a ↔ alN M a ∧ a ∉ l) ∧ (∀ a, usedN M a → usedN (freesF M n l).2 a)
  | [], M, n, h => ⟨h, rfl, fun a => ⟨fun h3 => ⟨h3, by simp⟩, fun h3 => h3.1⟩, fun _ h => h⟩
  | x :: l, M, n, h => by
    obtain ⟨h1, h2, h3, h4, _⟩ := free_pool h x
    obtain ⟨g1, g2, g3, g4⟩ := frees_pool l (n + if (freeF M x.s x.i x.g).1 = 0 then 1 else 0) h1
    rw [freesF]
    refine ⟨g1, g2.trans h2, fun a => ?_, fun a ha => g4 a (h4 a ha)⟩
    rw [g3, h3]
    simp only [List.mem_cons, not_or]
    constructor
    · rintro ⟨⟨q1, q2⟩, q3⟩; exact ⟨q1, q2, q3⟩
    · rintro ⟨q1, q2, q3⟩; exact ⟨⟨q1, q2⟩, q3⟩
end Go.Proofs.YtoimjjhopljdmaaGreat
namespace Go.Proofs.YtoimjjhopljdmaaGreat
open Go.RowKit

theorem RIn.ldm {w : World} {v : Value} {l : List Cm} (h : RIn cmC w v l) {j : Nat} {b : Cm} (hk : l[j]? = some b) : ∃ blk off cap, v = .slice (some ⟨blk, off, none⟩) l.length cap ∧ ∀ d os, (ldM ⟨blk, off + j * 16, none⟩).run Tryz.prog (more w d os) = .ok (.agg (cmC b).toArray) (more w d os) := by
  obtain ⟨g, o, c, hv, h1, h2⟩ := h.cells cmC_len hk
  exact ⟨g, o, c, hv, fun d os => ldM_of b fun j' u hj => (more_cell w d os ⟨g, o + j * 16 + j', none⟩ h1).trans (h2 j' u hj)⟩
attribute [local go_sem ↓] loadVar_ldM storeVar_stM
end Go.Proofs.YtoimjjhopljdmaaGreat
namespace Go.Proofs.YtoimjjhopljdmaaGreat
open Go.RowKit

def lookedF (c : Cfg) (D : Dk) (m : Cm) : Dk := if (lookF c D m).2.1 = true then (reservedF D (lookF c D m).1.b.s (lookF c D m).1.b.i).2 else D
end Go.Proofs.YtoimjjhopljdmaaGreat
namespace Go.Proofs.YtoimjjhopljdmaaGreat
open Go.RowKit

theorem look_cases (c : Cfg) (D : Dk) (m : Cm) : (∃ e : Int, e ≠ 0 ∧ lookF c D m = (zeroCm, false, e)) ∨ (m.k = 1 ∧ (headF D.M (ofF c m.b.x m.b.y)).2.2 = 0 ∧ lookF c D m = (nameCm m (ofF c m.b.x m.b.y) (headF D.M (ofF c m.b.x m.b.y)).1 (genF D.M (ofF c m.b.x m.b.y) (headF D.M (ofF c m.b.x m.b.y)).1), !(headF D.M (ofF c m.b.x m.b.y)).2.1, 0)) ∨ (m.k ≠ 1 ∧ lookF c D m = (m, false, 0)) := by
  unfold lookF
  split
  · exact .inl ⟨1, by omega, rfl⟩
  split
  · rename_i hk
    split
    · exact .inl ⟨5, by omega, rfl⟩
    split
    · exact .inl ⟨8, by omega, rfl⟩
    split
    · exact .inl ⟨13, by omega, rfl⟩
    rename_i hh
    exact .inr (.inl ⟨hk, Decidable.not_not.1 hh, rfl⟩)
  · rename_i hk
    split
    · exact .inl ⟨9, by omega, rfl⟩
    split
    · exact .inl ⟨10, by omega, rfl⟩
    split
    · exact .inl ⟨8, by omega, rfl⟩
    exact .inr (.inr ⟨hk, rfl⟩)
theorem st_at (V : World) (b : Nat) (h16 : ∀ j, j < 16 → (V.cell? ⟨b, j, none⟩).isSome = true) (hf : ∀ j, V.frozen? ⟨b, j, none⟩ = false) (m : Cm) : (stM ⟨b, 0, none⟩ (.agg (cmC m).toArray)).run Tryz.prog V = .ok () (V.setCells b 0 (cmC m)) := by
  have h := Go.run_storeCells_cells (P := Tryz.prog) b 0 (cmC m) 0 V (fun j hj => by rw [show 0 + 0 + j = j by omega]; exact h16 j hj) (fun j _ => hf _) (cmC_one m)
  exact stM_of m (by simpa using h)
theorem arr16 {cur : Array Value} {m : Cm} (hs : cur.size = 16) (hin : ∀ (j : Nat) (u : Value), (cmC m)[j]? = some u → cur[j]? = some u) : cur = (cmC m).toArray := by
  apply Array.ext_getElem?
  intro j
  have e : (cmC m).toArray[j]? = (cmC m)[j]? := List.getElem?_toArray ..
  rw [e]
  cases h : (cmC m)[j]? with
  | some u => exact hin j u h
  | none =>
    have := List.getElem?_eq_none_iff.1 h
    rw [cmC_len] at this
    exact Array.getElem?_eq_none (by omega)
theorem cells_box (V : World) (b : Nat) (a : Array Value) (T : TypeId) (ha : a.size = 16) (hh : V.heap[b]? = some (.cells a T (0, 0))) (m : Cm) : (V.setCells b 0 (cmC m)).heap[b]? = some (.cells (cmC m).toArray T (0, 0)) := by
  obtain ⟨cur', hg', hs', _, hin, _⟩ := setCells_heap b T (0, 0) (cmC m) 0 V a hh (by rw [cmC_len]; omega)
  have e := arr16 (cur := cur') (m := m) (by omega) fun j u hj => by have := hin j u hj; rwa [Nat.zero_add] at this
  rw [hg', e]
theorem new_cmO (W : World) (m : Cm) : ∃ w5, (stM ⟨W.heap.size, 0, none⟩ (.agg (cmC m).toArray)).run Tryz.prog (W.alloc (.cells #[.int .i64 0, .int .i64 0, .int .i64 0, .int .i64 0, .int .i64 0, .int .i64 0, .int .i64 0, .int .i64 0, .int .i64 0, .int .i64 0, .int .i64 0, .int .i64 0, .int .i64 0, .int .i64 0, .int .i64 0, .int .i64 0] 34)) = .ok () w5 ∧ Made W w5 (boxO W.heap.size (cmC m).toArray 34) := by
  obtain ⟨k5, g5, s5, b5⟩ := new_box W #[.int .i64 0, .int .i64 0, .int .i64 0, .int .i64 0, .int .i64 0, .int .i64 0, .int .i64 0, .int .i64 0, .int .i64 0, .int .i64 0, .int .i64 0, .int .i64 0, .int .i64 0, .int .i64 0, .int .i64 0, .int .i64 0] 34 W.heap.size rfl
  have hh := heap_alloc_new W (.cells #[.int .i64 0, .int .i64 0, .int .i64 0, .int .i64 0, .int .i64 0, .int .i64 0, .int .i64 0, .int .i64 0, .int .i64 0, .int .i64 0, .int .i64 0, .int .i64 0, .int .i64 0, .int .i64 0, .int .i64 0, .int .i64 0] 34)
  generalize W.alloc (.cells #[.int .i64 0, .int .i64 0, .int .i64 0, .int .i64 0, .int .i64 0, .int .i64 0, .int .i64 0, .int .i64 0, .int .i64 0, .int .i64 0, .int .i64 0, .int .i64 0, .int .i64 0, .int .i64 0, .int .i64 0, .int .i64 0] 34) = V at *
  have hx := cells_box V W.heap.size _ _ rfl hh m
  have h0 := st_at V W.heap.size (fun j hj => by rw [k5 j, Array.getElem?_eq_getElem (by simpa using hj)]; rfl) g5 m
  have ht := setCells_turned W.heap.size (cmC m) 0 V
  exact ⟨_, h0, fun x => x = W.heap.size, ⟨hx, fun _ => Iff.rfl⟩, Turned.below_new ht (fun q hq => by cases hq; exact Nat.le_refl _) b5 b5.size, fun x hx => Nat.le_of_eq hx.symm⟩
attribute [local go_sem ↓] loadVar_ldM storeVar_stM
end Go.Proofs.YtoimjjhopljdmaaGreat
namespace Go.Proofs.YtoimjjhopljdmaaGreat
open Go.RowKit Go.Sort
def Rise (l : List Bun) : Prop := l.Pairwise fun a b => bef a b = true
theorem cmp_id (a b : Bun) : cmpBun a b = cmpN (idOf a) (idOf b) := rfl
theorem bef_id {a b a' b' : Bun} (ha : idOf a' = idOf a) (hb : idOf b' = idOf b) : bef a' b' = bef a b := by
  rw [bef_cmp, bef_cmp, cmp_id, cmp_id, ha, hb]
theorem bef_befN (a b : Bun) : bef a b = befN (idOf a) (idOf b) := by
  rw [bef_cmp, cmp_id]; unfold befN ltOf; rfl
theorem sameId_iff (a b : Bun) : sameId a b ↔ idOf a = idOf b := by
  unfold sameId idOf
  simp only [Nid.mk.injEq]
theorem rise_un {l : List Bun} (h : Rise l) : UnId l := h.imp fun {a b} h1 h2 => by
  rw [bef_befN, (sameId_iff a b).1 h2, befN_irr] at h1; cases h1
theorem rise_ids {l : List Bun} (h : Rise l) : (l.map idOf).Pairwise fun a b => befN a b = true := by
  rw [List.pairwise_map]
  exact h.imp fun {a b} h1 => by rwa [bef_befN] at h1
theorem rise_nodup {l : List Bun} (h : Rise l) : (l.map idOf).Nodup := (rise_ids h).imp fun {a b} h1 e => by subst e; rw [befN_irr] at h1; cases h1
theorem rise_eq {l l' : List Bun} (h : Rise l) (h' : Rise l') (hp : l.Perm l') : l = l' := by
  refine List.Perm.eq_of_pairwise (le := fun a b => bef a b = true) (fun a b _ _ h1 h2 => ?_) h h' hp
  rw [bef_befN] at h1 h2
  have := befN_trans h1 h2
  rw [befN_irr] at this; cases this
theorem ins_perm (l : List Bun) (i : Nat) (b : Bun) : (insF l i b).Perm (b :: l) := by
  unfold insF
  refine List.perm_middle.trans (List.Perm.cons _ ?_)
  rw [List.take_append_drop]
def KeepId (f : Bun → Bun × Bool) : Prop := ∀ b, (f b).2 = true → idOf (f b).1 = idOf b
theorem each_cons (f : Bun → Bun × Bool) (x : Bun) (l : List Bun) : eachL f (x :: l) = (if (f x).2 then [(f x).1] else []) ++ eachL f l := by
  unfold eachL
  rw [List.filter_cons]
  split <;> simp
theorem eachD_cons (f : Bun → Bun × Bool) (x : Bun) (l : List Bun) : eachD f (x :: l) = (if (f x).2 then [] else [idOf x]) ++ eachD f l := by
  unfold eachD
  rw [List.filter_cons]
  cases (f x).2 <;> simp
theorem each_mem {f : Bun → Bun × Bool} {l : List Bun} {b : Bun} : b ∈ eachL f l ↔ ∃ x ∈ l, (f x).2 = true ∧ (f x).1 = b := by
  unfold eachL
  simp only [List.mem_map, List.mem_filter]
  constructor
  · rintro ⟨x, ⟨h1, h2⟩, h3⟩; exact ⟨x, h1, h2, h3⟩
  · rintro ⟨x, h1, h2, h3⟩; exact ⟨x, ⟨h1, h2⟩, h3⟩
theorem each_rise {f : Bun → Bun × Bool} (hf : KeepId f) {l : List Bun} (h : Rise l) : Rise (eachL f l) := by
  unfold Rise eachL
  rw [List.pairwise_map]
  refine (List.Pairwise.sublist List.filter_sublist (List.Pairwise.and_mem.1 h)).imp_of_mem ?_
  rintro a b ha hb ⟨_, _, h1⟩
  rw [bef_id (hf a (List.mem_filter.1 ha).2) (hf b (List.mem_filter.1 hb).2)]
  exact h1
theorem each_ids {f : Bun → Bun × Bool} (hf : KeepId f) : ∀ l : List Bun, ((eachL f l).map idOf ++ eachD f l).Perm (l.map idOf)
  | [] => by simp [eachL, eachD]
  | x :: l => by
    have ih := each_ids hf l
    rw [each_cons, eachD_cons]
    cases h : (f x).2 with
    | true =>
      simp only [if_true, List.nil_append, List.cons_append, List.map_cons]
      rw [hf x h]
      exact List.Perm.cons _ ih
    | false =>
      simp only [Bool.false_eq_true, if_false, List.nil_append, List.cons_append, List.map_cons]
      exact List.perm_middle.trans (List.Perm.cons _ ih)
theorem keep_obey (m : Cm) : KeepId fun b => obeyF b m := fun b h => by
  replace h : (obeyF b m).2 = true := h
  show idOf (obeyF b m).1 = idOf b
  unfold obeyF at h ⊢
  by_cases h1 : idEq m.s m.i m.g b.s b.i b.g = false
  · rw [if_pos h1]
  · rw [if_neg h1] at h ⊢
    by_cases h2 : m.k = 2
    · rw [if_pos h2] at h; cases h
    · rw [if_neg h2]
      split
      · rfl
      · split <;> rfl
theorem keep_hurt (b : Bun) (n : Int) (h : (hurtF b n).2 = true) : idOf (hurtF b n).1 = idOf b := by
  unfold hurtF at h ⊢
  split
  · rfl
  · rename_i h1
    rw [if_neg h1] at h
    split
    · rename_i h2; rw [if_pos h2] at h; cases h
    · rfl
theorem keep_hit (hs : List Hit) : KeepId (hitF hs) := fun b => by
  unfold hitF
  cases hs.find? fun h => idEq h.s h.i h.g b.s b.i b.g with
  | none => intro _; rfl
  | some x => exact keep_hurt b x.n
theorem keep_pass (c : Cfg) : KeepId (passF c) := fun b h => by
  unfold passF at h ⊢
  have e : idOf (moveF c b) = idOf b := rfl
  rw [← e]
  generalize moveF c b = y at *
  unfold ageF at h ⊢
  split
  · rfl
  · rename_i h1
    rw [if_neg h1] at h
    split
    · rename_i h2; rw [if_pos h2] at h; cases h
    · rfl
theorem findB_spec (s i g : Int) : ∀ (l : List Bun) (k : Nat), Rise l → ∃ q : Nat, q ≤ l.length ∧ (findB s i g l k).1 = ((k + q : Nat) : Int) ∧ (∀ b ∈ l.take q, cmpN (idOf b) ⟨s, i, g⟩ < 0) ∧ (∀ b ∈ l.drop q, 0 ≤ cmpN (idOf b) ⟨s, i, g⟩) ∧ ((findB s i g l k).2 = true ↔ (⟨s, i, g⟩ : Nid) ∈ l.map idOf)
  | [], k, _ => ⟨0, Nat.le_refl _, rfl, by simp, by simp, by simp [findB]⟩
  | b :: l, k, h => by
    obtain ⟨h1, h2⟩ := List.pairwise_cons.1 h
    unfold findB
    by_cases hc : 0 ≤ cmpId b.s b.i b.g s i g
    · have hc' : 0 ≤ cmpN (idOf b) ⟨s, i, g⟩ := hc
      rw [if_pos hc]
      refine ⟨0, Nat.zero_le _, rfl, by simp, fun x hx => ?_, ?_⟩
      · rcases List.mem_cons.1 hx with rfl | hx
        · exact hc'
        · have hbx := h1 x hx
          rw [bef_befN] at hbx
          cases hh : befN (idOf x) ⟨s, i, g⟩ with
          | false => rwa [show (befN (idOf x) ⟨s, i, g⟩ = false) ↔ 0 ≤ cmpN (idOf x) ⟨s, i, g⟩ from ltN_not _ _] at hh
          | true =>
            have := (befN_iff _ _).1 (befN_trans hbx hh)
            omega
      · constructor
        · intro he
          have e0 : cmpN (idOf b) ⟨s, i, g⟩ = 0 := by simpa [cmpN, idOf] using he
          simp [cmpN_eq e0]
        · intro hm
          rcases List.mem_map.1 hm with ⟨x, hx, e⟩
          rcases List.mem_cons.1 hx with rfl | hx
          · show (cmpN (idOf x) ⟨s, i, g⟩ == 0) = true
            rw [e, cmpN_ok.self]; rfl
          · have hbx := h1 x hx
            rw [bef_befN, e] at hbx
            have := (befN_iff _ _).1 hbx
            omega
    · have hc' : cmpN (idOf b) ⟨s, i, g⟩ < 0 := by show cmpId b.s b.i b.g s i g < 0; omega
      rw [if_neg hc]
      obtain ⟨q, q1, q2, q3, q4, q5⟩ := findB_spec s i g l (k + 1) h2
      refine ⟨q + 1, by simpa using q1, by rw [q2]; congr 1; omega, fun x hx => ?_, by simpa using q4, ?_⟩
      · rw [List.take_succ_cons] at hx
        rcases List.mem_cons.1 hx with rfl | hx
        · exact hc'
        · exact q3 x hx
      · rw [q5, List.map_cons, List.mem_cons]
        constructor
        · exact .inr
        · rintro (e | h)
          · rw [← e, cmpN_ok.self] at hc'; omega
          · exact h
theorem ins_rise {l : List Bun} (h : Rise l) (b : Bun) (hn : (findB b.s b.i b.g l 0).2 = false) : Rise (insF l (findB b.s b.i b.g l 0).1.toNat b) := by
  obtain ⟨q, q1, q2, q3, q4, q5⟩ := findB_spec b.s b.i b.g l 0 h
  have hnot : idOf b ∉ l.map idOf := fun hm => by rw [q5.2 hm] at hn; cases hn
  rw [q2]
  simp only [Nat.zero_add, Int.toNat_natCast]
  unfold insF Rise
  have hp : (l.take q ++ l.drop q).Pairwise fun a b => bef a b = true := by rw [List.take_append_drop]; exact h
  obtain ⟨p1, p2, p3⟩ := List.pairwise_append.1 hp
  refine List.pairwise_append.2 ⟨p1, List.pairwise_cons.2 ⟨fun x hx => ?_, p2⟩, fun x hx y hy => ?_⟩
  · have h1 := q4 x hx
    have h2 := cmpN_ok.neg (idOf b) (idOf x)
    have h3 := cmpN_ok.zero (idOf x) (idOf b)
    have h4 : cmpN (idOf x) (idOf b) ≠ 0 := fun e => hnot (by rw [← cmpN_eq e]; exact List.mem_map_of_mem (List.mem_of_mem_drop hx))
    rw [bef_befN, befN_iff]
    have h1' : 0 ≤ cmpN (idOf x) (idOf b) := h1
    have h5 := cmpN_ok.neg (idOf x) (idOf b)
    omega
  · rcases List.mem_cons.1 hy with rfl | hy
    · rw [bef_befN, befN_iff]; exact q3 x hx
    · exact p3 x hx y hy
theorem cmdL_rise {c : Cfg} {z : Int} {l : List Bun} (h : Rise l) (m : Cm) : Rise (cmdL c z l m) := by
  unfold cmdL
  split
  · split
    · rename_i hs
      refine ins_rise h m.b ?_
      unfold spawnB at hs
      simp only [Bool.and_eq_true, Bool.not_eq_true'] at hs
      exact hs.1.1
    · exact h
  · exact each_rise (keep_obey m) h
theorem cmdsL_rise (c : Cfg) (z : Int) : ∀ (ms : List Cm) {l : List Bun}, Rise l → Rise (cmdsL c z l ms)
  | [], _, h => h
  | m :: ms, _, h => cmdsL_rise c z ms (cmdL_rise h m)
theorem hurtL_rise (r : Int) {own : List Bun} (near : List Bun) (h : UnId own) : Rise (hurtL r own near) := each_rise (keep_hit _) (stF_rise h)
theorem leftL_rise (c : Cfg) (z : Int) {own : List Bun} (near : List Bun) (ms : List Cm) (h : UnId own) : Rise (leftL c z own near ms) := each_rise (keep_pass c) (cmdsL_rise c z ms (hurtL_rise _ near h))
def hasN (l : List Bun) (n : Nid) : Bool := (l.map idOf).contains n
theorem spawnB_iff {c : Cfg} {z : Int} {l : List Bun} (h : Rise l) (m : Cm) : spawnB c z l m = (!hasN l (idOf m.b) && decide (0 ≤ ofF c m.b.x m.b.y) && (decide (z < 0) || decide (ofF c m.b.x m.b.y = z))) := by
  obtain ⟨q, _, _, _, _, q5⟩ := findB_spec m.b.s m.b.i m.b.g l 0 h
  have e : (findB m.b.s m.b.i m.b.g l 0).2 = hasN l (idOf m.b) := by
    unfold hasN
    rw [Bool.eq_iff_iff, q5, List.contains_iff_mem]; rfl
  unfold spawnB
  rw [e]
end Go.Proofs.YtoimjjhopljdmaaGreat
