/-
  Chapter texts WoP ZnB ZnD GhP TkP TkS GhO TpA TpB SyP ShF: what the claim reaches of them. Conditions stand at each theorem.
-/
import Derived.Test.YtoimjjhopljdmaaGreatProg
import Derived.WalkKit
import Derived.WalkSpells
import Derived.WalkLawsBesides
import Derived.Handy
import Derived.Lib.Hide
import Derived.Lib.QuietBelow
import Derived.BigQuiet
import Derived.Deep.RegionHeld3
import Derived.Deep.RegionWith
import Derived.Deep.DeepFit
import Derived.Deep.DeepCutAuto
import Derived.Deep.LoopGhost
import Derived.Deep.Light
import Derived.Shelf.SlSortCmp.KitK
import Derived.Sort.WalkB2
import Derived.Sort.WalkB12
import Derived.Sort.LotA
import Derived.Shelf.SlSortCmp.Insertion
import Derived.StillTailTactics
import Derived.Lib.MinMax
import Derived.Test.YtoimjjhopljdmaaGreatRows
import Derived.ProofKit
import Derived.OpenShut
import Derived.Carry
import Derived.ChangeSlices
import Derived.Deep.Slices
import Derived.Shelf.SlSortCmp.NoneTotal
import Derived.BigRegion
import Derived.Shelf.RegionOpenPlain
import Derived.Lib.SliceRun
import Derived.Shelf.SlicesQ.IndexFunc
import Derived.StillTail
import Derived.Test.YtoimjjhopljdmaaGreatQ01
import Derived.Test.YtoimjjhopljdmaaGreatQ02
import Derived.Test.YtoimjjhopljdmaaGreatQ03
import Derived.Test.YtoimjjhopljdmaaGreatQ04
import Derived.Test.YtoimjjhopljdmaaGreatQ05
import Derived.Test.YtoimjjhopljdmaaGreatQ06
import Derived.Test.YtoimjjhopljdmaaGreatQ07
import Derived.Test.YtoimjjhopljdmaaGreatQ08
import Derived.Test.YtoimjjhopljdmaaGreatQ09
import Derived.Test.YtoimjjhopljdmaaGreatQ10
import Derived.Test.YtoimjjhopljdmaaGreatQ11
import Derived.Test.YtoimjjhopljdmaaGreatQ12
import Derived.Test.YtoimjjhopljdmaaGreatQ13
import Derived.Test.YtoimjjhopljdmaaGreatQ14
import Derived.Test.YtoimjjhopljdmaaGreatQ15
import Derived.Test.YtoimjjhopljdmaaGreatQ16
import Derived.Test.YtoimjjhopljdmaaGreatQ17
import Derived.Test.YtoimjjhopljdmaaGreatQ18
import Derived.Test.YtoimjjhopljdmaaGreatQ19
import Derived.Test.YtoimjjhopljdmaaGreatQ20
import Derived.Test.YtoimjjhopljdmaaGreatQ21
import Derived.Test.YtoimjjhopljdmaaGreatQ22
import Derived.Test.YtoimjjhopljdmaaGreatQ23
import Derived.Test.YtoimjjhopljdmaaGreatQ24
import Derived.Test.YtoimjjhopljdmaaGreatQ25
import Derived.Test.YtoimjjhopljdmaaGreatQ26
import Derived.Test.YtoimjjhopljdmaaGreatQ27
import Derived.Test.YtoimjjhopljdmaaGreatQ28
import Derived.Test.YtoimjjhopljdmaaGreatQ29
import Derived.Test.YtoimjjhopljdmaaGreatQ30
import Derived.Test.YtoimjjhopljdmaaGreatQ31
import Derived.Test.YtoimjjhopljdmaaGreatQ32
import Derived.Test.YtoimjjhopljdmaaGreatQ33
import Derived.Test.YtoimjjhopljdmaaGreatQ34
import Derived.Test.YtoimjjhopljdmaaGreatQ35
import Derived.Test.YtoimjjhopljdmaaGreatQ36
import Derived.Test.YtoimjjhopljdmaaGreatQ37
import Derived.Test.YtoimjjhopljdmaaGreatQ38
import Derived.Test.YtoimjjhopljdmaaGreatQ39
import Derived.Test.YtoimjjhopljdmaaGreatQ40
import Derived.Test.YtoimjjhopljdmaaGreatR01
namespace Go.Proofs.YtoimjjhopljdmaaGreat
open Go.RowKit
theorem shOf_iff {M : List Sh} {k : Int} {m : Sh} : shOf M k = some m ↔ ∃ n : Nat, k = n ∧ M[n]? = some m := by
  unfold shOf
  constructor
  · intro h
    split at h
    · exact ⟨k.toNat, by omega, h⟩
    · cases h
  · rintro ⟨n, rfl, h⟩
    rw [if_pos (Int.natCast_nonneg n), Int.toNat_natCast]; exact h
theorem ixOf_iff {M : List Sh} {k i : Int} {x : Ix} : ixOf M k i = some x ↔ ∃ (n j : Nat) (m : Sh), k = n ∧ i = j ∧ M[n]? = some m ∧ m.all[j]? = some x := by
  unfold ixOf
  constructor
  · intro h
    obtain ⟨m, hm, hx⟩ := Option.bind_eq_some_iff.1 h
    obtain ⟨n, rfl, hn⟩ := shOf_iff.1 hm
    split at hx
    · exact ⟨n, i.toNat, m, rfl, by omega, hn, hx⟩
    · cases hx
  · rintro ⟨n, j, m, rfl, rfl, hm, hx⟩
    rw [shOf_iff.2 ⟨n, rfl, hm⟩]
    simp only [Option.bind_some, if_pos (Int.natCast_nonneg j), Int.toNat_natCast]; exact hx
theorem ixOf_set {M : List Sh} {k j : Nat} {m : Sh} {x y : Ix} {fr : List Int} (hm : M[k]? = some m) (hx : m.all[j]? = some x) (s i : Int) : ixOf (M.set k ⟨m.all.set j y, fr⟩) s i = if s = k ∧ i = j then some y else ixOf M s i := by
  have hk := (List.getElem?_eq_some_iff.1 hm).1
  have hj := (List.getElem?_eq_some_iff.1 hx).1
  apply Option.ext
  intro a
  constructor
  · intro h
    obtain ⟨n, q, m', rfl, rfl, h1, h2⟩ := ixOf_iff.1 h
    by_cases hn : n = k
    · subst hn
      rw [List.getElem?_set_self hk] at h1
      cases h1
      by_cases hq : q = j
      · subst hq
        rw [List.getElem?_set_self hj] at h2
        rw [if_pos ⟨rfl, rfl⟩]; exact h2
      · rw [List.getElem?_set_ne (Ne.symm hq)] at h2
        rw [if_neg (fun e => hq (by omega))]
        exact ixOf_iff.2 ⟨n, q, m, rfl, rfl, hm, h2⟩
    · rw [List.getElem?_set_ne (Ne.symm hn)] at h1
      rw [if_neg (fun e => hn (by omega))]
      exact ixOf_iff.2 ⟨n, q, m', rfl, rfl, h1, h2⟩
  · intro h
    by_cases he : s = k ∧ i = j
    · obtain ⟨rfl, rfl⟩ := he
      rw [if_pos ⟨rfl, rfl⟩] at h
      exact ixOf_iff.2 ⟨k, j, _, rfl, rfl, List.getElem?_set_self hk, by rw [List.getElem?_set_self hj]; exact h⟩
    · rw [if_neg he] at h
      obtain ⟨n, q, m', rfl, rfl, h1, h2⟩ := ixOf_iff.1 h
      by_cases hn : n = k
      · subst hn
        rw [hm] at h1
        cases h1
        exact ixOf_iff.2 ⟨n, q, _, rfl, rfl, List.getElem?_set_self hk, by rw [List.getElem?_set_ne (fun e => he ⟨rfl, by omega⟩)]; exact h2⟩
      · exact ixOf_iff.2 ⟨n, q, m', rfl, rfl, by rw [List.getElem?_set_ne (Ne.symm hn)]; exact h1, h2⟩
theorem alN_iff {M : List Sh} {n : Nid} : alN M n ↔ ∃ x, ixOf M n.s n.i = some x ∧ x.alive = true ∧ x.gen = n.g := by
  unfold alN aliveF
  cases h : ixOf M n.s n.i with
  | none => simp
  | some x => simp
def usedN (M : List Sh) (n : Nid) : Prop := ∃ x, ixOf M n.s n.i = some x ∧ (n.g < x.gen ∨ (n.g = x.gen ∧ x.alive = true))
theorem alN.used {M : List Sh} {n : Nid} (h : alN M n) : usedN M n := by
  obtain ⟨x, h1, h2, h3⟩ := alN_iff.1 h
  exact ⟨x, h1, .inr ⟨h3.symm, h2⟩⟩
structure Beg (ids : Nat) (M : List Sh) (k : Int) (M' : List Sh) (n : Nid) : Prop where
  gm : GM ids M'
  len : M'.length = M.length
  al : ∀ a, alN M' a ↔ alN M a ∨ a = n
  fresh : ¬ usedN M n
  used : ∀ a, usedN M a → usedN M' a
  s : n.s = k
theorem take_go {M : List Sh} {k i : Nat} {m : Sh} {fs : List Int} {x : Ix} (hm : M[k]? = some m) (hf : m.free = (i : Int) :: fs) (hx : m.all[i]? = some x) (hg : Good m) (hb : x.gen < x.bound) : takeF M k i x.gen = (0, M.set k ⟨m.all.set i ⟨x.gen, x.bound, true⟩, fs⟩) := by
  have hkl := (List.getElem?_eq_some_iff.1 hm).1
  have hix : ixOf M k i = some x := ixOf_iff.2 ⟨k, i, m, rfl, rfl, hm, hx⟩
  have hfr : frOf M k = (i : Int) :: fs := by rw [frOf_nat hm]; exact hf
  have h0 := (hg.inv.rng i x hx).1
  have hnd := hg.inv.nd
  rw [hf] at hnd
  have hni := (List.nodup_cons.1 hnd).1
  unfold takeF
  simp only [hix, hfr]
  rw [if_neg (by omega), if_neg (by simp), if_neg (by omega), setIx_nat _ hm]
  rw [setFr_nat (m := { m with all := m.all.set i ⟨x.gen, x.bound, true⟩ }) _ (List.getElem?_set_self hkl), List.set_set]
  have e : ((i : Int) :: fs).filter (fun j => !(j == (i : Int))) = fs := by
    rw [List.filter_cons]
    simp only [beq_self_eq_true, Bool.not_true, Bool.false_eq_true, if_false]
    rw [List.filter_eq_self]
    intro a ha
    simp only [Bool.not_eq_true', beq_eq_false_iff_ne]
    intro e; subst e; exact hni ha
  rw [e]
theorem res_go {M : List Sh} {k i : Nat} {m : Sh} {x : Ix} (hm : M[k]? = some m) (hx : m.all[i]? = some x) (hb : ¬ x.bound = 1048576) : reserveF M k i = (0, M.set k { m with all := m.all.set i { x with bound := min (x.bound + 8) 1048576 } }) := by
  have hix : ixOf M k i = some x := ixOf_iff.2 ⟨k, i, m, rfl, rfl, hm, hx⟩
  unfold reserveF
  simp only [hix, if_neg hb]
  rw [setIx_nat _ hm]
theorem beg_pool {ids : Nat} {M : List Sh} (h : GM ids M) {k : Int} (hh : (headF M k).2.2 = 0) :
    ∃ f g : Int, f = (headF M k).1 ∧ g = genF M k (headF M k).1 ∧ ((headF M k).2.1 = true → (takeF M k f g).1 = 0 ∧ Beg ids M k (takeF M k f g).2 ⟨k, f, g⟩) ∧
      ((headF M k).2.1 = false → (reserveF M k f).1 = 0 ∧ (takeF (reserveF M k f).2 k f g).1 = 0 ∧ Beg ids M k (takeF (reserveF M k f).2 k f g).2 ⟨k, f, g⟩) := by
  obtain ⟨m, x, f, fs, hm, hmem, hf, hx, he, h1, h2, q1, q2, q3, q4, hix⟩ := head_ok h.good hh
  obtain ⟨n, rfl, hn⟩ := shOf_iff.1 hm
  obtain ⟨i, rfl⟩ := Int.eq_ofNat_of_zero_le h1
  rw [Int.toNat_natCast] at hx
  have hG := h.good m hmem
  have hge : genF M (n : Int) (i : Int) = x.gen := by unfold genF; rw [hix]
  rw [he]
  refine ⟨(i : Int), x.gen, rfl, hge.symm, ?_⟩
  obtain ⟨x', hx', _, _, hgood⟩ := nextF_cons hn hf hG
  rw [Int.toNat_natCast, hx] at hx'
  cases hx'
  rw [Int.toNat_natCast] at hgood
  have hdead := hG.inv.dead (i : Int) (by rw [hf]; simp) x (by simpa using hx)
  have key : ∀ M', M' = M.set n ⟨m.all.set i (nxtIx x), fs⟩ → Beg ids M (n : Int) M' ⟨n, i, x.gen⟩ := by
    rintro M' rfl
    have hset := fun s j => ixOf_set (y := nxtIx x) (fr := fs) hn hx s j
    refine ⟨h.set (by rw [List.length_set]; exact h.len m hmem) hgood, List.length_set .., fun a => ?_, ?_, fun a ha => ?_, rfl⟩
    · rw [alN_iff, hset, alN_iff]
      by_cases he2 : a.s = (n : Int) ∧ a.i = (i : Int)
      · rw [if_pos he2]
        constructor
        · rintro ⟨y, hy, _, h4⟩
          cases hy
          refine .inr ?_
          obtain ⟨a1, a2, a3⟩ := a
          simp only at he2 h4
          rw [he2.1, he2.2, ← h4]; rfl
        · rintro (⟨y, hy, h3, h4⟩ | rfl)
          · rw [he2.1, he2.2, hix] at hy; cases hy; rw [hdead] at h3; cases h3
          · exact ⟨_, rfl, rfl, rfl⟩
      · rw [if_neg he2]
        constructor
        · intro h; exact .inl h
        · rintro (h | rfl)
          · exact h
          · exact absurd ⟨rfl, rfl⟩ he2
    · rintro ⟨y, hy, h3⟩
      rw [hix] at hy
      cases hy
      simp only at h3
      rcases h3 with h3 | h3
      · omega
      · rw [hdead] at h3; cases h3.2
    · obtain ⟨y, hy, h3⟩ := ha
      by_cases he2 : a.s = (n : Int) ∧ a.i = (i : Int)
      · rw [he2.1, he2.2, hix] at hy
        cases hy
        refine ⟨nxtIx x, by rw [hset, if_pos he2], ?_⟩
        rcases h3 with h3 | h3
        · exact .inl h3
        · exact .inr ⟨h3.1, rfl⟩
      · exact ⟨y, by rw [hset, if_neg he2]; exact hy, h3⟩
  constructor
  · intro hb
    have hb : x.gen < x.bound := by simpa using hb
    rw [take_go hn hf hx hG hb]
    refine ⟨rfl, key _ ?_⟩
    simp only [nxtIx, if_pos hb]
  · intro hb
    have hb : ¬ x.gen < x.bound := by simpa using hb
    rw [res_go hn hx (by omega)]
    have hkl := (List.getElem?_eq_some_iff.1 hn).1
    have hil := (List.getElem?_eq_some_iff.1 hx).1
    have hr := hG.inv.rng i x hx
    have hn1 : (M.set n { m with all := m.all.set i { x with bound := min (x.bound + 8) 1048576 } })[n]? = some { m with all := m.all.set i { x with bound := min (x.bound + 8) 1048576 } } := List.getElem?_set_self hkl
    have hG1 : Good { m with all := m.all.set i { x with bound := min (x.bound + 8) 1048576 } } := by
      refine set_good hG _ (hG.inv.set_ix i _ ⟨hr.1, hr.2.1, ?_, ?_, fun ha => hr.2.2.2.2 ha⟩ fun _ => hdead) ?_ ?_ fun _ => q2
      · simp only; omega
      · simp only; omega
      · simp only; omega
      · simp only; intro ha; rw [hdead] at ha; cases ha
    have ht := take_go (x := { x with bound := min (x.bound + 8) 1048576 }) hn1 hf (List.getElem?_set_self hil) hG1 (by simp only; omega)
    simp only at ht
    rw [ht]
    refine ⟨rfl, rfl, key _ ?_⟩
    rw [List.set_set, List.set_set]
    simp only [nxtIx, if_neg hb]
theorem free_pool {ids : Nat} {M : List Sh} (h : GM ids M) (d : Nid) : GM ids (freeF M d.s d.i d.g).2 ∧ (freeF M d.s d.i d.g).2.length = M.length ∧ (∀ a, alN (freeF M d.s d.i d.g).2 a ↔ alN M a ∧ a ≠ d) ∧ (∀ a, usedN M a → usedN (freeF M d.s d.i d.g).2 a) ∧ ((freeF M d.s d.i d.g).1 = 0 ↔ alN M d) := by
  by_cases hd : alN M d
  · obtain ⟨x, hx, ha, hg⟩ := alN_iff.1 hd
    obtain ⟨n, i, m, h1, h2, hm, hxi⟩ := ixOf_iff.1 hx
    have hG := h.good m (List.mem_of_getElem? hm)
    obtain ⟨e1, e2⟩ := freeF_alive hm hxi ha hG
    obtain ⟨ds, di, dg⟩ := d
    simp only at h1 h2 hg hx ⊢
    subst h1 h2 hg
    rw [e1]
    have hl : (freedSh m i x).all = m.all.set i ⟨x.gen + 1, x.bound, false⟩ := by unfold freedSh; split <;> rfl
    have hset : ∀ s j, ixOf (M.set n (freedSh m i x)) s j = if s = (n : Int) ∧ j = (i : Int) then some ⟨x.gen + 1, x.bound, false⟩ else ixOf M s j := fun s j => by
      have e : freedSh m i x = ⟨m.all.set i ⟨x.gen + 1, x.bound, false⟩, (freedSh m i x).free⟩ := by rw [← hl]
      rw [e]
      exact ixOf_set hm hxi s j
    refine ⟨h.set (by rw [hl, List.length_set]; exact h.len m (List.mem_of_getElem? hm)) e2, List.length_set .., fun a => ?_, fun a hu => ?_, ?_⟩
    · rw [alN_iff, hset, alN_iff]
      by_cases he2 : a.s = (n : Int) ∧ a.i = (i : Int)
      · rw [if_pos he2]
        constructor
        · rintro ⟨y, hy, h3, _⟩; cases hy; cases h3
        · rintro ⟨⟨y, hy, h3, h4⟩, hne⟩
          rw [he2.1, he2.2, hx] at hy
          cases hy
          obtain ⟨a1, a2, a3⟩ := a
          simp only at he2 h4
          exact absurd (by rw [he2.1, he2.2, h4]) hne
      · rw [if_neg he2]
        constructor
        · intro h3; exact ⟨h3, fun e => he2 (by rw [e]; exact ⟨rfl, rfl⟩)⟩
        · exact fun h3 => h3.1
    · obtain ⟨y, hy, h3⟩ := hu
      by_cases he2 : a.s = (n : Int) ∧ a.i = (i : Int)
      · rw [he2.1, he2.2, hx] at hy
        cases hy
        exact ⟨_, by rw [hset, if_pos he2], .inl (by simp only; rcases h3 with h3 | h3 <;> omega)⟩
      · exact ⟨y, by rw [hset, if_neg he2]; exact hy, h3⟩
    · exact ⟨fun _ => hd, fun _ => rfl⟩
  · have e : (freeF M d.s d.i d.g).2 = M ∧ (freeF M d.s d.i d.g).1 ≠ 0 := by
      unfold freeF
      cases hx : ixOf M d.s d.i with
      | none => exact ⟨rfl, by simp⟩
      | some x =>
        simp only
        split
        · exact ⟨rfl, by simp⟩
        · split
          · exact ⟨rfl, by simp⟩
          · rename_i h3
            simp only [Bool.not_eq_false, Bool.and_eq_true, beq_iff_eq] at h3
            exact absurd (alN_iff.2 ⟨x, hx, h3.1, h3.2⟩) hd
    rw [e.1]
    exact ⟨h, rfl, fun a => ⟨fun h3 => ⟨h3, fun e => hd (e ▸ h3)⟩, fun h3 => h3.1⟩, fun _ h => h, ⟨fun h3 => absurd h3 e.2, fun h3 => absurd h3 hd⟩⟩
theorem frees_pool {ids : Nat} : ∀ (l : List Nid) {M : List Sh} (n : Nat), GM ids M → GM ids (freesF M n l).2 ∧ (freesF M n l).2.length = M.length ∧ (∀ a, alN (freesF M n l).2 a ↔ alN M a ∧ a ∉ l) ∧ (∀ a, usedN M a → usedN (freesF M n l).2 a)
  | [], M, n, h => ⟨h, rfl, fun a => ⟨fun h3 => ⟨h3, by simp⟩, fun h3 => h3.1⟩, fun _ h => h⟩
  | x :: l, M, n, h => by
    obtain ⟨h1, h2, h3, h4, _⟩ := free_pool h x
    obtain ⟨g1, g2, g3, g4⟩ := frees_pool l (n + if (freeF M x.s x.i x.g).1 = 0 then 1 else 0) h1
    rw [freesF]
    refine ⟨g1, g2.trans h2, fun a => ?_, fun a ha => g4 a (h4 a ha)⟩
    rw [g3, h3]
    simp only [List.mem_cons, not_or]
    constructor
    · rintro ⟨⟨q1, q2⟩, q3⟩; exact ⟨q1, q2, q3⟩
    · rintro ⟨q1, q2, q3⟩; exact ⟨⟨q1, q2⟩, q3⟩
end Go.Proofs.YtoimjjhopljdmaaGreat
namespace Go.Proofs.YtoimjjhopljdmaaGreat
open Go.RowKit

def nextB (cols k i : Int) : Bool := !(i == k) && (max (i % cols - k % cols) (max (-(i % cols - k % cols)) (max (i / cols - k / cols) (-(i / cols - k / cols)))) == 1)
def besideF (c : Cfg) (k : Int) : List Int := ((List.range (c.cols * c.rows).toNat).map fun i : Nat => (i : Int)).filter (nextB c.cols k)
end Go.Proofs.YtoimjjhopljdmaaGreat
namespace Go.Proofs.YtoimjjhopljdmaaGreat
open Go.RowKit
theorem div_near {x x' s : Int} (hs : 0 < s) (h1 : x - s ≤ x') (h2 : x' ≤ x + s) : -1 ≤ x' / s - x / s ∧ x' / s - x / s ≤ 1 := by
  have e1 : (x - s) / s = x / s - 1 := by rw [Int.sub_ediv_of_dvd x (Int.dvd_refl s), Int.ediv_self (by omega)]
  have e2 : (x + s) / s = x / s + 1 := by rw [Int.add_ediv_of_dvd_right (Int.dvd_refl s), Int.ediv_self (by omega)]
  have h3 := Int.ediv_le_ediv hs h1
  have h4 := Int.ediv_le_ediv hs h2
  omega
theorem mem_beside {c : Cfg} {k i : Int} (h0 : 0 ≤ i) (h1 : i < c.cols * c.rows) (h : nextB c.cols k i = true) : i ∈ besideF c k := by
  unfold besideF
  refine List.mem_filter.2 ⟨List.mem_map.2 ⟨i.toNat, List.mem_range.2 (by omega), by omega⟩, h⟩

theorem stays {c : Cfg} (ho : CfgOk c) {x y x' y' : Int} (h : inW c x y = true) (h' : inW c x' y' = true) (hx1 : x - c.side ≤ x') (hx2 : x' ≤ x + c.side) (hy1 : y - c.side ≤ y') (hy2 : y' ≤ y + c.side) :
    ofF c x y = ofF c x' y' ∨ ofF c x' y' ∈ besideF c (ofF c x y) := by
  obtain ⟨e, a0, a1, b0, b1, m0, m1⟩ := ofF_in ho h
  obtain ⟨e', a0', a1', b0', b1', m0', m1'⟩ := ofF_in ho h'
  have s0 := ho.s0
  obtain ⟨d1, d2⟩ := div_near (x := x) (x' := x') (s := c.side) (by omega) hx1 hx2
  obtain ⟨d3, d4⟩ := div_near (x := y) (x' := y') (s := c.side) (by omega) hy1 hy2
  obtain ⟨c1, c2⟩ := col_row (cy := y / c.side) a0 a1
  obtain ⟨c1', c2'⟩ := col_row (cy := y' / c.side) a0' a1'
  by_cases heq : ofF c x y = ofF c x' y'
  · exact .inl heq
  · right
    refine mem_beside m0' m1' ?_
    unfold nextB
    have hne : (ofF c x' y' == ofF c x y) = false := by simp; exact fun e => heq e.symm
    rw [hne, e, e', c1, c2, c1', c2']
    generalize x / c.side = p at *
    generalize y / c.side = q at *
    generalize x' / c.side = p' at *
    generalize y' / c.side = q' at *
    have hpq : ¬ (p = p' ∧ q = q') := fun ⟨h1, h2⟩ => heq (by rw [e, e', h1, h2])
    simp only [Bool.not_false, Bool.true_and, beq_iff_eq]
    omega

theorem inF_in {c : Cfg} (ho : CfgOk c) (x y : Int) : inW c (inF c x y).1 (inF c x y).2 = true := by
  obtain ⟨p1, p2, p3, p4⟩ := ho.prod
  unfold inW inF
  simp only [decide_eq_true_eq]
  omega

theorem move_stays {c : Cfg} (ho : CfgOk c) (b : Bun) (h : inW c b.x b.y = true) : ofF c b.x b.y = ofF c (moveF c b).x (moveF c b).y ∨ ofF c (moveF c b).x (moveF c b).y ∈ besideF c (ofF c b.x b.y) := by
  have h2 := h
  unfold inW at h2
  obtain ⟨x0, x1, y0, y1⟩ := of_decide_eq_true h2
  obtain ⟨p1, p2, p3, p4⟩ := ho.prod
  have v0 := ho.v0
  have v1 := ho.v1
  have s1 := ho.s1
  have key : ∀ (n v W : Int), 0 ≤ n → n < W → W ≤ 4194304 → n - c.side ≤ max 0 (min (addF n (max (-c.speed) (min c.speed v))) (W - 1)) ∧ max 0 (min (addF n (max (-c.speed) (min c.speed v))) (W - 1)) ≤ n + c.side := by
    intro n v W hn0 hn1 hW
    have e : addF n (max (-c.speed) (min c.speed v)) = n + max (-c.speed) (min c.speed v) := by
      unfold addF
      rw [clampF_id n (by omega) (by omega), clampF_id (max (-c.speed) (min c.speed v)) (by omega) (by omega), clampF_id _ (by omega) (by omega)]
    rw [e]
    omega
  refine stays ho h (by unfold moveF; exact inF_in ho _ _) ?_ ?_ ?_ ?_
  all_goals
    unfold moveF inF
    simp only
    cases hasB b.m 2 with
    | true => simp only [if_true]; first | exact (key b.x b.vx _ x0 x1 p2).1 | exact (key b.x b.vx _ x0 x1 p2).2 | exact (key b.y b.vy _ y0 y1 p4).1 | exact (key b.y b.vy _ y0 y1 p4).2
    | false => simp only [Bool.false_eq_true, if_false]; have s0 := ho.s0; omega
end Go.Proofs.YtoimjjhopljdmaaGreat
namespace Go.Proofs.YtoimjjhopljdmaaGreat
open Go.RowKit
theorem rSort_pair (l : List Bun) : (rSort l).Pairwise fun a b => bef b a = false := by
  obtain ⟨T, h1, h2, h3⟩ := rSort_tag l l.length (Nat.le_refl _)
  rw [List.take_length] at h1
  rw [← h1, List.pairwise_map]
  refine h3.imp fun {a b} h => ?_
  rw [bef_cmp]
  have hn := cmpBun_ok.neg b.1 a.1
  have hz := cmpBun_ok.zero b.1 a.1
  rcases (ltT_iff a b).1 h with h | ⟨h, _⟩
  · exact decide_eq_false (by have := cmpBun_ok.neg a.1 b.1; omega)
  · exact decide_eq_false (by omega)

end Go.Proofs.YtoimjjhopljdmaaGreat
namespace Go.Proofs.YtoimjjhopljdmaaGreat
open Go.RowKit Go.Sort
def befN (a b : Nid) : Bool := ltOf cmpN a b
theorem befN_iff (a b : Nid) : befN a b = true ↔ cmpN a b < 0 := ltN_iff a b
theorem befN_trans {a b c : Nid} (h1 : befN a b = true) (h2 : befN b c = true) : befN a c = true := cmpN_swo.trans a b c h1 h2
theorem befN_irr (a : Nid) : befN a a = false := cmpN_swo.irrefl a
theorem befN_tot {a b : Nid} (h1 : befN a b = false) (h2 : befN b a = false) : a = b := by
  unfold befN at *
  rw [ltN_not] at h1 h2
  have a1 := cmpN_ok.neg a b
  have a2 := cmpN_ok.neg b a
  exact cmpN_eq (by omega)
theorem sortN_pair (l : List Nid) : (sortN l).Pairwise fun a b => befN b a = false := by
  have h := List.pairwise_mergeSort (le := fun x y => !(ltOf cmpN) y x) (fun a b c h1 h2 => by
    simp only [Bool.not_eq_true'] at *; exact cmpN_swo.ntrans c b a h2 h1) (fun a b => by
    cases h : ltOf cmpN b a with
    | false => rfl
    | true =>
      cases h2 : ltOf cmpN a b with
      | false => rfl
      | true => have := cmpN_swo.trans _ _ _ h h2; rw [cmpN_swo.irrefl] at this; cases this) l
  exact h.imp fun {a b} h => by unfold befN; simpa using h
theorem compF_ok : ∀ l : List Nid, l.Pairwise (fun a b => befN b a = false) → (compF l).Pairwise (fun a b => befN a b = true) ∧ (∀ x, x ∈ compF l ↔ x ∈ l) ∧ (compF l).getLast? = l.getLast? := by
  have key : ∀ r : List Nid, r.reverse.Pairwise (fun a b => befN b a = false) → (compF r.reverse).Pairwise (fun a b => befN a b = true) ∧ (∀ x, x ∈ compF r.reverse ↔ x ∈ r.reverse) ∧ (compF r.reverse).getLast? = r.reverse.getLast? := fun r => by
    induction r with
    | nil => intro _; exact ⟨List.Pairwise.nil, by simp [compF], rfl⟩
    | cons x r ih =>
      intro hp
      rw [List.reverse_cons] at hp ⊢
      obtain ⟨hp1, _, hp2⟩ := List.pairwise_append.1 hp
      obtain ⟨h1, h2, h3⟩ := ih hp1
      have hst : compF (r.reverse ++ [x]) = compS (compF r.reverse) x := by unfold compF; rw [List.foldl_append]; rfl
      rw [hst]
      generalize compF r.reverse = o at *
      unfold compS
      by_cases hl : o.getLast? = some x
      · rw [if_pos hl]
        refine ⟨h1, fun y => ?_, by simpa using hl⟩
        rw [h2 y]
        have hx : x ∈ r.reverse := (h2 x).1 (List.mem_of_getLast? hl)
        constructor
        · exact fun h => List.mem_append_left _ h
        · intro h
          rcases List.mem_append.1 h with h | h
          · exact h
          · obtain rfl := List.mem_singleton.1 h; exact hx
      · rw [if_neg hl]
        refine ⟨List.pairwise_append.2 ⟨h1, List.pairwise_singleton _ _, fun y hy z hz => ?_⟩, fun y => by simp [h2 y], by simp⟩
        obtain rfl := List.mem_singleton.1 hz
        have hne : y ≠ z → befN y z = true := fun hn => by
          have h5 := hp2 y ((h2 y).1 hy) z (by simp)
          cases h6 : befN y z with
          | true => rfl
          | false => exact absurd (befN_tot h6 h5) hn
        by_cases hyz : y = z
        · subst hyz
          exfalso
          obtain ⟨o', e⟩ : ∃ o' q, o = o' ++ [q] := by
            rcases List.eq_nil_or_concat o with rfl | ⟨o', q, e⟩
            · cases hy
            · exact ⟨o', q, by simpa using e⟩
          obtain ⟨q, e⟩ := e
          subst e
          rw [List.getLast?_concat] at hl
          have hq : q ≠ y := fun h => hl (by rw [h])
          have hyo : y ∈ o' := by
            rcases List.mem_append.1 hy with h | h
            · exact h
            · exact absurd (List.mem_singleton.1 h).symm hq
          have h7 := (List.pairwise_append.1 h1).2.2 y hyo q (by simp)
          have h8 := hp2 q ((h2 q).1 (by simp)) y (by simp)
          rw [h7] at h8; cases h8
        · exact hne hyz
  intro l
  have := key l.reverse
  rw [List.reverse_reverse] at this
  exact this
theorem setN_ok (l : List Nid) : (setN l).Pairwise (fun a b => befN a b = true) ∧ ∀ x, x ∈ setN l ↔ x ∈ l := by
  obtain ⟨h1, h2, _⟩ := compF_ok (sortN l) (sortN_pair l)
  exact ⟨h1, fun x => (h2 x).trans (sortN_perm l).mem_iff⟩
end Go.Proofs.YtoimjjhopljdmaaGreat
namespace Go.Proofs.YtoimjjhopljdmaaGreat
open Go.RowKit
theorem cmdsL_len (c : Cfg) (z : Int) : ∀ (ms : List Cm) (l : List Bun), (cmdsL c z l ms).length ≤ l.length + ms.length
  | [], l => by simp [cmdsL]
  | m :: ms, l => by
    have h1 := cmdsL_len c z ms (cmdL c z l m)
    have h2 := cmdL_len c z l m
    show (cmdsL c z (cmdL c z l m) ms).length ≤ _
    simp only [List.length_cons]; omega
end Go.Proofs.YtoimjjhopljdmaaGreat
namespace Go.Proofs.YtoimjjhopljdmaaGreat
open Go.RowKit Go.Sort
def sameId (a b : Bun) : Prop := a.s = b.s ∧ a.i = b.i ∧ a.g = b.g
def UnId (l : List Bun) : Prop := l.Pairwise fun a b => ¬ sameId a b
theorem UnId.perm {l l' : List Bun} (h : UnId l) (hp : l.Perm l') : UnId l' := List.Pairwise.perm h hp fun {_ _} hn hs => hn ⟨hs.1.symm, hs.2.1.symm, hs.2.2.symm⟩
theorem stF_pair (l : List Bun) : (stableF cmpBun l).Pairwise fun a b => bef b a = false := by rw [← rSort_stable]; exact rSort_pair l
theorem bef_anti {a b : Bun} (h1 : bef b a = false) (h2 : bef a b = false) : sameId a b := by
  rw [bef_cmp, decide_eq_false_iff_not] at h1 h2
  have hn := cmpBun_ok.neg b a
  exact (cmpId_zero _ _ _ _ _ _).1 (by unfold cmpBun at *; omega)
theorem stF_rise {l : List Bun} (hu : UnId l) : (stableF cmpBun l).Pairwise fun a b => bef a b = true := by
  have h1 := stF_pair l
  have h2 := hu.perm (stF_perm l).symm
  refine (h1.and h2).imp fun {a b} h => ?_
  cases hb : bef a b with
  | true => rfl
  | false => exact absurd (bef_anti h.1 hb) h.2

end Go.Proofs.YtoimjjhopljdmaaGreat
namespace Go.Proofs.YtoimjjhopljdmaaGreat
open Go.RowKit Go.Sort
theorem cmp_id (a b : Bun) : cmpBun a b = cmpN (idOf a) (idOf b) := rfl
theorem bef_id {a b a' b' : Bun} (ha : idOf a' = idOf a) (hb : idOf b' = idOf b) : bef a' b' = bef a b := by
  rw [bef_cmp, bef_cmp, cmp_id, cmp_id, ha, hb]
theorem bef_befN (a b : Bun) : bef a b = befN (idOf a) (idOf b) := by
  rw [bef_cmp, cmp_id]; unfold befN ltOf; rfl
theorem sameId_iff (a b : Bun) : sameId a b ↔ idOf a = idOf b := by
  unfold sameId idOf
  simp only [Nid.mk.injEq]
theorem rise_un {l : List Bun} (h : Rise l) : UnId l := h.imp fun {a b} h1 h2 => by
  rw [bef_befN, (sameId_iff a b).1 h2, befN_irr] at h1; cases h1
theorem rise_ids {l : List Bun} (h : Rise l) : (l.map idOf).Pairwise fun a b => befN a b = true := by
  rw [List.pairwise_map]
  exact h.imp fun {a b} h1 => by rwa [bef_befN] at h1
theorem rise_nodup {l : List Bun} (h : Rise l) : (l.map idOf).Nodup := (rise_ids h).imp fun {a b} h1 e => by subst e; rw [befN_irr] at h1; cases h1
theorem ins_perm (l : List Bun) (i : Nat) (b : Bun) : (insF l i b).Perm (b :: l) := by
  unfold insF
  refine List.perm_middle.trans (List.Perm.cons _ ?_)
  rw [List.take_append_drop]
def KeepId (f : Bun → Bun × Bool) : Prop := ∀ b, (f b).2 = true → idOf (f b).1 = idOf b
theorem each_cons (f : Bun → Bun × Bool) (x : Bun) (l : List Bun) : eachL f (x :: l) = (if (f x).2 then [(f x).1] else []) ++ eachL f l := by
  unfold eachL
  rw [List.filter_cons]
  split <;> simp
theorem eachD_cons (f : Bun → Bun × Bool) (x : Bun) (l : List Bun) : eachD f (x :: l) = (if (f x).2 then [] else [idOf x]) ++ eachD f l := by
  unfold eachD
  rw [List.filter_cons]
  cases (f x).2 <;> simp
theorem each_mem {f : Bun → Bun × Bool} {l : List Bun} {b : Bun} : b ∈ eachL f l ↔ ∃ x ∈ l, (f x).2 = true ∧ (f x).1 = b := by
  unfold eachL
  simp only [List.mem_map, List.mem_filter]
  constructor
  · rintro ⟨x, ⟨h1, h2⟩, h3⟩; exact ⟨x, h1, h2, h3⟩
  · rintro ⟨x, h1, h2, h3⟩; exact ⟨x, ⟨h1, h2⟩, h3⟩
theorem each_rise {f : Bun → Bun × Bool} (hf : KeepId f) {l : List Bun} (h : Rise l) : Rise (eachL f l) := by
  unfold Rise eachL
  rw [List.pairwise_map]
  refine (List.Pairwise.sublist List.filter_sublist (List.Pairwise.and_mem.1 h)).imp_of_mem ?_
  rintro a b ha hb ⟨_, _, h1⟩
  rw [bef_id (hf a (List.mem_filter.1 ha).2) (hf b (List.mem_filter.1 hb).2)]
  exact h1
theorem each_ids {f : Bun → Bun × Bool} (hf : KeepId f) : ∀ l : List Bun, ((eachL f l).map idOf ++ eachD f l).Perm (l.map idOf)
  | [] => by simp [eachL, eachD]
  | x :: l => by
    have ih := each_ids hf l
    rw [each_cons, eachD_cons]
    cases h : (f x).2 with
    | true =>
      simp only [if_true, List.nil_append, List.cons_append, List.map_cons]
      rw [hf x h]
      exact List.Perm.cons _ ih
    | false =>
      simp only [Bool.false_eq_true, if_false, List.nil_append, List.cons_append, List.map_cons]
      exact List.perm_middle.trans (List.Perm.cons _ ih)
theorem keep_obey (m : Cm) : KeepId fun b => obeyF b m := fun b h => by
  replace h : (obeyF b m).2 = true := h
  show idOf (obeyF b m).1 = idOf b
  unfold obeyF at h ⊢
  by_cases h1 : idEq m.s m.i m.g b.s b.i b.g = false
  · rw [if_pos h1]
  · rw [if_neg h1] at h ⊢
    by_cases h2 : m.k = 2
    · rw [if_pos h2] at h; cases h
    · rw [if_neg h2]
      split
      · rfl
      · split <;> rfl
theorem keep_hurt (b : Bun) (n : Int) (h : (hurtF b n).2 = true) : idOf (hurtF b n).1 = idOf b := by
  unfold hurtF at h ⊢
  split
  · rfl
  · rename_i h1
    rw [if_neg h1] at h
    split
    · rename_i h2; rw [if_pos h2] at h; cases h
    · rfl
theorem keep_hit (hs : List Hit) : KeepId (hitF hs) := fun b => by
  unfold hitF
  cases hs.find? fun h => idEq h.s h.i h.g b.s b.i b.g with
  | none => intro _; rfl
  | some x => exact keep_hurt b x.n
theorem keep_pass (c : Cfg) : KeepId (passF c) := fun b h => by
  unfold passF at h ⊢
  have e : idOf (moveF c b) = idOf b := rfl
  rw [← e]
  generalize moveF c b = y at *
  unfold ageF at h ⊢
  split
  · rfl
  · rename_i h1
    rw [if_neg h1] at h
    split
    · rename_i h2; rw [if_pos h2] at h; cases h
    · rfl
theorem findB_spec (s i g : Int) : ∀ (l : List Bun) (k : Nat), Rise l → ∃ q : Nat, q ≤ l.length ∧ (findB s i g l k).1 = ((k + q : Nat) : Int) ∧ (∀ b ∈ l.take q, cmpN (idOf b) ⟨s, i, g⟩ < 0) ∧ (∀ b ∈ l.drop q, 0 ≤ cmpN (idOf b) ⟨s, i, g⟩) ∧ ((findB s i g l k).2 = true ↔ (⟨s, i, g⟩ : Nid) ∈ l.map idOf)
  | [], k, _ => ⟨0, Nat.le_refl _, rfl, by simp, by simp, by simp [findB]⟩
  | b :: l, k, h => by
    obtain ⟨h1, h2⟩ := List.pairwise_cons.1 h
    unfold findB
    by_cases hc : 0 ≤ cmpId b.s b.i b.g s i g
    · have hc' : 0 ≤ cmpN (idOf b) ⟨s, i, g⟩ := hc
      rw [if_pos hc]
      refine ⟨0, Nat.zero_le _, rfl, by simp, fun x hx => ?_, ?_⟩
      · rcases List.mem_cons.1 hx with rfl | hx
        · exact hc'
        · have hbx := h1 x hx
          rw [bef_befN] at hbx
          cases hh : befN (idOf x) ⟨s, i, g⟩ with
          | false => rwa [show (befN (idOf x) ⟨s, i, g⟩ = false) ↔ 0 ≤ cmpN (idOf x) ⟨s, i, g⟩ from ltN_not _ _] at hh
          | true =>
            have := (befN_iff _ _).1 (befN_trans hbx hh)
            omega
      · constructor
        · intro he
          have e0 : cmpN (idOf b) ⟨s, i, g⟩ = 0 := by simpa [cmpN, idOf] using he
          simp [cmpN_eq e0]
        · intro hm
          rcases List.mem_map.1 hm with ⟨x, hx, e⟩
          rcases List.mem_cons.1 hx with rfl | hx
          · show (cmpN (idOf x) ⟨s, i, g⟩ == 0) = true
            rw [e, cmpN_ok.self]; rfl
          · have hbx := h1 x hx
            rw [bef_befN, e] at hbx
            have := (befN_iff _ _).1 hbx
            omega
    · have hc' : cmpN (idOf b) ⟨s, i, g⟩ < 0 := by show cmpId b.s b.i b.g s i g < 0; omega
      rw [if_neg hc]
      obtain ⟨q, q1, q2, q3, q4, q5⟩ := findB_spec s i g l (k + 1) h2
      refine ⟨q + 1, by simpa using q1, by rw [q2]; congr 1; omega, fun x hx => ?_, by simpa using q4, ?_⟩
      · rw [List.take_succ_cons] at hx
        rcases List.mem_cons.1 hx with rfl | hx
        · exact hc'
        · exact q3 x hx
      · rw [q5, List.map_cons, List.mem_cons]
        constructor
        · exact .inr
        · rintro (e | h)
          · rw [← e, cmpN_ok.self] at hc'; omega
          · exact h
theorem ins_rise {l : List Bun} (h : Rise l) (b : Bun) (hn : (findB b.s b.i b.g l 0).2 = false) : Rise (insF l (findB b.s b.i b.g l 0).1.toNat b) := by
  obtain ⟨q, q1, q2, q3, q4, q5⟩ := findB_spec b.s b.i b.g l 0 h
  have hnot : idOf b ∉ l.map idOf := fun hm => by rw [q5.2 hm] at hn; cases hn
  rw [q2]
  simp only [Nat.zero_add, Int.toNat_natCast]
  unfold insF Rise
  have hp : (l.take q ++ l.drop q).Pairwise fun a b => bef a b = true := by rw [List.take_append_drop]; exact h
  obtain ⟨p1, p2, p3⟩ := List.pairwise_append.1 hp
  refine List.pairwise_append.2 ⟨p1, List.pairwise_cons.2 ⟨fun x hx => ?_, p2⟩, fun x hx y hy => ?_⟩
  · have h1 := q4 x hx
    have h2 := cmpN_ok.neg (idOf b) (idOf x)
    have h3 := cmpN_ok.zero (idOf x) (idOf b)
    have h4 : cmpN (idOf x) (idOf b) ≠ 0 := fun e => hnot (by rw [← cmpN_eq e]; exact List.mem_map_of_mem (List.mem_of_mem_drop hx))
    rw [bef_befN, befN_iff]
    have h1' : 0 ≤ cmpN (idOf x) (idOf b) := h1
    have h5 := cmpN_ok.neg (idOf x) (idOf b)
    omega
  · rcases List.mem_cons.1 hy with rfl | hy
    · rw [bef_befN, befN_iff]; exact q3 x hx
    · exact p3 x hx y hy
theorem cmdL_rise {c : Cfg} {z : Int} {l : List Bun} (h : Rise l) (m : Cm) : Rise (cmdL c z l m) := by
  unfold cmdL
  split
  · split
    · rename_i hs
      refine ins_rise h m.b ?_
      unfold spawnB at hs
      simp only [Bool.and_eq_true, Bool.not_eq_true'] at hs
      exact hs.1.1
    · exact h
  · exact each_rise (keep_obey m) h
theorem cmdsL_rise (c : Cfg) (z : Int) : ∀ (ms : List Cm) {l : List Bun}, Rise l → Rise (cmdsL c z l ms)
  | [], _, h => h
  | m :: ms, _, h => cmdsL_rise c z ms (cmdL_rise h m)
theorem hurtL_rise (r : Int) {own : List Bun} (near : List Bun) (h : UnId own) : Rise (hurtL r own near) := each_rise (keep_hit _) (stF_rise h)
theorem leftL_rise (c : Cfg) (z : Int) {own : List Bun} (near : List Bun) (ms : List Cm) (h : UnId own) : Rise (leftL c z own near ms) := each_rise (keep_pass c) (cmdsL_rise c z ms (hurtL_rise _ near h))
def hasN (l : List Bun) (n : Nid) : Bool := (l.map idOf).contains n
theorem spawnB_iff {c : Cfg} {z : Int} {l : List Bun} (h : Rise l) (m : Cm) : spawnB c z l m = (!hasN l (idOf m.b) && decide (0 ≤ ofF c m.b.x m.b.y) && (decide (z < 0) || decide (ofF c m.b.x m.b.y = z))) := by
  obtain ⟨q, _, _, _, _, q5⟩ := findB_spec m.b.s m.b.i m.b.g l 0 h
  have e : (findB m.b.s m.b.i m.b.g l 0).2 = hasN l (idOf m.b) := by
    unfold hasN
    rw [Bool.eq_iff_iff, q5, List.contains_iff_mem]; rfl
  unfold spawnB
  rw [e]
end Go.Proofs.YtoimjjhopljdmaaGreat
namespace Go.Proofs.YtoimjjhopljdmaaGreat
open Go.RowKit Go.Sort
theorem hasN_iff (l : List Bun) (n : Nid) : hasN l n = true ↔ n ∈ l.map idOf := by unfold hasN; rw [List.contains_iff_mem]
def begZ (c : Cfg) (z : Int) (m : Cm) : Bool := decide (0 ≤ ofF c m.b.x m.b.y) && (decide (z < 0) || decide (ofF c m.b.x m.b.y = z))
end Go.Proofs.YtoimjjhopljdmaaGreat
namespace Go.Proofs.YtoimjjhopljdmaaGreat
open Go.RowKit
theorem check_zero : checkB zeroB = false := by decide

theorem hurt_may (b : Bun) (n : Int) (h : checkB b = true) : checkB (hurtF b n).1 = (hurtF b n).2 := by
  unfold hurtF
  split
  · exact h
  · rename_i h1
    split
    · exact check_zero
    · rename_i h2
      simp only [not_or, Bool.not_eq_false] at h1
      show checkB { b with hp := b.hp - n } = true
      simp only [checkB, rightB, Bool.and_eq_true] at h ⊢
      obtain ⟨⟨⟨⟨⟨⟨⟨⟨⟨a1, a2⟩, a3⟩, a4⟩, a5⟩, a6⟩, a7⟩, a8⟩, a9⟩, a10⟩ := h
      refine ⟨⟨⟨⟨⟨⟨⟨⟨⟨a1, a2⟩, a3⟩, a4⟩, a5⟩, ?_⟩, a7⟩, a8⟩, a9⟩, a10⟩
      rw [h1.1] at a6 ⊢
      simp only [withinB, if_true, inR, Bool.and_eq_true, decide_eq_true_eq] at a6 ⊢
      omega
theorem age_may (b : Bun) (h : checkB b = true) : checkB (ageF b).1 = (ageF b).2 := by
  unfold ageF
  split
  · exact h
  · rename_i h1
    split
    · exact check_zero
    · rename_i h2
      simp only [Bool.not_eq_false] at h1
      show checkB { b with lf := b.lf - 1 } = true
      simp only [checkB, rightB, Bool.and_eq_true] at h ⊢
      obtain ⟨⟨⟨⟨⟨⟨⟨⟨⟨a1, a2⟩, a3⟩, a4⟩, a5⟩, a6⟩, a7⟩, a8⟩, a9⟩, a10⟩ := h
      refine ⟨⟨⟨⟨⟨⟨⟨⟨⟨a1, a2⟩, a3⟩, a4⟩, a5⟩, a6⟩, a7⟩, ?_⟩, a9⟩, a10⟩
      rw [h1] at a8 ⊢
      simp only [withinB, if_true, inR, Bool.and_eq_true, decide_eq_true_eq] at a8 ⊢
      omega
theorem obey_may (b : Bun) (c : Cm) (h : checkB b = true) (hc : cmdB c = true) : checkB (obeyF b { c with s := b.s, i := b.i, g := b.g }).1 = (obeyF b { c with s := b.s, i := b.i, g := b.g }).2 := by
  have hid : idEq b.s b.i b.g b.s b.i b.g = true := by simp [idEq]
  simp only [obeyF, hid, Bool.true_eq_false, if_false]
  split
  · exact check_zero
  · split
    · rename_i h2 h3
      have h1 : (c.k == 1) = false := by simp; omega
      have h3' : (c.k == 3) = true := by simpa using h3
      simp only [cmdB, h1, h3', Bool.false_eq_true, if_false, if_true, Bool.and_eq_true] at hc
      exact check_with b c.b h hc.1.2
    · split
      · rename_i h2 h3 h4
        have h1 : (c.k == 1) = false := by simp; omega
        have h3' : (c.k == 3) = false := by simp; omega
        have h4' : (c.k == 4) = true := by simpa using h4
        simp only [cmdB, h1, h3', h4', Bool.false_eq_true, if_false, if_true, Bool.and_eq_true, someB] at hc
        show checkB (withoutF b c.mask) = true
        rw [check_without b c.mask h]
        exact hc.1.1.2
      · exact h


end Go.Proofs.YtoimjjhopljdmaaGreat
namespace Go.Proofs.YtoimjjhopljdmaaGreat
open Go.RowKit Go.Sort

def PwOk (c : Bun) : Prop := 0 ≤ c.pw ∧ c.pw ≤ 1024
end Go.Proofs.YtoimjjhopljdmaaGreat
