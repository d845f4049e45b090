/-
  Chapter texts LsC WoG: what the claim reaches of them. Conditions stand at each theorem.
-/
import Derived.Test.YtoimjjhopljdmaaGreatProg
import Derived.WalkKit
import Derived.WalkSpells
import Derived.WalkLawsBesides
import Derived.Handy
import Derived.Lib.Hide
import Derived.Lib.QuietBelow
import Derived.BigQuiet
import Derived.Deep.RegionHeld3
import Derived.Deep.RegionWith
import Derived.Deep.DeepFit
import Derived.Deep.DeepCutAuto
import Derived.Deep.LoopGhost
import Derived.Deep.Light
import Derived.Deep.RegionLaw
import Derived.Deep.RegionLawGrows
import Derived.Shelf.SlicesQ.Load
import Derived.Shelf.SlSortCmp.KitK
import Derived.Sort.WalkB2
import Derived.Sort.WalkB12
import Derived.Sort.LotA
import Derived.Shelf.SlSortCmp.Insertion
import Derived.StillTailTactics
import Derived.Lib.MinMax
import Derived.BigRegion
import Derived.Shelf.RegionOpenPlain
import Derived.Deep.Slices
import Derived.ChangeSlices
import Derived.Lib.SliceRun
import Derived.Shelf.SlicesQ.IndexFunc
import Derived.StillTail
import Derived.Test.YtoimjjhopljdmaaGreatQ01
import Derived.Test.YtoimjjhopljdmaaGreatQ02
import Derived.Test.YtoimjjhopljdmaaGreatQ03
import Derived.Test.YtoimjjhopljdmaaGreatQ04
import Derived.Test.YtoimjjhopljdmaaGreatQ05
import Derived.Test.YtoimjjhopljdmaaGreatQ06
import Derived.Test.YtoimjjhopljdmaaGreatQ07
import Derived.Test.YtoimjjhopljdmaaGreatQ08
import Derived.Test.YtoimjjhopljdmaaGreatQ09
import Derived.Test.YtoimjjhopljdmaaGreatQ10
import Derived.Test.YtoimjjhopljdmaaGreatQ11
import Derived.Test.YtoimjjhopljdmaaGreatQ12
import Derived.Test.YtoimjjhopljdmaaGreatQ13
import Derived.Test.YtoimjjhopljdmaaGreatQ14
import Derived.Test.YtoimjjhopljdmaaGreatQ15
import Derived.Test.YtoimjjhopljdmaaGreatQ16
import Derived.Test.YtoimjjhopljdmaaGreatQ17
import Derived.Test.YtoimjjhopljdmaaGreatQ18
import Derived.Test.YtoimjjhopljdmaaGreatQ19
import Derived.Test.YtoimjjhopljdmaaGreatQ20
import Derived.Test.YtoimjjhopljdmaaGreatQ21
import Derived.Test.YtoimjjhopljdmaaGreatQ22
import Derived.Test.YtoimjjhopljdmaaGreatQ23
import Derived.Test.YtoimjjhopljdmaaGreatQ24
import Derived.Test.YtoimjjhopljdmaaGreatQ25
import Derived.Test.YtoimjjhopljdmaaGreatQ26
import Derived.Test.YtoimjjhopljdmaaGreatQ27
import Derived.Test.YtoimjjhopljdmaaGreatQ28
import Derived.Test.YtoimjjhopljdmaaGreatQ29
import Derived.Test.YtoimjjhopljdmaaGreatQ30
import Derived.Test.YtoimjjhopljdmaaGreatQ31
import Derived.Test.YtoimjjhopljdmaaGreatQ32
import Derived.Test.YtoimjjhopljdmaaGreatQ33
import Derived.Test.YtoimjjhopljdmaaGreatQ34
import Derived.Test.YtoimjjhopljdmaaGreatQ35
import Derived.Test.YtoimjjhopljdmaaGreatQ36
import Derived.Test.YtoimjjhopljdmaaGreatQ37
import Derived.Test.YtoimjjhopljdmaaGreatQ38
import Derived.Test.YtoimjjhopljdmaaGreatQ39
import Derived.Test.YtoimjjhopljdmaaGreatQ40
import Derived.Test.YtoimjjhopljdmaaGreatR01
import Derived.Test.YtoimjjhopljdmaaGreatR02
import Derived.Test.YtoimjjhopljdmaaGreatR03
import Derived.Test.YtoimjjhopljdmaaGreatR04
import Derived.Test.YtoimjjhopljdmaaGreatU01
namespace Go.Proofs.YtoimjjhopljdmaaGreat
open Go.RowKit
theorem ixList_mem (k : Int) : ∀ (l : List Ix) (i : Int) (x : Id3), x ∈ ixList k i l ↔ ∃ (j : Nat) (y : Ix), l[j]? = some y ∧ y.alive = true ∧ x = (k, i + j, y.gen)
  | [], _, _ => ⟨fun h => (by cases h), fun ⟨j, y, h, _⟩ => (by simp at h)⟩
  | y :: l, i, x => by
    simp only [ixList, List.mem_append, ixList_mem k l (i + 1) x]
    constructor
    · rintro (h | ⟨j, z, h1, h2, h3⟩)
      · split at h
        · rename_i ha
          exact ⟨0, y, rfl, ha, by simpa using h⟩
        · cases h
      · exact ⟨j + 1, z, by simpa using h1, h2, by rw [h3]; simp; omega⟩
    · rintro ⟨j, z, h1, h2, h3⟩
      cases j with
      | zero =>
        simp at h1
        subst h1
        left
        rw [if_pos h2, h3]
        simp
      | succ j => exact .inr ⟨j, z, by simpa using h1, h2, by rw [h3]; simp; omega⟩
theorem shList_mem : ∀ (M : List Sh) (k : Int) (x : Id3), x ∈ shList k M ↔ ∃ (n j : Nat) (m : Sh) (y : Ix), M[n]? = some m ∧ m.all[j]? = some y ∧ y.alive = true ∧ x = (k + n, (j : Int), y.gen)
  | [], _, _ => ⟨fun h => (by cases h), fun ⟨n, j, m, y, h, _⟩ => (by simp at h)⟩
  | m :: M, k, x => by
    simp only [shList, List.mem_append, ixList_mem, shList_mem M (k + 1) x]
    constructor
    · rintro (⟨j, y, h1, h2, h3⟩ | ⟨n, j, m', y, h0, h1, h2, h3⟩)
      · exact ⟨0, j, m, y, rfl, h1, h2, by rw [h3]; simp⟩
      · exact ⟨n + 1, j, m', y, by simpa using h0, h1, h2, by rw [h3]; simp; omega⟩
    · rintro ⟨n, j, m', y, h0, h1, h2, h3⟩
      cases n with
      | zero =>
        simp at h0
        subst h0
        exact .inl ⟨j, y, h1, h2, by rw [h3]; simp⟩
      | succ n => exact .inr ⟨n, j, m', y, by simpa using h0, h1, h2, by rw [h3]; simp; omega⟩
theorem list_al {M : List Sh} (n : Nid) : n ∈ (listF M).map toNid ↔ alN M n := by
  rw [alN_iff]
  unfold listF
  simp only [List.mem_map, shList_mem]
  constructor
  · rintro ⟨x, ⟨k, j, m, y, h0, h1, h2, h3⟩, rfl⟩
    subst h3
    refine ⟨y, ixOf_iff.2 ⟨k, j, m, by simp [toNid], rfl, h0, h1⟩, h2, rfl⟩
  · rintro ⟨y, hy, h2, h3⟩
    obtain ⟨k, j, m, e1, e2, h0, h1⟩ := ixOf_iff.1 hy
    refine ⟨(0 + (k : Int), (j : Int), y.gen), ⟨k, j, m, y, h0, h1, h2, rfl⟩, ?_⟩
    obtain ⟨s, i, g⟩ := n
    simp only at e1 e2 h3
    simp [toNid, e1, e2, h3]
end Go.Proofs.YtoimjjhopljdmaaGreat
namespace Go.Proofs.YtoimjjhopljdmaaGreat
open Go.RowKit
def fadB (z x y k : Int) : Bun := ⟨z, 0, 0, 17, x, y, 0, 0, 0, 0, k⟩
def fadM (z x y k : Int) : Cm := ⟨1, 0, 0, 0, fadB z x y k, 0⟩
theorem inF_id17 {c : Cfg} {x y : Int} (h : inW c x y = true) : inF c x y = (x, y) := by
  unfold inW at h
  have h := of_decide_eq_true h
  unfold inF
  rw [Prod.mk.injEq]
  constructor <;> omega
theorem fad_pass {c : Cfg} (z : Int) {x y : Int} (hin : inW c x y = true) (k : Int) : passF c (fadB z x y k) = if k ≤ 1 then (zeroB, false) else (fadB z x y (k - 1), true) := by
  have h2 : hasB 17 2 = false := by decide
  have h16 : hasB 17 16 = true := by decide
  have hm : moveF c (fadB z x y k) = fadB z x y k := by
    unfold moveF fadB
    simp only [h2, Bool.false_eq_true, if_false, inF_id17 hin]
  unfold passF
  rw [hm]
  unfold ageF
  rw [if_neg (by simp [fadB, h16])]
  by_cases hk : k ≤ 1
  · rw [if_pos (show (fadB z x y k).lf ≤ 1 from hk), if_pos hk]
  · rw [if_neg (show ¬ (fadB z x y k).lf ≤ 1 from hk), if_neg hk]; rfl
theorem st_nil17 : stableF cmpBun [] = [] := by
  have := (stF_perm []).length_eq
  exact List.length_eq_zero_iff.1 this
theorem st_one17 (b : Bun) : stableF cmpBun [b] = [b] := List.perm_singleton.1 (stF_perm [b])
theorem each_one (f : Bun → Bun × Bool) (b : Bun) : eachL f [b] = (if (f b).2 then [(f b).1] else []) ∧ eachD f [b] = (if (f b).2 then [] else [idOf b]) := by
  constructor
  · rw [each_cons]; simp [eachL]
  · rw [eachD_cons]; simp [eachD]
theorem setN_one (n : Nid) : setN [n] = [n] := by
  refine strict_eq (setN_ok [n]).1 (List.pairwise_singleton _ _) fun x => (setN_ok [n]).2 x
theorem fad_tick {c : Cfg} (z : Int) {x y : Int} (hin : inW c x y = true) (k : Int) (D : Dk) (hq : D.q = []) :
    ownL c (-1) [fadB z x y k] [] D.q = (if k ≤ 1 then [] else [fadB z x y (k - 1)]) ∧ deadW c ⟨D, [fadB z x y k]⟩ = (if k ≤ 1 then [⟨z, 0, 0⟩] else []) := by
  have h4 : hasB 17 4 = false := by decide
  have hh : hitsF c.radius [fadB z x y k] [] = [] := by
    unfold hitsF
    rw [st_one17]
    simp [hitOf, fadB, h4]
  have hL : hurtL c.radius [fadB z x y k] [] = [fadB z x y k] ∧ hurtN c.radius [fadB z x y k] [] = [] := by
    unfold hurtL hurtN
    rw [hh, st_one17]
    have e : hitF [] (fadB z x y k) = (fadB z x y k, true) := rfl
    rw [(each_one _ _).1, (each_one _ _).2, e]
    exact ⟨rfl, rfl⟩
  have hmid : midL c (-1) [fadB z x y k] [] D.q = [fadB z x y k] := by unfold midL; rw [hL.1, hq]; rfl
  constructor
  · rw [(own_whole c _ _).1]
    unfold leftL
    rw [hmid, (each_one _ _).1, fad_pass z hin k]
    by_cases hk : k ≤ 1
    · rw [if_pos hk, if_pos hk]; rfl
    · rw [if_neg hk, if_neg hk]; rfl
  · unfold deadW deadN
    simp only
    rw [hL.2, hL.1, hmid, hq, (each_one _ _).2, fad_pass z hin k]
    by_cases hk : k ≤ 1
    · rw [if_pos hk, if_pos hk]; exact setN_one _
    · rw [if_neg hk, if_neg hk]; exact setN_nil
theorem fad_first {c : Cfg} (ho : CfgOk c) (z : Int) {x y : Int} (hin : inW c x y = true) (k : Int) (D : Dk) (hq : D.q = [fadM z x y k]) :
    ownL c (-1) [] [] D.q = (if k ≤ 1 then [] else [fadB z x y (k - 1)]) ∧ deadW c ⟨D, []⟩ = (if k ≤ 1 then [⟨z, 0, 0⟩] else []) := by
  have hL : hurtL c.radius [] [] = [] ∧ hurtN c.radius [] [] = [] := by
    unfold hurtL hurtN
    rw [st_nil17]
    exact ⟨rfl, rfl⟩
  have hsp : spawnB c (-1) [] (fadM z x y k) = true := by
    unfold spawnB
    have := of_nn ho hin
    simp [findB, fadM, fadB, this]
  have hmid : midL c (-1) [] [] D.q = [fadB z x y k] := by
    unfold midL
    rw [hL.1, hq]
    show cmdL c (-1) [] (fadM z x y k) = _
    unfold cmdL
    rw [if_pos (show (fadM z x y k).k = 1 from rfl), if_pos hsp]
    rfl
  have hcn : cmdsN c (-1) [] D.q = [] := by rw [hq]; rfl
  constructor
  · rw [(own_whole c _ _).1]
    unfold leftL
    rw [hmid, (each_one _ _).1, fad_pass z hin k]
    by_cases hk : k ≤ 1
    · rw [if_pos hk, if_pos hk]; rfl
    · rw [if_neg hk, if_neg hk]; rfl
  · unfold deadW deadN
    simp only
    rw [hL.2, hL.1, hmid, hcn, (each_one _ _).2, fad_pass z hin k]
    by_cases hk : k ≤ 1
    · rw [if_pos hk, if_pos hk]; exact setN_one _
    · rw [if_neg hk, if_neg hk]; exact setN_nil
theorem fad_call {c : Cfg} (ho : CfgOk c) {x y k : Int} (hin : inW c x y = true) (h1 : 1 ≤ k) (h2 : k ≤ 1048576) :
    (callW c (newW c) (fadM 0 x y k)).1 = (fadM (ofF c x y) x y k, 0) ∧ (callW c (newW c) (fadM 0 x y k)).2.L = [] ∧ (callW c (newW c) (fadM 0 x y k)).2.D.q = [fadM (ofF c x y) x y k] := by
  have hc := call_inv (new_inv ho) (fadM 0 x y k)
  have h0 := of_nn ho hin
  obtain ⟨p1, p2, p3, p4⟩ := ho.prod
  have hiw := hin
  unfold inW at hiw
  have hiw := of_decide_eq_true hiw
  have hcm : cmdB (fadM 0 x y k) = true := by
    have e1 : hasB 17 1 = true := by decide
    have e2 : hasB 17 2 = false := by decide
    have e4 : hasB 17 4 = false := by decide
    have e8 : hasB 17 8 = false := by decide
    have e16 : hasB 17 16 = true := by decide
    simp [cmdB, fadM, fadB, checkB, rightB, idZero, idEq, idOk, inR, withinB, e1, e2, e4, e8, e16, h1, h2]
    exact ⟨⟨decide_eq_true (by omega), decide_eq_true (by omega)⟩, decide_eq_true (by omega), decide_eq_true (by omega)⟩
  have hz : ofF c x y < c.cols * c.rows := by
    rcases of_rng ho x y with h | h
    · omega
    · exact h.2
  obtain ⟨zn, hzn⟩ : ∃ zn : Nat, ofF c x y = zn := ⟨(ofF c x y).toNat, by omega⟩
  obtain ⟨iq, hiq⟩ : ∃ iq : Nat, c.ids.toNat = iq + 1 := ⟨c.ids.toNat - 1, by have := ho.i0; omega⟩
  have hsh : shOf (newD c).M (ofF c x y) = some (fresh (iq + 1) (iq + 1)) := by
    rw [hzn]
    refine shOf_iff.2 ⟨zn, rfl, ?_⟩
    unfold newD
    simp only
    rw [List.getElem?_replicate, if_pos (by omega), hiq]
  have hfr : (fresh (iq + 1) (iq + 1)).free = 0 :: (List.range iq).map (fun j => Int.ofNat (j + 1)) := by
    simp [fresh, List.range_succ_eq_map]
  have hix : (fresh (iq + 1) (iq + 1)).all[(0 : Int).toNat]? = some ⟨0, 0, false⟩ := by simp [fresh, freshIx]
  have hhd : headF (newD c).M (ofF c x y) = (0, false, 0) := by
    unfold headF
    simp only [hsh, hfr, hix]
    rfl
  have hge : genF (newD c).M (ofF c x y) 0 = 0 := by
    unfold genF ixOf
    rw [hsh]
    simp only [Option.bind_some]
    rw [if_pos (by omega), hix]
  have hlk : lookF c (newW c).D (fadM 0 x y k) = (fadM (ofF c x y) x y k, true, 0) := by
    show lookF c (newD c) (fadM 0 x y k) = _
    have hfx : ofF c (fadM 0 x y k).b.x (fadM 0 x y k).b.y = ofF c x y := rfl
    unfold lookF
    rw [if_neg (by rw [hcm]; simp [fadM, fadB, newB, idEq]), if_pos (show (fadM 0 x y k).k = 1 from rfl), hfx, if_neg (by omega), if_neg (by have := ho.q0; simp [fullB, newD]; exact decide_eq_false (by omega)), hhd]
    simp only
    rw [if_neg (by simp), hge]
    rfl
  have had := hc.adm (by rw [hlk])
  have hcw : (callW c (newW c) (fadM 0 x y k)).1 = (fadM (ofF c x y) x y k, 0) := by
    unfold callW
    rw [if_neg (by rw [hlk]; simp)]
    simp only
    rw [had, hlk]
  refine ⟨hcw, ?_, ?_⟩
  · unfold callW
    rw [if_neg (by rw [hlk]; simp)]
    rfl
  · rw [hc.q (by rw [hcw]), hcw]
    rfl
end Go.Proofs.YtoimjjhopljdmaaGreat
