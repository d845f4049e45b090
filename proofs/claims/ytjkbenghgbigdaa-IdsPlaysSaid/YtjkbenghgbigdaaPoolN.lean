/-
  The pool of names, plain: what next and Free make of a shard. No program here. No condition.
-/
import Derived.Test.YtjkbenghgbigdaaPoolK
namespace Go.Proofs.Ytjkbenghgbigdaa
open Go.RowKit
/-- A shard as it is in every pool. -/
structure Good (m : Sh) : Prop where
  inv : ShInv m
  le : ∀ (i : Nat) (x : Ix), m.all[i]? = some x → x.gen ≤ x.bound
  lv : ∀ (i : Nat) (x : Ix), m.all[i]? = some x → x.alive = true → x.gen < x.bound
  fg : ∀ f ∈ m.free, ∀ (x : Ix), m.all[f.toNat]? = some x → x.gen < 1048576

theorem fresh_good (ids : Nat) (h : ids ≤ 16) : Good (fresh ids ids) := by
  have hx0 : ∀ (i : Nat) (x : Ix), (fresh ids ids).all[i]? = some x → x = ⟨0, 0, false⟩ := by
    intro i x hx
    simp only [fresh, freshIx, List.getElem?_replicate] at hx
    split at hx
    · cases hx; rfl
    · cases hx
  refine ⟨fresh_inv ids ids h (Nat.le_refl _), fun i x hx => ?_, fun i x hx ha => ?_, fun f _ x hx => ?_⟩
  · rw [hx0 i x hx]; simp
  · rw [hx0 i x hx] at ha; cases ha
  · rw [hx0 _ x hx]; simp

def nxtIx (x : Ix) : Ix := ⟨x.gen, if x.gen < x.bound then x.bound else min (x.bound + 8) 1048576, true⟩
def nxtAt (x : Ix) (f : Int) : Int := if x.gen < x.bound then -1 else f

theorem set_good {m : Sh} (h : Good m) {i : Nat} (x' : Ix) (hi : ShInv { m with all := m.all.set i x' }) (h1 : x'.gen ≤ x'.bound) (h2 : x'.alive = true → x'.gen < x'.bound) (h3 : (i : Int) ∈ m.free → x'.gen < 1048576) : Good { m with all := m.all.set i x' } := by
  refine ⟨hi, fun j y hy => ?_, fun j y hy => ?_, fun f hf y hy => ?_⟩
  · simp only [List.getElem?_set] at hy
    split at hy
    · split at hy
      · cases hy; exact h1
      · cases hy
    · exact h.le j y hy
  · simp only [List.getElem?_set] at hy
    split at hy
    · split at hy
      · cases hy; exact h2
      · cases hy
    · exact h.lv j y hy
  · simp only [List.getElem?_set] at hy
    have h0 := (h.inv.fr f hf).1
    split at hy
    · rename_i he
      split at hy
      · cases hy; exact h3 (by rw [show (i : Int) = f by omega]; exact hf)
      · cases hy
    · exact h.fg f hf y hy

theorem free_drop_good {m : Sh} (h : Good m) (fr : List Int) (hi : ShInv { m with free := fr }) (hs : ∀ f ∈ fr, f ∈ m.free) : Good { m with free := fr } :=
  ⟨hi, h.le, h.lv, fun f hf => h.fg f (hs f hf)⟩

theorem nextF_nil {M : List Sh} {k : Nat} {m : Sh} (hm : M[k]? = some m) (hf : m.free = []) : nextF M k = (((0, 0, 0), -1, false), M) := by
  have h1 : headF M k = (0, false, 8) := by simp [headF, shOf, hm, hf]
  simp [nextF, h1]

theorem nextF_cons {M : List Sh} {k : Nat} {m : Sh} {f : Int} {fs : List Int} (hm : M[k]? = some m) (hf : m.free = f :: fs) (hg : Good m) :
    ∃ x, m.all[f.toNat]? = some x ∧ 0 ≤ f ∧ nextF M k = ((((k : Int), f, x.gen), nxtAt x f, true), M.set k ⟨m.all.set f.toNat (nxtIx x), fs⟩) ∧ Good ⟨m.all.set f.toNat (nxtIx x), fs⟩ := by
  have hfr := hg.inv.fr f (by rw [hf]; simp)
  obtain ⟨i, rfl⟩ := Int.eq_ofNat_of_zero_le hfr.1
  have hil : i < m.all.length := by omega
  have hx : m.all[i]? = some m.all[i] := List.getElem?_eq_getElem hil
  generalize m.all[i] = x at hx
  have hkl : k < M.length := (List.getElem?_eq_some_iff.1 hm).1
  have hle := hg.le i x hx
  have hgm := hg.fg i (by rw [hf]; simp) x (by simpa using hx)
  have hrr := hg.inv.rng i x hx
  have hnd := hg.inv.nd
  rw [hf] at hnd
  have hni := (List.nodup_cons.1 hnd).1
  have hhead : headF M k = ((i : Int), decide (x.gen < x.bound), 0) := by simp [headF, shOf, hm, hf, hx]
  refine ⟨x, by simpa using hx, hfr.1, ?_, ?_⟩
  · rw [Int.toNat_natCast]
    by_cases hlt : x.gen < x.bound
    · have hi : issueF M k = (((k : Int), (i : Int), x.gen), 0, M.set k ⟨m.all.set i ⟨x.gen, x.bound, true⟩, fs⟩) := by
        simp only [issueF, shOf, if_pos (Int.natCast_nonneg k), Int.toNat_natCast, hm, hf, hx, if_pos hlt]
        rw [setIx_nat _ hm, setFr_nat (m := { m with all := m.all.set i ⟨x.gen, x.bound, true⟩ }) _ (List.getElem?_set_self hkl), List.set_set]
      simp [nextF, hhead, hlt, hi, nxtIx, nxtAt]
    · have hb : ¬ x.bound = 1048576 := by omega
      have hr : reserveF M k i = (0, M.set k ⟨m.all.set i ⟨x.gen, min (x.bound + 8) 1048576, x.alive⟩, i :: fs⟩) := by
        simp only [reserveF, ixOf, shOf, if_pos (Int.natCast_nonneg k), if_pos (Int.natCast_nonneg i), Int.toNat_natCast, hm, Option.bind_some, hx, if_neg hb]
        rw [setIx_nat _ hm, hf]
      have hm1 : (M.set k ⟨m.all.set i ⟨x.gen, min (x.bound + 8) 1048576, x.alive⟩, i :: fs⟩)[k]? = some ⟨m.all.set i ⟨x.gen, min (x.bound + 8) 1048576, x.alive⟩, i :: fs⟩ := List.getElem?_set_self hkl
      have hi : issueF (M.set k ⟨m.all.set i ⟨x.gen, min (x.bound + 8) 1048576, x.alive⟩, i :: fs⟩) k = (((k : Int), (i : Int), x.gen), 0, M.set k ⟨m.all.set i ⟨x.gen, min (x.bound + 8) 1048576, true⟩, fs⟩) := by
        simp only [issueF, shOf, if_pos (Int.natCast_nonneg k), Int.toNat_natCast, hm1, List.getElem?_set_self hil, if_pos (show x.gen < min (x.bound + 8) 1048576 by omega)]
        rw [setIx_nat _ hm1, List.set_set]
        rw [setFr_nat (m := ⟨(m.all.set i ⟨x.gen, min (x.bound + 8) 1048576, x.alive⟩).set i ⟨x.gen, min (x.bound + 8) 1048576, true⟩, i :: fs⟩) _ (List.getElem?_set_self hkl), List.set_set, List.set_set]
      simp [nextF, hhead, hlt, hr, hi, nxtIx, nxtAt]
  · rw [Int.toNat_natCast]
    have h1 := free_drop_good hg fs (hg.inv.tail hf) (fun a ha => by rw [hf]; exact List.mem_cons_of_mem _ ha)
    refine set_good h1 (nxtIx x) (h1.inv.set_ix i _ ⟨hrr.1, hrr.2.1, ?_, ?_, fun _ => hgm⟩ (fun hm => absurd hm hni)) ?_ (fun _ => ?_) (fun hm => absurd hm hni)
    all_goals simp only [nxtIx]
    all_goals split <;> omega

def freedSh (m : Sh) (i : Nat) (x : Ix) : Sh := if x.gen + 1 < 1048576 then ⟨m.all.set i ⟨x.gen + 1, x.bound, false⟩, m.free ++ [(i : Int)]⟩ else ⟨m.all.set i ⟨x.gen + 1, x.bound, false⟩, m.free⟩

theorem freeF_alive {M : List Sh} {k i : Nat} {m : Sh} {x : Ix} (hm : M[k]? = some m) (hx : m.all[i]? = some x) (ha : x.alive = true) (hg : Good m) :
    freeF M k i x.gen = (0, M.set k (freedSh m i x)) ∧ Good (freedSh m i x) := by
  have hkl : k < M.length := (List.getElem?_eq_some_iff.1 hm).1
  have hil : i < m.all.length := (List.getElem?_eq_some_iff.1 hx).1
  have hrr := hg.inv.rng i x hx
  have hlv := hg.lv i x hx ha
  have hni : (i : Int) ∉ m.free := fun hf => by have := hg.inv.dead i hf x (by simpa using hx); rw [ha] at this; cases this
  have hix : ixOf M k i = some x := by simp [ixOf, shOf, hm, hx]
  have hr' : 0 ≤ x.gen + 1 ∧ x.gen + 1 ≤ 1048576 ∧ 0 ≤ x.bound ∧ x.bound ≤ 1048576 ∧ (false = true → x.gen + 1 < 1048576) := ⟨by omega, by have := hrr.2.2.2.2 ha; omega, hrr.2.2.1, hrr.2.2.2.1, fun h => by cases h⟩
  have g1 : Good ⟨m.all.set i ⟨x.gen + 1, x.bound, false⟩, m.free⟩ := set_good hg ⟨x.gen + 1, x.bound, false⟩ (hg.inv.set_ix i _ hr' fun _ => rfl) (by simp only; omega) (fun h => by cases h) (fun h => absurd h hni)
  refine ⟨?_, ?_⟩
  · simp only [freeF, hix, if_neg (show ¬ x.gen < 0 by omega), ha, Bool.true_and, BEq.rfl, Bool.true_eq_false, if_false, freedSh]
    congr 1
    split
    · rw [setIx_nat _ hm, addFr]
      simp [shOf, List.getElem?_set_self hkl]
    · rw [setIx_nat _ hm]
  · unfold freedSh
    split
    · rename_i hlt
      refine ⟨hg.inv.add hx ha _ hr' rfl, g1.le, g1.lv, fun f hf y hy => ?_⟩
      rcases List.mem_append.1 hf with hf | hf
      · exact g1.fg f hf y hy
      · obtain rfl : f = i := by simpa using hf
        simp only [Int.toNat_natCast] at hy
        rw [List.getElem?_set_self hil] at hy
        cases hy
        exact hlt
    · exact g1

/-- Whatever is taken back of a shard: it is one as before. -/
theorem freeF_any {M : List Sh} {k : Nat} {m : Sh} (i g : Int) (hm : M[k]? = some m) (hg : Good m) : ∃ m', Good m' ∧ (freeF M k i g).2 = M.set k m' := by
  have hkl : k < M.length := (List.getElem?_eq_some_iff.1 hm).1
  have hself : M = M.set k m := by
    obtain ⟨_, e⟩ := List.getElem?_eq_some_iff.1 hm
    rw [← e]; simp
  cases hx : ixOf M k i with
  | none => exact ⟨m, hg, by simp only [freeF, hx]; exact hself⟩
  | some x =>
    by_cases h0 : g < 0
    · exact ⟨m, hg, by simp only [freeF, hx, if_pos h0]; exact hself⟩
    · cases ha : (x.alive && x.gen == g) with
      | false => exact ⟨m, hg, by simp only [freeF, hx, if_neg h0, ha, if_true]; exact hself⟩
      | true =>
        simp only [Bool.and_eq_true, beq_iff_eq] at ha
        obtain ⟨ha, rfl⟩ := ha
        simp only [ixOf, shOf, if_pos (Int.natCast_nonneg k), Int.toNat_natCast, hm, Option.bind_some] at hx
        split at hx
        · rename_i hi
          obtain ⟨j, rfl⟩ := Int.eq_ofNat_of_zero_le hi
          obtain ⟨e1, e2⟩ := freeF_alive hm (by simpa using hx) ha hg
          exact ⟨_, e2, by rw [e1]⟩
        · cases hx
end Go.Proofs.Ytjkbenghgbigdaa
