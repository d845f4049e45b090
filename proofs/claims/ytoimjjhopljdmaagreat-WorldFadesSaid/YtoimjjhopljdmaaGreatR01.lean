/-
  Chapter texts PoolD PoolK PoolN LapA Hlp Bun PaP ZnE RefG DkO Cmp SoL DkM: what the claim reaches of them. Conditions stand at each theorem.
-/
import Derived.Test.YtoimjjhopljdmaaGreatProg
import Derived.WalkKit
import Derived.WalkSpells
import Derived.WalkLawsBesides
import Derived.Handy
import Derived.Lib.Hide
import Derived.Lib.QuietBelow
import Derived.BigQuiet
import Derived.Deep.RegionHeld3
import Derived.Deep.RegionWith
import Derived.Deep.DeepFit
import Derived.Deep.DeepCutAuto
import Derived.Deep.LoopGhost
import Derived.Deep.Light
import Derived.Deep.RegionLaw
import Derived.Deep.RegionLawGrows
import Derived.RegionTactic
import Derived.StillTailTactics
import Derived.Deep.AppendLies
import Derived.Shelf.SlicesE.DeleteFunc
import Derived.Laws.MakeOwn
import Derived.Lib.MinMax
import Derived.BigRegion
import Derived.Shelf.RegionOpenPlain
import Derived.Shelf.SlicesQ.IndexFunc
import Derived.Test.YtoimjjhopljdmaaGreatRows
import Derived.ProofKit
import Derived.OpenShut
import Derived.Carry
import Derived.ChangeSlices
import Derived.Shelf.SlicesQ.Load
import Derived.StillTail
import Derived.Shelf.SlSortCmp.KitK
import Derived.Sort.WalkB2
import Derived.Sort.WalkB12
import Derived.Sort.LotA
import Derived.Shelf.SlSortCmp.Insertion
import Derived.Test.YtoimjjhopljdmaaGreatQ01
import Derived.Test.YtoimjjhopljdmaaGreatQ02
import Derived.Test.YtoimjjhopljdmaaGreatQ03
import Derived.Test.YtoimjjhopljdmaaGreatQ04
import Derived.Test.YtoimjjhopljdmaaGreatQ05
import Derived.Test.YtoimjjhopljdmaaGreatQ06
import Derived.Test.YtoimjjhopljdmaaGreatQ07
import Derived.Test.YtoimjjhopljdmaaGreatQ08
import Derived.Test.YtoimjjhopljdmaaGreatQ09
import Derived.Test.YtoimjjhopljdmaaGreatQ10
import Derived.Test.YtoimjjhopljdmaaGreatQ11
import Derived.Test.YtoimjjhopljdmaaGreatQ12
import Derived.Test.YtoimjjhopljdmaaGreatQ13
import Derived.Test.YtoimjjhopljdmaaGreatQ14
import Derived.Test.YtoimjjhopljdmaaGreatQ15
import Derived.Test.YtoimjjhopljdmaaGreatQ16
import Derived.Test.YtoimjjhopljdmaaGreatQ17
import Derived.Test.YtoimjjhopljdmaaGreatQ18
import Derived.Test.YtoimjjhopljdmaaGreatQ19
import Derived.Test.YtoimjjhopljdmaaGreatQ20
import Derived.Test.YtoimjjhopljdmaaGreatQ21
import Derived.Test.YtoimjjhopljdmaaGreatQ22
import Derived.Test.YtoimjjhopljdmaaGreatQ23
import Derived.Test.YtoimjjhopljdmaaGreatQ24
import Derived.Test.YtoimjjhopljdmaaGreatQ25
import Derived.Test.YtoimjjhopljdmaaGreatQ26
import Derived.Test.YtoimjjhopljdmaaGreatQ27
import Derived.Test.YtoimjjhopljdmaaGreatQ28
import Derived.Test.YtoimjjhopljdmaaGreatQ29
import Derived.Test.YtoimjjhopljdmaaGreatQ30
import Derived.Test.YtoimjjhopljdmaaGreatQ31
import Derived.Test.YtoimjjhopljdmaaGreatQ32
import Derived.Test.YtoimjjhopljdmaaGreatQ33
import Derived.Test.YtoimjjhopljdmaaGreatQ34
import Derived.Test.YtoimjjhopljdmaaGreatQ35
import Derived.Test.YtoimjjhopljdmaaGreatQ36
import Derived.Test.YtoimjjhopljdmaaGreatQ37
import Derived.Test.YtoimjjhopljdmaaGreatQ38
import Derived.Test.YtoimjjhopljdmaaGreatQ39
import Derived.Test.YtoimjjhopljdmaaGreatQ40
namespace Go.Proofs.YtoimjjhopljdmaaGreat
open Go.RowKit

def issueF (M : List Sh) (k : Int) : (Int × Int × Int) × Int × List Sh := match shOf M k with
  | none => ((0, 0, 0), 1, M)
  | some m => match m.free with
    | [] => ((0, 0, 0), 8, M)
    | f :: fs => match m.all[f.toNat]? with
      | none => ((0, 0, 0), 14, M)
      | some x => if x.gen < x.bound then ((k, f, x.gen), 0, setFr (setIx M k f { x with alive := true }) k fs) else ((0, 0, 0), 14, M)

theorem ShInv.tail {m : Sh} {f : Int} {fs : List Int} (h : ShInv m) (hf : m.free = f :: fs) : ShInv { m with free := fs } :=
  ⟨h.few, h.rng, fun g hg => h.fr g (by rw [hf]; exact List.mem_cons_of_mem _ hg), by have := h.nd; rw [hf] at this; exact (List.nodup_cons.1 this).2, fun g hg => h.dead g (by rw [hf]; exact List.mem_cons_of_mem _ hg)⟩

end Go.Proofs.YtoimjjhopljdmaaGreat
namespace Go.Proofs.YtoimjjhopljdmaaGreat
open Go.RowKit

def nextF (M : List Sh) (k : Int) : (Id3 × Int × Bool) × List Sh :=
  if (headF M k).2.2 ≠ 0 then (((0, 0, 0), -1, false), M) else
  if (headF M k).2.1 = true then (((issueF M k).1, -1, (issueF M k).2.1 == 0), (issueF M k).2.2) else
  if (reserveF M k (headF M k).1).1 ≠ 0 then (((0, 0, 0), -1, false), (reserveF M k (headF M k).1).2) else
  (((issueF (reserveF M k (headF M k).1).2 k).1, (headF M k).1, (issueF (reserveF M k (headF M k).1).2 k).2.1 == 0), (issueF (reserveF M k (headF M k).1).2 k).2.2)


end Go.Proofs.YtoimjjhopljdmaaGreat
namespace Go.Proofs.YtoimjjhopljdmaaGreat
open Go.RowKit
def nxtIx (x : Ix) : Ix := ⟨x.gen, if x.gen < x.bound then x.bound else min (x.bound + 8) 1048576, true⟩
def nxtAt (x : Ix) (f : Int) : Int := if x.gen < x.bound then -1 else f

theorem nextF_cons {M : List Sh} {k : Nat} {m : Sh} {f : Int} {fs : List Int} (hm : M[k]? = some m) (hf : m.free = f :: fs) (hg : Good m) :
    ∃ x, m.all[f.toNat]? = some x ∧ 0 ≤ f ∧ nextF M k = ((((k : Int), f, x.gen), nxtAt x f, true), M.set k ⟨m.all.set f.toNat (nxtIx x), fs⟩) ∧ Good ⟨m.all.set f.toNat (nxtIx x), fs⟩ := by
  have hfr := hg.inv.fr f (by rw [hf]; simp)
  obtain ⟨i, rfl⟩ := Int.eq_ofNat_of_zero_le hfr.1
  have hil : i < m.all.length := by omega
  have hx : m.all[i]? = some m.all[i] := List.getElem?_eq_getElem hil
  generalize m.all[i] = x at hx
  have hkl : k < M.length := (List.getElem?_eq_some_iff.1 hm).1
  have hle := hg.le i x hx
  have hgm := hg.fg i (by rw [hf]; simp) x (by simpa using hx)
  have hrr := hg.inv.rng i x hx
  have hnd := hg.inv.nd
  rw [hf] at hnd
  have hni := (List.nodup_cons.1 hnd).1
  have hhead : headF M k = ((i : Int), decide (x.gen < x.bound), 0) := by simp [headF, shOf, hm, hf, hx]
  refine ⟨x, by simpa using hx, hfr.1, ?_, ?_⟩
  · rw [Int.toNat_natCast]
    by_cases hlt : x.gen < x.bound
    · have hi : issueF M k = (((k : Int), (i : Int), x.gen), 0, M.set k ⟨m.all.set i ⟨x.gen, x.bound, true⟩, fs⟩) := by
        simp only [issueF, shOf, if_pos (Int.natCast_nonneg k), Int.toNat_natCast, hm, hf, hx, if_pos hlt]
        rw [setIx_nat _ hm, setFr_nat (m := { m with all := m.all.set i ⟨x.gen, x.bound, true⟩ }) _ (List.getElem?_set_self hkl), List.set_set]
      simp [nextF, hhead, hlt, hi, nxtIx, nxtAt]
    · have hb : ¬ x.bound = 1048576 := by omega
      have hr : reserveF M k i = (0, M.set k ⟨m.all.set i ⟨x.gen, min (x.bound + 8) 1048576, x.alive⟩, i :: fs⟩) := by
        simp only [reserveF, ixOf, shOf, if_pos (Int.natCast_nonneg k), if_pos (Int.natCast_nonneg i), Int.toNat_natCast, hm, Option.bind_some, hx, if_neg hb]
        rw [setIx_nat _ hm, hf]
      have hm1 : (M.set k ⟨m.all.set i ⟨x.gen, min (x.bound + 8) 1048576, x.alive⟩, i :: fs⟩)[k]? = some ⟨m.all.set i ⟨x.gen, min (x.bound + 8) 1048576, x.alive⟩, i :: fs⟩ := List.getElem?_set_self hkl
      have hi : issueF (M.set k ⟨m.all.set i ⟨x.gen, min (x.bound + 8) 1048576, x.alive⟩, i :: fs⟩) k = (((k : Int), (i : Int), x.gen), 0, M.set k ⟨m.all.set i ⟨x.gen, min (x.bound + 8) 1048576, true⟩, fs⟩) := by
        simp only [issueF, shOf, if_pos (Int.natCast_nonneg k), Int.toNat_natCast, hm1, List.getElem?_set_self hil, if_pos (show x.gen < min (x.bound + 8) 1048576 by omega)]
        rw [setIx_nat _ hm1, List.set_set]
        rw [setFr_nat (m := ⟨(m.all.set i ⟨x.gen, min (x.bound + 8) 1048576, x.alive⟩).set i ⟨x.gen, min (x.bound + 8) 1048576, true⟩, i :: fs⟩) _ (List.getElem?_set_self hkl), List.set_set, List.set_set]
      simp [nextF, hhead, hlt, hr, hi, nxtIx, nxtAt]
  · rw [Int.toNat_natCast]
    have h1 := free_drop_good hg fs (hg.inv.tail hf) (fun a ha => by rw [hf]; exact List.mem_cons_of_mem _ ha)
    refine set_good h1 (nxtIx x) (h1.inv.set_ix i _ ⟨hrr.1, hrr.2.1, ?_, ?_, fun _ => hgm⟩ (fun hm => absurd hm hni)) ?_ (fun _ => ?_) (fun hm => absurd hm hni)
    all_goals simp only [nxtIx]
    all_goals split <;> omega

end Go.Proofs.YtoimjjhopljdmaaGreat
namespace Go.Proofs.YtoimjjhopljdmaaGreat
open Go.RowKit
def lapIx (x : Ix) : Ix := if x.gen < x.bound then ⟨x.bound, x.bound, x.alive⟩ else x
def lapAll (all : List Ix) (fr : List Int) : List Ix := fr.foldl (fun a f => match a[f.toNat]? with | none => a | some x => a.set f.toNat (lapIx x)) all
def lapses (all : List Ix) (f : Int) : Bool := match all[f.toNat]? with | none => false | some x => decide (x.gen < x.bound)
def lapCnt (all : List Ix) (fr : List Int) : Nat := (fr.filter (lapses all)).length
def lapN (m : Sh) : Nat := lapCnt m.all m.free
end Go.Proofs.YtoimjjhopljdmaaGreat
namespace Go.Proofs.YtoimjjhopljdmaaGreat
open Go.RowKit
theorem list_of {β : Type} {P : Nat → β → Prop} : ∀ (n : Nat), (∀ i, i < n → ∃ b, P i b) → ∃ l : List β, l.length = n ∧ ∀ i b, l[i]? = some b → P i b
  | 0, _ => ⟨[], rfl, fun i b h => by cases h⟩
  | n + 1, h => by
    obtain ⟨l, hl, hp⟩ := list_of n fun i hi => h i (by omega)
    obtain ⟨b, hb⟩ := h n (by omega)
    refine ⟨l ++ [b], by simp [hl], fun i c hc => ?_⟩
    by_cases hi : i < n
    · rw [List.getElem?_append_left (by omega)] at hc; exact hp i c hc
    · rw [List.getElem?_append_right (by omega)] at hc
      have : i - l.length = 0 := by have := (List.getElem?_eq_some_iff.1 hc).1; simp at this; omega
      rw [this] at hc
      simp at hc
      subst hc
      obtain rfl : i = n := by omega
      exact hb
end Go.Proofs.YtoimjjhopljdmaaGreat
namespace Go.Proofs.YtoimjjhopljdmaaGreat
open Go.RowKit

def tb (m c : Int) : Bool := !((m / c) % 2 == 0)
end Go.Proofs.YtoimjjhopljdmaaGreat
namespace Go.Proofs.YtoimjjhopljdmaaGreat
open Go.RowKit

theorem bits_and_i64 (m n : Int) : bits .and .i64 m n = (BitVec.ofInt 64 m &&& BitVec.ofInt 64 n).toInt := wrap_toInt _
theorem gb_and (m n : Int) (i : Nat) : gb (bits .and .i64 m n) i = (gb m i && gb n i) := by
  unfold gb; rw [bits_and_i64, BitVec.ofInt_toInt, BitVec.getLsbD_and]
theorem gb_or (m n : Int) (i : Nat) : gb (bits .or .i64 m n) i = (gb m i || gb n i) := by
  unfold gb; rw [bits_or_i64, BitVec.ofInt_toInt, BitVec.getLsbD_or]
theorem gb_andNot (m n : Int) (i : Nat) (hi : i < 64) : gb (bits .andNot .i64 m n) i = (gb m i && !gb n i) := by
  unfold gb; rw [bits_andNot_i64, BitVec.ofInt_toInt, BitVec.getLsbD_and, BitVec.getLsbD_not]; simp [hi]
theorem toInt_ofInt_i64 (m : Int) (h : I64 m) : (BitVec.ofInt 64 m).toInt = m := by
  rw [BitVec.toInt_ofInt]
  unfold I64 at h
  exact Int.bmod_eq_of_le (by omega) (by omega)
theorem i64_and (m n : Int) : I64 (bits .and .i64 m n) := by rw [bits_and_i64]; exact i64_toInt _
theorem gb_ext (m n : Int) (hm : I64 m) (hn : I64 n) (h : ∀ i, i < 64 → gb m i = gb n i) : m = n := by
  rw [← toInt_ofInt_i64 m hm, ← toInt_ofInt_i64 n hn]
  congr 1
  exact BitVec.eq_of_getLsbD_eq h
theorem gb_zero (i : Nat) : gb 0 i = false := by unfold gb; simp

theorem gb_div (m : Int) (i : Nat) (hi : i < 64) : gb m i = !((m / 2 ^ i) % 2 == 0) := by
  unfold gb
  rw [BitVec.getLsbD, BitVec.toNat_ofInt, Nat.testBit_eq_decide_div_mod_eq]
  have e : ((m % (2 ^ 64 : Nat)).toNat : Int) = m % (2 ^ 64 : Nat) := Int.toNat_of_nonneg (Int.emod_nonneg _ (by decide))
  have k : (((m % (2 ^ 64 : Nat)).toNat / 2 ^ i % 2 : Nat) : Int) = m / 2 ^ i % 2 := by
    rw [Int.natCast_emod, Int.natCast_ediv, e]
    have h2 : ((2 ^ 64 : Nat) : Int) = 2 ^ i * (2 * 2 ^ (63 - i)) := by
      have : (2 : Int) ^ i * (2 * 2 ^ (63 - i)) = 2 ^ (i + 1 + (63 - i)) := by rw [Int.pow_add, Int.pow_add]; simp [Int.mul_assoc]
      rw [this, show i + 1 + (63 - i) = 64 from by omega]; rfl
    rw [h2]
    have hp : (0 : Int) < 2 ^ i := Int.pow_pos (by decide)
    have h3 : m % (2 ^ i * (2 * 2 ^ (63 - i))) = m - 2 ^ i * ((2 * 2 ^ (63 - i)) * (m / (2 ^ i * (2 * 2 ^ (63 - i))))) := by
      rw [Int.emod_def, Int.mul_assoc]
    rw [h3]
    have h4 : (m - 2 ^ i * ((2 * 2 ^ (63 - i)) * (m / (2 ^ i * (2 * 2 ^ (63 - i)))))) / 2 ^ i = m / 2 ^ i - (2 * 2 ^ (63 - i)) * (m / (2 ^ i * (2 * 2 ^ (63 - i)))) := by
      rw [Int.sub_eq_add_neg, ← Int.mul_neg, Int.add_mul_ediv_left _ _ (Int.ne_of_gt hp)]
      rw [← Int.sub_eq_add_neg]
    simp only [Int.natCast_pow, Int.cast_ofNat_Int]
    rw [h4, Int.mul_assoc, Int.sub_emod, Int.mul_emod_right]
    simp
  by_cases h : m / 2 ^ i % 2 = 0
  · have : (m % (2 ^ 64 : Nat)).toNat / 2 ^ i % 2 = 0 := by omega
    rw [this, h]; rfl
  · have : (m % (2 ^ 64 : Nat)).toNat / 2 ^ i % 2 = 1 := by omega
    rw [this, show (m / 2 ^ i % 2 == 0) = false from by simpa using h]; rfl

theorem gb_pow (i j : Nat) (_hi : i < 63) (hj : j < 64) : gb (2 ^ i) j = decide (i = j) := by
  rw [gb_div _ _ hj]
  by_cases h : i = j
  · subst h
    rw [Int.ediv_self (Int.ne_of_gt (Int.pow_pos (by decide)))]
    simp
  · rcases Nat.lt_or_ge j i with hlt | hge
    · have : (2 : Int) ^ i / 2 ^ j = 2 * 2 ^ (i - j - 1) := by
        have e : (2 : Int) ^ i = 2 ^ j * (2 * 2 ^ (i - j - 1)) := by
          have : (2 : Int) ^ j * (2 * 2 ^ (i - j - 1)) = 2 ^ (j + 1 + (i - j - 1)) := by rw [Int.pow_add, Int.pow_add]; simp [Int.mul_assoc]
          rw [this, show j + 1 + (i - j - 1) = i from by omega]
        rw [e, Int.mul_ediv_cancel_left _ (Int.ne_of_gt (Int.pow_pos (by decide)))]
      rw [this]
      simp [h]
    · have hlt : i < j := by omega
      have : (2 : Int) ^ i / 2 ^ j = 0 := Int.ediv_eq_zero_of_lt (Int.le_of_lt (Int.pow_pos (by decide))) (Int.pow_lt_pow_of_lt (by decide) hlt)
      rw [this]
      simp [h]

theorem i64_pow (i : Nat) (hi : i < 63) : I64 ((2 : Int) ^ i) := by
  have h1 : (0 : Int) < 2 ^ i := Int.pow_pos (by decide)
  have h2 : (2 : Int) ^ i ≤ 2 ^ 62 := by
    rcases Nat.lt_or_ge i 62 with h | h
    · exact Int.le_of_lt (Int.pow_lt_pow_of_lt (by decide) h)
    · rw [show i = 62 from by omega]; exact Int.le_refl _
  unfold I64
  omega

theorem hasB_gb (m : Int) (i : Nat) (hi : i < 63) : hasB m (2 ^ i) = gb m i := by
  unfold hasB
  rw [Bool.eq_iff_iff, beq_iff_eq]
  constructor
  · intro h
    have : gb (bits .and .i64 m (2 ^ i)) i = gb (2 ^ i) i := by rw [h]
    rw [gb_and, gb_pow i i hi (by omega)] at this
    simpa using this
  · intro h
    refine gb_ext _ _ (i64_and _ _) (i64_pow i hi) fun j hj => ?_
    rw [gb_and, gb_pow i j hi hj]
    by_cases e : i = j
    · subst e; simp [h]
    · simp [e]

theorem tb_gb (m : Int) (i : Nat) (hi : i < 64) : tb m (2 ^ i) = gb m i := (gb_div m i hi).symm

theorem hasB_tb (m : Int) (i : Nat) (hi : i < 63) : hasB m (2 ^ i) = tb m (2 ^ i) := by rw [hasB_gb m i hi, tb_gb m i (by omega)]
theorem and1_zero (m : Int) : (bits .and .i64 m 1 == 0) = !hasB m 1 := by
  rw [Bool.eq_iff_iff, beq_iff_eq, Bool.not_eq_true', show (1 : Int) = 2 ^ 0 from rfl, hasB_gb m 0 (by decide)]
  constructor
  · intro h
    have : gb (bits .and .i64 m (2 ^ 0)) 0 = gb 0 0 := by rw [h]
    rw [gb_and, gb_pow 0 0 (by decide) (by decide), gb_zero] at this
    simpa using this
  · intro h
    refine gb_ext _ _ (i64_and _ _) (by unfold I64; omega) fun j hj => ?_
    rw [gb_and, gb_pow 0 j (by decide) hj, gb_zero]
    by_cases e : 0 = j
    · subst e; simp [h]
    · simp [e]
theorem hasB_or1 (m n : Int) : hasB (bits .or .i64 m n) 1 = (hasB m 1 || hasB n 1) := by
  have := gb_or m n 0; simpa [← hasB_gb _ 0 (by decide)] using this
theorem hasB_or2 (m n : Int) : hasB (bits .or .i64 m n) 2 = (hasB m 2 || hasB n 2) := by
  have := gb_or m n 1; simpa [← hasB_gb _ 1 (by decide)] using this
theorem hasB_or4 (m n : Int) : hasB (bits .or .i64 m n) 4 = (hasB m 4 || hasB n 4) := by
  have := gb_or m n 2; simpa [← hasB_gb _ 2 (by decide)] using this
theorem hasB_or8 (m n : Int) : hasB (bits .or .i64 m n) 8 = (hasB m 8 || hasB n 8) := by
  have := gb_or m n 3; simpa [← hasB_gb _ 3 (by decide)] using this
theorem hasB_or16 (m n : Int) : hasB (bits .or .i64 m n) 16 = (hasB m 16 || hasB n 16) := by
  have := gb_or m n 4; simpa [← hasB_gb _ 4 (by decide)] using this

theorem small_gb (m : Int) (h : inR 0 m 31 = true) (i : Nat) (h5 : 5 ≤ i) (hi : i < 64) : gb m i = false := by
  simp only [inR, Bool.and_eq_true, decide_eq_true_eq] at h
  rw [gb_div _ _ hi]
  have h2 : (2 : Int) ^ 5 ≤ 2 ^ i := by
    rcases Nat.lt_or_ge 5 i with h' | h'
    · exact Int.le_of_lt (Int.pow_lt_pow_of_lt (by decide) h')
    · rw [show i = 5 from by omega]; exact Int.le_refl _
  rw [Int.ediv_eq_zero_of_lt h.1 (by omega)]
  rfl
theorem gb_31 (i : Nat) (h5 : i < 5) : gb 31 i = true := by
  match i, h5 with
  | 0, _ => decide
  | 1, _ => decide
  | 2, _ => decide
  | 3, _ => decide
  | 4, _ => decide
theorem and_31 (m : Int) : 0 ≤ bits .and .i64 m 31 ∧ bits .and .i64 m 31 ≤ 31 := by
  rw [bits_and_i64]
  have h : (BitVec.ofInt 64 m &&& BitVec.ofInt 64 31).toNat ≤ 31 := by rw [BitVec.toNat_and]; exact Nat.and_le_right
  rw [BitVec.toInt_eq_toNat_cond]
  split <;> omega
theorem gb_small (m : Int) (hm : I64 m) (h : ∀ i, 5 ≤ i → i < 64 → gb m i = false) : inR 0 m 31 = true := by
  have e : m = bits .and .i64 m 31 := gb_ext _ _ hm (i64_and _ _) fun i hi => by
    rw [gb_and]
    rcases Nat.lt_or_ge i 5 with h5 | h5
    · rw [gb_31 i h5, Bool.and_true]
    · rw [h i h5 hi, Bool.false_and]
  have := and_31 m
  rw [← e] at this
  simpa [inR] using this
theorem small_or (a b : Int) (ha : inR 0 a 31 = true) (hb : inR 0 b 31 = true) : inR 0 (bits .or .i64 a b) 31 = true :=
  gb_small _ (i64_or _ _) fun i h5 hi => by rw [gb_or, small_gb a ha i h5 hi, small_gb b hb i h5 hi]; rfl
theorem small_wo (a k : Int) (ha : inR 0 a 31 = true) : inR 0 (bits .andNot .i64 (bits .or .i64 a k) k) 31 = true :=
  gb_small _ (i64_andNot _ _) fun i h5 hi => by rw [gb_andNot _ _ _ hi, gb_or, small_gb a ha i h5 hi]; cases gb k i <;> rfl
theorem within_put {p q : Bool} {x y lo hi : Int} (h1 : withinB p x lo hi = true) (h2 : withinB q y lo hi = true) : withinB (p || q) (if q = true then y else x) lo hi = true := by
  cases p <;> cases q <;> simp_all [withinB]
theorem within_take {p q : Bool} {x lo hi : Int} (h1 : withinB p x lo hi = true) : withinB (p && !q) (if q = true then 0 else x) lo hi = true := by
  cases p <;> cases q <;> simp_all [withinB]
theorem hasB_wo (m n : Int) (i : Nat) (hi : i < 63) : hasB (bits .andNot .i64 (bits .or .i64 m n) n) (2 ^ i) = (hasB m (2 ^ i) && !hasB n (2 ^ i)) := by
  rw [hasB_gb _ i hi, hasB_gb _ i hi, hasB_gb _ i hi, gb_andNot _ _ _ (by omega), gb_or]
  cases gb m i <;> cases gb n i <;> rfl
theorem hasB_wo1 (m n : Int) : hasB (bits .andNot .i64 (bits .or .i64 m n) n) 1 = (hasB m 1 && !hasB n 1) := hasB_wo m n 0 (by decide)
theorem hasB_wo2 (m n : Int) : hasB (bits .andNot .i64 (bits .or .i64 m n) n) 2 = (hasB m 2 && !hasB n 2) := hasB_wo m n 1 (by decide)
theorem hasB_wo4 (m n : Int) : hasB (bits .andNot .i64 (bits .or .i64 m n) n) 4 = (hasB m 4 && !hasB n 4) := hasB_wo m n 2 (by decide)
theorem hasB_wo8 (m n : Int) : hasB (bits .andNot .i64 (bits .or .i64 m n) n) 8 = (hasB m 8 && !hasB n 8) := hasB_wo m n 3 (by decide)
theorem hasB_wo16 (m n : Int) : hasB (bits .andNot .i64 (bits .or .i64 m n) n) 16 = (hasB m 16 && !hasB n 16) := hasB_wo m n 4 (by decide)
theorem right_with (b c : Bun) (hb : rightB b = true) (hc : rightB c = true) : rightB (withF b c) = true := by
  unfold rightB at *
  simp only [Bool.and_eq_true] at *
  obtain ⟨⟨⟨⟨⟨⟨⟨a0, a1⟩, a2⟩, a3⟩, a4⟩, a5⟩, a6⟩, a7⟩ := hb
  obtain ⟨⟨⟨⟨⟨⟨⟨c0, c1⟩, c2⟩, c3⟩, c4⟩, c5⟩, c6⟩, c7⟩ := hc
  simp only [withF, hasB_or1, hasB_or2, hasB_or4, hasB_or8, hasB_or16]
  exact ⟨⟨⟨⟨⟨⟨⟨small_or _ _ a0 c0, within_put a1 c1⟩, within_put a2 c2⟩, within_put a3 c3⟩, within_put a4 c4⟩, within_put a5 c5⟩, within_put a6 c6⟩, within_put a7 c7⟩
theorem right_without (b : Bun) (k : Int) (hb : rightB b = true) : rightB (withoutF b k) = true := by
  unfold rightB at *
  simp only [Bool.and_eq_true] at *
  obtain ⟨⟨⟨⟨⟨⟨⟨a0, a1⟩, a2⟩, a3⟩, a4⟩, a5⟩, a6⟩, a7⟩ := hb
  simp only [withoutF, hasB_wo1, hasB_wo2, hasB_wo4, hasB_wo8, hasB_wo16]
  exact ⟨⟨⟨⟨⟨⟨⟨small_wo _ _ a0, within_take a1⟩, within_take a2⟩, within_take a3⟩, within_take a4⟩, within_take a5⟩, within_take a6⟩, within_take a7⟩
theorem check_with (b c : Bun) (hb : checkB b = true) (hc : rightB c = true) : checkB (withF b c) = true := by
  unfold checkB at *
  simp only [Bool.and_eq_true] at *
  refine ⟨⟨right_with b c hb.1.1 hc, ?_⟩, hb.2⟩
  simp only [withF, hasB_or1, hb.1.2, Bool.true_or]
theorem check_without (b : Bun) (k : Int) (hb : checkB b = true) : checkB (withoutF b k) = (bits .and .i64 k 1 == 0) := by
  unfold checkB at *
  simp only [Bool.and_eq_true] at hb
  rw [right_without b k hb.1.1, and1_zero]
  have e : idOk (withoutF b k).s (withoutF b k).i (withoutF b k).g = true := hb.2
  rw [e]
  simp only [withoutF, hasB_wo1, hb.1.2]
  cases hasB k 1 <;> rfl
end Go.Proofs.YtoimjjhopljdmaaGreat
namespace Go.Proofs.YtoimjjhopljdmaaGreat
open Go.RowKit

theorem col_row {cx cy n : Int} (h0 : 0 ≤ cx) (h1 : cx < n) : (cy * n + cx) % n = cx ∧ (cy * n + cx) / n = cy := by
  have e1 : (cy * n + cx) % n = cx := by rw [Int.add_comm, Int.add_mul_emod_self_right, Int.emod_eq_of_lt h0 h1]
  have e2 : (cy * n + cx) / n = cy := by rw [Int.add_comm, Int.add_mul_ediv_right _ _ (by omega), Int.ediv_eq_zero_of_lt h0 h1, Int.zero_add]
  exact ⟨e1, e2⟩

theorem ofF_in {c : Cfg} (ho : CfgOk c) {x y : Int} (h : inW c x y = true) : ofF c x y = y / c.side * c.cols + x / c.side ∧ 0 ≤ x / c.side ∧ x / c.side < c.cols ∧ 0 ≤ y / c.side ∧ y / c.side < c.rows ∧ 0 ≤ ofF c x y ∧ ofF c x y < c.cols * c.rows := by
  have h' := h
  unfold inW at h'
  obtain ⟨x0, x1, y0, y1⟩ := of_decide_eq_true h'
  have s0 := ho.s0
  obtain ⟨a0, a1⟩ := div_rng x0 x1 (by omega)
  obtain ⟨b0, b1⟩ := div_rng y0 y1 (by omega)
  have e : ofF c x y = y / c.side * c.cols + x / c.side := by unfold ofF; rw [h, if_pos rfl]
  have hc := ho.c0
  have m0 : 0 ≤ y / c.side * c.cols := Int.mul_nonneg b0 (by omega)
  have m1 : y / c.side * c.cols ≤ (c.rows - 1) * c.cols := Int.mul_le_mul_of_nonneg_right (by omega) (by omega)
  have m2 : (c.rows - 1) * c.cols = c.cols * c.rows - c.cols := by rw [Int.sub_mul, Int.one_mul, Int.mul_comm]
  refine ⟨e, a0, a1, b0, b1, by omega, by omega⟩

end Go.Proofs.YtoimjjhopljdmaaGreat
namespace Go.Proofs.YtoimjjhopljdmaaGreat
open Go.RowKit
def lapC (l : List Slot) : Nat := (l.filter lapsS).length
variable {ids : Nat} {M : List Sh} {rw : Int → Int → Int} {put : Int}
theorem ixSlots_cnt (k : Nat) (m : Sh) (hg : Good m) (hr : ∀ i : Nat, i < m.all.length → (0 ≤ rw k i ↔ (i : Int) ∈ m.free)) : lapC (ixSlots rw k 0 m.all) = lapN m := by
  have h1 : ixSlots rw k 0 m.all = (List.range m.all.length).map fun (i : Nat) => (⟨(k : Int), (i : Int), (m.all.getD i ⟨0, 0, false⟩).gen, (m.all.getD i ⟨0, 0, false⟩).bound, rw (k : Int) (i : Int), (m.all.getD i ⟨0, 0, false⟩).alive⟩ : Slot) := by
    apply List.ext_getElem?
    intro j
    rw [ixSlots_get, List.getElem?_map]
    by_cases hj : j < m.all.length
    · simp [List.getElem?_range hj, List.getElem?_eq_getElem hj, List.getD]
    · rw [List.getElem?_eq_none (by omega), List.getElem?_eq_none (by simp; omega)]; rfl
  have h2 : (m.free.filter (lapses m.all)).Perm (((List.range m.all.length).filter fun (i : Nat) => decide ((i : Int) ∈ m.free) && lapses m.all i).map Int.ofNat) := by
    refine (List.perm_ext_iff_of_nodup (hg.inv.nd.filter _) ?_).2 fun a => ?_
    · rw [List.nodup_iff_pairwise_ne, List.pairwise_map]
      exact (List.nodup_range.filter _).imp fun hne e => hne (Int.ofNat.inj e)
    · simp only [List.mem_filter, List.mem_map, List.mem_range, Bool.and_eq_true, decide_eq_true_eq]
      constructor
      · rintro ⟨h3, h4⟩
        obtain ⟨h0, h5⟩ := hg.inv.fr a h3
        obtain ⟨i, rfl⟩ := Int.eq_ofNat_of_zero_le h0
        exact ⟨i, ⟨by omega, h3, h4⟩, rfl⟩
      · rintro ⟨i, ⟨_, h3, h4⟩, rfl⟩
        exact ⟨h3, h4⟩
  rw [lapN, lapCnt, h2.length_eq, List.length_map, lapC, h1, List.filter_map, List.length_map]
  congr 1
  refine List.filter_congr fun i hi => ?_
  have hil := List.mem_range.1 hi
  have hrr := hr i hil
  simp only [Function.comp, lapsS, lapses, Int.toNat_natCast, List.getElem?_eq_getElem hil, List.getD, Option.getD_some]
  by_cases hf : (i : Int) ∈ m.free
  · simp [hf, hrr.2 hf]
  · have : ¬ 0 ≤ rw k i := fun h => hf (hrr.1 h)
    simp [hf, this]
theorem mSlots_cnt : ∀ (M : List Sh) (k0 : Nat), (∀ m ∈ M, Good m) → (∀ (k : Nat) (m : Sh), M[k]? = some m → ∀ i : Nat, i < m.all.length → (0 ≤ rw ((k0 + k : Nat) : Int) i ↔ (i : Int) ∈ m.free)) → lapC (mSlots rw k0 M) = (M.map lapN).sum
  | [], _, _, _ => by simp [mSlots, lapC]
  | m :: M, k0, hg, hr => by
    have h1 := ixSlots_cnt (rw := rw) k0 m (hg m (by simp)) (hr 0 m rfl)
    have h2 := mSlots_cnt M (k0 + 1) (fun m hm => hg m (List.mem_cons_of_mem _ hm)) fun k m hm i hi => by
      have := hr (k + 1) m (by simpa using hm) i hi
      rwa [show k0 + (k + 1) = k0 + 1 + k by omega] at this
    have e : lapC (mSlots rw k0 (m :: M)) = lapC (ixSlots rw k0 0 m.all) + lapC (mSlots rw ((k0 : Int) + 1) M) := by
      simp [mSlots, lapC, List.filter_append]
    rw [e, h1, List.map_cons, List.sum_cons, ← h2]
    rfl
theorem Sim.cnt (h : Sim ids M rw put) : lapC (mSlots rw 0 M) = (M.map lapN).sum :=
  mSlots_cnt M 0 h.good fun k m hm i hi => by
    have := (h.row k m hm i (by rw [← h.len m (List.mem_of_getElem? hm)]; exact hi)).1
    simpa using this
end Go.Proofs.YtoimjjhopljdmaaGreat
namespace Go.Proofs.YtoimjjhopljdmaaGreat
open Go.RowKit

section
variable {w0 W : World} {F : Ob} {p q R : Nat} {c : Cfg} {kk : Int} {D : Dk}
theorem Own.drop3 {A B C : Ob} (h : Own w0 W (A.and (B.and (C.and F)))) : Own w0 W (A.and (B.and F)) := h.third.snd
/-! The reference's. -/
end
end Go.Proofs.YtoimjjhopljdmaaGreat
namespace Go.Proofs.YtoimjjhopljdmaaGreat
open Go.RowKit

theorem cmpId_before (s i g s' i' g' : Int) : beforeB s i g s' i' g' = decide (cmpId s i g s' i' g' < 0) := by
  unfold beforeB cmpId
  have h1 := cmpI_spec s s'; have h2 := cmpI_spec i i'; have h3 := cmpI_spec g g'
  repeat' split
  all_goals rw [decide_eq_decide]
  all_goals omega
end Go.Proofs.YtoimjjhopljdmaaGreat
namespace Go.Proofs.YtoimjjhopljdmaaGreat
open Go.Sort
theorem bef_cmp (x y : Bun) : bef x y = decide (cmpBun x y < 0) := cmpId_before _ _ _ _ _ _

def rPos (x : Bun) (l : List Bun) : Nat → Nat
  | 0 => 0
  | k + 1 => if bef x (l.getD k default) then rPos x l k else k + 1
theorem rPos_le (x : Bun) (l : List Bun) : ∀ k, rPos x l k ≤ k
  | 0 => Nat.le_refl _
  | k + 1 => by
    have := rPos_le x l k
    unfold rPos
    split <;> omega
theorem rPos_lo (x : Bun) (l : List Bun) : ∀ k, rPos x l k = 0 ∨ bef x (l.getD (rPos x l k - 1) default) = false
  | 0 => .inl rfl
  | k + 1 => by
    unfold rPos
    split
    · exact rPos_lo x l k
    · rename_i h
      right
      rw [Nat.add_sub_cancel]
      simpa using h
theorem rPos_hi (x : Bun) (l : List Bun) : ∀ k t, rPos x l k ≤ t → t < k → bef x (l.getD t default) = true
  | 0, t, _, h => absurd h (Nat.not_lt_zero _)
  | k + 1, t, h1, h2 => by
    unfold rPos at h1
    split at h1
    · rename_i hb
      by_cases ht : t = k
      · subst ht; exact hb
      · exact rPos_hi x l k t h1 (by omega)
    · omega
def rIns (x : Bun) (l : List Bun) : List Bun := l.take (rPos x l l.length) ++ x :: l.drop (rPos x l l.length)
def rSort (l : List Bun) : List Bun := l.foldl (fun out x => rIns x out) []
theorem rSort_snoc (l : List Bun) (x : Bun) : rSort (l ++ [x]) = rIns x (rSort l) := by simp [rSort]
theorem rIns_tag {n : Nat} (x : Bun) (T : List (Bun × Nat)) (hp : T.Pairwise fun a b => ltT cmpBun a b = true) (ht : ∀ y ∈ T, y.2 < n) :
    ∃ T' : List (Bun × Nat), T'.map (fun y => y.1) = rIns x (T.map fun y => y.1) ∧ T'.Perm ((x, n) :: T) ∧ T'.Pairwise fun a b => ltT cmpBun a b = true := by
  have hS := ltT_swo cmpBun_ok
  generalize hk : rPos x (T.map fun y => y.1) (T.map fun y => y.1).length = k
  have h1 := rPos_le x (T.map fun y => y.1) (T.map fun y => y.1).length
  have h2 := rPos_lo x (T.map fun y => y.1) (T.map fun y => y.1).length
  have h3 := rPos_hi x (T.map fun y => y.1) (T.map fun y => y.1).length
  rw [hk] at h1 h2 h3
  simp only [List.length_map] at h1 h3
  refine ⟨T.take k ++ (x, n) :: T.drop k, ?_, ?_, ?_⟩
  · unfold rIns
    rw [hk]
    simp [List.map_take, List.map_drop]
  · refine List.perm_middle.trans ?_
    rw [List.take_append_drop]
  · have hlo : ∀ y ∈ T.take k, ltT cmpBun y (x, n) = true := by
      intro y hy
      rcases h2 with h2 | h2
      · subst h2; simp at hy
      · by_cases hk0 : k = 0
        · subst hk0; simp at hy
        obtain ⟨j, hj, e⟩ := List.getElem_of_mem hy
        have hj' : j < k := by simp at hj; omega
        have hkl : k - 1 < T.length := by omega
        have e2 : (T.map fun y => y.1).getD (k - 1) default = T[k - 1].1 := by simp [List.getD, hkl]
        rw [e2, bef_cmp] at h2
        have hl : ltT cmpBun T[k - 1] (x, n) = true := by
          rw [(ltT_total cmpBun_ok (x := T[k - 1]) (y := (x, n)) (ht _ (List.getElem_mem hkl))).2, h2]; rfl
        have e3 : y = T[j] := by rw [← e]; simp
        rw [e3]
        by_cases hjk : j = k - 1
        · subst hjk; exact hl
        · exact hS.trans _ _ _ (List.pairwise_iff_getElem.1 hp j (k - 1) (by omega) hkl (by omega)) hl
    have hhi : ∀ y ∈ T.drop k, ltT cmpBun (x, n) y = true := by
      intro y hy
      obtain ⟨j, hj, e⟩ := List.getElem_of_mem hy
      have hj' : k + j < T.length := by simp at hj; omega
      have h4 := h3 (k + j) (by omega) hj'
      have e2 : (T.map fun y => y.1).getD (k + j) default = T[k + j].1 := by simp [List.getD, hj']
      rw [e2, bef_cmp] at h4
      have e3 : y = T[k + j] := by rw [← e]; simp
      rw [e3, (ltT_total cmpBun_ok (x := T[k + j]) (y := (x, n)) (ht _ (List.getElem_mem hj'))).1, h4]
    rw [List.pairwise_append]
    refine ⟨hp.sublist (List.take_sublist _ _), List.pairwise_cons.2 ⟨hhi, hp.sublist (List.drop_sublist _ _)⟩, fun y hy z hz => ?_⟩
    rcases List.mem_cons.1 hz with rfl | hz
    · exact hlo y hy
    · exact hS.trans _ _ _ (hlo y hy) (hhi z hz)

theorem rSort_tag (l : List Bun) : ∀ n, n ≤ l.length → ∃ T : List (Bun × Nat), T.map (fun y => y.1) = rSort (l.take n) ∧ T.Perm (l.take n).zipIdx ∧ T.Pairwise fun a b => ltT cmpBun a b = true
  | 0, _ => ⟨[], rfl, by simp, List.Pairwise.nil⟩
  | n + 1, h => by
    obtain ⟨T, h1, h2, h3⟩ := rSort_tag l n (by omega)
    have e : l.take (n + 1) = l.take n ++ [l[n]] := by rw [List.take_succ_eq_append_getElem (by omega)]
    obtain ⟨T', g1, g2, g3⟩ := rIns_tag (n := n) l[n] T h3 (fun y hy => by
      have := h2.mem_iff.1 hy
      have := List.mem_zipIdx this
      simp at this
      omega)
    refine ⟨T', by rw [g1, h1, e, rSort_snoc], ?_, g3⟩
    rw [e, List.zipIdx_append]
    refine g2.trans ((List.Perm.cons _ h2).trans ?_)
    have : (l.take n).length = n := by simp; omega
    simp [this]
    exact List.perm_append_comm (l₁ := [_])

theorem rSort_stable (l : List Bun) : rSort l = stableF cmpBun l := by
  obtain ⟨T, h1, h2, h3⟩ := rSort_tag l l.length (Nat.le_refl _)
  rw [List.take_length] at h1 h2
  have hl : T.length = l.length := by rw [h2.length_eq]; simp
  rw [← h1, ← stable_of cmpBun_ok (d := T.toArray) ?_ ?_]
  · refine ⟨by rw [size_tagd]; simpa using hl, fun i hi => ?_, ?_⟩
    · have h0 : l.length ≤ i := by omega
      rw [getElem!_neg _ _ (by simp; omega), getElem!_neg _ _ (by rw [size_tagd]; omega)]
    · have e1 : T.toArray.extract 0 l.length = T.toArray := by rw [← hl, ← List.size_toArray]; exact Array.extract_size
      have e2 : (tagd l).extract 0 l.length = tagd l := by
        have h := Array.extract_size (xs := tagd l)
        rwa [size_tagd] at h
      rw [e1, e2]
      simpa [tagd] using h2
  · intro i j _ hij hj
    rw [getElem!_pos _ i (by simp; omega), getElem!_pos _ j (by simp; omega)]
    simpa using List.pairwise_iff_getElem.1 h3 i j (by omega) (by omega) hij

end Go.Proofs.YtoimjjhopljdmaaGreat
namespace Go.Proofs.YtoimjjhopljdmaaGreat
open Go.RowKit
theorem head_ok {M : List Sh} {k : Int} (hg : ∀ m ∈ M, Good m) (h : (headF M k).2.2 = 0) : ∃ m x f r, shOf M k = some m ∧ m ∈ M ∧ m.free = f :: r ∧ m.all[f.toNat]? = some x ∧ headF M k = (f, decide (x.gen < x.bound), 0) ∧ 0 ≤ f ∧ f < m.all.length ∧ 0 ≤ x.gen ∧ x.gen < 1048576 ∧ x.bound ≤ 1048576 ∧ x.gen ≤ x.bound ∧ ixOf M k f = some x := by
  unfold headF at h ⊢
  cases hm : shOf M k with
  | none => simp [hm] at h
  | some m =>
    simp only [hm] at h ⊢
    have hmem : m ∈ M := by
      unfold shOf at hm
      split at hm
      · exact List.mem_of_getElem? hm
      · cases hm
    have G := hg m hmem
    cases hf : m.free with
    | nil => simp [hf] at h
    | cons f r =>
      simp only [hf] at h ⊢
      cases hx : m.all[f.toNat]? with
      | none => simp [hx] at h
      | some x =>
        simp only
        have hfm : f ∈ m.free := by rw [hf]; exact List.mem_cons_self ..
        obtain ⟨h1, h2⟩ := G.inv.fr f hfm
        obtain ⟨q1, q2, q3, q4, _⟩ := G.inv.rng _ _ hx
        refine ⟨m, x, f, r, rfl, hmem, hf, hx, rfl, h1, h2, q1, G.fg f hfm x hx, q4, G.le _ _ hx, ?_⟩
        unfold ixOf
        rw [hm]
        simp only [Option.bind_some, if_pos h1]
        exact hx
theorem take_head {M : List Sh} {k : Int} (hg : ∀ m ∈ M, Good m) (h : (headF M k).2.2 = 0) :
    ((headF M k).2.1 = true → (takeF M k (headF M k).1 (genF M k (headF M k).1)).1 = 0) ∧ ((headF M k).2.1 = false → (takeF M k (headF M k).1 (genF M k (headF M k).1)).1 = 9) := by
  obtain ⟨m, x, f, r, hm, hmem, hf, hx, hh, h1, h2, q1, q2, q3, q4, hix⟩ := head_ok hg h
  rw [hh]
  have hfr : frOf M k = f :: r := by unfold frOf; rw [hm]; exact hf
  have hge : genF M k f = x.gen := by unfold genF; rw [hix]
  unfold takeF
  simp only [hix, hge, hfr]
  rw [if_neg (by omega), if_neg (by simp)]
  constructor
  · intro hb
    have : x.gen < x.bound := by simpa using hb
    rw [if_neg (by omega)]
  · intro hb
    have : ¬ x.gen < x.bound := by simpa using hb
    rw [if_pos (by omega)]
theorem take_nine {M : List Sh} {k i g : Int} (h : (takeF M k i g).1 = 9) : (takeF M k i g).2 = M := by
  unfold takeF at h ⊢
  split at h
  · rfl
  · split at h
    · rename_i h1; simp only [if_pos h1]
    · rename_i h1
      split at h
      · rename_i h2; simp only [if_neg h1, if_pos h2]
      · rename_i h2
        split at h
        · rename_i h3; simp only [if_neg h1, if_neg h2, if_pos h3]
        · simp at h
theorem res_head {M : List Sh} {k : Int} (hg : ∀ m ∈ M, Good m) (h : (headF M k).2.2 = 0) (hb : (headF M k).2.1 = false) :
    (reserveF M k (headF M k).1).1 = 0 ∧ (takeF (reserveF M k (headF M k).1).2 k (headF M k).1 (genF M k (headF M k).1)).1 = 0 := by
  obtain ⟨m, x, f, r, hm, hmem, hf, hx, hh, h1, h2, q1, q2, q3, q4, hix⟩ := head_ok hg h
  rw [hh] at hb ⊢
  have hb : ¬ x.gen < x.bound := by simpa using hb
  have hge : genF M k f = x.gen := by unfold genF; rw [hix]
  have hr : reserveF M k f = (0, setIx M k f { x with bound := min (x.bound + 8) 1048576 }) := by
    unfold reserveF
    simp only [hix]
    rw [if_neg (by omega)]
  simp only [hr, hge, true_and]
  have hk : 0 ≤ k ∧ M[k.toNat]? = some m := by
    unfold shOf at hm
    split at hm
    · exact ⟨by assumption, hm⟩
    · cases hm
  have hkl := (List.getElem?_eq_some_iff.1 hk.2).1
  have hfl := (List.getElem?_eq_some_iff.1 hx).1
  have hsh : shOf (setIx M k f { x with bound := min (x.bound + 8) 1048576 }) k = some { m with all := m.all.set f.toNat { x with bound := min (x.bound + 8) 1048576 } } := by
    unfold setIx
    simp only [hm]
    unfold shOf
    rw [if_pos hk.1, List.getElem?_set_self hkl]
  unfold takeF
  have hi2 : ixOf (setIx M k f { x with bound := min (x.bound + 8) 1048576 }) k f = some { x with bound := min (x.bound + 8) 1048576 } := by
    unfold ixOf
    rw [hsh]
    simp only [Option.bind_some, if_pos h1]
    rw [List.getElem?_set_self hfl]
  have hfr : frOf (setIx M k f { x with bound := min (x.bound + 8) 1048576 }) k = f :: r := by unfold frOf; rw [hsh]; exact hf
  simp only [hi2, hfr]
  rw [if_neg (by omega), if_neg (by simp), if_neg (by omega)]
theorem cmdB_name {m : Cm} {s i g : Int} (hk : m.k = 1) (h : cmdB m = true) (ho : idOk s i g = true) : cmdB (nameCm m s i g) = true := by
  unfold cmdB nameCm at *
  simp only [hk, beq_self_eq_true, if_true, checkB, rightB, Bool.and_eq_true] at h ⊢
  exact ⟨h.1, ⟨h.2.1, ho⟩⟩
theorem adm_name {c : Cfg} {D : Dk} {m : Cm} {s i g : Int} (hk : m.k = 1) (hc : cmdB (nameCm m s i g) = true) (hf : fullB c D ≠ true) (ho : ofF c m.b.x m.b.y = s) : (admitF c D (nameCm m s i g)).1 = (takeF D.M s i g).1 ∧ ((takeF D.M s i g).1 = 9 → (admitF c D (nameCm m s i g)).2 = D) := by
  unfold admitF
  rw [if_neg (by rw [hc]; simp), if_neg hf, if_pos (show (nameCm m s i g).k = 1 from hk), if_neg (fun h => h ho)]
  change (if (takeF D.M s i g).1 ≠ 0 then ((takeF D.M s i g).1, { D with M := (takeF D.M s i g).2 }) else (0, { D with M := (takeF D.M s i g).2, q := D.q ++ [nameCm m s i g] }) : Int × Dk).1 = _ ∧ (_ → (if (takeF D.M s i g).1 ≠ 0 then ((takeF D.M s i g).1, { D with M := (takeF D.M s i g).2 }) else (0, { D with M := (takeF D.M s i g).2, q := D.q ++ [nameCm m s i g] }) : Int × Dk).2 = D)
  by_cases h0 : (takeF D.M s i g).1 = 0
  · rw [if_neg (fun h => h h0), h0]; exact ⟨rfl, fun h => by omega⟩
  · rw [if_pos h0]
    refine ⟨rfl, fun h9 => ?_⟩
    simp only [take_nine h9]
theorem look_adm (c : Cfg) (D : Dk) (m a : Cm) (must : Bool) (hg : ∀ m ∈ D.M, Good m) (hl : D.M.length ≤ 16) (h : lookF c D m = (a, must, 0)) :
    (m.k = 1 → ∃ s i g, a = nameCm m s i g ∧ newB m = true ∧ ofF c m.b.x m.b.y = s ∧ (must = false → (admitF c D a).1 = 0) ∧ (must = true → (admitF c D a).1 = 9 ∧ (admitF c D a).2 = D ∧ (reservedF D s i).1 = 0 ∧ (admitF c (reservedF D s i).2 a).1 = 0)) ∧ (m.k ≠ 1 → a = m ∧ must = false ∧ (admitF c D a).1 = 0) := by
  unfold lookF at h
  split at h
  · simp at h
  rename_i h1
  have hcm : cmdB m = true := by
    cases hb : cmdB m with
    | true => rfl
    | false => exact absurd (Or.inl hb) h1
  split at h
  · rename_i hk
    have hnew : newB m = true := by
      cases hb : newB m with
      | true => rfl
      | false => exact absurd (Or.inr ⟨hk, hb⟩) h1
    split at h
    · simp at h
    split at h
    · simp at h
    rename_i hfull
    split at h
    · simp at h
    rename_i hh0
    have hh := Decidable.not_not.1 hh0
    refine ⟨fun _ => ?_, fun hn => absurd hk hn⟩
    generalize hzn : ofF c m.b.x m.b.y = zn at *
    have T1 := take_head hg hh
    have T2 := fun hb => res_head hg hh hb
    obtain ⟨m0, x, f, r, hm, hmem, hf, hx, he, f1, f2, q1, q2, q3, q4, hix⟩ := head_ok hg hh
    have hge : genF D.M zn f = x.gen := by unfold genF; rw [hix]
    rw [he] at h T1 T2
    simp only [hge] at h T1 T2
    simp only [Prod.mk.injEq, and_true] at h
    obtain ⟨rfl, rfl⟩ := h
    have hid : idOk zn f x.gen = true := by
      have hz : 0 ≤ zn ∧ zn.toNat < D.M.length := by
        unfold shOf at hm
        split at hm
        · exact ⟨by assumption, (List.getElem?_eq_some_iff.1 hm).1⟩
        · cases hm
      have h16 := (hg m0 hmem).inv.few
      simp [idOk, inR]
      omega
    have hc := cmdB_name hk hcm hid
    obtain ⟨A1, A2⟩ := adm_name (c := c) (D := D) hk hc hfull hzn
    refine ⟨zn, f, x.gen, rfl, hnew, rfl, fun hb => ?_, fun hb => ?_⟩
    · rw [A1]; exact T1.1 (by simpa using hb)
    · have hb' : decide (x.gen < x.bound) = false := by simpa using hb
      have h9 := T1.2 hb'
      obtain ⟨B1, B2⟩ := T2 hb'
      refine ⟨A1.trans h9, A2 h9, B1, ?_⟩
      exact (adm_name (c := c) (D := (reservedF D zn f).2) hk hc hfull hzn).1.trans B2
  · rename_i hk
    refine ⟨fun hn => absurd hn hk, fun _ => ?_⟩
    split at h
    · simp at h
    rename_i h2
    split at h
    · simp at h
    split at h
    · simp at h
    rename_i h4
    simp only [Prod.mk.injEq, and_true] at h
    obtain ⟨rfl, rfl⟩ := h
    refine ⟨rfl, rfl, ?_⟩
    unfold admitF
    rw [if_neg (by rw [hcm]; simp), if_neg h4, if_neg hk, if_neg h2]
end Go.Proofs.YtoimjjhopljdmaaGreat
