/-
  Chapter texts Bun PaP Nid QmA: what the claim reaches of them. Conditions stand at each theorem.
-/
import Derived.WalkKit
import Derived.Test.YtmkfjelpekkmmaaProg
namespace Go.Proofs.Ytmkfjelpekkmmaa
open Go.RowKit

structure Bun where
  (s i g m x y vx vy hp pw lf : Int)
  deriving DecidableEq

abbrev Bun.arr (b : Bun) : Array Value := #[.int .i64 b.s, .int .i64 b.i, .int .i64 b.g, .int .i64 b.m, .int .i64 b.x, .int .i64 b.y, .int .i64 b.vx, .int .i64 b.vy, .int .i64 b.hp, .int .i64 b.pw, .int .i64 b.lf]
abbrev Bun.v (b : Bun) : Value := .agg b.arr

@[simp, go_sem] theorem Bun.eta (b : Bun) : (⟨b.s, b.i, b.g, b.m, b.x, b.y, b.vx, b.vy, b.hp, b.pw, b.lf⟩ : Bun) = b := rfl

def inR (lo n hi : Int) : Bool := decide (lo ≤ n) && decide (n ≤ hi)
def withinB (h : Bool) (n lo hi : Int) : Bool := if h then inR lo n hi else n == 0
def hasB (m k : Int) : Bool := bits .and .i64 m k == k
def errB (ok : Bool) : Int := if ok then 0 else 1
def idOk (s i g : Int) : Bool := inR 0 s 15 && inR 0 i 15 && inR 0 g 1048575
def rightB (b : Bun) : Bool :=
  inR 0 b.m 31 && withinB (hasB b.m 1) b.x (-1073741824) 1073741824 && withinB (hasB b.m 1) b.y (-1073741824) 1073741824 && withinB (hasB b.m 2) b.vx (-1073741824) 1073741824 &&
  withinB (hasB b.m 2) b.vy (-1073741824) 1073741824 && withinB (hasB b.m 4) b.hp 1 1048576 && withinB (hasB b.m 8) b.pw 0 1024 && withinB (hasB b.m 16) b.lf 1 1048576
def checkB (b : Bun) : Bool := rightB b && hasB b.m 1 && idOk b.s b.i b.g
def idEq (s i g s' i' g' : Int) : Bool := s == s' && i == i' && g == g'
def bunEq (a b : Bun) : Bool := decide (a = b)
end Go.Proofs.Ytmkfjelpekkmmaa
namespace Go.Proofs.Ytmkfjelpekkmmaa
open Go.RowKit

abbrev I64 (n : Int) : Prop := -9223372036854775808 ≤ n ∧ n ≤ 9223372036854775807

def gb (m : Int) (i : Nat) : Bool := (BitVec.ofInt 64 m).getLsbD i

theorem wrap_toInt (v : BitVec 64) : IntKind.i64.wrap v.toNat = v.toInt := by
  rw [IntKind.wrap_i64, BitVec.toInt_eq_toNat_cond]
  have := v.isLt
  split <;> omega
theorem bits_and_i64 (m n : Int) : bits .and .i64 m n = (BitVec.ofInt 64 m &&& BitVec.ofInt 64 n).toInt := wrap_toInt _
theorem bits_or_i64 (m n : Int) : bits .or .i64 m n = (BitVec.ofInt 64 m ||| BitVec.ofInt 64 n).toInt := wrap_toInt _
theorem gb_and (m n : Int) (i : Nat) : gb (bits .and .i64 m n) i = (gb m i && gb n i) := by
  unfold gb; rw [bits_and_i64, BitVec.ofInt_toInt, BitVec.getLsbD_and]
theorem gb_or (m n : Int) (i : Nat) : gb (bits .or .i64 m n) i = (gb m i || gb n i) := by
  unfold gb; rw [bits_or_i64, BitVec.ofInt_toInt, BitVec.getLsbD_or]
theorem toInt_ofInt_i64 (m : Int) (h : I64 m) : (BitVec.ofInt 64 m).toInt = m := by
  rw [BitVec.toInt_ofInt]
  unfold I64 at h
  exact Int.bmod_eq_of_le (by omega) (by omega)
theorem i64_toInt (v : BitVec 64) : I64 v.toInt := by
  have h1 := BitVec.le_toInt v
  have h2 := BitVec.toInt_lt (x := v)
  unfold I64
  omega
theorem i64_and (m n : Int) : I64 (bits .and .i64 m n) := by rw [bits_and_i64]; exact i64_toInt _
theorem i64_or (m n : Int) : I64 (bits .or .i64 m n) := by rw [bits_or_i64]; exact i64_toInt _
theorem gb_ext (m n : Int) (hm : I64 m) (hn : I64 n) (h : ∀ i, i < 64 → gb m i = gb n i) : m = n := by
  rw [← toInt_ofInt_i64 m hm, ← toInt_ofInt_i64 n hn]
  congr 1
  exact BitVec.eq_of_getLsbD_eq h
theorem gb_zero (i : Nat) : gb 0 i = false := by unfold gb; simp

theorem gb_div (m : Int) (i : Nat) (hi : i < 64) : gb m i = !((m / 2 ^ i) % 2 == 0) := by
  unfold gb
  rw [BitVec.getLsbD, BitVec.toNat_ofInt, Nat.testBit_eq_decide_div_mod_eq]
  have e : ((m % (2 ^ 64 : Nat)).toNat : Int) = m % (2 ^ 64 : Nat) := Int.toNat_of_nonneg (Int.emod_nonneg _ (by decide))
  have k : (((m % (2 ^ 64 : Nat)).toNat / 2 ^ i % 2 : Nat) : Int) = m / 2 ^ i % 2 := by
    rw [Int.natCast_emod, Int.natCast_ediv, e]
    have h2 : ((2 ^ 64 : Nat) : Int) = 2 ^ i * (2 * 2 ^ (63 - i)) := by
      have : (2 : Int) ^ i * (2 * 2 ^ (63 - i)) = 2 ^ (i + 1 + (63 - i)) := by rw [Int.pow_add, Int.pow_add]; simp [Int.mul_assoc]
      rw [this, show i + 1 + (63 - i) = 64 from by omega]; rfl
    rw [h2]
    have hp : (0 : Int) < 2 ^ i := Int.pow_pos (by decide)
    have h3 : m % (2 ^ i * (2 * 2 ^ (63 - i))) = m - 2 ^ i * ((2 * 2 ^ (63 - i)) * (m / (2 ^ i * (2 * 2 ^ (63 - i))))) := by
      rw [Int.emod_def, Int.mul_assoc]
    rw [h3]
    have h4 : (m - 2 ^ i * ((2 * 2 ^ (63 - i)) * (m / (2 ^ i * (2 * 2 ^ (63 - i)))))) / 2 ^ i = m / 2 ^ i - (2 * 2 ^ (63 - i)) * (m / (2 ^ i * (2 * 2 ^ (63 - i)))) := by
      rw [Int.sub_eq_add_neg, ← Int.mul_neg, Int.add_mul_ediv_left _ _ (Int.ne_of_gt hp)]
      rw [← Int.sub_eq_add_neg]
    simp only [Int.natCast_pow, Int.cast_ofNat_Int]
    rw [h4, Int.mul_assoc, Int.sub_emod, Int.mul_emod_right]
    simp
  by_cases h : m / 2 ^ i % 2 = 0
  · have : (m % (2 ^ 64 : Nat)).toNat / 2 ^ i % 2 = 0 := by omega
    rw [this, h]; rfl
  · have : (m % (2 ^ 64 : Nat)).toNat / 2 ^ i % 2 = 1 := by omega
    rw [this, show (m / 2 ^ i % 2 == 0) = false from by simpa using h]; rfl

theorem gb_pow (i j : Nat) (_hi : i < 63) (hj : j < 64) : gb (2 ^ i) j = decide (i = j) := by
  rw [gb_div _ _ hj]
  by_cases h : i = j
  · subst h
    rw [Int.ediv_self (Int.ne_of_gt (Int.pow_pos (by decide)))]
    simp
  · rcases Nat.lt_or_ge j i with hlt | hge
    · have : (2 : Int) ^ i / 2 ^ j = 2 * 2 ^ (i - j - 1) := by
        have e : (2 : Int) ^ i = 2 ^ j * (2 * 2 ^ (i - j - 1)) := by
          have : (2 : Int) ^ j * (2 * 2 ^ (i - j - 1)) = 2 ^ (j + 1 + (i - j - 1)) := by rw [Int.pow_add, Int.pow_add]; simp [Int.mul_assoc]
          rw [this, show j + 1 + (i - j - 1) = i from by omega]
        rw [e, Int.mul_ediv_cancel_left _ (Int.ne_of_gt (Int.pow_pos (by decide)))]
      rw [this]
      simp [h]
    · have hlt : i < j := by omega
      have : (2 : Int) ^ i / 2 ^ j = 0 := Int.ediv_eq_zero_of_lt (Int.le_of_lt (Int.pow_pos (by decide))) (Int.pow_lt_pow_of_lt (by decide) hlt)
      rw [this]
      simp [h]

end Go.Proofs.Ytmkfjelpekkmmaa
namespace Go.Proofs.Ytmkfjelpekkmmaa
open Go.RowKit
def bunL (b : Bun) : List Value := b.arr.toList
theorem bunL_len (b : Bun) : (bunL b).length = 11 := rfl
theorem bunL_one (b : Bun) : ∀ u ∈ bunL b, u.oneCell' = true := fun u hu => by
  simp [bunL] at hu
  rcases hu with rfl | rfl | rfl | rfl | rfl | rfl | rfl | rfl | rfl | rfl | rfl <;> rfl
def BFit (b : Bun) : Prop := (-9223372036854775808 ≤ b.s ∧ b.s ≤ 9223372036854775807) ∧ (-9223372036854775808 ≤ b.i ∧ b.i ≤ 9223372036854775807) ∧ (-9223372036854775808 ≤ b.g ∧ b.g ≤ 9223372036854775807) ∧ (-9223372036854775808 ≤ b.m ∧ b.m ≤ 9223372036854775807) ∧ (-9223372036854775808 ≤ b.x ∧ b.x ≤ 9223372036854775807) ∧ (-9223372036854775808 ≤ b.y ∧ b.y ≤ 9223372036854775807) ∧ (-9223372036854775808 ≤ b.vx ∧ b.vx ≤ 9223372036854775807) ∧ (-9223372036854775808 ≤ b.vy ∧ b.vy ≤ 9223372036854775807) ∧ (-9223372036854775808 ≤ b.hp ∧ b.hp ≤ 9223372036854775807) ∧ (-9223372036854775808 ≤ b.pw ∧ b.pw ≤ 9223372036854775807) ∧ (-9223372036854775808 ≤ b.lf ∧ b.lf ≤ 9223372036854775807)
structure Nid where
  (s i g : Int)
  deriving DecidableEq, Inhabited
def nidL (n : Nid) : List Value := [.int .i64 n.s, .int .i64 n.i, .int .i64 n.g]
theorem nidL_len (n : Nid) : (nidL n).length = 3 := rfl
theorem nidL_one (n : Nid) : ∀ v ∈ nidL n, v.oneCell' = true := fun v hv => by
  simp only [nidL, List.mem_cons, List.not_mem_nil, or_false] at hv
  rcases hv with rfl | rfl | rfl <;> rfl
theorem info_nid : (Try.prog.info? 48).map (fun i => (i.zero, i.size, i.bytes)) = some (some (.agg #[.int .i64 0, .int .i64 0, .int .i64 0]), 3, 24) := by kernel_rfl
def idOf (b : Bun) : Nid := ⟨b.s, b.i, b.g⟩
end Go.Proofs.Ytmkfjelpekkmmaa
namespace Go.Proofs.Ytmkfjelpekkmmaa
open Go.RowKit
def matchB (a n m : Int) : Bool := (bits .and .i64 m a == a) && (bits .and .i64 m n == 0)
def rmatchB (a n m : Int) : Bool := (bits .or .i64 m a == m) && (bits .and .i64 m n == 0)
theorem or_and_iff {a m : Int} (ha : I64 a) (hm : I64 m) : bits .or .i64 m a = m ↔ bits .and .i64 m a = a := by
  constructor
  · intro h
    refine gb_ext _ _ (i64_and _ _) ha fun i _ => ?_
    have := congrArg (fun x => gb x i) h
    simp only [gb_or] at this
    rw [gb_and]
    cases h1 : gb m i <;> cases h2 : gb a i <;> simp_all
  · intro h
    refine gb_ext _ _ (i64_or _ _) hm fun i _ => ?_
    have := congrArg (fun x => gb x i) h
    simp only [gb_and] at this
    rw [gb_or]
    cases h1 : gb m i <;> cases h2 : gb a i <;> simp_all
theorem rmatch_eq {a m : Int} (n : Int) (ha : I64 a) (hm : I64 m) : rmatchB a n m = matchB a n m := by
  unfold rmatchB matchB
  congr 1
  rw [Bool.eq_iff_iff]
  simpa using or_and_iff ha hm
theorem and_iff {a m : Int} (ha : I64 a) : bits .and .i64 m a = a ↔ ∀ i, i < 64 → gb a i = true → gb m i = true := by
  constructor
  · intro h i _ hi
    have := congrArg (fun x => gb x i) h
    simp only [gb_and] at this
    cases h1 : gb m i <;> simp_all
  · intro h
    refine gb_ext _ _ (i64_and _ _) ha fun i hi => ?_
    rw [gb_and]
    cases h2 : gb a i
    · simp
    · simp [h i hi h2]
theorem i64_zero : I64 0 := by unfold I64; omega
theorem and_zero {n m : Int} : bits .and .i64 m n = 0 ↔ ∀ i, i < 64 → gb n i = true → gb m i = false := by
  constructor
  · intro h i _ hi
    have := congrArg (fun x => gb x i) h
    simp only [gb_and, gb_zero] at this
    cases h1 : gb m i <;> simp_all
  · intro h
    refine gb_ext _ _ (i64_and _ _) i64_zero fun i hi => ?_
    rw [gb_and, gb_zero]
    cases h2 : gb n i
    · simp
    · simp [h i hi h2]
theorem match_iff {a : Int} (n m : Int) (ha : I64 a) : matchB a n m = true ↔ (∀ i, i < 64 → gb a i = true → gb m i = true) ∧ ∀ i, i < 64 → gb n i = true → gb m i = false := by
  unfold matchB
  rw [Bool.and_eq_true, beq_iff_eq, beq_iff_eq, and_iff ha, and_zero]
theorem match_more {a a' : Int} (n n' m : Int) (ha : I64 a) (h : matchB (bits .or .i64 a a') (bits .or .i64 n n') m = true) : matchB a n m = true := by
  rw [match_iff _ _ (i64_or _ _)] at h
  rw [match_iff _ _ ha]
  exact ⟨fun i hi hg => h.1 i hi (by rw [gb_or, hg]; rfl), fun i hi hg => h.2 i hi (by rw [gb_or, hg]; rfl)⟩
theorem match_all (m : Int) : matchB 0 0 m = true := by
  rw [match_iff _ _ i64_zero]
  exact ⟨fun i _ h => (by rw [gb_zero] at h; cases h), fun i _ h => (by rw [gb_zero] at h; cases h)⟩
theorem match_with {a : Int} (n m : Int) (k : Nat) (hk : k < 63) (ha : I64 a) : matchB (bits .or .i64 a (2 ^ k)) n m = (matchB a n m && gb m k) := by
  rw [Bool.eq_iff_iff, Bool.and_eq_true, match_iff _ _ (i64_or _ _), match_iff _ _ ha]
  constructor
  · intro h
    exact ⟨⟨fun i hi hg => h.1 i hi (by rw [gb_or, hg]; rfl), h.2⟩, h.1 k (by omega) (by rw [gb_or, gb_pow k k hk (by omega)]; simp)⟩
  · rintro ⟨⟨h1, h2⟩, h3⟩
    refine ⟨fun i hi hg => ?_, h2⟩
    rw [gb_or, gb_pow k i hk hi] at hg
    cases h4 : gb a i
    · rw [h4] at hg
      have : k = i := by simpa using hg
      rw [← this]; exact h3
    · exact h1 i hi h4
theorem match_wout {a : Int} (n m : Int) (k : Nat) (hk : k < 63) (ha : I64 a) : matchB a (bits .or .i64 n (2 ^ k)) m = (matchB a n m && !gb m k) := by
  rw [Bool.eq_iff_iff, Bool.and_eq_true, match_iff _ _ ha, match_iff _ _ ha]
  constructor
  · intro h
    exact ⟨⟨h.1, fun i hi hg => h.2 i hi (by rw [gb_or, hg]; rfl)⟩, by rw [h.2 k (by omega) (by rw [gb_or, gb_pow k k hk (by omega)]; simp)]; rfl⟩
  · rintro ⟨⟨h1, h2⟩, h3⟩
    refine ⟨h1, fun i hi hg => ?_⟩
    rw [gb_or, gb_pow k i hk hi] at hg
    cases h4 : gb n i
    · rw [h4] at hg
      have : k = i := by simpa using hg
      rw [← this]; simpa using h3
    · exact h2 i hi h4
def masksF (a n : Int) : List Int := ((List.range 32).filter fun m : Nat => matchB a n m).map fun m : Nat => (m : Int)
theorem masks_step (a n : Int) (k : Nat) : (((List.range (k + 1)).filter fun m : Nat => matchB a n m).map fun m : Nat => (m : Int)) = (((List.range k).filter fun m : Nat => matchB a n m).map fun m : Nat => (m : Int)) ++ if matchB a n k then [(k : Int)] else [] := by
  rw [List.range_succ, List.filter_append, List.map_append]
  congr 1
  cases h : matchB a n k <;> simp [h]

def sameId (a b : Bun) : Prop := a.s = b.s ∧ a.i = b.i ∧ a.g = b.g
theorem sameId_iff (a b : Bun) : sameId a b ↔ idOf a = idOf b := by simp [sameId, idOf]
def UnId (l : List Bun) : Prop := l.Pairwise fun a b => ¬ sameId a b
theorem UnId.sub {l l' : List Bun} (h : UnId l) (hs : l'.Sublist l) : UnId l' := List.Pairwise.sublist hs h
theorem UnId.map {l : List Bun} : UnId l ↔ (l.map idOf).Nodup := by
  unfold UnId List.Nodup
  rw [List.pairwise_map]
  exact ⟨fun h => h.imp fun {a b} hn e => hn ((sameId_iff a b).2 e), fun h => h.imp fun {a b} hn e => hn ((sameId_iff a b).1 e)⟩
theorem UnId.one {l : List Bun} (h : UnId l) {a b : Bun} (ha : a ∈ l) (hb : b ∈ l) (hs : sameId a b) : a = b := by
  obtain ⟨i, hi, rfl⟩ := List.mem_iff_getElem.1 ha
  obtain ⟨j, hj, rfl⟩ := List.mem_iff_getElem.1 hb
  rcases Nat.lt_trichotomy i j with h1 | h1 | h1
  · exact absurd hs (List.pairwise_iff_getElem.1 h i j hi hj h1)
  · subst h1; rfl
  · exact absurd ⟨hs.1.symm, hs.2.1.symm, hs.2.2.symm⟩ (List.pairwise_iff_getElem.1 h j i hj hi h1)
theorem UnId.nodup {l : List Bun} (h : UnId l) : l.Nodup := h.imp fun {a b} hn e => hn (by subst e; exact ⟨rfl, rfl, rfl⟩)
theorem perm_of_mem {l l' : List Bun} (h : UnId l) (h' : UnId l') (hm : ∀ b, b ∈ l ↔ b ∈ l') : l.Perm l' := (List.perm_ext_iff_of_nodup h.nodup h'.nodup).2 hm

def putOk (L : List Bun) (b : Bun) : Bool := checkB b && !(L.map idOf).contains (idOf b)
def putL (L : List Bun) (b : Bun) : List Bun := if putOk L b then L ++ [b] else L
def madeF (l : List Bun) : List Bun := (l.take 60).foldl putL []
def Good (L : List Bun) : Prop := UnId L ∧ ∀ b ∈ L, checkB b = true
theorem good_put {L : List Bun} (b : Bun) (h : Good L) : Good (putL L b) := by
  unfold putL
  split
  · rename_i hp
    unfold putOk at hp
    rw [Bool.and_eq_true] at hp
    refine ⟨?_, fun x hx => ?_⟩
    · rw [UnId.map, List.map_append, List.map_cons, List.map_nil]
      refine List.nodup_append.2 ⟨UnId.map.1 h.1, by simp, fun x hx y hy => ?_⟩
      simp only [List.mem_singleton] at hy
      subst hy
      intro e
      subst e
      have := hp.2
      simp only [Bool.not_eq_true', List.contains_eq_mem, decide_eq_false_iff_not] at this
      exact this hx
    · rcases List.mem_append.1 hx with hx | hx
      · exact h.2 x hx
      · simp only [List.mem_singleton] at hx
        subst hx; exact hp.1
  · exact h
theorem good_fold : ∀ (l L : List Bun), Good L → Good (l.foldl putL L)
  | [], _, h => h
  | b :: l, _, h => good_fold l _ (good_put b h)
theorem good_nil : Good [] := ⟨List.Pairwise.nil, fun b h => by cases h⟩
theorem good_made (l : List Bun) : Good (madeF l) := good_fold _ _ good_nil
theorem put_len (L : List Bun) (b : Bun) : (putL L b).length ≤ L.length + 1 := by unfold putL; split <;> simp
theorem fold_len : ∀ (l L : List Bun), (l.foldl putL L).length ≤ L.length + l.length
  | [], _ => by simp
  | b :: l, L => by
    have h1 := fold_len l (putL L b)
    have h2 := put_len L b
    simp only [List.foldl_cons, List.length_cons]
    omega
theorem made_len (l : List Bun) : (madeF l).length ≤ 60 := by
  have := fold_len (l.take 60) []
  simp only [List.length_nil, List.length_take] at this
  unfold madeF
  omega
theorem made_step (l : List Bun) (k : Nat) (b : Bun) (h : l[k]? = some b) : (l.take (k + 1)).foldl putL [] = putL ((l.take k).foldl putL []) b := by
  obtain ⟨hk, e⟩ := List.getElem?_eq_some_iff.1 h
  rw [List.take_succ_eq_append_getElem hk, List.foldl_append, e]
  rfl
end Go.Proofs.Ytmkfjelpekkmmaa
