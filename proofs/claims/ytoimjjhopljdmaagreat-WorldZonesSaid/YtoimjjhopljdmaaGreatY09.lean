/-
  Chapter texts PaP SyC ZnA ZnE: what the claim reaches of them. Conditions stand at each theorem.
-/
import Derived.StillTailTactics
import Derived.Test.YtoimjjhopljdmaaGreatY01
import Derived.Test.YtoimjjhopljdmaaGreatY07
import Derived.Test.YtoimjjhopljdmaaGreatY08
import Derived.Test.YtoimjjhopljdmaaGreatY02
namespace Go.Proofs.YtoimjjhopljdmaaGreat
open Go.RowKit

abbrev I64 (n : Int) : Prop := -9223372036854775808 ≤ n ∧ n ≤ 9223372036854775807

def gb (m : Int) (i : Nat) : Bool := (BitVec.ofInt 64 m).getLsbD i

theorem wrap_toInt (v : BitVec 64) : IntKind.i64.wrap v.toNat = v.toInt := by
  rw [IntKind.wrap_i64, BitVec.toInt_eq_toNat_cond]
  have := v.isLt
  split <;> omega
theorem bits_and_i64 (m n : Int) : bits .and .i64 m n = (BitVec.ofInt 64 m &&& BitVec.ofInt 64 n).toInt := wrap_toInt _
theorem bits_or_i64 (m n : Int) : bits .or .i64 m n = (BitVec.ofInt 64 m ||| BitVec.ofInt 64 n).toInt := wrap_toInt _
theorem bits_andNot_i64 (m n : Int) : bits .andNot .i64 m n = (BitVec.ofInt 64 m &&& ~~~(BitVec.ofInt 64 n)).toInt := wrap_toInt _
theorem gb_and (m n : Int) (i : Nat) : gb (bits .and .i64 m n) i = (gb m i && gb n i) := by
  unfold gb; rw [bits_and_i64, BitVec.ofInt_toInt, BitVec.getLsbD_and]
theorem gb_or (m n : Int) (i : Nat) : gb (bits .or .i64 m n) i = (gb m i || gb n i) := by
  unfold gb; rw [bits_or_i64, BitVec.ofInt_toInt, BitVec.getLsbD_or]
theorem gb_andNot (m n : Int) (i : Nat) (hi : i < 64) : gb (bits .andNot .i64 m n) i = (gb m i && !gb n i) := by
  unfold gb; rw [bits_andNot_i64, BitVec.ofInt_toInt, BitVec.getLsbD_and, BitVec.getLsbD_not]; simp [hi]
theorem toInt_ofInt_i64 (m : Int) (h : I64 m) : (BitVec.ofInt 64 m).toInt = m := by
  rw [BitVec.toInt_ofInt]
  unfold I64 at h
  exact Int.bmod_eq_of_le (by omega) (by omega)
theorem i64_toInt (v : BitVec 64) : I64 v.toInt := by
  have h1 := BitVec.le_toInt v
  have h2 := BitVec.toInt_lt (x := v)
  unfold I64
  omega
theorem i64_and (m n : Int) : I64 (bits .and .i64 m n) := by rw [bits_and_i64]; exact i64_toInt _
theorem i64_or (m n : Int) : I64 (bits .or .i64 m n) := by rw [bits_or_i64]; exact i64_toInt _
theorem i64_andNot (m n : Int) : I64 (bits .andNot .i64 m n) := by rw [bits_andNot_i64]; exact i64_toInt _
theorem gb_ext (m n : Int) (hm : I64 m) (hn : I64 n) (h : ∀ i, i < 64 → gb m i = gb n i) : m = n := by
  rw [← toInt_ofInt_i64 m hm, ← toInt_ofInt_i64 n hn]
  congr 1
  exact BitVec.eq_of_getLsbD_eq h
theorem gb_zero (i : Nat) : gb 0 i = false := by unfold gb; simp

theorem gb_div (m : Int) (i : Nat) (hi : i < 64) : gb m i = !((m / 2 ^ i) % 2 == 0) := by
  unfold gb
  rw [BitVec.getLsbD, BitVec.toNat_ofInt, Nat.testBit_eq_decide_div_mod_eq]
  have e : ((m % (2 ^ 64 : Nat)).toNat : Int) = m % (2 ^ 64 : Nat) := Int.toNat_of_nonneg (Int.emod_nonneg _ (by decide))
  have k : (((m % (2 ^ 64 : Nat)).toNat / 2 ^ i % 2 : Nat) : Int) = m / 2 ^ i % 2 := by
    rw [Int.natCast_emod, Int.natCast_ediv, e]
    have h2 : ((2 ^ 64 : Nat) : Int) = 2 ^ i * (2 * 2 ^ (63 - i)) := by
      have : (2 : Int) ^ i * (2 * 2 ^ (63 - i)) = 2 ^ (i + 1 + (63 - i)) := by rw [Int.pow_add, Int.pow_add]; simp [Int.mul_assoc]
      rw [this, show i + 1 + (63 - i) = 64 from by omega]; rfl
    rw [h2]
    have hp : (0 : Int) < 2 ^ i := Int.pow_pos (by decide)
    have h3 : m % (2 ^ i * (2 * 2 ^ (63 - i))) = m - 2 ^ i * ((2 * 2 ^ (63 - i)) * (m / (2 ^ i * (2 * 2 ^ (63 - i))))) := by
      rw [Int.emod_def, Int.mul_assoc]
    rw [h3]
    have h4 : (m - 2 ^ i * ((2 * 2 ^ (63 - i)) * (m / (2 ^ i * (2 * 2 ^ (63 - i)))))) / 2 ^ i = m / 2 ^ i - (2 * 2 ^ (63 - i)) * (m / (2 ^ i * (2 * 2 ^ (63 - i)))) := by
      rw [Int.sub_eq_add_neg, ← Int.mul_neg, Int.add_mul_ediv_left _ _ (Int.ne_of_gt hp)]
      rw [← Int.sub_eq_add_neg]
    simp only [Int.natCast_pow, Int.cast_ofNat_Int]
    rw [h4, Int.mul_assoc, Int.sub_emod, Int.mul_emod_right]
    simp
  by_cases h : m / 2 ^ i % 2 = 0
  · have : (m % (2 ^ 64 : Nat)).toNat / 2 ^ i % 2 = 0 := by omega
    rw [this, h]; rfl
  · have : (m % (2 ^ 64 : Nat)).toNat / 2 ^ i % 2 = 1 := by omega
    rw [this, show (m / 2 ^ i % 2 == 0) = false from by simpa using h]; rfl

theorem gb_pow (i j : Nat) (_hi : i < 63) (hj : j < 64) : gb (2 ^ i) j = decide (i = j) := by
  rw [gb_div _ _ hj]
  by_cases h : i = j
  · subst h
    rw [Int.ediv_self (Int.ne_of_gt (Int.pow_pos (by decide)))]
    simp
  · rcases Nat.lt_or_ge j i with hlt | hge
    · have : (2 : Int) ^ i / 2 ^ j = 2 * 2 ^ (i - j - 1) := by
        have e : (2 : Int) ^ i = 2 ^ j * (2 * 2 ^ (i - j - 1)) := by
          have : (2 : Int) ^ j * (2 * 2 ^ (i - j - 1)) = 2 ^ (j + 1 + (i - j - 1)) := by rw [Int.pow_add, Int.pow_add]; simp [Int.mul_assoc]
          rw [this, show j + 1 + (i - j - 1) = i from by omega]
        rw [e, Int.mul_ediv_cancel_left _ (Int.ne_of_gt (Int.pow_pos (by decide)))]
      rw [this]
      simp [h]
    · have hlt : i < j := by omega
      have : (2 : Int) ^ i / 2 ^ j = 0 := Int.ediv_eq_zero_of_lt (Int.le_of_lt (Int.pow_pos (by decide))) (Int.pow_lt_pow_of_lt (by decide) hlt)
      rw [this]
      simp [h]

theorem i64_pow (i : Nat) (hi : i < 63) : I64 ((2 : Int) ^ i) := by
  have h1 : (0 : Int) < 2 ^ i := Int.pow_pos (by decide)
  have h2 : (2 : Int) ^ i ≤ 2 ^ 62 := by
    rcases Nat.lt_or_ge i 62 with h | h
    · exact Int.le_of_lt (Int.pow_lt_pow_of_lt (by decide) h)
    · rw [show i = 62 from by omega]; exact Int.le_refl _
  unfold I64
  omega

theorem hasB_gb (m : Int) (i : Nat) (hi : i < 63) : hasB m (2 ^ i) = gb m i := by
  unfold hasB
  rw [Bool.eq_iff_iff, beq_iff_eq]
  constructor
  · intro h
    have : gb (bits .and .i64 m (2 ^ i)) i = gb (2 ^ i) i := by rw [h]
    rw [gb_and, gb_pow i i hi (by omega)] at this
    simpa using this
  · intro h
    refine gb_ext _ _ (i64_and _ _) (i64_pow i hi) fun j hj => ?_
    rw [gb_and, gb_pow i j hi hj]
    by_cases e : i = j
    · subst e; simp [h]
    · simp [e]

theorem tb_gb (m : Int) (i : Nat) (hi : i < 64) : tb m (2 ^ i) = gb m i := (gb_div m i hi).symm

theorem hasB_tb (m : Int) (i : Nat) (hi : i < 63) : hasB m (2 ^ i) = tb m (2 ^ i) := by rw [hasB_gb m i hi, tb_gb m i (by omega)]
theorem hasB_tb1 (m : Int) : hasB m 1 = tb m 1 := hasB_tb m 0 (by decide)
theorem hasB_tb2 (m : Int) : hasB m 2 = tb m 2 := hasB_tb m 1 (by decide)
theorem hasB_tb4 (m : Int) : hasB m 4 = tb m 4 := hasB_tb m 2 (by decide)
theorem hasB_tb8 (m : Int) : hasB m 8 = tb m 8 := hasB_tb m 3 (by decide)
theorem hasB_tb16 (m : Int) : hasB m 16 = tb m 16 := hasB_tb m 4 (by decide)

theorem and1_zero (m : Int) : (bits .and .i64 m 1 == 0) = !hasB m 1 := by
  rw [Bool.eq_iff_iff, beq_iff_eq, Bool.not_eq_true', show (1 : Int) = 2 ^ 0 from rfl, hasB_gb m 0 (by decide)]
  constructor
  · intro h
    have : gb (bits .and .i64 m (2 ^ 0)) 0 = gb 0 0 := by rw [h]
    rw [gb_and, gb_pow 0 0 (by decide) (by decide), gb_zero] at this
    simpa using this
  · intro h
    refine gb_ext _ _ (i64_and _ _) (by unfold I64; omega) fun j hj => ?_
    rw [gb_and, gb_pow 0 j (by decide) hj, gb_zero]
    by_cases e : 0 = j
    · subst e; simp [h]
    · simp [e]
theorem withF_eq (b c : Bun) : rWithF b c = withF b c := by
  unfold rWithF withF
  rw [hasB_tb1, hasB_tb2, hasB_tb4, hasB_tb8, hasB_tb16]
theorem sub_and (m k : Int) (hm : I64 m) : wrap64 (m - bits .and .i64 m k) = bits .andNot .i64 (bits .or .i64 m k) k := by
  have e1 : m - bits .and .i64 m k = bits .andNot .i64 m k := by
    rw [bits_and_i64, bits_andNot_i64]
    have hv := toInt_ofInt_i64 m hm
    generalize BitVec.ofInt 64 m = v at *
    generalize BitVec.ofInt 64 k = u
    subst hv
    have h1 : (v &&& u) + (v &&& ~~~u) = v := by
      rw [BitVec.add_eq_or_of_and_eq_zero]
      · ext i hi; simp; cases v[i] <;> cases u[i] <;> rfl
      · ext i hi; simp; cases v[i] <;> cases u[i] <;> simp
    have hx : (v &&& u).msb = (v.msb && u.msb) := BitVec.msb_and
    have hy : (v &&& ~~~u).msb = (v.msb && !u.msb) := by rw [BitVec.msb_and, BitVec.msb_not]; simp
    have lx : (v &&& u).toNat ≤ v.toNat := by rw [BitVec.toNat_and]; exact Nat.and_le_left
    have ly : (v &&& ~~~u).toNat ≤ v.toNat := by rw [BitVec.toNat_and]; exact Nat.and_le_left
    have hs := congrArg BitVec.toNat h1
    rw [BitVec.toNat_add] at hs
    have l1 := v.isLt
    rw [BitVec.toInt_eq_msb_cond, BitVec.toInt_eq_msb_cond, BitVec.toInt_eq_msb_cond, hx, hy]
    clear hx hy h1 hm
    generalize (v &&& u).toNat = a at *
    generalize (v &&& ~~~u).toNat = b at *
    generalize v.toNat = c at *
    cases v.msb <;> cases u.msb <;> simp <;> omega
  have e2 : bits .andNot .i64 (bits .or .i64 m k) k = bits .andNot .i64 m k := by
    refine gb_ext _ _ (i64_andNot _ _) (i64_andNot _ _) fun i hi => ?_
    rw [gb_andNot _ _ _ hi, gb_andNot _ _ _ hi, gb_or]
    cases gb m i <;> cases gb k i <;> rfl
  rw [e1, e2]
  have := i64_andNot m k
  unfold I64 at this
  unfold wrap64
  omega
theorem withoutF_eq (b : Bun) (k : Int) (hm : I64 b.m) : rWithoutF b k = withoutF b k := by
  unfold rWithoutF withoutF
  rw [hasB_tb1, hasB_tb2, hasB_tb4, hasB_tb8, hasB_tb16, sub_and _ _ hm]

/-! ### What is put and taken away -/
theorem hasB_or1 (m n : Int) : hasB (bits .or .i64 m n) 1 = (hasB m 1 || hasB n 1) := by
  have := gb_or m n 0; simpa [← hasB_gb _ 0 (by decide)] using this
theorem hasB_or2 (m n : Int) : hasB (bits .or .i64 m n) 2 = (hasB m 2 || hasB n 2) := by
  have := gb_or m n 1; simpa [← hasB_gb _ 1 (by decide)] using this
theorem hasB_or4 (m n : Int) : hasB (bits .or .i64 m n) 4 = (hasB m 4 || hasB n 4) := by
  have := gb_or m n 2; simpa [← hasB_gb _ 2 (by decide)] using this
theorem hasB_or8 (m n : Int) : hasB (bits .or .i64 m n) 8 = (hasB m 8 || hasB n 8) := by
  have := gb_or m n 3; simpa [← hasB_gb _ 3 (by decide)] using this
theorem hasB_or16 (m n : Int) : hasB (bits .or .i64 m n) 16 = (hasB m 16 || hasB n 16) := by
  have := gb_or m n 4; simpa [← hasB_gb _ 4 (by decide)] using this

theorem small_gb (m : Int) (h : inR 0 m 31 = true) (i : Nat) (h5 : 5 ≤ i) (hi : i < 64) : gb m i = false := by
  simp only [inR, Bool.and_eq_true, decide_eq_true_eq] at h
  rw [gb_div _ _ hi]
  have h2 : (2 : Int) ^ 5 ≤ 2 ^ i := by
    rcases Nat.lt_or_ge 5 i with h' | h'
    · exact Int.le_of_lt (Int.pow_lt_pow_of_lt (by decide) h')
    · rw [show i = 5 from by omega]; exact Int.le_refl _
  rw [Int.ediv_eq_zero_of_lt h.1 (by omega)]
  rfl
theorem gb_31 (i : Nat) (h5 : i < 5) : gb 31 i = true := by
  match i, h5 with
  | 0, _ => decide
  | 1, _ => decide
  | 2, _ => decide
  | 3, _ => decide
  | 4, _ => decide
theorem and_31 (m : Int) : 0 ≤ bits .and .i64 m 31 ∧ bits .and .i64 m 31 ≤ 31 := by
  rw [bits_and_i64]
  have h : (BitVec.ofInt 64 m &&& BitVec.ofInt 64 31).toNat ≤ 31 := by rw [BitVec.toNat_and]; exact Nat.and_le_right
  rw [BitVec.toInt_eq_toNat_cond]
  split <;> omega
theorem gb_small (m : Int) (hm : I64 m) (h : ∀ i, 5 ≤ i → i < 64 → gb m i = false) : inR 0 m 31 = true := by
  have e : m = bits .and .i64 m 31 := gb_ext _ _ hm (i64_and _ _) fun i hi => by
    rw [gb_and]
    rcases Nat.lt_or_ge i 5 with h5 | h5
    · rw [gb_31 i h5, Bool.and_true]
    · rw [h i h5 hi, Bool.false_and]
  have := and_31 m
  rw [← e] at this
  simpa [inR] using this
theorem small_or (a b : Int) (ha : inR 0 a 31 = true) (hb : inR 0 b 31 = true) : inR 0 (bits .or .i64 a b) 31 = true :=
  gb_small _ (i64_or _ _) fun i h5 hi => by rw [gb_or, small_gb a ha i h5 hi, small_gb b hb i h5 hi]; rfl
theorem small_wo (a k : Int) (ha : inR 0 a 31 = true) : inR 0 (bits .andNot .i64 (bits .or .i64 a k) k) 31 = true :=
  gb_small _ (i64_andNot _ _) fun i h5 hi => by rw [gb_andNot _ _ _ hi, gb_or, small_gb a ha i h5 hi]; cases gb k i <;> rfl
theorem within_put {p q : Bool} {x y lo hi : Int} (h1 : withinB p x lo hi = true) (h2 : withinB q y lo hi = true) : withinB (p || q) (if q = true then y else x) lo hi = true := by
  cases p <;> cases q <;> simp_all [withinB]
theorem within_take {p q : Bool} {x lo hi : Int} (h1 : withinB p x lo hi = true) : withinB (p && !q) (if q = true then 0 else x) lo hi = true := by
  cases p <;> cases q <;> simp_all [withinB]
theorem hasB_wo (m n : Int) (i : Nat) (hi : i < 63) : hasB (bits .andNot .i64 (bits .or .i64 m n) n) (2 ^ i) = (hasB m (2 ^ i) && !hasB n (2 ^ i)) := by
  rw [hasB_gb _ i hi, hasB_gb _ i hi, hasB_gb _ i hi, gb_andNot _ _ _ (by omega), gb_or]
  cases gb m i <;> cases gb n i <;> rfl
theorem hasB_wo1 (m n : Int) : hasB (bits .andNot .i64 (bits .or .i64 m n) n) 1 = (hasB m 1 && !hasB n 1) := hasB_wo m n 0 (by decide)
theorem hasB_wo2 (m n : Int) : hasB (bits .andNot .i64 (bits .or .i64 m n) n) 2 = (hasB m 2 && !hasB n 2) := hasB_wo m n 1 (by decide)
theorem hasB_wo4 (m n : Int) : hasB (bits .andNot .i64 (bits .or .i64 m n) n) 4 = (hasB m 4 && !hasB n 4) := hasB_wo m n 2 (by decide)
theorem hasB_wo8 (m n : Int) : hasB (bits .andNot .i64 (bits .or .i64 m n) n) 8 = (hasB m 8 && !hasB n 8) := hasB_wo m n 3 (by decide)
theorem hasB_wo16 (m n : Int) : hasB (bits .andNot .i64 (bits .or .i64 m n) n) 16 = (hasB m 16 && !hasB n 16) := hasB_wo m n 4 (by decide)
theorem right_with (b c : Bun) (hb : rightB b = true) (hc : rightB c = true) : rightB (withF b c) = true := by
  unfold rightB at *
  simp only [Bool.and_eq_true] at *
  obtain ⟨⟨⟨⟨⟨⟨⟨a0, a1⟩, a2⟩, a3⟩, a4⟩, a5⟩, a6⟩, a7⟩ := hb
  obtain ⟨⟨⟨⟨⟨⟨⟨c0, c1⟩, c2⟩, c3⟩, c4⟩, c5⟩, c6⟩, c7⟩ := hc
  simp only [withF, hasB_or1, hasB_or2, hasB_or4, hasB_or8, hasB_or16]
  exact ⟨⟨⟨⟨⟨⟨⟨small_or _ _ a0 c0, within_put a1 c1⟩, within_put a2 c2⟩, within_put a3 c3⟩, within_put a4 c4⟩, within_put a5 c5⟩, within_put a6 c6⟩, within_put a7 c7⟩
theorem right_without (b : Bun) (k : Int) (hb : rightB b = true) : rightB (withoutF b k) = true := by
  unfold rightB at *
  simp only [Bool.and_eq_true] at *
  obtain ⟨⟨⟨⟨⟨⟨⟨a0, a1⟩, a2⟩, a3⟩, a4⟩, a5⟩, a6⟩, a7⟩ := hb
  simp only [withoutF, hasB_wo1, hasB_wo2, hasB_wo4, hasB_wo8, hasB_wo16]
  exact ⟨⟨⟨⟨⟨⟨⟨small_wo _ _ a0, within_take a1⟩, within_take a2⟩, within_take a3⟩, within_take a4⟩, within_take a5⟩, within_take a6⟩, within_take a7⟩
theorem check_with (b c : Bun) (hb : checkB b = true) (hc : rightB c = true) : checkB (withF b c) = true := by
  unfold checkB at *
  simp only [Bool.and_eq_true] at *
  refine ⟨⟨right_with b c hb.1.1 hc, ?_⟩, hb.2⟩
  simp only [withF, hasB_or1, hb.1.2, Bool.true_or]
theorem check_without (b : Bun) (k : Int) (hb : checkB b = true) : checkB (withoutF b k) = (bits .and .i64 k 1 == 0) := by
  unfold checkB at *
  simp only [Bool.and_eq_true] at hb
  rw [right_without b k hb.1.1, and1_zero]
  have e : idOk (withoutF b k).s (withoutF b k).i (withoutF b k).g = true := hb.2
  rw [e]
  simp only [withoutF, hasB_wo1, hb.1.2]
  cases hasB k 1 <;> rfl
end Go.Proofs.YtoimjjhopljdmaaGreat
namespace Go.Proofs.YtoimjjhopljdmaaGreat
open Go.RowKit

structure Cfg where
  (cols rows side radius speed ids queue : Int)
structure CfgOk (c : Cfg) : Prop where
  c0 : 1 ≤ c.cols
  c1 : c.cols ≤ 4
  r0 : 1 ≤ c.rows
  r1 : c.rows ≤ 4
  s0 : 256 ≤ c.side
  s1 : c.side ≤ 1048576
  a0 : 0 ≤ c.radius
  a1 : c.radius ≤ c.side
  v0 : 0 ≤ c.speed
  v1 : c.speed ≤ c.side
  i0 : 1 ≤ c.ids
  i1 : c.ids ≤ 16
  q0 : 1 ≤ c.queue
  q1 : c.queue ≤ 64


set_option maxHeartbeats 1000000 in
theorem zcheck_ok (cols rows side radius speed ids queue : Int) (w : World) (h : CfgOk ⟨cols, rows, side, radius, speed, ids, queue⟩) :
    Calls Tryz.prog 119 #[.agg #[.int .i64 cols, .int .i64 rows, .int .i64 side, .int .i64 radius, .int .i64 speed, .int .i64 ids, .int .i64 queue]] w fun e w' => e = .returned (.int .i64 0) ∧ Below w.heap.size w w' := by
  obtain ⟨c0, c1, r0, r1, s0, s1, a0, a1, v0, v1, i0, i1, q0, q1⟩ := h
  simp only at c0 c1 r0 r1 s0 s1 a0 a1 v0 v1 i0 i1 q0 q1
  go_enter Tryz.func119, Tryz.ntmps119
  go_wp2_with fail
  refine wp_loop_rounds 8 ?_
  repeat any_goals (rw [rounds_succ]; go_wp2_with fail)
  all_goals go_ret
  exact ⟨rfl, bg⟩

theorem CfgOk.prod {c : Cfg} (h : CfgOk c) : 256 ≤ c.cols * c.side ∧ c.cols * c.side ≤ 4194304 ∧ 256 ≤ c.rows * c.side ∧ c.rows * c.side ≤ 4194304 := by
  obtain ⟨c0, c1, r0, r1, s0, s1, _⟩ := h
  refine ⟨?_, ?_, ?_, ?_⟩
  · have := Int.mul_le_mul c0 s0 (by omega) (by omega); omega
  · have := Int.mul_le_mul c1 s1 (by omega) (by omega); omega
  · have := Int.mul_le_mul r0 s0 (by omega) (by omega); omega
  · have := Int.mul_le_mul r1 s1 (by omega) (by omega); omega

def MapAt (w : World) (b : Nat) (c : Cfg) : Prop := w.heap[b]? = some (.cells #[.int .i64 c.cols, .int .i64 c.rows, .int .i64 c.side, .int .i64 c.radius, .int .i64 c.speed, .int .i64 c.ids, .int .i64 c.queue, .int .i64 0, .int .i64 0, .int .i64 (c.cols * c.side), .int .i64 (c.rows * c.side)] 142 (0, 0))

set_option maxHeartbeats 1000000 in
theorem znew_ok (cols rows side radius speed ids queue : Int) (w : World) (h : CfgOk ⟨cols, rows, side, radius, speed, ids, queue⟩) :
    Calls Tryz.prog 79 #[.agg #[.int .i64 cols, .int .i64 rows, .int .i64 side, .int .i64 radius, .int .i64 speed, .int .i64 ids, .int .i64 queue]] w fun e w' => ∃ b, e = .returned (.tuple #[.pointer (some ⟨b, 0, none⟩), .int .i64 0]) ∧ Below w.heap.size w w' ∧ MapAt w' b ⟨cols, rows, side, radius, speed, ids, queue⟩ ∧ w.heap.size ≤ b := by
  obtain ⟨p1, p2, p3, p4⟩ := h.prod
  have HC := Lib.hid (fun W => zcheck_ok cols rows side radius speed ids queue W h)
  clear h
  simp only at p1 p2 p3 p4
  generalize hx1 : cols * side = x1 at *
  generalize hy1 : rows * side = y1 at *
  go_enter Tryz.func79, Tryz.ntmps79
  go_wp2_with (go_at_call 119; refine (HC.out _).mono ?_; rintro e w' ⟨rfl, hb⟩; obtain ⟨d, os, rfl⟩ := more_of hb; clear hb)
  go_ret2
  refine ⟨_, rfl, bg, ?_, by omega⟩
  unfold MapAt
  simp only [hx1, hy1]
  have hn := heap_alloc_new (more (w.alloc (.cells #[.int .i64 cols, .int .i64 rows, .int .i64 side, .int .i64 radius, .int .i64 speed, .int .i64 ids, .int .i64 queue] 23)) d os) (.cells #[.int .i64 cols, .int .i64 rows, .int .i64 side, .int .i64 radius, .int .i64 speed, .int .i64 ids, .int .i64 queue, .int .i64 0, .int .i64 0, .int .i64 x1, .int .i64 y1] 142)
  simpa using hn

def inF (c : Cfg) (x y : Int) : Int × Int := (max 0 (min x (c.cols * c.side - 1)), max 0 (min y (c.rows * c.side - 1)))

theorem MapAt.cell {w : World} {b : Nat} {c : Cfg} (h : MapAt w b c) (j : Nat) : w.cell? ⟨b, j, none⟩ = (#[.int .i64 c.cols, .int .i64 c.rows, .int .i64 c.side, .int .i64 c.radius, .int .i64 c.speed, .int .i64 c.ids, .int .i64 c.queue, .int .i64 0, .int .i64 0, .int .i64 (c.cols * c.side), .int .i64 (c.rows * c.side)] : Array Value)[j]? := by
  simp only [MapAt] at h
  simp [World.cell?, h]

theorem MapAt.grow {w w' : World} {b : Nat} {c : Cfg} (h : MapAt w b c) (hb : Below w.heap.size w w') : MapAt w' b c := (hb.block b (Array.getElem?_eq_some_iff.1 h).1).trans h

set_option maxHeartbeats 1000000 in
theorem zin_any (w : World) (b : Nat) (c : Cfg) (x y : Int) (h : MapAt w b c) (ho : CfgOk c) :
    Calls Tryz.prog 142 #[.pointer (some ⟨b, 0, none⟩), .int .i64 x, .int .i64 y] w fun e w' => e = .returned (.tuple #[.int .i64 (inF c x y).1, .int .i64 (inF c x y).2]) ∧ ∃ n, w' = w.drewN n := by
  obtain ⟨p1, p2, p3, p4⟩ := ho.prod
  have h9 := h.cell 9
  have h10 := h.cell 10
  simp only [List.getElem?_toArray, List.getElem?_cons_succ, List.getElem?_cons_zero] at h9 h10
  simp only [inF]
  clear h ho
  generalize c.cols * c.side = x1 at *
  generalize c.rows * c.side = y1 at *
  go_enter Tryz.func142, Tryz.ntmps142
  go_wp2_with fail
  go_quiet (fail)
  go_wp2_with fail
  all_goals go_ret2
  all_goals exact ⟨rfl, _, rfl⟩

end Go.Proofs.YtoimjjhopljdmaaGreat
namespace Go.Proofs.YtoimjjhopljdmaaGreat
open Go.RowKit

def inW (c : Cfg) (x y : Int) : Bool := decide (0 ≤ x ∧ x < c.cols * c.side ∧ 0 ≤ y ∧ y < c.rows * c.side)
def ofF (c : Cfg) (x y : Int) : Int := if inW c x y then y / c.side * c.cols + x / c.side else -1

theorem div_rng {x n s : Int} (h0 : 0 ≤ x) (h1 : x < n * s) (hs : 0 < s) : 0 ≤ x / s ∧ x / s < n := ⟨Int.ediv_nonneg h0 (by omega), Int.ediv_lt_of_lt_mul hs h1⟩

set_option maxRecDepth 100000 in
set_option maxHeartbeats 1000000 in
theorem zof_any (w : World) (b : Nat) (c : Cfg) (x y : Int) (h : MapAt w b c) (ho : CfgOk c) :
    Calls Tryz.prog 83 #[.pointer (some ⟨b, 0, none⟩), .int .i64 x, .int .i64 y] w fun e w' => e = .returned (.int .i64 (ofF c x y)) ∧ Below w.heap.size w w' := by
  obtain ⟨p1, p2, p3, p4⟩ := ho.prod
  have hb := (Array.getElem?_eq_some_iff.1 h).1
  have hg := gapF_world (c.cols * c.side) (c.rows * c.side) x y (by omega) (by omega) (by omega) (by omega)
  have h0 := h.cell 0; have h2 := h.cell 2; have h7 := h.cell 7; have h8 := h.cell 8; have h9 := h.cell 9; have h10 := h.cell 10
  simp only [List.getElem?_toArray, List.getElem?_cons_succ, List.getElem?_cons_zero] at h0 h2 h7 h8 h9 h10
  have HH := Lib.hid (fun W => rhas_any 0 0 (c.cols * c.side) (c.rows * c.side) x y W)
  have s0 := ho.s0
  have s1 := ho.s1
  have k0 := ho.c0
  have k1 := ho.c1
  have r1 := ho.r1
  unfold ofF
  unfold inW
  rw [hg] at HH
  obtain ⟨z0, z1, z2⟩ := ltz hb
  by_cases hw : 0 ≤ x ∧ x < c.cols * c.side ∧ 0 ≤ y ∧ y < c.rows * c.side
  · have hd : decide (0 ≤ x ∧ x < c.cols * c.side ∧ 0 ≤ y ∧ y < c.rows * c.side) = true := decide_eq_true hw
    rw [hd] at HH ⊢
    rw [if_pos rfl]
    obtain ⟨x0, x1, y0, y1⟩ := hw
    obtain ⟨dx0, dx1⟩ := div_rng x0 x1 (by omega)
    obtain ⟨dy0, dy1⟩ := div_rng y0 y1 (by omega)
    have ey : Int.tdiv y c.side = y / c.side := Int.tdiv_eq_ediv_of_nonneg y0
    have ex : Int.tdiv x c.side = x / c.side := Int.tdiv_eq_ediv_of_nonneg x0
    have hm0 : 0 ≤ y / c.side * c.cols := Int.mul_nonneg dy0 (by omega)
    have hm1 : y / c.side * c.cols ≤ 3 * 4 := Int.mul_le_mul (by omega) k1 (by omega) (by omega)
    clear hd hg h ho
    generalize hcs : c.cols * c.side = cs at *
    generalize hrs : c.rows * c.side = rs at *
    generalize y / c.side = qy at *
    generalize x / c.side = qx at *
    generalize c.side = side at *
    generalize hcc : c.cols = cols at *
    have w1 : IntKind.i64.wrap qy = qy := by rw [IntKind.wrap_i64]; omega
    have w2 : IntKind.i64.wrap qx = qx := by rw [IntKind.wrap_i64]; omega
    have w3 : IntKind.i64.wrap (qy * cols) = qy * cols := by rw [IntKind.wrap_i64]; omega
    have w4 : IntKind.i64.wrap (qy * cols + qx) = qy * cols + qx := by rw [IntKind.wrap_i64]; omega
    have hne : side ≠ 0 := by omega
    go_enter Tryz.func83, Tryz.ntmps83
    go_wp2_with (go_at_call 124; refine (HH.out _).mono ?_; rintro e w' ⟨rfl, hb⟩; obtain ⟨d, os, rfl⟩ := more_of hb; clear hb)
    refine wp_region_more (by kernel_rfl) (by kernel_rfl) ?_
    repeat (go_big_quiet_step (fail))
    refine wpQuiet_nil ?_
    rintro _ ⟨pn, rfl⟩
    go_wp2_with fail
    go_ret
    exact ⟨rfl, bg⟩
  · have hd : decide (0 ≤ x ∧ x < c.cols * c.side ∧ 0 ≤ y ∧ y < c.rows * c.side) = false := decide_eq_false hw
    rw [hd] at HH ⊢
    simp only [Bool.false_eq_true, if_false]
    clear hd hw hg h ho
    generalize hcs : c.cols * c.side = cs at *
    generalize hrs : c.rows * c.side = rs at *
    go_enter Tryz.func83, Tryz.ntmps83
    go_wp2_with (go_at_call 124; refine (HH.out _).mono ?_; rintro e w' ⟨rfl, hb⟩; obtain ⟨d, os, rfl⟩ := more_of hb; clear hb)
    go_ret
    exact ⟨rfl, bg⟩
end Go.Proofs.YtoimjjhopljdmaaGreat
namespace Go.Proofs.YtoimjjhopljdmaaGreat
open Go.RowKit

theorem col_row {cx cy n : Int} (h0 : 0 ≤ cx) (h1 : cx < n) : (cy * n + cx) % n = cx ∧ (cy * n + cx) / n = cy := by
  have e1 : (cy * n + cx) % n = cx := by rw [Int.add_comm, Int.add_mul_emod_self_right, Int.emod_eq_of_lt h0 h1]
  have e2 : (cy * n + cx) / n = cy := by rw [Int.add_comm, Int.add_mul_ediv_right _ _ (by omega), Int.ediv_eq_zero_of_lt h0 h1, Int.zero_add]
  exact ⟨e1, e2⟩

theorem ofF_in {c : Cfg} (ho : CfgOk c) {x y : Int} (h : inW c x y = true) : ofF c x y = y / c.side * c.cols + x / c.side ∧ 0 ≤ x / c.side ∧ x / c.side < c.cols ∧ 0 ≤ y / c.side ∧ y / c.side < c.rows ∧ 0 ≤ ofF c x y ∧ ofF c x y < c.cols * c.rows := by
  have h' := h
  unfold inW at h'
  obtain ⟨x0, x1, y0, y1⟩ := of_decide_eq_true h'
  have s0 := ho.s0
  obtain ⟨a0, a1⟩ := div_rng x0 x1 (by omega)
  obtain ⟨b0, b1⟩ := div_rng y0 y1 (by omega)
  have e : ofF c x y = y / c.side * c.cols + x / c.side := by unfold ofF; rw [h, if_pos rfl]
  have hc := ho.c0
  have m0 : 0 ≤ y / c.side * c.cols := Int.mul_nonneg b0 (by omega)
  have m1 : y / c.side * c.cols ≤ (c.rows - 1) * c.cols := Int.mul_le_mul_of_nonneg_right (by omega) (by omega)
  have m2 : (c.rows - 1) * c.cols = c.cols * c.rows - c.cols := by rw [Int.sub_mul, Int.one_mul, Int.mul_comm]
  refine ⟨e, a0, a1, b0, b1, by omega, by omega⟩

theorem CfgOk.cnt {c : Cfg} (h : CfgOk c) : 1 ≤ c.cols * c.rows ∧ c.cols * c.rows ≤ 16 := by
  have h1 := Int.mul_le_mul h.c0 h.r0 (by omega) (by have := h.c0; omega)
  have h2 := Int.mul_le_mul h.c1 h.r1 (by have := h.r0; omega) (by omega)
  omega

theorem zcount_any (w : World) (b : Nat) (c : Cfg) (h : MapAt w b c) (ho : CfgOk c) :
    Calls Tryz.prog 81 #[.pointer (some ⟨b, 0, none⟩)] w fun e w' => e = .returned (.int .i64 (c.cols * c.rows)) ∧ Below w.heap.size w w' := by
  obtain ⟨n1, n2⟩ := ho.cnt
  have hb := (Array.getElem?_eq_some_iff.1 h).1
  have h0 := h.cell 0; have h1 := h.cell 1
  simp only [List.getElem?_toArray, List.getElem?_cons_succ, List.getElem?_cons_zero] at h0 h1
  obtain ⟨z0, z1, z2⟩ := ltz hb
  have w1 : IntKind.i64.wrap (c.cols * c.rows) = c.cols * c.rows := by rw [IntKind.wrap_i64]; omega
  clear h ho
  generalize c.cols = cols at *
  generalize c.rows = rows at *
  go_enter Tryz.func81, Tryz.ntmps81
  go_wp2_with fail
  refine wp_region_more (by kernel_rfl) (by kernel_rfl) ?_
  repeat (go_big_quiet_step (fail))
  refine wpQuiet_nil ?_
  rintro _ ⟨pn, rfl⟩
  go_wp2_with fail
  go_ret
  exact ⟨rfl, bg⟩
end Go.Proofs.YtoimjjhopljdmaaGreat
