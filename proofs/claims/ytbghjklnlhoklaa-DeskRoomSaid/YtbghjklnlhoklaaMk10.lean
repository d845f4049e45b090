/-
  Walks of the reference of chapter 9: Error, half, Bit, in, Right, RightID, May, takes. Each function computes its plain twin; new memory alone is written. Condition of half and Bit: the number is an int (64 bits).
  Plain facts on masks (64-bit integers by their bits) and on what chapter 9's functions compute. No program here.
  Package zones, as chapter 14 uses it: Check, New, In; systems.Move; the references'. Condition: the world may be.
-/
import Derived.Test.YtbghjklnlhoklaaEq
import Derived.Test.YtbghjklnlhoklaaMk2
import Derived.Test.YtbghjklnlhoklaaMk9
import Derived.Test.YtbghjklnlhoklaaPaA
import Derived.StillTailTactics
namespace Go.Proofs.Ytbghjklnlhoklaa
open Go.RowKit

theorem tmod_two (m : Int) : m.tmod 2 = if m % 2 = 0 then 0 else if m < 0 then -1 else 1 := by
  rcases Int.lt_or_le m 0 with h | h
  · have e : m.tmod 2 = -((-m) % 2) := by
      have := Int.neg_tmod (-m) 2
      rw [Int.neg_neg] at this
      rw [this, Int.tmod_eq_emod_of_nonneg (by omega)]
    rw [e]
    split <;> omega
  · rw [Int.tmod_eq_emod_of_nonneg h]
    split <;> omega

theorem tdiv_two (m : Int) : m.tdiv 2 = if m % 2 = 0 then m / 2 else if m < 0 then m / 2 + 1 else m / 2 := by
  have h := Int.tmod_add_mul_tdiv m 2
  rw [tmod_two] at h
  split at h <;> omega

theorem wrap64_at (n : Int) (h0 : -9223372036854775808 ≤ n) (h1 : n ≤ 9223372036854775807) : wrap64 n = n := by unfold wrap64; omega

theorem half_neg_odd (m : Int) (h0 : -9223372036854775808 ≤ m) (h1 : m < 0) (h2 : (m.tmod 2 != 0) = true) : wrap64 ((wrap64 (m - 1)).tdiv 2) = m / 2 := by
  rw [bne_iff_ne, tmod_two] at h2
  have ho : m % 2 ≠ 0 := by intro h; simp [h] at h2
  rw [wrap64_at (m - 1) (by omega) (by omega), tdiv_two, if_pos (by omega), wrap64_at _ (by omega) (by omega)]
  omega

theorem half_neg_even (m : Int) (h0 : -9223372036854775808 ≤ m) (h1 : m < 0) (h2 : (m.tmod 2 != 0) = false) : wrap64 (m.tdiv 2) = m / 2 := by
  rw [bne_eq_false_iff_eq, tmod_two] at h2
  have ho : m % 2 = 0 := by
    by_cases h : m % 2 = 0
    · exact h
    · rw [if_neg h] at h2; split at h2 <;> omega
  rw [tdiv_two, if_pos ho, wrap64_at _ (by omega) (by omega)]

theorem half_any (m : Int) (w : World) (h0 : -9223372036854775808 ≤ m) (h1 : m ≤ 9223372036854775807) : Calls Try.prog 94 #[.int .i64 m] w fun e w' => e = .returned (.int .i64 (m / 2)) ∧ w = w' := by
  generalize hr : m / 2 = r
  have HR := Lib.hid hr
  clear hr
  have H0 := Lib.hid h0
  clear h0
  go_enter Try.func94, Try.ntmps94
  go_wp2
  · go_ret
    refine ⟨?_, rfl⟩
    rw [← HR.out]
    exact congrArg (fun n => Ending.returned (Value.int .i64 n)) (half_neg_odd m H0.out (by assumption) (by assumption))
  · go_ret
    refine ⟨?_, rfl⟩
    rw [← HR.out]
    exact congrArg (fun n => Ending.returned (Value.int .i64 n)) (half_neg_even m H0.out (by assumption) (by assumption))
  · go_ret
    exact ⟨by rw [← HR.out]; rfl, rfl⟩

theorem bit_end (q : Int) : (q.tmod 2 != 0) = !(q % 2 == 0) := by
  rw [tmod_two]
  by_cases h : q % 2 = 0
  · simp [h]
  · by_cases h2 : q < 0 <;> simp [h, h2]

set_option maxHeartbeats 1000000 in
theorem bit_any (m c : Int) (w : World) (h0 : -9223372036854775808 ≤ m) (h1 : m ≤ 9223372036854775807) (hc : c = 1 ∨ c = 2 ∨ c = 4 ∨ c = 8 ∨ c = 16) :
    Calls Try.prog 79 #[.int .i64 m, .int .i64 c] w fun e w' => e = .returned (.bool (tb m c)) ∧ w = w' := by
  generalize hr : tb m c = r
  have HR := Lib.hid hr
  clear hr
  rcases hc with rfl | rfl | rfl | rfl | rfl
  all_goals
    go_enter Try.func79, Try.ntmps79
    go_wp2_with fail
    refine wp_loop_rounds 5 ?_
    repeat any_goals (rw [rounds_succ]; go_wp2_with (go_at_call 94; refine (half_any _ _ (by omega) (by omega)).mono ?_; rintro e w' ⟨rfl, rfl⟩))
    go_ret
    refine ⟨?_, rfl⟩
    rw [← HR.out]
    unfold tb
    refine congrArg (fun b => Ending.returned (Value.bool b)) ?_
    refine (bit_end _).trans ?_
    refine congrArg (fun n : Int => !(n % 2 == 0)) ?_
    omega

theorem rIn_any (n lo hi : Int) (h : Bool) (w : World) :
    Calls Try.prog 80 #[.int .i64 n, .int .i64 lo, .int .i64 hi, .bool h] w fun e w' => e = .returned (.bool (withinB h n lo hi)) ∧ w = w' := by
  cases h
  · go_enter Try.func80, Try.ntmps80
    go_wp2
    go_ret
    exact ⟨rfl, rfl⟩
  · by_cases h1 : lo ≤ n
    · go_enter Try.func80, Try.ntmps80
      go_wp2
      go_ret
      exact ⟨by simp [withinB, inR]; omega, rfl⟩
    · go_enter Try.func80, Try.ntmps80
      go_wp2
      go_ret
      exact ⟨by simp [withinB, inR]; omega, rfl⟩

theorem rTakes_any (m : Int) (w : World) : Calls Try.prog 51 #[.int .i64 m] w fun e w' => e = .returned (.bool (rTakesB m)) ∧ w = w' := by
  generalize hr : rTakesB m = r
  have HR := Lib.hid hr
  clear hr
  go_enter Try.func51, Try.ntmps51
  go_wp2
  all_goals go_ret
  all_goals refine ⟨?_, rfl⟩
  all_goals go_tidy
  all_goals (have h := HR.out; rw [← h]; simp [rTakesB, *]; try omega)

theorem rRightID_any (s i g : Int) (w : World) :
    Calls Try.prog 50 #[.agg #[.int .i64 s, .int .i64 i, .int .i64 g]] w fun e w' => e = .returned (.bool (rIdOk s i g)) ∧ Below w.heap.size w w' := by
  generalize hr : rIdOk _ _ _ = r
  have HR := Lib.hid hr
  clear hr
  go_enter Try.func50, Try.ntmps50
  go_wp2
  all_goals go_ret
  all_goals refine ⟨?_, by go_grown⟩
  all_goals go_tidy
  all_goals (have h := HR.out; rw [← h]; simp [rIdOk, *]; try omega)

end Go.Proofs.Ytbghjklnlhoklaa
namespace Go.Proofs.Ytbghjklnlhoklaa
open Go.RowKit

abbrev I64 (n : Int) : Prop := -9223372036854775808 ≤ n ∧ n ≤ 9223372036854775807

/-- Bit i of a 64-bit integer. -/
def gb (m : Int) (i : Nat) : Bool := (BitVec.ofInt 64 m).getLsbD i

theorem wrap_toInt (v : BitVec 64) : IntKind.i64.wrap v.toNat = v.toInt := by
  rw [IntKind.wrap_i64, BitVec.toInt_eq_toNat_cond]
  have := v.isLt
  split <;> omega
theorem bits_and_i64 (m n : Int) : bits .and .i64 m n = (BitVec.ofInt 64 m &&& BitVec.ofInt 64 n).toInt := wrap_toInt _
theorem bits_or_i64 (m n : Int) : bits .or .i64 m n = (BitVec.ofInt 64 m ||| BitVec.ofInt 64 n).toInt := wrap_toInt _
theorem bits_andNot_i64 (m n : Int) : bits .andNot .i64 m n = (BitVec.ofInt 64 m &&& ~~~(BitVec.ofInt 64 n)).toInt := wrap_toInt _
theorem gb_and (m n : Int) (i : Nat) : gb (bits .and .i64 m n) i = (gb m i && gb n i) := by
  unfold gb; rw [bits_and_i64, BitVec.ofInt_toInt, BitVec.getLsbD_and]
theorem gb_or (m n : Int) (i : Nat) : gb (bits .or .i64 m n) i = (gb m i || gb n i) := by
  unfold gb; rw [bits_or_i64, BitVec.ofInt_toInt, BitVec.getLsbD_or]
theorem gb_andNot (m n : Int) (i : Nat) (hi : i < 64) : gb (bits .andNot .i64 m n) i = (gb m i && !gb n i) := by
  unfold gb; rw [bits_andNot_i64, BitVec.ofInt_toInt, BitVec.getLsbD_and, BitVec.getLsbD_not]; simp [hi]
theorem toInt_ofInt_i64 (m : Int) (h : I64 m) : (BitVec.ofInt 64 m).toInt = m := by
  rw [BitVec.toInt_ofInt]
  unfold I64 at h
  exact Int.bmod_eq_of_le (by omega) (by omega)
theorem i64_toInt (v : BitVec 64) : I64 v.toInt := by
  have h1 := BitVec.le_toInt v
  have h2 := BitVec.toInt_lt (x := v)
  unfold I64
  omega
theorem i64_and (m n : Int) : I64 (bits .and .i64 m n) := by rw [bits_and_i64]; exact i64_toInt _
theorem i64_or (m n : Int) : I64 (bits .or .i64 m n) := by rw [bits_or_i64]; exact i64_toInt _
theorem i64_andNot (m n : Int) : I64 (bits .andNot .i64 m n) := by rw [bits_andNot_i64]; exact i64_toInt _
theorem gb_ext (m n : Int) (hm : I64 m) (hn : I64 n) (h : ∀ i, i < 64 → gb m i = gb n i) : m = n := by
  rw [← toInt_ofInt_i64 m hm, ← toInt_ofInt_i64 n hn]
  congr 1
  exact BitVec.eq_of_getLsbD_eq h
theorem gb_zero (i : Nat) : gb 0 i = false := by unfold gb; simp

theorem gb_div (m : Int) (i : Nat) (hi : i < 64) : gb m i = !((m / 2 ^ i) % 2 == 0) := by
  unfold gb
  rw [BitVec.getLsbD, BitVec.toNat_ofInt, Nat.testBit_eq_decide_div_mod_eq]
  have e : ((m % (2 ^ 64 : Nat)).toNat : Int) = m % (2 ^ 64 : Nat) := Int.toNat_of_nonneg (Int.emod_nonneg _ (by decide))
  have k : (((m % (2 ^ 64 : Nat)).toNat / 2 ^ i % 2 : Nat) : Int) = m / 2 ^ i % 2 := by
    rw [Int.natCast_emod, Int.natCast_ediv, e]
    have h2 : ((2 ^ 64 : Nat) : Int) = 2 ^ i * (2 * 2 ^ (63 - i)) := by
      have : (2 : Int) ^ i * (2 * 2 ^ (63 - i)) = 2 ^ (i + 1 + (63 - i)) := by rw [Int.pow_add, Int.pow_add]; simp [Int.mul_assoc]
      rw [this, show i + 1 + (63 - i) = 64 from by omega]; rfl
    rw [h2]
    have hp : (0 : Int) < 2 ^ i := Int.pow_pos (by decide)
    have h3 : m % (2 ^ i * (2 * 2 ^ (63 - i))) = m - 2 ^ i * ((2 * 2 ^ (63 - i)) * (m / (2 ^ i * (2 * 2 ^ (63 - i))))) := by
      rw [Int.emod_def, Int.mul_assoc]
    rw [h3]
    have h4 : (m - 2 ^ i * ((2 * 2 ^ (63 - i)) * (m / (2 ^ i * (2 * 2 ^ (63 - i)))))) / 2 ^ i = m / 2 ^ i - (2 * 2 ^ (63 - i)) * (m / (2 ^ i * (2 * 2 ^ (63 - i)))) := by
      rw [Int.sub_eq_add_neg, ← Int.mul_neg, Int.add_mul_ediv_left _ _ (Int.ne_of_gt hp)]
      rw [← Int.sub_eq_add_neg]
    simp only [Int.natCast_pow, Int.cast_ofNat_Int]
    rw [h4, Int.mul_assoc, Int.sub_emod, Int.mul_emod_right]
    simp
  by_cases h : m / 2 ^ i % 2 = 0
  · have : (m % (2 ^ 64 : Nat)).toNat / 2 ^ i % 2 = 0 := by omega
    rw [this, h]; rfl
  · have : (m % (2 ^ 64 : Nat)).toNat / 2 ^ i % 2 = 1 := by omega
    rw [this, show (m / 2 ^ i % 2 == 0) = false from by simpa using h]; rfl

theorem gb_pow (i j : Nat) (_hi : i < 63) (hj : j < 64) : gb (2 ^ i) j = decide (i = j) := by
  rw [gb_div _ _ hj]
  by_cases h : i = j
  · subst h
    rw [Int.ediv_self (Int.ne_of_gt (Int.pow_pos (by decide)))]
    simp
  · rcases Nat.lt_or_ge j i with hlt | hge
    · have : (2 : Int) ^ i / 2 ^ j = 2 * 2 ^ (i - j - 1) := by
        have e : (2 : Int) ^ i = 2 ^ j * (2 * 2 ^ (i - j - 1)) := by
          have : (2 : Int) ^ j * (2 * 2 ^ (i - j - 1)) = 2 ^ (j + 1 + (i - j - 1)) := by rw [Int.pow_add, Int.pow_add]; simp [Int.mul_assoc]
          rw [this, show j + 1 + (i - j - 1) = i from by omega]
        rw [e, Int.mul_ediv_cancel_left _ (Int.ne_of_gt (Int.pow_pos (by decide)))]
      rw [this]
      simp [h]
    · have hlt : i < j := by omega
      have : (2 : Int) ^ i / 2 ^ j = 0 := Int.ediv_eq_zero_of_lt (Int.le_of_lt (Int.pow_pos (by decide))) (Int.pow_lt_pow_of_lt (by decide) hlt)
      rw [this]
      simp [h]

theorem i64_pow (i : Nat) (hi : i < 63) : I64 ((2 : Int) ^ i) := by
  have h1 : (0 : Int) < 2 ^ i := Int.pow_pos (by decide)
  have h2 : (2 : Int) ^ i ≤ 2 ^ 62 := by
    rcases Nat.lt_or_ge i 62 with h | h
    · exact Int.le_of_lt (Int.pow_lt_pow_of_lt (by decide) h)
    · rw [show i = 62 from by omega]; exact Int.le_refl _
  unfold I64
  omega

theorem hasB_gb (m : Int) (i : Nat) (hi : i < 63) : hasB m (2 ^ i) = gb m i := by
  unfold hasB
  rw [Bool.eq_iff_iff, beq_iff_eq]
  constructor
  · intro h
    have : gb (bits .and .i64 m (2 ^ i)) i = gb (2 ^ i) i := by rw [h]
    rw [gb_and, gb_pow i i hi (by omega)] at this
    simpa using this
  · intro h
    refine gb_ext _ _ (i64_and _ _) (i64_pow i hi) fun j hj => ?_
    rw [gb_and, gb_pow i j hi hj]
    by_cases e : i = j
    · subst e; simp [h]
    · simp [e]

theorem tb_gb (m : Int) (i : Nat) (hi : i < 64) : tb m (2 ^ i) = gb m i := (gb_div m i hi).symm

theorem hasB_tb (m : Int) (i : Nat) (hi : i < 63) : hasB m (2 ^ i) = tb m (2 ^ i) := by rw [hasB_gb m i hi, tb_gb m i (by omega)]
theorem hasB_tb1 (m : Int) : hasB m 1 = tb m 1 := hasB_tb m 0 (by decide)
theorem hasB_tb2 (m : Int) : hasB m 2 = tb m 2 := hasB_tb m 1 (by decide)
theorem hasB_tb4 (m : Int) : hasB m 4 = tb m 4 := hasB_tb m 2 (by decide)
theorem hasB_tb8 (m : Int) : hasB m 8 = tb m 8 := hasB_tb m 3 (by decide)
theorem hasB_tb16 (m : Int) : hasB m 16 = tb m 16 := hasB_tb m 4 (by decide)

theorem idOk_eq (s i g : Int) : rIdOk s i g = idOk s i g := by
  unfold rIdOk idOk inR
  rw [Bool.eq_iff_iff]
  simp
  omega
theorem rightB_eq (b : Bun) : rRightB b = rightB b := by
  unfold rRightB rightB
  rw [hasB_tb1, hasB_tb2, hasB_tb4, hasB_tb8, hasB_tb16]
theorem tb1_mod (m : Int) : tb m 1 = !(m % 2 == 0) := by unfold tb; rw [Int.ediv_one]
theorem and1_zero (m : Int) : (bits .and .i64 m 1 == 0) = !hasB m 1 := by
  rw [Bool.eq_iff_iff, beq_iff_eq, Bool.not_eq_true', show (1 : Int) = 2 ^ 0 from rfl, hasB_gb m 0 (by decide)]
  constructor
  · intro h
    have : gb (bits .and .i64 m (2 ^ 0)) 0 = gb 0 0 := by rw [h]
    rw [gb_and, gb_pow 0 0 (by decide) (by decide), gb_zero] at this
    simpa using this
  · intro h
    refine gb_ext _ _ (i64_and _ _) (by unfold I64; omega) fun j hj => ?_
    rw [gb_and, gb_pow 0 j (by decide) hj, gb_zero]
    by_cases e : 0 = j
    · subst e; simp [h]
    · simp [e]
theorem someB_eq (m : Int) : rTakesB m = someB m := by
  unfold rTakesB someB
  rw [and1_zero, hasB_tb1, tb1_mod, Bool.not_not]
  rfl
theorem checkB_eq (b : Bun) : rMayB b = checkB b := by
  unfold rMayB checkB
  rw [idOk_eq, rightB_eq, hasB_tb1]
  cases idOk b.s b.i b.g <;> cases rightB b <;> cases tb b.m 1 <;> rfl
theorem cmdB_eq (c : Cm) : rCmdB c = cmdB c := by
  unfold rCmdB cmdB
  rw [checkB_eq, idOk_eq, someB_eq, someB_eq, rightB_eq]
  by_cases h1 : c.k = 1
  · simp [h1]
  · by_cases h3 : c.k = 3
    · simp [h3]
      generalize idOk c.s c.i c.g = a; generalize idZero c.b.s c.b.i c.b.g = b; generalize someB c.b.m = d; generalize rightB c.b = e; generalize (c.mask == 0) = f
      revert a b d e f; decide
    · by_cases h4 : c.k = 4
      · simp [h4]
        generalize idOk c.s c.i c.g = a; generalize someB c.mask = b; generalize bunZero c.b = d
        revert a b d; decide
      · by_cases h2 : c.k = 2
        · simp [h2]
          generalize idOk c.s c.i c.g = a; generalize (c.mask == 0) = b; generalize bunZero c.b = d
          revert a b d; decide
        · simp [h1, h2, h3, h4]
theorem withF_eq (b c : Bun) : rWithF b c = withF b c := by
  unfold rWithF withF
  rw [hasB_tb1, hasB_tb2, hasB_tb4, hasB_tb8, hasB_tb16]
theorem sub_and (m k : Int) (hm : I64 m) : wrap64 (m - bits .and .i64 m k) = bits .andNot .i64 (bits .or .i64 m k) k := by
  have e1 : m - bits .and .i64 m k = bits .andNot .i64 m k := by
    rw [bits_and_i64, bits_andNot_i64]
    have hv := toInt_ofInt_i64 m hm
    generalize BitVec.ofInt 64 m = v at *
    generalize BitVec.ofInt 64 k = u
    subst hv
    have h1 : (v &&& u) + (v &&& ~~~u) = v := by
      rw [BitVec.add_eq_or_of_and_eq_zero]
      · ext i hi; simp; cases v[i] <;> cases u[i] <;> rfl
      · ext i hi; simp; cases v[i] <;> cases u[i] <;> simp
    have hx : (v &&& u).msb = (v.msb && u.msb) := BitVec.msb_and
    have hy : (v &&& ~~~u).msb = (v.msb && !u.msb) := by rw [BitVec.msb_and, BitVec.msb_not]; simp
    have lx : (v &&& u).toNat ≤ v.toNat := by rw [BitVec.toNat_and]; exact Nat.and_le_left
    have ly : (v &&& ~~~u).toNat ≤ v.toNat := by rw [BitVec.toNat_and]; exact Nat.and_le_left
    have hs := congrArg BitVec.toNat h1
    rw [BitVec.toNat_add] at hs
    have l1 := v.isLt
    rw [BitVec.toInt_eq_msb_cond, BitVec.toInt_eq_msb_cond, BitVec.toInt_eq_msb_cond, hx, hy]
    clear hx hy h1 hm
    generalize (v &&& u).toNat = a at *
    generalize (v &&& ~~~u).toNat = b at *
    generalize v.toNat = c at *
    cases v.msb <;> cases u.msb <;> simp <;> omega
  have e2 : bits .andNot .i64 (bits .or .i64 m k) k = bits .andNot .i64 m k := by
    refine gb_ext _ _ (i64_andNot _ _) (i64_andNot _ _) fun i hi => ?_
    rw [gb_andNot _ _ _ hi, gb_andNot _ _ _ hi, gb_or]
    cases gb m i <;> cases gb k i <;> rfl
  rw [e1, e2]
  have := i64_andNot m k
  unfold I64 at this
  unfold wrap64
  omega
theorem withoutF_eq (b : Bun) (k : Int) (hm : I64 b.m) : rWithoutF b k = withoutF b k := by
  unfold rWithoutF withoutF
  rw [hasB_tb1, hasB_tb2, hasB_tb4, hasB_tb8, hasB_tb16, sub_and _ _ hm]

/-! ### What is put and taken away -/
theorem hasB_or1 (m n : Int) : hasB (bits .or .i64 m n) 1 = (hasB m 1 || hasB n 1) := by
  have := gb_or m n 0; simpa [← hasB_gb _ 0 (by decide)] using this
theorem hasB_or2 (m n : Int) : hasB (bits .or .i64 m n) 2 = (hasB m 2 || hasB n 2) := by
  have := gb_or m n 1; simpa [← hasB_gb _ 1 (by decide)] using this
theorem hasB_or4 (m n : Int) : hasB (bits .or .i64 m n) 4 = (hasB m 4 || hasB n 4) := by
  have := gb_or m n 2; simpa [← hasB_gb _ 2 (by decide)] using this
theorem hasB_or8 (m n : Int) : hasB (bits .or .i64 m n) 8 = (hasB m 8 || hasB n 8) := by
  have := gb_or m n 3; simpa [← hasB_gb _ 3 (by decide)] using this
theorem hasB_or16 (m n : Int) : hasB (bits .or .i64 m n) 16 = (hasB m 16 || hasB n 16) := by
  have := gb_or m n 4; simpa [← hasB_gb _ 4 (by decide)] using this

theorem ite_or {α : Type} (a b : Bool) (x y : α) : (if (a || b) = true then x else y) = if b = true then x else if a = true then x else y := by cases a <;> cases b <;> rfl

theorem bits_or_assoc (a b c : Int) : bits .or .i64 (bits .or .i64 a b) c = bits .or .i64 a (bits .or .i64 b c) :=
  gb_ext _ _ (i64_or _ _) (i64_or _ _) fun i _ => by rw [gb_or, gb_or, gb_or, gb_or, Bool.or_assoc]
theorem bits_or_self (a : Int) (h : I64 a) : bits .or .i64 a a = a := gb_ext _ _ (i64_or _ _) h fun i _ => by rw [gb_or, Bool.or_self]
theorem bits_wo_zero (a : Int) (h : I64 a) : bits .andNot .i64 (bits .or .i64 a 0) 0 = a :=
  gb_ext _ _ (i64_andNot _ _) h fun i hi => by rw [gb_andNot _ _ _ hi, gb_or, gb_zero]; simp
theorem bits_wo_wo (a b c : Int) : bits .andNot .i64 (bits .or .i64 (bits .andNot .i64 (bits .or .i64 a b) b) c) c = bits .andNot .i64 (bits .or .i64 a (bits .or .i64 b c)) (bits .or .i64 b c) :=
  gb_ext _ _ (i64_andNot _ _) (i64_andNot _ _) fun i hi => by
    simp only [gb_andNot _ _ _ hi, gb_or]
    cases gb a i <;> cases gb b i <;> cases gb c i <;> rfl
theorem bits_wo_with (a b : Int) : bits .andNot .i64 (bits .or .i64 (bits .or .i64 a b) b) b = bits .andNot .i64 (bits .or .i64 a b) b :=
  gb_ext _ _ (i64_andNot _ _) (i64_andNot _ _) fun i hi => by
    simp only [gb_andNot _ _ _ hi, gb_or]
    cases gb a i <;> cases gb b i <;> rfl
theorem bits_with_wo (a b : Int) (h : I64 a) : bits .or .i64 (bits .andNot .i64 (bits .or .i64 a b) b) a = a :=
  gb_ext _ _ (i64_or _ _) h fun i hi => by
    simp only [gb_andNot _ _ _ hi, gb_or]
    cases gb a i <;> cases gb b i <;> rfl

theorem with_with (a b c : Bun) : withF (withF a b) c = withF a (withF b c) := by
  simp only [withF, bits_or_assoc, hasB_or1, hasB_or2, hasB_or4, hasB_or8, hasB_or16, ite_or]
  cases hasB b.m 1 <;> cases hasB c.m 1 <;> cases hasB b.m 2 <;> cases hasB c.m 2 <;> cases hasB b.m 4 <;> cases hasB c.m 4 <;> cases hasB b.m 8 <;> cases hasB c.m 8 <;> cases hasB b.m 16 <;> cases hasB c.m 16 <;> rfl
theorem with_self (a : Bun) (h : I64 a.m) : withF a a = a := by
  simp only [withF, bits_or_self _ h, ite_self]
theorem hasB_zero (k : Int) (h : k = 1 ∨ k = 2 ∨ k = 4 ∨ k = 8 ∨ k = 16) : hasB 0 k = false := by rcases h with rfl | rfl | rfl | rfl | rfl <;> decide
theorem without_zero (a : Bun) (h : I64 a.m) : withoutF a 0 = a := by
  simp [withoutF, bits_wo_zero _ h, hasB_zero]
theorem without_without (a : Bun) (b c : Int) : withoutF (withoutF a b) c = withoutF a (bits .or .i64 b c) := by
  simp only [withoutF, bits_wo_wo, hasB_or1, hasB_or2, hasB_or4, hasB_or8, hasB_or16, ite_or]
theorem without_with (a b : Bun) : withoutF (withF a b) b.m = withoutF a b.m := by
  simp only [withoutF, withF, bits_wo_with]
  cases hasB b.m 1 <;> cases hasB b.m 2 <;> cases hasB b.m 4 <;> cases hasB b.m 8 <;> cases hasB b.m 16 <;> rfl
theorem with_without (a : Bun) (k : Int) (h : I64 a.m) (hr : rightB a = true) : withF (withoutF a k) a = a := by
  unfold rightB withinB at hr
  simp only [Bool.and_eq_true] at hr
  obtain ⟨⟨⟨⟨⟨⟨⟨_, h1⟩, h2⟩, h3⟩, h4⟩, h5⟩, h6⟩, h7⟩ := hr
  obtain ⟨s, i, g, m, x, y, vx, vy, hp, pw, lf⟩ := a
  simp only [withoutF, withF, bits_with_wo _ _ h]
  dsimp only at *
  generalize hasB m 1 = q1 at *
  generalize hasB m 2 = q2 at *
  generalize hasB m 4 = q4 at *
  generalize hasB m 8 = q8 at *
  generalize hasB m 16 = q16 at *
  cases q1 <;> cases q2 <;> cases q4 <;> cases q8 <;> cases q16 <;> simp_all

/-! ### What is left may be -/
theorem small_gb (m : Int) (h : inR 0 m 31 = true) (i : Nat) (h5 : 5 ≤ i) (hi : i < 64) : gb m i = false := by
  simp only [inR, Bool.and_eq_true, decide_eq_true_eq] at h
  rw [gb_div _ _ hi]
  have h2 : (2 : Int) ^ 5 ≤ 2 ^ i := by
    rcases Nat.lt_or_ge 5 i with h' | h'
    · exact Int.le_of_lt (Int.pow_lt_pow_of_lt (by decide) h')
    · rw [show i = 5 from by omega]; exact Int.le_refl _
  rw [Int.ediv_eq_zero_of_lt h.1 (by omega)]
  rfl
theorem gb_31 (i : Nat) (h5 : i < 5) : gb 31 i = true := by
  match i, h5 with
  | 0, _ => decide
  | 1, _ => decide
  | 2, _ => decide
  | 3, _ => decide
  | 4, _ => decide
theorem and_31 (m : Int) : 0 ≤ bits .and .i64 m 31 ∧ bits .and .i64 m 31 ≤ 31 := by
  rw [bits_and_i64]
  have h : (BitVec.ofInt 64 m &&& BitVec.ofInt 64 31).toNat ≤ 31 := by rw [BitVec.toNat_and]; exact Nat.and_le_right
  rw [BitVec.toInt_eq_toNat_cond]
  split <;> omega
theorem gb_small (m : Int) (hm : I64 m) (h : ∀ i, 5 ≤ i → i < 64 → gb m i = false) : inR 0 m 31 = true := by
  have e : m = bits .and .i64 m 31 := gb_ext _ _ hm (i64_and _ _) fun i hi => by
    rw [gb_and]
    rcases Nat.lt_or_ge i 5 with h5 | h5
    · rw [gb_31 i h5, Bool.and_true]
    · rw [h i h5 hi, Bool.false_and]
  have := and_31 m
  rw [← e] at this
  simpa [inR] using this
theorem small_or (a b : Int) (ha : inR 0 a 31 = true) (hb : inR 0 b 31 = true) : inR 0 (bits .or .i64 a b) 31 = true :=
  gb_small _ (i64_or _ _) fun i h5 hi => by rw [gb_or, small_gb a ha i h5 hi, small_gb b hb i h5 hi]; rfl
theorem small_wo (a k : Int) (ha : inR 0 a 31 = true) : inR 0 (bits .andNot .i64 (bits .or .i64 a k) k) 31 = true :=
  gb_small _ (i64_andNot _ _) fun i h5 hi => by rw [gb_andNot _ _ _ hi, gb_or, small_gb a ha i h5 hi]; cases gb k i <;> rfl
theorem within_put {p q : Bool} {x y lo hi : Int} (h1 : withinB p x lo hi = true) (h2 : withinB q y lo hi = true) : withinB (p || q) (if q = true then y else x) lo hi = true := by
  cases p <;> cases q <;> simp_all [withinB]
theorem within_take {p q : Bool} {x lo hi : Int} (h1 : withinB p x lo hi = true) : withinB (p && !q) (if q = true then 0 else x) lo hi = true := by
  cases p <;> cases q <;> simp_all [withinB]
theorem hasB_wo (m n : Int) (i : Nat) (hi : i < 63) : hasB (bits .andNot .i64 (bits .or .i64 m n) n) (2 ^ i) = (hasB m (2 ^ i) && !hasB n (2 ^ i)) := by
  rw [hasB_gb _ i hi, hasB_gb _ i hi, hasB_gb _ i hi, gb_andNot _ _ _ (by omega), gb_or]
  cases gb m i <;> cases gb n i <;> rfl
theorem hasB_wo1 (m n : Int) : hasB (bits .andNot .i64 (bits .or .i64 m n) n) 1 = (hasB m 1 && !hasB n 1) := hasB_wo m n 0 (by decide)
theorem hasB_wo2 (m n : Int) : hasB (bits .andNot .i64 (bits .or .i64 m n) n) 2 = (hasB m 2 && !hasB n 2) := hasB_wo m n 1 (by decide)
theorem hasB_wo4 (m n : Int) : hasB (bits .andNot .i64 (bits .or .i64 m n) n) 4 = (hasB m 4 && !hasB n 4) := hasB_wo m n 2 (by decide)
theorem hasB_wo8 (m n : Int) : hasB (bits .andNot .i64 (bits .or .i64 m n) n) 8 = (hasB m 8 && !hasB n 8) := hasB_wo m n 3 (by decide)
theorem hasB_wo16 (m n : Int) : hasB (bits .andNot .i64 (bits .or .i64 m n) n) 16 = (hasB m 16 && !hasB n 16) := hasB_wo m n 4 (by decide)
theorem right_with (b c : Bun) (hb : rightB b = true) (hc : rightB c = true) : rightB (withF b c) = true := by
  unfold rightB at *
  simp only [Bool.and_eq_true] at *
  obtain ⟨⟨⟨⟨⟨⟨⟨a0, a1⟩, a2⟩, a3⟩, a4⟩, a5⟩, a6⟩, a7⟩ := hb
  obtain ⟨⟨⟨⟨⟨⟨⟨c0, c1⟩, c2⟩, c3⟩, c4⟩, c5⟩, c6⟩, c7⟩ := hc
  simp only [withF, hasB_or1, hasB_or2, hasB_or4, hasB_or8, hasB_or16]
  exact ⟨⟨⟨⟨⟨⟨⟨small_or _ _ a0 c0, within_put a1 c1⟩, within_put a2 c2⟩, within_put a3 c3⟩, within_put a4 c4⟩, within_put a5 c5⟩, within_put a6 c6⟩, within_put a7 c7⟩
theorem right_without (b : Bun) (k : Int) (hb : rightB b = true) : rightB (withoutF b k) = true := by
  unfold rightB at *
  simp only [Bool.and_eq_true] at *
  obtain ⟨⟨⟨⟨⟨⟨⟨a0, a1⟩, a2⟩, a3⟩, a4⟩, a5⟩, a6⟩, a7⟩ := hb
  simp only [withoutF, hasB_wo1, hasB_wo2, hasB_wo4, hasB_wo8, hasB_wo16]
  exact ⟨⟨⟨⟨⟨⟨⟨small_wo _ _ a0, within_take a1⟩, within_take a2⟩, within_take a3⟩, within_take a4⟩, within_take a5⟩, within_take a6⟩, within_take a7⟩
theorem check_with (b c : Bun) (hb : checkB b = true) (hc : rightB c = true) : checkB (withF b c) = true := by
  unfold checkB at *
  simp only [Bool.and_eq_true] at *
  refine ⟨⟨right_with b c hb.1.1 hc, ?_⟩, hb.2⟩
  simp only [withF, hasB_or1, hb.1.2, Bool.true_or]
theorem check_without (b : Bun) (k : Int) (hb : checkB b = true) : checkB (withoutF b k) = (bits .and .i64 k 1 == 0) := by
  unfold checkB at *
  simp only [Bool.and_eq_true] at hb
  rw [right_without b k hb.1.1, and1_zero]
  have e : idOk (withoutF b k).s (withoutF b k).i (withoutF b k).g = true := hb.2
  rw [e]
  simp only [withoutF, hasB_wo1, hb.1.2]
  cases hasB k 1 <;> rfl
theorem errB_zero (b : Bool) : (errB b == 0) = b := by cases b <;> rfl
theorem hasB_all (m n : Int) (hn : I64 n) (h : ∀ i, i < 64 → gb n i = true → gb m i = true) : hasB m n = true := by
  unfold hasB
  rw [beq_iff_eq]
  refine gb_ext _ _ (i64_and _ _) hn fun i hi => ?_
  rw [gb_and]
  cases e : gb n i
  · simp
  · rw [h i hi e]; rfl
theorem has_with_left (b c : Bun) (h : I64 b.m) : hasB (withF b c).m b.m = true := hasB_all _ _ h fun i _ hb => by show gb (bits .or .i64 b.m c.m) i = true; rw [gb_or, hb]; rfl
theorem has_with_right (b c : Bun) (h : I64 c.m) : hasB (withF b c).m c.m = true := hasB_all _ _ h fun i _ hb => by show gb (bits .or .i64 b.m c.m) i = true; rw [gb_or, hb, Bool.or_true]
theorem without_and (b : Bun) (k : Int) : bits .and .i64 (withoutF b k).m k = 0 :=
  gb_ext _ _ (i64_and _ _) (by unfold I64; omega) fun i hi => by
    show gb (bits .and .i64 (bits .andNot .i64 (bits .or .i64 b.m k) k) k) i = gb 0 i
    rw [gb_and, gb_andNot _ _ _ hi, gb_or, gb_zero]
    cases gb b.m i <;> cases gb k i <;> rfl

end Go.Proofs.Ytbghjklnlhoklaa
namespace Go.Proofs.Ytbghjklnlhoklaa
open Go.RowKit

structure Cfg where
  (cols rows side radius speed ids queue : Int)
structure CfgOk (c : Cfg) : Prop where
  c0 : 1 ≤ c.cols
  c1 : c.cols ≤ 4
  r0 : 1 ≤ c.rows
  r1 : c.rows ≤ 4
  s0 : 256 ≤ c.side
  s1 : c.side ≤ 1048576
  a0 : 0 ≤ c.radius
  a1 : c.radius ≤ c.side
  v0 : 0 ≤ c.speed
  v1 : c.speed ≤ c.side
  i0 : 1 ≤ c.ids
  i1 : c.ids ≤ 16
  q0 : 1 ≤ c.queue
  q1 : c.queue ≤ 64


set_option maxHeartbeats 1000000 in
theorem zcheck_ok (cols rows side radius speed ids queue : Int) (w : World) (h : CfgOk ⟨cols, rows, side, radius, speed, ids, queue⟩) :
    Calls Try.prog 66 #[.agg #[.int .i64 cols, .int .i64 rows, .int .i64 side, .int .i64 radius, .int .i64 speed, .int .i64 ids, .int .i64 queue]] w fun e w' => e = .returned (.int .i64 0) ∧ Below w.heap.size w w' := by
  obtain ⟨c0, c1, r0, r1, s0, s1, a0, a1, v0, v1, i0, i1, q0, q1⟩ := h
  simp only at c0 c1 r0 r1 s0 s1 a0 a1 v0 v1 i0 i1 q0 q1
  go_enter Try.func66, Try.ntmps66
  go_wp2_with fail
  refine wp_loop_rounds 8 ?_
  repeat any_goals (rw [rounds_succ]; go_wp2_with fail)
  all_goals go_ret
  exact ⟨rfl, (by repeat' (first | (with_reducible exact Below.refl _ _) | (with_reducible assumption) | (with_reducible refine below_drewN ?_ _) | (with_reducible refine below_more _ _ _ ?_ ?_) | (with_reducible refine Below.alloc ?_ ?_ _) | (with_reducible refine Below.drew ?_) | (with_reducible refine Below.setCell ?_ ?_ _) | go_size))⟩

theorem CfgOk.prod {c : Cfg} (h : CfgOk c) : 256 ≤ c.cols * c.side ∧ c.cols * c.side ≤ 4194304 ∧ 256 ≤ c.rows * c.side ∧ c.rows * c.side ≤ 4194304 := by
  obtain ⟨c0, c1, r0, r1, s0, s1, _⟩ := h
  refine ⟨?_, ?_, ?_, ?_⟩
  · have := Int.mul_le_mul c0 s0 (by omega) (by omega); omega
  · have := Int.mul_le_mul c1 s1 (by omega) (by omega); omega
  · have := Int.mul_le_mul r0 s0 (by omega) (by omega); omega
  · have := Int.mul_le_mul r1 s1 (by omega) (by omega); omega

def MapAt (w : World) (b : Nat) (c : Cfg) : Prop := w.heap[b]? = some (.cells #[.int .i64 c.cols, .int .i64 c.rows, .int .i64 c.side, .int .i64 c.radius, .int .i64 c.speed, .int .i64 c.ids, .int .i64 c.queue, .int .i64 0, .int .i64 0, .int .i64 (c.cols * c.side), .int .i64 (c.rows * c.side)] 88 (0, 0))

set_option maxHeartbeats 1000000 in
theorem znew_ok (cols rows side radius speed ids queue : Int) (w : World) (h : CfgOk ⟨cols, rows, side, radius, speed, ids, queue⟩) :
    Calls Try.prog 33 #[.agg #[.int .i64 cols, .int .i64 rows, .int .i64 side, .int .i64 radius, .int .i64 speed, .int .i64 ids, .int .i64 queue]] w fun e w' => ∃ b, e = .returned (.tuple #[.pointer (some ⟨b, 0, none⟩), .int .i64 0]) ∧ Below w.heap.size w w' ∧ MapAt w' b ⟨cols, rows, side, radius, speed, ids, queue⟩ ∧ w.heap.size ≤ b := by
  obtain ⟨p1, p2, p3, p4⟩ := h.prod
  have HC := Lib.hid (fun W => zcheck_ok cols rows side radius speed ids queue W h)
  clear h
  simp only at p1 p2 p3 p4
  generalize hx1 : cols * side = x1 at *
  generalize hy1 : rows * side = y1 at *
  go_enter Try.func33, Try.ntmps33
  go_wp2_with (go_at_call 66; refine (HC.out _).mono ?_; rintro e w' ⟨rfl, hb⟩; obtain ⟨d, os, rfl⟩ := more_of hb; clear hb)
  go_ret2
  refine ⟨_, rfl, (by repeat' (first | (with_reducible exact Below.refl _ _) | (with_reducible assumption) | (with_reducible refine below_drewN ?_ _) | (with_reducible refine below_more _ _ _ ?_ ?_) | (with_reducible refine Below.alloc ?_ ?_ _) | (with_reducible refine Below.drew ?_) | (with_reducible refine Below.setCell ?_ ?_ _) | go_size)), ?_, by omega⟩
  unfold MapAt
  simp only [hx1, hy1]
  have hn := heap_alloc_new (more (w.alloc (.cells #[.int .i64 cols, .int .i64 rows, .int .i64 side, .int .i64 radius, .int .i64 speed, .int .i64 ids, .int .i64 queue] 23)) d os) (.cells #[.int .i64 cols, .int .i64 rows, .int .i64 side, .int .i64 radius, .int .i64 speed, .int .i64 ids, .int .i64 queue, .int .i64 0, .int .i64 0, .int .i64 x1, .int .i64 y1] 88)
  simpa using hn

def inF (c : Cfg) (x y : Int) : Int × Int := (max 0 (min x (c.cols * c.side - 1)), max 0 (min y (c.rows * c.side - 1)))

theorem MapAt.cell {w : World} {b : Nat} {c : Cfg} (h : MapAt w b c) (j : Nat) : w.cell? ⟨b, j, none⟩ = (#[.int .i64 c.cols, .int .i64 c.rows, .int .i64 c.side, .int .i64 c.radius, .int .i64 c.speed, .int .i64 c.ids, .int .i64 c.queue, .int .i64 0, .int .i64 0, .int .i64 (c.cols * c.side), .int .i64 (c.rows * c.side)] : Array Value)[j]? := by
  simp only [MapAt] at h
  simp [World.cell?, h]

theorem MapAt.grow {w w' : World} {b : Nat} {c : Cfg} (h : MapAt w b c) (hb : Below w.heap.size w w') : MapAt w' b c := (hb.block b (Array.getElem?_eq_some_iff.1 h).1).trans h

end Go.Proofs.Ytbghjklnlhoklaa
