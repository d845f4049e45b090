/-
  What is left of an entity that may be, may be: plain. No program. No condition.
-/
import Derived.Test.YtloampfkjldmnaaSyO
import Derived.Test.YtloampfkjldmnaaPaT
namespace Go.Proofs.Ytloampfkjldmnaa
open Go.RowKit
theorem check_zero : checkB zeroB = false := by decide

theorem hurt_may (b : Bun) (n : Int) (h : checkB b = true) : checkB (hurtF b n).1 = (hurtF b n).2 := by
  unfold hurtF
  split
  · exact h
  · rename_i h1
    split
    · exact check_zero
    · rename_i h2
      simp only [not_or, Bool.not_eq_false] at h1
      show checkB { b with hp := b.hp - n } = true
      simp only [checkB, rightB, Bool.and_eq_true] at h ⊢
      obtain ⟨⟨⟨⟨⟨⟨⟨⟨⟨a1, a2⟩, a3⟩, a4⟩, a5⟩, a6⟩, a7⟩, a8⟩, a9⟩, a10⟩ := h
      refine ⟨⟨⟨⟨⟨⟨⟨⟨⟨a1, a2⟩, a3⟩, a4⟩, a5⟩, ?_⟩, a7⟩, a8⟩, a9⟩, a10⟩
      rw [h1.1] at a6 ⊢
      simp only [withinB, if_true, inR, Bool.and_eq_true, decide_eq_true_eq] at a6 ⊢
      omega
theorem hurt_le (b : Bun) (n : Int) : (hurtF b n).2 = true → (hurtF b n).1.hp ≤ b.hp := by
  unfold hurtF
  split
  · intro _; exact Int.le_refl _
  · rename_i h1
    split
    · intro h; cases h
    · intro _
      show b.hp - n ≤ b.hp
      omega
theorem age_may (b : Bun) (h : checkB b = true) : checkB (ageF b).1 = (ageF b).2 := by
  unfold ageF
  split
  · exact h
  · rename_i h1
    split
    · exact check_zero
    · rename_i h2
      simp only [Bool.not_eq_false] at h1
      show checkB { b with lf := b.lf - 1 } = true
      simp only [checkB, rightB, Bool.and_eq_true] at h ⊢
      obtain ⟨⟨⟨⟨⟨⟨⟨⟨⟨a1, a2⟩, a3⟩, a4⟩, a5⟩, a6⟩, a7⟩, a8⟩, a9⟩, a10⟩ := h
      refine ⟨⟨⟨⟨⟨⟨⟨⟨⟨a1, a2⟩, a3⟩, a4⟩, a5⟩, a6⟩, a7⟩, ?_⟩, a9⟩, a10⟩
      rw [h1] at a8 ⊢
      simp only [withinB, if_true, inR, Bool.and_eq_true, decide_eq_true_eq] at a8 ⊢
      omega
theorem age_le (b : Bun) : (ageF b).2 = true → (ageF b).1.lf ≤ b.lf := by
  unfold ageF
  split
  · intro _; exact Int.le_refl _
  · split
    · intro h; cases h
    · intro _
      show b.lf - 1 ≤ b.lf
      omega
theorem obey_may (b : Bun) (c : Cm) (h : checkB b = true) (hc : cmdB c = true) : checkB (obeyF b { c with s := b.s, i := b.i, g := b.g }).1 = (obeyF b { c with s := b.s, i := b.i, g := b.g }).2 := by
  have hid : idEq b.s b.i b.g b.s b.i b.g = true := by simp [idEq]
  simp only [obeyF, hid, Bool.true_eq_false, if_false]
  split
  · exact check_zero
  · split
    · rename_i h2 h3
      have h1 : (c.k == 1) = false := by simp; omega
      have h3' : (c.k == 3) = true := by simpa using h3
      simp only [cmdB, h1, h3', Bool.false_eq_true, if_false, if_true, Bool.and_eq_true] at hc
      exact check_with b c.b h hc.1.2
    · split
      · rename_i h2 h3 h4
        have h1 : (c.k == 1) = false := by simp; omega
        have h3' : (c.k == 3) = false := by simp; omega
        have h4' : (c.k == 4) = true := by simpa using h4
        simp only [cmdB, h1, h3', h4', Bool.false_eq_true, if_false, if_true, Bool.and_eq_true, someB] at hc
        show checkB (withoutF b c.mask) = true
        rw [check_without b c.mask h]
        exact hc.1.1.2
      · exact h


theorem rMay_s (s i g m x y vx vy hp pw lf : Int) (w : World) (hm : I64 m) :
    Calls Try.prog 32 #[.agg #[.int .i64 s, .int .i64 i, .int .i64 g, .int .i64 m, .int .i64 x, .int .i64 y, .int .i64 vx, .int .i64 vy, .int .i64 hp, .int .i64 pw, .int .i64 lf]] w fun e w' => e = .returned (.bool (checkB ⟨s, i, g, m, x, y, vx, vy, hp, pw, lf⟩)) ∧ Below w.heap.size w w' := by
  have h := rMay_any s i g m x y vx vy hp pw lf w hm.1 hm.2
  rw [checkB_eq] at h
  exact h
theorem rMayCmd_s (k s i g es ei eg m x y vx vy hp pw lf mask : Int) (w : World) (hm : I64 m) :
    Calls Try.prog 33 #[.agg #[.int .i64 k, .int .i64 s, .int .i64 i, .int .i64 g, .int .i64 es, .int .i64 ei, .int .i64 eg, .int .i64 m, .int .i64 x, .int .i64 y, .int .i64 vx, .int .i64 vy, .int .i64 hp, .int .i64 pw, .int .i64 lf, .int .i64 mask]] w fun e w' => e = .returned (.bool (cmdB ⟨k, s, i, g, ⟨es, ei, eg, m, x, y, vx, vy, hp, pw, lf⟩, mask⟩)) ∧ Below w.heap.size w w' := by
  have h := rMayCmd_any k s i g es ei eg m x y vx vy hp pw lf mask w hm.1 hm.2
  rw [cmdB_eq] at h
  exact h
end Go.Proofs.Ytloampfkjldmnaa
