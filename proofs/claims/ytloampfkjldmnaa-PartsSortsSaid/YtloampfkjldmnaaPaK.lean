/-
  The contracts of chapter 9's functions as the statements want them: the reference's answer in the program's words; the document's examples (awake). Condition: the numbers are ints (64 bits).
-/
import Derived.Test.YtloampfkjldmnaaPaB
import Derived.Test.YtloampfkjldmnaaPaT
import Derived.Test.YtloampfkjldmnaaPaU
import Derived.Test.YtloampfkjldmnaaPaP
namespace Go.Proofs.Ytloampfkjldmnaa
open Go.RowKit

theorem rMay_k (s i g m x y vx vy hp pw lf : Int) (w : World) (hm : I64 m) :
    Calls Try.prog 32 #[.agg #[.int .i64 s, .int .i64 i, .int .i64 g, .int .i64 m, .int .i64 x, .int .i64 y, .int .i64 vx, .int .i64 vy, .int .i64 hp, .int .i64 pw, .int .i64 lf]] w fun e w' => e = .returned (.bool (checkB ⟨s, i, g, m, x, y, vx, vy, hp, pw, lf⟩)) ∧ Below w.heap.size w w' := by
  have h := rMay_any s i g m x y vx vy hp pw lf w hm.1 hm.2
  rw [checkB_eq] at h
  exact h
theorem rRight_k (s i g m x y vx vy hp pw lf : Int) (w : World) (hm : I64 m) :
    Calls Try.prog 57 #[.agg #[.int .i64 s, .int .i64 i, .int .i64 g, .int .i64 m, .int .i64 x, .int .i64 y, .int .i64 vx, .int .i64 vy, .int .i64 hp, .int .i64 pw, .int .i64 lf]] w fun e w' => e = .returned (.bool (rightB ⟨s, i, g, m, x, y, vx, vy, hp, pw, lf⟩)) ∧ Below w.heap.size w w' := by
  have h := rRight_any s i g m x y vx vy hp pw lf w hm.1 hm.2
  rw [rightB_eq] at h
  exact h
theorem rRightID_k (s i g : Int) (w : World) :
    Calls Try.prog 56 #[.agg #[.int .i64 s, .int .i64 i, .int .i64 g]] w fun e w' => e = .returned (.bool (idOk s i g)) ∧ Below w.heap.size w w' := by
  have h := rRightID_any s i g w
  rw [idOk_eq] at h
  exact h
theorem rMayCmd_k (k s i g es ei eg m x y vx vy hp pw lf mask : Int) (w : World) (hm : I64 m) :
    Calls Try.prog 33 #[.agg #[.int .i64 k, .int .i64 s, .int .i64 i, .int .i64 g, .int .i64 es, .int .i64 ei, .int .i64 eg, .int .i64 m, .int .i64 x, .int .i64 y, .int .i64 vx, .int .i64 vy, .int .i64 hp, .int .i64 pw, .int .i64 lf, .int .i64 mask]] w fun e w' => e = .returned (.bool (cmdB ⟨k, s, i, g, ⟨es, ei, eg, m, x, y, vx, vy, hp, pw, lf⟩, mask⟩)) ∧ Below w.heap.size w w' := by
  have h := rMayCmd_any k s i g es ei eg m x y vx vy hp pw lf mask w hm.1 hm.2
  rw [cmdB_eq] at h
  exact h
theorem rWith_k (s i g m x y vx vy hp pw lf s' i' g' m' x' y' vx' vy' hp' pw' lf' : Int) (w : World) (hm : I64 m') :
    Calls Try.prog 54 #[.agg #[.int .i64 s, .int .i64 i, .int .i64 g, .int .i64 m, .int .i64 x, .int .i64 y, .int .i64 vx, .int .i64 vy, .int .i64 hp, .int .i64 pw, .int .i64 lf], .agg #[.int .i64 s', .int .i64 i', .int .i64 g', .int .i64 m', .int .i64 x', .int .i64 y', .int .i64 vx', .int .i64 vy', .int .i64 hp', .int .i64 pw', .int .i64 lf']] w fun e w' => e = .returned (.agg #[.int .i64 (withF ⟨s, i, g, m, x, y, vx, vy, hp, pw, lf⟩ ⟨s', i', g', m', x', y', vx', vy', hp', pw', lf'⟩).s, .int .i64 (withF ⟨s, i, g, m, x, y, vx, vy, hp, pw, lf⟩ ⟨s', i', g', m', x', y', vx', vy', hp', pw', lf'⟩).i, .int .i64 (withF ⟨s, i, g, m, x, y, vx, vy, hp, pw, lf⟩ ⟨s', i', g', m', x', y', vx', vy', hp', pw', lf'⟩).g, .int .i64 (withF ⟨s, i, g, m, x, y, vx, vy, hp, pw, lf⟩ ⟨s', i', g', m', x', y', vx', vy', hp', pw', lf'⟩).m, .int .i64 (withF ⟨s, i, g, m, x, y, vx, vy, hp, pw, lf⟩ ⟨s', i', g', m', x', y', vx', vy', hp', pw', lf'⟩).x, .int .i64 (withF ⟨s, i, g, m, x, y, vx, vy, hp, pw, lf⟩ ⟨s', i', g', m', x', y', vx', vy', hp', pw', lf'⟩).y, .int .i64 (withF ⟨s, i, g, m, x, y, vx, vy, hp, pw, lf⟩ ⟨s', i', g', m', x', y', vx', vy', hp', pw', lf'⟩).vx, .int .i64 (withF ⟨s, i, g, m, x, y, vx, vy, hp, pw, lf⟩ ⟨s', i', g', m', x', y', vx', vy', hp', pw', lf'⟩).vy, .int .i64 (withF ⟨s, i, g, m, x, y, vx, vy, hp, pw, lf⟩ ⟨s', i', g', m', x', y', vx', vy', hp', pw', lf'⟩).hp, .int .i64 (withF ⟨s, i, g, m, x, y, vx, vy, hp, pw, lf⟩ ⟨s', i', g', m', x', y', vx', vy', hp', pw', lf'⟩).pw, .int .i64 (withF ⟨s, i, g, m, x, y, vx, vy, hp, pw, lf⟩ ⟨s', i', g', m', x', y', vx', vy', hp', pw', lf'⟩).lf]) ∧ Below w.heap.size w w' := by
  have h := rWith_any s i g m x y vx vy hp pw lf s' i' g' m' x' y' vx' vy' hp' pw' lf' w hm.1 hm.2
  rw [withF_eq] at h
  exact h
theorem without_k (s i g m x y vx vy hp pw lf k : Int) (w : World) :
    Calls Try.prog 53 #[.agg #[.int .i64 s, .int .i64 i, .int .i64 g, .int .i64 m, .int .i64 x, .int .i64 y, .int .i64 vx, .int .i64 vy, .int .i64 hp, .int .i64 pw, .int .i64 lf], .int .i64 k] w fun e w' => e = .returned (.agg #[.int .i64 (withoutF ⟨s, i, g, m, x, y, vx, vy, hp, pw, lf⟩ k).s, .int .i64 (withoutF ⟨s, i, g, m, x, y, vx, vy, hp, pw, lf⟩ k).i, .int .i64 (withoutF ⟨s, i, g, m, x, y, vx, vy, hp, pw, lf⟩ k).g, .int .i64 (withoutF ⟨s, i, g, m, x, y, vx, vy, hp, pw, lf⟩ k).m, .int .i64 (withoutF ⟨s, i, g, m, x, y, vx, vy, hp, pw, lf⟩ k).x, .int .i64 (withoutF ⟨s, i, g, m, x, y, vx, vy, hp, pw, lf⟩ k).y, .int .i64 (withoutF ⟨s, i, g, m, x, y, vx, vy, hp, pw, lf⟩ k).vx, .int .i64 (withoutF ⟨s, i, g, m, x, y, vx, vy, hp, pw, lf⟩ k).vy, .int .i64 (withoutF ⟨s, i, g, m, x, y, vx, vy, hp, pw, lf⟩ k).hp, .int .i64 (withoutF ⟨s, i, g, m, x, y, vx, vy, hp, pw, lf⟩ k).pw, .int .i64 (withoutF ⟨s, i, g, m, x, y, vx, vy, hp, pw, lf⟩ k).lf]) ∧ Below w.heap.size w w' :=
  without_any s i g m x y vx vy hp pw lf k w
theorem rWithout_k (s i g m x y vx vy hp pw lf k : Int) (w : World) (hm : I64 m) (hk : I64 k) :
    Calls Try.prog 55 #[.agg #[.int .i64 s, .int .i64 i, .int .i64 g, .int .i64 m, .int .i64 x, .int .i64 y, .int .i64 vx, .int .i64 vy, .int .i64 hp, .int .i64 pw, .int .i64 lf], .int .i64 k] w fun e w' => e = .returned (.agg #[.int .i64 (withoutF ⟨s, i, g, m, x, y, vx, vy, hp, pw, lf⟩ k).s, .int .i64 (withoutF ⟨s, i, g, m, x, y, vx, vy, hp, pw, lf⟩ k).i, .int .i64 (withoutF ⟨s, i, g, m, x, y, vx, vy, hp, pw, lf⟩ k).g, .int .i64 (withoutF ⟨s, i, g, m, x, y, vx, vy, hp, pw, lf⟩ k).m, .int .i64 (withoutF ⟨s, i, g, m, x, y, vx, vy, hp, pw, lf⟩ k).x, .int .i64 (withoutF ⟨s, i, g, m, x, y, vx, vy, hp, pw, lf⟩ k).y, .int .i64 (withoutF ⟨s, i, g, m, x, y, vx, vy, hp, pw, lf⟩ k).vx, .int .i64 (withoutF ⟨s, i, g, m, x, y, vx, vy, hp, pw, lf⟩ k).vy, .int .i64 (withoutF ⟨s, i, g, m, x, y, vx, vy, hp, pw, lf⟩ k).hp, .int .i64 (withoutF ⟨s, i, g, m, x, y, vx, vy, hp, pw, lf⟩ k).pw, .int .i64 (withoutF ⟨s, i, g, m, x, y, vx, vy, hp, pw, lf⟩ k).lf]) ∧ Below w.heap.size w w' := by
  have h := rWithout_any s i g m x y vx vy hp pw lf k w hk.1 hk.2
  rw [withoutF_eq _ _ hm] at h
  exact h

@[go_sem, simp] theorem bunEq_self (b : Bun) : bunEq b b = true := by simp [bunEq]


set_option maxHeartbeats 1000000 in
theorem awake9 (w : World) : Calls Try.prog 34 #[] w fun e w' => e = .returned (.bool true) ∧ Below w.heap.size w w' := by
  have e1 : withoutF ⟨0, 0, 0, 5, 1, 2, 0, 0, 3, 0, 0⟩ 4 = ⟨0, 0, 0, 1, 1, 2, 0, 0, 0, 0, 0⟩ := by decide
  have e2 : withF ⟨0, 0, 0, 1, 1, 0, 0, 0, 0, 0, 0⟩ ⟨0, 0, 0, 4, 0, 0, 0, 0, 9, 0, 0⟩ = ⟨0, 0, 0, 5, 1, 0, 0, 0, 9, 0, 0⟩ := by decide
  have e3 : checkB ⟨0, 0, 0, 5, 1, 0, 0, 0, 9, 0, 0⟩ = true := by decide
  have e4 : checkB ⟨0, 0, 0, 4, 0, 0, 0, 0, 9, 0, 0⟩ = false := by decide
  have e5 : checkB ⟨0, 0, 0, 1, 0, 0, 0, 0, 9, 0, 0⟩ = false := by decide
  have e6 : cmdB ⟨2, 0, 0, 0, ⟨0, 0, 0, 0, 0, 0, 0, 0, 0, 0, 0⟩, 0⟩ = true := by decide
  have e7 : errB true = 0 := rfl
  have e8 : errB false = 1 := rfl
  go_enter Try.func34, Try.ntmps34
  go_wp2_with (first
    | (go_at_call 53; refine (without_k _ _ _ _ _ _ _ _ _ _ _ _ _).mono ?_; rintro e w' ⟨rfl, hb⟩; obtain ⟨d, os, rfl⟩ := more_of hb; clear hb)
    | (go_at_call 52; refine (with_call _ _ _ _ _ _ _ _ _ _ _ _ _ _ _ _ _ _ _ _ _ _ _).mono ?_; rintro e w' ⟨rfl, hb⟩; obtain ⟨d, os, rfl⟩ := more_of hb; clear hb)
    | (go_at_call 59; refine (check_any _ _ _ _ _ _ _ _ _ _ _ _).mono ?_; rintro e w' ⟨rfl, hb⟩; obtain ⟨d, os, rfl⟩ := more_of hb; clear hb)
    | (go_at_call 60; refine (checkCmd_any _ _ _ _ _ _ _ _ _ _ _ _ _ _ _ _ _).mono ?_; rintro e w' ⟨rfl, hb⟩; obtain ⟨d, os, rfl⟩ := more_of hb; clear hb))
  go_ways
  all_goals go_ret
  all_goals exact ⟨by simp, (by repeat' (first | (with_reducible exact Below.refl _ _) | (with_reducible assumption) | (with_reducible refine below_drewN ?_ _) | (with_reducible refine below_more _ _ _ ?_ ?_) | (with_reducible refine Below.alloc ?_ ?_ _) | (with_reducible refine Below.drew ?_) | (with_reducible refine Below.setCell ?_ ?_ _) | go_size))⟩

end Go.Proofs.Ytloampfkjldmnaa
