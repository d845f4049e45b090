/-
  Chapter texts SyO: what the claim reaches of them. Conditions stand at each theorem.
-/
import Derived.Test.YtoimjjhopljdmaaGreatQ27
import Derived.Test.YtoimjjhopljdmaaGreatQ09
namespace Go.Proofs.YtoimjjhopljdmaaGreat
open Go.RowKit

def obeyF (b : Bun) (c : Cm) : Bun × Bool :=
  if idEq c.s c.i c.g b.s b.i b.g = false then (b, true)
  else if c.k = 2 then (zeroB, false)
  else if c.k = 3 then (withF b c.b, true)
  else if c.k = 4 then (withoutF b c.mask, true)
  else (b, true)

set_option maxRecDepth 100000 in
set_option maxHeartbeats 4000000 in
theorem obey_any (s i g m x y vx vy hp pw lf ck cs ci cg s' i' g' m' x' y' vx' vy' hp' pw' lf' mask : Int) (w : World) :
    Calls Tryz.prog 140 #[.agg #[.int .i64 s, .int .i64 i, .int .i64 g, .int .i64 m, .int .i64 x, .int .i64 y, .int .i64 vx, .int .i64 vy, .int .i64 hp, .int .i64 pw, .int .i64 lf], .agg #[.int .i64 ck, .int .i64 cs, .int .i64 ci, .int .i64 cg, .int .i64 s', .int .i64 i', .int .i64 g', .int .i64 m', .int .i64 x', .int .i64 y', .int .i64 vx', .int .i64 vy', .int .i64 hp', .int .i64 pw', .int .i64 lf', .int .i64 mask]] w fun e w' => e = .returned (.tuple #[.agg #[.int .i64 ((obeyF ⟨s, i, g, m, x, y, vx, vy, hp, pw, lf⟩ (⟨ck, cs, ci, cg, ⟨s', i', g', m', x', y', vx', vy', hp', pw', lf'⟩, mask⟩ : Cm)).1).s, .int .i64 ((obeyF ⟨s, i, g, m, x, y, vx, vy, hp, pw, lf⟩ (⟨ck, cs, ci, cg, ⟨s', i', g', m', x', y', vx', vy', hp', pw', lf'⟩, mask⟩ : Cm)).1).i, .int .i64 ((obeyF ⟨s, i, g, m, x, y, vx, vy, hp, pw, lf⟩ (⟨ck, cs, ci, cg, ⟨s', i', g', m', x', y', vx', vy', hp', pw', lf'⟩, mask⟩ : Cm)).1).g, .int .i64 ((obeyF ⟨s, i, g, m, x, y, vx, vy, hp, pw, lf⟩ (⟨ck, cs, ci, cg, ⟨s', i', g', m', x', y', vx', vy', hp', pw', lf'⟩, mask⟩ : Cm)).1).m, .int .i64 ((obeyF ⟨s, i, g, m, x, y, vx, vy, hp, pw, lf⟩ (⟨ck, cs, ci, cg, ⟨s', i', g', m', x', y', vx', vy', hp', pw', lf'⟩, mask⟩ : Cm)).1).x, .int .i64 ((obeyF ⟨s, i, g, m, x, y, vx, vy, hp, pw, lf⟩ (⟨ck, cs, ci, cg, ⟨s', i', g', m', x', y', vx', vy', hp', pw', lf'⟩, mask⟩ : Cm)).1).y, .int .i64 ((obeyF ⟨s, i, g, m, x, y, vx, vy, hp, pw, lf⟩ (⟨ck, cs, ci, cg, ⟨s', i', g', m', x', y', vx', vy', hp', pw', lf'⟩, mask⟩ : Cm)).1).vx, .int .i64 ((obeyF ⟨s, i, g, m, x, y, vx, vy, hp, pw, lf⟩ (⟨ck, cs, ci, cg, ⟨s', i', g', m', x', y', vx', vy', hp', pw', lf'⟩, mask⟩ : Cm)).1).vy, .int .i64 ((obeyF ⟨s, i, g, m, x, y, vx, vy, hp, pw, lf⟩ (⟨ck, cs, ci, cg, ⟨s', i', g', m', x', y', vx', vy', hp', pw', lf'⟩, mask⟩ : Cm)).1).hp, .int .i64 ((obeyF ⟨s, i, g, m, x, y, vx, vy, hp, pw, lf⟩ (⟨ck, cs, ci, cg, ⟨s', i', g', m', x', y', vx', vy', hp', pw', lf'⟩, mask⟩ : Cm)).1).pw, .int .i64 ((obeyF ⟨s, i, g, m, x, y, vx, vy, hp, pw, lf⟩ (⟨ck, cs, ci, cg, ⟨s', i', g', m', x', y', vx', vy', hp', pw', lf'⟩, mask⟩ : Cm)).1).lf], .bool (obeyF ⟨s, i, g, m, x, y, vx, vy, hp, pw, lf⟩ (⟨ck, cs, ci, cg, ⟨s', i', g', m', x', y', vx', vy', hp', pw', lf'⟩, mask⟩ : Cm)).2]) ∧ Below w.heap.size w w' := by
  cases hid : idEq cs ci cg s i g with
  | false =>
    simp only [obeyF, hid, if_true]
    go_enter Tryz.func140, Tryz.ntmps140
    go_wp2_with fail
    exact bodyPost_ret (v := .tuple #[.agg #[.int .i64 s, .int .i64 i, .int .i64 g, .int .i64 m, .int .i64 x, .int .i64 y, .int .i64 vx, .int .i64 vy, .int .i64 hp, .int .i64 pw, .int .i64 lf], .bool true]) (by simp [results, Tryz.results140, go_sem]) rfl ⟨rfl, (by repeat' (first | (with_reducible exact Below.refl _ _) | (with_reducible assumption) | (with_reducible refine below_drewN ?_ _) | (with_reducible refine below_more _ _ _ ?_ ?_) | (with_reducible refine Below.alloc ?_ ?_ _) | (with_reducible refine Below.drew ?_) | (with_reducible refine Below.setCell ?_ ?_ _) | go_size))⟩
  | true =>
    by_cases h2 : ck = 2
    · subst h2
      simp only [obeyF, hid, Bool.true_eq_false, if_false, if_true, zeroB]
      go_enter Tryz.func140, Tryz.ntmps140
      go_wp2_with fail
      exact bodyPost_ret (v := .tuple #[.agg #[.int .i64 0, .int .i64 0, .int .i64 0, .int .i64 0, .int .i64 0, .int .i64 0, .int .i64 0, .int .i64 0, .int .i64 0, .int .i64 0, .int .i64 0], .bool false]) (by simp [results, Tryz.results140, go_sem]) rfl ⟨rfl, (by repeat' (first | (with_reducible exact Below.refl _ _) | (with_reducible assumption) | (with_reducible refine below_drewN ?_ _) | (with_reducible refine below_more _ _ _ ?_ ?_) | (with_reducible refine Below.alloc ?_ ?_ _) | (with_reducible refine Below.drew ?_) | (with_reducible refine Below.setCell ?_ ?_ _) | go_size))⟩
    · by_cases h3 : ck = 3
      · subst h3
        simp only [obeyF, hid, Bool.true_eq_false, if_false, if_true, h2]
        clear h2
        go_enter Tryz.func140, Tryz.ntmps140
        go_wp2_with (go_at_call 156; refine (with_call _ _ _ _ _ _ _ _ _ _ _ _ _ _ _ _ _ _ _ _ _ _ _).mono ?_; rintro e w' ⟨rfl, hb⟩; obtain ⟨d, os, rfl⟩ := more_of hb; clear hb)
        exact bodyPost_ret (v := .tuple #[.agg #[.int .i64 (withF ⟨s, i, g, m, x, y, vx, vy, hp, pw, lf⟩ ⟨s', i', g', m', x', y', vx', vy', hp', pw', lf'⟩).s, .int .i64 (withF ⟨s, i, g, m, x, y, vx, vy, hp, pw, lf⟩ ⟨s', i', g', m', x', y', vx', vy', hp', pw', lf'⟩).i, .int .i64 (withF ⟨s, i, g, m, x, y, vx, vy, hp, pw, lf⟩ ⟨s', i', g', m', x', y', vx', vy', hp', pw', lf'⟩).g, .int .i64 (withF ⟨s, i, g, m, x, y, vx, vy, hp, pw, lf⟩ ⟨s', i', g', m', x', y', vx', vy', hp', pw', lf'⟩).m, .int .i64 (withF ⟨s, i, g, m, x, y, vx, vy, hp, pw, lf⟩ ⟨s', i', g', m', x', y', vx', vy', hp', pw', lf'⟩).x, .int .i64 (withF ⟨s, i, g, m, x, y, vx, vy, hp, pw, lf⟩ ⟨s', i', g', m', x', y', vx', vy', hp', pw', lf'⟩).y, .int .i64 (withF ⟨s, i, g, m, x, y, vx, vy, hp, pw, lf⟩ ⟨s', i', g', m', x', y', vx', vy', hp', pw', lf'⟩).vx, .int .i64 (withF ⟨s, i, g, m, x, y, vx, vy, hp, pw, lf⟩ ⟨s', i', g', m', x', y', vx', vy', hp', pw', lf'⟩).vy, .int .i64 (withF ⟨s, i, g, m, x, y, vx, vy, hp, pw, lf⟩ ⟨s', i', g', m', x', y', vx', vy', hp', pw', lf'⟩).hp, .int .i64 (withF ⟨s, i, g, m, x, y, vx, vy, hp, pw, lf⟩ ⟨s', i', g', m', x', y', vx', vy', hp', pw', lf'⟩).pw, .int .i64 (withF ⟨s, i, g, m, x, y, vx, vy, hp, pw, lf⟩ ⟨s', i', g', m', x', y', vx', vy', hp', pw', lf'⟩).lf], .bool true]) (by simp [results, Tryz.results140, go_sem]) rfl ⟨rfl, (by repeat' (first | (with_reducible exact Below.refl _ _) | (with_reducible assumption) | (with_reducible refine below_drewN ?_ _) | (with_reducible refine below_more _ _ _ ?_ ?_) | (with_reducible refine Below.alloc ?_ ?_ _) | (with_reducible refine Below.drew ?_) | (with_reducible refine Below.setCell ?_ ?_ _) | go_size))⟩
      · by_cases h4 : ck = 4
        · subst h4
          simp only [obeyF, hid, Bool.true_eq_false, if_false, if_true, h2, h3]
          clear h2 h3
          have HW := Lib.hid (fun W => without_any s i g m x y vx vy hp pw lf mask W)
          go_enter Tryz.func140, Tryz.ntmps140
          go_wp2_with (go_at_call 157; refine (HW.out _).mono ?_; rintro e w' ⟨rfl, hb⟩; obtain ⟨d, os, rfl⟩ := more_of hb; clear hb)
          exact bodyPost_ret (v := .tuple #[.agg #[.int .i64 (withoutF ⟨s, i, g, m, x, y, vx, vy, hp, pw, lf⟩ mask).s, .int .i64 (withoutF ⟨s, i, g, m, x, y, vx, vy, hp, pw, lf⟩ mask).i, .int .i64 (withoutF ⟨s, i, g, m, x, y, vx, vy, hp, pw, lf⟩ mask).g, .int .i64 (withoutF ⟨s, i, g, m, x, y, vx, vy, hp, pw, lf⟩ mask).m, .int .i64 (withoutF ⟨s, i, g, m, x, y, vx, vy, hp, pw, lf⟩ mask).x, .int .i64 (withoutF ⟨s, i, g, m, x, y, vx, vy, hp, pw, lf⟩ mask).y, .int .i64 (withoutF ⟨s, i, g, m, x, y, vx, vy, hp, pw, lf⟩ mask).vx, .int .i64 (withoutF ⟨s, i, g, m, x, y, vx, vy, hp, pw, lf⟩ mask).vy, .int .i64 (withoutF ⟨s, i, g, m, x, y, vx, vy, hp, pw, lf⟩ mask).hp, .int .i64 (withoutF ⟨s, i, g, m, x, y, vx, vy, hp, pw, lf⟩ mask).pw, .int .i64 (withoutF ⟨s, i, g, m, x, y, vx, vy, hp, pw, lf⟩ mask).lf], .bool true]) (by simp [results, Tryz.results140, go_sem]) rfl ⟨rfl, (by repeat' (first | (with_reducible exact Below.refl _ _) | (with_reducible assumption) | (with_reducible refine below_drewN ?_ _) | (with_reducible refine below_more _ _ _ ?_ ?_) | (with_reducible refine Below.alloc ?_ ?_ _) | (with_reducible refine Below.drew ?_) | (with_reducible refine Below.setCell ?_ ?_ _) | go_size))⟩
        · simp only [obeyF, hid, Bool.true_eq_false, if_false, h2, h3, h4]
          have k2 : (ck == 2) = false := by simpa using h2
          have k3 : (ck == 3) = false := by simpa using h3
          have k4 : (ck == 4) = false := by simpa using h4
          clear h2 h3 h4
          go_enter Tryz.func140, Tryz.ntmps140
          go_wp2_with fail
          exact bodyPost_ret (v := .tuple #[.agg #[.int .i64 s, .int .i64 i, .int .i64 g, .int .i64 m, .int .i64 x, .int .i64 y, .int .i64 vx, .int .i64 vy, .int .i64 hp, .int .i64 pw, .int .i64 lf], .bool true]) (by simp [results, Tryz.results140, go_sem]) rfl ⟨rfl, (by repeat' (first | (with_reducible exact Below.refl _ _) | (with_reducible assumption) | (with_reducible refine below_drewN ?_ _) | (with_reducible refine below_more _ _ _ ?_ ?_) | (with_reducible refine Below.alloc ?_ ?_ _) | (with_reducible refine Below.drew ?_) | (with_reducible refine Below.setCell ?_ ?_ _) | go_size))⟩

end Go.Proofs.YtoimjjhopljdmaaGreat
