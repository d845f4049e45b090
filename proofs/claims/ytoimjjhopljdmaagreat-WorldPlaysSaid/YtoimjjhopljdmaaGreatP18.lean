/- Texts SyO TkC TkB TkS GhO: what the claim reaches of them. Conditions stand at each theorem. -/
import Derived.Test.YtoimjjhopljdmaaGreatP17
set_option maxRecDepth 100000
set_option maxHeartbeats 8000000
namespace Go.Proofs.YtoimjjhopljdmaaGreat
open Go.RowKit
open Go.Proofs.Tryz (prog)
open Go.Value (int)
open Go.IntKind (i64)
open Go.Lib (hid)
def obeyF (b : Bun) (c : Cm) : Bun × Bool :=
 if idEq c.s c.i c.g b.s b.i b.g = false then (b, true)
 else if c.k = 2 then (zeroB, false)
 else if c.k = 3 then (withF b c.b, true)
 else if c.k = 4 then (withoutF b c.mask, true)
 else (b, true)
theorem obey_any (s i g m x y vx vy hp pw lf ck cs ci cg s' i' g' m' x' y' vx' vy' hp' pw' lf' mask : Int) (w : World) :
 Calls prog 140 #[.agg #[int i64 s, int i64 i, int i64 g, int i64 m, int i64 x, int i64 y, int i64 vx, int i64 vy, int i64 hp, int i64 pw, int i64 lf], .agg #[int i64 ck, int i64 cs, int i64 ci, int i64 cg, int i64 s', int i64 i', int i64 g', int i64 m', int i64 x', int i64 y', int i64 vx', int i64 vy', int i64 hp', int i64 pw', int i64 lf', int i64 mask]] w fun e w' => e = .returned (.tuple #[.agg #[int i64 ((obeyF ⟨s, i, g, m, x, y, vx, vy, hp, pw, lf⟩ (⟨ck, cs, ci, cg, ⟨s', i', g', m', x', y', vx', vy', hp', pw', lf'⟩, mask⟩ : Cm)).1).s, int i64 ((obeyF ⟨s, i, g, m, x, y, vx, vy, hp, pw, lf⟩ (⟨ck, cs, ci, cg, ⟨s', i', g', m', x', y', vx', vy', hp', pw', lf'⟩, mask⟩ : Cm)).1).i, int i64 ((obeyF ⟨s, i, g, m, x, y, vx, vy, hp, pw, lf⟩ (⟨ck, cs, ci, cg, ⟨s', i', g', m', x', y', vx', vy', hp', pw', lf'⟩, mask⟩ : Cm)).1).g, int i64 ((obeyF ⟨s, i, g, m, x, y, vx, vy, hp, pw, lf⟩ (⟨ck, cs, ci, cg, ⟨s', i', g', m', x', y', vx', vy', hp', pw', lf'⟩, mask⟩ : Cm)).1).m, int i64 ((obeyF ⟨s, i, g, m, x, y, vx, vy, hp, pw, lf⟩ (⟨ck, cs, ci, cg, ⟨s', i', g', m', x', y', vx', vy', hp', pw', lf'⟩, mask⟩ : Cm)).1).x, int i64 ((obeyF ⟨s, i, g, m, x, y, vx, vy, hp, pw, lf⟩ (⟨ck, cs, ci, cg, ⟨s', i', g', m', x', y', vx', vy', hp', pw', lf'⟩, mask⟩ : Cm)).1).y, int i64 ((obeyF ⟨s, i, g, m, x, y, vx, vy, hp, pw, lf⟩ (⟨ck, cs, ci, cg, ⟨s', i', g', m', x', y', vx', vy', hp', pw', lf'⟩, mask⟩ : Cm)).1).vx, int i64 ((obeyF ⟨s, i, g, m, x, y, vx, vy, hp, pw, lf⟩ (⟨ck, cs, ci, cg, ⟨s', i', g', m', x', y', vx', vy', hp', pw', lf'⟩, mask⟩ : Cm)).1).vy, int i64 ((obeyF ⟨s, i, g, m, x, y, vx, vy, hp, pw, lf⟩ (⟨ck, cs, ci, cg, ⟨s', i', g', m', x', y', vx', vy', hp', pw', lf'⟩, mask⟩ : Cm)).1).hp, int i64 ((obeyF ⟨s, i, g, m, x, y, vx, vy, hp, pw, lf⟩ (⟨ck, cs, ci, cg, ⟨s', i', g', m', x', y', vx', vy', hp', pw', lf'⟩, mask⟩ : Cm)).1).pw, int i64 ((obeyF ⟨s, i, g, m, x, y, vx, vy, hp, pw, lf⟩ (⟨ck, cs, ci, cg, ⟨s', i', g', m', x', y', vx', vy', hp', pw', lf'⟩, mask⟩ : Cm)).1).lf], .bool (obeyF ⟨s, i, g, m, x, y, vx, vy, hp, pw, lf⟩ (⟨ck, cs, ci, cg, ⟨s', i', g', m', x', y', vx', vy', hp', pw', lf'⟩, mask⟩ : Cm)).2]) ∧ Below w.heap.size w w' := by
 cases hid : idEq cs ci cg s i g with
 | false =>
   simp only [obeyF, hid, if_true]
   go_enter Tryz.func140, Tryz.ntmps140
   go_wp2_with fail
   exact bodyPost_ret (v := .tuple #[.agg #[int i64 s, int i64 i, int i64 g, int i64 m, int i64 x, int i64 y, int i64 vx, int i64 vy, int i64 hp, int i64 pw, int i64 lf], .bool true]) (by simp [results, Tryz.results140, go_sem]) rfl ⟨rfl, bg⟩
 | true =>
   by_cases h2 : ck = 2
   · subst h2
     simp only [obeyF, hid, Bool.true_eq_false, if_false, if_true, zeroB]
     go_enter Tryz.func140, Tryz.ntmps140
     go_wp2_with fail
     exact bodyPost_ret (v := .tuple #[.agg #[int i64 0, int i64 0, int i64 0, int i64 0, int i64 0, int i64 0, int i64 0, int i64 0, int i64 0, int i64 0, int i64 0], .bool false]) (by simp [results, Tryz.results140, go_sem]) rfl ⟨rfl, bg⟩
   · by_cases h3 : ck = 3
     · subst h3
       simp only [obeyF, hid, Bool.true_eq_false, if_false, if_true, h2]
       clear h2
       go_enter Tryz.func140, Tryz.ntmps140
       go_wp2_with (go_at_call 156; refine belA (with_call _ _ _ _ _ _ _ _ _ _ _ _ _ _ _ _ _ _ _ _ _ _ _) fun d os => ?_)
       exact bodyPost_ret (v := .tuple #[.agg #[int i64 (withF ⟨s, i, g, m, x, y, vx, vy, hp, pw, lf⟩ ⟨s', i', g', m', x', y', vx', vy', hp', pw', lf'⟩).s, int i64 (withF ⟨s, i, g, m, x, y, vx, vy, hp, pw, lf⟩ ⟨s', i', g', m', x', y', vx', vy', hp', pw', lf'⟩).i, int i64 (withF ⟨s, i, g, m, x, y, vx, vy, hp, pw, lf⟩ ⟨s', i', g', m', x', y', vx', vy', hp', pw', lf'⟩).g, int i64 (withF ⟨s, i, g, m, x, y, vx, vy, hp, pw, lf⟩ ⟨s', i', g', m', x', y', vx', vy', hp', pw', lf'⟩).m, int i64 (withF ⟨s, i, g, m, x, y, vx, vy, hp, pw, lf⟩ ⟨s', i', g', m', x', y', vx', vy', hp', pw', lf'⟩).x, int i64 (withF ⟨s, i, g, m, x, y, vx, vy, hp, pw, lf⟩ ⟨s', i', g', m', x', y', vx', vy', hp', pw', lf'⟩).y, int i64 (withF ⟨s, i, g, m, x, y, vx, vy, hp, pw, lf⟩ ⟨s', i', g', m', x', y', vx', vy', hp', pw', lf'⟩).vx, int i64 (withF ⟨s, i, g, m, x, y, vx, vy, hp, pw, lf⟩ ⟨s', i', g', m', x', y', vx', vy', hp', pw', lf'⟩).vy, int i64 (withF ⟨s, i, g, m, x, y, vx, vy, hp, pw, lf⟩ ⟨s', i', g', m', x', y', vx', vy', hp', pw', lf'⟩).hp, int i64 (withF ⟨s, i, g, m, x, y, vx, vy, hp, pw, lf⟩ ⟨s', i', g', m', x', y', vx', vy', hp', pw', lf'⟩).pw, int i64 (withF ⟨s, i, g, m, x, y, vx, vy, hp, pw, lf⟩ ⟨s', i', g', m', x', y', vx', vy', hp', pw', lf'⟩).lf], .bool true]) (by simp [results, Tryz.results140, go_sem]) rfl ⟨rfl, bg⟩
     · by_cases h4 : ck = 4
       · subst h4
         simp only [obeyF, hid, Bool.true_eq_false, if_false, if_true, h2, h3]
         clear h2 h3
         have HW := Lib.hid (fun W => without_any s i g m x y vx vy hp pw lf mask W)
         go_enter Tryz.func140, Tryz.ntmps140
         go_wp2_with (go_at_call 157; refine belA (HW.out _) fun d os => ?_)
         exact bodyPost_ret (v := .tuple #[.agg #[int i64 (withoutF ⟨s, i, g, m, x, y, vx, vy, hp, pw, lf⟩ mask).s, int i64 (withoutF ⟨s, i, g, m, x, y, vx, vy, hp, pw, lf⟩ mask).i, int i64 (withoutF ⟨s, i, g, m, x, y, vx, vy, hp, pw, lf⟩ mask).g, int i64 (withoutF ⟨s, i, g, m, x, y, vx, vy, hp, pw, lf⟩ mask).m, int i64 (withoutF ⟨s, i, g, m, x, y, vx, vy, hp, pw, lf⟩ mask).x, int i64 (withoutF ⟨s, i, g, m, x, y, vx, vy, hp, pw, lf⟩ mask).y, int i64 (withoutF ⟨s, i, g, m, x, y, vx, vy, hp, pw, lf⟩ mask).vx, int i64 (withoutF ⟨s, i, g, m, x, y, vx, vy, hp, pw, lf⟩ mask).vy, int i64 (withoutF ⟨s, i, g, m, x, y, vx, vy, hp, pw, lf⟩ mask).hp, int i64 (withoutF ⟨s, i, g, m, x, y, vx, vy, hp, pw, lf⟩ mask).pw, int i64 (withoutF ⟨s, i, g, m, x, y, vx, vy, hp, pw, lf⟩ mask).lf], .bool true]) (by simp [results, Tryz.results140, go_sem]) rfl ⟨rfl, bg⟩
       · simp only [obeyF, hid, Bool.true_eq_false, if_false, h2, h3, h4]
         have k2 : (ck == 2) = false := by simpa using h2
         have k3 : (ck == 3) = false := by simpa using h3
         have k4 : (ck == 4) = false := by simpa using h4
         clear h2 h3 h4
         go_enter Tryz.func140, Tryz.ntmps140
         go_wp2_with fail
         exact bodyPost_ret (v := .tuple #[.agg #[int i64 s, int i64 i, int i64 g, int i64 m, int i64 x, int i64 y, int i64 vx, int i64 vy, int i64 hp, int i64 pw, int i64 lf], .bool true]) (by simp [results, Tryz.results140, go_sem]) rfl ⟨rfl, bg⟩
theorem rObey_any (s i g m x y vx vy hp pw lf ck cs ci cg s' i' g' m' x' y' vx' vy' hp' pw' lf' mask : Int) (w : World) (hm : (-9223372036854775808 ≤ m ∧ m ≤ 9223372036854775807)) (hm' : (-9223372036854775808 ≤ m' ∧ m' ≤ 9223372036854775807)) (hk : (-9223372036854775808 ≤ mask ∧ mask ≤ 9223372036854775807)) :
 Calls prog 94 #[.agg #[int i64 s, int i64 i, int i64 g, int i64 m, int i64 x, int i64 y, int i64 vx, int i64 vy, int i64 hp, int i64 pw, int i64 lf], .agg #[int i64 ck, int i64 cs, int i64 ci, int i64 cg, int i64 s', int i64 i', int i64 g', int i64 m', int i64 x', int i64 y', int i64 vx', int i64 vy', int i64 hp', int i64 pw', int i64 lf', int i64 mask]] w fun e w' => e = .returned (.tuple #[.agg #[int i64 ((obeyF ⟨s, i, g, m, x, y, vx, vy, hp, pw, lf⟩ (⟨ck, cs, ci, cg, ⟨s', i', g', m', x', y', vx', vy', hp', pw', lf'⟩, mask⟩ : Cm)).1).s, int i64 ((obeyF ⟨s, i, g, m, x, y, vx, vy, hp, pw, lf⟩ (⟨ck, cs, ci, cg, ⟨s', i', g', m', x', y', vx', vy', hp', pw', lf'⟩, mask⟩ : Cm)).1).i, int i64 ((obeyF ⟨s, i, g, m, x, y, vx, vy, hp, pw, lf⟩ (⟨ck, cs, ci, cg, ⟨s', i', g', m', x', y', vx', vy', hp', pw', lf'⟩, mask⟩ : Cm)).1).g, int i64 ((obeyF ⟨s, i, g, m, x, y, vx, vy, hp, pw, lf⟩ (⟨ck, cs, ci, cg, ⟨s', i', g', m', x', y', vx', vy', hp', pw', lf'⟩, mask⟩ : Cm)).1).m, int i64 ((obeyF ⟨s, i, g, m, x, y, vx, vy, hp, pw, lf⟩ (⟨ck, cs, ci, cg, ⟨s', i', g', m', x', y', vx', vy', hp', pw', lf'⟩, mask⟩ : Cm)).1).x, int i64 ((obeyF ⟨s, i, g, m, x, y, vx, vy, hp, pw, lf⟩ (⟨ck, cs, ci, cg, ⟨s', i', g', m', x', y', vx', vy', hp', pw', lf'⟩, mask⟩ : Cm)).1).y, int i64 ((obeyF ⟨s, i, g, m, x, y, vx, vy, hp, pw, lf⟩ (⟨ck, cs, ci, cg, ⟨s', i', g', m', x', y', vx', vy', hp', pw', lf'⟩, mask⟩ : Cm)).1).vx, int i64 ((obeyF ⟨s, i, g, m, x, y, vx, vy, hp, pw, lf⟩ (⟨ck, cs, ci, cg, ⟨s', i', g', m', x', y', vx', vy', hp', pw', lf'⟩, mask⟩ : Cm)).1).vy, int i64 ((obeyF ⟨s, i, g, m, x, y, vx, vy, hp, pw, lf⟩ (⟨ck, cs, ci, cg, ⟨s', i', g', m', x', y', vx', vy', hp', pw', lf'⟩, mask⟩ : Cm)).1).hp, int i64 ((obeyF ⟨s, i, g, m, x, y, vx, vy, hp, pw, lf⟩ (⟨ck, cs, ci, cg, ⟨s', i', g', m', x', y', vx', vy', hp', pw', lf'⟩, mask⟩ : Cm)).1).pw, int i64 ((obeyF ⟨s, i, g, m, x, y, vx, vy, hp, pw, lf⟩ (⟨ck, cs, ci, cg, ⟨s', i', g', m', x', y', vx', vy', hp', pw', lf'⟩, mask⟩ : Cm)).1).lf], .bool (obeyF ⟨s, i, g, m, x, y, vx, vy, hp, pw, lf⟩ (⟨ck, cs, ci, cg, ⟨s', i', g', m', x', y', vx', vy', hp', pw', lf'⟩, mask⟩ : Cm)).2]) ∧ Below w.heap.size w w' := by
 cases hid : idEq cs ci cg s i g with
 | false =>
   simp only [obeyF, hid, if_true]
   clear hm hm' hk
   go_enter Tryz.func94, Tryz.ntmps94
   go_wp2_with fail
   exact bodyPost_ret (v := .tuple #[.agg #[int i64 s, int i64 i, int i64 g, int i64 m, int i64 x, int i64 y, int i64 vx, int i64 vy, int i64 hp, int i64 pw, int i64 lf], .bool true]) (by simp [results, Tryz.results94, go_sem]) rfl ⟨rfl, bg⟩
 | true =>
   by_cases h2 : ck = 2
   · subst h2
     simp only [obeyF, hid, Bool.true_eq_false, if_false, if_true, zeroB]
     clear hm hm' hk
     go_enter Tryz.func94, Tryz.ntmps94
     go_wp2_with fail
     exact bodyPost_ret (v := .tuple #[.agg #[int i64 0, int i64 0, int i64 0, int i64 0, int i64 0, int i64 0, int i64 0, int i64 0, int i64 0, int i64 0, int i64 0], .bool false]) (by simp [results, Tryz.results94, go_sem]) rfl ⟨rfl, bg⟩
   · by_cases h3 : ck = 3
     · subst h3
       simp only [obeyF, hid, Bool.true_eq_false, if_false, if_true, h2]
       have hw := fun W => rWith_any s i g m x y vx vy hp pw lf s' i' g' m' x' y' vx' vy' hp' pw' lf' W hm'.1 hm'.2
       rw [withF_eq] at hw
       have HW := Lib.hid hw
       clear h2 hm hm' hk hw
       go_enter Tryz.func94, Tryz.ntmps94
       go_wp2_with (go_at_call 132; refine belA (HW.out _) fun d os => ?_)
       exact bodyPost_ret (v := .tuple #[.agg #[int i64 (withF ⟨s, i, g, m, x, y, vx, vy, hp, pw, lf⟩ ⟨s', i', g', m', x', y', vx', vy', hp', pw', lf'⟩).s, int i64 (withF ⟨s, i, g, m, x, y, vx, vy, hp, pw, lf⟩ ⟨s', i', g', m', x', y', vx', vy', hp', pw', lf'⟩).i, int i64 (withF ⟨s, i, g, m, x, y, vx, vy, hp, pw, lf⟩ ⟨s', i', g', m', x', y', vx', vy', hp', pw', lf'⟩).g, int i64 (withF ⟨s, i, g, m, x, y, vx, vy, hp, pw, lf⟩ ⟨s', i', g', m', x', y', vx', vy', hp', pw', lf'⟩).m, int i64 (withF ⟨s, i, g, m, x, y, vx, vy, hp, pw, lf⟩ ⟨s', i', g', m', x', y', vx', vy', hp', pw', lf'⟩).x, int i64 (withF ⟨s, i, g, m, x, y, vx, vy, hp, pw, lf⟩ ⟨s', i', g', m', x', y', vx', vy', hp', pw', lf'⟩).y, int i64 (withF ⟨s, i, g, m, x, y, vx, vy, hp, pw, lf⟩ ⟨s', i', g', m', x', y', vx', vy', hp', pw', lf'⟩).vx, int i64 (withF ⟨s, i, g, m, x, y, vx, vy, hp, pw, lf⟩ ⟨s', i', g', m', x', y', vx', vy', hp', pw', lf'⟩).vy, int i64 (withF ⟨s, i, g, m, x, y, vx, vy, hp, pw, lf⟩ ⟨s', i', g', m', x', y', vx', vy', hp', pw', lf'⟩).hp, int i64 (withF ⟨s, i, g, m, x, y, vx, vy, hp, pw, lf⟩ ⟨s', i', g', m', x', y', vx', vy', hp', pw', lf'⟩).pw, int i64 (withF ⟨s, i, g, m, x, y, vx, vy, hp, pw, lf⟩ ⟨s', i', g', m', x', y', vx', vy', hp', pw', lf'⟩).lf], .bool true]) (by simp [results, Tryz.results94, go_sem]) rfl ⟨rfl, bg⟩
     · by_cases h4 : ck = 4
       · subst h4
         simp only [obeyF, hid, Bool.true_eq_false, if_false, if_true, h2, h3]
         have hw := fun W => rWithout_any s i g m x y vx vy hp pw lf mask W hk.1 hk.2
         rw [withoutF_eq _ _ hm] at hw
         have HW := Lib.hid hw
         clear h2 h3 hm hm' hk hw
         go_enter Tryz.func94, Tryz.ntmps94
         go_wp2_with (go_at_call 133; refine belA (HW.out _) fun d os => ?_)
         exact bodyPost_ret (v := .tuple #[.agg #[int i64 (withoutF ⟨s, i, g, m, x, y, vx, vy, hp, pw, lf⟩ mask).s, int i64 (withoutF ⟨s, i, g, m, x, y, vx, vy, hp, pw, lf⟩ mask).i, int i64 (withoutF ⟨s, i, g, m, x, y, vx, vy, hp, pw, lf⟩ mask).g, int i64 (withoutF ⟨s, i, g, m, x, y, vx, vy, hp, pw, lf⟩ mask).m, int i64 (withoutF ⟨s, i, g, m, x, y, vx, vy, hp, pw, lf⟩ mask).x, int i64 (withoutF ⟨s, i, g, m, x, y, vx, vy, hp, pw, lf⟩ mask).y, int i64 (withoutF ⟨s, i, g, m, x, y, vx, vy, hp, pw, lf⟩ mask).vx, int i64 (withoutF ⟨s, i, g, m, x, y, vx, vy, hp, pw, lf⟩ mask).vy, int i64 (withoutF ⟨s, i, g, m, x, y, vx, vy, hp, pw, lf⟩ mask).hp, int i64 (withoutF ⟨s, i, g, m, x, y, vx, vy, hp, pw, lf⟩ mask).pw, int i64 (withoutF ⟨s, i, g, m, x, y, vx, vy, hp, pw, lf⟩ mask).lf], .bool true]) (by simp [results, Tryz.results94, go_sem]) rfl ⟨rfl, bg⟩
       · simp only [obeyF, hid, Bool.true_eq_false, if_false, h2, h3, h4]
         have k2 : (ck == 2) = false := by simpa using h2
         have k3 : (ck == 3) = false := by simpa using h3
         have k4 : (ck == 4) = false := by simpa using h4
         clear h2 h3 h4 hm hm' hk
         go_enter Tryz.func94, Tryz.ntmps94
         go_wp2_with fail
         exact bodyPost_ret (v := .tuple #[.agg #[int i64 s, int i64 i, int i64 g, int i64 m, int i64 x, int i64 y, int i64 vx, int i64 vy, int i64 hp, int i64 pw, int i64 lf], .bool true]) (by simp [results, Tryz.results94, go_sem]) rfl ⟨rfl, bg⟩
def hitF (hs : List Hit) (b : Bun) : Bun × Bool := match hs.find? fun h => idEq h.s h.i h.g b.s b.i b.g with
 | some h => hurtF b h.n
 | none => (b, true)
def passF (c : Cfg) (b : Bun) : Bun × Bool := ageF (moveF c b)
theorem find_at {α : Type} {p : α → Bool} : ∀ {l : List α} {t : Nat} {x : α}, l[t]? = some x → p x = true → (∀ j y, j < t → l[j]? = some y → p y = false) → l.find? p = some x
 | y :: l, 0, x, h, hx, _ => by
   obtain rfl : y = x := by simpa using h
   simp [hx]
 | y :: l, t + 1, x, h, hx, hn => by
   have h0 := hn 0 y (by omega) rfl
   rw [List.find?_cons, h0]
   exact find_at (by simpa using h) hx fun j z hj hz => hn (j + 1) z (by omega) (by simpa using hz)
theorem find_no {α : Type} {p : α → Bool} {l : List α} (hn : ∀ j y, j < l.length → l[j]? = some y → p y = false) : l.find? p = none := by
 rw [List.find?_eq_none]
 intro y hy
 obtain ⟨j, hj, rfl⟩ := List.mem_iff_getElem.1 hy
 simpa using hn j _ hj (List.getElem?_eq_getElem hj)
theorem new_at2 (W : World) (o : Obj) (n : Nat) (h : n = W.heap.size) : (W.alloc o).heap[n]? = some o := by subst h; exact heap_alloc_new W o
theorem two_bxs (w : World) (a1 a2 : Array Value) (t1 t2 : TypeId) : ∃ w1, w1 = (w.alloc (.cells a1 t1)).alloc (.cells a2 t2) ∧ Below w.heap.size w w1 ∧ (∀ u, w1.cell? ⟨w.heap.size, u, none⟩ = a1[u]?) ∧ (∀ u, w1.cell? ⟨w.heap.size + 1, u, none⟩ = a2[u]?) ∧ (∀ u, w1.frozen? ⟨w.heap.size + 1, u, none⟩ = false) ∧ w1.heap.size = w.heap.size + 1 + 1 := by
 have e1 : ((w.alloc (.cells a1 t1)).alloc (.cells a2 t2)).heap[w.heap.size + 1]? = some (.cells a2 t2) := new_at2 _ _ _ (by simp)
 have e0 : ((w.alloc (.cells a1 t1)).alloc (.cells a2 t2)).heap[w.heap.size]? = some (.cells a1 t1) :=
  (((Below.refl _ (w.alloc (.cells a1 t1))).alloc (Nat.le_refl _) (.cells a2 t2)).block w.heap.size (by simp)).trans (new_at2 _ _ _ rfl)
 refine ⟨_, rfl, bg, fun u => ?_, fun u => ?_, fun u => ?_, by simp⟩
 · unfold World.cell?; rw [e0]; simp
 · unfold World.cell?; rw [e1]; simp
 · unfold World.frozen?; rw [e1]; simp
theorem eg_run1 : ∀ args w, (callFunc 99 args).run prog w = .ok (.enter 99 args) w := enters_of Tryz.func99 (by kernel_rfl) rfl
theorem eg_run2 : ∀ args w, (callFunc 102 args).run prog w = .ok (.enter 102 args) w := enters_of Tryz.func102 (by kernel_rfl) rfl
theorem eg_obey1 : ∀ args w, (callFunc 139 args).run prog w = .ok (.enter 139 args) w := enters_of Tryz.func139 (by kernel_rfl) rfl
theorem run2_any (s i g m x y vx vy hp pw lf : Int) (nb bm : Nat) (c : Cfg) (w : World) (hn : w.cell? ⟨nb, 0, none⟩ = some (.pointer (some ⟨bm, 0, none⟩))) (hm : MapAt w bm c) (ho : CfgOk c) (hl : (-9223372036854775808 ≤ lf ∧ lf ≤ 9223372036854775807)) :
 Calls prog 102 (#[.agg #[int i64 s, int i64 i, int i64 g, int i64 m, int i64 x, int i64 y, int i64 vx, int i64 vy, int i64 hp, int i64 pw, int i64 lf]] ++ #[.pointer (some ⟨nb, 0, none⟩)]) w fun e w' => e = .returned (.tuple #[.agg #[int i64 ((passF c ⟨s, i, g, m, x, y, vx, vy, hp, pw, lf⟩).1).s, int i64 ((passF c ⟨s, i, g, m, x, y, vx, vy, hp, pw, lf⟩).1).i, int i64 ((passF c ⟨s, i, g, m, x, y, vx, vy, hp, pw, lf⟩).1).g, int i64 ((passF c ⟨s, i, g, m, x, y, vx, vy, hp, pw, lf⟩).1).m, int i64 ((passF c ⟨s, i, g, m, x, y, vx, vy, hp, pw, lf⟩).1).x, int i64 ((passF c ⟨s, i, g, m, x, y, vx, vy, hp, pw, lf⟩).1).y, int i64 ((passF c ⟨s, i, g, m, x, y, vx, vy, hp, pw, lf⟩).1).vx, int i64 ((passF c ⟨s, i, g, m, x, y, vx, vy, hp, pw, lf⟩).1).vy, int i64 ((passF c ⟨s, i, g, m, x, y, vx, vy, hp, pw, lf⟩).1).hp, int i64 ((passF c ⟨s, i, g, m, x, y, vx, vy, hp, pw, lf⟩).1).pw, int i64 ((passF c ⟨s, i, g, m, x, y, vx, vy, hp, pw, lf⟩).1).lf], .bool (passF c ⟨s, i, g, m, x, y, vx, vy, hp, pw, lf⟩).2]) ∧ Below w.heap.size w w' := by
 have hnb : nb < w.heap.size := World.block_lt_of_cell? w ⟨nb, 0, none⟩ hn
 obtain ⟨u0, u1, u2⟩ := ltz hnb
 have HM := Lib.hid (fun W (hW : Below w.heap.size w W) => move_any W bm c s i g m x y vx vy hp pw lf (hm.grow hW) ho)
 have hlf : (moveF c ⟨s, i, g, m, x, y, vx, vy, hp, pw, lf⟩).lf = lf := rfl
 unfold passF
 generalize moveF c ⟨s, i, g, m, x, y, vx, vy, hp, pw, lf⟩ = y at *
 obtain ⟨s', i', g', m', x', y', vx', vy', hp', pw', lf'⟩ := y
 simp only at hlf
 subst hlf
 have HA := Lib.hid (fun W => age_any s' i' g' m' x' y' vx' vy' hp' pw' lf' W hl)
 generalize ageF ⟨s', i', g', m', x', y', vx', vy', hp', pw', lf'⟩ = z at *
 clear hm ho hl
 go_enter Tryz.func102, Tryz.ntmps102
 go_wp2_with fail
 refine belA (HM.out _ bg) fun d1 os1 => ?_
 go_wp2_with fail
 refine belA (HA.out _) fun d2 os2 => ?_
 go_wp2_with fail
 exact bodyPost_ret (v := .tuple #[.agg #[int i64 (z.1).s, int i64 (z.1).i, int i64 (z.1).g, int i64 (z.1).m, int i64 (z.1).x, int i64 (z.1).y, int i64 (z.1).vx, int i64 (z.1).vy, int i64 (z.1).hp, int i64 (z.1).pw, int i64 (z.1).lf], .bool z.2]) (by simp [results, Tryz.results102, go_sem]) rfl ⟨rfl, bg⟩
theorem obey1_any (s i g m x y vx vy hp pw lf ck cs ci cg s' i' g' m' x' y' vx' vy' hp' pw' lf' mask : Int) (nb : Nat) (w : World) (hn : ∀ j, w.cell? ⟨nb, j, none⟩ = (#[int i64 ck, int i64 cs, int i64 ci, int i64 cg, int i64 s', int i64 i', int i64 g', int i64 m', int i64 x', int i64 y', int i64 vx', int i64 vy', int i64 hp', int i64 pw', int i64 lf', int i64 mask] : Array Value)[j]?) :
 Calls prog 139 (#[.agg #[int i64 s, int i64 i, int i64 g, int i64 m, int i64 x, int i64 y, int i64 vx, int i64 vy, int i64 hp, int i64 pw, int i64 lf]] ++ #[.pointer (some ⟨nb, 0, none⟩)]) w fun e w' => e = .returned (.tuple #[.agg #[int i64 ((obeyF ⟨s, i, g, m, x, y, vx, vy, hp, pw, lf⟩ (⟨ck, cs, ci, cg, ⟨s', i', g', m', x', y', vx', vy', hp', pw', lf'⟩, mask⟩ : Cm)).1).s, int i64 ((obeyF ⟨s, i, g, m, x, y, vx, vy, hp, pw, lf⟩ (⟨ck, cs, ci, cg, ⟨s', i', g', m', x', y', vx', vy', hp', pw', lf'⟩, mask⟩ : Cm)).1).i, int i64 ((obeyF ⟨s, i, g, m, x, y, vx, vy, hp, pw, lf⟩ (⟨ck, cs, ci, cg, ⟨s', i', g', m', x', y', vx', vy', hp', pw', lf'⟩, mask⟩ : Cm)).1).g, int i64 ((obeyF ⟨s, i, g, m, x, y, vx, vy, hp, pw, lf⟩ (⟨ck, cs, ci, cg, ⟨s', i', g', m', x', y', vx', vy', hp', pw', lf'⟩, mask⟩ : Cm)).1).m, int i64 ((obeyF ⟨s, i, g, m, x, y, vx, vy, hp, pw, lf⟩ (⟨ck, cs, ci, cg, ⟨s', i', g', m', x', y', vx', vy', hp', pw', lf'⟩, mask⟩ : Cm)).1).x, int i64 ((obeyF ⟨s, i, g, m, x, y, vx, vy, hp, pw, lf⟩ (⟨ck, cs, ci, cg, ⟨s', i', g', m', x', y', vx', vy', hp', pw', lf'⟩, mask⟩ : Cm)).1).y, int i64 ((obeyF ⟨s, i, g, m, x, y, vx, vy, hp, pw, lf⟩ (⟨ck, cs, ci, cg, ⟨s', i', g', m', x', y', vx', vy', hp', pw', lf'⟩, mask⟩ : Cm)).1).vx, int i64 ((obeyF ⟨s, i, g, m, x, y, vx, vy, hp, pw, lf⟩ (⟨ck, cs, ci, cg, ⟨s', i', g', m', x', y', vx', vy', hp', pw', lf'⟩, mask⟩ : Cm)).1).vy, int i64 ((obeyF ⟨s, i, g, m, x, y, vx, vy, hp, pw, lf⟩ (⟨ck, cs, ci, cg, ⟨s', i', g', m', x', y', vx', vy', hp', pw', lf'⟩, mask⟩ : Cm)).1).hp, int i64 ((obeyF ⟨s, i, g, m, x, y, vx, vy, hp, pw, lf⟩ (⟨ck, cs, ci, cg, ⟨s', i', g', m', x', y', vx', vy', hp', pw', lf'⟩, mask⟩ : Cm)).1).pw, int i64 ((obeyF ⟨s, i, g, m, x, y, vx, vy, hp, pw, lf⟩ (⟨ck, cs, ci, cg, ⟨s', i', g', m', x', y', vx', vy', hp', pw', lf'⟩, mask⟩ : Cm)).1).lf], .bool (obeyF ⟨s, i, g, m, x, y, vx, vy, hp, pw, lf⟩ (⟨ck, cs, ci, cg, ⟨s', i', g', m', x', y', vx', vy', hp', pw', lf'⟩, mask⟩ : Cm)).2]) ∧ Below w.heap.size w w' := by
 have hnb : nb < w.heap.size := World.block_lt_of_cell? w ⟨nb, 0, none⟩ (hn 0)
 obtain ⟨u0, u1, u2⟩ := ltz hnb
 have x0 := hn 0; simp at x0; have x1 := hn 1; simp at x1; have x2 := hn 2; simp at x2; have x3 := hn 3; simp at x3; have x4 := hn 4; simp at x4; have x5 := hn 5; simp at x5; have x6 := hn 6; simp at x6; have x7 := hn 7; simp at x7; have x8 := hn 8; simp at x8; have x9 := hn 9; simp at x9; have x10 := hn 10; simp at x10; have x11 := hn 11; simp at x11; have x12 := hn 12; simp at x12; have x13 := hn 13; simp at x13; have x14 := hn 14; simp at x14; have x15 := hn 15; simp at x15
 have HB := Lib.hid (fun W => obey_any s i g m x y vx vy hp pw lf ck cs ci cg s' i' g' m' x' y' vx' vy' hp' pw' lf' mask W)
 generalize obeyF _ _ = z at *
 clear hn
 go_enter Tryz.func139, Tryz.ntmps139
 go_wp2_with fail
 refine belA (HB.out _) fun d1 os1 => ?_
 go_wp2_with fail
 exact bodyPost_ret (v := .tuple #[.agg #[int i64 (z.1).s, int i64 (z.1).i, int i64 (z.1).g, int i64 (z.1).m, int i64 (z.1).x, int i64 (z.1).y, int i64 (z.1).vx, int i64 (z.1).vy, int i64 (z.1).hp, int i64 (z.1).pw, int i64 (z.1).lf], .bool z.2]) (by simp [results, Tryz.results139, go_sem]) rfl ⟨rfl, bg⟩
theorem run1_any (s i g m x y vx vy hp pw lf : Int) (hs : List Hit) (nb : Nat) (hv : Value) (w : World) (hn : w.cell? ⟨nb, 0, none⟩ = some hv) (hR : RIn hitL w hv hs) (hh : (-9223372036854775808 ≤ hp ∧ hp ≤ 9223372036854775807)) :
 Calls prog 99 (#[.agg #[int i64 s, int i64 i, int i64 g, int i64 m, int i64 x, int i64 y, int i64 vx, int i64 vy, int i64 hp, int i64 pw, int i64 lf]] ++ #[.pointer (some ⟨nb, 0, none⟩)]) w fun e w' => e = .returned (.tuple #[.agg #[int i64 ((hitF hs ⟨s, i, g, m, x, y, vx, vy, hp, pw, lf⟩).1).s, int i64 ((hitF hs ⟨s, i, g, m, x, y, vx, vy, hp, pw, lf⟩).1).i, int i64 ((hitF hs ⟨s, i, g, m, x, y, vx, vy, hp, pw, lf⟩).1).g, int i64 ((hitF hs ⟨s, i, g, m, x, y, vx, vy, hp, pw, lf⟩).1).m, int i64 ((hitF hs ⟨s, i, g, m, x, y, vx, vy, hp, pw, lf⟩).1).x, int i64 ((hitF hs ⟨s, i, g, m, x, y, vx, vy, hp, pw, lf⟩).1).y, int i64 ((hitF hs ⟨s, i, g, m, x, y, vx, vy, hp, pw, lf⟩).1).vx, int i64 ((hitF hs ⟨s, i, g, m, x, y, vx, vy, hp, pw, lf⟩).1).vy, int i64 ((hitF hs ⟨s, i, g, m, x, y, vx, vy, hp, pw, lf⟩).1).hp, int i64 ((hitF hs ⟨s, i, g, m, x, y, vx, vy, hp, pw, lf⟩).1).pw, int i64 ((hitF hs ⟨s, i, g, m, x, y, vx, vy, hp, pw, lf⟩).1).lf], .bool (hitF hs ⟨s, i, g, m, x, y, vx, vy, hp, pw, lf⟩).2]) ∧ Below w.heap.size w w' := by
 have hnb : nb < w.heap.size := World.block_lt_of_cell? w ⟨nb, 0, none⟩ hn
 obtain ⟨u0, u1, u2⟩ := ltz hnb
 have HR := Lib.hid hR
 obtain ⟨p, cap, rfl, hmx, _⟩ := hR
 unfold maxLen at hmx
 have HH := Lib.hid (fun n W => hurt_any s i g m x y vx vy hp pw lf n W hh)
 obtain ⟨zr, hzr⟩ : ∃ zr, hitF hs ⟨s, i, g, m, x, y, vx, vy, hp, pw, lf⟩ = zr := ⟨_, rfl⟩
 rw [hzr]
 have HZR := Lib.hid hzr
 clear hh hzr
 obtain ⟨w1, hw1, hb1, k1, k2, g2, hsz⟩ := two_bxs w #[int i64 s, int i64 i, int i64 g, int i64 m, int i64 x, int i64 y, int i64 vx, int i64 vy, int i64 hp, int i64 pw, int i64 lf] #[int i64 0, int i64 0, int i64 0, int i64 0, int i64 0, int i64 0, int i64 0, int i64 0, int i64 0, int i64 0, int i64 0] 32 32
 have HB1 := Lib.hid hb1
 have K1 := Lib.hid k1
 have K2 := Lib.hid k2
 have G2 := Lib.hid g2
 have s0 : nb < w1.heap.size := by omega
 have s1 : w.heap.size < w1.heap.size := by omega
 have s2 : w.heap.size + 1 < w1.heap.size := by omega
 have hn1 := (hb1.cell (p := ⟨nb, 0, none⟩) hnb).trans hn
 clear hb1 k1 k2 g2 hn
 go_enter Tryz.func99, Tryz.ntmps99
 go_upto_region 1 with fail
 rw [← hw1]
 clear hw1
 go_wp2_with fail
 go_loopg [9] hs.length (fun kx sx wr => ∃ t : Nat, sx = int i64 t ∧ t ≤ hs.length ∧ hs.length - t ≤ kx ∧ Hid (Below w1.heap.size w1 wr) ∧ Hid (∀ j y, j < t → hs[j]? = some y → idEq y.s y.i y.g s i g = false))
 case atStart => exact ⟨0, by go_num, by omega, by omega, Lib.hid (Below.refl _ _), Lib.hid (fun j y hj => absurd hj (by omega))⟩
 case round =>
  obtain ⟨t, rfl, ht, hkx, HBW, HNO⟩ := hrel
  obtain ⟨wa, rfl⟩ : ∃ wa : World, wa = wr := ⟨_, rfl⟩
  have hz := HBW.out.size
  have a1 : w.heap.size < wa.heap.size := by omega
  have a2 : w.heap.size + 1 < wa.heap.size := by omega
  obtain ⟨z0, z1, z2⟩ := ltz a1
  obtain ⟨z3, z4, z5⟩ := ltz a2
  have x0 := (HBW.out.cell (p := ⟨w.heap.size, 0, none⟩) s1).trans (K1.out 0); simp at x0
  have x1 := (HBW.out.cell (p := ⟨w.heap.size, 1, none⟩) s1).trans (K1.out 1); simp at x1
  have x2 := (HBW.out.cell (p := ⟨w.heap.size, 2, none⟩) s1).trans (K1.out 2); simp at x2
  have x3 := (HBW.out.cell (p := ⟨w.heap.size, 3, none⟩) s1).trans (K1.out 3); simp at x3
  have x4 := (HBW.out.cell (p := ⟨w.heap.size, 4, none⟩) s1).trans (K1.out 4); simp at x4
  have x5 := (HBW.out.cell (p := ⟨w.heap.size, 5, none⟩) s1).trans (K1.out 5); simp at x5
  have x6 := (HBW.out.cell (p := ⟨w.heap.size, 6, none⟩) s1).trans (K1.out 6); simp at x6
  have x7 := (HBW.out.cell (p := ⟨w.heap.size, 7, none⟩) s1).trans (K1.out 7); simp at x7
  have x8 := (HBW.out.cell (p := ⟨w.heap.size, 8, none⟩) s1).trans (K1.out 8); simp at x8
  have x9 := (HBW.out.cell (p := ⟨w.heap.size, 9, none⟩) s1).trans (K1.out 9); simp at x9
  have x10 := (HBW.out.cell (p := ⟨w.heap.size, 10, none⟩) s1).trans (K1.out 10); simp at x10
  have y0 := (HBW.out.cell (p := ⟨w.heap.size + 1, 0, none⟩) s2).trans (K2.out 0); simp at y0
  have y1 := (HBW.out.cell (p := ⟨w.heap.size + 1, 1, none⟩) s2).trans (K2.out 1); simp at y1
  have y2 := (HBW.out.cell (p := ⟨w.heap.size + 1, 2, none⟩) s2).trans (K2.out 2); simp at y2
  have y3 := (HBW.out.cell (p := ⟨w.heap.size + 1, 3, none⟩) s2).trans (K2.out 3); simp at y3
  have y4 := (HBW.out.cell (p := ⟨w.heap.size + 1, 4, none⟩) s2).trans (K2.out 4); simp at y4
  have y5 := (HBW.out.cell (p := ⟨w.heap.size + 1, 5, none⟩) s2).trans (K2.out 5); simp at y5
  have y6 := (HBW.out.cell (p := ⟨w.heap.size + 1, 6, none⟩) s2).trans (K2.out 6); simp at y6
  have y7 := (HBW.out.cell (p := ⟨w.heap.size + 1, 7, none⟩) s2).trans (K2.out 7); simp at y7
  have y8 := (HBW.out.cell (p := ⟨w.heap.size + 1, 8, none⟩) s2).trans (K2.out 8); simp at y8
  have y9 := (HBW.out.cell (p := ⟨w.heap.size + 1, 9, none⟩) s2).trans (K2.out 9); simp at y9
  have y10 := (HBW.out.cell (p := ⟨w.heap.size + 1, 10, none⟩) s2).trans (K2.out 10); simp at y10
  have q0 := (World.frozen?_of_block (w := w1) (a := ⟨w.heap.size + 1, 0, none⟩) (HBW.out.block (w.heap.size + 1) s2)).trans (G2.out 0)
  have q1 := (World.frozen?_of_block (w := w1) (a := ⟨w.heap.size + 1, 1, none⟩) (HBW.out.block (w.heap.size + 1) s2)).trans (G2.out 1)
  have q2 := (World.frozen?_of_block (w := w1) (a := ⟨w.heap.size + 1, 2, none⟩) (HBW.out.block (w.heap.size + 1) s2)).trans (G2.out 2)
  have q3 := (World.frozen?_of_block (w := w1) (a := ⟨w.heap.size + 1, 3, none⟩) (HBW.out.block (w.heap.size + 1) s2)).trans (G2.out 3)
  have q4 := (World.frozen?_of_block (w := w1) (a := ⟨w.heap.size + 1, 4, none⟩) (HBW.out.block (w.heap.size + 1) s2)).trans (G2.out 4)
  have q5 := (World.frozen?_of_block (w := w1) (a := ⟨w.heap.size + 1, 5, none⟩) (HBW.out.block (w.heap.size + 1) s2)).trans (G2.out 5)
  have q6 := (World.frozen?_of_block (w := w1) (a := ⟨w.heap.size + 1, 6, none⟩) (HBW.out.block (w.heap.size + 1) s2)).trans (G2.out 6)
  have q7 := (World.frozen?_of_block (w := w1) (a := ⟨w.heap.size + 1, 7, none⟩) (HBW.out.block (w.heap.size + 1) s2)).trans (G2.out 7)
  have q8 := (World.frozen?_of_block (w := w1) (a := ⟨w.heap.size + 1, 8, none⟩) (HBW.out.block (w.heap.size + 1) s2)).trans (G2.out 8)
  have q9 := (World.frozen?_of_block (w := w1) (a := ⟨w.heap.size + 1, 9, none⟩) (HBW.out.block (w.heap.size + 1) s2)).trans (G2.out 9)
  have q10 := (World.frozen?_of_block (w := w1) (a := ⟨w.heap.size + 1, 10, none⟩) (HBW.out.block (w.heap.size + 1) s2)).trans (G2.out 10)
  have hbw := HB1.out.trans (HBW.out.mono HB1.out.size)
  have HBX := Lib.hid hbw
  by_cases hlt : t < hs.length
  · have t1 : (t : Int) < (hs.length : Int) := by omega
    obtain ⟨h0, hx0⟩ : ∃ h0, hs[t]? = some h0 := ⟨_, List.getElem?_eq_getElem hlt⟩
    obtain ⟨gb, ob, cb, hv, hgb, hcb⟩ := (HR.out.keep hbw).cells hitL_len hx0
    simp only [Value.slice.injEq, true_and] at hv
    obtain ⟨rfl, rfl⟩ := hv
    have c0 := hcb 0 _ rfl
    have c1 := hcb 1 _ rfl
    have c2 := hcb 2 _ rfl
    have c3 := hcb 3 _ rfl
    simp only [Nat.add_zero] at c0
    obtain ⟨e0, e1, e2⟩ := ltz hgb
    have HX := Lib.hid hx0
    clear hcb hx0 hbw
    obtain ⟨hs', hi, hg, hn⟩ := h0
    simp only at c0 c1 c2 c3
    cases hid : idEq hs' hi hg s i g with
    | true =>
      have hres : zr = hurtF ⟨s, i, g, m, x, y, vx, vy, hp, pw, lf⟩ hn := by
       rw [← HZR.out]
       unfold hitF
       rw [find_at (p := fun h => idEq h.s h.i h.g s i g) HX.out hid HNO.out]
      have HHX := Lib.hid (HH.out hn)
      generalize hurtF ⟨s, i, g, m, x, y, vx, vy, hp, pw, lf⟩ hn = z at *
      subst hres
      go_wp2_with fail
      refine belA (HHX.out _) fun d1 os1 => ?_
      go_wp2_with fail
      have hbx := HBX.out
      exact bodyPost_ret (v := .tuple #[.agg #[int i64 (zr.1).s, int i64 (zr.1).i, int i64 (zr.1).g, int i64 (zr.1).m, int i64 (zr.1).x, int i64 (zr.1).y, int i64 (zr.1).vx, int i64 (zr.1).vy, int i64 (zr.1).hp, int i64 (zr.1).pw, int i64 (zr.1).lf], .bool zr.2]) (by simp [results, Tryz.results99, go_sem, *]) rfl ⟨rfl, bg⟩
    | false =>
      go_wp2_with fail
      go_roundg (hs.length - (t + 1))
      case measure => omega
      case rel => exact ⟨t + 1, by go_num, by omega, by omega, Lib.hid (HBW.out.trans (Below.mono (B := wa.heap.size) bg HBW.out.size)), Lib.hid (fun j y hj hy => by
       by_cases hjt : j = t
       · subst hjt
         obtain rfl := Option.some.inj (HX.out.symm.trans hy)
         exact hid
       · exact HNO.out j y (by omega) hy)⟩
  · have t1 : ¬ (t : Int) < (hs.length : Int) := by omega
    have hres : zr = (⟨s, i, g, m, x, y, vx, vy, hp, pw, lf⟩, true) := by
     rw [← HZR.out]
     unfold hitF
     rw [find_no (p := fun h => idEq h.s h.i h.g s i g) fun j y hj hy => HNO.out j y (by omega) hy]
    subst hres
    clear hbw
    go_wp2_with fail
    have hbx := HBX.out
    exact bodyPost_ret (v := .tuple #[.agg #[int i64 s, int i64 i, int i64 g, int i64 m, int i64 x, int i64 y, int i64 vx, int i64 vy, int i64 hp, int i64 pw, int i64 lf], .bool true]) (by simp [results, Tryz.results99, go_sem, *]) rfl ⟨rfl, bg⟩
section
def eachL (f : Bun → Bun × Bool) (l : List Bun) : List Bun := (l.filter fun x => (f x).2).map fun x => (f x).1
def eachD (f : Bun → Bun × Bool) (l : List Bun) : List Nid := (l.filter fun x => !(f x).2).map idOf
theorem eachL_step (f : Bun → Bun × Bool) {l : List Bun} {t : Nat} {x : Bun} (h : l[t]? = some x) : eachL f (l.take (t + 1)) = eachL f (l.take t) ++ (if (f x).2 then [(f x).1] else []) := by
 unfold eachL
 rw [filter_step2 _ h, List.map_append]
 congr 1
 split <;> simp
theorem eachD_step (f : Bun → Bun × Bool) {l : List Bun} {t : Nat} {x : Bun} (h : l[t]? = some x) : eachD f (l.take (t + 1)) = eachD f (l.take t) ++ (if (f x).2 then [] else [idOf x]) := by
 unfold eachD
 rw [filter_step2 _ h, List.map_append]
 congr 1
 cases (f x).2 <;> simp
theorem eachL_le (f : Bun → Bun × Bool) (l : List Bun) (t : Nat) : (eachL f (l.take t)).length ≤ t := by
 unfold eachL
 have := List.length_filter_le (fun x => (f x).2) (l.take t)
 rw [List.length_take] at this
 simp; omega
theorem eachD_le (f : Bun → Bun × Bool) (l : List Bun) (t : Nat) : (eachD f (l.take t)).length ≤ t := by
 unfold eachD
 have := List.length_filter_le (fun x => !(f x).2) (l.take t)
 rw [List.length_take] at this
 simp only [List.length_map]; omega
structure Ea (w wr : World) (b : Nat) (m lv ov gv dv0 left : Value) (ll : List Bun) (dv : Value) (dd : List Nid) : Prop where
 st : StB wr b m lv ov gv dv
 sl : Sl wr 32 11 left ll.length (bunCells ll)
 sd : Sl wr 30 3 dv dd.length (cellsR nidL dd)
 tu : Tu2 w wr b dv0.ownBlock
 ol : ∀ g, left.ownBlock = some g → w.heap.size ≤ g
 od : dv.ownBlock = dv0.ownBlock ∨ ∃ g, dv.ownBlock = some g ∧ w.heap.size ≤ g
 ld : ∀ g, left.ownBlock = some g → dv.ownBlock ≠ some g
variable {w wr : World} {b : Nat} {m lv ov gv dv0 left : Value} {ll : List Bun} {dv : Value} {dd : List Nid}
theorem Ea.odb (h : Ea w wr b m lv ov gv dv0 left ll dv dd) (hb : b < w.heap.size) (h0 : dv0.ownBlock ≠ some b) : dv.ownBlock ≠ some b := fun e => by
 rcases h.od with h1 | ⟨g, h1, h2⟩
 · exact h0 (h1.symm.trans e)
 · rw [h1] at e; cases e; omega
theorem Ea.bel {w' : World} (h : Ea w wr b m lv ov gv dv0 left ll dv dd) (hb : Below wr.heap.size wr w') : Ea w w' b m lv ov gv dv0 left ll dv dd :=
 ⟨h.st.keep (hb.block b h.st.lt), h.sl.grow hb, h.sd.grow hb, h.tu.bel hb, h.ol, h.od, h.ld⟩
theorem Ea.app {w' : World} {left' : Value} {x : Bun} (h : Ea w wr b m lv ov gv dv0 left ll dv dd) (hb : b < w.heap.size) (hs : Sl w' 32 11 left' (ll.length + 1) (bunCells ll ++ bunL x)) (ht : Turned wr w' left.ownBlock)
 (ho : left'.ownBlock = left.ownBlock ∨ ∃ g, left'.ownBlock = some g ∧ wr.heap.size ≤ g) : Ea w w' b m lv ov gv dv0 left' (ll ++ [x]) dv dd := by
 refine ⟨h.st.keep (ht.block b h.st.lt fun e => by have := h.ol b e.symm; omega), ?_, h.sd.keep fun g hg => ht.block g (sl_lt h.sd hg) fun e => h.ld g e.symm hg, h.tu.tur ht fun g hg => .inr (.inr (h.ol g hg)), fun g hg => ?_, h.od, fun g hg => ?_⟩
 · rw [bunCells_app, show bunCells [x] = bunL x by simp [bunCells]]; simpa using hs
 · rcases ho with e | ⟨g', e, hg'⟩
   · exact h.ol g (e ▸ hg)
   · rw [e] at hg; cases hg; exact Nat.le_trans h.tu.size hg'
 · rcases ho with e | ⟨g', e, hg'⟩
   · exact h.ld g (e ▸ hg)
   · rw [e] at hg; cases hg
     intro e2; have := sl_lt h.sd e2; omega
theorem Ea.die {w1 : World} {g off cap : Nat} {x : Bun} (h : Ea w wr b m lv ov gv dv0 left ll dv dd) (hb : b < w.heap.size) (h0 : dv0.ownBlock ≠ some b) (hs : Sl w1 30 3 (.slice (some ⟨g, off, none⟩) (dd.length + 1) cap) (dd.length + 1) (cellsR nidL dd ++ nidL (idOf x))) (ht : Turned wr w1 dv.ownBlock)
 (ho : dv.ownBlock = some g ∨ wr.heap.size ≤ g) : Ea w (w1.setCell ⟨b, 4, none⟩ (.slice (some ⟨g, off, none⟩) (dd.length + 1) cap)) b m lv ov gv dv0 left ll (.slice (some ⟨g, off, none⟩) (dd.length + 1) cap) (dd ++ [idOf x]) := by
 have hob := h.odb hb h0
 have hgb : g ≠ b := by
  rcases ho with e | e
  · intro e2; exact hob (e2 ▸ e)
  · have := h.st.lt; omega
 have st1 : StB w1 b m lv ov gv dv := h.st.keep (ht.block b h.st.lt fun e => hob e.symm)
 obtain ⟨q1, q2⟩ := StB.store (u := 4) (by omega) rfl (.slice (some ⟨g, off, none⟩) (dd.length + 1) cap) st1.c st1.f
 have hk : ∀ k, k ≠ b → (w1.setCell ⟨b, 4, none⟩ (.slice (some ⟨g, off, none⟩) (dd.length + 1) cap)).heap[k]? = w1.heap[k]? := fun k hk => Below.heap_setCell _ _ _ _ (fun e => hk e)
 have hlb : ∀ k, left.ownBlock = some k → k ≠ b := fun k hk e => by have := h.ol k hk; omega
 refine ⟨⟨q1, q2⟩, h.sl.keep fun k hl => (hk k (hlb k hl)).trans (ht.block k (sl_lt h.sl hl) fun e => h.ld k hl e.symm), ?_, (h.tu.tur ht fun k hk => ?_).tur (setCells_turned b [_] 4 w1) fun k hk => ?_, h.ol, ?_, fun k hl => ?_⟩
 · rw [cellsR_app, cellsR_one, List.length_append]
   exact hs.keep fun k hg => hk k (by simp [Value.ownBlock] at hg; omega)
 · rcases h.od with e | ⟨g', e, hg'⟩
   · exact .inl (e ▸ hk.symm)
   · rw [e] at hk; cases hk; exact .inr (.inr hg')
 · cases hk; exact .inr (.inl rfl)
 · rcases ho with e | e
   · rcases h.od with e1 | ⟨g', e1, hg'⟩
     · exact .inl (by rw [← e1, e]; rfl)
     · exact .inr ⟨g, rfl, by rw [e1] at e; cases e; exact hg'⟩
   · exact .inr ⟨g, rfl, Nat.le_trans h.tu.size e⟩
 · intro e2
   simp [Value.ownBlock] at e2
   subst e2
   rcases ho with e | e
   · exact h.ld g hl e
   · have := sl_lt h.sl hl; omega
theorem Ea.fin (h : Ea w wr b m lv ov gv dv0 left ll dv dd) (hb : b < w.heap.size) (h0 : dv0.ownBlock ≠ some b) : Ea w (wr.setCell ⟨b, 1, none⟩ left) b m left ov gv dv0 left ll dv dd := by
 have hob := h.odb hb h0
 obtain ⟨q1, q2⟩ := StB.store (u := 1) (by omega) rfl left h.st.c h.st.f
 have hk : ∀ k, k ≠ b → (wr.setCell ⟨b, 1, none⟩ left).heap[k]? = wr.heap[k]? := fun k hk => Below.heap_setCell _ _ _ _ (fun e => hk e)
 exact ⟨⟨q1, q2⟩, h.sl.keep fun k hl => hk k fun e => by have := h.ol k hl; omega, h.sd.keep fun k hg => hk k fun e => hob (e ▸ hg), h.tu.tur (setCells_turned b [_] 1 wr) fun k hk => by cases hk; exact .inr (.inl rfl), h.ol, h.od, h.ld⟩
theorem Ea.start {w : World} {b : Nat} {m lv ov gv dv : Value} {dead : List Nid} (hst : StB w b m lv ov gv dv) (hd : Sl w 30 3 dv dead.length (cellsR nidL dead)) : Ea w w b m lv ov gv dv (.slice none 0 0) [] dv dead :=
 ⟨hst, ⟨rfl, .inl ⟨rfl, rfl⟩⟩, hd, Tu2.refl _ _ _, (fun g hg => by cases hg), .inl rfl, (fun g hg => by cases hg)⟩
theorem each_any (F : Nat) (caps : Array Value) (eg : ∀ args w, (callFunc F args).run prog w = .ok (.enter F args) w) (f : Bun → Bun × Bool) (b : Nat) (m lv ov gv dv : Value) (l : List Bun) (dead : List Nid) (w : World)
 (hst : StB w b m lv ov gv dv) (hl : Sl w 32 11 lv l.length (bunCells l)) (hlb : lv.ownBlock ≠ some b) (hd : Sl w 30 3 dv dead.length (cellsR nidL dead)) (hdb : dv.ownBlock ≠ some b) (hld : ∀ g, lv.ownBlock = some g → dv.ownBlock ≠ some g)
 (hn : l.length ≤ 1000) (hdn : dead.length ≤ 1000000)
 (hc : ∀ W', Tu2 w W' b dv.ownBlock → ∀ x ∈ l, Calls prog F (#[.agg #[int i64 (x).s, int i64 (x).i, int i64 (x).g, int i64 (x).m, int i64 (x).x, int i64 (x).y, int i64 (x).vx, int i64 (x).vy, int i64 (x).hp, int i64 (x).pw, int i64 (x).lf]] ++ caps) W' fun e w' => e = .returned (.tuple #[.agg #[int i64 ((f x).1).s, int i64 ((f x).1).i, int i64 ((f x).1).g, int i64 ((f x).1).m, int i64 ((f x).1).x, int i64 ((f x).1).y, int i64 ((f x).1).vx, int i64 ((f x).1).vy, int i64 ((f x).1).hp, int i64 ((f x).1).pw, int i64 ((f x).1).lf], .bool (f x).2]) ∧ Below W'.heap.size W' w') :
 Calls prog 98 #[.pointer (some ⟨b, 0, none⟩), .func (.func F) #[] caps] w fun e w' => e = .returned (.tuple #[]) ∧ ∃ lv' dv', Ea w w' b m lv' ov gv dv lv' (eachL f l) dv' (dead ++ eachD f l) := by
 obtain ⟨i0, hi0, hz0, hz1, hz2⟩ := info_parts info_bunJ
 obtain ⟨j0, hj0, hy0, hy1, hy2⟩ := info_partsG info_nid
 have hb := hst.lt
 have hbw0 := hb
 have hE := Ea.start hst hd
 have HL := hid hl
 have HC := hid hc
 have HLB := hid hlb; have HLD := hid hld; have HDB := hid hdb
 have HE0 := hid hE
 have x1 := hst.c 1
 simp at x1
 obtain ⟨pl, cl, rfl⟩ := sl_frm hl
 obtain ⟨u0, u1, u2⟩ := ltz hb
 clear hl hc hlb hld hdb hd hst hE
 go_enter Tryz.func98, Tryz.ntmps98
 go_wp2_with fail
 go_loopg [4, 14] l.length (fun kx sl sx wr => ∃ (t : Nat) (dv' : Value), sx = int i64 t ∧ t ≤ l.length ∧ l.length - t ≤ kx ∧ Hid (Ea w wr b m (.slice pl l.length cl) ov gv dv sl (eachL f (l.take t)) dv' (dead ++ eachD f (l.take t))))
 case atStart => exact ⟨0, dv, by go_num, by omega, by omega, hid (by simpa [eachL, eachD] using HE0.out)⟩
 case round =>
  clear HE0 x1 u0 u1 u2
  obtain ⟨t, dv', rfl, ht, hkx, HE⟩ := hrel
  obtain ⟨wa, rfl⟩ : ∃ wa : World, wa = wr := ⟨_, rfl⟩
  have hba : b < wa.heap.size := HE.out.st.lt
  obtain ⟨u0, u1, u2⟩ := ltz hba
  have hll := eachL_le f l t
  have hdl := eachD_le f l t
  obtain ⟨po, co, hpo⟩ := sl_frm HE.out.sl
  subst hpo
  by_cases hlt : t < l.length
  · have t1 : (t : Int) < (l.length : Int) := by omega
    obtain ⟨x0, hx0⟩ : ∃ x0, l[t]? = some x0 := ⟨_, List.getElem?_eq_getElem hlt⟩
    have hlw : Sl wa 32 11 (.slice pl l.length cl) l.length (bunCells l) := HL.out.keep fun g hg => HE.out.tu.block g (sl_lt HL.out hg) (fun e => HLB.out (e ▸ hg)) (fun e => HLD.out g hg e.symm)
    obtain ⟨gb, ob, cb, hv, hgb, hcb⟩ := (BIn.of_sl hlw).cells hx0
    simp only [Value.slice.injEq, true_and] at hv
    obtain ⟨rfl, rfl⟩ := hv
    have c0 := hcb 0 _ rfl
    have c1 := hcb 1 _ rfl
    have c2 := hcb 2 _ rfl
    have c3 := hcb 3 _ rfl
    have c4 := hcb 4 _ rfl
    have c5 := hcb 5 _ rfl
    have c6 := hcb 6 _ rfl
    have c7 := hcb 7 _ rfl
    have c8 := hcb 8 _ rfl
    have c9 := hcb 9 _ rfl
    have c10 := hcb 10 _ rfl
    simp only [Nat.add_zero] at c0
    have h1 := eachL_step f hx0
    have h2 := eachD_step f hx0
    have HCX := hid (fun W' (hW : Tu2 w W' b dv.ownBlock) => HC.out W' hW x0 (List.mem_of_getElem? hx0))
    obtain ⟨e0, e1', e2'⟩ := ltz hgb
    clear hcb hx0 hlw
    have HF := hid (rfl : f x0 = f x0)
    generalize hfx : f x0 = r at HCX h1 h2
    have HF := hid hfx
    clear hfx
    have HS1 := hid h1; have HS2 := hid h2
    clear h1 h2
    generalize eachL f (l.take t) = la at *
    generalize eachD f (l.take t) = da at *
    obtain ⟨⟨s', i', g', m', x', y', vx', vy', hp', pw', lf'⟩, ok⟩ := r
    obtain ⟨s, i, g, m, x, y, vx, vy, hp, pw, lf⟩ := x0
    simp only at HCX HS1 HS2
    cases ok with
    | true =>
      simp only [if_true, List.append_nil] at HS1 HS2
      go_wp2_with (first | (go_at_fn F; refine (HCX.out _ (HE.out.tu.bel bg)).mono ?_; rintro e w' ⟨rfl, hb'⟩; obtain ⟨d1, os1, rfl⟩ := more_of hb'; clear hb') | (at_builtin; refine wpList_append_sl _ (by rfl) _ _ 37 (by rfl) 32 i0 _ 11 88 Tryz.underlying37 hi0 hz0 hz1 hz2 rfl (by omega) _ la.length (bunCells la) (by rfl) (HE.out.bel bg).sl ⟨_, 0, none⟩ 1 1 (bunL ⟨s', i', g', m', x', y', vx', vy', hp', pw', lf'⟩) (by rfl) (by rfl) (new_cellsN _ _ _ _ (by simp)) (bunL_one _) (by omega) (by unfold maxLen; omega) (by omega) ?_; intro v' w4 hs4 ht4 ho4; have hE4 := (HE.out.bel bg).app hbw0 hs4 ht4 ho4; clear hs4 ht4 ho4))
      go_roundg (l.length - (t + 1))
      case measure => omega
      case rel => exact ⟨t + 1, _, by go_num, by omega, by omega, hid (by rw [HS1.out, HS2.out]; exact hE4)⟩
    | false =>
      simp only [Bool.false_eq_true, if_false, List.append_nil] at HS1 HS2
      go_upto_region 7 with (go_at_fn F; refine (HCX.out _ (HE.out.tu.bel bg)).mono ?_; rintro e w' ⟨rfl, hb'⟩; obtain ⟨d1, os1, rfl⟩ := more_of hb'; clear hb')
      generalize hw2 : World.alloc (more _ _ _) _ = w2
      have hb2 : Below wa.heap.size wa w2 := by rw [← hw2]; exact bg
      have k6 : ∀ u, w2.cell? ⟨wa.heap.size, u, none⟩ = (#[int i64 s, int i64 i, int i64 g, int i64 m, int i64 x, int i64 y, int i64 vx, int i64 vy, int i64 hp, int i64 pw, int i64 lf] : Array Value)[u]? := fun u => by
       rw [← hw2, Below.cell (B := wa.heap.size + 1) (w := wa.alloc (.cells #[int i64 s, int i64 i, int i64 g, int i64 m, int i64 x, int i64 y, int i64 vx, int i64 vy, int i64 hp, int i64 pw, int i64 lf] 32)) bg (by simp)]; simp
      have s6 : wa.heap.size < w2.heap.size := by rw [← hw2]; simp; omega
      have hE2 := HE.out.bel hb2
      have hb2w : b < w2.heap.size := by omega
      have y6 := k6 0; have y7 := k6 1; have y8 := k6 2
      simp at y6 y7 y8
      have x4 := hE2.st.c 4
      simp at x4
      have f4 := hE2.st.f 4
      have hob := hE2.odb hbw0 HDB.out
      have hon : dv'.ownBlock ≠ some wa.heap.size := fun e => by have := sl_lt HE.out.sd e; omega
      generalize wa.heap.size = n6 at *
      have HE2 := hid hE2
      clear hw2 hb2 k6 hE2 c0 c1 c2 c3 c4 c5 c6 c7 c8 c9 c10 e0 e1' e2' u0 u1 u2
      obtain ⟨pd, cd, rfl⟩ := sl_frm HE2.out.sd
      have hdl2 : (dead ++ da).length ≤ 1002000 := by simp; omega
      have HS3 := hid (show dead ++ eachD f (l.take (t + 1)) = (dead ++ da) ++ [idOf ⟨s, i, g, m, x, y, vx, vy, hp, pw, lf⟩] by rw [HS2.out, List.append_assoc])
      clear HS2
      generalize dead ++ da = dd at *
      refine wp_region_x (S := Two w2 b n6) 13 (by kernel_rfl) (Two.drew (Two.refl _ _ _)) (fun hHeld => ?_)
      refine anyX_tk 0 (v := ?_) rfl ?_ (by assumption) ?_
      rotate_left 1
      · (intro w hSw; have hSc := hSw.cb; have hSn := hSw.cn; go_simp; (try with_reducible rfl))
      simp [Act.put]
      refine anyX_tk 1 (v := ?_) rfl ?_ (by assumption) ?_
      rotate_left 1
      · (intro w hSw; have hSc := hSw.cb; have hSn := hSw.cn; go_simp; (try with_reducible rfl))
      simp [Act.put]
      refine anyX_tk 2 (v := ?_) rfl ?_ (by assumption) ?_
      rotate_left 1
      · (intro w hSw; have hSc := hSw.cb; have hSn := hSw.cn; go_simp; (try with_reducible rfl))
      simp [Act.put]
      refine anyX_tk 3 (v := ?_) rfl ?_ (by assumption) ?_
      rotate_left 1
      · (intro w hSw; have hSc := hSw.cb; have hSn := hSw.cn; go_simp; (try with_reducible rfl))
      simp [Act.put]
      refine anyX_tk 4 (v := ?_) rfl ?_ (by assumption) ?_
      rotate_left 1
      · (intro w hSw; have hSc := hSw.cb; have hSn := hSw.cn; go_simp; (try with_reducible rfl))
      simp [Act.put]
      refine anyX_tk 5 (v := ?_) rfl ?_ (by assumption) ?_
      rotate_left 1
      · (intro w hSw; have hSc := hSw.cb; have hSn := hSw.cn; go_simp; (try with_reducible rfl))
      simp [Act.put]
      refine anyX_tk 6 (v := ?_) rfl ?_ (by assumption) ?_
      rotate_left 1
      · (intro w hSw; have hSc := hSw.cb; have hSn := hSw.cn; go_simp; (try with_reducible rfl))
      simp [Act.put]
      refine anyX_tk 7 (v := ?_) rfl ?_ (by assumption) ?_
      rotate_left 1
      · (intro w hSw; have hSc := hSw.cb; have hSn := hSw.cn; go_simp; (try with_reducible rfl))
      simp [Act.put]
      refine anyX_r1 8 fun K hK => ?_
      go_simp
      refine hK.out _ _ (fun hlt => ?_) (fun hHeld => ?_)
      · with_reducible (repeat (first | assumption | exact Two.refl _ _ _ | refine Two.alloc (by assumption) (by assumption) _ ?_ | refine Two.drew ?_))
      clear hK
      replace hHeld := hHeld (by omega); try simp [Act.put]
      refine anyX_r1 9 fun K hK => ?_
      (refine step_append_sl _ (by rfl) (.tmp 34) (.tmp 37) 56 (by rfl) 30 j0 _ 3 24 Tryz.underlying56 hj0 hy0 hy1 hy2 rfl (by omega) _ dd.length (cellsR nidL dd) (by rfl) (HE2.out.bel bg).sd ⟨_, 0, none⟩ 1 1 (nidL ⟨s, i, g⟩) (by rfl) (by rfl) (new_cellsN _ _ _ _ (by simp)) (nidL_one _) (by omega) (by unfold maxLen; omega) (by omega) ?_; intro g4 off4 cap4 w4 hs4 ht4 ho4)
      refine hK.out _ _ (fun hlt => ?_) (fun hHeld => ?_)
      · exact Two.tur hb2w s6 (fun e => hob e.symm) (fun e => hon e.symm) (by with_reducible (repeat (first | assumption | exact Two.refl _ _ _ | refine Two.alloc (by assumption) (by assumption) _ ?_ | refine Two.drew ?_))) ht4
      clear hK
      replace hHeld := hHeld (by omega); try simp [Act.put]
      refine anyX_tk 10 (v := ?_) rfl ?_ (by assumption) ?_
      rotate_left 1
      · (intro w hSw; have hSc := hSw.cb; have hSn := hSw.cn; go_simp; (try with_reducible rfl))
      simp [Act.put]
      refine anyX_tk 11 (v := ?_) rfl ?_ (by assumption) ?_
      rotate_left 1
      · (intro w hSw; have hSc := hSw.cb; have hSn := hSw.cn; go_simp; (try with_reducible rfl))
      simp [Act.put]
      refine anyX_tk 12 (v := ?_) rfl ?_ (by assumption) ?_
      rotate_left 1
      · (intro w hSw; have hSc := hSw.cb; have hSn := hSw.cn; go_simp; (try with_reducible rfl))
      simp [Act.put]
      have hq4 := (hHeld.cb 4).trans x4
      have hf4 := (hHeld.fb 4).trans f4
      refine anyX_r1 13 fun K hK => ?_
      go_simp
      refine hK.out _ _ (fun hlt => ?_) (fun hHeld => ?_)
      · exact absurd hlt (by omega)
      clear hK
      clear hHeld; try simp [Act.put]
      refine anyX_done (by kernel_rfl) ?_ _
      go_wp2_with fail
      go_roundg (l.length - (t + 1))
      case measure => omega
      case rel => exact ⟨t + 1, _, by go_num, by omega, by omega, hid (by rw [HS1.out, HS3.out]; exact (HE2.out.bel bg).die hbw0 HDB.out hs4 ht4 ho4)⟩
  · have t1 : ¬ (t : Int) < (l.length : Int) := by omega
    obtain rfl : t = l.length := by omega
    rw [List.take_length] at HE
    have f1 := HE.out.st.f 1
    have x1 := HE.out.st.c 1
    simp at x1
    go_wp2_with fail
    go_end0
    exact ⟨rfl, _, _, HE.out.fin hbw0 HDB.out⟩
end
def insF (l : List Bun) (i : Nat) (b : Bun) : List Bun := l.take i ++ b :: l.drop i
theorem findB_rng (s i g : Int) : ∀ (l : List Bun) (k : Nat), ∃ q : Nat, (findB s i g l k).1 = (q : Int) ∧ k ≤ q ∧ q ≤ k + l.length
 | [], k => ⟨k, rfl, by omega, by simp⟩
 | b :: l, k => by
   unfold findB
   split
   · exact ⟨k, rfl, by omega, by omega⟩
   · obtain ⟨q, h1, h2, h3⟩ := findB_rng s i g l (k + 1)
     exact ⟨q, h1, by omega, by simp only [List.length_cons]; omega⟩
def spawnB (c : Cfg) (z : Int) (l : List Bun) (m : Cm) : Bool :=
 !(findB m.b.s m.b.i m.b.g l 0).2 && decide (0 ≤ ofF c m.b.x m.b.y) && (decide (z < 0) || decide (ofF c m.b.x m.b.y = z))
def cmdL (c : Cfg) (z : Int) (l : List Bun) (m : Cm) : List Bun :=
 if m.k = 1 then (if spawnB c z l m then insF l (findB m.b.s m.b.i m.b.g l 0).1.toNat m.b else l) else eachL (fun b => obeyF b m) l
def cmdN (l : List Bun) (m : Cm) : List Nid := if m.k = 1 then [] else eachD (fun b => obeyF b m) l
def cmdsL (c : Cfg) (z : Int) : List Bun → List Cm → List Bun
 | l, [] => l
 | l, m :: ms => cmdsL c z (cmdL c z l m) ms
def cmdsN (c : Cfg) (z : Int) : List Bun → List Cm → List Nid
 | _, [] => []
 | l, m :: ms => cmdN l m ++ cmdsN c z (cmdL c z l m) ms
theorem cmdsL_app (c : Cfg) (z : Int) : ∀ (a b : List Cm) (l : List Bun), cmdsL c z l (a ++ b) = cmdsL c z (cmdsL c z l a) b
 | [], _, _ => rfl
 | _ :: a, b, _ => cmdsL_app c z a b _
theorem cmdsN_app (c : Cfg) (z : Int) : ∀ (a b : List Cm) (l : List Bun), cmdsN c z l (a ++ b) = cmdsN c z l a ++ cmdsN c z (cmdsL c z l a) b
 | [], _, _ => rfl
 | m :: a, b, l => by
   show cmdN l m ++ cmdsN c z (cmdL c z l m) (a ++ b) = _
   rw [cmdsN_app c z a b]
   exact (List.append_assoc _ _ _).symm
theorem cmdsL_step (c : Cfg) (z : Int) (l : List Bun) {ms : List Cm} {t : Nat} {m : Cm} (h : ms[t]? = some m) : cmdsL c z l (ms.take (t + 1)) = cmdL c z (cmdsL c z l (ms.take t)) m := by
 have hlt := (List.getElem?_eq_some_iff.1 h).1
 rw [List.take_succ_eq_append_getElem hlt, (List.getElem?_eq_some_iff.1 h).2, cmdsL_app]; rfl
theorem cmdsN_step (c : Cfg) (z : Int) (l : List Bun) {ms : List Cm} {t : Nat} {m : Cm} (h : ms[t]? = some m) : cmdsN c z l (ms.take (t + 1)) = cmdsN c z l (ms.take t) ++ cmdN (cmdsL c z l (ms.take t)) m := by
 have hlt := (List.getElem?_eq_some_iff.1 h).1
 rw [List.take_succ_eq_append_getElem hlt, (List.getElem?_eq_some_iff.1 h).2, cmdsN_app]
 simp [cmdsN]
theorem eachL_len (f : Bun → Bun × Bool) (l : List Bun) : (eachL f l).length ≤ l.length := by
 have := eachL_le f l l.length
 rwa [List.take_length] at this
theorem cmdL_len (c : Cfg) (z : Int) (l : List Bun) (m : Cm) : (cmdL c z l m).length ≤ l.length + 1 := by
 unfold cmdL
 split
 · split
   · unfold insF
     simp only [List.length_append, List.length_take, List.length_cons, List.length_drop]; omega
   · omega
 · have := eachL_len (fun b => obeyF b m) l; omega
theorem cmdsL_len (c : Cfg) (z : Int) : ∀ (ms : List Cm) (l : List Bun), (cmdsL c z l ms).length ≤ l.length + ms.length
 | [], l => by simp [cmdsL]
 | m :: ms, l => by
   have h1 := cmdsL_len c z ms (cmdL c z l m)
   have h2 := cmdL_len c z l m
   show (cmdsL c z (cmdL c z l m) ms).length ≤ _
   simp only [List.length_cons]; omega
theorem eachD_len (f : Bun → Bun × Bool) (l : List Bun) : (eachD f l).length ≤ l.length := by
 have := eachD_le f l l.length
 rwa [List.take_length] at this
def hurtL (r : Int) (own near : List Bun) : List Bun := eachL (hitF (hitsF r own near)) (stableF cmpBun own)
def hurtN (r : Int) (own near : List Bun) : List Nid := eachD (hitF (hitsF r own near)) (stableF cmpBun own)
def midL (c : Cfg) (z : Int) (own near : List Bun) (ms : List Cm) : List Bun := cmdsL c z (hurtL c.radius own near) ms
def leftL (c : Cfg) (z : Int) (own near : List Bun) (ms : List Cm) : List Bun := eachL (passF c) (midL c z own near ms)
def inZ (c : Cfg) (z : Int) (b : Bun) : Bool := decide (z < 0) || decide (ofF c b.x b.y = z)
def ownL (c : Cfg) (z : Int) (own near : List Bun) (ms : List Cm) : List Bun := (leftL c z own near ms).filter (inZ c z)
def goneL (c : Cfg) (z : Int) (own near : List Bun) (ms : List Cm) : List Bun := (leftL c z own near ms).filter fun b => !inZ c z b
def deadN (c : Cfg) (z : Int) (own near : List Bun) (ms : List Cm) : List Nid := hurtN c.radius own near ++ cmdsN c z (hurtL c.radius own near) ms ++ eachD (passF c) (midL c z own near ms)
def RIb {β : Type} (enc : β → List Value) (w : World) (v : Value) (l : List β) : Prop := RIn enc w v l ∧ (∀ g, v.ownBlock = some g → g < w.heap.size) ∧ (v = .slice none 0 0 ∨ ∃ blk off n cap, v = .slice (some ⟨blk, off, none⟩) n cap)
theorem RIb.of_sl {β : Type} {enc : β → List Value} {T : TypeId} {size : Nat} {w : World} {v : Value} {l : List β} (h : Sl w T size v l.length (cellsR enc l)) : RIb enc w v l := ⟨RIn.of_sl h, fun _ hg => sl_lt h hg, by
 obtain ⟨_, ⟨rfl, _⟩ | ⟨g, off, cap, cur, rfl, _⟩⟩ := h
 · exact .inl rfl
 · exact .inr ⟨g, off, _, cap, rfl⟩⟩
theorem RIb.keep {β : Type} {enc : β → List Value} {w w' : World} {v : Value} {l : List β} (h : RIb enc w v l) (hb : Below w.heap.size w w') : RIb enc w' v l := ⟨h.1.keep hb, fun g hg => Nat.lt_of_lt_of_le (h.2.1 g hg) hb.size, h.2.2⟩
theorem RIb.block {β : Type} {enc : β → List Value} {w w' : World} {v : Value} {l : List β} (h : RIb enc w v l) (hs : w.heap.size ≤ w'.heap.size) (hk : ∀ g, v.ownBlock = some g → w'.heap[g]? = w.heap[g]?) : RIb enc w' v l := by
 obtain ⟨⟨p, cap, rfl, h1, h2, h3, h4⟩, h5, h8⟩ := h
 refine ⟨⟨p, cap, rfl, h1, h2, h3, fun hn => ?_⟩, fun g hg => Nat.lt_of_lt_of_le (h5 g hg) hs, h8⟩
 obtain ⟨blk, off, rfl, h6, h7⟩ := h4 hn
 exact ⟨blk, off, rfl, Nat.lt_of_lt_of_le h6 hs, fun t u hu => (World.cell?_of_block (w := w) (a := ⟨blk, off + t, none⟩) (hk blk rfl)).trans (h7 t u hu)⟩
theorem RIb.turned {β : Type} {enc : β → List Value} {w w' : World} {v : Value} {l : List β} {o : Option Nat} (h : RIb enc w v l) (ht : Turned w w' o) (hn : ∀ g, v.ownBlock = some g → o ≠ some g) : RIb enc w' v l :=
 h.block ht.size fun g hg => ht.block g (h.2.1 g hg) fun e => hn g hg e.symm
def OrNew (w : World) (v v' : Value) : Prop := v' = v ∨ ∀ g, v'.ownBlock = some g → w.heap.size ≤ g
section
open Go.Sort
theorem stF_perm (l : List Bun) : (stableF cmpBun l).Perm l := by
 unfold stableF
 have h := (List.mergeSort_perm l.zipIdx fun x y => !ltT cmpBun y x).map fun x => x.1
 have e : l.zipIdx.map (fun x => x.1) = l := by simp
 exact h.trans (List.Perm.of_eq e)
def sameId (a b : Bun) : Prop := a.s = b.s ∧ a.i = b.i ∧ a.g = b.g
def UnId (l : List Bun) : Prop := l.Pairwise fun a b => ¬ sameId a b
theorem UnId.perm {l l' : List Bun} (h : UnId l) (hp : l.Perm l') : UnId l' := List.Pairwise.perm h hp fun {_ _} hn hs => hn ⟨hs.1.symm, hs.2.1.symm, hs.2.2.symm⟩
theorem stF_pair (l : List Bun) : (stableF cmpBun l).Pairwise fun a b => bef b a = false := by rw [← rSort_stable]; exact rSort_pair l
theorem bef_anti {a b : Bun} (h1 : bef b a = false) (h2 : bef a b = false) : sameId a b := by
 rw [bef_cmp, decide_eq_false_iff_not] at h1 h2
 have hn := cmpBun_ok.neg b a
 exact (cmpId_zero _ _ _ _ _ _).1 (by unfold cmpBun at *; omega)
theorem stF_rise {l : List Bun} (hu : UnId l) : (stableF cmpBun l).Pairwise fun a b => bef a b = true := by
 have h1 := stF_pair l
 have h2 := hu.perm (stF_perm l).symm
 refine (h1.and h2).imp fun {a b} h => ?_
 cases hb : bef a b with
 | true => rfl
 | false => exact absurd (bef_anti h.1 hb) h.2
end
end Go.Proofs.YtoimjjhopljdmaaGreat
