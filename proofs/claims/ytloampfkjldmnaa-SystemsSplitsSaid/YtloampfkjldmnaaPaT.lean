/-
  Walks of the reference of chapter 9: May, MayCmd, With, Without. Each function computes its plain twin; new memory alone is written. Condition: masks are ints (64 bits).
-/
import Derived.Test.YtloampfkjldmnaaPaS
namespace Go.Proofs.Ytloampfkjldmnaa
open Go.RowKit

set_option maxHeartbeats 2000000 in
theorem rMay_any (s i g m x y vx vy hp pw lf : Int) (w : World) (hm0 : -9223372036854775808 ≤ m) (hm1 : m ≤ 9223372036854775807) :
    Calls Try.prog 32 #[.agg #[.int .i64 s, .int .i64 i, .int .i64 g, .int .i64 m, .int .i64 x, .int .i64 y, .int .i64 vx, .int .i64 vy, .int .i64 hp, .int .i64 pw, .int .i64 lf]] w fun e w' => e = .returned (.bool (rMayB ⟨s, i, g, m, x, y, vx, vy, hp, pw, lf⟩)) ∧ Below w.heap.size w w' := by
  generalize hr : rMayB _ = r
  unfold rMayB at hr
  dsimp only at hr
  have HR := Lib.hid hr
  clear hr
  go_enter Try.func32, Try.ntmps32
  go_wp2_with (first
    | (go_at_call 56; refine (rRightID_any _ _ _ _).mono ?_; rintro e w1 ⟨rfl, hb⟩; obtain ⟨⟨hB1, hs1, hl1⟩, hc1⟩ := box_keep hb (box_new0 w _ _); clear hb)
    | (go_at_call 57; refine (rRight_any _ _ _ _ _ _ _ _ _ _ _ _ (by omega) (by omega)).mono ?_; rintro e w2 ⟨rfl, hb⟩; obtain ⟨⟨hB2, hs2, hl2⟩, hc2⟩ := box_keep hb ⟨⟨hB1, hs1, hl1⟩, hc1⟩; clear hb hB1 hs1 hl1 hc1)
    | (go_at_call 42; refine (bit_any _ _ _ (by omega) (by omega) (by omega)).mono ?_; rintro e w3 ⟨rfl, rfl⟩))
  all_goals (go_ret; refine ⟨?_, by assumption⟩; go_tidy; (have h := HR.out; rw [← h]; simp_all))

set_option maxHeartbeats 4000000 in
theorem rMayCmd_any (k s i g es ei eg m x y vx vy hp pw lf mask : Int) (w : World) (hm0 : -9223372036854775808 ≤ m) (hm1 : m ≤ 9223372036854775807) :
    Calls Try.prog 33 #[.agg #[.int .i64 k, .int .i64 s, .int .i64 i, .int .i64 g, .int .i64 es, .int .i64 ei, .int .i64 eg, .int .i64 m, .int .i64 x, .int .i64 y, .int .i64 vx, .int .i64 vy, .int .i64 hp, .int .i64 pw, .int .i64 lf, .int .i64 mask]] w fun e w' => e = .returned (.bool (rCmdB ⟨k, s, i, g, ⟨es, ei, eg, m, x, y, vx, vy, hp, pw, lf⟩, mask⟩)) ∧ Below w.heap.size w w' := by
  generalize hr : rCmdB _ = r
  unfold rCmdB at hr
  dsimp only at hr
  have HR := Lib.hid hr
  clear hr
  go_enter Try.func33, Try.ntmps33
  go_wp2_with (first
    | (go_at_call 56; refine (rRightID_any _ _ _ _).mono ?_; rintro e w1 ⟨rfl, hb⟩; obtain ⟨⟨hB1, hs1, hl1⟩, hc1⟩ := box_keep hb (box_new0 w _ _); clear hb)
    | (go_at_call 57; refine (rRight_any _ _ _ _ _ _ _ _ _ _ _ _ (by omega) (by omega)).mono ?_; rintro e w2 ⟨rfl, hb⟩; obtain ⟨⟨hB2, hs2, hl2⟩, hc2⟩ := box_keep hb ⟨⟨hB1, hs1, hl1⟩, hc1⟩; clear hb hB1 hs1 hl1 hc1)
    | (go_at_call 32; refine (rMay_any _ _ _ _ _ _ _ _ _ _ _ _ (by omega) (by omega)).mono ?_; rintro e w2 ⟨rfl, hb⟩; obtain ⟨⟨hB2, hs2, hl2⟩, hc2⟩ := box_keep hb (box_new0 w _ _); clear hb)
    | (go_at_call 58; refine (rTakes_any _ _).mono ?_; rintro e w' ⟨rfl, rfl⟩))
  all_goals (go_ret; refine ⟨?_, by first | assumption | go_grown⟩; go_tidy; (have h := HR.out; clear HR; subst h; simp_all [idZero, bunZero]))

end Go.Proofs.Ytloampfkjldmnaa
