/-
  Walks of package parts, second half: Check, CheckCmd. Each function computes its plain twin; new memory alone is written. No condition.
-/
import Derived.Test.YtbghjklnlhoklaaPaA
namespace Go.Proofs.Ytbghjklnlhoklaa
open Go.RowKit

set_option maxHeartbeats 1000000 in
theorem check_any (s i g m x y vx vy hp pw lf : Int) (w : World) :
    Calls Try.prog 68 #[.agg #[.int .i64 s, .int .i64 i, .int .i64 g, .int .i64 m, .int .i64 x, .int .i64 y, .int .i64 vx, .int .i64 vy, .int .i64 hp, .int .i64 pw, .int .i64 lf]] w fun e w' => e = .returned (.int .i64 (errB (checkB ⟨s, i, g, m, x, y, vx, vy, hp, pw, lf⟩))) ∧ Below w.heap.size w w' := by
  generalize hr : errB _ = r
  unfold checkB at hr
  have HR := Lib.hid hr
  clear hr
  go_enter Try.func68, Try.ntmps68
  go_wp2_with (first
    | (go_at_call 70; refine (right_any _ _ _ _ _ _ _ _ _ _ _ _).mono ?_; rintro e w1 ⟨rfl, hb⟩; obtain ⟨⟨hB1, hs1, hl1⟩, hc1⟩ := box_keep hb (box_new0 w _ _); clear hb)
    | (go_at_call 89; refine (has_any _ _ _ _ _ _ _ _ _ _ _ _ _).mono ?_; rintro e w2 ⟨rfl, hb⟩; obtain ⟨⟨hB2, hs2, hl2⟩, hc2⟩ := box_keep hb ⟨⟨hB1, hs1, hl1⟩, hc1⟩; clear hb hB1 hs1 hl1 hc1)
    | (go_at_call 67; refine (checkID_any _ _ _ _).mono ?_; rintro e w3 ⟨rfl, hb⟩; obtain ⟨⟨hB3, hs3, hl3⟩, hc3⟩ := box_keep hb ⟨⟨hB2, hs2, hl2⟩, hc2⟩; clear hb hB2 hs2 hl2 hc2))
  all_goals go_ret
  all_goals refine ⟨?_, by assumption⟩
  all_goals go_tidy
  all_goals (have h := HR.out; rw [← h]; simp_all [errB])

set_option maxHeartbeats 2000000 in
theorem checkCmd_any (k s i g es ei eg m x y vx vy hp pw lf mask : Int) (w : World) :
    Calls Try.prog 37 #[.agg #[.int .i64 k, .int .i64 s, .int .i64 i, .int .i64 g, .int .i64 es, .int .i64 ei, .int .i64 eg, .int .i64 m, .int .i64 x, .int .i64 y, .int .i64 vx, .int .i64 vy, .int .i64 hp, .int .i64 pw, .int .i64 lf, .int .i64 mask]] w fun e w' => e = .returned (.int .i64 (errB (cmdB ⟨k, s, i, g, ⟨es, ei, eg, m, x, y, vx, vy, hp, pw, lf⟩, mask⟩))) ∧ Below w.heap.size w w' := by
  generalize hr : errB _ = r
  unfold cmdB at hr
  dsimp only at hr
  have HR := Lib.hid hr
  clear hr
  go_enter Try.func37, Try.ntmps37
  go_wp2_with (first
    | (go_at_call 67; refine (checkID_any _ _ _ _).mono ?_; rintro e w1 ⟨rfl, hb⟩; obtain ⟨⟨hB1, hs1, hl1⟩, hc1⟩ := box_keep hb (box_new0 w _ _); clear hb)
    | (go_at_call 70; refine (right_any _ _ _ _ _ _ _ _ _ _ _ _).mono ?_; rintro e w2 ⟨rfl, hb⟩; obtain ⟨⟨hB2, hs2, hl2⟩, hc2⟩ := box_keep hb ⟨⟨hB1, hs1, hl1⟩, hc1⟩; clear hb hB1 hs1 hl1 hc1)
    | (go_at_call 68; refine (check_any _ _ _ _ _ _ _ _ _ _ _ _).mono ?_; rintro e w2 ⟨rfl, hb⟩; obtain ⟨⟨hB2, hs2, hl2⟩, hc2⟩ := box_keep hb ⟨⟨hB1, hs1, hl1⟩, hc1⟩; clear hb hB1 hs1 hl1 hc1)
    | (go_at_call 69; refine (some_any _ _).mono ?_; rintro e w' ⟨rfl, rfl⟩))
  all_goals go_ret
  all_goals refine ⟨?_, by assumption⟩
  all_goals go_tidy
  all_goals (have h := HR.out; rw [← h]; simp_all [errB, idZero, bunZero])

end Go.Proofs.Ytbghjklnlhoklaa
