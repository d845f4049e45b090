/-
  Chapter texts SoI: what the claim reaches of them. Conditions stand at each theorem.
-/
import Derived.StillTailTactics
import Derived.Test.YtmkfjelpekkmmaaQ01
import Derived.Test.YtmkfjelpekkmmaaQ12
import Derived.Test.YtmkfjelpekkmmaaQ18
namespace Go.Proofs.Ytmkfjelpekkmmaa
open Go.RowKit Go.Sort Go.Lib

theorem still_of' {P : Program} {f : FuncId} {args : Array Value} {w : World} {v : Value} (h : Calls P f args w fun e w' => e = .returned v ∧ w = w') : Calls P f args w fun e w'' => e = .returned v ∧ w'' = w := h.mono fun _ _ ⟨a, b⟩ => ⟨a, b.symm⟩

def Gw (w w' : World) : Prop := ∃ q os, w' = grow (w.drewN q) os
theorem Gw.refl (w : World) : Gw w w := ⟨0, #[], by rw [grow_empty]; rfl⟩
theorem Gw.alloc {w w' : World} (h : Gw w w') (o : Obj) : Gw w (w'.alloc o) := by
  obtain ⟨q, os, rfl⟩ := h
  exact ⟨q, os ++ #[o], by rw [alloc_eq_grow, grow_grow]⟩
theorem Gw.drewN {w w' : World} (h : Gw w w') (n : Nat) : Gw w (w'.drewN n) := by
  obtain ⟨q, os, rfl⟩ := h
  exact ⟨q + n, os, by rw [← World.drewN_drewN]; rfl⟩
theorem Gw.drew {w w' : World} (h : Gw w w') : Gw w w'.drew := h.drewN 1
theorem Gw.trans {w w' w'' : World} (h : Gw w w') (h2 : Gw w' w'') : Gw w w'' := by
  obtain ⟨q, os, rfl⟩ := h
  obtain ⟨q2, os2, rfl⟩ := h2
  exact ⟨q + q2, os ++ os2, by rw [← World.drewN_drewN, ← grow_grow]; rfl⟩
theorem two_grow (w : World) (a b : Obj) : (w.alloc a).alloc b = grow w #[a, b] := by rw [alloc_eq_grow, alloc_eq_grow, grow_grow]; rfl

set_option maxRecDepth 100000 in
set_option maxHeartbeats 1000000 in
theorem compare_grow (s i g s' i' g' : Int) (w : World) :
    Calls Try.prog 74 #[.agg #[.int .i64 s, .int .i64 i, .int .i64 g], .agg #[.int .i64 s', .int .i64 i', .int .i64 g']] w fun e w' => e = .returned (.int .i64 (cmpId s i g s' i' g')) ∧ ∃ q os, w' = grow (w.drewN q) os := by
  generalize hr : cmpId s i g s' i' g' = r
  have HR := Lib.hid hr
  clear hr
  go_enter Try.func74, Try.ntmps74
  go_wp2_with fail
  have hW := two_grow w (.cells #[.int .i64 s, .int .i64 i, .int .i64 g] 48) (.cells #[.int .i64 s', .int .i64 i', .int .i64 g'] 48)
  have c00 : ((w.alloc (.cells #[.int .i64 s, .int .i64 i, .int .i64 g] 48)).alloc (.cells #[.int .i64 s', .int .i64 i', .int .i64 g'] 48)).cell? ⟨w.heap.size, 0, none⟩ = some (.int .i64 s) := by simp
  have c01 : ((w.alloc (.cells #[.int .i64 s, .int .i64 i, .int .i64 g] 48)).alloc (.cells #[.int .i64 s', .int .i64 i', .int .i64 g'] 48)).cell? ⟨w.heap.size, 1, none⟩ = some (.int .i64 i) := by simp
  have c02 : ((w.alloc (.cells #[.int .i64 s, .int .i64 i, .int .i64 g] 48)).alloc (.cells #[.int .i64 s', .int .i64 i', .int .i64 g'] 48)).cell? ⟨w.heap.size, 2, none⟩ = some (.int .i64 g) := by simp
  have c10 : ((w.alloc (.cells #[.int .i64 s, .int .i64 i, .int .i64 g] 48)).alloc (.cells #[.int .i64 s', .int .i64 i', .int .i64 g'] 48)).cell? ⟨w.heap.size + 1, 0, none⟩ = some (.int .i64 s') := by simp
  have c11 : ((w.alloc (.cells #[.int .i64 s, .int .i64 i, .int .i64 g] 48)).alloc (.cells #[.int .i64 s', .int .i64 i', .int .i64 g'] 48)).cell? ⟨w.heap.size + 1, 1, none⟩ = some (.int .i64 i') := by simp
  have c12 : ((w.alloc (.cells #[.int .i64 s, .int .i64 i, .int .i64 g] 48)).alloc (.cells #[.int .i64 s', .int .i64 i', .int .i64 g'] 48)).cell? ⟨w.heap.size + 1, 2, none⟩ = some (.int .i64 g') := by simp
  have hs : ((w.alloc (.cells #[.int .i64 s, .int .i64 i, .int .i64 g] 48)).alloc (.cells #[.int .i64 s', .int .i64 i', .int .i64 g'] 48)).heap.size = w.heap.size + 1 + 1 := by simp
  have HW := Lib.hid hW
  clear hW
  generalize (w.alloc (.cells #[.int .i64 s, .int .i64 i, .int .i64 g] 48)).alloc (.cells #[.int .i64 s', .int .i64 i', .int .i64 g'] 48) = W1 at *
  refine wp_region_still_tail 15 (by kernel_rfl) (by kernel_rfl) ?_
  simp only [List.take_succ_cons, List.take_zero, List.drop_succ_cons, List.drop_zero]
  repeat (first | still_step | (still_call (still_of' (cmpC_any _ _ _))))
  refine wpStill_nil ?_
  go_wp2_with (go_at_call 80; refine (or_any _ (cmpI s s') (cmpI i i') (cmpI g g') _ (by simp [go_sem, hs]) (by simp [go_sem, hs]) (by simp [go_sem, hs])).mono ?_; rintro e w' ⟨rfl, rfl⟩)
  go_ret
  refine ⟨?_, ?_⟩
  · rw [← HR.out]; rfl
  · have h : Gw w W1 := by rw [HW.out, ← two_grow]; exact (Gw.refl w).alloc _ |>.alloc _
    exact (h.drewN 1).alloc _


set_option maxRecDepth 100000 in
set_option maxHeartbeats 1000000 in
theorem sorted1_grow (s i g m x y vx vy hp pw lf s' i' g' m' x' y' vx' vy' hp' pw' lf' : Int) (w : World) :
    Calls Try.prog 73 #[.agg #[.int .i64 s, .int .i64 i, .int .i64 g, .int .i64 m, .int .i64 x, .int .i64 y, .int .i64 vx, .int .i64 vy, .int .i64 hp, .int .i64 pw, .int .i64 lf], .agg #[.int .i64 s', .int .i64 i', .int .i64 g', .int .i64 m', .int .i64 x', .int .i64 y', .int .i64 vx', .int .i64 vy', .int .i64 hp', .int .i64 pw', .int .i64 lf']] w fun e w' => e = .returned (.int .i64 (cmpId s i g s' i' g')) ∧ ∃ q os, w' = grow (w.drewN q) os := by
  have HC := Lib.hid (fun W => compare_grow s i g s' i' g' W)
  go_enter Try.func73, Try.ntmps73
  go_wp2_with fail
  refine (HC.out _).mono ?_
  rintro e w1 ⟨rfl, h⟩
  have HG := Lib.hid (show Gw _ w1 from h)
  clear h
  go_wp2_with fail
  go_ret
  exact ⟨rfl, Gw.trans (((Gw.refl w).alloc _).alloc _) HG.out⟩

def cmpBun (a b : Bun) : Int := cmpId a.s a.i a.g b.s b.i b.g
theorem cmpBun_ok : CmpOk cmpBun where
  neg x y := by have := cmpId_neg x.s x.i x.g y.s y.i y.g; unfold cmpBun; omega
  zero x y := by have := cmpId_neg x.s x.i x.g y.s y.i y.g; unfold cmpBun; omega
  trans x y z h1 h2 := by have := cmpId_trans x.s x.i x.g y.s y.i y.g z.s z.i z.g h1 h2; unfold cmpBun at *; omega
  transl x y z h1 h2 := by have := cmpId_trans x.s x.i x.g y.s y.i y.g z.s z.i z.g (by unfold cmpBun at h1; omega) h2; unfold cmpBun at *; omega
  transr x y z h1 h2 := by have := cmpId_trans x.s x.i x.g y.s y.i y.g z.s z.i z.g h1 (by unfold cmpBun at h2; omega); unfold cmpBun at *; omega

instance : Inhabited Bun := ⟨⟨0, 0, 0, 0, 0, 0, 0, 0, 0, 0, 0⟩⟩

theorem enters_S1 : ∀ args w, (callFunc 73 args).run Try.prog w = .ok (.enter 73 args) w := fun _ _ => by kernel_rfl

theorem cmpr_bun (blk off : Nat) (l : List Bun) (w0 : World) (hl : l.length ≤ 1000000) (hb : blk < w0.heap.size) (hH : HoldsK (fun x : Bun × Nat => bunL x.1) 11 w0 blk off (tagd l)) :
    Cmpr (fun x : Bun × Nat => bunL x.1) (cfT cmpBun) (ltT cmpBun) 73 #[] blk off (tagd l) w0 where
  eg := enters_S1
  hS := ltT_swo cmpBun_ok
  hc := fun m os dk _ x y => by
    have h := sorted1_grow x.1.s x.1.i x.1.g x.1.m x.1.x x.1.y x.1.vx x.1.vy x.1.hp x.1.pw x.1.lf y.1.s y.1.i y.1.g y.1.m y.1.x y.1.y y.1.vx y.1.vy y.1.hp y.1.pw y.1.lf (sortWorldK (fun x : Bun × Nat => bunL x.1) 11 w0 blk off m dk os)
    exact h
  R := ⟨fun x => rfl, fun x v hv => by
    simp [bunL] at hv
    rcases hv with rfl | rfl | rfl | rfl | rfl | rfl | rfl | rfl | rfl | rfl | rfl <;> rfl, hH, hb⟩
  sz := by rw [size_tagd]; omega
end Go.Proofs.Ytmkfjelpekkmmaa
