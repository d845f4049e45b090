/-
  Chapter 14: the document's examples (awake). No condition.
-/
import Derived.Test.YtloampfkjldmnaaSyH
import Derived.Test.YtloampfkjldmnaaSyB
import Derived.Test.YtloampfkjldmnaaSyD
namespace Go.Proofs.Ytloampfkjldmnaa
open Go.RowKit

theorem aw_cfg : CfgOk ⟨2, 1, 256, 0, 10, 1, 1⟩ := by constructor <;> decide

set_option maxRecDepth 100000 in
set_option maxHeartbeats 4000000 in
theorem awake14 (w : World) : Calls Try.prog 17 #[] w fun e w' => e = .returned (.bool true) ∧ Below w.heap.size w w' := by
  go_enter Try.func17, Try.ntmps17
  go_wp2_with fail
  refine (hits_aw _ _ _ (fun j => by simp [go_sem]) (fun j => by simp [go_sem])).mono ?_
  rintro e w1 ⟨g, off, c, rfl, hs, hb⟩
  obtain ⟨_, ⟨h0, _⟩ | ⟨g', off', cap', cur, hv, hgb, hn, hcm, hsz2, hcur⟩⟩ := hs
  · cases h0
  have lg := (Array.getElem?_eq_some_iff.1 hgb).1
  simp only [Value.slice.injEq, Option.some.injEq, Addr.mk.injEq, and_true, true_and] at hv
  obtain ⟨⟨rfl, rfl⟩, rfl⟩ := hv
  have q0 : w1.cell? ⟨g, off, none⟩ = some (.int .i64 0) := by have h := hcur 0 _ rfl; simpa [World.cell?, hgb] using h
  have q1 : w1.cell? ⟨g, off + 1, none⟩ = some (.int .i64 0) := by have h := hcur 1 _ rfl; simpa [World.cell?, hgb] using h
  have q2 : w1.cell? ⟨g, off + 2, none⟩ = some (.int .i64 0) := by have h := hcur 2 _ rfl; simpa [World.cell?, hgb] using h
  have q3 : w1.cell? ⟨g, off + 3, none⟩ = some (.int .i64 7) := by have h := hcur 3 _ rfl; simpa [World.cell?, hgb] using h
  have cA : ∀ j, w1.cell? ⟨w.heap.size, j, none⟩ = (#[.int .i64 0, .int .i64 0, .int .i64 0, .int .i64 5, .int .i64 0, .int .i64 0, .int .i64 0, .int .i64 0, .int .i64 3, .int .i64 0, .int .i64 0] : Array Value)[j]? := fun j => by rw [hb.cell (by simp; omega)]; simp [go_sem]
  have lA : w.heap.size < w1.heap.size := by have := hb.size; simp at this; omega
  have HB1 := Lib.hid (((Below.refl w.heap.size w).trans (Below.mono (B := w.heap.size) (by repeat' (first | (with_reducible exact Below.refl _ _) | (with_reducible assumption) | (with_reducible refine below_drewN ?_ _) | (with_reducible refine below_more _ _ _ ?_ ?_) | (with_reducible refine Below.alloc ?_ ?_ _) | (with_reducible refine Below.drew ?_) | (with_reducible refine Below.setCell ?_ ?_ _) | go_size)) (Nat.le_refl _))).trans (hb.mono (by simp; omega)))
  unfold maxLen at hcm
  clear hgb hsz2 hcur hb
  go_wp2_with fail
  refine (znew_ok 2 1 256 0 10 1 1 w1 aw_cfg).mono ?_
  rintro e w2 ⟨b, rfl, hb2, hmap, hbb⟩
  have r0 := (hb2.cell (p := ⟨g, off, none⟩) lg).trans q0
  have r1 := (hb2.cell (p := ⟨g, off + 1, none⟩) lg).trans q1
  have r2 := (hb2.cell (p := ⟨g, off + 2, none⟩) lg).trans q2
  have r3 := (hb2.cell (p := ⟨g, off + 3, none⟩) lg).trans q3
  have cA2 : ∀ j, w2.cell? ⟨w.heap.size, j, none⟩ = (#[.int .i64 0, .int .i64 0, .int .i64 0, .int .i64 5, .int .i64 0, .int .i64 0, .int .i64 0, .int .i64 0, .int .i64 3, .int .i64 0, .int .i64 0] : Array Value)[j]? := fun j => (hb2.cell (p := ⟨w.heap.size, j, none⟩) lA).trans (cA j)
  have lg2 := Nat.lt_of_lt_of_le lg hb2.size
  have lA2 := Nat.lt_of_lt_of_le lA hb2.size
  obtain ⟨g0, g1, g2, g3, g4, g5, g6, g7, g8, g9, g10, g11, g12⟩ := lt_many lg2
  obtain ⟨a0, a1, a2, a3, a4, a5, a6, a7, a8, a9, a10, a11, a12⟩ := lt_many lA2
  have HB2 := Lib.hid (HB1.out.trans (hb2.mono (Nat.le_of_lt lA)))
  have HMV := Lib.hid (fun W (hW : Below w2.heap.size w2 W) => move_any W b ⟨2, 1, 256, 0, 10, 1, 1⟩ 0 0 0 3 500 0 40 0 0 0 0 (hmap.grow hW) aw_cfg)
  have e1 : hurtF ⟨0, 0, 0, 5, 0, 0, 0, 0, 3, 0, 0⟩ 3 = (zeroB, false) := by decide
  have e2 : ageF ⟨0, 0, 0, 17, 0, 0, 0, 0, 0, 0, 2⟩ = (⟨0, 0, 0, 17, 0, 0, 0, 0, 0, 0, 1⟩, true) := by decide
  have e3 : moveF ⟨2, 1, 256, 0, 10, 1, 1⟩ ⟨0, 0, 0, 3, 500, 0, 40, 0, 0, 0, 0⟩ = ⟨0, 0, 0, 3, 510, 0, 40, 0, 0, 0, 0⟩ := by decide
  have hf : ∀ W, (Instr.field 34 (.agg #[.int .i64 0, .int .i64 0, .int .i64 0, .int .i64 3, .int .i64 510, .int .i64 0, .int .i64 40, .int .i64 0, .int .i64 0, .int .i64 0, .int .i64 0]) 2).run Try.prog W = .ok (.int .i64 510) W := fun _ => by kernel_rfl
  clear q0 q1 q2 q3 cA hb2 hmap HB1 lA lg lg2
  go_wp2_with (first | (go_at_call 18; refine (hurt_any _ _ _ _ _ _ _ _ _ _ _ _ _ (by omega)).mono ?_; rintro e w' ⟨rfl, hb⟩; obtain ⟨d, os, rfl⟩ := more_of hb; clear hb) | (go_at_call 20; refine (age_any _ _ _ _ _ _ _ _ _ _ _ _ (by omega)).mono ?_; rintro e w' ⟨rfl, hb⟩; obtain ⟨d, os, rfl⟩ := more_of hb; clear hb) | (go_at_call 24; refine (HMV.out _ (by repeat' (first | (with_reducible exact Below.refl _ _) | (with_reducible assumption) | (with_reducible refine below_drewN ?_ _) | (with_reducible refine below_more _ _ _ ?_ ?_) | (with_reducible refine Below.alloc ?_ ?_ _) | (with_reducible refine Below.drew ?_) | (with_reducible refine Below.setCell ?_ ?_ _) | go_size))).mono ?_; rintro e w' ⟨rfl, hb⟩; obtain ⟨d, os, rfl⟩ := more_of hb; clear hb))
  go_ret
  exact ⟨rfl, HB2.out.trans (Below.mono (B := w2.heap.size) (by repeat' (first | (with_reducible exact Below.refl _ _) | (with_reducible assumption) | (with_reducible refine below_drewN ?_ _) | (with_reducible refine below_more _ _ _ ?_ ?_) | (with_reducible refine Below.alloc ?_ ?_ _) | (with_reducible refine Below.drew ?_) | (with_reducible refine Below.setCell ?_ ?_ _) | go_size)) (Nat.le_of_lt lA2))⟩
end Go.Proofs.Ytloampfkjldmnaa
