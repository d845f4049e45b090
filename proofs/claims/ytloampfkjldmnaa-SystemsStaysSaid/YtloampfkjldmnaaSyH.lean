/-
  systems.Hits as the document's example calls it. No condition.
-/
import Derived.Test.YtloampfkjldmnaaSyG
namespace Go.Proofs.Ytloampfkjldmnaa
open Go.RowKit

theorem Turned.below_none {W w2 a : World} {b : Option Nat} {B : Nat} (h : Turned W w2 b) (hb : b = none) (h0 : Below B a W) (hB : B ≤ W.heap.size) : Below B a w2 :=
  h0.trans ⟨h.os, h.tape, h.output, h.size, fun k hk => h.block k (by omega) (by rw [hb]; simp)⟩

theorem info_hit : (Try.prog.info? 67).map (fun i => (i.zero, i.size, i.bytes)) = some (some (.agg #[.int .i64 0, .int .i64 0, .int .i64 0, .int .i64 0]), 4, 32) := by kernel_rfl

theorem lt_many {a W : Nat} (h : a < W) : a < W ∧ (∀ n0 : Nat, a < W + n0) ∧ (∀ n0 n1 : Nat, a < W + n0 + n1) ∧ (∀ n0 n1 n2 : Nat, a < W + n0 + n1 + n2) ∧ (∀ n0 n1 n2 n3 : Nat, a < W + n0 + n1 + n2 + n3) ∧ (∀ n0 n1 n2 n3 n4 : Nat, a < W + n0 + n1 + n2 + n3 + n4) ∧ (∀ n0 n1 n2 n3 n4 n5 : Nat, a < W + n0 + n1 + n2 + n3 + n4 + n5) ∧ (∀ n0 n1 n2 n3 n4 n5 n6 : Nat, a < W + n0 + n1 + n2 + n3 + n4 + n5 + n6) ∧ (∀ n0 n1 n2 n3 n4 n5 n6 n7 : Nat, a < W + n0 + n1 + n2 + n3 + n4 + n5 + n6 + n7) ∧ (∀ n0 n1 n2 n3 n4 n5 n6 n7 n8 : Nat, a < W + n0 + n1 + n2 + n3 + n4 + n5 + n6 + n7 + n8) ∧ (∀ n0 n1 n2 n3 n4 n5 n6 n7 n8 n9 : Nat, a < W + n0 + n1 + n2 + n3 + n4 + n5 + n6 + n7 + n8 + n9) ∧ (∀ n0 n1 n2 n3 n4 n5 n6 n7 n8 n9 n10 : Nat, a < W + n0 + n1 + n2 + n3 + n4 + n5 + n6 + n7 + n8 + n9 + n10) ∧ (∀ n0 n1 n2 n3 n4 n5 n6 n7 n8 n9 n10 n11 : Nat, a < W + n0 + n1 + n2 + n3 + n4 + n5 + n6 + n7 + n8 + n9 + n10 + n11) := by
  refine ⟨h, ?_, ?_, ?_, ?_, ?_, ?_, ?_, ?_, ?_, ?_, ?_, ?_⟩ <;> intros <;> omega

set_option maxRecDepth 100000 in
set_option maxHeartbeats 4000000 in
theorem hits_aw (o x : Nat) (w : World) (ho : ∀ j, w.cell? ⟨o, j, none⟩ = (#[.int .i64 0, .int .i64 0, .int .i64 0, .int .i64 5, .int .i64 0, .int .i64 0, .int .i64 0, .int .i64 0, .int .i64 3, .int .i64 0, .int .i64 0] : Array Value)[j]?) (hx : ∀ j, w.cell? ⟨x, j, none⟩ = (#[.int .i64 0, .int .i64 1, .int .i64 0, .int .i64 9, .int .i64 2, .int .i64 0, .int .i64 0, .int .i64 0, .int .i64 0, .int .i64 3, .int .i64 0, .int .i64 0, .int .i64 2, .int .i64 0, .int .i64 9, .int .i64 9, .int .i64 0, .int .i64 0, .int .i64 0, .int .i64 0, .int .i64 4, .int .i64 0] : Array Value)[j]?) :
    Calls Try.prog 14 #[.int .i64 9, .slice (some ⟨o, 0, none⟩) 1 1, .slice (some ⟨x, 0, none⟩) 2 2] w fun e w' => ∃ g off c, e = .returned (.slice (some ⟨g, off, none⟩) 1 c) ∧ Sl w' 67 4 (.slice (some ⟨g, off, none⟩) 1 c) 1 [.int .i64 0, .int .i64 0, .int .i64 0, .int .i64 7] ∧ Below w.heap.size w w' := by
  obtain ⟨i0, hi0, hz0, hz1, hz2⟩ := info_parts info_hit
  have e1 : hasB 5 4 = true := by decide
  have e2 : hasB 9 8 = true := by decide
  have e3 : farF 0 0 2 0 = 2 := by decide
  have e4 : farF 0 0 9 0 = 9 := by decide
  have e5 : addF 0 3 = 3 := by decide
  have e6 : addF 3 4 = 7 := by decide
  have HS := Lib.hid (sorted_one o 0 1 [.int .i64 0, .int .i64 0, .int .i64 0, .int .i64 5, .int .i64 0, .int .i64 0, .int .i64 0, .int .i64 0, .int .i64 3, .int .i64 0, .int .i64 0] w rfl (fun j u hj => by rw [Nat.zero_add, ho j]; simpa using hj) (by simp [Value.oneCell']))
  have lo : o < w.heap.size := World.block_lt_of_cell? w _ ((ho 0).trans rfl)
  have lx : x < w.heap.size := World.block_lt_of_cell? w _ ((hx 0).trans rfl)
  have HO := Lib.hid ho
  have HX := Lib.hid hx
  clear ho hx
  go_enter Try.func14, Try.ntmps14
  go_wp2_with fail
  refine HS.out.mono ?_
  rintro e w1 ⟨g, off, c, rfl, hs, hb, hg⟩
  have hxx : ∀ j, w1.cell? ⟨x, j, none⟩ = (#[.int .i64 0, .int .i64 1, .int .i64 0, .int .i64 9, .int .i64 2, .int .i64 0, .int .i64 0, .int .i64 0, .int .i64 0, .int .i64 3, .int .i64 0, .int .i64 0, .int .i64 2, .int .i64 0, .int .i64 9, .int .i64 9, .int .i64 0, .int .i64 0, .int .i64 0, .int .i64 0, .int .i64 4, .int .i64 0] : Array Value)[j]? := fun j => (hb.cell (p := ⟨x, j, none⟩) lx).trans (HX.out j)
  have hoo : ∀ j, w1.cell? ⟨o, j, none⟩ = (#[.int .i64 0, .int .i64 0, .int .i64 0, .int .i64 5, .int .i64 0, .int .i64 0, .int .i64 0, .int .i64 0, .int .i64 3, .int .i64 0, .int .i64 0] : Array Value)[j]? := fun j => (hb.cell (p := ⟨o, j, none⟩) lo).trans (HO.out j)
  have hsz := hb.size
  obtain ⟨_, ⟨h0, _⟩ | ⟨g', off', cap', cur, hv, hgb, hn, hcm, hsz2, hcur⟩⟩ := hs
  · cases h0
  have lg := (Array.getElem?_eq_some_iff.1 hgb).1
  simp only [Value.slice.injEq, Option.some.injEq, Addr.mk.injEq, and_true, true_and] at hv
  obtain ⟨⟨rfl, rfl⟩, rfl⟩ := hv
  have q0 : w1.cell? ⟨g, off + 0, none⟩ = some (.int .i64 0) := by have h := hcur 0 _ rfl; simpa [World.cell?, hgb] using h
  have q1 : w1.cell? ⟨g, off + 1, none⟩ = some (.int .i64 0) := by have h := hcur 1 _ rfl; simpa [World.cell?, hgb] using h
  have q2 : w1.cell? ⟨g, off + 2, none⟩ = some (.int .i64 0) := by have h := hcur 2 _ rfl; simpa [World.cell?, hgb] using h
  have q3 : w1.cell? ⟨g, off + 3, none⟩ = some (.int .i64 5) := by have h := hcur 3 _ rfl; simpa [World.cell?, hgb] using h
  have q4 : w1.cell? ⟨g, off + 4, none⟩ = some (.int .i64 0) := by have h := hcur 4 _ rfl; simpa [World.cell?, hgb] using h
  have q5 : w1.cell? ⟨g, off + 5, none⟩ = some (.int .i64 0) := by have h := hcur 5 _ rfl; simpa [World.cell?, hgb] using h
  have q6 : w1.cell? ⟨g, off + 6, none⟩ = some (.int .i64 0) := by have h := hcur 6 _ rfl; simpa [World.cell?, hgb] using h
  have q7 : w1.cell? ⟨g, off + 7, none⟩ = some (.int .i64 0) := by have h := hcur 7 _ rfl; simpa [World.cell?, hgb] using h
  have q8 : w1.cell? ⟨g, off + 8, none⟩ = some (.int .i64 3) := by have h := hcur 8 _ rfl; simpa [World.cell?, hgb] using h
  have q9 : w1.cell? ⟨g, off + 9, none⟩ = some (.int .i64 0) := by have h := hcur 9 _ rfl; simpa [World.cell?, hgb] using h
  have q10 : w1.cell? ⟨g, off + 10, none⟩ = some (.int .i64 0) := by have h := hcur 10 _ rfl; simpa [World.cell?, hgb] using h
  simp only [Nat.add_zero] at q0
  have HB := Lib.hid hb
  have HS1 := Lib.hid hsz
  unfold maxLen at hcm
  clear hb hgb hsz hsz2 hcur
  obtain ⟨g0, g1, g2, g3, g4, g5, g6, g7, g8, g9, g10, g11, g12⟩ := lt_many lg
  obtain ⟨o0, o1, o2, o3, o4, o5, o6, o7, o8, o9, o10, o11, o12⟩ := lt_many (Nat.lt_of_lt_of_le lo HS1.out)
  obtain ⟨x0, x1, x2, x3, x4, x5, x6, x7, x8, x9, x10, x11, x12⟩ := lt_many (Nat.lt_of_lt_of_le lx HS1.out)
  go_wp2_with fail
  refine wp_loop_rounds 2 ?_
  rw [rounds_succ]
  go_wp2_with (go_at_call 39; refine (has_any _ _ _ _ _ _ _ _ _ _ _ _ _).mono ?_; rintro e w' ⟨rfl, hb⟩; obtain ⟨d, os, rfl⟩ := more_of hb; clear hb)
  
  refine wp_loop_rounds 3 ?_
  rw [rounds_succ]
  go_wp2_with (first | (go_at_call 39; refine (has_any _ _ _ _ _ _ _ _ _ _ _ _ _).mono ?_; rintro e w' ⟨rfl, hb⟩; obtain ⟨d, os, rfl⟩ := more_of hb; clear hb) | (go_at_call 40; refine (far_any _ _ _ _ _).mono ?_; rintro e w' ⟨rfl, rfl⟩) | (go_at_call 41; refine (add_any _ _ _ _ (by simp [go_sem]; rfl) (by simp [go_sem]; rfl)).mono ?_; rintro e w' ⟨rfl, rfl⟩))
  refine wp_loop_rounds 2 ?_
  rw [rounds_succ]
  go_wp2_with (first | (go_at_call 39; refine (has_any _ _ _ _ _ _ _ _ _ _ _ _ _).mono ?_; rintro e w' ⟨rfl, hb⟩; obtain ⟨d, os, rfl⟩ := more_of hb; clear hb) | (go_at_call 40; refine (far_any _ _ _ _ _).mono ?_; rintro e w' ⟨rfl, rfl⟩) | (go_at_call 41; refine (add_any _ _ _ _ (by simp [go_sem]; rfl) (by simp [go_sem]; rfl)).mono ?_; rintro e w' ⟨rfl, rfl⟩))
  rw [rounds_succ]
  go_wp2_with (first | (go_at_call 39; refine (has_any _ _ _ _ _ _ _ _ _ _ _ _ _).mono ?_; rintro e w' ⟨rfl, hb⟩; obtain ⟨d, os, rfl⟩ := more_of hb; clear hb) | (go_at_call 40; refine (far_any _ _ _ _ _).mono ?_; rintro e w' ⟨rfl, rfl⟩) | (go_at_call 41; refine (add_any _ _ _ _ (by simp [go_sem]; rfl) (by simp [go_sem]; rfl)).mono ?_; rintro e w' ⟨rfl, rfl⟩))
  rw [rounds_succ]
  go_wp2_with (first | (go_at_call 39; refine (has_any _ _ _ _ _ _ _ _ _ _ _ _ _).mono ?_; rintro e w' ⟨rfl, hb⟩; obtain ⟨d, os, rfl⟩ := more_of hb; clear hb) | (go_at_call 40; refine (far_any _ _ _ _ _).mono ?_; rintro e w' ⟨rfl, rfl⟩) | (go_at_call 41; refine (add_any _ _ _ _ (by simp [go_sem]; rfl) (by simp [go_sem]; rfl)).mono ?_; rintro e w' ⟨rfl, rfl⟩))
  refine wp_loop_rounds 3 ?_
  rw [rounds_succ]
  go_wp2_with (first | (go_at_call 39; refine (has_any _ _ _ _ _ _ _ _ _ _ _ _ _).mono ?_; rintro e w' ⟨rfl, hb⟩; obtain ⟨d, os, rfl⟩ := more_of hb; clear hb) | (go_at_call 40; refine (far_any _ _ _ _ _).mono ?_; rintro e w' ⟨rfl, rfl⟩) | (go_at_call 41; refine (add_any _ _ _ _ (by simp [go_sem]; rfl) (by simp [go_sem]; rfl)).mono ?_; rintro e w' ⟨rfl, rfl⟩))
  rw [rounds_succ]
  go_wp2_with (first | (go_at_call 39; refine (has_any _ _ _ _ _ _ _ _ _ _ _ _ _).mono ?_; rintro e w' ⟨rfl, hb⟩; obtain ⟨d, os, rfl⟩ := more_of hb; clear hb) | (go_at_call 40; refine (far_any _ _ _ _ _).mono ?_; rintro e w' ⟨rfl, rfl⟩) | (go_at_call 41; refine (add_any _ _ _ _ (by simp [go_sem]; rfl) (by simp [go_sem]; rfl)).mono ?_; rintro e w' ⟨rfl, rfl⟩))
  rw [rounds_succ]
  go_wp2_with (first | (go_at_call 39; refine (has_any _ _ _ _ _ _ _ _ _ _ _ _ _).mono ?_; rintro e w' ⟨rfl, hb⟩; obtain ⟨d, os, rfl⟩ := more_of hb; clear hb) | (go_at_call 40; refine (far_any _ _ _ _ _).mono ?_; rintro e w' ⟨rfl, rfl⟩) | (go_at_call 41; refine (add_any _ _ _ _ (by simp [go_sem]; rfl) (by simp [go_sem]; rfl)).mono ?_; rintro e w' ⟨rfl, rfl⟩))
  rw [rounds_succ]
  go_wp2_with (at_builtin; refine wpList_append_sl _ (by rfl) _ _ 25 (by rfl) 67 i0 _ 4 32 Try.underlying25 hi0 hz0 hz1 hz2 rfl (by omega) (.slice none 0 0) 0 [] (by rfl) ⟨rfl, .inl ⟨rfl, rfl⟩⟩ ⟨_, 0, none⟩ 1 1 [.int .i64 0, .int .i64 0, .int .i64 0, .int .i64 7] (by rfl) (by rfl) (fun j u hj => by rcases j with _ | _ | _ | _ | j <;> simp at hj <;> subst hj <;> simp [Addr.add, go_sem]) (by simp [Value.oneCell']) (by omega) (by unfold maxLen; omega) (by omega) ?_; intro v' w2 hs2 ht2 ho2)
  rw [rounds_succ]
  go_wp2_with fail
  go_ret
  have hb2 : Below w.heap.size w w2 := ht2.below_none rfl (HB.out.trans (Below.mono (B := w1.heap.size) (by repeat' (first | (with_reducible exact Below.refl _ _) | (with_reducible assumption) | (with_reducible refine below_drewN ?_ _) | (with_reducible refine below_more _ _ _ ?_ ?_) | (with_reducible refine Below.alloc ?_ ?_ _) | (with_reducible refine Below.drew ?_) | (with_reducible refine Below.setCell ?_ ?_ _) | go_size)) HS1.out)) (by simp; have := HS1.out; omega)
  rw [Nat.zero_add, List.nil_append] at hs2
  have hs3 := hs2
  obtain ⟨_, ⟨_, h0⟩ | ⟨g2, off2, c2, cur2, rfl, _⟩⟩ := hs2
  · omega
  · exact ⟨g2, off2, c2, rfl, hs3, hb2⟩
end Go.Proofs.Ytloampfkjldmnaa
