/-
  Chapter texts QmE QmF: what the claim reaches of them. Conditions stand at each theorem.
-/
import Derived.StillTailTactics
import Derived.Test.YtmkfjelpekkmmaaQ07
import Derived.Test.YtmkfjelpekkmmaaQ05
namespace Go.Proofs.Ytmkfjelpekkmmaa
open Go.RowKit

set_option maxRecDepth 100000 in
theorem columns_any (p k : Nat) (w : World) : Calls Try.prog 69 #[.pointer (some ⟨p, k, none⟩)] w fun e w' => e = .returned (.slice (some ⟨w.heap.size, 0, none⟩) 7 7) ∧ Below w.heap.size w w' ∧
    w'.heap[w.heap.size]? = some (.cells #[.pointer (some ⟨p, k + 1, none⟩), .pointer (some ⟨p, k + 2, none⟩), .pointer (some ⟨p, k + 3, none⟩), .pointer (some ⟨p, k + 4, none⟩), .pointer (some ⟨p, k + 5, none⟩), .pointer (some ⟨p, k + 6, none⟩), .pointer (some ⟨p, k + 7, none⟩)] 104 (0, 0)) := by
  go_enter Try.func69, Try.ntmps69
  go_wp2_with fail
  refine wp_region_still_tail 21 (by kernel_rfl) (by kernel_rfl) ?_
  simp only [List.take_succ_cons, List.take_zero, List.drop_succ_cons, List.drop_zero]
  repeat (first | still_step)
  refine wpStill_nil ?_
  go_wp2_with fail
  go_ret
  exact ⟨rfl, (by repeat' (first | (with_reducible exact Below.refl _ _) | (with_reducible assumption) | (with_reducible refine below_drewN ?_ _) | (with_reducible refine below_more _ _ _ ?_ ?_) | (with_reducible refine Below.alloc ?_ ?_ _) | (with_reducible refine Below.drew ?_) | (with_reducible refine Below.setCell ?_ ?_ _) | go_size)), heap_alloc_new_at _ _ _ (by simp)⟩
theorem numbers_any (s i g m x y vx vy hp pw lf : Int) (w : World) : Calls Try.prog 70 #[.agg #[.int .i64 s, .int .i64 i, .int .i64 g, .int .i64 m, .int .i64 x, .int .i64 y, .int .i64 vx, .int .i64 vy, .int .i64 hp, .int .i64 pw, .int .i64 lf]] w fun e w' => e = .returned (.slice (some ⟨w.heap.size + 1, 0, none⟩) 7 7) ∧ Below w.heap.size w w' ∧
    w'.heap[w.heap.size + 1]? = some (.cells #[.int .i64 x, .int .i64 y, .int .i64 vx, .int .i64 vy, .int .i64 hp, .int .i64 pw, .int .i64 lf] 3 (0, 0)) := by
  go_enter Try.func70, Try.ntmps70
  go_wp2_with fail
  go_ret
  exact ⟨rfl, (by repeat' (first | (with_reducible exact Below.refl _ _) | (with_reducible assumption) | (with_reducible refine below_drewN ?_ _) | (with_reducible refine below_more _ _ _ ?_ ?_) | (with_reducible refine Below.alloc ?_ ?_ _) | (with_reducible refine Below.drew ?_) | (with_reducible refine Below.setCell ?_ ?_ _) | go_size)), heap_alloc_new_at _ _ _ (by simp)⟩
theorem zero_sto : Try.zeroCells87 = (Array.replicate 256 (.slice none 0 0)).push (.map none) := by kernel_rfl
theorem sto_zero (b : Nat) : ∃ cs : Array Value, Try.zeroCells87.setIfInBounds 256 (.map (some b)) = cs ∧ cs.size = 257 ∧ (∀ j, j < 256 → cs[j]? = some (.slice none 0 0)) ∧ cs[256]? = some (.map (some b)) := by
  rw [zero_sto]
  refine ⟨_, rfl, by simp, fun j hj => ?_, ?_⟩
  · rw [Array.getElem?_setIfInBounds_ne (by omega), Array.getElem?_push, if_neg (by simp; omega)]
    simp [hj]
  · rw [Array.getElem?_setIfInBounds_self, if_pos (by simp)]
theorem made_map (w : World) : (Instr.makeMap 85 none).run Try.prog w = .ok (.map (some w.heap.size)) (w.alloc (.map #[] 0)) := by
  simp [run_makeMap]
theorem stoC_new {w : World} {p mb : Nat} {cs : Array Value} {o : Obj} (hp : w.heap[p]? = some (.cells cs 87 (0, 0))) (h1 : cs.size = 257) (h2 : ∀ j, j < 256 → cs[j]? = some (.slice none 0 0)) (h3 : cs[256]? = some (.map (some mb)))
    (hm : w.heap[mb]? = some o) (hne : p ≠ mb) : StoC w p mb o (fun _ => .slice none 0 0) (fun _ => []) :=
  ⟨⟨cs, hp, h1, h2, h3⟩, fun j _ => ⟨by simp [cellsR], .inl ⟨rfl, rfl⟩⟩, hm, fun j j' g _ _ h => (by cases h), fun j g _ h => (by cases h), hne⟩
theorem mpO_new : MpO (.map #[] 0) [] := ⟨#[], 0, rfl, rfl, fun x h => by cases h⟩
set_option maxRecDepth 100000 in
theorem snew_any (w : World) : Calls Try.prog 34 #[] w fun e w' => e = .returned (.pointer (some ⟨w.heap.size + 1, 0, none⟩)) ∧ Made w w' (stoO (w.heap.size + 1) []) := by
  obtain ⟨cs, h0, h1, h2, h3⟩ := sto_zero w.heap.size
  have hmm := made_map w
  have H0 := Lib.hid h0
  have H1 := Lib.hid h1
  have H2 := Lib.hid h2
  have H3 := Lib.hid h3
  clear h0 h1 h2 h3
  go_enter Try.func34, Try.ntmps34
  go_wp2_with fail
  go_ret
  rw [H0.out]
  have hb : Below w.heap.size w ((w.alloc (.map #[] 0)).alloc (.cells cs 87)) := (by repeat' (first | (with_reducible exact Below.refl _ _) | (with_reducible assumption) | (with_reducible refine below_drewN ?_ _) | (with_reducible refine below_more _ _ _ ?_ ?_) | (with_reducible refine Below.alloc ?_ ?_ _) | (with_reducible refine Below.drew ?_) | (with_reducible refine Below.setCell ?_ ?_ _) | go_size))
  refine ⟨rfl, fun x => StoOwn (w.heap.size + 1) w.heap.size (fun _ => .slice none 0 0) x, ⟨w.heap.size, .map #[] 0, fun _ => .slice none 0 0, fun _ => [], [], ?_, mpO_new, sinv_nil, by rw [all_nil], fun _ => Iff.rfl⟩, hb, fun x hx => ?_⟩
  · exact stoC_new (heap_alloc_new_at _ _ _ (by simp)) H1.out H2.out H3.out ((((Below.refl _ (w.alloc (.map #[] 0))).alloc (Nat.le_refl _) _).block w.heap.size (by simp)).trans (heap_alloc_new_at _ _ _ rfl)) (by omega)
  · rcases hx with rfl | rfl | ⟨_, _, h⟩
    · omega
    · omega
    · cases h

section
variable {W1 W : World} {mb : Nat} {ob : Obj}
theorem m_id (hm : W1.heap[mb]? = some ob) : W1.heap.size ≤ W1.heap.size ∧ (∀ b o, b < W1.heap.size → W1.cell? ⟨b, o, none⟩ = W1.cell? ⟨b, o, none⟩) ∧ W1.heap[mb]? = some ob := ⟨Nat.le_refl _, fun _ _ _ => rfl, hm⟩
theorem m_refl (hm : W1.heap[mb]? = some ob) : W1.heap.size ≤ W1.drew.heap.size ∧ (∀ b o, b < W1.heap.size → W1.drew.cell? ⟨b, o, none⟩ = W1.cell? ⟨b, o, none⟩) ∧ W1.drew.heap[mb]? = some ob := ⟨Nat.le_refl _, fun _ _ _ => rfl, hm⟩
theorem m_drew (h : W1.heap.size ≤ W.heap.size ∧ (∀ b o, b < W1.heap.size → W.cell? ⟨b, o, none⟩ = W1.cell? ⟨b, o, none⟩) ∧ W.heap[mb]? = some ob) : W1.heap.size ≤ W.drew.heap.size ∧ (∀ b o, b < W1.heap.size → W.drew.cell? ⟨b, o, none⟩ = W1.cell? ⟨b, o, none⟩) ∧ W.drew.heap[mb]? = some ob := h
theorem m_below {w' : World} (hb : Below W.heap.size W w') (hm : W1.heap[mb]? = some ob) (h : W1.heap.size ≤ W.heap.size ∧ (∀ b o, b < W1.heap.size → W.cell? ⟨b, o, none⟩ = W1.cell? ⟨b, o, none⟩) ∧ W.heap[mb]? = some ob) : W1.heap.size ≤ w'.heap.size ∧ (∀ b o, b < W1.heap.size → w'.cell? ⟨b, o, none⟩ = W1.cell? ⟨b, o, none⟩) ∧ w'.heap[mb]? = some ob :=
  ⟨Nat.le_trans h.1 hb.size, fun b o hlt => (hb.cell (p := ⟨b, o, none⟩) (Nat.lt_of_lt_of_le hlt h.1)).trans (h.2.1 b o hlt), (hb.block mb (Nat.lt_of_lt_of_le (lt_of_heap hm) h.1)).trans h.2.2⟩
theorem m_more (d : Nat) (os : Array Obj) (hm : W1.heap[mb]? = some ob) (h : W1.heap.size ≤ W.heap.size ∧ (∀ b o, b < W1.heap.size → W.cell? ⟨b, o, none⟩ = W1.cell? ⟨b, o, none⟩) ∧ W.heap[mb]? = some ob) : W1.heap.size ≤ (more W d os).heap.size ∧ (∀ b o, b < W1.heap.size → (more W d os).cell? ⟨b, o, none⟩ = W1.cell? ⟨b, o, none⟩) ∧ (more W d os).heap[mb]? = some ob := m_below (more_below W d os) hm h
theorem m_alloc (o' : Obj) (hm : W1.heap[mb]? = some ob) (h : W1.heap.size ≤ W.heap.size ∧ (∀ b o, b < W1.heap.size → W.cell? ⟨b, o, none⟩ = W1.cell? ⟨b, o, none⟩) ∧ W.heap[mb]? = some ob) : W1.heap.size ≤ (W.alloc o').heap.size ∧ (∀ b o, b < W1.heap.size → (W.alloc o').cell? ⟨b, o, none⟩ = W1.cell? ⟨b, o, none⟩) ∧ (W.alloc o').heap[mb]? = some ob := m_below ((Below.refl _ _).alloc (Nat.le_refl _) o') hm h
end
theorem StoC.box {w : World} {p mb : Nat} {o : Obj} {V : Nat → Value} {C : Nat → List Bun} (h : StoC w p mb o V C) (arr : Array Value) (t : TypeId) : ∃ w1, w1 = w.alloc (.cells arr t) ∧ StoC w1 p mb o V C ∧ (∀ u, w1.cell? ⟨w.heap.size, u, none⟩ = arr[u]?) ∧ Below w.heap.size w w1 ∧
    (∀ u, w1.frozen? ⟨w.heap.size, u, none⟩ = false) ∧ w1.heap.size = w.heap.size + 1 ∧ w1.cell? ⟨p, 256, none⟩ = some (.map (some mb)) ∧ w1.heap[mb]? = some o ∧ p < w1.heap.size ∧ ¬ StoOwn p mb V w.heap.size := by
  obtain ⟨w1, hw, hc, hb, hf, hs⟩ := one_box w arr t
  have h1 := h.grow hb
  exact ⟨w1, hw, h1, hc, hb, hf, hs, h1.mcell, h1.map, h1.lt (.inl rfl), fun e => by have := h.lt e; omega⟩
set_option maxRecDepth 100000 in
theorem shas_any (w : World) (p mb : Nat) (o : Obj) (V : Nat → Value) (C : Nat → List Bun) (P : List Pl) (n : Nid) (h : StoC w p mb o V C) (hm : MpO o P) (hn : NFit n) (hd : (P.map fun x => x.1).Nodup) :
    Calls Try.prog 50 #[.pointer (some ⟨p, 0, none⟩), .agg #[.int .i64 n.s, .int .i64 n.i, .int .i64 n.g]] w fun e w' => e = .returned (.bool (decide (n ∈ P.map fun x => x.1))) ∧ Below w.heap.size w w' := by
  have hlk : ∃ (a b : Int), ∀ (W : World), W.heap[mb]? = some o → (Instr.lookup 85 (.map (some mb)) (.agg #[.int .i64 n.s, .int .i64 n.i, .int .i64 n.g]) true).run Try.prog W = .ok (.tuple #[.agg #[.int .i64 a, .int .i64 b], .bool (decide (n ∈ P.map fun x => x.1))]) W := by
    by_cases hin : n ∈ P.map fun x => x.1
    · obtain ⟨⟨n', m, r⟩, hx, rfl⟩ := List.mem_map.1 hin
      exact ⟨m, r, fun W hW => by rw [hm.look _ hn hd hx true W mb hW]; simp [hin]⟩
    · exact ⟨0, 0, fun W hW => by rw [hm.look_no _ hn hin true W mb hW]; simp [hin]⟩
  obtain ⟨va, vb, hlk⟩ := hlk
  generalize decide (n ∈ P.map fun x => x.1) = q at *
  obtain ⟨w1, hw1, h1, hc, hb, hf, hs, hmc, hmo, hp, _⟩ := h.box #[.int .i64 n.s, .int .i64 n.i, .int .i64 n.g] 48
  have x0 := hc 0; simp at x0; have x1 := hc 1; simp at x1; have x2 := hc 2; simp at x2
  have l1 : w.heap.size < w1.heap.size := by omega
  have HW1 := Lib.hid hw1
  have HB1 := Lib.hid hb
  clear hw1 h1 hc hf hb hm hn hd h hs
  go_enter Try.func50, Try.ntmps50
  go_upto_region 1 with fail
  rw [← HW1.out]
  go_region_held3 (fun W => (w1).heap.size ≤ W.heap.size ∧ (∀ b o, b < (w1).heap.size → W.cell? ⟨b, o, none⟩ = (w1).cell? ⟨b, o, none⟩) ∧ W.heap[mb]? = some o) (with_reducible (repeat (first | assumption | exact m_refl (by assumption) | exact m_id (by assumption) | refine m_more _ _ (by assumption) ?_ | refine m_alloc _ (by assumption) ?_ | refine m_drew ?_))) (first | (fail))
  all_goals (go_wp2_with fail; go_ret; exact ⟨rfl, HB1.out.trans (Below.mono (B := w1.heap.size) (by repeat' (first | (with_reducible exact Below.refl _ _) | (with_reducible assumption) | (with_reducible refine below_drewN ?_ _) | (with_reducible refine below_more _ _ _ ?_ ?_) | (with_reducible refine Below.alloc ?_ ?_ _) | (with_reducible refine Below.drew ?_) | (with_reducible refine Below.setCell ?_ ?_ _) | go_size)) HB1.out.size)⟩)
theorem slen_any (w : World) (p mb : Nat) (o : Obj) (V : Nat → Value) (C : Nat → List Bun) (P : List Pl) (h : StoC w p mb o V C) (hm : MpO o P) :
    Calls Try.prog 30 #[.pointer (some ⟨p, 0, none⟩)] w fun e w' => e = .returned (.int .i64 (P.length : Int)) ∧ w = w' := by
  have hl := fun ty => hm.length w mb ty h.map
  have hc := h.mcell
  clear h hm
  go_enter Try.func30, Try.ntmps30
  go_wp2_with fail
  go_ret
  exact ⟨rfl, rfl⟩
end Go.Proofs.Ytmkfjelpekkmmaa
namespace Go.Proofs.Ytmkfjelpekkmmaa
open Go.RowKit

theorem StoC.elem {w : World} {p mb : Nat} {o : Obj} {V : Nat → Value} {C : Nat → List Bun} (h : StoC w p mb o V C) {j : Nat} (hj : j < 256) {r : Nat} {b : Bun} (hb : (C j)[r]? = some b) :
    ∃ g off cap, V j = .slice (some ⟨g, off, none⟩) (C j).length cap ∧ g < w.heap.size ∧ ∀ i u, (colL (j % 8) b)[i]? = some u → w.cell? ⟨g, off + r * colS (j % 8) + i, none⟩ = some u :=
  RIn.cells (colL_len (j % 8)) (RIn.of_sl (h.col j hj)) hb
theorem StoC.num {w : World} {p mb : Nat} {o : Obj} {V : Nat → Value} {T : Nat → List Bun} (h : StoC w p mb o V (fun j => T (j / 8))) {m : Nat} (hm : m < 32) {c : Nat} (hc0 : 0 < c) (hc : c < 8) {r : Nat} {b : Bun} (hb : (T m)[r]? = some b) :
    ∃ g off cap, w.cell? ⟨p, m * 8 + c, none⟩ = some (.slice (some ⟨g, off, none⟩) (T m).length cap) ∧ g < w.heap.size ∧ w.cell? ⟨g, off + r, none⟩ = some (.int .i64 ((numL b).getD (c - 1) 0)) := by
  obtain ⟨g, off, cap, hv, hg, hcell⟩ := h.elem (j := m * 8 + c) (by omega) (r := r) (b := b) (by show (T ((m * 8 + c) / 8))[r]? = some b; rw [show (m * 8 + c) / 8 = m by omega]; exact hb)
  simp only [show (m * 8 + c) / 8 = m by omega, show (m * 8 + c) % 8 = c by omega] at hv hcell
  have h1 := hcell 0 (.int .i64 ((numL b).getD (c - 1) 0)) (by unfold colL; rw [if_neg (by omega)]; rfl)
  rw [show colS c = 1 by unfold colS; rw [if_neg (by omega)], Nat.mul_one, Nat.add_zero] at h1
  exact ⟨g, off, cap, by rw [h.cell (by omega), hv], hg, h1⟩
theorem StoC.nam {w : World} {p mb : Nat} {o : Obj} {V : Nat → Value} {T : Nat → List Bun} (h : StoC w p mb o V (fun j => T (j / 8))) {m : Nat} (hm : m < 32) {r : Nat} {b : Bun} (hb : (T m)[r]? = some b) :
    ∃ g off cap, w.cell? ⟨p, m * 8, none⟩ = some (.slice (some ⟨g, off, none⟩) (T m).length cap) ∧ g < w.heap.size ∧ w.cell? ⟨g, off + r * 3, none⟩ = some (.int .i64 b.s) ∧ w.cell? ⟨g, off + r * 3 + 1, none⟩ = some (.int .i64 b.i) ∧ w.cell? ⟨g, off + r * 3 + 2, none⟩ = some (.int .i64 b.g) := by
  obtain ⟨g, off, cap, hv, hg, hcell⟩ := h.elem (j := m * 8) (by omega) (r := r) (b := b) (by show (T (m * 8 / 8))[r]? = some b; rw [show m * 8 / 8 = m by omega]; exact hb)
  simp only [show m * 8 / 8 = m by omega, show m * 8 % 8 = 0 by omega] at hv hcell
  exact ⟨g, off, cap, by rw [h.cell (by omega), hv], hg, hcell 0 _ rfl, hcell 1 _ rfl, hcell 2 _ rfl⟩
set_option maxRecDepth 100000 in
set_option maxHeartbeats 1000000 in
theorem sat_any (w : World) (p mb : Nat) (o : Obj) (V : Nat → Value) (T : Nat → List Bun) (m r : Nat) (b : Bun) (h : StoC w p mb o V (fun j => T (j / 8))) (hm : m < 32) (hb : (T m)[r]? = some b) (hbm : b.m = (m : Int)) :
    Calls Try.prog 51 #[.pointer (some ⟨p, 0, none⟩), .agg #[.int .i64 m, .int .i64 r]] w fun e w' => e = .returned (.agg b.arr) ∧ Below w.heap.size w w' := by
  obtain ⟨w1, hw1, hb1, hc3, hc4, hf3, hf4, hs⟩ := two_boxes w #[.int .i64 m, .int .i64 r] #[.int .i64 0, .int .i64 0, .int .i64 0, .int .i64 0, .int .i64 0, .int .i64 0, .int .i64 0, .int .i64 0, .int .i64 0, .int .i64 0, .int .i64 0] 81 51
  have h1 := h.grow hb1
  have hr : r < (T m).length := (List.getElem?_eq_some_iff.1 hb).1
  obtain ⟨g0, o0, c0, v0, l0, e0, e0', e0''⟩ := h1.nam hm hb
  obtain ⟨g1, o1, c1, v1, l1, e1⟩ := h1.num hm (c := 1) (by omega) (by omega) hb
  obtain ⟨g2, o2, c2, v2, l2, e2⟩ := h1.num hm (c := 2) (by omega) (by omega) hb
  obtain ⟨g3, o3, c3, v3, l3, e3⟩ := h1.num hm (c := 3) (by omega) (by omega) hb
  obtain ⟨g4, o4, c4, v4, l4, e4⟩ := h1.num hm (c := 4) (by omega) (by omega) hb
  obtain ⟨g5, o5, c5, v5, l5, e5⟩ := h1.num hm (c := 5) (by omega) (by omega) hb
  obtain ⟨g6, o6, c6, v6, l6, e6⟩ := h1.num hm (c := 6) (by omega) (by omega) hb
  obtain ⟨g7, o7, c7, v7, l7, e7⟩ := h1.num hm (c := 7) (by omega) (by omega) hb
  have hlp : p < w1.heap.size := h1.lt (.inl rfl)
  have x30 := hc3 0; simp at x30; have x31 := hc3 1; simp at x31
  have x40 := hc4 0; simp at x40; have y40 := hf4 0; have x41 := hc4 1; simp at x41; have y41 := hf4 1; have x42 := hc4 2; simp at x42; have y42 := hf4 2; have x43 := hc4 3; simp at x43; have y43 := hf4 3; have x44 := hc4 4; simp at x44; have y44 := hf4 4; have x45 := hc4 5; simp at x45; have y45 := hf4 5; have x46 := hc4 6; simp at x46; have y46 := hf4 6; have x47 := hc4 7; simp at x47; have y47 := hf4 7; have x48 := hc4 8; simp at x48; have y48 := hf4 8; have x49 := hc4 9; simp at x49; have y49 := hf4 9; have x410 := hc4 10; simp at x410; have y410 := hf4 10
  have q3 : w.heap.size < w1.heap.size := by omega
  have q4 : w.heap.size + 1 < w1.heap.size := by omega
  generalize (T m).length = N at *
  have hm0 : (0 : Int) ≤ (m : Int) := by omega
  have hm1 : (m : Int) < 32 := by omega
  have hr0 : (0 : Int) ≤ (r : Int) := by omega
  have hr1 : (r : Int) < (N : Int) := by omega
  obtain ⟨s, i, g, m, x, y, vx, vy, hp, pw, lf⟩ := b
  simp only [numL, List.getD_cons_zero, List.getD_cons_succ, Nat.reduceSub] at e0 e0' e0'' e1 e2 e3 e4 e5 e6 e7 hbm
  subst hbm
  have HW1 := Lib.hid hw1
  have HB1 := Lib.hid hb1
  clear hw1 hb1 hc3 hc4 hf3 hf4 hs h h1 hb
  go_enter Try.func51, Try.ntmps51
  go_upto_region 1 with fail
  rw [← HW1.out]
  refine wp_region_more (by kernel_rfl) (by kernel_rfl) ?_
  repeat (go_big_quiet_step (fail))
  refine wpQuiet_nil ?_
  rintro _ ⟨pn, rfl⟩
  go_upto_region 3 with fail
  refine wp_region_still_tail 59 (by kernel_rfl) (by kernel_rfl) ?_
  simp only [List.take_succ_cons, List.take_zero, List.drop_succ_cons, List.drop_zero]
  repeat (first | still_step)
  refine wpStill_nil ?_
  go_wp2_with fail
  have hbw := HB1.out
  exact bodyPost_ret (v := .agg #[.int .i64 s, .int .i64 i, .int .i64 g, .int .i64 (m : Int), .int .i64 x, .int .i64 y, .int .i64 vx, .int .i64 vy, .int .i64 hp, .int .i64 pw, .int .i64 lf]) (by simp [results, Try.results51, go_sem, *]) rfl ⟨rfl, (by repeat' (first | (with_reducible exact Below.refl _ _) | (with_reducible assumption) | (with_reducible refine below_drewN ?_ _) | (with_reducible refine below_more _ _ _ ?_ ?_) | (with_reducible refine Below.alloc ?_ ?_ _) | (with_reducible refine Below.drew ?_) | (with_reducible refine Below.setCell ?_ ?_ _) | go_size))⟩
end Go.Proofs.Ytmkfjelpekkmmaa
