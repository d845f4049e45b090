/-
  Chapter texts QmR QmT: what the claim reaches of them. Conditions stand at each theorem.
-/
import Derived.Laws.EntriesVeiled
import Derived.Test.YtmkfjelpekkmmaaQ28
import Derived.Test.YtmkfjelpekkmmaaQ27
namespace Go.Proofs.Ytmkfjelpekkmmaa
open Go.RowKit Go.Sort

structure NearAt (W : World) (bx by_ bf : Nat) (px py : Int) : Prop where
  cx : W.cell? ⟨bx, 0, none⟩ = some (.int .i64 px)
  cy : W.cell? ⟨by_, 0, none⟩ = some (.int .i64 py)
  cf : W.cell? ⟨bf, 0, none⟩ = some (.func (.func 43) #[] #[.pointer (some ⟨bx, 0, none⟩), .pointer (some ⟨by_, 0, none⟩)])
theorem NearAt.grow {W W' : World} {bx by_ bf : Nat} {px py : Int} (h : NearAt W bx by_ bf px py) (hb : Below W.heap.size W W') : NearAt W' bx by_ bf px py := ⟨cell_keep hb h.cx, cell_keep hb h.cy, cell_keep hb h.cf⟩
theorem near1_any (b : Bun) (w : World) (bx by_ bf : Nat) (px py : Int) (h : NearAt w bx by_ bf px py) :
    Calls Try.prog 43 #[.agg b.arr, .pointer (some ⟨bx, 0, none⟩), .pointer (some ⟨by_, 0, none⟩)] w fun e w' => e = .returned (.int .i64 (farF px py b.x b.y)) ∧ w' = w.alloc (.cells b.arr 51) := by
  have lx := World.block_lt_of_cell? w _ h.cx
  have ly := World.block_lt_of_cell? w _ h.cy
  have cx := h.cx
  have cy := h.cy
  have HF := Lib.hid (fun W => far_any px py b.x b.y W)
  clear h
  go_enter Try.func43, Try.ntmps43
  go_wp2_with (go_at_call 44; refine (HF.out _).mono ?_; rintro e w' ⟨rfl, rfl⟩)
  go_ret
  exact ⟨rfl, rfl⟩
theorem near1_eg : ∀ args w, (callFunc 43 args).run Try.prog w = .ok (.enter 43 args) w := fun _ _ => by kernel_rfl
set_option maxRecDepth 100000 in
set_option maxHeartbeats 1000000 in
theorem near2_any (b : Bun) (w : World) (bx by_ bf bd : Nat) (px py d : Int) (h : NearAt w bx by_ bf px py) (hd : w.cell? ⟨bd, 0, none⟩ = some (.int .i64 d)) :
    Calls Try.prog 45 (#[.agg b.arr] ++ #[.pointer (some ⟨bf, 0, none⟩), .pointer (some ⟨bd, 0, none⟩)]) w fun e w' => e = .returned (.bool (decide (farF px py b.x b.y ≤ d))) ∧ Below w.heap.size w w' := by
  show Calls Try.prog 45 #[.agg b.arr, .pointer (some ⟨bf, 0, none⟩), .pointer (some ⟨bd, 0, none⟩)] w _
  obtain ⟨w1, hw1, hc, hb1, hf1, hs1⟩ := one_box w b.arr 51
  have h1 := h.grow hb1
  have hd1 := cell_keep hb1 hd
  have lf := World.block_lt_of_cell? w1 _ h1.cf
  have ld := World.block_lt_of_cell? w1 _ hd1
  have cf := h1.cf
  have x0 := hc 0; simp at x0; have x1 := hc 1; simp at x1; have x2 := hc 2; simp at x2; have x3 := hc 3; simp at x3; have x4 := hc 4; simp at x4; have x5 := hc 5; simp at x5; have x6 := hc 6; simp at x6; have x7 := hc 7; simp at x7; have x8 := hc 8; simp at x8; have x9 := hc 9; simp at x9; have x10 := hc 10; simp at x10
  have l1 : w.heap.size < w1.heap.size := by omega
  have HN := Lib.hid (fun W (hW : Below w1.heap.size w1 W) => near1_any b W bx by_ bf px py (h1.grow hW))
  generalize farF px py b.x b.y = q at *
  have HW1 := Lib.hid hw1
  have HB1 := Lib.hid hb1
  have eg := near1_eg
  clear hw1 hb1 hc hf1 hs1 h h1 hd
  go_enter Try.func45, Try.ntmps45
  go_upto_region 1 with fail
  rw [← HW1.out]
  go_region_held3 (fun W => (w1).heap.size ≤ W.heap.size ∧ ∀ b o, b < (w1).heap.size → W.cell? ⟨b, o, none⟩ = (w1).cell? ⟨b, o, none⟩) (with_reducible (repeat (first | assumption | exact s_refl _ | exact s_id _ | refine s_more _ _ ?_ | refine s_alloc _ ?_ | refine s_drew ?_))) (first | (go_simp; go_at_call 43; refine (HN.out _ (by repeat' (first | (with_reducible exact Below.refl _ _) | (with_reducible assumption) | (with_reducible refine below_drewN ?_ _) | (with_reducible refine below_more _ _ _ ?_ ?_) | (with_reducible refine Below.alloc ?_ ?_ _) | (with_reducible refine Below.drew ?_) | (with_reducible refine Below.setCell ?_ ?_ _) | go_size))).mono ?_; rintro e w' ⟨rfl, rfl⟩))
  all_goals (go_wp2_with fail; go_ret; exact ⟨rfl, HB1.out.trans (Below.mono (B := w1.heap.size) (by repeat' (first | (with_reducible exact Below.refl _ _) | (with_reducible assumption) | (with_reducible refine below_drewN ?_ _) | (with_reducible refine below_more _ _ _ ?_ ?_) | (with_reducible refine Below.alloc ?_ ?_ _) | (with_reducible refine Below.drew ?_) | (with_reducible refine Below.setCell ?_ ?_ _) | go_size)) HB1.out.size)⟩)
set_option maxRecDepth 100000 in
set_option maxHeartbeats 2000000 in
theorem near3_any (a b : Bun) (w : World) (bx by_ bf : Nat) (px py : Int) (h : NearAt w bx by_ bf px py) :
    Calls Try.prog 47 (#[.agg a.arr, .agg b.arr] ++ #[.pointer (some ⟨bf, 0, none⟩)]) w fun e w' => e = .returned (.int .i64 (cmpI (farF px py a.x a.y) (farF px py b.x b.y))) ∧ ∃ q os, w' = grow (w.drewN q) os := by
  show Calls Try.prog 47 #[.agg a.arr, .agg b.arr, .pointer (some ⟨bf, 0, none⟩)] w _
  obtain ⟨w1, hw1, hb1, hc3, hc4, hf3, hf4, hs1⟩ := two_boxes w a.arr b.arr 51 51
  have h1 := h.grow hb1
  have lf := World.block_lt_of_cell? w1 _ h1.cf
  have cf := h1.cf
  have x0 := hc3 0; simp at x0; have x1 := hc3 1; simp at x1; have x2 := hc3 2; simp at x2; have x3 := hc3 3; simp at x3; have x4 := hc3 4; simp at x4; have x5 := hc3 5; simp at x5; have x6 := hc3 6; simp at x6; have x7 := hc3 7; simp at x7; have x8 := hc3 8; simp at x8; have x9 := hc3 9; simp at x9; have x10 := hc3 10; simp at x10
  have y0 := hc4 0; simp at y0; have y1 := hc4 1; simp at y1; have y2 := hc4 2; simp at y2; have y3 := hc4 3; simp at y3; have y4 := hc4 4; simp at y4; have y5 := hc4 5; simp at y5; have y6 := hc4 6; simp at y6; have y7 := hc4 7; simp at y7; have y8 := hc4 8; simp at y8; have y9 := hc4 9; simp at y9; have y10 := hc4 10; simp at y10
  have l1 : w.heap.size < w1.heap.size := by omega
  have l2 : w.heap.size + 1 < w1.heap.size := by omega
  have HNA := Lib.hid (fun W (hW : Below w1.heap.size w1 W) => near1_any a W bx by_ bf px py (h1.grow hW))
  have HNB := Lib.hid (fun W (hW : Below w1.heap.size w1 W) => near1_any b W bx by_ bf px py (h1.grow hW))
  generalize farF px py a.x a.y = q at *
  generalize farF px py b.x b.y = q2 at *
  have HG1 := Lib.hid (show Gw w w1 by rw [hw1]; exact ((Gw.refl w).alloc _).alloc _)
  have HW1 := Lib.hid hw1
  have eg := near1_eg
  clear hw1 hb1 hc3 hc4 hf3 hf4 hs1 h h1
  obtain ⟨s, i, g, m, x, y, vx, vy, hp, pw, lf⟩ := a
  obtain ⟨s', i', g', m', x', y', vx', vy', hp', pw', lf'⟩ := b
  go_enter Try.func47, Try.ntmps47
  go_upto_region 1 with fail
  rw [← HW1.out]
  go_region_held3 (fun W => (w1).heap.size ≤ W.heap.size ∧ ∀ b o, b < (w1).heap.size → W.cell? ⟨b, o, none⟩ = (w1).cell? ⟨b, o, none⟩) (with_reducible (repeat (first | assumption | exact s_refl _ | exact s_id _ | refine s_more _ _ ?_ | refine s_alloc _ ?_ | refine s_drew ?_))) (first | (go_simp; go_at_call 43; (with_reducible refine (HNA.out _ (by repeat' (first | (with_reducible exact Below.refl _ _) | (with_reducible assumption) | (with_reducible refine below_drewN ?_ _) | (with_reducible refine below_more _ _ _ ?_ ?_) | (with_reducible refine Below.alloc ?_ ?_ _) | (with_reducible refine Below.drew ?_) | (with_reducible refine Below.setCell ?_ ?_ _) | go_size))).mono ?_); rintro e w' ⟨rfl, rfl⟩) | (go_simp; go_at_call 43; (with_reducible refine (HNB.out _ (by repeat' (first | (with_reducible exact Below.refl _ _) | (with_reducible assumption) | (with_reducible refine below_drewN ?_ _) | (with_reducible refine below_more _ _ _ ?_ ?_) | (with_reducible refine Below.alloc ?_ ?_ _) | (with_reducible refine Below.drew ?_) | (with_reducible refine Below.setCell ?_ ?_ _) | go_size))).mono ?_); rintro e w' ⟨rfl, rfl⟩) | (go_simp; go_at_call 48; refine (cmpC_any _ _ _).mono ?_; rintro e w' ⟨rfl, rfl⟩))
  all_goals (go_wp2_with fail; go_ret)
  all_goals (refine ⟨rfl, ?_⟩)
  all_goals (show Gw w _)
  all_goals (refine HG1.out.trans ?_)
  all_goals (with_reducible (repeat (first | exact Gw.refl _ | refine Gw.drew ?_ | refine Gw.alloc ?_ _)))
def cmpFar (px py : Int) (a b : Bun) : Int := cmpI (farF px py a.x a.y) (farF px py b.x b.y)
theorem cmpFar_ok (px py : Int) : CmpOk (cmpFar px py) where
  neg a b := by have h1 := cmpI_spec (farF px py a.x a.y) (farF px py b.x b.y); have h2 := cmpI_spec (farF px py b.x b.y) (farF px py a.x a.y); unfold cmpFar; omega
  zero a b := by have h1 := cmpI_spec (farF px py a.x a.y) (farF px py b.x b.y); have h2 := cmpI_spec (farF px py b.x b.y) (farF px py a.x a.y); unfold cmpFar; omega
  trans a b c h h' := by have h1 := cmpI_spec (farF px py a.x a.y) (farF px py b.x b.y); have h2 := cmpI_spec (farF px py b.x b.y) (farF px py c.x c.y); have h3 := cmpI_spec (farF px py a.x a.y) (farF px py c.x c.y); unfold cmpFar at *; omega
  transl a b c h h' := by have h1 := cmpI_spec (farF px py a.x a.y) (farF px py b.x b.y); have h2 := cmpI_spec (farF px py b.x b.y) (farF px py c.x c.y); have h3 := cmpI_spec (farF px py a.x a.y) (farF px py c.x c.y); unfold cmpFar at *; omega
  transr a b c h h' := by have h1 := cmpI_spec (farF px py a.x a.y) (farF px py b.x b.y); have h2 := cmpI_spec (farF px py b.x b.y) (farF px py c.x c.y); have h3 := cmpI_spec (farF px py a.x a.y) (farF px py c.x c.y); unfold cmpFar at *; omega
theorem sortWorld_cell (w0 : World) (blk off m : Nat) (dk : Array (Bun × Nat)) (os : Array Obj) (a : Addr) (h1 : a.block < w0.heap.size) (h2 : a.block ≠ blk) : (sortWorldK (fun x : Bun × Nat => bunL x.1) 11 w0 blk off m dk os).cell? a = w0.cell? a := by
  refine World.cell?_of_block (w := w0) ?_
  unfold sortWorldK putRowK
  show ((putRow id (Sort.ahead w0 m) blk off (flatK (fun x : Bun × Nat => bunL x.1) 11 dk)).heap ++ os)[a.block]? = _
  rw [Array.getElem?_append_left (by simpa [putRow, mapBlock, Sort.ahead] using h1)]
  simp [putRow, mapBlock, Array.getElem?_modify, Sort.ahead, Ne.symm h2]
theorem cmpr_far (blk off : Nat) (l : List Bun) (w0 : World) (hl : l.length ≤ 1000000) (hb : blk < w0.heap.size) (hH : HoldsK (fun x : Bun × Nat => bunL x.1) 11 w0 blk off (tagd l)) (bx by_ bf : Nat) (px py : Int) (h : NearAt w0 bx by_ bf px py) (n1 : bx ≠ blk) (n2 : by_ ≠ blk) (n3 : bf ≠ blk) :
    Cmpr (fun x : Bun × Nat => bunL x.1) (cfT (cmpFar px py)) (ltT (cmpFar px py)) 47 #[.pointer (some ⟨bf, 0, none⟩)] blk off (tagd l) w0 where
  eg := fun _ _ => by kernel_rfl
  hS := ltT_swo (cmpFar_ok px py)
  hc := fun m os dk _ x y => by
    have hN : NearAt (sortWorldK (fun x : Bun × Nat => bunL x.1) 11 w0 blk off m dk os) bx by_ bf px py :=
      ⟨(sortWorld_cell w0 blk off m dk os _ (World.block_lt_of_cell? w0 _ h.cx) n1).trans h.cx, (sortWorld_cell w0 blk off m dk os _ (World.block_lt_of_cell? w0 _ h.cy) n2).trans h.cy, (sortWorld_cell w0 blk off m dk os _ (World.block_lt_of_cell? w0 _ h.cf) n3).trans h.cf⟩
    exact near3_any x.1 y.1 _ bx by_ bf px py hN
  R := ⟨fun x => rfl, fun x v hv => by
    simp [bunL] at hv
    rcases hv with rfl | rfl | rfl | rfl | rfl | rfl | rfl | rfl | rfl | rfl | rfl <;> rfl, hH, hb⟩
  sz := by rw [size_tagd]; omega
end Go.Proofs.Ytmkfjelpekkmmaa
namespace Go.Proofs.Ytmkfjelpekkmmaa
open Go.RowKit Go.Sort

theorem five_boxes (w : World) (qa qn px py d : Int) : ∃ w1, w1 = ((((w.alloc (.cells #[.int .i64 qa, .int .i64 qn] 23)).alloc (.cells #[.int .i64 px] 3)).alloc (.cells #[.int .i64 py] 3)).alloc (.cells #[.int .i64 d] 3)).alloc (.cells #[.func (.func 43) #[] #[.pointer (some ⟨w.heap.size + 1, 0, none⟩), .pointer (some ⟨w.heap.size + 1 + 1, 0, none⟩)]] 75) ∧ Below w.heap.size w w1 ∧ NearAt w1 (w.heap.size + 1) (w.heap.size + 1 + 1) (w.heap.size + 1 + 1 + 1 + 1) px py ∧ w1.cell? ⟨w.heap.size + 1 + 1 + 1, 0, none⟩ = some (.int .i64 d) ∧ w1.heap.size = w.heap.size + 5 :=
  ⟨_, rfl, (by repeat' (first | (with_reducible exact Below.refl _ _) | (with_reducible assumption) | (with_reducible refine below_drewN ?_ _) | (with_reducible refine below_more _ _ _ ?_ ?_) | (with_reducible refine Below.alloc ?_ ?_ _) | (with_reducible refine Below.drew ?_) | (with_reducible refine Below.setCell ?_ ?_ _) | go_size)), ⟨by simp [go_sem], by simp [go_sem], by simp [go_sem]⟩, by simp [go_sem], by simp⟩
def nearF (qa qn px py d : Int) (L : List Bun) : List Bun := stableF (cmpFar px py) (foundF qa qn (fun b => decide (farF px py b.x b.y ≤ d)) L)
set_option maxRecDepth 100000 in
set_option maxHeartbeats 1000000 in
theorem qnear_any (w : World) (v : Value) (L : List Bun) (h : FoundAt w v L) (hv : ∃ q, v = .pointer q) (qa qn px py d : Int) :
    Calls Try.prog 24 #[v, .agg #[.int .i64 qa, .int .i64 qn], .int .i64 px, .int .i64 py, .int .i64 d] w fun e w' => ∃ v', e = .returned v' ∧ RNew nidL 48 3 w w' v' ((nearF qa qn px py d L).map idOf) := by
  obtain ⟨q, rfl⟩ := hv
  obtain ⟨w1, hw1, hb1, hn1, hd1, hs1⟩ := five_boxes w qa qn px py d
  have HF := Lib.hid (h.2 w1 hb1 qa qn 45 #[.pointer (some ⟨w.heap.size + 1 + 1 + 1 + 1, 0, none⟩), .pointer (some ⟨w.heap.size + 1 + 1 + 1, 0, none⟩)] (fun _ _ => by kernel_rfl) (fun b => decide (farF px py b.x b.y ≤ d))
    (fun W2 hW2 x => near2_any x W2 _ _ _ _ px py d (hn1.grow hW2) (cell_keep hW2 hd1)))
  have hl := Nat.le_trans (foundF_len qa qn (fun b => decide (farF px py b.x b.y ≤ d)) L) h.1
  unfold nearF
  generalize foundF qa qn (fun b => decide (farF px py b.x b.y ≤ d)) L = l at *
  have HW1 := Lib.hid hw1
  have HB1 := Lib.hid hb1
  have HN1 := Lib.hid hn1
  have HS1 := Lib.hid hs1
  clear h hw1 hb1 hn1 hd1 hs1
  go_enter Try.func24, Try.ntmps24
  go_wp2_with fail
  rw [← HW1.out]
  refine (HF.out).mono ?_
  rintro e w2 ⟨v2, rfl, hs, hb, hg⟩
  have HB2 : Hid (Below w.heap.size w w2) := Lib.hid (HB1.out.trans (hb.mono HB1.out.size))
  have HN2 := Lib.hid (HN1.out.grow hb)
  have HS := Lib.hid hs
  have HG := Lib.hid hg
  by_cases h0 : l = []
  · subst h0
    obtain ⟨p, cap, rfl⟩ : ∃ p cap, v2 = .slice p 0 cap := by
      obtain ⟨_, ⟨rfl, _⟩ | ⟨g, off, cap, cur, rfl, _⟩⟩ := hs
      · exact ⟨none, 0, rfl⟩
      · exact ⟨_, cap, rfl⟩
    have HNM := Lib.hid (names_any (.slice p 0 cap) [] w2 (BIn.of_sl hs) (by simp))
    clear hs hb hg
    go_wp2_with (go_at_call 46; refine (ssf_nil _ _ _ _).mono ?_; rintro e w' ⟨rfl, rfl⟩)
    refine HNM.out.mono ?_
    rintro e w3 ⟨v3, rfl, hR⟩
    have HR := Lib.hid (hR.since HB2.out)
    clear hR
    go_wp2_with fail
    go_ret
    have e0 : stableF (cmpFar px py) [] = [] := by simp [stableF]
    exact ⟨_, rfl, by rw [e0]; exact HR.out⟩
  · obtain ⟨blk, off, cap, rfl⟩ : ∃ blk off cap, v2 = .slice (some ⟨blk, off, none⟩) l.length cap := by
      obtain ⟨_, ⟨rfl, h1⟩ | ⟨g, off, cap, cur, rfl, _⟩⟩ := hs
      · exact absurd (List.eq_nil_of_length_eq_zero h1) h0
      · exact ⟨g, off, cap, rfl⟩
    obtain ⟨hblk, hH⟩ := holds_of_sl hs
    have hgb := hg blk rfl
    have hs1 := HS1.out
    have hss := ssf_any bunL (cmpFar px py) (cmpFar_ok px py) 47 #[.pointer (some ⟨w.heap.size + 1 + 1 + 1 + 1, 0, none⟩)] blk off cap l w2 (cmpr_far blk off l w2 hl hblk hH _ _ _ px py HN2.out (by omega) (by omega) (by omega))
    have HSS := Lib.hid hss
    clear hs hb hg hss hH h0
    go_wp2_with fail
    refine HSS.out.mono ?_
    rintro e w3 ⟨rfl, d', hd, hsz, hw⟩
    have hq := sl_of_sorted HS.out hsz hw
    rw [hd] at hq
    have hlen : (stableF (cmpFar px py) l).length = l.length := by simp [stableF]
    have HNM := Lib.hid (names_any (.slice (some ⟨blk, off, none⟩) l.length cap) (stableF (cmpFar px py) l) w3 (BIn.of_sl (by rw [hlen]; exact hq.1)) (by rw [hlen]; exact hl))
    have HB3 : Hid (Below w.heap.size w w3) := Lib.hid (hq.2.below_new (fun k hk => by cases hk; omega) HB2.out HB2.out.size)
    clear hd hw hq hgb hs1
    go_wp2_with fail
    refine HNM.out.mono ?_
    rintro e w4 ⟨v4, rfl, hR⟩
    have HR := Lib.hid (hR.since HB3.out)
    clear hR
    go_wp2_with fail
    go_ret
    exact ⟨_, rfl, HR.out⟩
end Go.Proofs.Ytmkfjelpekkmmaa
