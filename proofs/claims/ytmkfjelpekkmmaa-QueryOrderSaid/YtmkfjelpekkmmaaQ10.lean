/-
  Chapter texts QmG: what the claim reaches of them. Conditions stand at each theorem.
-/
import Derived.Test.YtmkfjelpekkmmaaQ08
import Derived.Test.YtmkfjelpekkmmaaQ09
namespace Go.Proofs.Ytmkfjelpekkmmaa
open Go.RowKit

theorem TwoD.below {V W W' : World} {a b : Nat} (h : TwoD V a b W) (hb : Below W.heap.size W W') : TwoD V a b W' := by
  have hs := h.1
  have hs2 := hb.size
  exact ⟨⟨by omega, hs.2⟩, fun o => ⟨(hb.cell (p := ⟨a, o, none⟩) (by simp only; omega)).trans (h.2 o).1, (hb.cell (p := ⟨b, o, none⟩) (by simp only; omega)).trans (h.2 o).2⟩⟩
section
variable {w1 W W' : World} {A : Nat → Prop} {p mb : Nat} {o : Obj} {V : Nat → Value} {C : Nat → List Bun}
theorem StoG.app0 (h : StoG w1 A W p mb o V C) {m : Nat} (hm : m < 32) {b : Bun} {v v0 : Value} {l : List Bun} (hv : V (m * 8) = v0) (ht : Turned W W' v0.ownBlock) (hs : Sl W' 48 3 v (l.length + 1) (cellsR (colL 0) l ++ colL 0 b))
    (ho : ∀ g, v.ownBlock = some g → v0.ownBlock = some g ∨ W.heap.size ≤ g) : StoG w1 A (W'.setCell ⟨p, m * 8, none⟩ v) p mb o (updV V (m * 8) v) (updV C (m * 8) (l ++ [b])) := by
  subst hv
  refine h.put (by omega) ht ?_ ho
  rw [show m * 8 % 8 = 0 by omega, cellsR_app, cellsR_one, List.length_append]
  exact hs
theorem StoG.appc (h : StoG w1 A W p mb o V C) {m c : Nat} (hm : m < 32) (hc : c < 7) {b : Bun} {v v0 : Value} {l : List Bun} (hv : V (m * 8 + (c + 1)) = v0) (ht : Turned W W' v0.ownBlock) (hs : Sl W' 3 1 v (l.length + 1) (cellsR (colL (c + 1)) l ++ [.int .i64 ((numL b).getD c 0)]))
    (ho : ∀ g, v.ownBlock = some g → v0.ownBlock = some g ∨ W.heap.size ≤ g) : StoG w1 A (W'.setCell ⟨p, m * 8 + (c + 1), none⟩ v) p mb o (updV V (m * 8 + (c + 1)) v) (updV C (m * 8 + (c + 1)) (l ++ [b])) := by
  subst hv
  refine h.put (by omega) ht ?_ ho
  rw [show (m * 8 + (c + 1)) % 8 = c + 1 by omega, cellsR_app, cellsR_one, List.length_append]
  exact hs
theorem StoG.sl0 (h : StoG w1 A W p mb o V C) {m : Nat} (hm : m < 32) : Sl W 48 3 (V (m * 8)) (C (m * 8)).length (cellsR (colL 0) (C (m * 8))) := by
  have := h.at_.col (m * 8) (by omega)
  rw [show m * 8 % 8 = 0 by omega] at this
  exact this
theorem StoG.slc (h : StoG w1 A W p mb o V C) {m c : Nat} (hm : m < 32) (hc : c < 7) : Sl W 3 1 (V (m * 8 + (c + 1))) (C (m * 8 + (c + 1))).length (cellsR (colL (c + 1)) (C (m * 8 + (c + 1)))) := by
  have := h.at_.col (m * 8 + (c + 1)) (by omega)
  rw [show (m * 8 + (c + 1)) % 8 = c + 1 by omega] at this
  exact this
theorem StoG.trans {p' mb' : Nat} {o' : Obj} {V' : Nat → Value} {C' : Nat → List Bun} (h : StoG w1 A W p mb o V C) (h2 : StoG W (StoOwn p mb V) W' p' mb' o' V' C') : StoG w1 A W' p' mb' o' V' C' :=
  ⟨h2.at_, h.chg.trans h2.chg fun b hlt hx => (h.own b hx).elim id fun e => by omega, fun x hx => (h2.own x hx).elim (h.own x) fun e => .inr (Nat.le_trans h.chg.size e)⟩
end
def addC (T : Nat → List Bun) (m : Nat) (b : Bun) (t : Nat) : Nat → List Bun := fun j => if j / 8 = m ∧ j % 8 ≤ t then T m ++ [b] else T (j / 8)
theorem addC_zero (T : Nat → List Bun) (m : Nat) (b : Bun) : updV (fun j => T (j / 8)) (m * 8) (T m ++ [b]) = addC T m b 0 := by
  funext j
  unfold updV addC
  by_cases e : j = m * 8
  · subst e
    rw [if_pos rfl, if_pos ⟨by omega, by omega⟩]
  · rw [if_neg e, if_neg (by omega)]
theorem addC_step (T : Nat → List Bun) (m : Nat) (b : Bun) (t : Nat) (ht : t < 7) : addC T m b t (m * 8 + (t + 1)) = T m ∧ updV (addC T m b t) (m * 8 + (t + 1)) (T m ++ [b]) = addC T m b (t + 1) := by
  refine ⟨?_, ?_⟩
  · unfold addC
    rw [if_neg (by omega), show (m * 8 + (t + 1)) / 8 = m by omega]
  · funext j
    unfold updV addC
    by_cases e : j = m * 8 + (t + 1)
    · subst e
      rw [if_pos rfl, if_pos ⟨by omega, by omega⟩]
    · rw [if_neg e]
      by_cases h : j / 8 = m ∧ j % 8 ≤ t
      · rw [if_pos h, if_pos ⟨h.1, by omega⟩]
      · rw [if_neg h, if_neg (by omega)]
theorem addC_last (T : Nat → List Bun) (m : Nat) (b : Bun) : addC T m b 7 = fun j => updT T m (T m ++ [b]) (j / 8) := by
  funext j
  unfold addC updT
  by_cases h : j / 8 = m
  · rw [if_pos ⟨h, by omega⟩, if_pos h]
  · rw [if_neg (fun e => h e.1), if_neg h]

theorem cols_at {W : World} {n p m : Nat} (h : W.heap[n]? = some (.cells #[.pointer (some ⟨p, m * 8 + 1, none⟩), .pointer (some ⟨p, m * 8 + 2, none⟩), .pointer (some ⟨p, m * 8 + 3, none⟩), .pointer (some ⟨p, m * 8 + 4, none⟩), .pointer (some ⟨p, m * 8 + 5, none⟩), .pointer (some ⟨p, m * 8 + 6, none⟩), .pointer (some ⟨p, m * 8 + 7, none⟩)] 104 (0, 0))) {t : Nat} (ht : t < 7) : W.cell? ⟨n, t, none⟩ = some (.pointer (some ⟨p, m * 8 + (t + 1), none⟩)) := by
  simp only [World.cell?, h]
  rcases (by omega : t = 0 ∨ t = 1 ∨ t = 2 ∨ t = 3 ∨ t = 4 ∨ t = 5 ∨ t = 6) with rfl | rfl | rfl | rfl | rfl | rfl | rfl <;> rfl
theorem nums_at {W : World} {n : Nat} (b : Bun) (h : W.heap[n]? = some (.cells #[.int .i64 (b).x, .int .i64 (b).y, .int .i64 (b).vx, .int .i64 (b).vy, .int .i64 (b).hp, .int .i64 (b).pw, .int .i64 (b).lf] 3 (0, 0))) {t : Nat} (ht : t < 7) : W.cell? ⟨n, t, none⟩ = some (.int .i64 ((numL b).getD t 0)) := by
  simp only [World.cell?, h]
  rcases (by omega : t = 0 ∨ t = 1 ∨ t = 2 ∨ t = 3 ∨ t = 4 ∨ t = 5 ∨ t = 6) with rfl | rfl | rfl | rfl | rfl | rfl | rfl <;> rfl
set_option maxRecDepth 100000 in
set_option maxHeartbeats 4000000 in
theorem sadd_any (w : World) (p mb : Nat) (o : Obj) (V : Nat → Value) (T : Nat → List Bun) (P : List Pl) (m : Nat) (b : Bun) (h : StoC w p mb o V (fun j => T (j / 8))) (hmp : MpO o P) (hm : m < 32) (hbm : b.m = (m : Int)) (hf : NFit (idOf b)) (hn : idOf b ∉ P.map fun x => x.1) (hl : (T m).length ≤ 1000000) :
    Calls Try.prog 56 #[.pointer (some ⟨p, 0, none⟩), .agg b.arr] w fun e w' => e = .returned (.tuple #[]) ∧ ∃ o' V', MpO o' (P ++ [(idOf b, m, (T m).length)]) ∧ StoG w (StoOwn p mb V) w' p mb o' V' (fun j => updT T m (T m ++ [b]) (j / 8)) := by
  obtain ⟨o2, hmo2, hmu⟩ := hmp.store_new (idOf b) m (T m).length hf hn
  obtain ⟨i0, hi0, hz0, hz1, hz2⟩ := info_partsG info_nid
  have hinf : (Try.prog.info? 3).map (fun i => (i.zero, i.size, i.bytes)) = some (some (.int .i64 0), 1, 8) := by kernel_rfl
  obtain ⟨i1, hi1, hy0, hy1, hy2⟩ := info_partsG hinf
  obtain ⟨w1, hw1, h1, hc, hb, hfr, hs, hmc, hmo, hpl, hnB⟩ := h.box b.arr 51
  have hmu2 : ∀ d os, (Instr.mapUpdate 85 (.map (some mb)) (.agg #[.int .i64 (idOf b).s, .int .i64 (idOf b).i, .int .i64 (idOf b).g]) (.agg #[.int .i64 m, .int .i64 (T m).length])).run Try.prog (more w1 d os) = .ok () (setB (more w1 d os) mb o2) := fun d os => hmu _ _ (((more_below w1 d os).block mb (h1.lt (.inr (.inl rfl)))).trans hmo)
  have cv1 : w1.cell? ⟨p, m * 8, none⟩ = some (V (m * 8)) := h1.cell (by omega)
  obtain ⟨pv, cv, hv⟩ := sl_frm ((StoG.refl h1).sl0 hm)
  simp only [show m * 8 / 8 = m by omega] at hv
  have l1 : w.heap.size < w1.heap.size := by omega
  have HG1 := Lib.hid (StoG.refl h1)
  have HB1 := Lib.hid hb
  have HW1 := Lib.hid hw1
  have HMO := Lib.hid hmo
  have HMO2 := Lib.hid hmo2
  have HNB := Lib.hid hnB
  have hm0 : (0 : Int) ≤ (m : Int) := by omega
  have hm1 : (m : Int) < 32 := by omega
  obtain ⟨s, i, g, m, x, y, vx, vy, hp, pw, lf⟩ := b
  simp only at hbm
  subst hbm
  simp only [idOf] at hmu2 HMO2
  have HC1 := Lib.hid hc
  have x0 := hc 0; simp at x0; have x1 := hc 1; simp at x1; have x2 := hc 2; simp at x2; have x3 := hc 3; simp at x3; have x4 := hc 4; simp at x4; have x5 := hc 5; simp at x5; have x6 := hc 6; simp at x6; have x7 := hc 7; simp at x7; have x8 := hc 8; simp at x8; have x9 := hc 9; simp at x9; have x10 := hc 10; simp at x10
  have hpm := Lib.hid h.pm
  clear hmp hn hmu hw1 h1 hc hb hfr hs hmo h hnB hf hmo2 hinf
  rw [hv] at cv1
  go_enter Try.func56, Try.ntmps56
  go_upto_region 1 with fail
  rw [← HW1.out]
  refine wp_region_more (by kernel_rfl) (by kernel_rfl) ?_
  repeat (go_big_quiet_step (fail))
  refine wpQuiet_nil ?_
  rintro _ ⟨pa, rfl⟩
  go_upto_region 2 with fail
  refine wp_region_still_tail 14 (by kernel_rfl) (by kernel_rfl) ?_
  simp only [List.take_succ_cons, List.take_zero, List.drop_succ_cons, List.drop_zero]
  repeat (first | still_step)
  refine wpStill_nil ?_
  go_wp2_with fail
  generalize hW2 : setB (more w1 _ _) mb o2 = w2
  have G2 : StoG w1 (StoOwn p mb V) w2 p mb o2 V (fun j => T (j / 8)) := by rw [← hW2]; exact (HG1.out.grow (more_below _ _ _)).setmap (setB_turned _ _ _) (setB_same (((more_below _ _ _).block mb (lt_of_heap HMO.out)).trans HMO.out))
  have cv2 : w2.cell? ⟨p, m * 8, none⟩ = some (.slice pv (T m).length cv) := by rw [← hv]; exact G2.at_.cell (by omega)
  have hap : (Value.slice pv (T m).length cv).ownBlock ≠ some p := by rw [← hv]; exact fun e => (G2.at_.off (m * 8) p (by omega) e).1 rfl
  have hnB : (Value.slice pv (T m).length cv).ownBlock ≠ some w.heap.size := by rw [← hv]; exact fun e => HNB.out (.inr (.inr ⟨m * 8, by omega, e⟩))
  have y0 := (G2.cell l1 HNB.out 0).trans x0; have y1 := (G2.cell l1 HNB.out 1).trans x1; have y2 := (G2.cell l1 HNB.out 2).trans x2
  have lp2 : p < w2.heap.size := G2.at_.lt (.inl rfl)
  have lb2 : w.heap.size < w2.heap.size := Nat.lt_of_lt_of_le l1 G2.chg.size
  have fr2 := G2.at_.fr (m * 8)
  have HSL : Hid (∀ W, Below w2.heap.size w2 W → Sl W 48 3 (.slice pv (T m).length cv) (T m).length (cellsR (colL 0) (T m))) := Lib.hid (fun W hW => by
    have := (G2.grow hW).sl0 hm
    rw [hv] at this
    simpa only [show m * 8 / 8 = m by omega] using this)
  have HG2 := Lib.hid G2
  have HX := Lib.hid (And.intro x3 (And.intro x4 (And.intro x5 (And.intro x6 (And.intro x7 (And.intro x8 (And.intro x9 x10)))))))
  have HV := Lib.hid hv
  clear hW2 G2 hmu2 hmc cv1 hpl hv x0 x1 x2 x3 x4 x5 x6 x7 x8 x9 x10
  refine wp_region_x (S := TwoD w2 p w.heap.size) 11 (by kernel_rfl) ⟨⟨Nat.le_refl _, lp2, lb2⟩, fun _ => ⟨rfl, rfl⟩⟩ (fun hHeld => ?_)
  refine anyX_take (n := 11) (i := 0) (v := ?_) rfl (by kernel_rfl) (fun _ _ _ h => h) (Or.inl ⟨by rfl, ?_⟩) (by assumption) ?_
  rotate_left 1
  · (intro w hSw; have hSw1 := hSw.2; go_simp; (try with_reducible rfl))
  simp [Act.put]
  refine anyX_take (n := 11) (i := 1) (v := ?_) rfl (by kernel_rfl) (fun _ _ _ h => h) (Or.inl ⟨by rfl, ?_⟩) (by assumption) ?_
  rotate_left 1
  · (intro w hSw; have hSw1 := hSw.2; go_simp; (try with_reducible rfl))
  simp [Act.put]
  refine anyX_take (n := 11) (i := 2) (v := ?_) rfl (by kernel_rfl) (fun _ _ _ h => h) (Or.inl ⟨by rfl, ?_⟩) (by assumption) ?_
  rotate_left 1
  · (intro w hSw; have hSw1 := hSw.2; go_simp; (try with_reducible rfl))
  simp [Act.put]
  refine anyX_take (n := 11) (i := 3) (v := ?_) rfl (by kernel_rfl) (fun _ _ _ h => h) (Or.inl ⟨by rfl, ?_⟩) (by assumption) ?_
  rotate_left 1
  · (intro w hSw; have hSw1 := hSw.2; go_simp; (try with_reducible rfl))
  simp [Act.put]
  refine anyX_take (n := 11) (i := 4) (v := ?_) rfl (by kernel_rfl) (fun _ _ _ h => h) (Or.inl ⟨by rfl, ?_⟩) (by assumption) ?_
  rotate_left 1
  · (intro w hSw; have hSw1 := hSw.2; go_simp; (try with_reducible rfl))
  simp [Act.put]
  refine anyX_take (n := 11) (i := 5) (v := ?_) rfl (by kernel_rfl) (fun _ _ _ h => h) (Or.inl ⟨by rfl, ?_⟩) (by assumption) ?_
  rotate_left 1
  · (intro w hSw; have hSw1 := hSw.2; go_simp; (try with_reducible rfl))
  simp [Act.put]
  refine anyX_take (n := 11) (i := 6) (v := ?_) rfl (by kernel_rfl) (fun _ _ _ h => h) (Or.inl ⟨by rfl, ?_⟩) (by assumption) ?_
  rotate_left 1
  · (intro w hSw; have hSw1 := hSw.2; go_simp; (try with_reducible rfl))
  simp [Act.put]
  refine anyX_ready (rs := [7]) (by kernel_rfl) (by simp) (ReadyX.cons rfl (fun K hK => ?_) ReadyX.nil)
  go_simp
  refine hK.out _ _ (fun hlt => ?_) (fun hHeld => ?_)
  · (try dsimp only); exact hHeld.alloc _
  clear hK
  replace hHeld := hHeld (by omega); try simp [Act.put]
  refine anyX_ready (rs := [8]) (by kernel_rfl) (by simp) (ReadyX.cons rfl (fun K hK => ?_) ReadyX.nil)
  (refine step_append_sl _ (by rfl) (.tmp 31) (.tmp 34) 36 (by rfl) 48 i0 _ 3 24 Try.underlying36 hi0 hz0 hz1 hz2 rfl (by omega) (.slice pv (T m).length cv) (T m).length (cellsR (colL 0) (T m)) (by rfl) (HSL.out _ (by repeat' (first | (with_reducible exact Below.refl _ _) | (with_reducible assumption) | (with_reducible refine below_drewN ?_ _) | (with_reducible refine below_more _ _ _ ?_ ?_) | (with_reducible refine Below.alloc ?_ ?_ _) | (with_reducible refine Below.drew ?_) | (with_reducible refine Below.setCell ?_ ?_ _) | go_size))) ⟨_, 0, none⟩ 1 1 [.int .i64 s, .int .i64 i, .int .i64 g] (by rfl) (by rfl) (new_cellsN _ _ _ _ (by simp)) (by simp [Value.oneCell']) (by omega) (by unfold maxLen; omega) (by omega) ?_; intro g4 off4 cap4 w4 hs4 ht4 ho4; have f24 := (ht4.frozen (a := ⟨p, m * 8, none⟩) (by simp; omega) hap); have c24 := (ht4.cell (a := ⟨p, m * 8, none⟩) (by simp; omega) hap).trans ((hHeld.2 (m * 8)).1.trans cv2); have hd4 := lp2; replace hd4 := Nat.lt_of_lt_of_le hd4 (show w2.heap.size ≤ w4.heap.size from Nat.le_trans (by simp) ht4.size))
  refine hK.out _ _ (fun hlt => ?_) (fun hHeld => ?_)
  · (try dsimp only); exact hHeld.turned ht4 hap hnB
  clear hK
  replace hHeld := hHeld (by omega); try simp [Act.put]
  refine anyX_take (n := 11) (i := 9) (v := ?_) rfl (by kernel_rfl) (fun _ _ _ h => h) (Or.inl ⟨by rfl, ?_⟩) (by assumption) ?_
  rotate_left 1
  · (intro w hSw; have hSw1 := hSw.2; go_simp; (try with_reducible rfl))
  simp [Act.put]
  refine anyX_take (n := 11) (i := 10) (v := ?_) rfl (by kernel_rfl) (fun _ _ _ h => h) (Or.inl ⟨by rfl, ?_⟩) (by assumption) ?_
  rotate_left 1
  · (intro w hSw; have hSw1 := hSw.2; go_simp; (try with_reducible rfl))
  simp [Act.put]
  refine anyX_ready (rs := [11]) (by kernel_rfl) (by simp) (ReadyX.cons rfl (fun K hK => ?_) ReadyX.nil)
  go_simp
  refine hK.out _ _ (fun hlt => ?_) (fun hHeld => ?_)
  · exact absurd hlt (by omega)
  clear hK
  clear hHeld; try simp [Act.put]
  refine anyX_done (by kernel_rfl) ?_ _
  have G5 := (HG2.out.grow (W' := (w2.drew.alloc (.cells #[.int .i64 s, .int .i64 i, .int .i64 g] 48))) (by repeat' (first | (with_reducible exact Below.refl _ _) | (with_reducible assumption) | (with_reducible refine below_drewN ?_ _) | (with_reducible refine below_more _ _ _ ?_ ?_) | (with_reducible refine Below.alloc ?_ ?_ _) | (with_reducible refine Below.drew ?_) | (with_reducible refine Below.setCell ?_ ?_ _) | go_size))).app0 (b := ⟨s, i, g, (m : Int), x, y, vx, vy, hp, pw, lf⟩) hm HV.out ht4 hs4 (fun g' hg' => by cases hg'; exact ho4)
  rw [addC_zero] at G5
  generalize updV V (m * 8) _ = V5 at G5
  generalize w4.setCell _ _ = w5 at G5 ⊢
  have lb5 : w.heap.size < w5.heap.size := Nat.lt_of_lt_of_le l1 G5.chg.size
  have HY := Lib.hid (fun j => G5.cell l1 HNB.out j)
  have HNB5 := Lib.hid (fun e => (G5.own w.heap.size e).elim HNB.out fun h => absurd h (by omega) : ¬ StoOwn p mb V5 w.heap.size)
  have HG5 := Lib.hid G5
  clear G5 hs4 ht4 ho4 hd4 f24 c24 HSL HG2 HV cv2 hap hnB y0 y1 y2 lp2 lb2 fr2
  go_wp2_with fail
  refine (columns_any _ _ _).mono ?_
  rintro e w6 ⟨rfl, hb6, hcol⟩
  have HG6 := Lib.hid (HG5.out.grow hb6)
  have HNC := Lib.hid (fun e => absurd (HG5.out.at_.lt e) (by omega) : ¬ StoOwn p mb V5 w5.heap.size)
  have HCOL := Lib.hid hcol
  have lc6 : w5.heap.size < w6.heap.size := lt_of_heap hcol
  have lb6 : w.heap.size < w6.heap.size := by have := hb6.size; omega
  have HY6 := Lib.hid (fun j => (hb6.cell (p := ⟨w.heap.size, j, none⟩) lb5).trans ((HY.out j).trans (HC1.out j)))
  generalize w5.heap.size = nc at *
  clear hcol hb6 HY HC1 HX HG5
  go_wp2_with fail
  go_loopg [41] 7 (fun kx s41 wr => ∃ t : Nat, s41 = .int .i64 t ∧ t ≤ 7 ∧ 7 - t ≤ kx ∧ Hid (∃ Vt, StoG w6 (StoOwn p mb V5) wr p mb o2 Vt (addC T m ⟨s, i, g, (m : Int), x, y, vx, vy, hp, pw, lf⟩ t)))
  case atStart => exact ⟨0, by go_num, by omega, by omega, Lib.hid ⟨V5, StoG.refl HG6.out.at_⟩⟩
  case round =>
    obtain ⟨t, rfl, ht, hkx, HG⟩ := hrel
    obtain ⟨Vt, hGt⟩ := HG.out
    by_cases hlt : t < 7
    · have cvr := hGt.at_.cell (j := m * 8 + (t + 1)) (by omega)
      obtain ⟨pq, cq, hq⟩ := sl_frm (hGt.slc hm hlt)
      rw [(addC_step T m _ t hlt).1] at hq
      have hap : (Value.slice pq (T m).length cq).ownBlock ≠ some p := by rw [← hq]; exact fun e => (hGt.at_.off (m * 8 + (t + 1)) p (by omega) e).1 rfl
      have hnB : (Value.slice pq (T m).length cq).ownBlock ≠ some w.heap.size := by
        rw [← hq]
        exact fun e => (hGt.own w.heap.size (.inr (.inr ⟨m * 8 + (t + 1), by omega, e⟩))).elim HNB5.out fun h => absurd h (by omega)
      have HSL : Hid (∀ W, Below wr.heap.size wr W → Sl W 3 1 (.slice pq (T m).length cq) (T m).length (cellsR (colL (t + 1)) (T m))) := Lib.hid (fun W hW => by
        have := (hGt.grow hW).slc hm hlt
        rw [hq, (addC_step T m _ t hlt).1] at this
        exact this)
      rw [hq] at cvr
      have frr := hGt.at_.fr (m * 8 + (t + 1))
      have lpr : p < wr.heap.size := hGt.at_.lt (.inl rfl)
      have lbr : w.heap.size < wr.heap.size := Nat.lt_of_lt_of_le lb6 hGt.chg.size
      have lcr : nc < wr.heap.size := Nat.lt_of_lt_of_le lc6 hGt.chg.size
      have ccr := (hGt.cell lc6 HNC.out t).trans (cols_at HCOL.out hlt)
      have y0 := (hGt.cell lb6 HNB5.out 0).trans (HY6.out 0); simp at y0; have y1 := (hGt.cell lb6 HNB5.out 1).trans (HY6.out 1); simp at y1; have y2 := (hGt.cell lb6 HNB5.out 2).trans (HY6.out 2); simp at y2; have y3 := (hGt.cell lb6 HNB5.out 3).trans (HY6.out 3); simp at y3; have y4 := (hGt.cell lb6 HNB5.out 4).trans (HY6.out 4); simp at y4; have y5 := (hGt.cell lb6 HNB5.out 5).trans (HY6.out 5); simp at y5; have y6 := (hGt.cell lb6 HNB5.out 6).trans (HY6.out 6); simp at y6; have y7 := (hGt.cell lb6 HNB5.out 7).trans (HY6.out 7); simp at y7; have y8 := (hGt.cell lb6 HNB5.out 8).trans (HY6.out 8); simp at y8; have y9 := (hGt.cell lb6 HNB5.out 9).trans (HY6.out 9); simp at y9; have y10 := (hGt.cell lb6 HNB5.out 10).trans (HY6.out 10); simp at y10
      have t0 : (0 : Int) ≤ (t : Int) := by omega
      have t1 : (t : Int) < 7 := by omega
      obtain ⟨nv, hnv⟩ : ∃ nv, (numL ⟨s, i, g, (m : Int), x, y, vx, vy, hp, pw, lf⟩).getD t 0 = nv := ⟨_, rfl⟩
      have HNV := Lib.hid (show (some (Value.int .i64 ((numL ⟨s, i, g, (m : Int), x, y, vx, vy, hp, pw, lf⟩).getD t 0))) = some (.int .i64 nv) by rw [hnv])
      have HGT := Lib.hid hGt
      have HQ := Lib.hid hq
      have HNV2 := Lib.hid hnv
      clear hGt hq HG hnv
      go_wp2_with fail
      refine wp_region_x (S := TwoD wr p w.heap.size) 12 (by kernel_rfl) ⟨⟨Nat.le_refl _, lpr, lbr⟩, fun _ => ⟨rfl, rfl⟩⟩ (fun hHeld => ?_)
      refine anyX_take (n := 12) (i := 0) (v := ?_) rfl (by kernel_rfl) (fun _ _ _ h => h) (Or.inl ⟨by rfl, ?_⟩) (by assumption) ?_
      rotate_left 1
      · (intro w hSw; have hSw1 := hSw.2; go_simp; (try with_reducible rfl))
      simp [Act.put]
      refine anyX_take (n := 12) (i := 1) (v := ?_) rfl (by kernel_rfl) (fun _ _ _ h => h) (Or.inl ⟨by rfl, ?_⟩) (by assumption) ?_
      rotate_left 1
      · (intro w hSw; have hSw1 := hSw.2; go_simp; (try with_reducible rfl))
      simp [Act.put]
      refine anyX_take (n := 12) (i := 2) (v := ?_) rfl (by kernel_rfl) (fun _ _ _ h => h) (Or.inl ⟨by rfl, ?_⟩) (by assumption) ?_
      rotate_left 1
      · (intro w hSw; have hSw1 := hSw.2; go_simp; (try with_reducible rfl))
      simp [Act.put]
      refine anyX_take (n := 12) (i := 3) (v := ?_) rfl (by kernel_rfl) (fun _ _ _ h => h) (Or.inl ⟨by rfl, ?_⟩) (by assumption) ?_
      rotate_left 1
      · (intro w hSw; have hSw1 := hSw.2; go_simp; (try with_reducible rfl))
      simp [Act.put]
      refine anyX_take (n := 12) (i := 4) (v := ?_) rfl (by kernel_rfl) (fun _ _ _ h => h) (Or.inl ⟨by rfl, ?_⟩) (by assumption) ?_
      rotate_left 1
      · (intro w hSw; have hSw1 := hSw.2; go_simp; (try with_reducible rfl))
      simp [Act.put]
      refine anyX_take (n := 12) (i := 6) (v := ?_) rfl (by kernel_rfl) (fun _ _ _ h => h) (Or.inl ⟨by rfl, ?_⟩) (by assumption) ?_
      rotate_left 1
      · (intro w hSw; have hSw1 := hSw.2; go_simp; (try with_reducible rfl))
      simp [Act.put]
      refine anyX_ready (rs := [5]) (by kernel_rfl) (by simp) (ReadyX.cons rfl (fun K hK => ?_) ReadyX.nil)
      (go_simp; go_at_call 70; refine (numbers_any _ _ _ _ _ _ _ _ _ _ _ _).mono ?_; rintro e w7 ⟨rfl, hb7, hnum⟩; have hb7r : Below wr.heap.size wr w7 := (Below.refl _ _).drew.trans hb7; have hs7 := hb7r.size; have lp7 := Nat.lt_of_lt_of_le lpr hs7; have fr7 := (hb7r.frozen (p := ⟨p, m * 8 + (t + 1), none⟩) lpr).trans frr; have hnq : w7.cell? ⟨wr.heap.size + 1, t, none⟩ = some (.int .i64 nv) := (nums_at ⟨s, i, g, (m : Int), x, y, vx, vy, hp, pw, lf⟩ hnum hlt).trans HNV.out)
      refine hK.out _ _ (fun hlt => ?_) (fun hHeld => ?_)
      · (try dsimp only); exact hHeld.below hb7
      clear hK
      replace hHeld := hHeld (by omega); try simp
      refine anyX_take (n := 12) (i := 7) (v := ?_) rfl (by kernel_rfl) (fun _ _ _ h => h) (Or.inl ⟨by rfl, ?_⟩) (by assumption) ?_
      rotate_left 1
      · (intro w hSw; have hSw1 := hSw.2; go_simp; (try with_reducible rfl))
      simp [Act.put]
      refine anyX_ready (rs := [8]) (by kernel_rfl) (by simp) (ReadyX.cons rfl (fun K hK => ?_) ReadyX.nil)
      go_simp
      refine hK.out _ _ (fun hlt => ?_) (fun hHeld => ?_)
      · (try dsimp only); exact hHeld
      clear hK
      replace hHeld := hHeld (by omega); try simp [Act.put]
      refine anyX_ready (rs := [9]) (by kernel_rfl) (by simp) (ReadyX.cons rfl (fun K hK => ?_) ReadyX.nil)
      go_simp
      refine hK.out _ _ (fun hlt => ?_) (fun hHeld => ?_)
      · (try dsimp only); exact hHeld.alloc _
      clear hK
      replace hHeld := hHeld (by omega); try simp [Act.put]
      refine anyX_ready (rs := [10]) (by kernel_rfl) (by simp) (ReadyX.cons rfl (fun K hK => ?_) ReadyX.nil)
      (refine step_append_sl _ (by rfl) (.tmp 49) (.tmp 55) 26 (by rfl) 3 i1 _ 1 8 Try.underlying26 hi1 hy0 hy1 hy2 rfl (by omega) (.slice pq (T m).length cq) (T m).length (cellsR (colL (t + 1)) (T m)) (by rfl) (HSL.out _ (by repeat' (first | (with_reducible exact Below.refl _ _) | (with_reducible assumption) | (with_reducible refine below_drewN ?_ _) | (with_reducible refine below_more _ _ _ ?_ ?_) | (with_reducible refine Below.alloc ?_ ?_ _) | (with_reducible refine Below.drew ?_) | (with_reducible refine Below.setCell ?_ ?_ _) | go_size))) ⟨_, 0, none⟩ 1 1 [.int .i64 nv] (by rfl) (by rfl) (new_cellsN _ _ _ _ (by simp)) (by simp [Value.oneCell']) (by omega) (by unfold maxLen; omega) (by omega) ?_; intro g4 off4 cap4 w8 hs4 ht4 ho4; have f24 := (ht4.frozen (a := ⟨p, m * 8 + (t + 1), none⟩) (by have := hb7.size; simp at this ⊢; omega) hap); have c24 := (ht4.cell (a := ⟨p, m * 8 + (t + 1), none⟩) (by have := hb7.size; simp at this ⊢; omega) hap).trans ((hHeld.2 (m * 8 + (t + 1))).1.trans cvr); have hd4 : p < w8.heap.size := Nat.lt_of_lt_of_le lpr (Nat.le_trans hb7r.size (Nat.le_trans (by simp) ht4.size)))
      refine hK.out _ _ (fun hlt => ?_) (fun hHeld => ?_)
      · (try dsimp only); exact hHeld.turned ht4 hap hnB
      clear hK
      replace hHeld := hHeld (by omega); try simp [Act.put]
      refine anyX_take (n := 12) (i := 11) (v := ?_) rfl (by kernel_rfl) (fun _ _ _ h => h) (Or.inl ⟨by rfl, ?_⟩) (by assumption) ?_
      rotate_left 1
      · (intro w hSw; have hSw1 := hSw.2; go_simp; (try with_reducible rfl))
      simp [Act.put]
      refine anyX_ready (rs := [12]) (by kernel_rfl) (by simp) (ReadyX.cons rfl (fun K hK => ?_) ReadyX.nil)
      go_simp
      refine hK.out _ _ (fun hlt => ?_) (fun hHeld => ?_)
      · exact absurd hlt (by omega)
      clear hK
      clear hHeld; try simp [Act.put]
      refine anyX_done (by kernel_rfl) ?_ _
      have hst := addC_step T m ⟨s, i, g, (m : Int), x, y, vx, vy, hp, pw, lf⟩ t hlt
      have G9 := (HGT.out.grow (W' := (w7.alloc (.cells #[.int .i64 nv] 3))) (by repeat' (first | (with_reducible exact Below.refl _ _) | (with_reducible assumption) | (with_reducible refine below_drewN ?_ _) | (with_reducible refine below_more _ _ _ ?_ ?_) | (with_reducible refine Below.alloc ?_ ?_ _) | (with_reducible refine Below.drew ?_) | (with_reducible refine Below.setCell ?_ ?_ _) | go_size))).appc (b := ⟨s, i, g, (m : Int), x, y, vx, vy, hp, pw, lf⟩) hm hlt HQ.out ht4 (by rw [HNV2.out]; exact hs4) (fun g' hg' => by cases hg'; exact ho4)
      rw [hst.2] at G9
      have HG9 := Lib.hid (⟨_, G9⟩ : ∃ Vx, StoG w6 (StoOwn p mb V5) _ p mb o2 Vx (addC T m ⟨s, i, g, (m : Int), x, y, vx, vy, hp, pw, lf⟩ (t + 1)))
      clear G9 hst hs4 ht4 ho4 hd4 f24 c24 HGT HQ HSL cvr hap hnB frr lpr lbr lcr ccr y0 y1 y2 y3 y4 y5 y6 y7 y8 y9 y10 hb7 hb7r hs7 lp7 fr7 hnq hnum hHeld
      generalize w8.setCell _ _ = w9 at HG9 ⊢
      go_wp2_with fail
      go_roundg (7 - (t + 1))
      case measure => omega
      case rel => exact ⟨t + 1, by go_num, by omega, by omega, HG9⟩
    · obtain rfl : t = 7 := by omega
      rw [addC_last] at hGt
      have HGT := Lib.hid hGt
      clear hGt HG
      go_wp2_with fail
      go_end0
      have hG := (HG6.out.trans HGT.out)
      exact ⟨rfl, o2, Vt, HMO2.out, ⟨hG.at_, (Chg.of_below HB1.out).trans hG.chg fun _ _ h => h, fun x hx => (hG.own x hx).imp_right fun h => Nat.le_trans HB1.out.size h⟩⟩
end Go.Proofs.Ytmkfjelpekkmmaa
