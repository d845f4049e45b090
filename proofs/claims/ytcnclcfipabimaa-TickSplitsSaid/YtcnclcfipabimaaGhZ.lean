/-
  Chapter 22: Fold, whose zone is missing: what it notes lies in memory of its own. Condition: what was told can be read.
-/
import Derived.Test.YtcnclcfipabimaaMgc
namespace Go.Proofs.Ytcnclcfipabimaa
open Go.RowKit Go.Shelf


set_option maxRecDepth 100000 in
set_option maxHeartbeats 2000000 in
theorem fold_new (a : Addr) (z : Int) (s : Sta) (r : Rcd) (L : List Gh) (lr : List Bun) (bes : List Int) (W : World) (hL : RIn ghL W (.slice s.pg s.ng s.cg) L) (hLn : L.length ≤ 1000) (hlr : BIn W (.slice r.pl r.nl r.cl) lr) (hln : lr.length ≤ 1000000) (hk : r.k = 8) (hn : r.n = s.t) (hf : r.f ∈ missF bes L s.t)
    (HB : ∀ W', Below W.heap.size W W' → Calls Try.prog 52 #[.pointer (some a), .int .i64 z] W' fun e w' => ∃ v', e = .returned v' ∧ RNew intL 3 1 W' w' v' bes) :
    Calls Try.prog 30 #[.pointer (some a), .int .i64 z, .agg #[.int .i64 s.ep, .int .i64 s.t, .slice s.po s.no s.co, .slice s.pd s.nd s.cd, .slice s.pu s.nu s.cu, .slice s.pi s.ni s.ci, .slice s.pg s.ng s.cg, .int .i64 s.nx], .agg #[.int .i64 r.k, .int .i64 r.n, .int .i64 r.f, .slice r.pc r.nc r.cc, .int .i64 (r.b).s, .int .i64 (r.b).i, .int .i64 (r.b).g, .int .i64 (r.b).m, .int .i64 (r.b).x, .int .i64 (r.b).y, .int .i64 (r.b).vx, .int .i64 (r.b).vy, .int .i64 (r.b).hp, .int .i64 (r.b).pw, .int .i64 (r.b).lf, .slice r.pl r.nl r.cl, .int .i64 r.s.ep, .int .i64 r.s.t, .slice r.s.po r.s.no r.s.co, .slice r.s.pd r.s.nd r.s.cd, .slice r.s.pu r.s.nu r.s.cu, .slice r.s.pi r.s.ni r.s.ci, .slice r.s.pg r.s.ng r.s.cg, .int .i64 r.s.nx]] W fun e w' => ∃ p' n' c' p2 n2 c2, e = .returned (.tuple #[.agg #[.int .i64 s.ep, .int .i64 s.t, .slice s.po s.no s.co, .slice s.pd s.nd s.cd, .slice s.pu s.nu s.cu, .slice s.pi s.ni s.ci, .slice p' n' c', .int .i64 s.nx], .int .i64 0]) ∧
      RNew ghL 64 3 W w' (.slice p' n' c') (L ++ [⟨r.f, r.n, p2, n2, c2⟩]) ∧ Sl w' 41 11 (.slice p2 n2 c2) lr.length (bunCells lr) ∧ ∀ g, (Value.slice p2 n2 c2).ownBlock = some g → W.heap.size ≤ g := by
  obtain ⟨w1, hw1, hb1, k6, k7, k8, g6, g8, hsz⟩ := three_boxes W #[.int .i64 s.ep, .int .i64 s.t, .slice s.po s.no s.co, .slice s.pd s.nd s.cd, .slice s.pu s.nu s.cu, .slice s.pi s.ni s.ci, .slice s.pg s.ng s.cg, .int .i64 s.nx] #[.int .i64 r.k, .int .i64 r.n, .int .i64 r.f, .slice r.pc r.nc r.cc, .int .i64 (r.b).s, .int .i64 (r.b).i, .int .i64 (r.b).g, .int .i64 (r.b).m, .int .i64 (r.b).x, .int .i64 (r.b).y, .int .i64 (r.b).vx, .int .i64 (r.b).vy, .int .i64 (r.b).hp, .int .i64 (r.b).pw, .int .i64 (r.b).lf, .slice r.pl r.nl r.cl, .int .i64 r.s.ep, .int .i64 r.s.t, .slice r.s.po r.s.no r.s.co, .slice r.s.pd r.s.nd r.s.cd, .slice r.s.pu r.s.nu r.s.cu, .slice r.s.pi r.s.ni r.s.ci, .slice r.s.pg r.s.ng r.s.cg, .int .i64 r.s.nx] #[.int .i64 0, .int .i64 0, .slice none 0 0, .slice none 0 0, .slice none 0 0, .slice none 0 0, .slice none 0 0, .int .i64 0] 46 48 46
  have s6 : W.heap.size < w1.heap.size := by omega
  have s7 : W.heap.size + 1 < w1.heap.size := by omega
  have s8 : W.heap.size + 1 + 1 < w1.heap.size := by omega
  obtain ⟨z0, z1, z2⟩ := ltz s6
  obtain ⟨z3, z4, z5⟩ := ltz s7
  obtain ⟨z6, z7, z8⟩ := ltz s8
  have x60 := k6 0; simp at x60; have x61 := k6 1; simp at x61; have x62 := k6 2; simp at x62; have x63 := k6 3; simp at x63; have x64 := k6 4; simp at x64; have x65 := k6 5; simp at x65; have x66 := k6 6; simp at x66; have x67 := k6 7; simp at x67
  have x70 := k7 0; simp at x70; have x71 := k7 1; simp at x71; have x72 := k7 2; simp at x72; have x715 := k7 15; simp at x715
  have x80 := k8 0; simp at x80; have x81 := k8 1; simp at x81; have x82 := k8 2; simp at x82; have x83 := k8 3; simp at x83; have x84 := k8 4; simp at x84; have x85 := k8 5; simp at x85; have x86 := k8 6; simp at x86; have x87 := k8 7; simp at x87
  have g80 := g8 0; have g81 := g8 1; have g82 := g8 2; have g83 := g8 3; have g84 := g8 4; have g85 := g8 5; have g86 := g8 6; have g87 := g8 7
  have g66 := g6 6
  have HW1 := Lib.hid hw1
  have HB1 := Lib.hid hb1
  have HZ := Lib.hid hb1.size
  clear hw1 hb1 k6 k7 k8 g6 g8 hsz
  have HM := Lib.hid (fun W' (hW : Below w1.heap.size w1 W') => missing_of (.pointer (some a)) z s L bes W' ⟨_, rfl⟩ (hL.keep (HB1.out.trans (hW.mono HZ.out))) (fun W'' hW'' => HB W'' (HB1.out.trans ((hW.trans (hW''.mono hW.size)).mono HZ.out))))
  have HCT := Lib.hid (fun v W' h => contains_rin v (missF bes L s.t) r.f W' h)
  rw [show decide (r.f ∈ missF bes L s.t) = true from by simpa using hf] at HCT
  have hk8 : (r.k != 8) = false := by simpa using hk
  have hnt : (r.n != s.t) = false := by simpa using hn
  obtain ⟨ab, ao, at'⟩ := a

  have HCG := Lib.hid (fun W' (hW : Below w1.heap.size w1 W') => cloneG_any _ L W' (hL.keep (HB1.out.trans (hW.mono HZ.out))) (by omega))
  have HCB := Lib.hid (fun W' (hW : Below w1.heap.size w1 W') => clone_bin _ lr W' (hlr.keep (HB1.out.trans (hW.mono HZ.out))) hln)
  obtain ⟨i0, hi0, hz0, hz1, hz2⟩ := info_partsG info_gh
  clear hL HB hf hk hn hlr
  go_enter Try.func30, Try.ntmps30
  go_upto_region 1 with fail
  rw [← HW1.out]
  go_region_held3 (fun W => (w1).heap.size ≤ W.heap.size ∧ ∀ b o, b < (w1).heap.size → W.cell? ⟨b, o, none⟩ = (w1).cell? ⟨b, o, none⟩) (with_reducible (repeat (first | assumption | exact s_refl _ | exact s_id _ | refine s_more _ _ ?_ | refine s_alloc _ ?_ | refine s_drew ?_))) (first | (go_at_call 26; refine (HM.out _ (by repeat' (first | (with_reducible exact Below.refl _ _) | (with_reducible assumption) | (with_reducible refine below_drewN ?_ _) | (with_reducible refine below_more _ _ _ ?_ ?_) | (with_reducible refine Below.alloc ?_ ?_ _) | (with_reducible refine Below.drew ?_) | (with_reducible refine Below.setCell ?_ ?_ _) | go_size))).mono ?_; rintro e w' ⟨v1, rfl, hR⟩; obtain ⟨d1, os1, rfl⟩ := more_of hR.2.1) | (go_at_call 65; refine (HCT.out _ _ (hR.rin.keep (by repeat' (first | (with_reducible exact Below.refl _ _) | (with_reducible assumption) | (with_reducible refine below_drewN ?_ _) | (with_reducible refine below_more _ _ _ ?_ ?_) | (with_reducible refine Below.alloc ?_ ?_ _) | (with_reducible refine Below.drew ?_) | (with_reducible refine Below.setCell ?_ ?_ _) | go_size)))).mono ?_; rintro e w' ⟨rfl, rfl⟩))
  go_upto_region 3 with fail
  rw [more_of_drew]
  refine wp_region_x (S := fun W' => w1.heap.size ≤ W'.heap.size ∧ ∀ b o, b < w1.heap.size → W'.cell? ⟨b, o, none⟩ = w1.cell? ⟨b, o, none⟩) 14 (by kernel_rfl) (by with_reducible (repeat (first | assumption | exact s_refl _ | exact s_id _ | refine s_more _ _ ?_ | refine s_alloc _ ?_ | refine s_drew ?_))) (fun hHeld => ?_)
  refine anyX_take (n := 14) (i := 0) (v := ?_) rfl (by kernel_rfl) (fun _ _ _ h => h) (Or.inl ⟨by rfl, ?_⟩) (by assumption) ?_
  rotate_left 1
  · (intro w hSw; (try dsimp only at hSw); go_simp; (try with_reducible rfl))
  simp [Act.put]
  refine anyX_take (n := 14) (i := 1) (v := ?_) rfl (by kernel_rfl) (fun _ _ _ h => h) (Or.inl ⟨by rfl, ?_⟩) (by assumption) ?_
  rotate_left 1
  · (intro w hSw; (try dsimp only at hSw); go_simp; (try with_reducible rfl))
  simp [Act.put]
  refine anyX_take (n := 14) (i := 3) (v := ?_) rfl (by kernel_rfl) (fun _ _ _ h => h) (Or.inl ⟨by rfl, ?_⟩) (by assumption) ?_
  rotate_left 1
  · (intro w hSw; (try dsimp only at hSw); go_simp; (try with_reducible rfl))
  simp [Act.put]
  refine anyX_take (n := 14) (i := 4) (v := ?_) rfl (by kernel_rfl) (fun _ _ _ h => h) (Or.inl ⟨by rfl, ?_⟩) (by assumption) ?_
  rotate_left 1
  · (intro w hSw; (try dsimp only at hSw); go_simp; (try with_reducible rfl))
  simp [Act.put]
  refine anyX_take (n := 14) (i := 5) (v := ?_) rfl (by kernel_rfl) (fun _ _ _ h => h) (Or.inl ⟨by rfl, ?_⟩) (by assumption) ?_
  rotate_left 1
  · (intro w hSw; (try dsimp only at hSw); go_simp; (try with_reducible rfl))
  simp [Act.put]
  refine anyX_take (n := 14) (i := 6) (v := ?_) rfl (by kernel_rfl) (fun _ _ _ h => h) (Or.inl ⟨by rfl, ?_⟩) (by assumption) ?_
  rotate_left 1
  · (intro w hSw; (try dsimp only at hSw); go_simp; (try with_reducible rfl))
  simp [Act.put]
  refine anyX_take (n := 14) (i := 7) (v := ?_) rfl (by kernel_rfl) (fun _ _ _ h => h) (Or.inl ⟨by rfl, ?_⟩) (by assumption) ?_
  rotate_left 1
  · (intro w hSw; (try dsimp only at hSw); go_simp; (try with_reducible rfl))
  simp [Act.put]
  refine anyX_take (n := 14) (i := 8) (v := ?_) rfl (by kernel_rfl) (fun _ _ _ h => h) (Or.inl ⟨by rfl, ?_⟩) (by assumption) ?_
  rotate_left 1
  · (intro w hSw; (try dsimp only at hSw); go_simp; (try with_reducible rfl))
  simp [Act.put]
  refine anyX_ready (rs := [2]) (by kernel_rfl) (by simp) (ReadyX.cons rfl (fun K hK => ?_) ReadyX.nil)
  (go_simp; go_at_call 66; refine (HCG.out _ (by repeat' (first | (with_reducible exact Below.refl _ _) | (with_reducible assumption) | (with_reducible refine below_drewN ?_ _) | (with_reducible refine below_more _ _ _ ?_ ?_) | (with_reducible refine Below.alloc ?_ ?_ _) | (with_reducible refine Below.drew ?_) | (with_reducible refine Below.setCell ?_ ?_ _) | go_size))).mono ?_; rintro e w' ⟨v1, rfl, hV1⟩; obtain ⟨d1, os1, rfl⟩ := more_of hV1.2.1)
  refine hK.out _ _ (fun hlt => ?_) (fun hHeld => ?_)
  · (try dsimp only); with_reducible (repeat (first | assumption | exact s_refl _ | exact s_id _ | refine s_more _ _ ?_ | refine s_alloc _ ?_ | refine s_drew ?_))
  clear hK
  replace hHeld := hHeld (by omega); try simp [Act.put]
  refine anyX_ready (rs := [9]) (by kernel_rfl) (by simp) (ReadyX.cons rfl (fun K hK => ?_) ReadyX.nil)
  (go_simp; go_at_call 67; refine (HCB.out _ (by repeat' (first | (with_reducible exact Below.refl _ _) | (with_reducible assumption) | (with_reducible refine below_drewN ?_ _) | (with_reducible refine below_more _ _ _ ?_ ?_) | (with_reducible refine Below.alloc ?_ ?_ _) | (with_reducible refine Below.drew ?_) | (with_reducible refine Below.setCell ?_ ?_ _) | go_size))).mono ?_; rintro e w' ⟨v2, rfl, hV2⟩; obtain ⟨d2, os2, rfl⟩ := more_of hV2.2.1; obtain ⟨p2, c2, rfl⟩ := sl_frm hV2.1)
  refine hK.out _ _ (fun hlt => ?_) (fun hHeld => ?_)
  · (try dsimp only); with_reducible (repeat (first | assumption | exact s_refl _ | exact s_id _ | refine s_more _ _ ?_ | refine s_alloc _ ?_ | refine s_drew ?_))
  clear hK
  replace hHeld := hHeld (by omega); try simp [Act.put]
  refine anyX_take (n := 14) (i := 10) (v := ?_) rfl (by kernel_rfl) (fun _ _ _ h => h) (Or.inl ⟨by rfl, ?_⟩) (by assumption) ?_
  rotate_left 1
  · (intro w hSw; (try dsimp only at hSw); go_simp; (try with_reducible rfl))
  simp [Act.put]
  refine anyX_ready (rs := [11]) (by kernel_rfl) (by simp) (ReadyX.cons rfl (fun K hK => ?_) ReadyX.nil)
  go_simp
  refine hK.out _ _ (fun hlt => ?_) (fun hHeld => ?_)
  · (try dsimp only); with_reducible (repeat (first | assumption | exact s_refl _ | exact s_id _ | refine s_more _ _ ?_ | refine s_alloc _ ?_ | refine s_drew ?_))
  clear hK
  replace hHeld := hHeld (by omega); try simp [Act.put]
  refine anyX_ready (rs := [12]) (by kernel_rfl) (by simp) (ReadyX.cons rfl (fun K hK => ?_) ReadyX.nil)
  (refine step_append_sl _ (by rfl) (.tmp 37) (.tmp 46) 36 (by rfl) 64 i0 _ 3 40 Try.underlying36 hi0 hz0 hz1 hz2 rfl (by omega) _ L.length (cellsR ghL L) (by rfl) (hV1.grow (by repeat' (first | (with_reducible exact Below.refl _ _) | (with_reducible assumption) | (with_reducible refine below_drewN ?_ _) | (with_reducible refine below_more _ _ _ ?_ ?_) | (with_reducible refine Below.alloc ?_ ?_ _) | (with_reducible refine Below.drew ?_) | (with_reducible refine Below.setCell ?_ ?_ _) | go_size))).1 ⟨_, 0, none⟩ 1 1 [.int .i64 r.f, .int .i64 r.n, .slice p2 lr.length c2] (by rfl) (by rfl) (new_cellsN _ _ _ _ (by simp)) (by simp [Value.oneCell']) (by omega) (by unfold maxLen; omega) (by omega) ?_; intro g4 off4 cap4 w4 hs4 ht4 ho4; have hb4 := below_app (by repeat' (first | (with_reducible exact Below.refl _ _) | (with_reducible assumption) | (with_reducible refine below_drewN ?_ _) | (with_reducible refine below_more _ _ _ ?_ ?_) | (with_reducible refine Below.alloc ?_ ?_ _) | (with_reducible refine Below.drew ?_) | (with_reducible refine Below.setCell ?_ ?_ _) | go_size)) ht4 hV1.2.2; obtain ⟨d4, os4, rfl⟩ := more_of hb4)
  refine hK.out _ _ (fun hlt => ?_) (fun hHeld => ?_)
  · (try dsimp only); with_reducible (repeat (first | assumption | exact s_refl _ | exact s_id _ | refine s_more _ _ ?_ | refine s_alloc _ ?_ | refine s_drew ?_))
  clear hK
  replace hHeld := hHeld (by omega); try simp [Act.put]
  refine anyX_take (n := 14) (i := 13) (v := ?_) rfl (by kernel_rfl) (fun _ _ _ h => h) (Or.inl ⟨by rfl, ?_⟩) (by assumption) ?_
  rotate_left 1
  · (intro w hSw; (try dsimp only at hSw); go_simp; (try with_reducible rfl))
  simp [Act.put]
  refine anyX_ready (rs := [14]) (by kernel_rfl) (by simp) (ReadyX.cons rfl (fun K hK => ?_) ReadyX.nil)
  go_simp
  refine hK.out _ _ (fun hlt => ?_) (fun hHeld => ?_)
  · exact absurd hlt (by omega)
  clear hK
  clear hHeld; try simp [Act.put]
  refine anyX_done (by kernel_rfl) ?_ _
  go_wp2_with fail
  have hb1 := HB1.out
  have hs5 := bin_app hV2 (fun g hg => sl_lt hV1.1 hg) (by repeat' (first | (with_reducible exact Below.refl _ _) | (with_reducible assumption) | (with_reducible refine below_drewN ?_ _) | (with_reducible refine below_more _ _ _ ?_ ?_) | (with_reducible refine Below.alloc ?_ ?_ _) | (with_reducible refine Below.drew ?_) | (with_reducible refine Below.setCell ?_ ?_ _) | go_size)) ht4
  have hg1 := hV1.2.2
  have hg2 := hV2.2.2
  have hlt1 : ∀ g, (Value.slice p2 lr.length c2).ownBlock = some g → w1.heap.size ≤ g := fun g hg => by have := hg2 g hg; simp at this; omega
  have hlt2 : w1.heap.size ≤ g4 := by
    rcases ho4 with h | h
    · have := hg1 g4 h; simp at this; omega
    · simp at h; omega
  refine bodyPost_ret (v := .tuple #[.agg #[.int .i64 s.ep, .int .i64 s.t, .slice s.po s.no s.co, .slice s.pd s.nd s.cd, .slice s.pu s.nu s.cu, .slice s.pi s.ni s.ci, .slice (some ⟨g4, off4, none⟩) (L.length + 1) cap4, .int .i64 s.nx], .int .i64 0]) (by simp [results, Try.results30, go_sem, *]) rfl ⟨_, _, _, _, _, _, rfl, ⟨?_, (by repeat' (first | (with_reducible exact Below.refl _ _) | (with_reducible assumption) | (with_reducible refine below_drewN ?_ _) | (with_reducible refine below_more _ _ _ ?_ ?_) | (with_reducible refine Below.alloc ?_ ?_ _) | (with_reducible refine Below.drew ?_) | (with_reducible refine Below.setCell ?_ ?_ _) | go_size)), fun g hg => ?_⟩, hs5.keep fun g hg => ?_, fun g hg => ?_⟩
  · rw [cellsR_app, cellsR_one, List.length_append]
    refine hs4.keep fun g hg => ?_
    obtain rfl : g4 = g := by simpa [Value.ownBlock] using hg
    refine more_heap_congr (by simp) (more_heap_congr (by simp) ?_)
    simp [World.setCell, Array.getElem?_modify, show ¬ W.heap.size = g4 by omega, show ¬ W.heap.size + 1 + 1 = g4 by omega]
  · obtain rfl : g4 = g := by simpa [Value.ownBlock] using hg
    omega
  · have := hlt1 g hg
    refine more_heap_congr (by simp) (more_heap_congr (by simp) ?_)
    simp [World.setCell, Array.getElem?_modify, show ¬ W.heap.size = g by omega, show ¬ W.heap.size + 1 + 1 = g by omega]
  · have := hlt1 g hg
    have := HZ.out
    omega
end Go.Proofs.Ytcnclcfipabimaa
