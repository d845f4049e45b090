/- Texts DkD DkE DkF RegX TwoC: what the claim reaches of them. Conditions stand at each theorem. -/
import Derived.StillTail
import Derived.Test.YtoimjjhopljdmaaGreatP06
set_option maxRecDepth 100000
set_option maxHeartbeats 8000000
namespace Go.Proofs.YtoimjjhopljdmaaGreat
open Go.RowKit
open Go.Proofs.Tryz (prog)
open Go.Value (int)
open Go.IntKind (i64)
open Go.Lib (hid)
section
attribute [local go_sem ↓] loadVar_ldM storeVar_stM
theorem gen_dk (w : World) (L : Lay) (M : List Sh) (k i : Int) (h : PoolAt w L M) : Calls prog 87 #[.pointer (some ⟨L.P, 0, none⟩), int i64 k, int i64 i] w fun e w' => e = .returned (int i64 (genF M k i)) ∧ Below w.heap.size w w' := by
 cases hx : ixOf M k i with
 | none => simp only [genF, hx]; exact gen_out w L M k i h hx
 | some x => simp only [genF, hx]; exact gen_in w L M k i x h hx
theorem named_box {w w1 : World} {k s i g es ei eg m x y vx vy hp pw lf mask : Int} (hb1 : Below w.heap.size w w1) (k0 : ∀ j, w1.cell? ⟨w.heap.size, j, none⟩ = (#[int i64 k, int i64 s, int i64 i, int i64 g, int i64 es, int i64 ei, int i64 eg, int i64 m, int i64 x, int i64 y, int i64 vx, int i64 vy, int i64 hp, int i64 pw, int i64 lf, int i64 mask] : Array Value)[j]?) (k1 : ∀ j, w1.cell? ⟨w.heap.size + 1, j, none⟩ = (#[int i64 0, int i64 0, int i64 0, int i64 0, int i64 0, int i64 0, int i64 0, int i64 0, int i64 0, int i64 0, int i64 0, int i64 0, int i64 0, int i64 0, int i64 0, int i64 0] : Array Value)[j]?)
 (g1 : ∀ j, w1.frozen? ⟨w.heap.size + 1, j, none⟩ = false) (hsz : w1.heap.size = w.heap.size + 1 + 1) (zn hi gn : Int) :
 ∃ w3, ((w1.setCell ⟨w.heap.size, 4, none⟩ (int i64 zn)).setCell ⟨w.heap.size, 5, none⟩ (int i64 hi)).setCell ⟨w.heap.size, 6, none⟩ (int i64 gn) = w3 ∧ Below w.heap.size w w3 ∧ (∀ j, w3.cell? ⟨w.heap.size, j, none⟩ = (#[int i64 k, int i64 s, int i64 i, int i64 g, int i64 zn, int i64 hi, int i64 gn, int i64 m, int i64 x, int i64 y, int i64 vx, int i64 vy, int i64 hp, int i64 pw, int i64 lf, int i64 mask] : Array Value)[j]?) ∧ (∀ j, w3.cell? ⟨w.heap.size + 1, j, none⟩ = (#[int i64 0, int i64 0, int i64 0, int i64 0, int i64 0, int i64 0, int i64 0, int i64 0, int i64 0, int i64 0, int i64 0, int i64 0, int i64 0, int i64 0, int i64 0, int i64 0] : Array Value)[j]?) ∧
   (∀ j, w3.frozen? ⟨w.heap.size + 1, j, none⟩ = false) ∧ w3.heap.size = w.heap.size + 1 + 1 := by
 have hx : ∀ (W : World) (o : Nat) (u : Value), (W.setCell ⟨w.heap.size, o, none⟩ u).heap[w.heap.size + 1]? = W.heap[w.heap.size + 1]? := fun W o u => Below.heap_setCell _ _ _ _ (by simp)
 refine ⟨_, rfl, bg, fun j => ?_, fun j => ?_, fun j => ?_, by simp [World.setCell]; omega⟩
 · by_cases h6 : j = 6
   · subst h6; rw [World.cell?_setCell_same' _ _ _ (by rw [cell_set_ne (by omega), cell_set_ne (by omega), k0 6]; rfl)]; rfl
   · rw [cell_set_ne (Ne.symm h6)]
     by_cases h5 : j = 5
     · subst h5; rw [World.cell?_setCell_same' _ _ _ (by rw [cell_set_ne (by omega), k0 5]; rfl)]; rfl
     · rw [cell_set_ne (Ne.symm h5)]
       by_cases h4 : j = 4
       · subst h4; rw [World.cell?_setCell_same' _ _ _ (by rw [k0 4]; rfl)]; rfl
       · rw [cell_set_ne (Ne.symm h4), k0 j]
         rcases j with _ | _ | _ | _ | _ | _ | _ | j
         all_goals first | rfl | omega | simp
 · unfold World.cell?; rw [hx, hx, hx]; exact k1 j
 · unfold World.frozen?; rw [hx, hx, hx]; exact g1 j
section
variable (w : World) (d : DLay) (c : Cfg) (D : Dk)
def preD (h : DeskAt w d c D) (ho : CfgOk c) (k s i g es ei eg m x y vx vy hp pw lf mask : Int) := (PProd.mk (hid (fun W (_ : Below w.heap.size w W) => checkCmd_any k s i g es ei eg m x y vx vy hp pw lf mask W)) (PProd.mk (hid (fun W (hW : Below w.heap.size w W) => zof_any W d.bm c x y (MapAt.grow h.map hW) ho)) (PProd.mk (hid (fun W (hW : Below w.heap.size w W) => alive_any W d.L D.M s i g (h.grown hW).pool)) (PProd.mk (hid (fun W (hW : Below w.heap.size w W) => dwaits_any W d c D (h.grown hW) s i g)) (PProd.mk (hid (fun W (hW : Below w.heap.size w W) => head_any W d.L D.M (ofF c x y) (h.grown hW).pool)) (hid (fun W (hW : Below w.heap.size w W) => gen_dk W d.L D.M (ofF c x y) (headF D.M (ofF c x y)).1 (h.grown hW).pool)))))))
theorem dlook_bad (h : DeskAt w d c D) (ho : CfgOk c) (k s i g es ei eg m x y vx vy hp pw lf mask : Int) (hcb : errB (cmdB ⟨k, s, i, g, ⟨es, ei, eg, m, x, y, vx, vy, hp, pw, lf⟩, mask⟩) = 1) {ks : Bool} (hks : (k == 1) = ks) :
 Calls prog 44 #[.pointer (some ⟨d.p, 0, none⟩), .agg #[int i64 k, int i64 s, int i64 i, int i64 g, int i64 es, int i64 ei, int i64 eg, int i64 m, int i64 x, int i64 y, int i64 vx, int i64 vy, int i64 hp, int i64 pw, int i64 lf, int i64 mask]] w fun e w' => e = .returned (.tuple #[.agg (cmC zeroCm).toArray, .bool false, int i64 1]) ∧ Below w.heap.size w w' := by
 obtain ⟨HC, HO, HA, HW, HH, HG⟩ := preD w d c D h ho k s i g es ei eg m x y vx vy hp pw lf mask
 obtain ⟨w1, hw1, hb1, k0, k1, g0, g1, hsz⟩ := two_boxesC w k s i g es ei eg m x y vx vy hp pw lf mask 34
 obtain ⟨p, cap, c0, c1, c2, m6, hlt, hltm⟩ := h.at1 hb1
 have s6 : w.heap.size < w1.heap.size := by omega
 have s7 : w.heap.size + 1 < w1.heap.size := by omega
 obtain ⟨x0, x1, x2, x3, x4, x5, x6, x8, x9⟩ := cells9 k0
 obtain ⟨z0, z1, z2⟩ := ltz hlt
 obtain ⟨z3, z4, z5⟩ := ltz hltm
 obtain ⟨z6, z7, z8⟩ := ltz s6
 obtain ⟨z9, z10, z11⟩ := ltz s7
 have HW1 := hid hw1
 clear h ho hw1
 generalize hgn : genF D.M (ofF c x y) (headF D.M (ofF c x y)).1 = gn at *
 clear hgn
 generalize headF D.M (ofF c x y) = hd at *
 obtain ⟨hi, hb, he⟩ := hd
 generalize ofF c x y = zn at *
 generalize aliveF D.M s i g = al at *
 generalize endsF D.q s i g = en at *
 generalize errB (cmdB ⟨k, s, i, g, ⟨es, ei, eg, m, x, y, vx, vy, hp, pw, lf⟩, mask⟩) = cb at *
 generalize c.queue = qmax at *
 generalize D.q.length = ql at *
 subst hcb
 obtain ⟨hL, hL0⟩ := ld_boxL s6 k0
 obtain ⟨w2, hS, hq, hsz2, ht2⟩ := st_boxZ k1 g1 s7
 have HQ := hid hq
 have s8 : w.heap.size + 1 < w2.heap.size := by omega
 have hb2 : Below w.heap.size w w2 := Turned.below_new ht2 (fun q hq => by cases hq; omega) hb1 (by omega)
 clear hq hsz2 ht2
 clear k0 k1 g0 g1 hsz
 go_enter Tryz.func44, Tryz.ntmps44
 go_upto_region 1 with fail
 rw [← HW1.out]
 go_wp2_with ((first | (go_at_call 82; refine belC (HC.out _ bg) fun d os => ?_) | (go_at_call 83; refine belC (HO.out _ bg) fun d os => ?_) | (go_at_call 84; refine belC (HA.out _ bg) fun d os => ?_) | (go_at_call 85; refine belC (HW.out _ bg) fun d os => ?_) | (go_at_call 86; refine belC (HH.out _ bg) fun d os => ?_) | (go_at_call 87; refine belC (HG.out _ bg) fun d os => ?_)); (try rw [more_more]))
 exact bodyPost_ret (results_cm Tryz.results44 rfl rfl rfl (ld_more HQ.out s8 _ _)) rfl ⟨rfl, bg⟩
theorem dlook_named (h : DeskAt w d c D) (ho : CfgOk c) (k s i g es ei eg m x y vx vy hp pw lf mask : Int) (hcb : errB (cmdB ⟨k, s, i, g, ⟨es, ei, eg, m, x, y, vx, vy, hp, pw, lf⟩, mask⟩) = 0) (hk : k = 1) (hnw : idEq es ei eg 0 0 0 = false) :
 Calls prog 44 #[.pointer (some ⟨d.p, 0, none⟩), .agg #[int i64 k, int i64 s, int i64 i, int i64 g, int i64 es, int i64 ei, int i64 eg, int i64 m, int i64 x, int i64 y, int i64 vx, int i64 vy, int i64 hp, int i64 pw, int i64 lf, int i64 mask]] w fun e w' => e = .returned (.tuple #[.agg (cmC zeroCm).toArray, .bool false, int i64 1]) ∧ Below w.heap.size w w' := by
 obtain ⟨HC, HO, HA, HW, HH, HG⟩ := preD w d c D h ho k s i g es ei eg m x y vx vy hp pw lf mask
 obtain ⟨w1, hw1, hb1, k0, k1, g0, g1, hsz⟩ := two_boxesC w k s i g es ei eg m x y vx vy hp pw lf mask 34
 obtain ⟨p, cap, c0, c1, c2, m6, hlt, hltm⟩ := h.at1 hb1
 have s6 : w.heap.size < w1.heap.size := by omega
 have s7 : w.heap.size + 1 < w1.heap.size := by omega
 obtain ⟨x0, x1, x2, x3, x4, x5, x6, x8, x9⟩ := cells9 k0
 obtain ⟨z0, z1, z2⟩ := ltz hlt
 obtain ⟨z3, z4, z5⟩ := ltz hltm
 obtain ⟨z6, z7, z8⟩ := ltz s6
 obtain ⟨z9, z10, z11⟩ := ltz s7
 have HW1 := hid hw1
 clear h ho hw1
 generalize hgn : genF D.M (ofF c x y) (headF D.M (ofF c x y)).1 = gn at *
 clear hgn
 generalize headF D.M (ofF c x y) = hd at *
 obtain ⟨hi, hb, he⟩ := hd
 generalize ofF c x y = zn at *
 generalize aliveF D.M s i g = al at *
 generalize endsF D.q s i g = en at *
 generalize errB (cmdB ⟨k, s, i, g, ⟨es, ei, eg, m, x, y, vx, vy, hp, pw, lf⟩, mask⟩) = cb at *
 generalize c.queue = qmax at *
 generalize D.q.length = ql at *
 subst hcb hk
 obtain ⟨hL, hL0⟩ := ld_boxL s6 k0
 obtain ⟨w2, hS, hq, hsz2, ht2⟩ := st_boxZ k1 g1 s7
 have HQ := hid hq
 have s8 : w.heap.size + 1 < w2.heap.size := by omega
 have hb2 : Below w.heap.size w w2 := Turned.below_new ht2 (fun q hq => by cases hq; omega) hb1 (by omega)
 clear hq hsz2 ht2
 clear k0 k1 g0 g1 hsz
 go_enter Tryz.func44, Tryz.ntmps44
 go_upto_region 1 with fail
 rw [← HW1.out]
 go_wp2_with ((first | (go_at_call 82; refine belC (HC.out _ bg) fun d os => ?_) | (go_at_call 83; refine belC (HO.out _ bg) fun d os => ?_) | (go_at_call 84; refine belC (HA.out _ bg) fun d os => ?_) | (go_at_call 85; refine belC (HW.out _ bg) fun d os => ?_) | (go_at_call 86; refine belC (HH.out _ bg) fun d os => ?_) | (go_at_call 87; refine belC (HG.out _ bg) fun d os => ?_)); (try rw [more_more]))
 exact bodyPost_ret (results_cm Tryz.results44 rfl rfl rfl (ld_more HQ.out s8 _ _)) rfl ⟨rfl, bg⟩
theorem dlook_zone (h : DeskAt w d c D) (ho : CfgOk c) (k s i g es ei eg m x y vx vy hp pw lf mask : Int) (hcb : errB (cmdB ⟨k, s, i, g, ⟨es, ei, eg, m, x, y, vx, vy, hp, pw, lf⟩, mask⟩) = 0) (hk : k = 1) (hnw : idEq es ei eg 0 0 0 = true) (hz : ofF c x y < 0) :
 Calls prog 44 #[.pointer (some ⟨d.p, 0, none⟩), .agg #[int i64 k, int i64 s, int i64 i, int i64 g, int i64 es, int i64 ei, int i64 eg, int i64 m, int i64 x, int i64 y, int i64 vx, int i64 vy, int i64 hp, int i64 pw, int i64 lf, int i64 mask]] w fun e w' => e = .returned (.tuple #[.agg (cmC zeroCm).toArray, .bool false, int i64 5]) ∧ Below w.heap.size w w' := by
 obtain ⟨HC, HO, HA, HW, HH, HG⟩ := preD w d c D h ho k s i g es ei eg m x y vx vy hp pw lf mask
 obtain ⟨w1, hw1, hb1, k0, k1, g0, g1, hsz⟩ := two_boxesC w k s i g es ei eg m x y vx vy hp pw lf mask 34
 obtain ⟨p, cap, c0, c1, c2, m6, hlt, hltm⟩ := h.at1 hb1
 have s6 : w.heap.size < w1.heap.size := by omega
 have s7 : w.heap.size + 1 < w1.heap.size := by omega
 obtain ⟨x0, x1, x2, x3, x4, x5, x6, x8, x9⟩ := cells9 k0
 obtain ⟨z0, z1, z2⟩ := ltz hlt
 obtain ⟨z3, z4, z5⟩ := ltz hltm
 obtain ⟨z6, z7, z8⟩ := ltz s6
 obtain ⟨z9, z10, z11⟩ := ltz s7
 have HW1 := hid hw1
 clear h ho hw1
 generalize hgn : genF D.M (ofF c x y) (headF D.M (ofF c x y)).1 = gn at *
 clear hgn
 generalize headF D.M (ofF c x y) = hd at *
 obtain ⟨hi, hb, he⟩ := hd
 generalize ofF c x y = zn at *
 generalize aliveF D.M s i g = al at *
 generalize endsF D.q s i g = en at *
 generalize errB (cmdB ⟨k, s, i, g, ⟨es, ei, eg, m, x, y, vx, vy, hp, pw, lf⟩, mask⟩) = cb at *
 generalize c.queue = qmax at *
 generalize D.q.length = ql at *
 subst hcb hk
 obtain ⟨hL, hL0⟩ := ld_boxL s6 k0
 obtain ⟨w2, hS, hq, hsz2, ht2⟩ := st_boxZ k1 g1 s7
 have HQ := hid hq
 have s8 : w.heap.size + 1 < w2.heap.size := by omega
 have hb2 : Below w.heap.size w w2 := Turned.below_new ht2 (fun q hq => by cases hq; omega) hb1 (by omega)
 clear hq hsz2 ht2
 clear k0 k1 g0 g1 hsz
 go_enter Tryz.func44, Tryz.ntmps44
 go_upto_region 1 with fail
 rw [← HW1.out]
 iterate 2 (go_wp2_with ((first | (go_at_call 82; refine belC (HC.out _ bg) fun d os => ?_) | (go_at_call 83; refine belC (HO.out _ bg) fun d os => ?_) | (go_at_call 84; refine belC (HA.out _ bg) fun d os => ?_) | (go_at_call 85; refine belC (HW.out _ bg) fun d os => ?_) | (go_at_call 86; refine belC (HH.out _ bg) fun d os => ?_) | (go_at_call 87; refine belC (HG.out _ bg) fun d os => ?_)); (try rw [more_more])); try (refine wpm ?_; (repeat (go_big_quiet_step ((first | (go_at_call 83; with_reducible exact more_call (HO.out _ bg)) | (go_at_call 84; with_reducible exact more_call (HA.out _ bg)))))); refine wpQuiet_nil ?_; rintro _ ⟨pm, rfl⟩; (try rw [more_more])))
 exact bodyPost_ret (results_cm Tryz.results44 rfl rfl rfl (ld_more HQ.out s8 _ _)) rfl ⟨rfl, bg⟩
theorem dlook_full1 (h : DeskAt w d c D) (ho : CfgOk c) (k s i g es ei eg m x y vx vy hp pw lf mask : Int) (hcb : errB (cmdB ⟨k, s, i, g, ⟨es, ei, eg, m, x, y, vx, vy, hp, pw, lf⟩, mask⟩) = 0) (hk : k = 1) (hnw : idEq es ei eg 0 0 0 = true) (hz : ¬ ofF c x y < 0) (hf : c.queue ≤ (D.q.length : Int)) :
 Calls prog 44 #[.pointer (some ⟨d.p, 0, none⟩), .agg #[int i64 k, int i64 s, int i64 i, int i64 g, int i64 es, int i64 ei, int i64 eg, int i64 m, int i64 x, int i64 y, int i64 vx, int i64 vy, int i64 hp, int i64 pw, int i64 lf, int i64 mask]] w fun e w' => e = .returned (.tuple #[.agg (cmC zeroCm).toArray, .bool false, int i64 8]) ∧ Below w.heap.size w w' := by
 obtain ⟨HC, HO, HA, HW, HH, HG⟩ := preD w d c D h ho k s i g es ei eg m x y vx vy hp pw lf mask
 obtain ⟨w1, hw1, hb1, k0, k1, g0, g1, hsz⟩ := two_boxesC w k s i g es ei eg m x y vx vy hp pw lf mask 34
 obtain ⟨p, cap, c0, c1, c2, m6, hlt, hltm⟩ := h.at1 hb1
 have s6 : w.heap.size < w1.heap.size := by omega
 have s7 : w.heap.size + 1 < w1.heap.size := by omega
 obtain ⟨x0, x1, x2, x3, x4, x5, x6, x8, x9⟩ := cells9 k0
 obtain ⟨z0, z1, z2⟩ := ltz hlt
 obtain ⟨z3, z4, z5⟩ := ltz hltm
 obtain ⟨z6, z7, z8⟩ := ltz s6
 obtain ⟨z9, z10, z11⟩ := ltz s7
 have HW1 := hid hw1
 clear h ho hw1
 generalize hgn : genF D.M (ofF c x y) (headF D.M (ofF c x y)).1 = gn at *
 clear hgn
 generalize headF D.M (ofF c x y) = hd at *
 obtain ⟨hi, hb, he⟩ := hd
 generalize ofF c x y = zn at *
 generalize aliveF D.M s i g = al at *
 generalize endsF D.q s i g = en at *
 generalize errB (cmdB ⟨k, s, i, g, ⟨es, ei, eg, m, x, y, vx, vy, hp, pw, lf⟩, mask⟩) = cb at *
 generalize c.queue = qmax at *
 generalize D.q.length = ql at *
 subst hcb hk
 obtain ⟨hL, hL0⟩ := ld_boxL s6 k0
 obtain ⟨w2, hS, hq, hsz2, ht2⟩ := st_boxZ k1 g1 s7
 have HQ := hid hq
 have s8 : w.heap.size + 1 < w2.heap.size := by omega
 have hb2 : Below w.heap.size w w2 := Turned.below_new ht2 (fun q hq => by cases hq; omega) hb1 (by omega)
 clear hq hsz2 ht2
 clear k0 k1 g0 g1 hsz
 go_enter Tryz.func44, Tryz.ntmps44
 go_upto_region 1 with fail
 rw [← HW1.out]
 iterate 4 (go_wp2_with ((first | (go_at_call 82; refine belC (HC.out _ bg) fun d os => ?_) | (go_at_call 83; refine belC (HO.out _ bg) fun d os => ?_) | (go_at_call 84; refine belC (HA.out _ bg) fun d os => ?_) | (go_at_call 85; refine belC (HW.out _ bg) fun d os => ?_) | (go_at_call 86; refine belC (HH.out _ bg) fun d os => ?_) | (go_at_call 87; refine belC (HG.out _ bg) fun d os => ?_)); (try rw [more_more])); try (refine wpm ?_; (repeat (go_big_quiet_step ((first | (go_at_call 83; with_reducible exact more_call (HO.out _ bg)) | (go_at_call 84; with_reducible exact more_call (HA.out _ bg)))))); refine wpQuiet_nil ?_; rintro _ ⟨pm, rfl⟩; (try rw [more_more])))
 exact bodyPost_ret (results_cm Tryz.results44 rfl rfl rfl (ld_more HQ.out s8 _ _)) rfl ⟨rfl, bg⟩
theorem dlook_busy (h : DeskAt w d c D) (ho : CfgOk c) (k s i g es ei eg m x y vx vy hp pw lf mask : Int) (hcb : errB (cmdB ⟨k, s, i, g, ⟨es, ei, eg, m, x, y, vx, vy, hp, pw, lf⟩, mask⟩) = 0) (hk : k = 1) (hnw : idEq es ei eg 0 0 0 = true) (hz : ¬ ofF c x y < 0) (hf : ¬ c.queue ≤ (D.q.length : Int)) (hh : ((headF D.M (ofF c x y)).2.2 != 0) = true) :
 Calls prog 44 #[.pointer (some ⟨d.p, 0, none⟩), .agg #[int i64 k, int i64 s, int i64 i, int i64 g, int i64 es, int i64 ei, int i64 eg, int i64 m, int i64 x, int i64 y, int i64 vx, int i64 vy, int i64 hp, int i64 pw, int i64 lf, int i64 mask]] w fun e w' => e = .returned (.tuple #[.agg (cmC zeroCm).toArray, .bool false, int i64 13]) ∧ Below w.heap.size w w' := by
 obtain ⟨HC, HO, HA, HW, HH, HG⟩ := preD w d c D h ho k s i g es ei eg m x y vx vy hp pw lf mask
 obtain ⟨w1, hw1, hb1, k0, k1, g0, g1, hsz⟩ := two_boxesC w k s i g es ei eg m x y vx vy hp pw lf mask 34
 obtain ⟨p, cap, c0, c1, c2, m6, hlt, hltm⟩ := h.at1 hb1
 have s6 : w.heap.size < w1.heap.size := by omega
 have s7 : w.heap.size + 1 < w1.heap.size := by omega
 obtain ⟨x0, x1, x2, x3, x4, x5, x6, x8, x9⟩ := cells9 k0
 obtain ⟨z0, z1, z2⟩ := ltz hlt
 obtain ⟨z3, z4, z5⟩ := ltz hltm
 obtain ⟨z6, z7, z8⟩ := ltz s6
 obtain ⟨z9, z10, z11⟩ := ltz s7
 have HW1 := hid hw1
 clear h ho hw1
 generalize hgn : genF D.M (ofF c x y) (headF D.M (ofF c x y)).1 = gn at *
 clear hgn
 generalize headF D.M (ofF c x y) = hd at *
 obtain ⟨hi, hb, he⟩ := hd
 generalize ofF c x y = zn at *
 generalize aliveF D.M s i g = al at *
 generalize endsF D.q s i g = en at *
 generalize errB (cmdB ⟨k, s, i, g, ⟨es, ei, eg, m, x, y, vx, vy, hp, pw, lf⟩, mask⟩) = cb at *
 generalize c.queue = qmax at *
 generalize D.q.length = ql at *
 subst hcb hk
 obtain ⟨hL, hL0⟩ := ld_boxL s6 k0
 obtain ⟨w2, hS, hq, hsz2, ht2⟩ := st_boxZ k1 g1 s7
 have HQ := hid hq
 have s8 : w.heap.size + 1 < w2.heap.size := by omega
 have hb2 : Below w.heap.size w w2 := Turned.below_new ht2 (fun q hq => by cases hq; omega) hb1 (by omega)
 clear hq hsz2 ht2
 clear k0 k1 g0 g1 hsz
 go_enter Tryz.func44, Tryz.ntmps44
 go_upto_region 1 with fail
 rw [← HW1.out]
 iterate 4 (go_wp2_with ((first | (go_at_call 82; refine belC (HC.out _ bg) fun d os => ?_) | (go_at_call 83; refine belC (HO.out _ bg) fun d os => ?_) | (go_at_call 84; refine belC (HA.out _ bg) fun d os => ?_) | (go_at_call 85; refine belC (HW.out _ bg) fun d os => ?_) | (go_at_call 86; refine belC (HH.out _ bg) fun d os => ?_) | (go_at_call 87; refine belC (HG.out _ bg) fun d os => ?_)); (try rw [more_more])); try (refine wpm ?_; (repeat (go_big_quiet_step ((first | (go_at_call 83; with_reducible exact more_call (HO.out _ bg)) | (go_at_call 84; with_reducible exact more_call (HA.out _ bg)))))); refine wpQuiet_nil ?_; rintro _ ⟨pm, rfl⟩; (try rw [more_more])))
 exact bodyPost_ret (results_cm Tryz.results44 rfl rfl rfl (ld_more HQ.out s8 _ _)) rfl ⟨rfl, bg⟩
theorem dlook_stale (h : DeskAt w d c D) (ho : CfgOk c) (k s i g es ei eg m x y vx vy hp pw lf mask : Int) (hcb : errB (cmdB ⟨k, s, i, g, ⟨es, ei, eg, m, x, y, vx, vy, hp, pw, lf⟩, mask⟩) = 0) (hk : (k == 1) = false) (ha : aliveF D.M s i g = false) :
 Calls prog 44 #[.pointer (some ⟨d.p, 0, none⟩), .agg #[int i64 k, int i64 s, int i64 i, int i64 g, int i64 es, int i64 ei, int i64 eg, int i64 m, int i64 x, int i64 y, int i64 vx, int i64 vy, int i64 hp, int i64 pw, int i64 lf, int i64 mask]] w fun e w' => e = .returned (.tuple #[.agg (cmC zeroCm).toArray, .bool false, int i64 9]) ∧ Below w.heap.size w w' := by
 obtain ⟨HC, HO, HA, HW, HH, HG⟩ := preD w d c D h ho k s i g es ei eg m x y vx vy hp pw lf mask
 obtain ⟨w1, hw1, hb1, k0, k1, g0, g1, hsz⟩ := two_boxesC w k s i g es ei eg m x y vx vy hp pw lf mask 34
 obtain ⟨p, cap, c0, c1, c2, m6, hlt, hltm⟩ := h.at1 hb1
 have s6 : w.heap.size < w1.heap.size := by omega
 have s7 : w.heap.size + 1 < w1.heap.size := by omega
 obtain ⟨x0, x1, x2, x3, x4, x5, x6, x8, x9⟩ := cells9 k0
 obtain ⟨z0, z1, z2⟩ := ltz hlt
 obtain ⟨z3, z4, z5⟩ := ltz hltm
 obtain ⟨z6, z7, z8⟩ := ltz s6
 obtain ⟨z9, z10, z11⟩ := ltz s7
 have HW1 := hid hw1
 clear h ho hw1
 generalize hgn : genF D.M (ofF c x y) (headF D.M (ofF c x y)).1 = gn at *
 clear hgn
 generalize headF D.M (ofF c x y) = hd at *
 obtain ⟨hi, hb, he⟩ := hd
 generalize ofF c x y = zn at *
 generalize aliveF D.M s i g = al at *
 generalize endsF D.q s i g = en at *
 generalize errB (cmdB ⟨k, s, i, g, ⟨es, ei, eg, m, x, y, vx, vy, hp, pw, lf⟩, mask⟩) = cb at *
 generalize c.queue = qmax at *
 generalize D.q.length = ql at *
 subst hcb
 subst ha
 obtain ⟨hL, hL0⟩ := ld_boxL s6 k0
 obtain ⟨w2, hS, hq, hsz2, ht2⟩ := st_boxZ k1 g1 s7
 have HQ := hid hq
 have s8 : w.heap.size + 1 < w2.heap.size := by omega
 have hb2 : Below w.heap.size w w2 := Turned.below_new ht2 (fun q hq => by cases hq; omega) hb1 (by omega)
 clear hq hsz2 ht2
 clear k0 k1 g0 g1 hsz
 go_enter Tryz.func44, Tryz.ntmps44
 go_upto_region 1 with fail
 rw [← HW1.out]
 iterate 3 (go_wp2_with ((first | (go_at_call 82; refine belC (HC.out _ bg) fun d os => ?_) | (go_at_call 83; refine belC (HO.out _ bg) fun d os => ?_) | (go_at_call 84; refine belC (HA.out _ bg) fun d os => ?_) | (go_at_call 85; refine belC (HW.out _ bg) fun d os => ?_) | (go_at_call 86; refine belC (HH.out _ bg) fun d os => ?_) | (go_at_call 87; refine belC (HG.out _ bg) fun d os => ?_)); (try rw [more_more])); try (refine wpm ?_; (repeat (go_big_quiet_step ((first | (go_at_call 83; with_reducible exact more_call (HO.out _ bg)) | (go_at_call 84; with_reducible exact more_call (HA.out _ bg)))))); refine wpQuiet_nil ?_; rintro _ ⟨pm, rfl⟩; (try rw [more_more])))
 exact bodyPost_ret (results_cm Tryz.results44 rfl rfl rfl (ld_more HQ.out s8 _ _)) rfl ⟨rfl, bg⟩
theorem dlook_used (h : DeskAt w d c D) (ho : CfgOk c) (k s i g es ei eg m x y vx vy hp pw lf mask : Int) (hcb : errB (cmdB ⟨k, s, i, g, ⟨es, ei, eg, m, x, y, vx, vy, hp, pw, lf⟩, mask⟩) = 0) (hk : (k == 1) = false) (ha : aliveF D.M s i g = true) (hn : endsF D.q s i g = true) :
 Calls prog 44 #[.pointer (some ⟨d.p, 0, none⟩), .agg #[int i64 k, int i64 s, int i64 i, int i64 g, int i64 es, int i64 ei, int i64 eg, int i64 m, int i64 x, int i64 y, int i64 vx, int i64 vy, int i64 hp, int i64 pw, int i64 lf, int i64 mask]] w fun e w' => e = .returned (.tuple #[.agg (cmC zeroCm).toArray, .bool false, int i64 10]) ∧ Below w.heap.size w w' := by
 obtain ⟨HC, HO, HA, HW, HH, HG⟩ := preD w d c D h ho k s i g es ei eg m x y vx vy hp pw lf mask
 obtain ⟨w1, hw1, hb1, k0, k1, g0, g1, hsz⟩ := two_boxesC w k s i g es ei eg m x y vx vy hp pw lf mask 34
 obtain ⟨p, cap, c0, c1, c2, m6, hlt, hltm⟩ := h.at1 hb1
 have s6 : w.heap.size < w1.heap.size := by omega
 have s7 : w.heap.size + 1 < w1.heap.size := by omega
 obtain ⟨x0, x1, x2, x3, x4, x5, x6, x8, x9⟩ := cells9 k0
 obtain ⟨z0, z1, z2⟩ := ltz hlt
 obtain ⟨z3, z4, z5⟩ := ltz hltm
 obtain ⟨z6, z7, z8⟩ := ltz s6
 obtain ⟨z9, z10, z11⟩ := ltz s7
 have HW1 := hid hw1
 clear h ho hw1
 generalize hgn : genF D.M (ofF c x y) (headF D.M (ofF c x y)).1 = gn at *
 clear hgn
 generalize headF D.M (ofF c x y) = hd at *
 obtain ⟨hi, hb, he⟩ := hd
 generalize ofF c x y = zn at *
 generalize aliveF D.M s i g = al at *
 generalize endsF D.q s i g = en at *
 generalize errB (cmdB ⟨k, s, i, g, ⟨es, ei, eg, m, x, y, vx, vy, hp, pw, lf⟩, mask⟩) = cb at *
 generalize c.queue = qmax at *
 generalize D.q.length = ql at *
 subst hcb
 subst ha hn
 obtain ⟨hL, hL0⟩ := ld_boxL s6 k0
 obtain ⟨w2, hS, hq, hsz2, ht2⟩ := st_boxZ k1 g1 s7
 have HQ := hid hq
 have s8 : w.heap.size + 1 < w2.heap.size := by omega
 have hb2 : Below w.heap.size w w2 := Turned.below_new ht2 (fun q hq => by cases hq; omega) hb1 (by omega)
 clear hq hsz2 ht2
 clear k0 k1 g0 g1 hsz
 go_enter Tryz.func44, Tryz.ntmps44
 go_upto_region 1 with fail
 rw [← HW1.out]
 iterate 3 (go_wp2_with ((first | (go_at_call 82; refine belC (HC.out _ bg) fun d os => ?_) | (go_at_call 83; refine belC (HO.out _ bg) fun d os => ?_) | (go_at_call 84; refine belC (HA.out _ bg) fun d os => ?_) | (go_at_call 85; refine belC (HW.out _ bg) fun d os => ?_) | (go_at_call 86; refine belC (HH.out _ bg) fun d os => ?_) | (go_at_call 87; refine belC (HG.out _ bg) fun d os => ?_)); (try rw [more_more])); try (refine wpm ?_; (repeat (go_big_quiet_step ((first | (go_at_call 83; with_reducible exact more_call (HO.out _ bg)) | (go_at_call 84; with_reducible exact more_call (HA.out _ bg)))))); refine wpQuiet_nil ?_; rintro _ ⟨pm, rfl⟩; (try rw [more_more])))
 exact bodyPost_ret (results_cm Tryz.results44 rfl rfl rfl (ld_more HQ.out s8 _ _)) rfl ⟨rfl, bg⟩
theorem dlook_full2 (h : DeskAt w d c D) (ho : CfgOk c) (k s i g es ei eg m x y vx vy hp pw lf mask : Int) (hcb : errB (cmdB ⟨k, s, i, g, ⟨es, ei, eg, m, x, y, vx, vy, hp, pw, lf⟩, mask⟩) = 0) (hk : (k == 1) = false) (ha : aliveF D.M s i g = true) (hn : endsF D.q s i g = false) (hf : c.queue ≤ (D.q.length : Int)) :
 Calls prog 44 #[.pointer (some ⟨d.p, 0, none⟩), .agg #[int i64 k, int i64 s, int i64 i, int i64 g, int i64 es, int i64 ei, int i64 eg, int i64 m, int i64 x, int i64 y, int i64 vx, int i64 vy, int i64 hp, int i64 pw, int i64 lf, int i64 mask]] w fun e w' => e = .returned (.tuple #[.agg (cmC zeroCm).toArray, .bool false, int i64 8]) ∧ Below w.heap.size w w' := by
 obtain ⟨HC, HO, HA, HW, HH, HG⟩ := preD w d c D h ho k s i g es ei eg m x y vx vy hp pw lf mask
 obtain ⟨w1, hw1, hb1, k0, k1, g0, g1, hsz⟩ := two_boxesC w k s i g es ei eg m x y vx vy hp pw lf mask 34
 obtain ⟨p, cap, c0, c1, c2, m6, hlt, hltm⟩ := h.at1 hb1
 have s6 : w.heap.size < w1.heap.size := by omega
 have s7 : w.heap.size + 1 < w1.heap.size := by omega
 obtain ⟨x0, x1, x2, x3, x4, x5, x6, x8, x9⟩ := cells9 k0
 obtain ⟨z0, z1, z2⟩ := ltz hlt
 obtain ⟨z3, z4, z5⟩ := ltz hltm
 obtain ⟨z6, z7, z8⟩ := ltz s6
 obtain ⟨z9, z10, z11⟩ := ltz s7
 have HW1 := hid hw1
 clear h ho hw1
 generalize hgn : genF D.M (ofF c x y) (headF D.M (ofF c x y)).1 = gn at *
 clear hgn
 generalize headF D.M (ofF c x y) = hd at *
 obtain ⟨hi, hb, he⟩ := hd
 generalize ofF c x y = zn at *
 generalize aliveF D.M s i g = al at *
 generalize endsF D.q s i g = en at *
 generalize errB (cmdB ⟨k, s, i, g, ⟨es, ei, eg, m, x, y, vx, vy, hp, pw, lf⟩, mask⟩) = cb at *
 generalize c.queue = qmax at *
 generalize D.q.length = ql at *
 subst hcb
 subst ha hn
 obtain ⟨hL, hL0⟩ := ld_boxL s6 k0
 obtain ⟨w2, hS, hq, hsz2, ht2⟩ := st_boxZ k1 g1 s7
 have HQ := hid hq
 have s8 : w.heap.size + 1 < w2.heap.size := by omega
 have hb2 : Below w.heap.size w w2 := Turned.below_new ht2 (fun q hq => by cases hq; omega) hb1 (by omega)
 clear hq hsz2 ht2
 clear k0 k1 g0 g1 hsz
 go_enter Tryz.func44, Tryz.ntmps44
 go_upto_region 1 with fail
 rw [← HW1.out]
 iterate 4 (go_wp2_with ((first | (go_at_call 82; refine belC (HC.out _ bg) fun d os => ?_) | (go_at_call 83; refine belC (HO.out _ bg) fun d os => ?_) | (go_at_call 84; refine belC (HA.out _ bg) fun d os => ?_) | (go_at_call 85; refine belC (HW.out _ bg) fun d os => ?_) | (go_at_call 86; refine belC (HH.out _ bg) fun d os => ?_) | (go_at_call 87; refine belC (HG.out _ bg) fun d os => ?_)); (try rw [more_more])); try (refine wpm ?_; (repeat (go_big_quiet_step ((first | (go_at_call 83; with_reducible exact more_call (HO.out _ bg)) | (go_at_call 84; with_reducible exact more_call (HA.out _ bg)))))); refine wpQuiet_nil ?_; rintro _ ⟨pm, rfl⟩; (try rw [more_more])))
 exact bodyPost_ret (results_cm Tryz.results44 rfl rfl rfl (ld_more HQ.out s8 _ _)) rfl ⟨rfl, bg⟩
theorem dlook_ok2 (h : DeskAt w d c D) (ho : CfgOk c) (k s i g es ei eg m x y vx vy hp pw lf mask : Int) (hcb : errB (cmdB ⟨k, s, i, g, ⟨es, ei, eg, m, x, y, vx, vy, hp, pw, lf⟩, mask⟩) = 0) (hk : (k == 1) = false) (ha : aliveF D.M s i g = true) (hn : endsF D.q s i g = false) (hf : ¬ c.queue ≤ (D.q.length : Int)) :
 Calls prog 44 #[.pointer (some ⟨d.p, 0, none⟩), .agg #[int i64 k, int i64 s, int i64 i, int i64 g, int i64 es, int i64 ei, int i64 eg, int i64 m, int i64 x, int i64 y, int i64 vx, int i64 vy, int i64 hp, int i64 pw, int i64 lf, int i64 mask]] w fun e w' => e = .returned (.tuple #[.agg #[int i64 k, int i64 s, int i64 i, int i64 g, int i64 es, int i64 ei, int i64 eg, int i64 m, int i64 x, int i64 y, int i64 vx, int i64 vy, int i64 hp, int i64 pw, int i64 lf, int i64 mask], .bool false, int i64 0]) ∧ Below w.heap.size w w' := by
 obtain ⟨HC, HO, HA, HW, HH, HG⟩ := preD w d c D h ho k s i g es ei eg m x y vx vy hp pw lf mask
 obtain ⟨w1, hw1, hb1, k0, k1, g0, g1, hsz⟩ := two_boxesC w k s i g es ei eg m x y vx vy hp pw lf mask 34
 obtain ⟨p, cap, c0, c1, c2, m6, hlt, hltm⟩ := h.at1 hb1
 have s6 : w.heap.size < w1.heap.size := by omega
 have s7 : w.heap.size + 1 < w1.heap.size := by omega
 obtain ⟨x0, x1, x2, x3, x4, x5, x6, x8, x9⟩ := cells9 k0
 obtain ⟨z0, z1, z2⟩ := ltz hlt
 obtain ⟨z3, z4, z5⟩ := ltz hltm
 obtain ⟨z6, z7, z8⟩ := ltz s6
 obtain ⟨z9, z10, z11⟩ := ltz s7
 have HW1 := hid hw1
 clear h ho hw1
 generalize hgn : genF D.M (ofF c x y) (headF D.M (ofF c x y)).1 = gn at *
 clear hgn
 generalize headF D.M (ofF c x y) = hd at *
 obtain ⟨hi, hb, he⟩ := hd
 generalize ofF c x y = zn at *
 generalize aliveF D.M s i g = al at *
 generalize endsF D.q s i g = en at *
 generalize errB (cmdB ⟨k, s, i, g, ⟨es, ei, eg, m, x, y, vx, vy, hp, pw, lf⟩, mask⟩) = cb at *
 generalize c.queue = qmax at *
 generalize D.q.length = ql at *
 subst hcb
 subst ha hn
 obtain ⟨hL, hL0⟩ := ld_boxL s6 k0
 obtain ⟨w2, hS', _, hq, hsz2, ht2⟩ := st_box w1 (w.heap.size + 1) (fun j hj => by rw [k1 j, Array.getElem?_eq_getElem (by simpa using hj)]; rfl) g1 s7 ⟨k, s, i, g, ⟨es, ei, eg, m, x, y, vx, vy, hp, pw, lf⟩, mask⟩
 have hS : ∀ d os, (stM ⟨w.heap.size + 1, 0, none⟩ (.agg #[int i64 k, int i64 s, int i64 i, int i64 g, int i64 es, int i64 ei, int i64 eg, int i64 m, int i64 x, int i64 y, int i64 vx, int i64 vy, int i64 hp, int i64 pw, int i64 lf, int i64 mask])).run prog (more w1 d os) = .ok () (more w2 d os) := hS'
 have HQ := hid hq
 have s8 : w.heap.size + 1 < w2.heap.size := by omega
 have hb2 : Below w.heap.size w w2 := Turned.below_new ht2 (fun q hq => by cases hq; omega) hb1 (by omega)
 clear hS' hq hsz2 ht2
 clear k0 k1 g0 g1 hsz
 go_enter Tryz.func44, Tryz.ntmps44
 go_upto_region 1 with fail
 rw [← HW1.out]
 iterate 4 (go_wp2_with ((first | (go_at_call 82; refine belC (HC.out _ bg) fun d os => ?_) | (go_at_call 83; refine belC (HO.out _ bg) fun d os => ?_) | (go_at_call 84; refine belC (HA.out _ bg) fun d os => ?_) | (go_at_call 85; refine belC (HW.out _ bg) fun d os => ?_) | (go_at_call 86; refine belC (HH.out _ bg) fun d os => ?_) | (go_at_call 87; refine belC (HG.out _ bg) fun d os => ?_)); (try rw [more_more])); try (refine wpm ?_; (repeat (go_big_quiet_step ((first | (go_at_call 83; with_reducible exact more_call (HO.out _ bg)) | (go_at_call 84; with_reducible exact more_call (HA.out _ bg)))))); refine wpQuiet_nil ?_; rintro _ ⟨pm, rfl⟩; (try rw [more_more])))
 exact bodyPost_ret (results_cm Tryz.results44 rfl rfl rfl (ld_more HQ.out s8 _ _)) rfl ⟨rfl, bg⟩
theorem dlook_ok1 (h : DeskAt w d c D) (ho : CfgOk c) (k s i g es ei eg m x y vx vy hp pw lf mask : Int) (hcb : errB (cmdB ⟨k, s, i, g, ⟨es, ei, eg, m, x, y, vx, vy, hp, pw, lf⟩, mask⟩) = 0) (hk : k = 1) (hnw : idEq es ei eg 0 0 0 = true) (hz : ¬ ofF c x y < 0) (hf : ¬ c.queue ≤ (D.q.length : Int)) (hh : (headF D.M (ofF c x y)).2.2 = 0) :
 Calls prog 44 #[.pointer (some ⟨d.p, 0, none⟩), .agg #[int i64 k, int i64 s, int i64 i, int i64 g, int i64 es, int i64 ei, int i64 eg, int i64 m, int i64 x, int i64 y, int i64 vx, int i64 vy, int i64 hp, int i64 pw, int i64 lf, int i64 mask]] w fun e w' => e = .returned (.tuple #[.agg #[int i64 k, int i64 s, int i64 i, int i64 g, int i64 (ofF c x y), int i64 (headF D.M (ofF c x y)).1, int i64 (genF D.M (ofF c x y) (headF D.M (ofF c x y)).1), int i64 m, int i64 x, int i64 y, int i64 vx, int i64 vy, int i64 hp, int i64 pw, int i64 lf, int i64 mask], .bool (!(headF D.M (ofF c x y)).2.1), int i64 0]) ∧ Below w.heap.size w w' := by
 obtain ⟨HC, HO, HA, HW, HH, HG⟩ := preD w d c D h ho k s i g es ei eg m x y vx vy hp pw lf mask
 obtain ⟨w1, hw1, hb1, k0, k1, g0, g1, hsz⟩ := two_boxesC w k s i g es ei eg m x y vx vy hp pw lf mask 34
 obtain ⟨p, cap, c0, c1, c2, m6, hlt, hltm⟩ := h.at1 hb1
 have s6 : w.heap.size < w1.heap.size := by omega
 have s7 : w.heap.size + 1 < w1.heap.size := by omega
 obtain ⟨x0, x1, x2, x3, x4, x5, x6, x8, x9⟩ := cells9 k0
 obtain ⟨z0, z1, z2⟩ := ltz hlt
 obtain ⟨z3, z4, z5⟩ := ltz hltm
 obtain ⟨z6, z7, z8⟩ := ltz s6
 obtain ⟨z9, z10, z11⟩ := ltz s7
 have HW1 := hid hw1
 clear h ho hw1
 generalize hgn : genF D.M (ofF c x y) (headF D.M (ofF c x y)).1 = gn at *
 clear hgn
 generalize headF D.M (ofF c x y) = hd at *
 obtain ⟨hi, hb, he⟩ := hd
 generalize ofF c x y = zn at *
 generalize aliveF D.M s i g = al at *
 generalize endsF D.q s i g = en at *
 generalize errB (cmdB ⟨k, s, i, g, ⟨es, ei, eg, m, x, y, vx, vy, hp, pw, lf⟩, mask⟩) = cb at *
 generalize c.queue = qmax at *
 generalize D.q.length = ql at *
 subst hcb hk
 subst hh
 obtain ⟨hL, hL0⟩ := ld_boxL s6 k0
 obtain ⟨w3, hw3, hb3, q0, q1, g3, hsz3⟩ := named_box hb1 k0 k1 g1 hsz zn hi gn
 have s9 : w.heap.size + 1 < w3.heap.size := by omega
 have s10 : w.heap.size < w3.heap.size := by omega
 have hL3 : ∀ d os, (ldM ⟨w.heap.size, 0, none⟩).run prog (more w3 d os) = .ok (.agg #[int i64 1, int i64 s, int i64 i, int i64 g, int i64 zn, int i64 hi, int i64 gn, int i64 m, int i64 x, int i64 y, int i64 vx, int i64 vy, int i64 hp, int i64 pw, int i64 lf, int i64 mask]) (more w3 d os) := fun d os => ld_box ⟨1, s, i, g, ⟨zn, hi, gn, m, x, y, vx, vy, hp, pw, lf⟩, mask⟩ s10 (fun j => by rw [q0 j, List.getElem?_toArray]; rfl) d os
 obtain ⟨w2, hS', _, hq, hsz2, ht2⟩ := st_box w3 (w.heap.size + 1) (fun j hj => by rw [q1 j, Array.getElem?_eq_getElem (by simpa using hj)]; rfl) g3 s9 ⟨1, s, i, g, ⟨zn, hi, gn, m, x, y, vx, vy, hp, pw, lf⟩, mask⟩
 have hS : ∀ d os, (stM ⟨w.heap.size + 1, 0, none⟩ (.agg #[int i64 1, int i64 s, int i64 i, int i64 g, int i64 zn, int i64 hi, int i64 gn, int i64 m, int i64 x, int i64 y, int i64 vx, int i64 vy, int i64 hp, int i64 pw, int i64 lf, int i64 mask])).run prog (more w3 d os) = .ok () (more w2 d os) := hS'
 have HQ := hid hq
 have s8 : w.heap.size + 1 < w2.heap.size := by omega
 have hb2 : Below w.heap.size w w2 := Turned.below_new ht2 (fun q hq => by cases hq; omega) hb3 (by omega)
 clear hS' hq hsz2 ht2
 have HW3 := hid hw3
 have HS := hid hS
 have HL3 := hid hL3
 have f4 := g0 4; have f5 := g0 5; have f6 := g0 6
 clear k0 k1 g0 g1 hsz hw3 q0 q1 g3 hsz3 hL3 hS
 go_enter Tryz.func44, Tryz.ntmps44
 go_upto_region 1 with fail
 rw [← HW1.out]
 iterate 3 (go_wp2_with ((first | (go_at_call 82; refine belC (HC.out _ bg) fun d os => ?_) | (go_at_call 83; refine belC (HO.out _ bg) fun d os => ?_) | (go_at_call 84; refine belC (HA.out _ bg) fun d os => ?_) | (go_at_call 85; refine belC (HW.out _ bg) fun d os => ?_) | (go_at_call 86; refine belC (HH.out _ bg) fun d os => ?_) | (go_at_call 87; refine belC (HG.out _ bg) fun d os => ?_)); (try rw [more_more])); refine wpm ?_; (repeat (go_big_quiet_step ((first | (go_at_call 83; with_reducible exact more_call (HO.out _ bg)) | (go_at_call 84; with_reducible exact more_call (HA.out _ bg)))))); refine wpQuiet_nil ?_; rintro _ ⟨pm, rfl⟩; (try rw [more_more]))
 go_upto_region 19 with ((first | (go_at_call 82; refine belC (HC.out _ bg) fun d os => ?_) | (go_at_call 83; refine belC (HO.out _ bg) fun d os => ?_) | (go_at_call 84; refine belC (HA.out _ bg) fun d os => ?_) | (go_at_call 85; refine belC (HW.out _ bg) fun d os => ?_) | (go_at_call 86; refine belC (HH.out _ bg) fun d os => ?_) | (go_at_call 87; refine belC (HG.out _ bg) fun d os => ?_)); (try rw [more_more]))
 rw [HW3.out]
 have hL3 := HL3.out
 have hS := HS.out
 iterate 24 (first | go_values | go_skip | go_guarded | go_step | go_upon | go_back)
 exact bodyPost_ret (results_cm Tryz.results44 rfl rfl rfl (ld_more HQ.out s8 _ _)) rfl ⟨rfl, bg⟩
theorem dlook_any (h : DeskAt w d c D) (ho : CfgOk c) (m : Cm) : Calls prog 44 #[.pointer (some ⟨d.p, 0, none⟩), .agg (cmC m).toArray] w fun e w' => e = .returned (.tuple #[.agg (cmC (lookF c D m).1).toArray, .bool (lookF c D m).2.1, int i64 (lookF c D m).2.2]) ∧ Below w.heap.size w w' := by
 obtain ⟨k, s, i, g, ⟨es, ei, eg, m, x, y, vx, vy, hp, pw, lf⟩, mask⟩ := m
 unfold lookF newB fullB
 simp only
 cases hcb : cmdB ⟨k, s, i, g, ⟨es, ei, eg, m, x, y, vx, vy, hp, pw, lf⟩, mask⟩ with
 | false =>
   rw [if_pos (Or.inl rfl)]
   exact dlook_bad w d c D h ho k s i g es ei eg m x y vx vy hp pw lf mask (by rw [hcb]; rfl) rfl
 | true =>
   have hcb' : errB (cmdB ⟨k, s, i, g, ⟨es, ei, eg, m, x, y, vx, vy, hp, pw, lf⟩, mask⟩) = 0 := by rw [hcb]; rfl
   by_cases hk : k = 1
   · cases hn : idEq es ei eg 0 0 0 with
     | false =>
       rw [if_pos (Or.inr ⟨hk, rfl⟩)]
       exact dlook_named w d c D h ho k s i g es ei eg m x y vx vy hp pw lf mask hcb' hk hn
     | true =>
       rw [if_neg (by simp), if_pos hk]
       split
       · rename_i hz; exact dlook_zone w d c D h ho k s i g es ei eg m x y vx vy hp pw lf mask hcb' hk hn hz
       · rename_i hz
         split
         · rename_i hf; exact dlook_full1 w d c D h ho k s i g es ei eg m x y vx vy hp pw lf mask hcb' hk hn hz (of_decide_eq_true hf)
         · rename_i hf
           have hf' : ¬ c.queue ≤ (D.q.length : Int) := fun e => hf (decide_eq_true e)
           split
           · rename_i hh; exact dlook_busy w d c D h ho k s i g es ei eg m x y vx vy hp pw lf mask hcb' hk hn hz hf' (by simpa using hh)
           · rename_i hh; exact dlook_ok1 w d c D h ho k s i g es ei eg m x y vx vy hp pw lf mask hcb' hk hn hz hf' (by simpa using hh)
   · have hk' : (k == 1) = false := by simpa using hk
     rw [if_neg (by simp [hk]), if_neg hk]
     split
     · rename_i ha; exact dlook_stale w d c D h ho k s i g es ei eg m x y vx vy hp pw lf mask hcb' hk' ha
     · rename_i ha
       have ha' : aliveF D.M s i g = true := by simpa using ha
       split
       · rename_i hn; exact dlook_used w d c D h ho k s i g es ei eg m x y vx vy hp pw lf mask hcb' hk' ha' hn
       · rename_i hn
         have hn' : endsF D.q s i g = false := by simpa using hn
         split
         · rename_i hf; exact dlook_full2 w d c D h ho k s i g es ei eg m x y vx vy hp pw lf mask hcb' hk' ha' hn' (of_decide_eq_true hf)
         · rename_i hf; exact dlook_ok2 w d c D h ho k s i g es ei eg m x y vx vy hp pw lf mask hcb' hk' ha' hn' (fun e => hf (decide_eq_true e))
end
end
section
section
variable (w : World) (d : DLay) (c : Cfg) (D : Dk)
def OpenQ (w : World) (d : DLay) (c : Cfg) (D : Dk) (e : Ending) (w' : World) : Prop := ∃ v, e = .returned (.tuple #[int i64 (beginF D).1.1, v, int i64 (beginF D).1.2.2]) ∧ Sl w' 34 16 v (beginF D).1.2.1.length (cellsR cmC (beginF D).1.2.1) ∧ (v.ownBlock = none ∨ v.ownBlock = d.qv.ownBlock) ∧
 ∃ d', d'.p = d.p ∧ d'.bm = d.bm ∧ DeskAt w' d' c (beginF D).2 ∧ Chg w w' d.own ∧ (∀ b, d'.own b → d.own b ∨ w.heap.size ≤ b) ∧ ∀ g, v.ownBlock = some g → ¬ d'.own g ∧ g ≠ d'.bm
theorem open_ok (h : DeskAt w d c D) (hop : D.op = false) (ht : D.t < 1099511627776) : Calls prog 58 #[.pointer (some ⟨d.p, 0, none⟩)] w (OpenQ w d c D) := by
 have c2 := h.cell 2
 have c3 := h.cell 3
 have c4 := h.cell 4
 have f2 := h.frozen 2
 have f3 := h.frozen 3
 have f4 := h.frozen 4
 have hlt := lt_of_heap h.box
 have htt := h.t0
 simp [deskC, hop] at c2 c3 c4
 have hbe : beginF D = ((D.t + 1, D.q, 0), { D with q := [], t := D.t + 1, op := true }) := by
  have : ¬ (beginB D = true) := by simp [beginB, hop]; omega
  unfold beginF; rw [if_neg this]
 have hdt : decide (1099511627776 ≤ D.t) = false := by simpa using ht
 have wr : IntKind.i64.wrap (D.t + 1) = D.t + 1 := by rw [IntKind.wrap_i64]; omega
 obtain ⟨p, cap, hv⟩ := sl_frm h.q
 have FIN : OpenQ w d c D (.returned (.tuple #[int i64 (D.t + 1), d.qv, int i64 0])) (((w.setCell ⟨d.p, 2, none⟩ (.slice none 0 0)).setCell ⟨d.p, 4, none⟩ (.bool true)).setCell ⟨d.p, 3, none⟩ (int i64 (D.t + 1))) := by
  unfold OpenQ
  rw [hbe]
  have hx : ∀ (W : World) (o : Nat) (u : Value) (b : Nat), b ≠ d.p → (W.setCell ⟨d.p, o, none⟩ u).heap[b]? = W.heap[b]? := fun W o u b hb => Below.heap_setCell _ _ _ _ (by simpa using hb)
  have hnp : ∀ g, d.qv.ownBlock = some g → g ≠ d.p := fun g hg => (h.aq g hg).1
  refine ⟨_, rfl, h.q.keep fun g hg => by rw [hx _ _ _ _ (hnp g hg), hx _ _ _ _ (hnp g hg), hx _ _ _ _ (hnp g hg)], .inr rfl, ⟨d.p, d.bm, d.L, .slice none 0 0⟩, rfl, rfl, ⟨?_, ?_, ?_, ⟨rfl, .inl ⟨rfl, rfl⟩⟩, ?_, ?_, h.ap, fun g hg => (by cases hg), ?_⟩, ?_, ?_, ?_⟩
  · rw [heap_setCell_same _ _ _ _ _ _ _ (heap_setCell_same _ _ _ _ _ _ _ (heap_setCell_same _ _ _ _ _ _ _ h.box))]
    simp [deskC]
  · have hm : d.bm ≠ d.p := fun e => h.am (.inl e)
    show (_ : World).heap[d.bm]? = _
    rw [hx _ _ _ _ hm, hx _ _ _ _ hm, hx _ _ _ _ hm]; exact h.map
  · exact h.pool.keep fun b hb => by
     have : b ≠ d.p := fun e => h.ap (e ▸ hb)
     rw [hx _ _ _ _ this, hx _ _ _ _ this, hx _ _ _ _ this]
  · have := h.qn; simp only [List.length_nil]; omega
  · simp only; omega
  · rintro (e | e | e)
    · exact h.am (.inl e)
    · exact h.am (.inr (.inl e))
    · cases e
  · exact ((Chg.refl w d.own).setCell _ _ (.inl (.inl rfl))).setCell _ _ (.inl (.inl rfl)) |>.setCell _ _ (.inl (.inl rfl))
  · rintro b (e | e | e)
    · exact .inl (.inl e)
    · exact .inl (.inr (.inl e))
    · cases e
  · intro g hg
    refine ⟨?_, fun e => h.am (.inr (.inr (by rw [hg, e])))⟩
    rintro (e | e | e)
    · exact (h.aq g hg).1 e
    · exact (h.aq g hg).2 e
    · cases e
 rw [hv] at c2 FIN
 have HF := hid FIN
 generalize D.t = T at *
 clear h FIN hv hbe htt hop
 generalize hQ : OpenQ w d c D = Q at *
 clear hQ
 go_enter Tryz.func58, Tryz.ntmps58
 go_wp2_with fail
 exact HF.out
theorem open_bad (h : DeskAt w d c D) (hb : beginB D = true) : Calls prog 58 #[.pointer (some ⟨d.p, 0, none⟩)] w (OpenQ w d c D) := by
 have c3 := h.cell 3
 have c4 := h.cell 4
 have hlt := lt_of_heap h.box
 simp [deskC] at c3 c4
 have FIN : ∀ w', Below w.heap.size w w' → OpenQ w d c D (.returned (.tuple #[int i64 0, .slice none 0 0, int i64 14])) w' := fun w' hw => by
  unfold OpenQ beginF
  rw [if_pos hb]
  exact ⟨_, rfl, ⟨rfl, .inl ⟨rfl, rfl⟩⟩, .inl rfl, d, rfl, rfl, h.grown hw, Chg.of_below hw, fun b hb => .inl hb, fun g hg => by cases hg⟩
 have HF := hid FIN
 unfold beginB at hb
 generalize D.t = T at *
 generalize D.op = op at *
 generalize hQ : OpenQ w d c D = Q at *
 clear h FIN hQ
 cases op with
 | true =>
   go_enter Tryz.func58, Tryz.ntmps58
   go_wp2_with fail
   exact HF.out _ bg
 | false =>
   have hdt : decide (1099511627776 ≤ T) = true := by simpa using hb
   go_enter Tryz.func58, Tryz.ntmps58
   go_wp2_with fail
   exact HF.out _ bg
theorem dopen_any (h : DeskAt w d c D) : Calls prog 58 #[.pointer (some ⟨d.p, 0, none⟩)] w (OpenQ w d c D) := by
 cases hb : beginB D with
 | true => exact open_bad w d c D h hb
 | false =>
   simp [beginB] at hb
   exact open_ok w d c D h hb.1 (by omega)
end
end
section
theorem RIn.chg {β : Type} {enc : β → List Value} {w w' : World} {v : Value} {l : List β} {F : Nat → Prop} (h : RIn enc w v l) (hc : Chg w w' F) (hF : l ≠ [] → ∀ g, v.ownBlock = some g → ¬ F g) : RIn enc w' v l := by
 obtain ⟨p, cap, rfl, h1, h2, h3, h4⟩ := h
 refine ⟨p, cap, rfl, h1, h2, h3, fun hn => ?_⟩
 obtain ⟨blk, off, rfl, h5, h6⟩ := h4 hn
 exact ⟨blk, off, rfl, Nat.lt_of_lt_of_le h5 hc.size, fun t u hu => (hc.cell (a := ⟨blk, off + t, none⟩) h5 (hF hn blk rfl)).trans (h6 t u hu)⟩
theorem DStp.shut {w w' : World} {d : DLay} {c : Cfg} {D : Dk} (h : DStp w d c w' D) : w'.frozen? ⟨d.p, 4, none⟩ = false ∧ (∃ u, w'.cell? ⟨d.p, 4, none⟩ = some u) ∧ d.p < w'.heap.size ∧ DStp w d c (w'.setCell ⟨d.p, 4, none⟩ (.bool false)) { D with op := false } := by
 have h' := h
 obtain ⟨d', e1, e2, hd, hc, ho⟩ := h
 have hf := hd.frozen 4
 have hc4 := hd.cell 4
 have hlt := lt_of_heap hd.box
 rw [e1] at hf hc4 hlt
 refine ⟨hf, ⟨_, by rw [hc4]; rfl⟩, hlt, h'.trans fun d2 f1 f2 hd2 => ?_⟩
 refine hd2.boxed (v' := d2.qv) ?_ rfl ?_ hd2.qn hd2.t0 (fun g hg => .inl hg) ((Chg.refl _ _).setCell _ _ (.inl (.inl f1.symm)))
 · rw [← f1, heap_setCell_same _ _ _ _ _ _ _ hd2.box]
   simp [deskC]
 · exact hd2.q.keep fun g hg => Below.heap_setCell _ _ _ _ fun e => (hd2.aq g hg).1 ((show g = d.p from e).trans f1.symm)
theorem DStp.next {w w' w'' : World} {d d1 : DLay} {c : Cfg} {D'' : Dk} (e1 : d1.p = d.p) (e2 : d1.bm = d.bm) (hc : Chg w w' d.own) (ho : ∀ b, d1.own b → d.own b ∨ w.heap.size ≤ b) (h2 : DStp w' d1 c w'' D'') : DStp w d c w'' D'' := by
 obtain ⟨d2, f1, f2, hd2, hc2, ho2⟩ := h2
 refine ⟨d2, f1.trans e1, f2.trans e2, hd2, hc.trans hc2 fun b hb h1 => (ho b h1).elim id fun h => by omega, fun b hb => ?_⟩
 rcases ho2 b hb with h | h
 · exact ho b h
 · exact .inr (Nat.le_trans hc.size h)
section
variable (w : World) (d : DLay) (c : Cfg) (D : Dk)
theorem close_shut (h : DeskAt w d c D) (v : Value) (hop : D.op = false) (hv : ∃ p n cap, v = .slice p n cap) : Calls prog 60 #[.pointer (some ⟨d.p, 0, none⟩), v] w fun e w' => e = .returned (.tuple #[int i64 0, int i64 14]) ∧ Below w.heap.size w w' := by
 have c4 := h.cell 4
 have hlt := lt_of_heap h.box
 obtain ⟨p, n, cap, rfl⟩ := hv
 simp [deskC, hop] at c4
 clear h hop
 go_enter Tryz.func60, Tryz.ntmps60
 go_wp2_with fail
 go_ret2
 exact ⟨rfl, bg⟩
theorem close_ok (h : DeskAt w d c D) (v : Value) (l : List Nid) (hop : D.op = true) (hv : RIn nidL w v l) (ha : l ≠ [] → ∀ g, v.ownBlock = some g → ¬ d.own g) (hl : l.length ≤ 1000000) :
 Calls prog 60 #[.pointer (some ⟨d.p, 0, none⟩), v] w fun e w' => e = .returned (.tuple #[int i64 ((freesF D.M 0 l).1 : Nat), int i64 0]) ∧ DStp w d c w' { D with M := (freesF D.M 0 l).2, op := false } := by
 have c4 := h.cell 4
 simp [deskC, hop] at c4
 have hlt := lt_of_heap h.box
 have H0 := hid (DStp.of_grown h (Below.refl w.heap.size w))
 have HV := hid hv
 have HA := hid ha
 have HFS := hid (fun k x hx => frees_step D.M (l := l) (t := k) (x := x) hx)
 have HLE := hid (fun k => frees_le D.M 0 (l.take k))
 obtain ⟨p, cap, rfl, _, _, _, _⟩ := hv
 have hDe : ({ D with M := (freesF D.M 0 []).2 } : Dk) = D := rfl
 clear h ha hop
 go_enter Tryz.func60, Tryz.ntmps60
 go_wp2_with fail
 go_loopw [6, 18] (fun n i wr => ∃ k : Nat, k ≤ l.length ∧ i = int i64 k ∧ n = int i64 ((freesF D.M 0 (l.take k)).1 : Nat) ∧ Hid (DStp w d c wr { D with M := (freesF D.M 0 (l.take k)).2 })) (fun _ i _ => l.length - (intOf i).toNat)
 case atStart => exact ⟨0, Nat.zero_le _, rfl, rfl, H0⟩
 case round =>
  obtain ⟨k, hk, rfl, rfl, hh⟩ := hrel
  obtain ⟨wo, rfl⟩ : ∃ wo : World, wo = wr := ⟨_, rfl⟩
  have hle := HLE.out k
  rw [List.length_take, Nat.min_eq_left hk] at hle
  have hI : 0 ≤ (k : Int) := Int.natCast_nonneg k
  by_cases hlt2 : k < l.length
  · obtain ⟨x, hx⟩ : ∃ x, l[k]? = some x := ⟨_, List.getElem?_eq_getElem hlt2⟩
    have hst := HFS.out k x hx
    obtain ⟨d', e1, e2, hd, hc, ho⟩ := hh.out
    obtain ⟨blk, off, cap', hve, hb, hcx⟩ := (HV.out.chg hc HA.out).cells nidL_len hx
    simp only [Value.slice.injEq, true_and] at hve
    obtain ⟨rfl, rfl⟩ := hve
    obtain ⟨s, i, g⟩ := x
    have q0 := hcx 0 _ rfl
    have q1 := hcx 1 _ rfl
    have q2 := hcx 2 _ rfl
    rw [Nat.add_zero] at q0
    simp only at q0 q1 q2
    have d1 := hd.cell 1
    simp [deskC] at d1
    rw [e1] at d1
    have hdp := lt_of_heap hd.box
    rw [e1] at hdp
    simp only at hst
    have HST := hid hst
    have HF := hid (fun W (hW : Below wo.heap.size wo W) w' (hs : Stp W d'.L w' (freeF (freesF D.M 0 (l.take k)).2 s i g).2) => DStp.next e1 e2 hc ho ((DStp.pool (hd.grown hW) hs).from_below hW))
    have HFR := hid (fun W (hW : Below wo.heap.size wo W) => free_any W d'.L (freesF D.M 0 (l.take k)).2 s i g ((hd.grown hW).pool))
    generalize d'.L.P = dp at *
    generalize freesF D.M 0 (l.take k) = fk at *
    generalize freeF fk.2 s i g = fr at *
    obtain ⟨n0, M0⟩ := fk
    obtain ⟨er, M1⟩ := fr
    simp only at hle HST HF HFR
    obtain ⟨z0, z1, z2⟩ := ltz hdp
    obtain ⟨y0, y1, y2⟩ := ltz hb
    have t1 : (k : Int) < (l.length : Int) := by omega
    clear hst hcx hd hc ho e1 e2 hh H0 hx
    go_upto_region 9 with fail
    generalize hW1 : World.alloc wo _ = W1
    have hb1 : Below wo.heap.size wo W1 := by rw [← hW1]; exact bg
    have p0 : W1.cell? ⟨wo.heap.size, 0, none⟩ = some (int i64 s) := by rw [← hW1]; simp
    have p1 : W1.cell? ⟨wo.heap.size, 1, none⟩ = some (int i64 i) := by rw [← hW1]; simp
    have p2 : W1.cell? ⟨wo.heap.size, 2, none⟩ = some (int i64 g) := by rw [← hW1]; simp
    have d1' := (hb1.cell (p := ⟨d.p, 1, none⟩) hdp).trans d1
    clear hW1
    refine wp_region_still_tail 5 (by kernel_rfl) (by kernel_rfl) ?_
    simp only [List.take_succ_cons, List.take_zero, List.drop_succ_cons, List.drop_zero]
    repeat (first | still_step)
    refine wpStill_nil ?_
    go_wp2_with fail
    refine (HFR.out _ bg).mono ?_
    rintro e w2 ⟨rfl, hs⟩
    have HD := hid (HF.out _ bg _ hs)
    clear hs HF HFR
    by_cases he : er = 0
    · subst he
      rw [if_pos rfl] at HST
      go_wp2_with fail
      go_roundw
      case rel => exact ⟨k + 1, hlt2, by go_num, by rw [HST.out]; go_num, by rw [HST.out]; exact HD⟩
      case measure => simp [intOf]; omega
    · rw [if_neg he] at HST
      have he' : (er == 0) = false := by simpa using he
      clear he
      go_wp2_with fail
      go_roundw
      case rel => exact ⟨k + 1, hlt2, by go_num, by rw [HST.out]; rfl, by rw [HST.out]; exact HD⟩
      case measure => simp [intOf]; omega
  · obtain rfl : k = l.length := by omega
    rw [List.take_length] at hh ⊢
    obtain ⟨f4, ⟨u4, u5⟩, f6, f7⟩ := hh.out.shut
    have HF := hid f7
    clear f7 hh
    go_wp2_with fail
    go_ret2
    exact ⟨rfl, HF.out⟩
end
end
section
open Go
section
variable {P : Program} {ops : Array Oper} {Q : Exit → Act → World → Prop} {md : Region.Mode} {S : World → Prop} {n : Nat}
def AnyX (P : Program) (md : Region.Mode) (ops : Array Oper) (Q : Exit → Act → World → Prop) (S : World → Prop) (n : Nat) : Nat → Array Bool → Act → World → Prop
 | 0, listed, a, w => Region.ready md ops listed = [] ∧ Q .normal a w
 | fuel + 1, listed, a, w =>
   (Region.ready md ops listed = [] → Q .normal a w) ∧
   ∀ i ∈ Region.ready md ops listed, wpOp P ops Q i (fun a' w' => (i < n → S w') ∧ AnyX P md ops Q S n fuel (listed.setIfInBounds i true) a' w') a w
theorem any_of_x : ∀ (fuel : Nat) (listed : Array Bool) (a : Act) (w : World), AnyX P md ops Q S n fuel listed a w → wpAny P md ops Q fuel listed a w
 | 0, _, _, _, h => h
 | fuel + 1, _, _, _, h => ⟨h.1, fun i hi => wpOp_mono (fun a' w' h' => any_of_x fuel _ a' w' h'.2) (h.2 i hi)⟩
theorem anyX_first {i : Nat} {oi : Oper} {v : Value} (hi : ops[i]? = some oi) (hsel : Region.noSelect ops = true) (hs : Region.sinkB md ops n = true) (hc : Region.chainB md ops n = true) (hn : n < ops.size) (hin : i < n)
 (hQ : ∀ c a w, Q (.panic c) (a.put oi.dst v) w → Q (.panic c) a w) : ∀ (fuel : Nat) (listed : Array Bool) (a : Act) (w : World), HeadInv md ops n listed →
   (∀ j oj, ops[j]? = some oj → j ≠ i → listed.getD j true = false → (∀ e ∈ oj.after, Region.binds md e = true → e.on ≠ i) → oi.apart ops oj = true) →
   i ∈ Region.ready md ops listed → YieldsIf P ops S oi v a → S w →
   AnyX P md ops Q S n fuel (listed.setIfInBounds i true) (a.put oi.dst v) w → AnyX P md ops Q S n (fuel + 1) listed a w
 | fuel, listed, a, w, inv, hfree, hr, hy, hS, H => by
   have hun := (mem_ready.1 hr).1
   refine ⟨fun h => (by rw [h] at hr; cases hr), fun j hj => ?_⟩
   have hjn : j < n := Nat.lt_of_not_le fun h => tail_waits hs hc hn inv _ i rfl hin hun j h hj
   by_cases hji : j = i
   · rw [hji]; exact hy.wpOp hi hS ⟨fun _ => hS, H⟩
   · cases fuel with
     | zero =>
       have := ready_mono hj hji
       rw [H.1] at this
       cases this
     | succ fuel =>
       have h1 := H.2 j (ready_mono hj hji)
       obtain ⟨hjun, oj, hoj, hall⟩ := mem_ready.1 hj
       have hnot : ∀ e ∈ oj.after, Region.binds md e = true → e.on ≠ i := fun e he hb heq => by
        have h2 := hall e he hb
        rw [heq, getD_both hun] at h2
        cases h2
       have h2 := wpOp_putIf hoj (hfree j oj hoj hji hjun hnot) (fun cs b => Region.noSelect_spec hsel i oi cs b hi) (fun cs b => Region.noSelect_spec hsel j oj cs b hoj) hQ hy h1
       refine wpOp_mono (fun a' w' h3 => ⟨h3.2.1, anyX_first hi hsel hs hc hn hin hQ fuel (listed.setIfInBounds j true) a' w' (inv.set hj hjn) (fun k ok hk hki hku hno => ?_) (ready_mono hr (Ne.symm hji)) h3.1 (h3.2.1 hjn) ?_⟩) h2
       · refine hfree k ok hk hki ?_ hno
         by_cases hjk : j = k
         · rw [← hjk]; exact hjun
         · rwa [getD_set_ne true hjk] at hku
       · rw [Array.setIfInBounds_comm _ _ hji]
         exact h3.2.2
def headB (md : Region.Mode) (ops : Array Oper) (n : Nat) (listed : Array Bool) : Bool :=
 listed.size == ops.size && ((List.range ops.size).all fun j => match ops[j]? with
  | some oj => !listed.getD j false || oj.after.all fun e => !Region.binds md e || listed.getD e.on false
  | none => true) && ((List.range ops.size).all fun t => decide (t < n) || !listed.getD t true)
theorem headB_inv {listed : Array Bool} (h : headB md ops n listed = true) : HeadInv md ops n listed := by
 unfold headB at h
 simp only [Bool.and_eq_true, beq_iff_eq] at h
 obtain ⟨⟨h1, h2⟩, h3⟩ := h
 refine ⟨h1, fun j oj hj hl e he hb => ?_, fun t ht hlt => ?_⟩
 · have := List.all_eq_true.1 h2 j (List.mem_range.2 (Array.getElem?_eq_some_iff.1 hj).1)
   rw [hj] at this
   simp only [hl, Bool.not_true, Bool.false_or] at this
   have h4 := Array.all_eq_true_iff_forall_mem.1 this e he
   simpa [hb] using h4
 · have := List.all_eq_true.1 h3 t (List.mem_range.2 hlt)
   simpa [show ¬ t < n by omega] using this
theorem anyX_take {i : Nat} {oi : Oper} {v : Value} {fuel : Nat} {listed : Array Bool} {a : Act} {w : World} (hi : ops[i]? = some oi)
 (hB : (Region.noSelect ops && Region.sinkB md ops n && Region.chainB md ops n && decide (n < ops.size) && decide (i < n) && headB md ops n listed && Region.free md ops listed i && (Region.ready md ops listed).contains i) = true)
 (hQ : ∀ c a w, Q (.panic c) (a.put oi.dst v) w → Q (.panic c) a w) (hy : YieldsIf P ops S oi v a) (hS : S w)
 (h : AnyX P md ops Q S n fuel (listed.setIfInBounds i true) (a.put oi.dst v) w) : AnyX P md ops Q S n (fuel + 1) listed a w := by
 simp only [Bool.and_eq_true, decide_eq_true_eq] at hB
 obtain ⟨⟨⟨⟨⟨⟨⟨b1, b2⟩, b3⟩, b4⟩, b5⟩, b6⟩, b7⟩, b8⟩ := hB
 exact anyX_first hi b1 b2 b3 b4 b5 hQ fuel listed a w (headB_inv b6) (Region.free_spec hi b7) (by simpa using b8) hy hS h
def ReadyX (P : Program) (md : Region.Mode) (ops : Array Oper) (Q : Exit → Act → World → Prop) (S : World → Prop) (n fuel : Nat) (listed : Array Bool) (a : Act) (w : World) (rs : List Nat) : Prop :=
 ∀ i ∈ rs, wpOp P ops Q i (fun a' w' => (i < n → S w') ∧ AnyX P md ops Q S n fuel (listed.setIfInBounds i true) a' w') a w
theorem ReadyX.nil {fuel : Nat} {listed : Array Bool} {a : Act} {w : World} : ReadyX P md ops Q S n fuel listed a w [] := fun _ h => by cases h
theorem ReadyX.cons {fuel : Nat} {listed : Array Bool} {a : Act} {w : World} {i : Nat} {o : Oper} {rs : List Nat} (ho : ops[i]? = some o)
 (h : ∀ K' : Act → World → Prop, Shut (∀ a w, (i < n → S w) → ((i < n → S w) → AnyX P md ops Q S n fuel (listed.setIfInBounds i true) a w) → K' a w) → if Region.wanted o (yielded ops a.tmps) = true then Oper.wp P o a w K' Q else K' (a.put o.dst undef) w)
 (hs : ReadyX P md ops Q S n fuel listed a w rs) : ReadyX P md ops Q S n fuel listed a w (i :: rs) := fun j hj => by
 rcases List.mem_cons.1 hj with rfl | hj
 · exact wpOp_step ho (fun K' hK => h K' (fun a w hS hW => hK a w ⟨hS, hW hS⟩))
 · exact hs j hj
theorem anyX_ready {rs : List Nat} {fuel : Nat} {listed : Array Bool} {a : Act} {w : World} (hr : Region.ready md ops listed = rs) (hne : rs ≠ [])
 (h : ReadyX P md ops Q S n fuel listed a w rs) : AnyX P md ops Q S n (fuel + 1) listed a w := ⟨fun h0 => absurd (hr ▸ h0) hne, hr ▸ h⟩
theorem anyX_done {listed : Array Bool} {a : Act} {w : World} (hr : Region.ready md ops listed = []) (h : Q .normal a w) : ∀ fuel, AnyX P md ops Q S n fuel listed a w
 | 0 => ⟨hr, h⟩
 | _ + 1 => ⟨fun _ => h, by rw [hr]; simp⟩
theorem wp_region_x {id : Nat} {a : Act} {w : World} (n : Nat) (hm : P.follows .mixedOrders = true) (hS : S w.drew)
 (h : S w.drew → AnyX P .any ops Q S n ops.size (Array.replicate ops.size false) a w.drew) : (Code.region id ops true).wp P Q a w := wp_region_any hm (any_of_x _ _ _ _ (h hS))
end
theorem anyX_tk {P : Program} {ops : Array Oper} {Q : Exit → Act → World → Prop} {md : Region.Mode} {S : World → Prop} {n : Nat} (i : Nat) {oi : Oper} {v : Value} {fuel : Nat} {listed : Array Bool} {a : Act} {w : World} (hi : ops[i]? = some oi)
 (hy : ∀ w, S w → (execOp a.eval oi).run P w = .ok (.value v) w) (hS : S w) (h : AnyX P md ops Q S n fuel (listed.setIfInBounds i true) (a.put oi.dst v) w)
 (hB : (Region.noSelect ops && Region.sinkB md ops n && Region.chainB md ops n && decide (n < ops.size) && decide (i < n) && headB md ops n listed && Region.free md ops listed i && (Region.ready md ops listed).contains i) = true := by kernel_rfl)
 (hw : Region.wanted oi (yielded ops a.tmps) = true := by rfl) (hQ : ∀ c a w, Q (.panic c) (a.put oi.dst v) w → Q (.panic c) a w := by exact fun _ _ _ h => h) : AnyX P md ops Q S n (fuel + 1) listed a w := anyX_take hi hB hQ (Or.inl ⟨hw, hy⟩) hS h
theorem anyX_r1 {P : Program} {ops : Array Oper} {Q : Exit → Act → World → Prop} {md : Region.Mode} {S : World → Prop} {n : Nat} (i : Nat) {o : Oper} {fuel : Nat} {listed : Array Bool} {a : Act} {w : World}
 (h : ∀ K' : Act → World → Prop, Shut (∀ a w, (i < n → S w) → ((i < n → S w) → AnyX P md ops Q S n fuel (listed.setIfInBounds i true) a w) → K' a w) → if Region.wanted o (yielded ops a.tmps) = true then Oper.wp P o a w K' Q else K' (a.put o.dst undef) w)
 (ho : ops[i]? = some o := by rfl) (hr : Region.ready md ops listed = [i] := by kernel_rfl) : AnyX P md ops Q S n (fuel + 1) listed a w := anyX_ready hr (by simp) (ReadyX.cons ho h ReadyX.nil)
end
def TwoD (V : World) (a b : Nat) (W : World) : Prop := (V.heap.size ≤ W.heap.size ∧ a < V.heap.size ∧ b < V.heap.size) ∧ ∀ o, W.cell? ⟨a, o, none⟩ = V.cell? ⟨a, o, none⟩ ∧ W.cell? ⟨b, o, none⟩ = V.cell? ⟨b, o, none⟩
theorem TwoD.alloc {V W : World} {a b : Nat} (h : TwoD V a b W) (x : Obj) : TwoD V a b (W.alloc x) := by
 have hs := h.1
 exact ⟨⟨by rw [World.size_alloc]; omega, hs.2⟩, fun o => ⟨(((Below.refl _ W).alloc (Nat.le_refl _) x).cell (p := ⟨a, o, none⟩) (by simp only; omega)).trans (h.2 o).1, (((Below.refl _ W).alloc (Nat.le_refl _) x).cell (p := ⟨b, o, none⟩) (by simp only; omega)).trans (h.2 o).2⟩⟩
theorem TwoD.turned {V W W' : World} {a b : Nat} {q : Option Nat} (h : TwoD V a b W) (ht : Turned W W' q) (ha : q ≠ some a) (hb : q ≠ some b) : TwoD V a b W' := by
 have hs := h.1
 have hs2 := ht.size
 exact ⟨⟨by omega, hs.2⟩, fun o => ⟨(ht.cell (a := ⟨a, o, none⟩) (by simp only; omega) ha).trans (h.2 o).1, (ht.cell (a := ⟨b, o, none⟩) (by simp only; omega) hb).trans (h.2 o).2⟩⟩
end Go.Proofs.YtoimjjhopljdmaaGreat
