/- Texts DkL RefF: what the claim reaches of them. Conditions stand at each theorem. -/
import Derived.Test.YtoimjjhopljdmaaGreatP09
set_option maxRecDepth 100000
set_option maxHeartbeats 8000000
namespace Go.Proofs.YtoimjjhopljdmaaGreat
open Go.RowKit
open Go.Proofs.Tryz (prog)
open Go.Value (int)
open Go.IntKind (i64)
open Go.Lib (hid)
section
attribute [local go_sem ↓] loadVar_ldM storeVar_stM
theorem boxes3 (W : World) (a6 a7 : Array Value) (t6 t7 : TypeId) : ∃ w1, (stM ⟨W.heap.size + 1 + 1, 0, none⟩ (.agg #[int i64 0, int i64 0, int i64 0, int i64 0, int i64 0, int i64 0, int i64 0, int i64 0, int i64 0, int i64 0, int i64 0, int i64 0, int i64 0, int i64 0, int i64 0, int i64 0])).run prog (((W.alloc (.cells a6 t6)).alloc (.cells a7 t7)).alloc (.cells #[int i64 0, int i64 0, int i64 0, int i64 0, int i64 0, int i64 0, int i64 0, int i64 0, int i64 0, int i64 0, int i64 0, int i64 0, int i64 0, int i64 0, int i64 0, int i64 0] 34)) = .ok () w1 ∧ Below W.heap.size W w1 ∧ (∀ u, w1.cell? ⟨W.heap.size, u, none⟩ = a6[u]?) ∧ (∀ u, w1.cell? ⟨W.heap.size + 1, u, none⟩ = a7[u]?) ∧
 (∀ j v, (cmC ⟨0, 0, 0, 0, ⟨0, 0, 0, 0, 0, 0, 0, 0, 0, 0, 0⟩, 0⟩)[j]? = some v → w1.cell? ⟨W.heap.size + 1 + 1, j, none⟩ = some v) ∧ (∀ u, w1.frozen? ⟨W.heap.size, u, none⟩ = false) ∧ (∀ u, w1.frozen? ⟨W.heap.size + 1, u, none⟩ = false) ∧ w1.heap.size = W.heap.size + 1 + 1 + 1 := by
 obtain ⟨w0, rfl, hb, k6, k7, g6, g7, hs⟩ := two_boxes W a6 a7 t6 t7
 obtain ⟨k8, g8, l8, b8⟩ := new_box _ #[int i64 0, int i64 0, int i64 0, int i64 0, int i64 0, int i64 0, int i64 0, int i64 0, int i64 0, int i64 0, int i64 0, int i64 0, int i64 0, int i64 0, int i64 0, int i64 0] 34 (W.heap.size + 1 + 1) hs.symm
 have hsz : (((W.alloc (.cells a6 t6)).alloc (.cells a7 t7)).alloc (.cells #[int i64 0, int i64 0, int i64 0, int i64 0, int i64 0, int i64 0, int i64 0, int i64 0, int i64 0, int i64 0, int i64 0, int i64 0, int i64 0, int i64 0, int i64 0, int i64 0] 34)).heap.size = W.heap.size + 1 + 1 + 1 := by simp
 have kk6 := box_on b8 (by omega) k6
 have kk7 := box_on b8 (by omega) k7
 have gg6 := box_fr b8 (by omega) g6
 have gg7 := box_fr b8 (by omega) g7
 have bb := hb.trans (b8.mono hb.size)
 generalize ((W.alloc (.cells a6 t6)).alloc (.cells a7 t7)).alloc (.cells #[int i64 0, int i64 0, int i64 0, int i64 0, int i64 0, int i64 0, int i64 0, int i64 0, int i64 0, int i64 0, int i64 0, int i64 0, int i64 0, int i64 0, int i64 0, int i64 0] 34) = V at *
 obtain ⟨w1, _, h0, hq, hsz2, ht⟩ := st_box V (W.heap.size + 1 + 1) (fun j hj => by rw [k8 j, Array.getElem?_eq_getElem (by simpa using hj)]; rfl) g8 l8 ⟨0, 0, 0, 0, ⟨0, 0, 0, 0, 0, 0, 0, 0, 0, 0, 0⟩, 0⟩
 have hbk : ∀ k, k < V.heap.size → k ≠ W.heap.size + 1 + 1 → w1.heap[k]? = V.heap[k]? := fun k h1 h2 => ht.block k h1 fun e => by cases e; exact h2 rfl
 refine ⟨w1, h0, Turned.below_new ht (fun q hq => by cases hq; omega) bb (by omega), fun u => ?_, fun u => ?_, hq, fun u => ?_, fun u => ?_, by omega⟩
 · unfold World.cell?; rw [hbk _ (by simp only; omega) (by simp only; omega)]; exact kk6 u
 · unfold World.cell?; rw [hbk _ (by simp only; omega) (by simp only; omega)]; exact kk7 u
 · unfold World.frozen?; rw [hbk _ (by simp only; omega) (by simp only; omega)]; exact gg6 u
 · unfold World.frozen?; rw [hbk _ (by simp only; omega) (by simp only; omega)]; exact gg7 u
theorem boxes3C (W : World) (k s i g es ei eg m x y vx vy hp pw lf mask : Int) : ∃ w1, (stM ⟨W.heap.size + 1 + 1, 0, none⟩ (.agg #[int i64 0, int i64 0, int i64 0, int i64 0, int i64 0, int i64 0, int i64 0, int i64 0, int i64 0, int i64 0, int i64 0, int i64 0, int i64 0, int i64 0, int i64 0, int i64 0])).run prog (((W.alloc (.cells #[int i64 k, int i64 s, int i64 i, int i64 g, int i64 es, int i64 ei, int i64 eg, int i64 m, int i64 x, int i64 y, int i64 vx, int i64 vy, int i64 hp, int i64 pw, int i64 lf, int i64 mask] 34)).alloc (.cells #[int i64 0, int i64 0, int i64 0, int i64 0, int i64 0, int i64 0, int i64 0, int i64 0, int i64 0, int i64 0, int i64 0, int i64 0, int i64 0, int i64 0, int i64 0, int i64 0] 34)).alloc (.cells #[int i64 0, int i64 0, int i64 0, int i64 0, int i64 0, int i64 0, int i64 0, int i64 0, int i64 0, int i64 0, int i64 0, int i64 0, int i64 0, int i64 0, int i64 0, int i64 0] 34)) = .ok () w1 ∧ Below W.heap.size W w1 ∧ (∀ u, w1.cell? ⟨W.heap.size, u, none⟩ = (#[int i64 k, int i64 s, int i64 i, int i64 g, int i64 es, int i64 ei, int i64 eg, int i64 m, int i64 x, int i64 y, int i64 vx, int i64 vy, int i64 hp, int i64 pw, int i64 lf, int i64 mask] : Array Value)[u]?) ∧ (∀ u, w1.cell? ⟨W.heap.size + 1, u, none⟩ = (#[int i64 0, int i64 0, int i64 0, int i64 0, int i64 0, int i64 0, int i64 0, int i64 0, int i64 0, int i64 0, int i64 0, int i64 0, int i64 0, int i64 0, int i64 0, int i64 0] : Array Value)[u]?) ∧
 (∀ j v, (cmC ⟨0, 0, 0, 0, ⟨0, 0, 0, 0, 0, 0, 0, 0, 0, 0, 0⟩, 0⟩)[j]? = some v → w1.cell? ⟨W.heap.size + 1 + 1, j, none⟩ = some v) ∧ (∀ u, w1.frozen? ⟨W.heap.size, u, none⟩ = false) ∧ (∀ u, w1.frozen? ⟨W.heap.size + 1, u, none⟩ = false) ∧ w1.heap.size = W.heap.size + 1 + 1 + 1 := boxes3 W _ _ 34 34
theorem named_box3 {w w1 : World} {k s i g es ei eg m x y vx vy hp pw lf mask : Int} (hb1 : Below w.heap.size w w1) (k0 : ∀ j, w1.cell? ⟨w.heap.size, j, none⟩ = (#[int i64 k, int i64 s, int i64 i, int i64 g, int i64 es, int i64 ei, int i64 eg, int i64 m, int i64 x, int i64 y, int i64 vx, int i64 vy, int i64 hp, int i64 pw, int i64 lf, int i64 mask] : Array Value)[j]?) (k1 : ∀ j, w1.cell? ⟨w.heap.size + 1, j, none⟩ = (#[int i64 0, int i64 0, int i64 0, int i64 0, int i64 0, int i64 0, int i64 0, int i64 0, int i64 0, int i64 0, int i64 0, int i64 0, int i64 0, int i64 0, int i64 0, int i64 0] : Array Value)[j]?)
 (g1 : ∀ j, w1.frozen? ⟨w.heap.size + 1, j, none⟩ = false) (zn hi gn : Int) :
 ∃ w3, ((w1.setCell ⟨w.heap.size, 4, none⟩ (int i64 zn)).setCell ⟨w.heap.size, 5, none⟩ (int i64 hi)).setCell ⟨w.heap.size, 6, none⟩ (int i64 gn) = w3 ∧ Below w.heap.size w w3 ∧ (∀ j, w3.cell? ⟨w.heap.size, j, none⟩ = (#[int i64 k, int i64 s, int i64 i, int i64 g, int i64 zn, int i64 hi, int i64 gn, int i64 m, int i64 x, int i64 y, int i64 vx, int i64 vy, int i64 hp, int i64 pw, int i64 lf, int i64 mask] : Array Value)[j]?) ∧ (∀ j, w3.cell? ⟨w.heap.size + 1, j, none⟩ = (#[int i64 0, int i64 0, int i64 0, int i64 0, int i64 0, int i64 0, int i64 0, int i64 0, int i64 0, int i64 0, int i64 0, int i64 0, int i64 0, int i64 0, int i64 0, int i64 0] : Array Value)[j]?) ∧
   (∀ j, w3.frozen? ⟨w.heap.size + 1, j, none⟩ = false) ∧ w3.heap.size = w1.heap.size := by
 have hx : ∀ (W : World) (o : Nat) (u : Value), (W.setCell ⟨w.heap.size, o, none⟩ u).heap[w.heap.size + 1]? = W.heap[w.heap.size + 1]? := fun W o u => Below.heap_setCell _ _ _ _ (by simp)
 refine ⟨_, rfl, bg, fun j => ?_, fun j => ?_, fun j => ?_, by simp [World.setCell]⟩
 · by_cases h6 : j = 6
   · subst h6; rw [World.cell?_setCell_same' _ _ _ (by rw [cell_set_ne (by omega), cell_set_ne (by omega), k0 6]; rfl)]; rfl
   · rw [cell_set_ne (Ne.symm h6)]
     by_cases h5 : j = 5
     · subst h5; rw [World.cell?_setCell_same' _ _ _ (by rw [cell_set_ne (by omega), k0 5]; rfl)]; rfl
     · rw [cell_set_ne (Ne.symm h5)]
       by_cases h4 : j = 4
       · subst h4; rw [World.cell?_setCell_same' _ _ _ (by rw [k0 4]; rfl)]; rfl
       · rw [cell_set_ne (Ne.symm h4), k0 j]
         rcases j with _ | _ | _ | _ | _ | _ | _ | j
         all_goals first | rfl | omega | simp
 · unfold World.cell?; rw [hx, hx, hx]; exact k1 j
 · unfold World.frozen?; rw [hx, hx, hx]; exact g1 j
section
variable (w : World) (r : RDLay) (c : Cfg) (kk : Int) (D : Dk)
def preL (h : RDeskAt w r c kk D) (ho : CfgOk c) (k s i g es ei eg m x y vx vy hp pw lf mask : Int) (him : (-9223372036854775808 ≤ m ∧ m ≤ 9223372036854775807)) := (PProd.mk (hid (fun W (_ : Below w.heap.size w W) => rMayCmd_m ⟨k, s, i, g, ⟨es, ei, eg, m, x, y, vx, vy, hp, pw, lf⟩, mask⟩ W him)) (PProd.mk (hid (fun W (_ : Below w.heap.size w W) => rof_any c.cols c.rows c.side c.radius c.speed c.ids c.queue x y W ho)) (PProd.mk (hid (fun W (hW : Below w.heap.size w W) => ralive_any W r.R _ D.M (h.grown hW).pool s i g)) (PProd.mk (hid (fun W (hW : Below w.heap.size w W) => rends_any W r c kk D (h.grown hW) s i g)) (PProd.mk (hid (fun W (hW : Below w.heap.size w W) => rhead_any W r.R _ D.M (h.grown hW).pool (ofF ⟨c.cols, c.rows, c.side, c.radius, c.speed, c.ids, c.queue⟩ x y))) (hid (fun W (hW : Below w.heap.size w W) => rgen_any W r.R _ D.M (h.grown hW).pool (ofF ⟨c.cols, c.rows, c.side, c.radius, c.speed, c.ids, c.queue⟩ x y) (headF D.M (ofF ⟨c.cols, c.rows, c.side, c.radius, c.speed, c.ids, c.queue⟩ x y)).1)))))))
theorem rlook_bad (h : RDeskAt w r c kk D) (ho : CfgOk c) (k s i g es ei eg m x y vx vy hp pw lf mask : Int) (him : (-9223372036854775808 ≤ m ∧ m ≤ 9223372036854775807)) (hcb : cmdB ⟨k, s, i, g, ⟨es, ei, eg, m, x, y, vx, vy, hp, pw, lf⟩, mask⟩ = false) {ks : Bool} (_hks : (k == 1) = ks) :
 Calls prog 69 #[.pointer (some ⟨r.p, 0, none⟩), .agg #[int i64 k, int i64 s, int i64 i, int i64 g, int i64 es, int i64 ei, int i64 eg, int i64 m, int i64 x, int i64 y, int i64 vx, int i64 vy, int i64 hp, int i64 pw, int i64 lf, int i64 mask]] w fun e w' => e = .returned (.tuple #[.agg (cmC zeroCm).toArray, .bool false, int i64 1]) ∧ Below w.heap.size w w' := by
 obtain ⟨HC, HO, HA, HE, HH, HG⟩ := preL w r c kk D h ho k s i g es ei eg m x y vx vy hp pw lf mask him
 obtain ⟨w1, hw1, hb1, k0, k1, k2, g0, g1, hsz⟩ := boxes3C w k s i g es ei eg m x y vx vy hp pw lf mask
 obtain ⟨p, cap, c0, c1, c2, c3, c4, c5, c6, c7, c8, hlt⟩ := h.at1 hb1
 have s6 : w.heap.size < w1.heap.size := by omega
 have s7 : w.heap.size + 1 < w1.heap.size := by omega
 have s8 : w.heap.size + 1 + 1 < w1.heap.size := by omega
 obtain ⟨x0, x1, x2, x3, x4, x5, x6, x8, x9⟩ := cells9 k0
 obtain ⟨z0, z1, z2⟩ := ltz hlt
 obtain ⟨z6, z7, z8⟩ := ltz s6
 obtain ⟨z9, z10, z11⟩ := ltz s7
 obtain ⟨z12, z13, z14⟩ := ltz s8
 have HW1 := hid hw1
 clear h ho hw1 him
 generalize hgn : genF D.M (ofF ⟨c.cols, c.rows, c.side, c.radius, c.speed, c.ids, c.queue⟩ x y) (headF D.M (ofF ⟨c.cols, c.rows, c.side, c.radius, c.speed, c.ids, c.queue⟩ x y)).1 = gn at *
 clear hgn
 generalize headF D.M (ofF ⟨c.cols, c.rows, c.side, c.radius, c.speed, c.ids, c.queue⟩ x y) = hd at *
 obtain ⟨hi, hb, he⟩ := hd
 generalize ofF ⟨c.cols, c.rows, c.side, c.radius, c.speed, c.ids, c.queue⟩ x y = zn at *
 generalize aliveF D.M s i g = al at *
 generalize endsF D.q s i g = en at *
 generalize cmdB ⟨k, s, i, g, ⟨es, ei, eg, m, x, y, vx, vy, hp, pw, lf⟩, mask⟩ = cb at *
 subst hcb
 obtain ⟨hL, hL0⟩ := ld_boxL s6 k0
 have hL7 := ld_moreZ k2 s8
 obtain ⟨w2, hS, hq, hsz2, ht2⟩ := st_boxZ k1 g1 s7
 have HQ := hid hq
 have s18 : w.heap.size + 1 < w2.heap.size := by omega
 have hb2 : Below w.heap.size w w2 := Turned.below_new ht2 (fun q hq => by cases hq; omega) hb1 (by omega)
 clear hq hsz2 ht2
 clear k0 k1 k2 g0 g1 hsz
 go_enter Tryz.func69, Tryz.ntmps69
 have hw1 := HW1.out
 go_upto_region 2 with fail
 clear hw1
 go_wp2_with ((first | (go_at_call 112; refine belC (HC.out _ bg) fun dd os => ?_) | (go_at_call 15; refine belC (HO.out _ bg) fun dd os => ?_) | (go_at_call 113; refine belC (HA.out _ bg) fun dd os => ?_) | (go_at_call 114; refine belC (HE.out _ bg) fun dd os => ?_) | (go_at_call 115; refine belC (HH.out _ bg) fun dd os => ?_) | (go_at_call 116; refine belC (HG.out _ bg) fun dd os => ?_)); (try rw [more_more]))
 exact bodyPost_ret (results_cm Tryz.results69 rfl rfl rfl (ld_more HQ.out s18 _ _)) rfl ⟨rfl, bg⟩
theorem rlook_named (h : RDeskAt w r c kk D) (ho : CfgOk c) (k s i g es ei eg m x y vx vy hp pw lf mask : Int) (him : (-9223372036854775808 ≤ m ∧ m ≤ 9223372036854775807)) (hcb : cmdB ⟨k, s, i, g, ⟨es, ei, eg, m, x, y, vx, vy, hp, pw, lf⟩, mask⟩ = true) (hk : k = 1) (hnw : idEq es ei eg 0 0 0 = false) :
 Calls prog 69 #[.pointer (some ⟨r.p, 0, none⟩), .agg #[int i64 k, int i64 s, int i64 i, int i64 g, int i64 es, int i64 ei, int i64 eg, int i64 m, int i64 x, int i64 y, int i64 vx, int i64 vy, int i64 hp, int i64 pw, int i64 lf, int i64 mask]] w fun e w' => e = .returned (.tuple #[.agg (cmC zeroCm).toArray, .bool false, int i64 1]) ∧ Below w.heap.size w w' := by
 obtain ⟨HC, HO, HA, HE, HH, HG⟩ := preL w r c kk D h ho k s i g es ei eg m x y vx vy hp pw lf mask him
 obtain ⟨w1, hw1, hb1, k0, k1, k2, g0, g1, hsz⟩ := boxes3C w k s i g es ei eg m x y vx vy hp pw lf mask
 obtain ⟨p, cap, c0, c1, c2, c3, c4, c5, c6, c7, c8, hlt⟩ := h.at1 hb1
 have s6 : w.heap.size < w1.heap.size := by omega
 have s7 : w.heap.size + 1 < w1.heap.size := by omega
 have s8 : w.heap.size + 1 + 1 < w1.heap.size := by omega
 obtain ⟨x0, x1, x2, x3, x4, x5, x6, x8, x9⟩ := cells9 k0
 obtain ⟨z0, z1, z2⟩ := ltz hlt
 obtain ⟨z6, z7, z8⟩ := ltz s6
 obtain ⟨z9, z10, z11⟩ := ltz s7
 obtain ⟨z12, z13, z14⟩ := ltz s8
 have HW1 := hid hw1
 clear h ho hw1 him
 generalize hgn : genF D.M (ofF ⟨c.cols, c.rows, c.side, c.radius, c.speed, c.ids, c.queue⟩ x y) (headF D.M (ofF ⟨c.cols, c.rows, c.side, c.radius, c.speed, c.ids, c.queue⟩ x y)).1 = gn at *
 clear hgn
 generalize headF D.M (ofF ⟨c.cols, c.rows, c.side, c.radius, c.speed, c.ids, c.queue⟩ x y) = hd at *
 obtain ⟨hi, hb, he⟩ := hd
 generalize ofF ⟨c.cols, c.rows, c.side, c.radius, c.speed, c.ids, c.queue⟩ x y = zn at *
 generalize aliveF D.M s i g = al at *
 generalize endsF D.q s i g = en at *
 generalize cmdB ⟨k, s, i, g, ⟨es, ei, eg, m, x, y, vx, vy, hp, pw, lf⟩, mask⟩ = cb at *
 subst hcb hk
 obtain ⟨hL, hL0⟩ := ld_boxL s6 k0
 have hL7 := ld_moreZ k2 s8
 obtain ⟨w2, hS, hq, hsz2, ht2⟩ := st_boxZ k1 g1 s7
 have HQ := hid hq
 have s18 : w.heap.size + 1 < w2.heap.size := by omega
 have hb2 : Below w.heap.size w w2 := Turned.below_new ht2 (fun q hq => by cases hq; omega) hb1 (by omega)
 clear hq hsz2 ht2
 clear k0 k1 k2 g0 g1 hsz
 go_enter Tryz.func69, Tryz.ntmps69
 have hw1 := HW1.out
 go_upto_region 2 with fail
 clear hw1
 go_wp2_with ((first | (go_at_call 112; refine belC (HC.out _ bg) fun dd os => ?_) | (go_at_call 15; refine belC (HO.out _ bg) fun dd os => ?_) | (go_at_call 113; refine belC (HA.out _ bg) fun dd os => ?_) | (go_at_call 114; refine belC (HE.out _ bg) fun dd os => ?_) | (go_at_call 115; refine belC (HH.out _ bg) fun dd os => ?_) | (go_at_call 116; refine belC (HG.out _ bg) fun dd os => ?_)); (try rw [more_more]))
 exact bodyPost_ret (results_cm Tryz.results69 rfl rfl rfl (ld_more HQ.out s18 _ _)) rfl ⟨rfl, bg⟩
theorem rlook_zone (h : RDeskAt w r c kk D) (ho : CfgOk c) (k s i g es ei eg m x y vx vy hp pw lf mask : Int) (him : (-9223372036854775808 ≤ m ∧ m ≤ 9223372036854775807)) (hcb : cmdB ⟨k, s, i, g, ⟨es, ei, eg, m, x, y, vx, vy, hp, pw, lf⟩, mask⟩ = true) (hk : k = 1) (hnw : idEq es ei eg 0 0 0 = true) (hz : ofF ⟨c.cols, c.rows, c.side, c.radius, c.speed, c.ids, c.queue⟩ x y < 0) :
 Calls prog 69 #[.pointer (some ⟨r.p, 0, none⟩), .agg #[int i64 k, int i64 s, int i64 i, int i64 g, int i64 es, int i64 ei, int i64 eg, int i64 m, int i64 x, int i64 y, int i64 vx, int i64 vy, int i64 hp, int i64 pw, int i64 lf, int i64 mask]] w fun e w' => e = .returned (.tuple #[.agg (cmC zeroCm).toArray, .bool false, int i64 5]) ∧ Below w.heap.size w w' := by
 obtain ⟨HC, HO, HA, HE, HH, HG⟩ := preL w r c kk D h ho k s i g es ei eg m x y vx vy hp pw lf mask him
 obtain ⟨w1, hw1, hb1, k0, k1, k2, g0, g1, hsz⟩ := boxes3C w k s i g es ei eg m x y vx vy hp pw lf mask
 obtain ⟨p, cap, c0, c1, c2, c3, c4, c5, c6, c7, c8, hlt⟩ := h.at1 hb1
 have s6 : w.heap.size < w1.heap.size := by omega
 have s7 : w.heap.size + 1 < w1.heap.size := by omega
 have s8 : w.heap.size + 1 + 1 < w1.heap.size := by omega
 obtain ⟨x0, x1, x2, x3, x4, x5, x6, x8, x9⟩ := cells9 k0
 obtain ⟨z0, z1, z2⟩ := ltz hlt
 obtain ⟨z6, z7, z8⟩ := ltz s6
 obtain ⟨z9, z10, z11⟩ := ltz s7
 obtain ⟨z12, z13, z14⟩ := ltz s8
 have HW1 := hid hw1
 clear h ho hw1 him
 generalize hgn : genF D.M (ofF ⟨c.cols, c.rows, c.side, c.radius, c.speed, c.ids, c.queue⟩ x y) (headF D.M (ofF ⟨c.cols, c.rows, c.side, c.radius, c.speed, c.ids, c.queue⟩ x y)).1 = gn at *
 clear hgn
 generalize headF D.M (ofF ⟨c.cols, c.rows, c.side, c.radius, c.speed, c.ids, c.queue⟩ x y) = hd at *
 obtain ⟨hi, hb, he⟩ := hd
 generalize ofF ⟨c.cols, c.rows, c.side, c.radius, c.speed, c.ids, c.queue⟩ x y = zn at *
 generalize aliveF D.M s i g = al at *
 generalize endsF D.q s i g = en at *
 generalize cmdB ⟨k, s, i, g, ⟨es, ei, eg, m, x, y, vx, vy, hp, pw, lf⟩, mask⟩ = cb at *
 subst hcb hk
 obtain ⟨hL, hL0⟩ := ld_boxL s6 k0
 have hL7 := ld_moreZ k2 s8
 obtain ⟨w2, hS, hq, hsz2, ht2⟩ := st_boxZ k1 g1 s7
 have HQ := hid hq
 have s18 : w.heap.size + 1 < w2.heap.size := by omega
 have hb2 : Below w.heap.size w w2 := Turned.below_new ht2 (fun q hq => by cases hq; omega) hb1 (by omega)
 clear hq hsz2 ht2
 clear k0 k1 k2 g0 g1 hsz
 go_enter Tryz.func69, Tryz.ntmps69
 have hw1 := HW1.out
 go_upto_region 2 with fail
 clear hw1
 iterate 2 (go_wp2_with ((first | (go_at_call 112; refine belC (HC.out _ bg) fun dd os => ?_) | (go_at_call 15; refine belC (HO.out _ bg) fun dd os => ?_) | (go_at_call 113; refine belC (HA.out _ bg) fun dd os => ?_) | (go_at_call 114; refine belC (HE.out _ bg) fun dd os => ?_) | (go_at_call 115; refine belC (HH.out _ bg) fun dd os => ?_) | (go_at_call 116; refine belC (HG.out _ bg) fun dd os => ?_)); (try rw [more_more])); try (refine wpm ?_; (repeat (go_big_quiet_step ((first | (go_at_call 15; with_reducible exact more_call (HO.out _ bg)) | (go_at_call 113; with_reducible exact more_call (HA.out _ bg)))))); refine wpQuiet_nil ?_; rintro _ ⟨pm, rfl⟩; (try rw [more_more])))
 exact bodyPost_ret (results_cm Tryz.results69 rfl rfl rfl (ld_more HQ.out s18 _ _)) rfl ⟨rfl, bg⟩
theorem rlook_full1 (h : RDeskAt w r c kk D) (ho : CfgOk c) (k s i g es ei eg m x y vx vy hp pw lf mask : Int) (him : (-9223372036854775808 ≤ m ∧ m ≤ 9223372036854775807)) (hcb : cmdB ⟨k, s, i, g, ⟨es, ei, eg, m, x, y, vx, vy, hp, pw, lf⟩, mask⟩ = true) (hk : k = 1) (hnw : idEq es ei eg 0 0 0 = true) (hz : ¬ ofF ⟨c.cols, c.rows, c.side, c.radius, c.speed, c.ids, c.queue⟩ x y < 0) (hf : c.queue ≤ (D.q.length : Int)) :
 Calls prog 69 #[.pointer (some ⟨r.p, 0, none⟩), .agg #[int i64 k, int i64 s, int i64 i, int i64 g, int i64 es, int i64 ei, int i64 eg, int i64 m, int i64 x, int i64 y, int i64 vx, int i64 vy, int i64 hp, int i64 pw, int i64 lf, int i64 mask]] w fun e w' => e = .returned (.tuple #[.agg (cmC zeroCm).toArray, .bool false, int i64 8]) ∧ Below w.heap.size w w' := by
 obtain ⟨HC, HO, HA, HE, HH, HG⟩ := preL w r c kk D h ho k s i g es ei eg m x y vx vy hp pw lf mask him
 obtain ⟨w1, hw1, hb1, k0, k1, k2, g0, g1, hsz⟩ := boxes3C w k s i g es ei eg m x y vx vy hp pw lf mask
 obtain ⟨p, cap, c0, c1, c2, c3, c4, c5, c6, c7, c8, hlt⟩ := h.at1 hb1
 have s6 : w.heap.size < w1.heap.size := by omega
 have s7 : w.heap.size + 1 < w1.heap.size := by omega
 have s8 : w.heap.size + 1 + 1 < w1.heap.size := by omega
 obtain ⟨x0, x1, x2, x3, x4, x5, x6, x8, x9⟩ := cells9 k0
 obtain ⟨z0, z1, z2⟩ := ltz hlt
 obtain ⟨z6, z7, z8⟩ := ltz s6
 obtain ⟨z9, z10, z11⟩ := ltz s7
 obtain ⟨z12, z13, z14⟩ := ltz s8
 have HW1 := hid hw1
 clear h ho hw1 him
 generalize hgn : genF D.M (ofF ⟨c.cols, c.rows, c.side, c.radius, c.speed, c.ids, c.queue⟩ x y) (headF D.M (ofF ⟨c.cols, c.rows, c.side, c.radius, c.speed, c.ids, c.queue⟩ x y)).1 = gn at *
 clear hgn
 generalize headF D.M (ofF ⟨c.cols, c.rows, c.side, c.radius, c.speed, c.ids, c.queue⟩ x y) = hd at *
 obtain ⟨hi, hb, he⟩ := hd
 generalize ofF ⟨c.cols, c.rows, c.side, c.radius, c.speed, c.ids, c.queue⟩ x y = zn at *
 generalize aliveF D.M s i g = al at *
 generalize endsF D.q s i g = en at *
 generalize cmdB ⟨k, s, i, g, ⟨es, ei, eg, m, x, y, vx, vy, hp, pw, lf⟩, mask⟩ = cb at *
 subst hcb hk
 obtain ⟨hL, hL0⟩ := ld_boxL s6 k0
 have hL7 := ld_moreZ k2 s8
 obtain ⟨w2, hS, hq, hsz2, ht2⟩ := st_boxZ k1 g1 s7
 have HQ := hid hq
 have s18 : w.heap.size + 1 < w2.heap.size := by omega
 have hb2 : Below w.heap.size w w2 := Turned.below_new ht2 (fun q hq => by cases hq; omega) hb1 (by omega)
 clear hq hsz2 ht2
 clear k0 k1 k2 g0 g1 hsz
 go_enter Tryz.func69, Tryz.ntmps69
 have hw1 := HW1.out
 go_upto_region 2 with fail
 clear hw1
 iterate 3 (go_wp2_with ((first | (go_at_call 112; refine belC (HC.out _ bg) fun dd os => ?_) | (go_at_call 15; refine belC (HO.out _ bg) fun dd os => ?_) | (go_at_call 113; refine belC (HA.out _ bg) fun dd os => ?_) | (go_at_call 114; refine belC (HE.out _ bg) fun dd os => ?_) | (go_at_call 115; refine belC (HH.out _ bg) fun dd os => ?_) | (go_at_call 116; refine belC (HG.out _ bg) fun dd os => ?_)); (try rw [more_more])); try (refine wpm ?_; (repeat (go_big_quiet_step ((first | (go_at_call 15; with_reducible exact more_call (HO.out _ bg)) | (go_at_call 113; with_reducible exact more_call (HA.out _ bg)))))); refine wpQuiet_nil ?_; rintro _ ⟨pm, rfl⟩; (try rw [more_more])))
 exact bodyPost_ret (results_cm Tryz.results69 rfl rfl rfl (ld_more HQ.out s18 _ _)) rfl ⟨rfl, bg⟩
theorem rlook_busy (h : RDeskAt w r c kk D) (ho : CfgOk c) (k s i g es ei eg m x y vx vy hp pw lf mask : Int) (him : (-9223372036854775808 ≤ m ∧ m ≤ 9223372036854775807)) (hcb : cmdB ⟨k, s, i, g, ⟨es, ei, eg, m, x, y, vx, vy, hp, pw, lf⟩, mask⟩ = true) (hk : k = 1) (hnw : idEq es ei eg 0 0 0 = true) (hz : ¬ ofF ⟨c.cols, c.rows, c.side, c.radius, c.speed, c.ids, c.queue⟩ x y < 0) (hf : ¬ c.queue ≤ (D.q.length : Int)) (hh : ((headF D.M (ofF ⟨c.cols, c.rows, c.side, c.radius, c.speed, c.ids, c.queue⟩ x y)).2.2 != 0) = true) :
 Calls prog 69 #[.pointer (some ⟨r.p, 0, none⟩), .agg #[int i64 k, int i64 s, int i64 i, int i64 g, int i64 es, int i64 ei, int i64 eg, int i64 m, int i64 x, int i64 y, int i64 vx, int i64 vy, int i64 hp, int i64 pw, int i64 lf, int i64 mask]] w fun e w' => e = .returned (.tuple #[.agg (cmC zeroCm).toArray, .bool false, int i64 13]) ∧ Below w.heap.size w w' := by
 obtain ⟨HC, HO, HA, HE, HH, HG⟩ := preL w r c kk D h ho k s i g es ei eg m x y vx vy hp pw lf mask him
 obtain ⟨w1, hw1, hb1, k0, k1, k2, g0, g1, hsz⟩ := boxes3C w k s i g es ei eg m x y vx vy hp pw lf mask
 obtain ⟨p, cap, c0, c1, c2, c3, c4, c5, c6, c7, c8, hlt⟩ := h.at1 hb1
 have s6 : w.heap.size < w1.heap.size := by omega
 have s7 : w.heap.size + 1 < w1.heap.size := by omega
 have s8 : w.heap.size + 1 + 1 < w1.heap.size := by omega
 obtain ⟨x0, x1, x2, x3, x4, x5, x6, x8, x9⟩ := cells9 k0
 obtain ⟨z0, z1, z2⟩ := ltz hlt
 obtain ⟨z6, z7, z8⟩ := ltz s6
 obtain ⟨z9, z10, z11⟩ := ltz s7
 obtain ⟨z12, z13, z14⟩ := ltz s8
 have HW1 := hid hw1
 clear h ho hw1 him
 generalize hgn : genF D.M (ofF ⟨c.cols, c.rows, c.side, c.radius, c.speed, c.ids, c.queue⟩ x y) (headF D.M (ofF ⟨c.cols, c.rows, c.side, c.radius, c.speed, c.ids, c.queue⟩ x y)).1 = gn at *
 clear hgn
 generalize headF D.M (ofF ⟨c.cols, c.rows, c.side, c.radius, c.speed, c.ids, c.queue⟩ x y) = hd at *
 obtain ⟨hi, hb, he⟩ := hd
 generalize ofF ⟨c.cols, c.rows, c.side, c.radius, c.speed, c.ids, c.queue⟩ x y = zn at *
 generalize aliveF D.M s i g = al at *
 generalize endsF D.q s i g = en at *
 generalize cmdB ⟨k, s, i, g, ⟨es, ei, eg, m, x, y, vx, vy, hp, pw, lf⟩, mask⟩ = cb at *
 subst hcb hk
 obtain ⟨hL, hL0⟩ := ld_boxL s6 k0
 have hL7 := ld_moreZ k2 s8
 obtain ⟨w2, hS, hq, hsz2, ht2⟩ := st_boxZ k1 g1 s7
 have HQ := hid hq
 have s18 : w.heap.size + 1 < w2.heap.size := by omega
 have hb2 : Below w.heap.size w w2 := Turned.below_new ht2 (fun q hq => by cases hq; omega) hb1 (by omega)
 clear hq hsz2 ht2
 clear k0 k1 k2 g0 g1 hsz
 go_enter Tryz.func69, Tryz.ntmps69
 have hw1 := HW1.out
 go_upto_region 2 with fail
 clear hw1
 iterate 3 (go_wp2_with ((first | (go_at_call 112; refine belC (HC.out _ bg) fun dd os => ?_) | (go_at_call 15; refine belC (HO.out _ bg) fun dd os => ?_) | (go_at_call 113; refine belC (HA.out _ bg) fun dd os => ?_) | (go_at_call 114; refine belC (HE.out _ bg) fun dd os => ?_) | (go_at_call 115; refine belC (HH.out _ bg) fun dd os => ?_) | (go_at_call 116; refine belC (HG.out _ bg) fun dd os => ?_)); (try rw [more_more])); try (refine wpm ?_; (repeat (go_big_quiet_step ((first | (go_at_call 15; with_reducible exact more_call (HO.out _ bg)) | (go_at_call 113; with_reducible exact more_call (HA.out _ bg)))))); refine wpQuiet_nil ?_; rintro _ ⟨pm, rfl⟩; (try rw [more_more])))
 exact bodyPost_ret (results_cm Tryz.results69 rfl rfl rfl (ld_more HQ.out s18 _ _)) rfl ⟨rfl, bg⟩
theorem rlook_stale (h : RDeskAt w r c kk D) (ho : CfgOk c) (k s i g es ei eg m x y vx vy hp pw lf mask : Int) (him : (-9223372036854775808 ≤ m ∧ m ≤ 9223372036854775807)) (hcb : cmdB ⟨k, s, i, g, ⟨es, ei, eg, m, x, y, vx, vy, hp, pw, lf⟩, mask⟩ = true) (hk : (k == 1) = false) (ha : aliveF D.M s i g = false) :
 Calls prog 69 #[.pointer (some ⟨r.p, 0, none⟩), .agg #[int i64 k, int i64 s, int i64 i, int i64 g, int i64 es, int i64 ei, int i64 eg, int i64 m, int i64 x, int i64 y, int i64 vx, int i64 vy, int i64 hp, int i64 pw, int i64 lf, int i64 mask]] w fun e w' => e = .returned (.tuple #[.agg (cmC zeroCm).toArray, .bool false, int i64 9]) ∧ Below w.heap.size w w' := by
 obtain ⟨HC, HO, HA, HE, HH, HG⟩ := preL w r c kk D h ho k s i g es ei eg m x y vx vy hp pw lf mask him
 obtain ⟨w1, hw1, hb1, k0, k1, k2, g0, g1, hsz⟩ := boxes3C w k s i g es ei eg m x y vx vy hp pw lf mask
 obtain ⟨p, cap, c0, c1, c2, c3, c4, c5, c6, c7, c8, hlt⟩ := h.at1 hb1
 have s6 : w.heap.size < w1.heap.size := by omega
 have s7 : w.heap.size + 1 < w1.heap.size := by omega
 have s8 : w.heap.size + 1 + 1 < w1.heap.size := by omega
 obtain ⟨x0, x1, x2, x3, x4, x5, x6, x8, x9⟩ := cells9 k0
 obtain ⟨z0, z1, z2⟩ := ltz hlt
 obtain ⟨z6, z7, z8⟩ := ltz s6
 obtain ⟨z9, z10, z11⟩ := ltz s7
 obtain ⟨z12, z13, z14⟩ := ltz s8
 have HW1 := hid hw1
 clear h ho hw1 him
 generalize hgn : genF D.M (ofF ⟨c.cols, c.rows, c.side, c.radius, c.speed, c.ids, c.queue⟩ x y) (headF D.M (ofF ⟨c.cols, c.rows, c.side, c.radius, c.speed, c.ids, c.queue⟩ x y)).1 = gn at *
 clear hgn
 generalize headF D.M (ofF ⟨c.cols, c.rows, c.side, c.radius, c.speed, c.ids, c.queue⟩ x y) = hd at *
 obtain ⟨hi, hb, he⟩ := hd
 generalize ofF ⟨c.cols, c.rows, c.side, c.radius, c.speed, c.ids, c.queue⟩ x y = zn at *
 generalize aliveF D.M s i g = al at *
 generalize endsF D.q s i g = en at *
 generalize cmdB ⟨k, s, i, g, ⟨es, ei, eg, m, x, y, vx, vy, hp, pw, lf⟩, mask⟩ = cb at *
 subst hcb
 subst ha
 obtain ⟨hL, hL0⟩ := ld_boxL s6 k0
 have hL7 := ld_moreZ k2 s8
 obtain ⟨w2, hS, hq, hsz2, ht2⟩ := st_boxZ k1 g1 s7
 have HQ := hid hq
 have s18 : w.heap.size + 1 < w2.heap.size := by omega
 have hb2 : Below w.heap.size w w2 := Turned.below_new ht2 (fun q hq => by cases hq; omega) hb1 (by omega)
 clear hq hsz2 ht2
 clear k0 k1 k2 g0 g1 hsz
 go_enter Tryz.func69, Tryz.ntmps69
 have hw1 := HW1.out
 go_upto_region 2 with fail
 clear hw1
 iterate 2 (go_wp2_with ((first | (go_at_call 112; refine belC (HC.out _ bg) fun dd os => ?_) | (go_at_call 15; refine belC (HO.out _ bg) fun dd os => ?_) | (go_at_call 113; refine belC (HA.out _ bg) fun dd os => ?_) | (go_at_call 114; refine belC (HE.out _ bg) fun dd os => ?_) | (go_at_call 115; refine belC (HH.out _ bg) fun dd os => ?_) | (go_at_call 116; refine belC (HG.out _ bg) fun dd os => ?_)); (try rw [more_more])); try (refine wpm ?_; (repeat (go_big_quiet_step ((first | (go_at_call 15; with_reducible exact more_call (HO.out _ bg)) | (go_at_call 113; with_reducible exact more_call (HA.out _ bg)))))); refine wpQuiet_nil ?_; rintro _ ⟨pm, rfl⟩; (try rw [more_more])))
 exact bodyPost_ret (results_cm Tryz.results69 rfl rfl rfl (ld_more HQ.out s18 _ _)) rfl ⟨rfl, bg⟩
theorem rlook_used (h : RDeskAt w r c kk D) (ho : CfgOk c) (k s i g es ei eg m x y vx vy hp pw lf mask : Int) (him : (-9223372036854775808 ≤ m ∧ m ≤ 9223372036854775807)) (hcb : cmdB ⟨k, s, i, g, ⟨es, ei, eg, m, x, y, vx, vy, hp, pw, lf⟩, mask⟩ = true) (hk : (k == 1) = false) (ha : aliveF D.M s i g = true) (hn : endsF D.q s i g = true) :
 Calls prog 69 #[.pointer (some ⟨r.p, 0, none⟩), .agg #[int i64 k, int i64 s, int i64 i, int i64 g, int i64 es, int i64 ei, int i64 eg, int i64 m, int i64 x, int i64 y, int i64 vx, int i64 vy, int i64 hp, int i64 pw, int i64 lf, int i64 mask]] w fun e w' => e = .returned (.tuple #[.agg (cmC zeroCm).toArray, .bool false, int i64 10]) ∧ Below w.heap.size w w' := by
 obtain ⟨HC, HO, HA, HE, HH, HG⟩ := preL w r c kk D h ho k s i g es ei eg m x y vx vy hp pw lf mask him
 obtain ⟨w1, hw1, hb1, k0, k1, k2, g0, g1, hsz⟩ := boxes3C w k s i g es ei eg m x y vx vy hp pw lf mask
 obtain ⟨p, cap, c0, c1, c2, c3, c4, c5, c6, c7, c8, hlt⟩ := h.at1 hb1
 have s6 : w.heap.size < w1.heap.size := by omega
 have s7 : w.heap.size + 1 < w1.heap.size := by omega
 have s8 : w.heap.size + 1 + 1 < w1.heap.size := by omega
 obtain ⟨x0, x1, x2, x3, x4, x5, x6, x8, x9⟩ := cells9 k0
 obtain ⟨z0, z1, z2⟩ := ltz hlt
 obtain ⟨z6, z7, z8⟩ := ltz s6
 obtain ⟨z9, z10, z11⟩ := ltz s7
 obtain ⟨z12, z13, z14⟩ := ltz s8
 have HW1 := hid hw1
 clear h ho hw1 him
 generalize hgn : genF D.M (ofF ⟨c.cols, c.rows, c.side, c.radius, c.speed, c.ids, c.queue⟩ x y) (headF D.M (ofF ⟨c.cols, c.rows, c.side, c.radius, c.speed, c.ids, c.queue⟩ x y)).1 = gn at *
 clear hgn
 generalize headF D.M (ofF ⟨c.cols, c.rows, c.side, c.radius, c.speed, c.ids, c.queue⟩ x y) = hd at *
 obtain ⟨hi, hb, he⟩ := hd
 generalize ofF ⟨c.cols, c.rows, c.side, c.radius, c.speed, c.ids, c.queue⟩ x y = zn at *
 generalize aliveF D.M s i g = al at *
 generalize endsF D.q s i g = en at *
 generalize cmdB ⟨k, s, i, g, ⟨es, ei, eg, m, x, y, vx, vy, hp, pw, lf⟩, mask⟩ = cb at *
 subst hcb
 subst ha hn
 obtain ⟨hL, hL0⟩ := ld_boxL s6 k0
 have hL7 := ld_moreZ k2 s8
 obtain ⟨w2, hS, hq, hsz2, ht2⟩ := st_boxZ k1 g1 s7
 have HQ := hid hq
 have s18 : w.heap.size + 1 < w2.heap.size := by omega
 have hb2 : Below w.heap.size w w2 := Turned.below_new ht2 (fun q hq => by cases hq; omega) hb1 (by omega)
 clear hq hsz2 ht2
 clear k0 k1 k2 g0 g1 hsz
 go_enter Tryz.func69, Tryz.ntmps69
 have hw1 := HW1.out
 go_upto_region 2 with fail
 clear hw1
 iterate 2 (go_wp2_with ((first | (go_at_call 112; refine belC (HC.out _ bg) fun dd os => ?_) | (go_at_call 15; refine belC (HO.out _ bg) fun dd os => ?_) | (go_at_call 113; refine belC (HA.out _ bg) fun dd os => ?_) | (go_at_call 114; refine belC (HE.out _ bg) fun dd os => ?_) | (go_at_call 115; refine belC (HH.out _ bg) fun dd os => ?_) | (go_at_call 116; refine belC (HG.out _ bg) fun dd os => ?_)); (try rw [more_more])); try (refine wpm ?_; (repeat (go_big_quiet_step ((first | (go_at_call 15; with_reducible exact more_call (HO.out _ bg)) | (go_at_call 113; with_reducible exact more_call (HA.out _ bg)))))); refine wpQuiet_nil ?_; rintro _ ⟨pm, rfl⟩; (try rw [more_more])))
 exact bodyPost_ret (results_cm Tryz.results69 rfl rfl rfl (ld_more HQ.out s18 _ _)) rfl ⟨rfl, bg⟩
theorem rlook_full2 (h : RDeskAt w r c kk D) (ho : CfgOk c) (k s i g es ei eg m x y vx vy hp pw lf mask : Int) (him : (-9223372036854775808 ≤ m ∧ m ≤ 9223372036854775807)) (hcb : cmdB ⟨k, s, i, g, ⟨es, ei, eg, m, x, y, vx, vy, hp, pw, lf⟩, mask⟩ = true) (hk : (k == 1) = false) (ha : aliveF D.M s i g = true) (hn : endsF D.q s i g = false) (hf : c.queue ≤ (D.q.length : Int)) :
 Calls prog 69 #[.pointer (some ⟨r.p, 0, none⟩), .agg #[int i64 k, int i64 s, int i64 i, int i64 g, int i64 es, int i64 ei, int i64 eg, int i64 m, int i64 x, int i64 y, int i64 vx, int i64 vy, int i64 hp, int i64 pw, int i64 lf, int i64 mask]] w fun e w' => e = .returned (.tuple #[.agg (cmC zeroCm).toArray, .bool false, int i64 8]) ∧ Below w.heap.size w w' := by
 obtain ⟨HC, HO, HA, HE, HH, HG⟩ := preL w r c kk D h ho k s i g es ei eg m x y vx vy hp pw lf mask him
 obtain ⟨w1, hw1, hb1, k0, k1, k2, g0, g1, hsz⟩ := boxes3C w k s i g es ei eg m x y vx vy hp pw lf mask
 obtain ⟨p, cap, c0, c1, c2, c3, c4, c5, c6, c7, c8, hlt⟩ := h.at1 hb1
 have s6 : w.heap.size < w1.heap.size := by omega
 have s7 : w.heap.size + 1 < w1.heap.size := by omega
 have s8 : w.heap.size + 1 + 1 < w1.heap.size := by omega
 obtain ⟨x0, x1, x2, x3, x4, x5, x6, x8, x9⟩ := cells9 k0
 obtain ⟨z0, z1, z2⟩ := ltz hlt
 obtain ⟨z6, z7, z8⟩ := ltz s6
 obtain ⟨z9, z10, z11⟩ := ltz s7
 obtain ⟨z12, z13, z14⟩ := ltz s8
 have HW1 := hid hw1
 clear h ho hw1 him
 generalize hgn : genF D.M (ofF ⟨c.cols, c.rows, c.side, c.radius, c.speed, c.ids, c.queue⟩ x y) (headF D.M (ofF ⟨c.cols, c.rows, c.side, c.radius, c.speed, c.ids, c.queue⟩ x y)).1 = gn at *
 clear hgn
 generalize headF D.M (ofF ⟨c.cols, c.rows, c.side, c.radius, c.speed, c.ids, c.queue⟩ x y) = hd at *
 obtain ⟨hi, hb, he⟩ := hd
 generalize ofF ⟨c.cols, c.rows, c.side, c.radius, c.speed, c.ids, c.queue⟩ x y = zn at *
 generalize aliveF D.M s i g = al at *
 generalize endsF D.q s i g = en at *
 generalize cmdB ⟨k, s, i, g, ⟨es, ei, eg, m, x, y, vx, vy, hp, pw, lf⟩, mask⟩ = cb at *
 subst hcb
 subst ha hn
 obtain ⟨hL, hL0⟩ := ld_boxL s6 k0
 have hL7 := ld_moreZ k2 s8
 obtain ⟨w2, hS, hq, hsz2, ht2⟩ := st_boxZ k1 g1 s7
 have HQ := hid hq
 have s18 : w.heap.size + 1 < w2.heap.size := by omega
 have hb2 : Below w.heap.size w w2 := Turned.below_new ht2 (fun q hq => by cases hq; omega) hb1 (by omega)
 clear hq hsz2 ht2
 clear k0 k1 k2 g0 g1 hsz
 go_enter Tryz.func69, Tryz.ntmps69
 have hw1 := HW1.out
 go_upto_region 2 with fail
 clear hw1
 iterate 3 (go_wp2_with ((first | (go_at_call 112; refine belC (HC.out _ bg) fun dd os => ?_) | (go_at_call 15; refine belC (HO.out _ bg) fun dd os => ?_) | (go_at_call 113; refine belC (HA.out _ bg) fun dd os => ?_) | (go_at_call 114; refine belC (HE.out _ bg) fun dd os => ?_) | (go_at_call 115; refine belC (HH.out _ bg) fun dd os => ?_) | (go_at_call 116; refine belC (HG.out _ bg) fun dd os => ?_)); (try rw [more_more])); try (refine wpm ?_; (repeat (go_big_quiet_step ((first | (go_at_call 15; with_reducible exact more_call (HO.out _ bg)) | (go_at_call 113; with_reducible exact more_call (HA.out _ bg)))))); refine wpQuiet_nil ?_; rintro _ ⟨pm, rfl⟩; (try rw [more_more])))
 exact bodyPost_ret (results_cm Tryz.results69 rfl rfl rfl (ld_more HQ.out s18 _ _)) rfl ⟨rfl, bg⟩
theorem rlook_ok2 (h : RDeskAt w r c kk D) (ho : CfgOk c) (k s i g es ei eg m x y vx vy hp pw lf mask : Int) (him : (-9223372036854775808 ≤ m ∧ m ≤ 9223372036854775807)) (hcb : cmdB ⟨k, s, i, g, ⟨es, ei, eg, m, x, y, vx, vy, hp, pw, lf⟩, mask⟩ = true) (hk : (k == 1) = false) (ha : aliveF D.M s i g = true) (hn : endsF D.q s i g = false) (hf : ¬ c.queue ≤ (D.q.length : Int)) :
 Calls prog 69 #[.pointer (some ⟨r.p, 0, none⟩), .agg #[int i64 k, int i64 s, int i64 i, int i64 g, int i64 es, int i64 ei, int i64 eg, int i64 m, int i64 x, int i64 y, int i64 vx, int i64 vy, int i64 hp, int i64 pw, int i64 lf, int i64 mask]] w fun e w' => e = .returned (.tuple #[.agg #[int i64 k, int i64 s, int i64 i, int i64 g, int i64 es, int i64 ei, int i64 eg, int i64 m, int i64 x, int i64 y, int i64 vx, int i64 vy, int i64 hp, int i64 pw, int i64 lf, int i64 mask], .bool false, int i64 0]) ∧ Below w.heap.size w w' := by
 obtain ⟨HC, HO, HA, HE, HH, HG⟩ := preL w r c kk D h ho k s i g es ei eg m x y vx vy hp pw lf mask him
 obtain ⟨w1, hw1, hb1, k0, k1, k2, g0, g1, hsz⟩ := boxes3C w k s i g es ei eg m x y vx vy hp pw lf mask
 obtain ⟨p, cap, c0, c1, c2, c3, c4, c5, c6, c7, c8, hlt⟩ := h.at1 hb1
 have s6 : w.heap.size < w1.heap.size := by omega
 have s7 : w.heap.size + 1 < w1.heap.size := by omega
 have s8 : w.heap.size + 1 + 1 < w1.heap.size := by omega
 obtain ⟨x0, x1, x2, x3, x4, x5, x6, x8, x9⟩ := cells9 k0
 obtain ⟨z0, z1, z2⟩ := ltz hlt
 obtain ⟨z6, z7, z8⟩ := ltz s6
 obtain ⟨z9, z10, z11⟩ := ltz s7
 obtain ⟨z12, z13, z14⟩ := ltz s8
 have HW1 := hid hw1
 clear h ho hw1 him
 generalize hgn : genF D.M (ofF ⟨c.cols, c.rows, c.side, c.radius, c.speed, c.ids, c.queue⟩ x y) (headF D.M (ofF ⟨c.cols, c.rows, c.side, c.radius, c.speed, c.ids, c.queue⟩ x y)).1 = gn at *
 clear hgn
 generalize headF D.M (ofF ⟨c.cols, c.rows, c.side, c.radius, c.speed, c.ids, c.queue⟩ x y) = hd at *
 obtain ⟨hi, hb, he⟩ := hd
 generalize ofF ⟨c.cols, c.rows, c.side, c.radius, c.speed, c.ids, c.queue⟩ x y = zn at *
 generalize aliveF D.M s i g = al at *
 generalize endsF D.q s i g = en at *
 generalize cmdB ⟨k, s, i, g, ⟨es, ei, eg, m, x, y, vx, vy, hp, pw, lf⟩, mask⟩ = cb at *
 subst hcb
 subst ha hn
 obtain ⟨hL, hL0⟩ := ld_boxL s6 k0
 have hL7 := ld_moreZ k2 s8
 obtain ⟨w2, hS', _, hq, hsz2, ht2⟩ := st_box w1 (w.heap.size + 1) (fun j hj => by rw [k1 j, Array.getElem?_eq_getElem (by simpa using hj)]; rfl) g1 s7 ⟨k, s, i, g, ⟨es, ei, eg, m, x, y, vx, vy, hp, pw, lf⟩, mask⟩
 have hS : ∀ d os, (stM ⟨w.heap.size + 1, 0, none⟩ (.agg #[int i64 k, int i64 s, int i64 i, int i64 g, int i64 es, int i64 ei, int i64 eg, int i64 m, int i64 x, int i64 y, int i64 vx, int i64 vy, int i64 hp, int i64 pw, int i64 lf, int i64 mask])).run prog (more w1 d os) = .ok () (more w2 d os) := hS'
 have HQ := hid hq
 have s18 : w.heap.size + 1 < w2.heap.size := by omega
 have hb2 : Below w.heap.size w w2 := Turned.below_new ht2 (fun q hq => by cases hq; omega) hb1 (by omega)
 clear hS' hq hsz2 ht2
 clear k0 k1 k2 g0 g1 hsz
 go_enter Tryz.func69, Tryz.ntmps69
 have hw1 := HW1.out
 go_upto_region 2 with fail
 clear hw1
 iterate 3 (go_wp2_with ((first | (go_at_call 112; refine belC (HC.out _ bg) fun dd os => ?_) | (go_at_call 15; refine belC (HO.out _ bg) fun dd os => ?_) | (go_at_call 113; refine belC (HA.out _ bg) fun dd os => ?_) | (go_at_call 114; refine belC (HE.out _ bg) fun dd os => ?_) | (go_at_call 115; refine belC (HH.out _ bg) fun dd os => ?_) | (go_at_call 116; refine belC (HG.out _ bg) fun dd os => ?_)); (try rw [more_more])); try (refine wpm ?_; (repeat (go_big_quiet_step ((first | (go_at_call 15; with_reducible exact more_call (HO.out _ bg)) | (go_at_call 113; with_reducible exact more_call (HA.out _ bg)))))); refine wpQuiet_nil ?_; rintro _ ⟨pm, rfl⟩; (try rw [more_more])))
 exact bodyPost_ret (results_cm Tryz.results69 rfl rfl rfl (ld_more HQ.out s18 _ _)) rfl ⟨rfl, bg⟩
theorem rlook_ok1 (h : RDeskAt w r c kk D) (ho : CfgOk c) (k s i g es ei eg m x y vx vy hp pw lf mask : Int) (him : (-9223372036854775808 ≤ m ∧ m ≤ 9223372036854775807)) (hcb : cmdB ⟨k, s, i, g, ⟨es, ei, eg, m, x, y, vx, vy, hp, pw, lf⟩, mask⟩ = true) (hk : k = 1) (hnw : idEq es ei eg 0 0 0 = true) (hz : ¬ ofF ⟨c.cols, c.rows, c.side, c.radius, c.speed, c.ids, c.queue⟩ x y < 0) (hf : ¬ c.queue ≤ (D.q.length : Int)) (hh : (headF D.M (ofF ⟨c.cols, c.rows, c.side, c.radius, c.speed, c.ids, c.queue⟩ x y)).2.2 = 0) :
 Calls prog 69 #[.pointer (some ⟨r.p, 0, none⟩), .agg #[int i64 k, int i64 s, int i64 i, int i64 g, int i64 es, int i64 ei, int i64 eg, int i64 m, int i64 x, int i64 y, int i64 vx, int i64 vy, int i64 hp, int i64 pw, int i64 lf, int i64 mask]] w fun e w' => e = .returned (.tuple #[.agg #[int i64 k, int i64 s, int i64 i, int i64 g, int i64 (ofF ⟨c.cols, c.rows, c.side, c.radius, c.speed, c.ids, c.queue⟩ x y), int i64 (headF D.M (ofF ⟨c.cols, c.rows, c.side, c.radius, c.speed, c.ids, c.queue⟩ x y)).1, int i64 (genF D.M (ofF ⟨c.cols, c.rows, c.side, c.radius, c.speed, c.ids, c.queue⟩ x y) (headF D.M (ofF ⟨c.cols, c.rows, c.side, c.radius, c.speed, c.ids, c.queue⟩ x y)).1), int i64 m, int i64 x, int i64 y, int i64 vx, int i64 vy, int i64 hp, int i64 pw, int i64 lf, int i64 mask], .bool (!(headF D.M (ofF ⟨c.cols, c.rows, c.side, c.radius, c.speed, c.ids, c.queue⟩ x y)).2.1), int i64 0]) ∧ Below w.heap.size w w' := by
 obtain ⟨HC, HO, HA, HE, HH, HG⟩ := preL w r c kk D h ho k s i g es ei eg m x y vx vy hp pw lf mask him
 obtain ⟨w1, hw1, hb1, k0, k1, k2, g0, g1, hsz⟩ := boxes3C w k s i g es ei eg m x y vx vy hp pw lf mask
 obtain ⟨p, cap, c0, c1, c2, c3, c4, c5, c6, c7, c8, hlt⟩ := h.at1 hb1
 have s6 : w.heap.size < w1.heap.size := by omega
 have s7 : w.heap.size + 1 < w1.heap.size := by omega
 have s8 : w.heap.size + 1 + 1 < w1.heap.size := by omega
 obtain ⟨x0, x1, x2, x3, x4, x5, x6, x8, x9⟩ := cells9 k0
 obtain ⟨z0, z1, z2⟩ := ltz hlt
 obtain ⟨z6, z7, z8⟩ := ltz s6
 obtain ⟨z9, z10, z11⟩ := ltz s7
 obtain ⟨z12, z13, z14⟩ := ltz s8
 have HW1 := hid hw1
 clear h ho hw1 him
 generalize hgn : genF D.M (ofF ⟨c.cols, c.rows, c.side, c.radius, c.speed, c.ids, c.queue⟩ x y) (headF D.M (ofF ⟨c.cols, c.rows, c.side, c.radius, c.speed, c.ids, c.queue⟩ x y)).1 = gn at *
 clear hgn
 generalize headF D.M (ofF ⟨c.cols, c.rows, c.side, c.radius, c.speed, c.ids, c.queue⟩ x y) = hd at *
 obtain ⟨hi, hb, he⟩ := hd
 generalize ofF ⟨c.cols, c.rows, c.side, c.radius, c.speed, c.ids, c.queue⟩ x y = zn at *
 generalize aliveF D.M s i g = al at *
 generalize endsF D.q s i g = en at *
 generalize cmdB ⟨k, s, i, g, ⟨es, ei, eg, m, x, y, vx, vy, hp, pw, lf⟩, mask⟩ = cb at *
 subst hcb hk
 subst hh
 obtain ⟨hL, hL0⟩ := ld_boxL s6 k0
 have hL7 := ld_moreZ k2 s8
 obtain ⟨w3, hw3, hb3, q0, q1, g3, hsz3⟩ := named_box3 hb1 k0 k1 g1 zn hi gn
 have s9 : w.heap.size + 1 < w3.heap.size := by omega
 have s10 : w.heap.size < w3.heap.size := by omega
 have hL3 : ∀ d os, (ldM ⟨w.heap.size, 0, none⟩).run prog (more w3 d os) = .ok (.agg #[int i64 1, int i64 s, int i64 i, int i64 g, int i64 zn, int i64 hi, int i64 gn, int i64 m, int i64 x, int i64 y, int i64 vx, int i64 vy, int i64 hp, int i64 pw, int i64 lf, int i64 mask]) (more w3 d os) := fun d os => ld_box ⟨1, s, i, g, ⟨zn, hi, gn, m, x, y, vx, vy, hp, pw, lf⟩, mask⟩ s10 (fun j => by rw [q0 j, List.getElem?_toArray]; rfl) d os
 obtain ⟨w2, hS', _, hq, hsz2, ht2⟩ := st_box w3 (w.heap.size + 1) (fun j hj => by rw [q1 j, Array.getElem?_eq_getElem (by simpa using hj)]; rfl) g3 s9 ⟨1, s, i, g, ⟨zn, hi, gn, m, x, y, vx, vy, hp, pw, lf⟩, mask⟩
 have hS : ∀ d os, (stM ⟨w.heap.size + 1, 0, none⟩ (.agg #[int i64 1, int i64 s, int i64 i, int i64 g, int i64 zn, int i64 hi, int i64 gn, int i64 m, int i64 x, int i64 y, int i64 vx, int i64 vy, int i64 hp, int i64 pw, int i64 lf, int i64 mask])).run prog (more w3 d os) = .ok () (more w2 d os) := hS'
 have HQ := hid hq
 have s18 : w.heap.size + 1 < w2.heap.size := by omega
 have hb2 : Below w.heap.size w w2 := Turned.below_new ht2 (fun q hq => by cases hq; omega) hb3 (by omega)
 clear hS' hq hsz2 ht2
 have HW3 := hid hw3
 have HS := hid hS
 have HL3 := hid hL3
 have f4 := g0 4; have f5 := g0 5; have f6 := g0 6
 clear k0 k1 k2 g0 g1 hsz hw3 q0 q1 g3 hsz3 hL3 hS
 go_enter Tryz.func69, Tryz.ntmps69
 have hw1 := HW1.out
 go_upto_region 2 with fail
 clear hw1
 iterate 2 (go_wp2_with ((first | (go_at_call 112; refine belC (HC.out _ bg) fun dd os => ?_) | (go_at_call 15; refine belC (HO.out _ bg) fun dd os => ?_) | (go_at_call 113; refine belC (HA.out _ bg) fun dd os => ?_) | (go_at_call 114; refine belC (HE.out _ bg) fun dd os => ?_) | (go_at_call 115; refine belC (HH.out _ bg) fun dd os => ?_) | (go_at_call 116; refine belC (HG.out _ bg) fun dd os => ?_)); (try rw [more_more])); refine wpm ?_; (repeat (go_big_quiet_step ((first | (go_at_call 15; with_reducible exact more_call (HO.out _ bg)) | (go_at_call 113; with_reducible exact more_call (HA.out _ bg)))))); refine wpQuiet_nil ?_; rintro _ ⟨pm, rfl⟩; (try rw [more_more]))
 go_upto_region 23 with ((first | (go_at_call 112; refine belC (HC.out _ bg) fun dd os => ?_) | (go_at_call 15; refine belC (HO.out _ bg) fun dd os => ?_) | (go_at_call 113; refine belC (HA.out _ bg) fun dd os => ?_) | (go_at_call 114; refine belC (HE.out _ bg) fun dd os => ?_) | (go_at_call 115; refine belC (HH.out _ bg) fun dd os => ?_) | (go_at_call 116; refine belC (HG.out _ bg) fun dd os => ?_)); (try rw [more_more]))
 rw [HW3.out]
 have hL3 := HL3.out
 have hS := HS.out
 iterate 24 (first | go_values | go_skip | go_guarded | go_step | go_upon | go_back)
 exact bodyPost_ret (results_cm Tryz.results69 rfl rfl rfl (ld_more HQ.out s18 _ _)) rfl ⟨rfl, bg⟩
theorem rlook_any (h : RDeskAt w r c kk D) (ho : CfgOk c) (m : Cm) (him : (-9223372036854775808 ≤ m.b.m ∧ m.b.m ≤ 9223372036854775807)) : Calls prog 69 #[.pointer (some ⟨r.p, 0, none⟩), .agg (cmC m).toArray] w fun e w' => e = .returned (.tuple #[.agg (cmC (lookF c D m).1).toArray, .bool (lookF c D m).2.1, int i64 (lookF c D m).2.2]) ∧ Below w.heap.size w w' := by
 obtain ⟨k, s, i, g, ⟨es, ei, eg, m, x, y, vx, vy, hp, pw, lf⟩, mask⟩ := m
 simp only at him
 unfold lookF newB fullB
 simp only
 cases hcb : cmdB ⟨k, s, i, g, ⟨es, ei, eg, m, x, y, vx, vy, hp, pw, lf⟩, mask⟩ with
 | false =>
   rw [if_pos (Or.inl rfl)]
   exact rlook_bad w r c kk D h ho k s i g es ei eg m x y vx vy hp pw lf mask him hcb rfl
 | true =>
   by_cases hk : k = 1
   · cases hn : idEq es ei eg 0 0 0 with
     | false =>
       rw [if_pos (Or.inr ⟨hk, rfl⟩)]
       exact rlook_named w r c kk D h ho k s i g es ei eg m x y vx vy hp pw lf mask him hcb hk hn
     | true =>
       rw [if_neg (by simp), if_pos hk]
       split
       · rename_i hz; exact rlook_zone w r c kk D h ho k s i g es ei eg m x y vx vy hp pw lf mask him hcb hk hn hz
       · rename_i hz
         split
         · rename_i hf; exact rlook_full1 w r c kk D h ho k s i g es ei eg m x y vx vy hp pw lf mask him hcb hk hn hz (of_decide_eq_true hf)
         · rename_i hf
           have hf' : ¬ c.queue ≤ (D.q.length : Int) := fun e => hf (decide_eq_true e)
           split
           · rename_i hh; exact rlook_busy w r c kk D h ho k s i g es ei eg m x y vx vy hp pw lf mask him hcb hk hn hz hf' (by simpa using hh)
           · rename_i hh; exact rlook_ok1 w r c kk D h ho k s i g es ei eg m x y vx vy hp pw lf mask him hcb hk hn hz hf' (by simpa using hh)
   · have hk' : (k == 1) = false := by simpa using hk
     rw [if_neg (by simp [hk]), if_neg hk]
     split
     · rename_i ha; exact rlook_stale w r c kk D h ho k s i g es ei eg m x y vx vy hp pw lf mask him hcb hk' ha
     · rename_i ha
       have ha' : aliveF D.M s i g = true := by simpa using ha
       split
       · rename_i hn; exact rlook_used w r c kk D h ho k s i g es ei eg m x y vx vy hp pw lf mask him hcb hk' ha' hn
       · rename_i hn
         have hn' : endsF D.q s i g = false := by simpa using hn
         split
         · rename_i hf; exact rlook_full2 w r c kk D h ho k s i g es ei eg m x y vx vy hp pw lf mask him hcb hk' ha' hn' (of_decide_eq_true hf)
         · rename_i hf; exact rlook_ok2 w r c kk D h ho k s i g es ei eg m x y vx vy hp pw lf mask him hcb hk' ha' hn' (fun e => hf (decide_eq_true e))
end
end
theorem rtake_any (w : World) (R : RLay) (ids : Nat) {c : Int} (M : List Sh) (h : RPool w R ids c M) (s i g : Int) : Calls prog 118 #[.pointer (some ⟨R.p, 0, none⟩), .agg #[int i64 s, int i64 i, int i64 g]] w fun e w' => e = .returned (int i64 (takeF M s i g).1) ∧ RStp w R ids c w' (takeF M s i g).2 := by
 have HE := hid fun w' (hb : Below w.heap.size w w') => RStp.same h hb
 obtain ⟨rw, put, h1, h2, hpc⟩ := h
 cases hix : ixOf M s i with
 | none =>
   simp only [takeF, hix]
   have HA := hid fun W (hW : Below w.heap.size w W) => rat_none W R ids M rw put (h1.grown hW) h2 s i hix
   clear hix h1 h2
   go_enter Tryz.func118, Tryz.ntmps118
   go_wp2_with (go_at_call 117; refine eqA (HA.out _ bg) ?_)
   go_ret
   exact ⟨rfl, HE.out _ bg⟩
 | some x =>
   simp only [takeF, hix]
   obtain ⟨k, i, m, rfl, rfl, hm, hx⟩ := ixOf_nat' hix
   have HA := hid fun W (hW : Below w.heap.size w W) => rat_some W R ids M rw put (h1.grown hW) h2 k i m x hm hx
   by_cases hg : g < 0
   · rw [if_pos hg]
     clear hix h1 h2 hm hx
     have hnI : 0 ≤ ((k * ids + i : Nat) : Int) := Int.natCast_nonneg _
     generalize k * ids + i = n at *
     go_enter Tryz.func118, Tryz.ntmps118
     go_wp2_with (go_at_call 117; refine eqA (HA.out _ bg) ?_)
     go_ret
     exact ⟨rfl, HE.out _ bg⟩
   · rw [if_neg hg]
     have hg0 : 0 ≤ g := by omega
     clear hg
     have hfo := frOf_nat hm
     rw [hfo]
     have hil : i < ids := by rw [← h2.len m (List.mem_of_getElem? hm)]; exact (List.getElem?_eq_some_iff.1 hx).1
     have hrow := (h2.row k m hm i hil).1
     have hrow0 : rw (0 + (k : Int)) i = rw k i := by rw [Int.zero_add]
     have hs := mSlots_get (rw := rw) M 0 k i m x h2.len hm hx
     obtain ⟨s0, s1, s2, s3, s4, s5⟩ := h1.slot hs
     obtain ⟨c0, c1, fp, fb, b0, b1⟩ := h1.tops
     obtain ⟨z1, z2⟩ := h1.bnd
     obtain ⟨y0, y1, y2, y3⟩ := lts b0
     obtain ⟨x0, x1, x2, x3⟩ := lts b1
     have b00 : ∀ n, R.p < w.heap.size + n := fun n => by omega
     have b11 : ∀ n, R.b < w.heap.size + n := fun n => by omega
     have hn := (List.getElem?_eq_some_iff.1 hs).1
     have hnI : 0 ≤ ((k * ids + i : Nat) : Int) := Int.natCast_nonneg _
     have hnL : ((k * ids + i : Nat) : Int) < ((mSlots rw 0 M).length : Int) := by omega
     unfold maxLen at z2
     by_cases hn0 : (i : Int) ∈ m.free
     · rw [if_neg (fun h => h hn0)]
       have hr0 : 0 ≤ rw (0 + (k : Int)) i := by rw [hrow0]; exact hrow.2 hn0
       by_cases hst : g < x.gen ∨ x.bound ≤ g
       · rw [if_pos hst]
         generalize rw (0 + (k : Int)) i = rr at *
         generalize (mSlots rw 0 M).length = len at *
         generalize k * ids + i = n at *
         clear hs hm hx hix h1 h2 hrow hrow0 hfo hn0
         obtain ⟨gen, bound, alive⟩ := x
         simp only at s0 s1 s2 s3 s4 s5 hst
         by_cases hq : g < gen
         · have hd1 : decide (g < gen) = true := by simpa using hq
           clear hst
           go_enter Tryz.func118, Tryz.ntmps118
           go_wp2_with (go_at_call 117; refine eqA (HA.out _ bg) ?_)
           refine wpm ?_
           repeat (go_big_quiet_step (fail))
           refine wpQuiet_nil ?_
           rintro _ ⟨pn, rfl⟩
           go_wp2_with fail
           go_ret
           exact ⟨rfl, HE.out _ bg⟩
         · have hd1 : decide (g < gen) = false := by simpa using hq
           have hq2 : bound ≤ g := by omega
           have hd2 : decide (bound ≤ g) = true := by simpa using hq2
           clear hst hq
           go_enter Tryz.func118, Tryz.ntmps118
           go_wp2_with (go_at_call 117; refine eqA (HA.out _ bg) ?_)
           refine wpm ?_
           repeat (go_big_quiet_step (fail))
           refine wpQuiet_nil ?_
           rintro _ ⟨pn, rfl⟩
           go_wp2_with fail
           go_ret
           exact ⟨rfl, HE.out _ bg⟩
       · rw [if_neg hst]
         have HI := hid fun W (hW : Below w.heap.size w W) => fin_take (h1.grown hW) h2 hpc hm hx hg0 (by omega : g < x.bound)
         generalize rw (0 + (k : Int)) i = rr at *
         generalize (mSlots rw 0 M).length = len at *
         generalize k * ids + i = n at *
         clear hs hm hx hix h1 h2 hrow hrow0 hfo hn0
         obtain ⟨gen, bound, alive⟩ := x
         simp only at s0 s1 s2 s3 s4 s5 hst
         have hd1 : decide (g < gen) = false := by simp; omega
         have hd2 : decide (bound ≤ g) = false := by simp; omega
         clear hst
         go_enter Tryz.func118, Tryz.ntmps118
         go_wp2_with (go_at_call 117; refine eqA (HA.out _ bg) ?_)
         refine wpm ?_
         repeat (go_big_quiet_step (fail))
         refine wpQuiet_nil ?_
         rintro _ ⟨pn, rfl⟩
         go_wp2_with fail
         refine wp_region_still_tail 9 (by kernel_rfl) (by kernel_rfl) ?_
         simp only [List.take_succ_cons, List.take_zero, List.drop_succ_cons, List.drop_zero]
         repeat (first | still_step)
         refine wpStill_nil ?_
         go_wp2_with fail
         go_ret
         exact ⟨rfl, RStp.of (HI.out _ (Below.refl _ _)).2 (HI.out _ (Below.refl _ _)).1 bg⟩
     · rw [if_pos hn0]
       have hr0 : rw (0 + (k : Int)) i < 0 := by rw [hrow0]; exact Int.not_le.1 fun h => hn0 (hrow.1 h)
       generalize rw (0 + (k : Int)) i = rr at *
       generalize (mSlots rw 0 M).length = len at *
       generalize k * ids + i = n at *
       clear hs hm hx hix h1 h2 hrow hrow0 hfo hn0
       obtain ⟨gen, bound, alive⟩ := x
       simp only at s0 s1 s2 s3 s4 s5
       go_enter Tryz.func118, Tryz.ntmps118
       go_wp2_with (go_at_call 117; refine eqA (HA.out _ bg) ?_)
       go_ret
       exact ⟨rfl, HE.out _ bg⟩
theorem rfree_any (w : World) (R : RLay) (ids : Nat) {c : Int} (M : List Sh) (h : RPool w R ids c M) (hc : c ≤ 1000000000) (s i g : Int) : Calls prog 111 #[.pointer (some ⟨R.p, 0, none⟩), .agg #[int i64 s, int i64 i, int i64 g]] w fun e w' => e = .returned (int i64 (freeF M s i g).1) ∧ RStp w R ids (c + 1) w' (freeF M s i g).2 := by
 have HE := hid fun w' (hb : Below w.heap.size w w') => (RStp.same h hb).more
 have HAL := hid fun W (hW : Below w.heap.size w W) => ralive_any W R ids M (h.grown hW) s i g
 obtain ⟨rw, put, h1, h2, hpc⟩ := h
 cases hix : ixOf M s i with
 | none =>
   simp only [freeF, hix]
   have HA := hid fun W (hW : Below w.heap.size w W) => rat_none W R ids M rw put (h1.grown hW) h2 s i hix
   clear hix h1 h2
   go_enter Tryz.func111, Tryz.ntmps111
   go_wp2_with (go_at_call 117; refine eqA (HA.out _ bg) ?_)
   go_ret
   exact ⟨rfl, HE.out _ bg⟩
 | some x =>
   simp only [freeF, hix]
   obtain ⟨k, i, m, rfl, rfl, hm, hx⟩ := ixOf_nat' hix
   have HA := hid fun W (hW : Below w.heap.size w W) => rat_some W R ids M rw put (h1.grown hW) h2 k i m x hm hx
   have hnI : 0 ≤ ((k * ids + i : Nat) : Int) := Int.natCast_nonneg _
   by_cases hg : g < 0
   · rw [if_pos hg]
     clear hix h1 h2 hm hx
     generalize k * ids + i = n at *
     go_enter Tryz.func111, Tryz.ntmps111
     go_wp2_with (go_at_call 117; refine eqA (HA.out _ bg) ?_)
     go_ret
     exact ⟨rfl, HE.out _ bg⟩
   · rw [if_neg hg]
     have hg0 : 0 ≤ g := by omega
     clear hg
     have hal : aliveF M k i g = (x.alive && x.gen == g) := by simp only [aliveF, hix]
     cases ha : (x.alive && x.gen == g) with
     | false =>
       rw [if_pos rfl]
       rw [hal, ha] at HAL
       clear hix h1 h2 hm hx hal ha
       generalize k * ids + i = n at *
       go_enter Tryz.func111, Tryz.ntmps111
       go_wp2_with (first | (go_at_call 117; refine eqA (HA.out _ bg) ?_) | (go_at_call 113; refine belA (HAL.out _ bg) fun d os => ?_))
       go_ret
       exact ⟨rfl, HE.out _ bg⟩
     | true =>
       rw [if_neg (by simp)]
       rw [hal, ha] at HAL
       have ha' := ha
       simp only [Bool.and_eq_true, beq_iff_eq] at ha'
       obtain ⟨hxa, rfl⟩ := ha'
       have hxr := ((h2.good m (List.mem_of_getElem? hm)).inv.rng i x hx)
       have hx1 := hxr.2.2.2.2 hxa
       have hp0 := h2.put
       have hil : i < ids := by rw [← h2.len m (List.mem_of_getElem? hm)]; exact (List.getElem?_eq_some_iff.1 hx).1
       have hs := mSlots_get (rw := rw) M 0 k i m x h2.len hm hx
       obtain ⟨s0, s1, s2, s3, s4, s5⟩ := h1.slot hs
       obtain ⟨c0, c1, fp, fb, b0, b1⟩ := h1.tops
       obtain ⟨z1, z2⟩ := h1.bnd
       obtain ⟨y0, y1, y2, y3⟩ := lts b0
       obtain ⟨x0, x1, x2, x3⟩ := lts b1
       have b00 : ∀ n, R.p < w.heap.size + n := fun n => by omega
       have b11 : ∀ n, R.b < w.heap.size + n := fun n => by omega
       have hn := (List.getElem?_eq_some_iff.1 hs).1
       have hnI : 0 ≤ ((k * ids + i : Nat) : Int) := Int.natCast_nonneg _
       have hnL : ((k * ids + i : Nat) : Int) < ((mSlots rw 0 M).length : Int) := by omega
       unfold maxLen at z2
       by_cases hw : x.gen + 1 < 1048576
       · rw [if_pos hw]
         have HI := hid fun W (hW : Below w.heap.size w W) => fin_free (h1.grown hW) h2 hpc hm hx hxa hw
         have hpb : R.p ≠ R.b := h1.ne
         generalize rw (0 + (k : Int)) i = rr at *
         generalize (mSlots rw 0 M).length = len at *
         generalize k * ids + i = n at *
         clear hs hm hx hix h1 h2 hal ha hxr
         obtain ⟨gen, bound, alive⟩ := x
         simp only at s0 s1 s2 s3 s4 s5 hw hxa hx1 hg0
         subst hxa
         go_enter Tryz.func111, Tryz.ntmps111
         go_wp2_with (first | (go_at_call 117; refine eqA (HA.out _ bg) ?_) | (go_at_call 113; refine belA (HAL.out _ bg) fun d os => ?_))
         refine wp_region_still_tail 16 (by kernel_rfl) (by kernel_rfl) ?_
         simp only [List.take_succ_cons, List.take_zero, List.drop_succ_cons, List.drop_zero]
         repeat (first | still_step)
         refine wpStill_nil ?_
         go_wp2_with fail
         refine wp_region_still_tail 11 (by kernel_rfl) (by kernel_rfl) ?_
         simp only [List.take_succ_cons, List.take_zero, List.drop_succ_cons, List.drop_zero]
         repeat (first | still_step)
         refine wpStill_nil ?_
         go_wp2_with fail
         go_ret
         exact ⟨rfl, RStp.of (HI.out _ (Below.refl _ _)).2 (HI.out _ (Below.refl _ _)).1 bg⟩
       · rw [if_neg hw]
         have HI := hid fun W (hW : Below w.heap.size w W) => (fin_worn (h1.grown hW) h2 hpc hm hx hxa hw).more
         generalize rw (0 + (k : Int)) i = rr at *
         generalize (mSlots rw 0 M).length = len at *
         generalize k * ids + i = n at *
         clear hs hm hx hix h1 h2 hal ha hxr
         obtain ⟨gen, bound, alive⟩ := x
         simp only at s0 s1 s2 s3 s4 s5 hw hxa hx1 hg0
         subst hxa
         have hw2 : (1048576 : Int) ≤ gen + 1 := by omega
         clear hw
         go_enter Tryz.func111, Tryz.ntmps111
         go_wp2_with (first | (go_at_call 117; refine eqA (HA.out _ bg) ?_) | (go_at_call 113; refine belA (HAL.out _ bg) fun d os => ?_))
         refine wp_region_still_tail 16 (by kernel_rfl) (by kernel_rfl) ?_
         simp only [List.take_succ_cons, List.take_zero, List.drop_succ_cons, List.drop_zero]
         repeat (first | still_step)
         refine wpStill_nil ?_
         go_wp2_with fail
         go_ret
         exact ⟨rfl, RStp.of (HI.out _ (Below.refl _ _)).2 (HI.out _ (Below.refl _ _)).1 bg⟩
end Go.Proofs.YtoimjjhopljdmaaGreat
