/-
  Chapter texts DkD: what the claim reaches of them. Conditions stand at each theorem.
-/
import Derived.Test.YtoimjjhopljdmaaGreatY29
import Derived.Test.YtoimjjhopljdmaaGreatY01
import Derived.Test.YtoimjjhopljdmaaGreatY02
import Derived.Test.YtoimjjhopljdmaaGreatY08
import Derived.Test.YtoimjjhopljdmaaGreatY09
import Derived.Test.YtoimjjhopljdmaaGreatY30
namespace Go.Proofs.YtoimjjhopljdmaaGreat
open Go.RowKit

attribute [local go_sem ↓] loadVar_ldM storeVar_stM
theorem gen_dk (w : World) (L : Lay) (M : List Sh) (k i : Int) (h : PoolAt w L M) : Calls Tryz.prog 87 #[.pointer (some ⟨L.P, 0, none⟩), .int .i64 k, .int .i64 i] w fun e w' => e = .returned (.int .i64 (genF M k i)) ∧ Below w.heap.size w w' := by
  cases hx : ixOf M k i with
  | none => simp only [genF, hx]; exact gen_out w L M k i h hx
  | some x => simp only [genF, hx]; exact gen_in w L M k i x h hx
theorem named_box {w w1 : World} {k s i g es ei eg m x y vx vy hp pw lf mask : Int} (hb1 : Below w.heap.size w w1) (k0 : ∀ j, w1.cell? ⟨w.heap.size, j, none⟩ = (#[.int .i64 k, .int .i64 s, .int .i64 i, .int .i64 g, .int .i64 es, .int .i64 ei, .int .i64 eg, .int .i64 m, .int .i64 x, .int .i64 y, .int .i64 vx, .int .i64 vy, .int .i64 hp, .int .i64 pw, .int .i64 lf, .int .i64 mask] : Array Value)[j]?) (k1 : ∀ j, w1.cell? ⟨w.heap.size + 1, j, none⟩ = (#[.int .i64 0, .int .i64 0, .int .i64 0, .int .i64 0, .int .i64 0, .int .i64 0, .int .i64 0, .int .i64 0, .int .i64 0, .int .i64 0, .int .i64 0, .int .i64 0, .int .i64 0, .int .i64 0, .int .i64 0, .int .i64 0] : Array Value)[j]?)
    (g1 : ∀ j, w1.frozen? ⟨w.heap.size + 1, j, none⟩ = false) (hsz : w1.heap.size = w.heap.size + 1 + 1) (zn hi gn : Int) :
    ∃ w3, ((w1.setCell ⟨w.heap.size, 4, none⟩ (.int .i64 zn)).setCell ⟨w.heap.size, 5, none⟩ (.int .i64 hi)).setCell ⟨w.heap.size, 6, none⟩ (.int .i64 gn) = w3 ∧ Below w.heap.size w w3 ∧ (∀ j, w3.cell? ⟨w.heap.size, j, none⟩ = (#[.int .i64 k, .int .i64 s, .int .i64 i, .int .i64 g, .int .i64 zn, .int .i64 hi, .int .i64 gn, .int .i64 m, .int .i64 x, .int .i64 y, .int .i64 vx, .int .i64 vy, .int .i64 hp, .int .i64 pw, .int .i64 lf, .int .i64 mask] : Array Value)[j]?) ∧ (∀ j, w3.cell? ⟨w.heap.size + 1, j, none⟩ = (#[.int .i64 0, .int .i64 0, .int .i64 0, .int .i64 0, .int .i64 0, .int .i64 0, .int .i64 0, .int .i64 0, .int .i64 0, .int .i64 0, .int .i64 0, .int .i64 0, .int .i64 0, .int .i64 0, .int .i64 0, .int .i64 0] : Array Value)[j]?) ∧
      (∀ j, w3.frozen? ⟨w.heap.size + 1, j, none⟩ = false) ∧ w3.heap.size = w.heap.size + 1 + 1 := by
  have hx : ∀ (W : World) (o : Nat) (u : Value), (W.setCell ⟨w.heap.size, o, none⟩ u).heap[w.heap.size + 1]? = W.heap[w.heap.size + 1]? := fun W o u => Below.heap_setCell _ _ _ _ (by simp)
  refine ⟨_, rfl, bg, fun j => ?_, fun j => ?_, fun j => ?_, by simp [World.setCell]; omega⟩
  · by_cases h6 : j = 6
    · subst h6; rw [World.cell?_setCell_same' _ _ _ (by rw [cell_set_ne (by omega), cell_set_ne (by omega), k0 6]; rfl)]; rfl
    · rw [cell_set_ne (Ne.symm h6)]
      by_cases h5 : j = 5
      · subst h5; rw [World.cell?_setCell_same' _ _ _ (by rw [cell_set_ne (by omega), k0 5]; rfl)]; rfl
      · rw [cell_set_ne (Ne.symm h5)]
        by_cases h4 : j = 4
        · subst h4; rw [World.cell?_setCell_same' _ _ _ (by rw [k0 4]; rfl)]; rfl
        · rw [cell_set_ne (Ne.symm h4), k0 j]
          rcases j with _ | _ | _ | _ | _ | _ | _ | j
          all_goals first | rfl | omega | simp
  · unfold World.cell?; rw [hx, hx, hx]; exact k1 j
  · unfold World.frozen?; rw [hx, hx, hx]; exact g1 j
section
variable (w : World) (d : DLay) (c : Cfg) (D : Dk)
set_option maxRecDepth 100000 in
set_option maxHeartbeats 4000000 in
theorem dlook_bad (h : DeskAt w d c D) (ho : CfgOk c) (k s i g es ei eg m x y vx vy hp pw lf mask : Int) (hcb : errB (cmdB ⟨k, s, i, g, ⟨es, ei, eg, m, x, y, vx, vy, hp, pw, lf⟩, mask⟩) = 1) {ks : Bool} (hks : (k == 1) = ks) :
    Calls Tryz.prog 44 #[.pointer (some ⟨d.p, 0, none⟩), .agg #[.int .i64 k, .int .i64 s, .int .i64 i, .int .i64 g, .int .i64 es, .int .i64 ei, .int .i64 eg, .int .i64 m, .int .i64 x, .int .i64 y, .int .i64 vx, .int .i64 vy, .int .i64 hp, .int .i64 pw, .int .i64 lf, .int .i64 mask]] w fun e w' => e = .returned (.tuple #[.agg #[.int .i64 0, .int .i64 0, .int .i64 0, .int .i64 0, .int .i64 0, .int .i64 0, .int .i64 0, .int .i64 0, .int .i64 0, .int .i64 0, .int .i64 0, .int .i64 0, .int .i64 0, .int .i64 0, .int .i64 0, .int .i64 0], .bool false, .int .i64 1]) ∧ Below w.heap.size w w' := by
  have HC := Lib.hid (fun W (_ : Below w.heap.size w W) => checkCmd_any k s i g es ei eg m x y vx vy hp pw lf mask W)
  have HO := Lib.hid (fun W (hW : Below w.heap.size w W) => zof_any W d.bm c x y (MapAt.grow h.map hW) ho)
  have HA := Lib.hid (fun W (hW : Below w.heap.size w W) => alive_any W d.L D.M s i g (h.grown hW).pool)
  have HW := Lib.hid (fun W (hW : Below w.heap.size w W) => dwaits_any W d c D (h.grown hW) s i g)
  have HH := Lib.hid (fun W (hW : Below w.heap.size w W) => head_any W d.L D.M (ofF c x y) (h.grown hW).pool)
  have HG := Lib.hid (fun W (hW : Below w.heap.size w W) => gen_dk W d.L D.M (ofF c x y) (headF D.M (ofF c x y)).1 (h.grown hW).pool)
  have hlt := lt_of_heap h.box
  have hltm := h.ltm
  have c0 := h.cell 0
  have c1 := h.cell 1
  have c2 := h.cell 2
  simp [deskC] at c0 c1 c2
  have m6 := MapAt.cell h.map 6
  simp at m6
  obtain ⟨p, cap, hv⟩ := sl_frm h.q
  rw [hv] at c2
  obtain ⟨w1, hw1, hb1, k0, k1, g0, g1, hsz⟩ := two_boxes w #[.int .i64 k, .int .i64 s, .int .i64 i, .int .i64 g, .int .i64 es, .int .i64 ei, .int .i64 eg, .int .i64 m, .int .i64 x, .int .i64 y, .int .i64 vx, .int .i64 vy, .int .i64 hp, .int .i64 pw, .int .i64 lf, .int .i64 mask] #[.int .i64 0, .int .i64 0, .int .i64 0, .int .i64 0, .int .i64 0, .int .i64 0, .int .i64 0, .int .i64 0, .int .i64 0, .int .i64 0, .int .i64 0, .int .i64 0, .int .i64 0, .int .i64 0, .int .i64 0, .int .i64 0] 34 34
  replace c0 := (hb1.cell (p := ⟨d.p, 0, none⟩) hlt).trans c0
  replace c1 := (hb1.cell (p := ⟨d.p, 1, none⟩) hlt).trans c1
  replace c2 := (hb1.cell (p := ⟨d.p, 2, none⟩) hlt).trans c2
  replace m6 := (hb1.cell (p := ⟨d.bm, 6, none⟩) hltm).trans m6
  replace hlt : d.p < w1.heap.size := by omega
  replace hltm : d.bm < w1.heap.size := by omega
  have s6 : w.heap.size < w1.heap.size := by omega
  have s7 : w.heap.size + 1 < w1.heap.size := by omega
  have x0 := k0 0; simp at x0
  have x1 := k0 1; simp at x1
  have x2 := k0 2; simp at x2
  have x3 := k0 3; simp at x3
  have x4 := k0 4; simp at x4
  have x5 := k0 5; simp at x5
  have x6 := k0 6; simp at x6
  have x8 := k0 8; simp at x8
  have x9 := k0 9; simp at x9
  obtain ⟨z0, z1, z2⟩ := ltz hlt
  obtain ⟨z3, z4, z5⟩ := ltz hltm
  obtain ⟨z6, z7, z8⟩ := ltz s6
  obtain ⟨z9, z10, z11⟩ := ltz s7
  have HW1 := Lib.hid hw1
  clear h hv ho hw1
  generalize hgn : genF D.M (ofF c x y) (headF D.M (ofF c x y)).1 = gn at *
  clear hgn
  generalize headF D.M (ofF c x y) = hd at *
  obtain ⟨hi, hb, he⟩ := hd
  generalize ofF c x y = zn at *
  generalize aliveF D.M s i g = al at *
  generalize endsF D.q s i g = en at *
  generalize errB (cmdB ⟨k, s, i, g, ⟨es, ei, eg, m, x, y, vx, vy, hp, pw, lf⟩, mask⟩) = cb at *
  generalize c.queue = qmax at *
  generalize D.q.length = ql at *
  subst hcb
  have hL : ∀ d os, (ldM ⟨w.heap.size, 0, none⟩).run Tryz.prog (more w1 d os) = .ok (.agg #[.int .i64 k, .int .i64 s, .int .i64 i, .int .i64 g, .int .i64 es, .int .i64 ei, .int .i64 eg, .int .i64 m, .int .i64 x, .int .i64 y, .int .i64 vx, .int .i64 vy, .int .i64 hp, .int .i64 pw, .int .i64 lf, .int .i64 mask]) (more w1 d os) := fun d os => ld_box ⟨k, s, i, g, ⟨es, ei, eg, m, x, y, vx, vy, hp, pw, lf⟩, mask⟩ s6 (fun j => by rw [k0 j, List.getElem?_toArray]; rfl) d os
  have hL0 : (ldM ⟨w.heap.size, 0, none⟩).run Tryz.prog w1 = .ok (.agg #[.int .i64 k, .int .i64 s, .int .i64 i, .int .i64 g, .int .i64 es, .int .i64 ei, .int .i64 eg, .int .i64 m, .int .i64 x, .int .i64 y, .int .i64 vx, .int .i64 vy, .int .i64 hp, .int .i64 pw, .int .i64 lf, .int .i64 mask]) w1 := ld_box0 ⟨k, s, i, g, ⟨es, ei, eg, m, x, y, vx, vy, hp, pw, lf⟩, mask⟩ (fun j => by rw [k0 j, List.getElem?_toArray]; rfl)
  obtain ⟨w2, hS', _, hq, hsz2, ht2⟩ := st_box w1 (w.heap.size + 1) (fun j hj => by rw [k1 j, Array.getElem?_eq_getElem (by simpa using hj)]; rfl) g1 s7 ⟨0, 0, 0, 0, ⟨0, 0, 0, 0, 0, 0, 0, 0, 0, 0, 0⟩, 0⟩
  have hS : ∀ d os, (stM ⟨w.heap.size + 1, 0, none⟩ (.agg #[.int .i64 0, .int .i64 0, .int .i64 0, .int .i64 0, .int .i64 0, .int .i64 0, .int .i64 0, .int .i64 0, .int .i64 0, .int .i64 0, .int .i64 0, .int .i64 0, .int .i64 0, .int .i64 0, .int .i64 0, .int .i64 0])).run Tryz.prog (more w1 d os) = .ok () (more w2 d os) := hS'
  have HQ := Lib.hid hq
  have s8 : w.heap.size + 1 < w2.heap.size := by omega
  have hb2 : Below w.heap.size w w2 := Turned.below_new ht2 (fun q hq => by cases hq; omega) hb1 (by omega)
  clear hS' hq hsz2 ht2
  clear k0 k1 g0 g1 hsz
  go_enter Tryz.func44, Tryz.ntmps44
  go_upto_region 1 with fail
  rw [← HW1.out]
  go_wp2_with (first | (go_at_call 82; refine (HC.out _ bg).mono ?_; rintro e w' ⟨rfl, hb⟩; obtain ⟨d, os, rfl⟩ := more_of hb; clear hb; (try rw [more_more])) | (go_at_call 83; refine (HO.out _ bg).mono ?_; rintro e w' ⟨rfl, hb⟩; obtain ⟨d, os, rfl⟩ := more_of hb; clear hb; (try rw [more_more])) | (go_at_call 84; refine (HA.out _ bg).mono ?_; rintro e w' ⟨rfl, hb⟩; obtain ⟨d, os, rfl⟩ := more_of hb; clear hb; (try rw [more_more])) | (go_at_call 85; refine (HW.out _ bg).mono ?_; rintro e w' ⟨rfl, hb⟩; obtain ⟨d, os, rfl⟩ := more_of hb; clear hb; (try rw [more_more])) | (go_at_call 86; refine (HH.out _ bg).mono ?_; rintro e w' ⟨rfl, hb⟩; obtain ⟨d, os, rfl⟩ := more_of hb; clear hb; (try rw [more_more])) | (go_at_call 87; refine (HG.out _ bg).mono ?_; rintro e w' ⟨rfl, hb⟩; obtain ⟨d, os, rfl⟩ := more_of hb; clear hb; (try rw [more_more])))
  exact bodyPost_ret (results_cm Tryz.results44 rfl rfl rfl (ld_more HQ.out s8 _ _)) rfl ⟨rfl, bg⟩

set_option maxRecDepth 100000 in
set_option maxHeartbeats 4000000 in
theorem dlook_named (h : DeskAt w d c D) (ho : CfgOk c) (k s i g es ei eg m x y vx vy hp pw lf mask : Int) (hcb : errB (cmdB ⟨k, s, i, g, ⟨es, ei, eg, m, x, y, vx, vy, hp, pw, lf⟩, mask⟩) = 0) (hk : k = 1) (hnw : idEq es ei eg 0 0 0 = false) :
    Calls Tryz.prog 44 #[.pointer (some ⟨d.p, 0, none⟩), .agg #[.int .i64 k, .int .i64 s, .int .i64 i, .int .i64 g, .int .i64 es, .int .i64 ei, .int .i64 eg, .int .i64 m, .int .i64 x, .int .i64 y, .int .i64 vx, .int .i64 vy, .int .i64 hp, .int .i64 pw, .int .i64 lf, .int .i64 mask]] w fun e w' => e = .returned (.tuple #[.agg #[.int .i64 0, .int .i64 0, .int .i64 0, .int .i64 0, .int .i64 0, .int .i64 0, .int .i64 0, .int .i64 0, .int .i64 0, .int .i64 0, .int .i64 0, .int .i64 0, .int .i64 0, .int .i64 0, .int .i64 0, .int .i64 0], .bool false, .int .i64 1]) ∧ Below w.heap.size w w' := by
  have HC := Lib.hid (fun W (_ : Below w.heap.size w W) => checkCmd_any k s i g es ei eg m x y vx vy hp pw lf mask W)
  have HO := Lib.hid (fun W (hW : Below w.heap.size w W) => zof_any W d.bm c x y (MapAt.grow h.map hW) ho)
  have HA := Lib.hid (fun W (hW : Below w.heap.size w W) => alive_any W d.L D.M s i g (h.grown hW).pool)
  have HW := Lib.hid (fun W (hW : Below w.heap.size w W) => dwaits_any W d c D (h.grown hW) s i g)
  have HH := Lib.hid (fun W (hW : Below w.heap.size w W) => head_any W d.L D.M (ofF c x y) (h.grown hW).pool)
  have HG := Lib.hid (fun W (hW : Below w.heap.size w W) => gen_dk W d.L D.M (ofF c x y) (headF D.M (ofF c x y)).1 (h.grown hW).pool)
  have hlt := lt_of_heap h.box
  have hltm := h.ltm
  have c0 := h.cell 0
  have c1 := h.cell 1
  have c2 := h.cell 2
  simp [deskC] at c0 c1 c2
  have m6 := MapAt.cell h.map 6
  simp at m6
  obtain ⟨p, cap, hv⟩ := sl_frm h.q
  rw [hv] at c2
  obtain ⟨w1, hw1, hb1, k0, k1, g0, g1, hsz⟩ := two_boxes w #[.int .i64 k, .int .i64 s, .int .i64 i, .int .i64 g, .int .i64 es, .int .i64 ei, .int .i64 eg, .int .i64 m, .int .i64 x, .int .i64 y, .int .i64 vx, .int .i64 vy, .int .i64 hp, .int .i64 pw, .int .i64 lf, .int .i64 mask] #[.int .i64 0, .int .i64 0, .int .i64 0, .int .i64 0, .int .i64 0, .int .i64 0, .int .i64 0, .int .i64 0, .int .i64 0, .int .i64 0, .int .i64 0, .int .i64 0, .int .i64 0, .int .i64 0, .int .i64 0, .int .i64 0] 34 34
  replace c0 := (hb1.cell (p := ⟨d.p, 0, none⟩) hlt).trans c0
  replace c1 := (hb1.cell (p := ⟨d.p, 1, none⟩) hlt).trans c1
  replace c2 := (hb1.cell (p := ⟨d.p, 2, none⟩) hlt).trans c2
  replace m6 := (hb1.cell (p := ⟨d.bm, 6, none⟩) hltm).trans m6
  replace hlt : d.p < w1.heap.size := by omega
  replace hltm : d.bm < w1.heap.size := by omega
  have s6 : w.heap.size < w1.heap.size := by omega
  have s7 : w.heap.size + 1 < w1.heap.size := by omega
  have x0 := k0 0; simp at x0
  have x1 := k0 1; simp at x1
  have x2 := k0 2; simp at x2
  have x3 := k0 3; simp at x3
  have x4 := k0 4; simp at x4
  have x5 := k0 5; simp at x5
  have x6 := k0 6; simp at x6
  have x8 := k0 8; simp at x8
  have x9 := k0 9; simp at x9
  obtain ⟨z0, z1, z2⟩ := ltz hlt
  obtain ⟨z3, z4, z5⟩ := ltz hltm
  obtain ⟨z6, z7, z8⟩ := ltz s6
  obtain ⟨z9, z10, z11⟩ := ltz s7
  have HW1 := Lib.hid hw1
  clear h hv ho hw1
  generalize hgn : genF D.M (ofF c x y) (headF D.M (ofF c x y)).1 = gn at *
  clear hgn
  generalize headF D.M (ofF c x y) = hd at *
  obtain ⟨hi, hb, he⟩ := hd
  generalize ofF c x y = zn at *
  generalize aliveF D.M s i g = al at *
  generalize endsF D.q s i g = en at *
  generalize errB (cmdB ⟨k, s, i, g, ⟨es, ei, eg, m, x, y, vx, vy, hp, pw, lf⟩, mask⟩) = cb at *
  generalize c.queue = qmax at *
  generalize D.q.length = ql at *
  subst hcb hk
  have hL : ∀ d os, (ldM ⟨w.heap.size, 0, none⟩).run Tryz.prog (more w1 d os) = .ok (.agg #[.int .i64 1, .int .i64 s, .int .i64 i, .int .i64 g, .int .i64 es, .int .i64 ei, .int .i64 eg, .int .i64 m, .int .i64 x, .int .i64 y, .int .i64 vx, .int .i64 vy, .int .i64 hp, .int .i64 pw, .int .i64 lf, .int .i64 mask]) (more w1 d os) := fun d os => ld_box ⟨1, s, i, g, ⟨es, ei, eg, m, x, y, vx, vy, hp, pw, lf⟩, mask⟩ s6 (fun j => by rw [k0 j, List.getElem?_toArray]; rfl) d os
  have hL0 : (ldM ⟨w.heap.size, 0, none⟩).run Tryz.prog w1 = .ok (.agg #[.int .i64 1, .int .i64 s, .int .i64 i, .int .i64 g, .int .i64 es, .int .i64 ei, .int .i64 eg, .int .i64 m, .int .i64 x, .int .i64 y, .int .i64 vx, .int .i64 vy, .int .i64 hp, .int .i64 pw, .int .i64 lf, .int .i64 mask]) w1 := ld_box0 ⟨1, s, i, g, ⟨es, ei, eg, m, x, y, vx, vy, hp, pw, lf⟩, mask⟩ (fun j => by rw [k0 j, List.getElem?_toArray]; rfl)
  obtain ⟨w2, hS', _, hq, hsz2, ht2⟩ := st_box w1 (w.heap.size + 1) (fun j hj => by rw [k1 j, Array.getElem?_eq_getElem (by simpa using hj)]; rfl) g1 s7 ⟨0, 0, 0, 0, ⟨0, 0, 0, 0, 0, 0, 0, 0, 0, 0, 0⟩, 0⟩
  have hS : ∀ d os, (stM ⟨w.heap.size + 1, 0, none⟩ (.agg #[.int .i64 0, .int .i64 0, .int .i64 0, .int .i64 0, .int .i64 0, .int .i64 0, .int .i64 0, .int .i64 0, .int .i64 0, .int .i64 0, .int .i64 0, .int .i64 0, .int .i64 0, .int .i64 0, .int .i64 0, .int .i64 0])).run Tryz.prog (more w1 d os) = .ok () (more w2 d os) := hS'
  have HQ := Lib.hid hq
  have s8 : w.heap.size + 1 < w2.heap.size := by omega
  have hb2 : Below w.heap.size w w2 := Turned.below_new ht2 (fun q hq => by cases hq; omega) hb1 (by omega)
  clear hS' hq hsz2 ht2
  clear k0 k1 g0 g1 hsz
  go_enter Tryz.func44, Tryz.ntmps44
  go_upto_region 1 with fail
  rw [← HW1.out]
  go_wp2_with (first | (go_at_call 82; refine (HC.out _ bg).mono ?_; rintro e w' ⟨rfl, hb⟩; obtain ⟨d, os, rfl⟩ := more_of hb; clear hb; (try rw [more_more])) | (go_at_call 83; refine (HO.out _ bg).mono ?_; rintro e w' ⟨rfl, hb⟩; obtain ⟨d, os, rfl⟩ := more_of hb; clear hb; (try rw [more_more])) | (go_at_call 84; refine (HA.out _ bg).mono ?_; rintro e w' ⟨rfl, hb⟩; obtain ⟨d, os, rfl⟩ := more_of hb; clear hb; (try rw [more_more])) | (go_at_call 85; refine (HW.out _ bg).mono ?_; rintro e w' ⟨rfl, hb⟩; obtain ⟨d, os, rfl⟩ := more_of hb; clear hb; (try rw [more_more])) | (go_at_call 86; refine (HH.out _ bg).mono ?_; rintro e w' ⟨rfl, hb⟩; obtain ⟨d, os, rfl⟩ := more_of hb; clear hb; (try rw [more_more])) | (go_at_call 87; refine (HG.out _ bg).mono ?_; rintro e w' ⟨rfl, hb⟩; obtain ⟨d, os, rfl⟩ := more_of hb; clear hb; (try rw [more_more])))
  exact bodyPost_ret (results_cm Tryz.results44 rfl rfl rfl (ld_more HQ.out s8 _ _)) rfl ⟨rfl, bg⟩

set_option maxRecDepth 100000 in
set_option maxHeartbeats 4000000 in
theorem dlook_zone (h : DeskAt w d c D) (ho : CfgOk c) (k s i g es ei eg m x y vx vy hp pw lf mask : Int) (hcb : errB (cmdB ⟨k, s, i, g, ⟨es, ei, eg, m, x, y, vx, vy, hp, pw, lf⟩, mask⟩) = 0) (hk : k = 1) (hnw : idEq es ei eg 0 0 0 = true) (hz : ofF c x y < 0) :
    Calls Tryz.prog 44 #[.pointer (some ⟨d.p, 0, none⟩), .agg #[.int .i64 k, .int .i64 s, .int .i64 i, .int .i64 g, .int .i64 es, .int .i64 ei, .int .i64 eg, .int .i64 m, .int .i64 x, .int .i64 y, .int .i64 vx, .int .i64 vy, .int .i64 hp, .int .i64 pw, .int .i64 lf, .int .i64 mask]] w fun e w' => e = .returned (.tuple #[.agg #[.int .i64 0, .int .i64 0, .int .i64 0, .int .i64 0, .int .i64 0, .int .i64 0, .int .i64 0, .int .i64 0, .int .i64 0, .int .i64 0, .int .i64 0, .int .i64 0, .int .i64 0, .int .i64 0, .int .i64 0, .int .i64 0], .bool false, .int .i64 5]) ∧ Below w.heap.size w w' := by
  have HC := Lib.hid (fun W (_ : Below w.heap.size w W) => checkCmd_any k s i g es ei eg m x y vx vy hp pw lf mask W)
  have HO := Lib.hid (fun W (hW : Below w.heap.size w W) => zof_any W d.bm c x y (MapAt.grow h.map hW) ho)
  have HA := Lib.hid (fun W (hW : Below w.heap.size w W) => alive_any W d.L D.M s i g (h.grown hW).pool)
  have HW := Lib.hid (fun W (hW : Below w.heap.size w W) => dwaits_any W d c D (h.grown hW) s i g)
  have HH := Lib.hid (fun W (hW : Below w.heap.size w W) => head_any W d.L D.M (ofF c x y) (h.grown hW).pool)
  have HG := Lib.hid (fun W (hW : Below w.heap.size w W) => gen_dk W d.L D.M (ofF c x y) (headF D.M (ofF c x y)).1 (h.grown hW).pool)
  have hlt := lt_of_heap h.box
  have hltm := h.ltm
  have c0 := h.cell 0
  have c1 := h.cell 1
  have c2 := h.cell 2
  simp [deskC] at c0 c1 c2
  have m6 := MapAt.cell h.map 6
  simp at m6
  obtain ⟨p, cap, hv⟩ := sl_frm h.q
  rw [hv] at c2
  obtain ⟨w1, hw1, hb1, k0, k1, g0, g1, hsz⟩ := two_boxes w #[.int .i64 k, .int .i64 s, .int .i64 i, .int .i64 g, .int .i64 es, .int .i64 ei, .int .i64 eg, .int .i64 m, .int .i64 x, .int .i64 y, .int .i64 vx, .int .i64 vy, .int .i64 hp, .int .i64 pw, .int .i64 lf, .int .i64 mask] #[.int .i64 0, .int .i64 0, .int .i64 0, .int .i64 0, .int .i64 0, .int .i64 0, .int .i64 0, .int .i64 0, .int .i64 0, .int .i64 0, .int .i64 0, .int .i64 0, .int .i64 0, .int .i64 0, .int .i64 0, .int .i64 0] 34 34
  replace c0 := (hb1.cell (p := ⟨d.p, 0, none⟩) hlt).trans c0
  replace c1 := (hb1.cell (p := ⟨d.p, 1, none⟩) hlt).trans c1
  replace c2 := (hb1.cell (p := ⟨d.p, 2, none⟩) hlt).trans c2
  replace m6 := (hb1.cell (p := ⟨d.bm, 6, none⟩) hltm).trans m6
  replace hlt : d.p < w1.heap.size := by omega
  replace hltm : d.bm < w1.heap.size := by omega
  have s6 : w.heap.size < w1.heap.size := by omega
  have s7 : w.heap.size + 1 < w1.heap.size := by omega
  have x0 := k0 0; simp at x0
  have x1 := k0 1; simp at x1
  have x2 := k0 2; simp at x2
  have x3 := k0 3; simp at x3
  have x4 := k0 4; simp at x4
  have x5 := k0 5; simp at x5
  have x6 := k0 6; simp at x6
  have x8 := k0 8; simp at x8
  have x9 := k0 9; simp at x9
  obtain ⟨z0, z1, z2⟩ := ltz hlt
  obtain ⟨z3, z4, z5⟩ := ltz hltm
  obtain ⟨z6, z7, z8⟩ := ltz s6
  obtain ⟨z9, z10, z11⟩ := ltz s7
  have HW1 := Lib.hid hw1
  clear h hv ho hw1
  generalize hgn : genF D.M (ofF c x y) (headF D.M (ofF c x y)).1 = gn at *
  clear hgn
  generalize headF D.M (ofF c x y) = hd at *
  obtain ⟨hi, hb, he⟩ := hd
  generalize ofF c x y = zn at *
  generalize aliveF D.M s i g = al at *
  generalize endsF D.q s i g = en at *
  generalize errB (cmdB ⟨k, s, i, g, ⟨es, ei, eg, m, x, y, vx, vy, hp, pw, lf⟩, mask⟩) = cb at *
  generalize c.queue = qmax at *
  generalize D.q.length = ql at *
  subst hcb hk
  have hL : ∀ d os, (ldM ⟨w.heap.size, 0, none⟩).run Tryz.prog (more w1 d os) = .ok (.agg #[.int .i64 1, .int .i64 s, .int .i64 i, .int .i64 g, .int .i64 es, .int .i64 ei, .int .i64 eg, .int .i64 m, .int .i64 x, .int .i64 y, .int .i64 vx, .int .i64 vy, .int .i64 hp, .int .i64 pw, .int .i64 lf, .int .i64 mask]) (more w1 d os) := fun d os => ld_box ⟨1, s, i, g, ⟨es, ei, eg, m, x, y, vx, vy, hp, pw, lf⟩, mask⟩ s6 (fun j => by rw [k0 j, List.getElem?_toArray]; rfl) d os
  have hL0 : (ldM ⟨w.heap.size, 0, none⟩).run Tryz.prog w1 = .ok (.agg #[.int .i64 1, .int .i64 s, .int .i64 i, .int .i64 g, .int .i64 es, .int .i64 ei, .int .i64 eg, .int .i64 m, .int .i64 x, .int .i64 y, .int .i64 vx, .int .i64 vy, .int .i64 hp, .int .i64 pw, .int .i64 lf, .int .i64 mask]) w1 := ld_box0 ⟨1, s, i, g, ⟨es, ei, eg, m, x, y, vx, vy, hp, pw, lf⟩, mask⟩ (fun j => by rw [k0 j, List.getElem?_toArray]; rfl)
  obtain ⟨w2, hS', _, hq, hsz2, ht2⟩ := st_box w1 (w.heap.size + 1) (fun j hj => by rw [k1 j, Array.getElem?_eq_getElem (by simpa using hj)]; rfl) g1 s7 ⟨0, 0, 0, 0, ⟨0, 0, 0, 0, 0, 0, 0, 0, 0, 0, 0⟩, 0⟩
  have hS : ∀ d os, (stM ⟨w.heap.size + 1, 0, none⟩ (.agg #[.int .i64 0, .int .i64 0, .int .i64 0, .int .i64 0, .int .i64 0, .int .i64 0, .int .i64 0, .int .i64 0, .int .i64 0, .int .i64 0, .int .i64 0, .int .i64 0, .int .i64 0, .int .i64 0, .int .i64 0, .int .i64 0])).run Tryz.prog (more w1 d os) = .ok () (more w2 d os) := hS'
  have HQ := Lib.hid hq
  have s8 : w.heap.size + 1 < w2.heap.size := by omega
  have hb2 : Below w.heap.size w w2 := Turned.below_new ht2 (fun q hq => by cases hq; omega) hb1 (by omega)
  clear hS' hq hsz2 ht2
  clear k0 k1 g0 g1 hsz
  go_enter Tryz.func44, Tryz.ntmps44
  go_upto_region 1 with fail
  rw [← HW1.out]
  go_wp2_with (first | (go_at_call 82; refine (HC.out _ bg).mono ?_; rintro e w' ⟨rfl, hb⟩; obtain ⟨d, os, rfl⟩ := more_of hb; clear hb; (try rw [more_more])) | (go_at_call 83; refine (HO.out _ bg).mono ?_; rintro e w' ⟨rfl, hb⟩; obtain ⟨d, os, rfl⟩ := more_of hb; clear hb; (try rw [more_more])) | (go_at_call 84; refine (HA.out _ bg).mono ?_; rintro e w' ⟨rfl, hb⟩; obtain ⟨d, os, rfl⟩ := more_of hb; clear hb; (try rw [more_more])) | (go_at_call 85; refine (HW.out _ bg).mono ?_; rintro e w' ⟨rfl, hb⟩; obtain ⟨d, os, rfl⟩ := more_of hb; clear hb; (try rw [more_more])) | (go_at_call 86; refine (HH.out _ bg).mono ?_; rintro e w' ⟨rfl, hb⟩; obtain ⟨d, os, rfl⟩ := more_of hb; clear hb; (try rw [more_more])) | (go_at_call 87; refine (HG.out _ bg).mono ?_; rintro e w' ⟨rfl, hb⟩; obtain ⟨d, os, rfl⟩ := more_of hb; clear hb; (try rw [more_more])))
  refine wp_region_more (by kernel_rfl) (by kernel_rfl) ?_
  repeat (go_big_quiet_step ((first | (go_at_call 83; with_reducible exact more_call (HO.out _ bg)) | (go_at_call 84; with_reducible exact more_call (HA.out _ bg)))))
  refine wpQuiet_nil ?_
  rintro _ ⟨pm, rfl⟩
  (try rw [more_more])
  go_wp2_with (first | (go_at_call 82; refine (HC.out _ bg).mono ?_; rintro e w' ⟨rfl, hb⟩; obtain ⟨d, os, rfl⟩ := more_of hb; clear hb; (try rw [more_more])) | (go_at_call 83; refine (HO.out _ bg).mono ?_; rintro e w' ⟨rfl, hb⟩; obtain ⟨d, os, rfl⟩ := more_of hb; clear hb; (try rw [more_more])) | (go_at_call 84; refine (HA.out _ bg).mono ?_; rintro e w' ⟨rfl, hb⟩; obtain ⟨d, os, rfl⟩ := more_of hb; clear hb; (try rw [more_more])) | (go_at_call 85; refine (HW.out _ bg).mono ?_; rintro e w' ⟨rfl, hb⟩; obtain ⟨d, os, rfl⟩ := more_of hb; clear hb; (try rw [more_more])) | (go_at_call 86; refine (HH.out _ bg).mono ?_; rintro e w' ⟨rfl, hb⟩; obtain ⟨d, os, rfl⟩ := more_of hb; clear hb; (try rw [more_more])) | (go_at_call 87; refine (HG.out _ bg).mono ?_; rintro e w' ⟨rfl, hb⟩; obtain ⟨d, os, rfl⟩ := more_of hb; clear hb; (try rw [more_more])))
  exact bodyPost_ret (results_cm Tryz.results44 rfl rfl rfl (ld_more HQ.out s8 _ _)) rfl ⟨rfl, bg⟩

set_option maxRecDepth 100000 in
set_option maxHeartbeats 4000000 in
theorem dlook_full1 (h : DeskAt w d c D) (ho : CfgOk c) (k s i g es ei eg m x y vx vy hp pw lf mask : Int) (hcb : errB (cmdB ⟨k, s, i, g, ⟨es, ei, eg, m, x, y, vx, vy, hp, pw, lf⟩, mask⟩) = 0) (hk : k = 1) (hnw : idEq es ei eg 0 0 0 = true) (hz : ¬ ofF c x y < 0) (hf : c.queue ≤ (D.q.length : Int)) :
    Calls Tryz.prog 44 #[.pointer (some ⟨d.p, 0, none⟩), .agg #[.int .i64 k, .int .i64 s, .int .i64 i, .int .i64 g, .int .i64 es, .int .i64 ei, .int .i64 eg, .int .i64 m, .int .i64 x, .int .i64 y, .int .i64 vx, .int .i64 vy, .int .i64 hp, .int .i64 pw, .int .i64 lf, .int .i64 mask]] w fun e w' => e = .returned (.tuple #[.agg #[.int .i64 0, .int .i64 0, .int .i64 0, .int .i64 0, .int .i64 0, .int .i64 0, .int .i64 0, .int .i64 0, .int .i64 0, .int .i64 0, .int .i64 0, .int .i64 0, .int .i64 0, .int .i64 0, .int .i64 0, .int .i64 0], .bool false, .int .i64 8]) ∧ Below w.heap.size w w' := by
  have HC := Lib.hid (fun W (_ : Below w.heap.size w W) => checkCmd_any k s i g es ei eg m x y vx vy hp pw lf mask W)
  have HO := Lib.hid (fun W (hW : Below w.heap.size w W) => zof_any W d.bm c x y (MapAt.grow h.map hW) ho)
  have HA := Lib.hid (fun W (hW : Below w.heap.size w W) => alive_any W d.L D.M s i g (h.grown hW).pool)
  have HW := Lib.hid (fun W (hW : Below w.heap.size w W) => dwaits_any W d c D (h.grown hW) s i g)
  have HH := Lib.hid (fun W (hW : Below w.heap.size w W) => head_any W d.L D.M (ofF c x y) (h.grown hW).pool)
  have HG := Lib.hid (fun W (hW : Below w.heap.size w W) => gen_dk W d.L D.M (ofF c x y) (headF D.M (ofF c x y)).1 (h.grown hW).pool)
  have hlt := lt_of_heap h.box
  have hltm := h.ltm
  have c0 := h.cell 0
  have c1 := h.cell 1
  have c2 := h.cell 2
  simp [deskC] at c0 c1 c2
  have m6 := MapAt.cell h.map 6
  simp at m6
  obtain ⟨p, cap, hv⟩ := sl_frm h.q
  rw [hv] at c2
  obtain ⟨w1, hw1, hb1, k0, k1, g0, g1, hsz⟩ := two_boxes w #[.int .i64 k, .int .i64 s, .int .i64 i, .int .i64 g, .int .i64 es, .int .i64 ei, .int .i64 eg, .int .i64 m, .int .i64 x, .int .i64 y, .int .i64 vx, .int .i64 vy, .int .i64 hp, .int .i64 pw, .int .i64 lf, .int .i64 mask] #[.int .i64 0, .int .i64 0, .int .i64 0, .int .i64 0, .int .i64 0, .int .i64 0, .int .i64 0, .int .i64 0, .int .i64 0, .int .i64 0, .int .i64 0, .int .i64 0, .int .i64 0, .int .i64 0, .int .i64 0, .int .i64 0] 34 34
  replace c0 := (hb1.cell (p := ⟨d.p, 0, none⟩) hlt).trans c0
  replace c1 := (hb1.cell (p := ⟨d.p, 1, none⟩) hlt).trans c1
  replace c2 := (hb1.cell (p := ⟨d.p, 2, none⟩) hlt).trans c2
  replace m6 := (hb1.cell (p := ⟨d.bm, 6, none⟩) hltm).trans m6
  replace hlt : d.p < w1.heap.size := by omega
  replace hltm : d.bm < w1.heap.size := by omega
  have s6 : w.heap.size < w1.heap.size := by omega
  have s7 : w.heap.size + 1 < w1.heap.size := by omega
  have x0 := k0 0; simp at x0
  have x1 := k0 1; simp at x1
  have x2 := k0 2; simp at x2
  have x3 := k0 3; simp at x3
  have x4 := k0 4; simp at x4
  have x5 := k0 5; simp at x5
  have x6 := k0 6; simp at x6
  have x8 := k0 8; simp at x8
  have x9 := k0 9; simp at x9
  obtain ⟨z0, z1, z2⟩ := ltz hlt
  obtain ⟨z3, z4, z5⟩ := ltz hltm
  obtain ⟨z6, z7, z8⟩ := ltz s6
  obtain ⟨z9, z10, z11⟩ := ltz s7
  have HW1 := Lib.hid hw1
  clear h hv ho hw1
  generalize hgn : genF D.M (ofF c x y) (headF D.M (ofF c x y)).1 = gn at *
  clear hgn
  generalize headF D.M (ofF c x y) = hd at *
  obtain ⟨hi, hb, he⟩ := hd
  generalize ofF c x y = zn at *
  generalize aliveF D.M s i g = al at *
  generalize endsF D.q s i g = en at *
  generalize errB (cmdB ⟨k, s, i, g, ⟨es, ei, eg, m, x, y, vx, vy, hp, pw, lf⟩, mask⟩) = cb at *
  generalize c.queue = qmax at *
  generalize D.q.length = ql at *
  subst hcb hk
  have hL : ∀ d os, (ldM ⟨w.heap.size, 0, none⟩).run Tryz.prog (more w1 d os) = .ok (.agg #[.int .i64 1, .int .i64 s, .int .i64 i, .int .i64 g, .int .i64 es, .int .i64 ei, .int .i64 eg, .int .i64 m, .int .i64 x, .int .i64 y, .int .i64 vx, .int .i64 vy, .int .i64 hp, .int .i64 pw, .int .i64 lf, .int .i64 mask]) (more w1 d os) := fun d os => ld_box ⟨1, s, i, g, ⟨es, ei, eg, m, x, y, vx, vy, hp, pw, lf⟩, mask⟩ s6 (fun j => by rw [k0 j, List.getElem?_toArray]; rfl) d os
  have hL0 : (ldM ⟨w.heap.size, 0, none⟩).run Tryz.prog w1 = .ok (.agg #[.int .i64 1, .int .i64 s, .int .i64 i, .int .i64 g, .int .i64 es, .int .i64 ei, .int .i64 eg, .int .i64 m, .int .i64 x, .int .i64 y, .int .i64 vx, .int .i64 vy, .int .i64 hp, .int .i64 pw, .int .i64 lf, .int .i64 mask]) w1 := ld_box0 ⟨1, s, i, g, ⟨es, ei, eg, m, x, y, vx, vy, hp, pw, lf⟩, mask⟩ (fun j => by rw [k0 j, List.getElem?_toArray]; rfl)
  obtain ⟨w2, hS', _, hq, hsz2, ht2⟩ := st_box w1 (w.heap.size + 1) (fun j hj => by rw [k1 j, Array.getElem?_eq_getElem (by simpa using hj)]; rfl) g1 s7 ⟨0, 0, 0, 0, ⟨0, 0, 0, 0, 0, 0, 0, 0, 0, 0, 0⟩, 0⟩
  have hS : ∀ d os, (stM ⟨w.heap.size + 1, 0, none⟩ (.agg #[.int .i64 0, .int .i64 0, .int .i64 0, .int .i64 0, .int .i64 0, .int .i64 0, .int .i64 0, .int .i64 0, .int .i64 0, .int .i64 0, .int .i64 0, .int .i64 0, .int .i64 0, .int .i64 0, .int .i64 0, .int .i64 0])).run Tryz.prog (more w1 d os) = .ok () (more w2 d os) := hS'
  have HQ := Lib.hid hq
  have s8 : w.heap.size + 1 < w2.heap.size := by omega
  have hb2 : Below w.heap.size w w2 := Turned.below_new ht2 (fun q hq => by cases hq; omega) hb1 (by omega)
  clear hS' hq hsz2 ht2
  clear k0 k1 g0 g1 hsz
  go_enter Tryz.func44, Tryz.ntmps44
  go_upto_region 1 with fail
  rw [← HW1.out]
  go_wp2_with (first | (go_at_call 82; refine (HC.out _ bg).mono ?_; rintro e w' ⟨rfl, hb⟩; obtain ⟨d, os, rfl⟩ := more_of hb; clear hb; (try rw [more_more])) | (go_at_call 83; refine (HO.out _ bg).mono ?_; rintro e w' ⟨rfl, hb⟩; obtain ⟨d, os, rfl⟩ := more_of hb; clear hb; (try rw [more_more])) | (go_at_call 84; refine (HA.out _ bg).mono ?_; rintro e w' ⟨rfl, hb⟩; obtain ⟨d, os, rfl⟩ := more_of hb; clear hb; (try rw [more_more])) | (go_at_call 85; refine (HW.out _ bg).mono ?_; rintro e w' ⟨rfl, hb⟩; obtain ⟨d, os, rfl⟩ := more_of hb; clear hb; (try rw [more_more])) | (go_at_call 86; refine (HH.out _ bg).mono ?_; rintro e w' ⟨rfl, hb⟩; obtain ⟨d, os, rfl⟩ := more_of hb; clear hb; (try rw [more_more])) | (go_at_call 87; refine (HG.out _ bg).mono ?_; rintro e w' ⟨rfl, hb⟩; obtain ⟨d, os, rfl⟩ := more_of hb; clear hb; (try rw [more_more])))
  refine wp_region_more (by kernel_rfl) (by kernel_rfl) ?_
  repeat (go_big_quiet_step ((first | (go_at_call 83; with_reducible exact more_call (HO.out _ bg)) | (go_at_call 84; with_reducible exact more_call (HA.out _ bg)))))
  refine wpQuiet_nil ?_
  rintro _ ⟨pm, rfl⟩
  (try rw [more_more])
  go_wp2_with (first | (go_at_call 82; refine (HC.out _ bg).mono ?_; rintro e w' ⟨rfl, hb⟩; obtain ⟨d, os, rfl⟩ := more_of hb; clear hb; (try rw [more_more])) | (go_at_call 83; refine (HO.out _ bg).mono ?_; rintro e w' ⟨rfl, hb⟩; obtain ⟨d, os, rfl⟩ := more_of hb; clear hb; (try rw [more_more])) | (go_at_call 84; refine (HA.out _ bg).mono ?_; rintro e w' ⟨rfl, hb⟩; obtain ⟨d, os, rfl⟩ := more_of hb; clear hb; (try rw [more_more])) | (go_at_call 85; refine (HW.out _ bg).mono ?_; rintro e w' ⟨rfl, hb⟩; obtain ⟨d, os, rfl⟩ := more_of hb; clear hb; (try rw [more_more])) | (go_at_call 86; refine (HH.out _ bg).mono ?_; rintro e w' ⟨rfl, hb⟩; obtain ⟨d, os, rfl⟩ := more_of hb; clear hb; (try rw [more_more])) | (go_at_call 87; refine (HG.out _ bg).mono ?_; rintro e w' ⟨rfl, hb⟩; obtain ⟨d, os, rfl⟩ := more_of hb; clear hb; (try rw [more_more])))
  refine wp_region_more (by kernel_rfl) (by kernel_rfl) ?_
  repeat (go_big_quiet_step ((first | (go_at_call 83; with_reducible exact more_call (HO.out _ bg)) | (go_at_call 84; with_reducible exact more_call (HA.out _ bg)))))
  refine wpQuiet_nil ?_
  rintro _ ⟨pm, rfl⟩
  (try rw [more_more])
  go_wp2_with (first | (go_at_call 82; refine (HC.out _ bg).mono ?_; rintro e w' ⟨rfl, hb⟩; obtain ⟨d, os, rfl⟩ := more_of hb; clear hb; (try rw [more_more])) | (go_at_call 83; refine (HO.out _ bg).mono ?_; rintro e w' ⟨rfl, hb⟩; obtain ⟨d, os, rfl⟩ := more_of hb; clear hb; (try rw [more_more])) | (go_at_call 84; refine (HA.out _ bg).mono ?_; rintro e w' ⟨rfl, hb⟩; obtain ⟨d, os, rfl⟩ := more_of hb; clear hb; (try rw [more_more])) | (go_at_call 85; refine (HW.out _ bg).mono ?_; rintro e w' ⟨rfl, hb⟩; obtain ⟨d, os, rfl⟩ := more_of hb; clear hb; (try rw [more_more])) | (go_at_call 86; refine (HH.out _ bg).mono ?_; rintro e w' ⟨rfl, hb⟩; obtain ⟨d, os, rfl⟩ := more_of hb; clear hb; (try rw [more_more])) | (go_at_call 87; refine (HG.out _ bg).mono ?_; rintro e w' ⟨rfl, hb⟩; obtain ⟨d, os, rfl⟩ := more_of hb; clear hb; (try rw [more_more])))
  refine wp_region_more (by kernel_rfl) (by kernel_rfl) ?_
  repeat (go_big_quiet_step ((first | (go_at_call 83; with_reducible exact more_call (HO.out _ bg)) | (go_at_call 84; with_reducible exact more_call (HA.out _ bg)))))
  refine wpQuiet_nil ?_
  rintro _ ⟨pm, rfl⟩
  (try rw [more_more])
  go_wp2_with (first | (go_at_call 82; refine (HC.out _ bg).mono ?_; rintro e w' ⟨rfl, hb⟩; obtain ⟨d, os, rfl⟩ := more_of hb; clear hb; (try rw [more_more])) | (go_at_call 83; refine (HO.out _ bg).mono ?_; rintro e w' ⟨rfl, hb⟩; obtain ⟨d, os, rfl⟩ := more_of hb; clear hb; (try rw [more_more])) | (go_at_call 84; refine (HA.out _ bg).mono ?_; rintro e w' ⟨rfl, hb⟩; obtain ⟨d, os, rfl⟩ := more_of hb; clear hb; (try rw [more_more])) | (go_at_call 85; refine (HW.out _ bg).mono ?_; rintro e w' ⟨rfl, hb⟩; obtain ⟨d, os, rfl⟩ := more_of hb; clear hb; (try rw [more_more])) | (go_at_call 86; refine (HH.out _ bg).mono ?_; rintro e w' ⟨rfl, hb⟩; obtain ⟨d, os, rfl⟩ := more_of hb; clear hb; (try rw [more_more])) | (go_at_call 87; refine (HG.out _ bg).mono ?_; rintro e w' ⟨rfl, hb⟩; obtain ⟨d, os, rfl⟩ := more_of hb; clear hb; (try rw [more_more])))
  exact bodyPost_ret (results_cm Tryz.results44 rfl rfl rfl (ld_more HQ.out s8 _ _)) rfl ⟨rfl, bg⟩

set_option maxRecDepth 100000 in
set_option maxHeartbeats 4000000 in
theorem dlook_busy (h : DeskAt w d c D) (ho : CfgOk c) (k s i g es ei eg m x y vx vy hp pw lf mask : Int) (hcb : errB (cmdB ⟨k, s, i, g, ⟨es, ei, eg, m, x, y, vx, vy, hp, pw, lf⟩, mask⟩) = 0) (hk : k = 1) (hnw : idEq es ei eg 0 0 0 = true) (hz : ¬ ofF c x y < 0) (hf : ¬ c.queue ≤ (D.q.length : Int)) (hh : ((headF D.M (ofF c x y)).2.2 != 0) = true) :
    Calls Tryz.prog 44 #[.pointer (some ⟨d.p, 0, none⟩), .agg #[.int .i64 k, .int .i64 s, .int .i64 i, .int .i64 g, .int .i64 es, .int .i64 ei, .int .i64 eg, .int .i64 m, .int .i64 x, .int .i64 y, .int .i64 vx, .int .i64 vy, .int .i64 hp, .int .i64 pw, .int .i64 lf, .int .i64 mask]] w fun e w' => e = .returned (.tuple #[.agg #[.int .i64 0, .int .i64 0, .int .i64 0, .int .i64 0, .int .i64 0, .int .i64 0, .int .i64 0, .int .i64 0, .int .i64 0, .int .i64 0, .int .i64 0, .int .i64 0, .int .i64 0, .int .i64 0, .int .i64 0, .int .i64 0], .bool false, .int .i64 13]) ∧ Below w.heap.size w w' := by
  have HC := Lib.hid (fun W (_ : Below w.heap.size w W) => checkCmd_any k s i g es ei eg m x y vx vy hp pw lf mask W)
  have HO := Lib.hid (fun W (hW : Below w.heap.size w W) => zof_any W d.bm c x y (MapAt.grow h.map hW) ho)
  have HA := Lib.hid (fun W (hW : Below w.heap.size w W) => alive_any W d.L D.M s i g (h.grown hW).pool)
  have HW := Lib.hid (fun W (hW : Below w.heap.size w W) => dwaits_any W d c D (h.grown hW) s i g)
  have HH := Lib.hid (fun W (hW : Below w.heap.size w W) => head_any W d.L D.M (ofF c x y) (h.grown hW).pool)
  have HG := Lib.hid (fun W (hW : Below w.heap.size w W) => gen_dk W d.L D.M (ofF c x y) (headF D.M (ofF c x y)).1 (h.grown hW).pool)
  have hlt := lt_of_heap h.box
  have hltm := h.ltm
  have c0 := h.cell 0
  have c1 := h.cell 1
  have c2 := h.cell 2
  simp [deskC] at c0 c1 c2
  have m6 := MapAt.cell h.map 6
  simp at m6
  obtain ⟨p, cap, hv⟩ := sl_frm h.q
  rw [hv] at c2
  obtain ⟨w1, hw1, hb1, k0, k1, g0, g1, hsz⟩ := two_boxes w #[.int .i64 k, .int .i64 s, .int .i64 i, .int .i64 g, .int .i64 es, .int .i64 ei, .int .i64 eg, .int .i64 m, .int .i64 x, .int .i64 y, .int .i64 vx, .int .i64 vy, .int .i64 hp, .int .i64 pw, .int .i64 lf, .int .i64 mask] #[.int .i64 0, .int .i64 0, .int .i64 0, .int .i64 0, .int .i64 0, .int .i64 0, .int .i64 0, .int .i64 0, .int .i64 0, .int .i64 0, .int .i64 0, .int .i64 0, .int .i64 0, .int .i64 0, .int .i64 0, .int .i64 0] 34 34
  replace c0 := (hb1.cell (p := ⟨d.p, 0, none⟩) hlt).trans c0
  replace c1 := (hb1.cell (p := ⟨d.p, 1, none⟩) hlt).trans c1
  replace c2 := (hb1.cell (p := ⟨d.p, 2, none⟩) hlt).trans c2
  replace m6 := (hb1.cell (p := ⟨d.bm, 6, none⟩) hltm).trans m6
  replace hlt : d.p < w1.heap.size := by omega
  replace hltm : d.bm < w1.heap.size := by omega
  have s6 : w.heap.size < w1.heap.size := by omega
  have s7 : w.heap.size + 1 < w1.heap.size := by omega
  have x0 := k0 0; simp at x0
  have x1 := k0 1; simp at x1
  have x2 := k0 2; simp at x2
  have x3 := k0 3; simp at x3
  have x4 := k0 4; simp at x4
  have x5 := k0 5; simp at x5
  have x6 := k0 6; simp at x6
  have x8 := k0 8; simp at x8
  have x9 := k0 9; simp at x9
  obtain ⟨z0, z1, z2⟩ := ltz hlt
  obtain ⟨z3, z4, z5⟩ := ltz hltm
  obtain ⟨z6, z7, z8⟩ := ltz s6
  obtain ⟨z9, z10, z11⟩ := ltz s7
  have HW1 := Lib.hid hw1
  clear h hv ho hw1
  generalize hgn : genF D.M (ofF c x y) (headF D.M (ofF c x y)).1 = gn at *
  clear hgn
  generalize headF D.M (ofF c x y) = hd at *
  obtain ⟨hi, hb, he⟩ := hd
  generalize ofF c x y = zn at *
  generalize aliveF D.M s i g = al at *
  generalize endsF D.q s i g = en at *
  generalize errB (cmdB ⟨k, s, i, g, ⟨es, ei, eg, m, x, y, vx, vy, hp, pw, lf⟩, mask⟩) = cb at *
  generalize c.queue = qmax at *
  generalize D.q.length = ql at *
  subst hcb hk
  have hL : ∀ d os, (ldM ⟨w.heap.size, 0, none⟩).run Tryz.prog (more w1 d os) = .ok (.agg #[.int .i64 1, .int .i64 s, .int .i64 i, .int .i64 g, .int .i64 es, .int .i64 ei, .int .i64 eg, .int .i64 m, .int .i64 x, .int .i64 y, .int .i64 vx, .int .i64 vy, .int .i64 hp, .int .i64 pw, .int .i64 lf, .int .i64 mask]) (more w1 d os) := fun d os => ld_box ⟨1, s, i, g, ⟨es, ei, eg, m, x, y, vx, vy, hp, pw, lf⟩, mask⟩ s6 (fun j => by rw [k0 j, List.getElem?_toArray]; rfl) d os
  have hL0 : (ldM ⟨w.heap.size, 0, none⟩).run Tryz.prog w1 = .ok (.agg #[.int .i64 1, .int .i64 s, .int .i64 i, .int .i64 g, .int .i64 es, .int .i64 ei, .int .i64 eg, .int .i64 m, .int .i64 x, .int .i64 y, .int .i64 vx, .int .i64 vy, .int .i64 hp, .int .i64 pw, .int .i64 lf, .int .i64 mask]) w1 := ld_box0 ⟨1, s, i, g, ⟨es, ei, eg, m, x, y, vx, vy, hp, pw, lf⟩, mask⟩ (fun j => by rw [k0 j, List.getElem?_toArray]; rfl)
  obtain ⟨w2, hS', _, hq, hsz2, ht2⟩ := st_box w1 (w.heap.size + 1) (fun j hj => by rw [k1 j, Array.getElem?_eq_getElem (by simpa using hj)]; rfl) g1 s7 ⟨0, 0, 0, 0, ⟨0, 0, 0, 0, 0, 0, 0, 0, 0, 0, 0⟩, 0⟩
  have hS : ∀ d os, (stM ⟨w.heap.size + 1, 0, none⟩ (.agg #[.int .i64 0, .int .i64 0, .int .i64 0, .int .i64 0, .int .i64 0, .int .i64 0, .int .i64 0, .int .i64 0, .int .i64 0, .int .i64 0, .int .i64 0, .int .i64 0, .int .i64 0, .int .i64 0, .int .i64 0, .int .i64 0])).run Tryz.prog (more w1 d os) = .ok () (more w2 d os) := hS'
  have HQ := Lib.hid hq
  have s8 : w.heap.size + 1 < w2.heap.size := by omega
  have hb2 : Below w.heap.size w w2 := Turned.below_new ht2 (fun q hq => by cases hq; omega) hb1 (by omega)
  clear hS' hq hsz2 ht2
  clear k0 k1 g0 g1 hsz
  go_enter Tryz.func44, Tryz.ntmps44
  go_upto_region 1 with fail
  rw [← HW1.out]
  go_wp2_with (first | (go_at_call 82; refine (HC.out _ bg).mono ?_; rintro e w' ⟨rfl, hb⟩; obtain ⟨d, os, rfl⟩ := more_of hb; clear hb; (try rw [more_more])) | (go_at_call 83; refine (HO.out _ bg).mono ?_; rintro e w' ⟨rfl, hb⟩; obtain ⟨d, os, rfl⟩ := more_of hb; clear hb; (try rw [more_more])) | (go_at_call 84; refine (HA.out _ bg).mono ?_; rintro e w' ⟨rfl, hb⟩; obtain ⟨d, os, rfl⟩ := more_of hb; clear hb; (try rw [more_more])) | (go_at_call 85; refine (HW.out _ bg).mono ?_; rintro e w' ⟨rfl, hb⟩; obtain ⟨d, os, rfl⟩ := more_of hb; clear hb; (try rw [more_more])) | (go_at_call 86; refine (HH.out _ bg).mono ?_; rintro e w' ⟨rfl, hb⟩; obtain ⟨d, os, rfl⟩ := more_of hb; clear hb; (try rw [more_more])) | (go_at_call 87; refine (HG.out _ bg).mono ?_; rintro e w' ⟨rfl, hb⟩; obtain ⟨d, os, rfl⟩ := more_of hb; clear hb; (try rw [more_more])))
  refine wp_region_more (by kernel_rfl) (by kernel_rfl) ?_
  repeat (go_big_quiet_step ((first | (go_at_call 83; with_reducible exact more_call (HO.out _ bg)) | (go_at_call 84; with_reducible exact more_call (HA.out _ bg)))))
  refine wpQuiet_nil ?_
  rintro _ ⟨pm, rfl⟩
  (try rw [more_more])
  go_wp2_with (first | (go_at_call 82; refine (HC.out _ bg).mono ?_; rintro e w' ⟨rfl, hb⟩; obtain ⟨d, os, rfl⟩ := more_of hb; clear hb; (try rw [more_more])) | (go_at_call 83; refine (HO.out _ bg).mono ?_; rintro e w' ⟨rfl, hb⟩; obtain ⟨d, os, rfl⟩ := more_of hb; clear hb; (try rw [more_more])) | (go_at_call 84; refine (HA.out _ bg).mono ?_; rintro e w' ⟨rfl, hb⟩; obtain ⟨d, os, rfl⟩ := more_of hb; clear hb; (try rw [more_more])) | (go_at_call 85; refine (HW.out _ bg).mono ?_; rintro e w' ⟨rfl, hb⟩; obtain ⟨d, os, rfl⟩ := more_of hb; clear hb; (try rw [more_more])) | (go_at_call 86; refine (HH.out _ bg).mono ?_; rintro e w' ⟨rfl, hb⟩; obtain ⟨d, os, rfl⟩ := more_of hb; clear hb; (try rw [more_more])) | (go_at_call 87; refine (HG.out _ bg).mono ?_; rintro e w' ⟨rfl, hb⟩; obtain ⟨d, os, rfl⟩ := more_of hb; clear hb; (try rw [more_more])))
  refine wp_region_more (by kernel_rfl) (by kernel_rfl) ?_
  repeat (go_big_quiet_step ((first | (go_at_call 83; with_reducible exact more_call (HO.out _ bg)) | (go_at_call 84; with_reducible exact more_call (HA.out _ bg)))))
  refine wpQuiet_nil ?_
  rintro _ ⟨pm, rfl⟩
  (try rw [more_more])
  go_wp2_with (first | (go_at_call 82; refine (HC.out _ bg).mono ?_; rintro e w' ⟨rfl, hb⟩; obtain ⟨d, os, rfl⟩ := more_of hb; clear hb; (try rw [more_more])) | (go_at_call 83; refine (HO.out _ bg).mono ?_; rintro e w' ⟨rfl, hb⟩; obtain ⟨d, os, rfl⟩ := more_of hb; clear hb; (try rw [more_more])) | (go_at_call 84; refine (HA.out _ bg).mono ?_; rintro e w' ⟨rfl, hb⟩; obtain ⟨d, os, rfl⟩ := more_of hb; clear hb; (try rw [more_more])) | (go_at_call 85; refine (HW.out _ bg).mono ?_; rintro e w' ⟨rfl, hb⟩; obtain ⟨d, os, rfl⟩ := more_of hb; clear hb; (try rw [more_more])) | (go_at_call 86; refine (HH.out _ bg).mono ?_; rintro e w' ⟨rfl, hb⟩; obtain ⟨d, os, rfl⟩ := more_of hb; clear hb; (try rw [more_more])) | (go_at_call 87; refine (HG.out _ bg).mono ?_; rintro e w' ⟨rfl, hb⟩; obtain ⟨d, os, rfl⟩ := more_of hb; clear hb; (try rw [more_more])))
  refine wp_region_more (by kernel_rfl) (by kernel_rfl) ?_
  repeat (go_big_quiet_step ((first | (go_at_call 83; with_reducible exact more_call (HO.out _ bg)) | (go_at_call 84; with_reducible exact more_call (HA.out _ bg)))))
  refine wpQuiet_nil ?_
  rintro _ ⟨pm, rfl⟩
  (try rw [more_more])
  go_wp2_with (first | (go_at_call 82; refine (HC.out _ bg).mono ?_; rintro e w' ⟨rfl, hb⟩; obtain ⟨d, os, rfl⟩ := more_of hb; clear hb; (try rw [more_more])) | (go_at_call 83; refine (HO.out _ bg).mono ?_; rintro e w' ⟨rfl, hb⟩; obtain ⟨d, os, rfl⟩ := more_of hb; clear hb; (try rw [more_more])) | (go_at_call 84; refine (HA.out _ bg).mono ?_; rintro e w' ⟨rfl, hb⟩; obtain ⟨d, os, rfl⟩ := more_of hb; clear hb; (try rw [more_more])) | (go_at_call 85; refine (HW.out _ bg).mono ?_; rintro e w' ⟨rfl, hb⟩; obtain ⟨d, os, rfl⟩ := more_of hb; clear hb; (try rw [more_more])) | (go_at_call 86; refine (HH.out _ bg).mono ?_; rintro e w' ⟨rfl, hb⟩; obtain ⟨d, os, rfl⟩ := more_of hb; clear hb; (try rw [more_more])) | (go_at_call 87; refine (HG.out _ bg).mono ?_; rintro e w' ⟨rfl, hb⟩; obtain ⟨d, os, rfl⟩ := more_of hb; clear hb; (try rw [more_more])))
  exact bodyPost_ret (results_cm Tryz.results44 rfl rfl rfl (ld_more HQ.out s8 _ _)) rfl ⟨rfl, bg⟩

set_option maxRecDepth 100000 in
set_option maxHeartbeats 4000000 in
theorem dlook_stale (h : DeskAt w d c D) (ho : CfgOk c) (k s i g es ei eg m x y vx vy hp pw lf mask : Int) (hcb : errB (cmdB ⟨k, s, i, g, ⟨es, ei, eg, m, x, y, vx, vy, hp, pw, lf⟩, mask⟩) = 0) (hk : (k == 1) = false) (ha : aliveF D.M s i g = false) :
    Calls Tryz.prog 44 #[.pointer (some ⟨d.p, 0, none⟩), .agg #[.int .i64 k, .int .i64 s, .int .i64 i, .int .i64 g, .int .i64 es, .int .i64 ei, .int .i64 eg, .int .i64 m, .int .i64 x, .int .i64 y, .int .i64 vx, .int .i64 vy, .int .i64 hp, .int .i64 pw, .int .i64 lf, .int .i64 mask]] w fun e w' => e = .returned (.tuple #[.agg #[.int .i64 0, .int .i64 0, .int .i64 0, .int .i64 0, .int .i64 0, .int .i64 0, .int .i64 0, .int .i64 0, .int .i64 0, .int .i64 0, .int .i64 0, .int .i64 0, .int .i64 0, .int .i64 0, .int .i64 0, .int .i64 0], .bool false, .int .i64 9]) ∧ Below w.heap.size w w' := by
  have HC := Lib.hid (fun W (_ : Below w.heap.size w W) => checkCmd_any k s i g es ei eg m x y vx vy hp pw lf mask W)
  have HO := Lib.hid (fun W (hW : Below w.heap.size w W) => zof_any W d.bm c x y (MapAt.grow h.map hW) ho)
  have HA := Lib.hid (fun W (hW : Below w.heap.size w W) => alive_any W d.L D.M s i g (h.grown hW).pool)
  have HW := Lib.hid (fun W (hW : Below w.heap.size w W) => dwaits_any W d c D (h.grown hW) s i g)
  have HH := Lib.hid (fun W (hW : Below w.heap.size w W) => head_any W d.L D.M (ofF c x y) (h.grown hW).pool)
  have HG := Lib.hid (fun W (hW : Below w.heap.size w W) => gen_dk W d.L D.M (ofF c x y) (headF D.M (ofF c x y)).1 (h.grown hW).pool)
  have hlt := lt_of_heap h.box
  have hltm := h.ltm
  have c0 := h.cell 0
  have c1 := h.cell 1
  have c2 := h.cell 2
  simp [deskC] at c0 c1 c2
  have m6 := MapAt.cell h.map 6
  simp at m6
  obtain ⟨p, cap, hv⟩ := sl_frm h.q
  rw [hv] at c2
  obtain ⟨w1, hw1, hb1, k0, k1, g0, g1, hsz⟩ := two_boxes w #[.int .i64 k, .int .i64 s, .int .i64 i, .int .i64 g, .int .i64 es, .int .i64 ei, .int .i64 eg, .int .i64 m, .int .i64 x, .int .i64 y, .int .i64 vx, .int .i64 vy, .int .i64 hp, .int .i64 pw, .int .i64 lf, .int .i64 mask] #[.int .i64 0, .int .i64 0, .int .i64 0, .int .i64 0, .int .i64 0, .int .i64 0, .int .i64 0, .int .i64 0, .int .i64 0, .int .i64 0, .int .i64 0, .int .i64 0, .int .i64 0, .int .i64 0, .int .i64 0, .int .i64 0] 34 34
  replace c0 := (hb1.cell (p := ⟨d.p, 0, none⟩) hlt).trans c0
  replace c1 := (hb1.cell (p := ⟨d.p, 1, none⟩) hlt).trans c1
  replace c2 := (hb1.cell (p := ⟨d.p, 2, none⟩) hlt).trans c2
  replace m6 := (hb1.cell (p := ⟨d.bm, 6, none⟩) hltm).trans m6
  replace hlt : d.p < w1.heap.size := by omega
  replace hltm : d.bm < w1.heap.size := by omega
  have s6 : w.heap.size < w1.heap.size := by omega
  have s7 : w.heap.size + 1 < w1.heap.size := by omega
  have x0 := k0 0; simp at x0
  have x1 := k0 1; simp at x1
  have x2 := k0 2; simp at x2
  have x3 := k0 3; simp at x3
  have x4 := k0 4; simp at x4
  have x5 := k0 5; simp at x5
  have x6 := k0 6; simp at x6
  have x8 := k0 8; simp at x8
  have x9 := k0 9; simp at x9
  obtain ⟨z0, z1, z2⟩ := ltz hlt
  obtain ⟨z3, z4, z5⟩ := ltz hltm
  obtain ⟨z6, z7, z8⟩ := ltz s6
  obtain ⟨z9, z10, z11⟩ := ltz s7
  have HW1 := Lib.hid hw1
  clear h hv ho hw1
  generalize hgn : genF D.M (ofF c x y) (headF D.M (ofF c x y)).1 = gn at *
  clear hgn
  generalize headF D.M (ofF c x y) = hd at *
  obtain ⟨hi, hb, he⟩ := hd
  generalize ofF c x y = zn at *
  generalize aliveF D.M s i g = al at *
  generalize endsF D.q s i g = en at *
  generalize errB (cmdB ⟨k, s, i, g, ⟨es, ei, eg, m, x, y, vx, vy, hp, pw, lf⟩, mask⟩) = cb at *
  generalize c.queue = qmax at *
  generalize D.q.length = ql at *
  subst hcb
  subst ha
  have hL : ∀ d os, (ldM ⟨w.heap.size, 0, none⟩).run Tryz.prog (more w1 d os) = .ok (.agg #[.int .i64 k, .int .i64 s, .int .i64 i, .int .i64 g, .int .i64 es, .int .i64 ei, .int .i64 eg, .int .i64 m, .int .i64 x, .int .i64 y, .int .i64 vx, .int .i64 vy, .int .i64 hp, .int .i64 pw, .int .i64 lf, .int .i64 mask]) (more w1 d os) := fun d os => ld_box ⟨k, s, i, g, ⟨es, ei, eg, m, x, y, vx, vy, hp, pw, lf⟩, mask⟩ s6 (fun j => by rw [k0 j, List.getElem?_toArray]; rfl) d os
  have hL0 : (ldM ⟨w.heap.size, 0, none⟩).run Tryz.prog w1 = .ok (.agg #[.int .i64 k, .int .i64 s, .int .i64 i, .int .i64 g, .int .i64 es, .int .i64 ei, .int .i64 eg, .int .i64 m, .int .i64 x, .int .i64 y, .int .i64 vx, .int .i64 vy, .int .i64 hp, .int .i64 pw, .int .i64 lf, .int .i64 mask]) w1 := ld_box0 ⟨k, s, i, g, ⟨es, ei, eg, m, x, y, vx, vy, hp, pw, lf⟩, mask⟩ (fun j => by rw [k0 j, List.getElem?_toArray]; rfl)
  obtain ⟨w2, hS', _, hq, hsz2, ht2⟩ := st_box w1 (w.heap.size + 1) (fun j hj => by rw [k1 j, Array.getElem?_eq_getElem (by simpa using hj)]; rfl) g1 s7 ⟨0, 0, 0, 0, ⟨0, 0, 0, 0, 0, 0, 0, 0, 0, 0, 0⟩, 0⟩
  have hS : ∀ d os, (stM ⟨w.heap.size + 1, 0, none⟩ (.agg #[.int .i64 0, .int .i64 0, .int .i64 0, .int .i64 0, .int .i64 0, .int .i64 0, .int .i64 0, .int .i64 0, .int .i64 0, .int .i64 0, .int .i64 0, .int .i64 0, .int .i64 0, .int .i64 0, .int .i64 0, .int .i64 0])).run Tryz.prog (more w1 d os) = .ok () (more w2 d os) := hS'
  have HQ := Lib.hid hq
  have s8 : w.heap.size + 1 < w2.heap.size := by omega
  have hb2 : Below w.heap.size w w2 := Turned.below_new ht2 (fun q hq => by cases hq; omega) hb1 (by omega)
  clear hS' hq hsz2 ht2
  clear k0 k1 g0 g1 hsz
  go_enter Tryz.func44, Tryz.ntmps44
  go_upto_region 1 with fail
  rw [← HW1.out]
  go_wp2_with (first | (go_at_call 82; refine (HC.out _ bg).mono ?_; rintro e w' ⟨rfl, hb⟩; obtain ⟨d, os, rfl⟩ := more_of hb; clear hb; (try rw [more_more])) | (go_at_call 83; refine (HO.out _ bg).mono ?_; rintro e w' ⟨rfl, hb⟩; obtain ⟨d, os, rfl⟩ := more_of hb; clear hb; (try rw [more_more])) | (go_at_call 84; refine (HA.out _ bg).mono ?_; rintro e w' ⟨rfl, hb⟩; obtain ⟨d, os, rfl⟩ := more_of hb; clear hb; (try rw [more_more])) | (go_at_call 85; refine (HW.out _ bg).mono ?_; rintro e w' ⟨rfl, hb⟩; obtain ⟨d, os, rfl⟩ := more_of hb; clear hb; (try rw [more_more])) | (go_at_call 86; refine (HH.out _ bg).mono ?_; rintro e w' ⟨rfl, hb⟩; obtain ⟨d, os, rfl⟩ := more_of hb; clear hb; (try rw [more_more])) | (go_at_call 87; refine (HG.out _ bg).mono ?_; rintro e w' ⟨rfl, hb⟩; obtain ⟨d, os, rfl⟩ := more_of hb; clear hb; (try rw [more_more])))
  refine wp_region_more (by kernel_rfl) (by kernel_rfl) ?_
  repeat (go_big_quiet_step ((first | (go_at_call 83; with_reducible exact more_call (HO.out _ bg)) | (go_at_call 84; with_reducible exact more_call (HA.out _ bg)))))
  refine wpQuiet_nil ?_
  rintro _ ⟨pm, rfl⟩
  (try rw [more_more])
  go_wp2_with (first | (go_at_call 82; refine (HC.out _ bg).mono ?_; rintro e w' ⟨rfl, hb⟩; obtain ⟨d, os, rfl⟩ := more_of hb; clear hb; (try rw [more_more])) | (go_at_call 83; refine (HO.out _ bg).mono ?_; rintro e w' ⟨rfl, hb⟩; obtain ⟨d, os, rfl⟩ := more_of hb; clear hb; (try rw [more_more])) | (go_at_call 84; refine (HA.out _ bg).mono ?_; rintro e w' ⟨rfl, hb⟩; obtain ⟨d, os, rfl⟩ := more_of hb; clear hb; (try rw [more_more])) | (go_at_call 85; refine (HW.out _ bg).mono ?_; rintro e w' ⟨rfl, hb⟩; obtain ⟨d, os, rfl⟩ := more_of hb; clear hb; (try rw [more_more])) | (go_at_call 86; refine (HH.out _ bg).mono ?_; rintro e w' ⟨rfl, hb⟩; obtain ⟨d, os, rfl⟩ := more_of hb; clear hb; (try rw [more_more])) | (go_at_call 87; refine (HG.out _ bg).mono ?_; rintro e w' ⟨rfl, hb⟩; obtain ⟨d, os, rfl⟩ := more_of hb; clear hb; (try rw [more_more])))
  refine wp_region_more (by kernel_rfl) (by kernel_rfl) ?_
  repeat (go_big_quiet_step ((first | (go_at_call 83; with_reducible exact more_call (HO.out _ bg)) | (go_at_call 84; with_reducible exact more_call (HA.out _ bg)))))
  refine wpQuiet_nil ?_
  rintro _ ⟨pm, rfl⟩
  (try rw [more_more])
  go_wp2_with (first | (go_at_call 82; refine (HC.out _ bg).mono ?_; rintro e w' ⟨rfl, hb⟩; obtain ⟨d, os, rfl⟩ := more_of hb; clear hb; (try rw [more_more])) | (go_at_call 83; refine (HO.out _ bg).mono ?_; rintro e w' ⟨rfl, hb⟩; obtain ⟨d, os, rfl⟩ := more_of hb; clear hb; (try rw [more_more])) | (go_at_call 84; refine (HA.out _ bg).mono ?_; rintro e w' ⟨rfl, hb⟩; obtain ⟨d, os, rfl⟩ := more_of hb; clear hb; (try rw [more_more])) | (go_at_call 85; refine (HW.out _ bg).mono ?_; rintro e w' ⟨rfl, hb⟩; obtain ⟨d, os, rfl⟩ := more_of hb; clear hb; (try rw [more_more])) | (go_at_call 86; refine (HH.out _ bg).mono ?_; rintro e w' ⟨rfl, hb⟩; obtain ⟨d, os, rfl⟩ := more_of hb; clear hb; (try rw [more_more])) | (go_at_call 87; refine (HG.out _ bg).mono ?_; rintro e w' ⟨rfl, hb⟩; obtain ⟨d, os, rfl⟩ := more_of hb; clear hb; (try rw [more_more])))
  exact bodyPost_ret (results_cm Tryz.results44 rfl rfl rfl (ld_more HQ.out s8 _ _)) rfl ⟨rfl, bg⟩

set_option maxRecDepth 100000 in
set_option maxHeartbeats 4000000 in
theorem dlook_used (h : DeskAt w d c D) (ho : CfgOk c) (k s i g es ei eg m x y vx vy hp pw lf mask : Int) (hcb : errB (cmdB ⟨k, s, i, g, ⟨es, ei, eg, m, x, y, vx, vy, hp, pw, lf⟩, mask⟩) = 0) (hk : (k == 1) = false) (ha : aliveF D.M s i g = true) (hn : endsF D.q s i g = true) :
    Calls Tryz.prog 44 #[.pointer (some ⟨d.p, 0, none⟩), .agg #[.int .i64 k, .int .i64 s, .int .i64 i, .int .i64 g, .int .i64 es, .int .i64 ei, .int .i64 eg, .int .i64 m, .int .i64 x, .int .i64 y, .int .i64 vx, .int .i64 vy, .int .i64 hp, .int .i64 pw, .int .i64 lf, .int .i64 mask]] w fun e w' => e = .returned (.tuple #[.agg #[.int .i64 0, .int .i64 0, .int .i64 0, .int .i64 0, .int .i64 0, .int .i64 0, .int .i64 0, .int .i64 0, .int .i64 0, .int .i64 0, .int .i64 0, .int .i64 0, .int .i64 0, .int .i64 0, .int .i64 0, .int .i64 0], .bool false, .int .i64 10]) ∧ Below w.heap.size w w' := by
  have HC := Lib.hid (fun W (_ : Below w.heap.size w W) => checkCmd_any k s i g es ei eg m x y vx vy hp pw lf mask W)
  have HO := Lib.hid (fun W (hW : Below w.heap.size w W) => zof_any W d.bm c x y (MapAt.grow h.map hW) ho)
  have HA := Lib.hid (fun W (hW : Below w.heap.size w W) => alive_any W d.L D.M s i g (h.grown hW).pool)
  have HW := Lib.hid (fun W (hW : Below w.heap.size w W) => dwaits_any W d c D (h.grown hW) s i g)
  have HH := Lib.hid (fun W (hW : Below w.heap.size w W) => head_any W d.L D.M (ofF c x y) (h.grown hW).pool)
  have HG := Lib.hid (fun W (hW : Below w.heap.size w W) => gen_dk W d.L D.M (ofF c x y) (headF D.M (ofF c x y)).1 (h.grown hW).pool)
  have hlt := lt_of_heap h.box
  have hltm := h.ltm
  have c0 := h.cell 0
  have c1 := h.cell 1
  have c2 := h.cell 2
  simp [deskC] at c0 c1 c2
  have m6 := MapAt.cell h.map 6
  simp at m6
  obtain ⟨p, cap, hv⟩ := sl_frm h.q
  rw [hv] at c2
  obtain ⟨w1, hw1, hb1, k0, k1, g0, g1, hsz⟩ := two_boxes w #[.int .i64 k, .int .i64 s, .int .i64 i, .int .i64 g, .int .i64 es, .int .i64 ei, .int .i64 eg, .int .i64 m, .int .i64 x, .int .i64 y, .int .i64 vx, .int .i64 vy, .int .i64 hp, .int .i64 pw, .int .i64 lf, .int .i64 mask] #[.int .i64 0, .int .i64 0, .int .i64 0, .int .i64 0, .int .i64 0, .int .i64 0, .int .i64 0, .int .i64 0, .int .i64 0, .int .i64 0, .int .i64 0, .int .i64 0, .int .i64 0, .int .i64 0, .int .i64 0, .int .i64 0] 34 34
  replace c0 := (hb1.cell (p := ⟨d.p, 0, none⟩) hlt).trans c0
  replace c1 := (hb1.cell (p := ⟨d.p, 1, none⟩) hlt).trans c1
  replace c2 := (hb1.cell (p := ⟨d.p, 2, none⟩) hlt).trans c2
  replace m6 := (hb1.cell (p := ⟨d.bm, 6, none⟩) hltm).trans m6
  replace hlt : d.p < w1.heap.size := by omega
  replace hltm : d.bm < w1.heap.size := by omega
  have s6 : w.heap.size < w1.heap.size := by omega
  have s7 : w.heap.size + 1 < w1.heap.size := by omega
  have x0 := k0 0; simp at x0
  have x1 := k0 1; simp at x1
  have x2 := k0 2; simp at x2
  have x3 := k0 3; simp at x3
  have x4 := k0 4; simp at x4
  have x5 := k0 5; simp at x5
  have x6 := k0 6; simp at x6
  have x8 := k0 8; simp at x8
  have x9 := k0 9; simp at x9
  obtain ⟨z0, z1, z2⟩ := ltz hlt
  obtain ⟨z3, z4, z5⟩ := ltz hltm
  obtain ⟨z6, z7, z8⟩ := ltz s6
  obtain ⟨z9, z10, z11⟩ := ltz s7
  have HW1 := Lib.hid hw1
  clear h hv ho hw1
  generalize hgn : genF D.M (ofF c x y) (headF D.M (ofF c x y)).1 = gn at *
  clear hgn
  generalize headF D.M (ofF c x y) = hd at *
  obtain ⟨hi, hb, he⟩ := hd
  generalize ofF c x y = zn at *
  generalize aliveF D.M s i g = al at *
  generalize endsF D.q s i g = en at *
  generalize errB (cmdB ⟨k, s, i, g, ⟨es, ei, eg, m, x, y, vx, vy, hp, pw, lf⟩, mask⟩) = cb at *
  generalize c.queue = qmax at *
  generalize D.q.length = ql at *
  subst hcb
  subst ha hn
  have hL : ∀ d os, (ldM ⟨w.heap.size, 0, none⟩).run Tryz.prog (more w1 d os) = .ok (.agg #[.int .i64 k, .int .i64 s, .int .i64 i, .int .i64 g, .int .i64 es, .int .i64 ei, .int .i64 eg, .int .i64 m, .int .i64 x, .int .i64 y, .int .i64 vx, .int .i64 vy, .int .i64 hp, .int .i64 pw, .int .i64 lf, .int .i64 mask]) (more w1 d os) := fun d os => ld_box ⟨k, s, i, g, ⟨es, ei, eg, m, x, y, vx, vy, hp, pw, lf⟩, mask⟩ s6 (fun j => by rw [k0 j, List.getElem?_toArray]; rfl) d os
  have hL0 : (ldM ⟨w.heap.size, 0, none⟩).run Tryz.prog w1 = .ok (.agg #[.int .i64 k, .int .i64 s, .int .i64 i, .int .i64 g, .int .i64 es, .int .i64 ei, .int .i64 eg, .int .i64 m, .int .i64 x, .int .i64 y, .int .i64 vx, .int .i64 vy, .int .i64 hp, .int .i64 pw, .int .i64 lf, .int .i64 mask]) w1 := ld_box0 ⟨k, s, i, g, ⟨es, ei, eg, m, x, y, vx, vy, hp, pw, lf⟩, mask⟩ (fun j => by rw [k0 j, List.getElem?_toArray]; rfl)
  obtain ⟨w2, hS', _, hq, hsz2, ht2⟩ := st_box w1 (w.heap.size + 1) (fun j hj => by rw [k1 j, Array.getElem?_eq_getElem (by simpa using hj)]; rfl) g1 s7 ⟨0, 0, 0, 0, ⟨0, 0, 0, 0, 0, 0, 0, 0, 0, 0, 0⟩, 0⟩
  have hS : ∀ d os, (stM ⟨w.heap.size + 1, 0, none⟩ (.agg #[.int .i64 0, .int .i64 0, .int .i64 0, .int .i64 0, .int .i64 0, .int .i64 0, .int .i64 0, .int .i64 0, .int .i64 0, .int .i64 0, .int .i64 0, .int .i64 0, .int .i64 0, .int .i64 0, .int .i64 0, .int .i64 0])).run Tryz.prog (more w1 d os) = .ok () (more w2 d os) := hS'
  have HQ := Lib.hid hq
  have s8 : w.heap.size + 1 < w2.heap.size := by omega
  have hb2 : Below w.heap.size w w2 := Turned.below_new ht2 (fun q hq => by cases hq; omega) hb1 (by omega)
  clear hS' hq hsz2 ht2
  clear k0 k1 g0 g1 hsz
  go_enter Tryz.func44, Tryz.ntmps44
  go_upto_region 1 with fail
  rw [← HW1.out]
  go_wp2_with (first | (go_at_call 82; refine (HC.out _ bg).mono ?_; rintro e w' ⟨rfl, hb⟩; obtain ⟨d, os, rfl⟩ := more_of hb; clear hb; (try rw [more_more])) | (go_at_call 83; refine (HO.out _ bg).mono ?_; rintro e w' ⟨rfl, hb⟩; obtain ⟨d, os, rfl⟩ := more_of hb; clear hb; (try rw [more_more])) | (go_at_call 84; refine (HA.out _ bg).mono ?_; rintro e w' ⟨rfl, hb⟩; obtain ⟨d, os, rfl⟩ := more_of hb; clear hb; (try rw [more_more])) | (go_at_call 85; refine (HW.out _ bg).mono ?_; rintro e w' ⟨rfl, hb⟩; obtain ⟨d, os, rfl⟩ := more_of hb; clear hb; (try rw [more_more])) | (go_at_call 86; refine (HH.out _ bg).mono ?_; rintro e w' ⟨rfl, hb⟩; obtain ⟨d, os, rfl⟩ := more_of hb; clear hb; (try rw [more_more])) | (go_at_call 87; refine (HG.out _ bg).mono ?_; rintro e w' ⟨rfl, hb⟩; obtain ⟨d, os, rfl⟩ := more_of hb; clear hb; (try rw [more_more])))
  refine wp_region_more (by kernel_rfl) (by kernel_rfl) ?_
  repeat (go_big_quiet_step ((first | (go_at_call 83; with_reducible exact more_call (HO.out _ bg)) | (go_at_call 84; with_reducible exact more_call (HA.out _ bg)))))
  refine wpQuiet_nil ?_
  rintro _ ⟨pm, rfl⟩
  (try rw [more_more])
  go_wp2_with (first | (go_at_call 82; refine (HC.out _ bg).mono ?_; rintro e w' ⟨rfl, hb⟩; obtain ⟨d, os, rfl⟩ := more_of hb; clear hb; (try rw [more_more])) | (go_at_call 83; refine (HO.out _ bg).mono ?_; rintro e w' ⟨rfl, hb⟩; obtain ⟨d, os, rfl⟩ := more_of hb; clear hb; (try rw [more_more])) | (go_at_call 84; refine (HA.out _ bg).mono ?_; rintro e w' ⟨rfl, hb⟩; obtain ⟨d, os, rfl⟩ := more_of hb; clear hb; (try rw [more_more])) | (go_at_call 85; refine (HW.out _ bg).mono ?_; rintro e w' ⟨rfl, hb⟩; obtain ⟨d, os, rfl⟩ := more_of hb; clear hb; (try rw [more_more])) | (go_at_call 86; refine (HH.out _ bg).mono ?_; rintro e w' ⟨rfl, hb⟩; obtain ⟨d, os, rfl⟩ := more_of hb; clear hb; (try rw [more_more])) | (go_at_call 87; refine (HG.out _ bg).mono ?_; rintro e w' ⟨rfl, hb⟩; obtain ⟨d, os, rfl⟩ := more_of hb; clear hb; (try rw [more_more])))
  refine wp_region_more (by kernel_rfl) (by kernel_rfl) ?_
  repeat (go_big_quiet_step ((first | (go_at_call 83; with_reducible exact more_call (HO.out _ bg)) | (go_at_call 84; with_reducible exact more_call (HA.out _ bg)))))
  refine wpQuiet_nil ?_
  rintro _ ⟨pm, rfl⟩
  (try rw [more_more])
  go_wp2_with (first | (go_at_call 82; refine (HC.out _ bg).mono ?_; rintro e w' ⟨rfl, hb⟩; obtain ⟨d, os, rfl⟩ := more_of hb; clear hb; (try rw [more_more])) | (go_at_call 83; refine (HO.out _ bg).mono ?_; rintro e w' ⟨rfl, hb⟩; obtain ⟨d, os, rfl⟩ := more_of hb; clear hb; (try rw [more_more])) | (go_at_call 84; refine (HA.out _ bg).mono ?_; rintro e w' ⟨rfl, hb⟩; obtain ⟨d, os, rfl⟩ := more_of hb; clear hb; (try rw [more_more])) | (go_at_call 85; refine (HW.out _ bg).mono ?_; rintro e w' ⟨rfl, hb⟩; obtain ⟨d, os, rfl⟩ := more_of hb; clear hb; (try rw [more_more])) | (go_at_call 86; refine (HH.out _ bg).mono ?_; rintro e w' ⟨rfl, hb⟩; obtain ⟨d, os, rfl⟩ := more_of hb; clear hb; (try rw [more_more])) | (go_at_call 87; refine (HG.out _ bg).mono ?_; rintro e w' ⟨rfl, hb⟩; obtain ⟨d, os, rfl⟩ := more_of hb; clear hb; (try rw [more_more])))
  exact bodyPost_ret (results_cm Tryz.results44 rfl rfl rfl (ld_more HQ.out s8 _ _)) rfl ⟨rfl, bg⟩

set_option maxRecDepth 100000 in
set_option maxHeartbeats 4000000 in
theorem dlook_full2 (h : DeskAt w d c D) (ho : CfgOk c) (k s i g es ei eg m x y vx vy hp pw lf mask : Int) (hcb : errB (cmdB ⟨k, s, i, g, ⟨es, ei, eg, m, x, y, vx, vy, hp, pw, lf⟩, mask⟩) = 0) (hk : (k == 1) = false) (ha : aliveF D.M s i g = true) (hn : endsF D.q s i g = false) (hf : c.queue ≤ (D.q.length : Int)) :
    Calls Tryz.prog 44 #[.pointer (some ⟨d.p, 0, none⟩), .agg #[.int .i64 k, .int .i64 s, .int .i64 i, .int .i64 g, .int .i64 es, .int .i64 ei, .int .i64 eg, .int .i64 m, .int .i64 x, .int .i64 y, .int .i64 vx, .int .i64 vy, .int .i64 hp, .int .i64 pw, .int .i64 lf, .int .i64 mask]] w fun e w' => e = .returned (.tuple #[.agg #[.int .i64 0, .int .i64 0, .int .i64 0, .int .i64 0, .int .i64 0, .int .i64 0, .int .i64 0, .int .i64 0, .int .i64 0, .int .i64 0, .int .i64 0, .int .i64 0, .int .i64 0, .int .i64 0, .int .i64 0, .int .i64 0], .bool false, .int .i64 8]) ∧ Below w.heap.size w w' := by
  have HC := Lib.hid (fun W (_ : Below w.heap.size w W) => checkCmd_any k s i g es ei eg m x y vx vy hp pw lf mask W)
  have HO := Lib.hid (fun W (hW : Below w.heap.size w W) => zof_any W d.bm c x y (MapAt.grow h.map hW) ho)
  have HA := Lib.hid (fun W (hW : Below w.heap.size w W) => alive_any W d.L D.M s i g (h.grown hW).pool)
  have HW := Lib.hid (fun W (hW : Below w.heap.size w W) => dwaits_any W d c D (h.grown hW) s i g)
  have HH := Lib.hid (fun W (hW : Below w.heap.size w W) => head_any W d.L D.M (ofF c x y) (h.grown hW).pool)
  have HG := Lib.hid (fun W (hW : Below w.heap.size w W) => gen_dk W d.L D.M (ofF c x y) (headF D.M (ofF c x y)).1 (h.grown hW).pool)
  have hlt := lt_of_heap h.box
  have hltm := h.ltm
  have c0 := h.cell 0
  have c1 := h.cell 1
  have c2 := h.cell 2
  simp [deskC] at c0 c1 c2
  have m6 := MapAt.cell h.map 6
  simp at m6
  obtain ⟨p, cap, hv⟩ := sl_frm h.q
  rw [hv] at c2
  obtain ⟨w1, hw1, hb1, k0, k1, g0, g1, hsz⟩ := two_boxes w #[.int .i64 k, .int .i64 s, .int .i64 i, .int .i64 g, .int .i64 es, .int .i64 ei, .int .i64 eg, .int .i64 m, .int .i64 x, .int .i64 y, .int .i64 vx, .int .i64 vy, .int .i64 hp, .int .i64 pw, .int .i64 lf, .int .i64 mask] #[.int .i64 0, .int .i64 0, .int .i64 0, .int .i64 0, .int .i64 0, .int .i64 0, .int .i64 0, .int .i64 0, .int .i64 0, .int .i64 0, .int .i64 0, .int .i64 0, .int .i64 0, .int .i64 0, .int .i64 0, .int .i64 0] 34 34
  replace c0 := (hb1.cell (p := ⟨d.p, 0, none⟩) hlt).trans c0
  replace c1 := (hb1.cell (p := ⟨d.p, 1, none⟩) hlt).trans c1
  replace c2 := (hb1.cell (p := ⟨d.p, 2, none⟩) hlt).trans c2
  replace m6 := (hb1.cell (p := ⟨d.bm, 6, none⟩) hltm).trans m6
  replace hlt : d.p < w1.heap.size := by omega
  replace hltm : d.bm < w1.heap.size := by omega
  have s6 : w.heap.size < w1.heap.size := by omega
  have s7 : w.heap.size + 1 < w1.heap.size := by omega
  have x0 := k0 0; simp at x0
  have x1 := k0 1; simp at x1
  have x2 := k0 2; simp at x2
  have x3 := k0 3; simp at x3
  have x4 := k0 4; simp at x4
  have x5 := k0 5; simp at x5
  have x6 := k0 6; simp at x6
  have x8 := k0 8; simp at x8
  have x9 := k0 9; simp at x9
  obtain ⟨z0, z1, z2⟩ := ltz hlt
  obtain ⟨z3, z4, z5⟩ := ltz hltm
  obtain ⟨z6, z7, z8⟩ := ltz s6
  obtain ⟨z9, z10, z11⟩ := ltz s7
  have HW1 := Lib.hid hw1
  clear h hv ho hw1
  generalize hgn : genF D.M (ofF c x y) (headF D.M (ofF c x y)).1 = gn at *
  clear hgn
  generalize headF D.M (ofF c x y) = hd at *
  obtain ⟨hi, hb, he⟩ := hd
  generalize ofF c x y = zn at *
  generalize aliveF D.M s i g = al at *
  generalize endsF D.q s i g = en at *
  generalize errB (cmdB ⟨k, s, i, g, ⟨es, ei, eg, m, x, y, vx, vy, hp, pw, lf⟩, mask⟩) = cb at *
  generalize c.queue = qmax at *
  generalize D.q.length = ql at *
  subst hcb
  subst ha hn
  have hL : ∀ d os, (ldM ⟨w.heap.size, 0, none⟩).run Tryz.prog (more w1 d os) = .ok (.agg #[.int .i64 k, .int .i64 s, .int .i64 i, .int .i64 g, .int .i64 es, .int .i64 ei, .int .i64 eg, .int .i64 m, .int .i64 x, .int .i64 y, .int .i64 vx, .int .i64 vy, .int .i64 hp, .int .i64 pw, .int .i64 lf, .int .i64 mask]) (more w1 d os) := fun d os => ld_box ⟨k, s, i, g, ⟨es, ei, eg, m, x, y, vx, vy, hp, pw, lf⟩, mask⟩ s6 (fun j => by rw [k0 j, List.getElem?_toArray]; rfl) d os
  have hL0 : (ldM ⟨w.heap.size, 0, none⟩).run Tryz.prog w1 = .ok (.agg #[.int .i64 k, .int .i64 s, .int .i64 i, .int .i64 g, .int .i64 es, .int .i64 ei, .int .i64 eg, .int .i64 m, .int .i64 x, .int .i64 y, .int .i64 vx, .int .i64 vy, .int .i64 hp, .int .i64 pw, .int .i64 lf, .int .i64 mask]) w1 := ld_box0 ⟨k, s, i, g, ⟨es, ei, eg, m, x, y, vx, vy, hp, pw, lf⟩, mask⟩ (fun j => by rw [k0 j, List.getElem?_toArray]; rfl)
  obtain ⟨w2, hS', _, hq, hsz2, ht2⟩ := st_box w1 (w.heap.size + 1) (fun j hj => by rw [k1 j, Array.getElem?_eq_getElem (by simpa using hj)]; rfl) g1 s7 ⟨0, 0, 0, 0, ⟨0, 0, 0, 0, 0, 0, 0, 0, 0, 0, 0⟩, 0⟩
  have hS : ∀ d os, (stM ⟨w.heap.size + 1, 0, none⟩ (.agg #[.int .i64 0, .int .i64 0, .int .i64 0, .int .i64 0, .int .i64 0, .int .i64 0, .int .i64 0, .int .i64 0, .int .i64 0, .int .i64 0, .int .i64 0, .int .i64 0, .int .i64 0, .int .i64 0, .int .i64 0, .int .i64 0])).run Tryz.prog (more w1 d os) = .ok () (more w2 d os) := hS'
  have HQ := Lib.hid hq
  have s8 : w.heap.size + 1 < w2.heap.size := by omega
  have hb2 : Below w.heap.size w w2 := Turned.below_new ht2 (fun q hq => by cases hq; omega) hb1 (by omega)
  clear hS' hq hsz2 ht2
  clear k0 k1 g0 g1 hsz
  go_enter Tryz.func44, Tryz.ntmps44
  go_upto_region 1 with fail
  rw [← HW1.out]
  go_wp2_with (first | (go_at_call 82; refine (HC.out _ bg).mono ?_; rintro e w' ⟨rfl, hb⟩; obtain ⟨d, os, rfl⟩ := more_of hb; clear hb; (try rw [more_more])) | (go_at_call 83; refine (HO.out _ bg).mono ?_; rintro e w' ⟨rfl, hb⟩; obtain ⟨d, os, rfl⟩ := more_of hb; clear hb; (try rw [more_more])) | (go_at_call 84; refine (HA.out _ bg).mono ?_; rintro e w' ⟨rfl, hb⟩; obtain ⟨d, os, rfl⟩ := more_of hb; clear hb; (try rw [more_more])) | (go_at_call 85; refine (HW.out _ bg).mono ?_; rintro e w' ⟨rfl, hb⟩; obtain ⟨d, os, rfl⟩ := more_of hb; clear hb; (try rw [more_more])) | (go_at_call 86; refine (HH.out _ bg).mono ?_; rintro e w' ⟨rfl, hb⟩; obtain ⟨d, os, rfl⟩ := more_of hb; clear hb; (try rw [more_more])) | (go_at_call 87; refine (HG.out _ bg).mono ?_; rintro e w' ⟨rfl, hb⟩; obtain ⟨d, os, rfl⟩ := more_of hb; clear hb; (try rw [more_more])))
  refine wp_region_more (by kernel_rfl) (by kernel_rfl) ?_
  repeat (go_big_quiet_step ((first | (go_at_call 83; with_reducible exact more_call (HO.out _ bg)) | (go_at_call 84; with_reducible exact more_call (HA.out _ bg)))))
  refine wpQuiet_nil ?_
  rintro _ ⟨pm, rfl⟩
  (try rw [more_more])
  go_wp2_with (first | (go_at_call 82; refine (HC.out _ bg).mono ?_; rintro e w' ⟨rfl, hb⟩; obtain ⟨d, os, rfl⟩ := more_of hb; clear hb; (try rw [more_more])) | (go_at_call 83; refine (HO.out _ bg).mono ?_; rintro e w' ⟨rfl, hb⟩; obtain ⟨d, os, rfl⟩ := more_of hb; clear hb; (try rw [more_more])) | (go_at_call 84; refine (HA.out _ bg).mono ?_; rintro e w' ⟨rfl, hb⟩; obtain ⟨d, os, rfl⟩ := more_of hb; clear hb; (try rw [more_more])) | (go_at_call 85; refine (HW.out _ bg).mono ?_; rintro e w' ⟨rfl, hb⟩; obtain ⟨d, os, rfl⟩ := more_of hb; clear hb; (try rw [more_more])) | (go_at_call 86; refine (HH.out _ bg).mono ?_; rintro e w' ⟨rfl, hb⟩; obtain ⟨d, os, rfl⟩ := more_of hb; clear hb; (try rw [more_more])) | (go_at_call 87; refine (HG.out _ bg).mono ?_; rintro e w' ⟨rfl, hb⟩; obtain ⟨d, os, rfl⟩ := more_of hb; clear hb; (try rw [more_more])))
  refine wp_region_more (by kernel_rfl) (by kernel_rfl) ?_
  repeat (go_big_quiet_step ((first | (go_at_call 83; with_reducible exact more_call (HO.out _ bg)) | (go_at_call 84; with_reducible exact more_call (HA.out _ bg)))))
  refine wpQuiet_nil ?_
  rintro _ ⟨pm, rfl⟩
  (try rw [more_more])
  go_wp2_with (first | (go_at_call 82; refine (HC.out _ bg).mono ?_; rintro e w' ⟨rfl, hb⟩; obtain ⟨d, os, rfl⟩ := more_of hb; clear hb; (try rw [more_more])) | (go_at_call 83; refine (HO.out _ bg).mono ?_; rintro e w' ⟨rfl, hb⟩; obtain ⟨d, os, rfl⟩ := more_of hb; clear hb; (try rw [more_more])) | (go_at_call 84; refine (HA.out _ bg).mono ?_; rintro e w' ⟨rfl, hb⟩; obtain ⟨d, os, rfl⟩ := more_of hb; clear hb; (try rw [more_more])) | (go_at_call 85; refine (HW.out _ bg).mono ?_; rintro e w' ⟨rfl, hb⟩; obtain ⟨d, os, rfl⟩ := more_of hb; clear hb; (try rw [more_more])) | (go_at_call 86; refine (HH.out _ bg).mono ?_; rintro e w' ⟨rfl, hb⟩; obtain ⟨d, os, rfl⟩ := more_of hb; clear hb; (try rw [more_more])) | (go_at_call 87; refine (HG.out _ bg).mono ?_; rintro e w' ⟨rfl, hb⟩; obtain ⟨d, os, rfl⟩ := more_of hb; clear hb; (try rw [more_more])))
  refine wp_region_more (by kernel_rfl) (by kernel_rfl) ?_
  repeat (go_big_quiet_step ((first | (go_at_call 83; with_reducible exact more_call (HO.out _ bg)) | (go_at_call 84; with_reducible exact more_call (HA.out _ bg)))))
  refine wpQuiet_nil ?_
  rintro _ ⟨pm, rfl⟩
  (try rw [more_more])
  go_wp2_with (first | (go_at_call 82; refine (HC.out _ bg).mono ?_; rintro e w' ⟨rfl, hb⟩; obtain ⟨d, os, rfl⟩ := more_of hb; clear hb; (try rw [more_more])) | (go_at_call 83; refine (HO.out _ bg).mono ?_; rintro e w' ⟨rfl, hb⟩; obtain ⟨d, os, rfl⟩ := more_of hb; clear hb; (try rw [more_more])) | (go_at_call 84; refine (HA.out _ bg).mono ?_; rintro e w' ⟨rfl, hb⟩; obtain ⟨d, os, rfl⟩ := more_of hb; clear hb; (try rw [more_more])) | (go_at_call 85; refine (HW.out _ bg).mono ?_; rintro e w' ⟨rfl, hb⟩; obtain ⟨d, os, rfl⟩ := more_of hb; clear hb; (try rw [more_more])) | (go_at_call 86; refine (HH.out _ bg).mono ?_; rintro e w' ⟨rfl, hb⟩; obtain ⟨d, os, rfl⟩ := more_of hb; clear hb; (try rw [more_more])) | (go_at_call 87; refine (HG.out _ bg).mono ?_; rintro e w' ⟨rfl, hb⟩; obtain ⟨d, os, rfl⟩ := more_of hb; clear hb; (try rw [more_more])))
  exact bodyPost_ret (results_cm Tryz.results44 rfl rfl rfl (ld_more HQ.out s8 _ _)) rfl ⟨rfl, bg⟩

set_option maxRecDepth 100000 in
set_option maxHeartbeats 4000000 in
theorem dlook_ok2 (h : DeskAt w d c D) (ho : CfgOk c) (k s i g es ei eg m x y vx vy hp pw lf mask : Int) (hcb : errB (cmdB ⟨k, s, i, g, ⟨es, ei, eg, m, x, y, vx, vy, hp, pw, lf⟩, mask⟩) = 0) (hk : (k == 1) = false) (ha : aliveF D.M s i g = true) (hn : endsF D.q s i g = false) (hf : ¬ c.queue ≤ (D.q.length : Int)) :
    Calls Tryz.prog 44 #[.pointer (some ⟨d.p, 0, none⟩), .agg #[.int .i64 k, .int .i64 s, .int .i64 i, .int .i64 g, .int .i64 es, .int .i64 ei, .int .i64 eg, .int .i64 m, .int .i64 x, .int .i64 y, .int .i64 vx, .int .i64 vy, .int .i64 hp, .int .i64 pw, .int .i64 lf, .int .i64 mask]] w fun e w' => e = .returned (.tuple #[.agg #[.int .i64 k, .int .i64 s, .int .i64 i, .int .i64 g, .int .i64 es, .int .i64 ei, .int .i64 eg, .int .i64 m, .int .i64 x, .int .i64 y, .int .i64 vx, .int .i64 vy, .int .i64 hp, .int .i64 pw, .int .i64 lf, .int .i64 mask], .bool false, .int .i64 0]) ∧ Below w.heap.size w w' := by
  have HC := Lib.hid (fun W (_ : Below w.heap.size w W) => checkCmd_any k s i g es ei eg m x y vx vy hp pw lf mask W)
  have HO := Lib.hid (fun W (hW : Below w.heap.size w W) => zof_any W d.bm c x y (MapAt.grow h.map hW) ho)
  have HA := Lib.hid (fun W (hW : Below w.heap.size w W) => alive_any W d.L D.M s i g (h.grown hW).pool)
  have HW := Lib.hid (fun W (hW : Below w.heap.size w W) => dwaits_any W d c D (h.grown hW) s i g)
  have HH := Lib.hid (fun W (hW : Below w.heap.size w W) => head_any W d.L D.M (ofF c x y) (h.grown hW).pool)
  have HG := Lib.hid (fun W (hW : Below w.heap.size w W) => gen_dk W d.L D.M (ofF c x y) (headF D.M (ofF c x y)).1 (h.grown hW).pool)
  have hlt := lt_of_heap h.box
  have hltm := h.ltm
  have c0 := h.cell 0
  have c1 := h.cell 1
  have c2 := h.cell 2
  simp [deskC] at c0 c1 c2
  have m6 := MapAt.cell h.map 6
  simp at m6
  obtain ⟨p, cap, hv⟩ := sl_frm h.q
  rw [hv] at c2
  obtain ⟨w1, hw1, hb1, k0, k1, g0, g1, hsz⟩ := two_boxes w #[.int .i64 k, .int .i64 s, .int .i64 i, .int .i64 g, .int .i64 es, .int .i64 ei, .int .i64 eg, .int .i64 m, .int .i64 x, .int .i64 y, .int .i64 vx, .int .i64 vy, .int .i64 hp, .int .i64 pw, .int .i64 lf, .int .i64 mask] #[.int .i64 0, .int .i64 0, .int .i64 0, .int .i64 0, .int .i64 0, .int .i64 0, .int .i64 0, .int .i64 0, .int .i64 0, .int .i64 0, .int .i64 0, .int .i64 0, .int .i64 0, .int .i64 0, .int .i64 0, .int .i64 0] 34 34
  replace c0 := (hb1.cell (p := ⟨d.p, 0, none⟩) hlt).trans c0
  replace c1 := (hb1.cell (p := ⟨d.p, 1, none⟩) hlt).trans c1
  replace c2 := (hb1.cell (p := ⟨d.p, 2, none⟩) hlt).trans c2
  replace m6 := (hb1.cell (p := ⟨d.bm, 6, none⟩) hltm).trans m6
  replace hlt : d.p < w1.heap.size := by omega
  replace hltm : d.bm < w1.heap.size := by omega
  have s6 : w.heap.size < w1.heap.size := by omega
  have s7 : w.heap.size + 1 < w1.heap.size := by omega
  have x0 := k0 0; simp at x0
  have x1 := k0 1; simp at x1
  have x2 := k0 2; simp at x2
  have x3 := k0 3; simp at x3
  have x4 := k0 4; simp at x4
  have x5 := k0 5; simp at x5
  have x6 := k0 6; simp at x6
  have x8 := k0 8; simp at x8
  have x9 := k0 9; simp at x9
  obtain ⟨z0, z1, z2⟩ := ltz hlt
  obtain ⟨z3, z4, z5⟩ := ltz hltm
  obtain ⟨z6, z7, z8⟩ := ltz s6
  obtain ⟨z9, z10, z11⟩ := ltz s7
  have HW1 := Lib.hid hw1
  clear h hv ho hw1
  generalize hgn : genF D.M (ofF c x y) (headF D.M (ofF c x y)).1 = gn at *
  clear hgn
  generalize headF D.M (ofF c x y) = hd at *
  obtain ⟨hi, hb, he⟩ := hd
  generalize ofF c x y = zn at *
  generalize aliveF D.M s i g = al at *
  generalize endsF D.q s i g = en at *
  generalize errB (cmdB ⟨k, s, i, g, ⟨es, ei, eg, m, x, y, vx, vy, hp, pw, lf⟩, mask⟩) = cb at *
  generalize c.queue = qmax at *
  generalize D.q.length = ql at *
  subst hcb
  subst ha hn
  have hL : ∀ d os, (ldM ⟨w.heap.size, 0, none⟩).run Tryz.prog (more w1 d os) = .ok (.agg #[.int .i64 k, .int .i64 s, .int .i64 i, .int .i64 g, .int .i64 es, .int .i64 ei, .int .i64 eg, .int .i64 m, .int .i64 x, .int .i64 y, .int .i64 vx, .int .i64 vy, .int .i64 hp, .int .i64 pw, .int .i64 lf, .int .i64 mask]) (more w1 d os) := fun d os => ld_box ⟨k, s, i, g, ⟨es, ei, eg, m, x, y, vx, vy, hp, pw, lf⟩, mask⟩ s6 (fun j => by rw [k0 j, List.getElem?_toArray]; rfl) d os
  have hL0 : (ldM ⟨w.heap.size, 0, none⟩).run Tryz.prog w1 = .ok (.agg #[.int .i64 k, .int .i64 s, .int .i64 i, .int .i64 g, .int .i64 es, .int .i64 ei, .int .i64 eg, .int .i64 m, .int .i64 x, .int .i64 y, .int .i64 vx, .int .i64 vy, .int .i64 hp, .int .i64 pw, .int .i64 lf, .int .i64 mask]) w1 := ld_box0 ⟨k, s, i, g, ⟨es, ei, eg, m, x, y, vx, vy, hp, pw, lf⟩, mask⟩ (fun j => by rw [k0 j, List.getElem?_toArray]; rfl)
  obtain ⟨w2, hS', _, hq, hsz2, ht2⟩ := st_box w1 (w.heap.size + 1) (fun j hj => by rw [k1 j, Array.getElem?_eq_getElem (by simpa using hj)]; rfl) g1 s7 ⟨k, s, i, g, ⟨es, ei, eg, m, x, y, vx, vy, hp, pw, lf⟩, mask⟩
  have hS : ∀ d os, (stM ⟨w.heap.size + 1, 0, none⟩ (.agg #[.int .i64 k, .int .i64 s, .int .i64 i, .int .i64 g, .int .i64 es, .int .i64 ei, .int .i64 eg, .int .i64 m, .int .i64 x, .int .i64 y, .int .i64 vx, .int .i64 vy, .int .i64 hp, .int .i64 pw, .int .i64 lf, .int .i64 mask])).run Tryz.prog (more w1 d os) = .ok () (more w2 d os) := hS'
  have HQ := Lib.hid hq
  have s8 : w.heap.size + 1 < w2.heap.size := by omega
  have hb2 : Below w.heap.size w w2 := Turned.below_new ht2 (fun q hq => by cases hq; omega) hb1 (by omega)
  clear hS' hq hsz2 ht2
  clear k0 k1 g0 g1 hsz
  go_enter Tryz.func44, Tryz.ntmps44
  go_upto_region 1 with fail
  rw [← HW1.out]
  go_wp2_with (first | (go_at_call 82; refine (HC.out _ bg).mono ?_; rintro e w' ⟨rfl, hb⟩; obtain ⟨d, os, rfl⟩ := more_of hb; clear hb; (try rw [more_more])) | (go_at_call 83; refine (HO.out _ bg).mono ?_; rintro e w' ⟨rfl, hb⟩; obtain ⟨d, os, rfl⟩ := more_of hb; clear hb; (try rw [more_more])) | (go_at_call 84; refine (HA.out _ bg).mono ?_; rintro e w' ⟨rfl, hb⟩; obtain ⟨d, os, rfl⟩ := more_of hb; clear hb; (try rw [more_more])) | (go_at_call 85; refine (HW.out _ bg).mono ?_; rintro e w' ⟨rfl, hb⟩; obtain ⟨d, os, rfl⟩ := more_of hb; clear hb; (try rw [more_more])) | (go_at_call 86; refine (HH.out _ bg).mono ?_; rintro e w' ⟨rfl, hb⟩; obtain ⟨d, os, rfl⟩ := more_of hb; clear hb; (try rw [more_more])) | (go_at_call 87; refine (HG.out _ bg).mono ?_; rintro e w' ⟨rfl, hb⟩; obtain ⟨d, os, rfl⟩ := more_of hb; clear hb; (try rw [more_more])))
  refine wp_region_more (by kernel_rfl) (by kernel_rfl) ?_
  repeat (go_big_quiet_step ((first | (go_at_call 83; with_reducible exact more_call (HO.out _ bg)) | (go_at_call 84; with_reducible exact more_call (HA.out _ bg)))))
  refine wpQuiet_nil ?_
  rintro _ ⟨pm, rfl⟩
  (try rw [more_more])
  go_wp2_with (first | (go_at_call 82; refine (HC.out _ bg).mono ?_; rintro e w' ⟨rfl, hb⟩; obtain ⟨d, os, rfl⟩ := more_of hb; clear hb; (try rw [more_more])) | (go_at_call 83; refine (HO.out _ bg).mono ?_; rintro e w' ⟨rfl, hb⟩; obtain ⟨d, os, rfl⟩ := more_of hb; clear hb; (try rw [more_more])) | (go_at_call 84; refine (HA.out _ bg).mono ?_; rintro e w' ⟨rfl, hb⟩; obtain ⟨d, os, rfl⟩ := more_of hb; clear hb; (try rw [more_more])) | (go_at_call 85; refine (HW.out _ bg).mono ?_; rintro e w' ⟨rfl, hb⟩; obtain ⟨d, os, rfl⟩ := more_of hb; clear hb; (try rw [more_more])) | (go_at_call 86; refine (HH.out _ bg).mono ?_; rintro e w' ⟨rfl, hb⟩; obtain ⟨d, os, rfl⟩ := more_of hb; clear hb; (try rw [more_more])) | (go_at_call 87; refine (HG.out _ bg).mono ?_; rintro e w' ⟨rfl, hb⟩; obtain ⟨d, os, rfl⟩ := more_of hb; clear hb; (try rw [more_more])))
  refine wp_region_more (by kernel_rfl) (by kernel_rfl) ?_
  repeat (go_big_quiet_step ((first | (go_at_call 83; with_reducible exact more_call (HO.out _ bg)) | (go_at_call 84; with_reducible exact more_call (HA.out _ bg)))))
  refine wpQuiet_nil ?_
  rintro _ ⟨pm, rfl⟩
  (try rw [more_more])
  go_wp2_with (first | (go_at_call 82; refine (HC.out _ bg).mono ?_; rintro e w' ⟨rfl, hb⟩; obtain ⟨d, os, rfl⟩ := more_of hb; clear hb; (try rw [more_more])) | (go_at_call 83; refine (HO.out _ bg).mono ?_; rintro e w' ⟨rfl, hb⟩; obtain ⟨d, os, rfl⟩ := more_of hb; clear hb; (try rw [more_more])) | (go_at_call 84; refine (HA.out _ bg).mono ?_; rintro e w' ⟨rfl, hb⟩; obtain ⟨d, os, rfl⟩ := more_of hb; clear hb; (try rw [more_more])) | (go_at_call 85; refine (HW.out _ bg).mono ?_; rintro e w' ⟨rfl, hb⟩; obtain ⟨d, os, rfl⟩ := more_of hb; clear hb; (try rw [more_more])) | (go_at_call 86; refine (HH.out _ bg).mono ?_; rintro e w' ⟨rfl, hb⟩; obtain ⟨d, os, rfl⟩ := more_of hb; clear hb; (try rw [more_more])) | (go_at_call 87; refine (HG.out _ bg).mono ?_; rintro e w' ⟨rfl, hb⟩; obtain ⟨d, os, rfl⟩ := more_of hb; clear hb; (try rw [more_more])))
  refine wp_region_more (by kernel_rfl) (by kernel_rfl) ?_
  repeat (go_big_quiet_step ((first | (go_at_call 83; with_reducible exact more_call (HO.out _ bg)) | (go_at_call 84; with_reducible exact more_call (HA.out _ bg)))))
  refine wpQuiet_nil ?_
  rintro _ ⟨pm, rfl⟩
  (try rw [more_more])
  go_wp2_with (first | (go_at_call 82; refine (HC.out _ bg).mono ?_; rintro e w' ⟨rfl, hb⟩; obtain ⟨d, os, rfl⟩ := more_of hb; clear hb; (try rw [more_more])) | (go_at_call 83; refine (HO.out _ bg).mono ?_; rintro e w' ⟨rfl, hb⟩; obtain ⟨d, os, rfl⟩ := more_of hb; clear hb; (try rw [more_more])) | (go_at_call 84; refine (HA.out _ bg).mono ?_; rintro e w' ⟨rfl, hb⟩; obtain ⟨d, os, rfl⟩ := more_of hb; clear hb; (try rw [more_more])) | (go_at_call 85; refine (HW.out _ bg).mono ?_; rintro e w' ⟨rfl, hb⟩; obtain ⟨d, os, rfl⟩ := more_of hb; clear hb; (try rw [more_more])) | (go_at_call 86; refine (HH.out _ bg).mono ?_; rintro e w' ⟨rfl, hb⟩; obtain ⟨d, os, rfl⟩ := more_of hb; clear hb; (try rw [more_more])) | (go_at_call 87; refine (HG.out _ bg).mono ?_; rintro e w' ⟨rfl, hb⟩; obtain ⟨d, os, rfl⟩ := more_of hb; clear hb; (try rw [more_more])))
  exact bodyPost_ret (results_cm Tryz.results44 rfl rfl rfl (ld_more HQ.out s8 _ _)) rfl ⟨rfl, bg⟩

set_option maxRecDepth 100000 in
set_option maxHeartbeats 4000000 in
theorem dlook_ok1 (h : DeskAt w d c D) (ho : CfgOk c) (k s i g es ei eg m x y vx vy hp pw lf mask : Int) (hcb : errB (cmdB ⟨k, s, i, g, ⟨es, ei, eg, m, x, y, vx, vy, hp, pw, lf⟩, mask⟩) = 0) (hk : k = 1) (hnw : idEq es ei eg 0 0 0 = true) (hz : ¬ ofF c x y < 0) (hf : ¬ c.queue ≤ (D.q.length : Int)) (hh : (headF D.M (ofF c x y)).2.2 = 0) :
    Calls Tryz.prog 44 #[.pointer (some ⟨d.p, 0, none⟩), .agg #[.int .i64 k, .int .i64 s, .int .i64 i, .int .i64 g, .int .i64 es, .int .i64 ei, .int .i64 eg, .int .i64 m, .int .i64 x, .int .i64 y, .int .i64 vx, .int .i64 vy, .int .i64 hp, .int .i64 pw, .int .i64 lf, .int .i64 mask]] w fun e w' => e = .returned (.tuple #[.agg #[.int .i64 k, .int .i64 s, .int .i64 i, .int .i64 g, .int .i64 (ofF c x y), .int .i64 (headF D.M (ofF c x y)).1, .int .i64 (genF D.M (ofF c x y) (headF D.M (ofF c x y)).1), .int .i64 m, .int .i64 x, .int .i64 y, .int .i64 vx, .int .i64 vy, .int .i64 hp, .int .i64 pw, .int .i64 lf, .int .i64 mask], .bool (!(headF D.M (ofF c x y)).2.1), .int .i64 0]) ∧ Below w.heap.size w w' := by
  have HC := Lib.hid (fun W (_ : Below w.heap.size w W) => checkCmd_any k s i g es ei eg m x y vx vy hp pw lf mask W)
  have HO := Lib.hid (fun W (hW : Below w.heap.size w W) => zof_any W d.bm c x y (MapAt.grow h.map hW) ho)
  have HA := Lib.hid (fun W (hW : Below w.heap.size w W) => alive_any W d.L D.M s i g (h.grown hW).pool)
  have HW := Lib.hid (fun W (hW : Below w.heap.size w W) => dwaits_any W d c D (h.grown hW) s i g)
  have HH := Lib.hid (fun W (hW : Below w.heap.size w W) => head_any W d.L D.M (ofF c x y) (h.grown hW).pool)
  have HG := Lib.hid (fun W (hW : Below w.heap.size w W) => gen_dk W d.L D.M (ofF c x y) (headF D.M (ofF c x y)).1 (h.grown hW).pool)
  have hlt := lt_of_heap h.box
  have hltm := h.ltm
  have c0 := h.cell 0
  have c1 := h.cell 1
  have c2 := h.cell 2
  simp [deskC] at c0 c1 c2
  have m6 := MapAt.cell h.map 6
  simp at m6
  obtain ⟨p, cap, hv⟩ := sl_frm h.q
  rw [hv] at c2
  obtain ⟨w1, hw1, hb1, k0, k1, g0, g1, hsz⟩ := two_boxes w #[.int .i64 k, .int .i64 s, .int .i64 i, .int .i64 g, .int .i64 es, .int .i64 ei, .int .i64 eg, .int .i64 m, .int .i64 x, .int .i64 y, .int .i64 vx, .int .i64 vy, .int .i64 hp, .int .i64 pw, .int .i64 lf, .int .i64 mask] #[.int .i64 0, .int .i64 0, .int .i64 0, .int .i64 0, .int .i64 0, .int .i64 0, .int .i64 0, .int .i64 0, .int .i64 0, .int .i64 0, .int .i64 0, .int .i64 0, .int .i64 0, .int .i64 0, .int .i64 0, .int .i64 0] 34 34
  replace c0 := (hb1.cell (p := ⟨d.p, 0, none⟩) hlt).trans c0
  replace c1 := (hb1.cell (p := ⟨d.p, 1, none⟩) hlt).trans c1
  replace c2 := (hb1.cell (p := ⟨d.p, 2, none⟩) hlt).trans c2
  replace m6 := (hb1.cell (p := ⟨d.bm, 6, none⟩) hltm).trans m6
  replace hlt : d.p < w1.heap.size := by omega
  replace hltm : d.bm < w1.heap.size := by omega
  have s6 : w.heap.size < w1.heap.size := by omega
  have s7 : w.heap.size + 1 < w1.heap.size := by omega
  have x0 := k0 0; simp at x0
  have x1 := k0 1; simp at x1
  have x2 := k0 2; simp at x2
  have x3 := k0 3; simp at x3
  have x4 := k0 4; simp at x4
  have x5 := k0 5; simp at x5
  have x6 := k0 6; simp at x6
  have x8 := k0 8; simp at x8
  have x9 := k0 9; simp at x9
  obtain ⟨z0, z1, z2⟩ := ltz hlt
  obtain ⟨z3, z4, z5⟩ := ltz hltm
  obtain ⟨z6, z7, z8⟩ := ltz s6
  obtain ⟨z9, z10, z11⟩ := ltz s7
  have HW1 := Lib.hid hw1
  clear h hv ho hw1
  generalize hgn : genF D.M (ofF c x y) (headF D.M (ofF c x y)).1 = gn at *
  clear hgn
  generalize headF D.M (ofF c x y) = hd at *
  obtain ⟨hi, hb, he⟩ := hd
  generalize ofF c x y = zn at *
  generalize aliveF D.M s i g = al at *
  generalize endsF D.q s i g = en at *
  generalize errB (cmdB ⟨k, s, i, g, ⟨es, ei, eg, m, x, y, vx, vy, hp, pw, lf⟩, mask⟩) = cb at *
  generalize c.queue = qmax at *
  generalize D.q.length = ql at *
  subst hcb hk
  subst hh
  have hL : ∀ d os, (ldM ⟨w.heap.size, 0, none⟩).run Tryz.prog (more w1 d os) = .ok (.agg #[.int .i64 1, .int .i64 s, .int .i64 i, .int .i64 g, .int .i64 es, .int .i64 ei, .int .i64 eg, .int .i64 m, .int .i64 x, .int .i64 y, .int .i64 vx, .int .i64 vy, .int .i64 hp, .int .i64 pw, .int .i64 lf, .int .i64 mask]) (more w1 d os) := fun d os => ld_box ⟨1, s, i, g, ⟨es, ei, eg, m, x, y, vx, vy, hp, pw, lf⟩, mask⟩ s6 (fun j => by rw [k0 j, List.getElem?_toArray]; rfl) d os
  have hL0 : (ldM ⟨w.heap.size, 0, none⟩).run Tryz.prog w1 = .ok (.agg #[.int .i64 1, .int .i64 s, .int .i64 i, .int .i64 g, .int .i64 es, .int .i64 ei, .int .i64 eg, .int .i64 m, .int .i64 x, .int .i64 y, .int .i64 vx, .int .i64 vy, .int .i64 hp, .int .i64 pw, .int .i64 lf, .int .i64 mask]) w1 := ld_box0 ⟨1, s, i, g, ⟨es, ei, eg, m, x, y, vx, vy, hp, pw, lf⟩, mask⟩ (fun j => by rw [k0 j, List.getElem?_toArray]; rfl)
  obtain ⟨w3, hw3, hb3, q0, q1, g3, hsz3⟩ := named_box hb1 k0 k1 g1 hsz zn hi gn
  have s9 : w.heap.size + 1 < w3.heap.size := by omega
  have s10 : w.heap.size < w3.heap.size := by omega
  have hL3 : ∀ d os, (ldM ⟨w.heap.size, 0, none⟩).run Tryz.prog (more w3 d os) = .ok (.agg #[.int .i64 1, .int .i64 s, .int .i64 i, .int .i64 g, .int .i64 zn, .int .i64 hi, .int .i64 gn, .int .i64 m, .int .i64 x, .int .i64 y, .int .i64 vx, .int .i64 vy, .int .i64 hp, .int .i64 pw, .int .i64 lf, .int .i64 mask]) (more w3 d os) := fun d os => ld_box ⟨1, s, i, g, ⟨zn, hi, gn, m, x, y, vx, vy, hp, pw, lf⟩, mask⟩ s10 (fun j => by rw [q0 j, List.getElem?_toArray]; rfl) d os
  obtain ⟨w2, hS', _, hq, hsz2, ht2⟩ := st_box w3 (w.heap.size + 1) (fun j hj => by rw [q1 j, Array.getElem?_eq_getElem (by simpa using hj)]; rfl) g3 s9 ⟨1, s, i, g, ⟨zn, hi, gn, m, x, y, vx, vy, hp, pw, lf⟩, mask⟩
  have hS : ∀ d os, (stM ⟨w.heap.size + 1, 0, none⟩ (.agg #[.int .i64 1, .int .i64 s, .int .i64 i, .int .i64 g, .int .i64 zn, .int .i64 hi, .int .i64 gn, .int .i64 m, .int .i64 x, .int .i64 y, .int .i64 vx, .int .i64 vy, .int .i64 hp, .int .i64 pw, .int .i64 lf, .int .i64 mask])).run Tryz.prog (more w3 d os) = .ok () (more w2 d os) := hS'
  have HQ := Lib.hid hq
  have s8 : w.heap.size + 1 < w2.heap.size := by omega
  have hb2 : Below w.heap.size w w2 := Turned.below_new ht2 (fun q hq => by cases hq; omega) hb3 (by omega)
  clear hS' hq hsz2 ht2
  have HW3 := Lib.hid hw3
  have HS := Lib.hid hS
  have HL3 := Lib.hid hL3
  have f4 := g0 4; have f5 := g0 5; have f6 := g0 6
  clear k0 k1 g0 g1 hsz hw3 q0 q1 g3 hsz3 hL3 hS
  go_enter Tryz.func44, Tryz.ntmps44
  go_upto_region 1 with fail
  rw [← HW1.out]
  go_wp2_with (first | (go_at_call 82; refine (HC.out _ bg).mono ?_; rintro e w' ⟨rfl, hb⟩; obtain ⟨d, os, rfl⟩ := more_of hb; clear hb; (try rw [more_more])) | (go_at_call 83; refine (HO.out _ bg).mono ?_; rintro e w' ⟨rfl, hb⟩; obtain ⟨d, os, rfl⟩ := more_of hb; clear hb; (try rw [more_more])) | (go_at_call 84; refine (HA.out _ bg).mono ?_; rintro e w' ⟨rfl, hb⟩; obtain ⟨d, os, rfl⟩ := more_of hb; clear hb; (try rw [more_more])) | (go_at_call 85; refine (HW.out _ bg).mono ?_; rintro e w' ⟨rfl, hb⟩; obtain ⟨d, os, rfl⟩ := more_of hb; clear hb; (try rw [more_more])) | (go_at_call 86; refine (HH.out _ bg).mono ?_; rintro e w' ⟨rfl, hb⟩; obtain ⟨d, os, rfl⟩ := more_of hb; clear hb; (try rw [more_more])) | (go_at_call 87; refine (HG.out _ bg).mono ?_; rintro e w' ⟨rfl, hb⟩; obtain ⟨d, os, rfl⟩ := more_of hb; clear hb; (try rw [more_more])))
  refine wp_region_more (by kernel_rfl) (by kernel_rfl) ?_
  repeat (go_big_quiet_step ((first | (go_at_call 83; with_reducible exact more_call (HO.out _ bg)) | (go_at_call 84; with_reducible exact more_call (HA.out _ bg)))))
  refine wpQuiet_nil ?_
  rintro _ ⟨pm, rfl⟩
  (try rw [more_more])
  go_wp2_with (first | (go_at_call 82; refine (HC.out _ bg).mono ?_; rintro e w' ⟨rfl, hb⟩; obtain ⟨d, os, rfl⟩ := more_of hb; clear hb; (try rw [more_more])) | (go_at_call 83; refine (HO.out _ bg).mono ?_; rintro e w' ⟨rfl, hb⟩; obtain ⟨d, os, rfl⟩ := more_of hb; clear hb; (try rw [more_more])) | (go_at_call 84; refine (HA.out _ bg).mono ?_; rintro e w' ⟨rfl, hb⟩; obtain ⟨d, os, rfl⟩ := more_of hb; clear hb; (try rw [more_more])) | (go_at_call 85; refine (HW.out _ bg).mono ?_; rintro e w' ⟨rfl, hb⟩; obtain ⟨d, os, rfl⟩ := more_of hb; clear hb; (try rw [more_more])) | (go_at_call 86; refine (HH.out _ bg).mono ?_; rintro e w' ⟨rfl, hb⟩; obtain ⟨d, os, rfl⟩ := more_of hb; clear hb; (try rw [more_more])) | (go_at_call 87; refine (HG.out _ bg).mono ?_; rintro e w' ⟨rfl, hb⟩; obtain ⟨d, os, rfl⟩ := more_of hb; clear hb; (try rw [more_more])))
  refine wp_region_more (by kernel_rfl) (by kernel_rfl) ?_
  repeat (go_big_quiet_step ((first | (go_at_call 83; with_reducible exact more_call (HO.out _ bg)) | (go_at_call 84; with_reducible exact more_call (HA.out _ bg)))))
  refine wpQuiet_nil ?_
  rintro _ ⟨pm, rfl⟩
  (try rw [more_more])
  go_wp2_with (first | (go_at_call 82; refine (HC.out _ bg).mono ?_; rintro e w' ⟨rfl, hb⟩; obtain ⟨d, os, rfl⟩ := more_of hb; clear hb; (try rw [more_more])) | (go_at_call 83; refine (HO.out _ bg).mono ?_; rintro e w' ⟨rfl, hb⟩; obtain ⟨d, os, rfl⟩ := more_of hb; clear hb; (try rw [more_more])) | (go_at_call 84; refine (HA.out _ bg).mono ?_; rintro e w' ⟨rfl, hb⟩; obtain ⟨d, os, rfl⟩ := more_of hb; clear hb; (try rw [more_more])) | (go_at_call 85; refine (HW.out _ bg).mono ?_; rintro e w' ⟨rfl, hb⟩; obtain ⟨d, os, rfl⟩ := more_of hb; clear hb; (try rw [more_more])) | (go_at_call 86; refine (HH.out _ bg).mono ?_; rintro e w' ⟨rfl, hb⟩; obtain ⟨d, os, rfl⟩ := more_of hb; clear hb; (try rw [more_more])) | (go_at_call 87; refine (HG.out _ bg).mono ?_; rintro e w' ⟨rfl, hb⟩; obtain ⟨d, os, rfl⟩ := more_of hb; clear hb; (try rw [more_more])))
  refine wp_region_more (by kernel_rfl) (by kernel_rfl) ?_
  repeat (go_big_quiet_step ((first | (go_at_call 83; with_reducible exact more_call (HO.out _ bg)) | (go_at_call 84; with_reducible exact more_call (HA.out _ bg)))))
  refine wpQuiet_nil ?_
  rintro _ ⟨pm, rfl⟩
  (try rw [more_more])
  go_upto_region 19 with (first | (go_at_call 82; refine (HC.out _ bg).mono ?_; rintro e w' ⟨rfl, hb⟩; obtain ⟨d, os, rfl⟩ := more_of hb; clear hb; (try rw [more_more])) | (go_at_call 83; refine (HO.out _ bg).mono ?_; rintro e w' ⟨rfl, hb⟩; obtain ⟨d, os, rfl⟩ := more_of hb; clear hb; (try rw [more_more])) | (go_at_call 84; refine (HA.out _ bg).mono ?_; rintro e w' ⟨rfl, hb⟩; obtain ⟨d, os, rfl⟩ := more_of hb; clear hb; (try rw [more_more])) | (go_at_call 85; refine (HW.out _ bg).mono ?_; rintro e w' ⟨rfl, hb⟩; obtain ⟨d, os, rfl⟩ := more_of hb; clear hb; (try rw [more_more])) | (go_at_call 86; refine (HH.out _ bg).mono ?_; rintro e w' ⟨rfl, hb⟩; obtain ⟨d, os, rfl⟩ := more_of hb; clear hb; (try rw [more_more])) | (go_at_call 87; refine (HG.out _ bg).mono ?_; rintro e w' ⟨rfl, hb⟩; obtain ⟨d, os, rfl⟩ := more_of hb; clear hb; (try rw [more_more])))
  rw [HW3.out]
  have hL3 := HL3.out
  have hS := HS.out
  iterate 24 (first | go_values | go_skip | go_guarded | go_step | go_upon | go_back)
  exact bodyPost_ret (results_cm Tryz.results44 rfl rfl rfl (ld_more HQ.out s8 _ _)) rfl ⟨rfl, bg⟩

theorem dlook_any (h : DeskAt w d c D) (ho : CfgOk c) (m : Cm) : Calls Tryz.prog 44 #[.pointer (some ⟨d.p, 0, none⟩), .agg (cmC m).toArray] w fun e w' => e = .returned (.tuple #[.agg (cmC (lookF c D m).1).toArray, .bool (lookF c D m).2.1, .int .i64 (lookF c D m).2.2]) ∧ Below w.heap.size w w' := by
  obtain ⟨k, s, i, g, ⟨es, ei, eg, m, x, y, vx, vy, hp, pw, lf⟩, mask⟩ := m
  unfold lookF newB fullB
  simp only
  cases hcb : cmdB ⟨k, s, i, g, ⟨es, ei, eg, m, x, y, vx, vy, hp, pw, lf⟩, mask⟩ with
  | false =>
    rw [if_pos (Or.inl rfl)]
    exact dlook_bad w d c D h ho k s i g es ei eg m x y vx vy hp pw lf mask (by rw [hcb]; rfl) rfl
  | true =>
    have hcb' : errB (cmdB ⟨k, s, i, g, ⟨es, ei, eg, m, x, y, vx, vy, hp, pw, lf⟩, mask⟩) = 0 := by rw [hcb]; rfl
    by_cases hk : k = 1
    · cases hn : idEq es ei eg 0 0 0 with
      | false =>
        rw [if_pos (Or.inr ⟨hk, rfl⟩)]
        exact dlook_named w d c D h ho k s i g es ei eg m x y vx vy hp pw lf mask hcb' hk hn
      | true =>
        rw [if_neg (by simp), if_pos hk]
        split
        · rename_i hz; exact dlook_zone w d c D h ho k s i g es ei eg m x y vx vy hp pw lf mask hcb' hk hn hz
        · rename_i hz
          split
          · rename_i hf; exact dlook_full1 w d c D h ho k s i g es ei eg m x y vx vy hp pw lf mask hcb' hk hn hz (of_decide_eq_true hf)
          · rename_i hf
            have hf' : ¬ c.queue ≤ (D.q.length : Int) := fun e => hf (decide_eq_true e)
            split
            · rename_i hh; exact dlook_busy w d c D h ho k s i g es ei eg m x y vx vy hp pw lf mask hcb' hk hn hz hf' (by simpa using hh)
            · rename_i hh; exact dlook_ok1 w d c D h ho k s i g es ei eg m x y vx vy hp pw lf mask hcb' hk hn hz hf' (by simpa using hh)
    · have hk' : (k == 1) = false := by simpa using hk
      rw [if_neg (by simp [hk]), if_neg hk]
      split
      · rename_i ha; exact dlook_stale w d c D h ho k s i g es ei eg m x y vx vy hp pw lf mask hcb' hk' ha
      · rename_i ha
        have ha' : aliveF D.M s i g = true := by simpa using ha
        split
        · rename_i hn; exact dlook_used w d c D h ho k s i g es ei eg m x y vx vy hp pw lf mask hcb' hk' ha' hn
        · rename_i hn
          have hn' : endsF D.q s i g = false := by simpa using hn
          split
          · rename_i hf; exact dlook_full2 w d c D h ho k s i g es ei eg m x y vx vy hp pw lf mask hcb' hk' ha' hn' (of_decide_eq_true hf)
          · rename_i hf; exact dlook_ok2 w d c D h ho k s i g es ei eg m x y vx vy hp pw lf mask hcb' hk' ha' hn' (fun e => hf (decide_eq_true e))
end
end Go.Proofs.YtoimjjhopljdmaaGreat
