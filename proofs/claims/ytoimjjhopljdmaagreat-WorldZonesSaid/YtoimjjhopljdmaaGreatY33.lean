/-
  Chapter texts DkG: what the claim reaches of them. Conditions stand at each theorem.
-/
import Derived.Test.YtoimjjhopljdmaaGreatY32
import Derived.Test.YtoimjjhopljdmaaGreatY01
import Derived.Test.YtoimjjhopljdmaaGreatY02
import Derived.Test.YtoimjjhopljdmaaGreatY29
import Derived.Test.YtoimjjhopljdmaaGreatY08
import Derived.Test.YtoimjjhopljdmaaGreatY09
import Derived.Test.YtoimjjhopljdmaaGreatY30
import Derived.Test.YtoimjjhopljdmaaGreatY14
namespace Go.Proofs.YtoimjjhopljdmaaGreat
open Go.RowKit

theorem DStp.fin {w : World} {d : DLay} {c : Cfg} {D1 : Dk} {W1 W : World} {B : Nat} (h : DeskAt w d c D1) (hW1 : Below w.heap.size w W1) (hB0 : w.heap.size ≤ B) (hB : B < W1.heap.size) (D2 : Dk) (HD : DStp W1 d c W D2) (hq : (D2.q.length : Int) < c.queue) (m : Cm) :
    ∃ qv p cap, qv = .slice p D2.q.length cap ∧ W.cell? ⟨d.p, 2, none⟩ = some qv ∧ W.frozen? ⟨d.p, 2, none⟩ = false ∧ d.p < W.heap.size ∧ qv.ownBlock ≠ some d.p ∧ qv.ownBlock ≠ some B ∧ (∀ Wa, Below W.heap.size W Wa → Sl Wa 34 16 qv D2.q.length (cellsR cmC D2.q)) ∧
      (∀ j, W.cell? ⟨B, j, none⟩ = W1.cell? ⟨B, j, none⟩) ∧ B < W.heap.size ∧
      ∀ Wa, Below W.heap.size W Wa → ∀ w4 v', Sl w4 34 16 v' (D2.q.length + 1) (cellsR cmC D2.q ++ cmC m) → Turned Wa w4 qv.ownBlock → (v'.ownBlock = qv.ownBlock ∨ ∃ g, v'.ownBlock = some g ∧ Wa.heap.size ≤ g) → DStp w d c (w4.setCell ⟨d.p, 2, none⟩ v') { D2 with q := D2.q ++ [m] } := by
  have hnB : ¬ d.own B := fun e => by have := h.lt e; omega
  obtain ⟨d', e1, e2, hd, hc, ho⟩ := HD
  have hnB' : ¬ d'.own B := fun e => (ho B e).elim hnB fun h => by omega
  have c2 := hd.cell 2
  have f2 := hd.frozen 2
  have hp := lt_of_heap hd.box
  have hap : d'.qv.ownBlock ≠ some d'.p := fun e => (hd.aq _ e).1 rfl
  simp [deskC] at c2
  rw [e1] at c2 f2 hp hap
  obtain ⟨p, cap, hv⟩ := sl_frm hd.q
  refine ⟨d'.qv, p, cap, hv, c2, f2, hp, hap, fun e => hnB' (.inr (.inr e)), fun Wa hWa => (hd.grown hWa).q, fun j => hc.cell (a := ⟨B, j, none⟩) hB hnB, Nat.lt_of_lt_of_le hB hc.size, fun Wa hWa w4 v' hs ht hv' => ?_⟩
  have := (hd.grown hWa).queued (m := m) hs ht hv' hq
  rw [e1] at this
  exact DStp.from_below hW1 (DStp.next e1 e2 hc ho (this.from_below hWa))
theorem take_dk (w : World) (d : DLay) (c : Cfg) (D : Dk) (s i g : Int) (h : DeskAt w d c D) : Calls Tryz.prog 89 #[.pointer (some ⟨d.L.P, 0, none⟩), .agg #[.int .i64 s, .int .i64 i, .int .i64 g]] w fun e w' => e = .returned (.int .i64 (takeF D.M s i g).1) ∧ DStp w d c w' { D with M := (takeF D.M s i g).2 } :=
  (take_any w d.L D.M s i g h.pool).mono fun _ _ ⟨h1, h2⟩ => ⟨h1, DStp.pool h h2⟩

attribute [local go_sem ↓] loadVar_ldM storeVar_stM
section
variable (w : World) (d : DLay) (c : Cfg) (D : Dk)
set_option maxRecDepth 100000 in
set_option maxHeartbeats 4000000 in
theorem dadmit_bad (h : DeskAt w d c D) (ho : CfgOk c) (k s i g es ei eg m x y vx vy hp pw lf mask : Int) (hcb : errB (cmdB ⟨k, s, i, g, ⟨es, ei, eg, m, x, y, vx, vy, hp, pw, lf⟩, mask⟩) = 1) :
    Calls Tryz.prog 46 #[.pointer (some ⟨d.p, 0, none⟩), .agg #[.int .i64 k, .int .i64 s, .int .i64 i, .int .i64 g, .int .i64 es, .int .i64 ei, .int .i64 eg, .int .i64 m, .int .i64 x, .int .i64 y, .int .i64 vx, .int .i64 vy, .int .i64 hp, .int .i64 pw, .int .i64 lf, .int .i64 mask]] w fun e w' => e = .returned (.int .i64 1) ∧ Below w.heap.size w w' := by
  have HC := Lib.hid (fun W (_ : Below w.heap.size w W) => checkCmd_any k s i g es ei eg m x y vx vy hp pw lf mask W)
  have HO := Lib.hid (fun W (hW : Below w.heap.size w W) => zof_any W d.bm c x y (MapAt.grow h.map hW) ho)
  have HA := Lib.hid (fun W (hW : Below w.heap.size w W) => alive_any W d.L D.M s i g (h.grown hW).pool)
  have HT := Lib.hid (fun W (hW : Below w.heap.size w W) => take_dk W d c D es ei eg (h.grown hW))
  have HH := Lib.hid h
  have ho' := ho
  have hlt := lt_of_heap h.box
  have hltm := h.ltm
  have c0 := h.cell 0
  have c1 := h.cell 1
  have c2 := h.cell 2
  simp [deskC] at c0 c1 c2
  have m6 := MapAt.cell h.map 6
  simp at m6
  obtain ⟨p, cap, hv⟩ := sl_frm h.q
  rw [hv] at c2
  obtain ⟨w1, hw1, k0, hb1, g0, hsz⟩ := one_box w #[.int .i64 k, .int .i64 s, .int .i64 i, .int .i64 g, .int .i64 es, .int .i64 ei, .int .i64 eg, .int .i64 m, .int .i64 x, .int .i64 y, .int .i64 vx, .int .i64 vy, .int .i64 hp, .int .i64 pw, .int .i64 lf, .int .i64 mask] 34
  replace c0 := (hb1.cell (p := ⟨d.p, 0, none⟩) hlt).trans c0
  replace c1 := (hb1.cell (p := ⟨d.p, 1, none⟩) hlt).trans c1
  replace c2 := (hb1.cell (p := ⟨d.p, 2, none⟩) hlt).trans c2
  replace m6 := (hb1.cell (p := ⟨d.bm, 6, none⟩) hltm).trans m6
  replace hlt : d.p < w1.heap.size := by omega
  replace hltm : d.bm < w1.heap.size := by omega
  have s6 : w.heap.size < w1.heap.size := by omega
  have x0 := k0 0; simp at x0
  have x1 := k0 1; simp at x1
  have x2 := k0 2; simp at x2
  have x3 := k0 3; simp at x3
  have x4 := k0 4; simp at x4
  have x5 := k0 5; simp at x5
  have x6 := k0 6; simp at x6
  have x8 := k0 8; simp at x8
  have x9 := k0 9; simp at x9
  obtain ⟨z0, z1, z2⟩ := ltz hlt
  obtain ⟨z3, z4, z5⟩ := ltz hltm
  obtain ⟨z6, z7, z8⟩ := ltz s6
  have hL : ∀ d os, (ldM ⟨w.heap.size, 0, none⟩).run Tryz.prog (more w1 d os) = .ok (.agg #[.int .i64 k, .int .i64 s, .int .i64 i, .int .i64 g, .int .i64 es, .int .i64 ei, .int .i64 eg, .int .i64 m, .int .i64 x, .int .i64 y, .int .i64 vx, .int .i64 vy, .int .i64 hp, .int .i64 pw, .int .i64 lf, .int .i64 mask]) (more w1 d os) := fun d os => ld_box ⟨k, s, i, g, ⟨es, ei, eg, m, x, y, vx, vy, hp, pw, lf⟩, mask⟩ s6 (fun j => by rw [k0 j, List.getElem?_toArray]; rfl) d os
  have hL0 : (ldM ⟨w.heap.size, 0, none⟩).run Tryz.prog w1 = .ok (.agg #[.int .i64 k, .int .i64 s, .int .i64 i, .int .i64 g, .int .i64 es, .int .i64 ei, .int .i64 eg, .int .i64 m, .int .i64 x, .int .i64 y, .int .i64 vx, .int .i64 vy, .int .i64 hp, .int .i64 pw, .int .i64 lf, .int .i64 mask]) w1 := ld_box0 ⟨k, s, i, g, ⟨es, ei, eg, m, x, y, vx, vy, hp, pw, lf⟩, mask⟩ (fun j => by rw [k0 j, List.getElem?_toArray]; rfl)
  have K0 := Lib.hid k0
  have HW1 := Lib.hid hw1
  have HB1 := Lib.hid hb1
  clear h hv ho hw1 k0 g0 hsz
  generalize ofF c x y = zn at *
  generalize aliveF D.M s i g = al at *
  generalize errB (cmdB ⟨k, s, i, g, ⟨es, ei, eg, m, x, y, vx, vy, hp, pw, lf⟩, mask⟩) = cb at *
  subst hcb
  go_enter Tryz.func46, Tryz.ntmps46
  go_upto_region 1 with fail
  rw [← HW1.out]
  go_wp2_with (first | (go_at_call 82; refine (HC.out _ bg).mono ?_; rintro e w' ⟨rfl, hb⟩; obtain ⟨dd, os, rfl⟩ := more_of hb; clear hb; (try rw [more_more])))
  go_ret
  exact ⟨rfl, bg⟩

set_option maxRecDepth 100000 in
set_option maxHeartbeats 4000000 in
theorem dadmit_full (h : DeskAt w d c D) (ho : CfgOk c) (k s i g es ei eg m x y vx vy hp pw lf mask : Int) (hcb : errB (cmdB ⟨k, s, i, g, ⟨es, ei, eg, m, x, y, vx, vy, hp, pw, lf⟩, mask⟩) = 0) (hf : c.queue ≤ (D.q.length : Int)) :
    Calls Tryz.prog 46 #[.pointer (some ⟨d.p, 0, none⟩), .agg #[.int .i64 k, .int .i64 s, .int .i64 i, .int .i64 g, .int .i64 es, .int .i64 ei, .int .i64 eg, .int .i64 m, .int .i64 x, .int .i64 y, .int .i64 vx, .int .i64 vy, .int .i64 hp, .int .i64 pw, .int .i64 lf, .int .i64 mask]] w fun e w' => e = .returned (.int .i64 8) ∧ Below w.heap.size w w' := by
  have HC := Lib.hid (fun W (_ : Below w.heap.size w W) => checkCmd_any k s i g es ei eg m x y vx vy hp pw lf mask W)
  have HO := Lib.hid (fun W (hW : Below w.heap.size w W) => zof_any W d.bm c x y (MapAt.grow h.map hW) ho)
  have HA := Lib.hid (fun W (hW : Below w.heap.size w W) => alive_any W d.L D.M s i g (h.grown hW).pool)
  have HT := Lib.hid (fun W (hW : Below w.heap.size w W) => take_dk W d c D es ei eg (h.grown hW))
  have HH := Lib.hid h
  have ho' := ho
  have hlt := lt_of_heap h.box
  have hltm := h.ltm
  have c0 := h.cell 0
  have c1 := h.cell 1
  have c2 := h.cell 2
  simp [deskC] at c0 c1 c2
  have m6 := MapAt.cell h.map 6
  simp at m6
  obtain ⟨p, cap, hv⟩ := sl_frm h.q
  rw [hv] at c2
  obtain ⟨w1, hw1, k0, hb1, g0, hsz⟩ := one_box w #[.int .i64 k, .int .i64 s, .int .i64 i, .int .i64 g, .int .i64 es, .int .i64 ei, .int .i64 eg, .int .i64 m, .int .i64 x, .int .i64 y, .int .i64 vx, .int .i64 vy, .int .i64 hp, .int .i64 pw, .int .i64 lf, .int .i64 mask] 34
  replace c0 := (hb1.cell (p := ⟨d.p, 0, none⟩) hlt).trans c0
  replace c1 := (hb1.cell (p := ⟨d.p, 1, none⟩) hlt).trans c1
  replace c2 := (hb1.cell (p := ⟨d.p, 2, none⟩) hlt).trans c2
  replace m6 := (hb1.cell (p := ⟨d.bm, 6, none⟩) hltm).trans m6
  replace hlt : d.p < w1.heap.size := by omega
  replace hltm : d.bm < w1.heap.size := by omega
  have s6 : w.heap.size < w1.heap.size := by omega
  have x0 := k0 0; simp at x0
  have x1 := k0 1; simp at x1
  have x2 := k0 2; simp at x2
  have x3 := k0 3; simp at x3
  have x4 := k0 4; simp at x4
  have x5 := k0 5; simp at x5
  have x6 := k0 6; simp at x6
  have x8 := k0 8; simp at x8
  have x9 := k0 9; simp at x9
  obtain ⟨z0, z1, z2⟩ := ltz hlt
  obtain ⟨z3, z4, z5⟩ := ltz hltm
  obtain ⟨z6, z7, z8⟩ := ltz s6
  have hL : ∀ d os, (ldM ⟨w.heap.size, 0, none⟩).run Tryz.prog (more w1 d os) = .ok (.agg #[.int .i64 k, .int .i64 s, .int .i64 i, .int .i64 g, .int .i64 es, .int .i64 ei, .int .i64 eg, .int .i64 m, .int .i64 x, .int .i64 y, .int .i64 vx, .int .i64 vy, .int .i64 hp, .int .i64 pw, .int .i64 lf, .int .i64 mask]) (more w1 d os) := fun d os => ld_box ⟨k, s, i, g, ⟨es, ei, eg, m, x, y, vx, vy, hp, pw, lf⟩, mask⟩ s6 (fun j => by rw [k0 j, List.getElem?_toArray]; rfl) d os
  have hL0 : (ldM ⟨w.heap.size, 0, none⟩).run Tryz.prog w1 = .ok (.agg #[.int .i64 k, .int .i64 s, .int .i64 i, .int .i64 g, .int .i64 es, .int .i64 ei, .int .i64 eg, .int .i64 m, .int .i64 x, .int .i64 y, .int .i64 vx, .int .i64 vy, .int .i64 hp, .int .i64 pw, .int .i64 lf, .int .i64 mask]) w1 := ld_box0 ⟨k, s, i, g, ⟨es, ei, eg, m, x, y, vx, vy, hp, pw, lf⟩, mask⟩ (fun j => by rw [k0 j, List.getElem?_toArray]; rfl)
  have K0 := Lib.hid k0
  have HW1 := Lib.hid hw1
  have HB1 := Lib.hid hb1
  clear h hv ho hw1 k0 g0 hsz
  generalize ofF c x y = zn at *
  generalize aliveF D.M s i g = al at *
  generalize errB (cmdB ⟨k, s, i, g, ⟨es, ei, eg, m, x, y, vx, vy, hp, pw, lf⟩, mask⟩) = cb at *
  subst hcb
  go_enter Tryz.func46, Tryz.ntmps46
  go_upto_region 1 with fail
  rw [← HW1.out]
  go_wp2_with (first | (go_at_call 82; refine (HC.out _ bg).mono ?_; rintro e w' ⟨rfl, hb⟩; obtain ⟨dd, os, rfl⟩ := more_of hb; clear hb; (try rw [more_more])))
  refine wp_region_more (by kernel_rfl) (by kernel_rfl) ?_
  repeat (go_big_quiet_step ((first | (go_at_call 83; with_reducible exact more_call (HO.out _ bg)) | (go_at_call 84; with_reducible exact more_call (HA.out _ bg)))))
  refine wpQuiet_nil ?_
  rintro _ ⟨pm, rfl⟩
  (try rw [more_more])
  go_wp2_with fail
  go_ret
  exact ⟨rfl, bg⟩

set_option maxRecDepth 100000 in
set_option maxHeartbeats 4000000 in
theorem dadmit_range (h : DeskAt w d c D) (ho : CfgOk c) (k s i g es ei eg m x y vx vy hp pw lf mask : Int) (hcb : errB (cmdB ⟨k, s, i, g, ⟨es, ei, eg, m, x, y, vx, vy, hp, pw, lf⟩, mask⟩) = 0) (hf : ¬ c.queue ≤ (D.q.length : Int)) (hk : k = 1) (hz : (ofF c x y != es) = true) :
    Calls Tryz.prog 46 #[.pointer (some ⟨d.p, 0, none⟩), .agg #[.int .i64 k, .int .i64 s, .int .i64 i, .int .i64 g, .int .i64 es, .int .i64 ei, .int .i64 eg, .int .i64 m, .int .i64 x, .int .i64 y, .int .i64 vx, .int .i64 vy, .int .i64 hp, .int .i64 pw, .int .i64 lf, .int .i64 mask]] w fun e w' => e = .returned (.int .i64 5) ∧ Below w.heap.size w w' := by
  have HC := Lib.hid (fun W (_ : Below w.heap.size w W) => checkCmd_any k s i g es ei eg m x y vx vy hp pw lf mask W)
  have HO := Lib.hid (fun W (hW : Below w.heap.size w W) => zof_any W d.bm c x y (MapAt.grow h.map hW) ho)
  have HA := Lib.hid (fun W (hW : Below w.heap.size w W) => alive_any W d.L D.M s i g (h.grown hW).pool)
  have HT := Lib.hid (fun W (hW : Below w.heap.size w W) => take_dk W d c D es ei eg (h.grown hW))
  have HH := Lib.hid h
  have ho' := ho
  have hlt := lt_of_heap h.box
  have hltm := h.ltm
  have c0 := h.cell 0
  have c1 := h.cell 1
  have c2 := h.cell 2
  simp [deskC] at c0 c1 c2
  have m6 := MapAt.cell h.map 6
  simp at m6
  obtain ⟨p, cap, hv⟩ := sl_frm h.q
  rw [hv] at c2
  obtain ⟨w1, hw1, k0, hb1, g0, hsz⟩ := one_box w #[.int .i64 k, .int .i64 s, .int .i64 i, .int .i64 g, .int .i64 es, .int .i64 ei, .int .i64 eg, .int .i64 m, .int .i64 x, .int .i64 y, .int .i64 vx, .int .i64 vy, .int .i64 hp, .int .i64 pw, .int .i64 lf, .int .i64 mask] 34
  replace c0 := (hb1.cell (p := ⟨d.p, 0, none⟩) hlt).trans c0
  replace c1 := (hb1.cell (p := ⟨d.p, 1, none⟩) hlt).trans c1
  replace c2 := (hb1.cell (p := ⟨d.p, 2, none⟩) hlt).trans c2
  replace m6 := (hb1.cell (p := ⟨d.bm, 6, none⟩) hltm).trans m6
  replace hlt : d.p < w1.heap.size := by omega
  replace hltm : d.bm < w1.heap.size := by omega
  have s6 : w.heap.size < w1.heap.size := by omega
  have x0 := k0 0; simp at x0
  have x1 := k0 1; simp at x1
  have x2 := k0 2; simp at x2
  have x3 := k0 3; simp at x3
  have x4 := k0 4; simp at x4
  have x5 := k0 5; simp at x5
  have x6 := k0 6; simp at x6
  have x8 := k0 8; simp at x8
  have x9 := k0 9; simp at x9
  obtain ⟨z0, z1, z2⟩ := ltz hlt
  obtain ⟨z3, z4, z5⟩ := ltz hltm
  obtain ⟨z6, z7, z8⟩ := ltz s6
  have hL : ∀ d os, (ldM ⟨w.heap.size, 0, none⟩).run Tryz.prog (more w1 d os) = .ok (.agg #[.int .i64 k, .int .i64 s, .int .i64 i, .int .i64 g, .int .i64 es, .int .i64 ei, .int .i64 eg, .int .i64 m, .int .i64 x, .int .i64 y, .int .i64 vx, .int .i64 vy, .int .i64 hp, .int .i64 pw, .int .i64 lf, .int .i64 mask]) (more w1 d os) := fun d os => ld_box ⟨k, s, i, g, ⟨es, ei, eg, m, x, y, vx, vy, hp, pw, lf⟩, mask⟩ s6 (fun j => by rw [k0 j, List.getElem?_toArray]; rfl) d os
  have hL0 : (ldM ⟨w.heap.size, 0, none⟩).run Tryz.prog w1 = .ok (.agg #[.int .i64 k, .int .i64 s, .int .i64 i, .int .i64 g, .int .i64 es, .int .i64 ei, .int .i64 eg, .int .i64 m, .int .i64 x, .int .i64 y, .int .i64 vx, .int .i64 vy, .int .i64 hp, .int .i64 pw, .int .i64 lf, .int .i64 mask]) w1 := ld_box0 ⟨k, s, i, g, ⟨es, ei, eg, m, x, y, vx, vy, hp, pw, lf⟩, mask⟩ (fun j => by rw [k0 j, List.getElem?_toArray]; rfl)
  have K0 := Lib.hid k0
  have HW1 := Lib.hid hw1
  have HB1 := Lib.hid hb1
  clear h hv ho hw1 k0 g0 hsz
  generalize ofF c x y = zn at *
  generalize aliveF D.M s i g = al at *
  generalize errB (cmdB ⟨k, s, i, g, ⟨es, ei, eg, m, x, y, vx, vy, hp, pw, lf⟩, mask⟩) = cb at *
  subst hcb hk
  go_enter Tryz.func46, Tryz.ntmps46
  go_upto_region 1 with fail
  rw [← HW1.out]
  go_wp2_with (first | (go_at_call 82; refine (HC.out _ bg).mono ?_; rintro e w' ⟨rfl, hb⟩; obtain ⟨dd, os, rfl⟩ := more_of hb; clear hb; (try rw [more_more])))
  refine wp_region_more (by kernel_rfl) (by kernel_rfl) ?_
  repeat (go_big_quiet_step ((first | (go_at_call 83; with_reducible exact more_call (HO.out _ bg)) | (go_at_call 84; with_reducible exact more_call (HA.out _ bg)))))
  refine wpQuiet_nil ?_
  rintro _ ⟨pm, rfl⟩
  (try rw [more_more])
  go_wp2_with fail
  refine wp_region_more (by kernel_rfl) (by kernel_rfl) ?_
  repeat (go_big_quiet_step ((first | (go_at_call 83; with_reducible exact more_call (HO.out _ bg)) | (go_at_call 84; with_reducible exact more_call (HA.out _ bg)))))
  refine wpQuiet_nil ?_
  rintro _ ⟨pm, rfl⟩
  (try rw [more_more])
  go_wp2_with fail
  go_ret
  exact ⟨rfl, bg⟩

set_option maxRecDepth 100000 in
set_option maxHeartbeats 4000000 in
theorem dadmit_stale (h : DeskAt w d c D) (ho : CfgOk c) (k s i g es ei eg m x y vx vy hp pw lf mask : Int) (hcb : errB (cmdB ⟨k, s, i, g, ⟨es, ei, eg, m, x, y, vx, vy, hp, pw, lf⟩, mask⟩) = 0) (hf : ¬ c.queue ≤ (D.q.length : Int)) (hk : (k == 1) = false) (ha : aliveF D.M s i g = false) :
    Calls Tryz.prog 46 #[.pointer (some ⟨d.p, 0, none⟩), .agg #[.int .i64 k, .int .i64 s, .int .i64 i, .int .i64 g, .int .i64 es, .int .i64 ei, .int .i64 eg, .int .i64 m, .int .i64 x, .int .i64 y, .int .i64 vx, .int .i64 vy, .int .i64 hp, .int .i64 pw, .int .i64 lf, .int .i64 mask]] w fun e w' => e = .returned (.int .i64 9) ∧ Below w.heap.size w w' := by
  have HC := Lib.hid (fun W (_ : Below w.heap.size w W) => checkCmd_any k s i g es ei eg m x y vx vy hp pw lf mask W)
  have HO := Lib.hid (fun W (hW : Below w.heap.size w W) => zof_any W d.bm c x y (MapAt.grow h.map hW) ho)
  have HA := Lib.hid (fun W (hW : Below w.heap.size w W) => alive_any W d.L D.M s i g (h.grown hW).pool)
  have HT := Lib.hid (fun W (hW : Below w.heap.size w W) => take_dk W d c D es ei eg (h.grown hW))
  have HH := Lib.hid h
  have ho' := ho
  have hlt := lt_of_heap h.box
  have hltm := h.ltm
  have c0 := h.cell 0
  have c1 := h.cell 1
  have c2 := h.cell 2
  simp [deskC] at c0 c1 c2
  have m6 := MapAt.cell h.map 6
  simp at m6
  obtain ⟨p, cap, hv⟩ := sl_frm h.q
  rw [hv] at c2
  obtain ⟨w1, hw1, k0, hb1, g0, hsz⟩ := one_box w #[.int .i64 k, .int .i64 s, .int .i64 i, .int .i64 g, .int .i64 es, .int .i64 ei, .int .i64 eg, .int .i64 m, .int .i64 x, .int .i64 y, .int .i64 vx, .int .i64 vy, .int .i64 hp, .int .i64 pw, .int .i64 lf, .int .i64 mask] 34
  replace c0 := (hb1.cell (p := ⟨d.p, 0, none⟩) hlt).trans c0
  replace c1 := (hb1.cell (p := ⟨d.p, 1, none⟩) hlt).trans c1
  replace c2 := (hb1.cell (p := ⟨d.p, 2, none⟩) hlt).trans c2
  replace m6 := (hb1.cell (p := ⟨d.bm, 6, none⟩) hltm).trans m6
  replace hlt : d.p < w1.heap.size := by omega
  replace hltm : d.bm < w1.heap.size := by omega
  have s6 : w.heap.size < w1.heap.size := by omega
  have x0 := k0 0; simp at x0
  have x1 := k0 1; simp at x1
  have x2 := k0 2; simp at x2
  have x3 := k0 3; simp at x3
  have x4 := k0 4; simp at x4
  have x5 := k0 5; simp at x5
  have x6 := k0 6; simp at x6
  have x8 := k0 8; simp at x8
  have x9 := k0 9; simp at x9
  obtain ⟨z0, z1, z2⟩ := ltz hlt
  obtain ⟨z3, z4, z5⟩ := ltz hltm
  obtain ⟨z6, z7, z8⟩ := ltz s6
  have hL : ∀ d os, (ldM ⟨w.heap.size, 0, none⟩).run Tryz.prog (more w1 d os) = .ok (.agg #[.int .i64 k, .int .i64 s, .int .i64 i, .int .i64 g, .int .i64 es, .int .i64 ei, .int .i64 eg, .int .i64 m, .int .i64 x, .int .i64 y, .int .i64 vx, .int .i64 vy, .int .i64 hp, .int .i64 pw, .int .i64 lf, .int .i64 mask]) (more w1 d os) := fun d os => ld_box ⟨k, s, i, g, ⟨es, ei, eg, m, x, y, vx, vy, hp, pw, lf⟩, mask⟩ s6 (fun j => by rw [k0 j, List.getElem?_toArray]; rfl) d os
  have hL0 : (ldM ⟨w.heap.size, 0, none⟩).run Tryz.prog w1 = .ok (.agg #[.int .i64 k, .int .i64 s, .int .i64 i, .int .i64 g, .int .i64 es, .int .i64 ei, .int .i64 eg, .int .i64 m, .int .i64 x, .int .i64 y, .int .i64 vx, .int .i64 vy, .int .i64 hp, .int .i64 pw, .int .i64 lf, .int .i64 mask]) w1 := ld_box0 ⟨k, s, i, g, ⟨es, ei, eg, m, x, y, vx, vy, hp, pw, lf⟩, mask⟩ (fun j => by rw [k0 j, List.getElem?_toArray]; rfl)
  have K0 := Lib.hid k0
  have HW1 := Lib.hid hw1
  have HB1 := Lib.hid hb1
  clear h hv ho hw1 k0 g0 hsz
  generalize ofF c x y = zn at *
  generalize aliveF D.M s i g = al at *
  generalize errB (cmdB ⟨k, s, i, g, ⟨es, ei, eg, m, x, y, vx, vy, hp, pw, lf⟩, mask⟩) = cb at *
  subst hcb ha
  go_enter Tryz.func46, Tryz.ntmps46
  go_upto_region 1 with fail
  rw [← HW1.out]
  go_wp2_with (first | (go_at_call 82; refine (HC.out _ bg).mono ?_; rintro e w' ⟨rfl, hb⟩; obtain ⟨dd, os, rfl⟩ := more_of hb; clear hb; (try rw [more_more])))
  refine wp_region_more (by kernel_rfl) (by kernel_rfl) ?_
  repeat (go_big_quiet_step ((first | (go_at_call 83; with_reducible exact more_call (HO.out _ bg)) | (go_at_call 84; with_reducible exact more_call (HA.out _ bg)))))
  refine wpQuiet_nil ?_
  rintro _ ⟨pm, rfl⟩
  (try rw [more_more])
  go_wp2_with fail
  refine wp_region_more (by kernel_rfl) (by kernel_rfl) ?_
  repeat (go_big_quiet_step ((first | (go_at_call 83; with_reducible exact more_call (HO.out _ bg)) | (go_at_call 84; with_reducible exact more_call (HA.out _ bg)))))
  refine wpQuiet_nil ?_
  rintro _ ⟨pm, rfl⟩
  (try rw [more_more])
  go_wp2_with fail
  refine wp_region_more (by kernel_rfl) (by kernel_rfl) ?_
  repeat (go_big_quiet_step ((first | (go_at_call 83; with_reducible exact more_call (HO.out _ bg)) | (go_at_call 84; with_reducible exact more_call (HA.out _ bg)))))
  refine wpQuiet_nil ?_
  rintro _ ⟨pm, rfl⟩
  (try rw [more_more])
  go_wp2_with fail
  go_ret
  exact ⟨rfl, bg⟩

set_option maxRecDepth 100000 in
set_option maxHeartbeats 4000000 in
theorem dadmit_ok2 (h : DeskAt w d c D) (ho : CfgOk c) (k s i g es ei eg m x y vx vy hp pw lf mask : Int) (hcb : errB (cmdB ⟨k, s, i, g, ⟨es, ei, eg, m, x, y, vx, vy, hp, pw, lf⟩, mask⟩) = 0) (hf : ¬ c.queue ≤ (D.q.length : Int)) (hk : (k == 1) = false) (ha : aliveF D.M s i g = true) :
    Calls Tryz.prog 46 #[.pointer (some ⟨d.p, 0, none⟩), .agg #[.int .i64 k, .int .i64 s, .int .i64 i, .int .i64 g, .int .i64 es, .int .i64 ei, .int .i64 eg, .int .i64 m, .int .i64 x, .int .i64 y, .int .i64 vx, .int .i64 vy, .int .i64 hp, .int .i64 pw, .int .i64 lf, .int .i64 mask]] w fun e w' => e = .returned (.int .i64 0) ∧ DStp w d c w' { D with q := D.q ++ [⟨k, s, i, g, ⟨es, ei, eg, m, x, y, vx, vy, hp, pw, lf⟩, mask⟩] } := by
  have HC := Lib.hid (fun W (_ : Below w.heap.size w W) => checkCmd_any k s i g es ei eg m x y vx vy hp pw lf mask W)
  have HO := Lib.hid (fun W (hW : Below w.heap.size w W) => zof_any W d.bm c x y (MapAt.grow h.map hW) ho)
  have HA := Lib.hid (fun W (hW : Below w.heap.size w W) => alive_any W d.L D.M s i g (h.grown hW).pool)
  have HT := Lib.hid (fun W (hW : Below w.heap.size w W) => take_dk W d c D es ei eg (h.grown hW))
  have HH := Lib.hid h
  have ho' := ho
  have hlt := lt_of_heap h.box
  have hltm := h.ltm
  have c0 := h.cell 0
  have c1 := h.cell 1
  have c2 := h.cell 2
  simp [deskC] at c0 c1 c2
  have m6 := MapAt.cell h.map 6
  simp at m6
  obtain ⟨p, cap, hv⟩ := sl_frm h.q
  rw [hv] at c2
  obtain ⟨w1, hw1, k0, hb1, g0, hsz⟩ := one_box w #[.int .i64 k, .int .i64 s, .int .i64 i, .int .i64 g, .int .i64 es, .int .i64 ei, .int .i64 eg, .int .i64 m, .int .i64 x, .int .i64 y, .int .i64 vx, .int .i64 vy, .int .i64 hp, .int .i64 pw, .int .i64 lf, .int .i64 mask] 34
  replace c0 := (hb1.cell (p := ⟨d.p, 0, none⟩) hlt).trans c0
  replace c1 := (hb1.cell (p := ⟨d.p, 1, none⟩) hlt).trans c1
  replace c2 := (hb1.cell (p := ⟨d.p, 2, none⟩) hlt).trans c2
  replace m6 := (hb1.cell (p := ⟨d.bm, 6, none⟩) hltm).trans m6
  replace hlt : d.p < w1.heap.size := by omega
  replace hltm : d.bm < w1.heap.size := by omega
  have s6 : w.heap.size < w1.heap.size := by omega
  have x0 := k0 0; simp at x0
  have x1 := k0 1; simp at x1
  have x2 := k0 2; simp at x2
  have x3 := k0 3; simp at x3
  have x4 := k0 4; simp at x4
  have x5 := k0 5; simp at x5
  have x6 := k0 6; simp at x6
  have x8 := k0 8; simp at x8
  have x9 := k0 9; simp at x9
  obtain ⟨z0, z1, z2⟩ := ltz hlt
  obtain ⟨z3, z4, z5⟩ := ltz hltm
  obtain ⟨z6, z7, z8⟩ := ltz s6
  have hL : ∀ d os, (ldM ⟨w.heap.size, 0, none⟩).run Tryz.prog (more w1 d os) = .ok (.agg #[.int .i64 k, .int .i64 s, .int .i64 i, .int .i64 g, .int .i64 es, .int .i64 ei, .int .i64 eg, .int .i64 m, .int .i64 x, .int .i64 y, .int .i64 vx, .int .i64 vy, .int .i64 hp, .int .i64 pw, .int .i64 lf, .int .i64 mask]) (more w1 d os) := fun d os => ld_box ⟨k, s, i, g, ⟨es, ei, eg, m, x, y, vx, vy, hp, pw, lf⟩, mask⟩ s6 (fun j => by rw [k0 j, List.getElem?_toArray]; rfl) d os
  have hL0 : (ldM ⟨w.heap.size, 0, none⟩).run Tryz.prog w1 = .ok (.agg #[.int .i64 k, .int .i64 s, .int .i64 i, .int .i64 g, .int .i64 es, .int .i64 ei, .int .i64 eg, .int .i64 m, .int .i64 x, .int .i64 y, .int .i64 vx, .int .i64 vy, .int .i64 hp, .int .i64 pw, .int .i64 lf, .int .i64 mask]) w1 := ld_box0 ⟨k, s, i, g, ⟨es, ei, eg, m, x, y, vx, vy, hp, pw, lf⟩, mask⟩ (fun j => by rw [k0 j, List.getElem?_toArray]; rfl)
  have K0 := Lib.hid k0
  have HW1 := Lib.hid hw1
  have HB1 := Lib.hid hb1
  clear h hv ho hw1 k0 g0 hsz
  generalize ofF c x y = zn at *
  generalize aliveF D.M s i g = al at *
  generalize errB (cmdB ⟨k, s, i, g, ⟨es, ei, eg, m, x, y, vx, vy, hp, pw, lf⟩, mask⟩) = cb at *
  subst hcb ha
  go_enter Tryz.func46, Tryz.ntmps46
  go_upto_region 1 with fail
  rw [← HW1.out]
  go_wp2_with (first | (go_at_call 82; refine (HC.out _ bg).mono ?_; rintro e w' ⟨rfl, hb⟩; obtain ⟨dd, os, rfl⟩ := more_of hb; clear hb; (try rw [more_more])))
  refine wp_region_more (by kernel_rfl) (by kernel_rfl) ?_
  repeat (go_big_quiet_step ((first | (go_at_call 83; with_reducible exact more_call (HO.out _ bg)) | (go_at_call 84; with_reducible exact more_call (HA.out _ bg)))))
  refine wpQuiet_nil ?_
  rintro _ ⟨pm, rfl⟩
  (try rw [more_more])
  go_wp2_with fail
  refine wp_region_more (by kernel_rfl) (by kernel_rfl) ?_
  repeat (go_big_quiet_step ((first | (go_at_call 83; with_reducible exact more_call (HO.out _ bg)) | (go_at_call 84; with_reducible exact more_call (HA.out _ bg)))))
  refine wpQuiet_nil ?_
  rintro _ ⟨pm, rfl⟩
  (try rw [more_more])
  go_wp2_with fail
  refine wp_region_more (by kernel_rfl) (by kernel_rfl) ?_
  repeat (go_big_quiet_step ((first | (go_at_call 83; with_reducible exact more_call (HO.out _ bg)) | (go_at_call 84; with_reducible exact more_call (HA.out _ bg)))))
  refine wpQuiet_nil ?_
  rintro _ ⟨pm, rfl⟩
  (try rw [more_more])
  go_upto_region 13 with fail
  generalize hw5 : more w1 _ _ = w5
  have hb5 : Below w1.heap.size w1 w5 := by rw [← hw5]; exact bg
  have hB5w : Below w.heap.size w w5 := HB1.out.trans (hb5.mono HB1.out.size)
  have hbx : ∀ j, w5.cell? ⟨w.heap.size, j, none⟩ = w1.cell? ⟨w.heap.size, j, none⟩ := fun j => hb5.cell (p := ⟨w.heap.size, j, none⟩) s6
  clear hw5
  have hq' : (D.q.length : Int) < c.queue := by omega
  have hq64 := ho'.q1
  obtain ⟨qv, p5, cap5, rfl, c25, f25, hdp, hap, haB, hsl5, hbc5, hB5, hfin⟩ := DStp.fin HH.out hB5w (Nat.le_refl _) (Nat.lt_of_lt_of_le s6 hb5.size) D (DStp.of_grown (HH.out.grown hB5w) (Below.refl _ _)) hq' ⟨k, s, i, g, ⟨es, ei, eg, m, x, y, vx, vy, hp, pw, lf⟩, mask⟩
  have HSL := Lib.hid hsl5
  have HFIN := Lib.hid hfin
  clear hsl5 hfin hbc5 hb5 hB5w HC HO HA HT hL hL0 c0 c1 c2 m6 x0 x1 x2 x3 x4 x5 x6 x8 x9 z0 z1 z2 z3 z4 z5 z6 z7 z8 hlt hltm
  obtain ⟨i0, hi0, hz0, hz1, hz2⟩ := info_partsG info_cm
  have hLS : ∀ W', TwoD w5 d.p w.heap.size W' → (ldM ⟨w.heap.size, 0, none⟩).run Tryz.prog W' = .ok (.agg #[.int .i64 k, .int .i64 s, .int .i64 i, .int .i64 g, .int .i64 es, .int .i64 ei, .int .i64 eg, .int .i64 m, .int .i64 x, .int .i64 y, .int .i64 vx, .int .i64 vy, .int .i64 hp, .int .i64 pw, .int .i64 lf, .int .i64 mask]) W' := fun W' hS => ldM_of ⟨k, s, i, g, ⟨es, ei, eg, m, x, y, vx, vy, hp, pw, lf⟩, mask⟩ fun j v hj => by rw [Nat.zero_add, (hS.2 j).2, hbx j, K0.out j, List.getElem?_toArray]; exact hj
  have HLS := Lib.hid hLS
  clear hLS hbx
  go_upto_region 13 with fail
  refine wp_region_x (S := TwoD w5 d.p w.heap.size) 10 (by kernel_rfl) ⟨⟨Nat.le_refl _, hdp, hB5⟩, fun _ => ⟨rfl, rfl⟩⟩ (fun hHeld => ?_)
  refine anyX_take (n := 10) (i := 0) (v := ?_) rfl (by kernel_rfl) (fun _ _ _ h => h) (Or.inl ⟨by rfl, ?_⟩) (by assumption) ?_
  rotate_left 1
  · (intro w hSw; have hSw1 := hSw.2; go_simp; (try with_reducible rfl))
  simp [Act.put]
  refine anyX_take (n := 10) (i := 1) (v := ?_) rfl (by kernel_rfl) (fun _ _ _ h => h) (Or.inl ⟨by rfl, ?_⟩) (by assumption) ?_
  rotate_left 1
  · (intro w hSw; have hSw1 := hSw.2; go_simp; (try with_reducible rfl))
  simp [Act.put]
  refine anyX_take (n := 10) (i := 2) (v := ?_) rfl (by kernel_rfl) (fun _ _ _ h => h) (Or.inl ⟨by rfl, ?_⟩) (by assumption) ?_
  rotate_left 1
  · (intro w hSw; have hSw1 := hSw.2; go_simp; (try with_reducible rfl))
  simp [Act.put]
  refine anyX_take (n := 10) (i := 3) (v := ?_) rfl (by kernel_rfl) (fun _ _ _ h => h) (Or.inl ⟨by rfl, ?_⟩) (by assumption) ?_
  rotate_left 1
  · (intro w hSw; have hSw1 := hSw.2; go_simp; (try with_reducible rfl))
  simp [Act.put]
  refine anyX_take (n := 10) (i := 4) (v := ?_) rfl (by kernel_rfl) (fun _ _ _ h => h) (Or.inl ⟨by rfl, ?_⟩) (by assumption) ?_
  rotate_left 1
  · (intro w hSw; have hSw1 := hSw.2; go_simp; (try with_reducible rfl))
  simp [Act.put]
  refine anyX_take (n := 10) (i := 5) (v := ?_) rfl (by kernel_rfl) (fun _ _ _ h => h) (Or.inl ⟨by rfl, ?_⟩) (by assumption) ?_
  rotate_left 1
  · (intro w hSw; have hSw1 := hSw.2; have hl5 := HLS.out _ hSw; go_simp; (try with_reducible rfl))
  simp [Act.put]
  refine anyX_ready (rs := [6]) (by kernel_rfl) (by simp) (ReadyX.cons rfl (fun K hK => ?_) ReadyX.nil)
  go_simp
  refine hK.out _ _ (fun hlt => ?_) (fun hHeld => ?_)
  · (try dsimp only); exact hHeld.alloc _
  clear hK
  replace hHeld := hHeld (by omega); try simp [Act.put]
  refine anyX_ready (rs := [7]) (by kernel_rfl) (by simp) (ReadyX.cons rfl (fun K hK => ?_) ReadyX.nil)
  (refine step_append_sl _ (by rfl) (.tmp 78) (.tmp 80) 26 (by rfl) 34 i0 _ 16 128 Tryz.underlying26 hi0 hz0 hz1 hz2 rfl (by omega) _ D.q.length (cellsR cmC D.q) (by rfl) (HSL.out _ bg) ⟨_, 0, none⟩ 1 1 (cmC ⟨k, s, i, g, ⟨es, ei, eg, m, x, y, vx, vy, hp, pw, lf⟩, mask⟩) (by rfl) (by rfl) (new_cellsN _ _ _ _ (by simp)) (cmC_one _) (by omega) (by unfold maxLen; omega) (by omega) ?_; intro g4 off4 cap4 w4 hs4 ht4 ho4; have f24 := (ht4.frozen (a := ⟨d.p, 2, none⟩) (by simp; omega) hap); have c24 := (ht4.cell (a := ⟨d.p, 2, none⟩) (by simp; omega) hap).trans ((hHeld.2 2).1.trans c25); have hd4 := hdp; replace hd4 := Nat.lt_of_lt_of_le hd4 (show w5.heap.size ≤ w4.heap.size from Nat.le_trans (by simp) ht4.size))
  refine hK.out _ _ (fun hlt => ?_) (fun hHeld => ?_)
  · (try dsimp only); exact hHeld.turned ht4 hap haB
  clear hK
  replace hHeld := hHeld (by omega); try simp [Act.put]
  refine anyX_take (n := 10) (i := 8) (v := ?_) rfl (by kernel_rfl) (fun _ _ _ h => h) (Or.inl ⟨by rfl, ?_⟩) (by assumption) ?_
  rotate_left 1
  · (intro w hSw; have hSw1 := hSw.2; go_simp; (try with_reducible rfl))
  simp [Act.put]
  refine anyX_take (n := 10) (i := 9) (v := ?_) rfl (by kernel_rfl) (fun _ _ _ h => h) (Or.inl ⟨by rfl, ?_⟩) (by assumption) ?_
  rotate_left 1
  · (intro w hSw; have hSw1 := hSw.2; go_simp; (try with_reducible rfl))
  simp [Act.put]
  refine anyX_ready (rs := [10]) (by kernel_rfl) (by simp) (ReadyX.cons rfl (fun K hK => ?_) ReadyX.nil)
  go_simp
  refine hK.out _ _ (fun hlt => ?_) (fun hHeld => ?_)
  · exact absurd hlt (by omega)
  clear hK
  clear hHeld; try simp [Act.put]
  refine anyX_done (by kernel_rfl) ?_ _
  go_wp2_with fail
  go_ret
  exact ⟨rfl, HFIN.out _ bg _ _ hs4 ht4 (ho4.elim (fun h => .inl h.symm) fun h => .inr ⟨g4, rfl, h⟩)⟩


set_option maxRecDepth 100000 in
set_option maxHeartbeats 4000000 in
theorem dadmit_err (h : DeskAt w d c D) (ho : CfgOk c) (k s i g es ei eg m x y vx vy hp pw lf mask : Int) (hcb : errB (cmdB ⟨k, s, i, g, ⟨es, ei, eg, m, x, y, vx, vy, hp, pw, lf⟩, mask⟩) = 0) (hf : ¬ c.queue ≤ (D.q.length : Int)) (hk : k = 1) (hz : (ofF c x y != es) = false) (he : ((takeF D.M es ei eg).1 != 0) = true) :
    Calls Tryz.prog 46 #[.pointer (some ⟨d.p, 0, none⟩), .agg #[.int .i64 k, .int .i64 s, .int .i64 i, .int .i64 g, .int .i64 es, .int .i64 ei, .int .i64 eg, .int .i64 m, .int .i64 x, .int .i64 y, .int .i64 vx, .int .i64 vy, .int .i64 hp, .int .i64 pw, .int .i64 lf, .int .i64 mask]] w fun e w' => e = .returned (.int .i64 (takeF D.M es ei eg).1) ∧ DStp w d c w' { D with M := (takeF D.M es ei eg).2 } := by
  have HC := Lib.hid (fun W (_ : Below w.heap.size w W) => checkCmd_any k s i g es ei eg m x y vx vy hp pw lf mask W)
  have HO := Lib.hid (fun W (hW : Below w.heap.size w W) => zof_any W d.bm c x y (MapAt.grow h.map hW) ho)
  have HA := Lib.hid (fun W (hW : Below w.heap.size w W) => alive_any W d.L D.M s i g (h.grown hW).pool)
  have HT := Lib.hid (fun W (hW : Below w.heap.size w W) => take_dk W d c D es ei eg (h.grown hW))
  have HH := Lib.hid h
  have ho' := ho
  have hlt := lt_of_heap h.box
  have hltm := h.ltm
  have c0 := h.cell 0
  have c1 := h.cell 1
  have c2 := h.cell 2
  simp [deskC] at c0 c1 c2
  have m6 := MapAt.cell h.map 6
  simp at m6
  obtain ⟨p, cap, hv⟩ := sl_frm h.q
  rw [hv] at c2
  obtain ⟨w1, hw1, k0, hb1, g0, hsz⟩ := one_box w #[.int .i64 k, .int .i64 s, .int .i64 i, .int .i64 g, .int .i64 es, .int .i64 ei, .int .i64 eg, .int .i64 m, .int .i64 x, .int .i64 y, .int .i64 vx, .int .i64 vy, .int .i64 hp, .int .i64 pw, .int .i64 lf, .int .i64 mask] 34
  replace c0 := (hb1.cell (p := ⟨d.p, 0, none⟩) hlt).trans c0
  replace c1 := (hb1.cell (p := ⟨d.p, 1, none⟩) hlt).trans c1
  replace c2 := (hb1.cell (p := ⟨d.p, 2, none⟩) hlt).trans c2
  replace m6 := (hb1.cell (p := ⟨d.bm, 6, none⟩) hltm).trans m6
  replace hlt : d.p < w1.heap.size := by omega
  replace hltm : d.bm < w1.heap.size := by omega
  have s6 : w.heap.size < w1.heap.size := by omega
  have x0 := k0 0; simp at x0
  have x1 := k0 1; simp at x1
  have x2 := k0 2; simp at x2
  have x3 := k0 3; simp at x3
  have x4 := k0 4; simp at x4
  have x5 := k0 5; simp at x5
  have x6 := k0 6; simp at x6
  have x8 := k0 8; simp at x8
  have x9 := k0 9; simp at x9
  obtain ⟨z0, z1, z2⟩ := ltz hlt
  obtain ⟨z3, z4, z5⟩ := ltz hltm
  obtain ⟨z6, z7, z8⟩ := ltz s6
  have hL : ∀ d os, (ldM ⟨w.heap.size, 0, none⟩).run Tryz.prog (more w1 d os) = .ok (.agg #[.int .i64 k, .int .i64 s, .int .i64 i, .int .i64 g, .int .i64 es, .int .i64 ei, .int .i64 eg, .int .i64 m, .int .i64 x, .int .i64 y, .int .i64 vx, .int .i64 vy, .int .i64 hp, .int .i64 pw, .int .i64 lf, .int .i64 mask]) (more w1 d os) := fun d os => ld_box ⟨k, s, i, g, ⟨es, ei, eg, m, x, y, vx, vy, hp, pw, lf⟩, mask⟩ s6 (fun j => by rw [k0 j, List.getElem?_toArray]; rfl) d os
  have hL0 : (ldM ⟨w.heap.size, 0, none⟩).run Tryz.prog w1 = .ok (.agg #[.int .i64 k, .int .i64 s, .int .i64 i, .int .i64 g, .int .i64 es, .int .i64 ei, .int .i64 eg, .int .i64 m, .int .i64 x, .int .i64 y, .int .i64 vx, .int .i64 vy, .int .i64 hp, .int .i64 pw, .int .i64 lf, .int .i64 mask]) w1 := ld_box0 ⟨k, s, i, g, ⟨es, ei, eg, m, x, y, vx, vy, hp, pw, lf⟩, mask⟩ (fun j => by rw [k0 j, List.getElem?_toArray]; rfl)
  have K0 := Lib.hid k0
  have HW1 := Lib.hid hw1
  have HB1 := Lib.hid hb1
  clear h hv ho hw1 k0 g0 hsz
  generalize hzn : ofF c x y = zn at *
  generalize htk : takeF D.M es ei eg = tk at *
  obtain ⟨er, M1⟩ := tk
  generalize aliveF D.M s i g = al at *
  generalize errB (cmdB ⟨k, s, i, g, ⟨es, ei, eg, m, x, y, vx, vy, hp, pw, lf⟩, mask⟩) = cb at *
  subst hcb hk
  go_enter Tryz.func46, Tryz.ntmps46
  go_upto_region 1 with fail
  rw [← HW1.out]
  go_wp2_with (first | (go_at_call 82; refine (HC.out _ bg).mono ?_; rintro e w' ⟨rfl, hb⟩; obtain ⟨dd, os, rfl⟩ := more_of hb; clear hb; (try rw [more_more])))
  refine wp_region_more (by kernel_rfl) (by kernel_rfl) ?_
  repeat (go_big_quiet_step ((first | (go_at_call 83; with_reducible exact more_call (HO.out _ bg)) | (go_at_call 84; with_reducible exact more_call (HA.out _ bg)))))
  refine wpQuiet_nil ?_
  rintro _ ⟨pm, rfl⟩
  (try rw [more_more])
  go_wp2_with fail
  refine wp_region_more (by kernel_rfl) (by kernel_rfl) ?_
  repeat (go_big_quiet_step ((first | (go_at_call 83; with_reducible exact more_call (HO.out _ bg)) | (go_at_call 84; with_reducible exact more_call (HA.out _ bg)))))
  refine wpQuiet_nil ?_
  rintro _ ⟨pm, rfl⟩
  (try rw [more_more])
  go_wp2_with fail
  generalize hw4 : more w1 _ _ = w4
  have hb4 : Below w1.heap.size w1 w4 := by rw [← hw4]; exact bg
  have hB4w : Below w.heap.size w w4 := HB1.out.trans (hb4.mono HB1.out.size)
  have v4 := (hb4.cell (p := ⟨w.heap.size, 4, none⟩) s6).trans x4; have v5 := (hb4.cell (p := ⟨w.heap.size, 5, none⟩) s6).trans x5; have v6 := (hb4.cell (p := ⟨w.heap.size, 6, none⟩) s6).trans x6
  have v1 := (hb4.cell (p := ⟨d.p, 1, none⟩) hlt).trans c1
  clear hw4
  refine wp_region_still_tail 7 (by kernel_rfl) (by kernel_rfl) ?_
  simp only [List.take_succ_cons, List.take_zero, List.drop_succ_cons, List.drop_zero]
  repeat (first | still_step)
  refine wpStill_nil ?_
  go_wp2_with fail
  refine (HT.out _ (hB4w.trans (Below.mono (B := w4.heap.size) bg hB4w.size))).mono ?_
  rintro e w5 ⟨rfl, hs⟩
  have HS := Lib.hid (hs.from_below (hB4w.trans (Below.mono (B := w4.heap.size) bg hB4w.size)))
  clear hs
  go_wp2_with fail
  go_ret
  exact ⟨rfl, HS.out.then_below bg⟩

set_option maxRecDepth 100000 in
set_option maxHeartbeats 4000000 in
theorem dadmit_ok1 (h : DeskAt w d c D) (ho : CfgOk c) (k s i g es ei eg m x y vx vy hp pw lf mask : Int) (hcb : errB (cmdB ⟨k, s, i, g, ⟨es, ei, eg, m, x, y, vx, vy, hp, pw, lf⟩, mask⟩) = 0) (hf : ¬ c.queue ≤ (D.q.length : Int)) (hk : k = 1) (hz : (ofF c x y != es) = false) (he : (takeF D.M es ei eg).1 = 0) :
    Calls Tryz.prog 46 #[.pointer (some ⟨d.p, 0, none⟩), .agg #[.int .i64 k, .int .i64 s, .int .i64 i, .int .i64 g, .int .i64 es, .int .i64 ei, .int .i64 eg, .int .i64 m, .int .i64 x, .int .i64 y, .int .i64 vx, .int .i64 vy, .int .i64 hp, .int .i64 pw, .int .i64 lf, .int .i64 mask]] w fun e w' => e = .returned (.int .i64 0) ∧ DStp w d c w' { D with M := (takeF D.M es ei eg).2, q := D.q ++ [⟨1, s, i, g, ⟨es, ei, eg, m, x, y, vx, vy, hp, pw, lf⟩, mask⟩] } := by
  have HC := Lib.hid (fun W (_ : Below w.heap.size w W) => checkCmd_any k s i g es ei eg m x y vx vy hp pw lf mask W)
  have HO := Lib.hid (fun W (hW : Below w.heap.size w W) => zof_any W d.bm c x y (MapAt.grow h.map hW) ho)
  have HA := Lib.hid (fun W (hW : Below w.heap.size w W) => alive_any W d.L D.M s i g (h.grown hW).pool)
  have HT := Lib.hid (fun W (hW : Below w.heap.size w W) => take_dk W d c D es ei eg (h.grown hW))
  have HH := Lib.hid h
  have ho' := ho
  have hlt := lt_of_heap h.box
  have hltm := h.ltm
  have c0 := h.cell 0
  have c1 := h.cell 1
  have c2 := h.cell 2
  simp [deskC] at c0 c1 c2
  have m6 := MapAt.cell h.map 6
  simp at m6
  obtain ⟨p, cap, hv⟩ := sl_frm h.q
  rw [hv] at c2
  obtain ⟨w1, hw1, k0, hb1, g0, hsz⟩ := one_box w #[.int .i64 k, .int .i64 s, .int .i64 i, .int .i64 g, .int .i64 es, .int .i64 ei, .int .i64 eg, .int .i64 m, .int .i64 x, .int .i64 y, .int .i64 vx, .int .i64 vy, .int .i64 hp, .int .i64 pw, .int .i64 lf, .int .i64 mask] 34
  replace c0 := (hb1.cell (p := ⟨d.p, 0, none⟩) hlt).trans c0
  replace c1 := (hb1.cell (p := ⟨d.p, 1, none⟩) hlt).trans c1
  replace c2 := (hb1.cell (p := ⟨d.p, 2, none⟩) hlt).trans c2
  replace m6 := (hb1.cell (p := ⟨d.bm, 6, none⟩) hltm).trans m6
  replace hlt : d.p < w1.heap.size := by omega
  replace hltm : d.bm < w1.heap.size := by omega
  have s6 : w.heap.size < w1.heap.size := by omega
  have x0 := k0 0; simp at x0
  have x1 := k0 1; simp at x1
  have x2 := k0 2; simp at x2
  have x3 := k0 3; simp at x3
  have x4 := k0 4; simp at x4
  have x5 := k0 5; simp at x5
  have x6 := k0 6; simp at x6
  have x8 := k0 8; simp at x8
  have x9 := k0 9; simp at x9
  obtain ⟨z0, z1, z2⟩ := ltz hlt
  obtain ⟨z3, z4, z5⟩ := ltz hltm
  obtain ⟨z6, z7, z8⟩ := ltz s6
  have hL : ∀ d os, (ldM ⟨w.heap.size, 0, none⟩).run Tryz.prog (more w1 d os) = .ok (.agg #[.int .i64 k, .int .i64 s, .int .i64 i, .int .i64 g, .int .i64 es, .int .i64 ei, .int .i64 eg, .int .i64 m, .int .i64 x, .int .i64 y, .int .i64 vx, .int .i64 vy, .int .i64 hp, .int .i64 pw, .int .i64 lf, .int .i64 mask]) (more w1 d os) := fun d os => ld_box ⟨k, s, i, g, ⟨es, ei, eg, m, x, y, vx, vy, hp, pw, lf⟩, mask⟩ s6 (fun j => by rw [k0 j, List.getElem?_toArray]; rfl) d os
  have hL0 : (ldM ⟨w.heap.size, 0, none⟩).run Tryz.prog w1 = .ok (.agg #[.int .i64 k, .int .i64 s, .int .i64 i, .int .i64 g, .int .i64 es, .int .i64 ei, .int .i64 eg, .int .i64 m, .int .i64 x, .int .i64 y, .int .i64 vx, .int .i64 vy, .int .i64 hp, .int .i64 pw, .int .i64 lf, .int .i64 mask]) w1 := ld_box0 ⟨k, s, i, g, ⟨es, ei, eg, m, x, y, vx, vy, hp, pw, lf⟩, mask⟩ (fun j => by rw [k0 j, List.getElem?_toArray]; rfl)
  have K0 := Lib.hid k0
  have HW1 := Lib.hid hw1
  have HB1 := Lib.hid hb1
  clear h hv ho hw1 k0 g0 hsz
  generalize hzn : ofF c x y = zn at *
  generalize htk : takeF D.M es ei eg = tk at *
  obtain ⟨er, M1⟩ := tk
  generalize aliveF D.M s i g = al at *
  generalize errB (cmdB ⟨k, s, i, g, ⟨es, ei, eg, m, x, y, vx, vy, hp, pw, lf⟩, mask⟩) = cb at *
  subst hcb hk he
  go_enter Tryz.func46, Tryz.ntmps46
  go_upto_region 1 with fail
  rw [← HW1.out]
  go_wp2_with (first | (go_at_call 82; refine (HC.out _ bg).mono ?_; rintro e w' ⟨rfl, hb⟩; obtain ⟨dd, os, rfl⟩ := more_of hb; clear hb; (try rw [more_more])))
  refine wp_region_more (by kernel_rfl) (by kernel_rfl) ?_
  repeat (go_big_quiet_step ((first | (go_at_call 83; with_reducible exact more_call (HO.out _ bg)) | (go_at_call 84; with_reducible exact more_call (HA.out _ bg)))))
  refine wpQuiet_nil ?_
  rintro _ ⟨pm, rfl⟩
  (try rw [more_more])
  go_wp2_with fail
  refine wp_region_more (by kernel_rfl) (by kernel_rfl) ?_
  repeat (go_big_quiet_step ((first | (go_at_call 83; with_reducible exact more_call (HO.out _ bg)) | (go_at_call 84; with_reducible exact more_call (HA.out _ bg)))))
  refine wpQuiet_nil ?_
  rintro _ ⟨pm, rfl⟩
  (try rw [more_more])
  go_wp2_with fail
  generalize hw4 : more w1 _ _ = w4
  have hb4 : Below w1.heap.size w1 w4 := by rw [← hw4]; exact bg
  have hB4w : Below w.heap.size w w4 := HB1.out.trans (hb4.mono HB1.out.size)
  have v4 := (hb4.cell (p := ⟨w.heap.size, 4, none⟩) s6).trans x4; have v5 := (hb4.cell (p := ⟨w.heap.size, 5, none⟩) s6).trans x5; have v6 := (hb4.cell (p := ⟨w.heap.size, 6, none⟩) s6).trans x6
  have v1 := (hb4.cell (p := ⟨d.p, 1, none⟩) hlt).trans c1
  clear hw4
  refine wp_region_still_tail 7 (by kernel_rfl) (by kernel_rfl) ?_
  simp only [List.take_succ_cons, List.take_zero, List.drop_succ_cons, List.drop_zero]
  repeat (first | still_step)
  refine wpStill_nil ?_
  go_wp2_with fail
  refine (HT.out _ (hB4w.trans (Below.mono (B := w4.heap.size) bg hB4w.size))).mono ?_
  rintro e w5 ⟨rfl, hs⟩
  have hq' : (D.q.length : Int) < c.queue := by omega
  have hq64 := ho'.q1
  have hb4b : Below w.heap.size w1 w4 := Below.mono (B := w1.heap.size) hb4 (by omega)
  obtain ⟨qv, p5, cap5, rfl, c25, f25, hdp, hap, haB, hsl5, hbc5, hB5, hfin⟩ := DStp.fin HH.out (hB4w.trans (Below.mono (B := w4.heap.size) bg hB4w.size)) (Nat.le_refl _) (by first | exact Nat.lt_of_lt_of_le s6 hb4.size | (simp; exact Nat.lt_of_lt_of_le s6 hb4.size)) _ hs hq' ⟨1, s, i, g, ⟨es, ei, eg, m, x, y, vx, vy, hp, pw, lf⟩, mask⟩
  have hbx : ∀ j, w5.cell? ⟨w.heap.size, j, none⟩ = w1.cell? ⟨w.heap.size, j, none⟩ := fun j => (hbc5 j).trans (hb4.cell (p := ⟨w.heap.size, j, none⟩) s6)
  have HSL := Lib.hid hsl5
  have HFIN := Lib.hid hfin
  clear hs hsl5 hfin hbc5 hb4 hb4b hB4w HC HO HA HT hL hL0 c0 c1 c2 m6 x0 x1 x2 x3 x4 x5 x6 x8 x9 v1 v4 v5 v6 z0 z1 z2 z3 z4 z5 z6 z7 z8 hlt hltm
  obtain ⟨i0, hi0, hz0, hz1, hz2⟩ := info_partsG info_cm
  have hLS : ∀ W', TwoD w5 d.p w.heap.size W' → (ldM ⟨w.heap.size, 0, none⟩).run Tryz.prog W' = .ok (.agg #[.int .i64 1, .int .i64 s, .int .i64 i, .int .i64 g, .int .i64 es, .int .i64 ei, .int .i64 eg, .int .i64 m, .int .i64 x, .int .i64 y, .int .i64 vx, .int .i64 vy, .int .i64 hp, .int .i64 pw, .int .i64 lf, .int .i64 mask]) W' := fun W' hS => ldM_of ⟨1, s, i, g, ⟨es, ei, eg, m, x, y, vx, vy, hp, pw, lf⟩, mask⟩ fun j v hj => by rw [Nat.zero_add, (hS.2 j).2, hbx j, K0.out j, List.getElem?_toArray]; exact hj
  have HLS := Lib.hid hLS
  clear hLS hbx
  go_upto_region 13 with fail
  refine wp_region_x (S := TwoD w5 d.p w.heap.size) 10 (by kernel_rfl) ⟨⟨Nat.le_refl _, hdp, hB5⟩, fun _ => ⟨rfl, rfl⟩⟩ (fun hHeld => ?_)
  refine anyX_take (n := 10) (i := 0) (v := ?_) rfl (by kernel_rfl) (fun _ _ _ h => h) (Or.inl ⟨by rfl, ?_⟩) (by assumption) ?_
  rotate_left 1
  · (intro w hSw; have hSw1 := hSw.2; go_simp; (try with_reducible rfl))
  simp [Act.put]
  refine anyX_take (n := 10) (i := 1) (v := ?_) rfl (by kernel_rfl) (fun _ _ _ h => h) (Or.inl ⟨by rfl, ?_⟩) (by assumption) ?_
  rotate_left 1
  · (intro w hSw; have hSw1 := hSw.2; go_simp; (try with_reducible rfl))
  simp [Act.put]
  refine anyX_take (n := 10) (i := 2) (v := ?_) rfl (by kernel_rfl) (fun _ _ _ h => h) (Or.inl ⟨by rfl, ?_⟩) (by assumption) ?_
  rotate_left 1
  · (intro w hSw; have hSw1 := hSw.2; go_simp; (try with_reducible rfl))
  simp [Act.put]
  refine anyX_take (n := 10) (i := 3) (v := ?_) rfl (by kernel_rfl) (fun _ _ _ h => h) (Or.inl ⟨by rfl, ?_⟩) (by assumption) ?_
  rotate_left 1
  · (intro w hSw; have hSw1 := hSw.2; go_simp; (try with_reducible rfl))
  simp [Act.put]
  refine anyX_take (n := 10) (i := 4) (v := ?_) rfl (by kernel_rfl) (fun _ _ _ h => h) (Or.inl ⟨by rfl, ?_⟩) (by assumption) ?_
  rotate_left 1
  · (intro w hSw; have hSw1 := hSw.2; go_simp; (try with_reducible rfl))
  simp [Act.put]
  refine anyX_take (n := 10) (i := 5) (v := ?_) rfl (by kernel_rfl) (fun _ _ _ h => h) (Or.inl ⟨by rfl, ?_⟩) (by assumption) ?_
  rotate_left 1
  · (intro w hSw; have hSw1 := hSw.2; have hl5 := HLS.out _ hSw; go_simp; (try with_reducible rfl))
  simp [Act.put]
  refine anyX_ready (rs := [6]) (by kernel_rfl) (by simp) (ReadyX.cons rfl (fun K hK => ?_) ReadyX.nil)
  go_simp
  refine hK.out _ _ (fun hlt => ?_) (fun hHeld => ?_)
  · (try dsimp only); exact hHeld.alloc _
  clear hK
  replace hHeld := hHeld (by omega); try simp [Act.put]
  refine anyX_ready (rs := [7]) (by kernel_rfl) (by simp) (ReadyX.cons rfl (fun K hK => ?_) ReadyX.nil)
  (refine step_append_sl _ (by rfl) (.tmp 78) (.tmp 80) 26 (by rfl) 34 i0 _ 16 128 Tryz.underlying26 hi0 hz0 hz1 hz2 rfl (by omega) _ D.q.length (cellsR cmC D.q) (by rfl) (HSL.out _ bg) ⟨_, 0, none⟩ 1 1 (cmC ⟨1, s, i, g, ⟨es, ei, eg, m, x, y, vx, vy, hp, pw, lf⟩, mask⟩) (by rfl) (by rfl) (new_cellsN _ _ _ _ (by simp)) (cmC_one _) (by omega) (by unfold maxLen; omega) (by omega) ?_; intro g4 off4 cap4 w4 hs4 ht4 ho4; have f24 := (ht4.frozen (a := ⟨d.p, 2, none⟩) (by simp; omega) hap); have c24 := (ht4.cell (a := ⟨d.p, 2, none⟩) (by simp; omega) hap).trans ((hHeld.2 2).1.trans c25); have hd4 := hdp; replace hd4 := Nat.lt_of_lt_of_le hd4 (show w5.heap.size ≤ w4.heap.size from Nat.le_trans (by simp) ht4.size))
  refine hK.out _ _ (fun hlt => ?_) (fun hHeld => ?_)
  · (try dsimp only); exact hHeld.turned ht4 hap haB
  clear hK
  replace hHeld := hHeld (by omega); try simp [Act.put]
  refine anyX_take (n := 10) (i := 8) (v := ?_) rfl (by kernel_rfl) (fun _ _ _ h => h) (Or.inl ⟨by rfl, ?_⟩) (by assumption) ?_
  rotate_left 1
  · (intro w hSw; have hSw1 := hSw.2; go_simp; (try with_reducible rfl))
  simp [Act.put]
  refine anyX_take (n := 10) (i := 9) (v := ?_) rfl (by kernel_rfl) (fun _ _ _ h => h) (Or.inl ⟨by rfl, ?_⟩) (by assumption) ?_
  rotate_left 1
  · (intro w hSw; have hSw1 := hSw.2; go_simp; (try with_reducible rfl))
  simp [Act.put]
  refine anyX_ready (rs := [10]) (by kernel_rfl) (by simp) (ReadyX.cons rfl (fun K hK => ?_) ReadyX.nil)
  go_simp
  refine hK.out _ _ (fun hlt => ?_) (fun hHeld => ?_)
  · exact absurd hlt (by omega)
  clear hK
  clear hHeld; try simp [Act.put]
  refine anyX_done (by kernel_rfl) ?_ _
  go_wp2_with fail
  go_ret
  exact ⟨rfl, HFIN.out _ bg _ _ hs4 ht4 (ho4.elim (fun h => .inl h.symm) fun h => .inr ⟨g4, rfl, h⟩)⟩

theorem dadmit_any (h : DeskAt w d c D) (ho : CfgOk c) (m : Cm) : Calls Tryz.prog 46 #[.pointer (some ⟨d.p, 0, none⟩), .agg (cmC m).toArray] w fun e w' => e = .returned (.int .i64 (admitF c D m).1) ∧ DStp w d c w' (admitF c D m).2 := by
  have HG := fun (k : Int) {f : FuncId} {args : Array Value} (hc : Calls Tryz.prog f args w fun e w' => e = .returned (.int .i64 k) ∧ Below w.heap.size w w') => hc.mono fun _ _ ⟨h1, h2⟩ => (⟨h1, DStp.of_grown h h2⟩ : _ ∧ DStp w d c _ D)
  obtain ⟨k, s, i, g, ⟨es, ei, eg, m, x, y, vx, vy, hp, pw, lf⟩, mask⟩ := m
  unfold admitF fullB
  simp only
  cases hcb : cmdB ⟨k, s, i, g, ⟨es, ei, eg, m, x, y, vx, vy, hp, pw, lf⟩, mask⟩ with
  | false =>
    rw [if_pos rfl]
    exact HG _ (dadmit_bad w d c D h ho k s i g es ei eg m x y vx vy hp pw lf mask (by rw [hcb]; rfl))
  | true =>
    have hcb' : errB (cmdB ⟨k, s, i, g, ⟨es, ei, eg, m, x, y, vx, vy, hp, pw, lf⟩, mask⟩) = 0 := by rw [hcb]; rfl
    rw [if_neg (by simp)]
    split
    · rename_i hf; exact HG _ (dadmit_full w d c D h ho k s i g es ei eg m x y vx vy hp pw lf mask hcb' (of_decide_eq_true hf))
    · rename_i hf
      have hf' : ¬ c.queue ≤ (D.q.length : Int) := fun e => hf (decide_eq_true e)
      by_cases hk : k = 1
      · rw [if_pos hk]
        split
        · rename_i hz; exact HG _ (dadmit_range w d c D h ho k s i g es ei eg m x y vx vy hp pw lf mask hcb' hf' hk (by simpa using hz))
        · rename_i hz
          have hz' : (ofF c x y != es) = false := by simpa using hz
          split
          · rename_i he; exact dadmit_err w d c D h ho k s i g es ei eg m x y vx vy hp pw lf mask hcb' hf' hk hz' (by simpa using he)
          · rename_i he
            have := dadmit_ok1 w d c D h ho k s i g es ei eg m x y vx vy hp pw lf mask hcb' hf' hk hz' (by simpa using he)
            subst hk
            exact this
      · have hk' : (k == 1) = false := by simpa using hk
        rw [if_neg hk]
        split
        · rename_i ha; exact HG _ (dadmit_stale w d c D h ho k s i g es ei eg m x y vx vy hp pw lf mask hcb' hf' hk' ha)
        · rename_i ha; exact dadmit_ok2 w d c D h ho k s i g es ei eg m x y vx vy hp pw lf mask hcb' hf' hk' (by simpa using ha)
end
end Go.Proofs.YtoimjjhopljdmaaGreat
