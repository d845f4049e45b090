/-
  Chapter 16: the reference's desk: Admit. Condition: the world may be; the command's mask is an int (64 bits).
-/
import Derived.Test.YtbghjklnlhoklaaMk15
import Derived.Test.YtbghjklnlhoklaaRefF
import Derived.Test.YtbghjklnlhoklaaMk16
import Derived.Test.YtbghjklnlhoklaaMk13
import Derived.Test.YtbghjklnlhoklaaMk14
namespace Go.Proofs.Ytbghjklnlhoklaa
open Go.RowKit

theorem RDStp.next {w w' w'' : World} {r r1 : RDLay} {c : Cfg} {kk : Int} {D'' : Dk} (e1 : r1.p = r.p) (e2 : r1.R = r.R) (hc : Chg w w' r.own) (ho : ∀ b, r1.own b → r.own b ∨ w.heap.size ≤ b) (h2 : RDStp w' r1 c kk w'' D'') : RDStp w r c kk w'' D'' := by
  obtain ⟨d2, f1, f2, hd2, hc2, ho2⟩ := h2
  refine ⟨d2, f1.trans e1, f2.trans e2, hd2, hc.trans hc2 fun b hb h1 => (ho b h1).elim id fun h => by omega, fun b hb => ?_⟩
  rcases ho2 b hb with h | h
  · exact ho b h
  · exact .inr (Nat.le_trans hc.size h)
theorem RDStp.fin {w : World} {r : RDLay} {c : Cfg} {kk : Int} {D1 : Dk} {W1 W : World} {B : Nat} (h : RDeskAt w r c kk D1) (hW1 : Below w.heap.size w W1) (hB0 : w.heap.size ≤ B) (hB : B < W1.heap.size) (D2 : Dk) (HD : RDStp W1 r c kk W D2) (hq : (D2.q.length : Int) < c.queue) (m : Cm) :
    ∃ qv p cap, qv = .slice p D2.q.length cap ∧ W.cell? ⟨r.p, 8, none⟩ = some qv ∧ W.frozen? ⟨r.p, 8, none⟩ = false ∧ r.p < W.heap.size ∧ qv.ownBlock ≠ some r.p ∧ qv.ownBlock ≠ some B ∧ (∀ Wa, Below W.heap.size W Wa → Sl Wa 37 16 qv D2.q.length (cellsR cmC D2.q)) ∧
      (∀ j, W.cell? ⟨B, j, none⟩ = W1.cell? ⟨B, j, none⟩) ∧ B < W.heap.size ∧
      ∀ Wa, Below W.heap.size W Wa → ∀ w4 v', Sl w4 37 16 v' (D2.q.length + 1) (cellsR cmC D2.q ++ cmC m) → Turned Wa w4 qv.ownBlock → (v'.ownBlock = qv.ownBlock ∨ ∃ g, v'.ownBlock = some g ∧ Wa.heap.size ≤ g) → RDStp w r c kk (w4.setCell ⟨r.p, 8, none⟩ v') { D2 with q := D2.q ++ [m] } := by
  have hnB : ¬ r.own B := fun e => by have := h.lt e; omega
  obtain ⟨d', e1, e2, hd, hc, ho⟩ := HD
  have hnB' : ¬ d'.own B := fun e => (ho B e).elim hnB fun h => by omega
  have c2 := hd.cell 8
  have f2 := hd.frozen 8
  have hp := lt_of_heap hd.box
  have hap : d'.qv.ownBlock ≠ some d'.p := fun e => (hd.aq _ e).1 rfl
  simp [rdeskC] at c2
  rw [e1] at c2 f2 hp hap
  obtain ⟨p, cap, hv⟩ := sl_frm hd.q
  refine ⟨d'.qv, p, cap, hv, c2, f2, hp, hap, fun e => hnB' (.inr (.inr e)), fun Wa hWa => (hd.grown hWa).q, fun j => hc.cell (a := ⟨B, j, none⟩) hB hnB, Nat.lt_of_lt_of_le hB hc.size, fun Wa hWa w4 v' hs ht hv' => ?_⟩
  have := (hd.grown hWa).queued (m := m) hs ht hv' hq
  rw [e1] at this
  exact RDStp.from_below hW1 (RDStp.next e1 e2 hc ho (this.from_below hWa))
theorem rtake_dk (w : World) (r : RDLay) (c : Cfg) (kk : Int) (D : Dk) (s i g : Int) (h : RDeskAt w r c kk D) : Calls Try.prog 84 #[.pointer (some ⟨r.R.p, 0, none⟩), .agg #[.int .i64 s, .int .i64 i, .int .i64 g]] w fun e w' => e = .returned (.int .i64 (takeF D.M s i g).1) ∧ RDStp w r c kk w' { D with M := (takeF D.M s i g).2 } :=
  (rtake_any w r.R _ D.M h.pool s i g).mono fun _ _ ⟨h1, h2⟩ => ⟨h1, RDStp.pool h h2⟩

attribute [local go_sem ↓] loadVar_ldM storeVar_stM
section
variable (w : World) (r : RDLay) (c : Cfg) (kk : Int) (D : Dk)
set_option maxRecDepth 100000 in
set_option maxHeartbeats 4000000 in
theorem radmit_bad (h : RDeskAt w r c kk D) (ho : CfgOk c) (k s i g es ei eg m x y vx vy hp pw lf mask : Int) (him : (-9223372036854775808 ≤ m ∧ m ≤ 9223372036854775807)) (hcb : cmdB ⟨k, s, i, g, ⟨es, ei, eg, m, x, y, vx, vy, hp, pw, lf⟩, mask⟩ = false) :
    Calls Try.prog 58 #[.pointer (some ⟨r.p, 0, none⟩), .agg #[.int .i64 k, .int .i64 s, .int .i64 i, .int .i64 g, .int .i64 es, .int .i64 ei, .int .i64 eg, .int .i64 m, .int .i64 x, .int .i64 y, .int .i64 vx, .int .i64 vy, .int .i64 hp, .int .i64 pw, .int .i64 lf, .int .i64 mask]] w fun e w' => e = .returned (.int .i64 1) ∧ Below w.heap.size w w' := by
  have HC := Lib.hid (fun W (_ : Below w.heap.size w W) => rMayCmd_m ⟨k, s, i, g, ⟨es, ei, eg, m, x, y, vx, vy, hp, pw, lf⟩, mask⟩ W him)
  have HO := Lib.hid (fun W (_ : Below w.heap.size w W) => rof_any c.cols c.rows c.side c.radius c.speed c.ids c.queue x y W ho)
  have HA := Lib.hid (fun W (hW : Below w.heap.size w W) => ralive_any W r.R _ D.M (h.grown hW).pool s i g)
  have HT := Lib.hid (fun W (hW : Below w.heap.size w W) => rtake_dk W r c kk D es ei eg (h.grown hW))
  have HH := Lib.hid h
  have ho' := ho
  have hlt := lt_of_heap h.box
  have c0 := h.cell 0
  have c1 := h.cell 1
  have c2 := h.cell 2
  have c3 := h.cell 3
  have c4 := h.cell 4
  have c5 := h.cell 5
  have c6 := h.cell 6
  have c7 := h.cell 7
  have c8 := h.cell 8
  simp [rdeskC] at c0 c1 c2 c3 c4 c5 c6 c7 c8
  obtain ⟨p, cap, hv⟩ := sl_frm h.q
  rw [hv] at c8
  obtain ⟨w1, hw1, k0, hb1, g0, hsz⟩ := one_box w #[.int .i64 k, .int .i64 s, .int .i64 i, .int .i64 g, .int .i64 es, .int .i64 ei, .int .i64 eg, .int .i64 m, .int .i64 x, .int .i64 y, .int .i64 vx, .int .i64 vy, .int .i64 hp, .int .i64 pw, .int .i64 lf, .int .i64 mask] 37
  replace c0 := (hb1.cell (p := ⟨r.p, 0, none⟩) hlt).trans c0
  replace c1 := (hb1.cell (p := ⟨r.p, 1, none⟩) hlt).trans c1
  replace c2 := (hb1.cell (p := ⟨r.p, 2, none⟩) hlt).trans c2
  replace c3 := (hb1.cell (p := ⟨r.p, 3, none⟩) hlt).trans c3
  replace c4 := (hb1.cell (p := ⟨r.p, 4, none⟩) hlt).trans c4
  replace c5 := (hb1.cell (p := ⟨r.p, 5, none⟩) hlt).trans c5
  replace c6 := (hb1.cell (p := ⟨r.p, 6, none⟩) hlt).trans c6
  replace c7 := (hb1.cell (p := ⟨r.p, 7, none⟩) hlt).trans c7
  replace c8 := (hb1.cell (p := ⟨r.p, 8, none⟩) hlt).trans c8
  replace hlt : r.p < w1.heap.size := by omega
  have s6 : w.heap.size < w1.heap.size := by omega
  have x0 := k0 0; simp at x0
  have x1 := k0 1; simp at x1
  have x2 := k0 2; simp at x2
  have x3 := k0 3; simp at x3
  have x4 := k0 4; simp at x4
  have x5 := k0 5; simp at x5
  have x6 := k0 6; simp at x6
  have x8 := k0 8; simp at x8
  have x9 := k0 9; simp at x9
  obtain ⟨z0, z1, z2⟩ := ltz hlt
  obtain ⟨z6, z7, z8⟩ := ltz s6
  have hL : ∀ d os, (ldM ⟨w.heap.size, 0, none⟩).run Try.prog (more w1 d os) = .ok (.agg #[.int .i64 k, .int .i64 s, .int .i64 i, .int .i64 g, .int .i64 es, .int .i64 ei, .int .i64 eg, .int .i64 m, .int .i64 x, .int .i64 y, .int .i64 vx, .int .i64 vy, .int .i64 hp, .int .i64 pw, .int .i64 lf, .int .i64 mask]) (more w1 d os) := fun d os => ld_box ⟨k, s, i, g, ⟨es, ei, eg, m, x, y, vx, vy, hp, pw, lf⟩, mask⟩ s6 (fun j => by rw [k0 j, List.getElem?_toArray]; rfl) d os
  have hL0 : (ldM ⟨w.heap.size, 0, none⟩).run Try.prog w1 = .ok (.agg #[.int .i64 k, .int .i64 s, .int .i64 i, .int .i64 g, .int .i64 es, .int .i64 ei, .int .i64 eg, .int .i64 m, .int .i64 x, .int .i64 y, .int .i64 vx, .int .i64 vy, .int .i64 hp, .int .i64 pw, .int .i64 lf, .int .i64 mask]) w1 := ld_box0 ⟨k, s, i, g, ⟨es, ei, eg, m, x, y, vx, vy, hp, pw, lf⟩, mask⟩ (fun j => by rw [k0 j, List.getElem?_toArray]; rfl)
  have K0 := Lib.hid k0
  have HW1 := Lib.hid hw1
  have HB1 := Lib.hid hb1
  clear h hv ho hw1 k0 g0 hsz him
  generalize ofF ⟨c.cols, c.rows, c.side, c.radius, c.speed, c.ids, c.queue⟩ x y = zn at *
  generalize aliveF D.M s i g = al at *
  generalize cmdB ⟨k, s, i, g, ⟨es, ei, eg, m, x, y, vx, vy, hp, pw, lf⟩, mask⟩ = cb at *
  subst hcb
  go_enter Try.func58, Try.ntmps58
  go_upto_region 1 with fail
  rw [← HW1.out]
  go_wp2_with (first | (go_at_call 23; refine (HC.out _ (by repeat' (first | (with_reducible exact Below.refl _ _) | (with_reducible assumption) | (with_reducible refine below_drewN ?_ _) | (with_reducible refine below_more _ _ _ ?_ ?_) | (with_reducible refine Below.alloc ?_ ?_ _) | (with_reducible refine Below.drew ?_) | (with_reducible refine Below.setCell ?_ ?_ _) | go_size))).mono ?_; rintro e w' ⟨rfl, hb⟩; obtain ⟨dd, os, rfl⟩ := more_of hb; clear hb; (try rw [more_more])))
  go_ret
  exact ⟨rfl, (by repeat' (first | (with_reducible exact Below.refl _ _) | (with_reducible assumption) | (with_reducible refine below_drewN ?_ _) | (with_reducible refine below_more _ _ _ ?_ ?_) | (with_reducible refine Below.alloc ?_ ?_ _) | (with_reducible refine Below.drew ?_) | (with_reducible refine Below.setCell ?_ ?_ _) | go_size))⟩

set_option maxRecDepth 100000 in
set_option maxHeartbeats 4000000 in
theorem radmit_full (h : RDeskAt w r c kk D) (ho : CfgOk c) (k s i g es ei eg m x y vx vy hp pw lf mask : Int) (him : (-9223372036854775808 ≤ m ∧ m ≤ 9223372036854775807)) (hcb : cmdB ⟨k, s, i, g, ⟨es, ei, eg, m, x, y, vx, vy, hp, pw, lf⟩, mask⟩ = true) (hf : c.queue ≤ (D.q.length : Int)) :
    Calls Try.prog 58 #[.pointer (some ⟨r.p, 0, none⟩), .agg #[.int .i64 k, .int .i64 s, .int .i64 i, .int .i64 g, .int .i64 es, .int .i64 ei, .int .i64 eg, .int .i64 m, .int .i64 x, .int .i64 y, .int .i64 vx, .int .i64 vy, .int .i64 hp, .int .i64 pw, .int .i64 lf, .int .i64 mask]] w fun e w' => e = .returned (.int .i64 8) ∧ Below w.heap.size w w' := by
  have HC := Lib.hid (fun W (_ : Below w.heap.size w W) => rMayCmd_m ⟨k, s, i, g, ⟨es, ei, eg, m, x, y, vx, vy, hp, pw, lf⟩, mask⟩ W him)
  have HO := Lib.hid (fun W (_ : Below w.heap.size w W) => rof_any c.cols c.rows c.side c.radius c.speed c.ids c.queue x y W ho)
  have HA := Lib.hid (fun W (hW : Below w.heap.size w W) => ralive_any W r.R _ D.M (h.grown hW).pool s i g)
  have HT := Lib.hid (fun W (hW : Below w.heap.size w W) => rtake_dk W r c kk D es ei eg (h.grown hW))
  have HH := Lib.hid h
  have ho' := ho
  have hlt := lt_of_heap h.box
  have c0 := h.cell 0
  have c1 := h.cell 1
  have c2 := h.cell 2
  have c3 := h.cell 3
  have c4 := h.cell 4
  have c5 := h.cell 5
  have c6 := h.cell 6
  have c7 := h.cell 7
  have c8 := h.cell 8
  simp [rdeskC] at c0 c1 c2 c3 c4 c5 c6 c7 c8
  obtain ⟨p, cap, hv⟩ := sl_frm h.q
  rw [hv] at c8
  obtain ⟨w1, hw1, k0, hb1, g0, hsz⟩ := one_box w #[.int .i64 k, .int .i64 s, .int .i64 i, .int .i64 g, .int .i64 es, .int .i64 ei, .int .i64 eg, .int .i64 m, .int .i64 x, .int .i64 y, .int .i64 vx, .int .i64 vy, .int .i64 hp, .int .i64 pw, .int .i64 lf, .int .i64 mask] 37
  replace c0 := (hb1.cell (p := ⟨r.p, 0, none⟩) hlt).trans c0
  replace c1 := (hb1.cell (p := ⟨r.p, 1, none⟩) hlt).trans c1
  replace c2 := (hb1.cell (p := ⟨r.p, 2, none⟩) hlt).trans c2
  replace c3 := (hb1.cell (p := ⟨r.p, 3, none⟩) hlt).trans c3
  replace c4 := (hb1.cell (p := ⟨r.p, 4, none⟩) hlt).trans c4
  replace c5 := (hb1.cell (p := ⟨r.p, 5, none⟩) hlt).trans c5
  replace c6 := (hb1.cell (p := ⟨r.p, 6, none⟩) hlt).trans c6
  replace c7 := (hb1.cell (p := ⟨r.p, 7, none⟩) hlt).trans c7
  replace c8 := (hb1.cell (p := ⟨r.p, 8, none⟩) hlt).trans c8
  replace hlt : r.p < w1.heap.size := by omega
  have s6 : w.heap.size < w1.heap.size := by omega
  have x0 := k0 0; simp at x0
  have x1 := k0 1; simp at x1
  have x2 := k0 2; simp at x2
  have x3 := k0 3; simp at x3
  have x4 := k0 4; simp at x4
  have x5 := k0 5; simp at x5
  have x6 := k0 6; simp at x6
  have x8 := k0 8; simp at x8
  have x9 := k0 9; simp at x9
  obtain ⟨z0, z1, z2⟩ := ltz hlt
  obtain ⟨z6, z7, z8⟩ := ltz s6
  have hL : ∀ d os, (ldM ⟨w.heap.size, 0, none⟩).run Try.prog (more w1 d os) = .ok (.agg #[.int .i64 k, .int .i64 s, .int .i64 i, .int .i64 g, .int .i64 es, .int .i64 ei, .int .i64 eg, .int .i64 m, .int .i64 x, .int .i64 y, .int .i64 vx, .int .i64 vy, .int .i64 hp, .int .i64 pw, .int .i64 lf, .int .i64 mask]) (more w1 d os) := fun d os => ld_box ⟨k, s, i, g, ⟨es, ei, eg, m, x, y, vx, vy, hp, pw, lf⟩, mask⟩ s6 (fun j => by rw [k0 j, List.getElem?_toArray]; rfl) d os
  have hL0 : (ldM ⟨w.heap.size, 0, none⟩).run Try.prog w1 = .ok (.agg #[.int .i64 k, .int .i64 s, .int .i64 i, .int .i64 g, .int .i64 es, .int .i64 ei, .int .i64 eg, .int .i64 m, .int .i64 x, .int .i64 y, .int .i64 vx, .int .i64 vy, .int .i64 hp, .int .i64 pw, .int .i64 lf, .int .i64 mask]) w1 := ld_box0 ⟨k, s, i, g, ⟨es, ei, eg, m, x, y, vx, vy, hp, pw, lf⟩, mask⟩ (fun j => by rw [k0 j, List.getElem?_toArray]; rfl)
  have K0 := Lib.hid k0
  have HW1 := Lib.hid hw1
  have HB1 := Lib.hid hb1
  clear h hv ho hw1 k0 g0 hsz him
  generalize ofF ⟨c.cols, c.rows, c.side, c.radius, c.speed, c.ids, c.queue⟩ x y = zn at *
  generalize aliveF D.M s i g = al at *
  generalize cmdB ⟨k, s, i, g, ⟨es, ei, eg, m, x, y, vx, vy, hp, pw, lf⟩, mask⟩ = cb at *
  subst hcb
  go_enter Try.func58, Try.ntmps58
  go_upto_region 1 with fail
  rw [← HW1.out]
  go_wp2_with (first | (go_at_call 23; refine (HC.out _ (by repeat' (first | (with_reducible exact Below.refl _ _) | (with_reducible assumption) | (with_reducible refine below_drewN ?_ _) | (with_reducible refine below_more _ _ _ ?_ ?_) | (with_reducible refine Below.alloc ?_ ?_ _) | (with_reducible refine Below.drew ?_) | (with_reducible refine Below.setCell ?_ ?_ _) | go_size))).mono ?_; rintro e w' ⟨rfl, hb⟩; obtain ⟨dd, os, rfl⟩ := more_of hb; clear hb; (try rw [more_more])))
  refine wp_region_more (by kernel_rfl) (by kernel_rfl) ?_
  repeat (go_big_quiet_step ((first | (go_at_call 31; with_reducible exact more_call (HO.out _ (by repeat' (first | (with_reducible exact Below.refl _ _) | (with_reducible assumption) | (with_reducible refine below_drewN ?_ _) | (with_reducible refine below_more _ _ _ ?_ ?_) | (with_reducible refine Below.alloc ?_ ?_ _) | (with_reducible refine Below.drew ?_) | (with_reducible refine Below.setCell ?_ ?_ _) | go_size)))) | (go_at_call 22; with_reducible exact more_call (HA.out _ (by repeat' (first | (with_reducible exact Below.refl _ _) | (with_reducible assumption) | (with_reducible refine below_drewN ?_ _) | (with_reducible refine below_more _ _ _ ?_ ?_) | (with_reducible refine Below.alloc ?_ ?_ _) | (with_reducible refine Below.drew ?_) | (with_reducible refine Below.setCell ?_ ?_ _) | go_size)))))))
  refine wpQuiet_nil ?_
  rintro _ ⟨pm, rfl⟩
  (try rw [more_more])
  go_wp2_with fail
  go_ret
  exact ⟨rfl, (by repeat' (first | (with_reducible exact Below.refl _ _) | (with_reducible assumption) | (with_reducible refine below_drewN ?_ _) | (with_reducible refine below_more _ _ _ ?_ ?_) | (with_reducible refine Below.alloc ?_ ?_ _) | (with_reducible refine Below.drew ?_) | (with_reducible refine Below.setCell ?_ ?_ _) | go_size))⟩

set_option maxRecDepth 100000 in
set_option maxHeartbeats 4000000 in
theorem radmit_range (h : RDeskAt w r c kk D) (ho : CfgOk c) (k s i g es ei eg m x y vx vy hp pw lf mask : Int) (him : (-9223372036854775808 ≤ m ∧ m ≤ 9223372036854775807)) (hcb : cmdB ⟨k, s, i, g, ⟨es, ei, eg, m, x, y, vx, vy, hp, pw, lf⟩, mask⟩ = true) (hf : ¬ c.queue ≤ (D.q.length : Int)) (hk : k = 1) (hz : (ofF ⟨c.cols, c.rows, c.side, c.radius, c.speed, c.ids, c.queue⟩ x y != es) = true) :
    Calls Try.prog 58 #[.pointer (some ⟨r.p, 0, none⟩), .agg #[.int .i64 k, .int .i64 s, .int .i64 i, .int .i64 g, .int .i64 es, .int .i64 ei, .int .i64 eg, .int .i64 m, .int .i64 x, .int .i64 y, .int .i64 vx, .int .i64 vy, .int .i64 hp, .int .i64 pw, .int .i64 lf, .int .i64 mask]] w fun e w' => e = .returned (.int .i64 5) ∧ Below w.heap.size w w' := by
  have HC := Lib.hid (fun W (_ : Below w.heap.size w W) => rMayCmd_m ⟨k, s, i, g, ⟨es, ei, eg, m, x, y, vx, vy, hp, pw, lf⟩, mask⟩ W him)
  have HO := Lib.hid (fun W (_ : Below w.heap.size w W) => rof_any c.cols c.rows c.side c.radius c.speed c.ids c.queue x y W ho)
  have HA := Lib.hid (fun W (hW : Below w.heap.size w W) => ralive_any W r.R _ D.M (h.grown hW).pool s i g)
  have HT := Lib.hid (fun W (hW : Below w.heap.size w W) => rtake_dk W r c kk D es ei eg (h.grown hW))
  have HH := Lib.hid h
  have ho' := ho
  have hlt := lt_of_heap h.box
  have c0 := h.cell 0
  have c1 := h.cell 1
  have c2 := h.cell 2
  have c3 := h.cell 3
  have c4 := h.cell 4
  have c5 := h.cell 5
  have c6 := h.cell 6
  have c7 := h.cell 7
  have c8 := h.cell 8
  simp [rdeskC] at c0 c1 c2 c3 c4 c5 c6 c7 c8
  obtain ⟨p, cap, hv⟩ := sl_frm h.q
  rw [hv] at c8
  obtain ⟨w1, hw1, k0, hb1, g0, hsz⟩ := one_box w #[.int .i64 k, .int .i64 s, .int .i64 i, .int .i64 g, .int .i64 es, .int .i64 ei, .int .i64 eg, .int .i64 m, .int .i64 x, .int .i64 y, .int .i64 vx, .int .i64 vy, .int .i64 hp, .int .i64 pw, .int .i64 lf, .int .i64 mask] 37
  replace c0 := (hb1.cell (p := ⟨r.p, 0, none⟩) hlt).trans c0
  replace c1 := (hb1.cell (p := ⟨r.p, 1, none⟩) hlt).trans c1
  replace c2 := (hb1.cell (p := ⟨r.p, 2, none⟩) hlt).trans c2
  replace c3 := (hb1.cell (p := ⟨r.p, 3, none⟩) hlt).trans c3
  replace c4 := (hb1.cell (p := ⟨r.p, 4, none⟩) hlt).trans c4
  replace c5 := (hb1.cell (p := ⟨r.p, 5, none⟩) hlt).trans c5
  replace c6 := (hb1.cell (p := ⟨r.p, 6, none⟩) hlt).trans c6
  replace c7 := (hb1.cell (p := ⟨r.p, 7, none⟩) hlt).trans c7
  replace c8 := (hb1.cell (p := ⟨r.p, 8, none⟩) hlt).trans c8
  replace hlt : r.p < w1.heap.size := by omega
  have s6 : w.heap.size < w1.heap.size := by omega
  have x0 := k0 0; simp at x0
  have x1 := k0 1; simp at x1
  have x2 := k0 2; simp at x2
  have x3 := k0 3; simp at x3
  have x4 := k0 4; simp at x4
  have x5 := k0 5; simp at x5
  have x6 := k0 6; simp at x6
  have x8 := k0 8; simp at x8
  have x9 := k0 9; simp at x9
  obtain ⟨z0, z1, z2⟩ := ltz hlt
  obtain ⟨z6, z7, z8⟩ := ltz s6
  have hL : ∀ d os, (ldM ⟨w.heap.size, 0, none⟩).run Try.prog (more w1 d os) = .ok (.agg #[.int .i64 k, .int .i64 s, .int .i64 i, .int .i64 g, .int .i64 es, .int .i64 ei, .int .i64 eg, .int .i64 m, .int .i64 x, .int .i64 y, .int .i64 vx, .int .i64 vy, .int .i64 hp, .int .i64 pw, .int .i64 lf, .int .i64 mask]) (more w1 d os) := fun d os => ld_box ⟨k, s, i, g, ⟨es, ei, eg, m, x, y, vx, vy, hp, pw, lf⟩, mask⟩ s6 (fun j => by rw [k0 j, List.getElem?_toArray]; rfl) d os
  have hL0 : (ldM ⟨w.heap.size, 0, none⟩).run Try.prog w1 = .ok (.agg #[.int .i64 k, .int .i64 s, .int .i64 i, .int .i64 g, .int .i64 es, .int .i64 ei, .int .i64 eg, .int .i64 m, .int .i64 x, .int .i64 y, .int .i64 vx, .int .i64 vy, .int .i64 hp, .int .i64 pw, .int .i64 lf, .int .i64 mask]) w1 := ld_box0 ⟨k, s, i, g, ⟨es, ei, eg, m, x, y, vx, vy, hp, pw, lf⟩, mask⟩ (fun j => by rw [k0 j, List.getElem?_toArray]; rfl)
  have K0 := Lib.hid k0
  have HW1 := Lib.hid hw1
  have HB1 := Lib.hid hb1
  clear h hv ho hw1 k0 g0 hsz him
  generalize ofF ⟨c.cols, c.rows, c.side, c.radius, c.speed, c.ids, c.queue⟩ x y = zn at *
  generalize aliveF D.M s i g = al at *
  generalize cmdB ⟨k, s, i, g, ⟨es, ei, eg, m, x, y, vx, vy, hp, pw, lf⟩, mask⟩ = cb at *
  subst hcb hk
  go_enter Try.func58, Try.ntmps58
  go_upto_region 1 with fail
  rw [← HW1.out]
  go_wp2_with (first | (go_at_call 23; refine (HC.out _ (by repeat' (first | (with_reducible exact Below.refl _ _) | (with_reducible assumption) | (with_reducible refine below_drewN ?_ _) | (with_reducible refine below_more _ _ _ ?_ ?_) | (with_reducible refine Below.alloc ?_ ?_ _) | (with_reducible refine Below.drew ?_) | (with_reducible refine Below.setCell ?_ ?_ _) | go_size))).mono ?_; rintro e w' ⟨rfl, hb⟩; obtain ⟨dd, os, rfl⟩ := more_of hb; clear hb; (try rw [more_more])))
  refine wp_region_more (by kernel_rfl) (by kernel_rfl) ?_
  repeat (go_big_quiet_step ((first | (go_at_call 31; with_reducible exact more_call (HO.out _ (by repeat' (first | (with_reducible exact Below.refl _ _) | (with_reducible assumption) | (with_reducible refine below_drewN ?_ _) | (with_reducible refine below_more _ _ _ ?_ ?_) | (with_reducible refine Below.alloc ?_ ?_ _) | (with_reducible refine Below.drew ?_) | (with_reducible refine Below.setCell ?_ ?_ _) | go_size)))) | (go_at_call 22; with_reducible exact more_call (HA.out _ (by repeat' (first | (with_reducible exact Below.refl _ _) | (with_reducible assumption) | (with_reducible refine below_drewN ?_ _) | (with_reducible refine below_more _ _ _ ?_ ?_) | (with_reducible refine Below.alloc ?_ ?_ _) | (with_reducible refine Below.drew ?_) | (with_reducible refine Below.setCell ?_ ?_ _) | go_size)))))))
  refine wpQuiet_nil ?_
  rintro _ ⟨pm, rfl⟩
  (try rw [more_more])
  go_wp2_with fail
  refine wp_region_more (by kernel_rfl) (by kernel_rfl) ?_
  repeat (go_big_quiet_step ((first | (go_at_call 31; with_reducible exact more_call (HO.out _ (by repeat' (first | (with_reducible exact Below.refl _ _) | (with_reducible assumption) | (with_reducible refine below_drewN ?_ _) | (with_reducible refine below_more _ _ _ ?_ ?_) | (with_reducible refine Below.alloc ?_ ?_ _) | (with_reducible refine Below.drew ?_) | (with_reducible refine Below.setCell ?_ ?_ _) | go_size)))) | (go_at_call 22; with_reducible exact more_call (HA.out _ (by repeat' (first | (with_reducible exact Below.refl _ _) | (with_reducible assumption) | (with_reducible refine below_drewN ?_ _) | (with_reducible refine below_more _ _ _ ?_ ?_) | (with_reducible refine Below.alloc ?_ ?_ _) | (with_reducible refine Below.drew ?_) | (with_reducible refine Below.setCell ?_ ?_ _) | go_size)))))))
  refine wpQuiet_nil ?_
  rintro _ ⟨pm, rfl⟩
  (try rw [more_more])
  go_wp2_with fail
  go_ret
  exact ⟨rfl, (by repeat' (first | (with_reducible exact Below.refl _ _) | (with_reducible assumption) | (with_reducible refine below_drewN ?_ _) | (with_reducible refine below_more _ _ _ ?_ ?_) | (with_reducible refine Below.alloc ?_ ?_ _) | (with_reducible refine Below.drew ?_) | (with_reducible refine Below.setCell ?_ ?_ _) | go_size))⟩

set_option maxRecDepth 100000 in
set_option maxHeartbeats 4000000 in
theorem radmit_stale (h : RDeskAt w r c kk D) (ho : CfgOk c) (k s i g es ei eg m x y vx vy hp pw lf mask : Int) (him : (-9223372036854775808 ≤ m ∧ m ≤ 9223372036854775807)) (hcb : cmdB ⟨k, s, i, g, ⟨es, ei, eg, m, x, y, vx, vy, hp, pw, lf⟩, mask⟩ = true) (hf : ¬ c.queue ≤ (D.q.length : Int)) (hk : (k == 1) = false) (ha : aliveF D.M s i g = false) :
    Calls Try.prog 58 #[.pointer (some ⟨r.p, 0, none⟩), .agg #[.int .i64 k, .int .i64 s, .int .i64 i, .int .i64 g, .int .i64 es, .int .i64 ei, .int .i64 eg, .int .i64 m, .int .i64 x, .int .i64 y, .int .i64 vx, .int .i64 vy, .int .i64 hp, .int .i64 pw, .int .i64 lf, .int .i64 mask]] w fun e w' => e = .returned (.int .i64 9) ∧ Below w.heap.size w w' := by
  have HC := Lib.hid (fun W (_ : Below w.heap.size w W) => rMayCmd_m ⟨k, s, i, g, ⟨es, ei, eg, m, x, y, vx, vy, hp, pw, lf⟩, mask⟩ W him)
  have HO := Lib.hid (fun W (_ : Below w.heap.size w W) => rof_any c.cols c.rows c.side c.radius c.speed c.ids c.queue x y W ho)
  have HA := Lib.hid (fun W (hW : Below w.heap.size w W) => ralive_any W r.R _ D.M (h.grown hW).pool s i g)
  have HT := Lib.hid (fun W (hW : Below w.heap.size w W) => rtake_dk W r c kk D es ei eg (h.grown hW))
  have HH := Lib.hid h
  have ho' := ho
  have hlt := lt_of_heap h.box
  have c0 := h.cell 0
  have c1 := h.cell 1
  have c2 := h.cell 2
  have c3 := h.cell 3
  have c4 := h.cell 4
  have c5 := h.cell 5
  have c6 := h.cell 6
  have c7 := h.cell 7
  have c8 := h.cell 8
  simp [rdeskC] at c0 c1 c2 c3 c4 c5 c6 c7 c8
  obtain ⟨p, cap, hv⟩ := sl_frm h.q
  rw [hv] at c8
  obtain ⟨w1, hw1, k0, hb1, g0, hsz⟩ := one_box w #[.int .i64 k, .int .i64 s, .int .i64 i, .int .i64 g, .int .i64 es, .int .i64 ei, .int .i64 eg, .int .i64 m, .int .i64 x, .int .i64 y, .int .i64 vx, .int .i64 vy, .int .i64 hp, .int .i64 pw, .int .i64 lf, .int .i64 mask] 37
  replace c0 := (hb1.cell (p := ⟨r.p, 0, none⟩) hlt).trans c0
  replace c1 := (hb1.cell (p := ⟨r.p, 1, none⟩) hlt).trans c1
  replace c2 := (hb1.cell (p := ⟨r.p, 2, none⟩) hlt).trans c2
  replace c3 := (hb1.cell (p := ⟨r.p, 3, none⟩) hlt).trans c3
  replace c4 := (hb1.cell (p := ⟨r.p, 4, none⟩) hlt).trans c4
  replace c5 := (hb1.cell (p := ⟨r.p, 5, none⟩) hlt).trans c5
  replace c6 := (hb1.cell (p := ⟨r.p, 6, none⟩) hlt).trans c6
  replace c7 := (hb1.cell (p := ⟨r.p, 7, none⟩) hlt).trans c7
  replace c8 := (hb1.cell (p := ⟨r.p, 8, none⟩) hlt).trans c8
  replace hlt : r.p < w1.heap.size := by omega
  have s6 : w.heap.size < w1.heap.size := by omega
  have x0 := k0 0; simp at x0
  have x1 := k0 1; simp at x1
  have x2 := k0 2; simp at x2
  have x3 := k0 3; simp at x3
  have x4 := k0 4; simp at x4
  have x5 := k0 5; simp at x5
  have x6 := k0 6; simp at x6
  have x8 := k0 8; simp at x8
  have x9 := k0 9; simp at x9
  obtain ⟨z0, z1, z2⟩ := ltz hlt
  obtain ⟨z6, z7, z8⟩ := ltz s6
  have hL : ∀ d os, (ldM ⟨w.heap.size, 0, none⟩).run Try.prog (more w1 d os) = .ok (.agg #[.int .i64 k, .int .i64 s, .int .i64 i, .int .i64 g, .int .i64 es, .int .i64 ei, .int .i64 eg, .int .i64 m, .int .i64 x, .int .i64 y, .int .i64 vx, .int .i64 vy, .int .i64 hp, .int .i64 pw, .int .i64 lf, .int .i64 mask]) (more w1 d os) := fun d os => ld_box ⟨k, s, i, g, ⟨es, ei, eg, m, x, y, vx, vy, hp, pw, lf⟩, mask⟩ s6 (fun j => by rw [k0 j, List.getElem?_toArray]; rfl) d os
  have hL0 : (ldM ⟨w.heap.size, 0, none⟩).run Try.prog w1 = .ok (.agg #[.int .i64 k, .int .i64 s, .int .i64 i, .int .i64 g, .int .i64 es, .int .i64 ei, .int .i64 eg, .int .i64 m, .int .i64 x, .int .i64 y, .int .i64 vx, .int .i64 vy, .int .i64 hp, .int .i64 pw, .int .i64 lf, .int .i64 mask]) w1 := ld_box0 ⟨k, s, i, g, ⟨es, ei, eg, m, x, y, vx, vy, hp, pw, lf⟩, mask⟩ (fun j => by rw [k0 j, List.getElem?_toArray]; rfl)
  have K0 := Lib.hid k0
  have HW1 := Lib.hid hw1
  have HB1 := Lib.hid hb1
  clear h hv ho hw1 k0 g0 hsz him
  generalize ofF ⟨c.cols, c.rows, c.side, c.radius, c.speed, c.ids, c.queue⟩ x y = zn at *
  generalize aliveF D.M s i g = al at *
  generalize cmdB ⟨k, s, i, g, ⟨es, ei, eg, m, x, y, vx, vy, hp, pw, lf⟩, mask⟩ = cb at *
  subst hcb ha
  go_enter Try.func58, Try.ntmps58
  go_upto_region 1 with fail
  rw [← HW1.out]
  go_wp2_with (first | (go_at_call 23; refine (HC.out _ (by repeat' (first | (with_reducible exact Below.refl _ _) | (with_reducible assumption) | (with_reducible refine below_drewN ?_ _) | (with_reducible refine below_more _ _ _ ?_ ?_) | (with_reducible refine Below.alloc ?_ ?_ _) | (with_reducible refine Below.drew ?_) | (with_reducible refine Below.setCell ?_ ?_ _) | go_size))).mono ?_; rintro e w' ⟨rfl, hb⟩; obtain ⟨dd, os, rfl⟩ := more_of hb; clear hb; (try rw [more_more])))
  refine wp_region_more (by kernel_rfl) (by kernel_rfl) ?_
  repeat (go_big_quiet_step ((first | (go_at_call 31; with_reducible exact more_call (HO.out _ (by repeat' (first | (with_reducible exact Below.refl _ _) | (with_reducible assumption) | (with_reducible refine below_drewN ?_ _) | (with_reducible refine below_more _ _ _ ?_ ?_) | (with_reducible refine Below.alloc ?_ ?_ _) | (with_reducible refine Below.drew ?_) | (with_reducible refine Below.setCell ?_ ?_ _) | go_size)))) | (go_at_call 22; with_reducible exact more_call (HA.out _ (by repeat' (first | (with_reducible exact Below.refl _ _) | (with_reducible assumption) | (with_reducible refine below_drewN ?_ _) | (with_reducible refine below_more _ _ _ ?_ ?_) | (with_reducible refine Below.alloc ?_ ?_ _) | (with_reducible refine Below.drew ?_) | (with_reducible refine Below.setCell ?_ ?_ _) | go_size)))))))
  refine wpQuiet_nil ?_
  rintro _ ⟨pm, rfl⟩
  (try rw [more_more])
  go_wp2_with fail
  refine wp_region_more (by kernel_rfl) (by kernel_rfl) ?_
  repeat (go_big_quiet_step ((first | (go_at_call 31; with_reducible exact more_call (HO.out _ (by repeat' (first | (with_reducible exact Below.refl _ _) | (with_reducible assumption) | (with_reducible refine below_drewN ?_ _) | (with_reducible refine below_more _ _ _ ?_ ?_) | (with_reducible refine Below.alloc ?_ ?_ _) | (with_reducible refine Below.drew ?_) | (with_reducible refine Below.setCell ?_ ?_ _) | go_size)))) | (go_at_call 22; with_reducible exact more_call (HA.out _ (by repeat' (first | (with_reducible exact Below.refl _ _) | (with_reducible assumption) | (with_reducible refine below_drewN ?_ _) | (with_reducible refine below_more _ _ _ ?_ ?_) | (with_reducible refine Below.alloc ?_ ?_ _) | (with_reducible refine Below.drew ?_) | (with_reducible refine Below.setCell ?_ ?_ _) | go_size)))))))
  refine wpQuiet_nil ?_
  rintro _ ⟨pm, rfl⟩
  (try rw [more_more])
  go_wp2_with fail
  go_ret
  exact ⟨rfl, (by repeat' (first | (with_reducible exact Below.refl _ _) | (with_reducible assumption) | (with_reducible refine below_drewN ?_ _) | (with_reducible refine below_more _ _ _ ?_ ?_) | (with_reducible refine Below.alloc ?_ ?_ _) | (with_reducible refine Below.drew ?_) | (with_reducible refine Below.setCell ?_ ?_ _) | go_size))⟩

set_option maxRecDepth 100000 in
set_option maxHeartbeats 4000000 in
theorem radmit_ok2 (h : RDeskAt w r c kk D) (ho : CfgOk c) (k s i g es ei eg m x y vx vy hp pw lf mask : Int) (him : (-9223372036854775808 ≤ m ∧ m ≤ 9223372036854775807)) (hcb : cmdB ⟨k, s, i, g, ⟨es, ei, eg, m, x, y, vx, vy, hp, pw, lf⟩, mask⟩ = true) (hf : ¬ c.queue ≤ (D.q.length : Int)) (hk : (k == 1) = false) (ha : aliveF D.M s i g = true) :
    Calls Try.prog 58 #[.pointer (some ⟨r.p, 0, none⟩), .agg #[.int .i64 k, .int .i64 s, .int .i64 i, .int .i64 g, .int .i64 es, .int .i64 ei, .int .i64 eg, .int .i64 m, .int .i64 x, .int .i64 y, .int .i64 vx, .int .i64 vy, .int .i64 hp, .int .i64 pw, .int .i64 lf, .int .i64 mask]] w fun e w' => e = .returned (.int .i64 0) ∧ RDStp w r c kk w' { D with q := D.q ++ [⟨k, s, i, g, ⟨es, ei, eg, m, x, y, vx, vy, hp, pw, lf⟩, mask⟩] } := by
  have HC := Lib.hid (fun W (_ : Below w.heap.size w W) => rMayCmd_m ⟨k, s, i, g, ⟨es, ei, eg, m, x, y, vx, vy, hp, pw, lf⟩, mask⟩ W him)
  have HO := Lib.hid (fun W (_ : Below w.heap.size w W) => rof_any c.cols c.rows c.side c.radius c.speed c.ids c.queue x y W ho)
  have HA := Lib.hid (fun W (hW : Below w.heap.size w W) => ralive_any W r.R _ D.M (h.grown hW).pool s i g)
  have HT := Lib.hid (fun W (hW : Below w.heap.size w W) => rtake_dk W r c kk D es ei eg (h.grown hW))
  have HH := Lib.hid h
  have ho' := ho
  have hlt := lt_of_heap h.box
  have c0 := h.cell 0
  have c1 := h.cell 1
  have c2 := h.cell 2
  have c3 := h.cell 3
  have c4 := h.cell 4
  have c5 := h.cell 5
  have c6 := h.cell 6
  have c7 := h.cell 7
  have c8 := h.cell 8
  simp [rdeskC] at c0 c1 c2 c3 c4 c5 c6 c7 c8
  obtain ⟨p, cap, hv⟩ := sl_frm h.q
  rw [hv] at c8
  obtain ⟨w1, hw1, k0, hb1, g0, hsz⟩ := one_box w #[.int .i64 k, .int .i64 s, .int .i64 i, .int .i64 g, .int .i64 es, .int .i64 ei, .int .i64 eg, .int .i64 m, .int .i64 x, .int .i64 y, .int .i64 vx, .int .i64 vy, .int .i64 hp, .int .i64 pw, .int .i64 lf, .int .i64 mask] 37
  replace c0 := (hb1.cell (p := ⟨r.p, 0, none⟩) hlt).trans c0
  replace c1 := (hb1.cell (p := ⟨r.p, 1, none⟩) hlt).trans c1
  replace c2 := (hb1.cell (p := ⟨r.p, 2, none⟩) hlt).trans c2
  replace c3 := (hb1.cell (p := ⟨r.p, 3, none⟩) hlt).trans c3
  replace c4 := (hb1.cell (p := ⟨r.p, 4, none⟩) hlt).trans c4
  replace c5 := (hb1.cell (p := ⟨r.p, 5, none⟩) hlt).trans c5
  replace c6 := (hb1.cell (p := ⟨r.p, 6, none⟩) hlt).trans c6
  replace c7 := (hb1.cell (p := ⟨r.p, 7, none⟩) hlt).trans c7
  replace c8 := (hb1.cell (p := ⟨r.p, 8, none⟩) hlt).trans c8
  replace hlt : r.p < w1.heap.size := by omega
  have s6 : w.heap.size < w1.heap.size := by omega
  have x0 := k0 0; simp at x0
  have x1 := k0 1; simp at x1
  have x2 := k0 2; simp at x2
  have x3 := k0 3; simp at x3
  have x4 := k0 4; simp at x4
  have x5 := k0 5; simp at x5
  have x6 := k0 6; simp at x6
  have x8 := k0 8; simp at x8
  have x9 := k0 9; simp at x9
  obtain ⟨z0, z1, z2⟩ := ltz hlt
  obtain ⟨z6, z7, z8⟩ := ltz s6
  have hL : ∀ d os, (ldM ⟨w.heap.size, 0, none⟩).run Try.prog (more w1 d os) = .ok (.agg #[.int .i64 k, .int .i64 s, .int .i64 i, .int .i64 g, .int .i64 es, .int .i64 ei, .int .i64 eg, .int .i64 m, .int .i64 x, .int .i64 y, .int .i64 vx, .int .i64 vy, .int .i64 hp, .int .i64 pw, .int .i64 lf, .int .i64 mask]) (more w1 d os) := fun d os => ld_box ⟨k, s, i, g, ⟨es, ei, eg, m, x, y, vx, vy, hp, pw, lf⟩, mask⟩ s6 (fun j => by rw [k0 j, List.getElem?_toArray]; rfl) d os
  have hL0 : (ldM ⟨w.heap.size, 0, none⟩).run Try.prog w1 = .ok (.agg #[.int .i64 k, .int .i64 s, .int .i64 i, .int .i64 g, .int .i64 es, .int .i64 ei, .int .i64 eg, .int .i64 m, .int .i64 x, .int .i64 y, .int .i64 vx, .int .i64 vy, .int .i64 hp, .int .i64 pw, .int .i64 lf, .int .i64 mask]) w1 := ld_box0 ⟨k, s, i, g, ⟨es, ei, eg, m, x, y, vx, vy, hp, pw, lf⟩, mask⟩ (fun j => by rw [k0 j, List.getElem?_toArray]; rfl)
  have K0 := Lib.hid k0
  have HW1 := Lib.hid hw1
  have HB1 := Lib.hid hb1
  clear h hv ho hw1 k0 g0 hsz him
  generalize ofF ⟨c.cols, c.rows, c.side, c.radius, c.speed, c.ids, c.queue⟩ x y = zn at *
  generalize aliveF D.M s i g = al at *
  generalize cmdB ⟨k, s, i, g, ⟨es, ei, eg, m, x, y, vx, vy, hp, pw, lf⟩, mask⟩ = cb at *
  subst hcb ha
  go_enter Try.func58, Try.ntmps58
  go_upto_region 1 with fail
  rw [← HW1.out]
  go_wp2_with (first | (go_at_call 23; refine (HC.out _ (by repeat' (first | (with_reducible exact Below.refl _ _) | (with_reducible assumption) | (with_reducible refine below_drewN ?_ _) | (with_reducible refine below_more _ _ _ ?_ ?_) | (with_reducible refine Below.alloc ?_ ?_ _) | (with_reducible refine Below.drew ?_) | (with_reducible refine Below.setCell ?_ ?_ _) | go_size))).mono ?_; rintro e w' ⟨rfl, hb⟩; obtain ⟨dd, os, rfl⟩ := more_of hb; clear hb; (try rw [more_more])))
  refine wp_region_more (by kernel_rfl) (by kernel_rfl) ?_
  repeat (go_big_quiet_step ((first | (go_at_call 31; with_reducible exact more_call (HO.out _ (by repeat' (first | (with_reducible exact Below.refl _ _) | (with_reducible assumption) | (with_reducible refine below_drewN ?_ _) | (with_reducible refine below_more _ _ _ ?_ ?_) | (with_reducible refine Below.alloc ?_ ?_ _) | (with_reducible refine Below.drew ?_) | (with_reducible refine Below.setCell ?_ ?_ _) | go_size)))) | (go_at_call 22; with_reducible exact more_call (HA.out _ (by repeat' (first | (with_reducible exact Below.refl _ _) | (with_reducible assumption) | (with_reducible refine below_drewN ?_ _) | (with_reducible refine below_more _ _ _ ?_ ?_) | (with_reducible refine Below.alloc ?_ ?_ _) | (with_reducible refine Below.drew ?_) | (with_reducible refine Below.setCell ?_ ?_ _) | go_size)))))))
  refine wpQuiet_nil ?_
  rintro _ ⟨pm, rfl⟩
  (try rw [more_more])
  go_wp2_with fail
  refine wp_region_more (by kernel_rfl) (by kernel_rfl) ?_
  repeat (go_big_quiet_step ((first | (go_at_call 31; with_reducible exact more_call (HO.out _ (by repeat' (first | (with_reducible exact Below.refl _ _) | (with_reducible assumption) | (with_reducible refine below_drewN ?_ _) | (with_reducible refine below_more _ _ _ ?_ ?_) | (with_reducible refine Below.alloc ?_ ?_ _) | (with_reducible refine Below.drew ?_) | (with_reducible refine Below.setCell ?_ ?_ _) | go_size)))) | (go_at_call 22; with_reducible exact more_call (HA.out _ (by repeat' (first | (with_reducible exact Below.refl _ _) | (with_reducible assumption) | (with_reducible refine below_drewN ?_ _) | (with_reducible refine below_more _ _ _ ?_ ?_) | (with_reducible refine Below.alloc ?_ ?_ _) | (with_reducible refine Below.drew ?_) | (with_reducible refine Below.setCell ?_ ?_ _) | go_size)))))))
  refine wpQuiet_nil ?_
  rintro _ ⟨pm, rfl⟩
  (try rw [more_more])
  go_upto_region 13 with fail
  generalize hw5 : more w1 _ _ = w5
  have hb5 : Below w1.heap.size w1 w5 := by rw [← hw5]; exact (by repeat' (first | (with_reducible exact Below.refl _ _) | (with_reducible assumption) | (with_reducible refine below_drewN ?_ _) | (with_reducible refine below_more _ _ _ ?_ ?_) | (with_reducible refine Below.alloc ?_ ?_ _) | (with_reducible refine Below.drew ?_) | (with_reducible refine Below.setCell ?_ ?_ _) | go_size))
  have hB5w : Below w.heap.size w w5 := HB1.out.trans (hb5.mono HB1.out.size)
  have hbx : ∀ j, w5.cell? ⟨w.heap.size, j, none⟩ = w1.cell? ⟨w.heap.size, j, none⟩ := fun j => hb5.cell (p := ⟨w.heap.size, j, none⟩) s6
  clear hw5
  have hq' : (D.q.length : Int) < c.queue := by omega
  have hq64 := ho'.q1
  obtain ⟨qv, p5, cap5, rfl, c25, f25, hdp, hap, haB, hsl5, hbc5, hB5, hfin⟩ := RDStp.fin HH.out hB5w (Nat.le_refl _) (Nat.lt_of_lt_of_le s6 hb5.size) D (RDStp.of_grown (HH.out.grown hB5w) (Below.refl _ _)) hq' ⟨k, s, i, g, ⟨es, ei, eg, m, x, y, vx, vy, hp, pw, lf⟩, mask⟩
  have HSL := Lib.hid hsl5
  have HFIN := Lib.hid hfin
  clear hsl5 hfin hbc5 hb5 hB5w HC HO HA HT hL hL0 c0 c1 c2 c3 c4 c5 c6 c7 c8 x0 x1 x2 x3 x4 x5 x6 x8 x9 z0 z1 z2 z6 z7 z8 hlt
  obtain ⟨i0, hi0, hz0, hz1, hz2⟩ := info_partsG info_cm
  have hLS : ∀ W', Two w5 r.p w.heap.size W' → (ldM ⟨w.heap.size, 0, none⟩).run Try.prog W' = .ok (.agg #[.int .i64 k, .int .i64 s, .int .i64 i, .int .i64 g, .int .i64 es, .int .i64 ei, .int .i64 eg, .int .i64 m, .int .i64 x, .int .i64 y, .int .i64 vx, .int .i64 vy, .int .i64 hp, .int .i64 pw, .int .i64 lf, .int .i64 mask]) W' := fun W' hS => ldM_of ⟨k, s, i, g, ⟨es, ei, eg, m, x, y, vx, vy, hp, pw, lf⟩, mask⟩ fun j v hj => by rw [Nat.zero_add, (hS.2 j).2, hbx j, K0.out j, List.getElem?_toArray]; exact hj
  have HLS := Lib.hid hLS
  clear hLS hbx
  go_upto_region 13 with fail
  refine wp_region_x (S := Two w5 r.p w.heap.size) 10 (by kernel_rfl) ⟨⟨Nat.le_refl _, hdp, hB5⟩, fun _ => ⟨rfl, rfl⟩⟩ (fun hHeld => ?_)
  refine anyX_take (n := 10) (i := 0) (v := ?_) rfl (by kernel_rfl) (fun _ _ _ h => h) (Or.inl ⟨by rfl, ?_⟩) (by assumption) ?_
  rotate_left 1
  · (intro w hSw; have hSw1 := hSw.2; go_simp; (try with_reducible rfl))
  simp [Act.put]
  refine anyX_take (n := 10) (i := 1) (v := ?_) rfl (by kernel_rfl) (fun _ _ _ h => h) (Or.inl ⟨by rfl, ?_⟩) (by assumption) ?_
  rotate_left 1
  · (intro w hSw; have hSw1 := hSw.2; go_simp; (try with_reducible rfl))
  simp [Act.put]
  refine anyX_take (n := 10) (i := 2) (v := ?_) rfl (by kernel_rfl) (fun _ _ _ h => h) (Or.inl ⟨by rfl, ?_⟩) (by assumption) ?_
  rotate_left 1
  · (intro w hSw; have hSw1 := hSw.2; go_simp; (try with_reducible rfl))
  simp [Act.put]
  refine anyX_take (n := 10) (i := 3) (v := ?_) rfl (by kernel_rfl) (fun _ _ _ h => h) (Or.inl ⟨by rfl, ?_⟩) (by assumption) ?_
  rotate_left 1
  · (intro w hSw; have hSw1 := hSw.2; go_simp; (try with_reducible rfl))
  simp [Act.put]
  refine anyX_take (n := 10) (i := 4) (v := ?_) rfl (by kernel_rfl) (fun _ _ _ h => h) (Or.inl ⟨by rfl, ?_⟩) (by assumption) ?_
  rotate_left 1
  · (intro w hSw; have hSw1 := hSw.2; go_simp; (try with_reducible rfl))
  simp [Act.put]
  refine anyX_take (n := 10) (i := 5) (v := ?_) rfl (by kernel_rfl) (fun _ _ _ h => h) (Or.inl ⟨by rfl, ?_⟩) (by assumption) ?_
  rotate_left 1
  · (intro w hSw; have hSw1 := hSw.2; have hl5 := HLS.out _ hSw; go_simp; (try with_reducible rfl))
  simp [Act.put]
  refine anyX_ready (rs := [6]) (by kernel_rfl) (by simp) (ReadyX.cons rfl (fun K hK => ?_) ReadyX.nil)
  go_simp
  refine hK.out _ _ (fun hlt => ?_) (fun hHeld => ?_)
  · (try dsimp only); exact hHeld.alloc _
  clear hK
  replace hHeld := hHeld (by omega); try simp [Act.put]
  refine anyX_ready (rs := [7]) (by kernel_rfl) (by simp) (ReadyX.cons rfl (fun K hK => ?_) ReadyX.nil)
  (refine step_append_sl _ (by rfl) (.tmp 62) (.tmp 64) 31 (by rfl) 37 i0 _ 16 128 Try.underlying31 hi0 hz0 hz1 hz2 rfl (by omega) _ D.q.length (cellsR cmC D.q) (by rfl) (HSL.out _ (by repeat' (first | (with_reducible exact Below.refl _ _) | (with_reducible assumption) | (with_reducible refine below_drewN ?_ _) | (with_reducible refine below_more _ _ _ ?_ ?_) | (with_reducible refine Below.alloc ?_ ?_ _) | (with_reducible refine Below.drew ?_) | (with_reducible refine Below.setCell ?_ ?_ _) | go_size))) ⟨_, 0, none⟩ 1 1 (cmC ⟨k, s, i, g, ⟨es, ei, eg, m, x, y, vx, vy, hp, pw, lf⟩, mask⟩) (by rfl) (by rfl) (new_cellsN _ _ _ _ (by simp)) (cmC_one _) (by omega) (by unfold maxLen; omega) (by omega) ?_; intro g4 off4 cap4 w4 hs4 ht4 ho4; have f24 := (ht4.frozen (a := ⟨r.p, 8, none⟩) (by simp; omega) hap); have c24 := (ht4.cell (a := ⟨r.p, 8, none⟩) (by simp; omega) hap).trans ((hHeld.2 8).1.trans c25); have hd4 := hdp; replace hd4 := Nat.lt_of_lt_of_le hd4 (show w5.heap.size ≤ w4.heap.size from Nat.le_trans (by simp) ht4.size))
  refine hK.out _ _ (fun hlt => ?_) (fun hHeld => ?_)
  · (try dsimp only); exact hHeld.turned ht4 hap haB
  clear hK
  replace hHeld := hHeld (by omega); try simp [Act.put]
  refine anyX_take (n := 10) (i := 8) (v := ?_) rfl (by kernel_rfl) (fun _ _ _ h => h) (Or.inl ⟨by rfl, ?_⟩) (by assumption) ?_
  rotate_left 1
  · (intro w hSw; have hSw1 := hSw.2; go_simp; (try with_reducible rfl))
  simp [Act.put]
  refine anyX_take (n := 10) (i := 9) (v := ?_) rfl (by kernel_rfl) (fun _ _ _ h => h) (Or.inl ⟨by rfl, ?_⟩) (by assumption) ?_
  rotate_left 1
  · (intro w hSw; have hSw1 := hSw.2; go_simp; (try with_reducible rfl))
  simp [Act.put]
  refine anyX_ready (rs := [10]) (by kernel_rfl) (by simp) (ReadyX.cons rfl (fun K hK => ?_) ReadyX.nil)
  go_simp
  refine hK.out _ _ (fun hlt => ?_) (fun hHeld => ?_)
  · exact absurd hlt (by omega)
  clear hK
  clear hHeld; try simp [Act.put]
  refine anyX_done (by kernel_rfl) ?_ _
  go_wp2_with fail
  go_ret
  exact ⟨rfl, HFIN.out _ (by repeat' (first | (with_reducible exact Below.refl _ _) | (with_reducible assumption) | (with_reducible refine below_drewN ?_ _) | (with_reducible refine below_more _ _ _ ?_ ?_) | (with_reducible refine Below.alloc ?_ ?_ _) | (with_reducible refine Below.drew ?_) | (with_reducible refine Below.setCell ?_ ?_ _) | go_size)) _ _ hs4 ht4 (ho4.elim (fun h => .inl h.symm) fun h => .inr ⟨g4, rfl, h⟩)⟩


set_option maxRecDepth 100000 in
set_option maxHeartbeats 4000000 in
theorem radmit_err (h : RDeskAt w r c kk D) (ho : CfgOk c) (k s i g es ei eg m x y vx vy hp pw lf mask : Int) (him : (-9223372036854775808 ≤ m ∧ m ≤ 9223372036854775807)) (hcb : cmdB ⟨k, s, i, g, ⟨es, ei, eg, m, x, y, vx, vy, hp, pw, lf⟩, mask⟩ = true) (hf : ¬ c.queue ≤ (D.q.length : Int)) (hk : k = 1) (hz : (ofF ⟨c.cols, c.rows, c.side, c.radius, c.speed, c.ids, c.queue⟩ x y != es) = false) (he : ((takeF D.M es ei eg).1 != 0) = true) :
    Calls Try.prog 58 #[.pointer (some ⟨r.p, 0, none⟩), .agg #[.int .i64 k, .int .i64 s, .int .i64 i, .int .i64 g, .int .i64 es, .int .i64 ei, .int .i64 eg, .int .i64 m, .int .i64 x, .int .i64 y, .int .i64 vx, .int .i64 vy, .int .i64 hp, .int .i64 pw, .int .i64 lf, .int .i64 mask]] w fun e w' => e = .returned (.int .i64 (takeF D.M es ei eg).1) ∧ RDStp w r c kk w' { D with M := (takeF D.M es ei eg).2 } := by
  have HC := Lib.hid (fun W (_ : Below w.heap.size w W) => rMayCmd_m ⟨k, s, i, g, ⟨es, ei, eg, m, x, y, vx, vy, hp, pw, lf⟩, mask⟩ W him)
  have HO := Lib.hid (fun W (_ : Below w.heap.size w W) => rof_any c.cols c.rows c.side c.radius c.speed c.ids c.queue x y W ho)
  have HA := Lib.hid (fun W (hW : Below w.heap.size w W) => ralive_any W r.R _ D.M (h.grown hW).pool s i g)
  have HT := Lib.hid (fun W (hW : Below w.heap.size w W) => rtake_dk W r c kk D es ei eg (h.grown hW))
  have HH := Lib.hid h
  have ho' := ho
  have hlt := lt_of_heap h.box
  have c0 := h.cell 0
  have c1 := h.cell 1
  have c2 := h.cell 2
  have c3 := h.cell 3
  have c4 := h.cell 4
  have c5 := h.cell 5
  have c6 := h.cell 6
  have c7 := h.cell 7
  have c8 := h.cell 8
  simp [rdeskC] at c0 c1 c2 c3 c4 c5 c6 c7 c8
  obtain ⟨p, cap, hv⟩ := sl_frm h.q
  rw [hv] at c8
  obtain ⟨w1, hw1, k0, hb1, g0, hsz⟩ := one_box w #[.int .i64 k, .int .i64 s, .int .i64 i, .int .i64 g, .int .i64 es, .int .i64 ei, .int .i64 eg, .int .i64 m, .int .i64 x, .int .i64 y, .int .i64 vx, .int .i64 vy, .int .i64 hp, .int .i64 pw, .int .i64 lf, .int .i64 mask] 37
  replace c0 := (hb1.cell (p := ⟨r.p, 0, none⟩) hlt).trans c0
  replace c1 := (hb1.cell (p := ⟨r.p, 1, none⟩) hlt).trans c1
  replace c2 := (hb1.cell (p := ⟨r.p, 2, none⟩) hlt).trans c2
  replace c3 := (hb1.cell (p := ⟨r.p, 3, none⟩) hlt).trans c3
  replace c4 := (hb1.cell (p := ⟨r.p, 4, none⟩) hlt).trans c4
  replace c5 := (hb1.cell (p := ⟨r.p, 5, none⟩) hlt).trans c5
  replace c6 := (hb1.cell (p := ⟨r.p, 6, none⟩) hlt).trans c6
  replace c7 := (hb1.cell (p := ⟨r.p, 7, none⟩) hlt).trans c7
  replace c8 := (hb1.cell (p := ⟨r.p, 8, none⟩) hlt).trans c8
  replace hlt : r.p < w1.heap.size := by omega
  have s6 : w.heap.size < w1.heap.size := by omega
  have x0 := k0 0; simp at x0
  have x1 := k0 1; simp at x1
  have x2 := k0 2; simp at x2
  have x3 := k0 3; simp at x3
  have x4 := k0 4; simp at x4
  have x5 := k0 5; simp at x5
  have x6 := k0 6; simp at x6
  have x8 := k0 8; simp at x8
  have x9 := k0 9; simp at x9
  obtain ⟨z0, z1, z2⟩ := ltz hlt
  obtain ⟨z6, z7, z8⟩ := ltz s6
  have hL : ∀ d os, (ldM ⟨w.heap.size, 0, none⟩).run Try.prog (more w1 d os) = .ok (.agg #[.int .i64 k, .int .i64 s, .int .i64 i, .int .i64 g, .int .i64 es, .int .i64 ei, .int .i64 eg, .int .i64 m, .int .i64 x, .int .i64 y, .int .i64 vx, .int .i64 vy, .int .i64 hp, .int .i64 pw, .int .i64 lf, .int .i64 mask]) (more w1 d os) := fun d os => ld_box ⟨k, s, i, g, ⟨es, ei, eg, m, x, y, vx, vy, hp, pw, lf⟩, mask⟩ s6 (fun j => by rw [k0 j, List.getElem?_toArray]; rfl) d os
  have hL0 : (ldM ⟨w.heap.size, 0, none⟩).run Try.prog w1 = .ok (.agg #[.int .i64 k, .int .i64 s, .int .i64 i, .int .i64 g, .int .i64 es, .int .i64 ei, .int .i64 eg, .int .i64 m, .int .i64 x, .int .i64 y, .int .i64 vx, .int .i64 vy, .int .i64 hp, .int .i64 pw, .int .i64 lf, .int .i64 mask]) w1 := ld_box0 ⟨k, s, i, g, ⟨es, ei, eg, m, x, y, vx, vy, hp, pw, lf⟩, mask⟩ (fun j => by rw [k0 j, List.getElem?_toArray]; rfl)
  have K0 := Lib.hid k0
  have HW1 := Lib.hid hw1
  have HB1 := Lib.hid hb1
  clear h hv ho hw1 k0 g0 hsz him
  generalize hzn : ofF ⟨c.cols, c.rows, c.side, c.radius, c.speed, c.ids, c.queue⟩ x y = zn at *
  generalize htk : takeF D.M es ei eg = tk at *
  obtain ⟨er, M1⟩ := tk
  generalize aliveF D.M s i g = al at *
  generalize cmdB ⟨k, s, i, g, ⟨es, ei, eg, m, x, y, vx, vy, hp, pw, lf⟩, mask⟩ = cb at *
  subst hcb hk
  go_enter Try.func58, Try.ntmps58
  go_upto_region 1 with fail
  rw [← HW1.out]
  go_wp2_with (first | (go_at_call 23; refine (HC.out _ (by repeat' (first | (with_reducible exact Below.refl _ _) | (with_reducible assumption) | (with_reducible refine below_drewN ?_ _) | (with_reducible refine below_more _ _ _ ?_ ?_) | (with_reducible refine Below.alloc ?_ ?_ _) | (with_reducible refine Below.drew ?_) | (with_reducible refine Below.setCell ?_ ?_ _) | go_size))).mono ?_; rintro e w' ⟨rfl, hb⟩; obtain ⟨dd, os, rfl⟩ := more_of hb; clear hb; (try rw [more_more])))
  refine wp_region_more (by kernel_rfl) (by kernel_rfl) ?_
  repeat (go_big_quiet_step ((first | (go_at_call 31; with_reducible exact more_call (HO.out _ (by repeat' (first | (with_reducible exact Below.refl _ _) | (with_reducible assumption) | (with_reducible refine below_drewN ?_ _) | (with_reducible refine below_more _ _ _ ?_ ?_) | (with_reducible refine Below.alloc ?_ ?_ _) | (with_reducible refine Below.drew ?_) | (with_reducible refine Below.setCell ?_ ?_ _) | go_size)))) | (go_at_call 22; with_reducible exact more_call (HA.out _ (by repeat' (first | (with_reducible exact Below.refl _ _) | (with_reducible assumption) | (with_reducible refine below_drewN ?_ _) | (with_reducible refine below_more _ _ _ ?_ ?_) | (with_reducible refine Below.alloc ?_ ?_ _) | (with_reducible refine Below.drew ?_) | (with_reducible refine Below.setCell ?_ ?_ _) | go_size)))))))
  refine wpQuiet_nil ?_
  rintro _ ⟨pm, rfl⟩
  (try rw [more_more])
  go_wp2_with fail
  refine wp_region_more (by kernel_rfl) (by kernel_rfl) ?_
  repeat (go_big_quiet_step ((first | (go_at_call 31; with_reducible exact more_call (HO.out _ (by repeat' (first | (with_reducible exact Below.refl _ _) | (with_reducible assumption) | (with_reducible refine below_drewN ?_ _) | (with_reducible refine below_more _ _ _ ?_ ?_) | (with_reducible refine Below.alloc ?_ ?_ _) | (with_reducible refine Below.drew ?_) | (with_reducible refine Below.setCell ?_ ?_ _) | go_size)))) | (go_at_call 22; with_reducible exact more_call (HA.out _ (by repeat' (first | (with_reducible exact Below.refl _ _) | (with_reducible assumption) | (with_reducible refine below_drewN ?_ _) | (with_reducible refine below_more _ _ _ ?_ ?_) | (with_reducible refine Below.alloc ?_ ?_ _) | (with_reducible refine Below.drew ?_) | (with_reducible refine Below.setCell ?_ ?_ _) | go_size)))))))
  refine wpQuiet_nil ?_
  rintro _ ⟨pm, rfl⟩
  (try rw [more_more])
  go_wp2_with fail
  generalize hw4 : more w1 _ _ = w4
  have hb4 : Below w1.heap.size w1 w4 := by rw [← hw4]; exact (by repeat' (first | (with_reducible exact Below.refl _ _) | (with_reducible assumption) | (with_reducible refine below_drewN ?_ _) | (with_reducible refine below_more _ _ _ ?_ ?_) | (with_reducible refine Below.alloc ?_ ?_ _) | (with_reducible refine Below.drew ?_) | (with_reducible refine Below.setCell ?_ ?_ _) | go_size))
  have hB4w : Below w.heap.size w w4 := HB1.out.trans (hb4.mono HB1.out.size)
  have v4 := (hb4.cell (p := ⟨w.heap.size, 4, none⟩) s6).trans x4; have v5 := (hb4.cell (p := ⟨w.heap.size, 5, none⟩) s6).trans x5; have v6 := (hb4.cell (p := ⟨w.heap.size, 6, none⟩) s6).trans x6
  have v1 := (hb4.cell (p := ⟨r.p, 7, none⟩) hlt).trans c7
  clear hw4
  refine wp_region_still_tail 7 (by kernel_rfl) (by kernel_rfl) ?_
  simp only [List.take_succ_cons, List.take_zero, List.drop_succ_cons, List.drop_zero]
  repeat (first | still_step)
  refine wpStill_nil ?_
  go_wp2_with fail
  refine (HT.out _ (hB4w.trans (Below.mono (B := w4.heap.size) (by repeat' (first | (with_reducible exact Below.refl _ _) | (with_reducible assumption) | (with_reducible refine below_drewN ?_ _) | (with_reducible refine below_more _ _ _ ?_ ?_) | (with_reducible refine Below.alloc ?_ ?_ _) | (with_reducible refine Below.drew ?_) | (with_reducible refine Below.setCell ?_ ?_ _) | go_size)) hB4w.size))).mono ?_
  rintro e w5 ⟨rfl, hs⟩
  have HS := Lib.hid (hs.from_below (hB4w.trans (Below.mono (B := w4.heap.size) (by repeat' (first | (with_reducible exact Below.refl _ _) | (with_reducible assumption) | (with_reducible refine below_drewN ?_ _) | (with_reducible refine below_more _ _ _ ?_ ?_) | (with_reducible refine Below.alloc ?_ ?_ _) | (with_reducible refine Below.drew ?_) | (with_reducible refine Below.setCell ?_ ?_ _) | go_size)) hB4w.size)))
  clear hs
  go_wp2_with fail
  go_ret
  exact ⟨rfl, HS.out.then_below (by repeat' (first | (with_reducible exact Below.refl _ _) | (with_reducible assumption) | (with_reducible refine below_drewN ?_ _) | (with_reducible refine below_more _ _ _ ?_ ?_) | (with_reducible refine Below.alloc ?_ ?_ _) | (with_reducible refine Below.drew ?_) | (with_reducible refine Below.setCell ?_ ?_ _) | go_size))⟩

set_option maxRecDepth 100000 in
set_option maxHeartbeats 4000000 in
theorem radmit_ok1 (h : RDeskAt w r c kk D) (ho : CfgOk c) (k s i g es ei eg m x y vx vy hp pw lf mask : Int) (him : (-9223372036854775808 ≤ m ∧ m ≤ 9223372036854775807)) (hcb : cmdB ⟨k, s, i, g, ⟨es, ei, eg, m, x, y, vx, vy, hp, pw, lf⟩, mask⟩ = true) (hf : ¬ c.queue ≤ (D.q.length : Int)) (hk : k = 1) (hz : (ofF ⟨c.cols, c.rows, c.side, c.radius, c.speed, c.ids, c.queue⟩ x y != es) = false) (he : (takeF D.M es ei eg).1 = 0) :
    Calls Try.prog 58 #[.pointer (some ⟨r.p, 0, none⟩), .agg #[.int .i64 k, .int .i64 s, .int .i64 i, .int .i64 g, .int .i64 es, .int .i64 ei, .int .i64 eg, .int .i64 m, .int .i64 x, .int .i64 y, .int .i64 vx, .int .i64 vy, .int .i64 hp, .int .i64 pw, .int .i64 lf, .int .i64 mask]] w fun e w' => e = .returned (.int .i64 0) ∧ RDStp w r c kk w' { D with M := (takeF D.M es ei eg).2, q := D.q ++ [⟨1, s, i, g, ⟨es, ei, eg, m, x, y, vx, vy, hp, pw, lf⟩, mask⟩] } := by
  have HC := Lib.hid (fun W (_ : Below w.heap.size w W) => rMayCmd_m ⟨k, s, i, g, ⟨es, ei, eg, m, x, y, vx, vy, hp, pw, lf⟩, mask⟩ W him)
  have HO := Lib.hid (fun W (_ : Below w.heap.size w W) => rof_any c.cols c.rows c.side c.radius c.speed c.ids c.queue x y W ho)
  have HA := Lib.hid (fun W (hW : Below w.heap.size w W) => ralive_any W r.R _ D.M (h.grown hW).pool s i g)
  have HT := Lib.hid (fun W (hW : Below w.heap.size w W) => rtake_dk W r c kk D es ei eg (h.grown hW))
  have HH := Lib.hid h
  have ho' := ho
  have hlt := lt_of_heap h.box
  have c0 := h.cell 0
  have c1 := h.cell 1
  have c2 := h.cell 2
  have c3 := h.cell 3
  have c4 := h.cell 4
  have c5 := h.cell 5
  have c6 := h.cell 6
  have c7 := h.cell 7
  have c8 := h.cell 8
  simp [rdeskC] at c0 c1 c2 c3 c4 c5 c6 c7 c8
  obtain ⟨p, cap, hv⟩ := sl_frm h.q
  rw [hv] at c8
  obtain ⟨w1, hw1, k0, hb1, g0, hsz⟩ := one_box w #[.int .i64 k, .int .i64 s, .int .i64 i, .int .i64 g, .int .i64 es, .int .i64 ei, .int .i64 eg, .int .i64 m, .int .i64 x, .int .i64 y, .int .i64 vx, .int .i64 vy, .int .i64 hp, .int .i64 pw, .int .i64 lf, .int .i64 mask] 37
  replace c0 := (hb1.cell (p := ⟨r.p, 0, none⟩) hlt).trans c0
  replace c1 := (hb1.cell (p := ⟨r.p, 1, none⟩) hlt).trans c1
  replace c2 := (hb1.cell (p := ⟨r.p, 2, none⟩) hlt).trans c2
  replace c3 := (hb1.cell (p := ⟨r.p, 3, none⟩) hlt).trans c3
  replace c4 := (hb1.cell (p := ⟨r.p, 4, none⟩) hlt).trans c4
  replace c5 := (hb1.cell (p := ⟨r.p, 5, none⟩) hlt).trans c5
  replace c6 := (hb1.cell (p := ⟨r.p, 6, none⟩) hlt).trans c6
  replace c7 := (hb1.cell (p := ⟨r.p, 7, none⟩) hlt).trans c7
  replace c8 := (hb1.cell (p := ⟨r.p, 8, none⟩) hlt).trans c8
  replace hlt : r.p < w1.heap.size := by omega
  have s6 : w.heap.size < w1.heap.size := by omega
  have x0 := k0 0; simp at x0
  have x1 := k0 1; simp at x1
  have x2 := k0 2; simp at x2
  have x3 := k0 3; simp at x3
  have x4 := k0 4; simp at x4
  have x5 := k0 5; simp at x5
  have x6 := k0 6; simp at x6
  have x8 := k0 8; simp at x8
  have x9 := k0 9; simp at x9
  obtain ⟨z0, z1, z2⟩ := ltz hlt
  obtain ⟨z6, z7, z8⟩ := ltz s6
  have hL : ∀ d os, (ldM ⟨w.heap.size, 0, none⟩).run Try.prog (more w1 d os) = .ok (.agg #[.int .i64 k, .int .i64 s, .int .i64 i, .int .i64 g, .int .i64 es, .int .i64 ei, .int .i64 eg, .int .i64 m, .int .i64 x, .int .i64 y, .int .i64 vx, .int .i64 vy, .int .i64 hp, .int .i64 pw, .int .i64 lf, .int .i64 mask]) (more w1 d os) := fun d os => ld_box ⟨k, s, i, g, ⟨es, ei, eg, m, x, y, vx, vy, hp, pw, lf⟩, mask⟩ s6 (fun j => by rw [k0 j, List.getElem?_toArray]; rfl) d os
  have hL0 : (ldM ⟨w.heap.size, 0, none⟩).run Try.prog w1 = .ok (.agg #[.int .i64 k, .int .i64 s, .int .i64 i, .int .i64 g, .int .i64 es, .int .i64 ei, .int .i64 eg, .int .i64 m, .int .i64 x, .int .i64 y, .int .i64 vx, .int .i64 vy, .int .i64 hp, .int .i64 pw, .int .i64 lf, .int .i64 mask]) w1 := ld_box0 ⟨k, s, i, g, ⟨es, ei, eg, m, x, y, vx, vy, hp, pw, lf⟩, mask⟩ (fun j => by rw [k0 j, List.getElem?_toArray]; rfl)
  have K0 := Lib.hid k0
  have HW1 := Lib.hid hw1
  have HB1 := Lib.hid hb1
  clear h hv ho hw1 k0 g0 hsz him
  generalize hzn : ofF ⟨c.cols, c.rows, c.side, c.radius, c.speed, c.ids, c.queue⟩ x y = zn at *
  generalize htk : takeF D.M es ei eg = tk at *
  obtain ⟨er, M1⟩ := tk
  generalize aliveF D.M s i g = al at *
  generalize cmdB ⟨k, s, i, g, ⟨es, ei, eg, m, x, y, vx, vy, hp, pw, lf⟩, mask⟩ = cb at *
  subst hcb hk he
  go_enter Try.func58, Try.ntmps58
  go_upto_region 1 with fail
  rw [← HW1.out]
  go_wp2_with (first | (go_at_call 23; refine (HC.out _ (by repeat' (first | (with_reducible exact Below.refl _ _) | (with_reducible assumption) | (with_reducible refine below_drewN ?_ _) | (with_reducible refine below_more _ _ _ ?_ ?_) | (with_reducible refine Below.alloc ?_ ?_ _) | (with_reducible refine Below.drew ?_) | (with_reducible refine Below.setCell ?_ ?_ _) | go_size))).mono ?_; rintro e w' ⟨rfl, hb⟩; obtain ⟨dd, os, rfl⟩ := more_of hb; clear hb; (try rw [more_more])))
  refine wp_region_more (by kernel_rfl) (by kernel_rfl) ?_
  repeat (go_big_quiet_step ((first | (go_at_call 31; with_reducible exact more_call (HO.out _ (by repeat' (first | (with_reducible exact Below.refl _ _) | (with_reducible assumption) | (with_reducible refine below_drewN ?_ _) | (with_reducible refine below_more _ _ _ ?_ ?_) | (with_reducible refine Below.alloc ?_ ?_ _) | (with_reducible refine Below.drew ?_) | (with_reducible refine Below.setCell ?_ ?_ _) | go_size)))) | (go_at_call 22; with_reducible exact more_call (HA.out _ (by repeat' (first | (with_reducible exact Below.refl _ _) | (with_reducible assumption) | (with_reducible refine below_drewN ?_ _) | (with_reducible refine below_more _ _ _ ?_ ?_) | (with_reducible refine Below.alloc ?_ ?_ _) | (with_reducible refine Below.drew ?_) | (with_reducible refine Below.setCell ?_ ?_ _) | go_size)))))))
  refine wpQuiet_nil ?_
  rintro _ ⟨pm, rfl⟩
  (try rw [more_more])
  go_wp2_with fail
  refine wp_region_more (by kernel_rfl) (by kernel_rfl) ?_
  repeat (go_big_quiet_step ((first | (go_at_call 31; with_reducible exact more_call (HO.out _ (by repeat' (first | (with_reducible exact Below.refl _ _) | (with_reducible assumption) | (with_reducible refine below_drewN ?_ _) | (with_reducible refine below_more _ _ _ ?_ ?_) | (with_reducible refine Below.alloc ?_ ?_ _) | (with_reducible refine Below.drew ?_) | (with_reducible refine Below.setCell ?_ ?_ _) | go_size)))) | (go_at_call 22; with_reducible exact more_call (HA.out _ (by repeat' (first | (with_reducible exact Below.refl _ _) | (with_reducible assumption) | (with_reducible refine below_drewN ?_ _) | (with_reducible refine below_more _ _ _ ?_ ?_) | (with_reducible refine Below.alloc ?_ ?_ _) | (with_reducible refine Below.drew ?_) | (with_reducible refine Below.setCell ?_ ?_ _) | go_size)))))))
  refine wpQuiet_nil ?_
  rintro _ ⟨pm, rfl⟩
  (try rw [more_more])
  go_wp2_with fail
  generalize hw4 : more w1 _ _ = w4
  have hb4 : Below w1.heap.size w1 w4 := by rw [← hw4]; exact (by repeat' (first | (with_reducible exact Below.refl _ _) | (with_reducible assumption) | (with_reducible refine below_drewN ?_ _) | (with_reducible refine below_more _ _ _ ?_ ?_) | (with_reducible refine Below.alloc ?_ ?_ _) | (with_reducible refine Below.drew ?_) | (with_reducible refine Below.setCell ?_ ?_ _) | go_size))
  have hB4w : Below w.heap.size w w4 := HB1.out.trans (hb4.mono HB1.out.size)
  have v4 := (hb4.cell (p := ⟨w.heap.size, 4, none⟩) s6).trans x4; have v5 := (hb4.cell (p := ⟨w.heap.size, 5, none⟩) s6).trans x5; have v6 := (hb4.cell (p := ⟨w.heap.size, 6, none⟩) s6).trans x6
  have v1 := (hb4.cell (p := ⟨r.p, 7, none⟩) hlt).trans c7
  clear hw4
  refine wp_region_still_tail 7 (by kernel_rfl) (by kernel_rfl) ?_
  simp only [List.take_succ_cons, List.take_zero, List.drop_succ_cons, List.drop_zero]
  repeat (first | still_step)
  refine wpStill_nil ?_
  go_wp2_with fail
  refine (HT.out _ (hB4w.trans (Below.mono (B := w4.heap.size) (by repeat' (first | (with_reducible exact Below.refl _ _) | (with_reducible assumption) | (with_reducible refine below_drewN ?_ _) | (with_reducible refine below_more _ _ _ ?_ ?_) | (with_reducible refine Below.alloc ?_ ?_ _) | (with_reducible refine Below.drew ?_) | (with_reducible refine Below.setCell ?_ ?_ _) | go_size)) hB4w.size))).mono ?_
  rintro e w5 ⟨rfl, hs⟩
  have hq' : (D.q.length : Int) < c.queue := by omega
  have hq64 := ho'.q1
  have hb4b : Below w.heap.size w1 w4 := Below.mono (B := w1.heap.size) hb4 (by omega)
  obtain ⟨qv, p5, cap5, rfl, c25, f25, hdp, hap, haB, hsl5, hbc5, hB5, hfin⟩ := RDStp.fin HH.out (hB4w.trans (Below.mono (B := w4.heap.size) (by repeat' (first | (with_reducible exact Below.refl _ _) | (with_reducible assumption) | (with_reducible refine below_drewN ?_ _) | (with_reducible refine below_more _ _ _ ?_ ?_) | (with_reducible refine Below.alloc ?_ ?_ _) | (with_reducible refine Below.drew ?_) | (with_reducible refine Below.setCell ?_ ?_ _) | go_size)) hB4w.size)) (Nat.le_refl _) (by first | exact Nat.lt_of_lt_of_le s6 hb4.size | (simp; exact Nat.lt_of_lt_of_le s6 hb4.size)) _ hs hq' ⟨1, s, i, g, ⟨es, ei, eg, m, x, y, vx, vy, hp, pw, lf⟩, mask⟩
  have hbx : ∀ j, w5.cell? ⟨w.heap.size, j, none⟩ = w1.cell? ⟨w.heap.size, j, none⟩ := fun j => (hbc5 j).trans (hb4.cell (p := ⟨w.heap.size, j, none⟩) s6)
  have HSL := Lib.hid hsl5
  have HFIN := Lib.hid hfin
  clear hs hsl5 hfin hbc5 hb4 hb4b hB4w HC HO HA HT hL hL0 c0 c1 c2 c3 c4 c5 c6 c7 c8 x0 x1 x2 x3 x4 x5 x6 x8 x9 v1 v4 v5 v6 z0 z1 z2 z6 z7 z8 hlt
  obtain ⟨i0, hi0, hz0, hz1, hz2⟩ := info_partsG info_cm
  have hLS : ∀ W', Two w5 r.p w.heap.size W' → (ldM ⟨w.heap.size, 0, none⟩).run Try.prog W' = .ok (.agg #[.int .i64 1, .int .i64 s, .int .i64 i, .int .i64 g, .int .i64 es, .int .i64 ei, .int .i64 eg, .int .i64 m, .int .i64 x, .int .i64 y, .int .i64 vx, .int .i64 vy, .int .i64 hp, .int .i64 pw, .int .i64 lf, .int .i64 mask]) W' := fun W' hS => ldM_of ⟨1, s, i, g, ⟨es, ei, eg, m, x, y, vx, vy, hp, pw, lf⟩, mask⟩ fun j v hj => by rw [Nat.zero_add, (hS.2 j).2, hbx j, K0.out j, List.getElem?_toArray]; exact hj
  have HLS := Lib.hid hLS
  clear hLS hbx
  go_upto_region 13 with fail
  refine wp_region_x (S := Two w5 r.p w.heap.size) 10 (by kernel_rfl) ⟨⟨Nat.le_refl _, hdp, hB5⟩, fun _ => ⟨rfl, rfl⟩⟩ (fun hHeld => ?_)
  refine anyX_take (n := 10) (i := 0) (v := ?_) rfl (by kernel_rfl) (fun _ _ _ h => h) (Or.inl ⟨by rfl, ?_⟩) (by assumption) ?_
  rotate_left 1
  · (intro w hSw; have hSw1 := hSw.2; go_simp; (try with_reducible rfl))
  simp [Act.put]
  refine anyX_take (n := 10) (i := 1) (v := ?_) rfl (by kernel_rfl) (fun _ _ _ h => h) (Or.inl ⟨by rfl, ?_⟩) (by assumption) ?_
  rotate_left 1
  · (intro w hSw; have hSw1 := hSw.2; go_simp; (try with_reducible rfl))
  simp [Act.put]
  refine anyX_take (n := 10) (i := 2) (v := ?_) rfl (by kernel_rfl) (fun _ _ _ h => h) (Or.inl ⟨by rfl, ?_⟩) (by assumption) ?_
  rotate_left 1
  · (intro w hSw; have hSw1 := hSw.2; go_simp; (try with_reducible rfl))
  simp [Act.put]
  refine anyX_take (n := 10) (i := 3) (v := ?_) rfl (by kernel_rfl) (fun _ _ _ h => h) (Or.inl ⟨by rfl, ?_⟩) (by assumption) ?_
  rotate_left 1
  · (intro w hSw; have hSw1 := hSw.2; go_simp; (try with_reducible rfl))
  simp [Act.put]
  refine anyX_take (n := 10) (i := 4) (v := ?_) rfl (by kernel_rfl) (fun _ _ _ h => h) (Or.inl ⟨by rfl, ?_⟩) (by assumption) ?_
  rotate_left 1
  · (intro w hSw; have hSw1 := hSw.2; go_simp; (try with_reducible rfl))
  simp [Act.put]
  refine anyX_take (n := 10) (i := 5) (v := ?_) rfl (by kernel_rfl) (fun _ _ _ h => h) (Or.inl ⟨by rfl, ?_⟩) (by assumption) ?_
  rotate_left 1
  · (intro w hSw; have hSw1 := hSw.2; have hl5 := HLS.out _ hSw; go_simp; (try with_reducible rfl))
  simp [Act.put]
  refine anyX_ready (rs := [6]) (by kernel_rfl) (by simp) (ReadyX.cons rfl (fun K hK => ?_) ReadyX.nil)
  go_simp
  refine hK.out _ _ (fun hlt => ?_) (fun hHeld => ?_)
  · (try dsimp only); exact hHeld.alloc _
  clear hK
  replace hHeld := hHeld (by omega); try simp [Act.put]
  refine anyX_ready (rs := [7]) (by kernel_rfl) (by simp) (ReadyX.cons rfl (fun K hK => ?_) ReadyX.nil)
  (refine step_append_sl _ (by rfl) (.tmp 62) (.tmp 64) 31 (by rfl) 37 i0 _ 16 128 Try.underlying31 hi0 hz0 hz1 hz2 rfl (by omega) _ D.q.length (cellsR cmC D.q) (by rfl) (HSL.out _ (by repeat' (first | (with_reducible exact Below.refl _ _) | (with_reducible assumption) | (with_reducible refine below_drewN ?_ _) | (with_reducible refine below_more _ _ _ ?_ ?_) | (with_reducible refine Below.alloc ?_ ?_ _) | (with_reducible refine Below.drew ?_) | (with_reducible refine Below.setCell ?_ ?_ _) | go_size))) ⟨_, 0, none⟩ 1 1 (cmC ⟨1, s, i, g, ⟨es, ei, eg, m, x, y, vx, vy, hp, pw, lf⟩, mask⟩) (by rfl) (by rfl) (new_cellsN _ _ _ _ (by simp)) (cmC_one _) (by omega) (by unfold maxLen; omega) (by omega) ?_; intro g4 off4 cap4 w4 hs4 ht4 ho4; have f24 := (ht4.frozen (a := ⟨r.p, 8, none⟩) (by simp; omega) hap); have c24 := (ht4.cell (a := ⟨r.p, 8, none⟩) (by simp; omega) hap).trans ((hHeld.2 8).1.trans c25); have hd4 := hdp; replace hd4 := Nat.lt_of_lt_of_le hd4 (show w5.heap.size ≤ w4.heap.size from Nat.le_trans (by simp) ht4.size))
  refine hK.out _ _ (fun hlt => ?_) (fun hHeld => ?_)
  · (try dsimp only); exact hHeld.turned ht4 hap haB
  clear hK
  replace hHeld := hHeld (by omega); try simp [Act.put]
  refine anyX_take (n := 10) (i := 8) (v := ?_) rfl (by kernel_rfl) (fun _ _ _ h => h) (Or.inl ⟨by rfl, ?_⟩) (by assumption) ?_
  rotate_left 1
  · (intro w hSw; have hSw1 := hSw.2; go_simp; (try with_reducible rfl))
  simp [Act.put]
  refine anyX_take (n := 10) (i := 9) (v := ?_) rfl (by kernel_rfl) (fun _ _ _ h => h) (Or.inl ⟨by rfl, ?_⟩) (by assumption) ?_
  rotate_left 1
  · (intro w hSw; have hSw1 := hSw.2; go_simp; (try with_reducible rfl))
  simp [Act.put]
  refine anyX_ready (rs := [10]) (by kernel_rfl) (by simp) (ReadyX.cons rfl (fun K hK => ?_) ReadyX.nil)
  go_simp
  refine hK.out _ _ (fun hlt => ?_) (fun hHeld => ?_)
  · exact absurd hlt (by omega)
  clear hK
  clear hHeld; try simp [Act.put]
  refine anyX_done (by kernel_rfl) ?_ _
  go_wp2_with fail
  go_ret
  exact ⟨rfl, HFIN.out _ (by repeat' (first | (with_reducible exact Below.refl _ _) | (with_reducible assumption) | (with_reducible refine below_drewN ?_ _) | (with_reducible refine below_more _ _ _ ?_ ?_) | (with_reducible refine Below.alloc ?_ ?_ _) | (with_reducible refine Below.drew ?_) | (with_reducible refine Below.setCell ?_ ?_ _) | go_size)) _ _ hs4 ht4 (ho4.elim (fun h => .inl h.symm) fun h => .inr ⟨g4, rfl, h⟩)⟩

theorem radmit_any (h : RDeskAt w r c kk D) (ho : CfgOk c) (m : Cm) (him : (-9223372036854775808 ≤ m.b.m ∧ m.b.m ≤ 9223372036854775807)) : Calls Try.prog 58 #[.pointer (some ⟨r.p, 0, none⟩), .agg (cmC m).toArray] w fun e w' => e = .returned (.int .i64 (admitF c D m).1) ∧ RDStp w r c kk w' (admitF c D m).2 := by
  have HG := fun (k : Int) {f : FuncId} {args : Array Value} (hc : Calls Try.prog f args w fun e w' => e = .returned (.int .i64 k) ∧ Below w.heap.size w w') => hc.mono fun _ _ ⟨h1, h2⟩ => (⟨h1, RDStp.of_grown h h2⟩ : _ ∧ RDStp w r c kk _ D)
  obtain ⟨k, s, i, g, ⟨es, ei, eg, m, x, y, vx, vy, hp, pw, lf⟩, mask⟩ := m
  simp only at him
  unfold admitF fullB
  simp only
  cases hcb : cmdB ⟨k, s, i, g, ⟨es, ei, eg, m, x, y, vx, vy, hp, pw, lf⟩, mask⟩ with
  | false =>
    rw [if_pos rfl]
    exact HG _ (radmit_bad w r c kk D h ho k s i g es ei eg m x y vx vy hp pw lf mask him hcb)
  | true =>
    rw [if_neg (by simp)]
    split
    · rename_i hf; exact HG _ (radmit_full w r c kk D h ho k s i g es ei eg m x y vx vy hp pw lf mask him hcb (of_decide_eq_true hf))
    · rename_i hf
      have hf' : ¬ c.queue ≤ (D.q.length : Int) := fun e => hf (decide_eq_true e)
      by_cases hk : k = 1
      · rw [if_pos hk]
        split
        · rename_i hz; exact HG _ (radmit_range w r c kk D h ho k s i g es ei eg m x y vx vy hp pw lf mask him hcb hf' hk (by simpa using hz))
        · rename_i hz
          have hz' : (ofF c x y != es) = false := by simpa using hz
          split
          · rename_i he; exact radmit_err w r c kk D h ho k s i g es ei eg m x y vx vy hp pw lf mask him hcb hf' hk hz' (by simpa using he)
          · rename_i he
            have := radmit_ok1 w r c kk D h ho k s i g es ei eg m x y vx vy hp pw lf mask him hcb hf' hk hz' (by simpa using he)
            subst hk
            exact this
      · have hk' : (k == 1) = false := by simpa using hk
        rw [if_neg hk]
        split
        · rename_i ha; exact HG _ (radmit_stale w r c kk D h ho k s i g es ei eg m x y vx vy hp pw lf mask him hcb hf' hk' ha)
        · rename_i ha; exact radmit_ok2 w r c kk D h ho k s i g es ei eg m x y vx vy hp pw lf mask him hcb hf' hk' (by simpa using ha)
end
end Go.Proofs.Ytbghjklnlhoklaa
