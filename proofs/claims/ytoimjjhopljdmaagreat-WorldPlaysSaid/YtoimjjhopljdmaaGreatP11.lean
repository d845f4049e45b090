/- Texts DkT OncA RefG RefH RefI RefJ RefK: what the claim reaches of them. Conditions stand at each theorem. -/
import Derived.Test.YtoimjjhopljdmaaGreatP10
set_option maxRecDepth 100000
set_option maxHeartbeats 8000000
namespace Go.Proofs.YtoimjjhopljdmaaGreat
open Go.RowKit
open Go.Proofs.Tryz (prog)
open Go.Value (int)
open Go.IntKind (i64)
open Go.Lib (hid)
section
theorem RDStp.next {w w' w'' : World} {r r1 : RDLay} {c : Cfg} {kk : Int} {D'' : Dk} (e1 : r1.p = r.p) (e2 : r1.R = r.R) (hc : Chg w w' r.own) (ho : ∀ b, r1.own b → r.own b ∨ w.heap.size ≤ b) (h2 : RDStp w' r1 c kk w'' D'') : RDStp w r c kk w'' D'' := by
 obtain ⟨d2, f1, f2, hd2, hc2, ho2⟩ := h2
 refine ⟨d2, f1.trans e1, f2.trans e2, hd2, hc.trans hc2 fun b hb h1 => (ho b h1).elim id fun h => by omega, fun b hb => ?_⟩
 rcases ho2 b hb with h | h
 · exact ho b h
 · exact .inr (Nat.le_trans hc.size h)
theorem RDStp.fin {w : World} {r : RDLay} {c : Cfg} {kk : Int} {D1 : Dk} {W1 W : World} {B : Nat} (h : RDeskAt w r c kk D1) (hW1 : Below w.heap.size w W1) (hB0 : w.heap.size ≤ B) (hB : B < W1.heap.size) (D2 : Dk) (HD : RDStp W1 r c kk W D2) (hq : (D2.q.length : Int) < c.queue) (m : Cm) :
 ∃ qv p cap, qv = .slice p D2.q.length cap ∧ W.cell? ⟨r.p, 8, none⟩ = some qv ∧ W.frozen? ⟨r.p, 8, none⟩ = false ∧ r.p < W.heap.size ∧ qv.ownBlock ≠ some r.p ∧ qv.ownBlock ≠ some B ∧ (∀ Wa, Below W.heap.size W Wa → Sl Wa 34 16 qv D2.q.length (cellsR cmC D2.q)) ∧
   (∀ j, W.cell? ⟨B, j, none⟩ = W1.cell? ⟨B, j, none⟩) ∧ B < W.heap.size ∧
   ∀ Wa, Below W.heap.size W Wa → ∀ w4 v', Sl w4 34 16 v' (D2.q.length + 1) (cellsR cmC D2.q ++ cmC m) → Turned Wa w4 qv.ownBlock → (v'.ownBlock = qv.ownBlock ∨ ∃ g, v'.ownBlock = some g ∧ Wa.heap.size ≤ g) → RDStp w r c kk (w4.setCell ⟨r.p, 8, none⟩ v') { D2 with q := D2.q ++ [m] } := by
 have hnB : ¬ r.own B := fun e => by have := h.lt e; omega
 obtain ⟨d', e1, e2, hd, hc, ho⟩ := HD
 have hnB' : ¬ d'.own B := fun e => (ho B e).elim hnB fun h => by omega
 have c2 := hd.cell 8
 have f2 := hd.frozen 8
 have hp := lt_of_heap hd.box
 have hap : d'.qv.ownBlock ≠ some d'.p := fun e => (hd.aq _ e).1 rfl
 simp [rdeskC] at c2
 rw [e1] at c2 f2 hp hap
 obtain ⟨p, cap, hv⟩ := sl_frm hd.q
 refine ⟨d'.qv, p, cap, hv, c2, f2, hp, hap, fun e => hnB' (.inr (.inr e)), fun Wa hWa => (hd.grown hWa).q, fun j => hc.cell (a := ⟨B, j, none⟩) hB hnB, Nat.lt_of_lt_of_le hB hc.size, fun Wa hWa w4 v' hs ht hv' => ?_⟩
 have := (hd.grown hWa).queued (m := m) hs ht hv' hq
 rw [e1] at this
 exact RDStp.from_below hW1 (RDStp.next e1 e2 hc ho (this.from_below hWa))
theorem rtake_dk (w : World) (r : RDLay) (c : Cfg) (kk : Int) (D : Dk) (s i g : Int) (h : RDeskAt w r c kk D) : Calls prog 118 #[.pointer (some ⟨r.R.p, 0, none⟩), .agg #[int i64 s, int i64 i, int i64 g]] w fun e w' => e = .returned (int i64 (takeF D.M s i g).1) ∧ RDStp w r c kk w' { D with M := (takeF D.M s i g).2 } :=
 (rtake_any w r.R _ D.M h.pool s i g).mono fun _ _ ⟨h1, h2⟩ => ⟨h1, RDStp.pool h h2⟩
attribute [local go_sem ↓] loadVar_ldM storeVar_stM
section
variable (w : World) (r : RDLay) (c : Cfg) (kk : Int) (D : Dk)
def preT (h : RDeskAt w r c kk D) (ho : CfgOk c) (k s i g es ei eg m x y vx vy hp pw lf mask : Int) (him : (-9223372036854775808 ≤ m ∧ m ≤ 9223372036854775807)) := (PProd.mk (hid (fun W (_ : Below w.heap.size w W) => rMayCmd_m ⟨k, s, i, g, ⟨es, ei, eg, m, x, y, vx, vy, hp, pw, lf⟩, mask⟩ W him)) (PProd.mk (hid (fun W (_ : Below w.heap.size w W) => rof_any c.cols c.rows c.side c.radius c.speed c.ids c.queue x y W ho)) (PProd.mk (hid (fun W (hW : Below w.heap.size w W) => ralive_any W r.R _ D.M (h.grown hW).pool s i g)) (hid (fun W (hW : Below w.heap.size w W) => rtake_dk W r c kk D es ei eg (h.grown hW))))))
theorem radmit_bad (h : RDeskAt w r c kk D) (ho : CfgOk c) (k s i g es ei eg m x y vx vy hp pw lf mask : Int) (him : (-9223372036854775808 ≤ m ∧ m ≤ 9223372036854775807)) (hcb : cmdB ⟨k, s, i, g, ⟨es, ei, eg, m, x, y, vx, vy, hp, pw, lf⟩, mask⟩ = false) :
 Calls prog 71 #[.pointer (some ⟨r.p, 0, none⟩), .agg #[int i64 k, int i64 s, int i64 i, int i64 g, int i64 es, int i64 ei, int i64 eg, int i64 m, int i64 x, int i64 y, int i64 vx, int i64 vy, int i64 hp, int i64 pw, int i64 lf, int i64 mask]] w fun e w' => e = .returned (int i64 1) ∧ Below w.heap.size w w' := by
 obtain ⟨HC, HO, HA, HT⟩ := preT w r c kk D h ho k s i g es ei eg m x y vx vy hp pw lf mask him
 have HH := hid h
 have ho' := ho
 obtain ⟨w1, hw1, k0, hb1, g0, hsz⟩ := one_boxC w k s i g es ei eg m x y vx vy hp pw lf mask 34
 obtain ⟨p, cap, c0, c1, c2, c3, c4, c5, c6, c7, c8, hlt⟩ := h.at1 hb1
 have s6 : w.heap.size < w1.heap.size := by omega
 obtain ⟨x0, x1, x2, x3, x4, x5, x6, x8, x9⟩ := cells9 k0
 obtain ⟨z0, z1, z2⟩ := ltz hlt
 obtain ⟨z6, z7, z8⟩ := ltz s6
 obtain ⟨hL, hL0⟩ := ld_boxL s6 k0
 have K0 := hid k0
 have HW1 := hid hw1
 have HB1 := hid hb1
 clear h ho hw1 k0 g0 hsz him
 generalize ofF ⟨c.cols, c.rows, c.side, c.radius, c.speed, c.ids, c.queue⟩ x y = zn at *
 generalize aliveF D.M s i g = al at *
 generalize cmdB ⟨k, s, i, g, ⟨es, ei, eg, m, x, y, vx, vy, hp, pw, lf⟩, mask⟩ = cb at *
 subst hcb
 go_enter Tryz.func71, Tryz.ntmps71
 go_upto_region 1 with fail
 rw [← HW1.out]
 go_wp2_with (go_at_call 112; refine belC (HC.out _ bg) fun dd os => ?_; (try rw [more_more]))
 go_ret
 exact ⟨rfl, bg⟩
theorem radmit_full (h : RDeskAt w r c kk D) (ho : CfgOk c) (k s i g es ei eg m x y vx vy hp pw lf mask : Int) (him : (-9223372036854775808 ≤ m ∧ m ≤ 9223372036854775807)) (hcb : cmdB ⟨k, s, i, g, ⟨es, ei, eg, m, x, y, vx, vy, hp, pw, lf⟩, mask⟩ = true) (hf : c.queue ≤ (D.q.length : Int)) :
 Calls prog 71 #[.pointer (some ⟨r.p, 0, none⟩), .agg #[int i64 k, int i64 s, int i64 i, int i64 g, int i64 es, int i64 ei, int i64 eg, int i64 m, int i64 x, int i64 y, int i64 vx, int i64 vy, int i64 hp, int i64 pw, int i64 lf, int i64 mask]] w fun e w' => e = .returned (int i64 8) ∧ Below w.heap.size w w' := by
 obtain ⟨HC, HO, HA, HT⟩ := preT w r c kk D h ho k s i g es ei eg m x y vx vy hp pw lf mask him
 have HH := hid h
 have ho' := ho
 obtain ⟨w1, hw1, k0, hb1, g0, hsz⟩ := one_boxC w k s i g es ei eg m x y vx vy hp pw lf mask 34
 obtain ⟨p, cap, c0, c1, c2, c3, c4, c5, c6, c7, c8, hlt⟩ := h.at1 hb1
 have s6 : w.heap.size < w1.heap.size := by omega
 obtain ⟨x0, x1, x2, x3, x4, x5, x6, x8, x9⟩ := cells9 k0
 obtain ⟨z0, z1, z2⟩ := ltz hlt
 obtain ⟨z6, z7, z8⟩ := ltz s6
 obtain ⟨hL, hL0⟩ := ld_boxL s6 k0
 have K0 := hid k0
 have HW1 := hid hw1
 have HB1 := hid hb1
 clear h ho hw1 k0 g0 hsz him
 generalize ofF ⟨c.cols, c.rows, c.side, c.radius, c.speed, c.ids, c.queue⟩ x y = zn at *
 generalize aliveF D.M s i g = al at *
 generalize cmdB ⟨k, s, i, g, ⟨es, ei, eg, m, x, y, vx, vy, hp, pw, lf⟩, mask⟩ = cb at *
 subst hcb
 go_enter Tryz.func71, Tryz.ntmps71
 go_upto_region 1 with fail
 rw [← HW1.out]
 go_wp2_with (go_at_call 112; refine belC (HC.out _ bg) fun dd os => ?_; (try rw [more_more]))
 refine wpm ?_
 repeat (go_big_quiet_step ((first | (go_at_call 15; with_reducible exact more_call (HO.out _ bg)) | (go_at_call 113; with_reducible exact more_call (HA.out _ bg)))))
 refine wpQuiet_nil ?_
 rintro _ ⟨pm, rfl⟩
 (try rw [more_more])
 go_wp2_with fail
 go_ret
 exact ⟨rfl, bg⟩
theorem radmit_range (h : RDeskAt w r c kk D) (ho : CfgOk c) (k s i g es ei eg m x y vx vy hp pw lf mask : Int) (him : (-9223372036854775808 ≤ m ∧ m ≤ 9223372036854775807)) (hcb : cmdB ⟨k, s, i, g, ⟨es, ei, eg, m, x, y, vx, vy, hp, pw, lf⟩, mask⟩ = true) (hf : ¬ c.queue ≤ (D.q.length : Int)) (hk : k = 1) (hz : (ofF ⟨c.cols, c.rows, c.side, c.radius, c.speed, c.ids, c.queue⟩ x y != es) = true) :
 Calls prog 71 #[.pointer (some ⟨r.p, 0, none⟩), .agg #[int i64 k, int i64 s, int i64 i, int i64 g, int i64 es, int i64 ei, int i64 eg, int i64 m, int i64 x, int i64 y, int i64 vx, int i64 vy, int i64 hp, int i64 pw, int i64 lf, int i64 mask]] w fun e w' => e = .returned (int i64 5) ∧ Below w.heap.size w w' := by
 obtain ⟨HC, HO, HA, HT⟩ := preT w r c kk D h ho k s i g es ei eg m x y vx vy hp pw lf mask him
 have HH := hid h
 have ho' := ho
 obtain ⟨w1, hw1, k0, hb1, g0, hsz⟩ := one_boxC w k s i g es ei eg m x y vx vy hp pw lf mask 34
 obtain ⟨p, cap, c0, c1, c2, c3, c4, c5, c6, c7, c8, hlt⟩ := h.at1 hb1
 have s6 : w.heap.size < w1.heap.size := by omega
 obtain ⟨x0, x1, x2, x3, x4, x5, x6, x8, x9⟩ := cells9 k0
 obtain ⟨z0, z1, z2⟩ := ltz hlt
 obtain ⟨z6, z7, z8⟩ := ltz s6
 obtain ⟨hL, hL0⟩ := ld_boxL s6 k0
 have K0 := hid k0
 have HW1 := hid hw1
 have HB1 := hid hb1
 clear h ho hw1 k0 g0 hsz him
 generalize ofF ⟨c.cols, c.rows, c.side, c.radius, c.speed, c.ids, c.queue⟩ x y = zn at *
 generalize aliveF D.M s i g = al at *
 generalize cmdB ⟨k, s, i, g, ⟨es, ei, eg, m, x, y, vx, vy, hp, pw, lf⟩, mask⟩ = cb at *
 subst hcb hk
 go_enter Tryz.func71, Tryz.ntmps71
 go_upto_region 1 with fail
 rw [← HW1.out]
 go_wp2_with (go_at_call 112; refine belC (HC.out _ bg) fun dd os => ?_; (try rw [more_more]))
 refine wpm ?_
 repeat (go_big_quiet_step ((first | (go_at_call 15; with_reducible exact more_call (HO.out _ bg)) | (go_at_call 113; with_reducible exact more_call (HA.out _ bg)))))
 refine wpQuiet_nil ?_
 rintro _ ⟨pm, rfl⟩
 (try rw [more_more])
 go_wp2_with fail
 refine wpm ?_
 repeat (go_big_quiet_step ((first | (go_at_call 15; with_reducible exact more_call (HO.out _ bg)) | (go_at_call 113; with_reducible exact more_call (HA.out _ bg)))))
 refine wpQuiet_nil ?_
 rintro _ ⟨pm, rfl⟩
 (try rw [more_more])
 go_wp2_with fail
 go_ret
 exact ⟨rfl, bg⟩
theorem radmit_stale (h : RDeskAt w r c kk D) (ho : CfgOk c) (k s i g es ei eg m x y vx vy hp pw lf mask : Int) (him : (-9223372036854775808 ≤ m ∧ m ≤ 9223372036854775807)) (hcb : cmdB ⟨k, s, i, g, ⟨es, ei, eg, m, x, y, vx, vy, hp, pw, lf⟩, mask⟩ = true) (hf : ¬ c.queue ≤ (D.q.length : Int)) (hk : (k == 1) = false) (ha : aliveF D.M s i g = false) :
 Calls prog 71 #[.pointer (some ⟨r.p, 0, none⟩), .agg #[int i64 k, int i64 s, int i64 i, int i64 g, int i64 es, int i64 ei, int i64 eg, int i64 m, int i64 x, int i64 y, int i64 vx, int i64 vy, int i64 hp, int i64 pw, int i64 lf, int i64 mask]] w fun e w' => e = .returned (int i64 9) ∧ Below w.heap.size w w' := by
 obtain ⟨HC, HO, HA, HT⟩ := preT w r c kk D h ho k s i g es ei eg m x y vx vy hp pw lf mask him
 have HH := hid h
 have ho' := ho
 obtain ⟨w1, hw1, k0, hb1, g0, hsz⟩ := one_boxC w k s i g es ei eg m x y vx vy hp pw lf mask 34
 obtain ⟨p, cap, c0, c1, c2, c3, c4, c5, c6, c7, c8, hlt⟩ := h.at1 hb1
 have s6 : w.heap.size < w1.heap.size := by omega
 obtain ⟨x0, x1, x2, x3, x4, x5, x6, x8, x9⟩ := cells9 k0
 obtain ⟨z0, z1, z2⟩ := ltz hlt
 obtain ⟨z6, z7, z8⟩ := ltz s6
 obtain ⟨hL, hL0⟩ := ld_boxL s6 k0
 have K0 := hid k0
 have HW1 := hid hw1
 have HB1 := hid hb1
 clear h ho hw1 k0 g0 hsz him
 generalize ofF ⟨c.cols, c.rows, c.side, c.radius, c.speed, c.ids, c.queue⟩ x y = zn at *
 generalize aliveF D.M s i g = al at *
 generalize cmdB ⟨k, s, i, g, ⟨es, ei, eg, m, x, y, vx, vy, hp, pw, lf⟩, mask⟩ = cb at *
 subst hcb ha
 go_enter Tryz.func71, Tryz.ntmps71
 go_upto_region 1 with fail
 rw [← HW1.out]
 go_wp2_with (go_at_call 112; refine belC (HC.out _ bg) fun dd os => ?_; (try rw [more_more]))
 refine wpm ?_
 repeat (go_big_quiet_step ((first | (go_at_call 15; with_reducible exact more_call (HO.out _ bg)) | (go_at_call 113; with_reducible exact more_call (HA.out _ bg)))))
 refine wpQuiet_nil ?_
 rintro _ ⟨pm, rfl⟩
 (try rw [more_more])
 go_wp2_with fail
 refine wpm ?_
 repeat (go_big_quiet_step ((first | (go_at_call 15; with_reducible exact more_call (HO.out _ bg)) | (go_at_call 113; with_reducible exact more_call (HA.out _ bg)))))
 refine wpQuiet_nil ?_
 rintro _ ⟨pm, rfl⟩
 (try rw [more_more])
 go_wp2_with fail
 go_ret
 exact ⟨rfl, bg⟩
theorem radmit_ok2 (h : RDeskAt w r c kk D) (ho : CfgOk c) (k s i g es ei eg m x y vx vy hp pw lf mask : Int) (him : (-9223372036854775808 ≤ m ∧ m ≤ 9223372036854775807)) (hcb : cmdB ⟨k, s, i, g, ⟨es, ei, eg, m, x, y, vx, vy, hp, pw, lf⟩, mask⟩ = true) (hf : ¬ c.queue ≤ (D.q.length : Int)) (hk : (k == 1) = false) (ha : aliveF D.M s i g = true) :
 Calls prog 71 #[.pointer (some ⟨r.p, 0, none⟩), .agg #[int i64 k, int i64 s, int i64 i, int i64 g, int i64 es, int i64 ei, int i64 eg, int i64 m, int i64 x, int i64 y, int i64 vx, int i64 vy, int i64 hp, int i64 pw, int i64 lf, int i64 mask]] w fun e w' => e = .returned (int i64 0) ∧ RDStp w r c kk w' { D with q := D.q ++ [⟨k, s, i, g, ⟨es, ei, eg, m, x, y, vx, vy, hp, pw, lf⟩, mask⟩] } := by
 obtain ⟨HC, HO, HA, HT⟩ := preT w r c kk D h ho k s i g es ei eg m x y vx vy hp pw lf mask him
 have HH := hid h
 have ho' := ho
 obtain ⟨w1, hw1, k0, hb1, g0, hsz⟩ := one_boxC w k s i g es ei eg m x y vx vy hp pw lf mask 34
 obtain ⟨p, cap, c0, c1, c2, c3, c4, c5, c6, c7, c8, hlt⟩ := h.at1 hb1
 have s6 : w.heap.size < w1.heap.size := by omega
 obtain ⟨x0, x1, x2, x3, x4, x5, x6, x8, x9⟩ := cells9 k0
 obtain ⟨z0, z1, z2⟩ := ltz hlt
 obtain ⟨z6, z7, z8⟩ := ltz s6
 obtain ⟨hL, hL0⟩ := ld_boxL s6 k0
 have K0 := hid k0
 have HW1 := hid hw1
 have HB1 := hid hb1
 clear h ho hw1 k0 g0 hsz him
 generalize ofF ⟨c.cols, c.rows, c.side, c.radius, c.speed, c.ids, c.queue⟩ x y = zn at *
 generalize aliveF D.M s i g = al at *
 generalize cmdB ⟨k, s, i, g, ⟨es, ei, eg, m, x, y, vx, vy, hp, pw, lf⟩, mask⟩ = cb at *
 subst hcb ha
 go_enter Tryz.func71, Tryz.ntmps71
 go_upto_region 1 with fail
 rw [← HW1.out]
 go_wp2_with (go_at_call 112; refine belC (HC.out _ bg) fun dd os => ?_; (try rw [more_more]))
 refine wpm ?_
 repeat (go_big_quiet_step ((first | (go_at_call 15; with_reducible exact more_call (HO.out _ bg)) | (go_at_call 113; with_reducible exact more_call (HA.out _ bg)))))
 refine wpQuiet_nil ?_
 rintro _ ⟨pm, rfl⟩
 (try rw [more_more])
 go_wp2_with fail
 refine wpm ?_
 repeat (go_big_quiet_step ((first | (go_at_call 15; with_reducible exact more_call (HO.out _ bg)) | (go_at_call 113; with_reducible exact more_call (HA.out _ bg)))))
 refine wpQuiet_nil ?_
 rintro _ ⟨pm, rfl⟩
 (try rw [more_more])
 go_upto_region 13 with fail
 generalize hw5 : more w1 _ _ = w5
 have hb5 : Below w1.heap.size w1 w5 := by rw [← hw5]; exact bg
 have hB5w : Below w.heap.size w w5 := HB1.out.trans (hb5.mono HB1.out.size)
 have hbx : ∀ j, w5.cell? ⟨w.heap.size, j, none⟩ = w1.cell? ⟨w.heap.size, j, none⟩ := fun j => hb5.cell (p := ⟨w.heap.size, j, none⟩) s6
 clear hw5
 have hq' : (D.q.length : Int) < c.queue := by omega
 have hq64 := ho'.q1
 obtain ⟨qv, p5, cap5, rfl, c25, f25, hdp, hap, haB, hsl5, hbc5, hB5, hfin⟩ := RDStp.fin HH.out hB5w (Nat.le_refl _) (Nat.lt_of_lt_of_le s6 hb5.size) D (RDStp.of_grown (HH.out.grown hB5w) (Below.refl _ _)) hq' ⟨k, s, i, g, ⟨es, ei, eg, m, x, y, vx, vy, hp, pw, lf⟩, mask⟩
 have HSL := hid hsl5
 have HFIN := hid hfin
 clear hsl5 hfin hbc5 hb5 hB5w HC HO HA HT hL hL0 c0 c1 c2 c3 c4 c5 c6 c7 c8 x0 x1 x2 x3 x4 x5 x6 x8 x9 z0 z1 z2 z6 z7 z8 hlt
 obtain ⟨i0, hi0, hz0, hz1, hz2⟩ := info_partsG info_cm
 have hLS : ∀ W', TwoD w5 r.p w.heap.size W' → (ldM ⟨w.heap.size, 0, none⟩).run prog W' = .ok (.agg #[int i64 k, int i64 s, int i64 i, int i64 g, int i64 es, int i64 ei, int i64 eg, int i64 m, int i64 x, int i64 y, int i64 vx, int i64 vy, int i64 hp, int i64 pw, int i64 lf, int i64 mask]) W' := fun W' hS => ldM_of ⟨k, s, i, g, ⟨es, ei, eg, m, x, y, vx, vy, hp, pw, lf⟩, mask⟩ fun j v hj => by rw [Nat.zero_add, (hS.2 j).2, hbx j, K0.out j, List.getElem?_toArray]; exact hj
 have HLS := hid hLS
 clear hLS hbx
 go_upto_region 13 with fail
 refine wp_region_x (S := TwoD w5 r.p w.heap.size) 10 (by kernel_rfl) ⟨⟨Nat.le_refl _, hdp, hB5⟩, fun _ => ⟨rfl, rfl⟩⟩ (fun hHeld => ?_)
 refine anyX_tk 0 (v := ?_) rfl ?_ (by assumption) ?_
 rotate_left 1
 · (intro w hSw; have hSw1 := hSw.2; go_simp; (try with_reducible rfl))
 simp [Act.put]
 refine anyX_tk 1 (v := ?_) rfl ?_ (by assumption) ?_
 rotate_left 1
 · (intro w hSw; have hSw1 := hSw.2; go_simp; (try with_reducible rfl))
 simp [Act.put]
 refine anyX_tk 2 (v := ?_) rfl ?_ (by assumption) ?_
 rotate_left 1
 · (intro w hSw; have hSw1 := hSw.2; go_simp; (try with_reducible rfl))
 simp [Act.put]
 refine anyX_tk 3 (v := ?_) rfl ?_ (by assumption) ?_
 rotate_left 1
 · (intro w hSw; have hSw1 := hSw.2; go_simp; (try with_reducible rfl))
 simp [Act.put]
 refine anyX_tk 4 (v := ?_) rfl ?_ (by assumption) ?_
 rotate_left 1
 · (intro w hSw; have hSw1 := hSw.2; go_simp; (try with_reducible rfl))
 simp [Act.put]
 refine anyX_tk 5 (v := ?_) rfl ?_ (by assumption) ?_
 rotate_left 1
 · (intro w hSw; have hSw1 := hSw.2; have hl5 := HLS.out _ hSw; go_simp; (try with_reducible rfl))
 simp [Act.put]
 refine anyX_r1 6 fun K hK => ?_
 go_simp
 refine hK.out _ _ (fun hlt => ?_) (fun hHeld => ?_)
 · (try dsimp only); exact hHeld.alloc _
 clear hK
 replace hHeld := hHeld (by omega); try simp [Act.put]
 refine anyX_r1 7 fun K hK => ?_
 (refine step_append_sl _ (by rfl) (.tmp 62) (.tmp 64) 26 (by rfl) 34 i0 _ 16 128 Tryz.underlying26 hi0 hz0 hz1 hz2 rfl (by omega) _ D.q.length (cellsR cmC D.q) (by rfl) (HSL.out _ bg) ⟨_, 0, none⟩ 1 1 (cmC ⟨k, s, i, g, ⟨es, ei, eg, m, x, y, vx, vy, hp, pw, lf⟩, mask⟩) (by rfl) (by rfl) (new_cellsN _ _ _ _ (by simp)) (cmC_one _) (by omega) (by unfold maxLen; omega) (by omega) ?_; intro g4 off4 cap4 w4 hs4 ht4 ho4; have f24 := (ht4.frozen (a := ⟨r.p, 8, none⟩) (by simp; omega) hap); have c24 := (ht4.cell (a := ⟨r.p, 8, none⟩) (by simp; omega) hap).trans ((hHeld.2 8).1.trans c25); have hd4 := hdp; replace hd4 := Nat.lt_of_lt_of_le hd4 (show w5.heap.size ≤ w4.heap.size from Nat.le_trans (by simp) ht4.size))
 refine hK.out _ _ (fun hlt => ?_) (fun hHeld => ?_)
 · (try dsimp only); exact hHeld.turned ht4 hap haB
 clear hK
 replace hHeld := hHeld (by omega); try simp [Act.put]
 refine anyX_tk 8 (v := ?_) rfl ?_ (by assumption) ?_
 rotate_left 1
 · (intro w hSw; have hSw1 := hSw.2; go_simp; (try with_reducible rfl))
 simp [Act.put]
 refine anyX_tk 9 (v := ?_) rfl ?_ (by assumption) ?_
 rotate_left 1
 · (intro w hSw; have hSw1 := hSw.2; go_simp; (try with_reducible rfl))
 simp [Act.put]
 refine anyX_r1 10 fun K hK => ?_
 go_simp
 refine hK.out _ _ (fun hlt => ?_) (fun hHeld => ?_)
 · exact absurd hlt (by omega)
 clear hK
 clear hHeld; try simp [Act.put]
 refine anyX_done (by kernel_rfl) ?_ _
 go_wp2_with fail
 go_ret
 exact ⟨rfl, HFIN.out _ bg _ _ hs4 ht4 (ho4.elim (fun h => .inl h.symm) fun h => .inr ⟨g4, rfl, h⟩)⟩
theorem radmit_err (h : RDeskAt w r c kk D) (ho : CfgOk c) (k s i g es ei eg m x y vx vy hp pw lf mask : Int) (him : (-9223372036854775808 ≤ m ∧ m ≤ 9223372036854775807)) (hcb : cmdB ⟨k, s, i, g, ⟨es, ei, eg, m, x, y, vx, vy, hp, pw, lf⟩, mask⟩ = true) (hf : ¬ c.queue ≤ (D.q.length : Int)) (hk : k = 1) (hz : (ofF ⟨c.cols, c.rows, c.side, c.radius, c.speed, c.ids, c.queue⟩ x y != es) = false) (he : ((takeF D.M es ei eg).1 != 0) = true) :
 Calls prog 71 #[.pointer (some ⟨r.p, 0, none⟩), .agg #[int i64 k, int i64 s, int i64 i, int i64 g, int i64 es, int i64 ei, int i64 eg, int i64 m, int i64 x, int i64 y, int i64 vx, int i64 vy, int i64 hp, int i64 pw, int i64 lf, int i64 mask]] w fun e w' => e = .returned (int i64 (takeF D.M es ei eg).1) ∧ RDStp w r c kk w' { D with M := (takeF D.M es ei eg).2 } := by
 obtain ⟨HC, HO, HA, HT⟩ := preT w r c kk D h ho k s i g es ei eg m x y vx vy hp pw lf mask him
 have HH := hid h
 have ho' := ho
 obtain ⟨w1, hw1, k0, hb1, g0, hsz⟩ := one_boxC w k s i g es ei eg m x y vx vy hp pw lf mask 34
 obtain ⟨p, cap, c0, c1, c2, c3, c4, c5, c6, c7, c8, hlt⟩ := h.at1 hb1
 have s6 : w.heap.size < w1.heap.size := by omega
 obtain ⟨x0, x1, x2, x3, x4, x5, x6, x8, x9⟩ := cells9 k0
 obtain ⟨z0, z1, z2⟩ := ltz hlt
 obtain ⟨z6, z7, z8⟩ := ltz s6
 obtain ⟨hL, hL0⟩ := ld_boxL s6 k0
 have K0 := hid k0
 have HW1 := hid hw1
 have HB1 := hid hb1
 clear h ho hw1 k0 g0 hsz him
 generalize hzn : ofF ⟨c.cols, c.rows, c.side, c.radius, c.speed, c.ids, c.queue⟩ x y = zn at *
 generalize htk : takeF D.M es ei eg = tk at *
 obtain ⟨er, M1⟩ := tk
 generalize aliveF D.M s i g = al at *
 generalize cmdB ⟨k, s, i, g, ⟨es, ei, eg, m, x, y, vx, vy, hp, pw, lf⟩, mask⟩ = cb at *
 subst hcb hk
 go_enter Tryz.func71, Tryz.ntmps71
 go_upto_region 1 with fail
 rw [← HW1.out]
 go_wp2_with (go_at_call 112; refine belC (HC.out _ bg) fun dd os => ?_; (try rw [more_more]))
 refine wpm ?_
 repeat (go_big_quiet_step ((first | (go_at_call 15; with_reducible exact more_call (HO.out _ bg)) | (go_at_call 113; with_reducible exact more_call (HA.out _ bg)))))
 refine wpQuiet_nil ?_
 rintro _ ⟨pm, rfl⟩
 (try rw [more_more])
 go_wp2_with fail
 refine wpm ?_
 repeat (go_big_quiet_step ((first | (go_at_call 15; with_reducible exact more_call (HO.out _ bg)) | (go_at_call 113; with_reducible exact more_call (HA.out _ bg)))))
 refine wpQuiet_nil ?_
 rintro _ ⟨pm, rfl⟩
 (try rw [more_more])
 go_wp2_with fail
 generalize hw4 : more w1 _ _ = w4
 have hb4 : Below w1.heap.size w1 w4 := by rw [← hw4]; exact bg
 have hB4w : Below w.heap.size w w4 := HB1.out.trans (hb4.mono HB1.out.size)
 have v4 := (hb4.cell (p := ⟨w.heap.size, 4, none⟩) s6).trans x4; have v5 := (hb4.cell (p := ⟨w.heap.size, 5, none⟩) s6).trans x5; have v6 := (hb4.cell (p := ⟨w.heap.size, 6, none⟩) s6).trans x6
 have v1 := (hb4.cell (p := ⟨r.p, 7, none⟩) hlt).trans c7
 clear hw4
 refine wp_region_still_tail 7 (by kernel_rfl) (by kernel_rfl) ?_
 simp only [List.take_succ_cons, List.take_zero, List.drop_succ_cons, List.drop_zero]
 repeat (first | still_step)
 refine wpStill_nil ?_
 go_wp2_with fail
 refine (HT.out _ (hB4w.trans (Below.mono (B := w4.heap.size) bg hB4w.size))).mono ?_
 rintro e w5 ⟨rfl, hs⟩
 have HS := hid (hs.from_below (hB4w.trans (Below.mono (B := w4.heap.size) bg hB4w.size)))
 clear hs
 go_wp2_with fail
 go_ret
 exact ⟨rfl, HS.out.then_below bg⟩
theorem radmit_ok1 (h : RDeskAt w r c kk D) (ho : CfgOk c) (k s i g es ei eg m x y vx vy hp pw lf mask : Int) (him : (-9223372036854775808 ≤ m ∧ m ≤ 9223372036854775807)) (hcb : cmdB ⟨k, s, i, g, ⟨es, ei, eg, m, x, y, vx, vy, hp, pw, lf⟩, mask⟩ = true) (hf : ¬ c.queue ≤ (D.q.length : Int)) (hk : k = 1) (hz : (ofF ⟨c.cols, c.rows, c.side, c.radius, c.speed, c.ids, c.queue⟩ x y != es) = false) (he : (takeF D.M es ei eg).1 = 0) :
 Calls prog 71 #[.pointer (some ⟨r.p, 0, none⟩), .agg #[int i64 k, int i64 s, int i64 i, int i64 g, int i64 es, int i64 ei, int i64 eg, int i64 m, int i64 x, int i64 y, int i64 vx, int i64 vy, int i64 hp, int i64 pw, int i64 lf, int i64 mask]] w fun e w' => e = .returned (int i64 0) ∧ RDStp w r c kk w' { D with M := (takeF D.M es ei eg).2, q := D.q ++ [⟨1, s, i, g, ⟨es, ei, eg, m, x, y, vx, vy, hp, pw, lf⟩, mask⟩] } := by
 obtain ⟨HC, HO, HA, HT⟩ := preT w r c kk D h ho k s i g es ei eg m x y vx vy hp pw lf mask him
 have HH := hid h
 have ho' := ho
 obtain ⟨w1, hw1, k0, hb1, g0, hsz⟩ := one_boxC w k s i g es ei eg m x y vx vy hp pw lf mask 34
 obtain ⟨p, cap, c0, c1, c2, c3, c4, c5, c6, c7, c8, hlt⟩ := h.at1 hb1
 have s6 : w.heap.size < w1.heap.size := by omega
 obtain ⟨x0, x1, x2, x3, x4, x5, x6, x8, x9⟩ := cells9 k0
 obtain ⟨z0, z1, z2⟩ := ltz hlt
 obtain ⟨z6, z7, z8⟩ := ltz s6
 obtain ⟨hL, hL0⟩ := ld_boxL s6 k0
 have K0 := hid k0
 have HW1 := hid hw1
 have HB1 := hid hb1
 clear h ho hw1 k0 g0 hsz him
 generalize hzn : ofF ⟨c.cols, c.rows, c.side, c.radius, c.speed, c.ids, c.queue⟩ x y = zn at *
 generalize htk : takeF D.M es ei eg = tk at *
 obtain ⟨er, M1⟩ := tk
 generalize aliveF D.M s i g = al at *
 generalize cmdB ⟨k, s, i, g, ⟨es, ei, eg, m, x, y, vx, vy, hp, pw, lf⟩, mask⟩ = cb at *
 subst hcb hk he
 go_enter Tryz.func71, Tryz.ntmps71
 go_upto_region 1 with fail
 rw [← HW1.out]
 go_wp2_with (go_at_call 112; refine belC (HC.out _ bg) fun dd os => ?_; (try rw [more_more]))
 refine wpm ?_
 repeat (go_big_quiet_step ((first | (go_at_call 15; with_reducible exact more_call (HO.out _ bg)) | (go_at_call 113; with_reducible exact more_call (HA.out _ bg)))))
 refine wpQuiet_nil ?_
 rintro _ ⟨pm, rfl⟩
 (try rw [more_more])
 go_wp2_with fail
 refine wpm ?_
 repeat (go_big_quiet_step ((first | (go_at_call 15; with_reducible exact more_call (HO.out _ bg)) | (go_at_call 113; with_reducible exact more_call (HA.out _ bg)))))
 refine wpQuiet_nil ?_
 rintro _ ⟨pm, rfl⟩
 (try rw [more_more])
 go_wp2_with fail
 generalize hw4 : more w1 _ _ = w4
 have hb4 : Below w1.heap.size w1 w4 := by rw [← hw4]; exact bg
 have hB4w : Below w.heap.size w w4 := HB1.out.trans (hb4.mono HB1.out.size)
 have v4 := (hb4.cell (p := ⟨w.heap.size, 4, none⟩) s6).trans x4; have v5 := (hb4.cell (p := ⟨w.heap.size, 5, none⟩) s6).trans x5; have v6 := (hb4.cell (p := ⟨w.heap.size, 6, none⟩) s6).trans x6
 have v1 := (hb4.cell (p := ⟨r.p, 7, none⟩) hlt).trans c7
 clear hw4
 refine wp_region_still_tail 7 (by kernel_rfl) (by kernel_rfl) ?_
 simp only [List.take_succ_cons, List.take_zero, List.drop_succ_cons, List.drop_zero]
 repeat (first | still_step)
 refine wpStill_nil ?_
 go_wp2_with fail
 refine (HT.out _ (hB4w.trans (Below.mono (B := w4.heap.size) bg hB4w.size))).mono ?_
 rintro e w5 ⟨rfl, hs⟩
 have hq' : (D.q.length : Int) < c.queue := by omega
 have hq64 := ho'.q1
 have hb4b : Below w.heap.size w1 w4 := Below.mono (B := w1.heap.size) hb4 (by omega)
 obtain ⟨qv, p5, cap5, rfl, c25, f25, hdp, hap, haB, hsl5, hbc5, hB5, hfin⟩ := RDStp.fin HH.out (hB4w.trans (Below.mono (B := w4.heap.size) bg hB4w.size)) (Nat.le_refl _) (by first | exact Nat.lt_of_lt_of_le s6 hb4.size | (simp; exact Nat.lt_of_lt_of_le s6 hb4.size)) _ hs hq' ⟨1, s, i, g, ⟨es, ei, eg, m, x, y, vx, vy, hp, pw, lf⟩, mask⟩
 have hbx : ∀ j, w5.cell? ⟨w.heap.size, j, none⟩ = w1.cell? ⟨w.heap.size, j, none⟩ := fun j => (hbc5 j).trans (hb4.cell (p := ⟨w.heap.size, j, none⟩) s6)
 have HSL := hid hsl5
 have HFIN := hid hfin
 clear hs hsl5 hfin hbc5 hb4 hb4b hB4w HC HO HA HT hL hL0 c0 c1 c2 c3 c4 c5 c6 c7 c8 x0 x1 x2 x3 x4 x5 x6 x8 x9 v1 v4 v5 v6 z0 z1 z2 z6 z7 z8 hlt
 obtain ⟨i0, hi0, hz0, hz1, hz2⟩ := info_partsG info_cm
 have hLS : ∀ W', TwoD w5 r.p w.heap.size W' → (ldM ⟨w.heap.size, 0, none⟩).run prog W' = .ok (.agg #[int i64 1, int i64 s, int i64 i, int i64 g, int i64 es, int i64 ei, int i64 eg, int i64 m, int i64 x, int i64 y, int i64 vx, int i64 vy, int i64 hp, int i64 pw, int i64 lf, int i64 mask]) W' := fun W' hS => ldM_of ⟨1, s, i, g, ⟨es, ei, eg, m, x, y, vx, vy, hp, pw, lf⟩, mask⟩ fun j v hj => by rw [Nat.zero_add, (hS.2 j).2, hbx j, K0.out j, List.getElem?_toArray]; exact hj
 have HLS := hid hLS
 clear hLS hbx
 go_upto_region 13 with fail
 refine wp_region_x (S := TwoD w5 r.p w.heap.size) 10 (by kernel_rfl) ⟨⟨Nat.le_refl _, hdp, hB5⟩, fun _ => ⟨rfl, rfl⟩⟩ (fun hHeld => ?_)
 refine anyX_tk 0 (v := ?_) rfl ?_ (by assumption) ?_
 rotate_left 1
 · (intro w hSw; have hSw1 := hSw.2; go_simp; (try with_reducible rfl))
 simp [Act.put]
 refine anyX_tk 1 (v := ?_) rfl ?_ (by assumption) ?_
 rotate_left 1
 · (intro w hSw; have hSw1 := hSw.2; go_simp; (try with_reducible rfl))
 simp [Act.put]
 refine anyX_tk 2 (v := ?_) rfl ?_ (by assumption) ?_
 rotate_left 1
 · (intro w hSw; have hSw1 := hSw.2; go_simp; (try with_reducible rfl))
 simp [Act.put]
 refine anyX_tk 3 (v := ?_) rfl ?_ (by assumption) ?_
 rotate_left 1
 · (intro w hSw; have hSw1 := hSw.2; go_simp; (try with_reducible rfl))
 simp [Act.put]
 refine anyX_tk 4 (v := ?_) rfl ?_ (by assumption) ?_
 rotate_left 1
 · (intro w hSw; have hSw1 := hSw.2; go_simp; (try with_reducible rfl))
 simp [Act.put]
 refine anyX_tk 5 (v := ?_) rfl ?_ (by assumption) ?_
 rotate_left 1
 · (intro w hSw; have hSw1 := hSw.2; have hl5 := HLS.out _ hSw; go_simp; (try with_reducible rfl))
 simp [Act.put]
 refine anyX_r1 6 fun K hK => ?_
 go_simp
 refine hK.out _ _ (fun hlt => ?_) (fun hHeld => ?_)
 · (try dsimp only); exact hHeld.alloc _
 clear hK
 replace hHeld := hHeld (by omega); try simp [Act.put]
 refine anyX_r1 7 fun K hK => ?_
 (refine step_append_sl _ (by rfl) (.tmp 62) (.tmp 64) 26 (by rfl) 34 i0 _ 16 128 Tryz.underlying26 hi0 hz0 hz1 hz2 rfl (by omega) _ D.q.length (cellsR cmC D.q) (by rfl) (HSL.out _ bg) ⟨_, 0, none⟩ 1 1 (cmC ⟨1, s, i, g, ⟨es, ei, eg, m, x, y, vx, vy, hp, pw, lf⟩, mask⟩) (by rfl) (by rfl) (new_cellsN _ _ _ _ (by simp)) (cmC_one _) (by omega) (by unfold maxLen; omega) (by omega) ?_; intro g4 off4 cap4 w4 hs4 ht4 ho4; have f24 := (ht4.frozen (a := ⟨r.p, 8, none⟩) (by simp; omega) hap); have c24 := (ht4.cell (a := ⟨r.p, 8, none⟩) (by simp; omega) hap).trans ((hHeld.2 8).1.trans c25); have hd4 := hdp; replace hd4 := Nat.lt_of_lt_of_le hd4 (show w5.heap.size ≤ w4.heap.size from Nat.le_trans (by simp) ht4.size))
 refine hK.out _ _ (fun hlt => ?_) (fun hHeld => ?_)
 · (try dsimp only); exact hHeld.turned ht4 hap haB
 clear hK
 replace hHeld := hHeld (by omega); try simp [Act.put]
 refine anyX_tk 8 (v := ?_) rfl ?_ (by assumption) ?_
 rotate_left 1
 · (intro w hSw; have hSw1 := hSw.2; go_simp; (try with_reducible rfl))
 simp [Act.put]
 refine anyX_tk 9 (v := ?_) rfl ?_ (by assumption) ?_
 rotate_left 1
 · (intro w hSw; have hSw1 := hSw.2; go_simp; (try with_reducible rfl))
 simp [Act.put]
 refine anyX_r1 10 fun K hK => ?_
 go_simp
 refine hK.out _ _ (fun hlt => ?_) (fun hHeld => ?_)
 · exact absurd hlt (by omega)
 clear hK
 clear hHeld; try simp [Act.put]
 refine anyX_done (by kernel_rfl) ?_ _
 go_wp2_with fail
 go_ret
 exact ⟨rfl, HFIN.out _ bg _ _ hs4 ht4 (ho4.elim (fun h => .inl h.symm) fun h => .inr ⟨g4, rfl, h⟩)⟩
theorem radmit_any (h : RDeskAt w r c kk D) (ho : CfgOk c) (m : Cm) (him : (-9223372036854775808 ≤ m.b.m ∧ m.b.m ≤ 9223372036854775807)) : Calls prog 71 #[.pointer (some ⟨r.p, 0, none⟩), .agg (cmC m).toArray] w fun e w' => e = .returned (int i64 (admitF c D m).1) ∧ RDStp w r c kk w' (admitF c D m).2 := by
 have HG := fun (k : Int) {f : FuncId} {args : Array Value} (hc : Calls prog f args w fun e w' => e = .returned (int i64 k) ∧ Below w.heap.size w w') => hc.mono fun _ _ ⟨h1, h2⟩ => (⟨h1, RDStp.of_grown h h2⟩ : _ ∧ RDStp w r c kk _ D)
 obtain ⟨k, s, i, g, ⟨es, ei, eg, m, x, y, vx, vy, hp, pw, lf⟩, mask⟩ := m
 simp only at him
 unfold admitF fullB
 simp only
 cases hcb : cmdB ⟨k, s, i, g, ⟨es, ei, eg, m, x, y, vx, vy, hp, pw, lf⟩, mask⟩ with
 | false =>
   rw [if_pos rfl]
   exact HG _ (radmit_bad w r c kk D h ho k s i g es ei eg m x y vx vy hp pw lf mask him hcb)
 | true =>
   rw [if_neg (by simp)]
   split
   · rename_i hf; exact HG _ (radmit_full w r c kk D h ho k s i g es ei eg m x y vx vy hp pw lf mask him hcb (of_decide_eq_true hf))
   · rename_i hf
     have hf' : ¬ c.queue ≤ (D.q.length : Int) := fun e => hf (decide_eq_true e)
     by_cases hk : k = 1
     · rw [if_pos hk]
       split
       · rename_i hz; exact HG _ (radmit_range w r c kk D h ho k s i g es ei eg m x y vx vy hp pw lf mask him hcb hf' hk (by simpa using hz))
       · rename_i hz
         have hz' : (ofF c x y != es) = false := by simpa using hz
         split
         · rename_i he; exact radmit_err w r c kk D h ho k s i g es ei eg m x y vx vy hp pw lf mask him hcb hf' hk hz' (by simpa using he)
         · rename_i he
           have := radmit_ok1 w r c kk D h ho k s i g es ei eg m x y vx vy hp pw lf mask him hcb hf' hk hz' (by simpa using he)
           subst hk
           exact this
     · have hk' : (k == 1) = false := by simpa using hk
       rw [if_neg hk]
       split
       · rename_i ha; exact HG _ (radmit_stale w r c kk D h ho k s i g es ei eg m x y vx vy hp pw lf mask him hcb hf' hk' ha)
       · rename_i ha; exact radmit_ok2 w r c kk D h ho k s i g es ei eg m x y vx vy hp pw lf mask him hcb hf' hk' (by simpa using ha)
end
end
structure OnceR (mp mq : Sh) (gv : List (Id3 × Bool)) : Prop where
 gp : Good mp
 gq : Good mq
 rel : ∀ (i : Nat) (x : Ix), mp.all[i]? = some x → ∃ y : Ix, mq.all[i]? = some y ∧ y.bound = x.bound ∧ y.gen ≤ x.gen ∧ (y.alive = true → x.alive = true ∧ y.gen = x.gen) ∧ (y.alive = false → x.gen < 1048576 → (i : Int) ∈ mq.free)
 gvn : ∀ e ∈ gv, e.1.1 = 0 ∧ 0 ≤ e.1.2.1 ∧ 0 ≤ e.1.2.2 ∧ ∃ x y : Ix, mp.all[e.1.2.1.toNat]? = some x ∧ mq.all[e.1.2.1.toNat]? = some y ∧ e.1.2.2 < x.bound ∧ e.1.2.2 ≤ x.gen ∧ (x.alive = false → e.1.2.2 < x.gen) ∧ (x.alive = true → x.gen = e.1.2.2 → y.alive = e.2)
theorem OnceR.turn {mp mq mp' mq' : Sh} {gv : List (Id3 × Bool)} (h : OnceR mp mq gv) {i : Nat} {x y x' y' : Ix} (hx : mp.all[i]? = some x) (hy : mq.all[i]? = some y) (hp : mp'.all = mp.all.set i x') (hq : mq'.all = mq.all.set i y') (gp : Good mp') (gq : Good mq')
 (hf : ∀ j : Nat, j ≠ i → (j : Int) ∈ mq.free → (j : Int) ∈ mq'.free) (h1 : y'.bound = x'.bound) (h2 : y'.gen ≤ x'.gen) (h3 : y'.alive = true → x'.alive = true ∧ y'.gen = x'.gen) (h4 : y'.alive = false → x'.gen < 1048576 → (i : Int) ∈ mq'.free)
 (hb : x.bound ≤ x'.bound) (hg : ∀ e ∈ gv, e.1.2.1 = (i : Int) → e.1.2.2 ≤ x.gen → (x.alive = false → e.1.2.2 < x.gen) → (x.alive = true → x.gen = e.1.2.2 → y.alive = e.2) → e.1.2.2 ≤ x'.gen ∧ (x'.alive = false → e.1.2.2 < x'.gen) ∧ (x'.alive = true → x'.gen = e.1.2.2 → y'.alive = e.2)) : OnceR mp' mq' gv := by
 have hil : i < mp.all.length := (List.getElem?_eq_some_iff.1 hx).1
 have hil2 : i < mq.all.length := (List.getElem?_eq_some_iff.1 hy).1
 refine ⟨gp, gq, fun j z hz => ?_, fun e he => ?_⟩
 · rw [hp, List.getElem?_set] at hz
   by_cases hj : i = j
   · subst hj
     rw [if_pos rfl, if_pos hil] at hz
     obtain rfl : x' = z := by simpa using hz
     exact ⟨y', by rw [hq, List.getElem?_set_self hil2], h1, h2, h3, h4⟩
   · rw [if_neg hj] at hz
     obtain ⟨y2, a1, a2, a3, a4, a5⟩ := h.rel j z hz
     exact ⟨y2, by rw [hq, List.getElem?_set_ne hj]; exact a1, a2, a3, a4, fun b1 b2 => hf j (fun e => hj e.symm) (a5 b1 b2)⟩
 · obtain ⟨e0, e1, e1', x2, y2, e2, e3, e4, e5, e6, e7⟩ := h.gvn e he
   refine ⟨e0, e1, e1', ?_⟩
   by_cases hj : i = e.1.2.1.toNat
   · have hei : e.1.2.1 = (i : Int) := by omega
     rw [← hj] at e2 e3 ⊢
     rw [hx] at e2
     rw [hy] at e3
     obtain rfl := Option.some.inj e2
     obtain rfl := Option.some.inj e3
     obtain ⟨g1, g2, g3⟩ := hg e he hei e5 e6 e7
     exact ⟨x', y', by rw [hp, List.getElem?_set_self hil], by rw [hq, List.getElem?_set_self hil2], by omega, g1, g2, g3⟩
   · exact ⟨x2, y2, by rw [hp, List.getElem?_set_ne hj]; exact e2, by rw [hq, List.getElem?_set_ne hj]; exact e3, e4, e5, e6, e7⟩
theorem OnceR.snoc {mp mq : Sh} {gv : List (Id3 × Bool)} (h : OnceR mp mq gv) {i : Nat} {x y : Ix} (hx : mp.all[i]? = some x) (hy : mq.all[i]? = some y) (ha : x.alive = true) (hb : x.gen < x.bound) (h0 : 0 ≤ x.gen) {b : Bool} (hyb : y.alive = b) : OnceR mp mq (gv ++ [((0, (i : Int), x.gen), b)]) := by
 refine ⟨h.gp, h.gq, h.rel, fun e he => ?_⟩
 rcases List.mem_append.1 he with he | he
 · exact h.gvn e he
 · obtain rfl : e = ((0, (i : Int), x.gen), b) := by simpa using he
   exact ⟨rfl, Int.natCast_nonneg i, h0, x, y, by simpa using hx, by simpa using hy, hb, Int.le_refl _, (fun h => by rw [ha] at h; cases h), fun _ _ => hyb⟩
theorem freeF_not {m : Sh} {i g : Int} (h : (aliveF [m] 0 i g) = false) : ∃ c : Int, (c == 0) = false ∧ freeF [m] 0 i g = (c, [m]) := by
 cases hx : ixOf [m] 0 i with
 | none => exact ⟨1, rfl, by simp only [freeF, hx]⟩
 | some x =>
   by_cases h0 : g < 0
   · exact ⟨1, rfl, by simp only [freeF, hx, if_pos h0]⟩
   · have ha : (x.alive && x.gen == g) = false := by simpa [aliveF, hx] using h
     exact ⟨9, rfl, by simp only [freeF, hx, if_neg h0, ha, if_true]⟩
theorem freed_all (m : Sh) (i : Nat) (x : Ix) : (freedSh m i x).all = m.all.set i ⟨x.gen + 1, x.bound, false⟩ := by unfold freedSh; split <;> rfl
theorem freed_free {m : Sh} {i : Nat} {x : Ix} {f : Int} (h : f ∈ m.free) : f ∈ (freedSh m i x).free := by unfold freedSh; split <;> simp [h]
theorem freed_self {m : Sh} {i : Nat} {x : Ix} (h : x.gen + 1 < 1048576) : (i : Int) ∈ (freedSh m i x).free := by unfold freedSh; rw [if_pos h]; simp
theorem OnceR.free {mp mq : Sh} {gv : List (Id3 × Bool)} (h : OnceR mp mq gv) {e : Id3 × Bool} (he : e ∈ gv) :
 (∃ mp', freeF [mp] 0 e.1.2.1 e.1.2.2 = (0, [mp']) ∧ (e.2 = true → ∃ mq', freeF [mq] 0 e.1.2.1 e.1.2.2 = (0, [mq']) ∧ OnceR mp' mq' gv) ∧ (e.2 = false → OnceR mp' mq gv)) ∨ (∃ c : Int, (c == 0) = false ∧ freeF [mp] 0 e.1.2.1 e.1.2.2 = (c, [mp])) := by
 obtain ⟨e0, e1, e1', x, y, hx, hy, e4, e5, e6, e7⟩ := h.gvn e he
 obtain ⟨⟨es, ei, eg⟩, eb⟩ := e
 simp only at e0 e1 e1' hx hy e4 e5 e6 e7 ⊢
 obtain ⟨i, rfl⟩ := Int.eq_ofNat_of_zero_le e1
 rw [Int.toNat_natCast] at hx hy
 cases ha : aliveF [mp] 0 i eg with
 | false => exact .inr (freeF_not ha)
 | true =>
   left
   have ha' : x.alive = true ∧ x.gen = eg := by simpa [aliveF, ixOf, shOf, hx] using ha
   obtain ⟨hxa, rfl⟩ := ha'
   obtain ⟨f1, f2⟩ := freeF_alive (M := [mp]) (k := 0) rfl hx hxa h.gp
   have hyb := e7 hxa rfl
   obtain ⟨y2, hy2, y1, y3, y4, y5⟩ := h.rel i x hx
   rw [hy] at hy2
   obtain rfl := Option.some.inj hy2
   have hil := (List.getElem?_eq_some_iff.1 hx).1
   have hxr := (h.gp.inv.rng i x hx).2.2.2.2 hxa
   refine ⟨freedSh mp i x, by simpa using f1, fun hb => ?_, fun hb => ?_⟩
   · subst hb
     obtain ⟨y6, y7⟩ := y4 hyb
     obtain ⟨g1, g2⟩ := freeF_alive (M := [mq]) (k := 0) rfl hy hyb h.gq
     rw [y7] at g1
     refine ⟨freedSh mq i y, by simpa using g1, ?_⟩
     refine h.turn hx hy (x' := ⟨x.gen + 1, x.bound, false⟩) (y' := ⟨y.gen + 1, y.bound, false⟩) (freed_all _ _ _) (freed_all _ _ _) f2 g2 (fun j _ hm => freed_free hm) y1 (by simp only; omega) (fun hh => by cases hh) (fun _ hh => freed_self (by simp only at hh; omega)) (Int.le_refl _) ?_
     intro e _ _ q1 _ _
     exact ⟨by simp only; omega, fun _ => by simp only; omega, fun hh => by cases hh⟩
   · subst hb
     have hset : mq.all = mq.all.set i y := by rw [← (List.getElem?_eq_some_iff.1 hy).2]; simp
     refine h.turn hx hy (x' := ⟨x.gen + 1, x.bound, false⟩) (y' := y) (freed_all _ _ _) hset f2 h.gq (fun j _ hm => hm) y1 (by simp only; omega) (fun hh => by rw [hyb] at hh; cases hh) (fun hh _ => y5 hh hxr) (Int.le_refl _) ?_
     intro e _ _ q1 _ _
     exact ⟨by simp only; omega, fun _ => by simp only; omega, fun hh => by cases hh⟩
section
def lapsS (s : Slot) : Bool := decide (0 ≤ s.row) && decide (s.gen < s.bound)
def lapSlot (s : Slot) : Slot := if lapsS s then { s with gen := s.bound, row := if s.bound = 1048576 then -1 else s.row } else s
def lapL (l : List Slot) (n : Nat) : List Slot := (l.take n).map lapSlot ++ l.drop n
theorem lapL_get {l : List Slot} {n : Nat} {s : Slot} (hs : l[n]? = some s) : (lapL l n)[n]? = some s := by
 have hn := (List.getElem?_eq_some_iff.1 hs).1
 rw [lapL, List.getElem?_append_right (by simp; omega)]
 simp [Nat.min_eq_left (Nat.le_of_lt hn), hs]
theorem lapL_succ {l : List Slot} {n : Nat} {s : Slot} (hs : l[n]? = some s) : lapL l (n + 1) = (lapL l n).set n (lapSlot s) := by
 have hn := (List.getElem?_eq_some_iff.1 hs).1
 have e := (List.getElem?_eq_some_iff.1 hs).2
 have hd : l.drop n = s :: l.drop (n + 1) := by rw [List.drop_eq_getElem_cons hn, e]
 rw [lapL, lapL, List.take_succ_eq_append_getElem hn, e, hd, List.set_append_right _ _ (by simp; omega)]
 simp [Nat.min_eq_left (Nat.le_of_lt hn)]
def lapC (l : List Slot) : Nat := (l.filter lapsS).length
variable {ids : Nat} {M : List Sh} {rw : Int → Int → Int} {put : Int}
theorem ixSlots_cnt (k : Nat) (m : Sh) (hg : Good m) (hr : ∀ i : Nat, i < m.all.length → (0 ≤ rw k i ↔ (i : Int) ∈ m.free)) : lapC (ixSlots rw k 0 m.all) = lapN m := by
 have h1 : ixSlots rw k 0 m.all = (List.range m.all.length).map fun (i : Nat) => (⟨(k : Int), (i : Int), (m.all.getD i ⟨0, 0, false⟩).gen, (m.all.getD i ⟨0, 0, false⟩).bound, rw (k : Int) (i : Int), (m.all.getD i ⟨0, 0, false⟩).alive⟩ : Slot) := by
  apply List.ext_getElem?
  intro j
  rw [ixSlots_get, List.getElem?_map]
  by_cases hj : j < m.all.length
  · simp [List.getElem?_range hj, List.getElem?_eq_getElem hj, List.getD]
  · rw [List.getElem?_eq_none (by omega), List.getElem?_eq_none (by simp; omega)]; rfl
 have h2 : (m.free.filter (lapses m.all)).Perm (((List.range m.all.length).filter fun (i : Nat) => decide ((i : Int) ∈ m.free) && lapses m.all i).map Int.ofNat) := by
  refine (List.perm_ext_iff_of_nodup (hg.inv.nd.filter _) ?_).2 fun a => ?_
  · rw [List.nodup_iff_pairwise_ne, List.pairwise_map]
    exact (List.nodup_range.filter _).imp fun hne e => hne (Int.ofNat.inj e)
  · simp only [List.mem_filter, List.mem_map, List.mem_range, Bool.and_eq_true, decide_eq_true_eq]
    constructor
    · rintro ⟨h3, h4⟩
      obtain ⟨h0, h5⟩ := hg.inv.fr a h3
      obtain ⟨i, rfl⟩ := Int.eq_ofNat_of_zero_le h0
      exact ⟨i, ⟨by omega, h3, h4⟩, rfl⟩
    · rintro ⟨i, ⟨_, h3, h4⟩, rfl⟩
      exact ⟨h3, h4⟩
 rw [lapN, lapCnt, h2.length_eq, List.length_map, lapC, h1, List.filter_map, List.length_map]
 congr 1
 refine List.filter_congr fun i hi => ?_
 have hil := List.mem_range.1 hi
 have hrr := hr i hil
 simp only [Function.comp, lapsS, lapses, Int.toNat_natCast, List.getElem?_eq_getElem hil, List.getD, Option.getD_some]
 by_cases hf : (i : Int) ∈ m.free
 · simp [hf, hrr.2 hf]
 · have : ¬ 0 ≤ rw k i := fun h => hf (hrr.1 h)
   simp [hf, this]
theorem mSlots_cnt : ∀ (M : List Sh) (k0 : Nat), (∀ m ∈ M, Good m) → (∀ (k : Nat) (m : Sh), M[k]? = some m → ∀ i : Nat, i < m.all.length → (0 ≤ rw ((k0 + k : Nat) : Int) i ↔ (i : Int) ∈ m.free)) → lapC (mSlots rw k0 M) = (M.map lapN).sum
 | [], _, _, _ => by simp [mSlots, lapC]
 | m :: M, k0, hg, hr => by
   have h1 := ixSlots_cnt (rw := rw) k0 m (hg m (by simp)) (hr 0 m rfl)
   have h2 := mSlots_cnt M (k0 + 1) (fun m hm => hg m (List.mem_cons_of_mem _ hm)) fun k m hm i hi => by
    have := hr (k + 1) m (by simpa using hm) i hi
    rwa [show k0 + (k + 1) = k0 + 1 + k by omega] at this
   have e : lapC (mSlots rw k0 (m :: M)) = lapC (ixSlots rw k0 0 m.all) + lapC (mSlots rw ((k0 : Int) + 1) M) := by
    simp [mSlots, lapC, List.filter_append]
   rw [e, h1, List.map_cons, List.sum_cons, ← h2]
   rfl
theorem Sim.cnt (h : Sim ids M rw put) : lapC (mSlots rw 0 M) = (M.map lapN).sum :=
 mSlots_cnt M 0 h.good fun k m hm i hi => by
  have := (h.row k m hm i (by rw [← h.len m (List.mem_of_getElem? hm)]; exact hi)).1
  simpa using this
end
def LapR (w : World) (R : RLay) (l : List Slot) (put : Int) (wr : World) (n : Nat) : Prop := RefAt wr R (lapL l n) put ∧ Chg w wr R.own ∧ w.heap.size ≤ wr.heap.size
theorem LapR.later {w wr W : World} {R : RLay} {l : List Slot} {put : Int} {n : Nat} (h : LapR w R l put wr n) (hb : Below wr.heap.size wr W) : LapR w R l put W n := ⟨h.1.grown hb, h.2.1.then_below (hb.mono h.2.2), Nat.le_trans h.2.2 hb.size⟩
theorem LapR.gen {w wr : World} {R : RLay} {l : List Slot} {put : Int} {n : Nat} {s : Slot} (h : LapR w R l put wr n) (hs : l[n]? = some s) (hn : lapsS s = true) (hb : s.bound ≠ 1048576) : LapR w R l put (wr.setCell ⟨R.b, R.off + n * 6 + 2, none⟩ (int i64 s.bound)) (n + 1) := by
 refine ⟨?_, h.2.1.put1 _ _, by simpa [World.setCell] using h.2.2⟩
 rw [lapL_succ hs, lapSlot, hn]
 exact h.1.put1 (lapL_get hs) 2 _ (by omega) (by simp [Slot.cells, hb])
theorem s_turned {W1 W w' : World} {o : Option Nat} (h : W1.heap.size ≤ W.heap.size ∧ ∀ b o, b < W1.heap.size → W.cell? ⟨b, o, none⟩ = W1.cell? ⟨b, o, none⟩) (ht : Turned W w' o) (ho : ∀ g, o = some g → W1.heap.size ≤ g) :
 W1.heap.size ≤ w'.heap.size ∧ ∀ b o, b < W1.heap.size → w'.cell? ⟨b, o, none⟩ = W1.cell? ⟨b, o, none⟩ :=
 ⟨Nat.le_trans h.1 ht.size, fun b j hb => (ht.cell (a := ⟨b, j, none⟩) (Nat.lt_of_lt_of_le hb h.1) fun e => by have := ho b e; omega).trans (h.2 b j hb)⟩
def rlL (l : List Slot) : List Id3 := l.flatMap fun s => if s.alive then [(s.k, s.i, s.gen)] else []
theorem rlL_succ {l : List Slot} {n : Nat} {s : Slot} (hs : l[n]? = some s) : rlL (l.take (n + 1)) = rlL (l.take n) ++ if s.alive then [(s.k, s.i, s.gen)] else [] := by
 have hn := (List.getElem?_eq_some_iff.1 hs).1
 rw [List.take_succ_eq_append_getElem hn, (List.getElem?_eq_some_iff.1 hs).2]
 simp [rlL]
theorem rlL_le : ∀ l : List Slot, (rlL l).length ≤ l.length
 | [] => by simp [rlL]
 | s :: l => by
   have := rlL_le l
   have e : rlL (s :: l) = (if s.alive then [(s.k, s.i, s.gen)] else []) ++ rlL l := by simp [rlL]
   rw [e, List.length_append, List.length_cons]
   split <;> simp <;> omega
theorem ixSlots_list (rw : Int → Int → Int) : ∀ (l : List Ix) (k i : Int), rlL (ixSlots rw k i l) = ixList k i l
 | [], _, _ => rfl
 | x :: l, k, i => by
   have := ixSlots_list rw l k (i + 1)
   simp only [rlL] at this
   simp [ixSlots, rlL, ixList, this]
theorem mSlots_list (rw : Int → Int → Int) : ∀ (M : List Sh) (k : Int), rlL (mSlots rw k M) = shList k M
 | [], _ => rfl
 | m :: M, k => by
   have h1 := ixSlots_list rw m.all k 0
   have h2 := mSlots_list rw M (k + 1)
   simp only [rlL] at h1 h2
   simp [mSlots, rlL, shList, h1, h2]
theorem rlist_any (w : World) (R : RLay) (ids : Nat) {c : Int} (M : List Sh) (h : RPool w R ids c M) : Calls prog 74 #[.pointer (some ⟨R.p, 0, none⟩)] w fun e w' => ∃ v, e = .returned v ∧ ListAt w w' v (listF M) := by
 obtain ⟨i0, hi0, hz0, hz1, hz2⟩ := info_parts info_id
 obtain ⟨rw, put, h1, h2, hpc⟩ := h
 have hle : (mSlots rw 0 M).length ≤ 256 := by rw [mSlots_len M 0 h2.len]; exact Nat.mul_le_mul h2.pos.2.2 h2.pos.2.1
 have hres : listF M = rlL (mSlots rw 0 M) := (mSlots_list rw M 0).symm
 rw [hres]
 obtain ⟨c0, _, fp, fb, b0, b1⟩ := h1.tops
 obtain ⟨z1, z2⟩ := h1.bnd
 unfold maxLen at z2
 have HSL := hid fun n s => h1.slot (n := n) (s := s)
 clear h1 h2 hpc hres
 generalize mSlots rw 0 M = l at *
 go_enter Tryz.func74, Tryz.ntmps74
 go_wp2_with fail
 go_loopw [3, 4] (fun v x wr => ∃ n : Nat, n ≤ l.length ∧ x = int i64 n ∧ Hid (ListAt w wr v (rlL (l.take n)))) (fun _ x _ => l.length - (intOf x).toNat)
 case atStart => exact ⟨0, Nat.zero_le _, rfl, hid ⟨⟨by simp [rlL, idCells], .inl ⟨rfl, by simp [rlL]⟩⟩, Below.refl _ _, fun g hg => by cases hg⟩⟩
 case round =>
  obtain ⟨n, hn, rfl, hh⟩ := hrel
  obtain ⟨wo, rfl⟩ : ∃ wo : World, wo = wr := ⟨_, rfl⟩
  have hI : 0 ≤ (n : Int) := Int.natCast_nonneg n
  have hS : w.heap.size ≤ wo.heap.size ∧ ∀ b o, b < w.heap.size → wo.cell? ⟨b, o, none⟩ = w.cell? ⟨b, o, none⟩ := ⟨hh.out.2.1.size, (bcell hh.out.2.1).1⟩
  have hS2 := hS.2
  have hll := rlL_le (l.take n)
  rw [List.length_take, Nat.min_eq_left hn] at hll
  by_cases hlt : n < l.length
  · obtain ⟨s, hs⟩ : ∃ s, l[n]? = some s := ⟨_, List.getElem?_eq_getElem hlt⟩
    obtain ⟨s0, s1, s2, s3, s4, s5⟩ := HSL.out n s hs
    have hsn := rlL_succ hs
    have HSN := hid hsn
    clear hs hsn
    generalize rlL (l.take n) = ll at *
    obtain ⟨sk, si, sg, sb, srow, sa⟩ := s
    simp only at s0 s1 s2 s3 s4 s5
    cases sa with
    | false =>
      simp only [Bool.false_eq_true, if_false, List.append_nil] at HSN
      go_wp2_with fail
      go_roundw
      case rel => exact ⟨n + 1, hlt, by go_num, by rw [HSN.out]; exact hid (hh.out.later bg)⟩
      case measure => simp [intOf]; omega
    | true =>
      simp only [if_true] at HSN
      have HO := hid hh.out.2.2
      go_wp2_with fail
      go_region_held3 (fun W => w.heap.size ≤ W.heap.size ∧ ∀ b o, b < w.heap.size → W.cell? ⟨b, o, none⟩ = w.cell? ⟨b, o, none⟩) (with_reducible (repeat (first | assumption | exact hS | refine s_turned ?_ ht4 HO.out | refine s_alloc _ ?_ | refine s_drew ?_))) ((refine step_append_sl _ (by rfl) (.tmp 22) (.tmp 48) 56 (by rfl) 30 i0 _ 3 24 Tryz.underlying56 hi0 hz0 hz1 hz2 rfl (by omega) _ ll.length (idCells ll) (by rfl) (hh.out.later bg).1 ⟨_, 0, none⟩ 1 1 [int i64 sk, int i64 si, int i64 sg] (by rfl) (by rfl) (by intro j u hj; rcases j with _ | _ | _ | j <;> simp at hj <;> subst hj <;> simp [Addr.add, go_sem]) (by simp [Value.oneCell']) (by omega) (by unfold maxLen; omega) (by omega) ?_; intro g off cap w4 hs4 ht4 ho4))
      go_wp2_with fail
      go_roundw
      case rel => exact ⟨n + 1, hlt, by go_num, by rw [HSN.out]; exact hid ((hh.out.later bg).snoc hs4 ht4 (ho4.elim (fun h => .inl h.symm) fun h => .inr ⟨g, rfl, h⟩))⟩
      case measure => simp [intOf]; omega
  · obtain rfl : n = l.length := by omega
    rw [List.take_length] at hh
    clear hS
    go_wp2_with fail
    go_ret
    exact ⟨_, rfl, hh.out⟩
def slCells (l : List Slot) : List Value := l.flatMap Slot.cells
def newL (ids n : Nat) : List Slot := (List.range n).map fun (j : Nat) => (⟨((j / ids : Nat) : Int), ((j % ids : Nat) : Int), 0, 0, (j : Int), false⟩ : Slot)
theorem newL_len (ids n : Nat) : (newL ids n).length = n := by simp [newL]
theorem newL_succ (ids n : Nat) : newL ids (n + 1) = newL ids n ++ [⟨((n / ids : Nat) : Int), ((n % ids : Nat) : Int), 0, 0, (n : Int), false⟩] := by simp [newL, List.range_succ]
theorem slCells_get : ∀ (l : List Slot) (n j : Nat) (s : Slot), l[n]? = some s → j < 6 → (slCells l)[n * 6 + j]? = s.cells[j]?
 | [], _, _, _, h, _ => by simp at h
 | t :: l, 0, j, s, h, hj => by
   obtain rfl : t = s := by simpa using h
   have e : slCells (t :: l) = t.cells ++ slCells l := by simp [slCells]
   rw [e, List.getElem?_append_left (by simp [Slot.cells]; omega)]
   simp
 | t :: l, n + 1, j, s, h, hj => by
   have e : slCells (t :: l) = t.cells ++ slCells l := by simp [slCells]
   have hl : t.cells.length = 6 := rfl
   rw [e, show (n + 1) * 6 + j = 6 + (n * 6 + j) by omega, List.getElem?_append_right (by rw [hl]; omega), hl, Nat.add_sub_cancel_left]
   exact slCells_get l n j s (by simpa using h) hj
structure NewR (w wr : World) (ids n : Nat) (v : Value) : Prop where
 top : wr.heap[w.heap.size]? = some (.cells #[v, int i64 n] 170 (0, 0))
 sl : Sl wr 167 6 v n (slCells (newL ids n))
 ap : ∀ g, v.ownBlock = some g → w.heap.size ≤ g ∧ g ≠ w.heap.size
 hb : Below w.heap.size w wr
theorem NewR.later {w wr W : World} {ids n : Nat} {v : Value} (h : NewR w wr ids n v) (hb : Below wr.heap.size wr W) : NewR w W ids n v :=
 ⟨(hb.block _ (lt_of_heap h.top)).trans h.top, h.sl.keep fun g hg => hb.block g (h.sl.lt hg), h.ap, h.hb.trans (hb.mono h.hb.size)⟩
theorem NewR.facts {w wr : World} {ids n : Nat} {v : Value} (h : NewR w wr ids n v) : wr.cell? ⟨w.heap.size, 0, none⟩ = some v ∧ wr.cell? ⟨w.heap.size, 1, none⟩ = some (int i64 n) ∧ (∀ o, wr.frozen? ⟨w.heap.size, o, none⟩ = false) ∧ w.heap.size < wr.heap.size ∧ v.ownBlock ≠ some w.heap.size :=
 ⟨by simp [World.cell?, h.top], by simp [World.cell?, h.top], fun o => by simp [World.frozen?, h.top], lt_of_heap h.top, fun e => (h.ap _ e).2 rfl⟩
theorem NewR.app {w wo W w4 : World} {ids n k i : Nat} {v : Value} {g off cap : Nat} (h : NewR w wo ids n v) (hn : n = k * ids + i) (hi : i < ids) (hW : Below wo.heap.size wo W)
 (hs : Sl w4 167 6 (.slice (some ⟨g, off, none⟩) (n + 1) cap) (n + 1) (slCells (newL ids n) ++ [int i64 k, int i64 i, int i64 0, int i64 0, int i64 n, .bool false])) (ht : Turned W w4 v.ownBlock) (ho : v.ownBlock = some g ∨ W.heap.size ≤ g) :
 NewR w ((w4.setCell ⟨w.heap.size, 0, none⟩ (.slice (some ⟨g, off, none⟩) (n + 1) cap)).setCell ⟨w.heap.size, 1, none⟩ (int i64 ((n : Int) + 1))) ids (n + 1) (.slice (some ⟨g, off, none⟩) (n + 1) cap) := by
 have hlt := lt_of_heap h.top
 have hz := hW.size
 have hne : v.ownBlock ≠ some w.heap.size := fun e => (h.ap _ e).2 rfl
 have ht4 : w4.heap[w.heap.size]? = some (.cells #[v, int i64 n] 170 (0, 0)) := (ht.block _ (by omega) hne.symm).trans ((hW.block _ hlt).trans h.top)
 have hg : w.heap.size ≤ g ∧ g ≠ w.heap.size := by
  rcases ho with e | e
  · exact h.ap g e
  · exact ⟨by omega, by omega⟩
 have e1 : n / ids = k := by rw [hn, Nat.mul_comm, Nat.mul_add_div (by omega), Nat.div_eq_of_lt hi, Nat.add_zero]
 have e2 : n % ids = i := by rw [hn, Nat.mul_comm, Nat.mul_add_mod, Nat.mod_eq_of_lt hi]
 refine ⟨?_, ?_, fun q hq => ?_, ?_⟩
 · rw [heap_setCell_same _ _ _ _ _ _ _ (heap_setCell_same _ _ _ _ _ _ _ ht4)]; simp
 · have hs2 : Sl w4 167 6 (.slice (some ⟨g, off, none⟩) (n + 1) cap) (n + 1) (slCells (newL ids (n + 1))) := by
    have : slCells (newL ids (n + 1)) = slCells (newL ids n) ++ [int i64 k, int i64 i, int i64 0, int i64 0, int i64 n, .bool false] := by rw [newL_succ, e1, e2]; simp [slCells, Slot.cells]
    rw [this]; exact hs
   refine hs2.keep fun q hq => ?_
   obtain rfl : g = q := by simpa [Value.ownBlock] using hq
   rw [Below.heap_setCell _ _ _ _ (show g ≠ (⟨w.heap.size, 1, none⟩ : Addr).block from hg.2), Below.heap_setCell _ _ _ _ (show g ≠ (⟨w.heap.size, 0, none⟩ : Addr).block from hg.2)]
 · obtain rfl : g = q := by simpa [Value.ownBlock] using hq
   exact hg
 · have hb2 : Below w.heap.size w w4 := h.hb.trans ((hW.mono h.hb.size).trans ⟨ht.os, ht.tape, ht.output, ht.size, fun x hx => ht.block x (by have := h.hb.size; omega) fun e => by have := (h.ap x e.symm).1; omega⟩)
   exact (hb2.setCell (Nat.le_refl _) _).setCell (Nat.le_refl _) _
theorem newL_eq {shards ids : Nat} (h : 1 ≤ ids) : newL ids (shards * ids) = mSlots (fun a b => a * ids + b) 0 (List.replicate shards (fresh ids ids)) := by
 have hl : ∀ m ∈ List.replicate shards (fresh ids ids), m.all.length = ids := by
  intro m hm
  rw [List.eq_of_mem_replicate hm]; simp [fresh, freshIx]
 apply List.ext_getElem?
 intro n
 by_cases hn : n < shards * ids
 · have hk : n / ids < shards := by rw [Nat.div_lt_iff_lt_mul h]; exact hn
   have hi := Nat.mod_lt n h
   have := mSlots_get (rw := fun a b => a * ids + b) (List.replicate shards (fresh ids ids)) 0 (n / ids) (n % ids) (fresh ids ids) ⟨0, 0, false⟩ hl (by simp [hk]) (by simp [fresh, freshIx, hi])
   have hd : n / ids * ids + n % ids = n := by have := Nat.div_add_mod n ids; rw [Nat.mul_comm] at this; exact this
   rw [hd] at this
   rw [this]
   simp only [newL, List.getElem?_map, List.getElem?_range hn, Option.map_some, Option.some.injEq, Int.zero_add]
   congr 1
   have : ((n / ids * ids + n % ids : Nat) : Int) = n := by rw [hd]
   simpa using this.symm
 · rw [List.getElem?_eq_none (by rw [newL_len]; omega), List.getElem?_eq_none (by rw [mSlots_len _ 0 hl, List.length_replicate]; omega)]
theorem fresh_sim (shards ids : Nat) (h1 : shards ≤ 16) (h2 : 1 ≤ ids) (h3 : ids ≤ 16) : Sim ids (List.replicate shards (fresh ids ids)) (fun a b => a * ids + b) ((shards * ids : Nat) : Int) := by
 have hm : ∀ (k : Nat) (m : Sh), (List.replicate shards (fresh ids ids))[k]? = some m → k < shards ∧ m = fresh ids ids := by
  intro k m hm
  rw [List.getElem?_replicate] at hm
  split at hm
  · exact ⟨by assumption, by cases hm; rfl⟩
  · cases hm
 refine ⟨⟨h2, h3, by simpa using h1⟩, fun m hm => by rw [List.eq_of_mem_replicate hm]; simp [fresh, freshIx], fun m hm => by rw [List.eq_of_mem_replicate hm]; exact fresh_good ids h3, fun k m hk i hi => ?_, fun k m hk => ?_, by omega⟩
 · obtain ⟨hks, rfl⟩ := hm k m hk
   refine ⟨⟨fun _ => ?_, fun _ => ?_⟩, ?_⟩
   · simp [fresh]; exact ⟨i, hi, rfl⟩
   · have : (0 : Int) ≤ (k : Int) * (ids : Int) := Int.mul_nonneg (by omega) (by omega)
     omega
   · have h4 : (k + 1) * ids ≤ shards * ids := Nat.mul_le_mul_right ids hks
     rw [Nat.add_mul, Nat.one_mul] at h4
     have h5 : ((k * ids + i : Nat) : Int) < ((shards * ids : Nat) : Int) := by omega
     simpa using h5
 · obtain ⟨hks, rfl⟩ := hm k m hk
   simp only [fresh, List.map_map, List.pairwise_map]
   refine (List.pairwise_lt_range).imp fun h => ?_
   simp only [Function.comp, Int.ofNat_eq_natCast]
   omega
theorem info_slot : (prog.info? 167).map (fun i => (i.zero, i.size, i.bytes)) = some (some (.agg #[int i64 0, int i64 0, int i64 0, int i64 0, int i64 0, .bool false]), 6, 48) := by kernel_rfl
theorem NewR.done {w wr : World} {ids shards : Nat} {v : Value} (h : NewR w wr ids (shards * ids) v) (h1 : 1 ≤ shards) (h2 : shards ≤ 16) (h3 : 1 ≤ ids) (h4 : ids ≤ 16) :
 ∃ R : RLay, R.p = w.heap.size ∧ RPool wr R ids ((shards * ids : Nat) : Int) (List.replicate shards (fresh ids ids)) ∧ ∀ b, R.own b → w.heap.size ≤ b := by
 have hpos : 0 < shards * ids := Nat.mul_pos h1 h3
 obtain ⟨hl, ⟨_, h0⟩ | ⟨g, off, cap, cur, rfl, hb, hn, hc, hsz, hr⟩⟩ := h.sl
 · omega
 · have hg := h.ap g rfl
   refine ⟨⟨w.heap.size, g, off, cap⟩, rfl, ⟨_, _, ⟨?_, ⟨cur, hb, ?_, hc, hsz, fun n j s hs hj => ?_⟩, hg.2.symm⟩, fresh_sim shards ids h2 h3 h4, Int.le_refl _⟩, fun b hb => ?_⟩
   · rw [← newL_eq h3, newL_len]; exact h.top
   · rw [← newL_eq h3, newL_len]; exact hn
   · rw [← newL_eq h3] at hs
     have e := slCells_get _ n j s hs hj
     have hjl : j < s.cells.length := by simpa [Slot.cells] using hj
     rw [List.getElem?_eq_getElem hjl] at e ⊢
     have := hr _ _ e
     rw [← Nat.add_assoc] at this
     exact this
   · rcases hb with rfl | rfl
     · exact Nat.le_refl _
     · exact hg.1
theorem NewR.after {w wo W w4 : World} {ids n : Nat} {v : Value} (h : NewR w wo ids n v) (hW : Below wo.heap.size wo W) (ht : Turned W w4 v.ownBlock) :
 w4.cell? ⟨w.heap.size, 0, none⟩ = some v ∧ w4.cell? ⟨w.heap.size, 1, none⟩ = some (int i64 n) ∧ (∀ o, w4.frozen? ⟨w.heap.size, o, none⟩ = false) ∧ w.heap.size < w4.heap.size := by
 obtain ⟨_, _, _, h4, h5⟩ := h.facts
 obtain ⟨h1, h2, h3, h4, _⟩ := (h.later hW).facts
 exact ⟨(ht.cell (a := ⟨w.heap.size, 0, none⟩) h4 h5).trans h1, (ht.cell (a := ⟨w.heap.size, 1, none⟩) h4 h5).trans h2, fun o => (ht.frozen (a := ⟨w.heap.size, o, none⟩) h4 h5).trans (h3 o), Nat.lt_of_lt_of_le h4 ht.size⟩
theorem rnew_ok (shards ids : Nat) (w : World) (h1 : 1 ≤ shards) (h2 : shards ≤ 16) (h3 : 1 ≤ ids) (h4 : ids ≤ 16) : Calls prog 110 #[int i64 shards, int i64 ids] w fun e w' =>
 e = .returned (.tuple #[.pointer (some ⟨w.heap.size, 0, none⟩), .bool true]) ∧ Below w.heap.size w w' ∧ ∃ R : RLay, R.p = w.heap.size ∧ RPool w' R ids ((shards * ids : Nat) : Int) (List.replicate shards (fresh ids ids)) ∧ ∀ b, R.own b → w.heap.size ≤ b := by
 obtain ⟨i0, hi0, hz0, hz1, hz2⟩ := info_parts info_slot
 have hsi : 0 ≤ (shards : Int) := by omega
 have hii : 0 ≤ (ids : Int) := by omega
 have b1 : (1 : Int) ≤ (shards : Int) := by omega
 have b2 : (shards : Int) ≤ 16 := by omega
 have b3 : (1 : Int) ≤ (ids : Int) := by omega
 have b4 : (ids : Int) ≤ 16 := by omega
 have h0 : ∀ W, W = w.alloc (.cells #[.slice none 0 0, int i64 0] 170) → NewR w W ids 0 (.slice none 0 0) := by
  rintro W rfl
  exact ⟨heap_alloc_new _ _, ⟨by simp [newL, slCells], .inl ⟨rfl, rfl⟩⟩, (fun g hg => by cases hg), (Below.refl _ _).alloc (Nat.le_refl _) _⟩
 have H0 := hid h0
 clear h0
 go_enter Tryz.func110, Tryz.ntmps110
 go_wp2_with fail
 go_loopw [7] (fun x wr => ∃ (k : Nat) (v : Value), k ≤ shards ∧ x = int i64 k ∧ Hid (NewR w wr ids (k * ids) v)) (fun x _ => shards - (intOf x).toNat)
 case atStart => exact ⟨0, _, Nat.zero_le _, rfl, hid (by rw [Nat.zero_mul]; exact H0.out _ rfl)⟩
 case round =>
  obtain ⟨k, v, hk, rfl, hh⟩ := hrel
  obtain ⟨wo, rfl⟩ : ∃ wo : World, wo = wr := ⟨_, rfl⟩
  have hkI : 0 ≤ (k : Int) := Int.natCast_nonneg k
  by_cases hlt : k < shards
  · go_wp2_with fail
    go_loopw [8] (fun x wr => ∃ (i : Nat) (v : Value), i ≤ ids ∧ x = int i64 i ∧ Hid (NewR w wr ids (k * ids + i) v)) (fun x _ => ids - (intOf x).toNat)
    case atStart => exact ⟨0, v, Nat.zero_le _, rfl, hh⟩
    case round =>
     clear hh
     obtain ⟨i, v, hi, rfl, hh⟩ := hrel
     obtain ⟨wi, rfl⟩ : ∃ wi : World, wi = wr := ⟨_, rfl⟩
     have hiI : 0 ≤ (i : Int) := Int.natCast_nonneg i
     by_cases hil : i < ids
     · obtain ⟨c0, c1, fp, bp, hne⟩ := hh.out.facts
       have hap := fun (W w4 : World) (g off cap : Nat) => NewR.app (W := W) (w4 := w4) (g := g) (off := off) (cap := cap) hh.out rfl hil
       have hn : k * ids + i ≤ 256 := by
        have : k * ids ≤ 15 * 16 := Nat.mul_le_mul (by omega) h4
        omega
       generalize hn0 : k * ids + i = n at *
       have HN := hid hn0
       clear hn0
       have HAP := hid hap
       have HNE := hid hne
       obtain ⟨y0, y1, y2, y3⟩ := lts bp
       clear hap hne
       go_wp2_with fail
       go_region_law ((refine step_append_sl _ (by rfl) (.tmp 39) (.tmp 47) 168 (by rfl) 167 i0 _ 6 48 Tryz.underlying168 hi0 hz0 hz1 hz2 rfl (by omega) _ n (slCells (newL ids n)) (by rfl) (hh.out.later bg).sl ⟨_, 0, none⟩ 1 1 [int i64 k, int i64 i, int i64 0, int i64 0, int i64 n, .bool false] (by rfl) (by rfl) (by intro j u hj; rcases j with _ | _ | _ | _ | _ | _ | j <;> simp at hj <;> subst hj <;> simp [Addr.add, go_sem]) (by simp [Value.oneCell']) (by omega) (by unfold maxLen; omega) (by omega) ?_; intro g off cap w4 hs4 ht4 ho4; obtain ⟨k0, k1, k2, k3⟩ := NewR.after hh.out bg ht4))
       all_goals
        go_wp2_with fail
        go_roundw
        case rel => exact ⟨i + 1, _, hil, by go_num, by rw [show k * ids + (i + 1) = n + 1 by have := HN.out; omega]; exact hid ((HAP.out _ _ _ _ _ bg hs4 ht4 ho4).later bg)⟩
        case measure => simp [intOf]; omega
     · obtain rfl : i = ids := by omega
       go_wp2_with fail
       go_roundw
       case rel => exact ⟨k + 1, v, hlt, by go_num, by rw [Nat.add_mul, Nat.one_mul]; exact hh⟩
       case measure => simp [intOf]; omega
  · obtain rfl : k = shards := by omega
    have hdone := hh.out.done h1 h2 h3 h4
    have HD := hid hdone
    have HB := hid hh.out.hb
    clear hdone
    go_wp2_with fail
    go_ret2
    exact ⟨rfl, HB.out, HD.out⟩
end Go.Proofs.YtoimjjhopljdmaaGreat
