/- Texts DkG RefD RefE DkR RfA: what the claim reaches of them. Conditions stand at each theorem. -/
import Derived.Test.YtoimjjhopljdmaaGreatP07
set_option maxRecDepth 100000
set_option maxHeartbeats 8000000
namespace Go.Proofs.YtoimjjhopljdmaaGreat
open Go.RowKit
open Go.Proofs.Tryz (prog)
open Go.Value (int)
open Go.IntKind (i64)
open Go.Lib (hid)
section
theorem DStp.fin {w : World} {d : DLay} {c : Cfg} {D1 : Dk} {W1 W : World} {B : Nat} (h : DeskAt w d c D1) (hW1 : Below w.heap.size w W1) (hB0 : w.heap.size ≤ B) (hB : B < W1.heap.size) (D2 : Dk) (HD : DStp W1 d c W D2) (hq : (D2.q.length : Int) < c.queue) (m : Cm) :
 ∃ qv p cap, qv = .slice p D2.q.length cap ∧ W.cell? ⟨d.p, 2, none⟩ = some qv ∧ W.frozen? ⟨d.p, 2, none⟩ = false ∧ d.p < W.heap.size ∧ qv.ownBlock ≠ some d.p ∧ qv.ownBlock ≠ some B ∧ (∀ Wa, Below W.heap.size W Wa → Sl Wa 34 16 qv D2.q.length (cellsR cmC D2.q)) ∧
   (∀ j, W.cell? ⟨B, j, none⟩ = W1.cell? ⟨B, j, none⟩) ∧ B < W.heap.size ∧
   ∀ Wa, Below W.heap.size W Wa → ∀ w4 v', Sl w4 34 16 v' (D2.q.length + 1) (cellsR cmC D2.q ++ cmC m) → Turned Wa w4 qv.ownBlock → (v'.ownBlock = qv.ownBlock ∨ ∃ g, v'.ownBlock = some g ∧ Wa.heap.size ≤ g) → DStp w d c (w4.setCell ⟨d.p, 2, none⟩ v') { D2 with q := D2.q ++ [m] } := by
 have hnB : ¬ d.own B := fun e => by have := h.lt e; omega
 obtain ⟨d', e1, e2, hd, hc, ho⟩ := HD
 have hnB' : ¬ d'.own B := fun e => (ho B e).elim hnB fun h => by omega
 have c2 := hd.cell 2
 have f2 := hd.frozen 2
 have hp := lt_of_heap hd.box
 have hap : d'.qv.ownBlock ≠ some d'.p := fun e => (hd.aq _ e).1 rfl
 simp [deskC] at c2
 rw [e1] at c2 f2 hp hap
 obtain ⟨p, cap, hv⟩ := sl_frm hd.q
 refine ⟨d'.qv, p, cap, hv, c2, f2, hp, hap, fun e => hnB' (.inr (.inr e)), fun Wa hWa => (hd.grown hWa).q, fun j => hc.cell (a := ⟨B, j, none⟩) hB hnB, Nat.lt_of_lt_of_le hB hc.size, fun Wa hWa w4 v' hs ht hv' => ?_⟩
 have := (hd.grown hWa).queued (m := m) hs ht hv' hq
 rw [e1] at this
 exact DStp.from_below hW1 (DStp.next e1 e2 hc ho (this.from_below hWa))
theorem take_dk (w : World) (d : DLay) (c : Cfg) (D : Dk) (s i g : Int) (h : DeskAt w d c D) : Calls prog 89 #[.pointer (some ⟨d.L.P, 0, none⟩), .agg #[int i64 s, int i64 i, int i64 g]] w fun e w' => e = .returned (int i64 (takeF D.M s i g).1) ∧ DStp w d c w' { D with M := (takeF D.M s i g).2 } :=
 (take_any w d.L D.M s i g h.pool).mono fun _ _ ⟨h1, h2⟩ => ⟨h1, DStp.pool h h2⟩
attribute [local go_sem ↓] loadVar_ldM storeVar_stM
section
variable (w : World) (d : DLay) (c : Cfg) (D : Dk)
def preG (h : DeskAt w d c D) (ho : CfgOk c) (k s i g es ei eg m x y vx vy hp pw lf mask : Int) := (PProd.mk (hid (fun W (_ : Below w.heap.size w W) => checkCmd_any k s i g es ei eg m x y vx vy hp pw lf mask W)) (PProd.mk (hid (fun W (hW : Below w.heap.size w W) => zof_any W d.bm c x y (MapAt.grow h.map hW) ho)) (PProd.mk (hid (fun W (hW : Below w.heap.size w W) => alive_any W d.L D.M s i g (h.grown hW).pool)) (hid (fun W (hW : Below w.heap.size w W) => take_dk W d c D es ei eg (h.grown hW))))))
theorem dadmit_bad (h : DeskAt w d c D) (ho : CfgOk c) (k s i g es ei eg m x y vx vy hp pw lf mask : Int) (hcb : errB (cmdB ⟨k, s, i, g, ⟨es, ei, eg, m, x, y, vx, vy, hp, pw, lf⟩, mask⟩) = 1) :
 Calls prog 46 #[.pointer (some ⟨d.p, 0, none⟩), .agg #[int i64 k, int i64 s, int i64 i, int i64 g, int i64 es, int i64 ei, int i64 eg, int i64 m, int i64 x, int i64 y, int i64 vx, int i64 vy, int i64 hp, int i64 pw, int i64 lf, int i64 mask]] w fun e w' => e = .returned (int i64 1) ∧ Below w.heap.size w w' := by
 obtain ⟨HC, HO, HA, HT⟩ := preG w d c D h ho k s i g es ei eg m x y vx vy hp pw lf mask
 have HH := hid h
 have ho' := ho
 obtain ⟨w1, hw1, k0, hb1, g0, hsz⟩ := one_boxC w k s i g es ei eg m x y vx vy hp pw lf mask 34
 obtain ⟨p, cap, c0, c1, c2, m6, hlt, hltm⟩ := h.at1 hb1
 have s6 : w.heap.size < w1.heap.size := by omega
 obtain ⟨x0, x1, x2, x3, x4, x5, x6, x8, x9⟩ := cells9 k0
 obtain ⟨z0, z1, z2⟩ := ltz hlt
 obtain ⟨z3, z4, z5⟩ := ltz hltm
 obtain ⟨z6, z7, z8⟩ := ltz s6
 obtain ⟨hL, hL0⟩ := ld_boxL s6 k0
 have K0 := hid k0
 have HW1 := hid hw1
 have HB1 := hid hb1
 clear h ho hw1 k0 g0 hsz
 generalize ofF c x y = zn at *
 generalize aliveF D.M s i g = al at *
 generalize errB (cmdB ⟨k, s, i, g, ⟨es, ei, eg, m, x, y, vx, vy, hp, pw, lf⟩, mask⟩) = cb at *
 subst hcb
 go_enter Tryz.func46, Tryz.ntmps46
 go_upto_region 1 with fail
 rw [← HW1.out]
 go_wp2_with (go_at_call 82; refine belC (HC.out _ bg) fun dd os => ?_; (try rw [more_more]))
 go_ret
 exact ⟨rfl, bg⟩
theorem dadmit_full (h : DeskAt w d c D) (ho : CfgOk c) (k s i g es ei eg m x y vx vy hp pw lf mask : Int) (hcb : errB (cmdB ⟨k, s, i, g, ⟨es, ei, eg, m, x, y, vx, vy, hp, pw, lf⟩, mask⟩) = 0) (hf : c.queue ≤ (D.q.length : Int)) :
 Calls prog 46 #[.pointer (some ⟨d.p, 0, none⟩), .agg #[int i64 k, int i64 s, int i64 i, int i64 g, int i64 es, int i64 ei, int i64 eg, int i64 m, int i64 x, int i64 y, int i64 vx, int i64 vy, int i64 hp, int i64 pw, int i64 lf, int i64 mask]] w fun e w' => e = .returned (int i64 8) ∧ Below w.heap.size w w' := by
 obtain ⟨HC, HO, HA, HT⟩ := preG w d c D h ho k s i g es ei eg m x y vx vy hp pw lf mask
 have HH := hid h
 have ho' := ho
 obtain ⟨w1, hw1, k0, hb1, g0, hsz⟩ := one_boxC w k s i g es ei eg m x y vx vy hp pw lf mask 34
 obtain ⟨p, cap, c0, c1, c2, m6, hlt, hltm⟩ := h.at1 hb1
 have s6 : w.heap.size < w1.heap.size := by omega
 obtain ⟨x0, x1, x2, x3, x4, x5, x6, x8, x9⟩ := cells9 k0
 obtain ⟨z0, z1, z2⟩ := ltz hlt
 obtain ⟨z3, z4, z5⟩ := ltz hltm
 obtain ⟨z6, z7, z8⟩ := ltz s6
 obtain ⟨hL, hL0⟩ := ld_boxL s6 k0
 have K0 := hid k0
 have HW1 := hid hw1
 have HB1 := hid hb1
 clear h ho hw1 k0 g0 hsz
 generalize ofF c x y = zn at *
 generalize aliveF D.M s i g = al at *
 generalize errB (cmdB ⟨k, s, i, g, ⟨es, ei, eg, m, x, y, vx, vy, hp, pw, lf⟩, mask⟩) = cb at *
 subst hcb
 go_enter Tryz.func46, Tryz.ntmps46
 go_upto_region 1 with fail
 rw [← HW1.out]
 go_wp2_with (go_at_call 82; refine belC (HC.out _ bg) fun dd os => ?_; (try rw [more_more]))
 refine wpm ?_
 repeat (go_big_quiet_step ((first | (go_at_call 83; with_reducible exact more_call (HO.out _ bg)) | (go_at_call 84; with_reducible exact more_call (HA.out _ bg)))))
 refine wpQuiet_nil ?_
 rintro _ ⟨pm, rfl⟩
 (try rw [more_more])
 go_wp2_with fail
 go_ret
 exact ⟨rfl, bg⟩
theorem dadmit_range (h : DeskAt w d c D) (ho : CfgOk c) (k s i g es ei eg m x y vx vy hp pw lf mask : Int) (hcb : errB (cmdB ⟨k, s, i, g, ⟨es, ei, eg, m, x, y, vx, vy, hp, pw, lf⟩, mask⟩) = 0) (hf : ¬ c.queue ≤ (D.q.length : Int)) (hk : k = 1) (hz : (ofF c x y != es) = true) :
 Calls prog 46 #[.pointer (some ⟨d.p, 0, none⟩), .agg #[int i64 k, int i64 s, int i64 i, int i64 g, int i64 es, int i64 ei, int i64 eg, int i64 m, int i64 x, int i64 y, int i64 vx, int i64 vy, int i64 hp, int i64 pw, int i64 lf, int i64 mask]] w fun e w' => e = .returned (int i64 5) ∧ Below w.heap.size w w' := by
 obtain ⟨HC, HO, HA, HT⟩ := preG w d c D h ho k s i g es ei eg m x y vx vy hp pw lf mask
 have HH := hid h
 have ho' := ho
 obtain ⟨w1, hw1, k0, hb1, g0, hsz⟩ := one_boxC w k s i g es ei eg m x y vx vy hp pw lf mask 34
 obtain ⟨p, cap, c0, c1, c2, m6, hlt, hltm⟩ := h.at1 hb1
 have s6 : w.heap.size < w1.heap.size := by omega
 obtain ⟨x0, x1, x2, x3, x4, x5, x6, x8, x9⟩ := cells9 k0
 obtain ⟨z0, z1, z2⟩ := ltz hlt
 obtain ⟨z3, z4, z5⟩ := ltz hltm
 obtain ⟨z6, z7, z8⟩ := ltz s6
 obtain ⟨hL, hL0⟩ := ld_boxL s6 k0
 have K0 := hid k0
 have HW1 := hid hw1
 have HB1 := hid hb1
 clear h ho hw1 k0 g0 hsz
 generalize ofF c x y = zn at *
 generalize aliveF D.M s i g = al at *
 generalize errB (cmdB ⟨k, s, i, g, ⟨es, ei, eg, m, x, y, vx, vy, hp, pw, lf⟩, mask⟩) = cb at *
 subst hcb hk
 go_enter Tryz.func46, Tryz.ntmps46
 go_upto_region 1 with fail
 rw [← HW1.out]
 go_wp2_with (go_at_call 82; refine belC (HC.out _ bg) fun dd os => ?_; (try rw [more_more]))
 refine wpm ?_
 repeat (go_big_quiet_step ((first | (go_at_call 83; with_reducible exact more_call (HO.out _ bg)) | (go_at_call 84; with_reducible exact more_call (HA.out _ bg)))))
 refine wpQuiet_nil ?_
 rintro _ ⟨pm, rfl⟩
 (try rw [more_more])
 go_wp2_with fail
 refine wpm ?_
 repeat (go_big_quiet_step ((first | (go_at_call 83; with_reducible exact more_call (HO.out _ bg)) | (go_at_call 84; with_reducible exact more_call (HA.out _ bg)))))
 refine wpQuiet_nil ?_
 rintro _ ⟨pm, rfl⟩
 (try rw [more_more])
 go_wp2_with fail
 go_ret
 exact ⟨rfl, bg⟩
theorem dadmit_stale (h : DeskAt w d c D) (ho : CfgOk c) (k s i g es ei eg m x y vx vy hp pw lf mask : Int) (hcb : errB (cmdB ⟨k, s, i, g, ⟨es, ei, eg, m, x, y, vx, vy, hp, pw, lf⟩, mask⟩) = 0) (hf : ¬ c.queue ≤ (D.q.length : Int)) (hk : (k == 1) = false) (ha : aliveF D.M s i g = false) :
 Calls prog 46 #[.pointer (some ⟨d.p, 0, none⟩), .agg #[int i64 k, int i64 s, int i64 i, int i64 g, int i64 es, int i64 ei, int i64 eg, int i64 m, int i64 x, int i64 y, int i64 vx, int i64 vy, int i64 hp, int i64 pw, int i64 lf, int i64 mask]] w fun e w' => e = .returned (int i64 9) ∧ Below w.heap.size w w' := by
 obtain ⟨HC, HO, HA, HT⟩ := preG w d c D h ho k s i g es ei eg m x y vx vy hp pw lf mask
 have HH := hid h
 have ho' := ho
 obtain ⟨w1, hw1, k0, hb1, g0, hsz⟩ := one_boxC w k s i g es ei eg m x y vx vy hp pw lf mask 34
 obtain ⟨p, cap, c0, c1, c2, m6, hlt, hltm⟩ := h.at1 hb1
 have s6 : w.heap.size < w1.heap.size := by omega
 obtain ⟨x0, x1, x2, x3, x4, x5, x6, x8, x9⟩ := cells9 k0
 obtain ⟨z0, z1, z2⟩ := ltz hlt
 obtain ⟨z3, z4, z5⟩ := ltz hltm
 obtain ⟨z6, z7, z8⟩ := ltz s6
 obtain ⟨hL, hL0⟩ := ld_boxL s6 k0
 have K0 := hid k0
 have HW1 := hid hw1
 have HB1 := hid hb1
 clear h ho hw1 k0 g0 hsz
 generalize ofF c x y = zn at *
 generalize aliveF D.M s i g = al at *
 generalize errB (cmdB ⟨k, s, i, g, ⟨es, ei, eg, m, x, y, vx, vy, hp, pw, lf⟩, mask⟩) = cb at *
 subst hcb ha
 go_enter Tryz.func46, Tryz.ntmps46
 go_upto_region 1 with fail
 rw [← HW1.out]
 go_wp2_with (go_at_call 82; refine belC (HC.out _ bg) fun dd os => ?_; (try rw [more_more]))
 refine wpm ?_
 repeat (go_big_quiet_step ((first | (go_at_call 83; with_reducible exact more_call (HO.out _ bg)) | (go_at_call 84; with_reducible exact more_call (HA.out _ bg)))))
 refine wpQuiet_nil ?_
 rintro _ ⟨pm, rfl⟩
 (try rw [more_more])
 go_wp2_with fail
 refine wpm ?_
 repeat (go_big_quiet_step ((first | (go_at_call 83; with_reducible exact more_call (HO.out _ bg)) | (go_at_call 84; with_reducible exact more_call (HA.out _ bg)))))
 refine wpQuiet_nil ?_
 rintro _ ⟨pm, rfl⟩
 (try rw [more_more])
 go_wp2_with fail
 refine wpm ?_
 repeat (go_big_quiet_step ((first | (go_at_call 83; with_reducible exact more_call (HO.out _ bg)) | (go_at_call 84; with_reducible exact more_call (HA.out _ bg)))))
 refine wpQuiet_nil ?_
 rintro _ ⟨pm, rfl⟩
 (try rw [more_more])
 go_wp2_with fail
 go_ret
 exact ⟨rfl, bg⟩
theorem dadmit_ok2 (h : DeskAt w d c D) (ho : CfgOk c) (k s i g es ei eg m x y vx vy hp pw lf mask : Int) (hcb : errB (cmdB ⟨k, s, i, g, ⟨es, ei, eg, m, x, y, vx, vy, hp, pw, lf⟩, mask⟩) = 0) (hf : ¬ c.queue ≤ (D.q.length : Int)) (hk : (k == 1) = false) (ha : aliveF D.M s i g = true) :
 Calls prog 46 #[.pointer (some ⟨d.p, 0, none⟩), .agg #[int i64 k, int i64 s, int i64 i, int i64 g, int i64 es, int i64 ei, int i64 eg, int i64 m, int i64 x, int i64 y, int i64 vx, int i64 vy, int i64 hp, int i64 pw, int i64 lf, int i64 mask]] w fun e w' => e = .returned (int i64 0) ∧ DStp w d c w' { D with q := D.q ++ [⟨k, s, i, g, ⟨es, ei, eg, m, x, y, vx, vy, hp, pw, lf⟩, mask⟩] } := by
 obtain ⟨HC, HO, HA, HT⟩ := preG w d c D h ho k s i g es ei eg m x y vx vy hp pw lf mask
 have HH := hid h
 have ho' := ho
 obtain ⟨w1, hw1, k0, hb1, g0, hsz⟩ := one_boxC w k s i g es ei eg m x y vx vy hp pw lf mask 34
 obtain ⟨p, cap, c0, c1, c2, m6, hlt, hltm⟩ := h.at1 hb1
 have s6 : w.heap.size < w1.heap.size := by omega
 obtain ⟨x0, x1, x2, x3, x4, x5, x6, x8, x9⟩ := cells9 k0
 obtain ⟨z0, z1, z2⟩ := ltz hlt
 obtain ⟨z3, z4, z5⟩ := ltz hltm
 obtain ⟨z6, z7, z8⟩ := ltz s6
 obtain ⟨hL, hL0⟩ := ld_boxL s6 k0
 have K0 := hid k0
 have HW1 := hid hw1
 have HB1 := hid hb1
 clear h ho hw1 k0 g0 hsz
 generalize ofF c x y = zn at *
 generalize aliveF D.M s i g = al at *
 generalize errB (cmdB ⟨k, s, i, g, ⟨es, ei, eg, m, x, y, vx, vy, hp, pw, lf⟩, mask⟩) = cb at *
 subst hcb ha
 go_enter Tryz.func46, Tryz.ntmps46
 go_upto_region 1 with fail
 rw [← HW1.out]
 go_wp2_with (go_at_call 82; refine belC (HC.out _ bg) fun dd os => ?_; (try rw [more_more]))
 refine wpm ?_
 repeat (go_big_quiet_step ((first | (go_at_call 83; with_reducible exact more_call (HO.out _ bg)) | (go_at_call 84; with_reducible exact more_call (HA.out _ bg)))))
 refine wpQuiet_nil ?_
 rintro _ ⟨pm, rfl⟩
 (try rw [more_more])
 go_wp2_with fail
 refine wpm ?_
 repeat (go_big_quiet_step ((first | (go_at_call 83; with_reducible exact more_call (HO.out _ bg)) | (go_at_call 84; with_reducible exact more_call (HA.out _ bg)))))
 refine wpQuiet_nil ?_
 rintro _ ⟨pm, rfl⟩
 (try rw [more_more])
 go_wp2_with fail
 refine wpm ?_
 repeat (go_big_quiet_step ((first | (go_at_call 83; with_reducible exact more_call (HO.out _ bg)) | (go_at_call 84; with_reducible exact more_call (HA.out _ bg)))))
 refine wpQuiet_nil ?_
 rintro _ ⟨pm, rfl⟩
 (try rw [more_more])
 go_upto_region 13 with fail
 generalize hw5 : more w1 _ _ = w5
 have hb5 : Below w1.heap.size w1 w5 := by rw [← hw5]; exact bg
 have hB5w : Below w.heap.size w w5 := HB1.out.trans (hb5.mono HB1.out.size)
 have hbx : ∀ j, w5.cell? ⟨w.heap.size, j, none⟩ = w1.cell? ⟨w.heap.size, j, none⟩ := fun j => hb5.cell (p := ⟨w.heap.size, j, none⟩) s6
 clear hw5
 have hq' : (D.q.length : Int) < c.queue := by omega
 have hq64 := ho'.q1
 obtain ⟨qv, p5, cap5, rfl, c25, f25, hdp, hap, haB, hsl5, hbc5, hB5, hfin⟩ := DStp.fin HH.out hB5w (Nat.le_refl _) (Nat.lt_of_lt_of_le s6 hb5.size) D (DStp.of_grown (HH.out.grown hB5w) (Below.refl _ _)) hq' ⟨k, s, i, g, ⟨es, ei, eg, m, x, y, vx, vy, hp, pw, lf⟩, mask⟩
 have HSL := hid hsl5
 have HFIN := hid hfin
 clear hsl5 hfin hbc5 hb5 hB5w HC HO HA HT hL hL0 c0 c1 c2 m6 x0 x1 x2 x3 x4 x5 x6 x8 x9 z0 z1 z2 z3 z4 z5 z6 z7 z8 hlt hltm
 obtain ⟨i0, hi0, hz0, hz1, hz2⟩ := info_partsG info_cm
 have hLS : ∀ W', TwoD w5 d.p w.heap.size W' → (ldM ⟨w.heap.size, 0, none⟩).run prog W' = .ok (.agg #[int i64 k, int i64 s, int i64 i, int i64 g, int i64 es, int i64 ei, int i64 eg, int i64 m, int i64 x, int i64 y, int i64 vx, int i64 vy, int i64 hp, int i64 pw, int i64 lf, int i64 mask]) W' := fun W' hS => ldM_of ⟨k, s, i, g, ⟨es, ei, eg, m, x, y, vx, vy, hp, pw, lf⟩, mask⟩ fun j v hj => by rw [Nat.zero_add, (hS.2 j).2, hbx j, K0.out j, List.getElem?_toArray]; exact hj
 have HLS := hid hLS
 clear hLS hbx
 go_upto_region 13 with fail
 refine wp_region_x (S := TwoD w5 d.p w.heap.size) 10 (by kernel_rfl) ⟨⟨Nat.le_refl _, hdp, hB5⟩, fun _ => ⟨rfl, rfl⟩⟩ (fun hHeld => ?_)
 refine anyX_tk 0 (v := ?_) rfl ?_ (by assumption) ?_
 rotate_left 1
 · (intro w hSw; have hSw1 := hSw.2; go_simp; (try with_reducible rfl))
 simp [Act.put]
 refine anyX_tk 1 (v := ?_) rfl ?_ (by assumption) ?_
 rotate_left 1
 · (intro w hSw; have hSw1 := hSw.2; go_simp; (try with_reducible rfl))
 simp [Act.put]
 refine anyX_tk 2 (v := ?_) rfl ?_ (by assumption) ?_
 rotate_left 1
 · (intro w hSw; have hSw1 := hSw.2; go_simp; (try with_reducible rfl))
 simp [Act.put]
 refine anyX_tk 3 (v := ?_) rfl ?_ (by assumption) ?_
 rotate_left 1
 · (intro w hSw; have hSw1 := hSw.2; go_simp; (try with_reducible rfl))
 simp [Act.put]
 refine anyX_tk 4 (v := ?_) rfl ?_ (by assumption) ?_
 rotate_left 1
 · (intro w hSw; have hSw1 := hSw.2; go_simp; (try with_reducible rfl))
 simp [Act.put]
 refine anyX_tk 5 (v := ?_) rfl ?_ (by assumption) ?_
 rotate_left 1
 · (intro w hSw; have hSw1 := hSw.2; have hl5 := HLS.out _ hSw; go_simp; (try with_reducible rfl))
 simp [Act.put]
 refine anyX_r1 6 fun K hK => ?_
 go_simp
 refine hK.out _ _ (fun hlt => ?_) (fun hHeld => ?_)
 · (try dsimp only); exact hHeld.alloc _
 clear hK
 replace hHeld := hHeld (by omega); try simp [Act.put]
 refine anyX_r1 7 fun K hK => ?_
 (refine step_append_sl _ (by rfl) (.tmp 78) (.tmp 80) 26 (by rfl) 34 i0 _ 16 128 Tryz.underlying26 hi0 hz0 hz1 hz2 rfl (by omega) _ D.q.length (cellsR cmC D.q) (by rfl) (HSL.out _ bg) ⟨_, 0, none⟩ 1 1 (cmC ⟨k, s, i, g, ⟨es, ei, eg, m, x, y, vx, vy, hp, pw, lf⟩, mask⟩) (by rfl) (by rfl) (new_cellsN _ _ _ _ (by simp)) (cmC_one _) (by omega) (by unfold maxLen; omega) (by omega) ?_; intro g4 off4 cap4 w4 hs4 ht4 ho4; have f24 := (ht4.frozen (a := ⟨d.p, 2, none⟩) (by simp; omega) hap); have c24 := (ht4.cell (a := ⟨d.p, 2, none⟩) (by simp; omega) hap).trans ((hHeld.2 2).1.trans c25); have hd4 := hdp; replace hd4 := Nat.lt_of_lt_of_le hd4 (show w5.heap.size ≤ w4.heap.size from Nat.le_trans (by simp) ht4.size))
 refine hK.out _ _ (fun hlt => ?_) (fun hHeld => ?_)
 · (try dsimp only); exact hHeld.turned ht4 hap haB
 clear hK
 replace hHeld := hHeld (by omega); try simp [Act.put]
 refine anyX_tk 8 (v := ?_) rfl ?_ (by assumption) ?_
 rotate_left 1
 · (intro w hSw; have hSw1 := hSw.2; go_simp; (try with_reducible rfl))
 simp [Act.put]
 refine anyX_tk 9 (v := ?_) rfl ?_ (by assumption) ?_
 rotate_left 1
 · (intro w hSw; have hSw1 := hSw.2; go_simp; (try with_reducible rfl))
 simp [Act.put]
 refine anyX_r1 10 fun K hK => ?_
 go_simp
 refine hK.out _ _ (fun hlt => ?_) (fun hHeld => ?_)
 · exact absurd hlt (by omega)
 clear hK
 clear hHeld; try simp [Act.put]
 refine anyX_done (by kernel_rfl) ?_ _
 go_wp2_with fail
 go_ret
 exact ⟨rfl, HFIN.out _ bg _ _ hs4 ht4 (ho4.elim (fun h => .inl h.symm) fun h => .inr ⟨g4, rfl, h⟩)⟩
theorem dadmit_err (h : DeskAt w d c D) (ho : CfgOk c) (k s i g es ei eg m x y vx vy hp pw lf mask : Int) (hcb : errB (cmdB ⟨k, s, i, g, ⟨es, ei, eg, m, x, y, vx, vy, hp, pw, lf⟩, mask⟩) = 0) (hf : ¬ c.queue ≤ (D.q.length : Int)) (hk : k = 1) (hz : (ofF c x y != es) = false) (he : ((takeF D.M es ei eg).1 != 0) = true) :
 Calls prog 46 #[.pointer (some ⟨d.p, 0, none⟩), .agg #[int i64 k, int i64 s, int i64 i, int i64 g, int i64 es, int i64 ei, int i64 eg, int i64 m, int i64 x, int i64 y, int i64 vx, int i64 vy, int i64 hp, int i64 pw, int i64 lf, int i64 mask]] w fun e w' => e = .returned (int i64 (takeF D.M es ei eg).1) ∧ DStp w d c w' { D with M := (takeF D.M es ei eg).2 } := by
 obtain ⟨HC, HO, HA, HT⟩ := preG w d c D h ho k s i g es ei eg m x y vx vy hp pw lf mask
 have HH := hid h
 have ho' := ho
 obtain ⟨w1, hw1, k0, hb1, g0, hsz⟩ := one_boxC w k s i g es ei eg m x y vx vy hp pw lf mask 34
 obtain ⟨p, cap, c0, c1, c2, m6, hlt, hltm⟩ := h.at1 hb1
 have s6 : w.heap.size < w1.heap.size := by omega
 obtain ⟨x0, x1, x2, x3, x4, x5, x6, x8, x9⟩ := cells9 k0
 obtain ⟨z0, z1, z2⟩ := ltz hlt
 obtain ⟨z3, z4, z5⟩ := ltz hltm
 obtain ⟨z6, z7, z8⟩ := ltz s6
 obtain ⟨hL, hL0⟩ := ld_boxL s6 k0
 have K0 := hid k0
 have HW1 := hid hw1
 have HB1 := hid hb1
 clear h ho hw1 k0 g0 hsz
 generalize hzn : ofF c x y = zn at *
 generalize htk : takeF D.M es ei eg = tk at *
 obtain ⟨er, M1⟩ := tk
 generalize aliveF D.M s i g = al at *
 generalize errB (cmdB ⟨k, s, i, g, ⟨es, ei, eg, m, x, y, vx, vy, hp, pw, lf⟩, mask⟩) = cb at *
 subst hcb hk
 go_enter Tryz.func46, Tryz.ntmps46
 go_upto_region 1 with fail
 rw [← HW1.out]
 go_wp2_with (go_at_call 82; refine belC (HC.out _ bg) fun dd os => ?_; (try rw [more_more]))
 refine wpm ?_
 repeat (go_big_quiet_step ((first | (go_at_call 83; with_reducible exact more_call (HO.out _ bg)) | (go_at_call 84; with_reducible exact more_call (HA.out _ bg)))))
 refine wpQuiet_nil ?_
 rintro _ ⟨pm, rfl⟩
 (try rw [more_more])
 go_wp2_with fail
 refine wpm ?_
 repeat (go_big_quiet_step ((first | (go_at_call 83; with_reducible exact more_call (HO.out _ bg)) | (go_at_call 84; with_reducible exact more_call (HA.out _ bg)))))
 refine wpQuiet_nil ?_
 rintro _ ⟨pm, rfl⟩
 (try rw [more_more])
 go_wp2_with fail
 generalize hw4 : more w1 _ _ = w4
 have hb4 : Below w1.heap.size w1 w4 := by rw [← hw4]; exact bg
 have hB4w : Below w.heap.size w w4 := HB1.out.trans (hb4.mono HB1.out.size)
 have v4 := (hb4.cell (p := ⟨w.heap.size, 4, none⟩) s6).trans x4; have v5 := (hb4.cell (p := ⟨w.heap.size, 5, none⟩) s6).trans x5; have v6 := (hb4.cell (p := ⟨w.heap.size, 6, none⟩) s6).trans x6
 have v1 := (hb4.cell (p := ⟨d.p, 1, none⟩) hlt).trans c1
 clear hw4
 refine wp_region_still_tail 7 (by kernel_rfl) (by kernel_rfl) ?_
 simp only [List.take_succ_cons, List.take_zero, List.drop_succ_cons, List.drop_zero]
 repeat (first | still_step)
 refine wpStill_nil ?_
 go_wp2_with fail
 refine (HT.out _ (hB4w.trans (Below.mono (B := w4.heap.size) bg hB4w.size))).mono ?_
 rintro e w5 ⟨rfl, hs⟩
 have HS := hid (hs.from_below (hB4w.trans (Below.mono (B := w4.heap.size) bg hB4w.size)))
 clear hs
 go_wp2_with fail
 go_ret
 exact ⟨rfl, HS.out.then_below bg⟩
theorem dadmit_ok1 (h : DeskAt w d c D) (ho : CfgOk c) (k s i g es ei eg m x y vx vy hp pw lf mask : Int) (hcb : errB (cmdB ⟨k, s, i, g, ⟨es, ei, eg, m, x, y, vx, vy, hp, pw, lf⟩, mask⟩) = 0) (hf : ¬ c.queue ≤ (D.q.length : Int)) (hk : k = 1) (hz : (ofF c x y != es) = false) (he : (takeF D.M es ei eg).1 = 0) :
 Calls prog 46 #[.pointer (some ⟨d.p, 0, none⟩), .agg #[int i64 k, int i64 s, int i64 i, int i64 g, int i64 es, int i64 ei, int i64 eg, int i64 m, int i64 x, int i64 y, int i64 vx, int i64 vy, int i64 hp, int i64 pw, int i64 lf, int i64 mask]] w fun e w' => e = .returned (int i64 0) ∧ DStp w d c w' { D with M := (takeF D.M es ei eg).2, q := D.q ++ [⟨1, s, i, g, ⟨es, ei, eg, m, x, y, vx, vy, hp, pw, lf⟩, mask⟩] } := by
 obtain ⟨HC, HO, HA, HT⟩ := preG w d c D h ho k s i g es ei eg m x y vx vy hp pw lf mask
 have HH := hid h
 have ho' := ho
 obtain ⟨w1, hw1, k0, hb1, g0, hsz⟩ := one_boxC w k s i g es ei eg m x y vx vy hp pw lf mask 34
 obtain ⟨p, cap, c0, c1, c2, m6, hlt, hltm⟩ := h.at1 hb1
 have s6 : w.heap.size < w1.heap.size := by omega
 obtain ⟨x0, x1, x2, x3, x4, x5, x6, x8, x9⟩ := cells9 k0
 obtain ⟨z0, z1, z2⟩ := ltz hlt
 obtain ⟨z3, z4, z5⟩ := ltz hltm
 obtain ⟨z6, z7, z8⟩ := ltz s6
 obtain ⟨hL, hL0⟩ := ld_boxL s6 k0
 have K0 := hid k0
 have HW1 := hid hw1
 have HB1 := hid hb1
 clear h ho hw1 k0 g0 hsz
 generalize hzn : ofF c x y = zn at *
 generalize htk : takeF D.M es ei eg = tk at *
 obtain ⟨er, M1⟩ := tk
 generalize aliveF D.M s i g = al at *
 generalize errB (cmdB ⟨k, s, i, g, ⟨es, ei, eg, m, x, y, vx, vy, hp, pw, lf⟩, mask⟩) = cb at *
 subst hcb hk he
 go_enter Tryz.func46, Tryz.ntmps46
 go_upto_region 1 with fail
 rw [← HW1.out]
 go_wp2_with (go_at_call 82; refine belC (HC.out _ bg) fun dd os => ?_; (try rw [more_more]))
 refine wpm ?_
 repeat (go_big_quiet_step ((first | (go_at_call 83; with_reducible exact more_call (HO.out _ bg)) | (go_at_call 84; with_reducible exact more_call (HA.out _ bg)))))
 refine wpQuiet_nil ?_
 rintro _ ⟨pm, rfl⟩
 (try rw [more_more])
 go_wp2_with fail
 refine wpm ?_
 repeat (go_big_quiet_step ((first | (go_at_call 83; with_reducible exact more_call (HO.out _ bg)) | (go_at_call 84; with_reducible exact more_call (HA.out _ bg)))))
 refine wpQuiet_nil ?_
 rintro _ ⟨pm, rfl⟩
 (try rw [more_more])
 go_wp2_with fail
 generalize hw4 : more w1 _ _ = w4
 have hb4 : Below w1.heap.size w1 w4 := by rw [← hw4]; exact bg
 have hB4w : Below w.heap.size w w4 := HB1.out.trans (hb4.mono HB1.out.size)
 have v4 := (hb4.cell (p := ⟨w.heap.size, 4, none⟩) s6).trans x4; have v5 := (hb4.cell (p := ⟨w.heap.size, 5, none⟩) s6).trans x5; have v6 := (hb4.cell (p := ⟨w.heap.size, 6, none⟩) s6).trans x6
 have v1 := (hb4.cell (p := ⟨d.p, 1, none⟩) hlt).trans c1
 clear hw4
 refine wp_region_still_tail 7 (by kernel_rfl) (by kernel_rfl) ?_
 simp only [List.take_succ_cons, List.take_zero, List.drop_succ_cons, List.drop_zero]
 repeat (first | still_step)
 refine wpStill_nil ?_
 go_wp2_with fail
 refine (HT.out _ (hB4w.trans (Below.mono (B := w4.heap.size) bg hB4w.size))).mono ?_
 rintro e w5 ⟨rfl, hs⟩
 have hq' : (D.q.length : Int) < c.queue := by omega
 have hq64 := ho'.q1
 have hb4b : Below w.heap.size w1 w4 := Below.mono (B := w1.heap.size) hb4 (by omega)
 obtain ⟨qv, p5, cap5, rfl, c25, f25, hdp, hap, haB, hsl5, hbc5, hB5, hfin⟩ := DStp.fin HH.out (hB4w.trans (Below.mono (B := w4.heap.size) bg hB4w.size)) (Nat.le_refl _) (by first | exact Nat.lt_of_lt_of_le s6 hb4.size | (simp; exact Nat.lt_of_lt_of_le s6 hb4.size)) _ hs hq' ⟨1, s, i, g, ⟨es, ei, eg, m, x, y, vx, vy, hp, pw, lf⟩, mask⟩
 have hbx : ∀ j, w5.cell? ⟨w.heap.size, j, none⟩ = w1.cell? ⟨w.heap.size, j, none⟩ := fun j => (hbc5 j).trans (hb4.cell (p := ⟨w.heap.size, j, none⟩) s6)
 have HSL := hid hsl5
 have HFIN := hid hfin
 clear hs hsl5 hfin hbc5 hb4 hb4b hB4w HC HO HA HT hL hL0 c0 c1 c2 m6 x0 x1 x2 x3 x4 x5 x6 x8 x9 v1 v4 v5 v6 z0 z1 z2 z3 z4 z5 z6 z7 z8 hlt hltm
 obtain ⟨i0, hi0, hz0, hz1, hz2⟩ := info_partsG info_cm
 have hLS : ∀ W', TwoD w5 d.p w.heap.size W' → (ldM ⟨w.heap.size, 0, none⟩).run prog W' = .ok (.agg #[int i64 1, int i64 s, int i64 i, int i64 g, int i64 es, int i64 ei, int i64 eg, int i64 m, int i64 x, int i64 y, int i64 vx, int i64 vy, int i64 hp, int i64 pw, int i64 lf, int i64 mask]) W' := fun W' hS => ldM_of ⟨1, s, i, g, ⟨es, ei, eg, m, x, y, vx, vy, hp, pw, lf⟩, mask⟩ fun j v hj => by rw [Nat.zero_add, (hS.2 j).2, hbx j, K0.out j, List.getElem?_toArray]; exact hj
 have HLS := hid hLS
 clear hLS hbx
 go_upto_region 13 with fail
 refine wp_region_x (S := TwoD w5 d.p w.heap.size) 10 (by kernel_rfl) ⟨⟨Nat.le_refl _, hdp, hB5⟩, fun _ => ⟨rfl, rfl⟩⟩ (fun hHeld => ?_)
 refine anyX_tk 0 (v := ?_) rfl ?_ (by assumption) ?_
 rotate_left 1
 · (intro w hSw; have hSw1 := hSw.2; go_simp; (try with_reducible rfl))
 simp [Act.put]
 refine anyX_tk 1 (v := ?_) rfl ?_ (by assumption) ?_
 rotate_left 1
 · (intro w hSw; have hSw1 := hSw.2; go_simp; (try with_reducible rfl))
 simp [Act.put]
 refine anyX_tk 2 (v := ?_) rfl ?_ (by assumption) ?_
 rotate_left 1
 · (intro w hSw; have hSw1 := hSw.2; go_simp; (try with_reducible rfl))
 simp [Act.put]
 refine anyX_tk 3 (v := ?_) rfl ?_ (by assumption) ?_
 rotate_left 1
 · (intro w hSw; have hSw1 := hSw.2; go_simp; (try with_reducible rfl))
 simp [Act.put]
 refine anyX_tk 4 (v := ?_) rfl ?_ (by assumption) ?_
 rotate_left 1
 · (intro w hSw; have hSw1 := hSw.2; go_simp; (try with_reducible rfl))
 simp [Act.put]
 refine anyX_tk 5 (v := ?_) rfl ?_ (by assumption) ?_
 rotate_left 1
 · (intro w hSw; have hSw1 := hSw.2; have hl5 := HLS.out _ hSw; go_simp; (try with_reducible rfl))
 simp [Act.put]
 refine anyX_r1 6 fun K hK => ?_
 go_simp
 refine hK.out _ _ (fun hlt => ?_) (fun hHeld => ?_)
 · (try dsimp only); exact hHeld.alloc _
 clear hK
 replace hHeld := hHeld (by omega); try simp [Act.put]
 refine anyX_r1 7 fun K hK => ?_
 (refine step_append_sl _ (by rfl) (.tmp 78) (.tmp 80) 26 (by rfl) 34 i0 _ 16 128 Tryz.underlying26 hi0 hz0 hz1 hz2 rfl (by omega) _ D.q.length (cellsR cmC D.q) (by rfl) (HSL.out _ bg) ⟨_, 0, none⟩ 1 1 (cmC ⟨1, s, i, g, ⟨es, ei, eg, m, x, y, vx, vy, hp, pw, lf⟩, mask⟩) (by rfl) (by rfl) (new_cellsN _ _ _ _ (by simp)) (cmC_one _) (by omega) (by unfold maxLen; omega) (by omega) ?_; intro g4 off4 cap4 w4 hs4 ht4 ho4; have f24 := (ht4.frozen (a := ⟨d.p, 2, none⟩) (by simp; omega) hap); have c24 := (ht4.cell (a := ⟨d.p, 2, none⟩) (by simp; omega) hap).trans ((hHeld.2 2).1.trans c25); have hd4 := hdp; replace hd4 := Nat.lt_of_lt_of_le hd4 (show w5.heap.size ≤ w4.heap.size from Nat.le_trans (by simp) ht4.size))
 refine hK.out _ _ (fun hlt => ?_) (fun hHeld => ?_)
 · (try dsimp only); exact hHeld.turned ht4 hap haB
 clear hK
 replace hHeld := hHeld (by omega); try simp [Act.put]
 refine anyX_tk 8 (v := ?_) rfl ?_ (by assumption) ?_
 rotate_left 1
 · (intro w hSw; have hSw1 := hSw.2; go_simp; (try with_reducible rfl))
 simp [Act.put]
 refine anyX_tk 9 (v := ?_) rfl ?_ (by assumption) ?_
 rotate_left 1
 · (intro w hSw; have hSw1 := hSw.2; go_simp; (try with_reducible rfl))
 simp [Act.put]
 refine anyX_r1 10 fun K hK => ?_
 go_simp
 refine hK.out _ _ (fun hlt => ?_) (fun hHeld => ?_)
 · exact absurd hlt (by omega)
 clear hK
 clear hHeld; try simp [Act.put]
 refine anyX_done (by kernel_rfl) ?_ _
 go_wp2_with fail
 go_ret
 exact ⟨rfl, HFIN.out _ bg _ _ hs4 ht4 (ho4.elim (fun h => .inl h.symm) fun h => .inr ⟨g4, rfl, h⟩)⟩
theorem dadmit_any (h : DeskAt w d c D) (ho : CfgOk c) (m : Cm) : Calls prog 46 #[.pointer (some ⟨d.p, 0, none⟩), .agg (cmC m).toArray] w fun e w' => e = .returned (int i64 (admitF c D m).1) ∧ DStp w d c w' (admitF c D m).2 := by
 have HG := fun (k : Int) {f : FuncId} {args : Array Value} (hc : Calls prog f args w fun e w' => e = .returned (int i64 k) ∧ Below w.heap.size w w') => hc.mono fun _ _ ⟨h1, h2⟩ => (⟨h1, DStp.of_grown h h2⟩ : _ ∧ DStp w d c _ D)
 obtain ⟨k, s, i, g, ⟨es, ei, eg, m, x, y, vx, vy, hp, pw, lf⟩, mask⟩ := m
 unfold admitF fullB
 simp only
 cases hcb : cmdB ⟨k, s, i, g, ⟨es, ei, eg, m, x, y, vx, vy, hp, pw, lf⟩, mask⟩ with
 | false =>
   rw [if_pos rfl]
   exact HG _ (dadmit_bad w d c D h ho k s i g es ei eg m x y vx vy hp pw lf mask (by rw [hcb]; rfl))
 | true =>
   have hcb' : errB (cmdB ⟨k, s, i, g, ⟨es, ei, eg, m, x, y, vx, vy, hp, pw, lf⟩, mask⟩) = 0 := by rw [hcb]; rfl
   rw [if_neg (by simp)]
   split
   · rename_i hf; exact HG _ (dadmit_full w d c D h ho k s i g es ei eg m x y vx vy hp pw lf mask hcb' (of_decide_eq_true hf))
   · rename_i hf
     have hf' : ¬ c.queue ≤ (D.q.length : Int) := fun e => hf (decide_eq_true e)
     by_cases hk : k = 1
     · rw [if_pos hk]
       split
       · rename_i hz; exact HG _ (dadmit_range w d c D h ho k s i g es ei eg m x y vx vy hp pw lf mask hcb' hf' hk (by simpa using hz))
       · rename_i hz
         have hz' : (ofF c x y != es) = false := by simpa using hz
         split
         · rename_i he; exact dadmit_err w d c D h ho k s i g es ei eg m x y vx vy hp pw lf mask hcb' hf' hk hz' (by simpa using he)
         · rename_i he
           have := dadmit_ok1 w d c D h ho k s i g es ei eg m x y vx vy hp pw lf mask hcb' hf' hk hz' (by simpa using he)
           subst hk
           exact this
     · have hk' : (k == 1) = false := by simpa using hk
       rw [if_neg hk]
       split
       · rename_i ha; exact HG _ (dadmit_stale w d c D h ho k s i g es ei eg m x y vx vy hp pw lf mask hcb' hf' hk' ha)
       · rename_i ha; exact dadmit_ok2 w d c D h ho k s i g es ei eg m x y vx vy hp pw lf mask hcb' hf' hk' (by simpa using ha)
end
end
section
def updRw (rw : Int → Int → Int) (k i : Nat) (v : Int) : Int → Int → Int := fun a b => if a = k ∧ b = i then v else rw a b
theorem upd_same (rw : Int → Int → Int) (k i : Nat) (v : Int) : updRw rw k i v k i = v := by simp [updRw]
theorem upd_ne (rw : Int → Int → Int) (k i : Nat) (v : Int) {a b : Int} (h : ¬ (a = k ∧ b = i)) : updRw rw k i v a b = rw a b := by simp only [updRw, if_neg h]
theorem Sim.updRw {ids : Nat} {M : List Sh} {rw rw' : Int → Int → Int} {put put' : Int} (h : Sim ids M rw put) {k : Nat} {m m' : Sh} (hm : M[k]? = some m) (hl : m'.all.length = ids) (hg : Good m') (hrw : ∀ (a : Nat) (b : Int), a ≠ k → rw' a b = rw a b)
 (hr : ∀ i : Nat, i < ids → (0 ≤ rw' k i ↔ (i : Int) ∈ m'.free) ∧ rw' k i < put') (ho : (m'.free.map (rw' k)).Pairwise (· < ·)) (hp : put ≤ put') : Sim ids (M.set k m') rw' put' := by
 have hkl := (List.getElem?_eq_some_iff.1 hm).1
 refine ⟨⟨h.pos.1, h.pos.2.1, by simpa using h.pos.2.2⟩, fun a ha => ?_, fun a ha => ?_, fun a b hb => ?_, fun a b hb => ?_, Int.le_trans h.put hp⟩
 · rcases List.mem_or_eq_of_mem_set ha with ha | rfl
   · exact h.len a ha
   · exact hl
 · rcases List.mem_or_eq_of_mem_set ha with ha | rfl
   · exact h.good a ha
   · exact hg
 · rw [List.getElem?_set] at hb
   by_cases e : k = a
   · subst e
     rw [if_pos rfl, if_pos hkl] at hb
     obtain rfl : m' = b := by simpa using hb
     exact hr
   · rw [if_neg e] at hb
     intro i hi
     rw [hrw a i (fun e' => e e'.symm)]
     have := h.row a b hb i hi
     exact ⟨this.1, by have := this.2; omega⟩
 · rw [List.getElem?_set] at hb
   by_cases e : k = a
   · subst e
     rw [if_pos rfl, if_pos hkl] at hb
     obtain rfl : m' = b := by simpa using hb
     exact ho
   · rw [if_neg e] at hb
     have : b.free.map (rw' a) = b.free.map (rw a) := List.map_congr_left fun f _ => hrw a f (fun e' => e e'.symm)
     rw [this]
     exact h.ord a b hb
variable {W : World} {R : RLay} {ids : Nat} {M : List Sh} {rw : Int → Int → Int} {put : Int} {k i : Nat} {m : Sh} {x : Ix}
theorem RefAt.turn (h2 : Sim ids M rw put) (hm : M[k]? = some m) (hx : m.all[i]? = some x) {m' : Sh} {x' : Ix} {rw' : Int → Int → Int} (ha : m'.all = m.all.set i x')
 (hrw : ∀ (a b : Nat), ¬ (a = k ∧ b = i) → rw' a b = rw a b) {W' : World} {put' : Int} (hs : ∀ s : Slot, s = ⟨k, i, x'.gen, x'.bound, rw' k i, x'.alive⟩ → RefAt W' R ((mSlots rw 0 M).set (k * ids + i) s) put') : RefAt W' R (mSlots rw' 0 (M.set k m')) put' := by
 rw [mSlots_set h2.len hm hx ha hrw]
 exact hs _ rfl
theorem Sim.reserve (h2 : Sim ids M rw put) (hm : M[k]? = some m) (hx : m.all[i]? = some x) : Sim ids (M.set k { m with all := m.all.set i { x with bound := min (x.bound + 8) 1048576 } }) rw put := by
 have hg := h2.good m (List.mem_of_getElem? hm)
 have hr := hg.inv.rng i x hx
 have hle := hg.le i x hx
 refine h2.updRw hm (by simpa using h2.len m (List.mem_of_getElem? hm)) ?_ (fun _ _ _ => rfl) (h2.row k m hm) (h2.ord k m hm) (Int.le_refl _)
 refine set_good hg _ (hg.inv.set_ix i _ ⟨hr.1, hr.2.1, by simp only; omega, by simp only; omega, hr.2.2.2.2⟩ fun hf => hg.inv.dead i hf x (by simpa using hx)) (by simp only; omega) (fun ha => by have := hg.lv i x hx ha; simp only; omega) (fun hf => hg.fg i hf x (by simpa using hx))
theorem row_drop (h2 : Sim ids M rw put) (hm : M[k]? = some m) (fr : List Int) (hs : ∀ j : Nat, j ≠ i → ((j : Int) ∈ m.free ↔ (j : Int) ∈ fr)) (hn : (i : Int) ∉ fr) : ∀ j : Nat, j < ids → (0 ≤ updRw rw k i (-1) k j ↔ (j : Int) ∈ fr) ∧ updRw rw k i (-1) k j < put := by
 intro j hj
 by_cases e : j = i
 · subst e
   rw [upd_same]
   have := h2.put
   exact ⟨⟨fun h => by omega, fun h => absurd h hn⟩, by omega⟩
 · rw [upd_ne _ _ _ _ (by omega)]
   have := h2.row k m hm j hj
   exact ⟨this.1.trans (hs j e), this.2⟩
theorem ord_drop (h2 : Sim ids M rw put) (hm : M[k]? = some m) (fr : List Int) (hs : fr.Sublist m.free) (hn : (i : Int) ∉ fr) : (fr.map (updRw rw k i (-1) k)).Pairwise (· < ·) := by
 have e : fr.map (updRw rw k i (-1) k) = fr.map (rw k) := List.map_congr_left fun f hf => upd_ne _ _ _ _ fun h => hn (by rw [← h.2]; exact hf)
 rw [e]
 exact (h2.ord k m hm).sublist (hs.map _)
theorem Sim.issue (h2 : Sim ids M rw put) (hm : M[k]? = some m) {fs : List Int} (hf : m.free = (i : Int) :: fs) (hx : m.all[i]? = some x) (hb : x.gen < x.bound) : Sim ids (M.set k ⟨m.all.set i { x with alive := true }, fs⟩) (Go.Proofs.YtoimjjhopljdmaaGreat.updRw rw k i (-1)) put := by
 have hg := h2.good m (List.mem_of_getElem? hm)
 have hr := hg.inv.rng i x hx
 have hnd := hg.inv.nd
 rw [hf] at hnd
 have hni := (List.nodup_cons.1 hnd).1
 have hgm := hg.fg i (by rw [hf]; simp) x (by simpa using hx)
 have g1 := free_drop_good hg fs (hg.inv.tail hf) (fun a ha => by rw [hf]; exact List.mem_cons_of_mem _ ha)
 refine h2.updRw hm (by simpa using h2.len m (List.mem_of_getElem? hm)) ?_ (fun a b ha => upd_ne _ _ _ _ (by omega)) (row_drop h2 hm fs (fun j hj => by rw [hf, List.mem_cons]; exact ⟨fun h => h.resolve_left (by omega), .inr⟩) hni) (ord_drop h2 hm fs (by rw [hf]; exact List.sublist_cons_self _ _) hni) (Int.le_refl _)
 exact set_good g1 { x with alive := true } (g1.inv.set_ix i _ ⟨hr.1, hr.2.1, hr.2.2.1, hr.2.2.2.1, fun _ => hgm⟩ (fun hm => absurd hm hni)) (by simp only; omega) (fun _ => hb) (fun hm => absurd hm hni)
theorem Sim.take (h2 : Sim ids M rw put) (hm : M[k]? = some m) (hx : m.all[i]? = some x) {g : Int} (hg0 : 0 ≤ g) (hb : g < x.bound) :
 Sim ids (M.set k ⟨m.all.set i ⟨g, x.bound, true⟩, m.free.filter fun j => !(j == (i : Int))⟩) (Go.Proofs.YtoimjjhopljdmaaGreat.updRw rw k i (-1)) put := by
 have hg := h2.good m (List.mem_of_getElem? hm)
 have hr := hg.inv.rng i x hx
 have hni : (i : Int) ∉ m.free.filter fun j => !(j == (i : Int)) := fun h => by simp [List.mem_filter] at h
 have hdr := hg.inv.drop (i := i) ⟨g, x.bound, true⟩ ⟨hg0, by simp only; omega, hr.2.2.1, hr.2.2.2.1, fun _ => by simp only; omega⟩
 have g1 := free_drop_good hg _ hdr.1 fun f hf => (List.mem_filter.1 hf).1
 refine h2.updRw hm (by simpa using h2.len m (List.mem_of_getElem? hm)) ?_ (fun a b ha => upd_ne _ _ _ _ (by omega)) (row_drop h2 hm _ (fun j hj => by simp only [List.mem_filter]; exact ⟨fun h => ⟨h, by simp; omega⟩, fun h => h.1⟩) hni) (ord_drop h2 hm _ List.filter_sublist hni) (Int.le_refl _)
 exact set_good g1 ⟨g, x.bound, true⟩ hdr.2 (by simp only; omega) (fun _ => hb) (fun hm => absurd hm hni)
theorem Sim.free (h2 : Sim ids M rw put) (hm : M[k]? = some m) (hx : m.all[i]? = some x) (ha : x.alive = true) (hlt : x.gen + 1 < 1048576) :
 Sim ids (M.set k ⟨m.all.set i ⟨x.gen + 1, x.bound, false⟩, m.free ++ [(i : Int)]⟩) (Go.Proofs.YtoimjjhopljdmaaGreat.updRw rw k i put) (put + 1) := by
 have hg := h2.good m (List.mem_of_getElem? hm)
 have hal := h2.len m (List.mem_of_getElem? hm)
 have hni : (i : Int) ∉ m.free := fun h => by have := hg.inv.dead i h x (by simpa using hx); rw [ha] at this; cases this
 have hgood := (freeF_alive hm hx ha hg).2
 unfold freedSh at hgood
 rw [if_pos hlt] at hgood
 have hp := h2.put
 refine h2.updRw hm (by simpa using hal) hgood (fun a b ha => upd_ne _ _ _ _ (by omega)) (fun j hj => ?_) ?_ (by omega)
 · by_cases e : j = i
   · subst e
     rw [upd_same]
     exact ⟨⟨fun _ => by simp, fun _ => hp⟩, by omega⟩
   · rw [upd_ne _ _ _ _ (by omega)]
     have := h2.row k m hm j hj
     refine ⟨this.1.trans ?_, by omega⟩
     simp only [List.mem_append, List.mem_singleton]
     exact ⟨.inl, fun h => h.resolve_right (by omega)⟩
 · have e : m.free.map (Go.Proofs.YtoimjjhopljdmaaGreat.updRw rw k i put k) = m.free.map (rw k) := List.map_congr_left fun f hf => upd_ne _ _ _ _ fun h => hni (by rw [← h.2]; exact hf)
   rw [List.map_append, e, List.pairwise_append]
   refine ⟨h2.ord k m hm, by simp, fun a hma b hmb => ?_⟩
   simp only [List.map_cons, List.map_nil, List.mem_singleton, upd_same] at hmb
   subst hmb
   obtain ⟨f, hf, rfl⟩ := List.mem_map.1 hma
   obtain ⟨h0, h1⟩ := hg.inv.fr f hf
   obtain ⟨j, rfl⟩ := Int.eq_ofNat_of_zero_le h0
   exact (h2.row k m hm j (by omega)).2
theorem Sim.worn (h2 : Sim ids M rw put) (hm : M[k]? = some m) (hx : m.all[i]? = some x) (ha : x.alive = true) (hlt : ¬ x.gen + 1 < 1048576) :
 Sim ids (M.set k ⟨m.all.set i ⟨x.gen + 1, x.bound, false⟩, m.free⟩) rw put := by
 have hg := h2.good m (List.mem_of_getElem? hm)
 have hgood := (freeF_alive hm hx ha hg).2
 unfold freedSh at hgood
 rw [if_neg hlt] at hgood
 exact h2.updRw hm (by simpa using h2.len m (List.mem_of_getElem? hm)) hgood (fun _ _ _ => rfl) (h2.row k m hm) (h2.ord k m hm) (Int.le_refl _)
end
section
def RStp (w : World) (R : RLay) (ids : Nat) (c : Int) (w' : World) (M' : List Sh) : Prop := RPool w' R ids c M' ∧ Chg w w' R.own
theorem RStp.same {w w' : World} {R : RLay} {ids : Nat} {c : Int} {M : List Sh} (h : RPool w R ids c M) (hb : Below w.heap.size w w') : RStp w R ids c w' M := ⟨h.grown hb, Chg.of_below hb⟩
theorem RStp.more {w w' : World} {R : RLay} {ids : Nat} {c : Int} {M' : List Sh} (h : RStp w R ids c w' M') : RStp w R ids (c + 1) w' M' := by
 obtain ⟨⟨rw, put, h1, h2, h3⟩, h4⟩ := h
 exact ⟨⟨rw, put, h1, h2, by omega⟩, h4⟩
theorem RStp.of {w W W' : World} {R : RLay} {ids : Nat} {c : Int} {M' : List Sh} (hc : Chg w W R.own) (hr : RPool W R ids c M') (hb : Below W.heap.size W W') : RStp w R ids c W' M' := ⟨hr.grown hb, hc.then_below (hb.mono hc.size)⟩
theorem RefAt.put1 {w : World} {R : RLay} {l : List Slot} {put : Int} (h : RefAt w R l put) {n : Nat} {s s' : Slot} (hs : l[n]? = some s) (q : Nat) (v : Value) (hq : q < 6) (hc : s'.cells = s.cells.set q v) : RefAt (w.setCell ⟨R.b, R.off + n * 6 + q, none⟩ v) R (l.set n s') put :=
 h.set hs q v hq (by rw [hc]; exact List.getElem?_set_self (by simpa [Slot.cells] using hq)) fun j hj => by rw [hc]; exact List.getElem?_set_ne hj.symm
theorem Chg.put1 {w W : World} {R : RLay} (h : Chg w W R.own) (o : Nat) (v : Value) : Chg w (W.setCell ⟨R.b, o, none⟩ v) R.own := h.setCell _ _ (.inl (.inr rfl))
theorem Chg.put0 {w W : World} {R : RLay} (h : Chg w W R.own) (o : Nat) (v : Value) : Chg w (W.setCell ⟨R.p, o, none⟩ v) R.own := h.setCell _ _ (.inl (.inl rfl))
theorem get_set {l : List Slot} {n : Nat} {s s' : Slot} (h : l[n]? = some s) : (l.set n s')[n]? = some s' := List.getElem?_set_self (List.getElem?_eq_some_iff.1 h).1
section
variable {w : World} {R : RLay} {ids : Nat} {M : List Sh} {rw : Int → Int → Int} {put c : Int} {k i : Nat} {m : Sh} (h1 : RefAt w R (mSlots rw 0 M) put) (h2 : Sim ids M rw put) (hpc : put ≤ c) (hm : M[k]? = some m)
include h1 h2 hpc hm
theorem fin_reserve {gen bound : Int} {alive : Bool} (hx : m.all[i]? = some ⟨gen, bound, alive⟩) (hlt : bound + 8 ≤ 1048576) : RStp w R ids c (w.setCell ⟨R.b, R.off + (k * ids + i) * 6 + 3, none⟩ (int i64 (bound + 8))) (setIx M k i ⟨gen, min (bound + 8) 1048576, alive⟩) := by
 have hs := mSlots_get (rw := rw) M 0 k i m _ h2.len hm hx
 have e : min (bound + 8) 1048576 = bound + 8 := by omega
 refine ⟨⟨rw, put, ?_, by rw [setIx_nat _ hm]; exact h2.reserve hm hx, hpc⟩, (Chg.refl _ _).put1 _ _⟩
 rw [setIx_nat _ hm, e]
 exact RefAt.turn h2 hm hx rfl (fun _ _ _ => rfl) fun s es => h1.put1 hs 3 _ (by omega) (by subst es; simp [Slot.cells])
theorem fin_reserve2 {gen bound : Int} {alive : Bool} (hx : m.all[i]? = some ⟨gen, bound, alive⟩) (hlt : 1048576 ≤ bound + 8) : RStp w R ids c ((w.setCell ⟨R.b, R.off + (k * ids + i) * 6 + 3, none⟩ (int i64 (bound + 8))).setCell ⟨R.b, R.off + (k * ids + i) * 6 + 3, none⟩ (int i64 1048576)) (setIx M k i ⟨gen, min (bound + 8) 1048576, alive⟩) := by
 have hs := mSlots_get (rw := rw) M 0 k i m _ h2.len hm hx
 have e : min (bound + 8) 1048576 = 1048576 := by omega
 refine ⟨⟨rw, put, ?_, by rw [setIx_nat _ hm]; exact h2.reserve hm hx, hpc⟩, ((Chg.refl _ _).put1 _ _).put1 _ _⟩
 rw [setIx_nat _ hm, e]
 refine RefAt.turn h2 hm hx rfl (fun _ _ _ => rfl) fun s es => ?_
 have h3 := h1.put1 hs 3 (int i64 (bound + 8)) (s' := ⟨0 + k, i, gen, bound + 8, rw (0 + k) i, alive⟩) (by omega) (by simp [Slot.cells])
 have h4 := h3.put1 (get_set hs) 3 (int i64 1048576) (s' := s) (by omega) (by subst es; simp [Slot.cells])
 rw [List.set_set] at h4
 exact h4
end
theorem rreserve_any (w : World) (R : RLay) (ids : Nat) {c : Int} (M : List Sh) (h : RPool w R ids c M) (k i : Int) : Calls prog 70 #[.pointer (some ⟨R.p, 0, none⟩), int i64 k, int i64 i] w fun e w' => e = .returned (int i64 (reserveF M k i).1) ∧ RStp w R ids c w' (reserveF M k i).2 := by
 have HE := hid fun w' (hb : Below w.heap.size w w') => RStp.same h hb
 obtain ⟨rw, put, h1, h2, hpc⟩ := h
 cases hix : ixOf M k i with
 | none =>
   simp only [reserveF, hix]
   have HA := hid (rat_none w R ids M rw put h1 h2 k i hix)
   clear hix h1 h2
   go_enter Tryz.func70, Tryz.ntmps70
   go_wp2_with (go_at_call 117; refine HA.out.mono ?_; rintro e w' ⟨rfl, rfl⟩)
   go_ret
   exact ⟨rfl, HE.out _ bg⟩
 | some x =>
   simp only [reserveF, hix]
   obtain ⟨k, i, m, rfl, rfl, hm, hx⟩ := ixOf_nat' hix
   have hr := (h2.good m (List.mem_of_getElem? hm)).inv.rng i x hx
   have HA := hid (rat_some w R ids M rw put h1 h2 k i m x hm hx)
   have hs := mSlots_get (rw := rw) M 0 k i m x h2.len hm hx
   obtain ⟨s0, s1, s2, s3, s4, s5⟩ := h1.slot hs
   obtain ⟨c0, c1, fp, fb, b0, b1⟩ := h1.tops
   obtain ⟨z1, z2⟩ := h1.bnd
   obtain ⟨y0, y1, y2, y3⟩ := lts b0
   obtain ⟨x0, x1, x2, x3⟩ := lts b1
   have b00 : ∀ n, R.p < w.heap.size + n := fun n => by omega
   have b11 : ∀ n, R.b < w.heap.size + n := fun n => by omega
   have hn := (List.getElem?_eq_some_iff.1 hs).1
   have hnI : 0 ≤ ((k * ids + i : Nat) : Int) := Int.natCast_nonneg _
   have hnL : ((k * ids + i : Nat) : Int) < ((mSlots rw 0 M).length : Int) := by omega
   unfold maxLen at z2
   by_cases hb : x.bound = 1048576
   · rw [if_pos hb]
     have hbb : (1048576 : Int) ≤ x.bound := by omega
     clear hb
     generalize (mSlots rw 0 M).length = len at *
     generalize k * ids + i = n at *
     clear hs hm hx hix h1 h2 hr
     obtain ⟨gen, bound, alive⟩ := x
     simp only at s3 hbb
     go_enter Tryz.func70, Tryz.ntmps70
     go_wp2_with (go_at_call 117; refine HA.out.mono ?_; rintro e w' ⟨rfl, rfl⟩)
     go_ret
     exact ⟨rfl, HE.out _ bg⟩
   · rw [if_neg hb]
     have hlt : x.bound < 1048576 := by omega
     have hb0 := hr.2.2.1
     clear hb
     obtain ⟨gen, bound, alive⟩ := x
     have HF1 := hid (fun h => fin_reserve h1 h2 hpc hm hx h)
     have HF2 := hid (fun h => fin_reserve2 h1 h2 hpc hm hx h)
     generalize k * ids + i = n at *
     generalize (mSlots rw 0 M).length = len at *
     clear hs hix hx hm h1 h2
     simp only at s3 hlt hb0
     clear hr
     go_enter Tryz.func70, Tryz.ntmps70
     go_wp2_with (go_at_call 117; refine HA.out.mono ?_; rintro e w' ⟨rfl, rfl⟩)
     refine wp_region_still_tail 16 (by kernel_rfl) (by kernel_rfl) ?_
     simp only [List.take_succ_cons, List.take_zero, List.drop_succ_cons, List.drop_zero]
     repeat (first | still_step)
     refine wpStill_nil ?_
     go_wp2_with fail
     · go_ret
       exact ⟨rfl, RStp.of (HF2.out (by omega)).2 (HF2.out (by omega)).1 bg⟩
     · go_ret
       exact ⟨rfl, RStp.of (HF1.out (by omega)).2 (HF1.out (by omega)).1 bg⟩
section
variable {w : World} {R : RLay} {ids : Nat} {M : List Sh} {rw : Int → Int → Int} {put c : Int} {k i : Nat} {m : Sh} (h1 : RefAt w R (mSlots rw 0 M) put) (h2 : Sim ids M rw put) (hpc : put ≤ c) (hm : M[k]? = some m)
include h1 h2 hpc hm
theorem fin_issue {x : Ix} {fs : List Int} (hx : m.all[i]? = some x) (hf : m.free = (i : Int) :: fs) (hb : x.gen < x.bound) :
 RStp w R ids c ((w.setCell ⟨R.b, R.off + (k * ids + i) * 6 + 4, none⟩ (int i64 (-1))).setCell ⟨R.b, R.off + (k * ids + i) * 6 + 5, none⟩ (.bool true)) (setFr (setIx M k i { x with alive := true }) k fs) := by
 have hs := mSlots_get (rw := rw) M 0 k i m _ h2.len hm hx
 have hkl := (List.getElem?_eq_some_iff.1 hm).1
 rw [setIx_nat _ hm, setFr_nat (m := { m with all := m.all.set i { x with alive := true } }) _ (List.getElem?_set_self hkl), List.set_set]
 refine ⟨⟨_, put, ?_, h2.issue hm hf hx hb, hpc⟩, ((Chg.refl _ _).put1 _ _).put1 _ _⟩
 refine RefAt.turn h2 hm hx (x' := { x with alive := true }) rfl (fun a b h => upd_ne _ _ _ _ (by omega)) fun s es => ?_
 have h3 := h1.put1 hs 4 (int i64 (-1)) (s' := ⟨0 + k, i, x.gen, x.bound, -1, x.alive⟩) (by omega) (by simp [Slot.cells])
 have h4 := h3.put1 (get_set hs) 5 (.bool true) (s' := s) (by omega) (by subst es; simp [Slot.cells, upd_same])
 rw [List.set_set] at h4
 exact h4
theorem fin_take {x : Ix} {g : Int} (hx : m.all[i]? = some x) (hg : 0 ≤ g) (hb : g < x.bound) :
 RStp w R ids c (((w.setCell ⟨R.b, R.off + (k * ids + i) * 6 + 4, none⟩ (int i64 (-1))).setCell ⟨R.b, R.off + (k * ids + i) * 6 + 2, none⟩ (int i64 g)).setCell ⟨R.b, R.off + (k * ids + i) * 6 + 5, none⟩ (.bool true)) (setFr (setIx M k i ⟨g, x.bound, true⟩) k (m.free.filter fun j => !(j == (i : Int)))) := by
 have hs := mSlots_get (rw := rw) M 0 k i m _ h2.len hm hx
 have hkl := (List.getElem?_eq_some_iff.1 hm).1
 rw [setIx_nat _ hm, setFr_nat (m := { m with all := m.all.set i ⟨g, x.bound, true⟩ }) _ (List.getElem?_set_self hkl), List.set_set]
 refine ⟨⟨_, put, ?_, h2.take hm hx hg hb, hpc⟩, (((Chg.refl _ _).put1 _ _).put1 _ _).put1 _ _⟩
 refine RefAt.turn h2 hm hx (x' := ⟨g, x.bound, true⟩) rfl (fun a b h => upd_ne _ _ _ _ (by omega)) fun s es => ?_
 have h3 := h1.put1 hs 4 (int i64 (-1)) (s' := ⟨0 + k, i, x.gen, x.bound, -1, x.alive⟩) (by omega) (by simp [Slot.cells])
 have h4 := h3.put1 (get_set hs) 2 (int i64 g) (s' := ⟨0 + k, i, g, x.bound, -1, x.alive⟩) (by omega) (by simp [Slot.cells])
 rw [List.set_set] at h4
 have h5 := h4.put1 (get_set hs) 5 (.bool true) (s' := s) (by omega) (by subst es; simp [Slot.cells, upd_same])
 rw [List.set_set] at h5
 exact h5
theorem fin_free {x : Ix} (hx : m.all[i]? = some x) (ha : x.alive = true) (hlt : x.gen + 1 < 1048576) :
 RStp w R ids (c + 1) ((((w.setCell ⟨R.b, R.off + (k * ids + i) * 6 + 5, none⟩ (.bool false)).setCell ⟨R.b, R.off + (k * ids + i) * 6 + 2, none⟩ (int i64 (x.gen + 1))).setCell ⟨R.b, R.off + (k * ids + i) * 6 + 4, none⟩ (int i64 put)).setCell ⟨R.p, 1, none⟩ (int i64 (put + 1))) (addFr (setIx M k i ⟨x.gen + 1, x.bound, false⟩) k i) := by
 have hs := mSlots_get (rw := rw) M 0 k i m _ h2.len hm hx
 have hkl := (List.getElem?_eq_some_iff.1 hm).1
 have e : addFr (setIx M k i ⟨x.gen + 1, x.bound, false⟩) k i = M.set k ⟨m.all.set i ⟨x.gen + 1, x.bound, false⟩, m.free ++ [(i : Int)]⟩ := by
  rw [setIx_nat _ hm, addFr]
  simp [shOf, List.getElem?_set_self hkl]
 rw [e]
 refine ⟨⟨_, put + 1, ?_, h2.free hm hx ha hlt, by omega⟩, ((((Chg.refl _ _).put1 _ _).put1 _ _).put1 _ _).put0 _ _⟩
 refine RefAt.turn h2 hm hx (x' := ⟨x.gen + 1, x.bound, false⟩) rfl (fun a b h => upd_ne _ _ _ _ (by omega)) fun s es => ?_
 have h3 := h1.put1 hs 5 (.bool false) (s' := ⟨0 + k, i, x.gen, x.bound, rw (0 + k) i, false⟩) (by omega) (by simp [Slot.cells])
 have h4 := h3.put1 (get_set hs) 2 (int i64 (x.gen + 1)) (s' := ⟨0 + k, i, x.gen + 1, x.bound, rw (0 + k) i, false⟩) (by omega) (by simp [Slot.cells])
 rw [List.set_set] at h4
 have h5 := h4.put1 (get_set hs) 4 (int i64 put) (s' := s) (by omega) (by subst es; simp [Slot.cells, upd_same])
 rw [List.set_set] at h5
 exact h5.setPut (put + 1)
theorem fin_worn {x : Ix} (hx : m.all[i]? = some x) (ha : x.alive = true) (hlt : ¬ x.gen + 1 < 1048576) :
 RStp w R ids c ((w.setCell ⟨R.b, R.off + (k * ids + i) * 6 + 5, none⟩ (.bool false)).setCell ⟨R.b, R.off + (k * ids + i) * 6 + 2, none⟩ (int i64 (x.gen + 1))) (setIx M k i ⟨x.gen + 1, x.bound, false⟩) := by
 have hs := mSlots_get (rw := rw) M 0 k i m _ h2.len hm hx
 rw [setIx_nat _ hm]
 refine ⟨⟨rw, put, ?_, h2.worn hm hx ha hlt, hpc⟩, ((Chg.refl _ _).put1 _ _).put1 _ _⟩
 refine RefAt.turn h2 hm hx (x' := ⟨x.gen + 1, x.bound, false⟩) rfl (fun _ _ _ => rfl) fun s es => ?_
 have h3 := h1.put1 hs 5 (.bool false) (s' := ⟨0 + k, i, x.gen, x.bound, rw (0 + k) i, false⟩) (by omega) (by simp [Slot.cells])
 have h4 := h3.put1 (get_set hs) 2 (int i64 (x.gen + 1)) (s' := s) (by omega) (by subst es; simp [Slot.cells])
 rw [List.set_set] at h4
 exact h4
end
end
section
structure RDLay where
 (p : Nat) (R : RLay) (qv : Value)
def RDLay.own (r : RDLay) (b : Nat) : Prop := b = r.p ∨ r.R.own b ∨ r.qv.ownBlock = some b
def rdeskC (r : RDLay) (c : Cfg) (D : Dk) : Array Value := #[int i64 c.cols, int i64 c.rows, int i64 c.side, int i64 c.radius, int i64 c.speed, int i64 c.ids, int i64 c.queue, .pointer (some ⟨r.R.p, 0, none⟩), r.qv, int i64 D.t, .bool D.op]
structure RDeskAt (w : World) (r : RDLay) (c : Cfg) (k : Int) (D : Dk) : Prop where
 box : w.heap[r.p]? = some (.cells (rdeskC r c D) 128 (0, 0))
 pool : RPool w r.R c.ids.toNat k D.M
 q : Sl w 34 16 r.qv D.q.length (cellsR cmC D.q)
 qn : (D.q.length : Int) ≤ c.queue
 t0 : 0 ≤ D.t ∧ D.t ≤ 1099511627776
 ap : ¬ r.R.own r.p
 aq : ∀ g, r.qv.ownBlock = some g → g ≠ r.p ∧ ¬ r.R.own g
variable {w w' w'' : World} {r r' : RDLay} {c : Cfg} {k k' : Int} {D D' D'' : Dk}
theorem RDeskAt.lt (h : RDeskAt w r c k D) {b : Nat} (hb : r.own b) : b < w.heap.size := by
 rcases hb with rfl | hb | hb
 · exact lt_of_heap h.box
 · exact h.pool.lt hb
 · exact sl_lt h.q hb
theorem RPool.keep {R : RLay} {ids : Nat} {c : Int} {M : List Sh} (h : RPool w R ids c M) (hk : ∀ b, R.own b → w'.heap[b]? = w.heap[b]?) : RPool w' R ids c M := by
 obtain ⟨rw, put, h1, h2, h3⟩ := h; exact ⟨rw, put, h1.keep hk, h2, h3⟩
theorem RDeskAt.keep (h : RDeskAt w r c k D) (hk : ∀ b, r.own b → w'.heap[b]? = w.heap[b]?) : RDeskAt w' r c k D :=
 ⟨(hk _ (.inl rfl)).trans h.box, h.pool.keep fun b hb => hk b (.inr (.inl hb)), h.q.keep fun g hg => hk g (.inr (.inr hg)), h.qn, h.t0, h.ap, h.aq⟩
theorem RDeskAt.grown (h : RDeskAt w r c k D) (hb : Below w.heap.size w w') : RDeskAt w' r c k D := h.keep fun b hb' => hb.block b (h.lt hb')
theorem RPool.more {R : RLay} {ids : Nat} {c c' : Int} {M : List Sh} (h : RPool w R ids c M) (hc : c ≤ c') : RPool w R ids c' M := by
 obtain ⟨rw, put, h1, h2, h3⟩ := h; exact ⟨rw, put, h1, h2, by omega⟩
theorem RDeskAt.more (h : RDeskAt w r c k D) (hk : k ≤ k') : RDeskAt w r c k' D := ⟨h.box, h.pool.more hk, h.q, h.qn, h.t0, h.ap, h.aq⟩
def RDStp (w : World) (r : RDLay) (c : Cfg) (k : Int) (w' : World) (D' : Dk) : Prop := ∃ r', r'.p = r.p ∧ r'.R = r.R ∧ RDeskAt w' r' c k D' ∧ Chg w w' r.own ∧ ∀ b, r'.own b → r.own b ∨ w.heap.size ≤ b
theorem RDStp.of_grown (h : RDeskAt w r c k D) (hb : Below w.heap.size w w') : RDStp w r c k w' D := ⟨r, rfl, rfl, h.grown hb, Chg.of_below hb, fun _ h => .inl h⟩
theorem RDStp.trans (h : RDStp w r c k w' D') (h2 : ∀ r', r'.p = r.p → r'.R = r.R → RDeskAt w' r' c k D' → RDStp w' r' c k' w'' D'') : RDStp w r c k' w'' D'' := by
 obtain ⟨r1, e1, e2, hd, hc, ho⟩ := h
 obtain ⟨r2, f1, f2, hd2, hc2, ho2⟩ := h2 r1 e1 e2 hd
 refine ⟨r2, f1.trans e1, f2.trans e2, hd2, hc.trans hc2 fun b hb h1 => ?_, fun b hb => ?_⟩
 · rcases ho b h1 with h | h
   · exact h
   · omega
 · rcases ho2 b hb with h | h
   · exact ho b h
   · exact .inr (Nat.le_trans hc.size h)
theorem RDStp.then_below (h : RDStp w r c k w' D') (hb : Below w'.heap.size w' w'') : RDStp w r c k w'' D' := h.trans fun _ _ _ h2 => RDStp.of_grown h2 hb
theorem RDStp.from_below (hb : Below w.heap.size w w') (h : RDStp w' r c k w'' D') : RDStp w r c k w'' D' := by
 obtain ⟨d1, e1, e2, hd, hc, ho⟩ := h
 exact ⟨d1, e1, e2, hd, (Chg.of_below hb).trans hc fun _ _ h => h, fun b h => (ho b h).imp_right fun h => Nat.le_trans hb.size h⟩
theorem RDStp.pool (h : RDeskAt w r c k D) {M' : List Sh} (hs : RStp w r.R c.ids.toNat k' w' M') : RDStp w r c k' w' { D with M := M' } := by
 obtain ⟨hp, hc⟩ := hs
 have hk : ∀ b, b < w.heap.size → ¬ r.R.own b → w'.heap[b]? = w.heap[b]? := fun b h1 h2 => hc.block b h1 h2
 exact ⟨r, rfl, rfl, ⟨(hk _ (lt_of_heap h.box) h.ap).trans h.box, hp, h.q.keep fun g hg => hk g (sl_lt h.q hg) (h.aq g hg).2, h.qn, h.t0, h.ap, h.aq⟩, hc.mono fun b _ hb => .inr (.inl hb), fun b hb => .inl hb⟩
theorem RDeskAt.cell (h : RDeskAt w r c k D) (j : Nat) : w.cell? ⟨r.p, j, none⟩ = (rdeskC r c D)[j]? := by simp [World.cell?, h.box]
theorem RDeskAt.frozen (h : RDeskAt w r c k D) (j : Nat) : w.frozen? ⟨r.p, j, none⟩ = false := by simp [World.frozen?, h.box]
theorem RDeskAt.boxed (h : RDeskAt w r c k D) {v' : Value} (hb : w'.heap[r.p]? = some (.cells (rdeskC ⟨r.p, r.R, v'⟩ c D') 128 (0, 0))) (hM : D'.M = D.M) (hq : Sl w' 34 16 v' D'.q.length (cellsR cmC D'.q)) (hn : (D'.q.length : Int) ≤ c.queue) (ht : 0 ≤ D'.t ∧ D'.t ≤ 1099511627776)
 (ho : ∀ g, v'.ownBlock = some g → r.qv.ownBlock = some g ∨ w.heap.size ≤ g) (hc : Chg w w' fun b => b = r.p ∨ r.qv.ownBlock = some b) : RDStp w r c k w' D' := by
 have hk : ∀ b, b < w.heap.size → b ≠ r.p → r.qv.ownBlock ≠ some b → w'.heap[b]? = w.heap[b]? := fun b h1 h2 h3 => hc.block b h1 fun e => e.elim h2 h3
 refine ⟨⟨r.p, r.R, v'⟩, rfl, rfl, ⟨hb, ?_, hq, hn, ht, h.ap, fun g hg => ?_⟩, hc.mono fun b _ e => e.elim .inl fun e => .inr (.inr e), fun b hb => ?_⟩
 · rw [hM]
   exact h.pool.keep fun b hb => hk b (h.pool.lt hb) (fun e => h.ap (e ▸ hb)) (fun e => (h.aq b e).2 hb)
 · rcases ho g hg with e | e
   · exact h.aq g e
   · exact ⟨fun e2 => by have h1 := lt_of_heap h.box; have e3 : g = r.p := e2; omega, fun e2 => by have := h.pool.lt e2; omega⟩
 · rcases hb with e | e | e
   · exact .inl (.inl e)
   · exact .inl (.inr (.inl e))
   · exact (ho b e).imp (fun h => .inr (.inr h)) id
theorem RDeskAt.queued (h : RDeskAt w r c k D) {w4 : World} {v' : Value} {m : Cm} (hs : Sl w4 34 16 v' (D.q.length + 1) (cellsR cmC D.q ++ cmC m)) (ht : Turned w w4 r.qv.ownBlock)
 (ho : v'.ownBlock = r.qv.ownBlock ∨ ∃ g, v'.ownBlock = some g ∧ w.heap.size ≤ g) (hq : (D.q.length : Int) < c.queue) : RDStp w r c k (w4.setCell ⟨r.p, 8, none⟩ v') { D with q := D.q ++ [m] } := by
 have hp := lt_of_heap h.box
 have hnp : r.qv.ownBlock ≠ some r.p := fun e => (h.aq _ e).1 rfl
 have hb4 := (ht.block r.p hp fun e => hnp e.symm).trans h.box
 have hvp : v'.ownBlock ≠ some r.p := fun e => by
  rcases ho with e2 | ⟨g, e2, e3⟩
  · exact hnp (e2 ▸ e)
  · rw [e] at e2; cases e2; omega
 refine h.boxed (v' := v') ?_ rfl ?_ (by simp only [List.length_append, List.length_singleton]; omega) h.t0 (fun g hg => ?_) ?_
 · rw [heap_setCell_same _ _ _ _ _ _ _ hb4]
   simp [rdeskC]
 · rw [show cellsR cmC (D.q ++ [m]) = cellsR cmC D.q ++ cmC m from by rw [cellsR_app, cellsR_one], List.length_append, List.length_singleton]
   exact hs.keep fun g hg => Below.heap_setCell _ _ _ _ fun e => hvp (by rw [hg, e])
 · rcases ho with e2 | ⟨g', e2, e3⟩
   · exact .inl (e2 ▸ hg)
   · rw [hg] at e2; cases e2; exact .inr e3
 · exact (Chg.of_turned ht (F := fun b => b = r.p ∨ r.qv.ownBlock = some b) fun k e _ => .inr e).setCell _ _ (.inl (.inl rfl))
def rdeskO (p R : Nat) (c : Cfg) (k : Int) (D : Dk) : Ob where
 holds w o := ∃ r : RDLay, r.p = p ∧ r.R.p = R ∧ RDeskAt w r c k D ∧ ∀ x, o x ↔ r.own x
 lt := by
  rintro w o ⟨r, _, _, h, ho⟩ b hb
  exact h.lt ((ho b).1 hb)
 keep := by
  rintro w w' o ⟨r, hp, hR, h, ho⟩ hk
  exact ⟨r, hp, hR, h.keep fun b hb => hk b ((ho b).2 hb), ho⟩
theorem RDStp.gone {a : Nat → Prop} (h : RDStp w r c k w' D') (ha : ∀ x, a x ↔ r.own x) : Gone a w w' (rdeskO r.p r.R.p c k D') := by
 obtain ⟨r', hp, hR, hd, hc, ho⟩ := h
 exact ⟨r'.own, ⟨r', hp, by rw [hR], hd, fun _ => Iff.rfl⟩, hc.mono fun x _ hx => (ha x).2 hx, fun x hx => (ho x hx).imp (ha x).2 id⟩
theorem Own.rdesk {w0 W : World} {F : Ob} {p R : Nat} (h : Own w0 W ((rdeskO p R c k D).and F)) {P : Program} {f : FuncId} {args : Array Value} {Q : Ending → Prop} {D' : Dk} (hc : ∀ r : RDLay, r.p = p → r.R.p = R → RDeskAt W r c k D → Calls P f args W fun e w' => Q e ∧ RDStp W r c k' w' D') :
 Calls P f args W fun e w' => Q e ∧ Own w0 w' ((rdeskO p R c k' D').and F) := h.call fun _ ⟨r, hp, hR, hd, ha⟩ => (hc r hp hR hd).mono fun _ _ ⟨hr, hs⟩ => ⟨hr, hp ▸ hR ▸ hs.gone ha⟩
theorem Own.rreads {w0 W : World} {F : Ob} {p R : Nat} (h : Own w0 W ((rdeskO p R c k D).and F)) {P : Program} {f : FuncId} {args : Array Value} {Q : Ending → World → Prop} (hc : ∀ r : RDLay, r.p = p → r.R.p = R → RDeskAt W r c k D → Calls P f args W Q) : Calls P f args W Q := h.look fun _ ⟨r, hp, hR, hd, _⟩ => hc r hp hR hd
end
def hasF (x0 y0 x1 y1 x y : Int) : Bool := decide (clampF x0 ≤ clampF x ∧ clampF x < clampF x1 ∧ clampF y0 ≤ clampF y ∧ clampF y < clampF y1)
theorem rHas_any (x0 y0 x1 y1 x y : Int) (w : World) :
 Calls prog 42 #[.agg #[int i64 x0, int i64 y0, int i64 x1, int i64 y1], int i64 x, int i64 y] w fun e w' => e = .returned (.bool (hasF x0 y0 x1 y1 x y)) ∧ Below w.heap.size w w' := by
 unfold hasF
 have CX := hid (fun W => rClamp_any x W)
 have CY := hid (fun W => rClamp_any y W)
 have C0 := hid (fun W => rClamp_any x0 W)
 have C1 := hid (fun W => rClamp_any y0 W)
 have C2 := hid (fun W => rClamp_any x1 W)
 have C3 := hid (fun W => rClamp_any y1 W)
 generalize clampF x0 = a0 at *
 generalize clampF y0 = b0 at *
 generalize clampF x1 = a1 at *
 generalize clampF y1 = b1 at *
 generalize clampF x = cx at *
 generalize clampF y = cy at *
 by_cases h1 : a0 ≤ cx
 · have d1 : decide (a0 ≤ cx) = true := decide_eq_true h1
   by_cases h2 : cx < a1
   · have d2 : decide (cx < a1) = true := decide_eq_true h2
     by_cases h3 : b0 ≤ cy
     · have d3 : decide (b0 ≤ cy) = true := decide_eq_true h3
       by_cases h4 : cy < b1
       · have d4 : decide (cy < b1) = true := decide_eq_true h4
         rw [show decide (a0 ≤ cx ∧ cx < a1 ∧ b0 ≤ cy ∧ cy < b1) = true from decide_eq_true ⟨h1, h2, h3, h4⟩]
         go_enter Tryz.func42, Tryz.ntmps42
         go_wp2_with fail
         refine eqA (CX.out _) ?_
         go_wp2_with fail
         refine eqA (CY.out _) ?_
         go_wp2_with fail
         refine eqA (C0.out _) ?_
         go_wp2_with fail
         refine eqA (C2.out _) ?_
         go_wp2_with fail
         refine eqA (C1.out _) ?_
         go_wp2_with fail
         refine eqA (C3.out _) ?_
         go_wp2_with fail
         go_ret
         exact ⟨rfl, bg⟩
       · have d4 : decide (cy < b1) = false := decide_eq_false h4
         rw [show decide (a0 ≤ cx ∧ cx < a1 ∧ b0 ≤ cy ∧ cy < b1) = false from decide_eq_false (by omega)]
         go_enter Tryz.func42, Tryz.ntmps42
         go_wp2_with fail
         refine eqA (CX.out _) ?_
         go_wp2_with fail
         refine eqA (CY.out _) ?_
         go_wp2_with fail
         refine eqA (C0.out _) ?_
         go_wp2_with fail
         refine eqA (C2.out _) ?_
         go_wp2_with fail
         refine eqA (C1.out _) ?_
         go_wp2_with fail
         refine eqA (C3.out _) ?_
         go_wp2_with fail
         go_ret
         exact ⟨rfl, bg⟩
     · have d3 : decide (b0 ≤ cy) = false := decide_eq_false h3
       rw [show decide (a0 ≤ cx ∧ cx < a1 ∧ b0 ≤ cy ∧ cy < b1) = false from decide_eq_false (by omega)]
       go_enter Tryz.func42, Tryz.ntmps42
       go_wp2_with fail
       refine eqA (CX.out _) ?_
       go_wp2_with fail
       refine eqA (CY.out _) ?_
       go_wp2_with fail
       refine eqA (C0.out _) ?_
       go_wp2_with fail
       refine eqA (C2.out _) ?_
       go_wp2_with fail
       refine eqA (C1.out _) ?_
       go_wp2_with fail
       go_ret
       exact ⟨rfl, bg⟩
   · have d2 : decide (cx < a1) = false := decide_eq_false h2
     rw [show decide (a0 ≤ cx ∧ cx < a1 ∧ b0 ≤ cy ∧ cy < b1) = false from decide_eq_false (by omega)]
     go_enter Tryz.func42, Tryz.ntmps42
     go_wp2_with fail
     refine eqA (CX.out _) ?_
     go_wp2_with fail
     refine eqA (CY.out _) ?_
     go_wp2_with fail
     refine eqA (C0.out _) ?_
     go_wp2_with fail
     refine eqA (C2.out _) ?_
     go_wp2_with fail
     go_ret
     exact ⟨rfl, bg⟩
 · have d1 : decide (a0 ≤ cx) = false := decide_eq_false h1
   rw [show decide (a0 ≤ cx ∧ cx < a1 ∧ b0 ≤ cy ∧ cy < b1) = false from decide_eq_false (by omega)]
   go_enter Tryz.func42, Tryz.ntmps42
   go_wp2_with fail
   refine eqA (CX.out _) ?_
   go_wp2_with fail
   refine eqA (CY.out _) ?_
   go_wp2_with fail
   refine eqA (C0.out _) ?_
   go_wp2_with fail
   go_ret
   exact ⟨rfl, bg⟩
end Go.Proofs.YtoimjjhopljdmaaGreat
