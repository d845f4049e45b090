/- Texts TkO TkG: what the claim reaches of them. Conditions stand at each theorem. -/
import Derived.Test.YtoimjjhopljdmaaGreatP24
set_option maxRecDepth 100000
set_option maxHeartbeats 8000000
namespace Go.Proofs.YtoimjjhopljdmaaGreat
open Go.RowKit
open Go.Proofs.Tryz (prog)
open Go.Value (int)
open Go.IntKind (i64)
open Go.Lib (hid)
section
structure Stg (wz w : World) (b : Nat) (m lv : Value) (l : List Bun) (ov gv dv : Value) (dd : List Nid) : Prop where
 bel : Below wz.heap.size wz w
 st : StB w b m lv ov gv dv
 sl : Sl w 32 11 lv l.length (bunCells l)
 sd : Sl w 30 3 dv dd.length (cellsR nidL dd)
 bz : wz.heap.size ≤ b
 lz : ∀ g, lv.ownBlock = some g → wz.heap.size ≤ g
 dz : ∀ g, dv.ownBlock = some g → b < g
 lb : lv.ownBlock ≠ some b
 db : dv.ownBlock ≠ some b
 ld : ∀ g, lv.ownBlock = some g → dv.ownBlock ≠ some g
section
variable {wz w w' : World} {b : Nat} {m lv lv' ov gv dv dv' : Value} {l l' : List Bun} {dd dd' : List Nid}
theorem Stg.grow (h : Stg wz w b m lv l ov gv dv dd) (hb : Below w.heap.size w w') : Stg wz w' b m lv l ov gv dv dd :=
 ⟨h.bel.trans (hb.mono h.bel.size), h.st.keep (hb.block b h.st.lt), h.sl.keep fun g hg => hb.block g (sl_lt h.sl hg), h.sd.keep fun g hg => hb.block g (sl_lt h.sd hg), h.bz, h.lz, h.dz, h.lb, h.db, h.ld⟩
theorem Stg.of_ea (h : Stg wz w b m lv l ov gv dv dd) (he : Ea w w' b m lv' ov gv dv lv' l' dv' dd') : Stg wz w' b m lv' l' ov gv dv' dd' := by
 refine ⟨he.tu.below h.bel h.bz (fun g hg => by have := h.dz g hg; have := h.bz; omega), he.st, he.sl, he.sd, h.bz, fun g hg => Nat.le_trans h.bel.size (he.ol g hg), fun g hg => ?_, fun e => ?_, he.odb h.st.lt h.db, he.ld⟩
 · rcases he.od with e | ⟨g', e, hg'⟩
   · exact h.dz g (e ▸ hg)
   · rw [e] at hg; cases hg; have := h.st.lt; omega
 · have := he.ol b e; have := h.st.lt; omega
theorem Stg.ins (h : Stg wz w b m lv l ov gv dv dd) (hi : InsQ w w' lv lv' l') : Stg wz (w'.setCell ⟨b, 1, none⟩ lv') b m lv' l' ov gv dv dd := by
 obtain ⟨hs, ht, ho⟩ := hi
 have hlb' : lv'.ownBlock ≠ some b := fun e => by
  rcases ho with e1 | ⟨g, e1, hg⟩
  · exact h.lb (e1.symm.trans e)
  · rw [e1] at e; cases e; have := h.st.lt; omega
 have st1 : StB w' b m lv ov gv dv := h.st.keep (ht.block b h.st.lt fun e => h.lb e.symm)
 obtain ⟨q1, q2⟩ := StB.store (u := 1) (by omega) rfl lv' st1.c st1.f
 have hk : ∀ k, k ≠ b → (w'.setCell ⟨b, 1, none⟩ lv').heap[k]? = w'.heap[k]? := fun k hk => Below.heap_setCell _ _ _ _ (fun e => hk e)
 have hz := h.bel.size
 refine ⟨?_, ⟨q1, q2⟩, hs.keep fun g hg => hk g fun e => hlb' (e ▸ hg), h.sd.keep fun g hg => (hk g fun e => h.db (e ▸ hg)).trans (ht.block g (sl_lt h.sd hg) fun e => h.ld g e.symm hg), h.bz, fun g hg => ?_, h.dz, hlb', h.db, fun g hg => ?_⟩
 · have h1 := Turned.below_new ht (fun k e => h.lz k e) h.bel h.bel.size
   exact Turned.below_new (setCells_turned b [lv'] 1 w') (fun k e => by cases e; exact h.bz) h1 h1.size
 · rcases ho with e | ⟨g', e, hg'⟩
   · exact h.lz g (e ▸ hg)
   · rw [e] at hg; cases hg; omega
 · rcases ho with e | ⟨g', e, hg'⟩
   · exact h.ld g (e ▸ hg)
   · rw [e] at hg; cases hg
     intro e2; have := sl_lt h.sd e2; omega
end
theorem obey_st (wz : World) (b bm : Nat) (c : Cfg) (z : Int) (lv ov gv dv : Value) (l : List Bun) (dead : List Nid) (ck cs ci cg s' i' g' m' x' y' vx' vy' hp' pw' lf' mask : Int) (w : World) (h : Stg wz w b (.pointer (some ⟨bm, 0, none⟩)) lv l ov gv dv dead) (hm : MapAt wz bm c) (ho : CfgOk c) (hl : l.length ≤ 999) (hd : dead.length ≤ 1000000) :
 Calls prog 101 #[.pointer (some ⟨b, 0, none⟩), int i64 z, .agg #[int i64 ck, int i64 cs, int i64 ci, int i64 cg, int i64 s', int i64 i', int i64 g', int i64 m', int i64 x', int i64 y', int i64 vx', int i64 vy', int i64 hp', int i64 pw', int i64 lf', int i64 mask]] w fun e w' => e = .returned (.tuple #[]) ∧ ∃ lv' dv', Stg wz w' b (.pointer (some ⟨bm, 0, none⟩)) lv' (cmdL c z l (⟨ck, cs, ci, cg, ⟨s', i', g', m', x', y', vx', vy', hp', pw', lf'⟩, mask⟩ : Cm)) ov gv dv' (dead ++ cmdN l (⟨ck, cs, ci, cg, ⟨s', i', g', m', x', y', vx', vy', hp', pw', lf'⟩, mask⟩ : Cm)) := by
 obtain ⟨k5, g5, s5, b5⟩ := new_box w #[int i64 ck, int i64 cs, int i64 ci, int i64 cg, int i64 s', int i64 i', int i64 g', int i64 m', int i64 x', int i64 y', int i64 vx', int i64 vy', int i64 hp', int i64 pw', int i64 lf', int i64 mask] 34 w.heap.size rfl
 have h5 := hid (h.grow b5)
 have hb5 : b < w.heap.size := h.st.lt
 have hdn : dv.ownBlock ≠ some w.heap.size := fun e => by have := sl_lt h.sd e; omega
 by_cases hk : ck = 1
 · subst hk
   obtain ⟨pl, cl, rfl⟩ := sl_frm h.sl
   have hm5 := hm.grow ((h.bel.mono (Nat.le_refl _)))
   have hm5 := hm5.grow b5
   obtain ⟨w1, hw1⟩ : ∃ w1, w1 = w.alloc (.cells #[int i64 1, int i64 cs, int i64 ci, int i64 cg, int i64 s', int i64 i', int i64 g', int i64 m', int i64 x', int i64 y', int i64 vx', int i64 vy', int i64 hp', int i64 pw', int i64 lf', int i64 mask] 34) := ⟨_, rfl⟩
   rw [← hw1] at k5 g5 s5 b5 h5 hm5
   have s1 : w1.heap.size = w.heap.size + 1 := by rw [hw1]; simp
   have h51 := h5.out
   have HLN := hid (show (Value.slice pl l.length cl).ownBlock ≠ some w.heap.size from fun e => by have := sl_lt h.sl e; omega)
   have HOF := hid (fun W (hW : Below w1.heap.size w1 W) => zof_any W bm c x' y' (hm5.grow hW) ho)
   have HFI := hid (fun W (hW : Below w1.heap.size w1 W) => find_any (.slice pl l.length cl) l s' i' g' W (BIn.of_sl (h51.grow hW).sl) (by omega))
   have hsb : spawnB c z l (⟨1, cs, ci, cg, ⟨s', i', g', m', x', y', vx', vy', hp', pw', lf'⟩, mask⟩ : Cm) = (!(findB s' i' g' l 0).2 && decide (0 ≤ ofF c x' y') && (decide (z < 0) || decide (ofF c x' y' = z))) := rfl
   have e1 : cmdL c z l (⟨1, cs, ci, cg, ⟨s', i', g', m', x', y', vx', vy', hp', pw', lf'⟩, mask⟩ : Cm) = if spawnB c z l (⟨1, cs, ci, cg, ⟨s', i', g', m', x', y', vx', vy', hp', pw', lf'⟩, mask⟩ : Cm) = true then insF l (findB s' i' g' l 0).1.toNat ⟨s', i', g', m', x', y', vx', vy', hp', pw', lf'⟩ else l := by unfold cmdL; rw [if_pos rfl]
   have e2 : cmdN l (⟨1, cs, ci, cg, ⟨s', i', g', m', x', y', vx', vy', hp', pw', lf'⟩, mask⟩ : Cm) = [] := by unfold cmdN; rw [if_pos rfl]
   rw [e1, e2, hsb, List.append_nil]
   obtain ⟨qi, hqi, _, hq2⟩ := findB_rng s' i' g' l 0
   rw [hqi] at HFI ⊢
   rw [Int.toNat_natCast]
   generalize (findB s' i' g' l 0).2 = th at *
   generalize hof : ofF c x' y' = at' at *
   generalize hres : (if (!th && decide (0 ≤ at') && (decide (z < 0) || decide (at' = z))) = true then insF l qi ⟨s', i', g', m', x', y', vx', vy', hp', pw', lf'⟩ else l) = lr
   have HRES := hid hres
   have q0 := k5 0; simp at q0; have q1 := k5 1; simp at q1; have q2 := k5 2; simp at q2; have q3 := k5 3; simp at q3; have q4 := k5 4; simp at q4; have q5 := k5 5; simp at q5; have q6 := k5 6; simp at q6; have q7 := k5 7; simp at q7; have q8 := k5 8; simp at q8; have q9 := k5 9; simp at q9; have q10 := k5 10; simp at q10; have q11 := k5 11; simp at q11; have q12 := k5 12; simp at q12; have q13 := k5 13; simp at q13; have q14 := k5 14; simp at q14; have q15 := k5 15; simp at q15
   have x0 := h51.st.c 0; have x1 := h51.st.c 1; have f1 := h51.st.f 1
   simp at x0 x1
   have lb := h51.st.lt
   obtain ⟨u0, u1, u2⟩ := ltz s5
   obtain ⟨u3, u4, u5⟩ := ltz lb
   have hne : b ≠ w.heap.size := by omega
   have HNE := hid hne
   have HLE := hid (show qi ≤ l.length by omega)
   clear s1 hm5 hsb e1 e2 hqi hq2 hof hres k5 g5 b5 h hm ho h51 hdn
   go_enter Tryz.func101, Tryz.ntmps101
   go_upto_region 1 with fail
   rw [← hw1]
   clear hw1
   generalize w.heap.size = n5 at *
   go_wp2_with fail
   refine wpm ?_
   repeat (go_big_quiet_step ((first | (go_at_call 83; exact more_call (HOF.out _ bg)))))
   refine wpQuiet_nil ?_
   rintro _ ⟨pq1, rfl⟩
   go_wp2_with fail
   refine wpm ?_
   repeat (go_big_quiet_step ((first | (go_at_call 63; exact more_call (HFI.out _ bg)))))
   refine wpQuiet_nil ?_
   rintro _ ⟨pq2, rfl⟩
   clear HOF HFI
   cases th with
   | true =>
     simp only [Bool.not_true, Bool.false_and, Bool.false_eq_true, if_false] at HRES
     obtain rfl := HRES.out
     go_wp2_with fail
     go_end0
     exact ⟨rfl, _, _, h5.out.grow bg⟩
   | false =>
     by_cases ha : 0 ≤ at'
     · by_cases hz : z < 0 ∨ at' = z
       · have hins : (!false && decide (0 ≤ at') && (decide (z < 0) || decide (at' = z))) = true := by simpa [ha] using hz
         rw [hins, if_pos rfl] at HRES
         have HAW := hid hz
         have hb2 : Below w1.heap.size w1 (more (more w1 pq1.d pq1.os) pq2.d pq2.os) := bg
         have h6 := hid (h5.out.grow hb2)
         have p4 := (hb2.cell (p := ⟨n5, 4, none⟩) s5).trans q4; have p5 := (hb2.cell (p := ⟨n5, 5, none⟩) s5).trans q5; have p6 := (hb2.cell (p := ⟨n5, 6, none⟩) s5).trans q6; have p7 := (hb2.cell (p := ⟨n5, 7, none⟩) s5).trans q7; have p8 := (hb2.cell (p := ⟨n5, 8, none⟩) s5).trans q8; have p9 := (hb2.cell (p := ⟨n5, 9, none⟩) s5).trans q9; have p10 := (hb2.cell (p := ⟨n5, 10, none⟩) s5).trans q10; have p11 := (hb2.cell (p := ⟨n5, 11, none⟩) s5).trans q11; have p12 := (hb2.cell (p := ⟨n5, 12, none⟩) s5).trans q12; have p13 := (hb2.cell (p := ⟨n5, 13, none⟩) s5).trans q13; have p14 := (hb2.cell (p := ⟨n5, 14, none⟩) s5).trans q14
         have y1 := h6.out.st.c 1; have g1 := h6.out.st.f 1
         simp at y1
         have lb6 := h6.out.st.lt
         have ln6 := Nat.lt_of_lt_of_le s5 hb2.size
         have hx5 := hb2.block n5 s5
         generalize more (more w1 pq1.d pq1.os) pq2.d pq2.os = w6 at *
         clear hb2 q0 q1 q2 q3 q4 q5 q6 q7 q8 q9 q10 q11 q12 q13 q14 q15 x0 x1 f1 u0 u1 u2 u3 u4 u5 hx5
         rcases hz with hz | hz
         · go_upto_region 6 with fail
           refine wp_region_x (S := Two w6 b n5) 12 (by kernel_rfl) (Two.drew (Two.refl _ _ _)) (fun hHeld => ?_)
           refine anyX_tk 0 (v := ?_) rfl ?_ (by assumption) ?_
           rotate_left 1
           · (intro w hSw; have hSc := hSw.cb; have hSn := hSw.cn; go_simp; (try with_reducible rfl))
           simp [Act.put]
           refine anyX_tk 1 (v := ?_) rfl ?_ (by assumption) ?_
           rotate_left 1
           · (intro w hSw; have hSc := hSw.cb; have hSn := hSw.cn; go_simp; (try with_reducible rfl))
           simp [Act.put]
           refine anyX_tk 2 (v := ?_) rfl ?_ (by assumption) ?_
           rotate_left 1
           · (intro w hSw; have hSc := hSw.cb; have hSn := hSw.cn; go_simp; (try with_reducible rfl))
           simp [Act.put]
           refine anyX_tk 3 (v := ?_) rfl ?_ (by assumption) ?_
           rotate_left 1
           · (intro w hSw; have hSc := hSw.cb; have hSn := hSw.cn; go_simp; (try with_reducible rfl))
           simp [Act.put]
           refine anyX_tk 4 (v := ?_) rfl ?_ (by assumption) ?_
           rotate_left 1
           · (intro w hSw; have hSc := hSw.cb; have hSn := hSw.cn; go_simp; (try with_reducible rfl))
           simp [Act.put]
           refine anyX_tk 5 (v := ?_) rfl ?_ (by assumption) ?_
           rotate_left 1
           · (intro w hSw; have hSc := hSw.cb; have hSn := hSw.cn; go_simp; (try with_reducible rfl))
           simp [Act.put]
           refine anyX_tk 6 (v := ?_) rfl ?_ (by assumption) ?_
           rotate_left 1
           · (intro w hSw; have hSc := hSw.cb; have hSn := hSw.cn; go_simp; (try with_reducible rfl))
           simp [Act.put]
           refine anyX_tk 7 (v := ?_) rfl ?_ (by assumption) ?_
           rotate_left 1
           · (intro w hSw; have hSc := hSw.cb; have hSn := hSw.cn; go_simp; (try with_reducible rfl))
           simp [Act.put]
           refine anyX_r1 8 fun K hK => ?_
           go_simp
           refine hK.out _ _ (fun hlt => ?_) (fun hHeld => ?_)
           · with_reducible (repeat (first | assumption | exact Two.refl _ _ _ | refine Two.alloc (by assumption) (by assumption) _ ?_ | refine Two.drew ?_))
           clear hK
           replace hHeld := hHeld (by omega); try simp [Act.put]
           refine anyX_r1 9 fun K hK => ?_
           (go_simp; go_at_call 141; refine (insert_any (.slice pl l.length cl) l qi ⟨s', i', g', m', x', y', vx', vy', hp', pw', lf'⟩ _ 1 32 _ ?_ (by omega) HLE.out ?_ ?_).mono ?_; exact (h6.out.grow bg).sl; exact heap_alloc_new_at _ _ _ rfl; (intro g hg e; have h7 := sl_lt h6.out.sl hg; subst e; exact absurd h7 (Nat.lt_irrefl _)); rintro e w' ⟨v', rfl, hI⟩; obtain ⟨p4, c4, rfl⟩ := sl_frm hI.1)
           refine hK.out _ _ (fun hlt => ?_) (fun hHeld => ?_)
           · exact Two.tur lb6 ln6 (fun e => h6.out.lb e.symm) (fun e => HLN.out e.symm) (by with_reducible (repeat (first | assumption | exact Two.refl _ _ _ | refine Two.alloc (by assumption) (by assumption) _ ?_ | refine Two.drew ?_))) hI.2.1
           clear hK
           replace hHeld := hHeld (by omega); try simp [Act.put]
           refine anyX_tk 10 (v := ?_) rfl ?_ (by assumption) ?_
           rotate_left 1
           · (intro w hSw; have hSc := hSw.cb; have hSn := hSw.cn; go_simp; (try with_reducible rfl))
           simp [Act.put]
           refine anyX_tk 11 (v := ?_) rfl ?_ (by assumption) ?_
           rotate_left 1
           · (intro w hSw; have hSc := hSw.cb; have hSn := hSw.cn; go_simp; (try with_reducible rfl))
           simp [Act.put]
           have hq4 := (hHeld.cb 1).trans y1
           have hf4 := (hHeld.fb 1).trans g1
           refine anyX_r1 12 fun K hK => ?_
           go_simp
           refine hK.out _ _ (fun hlt => ?_) (fun hHeld => ?_)
           · exact absurd hlt (by omega)
           clear hK
           clear hHeld; try simp [Act.put]
           refine anyX_done (by kernel_rfl) ?_ _
           go_wp2_with fail
           go_end0
           exact ⟨rfl, _, _, (by rw [← HRES.out]; exact (h6.out.grow bg).ins hI)⟩
         · go_upto_region 6 with fail
           refine wp_region_x (S := Two w6 b n5) 12 (by kernel_rfl) (Two.drew (Two.refl _ _ _)) (fun hHeld => ?_)
           refine anyX_tk 0 (v := ?_) rfl ?_ (by assumption) ?_
           rotate_left 1
           · (intro w hSw; have hSc := hSw.cb; have hSn := hSw.cn; go_simp; (try with_reducible rfl))
           simp [Act.put]
           refine anyX_tk 1 (v := ?_) rfl ?_ (by assumption) ?_
           rotate_left 1
           · (intro w hSw; have hSc := hSw.cb; have hSn := hSw.cn; go_simp; (try with_reducible rfl))
           simp [Act.put]
           refine anyX_tk 2 (v := ?_) rfl ?_ (by assumption) ?_
           rotate_left 1
           · (intro w hSw; have hSc := hSw.cb; have hSn := hSw.cn; go_simp; (try with_reducible rfl))
           simp [Act.put]
           refine anyX_tk 3 (v := ?_) rfl ?_ (by assumption) ?_
           rotate_left 1
           · (intro w hSw; have hSc := hSw.cb; have hSn := hSw.cn; go_simp; (try with_reducible rfl))
           simp [Act.put]
           refine anyX_tk 4 (v := ?_) rfl ?_ (by assumption) ?_
           rotate_left 1
           · (intro w hSw; have hSc := hSw.cb; have hSn := hSw.cn; go_simp; (try with_reducible rfl))
           simp [Act.put]
           refine anyX_tk 5 (v := ?_) rfl ?_ (by assumption) ?_
           rotate_left 1
           · (intro w hSw; have hSc := hSw.cb; have hSn := hSw.cn; go_simp; (try with_reducible rfl))
           simp [Act.put]
           refine anyX_tk 6 (v := ?_) rfl ?_ (by assumption) ?_
           rotate_left 1
           · (intro w hSw; have hSc := hSw.cb; have hSn := hSw.cn; go_simp; (try with_reducible rfl))
           simp [Act.put]
           refine anyX_tk 7 (v := ?_) rfl ?_ (by assumption) ?_
           rotate_left 1
           · (intro w hSw; have hSc := hSw.cb; have hSn := hSw.cn; go_simp; (try with_reducible rfl))
           simp [Act.put]
           refine anyX_r1 8 fun K hK => ?_
           go_simp
           refine hK.out _ _ (fun hlt => ?_) (fun hHeld => ?_)
           · with_reducible (repeat (first | assumption | exact Two.refl _ _ _ | refine Two.alloc (by assumption) (by assumption) _ ?_ | refine Two.drew ?_))
           clear hK
           replace hHeld := hHeld (by omega); try simp [Act.put]
           refine anyX_r1 9 fun K hK => ?_
           (go_simp; go_at_call 141; refine (insert_any (.slice pl l.length cl) l qi ⟨s', i', g', m', x', y', vx', vy', hp', pw', lf'⟩ _ 1 32 _ ?_ (by omega) HLE.out ?_ ?_).mono ?_; exact (h6.out.grow bg).sl; exact heap_alloc_new_at _ _ _ rfl; (intro g hg e; have h7 := sl_lt h6.out.sl hg; subst e; exact absurd h7 (Nat.lt_irrefl _)); rintro e w' ⟨v', rfl, hI⟩; obtain ⟨p4, c4, rfl⟩ := sl_frm hI.1)
           refine hK.out _ _ (fun hlt => ?_) (fun hHeld => ?_)
           · exact Two.tur lb6 ln6 (fun e => h6.out.lb e.symm) (fun e => HLN.out e.symm) (by with_reducible (repeat (first | assumption | exact Two.refl _ _ _ | refine Two.alloc (by assumption) (by assumption) _ ?_ | refine Two.drew ?_))) hI.2.1
           clear hK
           replace hHeld := hHeld (by omega); try simp [Act.put]
           refine anyX_tk 10 (v := ?_) rfl ?_ (by assumption) ?_
           rotate_left 1
           · (intro w hSw; have hSc := hSw.cb; have hSn := hSw.cn; go_simp; (try with_reducible rfl))
           simp [Act.put]
           refine anyX_tk 11 (v := ?_) rfl ?_ (by assumption) ?_
           rotate_left 1
           · (intro w hSw; have hSc := hSw.cb; have hSn := hSw.cn; go_simp; (try with_reducible rfl))
           simp [Act.put]
           have hq4 := (hHeld.cb 1).trans y1
           have hf4 := (hHeld.fb 1).trans g1
           refine anyX_r1 12 fun K hK => ?_
           go_simp
           refine hK.out _ _ (fun hlt => ?_) (fun hHeld => ?_)
           · exact absurd hlt (by omega)
           clear hK
           clear hHeld; try simp [Act.put]
           refine anyX_done (by kernel_rfl) ?_ _
           go_wp2_with fail
           go_end0
           exact ⟨rfl, _, _, (by rw [← HRES.out]; exact (h6.out.grow bg).ins hI)⟩
       · have hins : (!false && decide (0 ≤ at') && (decide (z < 0) || decide (at' = z))) = false := by
          rw [Bool.eq_false_iff]; intro hh; simp at hh; exact hz hh.2
         rw [hins] at HRES
         simp only [Bool.false_eq_true, if_false] at HRES
         obtain rfl := HRES.out
         obtain ⟨hz1, hz2⟩ : ¬ z < 0 ∧ ¬ at' = z := ⟨fun h => hz (.inl h), fun h => hz (.inr h)⟩
         have hz3 : (at' == z) = false := by simpa using hz2
         clear hz
         go_wp2_with fail
         go_end0
         exact ⟨rfl, _, _, h5.out.grow bg⟩
     · simp only [decide_eq_false ha, Bool.and_false, Bool.false_and, Bool.false_eq_true, if_false] at HRES
       obtain rfl := HRES.out
       go_wp2_with fail
       go_end0
       exact ⟨rfl, _, _, h5.out.grow bg⟩
 · have hc : ∀ W', Tu2 (w.alloc (.cells #[int i64 ck, int i64 cs, int i64 ci, int i64 cg, int i64 s', int i64 i', int i64 g', int i64 m', int i64 x', int i64 y', int i64 vx', int i64 vy', int i64 hp', int i64 pw', int i64 lf', int i64 mask] 34)) W' b dv.ownBlock → ∀ x ∈ l, Calls prog 139 (#[.agg #[int i64 (x).s, int i64 (x).i, int i64 (x).g, int i64 (x).m, int i64 (x).x, int i64 (x).y, int i64 (x).vx, int i64 (x).vy, int i64 (x).hp, int i64 (x).pw, int i64 (x).lf]] ++ #[.pointer (some ⟨w.heap.size, 0, none⟩)]) W' fun e w' => e = .returned (.tuple #[.agg #[int i64 ((obeyF x (⟨ck, cs, ci, cg, ⟨s', i', g', m', x', y', vx', vy', hp', pw', lf'⟩, mask⟩ : Cm)).1).s, int i64 ((obeyF x (⟨ck, cs, ci, cg, ⟨s', i', g', m', x', y', vx', vy', hp', pw', lf'⟩, mask⟩ : Cm)).1).i, int i64 ((obeyF x (⟨ck, cs, ci, cg, ⟨s', i', g', m', x', y', vx', vy', hp', pw', lf'⟩, mask⟩ : Cm)).1).g, int i64 ((obeyF x (⟨ck, cs, ci, cg, ⟨s', i', g', m', x', y', vx', vy', hp', pw', lf'⟩, mask⟩ : Cm)).1).m, int i64 ((obeyF x (⟨ck, cs, ci, cg, ⟨s', i', g', m', x', y', vx', vy', hp', pw', lf'⟩, mask⟩ : Cm)).1).x, int i64 ((obeyF x (⟨ck, cs, ci, cg, ⟨s', i', g', m', x', y', vx', vy', hp', pw', lf'⟩, mask⟩ : Cm)).1).y, int i64 ((obeyF x (⟨ck, cs, ci, cg, ⟨s', i', g', m', x', y', vx', vy', hp', pw', lf'⟩, mask⟩ : Cm)).1).vx, int i64 ((obeyF x (⟨ck, cs, ci, cg, ⟨s', i', g', m', x', y', vx', vy', hp', pw', lf'⟩, mask⟩ : Cm)).1).vy, int i64 ((obeyF x (⟨ck, cs, ci, cg, ⟨s', i', g', m', x', y', vx', vy', hp', pw', lf'⟩, mask⟩ : Cm)).1).hp, int i64 ((obeyF x (⟨ck, cs, ci, cg, ⟨s', i', g', m', x', y', vx', vy', hp', pw', lf'⟩, mask⟩ : Cm)).1).pw, int i64 ((obeyF x (⟨ck, cs, ci, cg, ⟨s', i', g', m', x', y', vx', vy', hp', pw', lf'⟩, mask⟩ : Cm)).1).lf], .bool (obeyF x (⟨ck, cs, ci, cg, ⟨s', i', g', m', x', y', vx', vy', hp', pw', lf'⟩, mask⟩ : Cm)).2]) ∧ Below W'.heap.size W' w' := fun W' hW x _ =>
    obey1_any (x).s (x).i (x).g (x).m (x).x (x).y (x).vx (x).vy (x).hp (x).pw (x).lf ck cs ci cg s' i' g' m' x' y' vx' vy' hp' pw' lf' mask w.heap.size W' fun j => (World.cell?_of_block (w := w.alloc (.cells #[int i64 ck, int i64 cs, int i64 ci, int i64 cg, int i64 s', int i64 i', int i64 g', int i64 m', int i64 x', int i64 y', int i64 vx', int i64 vy', int i64 hp', int i64 pw', int i64 lf', int i64 mask] 34)) (a := ⟨w.heap.size, j, none⟩) (hW.block w.heap.size s5 (by omega) (fun e => hdn e.symm))).trans (k5 j)
   have HE := hid (each_any 139 #[.pointer (some ⟨w.heap.size, 0, none⟩)] eg_obey1 (fun x => obeyF x (⟨ck, cs, ci, cg, ⟨s', i', g', m', x', y', vx', vy', hp', pw', lf'⟩, mask⟩ : Cm)) b (.pointer (some ⟨bm, 0, none⟩)) lv ov gv dv l dead _ h5.out.st h5.out.sl h5.out.lb h5.out.sd h5.out.db h5.out.ld (by omega) hd hc)
   have e1 : cmdL c z l (⟨ck, cs, ci, cg, ⟨s', i', g', m', x', y', vx', vy', hp', pw', lf'⟩, mask⟩ : Cm) = eachL (fun x => obeyF x (⟨ck, cs, ci, cg, ⟨s', i', g', m', x', y', vx', vy', hp', pw', lf'⟩, mask⟩ : Cm)) l := by unfold cmdL; rw [if_neg hk]
   have e2 : cmdN l (⟨ck, cs, ci, cg, ⟨s', i', g', m', x', y', vx', vy', hp', pw', lf'⟩, mask⟩ : Cm) = eachD (fun x => obeyF x (⟨ck, cs, ci, cg, ⟨s', i', g', m', x', y', vx', vy', hp', pw', lf'⟩, mask⟩ : Cm)) l := by unfold cmdN; rw [if_neg hk]
   rw [e1, e2]
   have hkk : (ck != 1) = true := by simpa using hk
   have q0 := k5 0
   simp at q0
   clear hc e1 e2
   go_enter Tryz.func101, Tryz.ntmps101
   go_upto_region 1 with fail
   generalize hw1 : World.alloc w _ = w1 at *
   generalize w.heap.size = n5 at *
   obtain ⟨u0, u1, u2⟩ := ltz s5
   go_wp2_with fail
   refine HE.out.mono ?_
   rintro e w' ⟨rfl, lv', dv', hE⟩
   go_wp2_with fail
   refine bodyPost_ret (v := .tuple #[]) (by simp [results, Tryz.results101, go_sem]) rfl ?_
   exact ⟨rfl, lv', dv', h5.out.of_ea hE⟩
end
section
theorem compF_snoc (l : List Nid) (x : Nid) : compF (l ++ [x]) = compS (compF l) x := by unfold compF; rw [List.foldl_append]; rfl
theorem compS_last (o : List Nid) (x : Nid) : (compS o x).getLast? = some x := by
 unfold compS
 split
 · assumption
 · simp
theorem compF_last {l : List Nid} {j : Nat} {x : Nid} (h : l[j]? = some x) : (compF (l.take (j + 1))).getLast? = some x := by
 have hlt := (List.getElem?_eq_some_iff.1 h).1
 rw [List.take_succ_eq_append_getElem hlt, (List.getElem?_eq_some_iff.1 h).2, compF_snoc]
 exact compS_last _ _
theorem compF_next {l : List Nid} {j : Nat} {x y : Nid} (h0 : 0 < j) (hx : l[j - 1]? = some x) (hy : l[j]? = some y) : compF (l.take (j + 1)) = if x = y then compF (l.take j) else compF (l.take j) ++ [y] := by
 have hlt := (List.getElem?_eq_some_iff.1 hy).1
 have hl := compF_last hx
 rw [show j - 1 + 1 = j by omega] at hl
 rw [List.take_succ_eq_append_getElem hlt, (List.getElem?_eq_some_iff.1 hy).2, compF_snoc]
 unfold compS
 rw [hl]
 by_cases e : x = y
 · rw [if_pos (by rw [e]), if_pos e]
 · rw [if_neg (fun h => e (Option.some.inj h)), if_neg e]
def CompRow (zs r : List Nid) (i j : Nat) : Prop := r.length = zs.length ∧ i < j ∧ j ≤ zs.length ∧ r.take i = compF (zs.take j) ∧ i = (compF (zs.take j)).length ∧ ∀ m, i ≤ m → r[m]? = zs[m]?
theorem CompRow.begin {zs : List Nid} {k : Nat} {x : Nid} (h0 : 0 < k) (hx : zs[k - 1]? = some x) (hy : zs[k]? = some x) (ha : compF (zs.take k) = zs.take k) : CompRow zs zs k (k + 1) := by
 have hlt := (List.getElem?_eq_some_iff.1 hy).1
 have e : compF (zs.take (k + 1)) = zs.take k := by rw [compF_next h0 hx hy, if_pos rfl, ha]
 exact ⟨rfl, by omega, by omega, e.symm, by rw [e, List.length_take]; omega, fun _ _ => rfl⟩
theorem CompRow.skip {zs r : List Nid} {i j : Nat} {x : Nid} (h : CompRow zs r i j) (hx : zs[j - 1]? = some x) (hy : zs[j]? = some x) : CompRow zs r i (j + 1) := by
 obtain ⟨h1, h2, h3, h4, h5, h6⟩ := h
 have hlt := (List.getElem?_eq_some_iff.1 hy).1
 have e : compF (zs.take (j + 1)) = compF (zs.take j) := by rw [compF_next (by omega) hx hy, if_pos rfl]
 exact ⟨h1, by omega, by omega, by rw [e]; exact h4, by rw [e]; exact h5, h6⟩
theorem CompRow.put {zs r : List Nid} {i j : Nat} {x y : Nid} (h : CompRow zs r i j) (hx : zs[j - 1]? = some x) (hy : zs[j]? = some y) (hne : x ≠ y) : CompRow zs (r.set i y) (i + 1) (j + 1) := by
 obtain ⟨h1, h2, h3, h4, h5, h6⟩ := h
 have hlt := (List.getElem?_eq_some_iff.1 hy).1
 have e : compF (zs.take (j + 1)) = compF (zs.take j) ++ [y] := by rw [compF_next (by omega) hx hy, if_neg hne]
 refine ⟨by simpa using h1, by omega, by omega, ?_, by rw [e, List.length_append, ← h5]; rfl, fun m hm => ?_⟩
 · rw [e, ← h4]
   have hi : i < (r.set i y).length := by simp; omega
   rw [List.take_succ_eq_append_getElem hi, List.take_set, List.set_eq_of_length_le (by rw [List.length_take]; omega)]
   simp
 · rw [List.getElem?_set_ne (by omega)]
   exact h6 m (by omega)
theorem set3 (a b c : Value) (y : Nid) (hy : nidL y = [a, b, c]) : ∀ (r : List Nid) (i : Nat), i < r.length → ((((cellsR nidL r).set (i * 3) a).set (i * 3 + 1) b).set (i * 3 + 2) c) = cellsR nidL (r.set i y)
 | x :: r, 0, _ => by
   simp only [cellsR, List.flatMap_cons, List.set_cons_zero, Nat.zero_mul, Nat.zero_add, hy]
   simp [nidL]
 | x :: r, i + 1, h => by
   have ih := set3 a b c y hy r i (by simpa using h)
   simp only [cellsR, List.flatMap_cons, List.set_cons_succ] at ih ⊢
   rw [← ih, show (i + 1) * 3 = i * 3 + 3 by omega]
   simp [nidL]
theorem Sl.cutSetK {w : World} {e : TypeId} {size g off cap n i o : Nat} {xs ys vs : List Value} (h : Sl w e size (.slice (some ⟨g, off, none⟩) n cap) n xs) (hi : i ≤ n) (ho : o = off + i * size) (hy : ys = xs.take (i * size)) (hv : vs.length = (n - i) * size) :
 Sl (w.setCells g o vs) e size (.slice (some ⟨g, off, none⟩) i cap) i ys := by
 subst ho
 obtain ⟨hl, ⟨h0, _⟩ | ⟨g', off', cap', cur, hv', hb, hn, hc, hsz, hr⟩⟩ := h
 · cases h0
 simp only [Value.slice.injEq, Option.some.injEq, Addr.mk.injEq, and_true, true_and] at hv'
 obtain ⟨⟨rfl, rfl⟩, rfl⟩ := hv'
 have e1 : n * size ≤ cap * size := Nat.mul_le_mul_right _ hn
 have e2 : i * size ≤ n * size := Nat.mul_le_mul_right _ hi
 have e3 : (n - i) * size = n * size - i * size := Nat.sub_mul _ _ _
 obtain ⟨cur', q1, q2, q3, _, _⟩ := setCells_heap g e (0, 0) vs (off + i * size) w cur hb (by omega)
 subst hy
 refine ⟨by simp; omega, .inr ⟨g, off, cap, cur', rfl, q1, by omega, hc, by omega, fun j u hj => ?_⟩⟩
 rw [List.getElem?_take] at hj
 split at hj
 · rename_i hji
   rw [q3 _ (by omega)]
   exact hr j u hj
 · cases hj
theorem cellsR_take (r : List Nid) (i : Nat) : cellsR nidL (r.take i) = (cellsR nidL r).take (i * 3) := by
 induction r generalizing i with
 | nil => simp [cellsR]
 | cons x r ih =>
   cases i with
   | zero => simp [cellsR]
   | succ i =>
     have := ih i
     simp only [cellsR, List.take_succ_cons, List.flatMap_cons] at this ⊢
     rw [this, show (i + 1) * 3 = (nidL x).length + i * 3 by rw [nidL_len]; omega, List.take_length_add_append]
theorem nid_ne {a b : Nid} (h : a ≠ b) : idEq a.s a.i a.g b.s b.i b.g = false := by
 obtain ⟨s, i, g⟩ := a
 obtain ⟨s', i', g'⟩ := b
 cases hh : idEq s i g s' i' g' with
 | false => rfl
 | true =>
   simp [idEq] at hh
   obtain ⟨⟨rfl, rfl⟩, rfl⟩ := hh
   exact absurd rfl h
theorem run_clear_K {P : Program} (w : World) (t e ty : TypeId) (z : Value) (ht : P.underlying t = some (.slice e)) (hv : ∀ w, (zeroValue e).run P w = .ok z w) (h1 : ∀ j : Nat, Value.oneCell' (z.cells[j]!) = true) (b o n c : Nat) (hn : 0 < n)
 (hc : ∀ j, j < n * z.cells.size → (w.cell? ⟨b, o + j, none⟩).isSome = true) (hf : ∀ j, j < n * z.cells.size → w.frozen? ⟨b, o + j, none⟩ = false) :
 (Builtin.clear_ #[t] ty #[.slice (some ⟨b, o, none⟩) n c]).run P w = .ok (.tuple #[]) (w.setCells b o (Builtin.zeroCells z.cells n).toList) := by
 have hl : (Builtin.zeroCells z.cells n).toList.length = n * z.cells.size := by simp [size_zeroCells]
 have hst := Go.run_storeCells_cells (P := P) b o (Builtin.zeroCells z.cells n).toList 0 w (fun j hj => by rw [hl] at hj; simpa using hc j hj) (fun j hj => by rw [hl] at hj; exact hf j hj) (by
  intro v hv'
  simp only [Builtin.zeroCells, Array.toList_map, List.mem_map] at hv'
  obtain ⟨i, _, rfl⟩ := hv'
  exact h1 _)
 simp only [Nat.add_zero] at hst
 obtain ⟨m, rfl⟩ : ∃ m, n = m + 1 := ⟨n - 1, by omega⟩
 simp [Builtin.clear_, run_underlying ht, hv, hst]
theorem zero_one (j : Nat) : Value.oneCell' (((Value.agg #[int i64 0, int i64 0, int i64 0]).cells)[j]!) = true := by
 rcases j with _ | _ | _ | j <;> simp [Value.cells] <;> rfl
def stN (a : Addr) (v : Value) : Sem Unit := storeVar 30 a v
theorem storeVar_stN (a : Addr) (v : Value) : storeVar 30 a v = stN a v := rfl
theorem stN_of {W W' : World} {a : Addr} {cs : List Value} (hl : cs.length = 3) (h : Sem.run prog (storeCells a cs 0) W = .ok () W') : (stN a (.agg cs.toArray)).run prog W = .ok () W' := by
 simp [stN, storeVar, Value.cells, hl, h]
attribute [local go_sem ↓] storeVar_stN
theorem sl_store3 {w : World} {e : TypeId} {g off cap n i : Nat} {r : List Nid} (h : Sl w e 3 (.slice (some ⟨g, off, none⟩) n cap) n (cellsR nidL r)) (hr : r.length = n) (hi : i < n) (y : Nid) :
 (stN ⟨g, off + i * 3, none⟩ (.agg #[int i64 y.s, int i64 y.i, int i64 y.g])).run prog w = .ok () (w.setCells g (off + i * 3) (nidL y)) ∧
 Sl (w.setCells g (off + i * 3) (nidL y)) e 3 (.slice (some ⟨g, off, none⟩) n cap) n (cellsR nidL (r.set i y)) ∧ Turned w (w.setCells g (off + i * 3) (nidL y)) (some g) := by
 obtain ⟨a1, a2, a3, a4⟩ := sl_store1 h (t := i * 3) (by omega) (int i64 y.s)
 obtain ⟨b1, b2, b3, b4⟩ := sl_store1 a3 (t := i * 3 + 1) (by omega) (int i64 y.i)
 obtain ⟨c1, c2, c3, c4⟩ := sl_store1 b3 (t := i * 3 + 2) (by omega) (int i64 y.g)
 rw [← Nat.add_assoc] at b3 b4 c3 c4
 rw [← Nat.add_assoc off (i * 3) 2] at c3 c4
 rw [set3 _ _ _ y rfl r i (by omega)] at c3
 refine ⟨?_, c3, a4.then (b4.then c4)⟩
 have hst := Go.run_storeCells_cells (P := prog) g (off + i * 3) (nidL y) 0 w (fun j hj => ?_) (fun j hj => ?_) (nidL_one y)
 · exact stN_of (cs := nidL y) rfl (by simpa using hst)
 · obtain ⟨⟨u, hu⟩, _⟩ := sl_store1 h (t := i * 3 + j) (by rw [nidL_len] at hj; omega) (int i64 0)
   rw [Nat.add_zero, Nat.add_assoc, hu]; rfl
 · rw [Nat.add_zero, Nat.add_assoc]
   exact (sl_store1 h (t := i * 3 + j) (by rw [nidL_len] at hj; omega) (int i64 0)).2.1
theorem comp_any (v : Value) (zs : List Nid) (w : World) (hs : Sl w 30 3 v zs.length (cellsR nidL zs)) (hl : zs.length ≤ 1000000) :
 Calls prog 107 #[v] w fun e w' => ∃ v', e = .returned v' ∧ Sl w' 30 3 v' (compF zs).length (cellsR nidL (compF zs)) ∧ Turned w w' v.ownBlock ∧ v'.ownBlock = v.ownBlock := by
 have HS := hid hs
 by_cases h2 : zs.length < 2
 · have e : compF zs = zs := by
    rcases zs with _ | ⟨x, _ | ⟨y, zs⟩⟩
    · rfl
    · simp [compF, compS]
    · exfalso; simp only [List.length_cons] at h2; omega
   rw [e]
   obtain ⟨p, c, rfl⟩ := sl_frm hs
   have h2' : (zs.length : Int) < 2 := by omega
   clear hs
   go_enter Tryz.func107, Tryz.ntmps107
   go_wp2_with fail
   go_ret
   exact ⟨_, rfl, HS.out, Turned.of_bel bg, rfl⟩
 · obtain ⟨g0, off, cap, rfl, lg, hnc⟩ : ∃ g0 off cap, v = .slice (some ⟨g0, off, none⟩) zs.length cap ∧ g0 < w.heap.size ∧ zs.length ≤ cap := by
    obtain ⟨_, ⟨rfl, h0⟩ | ⟨g, off, cap, cur, rfl, hb, hn, _⟩⟩ := hs
    · omega
    · exact ⟨g, off, cap, rfl, (Array.getElem?_eq_some_iff.1 hb).1, hn⟩
   have hm : cap ≤ maxLen := by
    obtain ⟨_, ⟨h0, _⟩ | ⟨g', off', cap', cur, hv, hb, hn, hc, _⟩⟩ := hs
    · cases h0
    · simp only [Value.slice.injEq] at hv; omega
   unfold maxLen at hm
   have h2' : ¬ (zs.length : Int) < 2 := by omega
   clear hs
   go_enter Tryz.func107, Tryz.ntmps107
   go_wp2_with fail
   go_loopg [3] zs.length (fun kx si wr => ∃ k : Nat, si = int i64 k ∧ 1 ≤ k ∧ k ≤ zs.length ∧ zs.length - k ≤ kx ∧ Hid (compF (zs.take k) = zs.take k) ∧ Hid (Below w.heap.size w wr))
   case atStart =>
    refine ⟨1, by go_num, by omega, by omega, by omega, hid ?_, hid bg⟩
    rcases zs with _ | ⟨x, zs⟩
    · rfl
    · simp [compF, compS]
   case round =>
    obtain ⟨k, rfl, hk1, hk, hkx, HC, HB⟩ := hrel
    obtain ⟨wa, rfl⟩ : ∃ wa : World, wa = wr := ⟨_, rfl⟩
    have hsa := HS.out.keep (w' := wa) fun g hg => HB.out.block g (sl_lt HS.out hg)
    have HSA := hid hsa
    have lga : g0 < wa.heap.size := Nat.lt_of_lt_of_le lg HB.out.size
    by_cases hlt : k < zs.length
    · have t1 : (k : Int) < (zs.length : Int) := by omega
      obtain ⟨x, hx⟩ : ∃ x, zs[k]? = some x := ⟨_, List.getElem?_eq_getElem hlt⟩
      obtain ⟨y, hy⟩ : ∃ y, zs[k - 1]? = some y := ⟨_, List.getElem?_eq_getElem (by omega)⟩
      have hri : RIn nidL wa (.slice (some ⟨g0, off, none⟩) zs.length cap) zs := RIn.of_sl hsa
      obtain ⟨g1, o1, c1, hv1, lg1, q1⟩ := hri.cells nidL_len hx
      simp only [Value.slice.injEq, Option.some.injEq, Addr.mk.injEq, and_true, true_and] at hv1
      obtain ⟨⟨rfl, rfl⟩, rfl⟩ := hv1
      obtain ⟨g1, o1, c1, hv1, lg1', q2⟩ := hri.cells nidL_len hy
      simp only [Value.slice.injEq, Option.some.injEq, Addr.mk.injEq, and_true, true_and] at hv1
      obtain ⟨⟨rfl, rfl⟩, rfl⟩ := hv1
      have u0 := q1 0 _ rfl; have y0 := q2 0 _ rfl; have u1 := q1 1 _ rfl; have y1 := q2 1 _ rfl; have u2 := q1 2 _ rfl; have y2 := q2 2 _ rfl
      simp only [Nat.add_zero] at u0 y0
      obtain ⟨f0, f1, f2⟩ := ltz lga
      have HX := hid hx; have HY := hid hy
      clear q1 q2 hri hx hy hsa
      by_cases hxy : y = x
      · subst hxy
        have hz : idEq y.s y.i y.g y.s y.i y.g = true := by simp [idEq]
        have HR := hid (CompRow.begin (by omega) HY.out HX.out HC.out)
        obtain ⟨s, i, g⟩ := y
        simp only at hz u0 u1 u2 y0 y1 y2
        have hck : ¬ (cap = k) := by omega
        have hkl : (k : Int) ≤ (zs.length : Int) := by omega
        go_wp2_with fail
        refine wpm ?_
        repeat (go_big_quiet_step (fail))
        refine wpQuiet_nil ?_
        rintro _ ⟨pq1, rfl⟩
        clear u0 u1 u2 y0 y1 y2
        go_wp2_with fail
        go_loopg [3, 5] zs.length (fun kx si sj wr => ∃ (i2 k2 : Nat) (r : List Nid), si = int i64 i2 ∧ sj = int i64 k2 ∧ 1 ≤ k2 ∧ k + k2 ≤ zs.length ∧ zs.length - (k + k2) ≤ kx ∧ Hid (CompRow zs r i2 (k + k2)) ∧ Hid (Sl wr 30 3 (.slice (some ⟨g0, off, none⟩) zs.length cap) zs.length (cellsR nidL r)) ∧ Hid (Turned w wr (some g0)))
        case atStart => exact ⟨k, 1, zs, by go_num, by go_num, by omega, by omega, by omega, HR, hid (HSA.out.grow bg), hid (Turned.of_bel (HB.out.trans (Below.mono (B := wa.heap.size) bg HB.out.size)))⟩
        case round =>
         obtain ⟨i2, k2, r, rfl, rfl, h21, h22, hkx2, HRR, HSR, HT⟩ := hrel
         obtain ⟨wb, rfl⟩ : ∃ wb : World, wb = wr := ⟨_, rfl⟩
         have hrl := HRR.out.1
         have hij := HRR.out.2.1
         have lgb : g0 < wb.heap.size := sl_lt HSR.out rfl
         by_cases hlt2 : k + k2 < zs.length
         · have t2 : (k2 : Int) < ((zs.length - k : Nat) : Int) := by omega
           obtain ⟨y, hy⟩ : ∃ y, zs[k + k2]? = some y := ⟨_, List.getElem?_eq_getElem hlt2⟩
           obtain ⟨x, hx⟩ : ∃ x, zs[k + k2 - 1]? = some x := ⟨_, List.getElem?_eq_getElem (by omega)⟩
           have hri : RIn nidL wb (.slice (some ⟨g0, off, none⟩) r.length cap) r := RIn.of_sl (by rw [hrl]; exact HSR.out)
           obtain ⟨g1, o1, c1, hv1, lg1, q1⟩ := hri.cells nidL_len ((HRR.out.2.2.2.2.2 (k + k2) (by omega)).trans hy)
           simp only [Value.slice.injEq, Option.some.injEq, Addr.mk.injEq, and_true, true_and] at hv1
           obtain ⟨⟨rfl, rfl⟩, rfl⟩ := hv1
           obtain ⟨g1, o1, c1, hv1, lg1', q2⟩ := hri.cells nidL_len ((HRR.out.2.2.2.2.2 (k + k2 - 1) (by omega)).trans hx)
           simp only [Value.slice.injEq, Option.some.injEq, Addr.mk.injEq, and_true, true_and] at hv1
           obtain ⟨⟨rfl, rfl⟩, rfl⟩ := hv1
           have u0 := q1 0 _ rfl; have y0 := q2 0 _ rfl; have u1 := q1 1 _ rfl; have y1 := q2 1 _ rfl; have u2 := q1 2 _ rfl; have y2 := q2 2 _ rfl
           rw [show off + (k + k2) * 3 = off + k * 3 + k2 * 3 by omega] at u0 u1 u2
           rw [show off + (k + k2 - 1) * 3 = off + k * 3 + (k2 - 1) * 3 by omega] at y0 y1 y2
           simp only [Nat.add_zero] at u0 y0
           have HST := hid (fun W (hW : Below wb.heap.size wb W) => sl_store3 (HSR.out.grow hW) hrl (by omega : i2 < zs.length) y)
           have HX := hid hx; have HY := hid hy
           have hi2 : (i2 : Int) < (zs.length : Int) := by omega
           obtain ⟨f0, f1, f2⟩ := ltz lgb
           clear q1 q2 hri hx hy
           by_cases hxy : x = y
           · subst hxy
             have hz : idEq x.s x.i x.g x.s x.i x.g = true := by simp [idEq]
             have HR2 := hid (HRR.out.skip HX.out HY.out)
             obtain ⟨s', i', g'⟩ := x
             simp only at hz u0 u1 u2 y0 y1 y2
             clear HST
             go_wp2_with fail
             refine wpm ?_
             repeat (go_big_quiet_step (fail))
             refine wpQuiet_nil ?_
             rintro _ ⟨pq2, rfl⟩
             go_wp2_with fail
             go_roundg (zs.length - (k + (k2 + 1)))
             case measure => omega
             case rel => exact ⟨i2, k2 + 1, r, by go_num, by go_num, by omega, by omega, by omega, HR2, hid (HSR.out.grow bg), hid (HT.out.then (Turned.of_bel bg))⟩
           · have hz : idEq y.s y.i y.g x.s x.i x.g = false := nid_ne (fun e => hxy e.symm)
             have HR2 := hid (HRR.out.put HX.out HY.out hxy)
             obtain ⟨s, i, g⟩ := y
             obtain ⟨s', i', g'⟩ := x
             simp only at hz u0 u1 u2 y0 y1 y2 HST
             go_wp2_with fail
             refine wpm ?_
             repeat (go_big_quiet_step (fail))
             refine wpQuiet_nil ?_
             rintro _ ⟨pq2, rfl⟩
             go_upto_region 12 with fail
             have hbw : Below wb.heap.size wb (more wb pq2.d pq2.os) := more_below _ _ _
             obtain ⟨hst, hsl, htu⟩ := HST.out _ hbw
             have v0 := hbw.cell (p := ⟨g0, off + k * 3 + k2 * 3, none⟩) lgb
             have v1 := hbw.cell (p := ⟨g0, off + k * 3 + k2 * 3 + 1, none⟩) lgb
             have v2 := hbw.cell (p := ⟨g0, off + k * 3 + k2 * 3 + 2, none⟩) lgb
             rw [u0] at v0
             rw [u1] at v1
             rw [u2] at v2
             have HSL := hid hsl; have HTU := hid htu; have HBW := hid hbw
             clear hsl htu hbw u0 u1 u2 y0 y1 y2 HST
             generalize more wb pq2.d pq2.os = wc at *
             go_wp2_with fail
             go_roundg (zs.length - (k + (k2 + 1)))
             case measure => omega
             case rel => exact ⟨i2 + 1, k2 + 1, r.set i2 ⟨s, i, g⟩, by go_num, by go_num, by omega, by omega, by omega, HR2, HSL, hid ((HT.out.then (Turned.of_bel HBW.out)).then HTU.out)⟩
         · have t2 : ¬ (k2 : Int) < ((zs.length - k : Nat) : Int) := by omega
           have hjj : k + k2 = zs.length := by omega
           have hfin : r.take i2 = compF zs := by have := HRR.out.2.2.2.1; rwa [hjj, List.take_length] at this
           have hfl : (compF zs).length = i2 := by have := HRR.out.2.2.2.2.1; rw [hjj, List.take_length] at this; exact this.symm
           have hcl : ∀ ty, (Builtin.clear_ #[56] ty #[.slice (some ⟨g0, off + i2 * 3, none⟩) (zs.length - i2) (cap - i2)]).run prog wb = .ok (.tuple #[]) (wb.setCells g0 (off + i2 * 3) (Builtin.zeroCells (Value.agg #[int i64 0, int i64 0, int i64 0]).cells (zs.length - i2)).toList) := fun ty => by
            refine run_clear_K wb 56 30 ty _ (by kernel_rfl) (fun _ => by kernel_rfl) zero_one g0 (off + i2 * 3) _ _ (by omega) (fun j hj => ?_) (fun j hj => ?_)
            all_goals replace hj : j < (zs.length - i2) * 3 := hj
            · obtain ⟨⟨u, hu⟩, _⟩ := sl_store1 HSR.out (t := i2 * 3 + j) (by omega) (int i64 0)
              rw [Nat.add_assoc, hu]; rfl
            · rw [Nat.add_assoc]
              exact (sl_store1 HSR.out (t := i2 * 3 + j) (by omega) (int i64 0)).2.1
           have HFN := hid hfin
           have HFL := hid hfl
           clear hfin hfl hjj
           have hci : ¬ (cap = i2) := by omega
           have hil : (i2 : Int) ≤ (zs.length : Int) := by omega
           have hic : (i2 : Int) ≤ (cap : Int) := by omega
           go_wp2_with fail
           go_ret
           rw [HFL.out]
           refine ⟨_, rfl, HSR.out.cutSetK (by omega) rfl ?_ (by rw [Array.length_toList, size_zeroCells]; rfl), HT.out.then (setCells_turned _ _ _ _), rfl⟩
           rw [← HFN.out, cellsR_take]
      · have hz : idEq x.s x.i x.g y.s y.i y.g = false := nid_ne (fun e => hxy e.symm)
        have hc2 : compF (zs.take (k + 1)) = zs.take (k + 1) := by
         have hxl := (List.getElem?_eq_some_iff.1 HX.out)
         rw [compF_next (by omega) HY.out HX.out, if_neg hxy, HC.out, List.take_succ_eq_append_getElem hxl.1, hxl.2]
        have HC2 := hid hc2
        clear hc2
        obtain ⟨s, i, g⟩ := x
        obtain ⟨s', i', g'⟩ := y
        simp only at hz u0 u1 u2 y0 y1 y2
        go_wp2_with fail
        refine wpm ?_
        repeat (go_big_quiet_step (fail))
        refine wpQuiet_nil ?_
        rintro _ ⟨pq1, rfl⟩
        go_wp2_with fail
        go_roundg (zs.length - (k + 1))
        case measure => omega
        case rel => exact ⟨k + 1, by go_num, by omega, by omega, by omega, HC2, hid (HB.out.trans (Below.mono (B := wa.heap.size) bg HB.out.size))⟩
    · have t1 : ¬ (k : Int) < (zs.length : Int) := by omega
      obtain rfl : k = zs.length := by omega
      have hc := HC.out
      rw [List.take_length] at hc
      go_wp2_with fail
      go_ret
      exact ⟨_, rfl, HSA.out, Turned.of_bel HB.out, rfl⟩
end
end Go.Proofs.YtoimjjhopljdmaaGreat
