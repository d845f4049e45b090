/-
  Chapter texts TkO: what the claim reaches of them. Conditions stand at each theorem.
-/
import Derived.Test.YtoimjjhopljdmaaGreatY41
import Derived.Test.YtoimjjhopljdmaaGreatY18
import Derived.Test.YtoimjjhopljdmaaGreatY19
import Derived.Test.YtoimjjhopljdmaaGreatY12
import Derived.Test.YtoimjjhopljdmaaGreatY14
namespace Go.Proofs.YtoimjjhopljdmaaGreat
open Go.RowKit

structure Stg (wz w : World) (b : Nat) (m lv : Value) (l : List Bun) (ov gv dv : Value) (dd : List Nid) : Prop where
  bel : Below wz.heap.size wz w
  st : StB w b m lv ov gv dv
  sl : Sl w 32 11 lv l.length (bunCells l)
  sd : Sl w 30 3 dv dd.length (cellsR nidL dd)
  bz : wz.heap.size ≤ b
  lz : ∀ g, lv.ownBlock = some g → wz.heap.size ≤ g
  dz : ∀ g, dv.ownBlock = some g → b < g
  lb : lv.ownBlock ≠ some b
  db : dv.ownBlock ≠ some b
  ld : ∀ g, lv.ownBlock = some g → dv.ownBlock ≠ some g
section
variable {wz w w' : World} {b : Nat} {m lv lv' ov gv dv dv' : Value} {l l' : List Bun} {dd dd' : List Nid}
theorem Stg.grow (h : Stg wz w b m lv l ov gv dv dd) (hb : Below w.heap.size w w') : Stg wz w' b m lv l ov gv dv dd :=
  ⟨h.bel.trans (hb.mono h.bel.size), h.st.keep (hb.block b h.st.lt), h.sl.keep fun g hg => hb.block g (sl_lt h.sl hg), h.sd.keep fun g hg => hb.block g (sl_lt h.sd hg), h.bz, h.lz, h.dz, h.lb, h.db, h.ld⟩
theorem Stg.of_ea (h : Stg wz w b m lv l ov gv dv dd) (he : Ea w w' b m lv' ov gv dv lv' l' dv' dd') : Stg wz w' b m lv' l' ov gv dv' dd' := by
  refine ⟨he.tu.below h.bel h.bz (fun g hg => by have := h.dz g hg; have := h.bz; omega), he.st, he.sl, he.sd, h.bz, fun g hg => Nat.le_trans h.bel.size (he.ol g hg), fun g hg => ?_, fun e => ?_, he.odb h.st.lt h.db, he.ld⟩
  · rcases he.od with e | ⟨g', e, hg'⟩
    · exact h.dz g (e ▸ hg)
    · rw [e] at hg; cases hg; have := h.st.lt; omega
  · have := he.ol b e; have := h.st.lt; omega
theorem Stg.ins (h : Stg wz w b m lv l ov gv dv dd) (hi : InsQ w w' lv lv' l') : Stg wz (w'.setCell ⟨b, 1, none⟩ lv') b m lv' l' ov gv dv dd := by
  obtain ⟨hs, ht, ho⟩ := hi
  have hlb' : lv'.ownBlock ≠ some b := fun e => by
    rcases ho with e1 | ⟨g, e1, hg⟩
    · exact h.lb (e1.symm.trans e)
    · rw [e1] at e; cases e; have := h.st.lt; omega
  have st1 : StB w' b m lv ov gv dv := h.st.keep (ht.block b h.st.lt fun e => h.lb e.symm)
  obtain ⟨q1, q2⟩ := StB.store (u := 1) (by omega) rfl lv' st1.c st1.f
  have hk : ∀ k, k ≠ b → (w'.setCell ⟨b, 1, none⟩ lv').heap[k]? = w'.heap[k]? := fun k hk => Below.heap_setCell _ _ _ _ (fun e => hk e)
  have hz := h.bel.size
  refine ⟨?_, ⟨q1, q2⟩, hs.keep fun g hg => hk g fun e => hlb' (e ▸ hg), h.sd.keep fun g hg => (hk g fun e => h.db (e ▸ hg)).trans (ht.block g (sl_lt h.sd hg) fun e => h.ld g e.symm hg), h.bz, fun g hg => ?_, h.dz, hlb', h.db, fun g hg => ?_⟩
  · have h1 := Turned.below_new ht (fun k e => h.lz k e) h.bel h.bel.size
    exact Turned.below_new (setCells_turned b [lv'] 1 w') (fun k e => by cases e; exact h.bz) h1 h1.size
  · rcases ho with e | ⟨g', e, hg'⟩
    · exact h.lz g (e ▸ hg)
    · rw [e] at hg; cases hg; omega
  · rcases ho with e | ⟨g', e, hg'⟩
    · exact h.ld g (e ▸ hg)
    · rw [e] at hg; cases hg
      intro e2; have := sl_lt h.sd e2; omega
end


set_option maxRecDepth 100000 in
set_option maxHeartbeats 4000000 in
theorem obey_st (wz : World) (b bm : Nat) (c : Cfg) (z : Int) (lv ov gv dv : Value) (l : List Bun) (dead : List Nid) (ck cs ci cg s' i' g' m' x' y' vx' vy' hp' pw' lf' mask : Int) (w : World) (h : Stg wz w b (.pointer (some ⟨bm, 0, none⟩)) lv l ov gv dv dead) (hm : MapAt wz bm c) (ho : CfgOk c) (hl : l.length ≤ 999) (hd : dead.length ≤ 1000000) :
    Calls Tryz.prog 101 #[.pointer (some ⟨b, 0, none⟩), .int .i64 z, .agg #[.int .i64 ck, .int .i64 cs, .int .i64 ci, .int .i64 cg, .int .i64 s', .int .i64 i', .int .i64 g', .int .i64 m', .int .i64 x', .int .i64 y', .int .i64 vx', .int .i64 vy', .int .i64 hp', .int .i64 pw', .int .i64 lf', .int .i64 mask]] w fun e w' => e = .returned (.tuple #[]) ∧ ∃ lv' dv', Stg wz w' b (.pointer (some ⟨bm, 0, none⟩)) lv' (cmdL c z l (⟨ck, cs, ci, cg, ⟨s', i', g', m', x', y', vx', vy', hp', pw', lf'⟩, mask⟩ : Cm)) ov gv dv' (dead ++ cmdN l (⟨ck, cs, ci, cg, ⟨s', i', g', m', x', y', vx', vy', hp', pw', lf'⟩, mask⟩ : Cm)) := by
  obtain ⟨k5, g5, s5, b5⟩ := new_box w #[.int .i64 ck, .int .i64 cs, .int .i64 ci, .int .i64 cg, .int .i64 s', .int .i64 i', .int .i64 g', .int .i64 m', .int .i64 x', .int .i64 y', .int .i64 vx', .int .i64 vy', .int .i64 hp', .int .i64 pw', .int .i64 lf', .int .i64 mask] 34 w.heap.size rfl
  have h5 := Lib.hid (h.grow b5)
  have hb5 : b < w.heap.size := h.st.lt
  have hdn : dv.ownBlock ≠ some w.heap.size := fun e => by have := sl_lt h.sd e; omega
  by_cases hk : ck = 1
  · subst hk
    obtain ⟨pl, cl, rfl⟩ := sl_frm h.sl
    have hm5 := hm.grow ((h.bel.mono (Nat.le_refl _)))
    have hm5 := hm5.grow b5
    obtain ⟨w1, hw1⟩ : ∃ w1, w1 = w.alloc (.cells #[.int .i64 1, .int .i64 cs, .int .i64 ci, .int .i64 cg, .int .i64 s', .int .i64 i', .int .i64 g', .int .i64 m', .int .i64 x', .int .i64 y', .int .i64 vx', .int .i64 vy', .int .i64 hp', .int .i64 pw', .int .i64 lf', .int .i64 mask] 34) := ⟨_, rfl⟩
    rw [← hw1] at k5 g5 s5 b5 h5 hm5
    have s1 : w1.heap.size = w.heap.size + 1 := by rw [hw1]; simp
    have h51 := h5.out
    have HLN := Lib.hid (show (Value.slice pl l.length cl).ownBlock ≠ some w.heap.size from fun e => by have := sl_lt h.sl e; omega)
    have HOF := Lib.hid (fun W (hW : Below w1.heap.size w1 W) => zof_any W bm c x' y' (hm5.grow hW) ho)
    have HFI := Lib.hid (fun W (hW : Below w1.heap.size w1 W) => find_any (.slice pl l.length cl) l s' i' g' W (BIn.of_sl (h51.grow hW).sl) (by omega))
    have hsb : spawnB c z l (⟨1, cs, ci, cg, ⟨s', i', g', m', x', y', vx', vy', hp', pw', lf'⟩, mask⟩ : Cm) = (!(findB s' i' g' l 0).2 && decide (0 ≤ ofF c x' y') && (decide (z < 0) || decide (ofF c x' y' = z))) := rfl
    have e1 : cmdL c z l (⟨1, cs, ci, cg, ⟨s', i', g', m', x', y', vx', vy', hp', pw', lf'⟩, mask⟩ : Cm) = if spawnB c z l (⟨1, cs, ci, cg, ⟨s', i', g', m', x', y', vx', vy', hp', pw', lf'⟩, mask⟩ : Cm) = true then insF l (findB s' i' g' l 0).1.toNat ⟨s', i', g', m', x', y', vx', vy', hp', pw', lf'⟩ else l := by unfold cmdL; rw [if_pos rfl]
    have e2 : cmdN l (⟨1, cs, ci, cg, ⟨s', i', g', m', x', y', vx', vy', hp', pw', lf'⟩, mask⟩ : Cm) = [] := by unfold cmdN; rw [if_pos rfl]
    rw [e1, e2, hsb, List.append_nil]
    obtain ⟨qi, hqi, _, hq2⟩ := findB_rng s' i' g' l 0
    rw [hqi] at HFI ⊢
    rw [Int.toNat_natCast]
    generalize (findB s' i' g' l 0).2 = th at *
    generalize hof : ofF c x' y' = at' at *
    generalize hres : (if (!th && decide (0 ≤ at') && (decide (z < 0) || decide (at' = z))) = true then insF l qi ⟨s', i', g', m', x', y', vx', vy', hp', pw', lf'⟩ else l) = lr
    have HRES := Lib.hid hres
    have q0 := k5 0; simp at q0; have q1 := k5 1; simp at q1; have q2 := k5 2; simp at q2; have q3 := k5 3; simp at q3; have q4 := k5 4; simp at q4; have q5 := k5 5; simp at q5; have q6 := k5 6; simp at q6; have q7 := k5 7; simp at q7; have q8 := k5 8; simp at q8; have q9 := k5 9; simp at q9; have q10 := k5 10; simp at q10; have q11 := k5 11; simp at q11; have q12 := k5 12; simp at q12; have q13 := k5 13; simp at q13; have q14 := k5 14; simp at q14; have q15 := k5 15; simp at q15
    have x0 := h51.st.c 0; have x1 := h51.st.c 1; have f1 := h51.st.f 1
    simp at x0 x1
    have lb := h51.st.lt
    obtain ⟨u0, u1, u2⟩ := ltz s5
    obtain ⟨u3, u4, u5⟩ := ltz lb
    have hne : b ≠ w.heap.size := by omega
    have HNE := Lib.hid hne
    have HLE := Lib.hid (show qi ≤ l.length by omega)
    clear s1 hm5 hsb e1 e2 hqi hq2 hof hres k5 g5 b5 h hm ho h51 hdn
    go_enter Tryz.func101, Tryz.ntmps101
    go_upto_region 1 with fail
    rw [← hw1]
    clear hw1
    generalize w.heap.size = n5 at *
    go_wp2_with fail
    refine wp_region_more (by kernel_rfl) (by kernel_rfl) ?_
    repeat (go_big_quiet_step ((first | (go_at_call 83; exact more_call (HOF.out _ bg)))))
    refine wpQuiet_nil ?_
    rintro _ ⟨pq1, rfl⟩
    go_wp2_with fail
    refine wp_region_more (by kernel_rfl) (by kernel_rfl) ?_
    repeat (go_big_quiet_step ((first | (go_at_call 63; exact more_call (HFI.out _ bg)))))
    refine wpQuiet_nil ?_
    rintro _ ⟨pq2, rfl⟩
    clear HOF HFI
    cases th with
    | true =>
      simp only [Bool.not_true, Bool.false_and, Bool.false_eq_true, if_false] at HRES
      obtain rfl := HRES.out
      go_wp2_with fail
      go_end0
      exact ⟨rfl, _, _, h5.out.grow bg⟩
    | false =>
      by_cases ha : 0 ≤ at'
      · by_cases hz : z < 0 ∨ at' = z
        · have hins : (!false && decide (0 ≤ at') && (decide (z < 0) || decide (at' = z))) = true := by simpa [ha] using hz
          rw [hins, if_pos rfl] at HRES
          have HAW := Lib.hid hz
          have hb2 : Below w1.heap.size w1 (more (more w1 pq1.d pq1.os) pq2.d pq2.os) := bg
          have h6 := Lib.hid (h5.out.grow hb2)
          have p4 := (hb2.cell (p := ⟨n5, 4, none⟩) s5).trans q4; have p5 := (hb2.cell (p := ⟨n5, 5, none⟩) s5).trans q5; have p6 := (hb2.cell (p := ⟨n5, 6, none⟩) s5).trans q6; have p7 := (hb2.cell (p := ⟨n5, 7, none⟩) s5).trans q7; have p8 := (hb2.cell (p := ⟨n5, 8, none⟩) s5).trans q8; have p9 := (hb2.cell (p := ⟨n5, 9, none⟩) s5).trans q9; have p10 := (hb2.cell (p := ⟨n5, 10, none⟩) s5).trans q10; have p11 := (hb2.cell (p := ⟨n5, 11, none⟩) s5).trans q11; have p12 := (hb2.cell (p := ⟨n5, 12, none⟩) s5).trans q12; have p13 := (hb2.cell (p := ⟨n5, 13, none⟩) s5).trans q13; have p14 := (hb2.cell (p := ⟨n5, 14, none⟩) s5).trans q14
          have y1 := h6.out.st.c 1; have g1 := h6.out.st.f 1
          simp at y1
          have lb6 := h6.out.st.lt
          have ln6 := Nat.lt_of_lt_of_le s5 hb2.size
          have hx5 := hb2.block n5 s5
          generalize more (more w1 pq1.d pq1.os) pq2.d pq2.os = w6 at *
          clear hb2 q0 q1 q2 q3 q4 q5 q6 q7 q8 q9 q10 q11 q12 q13 q14 q15 x0 x1 f1 u0 u1 u2 u3 u4 u5 hx5
          rcases hz with hz | hz
          · go_upto_region 6 with fail
            refine wp_region_x (S := Two w6 b n5) 12 (by kernel_rfl) (Two.drew (Two.refl _ _ _)) (fun hHeld => ?_)
            refine anyX_take (n := 12) (i := 0) (v := ?_) rfl (by kernel_rfl) (fun _ _ _ h => h) (Or.inl ⟨by rfl, ?_⟩) (by assumption) ?_
            rotate_left 1
            · (intro w hSw; have hSc := hSw.cb; have hSn := hSw.cn; go_simp; (try with_reducible rfl))
            simp [Act.put]
            refine anyX_take (n := 12) (i := 1) (v := ?_) rfl (by kernel_rfl) (fun _ _ _ h => h) (Or.inl ⟨by rfl, ?_⟩) (by assumption) ?_
            rotate_left 1
            · (intro w hSw; have hSc := hSw.cb; have hSn := hSw.cn; go_simp; (try with_reducible rfl))
            simp [Act.put]
            refine anyX_take (n := 12) (i := 2) (v := ?_) rfl (by kernel_rfl) (fun _ _ _ h => h) (Or.inl ⟨by rfl, ?_⟩) (by assumption) ?_
            rotate_left 1
            · (intro w hSw; have hSc := hSw.cb; have hSn := hSw.cn; go_simp; (try with_reducible rfl))
            simp [Act.put]
            refine anyX_take (n := 12) (i := 3) (v := ?_) rfl (by kernel_rfl) (fun _ _ _ h => h) (Or.inl ⟨by rfl, ?_⟩) (by assumption) ?_
            rotate_left 1
            · (intro w hSw; have hSc := hSw.cb; have hSn := hSw.cn; go_simp; (try with_reducible rfl))
            simp [Act.put]
            refine anyX_take (n := 12) (i := 4) (v := ?_) rfl (by kernel_rfl) (fun _ _ _ h => h) (Or.inl ⟨by rfl, ?_⟩) (by assumption) ?_
            rotate_left 1
            · (intro w hSw; have hSc := hSw.cb; have hSn := hSw.cn; go_simp; (try with_reducible rfl))
            simp [Act.put]
            refine anyX_take (n := 12) (i := 5) (v := ?_) rfl (by kernel_rfl) (fun _ _ _ h => h) (Or.inl ⟨by rfl, ?_⟩) (by assumption) ?_
            rotate_left 1
            · (intro w hSw; have hSc := hSw.cb; have hSn := hSw.cn; go_simp; (try with_reducible rfl))
            simp [Act.put]
            refine anyX_take (n := 12) (i := 6) (v := ?_) rfl (by kernel_rfl) (fun _ _ _ h => h) (Or.inl ⟨by rfl, ?_⟩) (by assumption) ?_
            rotate_left 1
            · (intro w hSw; have hSc := hSw.cb; have hSn := hSw.cn; go_simp; (try with_reducible rfl))
            simp [Act.put]
            refine anyX_take (n := 12) (i := 7) (v := ?_) rfl (by kernel_rfl) (fun _ _ _ h => h) (Or.inl ⟨by rfl, ?_⟩) (by assumption) ?_
            rotate_left 1
            · (intro w hSw; have hSc := hSw.cb; have hSn := hSw.cn; go_simp; (try with_reducible rfl))
            simp [Act.put]
            refine anyX_ready (rs := [8]) (by kernel_rfl) (by simp) (ReadyX.cons rfl (fun K hK => ?_) ReadyX.nil)
            go_simp
            refine hK.out _ _ (fun hlt => ?_) (fun hHeld => ?_)
            · with_reducible (repeat (first | assumption | exact Two.refl _ _ _ | refine Two.alloc (by assumption) (by assumption) _ ?_ | refine Two.drew ?_))
            clear hK
            replace hHeld := hHeld (by omega); try simp [Act.put]
            refine anyX_ready (rs := [9]) (by kernel_rfl) (by simp) (ReadyX.cons rfl (fun K hK => ?_) ReadyX.nil)
            (go_simp; go_at_call 141; refine (insert_any (.slice pl l.length cl) l qi ⟨s', i', g', m', x', y', vx', vy', hp', pw', lf'⟩ _ 1 32 _ ?_ (by omega) HLE.out ?_ ?_).mono ?_; exact (h6.out.grow bg).sl; exact heap_alloc_new_at _ _ _ rfl; (intro g hg e; have h7 := sl_lt h6.out.sl hg; subst e; exact absurd h7 (Nat.lt_irrefl _)); rintro e w' ⟨v', rfl, hI⟩; obtain ⟨p4, c4, rfl⟩ := sl_frm hI.1)
            refine hK.out _ _ (fun hlt => ?_) (fun hHeld => ?_)
            · exact Two.tur lb6 ln6 (fun e => h6.out.lb e.symm) (fun e => HLN.out e.symm) (by with_reducible (repeat (first | assumption | exact Two.refl _ _ _ | refine Two.alloc (by assumption) (by assumption) _ ?_ | refine Two.drew ?_))) hI.2.1
            clear hK
            replace hHeld := hHeld (by omega); try simp [Act.put]
            refine anyX_take (n := 12) (i := 10) (v := ?_) rfl (by kernel_rfl) (fun _ _ _ h => h) (Or.inl ⟨by rfl, ?_⟩) (by assumption) ?_
            rotate_left 1
            · (intro w hSw; have hSc := hSw.cb; have hSn := hSw.cn; go_simp; (try with_reducible rfl))
            simp [Act.put]
            refine anyX_take (n := 12) (i := 11) (v := ?_) rfl (by kernel_rfl) (fun _ _ _ h => h) (Or.inl ⟨by rfl, ?_⟩) (by assumption) ?_
            rotate_left 1
            · (intro w hSw; have hSc := hSw.cb; have hSn := hSw.cn; go_simp; (try with_reducible rfl))
            simp [Act.put]
            have hq4 := (hHeld.cb 1).trans y1
            have hf4 := (hHeld.fb 1).trans g1
            refine anyX_ready (rs := [12]) (by kernel_rfl) (by simp) (ReadyX.cons rfl (fun K hK => ?_) ReadyX.nil)
            go_simp
            refine hK.out _ _ (fun hlt => ?_) (fun hHeld => ?_)
            · exact absurd hlt (by omega)
            clear hK
            clear hHeld; try simp [Act.put]
            refine anyX_done (by kernel_rfl) ?_ _
            go_wp2_with fail
            go_end0
            exact ⟨rfl, _, _, (by rw [← HRES.out]; exact (h6.out.grow bg).ins hI)⟩
          · go_upto_region 6 with fail
            refine wp_region_x (S := Two w6 b n5) 12 (by kernel_rfl) (Two.drew (Two.refl _ _ _)) (fun hHeld => ?_)
            refine anyX_take (n := 12) (i := 0) (v := ?_) rfl (by kernel_rfl) (fun _ _ _ h => h) (Or.inl ⟨by rfl, ?_⟩) (by assumption) ?_
            rotate_left 1
            · (intro w hSw; have hSc := hSw.cb; have hSn := hSw.cn; go_simp; (try with_reducible rfl))
            simp [Act.put]
            refine anyX_take (n := 12) (i := 1) (v := ?_) rfl (by kernel_rfl) (fun _ _ _ h => h) (Or.inl ⟨by rfl, ?_⟩) (by assumption) ?_
            rotate_left 1
            · (intro w hSw; have hSc := hSw.cb; have hSn := hSw.cn; go_simp; (try with_reducible rfl))
            simp [Act.put]
            refine anyX_take (n := 12) (i := 2) (v := ?_) rfl (by kernel_rfl) (fun _ _ _ h => h) (Or.inl ⟨by rfl, ?_⟩) (by assumption) ?_
            rotate_left 1
            · (intro w hSw; have hSc := hSw.cb; have hSn := hSw.cn; go_simp; (try with_reducible rfl))
            simp [Act.put]
            refine anyX_take (n := 12) (i := 3) (v := ?_) rfl (by kernel_rfl) (fun _ _ _ h => h) (Or.inl ⟨by rfl, ?_⟩) (by assumption) ?_
            rotate_left 1
            · (intro w hSw; have hSc := hSw.cb; have hSn := hSw.cn; go_simp; (try with_reducible rfl))
            simp [Act.put]
            refine anyX_take (n := 12) (i := 4) (v := ?_) rfl (by kernel_rfl) (fun _ _ _ h => h) (Or.inl ⟨by rfl, ?_⟩) (by assumption) ?_
            rotate_left 1
            · (intro w hSw; have hSc := hSw.cb; have hSn := hSw.cn; go_simp; (try with_reducible rfl))
            simp [Act.put]
            refine anyX_take (n := 12) (i := 5) (v := ?_) rfl (by kernel_rfl) (fun _ _ _ h => h) (Or.inl ⟨by rfl, ?_⟩) (by assumption) ?_
            rotate_left 1
            · (intro w hSw; have hSc := hSw.cb; have hSn := hSw.cn; go_simp; (try with_reducible rfl))
            simp [Act.put]
            refine anyX_take (n := 12) (i := 6) (v := ?_) rfl (by kernel_rfl) (fun _ _ _ h => h) (Or.inl ⟨by rfl, ?_⟩) (by assumption) ?_
            rotate_left 1
            · (intro w hSw; have hSc := hSw.cb; have hSn := hSw.cn; go_simp; (try with_reducible rfl))
            simp [Act.put]
            refine anyX_take (n := 12) (i := 7) (v := ?_) rfl (by kernel_rfl) (fun _ _ _ h => h) (Or.inl ⟨by rfl, ?_⟩) (by assumption) ?_
            rotate_left 1
            · (intro w hSw; have hSc := hSw.cb; have hSn := hSw.cn; go_simp; (try with_reducible rfl))
            simp [Act.put]
            refine anyX_ready (rs := [8]) (by kernel_rfl) (by simp) (ReadyX.cons rfl (fun K hK => ?_) ReadyX.nil)
            go_simp
            refine hK.out _ _ (fun hlt => ?_) (fun hHeld => ?_)
            · with_reducible (repeat (first | assumption | exact Two.refl _ _ _ | refine Two.alloc (by assumption) (by assumption) _ ?_ | refine Two.drew ?_))
            clear hK
            replace hHeld := hHeld (by omega); try simp [Act.put]
            refine anyX_ready (rs := [9]) (by kernel_rfl) (by simp) (ReadyX.cons rfl (fun K hK => ?_) ReadyX.nil)
            (go_simp; go_at_call 141; refine (insert_any (.slice pl l.length cl) l qi ⟨s', i', g', m', x', y', vx', vy', hp', pw', lf'⟩ _ 1 32 _ ?_ (by omega) HLE.out ?_ ?_).mono ?_; exact (h6.out.grow bg).sl; exact heap_alloc_new_at _ _ _ rfl; (intro g hg e; have h7 := sl_lt h6.out.sl hg; subst e; exact absurd h7 (Nat.lt_irrefl _)); rintro e w' ⟨v', rfl, hI⟩; obtain ⟨p4, c4, rfl⟩ := sl_frm hI.1)
            refine hK.out _ _ (fun hlt => ?_) (fun hHeld => ?_)
            · exact Two.tur lb6 ln6 (fun e => h6.out.lb e.symm) (fun e => HLN.out e.symm) (by with_reducible (repeat (first | assumption | exact Two.refl _ _ _ | refine Two.alloc (by assumption) (by assumption) _ ?_ | refine Two.drew ?_))) hI.2.1
            clear hK
            replace hHeld := hHeld (by omega); try simp [Act.put]
            refine anyX_take (n := 12) (i := 10) (v := ?_) rfl (by kernel_rfl) (fun _ _ _ h => h) (Or.inl ⟨by rfl, ?_⟩) (by assumption) ?_
            rotate_left 1
            · (intro w hSw; have hSc := hSw.cb; have hSn := hSw.cn; go_simp; (try with_reducible rfl))
            simp [Act.put]
            refine anyX_take (n := 12) (i := 11) (v := ?_) rfl (by kernel_rfl) (fun _ _ _ h => h) (Or.inl ⟨by rfl, ?_⟩) (by assumption) ?_
            rotate_left 1
            · (intro w hSw; have hSc := hSw.cb; have hSn := hSw.cn; go_simp; (try with_reducible rfl))
            simp [Act.put]
            have hq4 := (hHeld.cb 1).trans y1
            have hf4 := (hHeld.fb 1).trans g1
            refine anyX_ready (rs := [12]) (by kernel_rfl) (by simp) (ReadyX.cons rfl (fun K hK => ?_) ReadyX.nil)
            go_simp
            refine hK.out _ _ (fun hlt => ?_) (fun hHeld => ?_)
            · exact absurd hlt (by omega)
            clear hK
            clear hHeld; try simp [Act.put]
            refine anyX_done (by kernel_rfl) ?_ _
            go_wp2_with fail
            go_end0
            exact ⟨rfl, _, _, (by rw [← HRES.out]; exact (h6.out.grow bg).ins hI)⟩
        · have hins : (!false && decide (0 ≤ at') && (decide (z < 0) || decide (at' = z))) = false := by
            rw [Bool.eq_false_iff]; intro hh; simp at hh; exact hz hh.2
          rw [hins] at HRES
          simp only [Bool.false_eq_true, if_false] at HRES
          obtain rfl := HRES.out
          obtain ⟨hz1, hz2⟩ : ¬ z < 0 ∧ ¬ at' = z := ⟨fun h => hz (.inl h), fun h => hz (.inr h)⟩
          have hz3 : (at' == z) = false := by simpa using hz2
          clear hz
          go_wp2_with fail
          go_end0
          exact ⟨rfl, _, _, h5.out.grow bg⟩
      · simp only [decide_eq_false ha, Bool.and_false, Bool.false_and, Bool.false_eq_true, if_false] at HRES
        obtain rfl := HRES.out
        go_wp2_with fail
        go_end0
        exact ⟨rfl, _, _, h5.out.grow bg⟩
  · have hc : ∀ W', Tu2 (w.alloc (.cells #[.int .i64 ck, .int .i64 cs, .int .i64 ci, .int .i64 cg, .int .i64 s', .int .i64 i', .int .i64 g', .int .i64 m', .int .i64 x', .int .i64 y', .int .i64 vx', .int .i64 vy', .int .i64 hp', .int .i64 pw', .int .i64 lf', .int .i64 mask] 34)) W' b dv.ownBlock → ∀ x ∈ l, Calls Tryz.prog 139 (#[.agg #[.int .i64 (x).s, .int .i64 (x).i, .int .i64 (x).g, .int .i64 (x).m, .int .i64 (x).x, .int .i64 (x).y, .int .i64 (x).vx, .int .i64 (x).vy, .int .i64 (x).hp, .int .i64 (x).pw, .int .i64 (x).lf]] ++ #[.pointer (some ⟨w.heap.size, 0, none⟩)]) W' fun e w' => e = .returned (.tuple #[.agg #[.int .i64 ((obeyF x (⟨ck, cs, ci, cg, ⟨s', i', g', m', x', y', vx', vy', hp', pw', lf'⟩, mask⟩ : Cm)).1).s, .int .i64 ((obeyF x (⟨ck, cs, ci, cg, ⟨s', i', g', m', x', y', vx', vy', hp', pw', lf'⟩, mask⟩ : Cm)).1).i, .int .i64 ((obeyF x (⟨ck, cs, ci, cg, ⟨s', i', g', m', x', y', vx', vy', hp', pw', lf'⟩, mask⟩ : Cm)).1).g, .int .i64 ((obeyF x (⟨ck, cs, ci, cg, ⟨s', i', g', m', x', y', vx', vy', hp', pw', lf'⟩, mask⟩ : Cm)).1).m, .int .i64 ((obeyF x (⟨ck, cs, ci, cg, ⟨s', i', g', m', x', y', vx', vy', hp', pw', lf'⟩, mask⟩ : Cm)).1).x, .int .i64 ((obeyF x (⟨ck, cs, ci, cg, ⟨s', i', g', m', x', y', vx', vy', hp', pw', lf'⟩, mask⟩ : Cm)).1).y, .int .i64 ((obeyF x (⟨ck, cs, ci, cg, ⟨s', i', g', m', x', y', vx', vy', hp', pw', lf'⟩, mask⟩ : Cm)).1).vx, .int .i64 ((obeyF x (⟨ck, cs, ci, cg, ⟨s', i', g', m', x', y', vx', vy', hp', pw', lf'⟩, mask⟩ : Cm)).1).vy, .int .i64 ((obeyF x (⟨ck, cs, ci, cg, ⟨s', i', g', m', x', y', vx', vy', hp', pw', lf'⟩, mask⟩ : Cm)).1).hp, .int .i64 ((obeyF x (⟨ck, cs, ci, cg, ⟨s', i', g', m', x', y', vx', vy', hp', pw', lf'⟩, mask⟩ : Cm)).1).pw, .int .i64 ((obeyF x (⟨ck, cs, ci, cg, ⟨s', i', g', m', x', y', vx', vy', hp', pw', lf'⟩, mask⟩ : Cm)).1).lf], .bool (obeyF x (⟨ck, cs, ci, cg, ⟨s', i', g', m', x', y', vx', vy', hp', pw', lf'⟩, mask⟩ : Cm)).2]) ∧ Below W'.heap.size W' w' := fun W' hW x _ =>
      obey1_any (x).s (x).i (x).g (x).m (x).x (x).y (x).vx (x).vy (x).hp (x).pw (x).lf ck cs ci cg s' i' g' m' x' y' vx' vy' hp' pw' lf' mask w.heap.size W' fun j => (World.cell?_of_block (w := w.alloc (.cells #[.int .i64 ck, .int .i64 cs, .int .i64 ci, .int .i64 cg, .int .i64 s', .int .i64 i', .int .i64 g', .int .i64 m', .int .i64 x', .int .i64 y', .int .i64 vx', .int .i64 vy', .int .i64 hp', .int .i64 pw', .int .i64 lf', .int .i64 mask] 34)) (a := ⟨w.heap.size, j, none⟩) (hW.block w.heap.size s5 (by omega) (fun e => hdn e.symm))).trans (k5 j)
    have HE := Lib.hid (each_any 139 #[.pointer (some ⟨w.heap.size, 0, none⟩)] eg_obey1 (fun x => obeyF x (⟨ck, cs, ci, cg, ⟨s', i', g', m', x', y', vx', vy', hp', pw', lf'⟩, mask⟩ : Cm)) b (.pointer (some ⟨bm, 0, none⟩)) lv ov gv dv l dead _ h5.out.st h5.out.sl h5.out.lb h5.out.sd h5.out.db h5.out.ld (by omega) hd hc)
    have e1 : cmdL c z l (⟨ck, cs, ci, cg, ⟨s', i', g', m', x', y', vx', vy', hp', pw', lf'⟩, mask⟩ : Cm) = eachL (fun x => obeyF x (⟨ck, cs, ci, cg, ⟨s', i', g', m', x', y', vx', vy', hp', pw', lf'⟩, mask⟩ : Cm)) l := by unfold cmdL; rw [if_neg hk]
    have e2 : cmdN l (⟨ck, cs, ci, cg, ⟨s', i', g', m', x', y', vx', vy', hp', pw', lf'⟩, mask⟩ : Cm) = eachD (fun x => obeyF x (⟨ck, cs, ci, cg, ⟨s', i', g', m', x', y', vx', vy', hp', pw', lf'⟩, mask⟩ : Cm)) l := by unfold cmdN; rw [if_neg hk]
    rw [e1, e2]
    have hkk : (ck != 1) = true := by simpa using hk
    have q0 := k5 0
    simp at q0
    clear hc e1 e2
    go_enter Tryz.func101, Tryz.ntmps101
    go_upto_region 1 with fail
    generalize hw1 : World.alloc w _ = w1 at *
    generalize w.heap.size = n5 at *
    obtain ⟨u0, u1, u2⟩ := ltz s5
    go_wp2_with fail
    refine HE.out.mono ?_
    rintro e w' ⟨rfl, lv', dv', hE⟩
    go_wp2_with fail
    refine bodyPost_ret (v := .tuple #[]) (by simp [results, Tryz.results101, go_sem]) rfl ?_
    exact ⟨rfl, lv', dv', h5.out.of_ea hE⟩
end Go.Proofs.YtoimjjhopljdmaaGreat
