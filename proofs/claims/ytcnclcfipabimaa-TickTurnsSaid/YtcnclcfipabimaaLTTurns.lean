/-
  TickTurns: for every case and number the law returns true, and the arguments stay as they were. No condition.
-/
import Derived.Test.YtcnclcfipabimaaTwA
import Derived.Test.YtcnclcfipabimaaMrt
import Derived.Test.YtcnclcfipabimaaMwc
import Derived.Test.YtcnclcfipabimaaMwb
import Derived.Test.YtcnclcfipabimaaTkM
import Derived.Test.YtcnclcfipabimaaMwa
import Derived.Test.YtcnclcfipabimaaLiv
namespace Go.Proofs.Ytcnclcfipabimaa.tickTurns
open Go.ChangeShapes Go.WideShapes Go.ChangeAt Go.RowKit

attribute [local go_sem ↓] loadVar_ldM storeVar_stM
theorem set_two {α : Type} : ∀ (k : Nat) (l : List α) (a b : α), l[k]? = some a → l[k + 1]? = some b → ∃ x y, l = x ++ a :: b :: y ∧ (l.set k b).set (k + 1) a = x ++ b :: a :: y
  | 0, [], _, _, h, _ => by simp at h
  | 0, [_], _, _, _, h => by simp at h
  | 0, c :: d :: l, a, b, h1, h2 => by
    simp at h1 h2
    subst h1 h2
    exact ⟨[], l, rfl, rfl⟩
  | k + 1, [], _, _, h, _ => by simp at h
  | k + 1, c :: l, a, b, h1, h2 => by
    obtain ⟨x, y, e1, e2⟩ := set_two k l a b (by simpa using h1) (by simpa using h2)
    refine ⟨c :: x, y, by rw [e1]; rfl, ?_⟩
    simp only [List.set_cons_succ, List.cons_append]
    rw [e2]
theorem at_k (a : Int) (n : Nat) (h : 2 ≤ n) : ∃ k : Nat, k + 1 < n ∧ -((n : Int) - 1) < Int.tmod a ((n : Int) - 1) ∧ Int.tmod a ((n : Int) - 1) < (n : Int) - 1 ∧ Int.tmod (Int.tmod a ((n : Int) - 1) + n - 1) ((n : Int) - 1) = (k : Int) := by
  have t1 := Int.lt_tmod_of_pos a (by omega : (0 : Int) < (n : Int) - 1)
  have t2 := Int.tmod_lt_of_pos a (by omega : (0 : Int) < (n : Int) - 1)
  generalize Int.tmod a ((n : Int) - 1) = q at *
  have h0 : 0 ≤ q + n - 1 := by omega
  have h1 := Int.tmod_lt_of_pos (q + n - 1) (by omega : (0 : Int) < (n : Int) - 1)
  have h2 := Int.tmod_nonneg ((n : Int) - 1) h0
  exact ⟨(Int.tmod (q + n - 1) ((n : Int) - 1)).toNat, by omega, by omega, t2, by omega⟩
set_option maxRecDepth 100000 in
set_option maxHeartbeats 4000000 in
theorem walk (cols rows side radius speed ids queue z aa : Int) (po pn pc : Option Addr) (eo en ec : Nat) (own near : List Bun) (ms : List Cm) (w : World) (h1 : BIn w (.slice po own.length eo) own) (h2 : BIn w (.slice pn near.length en) near) (h3 : RIn cmC w (.slice pc ms.length ec) ms)
    (hf1 : ∀ b ∈ own, BFit b) (hf2 : ∀ b ∈ near, BFit b) (hf3 : ∀ m ∈ ms, CmFit m) :
    Calls Try.prog 12 #[.agg #[.int .i64 cols, .int .i64 rows, .int .i64 side, .int .i64 radius, .int .i64 speed, .int .i64 ids, .int .i64 queue, .int .i64 z, .slice po own.length eo, .slice pn near.length en, .slice pc ms.length ec], .int .i64 aa] w fun e w' => e = .returned (.bool true) ∧ Below w.heap.size w w' := by
  have HF := Lib.hid (fun W (hW : Below w.heap.size w W) => few15 cols rows side radius speed ids queue z po pn pc eo en ec own near ms W (h1.keep hW) (h2.keep hW) (h3.keep hW))
  have ho := mayF_ok ⟨cols, rows, side, radius, speed, ids, queue⟩
  generalize mayF ⟨cols, rows, side, radius, speed, ids, queue⟩ = d at *
  obtain ⟨dcols, drows, dside, dradius, dspeed, dids, dqueue⟩ := d
  have HO := Lib.hid ho
  simp only at HF
  have b1 := rin_cut (enc := bunL) 40 h1
  have b2 := rin_cut (enc := bunL) 40 h2
  have b3 := rin_cut (enc := cmC) 40 h3
  have f1 : ∀ b ∈ own.take 40, BFit b := fun b hb => hf1 b (List.mem_of_mem_take hb)
  have f2 : ∀ b ∈ near.take 40, BFit b := fun b hb => hf2 b (List.mem_of_mem_take hb)
  have f3 : ∀ m ∈ ms.take 40, CmFit m := fun m hm => hf3 m (List.mem_of_mem_take hm)
  have n1 : (own.take 40).length ≤ 40 := by rw [List.length_take]; omega
  have n2 : (near.take 40).length ≤ 40 := by rw [List.length_take]; omega
  have n3 : (ms.take 40).length ≤ 40 := by rw [List.length_take]; omega
  generalize own.take 40 = own4 at *
  generalize near.take 40 = near4 at *
  generalize ms.take 40 = ms4 at *
  clear h1 h2 h3 hf1 hf2 hf3
  have HLV := Lib.hid (fun W (hW : Below w.heap.size w W) => living_any dcols drows dside dradius dspeed dids dqueue (.slice po own4.length eo) own4 W ho (BIn.keep b1 hW) (fun b hb => ⟨(f1 b hb).2.2.2.1.1, (f1 b hb).2.2.2.1.2⟩))
  have HLF := Lib.hid (livF_fit ho f1)
  have hlu := livF_un ⟨dcols, drows, dside, dradius, dspeed, dids, dqueue⟩ own4
  have hlm := livF_may ⟨dcols, drows, dside, dradius, dspeed, dids, dqueue⟩ own4
  have hli := livF_in ho own4
  have hln := livF_len ⟨dcols, drows, dside, dradius, dspeed, dids, dqueue⟩ own4
  generalize livF ⟨dcols, drows, dside, dradius, dspeed, dids, dqueue⟩ own4 = l0 at *
  have ha : ∀ W : World, Calls Try.prog 45 #[] W fun e w' => e = .returned (.bool true) ∧ Below W.heap.size W w' := awake15
  by_cases hk2 : ms4.length < 2
  · have t2 : (ms4.length : Int) < 2 := by omega
    clear HLV HLF hlu hln hlm hli b1 b2 b3
    go_enter Try.func12, Try.ntmps12
    go_wp2_with fail
    refine (HF.out _ (by repeat' (first | (with_reducible exact Below.refl _ _) | (with_reducible assumption) | (with_reducible refine below_drewN ?_ _) | (with_reducible refine below_more _ _ _ ?_ ?_) | (with_reducible refine Below.alloc ?_ ?_ _) | (with_reducible refine Below.drew ?_) | (with_reducible refine Below.setCell ?_ ?_ _) | go_size))).mono ?_; rintro e w' ⟨rfl, hb⟩; obtain ⟨d1, os1, rfl⟩ := more_of hb; clear hb
    go_wp2_with fail
    refine (znew_ok dcols drows dside dradius dspeed dids dqueue _ HO.out).mono ?_
    rintro e w2 ⟨b, rfl, hb2, hmap, hbb⟩
    have cC : ∀ j, w2.cell? ⟨w.heap.size, j, none⟩ = (#[.int .i64 dcols, .int .i64 drows, .int .i64 dside, .int .i64 dradius, .int .i64 dspeed, .int .i64 dids, .int .i64 dqueue, .int .i64 z, .slice po own4.length eo, .slice pn near4.length en, .slice pc ms4.length ec] : Array Value)[j]? := fun j => by rw [hb2.cell (by simp; omega)]; simp [go_sem]
    have l2 : w.heap.size < w2.heap.size := by have := hb2.size; simp at this; omega
    have hb2w : Below w.heap.size w w2 := Below.trans (Below.mono (B := w.heap.size) (by repeat' (first | (with_reducible exact Below.refl _ _) | (with_reducible assumption) | (with_reducible refine below_drewN ?_ _) | (with_reducible refine below_more _ _ _ ?_ ?_) | (with_reducible refine Below.alloc ?_ ?_ _) | (with_reducible refine Below.drew ?_) | (with_reducible refine Below.setCell ?_ ?_ _) | go_size)) (Nat.le_refl _)) (hb2.mono (by simp; omega))
    have HB2 := Lib.hid hb2w
    have HMP := Lib.hid hmap
    have HC2 := Lib.hid cC
    have q0 := cC 0; simp at q0; have q1 := cC 1; simp at q1; have q2 := cC 2; simp at q2; have q3 := cC 3; simp at q3; have q4 := cC 4; simp at q4; have q5 := cC 5; simp at q5; have q6 := cC 6; simp at q6; have q7 := cC 7; simp at q7; have q8 := cC 8; simp at q8; have q9 := cC 9; simp at q9; have q10 := cC 10; simp at q10
    obtain ⟨f0, f1, f2⟩ := ltz l2
    clear hb2 hmap hbb hb2w cC HF
    go_wp2_with (go_at_call 45; refine (ha _).mono ?_; rintro e w' ⟨rfl, hb⟩; obtain ⟨d, os, rfl⟩ := more_of hb; clear hb)
    go_ret
    exact ⟨rfl, HB2.out.trans (Below.mono (B := w2.heap.size) (by repeat' (first | (with_reducible exact Below.refl _ _) | (with_reducible assumption) | (with_reducible refine below_drewN ?_ _) | (with_reducible refine below_more _ _ _ ?_ ?_) | (with_reducible refine Below.alloc ?_ ?_ _) | (with_reducible refine Below.drew ?_) | (with_reducible refine Below.setCell ?_ ?_ _) | go_size)) HB2.out.size)⟩
  have t2 : ¬ (ms4.length : Int) < 2 := by omega
  obtain ⟨k, hk1, hq1, hq2, HK⟩ := at_k aa ms4.length (by omega)
  generalize HQ : Int.tmod aa ((ms4.length : Int) - 1) = q at *
  obtain ⟨m0, hm0⟩ : ∃ m0, ms4[k]? = some m0 := ⟨_, List.getElem?_eq_getElem (by omega)⟩
  obtain ⟨m1, hm1⟩ : ∃ m1, ms4[k + 1]? = some m1 := ⟨_, List.getElem?_eq_getElem (by omega)⟩
  obtain ⟨gm, om, cm, hv, hgm, hcm⟩ := b3.cells cmC_len hm0
  simp only [Value.slice.injEq, true_and] at hv
  obtain ⟨rfl, rfl⟩ := hv
  obtain ⟨gm', om', cm', hv, _, hcn⟩ := b3.cells cmC_len hm1
  simp only [Value.slice.injEq, Option.some.injEq, Addr.mk.injEq, and_true, true_and] at hv
  obtain ⟨⟨rfl, rfl⟩, rfl⟩ := hv
  have B3 := Lib.hid b3
  have hmc : ms4.length ≤ ec := by obtain ⟨_, _, hv, _, _, h, _⟩ := b3; simp only [Value.slice.injEq, true_and] at hv; omega
  clear b3
  go_enter Try.func12, Try.ntmps12
  go_wp2_with fail
  refine (HF.out _ (by repeat' (first | (with_reducible exact Below.refl _ _) | (with_reducible assumption) | (with_reducible refine below_drewN ?_ _) | (with_reducible refine below_more _ _ _ ?_ ?_) | (with_reducible refine Below.alloc ?_ ?_ _) | (with_reducible refine Below.drew ?_) | (with_reducible refine Below.setCell ?_ ?_ _) | go_size))).mono ?_; rintro e w' ⟨rfl, hb⟩; obtain ⟨d1, os1, rfl⟩ := more_of hb; clear hb
  go_wp2_with fail
  refine (znew_ok dcols drows dside dradius dspeed dids dqueue _ HO.out).mono ?_
  rintro e w2 ⟨b, rfl, hb2, hmap, hbb⟩
  have cC : ∀ j, w2.cell? ⟨w.heap.size, j, none⟩ = (#[.int .i64 dcols, .int .i64 drows, .int .i64 dside, .int .i64 dradius, .int .i64 dspeed, .int .i64 dids, .int .i64 dqueue, .int .i64 z, .slice po own4.length eo, .slice pn near4.length en, .slice (some ⟨gm, om, none⟩) ms4.length ec] : Array Value)[j]? := fun j => by rw [hb2.cell (by simp; omega)]; simp [go_sem]
  have l2 : w.heap.size < w2.heap.size := by have := hb2.size; simp at this; omega
  have hb2w : Below w.heap.size w w2 := Below.trans (Below.mono (B := w.heap.size) (by repeat' (first | (with_reducible exact Below.refl _ _) | (with_reducible assumption) | (with_reducible refine below_drewN ?_ _) | (with_reducible refine below_more _ _ _ ?_ ?_) | (with_reducible refine Below.alloc ?_ ?_ _) | (with_reducible refine Below.drew ?_) | (with_reducible refine Below.setCell ?_ ?_ _) | go_size)) (Nat.le_refl _)) (hb2.mono (by simp; omega))
  have HB2 := Lib.hid hb2w
  have HMP := Lib.hid hmap
  have HC2 := Lib.hid cC
  have q0 := cC 0; simp at q0; have q1 := cC 1; simp at q1; have q2 := cC 2; simp at q2; have q3 := cC 3; simp at q3; have q4 := cC 4; simp at q4; have q5 := cC 5; simp at q5; have q6 := cC 6; simp at q6; have q7 := cC 7; simp at q7; have q8 := cC 8; simp at q8; have q9 := cC 9; simp at q9; have q10 := cC 10; simp at q10
  obtain ⟨f0, f1, f2⟩ := ltz l2
  clear hb2 hmap hbb hb2w cC HF
  have t3 : (k : Int) < (ms4.length : Int) := by omega
  have t4 : (k : Int) + 1 < (ms4.length : Int) := by omega
  have HLD0 : ∀ d os, (ldM ⟨gm, om + k * 16, none⟩).run Try.prog (more w2 d os) = .ok (.agg (cmC m0).toArray) (more w2 d os) := fun d os => ldM_of m0 fun j v hj => ((more_below w2 d os).cell (p := ⟨gm, om + k * 16 + j, none⟩) (Nat.lt_of_lt_of_le hgm HB2.out.size)).trans ((HB2.out.cell (p := ⟨gm, om + k * 16 + j, none⟩) hgm).trans (hcm j v hj))
  have HLD1 : ∀ d os, (ldM ⟨gm, om + (k + 1) * 16, none⟩).run Try.prog (more w2 d os) = .ok (.agg (cmC m1).toArray) (more w2 d os) := fun d os => ldM_of m1 fun j v hj => ((more_below w2 d os).cell (p := ⟨gm, om + (k + 1) * 16 + j, none⟩) (Nat.lt_of_lt_of_le hgm HB2.out.size)).trans ((HB2.out.cell (p := ⟨gm, om + (k + 1) * 16 + j, none⟩) hgm).trans (hcn j v hj))
  have HLE0 : ∀ d os d' os', (ldM ⟨gm, om + k * 16, none⟩).run Try.prog (more (more w2 d os) d' os') = .ok (.agg (cmC m0).toArray) (more (more w2 d os) d' os') := fun d os d' os' => by rw [more_more]; exact HLD0 _ _
  have HLE1 : ∀ d os d' os', (ldM ⟨gm, om + (k + 1) * 16, none⟩).run Try.prog (more (more w2 d os) d' os') = .ok (.agg (cmC m1).toArray) (more (more w2 d os) d' os') := fun d os d' os' => by rw [more_more]; exact HLD1 _ _
  have HWM := Lib.hid owner_m
  cases hh : idEq (ownN m0).s (ownN m0).i (ownN m0).g (ownN m1).s (ownN m1).i (ownN m1).g with
  | true =>
    go_wp2_with fail
    refine wp_region_more (by kernel_rfl) (by kernel_rfl) ?_
    repeat (go_big_quiet_step (fail))
    refine wpQuiet_nil ?_
    rintro _ ⟨pq5, rfl⟩
    go_wp2_with fail
    refine wp_region_more (by kernel_rfl) (by kernel_rfl) ?_
    repeat (go_big_quiet_step ((first | (go_at_call 48; exact more_call (HWM.out _ _)))))
    refine wpQuiet_nil ?_
    rintro _ ⟨pq6, rfl⟩
    go_wp2_with (go_at_call 45; refine (ha _).mono ?_; rintro e w' ⟨rfl, hb⟩; obtain ⟨d, os, rfl⟩ := more_of hb; clear hb)
    go_ret
    exact ⟨rfl, HB2.out.trans (Below.mono (B := w2.heap.size) (by repeat' (first | (with_reducible exact Below.refl _ _) | (with_reducible assumption) | (with_reducible refine below_drewN ?_ _) | (with_reducible refine below_more _ _ _ ?_ ?_) | (with_reducible refine Below.alloc ?_ ?_ _) | (with_reducible refine Below.drew ?_) | (with_reducible refine Below.setCell ?_ ?_ _) | go_size)) HB2.out.size)⟩
  | false =>
    go_wp2_with fail
    refine wp_region_more (by kernel_rfl) (by kernel_rfl) ?_
    repeat (go_big_quiet_step (fail))
    refine wpQuiet_nil ?_
    rintro _ ⟨pq5, rfl⟩
    go_wp2_with fail
    refine wp_region_more (by kernel_rfl) (by kernel_rfl) ?_
    repeat (go_big_quiet_step ((first | (go_at_call 48; exact more_call (HWM.out _ _)))))
    refine wpQuiet_nil ?_
    rintro _ ⟨pq6, rfl⟩
    have hbm : Below w2.heap.size w2 (more (more w2 pq5.d pq5.os) pq6.d pq6.os) := (by repeat' (first | (with_reducible exact Below.refl _ _) | (with_reducible assumption) | (with_reducible refine below_drewN ?_ _) | (with_reducible refine below_more _ _ _ ?_ ?_) | (with_reducible refine Below.alloc ?_ ?_ _) | (with_reducible refine Below.drew ?_) | (with_reducible refine Below.setCell ?_ ?_ _) | go_size))
    generalize more (more w2 pq5.d pq5.os) pq6.d pq6.os = wn at *
    replace HB2 := Lib.hid (HB2.out.trans (hbm.mono HB2.out.size))
    replace HMP := Lib.hid (HMP.out.grow hbm)
    replace HC2 := Lib.hid (box_on hbm l2 HC2.out)
    replace q0 := (hbm.cell (p := ⟨w.heap.size, 0, none⟩) l2).trans q0; replace q1 := (hbm.cell (p := ⟨w.heap.size, 1, none⟩) l2).trans q1; replace q2 := (hbm.cell (p := ⟨w.heap.size, 2, none⟩) l2).trans q2; replace q3 := (hbm.cell (p := ⟨w.heap.size, 3, none⟩) l2).trans q3; replace q4 := (hbm.cell (p := ⟨w.heap.size, 4, none⟩) l2).trans q4; replace q5 := (hbm.cell (p := ⟨w.heap.size, 5, none⟩) l2).trans q5; replace q6 := (hbm.cell (p := ⟨w.heap.size, 6, none⟩) l2).trans q6; replace q7 := (hbm.cell (p := ⟨w.heap.size, 7, none⟩) l2).trans q7; replace q8 := (hbm.cell (p := ⟨w.heap.size, 8, none⟩) l2).trans q8; replace q9 := (hbm.cell (p := ⟨w.heap.size, 9, none⟩) l2).trans q9; replace q10 := (hbm.cell (p := ⟨w.heap.size, 10, none⟩) l2).trans q10
    replace l2 := Nat.lt_of_lt_of_le l2 hbm.size
    clear HLD0 HLD1 HLE0 HLE1 HWM hbm HQ HK hq1 hq2 f0 f1 f2
    obtain ⟨f0, f1, f2⟩ := ltz l2
    have hne : ownN m0 ≠ ownN m1 := fun e => by rw [e] at hh; simp [idEq] at hh
    have hm1' := hm1
    obtain ⟨x, y, hx1, hx2⟩ := set_two k ms4 m0 m1 hm0 hm1
    have htt := tick_turn ⟨dcols, drows, dside, dradius, dspeed, dids, dqueue⟩ z near4 hlu x y hne
    rw [← hx1, ← hx2] at htt
    have hTo : ownZ ⟨dcols, drows, dside, dradius, dspeed, dids, dqueue⟩ z l0 near4 ((ms4.set k m1).set (k + 1) m0) = ownZ ⟨dcols, drows, dside, dradius, dspeed, dids, dqueue⟩ z l0 near4 ms4 ∧ goneZ ⟨dcols, drows, dside, dradius, dspeed, dids, dqueue⟩ z l0 near4 ((ms4.set k m1).set (k + 1) m0) = goneZ ⟨dcols, drows, dside, dradius, dspeed, dids, dqueue⟩ z l0 near4 ms4 ∧ deadZ ⟨dcols, drows, dside, dradius, dspeed, dids, dqueue⟩ z l0 near4 ((ms4.set k m1).set (k + 1) m0) = deadZ ⟨dcols, drows, dside, dradius, dspeed, dids, dqueue⟩ z l0 near4 ms4 := by
      unfold ownZ goneZ deadZ
      rw [htt.1, htt.2.1, htt.2.2]
      exact ⟨rfl, rfl, rfl⟩
    have hmf : ∀ m ∈ (ms4.set k m1).set (k + 1) m0, CmFit m := fun m hm => by
      rcases List.mem_or_eq_of_mem_set hm with h | rfl
      · rcases List.mem_or_eq_of_mem_set h with h | rfl
        · exact f3 m h
        · exact f3 _ (List.mem_of_getElem? hm1)
      · exact f3 _ (List.mem_of_getElem? hm0)
    have hrun : ∀ bm vo vc W (hm : MapAt W bm ⟨dcols, drows, dside, dradius, dspeed, dids, dqueue⟩) (hW : Below w.heap.size w W) (hl : BIn W vo l0) (hc : RIn cmC W vc ms4 ∨ RIn cmC W vc ((ms4.set k m1).set (k + 1) m0)), Calls Try.prog 43 #[.pointer (some ⟨bm, 0, none⟩), .int .i64 z, vo, .slice pn near4.length en, vc] W (RunQ W (ownZ ⟨dcols, drows, dside, dradius, dspeed, dids, dqueue⟩ z l0 near4 ms4) (goneZ ⟨dcols, drows, dside, dradius, dspeed, dids, dqueue⟩ z l0 near4 ms4) (deadZ ⟨dcols, drows, dside, dradius, dspeed, dids, dqueue⟩ z l0 near4 ms4)) := fun bm vo vc W hm hW hl hc => by
      rcases hc with hc | hc
      · exact prun_z bm ⟨dcols, drows, dside, dradius, dspeed, dids, dqueue⟩ z vo _ vc l0 near4 ms4 W hm ho hl (BIn.keep b2 hW) hc HLF.out f3 (by omega) (by omega) (by omega)
      · have h := prun_z bm ⟨dcols, drows, dside, dradius, dspeed, dids, dqueue⟩ z vo _ vc l0 near4 _ W hm ho hl (BIn.keep b2 hW) hc HLF.out hmf (by omega) (by omega) (by simp only [List.length_set]; omega)
        rw [hTo.1, hTo.2.1, hTo.2.2] at h
        exact h
    generalize ownZ ⟨dcols, drows, dside, dradius, dspeed, dids, dqueue⟩ z l0 near4 ms4 = oL at *
    generalize goneZ ⟨dcols, drows, dside, dradius, dspeed, dids, dqueue⟩ z l0 near4 ms4 = gL at *
    generalize deadZ ⟨dcols, drows, dside, dradius, dspeed, dids, dqueue⟩ z l0 near4 ms4 = dN at *
    have HRUN := Lib.hid hrun
    have HM0 := Lib.hid hm0; have HM1 := Lib.hid hm1
    clear hrun hTo htt hx1 hx2 hne hmf hlu hlm hli f1 f2 f3 b1 b2 hm0 hm1 hm1' hcm hcn ho hh
    go_wp2_with fail
    refine (HLV.out _ HB2.out).mono ?_
    rintro e w3 ⟨vl, rfl, hN⟩
    obtain ⟨pl, cl, rfl⟩ := sl_frm hN.1
    have hb3 := hN.2.1
    have HL3 := Lib.hid hN.bin
    have HM3 := Lib.hid (HMP.out.grow hb3)
    have HB3 := Lib.hid (HB2.out.trans (hb3.mono HB2.out.size))
    have HC3 := Lib.hid (box_on hb3 l2 HC2.out)
    replace q0 := (hb3.cell (p := ⟨w.heap.size, 0, none⟩) l2).trans q0; replace q1 := (hb3.cell (p := ⟨w.heap.size, 1, none⟩) l2).trans q1; replace q2 := (hb3.cell (p := ⟨w.heap.size, 2, none⟩) l2).trans q2; replace q3 := (hb3.cell (p := ⟨w.heap.size, 3, none⟩) l2).trans q3; replace q4 := (hb3.cell (p := ⟨w.heap.size, 4, none⟩) l2).trans q4; replace q5 := (hb3.cell (p := ⟨w.heap.size, 5, none⟩) l2).trans q5; replace q6 := (hb3.cell (p := ⟨w.heap.size, 6, none⟩) l2).trans q6; replace q7 := (hb3.cell (p := ⟨w.heap.size, 7, none⟩) l2).trans q7; replace q8 := (hb3.cell (p := ⟨w.heap.size, 8, none⟩) l2).trans q8; replace q9 := (hb3.cell (p := ⟨w.heap.size, 9, none⟩) l2).trans q9; replace q10 := (hb3.cell (p := ⟨w.heap.size, 10, none⟩) l2).trans q10
    replace l2 := Nat.lt_of_lt_of_le l2 hb3.size
    clear hN hb3 HMP HB2 HLV HC2 f0 f1 f2
    obtain ⟨f0, f1, f2⟩ := ltz l2
    have HCM := Lib.hid (B3.out.keep HB3.out)
    clear B3
    go_upto_region 10 with (at_builtin; refine wpList_append_cms w3 _ (by rfl) _ _ (by rfl) _ _ [] ms4 (by rfl) (cms_empty (by repeat' (first | (with_reducible exact Below.refl _ _) | (with_reducible assumption) | (with_reducible refine below_drewN ?_ _) | (with_reducible refine below_more _ _ _ ?_ ?_) | (with_reducible refine Below.alloc ?_ ?_ _) | (with_reducible refine Below.drew ?_) | (with_reducible refine Below.setCell ?_ ?_ _) | go_size))) (by rfl) (HCM.out.keep (by repeat' (first | (with_reducible exact Below.refl _ _) | (with_reducible assumption) | (with_reducible refine below_drewN ?_ _) | (with_reducible refine below_more _ _ _ ?_ ?_) | (with_reducible refine Below.alloc ?_ ?_ _) | (with_reducible refine Below.drew ?_) | (with_reducible refine Below.setCell ?_ ?_ _) | go_size))) (by simp) (by omega) ?_; intro v9 w4 hN9; simp only [List.nil_append] at hN9)
    obtain ⟨g9, o9, c9, hv9, hg9, hc9⟩ := hN9.rin.cells cmC_len HM0.out
    subst hv9
    have hlt1 : k < ms4.length := by omega
    have hlt2 : k + 1 < ms4.length := by omega
    have t5 : (k : Int) < (ms4.length : Int) := by omega
    have t6 : (k : Int) + 1 < (ms4.length : Int) := by omega
    have hld : (ldM ⟨g9, o9 + k * 16, none⟩).run Try.prog w4 = .ok (.agg (cmC m0).toArray) w4 := ldM_of m0 hc9
    obtain ⟨w5, hst0, hb5, s5, hc5⟩ := new_cm w4 m0
    have hn5 := hN9.grow hb5
    have hld1 : (ldM ⟨g9, o9 + (k + 1) * 16, none⟩).run Try.prog w5 = .ok (.agg (cmC m1).toArray) w5 := ldM_of m1 (by
      obtain ⟨g', o', c', hv', _, hc'⟩ := hn5.rin.cells cmC_len HM1.out
      simp only [Value.slice.injEq, Option.some.injEq, Addr.mk.injEq, and_true, true_and] at hv'
      obtain ⟨⟨rfl, rfl⟩, rfl⟩ := hv'
      exact hc')
    obtain ⟨hs1, hn6⟩ := RNew.store cmC_len cmC_one hn5 hlt1 m1
    have hst1 : (stM ⟨g9, o9 + k * 16, none⟩ (.agg (cmC m1).toArray)).run Try.prog w5 = _ := stM_of m1 hs1
    have ht6 := setCells_turned g9 (cmC m1) (o9 + k * 16) w5
    have hg5 : g9 ≠ w4.heap.size := by omega
    have hld2 : (ldM ⟨w4.heap.size, 0, none⟩).run Try.prog (w5.setCells g9 (o9 + k * 16) (cmC m1)) = .ok (.agg (cmC m0).toArray) (w5.setCells g9 (o9 + k * 16) (cmC m1)) := ldM_of m0 fun j v hj =>
      (World.cell?_of_block (w := w5) (a := ⟨w4.heap.size, 0 + j, none⟩) (ht6.block _ s5 (fun e => hg5 (Option.some.inj e).symm))).trans (hc5 j v hj)
    have hlt3 : k + 1 < (ms4.set k m1).length := by rw [List.length_set]; exact hlt2
    obtain ⟨hs2, hn7⟩ := RNew.store cmC_len cmC_one hn6 hlt3 m0
    have hst2 : (stM ⟨g9, o9 + (k + 1) * 16, none⟩ (.agg (cmC m0).toArray)).run Try.prog (w5.setCells g9 (o9 + k * 16) (cmC m1)) = _ := stM_of m0 hs2
    have hg9' : g9 < w5.heap.size := Nat.lt_of_lt_of_le hg9 hb5.size
    have hg96 : g9 < (w5.setCells g9 (o9 + k * 16) (cmC m1)).heap.size := Nat.lt_of_lt_of_le hg9' ht6.size
    have s6 : w4.heap.size < (w5.setCells g9 (o9 + k * 16) (cmC m1)).heap.size := Nat.lt_of_lt_of_le s5 ht6.size
    have HN7 := Lib.hid hn7
    have HC4 := Lib.hid (box_on hN9.2.1 l2 HC3.out)
    clear hn5 hn6 hn7 hs1 hs2 ht6 hN9 hc5 hc9 hb5
    generalize w5.setCells g9 (o9 + k * 16) (cmC m1) = w6 at *
    generalize w6.setCells g9 (o9 + (k + 1) * 16) (cmC m0) = w7 at *
    generalize (ms4.set k m1).set (k + 1) m0 = ms5 at *
    obtain ⟨y0, y1, y2⟩ := ltz hg9
    have hb7 := HN7.out.2.1
    have HL7 := Lib.hid (HL3.out.keep hb7)
    have HM7 := Lib.hid (HM3.out.grow hb7)
    have HB7 := Lib.hid (HB3.out.trans (hb7.mono HB3.out.size))
    have HC7 := Lib.hid (HCM.out.keep hb7)
    have HT7 := Lib.hid HN7.out.rin
    have HBW := Lib.hid (fun W (hW : Below w7.heap.size w7 W) => HB7.out.trans (hW.mono HB7.out.size))
    have HX7 := Lib.hid (box_on hb7 l2 HC3.out)
    have l7 := Nat.lt_of_lt_of_le l2 hb7.size
    go_upto_region 13 with fail
    clear q0 q1 q2 q3 q4 q5 q6 q7 q8 q9 q10 f0 f1 f2 y0 y1 y2 hld hld1 hld2 hst0 hst1 hst2 hb7 HN7 HL3 HM3 HB3 HC3 HCM HC4
    have q7 := HX7.out 7; simp at q7; have q8 := HX7.out 8; simp at q8; have q9 := HX7.out 9; simp at q9; have q10 := HX7.out 10; simp at q10
    obtain ⟨f0, f1, f2⟩ := ltz l7
    go_upto_region 13 with fail
    go_cut [11, 12] (fun s11 s12 wx => Below w7.heap.size w7 wx ∧ Rsx wx s11 oL gL dN ∧ Rsx wx s12 oL gL dN)
    case first =>
      go_region_held3 (fun W => (w7).heap.size ≤ W.heap.size ∧ ∀ b o, b < (w7).heap.size → W.cell? ⟨b, o, none⟩ = (w7).cell? ⟨b, o, none⟩) (with_reducible (repeat (first | assumption | exact s_refl _ | exact s_id _ | refine s_more _ _ ?_ | refine s_alloc _ ?_ | refine s_drew ?_))) (first | (go_at_call 43; refine (HRUN.out b _ _ _ (HM7.out.grow (by repeat' (first | (with_reducible exact Below.refl _ _) | (with_reducible assumption) | (with_reducible refine below_drewN ?_ _) | (with_reducible refine below_more _ _ _ ?_ ?_) | (with_reducible refine Below.alloc ?_ ?_ _) | (with_reducible refine Below.drew ?_) | (with_reducible refine Below.setCell ?_ ?_ _) | go_size))) (HBW.out _ (by repeat' (first | (with_reducible exact Below.refl _ _) | (with_reducible assumption) | (with_reducible refine below_drewN ?_ _) | (with_reducible refine below_more _ _ _ ?_ ?_) | (with_reducible refine Below.alloc ?_ ?_ _) | (with_reducible refine Below.drew ?_) | (with_reducible refine Below.setCell ?_ ?_ _) | go_size))) (HL7.out.keep (by repeat' (first | (with_reducible exact Below.refl _ _) | (with_reducible assumption) | (with_reducible refine below_drewN ?_ _) | (with_reducible refine below_more _ _ _ ?_ ?_) | (with_reducible refine Below.alloc ?_ ?_ _) | (with_reducible refine Below.drew ?_) | (with_reducible refine Below.setCell ?_ ?_ _) | go_size))) ?_).mono ?_; (first | (focus (refine Or.inl ?_; exact HC7.out.keep (by repeat' (first | (with_reducible exact Below.refl _ _) | (with_reducible assumption) | (with_reducible refine below_drewN ?_ _) | (with_reducible refine below_more _ _ _ ?_ ?_) | (with_reducible refine Below.alloc ?_ ?_ _) | (with_reducible refine Below.drew ?_) | (with_reducible refine Below.setCell ?_ ?_ _) | go_size)); done)) | (focus (refine Or.inr ?_; exact HT7.out.keep (by repeat' (first | (with_reducible exact Below.refl _ _) | (with_reducible assumption) | (with_reducible refine below_drewN ?_ _) | (with_reducible refine below_more _ _ _ ?_ ?_) | (with_reducible refine Below.alloc ?_ ?_ _) | (with_reducible refine Below.drew ?_) | (with_reducible refine Below.setCell ?_ ?_ _) | go_size)); done))); rintro e w' hq; obtain ⟨pa, ca, pb, cb, pd, cd, d2, os2, rfl, rfl, ha', hg', hd'⟩ := hq.open; clear hq; replace ha' := Lib.hid ha'; replace hg' := Lib.hid hg'; replace hd' := Lib.hid hd'))
      all_goals (clear q7 q8 q9 q10 f0 f1 f2)
      all_goals (go_wp2_with fail; go_meet)
      all_goals (refine ⟨(by repeat' (first | (with_reducible exact Below.refl _ _) | (with_reducible assumption) | (with_reducible refine below_drewN ?_ _) | (with_reducible refine below_more _ _ _ ?_ ?_) | (with_reducible refine Below.alloc ?_ ?_ _) | (with_reducible refine Below.drew ?_) | (with_reducible refine Below.setCell ?_ ?_ _) | go_size)), ?_, ?_⟩)
      all_goals (apply Rsx.mk rfl)
      all_goals (first | (focus ((repeat (first | (with_reducible refine bxo_more _ _ ?_) | (with_reducible refine bxo_drew ?_) | (focus ((with_reducible refine bxo_new _ _ _ _ ?_); (simp; done))) | (with_reducible refine bxo_alloc _ ?_))); done)) | (focus ((repeat (first | (focus ((with_reducible refine BIn.simH (by assumption) ?_); (repeat (first | (with_reducible exact sim_refl _) | (with_reducible refine sim_more ?_ _ _ _) | (with_reducible refine sim_put ?_ _ _ _) | (with_reducible refine sim_alloc ?_ _) | (with_reducible refine sim_drewL ?_) | (with_reducible refine sim_drewR ?_))); done)) | (with_reducible refine bin_more _ _ ?_) | (with_reducible refine bin_alloc _ ?_) | (with_reducible refine bin_drew ?_))); done)) | (focus ((repeat (first | (focus ((with_reducible refine nin_simH (by assumption) ?_); (repeat (first | (with_reducible exact sim_refl _) | (with_reducible refine sim_more ?_ _ _ _) | (with_reducible refine sim_put ?_ _ _ _) | (with_reducible refine sim_alloc ?_ _) | (with_reducible refine sim_drewL ?_) | (with_reducible refine sim_drewR ?_))); done)) | (with_reducible refine nin_more _ _ ?_) | (with_reducible refine nin_alloc _ ?_) | (with_reducible refine nin_drew ?_))); done)))
    obtain ⟨hbx, ⟨n1, pa, ca, pb, cb, pd, cd, rfl, hX1, hA1, hG1, hD1⟩, ⟨n2, pa2, ca2, pb2, cb2, pd2, cd2, rfl, hX2, hA2, hG2, hD2⟩⟩ := hcut
    obtain ⟨wx, rfl⟩ : ∃ wx : World, wx = wc := ⟨_, rfl⟩
    have HSM := Lib.hid (fun W (hW : Below wx.heap.size wx W) => same15 _ _ _ _ _ _ oL gL dN W (hA1.keep hW) (hG1.keep hW) (hD1.keep hW) (hA2.keep hW) (hG2.keep hW) (hD2.keep hW))
    have x0 := hX1.2 0; simp at x0; have y0 := hX2.2 0; simp at y0; have x1 := hX1.2 1; simp at x1; have y1 := hX2.2 1; simp at y1; have x2 := hX1.2 2; simp at x2; have y2 := hX2.2 2; simp at y2
    have s1 := hX1.1; have s2 := hX2.1
    obtain ⟨z0, z1, z2⟩ := ltz s1
    obtain ⟨z3, z4, z5⟩ := ltz s2
    have HBX := Lib.hid (HB7.out.trans (hbx.mono HB7.out.size))
    clear hA1 hA2 hG1 hG2 hD1 hD2 hX1 hX2 hbx q7 q8 q9 q10 f0 f1 f2
    go_wp2_with (first | (go_at_call 47; refine (HSM.out _ (by repeat' (first | (with_reducible exact Below.refl _ _) | (with_reducible assumption) | (with_reducible refine below_drewN ?_ _) | (with_reducible refine below_more _ _ _ ?_ ?_) | (with_reducible refine Below.alloc ?_ ?_ _) | (with_reducible refine Below.drew ?_) | (with_reducible refine Below.setCell ?_ ?_ _) | go_size))).mono ?_; rintro e w' ⟨rfl, hb⟩; obtain ⟨d5, os5, rfl⟩ := more_of hb; clear hb) | (go_at_call 45; refine (ha _).mono ?_; rintro e w' ⟨rfl, hb⟩; obtain ⟨d, os, rfl⟩ := more_of hb; clear hb))
    go_ret
    exact ⟨rfl, HBX.out.trans (Below.mono (B := wx.heap.size) (by repeat' (first | (with_reducible exact Below.refl _ _) | (with_reducible assumption) | (with_reducible refine below_drewN ?_ _) | (with_reducible refine below_more _ _ _ ?_ ?_) | (with_reducible refine Below.alloc ?_ ?_ _) | (with_reducible refine Below.drew ?_) | (with_reducible refine Below.setCell ?_ ?_ _) | go_size)) HBX.out.size)⟩
set_option maxRecDepth 100000 in
theorem lifted (os : Os) (started : os.Started) (H : Type) (enc : TypeId × Value → H) :
    ReturnsInHanded {} Try.checked os 12 .any (Rows.tickTurnsSpec.pre6 enc Try.prog Try.f12 Rows.tickTurnsRow.domain false) (Rows.tickTurnsSpec.post enc Try.prog Try.f12 false true false false) := by
  refine returnsInHanded_of_change (C := Try.checked) ownKnob0 started (by kernel_rfl) Try.func12
    (ChangeSpec.witness6 (enc := enc) (C := Try.checked) false ⟨#[], #[.agg #[.int .i64 0, .int .i64 0, .int .i64 0, .int .i64 0, .int .i64 0, .int .i64 0, .int .i64 0, .int .i64 0, .slice none 0 0, .slice none 0 0, .slice none 0 0], .int .i64 0], []⟩ 8 (by kernel_rfl) (by kernel_rfl) (by kernel_rfl) (by kernel_rfl)) ?_
  intro W base args ds gs before hval0 hW _ _
  have hval : ∀ (j : Nat) t v, Try.f12.params[j]? = some t → args[j]? = some v → Value.okWide Try.prog W .any base t v := hval0
  have hread : ∀ t ∈ Try.f12.params.toList, Try.prog.readableRec t = true ∧ t < Try.prog.types.size := by
    rw [Try.params12]
    intro t ht
    simp only [List.mem_cons, List.not_mem_nil, or_false] at ht
    rcases ht with rfl | rfl
    all_goals exact ⟨by kernel_rfl, of_decide_eq_true (by kernel_rfl)⟩
  have hW' := hW
  obtain ⟨p, q, hA0, hV, -, -⟩ := hW'
  have hA : DataW.TrodAll enc Try.prog W 0 (fun _ => true) true Try.f12.params.toList args.toList ds p := hA0
  rw [Try.params12] at hA hval
  obtain ⟨v0, vs0, d0, ds0, p0, q0, hargs, rfl, rfl, h0, r0⟩ := trodAll_cons hA
  obtain ⟨v1, vs1, d1, ds1, p1, q1, rfl, rfl, rfl, h1, r1⟩ := trodAll_cons r0
  obtain ⟨rfl, rfl, rfl⟩ := trodAll_nil r1
  obtain rfl : args = #[v0, v1] := by cases args; simp_all
  obtain ⟨rfl, rfl⟩ := trodVars_none hV
  have k0 := hval 0 87 v0 rfl rfl
  have k1 := hval 1 3 v1 rfl rfl
  clear hval hval0 hA0 hV hA
  obtain ⟨cc, fuel0, rfl, g0⟩ := agg_of Try.underlying87 k0 h0
  obtain ⟨zcols, zrows, zside, zradius, zspeed, zids, zqueue, zz, po, pn, pc, eo, en, ec, own, near, ms, e0, b1, b2, b3, y1, y2, y3, _⟩ := read_case15 g0
  subst e0
  obtain ⟨aa, rfl, rfl, rfl, _⟩ := open_int Try.underlying3 k1 h1
  exact (walk _ _ _ _ _ _ _ _ aa po pn pc eo en ec own near ms W b1 b2 b3 y1 y2 y3).mono fun e W' ⟨he, hb⟩ => ⟨_, he, post_true rfl rfl hread rfl hW hb⟩

/-- TickTurns: true for every input; the arguments stay. -/
theorem proved : Rows.TickTurnsSaid :=
  OpenClaim.holds_of_wide 12 Try.f12 rfl rfl rfl rfl rfl rfl rfl ⟨rfl, rfl, rfl, rfl, rfl⟩ rfl rfl rfl rfl rfl (by kernel_rfl) Try.func12 (by kernel_rfl)
    (of_decide_eq_true (by kernel_rfl)) (by unfold Func.isWrapper; first | (rw [if_pos (by decide +kernel)]; kernel_rfl) | (rw [if_neg (by decide +kernel)]; exact ⟨rfl, rfl⟩))
    (fun os started H enc _ => lifted os started H enc)
end Go.Proofs.Ytcnclcfipabimaa.tickTurns
