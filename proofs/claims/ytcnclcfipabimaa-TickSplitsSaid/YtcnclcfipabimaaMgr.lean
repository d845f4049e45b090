/-
  Chapter 22, the reference: told, Missing, Near. Condition: what was told can be read.
  Chapter 22, the reference: Missing. Condition: the world may be; what was told can be read.
  Chapter 22, the reference: Near. Condition: what was told can be read.
  Chapter 22, the reference: Fold. Condition: the world may be; what was told can be read.
  Chapter 22, the reference: Fold that notes. Condition: the world may be; what was told can be read.
-/
import Derived.Test.YtcnclcfipabimaaMgb
import Derived.Test.YtcnclcfipabimaaMrf
import Derived.Test.YtcnclcfipabimaaMgc
namespace Go.Proofs.Ytcnclcfipabimaa
open Go.RowKit

set_option maxHeartbeats 2000000 in
theorem rtold_any (s : Sta) (L : List Gh) (fr : Int) (W : World) (hL : RIn ghL W (.slice s.pg s.ng s.cg) L) :
    Calls Try.prog 64 #[.agg #[.int .i64 s.ep, .int .i64 s.t, .slice s.po s.no s.co, .slice s.pd s.nd s.cd, .slice s.pu s.nu s.cu, .slice s.pi s.ni s.ci, .slice s.pg s.ng s.cg, .int .i64 s.nx], .int .i64 fr] W fun e w' => e = .returned (.bool (saidF L s.t fr)) ∧ Below W.heap.size W w' := by
  have HL := Lib.hid hL
  obtain ⟨_, _, hv0, hm, _⟩ := hL
  have hng : s.ng = L.length := by simp only [Value.slice.injEq] at hv0; exact hv0.2.1
  clear hv0
  unfold maxLen at hm
  generalize s.pg = pg at *
  generalize s.cg = cg at *
  generalize s.ng = ng at *
  subst hng
  have HH := Lib.hid (rfl : saidF L s.t fr = saidF L s.t fr)
  obtain ⟨hb, HHB⟩ : ∃ hb : Bool, Hid (saidF L s.t fr = hb) := ⟨_, Lib.hid rfl⟩
  rw [HHB.out]
  clear HH
  go_enter Try.func64, Try.ntmps64
  go_wp2_with fail
  generalize hw1 : World.alloc _ _ = w1
  have hb1 : Below W.heap.size W w1 := by rw [← hw1]; exact (by repeat' (first | (with_reducible exact Below.refl _ _) | (with_reducible assumption) | (with_reducible refine below_drewN ?_ _) | (with_reducible refine below_more _ _ _ ?_ ?_) | (with_reducible refine Below.alloc ?_ ?_ _) | (with_reducible refine Below.drew ?_) | (with_reducible refine Below.setCell ?_ ?_ _) | go_size))
  have hc1 : w1.cell? ⟨W.heap.size, 1, none⟩ = some (.int .i64 s.t) := by rw [← hw1]; simp [go_sem]
  have hc6 : w1.cell? ⟨W.heap.size, 6, none⟩ = some (.slice pg L.length cg) := by rw [← hw1]; simp [go_sem]
  have hs1 : W.heap.size < w1.heap.size := by rw [← hw1]; simp
  have HB1 := Lib.hid hb1
  clear hb1 hw1
  go_loopg [5] L.length (fun kx sk wr => ∃ (k d : Nat) (os : Array Obj), sk = .int .i64 k ∧ k ≤ L.length ∧ L.length - k ≤ kx ∧ Hid (wr = more w1 d os) ∧ Hid ((L.take k).any (fun g => g.f == fr && g.t == s.t) = false))
  case atStart => exact ⟨0, w1.drawn, #[], by go_num, by omega, by omega, Lib.hid (by simp [more]), Lib.hid (by simp)⟩
  case round =>
    obtain ⟨k, d, os, rfl, hk, hkx, HW, HA⟩ := hrel
    obtain rfl := HW.out
    clear HW
    obtain ⟨z0, z1, z2⟩ := ltz hs1
    by_cases hlt : k < L.length
    · have t1 : (k : Int) < (L.length : Int) := by omega
      obtain ⟨g, hg⟩ : ∃ g, L[k]? = some g := ⟨_, List.getElem?_eq_getElem hlt⟩
      obtain ⟨gb, ob, cb, hv, hgb, hcb⟩ := (HL.out.keep HB1.out).cells ghL_len hg
      simp only [Value.slice.injEq, true_and] at hv
      obtain ⟨rfl, rfl⟩ := hv
      have c0 := hcb 0 _ rfl
      have c1 := hcb 1 _ rfl
      simp only [Nat.add_zero] at c0
      have HST : (L.take (k + 1)).any (fun g => g.f == fr && g.t == s.t) = (g.f == fr && g.t == s.t) := by
        rw [List.take_succ_eq_append_getElem hlt, List.any_append, HA.out, (List.getElem?_eq_some_iff.1 hg).2]; simp
      have HMM : ∀ b, (g.f == fr && g.t == s.t) = b → b = true → hb = true := fun b h1 h2 => by
        rw [← HHB.out]; unfold saidF; exact List.any_eq_true.2 ⟨g, List.mem_of_getElem? hg, by rw [h1, h2]⟩
      have HS2 := Lib.hid HST
      have HM2 := Lib.hid HMM
      obtain ⟨y0, y1, y2⟩ := ltz hgb
      clear hcb hg HST HMM
      obtain ⟨gf, gt, gp, gn, gc⟩ := g
      simp only at c0 c1 HS2 HM2
      cases e1 : (gf == fr) with
      | false =>
        rw [e1] at HS2
        go_wp2_with fail
        refine wp_region_more (by kernel_rfl) (by kernel_rfl) ?_
        repeat (go_big_quiet_step (fail))
        refine wpQuiet_nil ?_
        rintro _ ⟨pn, rfl⟩
        go_wp2_with fail
        go_roundg (L.length - (k + 1))
        case measure => omega
        case rel => exact ⟨k + 1, _, _, by go_num, by omega, by omega, Lib.hid (more_more _ _ _ _ _), Lib.hid (by rw [HS2.out]; rfl)⟩
      | true =>
        cases e2 : (gt == s.t) with
        | false =>
          rw [e1, e2] at HS2
          go_wp2_with fail
          refine wp_region_more (by kernel_rfl) (by kernel_rfl) ?_
          repeat (go_big_quiet_step (fail))
          refine wpQuiet_nil ?_
          rintro _ ⟨pn, rfl⟩
          go_wp2_with fail
          go_roundg (L.length - (k + 1))
          case measure => omega
          case rel => exact ⟨k + 1, _, _, by go_num, by omega, by omega, Lib.hid (more_more _ _ _ _ _), Lib.hid (by rw [HS2.out]; rfl)⟩
        | true =>
          have hbt : hb = true := HM2.out true (by rw [e1, e2]; rfl) rfl
          subst hbt
          go_wp2_with fail
          refine wp_region_more (by kernel_rfl) (by kernel_rfl) ?_
          repeat (go_big_quiet_step (fail))
          refine wpQuiet_nil ?_
          rintro _ ⟨pn, rfl⟩
          go_wp2_with fail
          go_ret
          exact ⟨rfl, HB1.out.trans (Below.mono (B := w1.heap.size) (by repeat' (first | (with_reducible exact Below.refl _ _) | (with_reducible assumption) | (with_reducible refine below_drewN ?_ _) | (with_reducible refine below_more _ _ _ ?_ ?_) | (with_reducible refine Below.alloc ?_ ?_ _) | (with_reducible refine Below.drew ?_) | (with_reducible refine Below.setCell ?_ ?_ _) | go_size)) HB1.out.size)⟩
    · have t1 : ¬ (k : Int) < (L.length : Int) := by omega
      obtain rfl : k = L.length := by omega
      rw [List.take_length] at HA
      obtain rfl : hb = false := by rw [← HHB.out]; exact HA.out
      go_wp2_with fail
      go_ret
      exact ⟨rfl, HB1.out.trans (Below.mono (B := w1.heap.size) (by repeat' (first | (with_reducible exact Below.refl _ _) | (with_reducible assumption) | (with_reducible refine below_drewN ?_ _) | (with_reducible refine below_more _ _ _ ?_ ?_) | (with_reducible refine Below.alloc ?_ ?_ _) | (with_reducible refine Below.drew ?_) | (with_reducible refine Below.setCell ?_ ?_ _) | go_size)) HB1.out.size)⟩
end Go.Proofs.Ytcnclcfipabimaa
namespace Go.Proofs.Ytcnclcfipabimaa
open Go.RowKit

theorem rbeside_all (cols rows side radius speed ids queue : Int) (k : Int) (w : World) (ho : CfgOk ⟨cols, rows, side, radius, speed, ids, queue⟩) :
    Calls Try.prog 63 #[.agg #[.int .i64 cols, .int .i64 rows, .int .i64 side, .int .i64 radius, .int .i64 speed, .int .i64 ids, .int .i64 queue], .int .i64 k] w fun e w' => ∃ v', e = .returned v' ∧ RNew intL 3 1 w w' v' (besideR ⟨cols, rows, side, radius, speed, ids, queue⟩ k) := by
  unfold besideR
  by_cases hk : 0 ≤ k ∧ k < cols * rows
  · rw [if_pos hk]; exact rbeside_in cols rows side radius speed ids queue k w ho hk.1 hk.2
  · rw [if_neg hk]; exact rbeside_out cols rows side radius speed ids queue k w ho hk
theorem besideF_le (c : Cfg) (k : Int) (h : CfgOk c) : (besideF c k).length ≤ 16 := by
  obtain ⟨_, n2⟩ := h.cnt
  unfold besideF
  refine Nat.le_trans (List.length_filter_le _ _) ?_
  simp; omega
theorem besideR_le (c : Cfg) (k : Int) (h : CfgOk c) : (besideR c k).length ≤ 16 := by
  unfold besideR
  split
  · exact besideF_le c k h
  · simp
set_option maxRecDepth 100000 in
set_option maxHeartbeats 2000000 in
theorem rmissing_any (cols rows side radius speed ids queue : Int) (z : Int) (s : Sta) (L : List Gh) (W : World) (ho : CfgOk ⟨cols, rows, side, radius, speed, ids, queue⟩) (hL : RIn ghL W (.slice s.pg s.ng s.cg) L) :
    Calls Try.prog 27 #[.agg #[.int .i64 cols, .int .i64 rows, .int .i64 side, .int .i64 radius, .int .i64 speed, .int .i64 ids, .int .i64 queue], .int .i64 z, .agg #[.int .i64 s.ep, .int .i64 s.t, .slice s.po s.no s.co, .slice s.pd s.nd s.cd, .slice s.pu s.nu s.cu, .slice s.pi s.ni s.ci, .slice s.pg s.ng s.cg, .int .i64 s.nx]] W fun e w' => ∃ v', e = .returned v' ∧ RNew intL 3 1 W w' v' (missF (besideR ⟨cols, rows, side, radius, speed, ids, queue⟩ z) L s.t) := by
  obtain ⟨i0, hi0, hz0, hz1, hz2⟩ := info_parts info_intJ
  have HB := Lib.hid (fun W' => rbeside_all cols rows side radius speed ids queue z W' ho)
  have HT := Lib.hid (fun k W' (hW : Below W.heap.size W W') => rtold_any s L k W' (hL.keep hW))
  have hbl := besideR_le ⟨cols, rows, side, radius, speed, ids, queue⟩ z ho
  generalize besideR ⟨cols, rows, side, radius, speed, ids, queue⟩ z = bes at *
  have hmf : missF bes L s.t = bes.filter (fun k => !saidF L s.t k) := rfl
  rw [hmf]
  clear hL ho hmf
  generalize saidF L s.t = fb at *
  go_enter Try.func27, Try.ntmps27
  go_wp2_with fail
  refine (HB.out _).mono ?_
  rintro e w2 ⟨v2, rfl, hN⟩
  have hb2 := hN.2.1
  have z2 := hb2.size
  simp at z2
  have k5 : ∀ j, w2.cell? ⟨W.heap.size + 1, j, none⟩ = (#[.int .i64 s.ep, .int .i64 s.t, .slice s.po s.no s.co, .slice s.pd s.nd s.cd, .slice s.pu s.nu s.cu, .slice s.pi s.ni s.ci, .slice s.pg s.ng s.cg, .int .i64 s.nx] : Array Value)[j]? := fun j => by rw [hb2.cell (by first | (simp; done) | (simp; omega))]; simp [go_sem]
  have s5 : W.heap.size + 1 < w2.heap.size := by omega
  have hbW : Below W.heap.size W w2 := Below.trans (Below.mono (B := W.heap.size) (by repeat' (first | (with_reducible exact Below.refl _ _) | (with_reducible assumption) | (with_reducible refine below_drewN ?_ _) | (with_reducible refine below_more _ _ _ ?_ ?_) | (with_reducible refine Below.alloc ?_ ?_ _) | (with_reducible refine Below.drew ?_) | (with_reducible refine Below.setCell ?_ ?_ _) | go_size)) (Nat.le_refl _)) (hb2.mono (by simp; omega))
  have HBW := Lib.hid hbW
  have HR := Lib.hid hN.rin
  obtain ⟨pb, cb0, hpb⟩ := sl_frm hN.1
  subst hpb
  have K5 := Lib.hid k5
  clear hN hb2 k5 hbW z2
  go_wp2_with fail
  go_loopg [9, 7] bes.length (fun kx sk so wr => ∃ k : Nat, sk = .int .i64 k ∧ k ≤ bes.length ∧ bes.length - k ≤ kx ∧ Hid (RNew intL 3 1 w2 wr so ((bes.take k).filter fun k => !fb k)) ∧ Hid (((bes.take k).filter fun k => !fb k).length ≤ k))
  case atStart => exact ⟨0, by go_num, by omega, by omega, Lib.hid (RNew.nil w2), Lib.hid (by simp)⟩
  case round =>
    obtain ⟨k, rfl, hk, hkx, HN, HL⟩ := hrel
    obtain ⟨wa, rfl⟩ : ∃ wa : World, wa = wr := ⟨_, rfl⟩
    have hbl2 := HN.out.2.1
    have sz := hbl2.size
    have y0 := (hbl2.cell (p := ⟨W.heap.size + 1, 0, none⟩) s5).trans (K5.out 0); simp at y0; have y1 := (hbl2.cell (p := ⟨W.heap.size + 1, 1, none⟩) s5).trans (K5.out 1); simp at y1; have y2 := (hbl2.cell (p := ⟨W.heap.size + 1, 2, none⟩) s5).trans (K5.out 2); simp at y2; have y3 := (hbl2.cell (p := ⟨W.heap.size + 1, 3, none⟩) s5).trans (K5.out 3); simp at y3; have y4 := (hbl2.cell (p := ⟨W.heap.size + 1, 4, none⟩) s5).trans (K5.out 4); simp at y4; have y5 := (hbl2.cell (p := ⟨W.heap.size + 1, 5, none⟩) s5).trans (K5.out 5); simp at y5; have y6 := (hbl2.cell (p := ⟨W.heap.size + 1, 6, none⟩) s5).trans (K5.out 6); simp at y6; have y7 := (hbl2.cell (p := ⟨W.heap.size + 1, 7, none⟩) s5).trans (K5.out 7); simp at y7
    have sa : W.heap.size + 1 < wa.heap.size := by omega
    obtain ⟨z0, z1, z2⟩ := ltz sa
    have HBA := Lib.hid (HBW.out.trans (hbl2.mono HBW.out.size))
    by_cases hlt : k < bes.length
    · have t1 : (k : Int) < (bes.length : Int) := by omega
      obtain ⟨x, hx⟩ : ∃ x, bes[k]? = some x := ⟨_, List.getElem?_eq_getElem hlt⟩
      obtain ⟨gb, ob, cb, hv, hgb, hcb⟩ := (HR.out.keep hbl2).cells intL_len hx
      simp only [Value.slice.injEq, true_and] at hv
      obtain ⟨rfl, rfl⟩ := hv
      have c0 := hcb 0 _ rfl
      simp only [Nat.add_zero, Nat.mul_one] at c0
      obtain ⟨po, co, hpo⟩ := sl_frm HN.out.1
      subst hpo
      have hstep : (bes.take (k + 1)).filter (fun k => !fb k) = (bes.take k).filter (fun k => !fb k) ++ (if !fb x then [x] else []) := by
        rw [List.take_succ_eq_append_getElem hlt, List.filter_append, (List.getElem?_eq_some_iff.1 hx).2]
        cases hh : fb x <;> simp [hh]
      have HST := Lib.hid hstep
      have HTX := Lib.hid (fun W' hW => HT.out x W' hW)
      obtain ⟨x0, x1, x2⟩ := ltz hgb
      clear hcb hx hstep hbl2
      generalize hacc : (bes.take k).filter (fun k => !fb k) = acc at *
      have hal := HL.out
      clear hacc HL
      have hba := HBA.out
      cases he : fb x with
      | true =>
        rw [he] at HST HTX
        have HS2 := Lib.hid HST.out
        clear HST
        go_wp2_with fail
        refine wp_region_more (by kernel_rfl) (by kernel_rfl) ?_
        repeat (go_big_quiet_step ((first | (go_at_call 64; exact more_call (HTX.out _ (by repeat' (first | (with_reducible exact Below.refl _ _) | (with_reducible assumption) | (with_reducible refine below_drewN ?_ _) | (with_reducible refine below_more _ _ _ ?_ ?_) | (with_reducible refine Below.alloc ?_ ?_ _) | (with_reducible refine Below.drew ?_) | (with_reducible refine Below.setCell ?_ ?_ _) | go_size)))))))
        refine wpQuiet_nil ?_
        rintro _ ⟨pm, rfl⟩
        go_wp2_with fail
        go_roundg (bes.length - (k + 1))
        case measure => omega
        case rel => exact ⟨k + 1, by go_num, by omega, by omega, Lib.hid (by rw [HS2.out]; simpa using HN.out.grow (by repeat' (first | (with_reducible exact Below.refl _ _) | (with_reducible assumption) | (with_reducible refine below_drewN ?_ _) | (with_reducible refine below_more _ _ _ ?_ ?_) | (with_reducible refine Below.alloc ?_ ?_ _) | (with_reducible refine Below.drew ?_) | (with_reducible refine Below.setCell ?_ ?_ _) | go_size))), Lib.hid (by rw [HS2.out]; simp; omega)⟩
      | false =>
        rw [he] at HST HTX
        have HS2 := Lib.hid HST.out
        clear HST
        go_wp2_with fail
        refine wp_region_more (by kernel_rfl) (by kernel_rfl) ?_
        repeat (go_big_quiet_step ((first | (go_at_call 64; exact more_call (HTX.out _ (by repeat' (first | (with_reducible exact Below.refl _ _) | (with_reducible assumption) | (with_reducible refine below_drewN ?_ _) | (with_reducible refine below_more _ _ _ ?_ ?_) | (with_reducible refine Below.alloc ?_ ?_ _) | (with_reducible refine Below.drew ?_) | (with_reducible refine Below.setCell ?_ ?_ _) | go_size)))))))
        refine wpQuiet_nil ?_
        rintro _ ⟨pm, rfl⟩
        go_wp2_with (at_builtin; refine wpList_append_sl _ (by rfl) _ _ 53 (by rfl) 3 i0 _ 1 8 Try.underlying53 hi0 hz0 hz1 hz2 rfl (by omega) _ acc.length (cellsR intL acc) (by rfl) (HN.out.grow (by repeat' (first | (with_reducible exact Below.refl _ _) | (with_reducible assumption) | (with_reducible refine below_drewN ?_ _) | (with_reducible refine below_more _ _ _ ?_ ?_) | (with_reducible refine Below.alloc ?_ ?_ _) | (with_reducible refine Below.drew ?_) | (with_reducible refine Below.setCell ?_ ?_ _) | go_size))).1 ⟨_, 0, none⟩ 1 1 (intL x) (by rfl) (by rfl) (new_cellsN _ _ _ _ (by simp)) (intL_one _) (by omega) (by unfold maxLen; omega) (by omega) ?_; intro v' w4 hs4 ht4 ho4)
        have hm := (HN.out.grow (by repeat' (first | (with_reducible exact Below.refl _ _) | (with_reducible assumption) | (with_reducible refine below_drewN ?_ _) | (with_reducible refine below_more _ _ _ ?_ ?_) | (with_reducible refine Below.alloc ?_ ?_ _) | (with_reducible refine Below.drew ?_) | (with_reducible refine Below.setCell ?_ ?_ _) | go_size))).snoc hs4 ht4 ho4
        have HM := Lib.hid hm
        clear hs4 ht4 ho4 hm
        go_roundg (bes.length - (k + 1))
        case measure => omega
        case rel => exact ⟨k + 1, by go_num, by omega, by omega, Lib.hid (by rw [HS2.out]; simpa using HM.out), Lib.hid (by rw [HS2.out]; simp; omega)⟩
    · have t1 : ¬ (k : Int) < (bes.length : Int) := by omega
      obtain rfl : k = bes.length := by omega
      rw [List.take_length] at HN
      go_wp2_with fail
      go_ret
      exact ⟨_, rfl, HN.out.since HBW.out⟩
end Go.Proofs.Ytcnclcfipabimaa
namespace Go.Proofs.Ytcnclcfipabimaa
open Go.RowKit

set_option maxRecDepth 100000 in
set_option maxHeartbeats 2000000 in
theorem rgnear_any (s : Sta) (L : List Gh) (bl : Gh → List Bun) (W : World) (hL : RIn ghL W (.slice s.pg s.ng s.cg) L) (hO : GhOk W L bl) (hn : L.length ≤ 1000) :
    Calls Try.prog 29 #[.agg #[.int .i64 s.ep, .int .i64 s.t, .slice s.po s.no s.co, .slice s.pd s.nd s.cd, .slice s.pu s.nu s.cu, .slice s.pi s.ni s.ci, .slice s.pg s.ng s.cg, .int .i64 s.nx]] W fun e w' => ∃ v', e = .returned v' ∧ BNew W w' v' (nearG L s.t bl) := by
  have HSO := Lib.hid (fun v l W' h hl => rsorted_any v l W' h hl)
  have HNL := Lib.hid (fun k => nearTo_le (T := s.t) (fun g hg => (hO g hg).2) k)
  have HL := Lib.hid hL
  have HO := Lib.hid hO
  have hng : s.ng = L.length := by obtain ⟨_, _, e, _⟩ := hL; simp only [Value.slice.injEq] at e; exact e.2.1
  unfold nearG
  clear hL hO
  generalize s.pg = pg at *
  generalize s.cg = cg at *
  generalize s.ng = ng at *
  subst hng
  go_enter Try.func29, Try.ntmps29
  go_wp2_with fail
  generalize hw1 : World.alloc _ _ = w1
  have hb1 : Below W.heap.size W w1 := by rw [← hw1]; exact (by repeat' (first | (with_reducible exact Below.refl _ _) | (with_reducible assumption) | (with_reducible refine below_drewN ?_ _) | (with_reducible refine below_more _ _ _ ?_ ?_) | (with_reducible refine Below.alloc ?_ ?_ _) | (with_reducible refine Below.drew ?_) | (with_reducible refine Below.setCell ?_ ?_ _) | go_size))
  have hc1 : w1.cell? ⟨W.heap.size, 1, none⟩ = some (.int .i64 s.t) := by rw [← hw1]; simp [go_sem]
  have hc6 : w1.cell? ⟨W.heap.size, 6, none⟩ = some (.slice pg L.length cg) := by rw [← hw1]; simp [go_sem]
  have hs1 : W.heap.size < w1.heap.size := by rw [← hw1]; simp
  have HB1 := Lib.hid hb1
  clear hb1 hw1
  go_loopg [4, 3] L.length (fun kx sk so wr => ∃ k : Nat, sk = .int .i64 k ∧ k ≤ L.length ∧ L.length - k ≤ kx ∧ Hid (BNew w1 wr so (nearTo (L.take k) s.t bl)))
  case atStart => exact ⟨0, by go_num, by omega, by omega, Lib.hid (BNew.nil w1)⟩
  case round =>
    obtain ⟨k, rfl, hk, hkx, HN⟩ := hrel
    obtain ⟨wa, rfl⟩ : ∃ wa : World, wa = wr := ⟨_, rfl⟩
    have hbl := HN.out.2.1
    have hz := hbl.size
    have hca := (hbl.cell (p := ⟨W.heap.size, 1, none⟩) hs1).trans hc1
    have hcb6 := (hbl.cell (p := ⟨W.heap.size, 6, none⟩) hs1).trans hc6
    have hsa : W.heap.size < wa.heap.size := by omega
    obtain ⟨z0, z1, z2⟩ := ltz hsa
    by_cases hlt : k < L.length
    · have t1 : (k : Int) < (L.length : Int) := by omega
      obtain ⟨g, hg⟩ : ∃ g, L[k]? = some g := ⟨_, List.getElem?_eq_getElem hlt⟩
      have hlb := HB1.out.trans (hbl.mono HB1.out.size)
      obtain ⟨gb, ob, cb, hv, hgb, hcb⟩ := (HL.out.keep hlb).cells ghL_len hg
      simp only [Value.slice.injEq, true_and] at hv
      obtain ⟨rfl, rfl⟩ := hv
      have c0 := hcb 0 _ rfl
      have c1 := hcb 1 _ rfl
      have c2 := hcb 2 _ rfl
      simp only [Nat.add_zero] at c0
      have hgo := HO.out g (List.mem_of_getElem? hg)
      have HGB := Lib.hid (hgo.1.keep hlb)
      have hgl := hgo.2
      have HST := Lib.hid (nearTo_succ (T := s.t) (bl := bl) hg)
      have hnl := HNL.out k
      obtain ⟨po, co, hpo⟩ := sl_frm HN.out.1
      subst hpo
      obtain ⟨x0, x1, x2⟩ := ltz hgb
      clear hcb hg hgo hbl hlb
      generalize bl g = gl at *
      generalize nearTo (L.take k) s.t bl = acc at *
      obtain ⟨gf, gt, gp, gn, gc⟩ := g
      simp only at c0 c1 c2 HGB HST
      cases he : (gt == s.t) with
      | true =>
        rw [he] at HST
        have HS2 := Lib.hid HST.out
        clear HST
        go_wp2_with fail
        refine wp_region_more (by kernel_rfl) (by kernel_rfl) ?_
        repeat (go_big_quiet_step (fail))
        refine wpQuiet_nil ?_
        rintro _ ⟨pn, rfl⟩
        go_wp2_with (at_builtin; refine wpList_append_bins w1 _ (by rfl) _ _ (by rfl) _ _ acc gl (by rfl) (HN.out.grow (by repeat' (first | (with_reducible exact Below.refl _ _) | (with_reducible assumption) | (with_reducible refine below_drewN ?_ _) | (with_reducible refine below_more _ _ _ ?_ ?_) | (with_reducible refine Below.alloc ?_ ?_ _) | (with_reducible refine Below.drew ?_) | (with_reducible refine Below.setCell ?_ ?_ _) | go_size))) (by rfl) (HGB.out.keep (by repeat' (first | (with_reducible exact Below.refl _ _) | (with_reducible assumption) | (with_reducible refine below_drewN ?_ _) | (with_reducible refine below_more _ _ _ ?_ ?_) | (with_reducible refine Below.alloc ?_ ?_ _) | (with_reducible refine Below.drew ?_) | (with_reducible refine Below.setCell ?_ ?_ _) | go_size))) (by omega) (by omega) ?_; intro v4 w4 hm)
        have HM := Lib.hid hm
        clear hm
        go_roundg (L.length - (k + 1))
        case measure => omega
        case rel => exact ⟨k + 1, by go_num, by omega, by omega, Lib.hid (by rw [HS2.out]; exact HM.out)⟩
      | false =>
        rw [he] at HST
        have HS2 := Lib.hid HST.out
        clear HST
        go_wp2_with fail
        refine wp_region_more (by kernel_rfl) (by kernel_rfl) ?_
        repeat (go_big_quiet_step (fail))
        refine wpQuiet_nil ?_
        rintro _ ⟨pn, rfl⟩
        go_wp2_with fail
        go_roundg (L.length - (k + 1))
        case measure => omega
        case rel => exact ⟨k + 1, by go_num, by omega, by omega, Lib.hid (by rw [HS2.out]; simpa using HN.out.grow (by repeat' (first | (with_reducible exact Below.refl _ _) | (with_reducible assumption) | (with_reducible refine below_drewN ?_ _) | (with_reducible refine below_more _ _ _ ?_ ?_) | (with_reducible refine Below.alloc ?_ ?_ _) | (with_reducible refine Below.drew ?_) | (with_reducible refine Below.setCell ?_ ?_ _) | go_size)))⟩
    · have t1 : ¬ (k : Int) < (L.length : Int) := by omega
      obtain rfl : k = L.length := by omega
      rw [List.take_length] at HN
      have hnl := HNL.out L.length
      rw [List.take_length] at hnl
      obtain ⟨po, co, hpo⟩ := sl_frm HN.out.1
      subst hpo
      generalize hlf : nearTo L s.t bl = lf at *
      have HLF := Lib.hid hlf
      clear hlf
      have HSL := Lib.hid (HSO.out _ lf wa HN.out.bin (by omega))
      go_wp2_with fail
      refine HSL.out.mono ?_
      rintro e w3 ⟨v3, rfl, hS⟩
      go_wp2_with fail
      go_ret
      exact ⟨_, rfl, by rw [HLF.out]; exact hS.since (HB1.out.trans (HN.out.2.1.mono HB1.out.size))⟩
end Go.Proofs.Ytcnclcfipabimaa
namespace Go.Proofs.Ytcnclcfipabimaa
open Go.RowKit

set_option maxRecDepth 100000 in
set_option maxHeartbeats 4000000 in
theorem rfold_no (cols rows side radius speed ids queue : Int) (z : Int) (s : Sta) (r : Rcd) (L : List Gh) (W : World) (ho : CfgOk ⟨cols, rows, side, radius, speed, ids, queue⟩) (hL : RIn ghL W (.slice s.pg s.ng s.cg) L) (h : r.k ≠ 8 ∨ r.n ≠ s.t ∨ r.f ∉ missF (besideR ⟨cols, rows, side, radius, speed, ids, queue⟩ z) L s.t) :
    Calls Try.prog 31 #[.agg #[.int .i64 cols, .int .i64 rows, .int .i64 side, .int .i64 radius, .int .i64 speed, .int .i64 ids, .int .i64 queue], .int .i64 z, .agg #[.int .i64 s.ep, .int .i64 s.t, .slice s.po s.no s.co, .slice s.pd s.nd s.cd, .slice s.pu s.nu s.cu, .slice s.pi s.ni s.ci, .slice s.pg s.ng s.cg, .int .i64 s.nx], .agg #[.int .i64 r.k, .int .i64 r.n, .int .i64 r.f, .slice r.pc r.nc r.cc, .int .i64 (r.b).s, .int .i64 (r.b).i, .int .i64 (r.b).g, .int .i64 (r.b).m, .int .i64 (r.b).x, .int .i64 (r.b).y, .int .i64 (r.b).vx, .int .i64 (r.b).vy, .int .i64 (r.b).hp, .int .i64 (r.b).pw, .int .i64 (r.b).lf, .slice r.pl r.nl r.cl, .int .i64 r.s.ep, .int .i64 r.s.t, .slice r.s.po r.s.no r.s.co, .slice r.s.pd r.s.nd r.s.cd, .slice r.s.pu r.s.nu r.s.cu, .slice r.s.pi r.s.ni r.s.ci, .slice r.s.pg r.s.ng r.s.cg, .int .i64 r.s.nx]] W fun e w' => e = .returned (.tuple #[.agg #[.int .i64 0, .int .i64 0, .slice none 0 0, .slice none 0 0, .slice none 0 0, .slice none 0 0, .slice none 0 0, .int .i64 0], .int .i64 14]) ∧ Below W.heap.size W w' := by
  obtain ⟨w1, hw1, hb1, k6, k7, k8, g6, g8, hsz⟩ := three_boxes (W.alloc (.cells #[.int .i64 cols, .int .i64 rows, .int .i64 side, .int .i64 radius, .int .i64 speed, .int .i64 ids, .int .i64 queue] 23)) #[.int .i64 s.ep, .int .i64 s.t, .slice s.po s.no s.co, .slice s.pd s.nd s.cd, .slice s.pu s.nu s.cu, .slice s.pi s.ni s.ci, .slice s.pg s.ng s.cg, .int .i64 s.nx] #[.int .i64 r.k, .int .i64 r.n, .int .i64 r.f, .slice r.pc r.nc r.cc, .int .i64 (r.b).s, .int .i64 (r.b).i, .int .i64 (r.b).g, .int .i64 (r.b).m, .int .i64 (r.b).x, .int .i64 (r.b).y, .int .i64 (r.b).vx, .int .i64 (r.b).vy, .int .i64 (r.b).hp, .int .i64 (r.b).pw, .int .i64 (r.b).lf, .slice r.pl r.nl r.cl, .int .i64 r.s.ep, .int .i64 r.s.t, .slice r.s.po r.s.no r.s.co, .slice r.s.pd r.s.nd r.s.cd, .slice r.s.pu r.s.nu r.s.cu, .slice r.s.pi r.s.ni r.s.ci, .slice r.s.pg r.s.ng r.s.cg, .int .i64 r.s.nx] #[.int .i64 0, .int .i64 0, .slice none 0 0, .slice none 0 0, .slice none 0 0, .slice none 0 0, .slice none 0 0, .int .i64 0] 46 48 46
  simp only [World.size_alloc] at hsz k6 k7 k8 g6 g8
  have kc : ∀ j, w1.cell? ⟨W.heap.size, j, none⟩ = (#[.int .i64 cols, .int .i64 rows, .int .i64 side, .int .i64 radius, .int .i64 speed, .int .i64 ids, .int .i64 queue] : Array Value)[j]? := fun j => by rw [hb1.cell (p := ⟨W.heap.size, j, none⟩) (by simp)]; simp
  have hbW : Below W.heap.size W w1 := Below.trans (b := (W.alloc (.cells #[.int .i64 cols, .int .i64 rows, .int .i64 side, .int .i64 radius, .int .i64 speed, .int .i64 ids, .int .i64 queue] 23))) (by repeat' (first | (with_reducible exact Below.refl _ _) | (with_reducible assumption) | (with_reducible refine below_drewN ?_ _) | (with_reducible refine below_more _ _ _ ?_ ?_) | (with_reducible refine Below.alloc ?_ ?_ _) | (with_reducible refine Below.drew ?_) | (with_reducible refine Below.setCell ?_ ?_ _) | go_size)) (hb1.mono (by simp))
  have s4 : W.heap.size < w1.heap.size := by omega
  have s6 : W.heap.size + 1 < w1.heap.size := by omega
  have s7 : W.heap.size + 1 + 1 < w1.heap.size := by omega
  have s8 : W.heap.size + 1 + 1 + 1 < w1.heap.size := by omega
  obtain ⟨y0, y1, y2⟩ := ltz s4
  obtain ⟨z0, z1, z2⟩ := ltz s6
  obtain ⟨z3, z4, z5⟩ := ltz s7
  obtain ⟨z6, z7, z8⟩ := ltz s8
  have x40 := kc 0; simp at x40; have x41 := kc 1; simp at x41; have x42 := kc 2; simp at x42; have x43 := kc 3; simp at x43; have x44 := kc 4; simp at x44; have x45 := kc 5; simp at x45; have x46 := kc 6; simp at x46
  have x60 := k6 0; simp at x60; have x61 := k6 1; simp at x61; have x62 := k6 2; simp at x62; have x63 := k6 3; simp at x63; have x64 := k6 4; simp at x64; have x65 := k6 5; simp at x65; have x66 := k6 6; simp at x66; have x67 := k6 7; simp at x67
  have x70 := k7 0; simp at x70; have x71 := k7 1; simp at x71; have x72 := k7 2; simp at x72; have x715 := k7 15; simp at x715
  have x80 := k8 0; simp at x80; have x81 := k8 1; simp at x81; have x82 := k8 2; simp at x82; have x83 := k8 3; simp at x83; have x84 := k8 4; simp at x84; have x85 := k8 5; simp at x85; have x86 := k8 6; simp at x86; have x87 := k8 7; simp at x87
  have g80 := g8 0; have g81 := g8 1; have g82 := g8 2; have g83 := g8 3; have g84 := g8 4; have g85 := g8 5; have g86 := g8 6; have g87 := g8 7
  have g66 := g6 6
  have HW1 := Lib.hid hw1
  have HB1 := Lib.hid hbW
  have HZ := Lib.hid hbW.size
  clear hw1 hb1 hbW k6 k7 k8 g6 g8 kc hsz
  have HH := Lib.hid h
  clear h
  have HM := Lib.hid (fun W' (hW : Below w1.heap.size w1 W') => rmissing_any cols rows side radius speed ids queue z s L W' ho (hL.keep (HB1.out.trans (hW.mono HZ.out))))
  have HRL := Lib.hid (fun W' (hW : Below w1.heap.size w1 W') => hL.keep (HB1.out.trans (hW.mono HZ.out)))
  generalize missF (besideR ⟨cols, rows, side, radius, speed, ids, queue⟩ z) L s.t = ms at *
  clear ho hL
  go_enter Try.func31, Try.ntmps31
  go_upto_region 1 with fail
  rw [← HW1.out]
  go_wp2_with fail
  refine (HM.out _ (by repeat' (first | (with_reducible exact Below.refl _ _) | (with_reducible assumption) | (with_reducible refine below_drewN ?_ _) | (with_reducible refine below_more _ _ _ ?_ ?_) | (with_reducible refine Below.alloc ?_ ?_ _) | (with_reducible refine Below.drew ?_) | (with_reducible refine Below.setCell ?_ ?_ _) | go_size))).mono ?_
  rintro e w2 ⟨v2, rfl, hN⟩
  obtain ⟨pb, cb0, hpb⟩ := sl_frm hN.1
  subst hpb
  have HR := Lib.hid hN.rin
  have hb2 := hN.2.1
  have hml : ms.length ≤ 9223372036854775807 := by obtain ⟨_, _, _, h, _⟩ := hN.rin; exact h
  obtain ⟨d0, os0, rfl⟩ := more_of hb2
  clear hN hb2 HM
  go_wp2_with fail
  go_loopg [12, 11] ms.length (fun kx sk so wr => ∃ (k d : Nat) (os : Array Obj), sk = .int .i64 k ∧ so = .bool ((ms.take k).any (fun x => x == r.f)) ∧ k ≤ ms.length ∧ ms.length - k ≤ kx ∧ Hid (wr = more (more w1 d0 os0) d os))
  case atStart => exact ⟨0, (more w1 d0 os0).drawn, #[], by go_num, by simp, by omega, by omega, Lib.hid (by simp [more])⟩
  case round =>
    obtain ⟨k, d, os, rfl, rfl, hk, hkx, HW⟩ := hrel
    obtain rfl := HW.out
    clear HW
    by_cases hlt : k < ms.length
    · have t1 : (k : Int) < (ms.length : Int) := by omega
      obtain ⟨x, hx⟩ : ∃ x, ms[k]? = some x := ⟨_, List.getElem?_eq_getElem hlt⟩
      obtain ⟨gb, ob, cb, hv, hgb, hcb⟩ := HR.out.cells intL_len hx
      simp only [more_size] at hgb
      simp only [Value.slice.injEq, true_and] at hv
      obtain ⟨rfl, rfl⟩ := hv
      have c0 := hcb 0 _ rfl
      simp only [Nat.add_zero, Nat.mul_one] at c0
      have hstep : (ms.take (k + 1)).any (fun x => x == r.f) = ((ms.take k).any (fun x => x == r.f) || x == r.f) := by
        rw [List.take_succ_eq_append_getElem hlt, List.any_append, (List.getElem?_eq_some_iff.1 hx).2]; simp
      have HST := Lib.hid hstep
      obtain ⟨q0, q1, q2⟩ := ltz hgb
      clear hcb hx hstep
      generalize (ms.take k).any (fun x => x == r.f) = bb at *
      cases he : (x == r.f) with
      | true =>
        rw [he] at HST
        have HS2 := Lib.hid HST.out
        clear HST
        go_wp2_with fail
        refine wp_region_more (by kernel_rfl) (by kernel_rfl) ?_
        repeat (go_big_quiet_step (fail))
        refine wpQuiet_nil ?_
        rintro _ ⟨pn, rfl⟩
        go_wp2_with fail
        go_roundg (ms.length - (k + 1))
        case measure => omega
        case rel => exact ⟨k + 1, _, _, by go_num, by rw [HS2.out]; simp, by omega, by omega, Lib.hid (more_more _ _ _ _ _)⟩
      | false =>
        rw [he] at HST
        have HS2 := Lib.hid HST.out
        clear HST
        go_wp2_with fail
        refine wp_region_more (by kernel_rfl) (by kernel_rfl) ?_
        repeat (go_big_quiet_step (fail))
        refine wpQuiet_nil ?_
        rintro _ ⟨pn, rfl⟩
        go_wp2_with fail
        go_roundg (ms.length - (k + 1))
        case measure => omega
        case rel => exact ⟨k + 1, _, _, by go_num, by rw [HS2.out]; simp, by omega, by omega, Lib.hid (more_more _ _ _ _ _)⟩
    · have t1 : ¬ (k : Int) < (ms.length : Int) := by omega
      obtain rfl : k = ms.length := by omega
      rw [List.take_length]

      have hbb : ms.any (fun x => x == r.f) = true → r.f ∈ ms := fun h => by
        obtain ⟨x, h1, h2⟩ := List.any_eq_true.1 h
        rw [← show x = r.f by simpa using h2]; exact h1
      have HBB := Lib.hid hbb
      clear hbb
      generalize ms.any (fun x => x == r.f) = bb at *
      cases hk8 : (r.k != 8) with
      | true =>
        clear HH
        go_wp2_with fail
        have hb1 := HB1.out; exact bodyPost_ret (v := .tuple #[.agg #[.int .i64 0, .int .i64 0, .slice none 0 0, .slice none 0 0, .slice none 0 0, .slice none 0 0, .slice none 0 0, .int .i64 0], .int .i64 14]) (by simp [results, Try.results31, go_sem, *]) rfl ⟨rfl, (by repeat' (first | (with_reducible exact Below.refl _ _) | (with_reducible assumption) | (with_reducible refine below_drewN ?_ _) | (with_reducible refine below_more _ _ _ ?_ ?_) | (with_reducible refine Below.alloc ?_ ?_ _) | (with_reducible refine Below.drew ?_) | (with_reducible refine Below.setCell ?_ ?_ _) | go_size))⟩
      | false =>
        cases hn8 : (r.n != s.t) with
        | true =>
          clear HH
          go_wp2_with fail
          have hb1 := HB1.out; exact bodyPost_ret (v := .tuple #[.agg #[.int .i64 0, .int .i64 0, .slice none 0 0, .slice none 0 0, .slice none 0 0, .slice none 0 0, .slice none 0 0, .int .i64 0], .int .i64 14]) (by simp [results, Try.results31, go_sem, *]) rfl ⟨rfl, (by repeat' (first | (with_reducible exact Below.refl _ _) | (with_reducible assumption) | (with_reducible refine below_drewN ?_ _) | (with_reducible refine below_more _ _ _ ?_ ?_) | (with_reducible refine Below.alloc ?_ ?_ _) | (with_reducible refine Below.drew ?_) | (with_reducible refine Below.setCell ?_ ?_ _) | go_size))⟩
        | false =>
          have hb0 : bb = false := by
            simp at hk8 hn8
            rcases HH.out with h | h | h
            · exact absurd hk8 h
            · exact absurd hn8 h
            · cases bb with
              | false => rfl
              | true => exact absurd (HBB.out rfl) h
          subst hb0
          clear HH HBB
          go_wp2_with fail
          have hb1 := HB1.out; exact bodyPost_ret (v := .tuple #[.agg #[.int .i64 0, .int .i64 0, .slice none 0 0, .slice none 0 0, .slice none 0 0, .slice none 0 0, .slice none 0 0, .int .i64 0], .int .i64 14]) (by simp [results, Try.results31, go_sem, *]) rfl ⟨rfl, (by repeat' (first | (with_reducible exact Below.refl _ _) | (with_reducible assumption) | (with_reducible refine below_drewN ?_ _) | (with_reducible refine below_more _ _ _ ?_ ?_) | (with_reducible refine Below.alloc ?_ ?_ _) | (with_reducible refine Below.drew ?_) | (with_reducible refine Below.setCell ?_ ?_ _) | go_size))⟩
end Go.Proofs.Ytcnclcfipabimaa
namespace Go.Proofs.Ytcnclcfipabimaa
open Go.RowKit

/-- Ghosts behind others. -/
theorem wpList_append_ghs (w0 w : World) {ops : Array Oper} {rest : List Oper} {o : Oper} {a : Act} {Q : Exit → Act → World → Prop}
    (hg : o.guard = none) (s x : Operand) (hop : o.op = Op.call { callee := Callee.builtin Builtin.append, args := #[s, x], argTypes := #[36, 36] })
    (v vx : Value) (l0 l : List Gh) (hv : a.eval s = v) (hsl : RNew ghL 64 3 w0 w v l0) (hx : a.eval x = vx) (hb : RIn ghL w vx l) (h0 : l0.length ≤ 1000000) (hl : l.length ≤ 1000000)
    (hK : ∀ v' w', RNew ghL 64 3 w0 w' v' (l0 ++ l) → wpList Try.prog ops Q rest (a.put o.dst v') w') :
    wpList Try.prog ops Q (o :: rest) a w := by
  obtain ⟨i0, hi0, hz0, hz1, hz2⟩ := info_partsG info_gh
  obtain ⟨p, cap, rfl, h1, h2, h3, h4⟩ := hb
  by_cases hn : l = []
  · subst hn
    obtain ⟨q, c, rfl⟩ := sl_frm hsl.1
    refine wpList_append_zero hg s x 36 hop 64 i0 Try.underlying36 hi0 _ _ _ _ _ hv hx ?_ (hK _ _ (by simpa using hsl))
    obtain ⟨_, ⟨h, h0⟩ | ⟨g, off, cap', cur, h, hb, hn, hc, hsz, hr⟩⟩ := hsl.1
    · simp only [Value.slice.injEq] at h; omega
    · simp only [Value.slice.injEq] at h; omega
  · obtain ⟨blk, off, rfl, h5, h6⟩ := h4 hn
    have hn0 : 0 < l.length := List.length_pos_iff.2 hn
    refine wpList_append_sl w hg s x 36 hop 64 i0 _ 3 40 Try.underlying36 hi0 hz0 hz1 hz2 rfl (by omega) v l0.length (cellsR ghL l0) hv hsl.1 ⟨blk, off, none⟩ l.length cap (cellsR ghL l) hx (cellsR_len ghL 3 ghL_len l) (fun j u hj => ?_) (cellsR_mem ghL ghL_one) hn0 (by unfold maxLen; omega) (by omega) (fun v' w' hs ht ho => hK v' w' ⟨?_, ?_, ?_⟩)
    · rw [show Addr.add ⟨blk, off, none⟩ j = ⟨blk, off + j, none⟩ from by unfold Addr.add; split <;> simp_all]
      exact h6 j u hj
    · rw [cellsR_app, List.length_append]; exact hs
    · exact hsl.2.1.trans ⟨ht.os, ht.tape, ht.output, ht.size, fun k hk => ht.block k (by have := hsl.2.1.size; omega) fun e => by have := hsl.2.2 k e.symm; omega⟩
    · intro q hq
      rcases ho with e | ⟨g', e, hg'⟩
      · exact hsl.2.2 q (by rw [← e]; exact hq)
      · rw [e] at hq
        cases hq
        exact Nat.le_trans hsl.2.1.size hg'

set_option maxRecDepth 100000 in
set_option maxHeartbeats 4000000 in
theorem rfold_ok (cols rows side radius speed ids queue : Int) (z : Int) (s : Sta) (r : Rcd) (L : List Gh) (W : World) (ho : CfgOk ⟨cols, rows, side, radius, speed, ids, queue⟩) (hL : RIn ghL W (.slice s.pg s.ng s.cg) L) (hn : L.length ≤ 1000) (h8 : r.k = 8) (ht : r.n = s.t) (hf : r.f ∈ missF (besideR ⟨cols, rows, side, radius, speed, ids, queue⟩ z) L s.t) :
    Calls Try.prog 31 #[.agg #[.int .i64 cols, .int .i64 rows, .int .i64 side, .int .i64 radius, .int .i64 speed, .int .i64 ids, .int .i64 queue], .int .i64 z, .agg #[.int .i64 s.ep, .int .i64 s.t, .slice s.po s.no s.co, .slice s.pd s.nd s.cd, .slice s.pu s.nu s.cu, .slice s.pi s.ni s.ci, .slice s.pg s.ng s.cg, .int .i64 s.nx], .agg #[.int .i64 r.k, .int .i64 r.n, .int .i64 r.f, .slice r.pc r.nc r.cc, .int .i64 (r.b).s, .int .i64 (r.b).i, .int .i64 (r.b).g, .int .i64 (r.b).m, .int .i64 (r.b).x, .int .i64 (r.b).y, .int .i64 (r.b).vx, .int .i64 (r.b).vy, .int .i64 (r.b).hp, .int .i64 (r.b).pw, .int .i64 (r.b).lf, .slice r.pl r.nl r.cl, .int .i64 r.s.ep, .int .i64 r.s.t, .slice r.s.po r.s.no r.s.co, .slice r.s.pd r.s.nd r.s.cd, .slice r.s.pu r.s.nu r.s.cu, .slice r.s.pi r.s.ni r.s.ci, .slice r.s.pg r.s.ng r.s.cg, .int .i64 r.s.nx]] W fun e w' => ∃ p' n' c', e = .returned (.tuple #[.agg #[.int .i64 s.ep, .int .i64 s.t, .slice s.po s.no s.co, .slice s.pd s.nd s.cd, .slice s.pu s.nu s.cu, .slice s.pi s.ni s.ci, .slice p' n' c', .int .i64 s.nx], .int .i64 0]) ∧
      RNew ghL 64 3 W w' (.slice p' n' c') (L ++ [⟨r.f, r.n, r.pl, r.nl, r.cl⟩]) := by
  obtain ⟨i0, hi0, hz0, hz1, hz2⟩ := info_partsG info_gh
  obtain ⟨w1, hw1, hb1, k6, k7, k8, g6, g8, hsz⟩ := three_boxes (W.alloc (.cells #[.int .i64 cols, .int .i64 rows, .int .i64 side, .int .i64 radius, .int .i64 speed, .int .i64 ids, .int .i64 queue] 23)) #[.int .i64 s.ep, .int .i64 s.t, .slice s.po s.no s.co, .slice s.pd s.nd s.cd, .slice s.pu s.nu s.cu, .slice s.pi s.ni s.ci, .slice s.pg s.ng s.cg, .int .i64 s.nx] #[.int .i64 r.k, .int .i64 r.n, .int .i64 r.f, .slice r.pc r.nc r.cc, .int .i64 (r.b).s, .int .i64 (r.b).i, .int .i64 (r.b).g, .int .i64 (r.b).m, .int .i64 (r.b).x, .int .i64 (r.b).y, .int .i64 (r.b).vx, .int .i64 (r.b).vy, .int .i64 (r.b).hp, .int .i64 (r.b).pw, .int .i64 (r.b).lf, .slice r.pl r.nl r.cl, .int .i64 r.s.ep, .int .i64 r.s.t, .slice r.s.po r.s.no r.s.co, .slice r.s.pd r.s.nd r.s.cd, .slice r.s.pu r.s.nu r.s.cu, .slice r.s.pi r.s.ni r.s.ci, .slice r.s.pg r.s.ng r.s.cg, .int .i64 r.s.nx] #[.int .i64 0, .int .i64 0, .slice none 0 0, .slice none 0 0, .slice none 0 0, .slice none 0 0, .slice none 0 0, .int .i64 0] 46 48 46
  simp only [World.size_alloc] at hsz k6 k7 k8 g6 g8
  have kc : ∀ j, w1.cell? ⟨W.heap.size, j, none⟩ = (#[.int .i64 cols, .int .i64 rows, .int .i64 side, .int .i64 radius, .int .i64 speed, .int .i64 ids, .int .i64 queue] : Array Value)[j]? := fun j => by rw [hb1.cell (p := ⟨W.heap.size, j, none⟩) (by simp)]; simp
  have hbW : Below W.heap.size W w1 := Below.trans (b := (W.alloc (.cells #[.int .i64 cols, .int .i64 rows, .int .i64 side, .int .i64 radius, .int .i64 speed, .int .i64 ids, .int .i64 queue] 23))) (by repeat' (first | (with_reducible exact Below.refl _ _) | (with_reducible assumption) | (with_reducible refine below_drewN ?_ _) | (with_reducible refine below_more _ _ _ ?_ ?_) | (with_reducible refine Below.alloc ?_ ?_ _) | (with_reducible refine Below.drew ?_) | (with_reducible refine Below.setCell ?_ ?_ _) | go_size)) (hb1.mono (by simp))
  have s4 : W.heap.size < w1.heap.size := by omega
  have s6 : W.heap.size + 1 < w1.heap.size := by omega
  have s7 : W.heap.size + 1 + 1 < w1.heap.size := by omega
  have s8 : W.heap.size + 1 + 1 + 1 < w1.heap.size := by omega
  obtain ⟨y0, y1, y2⟩ := ltz s4
  obtain ⟨z0, z1, z2⟩ := ltz s6
  obtain ⟨z3, z4, z5⟩ := ltz s7
  obtain ⟨z6, z7, z8⟩ := ltz s8
  have x40 := kc 0; simp at x40; have x41 := kc 1; simp at x41; have x42 := kc 2; simp at x42; have x43 := kc 3; simp at x43; have x44 := kc 4; simp at x44; have x45 := kc 5; simp at x45; have x46 := kc 6; simp at x46
  have x60 := k6 0; simp at x60; have x61 := k6 1; simp at x61; have x62 := k6 2; simp at x62; have x63 := k6 3; simp at x63; have x64 := k6 4; simp at x64; have x65 := k6 5; simp at x65; have x66 := k6 6; simp at x66; have x67 := k6 7; simp at x67
  have x70 := k7 0; simp at x70; have x71 := k7 1; simp at x71; have x72 := k7 2; simp at x72; have x715 := k7 15; simp at x715
  have x80 := k8 0; simp at x80; have x81 := k8 1; simp at x81; have x82 := k8 2; simp at x82; have x83 := k8 3; simp at x83; have x84 := k8 4; simp at x84; have x85 := k8 5; simp at x85; have x86 := k8 6; simp at x86; have x87 := k8 7; simp at x87
  have g80 := g8 0; have g81 := g8 1; have g82 := g8 2; have g83 := g8 3; have g84 := g8 4; have g85 := g8 5; have g86 := g8 6; have g87 := g8 7
  have g66 := g6 6
  have HW1 := Lib.hid hw1
  have HB1 := Lib.hid hbW
  have HZ := Lib.hid hbW.size
  clear hw1 hb1 hbW k6 k7 k8 g6 g8 kc hsz
  have hk8 : (r.k != 8) = false := by simpa using h8
  have hnt : (r.n != s.t) = false := by simpa using ht
  have HF := Lib.hid hf
  clear h8 ht hf
  have HM := Lib.hid (fun W' (hW : Below w1.heap.size w1 W') => rmissing_any cols rows side radius speed ids queue z s L W' ho (hL.keep (HB1.out.trans (hW.mono HZ.out))))
  have HRL := Lib.hid (fun W' (hW : Below w1.heap.size w1 W') => hL.keep (HB1.out.trans (hW.mono HZ.out)))
  generalize missF (besideR ⟨cols, rows, side, radius, speed, ids, queue⟩ z) L s.t = ms at *
  clear ho hL
  go_enter Try.func31, Try.ntmps31
  go_upto_region 1 with fail
  rw [← HW1.out]
  go_wp2_with fail
  refine (HM.out _ (by repeat' (first | (with_reducible exact Below.refl _ _) | (with_reducible assumption) | (with_reducible refine below_drewN ?_ _) | (with_reducible refine below_more _ _ _ ?_ ?_) | (with_reducible refine Below.alloc ?_ ?_ _) | (with_reducible refine Below.drew ?_) | (with_reducible refine Below.setCell ?_ ?_ _) | go_size))).mono ?_
  rintro e w2 ⟨v2, rfl, hN⟩
  obtain ⟨pb, cb0, hpb⟩ := sl_frm hN.1
  subst hpb
  have HR := Lib.hid hN.rin
  have hb2 := hN.2.1
  have hml : ms.length ≤ 9223372036854775807 := by obtain ⟨_, _, _, h, _⟩ := hN.rin; exact h
  obtain ⟨d0, os0, rfl⟩ := more_of hb2
  clear hN hb2 HM
  go_wp2_with fail
  go_loopg [12, 11] ms.length (fun kx sk so wr => ∃ (k d : Nat) (os : Array Obj), sk = .int .i64 k ∧ so = .bool ((ms.take k).any (fun x => x == r.f)) ∧ k ≤ ms.length ∧ ms.length - k ≤ kx ∧ Hid (wr = more (more w1 d0 os0) d os))
  case atStart => exact ⟨0, (more w1 d0 os0).drawn, #[], by go_num, by simp, by omega, by omega, Lib.hid (by simp [more])⟩
  case round =>
    obtain ⟨k, d, os, rfl, rfl, hk, hkx, HW⟩ := hrel
    obtain rfl := HW.out
    clear HW
    by_cases hlt : k < ms.length
    · have t1 : (k : Int) < (ms.length : Int) := by omega
      obtain ⟨x, hx⟩ : ∃ x, ms[k]? = some x := ⟨_, List.getElem?_eq_getElem hlt⟩
      obtain ⟨gb, ob, cb, hv, hgb, hcb⟩ := HR.out.cells intL_len hx
      simp only [more_size] at hgb
      simp only [Value.slice.injEq, true_and] at hv
      obtain ⟨rfl, rfl⟩ := hv
      have c0 := hcb 0 _ rfl
      simp only [Nat.add_zero, Nat.mul_one] at c0
      have hstep : (ms.take (k + 1)).any (fun x => x == r.f) = ((ms.take k).any (fun x => x == r.f) || x == r.f) := by
        rw [List.take_succ_eq_append_getElem hlt, List.any_append, (List.getElem?_eq_some_iff.1 hx).2]; simp
      have HST := Lib.hid hstep
      obtain ⟨q0, q1, q2⟩ := ltz hgb
      clear hcb hx hstep
      generalize (ms.take k).any (fun x => x == r.f) = bb at *
      cases he : (x == r.f) with
      | true =>
        rw [he] at HST
        have HS2 := Lib.hid HST.out
        clear HST
        go_wp2_with fail
        refine wp_region_more (by kernel_rfl) (by kernel_rfl) ?_
        repeat (go_big_quiet_step (fail))
        refine wpQuiet_nil ?_
        rintro _ ⟨pn, rfl⟩
        go_wp2_with fail
        go_roundg (ms.length - (k + 1))
        case measure => omega
        case rel => exact ⟨k + 1, _, _, by go_num, by rw [HS2.out]; simp, by omega, by omega, Lib.hid (more_more _ _ _ _ _)⟩
      | false =>
        rw [he] at HST
        have HS2 := Lib.hid HST.out
        clear HST
        go_wp2_with fail
        refine wp_region_more (by kernel_rfl) (by kernel_rfl) ?_
        repeat (go_big_quiet_step (fail))
        refine wpQuiet_nil ?_
        rintro _ ⟨pn, rfl⟩
        go_wp2_with fail
        go_roundg (ms.length - (k + 1))
        case measure => omega
        case rel => exact ⟨k + 1, _, _, by go_num, by rw [HS2.out]; simp, by omega, by omega, Lib.hid (more_more _ _ _ _ _)⟩
    · have t1 : ¬ (k : Int) < (ms.length : Int) := by omega
      obtain rfl : k = ms.length := by omega
      rw [List.take_length]

      have hbb : ms.any (fun x => x == r.f) = true := List.any_eq_true.2 ⟨r.f, HF.out, by simp⟩
      rw [hbb]
      clear hbb
      go_upto_region 12 with (at_builtin; refine wpList_append_ghs w1 _ (by rfl) _ _ (by rfl) _ _ [] L (by rfl) ((RNew.nil _).since (by repeat' (first | (with_reducible exact Below.refl _ _) | (with_reducible assumption) | (with_reducible refine below_drewN ?_ _) | (with_reducible refine below_more _ _ _ ?_ ?_) | (with_reducible refine Below.alloc ?_ ?_ _) | (with_reducible refine Below.drew ?_) | (with_reducible refine Below.setCell ?_ ?_ _) | go_size))) (by rfl) (HRL.out _ (by repeat' (first | (with_reducible exact Below.refl _ _) | (with_reducible assumption) | (with_reducible refine below_drewN ?_ _) | (with_reducible refine below_more _ _ _ ?_ ?_) | (with_reducible refine Below.alloc ?_ ?_ _) | (with_reducible refine Below.drew ?_) | (with_reducible refine Below.setCell ?_ ?_ _) | go_size))) (by simp) (by omega) ?_; intro v1 w3 hV1; rw [List.nil_append] at hV1; obtain ⟨d3, os3, rfl⟩ := more_of hV1.2.1)
      go_upto_region 13 with (at_builtin; refine wpList_append_sl _ (by rfl) _ _ 36 (by rfl) 64 i0 _ 3 40 Try.underlying36 hi0 hz0 hz1 hz2 rfl (by omega) _ L.length (cellsR ghL L) (by rfl) (hV1.grow (by repeat' (first | (with_reducible exact Below.refl _ _) | (with_reducible assumption) | (with_reducible refine below_drewN ?_ _) | (with_reducible refine below_more _ _ _ ?_ ?_) | (with_reducible refine Below.alloc ?_ ?_ _) | (with_reducible refine Below.drew ?_) | (with_reducible refine Below.setCell ?_ ?_ _) | go_size))).1 ⟨_, 0, none⟩ 1 1 (ghL ⟨r.f, r.n, r.pl, r.nl, r.cl⟩) (by rfl) (by rfl) (new_cellsN _ _ _ _ (by simp)) (ghL_one _) (by omega) (by unfold maxLen; omega) (by omega) ?_; intro v4 w5 hs4 ht4 ho4; have hm := (hV1.grow (by repeat' (first | (with_reducible exact Below.refl _ _) | (with_reducible assumption) | (with_reducible refine below_drewN ?_ _) | (with_reducible refine below_more _ _ _ ?_ ?_) | (with_reducible refine Below.alloc ?_ ?_ _) | (with_reducible refine Below.drew ?_) | (with_reducible refine Below.setCell ?_ ?_ _) | go_size))).snoc hs4 ht4 ho4; obtain ⟨p4, c4, rfl⟩ := sl_frm hm.1; obtain ⟨d5, os5, rfl⟩ := more_of hm.2.1)
      go_wp2_with fail
      have hb1 := HB1.out
      have hg4 := hm.2.2
      refine bodyPost_ret (v := .tuple #[.agg #[.int .i64 s.ep, .int .i64 s.t, .slice s.po s.no s.co, .slice s.pd s.nd s.cd, .slice s.pu s.nu s.cu, .slice s.pi s.ni s.ci, .slice p4 (L ++ [(⟨r.f, r.n, r.pl, r.nl, r.cl⟩ : Gh)]).length c4, .int .i64 s.nx], .int .i64 0]) (by simp [results, Try.results31, go_sem, *]) rfl ⟨_, _, _, rfl, ⟨hm.1.keep fun g hg => ?_, (by repeat' (first | (with_reducible exact Below.refl _ _) | (with_reducible assumption) | (with_reducible refine below_drewN ?_ _) | (with_reducible refine below_more _ _ _ ?_ ?_) | (with_reducible refine Below.alloc ?_ ?_ _) | (with_reducible refine Below.drew ?_) | (with_reducible refine Below.setCell ?_ ?_ _) | go_size)), fun g hg => ?_⟩⟩
      · have := hg4 g hg
        refine more_heap_congr (by simp) ?_
        simp [World.setCell, Array.getElem?_modify, show ¬ W.heap.size + 1 = g by omega, show ¬ W.heap.size + 1 + 1 + 1 = g by omega]
      · have := hg4 g hg; omega
end Go.Proofs.Ytcnclcfipabimaa
