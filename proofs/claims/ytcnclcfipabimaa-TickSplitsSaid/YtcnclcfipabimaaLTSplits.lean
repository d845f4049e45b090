/-
  TickSplits: for every world, entities and commands the law returns true, and the arguments stay as they were. No condition.
-/
import Derived.Test.YtcnclcfipabimaaTwB
import Derived.Test.YtcnclcfipabimaaMwc
import Derived.Test.YtcnclcfipabimaaMpn
import Derived.Test.YtcnclcfipabimaaTpF
import Derived.Test.YtcnclcfipabimaaTkM
import Derived.Test.YtcnclcfipabimaaLiv
import Derived.Test.YtcnclcfipabimaaMrt
import Derived.Test.YtcnclcfipabimaaSyF
import Derived.Test.YtcnclcfipabimaaMsn
namespace Go.Proofs.Ytcnclcfipabimaa.tickSplits
open Go.ChangeShapes Go.WideShapes Go.ChangeAt Go.RowKit

/-- A zone's result beside what is gathered: names that are read, a box, two lists that grow. -/
structure InZ (w0 wr : World) (n : Nat) (arr : Array Value) (vd : Value) (dz : List Nid) (s1 s2 : Value) (la lb : List Bun) : Prop where
  p : Prs w0 wr s1 s2 la lb
  d : Sl wr 39 3 vd dz.length (cellsR nidL dz)
  bx : n < wr.heap.size ∧ ∀ u, wr.cell? ⟨n, u, none⟩ = arr[u]?
  d1 : ∀ g, s2.ownBlock = some g → vd.ownBlock ≠ some g
  d2 : s2.ownBlock ≠ some n
theorem InZ.grow {w0 wr w' : World} {n : Nat} {arr : Array Value} {vd s1 s2 : Value} {dz : List Nid} {la lb : List Bun} (h : InZ w0 wr n arr vd dz s1 s2 la lb) (hb : Below wr.heap.size wr w') : InZ w0 w' n arr vd dz s1 s2 la lb :=
  ⟨h.p.grow hb, h.d.grow hb, ⟨Nat.lt_of_lt_of_le h.bx.1 hb.size, box_on hb h.bx.1 h.bx.2⟩, h.d1, h.d2⟩
theorem InZ.app1 {w0 wr w' : World} {n : Nat} {arr : Array Value} {vd s1 s2 v' : Value} {dz : List Nid} {la lb : List Bun} {x : Bun} (h : InZ w0 wr n arr vd dz s1 s2 la lb) (hs : Sl w' 41 11 v' (lb.length + 1) (bunCells lb ++ bunL x)) (ht : Turned wr w' s2.ownBlock)
    (ho : v'.ownBlock = s2.ownBlock ∨ ∃ g, v'.ownBlock = some g ∧ wr.heap.size ≤ g) : InZ w0 w' n arr vd dz s1 v' la (lb ++ [x]) := by
  refine ⟨(h.p.swap.app1 hs ht ho).swap, h.d.keep fun g hg => ht.block g (sl_lt h.d hg) (fun e => h.d1 g e.symm hg), ⟨Nat.lt_of_lt_of_le h.bx.1 ht.size, fun u => (World.cell?_of_block (w := wr) (a := ⟨n, u, none⟩) (ht.block n h.bx.1 fun e => h.d2 e.symm)).trans (h.bx.2 u)⟩, fun g hg e2 => ?_, fun e2 => ?_⟩
  · rcases ho with e | ⟨g', e, hg'⟩
    · exact h.d1 g (e ▸ hg) e2
    · rw [e] at hg; cases hg; have := sl_lt h.d e2; omega
  · rcases ho with e | ⟨g', e, hg'⟩
    · exact h.d2 (e ▸ e2)
    · rw [e] at e2; cases e2; have := h.bx.1; omega
set_option maxRecDepth 100000 in
set_option maxHeartbeats 4000000 in
theorem walk (cols rows side radius speed ids queue : Int) (v vc : Value) (l : List Bun) (ms : List Cm) (w : World) (hl : BIn w v l) (hbf : ∀ b ∈ l, BFit b) (hm : RIn cmC w vc ms) (hcf : ∀ m ∈ ms, CmFit m) :
    Calls Try.prog 10 #[.agg #[.int .i64 cols, .int .i64 rows, .int .i64 side, .int .i64 radius, .int .i64 speed, .int .i64 ids, .int .i64 queue], v, vc] w fun e w' => e = .returned (.bool true) ∧ Below w.heap.size w w' := by
  obtain ⟨i0, hi0, hz0, hz1, hz2⟩ := info_parts info_bunJ
  have HMay := Lib.hid (fun W => may_any cols rows side radius speed ids queue W)
  have ho := mayF_ok ⟨cols, rows, side, radius, speed, ids, queue⟩
  generalize mayF ⟨cols, rows, side, radius, speed, ids, queue⟩ = d at *
  obtain ⟨dcols, drows, dside, dradius, dspeed, dids, dqueue⟩ := d
  simp only at HMay
  have HO := Lib.hid ho
  have HLV := Lib.hid (fun W (hW : Below w.heap.size w W) => living_any dcols drows dside dradius dspeed dids dqueue v l W ho (hl.keep hW) (fun b hb => ⟨(hbf b hb).2.2.2.1.1, (hbf b hb).2.2.2.1.2⟩))
  have HLF := Lib.hid (livF_fit ho hbf)
  have hlu := livF_un ⟨dcols, drows, dside, dradius, dspeed, dids, dqueue⟩ l
  have hlm := livF_may ⟨dcols, drows, dside, dradius, dspeed, dids, dqueue⟩ l
  have hli := livF_in ho l
  have hln := livF_len ⟨dcols, drows, dside, dradius, dspeed, dids, dqueue⟩ l
  generalize livF ⟨dcols, drows, dside, dradius, dspeed, dids, dqueue⟩ l = l0 at *
  have HOD := Lib.hid (fun vl W (hW : Below w.heap.size w W) (hl : BIn W vl l0) => orders_any vl vc l0 ms W hl (hm.keep hW) hcf)
  have hcn := ordF_len l0 ms
  have hcm := ordF_mem l0 CmFit ms hcf
  have hfr := ordF_fresh l0 ms
  generalize ordF l0 ms = cs at *
  obtain ⟨hc1, hc2⟩ := ho.cnt
  simp only at hc1 hc2
  obtain ⟨cnt, hcnt⟩ : ∃ cnt : Nat, dcols * drows = (cnt : Int) := ⟨(dcols * drows).toNat, by omega⟩
  have hpw : ∀ b ∈ l0, PwOk b := fun b hb => rMay_pw b (hlm b hb)
  have hA := all_whole (c := ⟨dcols, drows, dside, dradius, dspeed, dids, dqueue⟩) ho hcnt hlu hli hpw hln hfr.1 hfr.2
  have hD := dead_whole (c := ⟨dcols, drows, dside, dradius, dspeed, dids, dqueue⟩) ho hcnt hlu hli hpw hln hfr.1 hfr.2
  have hG := (own_whole ⟨dcols, drows, dside, dradius, dspeed, dids, dqueue⟩ l0 cs).2
  have HRW := Lib.hid (fun bm vo vc W (hm : MapAt W bm ⟨dcols, drows, dside, dradius, dspeed, dids, dqueue⟩) (hl : BIn W vo l0) (hc : RIn cmC W vc cs) => prun_any bm ⟨dcols, drows, dside, dradius, dspeed, dids, dqueue⟩ (-1) vo (.slice none 0 0) vc l0 [] cs W hm ho (by omega) (by simp only; omega) hl (rin_zero (enc := bunL) _) hc HLF.out (fun m hm => (hcm m hm).1) (by omega) (by simp) (by omega))
  rw [hG] at HRW
  have hz : ∃ (oF gF : Nat → List Bun), (∀ (k : Nat) (hk : k < cnt) bm vo vn vc W (hm : MapAt W bm ⟨dcols, drows, dside, dradius, dspeed, dids, dqueue⟩) (hl : BIn W vo (partF ⟨dcols, drows, dside, dradius, dspeed, dids, dqueue⟩ k l0)) (hl2 : BIn W vn (wantF ⟨dcols, drows, dside, dradius, dspeed, dids, dqueue⟩ k l0)) (hc : RIn cmC W vc cs), Calls Try.prog 43 #[.pointer (some ⟨bm, 0, none⟩), .int .i64 k, vo, vn, vc] W (RunN W (oF k) (gF k) (zoneD ⟨dcols, drows, dside, dradius, dspeed, dids, dqueue⟩ l0 cs k))) ∧ ∀ k, zoneL ⟨dcols, drows, dside, dradius, dspeed, dids, dqueue⟩ l0 cs k = oF k ++ gF k :=
    ⟨fun k => ownL ⟨dcols, drows, dside, dradius, dspeed, dids, dqueue⟩ k (partF ⟨dcols, drows, dside, dradius, dspeed, dids, dqueue⟩ k l0) (wantF ⟨dcols, drows, dside, dradius, dspeed, dids, dqueue⟩ k l0) cs, fun k => goneL ⟨dcols, drows, dside, dradius, dspeed, dids, dqueue⟩ k (partF ⟨dcols, drows, dside, dradius, dspeed, dids, dqueue⟩ k l0) (wantF ⟨dcols, drows, dside, dradius, dspeed, dids, dqueue⟩ k l0) cs, fun k hk bm vo vn vc W hm hl hl2 hc => prun_new bm ⟨dcols, drows, dside, dradius, dspeed, dids, dqueue⟩ k vo vn vc (partF ⟨dcols, drows, dside, dradius, dspeed, dids, dqueue⟩ k l0) (wantF ⟨dcols, drows, dside, dradius, dspeed, dids, dqueue⟩ k l0) cs W hm ho (by omega) (by simp only; omega) hl hl2 hc (fun b hb => HLF.out b (List.mem_filter.1 hb).1) (fun m hm => (hcm m hm).1) (by have : (partF ⟨dcols, drows, dside, dradius, dspeed, dids, dqueue⟩ k l0).length ≤ l0.length := List.length_filter_le _ _; omega) (by have : (wantF ⟨dcols, drows, dside, dradius, dspeed, dids, dqueue⟩ k l0).length ≤ l0.length := List.length_filter_le _ _; omega) (by omega), fun k => rfl⟩
  obtain ⟨oF, gF, hrz, hz1⟩ := hz
  have HRZ := Lib.hid hrz; have HZ1 := Lib.hid hz1
  clear hrz hz1
  have HPT := Lib.hid (fun (k : Nat) v W (hl : BIn W v l0) => part15_any dcols drows dside dradius dspeed dids dqueue k v l0 W ho hl (by omega))
  have HAS := Lib.hid (fun k => allTo_succ ⟨dcols, drows, dside, dradius, dspeed, dids, dqueue⟩ l0 cs k)
  have HDS := Lib.hid (fun k => deaTo_succ ⟨dcols, drows, dside, dradius, dspeed, dids, dqueue⟩ l0 cs k)
  have HAL := Lib.hid (fun (k : Nat) (hk : k ≤ cnt) => show (allTo ⟨dcols, drows, dside, dradius, dspeed, dids, dqueue⟩ l0 cs k).length ≤ 1600 from Nat.le_trans (allTo_len ⟨dcols, drows, dside, dradius, dspeed, dids, dqueue⟩ l0 cs k) (Nat.le_trans (Nat.mul_le_mul (show k ≤ 16 by omega) (show l0.length + cs.length ≤ 100 by omega)) (by omega)))
  have HDL := Lib.hid (fun (k : Nat) (hk : k ≤ cnt) => show (deaTo ⟨dcols, drows, dside, dradius, dspeed, dids, dqueue⟩ l0 cs k).length ≤ 1600 from Nat.le_trans (deaTo_len (c := ⟨dcols, drows, dside, dradius, dspeed, dids, dqueue⟩) hlu hfr.1 hfr.2 k) (Nat.le_trans (Nat.mul_le_mul (show k ≤ 16 by omega) (show l0.length + cs.length ≤ 100 by omega)) (by omega)))
  have HZL := Lib.hid (fun (k : Nat) => show (zoneL ⟨dcols, drows, dside, dradius, dspeed, dids, dqueue⟩ l0 cs k).length ≤ 100 from Nat.le_trans (zoneL_len ⟨dcols, drows, dside, dradius, dspeed, dids, dqueue⟩ l0 cs k) (by omega))
  have HZD := Lib.hid (fun (k : Nat) => show (zoneD ⟨dcols, drows, dside, dradius, dspeed, dids, dqueue⟩ l0 cs k).length ≤ 100 from Nat.le_trans (zoneD_len (c := ⟨dcols, drows, dside, dradius, dspeed, dids, dqueue⟩) hlu hfr.1 hfr.2 k) (by omega))
  have HT0 := Lib.hid (show allTo ⟨dcols, drows, dside, dradius, dspeed, dids, dqueue⟩ l0 cs 0 = [] ∧ deaTo ⟨dcols, drows, dside, dradius, dspeed, dids, dqueue⟩ l0 cs 0 = [] from ⟨rfl, rfl⟩)
  generalize allTo ⟨dcols, drows, dside, dradius, dspeed, dids, dqueue⟩ l0 cs = aT at *
  generalize deaTo ⟨dcols, drows, dside, dradius, dspeed, dids, dqueue⟩ l0 cs = dT at *
  generalize zoneL ⟨dcols, drows, dside, dradius, dspeed, dids, dqueue⟩ l0 cs = zL at *
  generalize zoneD ⟨dcols, drows, dside, dradius, dspeed, dids, dqueue⟩ l0 cs = zD at *
  generalize ownL ⟨dcols, drows, dside, dradius, dspeed, dids, dqueue⟩ (-1) l0 [] cs = oW at *
  generalize setN (deadN ⟨dcols, drows, dside, dradius, dspeed, dids, dqueue⟩ (-1) l0 [] cs) = dW at *
  have HA := Lib.hid hA; have HD := Lib.hid hD
  have hoN : oW.length ≤ 1600 := by rw [← hA, stableF_len]; exact HAL.out cnt (Nat.le_refl _)
  have hdN : dW.length ≤ 1600 := by have := congrArg List.length hD; rw [stableF_len, List.length_map] at this; rw [← this]; exact HDL.out cnt (Nat.le_refl _)
  clear ho hl hbf hm hcf hlu hlm hli hfr hcm hpw hA hD hG HLF
  go_enter Try.func10, Try.ntmps10
  go_wp2_with (go_at_call 17; refine (HMay.out _).mono ?_; rintro e w' ⟨rfl, hb⟩; obtain ⟨d, os, rfl⟩ := more_of hb; clear hb)
  refine (znew_ok dcols drows dside dradius dspeed dids dqueue _ HO.out).mono ?_
  rintro e w2 ⟨b, rfl, hb2, hmap, hbb⟩
  have cC : ∀ j, w2.cell? ⟨w.heap.size, j, none⟩ = (#[.int .i64 dcols, .int .i64 drows, .int .i64 dside, .int .i64 dradius, .int .i64 dspeed, .int .i64 dids, .int .i64 dqueue] : Array Value)[j]? := fun j => by rw [hb2.cell (by simp; omega)]; simp [go_sem]
  have l2 : w.heap.size < w2.heap.size := by have := hb2.size; simp at this; omega
  have hb2w : Below w.heap.size w w2 := Below.trans (Below.mono (B := w.heap.size) (by repeat' (first | (with_reducible exact Below.refl _ _) | (with_reducible assumption) | (with_reducible refine below_drewN ?_ _) | (with_reducible refine below_more _ _ _ ?_ ?_) | (with_reducible refine Below.alloc ?_ ?_ _) | (with_reducible refine Below.drew ?_) | (with_reducible refine Below.setCell ?_ ?_ _) | go_size)) (Nat.le_refl _)) (hb2.mono (by simp; omega))
  have HB2 := Lib.hid hb2w
  have HMP := Lib.hid hmap
  have HC2 := Lib.hid cC
  have q0 := cC 0; simp at q0; have q1 := cC 1; simp at q1; have q2 := cC 2; simp at q2; have q3 := cC 3; simp at q3; have q4 := cC 4; simp at q4; have q5 := cC 5; simp at q5; have q6 := cC 6; simp at q6
  clear hb2 hmap hbb hb2w cC HMay
  go_wp2_with fail
  refine (HLV.out _ HB2.out).mono ?_
  rintro e w3 ⟨vl, rfl, hN⟩
  obtain ⟨pl, cl, rfl⟩ := sl_frm hN.1
  have hb3 := hN.2.1
  have HL3 := Lib.hid hN.bin
  have HM3 := Lib.hid (HMP.out.grow hb3)
  have HB3 := Lib.hid (HB2.out.trans (hb3.mono HB2.out.size))
  have HC3 := Lib.hid (box_on hb3 l2 HC2.out)
  replace l2 := Nat.lt_of_lt_of_le l2 hb3.size
  clear hN hb3 HMP HB2 HLV HC2 q0 q1 q2 q3 q4 q5 q6
  go_wp2_with fail
  refine (HOD.out _ _ HB3.out HL3.out).mono ?_
  rintro e w4 ⟨vq, rfl, hN⟩
  obtain ⟨pk, ck, rfl⟩ := sl_frm hN.1
  have hb4 := hN.2.1
  have HCS4 := Lib.hid hN.rin
  have HL4 := Lib.hid (HL3.out.keep hb4)
  have HM4 := Lib.hid (HM3.out.grow hb4)
  have HB4 := Lib.hid (HB3.out.trans (hb4.mono HB3.out.size))
  have HC4 := Lib.hid (box_on hb4 l2 HC3.out)
  replace l2 := Nat.lt_of_lt_of_le l2 hb4.size
  clear hN hb4 HM3 HB3 HL3 HC3 HOD
  go_wp2_with fail
  refine (HRW.out b _ _ _ (HM4.out.grow (by repeat' (first | (with_reducible exact Below.refl _ _) | (with_reducible assumption) | (with_reducible refine below_drewN ?_ _) | (with_reducible refine below_more _ _ _ ?_ ?_) | (with_reducible refine Below.alloc ?_ ?_ _) | (with_reducible refine Below.drew ?_) | (with_reducible refine Below.setCell ?_ ?_ _) | go_size))) (HL4.out.keep (by repeat' (first | (with_reducible exact Below.refl _ _) | (with_reducible assumption) | (with_reducible refine below_drewN ?_ _) | (with_reducible refine below_more _ _ _ ?_ ?_) | (with_reducible refine Below.alloc ?_ ?_ _) | (with_reducible refine Below.drew ?_) | (with_reducible refine Below.setCell ?_ ?_ _) | go_size))) (HCS4.out.keep (by repeat' (first | (with_reducible exact Below.refl _ _) | (with_reducible assumption) | (with_reducible refine below_drewN ?_ _) | (with_reducible refine below_more _ _ _ ?_ ?_) | (with_reducible refine Below.alloc ?_ ?_ _) | (with_reducible refine Below.drew ?_) | (with_reducible refine Below.setCell ?_ ?_ _) | go_size)))).mono ?_
  rintro e w' hq
  obtain ⟨pwa, cwa, pwb, cwb, pwd, cwd, d5, os5, rfl, rfl, ha5, hg5, hd5⟩ := hq.opn
  clear hq
  go_upto_region 8 with fail
  obtain ⟨k9, g9, s9, b9⟩ := new_box (more w4 d5 os5) #[.slice pwa oW.length cwa, .slice pwb 0 cwb, .slice pwd dW.length cwd] 82 (w4.heap.size + os5.size) (by simp)
  have hb5 : Below w4.heap.size w4 ((more w4 d5 os5).alloc (.cells #[.slice pwa oW.length cwa, .slice pwb 0 cwb, .slice pwd dW.length cwd] 82)) := (by repeat' (first | (with_reducible exact Below.refl _ _) | (with_reducible assumption) | (with_reducible refine below_drewN ?_ _) | (with_reducible refine below_more _ _ _ ?_ ?_) | (with_reducible refine Below.alloc ?_ ?_ _) | (with_reducible refine Below.drew ?_) | (with_reducible refine Below.setCell ?_ ?_ _) | go_size))
  have HA5 := Lib.hid (ha5.keep b9)
  have HD5 := Lib.hid (hd5.keep b9)
  have HL5 := Lib.hid (HL4.out.keep hb5)
  have HCS5 := Lib.hid (HCS4.out.keep hb5)
  have HM5 := Lib.hid (HM4.out.grow hb5)
  have HB5 := Lib.hid (HB4.out.trans (hb5.mono HB4.out.size))
  have HC5 := Lib.hid (box_on hb5 l2 HC4.out)
  have K9 := Lib.hid k9
  replace l2 := Nat.lt_of_lt_of_le l2 hb5.size
  clear hb5 g9 b9 ha5 hg5 hd5 HM4 HB4 HL4 HCS4 HC4 HRW k9
  generalize ((more w4 d5 os5).alloc (.cells #[.slice pwa oW.length cwa, .slice pwb 0 cwb, .slice pwd dW.length cwd] 82)) = w5 at *
  generalize w4.heap.size + os5.size = n9 at *
  go_wp2_with fail
  go_loopg [10, 11, 12] cnt (fun kx s10 s11 sx wr => ∃ k : Nat, sx = .int .i64 k ∧ k ≤ cnt ∧ cnt - k ≤ kx ∧ Hid (Prs w5 wr s10 s11 (aT k) (dT k)))
  case atStart => exact ⟨0, by go_num, by omega, by omega, Lib.hid (by rw [HT0.out.1, HT0.out.2]; exact Prs.nil _)⟩
  case round =>
    obtain ⟨k, rfl, hk, hkx, HP⟩ := hrel
    obtain ⟨wa, rfl⟩ : ∃ wa : World, wa = wr := ⟨_, rfl⟩
    have hba := HP.out.a.2.1
    have l2a := Nat.lt_of_lt_of_le l2 hba.size
    have s9a := Nat.lt_of_lt_of_le s9 hba.size
    have HBA := Lib.hid (HB5.out.trans (hba.mono HB5.out.size))
    have CA := Lib.hid (box_on hba l2 HC5.out)
    have KA := Lib.hid (box_on hba s9 K9.out)
    have HLA := Lib.hid (HL5.out.keep hba)
    have HCSA := Lib.hid (HCS5.out.keep hba)
    have HMA := Lib.hid (HM5.out.grow hba)
    obtain ⟨f0, f1, f2⟩ := ltz l2a
    obtain ⟨f3, f4, f5⟩ := ltz s9a
    clear hba
    have q0 := CA.out 0; simp at q0; have q1 := CA.out 1; simp at q1; have q2 := CA.out 2; simp at q2; have q3 := CA.out 3; simp at q3; have q4 := CA.out 4; simp at q4; have q5 := CA.out 5; simp at q5; have q6 := CA.out 6; simp at q6
    by_cases hlt : k < cnt
    · have t1 : (k : Int) < dcols * drows := by omega
      have hal := HAL.out k hk
      have hdl := HDL.out k hk
      have hzl := HZL.out k
      have hzd := HZD.out k
      rw [HZ1.out k, List.length_append] at hzl
      obtain ⟨p10, c10, h10⟩ := sl_frm HP.out.a.1
      subst h10
      obtain ⟨p11, c11, h11⟩ := sl_frm HP.out.b.1
      subst h11
      go_wp2_with fail
      refine (HPT.out k _ _ (HLA.out.keep (by repeat' (first | (with_reducible exact Below.refl _ _) | (with_reducible assumption) | (with_reducible refine below_drewN ?_ _) | (with_reducible refine below_more _ _ _ ?_ ?_) | (with_reducible refine Below.alloc ?_ ?_ _) | (with_reducible refine Below.drew ?_) | (with_reducible refine Below.setCell ?_ ?_ _) | go_size)))).mono ?_
      rintro e w6 ⟨v1, v2, rfl, hPr⟩
      obtain ⟨p1, c1, rfl⟩ := sl_frm hPr.a.1
      obtain ⟨p2, c2, rfl⟩ := sl_frm hPr.b.1
      have hb6 : Below wa.heap.size wa w6 := hPr.a.2.1
      have HO6 := Lib.hid hPr.a.bin
      have HN6 := Lib.hid hPr.b.bin
      have HP6 := Lib.hid (HP.out.grow hb6)
      have HM6 := Lib.hid (HMA.out.grow hb6)
      have HCS6 := Lib.hid (HCSA.out.keep hb6)
      have hz6 := hb6.size
      clear q0 q1 q2 q3 q4 q5 q6 f0 f1 f2 f3 f4 f5 hPr
      go_wp2_with fail
      refine (HRZ.out k hlt b _ _ _ _ (HM6.out.grow (by repeat' (first | (with_reducible exact Below.refl _ _) | (with_reducible assumption) | (with_reducible refine below_drewN ?_ _) | (with_reducible refine below_more _ _ _ ?_ ?_) | (with_reducible refine Below.alloc ?_ ?_ _) | (with_reducible refine Below.drew ?_) | (with_reducible refine Below.setCell ?_ ?_ _) | go_size))) (HO6.out.keep (by repeat' (first | (with_reducible exact Below.refl _ _) | (with_reducible assumption) | (with_reducible refine below_drewN ?_ _) | (with_reducible refine below_more _ _ _ ?_ ?_) | (with_reducible refine Below.alloc ?_ ?_ _) | (with_reducible refine Below.drew ?_) | (with_reducible refine Below.setCell ?_ ?_ _) | go_size))) (HN6.out.keep (by repeat' (first | (with_reducible exact Below.refl _ _) | (with_reducible assumption) | (with_reducible refine below_drewN ?_ _) | (with_reducible refine below_more _ _ _ ?_ ?_) | (with_reducible refine Below.alloc ?_ ?_ _) | (with_reducible refine Below.drew ?_) | (with_reducible refine Below.setCell ?_ ?_ _) | go_size))) (HCS6.out.keep (by repeat' (first | (with_reducible exact Below.refl _ _) | (with_reducible assumption) | (with_reducible refine below_drewN ?_ _) | (with_reducible refine below_more _ _ _ ?_ ?_) | (with_reducible refine Below.alloc ?_ ?_ _) | (with_reducible refine Below.drew ?_) | (with_reducible refine Below.setCell ?_ ?_ _) | go_size)))).mono ?_
      rintro e w' hq
      obtain ⟨pa, ca, pb, cb, pd, cd, d6, os6, rfl, rfl, ha6, hg6, hd6⟩ := hq.opn
      clear hq
      go_upto_region 15 with fail
      obtain ⟨k7, g7, s7, b7⟩ := new_box (more w6 d6 os6) #[.slice pa (oF k).length ca, .slice pb (gF k).length cb, .slice pd (zD k).length cd] 82 (w6.heap.size + os6.size) (by simp)
      have hb7 : Below w6.heap.size w6 ((more w6 d6 os6).alloc (.cells #[.slice pa (oF k).length ca, .slice pb (gF k).length cb, .slice pd (zD k).length cd] 82)) := (by repeat' (first | (with_reducible exact Below.refl _ _) | (with_reducible assumption) | (with_reducible refine below_drewN ?_ _) | (with_reducible refine below_more _ _ _ ?_ ?_) | (with_reducible refine Below.alloc ?_ ?_ _) | (with_reducible refine Below.drew ?_) | (with_reducible refine Below.setCell ?_ ?_ _) | go_size))
      have HA7 := Lib.hid (ha6.bin.keep b7)
      have HG7 := Lib.hid (And.intro (hg6.grow b7).1 hg6.2.2)
      have HD7 := Lib.hid (And.intro (hd6.grow b7).1 hd6.2.2)
      have HP7 := Lib.hid (HP6.out.grow hb7)
      have HQ1 := Lib.hid (fun g (hg : (Value.slice p10 (aT k).length c10).ownBlock = some g) => show g < w6.heap.size from Nat.lt_of_lt_of_le (sl_lt HP.out.a.1 hg) hz6)
      have HQ2 := Lib.hid (fun g (hg : (Value.slice p11 (dT k).length c11).ownBlock = some g) => show g < w6.heap.size from Nat.lt_of_lt_of_le (sl_lt HP.out.b.1 hg) hz6)
      have hn7 : w6.heap.size ≤ w6.heap.size + os6.size := by omega
      have K7 := Lib.hid k7
      clear g7 b7 ha6 hg6 hd6
      have HB7 := Lib.hid hb7
      clear hb7
      generalize ((more w6 d6 os6).alloc (.cells #[.slice pa (oF k).length ca, .slice pb (gF k).length cb, .slice pd (zD k).length cd] 82)) = w7 at *
      generalize w6.heap.size + os6.size = n7 at *
      have y0 := k7 0; have y1 := k7 1; have y2 := k7 2
      simp at y0 y1 y2
      clear k7
      obtain ⟨f0, f1, f2⟩ := ltz s7
      go_upto_region 16 with (at_builtin; refine wpList_append_prs w5 _ (by rfl) _ _ (by rfl) _ _ _ (aT k) (oF k) (dT k) (by rfl) (HP7.out.grow (by repeat' (first | (with_reducible exact Below.refl _ _) | (with_reducible assumption) | (with_reducible refine below_drewN ?_ _) | (with_reducible refine below_more _ _ _ ?_ ?_) | (with_reducible refine Below.alloc ?_ ?_ _) | (with_reducible refine Below.drew ?_) | (with_reducible refine Below.setCell ?_ ?_ _) | go_size))) (by rfl) (HA7.out.keep (by repeat' (first | (with_reducible exact Below.refl _ _) | (with_reducible assumption) | (with_reducible refine below_drewN ?_ _) | (with_reducible refine below_more _ _ _ ?_ ?_) | (with_reducible refine Below.alloc ?_ ?_ _) | (with_reducible refine Below.drew ?_) | (with_reducible refine Below.setCell ?_ ?_ _) | go_size))) (by omega) (by omega) ?_; intro v8 w8 hP8 hT8 ho8)
      have hk8 : ∀ g, w6.heap.size ≤ g → g < w7.heap.size → w8.heap[g]? = w7.heap[g]? := fun g h1 h2 => hT8.block g h2 (fun e => by have := HQ1.out g e.symm; omega)
      have k8 := fun u => (World.cell?_of_block (w := w7) (a := ⟨n7, u, none⟩) (hk8 n7 hn7 s7)).trans (K7.out u)
      have HG8 := Lib.hid (HG7.out.1.keep fun g hg => hk8 g (HG7.out.2 g hg) (sl_lt HG7.out.1 hg))
      have HD8 := Lib.hid (HD7.out.1.keep fun g hg => hk8 g (HD7.out.2 g hg) (sl_lt HD7.out.1 hg))
      have hd7 : ∀ g, (Value.slice pd (zD k).length cd).ownBlock = some g → w6.heap.size ≤ g ∧ g < w7.heap.size := fun g hg => ⟨HD7.out.2 g hg, sl_lt HD7.out.1 hg⟩
      have HD7X := Lib.hid hd7
      obtain ⟨p8, c8, rfl⟩ := sl_frm hP8.a.1
      have s8 := Nat.lt_of_lt_of_le s7 hT8.size
      have hz8 := hT8.size
      have HQ3 := Lib.hid (fun g (hg : (Value.slice p8 (aT k ++ oF k).length c8).ownBlock = some g) => (show g < w6.heap.size ∨ w7.heap.size ≤ g from by
        rcases ho8 with e | ⟨g', e, hg'⟩
        · exact .inl (HQ1.out g (by rw [← e]; exact hg))
        · rw [e] at hg; cases hg; exact .inr hg'))
      have K8 := Lib.hid k8
      have HP8 := Lib.hid hP8
      clear y0 y1 y2 f0 f1 f2 hP8 hT8 ho8 hk8 hd7 HA7 HG7 HD7 HP7 K7
      have y0 := k8 0; have y1 := k8 1; have y2 := k8 2
      simp at y0 y1 y2
      clear k8
      obtain ⟨f0, f1, f2⟩ := ltz s8
      have hal8 : (aT k ++ oF k).length ≤ 2000 := by rw [List.length_append]; omega
      go_upto_region 17 with (at_builtin; refine wpList_append_prs w5 _ (by rfl) _ _ (by rfl) _ _ _ (aT k ++ oF k) (gF k) (dT k) (by rfl) (HP8.out.grow (by repeat' (first | (with_reducible exact Below.refl _ _) | (with_reducible assumption) | (with_reducible refine below_drewN ?_ _) | (with_reducible refine below_more _ _ _ ?_ ?_) | (with_reducible refine Below.alloc ?_ ?_ _) | (with_reducible refine Below.drew ?_) | (with_reducible refine Below.setCell ?_ ?_ _) | go_size))) (by rfl) (BIn.keep (BIn.of_sl HG8.out) (by repeat' (first | (with_reducible exact Below.refl _ _) | (with_reducible assumption) | (with_reducible refine below_drewN ?_ _) | (with_reducible refine below_more _ _ _ ?_ ?_) | (with_reducible refine Below.alloc ?_ ?_ _) | (with_reducible refine Below.drew ?_) | (with_reducible refine Below.setCell ?_ ?_ _) | go_size))) (by omega) (by omega) ?_; intro v9 w9' hP9 hT9 ho9)
      rw [List.append_assoc, ← HZ1.out k, ← HAS.out k] at hP9
      obtain ⟨p9', c9', rfl⟩ := sl_frm hP9.a.1
      have hk9 : ∀ g, w6.heap.size ≤ g → g < w7.heap.size → w9'.heap[g]? = w8.heap[g]? := fun g h1 h2 => hT9.block g (by omega) (fun e => by have := HQ3.out g e.symm; omega)
      have hiz : InZ w5 w9' n7 #[.slice pa (oF k).length ca, .slice pb (gF k).length cb, .slice pd (zD k).length cd] (.slice pd (zD k).length cd) (zD k) (.slice p9' (aT (k + 1)).length c9') (.slice p11 (dT k).length c11) (aT (k + 1)) (dT k) :=
        ⟨hP9, HD8.out.keep fun g hg => hk9 g (HD7X.out g hg).1 (HD7X.out g hg).2, ⟨Nat.lt_of_lt_of_le s8 hT9.size, fun u => (World.cell?_of_block (w := w8) (a := ⟨n7, u, none⟩) (hk9 n7 hn7 s7)).trans (K8.out u)⟩, fun g hg e => by have := HQ2.out g hg; have := HD7X.out g e; omega, fun e => by have := HQ2.out _ e; omega⟩
      have HIZ := Lib.hid hiz
      clear hiz hP9 hT9 ho9 hk9 K8 HP8 HD8 HG8 HQ1 HQ2 HQ3 HD7X y0 y1 y2 f0 f1 f2 HO6 HN6 HP6 HM6 HCS6
      go_wp2_with fail
      go_loopg [11, 16] (zD k).length (fun kx s11 sx wr => ∃ t : Nat, sx = .int .i64 t ∧ t ≤ (zD k).length ∧ (zD k).length - t ≤ kx ∧ Hid (InZ w5 wr n7 #[.slice pa (oF k).length ca, .slice pb (gF k).length cb, .slice pd (zD k).length cd] (.slice pd (zD k).length cd) (zD k) (.slice p9' (aT (k + 1)).length c9') s11 (aT (k + 1)) (dT k ++ ((zD k).take t).map dB)))
      case atStart => exact ⟨0, by go_num, by omega, by omega, Lib.hid (by simpa using HIZ.out)⟩
      case round =>
        obtain ⟨t, rfl, ht, hkx2, HI⟩ := hrel
        obtain ⟨wb, rfl⟩ : ∃ wb : World, wb = wr := ⟨_, rfl⟩
        have sb := HI.out.bx.1
        obtain ⟨f0, f1, f2⟩ := ltz sb
        have y2 := HI.out.bx.2 2
        simp at y2
        obtain ⟨p11', c11', h11⟩ := sl_frm HI.out.p.b.1
        subst h11
        by_cases hlt2 : t < (zD k).length
        · have t2 : (t : Int) < ((zD k).length : Int) := by omega
          obtain ⟨x0, hx0⟩ : ∃ x0, (zD k)[t]? = some x0 := ⟨_, List.getElem?_eq_getElem hlt2⟩
          obtain ⟨gb, ob, cb', hv, hgb, hcb⟩ := (RIn.of_sl HI.out.d).cells nidL_len hx0
          simp only [Value.slice.injEq, true_and] at hv
          obtain ⟨rfl, rfl⟩ := hv
          have v0 := hcb 0 _ rfl; have v1 := hcb 1 _ rfl; have v2 := hcb 2 _ rfl
          simp only [Nat.add_zero] at v0
          obtain ⟨e0, e1, e2⟩ := ltz hgb
          have HST := Lib.hid (show dT k ++ ((zD k).take (t + 1)).map dB = (dT k ++ ((zD k).take t).map dB) ++ [dB x0] from by
            rw [List.take_succ_eq_append_getElem hlt2, (List.getElem?_eq_some_iff.1 hx0).2, List.map_append, List.append_assoc]; rfl)
          have hacc : (dT k ++ ((zD k).take t).map dB).length ≤ 2000 := by rw [List.length_append, List.length_map, List.length_take]; omega
          generalize dT k ++ ((zD k).take t).map dB = acc at *
          clear hcb hx0 HIZ
          obtain ⟨xs, xi, xg⟩ := x0
          simp only at v0 v1 v2
          go_wp2_with (at_builtin; refine wpList_append_sl _ (by rfl) _ _ 24 (by rfl) 41 i0 _ 11 88 Try.underlying24 hi0 hz0 hz1 hz2 rfl (by omega) _ acc.length (bunCells acc) (by rfl) (HI.out.grow (by repeat' (first | (with_reducible exact Below.refl _ _) | (with_reducible assumption) | (with_reducible refine below_drewN ?_ _) | (with_reducible refine below_more _ _ _ ?_ ?_) | (with_reducible refine Below.alloc ?_ ?_ _) | (with_reducible refine Below.drew ?_) | (with_reducible refine Below.setCell ?_ ?_ _) | go_size))).p.b.1 ⟨_, 0, none⟩ 1 1 (bunL (dB ⟨xs, xi, xg⟩)) (by rfl) (by rfl) (new_cellsN _ _ _ _ (by simp)) (bunL_one _) (by omega) (by unfold maxLen; omega) (by omega) ?_; intro v' w10 hs10 ht10 ho10)
          have hm := (HI.out.grow (by repeat' (first | (with_reducible exact Below.refl _ _) | (with_reducible assumption) | (with_reducible refine below_drewN ?_ _) | (with_reducible refine below_more _ _ _ ?_ ?_) | (with_reducible refine Below.alloc ?_ ?_ _) | (with_reducible refine Below.drew ?_) | (with_reducible refine Below.setCell ?_ ?_ _) | go_size))).app1 hs10 ht10 ho10
          have HM := Lib.hid hm
          clear hs10 ht10 ho10 hm
          go_roundg ((zD k).length - (t + 1))
          case measure => omega
          case rel => exact ⟨t + 1, by go_num, by omega, by omega, Lib.hid (by rw [HST.out]; exact HM.out)⟩
        · have t2 : ¬ (t : Int) < ((zD k).length : Int) := by omega
          obtain rfl : t = (zD k).length := by omega
          rw [List.take_length, ← HDS.out k] at HI
          have hdl1 : (dT k).length + (zD k).length = (dT (k + 1)).length := by rw [HDS.out k, List.length_append, List.length_map]
          clear y2 HIZ
          have y2 := HI.out.bx.2 2
          simp at y2
          go_wp2_with fail
          go_roundg (cnt - (k + 1))
          case measure => omega
          case rel => exact ⟨k + 1, by go_num, by omega, by omega, Lib.hid HI.out.p⟩
    · have t1 : ¬ (k : Int) < dcols * drows := by omega
      obtain rfl : k = cnt := by omega
      obtain ⟨p10, c10, h10⟩ := sl_frm HP.out.a.1
      subst h10
      obtain ⟨p11, c11, h11⟩ := sl_frm HP.out.b.1
      subst h11
      have hal := HAL.out k hk
      have hdl := HDL.out k hk
      have HSD := Lib.hid (fun W (hW : Below wa.heap.size wa W) => rsorted_any (.slice p11 (dT k).length c11) (dT k) W (HP.out.b.bin.keep hW) (by omega))
      have HSA := Lib.hid (fun W (hW : Below wa.heap.size wa W) => rsorted_any (.slice p10 (aT k).length c10) (aT k) W (HP.out.a.bin.keep hW) (by omega))
      rw [HD.out] at HSD
      rw [HA.out] at HSA
      have HAO := Lib.hid (HA5.out.keep HP.out.a.2.1)
      have HDO := Lib.hid (HD5.out.keep HP.out.a.2.1)
      clear HPT HRZ HZ1 HAS HDS HAL HDL HZL HZD HLA HCSA HMA HM5 HCS5 HL5 HC5 HA HD
      generalize aT k = aK at *
      generalize dT k = dK at *
      go_wp2_with fail
      refine (HSD.out _ (by repeat' (first | (with_reducible exact Below.refl _ _) | (with_reducible assumption) | (with_reducible refine below_drewN ?_ _) | (with_reducible refine below_more _ _ _ ?_ ?_) | (with_reducible refine Below.alloc ?_ ?_ _) | (with_reducible refine Below.drew ?_) | (with_reducible refine Below.setCell ?_ ?_ _) | go_size))).mono ?_
      rintro e wz ⟨vs, rfl, hS⟩
      obtain ⟨ps, cs', rfl⟩ := sl_frm hS.1
      have hbz := hS.2.1
      have HSS := Lib.hid hS.bin
      have hml : (dW.map dB).length = dW.length := List.length_map ..
      have HBZ := Lib.hid (HBA.out.trans (hbz.mono HBA.out.size))
      have HBZA := Lib.hid hbz
      have kz := box_on hbz s9a KA.out
      have sz := Nat.lt_of_lt_of_le s9a hbz.size
      have KZ := Lib.hid kz
      have HAOZ := Lib.hid (HAO.out.keep hbz)
      have HDOZ := Lib.hid (HDO.out.keep hbz)
      have HSAZ := Lib.hid (fun W (hW : Below wz.heap.size wz W) => HSA.out W (hbz.trans (hW.mono hbz.size)))
      clear q0 q1 q2 q3 q4 q5 q6 f0 f1 f2 f3 f4 f5 hS hbz HSD HSA HAO HDO CA KA HA5 HD5
      rw [hml]
      have x0 := kz 0; have x1 := kz 1; have x2 := kz 2
      simp at x0 x1 x2
      clear kz
      obtain ⟨f0, f1, f2⟩ := ltz sz
      have hne1 : ((dW.length : Int) != (dW.length : Int)) = false := by simp
      go_wp2_with fail
      go_loopg [17] dW.length (fun kx sx wr => ∃ t : Nat, sx = .int .i64 t ∧ t ≤ dW.length ∧ dW.length - t ≤ kx ∧ Hid (Below wz.heap.size wz wr))
      case atStart => exact ⟨0, by go_num, by omega, by omega, Lib.hid (by repeat' (first | (with_reducible exact Below.refl _ _) | (with_reducible assumption) | (with_reducible refine below_drewN ?_ _) | (with_reducible refine below_more _ _ _ ?_ ?_) | (with_reducible refine Below.alloc ?_ ?_ _) | (with_reducible refine Below.drew ?_) | (with_reducible refine Below.setCell ?_ ?_ _) | go_size))⟩
      case round =>
        clear x0 x1 x2 f0 f1 f2
        obtain ⟨t, rfl, ht, hkx3, HR⟩ := hrel
        obtain ⟨wd, rfl⟩ : ∃ wd : World, wd = wr := ⟨_, rfl⟩
        have hbd := HR.out
        have sd := Nat.lt_of_lt_of_le sz hbd.size
        obtain ⟨f0, f1, f2⟩ := ltz sd
        have kd := box_on hbd sz KZ.out
        have x0 := kd 0; have x1 := kd 1; have x2 := kd 2
        simp at x0 x1 x2
        clear kd
        by_cases hlt3 : t < dW.length
        · have t3 : (t : Int) < (dW.length : Int) := by omega
          obtain ⟨n0, hn0⟩ : ∃ n0, dW[t]? = some n0 := ⟨_, List.getElem?_eq_getElem hlt3⟩
          obtain ⟨gb, ob, cb', hv, hgb, hcb⟩ := (HDOZ.out.keep hbd).cells nidL_len hn0
          simp only [Value.slice.injEq, true_and] at hv
          obtain ⟨rfl, rfl⟩ := hv
          obtain ⟨gc, oc, cc', hv, hgc, hcc⟩ := (HSS.out.keep hbd).cells (k := t) (b := dB n0) (by rw [List.getElem?_map, hn0]; rfl)
          simp only [Value.slice.injEq, true_and] at hv
          obtain ⟨rfl, rfl⟩ := hv
          have v0 := hcb 0 _ rfl; have v1 := hcb 1 _ rfl; have v2 := hcb 2 _ rfl
          have y0 := hcc 0 _ rfl; have y1 := hcc 1 _ rfl; have y2 := hcc 2 _ rfl
          simp only [Nat.add_zero] at v0 y0
          obtain ⟨e0, e1, e2⟩ := ltz hgb
          obtain ⟨e3, e4, e5⟩ := ltz hgc
          clear hcb hcc hn0
          obtain ⟨xs, xi, xg⟩ := n0
          simp only [dB] at v0 v1 v2 y0 y1 y2
          have hid : idEq xs xi xg xs xi xg = true := by simp [idEq]
          go_wp2_with fail
          refine wp_region_more (by kernel_rfl) (by kernel_rfl) ?_
          repeat (go_big_quiet_step (fail))
          refine wpQuiet_nil ?_
          rintro _ ⟨pq27, rfl⟩
          go_wp2_with fail
          go_roundg (dW.length - (t + 1))
          case measure => omega
          case rel => exact ⟨t + 1, by go_num, by omega, by omega, Lib.hid (hbd.trans (Below.mono (B := wd.heap.size) (by repeat' (first | (with_reducible exact Below.refl _ _) | (with_reducible assumption) | (with_reducible refine below_drewN ?_ _) | (with_reducible refine below_more _ _ _ ?_ ?_) | (with_reducible refine Below.alloc ?_ ?_ _) | (with_reducible refine Below.drew ?_) | (with_reducible refine Below.setCell ?_ ?_ _) | go_size)) hbd.size))⟩
        · have t3 : ¬ (t : Int) < (dW.length : Int) := by omega
          have HSAD := Lib.hid (fun W (hW : Below wd.heap.size wd W) => HSAZ.out W (hbd.trans (hW.mono hbd.size)))
          have HAOD := Lib.hid (HAOZ.out.keep hbd)
          have HBD := Lib.hid (HBZ.out.trans (hbd.mono HBZ.out.size))
          have hsm := fun vx vy W (h1 : BIn W vx oW) (h2 : BIn W vy oW) => same_any vx vy oW oW W h1 h2
          rw [decide_eq_true rfl] at hsm
          have HSM := Lib.hid hsm
          clear hsm hbd HSS HDOZ HAOZ HSAZ HBZ HBZA KZ HR
          go_upto_region 29 with fail
          
          go_region_held3 (fun W => (wd).heap.size ≤ W.heap.size ∧ ∀ b o, b < (wd).heap.size → W.cell? ⟨b, o, none⟩ = (wd).cell? ⟨b, o, none⟩) (with_reducible (repeat (first | assumption | exact s_refl _ | exact s_id _ | refine s_more _ _ ?_ | refine s_alloc _ ?_ | refine s_drew ?_))) (first | (go_at_call 39; refine (HSAD.out _ (by repeat' (first | (with_reducible exact Below.refl _ _) | (with_reducible assumption) | (with_reducible refine below_drewN ?_ _) | (with_reducible refine below_more _ _ _ ?_ ?_) | (with_reducible refine Below.alloc ?_ ?_ _) | (with_reducible refine Below.drew ?_) | (with_reducible refine Below.setCell ?_ ?_ _) | go_size))).mono ?_; rintro e w' ⟨vs', rfl, hS⟩; obtain ⟨ps', cs'', rfl⟩ := sl_frm hS.1; have hSB := hS.bin; have hSb := hS.2.1; clear hS; obtain ⟨d6, os6, rfl⟩ := more_of hSb; clear hSb; (try simp only [more_of_drew] at hSB ⊢)) | (go_at_call 20; refine (HSM.out _ _ _ ?_ ?_).mono ?_; (first | exact hSB | exact hSB.keep (by repeat' (first | (with_reducible exact Below.refl _ _) | (with_reducible assumption) | (with_reducible refine below_drewN ?_ _) | (with_reducible refine below_more _ _ _ ?_ ?_) | (with_reducible refine Below.alloc ?_ ?_ _) | (with_reducible refine Below.drew ?_) | (with_reducible refine Below.setCell ?_ ?_ _) | go_size))); exact HAOD.out.keep (by repeat' (first | (with_reducible exact Below.refl _ _) | (with_reducible assumption) | (with_reducible refine below_drewN ?_ _) | (with_reducible refine below_more _ _ _ ?_ ?_) | (with_reducible refine Below.alloc ?_ ?_ _) | (with_reducible refine Below.drew ?_) | (with_reducible refine Below.setCell ?_ ?_ _) | go_size)); rintro e w' ⟨rfl, hb⟩; obtain ⟨d7, os7, rfl⟩ := more_of hb; clear hb) | (go_at_call 45; refine (awake15 _).mono ?_; rintro e w' ⟨rfl, hb⟩; obtain ⟨d8, os8, rfl⟩ := more_of hb; clear hb))
          clear x0 x1 x2
          go_wp2_with fail
          go_ret
          exact ⟨rfl, HBD.out.trans (Below.mono (B := wd.heap.size) (by repeat' (first | (with_reducible exact Below.refl _ _) | (with_reducible assumption) | (with_reducible refine below_drewN ?_ _) | (with_reducible refine below_more _ _ _ ?_ ?_) | (with_reducible refine Below.alloc ?_ ?_ _) | (with_reducible refine Below.drew ?_) | (with_reducible refine Below.setCell ?_ ?_ _) | go_size)) HBD.out.size)⟩
set_option maxRecDepth 100000 in
theorem lifted (os : Os) (started : os.Started) (H : Type) (enc : TypeId × Value → H) :
    ReturnsInHanded {} Try.checked os 10 .any (Rows.tickSplitsSpec.pre6 enc Try.prog Try.f10 Rows.tickSplitsRow.domain false) (Rows.tickSplitsSpec.post enc Try.prog Try.f10 false true false false) := by
  refine returnsInHanded_of_change (C := Try.checked) ownKnob0 started (by kernel_rfl) Try.func10
    (ChangeSpec.witness6 (enc := enc) (C := Try.checked) false ⟨#[], #[.agg #[.int .i64 0, .int .i64 0, .int .i64 0, .int .i64 0, .int .i64 0, .int .i64 0, .int .i64 0], .slice none 0 0, .slice none 0 0], []⟩ 8 (by kernel_rfl) (by kernel_rfl) (by kernel_rfl) (by kernel_rfl)) ?_
  intro W base args ds gs before hval0 hW _ _
  have hval : ∀ (j : Nat) t v, Try.f10.params[j]? = some t → args[j]? = some v → Value.okWide Try.prog W .any base t v := hval0
  have hread : ∀ t ∈ Try.f10.params.toList, Try.prog.readableRec t = true ∧ t < Try.prog.types.size := by
    rw [Try.params10]
    intro t ht
    simp only [List.mem_cons, List.not_mem_nil, or_false] at ht
    rcases ht with rfl | rfl | rfl
    all_goals exact ⟨by kernel_rfl, of_decide_eq_true (by kernel_rfl)⟩
  have hW' := hW
  obtain ⟨p, q, hA0, hV, -, -⟩ := hW'
  have hA : DataW.TrodAll enc Try.prog W 0 (fun _ => true) true Try.f10.params.toList args.toList ds p := hA0
  rw [Try.params10] at hA hval
  obtain ⟨v0, vs0, d0, ds0, p0, q0, hargs, rfl, rfl, h0, r0⟩ := trodAll_cons hA
  obtain ⟨v1, vs1, d1, ds1, p1, q1, rfl, rfl, rfl, h1, r1⟩ := trodAll_cons r0
  obtain ⟨v2, vs2, d2, ds2, p2, q2, rfl, rfl, rfl, h2, r2⟩ := trodAll_cons r1
  obtain ⟨rfl, rfl, rfl⟩ := trodAll_nil r2
  obtain rfl : args = #[v0, v1, v2] := by cases args; simp_all
  obtain ⟨rfl, rfl⟩ := trodVars_none hV
  have k0 := hval 0 23 v0 rfl rfl
  have k1 := hval 1 24 v1 rfl rfl
  have k2 := hval 2 37 v2 rfl rfl
  clear hval hval0 hA0 hV hA
  obtain ⟨cc, fuel0, rfl, g0⟩ := agg_of Try.underlying23 k0 h0
  obtain ⟨zcols, zrows, zside, zradius, zspeed, zids, zqueue, rfl⟩ := read_cfg g0
  obtain ⟨l, hl, hf⟩ := buns_in k1 h1
  obtain ⟨ms, hm, hcf⟩ := cmds_in k2 h2
  exact (walk _ _ _ _ _ _ _ _ _ l ms W hl hf hm hcf).mono fun e W' ⟨he, hb⟩ => ⟨_, he, post_true rfl rfl hread rfl hW hb⟩

/-- TickSplits: true for every input; the arguments stay. -/
theorem proved : Rows.TickSplitsSaid :=
  OpenClaim.holds_of_wide 10 Try.f10 rfl rfl rfl rfl rfl rfl rfl ⟨rfl, rfl, rfl, rfl, rfl⟩ rfl rfl rfl rfl rfl (by kernel_rfl) Try.func10 (by kernel_rfl)
    (of_decide_eq_true (by kernel_rfl)) (by unfold Func.isWrapper; first | (rw [if_pos (by decide +kernel)]; kernel_rfl) | (rw [if_neg (by decide +kernel)]; exact ⟨rfl, rfl⟩))
    (fun os started H enc _ => lifted os started H enc)
end Go.Proofs.Ytcnclcfipabimaa.tickSplits
