/-
  WorldPlays: for any config and every list of turns the law returns true, and the arguments stay as they were. No condition.
-/
import Derived.Test.YtoimjjhopljdmaaGreatP27
set_option maxRecDepth 100000
set_option maxHeartbeats 8000000
namespace Go.Proofs.YtoimjjhopljdmaaGreat.worldPlays
open Go.RowKit
open Go.Proofs.Tryz (prog)
open Go.Value (int)
open Go.IntKind (i64)
open Go.Lib (hid)
section
open Go.ChangeShapes Go.WideShapes Go.ChangeAt
attribute [local go_sem ↓] loadVar_ldM storeVar_stM
theorem walk_bad (cols rows side radius speed ids queue : Int) (v : Value) (w : World) (h : ¬ CfgOk ⟨cols, rows, side, radius, speed, ids, queue⟩) :
 Calls prog 8 #[.agg #[int i64 cols, int i64 rows, int i64 side, int i64 radius, int i64 speed, int i64 ids, int i64 queue], v] w fun e w' => e = .returned (.bool true) ∧ Below w.heap.size w w' := by
 have HN := hid (fun W => wnew_bad cols rows side radius speed ids queue W h)
 have HC := hid (fun W => rcheck_any cols rows side radius speed ids queue W)
 have hb : cfgB ⟨cols, rows, side, radius, speed, ids, queue⟩ = false := by
  cases hc : cfgB ⟨cols, rows, side, radius, speed, ids, queue⟩ with
  | false => rfl
  | true => exact absurd ((cfgB_iff _).1 hc) h
 rw [hb] at HC
 simp only [Bool.false_eq_true, if_false] at HC
 clear h hb
 go_enter Tryz.func8, Tryz.ntmps8
 go_wp2_with (first | (go_at_call 17; refine belA (HN.out _) fun d os => ?_) | (go_at_call 31; refine belA (HC.out _) fun d os => ?_) | (go_at_call 11; refine belA (awake17 _) fun d os => ?_))
 go_ret
 exact ⟨rfl, bg⟩
theorem walk_ok (cols rows side radius speed ids queue : Int) (v : Value) (zs : List Tn) (w : World) (hz : RIn tnL w v zs) (hf : ∀ t ∈ zs, CmFit t.m) (ho : CfgOk ⟨cols, rows, side, radius, speed, ids, queue⟩) :
 Calls prog 8 #[.agg #[int i64 cols, int i64 rows, int i64 side, int i64 radius, int i64 speed, int i64 ids, int i64 queue], v] w fun e w' => e = .returned (.bool true) ∧ Below w.heap.size w w' := by
 obtain ⟨pt, ct, rfl, _⟩ := id hz
 have HFW := hid (fun W (hW : Below w.heap.size w W) => few17_any pt ct zs W (hz.keep hW))
 have hts : (zs.take 60).length ≤ 60 := by rw [List.length_take]; omega
 have HIN := hid (rin_cut 60 hz)
 have HF := hid (fun t (ht : t ∈ zs.take 60) => hf t (List.mem_of_mem_take ht))
 generalize zs.take 60 = ts at *
 have HN := hid (fun W => wnew_ok cols rows side radius speed ids queue W ho)
 have HR := hid (fun W => rwnew_ok cols rows side radius speed ids queue W ho)
 have HC := hid (fun W => rcheck_any cols rows side radius speed ids queue W)
 rw [(cfgB_iff _).2 ho] at HC
 simp only [if_true] at HC
 obtain ⟨cf, hcf⟩ : ∃ cf : Cfg, cf = ⟨cols, rows, side, radius, speed, ids, queue⟩ := ⟨_, rfl⟩
 rw [← hcf] at ho
 simp only [← hcf] at HN HR
 have HO := hid ho
 clear hz hf hcf
 have hbx := (Own.nil w).made (made_box w #[int i64 cols, int i64 rows, int i64 side, int i64 radius, int i64 speed, int i64 ids, int i64 queue] 23)
 go_enter Tryz.func8, Tryz.ntmps8
 go_upto_region 1 with fail
 generalize w.alloc _ = w1 at *
 have s2 := hbx.box.2.2.1
 have y0 := hbx.box.1 0; simp at y0; have y1 := hbx.box.1 1; simp at y1; have y2 := hbx.box.1 2; simp at y2; have y3 := hbx.box.1 3; simp at y3; have y4 := hbx.box.1 4; simp at y4; have y5 := hbx.box.1 5; simp at y5; have y6 := hbx.box.1 6; simp at y6
 have HBX := hid hbx
 clear hbx
 go_wp2_with fail
 refine (HN.out _).mono ?_
 rintro e W3 ⟨p, rfl, hm3⟩
 have h3 := HBX.out.made hm3
 have s2 := h3.swap.box.2.2.1
 have y0 := h3.swap.box.1 0; simp at y0; have y1 := h3.swap.box.1 1; simp at y1; have y2 := h3.swap.box.1 2; simp at y2; have y3 := h3.swap.box.1 3; simp at y3; have y4 := h3.swap.box.1 4; simp at y4; have y5 := h3.swap.box.1 5; simp at y5; have y6 := h3.swap.box.1 6; simp at y6
 have H3 := hid h3
 obtain ⟨z0, z1, z2⟩ := ltz s2
 clear hm3 HN HBX h3
 go_wp2_with (go_at_call 31; refine belA (HC.out _) fun d os => ?_)
 refine (HR.out _).mono ?_
 rintro e W4 ⟨r, q, R, rfl, hm4⟩
 have H4 : Hid (Own w W4 ((worldO p cf (newW cf)).and ((rworldO r q R cf (256) (newW cf)).and ((boxO w.heap.size #[int i64 cols, int i64 rows, int i64 side, int i64 radius, int i64 speed, int i64 ids, int i64 queue] 23).and .nil)))) := hid ((H3.out.grow bg).made hm4).swap
 clear hm4 H3 HR y0 y1 y2 y3 y4 y5 y6
 go_wp2_with fail
 refine (HFW.out _ H4.out.below).mono ?_
 rintro e W5 ⟨rfl, hb5⟩
 have H5 := hid (H4.out.grow hb5)
 clear hb5 H4 HFW s2 z0 z1 z2
 go_wp2_with fail
 go_loopw [8] (fun x wr => ∃ (j : Nat) (X : Wo) (kk : Int) (F : Ob), x = int i64 j ∧ j ≤ ts.length ∧ kk ≤ 256 + 60 * j ∧ WInv cf j X ∧ Hid (Own w wr ((worldO p cf X).and ((rworldO r q R cf (kk) X).and F)))) (fun x _ => ts.length - (intOf x).toNat)
 case atStart => exact ⟨0, _, 256, _, rfl, Nat.zero_le _, by omega, new_inv HO.out, H5⟩
 case round =>
  clear H5
  obtain ⟨j, X, kk, F, rfl, hj, hkk, hinv, hh⟩ := hrel
  obtain ⟨wo, rfl⟩ : ∃ wo : World, wo = wr := ⟨_, rfl⟩
  have hI : 0 ≤ (j : Int) := Int.natCast_nonneg j
  by_cases hlt : j < ts.length
  · have t1 : (j : Int) < (ts.length : Int) := by omega
    obtain ⟨t, ht⟩ : ∃ t, ts[j]? = some t := ⟨_, List.getElem?_eq_getElem hlt⟩
    have hfit := HF.out t (List.mem_of_getElem? ht)
    obtain ⟨blk, off, cap', hve, hb, hcx⟩ := (HIN.out.keep hh.out.below).cells tnL_len ht
    have HCX := hid (fun V (hV : Below w.heap.size w V) => ((HIN.out.keep hV).cells tnL_len ht))
    simp only [Value.slice.injEq, true_and] at hve
    obtain ⟨rfl, rfl⟩ := hve
    obtain ⟨st, ⟨k, s, i, g, ⟨es, ei, eg, m, x, y, vx, vy, hp, pw, lf⟩, mask⟩⟩ := t
    have HKEEP : ∀ V, Below w.heap.size w V → blk < V.heap.size ∧ ∀ q u, (tnL ⟨st, ⟨k, s, i, g, ⟨es, ei, eg, m, x, y, vx, vy, hp, pw, lf⟩, mask⟩⟩)[q]? = some u → V.cell? ⟨blk, off + j * 17 + q, none⟩ = some u := fun V hV => by
     obtain ⟨b', o', c', hv', hl', hc'⟩ := HCX.out V hV
     simp only [Value.slice.injEq, Option.some.injEq, Addr.mk.injEq, and_true, true_and] at hv'
     obtain ⟨⟨rfl, rfl⟩, rfl⟩ := hv'
     exact ⟨hl', hc'⟩
    have HK := hid HKEEP
    have c0 : wo.cell? ⟨blk, off + j * 17, none⟩ = some (.bool st) := hcx 0 _ rfl
    obtain ⟨z0, z1, z2⟩ := ltz hb
    clear HCX HKEEP ht
    have HAL := hid (fun W F X kk (h : Own w W ((worldO p cf X).and ((rworldO r q R cf (kk) X).and F))) (hl : X.L.length ≤ 1000000) => alike17_any w W F p r q R cf kk X h HO.out hl s i g)
    cases st with
    | true =>
      have hi2 := (step_inv HO.out hinv (by omega)).1
      have hdf := dead_few hinv
      have HST := hid (wstep_i hh.out HO.out hinv (by omega))
      have HRS := hid (fun W E (hW : Own w W ((rworldO r q R cf kk X).and E)) => rwstep_i hW HO.out hinv (by omega) (by omega))
      have hX2 : (stepW cf X).2.L.length ≤ 1000000 := by have := hi2.len; omega
      generalize (stepW cf X).2 = X2 at *
      generalize deadW cf X = dN at *
      clear hcx
      go_wp2_with fail
      refine HST.out.mono ?_
      rintro e w6 ⟨v6, rfl, h6⟩
      obtain ⟨p6, c6, rfl⟩ := sl_frm h6.swap.sl.1
      have H6 := hid h6
      clear h6 HST
      go_wp2_with fail
      refine (HRS.out _ _ H6.out.third).mono ?_
      rintro e w7 ⟨p7, c7, rfl, h7⟩
      have H7 : Hid (Own w w7 ((worldO p cf X2).and ((rworldO r q R cf (kk + dN.length) X2).and _))) := hid h7.third
      have hd1 := RIn.of_sl (enc := nidL) h7.fourth.sl.1
      have hd2 := h7.swap.rd.1
      have HSI := hid (sameNid_self _ _ dN w7 hd1 hd2)
      obtain ⟨hb8, hc8⟩ := HK.out _ H7.out.below
      have c2 := hc8 2 _ rfl
      have c3 := hc8 3 _ rfl
      have c4 := hc8 4 _ rfl
      obtain ⟨z3, z4, z5⟩ := ltz hb8
      clear h7 H6 HRS hd1 hd2 c0 z0 z1 z2 hb hh hc8 HK
      go_wp2_with (go_at_call 30; refine belA (HSI.out) fun d os => ?_)
      refine (HAL.out _ _ X2 _ (H7.out.grow bg) hX2).mono ?_
      rintro e w9 ⟨rfl, h9⟩
      have H9 := hid h9
      clear h9 H7 HSI c2 c3 c4 z3 z4 z5 hb8
      go_wp2_with fail
      go_roundw
      case rel => exact ⟨j + 1, X2, _, _, by go_num, hlt, by omega, hi2, H9⟩
      case measure => simp [intOf]; omega
    | false =>
      have hca := call_inv hinv ⟨k, s, i, g, ⟨es, ei, eg, m, x, y, vx, vy, hp, pw, lf⟩, mask⟩
      have hi2 := hca.inv
      have hX2 : (callW cf X ⟨k, s, i, g, ⟨es, ei, eg, m, x, y, vx, vy, hp, pw, lf⟩, mask⟩).2.L.length ≤ 1000000 := by have := hi2.len; omega
      have HCL := hid (wcall_o hh.out HO.out ⟨k, s, i, g, ⟨es, ei, eg, m, x, y, vx, vy, hp, pw, lf⟩, mask⟩)
      have HRC := hid (fun W E (hW : Own w W ((rworldO r q R cf kk X).and E)) => rwcall_o hW HO.out ⟨k, s, i, g, ⟨es, ei, eg, m, x, y, vx, vy, hp, pw, lf⟩, mask⟩ hfit.1.2.2.2.1 hca.adm)
      have hL1 : (ldM ⟨blk, off + j * 17 + 1, none⟩).run prog wo = .ok (.agg #[int i64 k, int i64 s, int i64 i, int i64 g, int i64 es, int i64 ei, int i64 eg, int i64 m, int i64 x, int i64 y, int i64 vx, int i64 vy, int i64 hp, int i64 pw, int i64 lf, int i64 mask]) wo := ldM_of ⟨k, s, i, g, ⟨es, ei, eg, m, x, y, vx, vy, hp, pw, lf⟩, mask⟩ fun q u hq => by
       rw [Nat.add_assoc (off + j * 17)]
       exact hcx (1 + q) u (by rw [Nat.add_comm 1 q]; exact hq)
      generalize callW cf X ⟨k, s, i, g, ⟨es, ei, eg, m, x, y, vx, vy, hp, pw, lf⟩, mask⟩ = cr at *
      obtain ⟨⟨⟨uk, us, ui, ug, ⟨ues, uei, ueg, um, ux, uy, uvx, uvy, uhp, upw, ulf⟩, umask⟩, er⟩, X2⟩ := cr
      simp only at hi2 hX2
      have HCL2 : Hid (Calls prog 19 #[.pointer (some ⟨p, 0, none⟩), .agg #[int i64 k, int i64 s, int i64 i, int i64 g, int i64 es, int i64 ei, int i64 eg, int i64 m, int i64 x, int i64 y, int i64 vx, int i64 vy, int i64 hp, int i64 pw, int i64 lf, int i64 mask]] wo fun e w' => e = .returned (.tuple #[.agg #[int i64 uk, int i64 us, int i64 ui, int i64 ug, int i64 ues, int i64 uei, int i64 ueg, int i64 um, int i64 ux, int i64 uy, int i64 uvx, int i64 uvy, int i64 uhp, int i64 upw, int i64 ulf, int i64 umask], int i64 er]) ∧ Own w w' ((worldO p cf X2).and ((rworldO r q R cf kk X).and F))) := hid HCL.out
      have HRC2 : Hid (∀ W E, Own w W ((rworldO r q R cf kk X).and E) → Calls prog 34 #[.pointer (some ⟨r, 0, none⟩), .agg #[int i64 k, int i64 s, int i64 i, int i64 g, int i64 es, int i64 ei, int i64 eg, int i64 m, int i64 x, int i64 y, int i64 vx, int i64 vy, int i64 hp, int i64 pw, int i64 lf, int i64 mask]] W fun e w' => e = .returned (.tuple #[.agg #[int i64 uk, int i64 us, int i64 ui, int i64 ug, int i64 ues, int i64 uei, int i64 ueg, int i64 um, int i64 ux, int i64 uy, int i64 uvx, int i64 uvy, int i64 uhp, int i64 upw, int i64 ulf, int i64 umask], int i64 er]) ∧ Own w w' ((rworldO r q R cf kk X2).and E)) := hid HRC.out
      clear hcx hca HCL HRC
      go_wp2_with fail
      refine HCL2.out.mono ?_
      rintro e V1 ⟨rfl, h1⟩
      obtain ⟨w3, hs3, hm3⟩ := new_cmO V1 ⟨uk, us, ui, ug, ⟨ues, uei, ueg, um, ux, uy, uvx, uvy, uhp, upw, ulf⟩, umask⟩
      have H3 := hid (h1.made hm3).new3
      have hs3' : (stM ⟨V1.heap.size, 0, none⟩ (.agg #[int i64 uk, int i64 us, int i64 ui, int i64 ug, int i64 ues, int i64 uei, int i64 ueg, int i64 um, int i64 ux, int i64 uy, int i64 uvx, int i64 uvy, int i64 uhp, int i64 upw, int i64 ulf, int i64 umask])).run prog (V1.alloc (.cells #[int i64 0, int i64 0, int i64 0, int i64 0, int i64 0, int i64 0, int i64 0, int i64 0, int i64 0, int i64 0, int i64 0, int i64 0, int i64 0, int i64 0, int i64 0, int i64 0] 34)) = .ok () w3 := hs3
      obtain ⟨hb3, hc3⟩ := HK.out _ H3.out.below
      have hL3 : (ldM ⟨blk, off + j * 17 + 1, none⟩).run prog w3 = .ok (.agg #[int i64 k, int i64 s, int i64 i, int i64 g, int i64 es, int i64 ei, int i64 eg, int i64 m, int i64 x, int i64 y, int i64 vx, int i64 vy, int i64 hp, int i64 pw, int i64 lf, int i64 mask]) w3 := ldM_of ⟨k, s, i, g, ⟨es, ei, eg, m, x, y, vx, vy, hp, pw, lf⟩, mask⟩ fun q u hq => by
       rw [Nat.add_assoc (off + j * 17)]
       exact hc3 (1 + q) u (by rw [Nat.add_comm 1 q]; exact hq)
      obtain ⟨z3, z4, z5⟩ := ltz hb3
      clear hm3 hs3 h1 hL1 HCL2 c0 z0 z1 z2 hb hc3 hh
      go_wp2_with fail
      refine (HRC2.out _ _ H3.out.swap).mono ?_
      rintro e V2 ⟨rfl, h2⟩
      obtain ⟨w5, hs5, hm5⟩ := new_cmO V2 ⟨uk, us, ui, ug, ⟨ues, uei, ueg, um, ux, uy, uvx, uvy, uhp, upw, ulf⟩, umask⟩
      have h5 := (h2.made hm5).third.inner fun _ h => and_swap' h
      have H5 := hid h5
      have hs5' : (stM ⟨V2.heap.size, 0, none⟩ (.agg #[int i64 uk, int i64 us, int i64 ui, int i64 ug, int i64 ues, int i64 uei, int i64 ueg, int i64 um, int i64 ux, int i64 uy, int i64 uvx, int i64 uvy, int i64 uhp, int i64 upw, int i64 ulf, int i64 umask])).run prog (V2.alloc (.cells #[int i64 0, int i64 0, int i64 0, int i64 0, int i64 0, int i64 0, int i64 0, int i64 0, int i64 0, int i64 0, int i64 0, int i64 0, int i64 0, int i64 0, int i64 0, int i64 0] 34)) = .ok () w5 := hs5
      have hb13 := h5.fourth.box.1
      have hb15 := h5.third.box.1
      have hL13 : (ldM ⟨V1.heap.size, 0, none⟩).run prog w5 = .ok (.agg #[int i64 uk, int i64 us, int i64 ui, int i64 ug, int i64 ues, int i64 uei, int i64 ueg, int i64 um, int i64 ux, int i64 uy, int i64 uvx, int i64 uvy, int i64 uhp, int i64 upw, int i64 ulf, int i64 umask]) w5 := ldM_of ⟨uk, us, ui, ug, ⟨ues, uei, ueg, um, ux, uy, uvx, uvy, uhp, upw, ulf⟩, umask⟩ fun j v hj => by rw [Nat.zero_add, hb13, List.getElem?_toArray]; exact hj
      have hL15 : (ldM ⟨V2.heap.size, 0, none⟩).run prog w5 = .ok (.agg #[int i64 uk, int i64 us, int i64 ui, int i64 ug, int i64 ues, int i64 uei, int i64 ueg, int i64 um, int i64 ux, int i64 uy, int i64 uvx, int i64 uvy, int i64 uhp, int i64 upw, int i64 ulf, int i64 umask]) w5 := ldM_of ⟨uk, us, ui, ug, ⟨ues, uei, ueg, um, ux, uy, uvx, uvy, uhp, upw, ulf⟩, umask⟩ fun j v hj => by rw [Nat.zero_add, hb15, List.getElem?_toArray]; exact hj
      obtain ⟨hb8, hc8⟩ := HK.out _ h5.below
      have c2 := hc8 2 _ rfl
      have c3 := hc8 3 _ rfl
      have c4 := hc8 4 _ rfl
      obtain ⟨z6, z7, z8⟩ := ltz hb8
      have heq : cmEq ⟨uk, us, ui, ug, ⟨ues, uei, ueg, um, ux, uy, uvx, uvy, uhp, upw, ulf⟩, umask⟩ ⟨uk, us, ui, ug, ⟨ues, uei, ueg, um, ux, uy, uvx, uvy, uhp, upw, ulf⟩, umask⟩ = true := cmEq_self _
      clear hm5 hs5 h2 h5 hb13 hb15 hL3 hs3' z3 z4 z5 hb3 H3 HRC2 hc8 HK
      go_wp2_with fail
      refine (HAL.out _ _ X2 _ H5.out hX2).mono ?_
      rintro e w9 ⟨rfl, h9⟩
      have H9 := hid h9
      clear h9 H5 c2 c3 c4 z6 z7 z8 hb8 hL13 hL15 hs5'
      go_wp2_with fail
      go_roundw
      case rel => exact ⟨j + 1, X2, _, _, by go_num, hlt, by omega, hi2, H9⟩
      case measure => simp [intOf]; omega
  · obtain rfl : j = ts.length := by omega
    have HB := hid hh.out.below
    clear hh
    go_wp2_with (go_at_call 11; refine belA (awake17 _) fun d os => ?_)
    go_ret
    exact ⟨rfl, HB.out.trans (Below.mono (B := wo.heap.size) bg HB.out.size)⟩
theorem walk (cols rows side radius speed ids queue : Int) (v : Value) (zs : List Tn) (w : World) (hz : RIn tnL w v zs) (hf : ∀ t ∈ zs, CmFit t.m) :
 Calls prog 8 #[.agg #[int i64 cols, int i64 rows, int i64 side, int i64 radius, int i64 speed, int i64 ids, int i64 queue], v] w fun e w' => e = .returned (.bool true) ∧ Below w.heap.size w w' := by
 by_cases ho : CfgOk ⟨cols, rows, side, radius, speed, ids, queue⟩
 · exact walk_ok cols rows side radius speed ids queue v zs w hz hf ho
 · exact walk_bad cols rows side radius speed ids queue v w ho
theorem lifted (os : Os) (started : os.Started) (H : Type) (enc : TypeId × Value → H) :
 ReturnsInHanded {} Tryz.checked os 8 .any (Rows.worldPlaysSpec.pre6 enc prog Tryz.f8 Rows.worldPlaysRow.domain false) (Rows.worldPlaysSpec.post enc prog Tryz.f8 false true false false) := by
 refine returnsInHanded_of_change (C := Tryz.checked) ownKnob0 started (by kernel_rfl) Tryz.func8
  (ChangeSpec.witness6 (enc := enc) (C := Tryz.checked) false ⟨#[], #[.agg #[int i64 0, int i64 0, int i64 0, int i64 0, int i64 0, int i64 0, int i64 0], .slice none 0 0], []⟩ 8 (by kernel_rfl) (by kernel_rfl) (by kernel_rfl) (by kernel_rfl)) ?_
 intro W base args ds gs before hval0 hW _ _
 have hval : ∀ (j : Nat) t v, Tryz.f8.params[j]? = some t → args[j]? = some v → Value.okWide prog W .any base t v := hval0
 have hread : ∀ t ∈ Tryz.f8.params.toList, prog.readableRec t = true ∧ t < prog.types.size := by
  rw [Tryz.params8]
  intro t ht
  simp only [List.mem_cons, List.not_mem_nil, or_false] at ht
  rcases ht with rfl | rfl
  all_goals exact ⟨by kernel_rfl, of_decide_eq_true (by kernel_rfl)⟩
 have hW' := hW
 obtain ⟨p, q, hA0, hV, -, -⟩ := hW'
 have hA : DataW.TrodAll enc prog W 0 (fun _ => true) true Tryz.f8.params.toList args.toList ds p := hA0
 rw [Tryz.params8] at hA hval
 obtain ⟨v0, vs0, d0, ds0, p0, q0, hargs, rfl, rfl, h0, r0⟩ := trodAll_cons hA
 obtain ⟨v1, vs1, d1, ds1, p1, q1, rfl, rfl, rfl, h1, r1⟩ := trodAll_cons r0
 obtain ⟨rfl, rfl, rfl⟩ := trodAll_nil r1
 obtain rfl : args = #[v0, v1] := by cases args; simp_all
 obtain ⟨rfl, rfl⟩ := trodVars_none hV
 have k0 := hval 0 23 v0 rfl rfl
 have k1 := hval 1 24 v1 rfl rfl
 clear hval hval0 hA0 hV hA
 obtain ⟨c0, fuel0, rfl, g0⟩ := agg_of Tryz.underlying23 k0 h0
 obtain ⟨acols, arows, aside, aradius, aspeed, aids, aqueue, rfl⟩ := read_cfg g0
 obtain ⟨zs, hz, hf⟩ := turns_in k1 h1
 exact (walk _ _ _ _ _ _ _ _ zs W hz hf).mono fun e W' ⟨he, hb⟩ => ⟨_, he, post_true rfl rfl hread rfl hW hb⟩
theorem proved : Rows.WorldPlaysSaid :=
 OpenClaim.holds_of_wide 8 Tryz.f8 rfl rfl rfl rfl rfl rfl rfl ⟨rfl, rfl, rfl, rfl, rfl⟩ rfl rfl rfl rfl rfl (by kernel_rfl) Tryz.func8 (by kernel_rfl)
  (of_decide_eq_true (by kernel_rfl)) (by unfold Func.isWrapper; first | (rw [if_pos (by decide +kernel)]; kernel_rfl) | (rw [if_neg (by decide +kernel)]; exact ⟨rfl, rfl⟩))
  (fun os started H enc _ => lifted os started H enc)
end
end Go.Proofs.YtoimjjhopljdmaaGreat.worldPlays
