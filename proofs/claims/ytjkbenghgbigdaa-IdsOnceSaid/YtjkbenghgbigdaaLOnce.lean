/-
  IdsOnce: for every number and every list of ints the law returns true, and the argument stays as it was. No condition.
-/
import Derived.Test.YtjkbenghgbigdaaOncB
namespace Go.Proofs.Ytjkbenghgbigdaa.idsOnce
open Go.ChangeShapes Go.WideShapes Go.ChangeAt Go.RowKit

/-- The first loop's rounds. -/
def OnI (w wr : World) (P Q : Nat) (zs : List Int) (gv tv : Value) (k : Nat) : Prop :=
  ∃ (Lp Lq : Lay) (mp mq : Sh) (l : List (Id3 × Bool)), OnceR mp mq l ∧ Once4 w wr Lp mp P Lq mq Q gv tv (l.map (·.1)) (l.map (·.2)) ∧ l.length ≤ k ∧ k ≤ 60 ∧ k ≤ zs.length
/-- The second one's. -/
def OnJ (w wr : World) (P Q : Nat) (gv tv : Value) (l : List (Id3 × Bool)) : Prop :=
  ∃ (Lp Lq : Lay) (mp mq : Sh), OnceQ mq l ∧ Once4 w wr Lp mp P Lq mq Q gv tv (l.map (·.1)) (l.map (·.2))

theorem modN (z : Int) (n : Nat) (h : 0 < n) : ∃ j : Nat, j < n ∧ z % (n : Int) = j :=
  ⟨(z % (n : Int)).toNat, by have := Int.emod_lt_of_pos z (show (0 : Int) < n by omega); have := Int.emod_nonneg z (show (n : Int) ≠ 0 by omega); omega, (Int.toNat_of_nonneg (Int.emod_nonneg _ (by omega))).symm⟩

set_option maxRecDepth 100000 in
set_option maxHeartbeats 16000000 in
theorem walk (z0 : Int) (v : Value) (zs : List Int) (w : World) (hz : IntsIn w v zs) :
    Calls Try.prog 12 #[.int .i64 z0, v] w fun e w' => e = .returned (.bool true) ∧ Below w.heap.size w w' := by
  obtain ⟨pz, capz, rfl, hlen, hzr, hzc⟩ := hz
  unfold maxLen at hlen
  have HZR := Lib.hid hzr
  have HZC := Lib.hid hzc
  clear hzr hzc
  obtain ⟨r, hr4, hr⟩ := modN z0 4 (by omega)
  have hnew := fun W => new_p 1 (r + 1) W (by omega) (by omega) (by omega) (by omega)
  rw [show ((r + 1 : Nat) : Int) = 1 + (r : Int) by omega] at hnew
  simp only [Int.cast_ofNat_Int] at hnew hr
  have HNEW := Lib.hid hnew
  have hrI : 0 ≤ (r : Int) := Int.natCast_nonneg r
  have HR := Lib.hid hr
  obtain ⟨i0, hi0, hz0, hz1, hz2⟩ := info_parts info_id
  obtain ⟨j0, hj0, hy0, hy1, hy2⟩ := info_parts info_bool
  have hmk : ∀ w, (Instr.makeSlice 59 (.int .i64 0) (.int .i64 0)).run Try.prog w = .ok (.slice (some ⟨w.heap.size, 0, none⟩) 0 0) (w.alloc (.cells #[] 4)) := fun _ => by kernel_rfl
  clear hnew hr
  go_enter Try.func12, Try.ntmps12
  go_wp2_with fail
  refine (mod_any z0 4 _ (by omega) (by omega)).mono ?_
  rw [HR.out]
  rintro e w' ⟨rfl, rfl⟩
  go_wp2_with fail
  refine (HNEW.out _).mono ?_
  rintro e w1 ⟨rfl, hb1, L1, hP1, hp1, ho1⟩
  go_wp2_with fail
  refine (HNEW.out _).mono ?_
  rintro e w2 ⟨rfl, hb2, L2, hP2, hp2, ho2⟩
  have hf0 := fresh_once (r + 1) (by omega)
  have st0 : St2 w w2 L1 [fresh (r + 1) (r + 1)] (w.heap.size + 1) L2 [fresh (r + 1) (r + 1)] (w1.heap.size + 1) :=
    ⟨⟨hP1, hp1.grown hb2, hb1.trans (hb2.mono hb1.size), ho1⟩, ⟨hP2, hp2, hb1.trans (hb2.mono hb1.size), fun b h => Nat.le_trans hb1.size (ho2 b h)⟩, fun b h1 h2 => by have := hp1.lt h1; have := ho2 b h2; omega⟩
  have ST0 := Lib.hid st0
  have HF0 := Lib.hid hf0
  generalize hQ : w1.heap.size + 1 = Q at *
  clear hb1 hP1 hp1 ho1 hb2 hP2 hp2 ho2 st0 hQ hf0
  go_wp2_with fail
  have hon0 : OnI w (w2.alloc (.cells #[] 4)) (w.heap.size + 1) Q zs (.slice none 0 0) (.slice (some ⟨w2.heap.size, 0, none⟩) 0 0) 0 :=
    ⟨L1, L2, _, _, [], HF0.out, ⟨ST0.out.grow (by repeat' (first | (with_reducible exact Below.refl _ _) | (with_reducible assumption) | (with_reducible refine below_drewN ?_ _) | (with_reducible refine below_more _ _ _ ?_ ?_) | (with_reducible refine Below.alloc ?_ ?_ _) | (with_reducible refine Below.drew ?_) | (with_reducible refine Below.setCell ?_ ?_ _) | go_size)), Lst.nil _ _ _, ⟨Sl.empty (heap_alloc_new _ _), fun g hg => by
      obtain rfl : w2.heap.size = g := by simpa [Value.ownBlock] using hg
      exact ⟨ST0.out.a.hb.size, fun hh => hh.elim (fun h => by have := ST0.out.a.hp.lt h; omega) fun h => by have := ST0.out.b.hp.lt h; omega⟩⟩, fun b hb => by cases hb⟩, Nat.le_refl _, by omega, by omega⟩
  have HON0 := Lib.hid hon0
  clear hon0
  go_loopw [9, 10, 11] (fun gv tv i wr => ∃ k : Nat, i = .int .i64 k ∧ OnI w wr (w.heap.size + 1) Q zs gv tv k) (fun _ _ i _ => 61 - (intOf i).toNat)
  case atStart => exact ⟨0, rfl, HON0.out⟩
  case round =>
    obtain ⟨k, rfl, Lp, Lq, mp, mq, l, hR, h4, hlk, hk60, hkz⟩ := hrel
    clear HF0 ST0 HON0
    obtain ⟨wo, rfl⟩ : ∃ wo : World, wo = wr := ⟨_, rfl⟩
    obtain ⟨pg, cg, hgv, hgm, hgc⟩ := h4.g.cells
    obtain ⟨pt, ct, htv, htm, htc⟩ := h4.t.cells
    subst hgv htv
    unfold maxLen at hgm htm
    rw [List.length_map] at hgm htm
    simp only [List.length_map] at hgc htc h4
    have HGC := Lib.hid hgc
    have HTC := Lib.hid htc
    have H4 := Lib.hid h4
    have HRR := Lib.hid hR
    have hI : 0 ≤ (k : Int) := Int.natCast_nonneg _
    clear hgc htc h4 hR
    simp only [List.length_map]
    by_cases hlt : k < zs.length ∧ k < 60
    · obtain ⟨h1, h2⟩ := hlt
      obtain ⟨bz, oz, rfl, hcap, hbz, hcz⟩ := HZC.out k h1
      have hcz' := (H4.out.st.a.hb.cell (p := ⟨bz, oz + k, none⟩) hbz).trans hcz
      have hzi := HZR.out (zs.getD k 0) (by simp [List.getD, h1])
      generalize zs.getD k 0 = z at *
      have HCZ := Lib.hid hcz
      clear hcz
      by_cases h3 : z % 3 = 0
      · have hz30 : z % 3 = 0 := h3
        have HZ30 := Lib.hid hz30
        clear h3 hz30
        by_cases hn : l.length = 0
        · go_wp2_with fail
          refine (mod_any z 3 _ (by omega) (by omega)).mono ?_
          rw [HZ30.out]
          rintro e w' ⟨rfl, rfl⟩
          go_wp2_with fail
          go_roundw
          case rel => exact ⟨k + 1, by go_num, Lp, Lq, mp, mq, l, HRR.out, by simpa [hn] using H4.out.grow (by repeat' (first | (with_reducible exact Below.refl _ _) | (with_reducible assumption) | (with_reducible refine below_drewN ?_ _) | (with_reducible refine below_more _ _ _ ?_ ?_) | (with_reducible refine Below.alloc ?_ ?_ _) | (with_reducible refine Below.drew ?_) | (with_reducible refine Below.setCell ?_ ?_ _) | go_size)), by omega, by omega, by omega⟩
          case measure => simp [intOf]; omega
        · have hpos : 0 < l.length := Nat.pos_of_ne_zero hn
          clear hn
          obtain ⟨j, hj1, hj0⟩ := modN (z.tdiv 3) l.length hpos
          have HJ := Lib.hid hj0
          obtain ⟨x, hx⟩ : ∃ x, l[j]? = some x := ⟨_, List.getElem?_eq_getElem hj1⟩
          have hxm := List.mem_of_getElem? hx
          have hx1 : (l.map (·.1))[j]? = some x.1 := by simp [hx]
          have hx2 : (l.map (·.2))[j]? = some x.2 := by simp [hx]
          have hs0 := (HRR.out.gvn x hxm).1
          have hfr := HRR.out.free hxm
          obtain ⟨⟨xs, xi, xg⟩, xb⟩ := x
          simp only at hs0 hx1 hx2 hfr
          subst hs0
          obtain ⟨bb, oo, hpp, hcap2, q0, q1, q2⟩ := H4.out.g.at hx1
          subst hpp
          obtain ⟨bt, ot, hpt, hcap3, q3⟩ := H4.out.t.at hx2
          subst hpt
          rw [List.length_map] at hcap2 hcap3
          simp only at q0 q1 q2
          have hjI : 0 ≤ (j : Int) := Int.natCast_nonneg j
          have hjL : (j : Int) < (l.length : Int) := by omega
          have HX1 := Lib.hid hx1
          have HX2 := Lib.hid hx2
          clear hj0 hx hxm hx1 hx2
          rcases hfr with ⟨mp', e1, ht, hf⟩ | ⟨c, hc, e1⟩
          · have E1 := Lib.hid e1
            have HT := Lib.hid ht
            have HF := Lib.hid hf
            clear e1 ht hf
            go_wp2_with fail
            refine (mod_any z 3 _ (by omega) (by omega)).mono ?_
            rw [HZ30.out]
            rintro e w' ⟨rfl, rfl⟩
            go_wp2_with fail
            refine (mod_any _ _ _ (by omega) (by omega)).mono ?_
            rw [HJ.out]
            rintro e w' ⟨rfl, rfl⟩
            go_wp2_with fail
            refine (free_p _ Lp _ _ H4.out.st.a.hP (H4.out.grow (by repeat' (first | (with_reducible exact Below.refl _ _) | (with_reducible assumption) | (with_reducible refine below_drewN ?_ _) | (with_reducible refine below_more _ _ _ ?_ ?_) | (with_reducible refine Below.alloc ?_ ?_ _) | (with_reducible refine Below.drew ?_) | (with_reducible refine Below.setCell ?_ ?_ _) | go_size))).st.a.hp 0 xi xg).mono ?_
            rw [E1.out]
            rintro e w3 ⟨rfl, hs⟩
            obtain ⟨Lp1, h5, c1, o1⟩ := (H4.out.grow (by repeat' (first | (with_reducible exact Below.refl _ _) | (with_reducible assumption) | (with_reducible refine below_drewN ?_ _) | (with_reducible refine below_more _ _ _ ?_ ?_) | (with_reducible refine Below.alloc ?_ ?_ _) | (with_reducible refine Below.drew ?_) | (with_reducible refine Below.setCell ?_ ?_ _) | go_size))).wentP hs
            clear hs c1 o1 q0 q1 q2 q3
            obtain ⟨bb', oo', hpp, _, q0, q1, q2⟩ := h5.g.at HX1.out
            cases hpp
            obtain ⟨bt', ot', hpt, _, q3⟩ := h5.t.at HX2.out
            cases hpt
            simp only at q0 q1 q2
            have H5 := Lib.hid h5
            clear h5
            cases xb with
            | false =>
              go_wp2_with fail
              go_roundw
              case rel => exact ⟨k + 1, by go_num, Lp1, Lq, mp', mq, l, HF.out (by simp), H5.out.grow (by repeat' (first | (with_reducible exact Below.refl _ _) | (with_reducible assumption) | (with_reducible refine below_drewN ?_ _) | (with_reducible refine below_more _ _ _ ?_ ?_) | (with_reducible refine Below.alloc ?_ ?_ _) | (with_reducible refine Below.drew ?_) | (with_reducible refine Below.setCell ?_ ?_ _) | go_size)), by omega, by omega, by omega⟩
              case measure => simp [intOf]; omega
            | true =>
              obtain ⟨mq', e2, hR2⟩ := HT.out rfl
              have E2 := Lib.hid e2
              have HR2 := Lib.hid hR2
              clear e2 hR2
              go_wp2_with fail
              refine (free_p _ Lq _ _ H5.out.st.b.hP (H5.out.grow (by repeat' (first | (with_reducible exact Below.refl _ _) | (with_reducible assumption) | (with_reducible refine below_drewN ?_ _) | (with_reducible refine below_more _ _ _ ?_ ?_) | (with_reducible refine Below.alloc ?_ ?_ _) | (with_reducible refine Below.drew ?_) | (with_reducible refine Below.setCell ?_ ?_ _) | go_size))).st.b.hp 0 xi xg).mono ?_
              rw [E2.out]
              rintro e w4 ⟨rfl, hs⟩
              obtain ⟨Lq1, h6, c2, o2⟩ := (H5.out.grow (by repeat' (first | (with_reducible exact Below.refl _ _) | (with_reducible assumption) | (with_reducible refine below_drewN ?_ _) | (with_reducible refine below_more _ _ _ ?_ ?_) | (with_reducible refine Below.alloc ?_ ?_ _) | (with_reducible refine Below.drew ?_) | (with_reducible refine Below.setCell ?_ ?_ _) | go_size))).wentQ hs
              have H6 := Lib.hid h6
              clear hs c2 o2 h6
              go_wp2_with fail
              go_roundw
              case rel => exact ⟨k + 1, by go_num, Lp1, Lq1, mp', mq', l, HR2.out, H6.out.grow (by repeat' (first | (with_reducible exact Below.refl _ _) | (with_reducible assumption) | (with_reducible refine below_drewN ?_ _) | (with_reducible refine below_more _ _ _ ?_ ?_) | (with_reducible refine Below.alloc ?_ ?_ _) | (with_reducible refine Below.drew ?_) | (with_reducible refine Below.setCell ?_ ?_ _) | go_size)), by omega, by omega, by omega⟩
              case measure => simp [intOf]; omega
          · have E1 := Lib.hid e1
            clear e1
            go_wp2_with fail
            refine (mod_any z 3 _ (by omega) (by omega)).mono ?_
            rw [HZ30.out]
            rintro e w' ⟨rfl, rfl⟩
            go_wp2_with fail
            refine (mod_any _ _ _ (by omega) (by omega)).mono ?_
            rw [HJ.out]
            rintro e w' ⟨rfl, rfl⟩
            go_wp2_with fail
            refine (free_p _ Lp _ _ H4.out.st.a.hP (H4.out.grow (by repeat' (first | (with_reducible exact Below.refl _ _) | (with_reducible assumption) | (with_reducible refine below_drewN ?_ _) | (with_reducible refine below_more _ _ _ ?_ ?_) | (with_reducible refine Below.alloc ?_ ?_ _) | (with_reducible refine Below.drew ?_) | (with_reducible refine Below.setCell ?_ ?_ _) | go_size))).st.a.hp 0 xi xg).mono ?_
            rw [E1.out]
            rintro e w3 ⟨rfl, hs⟩
            obtain ⟨Lp1, h5, c1, o1⟩ := (H4.out.grow (by repeat' (first | (with_reducible exact Below.refl _ _) | (with_reducible assumption) | (with_reducible refine below_drewN ?_ _) | (with_reducible refine below_more _ _ _ ?_ ?_) | (with_reducible refine Below.alloc ?_ ?_ _) | (with_reducible refine Below.drew ?_) | (with_reducible refine Below.setCell ?_ ?_ _) | go_size))).wentP hs
            have H5 := Lib.hid h5
            clear hs c1 o1 q0 q1 q2 q3 h5
            go_wp2_with fail
            go_roundw
            case rel => exact ⟨k + 1, by go_num, Lp1, Lq, mp, mq, l, HRR.out, H5.out.grow (by repeat' (first | (with_reducible exact Below.refl _ _) | (with_reducible assumption) | (with_reducible refine below_drewN ?_ _) | (with_reducible refine below_more _ _ _ ?_ ?_) | (with_reducible refine Below.alloc ?_ ?_ _) | (with_reducible refine Below.drew ?_) | (with_reducible refine Below.setCell ?_ ?_ _) | go_size)), by omega, by omega, by omega⟩
            case measure => simp [intOf]; omega
      · have hz3 : 0 < z % 3 := by have := Int.emod_nonneg z (by omega : (3 : Int) ≠ 0); omega
        clear h3
        cases hf : mp.free with
        | nil =>
          have e1 : nextF [mp] 0 = (((0, 0, 0), -1, false), [mp]) := nextF_nil (M := [mp]) (k := 0) rfl hf
          have E1 := Lib.hid e1
          clear hf e1
          go_wp2_with fail
          refine (mod_any z 3 _ (by omega) (by omega)).mono ?_
          rintro e w' ⟨rfl, rfl⟩
          go_wp2_with fail
          refine (next_p _ Lp _ _ H4.out.st.a.hP (H4.out.grow (by repeat' (first | (with_reducible exact Below.refl _ _) | (with_reducible assumption) | (with_reducible refine below_drewN ?_ _) | (with_reducible refine below_more _ _ _ ?_ ?_) | (with_reducible refine Below.alloc ?_ ?_ _) | (with_reducible refine Below.drew ?_) | (with_reducible refine Below.setCell ?_ ?_ _) | go_size))).st.a.hp 0).mono ?_
          rw [E1.out]
          rintro e w3 ⟨rfl, hs⟩
          obtain ⟨Lp1, st1, c1, o1⟩ := (H4.out.grow (by repeat' (first | (with_reducible exact Below.refl _ _) | (with_reducible assumption) | (with_reducible refine below_drewN ?_ _) | (with_reducible refine below_more _ _ _ ?_ ?_) | (with_reducible refine Below.alloc ?_ ?_ _) | (with_reducible refine Below.drew ?_) | (with_reducible refine Below.setCell ?_ ?_ _) | go_size))).wentP hs
          have H5 := Lib.hid st1
          clear hs st1 c1 o1
          go_wp2_with fail
          go_roundw
          case rel => exact ⟨k + 1, by go_num, Lp1, Lq, mp, mq, l, HRR.out, by simpa using H5.out.grow (by repeat' (first | (with_reducible exact Below.refl _ _) | (with_reducible assumption) | (with_reducible refine below_drewN ?_ _) | (with_reducible refine below_more _ _ _ ?_ ?_) | (with_reducible refine Below.alloc ?_ ?_ _) | (with_reducible refine Below.drew ?_) | (with_reducible refine Below.setCell ?_ ?_ _) | go_size)), by omega, by omega, by omega⟩
          case measure => simp [intOf]; omega
        | cons f fs =>
          obtain ⟨g, a, mp', mq', mq'', e1, hres, hR1, e2, hR2⟩ := HRR.out.next hf
          have E1 := Lib.hid e1
          have E2 := Lib.hid e2
          have HR1 := Lib.hid hR1
          have HR2 := Lib.hid hR2
          clear hf e1 e2 hR1 hR2
          rcases hres with ⟨ha, hm⟩ | ⟨ha, hm, hr⟩
          · subst ha hm
            rcases (Int.emod_two_eq z : z % 2 = 0 ∨ z % 2 = 1) with hp | hp
            · have hp2 : (z % 2 == 0) = true := by simpa using hp
              clear hp
              go_wp2_with fail
              refine (mod_any z 3 _ (by omega) (by omega)).mono ?_
              rintro e w' ⟨rfl, rfl⟩
              go_wp2_with fail
              refine (next_p _ Lp _ _ H4.out.st.a.hP (H4.out.grow (by repeat' (first | (with_reducible exact Below.refl _ _) | (with_reducible assumption) | (with_reducible refine below_drewN ?_ _) | (with_reducible refine below_more _ _ _ ?_ ?_) | (with_reducible refine Below.alloc ?_ ?_ _) | (with_reducible refine Below.drew ?_) | (with_reducible refine Below.setCell ?_ ?_ _) | go_size))).st.a.hp 0).mono ?_
              rw [E1.out]
              rintro e w3 ⟨rfl, hs⟩
              obtain ⟨Lp1, h5, c1, o1⟩ := (H4.out.grow (by repeat' (first | (with_reducible exact Below.refl _ _) | (with_reducible assumption) | (with_reducible refine below_drewN ?_ _) | (with_reducible refine below_more _ _ _ ?_ ?_) | (with_reducible refine Below.alloc ?_ ?_ _) | (with_reducible refine Below.drew ?_) | (with_reducible refine Below.setCell ?_ ?_ _) | go_size))).wentP hs
              have bx5 := Box.new h5.st.b.hp #[.int .i64 0, .int .i64 f, .int .i64 g] 30
              have hng : (Value.slice pg l.length cg).ownBlock ≠ some w3.heap.size := fun e => by have := h5.g.sl.lt e; omega
              have hnt : (Value.slice pt l.length ct).ownBlock ≠ some w3.heap.size := fun e => by have := h5.t.sl.lt e; omega
              have hcz5 := (h5.st.a.hb.cell (p := ⟨bz, oz + k, none⟩) hbz).trans HCZ.out
              have hbz5 := Nat.lt_of_lt_of_le hbz h5.st.a.hb.size
              have BX5 := Lib.hid bx5
              have HNG := Lib.hid hng
              have HNT := Lib.hid hnt
              have H5 := Lib.hid h5
              clear hs c1 o1 h5 bx5 hng hnt hcz'
              go_wp2_with fail
              refine (mod_any z 2 _ (by omega) (by omega)).mono ?_
              rintro e w' ⟨rfl, rfl⟩
              go_upto_region 18 with (at_builtin; refine wpList_append_sl _ (by rfl) _ _ 27 (by rfl) 30 i0 _ 3 24 Try.underlying27 hi0 hz0 hz1 hz2 rfl (by omega) _ l.length (idCells (l.map (·.1))) (by rfl) ((H5.out.grow (by repeat' (first | (with_reducible exact Below.refl _ _) | (with_reducible assumption) | (with_reducible refine below_drewN ?_ _) | (with_reducible refine below_more _ _ _ ?_ ?_) | (with_reducible refine Below.alloc ?_ ?_ _) | (with_reducible refine Below.drew ?_) | (with_reducible refine Below.setCell ?_ ?_ _) | go_size))).gsl (by simp)) ⟨_, 0, none⟩ 1 1 [.int .i64 0, .int .i64 f, .int .i64 g] (by rfl) (by rfl) (by intro j u hj; rcases j with _ | _ | _ | j <;> simp at hj <;> subst hj <;> simp [Addr.add, go_sem]) (by simp [Value.oneCell']) (by omega) (by unfold maxLen; omega) (by omega) ?_; intro v' w6 hs4 ht4 ho4)
              have h7 := (H5.out.grow (by repeat' (first | (with_reducible exact Below.refl _ _) | (with_reducible assumption) | (with_reducible refine below_drewN ?_ _) | (with_reducible refine below_more _ _ _ ?_ ?_) | (with_reducible refine Below.alloc ?_ ?_ _) | (with_reducible refine Below.drew ?_) | (with_reducible refine Below.setCell ?_ ?_ _) | go_size))).snocG (by simp) hs4 ht4 ho4
              have bx7 := BX5.out.turned (by repeat' (first | (with_reducible exact Below.refl _ _) | (with_reducible assumption) | (with_reducible refine below_drewN ?_ _) | (with_reducible refine below_more _ _ _ ?_ ?_) | (with_reducible refine Below.alloc ?_ ?_ _) | (with_reducible refine Below.drew ?_) | (with_reducible refine Below.setCell ?_ ?_ _) | go_size)) ht4 HNG.out
              have H7 := Lib.hid h7
              have BX7 := Lib.hid bx7
              clear h7 bx7 hs4 ht4 ho4
              go_upto_region 19 with (at_builtin; refine wpList_append_sl _ (by rfl) _ _ 59 (by rfl) 4 j0 _ 1 1 Try.underlying59 hj0 hy0 hy1 hy2 rfl (by omega) _ l.length ((l.map (·.2)).map Value.bool) (by rfl) ((H7.out.grow (by repeat' (first | (with_reducible exact Below.refl _ _) | (with_reducible assumption) | (with_reducible refine below_drewN ?_ _) | (with_reducible refine below_more _ _ _ ?_ ?_) | (with_reducible refine Below.alloc ?_ ?_ _) | (with_reducible refine Below.drew ?_) | (with_reducible refine Below.setCell ?_ ?_ _) | go_size))).tsl (by simp)) ⟨_, 0, none⟩ 1 1 [.bool true] (by rfl) (by rfl) (by intro j u hj; rcases j with _ | j <;> simp at hj; subst hj; simp [Addr.add, go_sem]) (by simp [Value.oneCell']) (by omega) (by unfold maxLen; omega) (by omega) ?_; intro vt w7 hs5 ht5 ho5)
              have h8 := (H7.out.grow (by repeat' (first | (with_reducible exact Below.refl _ _) | (with_reducible assumption) | (with_reducible refine below_drewN ?_ _) | (with_reducible refine below_more _ _ _ ?_ ?_) | (with_reducible refine Below.alloc ?_ ?_ _) | (with_reducible refine Below.drew ?_) | (with_reducible refine Below.setCell ?_ ?_ _) | go_size))).snocT (by simp) hs5 ht5 ho5
              have bx8 := BX7.out.turned (by repeat' (first | (with_reducible exact Below.refl _ _) | (with_reducible assumption) | (with_reducible refine below_drewN ?_ _) | (with_reducible refine below_more _ _ _ ?_ ?_) | (with_reducible refine Below.alloc ?_ ?_ _) | (with_reducible refine Below.drew ?_) | (with_reducible refine Below.setCell ?_ ?_ _) | go_size)) ht5 HNT.out
              have H8 := Lib.hid h8
              have ha8 := bx8.1
              have hc8 := bx8.2.2
              obtain ⟨v0, v1, v2, v3⟩ := lts ha8
              clear h8 hs5 ht5 ho5 bx8
              go_wp2_with fail
              refine (take_p _ Lq _ _ H8.out.st.b.hP (H8.out.grow (by repeat' (first | (with_reducible exact Below.refl _ _) | (with_reducible assumption) | (with_reducible refine below_drewN ?_ _) | (with_reducible refine below_more _ _ _ ?_ ?_) | (with_reducible refine Below.alloc ?_ ?_ _) | (with_reducible refine Below.drew ?_) | (with_reducible refine Below.setCell ?_ ?_ _) | go_size))).st.b.hp 0 f g).mono ?_
              rw [E2.out]
              rintro e w9 ⟨rfl, hs⟩
              obtain ⟨Lq2, h9, c3, o3⟩ := (H8.out.grow (by repeat' (first | (with_reducible exact Below.refl _ _) | (with_reducible assumption) | (with_reducible refine below_drewN ?_ _) | (with_reducible refine below_more _ _ _ ?_ ?_) | (with_reducible refine Below.alloc ?_ ?_ _) | (with_reducible refine Below.drew ?_) | (with_reducible refine Below.setCell ?_ ?_ _) | go_size))).wentQ hs
              have H9 := Lib.hid h9
              clear hs c3 o3 h9
              go_wp2_with fail
              go_roundw
              case rel => exact ⟨k + 1, by go_num, Lp1, Lq2, mp', mq'', l ++ [((0, f, g), true)], HR2.out, by simpa using H9.out.grow (by repeat' (first | (with_reducible exact Below.refl _ _) | (with_reducible assumption) | (with_reducible refine below_drewN ?_ _) | (with_reducible refine below_more _ _ _ ?_ ?_) | (with_reducible refine Below.alloc ?_ ?_ _) | (with_reducible refine Below.drew ?_) | (with_reducible refine Below.setCell ?_ ?_ _) | go_size)), by simp; omega, by omega, by omega⟩
              case measure => simp [intOf]; omega
            · have hp2 : (z % 2 == 0) = false := by rw [hp]; rfl
              clear hp
              go_wp2_with fail
              refine (mod_any z 3 _ (by omega) (by omega)).mono ?_
              rintro e w' ⟨rfl, rfl⟩
              go_wp2_with fail
              refine (next_p _ Lp _ _ H4.out.st.a.hP (H4.out.grow (by repeat' (first | (with_reducible exact Below.refl _ _) | (with_reducible assumption) | (with_reducible refine below_drewN ?_ _) | (with_reducible refine below_more _ _ _ ?_ ?_) | (with_reducible refine Below.alloc ?_ ?_ _) | (with_reducible refine Below.drew ?_) | (with_reducible refine Below.setCell ?_ ?_ _) | go_size))).st.a.hp 0).mono ?_
              rw [E1.out]
              rintro e w3 ⟨rfl, hs⟩
              obtain ⟨Lp1, h5, c1, o1⟩ := (H4.out.grow (by repeat' (first | (with_reducible exact Below.refl _ _) | (with_reducible assumption) | (with_reducible refine below_drewN ?_ _) | (with_reducible refine below_more _ _ _ ?_ ?_) | (with_reducible refine Below.alloc ?_ ?_ _) | (with_reducible refine Below.drew ?_) | (with_reducible refine Below.setCell ?_ ?_ _) | go_size))).wentP hs
              have bx5 := Box.new h5.st.b.hp #[.int .i64 0, .int .i64 f, .int .i64 g] 30
              have hng : (Value.slice pg l.length cg).ownBlock ≠ some w3.heap.size := fun e => by have := h5.g.sl.lt e; omega
              have hnt : (Value.slice pt l.length ct).ownBlock ≠ some w3.heap.size := fun e => by have := h5.t.sl.lt e; omega
              have hcz5 := (h5.st.a.hb.cell (p := ⟨bz, oz + k, none⟩) hbz).trans HCZ.out
              have hbz5 := Nat.lt_of_lt_of_le hbz h5.st.a.hb.size
              have BX5 := Lib.hid bx5
              have HNG := Lib.hid hng
              have HNT := Lib.hid hnt
              have H5 := Lib.hid h5
              clear hs c1 o1 h5 bx5 hng hnt hcz'
              go_wp2_with fail
              refine (mod_any z 2 _ (by omega) (by omega)).mono ?_
              rintro e w' ⟨rfl, rfl⟩
              go_upto_region 18 with (at_builtin; refine wpList_append_sl _ (by rfl) _ _ 27 (by rfl) 30 i0 _ 3 24 Try.underlying27 hi0 hz0 hz1 hz2 rfl (by omega) _ l.length (idCells (l.map (·.1))) (by rfl) ((H5.out.grow (by repeat' (first | (with_reducible exact Below.refl _ _) | (with_reducible assumption) | (with_reducible refine below_drewN ?_ _) | (with_reducible refine below_more _ _ _ ?_ ?_) | (with_reducible refine Below.alloc ?_ ?_ _) | (with_reducible refine Below.drew ?_) | (with_reducible refine Below.setCell ?_ ?_ _) | go_size))).gsl (by simp)) ⟨_, 0, none⟩ 1 1 [.int .i64 0, .int .i64 f, .int .i64 g] (by rfl) (by rfl) (by intro j u hj; rcases j with _ | _ | _ | j <;> simp at hj <;> subst hj <;> simp [Addr.add, go_sem]) (by simp [Value.oneCell']) (by omega) (by unfold maxLen; omega) (by omega) ?_; intro v' w6 hs4 ht4 ho4)
              have h7 := (H5.out.grow (by repeat' (first | (with_reducible exact Below.refl _ _) | (with_reducible assumption) | (with_reducible refine below_drewN ?_ _) | (with_reducible refine below_more _ _ _ ?_ ?_) | (with_reducible refine Below.alloc ?_ ?_ _) | (with_reducible refine Below.drew ?_) | (with_reducible refine Below.setCell ?_ ?_ _) | go_size))).snocG (by simp) hs4 ht4 ho4
              have bx7 := BX5.out.turned (by repeat' (first | (with_reducible exact Below.refl _ _) | (with_reducible assumption) | (with_reducible refine below_drewN ?_ _) | (with_reducible refine below_more _ _ _ ?_ ?_) | (with_reducible refine Below.alloc ?_ ?_ _) | (with_reducible refine Below.drew ?_) | (with_reducible refine Below.setCell ?_ ?_ _) | go_size)) ht4 HNG.out
              have H7 := Lib.hid h7
              have BX7 := Lib.hid bx7
              clear h7 bx7 hs4 ht4 ho4
              go_upto_region 19 with (at_builtin; refine wpList_append_sl _ (by rfl) _ _ 59 (by rfl) 4 j0 _ 1 1 Try.underlying59 hj0 hy0 hy1 hy2 rfl (by omega) _ l.length ((l.map (·.2)).map Value.bool) (by rfl) ((H7.out.grow (by repeat' (first | (with_reducible exact Below.refl _ _) | (with_reducible assumption) | (with_reducible refine below_drewN ?_ _) | (with_reducible refine below_more _ _ _ ?_ ?_) | (with_reducible refine Below.alloc ?_ ?_ _) | (with_reducible refine Below.drew ?_) | (with_reducible refine Below.setCell ?_ ?_ _) | go_size))).tsl (by simp)) ⟨_, 0, none⟩ 1 1 [.bool false] (by rfl) (by rfl) (by intro j u hj; rcases j with _ | j <;> simp at hj; subst hj; simp [Addr.add, go_sem]) (by simp [Value.oneCell']) (by omega) (by unfold maxLen; omega) (by omega) ?_; intro vt w7 hs5 ht5 ho5)
              have h8 := (H7.out.grow (by repeat' (first | (with_reducible exact Below.refl _ _) | (with_reducible assumption) | (with_reducible refine below_drewN ?_ _) | (with_reducible refine below_more _ _ _ ?_ ?_) | (with_reducible refine Below.alloc ?_ ?_ _) | (with_reducible refine Below.drew ?_) | (with_reducible refine Below.setCell ?_ ?_ _) | go_size))).snocT (by simp) hs5 ht5 ho5
              have bx8 := BX7.out.turned (by repeat' (first | (with_reducible exact Below.refl _ _) | (with_reducible assumption) | (with_reducible refine below_drewN ?_ _) | (with_reducible refine below_more _ _ _ ?_ ?_) | (with_reducible refine Below.alloc ?_ ?_ _) | (with_reducible refine Below.drew ?_) | (with_reducible refine Below.setCell ?_ ?_ _) | go_size)) ht5 HNT.out
              have H8 := Lib.hid h8
              have ha8 := bx8.1
              have hc8 := bx8.2.2
              obtain ⟨v0, v1, v2, v3⟩ := lts ha8
              clear h8 hs5 ht5 ho5 bx8
              go_wp2_with fail
              go_roundw
              case rel => exact ⟨k + 1, by go_num, Lp1, Lq, mp', mq', l ++ [((0, f, g), false)], HR1.out, by simpa using H8.out.grow (by repeat' (first | (with_reducible exact Below.refl _ _) | (with_reducible assumption) | (with_reducible refine below_drewN ?_ _) | (with_reducible refine below_more _ _ _ ?_ ?_) | (with_reducible refine Below.alloc ?_ ?_ _) | (with_reducible refine Below.drew ?_) | (with_reducible refine Below.setCell ?_ ?_ _) | go_size)), by simp; omega, by omega, by omega⟩
              case measure => simp [intOf]; omega
          · have hm' := hm.symm
            subst hm'
            have ER := Lib.hid hr
            clear hr
            rcases (Int.emod_two_eq z : z % 2 = 0 ∨ z % 2 = 1) with hp | hp
            · have hp2 : (z % 2 == 0) = true := by simpa using hp
              clear hp
              go_wp2_with fail
              refine (mod_any z 3 _ (by omega) (by omega)).mono ?_
              rintro e w' ⟨rfl, rfl⟩
              go_wp2_with fail
              refine (next_p _ Lp _ _ H4.out.st.a.hP (H4.out.grow (by repeat' (first | (with_reducible exact Below.refl _ _) | (with_reducible assumption) | (with_reducible refine below_drewN ?_ _) | (with_reducible refine below_more _ _ _ ?_ ?_) | (with_reducible refine Below.alloc ?_ ?_ _) | (with_reducible refine Below.drew ?_) | (with_reducible refine Below.setCell ?_ ?_ _) | go_size))).st.a.hp 0).mono ?_
              rw [E1.out]
              rintro e w3 ⟨rfl, hs⟩
              obtain ⟨Lp1, h5, c1, o1⟩ := (H4.out.grow (by repeat' (first | (with_reducible exact Below.refl _ _) | (with_reducible assumption) | (with_reducible refine below_drewN ?_ _) | (with_reducible refine below_more _ _ _ ?_ ?_) | (with_reducible refine Below.alloc ?_ ?_ _) | (with_reducible refine Below.drew ?_) | (with_reducible refine Below.setCell ?_ ?_ _) | go_size))).wentP hs
              have bx5 := Box.new h5.st.b.hp #[.int .i64 0, .int .i64 f, .int .i64 g] 30
              have hng : (Value.slice pg l.length cg).ownBlock ≠ some w3.heap.size := fun e => by have := h5.g.sl.lt e; omega
              have hnt : (Value.slice pt l.length ct).ownBlock ≠ some w3.heap.size := fun e => by have := h5.t.sl.lt e; omega
              have hcz5 := (h5.st.a.hb.cell (p := ⟨bz, oz + k, none⟩) hbz).trans HCZ.out
              have hbz5 := Nat.lt_of_lt_of_le hbz h5.st.a.hb.size
              have BX5 := Lib.hid bx5
              have HNG := Lib.hid hng
              have HNT := Lib.hid hnt
              have H5 := Lib.hid h5
              clear hs c1 o1 h5 bx5 hng hnt hcz'
              go_wp2_with fail
              refine (reserve_p _ Lq _ _ H5.out.st.b.hP (H5.out.grow (by repeat' (first | (with_reducible exact Below.refl _ _) | (with_reducible assumption) | (with_reducible refine below_drewN ?_ _) | (with_reducible refine below_more _ _ _ ?_ ?_) | (with_reducible refine Below.alloc ?_ ?_ _) | (with_reducible refine Below.drew ?_) | (with_reducible refine Below.setCell ?_ ?_ _) | go_size))).st.b.hp 0 f).mono ?_
              rw [ER.out]
              rintro e w4 ⟨rfl, hs⟩
              obtain ⟨Lq1, h6, c2, o2⟩ := (H5.out.grow (by repeat' (first | (with_reducible exact Below.refl _ _) | (with_reducible assumption) | (with_reducible refine below_drewN ?_ _) | (with_reducible refine below_more _ _ _ ?_ ?_) | (with_reducible refine Below.alloc ?_ ?_ _) | (with_reducible refine Below.drew ?_) | (with_reducible refine Below.setCell ?_ ?_ _) | go_size))).wentQ hs
              have bx6 := (BX5.out.grow (by repeat' (first | (with_reducible exact Below.refl _ _) | (with_reducible assumption) | (with_reducible refine below_drewN ?_ _) | (with_reducible refine below_more _ _ _ ?_ ?_) | (with_reducible refine Below.alloc ?_ ?_ _) | (with_reducible refine Below.drew ?_) | (with_reducible refine Below.setCell ?_ ?_ _) | go_size))).went c2 o2
              have hcz6 := (h6.st.a.hb.cell (p := ⟨bz, oz + k, none⟩) hbz).trans HCZ.out
              have hbz6 := Nat.lt_of_lt_of_le hbz h6.st.a.hb.size
              obtain ⟨y0, y1, y2, y3⟩ := lts hbz6
              have ha6 := bx6.1
              have hc6 := bx6.2.2
              obtain ⟨x0, x1, x2, x3⟩ := lts ha6
              have BX6 := Lib.hid bx6
              have H6 := Lib.hid h6
              clear hs c2 o2 h6 bx6 hcz5 hbz5
              go_wp2_with fail
              refine (mod_any z 2 _ (by omega) (by omega)).mono ?_
              rintro e w' ⟨rfl, rfl⟩
              go_upto_region 18 with (at_builtin; refine wpList_append_sl _ (by rfl) _ _ 27 (by rfl) 30 i0 _ 3 24 Try.underlying27 hi0 hz0 hz1 hz2 rfl (by omega) _ l.length (idCells (l.map (·.1))) (by rfl) ((H6.out.grow (by repeat' (first | (with_reducible exact Below.refl _ _) | (with_reducible assumption) | (with_reducible refine below_drewN ?_ _) | (with_reducible refine below_more _ _ _ ?_ ?_) | (with_reducible refine Below.alloc ?_ ?_ _) | (with_reducible refine Below.drew ?_) | (with_reducible refine Below.setCell ?_ ?_ _) | go_size))).gsl (by simp)) ⟨_, 0, none⟩ 1 1 [.int .i64 0, .int .i64 f, .int .i64 g] (by rfl) (by rfl) (by intro j u hj; rcases j with _ | _ | _ | j <;> simp at hj <;> subst hj <;> simp [Addr.add, go_sem]) (by simp [Value.oneCell']) (by omega) (by unfold maxLen; omega) (by omega) ?_; intro v' w6 hs4 ht4 ho4)
              have h7 := (H6.out.grow (by repeat' (first | (with_reducible exact Below.refl _ _) | (with_reducible assumption) | (with_reducible refine below_drewN ?_ _) | (with_reducible refine below_more _ _ _ ?_ ?_) | (with_reducible refine Below.alloc ?_ ?_ _) | (with_reducible refine Below.drew ?_) | (with_reducible refine Below.setCell ?_ ?_ _) | go_size))).snocG (by simp) hs4 ht4 ho4
              have bx7 := BX6.out.turned (by repeat' (first | (with_reducible exact Below.refl _ _) | (with_reducible assumption) | (with_reducible refine below_drewN ?_ _) | (with_reducible refine below_more _ _ _ ?_ ?_) | (with_reducible refine Below.alloc ?_ ?_ _) | (with_reducible refine Below.drew ?_) | (with_reducible refine Below.setCell ?_ ?_ _) | go_size)) ht4 HNG.out
              have H7 := Lib.hid h7
              have BX7 := Lib.hid bx7
              clear h7 bx7 hs4 ht4 ho4
              go_upto_region 19 with (at_builtin; refine wpList_append_sl _ (by rfl) _ _ 59 (by rfl) 4 j0 _ 1 1 Try.underlying59 hj0 hy0 hy1 hy2 rfl (by omega) _ l.length ((l.map (·.2)).map Value.bool) (by rfl) ((H7.out.grow (by repeat' (first | (with_reducible exact Below.refl _ _) | (with_reducible assumption) | (with_reducible refine below_drewN ?_ _) | (with_reducible refine below_more _ _ _ ?_ ?_) | (with_reducible refine Below.alloc ?_ ?_ _) | (with_reducible refine Below.drew ?_) | (with_reducible refine Below.setCell ?_ ?_ _) | go_size))).tsl (by simp)) ⟨_, 0, none⟩ 1 1 [.bool true] (by rfl) (by rfl) (by intro j u hj; rcases j with _ | j <;> simp at hj; subst hj; simp [Addr.add, go_sem]) (by simp [Value.oneCell']) (by omega) (by unfold maxLen; omega) (by omega) ?_; intro vt w7 hs5 ht5 ho5)
              have h8 := (H7.out.grow (by repeat' (first | (with_reducible exact Below.refl _ _) | (with_reducible assumption) | (with_reducible refine below_drewN ?_ _) | (with_reducible refine below_more _ _ _ ?_ ?_) | (with_reducible refine Below.alloc ?_ ?_ _) | (with_reducible refine Below.drew ?_) | (with_reducible refine Below.setCell ?_ ?_ _) | go_size))).snocT (by simp) hs5 ht5 ho5
              have bx8 := BX7.out.turned (by repeat' (first | (with_reducible exact Below.refl _ _) | (with_reducible assumption) | (with_reducible refine below_drewN ?_ _) | (with_reducible refine below_more _ _ _ ?_ ?_) | (with_reducible refine Below.alloc ?_ ?_ _) | (with_reducible refine Below.drew ?_) | (with_reducible refine Below.setCell ?_ ?_ _) | go_size)) ht5 HNT.out
              have H8 := Lib.hid h8
              have ha8 := bx8.1
              have hc8 := bx8.2.2
              obtain ⟨v0, v1, v2, v3⟩ := lts ha8
              clear h8 hs5 ht5 ho5 bx8
              go_wp2_with fail
              refine (take_p _ Lq1 _ _ H8.out.st.b.hP (H8.out.grow (by repeat' (first | (with_reducible exact Below.refl _ _) | (with_reducible assumption) | (with_reducible refine below_drewN ?_ _) | (with_reducible refine below_more _ _ _ ?_ ?_) | (with_reducible refine Below.alloc ?_ ?_ _) | (with_reducible refine Below.drew ?_) | (with_reducible refine Below.setCell ?_ ?_ _) | go_size))).st.b.hp 0 f g).mono ?_
              rw [E2.out]
              rintro e w9 ⟨rfl, hs⟩
              obtain ⟨Lq2, h9, c3, o3⟩ := (H8.out.grow (by repeat' (first | (with_reducible exact Below.refl _ _) | (with_reducible assumption) | (with_reducible refine below_drewN ?_ _) | (with_reducible refine below_more _ _ _ ?_ ?_) | (with_reducible refine Below.alloc ?_ ?_ _) | (with_reducible refine Below.drew ?_) | (with_reducible refine Below.setCell ?_ ?_ _) | go_size))).wentQ hs
              have H9 := Lib.hid h9
              clear hs c3 o3 h9
              go_wp2_with fail
              go_roundw
              case rel => exact ⟨k + 1, by go_num, Lp1, Lq2, mp', mq'', l ++ [((0, f, g), true)], HR2.out, by simpa using H9.out.grow (by repeat' (first | (with_reducible exact Below.refl _ _) | (with_reducible assumption) | (with_reducible refine below_drewN ?_ _) | (with_reducible refine below_more _ _ _ ?_ ?_) | (with_reducible refine Below.alloc ?_ ?_ _) | (with_reducible refine Below.drew ?_) | (with_reducible refine Below.setCell ?_ ?_ _) | go_size)), by simp; omega, by omega, by omega⟩
              case measure => simp [intOf]; omega
            · have hp2 : (z % 2 == 0) = false := by rw [hp]; rfl
              clear hp
              go_wp2_with fail
              refine (mod_any z 3 _ (by omega) (by omega)).mono ?_
              rintro e w' ⟨rfl, rfl⟩
              go_wp2_with fail
              refine (next_p _ Lp _ _ H4.out.st.a.hP (H4.out.grow (by repeat' (first | (with_reducible exact Below.refl _ _) | (with_reducible assumption) | (with_reducible refine below_drewN ?_ _) | (with_reducible refine below_more _ _ _ ?_ ?_) | (with_reducible refine Below.alloc ?_ ?_ _) | (with_reducible refine Below.drew ?_) | (with_reducible refine Below.setCell ?_ ?_ _) | go_size))).st.a.hp 0).mono ?_
              rw [E1.out]
              rintro e w3 ⟨rfl, hs⟩
              obtain ⟨Lp1, h5, c1, o1⟩ := (H4.out.grow (by repeat' (first | (with_reducible exact Below.refl _ _) | (with_reducible assumption) | (with_reducible refine below_drewN ?_ _) | (with_reducible refine below_more _ _ _ ?_ ?_) | (with_reducible refine Below.alloc ?_ ?_ _) | (with_reducible refine Below.drew ?_) | (with_reducible refine Below.setCell ?_ ?_ _) | go_size))).wentP hs
              have bx5 := Box.new h5.st.b.hp #[.int .i64 0, .int .i64 f, .int .i64 g] 30
              have hng : (Value.slice pg l.length cg).ownBlock ≠ some w3.heap.size := fun e => by have := h5.g.sl.lt e; omega
              have hnt : (Value.slice pt l.length ct).ownBlock ≠ some w3.heap.size := fun e => by have := h5.t.sl.lt e; omega
              have hcz5 := (h5.st.a.hb.cell (p := ⟨bz, oz + k, none⟩) hbz).trans HCZ.out
              have hbz5 := Nat.lt_of_lt_of_le hbz h5.st.a.hb.size
              have BX5 := Lib.hid bx5
              have HNG := Lib.hid hng
              have HNT := Lib.hid hnt
              have H5 := Lib.hid h5
              clear hs c1 o1 h5 bx5 hng hnt hcz'
              go_wp2_with fail
              refine (reserve_p _ Lq _ _ H5.out.st.b.hP (H5.out.grow (by repeat' (first | (with_reducible exact Below.refl _ _) | (with_reducible assumption) | (with_reducible refine below_drewN ?_ _) | (with_reducible refine below_more _ _ _ ?_ ?_) | (with_reducible refine Below.alloc ?_ ?_ _) | (with_reducible refine Below.drew ?_) | (with_reducible refine Below.setCell ?_ ?_ _) | go_size))).st.b.hp 0 f).mono ?_
              rw [ER.out]
              rintro e w4 ⟨rfl, hs⟩
              obtain ⟨Lq1, h6, c2, o2⟩ := (H5.out.grow (by repeat' (first | (with_reducible exact Below.refl _ _) | (with_reducible assumption) | (with_reducible refine below_drewN ?_ _) | (with_reducible refine below_more _ _ _ ?_ ?_) | (with_reducible refine Below.alloc ?_ ?_ _) | (with_reducible refine Below.drew ?_) | (with_reducible refine Below.setCell ?_ ?_ _) | go_size))).wentQ hs
              have bx6 := (BX5.out.grow (by repeat' (first | (with_reducible exact Below.refl _ _) | (with_reducible assumption) | (with_reducible refine below_drewN ?_ _) | (with_reducible refine below_more _ _ _ ?_ ?_) | (with_reducible refine Below.alloc ?_ ?_ _) | (with_reducible refine Below.drew ?_) | (with_reducible refine Below.setCell ?_ ?_ _) | go_size))).went c2 o2
              have hcz6 := (h6.st.a.hb.cell (p := ⟨bz, oz + k, none⟩) hbz).trans HCZ.out
              have hbz6 := Nat.lt_of_lt_of_le hbz h6.st.a.hb.size
              obtain ⟨y0, y1, y2, y3⟩ := lts hbz6
              have ha6 := bx6.1
              have hc6 := bx6.2.2
              obtain ⟨x0, x1, x2, x3⟩ := lts ha6
              have BX6 := Lib.hid bx6
              have H6 := Lib.hid h6
              clear hs c2 o2 h6 bx6 hcz5 hbz5
              go_wp2_with fail
              refine (mod_any z 2 _ (by omega) (by omega)).mono ?_
              rintro e w' ⟨rfl, rfl⟩
              go_upto_region 18 with (at_builtin; refine wpList_append_sl _ (by rfl) _ _ 27 (by rfl) 30 i0 _ 3 24 Try.underlying27 hi0 hz0 hz1 hz2 rfl (by omega) _ l.length (idCells (l.map (·.1))) (by rfl) ((H6.out.grow (by repeat' (first | (with_reducible exact Below.refl _ _) | (with_reducible assumption) | (with_reducible refine below_drewN ?_ _) | (with_reducible refine below_more _ _ _ ?_ ?_) | (with_reducible refine Below.alloc ?_ ?_ _) | (with_reducible refine Below.drew ?_) | (with_reducible refine Below.setCell ?_ ?_ _) | go_size))).gsl (by simp)) ⟨_, 0, none⟩ 1 1 [.int .i64 0, .int .i64 f, .int .i64 g] (by rfl) (by rfl) (by intro j u hj; rcases j with _ | _ | _ | j <;> simp at hj <;> subst hj <;> simp [Addr.add, go_sem]) (by simp [Value.oneCell']) (by omega) (by unfold maxLen; omega) (by omega) ?_; intro v' w6 hs4 ht4 ho4)
              have h7 := (H6.out.grow (by repeat' (first | (with_reducible exact Below.refl _ _) | (with_reducible assumption) | (with_reducible refine below_drewN ?_ _) | (with_reducible refine below_more _ _ _ ?_ ?_) | (with_reducible refine Below.alloc ?_ ?_ _) | (with_reducible refine Below.drew ?_) | (with_reducible refine Below.setCell ?_ ?_ _) | go_size))).snocG (by simp) hs4 ht4 ho4
              have bx7 := BX6.out.turned (by repeat' (first | (with_reducible exact Below.refl _ _) | (with_reducible assumption) | (with_reducible refine below_drewN ?_ _) | (with_reducible refine below_more _ _ _ ?_ ?_) | (with_reducible refine Below.alloc ?_ ?_ _) | (with_reducible refine Below.drew ?_) | (with_reducible refine Below.setCell ?_ ?_ _) | go_size)) ht4 HNG.out
              have H7 := Lib.hid h7
              have BX7 := Lib.hid bx7
              clear h7 bx7 hs4 ht4 ho4
              go_upto_region 19 with (at_builtin; refine wpList_append_sl _ (by rfl) _ _ 59 (by rfl) 4 j0 _ 1 1 Try.underlying59 hj0 hy0 hy1 hy2 rfl (by omega) _ l.length ((l.map (·.2)).map Value.bool) (by rfl) ((H7.out.grow (by repeat' (first | (with_reducible exact Below.refl _ _) | (with_reducible assumption) | (with_reducible refine below_drewN ?_ _) | (with_reducible refine below_more _ _ _ ?_ ?_) | (with_reducible refine Below.alloc ?_ ?_ _) | (with_reducible refine Below.drew ?_) | (with_reducible refine Below.setCell ?_ ?_ _) | go_size))).tsl (by simp)) ⟨_, 0, none⟩ 1 1 [.bool false] (by rfl) (by rfl) (by intro j u hj; rcases j with _ | j <;> simp at hj; subst hj; simp [Addr.add, go_sem]) (by simp [Value.oneCell']) (by omega) (by unfold maxLen; omega) (by omega) ?_; intro vt w7 hs5 ht5 ho5)
              have h8 := (H7.out.grow (by repeat' (first | (with_reducible exact Below.refl _ _) | (with_reducible assumption) | (with_reducible refine below_drewN ?_ _) | (with_reducible refine below_more _ _ _ ?_ ?_) | (with_reducible refine Below.alloc ?_ ?_ _) | (with_reducible refine Below.drew ?_) | (with_reducible refine Below.setCell ?_ ?_ _) | go_size))).snocT (by simp) hs5 ht5 ho5
              have bx8 := BX7.out.turned (by repeat' (first | (with_reducible exact Below.refl _ _) | (with_reducible assumption) | (with_reducible refine below_drewN ?_ _) | (with_reducible refine below_more _ _ _ ?_ ?_) | (with_reducible refine Below.alloc ?_ ?_ _) | (with_reducible refine Below.drew ?_) | (with_reducible refine Below.setCell ?_ ?_ _) | go_size)) ht5 HNT.out
              have H8 := Lib.hid h8
              have ha8 := bx8.1
              have hc8 := bx8.2.2
              obtain ⟨v0, v1, v2, v3⟩ := lts ha8
              clear h8 hs5 ht5 ho5 bx8
              go_wp2_with fail
              go_roundw
              case rel => exact ⟨k + 1, by go_num, Lp1, Lq1, mp', mq', l ++ [((0, f, g), false)], HR1.out, by simpa using H8.out.grow (by repeat' (first | (with_reducible exact Below.refl _ _) | (with_reducible assumption) | (with_reducible refine below_drewN ?_ _) | (with_reducible refine below_more _ _ _ ?_ ?_) | (with_reducible refine Below.alloc ?_ ?_ _) | (with_reducible refine Below.drew ?_) | (with_reducible refine Below.setCell ?_ ?_ _) | go_size)), by simp; omega, by omega, by omega⟩
              case measure => simp [intOf]; omega
    · have hlap := HRR.out.lapse
      have HLAP := Lib.hid hlap
      have hlf : lapseF [mq] = (((lapN mq : Nat) : Int), [lapSh mq]) := by simp [lapseF]
      have HLF := Lib.hid hlf
      have hlt' : zs.length ≤ k ∨ (k < zs.length ∧ 60 ≤ k) := by omega
      clear hlt hlap hlf
      rcases hlt' with h1' | ⟨h1', h2'⟩
      all_goals
        go_wp2_with fail
        refine (lapse_p _ Lq _ _ H4.out.st.b.hP (H4.out.grow (by repeat' (first | (with_reducible exact Below.refl _ _) | (with_reducible assumption) | (with_reducible refine below_drewN ?_ _) | (with_reducible refine below_more _ _ _ ?_ ?_) | (with_reducible refine Below.alloc ?_ ?_ _) | (with_reducible refine Below.drew ?_) | (with_reducible refine Below.setCell ?_ ?_ _) | go_size))).st.b.hp).mono ?_
        rw [HLF.out]
        rintro e w3 ⟨rfl, hs⟩
        obtain ⟨Lq1, h5, c1, o1⟩ := (H4.out.grow (by repeat' (first | (with_reducible exact Below.refl _ _) | (with_reducible assumption) | (with_reducible refine below_drewN ?_ _) | (with_reducible refine below_more _ _ _ ?_ ?_) | (with_reducible refine Below.alloc ?_ ?_ _) | (with_reducible refine Below.drew ?_) | (with_reducible refine Below.setCell ?_ ?_ _) | go_size))).wentQ hs
        have H55 := Lib.hid h5
        clear hs c1 o1 h5
        go_wp2_with fail
        go_loopw [17] (fun i wr => ∃ q : Nat, i = .int .i64 q ∧ q ≤ 2 * (r + 1) ∧ OnJ w wr (w.heap.size + 1) Q (.slice pg l.length cg) (.slice pt l.length ct) l) (fun i _ => 2 * (r + 1) + 1 - (intOf i).toNat)
        case atStart => exact ⟨0, rfl, by omega, Lp, Lq1, mp, _, HLAP.out, H55.out.grow (by repeat' (first | (with_reducible exact Below.refl _ _) | (with_reducible assumption) | (with_reducible refine below_drewN ?_ _) | (with_reducible refine below_more _ _ _ ?_ ?_) | (with_reducible refine Below.alloc ?_ ?_ _) | (with_reducible refine Below.drew ?_) | (with_reducible refine Below.setCell ?_ ?_ _) | go_size))⟩
        case round =>
          obtain ⟨q, rfl, hq, Lp2, Lq2, mp2, mq2, hQ, h5⟩ := hrel
          clear H55 H4 HLAP HRR HLF HGC HTC
          obtain ⟨wa, rfl⟩ : ∃ wa : World, wa = wr := ⟨_, rfl⟩
          have hqI : 0 ≤ (q : Int) := Int.natCast_nonneg q
          have HQ := Lib.hid hQ
          have H5 := Lib.hid h5
          clear hQ h5
          by_cases hqlt : q < 2 * (r + 1)
          · have hql : (q : Int) < 2 * (1 + (r : Int)) := by omega
            rcases HQ.out.next with e1 | ⟨f, g, a, mq', mq'', e1, hne, hQ1, e2, hQ2⟩
            · have E1 := Lib.hid e1
              clear e1
              go_wp2_with fail
              refine (next_p _ Lq2 _ _ H5.out.st.b.hP (H5.out.grow (by repeat' (first | (with_reducible exact Below.refl _ _) | (with_reducible assumption) | (with_reducible refine below_drewN ?_ _) | (with_reducible refine below_more _ _ _ ?_ ?_) | (with_reducible refine Below.alloc ?_ ?_ _) | (with_reducible refine Below.drew ?_) | (with_reducible refine Below.setCell ?_ ?_ _) | go_size))).st.b.hp 0).mono ?_
              rw [E1.out]
              rintro e w5 ⟨rfl, hs⟩
              obtain ⟨Lq3, h6, c2, o2⟩ := (H5.out.grow (by repeat' (first | (with_reducible exact Below.refl _ _) | (with_reducible assumption) | (with_reducible refine below_drewN ?_ _) | (with_reducible refine below_more _ _ _ ?_ ?_) | (with_reducible refine Below.alloc ?_ ?_ _) | (with_reducible refine Below.drew ?_) | (with_reducible refine Below.setCell ?_ ?_ _) | go_size))).wentQ hs
              have bx6 := Box.new h6.st.b.hp #[.int .i64 0, .int .i64 0, .int .i64 0] 30
              have h66 := h6.grow (W' := w5.alloc (.cells #[.int .i64 0, .int .i64 0, .int .i64 0] 30)) ((Below.refl _ _).alloc (Nat.le_refl _) _)
              have BX6 := Lib.hid bx6
              have H6 := Lib.hid h66
              clear hs c2 o2 h6 bx6 h66
              go_wp2_with fail
              go_loopw [21] (fun i wr => ∃ t : Nat, i = .int .i64 t ∧ t ≤ l.length ∧ Hid (Below (w5.alloc (.cells #[.int .i64 0, .int .i64 0, .int .i64 0] 30)).heap.size (w5.alloc (.cells #[.int .i64 0, .int .i64 0, .int .i64 0] 30)) wr)) (fun i _ => l.length - (intOf i).toNat)
              case atStart => exact ⟨0, rfl, Nat.zero_le _, Lib.hid (by repeat' (first | (with_reducible exact Below.refl _ _) | (with_reducible assumption) | (with_reducible refine below_drewN ?_ _) | (with_reducible refine below_more _ _ _ ?_ ?_) | (with_reducible refine Below.alloc ?_ ?_ _) | (with_reducible refine Below.drew ?_) | (with_reducible refine Below.setCell ?_ ?_ _) | go_size))⟩
              case round =>
                obtain ⟨t, rfl, htl, hbt⟩ := hrel
                obtain ⟨wi, rfl⟩ : ∃ wi : World, wi = wr := ⟨_, rfl⟩
                have htI : 0 ≤ (t : Int) := Int.natCast_nonneg t
                obtain ⟨hbc, _⟩ := bcell hbt.out
                have hbx := (BX6.out.grow hbt.out).1
                have hbx2 := (BX6.out.grow hbt.out).2.2
                by_cases htlt : t < l.length
                · go_wp2_with fail
                  refine wp_region_more (by kernel_rfl) (by kernel_rfl) ?_
                  repeat (go_big_quiet_step (fail))
                  refine wpQuiet_nil ?_
                  rintro _ ⟨pn, rfl⟩
                  go_wp2_with fail
                  go_roundw
                  case rel => exact ⟨t + 1, by go_num, htlt, Lib.hid (Below.trans hbt.out (Below.mono (B := wi.heap.size) (by repeat' (first | (with_reducible exact Below.refl _ _) | (with_reducible assumption) | (with_reducible refine below_drewN ?_ _) | (with_reducible refine below_more _ _ _ ?_ ?_) | (with_reducible refine Below.alloc ?_ ?_ _) | (with_reducible refine Below.drew ?_) | (with_reducible refine Below.setCell ?_ ?_ _) | go_size)) hbt.out.size))⟩
                  case measure => simp [intOf]; omega
                · obtain rfl : t = l.length := by omega
                  have HBT := Lib.hid hbt.out
                  clear hbt hbc hbx hbx2 htl htlt
                  go_wp2_with fail
                  go_roundw
                  case rel => exact ⟨q + 1, by go_num, by omega, Lp2, Lq3, mp2, mq2, HQ.out, (H6.out.grow HBT.out).grow (by repeat' (first | (with_reducible exact Below.refl _ _) | (with_reducible assumption) | (with_reducible refine below_drewN ?_ _) | (with_reducible refine below_more _ _ _ ?_ ?_) | (with_reducible refine Below.alloc ?_ ?_ _) | (with_reducible refine Below.drew ?_) | (with_reducible refine Below.setCell ?_ ?_ _) | go_size))⟩
                  case measure => simp [intOf]; omega
            · have E1 := Lib.hid e1
              have E2 := Lib.hid e2
              have HNE := Lib.hid hne
              have HQ1 := Lib.hid hQ1
              have HQ2 := Lib.hid hQ2
              clear e1 e2 hne hQ1 hQ2
              go_wp2_with fail
              refine (next_p _ Lq2 _ _ H5.out.st.b.hP (H5.out.grow (by repeat' (first | (with_reducible exact Below.refl _ _) | (with_reducible assumption) | (with_reducible refine below_drewN ?_ _) | (with_reducible refine below_more _ _ _ ?_ ?_) | (with_reducible refine Below.alloc ?_ ?_ _) | (with_reducible refine Below.drew ?_) | (with_reducible refine Below.setCell ?_ ?_ _) | go_size))).st.b.hp 0).mono ?_
              rw [E1.out]
              rintro e w5 ⟨rfl, hs⟩
              obtain ⟨Lq3, h6, c2, o2⟩ := (H5.out.grow (by repeat' (first | (with_reducible exact Below.refl _ _) | (with_reducible assumption) | (with_reducible refine below_drewN ?_ _) | (with_reducible refine below_more _ _ _ ?_ ?_) | (with_reducible refine Below.alloc ?_ ?_ _) | (with_reducible refine Below.drew ?_) | (with_reducible refine Below.setCell ?_ ?_ _) | go_size))).wentQ hs
              have bx6 := Box.new h6.st.b.hp #[.int .i64 0, .int .i64 f, .int .i64 g] 30
              have h66 := h6.grow (W' := w5.alloc (.cells #[.int .i64 0, .int .i64 f, .int .i64 g] 30)) ((Below.refl _ _).alloc (Nat.le_refl _) _)
              have BX6 := Lib.hid bx6
              have H6 := Lib.hid h66
              clear hs c2 o2 h6 bx6 h66
              go_wp2_with fail
              go_loopw [21] (fun i wr => ∃ t : Nat, i = .int .i64 t ∧ t ≤ l.length ∧ Hid (Below (w5.alloc (.cells #[.int .i64 0, .int .i64 f, .int .i64 g] 30)).heap.size (w5.alloc (.cells #[.int .i64 0, .int .i64 f, .int .i64 g] 30)) wr)) (fun i _ => l.length - (intOf i).toNat)
              case atStart => exact ⟨0, rfl, Nat.zero_le _, Lib.hid (by repeat' (first | (with_reducible exact Below.refl _ _) | (with_reducible assumption) | (with_reducible refine below_drewN ?_ _) | (with_reducible refine below_more _ _ _ ?_ ?_) | (with_reducible refine Below.alloc ?_ ?_ _) | (with_reducible refine Below.drew ?_) | (with_reducible refine Below.setCell ?_ ?_ _) | go_size))⟩
              case round =>
                obtain ⟨t, rfl, htl, hbt⟩ := hrel
                obtain ⟨wi, rfl⟩ : ∃ wi : World, wi = wr := ⟨_, rfl⟩
                have htI : 0 ≤ (t : Int) := Int.natCast_nonneg t
                obtain ⟨hbc, _⟩ := bcell hbt.out
                have hbx := (BX6.out.grow hbt.out).1
                have hbx2 := (BX6.out.grow hbt.out).2.2
                by_cases htlt : t < l.length
                · obtain ⟨x, hx⟩ : ∃ x, l[t]? = some x := ⟨_, List.getElem?_eq_getElem htlt⟩
                  have hx1 : (l.map (·.1))[t]? = some x.1 := by simp [hx]
                  obtain ⟨bb, oo, hpp, hcap2, q0, q1, q2⟩ := (H6.out.g.grow hbt.out).at hx1
                  subst hpp
                  rw [List.length_map] at hcap2
                  have hnq := HNE.out x (List.mem_of_getElem? hx)
                  obtain ⟨⟨xs, xi, xg⟩, xb⟩ := x
                  simp only at q0 q1 q2 hnq
                  have hbb : bb < wi.heap.size := World.block_lt_of_cell? wi _ q0
                  have heq : idEq xs xi xg 0 f g = false := by unfold idEq; rw [Bool.and_assoc, hnq, Bool.and_false]
                  clear hnq hx hx1
                  have htL : (t : Int) < (l.length : Int) := by omega
                  go_wp2_with fail
                  refine wp_region_more (by kernel_rfl) (by kernel_rfl) ?_
                  repeat (go_big_quiet_step (fail))
                  refine wpQuiet_nil ?_
                  rintro _ ⟨pn, rfl⟩
                  go_wp2_with fail
                  go_roundw
                  case rel => exact ⟨t + 1, by go_num, htlt, Lib.hid (Below.trans hbt.out (Below.mono (B := wi.heap.size) (by repeat' (first | (with_reducible exact Below.refl _ _) | (with_reducible assumption) | (with_reducible refine below_drewN ?_ _) | (with_reducible refine below_more _ _ _ ?_ ?_) | (with_reducible refine Below.alloc ?_ ?_ _) | (with_reducible refine Below.drew ?_) | (with_reducible refine Below.setCell ?_ ?_ _) | go_size)) hbt.out.size))⟩
                  case measure => simp [intOf]; omega
                · obtain rfl : t = l.length := by omega
                  have HBT := Lib.hid hbt.out
                  clear hbc htl htlt hbt
                  obtain ⟨y0, y1, y2, y3⟩ := lts hbx
                  by_cases hq2 : (q : Int) % 2 = 1
                  · have hq3 : ((q : Int) % 2 == 1) = true := by simpa using hq2
                    clear hq2
                    go_wp2_with fail
                    refine (free_p _ Lq3 _ _ H6.out.st.b.hP ((H6.out.grow HBT.out).grow (by repeat' (first | (with_reducible exact Below.refl _ _) | (with_reducible assumption) | (with_reducible refine below_drewN ?_ _) | (with_reducible refine below_more _ _ _ ?_ ?_) | (with_reducible refine Below.alloc ?_ ?_ _) | (with_reducible refine Below.drew ?_) | (with_reducible refine Below.setCell ?_ ?_ _) | go_size))).st.b.hp 0 f g).mono ?_
                    rw [E2.out]
                    rintro e w7 ⟨rfl, hs⟩
                    obtain ⟨Lq4, h7, c2, o2⟩ := ((H6.out.grow HBT.out).grow (by repeat' (first | (with_reducible exact Below.refl _ _) | (with_reducible assumption) | (with_reducible refine below_drewN ?_ _) | (with_reducible refine below_more _ _ _ ?_ ?_) | (with_reducible refine Below.alloc ?_ ?_ _) | (with_reducible refine Below.drew ?_) | (with_reducible refine Below.setCell ?_ ?_ _) | go_size))).wentQ hs
                    have H7 := Lib.hid h7
                    clear hs c2 o2 h7 hbx hbx2 y0 y1 y2 y3
                    go_wp2_with fail
                    go_roundw
                    case rel => exact ⟨q + 1, by go_num, by omega, Lp2, Lq4, mp2, mq'', HQ2.out, H7.out.grow (by repeat' (first | (with_reducible exact Below.refl _ _) | (with_reducible assumption) | (with_reducible refine below_drewN ?_ _) | (with_reducible refine below_more _ _ _ ?_ ?_) | (with_reducible refine Below.alloc ?_ ?_ _) | (with_reducible refine Below.drew ?_) | (with_reducible refine Below.setCell ?_ ?_ _) | go_size))⟩
                    case measure => simp [intOf]; omega
                  · have hq3 : ((q : Int) % 2 == 1) = false := by simpa using hq2
                    clear hq2
                    go_wp2_with fail
                    go_roundw
                    case rel => exact ⟨q + 1, by go_num, by omega, Lp2, Lq3, mp2, mq', HQ1.out, (H6.out.grow HBT.out).grow (by repeat' (first | (with_reducible exact Below.refl _ _) | (with_reducible assumption) | (with_reducible refine below_drewN ?_ _) | (with_reducible refine below_more _ _ _ ?_ ?_) | (with_reducible refine Below.alloc ?_ ?_ _) | (with_reducible refine Below.drew ?_) | (with_reducible refine Below.setCell ?_ ?_ _) | go_size))⟩
                    case measure => simp [intOf]; omega
          · have hql : 2 * (1 + (r : Int)) ≤ (q : Int) := by omega
            have HB := Lib.hid H5.out.st.a.hb
            clear H5
            go_wp2_with (go_at_call 22; refine (awake8 _).mono ?_; rintro e w' ⟨rfl, hb⟩; obtain ⟨d, os, rfl⟩ := more_of hb; clear hb)
            go_ret
            exact ⟨rfl, HB.out.trans (Below.mono (B := wa.heap.size) (by repeat' (first | (with_reducible exact Below.refl _ _) | (with_reducible assumption) | (with_reducible refine below_drewN ?_ _) | (with_reducible refine below_more _ _ _ ?_ ?_) | (with_reducible refine Below.alloc ?_ ?_ _) | (with_reducible refine Below.drew ?_) | (with_reducible refine Below.setCell ?_ ?_ _) | go_size)) HB.out.size)⟩
set_option maxRecDepth 100000 in
theorem lifted (os : Os) (started : os.Started) (H : Type) (enc : TypeId × Value → H) :
    ReturnsInHanded {} Try.checked os 12 .any (Rows.idsOnceSpec.pre6 enc Try.prog Try.f12 Rows.idsOnceRow.domain false) (Rows.idsOnceSpec.post enc Try.prog Try.f12 false true false false) := by
  refine returnsInHanded_of_change (C := Try.checked) ownKnob0 started (by kernel_rfl) Try.func12
    (ChangeSpec.witness6 (enc := enc) (C := Try.checked) false ⟨#[], #[.int .i64 0, .slice none 0 0], []⟩ 8 (by kernel_rfl) (by kernel_rfl) (by kernel_rfl) (by kernel_rfl)) ?_
  intro W base args ds gs before hval0 hW _ _
  have hval : ∀ (j : Nat) t v, Try.f12.params[j]? = some t → args[j]? = some v → Value.okWide Try.prog W .any base t v := hval0
  have hread : ∀ t ∈ Try.f12.params.toList, Try.prog.readableRec t = true ∧ t < Try.prog.types.size := by
    rw [Try.params12]
    intro t ht
    simp only [List.mem_cons, List.not_mem_nil, or_false] at ht
    rcases ht with rfl | rfl
    all_goals exact ⟨by kernel_rfl, of_decide_eq_true (by kernel_rfl)⟩
  have hW' := hW
  obtain ⟨p, q, hA0, hV, -, -⟩ := hW'
  have hA : DataW.TrodAll enc Try.prog W 0 (fun _ => true) true Try.f12.params.toList args.toList ds p := hA0
  rw [Try.params12] at hA hval
  obtain ⟨v0, vs0, d0, ds0, p0, q0, hargs, rfl, rfl, h0, r0⟩ := trodAll_cons hA
  obtain ⟨v1, vs1, d1, ds1, p1, q1, rfl, rfl, rfl, h1, r1⟩ := trodAll_cons r0
  obtain ⟨rfl, rfl, rfl⟩ := trodAll_nil r1
  obtain rfl : args = #[v0, v1] := by cases args; simp_all
  obtain ⟨rfl, rfl⟩ := trodVars_none hV
  have k0 := hval 0 3 v0 rfl rfl
  have k1 := hval 1 22 v1 rfl rfl
  clear hval hval0 hA0 hV hA
  obtain ⟨zs, hz⟩ := ints_in k1 h1
  obtain ⟨r, rfl, rfl, rfl, _⟩ := open_int Try.underlying3 k0 h0
  exact (walk _ _ zs W hz).mono fun e W' ⟨he, hb⟩ => ⟨_, he, post_true rfl rfl hread rfl hW hb⟩

/-- IdsOnce: true for every input; the arguments stay. -/
theorem proved : Rows.IdsOnceSaid :=
  OpenClaim.holds_of_wide 12 Try.f12 rfl rfl rfl rfl rfl rfl rfl ⟨rfl, rfl, rfl, rfl, rfl⟩ rfl rfl rfl rfl rfl (by kernel_rfl) Try.func12 (by kernel_rfl)
    (of_decide_eq_true (by kernel_rfl)) (by unfold Func.isWrapper; first | (rw [if_pos (by decide +kernel)]; kernel_rfl) | (rw [if_neg (by decide +kernel)]; exact ⟨rfl, rfl⟩))
    (fun os started H enc _ => lifted os started H enc)
end Go.Proofs.Ytjkbenghgbigdaa.idsOnce
