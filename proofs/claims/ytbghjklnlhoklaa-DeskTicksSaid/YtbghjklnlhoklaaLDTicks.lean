/-
  DeskTicks: for any config and every list of deeds the law returns true, and the arguments stay as they were. No condition.
-/
import Derived.Test.YtbghjklnlhoklaaMk23
import Derived.Test.YtbghjklnlhoklaaRdC
import Derived.Test.YtbghjklnlhoklaaDkK
import Derived.Test.YtbghjklnlhoklaaCmL
import Derived.Test.YtbghjklnlhoklaaCmP
namespace Go.Proofs.Ytbghjklnlhoklaa.deskTicks
open Go.ChangeShapes Go.WideShapes Go.ChangeAt Go.RowKit

theorem admit_q (c : Cfg) (D : Dk) (m : Cm) : (admitF c D m).2.t = D.t ∧ ((admitF c D m).1 = 0 → (admitF c D m).2.q = D.q ++ [m]) ∧ ((admitF c D m).1 ≠ 0 → (admitF c D m).2.q = D.q) := by
  unfold admitF
  split
  · exact ⟨rfl, fun h => absurd h (by simp), fun _ => rfl⟩
  split
  · exact ⟨rfl, fun h => absurd h (by simp), fun _ => rfl⟩
  split
  · split
    · exact ⟨rfl, fun h => absurd h (by simp), fun _ => rfl⟩
    split
    · rename_i h; exact ⟨rfl, fun h2 => absurd h2 h, fun _ => rfl⟩
    · exact ⟨rfl, fun _ => rfl, fun h => absurd rfl h⟩
  split
  · exact ⟨rfl, fun h => absurd h (by simp), fun _ => rfl⟩
  · exact ⟨rfl, fun _ => rfl, fun h => absurd rfl h⟩
theorem res_q (D : Dk) (s i : Int) : (reservedF D s i).2.q = D.q ∧ (reservedF D s i).2.t = D.t := by
  unfold reservedF
  repeat' split
  all_goals exact ⟨rfl, rfl⟩
theorem cells_snoc (l : List Cm) (m : Cm) : cellsR cmC l ++ cmC m = cellsR cmC (l ++ [m]) := by
  rw [cellsR_app]; congr 1
theorem close_q (D : Dk) (l : List Nid) : (closeF D l).2.t = D.t ∧ (closeF D l).2.q = D.q := by
  unfold closeF; split <;> exact ⟨rfl, rfl⟩
attribute [local go_sem ↓] loadVar_ldM storeVar_stM
set_option maxRecDepth 100000 in
set_option maxHeartbeats 8000000 in
theorem walk (cols rows side radius speed ids queue : Int) (v1 : Value) (zs : List Ded) (w : World) (hz : RIn dedL w v1 zs) (hd : ∀ d ∈ zs, ∃ l, DOk w d l) :
    Calls Try.prog 3 #[.agg #[.int .i64 cols, .int .i64 rows, .int .i64 side, .int .i64 radius, .int .i64 speed, .int .i64 ids, .int .i64 queue], v1] w fun e w' => e = .returned (.bool true) ∧ Below w.heap.size w w' := by
  obtain ⟨hf50, hfo⟩ := few_ok hd
  have HFO := Lib.hid hfo
  have HMAY := Lib.hid (fun W => may_any cols rows side radius speed ids queue W)
  have ho := mayF_ok ⟨cols, rows, side, radius, speed, ids, queue⟩
  have HFW := Lib.hid (fun W (hW : Below w.heap.size w W) => few_any v1 zs W (hz.keep hW) (fun d hdm => by
    obtain ⟨l, _, h2, h3⟩ := hd d hdm
    obtain ⟨p, cap, e, _, _, h5, _⟩ := h2
    simp only [Value.slice.injEq, true_and] at e
    omega))
  generalize mayF ⟨cols, rows, side, radius, speed, ids, queue⟩ = cm at *
  obtain ⟨dcols, drows, dside, dradius, dspeed, dids, dqueue⟩ := cm
  simp only at HMAY
  have HO := Lib.hid ho
  have HN := Lib.hid (fun W => dnew_ok dcols drows dside dradius dspeed dids dqueue W ho)
  clear ho hd hfo hz
  generalize fewF zs = ds at *
  go_enter Try.func3, Try.ntmps3
  go_wp2_with (go_at_call 11; refine (HMAY.out _).mono ?_; rintro e w' ⟨rfl, hb⟩; obtain ⟨d, os, rfl⟩ := more_of hb; clear hb)
  generalize hw1 : more _ d os = W1
  have hb1 : Below w.heap.size w W1 := by rw [← hw1]; exact (by repeat' (first | (with_reducible exact Below.refl _ _) | (with_reducible assumption) | (with_reducible refine below_drewN ?_ _) | (with_reducible refine below_more _ _ _ ?_ ?_) | (with_reducible refine Below.alloc ?_ ?_ _) | (with_reducible refine Below.drew ?_) | (with_reducible refine Below.setCell ?_ ?_ _) | go_size))
  clear hw1
  refine (HN.out _).mono ?_
  rintro e W3 ⟨p, rfl, hm3⟩
  have H3 := Lib.hid (((Own.nil w).grow hb1).made hm3)
  clear hm3 hb1 HN HMAY
  go_wp2_with fail
  refine (HFW.out _ H3.out.below).mono ?_
  rintro e W5 ⟨v5, rfl, hn5⟩
  have H5 := Lib.hid (H3.out.made hn5.made)
  obtain ⟨p5, cap5, rfl⟩ := sl_frm hn5.1
  clear hn5 H3 HFW
  obtain ⟨cm, hcm⟩ : ∃ cm : Cfg, cm = ⟨dcols, drows, dside, dradius, dspeed, dids, dqueue⟩ := ⟨_, rfl⟩
  rw [← hcm] at H5 HO
  clear hcm
  have hnil : Made W5 W5 (slO 37 16 (.slice none 0 0) ([] : List Cm).length (cellsR cmC ([] : List Cm))) := made_sl ⟨rfl, .inl ⟨rfl, rfl⟩⟩ (Below.refl _ _) (fun g hg => by cases hg)
  have H6 : Hid (Own w W5 ((deskO p cm (newD cm)).and ((slO 37 16 (.slice none 0 0) ([] : List Cm).length (cellsR cmC ([] : List Cm))).and ((slO 37 16 (.slice none 0 0) ([] : List Cm).length (cellsR cmC ([] : List Cm))).and ((slO 40 18 (.slice p5 ds.length cap5) ds.length (cellsR dedL ds)).and .nil))))) := Lib.hid ((H5.out.made hnil).made hnil).fourth
  clear H5 hnil
  go_wp2_with fail
  go_loopw [7, 8, 9, 10] (fun si so la x wr => ∃ (j : Nat) (D : Dk) (li lo : List Cm), x = .int .i64 j ∧ j ≤ ds.length ∧ la = .int .i64 D.t ∧ li = lo ++ D.q ∧ li.length ≤ j ∧ Hid (Own w wr ((deskO p cm D).and ((slO 37 16 si li.length (cellsR cmC li)).and ((slO 37 16 so lo.length (cellsR cmC lo)).and ((slO 40 18 (.slice p5 ds.length cap5) ds.length (cellsR dedL ds)).and .nil)))))) (fun _ _ _ x _ => ds.length - (intOf x).toNat)
  case atStart => exact ⟨0, newD cm, [], [], rfl, Nat.zero_le _, rfl, rfl, Nat.le_refl _, H6⟩
  case round =>
    clear H6
    obtain ⟨j, D, li, lo, rfl, hj, rfl, hio, hil, hh⟩ := hrel
    obtain ⟨wo, rfl⟩ : ∃ wo : World, wo = wr := ⟨_, rfl⟩
    have hI : 0 ≤ (j : Int) := Int.natCast_nonneg j
    have htb := hh.out.dbounds.2
    by_cases hlt : j < ds.length
    · have t1 : (j : Int) < (ds.length : Int) := by omega
      obtain ⟨x, hx⟩ : ∃ x, ds[j]? = some x := ⟨_, List.getElem?_eq_getElem hlt⟩
      obtain ⟨hok, hok40⟩ := HFO.out x (List.mem_of_getElem? hx)
      have hok1 := hok.r
      have hok2 := hok.n
      obtain ⟨blk, off, cap', hve, hb, hcx⟩ := (RIn.of_sl hh.out.fourth.sl.1).cells dedL_len hx
      simp only [Value.slice.injEq, true_and] at hve
      obtain ⟨rfl, rfl⟩ := hve
      have hla : ∃ a must er, lookF cm D x.m = (a, must, er) := ⟨_, _, _, rfl⟩
      obtain ⟨⟨uk, us, ui, ug, ⟨ues, uei, ueg, um, ux, uy, uvx, uvy, uhp, upw, ulf⟩, umask⟩, must, er, hla⟩ := hla
      have hlm := look_must cm D x.m
      rw [hla] at hlm
      simp only at hlm
      generalize nmOf w x = l at *
      obtain ⟨kd, ⟨k, s, i, g, ⟨es, ei, eg, m, x, y, vx, vy, hp, pw, lf⟩, mask⟩, px, nx, cx⟩ := x
      simp only at hok1 hok2 hla
      subst hok2
      have c0 : wo.cell? ⟨blk, off + j * 18, none⟩ = some (.int .i64 kd) := hcx 0 _ rfl
      have c17 : wo.cell? ⟨blk, off + j * 18 + 17, none⟩ = some (.slice px l.length cx) := hcx 17 _ rfl
      have hL1 : (ldM ⟨blk, off + j * 18 + 1, none⟩).run Try.prog wo = .ok (.agg #[.int .i64 k, .int .i64 s, .int .i64 i, .int .i64 g, .int .i64 es, .int .i64 ei, .int .i64 eg, .int .i64 m, .int .i64 x, .int .i64 y, .int .i64 vx, .int .i64 vy, .int .i64 hp, .int .i64 pw, .int .i64 lf, .int .i64 mask]) wo := ldM_of ⟨k, s, i, g, ⟨es, ei, eg, m, x, y, vx, vy, hp, pw, lf⟩, mask⟩ fun q u hq => by
        rw [Nat.add_assoc (off + j * 18)]
        exact hcx (1 + q) u (by have := deed_get (.int .i64 kd) ⟨k, s, i, g, ⟨es, ei, eg, m, x, y, vx, vy, hp, pw, lf⟩, mask⟩ (.slice px l.length cx) hq; rw [List.getElem?_toArray] at this; exact this)
      clear hcx hx hok
      by_cases h5 : kd < 5
      · have HLK : Hid (∀ W E, Own w W ((deskO p cm D).and E) → Calls Try.prog 13 #[.pointer (some ⟨p, 0, none⟩), .agg #[.int .i64 k, .int .i64 s, .int .i64 i, .int .i64 g, .int .i64 es, .int .i64 ei, .int .i64 eg, .int .i64 m, .int .i64 x, .int .i64 y, .int .i64 vx, .int .i64 vy, .int .i64 hp, .int .i64 pw, .int .i64 lf, .int .i64 mask]] W fun e w' => e = .returned (.tuple #[.agg #[.int .i64 uk, .int .i64 us, .int .i64 ui, .int .i64 ug, .int .i64 ues, .int .i64 uei, .int .i64 ueg, .int .i64 um, .int .i64 ux, .int .i64 uy, .int .i64 uvx, .int .i64 uvy, .int .i64 uhp, .int .i64 upw, .int .i64 ulf, .int .i64 umask], .bool must, .int .i64 er]) ∧ Below W.heap.size W w') := Lib.hid (fun W E hW => by have := look_o hW HO.out ⟨k, s, i, g, ⟨es, ei, eg, m, x, y, vx, vy, hp, pw, lf⟩, mask⟩; rw [hla] at this; exact this)
        have HAD : Hid (∀ D W E, Own w W ((deskO p cm D).and E) → Calls Try.prog 15 #[.pointer (some ⟨p, 0, none⟩), .agg #[.int .i64 uk, .int .i64 us, .int .i64 ui, .int .i64 ug, .int .i64 ues, .int .i64 uei, .int .i64 ueg, .int .i64 um, .int .i64 ux, .int .i64 uy, .int .i64 uvx, .int .i64 uvy, .int .i64 uhp, .int .i64 upw, .int .i64 ulf, .int .i64 umask]] W fun e w' => e = .returned (.int .i64 (admitF cm D ⟨uk, us, ui, ug, ⟨ues, uei, ueg, um, ux, uy, uvx, uvy, uhp, upw, ulf⟩, umask⟩).1) ∧ Own w w' ((deskO p cm (admitF cm D ⟨uk, us, ui, ug, ⟨ues, uei, ueg, um, ux, uy, uvx, uvy, uhp, upw, ulf⟩, umask⟩).2).and E)) := Lib.hid (fun D W E hW => admit_o hW HO.out ⟨uk, us, ui, ug, ⟨ues, uei, ueg, um, ux, uy, uvx, uvy, uhp, upw, ulf⟩, umask⟩)
        go_wp2_with fail
        refine (HLK.out _ _ hh.out).mono ?_
        rintro e V1 ⟨rfl, hb1⟩
        obtain ⟨w3, hs3, hm3⟩ := new_cmO V1 ⟨uk, us, ui, ug, ⟨ues, uei, ueg, um, ux, uy, uvx, uvy, uhp, upw, ulf⟩, umask⟩
        have H3 := Lib.hid (((hh.out.grow hb1).made hm3).swap)
        have hs3' : (stM ⟨V1.heap.size, 0, none⟩ (.agg #[.int .i64 uk, .int .i64 us, .int .i64 ui, .int .i64 ug, .int .i64 ues, .int .i64 uei, .int .i64 ueg, .int .i64 um, .int .i64 ux, .int .i64 uy, .int .i64 uvx, .int .i64 uvy, .int .i64 uhp, .int .i64 upw, .int .i64 ulf, .int .i64 umask])).run Try.prog (V1.alloc (.cells #[.int .i64 0, .int .i64 0, .int .i64 0, .int .i64 0, .int .i64 0, .int .i64 0, .int .i64 0, .int .i64 0, .int .i64 0, .int .i64 0, .int .i64 0, .int .i64 0, .int .i64 0, .int .i64 0, .int .i64 0, .int .i64 0] 37)) = .ok () w3 := hs3
        have hb7 := H3.out.swap.box.1
        have hL3 : (ldM ⟨V1.heap.size, 0, none⟩).run Try.prog w3 = .ok (.agg #[.int .i64 uk, .int .i64 us, .int .i64 ui, .int .i64 ug, .int .i64 ues, .int .i64 uei, .int .i64 ueg, .int .i64 um, .int .i64 ux, .int .i64 uy, .int .i64 uvx, .int .i64 uvy, .int .i64 uhp, .int .i64 upw, .int .i64 ulf, .int .i64 umask]) w3 := ldM_of ⟨uk, us, ui, ug, ⟨ues, uei, ueg, um, ux, uy, uvx, uvy, uhp, upw, ulf⟩, umask⟩ fun j v hj => by rw [Nat.zero_add, hb7, List.getElem?_toArray]; exact hj
        have hli : li.length ≤ 1000000 := by omega
        clear hm3 hs3 hb1 hL1 c17 hh HLK hla
        by_cases her : er = 0
        · subst her
          cases must with
          | false =>
            clear hb7
            go_wp2_with fail
            refine (HAD.out _ _ _ H3.out).mono ?_
            rintro e W5 ⟨rfl, h5'⟩
            obtain ⟨at1, aq1, aq2⟩ := admit_q cm D ⟨uk, us, ui, ug, ⟨ues, uei, ueg, um, ux, uy, uvx, uvy, uhp, upw, ulf⟩, umask⟩
            generalize admitF cm D ⟨uk, us, ui, ug, ⟨ues, uei, ueg, um, ux, uy, uvx, uvy, uhp, upw, ulf⟩, umask⟩ = ar at *
            obtain ⟨ae, D5⟩ := ar
            simp only at at1 aq1 aq2 h5'
            have hb5 := h5'.swap.box.1
            have hL5 : (ldM ⟨V1.heap.size, 0, none⟩).run Try.prog W5 = .ok (.agg #[.int .i64 uk, .int .i64 us, .int .i64 ui, .int .i64 ug, .int .i64 ues, .int .i64 uei, .int .i64 ueg, .int .i64 um, .int .i64 ux, .int .i64 uy, .int .i64 uvx, .int .i64 uvy, .int .i64 uhp, .int .i64 upw, .int .i64 ulf, .int .i64 umask]) W5 := ldM_of ⟨uk, us, ui, ug, ⟨ues, uei, ueg, um, ux, uy, uvx, uvy, uhp, upw, ulf⟩, umask⟩ fun j v hj => by rw [Nat.zero_add, hb5, List.getElem?_toArray]; exact hj
            have H5 := Lib.hid h5'
            clear h5' hb5 HAD
            by_cases hae : ae = 0
            · have aq := aq1 hae
              subst hae
              have HSI := Lib.hid H5.out.third
              obtain ⟨i0, hi0, hz0, hz1, hz2⟩ := info_partsG info_cm
              go_wp2_with (at_builtin; refine wpList_append_sl _ (by rfl) _ _ 31 (by rfl) 37 i0 _ 16 128 Try.underlying31 hi0 hz0 hz1 hz2 rfl (by omega) _ li.length (cellsR cmC li) (by rfl) (HSI.out.grow (by repeat' (first | (with_reducible exact Below.refl _ _) | (with_reducible assumption) | (with_reducible refine below_drewN ?_ _) | (with_reducible refine below_more _ _ _ ?_ ?_) | (with_reducible refine Below.alloc ?_ ?_ _) | (with_reducible refine Below.drew ?_) | (with_reducible refine Below.setCell ?_ ?_ _) | go_size))).sl.1 ⟨_, 0, none⟩ 1 1 (cmC ⟨uk, us, ui, ug, ⟨ues, uei, ueg, um, ux, uy, uvx, uvy, uhp, upw, ulf⟩, umask⟩) (by rfl) (by rfl) (new_cellsN _ _ _ _ (by simp)) (cmC_one _) (by omega) (by unfold maxLen; omega) (by omega) ?_; intro v' w1 hs1 ht ho)
              rw [cells_snoc, show li.length + 1 = (li ++ [(⟨uk, us, ui, ug, ⟨ues, uei, ueg, um, ux, uy, uvx, uvy, uhp, upw, ulf⟩, umask⟩ : Cm)]).length from by simp] at hs1
              have H8 := Lib.hid ((HSI.out.grow (by repeat' (first | (with_reducible exact Below.refl _ _) | (with_reducible assumption) | (with_reducible refine below_drewN ?_ _) | (with_reducible refine below_more _ _ _ ?_ ?_) | (with_reducible refine Below.alloc ?_ ?_ _) | (with_reducible refine Below.drew ?_) | (with_reducible refine Below.setCell ?_ ?_ _) | go_size))).app hs1 ht ho).swap.drop3
              clear hs1 ht ho HSI H5
              go_wp2_with fail
              go_roundw
              case rel => exact ⟨j + 1, D5, li ++ [(⟨uk, us, ui, ug, ⟨ues, uei, ueg, um, ux, uy, uvx, uvy, uhp, upw, ulf⟩, umask⟩ : Cm)], lo, by go_num, hlt, by rw [at1], by rw [aq, hio, List.append_assoc], by simp; omega, H8⟩
              case measure => simp [intOf]; omega
            · have hae' : (ae == 0) = false := by simpa using hae
              have aq := aq2 hae
              go_wp2_with fail
              go_roundw
              case rel => exact ⟨j + 1, D5, li, lo, by go_num, hlt, by rw [at1], by rw [aq]; exact hio, by omega, Lib.hid (H5.out.drop.grow (by repeat' (first | (with_reducible exact Below.refl _ _) | (with_reducible assumption) | (with_reducible refine below_drewN ?_ _) | (with_reducible refine below_more _ _ _ ?_ ?_) | (with_reducible refine Below.alloc ?_ ?_ _) | (with_reducible refine Below.drew ?_) | (with_reducible refine Below.setCell ?_ ?_ _) | go_size)))⟩
              case measure => simp [intOf]; omega
          | true =>
            have c4 := hb7 4
            have c5 := hb7 5
            simp [cmC, bunL] at c4 c5
            clear hb7 hL3
            go_wp2_with fail
            refine (reserve_o H3.out ues uei).mono ?_
            rintro e Wa ⟨rfl, ha⟩
            obtain ⟨rq, rt⟩ := res_q D ues uei
            generalize (reservedF D ues uei).2 = Da at *
            have Ha := Lib.hid ha
            have hba := ha.swap.box.1
            have hLa : (ldM ⟨V1.heap.size, 0, none⟩).run Try.prog Wa = .ok (.agg #[.int .i64 uk, .int .i64 us, .int .i64 ui, .int .i64 ug, .int .i64 ues, .int .i64 uei, .int .i64 ueg, .int .i64 um, .int .i64 ux, .int .i64 uy, .int .i64 uvx, .int .i64 uvy, .int .i64 uhp, .int .i64 upw, .int .i64 ulf, .int .i64 umask]) Wa := ldM_of ⟨uk, us, ui, ug, ⟨ues, uei, ueg, um, ux, uy, uvx, uvy, uhp, upw, ulf⟩, umask⟩ fun j v hj => by rw [Nat.zero_add, hba, List.getElem?_toArray]; exact hj
            clear ha hba H3 c4 c5 hs3'
            go_wp2_with fail
            refine (HAD.out _ _ _ Ha.out).mono ?_
            rintro e W5 ⟨rfl, h5'⟩
            obtain ⟨at1, aq1, aq2⟩ := admit_q cm Da ⟨uk, us, ui, ug, ⟨ues, uei, ueg, um, ux, uy, uvx, uvy, uhp, upw, ulf⟩, umask⟩
            generalize admitF cm Da ⟨uk, us, ui, ug, ⟨ues, uei, ueg, um, ux, uy, uvx, uvy, uhp, upw, ulf⟩, umask⟩ = ar at *
            obtain ⟨ae, D5⟩ := ar
            simp only at at1 aq1 aq2 h5'
            have hb5 := h5'.swap.box.1
            have hL5 : (ldM ⟨V1.heap.size, 0, none⟩).run Try.prog W5 = .ok (.agg #[.int .i64 uk, .int .i64 us, .int .i64 ui, .int .i64 ug, .int .i64 ues, .int .i64 uei, .int .i64 ueg, .int .i64 um, .int .i64 ux, .int .i64 uy, .int .i64 uvx, .int .i64 uvy, .int .i64 uhp, .int .i64 upw, .int .i64 ulf, .int .i64 umask]) W5 := ldM_of ⟨uk, us, ui, ug, ⟨ues, uei, ueg, um, ux, uy, uvx, uvy, uhp, upw, ulf⟩, umask⟩ fun j v hj => by rw [Nat.zero_add, hb5, List.getElem?_toArray]; exact hj
            have H5 := Lib.hid h5'
            clear h5' hb5 HAD
            by_cases hae : ae = 0
            · have aq := aq1 hae
              subst hae
              have HSI := Lib.hid H5.out.third
              obtain ⟨i0, hi0, hz0, hz1, hz2⟩ := info_partsG info_cm
              go_wp2_with (at_builtin; refine wpList_append_sl _ (by rfl) _ _ 31 (by rfl) 37 i0 _ 16 128 Try.underlying31 hi0 hz0 hz1 hz2 rfl (by omega) _ li.length (cellsR cmC li) (by rfl) (HSI.out.grow (by repeat' (first | (with_reducible exact Below.refl _ _) | (with_reducible assumption) | (with_reducible refine below_drewN ?_ _) | (with_reducible refine below_more _ _ _ ?_ ?_) | (with_reducible refine Below.alloc ?_ ?_ _) | (with_reducible refine Below.drew ?_) | (with_reducible refine Below.setCell ?_ ?_ _) | go_size))).sl.1 ⟨_, 0, none⟩ 1 1 (cmC ⟨uk, us, ui, ug, ⟨ues, uei, ueg, um, ux, uy, uvx, uvy, uhp, upw, ulf⟩, umask⟩) (by rfl) (by rfl) (new_cellsN _ _ _ _ (by simp)) (cmC_one _) (by omega) (by unfold maxLen; omega) (by omega) ?_; intro v' w1 hs1 ht ho)
              rw [cells_snoc, show li.length + 1 = (li ++ [(⟨uk, us, ui, ug, ⟨ues, uei, ueg, um, ux, uy, uvx, uvy, uhp, upw, ulf⟩, umask⟩ : Cm)]).length from by simp] at hs1
              have H8 := Lib.hid ((HSI.out.grow (by repeat' (first | (with_reducible exact Below.refl _ _) | (with_reducible assumption) | (with_reducible refine below_drewN ?_ _) | (with_reducible refine below_more _ _ _ ?_ ?_) | (with_reducible refine Below.alloc ?_ ?_ _) | (with_reducible refine Below.drew ?_) | (with_reducible refine Below.setCell ?_ ?_ _) | go_size))).app hs1 ht ho).swap.drop3
              clear hs1 ht ho HSI H5
              go_wp2_with fail
              go_roundw
              case rel => exact ⟨j + 1, D5, li ++ [(⟨uk, us, ui, ug, ⟨ues, uei, ueg, um, ux, uy, uvx, uvy, uhp, upw, ulf⟩, umask⟩ : Cm)], lo, by go_num, hlt, by rw [at1, rt], by rw [aq, rq, hio, List.append_assoc], by simp; omega, H8⟩
              case measure => simp [intOf]; omega
            · have hae' : (ae == 0) = false := by simpa using hae
              have aq := aq2 hae
              go_wp2_with fail
              go_roundw
              case rel => exact ⟨j + 1, D5, li, lo, by go_num, hlt, by rw [at1, rt], by rw [aq, rq]; exact hio, by omega, Lib.hid (H5.out.drop.grow (by repeat' (first | (with_reducible exact Below.refl _ _) | (with_reducible assumption) | (with_reducible refine below_drewN ?_ _) | (with_reducible refine below_more _ _ _ ?_ ?_) | (with_reducible refine Below.alloc ?_ ?_ _) | (with_reducible refine Below.drew ?_) | (with_reducible refine Below.setCell ?_ ?_ _) | go_size)))⟩
              case measure => simp [intOf]; omega
        · have hmf := hlm her
          subst hmf
          have her' : (er == 0) = false := by simpa using her
          clear hb7 hL3
          go_wp2_with fail
          go_roundw
          case rel => exact ⟨j + 1, D, li, lo, by go_num, hlt, rfl, hio, by omega, Lib.hid (H3.out.drop.grow (by repeat' (first | (with_reducible exact Below.refl _ _) | (with_reducible assumption) | (with_reducible refine below_drewN ?_ _) | (with_reducible refine below_more _ _ _ ?_ ?_) | (with_reducible refine Below.alloc ?_ ?_ _) | (with_reducible refine Below.drew ?_) | (with_reducible refine Below.setCell ?_ ?_ _) | go_size)))⟩
          case measure => simp [intOf]; omega
      · by_cases h7 : kd < 7
        · have hbt : (beginF D).1.2.2 = 0 → (beginF D).1.1 = D.t + 1 ∧ (beginF D).1.2.1 = D.q ∧ (beginF D).2.q = [] ∧ (beginF D).2.t = D.t + 1 := by
            unfold beginF
            split
            · intro h; cases h
            · intro _; exact ⟨rfl, rfl, rfl, rfl⟩
          have hbn : (beginF D).1.2.2 ≠ 0 → (beginF D).2.q = D.q ∧ (beginF D).2.t = D.t := by
            unfold beginF
            split
            · intro _; exact ⟨rfl, rfl⟩
            · intro h; exact absurd rfl h
          have HOP := Lib.hid (open_o hh.out)
          generalize beginF D = bg at *
          obtain ⟨⟨bt, bq, be⟩, D1⟩ := bg
          simp only at hbt hbn HOP
          have hq := hh.out.dbounds.1
          have hq1 := HO.out.q1
          go_wp2_with fail
          refine HOP.out.mono ?_
          rintro e W7 ⟨va, rfl, h7'⟩
          have H7 := Lib.hid h7'.assoc
          clear h7' hh hL1 c0 c17 HOP hla hlm
          by_cases hbe : be = 0
          · obtain ⟨r1, r2, r3, r4⟩ := hbt hbe
            subst hbe r1 r2
            have HSO := Lib.hid H7.out.fourth
            have HVA := Lib.hid (RIn.of_sl H7.out.swap.sl.1)
            have hll : lo.length ≤ 1000000 := by have : li.length = lo.length + D.q.length := by rw [hio, List.length_append]
                                                 omega
            have HLL := Lib.hid hll
            have HQQ := Lib.hid (show D.q.length ≤ 1000000 by omega)
            go_wp2_with (at_builtin; refine wpList_append_cmO _ (by rfl) _ _ (by rfl) _ _ lo D.q (by rfl) HSO.out.sl.1 (by rfl) HVA.out HLL.out HQQ.out ?_; intro v' w1 hs1 ht ho)
            have H8 := Lib.hid ((HSO.out.app hs1 ht ho).swap.drop3.inner fun _ => and_swap')
            clear hs1 ht ho HSO HVA H7
            go_wp2_with fail
            go_roundw
            case rel => exact ⟨j + 1, _, li, lo ++ D.q, by go_num, hlt, by rw [r4], by rw [r3, List.append_nil]; exact hio, by omega, H8⟩
            case measure => simp [intOf]; omega
          · obtain ⟨r3, r4⟩ := hbn hbe
            have hbe' : (be == 0) = false := by simpa using hbe
            go_wp2_with fail
            go_roundw
            case rel => exact ⟨j + 1, _, li, lo, by go_num, hlt, by rw [r4], by rw [r3]; exact hio, by omega, Lib.hid H7.out.drop⟩
            case measure => simp [intOf]; omega
        · have hcq := close_q D l
          go_wp2_with fail
          refine (close_o hh.out _ l (hok1.keep hh.out.below) (rin_old hok1) (by omega)).mono ?_
          rintro e W7 ⟨rfl, h7'⟩
          have H7 := Lib.hid h7'
          clear h7' hh hL1 c0 c17
          go_wp2_with fail
          go_roundw
          case rel => exact ⟨j + 1, _, li, lo, by go_num, hlt, by rw [hcq.1], by rw [hcq.2]; exact hio, by omega, H7⟩
          case measure => simp [intOf]; omega
    · obtain rfl : j = ds.length := by omega
      have hq := hh.out.dbounds.1
      have hq1 := HO.out.q1
      have HLL := Lib.hid (show lo.length ≤ 1000000 by
        have : li.length = lo.length + D.q.length := by rw [hio, List.length_append]
        omega)
      have HQQ := Lib.hid (show D.q.length ≤ 1000000 by omega)
      go_wp2_with fail
      refine (waiting_o hh.out HO.out).mono ?_
      rintro e W7 ⟨va, rfl, hn7⟩
      have HSO := Lib.hid (hh.out.grow hn7.2.1).third
      have HVA := Lib.hid hn7.rin
      clear hn7 hh
      go_wp2_with (at_builtin; refine wpList_append_cmO _ (by rfl) _ _ (by rfl) _ _ lo D.q (by rfl) HSO.out.sl.1 (by rfl) HVA.out HLL.out HQQ.out ?_; intro v' w1 hs1 ht ho)
      have H8 := HSO.out.app hs1 ht ho
      rw [← hio] at H8
      have HS := Lib.hid (sameCm_self _ v' li w1 (RIn.of_sl H8.third.sl.1) (RIn.of_sl H8.sl.1))
      have HB8 := Lib.hid H8.below
      clear hs1 ht ho HSO HVA H8
      go_wp2_with (first | (go_at_call 19; refine HS.out.mono ?_; rintro e w' ⟨rfl, hb⟩; obtain ⟨d8, os8, rfl⟩ := more_of hb; clear hb) | (go_at_call 20; refine (awake16 _).mono ?_; rintro e w' ⟨rfl, hb⟩; obtain ⟨d, os, rfl⟩ := more_of hb; clear hb))
      go_ret
      exact ⟨rfl, HB8.out.trans (Below.mono (B := w1.heap.size) (by repeat' (first | (with_reducible exact Below.refl _ _) | (with_reducible assumption) | (with_reducible refine below_drewN ?_ _) | (with_reducible refine below_more _ _ _ ?_ ?_) | (with_reducible refine Below.alloc ?_ ?_ _) | (with_reducible refine Below.drew ?_) | (with_reducible refine Below.setCell ?_ ?_ _) | go_size)) HB8.out.size)⟩
set_option maxRecDepth 100000 in
theorem lifted (os : Os) (started : os.Started) (H : Type) (enc : TypeId × Value → H) :
    ReturnsInHanded {} Try.checked os 3 .any (Rows.deskTicksSpec.pre6 enc Try.prog Try.f3 Rows.deskTicksRow.domain false) (Rows.deskTicksSpec.post enc Try.prog Try.f3 false true false false) := by
  refine returnsInHanded_of_change (C := Try.checked) ownKnob0 started (by kernel_rfl) Try.func3
    (ChangeSpec.witness6 (enc := enc) (C := Try.checked) false ⟨#[], #[.agg #[.int .i64 0, .int .i64 0, .int .i64 0, .int .i64 0, .int .i64 0, .int .i64 0, .int .i64 0], .slice none 0 0], []⟩ 8 (by kernel_rfl) (by kernel_rfl) (by kernel_rfl) (by kernel_rfl)) ?_
  intro W base args ds gs before hval0 hW _ _
  have hval : ∀ (j : Nat) t v, Try.f3.params[j]? = some t → args[j]? = some v → Value.okWide Try.prog W .any base t v := hval0
  have hread : ∀ t ∈ Try.f3.params.toList, Try.prog.readableRec t = true ∧ t < Try.prog.types.size := by
    rw [Try.params3]
    intro t ht
    simp only [List.mem_cons, List.not_mem_nil, or_false] at ht
    rcases ht with rfl | rfl
    all_goals exact ⟨by kernel_rfl, of_decide_eq_true (by kernel_rfl)⟩
  have hW' := hW
  obtain ⟨p, q, hA0, hV, -, -⟩ := hW'
  have hA : DataW.TrodAll enc Try.prog W 0 (fun _ => true) true Try.f3.params.toList args.toList ds p := hA0
  rw [Try.params3] at hA hval
  obtain ⟨v0, vs0, d0, ds0, p0, q0, hargs, rfl, rfl, h0, r0⟩ := trodAll_cons hA
  obtain ⟨v1, vs1, d1, ds1, p1, q1, rfl, rfl, rfl, h1, r1⟩ := trodAll_cons r0
  obtain ⟨rfl, rfl, rfl⟩ := trodAll_nil r1
  obtain rfl : args = #[v0, v1] := by cases args; simp_all
  obtain ⟨rfl, rfl⟩ := trodVars_none hV
  have k0 := hval 0 23 v0 rfl rfl
  have k1 := hval 1 24 v1 rfl rfl
  clear hval hval0 hA0 hV hA
  obtain ⟨c0, fuel0, rfl, g0⟩ := agg_of Try.underlying23 k0 h0
  obtain ⟨acols, arows, aside, aradius, aspeed, aids, aqueue, rfl⟩ := read_cfg g0
  obtain ⟨zs, hz, hd⟩ := deeds_in k1 h1
  exact (walk _ _ _ _ _ _ _ _ zs W hz hd).mono fun e W' ⟨he, hb⟩ => ⟨_, he, post_true rfl rfl hread rfl hW hb⟩

/-- DeskTicks: true for every input; the arguments stay. -/
theorem proved : Rows.DeskTicksSaid :=
  OpenClaim.holds_of_wide 3 Try.f3 rfl rfl rfl rfl rfl rfl rfl ⟨rfl, rfl, rfl, rfl, rfl⟩ rfl rfl rfl rfl rfl (by kernel_rfl) Try.func3 (by kernel_rfl)
    (of_decide_eq_true (by kernel_rfl)) (by unfold Func.isWrapper; first | (rw [if_pos (by decide +kernel)]; kernel_rfl) | (rw [if_neg (by decide +kernel)]; exact ⟨rfl, rfl⟩))
    (fun os started H enc _ => lifted os started H enc)
end Go.Proofs.Ytbghjklnlhoklaa.deskTicks
