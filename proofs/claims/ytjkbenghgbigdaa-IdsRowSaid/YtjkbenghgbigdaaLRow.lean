/-
  IdsRow: for every number and every list of ints the law returns true, and the argument stays as it was. No condition.
-/
import Derived.Test.YtjkbenghgbigdaaRowC
namespace Go.Proofs.Ytjkbenghgbigdaa.idsRow
open Go.ChangeShapes Go.WideShapes Go.ChangeAt Go.RowKit

def rowL (k : Nat) : List Id3 := (List.range k).map fun i : Nat => (0, (i : Int), 0)
theorem rowL_succ (k : Nat) : rowL (k + 1) = rowL k ++ [(0, (k : Int), 0)] := by simp [rowL, List.range_succ]
theorem rowL_len (k : Nat) : (rowL k).length = k := by simp [rowL]
theorem ixList_dead : ∀ (l : List Ix) (i : Int), (∀ x ∈ l, x.alive = false) → ixList 0 i l = []
  | [], _, _ => rfl
  | x :: l, i, h => by simp [ixList, h x (by simp), ixList_dead l _ fun y hy => h y (List.mem_cons_of_mem _ hy)]
theorem rowR_fresh (n : Nat) (h : n ≤ 16) : RowR (fresh n n) (rowL n) [] 0 := by
  refine ⟨fresh_good n h, ?_, fun x hx => ?_, fun x hx => by (cases hx), ?_, ?_, fun x hx => ?_⟩
  · simp [fresh, rowL]
  · obtain ⟨i, hi, rfl⟩ := List.mem_map.1 hx
    exact ⟨rfl, Int.natCast_nonneg i, ⟨0, 0, false⟩, by simp [fresh, freshIx, List.mem_range.1 hi], rfl, rfl⟩
  · rw [List.append_nil, rowL, List.map_map, List.nodup_iff_pairwise_ne, List.pairwise_map]
    exact (List.nodup_range).imp fun hne e => hne (Int.ofNat.inj e)
  · rw [ixList_dead _ _ fun x hx => by rw [List.eq_of_mem_replicate hx]]
  · simp only [List.append_nil] at hx
    obtain ⟨i, hi, rfl⟩ := List.mem_map.1 hx
    simp

theorem _root_.Go.Proofs.Ytjkbenghgbigdaa.RowR.mono {m : Sh} {row hv : List Id3} {k k' : Int} (h : RowR m row hv k) (hk : k ≤ k') : RowR m row hv k' := ⟨h.g, h.fr, h.rw, h.lv, h.nd, h.ct, fun x hx => Int.le_trans (h.gn x hx) hk⟩

theorem sl_form {w : World} {e : TypeId} {size : Nat} {v : Value} {n : Nat} {xs : List Value} (h : Sl w e size v n xs) : ∃ p cap, v = .slice p n cap ∧ n ≤ maxLen := by
  obtain ⟨_, ⟨rfl, rfl⟩ | ⟨g, off, cap, cur, rfl, _, h1, h2, _⟩⟩ := h
  · exact ⟨none, 0, rfl, by omega⟩
  · exact ⟨_, cap, rfl, by omega⟩

/-- The second loop's rounds. -/
def RowI (w wr : World) (P : Nat) (zs : List Int) (rv hv : Value) (k : Nat) : Prop :=
  ∃ (Lp : Lay) (m : Sh) (row hav : List Id3), RowR m row hav k ∧ Row2 w wr Lp m P rv hv row hav ∧ row.length ≤ 16 + k ∧ hav.length ≤ k ∧ k ≤ 80 ∧ k ≤ zs.length

set_option maxRecDepth 100000 in
set_option maxHeartbeats 4000000 in
theorem walk (z0 : Int) (v : Value) (zs : List Int) (w : World) (hz : IntsIn w v zs) :
    Calls Try.prog 10 #[.int .i64 z0, v] w fun e w' => e = .returned (.bool true) ∧ Below w.heap.size w w' := by
  obtain ⟨pz, capz, rfl, hlen, hzr, hzc⟩ := hz
  unfold maxLen at hlen
  have HZR := Lib.hid hzr
  have HZC := Lib.hid hzc
  clear hzr hzc
  obtain ⟨r, hr⟩ : ∃ r : Nat, z0 % 16 = r := ⟨(z0 % 16).toNat, (Int.toNat_of_nonneg (Int.emod_nonneg _ (by omega))).symm⟩
  have hr16 : r < 16 := by have := Int.emod_lt_of_pos z0 (by omega : (0 : Int) < 16); omega
  have hnew := fun W => new_p 1 (r + 1) W (by omega) (by omega) (by omega) (by omega)
  rw [show ((r + 1 : Nat) : Int) = 1 + (r : Int) by omega] at hnew
  simp only [Int.cast_ofNat_Int] at hnew
  have HNEW := Lib.hid hnew
  have hrI : 0 ≤ (r : Int) := Int.natCast_nonneg r
  clear hnew
  have HR := Lib.hid hr
  clear hr
  go_enter Try.func10, Try.ntmps10
  go_wp2_with fail
  refine (mod_any z0 16 _ (by omega) (by omega)).mono ?_
  rw [HR.out]
  rintro e w' ⟨rfl, rfl⟩
  go_wp2_with fail
  refine (HNEW.out _).mono ?_
  rintro e w1 ⟨rfl, hb1, L1, hP1, hp1, ho1⟩
  have st0 : Row2 w w1 L1 (fresh (r + 1) (r + 1)) (w.heap.size + 1) (.slice none 0 0) (.slice none 0 0) [] [] :=
    ⟨⟨hP1, hp1, hb1, ho1⟩, Lst.nil _ _ _, Lst.nil _ _ _, fun g hg => by cases hg⟩
  have ST0 := Lib.hid st0
  clear hb1 hP1 hp1 ho1 st0
  obtain ⟨i0, hi0, hz0, hz1, hz2⟩ := info_parts info_id
  go_wp2_with fail
  go_loopw [7, 8] (fun o i wr => ∃ k : Nat, i = .int .i64 k ∧ Row2 w wr L1 (fresh (r + 1) (r + 1)) (w.heap.size + 1) o (.slice none 0 0) (rowL k) [] ∧ k ≤ r + 1) (fun _ i _ => 17 - (intOf i).toNat)
  case atStart => exact ⟨0, rfl, ST0.out, by omega⟩
  case round =>
    obtain ⟨k, rfl, st, hk⟩ := hrel
    obtain ⟨wo, rfl⟩ : ∃ wo : World, wo = wr := ⟨_, rfl⟩
    have hkI : 0 ≤ (k : Int) := Int.natCast_nonneg k
    have ST := Lib.hid st
    clear st
    by_cases hlt : k < r + 1
    · have hltI : (k : Int) < 1 + (r : Int) := by omega
      go_wp2_with (at_builtin; refine wpList_append_sl _ (by rfl) _ _ 27 (by rfl) 30 i0 _ 3 24 Try.underlying27 hi0 hz0 hz1 hz2 rfl (by omega) _ (rowL k).length (idCells (rowL k)) (by rfl) (ST.out.grow (by repeat' (first | (with_reducible exact Below.refl _ _) | (with_reducible assumption) | (with_reducible refine below_drewN ?_ _) | (with_reducible refine below_more _ _ _ ?_ ?_) | (with_reducible refine Below.alloc ?_ ?_ _) | (with_reducible refine Below.drew ?_) | (with_reducible refine Below.setCell ?_ ?_ _) | go_size))).r.sl ⟨_, 0, none⟩ 1 1 [.int .i64 0, .int .i64 k, .int .i64 0] (by rfl) (by rfl) (by intro j u hj; rcases j with _ | _ | _ | j <;> simp at hj <;> subst hj <;> simp [Addr.add, go_sem]) (by simp [Value.oneCell']) (by omega) (by unfold maxLen; rw [rowL_len]; omega) (by rw [rowL_len]; omega) ?_; intro v' w4 hs4 ht4 ho4)
      go_roundw
      case rel => exact ⟨k + 1, by go_num, by rw [rowL_succ]; exact (ST.out.grow (by repeat' (first | (with_reducible exact Below.refl _ _) | (with_reducible assumption) | (with_reducible refine below_drewN ?_ _) | (with_reducible refine below_more _ _ _ ?_ ?_) | (with_reducible refine Below.alloc ?_ ?_ _) | (with_reducible refine Below.drew ?_) | (with_reducible refine Below.setCell ?_ ?_ _) | go_size))).snoc hs4 ht4 ho4, by omega⟩
      case measure => simp [intOf]; omega
    · have hke : k = r + 1 := by omega
      have hkeI : 1 + (r : Int) ≤ k := by omega
      rw [hke] at ST
      clear hke hlt
      generalize k = k1 at *
      have hrr : RowR (fresh (r + 1) (r + 1)) (rowL (r + 1)) [] 0 := rowR_fresh (r + 1) (by omega)
      have hrl : (rowL (r + 1)).length ≤ 16 := by rw [rowL_len]; omega
      generalize rowL (r + 1) = row0 at *
      generalize fresh (r + 1) (r + 1) = m0 at *
      have HRR := Lib.hid hrr
      clear hrr
      go_wp2_with fail
      go_loopw [7, 9, 10] (fun o h i wr => ∃ k : Nat, i = .int .i64 k ∧ RowI w wr (w.heap.size + 1) zs o h k) (fun _ _ i _ => 81 - (intOf i).toNat)
      case atStart => exact ⟨0, rfl, L1, m0, row0, [], HRR.out, ST.out.grow (by repeat' (first | (with_reducible exact Below.refl _ _) | (with_reducible assumption) | (with_reducible refine below_drewN ?_ _) | (with_reducible refine below_more _ _ _ ?_ ?_) | (with_reducible refine Below.alloc ?_ ?_ _) | (with_reducible refine Below.drew ?_) | (with_reducible refine Below.setCell ?_ ?_ _) | go_size)), by omega, by simp, by omega, by omega⟩
      case round =>
        clear ST HRR wo
        obtain ⟨k, rfl, Lp, m, row, hav, hrr, st, hrk, hhk, hk80, hkz⟩ := hrel
        obtain ⟨wo, rfl⟩ : ∃ wo : World, wo = wr := ⟨_, rfl⟩
        have HRR := Lib.hid hrr
        have ST := Lib.hid st
        have hkI : 0 ≤ (k : Int) := Int.natCast_nonneg k
        obtain ⟨pr, cr, hrv, hrm, hrc⟩ := st.r.cells
        obtain ⟨ph, ch, hhv, hhm, hhc⟩ := st.h.cells
        have HRC := Lib.hid hrc
        have HHC := Lib.hid hhc
        unfold maxLen at hrm hhm
        clear hrr st hrc hhc
        subst hrv hhv
        by_cases hlt : k < zs.length ∧ k < 80
        · obtain ⟨h1, h2⟩ := hlt
          obtain ⟨bz, oz, rfl, hcap, hbz, hcz⟩ := HZC.out k h1
          have hcz' := (ST.out.st.hb.cell (p := ⟨bz, oz + k, none⟩) hbz).trans hcz
          have hzi := HZR.out (zs.getD k 0) (by simp [List.getD, h1])
          generalize zs.getD k 0 = z at *
          have HCZ := Lib.hid hcz
          clear hcz
          by_cases hA : z % 2 = 0 ∧ row ≠ []
          · obtain ⟨hpar, hne⟩ := hA
            have hp2 : (z % 2 == 0) = true := by simpa using hpar
            clear hpar
            cases row with
            | nil => exact absurd rfl hne
            | cons x rs =>
              clear hne
              obtain ⟨s0, ri, rg⟩ := x
              obtain ⟨hs0, _⟩ := HRR.out.rw (s0, ri, rg) (by simp)
              simp only at hs0
              subst hs0
              obtain ⟨at', m', e1, hrr'⟩ := HRR.out.next
              have E1 := Lib.hid e1
              have HRR' := Lib.hid hrr'
              clear e1 hrr'
              obtain ⟨b0, o0, hpr, hcr, _⟩ := HRC.out 0 (0, ri, rg) (by simp)
              subst hpr
              have hrl : (((0 : Int), ri, rg) :: rs).length = rs.length + 1 := rfl
              rw [hrl] at hcr hrk hrm
              go_wp2_with fail
              refine (mod_any z 2 _ (by omega) (by omega)).mono ?_
              rintro e w' ⟨rfl, rfl⟩
              go_wp2_with fail
              refine (next_p _ Lp _ _ ST.out.st.hP ST.out.st.hp 0).mono ?_
              rw [E1.out]
              rintro e w3 ⟨rfl, hs⟩
              obtain ⟨Lp1, st1, c1, o1⟩ := ST.out.went hs
              have ST1 := Lib.hid st1
              clear hs st1 c1 o1
              obtain ⟨p3, cp3, hv3, _, hc3⟩ := ST1.out.r.cells
              cases hv3
              obtain ⟨b0', o0', hpr', _, q0, q1, q2⟩ := hc3 0 (0, ri, rg) (by simp)
              cases hpr'
              clear hc3
              simp only [Nat.zero_mul, Nat.add_zero] at q0 q1 q2
              have lb0 := World.block_lt_of_cell? w3 _ q0
              simp only at lb0
              obtain ⟨y0, y1, y2, y3⟩ := lts lb0
              have heq : idEq 0 ri rg 0 ri rg = true := by simp [idEq]
              have hhv5 : hav.length ≤ 80 := by omega
              have fin : ∀ (W : World) (vr vh : Value) (Lq : Lay), Row2 w W Lq m' (w.heap.size + 1) vr vh rs (hav ++ [(0, ri, rg)]) → RowI w W (w.heap.size + 1) zs vr vh (k + 1) := fun W vr vh Lq h =>
                ⟨Lq, m', rs, hav ++ [(0, ri, rg)], HRR'.out.mono (by omega), h, by omega, by simp; omega, by omega, by omega⟩
              have FIN := Lib.hid fin
              clear fin
              by_cases hcap1 : cr = 1
              · subst hcap1
                have hrs0 : rs.length = 0 := by omega
                go_wp2_with fail
                refine wp_region_more (by kernel_rfl) (by kernel_rfl) ?_
                repeat (go_big_quiet_step (fail))
                refine wpQuiet_nil ?_
                rintro _ ⟨pn, rfl⟩
                go_wp2_with (at_builtin; refine wpList_append_sl _ (by rfl) _ _ 27 (by rfl) 30 i0 _ 3 24 Try.underlying27 hi0 hz0 hz1 hz2 rfl (by omega) _ hav.length (idCells hav) (by rfl) (ST1.out.grow (by repeat' (first | (with_reducible exact Below.refl _ _) | (with_reducible assumption) | (with_reducible refine below_drewN ?_ _) | (with_reducible refine below_more _ _ _ ?_ ?_) | (with_reducible refine Below.alloc ?_ ?_ _) | (with_reducible refine Below.drew ?_) | (with_reducible refine Below.setCell ?_ ?_ _) | go_size))).h.sl ⟨_, 0, none⟩ 1 1 [.int .i64 0, .int .i64 ri, .int .i64 rg] (by rfl) (by rfl) (by intro j u hj; rcases j with _ | _ | _ | j <;> simp at hj <;> subst hj <;> simp [Addr.add, go_sem]) (by simp [Value.oneCell']) (by omega) (by unfold maxLen; omega) (by omega) ?_; intro v' w4 hs4 ht4 ho4)
                have hv4 := (ST1.out.grow (by repeat' (first | (with_reducible exact Below.refl _ _) | (with_reducible assumption) | (with_reducible refine below_drewN ?_ _) | (with_reducible refine below_more _ _ _ ?_ ?_) | (with_reducible refine Below.alloc ?_ ?_ _) | (with_reducible refine Below.drew ?_) | (with_reducible refine Below.setCell ?_ ?_ _) | go_size))).swap.snoc hs4 ht4 ho4
                have ST4 := Lib.hid hv4.swap
                clear hv4 hs4 ht4 ho4
                obtain ⟨t1, t2⟩ := Row2.tail rfl ST4.out
                have T1 := Lib.hid t1
                have T2 := Lib.hid t2
                clear t1 t2 HRC HHC ST1
                obtain ⟨p4, c4, hv4, hm4⟩ : ∃ p cap, v' = .slice p (hav.length + 1) cap ∧ hav.length + 1 ≤ maxLen := by
                  obtain ⟨p, cap, h, h', _⟩ := ST4.out.h.cells
                  exact ⟨p, cap, by simpa using h, by simpa using h'⟩
                subst hv4
                unfold maxLen at hm4
                have hle := HRR'.out.list
                have hl1 : (hav ++ [((0 : Int), ri, rg)]).length = hav.length + 1 := by simp
                rw [hl1] at hle
                refine (list_p w4 Lp1 [m'] _ ST4.out.st.hP ST4.out.st.hp).mono ?_
                rintro e w5 ⟨vl, rfl, hl⟩
                obtain ⟨hl0, hlb, _⟩ := hl
                rw [hle] at hl0
                obtain ⟨pl, cl, rfl, _⟩ := sl_form hl0
                have HLB := Lib.hid hlb
                clear hl0 hlb hle hl1
                go_wp2_with fail
                go_roundw
                case rel => exact ⟨k + 1, by go_num, FIN.out _ _ _ Lp1 (((T2.out (by trivial)).grow HLB.out).grow (by repeat' (first | (with_reducible exact Below.refl _ _) | (with_reducible assumption) | (with_reducible refine below_drewN ?_ _) | (with_reducible refine below_more _ _ _ ?_ ?_) | (with_reducible refine Below.alloc ?_ ?_ _) | (with_reducible refine Below.drew ?_) | (with_reducible refine Below.setCell ?_ ?_ _) | go_size)))⟩
                case measure => simp [intOf]; omega
              · have hcap2 : 1 < cr := by omega
                clear hcap1
                go_wp2_with fail
                refine wp_region_more (by kernel_rfl) (by kernel_rfl) ?_
                repeat (go_big_quiet_step (fail))
                refine wpQuiet_nil ?_
                rintro _ ⟨pn, rfl⟩
                go_wp2_with (at_builtin; refine wpList_append_sl _ (by rfl) _ _ 27 (by rfl) 30 i0 _ 3 24 Try.underlying27 hi0 hz0 hz1 hz2 rfl (by omega) _ hav.length (idCells hav) (by rfl) (ST1.out.grow (by repeat' (first | (with_reducible exact Below.refl _ _) | (with_reducible assumption) | (with_reducible refine below_drewN ?_ _) | (with_reducible refine below_more _ _ _ ?_ ?_) | (with_reducible refine Below.alloc ?_ ?_ _) | (with_reducible refine Below.drew ?_) | (with_reducible refine Below.setCell ?_ ?_ _) | go_size))).h.sl ⟨_, 0, none⟩ 1 1 [.int .i64 0, .int .i64 ri, .int .i64 rg] (by rfl) (by rfl) (by intro j u hj; rcases j with _ | _ | _ | j <;> simp at hj <;> subst hj <;> simp [Addr.add, go_sem]) (by simp [Value.oneCell']) (by omega) (by unfold maxLen; omega) (by omega) ?_; intro v' w4 hs4 ht4 ho4)
                have hv4 := (ST1.out.grow (by repeat' (first | (with_reducible exact Below.refl _ _) | (with_reducible assumption) | (with_reducible refine below_drewN ?_ _) | (with_reducible refine below_more _ _ _ ?_ ?_) | (with_reducible refine Below.alloc ?_ ?_ _) | (with_reducible refine Below.drew ?_) | (with_reducible refine Below.setCell ?_ ?_ _) | go_size))).swap.snoc hs4 ht4 ho4
                have ST4 := Lib.hid hv4.swap
                clear hv4 hs4 ht4 ho4
                obtain ⟨t1, t2⟩ := Row2.tail rfl ST4.out
                have T1 := Lib.hid t1
                have T2 := Lib.hid t2
                clear t1 t2 HRC HHC ST1
                obtain ⟨p4, c4, hv4, hm4⟩ : ∃ p cap, v' = .slice p (hav.length + 1) cap ∧ hav.length + 1 ≤ maxLen := by
                  obtain ⟨p, cap, h, h', _⟩ := ST4.out.h.cells
                  exact ⟨p, cap, by simpa using h, by simpa using h'⟩
                subst hv4
                unfold maxLen at hm4
                have hle := HRR'.out.list
                have hl1 : (hav ++ [((0 : Int), ri, rg)]).length = hav.length + 1 := by simp
                rw [hl1] at hle
                refine (list_p w4 Lp1 [m'] _ ST4.out.st.hP ST4.out.st.hp).mono ?_
                rintro e w5 ⟨vl, rfl, hl⟩
                obtain ⟨hl0, hlb, _⟩ := hl
                rw [hle] at hl0
                obtain ⟨pl, cl, rfl, _⟩ := sl_form hl0
                have HLB := Lib.hid hlb
                clear hl0 hlb hle hl1
                go_wp2_with fail
                go_roundw
                case rel => exact ⟨k + 1, by go_num, FIN.out _ _ _ Lp1 ((T1.out.grow HLB.out).grow (by repeat' (first | (with_reducible exact Below.refl _ _) | (with_reducible assumption) | (with_reducible refine below_drewN ?_ _) | (with_reducible refine below_more _ _ _ ?_ ?_) | (with_reducible refine Below.alloc ?_ ?_ _) | (with_reducible refine Below.drew ?_) | (with_reducible refine Below.setCell ?_ ?_ _) | go_size)))⟩
                case measure => simp [intOf]; omega
          · have hB : z % 2 ≠ 0 ∨ (z % 2 = 0 ∧ row = []) := by
              by_cases h : z % 2 = 0
              · exact .inr ⟨h, Classical.byContradiction fun h' => hA ⟨h, h'⟩⟩
              · exact .inl h
            clear hA
            by_cases hn : hav = []
            · subst hn
              have fin : ∀ (W : World) (vr vh : Value) (Lq : Lay), Row2 w W Lq m (w.heap.size + 1) vr vh row [] → RowI w W (w.heap.size + 1) zs vr vh (k + 1) := fun W vr vh Lq h =>
                ⟨Lq, m, row, [], HRR.out.mono (by omega), h, by omega, by simp, by omega, by omega⟩
              have FIN := Lib.hid fin
              have hle := HRR.out.list
              have HLE := Lib.hid hle
              clear fin hle
              rcases hB with hB | ⟨hB, hrow⟩
              · have hp2 : (z % 2 == 0) = false := by simpa using hB
                clear hB
                go_wp2_with fail
                refine (mod_any z 2 _ (by omega) (by omega)).mono ?_
                rintro e w' ⟨rfl, rfl⟩
                go_wp2_with fail
                refine (list_p wo Lp [m] _ ST.out.st.hP ST.out.st.hp).mono ?_
                rintro e w5 ⟨vl, rfl, hl⟩
                obtain ⟨hl0, hlb, _⟩ := hl
                rw [HLE.out] at hl0
                obtain ⟨pl, cl, rfl, _⟩ := sl_form hl0
                have HLB := Lib.hid hlb
                clear hl0 hlb
                go_wp2_with fail
                go_roundw
                case rel => exact ⟨k + 1, by go_num, FIN.out _ _ _ Lp ((ST.out.grow HLB.out).grow (by repeat' (first | (with_reducible exact Below.refl _ _) | (with_reducible assumption) | (with_reducible refine below_drewN ?_ _) | (with_reducible refine below_more _ _ _ ?_ ?_) | (with_reducible refine Below.alloc ?_ ?_ _) | (with_reducible refine Below.drew ?_) | (with_reducible refine Below.setCell ?_ ?_ _) | go_size)))⟩
                case measure => simp [intOf]; omega
              · have hp2 : (z % 2 == 0) = true := by simpa using hB
                clear hB
                subst hrow
                go_wp2_with fail
                refine (mod_any z 2 _ (by omega) (by omega)).mono ?_
                rintro e w' ⟨rfl, rfl⟩
                go_wp2_with fail
                refine (list_p wo Lp [m] _ ST.out.st.hP ST.out.st.hp).mono ?_
                rintro e w5 ⟨vl, rfl, hl⟩
                obtain ⟨hl0, hlb, _⟩ := hl
                rw [HLE.out] at hl0
                obtain ⟨pl, cl, rfl, _⟩ := sl_form hl0
                have HLB := Lib.hid hlb
                clear hl0 hlb
                go_wp2_with fail
                go_roundw
                case rel => exact ⟨k + 1, by go_num, FIN.out _ _ _ Lp ((ST.out.grow HLB.out).grow (by repeat' (first | (with_reducible exact Below.refl _ _) | (with_reducible assumption) | (with_reducible refine below_drewN ?_ _) | (with_reducible refine below_more _ _ _ ?_ ?_) | (with_reducible refine Below.alloc ?_ ?_ _) | (with_reducible refine Below.drew ?_) | (with_reducible refine Below.setCell ?_ ?_ _) | go_size)))⟩
                case measure => simp [intOf]; omega
            · have hpos : 0 < hav.length := List.length_pos_iff.2 hn
              clear hn
              have hj0 : (z.tdiv 2) % (hav.length : Int) = ((((z.tdiv 2) % (hav.length : Int)).toNat : Nat) : Int) := (Int.toNat_of_nonneg (Int.emod_nonneg _ (by omega))).symm
              have hj1 : ((z.tdiv 2) % (hav.length : Int)).toNat < hav.length := by have := Int.emod_lt_of_pos (z.tdiv 2) (by omega : (0 : Int) < hav.length); omega
              generalize ((z.tdiv 2) % (hav.length : Int)).toNat = j at hj0 hj1
              have HJ := Lib.hid hj0
              clear hj0
              obtain ⟨x, hx⟩ : ∃ x, hav[j]? = some x := ⟨_, List.getElem?_eq_getElem hj1⟩
              obtain ⟨bb, oo, hpp, hcap2, q0, q1, q2⟩ := HHC.out j x hx
              subst hpp
              have hlv := HRR.out.lv x (List.mem_of_getElem? hx)
              have hgn := HRR.out.gn x (List.mem_append_right _ (List.mem_of_getElem? hx))
              obtain ⟨xs, xi, xg⟩ := x
              obtain ⟨hx0, _, y, hy, hyg, hya⟩ := hlv
              have hg0 := (HRR.out.g.inv.rng _ y hy).1
              simp only at hx0 q0 q1 q2 hgn hyg
              subst hx0
              rw [hyg] at hg0
              clear hy hya hyg y
              obtain ⟨m', f1, f2, f3, hrr'⟩ := HRR.out.free hx (by omega)
              have F1 := Lib.hid f1
              have F2 := Lib.hid f2
              have F3 := Lib.hid f3
              have HRR' := Lib.hid hrr'
              have HX := Lib.hid hx
              clear f1 f2 f3 hrr' hx
              have hjI : 0 ≤ (j : Int) := Int.natCast_nonneg j
              have hjL : (j : Int) < (hav.length : Int) := by omega
              rcases hB with hB | ⟨hB, hrow⟩
              · have hp2 : (z % 2 == 0) = false := by simpa using hB
                clear hB
                go_wp2_with fail
                refine (mod_any z 2 _ (by omega) (by omega)).mono ?_
                rintro e w' ⟨rfl, rfl⟩
                go_wp2_with fail
                refine (mod_any _ _ _ (by omega) (by omega)).mono ?_
                rw [HJ.out]
                rintro e w' ⟨rfl, rfl⟩
                go_wp2_with fail
                have bA := Box.new ST.out.st.hp #[.int .i64 0, .int .i64 xi, .int .i64 xg] 30
                refine (free_p _ Lp [m] _ ST.out.st.hP (ST.out.grow (by repeat' (first | (with_reducible exact Below.refl _ _) | (with_reducible assumption) | (with_reducible refine below_drewN ?_ _) | (with_reducible refine below_more _ _ _ ?_ ?_) | (with_reducible refine Below.alloc ?_ ?_ _) | (with_reducible refine Below.drew ?_) | (with_reducible refine Below.setCell ?_ ?_ _) | go_size))).st.hp 0 xi xg).mono ?_
                rw [F1.out]
                rintro e w3 ⟨rfl, hs⟩
                obtain ⟨Lp1, st1, c1, o1⟩ := (ST.out.grow (by repeat' (first | (with_reducible exact Below.refl _ _) | (with_reducible assumption) | (with_reducible refine below_drewN ?_ _) | (with_reducible refine below_more _ _ _ ?_ ?_) | (with_reducible refine Below.alloc ?_ ?_ _) | (with_reducible refine Below.drew ?_) | (with_reducible refine Below.setCell ?_ ?_ _) | go_size))).went hs
                have bA1 := bA.went c1 o1
                have ST1 := Lib.hid st1
                clear hs st1 c1 o1 bA
                have a1 := bA1.1
                have a2 := bA1.2.2
                obtain ⟨y0, y1, y2, y3⟩ := lts a1
                go_wp2_with fail
                refine (alive_p _ Lp1 [m'] _ ST1.out.st.hP ST1.out.st.hp 0 xi xg).mono ?_
                rw [F2.out]
                rintro e w4 ⟨rfl, hb⟩
                obtain ⟨d4, os4, rfl⟩ := more_of hb
                clear hb
                go_wp2_with fail
                refine (free_p _ Lp1 [m'] _ ST1.out.st.hP (ST1.out.grow (by repeat' (first | (with_reducible exact Below.refl _ _) | (with_reducible assumption) | (with_reducible refine below_drewN ?_ _) | (with_reducible refine below_more _ _ _ ?_ ?_) | (with_reducible refine Below.alloc ?_ ?_ _) | (with_reducible refine Below.drew ?_) | (with_reducible refine Below.setCell ?_ ?_ _) | go_size))).st.hp 0 xi xg).mono ?_
                rw [F3.out]
                rintro e w5 ⟨rfl, hs⟩
                obtain ⟨Lp2, st2, c2, o2⟩ := (ST1.out.grow (by repeat' (first | (with_reducible exact Below.refl _ _) | (with_reducible assumption) | (with_reducible refine below_drewN ?_ _) | (with_reducible refine below_more _ _ _ ?_ ?_) | (with_reducible refine Below.alloc ?_ ?_ _) | (with_reducible refine Below.drew ?_) | (with_reducible refine Below.setCell ?_ ?_ _) | go_size))).went hs
                have bA2 := (bA1.grow (by repeat' (first | (with_reducible exact Below.refl _ _) | (with_reducible assumption) | (with_reducible refine below_drewN ?_ _) | (with_reducible refine below_more _ _ _ ?_ ?_) | (with_reducible refine Below.alloc ?_ ?_ _) | (with_reducible refine Below.drew ?_) | (with_reducible refine Below.setCell ?_ ?_ _) | go_size))).went c2 o2
                have ST2 := Lib.hid st2
                clear hs st2 c2 o2 ST1 a1 a2 y0 y1 y2 y3 bA1
                have a1 := bA2.1
                have a2 := bA2.2.2
                obtain ⟨y0, y1, y2, y3⟩ := lts a1
                go_upto_region 25 with fail
                go_cut [9] (fun h wx => CutRow w5 wx (hav.eraseIdx j) h)
                case first =>
                  have h0j : (0 : Int) ≤ (j : Int) + 1 := by omega
                  have h1j : (j : Int) + 1 ≤ (hav.length : Int) := by omega
                  have h2j : (hav.length : Int) ≤ (ch : Int) := by omega
                  have h3j : IntKind.i64.wrap ((j : Int) + 1) = (j : Int) + 1 := IntWalk.i64_in _ (by omega)
                  have h4j : ((j : Int) + 1).toNat = j + 1 := by omega
                  have h5j : j ≤ ch := by omega
                  have h6j : j + 1 ≤ ch := by omega
                  clear ST HRC HHC HCZ HRR HZR HZC HNEW HJ HX
                  have hnew := fun (g : Nat) (hg : (Value.slice (some ⟨bb, oo, none⟩) hav.length ch).ownBlock = some g) => (fun e => by have h1 := ST2.out.h.sl.lt hg; simp [Value.ownBlock] at e; omega : (Value.slice (some ⟨w5.heap.size, 0, none⟩) 0 0).ownBlock ≠ some g)
                  have NEW := Lib.hid hnew
                  clear hnew
                  go_region_law ((first | (refine step_append_src _ (by rfl) (.tmp 115) (.tmp 118) 27 (by rfl) 30 i0 _ 3 24 Try.underlying27 hi0 hz0 hz1 hz2 rfl (by omega) _ 0 [] (by rfl) (Sl.empty (heap_alloc_new _ _)) _ j (idCells (hav.take j)) (by rfl) (Lst.src_take (ST2.out.h.grow (by repeat' (first | (with_reducible exact Below.refl _ _) | (with_reducible assumption) | (with_reducible refine below_drewN ?_ _) | (with_reducible refine below_more _ _ _ ?_ ?_) | (with_reducible refine Below.alloc ?_ ?_ _) | (with_reducible refine Below.drew ?_) | (with_reducible refine Below.setCell ?_ ?_ _) | go_size))) (by omega)) (by unfold maxLen; omega) (by omega) ?_; intro p1 c1 w6 hs6 ht6 ho6; simp only [Nat.zero_add, List.nil_append] at hs6 ho6) | (refine step_append_src _ (by rfl) (.tmp 119) (.tmp 123) 27 (by rfl) 30 i0 _ 3 24 Try.underlying27 hi0 hz0 hz1 hz2 rfl (by omega) _ j (idCells (hav.take j)) (by rfl) hs6 _ (hav.length - (j + 1)) (idCells (hav.drop (j + 1))) (by rfl) (Lst.src_cut (Lst.turned (ST2.out.h.grow (by repeat' (first | (with_reducible exact Below.refl _ _) | (with_reducible assumption) | (with_reducible refine below_drewN ?_ _) | (with_reducible refine below_more _ _ _ ?_ ?_) | (with_reducible refine Below.alloc ?_ ?_ _) | (with_reducible refine Below.drew ?_) | (with_reducible refine Below.setCell ?_ ?_ _) | go_size))) ht6 NEW.out) (by omega) (by omega)) (by unfold maxLen; omega) (by omega) ?_; intro p2 c2 w7 hs7 ht7 ho7)))
                  go_wp2_with fail
                  all_goals
                    go_meet
                    exact CutRow.mk hj1 (by repeat' (first | (with_reducible exact Below.refl _ _) | (with_reducible assumption) | (with_reducible refine below_drewN ?_ _) | (with_reducible refine below_more _ _ _ ?_ ?_) | (with_reducible refine Below.alloc ?_ ?_ _) | (with_reducible refine Below.drew ?_) | (with_reducible refine Below.setCell ?_ ?_ _) | go_size)) ht6 ho6 ht7 hs7 ho7
                obtain ⟨hb9, hs9, ho9, p9, c9, rfl⟩ := hcut
                have bA3 := bA2.grow hb9
                have st3 := ST2.out.fresh hb9 hs9 ho9
                have ST3 := Lib.hid st3
                have hlE : (hav.eraseIdx j).length ≤ k + 1 := by rw [List.length_eraseIdx_of_lt hj1]; omega
                clear st3 hb9 hs9 ho9 bA2 a1 a2 y0 y1 y2 y3 ST2 HHC HX
                have a1 := bA3.1
                have a2 := bA3.2.2
                obtain ⟨y0, y1, y2, y3⟩ := lts a1
                clear bA3
                generalize hav.eraseIdx j = hav2 at *
                have hrl : row.length ≤ 96 := by omega
                go_wp2_with (at_builtin; refine wpList_append_sl _ (by rfl) _ _ 27 (by rfl) 30 i0 _ 3 24 Try.underlying27 hi0 hz0 hz1 hz2 rfl (by omega) _ row.length (idCells row) (by rfl) (ST3.out.grow (by repeat' (first | (with_reducible exact Below.refl _ _) | (with_reducible assumption) | (with_reducible refine below_drewN ?_ _) | (with_reducible refine below_more _ _ _ ?_ ?_) | (with_reducible refine Below.alloc ?_ ?_ _) | (with_reducible refine Below.drew ?_) | (with_reducible refine Below.setCell ?_ ?_ _) | go_size))).r.sl ⟨_, 0, none⟩ 1 1 [.int .i64 0, .int .i64 xi, .int .i64 (xg + 1)] (by rfl) (by rfl) (by intro j u hj; rcases j with _ | _ | _ | j <;> simp at hj <;> subst hj <;> simp [Addr.add, go_sem]) (by simp [Value.oneCell']) (by omega) (by unfold maxLen; omega) (by omega) ?_; intro v' w6 hs4 ht4 ho4)
                have hv4 := (ST3.out.grow (by repeat' (first | (with_reducible exact Below.refl _ _) | (with_reducible assumption) | (with_reducible refine below_drewN ?_ _) | (with_reducible refine below_more _ _ _ ?_ ?_) | (with_reducible refine Below.alloc ?_ ?_ _) | (with_reducible refine Below.drew ?_) | (with_reducible refine Below.setCell ?_ ?_ _) | go_size))).snoc hs4 ht4 ho4
                have ST4 := Lib.hid hv4
                clear hv4 hs4 ht4 ho4 ST3 y0 y1 y2 y3 a1 a2
                have HLE := Lib.hid HRR'.out.list
                refine (list_p w6 Lp2 [m'] _ ST4.out.st.hP ST4.out.st.hp).mono ?_
                rintro e w7 ⟨vl, rfl, hl⟩
                obtain ⟨hl0, hlb, _⟩ := hl
                rw [HLE.out] at hl0
                obtain ⟨pl, cl, rfl, _⟩ := sl_form hl0
                have HLB := Lib.hid hlb
                clear hl0 hlb
                go_wp2_with fail
                go_roundw
                case rel => exact ⟨k + 1, by go_num, Lp2, m', _, hav2, HRR'.out, (ST4.out.grow HLB.out).grow (by repeat' (first | (with_reducible exact Below.refl _ _) | (with_reducible assumption) | (with_reducible refine below_drewN ?_ _) | (with_reducible refine below_more _ _ _ ?_ ?_) | (with_reducible refine Below.alloc ?_ ?_ _) | (with_reducible refine Below.drew ?_) | (with_reducible refine Below.setCell ?_ ?_ _) | go_size)), by simp; omega, hlE, by omega, by omega⟩
                case measure => simp [intOf]; omega
              · have hp2 : (z % 2 == 0) = true := by simpa using hB
                clear hB
                subst hrow
                go_wp2_with fail
                refine (mod_any z 2 _ (by omega) (by omega)).mono ?_
                rintro e w' ⟨rfl, rfl⟩
                go_wp2_with fail
                refine (mod_any _ _ _ (by omega) (by omega)).mono ?_
                rw [HJ.out]
                rintro e w' ⟨rfl, rfl⟩
                go_wp2_with fail
                have bA := Box.new ST.out.st.hp #[.int .i64 0, .int .i64 xi, .int .i64 xg] 30
                refine (free_p _ Lp [m] _ ST.out.st.hP (ST.out.grow (by repeat' (first | (with_reducible exact Below.refl _ _) | (with_reducible assumption) | (with_reducible refine below_drewN ?_ _) | (with_reducible refine below_more _ _ _ ?_ ?_) | (with_reducible refine Below.alloc ?_ ?_ _) | (with_reducible refine Below.drew ?_) | (with_reducible refine Below.setCell ?_ ?_ _) | go_size))).st.hp 0 xi xg).mono ?_
                rw [F1.out]
                rintro e w3 ⟨rfl, hs⟩
                obtain ⟨Lp1, st1, c1, o1⟩ := (ST.out.grow (by repeat' (first | (with_reducible exact Below.refl _ _) | (with_reducible assumption) | (with_reducible refine below_drewN ?_ _) | (with_reducible refine below_more _ _ _ ?_ ?_) | (with_reducible refine Below.alloc ?_ ?_ _) | (with_reducible refine Below.drew ?_) | (with_reducible refine Below.setCell ?_ ?_ _) | go_size))).went hs
                have bA1 := bA.went c1 o1
                have ST1 := Lib.hid st1
                clear hs st1 c1 o1 bA
                have a1 := bA1.1
                have a2 := bA1.2.2
                obtain ⟨y0, y1, y2, y3⟩ := lts a1
                go_wp2_with fail
                refine (alive_p _ Lp1 [m'] _ ST1.out.st.hP ST1.out.st.hp 0 xi xg).mono ?_
                rw [F2.out]
                rintro e w4 ⟨rfl, hb⟩
                obtain ⟨d4, os4, rfl⟩ := more_of hb
                clear hb
                go_wp2_with fail
                refine (free_p _ Lp1 [m'] _ ST1.out.st.hP (ST1.out.grow (by repeat' (first | (with_reducible exact Below.refl _ _) | (with_reducible assumption) | (with_reducible refine below_drewN ?_ _) | (with_reducible refine below_more _ _ _ ?_ ?_) | (with_reducible refine Below.alloc ?_ ?_ _) | (with_reducible refine Below.drew ?_) | (with_reducible refine Below.setCell ?_ ?_ _) | go_size))).st.hp 0 xi xg).mono ?_
                rw [F3.out]
                rintro e w5 ⟨rfl, hs⟩
                obtain ⟨Lp2, st2, c2, o2⟩ := (ST1.out.grow (by repeat' (first | (with_reducible exact Below.refl _ _) | (with_reducible assumption) | (with_reducible refine below_drewN ?_ _) | (with_reducible refine below_more _ _ _ ?_ ?_) | (with_reducible refine Below.alloc ?_ ?_ _) | (with_reducible refine Below.drew ?_) | (with_reducible refine Below.setCell ?_ ?_ _) | go_size))).went hs
                have bA2 := (bA1.grow (by repeat' (first | (with_reducible exact Below.refl _ _) | (with_reducible assumption) | (with_reducible refine below_drewN ?_ _) | (with_reducible refine below_more _ _ _ ?_ ?_) | (with_reducible refine Below.alloc ?_ ?_ _) | (with_reducible refine Below.drew ?_) | (with_reducible refine Below.setCell ?_ ?_ _) | go_size))).went c2 o2
                have ST2 := Lib.hid st2
                clear hs st2 c2 o2 ST1 a1 a2 y0 y1 y2 y3 bA1
                have a1 := bA2.1
                have a2 := bA2.2.2
                obtain ⟨y0, y1, y2, y3⟩ := lts a1
                go_upto_region 25 with fail
                go_cut [9] (fun h wx => CutRow w5 wx (hav.eraseIdx j) h)
                case first =>
                  have h0j : (0 : Int) ≤ (j : Int) + 1 := by omega
                  have h1j : (j : Int) + 1 ≤ (hav.length : Int) := by omega
                  have h2j : (hav.length : Int) ≤ (ch : Int) := by omega
                  have h3j : IntKind.i64.wrap ((j : Int) + 1) = (j : Int) + 1 := IntWalk.i64_in _ (by omega)
                  have h4j : ((j : Int) + 1).toNat = j + 1 := by omega
                  have h5j : j ≤ ch := by omega
                  have h6j : j + 1 ≤ ch := by omega
                  clear ST HRC HHC HCZ HRR HZR HZC HNEW HJ HX
                  have hnew := fun (g : Nat) (hg : (Value.slice (some ⟨bb, oo, none⟩) hav.length ch).ownBlock = some g) => (fun e => by have h1 := ST2.out.h.sl.lt hg; simp [Value.ownBlock] at e; omega : (Value.slice (some ⟨w5.heap.size, 0, none⟩) 0 0).ownBlock ≠ some g)
                  have NEW := Lib.hid hnew
                  clear hnew
                  go_region_law ((first | (refine step_append_src _ (by rfl) (.tmp 115) (.tmp 118) 27 (by rfl) 30 i0 _ 3 24 Try.underlying27 hi0 hz0 hz1 hz2 rfl (by omega) _ 0 [] (by rfl) (Sl.empty (heap_alloc_new _ _)) _ j (idCells (hav.take j)) (by rfl) (Lst.src_take (ST2.out.h.grow (by repeat' (first | (with_reducible exact Below.refl _ _) | (with_reducible assumption) | (with_reducible refine below_drewN ?_ _) | (with_reducible refine below_more _ _ _ ?_ ?_) | (with_reducible refine Below.alloc ?_ ?_ _) | (with_reducible refine Below.drew ?_) | (with_reducible refine Below.setCell ?_ ?_ _) | go_size))) (by omega)) (by unfold maxLen; omega) (by omega) ?_; intro p1 c1 w6 hs6 ht6 ho6; simp only [Nat.zero_add, List.nil_append] at hs6 ho6) | (refine step_append_src _ (by rfl) (.tmp 119) (.tmp 123) 27 (by rfl) 30 i0 _ 3 24 Try.underlying27 hi0 hz0 hz1 hz2 rfl (by omega) _ j (idCells (hav.take j)) (by rfl) hs6 _ (hav.length - (j + 1)) (idCells (hav.drop (j + 1))) (by rfl) (Lst.src_cut (Lst.turned (ST2.out.h.grow (by repeat' (first | (with_reducible exact Below.refl _ _) | (with_reducible assumption) | (with_reducible refine below_drewN ?_ _) | (with_reducible refine below_more _ _ _ ?_ ?_) | (with_reducible refine Below.alloc ?_ ?_ _) | (with_reducible refine Below.drew ?_) | (with_reducible refine Below.setCell ?_ ?_ _) | go_size))) ht6 NEW.out) (by omega) (by omega)) (by unfold maxLen; omega) (by omega) ?_; intro p2 c2 w7 hs7 ht7 ho7)))
                  go_wp2_with fail
                  all_goals
                    go_meet
                    exact CutRow.mk hj1 (by repeat' (first | (with_reducible exact Below.refl _ _) | (with_reducible assumption) | (with_reducible refine below_drewN ?_ _) | (with_reducible refine below_more _ _ _ ?_ ?_) | (with_reducible refine Below.alloc ?_ ?_ _) | (with_reducible refine Below.drew ?_) | (with_reducible refine Below.setCell ?_ ?_ _) | go_size)) ht6 ho6 ht7 hs7 ho7
                obtain ⟨hb9, hs9, ho9, p9, c9, rfl⟩ := hcut
                have bA3 := bA2.grow hb9
                have st3 := ST2.out.fresh hb9 hs9 ho9
                have ST3 := Lib.hid st3
                have hlE : (hav.eraseIdx j).length ≤ k + 1 := by rw [List.length_eraseIdx_of_lt hj1]; omega
                clear st3 hb9 hs9 ho9 bA2 a1 a2 y0 y1 y2 y3 ST2 HHC HX
                have a1 := bA3.1
                have a2 := bA3.2.2
                obtain ⟨y0, y1, y2, y3⟩ := lts a1
                clear bA3
                generalize hav.eraseIdx j = hav2 at *
                go_wp2_with (at_builtin; refine wpList_append_sl _ (by rfl) _ _ 27 (by rfl) 30 i0 _ 3 24 Try.underlying27 hi0 hz0 hz1 hz2 rfl (by omega) _ 0 (idCells []) (by rfl) (ST3.out.grow (by repeat' (first | (with_reducible exact Below.refl _ _) | (with_reducible assumption) | (with_reducible refine below_drewN ?_ _) | (with_reducible refine below_more _ _ _ ?_ ?_) | (with_reducible refine Below.alloc ?_ ?_ _) | (with_reducible refine Below.drew ?_) | (with_reducible refine Below.setCell ?_ ?_ _) | go_size))).r.sl ⟨_, 0, none⟩ 1 1 [.int .i64 0, .int .i64 xi, .int .i64 (xg + 1)] (by rfl) (by rfl) (by intro j u hj; rcases j with _ | _ | _ | j <;> simp at hj <;> subst hj <;> simp [Addr.add, go_sem]) (by simp [Value.oneCell']) (by omega) (by unfold maxLen; omega) (by omega) ?_; intro v' w6 hs4 ht4 ho4)
                have hv4 := (ST3.out.grow (by repeat' (first | (with_reducible exact Below.refl _ _) | (with_reducible assumption) | (with_reducible refine below_drewN ?_ _) | (with_reducible refine below_more _ _ _ ?_ ?_) | (with_reducible refine Below.alloc ?_ ?_ _) | (with_reducible refine Below.drew ?_) | (with_reducible refine Below.setCell ?_ ?_ _) | go_size))).snoc hs4 ht4 ho4
                have ST4 := Lib.hid hv4
                clear hv4 hs4 ht4 ho4 ST3 y0 y1 y2 y3 a1 a2
                have HLE := Lib.hid HRR'.out.list
                refine (list_p w6 Lp2 [m'] _ ST4.out.st.hP ST4.out.st.hp).mono ?_
                rintro e w7 ⟨vl, rfl, hl⟩
                obtain ⟨hl0, hlb, _⟩ := hl
                rw [HLE.out] at hl0
                obtain ⟨pl, cl, rfl, _⟩ := sl_form hl0
                have HLB := Lib.hid hlb
                clear hl0 hlb
                go_wp2_with fail
                go_roundw
                case rel => exact ⟨k + 1, by go_num, Lp2, m', _, hav2, HRR'.out, (ST4.out.grow HLB.out).grow (by repeat' (first | (with_reducible exact Below.refl _ _) | (with_reducible assumption) | (with_reducible refine below_drewN ?_ _) | (with_reducible refine below_more _ _ _ ?_ ?_) | (with_reducible refine Below.alloc ?_ ?_ _) | (with_reducible refine Below.drew ?_) | (with_reducible refine Below.setCell ?_ ?_ _) | go_size)), by simp; omega, hlE, by omega, by omega⟩
                case measure => simp [intOf]; omega
        · have HB := Lib.hid ST.out.st.hb
          have hhd := HRR.out.head
          obtain ⟨⟨h1, h2, h3⟩, hq⟩ : ∃ q, headF [m] 0 = q := ⟨_, rfl⟩
          rw [hq] at hhd
          simp only at hhd
          have HHD := Lib.hid (head_p wo Lp [m] _ ST.out.st.hP ST.out.st.hp 0)
          rw [hq] at HHD
          clear hq
          have hlt' : zs.length ≤ k ∨ (k < zs.length ∧ 80 ≤ k) := by omega
          clear hlt
          by_cases hrow : row = []
          · subst hrow
            have e8 : h3 = 8 := by simpa using hhd
            subst e8
            clear hhd
            rcases hlt' with h1' | ⟨h1', h2'⟩
            all_goals
              go_wp2_with fail
              refine HHD.out.mono ?_
              rintro e w5 ⟨rfl, hb⟩
              obtain ⟨d, os, rfl⟩ := more_of hb
              clear hb
              go_wp2_with (go_at_call 22; refine (awake8 _).mono ?_; rintro e w' ⟨rfl, hb⟩; obtain ⟨d, os, rfl⟩ := more_of hb; clear hb)
              go_ret
              exact ⟨rfl, HB.out.trans (Below.mono (B := wo.heap.size) (by repeat' (first | (with_reducible exact Below.refl _ _) | (with_reducible assumption) | (with_reducible refine below_drewN ?_ _) | (with_reducible refine below_more _ _ _ ?_ ?_) | (with_reducible refine Below.alloc ?_ ?_ _) | (with_reducible refine Below.drew ?_) | (with_reducible refine Below.setCell ?_ ?_ _) | go_size)) HB.out.size)⟩
          · have e8 : (h3 == 8) = false := by rw [hhd]; simpa using hrow
            have hpos : 0 < row.length := List.length_pos_iff.2 hrow
            have hr0 : ((row.length : Int) == 0) = false := by simp; exact hrow
            clear hhd
            rcases hlt' with h1' | ⟨h1', h2'⟩
            all_goals
              go_wp2_with fail
              refine HHD.out.mono ?_
              rintro e w5 ⟨rfl, hb⟩
              obtain ⟨d, os, rfl⟩ := more_of hb
              clear hb
              go_wp2_with (go_at_call 22; refine (awake8 _).mono ?_; rintro e w' ⟨rfl, hb⟩; obtain ⟨d, os, rfl⟩ := more_of hb; clear hb)
              all_goals first
                | (exfalso; omega)
                | skip
              go_ret
              exact ⟨rfl, HB.out.trans (Below.mono (B := wo.heap.size) (by repeat' (first | (with_reducible exact Below.refl _ _) | (with_reducible assumption) | (with_reducible refine below_drewN ?_ _) | (with_reducible refine below_more _ _ _ ?_ ?_) | (with_reducible refine Below.alloc ?_ ?_ _) | (with_reducible refine Below.drew ?_) | (with_reducible refine Below.setCell ?_ ?_ _) | go_size)) HB.out.size)⟩
set_option maxRecDepth 100000 in
theorem lifted (os : Os) (started : os.Started) (H : Type) (enc : TypeId × Value → H) :
    ReturnsInHanded {} Try.checked os 10 .any (Rows.idsRowSpec.pre6 enc Try.prog Try.f10 Rows.idsRowRow.domain false) (Rows.idsRowSpec.post enc Try.prog Try.f10 false true false false) := by
  refine returnsInHanded_of_change (C := Try.checked) ownKnob0 started (by kernel_rfl) Try.func10
    (ChangeSpec.witness6 (enc := enc) (C := Try.checked) false ⟨#[], #[.int .i64 0, .slice none 0 0], []⟩ 8 (by kernel_rfl) (by kernel_rfl) (by kernel_rfl) (by kernel_rfl)) ?_
  intro W base args ds gs before hval0 hW _ _
  have hval : ∀ (j : Nat) t v, Try.f10.params[j]? = some t → args[j]? = some v → Value.okWide Try.prog W .any base t v := hval0
  have hread : ∀ t ∈ Try.f10.params.toList, Try.prog.readableRec t = true ∧ t < Try.prog.types.size := by
    rw [Try.params10]
    intro t ht
    simp only [List.mem_cons, List.not_mem_nil, or_false] at ht
    rcases ht with rfl | rfl
    all_goals exact ⟨by kernel_rfl, of_decide_eq_true (by kernel_rfl)⟩
  have hW' := hW
  obtain ⟨p, q, hA0, hV, -, -⟩ := hW'
  have hA : DataW.TrodAll enc Try.prog W 0 (fun _ => true) true Try.f10.params.toList args.toList ds p := hA0
  rw [Try.params10] at hA hval
  obtain ⟨v0, vs0, d0, ds0, p0, q0, hargs, rfl, rfl, h0, r0⟩ := trodAll_cons hA
  obtain ⟨v1, vs1, d1, ds1, p1, q1, rfl, rfl, rfl, h1, r1⟩ := trodAll_cons r0
  obtain ⟨rfl, rfl, rfl⟩ := trodAll_nil r1
  obtain rfl : args = #[v0, v1] := by cases args; simp_all
  obtain ⟨rfl, rfl⟩ := trodVars_none hV
  have k0 := hval 0 3 v0 rfl rfl
  have k1 := hval 1 22 v1 rfl rfl
  clear hval hval0 hA0 hV hA
  obtain ⟨zs, hz⟩ := ints_in k1 h1
  obtain ⟨r, rfl, rfl, rfl, _⟩ := open_int Try.underlying3 k0 h0
  exact (walk _ _ zs W hz).mono fun e W' ⟨he, hb⟩ => ⟨_, he, post_true rfl rfl hread rfl hW hb⟩

/-- IdsRow: true for every input; the arguments stay. -/
theorem proved : Rows.IdsRowSaid :=
  OpenClaim.holds_of_wide 10 Try.f10 rfl rfl rfl rfl rfl rfl rfl ⟨rfl, rfl, rfl, rfl, rfl⟩ rfl rfl rfl rfl rfl (by kernel_rfl) Try.func10 (by kernel_rfl)
    (of_decide_eq_true (by kernel_rfl)) (by unfold Func.isWrapper; first | (rw [if_pos (by decide +kernel)]; kernel_rfl) | (rw [if_neg (by decide +kernel)]; exact ⟨rfl, rfl⟩))
    (fun os started H enc _ => lifted os started H enc)
end Go.Proofs.Ytjkbenghgbigdaa.idsRow
