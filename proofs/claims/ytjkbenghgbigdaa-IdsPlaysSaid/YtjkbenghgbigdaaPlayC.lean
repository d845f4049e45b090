/-
  Chapter 8's laws: alike: both pools tell the same. No condition.
-/
import Derived.Test.YtjkbenghgbigdaaPlayB
namespace Go.Proofs.Ytjkbenghgbigdaa
open Go.RowKit

theorem Sl.grow {W W' : World} {e : TypeId} {size : Nat} {v : Value} {n : Nat} {xs : List Value} (h : Sl W e size v n xs) (hb : Below W.heap.size W W') : Sl W' e size v n xs := h.keep fun g hg => hb.block g (h.lt hg)
theorem cell_set_ne {w : World} {b o o' : Nat} {u : Value} (h : o ≠ o') : (w.setCell ⟨b, o, none⟩ u).cell? ⟨b, o', none⟩ = w.cell? ⟨b, o', none⟩ := by
  simp only [World.setCell, World.cell?, Array.getElem?_modify, if_true]
  cases w.heap[b]? with
  | none => rfl
  | some x =>
    cases x <;> simp [Array.getElem?_setIfInBounds_ne h]
theorem frozen_set {w : World} {b o o' : Nat} {u : Value} : (w.setCell ⟨b, o, none⟩ u).frozen? ⟨b, o', none⟩ = w.frozen? ⟨b, o', none⟩ := by
  simp only [World.setCell, World.frozen?, Array.getElem?_modify, if_true]
  cases w.heap[b]? with
  | none => rfl
  | some x => cases x <;> rfl

/-- Of the names from the n-th on nothing has been written over. -/
structure Left (W wr : World) (p : Option Addr) (cap : Nat) (l : List Id3) (n : Nat) : Prop where
  chg : Chg W wr (fun b => (Value.slice p l.length cap).ownBlock = some b)
  rest : ∀ (j : Nat) (x : Id3), n ≤ j → l[j]? = some x → ∃ b off, p = some ⟨b, off, none⟩ ∧ l.length ≤ cap ∧ b < wr.heap.size ∧ (∀ o, wr.frozen? ⟨b, o, none⟩ = false) ∧
    wr.cell? ⟨b, off + j * 3, none⟩ = some (.int .i64 x.1) ∧ wr.cell? ⟨b, off + j * 3 + 1, none⟩ = some (.int .i64 x.2.1) ∧ wr.cell? ⟨b, off + j * 3 + 2, none⟩ = some (.int .i64 x.2.2)

theorem Left.start {W : World} {p : Option Addr} {cap : Nat} {l : List Id3} (h : Sl W 30 3 (.slice p l.length cap) l.length (idCells l)) : Left W W p cap l 0 := by
  refine ⟨Chg.refl _ _, fun j x _ hx => ?_⟩
  obtain ⟨p', cap', hv, _, hc⟩ := idAt h
  simp only [Value.slice.injEq] at hv
  obtain ⟨rfl, _, rfl⟩ := hv
  obtain ⟨b, off, rfl, h1, h2, h3, h4⟩ := hc j x hx
  refine ⟨b, off, rfl, h1, World.block_lt_of_cell? W _ h2, fun o => ?_, h2, h3, h4⟩
  obtain ⟨_, ⟨hv, _⟩ | ⟨g, off', cap', cur, hv, hb, _⟩⟩ := h
  · cases hv
  · simp only [Value.slice.injEq, Option.some.injEq, Addr.mk.injEq] at hv
    rw [hv.1.1]
    simp [World.frozen?, hb]
theorem Left.later {W wr W' : World} {p : Option Addr} {cap : Nat} {l : List Id3} {n : Nat} (h : Left W wr p cap l n) (hb : Below wr.heap.size wr W') : Left W W' p cap l n :=
  ⟨h.chg.then_below (hb.mono h.chg.size), fun j x hj hx => by
    obtain ⟨b, off, h1, h2, h3, h4, h5, h6, h7⟩ := h.rest j x hj hx
    exact ⟨b, off, h1, h2, Nat.lt_of_lt_of_le h3 hb.size, fun o => (hb.frozen (p := ⟨b, o, none⟩) h3).trans (h4 o), (hb.cell (p := ⟨b, _, none⟩) h3).trans h5, (hb.cell (p := ⟨b, _, none⟩) h3).trans h6, (hb.cell (p := ⟨b, _, none⟩) h3).trans h7⟩⟩
theorem Left.put {W wr : World} {b off cap : Nat} {l : List Id3} {n : Nat} (h : Left W wr (some ⟨b, off, none⟩) cap l n) (u0 u1 u2 : Value) :
    Left W (((wr.setCell ⟨b, off + n * 3, none⟩ u0).setCell ⟨b, off + n * 3 + 1, none⟩ u1).setCell ⟨b, off + n * 3 + 2, none⟩ u2) (some ⟨b, off, none⟩) cap l (n + 1) := by
  have e : (Value.slice (some ⟨b, off, none⟩) l.length cap).ownBlock = some b := rfl
  refine ⟨((h.chg.setCell ⟨b, off + n * 3, none⟩ u0 (.inl e)).setCell ⟨b, off + n * 3 + 1, none⟩ u1 (.inl e)).setCell ⟨b, off + n * 3 + 2, none⟩ u2 (.inl e), fun j x hj hx => ?_⟩
  obtain ⟨b', off', h1, h2, h3, h4, h5, h6, h7⟩ := h.rest j x (by omega) hx
  simp only [Option.some.injEq, Addr.mk.injEq, and_true] at h1
  obtain ⟨rfl, rfl⟩ := h1
  refine ⟨b, off, rfl, h2, by simpa [World.setCell] using h3, fun o => ?_, ?_, ?_, ?_⟩
  · rw [frozen_set, frozen_set, frozen_set]; exact h4 o
  · rw [cell_set_ne (by omega), cell_set_ne (by omega), cell_set_ne (by omega)]; exact h5
  · rw [cell_set_ne (by omega), cell_set_ne (by omega), cell_set_ne (by omega)]; exact h6
  · rw [cell_set_ne (by omega), cell_set_ne (by omega), cell_set_ne (by omega)]; exact h7

variable (w0 w : World) (L : Lay) (M : List Sh) (P : Nat) (R : RLay) (ids : Nat) (c : Int)
theorem gen_pl (h : Pl w0 w L M P R ids c M) (k i : Int) : Calls Try.prog 48 #[.pointer (some ⟨P, 0, none⟩), .int .i64 k, .int .i64 i] w fun e w' => e = .returned (.int .i64 (genF M k i)) ∧ Below w.heap.size w w' := by
  have hP := h.st.hP
  subst hP
  cases hx : ixOf M k i with
  | none => simp only [genF, hx]; exact gen_out w L M k i h.st.hp hx
  | some x => simp only [genF, hx]; exact gen_in w L M k i x h.st.hp hx

set_option maxRecDepth 100000 in
set_option maxHeartbeats 4000000 in
theorem alike_any (h : Pl w0 w L M P R ids c M) (s i g : Int) : Calls Try.prog 47 #[.pointer (some ⟨P, 0, none⟩), .pointer (some ⟨R.p, 0, none⟩), .agg #[.int .i64 s, .int .i64 i, .int .i64 g]] w fun e w' => e = .returned (.bool true) ∧ Pl w0 w' L M P R ids c M := by
  have HP := Lib.hid h
  have hlen : (listF M).length ≤ 256 := by
    have h1 := shList_le M 0 fun m hm => by
      obtain ⟨rw, put, _, h2, _⟩ := h.r
      rw [h2.len m hm]; exact h2.pos.2.1
    obtain ⟨rw, put, _, h2, _⟩ := h.r
    have := h2.pos.2.2
    show (shList 0 M).length ≤ 256
    omega
  have HAL := Lib.hid (list_alive M)
  clear h
  go_enter Try.func47, Try.ntmps47
  go_wp2_with fail
  refine (list_p _ L M _ HP.out.st.hP (HP.out.grow (by repeat' (first | (with_reducible exact Below.refl _ _) | (with_reducible assumption) | (with_reducible refine below_drewN ?_ _) | (with_reducible refine below_more _ _ _ ?_ ?_) | (with_reducible refine Below.alloc ?_ ?_ _) | (with_reducible refine Below.drew ?_) | (with_reducible refine Below.setCell ?_ ?_ _) | go_size))).st.hp).mono ?_
  rintro e w1 ⟨v, rfl, hl⟩
  obtain ⟨hsl, hb, hv⟩ := hl
  have HSL := Lib.hid hsl
  have HV := Lib.hid hv
  obtain ⟨d1, os1, rfl⟩ := more_of hb
  clear hsl hb hv
  obtain ⟨hh1, hh2, hh3⟩ : True ∧ True ∧ True := ⟨trivial, trivial, trivial⟩
  have HH := Lib.hid fun W (hW : Below w.heap.size w W) => head_p W L M P HP.out.st.hP (HP.out.grow hW).st.hp s
  have HR := Lib.hid fun W (hW : Below w.heap.size w W) => rhead_any W R ids M (HP.out.grow hW).r s
  generalize headF M s = q at *
  obtain ⟨qa, qb, qc⟩ := q
  clear hh1 hh2 hh3
  go_wp2_with fail
  refine (HH.out _ (by repeat' (first | (with_reducible exact Below.refl _ _) | (with_reducible assumption) | (with_reducible refine below_drewN ?_ _) | (with_reducible refine below_more _ _ _ ?_ ?_) | (with_reducible refine Below.alloc ?_ ?_ _) | (with_reducible refine Below.drew ?_) | (with_reducible refine Below.setCell ?_ ?_ _) | go_size))).mono ?_
  rintro e w2 ⟨rfl, hb⟩
  obtain ⟨d2, os2, rfl⟩ := more_of hb
  clear hb
  go_wp2_with fail
  refine (HR.out _ (by repeat' (first | (with_reducible exact Below.refl _ _) | (with_reducible assumption) | (with_reducible refine below_drewN ?_ _) | (with_reducible refine below_more _ _ _ ?_ ?_) | (with_reducible refine Below.alloc ?_ ?_ _) | (with_reducible refine Below.drew ?_) | (with_reducible refine Below.setCell ?_ ?_ _) | go_size))).mono ?_
  rintro e w2 ⟨rfl, hb⟩
  obtain ⟨d3, os3, rfl⟩ := more_of hb
  clear hb
  go_wp2_with fail
  have hsl3 := HSL.out.grow (W' := more (more (more (w.alloc (.cells #[.int .i64 s, .int .i64 i, .int .i64 g] 30)) d1 os1) d2 os2) d3 os3) (by repeat' (first | (with_reducible exact Below.refl _ _) | (with_reducible assumption) | (with_reducible refine below_drewN ?_ _) | (with_reducible refine below_more _ _ _ ?_ ?_) | (with_reducible refine Below.alloc ?_ ?_ _) | (with_reducible refine Below.drew ?_) | (with_reducible refine Below.setCell ?_ ?_ _) | go_size))
  rw [more_more, more_more] at *
  generalize os1 ++ (os2 ++ os3) = os6 at *
  clear HSL
  have HSL := Lib.hid fun d => (hsl3.keep fun _ _ => rfl : Sl (more (w.alloc (.cells #[.int .i64 s, .int .i64 i, .int .i64 g] 30)) d os6) 30 3 v (listF M).length (idCells (listF M)))
  clear hsl3
  have HRL := Lib.hid fun W (hW : Below w.heap.size w W) => rlist_any W R ids M (HP.out.grow hW).r
  have HA := Lib.hid fun W (hW : Below w.heap.size w W) => alive_p W L M P HP.out.st.hP (HP.out.grow hW).st.hp s i g
  have HRA := Lib.hid fun W (hW : Below w.heap.size w W) => ralive_any W R ids M (HP.out.grow hW).r s i g
  have HG := Lib.hid fun W (hW : Below w.heap.size w W) => gen_pl w0 W L M P R ids c (HP.out.grow hW) s i
  have HO := Lib.hid fun W (hW : Below w.heap.size w W) => rof_any W R ids M (HP.out.grow hW).r s i
  generalize aliveF M s i g = al at *
  generalize genF M s i = gn at *
  obtain ⟨pv, cv, hvv, hlm, _⟩ := idAt (HSL.out 0)
  subst hvv
  unfold maxLen at hlm
  have hv2 : ∀ b, (Value.slice pv (listF M).length cv).ownBlock = some b → w.heap.size < b := fun b hb => by have := HV.out b hb; simp at this; omega
  have HV2 := Lib.hid hv2
  have HL := Lib.hid fun W (hW : Pl w0 W L M P R ids c M) => list_p W L M P hW.st.hP hW.st.hp
  have HRL2 := Lib.hid fun W (hW : RPool W R ids c M) => rlist_any W R ids M hW
  have HAV := Lib.hid fun W (hW : Pl w0 W L M P R ids c M) => alive_p W L M P hW.st.hP hW.st.hp
  clear HV hv2
  generalize listF M = l at *
  go_cut [76] (fun x wx => x = .bool false ∧ Hid (Below w.heap.size w wx) ∧ Hid (Left wx wx pv cv l 0))
  case first =>
    go_region_held3 (fun W => W.cell? ⟨w.heap.size, 0, none⟩ = some (.int .i64 s) ∧ W.cell? ⟨w.heap.size, 1, none⟩ = some (.int .i64 i) ∧ W.cell? ⟨w.heap.size, 2, none⟩ = some (.int .i64 g)) ((refine ⟨?_, ?_, ?_⟩ <;> first | assumption | (simp [go_sem]; done)))
      (first
        | (go_at_call 75; refine (HRL.out _ (by repeat' (first | (with_reducible exact Below.refl _ _) | (with_reducible assumption) | (with_reducible refine below_drewN ?_ _) | (with_reducible refine below_more _ _ _ ?_ ?_) | (with_reducible refine Below.alloc ?_ ?_ _) | (with_reducible refine Below.drew ?_) | (with_reducible refine Below.setCell ?_ ?_ _) | go_size))).mono ?_; rintro e w4 ⟨v2, rfl, hl2⟩; obtain ⟨hsl2, hb, hv2⟩ := hl2; have HSL2 := Lib.hid hsl2; obtain ⟨d4, os4, rfl⟩ := more_of hb; clear hb hsl2 hv2)
        | (go_at_call 74; refine (same_any _ _ l _ ((HSL.out _).grow (by repeat' (first | (with_reducible exact Below.refl _ _) | (with_reducible assumption) | (with_reducible refine below_drewN ?_ _) | (with_reducible refine below_more _ _ _ ?_ ?_) | (with_reducible refine Below.alloc ?_ ?_ _) | (with_reducible refine Below.drew ?_) | (with_reducible refine Below.setCell ?_ ?_ _) | go_size))) (HSL2.out.grow (by repeat' (first | (with_reducible exact Below.refl _ _) | (with_reducible assumption) | (with_reducible refine below_drewN ?_ _) | (with_reducible refine below_more _ _ _ ?_ ?_) | (with_reducible refine Below.alloc ?_ ?_ _) | (with_reducible refine Below.drew ?_) | (with_reducible refine Below.setCell ?_ ?_ _) | go_size)))).mono ?_; rintro e w5 ⟨rfl, hb⟩; obtain ⟨d5, os5, rfl⟩ := more_of hb; clear hb)
        | (go_at_call 20; refine (HA.out _ (by repeat' (first | (with_reducible exact Below.refl _ _) | (with_reducible assumption) | (with_reducible refine below_drewN ?_ _) | (with_reducible refine below_more _ _ _ ?_ ?_) | (with_reducible refine Below.alloc ?_ ?_ _) | (with_reducible refine Below.drew ?_) | (with_reducible refine Below.setCell ?_ ?_ _) | go_size))).mono ?_; rintro e w' ⟨rfl, hb⟩; obtain ⟨d, os, rfl⟩ := more_of hb; clear hb)
        | (go_at_call 76; refine (HRA.out _ (by repeat' (first | (with_reducible exact Below.refl _ _) | (with_reducible assumption) | (with_reducible refine below_drewN ?_ _) | (with_reducible refine below_more _ _ _ ?_ ?_) | (with_reducible refine Below.alloc ?_ ?_ _) | (with_reducible refine Below.drew ?_) | (with_reducible refine Below.setCell ?_ ?_ _) | go_size))).mono ?_; rintro e w' ⟨rfl, hb⟩; obtain ⟨d, os, rfl⟩ := more_of hb; clear hb)
        | (go_at_call 48; refine (HG.out _ (by repeat' (first | (with_reducible exact Below.refl _ _) | (with_reducible assumption) | (with_reducible refine below_drewN ?_ _) | (with_reducible refine below_more _ _ _ ?_ ?_) | (with_reducible refine Below.alloc ?_ ?_ _) | (with_reducible refine Below.drew ?_) | (with_reducible refine Below.setCell ?_ ?_ _) | go_size))).mono ?_; rintro e w' ⟨rfl, hb⟩; obtain ⟨d, os, rfl⟩ := more_of hb; clear hb)
        | (go_at_call 77; refine (HO.out _ (by repeat' (first | (with_reducible exact Below.refl _ _) | (with_reducible assumption) | (with_reducible refine below_drewN ?_ _) | (with_reducible refine below_more _ _ _ ?_ ?_) | (with_reducible refine Below.alloc ?_ ?_ _) | (with_reducible refine Below.drew ?_) | (with_reducible refine Below.setCell ?_ ?_ _) | go_size))).mono ?_; rintro e w' ⟨rfl, hb⟩; obtain ⟨d, os, rfl⟩ := more_of hb; clear hb))
    go_wp2_with fail
    go_meet
    exact ⟨rfl, Lib.hid (by repeat' (first | (with_reducible exact Below.refl _ _) | (with_reducible assumption) | (with_reducible refine below_drewN ?_ _) | (with_reducible refine below_more _ _ _ ?_ ?_) | (with_reducible refine Below.alloc ?_ ?_ _) | (with_reducible refine Below.drew ?_) | (with_reducible refine Below.setCell ?_ ?_ _) | go_size)), Lib.hid (Left.start ((HSL.out _).grow (by repeat' (first | (with_reducible exact Below.refl _ _) | (with_reducible assumption) | (with_reducible refine below_drewN ?_ _) | (with_reducible refine below_more _ _ _ ?_ ?_) | (with_reducible refine Below.alloc ?_ ?_ _) | (with_reducible refine Below.drew ?_) | (with_reducible refine Below.setCell ?_ ?_ _) | go_size))))⟩
  clear HSL HH HR HRL HA HRA HG HO
  obtain ⟨rfl, hB, hL⟩ := hcut
  go_wp2_with fail
  go_loopw [14] (fun x wr => ∃ n : Nat, n ≤ l.length ∧ x = .int .i64 n ∧ Hid (Left wc wr pv cv l n)) (fun x _ => l.length - (intOf x).toNat)
  case atStart => exact ⟨0, Nat.zero_le _, rfl, hL⟩
  case round =>
    obtain ⟨n, hn, rfl, hh⟩ := hrel
    obtain ⟨wo, rfl⟩ : ∃ wo : World, wo = wr := ⟨_, rfl⟩
    have hI : 0 ≤ (n : Int) := Int.natCast_nonneg n
    have hpl : Pl w0 wo L M P R ids c M := by
      have h0 := HP.out.grow hB.out
      refine h0.chg hh.out.chg (fun b h1 h2 => ?_) (fun b h1 h2 => ?_) fun b h2 => ?_
      · have := HV2.out b h2; have := HP.out.st.hp.lt h1; omega
      · have := HV2.out b h2; have := HP.out.r.lt h1; omega
      · have := HV2.out b h2; have := HP.out.st.hb.size; omega
    have HPL := Lib.hid hpl
    clear hpl
    by_cases hlt : n < l.length
    · obtain ⟨x, hx⟩ : ∃ x, l[n]? = some x := ⟨_, List.getElem?_eq_getElem hlt⟩
      obtain ⟨b, off, hp, hcap, hb, hf, q0, q1, q2⟩ := hh.out.rest n x (Nat.le_refl _) hx
      have hal := HAL.out x (List.mem_of_getElem? hx)
      subst hp
      obtain ⟨xs, xi, xg⟩ := x
      simp only at q0 q1 q2 hal
      have HALX := Lib.hid hal
      have hL2 : (n : Int) < (l.length : Int) := by omega
      obtain ⟨y0, y1, y2, y3⟩ := lts hb
      clear hx hal
      go_wp2_with fail
      refine (HAV.out _ HPL.out xs xi xg).mono ?_
      rw [HALX.out]
      rintro e w2 ⟨rfl, hb2⟩
      obtain ⟨d2, os2, rfl⟩ := more_of hb2
      clear hb2
      go_wp2_with fail
      go_roundw
      case rel => exact ⟨n + 1, hlt, by go_num, Lib.hid ((hh.out.put _ _ _).later (by repeat' (first | (with_reducible exact Below.refl _ _) | (with_reducible assumption) | (with_reducible refine below_drewN ?_ _) | (with_reducible refine below_more _ _ _ ?_ ?_) | (with_reducible refine Below.alloc ?_ ?_ _) | (with_reducible refine Below.drew ?_) | (with_reducible refine Below.setCell ?_ ?_ _) | go_size)))⟩
      case measure => simp [intOf]; omega
    · obtain rfl : n = l.length := by omega
      go_wp2_with fail
      refine (HL.out _ (HPL.out.grow (by repeat' (first | (with_reducible exact Below.refl _ _) | (with_reducible assumption) | (with_reducible refine below_drewN ?_ _) | (with_reducible refine below_more _ _ _ ?_ ?_) | (with_reducible refine Below.alloc ?_ ?_ _) | (with_reducible refine Below.drew ?_) | (with_reducible refine Below.setCell ?_ ?_ _) | go_size)))).mono ?_
      rintro e w2 ⟨va, rfl, hl⟩
      obtain ⟨ha, hb, _⟩ := hl
      have HSA := Lib.hid ha
      obtain ⟨d2, os2, rfl⟩ := more_of hb
      clear hb ha
      go_wp2_with fail
      refine (HRL2.out _ (HPL.out.grow (by repeat' (first | (with_reducible exact Below.refl _ _) | (with_reducible assumption) | (with_reducible refine below_drewN ?_ _) | (with_reducible refine below_more _ _ _ ?_ ?_) | (with_reducible refine Below.alloc ?_ ?_ _) | (with_reducible refine Below.drew ?_) | (with_reducible refine Below.setCell ?_ ?_ _) | go_size))).r).mono ?_
      rintro e w2 ⟨vb, rfl, hl⟩
      obtain ⟨ha, hb, _⟩ := hl
      have HSB := Lib.hid ha
      obtain ⟨d3, os3, rfl⟩ := more_of hb
      clear hb ha
      go_wp2_with fail
      refine (same_any _ _ l _ (HSA.out.grow (by repeat' (first | (with_reducible exact Below.refl _ _) | (with_reducible assumption) | (with_reducible refine below_drewN ?_ _) | (with_reducible refine below_more _ _ _ ?_ ?_) | (with_reducible refine Below.alloc ?_ ?_ _) | (with_reducible refine Below.drew ?_) | (with_reducible refine Below.setCell ?_ ?_ _) | go_size))) (HSB.out.grow (by repeat' (first | (with_reducible exact Below.refl _ _) | (with_reducible assumption) | (with_reducible refine below_drewN ?_ _) | (with_reducible refine below_more _ _ _ ?_ ?_) | (with_reducible refine Below.alloc ?_ ?_ _) | (with_reducible refine Below.drew ?_) | (with_reducible refine Below.setCell ?_ ?_ _) | go_size)))).mono ?_
      rintro e w5 ⟨rfl, hb⟩
      obtain ⟨d5, os5, rfl⟩ := more_of hb
      clear hb
      go_wp2_with fail
      go_ret
      exact ⟨rfl, HPL.out.grow (by repeat' (first | (with_reducible exact Below.refl _ _) | (with_reducible assumption) | (with_reducible refine below_drewN ?_ _) | (with_reducible refine below_more _ _ _ ?_ ?_) | (with_reducible refine Below.alloc ?_ ?_ _) | (with_reducible refine Below.drew ?_) | (with_reducible refine Below.setCell ?_ ?_ _) | go_size))⟩
end Go.Proofs.Ytjkbenghgbigdaa
