/-
  The reference's pool of names: Reserve, Issue, Take, Free as the program's. No condition.
-/
import Derived.Test.YtjkbenghgbigdaaRefD
namespace Go.Proofs.Ytjkbenghgbigdaa
open Go.RowKit

/-- A step of the reference's pool. -/
def RStp (w : World) (R : RLay) (ids : Nat) (c : Int) (w' : World) (M' : List Sh) : Prop := RPool w' R ids c M' ∧ Chg w w' R.own
theorem RStp.same {w w' : World} {R : RLay} {ids : Nat} {c : Int} {M : List Sh} (h : RPool w R ids c M) (hb : Below w.heap.size w w') : RStp w R ids c w' M := ⟨h.grown hb, Chg.of_below hb⟩
theorem RStp.more {w w' : World} {R : RLay} {ids : Nat} {c : Int} {M' : List Sh} (h : RStp w R ids c w' M') : RStp w R ids (c + 1) w' M' := by
  obtain ⟨⟨rw, put, h1, h2, h3⟩, h4⟩ := h
  exact ⟨⟨rw, put, h1, h2, by omega⟩, h4⟩
theorem RStp.of {w W W' : World} {R : RLay} {ids : Nat} {c : Int} {M' : List Sh} (hc : Chg w W R.own) (hr : RPool W R ids c M') (hb : Below W.heap.size W W') : RStp w R ids c W' M' := ⟨hr.grown hb, hc.then_below (hb.mono hc.size)⟩

theorem RefAt.put1 {w : World} {R : RLay} {l : List Slot} {put : Int} (h : RefAt w R l put) {n : Nat} {s s' : Slot} (hs : l[n]? = some s) (q : Nat) (v : Value) (hq : q < 6) (hc : s'.cells = s.cells.set q v) : RefAt (w.setCell ⟨R.b, R.off + n * 6 + q, none⟩ v) R (l.set n s') put :=
  h.set hs q v hq (by rw [hc]; exact List.getElem?_set_self (by simpa [Slot.cells] using hq)) fun j hj => by rw [hc]; exact List.getElem?_set_ne hj.symm
theorem Chg.put1 {w W : World} {R : RLay} (h : Chg w W R.own) (o : Nat) (v : Value) : Chg w (W.setCell ⟨R.b, o, none⟩ v) R.own := h.setCell _ _ (.inl (.inr rfl))
theorem Chg.put0 {w W : World} {R : RLay} (h : Chg w W R.own) (o : Nat) (v : Value) : Chg w (W.setCell ⟨R.p, o, none⟩ v) R.own := h.setCell _ _ (.inl (.inl rfl))
theorem get_set {l : List Slot} {n : Nat} {s s' : Slot} (h : l[n]? = some s) : (l.set n s')[n]? = some s' := List.getElem?_set_self (List.getElem?_eq_some_iff.1 h).1

section
variable {w : World} {R : RLay} {ids : Nat} {M : List Sh} {rw : Int → Int → Int} {put c : Int} {k i : Nat} {m : Sh} (h1 : RefAt w R (mSlots rw 0 M) put) (h2 : Sim ids M rw put) (hpc : put ≤ c) (hm : M[k]? = some m)
include h1 h2 hpc hm
theorem fin_reserve {gen bound : Int} {alive : Bool} (hx : m.all[i]? = some ⟨gen, bound, alive⟩) (hlt : bound + 8 ≤ 1048576) : RStp w R ids c (w.setCell ⟨R.b, R.off + (k * ids + i) * 6 + 3, none⟩ (.int .i64 (bound + 8))) (setIx M k i ⟨gen, min (bound + 8) 1048576, alive⟩) := by
  have hs := mSlots_get (rw := rw) M 0 k i m _ h2.len hm hx
  have e : min (bound + 8) 1048576 = bound + 8 := by omega
  refine ⟨⟨rw, put, ?_, by rw [setIx_nat _ hm]; exact h2.reserve hm hx, hpc⟩, (Chg.refl _ _).put1 _ _⟩
  rw [setIx_nat _ hm, e]
  exact RefAt.turn h2 hm hx rfl (fun _ _ _ => rfl) fun s es => h1.put1 hs 3 _ (by omega) (by subst es; simp [Slot.cells])
theorem fin_reserve2 {gen bound : Int} {alive : Bool} (hx : m.all[i]? = some ⟨gen, bound, alive⟩) (hlt : 1048576 ≤ bound + 8) : RStp w R ids c ((w.setCell ⟨R.b, R.off + (k * ids + i) * 6 + 3, none⟩ (.int .i64 (bound + 8))).setCell ⟨R.b, R.off + (k * ids + i) * 6 + 3, none⟩ (.int .i64 1048576)) (setIx M k i ⟨gen, min (bound + 8) 1048576, alive⟩) := by
  have hs := mSlots_get (rw := rw) M 0 k i m _ h2.len hm hx
  have e : min (bound + 8) 1048576 = 1048576 := by omega
  refine ⟨⟨rw, put, ?_, by rw [setIx_nat _ hm]; exact h2.reserve hm hx, hpc⟩, ((Chg.refl _ _).put1 _ _).put1 _ _⟩
  rw [setIx_nat _ hm, e]
  refine RefAt.turn h2 hm hx rfl (fun _ _ _ => rfl) fun s es => ?_
  have h3 := h1.put1 hs 3 (.int .i64 (bound + 8)) (s' := ⟨0 + k, i, gen, bound + 8, rw (0 + k) i, alive⟩) (by omega) (by simp [Slot.cells])
  have h4 := h3.put1 (get_set hs) 3 (.int .i64 1048576) (s' := s) (by omega) (by subst es; simp [Slot.cells])
  rw [List.set_set] at h4
  exact h4
end

set_option maxRecDepth 100000 in
set_option maxHeartbeats 2000000 in
theorem rreserve_any (w : World) (R : RLay) (ids : Nat) {c : Int} (M : List Sh) (h : RPool w R ids c M) (k i : Int) : Calls Try.prog 68 #[.pointer (some ⟨R.p, 0, none⟩), .int .i64 k, .int .i64 i] w fun e w' => e = .returned (.int .i64 (reserveF M k i).1) ∧ RStp w R ids c w' (reserveF M k i).2 := by
  have HE := Lib.hid fun w' (hb : Below w.heap.size w w') => RStp.same h hb
  obtain ⟨rw, put, h1, h2, hpc⟩ := h
  cases hix : ixOf M k i with
  | none =>
    simp only [reserveF, hix]
    have HA := Lib.hid (rat_none w R ids M rw put h1 h2 k i hix)
    clear hix h1 h2
    go_enter Try.func68, Try.ntmps68
    go_wp2_with (go_at_call 85; refine HA.out.mono ?_; rintro e w' ⟨rfl, rfl⟩)
    go_ret
    exact ⟨rfl, HE.out _ (by repeat' (first | (with_reducible exact Below.refl _ _) | (with_reducible assumption) | (with_reducible refine below_drewN ?_ _) | (with_reducible refine below_more _ _ _ ?_ ?_) | (with_reducible refine Below.alloc ?_ ?_ _) | (with_reducible refine Below.drew ?_) | (with_reducible refine Below.setCell ?_ ?_ _) | go_size))⟩
  | some x =>
    simp only [reserveF, hix]
    obtain ⟨k, i, m, rfl, rfl, hm, hx⟩ := ixOf_nat' hix
    have hr := (h2.good m (List.mem_of_getElem? hm)).inv.rng i x hx
    have HA := Lib.hid (rat_some w R ids M rw put h1 h2 k i m x hm hx)
    have hs := mSlots_get (rw := rw) M 0 k i m x h2.len hm hx
    obtain ⟨s0, s1, s2, s3, s4, s5⟩ := h1.slot hs
    obtain ⟨c0, c1, fp, fb, b0, b1⟩ := h1.tops
    obtain ⟨z1, z2⟩ := h1.bnd
    obtain ⟨y0, y1, y2, y3⟩ := lts b0
    obtain ⟨x0, x1, x2, x3⟩ := lts b1
    have b00 : ∀ n, R.p < w.heap.size + n := fun n => by omega
    have b11 : ∀ n, R.b < w.heap.size + n := fun n => by omega
    have hn := (List.getElem?_eq_some_iff.1 hs).1
    have hnI : 0 ≤ ((k * ids + i : Nat) : Int) := Int.natCast_nonneg _
    have hnL : ((k * ids + i : Nat) : Int) < ((mSlots rw 0 M).length : Int) := by omega
    unfold maxLen at z2
    by_cases hb : x.bound = 1048576
    · rw [if_pos hb]
      have hbb : (1048576 : Int) ≤ x.bound := by omega
      clear hb
      generalize (mSlots rw 0 M).length = len at *
      generalize k * ids + i = n at *
      clear hs hm hx hix h1 h2 hr
      obtain ⟨gen, bound, alive⟩ := x
      simp only at s3 hbb
      go_enter Try.func68, Try.ntmps68
      go_wp2_with (go_at_call 85; refine HA.out.mono ?_; rintro e w' ⟨rfl, rfl⟩)
      go_ret
      exact ⟨rfl, HE.out _ (by repeat' (first | (with_reducible exact Below.refl _ _) | (with_reducible assumption) | (with_reducible refine below_drewN ?_ _) | (with_reducible refine below_more _ _ _ ?_ ?_) | (with_reducible refine Below.alloc ?_ ?_ _) | (with_reducible refine Below.drew ?_) | (with_reducible refine Below.setCell ?_ ?_ _) | go_size))⟩
    · rw [if_neg hb]
      have hlt : x.bound < 1048576 := by omega
      have hb0 := hr.2.2.1
      clear hb
      obtain ⟨gen, bound, alive⟩ := x
      have HF1 := Lib.hid (fun h => fin_reserve h1 h2 hpc hm hx h)
      have HF2 := Lib.hid (fun h => fin_reserve2 h1 h2 hpc hm hx h)
      generalize k * ids + i = n at *
      generalize (mSlots rw 0 M).length = len at *
      clear hs hix hx hm h1 h2
      simp only at s3 hlt hb0
      clear hr
      go_enter Try.func68, Try.ntmps68
      go_wp2_with (go_at_call 85; refine HA.out.mono ?_; rintro e w' ⟨rfl, rfl⟩)
      refine wp_region_still_tail 16 (by kernel_rfl) (by kernel_rfl) ?_
      simp only [List.take_succ_cons, List.take_zero, List.drop_succ_cons, List.drop_zero]
      repeat (first | still_step)
      refine wpStill_nil ?_
      go_wp2_with fail
      · go_ret
        exact ⟨rfl, RStp.of (HF2.out (by omega)).2 (HF2.out (by omega)).1 (by repeat' (first | (with_reducible exact Below.refl _ _) | (with_reducible assumption) | (with_reducible refine below_drewN ?_ _) | (with_reducible refine below_more _ _ _ ?_ ?_) | (with_reducible refine Below.alloc ?_ ?_ _) | (with_reducible refine Below.drew ?_) | (with_reducible refine Below.setCell ?_ ?_ _) | go_size))⟩
      · go_ret
        exact ⟨rfl, RStp.of (HF1.out (by omega)).2 (HF1.out (by omega)).1 (by repeat' (first | (with_reducible exact Below.refl _ _) | (with_reducible assumption) | (with_reducible refine below_drewN ?_ _) | (with_reducible refine below_more _ _ _ ?_ ?_) | (with_reducible refine Below.alloc ?_ ?_ _) | (with_reducible refine Below.drew ?_) | (with_reducible refine Below.setCell ?_ ?_ _) | go_size))⟩

section
variable {w : World} {R : RLay} {ids : Nat} {M : List Sh} {rw : Int → Int → Int} {put c : Int} {k i : Nat} {m : Sh} (h1 : RefAt w R (mSlots rw 0 M) put) (h2 : Sim ids M rw put) (hpc : put ≤ c) (hm : M[k]? = some m)
include h1 h2 hpc hm
theorem fin_issue {x : Ix} {fs : List Int} (hx : m.all[i]? = some x) (hf : m.free = (i : Int) :: fs) (hb : x.gen < x.bound) :
    RStp w R ids c ((w.setCell ⟨R.b, R.off + (k * ids + i) * 6 + 4, none⟩ (.int .i64 (-1))).setCell ⟨R.b, R.off + (k * ids + i) * 6 + 5, none⟩ (.bool true)) (setFr (setIx M k i { x with alive := true }) k fs) := by
  have hs := mSlots_get (rw := rw) M 0 k i m _ h2.len hm hx
  have hkl := (List.getElem?_eq_some_iff.1 hm).1
  rw [setIx_nat _ hm, setFr_nat (m := { m with all := m.all.set i { x with alive := true } }) _ (List.getElem?_set_self hkl), List.set_set]
  refine ⟨⟨_, put, ?_, h2.issue hm hf hx hb, hpc⟩, ((Chg.refl _ _).put1 _ _).put1 _ _⟩
  refine RefAt.turn h2 hm hx (x' := { x with alive := true }) rfl (fun a b h => upd_ne _ _ _ _ (by omega)) fun s es => ?_
  have h3 := h1.put1 hs 4 (.int .i64 (-1)) (s' := ⟨0 + k, i, x.gen, x.bound, -1, x.alive⟩) (by omega) (by simp [Slot.cells])
  have h4 := h3.put1 (get_set hs) 5 (.bool true) (s' := s) (by omega) (by subst es; simp [Slot.cells, upd_same])
  rw [List.set_set] at h4
  exact h4
theorem fin_take {x : Ix} {g : Int} (hx : m.all[i]? = some x) (hg : 0 ≤ g) (hb : g < x.bound) :
    RStp w R ids c (((w.setCell ⟨R.b, R.off + (k * ids + i) * 6 + 4, none⟩ (.int .i64 (-1))).setCell ⟨R.b, R.off + (k * ids + i) * 6 + 2, none⟩ (.int .i64 g)).setCell ⟨R.b, R.off + (k * ids + i) * 6 + 5, none⟩ (.bool true)) (setFr (setIx M k i ⟨g, x.bound, true⟩) k (m.free.filter fun j => !(j == (i : Int)))) := by
  have hs := mSlots_get (rw := rw) M 0 k i m _ h2.len hm hx
  have hkl := (List.getElem?_eq_some_iff.1 hm).1
  rw [setIx_nat _ hm, setFr_nat (m := { m with all := m.all.set i ⟨g, x.bound, true⟩ }) _ (List.getElem?_set_self hkl), List.set_set]
  refine ⟨⟨_, put, ?_, h2.take hm hx hg hb, hpc⟩, (((Chg.refl _ _).put1 _ _).put1 _ _).put1 _ _⟩
  refine RefAt.turn h2 hm hx (x' := ⟨g, x.bound, true⟩) rfl (fun a b h => upd_ne _ _ _ _ (by omega)) fun s es => ?_
  have h3 := h1.put1 hs 4 (.int .i64 (-1)) (s' := ⟨0 + k, i, x.gen, x.bound, -1, x.alive⟩) (by omega) (by simp [Slot.cells])
  have h4 := h3.put1 (get_set hs) 2 (.int .i64 g) (s' := ⟨0 + k, i, g, x.bound, -1, x.alive⟩) (by omega) (by simp [Slot.cells])
  rw [List.set_set] at h4
  have h5 := h4.put1 (get_set hs) 5 (.bool true) (s' := s) (by omega) (by subst es; simp [Slot.cells, upd_same])
  rw [List.set_set] at h5
  exact h5
theorem fin_free {x : Ix} (hx : m.all[i]? = some x) (ha : x.alive = true) (hlt : x.gen + 1 < 1048576) :
    RStp w R ids (c + 1) ((((w.setCell ⟨R.b, R.off + (k * ids + i) * 6 + 5, none⟩ (.bool false)).setCell ⟨R.b, R.off + (k * ids + i) * 6 + 2, none⟩ (.int .i64 (x.gen + 1))).setCell ⟨R.b, R.off + (k * ids + i) * 6 + 4, none⟩ (.int .i64 put)).setCell ⟨R.p, 1, none⟩ (.int .i64 (put + 1))) (addFr (setIx M k i ⟨x.gen + 1, x.bound, false⟩) k i) := by
  have hs := mSlots_get (rw := rw) M 0 k i m _ h2.len hm hx
  have hkl := (List.getElem?_eq_some_iff.1 hm).1
  have e : addFr (setIx M k i ⟨x.gen + 1, x.bound, false⟩) k i = M.set k ⟨m.all.set i ⟨x.gen + 1, x.bound, false⟩, m.free ++ [(i : Int)]⟩ := by
    rw [setIx_nat _ hm, addFr]
    simp [shOf, List.getElem?_set_self hkl]
  rw [e]
  refine ⟨⟨_, put + 1, ?_, h2.free hm hx ha hlt, by omega⟩, ((((Chg.refl _ _).put1 _ _).put1 _ _).put1 _ _).put0 _ _⟩
  refine RefAt.turn h2 hm hx (x' := ⟨x.gen + 1, x.bound, false⟩) rfl (fun a b h => upd_ne _ _ _ _ (by omega)) fun s es => ?_
  have h3 := h1.put1 hs 5 (.bool false) (s' := ⟨0 + k, i, x.gen, x.bound, rw (0 + k) i, false⟩) (by omega) (by simp [Slot.cells])
  have h4 := h3.put1 (get_set hs) 2 (.int .i64 (x.gen + 1)) (s' := ⟨0 + k, i, x.gen + 1, x.bound, rw (0 + k) i, false⟩) (by omega) (by simp [Slot.cells])
  rw [List.set_set] at h4
  have h5 := h4.put1 (get_set hs) 4 (.int .i64 put) (s' := s) (by omega) (by subst es; simp [Slot.cells, upd_same])
  rw [List.set_set] at h5
  exact h5.setPut (put + 1)
theorem fin_worn {x : Ix} (hx : m.all[i]? = some x) (ha : x.alive = true) (hlt : ¬ x.gen + 1 < 1048576) :
    RStp w R ids c ((w.setCell ⟨R.b, R.off + (k * ids + i) * 6 + 5, none⟩ (.bool false)).setCell ⟨R.b, R.off + (k * ids + i) * 6 + 2, none⟩ (.int .i64 (x.gen + 1))) (setIx M k i ⟨x.gen + 1, x.bound, false⟩) := by
  have hs := mSlots_get (rw := rw) M 0 k i m _ h2.len hm hx
  rw [setIx_nat _ hm]
  refine ⟨⟨rw, put, ?_, h2.worn hm hx ha hlt, hpc⟩, ((Chg.refl _ _).put1 _ _).put1 _ _⟩
  refine RefAt.turn h2 hm hx (x' := ⟨x.gen + 1, x.bound, false⟩) rfl (fun _ _ _ => rfl) fun s es => ?_
  have h3 := h1.put1 hs 5 (.bool false) (s' := ⟨0 + k, i, x.gen, x.bound, rw (0 + k) i, false⟩) (by omega) (by simp [Slot.cells])
  have h4 := h3.put1 (get_set hs) 2 (.int .i64 (x.gen + 1)) (s' := s) (by omega) (by subst es; simp [Slot.cells])
  rw [List.set_set] at h4
  exact h4
end

set_option maxRecDepth 100000 in
set_option maxHeartbeats 4000000 in
theorem rissue_any (w : World) (R : RLay) (ids : Nat) {c : Int} (M : List Sh) (h : RPool w R ids c M) (k : Int) : Calls Try.prog 69 #[.pointer (some ⟨R.p, 0, none⟩), .int .i64 k] w fun e w' =>
    e = .returned (.tuple #[.agg #[.int .i64 (issueF M k).1.1, .int .i64 (issueF M k).1.2.1, .int .i64 (issueF M k).1.2.2], .int .i64 (issueF M k).2.1]) ∧ RStp w R ids c w' (issueF M k).2.2 := by
  have HE := Lib.hid fun w' (hb : Below w.heap.size w w') => RStp.same h hb
  have HH := Lib.hid fun w' (hb : Below w.heap.size w w') => rhead_any w' R ids M (h.grown hb) k
  have bad : ∀ (er : Int), er ≠ 0 → headF M k = (0, false, er) → Calls Try.prog 69 #[.pointer (some ⟨R.p, 0, none⟩), .int .i64 k] w fun e w' => e = .returned (.tuple #[.agg #[.int .i64 0, .int .i64 0, .int .i64 0], .int .i64 er]) ∧ RStp w R ids c w' M := by
    intro er hc hh
    have hh1 := Lib.hid hh
    have hcc : (er != 0) = true := by simpa using hc
    clear hh hc
    go_enter Try.func69, Try.ntmps69
    go_wp2_with fail
    refine (HH.out _ (by repeat' (first | (with_reducible exact Below.refl _ _) | (with_reducible assumption) | (with_reducible refine below_drewN ?_ _) | (with_reducible refine below_more _ _ _ ?_ ?_) | (with_reducible refine Below.alloc ?_ ?_ _) | (with_reducible refine Below.drew ?_) | (with_reducible refine Below.setCell ?_ ?_ _) | go_size))).mono ?_
    rw [hh1.out]
    rintro e w' ⟨rfl, hb⟩
    obtain ⟨d, os, rfl⟩ := more_of hb
    clear hb
    go_wp2_with fail
    exact bodyPost_ret (v := .tuple #[.agg #[.int .i64 0, .int .i64 0, .int .i64 0], .int .i64 er]) (by simp [results, Try.results69, go_sem]) rfl ⟨rfl, HE.out _ (by repeat' (first | (with_reducible exact Below.refl _ _) | (with_reducible assumption) | (with_reducible refine below_drewN ?_ _) | (with_reducible refine below_more _ _ _ ?_ ?_) | (with_reducible refine Below.alloc ?_ ?_ _) | (with_reducible refine Below.drew ?_) | (with_reducible refine Below.setCell ?_ ?_ _) | go_size))⟩
  cases hm : shOf M k with
  | none => simp only [issueF, hm]; exact bad 1 (by omega) (by simp [headF, hm])
  | some m =>
    cases hf : m.free with
    | nil => simp only [issueF, hm, hf]; exact bad 8 (by omega) (by simp [headF, hm, hf])
    | cons f fs =>
      have hm' := hm
      unfold shOf at hm'
      split at hm'
      case isFalse => cases hm'
      rename_i hk0
      obtain ⟨k, rfl⟩ := Int.eq_ofNat_of_zero_le hk0
      rw [Int.toNat_natCast] at hm'
      obtain ⟨rw, put, h1, h2, hpc⟩ := h
      have hal := h2.len m (List.mem_of_getElem? hm')
      obtain ⟨h0, h1'⟩ := (h2.good m (List.mem_of_getElem? hm')).inv.fr f (by rw [hf]; simp)
      obtain ⟨i, rfl⟩ := Int.eq_ofNat_of_zero_le h0
      obtain ⟨x, hx⟩ : ∃ x, m.all[i]? = some x := ⟨_, List.getElem?_eq_getElem (by omega)⟩
      have hh : headF M k = ((i : Int), decide (x.gen < x.bound), 0) := by simp [headF, hm, hf, hx]
      have hh1 := Lib.hid hh
      simp only [issueF, hm, hf, Int.toNat_natCast, hx]
      clear bad
      by_cases hg : x.gen < x.bound
      · rw [if_pos hg]
        have HF := Lib.hid fun W (hW : Below w.heap.size w W) => rfirst_cons W R ids M rw put (h1.grown hW) h2 k i fs m hm' hf
        have HI := Lib.hid fun W (hW : Below w.heap.size w W) => fin_issue (h1.grown hW) h2 hpc hm' hx hf hg
        have hm := hm'
        have hs := mSlots_get (rw := rw) M 0 k i m x h2.len hm hx
        obtain ⟨s0, s1, s2, s3, s4, s5⟩ := h1.slot hs
        obtain ⟨c0, c1, fp, fb, b0, b1⟩ := h1.tops
        obtain ⟨z1, z2⟩ := h1.bnd
        obtain ⟨y0, y1, y2, y3⟩ := lts b0
        obtain ⟨x0, x1, x2, x3⟩ := lts b1
        have b00 : ∀ n, R.p < w.heap.size + n := fun n => by omega
        have b11 : ∀ n, R.b < w.heap.size + n := fun n => by omega
        have hn := (List.getElem?_eq_some_iff.1 hs).1
        have hnI : 0 ≤ ((k * ids + i : Nat) : Int) := Int.natCast_nonneg _
        have hnL : ((k * ids + i : Nat) : Int) < ((mSlots rw 0 M).length : Int) := by omega
        unfold maxLen at z2
        have hdg : decide (x.gen < x.bound) = true := by simpa using hg
        rw [hdg] at hh1
        clear hs hm hm' hf h1 h2 hal hk0 hx h0 h1' hh hg hdg
        generalize (mSlots rw 0 M).length = len at *
        generalize k * ids + i = n at *
        obtain ⟨gen, bound, alive⟩ := x
        simp only at s0 s1 s2 s3 s4 s5
        go_enter Try.func69, Try.ntmps69
        go_wp2_with fail
        refine (HH.out _ (by repeat' (first | (with_reducible exact Below.refl _ _) | (with_reducible assumption) | (with_reducible refine below_drewN ?_ _) | (with_reducible refine below_more _ _ _ ?_ ?_) | (with_reducible refine Below.alloc ?_ ?_ _) | (with_reducible refine Below.drew ?_) | (with_reducible refine Below.setCell ?_ ?_ _) | go_size))).mono ?_
        rw [hh1.out]
        rintro e w' ⟨rfl, hb⟩
        obtain ⟨d, os, rfl⟩ := more_of hb
        clear hb
        go_wp2_with fail
        refine (HF.out _ (by repeat' (first | (with_reducible exact Below.refl _ _) | (with_reducible assumption) | (with_reducible refine below_drewN ?_ _) | (with_reducible refine below_more _ _ _ ?_ ?_) | (with_reducible refine Below.alloc ?_ ?_ _) | (with_reducible refine Below.drew ?_) | (with_reducible refine Below.setCell ?_ ?_ _) | go_size))).mono ?_
        rintro e w' ⟨rfl, hb⟩
        obtain ⟨d2, os2, rfl⟩ := more_of hb
        clear hb
        rw [more_more]
        generalize os ++ os2 = os3
        go_wp2_with fail
        refine wp_region_still_tail 18 (by kernel_rfl) (by kernel_rfl) ?_
        simp only [List.take_succ_cons, List.take_zero, List.drop_succ_cons, List.drop_zero]
        repeat (first | still_step)
        refine wpStill_nil ?_
        go_wp2_with fail
        exact bodyPost_ret (v := .tuple #[.agg #[.int .i64 k, .int .i64 i, .int .i64 gen], .int .i64 0]) (by simp [results, Try.results69, go_sem]) rfl ⟨rfl, RStp.of (HI.out _ (Below.refl _ _)).2 (HI.out _ (Below.refl _ _)).1 (by repeat' (first | (with_reducible exact Below.refl _ _) | (with_reducible assumption) | (with_reducible refine below_drewN ?_ _) | (with_reducible refine below_more _ _ _ ?_ ?_) | (with_reducible refine Below.alloc ?_ ?_ _) | (with_reducible refine Below.drew ?_) | (with_reducible refine Below.setCell ?_ ?_ _) | go_size))⟩
      · rw [if_neg hg]
        have hdg : decide (x.gen < x.bound) = false := by simpa using hg
        rw [hdg] at hh1
        clear h1 h2 hm hm' hf hx hh hg hdg h0 h1' hal hk0
        go_enter Try.func69, Try.ntmps69
        go_wp2_with fail
        refine (HH.out _ (by repeat' (first | (with_reducible exact Below.refl _ _) | (with_reducible assumption) | (with_reducible refine below_drewN ?_ _) | (with_reducible refine below_more _ _ _ ?_ ?_) | (with_reducible refine Below.alloc ?_ ?_ _) | (with_reducible refine Below.drew ?_) | (with_reducible refine Below.setCell ?_ ?_ _) | go_size))).mono ?_
        rw [hh1.out]
        rintro e w' ⟨rfl, hb⟩
        obtain ⟨d, os, rfl⟩ := more_of hb
        clear hb
        go_wp2_with fail
        exact bodyPost_ret (v := .tuple #[.agg #[.int .i64 0, .int .i64 0, .int .i64 0], .int .i64 14]) (by simp [results, Try.results69, go_sem]) rfl ⟨rfl, HE.out _ (by repeat' (first | (with_reducible exact Below.refl _ _) | (with_reducible assumption) | (with_reducible refine below_drewN ?_ _) | (with_reducible refine below_more _ _ _ ?_ ?_) | (with_reducible refine Below.alloc ?_ ?_ _) | (with_reducible refine Below.drew ?_) | (with_reducible refine Below.setCell ?_ ?_ _) | go_size))⟩
end Go.Proofs.Ytjkbenghgbigdaa
