/-
  The reference's pool of names: Of, Alive, Head as the program's. No condition.
-/
import Derived.Test.YtjkbenghgbigdaaRefB
namespace Go.Proofs.Ytjkbenghgbigdaa
open Go.RowKit

/-- The reference's pool in memory, as these shards. -/
def RPool (w : World) (R : RLay) (ids : Nat) (c : Int) (M : List Sh) : Prop := ∃ (rw : Int → Int → Int) (put : Int), RefAt w R (mSlots rw 0 M) put ∧ Sim ids M rw put ∧ put ≤ c
theorem RPool.grown {w w' : World} {R : RLay} {ids : Nat} {c : Int} {M : List Sh} (h : RPool w R ids c M) (hb : Below w.heap.size w w') : RPool w' R ids c M := by
  obtain ⟨rw, put, h1, h2, h3⟩ := h; exact ⟨rw, put, h1.grown hb, h2, h3⟩
theorem RPool.chg {w w' : World} {R : RLay} {ids : Nat} {c : Int} {M : List Sh} (h : RPool w R ids c M) {F : Nat → Prop} (hc : Chg w w' F) (hF : ∀ b, R.own b → ¬ F b) : RPool w' R ids c M := by
  obtain ⟨rw, put, h1, h2, h3⟩ := h; exact ⟨rw, put, h1.chg hc hF, h2, h3⟩
theorem RPool.lt {w : World} {R : RLay} {ids : Nat} {c : Int} {M : List Sh} (h : RPool w R ids c M) {x : Nat} (hx : R.own x) : x < w.heap.size := by
  obtain ⟨rw, put, h1, h2, h3⟩ := h; exact h1.lt hx

theorem Sim.at {ids : Nat} {M : List Sh} {rw : Int → Int → Int} {put k i r : Int} (h : Sim ids M rw put) (ha : AtR (mSlots rw 0 M) k i r) :
    (ixOf M k i = none ∧ r = -1) ∨ ∃ (k' i' : Nat) (m : Sh) (x : Ix), k = k' ∧ i = i' ∧ M[k']? = some m ∧ m.all[i']? = some x ∧ i' < ids ∧ r = ((k' * ids + i' : Nat) : Int) ∧ ixOf M k i = some x := by
  rcases ha with ⟨rfl, hn⟩ | ⟨n, s, rfl, hs, hk, hi⟩
  · left
    refine ⟨?_, rfl⟩
    cases hx : ixOf M k i with
    | none => rfl
    | some x =>
      unfold ixOf at hx
      obtain ⟨m, hm, hx'⟩ := Option.bind_eq_some_iff.1 hx
      unfold shOf at hm
      split at hm
      · rename_i hk0
        split at hx'
        · rename_i hi0
          have := mSlots_get (rw := rw) M 0 k.toNat i.toNat m x h.len hm hx'
          exact absurd ⟨by simp; omega, by simp; omega⟩ (hn _ _ this)
        · cases hx'
      · cases hm
  · right
    obtain ⟨a, b, m, x, rfl, hb, hm, hx, rfl⟩ := mSlots_split h.len hs
    simp only at hk hi
    subst hk hi
    exact ⟨a, b, m, x, rfl, rfl, hm, hx, hb, rfl, by simp [ixOf, shOf, hm, hx]⟩

theorem Sim.first {ids : Nat} {M : List Sh} {rw : Int → Int → Int} {put k r : Int} (h : Sim ids M rw put) (ha : FirstP (mSlots rw 0 M) k (mSlots rw 0 M).length r) {m : Sh} (hm : shOf M k = some m) :
    (m.free = [] ∧ r = -1) ∨ ∃ (k' f : Nat) (fs : List Int) (x : Ix), k = k' ∧ M[k']? = some m ∧ m.free = (f : Int) :: fs ∧ m.all[f]? = some x ∧ f < ids ∧ r = ((k' * ids + f : Nat) : Int) := by
  unfold shOf at hm
  split at hm
  case isFalse => cases hm
  rename_i hk0
  obtain ⟨k, rfl⟩ := Int.eq_ofNat_of_zero_le hk0
  rw [Int.toNat_natCast] at hm
  have hg := h.good m (List.mem_of_getElem? hm)
  have hal := h.len m (List.mem_of_getElem? hm)
  have hgt : ∀ f ∈ m.free, ∃ (i : Nat) (x : Ix), f = i ∧ i < ids ∧ m.all[i]? = some x ∧ 0 ≤ rw k i := by
    intro f hf
    obtain ⟨h0, h1⟩ := hg.inv.fr f hf
    obtain ⟨i, rfl⟩ := Int.eq_ofNat_of_zero_le h0
    have hi : i < m.all.length := by omega
    exact ⟨i, _, rfl, by omega, List.getElem?_eq_getElem hi, (h.row k m hm i (by omega)).1.2 hf⟩
  cases hf : m.free with
  | nil =>
    left
    refine ⟨rfl, ?_⟩
    rcases ha with ⟨rfl, _⟩ | ⟨j, s, rfl, hj, hs, hk, hr, _⟩
    · rfl
    · obtain ⟨a, b, m2, x, rfl, hb, hm2, hx, rfl⟩ := mSlots_split h.len hs
      simp only at hk hr
      obtain rfl : a = k := by omega
      rw [hm] at hm2
      obtain rfl := Option.some.inj hm2
      have := (h.row a m hm b hb).1.1 hr
      rw [hf] at this
      cases this
  | cons f fs =>
    right
    obtain ⟨i, x, rfl, hi, hx, hr0⟩ := hgt f (by rw [hf]; simp)
    refine ⟨k, i, fs, x, rfl, hm, rfl, hx, hi, ?_⟩
    have hsl := mSlots_get (rw := rw) M 0 k i m x h.len hm hx
    have hlt := (List.getElem?_eq_some_iff.1 hsl).1
    rcases ha with ⟨rfl, hn⟩ | ⟨j, s, rfl, hj, hs, hk, hr, hmin⟩
    · have := hn _ _ hlt hsl (by simp)
      simp at this
      omega
    · obtain ⟨a, b, m2, y, rfl, hb, hm2, hy, rfl⟩ := mSlots_split h.len hs
      simp only at hk hr hmin
      obtain rfl : a = k := by omega
      rw [hm] at hm2
      obtain rfl := Option.some.inj hm2
      have hbf := (h.row a m hm b hb).1.1 hr
      have hle := hmin _ _ hlt hsl (by simp) (by simpa using hr0)
      simp at hle
      rw [hf] at hbf
      rcases List.mem_cons.1 hbf with e | hbs
      · obtain rfl : b = i := by omega
        rfl
      · have ho := h.ord a m hm
        rw [hf, List.map_cons, List.pairwise_cons] at ho
        have := ho.1 _ (List.mem_map_of_mem hbs)
        omega

theorem Sim.none {ids : Nat} {M : List Sh} {rw : Int → Int → Int} {put k : Int} (h : Sim ids M rw put) : ixOf M k 0 = none ↔ shOf M k = none := by
  unfold ixOf
  cases hm : shOf M k with
  | none => simp
  | some m =>
    have hal : m.all.length = ids := by
      unfold shOf at hm
      split at hm
      · exact h.len m (List.mem_of_getElem? hm)
      · cases hm
    have := h.pos.1
    simp
    intro e
    rw [e] at hal
    simp at hal
    omega

def genF (M : List Sh) (k i : Int) : Int := match ixOf M k i with | none => 0 | some x => x.gen
theorem ixOf_nat' {M : List Sh} {k i : Int} {x : Ix} (hx : ixOf M k i = some x) : ∃ (k' i' : Nat) (m : Sh), k = k' ∧ i = i' ∧ M[k']? = some m ∧ m.all[i']? = some x := by
  unfold ixOf at hx
  obtain ⟨m, hm, hy⟩ := Option.bind_eq_some_iff.1 hx
  unfold shOf at hm
  split at hm
  · split at hy
    · exact ⟨k.toNat, i.toNat, m, by omega, by omega, hm, hy⟩
    · cases hy
  · cases hm

section
variable (w : World) (R : RLay) (ids : Nat) (M : List Sh) (rw : Int → Int → Int) (put : Int) (h : RefAt w R (mSlots rw 0 M) put) (hS : Sim ids M rw put)
include h hS
theorem rat_none (k i : Int) (hx : ixOf M k i = none) : Calls Try.prog 85 #[.pointer (some ⟨R.p, 0, none⟩), .int .i64 k, .int .i64 i] w fun e w' => e = .returned (.int .i64 (-1)) ∧ w = w' := by
  refine (rat_any w R _ put k i h).mono ?_
  rintro e w' ⟨⟨r, rfl, hr⟩, rfl⟩
  rcases hS.at hr with ⟨_, rfl⟩ | ⟨_, _, _, _, _, _, _, _, _, _, h'⟩
  · exact ⟨rfl, rfl⟩
  · rw [hx] at h'; cases h'
theorem rat_some (k i : Nat) (m : Sh) (x : Ix) (hm : M[k]? = some m) (hx : m.all[i]? = some x) : Calls Try.prog 85 #[.pointer (some ⟨R.p, 0, none⟩), .int .i64 k, .int .i64 i] w fun e w' => e = .returned (.int .i64 ((k * ids + i : Nat) : Int)) ∧ w = w' := by
  refine (rat_any w R _ put k i h).mono ?_
  rintro e w' ⟨⟨r, rfl, hr⟩, rfl⟩
  rcases hS.at hr with ⟨h', _⟩ | ⟨a, b, _, _, h1, h2, _, _, _, rfl, _⟩
  · simp [ixOf, shOf, hm, hx] at h'
  · obtain rfl : k = a := by omega
    obtain rfl : i = b := by omega
    exact ⟨rfl, rfl⟩
theorem rfirst_nil (k : Int) (m : Sh) (hm : shOf M k = some m) (hf : m.free = []) : Calls Try.prog 86 #[.pointer (some ⟨R.p, 0, none⟩), .int .i64 k] w fun e w' => e = .returned (.int .i64 (-1)) ∧ Below w.heap.size w w' := by
  refine (rfirst_any w R _ put k h).mono ?_
  rintro e w' ⟨⟨r, rfl, hr⟩, hb⟩
  rcases hS.first hr hm with ⟨_, rfl⟩ | ⟨_, _, _, _, _, _, h', _⟩
  · exact ⟨rfl, hb⟩
  · rw [hf] at h'; cases h'
theorem rfirst_cons (k f : Nat) (fs : List Int) (m : Sh) (hm : M[k]? = some m) (hf : m.free = (f : Int) :: fs) : Calls Try.prog 86 #[.pointer (some ⟨R.p, 0, none⟩), .int .i64 k] w fun e w' => e = .returned (.int .i64 ((k * ids + f : Nat) : Int)) ∧ Below w.heap.size w w' := by
  refine (rfirst_any w R _ put k h).mono ?_
  rintro e w' ⟨⟨r, rfl, hr⟩, hb⟩
  rcases hS.first hr (by simp [shOf, hm] : shOf M (k : Int) = some m) with ⟨h', _⟩ | ⟨a, b, _, _, h1, _, h2, _, _, rfl⟩
  · rw [hf] at h'; cases h'
  · obtain rfl : k = a := by omega
    rw [hf] at h2
    obtain rfl : f = b := by have := (List.cons.inj h2).1; omega
    exact ⟨rfl, hb⟩
end


set_option maxRecDepth 100000 in
set_option maxHeartbeats 1000000 in
theorem rof_any (w : World) (R : RLay) (ids : Nat) {c : Int} (M : List Sh) (h : RPool w R ids c M) (k i : Int) : Calls Try.prog 77 #[.pointer (some ⟨R.p, 0, none⟩), .int .i64 k, .int .i64 i] w fun e w' => e = .returned (.int .i64 (genF M k i)) ∧ Below w.heap.size w w' := by
  obtain ⟨rw, put, h1, h2, hpc⟩ := h
  cases hix : ixOf M k i with
  | none =>
    simp only [genF, hix]
    have HA := Lib.hid (rat_none w R ids M rw put h1 h2 k i hix)
    clear hix h1 h2
    go_enter Try.func77, Try.ntmps77
    go_wp2_with (go_at_call 85; refine HA.out.mono ?_; rintro e w' ⟨rfl, rfl⟩)
    go_ret
    exact ⟨rfl, (by repeat' (first | (with_reducible exact Below.refl _ _) | (with_reducible assumption) | (with_reducible refine below_drewN ?_ _) | (with_reducible refine below_more _ _ _ ?_ ?_) | (with_reducible refine Below.alloc ?_ ?_ _) | (with_reducible refine Below.drew ?_) | (with_reducible refine Below.setCell ?_ ?_ _) | go_size))⟩
  | some x =>
    simp only [genF, hix]
    obtain ⟨k, i, m, rfl, rfl, hm, hx⟩ := ixOf_nat' hix
    have HA := Lib.hid (rat_some w R ids M rw put h1 h2 k i m x hm hx)
    have hs := mSlots_get (rw := rw) M 0 k i m x h2.len hm hx
    obtain ⟨s0, s1, s2, s3, s4, s5⟩ := h1.slot hs
    obtain ⟨c0, c1, fp, fb, b0, b1⟩ := h1.tops
    obtain ⟨z1, z2⟩ := h1.bnd
    obtain ⟨y0, y1, y2, y3⟩ := lts b0
    obtain ⟨x0, x1, x2, x3⟩ := lts b1
    have b00 : ∀ n, R.p < w.heap.size + n := fun n => by omega
    have b11 : ∀ n, R.b < w.heap.size + n := fun n => by omega
    have hn := (List.getElem?_eq_some_iff.1 hs).1
    have hnI : 0 ≤ ((k * ids + i : Nat) : Int) := Int.natCast_nonneg _
    have hnL : ((k * ids + i : Nat) : Int) < ((mSlots rw 0 M).length : Int) := by omega
    unfold maxLen at z2
    generalize (mSlots rw 0 M).length = len at *
    generalize k * ids + i = n at *
    clear hs hm hx hix h1 h2
    simp only at s2
    go_enter Try.func77, Try.ntmps77
    go_wp2_with (go_at_call 85; refine HA.out.mono ?_; rintro e w' ⟨rfl, rfl⟩)
    go_ret
    exact ⟨rfl, (by repeat' (first | (with_reducible exact Below.refl _ _) | (with_reducible assumption) | (with_reducible refine below_drewN ?_ _) | (with_reducible refine below_more _ _ _ ?_ ?_) | (with_reducible refine Below.alloc ?_ ?_ _) | (with_reducible refine Below.drew ?_) | (with_reducible refine Below.setCell ?_ ?_ _) | go_size))⟩

set_option maxRecDepth 100000 in
set_option maxHeartbeats 1000000 in
theorem ralive_any (w : World) (R : RLay) (ids : Nat) {c : Int} (M : List Sh) (h : RPool w R ids c M) (s i g : Int) : Calls Try.prog 76 #[.pointer (some ⟨R.p, 0, none⟩), .agg #[.int .i64 s, .int .i64 i, .int .i64 g]] w fun e w' => e = .returned (.bool (aliveF M s i g)) ∧ Below w.heap.size w w' := by
  have h' := h.grown ((Below.refl _ _).alloc (Nat.le_refl _) (.cells #[.int .i64 s, .int .i64 i, .int .i64 g] 30))
  obtain ⟨rw, put, h1, h2, hpc⟩ := h
  obtain ⟨rw', put', h1', h2', _⟩ := h'
  cases hix : ixOf M s i with
  | none =>
    simp only [aliveF, hix]
    have HA := Lib.hid (rat_none _ R ids M rw' put' h1' h2' s i hix)
    clear hix h1 h2 h1' h2'
    go_enter Try.func76, Try.ntmps76
    go_wp2_with (go_at_call 85; refine HA.out.mono ?_; rintro e w' ⟨rfl, rfl⟩)
    refine wp_region_more (by kernel_rfl) (by kernel_rfl) ?_
    repeat (go_big_quiet_step (fail))
    refine wpQuiet_nil ?_
    rintro _ ⟨pn, rfl⟩
    go_wp2_with fail
    go_ret
    exact ⟨rfl, (by repeat' (first | (with_reducible exact Below.refl _ _) | (with_reducible assumption) | (with_reducible refine below_drewN ?_ _) | (with_reducible refine below_more _ _ _ ?_ ?_) | (with_reducible refine Below.alloc ?_ ?_ _) | (with_reducible refine Below.drew ?_) | (with_reducible refine Below.setCell ?_ ?_ _) | go_size))⟩
  | some x =>
    simp only [aliveF, hix]
    obtain ⟨k, i, m, rfl, rfl, hm, hx⟩ := ixOf_nat' hix
    have HA := Lib.hid (rat_some _ R ids M rw' put' h1' h2' k i m x hm hx)
    have hs := mSlots_get (rw := rw) M 0 k i m x h2.len hm hx
    obtain ⟨s0, s1, s2, s3, s4, s5⟩ := h1.slot hs
    obtain ⟨c0, c1, fp, fb, b0, b1⟩ := h1.tops
    obtain ⟨z1, z2⟩ := h1.bnd
    obtain ⟨y0, y1, y2, y3⟩ := lts b0
    obtain ⟨x0, x1, x2, x3⟩ := lts b1
    have b00 : ∀ n, R.p < w.heap.size + n := fun n => by omega
    have b11 : ∀ n, R.b < w.heap.size + n := fun n => by omega
    have hn := (List.getElem?_eq_some_iff.1 hs).1
    have hnI : 0 ≤ ((k * ids + i : Nat) : Int) := Int.natCast_nonneg _
    have hnL : ((k * ids + i : Nat) : Int) < ((mSlots rw 0 M).length : Int) := by omega
    unfold maxLen at z2
    generalize (mSlots rw 0 M).length = len at *
    generalize k * ids + i = n at *
    clear hs hm hx hix h1 h2 h1' h2'
    simp only at s2 s5
    obtain ⟨gen, bound, alive⟩ := x
    simp only at s2 s5
    have hdn : decide (0 ≤ (n : Int)) = true := by simp
    cases alive
    all_goals
      go_enter Try.func76, Try.ntmps76
      go_wp2_with (go_at_call 85; refine HA.out.mono ?_; rintro e w' ⟨rfl, rfl⟩)
      refine wp_region_more (by kernel_rfl) (by kernel_rfl) ?_
      repeat (go_big_quiet_step (fail))
      refine wpQuiet_nil ?_
      rintro _ ⟨pn, rfl⟩
      go_wp2_with fail
      go_ret
      exact ⟨rfl, (by repeat' (first | (with_reducible exact Below.refl _ _) | (with_reducible assumption) | (with_reducible refine below_drewN ?_ _) | (with_reducible refine below_more _ _ _ ?_ ?_) | (with_reducible refine Below.alloc ?_ ?_ _) | (with_reducible refine Below.drew ?_) | (with_reducible refine Below.setCell ?_ ?_ _) | go_size))⟩

set_option maxRecDepth 100000 in
set_option maxHeartbeats 1000000 in
theorem rhead_any (w : World) (R : RLay) (ids : Nat) {c : Int} (M : List Sh) (h : RPool w R ids c M) (k : Int) : Calls Try.prog 73 #[.pointer (some ⟨R.p, 0, none⟩), .int .i64 k] w fun e w' =>
    e = .returned (.tuple #[.int .i64 (headF M k).1, .bool (headF M k).2.1, .int .i64 (headF M k).2.2]) ∧ Below w.heap.size w w' := by
  obtain ⟨rw, put, h1, h2, hpc⟩ := h
  cases hm : shOf M k with
  | none =>
    simp only [headF, hm]
    have HA := Lib.hid (rat_none w R ids M rw put h1 h2 k 0 (h2.none.2 hm))
    clear hm h1 h2
    go_enter Try.func73, Try.ntmps73
    go_wp2_with (go_at_call 85; refine HA.out.mono ?_; rintro e w' ⟨rfl, rfl⟩)
    go_ret3
    exact ⟨rfl, (by repeat' (first | (with_reducible exact Below.refl _ _) | (with_reducible assumption) | (with_reducible refine below_drewN ?_ _) | (with_reducible refine below_more _ _ _ ?_ ?_) | (with_reducible refine Below.alloc ?_ ?_ _) | (with_reducible refine Below.drew ?_) | (with_reducible refine Below.setCell ?_ ?_ _) | go_size))⟩
  | some m =>
    have hm' := hm
    unfold shOf at hm'
    split at hm'
    case isFalse => cases hm'
    rename_i hk0
    obtain ⟨k, rfl⟩ := Int.eq_ofNat_of_zero_le hk0
    rw [Int.toNat_natCast] at hm'
    have hal := h2.len m (List.mem_of_getElem? hm')
    have hx0 : m.all[0]? = some (m.all[0]'(by have := h2.pos.1; omega)) := List.getElem?_eq_getElem _
    have HA := Lib.hid (rat_some w R ids M rw put h1 h2 k 0 m _ hm' hx0)
    clear hx0
    cases hf : m.free with
    | nil =>
      simp only [headF, hm, hf]
      have HF := Lib.hid (rfirst_nil w R ids M rw put h1 h2 k m hm hf)
      clear hm hm' hf h1 h2 hal hk0
      simp only [Nat.add_zero] at HA
      generalize k * ids = kn at *
      have hnI : 0 ≤ (kn : Int) := Int.natCast_nonneg _
      go_enter Try.func73, Try.ntmps73
      go_wp2_with (first | (go_at_call 85; refine HA.out.mono ?_; rintro e w' ⟨rfl, rfl⟩) | (go_at_call 86; refine (HF.out).mono ?_; rintro e w' ⟨rfl, hb⟩; obtain ⟨d, os, rfl⟩ := more_of hb; clear hb))
      go_ret3
      exact ⟨rfl, (by repeat' (first | (with_reducible exact Below.refl _ _) | (with_reducible assumption) | (with_reducible refine below_drewN ?_ _) | (with_reducible refine below_more _ _ _ ?_ ?_) | (with_reducible refine Below.alloc ?_ ?_ _) | (with_reducible refine Below.drew ?_) | (with_reducible refine Below.setCell ?_ ?_ _) | go_size))⟩
    | cons f fs =>
      obtain ⟨h0, h1'⟩ := (h2.good m (List.mem_of_getElem? hm')).inv.fr f (by rw [hf]; simp)
      obtain ⟨i, rfl⟩ := Int.eq_ofNat_of_zero_le h0
      obtain ⟨x, hx⟩ : ∃ x, m.all[i]? = some x := ⟨_, List.getElem?_eq_getElem (by omega)⟩
      simp only [headF, hm, hf, Int.toNat_natCast, hx]
      have HF := Lib.hid (rfirst_cons w R ids M rw put h1 h2 k i fs m hm' hf)
      have hm := hm'
      have hs := mSlots_get (rw := rw) M 0 k i m x h2.len hm hx
      obtain ⟨s0, s1, s2, s3, s4, s5⟩ := h1.slot hs
      obtain ⟨c0, c1, fp, fb, b0, b1⟩ := h1.tops
      obtain ⟨z1, z2⟩ := h1.bnd
      obtain ⟨y0, y1, y2, y3⟩ := lts b0
      obtain ⟨x0, x1, x2, x3⟩ := lts b1
      have b00 : ∀ n, R.p < w.heap.size + n := fun n => by omega
      have b11 : ∀ n, R.b < w.heap.size + n := fun n => by omega
      have hn := (List.getElem?_eq_some_iff.1 hs).1
      have hnI : 0 ≤ ((k * ids + i : Nat) : Int) := Int.natCast_nonneg _
      have hnL : ((k * ids + i : Nat) : Int) < ((mSlots rw 0 M).length : Int) := by omega
      unfold maxLen at z2
      clear hs hm hm' hf h1 h2 hal hk0 hx h0 h1'
      simp only [Nat.add_zero] at HA
      generalize (mSlots rw 0 M).length = len at *
      generalize k * ids + i = n at *
      generalize k * ids = kn at *
      have hknI : 0 ≤ (kn : Int) := Int.natCast_nonneg _
      obtain ⟨gen, bound, alive⟩ := x
      simp only at s1 s2 s3
      go_enter Try.func73, Try.ntmps73
      go_wp2_with (first | (go_at_call 85; refine HA.out.mono ?_; rintro e w' ⟨rfl, rfl⟩) | (go_at_call 86; refine (HF.out).mono ?_; rintro e w' ⟨rfl, hb⟩; obtain ⟨d, os, rfl⟩ := more_of hb; clear hb))
      refine wp_region_more (by kernel_rfl) (by kernel_rfl) ?_
      repeat (go_big_quiet_step (fail))
      refine wpQuiet_nil ?_
      rintro _ ⟨pn, rfl⟩
      go_wp2_with fail
      go_ret3
      exact ⟨rfl, (by repeat' (first | (with_reducible exact Below.refl _ _) | (with_reducible assumption) | (with_reducible refine below_drewN ?_ _) | (with_reducible refine below_more _ _ _ ?_ ?_) | (with_reducible refine Below.alloc ?_ ?_ _) | (with_reducible refine Below.drew ?_) | (with_reducible refine Below.setCell ?_ ?_ _) | go_size))⟩
end Go.Proofs.Ytjkbenghgbigdaa
