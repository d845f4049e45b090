/-
  The program's pool of names: what reads it (of, at, Head, Gen, Alive). No condition.
-/
import Derived.Test.YtjkbenghgbigdaaPoolA
namespace Go.Proofs.Ytjkbenghgbigdaa
open Go.RowKit

def shOf (M : List Sh) (k : Int) : Option Sh := if 0 ≤ k then M[k.toNat]? else none
def ixOf (M : List Sh) (k i : Int) : Option Ix := (shOf M k).bind fun m => if 0 ≤ i then m.all[i.toNat]? else none

theorem shOf_nat {w : World} {L : Lay} {M : List Sh} (h : PoolAt w L M) {k : Int} {m : Sh} (hm : shOf M k = some m) : ∃ (k' : Nat) (l : ShL), k = k' ∧ M[k']? = some m ∧ L.sh[k']? = some l := by
  unfold shOf at hm
  split at hm
  · have hk : k.toNat < L.sh.length := by rw [h.len]; exact (List.getElem?_eq_some_iff.1 hm).1
    exact ⟨k.toNat, L.sh[k.toNat], by omega, hm, List.getElem?_eq_getElem hk⟩
  · cases hm

theorem ixOf_nat {w : World} {L : Lay} {M : List Sh} (h : PoolAt w L M) {k i : Int} {x : Ix} (hx : ixOf M k i = some x) : ∃ (k' i' : Nat) (m : Sh) (l : ShL), k = k' ∧ i = i' ∧ M[k']? = some m ∧ L.sh[k']? = some l ∧ m.all[i']? = some x := by
  unfold ixOf at hx
  obtain ⟨m, hm, hy⟩ := Option.bind_eq_some_iff.1 hx
  obtain ⟨k', l, hk, hm', hl⟩ := shOf_nat h hm
  split at hy
  · exact ⟨k', i.toNat, m, l, hk, by omega, hm', hl, hy⟩
  · cases hy

theorem PoolN.sh {w : World} {L : Lay} {M : List Sh} {n : Nat} (h : PoolN w L M n) {k : Nat} {m : Sh} {l : ShL} (hm : M[k]? = some m) (hl : L.sh[k]? = some l) :
    w.cell? ⟨L.S, k * 2, none⟩ = some (.slice (some ⟨l.A, 0, none⟩) m.all.length m.all.length) ∧ w.cell? ⟨L.S, k * 2 + 1, none⟩ = some l.fv ∧ (∀ o, w.frozen? ⟨L.S, o, none⟩ = false) ∧ (∀ o, w.frozen? ⟨l.A, o, none⟩ = false) ∧ ShInv m ∧ k < M.length ∧ Sl w 3 1 l.fv m.free.length (m.free.map (Value.int .i64)) := by
  obtain ⟨cur, hcur, _, _, hsh⟩ := h.shards
  have hs := hsh k m l hm hl
  obtain ⟨ca, hca, _⟩ := hs.rows
  exact ⟨by simp [World.cell?, hcur, hs.slA], by simp [World.cell?, hcur, hs.slF], fun o => by simp [World.frozen?, hcur], fun o => by simp [World.frozen?, hca], hs.inv, (List.getElem?_eq_some_iff.1 hm).1, hs.free⟩

theorem PoolN.ix {w : World} {L : Lay} {M : List Sh} {n : Nat} (h : PoolN w L M n) {k i : Nat} {m : Sh} {l : ShL} {x : Ix} (hm : M[k]? = some m) (hl : L.sh[k]? = some l) (hx : m.all[i]? = some x) :
    w.cell? ⟨l.A, i * 3, none⟩ = some (.int .i64 x.gen) ∧ w.cell? ⟨l.A, i * 3 + 1, none⟩ = some (.int .i64 x.bound) ∧ w.cell? ⟨l.A, i * 3 + 2, none⟩ = some (.bool x.alive) := by
  obtain ⟨cur, hcur, _, _, hsh⟩ := h.shards
  have hs := hsh k m l hm hl
  obtain ⟨ca, hca, _, hr⟩ := hs.rows
  obtain ⟨r0, r1, r2⟩ := hr i x hx
  exact ⟨by simp [World.cell?, hca, r0], by simp [World.cell?, hca, r1], by simp [World.cell?, hca, r2]⟩

theorem of_none (w : World) (k : Int) : Calls Try.prog 61 #[.pointer none, .int .i64 k] w fun e w' => e = .returned (.pointer none) ∧ w = w' := by
  go_enter Try.func61, Try.ntmps61
  go_wp2
  go_ret
  exact ⟨rfl, rfl⟩

theorem of_any (w : World) (L : Lay) (M : List Sh) (k : Int) (h : PoolAt w L M) :
    Calls Try.prog 61 #[.pointer (some ⟨L.P, 0, none⟩), .int .i64 k] w fun e w' => e = .returned (.pointer (if 0 ≤ k ∧ k < M.length then some ⟨L.S, k.toNat * 2, none⟩ else none)) ∧ w = w' := by
  have hf := h.few
  have hc : w.cell? ⟨L.P, 0, none⟩ = some (.slice (some ⟨L.S, 0, none⟩) M.length M.length) := by simp [World.cell?, h.top]
  generalize M.length = n at *
  by_cases h1 : 0 ≤ k ∧ k < n
  · rw [if_pos h1]
    obtain ⟨h1, h2⟩ := h1
    go_enter Try.func61, Try.ntmps61
    go_wp2
    go_ret
    exact ⟨rfl, rfl⟩
  · rw [if_neg h1]
    by_cases h2 : k < 0
    · go_enter Try.func61, Try.ntmps61
      go_wp2
      go_ret
      exact ⟨rfl, rfl⟩
    · have h3 : (n : Int) ≤ k := by omega
      clear h1
      go_enter Try.func61, Try.ntmps61
      go_wp2
      go_ret
      exact ⟨rfl, rfl⟩

theorem of_in (w : World) (L : Lay) (M : List Sh) (k : Nat) (m : Sh) (h : PoolAt w L M) (hm : M[k]? = some m) :
    Calls Try.prog 61 #[.pointer (some ⟨L.P, 0, none⟩), .int .i64 k] w fun e w' => e = .returned (.pointer (some ⟨L.S, k * 2, none⟩)) ∧ w = w' := by
  have hk : k < M.length := (List.getElem?_eq_some_iff.1 hm).1
  have hof := of_any w L M k h
  rwa [if_pos (by omega), Int.toNat_natCast] at hof

theorem of_out (w : World) (L : Lay) (M : List Sh) (k : Int) (h : PoolAt w L M) (hm : shOf M k = none) :
    Calls Try.prog 61 #[.pointer (some ⟨L.P, 0, none⟩), .int .i64 k] w fun e w' => e = .returned (.pointer none) ∧ w = w' := by
  have hof := of_any w L M k h
  rwa [if_neg] at hof
  rintro ⟨h1, h2⟩
  unfold shOf at hm
  rw [if_pos h1, List.getElem?_eq_none_iff] at hm
  omega

theorem at_in (w : World) (L : Lay) (M : List Sh) (k i : Nat) (m : Sh) (l : ShL) (h : PoolAt w L M) (hm : M[k]? = some m) (hl : L.sh[k]? = some l) (hi : i < m.all.length) :
    Calls Try.prog 54 #[.pointer (some ⟨L.P, 0, none⟩), .int .i64 k, .int .i64 i] w fun e w' => e = .returned (.tuple #[.pointer (some ⟨L.S, k * 2, none⟩), .pointer (some ⟨l.A, i * 3, none⟩)]) ∧ Below w.heap.size w w' := by
  obtain ⟨hcA, _, _, _, hinv, hk, _⟩ := h.sh hm hl
  have hsm := hinv.few
  have hof := of_in w L M k m h hm
  have HOF := Lib.hid hof
  clear hof hm hl hinv
  generalize m.all.length = q at *
  go_enter Try.func54, Try.ntmps54
  go_wp2_with (go_at_call 61; refine HOF.out.mono ?_; rintro e w' ⟨rfl, rfl⟩)
  go_quiet (fail)
  go_wp2
  go_ret2
  exact ⟨rfl, below_drewN (Below.refl _ _) _⟩

theorem at_none (w : World) (k i : Int) : Calls Try.prog 54 #[.pointer none, .int .i64 k, .int .i64 i] w fun e w' => e = .returned (.tuple #[.pointer none, .pointer none]) ∧ Below w.heap.size w w' := by
  go_enter Try.func54, Try.ntmps54
  go_wp2_with (go_at_call 61; refine (of_none _ _).mono ?_; rintro e w' ⟨rfl, rfl⟩)
  go_ret2
  exact ⟨rfl, Below.refl _ _⟩

theorem at_out (w : World) (L : Lay) (M : List Sh) (k i : Int) (h : PoolAt w L M) (ho : ixOf M k i = none) :
    Calls Try.prog 54 #[.pointer (some ⟨L.P, 0, none⟩), .int .i64 k, .int .i64 i] w fun e w' => e = .returned (.tuple #[.pointer none, .pointer none]) ∧ Below w.heap.size w w' := by
  cases hm : shOf M k with
  | none =>
    have HOF := Lib.hid (of_out w L M k h hm)
    clear hm ho
    go_enter Try.func54, Try.ntmps54
    go_wp2_with (go_at_call 61; refine HOF.out.mono ?_; rintro e w' ⟨rfl, rfl⟩)
    go_ret2
    exact ⟨rfl, Below.refl _ _⟩
  | some m =>
    simp only [ixOf, hm, Option.bind_some] at ho
    obtain ⟨k', l, rfl, hm', hl⟩ := shOf_nat h hm
    have HOF := Lib.hid (of_in w L M k' m h hm')
    obtain ⟨hcA, _, _, _, hinv, hk, _⟩ := h.sh hm' hl
    have hsm := hinv.few
    clear hm hm' hl hinv
    by_cases h2 : i < 0
    · clear ho
      generalize m.all.length = q at *
      go_enter Try.func54, Try.ntmps54
      go_wp2_with (go_at_call 61; refine HOF.out.mono ?_; rintro e w' ⟨rfl, rfl⟩)
      go_ret2
      exact ⟨rfl, Below.refl _ _⟩
    · have h3 : (m.all.length : Int) ≤ i := by rw [if_pos (by omega), List.getElem?_eq_none_iff] at ho; omega
      clear ho
      generalize m.all.length = q at *
      go_enter Try.func54, Try.ntmps54
      go_wp2_with (go_at_call 61; refine HOF.out.mono ?_; rintro e w' ⟨rfl, rfl⟩)
      go_ret2
      exact ⟨rfl, Below.refl _ _⟩

/-- Gen. -/
theorem gen_out (w : World) (L : Lay) (M : List Sh) (k i : Int) (h : PoolAt w L M) (ho : ixOf M k i = none) :
    Calls Try.prog 48 #[.pointer (some ⟨L.P, 0, none⟩), .int .i64 k, .int .i64 i] w fun e w' => e = .returned (.int .i64 0) ∧ Below w.heap.size w w' := by
  have HAT := Lib.hid (at_out w L M k i h ho)
  clear ho
  go_enter Try.func48, Try.ntmps48
  go_wp2_with (go_at_call 54; refine HAT.out.mono ?_; rintro e w' ⟨rfl, hb⟩)
  go_ret
  exact ⟨rfl, hb⟩
theorem gen_none (w : World) (k i : Int) :
    Calls Try.prog 48 #[.pointer none, .int .i64 k, .int .i64 i] w fun e w' => e = .returned (.int .i64 0) ∧ Below w.heap.size w w' := by
  go_enter Try.func48, Try.ntmps48
  go_wp2_with (go_at_call 54; refine (at_none _ _ _).mono ?_; rintro e w' ⟨rfl, hb⟩)
  go_ret
  exact ⟨rfl, hb⟩
theorem gen_in (w : World) (L : Lay) (M : List Sh) (k i : Int) (x : Ix) (h : PoolAt w L M) (hx : ixOf M k i = some x) :
    Calls Try.prog 48 #[.pointer (some ⟨L.P, 0, none⟩), .int .i64 k, .int .i64 i] w fun e w' => e = .returned (.int .i64 x.gen) ∧ Below w.heap.size w w' := by
  obtain ⟨k, i, m, l, rfl, rfl, hm, hl, hx⟩ := ixOf_nat h hx
  obtain ⟨c0, c1, c2⟩ := h.ix hm hl hx
  have HAT := Lib.hid (at_in w L M k i m l h hm hl (List.getElem?_eq_some_iff.1 hx).1)
  clear hm hl hx
  go_enter Try.func48, Try.ntmps48
  go_wp2_with (go_at_call 54; refine HAT.out.mono ?_; rintro e w' ⟨rfl, hb⟩; have c0' := cell_keep hb c0)
  go_ret
  exact ⟨rfl, hb⟩

/-- Alive. -/
def aliveF (M : List Sh) (s i g : Int) : Bool := match ixOf M s i with
  | none => false
  | some x => x.alive && x.gen == g

theorem alive_none (w : World) (s i g : Int) :
    Calls Try.prog 20 #[.pointer none, .agg #[.int .i64 s, .int .i64 i, .int .i64 g]] w fun e w' => e = .returned (.bool false) ∧ Below w.heap.size w w' := by
  go_enter Try.func20, Try.ntmps20
  go_wp2_with (go_at_call 54; refine (at_none _ _ _).mono ?_; rintro e w' ⟨rfl, hb⟩; obtain ⟨d, os, rfl⟩ := more_of hb; clear hb)
  go_quiet (fail)
  go_wp2
  go_ret
  exact ⟨rfl, (by repeat' (first | (with_reducible exact Below.refl _ _) | (with_reducible assumption) | (with_reducible refine below_drewN ?_ _) | (with_reducible refine below_more _ _ _ ?_ ?_) | (with_reducible refine Below.alloc ?_ ?_ _) | (with_reducible refine Below.drew ?_) | (with_reducible refine Below.setCell ?_ ?_ _) | go_size))⟩

theorem alive_any (w : World) (L : Lay) (M : List Sh) (s i g : Int) (h : PoolAt w L M) :
    Calls Try.prog 20 #[.pointer (some ⟨L.P, 0, none⟩), .agg #[.int .i64 s, .int .i64 i, .int .i64 g]] w fun e w' => e = .returned (.bool (aliveF M s i g)) ∧ Below w.heap.size w w' := by
  have hb0 : Below w.heap.size w (w.alloc (.cells #[.int .i64 s, .int .i64 i, .int .i64 g] 30)) := (Below.refl _ _).alloc (Nat.le_refl _) _
  unfold aliveF
  cases hx : ixOf M s i with
  | none =>
    have HAT := Lib.hid (at_out _ L M s i (h.grown hb0) hx)
    clear hx hb0
    go_enter Try.func20, Try.ntmps20
    go_wp2_with (go_at_call 54; refine (HAT.out).mono ?_; rintro e w' ⟨rfl, hb⟩; obtain ⟨d, os, rfl⟩ := more_of hb; clear hb)
    go_quiet (fail)
    go_wp2
    go_ret
    exact ⟨rfl, (by repeat' (first | (with_reducible exact Below.refl _ _) | (with_reducible assumption) | (with_reducible refine below_drewN ?_ _) | (with_reducible refine below_more _ _ _ ?_ ?_) | (with_reducible refine Below.alloc ?_ ?_ _) | (with_reducible refine Below.drew ?_) | (with_reducible refine Below.setCell ?_ ?_ _) | go_size))⟩
  | some x =>
    obtain ⟨s, i, m, l, rfl, rfl, hm, hl, hx'⟩ := ixOf_nat h hx
    have HAT := Lib.hid (at_in _ L M s i m l (h.grown hb0) hm hl (List.getElem?_eq_some_iff.1 hx').1)
    obtain ⟨c0, c1, c2⟩ := (h.grown hb0).ix hm hl hx'
    have k0 := fun d os => cell_keep (more_below _ d os) c0
    have k2 := fun d os => cell_keep (more_below _ d os) c2
    clear hx hm hl hx' hb0 c0 c1 c2
    obtain ⟨gen, bound, alive⟩ := x
    cases alive with
    | false =>
      go_enter Try.func20, Try.ntmps20
      go_wp2_with (go_at_call 54; refine (HAT.out).mono ?_; rintro e w' ⟨rfl, hb⟩; obtain ⟨d, os, rfl⟩ := more_of hb; clear hb)
      go_quiet (fail)
      go_wp2
      go_ret
      exact ⟨rfl, (by repeat' (first | (with_reducible exact Below.refl _ _) | (with_reducible assumption) | (with_reducible refine below_drewN ?_ _) | (with_reducible refine below_more _ _ _ ?_ ?_) | (with_reducible refine Below.alloc ?_ ?_ _) | (with_reducible refine Below.drew ?_) | (with_reducible refine Below.setCell ?_ ?_ _) | go_size))⟩
    | true =>
      go_enter Try.func20, Try.ntmps20
      go_wp2_with (go_at_call 54; refine (HAT.out).mono ?_; rintro e w' ⟨rfl, hb⟩; obtain ⟨d, os, rfl⟩ := more_of hb; clear hb)
      go_quiet (fail)
      go_wp2
      go_ret
      exact ⟨rfl, (by repeat' (first | (with_reducible exact Below.refl _ _) | (with_reducible assumption) | (with_reducible refine below_drewN ?_ _) | (with_reducible refine below_more _ _ _ ?_ ?_) | (with_reducible refine Below.alloc ?_ ?_ _) | (with_reducible refine Below.drew ?_) | (with_reducible refine Below.setCell ?_ ?_ _) | go_size))⟩
end Go.Proofs.Ytjkbenghgbigdaa
