/-
  Chapter 8: the document's example (awake), with the contracts at a pool's place. No condition.
-/
import Derived.Test.YtjkbenghgbigdaaPoolK
import Derived.Test.YtjkbenghgbigdaaEq
namespace Go.Proofs.Ytjkbenghgbigdaa
open Go.RowKit

/-- A box of the caller's beside a pool. -/
def Box (W : World) (L : Lay) (b : Nat) (cs : Array Value) : Prop := b < W.heap.size ∧ ¬ L.own b ∧ ∀ j, W.cell? ⟨b, j, none⟩ = cs[j]?

theorem Box.new {W : World} {L : Lay} {M : List Sh} (hp : PoolAt W L M) (cs : Array Value) (t : TypeId) : Box (W.alloc (.cells cs t)) L W.heap.size cs :=
  ⟨by simp, fun h => by have := hp.lt h; omega, fun j => by simp⟩
theorem Box.grow {W W' : World} {L : Lay} {b : Nat} {cs : Array Value} (h : Box W L b cs) (hb : Below W.heap.size W W') : Box W' L b cs :=
  ⟨Nat.lt_of_lt_of_le h.1 hb.size, h.2.1, fun j => (hb.cell (p := ⟨b, j, none⟩) h.1).trans (h.2.2 j)⟩

/-- A step, opened: the pool's new place; the boxes beside it. -/
theorem Stp.open {w w' : World} {L : Lay} {M' : List Sh} {p : Nat} (h : Stp w L w' M') (hP : L.P = p) : ∃ L', L'.P = p ∧ PoolAt w' L' M' ∧ w.heap.size ≤ w'.heap.size ∧ (∀ B, B ≤ w.heap.size → (∀ b, L.own b → B ≤ b) → Below B w w') ∧ (∀ b, L'.own b → L.own b ∨ w.heap.size ≤ b) ∧ ∀ b cs, Box w L b cs → Box w' L' b cs := by
  obtain ⟨L', hP', hp, hc, ho⟩ := h
  refine ⟨L', hP'.trans hP, hp, hc.size, fun B hB hB' => hc.below hB hB', ho, fun b cs hb => ⟨Nat.lt_of_lt_of_le hb.1 hc.size, fun h => ?_, fun j => (hc.cell (a := ⟨b, j, none⟩) hb.1 hb.2.1).trans (hb.2.2 j)⟩⟩
  rcases ho b h with h | h
  · exact hb.2.1 h
  · exact absurd hb.1 (by omega)

section
variable (w : World) (L : Lay) (M : List Sh) (p : Nat) (hP : L.P = p) (h : PoolAt w L M)
include hP h
theorem issue_p (k : Int) : Calls Try.prog 44 #[.pointer (some ⟨p, 0, none⟩), .int .i64 k] w fun e w' =>
    e = .returned (.tuple #[.agg #[.int .i64 (issueF M k).1.1, .int .i64 (issueF M k).1.2.1, .int .i64 (issueF M k).1.2.2], .int .i64 (issueF M k).2.1]) ∧ Stp w L w' (issueF M k).2.2 := by
  subst hP; exact issue_any w L M k h
theorem reserve_p (k i : Int) : Calls Try.prog 41 #[.pointer (some ⟨p, 0, none⟩), .int .i64 k, .int .i64 i] w fun e w' => e = .returned (.int .i64 (reserveF M k i).1) ∧ Stp w L w' (reserveF M k i).2 := by
  subst hP; exact reserve_any w L M k i h
theorem free_p (s i g : Int) : Calls Try.prog 21 #[.pointer (some ⟨p, 0, none⟩), .agg #[.int .i64 s, .int .i64 i, .int .i64 g]] w fun e w' => e = .returned (.int .i64 (freeF M s i g).1) ∧ Stp w L w' (freeF M s i g).2 := by
  subst hP; exact free_any w L M s i g h
theorem take_p (s i g : Int) : Calls Try.prog 42 #[.pointer (some ⟨p, 0, none⟩), .agg #[.int .i64 s, .int .i64 i, .int .i64 g]] w fun e w' => e = .returned (.int .i64 (takeF M s i g).1) ∧ Stp w L w' (takeF M s i g).2 := by
  subst hP; exact take_any w L M s i g h
theorem alive_p (s i g : Int) : Calls Try.prog 20 #[.pointer (some ⟨p, 0, none⟩), .agg #[.int .i64 s, .int .i64 i, .int .i64 g]] w fun e w' => e = .returned (.bool (aliveF M s i g)) ∧ Below w.heap.size w w' := by
  subst hP; exact alive_any w L M s i g h
theorem head_p (k : Int) : Calls Try.prog 38 #[.pointer (some ⟨p, 0, none⟩), .int .i64 k] w fun e w' =>
    e = .returned (.tuple #[.int .i64 (headF M k).1, .bool (headF M k).2.1, .int .i64 (headF M k).2.2]) ∧ Below w.heap.size w w' := by
  subst hP; exact head_any w L M k h
theorem next_p (k : Int) : Calls Try.prog 19 #[.pointer (some ⟨p, 0, none⟩), .int .i64 k] w fun e w' =>
    e = .returned (.tuple #[.agg #[.int .i64 (nextF M k).1.1.1, .int .i64 (nextF M k).1.1.2.1, .int .i64 (nextF M k).1.1.2.2], .int .i64 (nextF M k).1.2.1, .bool (nextF M k).1.2.2]) ∧ Stp w L w' (nextF M k).2 := by
  subst hP; exact next_any w L M k h
theorem list_p : Calls Try.prog 37 #[.pointer (some ⟨p, 0, none⟩)] w fun e w' => ∃ v, e = .returned v ∧ ListAt w w' v (listF M) := by
  subst hP; exact list_any w L M h
end

/-- A new pool. -/
theorem new_p (n ids : Nat) (w : World) (h1 : 1 ≤ n) (h2 : n ≤ 16) (h3 : 1 ≤ ids) (h4 : ids ≤ 16) :
    Calls Try.prog 17 #[.int .i64 n, .int .i64 ids] w fun e w' => e = .returned (.tuple #[.pointer (some ⟨w.heap.size + 1, 0, none⟩), .int .i64 0]) ∧ Below w.heap.size w w' ∧ ∃ L, L.P = w.heap.size + 1 ∧ PoolAt w' L (List.replicate n (fresh ids ids)) ∧ ∀ b, L.own b → w.heap.size ≤ b := by
  refine (new_ok n ids w h1 h2 h3 h4).mono ?_
  rintro e w' ⟨rfl, L, hP, _, hp, hb, ho⟩
  rw [List.append_nil] at hp
  exact ⟨rfl, hb, L, hP, hp.toAt (by simp), ho⟩

/-- A pool of the call's own: its place, what it is, and that below the call's beginning nothing has turned. -/
structure St (w0 W : World) (L : Lay) (M : List Sh) (p : Nat) : Prop where
  hP : L.P = p
  hp : PoolAt W L M
  hb : Below w0.heap.size w0 W
  ho : ∀ b, L.own b → w0.heap.size ≤ b

theorem St.grow {w0 W W' : World} {L : Lay} {M : List Sh} {p : Nat} (h : St w0 W L M p) (hb : Below W.heap.size W W') : St w0 W' L M p :=
  ⟨h.hP, h.hp.grown hb, h.hb.trans (hb.mono h.hb.size), h.ho⟩
theorem St.went {w0 W w' : World} {L : Lay} {M M' : List Sh} {p : Nat} (h : St w0 W L M p) (hs : Stp W L w' M') : ∃ L', St w0 w' L' M' p ∧ Chg W w' L.own ∧ ∀ b, L'.own b → L.own b ∨ W.heap.size ≤ b := by
  obtain ⟨L', hP', hp, hc, ho⟩ := hs
  refine ⟨L', ⟨hP'.trans h.hP, hp, h.hb.trans (hc.below h.hb.size h.ho), fun b hb => ?_⟩, hc, ho⟩
  rcases ho b hb with h' | h'
  · exact h.ho b h'
  · exact Nat.le_trans h.hb.size h'
theorem Box.went {W w' : World} {L L' : Lay} {b : Nat} {cs : Array Value} (h : Box W L b cs) (hc : Chg W w' L.own) (ho : ∀ b, L'.own b → L.own b ∨ W.heap.size ≤ b) : Box w' L' b cs :=
  ⟨Nat.lt_of_lt_of_le h.1 hc.size, fun h' => (ho b h').elim h.2.1 fun h' => absurd h.1 (by omega), fun j => (hc.cell (a := ⟨b, j, none⟩) h.1 h.2.1).trans (h.2.2 j)⟩

def aw0 : List Sh := [⟨[⟨0, 0, false⟩, ⟨0, 0, false⟩], [0, 1]⟩]
def aw1 : List Sh := [⟨[⟨0, 8, false⟩, ⟨0, 0, false⟩], [0, 1]⟩]
def aw2 : List Sh := [⟨[⟨0, 8, true⟩, ⟨0, 0, false⟩], [1]⟩]
def aw3 : List Sh := [⟨[⟨1, 8, false⟩, ⟨0, 0, false⟩], [1, 0]⟩]
def aw4 : List Sh := [⟨[⟨1, 8, false⟩, ⟨0, 8, false⟩], [1, 0]⟩]
def aw5 : List Sh := [⟨[⟨1, 8, false⟩, ⟨0, 8, true⟩], [0]⟩]
def aw6 : List Sh := [⟨[⟨1, 8, true⟩, ⟨0, 8, true⟩], []⟩]
theorem awe0 : List.replicate 1 (fresh 2 2) = aw0 := rfl
theorem awe1 : issueF aw0 0 = ((0, 0, 0), 14, aw0) := rfl
theorem awe2 : reserveF aw0 0 0 = (0, aw1) := rfl
theorem awe3 : issueF aw1 0 = ((0, 0, 0), 0, aw2) := rfl
theorem awe4 : freeF aw2 0 0 0 = (0, aw3) := rfl
theorem awe5 : reserveF aw3 0 1 = (0, aw4) := rfl
theorem awe6 : issueF aw4 0 = ((0, 1, 0), 0, aw5) := rfl
theorem awe7 : issueF aw5 0 = ((0, 0, 1), 0, aw6) := rfl
theorem awe8 : aliveF aw6 0 0 0 = false := rfl
theorem awe9 : aliveF aw6 0 0 1 = true := rfl


set_option maxRecDepth 100000 in
set_option maxHeartbeats 400000 in
theorem awake8 (w : World) : Calls Try.prog 22 #[] w fun e w' => e = .returned (.bool true) ∧ Below w.heap.size w w' := by
  go_enter Try.func22, Try.ntmps22
  go_wp2_with fail
  have hnew := new_p 1 2 w (by omega) (by omega) (by omega) (by omega)
  simp only [Int.cast_ofNat_Int] at hnew
  refine hnew.mono ?_
  rintro e w1 ⟨rfl, hb1, L1, hP1, hp1, ho1⟩
  rw [awe0] at hp1
  have st1 : St w w1 L1 _ _ := ⟨hP1, hp1, hb1, ho1⟩
  clear hP1 hp1 hb1 ho1
  go_wp2_with fail
  refine (issue_p _ L1 _ _ st1.hP (st1.grow (by repeat' (first | (with_reducible exact Below.refl _ _) | (with_reducible assumption) | (with_reducible refine below_drewN ?_ _) | (with_reducible refine below_more _ _ _ ?_ ?_) | (with_reducible refine Below.alloc ?_ ?_ _) | (with_reducible refine Below.drew ?_) | (with_reducible refine Below.setCell ?_ ?_ _) | go_size))).hp 0).mono ?_
  rw [awe1]
  rintro e w2 ⟨rfl, hs⟩
  obtain ⟨L2, st2, c2, o2⟩ := (st1.grow (by repeat' (first | (with_reducible exact Below.refl _ _) | (with_reducible assumption) | (with_reducible refine below_drewN ?_ _) | (with_reducible refine below_more _ _ _ ?_ ?_) | (with_reducible refine Below.alloc ?_ ?_ _) | (with_reducible refine Below.drew ?_) | (with_reducible refine Below.setCell ?_ ?_ _) | go_size))).went hs
  clear hs
  go_wp2_with fail
  refine (reserve_p _ L2 _ _ st2.hP (st2.grow (by repeat' (first | (with_reducible exact Below.refl _ _) | (with_reducible assumption) | (with_reducible refine below_drewN ?_ _) | (with_reducible refine below_more _ _ _ ?_ ?_) | (with_reducible refine Below.alloc ?_ ?_ _) | (with_reducible refine Below.drew ?_) | (with_reducible refine Below.setCell ?_ ?_ _) | go_size))).hp 0 0).mono ?_
  rw [awe2]
  rintro e w3 ⟨rfl, hs⟩
  obtain ⟨L3, st3, c3, o3⟩ := (st2.grow (by repeat' (first | (with_reducible exact Below.refl _ _) | (with_reducible assumption) | (with_reducible refine below_drewN ?_ _) | (with_reducible refine below_more _ _ _ ?_ ?_) | (with_reducible refine Below.alloc ?_ ?_ _) | (with_reducible refine Below.drew ?_) | (with_reducible refine Below.setCell ?_ ?_ _) | go_size))).went hs
  clear hs
  go_wp2_with fail
  refine (issue_p _ L3 _ _ st3.hP (st3.grow (by repeat' (first | (with_reducible exact Below.refl _ _) | (with_reducible assumption) | (with_reducible refine below_drewN ?_ _) | (with_reducible refine below_more _ _ _ ?_ ?_) | (with_reducible refine Below.alloc ?_ ?_ _) | (with_reducible refine Below.drew ?_) | (with_reducible refine Below.setCell ?_ ?_ _) | go_size))).hp 0).mono ?_
  rw [awe3]
  rintro e w4 ⟨rfl, hs⟩
  obtain ⟨L4, st4, c4, o4⟩ := (st3.grow (by repeat' (first | (with_reducible exact Below.refl _ _) | (with_reducible assumption) | (with_reducible refine below_drewN ?_ _) | (with_reducible refine below_more _ _ _ ?_ ?_) | (with_reducible refine Below.alloc ?_ ?_ _) | (with_reducible refine Below.drew ?_) | (with_reducible refine Below.setCell ?_ ?_ _) | go_size))).went hs
  clear hs
  have ba4 := Box.new st4.hp #[.int .i64 0, .int .i64 0, .int .i64 0] 30
  go_wp2_with fail
  refine (free_p _ L4 _ _ st4.hP (st4.grow (by repeat' (first | (with_reducible exact Below.refl _ _) | (with_reducible assumption) | (with_reducible refine below_drewN ?_ _) | (with_reducible refine below_more _ _ _ ?_ ?_) | (with_reducible refine Below.alloc ?_ ?_ _) | (with_reducible refine Below.drew ?_) | (with_reducible refine Below.setCell ?_ ?_ _) | go_size))).hp 0 0 0).mono ?_
  rw [awe4]
  rintro e w5 ⟨rfl, hs⟩
  obtain ⟨L5, st5, c5, o5⟩ := (st4.grow (by repeat' (first | (with_reducible exact Below.refl _ _) | (with_reducible assumption) | (with_reducible refine below_drewN ?_ _) | (with_reducible refine below_more _ _ _ ?_ ?_) | (with_reducible refine Below.alloc ?_ ?_ _) | (with_reducible refine Below.drew ?_) | (with_reducible refine Below.setCell ?_ ?_ _) | go_size))).went hs
  clear hs
  have ba5 := (ba4.grow (by repeat' (first | (with_reducible exact Below.refl _ _) | (with_reducible assumption) | (with_reducible refine below_drewN ?_ _) | (with_reducible refine below_more _ _ _ ?_ ?_) | (with_reducible refine Below.alloc ?_ ?_ _) | (with_reducible refine Below.drew ?_) | (with_reducible refine Below.setCell ?_ ?_ _) | go_size))).went c5 o5
  go_wp2_with fail
  refine (reserve_p _ L5 _ _ st5.hP (st5.grow (by repeat' (first | (with_reducible exact Below.refl _ _) | (with_reducible assumption) | (with_reducible refine below_drewN ?_ _) | (with_reducible refine below_more _ _ _ ?_ ?_) | (with_reducible refine Below.alloc ?_ ?_ _) | (with_reducible refine Below.drew ?_) | (with_reducible refine Below.setCell ?_ ?_ _) | go_size))).hp 0 1).mono ?_
  rw [awe5]
  rintro e w6 ⟨rfl, hs⟩
  obtain ⟨L6, st6, c6, o6⟩ := (st5.grow (by repeat' (first | (with_reducible exact Below.refl _ _) | (with_reducible assumption) | (with_reducible refine below_drewN ?_ _) | (with_reducible refine below_more _ _ _ ?_ ?_) | (with_reducible refine Below.alloc ?_ ?_ _) | (with_reducible refine Below.drew ?_) | (with_reducible refine Below.setCell ?_ ?_ _) | go_size))).went hs
  clear hs
  have ba6 := (ba5.grow (by repeat' (first | (with_reducible exact Below.refl _ _) | (with_reducible assumption) | (with_reducible refine below_drewN ?_ _) | (with_reducible refine below_more _ _ _ ?_ ?_) | (with_reducible refine Below.alloc ?_ ?_ _) | (with_reducible refine Below.drew ?_) | (with_reducible refine Below.setCell ?_ ?_ _) | go_size))).went c6 o6
  go_wp2_with fail
  refine (issue_p _ L6 _ _ st6.hP (st6.grow (by repeat' (first | (with_reducible exact Below.refl _ _) | (with_reducible assumption) | (with_reducible refine below_drewN ?_ _) | (with_reducible refine below_more _ _ _ ?_ ?_) | (with_reducible refine Below.alloc ?_ ?_ _) | (with_reducible refine Below.drew ?_) | (with_reducible refine Below.setCell ?_ ?_ _) | go_size))).hp 0).mono ?_
  rw [awe6]
  rintro e w7 ⟨rfl, hs⟩
  obtain ⟨L7, st7, c7, o7⟩ := (st6.grow (by repeat' (first | (with_reducible exact Below.refl _ _) | (with_reducible assumption) | (with_reducible refine below_drewN ?_ _) | (with_reducible refine below_more _ _ _ ?_ ?_) | (with_reducible refine Below.alloc ?_ ?_ _) | (with_reducible refine Below.drew ?_) | (with_reducible refine Below.setCell ?_ ?_ _) | go_size))).went hs
  clear hs
  have ba7 := (ba6.grow (by repeat' (first | (with_reducible exact Below.refl _ _) | (with_reducible assumption) | (with_reducible refine below_drewN ?_ _) | (with_reducible refine below_more _ _ _ ?_ ?_) | (with_reducible refine Below.alloc ?_ ?_ _) | (with_reducible refine Below.drew ?_) | (with_reducible refine Below.setCell ?_ ?_ _) | go_size))).went c7 o7
  have bb7 := Box.new st7.hp #[.int .i64 0, .int .i64 1, .int .i64 0] 30
  go_wp2_with fail
  refine (issue_p _ L7 _ _ st7.hP (st7.grow (by repeat' (first | (with_reducible exact Below.refl _ _) | (with_reducible assumption) | (with_reducible refine below_drewN ?_ _) | (with_reducible refine below_more _ _ _ ?_ ?_) | (with_reducible refine Below.alloc ?_ ?_ _) | (with_reducible refine Below.drew ?_) | (with_reducible refine Below.setCell ?_ ?_ _) | go_size))).hp 0).mono ?_
  rw [awe7]
  rintro e w8 ⟨rfl, hs⟩
  obtain ⟨L8, st8, c8, o8⟩ := (st7.grow (by repeat' (first | (with_reducible exact Below.refl _ _) | (with_reducible assumption) | (with_reducible refine below_drewN ?_ _) | (with_reducible refine below_more _ _ _ ?_ ?_) | (with_reducible refine Below.alloc ?_ ?_ _) | (with_reducible refine Below.drew ?_) | (with_reducible refine Below.setCell ?_ ?_ _) | go_size))).went hs
  clear hs
  have ba8 := (ba7.grow (by repeat' (first | (with_reducible exact Below.refl _ _) | (with_reducible assumption) | (with_reducible refine below_drewN ?_ _) | (with_reducible refine below_more _ _ _ ?_ ?_) | (with_reducible refine Below.alloc ?_ ?_ _) | (with_reducible refine Below.drew ?_) | (with_reducible refine Below.setCell ?_ ?_ _) | go_size))).went c8 o8
  have bb8 := (bb7.grow (by repeat' (first | (with_reducible exact Below.refl _ _) | (with_reducible assumption) | (with_reducible refine below_drewN ?_ _) | (with_reducible refine below_more _ _ _ ?_ ?_) | (with_reducible refine Below.alloc ?_ ?_ _) | (with_reducible refine Below.drew ?_) | (with_reducible refine Below.setCell ?_ ?_ _) | go_size))).went c8 o8
  clear ba4 ba5 ba6 ba7 bb7 st2 st3 st4 st5 st6 st7 c2 c3 c4 c5 c6 c7 c8 o2 o3 o4 o5 o6 o7 o8 st1
  have a1 := ba8.1
  have a2 := ba8.2.2
  have b1 := bb8.1
  have b2 := bb8.2.2
  obtain ⟨x0, x1, x2, x3⟩ := lts a1
  obtain ⟨y0, y1, y2, y3⟩ := lts b1
  have HA := Lib.hid (fun W hb s i g => alive_p W L8 _ _ st8.hP (st8.grow (W' := W) hb).hp s i g)
  have A8 := awe8
  have A9 := awe9
  have HB := Lib.hid st8.hb
  clear st8 ba8 bb8
  go_wp2_with (go_at_call 20; refine (HA.out _ (by repeat' (first | (with_reducible exact Below.refl _ _) | (with_reducible assumption) | (with_reducible refine below_drewN ?_ _) | (with_reducible refine below_more _ _ _ ?_ ?_) | (with_reducible refine Below.alloc ?_ ?_ _) | (with_reducible refine Below.drew ?_) | (with_reducible refine Below.setCell ?_ ?_ _) | go_size)) _ _ _).mono ?_; rintro e w' ⟨rfl, hb⟩; obtain ⟨d, os, rfl⟩ := more_of hb; clear hb)
  go_ret
  exact ⟨rfl, HB.out.trans (Below.mono (B := w8.heap.size) (by repeat' (first | (with_reducible exact Below.refl _ _) | (with_reducible assumption) | (with_reducible refine below_drewN ?_ _) | (with_reducible refine below_more _ _ _ ?_ ?_) | (with_reducible refine Below.alloc ?_ ?_ _) | (with_reducible refine Below.drew ?_) | (with_reducible refine Below.setCell ?_ ?_ _) | go_size)) (by have := HB.out.size; omega))⟩

theorem lapse_none (w : World) : Calls Try.prog 43 #[.pointer none] w fun e w' => e = .returned (.int .i64 0) ∧ w = w' := by
  go_enter Try.func43, Try.ntmps43
  go_wp2
  go_ret
  exact ⟨rfl, rfl⟩
end Go.Proofs.Ytjkbenghgbigdaa
