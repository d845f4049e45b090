/-
  IdsWorn: for every number and every bool the law returns true. No condition.
-/
import Derived.Test.YtjkbenghgbigdaaLapB
import Derived.Test.YtjkbenghgbigdaaPoolM
namespace Go.Proofs.Ytjkbenghgbigdaa.idsWorn
open Go.ChangeShapes Go.WideShapes Go.ChangeAt Go.RowKit

def wsh (b : Int) : List Sh := [⟨[⟨0, b, false⟩], [0]⟩]
def wav (g : Int) : List Sh := [⟨[⟨g, 1048576, true⟩], []⟩]
def wfr (g : Int) : List Sh := [⟨[⟨g, 1048576, false⟩], if g < 1048576 then [0] else []⟩]
theorem e_new : List.replicate 1 (fresh 1 1) = wsh 0 := rfl
theorem e_res (b : Int) (h : b + 8 ≤ 1048576) : reserveF (wsh b) 0 0 = (0, wsh (b + 8)) := by
  have h1 : ¬ b = 1048576 := by omega
  have h2 : min (b + 8) 1048576 = b + 8 := by omega
  simp [reserveF, wsh, ixOf, shOf, setIx, h1, h2]
theorem e_full : reserveF (wsh 1048576) 0 0 = (5, wsh 1048576) := rfl
theorem e_stale : takeF (wsh 1048576) 0 0 1048576 = (9, wsh 1048576) := by simp [takeF, wsh, ixOf, shOf, frOf]
theorem e_take (g : Int) (h0 : 0 ≤ g) (h1 : g < 1048576) : takeF (wsh 1048576) 0 0 g = (0, wav g) := by
  simp [takeF, wsh, wav, ixOf, shOf, frOf, setIx, setFr, show ¬ g < 0 by omega, show ¬ 1048576 ≤ g by omega]
theorem e_state (g : Int) (h0 : 0 ≤ g) : takeF (wav g) 0 0 g = (14, wav g) := by
  simp [takeF, wav, ixOf, shOf, frOf, show ¬ g < 0 by omega]
theorem e_free (g : Int) (h0 : 0 ≤ g) : freeF (wav g) 0 0 g = (0, wfr (g + 1)) := by
  simp [freeF, wav, wfr, ixOf, shOf, setIx, addFr, show ¬ g < 0 by omega]
  split <;> rfl
theorem e_lapse (g : Int) (h : g ≤ 1048576) : lapseF (wfr g) = (if g < 1048576 then 1 else 0, wfr 1048576) := by
  by_cases hg : g < 1048576
  · simp [lapseF, wfr, hg, lapSh, lapN, lapCnt, lapses, lapAll, lapIx, genAt]
  · obtain rfl : g = 1048576 := by omega
    simp [lapseF, wfr, lapSh, lapN, lapCnt, lapAll]
theorem e_lapse0 : lapseF (wfr 1048576) = (0, wfr 1048576) := e_lapse 1048576 (by omega)
theorem e_issue (g : Int) (h : g < 1048576) : issueF (wfr g) 0 = ((0, 0, g), 0, wav g) := by
  simp [issueF, wfr, wav, shOf, h, setIx, setFr]
theorem e_head : headF (wfr 1048576) 0 = (0, false, 8) := rfl
theorem e_issue8 : issueF (wfr 1048576) 0 = ((0, 0, 0), 8, wfr 1048576) := rfl
theorem e_list : listF (wfr 1048576) = [] := rfl

theorem st_set {w0 W : World} {L : Lay} {M : List Sh} {p b o : Nat} {u : Value} (h : St w0 W L M p) (hb : w0.heap.size ≤ b) (hn : ¬ L.own b) : St w0 (W.setCell ⟨b, o, none⟩ u) L M p :=
  ⟨h.hP, h.hp.chg ((Chg.refl W (fun x => x = b)).setCell _ _ (.inl rfl)) (fun _ hx e => hn (e ▸ hx)), h.hb.setCell hb _, h.ho⟩

theorem sl_form {w : World} {e : TypeId} {size : Nat} {v : Value} {n : Nat} {xs : List Value} (h : Sl w e size v n xs) : ∃ p cap, v = .slice p n cap ∧ n ≤ maxLen := by
  obtain ⟨_, ⟨rfl, rfl⟩ | ⟨g, off, cap, cur, rfl, _, h1, h2, _⟩⟩ := h
  · exact ⟨none, 0, rfl, by omega⟩
  · exact ⟨_, cap, rfl, by omega⟩


/-- A box of the caller's beside a pool, known whole. -/
def BoxB (W : World) (L : Lay) (b : Nat) (cs : Array Value) : Prop := ¬ L.own b ∧ W.heap[b]? = some (.cells cs 30 (0, 0))
theorem BoxB.new {W : World} {L : Lay} {M : List Sh} (hp : PoolAt W L M) (cs : Array Value) : BoxB (W.alloc (.cells cs 30)) L W.heap.size cs := ⟨fun h => by have := hp.lt h; omega, heap_alloc_new _ _⟩
theorem BoxB.lt {W : World} {L : Lay} {b : Nat} {cs : Array Value} (h : BoxB W L b cs) : b < W.heap.size := lt_of_heap h.2
theorem BoxB.grow {W W' : World} {L : Lay} {b : Nat} {cs : Array Value} (h : BoxB W L b cs) (hb : Below W.heap.size W W') : BoxB W' L b cs := ⟨h.1, (hb.block b h.lt).trans h.2⟩
theorem BoxB.went {W w' : World} {L L' : Lay} {b : Nat} {cs : Array Value} (h : BoxB W L b cs) (hc : Chg W w' L.own) (ho : ∀ b, L'.own b → L.own b ∨ W.heap.size ≤ b) : BoxB w' L' b cs :=
  ⟨fun h' => (ho b h').elim h.1 fun h' => by have := h.lt; omega, (hc.block b h.lt h.1).trans h.2⟩
theorem BoxB.facts {W : World} {L : Lay} {b : Nat} {cs : Array Value} (h : BoxB W L b cs) : b < W.heap.size ∧ (∀ j, W.cell? ⟨b, j, none⟩ = cs[j]?) ∧ ∀ j, W.frozen? ⟨b, j, none⟩ = false :=
  ⟨h.lt, fun j => by simp [World.cell?, h.2], fun j => by simp [World.frozen?, h.2]⟩
theorem BoxB.set {W : World} {L : Lay} {b o : Nat} {u : Value} {cs : Array Value} (h : BoxB W L b cs) : BoxB (W.setCell ⟨b, o, none⟩ u) L b (cs.setIfInBounds o u) := ⟨h.1, heap_setCell_same _ _ _ _ _ _ _ h.2⟩

/-- Behind the first loop's rounds; behind the second one's. -/
def W1 (w wr : World) (n : Nat) : Prop := ∃ L, St w wr L (wsh (8 * (n : Int))) (w.heap.size + 1)
def W2 (w wr : World) (b : Nat) (g : Int) : Prop := ∃ L, St w wr L (wfr (g + 1)) (w.heap.size + 1) ∧ BoxB wr L b #[.int .i64 0, .int .i64 0, .int .i64 g]

set_option maxRecDepth 100000 in
set_option maxHeartbeats 4000000 in
theorem walk (z0 : Int) (lap : Bool) (w : World) :
    Calls Try.prog 13 #[.int .i64 z0, .bool lap] w fun e w' => e = .returned (.bool true) ∧ Below w.heap.size w w' := by
  obtain ⟨r, hr⟩ : ∃ r : Nat, z0 % 3 = r := ⟨(z0 % 3).toNat, (Int.toNat_of_nonneg (Int.emod_nonneg _ (by omega))).symm⟩
  have hr3 : r < 3 := by have := Int.emod_lt_of_pos z0 (by omega : (0 : Int) < 3); omega
  have HR := Lib.hid hr
  clear hr
  have hnew := fun W => new_p 1 1 W (by omega) (by omega) (by omega) (by omega)
  simp only [Int.cast_ofNat_Int] at hnew
  have HNEW := Lib.hid hnew
  clear hnew
  go_enter Try.func13, Try.ntmps13
  go_wp2_with fail
  refine (HNEW.out _).mono ?_
  rintro e w1 ⟨rfl, hb1, L1, hP1, hp1, ho1⟩
  rw [e_new] at hp1
  have st1 : St w w1 L1 _ _ := ⟨hP1, hp1, hb1, ho1⟩
  have ST1 := Lib.hid st1
  clear hP1 hp1 hb1 ho1 st1
  go_wp2_with fail
  obtain ⟨B, hB⟩ : ∃ B : Nat, B = 131073 := ⟨_, rfl⟩
  have HB := Lib.hid hB
  have hB0 : 0 < B := by omega
  clear hB
  go_loopw [7] (fun i wr => ∃ n : Nat, i = .int .i64 n ∧ n < B ∧ W1 w wr n) (fun i _ => B - (intOf i).toNat)
  case atStart => exact ⟨0, rfl, hB0, L1, ST1.out.grow (by repeat' (first | (with_reducible exact Below.refl _ _) | (with_reducible assumption) | (with_reducible refine below_drewN ?_ _) | (with_reducible refine below_more _ _ _ ?_ ?_) | (with_reducible refine Below.alloc ?_ ?_ _) | (with_reducible refine Below.drew ?_) | (with_reducible refine Below.setCell ?_ ?_ _) | go_size))⟩
  case round =>
    obtain ⟨n, rfl, hn, hw1⟩ := hrel
    clear ST1
    obtain ⟨wo, rfl⟩ : ∃ wo : World, wo = wr := ⟨_, rfl⟩
    obtain ⟨L2, st2⟩ := hw1
    have hnI : 0 ≤ (n : Int) := Int.natCast_nonneg n
    by_cases hlt : n + 1 < B
    · have e1 := e_res (8 * (n : Int)) (by have := HB.out; omega)
      have hn8 : (n : Int) < 1048576 := by have := HB.out; omega
      have E1 := Lib.hid e1
      clear e1
      have ST2 := Lib.hid st2
      clear st2
      go_wp2_with fail
      refine (reserve_p _ L2 _ _ ST2.out.hP (ST2.out.grow (by repeat' (first | (with_reducible exact Below.refl _ _) | (with_reducible assumption) | (with_reducible refine below_drewN ?_ _) | (with_reducible refine below_more _ _ _ ?_ ?_) | (with_reducible refine Below.alloc ?_ ?_ _) | (with_reducible refine Below.drew ?_) | (with_reducible refine Below.setCell ?_ ?_ _) | go_size))).hp 0 0).mono ?_
      rw [E1.out]
      rintro e w3 ⟨rfl, hs⟩
      obtain ⟨L3, st3, c3, o3⟩ := (ST2.out.grow (by repeat' (first | (with_reducible exact Below.refl _ _) | (with_reducible assumption) | (with_reducible refine below_drewN ?_ _) | (with_reducible refine below_more _ _ _ ?_ ?_) | (with_reducible refine Below.alloc ?_ ?_ _) | (with_reducible refine Below.drew ?_) | (with_reducible refine Below.setCell ?_ ?_ _) | go_size))).went hs
      have ST3 := Lib.hid st3
      clear hs st3 c3 o3
      go_wp2_with fail
      go_roundw
      case rel => exact ⟨n + 1, by go_num, by omega, L3, by rw [show 8 * (((n + 1 : Nat)) : Int) = 8 * (n : Int) + 8 by omega]; exact ST3.out.grow (by repeat' (first | (with_reducible exact Below.refl _ _) | (with_reducible assumption) | (with_reducible refine below_drewN ?_ _) | (with_reducible refine below_more _ _ _ ?_ ?_) | (with_reducible refine Below.alloc ?_ ?_ _) | (with_reducible refine Below.drew ?_) | (with_reducible refine Below.setCell ?_ ?_ _) | go_size))⟩
      case measure => simp [intOf]; omega
    · have hB := HB.out
      obtain rfl : n = 131072 := by omega
      clear hlt hn hnI hB HB hB0
      rw [show 8 * ((131072 : Nat) : Int) = 1048576 from rfl] at st2
      have ST2 := Lib.hid st2
      clear st2
      simp only [Int.cast_ofNat_Int]
      go_wp2_with fail
      refine (reserve_p _ L2 _ _ ST2.out.hP (ST2.out.grow (by repeat' (first | (with_reducible exact Below.refl _ _) | (with_reducible assumption) | (with_reducible refine below_drewN ?_ _) | (with_reducible refine below_more _ _ _ ?_ ?_) | (with_reducible refine Below.alloc ?_ ?_ _) | (with_reducible refine Below.drew ?_) | (with_reducible refine Below.setCell ?_ ?_ _) | go_size))).hp 0 0).mono ?_
      rw [e_full]
      rintro e w3 ⟨rfl, hs⟩
      obtain ⟨L3, st3, c3, o3⟩ := (ST2.out.grow (by repeat' (first | (with_reducible exact Below.refl _ _) | (with_reducible assumption) | (with_reducible refine below_drewN ?_ _) | (with_reducible refine below_more _ _ _ ?_ ?_) | (with_reducible refine Below.alloc ?_ ?_ _) | (with_reducible refine Below.drew ?_) | (with_reducible refine Below.setCell ?_ ?_ _) | go_size))).went hs
      clear hs c3 o3
      have hr1 : (r : Int) < 3 := by omega
      have hr0 : 0 ≤ (r : Int) := Int.natCast_nonneg r
      have e6 := e_take (1048575 - r) (by omega) (by omega)
      have e7 := e_state (1048575 - r) (by omega)
      have e8 := e_free (1048575 - r) (by omega)
      have E6 := Lib.hid e6
      have E7 := Lib.hid e7
      have E8 := Lib.hid e8
      clear e6 e7 e8 ST2
      go_wp2_with fail
      refine (reserve_p _ L3 _ _ st3.hP (st3.grow (by repeat' (first | (with_reducible exact Below.refl _ _) | (with_reducible assumption) | (with_reducible refine below_drewN ?_ _) | (with_reducible refine below_more _ _ _ ?_ ?_) | (with_reducible refine Below.alloc ?_ ?_ _) | (with_reducible refine Below.drew ?_) | (with_reducible refine Below.setCell ?_ ?_ _) | go_size))).hp 0 0).mono ?_
      rw [e_full]
      rintro e w4 ⟨rfl, hs⟩
      obtain ⟨L4, st4, c4, o4⟩ := (st3.grow (by repeat' (first | (with_reducible exact Below.refl _ _) | (with_reducible assumption) | (with_reducible refine below_drewN ?_ _) | (with_reducible refine below_more _ _ _ ?_ ?_) | (with_reducible refine Below.alloc ?_ ?_ _) | (with_reducible refine Below.drew ?_) | (with_reducible refine Below.setCell ?_ ?_ _) | go_size))).went hs
      clear hs
      go_wp2_with fail
      refine (take_p _ L4 _ _ st4.hP (st4.grow (by repeat' (first | (with_reducible exact Below.refl _ _) | (with_reducible assumption) | (with_reducible refine below_drewN ?_ _) | (with_reducible refine below_more _ _ _ ?_ ?_) | (with_reducible refine Below.alloc ?_ ?_ _) | (with_reducible refine Below.drew ?_) | (with_reducible refine Below.setCell ?_ ?_ _) | go_size))).hp 0 0 1048576).mono ?_
      rw [e_stale]
      rintro e w5 ⟨rfl, hs⟩
      obtain ⟨L5, st5, c5, o5⟩ := (st4.grow (by repeat' (first | (with_reducible exact Below.refl _ _) | (with_reducible assumption) | (with_reducible refine below_drewN ?_ _) | (with_reducible refine below_more _ _ _ ?_ ?_) | (with_reducible refine Below.alloc ?_ ?_ _) | (with_reducible refine Below.drew ?_) | (with_reducible refine Below.setCell ?_ ?_ _) | go_size))).went hs
      clear hs
      go_wp2_with fail
      refine (mod_any z0 3 _ (by omega) (by omega)).mono ?_
      rw [HR.out]
      rintro e w' ⟨rfl, rfl⟩
      go_wp2_with fail
      have ba5 := BoxB.new st5.hp #[.int .i64 0, .int .i64 0, .int .i64 (1048575 - r)]
      refine (take_p _ L5 _ _ st5.hP (st5.grow (by repeat' (first | (with_reducible exact Below.refl _ _) | (with_reducible assumption) | (with_reducible refine below_drewN ?_ _) | (with_reducible refine below_more _ _ _ ?_ ?_) | (with_reducible refine Below.alloc ?_ ?_ _) | (with_reducible refine Below.drew ?_) | (with_reducible refine Below.setCell ?_ ?_ _) | go_size))).hp 0 0 (1048575 - r)).mono ?_
      rw [E6.out]
      rintro e w6 ⟨rfl, hs⟩
      obtain ⟨L6, st6, c6, o6⟩ := (st5.grow (by repeat' (first | (with_reducible exact Below.refl _ _) | (with_reducible assumption) | (with_reducible refine below_drewN ?_ _) | (with_reducible refine below_more _ _ _ ?_ ?_) | (with_reducible refine Below.alloc ?_ ?_ _) | (with_reducible refine Below.drew ?_) | (with_reducible refine Below.setCell ?_ ?_ _) | go_size))).went hs
      clear hs
      have ba6 := (ba5.grow (by repeat' (first | (with_reducible exact Below.refl _ _) | (with_reducible assumption) | (with_reducible refine below_drewN ?_ _) | (with_reducible refine below_more _ _ _ ?_ ?_) | (with_reducible refine Below.alloc ?_ ?_ _) | (with_reducible refine Below.drew ?_) | (with_reducible refine Below.setCell ?_ ?_ _) | go_size))).went c6 o6
      obtain ⟨a1, a2, a3⟩ := ba6.facts
      obtain ⟨y0, y1, y2, y3⟩ := lts a1
      go_wp2_with fail
      refine (take_p _ L6 _ _ st6.hP (st6.grow (by repeat' (first | (with_reducible exact Below.refl _ _) | (with_reducible assumption) | (with_reducible refine below_drewN ?_ _) | (with_reducible refine below_more _ _ _ ?_ ?_) | (with_reducible refine Below.alloc ?_ ?_ _) | (with_reducible refine Below.drew ?_) | (with_reducible refine Below.setCell ?_ ?_ _) | go_size))).hp 0 0 (1048575 - r)).mono ?_
      rw [E7.out]
      rintro e w7 ⟨rfl, hs⟩
      obtain ⟨L7, st7, c7, o7⟩ := (st6.grow (by repeat' (first | (with_reducible exact Below.refl _ _) | (with_reducible assumption) | (with_reducible refine below_drewN ?_ _) | (with_reducible refine below_more _ _ _ ?_ ?_) | (with_reducible refine Below.alloc ?_ ?_ _) | (with_reducible refine Below.drew ?_) | (with_reducible refine Below.setCell ?_ ?_ _) | go_size))).went hs
      clear hs
      have ba7 := (ba6.grow (by repeat' (first | (with_reducible exact Below.refl _ _) | (with_reducible assumption) | (with_reducible refine below_drewN ?_ _) | (with_reducible refine below_more _ _ _ ?_ ?_) | (with_reducible refine Below.alloc ?_ ?_ _) | (with_reducible refine Below.drew ?_) | (with_reducible refine Below.setCell ?_ ?_ _) | go_size))).went c7 o7
      clear a1 a2 a3 y0 y1 y2 y3
      obtain ⟨a1, a2, a3⟩ := ba7.facts
      obtain ⟨y0, y1, y2, y3⟩ := lts a1
      go_wp2_with fail
      refine (free_p _ L7 _ _ st7.hP (st7.grow (by repeat' (first | (with_reducible exact Below.refl _ _) | (with_reducible assumption) | (with_reducible refine below_drewN ?_ _) | (with_reducible refine below_more _ _ _ ?_ ?_) | (with_reducible refine Below.alloc ?_ ?_ _) | (with_reducible refine Below.drew ?_) | (with_reducible refine Below.setCell ?_ ?_ _) | go_size))).hp 0 0 (1048575 - r)).mono ?_
      rw [E8.out]
      rintro e w8 ⟨rfl, hs⟩
      obtain ⟨L8, st8, c8, o8⟩ := (st7.grow (by repeat' (first | (with_reducible exact Below.refl _ _) | (with_reducible assumption) | (with_reducible refine below_drewN ?_ _) | (with_reducible refine below_more _ _ _ ?_ ?_) | (with_reducible refine Below.alloc ?_ ?_ _) | (with_reducible refine Below.drew ?_) | (with_reducible refine Below.setCell ?_ ?_ _) | go_size))).went hs
      clear hs
      have ba8 := (ba7.grow (by repeat' (first | (with_reducible exact Below.refl _ _) | (with_reducible assumption) | (with_reducible refine below_drewN ?_ _) | (with_reducible refine below_more _ _ _ ?_ ?_) | (with_reducible refine Below.alloc ?_ ?_ _) | (with_reducible refine Below.drew ?_) | (with_reducible refine Below.setCell ?_ ?_ _) | go_size))).went c8 o8
      clear a1 a2 a3 y0 y1 y2 y3
      have hbs5 := st5.hb.size
      clear ba5 ba6 ba7 st3 st4 st5 st6 st7 c4 c5 c6 c7 c8 o4 o5 o6 o7 o8 E6 E7 E8
      generalize w5.heap.size = b at *
      have BA8 := Lib.hid ba8
      have ST8 := Lib.hid st8
      clear ba8 st8
      rw [show 1048575 - (r : Int) + 1 = 1048576 - r by omega] at ST8
      cases lap with
      | true =>
        clear BA8 hbs5
        have hmin : min (r : Int) 1 = if r = 0 then 0 else 1 := by split <;> omega
        have HMIN := Lib.hid hmin
        clear hmin
        by_cases hr00 : r = 0
        · subst hr00
          go_wp2_with fail
          refine (lapse_p _ L8 _ _ ST8.out.hP (ST8.out.grow (by repeat' (first | (with_reducible exact Below.refl _ _) | (with_reducible assumption) | (with_reducible refine below_drewN ?_ _) | (with_reducible refine below_more _ _ _ ?_ ?_) | (with_reducible refine Below.alloc ?_ ?_ _) | (with_reducible refine Below.drew ?_) | (with_reducible refine Below.setCell ?_ ?_ _) | go_size))).hp).mono ?_
          rw [show 1048576 - ((0 : Nat) : Int) = 1048576 from rfl, e_lapse0]
          rintro e w9 ⟨rfl, hs⟩
          obtain ⟨L9, st9, c9, o9⟩ := (ST8.out.grow (by repeat' (first | (with_reducible exact Below.refl _ _) | (with_reducible assumption) | (with_reducible refine below_drewN ?_ _) | (with_reducible refine below_more _ _ _ ?_ ?_) | (with_reducible refine Below.alloc ?_ ?_ _) | (with_reducible refine Below.drew ?_) | (with_reducible refine Below.setCell ?_ ?_ _) | go_size))).went hs
          clear hs c9 o9 ST8
          go_wp2_with fail
          refine (mod_any z0 3 _ (by omega) (by omega)).mono ?_
          rw [HR.out]
          rintro e w' ⟨rfl, rfl⟩
          go_wp2_with fail
          refine wp_loop_rounds 1 ?_
          rw [rounds_succ]
          go_wp2_with fail
          refine (head_p _ L9 _ _ st9.hP (st9.grow (by repeat' (first | (with_reducible exact Below.refl _ _) | (with_reducible assumption) | (with_reducible refine below_drewN ?_ _) | (with_reducible refine below_more _ _ _ ?_ ?_) | (with_reducible refine Below.alloc ?_ ?_ _) | (with_reducible refine Below.drew ?_) | (with_reducible refine Below.setCell ?_ ?_ _) | go_size))).hp 0).mono ?_
          rw [e_head]
          rintro e wb ⟨rfl, hb⟩
          obtain ⟨d, os, rfl⟩ := more_of hb
          clear hb
          go_wp2_with fail
          refine (issue_p _ L9 _ _ st9.hP (st9.grow (by repeat' (first | (with_reducible exact Below.refl _ _) | (with_reducible assumption) | (with_reducible refine below_drewN ?_ _) | (with_reducible refine below_more _ _ _ ?_ ?_) | (with_reducible refine Below.alloc ?_ ?_ _) | (with_reducible refine Below.drew ?_) | (with_reducible refine Below.setCell ?_ ?_ _) | go_size))).hp 0).mono ?_
          rw [e_issue8]
          rintro e wc ⟨rfl, hs⟩
          obtain ⟨LB, stB, cB, oB⟩ := (st9.grow (by repeat' (first | (with_reducible exact Below.refl _ _) | (with_reducible assumption) | (with_reducible refine below_drewN ?_ _) | (with_reducible refine below_more _ _ _ ?_ ?_) | (with_reducible refine Below.alloc ?_ ?_ _) | (with_reducible refine Below.drew ?_) | (with_reducible refine Below.setCell ?_ ?_ _) | go_size))).went hs
          clear hs cB oB
          go_wp2_with fail
          refine (list_p _ LB _ _ stB.hP (stB.grow (by repeat' (first | (with_reducible exact Below.refl _ _) | (with_reducible assumption) | (with_reducible refine below_drewN ?_ _) | (with_reducible refine below_more _ _ _ ?_ ?_) | (with_reducible refine Below.alloc ?_ ?_ _) | (with_reducible refine Below.drew ?_) | (with_reducible refine Below.setCell ?_ ?_ _) | go_size))).hp).mono ?_
          rintro e wd ⟨vl, rfl, hl⟩
          obtain ⟨hl0, hlb, _⟩ := hl
          rw [e_list] at hl0
          obtain ⟨pl, cl, rfl, _⟩ := sl_form hl0
          obtain ⟨d2, os2, rfl⟩ := more_of hlb
          clear hl0 hlb
          go_wp2_with fail
          refine (lapse_p _ LB _ _ stB.hP (stB.grow (by repeat' (first | (with_reducible exact Below.refl _ _) | (with_reducible assumption) | (with_reducible refine below_drewN ?_ _) | (with_reducible refine below_more _ _ _ ?_ ?_) | (with_reducible refine Below.alloc ?_ ?_ _) | (with_reducible refine Below.drew ?_) | (with_reducible refine Below.setCell ?_ ?_ _) | go_size))).hp).mono ?_
          rw [e_lapse0]
          rintro e we ⟨rfl, hs⟩
          obtain ⟨LC, stC, cC, oC⟩ := (stB.grow (by repeat' (first | (with_reducible exact Below.refl _ _) | (with_reducible assumption) | (with_reducible refine below_drewN ?_ _) | (with_reducible refine below_more _ _ _ ?_ ?_) | (with_reducible refine Below.alloc ?_ ?_ _) | (with_reducible refine Below.drew ?_) | (with_reducible refine Below.setCell ?_ ?_ _) | go_size))).went hs
          clear hs cC oC
          go_wp2_with (go_at_call 22; refine (awake8 _).mono ?_; rintro e w' ⟨rfl, hb⟩; obtain ⟨d, os, rfl⟩ := more_of hb; clear hb)
          go_ret
          exact ⟨rfl, stC.hb.trans (Below.mono (B := we.heap.size) (by repeat' (first | (with_reducible exact Below.refl _ _) | (with_reducible assumption) | (with_reducible refine below_drewN ?_ _) | (with_reducible refine below_more _ _ _ ?_ ?_) | (with_reducible refine Below.alloc ?_ ?_ _) | (with_reducible refine Below.drew ?_) | (with_reducible refine Below.setCell ?_ ?_ _) | go_size)) stC.hb.size)⟩
        · have hr01 : (1 : Int) ≤ (r : Int) := by omega
          have e1 := e_lapse (1048576 - (r : Int)) (by omega)
          rw [if_pos (by omega)] at e1
          have E1 := Lib.hid e1
          clear e1 hr00
          go_wp2_with fail
          refine (lapse_p _ L8 _ _ ST8.out.hP (ST8.out.grow (by repeat' (first | (with_reducible exact Below.refl _ _) | (with_reducible assumption) | (with_reducible refine below_drewN ?_ _) | (with_reducible refine below_more _ _ _ ?_ ?_) | (with_reducible refine Below.alloc ?_ ?_ _) | (with_reducible refine Below.drew ?_) | (with_reducible refine Below.setCell ?_ ?_ _) | go_size))).hp).mono ?_
          rw [E1.out]
          rintro e w9 ⟨rfl, hs⟩
          obtain ⟨L9, st9, c9, o9⟩ := (ST8.out.grow (by repeat' (first | (with_reducible exact Below.refl _ _) | (with_reducible assumption) | (with_reducible refine below_drewN ?_ _) | (with_reducible refine below_more _ _ _ ?_ ?_) | (with_reducible refine Below.alloc ?_ ?_ _) | (with_reducible refine Below.drew ?_) | (with_reducible refine Below.setCell ?_ ?_ _) | go_size))).went hs
          clear hs c9 o9 ST8
          go_wp2_with fail
          refine (mod_any z0 3 _ (by omega) (by omega)).mono ?_
          rw [HR.out]
          rintro e w' ⟨rfl, rfl⟩
          go_wp2_with fail
          refine wp_loop_rounds 1 ?_
          rw [rounds_succ]
          go_wp2_with fail
          refine (head_p _ L9 _ _ st9.hP (st9.grow (by repeat' (first | (with_reducible exact Below.refl _ _) | (with_reducible assumption) | (with_reducible refine below_drewN ?_ _) | (with_reducible refine below_more _ _ _ ?_ ?_) | (with_reducible refine Below.alloc ?_ ?_ _) | (with_reducible refine Below.drew ?_) | (with_reducible refine Below.setCell ?_ ?_ _) | go_size))).hp 0).mono ?_
          rw [e_head]
          rintro e wb ⟨rfl, hb⟩
          obtain ⟨d, os, rfl⟩ := more_of hb
          clear hb
          go_wp2_with fail
          refine (issue_p _ L9 _ _ st9.hP (st9.grow (by repeat' (first | (with_reducible exact Below.refl _ _) | (with_reducible assumption) | (with_reducible refine below_drewN ?_ _) | (with_reducible refine below_more _ _ _ ?_ ?_) | (with_reducible refine Below.alloc ?_ ?_ _) | (with_reducible refine Below.drew ?_) | (with_reducible refine Below.setCell ?_ ?_ _) | go_size))).hp 0).mono ?_
          rw [e_issue8]
          rintro e wc ⟨rfl, hs⟩
          obtain ⟨LB, stB, cB, oB⟩ := (st9.grow (by repeat' (first | (with_reducible exact Below.refl _ _) | (with_reducible assumption) | (with_reducible refine below_drewN ?_ _) | (with_reducible refine below_more _ _ _ ?_ ?_) | (with_reducible refine Below.alloc ?_ ?_ _) | (with_reducible refine Below.drew ?_) | (with_reducible refine Below.setCell ?_ ?_ _) | go_size))).went hs
          clear hs cB oB
          go_wp2_with fail
          refine (list_p _ LB _ _ stB.hP (stB.grow (by repeat' (first | (with_reducible exact Below.refl _ _) | (with_reducible assumption) | (with_reducible refine below_drewN ?_ _) | (with_reducible refine below_more _ _ _ ?_ ?_) | (with_reducible refine Below.alloc ?_ ?_ _) | (with_reducible refine Below.drew ?_) | (with_reducible refine Below.setCell ?_ ?_ _) | go_size))).hp).mono ?_
          rintro e wd ⟨vl, rfl, hl⟩
          obtain ⟨hl0, hlb, _⟩ := hl
          rw [e_list] at hl0
          obtain ⟨pl, cl, rfl, _⟩ := sl_form hl0
          obtain ⟨d2, os2, rfl⟩ := more_of hlb
          clear hl0 hlb
          go_wp2_with fail
          refine (lapse_p _ LB _ _ stB.hP (stB.grow (by repeat' (first | (with_reducible exact Below.refl _ _) | (with_reducible assumption) | (with_reducible refine below_drewN ?_ _) | (with_reducible refine below_more _ _ _ ?_ ?_) | (with_reducible refine Below.alloc ?_ ?_ _) | (with_reducible refine Below.drew ?_) | (with_reducible refine Below.setCell ?_ ?_ _) | go_size))).hp).mono ?_
          rw [e_lapse0]
          rintro e we ⟨rfl, hs⟩
          obtain ⟨LC, stC, cC, oC⟩ := (stB.grow (by repeat' (first | (with_reducible exact Below.refl _ _) | (with_reducible assumption) | (with_reducible refine below_drewN ?_ _) | (with_reducible refine below_more _ _ _ ?_ ?_) | (with_reducible refine Below.alloc ?_ ?_ _) | (with_reducible refine Below.drew ?_) | (with_reducible refine Below.setCell ?_ ?_ _) | go_size))).went hs
          clear hs cC oC
          go_wp2_with (go_at_call 22; refine (awake8 _).mono ?_; rintro e w' ⟨rfl, hb⟩; obtain ⟨d, os, rfl⟩ := more_of hb; clear hb)
          go_ret
          exact ⟨rfl, stC.hb.trans (Below.mono (B := we.heap.size) (by repeat' (first | (with_reducible exact Below.refl _ _) | (with_reducible assumption) | (with_reducible refine below_drewN ?_ _) | (with_reducible refine below_more _ _ _ ?_ ?_) | (with_reducible refine Below.alloc ?_ ?_ _) | (with_reducible refine Below.drew ?_) | (with_reducible refine Below.setCell ?_ ?_ _) | go_size)) stC.hb.size)⟩
      | false =>
        go_wp2_with fail
        go_loopg [10] r (fun kx _ wr => ∃ g : Int, 0 ≤ g ∧ g ≤ 1048575 ∧ 1048575 - g ≤ (kx : Int) ∧ Hid (W2 w wr b g))
        case atStart => exact ⟨1048575 - r, by omega, by omega, by omega, Lib.hid ⟨L8, by rw [show 1048575 - (r : Int) + 1 = 1048576 - r by omega]; exact ST8.out.grow (by repeat' (first | (with_reducible exact Below.refl _ _) | (with_reducible assumption) | (with_reducible refine below_drewN ?_ _) | (with_reducible refine below_more _ _ _ ?_ ?_) | (with_reducible refine Below.alloc ?_ ?_ _) | (with_reducible refine Below.drew ?_) | (with_reducible refine Below.setCell ?_ ?_ _) | go_size)), BA8.out.grow (by repeat' (first | (with_reducible exact Below.refl _ _) | (with_reducible assumption) | (with_reducible refine below_drewN ?_ _) | (with_reducible refine below_more _ _ _ ?_ ?_) | (with_reducible refine Below.alloc ?_ ?_ _) | (with_reducible refine Below.drew ?_) | (with_reducible refine Below.setCell ?_ ?_ _) | go_size))⟩⟩
        case round =>
          obtain ⟨g, hg0, hg1, hgk, hw⟩ := hrel
          clear ST8 BA8
          obtain ⟨wa, rfl⟩ : ∃ wa : World, wa = wr := ⟨_, rfl⟩
          obtain ⟨La, sta, baa⟩ := hw.out
          clear hw
          obtain ⟨a1, a2, a3⟩ := baa.facts
          obtain ⟨y0, y1, y2, y3⟩ := lts a1
          by_cases hlt : g < 1048575
          · have e1 := e_issue (g + 1) (by omega)
            have e2 := e_free (g + 1) (by omega)
            have E1 := Lib.hid e1
            have E2 := Lib.hid e2
            have heq : idEq 0 0 (g + 1) 0 0 (g + 1) = true := by simp [idEq]
            clear e1 e2
            go_wp2_with fail
            refine (issue_p _ La _ _ sta.hP (sta.grow (by repeat' (first | (with_reducible exact Below.refl _ _) | (with_reducible assumption) | (with_reducible refine below_drewN ?_ _) | (with_reducible refine below_more _ _ _ ?_ ?_) | (with_reducible refine Below.alloc ?_ ?_ _) | (with_reducible refine Below.drew ?_) | (with_reducible refine Below.setCell ?_ ?_ _) | go_size))).hp 0).mono ?_
            rw [E1.out]
            rintro e wc ⟨rfl, hs⟩
            obtain ⟨LB, stB, cB, oB⟩ := (sta.grow (by repeat' (first | (with_reducible exact Below.refl _ _) | (with_reducible assumption) | (with_reducible refine below_drewN ?_ _) | (with_reducible refine below_more _ _ _ ?_ ?_) | (with_reducible refine Below.alloc ?_ ?_ _) | (with_reducible refine Below.drew ?_) | (with_reducible refine Below.setCell ?_ ?_ _) | go_size))).went hs
            have bab := baa.went cB oB
            clear hs cB oB a1 a2 a3 y0 y1 y2 y3
            obtain ⟨a1, a2, a3⟩ := bab.facts
            obtain ⟨y0, y1, y2, y3⟩ := lts a1
            clear baa sta
            go_wp2_with fail
            have stS := st_set (o := 2) (u := .int .i64 (g + 1)) stB hbs5 bab.1
            have baS := bab.set (o := 2) (u := .int .i64 (g + 1))
            simp at baS
            refine (free_p _ LB _ _ stS.hP (stS.grow (by repeat' (first | (with_reducible exact Below.refl _ _) | (with_reducible assumption) | (with_reducible refine below_drewN ?_ _) | (with_reducible refine below_more _ _ _ ?_ ?_) | (with_reducible refine Below.alloc ?_ ?_ _) | (with_reducible refine Below.drew ?_) | (with_reducible refine Below.setCell ?_ ?_ _) | go_size))).hp 0 0 (g + 1)).mono ?_
            rw [E2.out]
            rintro e wd ⟨rfl, hs⟩
            obtain ⟨LC, stC, cC, oC⟩ := (stS.grow (by repeat' (first | (with_reducible exact Below.refl _ _) | (with_reducible assumption) | (with_reducible refine below_drewN ?_ _) | (with_reducible refine below_more _ _ _ ?_ ?_) | (with_reducible refine Below.alloc ?_ ?_ _) | (with_reducible refine Below.drew ?_) | (with_reducible refine Below.setCell ?_ ?_ _) | go_size))).went hs
            have bac := (baS.grow (by repeat' (first | (with_reducible exact Below.refl _ _) | (with_reducible assumption) | (with_reducible refine below_drewN ?_ _) | (with_reducible refine below_more _ _ _ ?_ ?_) | (with_reducible refine Below.alloc ?_ ?_ _) | (with_reducible refine Below.drew ?_) | (with_reducible refine Below.setCell ?_ ?_ _) | go_size))).went cC oC
            clear hs cC oC a1 a2 a3 y0 y1 y2 y3 stB bab stS baS
            go_wp2_with fail
            go_roundg (1048575 - (g + 1)).toNat
            case measure => omega
            case rel => exact ⟨g + 1, by omega, by omega, by omega, Lib.hid ⟨LC, stC, bac⟩⟩
          · obtain rfl : g = 1048575 := by omega
            have stA := sta
            clear baa sta
            rw [show (1048575 : Int) + 1 = 1048576 from rfl] at stA
            go_wp2_with fail
            refine (head_p _ La _ _ stA.hP (stA.grow (by repeat' (first | (with_reducible exact Below.refl _ _) | (with_reducible assumption) | (with_reducible refine below_drewN ?_ _) | (with_reducible refine below_more _ _ _ ?_ ?_) | (with_reducible refine Below.alloc ?_ ?_ _) | (with_reducible refine Below.drew ?_) | (with_reducible refine Below.setCell ?_ ?_ _) | go_size))).hp 0).mono ?_
            rw [e_head]
            rintro e wb ⟨rfl, hb⟩
            obtain ⟨d, os, rfl⟩ := more_of hb
            clear hb
            go_wp2_with fail
            refine (issue_p _ La _ _ stA.hP (stA.grow (by repeat' (first | (with_reducible exact Below.refl _ _) | (with_reducible assumption) | (with_reducible refine below_drewN ?_ _) | (with_reducible refine below_more _ _ _ ?_ ?_) | (with_reducible refine Below.alloc ?_ ?_ _) | (with_reducible refine Below.drew ?_) | (with_reducible refine Below.setCell ?_ ?_ _) | go_size))).hp 0).mono ?_
            rw [e_issue8]
            rintro e wc ⟨rfl, hs⟩
            obtain ⟨LB, stB, cB, oB⟩ := (stA.grow (by repeat' (first | (with_reducible exact Below.refl _ _) | (with_reducible assumption) | (with_reducible refine below_drewN ?_ _) | (with_reducible refine below_more _ _ _ ?_ ?_) | (with_reducible refine Below.alloc ?_ ?_ _) | (with_reducible refine Below.drew ?_) | (with_reducible refine Below.setCell ?_ ?_ _) | go_size))).went hs
            clear hs cB oB
            go_wp2_with fail
            refine (list_p _ LB _ _ stB.hP (stB.grow (by repeat' (first | (with_reducible exact Below.refl _ _) | (with_reducible assumption) | (with_reducible refine below_drewN ?_ _) | (with_reducible refine below_more _ _ _ ?_ ?_) | (with_reducible refine Below.alloc ?_ ?_ _) | (with_reducible refine Below.drew ?_) | (with_reducible refine Below.setCell ?_ ?_ _) | go_size))).hp).mono ?_
            rintro e wd ⟨vl, rfl, hl⟩
            obtain ⟨hl0, hlb, _⟩ := hl
            rw [e_list] at hl0
            obtain ⟨pl, cl, rfl, _⟩ := sl_form hl0
            obtain ⟨d2, os2, rfl⟩ := more_of hlb
            clear hl0 hlb
            go_wp2_with fail
            refine (lapse_p _ LB _ _ stB.hP (stB.grow (by repeat' (first | (with_reducible exact Below.refl _ _) | (with_reducible assumption) | (with_reducible refine below_drewN ?_ _) | (with_reducible refine below_more _ _ _ ?_ ?_) | (with_reducible refine Below.alloc ?_ ?_ _) | (with_reducible refine Below.drew ?_) | (with_reducible refine Below.setCell ?_ ?_ _) | go_size))).hp).mono ?_
            rw [e_lapse0]
            rintro e we ⟨rfl, hs⟩
            obtain ⟨LC, stC, cC, oC⟩ := (stB.grow (by repeat' (first | (with_reducible exact Below.refl _ _) | (with_reducible assumption) | (with_reducible refine below_drewN ?_ _) | (with_reducible refine below_more _ _ _ ?_ ?_) | (with_reducible refine Below.alloc ?_ ?_ _) | (with_reducible refine Below.drew ?_) | (with_reducible refine Below.setCell ?_ ?_ _) | go_size))).went hs
            clear hs cC oC
            go_wp2_with (go_at_call 22; refine (awake8 _).mono ?_; rintro e w' ⟨rfl, hb⟩; obtain ⟨d, os, rfl⟩ := more_of hb; clear hb)
            go_ret
            exact ⟨rfl, stC.hb.trans (Below.mono (B := we.heap.size) (by repeat' (first | (with_reducible exact Below.refl _ _) | (with_reducible assumption) | (with_reducible refine below_drewN ?_ _) | (with_reducible refine below_more _ _ _ ?_ ?_) | (with_reducible refine Below.alloc ?_ ?_ _) | (with_reducible refine Below.drew ?_) | (with_reducible refine Below.setCell ?_ ?_ _) | go_size)) stC.hb.size)⟩
set_option maxRecDepth 100000 in
theorem lifted (os : Os) (started : os.Started) (H : Type) (enc : TypeId × Value → H) :
    ReturnsInHanded {} Try.checked os 13 .any (Rows.idsWornSpec.pre6 enc Try.prog Try.f13 Rows.idsWornRow.domain false) (Rows.idsWornSpec.post enc Try.prog Try.f13 false true false false) := by
  refine returnsInHanded_of_change (C := Try.checked) ownKnob0 started (by kernel_rfl) Try.func13
    (ChangeSpec.witness6 (enc := enc) (C := Try.checked) false ⟨#[], #[.int .i64 0, .bool false], []⟩ 8 (by kernel_rfl) (by kernel_rfl) (by kernel_rfl) (by kernel_rfl)) ?_
  intro W base args ds gs before hval0 hW _ _
  have hval : ∀ (j : Nat) t v, Try.f13.params[j]? = some t → args[j]? = some v → Value.okWide Try.prog W .any base t v := hval0
  have hread : ∀ t ∈ Try.f13.params.toList, Try.prog.readableRec t = true ∧ t < Try.prog.types.size := by
    rw [Try.params13]
    intro t ht
    simp only [List.mem_cons, List.not_mem_nil, or_false] at ht
    rcases ht with rfl | rfl
    all_goals exact ⟨by kernel_rfl, of_decide_eq_true (by kernel_rfl)⟩
  have hW' := hW
  obtain ⟨p, q, hA0, hV, -, -⟩ := hW'
  have hA : DataW.TrodAll enc Try.prog W 0 (fun _ => true) true Try.f13.params.toList args.toList ds p := hA0
  rw [Try.params13] at hA hval
  obtain ⟨v0, vs0, d0, ds0, p0, q0, hargs, rfl, rfl, h0, r0⟩ := trodAll_cons hA
  obtain ⟨v1, vs1, d1, ds1, p1, q1, rfl, rfl, rfl, h1, r1⟩ := trodAll_cons r0
  obtain ⟨rfl, rfl, rfl⟩ := trodAll_nil r1
  obtain rfl : args = #[v0, v1] := by cases args; simp_all
  obtain ⟨rfl, rfl⟩ := trodVars_none hV
  have k0 := hval 0 3 v0 rfl rfl
  have k1 := hval 1 4 v1 rfl rfl
  clear hval hval0 hA0 hV hA
  obtain ⟨r, rfl, rfl, rfl, _⟩ := open_int Try.underlying3 k0 h0
  obtain ⟨b, rfl⟩ := okWide_bool Try.underlying4 k1
  exact (walk r b W).mono fun e W' ⟨he, hb⟩ => ⟨_, he, post_true rfl rfl hread rfl hW hb⟩

/-- IdsWorn: true for every input; the arguments stay. -/
theorem proved : Rows.IdsWornSaid :=
  OpenClaim.holds_of_wide 13 Try.f13 rfl rfl rfl rfl rfl rfl rfl ⟨rfl, rfl, rfl, rfl, rfl⟩ rfl rfl rfl rfl rfl (by kernel_rfl) Try.func13 (by kernel_rfl)
    (of_decide_eq_true (by kernel_rfl)) (by unfold Func.isWrapper; first | (rw [if_pos (by decide +kernel)]; kernel_rfl) | (rw [if_neg (by decide +kernel)]; exact ⟨rfl, rfl⟩))
    (fun os started H enc _ => lifted os started H enc)
end Go.Proofs.Ytjkbenghgbigdaa.idsWorn
