/-
  Chapter 8: the document's example (awake), with the contracts at a pool's place. No condition.
  The reference's pool of names: what reads it (at, first, Of, Alive, Head). No condition.
  The reference's pool of names: Of, Alive, Head as the program's. No condition.
-/
import Derived.Test.YtbghjklnlhoklaaMk7
import Derived.Test.YtbghjklnlhoklaaEq
namespace Go.Proofs.Ytbghjklnlhoklaa
open Go.RowKit

/-- A box of the caller's beside a pool. -/
def Box (W : World) (L : Lay) (b : Nat) (cs : Array Value) : Prop := b < W.heap.size ∧ ¬ L.own b ∧ ∀ j, W.cell? ⟨b, j, none⟩ = cs[j]?

theorem Box.new {W : World} {L : Lay} {M : List Sh} (hp : PoolAt W L M) (cs : Array Value) (t : TypeId) : Box (W.alloc (.cells cs t)) L W.heap.size cs :=
  ⟨by simp, fun h => by have := hp.lt h; omega, fun j => by simp⟩
theorem Box.grow {W W' : World} {L : Lay} {b : Nat} {cs : Array Value} (h : Box W L b cs) (hb : Below W.heap.size W W') : Box W' L b cs :=
  ⟨Nat.lt_of_lt_of_le h.1 hb.size, h.2.1, fun j => (hb.cell (p := ⟨b, j, none⟩) h.1).trans (h.2.2 j)⟩

/-- A step, opened: the pool's new place; the boxes beside it. -/
theorem Stp.open {w w' : World} {L : Lay} {M' : List Sh} {p : Nat} (h : Stp w L w' M') (hP : L.P = p) : ∃ L', L'.P = p ∧ PoolAt w' L' M' ∧ w.heap.size ≤ w'.heap.size ∧ (∀ B, B ≤ w.heap.size → (∀ b, L.own b → B ≤ b) → Below B w w') ∧ (∀ b, L'.own b → L.own b ∨ w.heap.size ≤ b) ∧ ∀ b cs, Box w L b cs → Box w' L' b cs := by
  obtain ⟨L', hP', hp, hc, ho⟩ := h
  refine ⟨L', hP'.trans hP, hp, hc.size, fun B hB hB' => hc.below hB hB', ho, fun b cs hb => ⟨Nat.lt_of_lt_of_le hb.1 hc.size, fun h => ?_, fun j => (hc.cell (a := ⟨b, j, none⟩) hb.1 hb.2.1).trans (hb.2.2 j)⟩⟩
  rcases ho b h with h | h
  · exact hb.2.1 h
  · exact absurd hb.1 (by omega)

section
variable (w : World) (L : Lay) (M : List Sh) (p : Nat) (hP : L.P = p) (h : PoolAt w L M)
include hP h
theorem reserve_p (k i : Int) : Calls Try.prog 43 #[.pointer (some ⟨p, 0, none⟩), .int .i64 k, .int .i64 i] w fun e w' => e = .returned (.int .i64 (reserveF M k i).1) ∧ Stp w L w' (reserveF M k i).2 := by
  subst hP; exact reserve_any w L M k i h
theorem free_p (s i g : Int) : Calls Try.prog 45 #[.pointer (some ⟨p, 0, none⟩), .agg #[.int .i64 s, .int .i64 i, .int .i64 g]] w fun e w' => e = .returned (.int .i64 (freeF M s i g).1) ∧ Stp w L w' (freeF M s i g).2 := by
  subst hP; exact free_any w L M s i g h
theorem take_p (s i g : Int) : Calls Try.prog 44 #[.pointer (some ⟨p, 0, none⟩), .agg #[.int .i64 s, .int .i64 i, .int .i64 g]] w fun e w' => e = .returned (.int .i64 (takeF M s i g).1) ∧ Stp w L w' (takeF M s i g).2 := by
  subst hP; exact take_any w L M s i g h
theorem alive_p (s i g : Int) : Calls Try.prog 39 #[.pointer (some ⟨p, 0, none⟩), .agg #[.int .i64 s, .int .i64 i, .int .i64 g]] w fun e w' => e = .returned (.bool (aliveF M s i g)) ∧ Below w.heap.size w w' := by
  subst hP; exact alive_any w L M s i g h
theorem head_p (k : Int) : Calls Try.prog 41 #[.pointer (some ⟨p, 0, none⟩), .int .i64 k] w fun e w' =>
    e = .returned (.tuple #[.int .i64 (headF M k).1, .bool (headF M k).2.1, .int .i64 (headF M k).2.2]) ∧ Below w.heap.size w w' := by
  subst hP; exact head_any w L M k h
theorem list_p : Calls Try.prog 53 #[.pointer (some ⟨p, 0, none⟩)] w fun e w' => ∃ v, e = .returned v ∧ ListAt w w' v (listF M) := by
  subst hP; exact list_any w L M h
end

/-- A new pool. -/
theorem new_p (n ids : Nat) (w : World) (h1 : 1 ≤ n) (h2 : n ≤ 16) (h3 : 1 ≤ ids) (h4 : ids ≤ 16) :
    Calls Try.prog 34 #[.int .i64 n, .int .i64 ids] w fun e w' => e = .returned (.tuple #[.pointer (some ⟨w.heap.size + 1, 0, none⟩), .int .i64 0]) ∧ Below w.heap.size w w' ∧ ∃ L, L.P = w.heap.size + 1 ∧ PoolAt w' L (List.replicate n (fresh ids ids)) ∧ ∀ b, L.own b → w.heap.size ≤ b := by
  refine (new_ok n ids w h1 h2 h3 h4).mono ?_
  rintro e w' ⟨rfl, L, hP, _, hp, hb, ho⟩
  rw [List.append_nil] at hp
  exact ⟨rfl, hb, L, hP, hp.toAt (by simp), ho⟩

/-- A pool of the call's own: its place, what it is, and that below the call's beginning nothing has turned. -/
structure St (w0 W : World) (L : Lay) (M : List Sh) (p : Nat) : Prop where
  hP : L.P = p
  hp : PoolAt W L M
  hb : Below w0.heap.size w0 W
  ho : ∀ b, L.own b → w0.heap.size ≤ b

theorem St.grow {w0 W W' : World} {L : Lay} {M : List Sh} {p : Nat} (h : St w0 W L M p) (hb : Below W.heap.size W W') : St w0 W' L M p :=
  ⟨h.hP, h.hp.grown hb, h.hb.trans (hb.mono h.hb.size), h.ho⟩
theorem St.went {w0 W w' : World} {L : Lay} {M M' : List Sh} {p : Nat} (h : St w0 W L M p) (hs : Stp W L w' M') : ∃ L', St w0 w' L' M' p ∧ Chg W w' L.own ∧ ∀ b, L'.own b → L.own b ∨ W.heap.size ≤ b := by
  obtain ⟨L', hP', hp, hc, ho⟩ := hs
  refine ⟨L', ⟨hP'.trans h.hP, hp, h.hb.trans (hc.below h.hb.size h.ho), fun b hb => ?_⟩, hc, ho⟩
  rcases ho b hb with h' | h'
  · exact h.ho b h'
  · exact Nat.le_trans h.hb.size h'
theorem Box.went {W w' : World} {L L' : Lay} {b : Nat} {cs : Array Value} (h : Box W L b cs) (hc : Chg W w' L.own) (ho : ∀ b, L'.own b → L.own b ∨ W.heap.size ≤ b) : Box w' L' b cs :=
  ⟨Nat.lt_of_lt_of_le h.1 hc.size, fun h' => (ho b h').elim h.2.1 fun h' => absurd h.1 (by omega), fun j => (hc.cell (a := ⟨b, j, none⟩) h.1 h.2.1).trans (h.2.2 j)⟩

def aw0 : List Sh := [⟨[⟨0, 0, false⟩, ⟨0, 0, false⟩], [0, 1]⟩]
def aw1 : List Sh := [⟨[⟨0, 8, false⟩, ⟨0, 0, false⟩], [0, 1]⟩]
def aw2 : List Sh := [⟨[⟨0, 8, true⟩, ⟨0, 0, false⟩], [1]⟩]
def aw3 : List Sh := [⟨[⟨1, 8, false⟩, ⟨0, 0, false⟩], [1, 0]⟩]
def aw4 : List Sh := [⟨[⟨1, 8, false⟩, ⟨0, 8, false⟩], [1, 0]⟩]
def aw5 : List Sh := [⟨[⟨1, 8, false⟩, ⟨0, 8, true⟩], [0]⟩]
def aw6 : List Sh := [⟨[⟨1, 8, true⟩, ⟨0, 8, true⟩], []⟩]
theorem awe0 : List.replicate 1 (fresh 2 2) = aw0 := rfl
theorem awe1 : issueF aw0 0 = ((0, 0, 0), 14, aw0) := rfl
theorem awe2 : reserveF aw0 0 0 = (0, aw1) := rfl
theorem awe3 : issueF aw1 0 = ((0, 0, 0), 0, aw2) := rfl
theorem awe4 : freeF aw2 0 0 0 = (0, aw3) := rfl
theorem awe5 : reserveF aw3 0 1 = (0, aw4) := rfl
theorem awe6 : issueF aw4 0 = ((0, 1, 0), 0, aw5) := rfl
theorem awe7 : issueF aw5 0 = ((0, 0, 1), 0, aw6) := rfl
theorem awe8 : aliveF aw6 0 0 0 = false := rfl
theorem awe9 : aliveF aw6 0 0 1 = true := rfl


theorem lapse_none (w : World) : Calls Try.prog 65 #[.pointer none] w fun e w' => e = .returned (.int .i64 0) ∧ w = w' := by
  go_enter Try.func65, Try.ntmps65
  go_wp2
  go_ret
  exact ⟨rfl, rfl⟩
end Go.Proofs.Ytbghjklnlhoklaa
namespace Go.Proofs.Ytbghjklnlhoklaa
open Go.RowKit

def AtR (l : List Slot) (k i r : Int) : Prop := (r = -1 ∧ ∀ (n : Nat) (s : Slot), l[n]? = some s → ¬ (s.k = k ∧ s.i = i)) ∨ ∃ (n : Nat) (s : Slot), r = n ∧ l[n]? = some s ∧ s.k = k ∧ s.i = i
def FirstP (l : List Slot) (k : Int) (n : Nat) (m : Int) : Prop := (m = -1 ∧ ∀ (j : Nat) (s : Slot), j < n → l[j]? = some s → s.k = k → s.row < 0) ∨
  ∃ (j : Nat) (s : Slot), m = j ∧ j < n ∧ l[j]? = some s ∧ s.k = k ∧ 0 ≤ s.row ∧ ∀ (j' : Nat) (s' : Slot), j' < n → l[j']? = some s' → s'.k = k → 0 ≤ s'.row → s.row ≤ s'.row

theorem FirstP.skip {l : List Slot} {k m : Int} {n : Nat} {s : Slot} (h : FirstP l k n m) (hs : l[n]? = some s) (hn : ¬ (s.k = k ∧ 0 ≤ s.row)) : FirstP l k (n + 1) m := by
  rcases h with ⟨h1, h2⟩ | ⟨j, t, h1, h2, h3, h4, h5, h6⟩
  · refine .inl ⟨h1, fun j t hj ht hk => ?_⟩
    by_cases hjn : j = n
    · subst hjn; rw [hs] at ht; obtain rfl := Option.some.inj ht
      exact Int.not_le.1 fun h => hn ⟨hk, h⟩
    · exact h2 j t (by omega) ht hk
  · refine .inr ⟨j, t, h1, by omega, h3, h4, h5, fun j' t' hj ht hk hr => ?_⟩
    by_cases hjn : j' = n
    · subst hjn; rw [hs] at ht; obtain rfl := Option.some.inj ht
      exact absurd ⟨hk, hr⟩ hn
    · exact h6 j' t' (by omega) ht hk hr
theorem FirstP.take {l : List Slot} {k m : Int} {n : Nat} {s : Slot} (h : FirstP l k n m) (hs : l[n]? = some s) (hk : s.k = k) (hr : 0 ≤ s.row) (hm : m < 0 ∨ ∃ (j : Nat) (t : Slot), m = j ∧ l[j]? = some t ∧ s.row < t.row) : FirstP l k (n + 1) n := by
  refine .inr ⟨n, s, rfl, by omega, hs, hk, hr, fun j' t' hj ht hk' hr' => ?_⟩
  by_cases hjn : j' = n
  · subst hjn; rw [hs] at ht; obtain rfl := Option.some.inj ht; exact Int.le_refl _
  · rcases h with ⟨h1, h2⟩ | ⟨j, t, h1, h2, h3, h4, h5, h6⟩
    · exact absurd (h2 j' t' (by omega) ht hk') (by omega)
    · rcases hm with hm | ⟨j2, t2, hm, ht2, hlt⟩
      · omega
      · have e : j2 = j := by omega
        subst e
        rw [h3] at ht2
        obtain rfl := Option.some.inj ht2
        have := h6 j' t' (by omega) ht hk' hr'
        omega
theorem FirstP.keep {l : List Slot} {k m : Int} {n j : Nat} {s t : Slot} (h : FirstP l k n m) (hs : l[n]? = some s) (hm : m = j) (ht : l[j]? = some t) (hr : t.row ≤ s.row) : FirstP l k (n + 1) m := by
  rcases h with ⟨h1, h2⟩ | ⟨j2, t2, h1, h2, h3, h4, h5, h6⟩
  · omega
  · have e : j2 = j := by omega
    subst e
    rw [h3] at ht
    obtain rfl := Option.some.inj ht
    refine .inr ⟨j2, t2, h1, by omega, h3, h4, h5, fun j' t' hj ht hk hr' => ?_⟩
    by_cases hjn : j' = n
    · subst hjn; rw [hs] at ht; obtain rfl := Option.some.inj ht; exact hr
    · exact h6 j' t' (by omega) ht hk hr'

set_option maxRecDepth 100000 in
set_option maxHeartbeats 2000000 in
theorem rat_any (w : World) (R : RLay) (l : List Slot) (put k i : Int) (h : RefAt w R l put) :
    Calls Try.prog 48 #[.pointer (some ⟨R.p, 0, none⟩), .int .i64 k, .int .i64 i] w fun e w' => (∃ r, e = .returned (.int .i64 r) ∧ AtR l k i r) ∧ w = w' := by
  obtain ⟨c0, _, _, _, b0, b1⟩ := h.tops
  obtain ⟨z1, z2⟩ := h.bnd
  unfold maxLen at z2
  have H := Lib.hid h
  clear h
  obtain ⟨p, b, off, cap⟩ := R
  simp only at c0 b0 b1 z1 z2
  go_enter Try.func48, Try.ntmps48
  go_wp2_with fail
  go_loop [7] (fun x => ∃ n : Nat, n ≤ l.length ∧ x = .int .i64 n ∧ Hid (∀ (j : Nat) (s : Slot), j < n → l[j]? = some s → ¬ (s.k = k ∧ s.i = i))) (fun x => l.length - (intOf x).toNat)
  case atStart => exact ⟨0, Nat.zero_le _, rfl, Lib.hid fun j s hj => by omega⟩
  case round =>
    obtain ⟨n, hn, rfl, hh⟩ := hrel
    have hI : 0 ≤ (n : Int) := Int.natCast_nonneg n
    by_cases hlt : n < l.length
    · obtain ⟨s, hs⟩ : ∃ s, l[n]? = some s := ⟨_, List.getElem?_eq_getElem hlt⟩
      obtain ⟨s0, s1, _, _, _, _⟩ := H.out.slot hs
      have HS := Lib.hid hs
      clear hs
      simp only at s0 s1
      by_cases h1 : s.k = k
      · have e1 : (s.k == k) = true := by simpa using h1
        by_cases h2 : s.i = i
        · have e2 : (s.i == i) = true := by simpa using h2
          have HK := Lib.hid (And.intro h1 h2)
          clear h1 h2
          go_wp2_with fail
          go_ret
          exact ⟨⟨n, rfl, .inr ⟨n, s, rfl, HS.out, HK.out.1, HK.out.2⟩⟩, rfl⟩
        · have e2 : (s.i == i) = false := by simpa using h2
          have HK := Lib.hid h2
          clear h1 h2
          go_wp2_with fail
          go_round
          case rel => exact ⟨n + 1, hlt, by go_num, Lib.hid fun j t hj ht => by
            by_cases hjn : j = n
            · subst hjn; have := HS.out; rw [ht] at this; obtain rfl := Option.some.inj this; exact fun h => HK.out h.2
            · exact hh.out j t (by omega) ht⟩
          case measure => simp [intOf]; omega
      · have e1 : (s.k == k) = false := by simpa using h1
        have HK := Lib.hid h1
        clear h1
        go_wp2_with fail
        go_round
        case rel => exact ⟨n + 1, hlt, by go_num, Lib.hid fun j t hj ht => by
          by_cases hjn : j = n
          · subst hjn; have := HS.out; rw [ht] at this; obtain rfl := Option.some.inj this; exact fun h => HK.out h.1
          · exact hh.out j t (by omega) ht⟩
        case measure => simp [intOf]; omega
    · obtain rfl : n = l.length := by omega
      go_wp2_with fail
      go_ret
      exact ⟨⟨-1, rfl, .inl ⟨rfl, fun j s hs => hh.out j s (List.getElem?_eq_some_iff.1 hs).1 hs⟩⟩, rfl⟩

set_option maxRecDepth 100000 in
set_option maxHeartbeats 4000000 in
theorem rfirst_any (w : World) (R : RLay) (l : List Slot) (put k : Int) (h : RefAt w R l put) :
    Calls Try.prog 95 #[.pointer (some ⟨R.p, 0, none⟩), .int .i64 k] w fun e w' => (∃ r, e = .returned (.int .i64 r) ∧ FirstP l k l.length r) ∧ Below w.heap.size w w' := by
  obtain ⟨z1, z2⟩ := h.bnd
  unfold maxLen at z2
  have H := Lib.hid h
  clear h
  obtain ⟨p, b, off, cap⟩ := R
  simp only at z1 z2
  go_enter Try.func95, Try.ntmps95
  go_wp2_with fail
  go_loopw [5, 6] (fun y x wr => ∃ (n : Nat) (m : Int), n ≤ l.length ∧ x = .int .i64 n ∧ y = .int .i64 m ∧ Hid (FirstP l k n m ∧ Below w.heap.size w wr)) (fun _ x _ => l.length - (intOf x).toNat)
  case atStart => exact ⟨0, -1, Nat.zero_le _, rfl, rfl, Lib.hid ⟨.inl ⟨rfl, fun j s hj => by omega⟩, (by repeat' (first | (with_reducible exact Below.refl _ _) | (with_reducible assumption) | (with_reducible refine below_drewN ?_ _) | (with_reducible refine below_more _ _ _ ?_ ?_) | (with_reducible refine Below.alloc ?_ ?_ _) | (with_reducible refine Below.drew ?_) | (with_reducible refine Below.setCell ?_ ?_ _) | go_size))⟩⟩
  case round =>
    obtain ⟨n, m, hn, rfl, rfl, hh⟩ := hrel
    obtain ⟨wo, rfl⟩ : ∃ wo : World, wo = wr := ⟨_, rfl⟩
    have hI : 0 ≤ (n : Int) := Int.natCast_nonneg n
    have HW := Lib.hid (H.out.grown hh.out.2)
    obtain ⟨c0, _, _, _, b0, b1⟩ := HW.out.tops
    simp only at c0 b0 b1
    obtain ⟨y0, y1, y2, y3⟩ := lts b0
    obtain ⟨x0, x1, x2, x3⟩ := lts b1
    have HE := Lib.hid (fun (W : World) (hW : Below wo.heap.size wo W) => hh.out.2.trans (hW.mono hh.out.2.size))
    by_cases hlt : n < l.length
    · obtain ⟨s, hs⟩ : ∃ s, l[n]? = some s := ⟨_, List.getElem?_eq_getElem hlt⟩
      obtain ⟨s0, s1, s2, s3, s4, s5⟩ := HW.out.slot hs
      have HS := Lib.hid hs
      clear hs
      simp only at s0 s1 s2 s3 s4 s5
      obtain ⟨sk, si, sg, sb, srow, sa⟩ := s
      simp only at s0 s1 s2 s3 s4 s5
      by_cases h1 : sk = k
      · have e1 : (sk == k) = true := by simpa using h1
        have HK := Lib.hid h1
        clear h1
        by_cases h2 : 0 ≤ srow
        · by_cases h3 : m < 0
          · go_wp2_with fail
            refine wp_region_more (by kernel_rfl) (by kernel_rfl) ?_
            repeat (go_big_quiet_step (fail))
            refine wpQuiet_nil ?_
            rintro _ ⟨pn, rfl⟩
            go_wp2_with fail
            go_roundw
            case rel => exact ⟨n + 1, n, hlt, by go_num, rfl, Lib.hid ⟨hh.out.1.take HS.out HK.out h2 (.inl h3), HE.out _ (by repeat' (first | (with_reducible exact Below.refl _ _) | (with_reducible assumption) | (with_reducible refine below_drewN ?_ _) | (with_reducible refine below_more _ _ _ ?_ ?_) | (with_reducible refine Below.alloc ?_ ?_ _) | (with_reducible refine Below.drew ?_) | (with_reducible refine Below.setCell ?_ ?_ _) | go_size))⟩⟩
            case measure => simp [intOf]; omega
          · obtain ⟨j, t, hm, ht⟩ : ∃ (j : Nat) (t : Slot), m = j ∧ l[j]? = some t := by
              rcases hh.out.1 with ⟨q1, _⟩ | ⟨j, t, q1, _, q2, _⟩
              · omega
              · exact ⟨j, t, q1, q2⟩
            subst hm
            have hjl : j < l.length := (List.getElem?_eq_some_iff.1 ht).1
            have hjI : 0 ≤ (j : Int) := Int.natCast_nonneg j
            obtain ⟨_, _, _, _, t4, _⟩ := HW.out.slot ht
            have HT := Lib.hid ht
            have hd1 : decide ((j : Int) < 0) = false := by simp
            have hd2 : decide (0 ≤ srow) = true := by simpa using h2
            simp only at t4
            clear ht h3
            by_cases h4 : srow < t.row
            · go_wp2_with fail
              refine wp_region_more (by kernel_rfl) (by kernel_rfl) ?_
              repeat (go_big_quiet_step (fail))
              refine wpQuiet_nil ?_
              rintro _ ⟨pn, rfl⟩
              go_wp2_with fail
              go_roundw
              case rel => exact ⟨n + 1, n, hlt, by go_num, rfl, Lib.hid ⟨hh.out.1.take HS.out HK.out h2 (.inr ⟨j, t, rfl, HT.out, h4⟩), HE.out _ (by repeat' (first | (with_reducible exact Below.refl _ _) | (with_reducible assumption) | (with_reducible refine below_drewN ?_ _) | (with_reducible refine below_more _ _ _ ?_ ?_) | (with_reducible refine Below.alloc ?_ ?_ _) | (with_reducible refine Below.drew ?_) | (with_reducible refine Below.setCell ?_ ?_ _) | go_size))⟩⟩
              case measure => simp [intOf]; omega
            · have h5 : t.row ≤ srow := by omega
              clear h4
              go_wp2_with fail
              refine wp_region_more (by kernel_rfl) (by kernel_rfl) ?_
              repeat (go_big_quiet_step (fail))
              refine wpQuiet_nil ?_
              rintro _ ⟨pn, rfl⟩
              go_wp2_with fail
              go_roundw
              case rel => exact ⟨n + 1, j, hlt, by go_num, rfl, Lib.hid ⟨hh.out.1.keep HS.out rfl HT.out h5, HE.out _ (by repeat' (first | (with_reducible exact Below.refl _ _) | (with_reducible assumption) | (with_reducible refine below_drewN ?_ _) | (with_reducible refine below_more _ _ _ ?_ ?_) | (with_reducible refine Below.alloc ?_ ?_ _) | (with_reducible refine Below.drew ?_) | (with_reducible refine Below.setCell ?_ ?_ _) | go_size))⟩⟩
              case measure => simp [intOf]; omega
        · have h3 : srow < 0 := by omega
          have hd2 : decide (0 ≤ srow) = false := by simpa using h3
          clear h2
          go_wp2_with fail
          refine wp_region_more (by kernel_rfl) (by kernel_rfl) ?_
          repeat (go_big_quiet_step (fail))
          refine wpQuiet_nil ?_
          rintro _ ⟨pn, rfl⟩
          go_wp2_with fail
          go_roundw
          case rel => exact ⟨n + 1, m, hlt, by go_num, rfl, Lib.hid ⟨hh.out.1.skip HS.out (fun h => by have := h.2; simp only at this; omega), HE.out _ (by repeat' (first | (with_reducible exact Below.refl _ _) | (with_reducible assumption) | (with_reducible refine below_drewN ?_ _) | (with_reducible refine below_more _ _ _ ?_ ?_) | (with_reducible refine Below.alloc ?_ ?_ _) | (with_reducible refine Below.drew ?_) | (with_reducible refine Below.setCell ?_ ?_ _) | go_size))⟩⟩
          case measure => simp [intOf]; omega
      · have e1 : (sk == k) = false := by simpa using h1
        have HK := Lib.hid h1
        clear h1
        go_wp2_with fail
        refine wp_region_more (by kernel_rfl) (by kernel_rfl) ?_
        repeat (go_big_quiet_step (fail))
        refine wpQuiet_nil ?_
        rintro _ ⟨pn, rfl⟩
        go_wp2_with fail
        go_roundw
        case rel => exact ⟨n + 1, m, hlt, by go_num, rfl, Lib.hid ⟨hh.out.1.skip HS.out (fun h => HK.out h.1), HE.out _ (by repeat' (first | (with_reducible exact Below.refl _ _) | (with_reducible assumption) | (with_reducible refine below_drewN ?_ _) | (with_reducible refine below_more _ _ _ ?_ ?_) | (with_reducible refine Below.alloc ?_ ?_ _) | (with_reducible refine Below.drew ?_) | (with_reducible refine Below.setCell ?_ ?_ _) | go_size))⟩⟩
        case measure => simp [intOf]; omega
    · obtain rfl : n = l.length := by omega
      go_wp2_with fail
      go_ret
      exact ⟨⟨m, rfl, hh.out.1⟩, HE.out _ (by repeat' (first | (with_reducible exact Below.refl _ _) | (with_reducible assumption) | (with_reducible refine below_drewN ?_ _) | (with_reducible refine below_more _ _ _ ?_ ?_) | (with_reducible refine Below.alloc ?_ ?_ _) | (with_reducible refine Below.drew ?_) | (with_reducible refine Below.setCell ?_ ?_ _) | go_size))⟩
end Go.Proofs.Ytbghjklnlhoklaa
namespace Go.Proofs.Ytbghjklnlhoklaa
open Go.RowKit

/-- The reference's pool in memory, as these shards. -/
def RPool (w : World) (R : RLay) (ids : Nat) (c : Int) (M : List Sh) : Prop := ∃ (rw : Int → Int → Int) (put : Int), RefAt w R (mSlots rw 0 M) put ∧ Sim ids M rw put ∧ put ≤ c
theorem RPool.grown {w w' : World} {R : RLay} {ids : Nat} {c : Int} {M : List Sh} (h : RPool w R ids c M) (hb : Below w.heap.size w w') : RPool w' R ids c M := by
  obtain ⟨rw, put, h1, h2, h3⟩ := h; exact ⟨rw, put, h1.grown hb, h2, h3⟩
theorem RPool.chg {w w' : World} {R : RLay} {ids : Nat} {c : Int} {M : List Sh} (h : RPool w R ids c M) {F : Nat → Prop} (hc : Chg w w' F) (hF : ∀ b, R.own b → ¬ F b) : RPool w' R ids c M := by
  obtain ⟨rw, put, h1, h2, h3⟩ := h; exact ⟨rw, put, h1.chg hc hF, h2, h3⟩
theorem RPool.lt {w : World} {R : RLay} {ids : Nat} {c : Int} {M : List Sh} (h : RPool w R ids c M) {x : Nat} (hx : R.own x) : x < w.heap.size := by
  obtain ⟨rw, put, h1, h2, h3⟩ := h; exact h1.lt hx

theorem Sim.at {ids : Nat} {M : List Sh} {rw : Int → Int → Int} {put k i r : Int} (h : Sim ids M rw put) (ha : AtR (mSlots rw 0 M) k i r) :
    (ixOf M k i = none ∧ r = -1) ∨ ∃ (k' i' : Nat) (m : Sh) (x : Ix), k = k' ∧ i = i' ∧ M[k']? = some m ∧ m.all[i']? = some x ∧ i' < ids ∧ r = ((k' * ids + i' : Nat) : Int) ∧ ixOf M k i = some x := by
  rcases ha with ⟨rfl, hn⟩ | ⟨n, s, rfl, hs, hk, hi⟩
  · left
    refine ⟨?_, rfl⟩
    cases hx : ixOf M k i with
    | none => rfl
    | some x =>
      unfold ixOf at hx
      obtain ⟨m, hm, hx'⟩ := Option.bind_eq_some_iff.1 hx
      unfold shOf at hm
      split at hm
      · rename_i hk0
        split at hx'
        · rename_i hi0
          have := mSlots_get (rw := rw) M 0 k.toNat i.toNat m x h.len hm hx'
          exact absurd ⟨by simp; omega, by simp; omega⟩ (hn _ _ this)
        · cases hx'
      · cases hm
  · right
    obtain ⟨a, b, m, x, rfl, hb, hm, hx, rfl⟩ := mSlots_split h.len hs
    simp only at hk hi
    subst hk hi
    exact ⟨a, b, m, x, rfl, rfl, hm, hx, hb, rfl, by simp [ixOf, shOf, hm, hx]⟩

theorem Sim.first {ids : Nat} {M : List Sh} {rw : Int → Int → Int} {put k r : Int} (h : Sim ids M rw put) (ha : FirstP (mSlots rw 0 M) k (mSlots rw 0 M).length r) {m : Sh} (hm : shOf M k = some m) :
    (m.free = [] ∧ r = -1) ∨ ∃ (k' f : Nat) (fs : List Int) (x : Ix), k = k' ∧ M[k']? = some m ∧ m.free = (f : Int) :: fs ∧ m.all[f]? = some x ∧ f < ids ∧ r = ((k' * ids + f : Nat) : Int) := by
  unfold shOf at hm
  split at hm
  case isFalse => cases hm
  rename_i hk0
  obtain ⟨k, rfl⟩ := Int.eq_ofNat_of_zero_le hk0
  rw [Int.toNat_natCast] at hm
  have hg := h.good m (List.mem_of_getElem? hm)
  have hal := h.len m (List.mem_of_getElem? hm)
  have hgt : ∀ f ∈ m.free, ∃ (i : Nat) (x : Ix), f = i ∧ i < ids ∧ m.all[i]? = some x ∧ 0 ≤ rw k i := by
    intro f hf
    obtain ⟨h0, h1⟩ := hg.inv.fr f hf
    obtain ⟨i, rfl⟩ := Int.eq_ofNat_of_zero_le h0
    have hi : i < m.all.length := by omega
    exact ⟨i, _, rfl, by omega, List.getElem?_eq_getElem hi, (h.row k m hm i (by omega)).1.2 hf⟩
  cases hf : m.free with
  | nil =>
    left
    refine ⟨rfl, ?_⟩
    rcases ha with ⟨rfl, _⟩ | ⟨j, s, rfl, hj, hs, hk, hr, _⟩
    · rfl
    · obtain ⟨a, b, m2, x, rfl, hb, hm2, hx, rfl⟩ := mSlots_split h.len hs
      simp only at hk hr
      obtain rfl : a = k := by omega
      rw [hm] at hm2
      obtain rfl := Option.some.inj hm2
      have := (h.row a m hm b hb).1.1 hr
      rw [hf] at this
      cases this
  | cons f fs =>
    right
    obtain ⟨i, x, rfl, hi, hx, hr0⟩ := hgt f (by rw [hf]; simp)
    refine ⟨k, i, fs, x, rfl, hm, rfl, hx, hi, ?_⟩
    have hsl := mSlots_get (rw := rw) M 0 k i m x h.len hm hx
    have hlt := (List.getElem?_eq_some_iff.1 hsl).1
    rcases ha with ⟨rfl, hn⟩ | ⟨j, s, rfl, hj, hs, hk, hr, hmin⟩
    · have := hn _ _ hlt hsl (by simp)
      simp at this
      omega
    · obtain ⟨a, b, m2, y, rfl, hb, hm2, hy, rfl⟩ := mSlots_split h.len hs
      simp only at hk hr hmin
      obtain rfl : a = k := by omega
      rw [hm] at hm2
      obtain rfl := Option.some.inj hm2
      have hbf := (h.row a m hm b hb).1.1 hr
      have hle := hmin _ _ hlt hsl (by simp) (by simpa using hr0)
      simp at hle
      rw [hf] at hbf
      rcases List.mem_cons.1 hbf with e | hbs
      · obtain rfl : b = i := by omega
        rfl
      · have ho := h.ord a m hm
        rw [hf, List.map_cons, List.pairwise_cons] at ho
        have := ho.1 _ (List.mem_map_of_mem hbs)
        omega

theorem Sim.none {ids : Nat} {M : List Sh} {rw : Int → Int → Int} {put k : Int} (h : Sim ids M rw put) : ixOf M k 0 = none ↔ shOf M k = none := by
  unfold ixOf
  cases hm : shOf M k with
  | none => simp
  | some m =>
    have hal : m.all.length = ids := by
      unfold shOf at hm
      split at hm
      · exact h.len m (List.mem_of_getElem? hm)
      · cases hm
    have := h.pos.1
    simp
    intro e
    rw [e] at hal
    simp at hal
    omega

def genF (M : List Sh) (k i : Int) : Int := match ixOf M k i with | none => 0 | some x => x.gen
theorem ixOf_nat' {M : List Sh} {k i : Int} {x : Ix} (hx : ixOf M k i = some x) : ∃ (k' i' : Nat) (m : Sh), k = k' ∧ i = i' ∧ M[k']? = some m ∧ m.all[i']? = some x := by
  unfold ixOf at hx
  obtain ⟨m, hm, hy⟩ := Option.bind_eq_some_iff.1 hx
  unfold shOf at hm
  split at hm
  · split at hy
    · exact ⟨k.toNat, i.toNat, m, by omega, by omega, hm, hy⟩
    · cases hy
  · cases hm

section
variable (w : World) (R : RLay) (ids : Nat) (M : List Sh) (rw : Int → Int → Int) (put : Int) (h : RefAt w R (mSlots rw 0 M) put) (hS : Sim ids M rw put)
include h hS
theorem rat_none (k i : Int) (hx : ixOf M k i = none) : Calls Try.prog 48 #[.pointer (some ⟨R.p, 0, none⟩), .int .i64 k, .int .i64 i] w fun e w' => e = .returned (.int .i64 (-1)) ∧ w = w' := by
  refine (rat_any w R _ put k i h).mono ?_
  rintro e w' ⟨⟨r, rfl, hr⟩, rfl⟩
  rcases hS.at hr with ⟨_, rfl⟩ | ⟨_, _, _, _, _, _, _, _, _, _, h'⟩
  · exact ⟨rfl, rfl⟩
  · rw [hx] at h'; cases h'
theorem rat_some (k i : Nat) (m : Sh) (x : Ix) (hm : M[k]? = some m) (hx : m.all[i]? = some x) : Calls Try.prog 48 #[.pointer (some ⟨R.p, 0, none⟩), .int .i64 k, .int .i64 i] w fun e w' => e = .returned (.int .i64 ((k * ids + i : Nat) : Int)) ∧ w = w' := by
  refine (rat_any w R _ put k i h).mono ?_
  rintro e w' ⟨⟨r, rfl, hr⟩, rfl⟩
  rcases hS.at hr with ⟨h', _⟩ | ⟨a, b, _, _, h1, h2, _, _, _, rfl, _⟩
  · simp [ixOf, shOf, hm, hx] at h'
  · obtain rfl : k = a := by omega
    obtain rfl : i = b := by omega
    exact ⟨rfl, rfl⟩
theorem rfirst_nil (k : Int) (m : Sh) (hm : shOf M k = some m) (hf : m.free = []) : Calls Try.prog 95 #[.pointer (some ⟨R.p, 0, none⟩), .int .i64 k] w fun e w' => e = .returned (.int .i64 (-1)) ∧ Below w.heap.size w w' := by
  refine (rfirst_any w R _ put k h).mono ?_
  rintro e w' ⟨⟨r, rfl, hr⟩, hb⟩
  rcases hS.first hr hm with ⟨_, rfl⟩ | ⟨_, _, _, _, _, _, h', _⟩
  · exact ⟨rfl, hb⟩
  · rw [hf] at h'; cases h'
theorem rfirst_cons (k f : Nat) (fs : List Int) (m : Sh) (hm : M[k]? = some m) (hf : m.free = (f : Int) :: fs) : Calls Try.prog 95 #[.pointer (some ⟨R.p, 0, none⟩), .int .i64 k] w fun e w' => e = .returned (.int .i64 ((k * ids + f : Nat) : Int)) ∧ Below w.heap.size w w' := by
  refine (rfirst_any w R _ put k h).mono ?_
  rintro e w' ⟨⟨r, rfl, hr⟩, hb⟩
  rcases hS.first hr (by simp [shOf, hm] : shOf M (k : Int) = some m) with ⟨h', _⟩ | ⟨a, b, _, _, h1, _, h2, _, _, rfl⟩
  · rw [hf] at h'; cases h'
  · obtain rfl : k = a := by omega
    rw [hf] at h2
    obtain rfl : f = b := by have := (List.cons.inj h2).1; omega
    exact ⟨rfl, hb⟩
end


set_option maxRecDepth 100000 in
set_option maxHeartbeats 1000000 in
theorem rgen_any (w : World) (R : RLay) (ids : Nat) {c : Int} (M : List Sh) (h : RPool w R ids c M) (k i : Int) : Calls Try.prog 83 #[.pointer (some ⟨R.p, 0, none⟩), .int .i64 k, .int .i64 i] w fun e w' => e = .returned (.int .i64 (genF M k i)) ∧ Below w.heap.size w w' := by
  obtain ⟨rw, put, h1, h2, hpc⟩ := h
  cases hix : ixOf M k i with
  | none =>
    simp only [genF, hix]
    have HA := Lib.hid (rat_none w R ids M rw put h1 h2 k i hix)
    clear hix h1 h2
    go_enter Try.func83, Try.ntmps83
    go_wp2_with (go_at_call 48; refine HA.out.mono ?_; rintro e w' ⟨rfl, rfl⟩)
    go_ret
    exact ⟨rfl, (by repeat' (first | (with_reducible exact Below.refl _ _) | (with_reducible assumption) | (with_reducible refine below_drewN ?_ _) | (with_reducible refine below_more _ _ _ ?_ ?_) | (with_reducible refine Below.alloc ?_ ?_ _) | (with_reducible refine Below.drew ?_) | (with_reducible refine Below.setCell ?_ ?_ _) | go_size))⟩
  | some x =>
    simp only [genF, hix]
    obtain ⟨k, i, m, rfl, rfl, hm, hx⟩ := ixOf_nat' hix
    have HA := Lib.hid (rat_some w R ids M rw put h1 h2 k i m x hm hx)
    have hs := mSlots_get (rw := rw) M 0 k i m x h2.len hm hx
    obtain ⟨s0, s1, s2, s3, s4, s5⟩ := h1.slot hs
    obtain ⟨c0, c1, fp, fb, b0, b1⟩ := h1.tops
    obtain ⟨z1, z2⟩ := h1.bnd
    obtain ⟨y0, y1, y2, y3⟩ := lts b0
    obtain ⟨x0, x1, x2, x3⟩ := lts b1
    have b00 : ∀ n, R.p < w.heap.size + n := fun n => by omega
    have b11 : ∀ n, R.b < w.heap.size + n := fun n => by omega
    have hn := (List.getElem?_eq_some_iff.1 hs).1
    have hnI : 0 ≤ ((k * ids + i : Nat) : Int) := Int.natCast_nonneg _
    have hnL : ((k * ids + i : Nat) : Int) < ((mSlots rw 0 M).length : Int) := by omega
    unfold maxLen at z2
    generalize (mSlots rw 0 M).length = len at *
    generalize k * ids + i = n at *
    clear hs hm hx hix h1 h2
    simp only at s2
    go_enter Try.func83, Try.ntmps83
    go_wp2_with (go_at_call 48; refine HA.out.mono ?_; rintro e w' ⟨rfl, rfl⟩)
    go_ret
    exact ⟨rfl, (by repeat' (first | (with_reducible exact Below.refl _ _) | (with_reducible assumption) | (with_reducible refine below_drewN ?_ _) | (with_reducible refine below_more _ _ _ ?_ ?_) | (with_reducible refine Below.alloc ?_ ?_ _) | (with_reducible refine Below.drew ?_) | (with_reducible refine Below.setCell ?_ ?_ _) | go_size))⟩

set_option maxRecDepth 100000 in
set_option maxHeartbeats 1000000 in
theorem ralive_any (w : World) (R : RLay) (ids : Nat) {c : Int} (M : List Sh) (h : RPool w R ids c M) (s i g : Int) : Calls Try.prog 22 #[.pointer (some ⟨R.p, 0, none⟩), .agg #[.int .i64 s, .int .i64 i, .int .i64 g]] w fun e w' => e = .returned (.bool (aliveF M s i g)) ∧ Below w.heap.size w w' := by
  have h' := h.grown ((Below.refl _ _).alloc (Nat.le_refl _) (.cells #[.int .i64 s, .int .i64 i, .int .i64 g] 33))
  obtain ⟨rw, put, h1, h2, hpc⟩ := h
  obtain ⟨rw', put', h1', h2', _⟩ := h'
  cases hix : ixOf M s i with
  | none =>
    simp only [aliveF, hix]
    have HA := Lib.hid (rat_none _ R ids M rw' put' h1' h2' s i hix)
    clear hix h1 h2 h1' h2'
    go_enter Try.func22, Try.ntmps22
    go_wp2_with (go_at_call 48; refine HA.out.mono ?_; rintro e w' ⟨rfl, rfl⟩)
    refine wp_region_more (by kernel_rfl) (by kernel_rfl) ?_
    repeat (go_big_quiet_step (fail))
    refine wpQuiet_nil ?_
    rintro _ ⟨pn, rfl⟩
    go_wp2_with fail
    go_ret
    exact ⟨rfl, (by repeat' (first | (with_reducible exact Below.refl _ _) | (with_reducible assumption) | (with_reducible refine below_drewN ?_ _) | (with_reducible refine below_more _ _ _ ?_ ?_) | (with_reducible refine Below.alloc ?_ ?_ _) | (with_reducible refine Below.drew ?_) | (with_reducible refine Below.setCell ?_ ?_ _) | go_size))⟩
  | some x =>
    simp only [aliveF, hix]
    obtain ⟨k, i, m, rfl, rfl, hm, hx⟩ := ixOf_nat' hix
    have HA := Lib.hid (rat_some _ R ids M rw' put' h1' h2' k i m x hm hx)
    have hs := mSlots_get (rw := rw) M 0 k i m x h2.len hm hx
    obtain ⟨s0, s1, s2, s3, s4, s5⟩ := h1.slot hs
    obtain ⟨c0, c1, fp, fb, b0, b1⟩ := h1.tops
    obtain ⟨z1, z2⟩ := h1.bnd
    obtain ⟨y0, y1, y2, y3⟩ := lts b0
    obtain ⟨x0, x1, x2, x3⟩ := lts b1
    have b00 : ∀ n, R.p < w.heap.size + n := fun n => by omega
    have b11 : ∀ n, R.b < w.heap.size + n := fun n => by omega
    have hn := (List.getElem?_eq_some_iff.1 hs).1
    have hnI : 0 ≤ ((k * ids + i : Nat) : Int) := Int.natCast_nonneg _
    have hnL : ((k * ids + i : Nat) : Int) < ((mSlots rw 0 M).length : Int) := by omega
    unfold maxLen at z2
    generalize (mSlots rw 0 M).length = len at *
    generalize k * ids + i = n at *
    clear hs hm hx hix h1 h2 h1' h2'
    simp only at s2 s5
    obtain ⟨gen, bound, alive⟩ := x
    simp only at s2 s5
    have hdn : decide (0 ≤ (n : Int)) = true := by simp
    cases alive
    all_goals
      go_enter Try.func22, Try.ntmps22
      go_wp2_with (go_at_call 48; refine HA.out.mono ?_; rintro e w' ⟨rfl, rfl⟩)
      refine wp_region_more (by kernel_rfl) (by kernel_rfl) ?_
      repeat (go_big_quiet_step (fail))
      refine wpQuiet_nil ?_
      rintro _ ⟨pn, rfl⟩
      go_wp2_with fail
      go_ret
      exact ⟨rfl, (by repeat' (first | (with_reducible exact Below.refl _ _) | (with_reducible assumption) | (with_reducible refine below_drewN ?_ _) | (with_reducible refine below_more _ _ _ ?_ ?_) | (with_reducible refine Below.alloc ?_ ?_ _) | (with_reducible refine Below.drew ?_) | (with_reducible refine Below.setCell ?_ ?_ _) | go_size))⟩

set_option maxRecDepth 100000 in
set_option maxHeartbeats 1000000 in
theorem rhead_any (w : World) (R : RLay) (ids : Nat) {c : Int} (M : List Sh) (h : RPool w R ids c M) (k : Int) : Calls Try.prog 82 #[.pointer (some ⟨R.p, 0, none⟩), .int .i64 k] w fun e w' =>
    e = .returned (.tuple #[.int .i64 (headF M k).1, .bool (headF M k).2.1, .int .i64 (headF M k).2.2]) ∧ Below w.heap.size w w' := by
  obtain ⟨rw, put, h1, h2, hpc⟩ := h
  cases hm : shOf M k with
  | none =>
    simp only [headF, hm]
    have HA := Lib.hid (rat_none w R ids M rw put h1 h2 k 0 (h2.none.2 hm))
    clear hm h1 h2
    go_enter Try.func82, Try.ntmps82
    go_wp2_with (go_at_call 48; refine HA.out.mono ?_; rintro e w' ⟨rfl, rfl⟩)
    go_ret3
    exact ⟨rfl, (by repeat' (first | (with_reducible exact Below.refl _ _) | (with_reducible assumption) | (with_reducible refine below_drewN ?_ _) | (with_reducible refine below_more _ _ _ ?_ ?_) | (with_reducible refine Below.alloc ?_ ?_ _) | (with_reducible refine Below.drew ?_) | (with_reducible refine Below.setCell ?_ ?_ _) | go_size))⟩
  | some m =>
    have hm' := hm
    unfold shOf at hm'
    split at hm'
    case isFalse => cases hm'
    rename_i hk0
    obtain ⟨k, rfl⟩ := Int.eq_ofNat_of_zero_le hk0
    rw [Int.toNat_natCast] at hm'
    have hal := h2.len m (List.mem_of_getElem? hm')
    have hx0 : m.all[0]? = some (m.all[0]'(by have := h2.pos.1; omega)) := List.getElem?_eq_getElem _
    have HA := Lib.hid (rat_some w R ids M rw put h1 h2 k 0 m _ hm' hx0)
    clear hx0
    cases hf : m.free with
    | nil =>
      simp only [headF, hm, hf]
      have HF := Lib.hid (rfirst_nil w R ids M rw put h1 h2 k m hm hf)
      clear hm hm' hf h1 h2 hal hk0
      simp only [Nat.add_zero] at HA
      generalize k * ids = kn at *
      have hnI : 0 ≤ (kn : Int) := Int.natCast_nonneg _
      go_enter Try.func82, Try.ntmps82
      go_wp2_with (first | (go_at_call 48; refine HA.out.mono ?_; rintro e w' ⟨rfl, rfl⟩) | (go_at_call 95; refine (HF.out).mono ?_; rintro e w' ⟨rfl, hb⟩; obtain ⟨d, os, rfl⟩ := more_of hb; clear hb))
      go_ret3
      exact ⟨rfl, (by repeat' (first | (with_reducible exact Below.refl _ _) | (with_reducible assumption) | (with_reducible refine below_drewN ?_ _) | (with_reducible refine below_more _ _ _ ?_ ?_) | (with_reducible refine Below.alloc ?_ ?_ _) | (with_reducible refine Below.drew ?_) | (with_reducible refine Below.setCell ?_ ?_ _) | go_size))⟩
    | cons f fs =>
      obtain ⟨h0, h1'⟩ := (h2.good m (List.mem_of_getElem? hm')).inv.fr f (by rw [hf]; simp)
      obtain ⟨i, rfl⟩ := Int.eq_ofNat_of_zero_le h0
      obtain ⟨x, hx⟩ : ∃ x, m.all[i]? = some x := ⟨_, List.getElem?_eq_getElem (by omega)⟩
      simp only [headF, hm, hf, Int.toNat_natCast, hx]
      have HF := Lib.hid (rfirst_cons w R ids M rw put h1 h2 k i fs m hm' hf)
      have hm := hm'
      have hs := mSlots_get (rw := rw) M 0 k i m x h2.len hm hx
      obtain ⟨s0, s1, s2, s3, s4, s5⟩ := h1.slot hs
      obtain ⟨c0, c1, fp, fb, b0, b1⟩ := h1.tops
      obtain ⟨z1, z2⟩ := h1.bnd
      obtain ⟨y0, y1, y2, y3⟩ := lts b0
      obtain ⟨x0, x1, x2, x3⟩ := lts b1
      have b00 : ∀ n, R.p < w.heap.size + n := fun n => by omega
      have b11 : ∀ n, R.b < w.heap.size + n := fun n => by omega
      have hn := (List.getElem?_eq_some_iff.1 hs).1
      have hnI : 0 ≤ ((k * ids + i : Nat) : Int) := Int.natCast_nonneg _
      have hnL : ((k * ids + i : Nat) : Int) < ((mSlots rw 0 M).length : Int) := by omega
      unfold maxLen at z2
      clear hs hm hm' hf h1 h2 hal hk0 hx h0 h1'
      simp only [Nat.add_zero] at HA
      generalize (mSlots rw 0 M).length = len at *
      generalize k * ids + i = n at *
      generalize k * ids = kn at *
      have hknI : 0 ≤ (kn : Int) := Int.natCast_nonneg _
      obtain ⟨gen, bound, alive⟩ := x
      simp only at s1 s2 s3
      go_enter Try.func82, Try.ntmps82
      go_wp2_with (first | (go_at_call 48; refine HA.out.mono ?_; rintro e w' ⟨rfl, rfl⟩) | (go_at_call 95; refine (HF.out).mono ?_; rintro e w' ⟨rfl, hb⟩; obtain ⟨d, os, rfl⟩ := more_of hb; clear hb))
      refine wp_region_more (by kernel_rfl) (by kernel_rfl) ?_
      repeat (go_big_quiet_step (fail))
      refine wpQuiet_nil ?_
      rintro _ ⟨pn, rfl⟩
      go_wp2_with fail
      go_ret3
      exact ⟨rfl, (by repeat' (first | (with_reducible exact Below.refl _ _) | (with_reducible assumption) | (with_reducible refine below_drewN ?_ _) | (with_reducible refine below_more _ _ _ ?_ ?_) | (with_reducible refine Below.alloc ?_ ?_ _) | (with_reducible refine Below.drew ?_) | (with_reducible refine Below.setCell ?_ ?_ _) | go_size))⟩
end Go.Proofs.Ytbghjklnlhoklaa
