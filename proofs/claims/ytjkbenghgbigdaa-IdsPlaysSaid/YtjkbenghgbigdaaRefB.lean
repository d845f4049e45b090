/-
  The reference's pool of names: what reads it (at, first, Of, Alive, Head). No condition.
-/
import Derived.Test.YtjkbenghgbigdaaRefA
import Derived.Test.YtjkbenghgbigdaaPoolL
namespace Go.Proofs.Ytjkbenghgbigdaa
open Go.RowKit

def AtR (l : List Slot) (k i r : Int) : Prop := (r = -1 ∧ ∀ (n : Nat) (s : Slot), l[n]? = some s → ¬ (s.k = k ∧ s.i = i)) ∨ ∃ (n : Nat) (s : Slot), r = n ∧ l[n]? = some s ∧ s.k = k ∧ s.i = i
def FirstP (l : List Slot) (k : Int) (n : Nat) (m : Int) : Prop := (m = -1 ∧ ∀ (j : Nat) (s : Slot), j < n → l[j]? = some s → s.k = k → s.row < 0) ∨
  ∃ (j : Nat) (s : Slot), m = j ∧ j < n ∧ l[j]? = some s ∧ s.k = k ∧ 0 ≤ s.row ∧ ∀ (j' : Nat) (s' : Slot), j' < n → l[j']? = some s' → s'.k = k → 0 ≤ s'.row → s.row ≤ s'.row

theorem FirstP.skip {l : List Slot} {k m : Int} {n : Nat} {s : Slot} (h : FirstP l k n m) (hs : l[n]? = some s) (hn : ¬ (s.k = k ∧ 0 ≤ s.row)) : FirstP l k (n + 1) m := by
  rcases h with ⟨h1, h2⟩ | ⟨j, t, h1, h2, h3, h4, h5, h6⟩
  · refine .inl ⟨h1, fun j t hj ht hk => ?_⟩
    by_cases hjn : j = n
    · subst hjn; rw [hs] at ht; obtain rfl := Option.some.inj ht
      exact Int.not_le.1 fun h => hn ⟨hk, h⟩
    · exact h2 j t (by omega) ht hk
  · refine .inr ⟨j, t, h1, by omega, h3, h4, h5, fun j' t' hj ht hk hr => ?_⟩
    by_cases hjn : j' = n
    · subst hjn; rw [hs] at ht; obtain rfl := Option.some.inj ht
      exact absurd ⟨hk, hr⟩ hn
    · exact h6 j' t' (by omega) ht hk hr
theorem FirstP.take {l : List Slot} {k m : Int} {n : Nat} {s : Slot} (h : FirstP l k n m) (hs : l[n]? = some s) (hk : s.k = k) (hr : 0 ≤ s.row) (hm : m < 0 ∨ ∃ (j : Nat) (t : Slot), m = j ∧ l[j]? = some t ∧ s.row < t.row) : FirstP l k (n + 1) n := by
  refine .inr ⟨n, s, rfl, by omega, hs, hk, hr, fun j' t' hj ht hk' hr' => ?_⟩
  by_cases hjn : j' = n
  · subst hjn; rw [hs] at ht; obtain rfl := Option.some.inj ht; exact Int.le_refl _
  · rcases h with ⟨h1, h2⟩ | ⟨j, t, h1, h2, h3, h4, h5, h6⟩
    · exact absurd (h2 j' t' (by omega) ht hk') (by omega)
    · rcases hm with hm | ⟨j2, t2, hm, ht2, hlt⟩
      · omega
      · have e : j2 = j := by omega
        subst e
        rw [h3] at ht2
        obtain rfl := Option.some.inj ht2
        have := h6 j' t' (by omega) ht hk' hr'
        omega
theorem FirstP.keep {l : List Slot} {k m : Int} {n j : Nat} {s t : Slot} (h : FirstP l k n m) (hs : l[n]? = some s) (hm : m = j) (ht : l[j]? = some t) (hr : t.row ≤ s.row) : FirstP l k (n + 1) m := by
  rcases h with ⟨h1, h2⟩ | ⟨j2, t2, h1, h2, h3, h4, h5, h6⟩
  · omega
  · have e : j2 = j := by omega
    subst e
    rw [h3] at ht
    obtain rfl := Option.some.inj ht
    refine .inr ⟨j2, t2, h1, by omega, h3, h4, h5, fun j' t' hj ht hk hr' => ?_⟩
    by_cases hjn : j' = n
    · subst hjn; rw [hs] at ht; obtain rfl := Option.some.inj ht; exact hr
    · exact h6 j' t' (by omega) ht hk hr'

set_option maxRecDepth 100000 in
set_option maxHeartbeats 2000000 in
theorem rat_any (w : World) (R : RLay) (l : List Slot) (put k i : Int) (h : RefAt w R l put) :
    Calls Try.prog 85 #[.pointer (some ⟨R.p, 0, none⟩), .int .i64 k, .int .i64 i] w fun e w' => (∃ r, e = .returned (.int .i64 r) ∧ AtR l k i r) ∧ w = w' := by
  obtain ⟨c0, _, _, _, b0, b1⟩ := h.tops
  obtain ⟨z1, z2⟩ := h.bnd
  unfold maxLen at z2
  have H := Lib.hid h
  clear h
  obtain ⟨p, b, off, cap⟩ := R
  simp only at c0 b0 b1 z1 z2
  go_enter Try.func85, Try.ntmps85
  go_wp2_with fail
  go_loop [7] (fun x => ∃ n : Nat, n ≤ l.length ∧ x = .int .i64 n ∧ Hid (∀ (j : Nat) (s : Slot), j < n → l[j]? = some s → ¬ (s.k = k ∧ s.i = i))) (fun x => l.length - (intOf x).toNat)
  case atStart => exact ⟨0, Nat.zero_le _, rfl, Lib.hid fun j s hj => by omega⟩
  case round =>
    obtain ⟨n, hn, rfl, hh⟩ := hrel
    have hI : 0 ≤ (n : Int) := Int.natCast_nonneg n
    by_cases hlt : n < l.length
    · obtain ⟨s, hs⟩ : ∃ s, l[n]? = some s := ⟨_, List.getElem?_eq_getElem hlt⟩
      obtain ⟨s0, s1, _, _, _, _⟩ := H.out.slot hs
      have HS := Lib.hid hs
      clear hs
      simp only at s0 s1
      by_cases h1 : s.k = k
      · have e1 : (s.k == k) = true := by simpa using h1
        by_cases h2 : s.i = i
        · have e2 : (s.i == i) = true := by simpa using h2
          have HK := Lib.hid (And.intro h1 h2)
          clear h1 h2
          go_wp2_with fail
          go_ret
          exact ⟨⟨n, rfl, .inr ⟨n, s, rfl, HS.out, HK.out.1, HK.out.2⟩⟩, rfl⟩
        · have e2 : (s.i == i) = false := by simpa using h2
          have HK := Lib.hid h2
          clear h1 h2
          go_wp2_with fail
          go_round
          case rel => exact ⟨n + 1, hlt, by go_num, Lib.hid fun j t hj ht => by
            by_cases hjn : j = n
            · subst hjn; have := HS.out; rw [ht] at this; obtain rfl := Option.some.inj this; exact fun h => HK.out h.2
            · exact hh.out j t (by omega) ht⟩
          case measure => simp [intOf]; omega
      · have e1 : (s.k == k) = false := by simpa using h1
        have HK := Lib.hid h1
        clear h1
        go_wp2_with fail
        go_round
        case rel => exact ⟨n + 1, hlt, by go_num, Lib.hid fun j t hj ht => by
          by_cases hjn : j = n
          · subst hjn; have := HS.out; rw [ht] at this; obtain rfl := Option.some.inj this; exact fun h => HK.out h.1
          · exact hh.out j t (by omega) ht⟩
        case measure => simp [intOf]; omega
    · obtain rfl : n = l.length := by omega
      go_wp2_with fail
      go_ret
      exact ⟨⟨-1, rfl, .inl ⟨rfl, fun j s hs => hh.out j s (List.getElem?_eq_some_iff.1 hs).1 hs⟩⟩, rfl⟩

set_option maxRecDepth 100000 in
set_option maxHeartbeats 4000000 in
theorem rfirst_any (w : World) (R : RLay) (l : List Slot) (put k : Int) (h : RefAt w R l put) :
    Calls Try.prog 86 #[.pointer (some ⟨R.p, 0, none⟩), .int .i64 k] w fun e w' => (∃ r, e = .returned (.int .i64 r) ∧ FirstP l k l.length r) ∧ Below w.heap.size w w' := by
  obtain ⟨z1, z2⟩ := h.bnd
  unfold maxLen at z2
  have H := Lib.hid h
  clear h
  obtain ⟨p, b, off, cap⟩ := R
  simp only at z1 z2
  go_enter Try.func86, Try.ntmps86
  go_wp2_with fail
  go_loopw [5, 6] (fun y x wr => ∃ (n : Nat) (m : Int), n ≤ l.length ∧ x = .int .i64 n ∧ y = .int .i64 m ∧ Hid (FirstP l k n m ∧ Below w.heap.size w wr)) (fun _ x _ => l.length - (intOf x).toNat)
  case atStart => exact ⟨0, -1, Nat.zero_le _, rfl, rfl, Lib.hid ⟨.inl ⟨rfl, fun j s hj => by omega⟩, (by repeat' (first | (with_reducible exact Below.refl _ _) | (with_reducible assumption) | (with_reducible refine below_drewN ?_ _) | (with_reducible refine below_more _ _ _ ?_ ?_) | (with_reducible refine Below.alloc ?_ ?_ _) | (with_reducible refine Below.drew ?_) | (with_reducible refine Below.setCell ?_ ?_ _) | go_size))⟩⟩
  case round =>
    obtain ⟨n, m, hn, rfl, rfl, hh⟩ := hrel
    obtain ⟨wo, rfl⟩ : ∃ wo : World, wo = wr := ⟨_, rfl⟩
    have hI : 0 ≤ (n : Int) := Int.natCast_nonneg n
    have HW := Lib.hid (H.out.grown hh.out.2)
    obtain ⟨c0, _, _, _, b0, b1⟩ := HW.out.tops
    simp only at c0 b0 b1
    obtain ⟨y0, y1, y2, y3⟩ := lts b0
    obtain ⟨x0, x1, x2, x3⟩ := lts b1
    have HE := Lib.hid (fun (W : World) (hW : Below wo.heap.size wo W) => hh.out.2.trans (hW.mono hh.out.2.size))
    by_cases hlt : n < l.length
    · obtain ⟨s, hs⟩ : ∃ s, l[n]? = some s := ⟨_, List.getElem?_eq_getElem hlt⟩
      obtain ⟨s0, s1, s2, s3, s4, s5⟩ := HW.out.slot hs
      have HS := Lib.hid hs
      clear hs
      simp only at s0 s1 s2 s3 s4 s5
      obtain ⟨sk, si, sg, sb, srow, sa⟩ := s
      simp only at s0 s1 s2 s3 s4 s5
      by_cases h1 : sk = k
      · have e1 : (sk == k) = true := by simpa using h1
        have HK := Lib.hid h1
        clear h1
        by_cases h2 : 0 ≤ srow
        · by_cases h3 : m < 0
          · go_wp2_with fail
            refine wp_region_more (by kernel_rfl) (by kernel_rfl) ?_
            repeat (go_big_quiet_step (fail))
            refine wpQuiet_nil ?_
            rintro _ ⟨pn, rfl⟩
            go_wp2_with fail
            go_roundw
            case rel => exact ⟨n + 1, n, hlt, by go_num, rfl, Lib.hid ⟨hh.out.1.take HS.out HK.out h2 (.inl h3), HE.out _ (by repeat' (first | (with_reducible exact Below.refl _ _) | (with_reducible assumption) | (with_reducible refine below_drewN ?_ _) | (with_reducible refine below_more _ _ _ ?_ ?_) | (with_reducible refine Below.alloc ?_ ?_ _) | (with_reducible refine Below.drew ?_) | (with_reducible refine Below.setCell ?_ ?_ _) | go_size))⟩⟩
            case measure => simp [intOf]; omega
          · obtain ⟨j, t, hm, ht⟩ : ∃ (j : Nat) (t : Slot), m = j ∧ l[j]? = some t := by
              rcases hh.out.1 with ⟨q1, _⟩ | ⟨j, t, q1, _, q2, _⟩
              · omega
              · exact ⟨j, t, q1, q2⟩
            subst hm
            have hjl : j < l.length := (List.getElem?_eq_some_iff.1 ht).1
            have hjI : 0 ≤ (j : Int) := Int.natCast_nonneg j
            obtain ⟨_, _, _, _, t4, _⟩ := HW.out.slot ht
            have HT := Lib.hid ht
            have hd1 : decide ((j : Int) < 0) = false := by simp
            have hd2 : decide (0 ≤ srow) = true := by simpa using h2
            simp only at t4
            clear ht h3
            by_cases h4 : srow < t.row
            · go_wp2_with fail
              refine wp_region_more (by kernel_rfl) (by kernel_rfl) ?_
              repeat (go_big_quiet_step (fail))
              refine wpQuiet_nil ?_
              rintro _ ⟨pn, rfl⟩
              go_wp2_with fail
              go_roundw
              case rel => exact ⟨n + 1, n, hlt, by go_num, rfl, Lib.hid ⟨hh.out.1.take HS.out HK.out h2 (.inr ⟨j, t, rfl, HT.out, h4⟩), HE.out _ (by repeat' (first | (with_reducible exact Below.refl _ _) | (with_reducible assumption) | (with_reducible refine below_drewN ?_ _) | (with_reducible refine below_more _ _ _ ?_ ?_) | (with_reducible refine Below.alloc ?_ ?_ _) | (with_reducible refine Below.drew ?_) | (with_reducible refine Below.setCell ?_ ?_ _) | go_size))⟩⟩
              case measure => simp [intOf]; omega
            · have h5 : t.row ≤ srow := by omega
              clear h4
              go_wp2_with fail
              refine wp_region_more (by kernel_rfl) (by kernel_rfl) ?_
              repeat (go_big_quiet_step (fail))
              refine wpQuiet_nil ?_
              rintro _ ⟨pn, rfl⟩
              go_wp2_with fail
              go_roundw
              case rel => exact ⟨n + 1, j, hlt, by go_num, rfl, Lib.hid ⟨hh.out.1.keep HS.out rfl HT.out h5, HE.out _ (by repeat' (first | (with_reducible exact Below.refl _ _) | (with_reducible assumption) | (with_reducible refine below_drewN ?_ _) | (with_reducible refine below_more _ _ _ ?_ ?_) | (with_reducible refine Below.alloc ?_ ?_ _) | (with_reducible refine Below.drew ?_) | (with_reducible refine Below.setCell ?_ ?_ _) | go_size))⟩⟩
              case measure => simp [intOf]; omega
        · have h3 : srow < 0 := by omega
          have hd2 : decide (0 ≤ srow) = false := by simpa using h3
          clear h2
          go_wp2_with fail
          refine wp_region_more (by kernel_rfl) (by kernel_rfl) ?_
          repeat (go_big_quiet_step (fail))
          refine wpQuiet_nil ?_
          rintro _ ⟨pn, rfl⟩
          go_wp2_with fail
          go_roundw
          case rel => exact ⟨n + 1, m, hlt, by go_num, rfl, Lib.hid ⟨hh.out.1.skip HS.out (fun h => by have := h.2; simp only at this; omega), HE.out _ (by repeat' (first | (with_reducible exact Below.refl _ _) | (with_reducible assumption) | (with_reducible refine below_drewN ?_ _) | (with_reducible refine below_more _ _ _ ?_ ?_) | (with_reducible refine Below.alloc ?_ ?_ _) | (with_reducible refine Below.drew ?_) | (with_reducible refine Below.setCell ?_ ?_ _) | go_size))⟩⟩
          case measure => simp [intOf]; omega
      · have e1 : (sk == k) = false := by simpa using h1
        have HK := Lib.hid h1
        clear h1
        go_wp2_with fail
        refine wp_region_more (by kernel_rfl) (by kernel_rfl) ?_
        repeat (go_big_quiet_step (fail))
        refine wpQuiet_nil ?_
        rintro _ ⟨pn, rfl⟩
        go_wp2_with fail
        go_roundw
        case rel => exact ⟨n + 1, m, hlt, by go_num, rfl, Lib.hid ⟨hh.out.1.skip HS.out (fun h => HK.out h.1), HE.out _ (by repeat' (first | (with_reducible exact Below.refl _ _) | (with_reducible assumption) | (with_reducible refine below_drewN ?_ _) | (with_reducible refine below_more _ _ _ ?_ ?_) | (with_reducible refine Below.alloc ?_ ?_ _) | (with_reducible refine Below.drew ?_) | (with_reducible refine Below.setCell ?_ ?_ _) | go_size))⟩⟩
        case measure => simp [intOf]; omega
    · obtain rfl : n = l.length := by omega
      go_wp2_with fail
      go_ret
      exact ⟨⟨m, rfl, hh.out.1⟩, HE.out _ (by repeat' (first | (with_reducible exact Below.refl _ _) | (with_reducible assumption) | (with_reducible refine below_drewN ?_ _) | (with_reducible refine below_more _ _ _ ?_ ?_) | (with_reducible refine Below.alloc ?_ ?_ _) | (with_reducible refine Below.drew ?_) | (with_reducible refine Below.setCell ?_ ?_ _) | go_size))⟩
end Go.Proofs.Ytjkbenghgbigdaa
