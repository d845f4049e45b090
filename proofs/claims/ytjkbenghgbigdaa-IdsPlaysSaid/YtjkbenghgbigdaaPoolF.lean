/-
  The program's pool of names: Take. No condition.
-/
import Derived.Test.YtjkbenghgbigdaaDel
namespace Go.Proofs.Ytjkbenghgbigdaa
open Go.RowKit

theorem Sl.cells {w : World} {v : Value} {zs : List Int} (hs : Sl w 3 1 v zs.length (zs.map (Value.int .i64))) : ∃ p cap, v = .slice p zs.length cap ∧ zs.length ≤ maxLen ∧ ∀ k, k < zs.length → ∃ b off, p = some ⟨b, off, none⟩ ∧ zs.length ≤ cap ∧ w.cell? ⟨b, off + k, none⟩ = some (.int .i64 (zs.getD k 0)) := by
  obtain ⟨_, ⟨rfl, h0⟩ | ⟨blk, off, cap, cur, rfl, hb, hn, hc, hsz, hr⟩⟩ := hs
  · exact ⟨none, 0, by rw [h0], by omega, fun k hk => by omega⟩
  · refine ⟨_, cap, rfl, by omega, fun k hk => ⟨blk, off, rfl, hn, ?_⟩⟩
    simp [World.cell?, hb, hr k (.int .i64 (zs.getD k 0)) (by simp [List.getD, hk])]

set_option maxHeartbeats 1000000 in
theorem index_any (v : Value) (zs : List Int) (x : Int) (w : World) (hs : Sl w 3 1 v zs.length (zs.map (Value.int .i64))) :
    Calls Try.prog 83 #[v, .int .i64 x] w fun e w' => (∃ r : Int, e = .returned (.int .i64 r) ∧ decide (0 ≤ r) = decide (x ∈ zs)) ∧ w = w' := by
  obtain ⟨p, cap, rfl, hlen, hc⟩ := hs.cells
  unfold maxLen at hlen
  have HC := Lib.hid hc
  clear hs hc
  go_enter Try.func83, Try.ntmps83
  go_wp2
  go_loop [8] (fun i => ∃ k : Nat, k ≤ zs.length ∧ i = .int .i64 k ∧ Hid (∀ j, j < k → zs.getD j 0 ≠ x)) (fun i => zs.length - (intOf i).toNat)
  case atStart => exact ⟨0, Nat.zero_le _, rfl, fun j hj => by omega⟩
  case round =>
    obtain ⟨k, hk, rfl, hno⟩ := hrel
    by_cases hlt : k < zs.length
    · obtain ⟨b, off, rfl, hcap, hcell⟩ := HC.out k hlt
      by_cases he : zs.getD k 0 = x
      · have hin : decide (x ∈ zs) = true := by
          rw [← he]; simp [List.getD, hlt]
        have HIN := Lib.hid hin
        clear hin
        have hb : (x == zs.getD k 0) = true := by rw [he]; simp
        have HE := Lib.hid he
        clear he
        generalize zs.getD k 0 = z at *
        go_wp2
        go_ret
        exact ⟨⟨k, rfl, by have h := HIN.out; simpa using h⟩, rfl⟩
      · have hb : (x == zs.getD k 0) = false := by simp; exact fun h => he h.symm
        have hno' : Hid (∀ j, j < k + 1 → zs.getD j 0 ≠ x) := fun j hj => by
          by_cases hjk : j = k
          · rw [hjk]; exact he
          · exact hno.out j (by omega)
        clear he
        generalize zs.getD k 0 = z at *
        go_wp2
        go_round
        case rel => exact ⟨k + 1, by omega, by go_num, hno'⟩
        case measure => simp [intOf]; omega
    · have hin : decide (x ∈ zs) = false := by
        rw [decide_eq_false_iff_not]
        intro hm
        obtain ⟨j, hj, e⟩ := List.getElem_of_mem hm
        exact hno.out j (by omega) (by simp [List.getD, hj, e])
      have HIN := Lib.hid hin
      clear hin
      go_wp2
      go_ret
      exact ⟨⟨-1, rfl, by have h := HIN.out; simpa using h⟩, rfl⟩

theorem contains_any (v : Value) (zs : List Int) (x : Int) (w : World) (hs : Sl w 3 1 v zs.length (zs.map (Value.int .i64))) :
    Calls Try.prog 64 #[v, .int .i64 x] w fun e w' => e = .returned (.bool (decide (x ∈ zs))) ∧ w = w' := by
  have hi := Lib.hid (index_any v zs x w hs)
  clear hs
  generalize decide (x ∈ zs) = B at *
  go_enter Try.func64, Try.ntmps64
  go_wp2_with (go_at_call 83; refine hi.out.mono ?_; rintro e w' ⟨⟨r, rfl, hr⟩, rfl⟩)
  go_ret
  exact ⟨by simp, rfl⟩

def frOf (M : List Sh) (k : Int) : List Int := match shOf M k with
  | none => []
  | some m => m.free

def takeF (M : List Sh) (s i g : Int) : Int × List Sh := match ixOf M s i with
  | none => (1, M)
  | some x => if g < 0 then (1, M) else if i ∉ frOf M s then (14, M) else if g < x.gen ∨ x.bound ≤ g then (9, M) else
    (0, setFr (setIx M s i ⟨g, x.bound, true⟩) s ((frOf M s).filter fun j => !(j == i)))

theorem frOf_nat {M : List Sh} {k : Nat} {m : Sh} (hm : M[k]? = some m) : frOf M k = m.free := by simp [frOf, shOf, hm]

theorem take_none (w : World) (s i g : Int) :
    Calls Try.prog 42 #[.pointer none, .agg #[.int .i64 s, .int .i64 i, .int .i64 g]] w fun e w' => e = .returned (.int .i64 1) ∧ Below w.heap.size w w' := by
  go_enter Try.func42, Try.ntmps42
  go_wp2_with (go_at_call 54; refine (at_none _ _ _).mono ?_; rintro e w' ⟨rfl, hb⟩; obtain ⟨d, os, rfl⟩ := more_of hb; clear hb)
  go_ret
  exact ⟨rfl, (by repeat' (first | (with_reducible exact Below.refl _ _) | (with_reducible assumption) | (with_reducible refine below_drewN ?_ _) | (with_reducible refine below_more _ _ _ ?_ ?_) | (with_reducible refine Below.alloc ?_ ?_ _) | (with_reducible refine Below.drew ?_) | (with_reducible refine Below.setCell ?_ ?_ _) | go_size))⟩

theorem take_out (w : World) (L : Lay) (M : List Sh) (s i g : Int) (h : PoolAt w L M) (ho : ixOf M s i = none) :
    Calls Try.prog 42 #[.pointer (some ⟨L.P, 0, none⟩), .agg #[.int .i64 s, .int .i64 i, .int .i64 g]] w fun e w' => e = .returned (.int .i64 1) ∧ Below w.heap.size w w' := by
  have HAT := Lib.hid (at_out _ L M s i (h.grown ((Below.refl _ _).alloc (Nat.le_refl _) (.cells #[.int .i64 s, .int .i64 i, .int .i64 g] 30))) ho)
  clear ho
  go_enter Try.func42, Try.ntmps42
  go_wp2_with (go_at_call 54; refine (HAT.out).mono ?_; rintro e w' ⟨rfl, hb⟩; obtain ⟨d, os, rfl⟩ := more_of hb; clear hb)
  go_ret
  exact ⟨rfl, (by repeat' (first | (with_reducible exact Below.refl _ _) | (with_reducible assumption) | (with_reducible refine below_drewN ?_ _) | (with_reducible refine below_more _ _ _ ?_ ?_) | (with_reducible refine Below.alloc ?_ ?_ _) | (with_reducible refine Below.drew ?_) | (with_reducible refine Below.setCell ?_ ?_ _) | go_size))⟩

set_option maxHeartbeats 1000000 in
theorem take_neg (w : World) (L : Lay) (M : List Sh) (s i g : Int) (x : Ix) (h : PoolAt w L M) (hx : ixOf M s i = some x) (hg : g < 0) :
    Calls Try.prog 42 #[.pointer (some ⟨L.P, 0, none⟩), .agg #[.int .i64 s, .int .i64 i, .int .i64 g]] w fun e w' => e = .returned (.int .i64 1) ∧ Below w.heap.size w w' := by
  obtain ⟨s, i, m, l, rfl, rfl, hm, hl, hx'⟩ := ixOf_nat h hx
  have HAT := Lib.hid (at_in _ L M s i m l (h.grown ((Below.refl _ _).alloc (Nat.le_refl _) (.cells #[.int .i64 s, .int .i64 i, .int .i64 g] 30))) hm hl (List.getElem?_eq_some_iff.1 hx').1)
  clear hx hx' hm hl
  go_enter Try.func42, Try.ntmps42
  go_wp2_with (go_at_call 54; refine (HAT.out).mono ?_; rintro e w' ⟨rfl, hb⟩; obtain ⟨d, os, rfl⟩ := more_of hb; clear hb)
  go_ret
  exact ⟨rfl, (by repeat' (first | (with_reducible exact Below.refl _ _) | (with_reducible assumption) | (with_reducible refine below_drewN ?_ _) | (with_reducible refine below_more _ _ _ ?_ ?_) | (with_reducible refine Below.alloc ?_ ?_ _) | (with_reducible refine Below.drew ?_) | (with_reducible refine Below.setCell ?_ ?_ _) | go_size))⟩

set_option maxHeartbeats 1000000 in
theorem take_state (w : World) (L : Lay) (M : List Sh) (s i g : Int) (x : Ix) (h : PoolAt w L M) (hx : ixOf M s i = some x) (hg : 0 ≤ g) (hn : i ∉ frOf M s) :
    Calls Try.prog 42 #[.pointer (some ⟨L.P, 0, none⟩), .agg #[.int .i64 s, .int .i64 i, .int .i64 g]] w fun e w' => e = .returned (.int .i64 14) ∧ Below w.heap.size w w' := by
  obtain ⟨s, i, m, l, rfl, rfl, hm, hl, hx'⟩ := ixOf_nat h hx
  have HAT := Lib.hid (at_in _ L M s i m l (h.grown ((Below.refl _ _).alloc (Nat.le_refl _) (.cells #[.int .i64 s, .int .i64 i, .int .i64 g] 30))) hm hl (List.getElem?_eq_some_iff.1 hx').1)
  rw [frOf_nat hm] at hn
  obtain ⟨hcA, hcF, fS, hfr, hinv, hk, hsl⟩ := h.sh hm hl
  have b2 : L.S < w.heap.size := World.block_lt_of_cell? w _ hcA
  obtain ⟨b20, b21, b22, b23⟩ := lts b2
  have HCT := fun w' (hb : Below w.heap.size w w') => contains_any l.fv m.free i w' ((h.grown hb).sh hm hl).2.2.2.2.2.2
  rw [decide_eq_false hn] at HCT
  have HCT := Lib.hid HCT
  clear hx hx' hm hl hn hinv hfr fS hsl
  generalize l.fv = fv at *
  go_enter Try.func42, Try.ntmps42
  go_wp2_with (go_at_call 54; refine (HAT.out).mono ?_; rintro e w' ⟨rfl, hb⟩; obtain ⟨d, os, rfl⟩ := more_of hb; clear hb)
  refine wp_region_more (by kernel_rfl) (by kernel_rfl) ?_
  repeat (go_big_quiet_step ((first | (go_at_call 64; exact more_same (HCT.out _ (by repeat' (first | (with_reducible exact Below.refl _ _) | (with_reducible assumption) | (with_reducible refine below_drewN ?_ _) | (with_reducible refine below_more _ _ _ ?_ ?_) | (with_reducible refine Below.alloc ?_ ?_ _) | (with_reducible refine Below.drew ?_) | (with_reducible refine Below.setCell ?_ ?_ _) | go_size)))))))
  refine wpQuiet_nil ?_
  rintro _ ⟨pm, rfl⟩
  go_wp2
  go_ret
  exact ⟨rfl, (by repeat' (first | (with_reducible exact Below.refl _ _) | (with_reducible assumption) | (with_reducible refine below_drewN ?_ _) | (with_reducible refine below_more _ _ _ ?_ ?_) | (with_reducible refine Below.alloc ?_ ?_ _) | (with_reducible refine Below.drew ?_) | (with_reducible refine Below.setCell ?_ ?_ _) | go_size))⟩

set_option maxHeartbeats 2000000 in
theorem take_stale (w : World) (L : Lay) (M : List Sh) (s i g : Int) (x : Ix) (h : PoolAt w L M) (hx : ixOf M s i = some x) (hg : 0 ≤ g) (hn : i ∈ frOf M s) (hst : g < x.gen ∨ x.bound ≤ g) :
    Calls Try.prog 42 #[.pointer (some ⟨L.P, 0, none⟩), .agg #[.int .i64 s, .int .i64 i, .int .i64 g]] w fun e w' => e = .returned (.int .i64 9) ∧ Below w.heap.size w w' := by
  obtain ⟨s, i, m, l, rfl, rfl, hm, hl, hx'⟩ := ixOf_nat h hx
  have HAT := Lib.hid (at_in _ L M s i m l (h.grown ((Below.refl _ _).alloc (Nat.le_refl _) (.cells #[.int .i64 s, .int .i64 i, .int .i64 g] 30))) hm hl (List.getElem?_eq_some_iff.1 hx').1)
  rw [frOf_nat hm] at hn
  obtain ⟨hcA, hcF, fS, hfr, hinv, hk, hsl⟩ := h.sh hm hl
  obtain ⟨c0, c1, c2⟩ := h.ix hm hl hx'
  have b1 : l.A < w.heap.size := World.block_lt_of_cell? w _ c1
  obtain ⟨b10, b11, b12, b13⟩ := lts b1
  have b2 : L.S < w.heap.size := World.block_lt_of_cell? w _ hcA
  obtain ⟨b20, b21, b22, b23⟩ := lts b2
  have HCT := fun w' (hb : Below w.heap.size w w') => contains_any l.fv m.free i w' ((h.grown hb).sh hm hl).2.2.2.2.2.2
  rw [decide_eq_true hn] at HCT
  have HCT := Lib.hid HCT
  clear hx hx' hm hl hn hinv hfr fS hsl
  generalize l.fv = fv at *
  generalize l.A = A at *
  obtain ⟨gen, bound, alive⟩ := x
  simp only at hst c0 c1 c2
  
  by_cases h1 : g < gen
  · go_enter Try.func42, Try.ntmps42
    go_wp2_with (go_at_call 54; refine (HAT.out).mono ?_; rintro e w' ⟨rfl, hb⟩; obtain ⟨d, os, rfl⟩ := more_of hb; clear hb)
    refine wp_region_more (by kernel_rfl) (by kernel_rfl) ?_
    repeat (go_big_quiet_step ((first | (go_at_call 64; exact more_same (HCT.out _ (by repeat' (first | (with_reducible exact Below.refl _ _) | (with_reducible assumption) | (with_reducible refine below_drewN ?_ _) | (with_reducible refine below_more _ _ _ ?_ ?_) | (with_reducible refine Below.alloc ?_ ?_ _) | (with_reducible refine Below.drew ?_) | (with_reducible refine Below.setCell ?_ ?_ _) | go_size)))))))
    refine wpQuiet_nil ?_
    rintro _ ⟨pm, rfl⟩
    go_wp2_with fail
    refine wp_region_more (by kernel_rfl) (by kernel_rfl) ?_
    repeat (go_big_quiet_step (fail))
    refine wpQuiet_nil ?_
    rintro _ ⟨pn, rfl⟩
    go_wp2
    go_ret
    exact ⟨rfl, (by repeat' (first | (with_reducible exact Below.refl _ _) | (with_reducible assumption) | (with_reducible refine below_drewN ?_ _) | (with_reducible refine below_more _ _ _ ?_ ?_) | (with_reducible refine Below.alloc ?_ ?_ _) | (with_reducible refine Below.drew ?_) | (with_reducible refine Below.setCell ?_ ?_ _) | go_size))⟩
  · have h2 : bound ≤ g := by omega
    have h3 : gen ≤ g := by omega
    have hd1 : decide (g < gen) = false := by simp; omega
    clear hst h1
    go_enter Try.func42, Try.ntmps42
    go_wp2_with (go_at_call 54; refine (HAT.out).mono ?_; rintro e w' ⟨rfl, hb⟩; obtain ⟨d, os, rfl⟩ := more_of hb; clear hb)
    refine wp_region_more (by kernel_rfl) (by kernel_rfl) ?_
    repeat (go_big_quiet_step ((first | (go_at_call 64; exact more_same (HCT.out _ (by repeat' (first | (with_reducible exact Below.refl _ _) | (with_reducible assumption) | (with_reducible refine below_drewN ?_ _) | (with_reducible refine below_more _ _ _ ?_ ?_) | (with_reducible refine Below.alloc ?_ ?_ _) | (with_reducible refine Below.drew ?_) | (with_reducible refine Below.setCell ?_ ?_ _) | go_size)))))))
    refine wpQuiet_nil ?_
    rintro _ ⟨pm, rfl⟩
    go_wp2_with fail
    refine wp_region_more (by kernel_rfl) (by kernel_rfl) ?_
    repeat (go_big_quiet_step (fail))
    refine wpQuiet_nil ?_
    rintro _ ⟨pn, rfl⟩
    go_wp2
    go_ret
    exact ⟨rfl, (by repeat' (first | (with_reducible exact Below.refl _ _) | (with_reducible assumption) | (with_reducible refine below_drewN ?_ _) | (with_reducible refine below_more _ _ _ ?_ ?_) | (with_reducible refine Below.alloc ?_ ?_ _) | (with_reducible refine Below.drew ?_) | (with_reducible refine Below.setCell ?_ ?_ _) | go_size))⟩
end Go.Proofs.Ytjkbenghgbigdaa
