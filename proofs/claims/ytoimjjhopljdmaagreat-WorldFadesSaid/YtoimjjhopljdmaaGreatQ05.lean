/-
  Chapter texts PoolF PoolG: what the claim reaches of them. Conditions stand at each theorem.
-/
import Derived.Test.YtoimjjhopljdmaaGreatQ04
namespace Go.Proofs.YtoimjjhopljdmaaGreat
open Go.RowKit

theorem Sl.cells {w : World} {v : Value} {zs : List Int} (hs : Sl w 3 1 v zs.length (zs.map (Value.int .i64))) : ∃ p cap, v = .slice p zs.length cap ∧ zs.length ≤ maxLen ∧ ∀ k, k < zs.length → ∃ b off, p = some ⟨b, off, none⟩ ∧ zs.length ≤ cap ∧ w.cell? ⟨b, off + k, none⟩ = some (.int .i64 (zs.getD k 0)) := by
  obtain ⟨_, ⟨rfl, h0⟩ | ⟨blk, off, cap, cur, rfl, hb, hn, hc, hsz, hr⟩⟩ := hs
  · exact ⟨none, 0, by rw [h0], by omega, fun k hk => by omega⟩
  · refine ⟨_, cap, rfl, by omega, fun k hk => ⟨blk, off, rfl, hn, ?_⟩⟩
    simp [World.cell?, hb, hr k (.int .i64 (zs.getD k 0)) (by simp [List.getD, hk])]

set_option maxHeartbeats 1000000 in
theorem index_any (v : Value) (zs : List Int) (x : Int) (w : World) (hs : Sl w 3 1 v zs.length (zs.map (Value.int .i64))) :
    Calls Tryz.prog 152 #[v, .int .i64 x] w fun e w' => (∃ r : Int, e = .returned (.int .i64 r) ∧ decide (0 ≤ r) = decide (x ∈ zs)) ∧ w = w' := by
  obtain ⟨p, cap, rfl, hlen, hc⟩ := hs.cells
  unfold maxLen at hlen
  have HC := Lib.hid hc
  clear hs hc
  go_enter Tryz.func152, Tryz.ntmps152
  go_wp2
  go_loop [8] (fun i => ∃ k : Nat, k ≤ zs.length ∧ i = .int .i64 k ∧ Hid (∀ j, j < k → zs.getD j 0 ≠ x)) (fun i => zs.length - (intOf i).toNat)
  case atStart => exact ⟨0, Nat.zero_le _, rfl, fun j hj => by omega⟩
  case round =>
    obtain ⟨k, hk, rfl, hno⟩ := hrel
    by_cases hlt : k < zs.length
    · obtain ⟨b, off, rfl, hcap, hcell⟩ := HC.out k hlt
      by_cases he : zs.getD k 0 = x
      · have hin : decide (x ∈ zs) = true := by
          rw [← he]; simp [List.getD, hlt]
        have HIN := Lib.hid hin
        clear hin
        have hb : (x == zs.getD k 0) = true := by rw [he]; simp
        have HE := Lib.hid he
        clear he
        generalize zs.getD k 0 = z at *
        go_wp2
        go_ret
        exact ⟨⟨k, rfl, by have h := HIN.out; simpa using h⟩, rfl⟩
      · have hb : (x == zs.getD k 0) = false := by simp; exact fun h => he h.symm
        have hno' : Hid (∀ j, j < k + 1 → zs.getD j 0 ≠ x) := fun j hj => by
          by_cases hjk : j = k
          · rw [hjk]; exact he
          · exact hno.out j (by omega)
        clear he
        generalize zs.getD k 0 = z at *
        go_wp2
        go_round
        case rel => exact ⟨k + 1, by omega, by go_num, hno'⟩
        case measure => simp [intOf]; omega
    · have hin : decide (x ∈ zs) = false := by
        rw [decide_eq_false_iff_not]
        intro hm
        obtain ⟨j, hj, e⟩ := List.getElem_of_mem hm
        exact hno.out j (by omega) (by simp [List.getD, hj, e])
      have HIN := Lib.hid hin
      clear hin
      go_wp2
      go_ret
      exact ⟨⟨-1, rfl, by have h := HIN.out; simpa using h⟩, rfl⟩

theorem contains_any (v : Value) (zs : List Int) (x : Int) (w : World) (hs : Sl w 3 1 v zs.length (zs.map (Value.int .i64))) :
    Calls Tryz.prog 129 #[v, .int .i64 x] w fun e w' => e = .returned (.bool (decide (x ∈ zs))) ∧ w = w' := by
  have hi := Lib.hid (index_any v zs x w hs)
  clear hs
  generalize decide (x ∈ zs) = B at *
  go_enter Tryz.func129, Tryz.ntmps129
  go_wp2_with (go_at_call 152; refine hi.out.mono ?_; rintro e w' ⟨⟨r, rfl, hr⟩, rfl⟩)
  go_ret
  exact ⟨by simp, rfl⟩

def frOf (M : List Sh) (k : Int) : List Int := match shOf M k with
  | none => []
  | some m => m.free

def takeF (M : List Sh) (s i g : Int) : Int × List Sh := match ixOf M s i with
  | none => (1, M)
  | some x => if g < 0 then (1, M) else if i ∉ frOf M s then (14, M) else if g < x.gen ∨ x.bound ≤ g then (9, M) else
    (0, setFr (setIx M s i ⟨g, x.bound, true⟩) s ((frOf M s).filter fun j => !(j == i)))

theorem frOf_nat {M : List Sh} {k : Nat} {m : Sh} (hm : M[k]? = some m) : frOf M k = m.free := by simp [frOf, shOf, hm]

theorem take_none (w : World) (s i g : Int) :
    Calls Tryz.prog 89 #[.pointer none, .agg #[.int .i64 s, .int .i64 i, .int .i64 g]] w fun e w' => e = .returned (.int .i64 1) ∧ Below w.heap.size w w' := by
  go_enter Tryz.func89, Tryz.ntmps89
  go_wp2_with (go_at_call 125; refine (at_none _ _ _).mono ?_; rintro e w' ⟨rfl, hb⟩; obtain ⟨d, os, rfl⟩ := more_of hb; clear hb)
  go_ret
  exact ⟨rfl, (by repeat' (first | (with_reducible exact Below.refl _ _) | (with_reducible assumption) | (with_reducible refine below_drewN ?_ _) | (with_reducible refine below_more _ _ _ ?_ ?_) | (with_reducible refine Below.alloc ?_ ?_ _) | (with_reducible refine Below.drew ?_) | (with_reducible refine Below.setCell ?_ ?_ _) | go_size))⟩

theorem take_out (w : World) (L : Lay) (M : List Sh) (s i g : Int) (h : PoolAt w L M) (ho : ixOf M s i = none) :
    Calls Tryz.prog 89 #[.pointer (some ⟨L.P, 0, none⟩), .agg #[.int .i64 s, .int .i64 i, .int .i64 g]] w fun e w' => e = .returned (.int .i64 1) ∧ Below w.heap.size w w' := by
  have HAT := Lib.hid (at_out _ L M s i (h.grown ((Below.refl _ _).alloc (Nat.le_refl _) (.cells #[.int .i64 s, .int .i64 i, .int .i64 g] 30))) ho)
  clear ho
  go_enter Tryz.func89, Tryz.ntmps89
  go_wp2_with (go_at_call 125; refine (HAT.out).mono ?_; rintro e w' ⟨rfl, hb⟩; obtain ⟨d, os, rfl⟩ := more_of hb; clear hb)
  go_ret
  exact ⟨rfl, (by repeat' (first | (with_reducible exact Below.refl _ _) | (with_reducible assumption) | (with_reducible refine below_drewN ?_ _) | (with_reducible refine below_more _ _ _ ?_ ?_) | (with_reducible refine Below.alloc ?_ ?_ _) | (with_reducible refine Below.drew ?_) | (with_reducible refine Below.setCell ?_ ?_ _) | go_size))⟩

set_option maxHeartbeats 1000000 in
theorem take_neg (w : World) (L : Lay) (M : List Sh) (s i g : Int) (x : Ix) (h : PoolAt w L M) (hx : ixOf M s i = some x) (hg : g < 0) :
    Calls Tryz.prog 89 #[.pointer (some ⟨L.P, 0, none⟩), .agg #[.int .i64 s, .int .i64 i, .int .i64 g]] w fun e w' => e = .returned (.int .i64 1) ∧ Below w.heap.size w w' := by
  obtain ⟨s, i, m, l, rfl, rfl, hm, hl, hx'⟩ := ixOf_nat h hx
  have HAT := Lib.hid (at_in _ L M s i m l (h.grown ((Below.refl _ _).alloc (Nat.le_refl _) (.cells #[.int .i64 s, .int .i64 i, .int .i64 g] 30))) hm hl (List.getElem?_eq_some_iff.1 hx').1)
  clear hx hx' hm hl
  go_enter Tryz.func89, Tryz.ntmps89
  go_wp2_with (go_at_call 125; refine (HAT.out).mono ?_; rintro e w' ⟨rfl, hb⟩; obtain ⟨d, os, rfl⟩ := more_of hb; clear hb)
  go_ret
  exact ⟨rfl, (by repeat' (first | (with_reducible exact Below.refl _ _) | (with_reducible assumption) | (with_reducible refine below_drewN ?_ _) | (with_reducible refine below_more _ _ _ ?_ ?_) | (with_reducible refine Below.alloc ?_ ?_ _) | (with_reducible refine Below.drew ?_) | (with_reducible refine Below.setCell ?_ ?_ _) | go_size))⟩

set_option maxHeartbeats 1000000 in
theorem take_state (w : World) (L : Lay) (M : List Sh) (s i g : Int) (x : Ix) (h : PoolAt w L M) (hx : ixOf M s i = some x) (hg : 0 ≤ g) (hn : i ∉ frOf M s) :
    Calls Tryz.prog 89 #[.pointer (some ⟨L.P, 0, none⟩), .agg #[.int .i64 s, .int .i64 i, .int .i64 g]] w fun e w' => e = .returned (.int .i64 14) ∧ Below w.heap.size w w' := by
  obtain ⟨s, i, m, l, rfl, rfl, hm, hl, hx'⟩ := ixOf_nat h hx
  have HAT := Lib.hid (at_in _ L M s i m l (h.grown ((Below.refl _ _).alloc (Nat.le_refl _) (.cells #[.int .i64 s, .int .i64 i, .int .i64 g] 30))) hm hl (List.getElem?_eq_some_iff.1 hx').1)
  rw [frOf_nat hm] at hn
  obtain ⟨hcA, hcF, fS, hfr, hinv, hk, hsl⟩ := h.sh hm hl
  have b2 : L.S < w.heap.size := World.block_lt_of_cell? w _ hcA
  obtain ⟨b20, b21, b22, b23⟩ := lts b2
  have HCT := fun w' (hb : Below w.heap.size w w') => contains_any l.fv m.free i w' ((h.grown hb).sh hm hl).2.2.2.2.2.2
  rw [decide_eq_false hn] at HCT
  have HCT := Lib.hid HCT
  clear hx hx' hm hl hn hinv hfr fS hsl
  generalize l.fv = fv at *
  go_enter Tryz.func89, Tryz.ntmps89
  go_wp2_with (go_at_call 125; refine (HAT.out).mono ?_; rintro e w' ⟨rfl, hb⟩; obtain ⟨d, os, rfl⟩ := more_of hb; clear hb)
  refine wp_region_more (by kernel_rfl) (by kernel_rfl) ?_
  repeat (go_big_quiet_step ((first | (go_at_call 129; exact more_same (HCT.out _ (by repeat' (first | (with_reducible exact Below.refl _ _) | (with_reducible assumption) | (with_reducible refine below_drewN ?_ _) | (with_reducible refine below_more _ _ _ ?_ ?_) | (with_reducible refine Below.alloc ?_ ?_ _) | (with_reducible refine Below.drew ?_) | (with_reducible refine Below.setCell ?_ ?_ _) | go_size)))))))
  refine wpQuiet_nil ?_
  rintro _ ⟨pm, rfl⟩
  go_wp2
  go_ret
  exact ⟨rfl, (by repeat' (first | (with_reducible exact Below.refl _ _) | (with_reducible assumption) | (with_reducible refine below_drewN ?_ _) | (with_reducible refine below_more _ _ _ ?_ ?_) | (with_reducible refine Below.alloc ?_ ?_ _) | (with_reducible refine Below.drew ?_) | (with_reducible refine Below.setCell ?_ ?_ _) | go_size))⟩

set_option maxHeartbeats 2000000 in
theorem take_stale (w : World) (L : Lay) (M : List Sh) (s i g : Int) (x : Ix) (h : PoolAt w L M) (hx : ixOf M s i = some x) (hg : 0 ≤ g) (hn : i ∈ frOf M s) (hst : g < x.gen ∨ x.bound ≤ g) :
    Calls Tryz.prog 89 #[.pointer (some ⟨L.P, 0, none⟩), .agg #[.int .i64 s, .int .i64 i, .int .i64 g]] w fun e w' => e = .returned (.int .i64 9) ∧ Below w.heap.size w w' := by
  obtain ⟨s, i, m, l, rfl, rfl, hm, hl, hx'⟩ := ixOf_nat h hx
  have HAT := Lib.hid (at_in _ L M s i m l (h.grown ((Below.refl _ _).alloc (Nat.le_refl _) (.cells #[.int .i64 s, .int .i64 i, .int .i64 g] 30))) hm hl (List.getElem?_eq_some_iff.1 hx').1)
  rw [frOf_nat hm] at hn
  obtain ⟨hcA, hcF, fS, hfr, hinv, hk, hsl⟩ := h.sh hm hl
  obtain ⟨c0, c1, c2⟩ := h.ix hm hl hx'
  have b1 : l.A < w.heap.size := World.block_lt_of_cell? w _ c1
  obtain ⟨b10, b11, b12, b13⟩ := lts b1
  have b2 : L.S < w.heap.size := World.block_lt_of_cell? w _ hcA
  obtain ⟨b20, b21, b22, b23⟩ := lts b2
  have HCT := fun w' (hb : Below w.heap.size w w') => contains_any l.fv m.free i w' ((h.grown hb).sh hm hl).2.2.2.2.2.2
  rw [decide_eq_true hn] at HCT
  have HCT := Lib.hid HCT
  clear hx hx' hm hl hn hinv hfr fS hsl
  generalize l.fv = fv at *
  generalize l.A = A at *
  obtain ⟨gen, bound, alive⟩ := x
  simp only at hst c0 c1 c2
  
  by_cases h1 : g < gen
  · go_enter Tryz.func89, Tryz.ntmps89
    go_wp2_with (go_at_call 125; refine (HAT.out).mono ?_; rintro e w' ⟨rfl, hb⟩; obtain ⟨d, os, rfl⟩ := more_of hb; clear hb)
    refine wp_region_more (by kernel_rfl) (by kernel_rfl) ?_
    repeat (go_big_quiet_step ((first | (go_at_call 129; exact more_same (HCT.out _ (by repeat' (first | (with_reducible exact Below.refl _ _) | (with_reducible assumption) | (with_reducible refine below_drewN ?_ _) | (with_reducible refine below_more _ _ _ ?_ ?_) | (with_reducible refine Below.alloc ?_ ?_ _) | (with_reducible refine Below.drew ?_) | (with_reducible refine Below.setCell ?_ ?_ _) | go_size)))))))
    refine wpQuiet_nil ?_
    rintro _ ⟨pm, rfl⟩
    go_wp2_with fail
    refine wp_region_more (by kernel_rfl) (by kernel_rfl) ?_
    repeat (go_big_quiet_step (fail))
    refine wpQuiet_nil ?_
    rintro _ ⟨pn, rfl⟩
    go_wp2
    go_ret
    exact ⟨rfl, (by repeat' (first | (with_reducible exact Below.refl _ _) | (with_reducible assumption) | (with_reducible refine below_drewN ?_ _) | (with_reducible refine below_more _ _ _ ?_ ?_) | (with_reducible refine Below.alloc ?_ ?_ _) | (with_reducible refine Below.drew ?_) | (with_reducible refine Below.setCell ?_ ?_ _) | go_size))⟩
  · have h2 : bound ≤ g := by omega
    have h3 : gen ≤ g := by omega
    have hd1 : decide (g < gen) = false := by simp; omega
    clear hst h1
    go_enter Tryz.func89, Tryz.ntmps89
    go_wp2_with (go_at_call 125; refine (HAT.out).mono ?_; rintro e w' ⟨rfl, hb⟩; obtain ⟨d, os, rfl⟩ := more_of hb; clear hb)
    refine wp_region_more (by kernel_rfl) (by kernel_rfl) ?_
    repeat (go_big_quiet_step ((first | (go_at_call 129; exact more_same (HCT.out _ (by repeat' (first | (with_reducible exact Below.refl _ _) | (with_reducible assumption) | (with_reducible refine below_drewN ?_ _) | (with_reducible refine below_more _ _ _ ?_ ?_) | (with_reducible refine Below.alloc ?_ ?_ _) | (with_reducible refine Below.drew ?_) | (with_reducible refine Below.setCell ?_ ?_ _) | go_size)))))))
    refine wpQuiet_nil ?_
    rintro _ ⟨pm, rfl⟩
    go_wp2_with fail
    refine wp_region_more (by kernel_rfl) (by kernel_rfl) ?_
    repeat (go_big_quiet_step (fail))
    refine wpQuiet_nil ?_
    rintro _ ⟨pn, rfl⟩
    go_wp2
    go_ret
    exact ⟨rfl, (by repeat' (first | (with_reducible exact Below.refl _ _) | (with_reducible assumption) | (with_reducible refine below_drewN ?_ _) | (with_reducible refine below_more _ _ _ ?_ ?_) | (with_reducible refine Below.alloc ?_ ?_ _) | (with_reducible refine Below.drew ?_) | (with_reducible refine Below.setCell ?_ ?_ _) | go_size))⟩
end Go.Proofs.YtoimjjhopljdmaaGreat
namespace Go.Proofs.YtoimjjhopljdmaaGreat
open Go.RowKit

theorem take1_any (b : Nat) (x i : Int) (W : World) (hc : W.cell? ⟨b, 1, none⟩ = some (.int .i64 i)) :
    Calls Tryz.prog 131 (#[.int .i64 x] ++ #[.pointer (some ⟨b, 0, none⟩)]) W fun e w' => e = .returned (.bool (x == i)) ∧ ∃ q, w' = W.drewN q := by
  show Calls Tryz.prog 131 #[.int .i64 x, .pointer (some ⟨b, 0, none⟩)] W _
  go_enter Tryz.func131, Tryz.ntmps131
  go_wp2
  go_ret
  exact ⟨rfl, 0, rfl⟩

theorem ShInv.drop {m : Sh} {i : Nat} (h : ShInv m) (x' : Ix) (hr : 0 ≤ x'.gen ∧ x'.gen ≤ 1048576 ∧ 0 ≤ x'.bound ∧ x'.bound ≤ 1048576 ∧ (x'.alive = true → x'.gen < 1048576)) :
    ShInv { m with free := m.free.filter fun j => !(j == (i : Int)) } ∧ ShInv { m with all := m.all.set i x', free := m.free.filter fun j => !(j == (i : Int)) } := by
  have h1 : ShInv { m with free := m.free.filter fun j => !(j == (i : Int)) } :=
    ⟨h.few, h.rng, fun f hf => h.fr f ((List.mem_filter.1 hf).1), h.nd.filter _, fun f hf => h.dead f ((List.mem_filter.1 hf).1)⟩
  exact ⟨h1, h1.set_ix i x' hr fun hf => by simp [List.mem_filter] at hf⟩

set_option maxRecDepth 100000 in
set_option maxHeartbeats 2000000 in
theorem take_in (w : World) (L : Lay) (M : List Sh) (s i g : Int) (x : Ix) (h : PoolAt w L M) (hx : ixOf M s i = some x) (hg : 0 ≤ g) (hn : i ∈ frOf M s) (h1 : x.gen ≤ g) (h2 : g < x.bound) :
    Calls Tryz.prog 89 #[.pointer (some ⟨L.P, 0, none⟩), .agg #[.int .i64 s, .int .i64 i, .int .i64 g]] w fun e w' => e = .returned (.int .i64 0) ∧ Stp w L w' (setFr (setIx M s i ⟨g, x.bound, true⟩) s ((frOf M s).filter fun j => !(j == i))) := by
  obtain ⟨s, i, m, l, rfl, rfl, hm, hl, hx'⟩ := ixOf_nat h hx
  have HAT := Lib.hid (at_in _ L M s i m l (h.grown ((Below.refl _ _).alloc (Nat.le_refl _) (.cells #[.int .i64 s, .int .i64 i, .int .i64 g] 30))) hm hl (List.getElem?_eq_some_iff.1 hx').1)
  rw [frOf_nat hm] at hn ⊢
  obtain ⟨hcA, hcF, fS, hfr, hinv, hk, hsl⟩ := h.sh hm hl
  obtain ⟨c0, c1, c2⟩ := h.ix hm hl hx'
  have f0 := hfr (i * 3)
  have f2 := hfr (i * 3 + 2)
  have f3 := fS (s * 2 + 1)
  have b1 : l.A < w.heap.size := World.block_lt_of_cell? w _ c1
  obtain ⟨b10, b11, b12, b13⟩ := lts b1
  have b2 : L.S < w.heap.size := World.block_lt_of_cell? w _ hcA
  obtain ⟨b20, b21, b22, b23⟩ := lts b2
  have b3 := h.S_ne_A hl
  have hr := hinv.rng i x hx'
  have HCT := fun w' (hb : Below w.heap.size w w') => contains_any l.fv m.free i w' ((h.grown hb).sh hm hl).2.2.2.2.2.2
  rw [decide_eq_true hn] at HCT
  have HCT := Lib.hid HCT
  obtain ⟨i1, i2⟩ := hinv.drop (i := i) ⟨g, x.bound, true⟩ ⟨hg, by simp only; omega, hr.2.2.1, hr.2.2.2.1, fun _ => by simp only; omega⟩
  have fin : ∀ (W : World), Below w.heap.size w W → Sl W 3 1 l.fv m.free.length (m.free.map (Value.int .i64)) ∧ ∀ (v' : Value) (w1 : World), Kept W w1 l.fv v' (m.free.filter fun j => !(j == (i : Int))) →
      Stp w L (((w1.setCell ⟨L.S, s * 2 + 1, none⟩ v').setCell ⟨l.A, i * 3, none⟩ (.int .i64 g)).setCell ⟨l.A, i * 3 + 2, none⟩ (.bool true)) (setFr (setIx M s i ⟨g, x.bound, true⟩) s (m.free.filter fun j => !(j == (i : Int)))) := by
    intro W hW
    have PW : PoolAt W L M := h.grown hW
    refine ⟨(PW.sh hm hl).2.2.2.2.2.2, fun v' w1 hk1 => ?_⟩
    obtain ⟨hs1, ht, ho, _⟩ := hk1
    obtain ⟨p2, o2⟩ := PW.set_free hm hl (w1 := w1) (Chg.of_turned ht fun k e _ => e) (v := v') (fr := m.free.filter fun j => !(j == (i : Int))) hs1 (fun g' hg' => .inl (by rw [← ho]; exact hg')) i1
    have hk2 : s < L.sh.length := (List.getElem?_eq_some_iff.1 hl).1
    have p3 := p2.set_ga (k := s) (i := i) (m := { m with free := m.free.filter fun j => !(j == (i : Int)) }) (l := { l with fv := v' }) (x := x) (x' := ⟨g, x.bound, true⟩) (List.getElem?_set_self hk) (List.getElem?_set_self hk2) hx' rfl i2
    refine ⟨L.put s { l with fv := v' }, rfl, ?_, ?_, fun b hb => (o2 b hb).imp_right fun h => Nat.le_trans hW.size h⟩
    · rw [setIx_nat _ hm, setFr_nat (m := { m with all := m.all.set i ⟨g, x.bound, true⟩ }) _ (List.getElem?_set_self hk)]
      rw [List.set_set] at p3 ⊢
      exact p3
    · exact ((((Chg.of_below hW (F := L.own)).trans (Chg.of_turned ht (F := L.own) fun k e _ => Lay.own_at hl (.inr (.inr e))) fun _ _ h => h).setCell ⟨L.S, s * 2 + 1, none⟩ _ (.inl ⟨1, rfl⟩)).setCell ⟨l.A, i * 3, none⟩ _ (.inl (Lay.own_at hl (.inr (.inl rfl))))).setCell ⟨l.A, i * 3 + 2, none⟩ _ (.inl (Lay.own_at hl (.inr (.inl rfl))))
  have FIN := Lib.hid fin
  have HN := Lib.hid (fun e => h.S_ne_F hl e rfl : l.fv.ownBlock ≠ some L.S)
  have HN2 := Lib.hid (fun e => by have := hsl.lt e; omega : l.fv.ownBlock ≠ some w.heap.size)
  have HN3 := Lib.hid (fun e => h.A_ne_F hl hl e rfl : l.fv.ownBlock ≠ some l.A)
  obtain ⟨gen, bound, alive⟩ := x
  simp only at h1 h2 c0 c1 c2
  have hd1 : decide (g < gen) = false := by simp; omega
  have hd2 : decide (bound ≤ g) = false := by simp; omega
  generalize l.fv = fv at *
  generalize l.A = A at *
  have HX := Lib.hid hx
  clear hx hx' hm hl hn hinv hfr fS hsl fin i1 i2 hr
  go_enter Tryz.func89, Tryz.ntmps89
  go_wp2_with (go_at_call 125; refine (HAT.out).mono ?_; rintro e w' ⟨rfl, hb⟩; obtain ⟨d, os, rfl⟩ := more_of hb; clear hb)
  refine wp_region_more (by kernel_rfl) (by kernel_rfl) ?_
  repeat (go_big_quiet_step ((first | (go_at_call 129; exact more_same (HCT.out _ (by repeat' (first | (with_reducible exact Below.refl _ _) | (with_reducible assumption) | (with_reducible refine below_drewN ?_ _) | (with_reducible refine below_more _ _ _ ?_ ?_) | (with_reducible refine Below.alloc ?_ ?_ _) | (with_reducible refine Below.drew ?_) | (with_reducible refine Below.setCell ?_ ?_ _) | go_size)))))))
  refine wpQuiet_nil ?_
  rintro _ ⟨pm, rfl⟩
  go_wp2_with fail
  refine wp_region_more (by kernel_rfl) (by kernel_rfl) ?_
  repeat (go_big_quiet_step (fail))
  refine wpQuiet_nil ?_
  rintro _ ⟨pn, rfl⟩
  go_wp2_with fail
  have eg : ∀ args w, (callFunc 131 args).run Tryz.prog w = .ok (.enter 131 args) w := enters_of Tryz.func131 (by kernel_rfl) rfl
  refine (del_sl 131 _ eg (fun j => j == (i : Int)) fv m.free _ (FIN.out _ (by repeat' (first | (with_reducible exact Below.refl _ _) | (with_reducible assumption) | (with_reducible refine below_drewN ?_ _) | (with_reducible refine below_more _ _ _ ?_ ?_) | (with_reducible refine Below.alloc ?_ ?_ _) | (with_reducible refine Below.drew ?_) | (with_reducible refine Below.setCell ?_ ?_ _) | go_size))).1 ?_).mono ?_
  · intro W' ht x _
    exact take1_any _ _ _ _ (by rw [ht.cell (by simp; omega) HN2.out]; simp [go_sem])
  rintro e w1 ⟨v', rfl, hs1, ht, ho, p, n, c, rfl⟩
  have k1 : w1.cell? ⟨L.S, s * 2 + 1, none⟩ = some fv := by rw [ht.cell (by simp; omega) HN.out]; simp [go_sem, hcF, b20, b21, b22, b2]
  have k2 : w1.frozen? ⟨L.S, s * 2 + 1, none⟩ = false := by rw [ht.frozen (by simp; omega) HN.out]; simp [go_sem, f3, b20, b21, b22, b2]
  have k3 : w1.cell? ⟨A, i * 3, none⟩ = some (.int .i64 gen) := by rw [ht.cell (by simp; omega) HN3.out]; simp [go_sem, c0, b10, b11, b12, b1]
  have k4 : w1.frozen? ⟨A, i * 3, none⟩ = false := by rw [ht.frozen (by simp; omega) HN3.out]; simp [go_sem, f0, b10, b11, b12, b1]
  have k5 : w1.cell? ⟨A, i * 3 + 2, none⟩ = some (.bool alive) := by rw [ht.cell (by simp; omega) HN3.out]; simp [go_sem, c2, b10, b11, b12, b1]
  have k6 : w1.frozen? ⟨A, i * 3 + 2, none⟩ = false := by rw [ht.frozen (by simp; omega) HN3.out]; simp [go_sem, f2, b10, b11, b12, b1]
  have k7 : w1.cell? ⟨w.heap.size, 2, none⟩ = some (.int .i64 g) := by rw [ht.cell (by simp; omega) HN2.out]; simp [go_sem]
  have k8 : w.heap.size ≠ L.S := by omega
  have HO := Lib.hid ho
  clear ho eg
  go_wp2
  go_ret
  exact ⟨rfl, (FIN.out _ (by repeat' (first | (with_reducible exact Below.refl _ _) | (with_reducible assumption) | (with_reducible refine below_drewN ?_ _) | (with_reducible refine below_more _ _ _ ?_ ?_) | (with_reducible refine Below.alloc ?_ ?_ _) | (with_reducible refine Below.drew ?_) | (with_reducible refine Below.setCell ?_ ?_ _) | go_size))).2 _ w1 ⟨hs1, ht, HO.out, _, _, _, rfl⟩⟩

theorem free_ix {w : World} {L : Lay} {M : List Sh} (h : PoolAt w L M) {k : Int} {m : Sh} {f : Int} {fs : List Int} (hm : shOf M k = some m) (hf : m.free = f :: fs) : ∃ x, m.all[f.toNat]? = some x := by
  obtain ⟨k, l, rfl, hm', hl⟩ := shOf_nat h hm
  have hi := (h.sh hm' hl).2.2.2.2.1.fr f (by rw [hf]; simp)
  exact ⟨m.all[f.toNat]'(by omega), List.getElem?_eq_getElem _⟩

def headF (M : List Sh) (k : Int) : Int × Bool × Int := match shOf M k with
  | none => (0, false, 1)
  | some m => match m.free with
    | [] => (0, false, 8)
    | f :: _ => match m.all[f.toNat]? with
      | none => (0, false, 8)
      | some x => (f, decide (x.gen < x.bound), 0)

theorem head_any (w : World) (L : Lay) (M : List Sh) (k : Int) (h : PoolAt w L M) :
    Calls Tryz.prog 86 #[.pointer (some ⟨L.P, 0, none⟩), .int .i64 k] w fun e w' =>
      e = .returned (.tuple #[.int .i64 (headF M k).1, .bool (headF M k).2.1, .int .i64 (headF M k).2.2]) ∧ Below w.heap.size w w' := by
  cases hm : shOf M k with
  | none => simp only [headF, hm]; exact head_out w L M k h hm
  | some m =>
    cases hf : m.free with
    | nil => simp only [headF, hm, hf]; exact head_full w L M k m h hm hf
    | cons f fs =>
      obtain ⟨x, hx⟩ := free_ix h hm hf
      simp only [headF, hm, hf, hx]
      exact head_in w L M k m f fs x h hm hf hx

theorem free_any (w : World) (L : Lay) (M : List Sh) (s i g : Int) (h : PoolAt w L M) :
    Calls Tryz.prog 108 #[.pointer (some ⟨L.P, 0, none⟩), .agg #[.int .i64 s, .int .i64 i, .int .i64 g]] w fun e w' => e = .returned (.int .i64 (freeF M s i g).1) ∧ Stp w L w' (freeF M s i g).2 := by
  have HE := fun w' (hb : Below w.heap.size w w') => Stp.of_grown h hb
  cases hx : ixOf M s i with
  | none => simp only [freeF, hx]; exact (free_out w L M s i g h hx).mono fun e w' ⟨he, hb⟩ => ⟨he, HE w' hb⟩
  | some x =>
    by_cases hg : g < 0
    · simp only [freeF, hx, if_pos hg]; exact (free_neg w L M s i g x h hx hg).mono fun e w' ⟨he, hb⟩ => ⟨he, HE w' hb⟩
    · cases ha : (x.alive && x.gen == g) with
      | false => simp only [freeF, hx, if_neg hg, ha, if_true]; exact (free_stale w L M s i g x h hx (by omega) ha).mono fun e w' ⟨he, hb⟩ => ⟨he, HE w' hb⟩
      | true =>
        have ha' := ha
        simp only [Bool.and_eq_true, beq_iff_eq] at ha'
        by_cases hw : x.gen + 1 < 1048576
        · simp only [freeF, hx, if_neg hg, ha, if_pos hw, Bool.true_eq_false, if_false]
          exact free_in w L M s i g x h hx ha'.1 ha'.2 hw
        · simp only [freeF, hx, if_neg hg, ha, if_neg hw, Bool.true_eq_false, if_false]
          exact free_worn w L M s i g x h hx ha'.1 ha'.2 hw

theorem take_any (w : World) (L : Lay) (M : List Sh) (s i g : Int) (h : PoolAt w L M) :
    Calls Tryz.prog 89 #[.pointer (some ⟨L.P, 0, none⟩), .agg #[.int .i64 s, .int .i64 i, .int .i64 g]] w fun e w' => e = .returned (.int .i64 (takeF M s i g).1) ∧ Stp w L w' (takeF M s i g).2 := by
  have HE := fun w' (hb : Below w.heap.size w w') => Stp.of_grown h hb
  cases hx : ixOf M s i with
  | none => simp only [takeF, hx]; exact (take_out w L M s i g h hx).mono fun e w' ⟨he, hb⟩ => ⟨he, HE w' hb⟩
  | some x =>
    by_cases hg : g < 0
    · simp only [takeF, hx, if_pos hg]; exact (take_neg w L M s i g x h hx hg).mono fun e w' ⟨he, hb⟩ => ⟨he, HE w' hb⟩
    · by_cases hn : i ∈ frOf M s
      · by_cases hst : g < x.gen ∨ x.bound ≤ g
        · simp only [takeF, hx, if_neg hg, hn, not_true, if_false, if_pos hst]
          exact (take_stale w L M s i g x h hx (by omega) hn hst).mono fun e w' ⟨he, hb⟩ => ⟨he, HE w' hb⟩
        · simp only [takeF, hx, if_neg hg, hn, not_true, if_false, if_neg hst]
          exact take_in w L M s i g x h hx (by omega) hn (by omega) (by omega)
      · simp only [takeF, hx, if_neg hg, hn, not_false_eq_true, if_true]
        exact (take_state w L M s i g x h hx (by omega) hn).mono fun e w' ⟨he, hb⟩ => ⟨he, HE w' hb⟩
end Go.Proofs.YtoimjjhopljdmaaGreat
