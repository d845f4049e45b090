/-
  Chapter texts PoolE Del PoolF: what the claim reaches of them. Conditions stand at each theorem.
-/
import Derived.Deep.RegionHeld3
import Derived.Deep.AppendLies
import Derived.Shelf.SlicesE.DeleteFunc
import Derived.Test.YtoimjjhopljdmaaGreatY25
namespace Go.Proofs.YtoimjjhopljdmaaGreat
open Go.RowKit

def addFr (M : List Sh) (k i : Int) : List Sh := match shOf M k with
  | none => M
  | some m => M.set k.toNat { m with free := m.free ++ [i] }

def freeF (M : List Sh) (s i g : Int) : Int × List Sh := match ixOf M s i with
  | none => (1, M)
  | some x => if g < 0 then (1, M) else if (x.alive && x.gen == g) = false then (9, M) else
    (0, if x.gen + 1 < 1048576 then addFr (setIx M s i ⟨x.gen + 1, x.bound, false⟩) s i else setIx M s i ⟨x.gen + 1, x.bound, false⟩)

theorem Turned.cell {w w' : World} {b : Option Nat} (h : Turned w w' b) {a : Addr} (ha : a.block < w.heap.size) (hb : b ≠ some a.block) : w'.cell? a = w.cell? a := World.cell?_of_block (w := w) (h.block _ ha (Ne.symm hb))
theorem Turned.frozen {w w' : World} {b : Option Nat} (h : Turned w w' b) {a : Addr} (ha : a.block < w.heap.size) (hb : b ≠ some a.block) : w'.frozen? a = w.frozen? a := World.frozen?_of_block (w := w) (h.block _ ha (Ne.symm hb))

theorem info_int : (Tryz.prog.info? 3).map (fun i => (i.zero, i.size, i.bytes)) = some (some (.int .i64 0), 1, 8) := by kernel_rfl

theorem free_none (w : World) (s i g : Int) :
    Calls Tryz.prog 108 #[.pointer none, .agg #[.int .i64 s, .int .i64 i, .int .i64 g]] w fun e w' => e = .returned (.int .i64 1) ∧ Below w.heap.size w w' := by
  go_enter Tryz.func108, Tryz.ntmps108
  go_wp2_with (go_at_call 125; refine (at_none _ _ _).mono ?_; rintro e w' ⟨rfl, hb⟩; obtain ⟨d, os, rfl⟩ := more_of hb; clear hb)
  go_ret
  exact ⟨rfl, bg⟩

theorem free_out (w : World) (L : Lay) (M : List Sh) (s i g : Int) (h : PoolAt w L M) (ho : ixOf M s i = none) :
    Calls Tryz.prog 108 #[.pointer (some ⟨L.P, 0, none⟩), .agg #[.int .i64 s, .int .i64 i, .int .i64 g]] w fun e w' => e = .returned (.int .i64 1) ∧ Below w.heap.size w w' := by
  have HAT := Lib.hid (at_out _ L M s i (h.grown ((Below.refl _ _).alloc (Nat.le_refl _) (.cells #[.int .i64 s, .int .i64 i, .int .i64 g] 30))) ho)
  clear ho
  go_enter Tryz.func108, Tryz.ntmps108
  go_wp2_with (go_at_call 125; refine (HAT.out).mono ?_; rintro e w' ⟨rfl, hb⟩; obtain ⟨d, os, rfl⟩ := more_of hb; clear hb)
  go_ret
  exact ⟨rfl, bg⟩

set_option maxHeartbeats 1000000 in
theorem free_neg (w : World) (L : Lay) (M : List Sh) (s i g : Int) (x : Ix) (h : PoolAt w L M) (hx : ixOf M s i = some x) (hg : g < 0) :
    Calls Tryz.prog 108 #[.pointer (some ⟨L.P, 0, none⟩), .agg #[.int .i64 s, .int .i64 i, .int .i64 g]] w fun e w' => e = .returned (.int .i64 1) ∧ Below w.heap.size w w' := by
  obtain ⟨s, i, m, l, rfl, rfl, hm, hl, hx'⟩ := ixOf_nat h hx
  have HAT := Lib.hid (at_in _ L M s i m l (h.grown ((Below.refl _ _).alloc (Nat.le_refl _) (.cells #[.int .i64 s, .int .i64 i, .int .i64 g] 30))) hm hl (List.getElem?_eq_some_iff.1 hx').1)
  clear hx hx' hm hl
  go_enter Tryz.func108, Tryz.ntmps108
  go_wp2_with (go_at_call 125; refine (HAT.out).mono ?_; rintro e w' ⟨rfl, hb⟩; obtain ⟨d, os, rfl⟩ := more_of hb; clear hb)
  go_ret
  exact ⟨rfl, bg⟩

set_option maxHeartbeats 1000000 in
theorem free_stale (w : World) (L : Lay) (M : List Sh) (s i g : Int) (x : Ix) (h : PoolAt w L M) (hx : ixOf M s i = some x) (hg : 0 ≤ g) (ha : (x.alive && x.gen == g) = false) :
    Calls Tryz.prog 108 #[.pointer (some ⟨L.P, 0, none⟩), .agg #[.int .i64 s, .int .i64 i, .int .i64 g]] w fun e w' => e = .returned (.int .i64 9) ∧ Below w.heap.size w w' := by
  have HAL := Lib.hid (fun w' (hb : Below w.heap.size w w') => alive_any w' L M s i g (h.grown hb))
  have hal : aliveF M s i g = false := by unfold aliveF; rw [hx]; exact ha
  rw [hal] at HAL
  obtain ⟨s, i, m, l, rfl, rfl, hm, hl, hx'⟩ := ixOf_nat h hx
  have HAT := Lib.hid (at_in _ L M s i m l (h.grown ((Below.refl _ _).alloc (Nat.le_refl _) (.cells #[.int .i64 s, .int .i64 i, .int .i64 g] 30))) hm hl (List.getElem?_eq_some_iff.1 hx').1)
  clear hx hx' hm hl ha hal
  go_enter Tryz.func108, Tryz.ntmps108
  go_wp2_with (first | (go_at_call 125; refine (HAT.out).mono ?_; rintro e w' ⟨rfl, hb⟩; obtain ⟨d, os, rfl⟩ := more_of hb; clear hb) | (go_at_call 84; refine (HAL.out _ bg).mono ?_; rintro e w' ⟨rfl, hb⟩; obtain ⟨d, os, rfl⟩ := more_of hb; clear hb))
  go_ret
  exact ⟨rfl, bg⟩

theorem ShInv.add {m : Sh} {i : Nat} {x : Ix} (h : ShInv m) (hx : m.all[i]? = some x) (ha : x.alive = true) (x' : Ix) (hr : 0 ≤ x'.gen ∧ x'.gen ≤ 1048576 ∧ 0 ≤ x'.bound ∧ x'.bound ≤ 1048576 ∧ (x'.alive = true → x'.gen < 1048576)) (ha' : x'.alive = false) :
    ShInv { m with all := m.all.set i x', free := m.free ++ [(i : Int)] } := by
  have hil : i < m.all.length := (List.getElem?_eq_some_iff.1 hx).1
  have hni : (i : Int) ∉ m.free := fun hf => by have := h.dead i hf x (by simpa using hx); rw [ha] at this; cases this
  have h1 := h.set_ix i x' hr (fun _ => ha')
  refine ⟨h1.few, h1.rng, fun f hf => ?_, ?_, fun f hf y hy => ?_⟩
  · rcases List.mem_append.1 hf with hf | hf
    · exact h1.fr f hf
    · obtain rfl : f = i := by simpa using hf
      simp; omega
  · rw [List.nodup_append]
    exact ⟨h.nd, by simp, fun a ha b hb => by rintro rfl; simp at hb; subst hb; exact hni ha⟩
  · rcases List.mem_append.1 hf with hf | hf
    · exact h1.dead f hf y hy
    · obtain rfl : f = i := by simpa using hf
      simp only [Int.toNat_natCast] at hy
      rw [List.getElem?_set_self hil] at hy
      cases hy
      exact ha'

set_option maxRecDepth 100000 in
set_option maxHeartbeats 1000000 in
theorem free_worn (w : World) (L : Lay) (M : List Sh) (s i g : Int) (x : Ix) (h : PoolAt w L M) (hx : ixOf M s i = some x) (ha : x.alive = true) (hg : x.gen = g) (hw : ¬ x.gen + 1 < 1048576) :
    Calls Tryz.prog 108 #[.pointer (some ⟨L.P, 0, none⟩), .agg #[.int .i64 s, .int .i64 i, .int .i64 g]] w fun e w' => e = .returned (.int .i64 0) ∧ Stp w L w' (setIx M s i ⟨x.gen + 1, x.bound, false⟩) := by
  have HAL := Lib.hid (fun w' (hb : Below w.heap.size w w') => alive_any w' L M s i g (h.grown hb))
  have hal : aliveF M s i g = true := by unfold aliveF; rw [hx]; simp [ha, hg]
  rw [hal] at HAL
  obtain ⟨s, i, m, l, rfl, rfl, hm, hl, hx'⟩ := ixOf_nat h hx
  have HAT := Lib.hid (at_in _ L M s i m l (h.grown ((Below.refl _ _).alloc (Nat.le_refl _) (.cells #[.int .i64 s, .int .i64 i, .int .i64 g] 30))) hm hl (List.getElem?_eq_some_iff.1 hx').1)
  obtain ⟨c0, c1, c2⟩ := h.ix hm hl hx'
  obtain ⟨_, _, _, hfr, hinv, hk, _⟩ := h.sh hm hl
  have f0 := hfr (i * 3)
  have f2 := hfr (i * 3 + 2)
  have b1 : l.A < w.heap.size := World.block_lt_of_cell? w _ c1
  obtain ⟨b10, b11, b12, b13⟩ := lts b1
  have hr := hinv.rng i x hx'
  have hx0 := Lib.hid hx
  have P1 := h.set_ga hm hl hx' (x' := ⟨x.gen + 1, x.bound, false⟩) rfl (hinv.set_ix i _ ⟨by simp only; omega, by simp only; have := hr.2.2.2.2 ha; omega, hr.2.2.1, hr.2.2.2.1, fun h => by cases h⟩ (fun _ => rfl))
  rw [← setIx_nat _ hm] at P1
  have HS := Lib.hid (Stp.same P1 (((Chg.refl w L.own).setCell ⟨l.A, i * 3, none⟩ _ (.inl (Lay.own_at hl (.inr (.inl rfl))))).setCell ⟨l.A, i * 3 + 2, none⟩ _ (.inl (Lay.own_at hl (.inr (.inl rfl))))))
  have hg1 := hr.2.2.2.2 ha
  have hg0 : 0 ≤ g := by omega
  obtain ⟨gen, bound, alive⟩ := x
  simp only at hg hg1 ha c0 c1 c2 hw
  subst hg
  have hw' : 1048576 ≤ gen + 1 := by omega
  have hgg : gen = 1048575 := by omega
  subst hgg
  rw [show (1048575 + 1 : Int) = 1048576 from rfl] at HS ⊢
  clear hx hx' hm hl hal hinv hfr hr P1 ha hw hw' hg1 hg0
  go_enter Tryz.func108, Tryz.ntmps108
  go_wp2_with (first | (go_at_call 125; refine (HAT.out).mono ?_; rintro e w' ⟨rfl, hb⟩; obtain ⟨d, os, rfl⟩ := more_of hb; clear hb) | (go_at_call 84; refine (HAL.out _ bg).mono ?_; rintro e w' ⟨rfl, hb⟩; obtain ⟨d, os, rfl⟩ := more_of hb; clear hb))
  go_ret
  exact ⟨rfl, HS.out.then_below bg⟩

set_option maxRecDepth 100000 in
set_option maxHeartbeats 2000000 in
theorem free_in (w : World) (L : Lay) (M : List Sh) (s i g : Int) (x : Ix) (h : PoolAt w L M) (hx : ixOf M s i = some x) (ha : x.alive = true) (hg : x.gen = g) (hw : x.gen + 1 < 1048576) :
    Calls Tryz.prog 108 #[.pointer (some ⟨L.P, 0, none⟩), .agg #[.int .i64 s, .int .i64 i, .int .i64 g]] w fun e w' => e = .returned (.int .i64 0) ∧ Stp w L w' (addFr (setIx M s i ⟨x.gen + 1, x.bound, false⟩) s i) := by
  have HAL := Lib.hid (fun w' (hb : Below w.heap.size w w') => alive_any w' L M s i g (h.grown hb))
  have hal : aliveF M s i g = true := by unfold aliveF; rw [hx]; simp [ha, hg]
  rw [hal] at HAL
  obtain ⟨s, i, m, l, rfl, rfl, hm, hl, hx'⟩ := ixOf_nat h hx
  have HAT := Lib.hid (at_in _ L M s i m l (h.grown ((Below.refl _ _).alloc (Nat.le_refl _) (.cells #[.int .i64 s, .int .i64 i, .int .i64 g] 30))) hm hl (List.getElem?_eq_some_iff.1 hx').1)
  obtain ⟨c0, c1, c2⟩ := h.ix hm hl hx'
  obtain ⟨hcA, hcF, fS, hfr, hinv, hk, hsl⟩ := h.sh hm hl
  have f0 := hfr (i * 3)
  have f2 := hfr (i * 3 + 2)
  have f3 := fS (s * 2 + 1)
  have b1 : l.A < w.heap.size := World.block_lt_of_cell? w _ c1
  have b2 : L.S < w.heap.size := World.block_lt_of_cell? w _ hcA
  obtain ⟨b10, b11, b12, b13⟩ := lts b1
  obtain ⟨b20, b21, b22, b23⟩ := lts b2
  have b3 := h.S_ne_A hl
  have hr := hinv.rng i x hx'
  have hfl := hinv.free_le
  have P1 := h.set_ga hm hl hx' (x' := ⟨x.gen + 1, x.bound, false⟩) rfl (hinv.set_ix i _ ⟨by simp only; omega, by simp only; omega, hr.2.2.1, hr.2.2.2.1, fun h => by cases h⟩ (fun _ => rfl))
  have C1 := (((Chg.refl w L.own).setCell ⟨l.A, i * 3, none⟩ (.int .i64 (x.gen + 1)) (.inl (Lay.own_at hl (.inr (.inl rfl))))).setCell ⟨l.A, i * 3 + 2, none⟩ (.bool false) (.inl (Lay.own_at hl (.inr (.inl rfl)))))
  have hk' : (M.set s { m with all := m.all.set i ⟨x.gen + 1, x.bound, false⟩ })[s]? = some { m with all := m.all.set i ⟨x.gen + 1, x.bound, false⟩ } := List.getElem?_set_self hk
  have fin : ∀ (W : World), Below ((w.setCell ⟨l.A, i * 3, none⟩ (.int .i64 (x.gen + 1))).setCell ⟨l.A, i * 3 + 2, none⟩ (.bool false)).heap.size ((w.setCell ⟨l.A, i * 3, none⟩ (.int .i64 (x.gen + 1))).setCell ⟨l.A, i * 3 + 2, none⟩ (.bool false)) W →
      Sl W 3 1 l.fv m.free.length (m.free.map (Value.int .i64)) ∧
      ∀ (g off cap : Nat) (w1 : World), Sl w1 3 1 (.slice (some ⟨g, off, none⟩) (m.free.length + 1) cap) (m.free.length + 1) (m.free.map (Value.int .i64) ++ [.int .i64 i]) → Turned W w1 l.fv.ownBlock → (l.fv.ownBlock = some g ∨ W.heap.size ≤ g) →
      Stp w L (w1.setCell ⟨L.S, s * 2 + 1, none⟩ (.slice (some ⟨g, off, none⟩) (m.free.length + 1) cap)) (addFr (setIx M s i ⟨x.gen + 1, x.bound, false⟩) s i) := by
    intro W hW
    have PW : PoolAt W L _ := P1.grown hW
    refine ⟨(PW.sh hk' hl).2.2.2.2.2.2, fun g off cap w1 hs1 ht hor => ?_⟩
    obtain ⟨p2, o2⟩ := PW.set_free hk' hl (w1 := w1) (Chg.of_turned ht fun k e _ => e) (v := .slice (some ⟨g, off, none⟩) (m.free.length + 1) cap) (fr := m.free ++ [(i : Int)]) (by simpa using hs1) (fun g' hg' => by simp [Value.ownBlock] at hg'; subst hg'; exact hor) (hinv.add hx' ha ⟨x.gen + 1, x.bound, false⟩ ⟨by simp only; omega, by simp only; omega, hr.2.2.1, hr.2.2.2.1, fun h => by cases h⟩ rfl)
    have hsz : w.heap.size ≤ W.heap.size := by have := hW.size; simpa [World.setCell] using this
    refine ⟨L.put s { l with fv := .slice (some ⟨g, off, none⟩) (m.free.length + 1) cap }, rfl, ?_, ?_, fun b hb => (o2 b hb).imp_right fun h => Nat.le_trans hsz h⟩
    · rw [setIx_nat _ hm, addFr]
      simp only [shOf, Int.toNat_natCast, hk', if_pos (Int.natCast_nonneg s)]
      exact p2
    · have hW' : Below w.heap.size ((w.setCell ⟨l.A, i * 3, none⟩ (.int .i64 (x.gen + 1))).setCell ⟨l.A, i * 3 + 2, none⟩ (.bool false)) W := hW.mono (by simp [World.setCell])
      exact ((C1.then_below hW').trans (Chg.of_turned ht (F := L.own) fun k e _ => Lay.own_at hl (.inr (.inr e))) fun _ _ h => h).setCell _ _ (.inl ⟨1, rfl⟩)
  have FIN := Lib.hid fin
  have hne : l.fv.ownBlock ≠ some L.S := fun e => h.S_ne_F hl e rfl
  have hne2 : l.fv.ownBlock ≠ some w.heap.size := fun e => by have := hsl.lt e; omega
  have hg0 : 0 ≤ g := by omega
  obtain ⟨gen, bound, alive⟩ := x
  simp only at hg hw ha c0 c1 c2
  subst hg
  generalize hfv : l.fv = fv at *
  generalize l.A = A at *
  have HX := Lib.hid hx
  have HN := Lib.hid hne
  have HN2 := Lib.hid hne2
  generalize hfl2 : m.free.length = fl at *
  clear hx hx' hm hl hal hinv hr P1 C1 hk' fin hfr fS hfv hsl ha hne hne2 hfl2
  obtain ⟨i0, hi0, hz0, hz1, hz2⟩ := info_parts info_int
  go_enter Tryz.func108, Tryz.ntmps108
  go_wp2_with (first | (go_at_call 125; refine (HAT.out).mono ?_; rintro e w' ⟨rfl, hb⟩; obtain ⟨d1, os1, rfl⟩ := more_of hb; clear hb) | (go_at_call 84; refine (HAL.out _ bg).mono ?_; rintro e w' ⟨rfl, hb⟩; obtain ⟨d2, os2, rfl⟩ := more_of hb; clear hb))
  generalize hWr : more (more _ d1 os1) d2 os2 = Wr
  have k1 : Wr.cell? ⟨L.S, s * 2 + 1, none⟩ = some fv := by rw [← hWr]; simp [go_sem, hcF, b20, b21, b2]
  have k2 : Wr.cell? ⟨w.heap.size, 1, none⟩ = some (.int .i64 i) := by rw [← hWr]; simp [go_sem]
  have k3 : Wr.frozen? ⟨L.S, s * 2 + 1, none⟩ = false := by rw [← hWr]; simp [go_sem, f3, b20, b21, b2]
  have k4 : w.heap.size < Wr.heap.size := by rw [← hWr]; simp; omega
  have k5 : L.S < Wr.heap.size := by omega
  have HB : ∀ W, Below Wr.heap.size Wr W → Below ((w.setCell ⟨A, i * 3, none⟩ (.int .i64 (gen + 1))).setCell ⟨A, i * 3 + 2, none⟩ (.bool false)).heap.size ((w.setCell ⟨A, i * 3, none⟩ (.int .i64 (gen + 1))).setCell ⟨A, i * 3 + 2, none⟩ (.bool false)) W := fun W hb => (by rw [← hWr]; exact bg : Below _ _ Wr).trans (hb.mono (by rw [← hWr]; simp [World.setCell]; omega))
  have HB := Lib.hid HB
  have HW := Lib.hid hWr
  clear hWr
  go_region_law
    ((refine step_append_sl _ (by rfl) _ _ _ (by rfl) 3 i0 _ 1 8 Tryz.underlying176 hi0 hz0 hz1 hz2 rfl (by omega) fv fl (m.free.map (Value.int .i64)) (by rfl) (FIN.out _ (HB.out _ bg)).1
        ⟨_, 0, none⟩ 1 1 [.int .i64 i] (by rfl) (by rfl) (World.news_of_block (cs := #[.int .i64 i]) (t := 3) (fr := (0, 0)) (heap_alloc_new _ _)) (by simp [Value.oneCell'])
        (by omega) (by unfold maxLen; omega) (by omega) ?_; intro g off cap w1 hs1 ht hor; have k6 : w1.frozen? ⟨L.S, s * 2 + 1, none⟩ = false := (by rw [ht.frozen (by simp; omega) HN.out]; simp [k3, k5, go_sem]); have k7 : w1.cell? ⟨L.S, s * 2 + 1, none⟩ = some fv := (by rw [ht.cell (by simp; omega) HN.out]; simp [k1, k5, go_sem])))
  all_goals go_wp2
  all_goals go_ret
  all_goals exact ⟨rfl, (FIN.out _ (HB.out _ bg)).2 _ _ _ _ hs1 ht hor⟩
end Go.Proofs.YtoimjjhopljdmaaGreat
namespace Go.Proofs.YtoimjjhopljdmaaGreat
open Go.RowKit Go.Shelf Go.Sort Go.Lib

def ren10 : Ren := ⟨fun n => if n = 6 then 153 else if n = 10 then 130 else 0, fun n => if n = 0 then 0 else if n = 3 then 3 else if n = 4 then 4 else if n = 22 then 176 else if n = 23 then 3 else if n = 25 then 180 else 0, fun _ => 0⟩

theorem lays10 : SlLaysH.n10 Tryz.prog ren10 := {
  mixed := by kernel_rfl
  f6 := ⟨Tryz.f153.name, by decide, by kernel_rfl⟩
  f10 := ⟨Tryz.f130.name, by decide, by kernel_rfl⟩
  t0 := by kernel_rfl
  a0 := fun _ => by kernel_rfl
  z0 := fun _ => by kernel_rfl
  v0 := fun _ => by kernel_rfl
  t3 := by kernel_rfl
  a3 := fun _ => by kernel_rfl
  z3 := fun _ => by kernel_rfl
  v3 := fun _ => by kernel_rfl
  t4 := by kernel_rfl
  a4 := fun _ => by kernel_rfl
  z4 := fun _ => by kernel_rfl
  v4 := fun _ => by kernel_rfl
  t22 := by kernel_rfl
  a22 := fun _ => by kernel_rfl
  z22 := fun _ => by kernel_rfl
  v22 := fun _ => by kernel_rfl
  a23 := fun _ => by kernel_rfl
  z23 := fun _ => by kernel_rfl
  t25 := by kernel_rfl
  a25 := fun _ => by kernel_rfl
  z25 := fun _ => by kernel_rfl
  v25 := fun _ => by kernel_rfl }

theorem Turned.of_below {w w' : World} {b : Option Nat} (h : Below w.heap.size w w') : Turned w w' b := ⟨h.os, h.tape, h.output, h.size, fun k hk _ => h.block k hk⟩

theorem putRow_turned {α : Type} [Inhabited α] (enc : α → Value) (w : World) (g off q : Nat) (d : Array α) (os : Array Obj) : Turned w (grow (putRow enc (Sort.ahead w q) g off d) os) (some g) := by
  refine ⟨rfl, rfl, rfl, ?_, fun k hk hne => ?_⟩
  · simp [grow, Sort.ahead]
  · have hgk : g ≠ k := fun e => hne (by rw [e])
    show ((putRow enc (Sort.ahead w q) g off d).heap ++ os)[k]? = _
    rw [Array.getElem?_append_left (by simpa [Sort.ahead] using hk)]
    simp [putRow, mapBlock, Array.getElem?_modify, Sort.ahead, hgk]

theorem putRow_heap {α : Type} [Inhabited α] (enc : α → Value) (w : World) (g off q : Nat) (d : Array α) (cur : Array Value) (e : TypeId) (fr : Nat × Nat) (h : w.heap[g]? = some (.cells cur e fr)) :
    (putRow enc (Sort.ahead w q) g off d).heap[g]? = some (.cells (putCells enc off d cur) e fr) := by
  simp [putRow, mapBlock, Sort.ahead, Array.getElem?_modify, h, onCells]

def Kept (w w' : World) (v v' : Value) (zs : List Int) : Prop := Sl w' 3 1 v' zs.length (zs.map (Value.int .i64)) ∧ Turned w w' v.ownBlock ∧ v'.ownBlock = v.ownBlock ∧ ∃ p n c, v' = .slice p n c

set_option maxHeartbeats 1000000 in
theorem del_nil (g : Nat) (lb : Array Value) (w : World) :
    Calls Tryz.prog 130 #[.slice none 0 0, .func (.func g) #[] lb] w fun e w' => e = .returned (.slice none 0 0) ∧ w = w' := by
  have hI : Calls Tryz.prog 153 #[.slice none 0 0, .func (.func g) #[] lb] w fun e w' => e = .returned (.int .i64 (-1)) ∧ w = w' := by
    go_enter Tryz.func153, Tryz.ntmps153
    go_wp2_with fail
    refine wp_loop_rounds 1 ?_
    rw [rounds_succ]
    go_wp2
    go_ret
    exact ⟨rfl, rfl⟩
  go_enter Tryz.func130, Tryz.ntmps130
  go_wp2_with (go_at_call 153; refine hI.mono ?_; rintro e w' ⟨rfl, rfl⟩)
  go_ret
  exact ⟨rfl, rfl⟩

theorem del_sl (g : Nat) (lb : Array Value) (eg : ∀ args w, (callFunc g args).run Tryz.prog w = .ok (.enter g args) w) (p : Int → Bool) (v : Value) (zs : List Int) (w : World) (hs : Sl w 3 1 v zs.length (zs.map (Value.int .i64)))
    (HC : ∀ W, Turned w W v.ownBlock → ∀ x, x ∈ zs ∨ x = 0 → Calls Tryz.prog g (#[.int .i64 x] ++ lb) W fun e w' => e = .returned (.bool (p x)) ∧ ∃ q, w' = W.drewN q) :
    Calls Tryz.prog 130 #[v, .func (.func g) #[] lb] w fun e w' => ∃ v', e = .returned v' ∧ Kept w w' v v' (zs.filter fun x => !p x) := by
  obtain ⟨_, ⟨rfl, h0⟩ | ⟨blk, off, cap, cur, rfl, hb, hn, hc, hsz, hr⟩⟩ := hs
  · obtain rfl : zs = [] := List.eq_nil_of_length_eq_zero h0
    refine (del_nil g lb w).mono ?_
    rintro e w' ⟨rfl, rfl⟩
    exact ⟨_, rfl, ⟨by simp, .inl ⟨rfl, rfl⟩⟩, Turned.of_below (Below.refl _ _), rfl, _, _, _, rfl⟩
  · let α := { x : Int // x ∈ zs ∨ x = 0 }
    let enc : α → Value := fun x => .int .i64 x.1
    let l : List α := zs.attach.map fun x => ⟨x.1, .inl x.2⟩
    have hin : Inhabited α := ⟨⟨0, .inr rfl⟩⟩
    have hlen : l.length = zs.length := by simp [l]
    have hlm : l.map (fun x => x.1) = zs := by simp [l, List.map_map, Function.comp_def]
    have hH : Holds enc w blk off l.toArray := by
      intro j hj
      have hj' : j < zs.length := by simpa [hlen] using hj
      have e1 : (l.toArray[j]!).1 = zs[j] := by
        rw [getElem!_pos l.toArray j hj]
        simp [l]
      refine ⟨?_, by simp [World.frozen?, hb]⟩
      show w.cell? _ = some (.int .i64 (l.toArray[j]!).1)
      rw [e1]
      simp [World.cell?, hb, hr j (.int .i64 zs[j]) (by simp [hj'])]
    clear_value l
    have hcon := AnyE.slices_DeleteFunc lays10 enc (fun _ => rfl) (fun x => p x.1) g lb eg ⟨0, .inr rfl⟩ (fun _ => by kernel_rfl) blk off cap l.toArray w
      (fun W x hbW => HC W (Turned.of_below hbW) x.1 x.2) (fun n os dk x _ => HC _ (putRow_turned enc w blk off n dk os) x.1 x.2) hH (by simp [hlen]; unfold maxLen at hc; omega) (by simp [hlen]; omega)
    have hfl : (l.filter fun x : α => !p x.1).map (fun x => x.1) = zs.filter fun x => !p x := by
      refine Eq.trans ?_ (congrArg (List.filter fun x => !p x) hlm)
      rw [List.filter_map]
      rfl
    have hfe : (l.filter fun x : α => !p x.1).length = (zs.filter fun x => !p x).length := by rw [← hfl, List.length_map]
    have hle : (zs.filter fun x => !p x).length ≤ zs.length := List.length_filter_le _ _
    have e0 : l.toArray.size = zs.length := by simp [hlen]
    rw [e0] at hcon
    refine hcon.mono ?_
    rintro e w' ⟨rfl, q, rfl⟩
    have hheap := putRow_heap enc w blk off q ((l.filter fun x : α => !p x.1) ++ List.replicate (zs.length - (l.filter fun x : α => !p x.1).length) (⟨0, .inr rfl⟩ : α)).toArray cur _ _ hb
    refine ⟨_, rfl, ⟨by simp, .inr ⟨blk, off, cap, _, ?_, hheap, by omega, hc, ?_, fun j u hj => ?_⟩⟩, ?_, rfl, _, _, _, rfl⟩
    · rw [hfe]
    · simp [putCells]; omega
    · have hj' : j < (zs.filter fun x => !p x).length := by
        have := (List.getElem?_eq_some_iff.1 hj).1; simpa using this
      have hjl : j < (l.filter fun x : α => !p x.1).length := by omega
      have hcj : (cur[off + j]?).isSome = true := by simp; omega
      obtain ⟨y, hy⟩ := Option.isSome_iff_exists.1 hcj
      simp only [putCells, Array.getElem?_mapIdx, hy, Option.map_some]
      rw [if_pos ⟨by omega, by simp; omega⟩, show off + j - off = j by omega, getElem!_pos _ j (by simp; omega)]
      simp only [List.getElem_toArray]
      rw [List.getElem_append_left hjl]
      rw [← hfl] at hj
      simp only [List.getElem?_map, List.getElem?_eq_getElem hjl, Option.map_some, Option.some.injEq] at hj
      rw [← hj]
    · have := putRow_turned enc w blk off q ((l.filter fun x : α => !p x.1) ++ List.replicate (zs.length - (l.filter fun x : α => !p x.1).length) (⟨0, .inr rfl⟩ : α)).toArray #[]
      rw [grow_empty] at this
      exact this

end Go.Proofs.YtoimjjhopljdmaaGreat
namespace Go.Proofs.YtoimjjhopljdmaaGreat
open Go.RowKit

theorem Sl.cells {w : World} {v : Value} {zs : List Int} (hs : Sl w 3 1 v zs.length (zs.map (Value.int .i64))) : ∃ p cap, v = .slice p zs.length cap ∧ zs.length ≤ maxLen ∧ ∀ k, k < zs.length → ∃ b off, p = some ⟨b, off, none⟩ ∧ zs.length ≤ cap ∧ w.cell? ⟨b, off + k, none⟩ = some (.int .i64 (zs.getD k 0)) := by
  obtain ⟨_, ⟨rfl, h0⟩ | ⟨blk, off, cap, cur, rfl, hb, hn, hc, hsz, hr⟩⟩ := hs
  · exact ⟨none, 0, by rw [h0], by omega, fun k hk => by omega⟩
  · refine ⟨_, cap, rfl, by omega, fun k hk => ⟨blk, off, rfl, hn, ?_⟩⟩
    simp [World.cell?, hb, hr k (.int .i64 (zs.getD k 0)) (by simp [List.getD, hk])]

set_option maxHeartbeats 1000000 in
theorem index_any (v : Value) (zs : List Int) (x : Int) (w : World) (hs : Sl w 3 1 v zs.length (zs.map (Value.int .i64))) :
    Calls Tryz.prog 152 #[v, .int .i64 x] w fun e w' => (∃ r : Int, e = .returned (.int .i64 r) ∧ decide (0 ≤ r) = decide (x ∈ zs)) ∧ w = w' := by
  obtain ⟨p, cap, rfl, hlen, hc⟩ := hs.cells
  unfold maxLen at hlen
  have HC := Lib.hid hc
  clear hs hc
  go_enter Tryz.func152, Tryz.ntmps152
  go_wp2
  go_loop [8] (fun i => ∃ k : Nat, k ≤ zs.length ∧ i = .int .i64 k ∧ Hid (∀ j, j < k → zs.getD j 0 ≠ x)) (fun i => zs.length - (intOf i).toNat)
  case atStart => exact ⟨0, Nat.zero_le _, rfl, fun j hj => by omega⟩
  case round =>
    obtain ⟨k, hk, rfl, hno⟩ := hrel
    by_cases hlt : k < zs.length
    · obtain ⟨b, off, rfl, hcap, hcell⟩ := HC.out k hlt
      by_cases he : zs.getD k 0 = x
      · have hin : decide (x ∈ zs) = true := by
          rw [← he]; simp [List.getD, hlt]
        have HIN := Lib.hid hin
        clear hin
        have hb : (x == zs.getD k 0) = true := by rw [he]; simp
        have HE := Lib.hid he
        clear he
        generalize zs.getD k 0 = z at *
        go_wp2
        go_ret
        exact ⟨⟨k, rfl, by have h := HIN.out; simpa using h⟩, rfl⟩
      · have hb : (x == zs.getD k 0) = false := by simp; exact fun h => he h.symm
        have hno' : Hid (∀ j, j < k + 1 → zs.getD j 0 ≠ x) := fun j hj => by
          by_cases hjk : j = k
          · rw [hjk]; exact he
          · exact hno.out j (by omega)
        clear he
        generalize zs.getD k 0 = z at *
        go_wp2
        go_round
        case rel => exact ⟨k + 1, by omega, by go_num, hno'⟩
        case measure => simp [intOf]; omega
    · have hin : decide (x ∈ zs) = false := by
        rw [decide_eq_false_iff_not]
        intro hm
        obtain ⟨j, hj, e⟩ := List.getElem_of_mem hm
        exact hno.out j (by omega) (by simp [List.getD, hj, e])
      have HIN := Lib.hid hin
      clear hin
      go_wp2
      go_ret
      exact ⟨⟨-1, rfl, by have h := HIN.out; simpa using h⟩, rfl⟩

theorem contains_any (v : Value) (zs : List Int) (x : Int) (w : World) (hs : Sl w 3 1 v zs.length (zs.map (Value.int .i64))) :
    Calls Tryz.prog 129 #[v, .int .i64 x] w fun e w' => e = .returned (.bool (decide (x ∈ zs))) ∧ w = w' := by
  have hi := Lib.hid (index_any v zs x w hs)
  clear hs
  generalize decide (x ∈ zs) = B at *
  go_enter Tryz.func129, Tryz.ntmps129
  go_wp2_with (go_at_call 152; refine hi.out.mono ?_; rintro e w' ⟨⟨r, rfl, hr⟩, rfl⟩)
  go_ret
  exact ⟨by simp, rfl⟩

def frOf (M : List Sh) (k : Int) : List Int := match shOf M k with
  | none => []
  | some m => m.free

def takeF (M : List Sh) (s i g : Int) : Int × List Sh := match ixOf M s i with
  | none => (1, M)
  | some x => if g < 0 then (1, M) else if i ∉ frOf M s then (14, M) else if g < x.gen ∨ x.bound ≤ g then (9, M) else
    (0, setFr (setIx M s i ⟨g, x.bound, true⟩) s ((frOf M s).filter fun j => !(j == i)))

theorem frOf_nat {M : List Sh} {k : Nat} {m : Sh} (hm : M[k]? = some m) : frOf M k = m.free := by simp [frOf, shOf, hm]

theorem take_none (w : World) (s i g : Int) :
    Calls Tryz.prog 89 #[.pointer none, .agg #[.int .i64 s, .int .i64 i, .int .i64 g]] w fun e w' => e = .returned (.int .i64 1) ∧ Below w.heap.size w w' := by
  go_enter Tryz.func89, Tryz.ntmps89
  go_wp2_with (go_at_call 125; refine (at_none _ _ _).mono ?_; rintro e w' ⟨rfl, hb⟩; obtain ⟨d, os, rfl⟩ := more_of hb; clear hb)
  go_ret
  exact ⟨rfl, bg⟩

theorem take_out (w : World) (L : Lay) (M : List Sh) (s i g : Int) (h : PoolAt w L M) (ho : ixOf M s i = none) :
    Calls Tryz.prog 89 #[.pointer (some ⟨L.P, 0, none⟩), .agg #[.int .i64 s, .int .i64 i, .int .i64 g]] w fun e w' => e = .returned (.int .i64 1) ∧ Below w.heap.size w w' := by
  have HAT := Lib.hid (at_out _ L M s i (h.grown ((Below.refl _ _).alloc (Nat.le_refl _) (.cells #[.int .i64 s, .int .i64 i, .int .i64 g] 30))) ho)
  clear ho
  go_enter Tryz.func89, Tryz.ntmps89
  go_wp2_with (go_at_call 125; refine (HAT.out).mono ?_; rintro e w' ⟨rfl, hb⟩; obtain ⟨d, os, rfl⟩ := more_of hb; clear hb)
  go_ret
  exact ⟨rfl, bg⟩

set_option maxHeartbeats 1000000 in
theorem take_neg (w : World) (L : Lay) (M : List Sh) (s i g : Int) (x : Ix) (h : PoolAt w L M) (hx : ixOf M s i = some x) (hg : g < 0) :
    Calls Tryz.prog 89 #[.pointer (some ⟨L.P, 0, none⟩), .agg #[.int .i64 s, .int .i64 i, .int .i64 g]] w fun e w' => e = .returned (.int .i64 1) ∧ Below w.heap.size w w' := by
  obtain ⟨s, i, m, l, rfl, rfl, hm, hl, hx'⟩ := ixOf_nat h hx
  have HAT := Lib.hid (at_in _ L M s i m l (h.grown ((Below.refl _ _).alloc (Nat.le_refl _) (.cells #[.int .i64 s, .int .i64 i, .int .i64 g] 30))) hm hl (List.getElem?_eq_some_iff.1 hx').1)
  clear hx hx' hm hl
  go_enter Tryz.func89, Tryz.ntmps89
  go_wp2_with (go_at_call 125; refine (HAT.out).mono ?_; rintro e w' ⟨rfl, hb⟩; obtain ⟨d, os, rfl⟩ := more_of hb; clear hb)
  go_ret
  exact ⟨rfl, bg⟩

set_option maxHeartbeats 1000000 in
theorem take_state (w : World) (L : Lay) (M : List Sh) (s i g : Int) (x : Ix) (h : PoolAt w L M) (hx : ixOf M s i = some x) (hg : 0 ≤ g) (hn : i ∉ frOf M s) :
    Calls Tryz.prog 89 #[.pointer (some ⟨L.P, 0, none⟩), .agg #[.int .i64 s, .int .i64 i, .int .i64 g]] w fun e w' => e = .returned (.int .i64 14) ∧ Below w.heap.size w w' := by
  obtain ⟨s, i, m, l, rfl, rfl, hm, hl, hx'⟩ := ixOf_nat h hx
  have HAT := Lib.hid (at_in _ L M s i m l (h.grown ((Below.refl _ _).alloc (Nat.le_refl _) (.cells #[.int .i64 s, .int .i64 i, .int .i64 g] 30))) hm hl (List.getElem?_eq_some_iff.1 hx').1)
  rw [frOf_nat hm] at hn
  obtain ⟨hcA, hcF, fS, hfr, hinv, hk, hsl⟩ := h.sh hm hl
  have b2 : L.S < w.heap.size := World.block_lt_of_cell? w _ hcA
  obtain ⟨b20, b21, b22, b23⟩ := lts b2
  have HCT := fun w' (hb : Below w.heap.size w w') => contains_any l.fv m.free i w' ((h.grown hb).sh hm hl).2.2.2.2.2.2
  rw [decide_eq_false hn] at HCT
  have HCT := Lib.hid HCT
  clear hx hx' hm hl hn hinv hfr fS hsl
  generalize l.fv = fv at *
  go_enter Tryz.func89, Tryz.ntmps89
  go_wp2_with (go_at_call 125; refine (HAT.out).mono ?_; rintro e w' ⟨rfl, hb⟩; obtain ⟨d, os, rfl⟩ := more_of hb; clear hb)
  refine wp_region_more (by kernel_rfl) (by kernel_rfl) ?_
  repeat (go_big_quiet_step ((first | (go_at_call 129; exact more_same (HCT.out _ bg)))))
  refine wpQuiet_nil ?_
  rintro _ ⟨pm, rfl⟩
  go_wp2
  go_ret
  exact ⟨rfl, bg⟩

set_option maxHeartbeats 2000000 in
theorem take_stale (w : World) (L : Lay) (M : List Sh) (s i g : Int) (x : Ix) (h : PoolAt w L M) (hx : ixOf M s i = some x) (hg : 0 ≤ g) (hn : i ∈ frOf M s) (hst : g < x.gen ∨ x.bound ≤ g) :
    Calls Tryz.prog 89 #[.pointer (some ⟨L.P, 0, none⟩), .agg #[.int .i64 s, .int .i64 i, .int .i64 g]] w fun e w' => e = .returned (.int .i64 9) ∧ Below w.heap.size w w' := by
  obtain ⟨s, i, m, l, rfl, rfl, hm, hl, hx'⟩ := ixOf_nat h hx
  have HAT := Lib.hid (at_in _ L M s i m l (h.grown ((Below.refl _ _).alloc (Nat.le_refl _) (.cells #[.int .i64 s, .int .i64 i, .int .i64 g] 30))) hm hl (List.getElem?_eq_some_iff.1 hx').1)
  rw [frOf_nat hm] at hn
  obtain ⟨hcA, hcF, fS, hfr, hinv, hk, hsl⟩ := h.sh hm hl
  obtain ⟨c0, c1, c2⟩ := h.ix hm hl hx'
  have b1 : l.A < w.heap.size := World.block_lt_of_cell? w _ c1
  obtain ⟨b10, b11, b12, b13⟩ := lts b1
  have b2 : L.S < w.heap.size := World.block_lt_of_cell? w _ hcA
  obtain ⟨b20, b21, b22, b23⟩ := lts b2
  have HCT := fun w' (hb : Below w.heap.size w w') => contains_any l.fv m.free i w' ((h.grown hb).sh hm hl).2.2.2.2.2.2
  rw [decide_eq_true hn] at HCT
  have HCT := Lib.hid HCT
  clear hx hx' hm hl hn hinv hfr fS hsl
  generalize l.fv = fv at *
  generalize l.A = A at *
  obtain ⟨gen, bound, alive⟩ := x
  simp only at hst c0 c1 c2
  
  by_cases h1 : g < gen
  · go_enter Tryz.func89, Tryz.ntmps89
    go_wp2_with (go_at_call 125; refine (HAT.out).mono ?_; rintro e w' ⟨rfl, hb⟩; obtain ⟨d, os, rfl⟩ := more_of hb; clear hb)
    refine wp_region_more (by kernel_rfl) (by kernel_rfl) ?_
    repeat (go_big_quiet_step ((first | (go_at_call 129; exact more_same (HCT.out _ bg)))))
    refine wpQuiet_nil ?_
    rintro _ ⟨pm, rfl⟩
    go_wp2_with fail
    refine wp_region_more (by kernel_rfl) (by kernel_rfl) ?_
    repeat (go_big_quiet_step (fail))
    refine wpQuiet_nil ?_
    rintro _ ⟨pn, rfl⟩
    go_wp2
    go_ret
    exact ⟨rfl, bg⟩
  · have h2 : bound ≤ g := by omega
    have h3 : gen ≤ g := by omega
    have hd1 : decide (g < gen) = false := by simp; omega
    clear hst h1
    go_enter Tryz.func89, Tryz.ntmps89
    go_wp2_with (go_at_call 125; refine (HAT.out).mono ?_; rintro e w' ⟨rfl, hb⟩; obtain ⟨d, os, rfl⟩ := more_of hb; clear hb)
    refine wp_region_more (by kernel_rfl) (by kernel_rfl) ?_
    repeat (go_big_quiet_step ((first | (go_at_call 129; exact more_same (HCT.out _ bg)))))
    refine wpQuiet_nil ?_
    rintro _ ⟨pm, rfl⟩
    go_wp2_with fail
    refine wp_region_more (by kernel_rfl) (by kernel_rfl) ?_
    repeat (go_big_quiet_step (fail))
    refine wpQuiet_nil ?_
    rintro _ ⟨pn, rfl⟩
    go_wp2
    go_ret
    exact ⟨rfl, bg⟩
end Go.Proofs.YtoimjjhopljdmaaGreat
