/-
  Two lists of the same commands, of the same names, are the same (SameCmds, SameIDs of chapter 10's reference). No condition.
-/
import Derived.Test.YtbghjklnlhoklaaMk1
import Derived.Test.YtbghjklnlhoklaaMk13
namespace Go.Proofs.Ytbghjklnlhoklaa
open Go.RowKit

theorem RIn.ldm {w : World} {v : Value} {l : List Cm} (h : RIn cmC w v l) {j : Nat} {b : Cm} (hk : l[j]? = some b) : ∃ blk off cap, v = .slice (some ⟨blk, off, none⟩) l.length cap ∧ ∀ d os, (ldM ⟨blk, off + j * 16, none⟩).run Try.prog (more w d os) = .ok (.agg (cmC b).toArray) (more w d os) := by
  obtain ⟨g, o, c, hv, h1, h2⟩ := h.cells cmC_len hk
  exact ⟨g, o, c, hv, fun d os => ldM_of b fun j' u hj => (more_cell w d os ⟨g, o + j * 16 + j', none⟩ h1).trans (h2 j' u hj)⟩
attribute [local go_sem ↓] loadVar_ldM storeVar_stM
set_option maxRecDepth 100000 in
set_option maxHeartbeats 4000000 in
theorem sameCm_self (va vb : Value) (l : List Cm) (w : World) (ha : RIn cmC w va l) (hb : RIn cmC w vb l) :
    Calls Try.prog 19 #[va, vb] w fun e w' => e = .returned (.bool true) ∧ Below w.heap.size w w' := by
  have HA := Lib.hid ha
  have HB := Lib.hid hb
  obtain ⟨pa, ca, rfl, ma, _⟩ := ha
  obtain ⟨pb, cb, rfl, mb, _⟩ := hb
  unfold maxLen at ma mb
  go_enter Try.func19, Try.ntmps19
  go_wp2_with fail
  go_loopg [5] l.length (fun kx x wr => ∃ k : Nat, x = .int .i64 k ∧ k ≤ l.length ∧ l.length - k ≤ kx ∧ Hid (Below w.heap.size w wr))
  case atStart => exact ⟨0, by go_num, by omega, by omega, Lib.hid (Below.refl _ _)⟩
  case round =>
    obtain ⟨j, rfl, hk, hkx, HW⟩ := hrel
    by_cases hlt : j < l.length
    · have t1 : (j : Int) < (l.length : Int) := by omega
      obtain ⟨b, hb⟩ : ∃ b, l[j]? = some b := ⟨_, List.getElem?_eq_getElem hlt⟩
      obtain ⟨g1, o1, c1, hv1, l1⟩ := (HA.out.keep HW.out).ldm hb
      obtain ⟨g2, o2, c2, hv2, l2⟩ := (HB.out.keep HW.out).ldm hb
      simp only [Value.slice.injEq, true_and] at hv1 hv2
      obtain ⟨rfl, rfl⟩ := hv1
      obtain ⟨rfl, rfl⟩ := hv2
      clear hb
      obtain ⟨k, s, i, g, ⟨es, ei, eg, m, x, y, vx, vy, hp, pw, lf⟩, mask⟩ := b
      have hbe : cmEq ⟨k, s, i, g, ⟨es, ei, eg, m, x, y, vx, vy, hp, pw, lf⟩, mask⟩ ⟨k, s, i, g, ⟨es, ei, eg, m, x, y, vx, vy, hp, pw, lf⟩, mask⟩ = true := cmEq_self _
      have m1 : ∀ d os, (ldM ⟨g1, o1 + j * 16, none⟩).run Try.prog (more wr d os) = .ok (.agg #[.int .i64 k, .int .i64 s, .int .i64 i, .int .i64 g, .int .i64 es, .int .i64 ei, .int .i64 eg, .int .i64 m, .int .i64 x, .int .i64 y, .int .i64 vx, .int .i64 vy, .int .i64 hp, .int .i64 pw, .int .i64 lf, .int .i64 mask]) (more wr d os) := l1
      have m2 : ∀ d os, (ldM ⟨g2, o2 + j * 16, none⟩).run Try.prog (more wr d os) = .ok (.agg #[.int .i64 k, .int .i64 s, .int .i64 i, .int .i64 g, .int .i64 es, .int .i64 ei, .int .i64 eg, .int .i64 m, .int .i64 x, .int .i64 y, .int .i64 vx, .int .i64 vy, .int .i64 hp, .int .i64 pw, .int .i64 lf, .int .i64 mask]) (more wr d os) := l2
      clear l1 l2
      go_wp2_with fail
      refine wp_region_more (by kernel_rfl) (by kernel_rfl) ?_
      repeat (go_big_quiet_step (fail))
      refine wpQuiet_nil ?_
      rintro _ ⟨pn, rfl⟩
      go_wp2_with fail
      go_roundg (l.length - (j + 1))
      case measure => omega
      case rel => exact ⟨j + 1, by go_num, by omega, by omega, Lib.hid (HW.out.trans (Below.mono (B := wr.heap.size) (by repeat' (first | (with_reducible exact Below.refl _ _) | (with_reducible assumption) | (with_reducible refine below_drewN ?_ _) | (with_reducible refine below_more _ _ _ ?_ ?_) | (with_reducible refine Below.alloc ?_ ?_ _) | (with_reducible refine Below.drew ?_) | (with_reducible refine Below.setCell ?_ ?_ _) | go_size)) HW.out.size))⟩
    · have t1 : ¬ (j : Int) < (l.length : Int) := by omega
      go_wp2_with fail
      go_ret
      exact ⟨rfl, HW.out⟩
set_option maxRecDepth 100000 in
set_option maxHeartbeats 4000000 in
theorem sameNid_self (va vb : Value) (l : List Nid) (w : World) (ha : RIn nidL w va l) (hb : RIn nidL w vb l) :
    Calls Try.prog 25 #[va, vb] w fun e w' => e = .returned (.bool true) ∧ Below w.heap.size w w' := by
  have HA := Lib.hid ha
  have HB := Lib.hid hb
  obtain ⟨pa, ca, rfl, ma, _⟩ := ha
  obtain ⟨pb, cb, rfl, mb, _⟩ := hb
  unfold maxLen at ma mb
  go_enter Try.func25, Try.ntmps25
  go_wp2_with fail
  go_loopg [5] l.length (fun kx x wr => ∃ k : Nat, x = .int .i64 k ∧ k ≤ l.length ∧ l.length - k ≤ kx ∧ Hid (Below w.heap.size w wr))
  case atStart => exact ⟨0, by go_num, by omega, by omega, Lib.hid (Below.refl _ _)⟩
  case round =>
    obtain ⟨j, rfl, hk, hkx, HW⟩ := hrel
    by_cases hlt : j < l.length
    · have t1 : (j : Int) < (l.length : Int) := by omega
      obtain ⟨b, hb⟩ : ∃ b, l[j]? = some b := ⟨_, List.getElem?_eq_getElem hlt⟩
      obtain ⟨g1, o1, c1, hv1, b1, l1⟩ := (HA.out.keep HW.out).cells nidL_len hb
      obtain ⟨g2, o2, c2, hv2, b2, l2⟩ := (HB.out.keep HW.out).cells nidL_len hb
      simp only [Value.slice.injEq, true_and] at hv1 hv2
      obtain ⟨rfl, rfl⟩ := hv1
      obtain ⟨rfl, rfl⟩ := hv2
      clear hb
      obtain ⟨s, i, g⟩ := b
      have hbe : idEq s i g s i g = true := by simp [idEq]
      have p0 := l1 0 _ rfl
      have p1 := l1 1 _ rfl
      have p2 := l1 2 _ rfl
      have q0 := l2 0 _ rfl
      have q1 := l2 1 _ rfl
      have q2 := l2 2 _ rfl
      rw [Nat.add_zero] at p0 q0
      obtain ⟨z0, z1, z2⟩ := ltz b1
      obtain ⟨y0, y1, y2⟩ := ltz b2
      clear l1 l2
      simp only at p0 p1 p2 q0 q1 q2
      go_wp2_with fail
      refine wp_region_more (by kernel_rfl) (by kernel_rfl) ?_
      repeat (go_big_quiet_step (fail))
      refine wpQuiet_nil ?_
      rintro _ ⟨pn, rfl⟩
      go_wp2_with fail
      go_roundg (l.length - (j + 1))
      case measure => omega
      case rel => exact ⟨j + 1, by go_num, by omega, by omega, Lib.hid (HW.out.trans (Below.mono (B := wr.heap.size) (by repeat' (first | (with_reducible exact Below.refl _ _) | (with_reducible assumption) | (with_reducible refine below_drewN ?_ _) | (with_reducible refine below_more _ _ _ ?_ ?_) | (with_reducible refine Below.alloc ?_ ?_ _) | (with_reducible refine Below.drew ?_) | (with_reducible refine Below.setCell ?_ ?_ _) | go_size)) HW.out.size))⟩
    · have t1 : ¬ (j : Int) < (l.length : Int) := by omega
      go_wp2_with fail
      go_ret
      exact ⟨rfl, HW.out⟩
end Go.Proofs.Ytbghjklnlhoklaa
