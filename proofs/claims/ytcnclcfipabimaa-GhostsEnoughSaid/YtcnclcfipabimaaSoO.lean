/-
  The reference's Same of entities; one store into a slice of the call's own; a slice of entities that came in. No condition.
-/
import Derived.Test.YtcnclcfipabimaaSoN
import Derived.Test.YtcnclcfipabimaaEq
import Derived.ChangeSlices
namespace Go.Proofs.Ytcnclcfipabimaa
open Go.RowKit Go.Sort

attribute [local go_sem ↓] loadVar_ldB
theorem BIn.ldm {w : World} {v : Value} {l : List Bun} (h : BIn w v l) {k : Nat} {b : Bun} (hk : l[k]? = some b) : ∃ blk off cap, v = .slice (some ⟨blk, off, none⟩) l.length cap ∧ ∀ d os, (ldB ⟨blk, off + k * 11, none⟩).run Try.prog (more w d os) = .ok (.agg b.arr) (more w d os) := by
  obtain ⟨g, o, c, hv, h1, h2⟩ := h.cells hk
  exact ⟨g, o, c, hv, fun d os => ld_of fun j u hj => (more_cell w d os ⟨g, o + k * 11 + j, none⟩ h1).trans (h2 j u hj)⟩

set_option maxRecDepth 100000 in
set_option maxHeartbeats 4000000 in
theorem same_any (va vb : Value) (la lb : List Bun) (w : World) (ha : BIn w va la) (hb : BIn w vb lb) :
    Calls Try.prog 20 #[va, vb] w fun e w' => e = .returned (.bool (decide (la = lb))) ∧ Below w.heap.size w w' := by
  have mixed : Try.prog.follows .mixedOrders = true := by kernel_rfl
  have HA := Lib.hid ha
  have HB := Lib.hid hb
  obtain ⟨pa, ca, rfl, ma, _⟩ := ha
  obtain ⟨pb, cb, rfl, mb, _⟩ := hb
  unfold maxLen at ma mb
  by_cases hlen : la.length = lb.length
  · have hd : ((la.length : Int) != (lb.length : Int)) = false := by simp; omega
    have hd2 : (la.length : Int) = (lb.length : Int) := by omega
    have HL := Lib.hid hlen
    clear hlen
    by_cases heq : la = lb
    · subst heq
      rw [decide_eq_true rfl]
      go_enter Try.func20, Try.ntmps20
      go_wp2_with fail
      go_loopg [5] la.length (fun kx x wr => ∃ k : Nat, x = .int .i64 k ∧ k ≤ la.length ∧ la.length - k ≤ kx ∧ Hid (Below w.heap.size w wr))
      case atStart => exact ⟨0, by go_num, by omega, by omega, Lib.hid (Below.refl _ _)⟩
      case round =>
        obtain ⟨k, rfl, hk, hkx, HW⟩ := hrel
        by_cases hlt : k < la.length
        · have t1 : (k : Int) < (la.length : Int) := by omega
          obtain ⟨b, hb⟩ : ∃ b, la[k]? = some b := ⟨_, List.getElem?_eq_getElem hlt⟩
          obtain ⟨g1, o1, c1, hv1, l1⟩ := (HA.out.keep HW.out).ldm hb
          obtain ⟨g2, o2, c2, hv2, l2⟩ := (HB.out.keep HW.out).ldm hb
          simp only [Value.slice.injEq, true_and] at hv1 hv2
          obtain ⟨rfl, rfl⟩ := hv1
          obtain ⟨rfl, rfl⟩ := hv2
          clear hb
          obtain ⟨s, i, g, m, x, y, vx, vy, hp, pw, lf⟩ := b
          have hbe : bunEq ⟨s, i, g, m, x, y, vx, vy, hp, pw, lf⟩ ⟨s, i, g, m, x, y, vx, vy, hp, pw, lf⟩ = true := by simp [bunEq]
          go_wp2_with fail
          refine wp_region_more (by kernel_rfl) (by kernel_rfl) ?_
          repeat (go_big_quiet_step (fail))
          refine wpQuiet_nil ?_
          rintro _ ⟨pn, rfl⟩
          go_wp2_with fail
          go_roundg (la.length - (k + 1))
          case measure => omega
          case rel => exact ⟨k + 1, by go_num, by omega, by omega, Lib.hid (HW.out.trans (Below.mono (B := wr.heap.size) (by repeat' (first | (with_reducible exact Below.refl _ _) | (with_reducible assumption) | (with_reducible refine below_drewN ?_ _) | (with_reducible refine below_more _ _ _ ?_ ?_) | (with_reducible refine Below.alloc ?_ ?_ _) | (with_reducible refine Below.drew ?_) | (with_reducible refine Below.setCell ?_ ?_ _) | go_size)) HW.out.size))⟩
        · have t1 : ¬ (k : Int) < (la.length : Int) := by omega
          go_wp2_with fail
          go_ret
          exact ⟨rfl, HW.out⟩
    · rw [decide_eq_false heq]
      have HNE := Lib.hid heq
      clear heq
      go_enter Try.func20, Try.ntmps20
      go_wp2_with fail
      go_loopg [5] la.length (fun kx x wr => ∃ k : Nat, x = .int .i64 k ∧ k ≤ la.length ∧ la.length - k ≤ kx ∧ Hid (Below w.heap.size w wr) ∧ Hid (∀ t, t < k → la[t]? = lb[t]?))
      case atStart => exact ⟨0, by go_num, by omega, by omega, Lib.hid (Below.refl _ _), Lib.hid (fun t ht => by omega)⟩
      case round =>
        obtain ⟨k, rfl, hk, hkx, HW, HT⟩ := hrel
        by_cases hlt : k < la.length
        · have t1 : (k : Int) < (la.length : Int) := by omega
          have t2 : (k : Int) < (lb.length : Int) := by omega
          obtain ⟨b, hb⟩ : ∃ b, la[k]? = some b := ⟨_, List.getElem?_eq_getElem hlt⟩
          obtain ⟨c, hc⟩ : ∃ c, lb[k]? = some c := ⟨_, List.getElem?_eq_getElem (by omega)⟩
          obtain ⟨g1, o1, c1, hv1, l1⟩ := (HA.out.keep HW.out).ldm hb
          obtain ⟨g2, o2, c2, hv2, l2⟩ := (HB.out.keep HW.out).ldm hc
          simp only [Value.slice.injEq, true_and] at hv1 hv2
          obtain ⟨rfl, rfl⟩ := hv1
          obtain ⟨rfl, rfl⟩ := hv2
          have HBC := Lib.hid (And.intro hb hc)
          clear hb hc
          by_cases hbc : b = c
          · subst hbc
            obtain ⟨s, i, g, m, x, y, vx, vy, hp, pw, lf⟩ := b
            have hbe : bunEq ⟨s, i, g, m, x, y, vx, vy, hp, pw, lf⟩ ⟨s, i, g, m, x, y, vx, vy, hp, pw, lf⟩ = true := by simp [bunEq]
            go_wp2_with fail
            refine wp_region_more (by kernel_rfl) (by kernel_rfl) ?_
            repeat (go_big_quiet_step (fail))
            refine wpQuiet_nil ?_
            rintro _ ⟨pn, rfl⟩
            go_wp2_with fail
            go_roundg (la.length - (k + 1))
            case measure => omega
            case rel => exact ⟨k + 1, by go_num, by omega, by omega, Lib.hid (HW.out.trans (Below.mono (B := wr.heap.size) (by repeat' (first | (with_reducible exact Below.refl _ _) | (with_reducible assumption) | (with_reducible refine below_drewN ?_ _) | (with_reducible refine below_more _ _ _ ?_ ?_) | (with_reducible refine Below.alloc ?_ ?_ _) | (with_reducible refine Below.drew ?_) | (with_reducible refine Below.setCell ?_ ?_ _) | go_size)) HW.out.size)), Lib.hid (fun t ht => by
              by_cases htk : t = k
              · subst htk; exact HBC.out.1.trans HBC.out.2.symm
              · exact HT.out t (by omega))⟩
          · obtain ⟨s, i, g, m, x, y, vx, vy, hp, pw, lf⟩ := b
            obtain ⟨s', i', g', m', x', y', vx', vy', hp', pw', lf'⟩ := c
            have hbe : bunEq ⟨s, i, g, m, x, y, vx, vy, hp, pw, lf⟩ ⟨s', i', g', m', x', y', vx', vy', hp', pw', lf'⟩ = false := by unfold bunEq; exact decide_eq_false hbc
            clear hbc
            go_wp2_with fail
            refine wp_region_more (by kernel_rfl) (by kernel_rfl) ?_
            repeat (go_big_quiet_step (fail))
            refine wpQuiet_nil ?_
            rintro _ ⟨pn, rfl⟩
            go_wp2_with fail
            go_ret
            exact ⟨rfl, HW.out.trans (Below.mono (B := wr.heap.size) (by repeat' (first | (with_reducible exact Below.refl _ _) | (with_reducible assumption) | (with_reducible refine below_drewN ?_ _) | (with_reducible refine below_more _ _ _ ?_ ?_) | (with_reducible refine Below.alloc ?_ ?_ _) | (with_reducible refine Below.drew ?_) | (with_reducible refine Below.setCell ?_ ?_ _) | go_size)) HW.out.size)⟩
        · exfalso
          obtain rfl : k = la.length := by omega
          refine HNE.out (List.ext_getElem? fun t => ?_)
          by_cases ht : t < la.length
          · exact HT.out t ht
          · rw [List.getElem?_eq_none (by omega), List.getElem?_eq_none (by have := HL.out; omega)]
  · have hd : ((la.length : Int) != (lb.length : Int)) = true := by simp; omega
    have hd2 : ¬ (la.length : Int) = (lb.length : Int) := by omega
    rw [decide_eq_false (fun e => hlen (by rw [e]))]
    clear hlen
    go_enter Try.func20, Try.ntmps20
    go_wp2_with fail
    go_ret
    exact ⟨rfl, Below.refl _ _⟩
end Go.Proofs.Ytcnclcfipabimaa
