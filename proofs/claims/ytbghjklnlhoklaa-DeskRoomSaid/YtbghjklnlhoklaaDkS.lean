/-
  Chapter 16: the reference's desk: ends, Look. Condition: the world may be; the command's mask is an int (64 bits).
-/
import Derived.Test.YtbghjklnlhoklaaMk15
import Derived.Test.YtbghjklnlhoklaaMk16
import Derived.Test.YtbghjklnlhoklaaMk13
namespace Go.Proofs.Ytbghjklnlhoklaa
open Go.RowKit

theorem endsF_step (q : List Cm) (s i g : Int) {k : Nat} {m : Cm} (h : q[k]? = some m) : endsF (q.take (k + 1)) s i g = (endsF (q.take k) s i g || (m.k == 2 && idEq m.s m.i m.g s i g)) := by
  have hlt := (List.getElem?_eq_some_iff.1 h).1
  unfold endsF
  rw [List.take_succ_eq_append_getElem hlt, (List.getElem?_eq_some_iff.1 h).2, List.any_append]
  simp
theorem endsF_found (q : List Cm) (s i g : Int) {k : Nat} {m : Cm} (h : q[k]? = some m) (hm : (m.k == 2 && idEq m.s m.i m.g s i g) = true) : endsF q s i g = true := List.any_eq_true.2 ⟨m, List.mem_of_getElem? h, hm⟩
section
variable (w : World) (r : RDLay) (c : Cfg) (kk : Int) (D : Dk)
set_option maxRecDepth 100000 in
set_option maxHeartbeats 2000000 in
theorem rends_any (h : RDeskAt w r c kk D) (s i g : Int) : Calls Try.prog 81 #[.pointer (some ⟨r.p, 0, none⟩), .agg #[.int .i64 s, .int .i64 i, .int .i64 g]] w fun e w' => e = .returned (.bool (endsF D.q s i g)) ∧ Below w.heap.size w w' := by
  have c8 := h.cell 8
  simp [rdeskC] at c8
  have hlt := lt_of_heap h.box
  have HQ := Lib.hid (RIn.of_sl h.q)
  obtain ⟨p, cap, hv⟩ := sl_frm h.q
  rw [hv] at c8 HQ
  have hbnd : D.q.length ≤ maxLen := by obtain ⟨_, _, _, h1, _⟩ := HQ.out; exact h1
  unfold maxLen at hbnd
  have HST := Lib.hid (fun k m hm => endsF_step D.q s i g (k := k) (m := m) hm)
  have HFD := Lib.hid (fun k m hm => endsF_found D.q s i g (k := k) (m := m) hm)
  have h0 : endsF ([] : List Cm) s i g = false := rfl
  clear h hv
  generalize D.q = q at *
  go_enter Try.func81, Try.ntmps81
  go_wp2_with fail
  generalize hw1 : World.alloc w _ = w1
  have hb1 : Below w.heap.size w w1 := by rw [← hw1]; exact (by repeat' (first | (with_reducible exact Below.refl _ _) | (with_reducible assumption) | (with_reducible refine below_drewN ?_ _) | (with_reducible refine below_more _ _ _ ?_ ?_) | (with_reducible refine Below.alloc ?_ ?_ _) | (with_reducible refine Below.drew ?_) | (with_reducible refine Below.setCell ?_ ?_ _) | go_size))
  have s1 : w.heap.size < w1.heap.size := by rw [← hw1]; simp
  have u0 : w1.cell? ⟨w.heap.size, 0, none⟩ = some (.int .i64 s) := by rw [← hw1]; simp
  have u1 : w1.cell? ⟨w.heap.size, 1, none⟩ = some (.int .i64 i) := by rw [← hw1]; simp
  have u2 : w1.cell? ⟨w.heap.size, 2, none⟩ = some (.int .i64 g) := by rw [← hw1]; simp
  replace c8 := (hb1.cell (p := ⟨r.p, 8, none⟩) hlt).trans c8
  replace hlt : r.p < w1.heap.size := Nat.lt_of_lt_of_le hlt hb1.size
  replace HQ := Lib.hid (HQ.out.keep hb1)
  have HB1 := Lib.hid hb1
  clear hw1 hb1
  go_loopw [5] (fun x wr => ∃ k : Nat, k ≤ q.length ∧ x = .int .i64 k ∧ Hid (Below w1.heap.size w1 wr) ∧ Hid (endsF (q.take k) s i g = false)) (fun x _ => q.length - (intOf x).toNat)
  case atStart => exact ⟨0, Nat.zero_le _, rfl, Lib.hid (Below.refl _ _), Lib.hid (by simpa using h0)⟩
  case round =>
    obtain ⟨k, hk, rfl, hB, hE⟩ := hrel
    obtain ⟨wo, rfl⟩ : ∃ wo : World, wo = wr := ⟨_, rfl⟩
    have hI : 0 ≤ (k : Int) := Int.natCast_nonneg k
    have c8o := (hB.out.cell (p := ⟨r.p, 8, none⟩) hlt).trans c8
    have v0 := (hB.out.cell (p := ⟨w.heap.size, 0, none⟩) s1).trans u0
    have v1 := (hB.out.cell (p := ⟨w.heap.size, 1, none⟩) s1).trans u1
    have v2 := (hB.out.cell (p := ⟨w.heap.size, 2, none⟩) s1).trans u2
    have l1 := Nat.lt_of_lt_of_le hlt hB.out.size
    have l2 := Nat.lt_of_lt_of_le s1 hB.out.size
    obtain ⟨z0, z1, z2⟩ := ltz l1
    obtain ⟨z3, z4, z5⟩ := ltz l2
    by_cases hlt2 : k < q.length
    · obtain ⟨m, hm⟩ : ∃ m, q[k]? = some m := ⟨_, List.getElem?_eq_getElem hlt2⟩
      have hst := HST.out k m hm
      have hfd := HFD.out k m hm
      rw [hE.out] at hst
      obtain ⟨blk, off, cap', hve, hb, hcx⟩ := (HQ.out.keep hB.out).cells cmC_len hm
      simp only [Value.slice.injEq, true_and] at hve
      obtain ⟨rfl, rfl⟩ := hve
      obtain ⟨mk, ms, mi, mg, mb, mm⟩ := m
      have q0 := hcx 0 _ rfl
      have q1 := hcx 1 _ rfl
      have q2 := hcx 2 _ rfl
      have q3 := hcx 3 _ rfl
      rw [Nat.add_zero] at q0
      simp only at q0 q1 q2 q3 hst hfd
      obtain ⟨y0, y1, y2⟩ := ltz hb
      have t1 : (k : Int) < (q.length : Int) := by omega
      clear hcx hm
      cases h2 : (mk == 2) with
      | false =>
        rw [h2] at hst
        have HS := Lib.hid hst
        clear hst hfd u0 u1 u2 c8
        go_wp2_with fail
        refine wp_region_more (by kernel_rfl) (by kernel_rfl) ?_
        repeat (go_big_quiet_step (fail))
        refine wpQuiet_nil ?_
        rintro _ ⟨pn, rfl⟩
        go_wp2_with fail
        go_roundw
        case rel => exact ⟨k + 1, hlt2, by go_num, Lib.hid (hB.out.trans (Below.mono (B := wo.heap.size) (by repeat' (first | (with_reducible exact Below.refl _ _) | (with_reducible assumption) | (with_reducible refine below_drewN ?_ _) | (with_reducible refine below_more _ _ _ ?_ ?_) | (with_reducible refine Below.alloc ?_ ?_ _) | (with_reducible refine Below.drew ?_) | (with_reducible refine Below.setCell ?_ ?_ _) | go_size)) hB.out.size)), Lib.hid (by rw [HS.out]; rfl)⟩
        case measure => simp [intOf]; omega
      | true =>
        cases h3 : idEq ms mi mg s i g with
        | false =>
          rw [h2, h3] at hst
          have HS := Lib.hid hst
          clear hst hfd u0 u1 u2 c8
          go_wp2_with fail
          refine wp_region_more (by kernel_rfl) (by kernel_rfl) ?_
          repeat (go_big_quiet_step (fail))
          refine wpQuiet_nil ?_
          rintro _ ⟨pn, rfl⟩
          go_wp2_with fail
          go_roundw
          case rel => exact ⟨k + 1, hlt2, by go_num, Lib.hid (hB.out.trans (Below.mono (B := wo.heap.size) (by repeat' (first | (with_reducible exact Below.refl _ _) | (with_reducible assumption) | (with_reducible refine below_drewN ?_ _) | (with_reducible refine below_more _ _ _ ?_ ?_) | (with_reducible refine Below.alloc ?_ ?_ _) | (with_reducible refine Below.drew ?_) | (with_reducible refine Below.setCell ?_ ?_ _) | go_size)) hB.out.size)), Lib.hid (by rw [HS.out]; rfl)⟩
          case measure => simp [intOf]; omega
        | true =>
          rw [h2, h3] at hfd
          have HS := Lib.hid (hfd rfl)
          clear hst hfd u0 u1 u2 c8
          go_wp2_with fail
          refine wp_region_more (by kernel_rfl) (by kernel_rfl) ?_
          repeat (go_big_quiet_step (fail))
          refine wpQuiet_nil ?_
          rintro _ ⟨pn, rfl⟩
          go_wp2_with fail
          go_ret
          exact ⟨by rw [HS.out]; rfl, HB1.out.trans (Below.mono (B := w1.heap.size) (hB.out.trans (Below.mono (B := wo.heap.size) (by repeat' (first | (with_reducible exact Below.refl _ _) | (with_reducible assumption) | (with_reducible refine below_drewN ?_ _) | (with_reducible refine below_more _ _ _ ?_ ?_) | (with_reducible refine Below.alloc ?_ ?_ _) | (with_reducible refine Below.drew ?_) | (with_reducible refine Below.setCell ?_ ?_ _) | go_size)) hB.out.size)) HB1.out.size)⟩
    · obtain rfl : k = q.length := by omega
      have HS := Lib.hid hE.out
      rw [List.take_length] at HS
      go_wp2_with fail
      go_ret
      exact ⟨by rw [HS.out]; rfl, HB1.out.trans (Below.mono (B := w1.heap.size) hB.out HB1.out.size)⟩
end
end Go.Proofs.Ytbghjklnlhoklaa
