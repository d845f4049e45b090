/-
  The reference's Beside. Condition: the world may be.
-/
import Derived.Test.YtcnclcfipabimaaRfD
namespace Go.Proofs.Ytcnclcfipabimaa
open Go.RowKit

def besideR (c : Cfg) (k : Int) : List Int := if 0 ≤ k ∧ k < c.cols * c.rows then besideF c k else []
theorem rNoneR_any (z : Int × Int × Int × Int) (w : World) :
    Calls Try.prog 73 #[rectV z] w fun e w' => e = .returned (.bool (!okR z)) ∧ Below w.heap.size w w' := rNone_any _ _ _ _ w
theorem alloc_cells (W : World) (arr : Array Value) (t : TypeId) (n u : Nat) (hn : n = W.heap.size) : (W.alloc (.cells arr t)).cell? ⟨n, u, none⟩ = arr[u]? := by subst hn; simp
theorem besTo_self (cols k : Int) : nextB cols k k = false := by unfold nextB; simp

set_option maxRecDepth 100000 in
set_option maxHeartbeats 2000000 in
theorem rbeside_out (cols rows side radius speed ids queue : Int) (k : Int) (w : World) (ho : CfgOk ⟨cols, rows, side, radius, speed, ids, queue⟩) (hk : ¬ (0 ≤ k ∧ k < cols * rows)) :
    Calls Try.prog 63 #[.agg #[.int .i64 cols, .int .i64 rows, .int .i64 side, .int .i64 radius, .int .i64 speed, .int .i64 ids, .int .i64 queue], .int .i64 k] w fun e w' => ∃ v', e = .returned v' ∧ RNew intL 3 1 w w' v' [] := by
  obtain ⟨n1, n2⟩ := ho.cnt
  simp only at n1 n2
  clear ho
  generalize hcnt : cols * rows = cnt at *
  have v1 : IntKind.i64.wrap (cols * rows) = cnt := by rw [hcnt, IntKind.wrap_i64]; omega
  clear hcnt
  by_cases h0 : k < 0
  · go_enter Try.func63, Try.ntmps63
    go_wp2_with fail
    go_ret
    exact ⟨_, rfl, (RNew.nil _).since (by repeat' (first | (with_reducible exact Below.refl _ _) | (with_reducible assumption) | (with_reducible refine below_drewN ?_ _) | (with_reducible refine below_more _ _ _ ?_ ?_) | (with_reducible refine Below.alloc ?_ ?_ _) | (with_reducible refine Below.drew ?_) | (with_reducible refine Below.setCell ?_ ?_ _) | go_size))⟩
  · have h1 : cnt ≤ k := by omega
    go_enter Try.func63, Try.ntmps63
    go_wp2_with fail
    go_ret
    exact ⟨_, rfl, (RNew.nil _).since (by repeat' (first | (with_reducible exact Below.refl _ _) | (with_reducible assumption) | (with_reducible refine below_drewN ?_ _) | (with_reducible refine below_more _ _ _ ?_ ?_) | (with_reducible refine Below.alloc ?_ ?_ _) | (with_reducible refine Below.drew ?_) | (with_reducible refine Below.setCell ?_ ?_ _) | go_size))⟩

set_option maxRecDepth 100000 in
set_option maxHeartbeats 2000000 in
theorem rbeside_in (cols rows side radius speed ids queue : Int) (k : Int) (w : World) (ho : CfgOk ⟨cols, rows, side, radius, speed, ids, queue⟩) (hk0 : 0 ≤ k) (hk1 : k < cols * rows) :
    Calls Try.prog 63 #[.agg #[.int .i64 cols, .int .i64 rows, .int .i64 side, .int .i64 radius, .int .i64 speed, .int .i64 ids, .int .i64 queue], .int .i64 k] w fun e w' => ∃ v', e = .returned v' ∧ RNew intL 3 1 w w' v' (besideF ⟨cols, rows, side, radius, speed, ids, queue⟩ k) := by
  obtain ⟨i0, hi0, hz0, hz1, hz2⟩ := info_parts info_intJ
  obtain ⟨n1, n2⟩ := ho.cnt
  have HZ := Lib.hid (fun k W => rzone_any cols rows side radius speed ids queue k W ho)
  have HB2 := Lib.hid (fun i a b c => beside_two ho hk0 hk1 (i := i) a b c)
  have hzk : okR (zoneF ⟨cols, rows, side, radius, speed, ids, queue⟩ k) = true := by
    obtain ⟨e, a0, a1, b0, b1, _⟩ := zone_rng ho hk0 hk1
    have hs0 := ho.s0; have hs1 := ho.s1
    rw [e]
    unfold okR boxOk
    simp only at *
    rw [clampF_id (k % cols * side) (by omega) (by omega), clampF_id (k / cols * side) (by omega) (by omega), clampF_id (k % cols * side + side) (by omega) (by omega), clampF_id (k / cols * side + side) (by omega) (by omega)]
    simp; omega
  have hbf : besideF ⟨cols, rows, side, radius, speed, ids, queue⟩ k = besTo cols k (cols * rows).toNat := rfl
  rw [hbf]
  simp only at n1 n2 HB2
  clear ho hbf
  have HG := Lib.hid (fun W => rgrow_any (zoneF ⟨cols, rows, side, radius, speed, ids, queue⟩ k).1 (zoneF ⟨cols, rows, side, radius, speed, ids, queue⟩ k).2.1 (zoneF ⟨cols, rows, side, radius, speed, ids, queue⟩ k).2.2.1 (zoneF ⟨cols, rows, side, radius, speed, ids, queue⟩ k).2.2.2 W hzk)
  rw [show ((zoneF ⟨cols, rows, side, radius, speed, ids, queue⟩ k).1, (zoneF ⟨cols, rows, side, radius, speed, ids, queue⟩ k).2.1, (zoneF ⟨cols, rows, side, radius, speed, ids, queue⟩ k).2.2.1, (zoneF ⟨cols, rows, side, radius, speed, ids, queue⟩ k).2.2.2) = zoneF ⟨cols, rows, side, radius, speed, ids, queue⟩ k from rfl] at HG
  clear hzk
  generalize zoneF ⟨cols, rows, side, radius, speed, ids, queue⟩ = zf at *
  generalize hg : growF (zf k) = g at *
  clear hg
  obtain ⟨cnt, hcnt⟩ : ∃ cnt : Nat, cols * rows = (cnt : Int) := ⟨(cols * rows).toNat, by omega⟩
  rw [hcnt] at hk1 n1 n2 HB2 ⊢
  rw [Int.toNat_natCast]
  have v1 : IntKind.i64.wrap (cols * rows) = (cnt : Int) := by rw [hcnt, IntKind.wrap_i64]; omega
  clear hcnt
  have d1 : ¬ k < 0 := by omega
  have d2 : ¬ (cnt : Int) ≤ k := by omega
  obtain ⟨g0, g1, g2, g3⟩ := g
  have HTW := Lib.hid (fun (z : Int × Int × Int × Int) W => rtwo_any g0 g1 g2 g3 z.1 z.2.1 z.2.2.1 z.2.2.2 W)
  go_enter Try.func63, Try.ntmps63
  go_wp2_with fail
  refine (HZ.out _ _).mono ?_; rintro e w' ⟨rfl, hb⟩; obtain ⟨d1', os1, rfl⟩ := more_of hb; clear hb
  go_wp2_with fail
  refine (HG.out _).mono ?_; rintro e w' ⟨rfl, hb⟩; obtain ⟨d2', os2, rfl⟩ := more_of hb; clear hb
  rw [show rectV (g0, g1, g2, g3) = .agg #[.int .i64 g0, .int .i64 g1, .int .i64 g2, .int .i64 g3] from rfl]
  go_upto_region 5 with fail
  generalize hw1 : World.alloc (more (more _ _ _) _ _) _ = w1
  have hb1 : Below w.heap.size w w1 := by rw [← hw1]; exact (by repeat' (first | (with_reducible exact Below.refl _ _) | (with_reducible assumption) | (with_reducible refine below_drewN ?_ _) | (with_reducible refine below_more _ _ _ ?_ ?_) | (with_reducible refine Below.alloc ?_ ?_ _) | (with_reducible refine Below.drew ?_) | (with_reducible refine Below.setCell ?_ ?_ _) | go_size))
  have hcf : ∀ u, w1.cell? ⟨w.heap.size, u, none⟩ = (#[.int .i64 cols, .int .i64 rows, .int .i64 side, .int .i64 radius, .int .i64 speed, .int .i64 ids, .int .i64 queue] : Array Value)[u]? := fun u => by
    rw [← hw1, Below.cell (B := w.heap.size + 1) (w := w.alloc (.cells #[.int .i64 cols, .int .i64 rows, .int .i64 side, .int .i64 radius, .int .i64 speed, .int .i64 ids, .int .i64 queue] 23)) (by repeat' (first | (with_reducible exact Below.refl _ _) | (with_reducible assumption) | (with_reducible refine below_drewN ?_ _) | (with_reducible refine below_more _ _ _ ?_ ?_) | (with_reducible refine Below.alloc ?_ ?_ _) | (with_reducible refine Below.drew ?_) | (with_reducible refine Below.setCell ?_ ?_ _) | go_size)) (by simp)]; simp
  have hcg : ∀ u, w1.cell? ⟨w.heap.size + 1 + os1.size + os2.size, u, none⟩ = (#[.int .i64 g0, .int .i64 g1, .int .i64 g2, .int .i64 g3] : Array Value)[u]? := fun u => by rw [← hw1]; exact alloc_cells _ _ _ _ _ (by simp)
  have hs6 : w.heap.size + 1 + os1.size + os2.size < w1.heap.size := by rw [← hw1]; simp
  have hs2 : w.heap.size < w1.heap.size := by omega
  generalize w.heap.size + 1 + os1.size + os2.size = n6 at *
  have HB1 := Lib.hid hb1
  have HCF := Lib.hid hcf
  have HCG := Lib.hid hcg
  clear hb1 hcf hcg hw1
  go_wp2_with fail
  go_loopg [5, 7] cnt (fun kx so sx wr => ∃ i : Nat, sx = .int .i64 i ∧ i ≤ cnt ∧ cnt - i ≤ kx ∧ Hid (RNew intL 3 1 w1 wr so (besTo cols k i)) ∧ Hid ((besTo cols k i).length ≤ i))
  case atStart => exact ⟨0, by go_num, by omega, by omega, Lib.hid (RNew.nil w1), Lib.hid (by simp [besTo])⟩
  case round =>
    obtain ⟨i, rfl, hi, hkx, HN, HL⟩ := hrel
    obtain ⟨wa, rfl⟩ : ∃ wa : World, wa = wr := ⟨_, rfl⟩
    have hbl := HN.out.2.1
    have hsl := hbl.size
    have hf2 : w.heap.size < wa.heap.size := by omega
    have hf6 : n6 < wa.heap.size := by omega
    have hcf : ∀ u, wa.cell? ⟨w.heap.size, u, none⟩ = (#[.int .i64 cols, .int .i64 rows, .int .i64 side, .int .i64 radius, .int .i64 speed, .int .i64 ids, .int .i64 queue] : Array Value)[u]? := fun u => (hbl.cell (p := ⟨w.heap.size, u, none⟩) hs2).trans (HCF.out u)
    have hcg : ∀ u, wa.cell? ⟨n6, u, none⟩ = (#[.int .i64 g0, .int .i64 g1, .int .i64 g2, .int .i64 g3] : Array Value)[u]? := fun u => (hbl.cell (p := ⟨n6, u, none⟩) hs6).trans (HCG.out u)
    have x0 := hcf 0; simp at x0
    have x1 := hcf 1; simp at x1
    have x2 := hcf 2; simp at x2
    have x3 := hcf 3; simp at x3
    have x4 := hcf 4; simp at x4
    have x5 := hcf 5; simp at x5
    have x6 := hcf 6; simp at x6
    have y0 := hcg 0; simp at y0
    have y1 := hcg 1; simp at y1
    have y2 := hcg 2; simp at y2
    have y3 := hcg 3; simp at y3
    obtain ⟨z0, z1, z2⟩ := ltz hf2
    obtain ⟨z3, z4, z5⟩ := ltz hf6
    clear hbl hcf hcg
    by_cases hlt : i < cnt
    · have t1 : (i : Int) < (cnt : Int) := by omega
      have HST := Lib.hid (besTo_succ cols k i)
      obtain ⟨po, co, hpo⟩ := sl_frm HN.out.1
      subst hpo
      generalize hacc : besTo cols k i = acc at *
      have hal := HL.out
      clear HL hacc
      have HZI := Lib.hid (HZ.out i)
      have HTI := Lib.hid (HTW.out (zf i))
      have HNI := Lib.hid (fun W => rNoneR_any (twoF (g0, g1, g2, g3) (zf i)) W)
      have HB3 := Lib.hid (HB2.out i (by omega) t1)
      cases h1 : ((i : Int) == k) with
      | true =>
        have hne2 : ((i : Int) != k) = false := by simp at h1 ⊢; exact h1
        have hik : (i : Int) = k := by simpa using h1
        have he : nextB cols k i = false := by rw [hik]; exact besTo_self _ _
        rw [he] at HST
        have HS2 := Lib.hid HST.out
        clear he HST hik
        go_wp2_with fail
        refine wp_region_more (by kernel_rfl) (by kernel_rfl) ?_
        repeat (go_big_quiet_step ((first | (go_at_call 38; exact more_call (HZI.out _)) | (go_at_call 109; exact more_call (HTI.out _)) | (go_at_call 73; exact more_call (HNI.out _)))))
        refine wpQuiet_nil ?_
        rintro _ ⟨pq, rfl⟩
        go_wp2_with fail
        go_roundg (cnt - (i + 1))
        case measure => omega
        case rel => exact ⟨i + 1, by go_num, by omega, by omega, Lib.hid (by rw [HS2.out]; simpa using HN.out.grow (by repeat' (first | (with_reducible exact Below.refl _ _) | (with_reducible assumption) | (with_reducible refine below_drewN ?_ _) | (with_reducible refine below_more _ _ _ ?_ ?_) | (with_reducible refine Below.alloc ?_ ?_ _) | (with_reducible refine Below.drew ?_) | (with_reducible refine Below.setCell ?_ ?_ _) | go_size))), Lib.hid (by rw [HS2.out]; simp; omega)⟩
      | false =>
        have hne2 : ((i : Int) != k) = true := by simp at h1 ⊢; exact h1
        have hnn : ¬ (i : Int) = k := by simpa using h1
        have hbb := HB3.out hnn
        rw [show rectV ((zf i).1, (zf i).2.1, (zf i).2.2.1, (zf i).2.2.2) = rectV (zf i) from rfl] at HTI
        have HNJ := Lib.hid (fun W => by have := HNI.out W; rw [hbb] at this; exact this)
        clear hbb HB3 HNI
        generalize twoF (g0, g1, g2, g3) (zf i) = tz at *
        generalize zf (i : Int) = zi at *
        cases h2 : nextB cols k i with
        | false =>
          rw [h2] at HNJ HST
          simp only [Bool.not_false] at HNJ
          have HS2 := Lib.hid HST.out
          clear HST
          go_wp2_with fail
          refine wp_region_more (by kernel_rfl) (by kernel_rfl) ?_
          repeat (go_big_quiet_step ((first | (go_at_call 38; exact more_call (HZI.out _)) | (go_at_call 109; exact more_call (HTI.out _)) | (go_at_call 73; exact more_call (HNJ.out _)))))
          refine wpQuiet_nil ?_
          rintro _ ⟨pq, rfl⟩
          go_wp2_with fail
          go_roundg (cnt - (i + 1))
          case measure => omega
          case rel => exact ⟨i + 1, by go_num, by omega, by omega, Lib.hid (by rw [HS2.out]; simpa using HN.out.grow (by repeat' (first | (with_reducible exact Below.refl _ _) | (with_reducible assumption) | (with_reducible refine below_drewN ?_ _) | (with_reducible refine below_more _ _ _ ?_ ?_) | (with_reducible refine Below.alloc ?_ ?_ _) | (with_reducible refine Below.drew ?_) | (with_reducible refine Below.setCell ?_ ?_ _) | go_size))), Lib.hid (by rw [HS2.out]; simp; omega)⟩
        | true =>
          rw [h2] at HNJ HST
          simp only [Bool.not_true] at HNJ
          have HS2 := Lib.hid HST.out
          clear HST
          go_wp2_with fail
          refine wp_region_more (by kernel_rfl) (by kernel_rfl) ?_
          repeat (go_big_quiet_step ((first | (go_at_call 38; exact more_call (HZI.out _)) | (go_at_call 109; exact more_call (HTI.out _)) | (go_at_call 73; exact more_call (HNJ.out _)))))
          refine wpQuiet_nil ?_
          rintro _ ⟨pq, rfl⟩
          go_wp2_with (at_builtin; refine wpList_append_sl _ (by rfl) _ _ 53 (by rfl) 3 i0 _ 1 8 Try.underlying53 hi0 hz0 hz1 hz2 rfl (by omega) _ acc.length (cellsR intL acc) (by rfl) (HN.out.grow (by repeat' (first | (with_reducible exact Below.refl _ _) | (with_reducible assumption) | (with_reducible refine below_drewN ?_ _) | (with_reducible refine below_more _ _ _ ?_ ?_) | (with_reducible refine Below.alloc ?_ ?_ _) | (with_reducible refine Below.drew ?_) | (with_reducible refine Below.setCell ?_ ?_ _) | go_size))).1 ⟨_, 0, none⟩ 1 1 (intL i) (by rfl) (by rfl) (new_cellsN _ _ _ _ (by simp)) (intL_one _) (by omega) (by unfold maxLen; omega) (by omega) ?_; intro v' w4 hs4 ht4 ho4)
          have hm := (HN.out.grow (by repeat' (first | (with_reducible exact Below.refl _ _) | (with_reducible assumption) | (with_reducible refine below_drewN ?_ _) | (with_reducible refine below_more _ _ _ ?_ ?_) | (with_reducible refine Below.alloc ?_ ?_ _) | (with_reducible refine Below.drew ?_) | (with_reducible refine Below.setCell ?_ ?_ _) | go_size))).snoc hs4 ht4 ho4
          have HM := Lib.hid hm
          clear hs4 ht4 ho4 hm
          go_roundg (cnt - (i + 1))
          case measure => omega
          case rel => exact ⟨i + 1, by go_num, by omega, by omega, Lib.hid (by rw [HS2.out]; simpa using HM.out), Lib.hid (by rw [HS2.out]; simp; omega)⟩
    · have t1 : ¬ (i : Int) < (cnt : Int) := by omega
      obtain rfl : i = cnt := by omega
      go_wp2_with fail
      go_ret
      exact ⟨_, rfl, HN.out.since HB1.out⟩
end Go.Proofs.Ytcnclcfipabimaa
