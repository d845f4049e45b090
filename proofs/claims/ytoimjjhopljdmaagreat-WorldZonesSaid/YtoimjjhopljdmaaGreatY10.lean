/-
  Chapter texts RfB SoL: what the claim reaches of them. Conditions stand at each theorem.
-/
import Derived.Test.YtoimjjhopljdmaaGreatY08
import Derived.Test.YtoimjjhopljdmaaGreatY02
import Derived.Test.YtoimjjhopljdmaaGreatY09
import Derived.Test.YtoimjjhopljdmaaGreatY06
namespace Go.Proofs.YtoimjjhopljdmaaGreat
open Go.RowKit

def zoneF (c : Cfg) (k : Int) : Int × Int × Int × Int := if 0 ≤ k ∧ k < c.cols * c.rows then (k % c.cols * c.side, k / c.cols * c.side, (k % c.cols + 1) * c.side, (k / c.cols + 1) * c.side) else (0, 0, 0, 0)
def rectV (z : Int × Int × Int × Int) : Value := .agg #[.int .i64 z.1, .int .i64 z.2.1, .int .i64 z.2.2.1, .int .i64 z.2.2.2]

theorem zone_at (c : Cfg) (h : CfgOk c) (i j : Nat) (hi : (i : Int) < c.cols) (hj : (j : Int) < c.rows) : zoneF c ((j : Int) * c.cols + i) = ((i : Int) * c.side, (j : Int) * c.side, ((i : Int) + 1) * c.side, ((j : Int) + 1) * c.side) := by
  have hc := h.c0
  have e1 : ((j : Int) * c.cols + i) % c.cols = i := by rw [Int.add_comm, Int.add_mul_emod_self_right]; exact Int.emod_eq_of_lt (by omega) hi
  have e2 : ((j : Int) * c.cols + i) / c.cols = j := by rw [Int.add_comm, Int.add_mul_ediv_right _ _ (by omega), Int.ediv_eq_zero_of_lt (by omega) hi]; omega
  have h0 : 0 ≤ (j : Int) * c.cols := Int.mul_nonneg (by omega) (by omega)
  have h1 : ((j : Int) + 1) * c.cols ≤ c.rows * c.cols := Int.mul_le_mul_of_nonneg_right (by omega) (by omega)
  rw [Int.add_mul, Int.one_mul] at h1
  unfold zoneF
  rw [if_pos ⟨by omega, by rw [Int.mul_comm c.cols]; omega⟩, e1, e2]

theorem zone_out (c : Cfg) (k : Int) (h : ¬ (0 ≤ k ∧ k < c.cols * c.rows)) : zoneF c k = (0, 0, 0, 0) := by unfold zoneF; rw [if_neg h]

set_option maxRecDepth 100000 in
set_option maxHeartbeats 1000000 in
theorem rzone_any (cols rows side radius speed ids queue : Int) (k : Int) (w : World) (ho : CfgOk ⟨cols, rows, side, radius, speed, ids, queue⟩) :
    Calls Tryz.prog 22 #[.agg #[.int .i64 cols, .int .i64 rows, .int .i64 side, .int .i64 radius, .int .i64 speed, .int .i64 ids, .int .i64 queue], .int .i64 k] w fun e w' => e = .returned (rectV (zoneF ⟨cols, rows, side, radius, speed, ids, queue⟩ k)) ∧ Below w.heap.size w w' := by
  have HZ := Lib.hid (zone_at ⟨cols, rows, side, radius, speed, ids, queue⟩ ho)
  have HO := Lib.hid (zone_out ⟨cols, rows, side, radius, speed, ids, queue⟩ k)
  simp only at HZ HO
  obtain ⟨c0, c1, r0, r1, s0, s1, _⟩ := ho
  simp only at c0 c1 r0 r1 s0 s1
  generalize hzf : zoneF ⟨cols, rows, side, radius, speed, ids, queue⟩ = zf at *
  clear hzf
  obtain ⟨cn, rfl⟩ : ∃ cn : Nat, cols = (cn : Int) := ⟨cols.toNat, by omega⟩
  obtain ⟨rn, rfl⟩ : ∃ rn : Nat, rows = (rn : Int) := ⟨rows.toNat, by omega⟩
  go_enter Tryz.func22, Tryz.ntmps22
  go_wp2_with fail
  generalize hw1 : (w.alloc _).alloc _ = w1
  have q0 : w1.cell? ⟨w.heap.size, 0, none⟩ = some (.int .i64 cn) := by rw [← hw1]; simp
  have q1 : w1.cell? ⟨w.heap.size, 1, none⟩ = some (.int .i64 rn) := by rw [← hw1]; simp
  have q2 : w1.cell? ⟨w.heap.size, 2, none⟩ = some (.int .i64 side) := by rw [← hw1]; simp
  have HW := Lib.hid hw1
  clear hw1
  go_loopg [5] rn (fun kx sj wr => ∃ j : Nat, sj = .int .i64 j ∧ j ≤ rn ∧ rn - j ≤ kx ∧ Hid (w1 = wr) ∧ Hid (k < 0 ∨ (j : Int) * cn ≤ k))
  case atStart => exact ⟨0, by go_num, by omega, by omega, Lib.hid rfl, Lib.hid (by omega)⟩
  case round =>
    obtain ⟨j, rfl, hj, hkx, HWR, HK⟩ := hrel
    obtain rfl := HWR.out
    by_cases hlt : j < rn
    · have t1 : (j : Int) < (rn : Int) := by omega
      go_wp2_with fail
      go_loopg [6] cn (fun ky si wr => ∃ i : Nat, si = .int .i64 i ∧ i ≤ cn ∧ cn - i ≤ ky ∧ Hid (w1 = wr) ∧ Hid (k < 0 ∨ (j : Int) * cn + i ≤ k))
      case atStart => exact ⟨0, by go_num, by omega, by omega, Lib.hid rfl, Lib.hid (by have := HK.out; omega)⟩
      case round =>
        obtain ⟨i, rfl, hi, hky, HWR2, HK2⟩ := hrel
        obtain rfl := HWR2.out
        by_cases hlt2 : i < cn
        · have t2 : (i : Int) < (cn : Int) := by omega
          have m1 : (j : Int) * cn ≤ 3 * 4 := Int.mul_le_mul (by omega) (by omega) (by omega) (by omega)
          have m2 : 0 ≤ (j : Int) * cn := Int.mul_nonneg (by omega) (by omega)
          have v1 : IntKind.i64.wrap ((j : Int) * cn) = (j : Int) * cn := by rw [IntKind.wrap_i64]; omega
          have v2 : IntKind.i64.wrap ((j : Int) * cn + i) = (j : Int) * cn + i := by rw [IntKind.wrap_i64]; omega
          by_cases hk : (j : Int) * cn + i = k
          · have n1 : (i : Int) * side ≤ 4 * 1048576 := Int.mul_le_mul (by omega) s1 (by omega) (by omega)
            have n2 : 0 ≤ (i : Int) * side := Int.mul_nonneg (by omega) (by omega)
            have n3 : (j : Int) * side ≤ 4 * 1048576 := Int.mul_le_mul (by omega) s1 (by omega) (by omega)
            have n4 : 0 ≤ (j : Int) * side := Int.mul_nonneg (by omega) (by omega)
            have n5 : ((i : Int) + 1) * side ≤ 4 * 1048576 := Int.mul_le_mul (by omega) s1 (by omega) (by omega)
            have n6 : 0 ≤ ((i : Int) + 1) * side := Int.mul_nonneg (by omega) (by omega)
            have n7 : ((j : Int) + 1) * side ≤ 4 * 1048576 := Int.mul_le_mul (by omega) s1 (by omega) (by omega)
            have n8 : 0 ≤ ((j : Int) + 1) * side := Int.mul_nonneg (by omega) (by omega)
            have v3 : IntKind.i64.wrap ((i : Int) * side) = (i : Int) * side := by rw [IntKind.wrap_i64]; omega
            have v4 : IntKind.i64.wrap ((j : Int) * side) = (j : Int) * side := by rw [IntKind.wrap_i64]; omega
            have v5 : IntKind.i64.wrap ((i : Int) + 1) = (i : Int) + 1 := by rw [IntKind.wrap_i64]; omega
            have v6 : IntKind.i64.wrap ((j : Int) + 1) = (j : Int) + 1 := by rw [IntKind.wrap_i64]; omega
            have v7 : IntKind.i64.wrap (((i : Int) + 1) * side) = ((i : Int) + 1) * side := by rw [IntKind.wrap_i64]; omega
            have v8 : IntKind.i64.wrap (((j : Int) + 1) * side) = ((j : Int) + 1) * side := by rw [IntKind.wrap_i64]; omega
            have hz := HZ.out i j t2 t1
            rw [hk] at hz
            have HZ2 := Lib.hid hz
            have hke : ((j : Int) * cn + i == k) = true := by rw [hk]; simp
            clear hz hk n1 n2 n3 n4 n5 n6 n7 n8 m1 m2
            obtain rfl := HW.out
            go_wp2_with fail
            exact bodyPost_ret (v := rectV ((i : Int) * side, (j : Int) * side, ((i : Int) + 1) * side, ((j : Int) + 1) * side)) (by simp [results, Tryz.results22, go_sem, rectV]) rfl ⟨by rw [HZ2.out], bg⟩
          · have hke : ((j : Int) * cn + i == k) = false := by simpa using hk
            go_wp2_with fail
            go_roundg (cn - (i + 1))
            case measure => omega
            case rel => exact ⟨i + 1, by go_num, by omega, by omega, Lib.hid rfl, Lib.hid (by have := HK2.out; omega)⟩
        · have t2 : ¬ (i : Int) < (cn : Int) := by omega
          obtain rfl : i = cn := by omega
          go_wp2_with fail
          go_roundg (rn - (j + 1))
          case measure => omega
          case rel => exact ⟨j + 1, by go_num, by omega, by omega, Lib.hid rfl, Lib.hid (by have := HK2.out; rw [Int.natCast_add, Int.add_mul]; omega)⟩
    · have t1 : ¬ (j : Int) < (rn : Int) := by omega
      obtain rfl : j = rn := by omega
      have hz := HO.out (by have := HK.out; rw [Int.mul_comm] at this; omega)
      have HZ2 := Lib.hid hz
      clear hz
      obtain rfl := HW.out
      go_wp2_with fail
      exact bodyPost_ret (v := rectV (0, 0, 0, 0)) (by simp [results, Tryz.results22, go_sem, rectV]) rfl ⟨by rw [HZ2.out], bg⟩

theorem rHasR_any (z : Int × Int × Int × Int) (x y : Int) (w : World) :
    Calls Tryz.prog 42 #[rectV z, .int .i64 x, .int .i64 y] w fun e w' => e = .returned (.bool (hasF z.1 z.2.1 z.2.2.1 z.2.2.2 x y)) ∧ Below w.heap.size w w' := rHas_any _ _ _ _ x y w

theorem zone_rng {c : Cfg} (ho : CfgOk c) {k : Int} (h0 : 0 ≤ k) (h1 : k < c.cols * c.rows) :
    zoneF c k = (k % c.cols * c.side, k / c.cols * c.side, k % c.cols * c.side + c.side, k / c.cols * c.side + c.side) ∧ 0 ≤ k % c.cols * c.side ∧ k % c.cols * c.side ≤ 3 * 1048576 ∧ 0 ≤ k / c.cols * c.side ∧ k / c.cols * c.side ≤ 3 * 1048576 ∧ 0 ≤ k % c.cols ∧ k % c.cols < c.cols ∧ 0 ≤ k / c.cols ∧ k / c.cols < c.rows := by
  have hc0 := ho.c0; have hc1 := ho.c1; have hr1 := ho.r1; have hs1 := ho.s1; have hs0 := ho.s0
  have i0 : 0 ≤ k % c.cols := Int.emod_nonneg _ (by omega)
  have i1 : k % c.cols < c.cols := Int.emod_lt_of_pos _ (by omega)
  have j0 : 0 ≤ k / c.cols := Int.ediv_nonneg h0 (by omega)
  have j1 : k / c.cols < c.rows := Int.ediv_lt_of_lt_mul (by omega) (by rw [Int.mul_comm]; exact h1)
  refine ⟨?_, Int.mul_nonneg i0 (by omega), Int.mul_le_mul (by omega) hs1 (by omega) (by omega), Int.mul_nonneg j0 (by omega), Int.mul_le_mul (by omega) hs1 (by omega) (by omega), i0, i1, j0, j1⟩
  unfold zoneF
  rw [if_pos ⟨h0, h1⟩, Int.add_mul, Int.one_mul, Int.add_mul, Int.one_mul]

theorem div_iff {x i s : Int} (hs : 0 < s) : (i * s ≤ x ∧ x < i * s + s) ↔ x / s = i := by
  constructor
  · rintro ⟨h0, h1⟩
    have e1 : i ≤ x / s := Int.le_ediv_of_mul_le hs h0
    have e2 : x / s < i + 1 := Int.ediv_lt_of_lt_mul hs (by rw [Int.add_mul, Int.one_mul]; exact h1)
    omega
  · rintro rfl
    have := Int.mul_ediv_add_emod x s
    have h0 := Int.emod_nonneg x (show s ≠ 0 by omega)
    have h1 := Int.emod_lt_of_pos x hs
    rw [Int.mul_comm] at this
    omega

theorem has_of {c : Cfg} (ho : CfgOk c) {k : Int} (h0 : 0 ≤ k) (h1 : k < c.cols * c.rows) (x y : Int) :
    hasF (zoneF c k).1 (zoneF c k).2.1 (zoneF c k).2.2.1 (zoneF c k).2.2.2 x y = (ofF c x y == k) := by
  obtain ⟨e, a0, a1, b0, b1, i0, i1, j0, j1⟩ := zone_rng ho h0 h1
  have hs0 := ho.s0; have hs1 := ho.s1; have hc0 := ho.c0
  obtain ⟨p1, p2, p3, p4⟩ := ho.prod
  rw [e]
  unfold hasF
  simp only
  rw [clampF_id (k % c.cols * c.side) (by omega) (by omega), clampF_id (k / c.cols * c.side) (by omega) (by omega), clampF_id (k % c.cols * c.side + c.side) (by omega) (by omega), clampF_id (k / c.cols * c.side + c.side) (by omega) (by omega)]
  have hx : (k % c.cols * c.side ≤ clampF x ∧ clampF x < k % c.cols * c.side + c.side) ↔ (k % c.cols * c.side ≤ x ∧ x < k % c.cols * c.side + c.side) := by unfold clampF; omega
  have hy : (k / c.cols * c.side ≤ clampF y ∧ clampF y < k / c.cols * c.side + c.side) ↔ (k / c.cols * c.side ≤ y ∧ y < k / c.cols * c.side + c.side) := by unfold clampF; omega
  rw [Bool.eq_iff_iff, beq_iff_eq, decide_eq_true_iff]
  constructor
  · intro h
    obtain ⟨hx0, hx1⟩ := hx.1 ⟨h.1, h.2.1⟩
    obtain ⟨hy0, hy1⟩ := hy.1 h.2.2
    have ex := (div_iff (by omega)).1 ⟨hx0, hx1⟩
    have ey := (div_iff (by omega)).1 ⟨hy0, hy1⟩
    have q1 : (k % c.cols + 1) * c.side ≤ c.cols * c.side := Int.mul_le_mul_of_nonneg_right (by omega) (by omega)
    have q2 : (k / c.cols + 1) * c.side ≤ c.rows * c.side := Int.mul_le_mul_of_nonneg_right (by omega) (by omega)
    rw [Int.add_mul, Int.one_mul] at q1 q2
    have hin : inW c x y = true := decide_eq_true ⟨by omega, by omega, by omega, by omega⟩
    unfold ofF
    rw [hin, if_pos rfl, ex, ey]
    have := Int.mul_ediv_add_emod k c.cols
    rw [Int.mul_comm] at this
    exact this
  · intro h
    cases hin : inW c x y with
    | false => unfold ofF at h; rw [hin] at h; simp at h; omega
    | true =>
      obtain ⟨e1, u0, u1, v0, v1, _⟩ := ofF_in ho hin
      rw [e1] at h
      obtain ⟨m1, m2⟩ := col_row (cy := y / c.side) u0 u1
      rw [h] at m1 m2
      have hx' := hx.2 ((div_iff (by omega)).2 m1.symm)
      have hy' := hy.2 ((div_iff (by omega)).2 m2.symm)
      exact ⟨hx'.1, hx'.2, hy'.1, hy'.2⟩

theorem of_rng {c : Cfg} (ho : CfgOk c) (x y : Int) : ofF c x y = -1 ∨ 0 ≤ ofF c x y ∧ ofF c x y < c.cols * c.rows := by
  cases hin : inW c x y with
  | false => left; unfold ofF; rw [hin]; rfl
  | true => obtain ⟨_, _, _, _, _, h⟩ := ofF_in ho hin; exact Or.inr h

set_option maxRecDepth 100000 in
set_option maxHeartbeats 1000000 in
theorem rof_any (cols rows side radius speed ids queue : Int) (x y : Int) (w : World) (ho : CfgOk ⟨cols, rows, side, radius, speed, ids, queue⟩) :
    Calls Tryz.prog 15 #[.agg #[.int .i64 cols, .int .i64 rows, .int .i64 side, .int .i64 radius, .int .i64 speed, .int .i64 ids, .int .i64 queue], .int .i64 x, .int .i64 y] w fun e w' => e = .returned (.int .i64 (ofF ⟨cols, rows, side, radius, speed, ids, queue⟩ x y)) ∧ Below w.heap.size w w' := by
  have HZ := Lib.hid (fun k W => rzone_any cols rows side radius speed ids queue k W ho)
  have HA := Lib.hid (fun k h0 h1 => has_of ho (k := k) h0 h1 x y)
  have HR := Lib.hid (of_rng ho x y)
  obtain ⟨n1, n2⟩ := ho.cnt
  simp only at n1 n2 HR HA
  clear ho
  generalize hr : ofF ⟨cols, rows, side, radius, speed, ids, queue⟩ x y = r at *
  generalize hzf : zoneF ⟨cols, rows, side, radius, speed, ids, queue⟩ = zf at *
  clear hr hzf
  obtain ⟨cnt, hcnt⟩ : ∃ cnt : Nat, cols * rows = (cnt : Int) := ⟨(cols * rows).toNat, by omega⟩
  rw [hcnt] at n1 n2 HR HA
  have v1 : IntKind.i64.wrap (cols * rows) = (cnt : Int) := by rw [hcnt, IntKind.wrap_i64]; omega
  clear hcnt
  go_enter Tryz.func15, Tryz.ntmps15
  go_wp2_with fail
  go_loopg [7] cnt (fun kx sx wr => ∃ k : Nat, sx = .int .i64 k ∧ k ≤ cnt ∧ cnt - k ≤ kx ∧ Hid (Below w.heap.size w wr) ∧ w.heap.size < wr.heap.size ∧ Hid (∀ u, wr.cell? ⟨w.heap.size, u, none⟩ = (#[.int .i64 cols, .int .i64 rows, .int .i64 side, .int .i64 radius, .int .i64 speed, .int .i64 ids, .int .i64 queue] : Array Value)[u]?) ∧ Hid (r < 0 ∨ (k : Int) ≤ r))
  case atStart => exact ⟨0, by go_num, by omega, by omega, Lib.hid bg, by simp, Lib.hid (fun u => by simp), Lib.hid (by omega)⟩
  case round =>
    obtain ⟨k, rfl, hk, hkx, HW, hsz, HB, HK⟩ := hrel
    obtain ⟨z0, z1, z2⟩ := ltw hsz
    have y0 := HB.out 0; simp at y0
    have y1 := HB.out 1; simp at y1
    have y2 := HB.out 2; simp at y2
    have y3 := HB.out 3; simp at y3
    have y4 := HB.out 4; simp at y4
    have y5 := HB.out 5; simp at y5
    have y6 := HB.out 6; simp at y6
    by_cases hlt : k < cnt
    · have t1 : (k : Int) < (cnt : Int) := by omega
      have ha := HA.out k (by omega) t1
      have HH := Lib.hid (fun W => rHasR_any (zf k) x y W)
      rw [ha] at HH
      have HZK := Lib.hid (HZ.out k)
      clear ha
      generalize zf (k : Int) = zk at *
      cases he : (r == (k : Int)) with
      | true =>
        have hrk : r = (k : Int) := by simpa using he
        have HRK := Lib.hid hrk
        rw [he] at HH
        clear he hrk
        go_wp2_with fail
        refine (HZK.out _).mono ?_; rintro e w' ⟨rfl, hb⟩; obtain ⟨d1, os1, rfl⟩ := more_of hb; clear hb
        go_wp2_with fail
        refine (HH.out _).mono ?_; rintro e w' ⟨rfl, hb⟩; obtain ⟨d2, os2, rfl⟩ := more_of hb; clear hb
        go_wp2_with fail
        go_ret
        exact ⟨ret_int HRK.out.symm, HW.out.trans (Below.mono (B := wr.heap.size) bg HW.out.size)⟩
      | false =>
        have hrk : ¬ r = (k : Int) := by simpa using he
        have HRK := Lib.hid hrk
        rw [he] at HH
        clear he hrk
        go_wp2_with fail
        refine (HZK.out _).mono ?_; rintro e w' ⟨rfl, hb⟩; obtain ⟨d1, os1, rfl⟩ := more_of hb; clear hb
        go_wp2_with fail
        refine (HH.out _).mono ?_; rintro e w' ⟨rfl, hb⟩; obtain ⟨d2, os2, rfl⟩ := more_of hb; clear hb
        go_wp2_with fail
        go_roundg (cnt - (k + 1))
        case measure => omega
        case rel => exact ⟨k + 1, by go_num, by omega, by omega, Lib.hid (HW.out.trans (Below.mono (B := wr.heap.size) bg HW.out.size)), by simp; omega, Lib.hid (fun u => by rw [← HB.out u]; exact Below.cell (B := wr.heap.size) bg (by simpa using hsz)), Lib.hid (by have := HK.out; have := HRK.out; omega)⟩
    · have t1 : ¬ (k : Int) < (cnt : Int) := by omega
      obtain rfl : k = cnt := by omega
      have hr1 : r = -1 := by have h1 := HK.out; have h2 := HR.out; omega
      have HR1 := Lib.hid hr1
      clear hr1
      go_wp2_with fail
      go_ret
      exact ⟨ret_int HR1.out.symm, HW.out⟩
end Go.Proofs.YtoimjjhopljdmaaGreat
namespace Go.Proofs.YtoimjjhopljdmaaGreat
open Go.Sort
def bef (x y : Bun) : Bool := beforeB x.s x.i x.g y.s y.i y.g
theorem bef_cmp (x y : Bun) : bef x y = decide (cmpBun x y < 0) := cmpId_before _ _ _ _ _ _

def rPos (x : Bun) (l : List Bun) : Nat → Nat
  | 0 => 0
  | k + 1 => if bef x (l.getD k default) then rPos x l k else k + 1
theorem rPos_le (x : Bun) (l : List Bun) : ∀ k, rPos x l k ≤ k
  | 0 => Nat.le_refl _
  | k + 1 => by
    have := rPos_le x l k
    unfold rPos
    split <;> omega
theorem rPos_lo (x : Bun) (l : List Bun) : ∀ k, rPos x l k = 0 ∨ bef x (l.getD (rPos x l k - 1) default) = false
  | 0 => .inl rfl
  | k + 1 => by
    unfold rPos
    split
    · exact rPos_lo x l k
    · rename_i h
      right
      rw [Nat.add_sub_cancel]
      simpa using h
theorem rPos_hi (x : Bun) (l : List Bun) : ∀ k t, rPos x l k ≤ t → t < k → bef x (l.getD t default) = true
  | 0, t, _, h => absurd h (Nat.not_lt_zero _)
  | k + 1, t, h1, h2 => by
    unfold rPos at h1
    split at h1
    · rename_i hb
      by_cases ht : t = k
      · subst ht; exact hb
      · exact rPos_hi x l k t h1 (by omega)
    · omega
def rIns (x : Bun) (l : List Bun) : List Bun := l.take (rPos x l l.length) ++ x :: l.drop (rPos x l l.length)
def rSort (l : List Bun) : List Bun := l.foldl (fun out x => rIns x out) []
theorem rSort_snoc (l : List Bun) (x : Bun) : rSort (l ++ [x]) = rIns x (rSort l) := by simp [rSort]
theorem rIns_tag {n : Nat} (x : Bun) (T : List (Bun × Nat)) (hp : T.Pairwise fun a b => ltT cmpBun a b = true) (ht : ∀ y ∈ T, y.2 < n) :
    ∃ T' : List (Bun × Nat), T'.map (fun y => y.1) = rIns x (T.map fun y => y.1) ∧ T'.Perm ((x, n) :: T) ∧ T'.Pairwise fun a b => ltT cmpBun a b = true := by
  have hS := ltT_swo cmpBun_ok
  generalize hk : rPos x (T.map fun y => y.1) (T.map fun y => y.1).length = k
  have h1 := rPos_le x (T.map fun y => y.1) (T.map fun y => y.1).length
  have h2 := rPos_lo x (T.map fun y => y.1) (T.map fun y => y.1).length
  have h3 := rPos_hi x (T.map fun y => y.1) (T.map fun y => y.1).length
  rw [hk] at h1 h2 h3
  simp only [List.length_map] at h1 h3
  refine ⟨T.take k ++ (x, n) :: T.drop k, ?_, ?_, ?_⟩
  · unfold rIns
    rw [hk]
    simp [List.map_take, List.map_drop]
  · refine List.perm_middle.trans ?_
    rw [List.take_append_drop]
  · have hlo : ∀ y ∈ T.take k, ltT cmpBun y (x, n) = true := by
      intro y hy
      rcases h2 with h2 | h2
      · subst h2; simp at hy
      · by_cases hk0 : k = 0
        · subst hk0; simp at hy
        obtain ⟨j, hj, e⟩ := List.getElem_of_mem hy
        have hj' : j < k := by simp at hj; omega
        have hkl : k - 1 < T.length := by omega
        have e2 : (T.map fun y => y.1).getD (k - 1) default = T[k - 1].1 := by simp [List.getD, hkl]
        rw [e2, bef_cmp] at h2
        have hl : ltT cmpBun T[k - 1] (x, n) = true := by
          rw [(ltT_total cmpBun_ok (x := T[k - 1]) (y := (x, n)) (ht _ (List.getElem_mem hkl))).2, h2]; rfl
        have e3 : y = T[j] := by rw [← e]; simp
        rw [e3]
        by_cases hjk : j = k - 1
        · subst hjk; exact hl
        · exact hS.trans _ _ _ (List.pairwise_iff_getElem.1 hp j (k - 1) (by omega) hkl (by omega)) hl
    have hhi : ∀ y ∈ T.drop k, ltT cmpBun (x, n) y = true := by
      intro y hy
      obtain ⟨j, hj, e⟩ := List.getElem_of_mem hy
      have hj' : k + j < T.length := by simp at hj; omega
      have h4 := h3 (k + j) (by omega) hj'
      have e2 : (T.map fun y => y.1).getD (k + j) default = T[k + j].1 := by simp [List.getD, hj']
      rw [e2, bef_cmp] at h4
      have e3 : y = T[k + j] := by rw [← e]; simp
      rw [e3, (ltT_total cmpBun_ok (x := T[k + j]) (y := (x, n)) (ht _ (List.getElem_mem hj'))).1, h4]
    rw [List.pairwise_append]
    refine ⟨hp.sublist (List.take_sublist _ _), List.pairwise_cons.2 ⟨hhi, hp.sublist (List.drop_sublist _ _)⟩, fun y hy z hz => ?_⟩
    rcases List.mem_cons.1 hz with rfl | hz
    · exact hlo y hy
    · exact hS.trans _ _ _ (hlo y hy) (hhi z hz)

theorem rSort_tag (l : List Bun) : ∀ n, n ≤ l.length → ∃ T : List (Bun × Nat), T.map (fun y => y.1) = rSort (l.take n) ∧ T.Perm (l.take n).zipIdx ∧ T.Pairwise fun a b => ltT cmpBun a b = true
  | 0, _ => ⟨[], rfl, by simp, List.Pairwise.nil⟩
  | n + 1, h => by
    obtain ⟨T, h1, h2, h3⟩ := rSort_tag l n (by omega)
    have e : l.take (n + 1) = l.take n ++ [l[n]] := by rw [List.take_succ_eq_append_getElem (by omega)]
    obtain ⟨T', g1, g2, g3⟩ := rIns_tag (n := n) l[n] T h3 (fun y hy => by
      have := h2.mem_iff.1 hy
      have := List.mem_zipIdx this
      simp at this
      omega)
    refine ⟨T', by rw [g1, h1, e, rSort_snoc], ?_, g3⟩
    rw [e, List.zipIdx_append]
    refine g2.trans ((List.Perm.cons _ h2).trans ?_)
    have : (l.take n).length = n := by simp; omega
    simp [this]
    exact List.perm_append_comm (l₁ := [_])

theorem rSort_stable (l : List Bun) : rSort l = stableF cmpBun l := by
  obtain ⟨T, h1, h2, h3⟩ := rSort_tag l l.length (Nat.le_refl _)
  rw [List.take_length] at h1 h2
  have hl : T.length = l.length := by rw [h2.length_eq]; simp
  rw [← h1, ← stable_of cmpBun_ok (d := T.toArray) ?_ ?_]
  · refine ⟨by rw [size_tagd]; simpa using hl, fun i hi => ?_, ?_⟩
    · have h0 : l.length ≤ i := by omega
      rw [getElem!_neg _ _ (by simp; omega), getElem!_neg _ _ (by rw [size_tagd]; omega)]
    · have e1 : T.toArray.extract 0 l.length = T.toArray := by rw [← hl, ← List.size_toArray]; exact Array.extract_size
      have e2 : (tagd l).extract 0 l.length = tagd l := by
        have h := Array.extract_size (xs := tagd l)
        rwa [size_tagd] at h
      rw [e1, e2]
      simpa [tagd] using h2
  · intro i j _ hij hj
    rw [getElem!_pos _ i (by simp; omega), getElem!_pos _ j (by simp; omega)]
    simpa using List.pairwise_iff_getElem.1 h3 i j (by omega) (by omega) hij

def findB (s i g : Int) : List Bun → Nat → Int × Bool
  | [], k => (k, false)
  | b :: l, k => if 0 ≤ cmpId b.s b.i b.g s i g then ((k : Int), cmpId b.s b.i b.g s i g == 0) else findB s i g l (k + 1)
theorem cmpId_zero (s i g s' i' g' : Int) : cmpId s i g s' i' g' = 0 ↔ s = s' ∧ i = i' ∧ g = g' := by
  unfold cmpId
  have h1 := cmpI_spec s s'; have h2 := cmpI_spec i i'; have h3 := cmpI_spec g g'
  repeat' split
  all_goals omega
end Go.Proofs.YtoimjjhopljdmaaGreat
