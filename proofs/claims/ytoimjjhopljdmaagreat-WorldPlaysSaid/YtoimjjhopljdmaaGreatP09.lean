/- Texts ZnE RfB DkS CmY: what the claim reaches of them. Conditions stand at each theorem. -/
import Derived.Test.YtoimjjhopljdmaaGreatP08
set_option maxRecDepth 100000
set_option maxHeartbeats 8000000
namespace Go.Proofs.YtoimjjhopljdmaaGreat
open Go.RowKit
open Go.Proofs.Tryz (prog)
open Go.Value (int)
open Go.IntKind (i64)
open Go.Lib (hid)
theorem col_row {cx cy n : Int} (h0 : 0 ≤ cx) (h1 : cx < n) : (cy * n + cx) % n = cx ∧ (cy * n + cx) / n = cy := by
 have e1 : (cy * n + cx) % n = cx := by rw [Int.add_comm, Int.add_mul_emod_self_right, Int.emod_eq_of_lt h0 h1]
 have e2 : (cy * n + cx) / n = cy := by rw [Int.add_comm, Int.add_mul_ediv_right _ _ (by omega), Int.ediv_eq_zero_of_lt h0 h1, Int.zero_add]
 exact ⟨e1, e2⟩
theorem ofF_in {c : Cfg} (ho : CfgOk c) {x y : Int} (h : inW c x y = true) : ofF c x y = y / c.side * c.cols + x / c.side ∧ 0 ≤ x / c.side ∧ x / c.side < c.cols ∧ 0 ≤ y / c.side ∧ y / c.side < c.rows ∧ 0 ≤ ofF c x y ∧ ofF c x y < c.cols * c.rows := by
 have h' := h
 unfold inW at h'
 obtain ⟨x0, x1, y0, y1⟩ := of_decide_eq_true h'
 have s0 := ho.s0
 obtain ⟨a0, a1⟩ := div_rng x0 x1 (by omega)
 obtain ⟨b0, b1⟩ := div_rng y0 y1 (by omega)
 have e : ofF c x y = y / c.side * c.cols + x / c.side := by unfold ofF; rw [h, if_pos rfl]
 have hc := ho.c0
 have m0 : 0 ≤ y / c.side * c.cols := Int.mul_nonneg b0 (by omega)
 have m1 : y / c.side * c.cols ≤ (c.rows - 1) * c.cols := Int.mul_le_mul_of_nonneg_right (by omega) (by omega)
 have m2 : (c.rows - 1) * c.cols = c.cols * c.rows - c.cols := by rw [Int.sub_mul, Int.one_mul, Int.mul_comm]
 refine ⟨e, a0, a1, b0, b1, by omega, by omega⟩
theorem CfgOk.cnt {c : Cfg} (h : CfgOk c) : 1 ≤ c.cols * c.rows ∧ c.cols * c.rows ≤ 16 := by
 have h1 := Int.mul_le_mul h.c0 h.r0 (by omega) (by have := h.c0; omega)
 have h2 := Int.mul_le_mul h.c1 h.r1 (by have := h.r0; omega) (by omega)
 omega
theorem zcount_any (w : World) (b : Nat) (c : Cfg) (h : MapAt w b c) (ho : CfgOk c) :
 Calls prog 81 #[.pointer (some ⟨b, 0, none⟩)] w fun e w' => e = .returned (int i64 (c.cols * c.rows)) ∧ Below w.heap.size w w' := by
 obtain ⟨n1, n2⟩ := ho.cnt
 have hb := (Array.getElem?_eq_some_iff.1 h).1
 have h0 := h.cell 0; have h1 := h.cell 1
 simp only [List.getElem?_toArray, List.getElem?_cons_succ, List.getElem?_cons_zero] at h0 h1
 obtain ⟨z0, z1, z2⟩ := ltz hb
 have w1 : IntKind.i64.wrap (c.cols * c.rows) = c.cols * c.rows := by rw [IntKind.wrap_i64]; omega
 clear h ho
 generalize c.cols = cols at *
 generalize c.rows = rows at *
 go_enter Tryz.func81, Tryz.ntmps81
 go_wp2_with fail
 refine wpm ?_
 repeat (go_big_quiet_step (fail))
 refine wpQuiet_nil ?_
 rintro _ ⟨pn, rfl⟩
 go_wp2_with fail
 go_ret
 exact ⟨rfl, bg⟩
def zoneF (c : Cfg) (k : Int) : Int × Int × Int × Int := if 0 ≤ k ∧ k < c.cols * c.rows then (k % c.cols * c.side, k / c.cols * c.side, (k % c.cols + 1) * c.side, (k / c.cols + 1) * c.side) else (0, 0, 0, 0)
def rectV (z : Int × Int × Int × Int) : Value := .agg #[int i64 z.1, int i64 z.2.1, int i64 z.2.2.1, int i64 z.2.2.2]
theorem zone_at (c : Cfg) (h : CfgOk c) (i j : Nat) (hi : (i : Int) < c.cols) (hj : (j : Int) < c.rows) : zoneF c ((j : Int) * c.cols + i) = ((i : Int) * c.side, (j : Int) * c.side, ((i : Int) + 1) * c.side, ((j : Int) + 1) * c.side) := by
 have hc := h.c0
 have e1 : ((j : Int) * c.cols + i) % c.cols = i := by rw [Int.add_comm, Int.add_mul_emod_self_right]; exact Int.emod_eq_of_lt (by omega) hi
 have e2 : ((j : Int) * c.cols + i) / c.cols = j := by rw [Int.add_comm, Int.add_mul_ediv_right _ _ (by omega), Int.ediv_eq_zero_of_lt (by omega) hi]; omega
 have h0 : 0 ≤ (j : Int) * c.cols := Int.mul_nonneg (by omega) (by omega)
 have h1 : ((j : Int) + 1) * c.cols ≤ c.rows * c.cols := Int.mul_le_mul_of_nonneg_right (by omega) (by omega)
 rw [Int.add_mul, Int.one_mul] at h1
 unfold zoneF
 rw [if_pos ⟨by omega, by rw [Int.mul_comm c.cols]; omega⟩, e1, e2]
theorem zone_out (c : Cfg) (k : Int) (h : ¬ (0 ≤ k ∧ k < c.cols * c.rows)) : zoneF c k = (0, 0, 0, 0) := by unfold zoneF; rw [if_neg h]
theorem rzone_any (cols rows side radius speed ids queue : Int) (k : Int) (w : World) (ho : CfgOk ⟨cols, rows, side, radius, speed, ids, queue⟩) :
 Calls prog 22 #[.agg #[int i64 cols, int i64 rows, int i64 side, int i64 radius, int i64 speed, int i64 ids, int i64 queue], int i64 k] w fun e w' => e = .returned (rectV (zoneF ⟨cols, rows, side, radius, speed, ids, queue⟩ k)) ∧ Below w.heap.size w w' := by
 have HZ := hid (zone_at ⟨cols, rows, side, radius, speed, ids, queue⟩ ho)
 have HO := hid (zone_out ⟨cols, rows, side, radius, speed, ids, queue⟩ k)
 simp only at HZ HO
 obtain ⟨c0, c1, r0, r1, s0, s1, _⟩ := ho
 simp only at c0 c1 r0 r1 s0 s1
 generalize hzf : zoneF ⟨cols, rows, side, radius, speed, ids, queue⟩ = zf at *
 clear hzf
 obtain ⟨cn, rfl⟩ : ∃ cn : Nat, cols = (cn : Int) := ⟨cols.toNat, by omega⟩
 obtain ⟨rn, rfl⟩ : ∃ rn : Nat, rows = (rn : Int) := ⟨rows.toNat, by omega⟩
 go_enter Tryz.func22, Tryz.ntmps22
 go_wp2_with fail
 generalize hw1 : (w.alloc _).alloc _ = w1
 have q0 : w1.cell? ⟨w.heap.size, 0, none⟩ = some (int i64 cn) := by rw [← hw1]; simp
 have q1 : w1.cell? ⟨w.heap.size, 1, none⟩ = some (int i64 rn) := by rw [← hw1]; simp
 have q2 : w1.cell? ⟨w.heap.size, 2, none⟩ = some (int i64 side) := by rw [← hw1]; simp
 have HW := hid hw1
 clear hw1
 go_loopg [5] rn (fun kx sj wr => ∃ j : Nat, sj = int i64 j ∧ j ≤ rn ∧ rn - j ≤ kx ∧ Hid (w1 = wr) ∧ Hid (k < 0 ∨ (j : Int) * cn ≤ k))
 case atStart => exact ⟨0, by go_num, by omega, by omega, hid rfl, hid (by omega)⟩
 case round =>
  obtain ⟨j, rfl, hj, hkx, HWR, HK⟩ := hrel
  obtain rfl := HWR.out
  by_cases hlt : j < rn
  · have t1 : (j : Int) < (rn : Int) := by omega
    go_wp2_with fail
    go_loopg [6] cn (fun ky si wr => ∃ i : Nat, si = int i64 i ∧ i ≤ cn ∧ cn - i ≤ ky ∧ Hid (w1 = wr) ∧ Hid (k < 0 ∨ (j : Int) * cn + i ≤ k))
    case atStart => exact ⟨0, by go_num, by omega, by omega, hid rfl, hid (by have := HK.out; omega)⟩
    case round =>
     obtain ⟨i, rfl, hi, hky, HWR2, HK2⟩ := hrel
     obtain rfl := HWR2.out
     by_cases hlt2 : i < cn
     · have t2 : (i : Int) < (cn : Int) := by omega
       have m1 : (j : Int) * cn ≤ 3 * 4 := Int.mul_le_mul (by omega) (by omega) (by omega) (by omega)
       have m2 : 0 ≤ (j : Int) * cn := Int.mul_nonneg (by omega) (by omega)
       have v1 : IntKind.i64.wrap ((j : Int) * cn) = (j : Int) * cn := by rw [IntKind.wrap_i64]; omega
       have v2 : IntKind.i64.wrap ((j : Int) * cn + i) = (j : Int) * cn + i := by rw [IntKind.wrap_i64]; omega
       by_cases hk : (j : Int) * cn + i = k
       · have n1 : (i : Int) * side ≤ 4 * 1048576 := Int.mul_le_mul (by omega) s1 (by omega) (by omega)
         have n2 : 0 ≤ (i : Int) * side := Int.mul_nonneg (by omega) (by omega)
         have n3 : (j : Int) * side ≤ 4 * 1048576 := Int.mul_le_mul (by omega) s1 (by omega) (by omega)
         have n4 : 0 ≤ (j : Int) * side := Int.mul_nonneg (by omega) (by omega)
         have n5 : ((i : Int) + 1) * side ≤ 4 * 1048576 := Int.mul_le_mul (by omega) s1 (by omega) (by omega)
         have n6 : 0 ≤ ((i : Int) + 1) * side := Int.mul_nonneg (by omega) (by omega)
         have n7 : ((j : Int) + 1) * side ≤ 4 * 1048576 := Int.mul_le_mul (by omega) s1 (by omega) (by omega)
         have n8 : 0 ≤ ((j : Int) + 1) * side := Int.mul_nonneg (by omega) (by omega)
         have v3 : IntKind.i64.wrap ((i : Int) * side) = (i : Int) * side := by rw [IntKind.wrap_i64]; omega
         have v4 : IntKind.i64.wrap ((j : Int) * side) = (j : Int) * side := by rw [IntKind.wrap_i64]; omega
         have v5 : IntKind.i64.wrap ((i : Int) + 1) = (i : Int) + 1 := by rw [IntKind.wrap_i64]; omega
         have v6 : IntKind.i64.wrap ((j : Int) + 1) = (j : Int) + 1 := by rw [IntKind.wrap_i64]; omega
         have v7 : IntKind.i64.wrap (((i : Int) + 1) * side) = ((i : Int) + 1) * side := by rw [IntKind.wrap_i64]; omega
         have v8 : IntKind.i64.wrap (((j : Int) + 1) * side) = ((j : Int) + 1) * side := by rw [IntKind.wrap_i64]; omega
         have hz := HZ.out i j t2 t1
         rw [hk] at hz
         have HZ2 := hid hz
         have hke : ((j : Int) * cn + i == k) = true := by rw [hk]; simp
         clear hz hk n1 n2 n3 n4 n5 n6 n7 n8 m1 m2
         obtain rfl := HW.out
         go_wp2_with fail
         exact bodyPost_ret (v := rectV ((i : Int) * side, (j : Int) * side, ((i : Int) + 1) * side, ((j : Int) + 1) * side)) (by simp [results, Tryz.results22, go_sem, rectV]) rfl ⟨by rw [HZ2.out], bg⟩
       · have hke : ((j : Int) * cn + i == k) = false := by simpa using hk
         go_wp2_with fail
         go_roundg (cn - (i + 1))
         case measure => omega
         case rel => exact ⟨i + 1, by go_num, by omega, by omega, hid rfl, hid (by have := HK2.out; omega)⟩
     · have t2 : ¬ (i : Int) < (cn : Int) := by omega
       obtain rfl : i = cn := by omega
       go_wp2_with fail
       go_roundg (rn - (j + 1))
       case measure => omega
       case rel => exact ⟨j + 1, by go_num, by omega, by omega, hid rfl, hid (by have := HK2.out; rw [Int.natCast_add, Int.add_mul]; omega)⟩
  · have t1 : ¬ (j : Int) < (rn : Int) := by omega
    obtain rfl : j = rn := by omega
    have hz := HO.out (by have := HK.out; rw [Int.mul_comm] at this; omega)
    have HZ2 := hid hz
    clear hz
    obtain rfl := HW.out
    go_wp2_with fail
    exact bodyPost_ret (v := rectV (0, 0, 0, 0)) (by simp [results, Tryz.results22, go_sem, rectV]) rfl ⟨by rw [HZ2.out], bg⟩
theorem rHasR_any (z : Int × Int × Int × Int) (x y : Int) (w : World) :
 Calls prog 42 #[rectV z, int i64 x, int i64 y] w fun e w' => e = .returned (.bool (hasF z.1 z.2.1 z.2.2.1 z.2.2.2 x y)) ∧ Below w.heap.size w w' := rHas_any _ _ _ _ x y w
theorem zone_rng {c : Cfg} (ho : CfgOk c) {k : Int} (h0 : 0 ≤ k) (h1 : k < c.cols * c.rows) :
 zoneF c k = (k % c.cols * c.side, k / c.cols * c.side, k % c.cols * c.side + c.side, k / c.cols * c.side + c.side) ∧ 0 ≤ k % c.cols * c.side ∧ k % c.cols * c.side ≤ 3 * 1048576 ∧ 0 ≤ k / c.cols * c.side ∧ k / c.cols * c.side ≤ 3 * 1048576 ∧ 0 ≤ k % c.cols ∧ k % c.cols < c.cols ∧ 0 ≤ k / c.cols ∧ k / c.cols < c.rows := by
 have hc0 := ho.c0; have hc1 := ho.c1; have hr1 := ho.r1; have hs1 := ho.s1; have hs0 := ho.s0
 have i0 : 0 ≤ k % c.cols := Int.emod_nonneg _ (by omega)
 have i1 : k % c.cols < c.cols := Int.emod_lt_of_pos _ (by omega)
 have j0 : 0 ≤ k / c.cols := Int.ediv_nonneg h0 (by omega)
 have j1 : k / c.cols < c.rows := Int.ediv_lt_of_lt_mul (by omega) (by rw [Int.mul_comm]; exact h1)
 refine ⟨?_, Int.mul_nonneg i0 (by omega), Int.mul_le_mul (by omega) hs1 (by omega) (by omega), Int.mul_nonneg j0 (by omega), Int.mul_le_mul (by omega) hs1 (by omega) (by omega), i0, i1, j0, j1⟩
 unfold zoneF
 rw [if_pos ⟨h0, h1⟩, Int.add_mul, Int.one_mul, Int.add_mul, Int.one_mul]
theorem div_iff {x i s : Int} (hs : 0 < s) : (i * s ≤ x ∧ x < i * s + s) ↔ x / s = i := by
 constructor
 · rintro ⟨h0, h1⟩
   have e1 : i ≤ x / s := Int.le_ediv_of_mul_le hs h0
   have e2 : x / s < i + 1 := Int.ediv_lt_of_lt_mul hs (by rw [Int.add_mul, Int.one_mul]; exact h1)
   omega
 · rintro rfl
   have := Int.mul_ediv_add_emod x s
   have h0 := Int.emod_nonneg x (show s ≠ 0 by omega)
   have h1 := Int.emod_lt_of_pos x hs
   rw [Int.mul_comm] at this
   omega
theorem has_of {c : Cfg} (ho : CfgOk c) {k : Int} (h0 : 0 ≤ k) (h1 : k < c.cols * c.rows) (x y : Int) :
 hasF (zoneF c k).1 (zoneF c k).2.1 (zoneF c k).2.2.1 (zoneF c k).2.2.2 x y = (ofF c x y == k) := by
 obtain ⟨e, a0, a1, b0, b1, i0, i1, j0, j1⟩ := zone_rng ho h0 h1
 have hs0 := ho.s0; have hs1 := ho.s1; have hc0 := ho.c0
 obtain ⟨p1, p2, p3, p4⟩ := ho.prod
 rw [e]
 unfold hasF
 simp only
 rw [clampF_id (k % c.cols * c.side) (by omega) (by omega), clampF_id (k / c.cols * c.side) (by omega) (by omega), clampF_id (k % c.cols * c.side + c.side) (by omega) (by omega), clampF_id (k / c.cols * c.side + c.side) (by omega) (by omega)]
 have hx : (k % c.cols * c.side ≤ clampF x ∧ clampF x < k % c.cols * c.side + c.side) ↔ (k % c.cols * c.side ≤ x ∧ x < k % c.cols * c.side + c.side) := by unfold clampF; omega
 have hy : (k / c.cols * c.side ≤ clampF y ∧ clampF y < k / c.cols * c.side + c.side) ↔ (k / c.cols * c.side ≤ y ∧ y < k / c.cols * c.side + c.side) := by unfold clampF; omega
 rw [Bool.eq_iff_iff, beq_iff_eq, decide_eq_true_iff]
 constructor
 · intro h
   obtain ⟨hx0, hx1⟩ := hx.1 ⟨h.1, h.2.1⟩
   obtain ⟨hy0, hy1⟩ := hy.1 h.2.2
   have ex := (div_iff (by omega)).1 ⟨hx0, hx1⟩
   have ey := (div_iff (by omega)).1 ⟨hy0, hy1⟩
   have q1 : (k % c.cols + 1) * c.side ≤ c.cols * c.side := Int.mul_le_mul_of_nonneg_right (by omega) (by omega)
   have q2 : (k / c.cols + 1) * c.side ≤ c.rows * c.side := Int.mul_le_mul_of_nonneg_right (by omega) (by omega)
   rw [Int.add_mul, Int.one_mul] at q1 q2
   have hin : inW c x y = true := decide_eq_true ⟨by omega, by omega, by omega, by omega⟩
   unfold ofF
   rw [hin, if_pos rfl, ex, ey]
   have := Int.mul_ediv_add_emod k c.cols
   rw [Int.mul_comm] at this
   exact this
 · intro h
   cases hin : inW c x y with
   | false => unfold ofF at h; rw [hin] at h; simp at h; omega
   | true =>
     obtain ⟨e1, u0, u1, v0, v1, _⟩ := ofF_in ho hin
     rw [e1] at h
     obtain ⟨m1, m2⟩ := col_row (cy := y / c.side) u0 u1
     rw [h] at m1 m2
     have hx' := hx.2 ((div_iff (by omega)).2 m1.symm)
     have hy' := hy.2 ((div_iff (by omega)).2 m2.symm)
     exact ⟨hx'.1, hx'.2, hy'.1, hy'.2⟩
theorem of_rng {c : Cfg} (ho : CfgOk c) (x y : Int) : ofF c x y = -1 ∨ 0 ≤ ofF c x y ∧ ofF c x y < c.cols * c.rows := by
 cases hin : inW c x y with
 | false => left; unfold ofF; rw [hin]; rfl
 | true => obtain ⟨_, _, _, _, _, h⟩ := ofF_in ho hin; exact Or.inr h
theorem rof_any (cols rows side radius speed ids queue : Int) (x y : Int) (w : World) (ho : CfgOk ⟨cols, rows, side, radius, speed, ids, queue⟩) :
 Calls prog 15 #[.agg #[int i64 cols, int i64 rows, int i64 side, int i64 radius, int i64 speed, int i64 ids, int i64 queue], int i64 x, int i64 y] w fun e w' => e = .returned (int i64 (ofF ⟨cols, rows, side, radius, speed, ids, queue⟩ x y)) ∧ Below w.heap.size w w' := by
 have HZ := hid (fun k W => rzone_any cols rows side radius speed ids queue k W ho)
 have HA := hid (fun k h0 h1 => has_of ho (k := k) h0 h1 x y)
 have HR := hid (of_rng ho x y)
 obtain ⟨n1, n2⟩ := ho.cnt
 simp only at n1 n2 HR HA
 clear ho
 generalize hr : ofF ⟨cols, rows, side, radius, speed, ids, queue⟩ x y = r at *
 generalize hzf : zoneF ⟨cols, rows, side, radius, speed, ids, queue⟩ = zf at *
 clear hr hzf
 obtain ⟨cnt, hcnt⟩ : ∃ cnt : Nat, cols * rows = (cnt : Int) := ⟨(cols * rows).toNat, by omega⟩
 rw [hcnt] at n1 n2 HR HA
 have v1 : IntKind.i64.wrap (cols * rows) = (cnt : Int) := by rw [hcnt, IntKind.wrap_i64]; omega
 clear hcnt
 go_enter Tryz.func15, Tryz.ntmps15
 go_wp2_with fail
 go_loopg [7] cnt (fun kx sx wr => ∃ k : Nat, sx = int i64 k ∧ k ≤ cnt ∧ cnt - k ≤ kx ∧ Hid (Below w.heap.size w wr) ∧ w.heap.size < wr.heap.size ∧ Hid (∀ u, wr.cell? ⟨w.heap.size, u, none⟩ = (#[int i64 cols, int i64 rows, int i64 side, int i64 radius, int i64 speed, int i64 ids, int i64 queue] : Array Value)[u]?) ∧ Hid (r < 0 ∨ (k : Int) ≤ r))
 case atStart => exact ⟨0, by go_num, by omega, by omega, hid bg, by simp, hid (fun u => by simp), hid (by omega)⟩
 case round =>
  obtain ⟨k, rfl, hk, hkx, HW, hsz, HB, HK⟩ := hrel
  obtain ⟨z0, z1, z2⟩ := ltw hsz
  have y0 := HB.out 0; simp at y0
  have y1 := HB.out 1; simp at y1
  have y2 := HB.out 2; simp at y2
  have y3 := HB.out 3; simp at y3
  have y4 := HB.out 4; simp at y4
  have y5 := HB.out 5; simp at y5
  have y6 := HB.out 6; simp at y6
  by_cases hlt : k < cnt
  · have t1 : (k : Int) < (cnt : Int) := by omega
    have ha := HA.out k (by omega) t1
    have HH := hid (fun W => rHasR_any (zf k) x y W)
    rw [ha] at HH
    have HZK := hid (HZ.out k)
    clear ha
    generalize zf (k : Int) = zk at *
    cases he : (r == (k : Int)) with
    | true =>
      have hrk : r = (k : Int) := by simpa using he
      have HRK := hid hrk
      rw [he] at HH
      clear he hrk
      go_wp2_with fail
      refine belA (HZK.out _) fun d1 os1 => ?_
      go_wp2_with fail
      refine belA (HH.out _) fun d2 os2 => ?_
      go_wp2_with fail
      go_ret
      exact ⟨ret_int HRK.out.symm, HW.out.trans (Below.mono (B := wr.heap.size) bg HW.out.size)⟩
    | false =>
      have hrk : ¬ r = (k : Int) := by simpa using he
      have HRK := hid hrk
      rw [he] at HH
      clear he hrk
      go_wp2_with fail
      refine belA (HZK.out _) fun d1 os1 => ?_
      go_wp2_with fail
      refine belA (HH.out _) fun d2 os2 => ?_
      go_wp2_with fail
      go_roundg (cnt - (k + 1))
      case measure => omega
      case rel => exact ⟨k + 1, by go_num, by omega, by omega, hid (HW.out.trans (Below.mono (B := wr.heap.size) bg HW.out.size)), by simp; omega, hid (fun u => by rw [← HB.out u]; exact Below.cell (B := wr.heap.size) bg (by simpa using hsz)), hid (by have := HK.out; have := HRK.out; omega)⟩
  · have t1 : ¬ (k : Int) < (cnt : Int) := by omega
    obtain rfl : k = cnt := by omega
    have hr1 : r = -1 := by have h1 := HK.out; have h2 := HR.out; omega
    have HR1 := hid hr1
    clear hr1
    go_wp2_with fail
    go_ret
    exact ⟨ret_int HR1.out.symm, HW.out⟩
section
theorem endsF_step (q : List Cm) (s i g : Int) {k : Nat} {m : Cm} (h : q[k]? = some m) : endsF (q.take (k + 1)) s i g = (endsF (q.take k) s i g || (m.k == 2 && idEq m.s m.i m.g s i g)) := by
 have hlt := (List.getElem?_eq_some_iff.1 h).1
 unfold endsF
 rw [List.take_succ_eq_append_getElem hlt, (List.getElem?_eq_some_iff.1 h).2, List.any_append]
 simp
theorem endsF_found (q : List Cm) (s i g : Int) {k : Nat} {m : Cm} (h : q[k]? = some m) (hm : (m.k == 2 && idEq m.s m.i m.g s i g) = true) : endsF q s i g = true := List.any_eq_true.2 ⟨m, List.mem_of_getElem? h, hm⟩
section
variable (w : World) (r : RDLay) (c : Cfg) (kk : Int) (D : Dk)
theorem rends_any (h : RDeskAt w r c kk D) (s i g : Int) : Calls prog 114 #[.pointer (some ⟨r.p, 0, none⟩), .agg #[int i64 s, int i64 i, int i64 g]] w fun e w' => e = .returned (.bool (endsF D.q s i g)) ∧ Below w.heap.size w w' := by
 have c8 := h.cell 8
 simp [rdeskC] at c8
 have hlt := lt_of_heap h.box
 have HQ := hid (RIn.of_sl h.q)
 obtain ⟨p, cap, hv⟩ := sl_frm h.q
 rw [hv] at c8 HQ
 have hbnd : D.q.length ≤ maxLen := by obtain ⟨_, _, _, h1, _⟩ := HQ.out; exact h1
 unfold maxLen at hbnd
 have HST := hid (fun k m hm => endsF_step D.q s i g (k := k) (m := m) hm)
 have HFD := hid (fun k m hm => endsF_found D.q s i g (k := k) (m := m) hm)
 have h0 : endsF ([] : List Cm) s i g = false := rfl
 clear h hv
 generalize D.q = q at *
 go_enter Tryz.func114, Tryz.ntmps114
 go_wp2_with fail
 generalize hw1 : World.alloc w _ = w1
 have hb1 : Below w.heap.size w w1 := by rw [← hw1]; exact bg
 have s1 : w.heap.size < w1.heap.size := by rw [← hw1]; simp
 have u0 : w1.cell? ⟨w.heap.size, 0, none⟩ = some (int i64 s) := by rw [← hw1]; simp
 have u1 : w1.cell? ⟨w.heap.size, 1, none⟩ = some (int i64 i) := by rw [← hw1]; simp
 have u2 : w1.cell? ⟨w.heap.size, 2, none⟩ = some (int i64 g) := by rw [← hw1]; simp
 replace c8 := (hb1.cell (p := ⟨r.p, 8, none⟩) hlt).trans c8
 replace hlt : r.p < w1.heap.size := Nat.lt_of_lt_of_le hlt hb1.size
 replace HQ := hid (HQ.out.keep hb1)
 have HB1 := hid hb1
 clear hw1 hb1
 go_loopw [5] (fun x wr => ∃ k : Nat, k ≤ q.length ∧ x = int i64 k ∧ Hid (Below w1.heap.size w1 wr) ∧ Hid (endsF (q.take k) s i g = false)) (fun x _ => q.length - (intOf x).toNat)
 case atStart => exact ⟨0, Nat.zero_le _, rfl, hid (Below.refl _ _), hid (by simpa using h0)⟩
 case round =>
  obtain ⟨k, hk, rfl, hB, hE⟩ := hrel
  obtain ⟨wo, rfl⟩ : ∃ wo : World, wo = wr := ⟨_, rfl⟩
  have hI : 0 ≤ (k : Int) := Int.natCast_nonneg k
  have c8o := (hB.out.cell (p := ⟨r.p, 8, none⟩) hlt).trans c8
  have v0 := (hB.out.cell (p := ⟨w.heap.size, 0, none⟩) s1).trans u0
  have v1 := (hB.out.cell (p := ⟨w.heap.size, 1, none⟩) s1).trans u1
  have v2 := (hB.out.cell (p := ⟨w.heap.size, 2, none⟩) s1).trans u2
  have l1 := Nat.lt_of_lt_of_le hlt hB.out.size
  have l2 := Nat.lt_of_lt_of_le s1 hB.out.size
  obtain ⟨z0, z1, z2⟩ := ltz l1
  obtain ⟨z3, z4, z5⟩ := ltz l2
  by_cases hlt2 : k < q.length
  · obtain ⟨m, hm⟩ : ∃ m, q[k]? = some m := ⟨_, List.getElem?_eq_getElem hlt2⟩
    have hst := HST.out k m hm
    have hfd := HFD.out k m hm
    rw [hE.out] at hst
    obtain ⟨blk, off, cap', hve, hb, hcx⟩ := (HQ.out.keep hB.out).cells cmC_len hm
    simp only [Value.slice.injEq, true_and] at hve
    obtain ⟨rfl, rfl⟩ := hve
    obtain ⟨mk, ms, mi, mg, mb, mm⟩ := m
    have q0 := hcx 0 _ rfl
    have q1 := hcx 1 _ rfl
    have q2 := hcx 2 _ rfl
    have q3 := hcx 3 _ rfl
    rw [Nat.add_zero] at q0
    simp only at q0 q1 q2 q3 hst hfd
    obtain ⟨y0, y1, y2⟩ := ltz hb
    have t1 : (k : Int) < (q.length : Int) := by omega
    clear hcx hm
    cases h2 : (mk == 2) with
    | false =>
      rw [h2] at hst
      have HS := hid hst
      clear hst hfd u0 u1 u2 c8
      go_wp2_with fail
      refine wpm ?_
      repeat (go_big_quiet_step (fail))
      refine wpQuiet_nil ?_
      rintro _ ⟨pn, rfl⟩
      go_wp2_with fail
      go_roundw
      case rel => exact ⟨k + 1, hlt2, by go_num, hid (hB.out.trans (Below.mono (B := wo.heap.size) bg hB.out.size)), hid (by rw [HS.out]; rfl)⟩
      case measure => simp [intOf]; omega
    | true =>
      cases h3 : idEq ms mi mg s i g with
      | false =>
        rw [h2, h3] at hst
        have HS := hid hst
        clear hst hfd u0 u1 u2 c8
        go_wp2_with fail
        refine wpm ?_
        repeat (go_big_quiet_step (fail))
        refine wpQuiet_nil ?_
        rintro _ ⟨pn, rfl⟩
        go_wp2_with fail
        go_roundw
        case rel => exact ⟨k + 1, hlt2, by go_num, hid (hB.out.trans (Below.mono (B := wo.heap.size) bg hB.out.size)), hid (by rw [HS.out]; rfl)⟩
        case measure => simp [intOf]; omega
      | true =>
        rw [h2, h3] at hfd
        have HS := hid (hfd rfl)
        clear hst hfd u0 u1 u2 c8
        go_wp2_with fail
        refine wpm ?_
        repeat (go_big_quiet_step (fail))
        refine wpQuiet_nil ?_
        rintro _ ⟨pn, rfl⟩
        go_wp2_with fail
        go_ret
        exact ⟨by rw [HS.out]; rfl, HB1.out.trans (Below.mono (B := w1.heap.size) (hB.out.trans (Below.mono (B := wo.heap.size) bg hB.out.size)) HB1.out.size)⟩
  · obtain rfl : k = q.length := by omega
    have HS := hid hE.out
    rw [List.take_length] at HS
    go_wp2_with fail
    go_ret
    exact ⟨by rw [HS.out]; rfl, HB1.out.trans (Below.mono (B := w1.heap.size) hB.out HB1.out.size)⟩
end
end
theorem RDeskAt.at1 {w w1 : World} {r : RDLay} {c : Cfg} {kk : Int} {D : Dk} (h : RDeskAt w r c kk D) (hb1 : Below w.heap.size w w1) : ∃ p cap, w1.cell? ⟨r.p, 0, none⟩ = some (int i64 c.cols) ∧ w1.cell? ⟨r.p, 1, none⟩ = some (int i64 c.rows) ∧ w1.cell? ⟨r.p, 2, none⟩ = some (int i64 c.side) ∧ w1.cell? ⟨r.p, 3, none⟩ = some (int i64 c.radius) ∧ w1.cell? ⟨r.p, 4, none⟩ = some (int i64 c.speed) ∧ w1.cell? ⟨r.p, 5, none⟩ = some (int i64 c.ids) ∧ w1.cell? ⟨r.p, 6, none⟩ = some (int i64 c.queue) ∧
 w1.cell? ⟨r.p, 7, none⟩ = some (.pointer (some ⟨r.R.p, 0, none⟩)) ∧ w1.cell? ⟨r.p, 8, none⟩ = some (.slice p D.q.length cap) ∧ r.p < w1.heap.size := by
 have hlt := lt_of_heap h.box
 have c0 := h.cell 0; have c1 := h.cell 1; have c2 := h.cell 2; have c3 := h.cell 3; have c4 := h.cell 4; have c5 := h.cell 5; have c6 := h.cell 6; have c7 := h.cell 7; have c8 := h.cell 8
 simp [rdeskC] at c0 c1 c2 c3 c4 c5 c6 c7 c8
 obtain ⟨p, cap, hv⟩ := sl_frm h.q
 rw [hv] at c8
 have hz := hb1.size
 exact ⟨p, cap, (hb1.cell (p := ⟨r.p, 0, none⟩) hlt).trans c0, (hb1.cell (p := ⟨r.p, 1, none⟩) hlt).trans c1, (hb1.cell (p := ⟨r.p, 2, none⟩) hlt).trans c2, (hb1.cell (p := ⟨r.p, 3, none⟩) hlt).trans c3, (hb1.cell (p := ⟨r.p, 4, none⟩) hlt).trans c4, (hb1.cell (p := ⟨r.p, 5, none⟩) hlt).trans c5, (hb1.cell (p := ⟨r.p, 6, none⟩) hlt).trans c6, (hb1.cell (p := ⟨r.p, 7, none⟩) hlt).trans c7, (hb1.cell (p := ⟨r.p, 8, none⟩) hlt).trans c8, by omega⟩
end Go.Proofs.YtoimjjhopljdmaaGreat
