/-
  Package zones: Of, Count, Beside. Condition: the world may be.
  Package zones: Count, Beside of a zone that there is. Condition: the world may be.
  Package zones: Beside of a zone that there is not. Condition: the world may be.
-/
import Derived.Test.YtcnclcfipabimaaMca
import Derived.Test.YtcnclcfipabimaaSyC
import Derived.Test.YtcnclcfipabimaaMsl
import Derived.Test.YtcnclcfipabimaaMhc
namespace Go.Proofs.Ytcnclcfipabimaa
open Go.RowKit

theorem ltz {a W : Nat} (h : a < W) : (∀ n, a < W + n) ∧ (∀ n m, a < W + n + m) ∧ (∀ n m q, a < W + n + m + q) := ⟨fun _ => by omega, fun _ _ => by omega, fun _ _ _ => by omega⟩
/-- The zone of a point; -1 outside of the world. -/
def inW (c : Cfg) (x y : Int) : Bool := decide (0 ≤ x ∧ x < c.cols * c.side ∧ 0 ≤ y ∧ y < c.rows * c.side)
def ofF (c : Cfg) (x y : Int) : Int := if inW c x y then y / c.side * c.cols + x / c.side else -1

theorem div_rng {x n s : Int} (h0 : 0 ≤ x) (h1 : x < n * s) (hs : 0 < s) : 0 ≤ x / s ∧ x / s < n := ⟨Int.ediv_nonneg h0 (by omega), Int.ediv_lt_of_lt_mul hs h1⟩

set_option maxRecDepth 100000 in
set_option maxHeartbeats 1000000 in
theorem zof_any (w : World) (b : Nat) (c : Cfg) (x y : Int) (h : MapAt w b c) (ho : CfgOk c) :
    Calls Try.prog 53 #[.pointer (some ⟨b, 0, none⟩), .int .i64 x, .int .i64 y] w fun e w' => e = .returned (.int .i64 (ofF c x y)) ∧ Below w.heap.size w w' := by
  obtain ⟨p1, p2, p3, p4⟩ := ho.prod
  have hb := (Array.getElem?_eq_some_iff.1 h).1
  have hg := gapF_world (c.cols * c.side) (c.rows * c.side) x y (by omega) (by omega) (by omega) (by omega)
  have h0 := h.cell 0; have h2 := h.cell 2; have h7 := h.cell 7; have h8 := h.cell 8; have h9 := h.cell 9; have h10 := h.cell 10
  simp only [List.getElem?_toArray, List.getElem?_cons_succ, List.getElem?_cons_zero] at h0 h2 h7 h8 h9 h10
  have HH := Lib.hid (fun W => rhas_any 0 0 (c.cols * c.side) (c.rows * c.side) x y W)
  have s0 := ho.s0
  have s1 := ho.s1
  have k0 := ho.c0
  have k1 := ho.c1
  have r1 := ho.r1
  unfold ofF
  unfold inW
  rw [hg] at HH
  obtain ⟨z0, z1, z2⟩ := ltz hb
  by_cases hw : 0 ≤ x ∧ x < c.cols * c.side ∧ 0 ≤ y ∧ y < c.rows * c.side
  · have hd : decide (0 ≤ x ∧ x < c.cols * c.side ∧ 0 ≤ y ∧ y < c.rows * c.side) = true := decide_eq_true hw
    rw [hd] at HH ⊢
    rw [if_pos rfl]
    obtain ⟨x0, x1, y0, y1⟩ := hw
    obtain ⟨dx0, dx1⟩ := div_rng x0 x1 (by omega)
    obtain ⟨dy0, dy1⟩ := div_rng y0 y1 (by omega)
    have ey : Int.tdiv y c.side = y / c.side := Int.tdiv_eq_ediv_of_nonneg y0
    have ex : Int.tdiv x c.side = x / c.side := Int.tdiv_eq_ediv_of_nonneg x0
    have hm0 : 0 ≤ y / c.side * c.cols := Int.mul_nonneg dy0 (by omega)
    have hm1 : y / c.side * c.cols ≤ 3 * 4 := Int.mul_le_mul (by omega) k1 (by omega) (by omega)
    clear hd hg h ho
    generalize hcs : c.cols * c.side = cs at *
    generalize hrs : c.rows * c.side = rs at *
    generalize y / c.side = qy at *
    generalize x / c.side = qx at *
    generalize c.side = side at *
    generalize hcc : c.cols = cols at *
    have w1 : IntKind.i64.wrap qy = qy := by rw [IntKind.wrap_i64]; omega
    have w2 : IntKind.i64.wrap qx = qx := by rw [IntKind.wrap_i64]; omega
    have w3 : IntKind.i64.wrap (qy * cols) = qy * cols := by rw [IntKind.wrap_i64]; omega
    have w4 : IntKind.i64.wrap (qy * cols + qx) = qy * cols + qx := by rw [IntKind.wrap_i64]; omega
    have hne : side ≠ 0 := by omega
    go_enter Try.func53, Try.ntmps53
    go_wp2_with (go_at_call 97; refine (HH.out _).mono ?_; rintro e w' ⟨rfl, hb⟩; obtain ⟨d, os, rfl⟩ := more_of hb; clear hb)
    refine wp_region_more (by kernel_rfl) (by kernel_rfl) ?_
    repeat (go_big_quiet_step (fail))
    refine wpQuiet_nil ?_
    rintro _ ⟨pn, rfl⟩
    go_wp2_with fail
    go_ret
    exact ⟨rfl, (by repeat' (first | (with_reducible exact Below.refl _ _) | (with_reducible assumption) | (with_reducible refine below_drewN ?_ _) | (with_reducible refine below_more _ _ _ ?_ ?_) | (with_reducible refine Below.alloc ?_ ?_ _) | (with_reducible refine Below.drew ?_) | (with_reducible refine Below.setCell ?_ ?_ _) | go_size))⟩
  · have hd : decide (0 ≤ x ∧ x < c.cols * c.side ∧ 0 ≤ y ∧ y < c.rows * c.side) = false := decide_eq_false hw
    rw [hd] at HH ⊢
    simp only [Bool.false_eq_true, if_false]
    clear hd hw hg h ho
    generalize hcs : c.cols * c.side = cs at *
    generalize hrs : c.rows * c.side = rs at *
    go_enter Try.func53, Try.ntmps53
    go_wp2_with (go_at_call 97; refine (HH.out _).mono ?_; rintro e w' ⟨rfl, hb⟩; obtain ⟨d, os, rfl⟩ := more_of hb; clear hb)
    go_ret
    exact ⟨rfl, (by repeat' (first | (with_reducible exact Below.refl _ _) | (with_reducible assumption) | (with_reducible refine below_drewN ?_ _) | (with_reducible refine below_more _ _ _ ?_ ?_) | (with_reducible refine Below.alloc ?_ ?_ _) | (with_reducible refine Below.drew ?_) | (with_reducible refine Below.setCell ?_ ?_ _) | go_size))⟩
end Go.Proofs.Ytcnclcfipabimaa
namespace Go.Proofs.Ytcnclcfipabimaa
open Go.RowKit

def intL (z : Int) : List Value := [.int .i64 z]
theorem intL_len (z : Int) : (intL z).length = 1 := rfl
theorem intL_one (z : Int) : ∀ v ∈ intL z, v.oneCell' = true := fun v hv => by
  simp [intL] at hv; subst hv; rfl
theorem info_intJ : (Try.prog.info? 3).map (fun i => (i.zero, i.size, i.bytes)) = some (some (.int .i64 0), 1, 8) := by kernel_rfl

theorem CfgOk.cnt {c : Cfg} (h : CfgOk c) : 1 ≤ c.cols * c.rows ∧ c.cols * c.rows ≤ 16 := by
  have h1 := Int.mul_le_mul h.c0 h.r0 (by omega) (by have := h.c0; omega)
  have h2 := Int.mul_le_mul h.c1 h.r1 (by have := h.r0; omega) (by omega)
  omega

theorem zcount_any (w : World) (b : Nat) (c : Cfg) (h : MapAt w b c) (ho : CfgOk c) :
    Calls Try.prog 49 #[.pointer (some ⟨b, 0, none⟩)] w fun e w' => e = .returned (.int .i64 (c.cols * c.rows)) ∧ Below w.heap.size w w' := by
  obtain ⟨n1, n2⟩ := ho.cnt
  have hb := (Array.getElem?_eq_some_iff.1 h).1
  have h0 := h.cell 0; have h1 := h.cell 1
  simp only [List.getElem?_toArray, List.getElem?_cons_succ, List.getElem?_cons_zero] at h0 h1
  obtain ⟨z0, z1, z2⟩ := ltz hb
  have w1 : IntKind.i64.wrap (c.cols * c.rows) = c.cols * c.rows := by rw [IntKind.wrap_i64]; omega
  clear h ho
  generalize c.cols = cols at *
  generalize c.rows = rows at *
  go_enter Try.func49, Try.ntmps49
  go_wp2_with fail
  refine wp_region_more (by kernel_rfl) (by kernel_rfl) ?_
  repeat (go_big_quiet_step (fail))
  refine wpQuiet_nil ?_
  rintro _ ⟨pn, rfl⟩
  go_wp2_with fail
  go_ret
  exact ⟨rfl, (by repeat' (first | (with_reducible exact Below.refl _ _) | (with_reducible assumption) | (with_reducible refine below_drewN ?_ _) | (with_reducible refine below_more _ _ _ ?_ ?_) | (with_reducible refine Below.alloc ?_ ?_ _) | (with_reducible refine Below.drew ?_) | (with_reducible refine Below.setCell ?_ ?_ _) | go_size))⟩

/-- Lies zone i beside zone k? -/
def nextB (cols k i : Int) : Bool := !(i == k) && (max (i % cols - k % cols) (max (-(i % cols - k % cols)) (max (i / cols - k / cols) (-(i / cols - k / cols)))) == 1)
def besideF (c : Cfg) (k : Int) : List Int := ((List.range (c.cols * c.rows).toNat).map fun i : Nat => (i : Int)).filter (nextB c.cols k)
def besTo (cols k : Int) (n : Nat) : List Int := ((List.range n).map fun i : Nat => (i : Int)).filter (nextB cols k)
theorem besTo_succ (cols k : Int) (n : Nat) : besTo cols k (n + 1) = besTo cols k n ++ (if nextB cols k n then [(n : Int)] else []) := by
  unfold besTo
  rw [List.range_succ, List.map_append, List.filter_append]
  congr 1
  cases h : nextB cols k n <;> simp [h]

set_option maxRecDepth 100000 in
set_option maxHeartbeats 1000000 in
theorem beside_in (w : World) (b : Nat) (c : Cfg) (k : Int) (h : MapAt w b c) (ho : CfgOk c) (hk0 : 0 ≤ k) (hk1 : k < c.cols * c.rows) :
    Calls Try.prog 52 #[.pointer (some ⟨b, 0, none⟩), .int .i64 k] w fun e w' => ∃ v', e = .returned v' ∧ RNew intL 3 1 w w' v' (besideF c k) := by
  obtain ⟨i0, hi0, hz0, hz1, hz2⟩ := info_parts info_intJ
  obtain ⟨n1, n2⟩ := ho.cnt
  have HM := Lib.hid h
  have hb := (Array.getElem?_eq_some_iff.1 h).1
  have h0 := h.cell 0
  simp only [List.getElem?_toArray, List.getElem?_cons_zero] at h0
  have k0 := ho.c0
  have k1 := ho.c1
  have hbf : besideF c k = besTo c.cols k (c.cols * c.rows).toNat := rfl
  rw [hbf]
  obtain ⟨cnt, hcnt⟩ : ∃ cnt : Nat, c.cols * c.rows = (cnt : Int) := ⟨(c.cols * c.rows).toNat, by omega⟩
  have hc16 : cnt ≤ 16 := by omega
  have HC := Lib.hid (fun W hW => by have := zcount_any W b c (h.grow hW) ho; rw [hcnt] at this; exact this)
  rw [hcnt] at hk1 n1 n2 ⊢
  rw [Int.toNat_natCast]
  clear h ho hbf
  generalize c.cols = cols at *
  have hq0 : 0 ≤ k % cols ∧ k % cols < cols := ⟨Int.emod_nonneg _ (by omega), Int.emod_lt_of_pos _ (by omega)⟩
  have hq1 : 0 ≤ k / cols ∧ k / cols ≤ 16 := ⟨Int.ediv_nonneg hk0 (by omega), by have := Int.ediv_le_self cols hk0; omega⟩
  have HCN := Lib.hid hcnt
  clear hcnt
  go_enter Try.func52, Try.ntmps52
  go_wp2_with fail
  refine (HC.out _ (Below.refl _ _)).mono ?_; rintro e w1 ⟨rfl, hb1⟩
  have hbw : b < w1.heap.size := Nat.lt_of_lt_of_le hb hb1.size
  have h01 := (hb1.cell (p := ⟨b, 0, none⟩) hb).trans h0
  have HB1 := Lib.hid hb1
  clear hb1
  go_wp2_with fail
  go_loopg [11, 5] cnt (fun kx sx so wr => ∃ i : Nat, sx = .int .i64 i ∧ i ≤ cnt ∧ cnt - i ≤ kx ∧ Hid (RNew intL 3 1 w1 wr so (besTo cols k i)) ∧ Hid ((besTo cols k i).length ≤ i))
  case atStart => exact ⟨0, by go_num, by omega, by omega, Lib.hid (RNew.nil w1), Lib.hid (by simp [besTo])⟩
  case round =>
    obtain ⟨i, rfl, hi, hkx, HN, HL⟩ := hrel
    obtain ⟨wa, rfl⟩ : ∃ wa : World, wa = wr := ⟨_, rfl⟩
    by_cases hlt : i < cnt
    · have t1 : (i : Int) < (cnt : Int) := by omega
      have hi0' : (0 : Int) ≤ (i : Int) := Int.natCast_nonneg i
      have r0 : 0 ≤ (i : Int) % cols ∧ (i : Int) % cols < cols := ⟨Int.emod_nonneg _ (by omega), Int.emod_lt_of_pos _ (by omega)⟩
      have r1 : 0 ≤ (i : Int) / cols ∧ (i : Int) / cols ≤ 16 := ⟨Int.ediv_nonneg hi0' (by omega), by have := Int.ediv_le_self cols hi0'; omega⟩
      have HST := Lib.hid (besTo_succ cols k i)
      obtain ⟨dx, hdx⟩ : ∃ dx : Int, (i : Int) % cols - k % cols = dx := ⟨_, rfl⟩
      obtain ⟨dy, hdy⟩ : ∃ dy : Int, (i : Int) / cols - k / cols = dy := ⟨_, rfl⟩
      have hnb : nextB cols k i = (!((i : Int) == k) && (max dx (max (-dx) (max dy (-dy))) == 1)) := by unfold nextB; rw [hdx, hdy]
      have HNB := Lib.hid hnb
      have bx : -16 ≤ dx ∧ dx ≤ 16 := by omega
      have by' : -16 ≤ dy ∧ dy ≤ 16 := by omega
      have HD := Lib.hid (And.intro hdx hdy)
      clear hdx hdy
      obtain ⟨po, co, hpo⟩ := sl_frm HN.out.1
      subst hpo
      have h02 := (HN.out.2.1.cell (p := ⟨b, 0, none⟩) hbw).trans h01
      have hba : b < wa.heap.size := Nat.lt_of_lt_of_le hbw HN.out.2.1.size
      obtain ⟨z0, z1, z2⟩ := ltz hba
      have e1 : Int.tmod (i : Int) cols = (i : Int) % cols := Int.tmod_eq_emod_of_nonneg hi0'
      have e2 : Int.tmod k cols = k % cols := Int.tmod_eq_emod_of_nonneg hk0
      have e3 : Int.tdiv (i : Int) cols = (i : Int) / cols := Int.tdiv_eq_ediv_of_nonneg hi0'
      have e4 : Int.tdiv k cols = k / cols := Int.tdiv_eq_ediv_of_nonneg hk0
      generalize hacc : besTo cols k i = acc at *
      have hal := HL.out
      clear hnb HL hacc
      have HC2 := Lib.hid (fun W (hW : Below wa.heap.size wa W) => HC.out W ((HB1.out.trans (HN.out.2.1.mono HB1.out.size)).trans (hW.mono (by have := HB1.out.size; have := HN.out.2.1.size; omega))))
      have w1' : IntKind.i64.wrap ((i : Int) % cols - k % cols) = (i : Int) % cols - k % cols := by rw [IntKind.wrap_i64]; omega
      have w2' : IntKind.i64.wrap ((i : Int) / cols - k / cols) = (i : Int) / cols - k / cols := by rw [IntKind.wrap_i64]; omega
      have w3' : IntKind.i64.wrap ((i : Int) / cols) = (i : Int) / cols := by rw [IntKind.wrap_i64]; omega
      have w4' : IntKind.i64.wrap (k / cols) = k / cols := by rw [IntKind.wrap_i64]; omega
      have hne : cols ≠ 0 := by omega
      go_upto_region 5 with fail
      go_cut [7, 8] (fun x y wx => x = .int .i64 dx ∧ y = .int .i64 dy ∧ Below wa.heap.size wa wx)
      case first =>
        refine wp_region_more (by kernel_rfl) (by kernel_rfl) ?_
        repeat (go_big_quiet_step (fail))
        refine wpQuiet_nil ?_
        rintro _ ⟨pn, rfl⟩
        go_wp2_with fail
        go_meet
        exact ⟨by rw [← HD.out.1], by rw [← HD.out.2], (by repeat' (first | (with_reducible exact Below.refl _ _) | (with_reducible assumption) | (with_reducible refine below_drewN ?_ _) | (with_reducible refine below_more _ _ _ ?_ ?_) | (with_reducible refine Below.alloc ?_ ?_ _) | (with_reducible refine Below.drew ?_) | (with_reducible refine Below.setCell ?_ ?_ _) | go_size))⟩
      obtain ⟨rfl, rfl, hbc⟩ := hcut
      have HBC := Lib.hid hbc
      have hzc := hbc.size
      clear hbc e1 e2 e3 e4 w1' w2' w3' w4' r0 r1
      cases h1 : ((i : Int) == k) with
      | true =>
        have hne2 : ((i : Int) != k) = false := by simp at h1 ⊢; exact h1
        rw [h1] at HNB
        have he : nextB cols k i = false := by rw [HNB.out]; rfl
        rw [he] at HST
        have HS2 := Lib.hid HST.out
        clear he HST HNB h1
        go_wp2_with fail
        refine (HC2.out _ HBC.out).mono ?_; rintro e w2 ⟨rfl, hb2⟩
        have HB2 := Lib.hid hb2
        clear hb2
        go_wp2_with fail
        go_roundg (cnt - (i + 1))
        case measure => omega
        case rel => exact ⟨i + 1, by go_num, by omega, by omega, Lib.hid (by rw [HS2.out]; simpa using HN.out.grow (HBC.out.trans (HB2.out.mono hzc))), Lib.hid (by rw [HS2.out]; simp; omega)⟩
      | false =>
        have hne2 : ((i : Int) != k) = true := by simp at h1 ⊢; exact h1
        have hnn : ¬ (i : Int) = k := by simpa using h1
        rw [h1] at HNB
        cases h2 : (max dx (max (-dx) (max dy (-dy))) == 1) with
        | false =>
          rw [h2] at HNB
          have he : nextB cols k i = false := by rw [HNB.out]; rfl
          rw [he] at HST
          have HS2 := Lib.hid HST.out
          clear he HST HNB h1
          go_wp2_with fail
          refine (HC2.out _ HBC.out).mono ?_; rintro e w2 ⟨rfl, hb2⟩
          have HB2 := Lib.hid hb2
          clear hb2
          go_wp2_with fail
          go_roundg (cnt - (i + 1))
          case measure => omega
          case rel => exact ⟨i + 1, by go_num, by omega, by omega, Lib.hid (by rw [HS2.out]; simpa using HN.out.grow (HBC.out.trans (HB2.out.mono hzc))), Lib.hid (by rw [HS2.out]; simp; omega)⟩
        | true =>
          rw [h2] at HNB
          have he : nextB cols k i = true := by rw [HNB.out]; rfl
          rw [he] at HST
          have HS2 := Lib.hid HST.out
          clear he HST HNB h1
          go_wp2_with fail
          refine (HC2.out _ HBC.out).mono ?_; rintro e w2 ⟨rfl, hb2⟩
          have HN2 := Lib.hid (HN.out.grow (HBC.out.trans (hb2.mono hzc)))
          clear hb2
          go_wp2_with (at_builtin; refine wpList_append_sl _ (by rfl) _ _ 53 (by rfl) 3 i0 _ 1 8 Try.underlying53 hi0 hz0 hz1 hz2 rfl (by omega) _ acc.length (cellsR intL acc) (by rfl) (HN2.out.grow (by repeat' (first | (with_reducible exact Below.refl _ _) | (with_reducible assumption) | (with_reducible refine below_drewN ?_ _) | (with_reducible refine below_more _ _ _ ?_ ?_) | (with_reducible refine Below.alloc ?_ ?_ _) | (with_reducible refine Below.drew ?_) | (with_reducible refine Below.setCell ?_ ?_ _) | go_size))).1 ⟨_, 0, none⟩ 1 1 (intL i) (by rfl) (by rfl) (new_cellsN _ _ _ _ (by simp)) (intL_one _) (by omega) (by unfold maxLen; omega) (by omega) ?_; intro v' w4 hs4 ht4 ho4)
          have hm := (HN2.out.grow (by repeat' (first | (with_reducible exact Below.refl _ _) | (with_reducible assumption) | (with_reducible refine below_drewN ?_ _) | (with_reducible refine below_more _ _ _ ?_ ?_) | (with_reducible refine Below.alloc ?_ ?_ _) | (with_reducible refine Below.drew ?_) | (with_reducible refine Below.setCell ?_ ?_ _) | go_size))).snoc hs4 ht4 ho4
          have HM := Lib.hid hm
          clear hs4 ht4 ho4 hm
          go_roundg (cnt - (i + 1))
          case measure => omega
          case rel => exact ⟨i + 1, by go_num, by omega, by omega, Lib.hid (by rw [HS2.out]; simpa using HM.out), Lib.hid (by rw [HS2.out]; simp; omega)⟩
    · have t1 : ¬ (i : Int) < (cnt : Int) := by omega
      obtain rfl : i = cnt := by omega
      go_wp2_with fail
      go_ret
      exact ⟨_, rfl, HN.out.since HB1.out⟩
end Go.Proofs.Ytcnclcfipabimaa
namespace Go.Proofs.Ytcnclcfipabimaa
open Go.RowKit

set_option maxRecDepth 100000 in
set_option maxHeartbeats 1000000 in
theorem beside_out (w : World) (b : Nat) (c : Cfg) (k : Int) (h : MapAt w b c) (ho : CfgOk c) (hk : k < 0 ∨ c.cols * c.rows ≤ k) :
    Calls Try.prog 52 #[.pointer (some ⟨b, 0, none⟩), .int .i64 k] w fun e w' => e = .returned (.slice none 0 0) ∧ Below w.heap.size w w' := by
  obtain ⟨n1, n2⟩ := ho.cnt
  have hb := (Array.getElem?_eq_some_iff.1 h).1
  have h0 := h.cell 0
  simp only [List.getElem?_toArray, List.getElem?_cons_zero] at h0
  have k0 := ho.c0
  have k1 := ho.c1
  obtain ⟨cnt, hcnt⟩ : ∃ cnt : Nat, c.cols * c.rows = (cnt : Int) := ⟨(c.cols * c.rows).toNat, by omega⟩
  have hc16 : cnt ≤ 16 := by omega
  have HC := Lib.hid (fun W hW => by have := zcount_any W b c (h.grow hW) ho; rw [hcnt] at this; exact this)
  rw [hcnt] at hk n1 n2
  clear h ho
  generalize c.cols = cols at *
  have HCN := Lib.hid hcnt
  clear hcnt
  go_enter Try.func52, Try.ntmps52
  go_wp2_with fail
  refine (HC.out _ (Below.refl _ _)).mono ?_; rintro e w1 ⟨rfl, hb1⟩
  have hbw : b < w1.heap.size := Nat.lt_of_lt_of_le hb hb1.size
  have h01 := (hb1.cell (p := ⟨b, 0, none⟩) hb).trans h0
  have HB1 := Lib.hid hb1
  clear hb1
  go_wp2_with fail
  go_loopg [11, 5] cnt (fun kx sx so wr => ∃ i : Nat, sx = .int .i64 i ∧ so = .slice none 0 0 ∧ i ≤ cnt ∧ cnt - i ≤ kx ∧ Hid (Below w1.heap.size w1 wr))
  case atStart => exact ⟨0, by go_num, rfl, by omega, by omega, Lib.hid (Below.refl _ _)⟩
  case round =>
    obtain ⟨i, rfl, rfl, hi, hkx, HN⟩ := hrel
    obtain ⟨wa, rfl⟩ : ∃ wa : World, wa = wr := ⟨_, rfl⟩
    by_cases hlt : i < cnt
    · have t1 : (i : Int) < (cnt : Int) := by omega
      have hi0' : (0 : Int) ≤ (i : Int) := Int.natCast_nonneg i
      have h02 := (HN.out.cell (p := ⟨b, 0, none⟩) hbw).trans h01
      have hba : b < wa.heap.size := Nat.lt_of_lt_of_le hbw HN.out.size
      obtain ⟨z0, z1, z2⟩ := ltz hba
      have HC2 := Lib.hid (fun W (hW : Below wa.heap.size wa W) => HC.out W ((HB1.out.trans (HN.out.mono HB1.out.size)).trans (hW.mono (by have := HB1.out.size; have := HN.out.size; omega))))
      have hne : cols ≠ 0 := by omega
      go_upto_region 5 with fail
      go_cut [7, 8] (fun x y wx => ∃ dx dy : Int, x = .int .i64 dx ∧ y = .int .i64 dy ∧ Below wa.heap.size wa wx)
      case first =>
        refine wp_region_more (by kernel_rfl) (by kernel_rfl) ?_
        repeat (go_big_quiet_step (fail))
        refine wpQuiet_nil ?_
        rintro _ ⟨pn, rfl⟩
        go_wp2_with fail
        go_meet
        exact ⟨_, _, rfl, rfl, (by repeat' (first | (with_reducible exact Below.refl _ _) | (with_reducible assumption) | (with_reducible refine below_drewN ?_ _) | (with_reducible refine below_more _ _ _ ?_ ?_) | (with_reducible refine Below.alloc ?_ ?_ _) | (with_reducible refine Below.drew ?_) | (with_reducible refine Below.setCell ?_ ?_ _) | go_size))⟩
      obtain ⟨dx, dy, rfl, rfl, hbc⟩ := hcut
      have HBC := Lib.hid hbc
      have hzc := hbc.size
      clear hbc
      by_cases hk2 : 0 ≤ k
      · have hk3 : ¬ k < (cnt : Int) := by omega
        have hk4 : (cnt : Int) ≤ k := by omega
        clear hk
        go_wp2_with fail
        refine (HC2.out _ HBC.out).mono ?_; rintro e w2 ⟨rfl, hb2⟩
        have HB2 := Lib.hid hb2
        clear hb2
        go_wp2_with fail
        go_roundg (cnt - (i + 1))
        case measure => omega
        case rel => exact ⟨i + 1, by go_num, rfl, by omega, by omega, Lib.hid (HN.out.trans ((HBC.out.trans (HB2.out.mono hzc)).mono HN.out.size))⟩
      · have hk3 : k < 0 := by omega
        clear hk
        go_wp2_with fail
        go_roundg (cnt - (i + 1))
        case measure => omega
        case rel => exact ⟨i + 1, by go_num, rfl, by omega, by omega, Lib.hid (HN.out.trans (HBC.out.mono HN.out.size))⟩
    · have t1 : ¬ (i : Int) < (cnt : Int) := by omega
      go_wp2_with fail
      go_ret
      exact ⟨rfl, HB1.out.trans (HN.out.mono HB1.out.size)⟩
end Go.Proofs.Ytcnclcfipabimaa
