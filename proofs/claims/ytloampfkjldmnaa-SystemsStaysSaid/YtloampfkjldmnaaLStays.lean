/-
  SystemsStays: for every world and every entity the law returns true, and the arguments stay as they were. No condition.
-/
import Derived.Test.YtloampfkjldmnaaZnD
import Derived.Test.YtloampfkjldmnaaSyJ
import Derived.Test.YtloampfkjldmnaaSyF
import Derived.Test.YtloampfkjldmnaaFr
namespace Go.Proofs.Ytloampfkjldmnaa.systemsStays
open Go.ChangeShapes Go.WideShapes Go.ChangeAt Go.RowKit

theorem new_at (W : World) (arr : Array Value) (t : TypeId) (n : Nat) (hn : n = W.heap.size) (j : Nat) : (W.alloc (.cells arr t)).cell? ⟨n, j, none⟩ = arr[j]? := by subst hn; simp
theorem ltm {a W : Nat} (h : a < W) : (∀ n0 : Nat, a < W + n0) ∧ (∀ n0 n1 : Nat, a < W + n0 + n1) ∧ (∀ n0 n1 n2 : Nat, a < W + n0 + n1 + n2) ∧ (∀ n0 n1 n2 n3 : Nat, a < W + n0 + n1 + n2 + n3) ∧ (∀ n0 n1 n2 n3 n4 : Nat, a < W + n0 + n1 + n2 + n3 + n4) ∧ (∀ n0 n1 n2 n3 n4 n5 : Nat, a < W + n0 + n1 + n2 + n3 + n4 + n5) ∧ (∀ n0 n1 n2 n3 n4 n5 n6 : Nat, a < W + n0 + n1 + n2 + n3 + n4 + n5 + n6) := by
  refine ⟨?_, ?_, ?_, ?_, ?_, ?_, ?_⟩ <;> intros <;> omega
theorem cells_cfg : Try.prog.cellsOf 40 = 7 := by kernel_rfl
set_option maxRecDepth 100000 in
theorem read_cfg {H : Type} {enc : TypeId × Value → H} {w : World} {base : Nat} {spare : Nat → Bool} {held : Bool} {fuel : Nat} {c : List Value} {x : DataW H × List MemPlace} (h : DataW.trod enc Try.prog w base spare held fuel 40 c = some x) :
    ∃ cols rows side radius speed ids queue : Int, c = [.int .i64 cols, .int .i64 rows, .int .i64 side, .int .i64 radius, .int .i64 speed, .int .i64 ids, .int .i64 queue] := by
  obtain ⟨xs, n, _, _, hc, hl, hf⟩ := DataW.trod_struct Try.underlying40 h
  rw [cells_cfg] at hc
  match c, hc with
  | [c0, c1, c2, c3, c4, c5, c6], _ =>
    match xs, hl with
    | [x0, x1, x2, x3, x4, x5, x6], _ =>
      have h0 := hf 0 _ rfl
      have h1 := hf 1 _ rfl
      have h2 := hf 2 _ rfl
      have h3 := hf 3 _ rfl
      have h4 := hf 4 _ rfl
      have h5 := hf 5 _ rfl
      have h6 := hf 6 _ rfl
      simp [cells_int] at h0 h1 h2 h3 h4 h5 h6
      obtain ⟨cols, e0, _⟩ := read_int h0
      obtain ⟨rows, e1, _⟩ := read_int h1
      obtain ⟨side, e2, _⟩ := read_int h2
      obtain ⟨radius, e3, _⟩ := read_int h3
      obtain ⟨speed, e4, _⟩ := read_int h4
      obtain ⟨ids, e5, _⟩ := read_int h5
      obtain ⟨queue, e6, _⟩ := read_int h6
      simp at e0 e1 e2 e3 e4 e5 e6
      subst e0 e1 e2 e3 e4 e5 e6
      exact ⟨cols, rows, side, radius, speed, ids, queue, rfl⟩


set_option maxRecDepth 100000 in
set_option maxHeartbeats 2000000 in
theorem walk (cols rows side radius speed ids queue s i g m x y vx vy hp pw lf : Int) (w : World) :
    Calls Try.prog 8 #[.agg #[.int .i64 cols, .int .i64 rows, .int .i64 side, .int .i64 radius, .int .i64 speed, .int .i64 ids, .int .i64 queue], .agg #[.int .i64 s, .int .i64 i, .int .i64 g, .int .i64 m, .int .i64 x, .int .i64 y, .int .i64 vx, .int .i64 vy, .int .i64 hp, .int .i64 pw, .int .i64 lf]] w fun e w' => e = .returned (.bool true) ∧ Below w.heap.size w w' := by
  have HMay := Lib.hid (fun W => may_any cols rows side radius speed ids queue W)
  have ho := mayF_ok ⟨cols, rows, side, radius, speed, ids, queue⟩
  generalize mayF ⟨cols, rows, side, radius, speed, ids, queue⟩ = d at *
  obtain ⟨dcols, drows, dside, dradius, dspeed, dids, dqueue⟩ := d
  have hmv0 : moveF ⟨dcols, drows, dside, dradius, dspeed, dids, dqueue⟩ ⟨s, i, g, m, x, y, vx, vy, hp, pw, lf⟩ = ⟨s, i, g, m, (moveF ⟨dcols, drows, dside, dradius, dspeed, dids, dqueue⟩ ⟨s, i, g, m, x, y, vx, vy, hp, pw, lf⟩).x, (moveF ⟨dcols, drows, dside, dradius, dspeed, dids, dqueue⟩ ⟨s, i, g, m, x, y, vx, vy, hp, pw, lf⟩).y, vx, vy, hp, pw, lf⟩ := rfl
  have hin2 : inW ⟨dcols, drows, dside, dradius, dspeed, dids, dqueue⟩ (moveF ⟨dcols, drows, dside, dradius, dspeed, dids, dqueue⟩ ⟨s, i, g, m, x, y, vx, vy, hp, pw, lf⟩).x (moveF ⟨dcols, drows, dside, dradius, dspeed, dids, dqueue⟩ ⟨s, i, g, m, x, y, vx, vy, hp, pw, lf⟩).y = true := inF_in ho _ _
  have hiz := (ofF_in ho hin2).2.2.2.2.2.1
  obtain ⟨lb, hlb, hbe⟩ : ∃ lb : List Int, (ofF ⟨dcols, drows, dside, dradius, dspeed, dids, dqueue⟩ x y = ofF ⟨dcols, drows, dside, dradius, dspeed, dids, dqueue⟩ (moveF ⟨dcols, drows, dside, dradius, dspeed, dids, dqueue⟩ ⟨s, i, g, m, x, y, vx, vy, hp, pw, lf⟩).x (moveF ⟨dcols, drows, dside, dradius, dspeed, dids, dqueue⟩ ⟨s, i, g, m, x, y, vx, vy, hp, pw, lf⟩).y ∨ ofF ⟨dcols, drows, dside, dradius, dspeed, dids, dqueue⟩ x y < 0 ∨ ofF ⟨dcols, drows, dside, dradius, dspeed, dids, dqueue⟩ (moveF ⟨dcols, drows, dside, dradius, dspeed, dids, dqueue⟩ ⟨s, i, g, m, x, y, vx, vy, hp, pw, lf⟩).x (moveF ⟨dcols, drows, dside, dradius, dspeed, dids, dqueue⟩ ⟨s, i, g, m, x, y, vx, vy, hp, pw, lf⟩).y ∈ lb) ∧
      ∀ W b, MapAt W b ⟨dcols, drows, dside, dradius, dspeed, dids, dqueue⟩ → Calls Try.prog 29 #[.pointer (some ⟨b, 0, none⟩), .int .i64 (ofF ⟨dcols, drows, dside, dradius, dspeed, dids, dqueue⟩ x y)] W fun e w' => ∃ v', e = .returned v' ∧ RNew intL 3 1 W w' v' lb := by
    cases hw : inW ⟨dcols, drows, dside, dradius, dspeed, dids, dqueue⟩ x y with
    | true =>
      have h1 := ofF_in ho hw
      refine ⟨besideF ⟨dcols, drows, dside, dradius, dspeed, dids, dqueue⟩ (ofF ⟨dcols, drows, dside, dradius, dspeed, dids, dqueue⟩ x y), ?_, fun W b hm => beside_in W b _ _ hm ho h1.2.2.2.2.2.1 h1.2.2.2.2.2.2⟩
      rcases move_stays ho ⟨s, i, g, m, x, y, vx, vy, hp, pw, lf⟩ hw with h | h
      · exact .inl h
      · exact .inr (.inr h)
    | false =>
      have h1 : ofF ⟨dcols, drows, dside, dradius, dspeed, dids, dqueue⟩ x y = -1 := by unfold ofF; rw [hw]; rfl
      refine ⟨[], .inr (.inl (by omega)), fun W b hm => (beside_out W b _ _ hm ho (.inl (by omega))).mono ?_⟩
      rintro e w' ⟨rfl, hb⟩
      exact ⟨_, rfl, ⟨by simp [cellsR], .inl ⟨rfl, rfl⟩⟩, hb, fun g hg => by cases hg⟩
  have HO := Lib.hid ho
  have HOF := Lib.hid (fun W b hm => zof_any W b ⟨dcols, drows, dside, dradius, dspeed, dids, dqueue⟩ x y hm ho)
  have HOF2 := Lib.hid (fun W b hm => zof_any W b ⟨dcols, drows, dside, dradius, dspeed, dids, dqueue⟩ (moveF ⟨dcols, drows, dside, dradius, dspeed, dids, dqueue⟩ ⟨s, i, g, m, x, y, vx, vy, hp, pw, lf⟩).x (moveF ⟨dcols, drows, dside, dradius, dspeed, dids, dqueue⟩ ⟨s, i, g, m, x, y, vx, vy, hp, pw, lf⟩).y hm ho)
  have hmv := fun W b hm => move_any W b ⟨dcols, drows, dside, dradius, dspeed, dids, dqueue⟩ s i g m x y vx vy hp pw lf hm ho
  rw [hmv0] at hmv
  simp only at hmv
  have HMV := Lib.hid hmv
  have HBE := Lib.hid hbe
  clear ho hmv hmv0 hbe hin2
  generalize (moveF ⟨dcols, drows, dside, dradius, dspeed, dids, dqueue⟩ ⟨s, i, g, m, x, y, vx, vy, hp, pw, lf⟩).x = mx at *
  generalize (moveF ⟨dcols, drows, dside, dradius, dspeed, dids, dqueue⟩ ⟨s, i, g, m, x, y, vx, vy, hp, pw, lf⟩).y = my at *
  generalize ofF ⟨dcols, drows, dside, dradius, dspeed, dids, dqueue⟩ mx my = iz at *
  generalize ofF ⟨dcols, drows, dside, dradius, dspeed, dids, dqueue⟩ x y = wz at *
  have HLB := Lib.hid hlb
  clear hlb
  go_enter Try.func8, Try.ntmps8
  go_wp2_with (go_at_call 22; refine (HMay.out _).mono ?_; rintro e w' ⟨rfl, hb⟩; obtain ⟨d, os, rfl⟩ := more_of hb; clear hb)
  refine (znew_ok dcols drows dside dradius dspeed dids dqueue _ HO.out).mono ?_
  rintro e w2 ⟨b, rfl, hb2, hmap, hbb⟩
  have cB : ∀ j, w2.cell? ⟨w.heap.size + 1, j, none⟩ = (#[.int .i64 s, .int .i64 i, .int .i64 g, .int .i64 m, .int .i64 x, .int .i64 y, .int .i64 vx, .int .i64 vy, .int .i64 hp, .int .i64 pw, .int .i64 lf] : Array Value)[j]? := fun j => by rw [hb2.cell (by simp; omega)]; simp [go_sem]
  have l2 : w.heap.size + 1 < w2.heap.size := by have := hb2.size; simp at this; omega
  have u0 := cB 0; simp at u0
  have u1 := cB 1; simp at u1
  have u2 := cB 2; simp at u2
  have u3 := cB 3; simp at u3
  have u4 := cB 4; simp at u4
  have u5 := cB 5; simp at u5
  have u6 := cB 6; simp at u6
  have u7 := cB 7; simp at u7
  have u8 := cB 8; simp at u8
  have u9 := cB 9; simp at u9
  have u10 := cB 10; simp at u10
  obtain ⟨x0, x1, x2, x3, x4, x5, x6⟩ := ltm l2
  have HB2 := Lib.hid (Below.trans (Below.mono (B := w.heap.size) (by repeat' (first | (with_reducible exact Below.refl _ _) | (with_reducible assumption) | (with_reducible refine below_drewN ?_ _) | (with_reducible refine below_more _ _ _ ?_ ?_) | (with_reducible refine Below.alloc ?_ ?_ _) | (with_reducible refine Below.drew ?_) | (with_reducible refine Below.setCell ?_ ?_ _) | go_size)) (Nat.le_refl _)) (hb2.mono (by simp; omega)) : Below w.heap.size w w2)
  have MP := Lib.hid (fun W (hW : Below w2.heap.size w2 W) => hmap.grow hW)
  clear hb2 hmap cB
  go_wp2_with fail
  refine (HOF.out _ _ (MP.out _ (by repeat' (first | (with_reducible exact Below.refl _ _) | (with_reducible assumption) | (with_reducible refine below_drewN ?_ _) | (with_reducible refine below_more _ _ _ ?_ ?_) | (with_reducible refine Below.alloc ?_ ?_ _) | (with_reducible refine Below.drew ?_) | (with_reducible refine Below.setCell ?_ ?_ _) | go_size)))).mono ?_; rintro e w' ⟨rfl, hb⟩; obtain ⟨d1, os1, rfl⟩ := more_of hb; clear hb
  go_wp2_with fail
  refine (HMV.out _ _ (MP.out _ (by repeat' (first | (with_reducible exact Below.refl _ _) | (with_reducible assumption) | (with_reducible refine below_drewN ?_ _) | (with_reducible refine below_more _ _ _ ?_ ?_) | (with_reducible refine Below.alloc ?_ ?_ _) | (with_reducible refine Below.drew ?_) | (with_reducible refine Below.setCell ?_ ?_ _) | go_size)))).mono ?_; rintro e w' ⟨rfl, hb⟩; obtain ⟨d2, os2, rfl⟩ := more_of hb; clear hb
  go_wp2_with fail
  refine (HOF2.out _ _ (MP.out _ (by repeat' (first | (with_reducible exact Below.refl _ _) | (with_reducible assumption) | (with_reducible refine below_drewN ?_ _) | (with_reducible refine below_more _ _ _ ?_ ?_) | (with_reducible refine Below.alloc ?_ ?_ _) | (with_reducible refine Below.drew ?_) | (with_reducible refine Below.setCell ?_ ?_ _) | go_size)))).mono ?_; rintro e w' ⟨rfl, hb⟩; obtain ⟨d3, os3, rfl⟩ := more_of hb; clear hb
  
  have hW4 : Below w2.heap.size w2 (more ((more (more w2 d1 os1) d2 os2).alloc (.cells #[.int .i64 s, .int .i64 i, .int .i64 g, .int .i64 m, .int .i64 mx, .int .i64 my, .int .i64 vx, .int .i64 vy, .int .i64 hp, .int .i64 pw, .int .i64 lf] 34)) d3 os3) := (by repeat' (first | (with_reducible exact Below.refl _ _) | (with_reducible assumption) | (with_reducible refine below_drewN ?_ _) | (with_reducible refine below_more _ _ _ ?_ ?_) | (with_reducible refine Below.alloc ?_ ?_ _) | (with_reducible refine Below.drew ?_) | (with_reducible refine Below.setCell ?_ ?_ _) | go_size))
  have cD : ∀ j, (more ((more (more w2 d1 os1) d2 os2).alloc (.cells #[.int .i64 s, .int .i64 i, .int .i64 g, .int .i64 m, .int .i64 mx, .int .i64 my, .int .i64 vx, .int .i64 vy, .int .i64 hp, .int .i64 pw, .int .i64 lf] 34)) d3 os3).cell? ⟨w2.heap.size + os1.size + os2.size, j, none⟩ = (#[.int .i64 s, .int .i64 i, .int .i64 g, .int .i64 m, .int .i64 mx, .int .i64 my, .int .i64 vx, .int .i64 vy, .int .i64 hp, .int .i64 pw, .int .i64 lf] : Array Value)[j]? := fun j => by
    rw [more_cell _ _ _ _ (by simp)]
    exact new_at _ _ _ _ (by simp) j
  have v0 := cD 0; simp only [List.getElem?_toArray, List.getElem?_cons_zero] at v0
  have v1 := cD 1; simp only [List.getElem?_toArray, List.getElem?_cons_succ, List.getElem?_cons_zero] at v1
  have v2 := cD 2; simp only [List.getElem?_toArray, List.getElem?_cons_succ, List.getElem?_cons_zero] at v2
  have v3 := cD 3; simp only [List.getElem?_toArray, List.getElem?_cons_succ, List.getElem?_cons_zero] at v3
  have l8 : w2.heap.size + os1.size + os2.size < (more ((more (more w2 d1 os1) d2 os2).alloc (.cells #[.int .i64 s, .int .i64 i, .int .i64 g, .int .i64 m, .int .i64 mx, .int .i64 my, .int .i64 vx, .int .i64 vy, .int .i64 hp, .int .i64 pw, .int .i64 lf] 34)) d3 os3).heap.size := by simp; omega
  have l2' := Nat.lt_of_lt_of_le l2 hW4.size
  have t0 := (hW4.cell (p := ⟨w.heap.size + 1, 0, none⟩) l2).trans u0
  have t1 := (hW4.cell (p := ⟨w.heap.size + 1, 1, none⟩) l2).trans u1
  have t2 := (hW4.cell (p := ⟨w.heap.size + 1, 2, none⟩) l2).trans u2
  have t3 := (hW4.cell (p := ⟨w.heap.size + 1, 3, none⟩) l2).trans u3
  clear cD u0 u1 u2 u3 u4 u5 u6 u7 u8 u9 u10 x0 x1 x2 x3 x4 x5 x6
  generalize hB8 : w2.heap.size + os1.size + os2.size = B8 at *
  have HB8 := Lib.hid hB8
  have HW4 := Lib.hid hW4
  have z4 := hW4.size
  clear hB8 hW4
  generalize more ((more (more w2 d1 os1) d2 os2).alloc (.cells #[.int .i64 s, .int .i64 i, .int .i64 g, .int .i64 m, .int .i64 mx, .int .i64 my, .int .i64 vx, .int .i64 vy, .int .i64 hp, .int .i64 pw, .int .i64 lf] 34)) d3 os3 = W4 at *
  go_wp2_with fail
  refine (HBE.out _ _ (MP.out _ HW4.out)).mono ?_
  rintro e w5 ⟨vl, rfl, hL⟩
  obtain ⟨pl, cl, rfl⟩ := sl_frm hL.1
  have b5 := hL.2.1
  have HL := Lib.hid hL.rin
  have hlm : lb.length ≤ 9223372036854775807 := by obtain ⟨_, _, _, hm, _⟩ := hL.rin; unfold maxLen at hm; omega
  have HB5 := Lib.hid b5
  have z5 := b5.size
  have r0 := (b5.cell (p := ⟨B8, 0, none⟩) l8).trans v0
  have r1 := (b5.cell (p := ⟨B8, 1, none⟩) l8).trans v1
  have r2 := (b5.cell (p := ⟨B8, 2, none⟩) l8).trans v2
  have r3 := (b5.cell (p := ⟨B8, 3, none⟩) l8).trans v3
  have q0 := (b5.cell (p := ⟨w.heap.size + 1, 0, none⟩) l2').trans t0
  have q1 := (b5.cell (p := ⟨w.heap.size + 1, 1, none⟩) l2').trans t1
  have q2 := (b5.cell (p := ⟨w.heap.size + 1, 2, none⟩) l2').trans t2
  have q3 := (b5.cell (p := ⟨w.heap.size + 1, 3, none⟩) l2').trans t3
  have g8 := Nat.lt_of_lt_of_le l8 z5
  have g2 := Nat.lt_of_lt_of_le l2' z5
  clear v0 v1 v2 v3 t0 t1 t2 t3 b5 hL l8 l2'
  go_upto_region 8 with fail
  go_cut [11] (fun sx wx => ∃ mb : Bool, sx = .bool mb ∧ (mb = true ↔ (wz = iz ∨ wz < 0)) ∧ wx = w5)
  case first =>
    by_cases h1 : wz = iz
    · have h2 : (wz == iz) = true := by simpa using h1
      have H1 := Lib.hid h1
      clear h1
      go_wp2_with fail
      go_meet
      exact ⟨true, rfl, by simp [H1.out], rfl⟩
    · have h2 : (wz == iz) = false := by simpa using h1
      have H1 := Lib.hid h1
      clear h1
      by_cases h3 : wz < 0
      · have H3 := Lib.hid h3
        go_wp2_with fail
        go_meet
        exact ⟨true, by simp, by simp [H3.out], rfl⟩
      · have H3 := Lib.hid h3
        have h4 : 0 ≤ wz := by omega
        clear h3
        go_wp2_with fail
        go_meet
        exact ⟨false, by simp; omega, by have := H3.out; have := H1.out; simp only [Bool.false_eq_true, false_iff]; omega, rfl⟩
  obtain ⟨mb, rfl, hmb, rfl⟩ := hcut
  have HMB := Lib.hid hmb
  clear hmb
  go_wp2_with fail
  go_loopg [12, 11] lb.length (fun kx sx sb wr => ∃ (k : Nat) (fb : Bool), sx = .int .i64 k ∧ sb = .bool fb ∧ k ≤ lb.length ∧ lb.length - k ≤ kx ∧ Hid (fb = true ↔ (wz = iz ∨ wz < 0) ∨ iz ∈ lb.take k) ∧ Hid (wr = wc))
  case atStart => exact ⟨0, mb, by go_num, rfl, by omega, by omega, Lib.hid (by rw [HMB.out]; simp), Lib.hid rfl⟩
  case round =>
    obtain ⟨k, fb, rfl, rfl, hk, hkx, HF, HE⟩ := hrel
    obtain ⟨wd, rfl⟩ : ∃ wd : World, wd = wr := ⟨_, rfl⟩
    obtain rfl := HE.out
    clear HE
    by_cases hlt : k < lb.length
    · have t1 : (k : Int) < (lb.length : Int) := by omega
      obtain ⟨z, hz⟩ : ∃ z, lb[k]? = some z := ⟨_, List.getElem?_eq_getElem hlt⟩
      obtain ⟨gz, oz, cz, hv, lgz, qz⟩ := HL.out.cells intL_len hz
      simp only [Value.slice.injEq, true_and] at hv
      obtain ⟨rfl, rfl⟩ := hv
      have c0 := qz 0 _ rfl
      simp only [Nat.add_zero, Nat.mul_one] at c0
      have htk : iz ∈ lb.take (k + 1) ↔ iz ∈ lb.take k ∨ iz = z := by
        rw [List.take_succ_eq_append_getElem hlt, show lb[k] = z from by have := List.getElem?_eq_getElem hlt; rw [hz] at this; exact (Option.some.inj this).symm]
        simp
      have HTK := Lib.hid htk
      clear htk hz qz
      cases fb with
      | true =>
        have hf : (wz = iz ∨ wz < 0) ∨ iz ∈ lb.take k := HF.out.1 rfl
        have HFF := Lib.hid hf
        clear hf
        go_wp2_with fail
        go_roundg (lb.length - (k + 1))
        case measure => omega
        case rel => exact ⟨k + 1, true, by go_num, rfl, by omega, by omega, Lib.hid (by rw [HTK.out]; simp only [true_iff]; rcases HFF.out with h | h; exact .inl h; exact .inr (.inl h)), Lib.hid rfl⟩
      | false =>
        have hf : ¬ ((wz = iz ∨ wz < 0) ∨ iz ∈ lb.take k) := fun h => by have := HF.out.2 h; cases this
        have HFF := Lib.hid hf
        clear hf
        cases hzi : (z == iz) with
        | true =>
          have HZ := Lib.hid (show z = iz by simpa using hzi)
          go_wp2_with fail
          go_roundg (lb.length - (k + 1))
          case measure => omega
          case rel => exact ⟨k + 1, true, by go_num, by simp [HZ.out], by omega, by omega, Lib.hid (by rw [HTK.out]; simp only [true_iff]; exact .inr (.inr HZ.out.symm)), Lib.hid rfl⟩
        | false =>
          have HZ := Lib.hid (show ¬ z = iz by simpa using hzi)
          go_wp2_with fail
          go_roundg (lb.length - (k + 1))
          case measure => omega
          case rel => exact ⟨k + 1, false, by go_num, by simp [HZ.out], by omega, by omega, Lib.hid (by rw [HTK.out]; simp only [Bool.false_eq_true, false_iff]; rintro (h | h | h); exact HFF.out (.inl h); exact HFF.out (.inr h); exact HZ.out h.symm), Lib.hid rfl⟩
    · have t1 : ¬ (k : Int) < (lb.length : Int) := by omega
      obtain rfl : k = lb.length := by omega
      have hfb : fb = true := by
        refine HF.out.2 ?_
        rw [List.take_length]
        rcases HLB.out with h | h | h
        · exact .inl (.inl h)
        · exact .inl (.inr h)
        · exact .inr h
      subst hfb
      have hids : idEq s i g s i g = true := by simp [idEq]
      clear HF
      go_wp2_with (go_at_call 17; refine (awake14 _).mono ?_; rintro e w' ⟨rfl, hb⟩; obtain ⟨d, os, rfl⟩ := more_of hb; clear hb)
      go_ret
      have b8 : Below wd.heap.size wd (more wd d os) := more_below _ _ _
      exact ⟨rfl, HB2.out.trans ((HW4.out.trans ((HB5.out.trans (b8.mono z5)).mono z4)).mono HB2.out.size)⟩

set_option maxRecDepth 100000 in
theorem lifted (os : Os) (started : os.Started) (H : Type) (enc : TypeId × Value → H) :
    ReturnsInHanded {} Try.checked os 8 .any (Rows.systemsStaysSpec.pre6 enc Try.prog Try.f8 Rows.systemsStaysRow.domain false) (Rows.systemsStaysSpec.post enc Try.prog Try.f8 false true false false) := by
  refine returnsInHanded_of_change (C := Try.checked) ownKnob0 started (by kernel_rfl) Try.func8
    (ChangeSpec.witness6 (enc := enc) (C := Try.checked) false ⟨#[], #[.agg #[.int .i64 0, .int .i64 0, .int .i64 0, .int .i64 0, .int .i64 0, .int .i64 0, .int .i64 0], .agg #[.int .i64 0, .int .i64 0, .int .i64 0, .int .i64 0, .int .i64 0, .int .i64 0, .int .i64 0, .int .i64 0, .int .i64 0, .int .i64 0, .int .i64 0]], []⟩ 8 (by kernel_rfl) (by kernel_rfl) (by kernel_rfl) (by kernel_rfl)) ?_
  intro W base args ds gs before hval0 hW _ _
  have hval : ∀ (j : Nat) t v, Try.f8.params[j]? = some t → args[j]? = some v → Value.okWide Try.prog W .any base t v := hval0
  have hread : ∀ t ∈ Try.f8.params.toList, Try.prog.readableRec t = true ∧ t < Try.prog.types.size := by
    rw [Try.params8]
    intro t ht
    simp only [List.mem_cons, List.not_mem_nil, or_false] at ht
    rcases ht with rfl | rfl
    all_goals exact ⟨by kernel_rfl, of_decide_eq_true (by kernel_rfl)⟩
  have hW' := hW
  obtain ⟨p, q, hA0, hV, -, -⟩ := hW'
  have hA : DataW.TrodAll enc Try.prog W 0 (fun _ => true) true Try.f8.params.toList args.toList ds p := hA0
  rw [Try.params8] at hA hval
  obtain ⟨v0, vs0, d0, ds0, p0, q0, hargs, rfl, rfl, h0, r0⟩ := trodAll_cons hA
  obtain ⟨v1, vs1, d1, ds1, p1, q1, rfl, rfl, rfl, h1, r1⟩ := trodAll_cons r0
  obtain ⟨rfl, rfl, rfl⟩ := trodAll_nil r1
  obtain rfl : args = #[v0, v1] := by cases args; simp_all
  obtain ⟨rfl, rfl⟩ := trodVars_none hV
  have k0 := hval 0 40 v0 rfl rfl
  have k1 := hval 1 34 v1 rfl rfl
  clear hval hval0 hA0 hV hA
  obtain ⟨cc, fuel0, rfl, g0⟩ := agg_of Try.underlying40 k0 h0
  obtain ⟨zcols, zrows, zside, zradius, zspeed, zids, zqueue, rfl⟩ := read_cfg g0
  obtain ⟨c1, fuel1, rfl, g1⟩ := agg_of Try.underlying34 k1 h1
  obtain ⟨s, i, g, m, x, y, vx, vy, hp, pw, lf, rfl, is, ii, ig, im, ix, iy, ivx, ivy, ihp, ipw, ilf⟩ := read_bun g1
  exact (walk _ _ _ _ _ _ _ _ _ _ _ _ _ _ _ _ _ _ W).mono fun e W' ⟨he, hb⟩ => ⟨_, he, post_true rfl rfl hread rfl hW hb⟩

/-- SystemsStays: true for every input; the arguments stay. -/
theorem proved : Rows.SystemsStaysSaid :=
  OpenClaim.holds_of_wide 8 Try.f8 rfl rfl rfl rfl rfl rfl rfl ⟨rfl, rfl, rfl, rfl, rfl⟩ rfl rfl rfl rfl rfl (by kernel_rfl) Try.func8 (by kernel_rfl)
    (of_decide_eq_true (by kernel_rfl)) (by unfold Func.isWrapper; first | (rw [if_pos (by decide +kernel)]; kernel_rfl) | (rw [if_neg (by decide +kernel)]; exact ⟨rfl, rfl⟩))
    (fun os started H enc _ => lifted os started H enc)
end Go.Proofs.Ytloampfkjldmnaa.systemsStays
