/-
  Chapter 16's laws: Step of any deed; made: both desks behind deeds. Condition: the deeds can be read.
  How a slice of deeds of chapter 16 that came in reads. No condition.
-/
import Derived.Test.YtbghjklnlhoklaaDkW
import Derived.Test.YtbghjklnlhoklaaMk21
import Derived.Test.YtbghjklnlhoklaaDkN
import Derived.Test.YtbghjklnlhoklaaMk22
import Derived.Test.YtbghjklnlhoklaaMk3
namespace Go.Proofs.Ytbghjklnlhoklaa
open Go.RowKit

theorem step16_any {w0 w : World} {F : Ob} {p q R : Nat} {c : Cfg} {kk : Int} {D : Dk} (h : Own w0 w ((deskO p c D).and ((rdeskO q R c kk D).and F))) (hkk : kk ≤ 100000) (ho : CfgOk c) (x : Ded) (l : List Nid) (him : (-9223372036854775808 ≤ x.m.b.m ∧ x.m.b.m ≤ 9223372036854775807)) (hv : RIn nidL w0 (.slice x.p l.length x.c) l) (hn : x.n = l.length) (hl : l.length ≤ 40) :
    Calls Try.prog 29 #[.pointer (some ⟨p, 0, none⟩), .pointer (some ⟨q, 0, none⟩), .agg (dedL x).toArray] w fun e w' => e = .returned (.bool true) ∧ Own w0 w' ((deskO p c (stepF c D x.kd x.m l)).and ((rdeskO q R c (kk + 40) (stepF c D x.kd x.m l)).and F)) := by
  obtain ⟨kd, ⟨k, s, i, g, ⟨es, ei, eg, m, x, y, vx, vy, hp, pw, lf⟩, mask⟩, px, nx, cx⟩ := x
  simp only at hn him hv
  subst hn
  by_cases h0 : kd = 0 ∨ kd = 1 ∨ kd = 2
  · by_cases her : (lookF c D ⟨k, s, i, g, ⟨es, ei, eg, m, x, y, vx, vy, hp, pw, lf⟩, mask⟩).2.2 = 0
    · cases hmu : (lookF c D ⟨k, s, i, g, ⟨es, ei, eg, m, x, y, vx, vy, hp, pw, lf⟩, mask⟩).2.1 with
      | false => exact step_look2 w0 w F p q R c kk D h kd k s i g es ei eg m x y vx vy hp pw lf mask px cx l ho him her hmu h0
      | true => exact step_look3 w0 w F p q R c kk D h kd k s i g es ei eg m x y vx vy hp pw lf mask px cx l ho him her hmu h0
    · exact step_look1 w0 w F p q R c kk D h kd k s i g es ei eg m x y vx vy hp pw lf mask px cx l ho him her h0
  by_cases h3 : kd = 3
  · exact step_admit w0 w F p q R c kk D h kd k s i g es ei eg m x y vx vy hp pw lf mask px cx l ho him h3
  by_cases h4 : kd = 4
  · exact step_reserve w0 w F p q R c kk D h kd k s i g es ei eg m x y vx vy hp pw lf mask px cx l h4
  by_cases h5 : kd = 5 ∨ kd = 6
  · exact step_open w0 w F p q R c kk D h kd k s i g es ei eg m x y vx vy hp pw lf mask px cx l h5
  by_cases h7 : kd = 7 ∨ kd = 8
  · exact step_close w0 w F p q R c kk D h kd k s i g es ei eg m x y vx vy hp pw lf mask px cx l hkk hv hl h7
  by_cases h9 : kd = 9
  · exact step_lapse w0 w F p q R c kk D h kd k s i g es ei eg m x y vx vy hp pw lf mask px cx l h9
  exact step_other w0 w F p q R c kk D h kd k s i g es ei eg m x y vx vy hp pw lf mask px cx l (by omega)
/-- A deed that can be read, and its names. -/
structure DOk (W : World) (x : Ded) (l : List Nid) : Prop where
  im : (-9223372036854775808 ≤ x.m.b.m ∧ x.m.b.m ≤ 9223372036854775807)
  r : RIn nidL W (.slice x.p l.length x.c) l
  n : x.n = l.length
noncomputable def nmOf (W : World) (x : Ded) : List Nid := open Classical in if h : ∃ l, DOk W x l then h.choose else []
theorem nmOf_ok {W : World} {x : Ded} (h : ∃ l, DOk W x l) : DOk W x (nmOf W x) := by
  unfold nmOf
  rw [dif_pos h]
  exact h.choose_spec
theorem cut_ok {W : World} {d : Ded} (h : ∃ l, DOk W d l) : DOk W (cutD d) (nmOf W (cutD d)) ∧ (nmOf W (cutD d)).length ≤ 40 := by
  obtain ⟨l, h1, h2, h3⟩ := h
  have key : ∃ l', DOk W (cutD d) l' := by
    unfold cutD
    split
    · rename_i h40
      have hl : (l.take 40).length = 40 := by rw [List.length_take]; omega
      exact ⟨l.take 40, h1, rin_cut 40 h2, hl.symm⟩
    · exact ⟨l, h1, h2, h3⟩
  have hk := nmOf_ok key
  refine ⟨hk, ?_⟩
  rw [← hk.n]
  unfold cutD
  split
  · exact Nat.le_refl _
  · omega
theorem few_ok {W : World} {zs : List Ded} (h : ∀ d ∈ zs, ∃ l, DOk W d l) : (fewF zs).length ≤ 50 ∧ ∀ x ∈ fewF zs, DOk W x (nmOf W x) ∧ (nmOf W x).length ≤ 40 := by
  refine ⟨by unfold fewF; rw [List.length_map, List.length_take]; omega, fun x hx => ?_⟩
  obtain ⟨d, hd, rfl⟩ := List.mem_map.1 hx
  exact cut_ok (h d (List.mem_of_mem_take hd))
/-- Behind these deeds. -/
def playF (c : Cfg) (nm : Ded → List Nid) (D : Dk) (ds : List Ded) : Dk := ds.foldl (fun D x => stepF c D x.kd x.m (nm x)) D
theorem playF_snoc (c : Cfg) (nm : Ded → List Nid) (D : Dk) {ds : List Ded} {k : Nat} {x : Ded} (h : ds[k]? = some x) : playF c nm D (ds.take (k + 1)) = stepF c (playF c nm D (ds.take k)) x.kd x.m (nm x) := by
  have hlt := (List.getElem?_eq_some_iff.1 h).1
  unfold playF
  rw [List.take_succ_eq_append_getElem hlt, (List.getElem?_eq_some_iff.1 h).2, List.foldl_append]; rfl
attribute [local go_sem ↓] loadVar_ldDd storeVar_stDd
set_option maxRecDepth 100000 in
set_option maxHeartbeats 4000000 in
theorem made_any (cols rows side radius speed ids queue : Int) (v : Value) (zs : List Ded) (w : World) (hz : RIn dedL w v zs) (hd : ∀ d ∈ zs, ∃ l, DOk w d l) :
    Calls Try.prog 21 #[.agg #[.int .i64 cols, .int .i64 rows, .int .i64 side, .int .i64 radius, .int .i64 speed, .int .i64 ids, .int .i64 queue], v] w fun e w' => ∃ p q R kk, e = .returned (.tuple #[.pointer (some ⟨p, 0, none⟩), .pointer (some ⟨q, 0, none⟩)]) ∧ kk ≤ 3000 ∧
      Own w w' ((deskO p (mayF ⟨cols, rows, side, radius, speed, ids, queue⟩) (playF (mayF ⟨cols, rows, side, radius, speed, ids, queue⟩) (nmOf w) (newD (mayF ⟨cols, rows, side, radius, speed, ids, queue⟩)) (fewF zs))).and ((rdeskO q R (mayF ⟨cols, rows, side, radius, speed, ids, queue⟩) kk (playF (mayF ⟨cols, rows, side, radius, speed, ids, queue⟩) (nmOf w) (newD (mayF ⟨cols, rows, side, radius, speed, ids, queue⟩)) (fewF zs))).and .nil)) := by
  obtain ⟨hf50, hfo⟩ := few_ok hd
  have HFO := Lib.hid hfo
  have HMAY := Lib.hid (fun W => may_any cols rows side radius speed ids queue W)
  have ho := mayF_ok ⟨cols, rows, side, radius, speed, ids, queue⟩
  have HFW := Lib.hid (fun W (hW : Below w.heap.size w W) => few_any v zs W (hz.keep hW) (fun d hdm => by
    obtain ⟨l, _, h2, h3⟩ := hd d hdm
    obtain ⟨p, cap, e, _, _, h5, _⟩ := h2
    simp only [Value.slice.injEq, true_and] at e
    omega))
  generalize mayF ⟨cols, rows, side, radius, speed, ids, queue⟩ = cm at *
  obtain ⟨dcols, drows, dside, dradius, dspeed, dids, dqueue⟩ := cm
  simp only at HMAY
  have HO := Lib.hid ho
  have HN := Lib.hid (fun W => dnew_ok dcols drows dside dradius dspeed dids dqueue W ho)
  have HR := Lib.hid (fun W => rdnew_ok dcols drows dside dradius dspeed dids dqueue W ho)
  clear ho hd hfo hz
  generalize fewF zs = ds at *
  obtain ⟨w1, hw1, k0, hb1, g0, hsz⟩ := one_box w #[.int .i64 cols, .int .i64 rows, .int .i64 side, .int .i64 radius, .int .i64 speed, .int .i64 ids, .int .i64 queue] 23
  have HW1 := Lib.hid hw1
  have s1 : w.heap.size < w1.heap.size := by omega
  have x0 := k0 0; simp at x0; have f0 := g0 0; have x1 := k0 1; simp at x1; have f1 := g0 1; have x2 := k0 2; simp at x2; have f2 := g0 2; have x3 := k0 3; simp at x3; have f3 := g0 3; have x4 := k0 4; simp at x4; have f4 := g0 4; have x5 := k0 5; simp at x5; have f5 := g0 5; have x6 := k0 6; simp at x6; have f6 := g0 6
  obtain ⟨z0, z1, z2⟩ := ltz s1
  clear hw1 k0 g0 hsz
  go_enter Try.func21, Try.ntmps21
  go_upto_region 1 with fail
  rw [← HW1.out]
  go_upto_region 2 with (go_at_call 11; refine (HMAY.out _).mono ?_; rintro e w' ⟨rfl, hb⟩; obtain ⟨d, os, rfl⟩ := more_of hb; clear hb)
  generalize hw2 : more _ d os = W2
  have y0 : W2.cell? ⟨w.heap.size, 0, none⟩ = some (.int .i64 dcols) := (by subst hw2; simp [go_sem, *]); have y1 : W2.cell? ⟨w.heap.size, 1, none⟩ = some (.int .i64 drows) := (by subst hw2; simp [go_sem, *]); have y2 : W2.cell? ⟨w.heap.size, 2, none⟩ = some (.int .i64 dside) := (by subst hw2; simp [go_sem, *]); have y3 : W2.cell? ⟨w.heap.size, 3, none⟩ = some (.int .i64 dradius) := (by subst hw2; simp [go_sem, *]); have y4 : W2.cell? ⟨w.heap.size, 4, none⟩ = some (.int .i64 dspeed) := (by subst hw2; simp [go_sem, *]); have y5 : W2.cell? ⟨w.heap.size, 5, none⟩ = some (.int .i64 dids) := (by subst hw2; simp [go_sem, *]); have y6 : W2.cell? ⟨w.heap.size, 6, none⟩ = some (.int .i64 dqueue) := (by subst hw2; simp [go_sem, *])
  have hb2 : Below w.heap.size w W2 := by rw [← hw2]; exact (by repeat' (first | (with_reducible exact Below.refl _ _) | (with_reducible assumption) | (with_reducible refine below_drewN ?_ _) | (with_reducible refine below_more _ _ _ ?_ ?_) | (with_reducible refine Below.alloc ?_ ?_ _) | (with_reducible refine Below.drew ?_) | (with_reducible refine Below.setCell ?_ ?_ _) | go_size))
  have s2 : w.heap.size < W2.heap.size := by rw [← hw2]; simp [World.setCell]; omega
  have HB2 := Lib.hid hb2
  clear hw2 hb2 HMAY HW1 hb1 s1 z0 z1 z2 x0 f0 x1 f1 x2 f2 x3 f3 x4 f4 x5 f5 x6 f6
  go_wp2_with fail
  refine (HN.out _).mono ?_
  rintro e W3 ⟨p, rfl, hm3⟩
  have H3 := Lib.hid (((Own.nil w).grow HB2.out).made hm3)
  have hb3 : Below W2.heap.size W2 W3 := by obtain ⟨_, _, h, _⟩ := hm3; exact h
  replace y0 := (hb3.cell (p := ⟨w.heap.size, 0, none⟩) s2).trans y0; replace y1 := (hb3.cell (p := ⟨w.heap.size, 1, none⟩) s2).trans y1; replace y2 := (hb3.cell (p := ⟨w.heap.size, 2, none⟩) s2).trans y2; replace y3 := (hb3.cell (p := ⟨w.heap.size, 3, none⟩) s2).trans y3; replace y4 := (hb3.cell (p := ⟨w.heap.size, 4, none⟩) s2).trans y4; replace y5 := (hb3.cell (p := ⟨w.heap.size, 5, none⟩) s2).trans y5; replace y6 := (hb3.cell (p := ⟨w.heap.size, 6, none⟩) s2).trans y6
  replace s2 := Nat.lt_of_lt_of_le s2 hb3.size
  clear hm3 hb3 HN HB2
  go_wp2_with fail
  refine (HR.out _).mono ?_
  rintro e W4 ⟨q, R, rfl, hm4⟩
  have H4 := Lib.hid ((H3.out.made hm4).swap)
  clear hm4 H3 HR
  clear y0 y1 y2 y3 y4 y5 y6
  go_wp2_with fail
  refine (HFW.out _ H4.out.below).mono ?_
  rintro e W5 ⟨v5, rfl, hn5⟩
  have H5 := Lib.hid ((H4.out.made hn5.made).new3)
  obtain ⟨p5, cap5, rfl⟩ := sl_frm hn5.1
  have h0 : playF ⟨dcols, drows, dside, dradius, dspeed, dids, dqueue⟩ (nmOf w) (newD ⟨dcols, drows, dside, dradius, dspeed, dids, dqueue⟩) (ds.take 0) = newD ⟨dcols, drows, dside, dradius, dspeed, dids, dqueue⟩ := by rw [List.take_zero]; rfl
  have HSN := Lib.hid (fun j x hx => playF_snoc ⟨dcols, drows, dside, dradius, dspeed, dids, dqueue⟩ (nmOf w) (newD ⟨dcols, drows, dside, dradius, dspeed, dids, dqueue⟩) (ds := ds) (k := j) (x := x) hx)
  clear hn5 H4 HFW s2
  go_wp2_with fail
  go_loopw [9] (fun x wr => ∃ j : Nat, x = .int .i64 j ∧ j ≤ ds.length ∧ Hid (Own w wr ((deskO p ⟨dcols, drows, dside, dradius, dspeed, dids, dqueue⟩ (playF ⟨dcols, drows, dside, dradius, dspeed, dids, dqueue⟩ (nmOf w) (newD ⟨dcols, drows, dside, dradius, dspeed, dids, dqueue⟩) (ds.take j))).and ((rdeskO q R ⟨dcols, drows, dside, dradius, dspeed, dids, dqueue⟩ (256 + 40 * j) (playF ⟨dcols, drows, dside, dradius, dspeed, dids, dqueue⟩ (nmOf w) (newD ⟨dcols, drows, dside, dradius, dspeed, dids, dqueue⟩) (ds.take j))).and ((slO 40 18 (.slice p5 ds.length cap5) ds.length (cellsR dedL ds)).and .nil))))) (fun x _ => ds.length - (intOf x).toNat)
  case atStart => exact ⟨0, rfl, Nat.zero_le _, Lib.hid (by rw [h0]; exact H5.out)⟩
  case round =>
    clear H5 h0
    obtain ⟨j, rfl, hj, hh⟩ := hrel
    obtain ⟨wo, rfl⟩ : ∃ wo : World, wo = wr := ⟨_, rfl⟩
    have hI : 0 ≤ (j : Int) := Int.natCast_nonneg j
    by_cases hlt : j < ds.length
    · have t1 : (j : Int) < (ds.length : Int) := by omega
      obtain ⟨x, hx⟩ : ∃ x, ds[j]? = some x := ⟨_, List.getElem?_eq_getElem hlt⟩
      obtain ⟨hok, hok40⟩ := HFO.out x (List.mem_of_getElem? hx)
      have hsn := HSN.out j x hx
      obtain ⟨blk, off, cap', hve, hb, hcx⟩ := (RIn.of_sl hh.out.third.sl.1).cells dedL_len hx
      simp only [Value.slice.injEq, true_and] at hve
      obtain ⟨rfl, rfl⟩ := hve
      have hld0 := ldDd_of x hcx
      have HST := Lib.hid (step16_any hh.out (by omega) HO.out x (nmOf w x) hok.im hok.r hok.n hok40)
      rw [← hsn] at HST
      generalize nmOf w x = l at *
      obtain ⟨kd, ⟨k, s, i, g, ⟨es, ei, eg, m, x, y, vx, vy, hp, pw, lf⟩, mask⟩, px, nx, cx⟩ := x
      have hld : (ldDd ⟨blk, off + j * 18, none⟩).run Try.prog wo = .ok (.agg #[.int .i64 kd, .int .i64 k, .int .i64 s, .int .i64 i, .int .i64 g, .int .i64 es, .int .i64 ei, .int .i64 eg, .int .i64 m, .int .i64 x, .int .i64 y, .int .i64 vx, .int .i64 vy, .int .i64 hp, .int .i64 pw, .int .i64 lf, .int .i64 mask, .slice px nx cx]) wo := hld0
      clear hld0 hcx hx hok hok40 hsn
      go_wp2_with fail
      refine HST.out.mono ?_
      rintro e w6 ⟨rfl, h6⟩
      have H6 := Lib.hid h6
      clear h6
      go_wp2_with fail
      go_roundw
      case rel => exact ⟨j + 1, by go_num, hlt, Lib.hid (by rw [show (256 + 40 * ((j + 1 : Nat) : Int)) = 256 + 40 * j + 40 by omega]; exact H6.out)⟩
      case measure => simp [intOf]; omega
    · obtain rfl : j = ds.length := by omega
      rw [List.take_length] at hh
      go_wp2_with fail
      go_ret2
      exact ⟨p, q, R, _, rfl, by omega, hh.out.drop3⟩
end Go.Proofs.Ytbghjklnlhoklaa
namespace Go.Proofs.Ytbghjklnlhoklaa
open Go.ChangeShapes Go.WideShapes Go.ChangeAt Go.RowKit
theorem cells_ded : Try.prog.cellsOf 40 = 18 := by kernel_rfl
theorem cells_nids : Try.prog.cellsOf 38 = 1 := by kernel_rfl
section
variable {H : Type} {enc : TypeId × Value → H} {W : World} {base : Nat} {spare : Nat → Bool} {held : Bool} {fuel : Nat}
theorem nids_cells {c : List Value} {x : DataW H × List MemPlace} (h : DataW.trod enc Try.prog W base spare held fuel 38 c = some x) : ∃ p cap l, c = [.slice p l.length cap] ∧ RIn nidL W (.slice p l.length cap) l :=
  let ⟨p, cap, l, h1, h2, _⟩ := slice_cells (en := nidL) (Good := fun _ => True) nidL_len (by omega) Try.underlying38 cells_id (fun ht => by obtain ⟨s, i, g, rfl, _⟩ := read_id ht; exact ⟨⟨s, i, g⟩, rfl, trivial⟩) h
  ⟨p, cap, l, h1, h2⟩
set_option maxRecDepth 100000 in
theorem read_ded {c : List Value} {x : DataW H × List MemPlace} (h : DataW.trod enc Try.prog W base spare held fuel 40 c = some x) : ∃ d : Ded, c = dedL d ∧ ∃ l, DOk W d l := by
  obtain ⟨xs, n, _, _, hc, hl, hf⟩ := DataW.trod_struct Try.underlying40 h
  rw [cells_ded] at hc
  match c, hc with
  | [c0, c1, c2, c3, c4, c5, c6, c7, c8, c9, c10, c11, c12, c13, c14, c15, c16, c17], _ =>
    match xs, hl with
    | [x0, x1, x2], _ =>
      have h0 := hf 0 _ rfl
      have h1 := hf 1 _ rfl
      have h2 := hf 2 _ rfl
      simp [cells_int, cells_cmd, cells_nids] at h0 h1 h2
      obtain ⟨kd, e0, _⟩ := read_int h0
      obtain ⟨m, e1, hm⟩ := read_cmdF h1
      obtain ⟨p, cap, l, e2, hr⟩ := nids_cells h2
      obtain ⟨k, s, i, g, ⟨es, ei, eg, mk, x, y, vx, vy, hp, pw, lf⟩, mask⟩ := m
      simp [cmC, bunL] at e0 e1 e2
      obtain ⟨f0, f1, f2, f3, f4, f5, f6, f7, f8, f9, f10, f11, f12, f13, f14, f15⟩ := e1
      subst e0 f0 f1 f2 f3 f4 f5 f6 f7 f8 f9 f10 f11 f12 f13 f14 f15 e2
      exact ⟨⟨kd, ⟨k, s, i, g, ⟨es, ei, eg, mk, x, y, vx, vy, hp, pw, lf⟩, mask⟩, p, l.length, cap⟩, rfl, l, hm.1.2.2.2.1, hr, rfl⟩
end
set_option maxRecDepth 100000 in
theorem deeds_in {H : Type} {enc : TypeId × Value → H} {W : World} {base b0 : Nat} {spare : Nat → Bool} {held : Bool} {r : Reach} {v : Value} {d : DataW H} {p : List MemPlace} (hv : Value.okWide Try.prog W r b0 24 v) (h : DataW.Trod enc Try.prog W base spare held 24 v d p) : ∃ zs, RIn dedL W v zs ∧ ∀ d ∈ zs, ∃ l, DOk W d l := by
  obtain ⟨a, len, cap, rfl⟩ := Go.WideShapes.okWide_slice Try.underlying24 hv
  obtain ⟨fuel, hf⟩ := h
  have hf' : DataW.trod enc Try.prog W base spare held fuel 24 [.slice a len cap] = some (d, p) := by simpa [Value.cells] using hf
  obtain ⟨p', cap', l, e, hr, hg⟩ := slice_cells (en := dedL) (size := 18) (Good := fun d => ∃ l, DOk W d l) dedL_len (by omega) Try.underlying24 cells_ded (fun ht => read_ded ht) hf'
  simp only [List.cons.injEq, and_true] at e
  rw [e]
  exact ⟨l, hr, hg⟩
end Go.Proofs.Ytbghjklnlhoklaa
