/-
  The reference of rectangles: Grow by one, Two; the program's Zone. Condition: the rectangle has a point (Grow); the world may be (Zone).
  The program's Zone; the reference's Beside. Condition: the world may be.
  The reference's Beside. Condition: the world may be.
-/
import Derived.Test.YtcnclcfipabimaaRfB
import Derived.Test.YtcnclcfipabimaaBoxed
namespace Go.Proofs.Ytcnclcfipabimaa
open Go.RowKit

def growF (z : Int × Int × Int × Int) : Int × Int × Int × Int := (clampF (clampF z.1 - 1), clampF (clampF z.2.1 - 1), clampF (clampF z.2.2.1 + 1), clampF (clampF z.2.2.2 + 1))
def okR (z : Int × Int × Int × Int) : Bool := boxOk z.1 z.2.1 z.2.2.1 z.2.2.2
set_option maxRecDepth 100000 in
set_option maxHeartbeats 2000000 in
theorem rgrow_any (x0 y0 x1 y1 : Int) (w : World) (h : boxOk x0 y0 x1 y1 = true) :
    Calls Try.prog 108 #[rectV (x0, y0, x1, y1), .int .i64 1] w fun e w' => e = .returned (rectV (growF (x0, y0, x1, y1))) ∧ Below w.heap.size w w' := by
  have HN := Lib.hid (fun W => by have := rNone_any x0 y0 x1 y1 W; rw [h] at this; exact this)
  unfold growF rectV
  simp only
  have CD := Lib.hid (fun W => by have := rClamp_any 1 W; rw [show clampF 1 = 1 by decide] at this; exact this)
  have lx0 := clampF_lo x0; have mx0 := clampF_hi x0
  have ly0 := clampF_lo y0; have my0 := clampF_hi y0
  have lx1 := clampF_lo x1; have mx1 := clampF_hi x1
  have ly1 := clampF_lo y1; have my1 := clampF_hi y1
  have wx0 : IntKind.i64.wrap (clampF x0 - 1) = clampF x0 - 1 := by rw [IntKind.wrap_i64]; omega
  have wy0 : IntKind.i64.wrap (clampF y0 - 1) = clampF y0 - 1 := by rw [IntKind.wrap_i64]; omega
  have wx1 : IntKind.i64.wrap (clampF x1 + 1) = clampF x1 + 1 := by rw [IntKind.wrap_i64]; omega
  have wy1 : IntKind.i64.wrap (clampF y1 + 1) = clampF y1 + 1 := by rw [IntKind.wrap_i64]; omega
  clear lx0 mx0 ly0 my0 lx1 mx1 ly1 my1
  go_enter Try.func108, Try.ntmps108
  go_wp2_with fail
  refine (HN.out _).mono ?_; rintro e w' ⟨rfl, hb⟩; obtain ⟨d, os, rfl⟩ := more_of hb; clear hb
  go_wp2_with fail
  refine (CD.out _).mono ?_; rintro e w' ⟨rfl, rfl⟩
  go_wp2_with fail
  refine wp_region_still_tail 24 (by kernel_rfl) (by kernel_rfl) ?_
  simp only [List.take_succ_cons, List.take_zero, List.drop_succ_cons, List.drop_zero]
  repeat (first | still_step | (still_call (still_ofR (rClamp_any _ _))))
  refine wpStill_nil ?_
  go_wp2_with fail
  exact bodyPost_ret (v := rectV (clampF (clampF x0 - 1), clampF (clampF y0 - 1), clampF (clampF x1 + 1), clampF (clampF y1 + 1))) (by simp [results, Try.results108, go_sem, rectV]) rfl ⟨by rfl, (by repeat' (first | (with_reducible exact Below.refl _ _) | (with_reducible assumption) | (with_reducible refine below_drewN ?_ _) | (with_reducible refine below_more _ _ _ ?_ ?_) | (with_reducible refine Below.alloc ?_ ?_ _) | (with_reducible refine Below.drew ?_) | (with_reducible refine Below.setCell ?_ ?_ _) | go_size))⟩

def twoF (p q : Int × Int × Int × Int) : Int × Int × Int × Int :=
  if okR (max (clampF p.1) (clampF q.1), max (clampF p.2.1) (clampF q.2.1), min (clampF p.2.2.1) (clampF q.2.2.1), min (clampF p.2.2.2) (clampF q.2.2.2)) then (max (clampF p.1) (clampF q.1), max (clampF p.2.1) (clampF q.2.1), min (clampF p.2.2.1) (clampF q.2.2.1), min (clampF p.2.2.2) (clampF q.2.2.2)) else (0, 0, 0, 0)


theorem heap_more (w : World) (d : Nat) (os : Array Obj) (b : Nat) (h : b < w.heap.size) : (more w d os).heap[b]? = w.heap[b]? := by simp [more, Array.getElem?_append, h]
theorem heap_alloc_old (w : World) (o : Obj) (b : Nat) (h : b < w.heap.size) : (w.alloc o).heap[b]? = w.heap[b]? := ((Below.refl w.heap.size w).alloc (Nat.le_refl _) o).block b h
/-- The box of Two's result: somewhere behind its three first blocks. -/
def TwoW (w : World) (n : Nat) (q0 q1 q2 q3 a b c d : Int) (wx : World) : Prop :=
  Below w.heap.size w wx ∧ w.heap.size + 2 < n ∧ wx.heap[w.heap.size + 1]? = some (.cells #[.int .i64 q0, .int .i64 q1, .int .i64 q2, .int .i64 q3] 72) ∧ wx.heap[w.heap.size + 2]? = some (.cells #[.int .i64 0, .int .i64 0, .int .i64 0, .int .i64 0] 72) ∧ wx.heap[n]? = some (.cells #[.int .i64 a, .int .i64 b, .int .i64 c, .int .i64 d] 72)

theorem two_of (p0 p1 p2 p3 q0 q1 q2 q3 a b c d : Int) (w wx : World) (s : Value) (h : Boxed (((w.alloc (.cells #[.int .i64 p0, .int .i64 p1, .int .i64 p2, .int .i64 p3] 72)).alloc (.cells #[.int .i64 q0, .int .i64 q1, .int .i64 q2, .int .i64 q3] 72)).alloc (.cells #[.int .i64 0, .int .i64 0, .int .i64 0, .int .i64 0] 72)) (w.heap.size + 1 + 1 + 1) #[.int .i64 a, .int .i64 b, .int .i64 c, .int .i64 d] 72 s wx) :
    ∃ n, s = .pointer (some ⟨n, 0, none⟩) ∧ TwoW w n q0 q1 q2 q3 a b c d wx := by
  obtain ⟨d1, os1, d2, os2, rfl, rfl⟩ := h
  refine ⟨_, rfl, (by repeat' (first | (with_reducible exact Below.refl _ _) | (with_reducible assumption) | (with_reducible refine below_drewN ?_ _) | (with_reducible refine below_more _ _ _ ?_ ?_) | (with_reducible refine Below.alloc ?_ ?_ _) | (with_reducible refine Below.drew ?_) | (with_reducible refine Below.setCell ?_ ?_ _) | go_size)), by omega, ?_, ?_, ?_⟩
  · rw [heap_more _ _ _ _ (by simp <;> omega), heap_alloc_old _ _ _ (by simp <;> omega), heap_more _ _ _ _ (by simp <;> omega), heap_alloc_old _ _ _ (by simp)]
    have := heap_alloc_new (w.alloc (.cells #[.int .i64 p0, .int .i64 p1, .int .i64 p2, .int .i64 p3] 72)) (.cells #[.int .i64 q0, .int .i64 q1, .int .i64 q2, .int .i64 q3] 72)
    simpa using this
  · rw [heap_more _ _ _ _ (by simp <;> omega), heap_alloc_old _ _ _ (by simp <;> omega), heap_more _ _ _ _ (by simp)]
    have := heap_alloc_new ((w.alloc (.cells #[.int .i64 p0, .int .i64 p1, .int .i64 p2, .int .i64 p3] 72)).alloc (.cells #[.int .i64 q0, .int .i64 q1, .int .i64 q2, .int .i64 q3] 72)) (.cells #[.int .i64 0, .int .i64 0, .int .i64 0, .int .i64 0] 72)
    simpa using this
  · rw [heap_more _ _ _ _ (by simp)]
    have := heap_alloc_new (more (((w.alloc (.cells #[.int .i64 p0, .int .i64 p1, .int .i64 p2, .int .i64 p3] 72)).alloc (.cells #[.int .i64 q0, .int .i64 q1, .int .i64 q2, .int .i64 q3] 72)).alloc (.cells #[.int .i64 0, .int .i64 0, .int .i64 0, .int .i64 0] 72)) d1 os1) (.cells #[.int .i64 a, .int .i64 b, .int .i64 c, .int .i64 d] 72)
    simpa using this

theorem TwoW.more {w wx : World} {n : Nat} {q0 q1 q2 q3 a b c d : Int} (k : Nat) (os : Array Obj) (h : TwoW w n q0 q1 q2 q3 a b c d wx) : TwoW w n q0 q1 q2 q3 a b c d (more wx k os) := by
  obtain ⟨hb, h2, hq, hz, hn⟩ := h
  have hn' := (Array.getElem?_eq_some_iff.1 hn).1
  exact ⟨(by repeat' (first | (with_reducible exact Below.refl _ _) | (with_reducible assumption) | (with_reducible refine below_drewN ?_ _) | (with_reducible refine below_more _ _ _ ?_ ?_) | (with_reducible refine Below.alloc ?_ ?_ _) | (with_reducible refine Below.drew ?_) | (with_reducible refine Below.setCell ?_ ?_ _) | go_size)), h2, (heap_more _ _ _ _ (by omega)).trans hq, (heap_more _ _ _ _ (by omega)).trans hz, (heap_more _ _ _ _ hn').trans hn⟩

theorem TwoW.set0 {w wx : World} {n : Nat} {q0 q1 q2 q3 a b c d : Int} (v : Int) (h : TwoW w n q0 q1 q2 q3 a b c d wx) : TwoW w n q0 q1 q2 q3 v b c d (wx.setCell ⟨n, 0, none⟩ (.int .i64 v)) := by
  obtain ⟨hb, h2, hq, hz, hn⟩ := h
  refine ⟨hb.setCell (by simp; omega) _, h2, ?_, ?_, ?_⟩
  · rw [Below.heap_setCell _ _ _ _ (by simp; omega)]; exact hq
  · rw [Below.heap_setCell _ _ _ _ (by simp; omega)]; exact hz
  · simp [World.setCell, Array.getElem?_modify, hn]
theorem TwoW.set1 {w wx : World} {n : Nat} {q0 q1 q2 q3 a b c d : Int} (v : Int) (h : TwoW w n q0 q1 q2 q3 a b c d wx) : TwoW w n q0 q1 q2 q3 a v c d (wx.setCell ⟨n, 1, none⟩ (.int .i64 v)) := by
  obtain ⟨hb, h2, hq, hz, hn⟩ := h
  refine ⟨hb.setCell (by simp; omega) _, h2, ?_, ?_, ?_⟩
  · rw [Below.heap_setCell _ _ _ _ (by simp; omega)]; exact hq
  · rw [Below.heap_setCell _ _ _ _ (by simp; omega)]; exact hz
  · simp [World.setCell, Array.getElem?_modify, hn]
theorem TwoW.set2 {w wx : World} {n : Nat} {q0 q1 q2 q3 a b c d : Int} (v : Int) (h : TwoW w n q0 q1 q2 q3 a b c d wx) : TwoW w n q0 q1 q2 q3 a b v d (wx.setCell ⟨n, 2, none⟩ (.int .i64 v)) := by
  obtain ⟨hb, h2, hq, hz, hn⟩ := h
  refine ⟨hb.setCell (by simp; omega) _, h2, ?_, ?_, ?_⟩
  · rw [Below.heap_setCell _ _ _ _ (by simp; omega)]; exact hq
  · rw [Below.heap_setCell _ _ _ _ (by simp; omega)]; exact hz
  · simp [World.setCell, Array.getElem?_modify, hn]
theorem TwoW.set3 {w wx : World} {n : Nat} {q0 q1 q2 q3 a b c d : Int} (v : Int) (h : TwoW w n q0 q1 q2 q3 a b c d wx) : TwoW w n q0 q1 q2 q3 a b c v (wx.setCell ⟨n, 3, none⟩ (.int .i64 v)) := by
  obtain ⟨hb, h2, hq, hz, hn⟩ := h
  refine ⟨hb.setCell (by simp; omega) _, h2, ?_, ?_, ?_⟩
  · rw [Below.heap_setCell _ _ _ _ (by simp; omega)]; exact hq
  · rw [Below.heap_setCell _ _ _ _ (by simp; omega)]; exact hz
  · simp [World.setCell, Array.getElem?_modify, hn]

theorem TwoW.cells {w wx : World} {n : Nat} {q0 q1 q2 q3 a b c d : Int} (h : TwoW w n q0 q1 q2 q3 a b c d wx) :
    (∀ j, wx.cell? ⟨w.heap.size + 1, j, none⟩ = (#[.int .i64 q0, .int .i64 q1, .int .i64 q2, .int .i64 q3] : Array Value)[j]?) ∧ (∀ j, wx.cell? ⟨w.heap.size + 1 + 1, j, none⟩ = (#[.int .i64 0, .int .i64 0, .int .i64 0, .int .i64 0] : Array Value)[j]?) ∧ (∀ j, wx.cell? ⟨n, j, none⟩ = (#[.int .i64 a, .int .i64 b, .int .i64 c, .int .i64 d] : Array Value)[j]?) ∧ n < wx.heap.size ∧ w.heap.size + 1 + 1 < wx.heap.size ∧ w.heap.size + 1 < wx.heap.size ∧ (∀ o, wx.frozen? ⟨n, o, none⟩ = false) ∧ (∀ o, wx.frozen? ⟨w.heap.size + 1 + 1, o, none⟩ = false) := by
  obtain ⟨hb, h2, hq, hz, hn⟩ := h
  have := (Array.getElem?_eq_some_iff.1 hn).1
  exact ⟨fun j => by simp [World.cell?, hq], fun j => by simp [World.cell?, hz], fun j => by simp [World.cell?, hn], this, by omega, by omega, fun o => by simp [World.frozen?, hn], fun o => by simp [World.frozen?, hz]⟩


set_option maxRecDepth 100000 in
set_option maxHeartbeats 4000000 in
theorem rtwo_any (p0 p1 p2 p3 q0 q1 q2 q3 : Int) (w : World) :
    Calls Try.prog 109 #[rectV (p0, p1, p2, p3), rectV (q0, q1, q2, q3)] w fun e w' => e = .returned (rectV (twoF (p0, p1, p2, p3) (q0, q1, q2, q3))) ∧ Below w.heap.size w w' := by
  generalize hres : twoF _ _ = res
  unfold twoF okR at hres
  simp only at hres
  have HRES := Lib.hid hres
  clear hres
  rw [show rectV (p0, p1, p2, p3) = .agg #[.int .i64 p0, .int .i64 p1, .int .i64 p2, .int .i64 p3] from rfl, show rectV (q0, q1, q2, q3) = .agg #[.int .i64 q0, .int .i64 q1, .int .i64 q2, .int .i64 q3] from rfl]
  go_enter Try.func109, Try.ntmps109
  go_upto_region 1 with fail
  go_cut [5] (fun s5 wx => ∃ n, s5 = .pointer (some ⟨n, 0, none⟩) ∧ TwoW w n q0 q1 q2 q3 (clampF p0) (clampF p1) (clampF p2) (clampF p3) wx)
  case first =>
    go_region_held3 (fun W => (((w.alloc (.cells #[.int .i64 p0, .int .i64 p1, .int .i64 p2, .int .i64 p3] 72)).alloc (.cells #[.int .i64 q0, .int .i64 q1, .int .i64 q2, .int .i64 q3] 72)).alloc (.cells #[.int .i64 0, .int .i64 0, .int .i64 0, .int .i64 0] 72)).heap.size ≤ W.heap.size ∧ ∀ b o, b < (((w.alloc (.cells #[.int .i64 p0, .int .i64 p1, .int .i64 p2, .int .i64 p3] 72)).alloc (.cells #[.int .i64 q0, .int .i64 q1, .int .i64 q2, .int .i64 q3] 72)).alloc (.cells #[.int .i64 0, .int .i64 0, .int .i64 0, .int .i64 0] 72)).heap.size → W.cell? ⟨b, o, none⟩ = (((w.alloc (.cells #[.int .i64 p0, .int .i64 p1, .int .i64 p2, .int .i64 p3] 72)).alloc (.cells #[.int .i64 q0, .int .i64 q1, .int .i64 q2, .int .i64 q3] 72)).alloc (.cells #[.int .i64 0, .int .i64 0, .int .i64 0, .int .i64 0] 72)).cell? ⟨b, o, none⟩) (with_reducible (repeat (first | assumption | exact s_refl _ | exact s_id _ | refine s_more _ _ ?_ | refine s_alloc _ ?_ | refine s_drew ?_))) (first | (go_at_call 112; refine (rClamp_any _ _).mono ?_; rintro e w' ⟨rfl, rfl⟩))
    all_goals (go_wp2_with fail; go_meet; refine two_of p0 p1 p2 p3 q0 q1 q2 q3 _ _ _ _ w _ _ ?_; ((with_reducible (repeat (first | exact grew_refl _ | exact grew_redrawn _ _ _ _ | refine boxed_drew ?_ | refine boxed_more _ _ ?_ | refine boxed_end ?_ ?_ ?_ | refine grew_more _ _ ?_ | refine grew_drew ?_))); (all_goals (try simp))))
  obtain ⟨n, rfl, hT⟩ := hcut
  have HT := Lib.hid hT
  clear hT
  go_upto_region 2 with fail
  obtain ⟨c0, z0, n0, g0, g20, g30, fa0, fb0⟩ := HT.out.cells
  have cq00 := c0 0; simp at cq00; have cq01 := c0 1; simp at cq01; have cq02 := c0 2; simp at cq02; have cq03 := c0 3; simp at cq03
  have cn00 := n0 0; simp at cn00; have cn01 := n0 1; simp at cn01; have cn02 := n0 2; simp at cn02; have cn03 := n0 3; simp at cn03
  clear c0 z0 n0
  refine wp_region_more (by kernel_rfl) (by kernel_rfl) ?_
  repeat (go_big_quiet_step ((first | (go_at_call 112; exact more_same (rClamp_any _ _)))))
  refine wpQuiet_nil ?_
  rintro _ ⟨k0, rfl⟩
  go_upto_if 24 with fail
  go_cut [] (fun wx => TwoW w n q0 q1 q2 q3 (max (clampF p0) (clampF q0)) (clampF p1) (clampF p2) (clampF p3) wx)
  case first =>
    by_cases hc : clampF p0 < clampF q0
    · have hd : decide (clampF p0 < clampF q0) = true := decide_eq_true hc
      have he : max (clampF p0) (clampF q0) = clampF q0 := by omega
      have HE := Lib.hid he
      clear he
      go_wp2_with (go_at_call 112; refine (rClamp_any _ _).mono ?_; rintro e w' ⟨rfl, rfl⟩)
      go_meet
      rw [HE.out]
      exact (HT.out.set0 _).more _ _
    · have hd : decide (clampF p0 < clampF q0) = false := decide_eq_false hc
      have he : max (clampF p0) (clampF q0) = clampF p0 := by omega
      have HE := Lib.hid he
      clear he
      go_wp2_with fail
      go_meet
      rw [HE.out]
      exact HT.out.more _ _
  clear HT cq00 cn00 cq01 cn01 cq02 cn02 cq03 cn03 g0 g20 g30 fa0 fb0
  have HT := Lib.hid hcut
  clear hcut
  go_upto_region 4 with fail
  obtain ⟨c1, z1, n1, g1, g21, g31, fa1, fb1⟩ := HT.out.cells
  have cq10 := c1 0; simp at cq10; have cq11 := c1 1; simp at cq11; have cq12 := c1 2; simp at cq12; have cq13 := c1 3; simp at cq13
  have cn10 := n1 0; simp at cn10; have cn11 := n1 1; simp at cn11; have cn12 := n1 2; simp at cn12; have cn13 := n1 3; simp at cn13
  clear c1 z1 n1
  refine wp_region_more (by kernel_rfl) (by kernel_rfl) ?_
  repeat (go_big_quiet_step ((first | (go_at_call 112; exact more_same (rClamp_any _ _)))))
  refine wpQuiet_nil ?_
  rintro _ ⟨k1, rfl⟩
  go_upto_if 34 with fail
  go_cut [] (fun wx => TwoW w n q0 q1 q2 q3 (max (clampF p0) (clampF q0)) (max (clampF p1) (clampF q1)) (clampF p2) (clampF p3) wx)
  case first =>
    by_cases hc : clampF p1 < clampF q1
    · have hd : decide (clampF p1 < clampF q1) = true := decide_eq_true hc
      have he : max (clampF p1) (clampF q1) = clampF q1 := by omega
      have HE := Lib.hid he
      clear he
      go_wp2_with (go_at_call 112; refine (rClamp_any _ _).mono ?_; rintro e w' ⟨rfl, rfl⟩)
      go_meet
      rw [HE.out]
      exact (HT.out.set1 _).more _ _
    · have hd : decide (clampF p1 < clampF q1) = false := decide_eq_false hc
      have he : max (clampF p1) (clampF q1) = clampF p1 := by omega
      have HE := Lib.hid he
      clear he
      go_wp2_with fail
      go_meet
      rw [HE.out]
      exact HT.out.more _ _
  clear HT cq10 cn10 cq11 cn11 cq12 cn12 cq13 cn13 g1 g21 g31 fa1 fb1
  have HT := Lib.hid hcut
  clear hcut
  go_upto_region 6 with fail
  obtain ⟨c2, z2, n2, g2, g22, g32, fa2, fb2⟩ := HT.out.cells
  have cq20 := c2 0; simp at cq20; have cq21 := c2 1; simp at cq21; have cq22 := c2 2; simp at cq22; have cq23 := c2 3; simp at cq23
  have cn20 := n2 0; simp at cn20; have cn21 := n2 1; simp at cn21; have cn22 := n2 2; simp at cn22; have cn23 := n2 3; simp at cn23
  clear c2 z2 n2
  refine wp_region_more (by kernel_rfl) (by kernel_rfl) ?_
  repeat (go_big_quiet_step ((first | (go_at_call 112; exact more_same (rClamp_any _ _)))))
  refine wpQuiet_nil ?_
  rintro _ ⟨k2, rfl⟩
  go_upto_if 44 with fail
  go_cut [] (fun wx => TwoW w n q0 q1 q2 q3 (max (clampF p0) (clampF q0)) (max (clampF p1) (clampF q1)) (min (clampF p2) (clampF q2)) (clampF p3) wx)
  case first =>
    by_cases hc : clampF q2 < clampF p2
    · have hd : decide (clampF q2 < clampF p2) = true := decide_eq_true hc
      have he : min (clampF p2) (clampF q2) = clampF q2 := by omega
      have HE := Lib.hid he
      clear he
      go_wp2_with (go_at_call 112; refine (rClamp_any _ _).mono ?_; rintro e w' ⟨rfl, rfl⟩)
      go_meet
      rw [HE.out]
      exact (HT.out.set2 _).more _ _
    · have hd : decide (clampF q2 < clampF p2) = false := decide_eq_false hc
      have he : min (clampF p2) (clampF q2) = clampF p2 := by omega
      have HE := Lib.hid he
      clear he
      go_wp2_with fail
      go_meet
      rw [HE.out]
      exact HT.out.more _ _
  clear HT cq20 cn20 cq21 cn21 cq22 cn22 cq23 cn23 g2 g22 g32 fa2 fb2
  have HT := Lib.hid hcut
  clear hcut
  go_upto_region 8 with fail
  obtain ⟨c3, z3, n3, g3, g23, g33, fa3, fb3⟩ := HT.out.cells
  have cq30 := c3 0; simp at cq30; have cq31 := c3 1; simp at cq31; have cq32 := c3 2; simp at cq32; have cq33 := c3 3; simp at cq33
  have cn30 := n3 0; simp at cn30; have cn31 := n3 1; simp at cn31; have cn32 := n3 2; simp at cn32; have cn33 := n3 3; simp at cn33
  clear c3 z3 n3
  refine wp_region_more (by kernel_rfl) (by kernel_rfl) ?_
  repeat (go_big_quiet_step ((first | (go_at_call 112; exact more_same (rClamp_any _ _)))))
  refine wpQuiet_nil ?_
  rintro _ ⟨k3, rfl⟩
  go_upto_if 54 with fail
  go_cut [] (fun wx => TwoW w n q0 q1 q2 q3 (max (clampF p0) (clampF q0)) (max (clampF p1) (clampF q1)) (min (clampF p2) (clampF q2)) (min (clampF p3) (clampF q3)) wx)
  case first =>
    by_cases hc : clampF q3 < clampF p3
    · have hd : decide (clampF q3 < clampF p3) = true := decide_eq_true hc
      have he : min (clampF p3) (clampF q3) = clampF q3 := by omega
      have HE := Lib.hid he
      clear he
      go_wp2_with (go_at_call 112; refine (rClamp_any _ _).mono ?_; rintro e w' ⟨rfl, rfl⟩)
      go_meet
      rw [HE.out]
      exact (HT.out.set3 _).more _ _
    · have hd : decide (clampF q3 < clampF p3) = false := decide_eq_false hc
      have he : min (clampF p3) (clampF q3) = clampF p3 := by omega
      have HE := Lib.hid he
      clear he
      go_wp2_with fail
      go_meet
      rw [HE.out]
      exact HT.out.more _ _
  clear HT cq30 cn30 cq31 cn31 cq32 cn32 cq33 cn33 g3 g23 g33 fa3 fb3
  have HT := Lib.hid hcut
  clear hcut
  obtain ⟨c, z, cn, g, g2, g3, fa, fb⟩ := HT.out.cells
  have HN := Lib.hid (fun W => rNone_any (max (clampF p0) (clampF q0)) (max (clampF p1) (clampF q1)) (min (clampF p2) (clampF q2)) (min (clampF p3) (clampF q3)) W)
  have y0 := cn 0; simp at y0; have x0 := z 0; simp at x0
  have y1 := cn 1; simp at y1; have x1 := z 1; simp at x1
  have y2 := cn 2; simp at y2; have x2 := z 2; simp at x2
  have y3 := cn 3; simp at y3; have x3 := z 3; simp at x3
  clear c z cn
  generalize max (clampF p0) (clampF q0) = r0 at *
  generalize max (clampF p1) (clampF q1) = r1 at *
  generalize min (clampF p2) (clampF q2) = r2 at *
  generalize min (clampF p3) (clampF q3) = r3 at *
  cases hok : boxOk r0 r1 r2 r3 with
  | true =>
    rw [hok] at HN HRES
    simp only [Bool.not_true] at HN
    have hr : (r0, r1, r2, r3) = res := by have := HRES.out; simpa using this
    have HR2 := Lib.hid hr
    clear hr HRES hok
    go_wp2_with (go_at_call 73; refine (HN.out _).mono ?_; rintro e w' ⟨rfl, hb⟩; obtain ⟨d, os, rfl⟩ := more_of hb; clear hb)
    exact bodyPost_ret (v := rectV (r0, r1, r2, r3)) (by simp [results, Try.results109, go_sem, rectV, g2, x0, x1, x2, x3]) rfl ⟨by rw [HR2.out], by have hbb := HT.out.1; have hss := hbb.size; exact (by repeat' (first | (with_reducible exact Below.refl _ _) | (with_reducible assumption) | (with_reducible refine below_drewN ?_ _) | (with_reducible refine below_more _ _ _ ?_ ?_) | (with_reducible refine Below.alloc ?_ ?_ _) | (with_reducible refine Below.drew ?_) | (with_reducible refine Below.setCell ?_ ?_ _) | go_size))⟩
  | false =>
    rw [hok] at HN HRES
    simp only [Bool.not_false] at HN
    have hr : ((0, 0, 0, 0) : Int × Int × Int × Int) = res := by have := HRES.out; simpa using this
    have HR2 := Lib.hid hr
    clear hr HRES hok
    go_wp2_with (go_at_call 73; refine (HN.out _).mono ?_; rintro e w' ⟨rfl, hb⟩; obtain ⟨d, os, rfl⟩ := more_of hb; clear hb)
    exact bodyPost_ret (v := rectV (0, 0, 0, 0)) (by simp [results, Try.results109, go_sem, rectV, g2, x0, x1, x2, x3]) rfl ⟨by rw [HR2.out], by have hbb := HT.out.1; have hss := hbb.size; exact (by repeat' (first | (with_reducible exact Below.refl _ _) | (with_reducible assumption) | (with_reducible refine below_drewN ?_ _) | (with_reducible refine below_more _ _ _ ?_ ?_) | (with_reducible refine Below.alloc ?_ ?_ _) | (with_reducible refine Below.drew ?_) | (with_reducible refine Below.setCell ?_ ?_ _) | go_size))⟩
end Go.Proofs.Ytcnclcfipabimaa
namespace Go.Proofs.Ytcnclcfipabimaa
open Go.RowKit

set_option maxRecDepth 100000 in
set_option maxHeartbeats 2000000 in
theorem zzone_any (w : World) (b : Nat) (c : Cfg) (k : Int) (h : MapAt w b c) (ho : CfgOk c) (hk0 : 0 ≤ k) (hk1 : k < c.cols * c.rows) :
    Calls Try.prog 57 #[.pointer (some ⟨b, 0, none⟩), .int .i64 k] w fun e w' => e = .returned (rectV (zoneF c k)) ∧ Below w.heap.size w w' := by
  obtain ⟨e, a0, a1, b0, b1, i0, i1, j0, j1⟩ := zone_rng ho hk0 hk1
  rw [e]
  clear e
  have hb := (Array.getElem?_eq_some_iff.1 h).1
  have HC := Lib.hid (fun W hW => zcount_any W b c (h.grow hW) ho)
  have h0 := h.cell 0; have h2 := h.cell 2
  simp only [List.getElem?_toArray, List.getElem?_cons_succ, List.getElem?_cons_zero] at h0 h2
  have hs0 := ho.s0; have hs1 := ho.s1; have hc0 := ho.c0
  have hr1 := ho.r1
  have hne : c.cols ≠ 0 := by omega
  have e2 : Int.tmod k c.cols = k % c.cols := Int.tmod_eq_emod_of_nonneg hk0
  have e4 : Int.tdiv k c.cols = k / c.cols := Int.tdiv_eq_ediv_of_nonneg hk0
  obtain ⟨n1, n2⟩ := ho.cnt
  clear ho h
  obtain ⟨z0, z1, z2⟩ := ltz hb
  generalize c.cols * c.rows = cnt at *
  generalize c.side = side at *
  generalize c.cols = cols at *
  have w3 : IntKind.i64.wrap (k / cols) = k / cols := by rw [IntKind.wrap_i64]; omega
  have v1 : IntKind.i64.wrap (k % cols * side) = k % cols * side := by rw [IntKind.wrap_i64]; omega
  have v2 : IntKind.i64.wrap (k / cols * side) = k / cols * side := by rw [IntKind.wrap_i64]; omega
  have v3 : IntKind.i64.wrap (k % cols * side + side) = k % cols * side + side := by rw [IntKind.wrap_i64]; omega
  have v4 : IntKind.i64.wrap (k / cols * side + side) = k / cols * side + side := by rw [IntKind.wrap_i64]; omega
  have d1 : ¬ k < 0 := by omega
  have d2 : ¬ cnt ≤ k := by omega
  go_enter Try.func57, Try.ntmps57
  go_wp2_with fail
  refine (HC.out _ (by repeat' (first | (with_reducible exact Below.refl _ _) | (with_reducible assumption) | (with_reducible refine below_drewN ?_ _) | (with_reducible refine below_more _ _ _ ?_ ?_) | (with_reducible refine Below.alloc ?_ ?_ _) | (with_reducible refine Below.drew ?_) | (with_reducible refine Below.setCell ?_ ?_ _) | go_size))).mono ?_; rintro e w' ⟨rfl, hb'⟩; obtain ⟨d, os, rfl⟩ := more_of hb'; clear hb'
  go_wp2_with fail
  refine wp_region_more (by kernel_rfl) (by kernel_rfl) ?_
  repeat (go_big_quiet_step (fail))
  refine wpQuiet_nil ?_
  rintro _ ⟨pz, rfl⟩
  go_wp2_with fail
  refine wp_region_still_tail 17 (by kernel_rfl) (by kernel_rfl) ?_
  simp only [List.take_succ_cons, List.take_zero, List.drop_succ_cons, List.drop_zero]
  repeat (first | still_step)
  refine wpStill_nil ?_
  go_wp2_with fail
  exact bodyPost_ret (v := rectV (k % cols * side, k / cols * side, k % cols * side + side, k / cols * side + side)) (by simp [results, Try.results57, go_sem, rectV]) rfl ⟨by rfl, (by repeat' (first | (with_reducible exact Below.refl _ _) | (with_reducible assumption) | (with_reducible refine below_drewN ?_ _) | (with_reducible refine below_more _ _ _ ?_ ?_) | (with_reducible refine Below.alloc ?_ ?_ _) | (with_reducible refine Below.drew ?_) | (with_reducible refine Below.setCell ?_ ?_ _) | go_size))⟩

theorem ov1 (a b s : Int) (a0 : 0 ≤ a) (a1 : a < 4) (b0 : 0 ≤ b) (b1 : b < 4) (h : 256 ≤ s) : decide (max (a * s - 1) (b * s) < min (a * s + s + 1) (b * s + s)) = decide (b - a ≤ 1 ∧ a - b ≤ 1) := by
  rw [Bool.eq_iff_iff, decide_eq_true_iff, decide_eq_true_iff]
  rcases (by omega : a = 0 ∨ a = 1 ∨ a = 2 ∨ a = 3) with rfl | rfl | rfl | rfl <;> rcases (by omega : b = 0 ∨ b = 1 ∨ b = 2 ∨ b = 3) with rfl | rfl | rfl | rfl <;> omega

theorem okR_zero : okR (0, 0, 0, 0) = false := by decide

/-- Grown by one, zone k meets zone i: it lies beside it, or is the same. -/
theorem beside_two {c : Cfg} (ho : CfgOk c) {k i : Int} (k0 : 0 ≤ k) (k1 : k < c.cols * c.rows) (i0 : 0 ≤ i) (i1 : i < c.cols * c.rows) (hne : ¬ i = k) :
    okR (twoF (growF (zoneF c k)) (zoneF c i)) = nextB c.cols k i := by
  obtain ⟨e, a0, a1, b0, b1, p0, p1, q0, q1⟩ := zone_rng ho k0 k1
  obtain ⟨e', a0', a1', b0', b1', p0', p1', q0', q1'⟩ := zone_rng ho i0 i1
  have hs0 := ho.s0; have hs1 := ho.s1; have hc0 := ho.c0; have hc1 := ho.c1; have hr1 := ho.r1
  have hx := ov1 (k % c.cols) (i % c.cols) c.side p0 (by omega) p0' (by omega) hs0
  have hy := ov1 (k / c.cols) (i / c.cols) c.side q0 (by omega) q0' (by omega) hs0
  have hd : ¬ (i % c.cols = k % c.cols ∧ i / c.cols = k / c.cols) := fun ⟨h1, h2⟩ => hne (by
    have t1 := Int.mul_ediv_add_emod i c.cols
    have t2 := Int.mul_ediv_add_emod k c.cols
    rw [h1, h2] at t1
    omega)
  have hb : (i == k) = false := by simpa using hne
  unfold twoF growF
  rw [e, e']
  simp only
  generalize k % c.cols * c.side = X at *
  generalize k / c.cols * c.side = Y at *
  generalize i % c.cols * c.side = X' at *
  generalize i / c.cols * c.side = Y' at *
  rw [clampF_id X (by omega) (by omega), clampF_id Y (by omega) (by omega), clampF_id (X + c.side) (by omega) (by omega), clampF_id (Y + c.side) (by omega) (by omega), clampF_id X' (by omega) (by omega), clampF_id Y' (by omega) (by omega), clampF_id (X' + c.side) (by omega) (by omega), clampF_id (Y' + c.side) (by omega) (by omega)]
  rw [clampF_id (X - 1) (by omega) (by omega), clampF_id (Y - 1) (by omega) (by omega), clampF_id (X + c.side + 1) (by omega) (by omega), clampF_id (Y + c.side + 1) (by omega) (by omega)]
  rw [clampF_id (X - 1) (by omega) (by omega), clampF_id (Y - 1) (by omega) (by omega), clampF_id (X + c.side + 1) (by omega) (by omega), clampF_id (Y + c.side + 1) (by omega) (by omega)]
  have hok : okR (max (X - 1) X', max (Y - 1) Y', min (X + c.side + 1) (X' + c.side), min (Y + c.side + 1) (Y' + c.side)) = nextB c.cols k i := by
    unfold okR boxOk
    simp only
    rw [clampF_id (max (X - 1) X') (by omega) (by omega), clampF_id (max (Y - 1) Y') (by omega) (by omega), clampF_id (min (X + c.side + 1) (X' + c.side)) (by omega) (by omega), clampF_id (min (Y + c.side + 1) (Y' + c.side)) (by omega) (by omega), hx, hy]
    unfold nextB
    rw [hb, Bool.eq_iff_iff, Bool.and_eq_true, decide_eq_true_iff, decide_eq_true_iff, Bool.not_false, Bool.true_and, beq_iff_eq]
    generalize k % c.cols = A at *
    generalize i % c.cols = B at *
    generalize k / c.cols = C at *
    generalize i / c.cols = D at *
    omega
  cases hv : okR (max (X - 1) X', max (Y - 1) Y', min (X + c.side + 1) (X' + c.side), min (Y + c.side + 1) (Y' + c.side)) with
  | true => rw [if_pos rfl, hv, ← hok, hv]
  | false => rw [if_neg (by decide), okR_zero, ← hok, hv]
end Go.Proofs.Ytcnclcfipabimaa
namespace Go.Proofs.Ytcnclcfipabimaa
open Go.RowKit

def besideR (c : Cfg) (k : Int) : List Int := if 0 ≤ k ∧ k < c.cols * c.rows then besideF c k else []
theorem rNoneR_any (z : Int × Int × Int × Int) (w : World) :
    Calls Try.prog 73 #[rectV z] w fun e w' => e = .returned (.bool (!okR z)) ∧ Below w.heap.size w w' := rNone_any _ _ _ _ w
theorem alloc_cells (W : World) (arr : Array Value) (t : TypeId) (n u : Nat) (hn : n = W.heap.size) : (W.alloc (.cells arr t)).cell? ⟨n, u, none⟩ = arr[u]? := by subst hn; simp
theorem besTo_self (cols k : Int) : nextB cols k k = false := by unfold nextB; simp

set_option maxRecDepth 100000 in
set_option maxHeartbeats 2000000 in
theorem rbeside_out (cols rows side radius speed ids queue : Int) (k : Int) (w : World) (ho : CfgOk ⟨cols, rows, side, radius, speed, ids, queue⟩) (hk : ¬ (0 ≤ k ∧ k < cols * rows)) :
    Calls Try.prog 63 #[.agg #[.int .i64 cols, .int .i64 rows, .int .i64 side, .int .i64 radius, .int .i64 speed, .int .i64 ids, .int .i64 queue], .int .i64 k] w fun e w' => ∃ v', e = .returned v' ∧ RNew intL 3 1 w w' v' [] := by
  obtain ⟨n1, n2⟩ := ho.cnt
  simp only at n1 n2
  clear ho
  generalize hcnt : cols * rows = cnt at *
  have v1 : IntKind.i64.wrap (cols * rows) = cnt := by rw [hcnt, IntKind.wrap_i64]; omega
  clear hcnt
  by_cases h0 : k < 0
  · go_enter Try.func63, Try.ntmps63
    go_wp2_with fail
    go_ret
    exact ⟨_, rfl, (RNew.nil _).since (by repeat' (first | (with_reducible exact Below.refl _ _) | (with_reducible assumption) | (with_reducible refine below_drewN ?_ _) | (with_reducible refine below_more _ _ _ ?_ ?_) | (with_reducible refine Below.alloc ?_ ?_ _) | (with_reducible refine Below.drew ?_) | (with_reducible refine Below.setCell ?_ ?_ _) | go_size))⟩
  · have h1 : cnt ≤ k := by omega
    go_enter Try.func63, Try.ntmps63
    go_wp2_with fail
    go_ret
    exact ⟨_, rfl, (RNew.nil _).since (by repeat' (first | (with_reducible exact Below.refl _ _) | (with_reducible assumption) | (with_reducible refine below_drewN ?_ _) | (with_reducible refine below_more _ _ _ ?_ ?_) | (with_reducible refine Below.alloc ?_ ?_ _) | (with_reducible refine Below.drew ?_) | (with_reducible refine Below.setCell ?_ ?_ _) | go_size))⟩

set_option maxRecDepth 100000 in
set_option maxHeartbeats 2000000 in
theorem rbeside_in (cols rows side radius speed ids queue : Int) (k : Int) (w : World) (ho : CfgOk ⟨cols, rows, side, radius, speed, ids, queue⟩) (hk0 : 0 ≤ k) (hk1 : k < cols * rows) :
    Calls Try.prog 63 #[.agg #[.int .i64 cols, .int .i64 rows, .int .i64 side, .int .i64 radius, .int .i64 speed, .int .i64 ids, .int .i64 queue], .int .i64 k] w fun e w' => ∃ v', e = .returned v' ∧ RNew intL 3 1 w w' v' (besideF ⟨cols, rows, side, radius, speed, ids, queue⟩ k) := by
  obtain ⟨i0, hi0, hz0, hz1, hz2⟩ := info_parts info_intJ
  obtain ⟨n1, n2⟩ := ho.cnt
  have HZ := Lib.hid (fun k W => rzone_any cols rows side radius speed ids queue k W ho)
  have HB2 := Lib.hid (fun i a b c => beside_two ho hk0 hk1 (i := i) a b c)
  have hzk : okR (zoneF ⟨cols, rows, side, radius, speed, ids, queue⟩ k) = true := by
    obtain ⟨e, a0, a1, b0, b1, _⟩ := zone_rng ho hk0 hk1
    have hs0 := ho.s0; have hs1 := ho.s1
    rw [e]
    unfold okR boxOk
    simp only at *
    rw [clampF_id (k % cols * side) (by omega) (by omega), clampF_id (k / cols * side) (by omega) (by omega), clampF_id (k % cols * side + side) (by omega) (by omega), clampF_id (k / cols * side + side) (by omega) (by omega)]
    simp; omega
  have hbf : besideF ⟨cols, rows, side, radius, speed, ids, queue⟩ k = besTo cols k (cols * rows).toNat := rfl
  rw [hbf]
  simp only at n1 n2 HB2
  clear ho hbf
  have HG := Lib.hid (fun W => rgrow_any (zoneF ⟨cols, rows, side, radius, speed, ids, queue⟩ k).1 (zoneF ⟨cols, rows, side, radius, speed, ids, queue⟩ k).2.1 (zoneF ⟨cols, rows, side, radius, speed, ids, queue⟩ k).2.2.1 (zoneF ⟨cols, rows, side, radius, speed, ids, queue⟩ k).2.2.2 W hzk)
  rw [show ((zoneF ⟨cols, rows, side, radius, speed, ids, queue⟩ k).1, (zoneF ⟨cols, rows, side, radius, speed, ids, queue⟩ k).2.1, (zoneF ⟨cols, rows, side, radius, speed, ids, queue⟩ k).2.2.1, (zoneF ⟨cols, rows, side, radius, speed, ids, queue⟩ k).2.2.2) = zoneF ⟨cols, rows, side, radius, speed, ids, queue⟩ k from rfl] at HG
  clear hzk
  generalize zoneF ⟨cols, rows, side, radius, speed, ids, queue⟩ = zf at *
  generalize hg : growF (zf k) = g at *
  clear hg
  obtain ⟨cnt, hcnt⟩ : ∃ cnt : Nat, cols * rows = (cnt : Int) := ⟨(cols * rows).toNat, by omega⟩
  rw [hcnt] at hk1 n1 n2 HB2 ⊢
  rw [Int.toNat_natCast]
  have v1 : IntKind.i64.wrap (cols * rows) = (cnt : Int) := by rw [hcnt, IntKind.wrap_i64]; omega
  clear hcnt
  have d1 : ¬ k < 0 := by omega
  have d2 : ¬ (cnt : Int) ≤ k := by omega
  obtain ⟨g0, g1, g2, g3⟩ := g
  have HTW := Lib.hid (fun (z : Int × Int × Int × Int) W => rtwo_any g0 g1 g2 g3 z.1 z.2.1 z.2.2.1 z.2.2.2 W)
  go_enter Try.func63, Try.ntmps63
  go_wp2_with fail
  refine (HZ.out _ _).mono ?_; rintro e w' ⟨rfl, hb⟩; obtain ⟨d1', os1, rfl⟩ := more_of hb; clear hb
  go_wp2_with fail
  refine (HG.out _).mono ?_; rintro e w' ⟨rfl, hb⟩; obtain ⟨d2', os2, rfl⟩ := more_of hb; clear hb
  rw [show rectV (g0, g1, g2, g3) = .agg #[.int .i64 g0, .int .i64 g1, .int .i64 g2, .int .i64 g3] from rfl]
  go_upto_region 5 with fail
  generalize hw1 : World.alloc (more (more _ _ _) _ _) _ = w1
  have hb1 : Below w.heap.size w w1 := by rw [← hw1]; exact (by repeat' (first | (with_reducible exact Below.refl _ _) | (with_reducible assumption) | (with_reducible refine below_drewN ?_ _) | (with_reducible refine below_more _ _ _ ?_ ?_) | (with_reducible refine Below.alloc ?_ ?_ _) | (with_reducible refine Below.drew ?_) | (with_reducible refine Below.setCell ?_ ?_ _) | go_size))
  have hcf : ∀ u, w1.cell? ⟨w.heap.size, u, none⟩ = (#[.int .i64 cols, .int .i64 rows, .int .i64 side, .int .i64 radius, .int .i64 speed, .int .i64 ids, .int .i64 queue] : Array Value)[u]? := fun u => by
    rw [← hw1, Below.cell (B := w.heap.size + 1) (w := w.alloc (.cells #[.int .i64 cols, .int .i64 rows, .int .i64 side, .int .i64 radius, .int .i64 speed, .int .i64 ids, .int .i64 queue] 23)) (by repeat' (first | (with_reducible exact Below.refl _ _) | (with_reducible assumption) | (with_reducible refine below_drewN ?_ _) | (with_reducible refine below_more _ _ _ ?_ ?_) | (with_reducible refine Below.alloc ?_ ?_ _) | (with_reducible refine Below.drew ?_) | (with_reducible refine Below.setCell ?_ ?_ _) | go_size)) (by simp)]; simp
  have hcg : ∀ u, w1.cell? ⟨w.heap.size + 1 + os1.size + os2.size, u, none⟩ = (#[.int .i64 g0, .int .i64 g1, .int .i64 g2, .int .i64 g3] : Array Value)[u]? := fun u => by rw [← hw1]; exact alloc_cells _ _ _ _ _ (by simp)
  have hs6 : w.heap.size + 1 + os1.size + os2.size < w1.heap.size := by rw [← hw1]; simp
  have hs2 : w.heap.size < w1.heap.size := by omega
  generalize w.heap.size + 1 + os1.size + os2.size = n6 at *
  have HB1 := Lib.hid hb1
  have HCF := Lib.hid hcf
  have HCG := Lib.hid hcg
  clear hb1 hcf hcg hw1
  go_wp2_with fail
  go_loopg [5, 7] cnt (fun kx so sx wr => ∃ i : Nat, sx = .int .i64 i ∧ i ≤ cnt ∧ cnt - i ≤ kx ∧ Hid (RNew intL 3 1 w1 wr so (besTo cols k i)) ∧ Hid ((besTo cols k i).length ≤ i))
  case atStart => exact ⟨0, by go_num, by omega, by omega, Lib.hid (RNew.nil w1), Lib.hid (by simp [besTo])⟩
  case round =>
    obtain ⟨i, rfl, hi, hkx, HN, HL⟩ := hrel
    obtain ⟨wa, rfl⟩ : ∃ wa : World, wa = wr := ⟨_, rfl⟩
    have hbl := HN.out.2.1
    have hsl := hbl.size
    have hf2 : w.heap.size < wa.heap.size := by omega
    have hf6 : n6 < wa.heap.size := by omega
    have hcf : ∀ u, wa.cell? ⟨w.heap.size, u, none⟩ = (#[.int .i64 cols, .int .i64 rows, .int .i64 side, .int .i64 radius, .int .i64 speed, .int .i64 ids, .int .i64 queue] : Array Value)[u]? := fun u => (hbl.cell (p := ⟨w.heap.size, u, none⟩) hs2).trans (HCF.out u)
    have hcg : ∀ u, wa.cell? ⟨n6, u, none⟩ = (#[.int .i64 g0, .int .i64 g1, .int .i64 g2, .int .i64 g3] : Array Value)[u]? := fun u => (hbl.cell (p := ⟨n6, u, none⟩) hs6).trans (HCG.out u)
    have x0 := hcf 0; simp at x0
    have x1 := hcf 1; simp at x1
    have x2 := hcf 2; simp at x2
    have x3 := hcf 3; simp at x3
    have x4 := hcf 4; simp at x4
    have x5 := hcf 5; simp at x5
    have x6 := hcf 6; simp at x6
    have y0 := hcg 0; simp at y0
    have y1 := hcg 1; simp at y1
    have y2 := hcg 2; simp at y2
    have y3 := hcg 3; simp at y3
    obtain ⟨z0, z1, z2⟩ := ltz hf2
    obtain ⟨z3, z4, z5⟩ := ltz hf6
    clear hbl hcf hcg
    by_cases hlt : i < cnt
    · have t1 : (i : Int) < (cnt : Int) := by omega
      have HST := Lib.hid (besTo_succ cols k i)
      obtain ⟨po, co, hpo⟩ := sl_frm HN.out.1
      subst hpo
      generalize hacc : besTo cols k i = acc at *
      have hal := HL.out
      clear HL hacc
      have HZI := Lib.hid (HZ.out i)
      have HTI := Lib.hid (HTW.out (zf i))
      have HNI := Lib.hid (fun W => rNoneR_any (twoF (g0, g1, g2, g3) (zf i)) W)
      have HB3 := Lib.hid (HB2.out i (by omega) t1)
      cases h1 : ((i : Int) == k) with
      | true =>
        have hne2 : ((i : Int) != k) = false := by simp at h1 ⊢; exact h1
        have hik : (i : Int) = k := by simpa using h1
        have he : nextB cols k i = false := by rw [hik]; exact besTo_self _ _
        rw [he] at HST
        have HS2 := Lib.hid HST.out
        clear he HST hik
        go_wp2_with fail
        refine wp_region_more (by kernel_rfl) (by kernel_rfl) ?_
        repeat (go_big_quiet_step ((first | (go_at_call 38; exact more_call (HZI.out _)) | (go_at_call 109; exact more_call (HTI.out _)) | (go_at_call 73; exact more_call (HNI.out _)))))
        refine wpQuiet_nil ?_
        rintro _ ⟨pq, rfl⟩
        go_wp2_with fail
        go_roundg (cnt - (i + 1))
        case measure => omega
        case rel => exact ⟨i + 1, by go_num, by omega, by omega, Lib.hid (by rw [HS2.out]; simpa using HN.out.grow (by repeat' (first | (with_reducible exact Below.refl _ _) | (with_reducible assumption) | (with_reducible refine below_drewN ?_ _) | (with_reducible refine below_more _ _ _ ?_ ?_) | (with_reducible refine Below.alloc ?_ ?_ _) | (with_reducible refine Below.drew ?_) | (with_reducible refine Below.setCell ?_ ?_ _) | go_size))), Lib.hid (by rw [HS2.out]; simp; omega)⟩
      | false =>
        have hne2 : ((i : Int) != k) = true := by simp at h1 ⊢; exact h1
        have hnn : ¬ (i : Int) = k := by simpa using h1
        have hbb := HB3.out hnn
        rw [show rectV ((zf i).1, (zf i).2.1, (zf i).2.2.1, (zf i).2.2.2) = rectV (zf i) from rfl] at HTI
        have HNJ := Lib.hid (fun W => by have := HNI.out W; rw [hbb] at this; exact this)
        clear hbb HB3 HNI
        generalize twoF (g0, g1, g2, g3) (zf i) = tz at *
        generalize zf (i : Int) = zi at *
        cases h2 : nextB cols k i with
        | false =>
          rw [h2] at HNJ HST
          simp only [Bool.not_false] at HNJ
          have HS2 := Lib.hid HST.out
          clear HST
          go_wp2_with fail
          refine wp_region_more (by kernel_rfl) (by kernel_rfl) ?_
          repeat (go_big_quiet_step ((first | (go_at_call 38; exact more_call (HZI.out _)) | (go_at_call 109; exact more_call (HTI.out _)) | (go_at_call 73; exact more_call (HNJ.out _)))))
          refine wpQuiet_nil ?_
          rintro _ ⟨pq, rfl⟩
          go_wp2_with fail
          go_roundg (cnt - (i + 1))
          case measure => omega
          case rel => exact ⟨i + 1, by go_num, by omega, by omega, Lib.hid (by rw [HS2.out]; simpa using HN.out.grow (by repeat' (first | (with_reducible exact Below.refl _ _) | (with_reducible assumption) | (with_reducible refine below_drewN ?_ _) | (with_reducible refine below_more _ _ _ ?_ ?_) | (with_reducible refine Below.alloc ?_ ?_ _) | (with_reducible refine Below.drew ?_) | (with_reducible refine Below.setCell ?_ ?_ _) | go_size))), Lib.hid (by rw [HS2.out]; simp; omega)⟩
        | true =>
          rw [h2] at HNJ HST
          simp only [Bool.not_true] at HNJ
          have HS2 := Lib.hid HST.out
          clear HST
          go_wp2_with fail
          refine wp_region_more (by kernel_rfl) (by kernel_rfl) ?_
          repeat (go_big_quiet_step ((first | (go_at_call 38; exact more_call (HZI.out _)) | (go_at_call 109; exact more_call (HTI.out _)) | (go_at_call 73; exact more_call (HNJ.out _)))))
          refine wpQuiet_nil ?_
          rintro _ ⟨pq, rfl⟩
          go_wp2_with (at_builtin; refine wpList_append_sl _ (by rfl) _ _ 53 (by rfl) 3 i0 _ 1 8 Try.underlying53 hi0 hz0 hz1 hz2 rfl (by omega) _ acc.length (cellsR intL acc) (by rfl) (HN.out.grow (by repeat' (first | (with_reducible exact Below.refl _ _) | (with_reducible assumption) | (with_reducible refine below_drewN ?_ _) | (with_reducible refine below_more _ _ _ ?_ ?_) | (with_reducible refine Below.alloc ?_ ?_ _) | (with_reducible refine Below.drew ?_) | (with_reducible refine Below.setCell ?_ ?_ _) | go_size))).1 ⟨_, 0, none⟩ 1 1 (intL i) (by rfl) (by rfl) (new_cellsN _ _ _ _ (by simp)) (intL_one _) (by omega) (by unfold maxLen; omega) (by omega) ?_; intro v' w4 hs4 ht4 ho4)
          have hm := (HN.out.grow (by repeat' (first | (with_reducible exact Below.refl _ _) | (with_reducible assumption) | (with_reducible refine below_drewN ?_ _) | (with_reducible refine below_more _ _ _ ?_ ?_) | (with_reducible refine Below.alloc ?_ ?_ _) | (with_reducible refine Below.drew ?_) | (with_reducible refine Below.setCell ?_ ?_ _) | go_size))).snoc hs4 ht4 ho4
          have HM := Lib.hid hm
          clear hs4 ht4 ho4 hm
          go_roundg (cnt - (i + 1))
          case measure => omega
          case rel => exact ⟨i + 1, by go_num, by omega, by omega, Lib.hid (by rw [HS2.out]; simpa using HM.out), Lib.hid (by rw [HS2.out]; simp; omega)⟩
    · have t1 : ¬ (i : Int) < (cnt : Int) := by omega
      obtain rfl : i = cnt := by omega
      go_wp2_with fail
      go_ret
      exact ⟨_, rfl, HN.out.since HB1.out⟩
end Go.Proofs.Ytcnclcfipabimaa
