/-
  Chapter 22: state: what a case speaks of. Condition: what was told can be read.
-/
import Derived.Test.YtcnclcfipabimaaMgc
namespace Go.Proofs.Ytcnclcfipabimaa
open Go.RowKit

/-- A world in which of what was there a box alone has turned, in its cell 6. -/
structure BoxSt (w3 w : World) (B : Nat) (v : Value) : Prop where
  t : Turned w3 w (some B)
  c6 : w.cell? ⟨B, 6, none⟩ = some v
  cs : ∀ u, u ≠ 6 → w.cell? ⟨B, u, none⟩ = w3.cell? ⟨B, u, none⟩
  fz : ∀ u, w.frozen? ⟨B, u, none⟩ = w3.frozen? ⟨B, u, none⟩
theorem BoxSt.cell {w3 w : World} {B : Nat} {v : Value} (h : BoxSt w3 w B v) {b o : Nat} (hb : b < w3.heap.size) (hne : b ≠ B) : w.cell? ⟨b, o, none⟩ = w3.cell? ⟨b, o, none⟩ :=
  World.cell?_of_block (w := w3) (a := ⟨b, o, none⟩) (h.t.block b hb (by intro e; exact hne (Option.some.inj e)))
theorem BoxSt.grow {w3 w w' : World} {B : Nat} {v : Value} (h : BoxSt w3 w B v) (hB : B < w3.heap.size) (hb : Below w.heap.size w w') : BoxSt w3 w' B v := by
  have hBw : B < w.heap.size := Nat.lt_of_lt_of_le hB h.t.size
  refine ⟨h.t.then (Turned.of_bel hb), (hb.cell (p := ⟨B, 6, none⟩) hBw).trans h.c6, fun u hu => (hb.cell (p := ⟨B, u, none⟩) hBw).trans (h.cs u hu), fun u => ?_⟩
  rw [← h.fz u]
  exact World.frozen?_of_block (w := w) (a := ⟨B, u, none⟩) (hb.block B hBw)
theorem BoxSt.app {w3 w w' : World} {B : Nat} {v : Value} {own : Option Nat} (h : BoxSt w3 w B v) (hB : B < w3.heap.size) (ht : Turned w w' own) (ho : ∀ g, own = some g → w3.heap.size ≤ g) : BoxSt w3 w' B v := by
  have hBw : B < w.heap.size := Nat.lt_of_lt_of_le hB h.t.size
  have hk : w'.heap[B]? = w.heap[B]? := ht.block B hBw (fun e => by have := ho B e.symm; omega)
  refine ⟨⟨ht.os.trans h.t.os, ht.tape.trans h.t.tape, ht.output.trans h.t.output, Nat.le_trans h.t.size ht.size, fun k hk hne => (ht.block k (Nat.lt_of_lt_of_le hk h.t.size) (fun e => by have := ho k e.symm; omega)).trans (h.t.block k hk hne)⟩, (World.cell?_of_block (w := w) (a := ⟨B, 6, none⟩) hk).trans h.c6, fun u hu => (World.cell?_of_block (w := w) (a := ⟨B, u, none⟩) hk).trans (h.cs u hu), fun u => ?_⟩
  rw [← h.fz u]
  exact World.frozen?_of_block (w := w) (a := ⟨B, u, none⟩) hk
theorem BoxSt.store {w3 w : World} {B : Nat} {v : Value} (h : BoxSt w3 w B v) (v' : Value) : BoxSt w3 (w.setCell ⟨B, 6, none⟩ v') B v' := by
  have hh : ∃ c e fr, w.heap[B]? = some (.cells c e fr) ∧ 6 < c.size := by
    have h6 := h.c6
    simp only [World.cell?] at h6
    split at h6
    · rename_i c e fr hb
      refine ⟨c, e, fr, hb, ?_⟩
      simp at h6
      exact (Array.getElem?_eq_some_iff.1 h6).1
    · cases h6
  obtain ⟨c, e, fr, hb, hc⟩ := hh
  have hs : (w.setCell ⟨B, 6, none⟩ v').heap[B]? = some (.cells (c.setIfInBounds 6 v') e fr) := by simp [World.setCell, Array.getElem?_modify, hb]
  refine ⟨h.t.then (setCells_turned B [v'] 6 w), ?_, fun u hu => ?_, fun u => ?_⟩
  · simp only [World.cell?, hs]
    simp [hc]
  · rw [← h.cs u hu]
    simp only [World.cell?, hs, hb]
    simp [Array.getElem?_setIfInBounds_ne (Ne.symm hu)]
  · rw [← h.fz u]
    simp only [World.frozen?, hs, hb]
theorem BoxSt.frozen {w3 w : World} {B : Nat} {v : Value} (h : BoxSt w3 w B v) {b o : Nat} (hb : b < w3.heap.size) (hne : b ≠ B) : w.frozen? ⟨b, o, none⟩ = w3.frozen? ⟨b, o, none⟩ :=
  World.frozen?_of_block (w := w3) (a := ⟨b, o, none⟩) (h.t.block b hb (by intro e; exact hne (Option.some.inj e)))
theorem BoxSt.start {w3 : World} {B : Nat} {v : Value} (h : w3.cell? ⟨B, 6, none⟩ = some v) : BoxSt w3 w3 B v := ⟨Turned.of_bel (Below.refl _ _), h, fun _ _ => rfl, fun _ => rfl⟩
theorem BoxSt.below {W w3 w : World} {B : Nat} {v : Value} (h : BoxSt w3 w B v) (hW : Below W.heap.size W w3) (hB : W.heap.size ≤ B) : Below W.heap.size W w := Turned.below_new h.t (fun k hk => by cases hk; exact hB) hW hW.size
/-- What is left of what was told: at most twenty, of each at most fifty. -/
def cutG (g : Gh) : Gh := ⟨g.f, g.t, g.p, min g.n 50, g.c⟩
def cutL (L : List Gh) : List Gh := (L.take 20).map cutG
theorem few22_form (g : Gh) (l : List Bun) (w : World) (h : BIn w (.slice g.p g.n g.c) l) :
    Calls Try.prog 19 #[.slice g.p g.n g.c] w fun e w' => e = .returned (.slice g.p (min g.n 50) g.c) ∧ w = w' := by
  obtain ⟨p, cap, hv, hm, _, hc, _⟩ := h
  simp only [Value.slice.injEq] at hv
  obtain ⟨_, h2, h3⟩ := hv
  unfold maxLen at hm
  rw [h2, h3]
  generalize g.p = gp
  clear h2 h3
  by_cases h6 : 50 < l.length
  · have t : (50 : Int) < (l.length : Int) := by omega
    have hc6 : 50 ≤ cap := by omega
    rw [Nat.min_eq_right (by omega)]
    go_enter Try.func19, Try.ntmps19
    go_wp2
    go_ret
    exact ⟨rfl, rfl⟩
  · have t : ¬ (50 : Int) < (l.length : Int) := by omega
    rw [Nat.min_eq_left (by omega)]
    go_enter Try.func19, Try.ntmps19
    go_wp2
    go_ret
    exact ⟨rfl, rfl⟩
theorem boxes_fz (W : World) (a6 a7 a8 : Array Value) (t6 t7 t8 : TypeId) (u : Nat) : (((W.alloc (.cells a6 t6)).alloc (.cells a7 t7)).alloc (.cells a8 t8)).frozen? ⟨W.heap.size + 1, u, none⟩ = false := by
  have e7 : (((W.alloc (.cells a6 t6)).alloc (.cells a7 t7)).alloc (.cells a8 t8)).heap[W.heap.size + 1]? = some (.cells a7 t7) :=
    (((Below.refl _ ((W.alloc (.cells a6 t6)).alloc (.cells a7 t7))).alloc (Nat.le_refl _) (.cells a8 t8)).block (W.heap.size + 1) (by simp)).trans (heap_alloc_new_at _ _ _ (by simp))
  unfold World.frozen?; rw [e7]; simp
theorem cutG_take {L : List Gh} {k : Nat} {g : Gh} (h : L[k]? = some g) : (L.take (k + 1)).map cutG = (L.take k).map cutG ++ [cutG g] := by
  have hk := (List.getElem?_eq_some_iff.1 h).1
  rw [List.take_succ_eq_append_getElem hk, List.map_append, (List.getElem?_eq_some_iff.1 h).2]
  rfl
theorem Sl.grow {w w' : World} {e : TypeId} {size : Nat} {v : Value} {n : Nat} {xs : List Value} (h : Sl w e size v n xs) (hb : Below w.heap.size w w') : Sl w' e size v n xs := h.keep fun g hg => hb.block g (sl_lt h hg)

set_option maxRecDepth 100000 in
set_option maxHeartbeats 4000000 in
theorem state_any (cols rows side radius speed ids queue z t : Int) (p : Option Addr) (cap : Nat) (r : Rcd) (L : List Gh) (W : World) (hL : RIn ghL W (.slice p L.length cap) L) (hO : ∀ g ∈ L, ∃ l, BIn W (.slice g.p g.n g.c) l) :
    Calls Try.prog 24 #[.agg #[.int .i64 cols, .int .i64 rows, .int .i64 side, .int .i64 radius, .int .i64 speed, .int .i64 ids, .int .i64 queue, .int .i64 z, .int .i64 t, .slice p L.length cap, .int .i64 r.k, .int .i64 r.n, .int .i64 r.f, .slice r.pc r.nc r.cc, .int .i64 (r.b).s, .int .i64 (r.b).i, .int .i64 (r.b).g, .int .i64 (r.b).m, .int .i64 (r.b).x, .int .i64 (r.b).y, .int .i64 (r.b).vx, .int .i64 (r.b).vy, .int .i64 (r.b).hp, .int .i64 (r.b).pw, .int .i64 (r.b).lf, .slice r.pl r.nl r.cl, .int .i64 r.s.ep, .int .i64 r.s.t, .slice r.s.po r.s.no r.s.co, .slice r.s.pd r.s.nd r.s.cd, .slice r.s.pu r.s.nu r.s.cu, .slice r.s.pi r.s.ni r.s.ci, .slice r.s.pg r.s.ng r.s.cg, .int .i64 r.s.nx]] W fun e w' => ∃ p' n' c', e = .returned (.agg #[.int .i64 0, .int .i64 t, .slice none 0 0, .slice none 0 0, .slice none 0 0, .slice none 0 0, .slice p' n' c', .int .i64 0]) ∧ RNew ghL 64 3 W w' (.slice p' n' c') (cutL L) := by
  obtain ⟨i0, hi0, hz0, hz1, hz2⟩ := info_partsG info_gh
  have HL := Lib.hid hL
  have HO := Lib.hid hO
  have hm : L.length ≤ 9223372036854775807 := by obtain ⟨_, _, _, h, _⟩ := hL; unfold maxLen at h; omega
  clear hL hO
  go_enter Try.func24, Try.ntmps24
  go_wp2_with fail
  generalize hw3 : World.alloc (World.alloc _ _) _ = w3
  have hfz := boxes_fz W #[.int .i64 cols, .int .i64 rows, .int .i64 side, .int .i64 radius, .int .i64 speed, .int .i64 ids, .int .i64 queue, .int .i64 z, .int .i64 t, .slice p L.length cap, .int .i64 r.k, .int .i64 r.n, .int .i64 r.f, .slice r.pc r.nc r.cc, .int .i64 (r.b).s, .int .i64 (r.b).i, .int .i64 (r.b).g, .int .i64 (r.b).m, .int .i64 (r.b).x, .int .i64 (r.b).y, .int .i64 (r.b).vx, .int .i64 (r.b).vy, .int .i64 (r.b).hp, .int .i64 (r.b).pw, .int .i64 (r.b).lf, .slice r.pl r.nl r.cl, .int .i64 r.s.ep, .int .i64 r.s.t, .slice r.s.po r.s.no r.s.co, .slice r.s.pd r.s.nd r.s.cd, .slice r.s.pu r.s.nu r.s.cu, .slice r.s.pi r.s.ni r.s.ci, .slice r.s.pg r.s.ng r.s.cg, .int .i64 r.s.nx] #[.int .i64 0, .int .i64 0, .slice none 0 0, .slice none 0 0, .slice none 0 0, .slice none 0 0, .slice none 0 0, .int .i64 0] #[.int .i64 0, .int .i64 t, .slice none 0 0, .slice none 0 0, .slice none 0 0, .slice none 0 0, .slice none 0 0, .int .i64 0] 50 46 46
  obtain ⟨w1, hw1, hb1, k1, k2, k3, g1, g3, hsz⟩ := three_boxes W #[.int .i64 cols, .int .i64 rows, .int .i64 side, .int .i64 radius, .int .i64 speed, .int .i64 ids, .int .i64 queue, .int .i64 z, .int .i64 t, .slice p L.length cap, .int .i64 r.k, .int .i64 r.n, .int .i64 r.f, .slice r.pc r.nc r.cc, .int .i64 (r.b).s, .int .i64 (r.b).i, .int .i64 (r.b).g, .int .i64 (r.b).m, .int .i64 (r.b).x, .int .i64 (r.b).y, .int .i64 (r.b).vx, .int .i64 (r.b).vy, .int .i64 (r.b).hp, .int .i64 (r.b).pw, .int .i64 (r.b).lf, .slice r.pl r.nl r.cl, .int .i64 r.s.ep, .int .i64 r.s.t, .slice r.s.po r.s.no r.s.co, .slice r.s.pd r.s.nd r.s.cd, .slice r.s.pu r.s.nu r.s.cu, .slice r.s.pi r.s.ni r.s.ci, .slice r.s.pg r.s.ng r.s.cg, .int .i64 r.s.nx] #[.int .i64 0, .int .i64 0, .slice none 0 0, .slice none 0 0, .slice none 0 0, .slice none 0 0, .slice none 0 0, .int .i64 0] #[.int .i64 0, .int .i64 t, .slice none 0 0, .slice none 0 0, .slice none 0 0, .slice none 0 0, .slice none 0 0, .int .i64 0] 50 46 46
  rw [hw3] at hfz
  rw [hw3] at hw1
  subst hw1
  have s1 : W.heap.size < w1.heap.size := by omega
  have s2 : W.heap.size + 1 < w1.heap.size := by omega
  have s3 : W.heap.size + 1 + 1 < w1.heap.size := by omega
  have x9 := k1 9
  simp at x9
  have HB1 := Lib.hid hb1
  have K1 := Lib.hid x9
  have K2 := Lib.hid k2
  have K3 := Lib.hid k3
  have G2 := Lib.hid hfz
  have G3 := Lib.hid g3
  have HST := Lib.hid (BoxSt.start (k3 6))
  simp at HST
  clear hw3 hb1 k1 k2 k3 g1 g3 hfz x9 hsz
  go_loopg [4] L.length (fun kx sk wr => ∃ (k : Nat) (v : Value), sk = .int .i64 k ∧ k ≤ L.length ∧ k ≤ 20 ∧ L.length - k ≤ kx ∧ Hid (BoxSt w1 wr (W.heap.size + 1 + 1) v) ∧ Hid (Sl wr 64 3 v k (cellsR ghL ((L.take k).map cutG))) ∧ Hid (∀ g, v.ownBlock = some g → w1.heap.size ≤ g))
  case atStart => exact ⟨0, .slice none 0 0, by go_num, by omega, by omega, by omega, HST, Lib.hid ⟨by simp [cellsR], .inl ⟨rfl, rfl⟩⟩, Lib.hid (fun g hg => by cases hg)⟩
  case round =>
    clear HST
    obtain ⟨k, v, rfl, hk, hk20, hkx, HBX, HS, HOW⟩ := hrel
    obtain ⟨wa, rfl⟩ : ∃ wa : World, wa = wr := ⟨_, rfl⟩
    have hbw : Below W.heap.size W wa := HBX.out.below HB1.out (by omega)
    have sz := HBX.out.t.size
    have y9 := (HBX.out.cell (b := W.heap.size) (o := 9) s1 (by omega)).trans K1.out
    have sa1 : W.heap.size < wa.heap.size := by omega
    have sa3 : W.heap.size + 1 + 1 < wa.heap.size := by omega
    have y6 := HBX.out.c6
    obtain ⟨z0, z1, z2⟩ := ltz sa1
    obtain ⟨z3, z4, z5⟩ := ltz sa3
    have HBW := Lib.hid hbw
    obtain ⟨pv, cv, hpv⟩ := sl_frm HS.out
    subst hpv
    by_cases hlt : k < L.length
    · have t1 : (k : Int) < (L.length : Int) := by omega
      by_cases h20 : k < 20
      · have t2 : (k : Int) < 20 := by omega
        obtain ⟨g, hg⟩ : ∃ g, L[k]? = some g := ⟨_, List.getElem?_eq_getElem hlt⟩
        obtain ⟨gb, ob, cb, hv, hgb, hcb⟩ := (HL.out.keep hbw).cells ghL_len hg
        simp only [Value.slice.injEq, true_and] at hv
        obtain ⟨rfl, rfl⟩ := hv
        have c0 := hcb 0 _ rfl
        have c1 := hcb 1 _ rfl
        have c2 := hcb 2 _ rfl
        simp only [Nat.add_zero] at c0
        obtain ⟨lg, hlg⟩ := HO.out g (List.mem_of_getElem? hg)
        have HFW := Lib.hid (fun W' (hW : Below W.heap.size W W') => few22_form g lg W' (hlg.keep hW))
        have HTK := Lib.hid (cutG_take hg)
        obtain ⟨y0, y1, y2⟩ := ltz hgb
        clear hcb hg hlg
        have hacc : ((L.take k).map cutG).length = k := by simp; omega
        generalize (L.take k).map cutG = acc at *
        go_wp2_with fail
        refine (HFW.out _ (by repeat' (first | (with_reducible exact Below.refl _ _) | (with_reducible assumption) | (with_reducible refine below_drewN ?_ _) | (with_reducible refine below_more _ _ _ ?_ ?_) | (with_reducible refine Below.alloc ?_ ?_ _) | (with_reducible refine Below.drew ?_) | (with_reducible refine Below.setCell ?_ ?_ _) | go_size))).mono ?_; rintro e w' ⟨rfl, rfl⟩
        go_wp2_with (at_builtin; refine wpList_append_sl _ (by rfl) _ _ 36 (by rfl) 64 i0 _ 3 40 Try.underlying36 hi0 hz0 hz1 hz2 rfl (by omega) _ k (cellsR ghL acc) (by rfl) (HS.out.grow (by repeat' (first | (with_reducible exact Below.refl _ _) | (with_reducible assumption) | (with_reducible refine below_drewN ?_ _) | (with_reducible refine below_more _ _ _ ?_ ?_) | (with_reducible refine Below.alloc ?_ ?_ _) | (with_reducible refine Below.drew ?_) | (with_reducible refine Below.setCell ?_ ?_ _) | go_size))) ⟨_, 0, none⟩ 1 1 (ghL (cutG g)) (by rfl) (by rfl) (new_cellsN _ _ _ _ (by simp)) (ghL_one _) (by omega) (by unfold maxLen; omega) (by omega) ?_; intro v4 w4 hs4 ht4 ho4; obtain ⟨p4, c4, rfl⟩ := sl_frm hs4; have hb4 := ((HBX.out.grow s3 (by repeat' (first | (with_reducible exact Below.refl _ _) | (with_reducible assumption) | (with_reducible refine below_drewN ?_ _) | (with_reducible refine below_more _ _ _ ?_ ?_) | (with_reducible refine Below.alloc ?_ ?_ _) | (with_reducible refine Below.drew ?_) | (with_reducible refine Below.setCell ?_ ?_ _) | go_size))).app s3 ht4 HOW.out); have q6 := hb4.c6; have f6 := (hb4.fz 6).trans (G3.out 6); have u3 := Nat.lt_of_lt_of_le s3 hb4.t.size)
        have hz4 := ht4.size
        have own4 : ∀ g', (Value.slice p4 (k + 1) c4).ownBlock = some g' → w1.heap.size ≤ g' := fun g' hg' => by
          rcases ho4 with e | ⟨g5, e, hg5⟩
          · exact HOW.out g' (by rw [← e]; exact hg')
          · rw [e] at hg'; cases hg'; simp at hg5; omega
        go_roundg (L.length - (k + 1))
        case measure => omega
        case rel => exact ⟨k + 1, _, by go_num, by omega, by omega, by omega, Lib.hid (hb4.store _), Lib.hid (by
          rw [HTK.out, cellsR_app, cellsR_one]
          exact hs4.keep fun g' hg' => Below.heap_setCell _ _ _ _ (fun e => by have := own4 g' hg'; simp at e; omega)), Lib.hid own4⟩
      · have t2 : ¬ (k : Int) < 20 := by omega
        have hfin : (L.take k).map cutG = cutL L := by unfold cutL; rw [show k = 20 by omega]
        have HFN := Lib.hid hfin
        clear hfin
        have r0 := (HBX.out.cs 0 (by omega)).trans (K3.out 0); simp at r0; have r1 := (HBX.out.cs 1 (by omega)).trans (K3.out 1); simp at r1; have r2 := (HBX.out.cs 2 (by omega)).trans (K3.out 2); simp at r2; have r3 := (HBX.out.cs 3 (by omega)).trans (K3.out 3); simp at r3; have r4 := (HBX.out.cs 4 (by omega)).trans (K3.out 4); simp at r4; have r5 := (HBX.out.cs 5 (by omega)).trans (K3.out 5); simp at r5; have r7 := (HBX.out.cs 7 (by omega)).trans (K3.out 7); simp at r7
        have m0 := (HBX.out.cell (b := W.heap.size + 1) (o := 0) s2 (by omega)).trans (K2.out 0); simp at m0; have m1 := (HBX.out.cell (b := W.heap.size + 1) (o := 1) s2 (by omega)).trans (K2.out 1); simp at m1; have m2 := (HBX.out.cell (b := W.heap.size + 1) (o := 2) s2 (by omega)).trans (K2.out 2); simp at m2; have m3 := (HBX.out.cell (b := W.heap.size + 1) (o := 3) s2 (by omega)).trans (K2.out 3); simp at m3; have m4 := (HBX.out.cell (b := W.heap.size + 1) (o := 4) s2 (by omega)).trans (K2.out 4); simp at m4; have m5 := (HBX.out.cell (b := W.heap.size + 1) (o := 5) s2 (by omega)).trans (K2.out 5); simp at m5; have m6 := (HBX.out.cell (b := W.heap.size + 1) (o := 6) s2 (by omega)).trans (K2.out 6); simp at m6; have m7 := (HBX.out.cell (b := W.heap.size + 1) (o := 7) s2 (by omega)).trans (K2.out 7); simp at m7
        have f0 := (HBX.out.frozen (b := W.heap.size + 1) (o := 0) s2 (by omega)).trans (G2.out 0); have f1 := (HBX.out.frozen (b := W.heap.size + 1) (o := 1) s2 (by omega)).trans (G2.out 1); have f2 := (HBX.out.frozen (b := W.heap.size + 1) (o := 2) s2 (by omega)).trans (G2.out 2); have f3 := (HBX.out.frozen (b := W.heap.size + 1) (o := 3) s2 (by omega)).trans (G2.out 3); have f4 := (HBX.out.frozen (b := W.heap.size + 1) (o := 4) s2 (by omega)).trans (G2.out 4); have f5 := (HBX.out.frozen (b := W.heap.size + 1) (o := 5) s2 (by omega)).trans (G2.out 5); have f6 := (HBX.out.frozen (b := W.heap.size + 1) (o := 6) s2 (by omega)).trans (G2.out 6); have f7 := (HBX.out.frozen (b := W.heap.size + 1) (o := 7) s2 (by omega)).trans (G2.out 7)
        have sa2 : W.heap.size + 1 < wa.heap.size := by omega
        obtain ⟨z6, z7, z8⟩ := ltz sa2
        go_wp2_with fail
        refine bodyPost_ret (v := .agg #[.int .i64 0, .int .i64 t, .slice none 0 0, .slice none 0 0, .slice none 0 0, .slice none 0 0, .slice pv k cv, .int .i64 0]) (by simp [results, Try.results24, go_sem, *]) rfl ⟨_, _, _, rfl, ?_, (by repeat' (first | (with_reducible exact Below.refl _ _) | (with_reducible assumption) | (with_reducible refine below_drewN ?_ _) | (with_reducible refine below_more _ _ _ ?_ ?_) | (with_reducible refine Below.alloc ?_ ?_ _) | (with_reducible refine Below.drew ?_) | (with_reducible refine Below.setCell ?_ ?_ _) | go_size)), fun g hg => ?_⟩
        · rw [← HFN.out]
          have hkk : ((L.take k).map cutG).length = k := by simp; omega
          rw [hkk]
          exact HS.out.keep fun g hg => by
            have := HOW.out g hg
            simp [World.setCell, Array.getElem?_modify, show ¬ W.heap.size + 1 = g by omega]
        · have := HOW.out g hg; omega
    · have t1 : ¬ (k : Int) < (L.length : Int) := by omega
      have hfin : (L.take k).map cutG = cutL L := by unfold cutL; rw [List.take_of_length_le (by omega), List.take_of_length_le (by omega)]
      have HFN := Lib.hid hfin
      clear hfin
      have r0 := (HBX.out.cs 0 (by omega)).trans (K3.out 0); simp at r0; have r1 := (HBX.out.cs 1 (by omega)).trans (K3.out 1); simp at r1; have r2 := (HBX.out.cs 2 (by omega)).trans (K3.out 2); simp at r2; have r3 := (HBX.out.cs 3 (by omega)).trans (K3.out 3); simp at r3; have r4 := (HBX.out.cs 4 (by omega)).trans (K3.out 4); simp at r4; have r5 := (HBX.out.cs 5 (by omega)).trans (K3.out 5); simp at r5; have r7 := (HBX.out.cs 7 (by omega)).trans (K3.out 7); simp at r7
      have m0 := (HBX.out.cell (b := W.heap.size + 1) (o := 0) s2 (by omega)).trans (K2.out 0); simp at m0; have m1 := (HBX.out.cell (b := W.heap.size + 1) (o := 1) s2 (by omega)).trans (K2.out 1); simp at m1; have m2 := (HBX.out.cell (b := W.heap.size + 1) (o := 2) s2 (by omega)).trans (K2.out 2); simp at m2; have m3 := (HBX.out.cell (b := W.heap.size + 1) (o := 3) s2 (by omega)).trans (K2.out 3); simp at m3; have m4 := (HBX.out.cell (b := W.heap.size + 1) (o := 4) s2 (by omega)).trans (K2.out 4); simp at m4; have m5 := (HBX.out.cell (b := W.heap.size + 1) (o := 5) s2 (by omega)).trans (K2.out 5); simp at m5; have m6 := (HBX.out.cell (b := W.heap.size + 1) (o := 6) s2 (by omega)).trans (K2.out 6); simp at m6; have m7 := (HBX.out.cell (b := W.heap.size + 1) (o := 7) s2 (by omega)).trans (K2.out 7); simp at m7
      have f0 := (HBX.out.frozen (b := W.heap.size + 1) (o := 0) s2 (by omega)).trans (G2.out 0); have f1 := (HBX.out.frozen (b := W.heap.size + 1) (o := 1) s2 (by omega)).trans (G2.out 1); have f2 := (HBX.out.frozen (b := W.heap.size + 1) (o := 2) s2 (by omega)).trans (G2.out 2); have f3 := (HBX.out.frozen (b := W.heap.size + 1) (o := 3) s2 (by omega)).trans (G2.out 3); have f4 := (HBX.out.frozen (b := W.heap.size + 1) (o := 4) s2 (by omega)).trans (G2.out 4); have f5 := (HBX.out.frozen (b := W.heap.size + 1) (o := 5) s2 (by omega)).trans (G2.out 5); have f6 := (HBX.out.frozen (b := W.heap.size + 1) (o := 6) s2 (by omega)).trans (G2.out 6); have f7 := (HBX.out.frozen (b := W.heap.size + 1) (o := 7) s2 (by omega)).trans (G2.out 7)
      have sa2 : W.heap.size + 1 < wa.heap.size := by omega
      obtain ⟨z6, z7, z8⟩ := ltz sa2
      go_wp2_with fail
      refine bodyPost_ret (v := .agg #[.int .i64 0, .int .i64 t, .slice none 0 0, .slice none 0 0, .slice none 0 0, .slice none 0 0, .slice pv k cv, .int .i64 0]) (by simp [results, Try.results24, go_sem, *]) rfl ⟨_, _, _, rfl, ?_, (by repeat' (first | (with_reducible exact Below.refl _ _) | (with_reducible assumption) | (with_reducible refine below_drewN ?_ _) | (with_reducible refine below_more _ _ _ ?_ ?_) | (with_reducible refine Below.alloc ?_ ?_ _) | (with_reducible refine Below.drew ?_) | (with_reducible refine Below.setCell ?_ ?_ _) | go_size)), fun g hg => ?_⟩
      · rw [← HFN.out]
        have hkk : ((L.take k).map cutG).length = k := by simp; omega
        rw [hkk]
        exact HS.out.keep fun g hg => by
          have := HOW.out g hg
          simp [World.setCell, Array.getElem?_modify, show ¬ W.heap.size + 1 = g by omega]
      · have := HOW.out g hg; omega
end Go.Proofs.Ytcnclcfipabimaa
