/-
  Chapter 22: state: what a case speaks of. Condition: what was told can be read.
  Chapter 21's reference: Same of ghosts, of states that have nothing but ghosts; Beside of a map that is none. Condition: what was told can be read.
  Loads of a whole case, and of a whole record, left whole. No condition.
  Chapter 22: what one told, read in a world; Missing and Near of a state with nothing but ghosts; the same of the reference. Condition: the world may be; what was told can be read.
-/
import Derived.Test.YtcnclcfipabimaaMgc
import Derived.Test.YtcnclcfipabimaaMsn
import Derived.Test.YtcnclcfipabimaaMgr
import Derived.Test.YtcnclcfipabimaaMzn
namespace Go.Proofs.Ytcnclcfipabimaa
open Go.RowKit

/-- A world in which of what was there a box alone has turned, in its cell 6. -/
structure BoxSt (w3 w : World) (B : Nat) (v : Value) : Prop where
  t : Turned w3 w (some B)
  c6 : w.cell? ⟨B, 6, none⟩ = some v
  cs : ∀ u, u ≠ 6 → w.cell? ⟨B, u, none⟩ = w3.cell? ⟨B, u, none⟩
  fz : ∀ u, w.frozen? ⟨B, u, none⟩ = w3.frozen? ⟨B, u, none⟩
theorem BoxSt.cell {w3 w : World} {B : Nat} {v : Value} (h : BoxSt w3 w B v) {b o : Nat} (hb : b < w3.heap.size) (hne : b ≠ B) : w.cell? ⟨b, o, none⟩ = w3.cell? ⟨b, o, none⟩ :=
  World.cell?_of_block (w := w3) (a := ⟨b, o, none⟩) (h.t.block b hb (by intro e; exact hne (Option.some.inj e)))
theorem BoxSt.grow {w3 w w' : World} {B : Nat} {v : Value} (h : BoxSt w3 w B v) (hB : B < w3.heap.size) (hb : Below w.heap.size w w') : BoxSt w3 w' B v := by
  have hBw : B < w.heap.size := Nat.lt_of_lt_of_le hB h.t.size
  refine ⟨h.t.then (Turned.of_bel hb), (hb.cell (p := ⟨B, 6, none⟩) hBw).trans h.c6, fun u hu => (hb.cell (p := ⟨B, u, none⟩) hBw).trans (h.cs u hu), fun u => ?_⟩
  rw [← h.fz u]
  exact World.frozen?_of_block (w := w) (a := ⟨B, u, none⟩) (hb.block B hBw)
theorem BoxSt.app {w3 w w' : World} {B : Nat} {v : Value} {own : Option Nat} (h : BoxSt w3 w B v) (hB : B < w3.heap.size) (ht : Turned w w' own) (ho : ∀ g, own = some g → w3.heap.size ≤ g) : BoxSt w3 w' B v := by
  have hBw : B < w.heap.size := Nat.lt_of_lt_of_le hB h.t.size
  have hk : w'.heap[B]? = w.heap[B]? := ht.block B hBw (fun e => by have := ho B e.symm; omega)
  refine ⟨⟨ht.os.trans h.t.os, ht.tape.trans h.t.tape, ht.output.trans h.t.output, Nat.le_trans h.t.size ht.size, fun k hk hne => (ht.block k (Nat.lt_of_lt_of_le hk h.t.size) (fun e => by have := ho k e.symm; omega)).trans (h.t.block k hk hne)⟩, (World.cell?_of_block (w := w) (a := ⟨B, 6, none⟩) hk).trans h.c6, fun u hu => (World.cell?_of_block (w := w) (a := ⟨B, u, none⟩) hk).trans (h.cs u hu), fun u => ?_⟩
  rw [← h.fz u]
  exact World.frozen?_of_block (w := w) (a := ⟨B, u, none⟩) hk
theorem BoxSt.store {w3 w : World} {B : Nat} {v : Value} (h : BoxSt w3 w B v) (v' : Value) : BoxSt w3 (w.setCell ⟨B, 6, none⟩ v') B v' := by
  have hh : ∃ c e fr, w.heap[B]? = some (.cells c e fr) ∧ 6 < c.size := by
    have h6 := h.c6
    simp only [World.cell?] at h6
    split at h6
    · rename_i c e fr hb
      refine ⟨c, e, fr, hb, ?_⟩
      simp at h6
      exact (Array.getElem?_eq_some_iff.1 h6).1
    · cases h6
  obtain ⟨c, e, fr, hb, hc⟩ := hh
  have hs : (w.setCell ⟨B, 6, none⟩ v').heap[B]? = some (.cells (c.setIfInBounds 6 v') e fr) := by simp [World.setCell, Array.getElem?_modify, hb]
  refine ⟨h.t.then (setCells_turned B [v'] 6 w), ?_, fun u hu => ?_, fun u => ?_⟩
  · simp only [World.cell?, hs]
    simp [hc]
  · rw [← h.cs u hu]
    simp only [World.cell?, hs, hb]
    simp [Array.getElem?_setIfInBounds_ne (Ne.symm hu)]
  · rw [← h.fz u]
    simp only [World.frozen?, hs, hb]
theorem BoxSt.frozen {w3 w : World} {B : Nat} {v : Value} (h : BoxSt w3 w B v) {b o : Nat} (hb : b < w3.heap.size) (hne : b ≠ B) : w.frozen? ⟨b, o, none⟩ = w3.frozen? ⟨b, o, none⟩ :=
  World.frozen?_of_block (w := w3) (a := ⟨b, o, none⟩) (h.t.block b hb (by intro e; exact hne (Option.some.inj e)))
theorem BoxSt.start {w3 : World} {B : Nat} {v : Value} (h : w3.cell? ⟨B, 6, none⟩ = some v) : BoxSt w3 w3 B v := ⟨Turned.of_bel (Below.refl _ _), h, fun _ _ => rfl, fun _ => rfl⟩
theorem BoxSt.below {W w3 w : World} {B : Nat} {v : Value} (h : BoxSt w3 w B v) (hW : Below W.heap.size W w3) (hB : W.heap.size ≤ B) : Below W.heap.size W w := Turned.below_new h.t (fun k hk => by cases hk; exact hB) hW hW.size
/-- What is left of what was told: at most twenty, of each at most fifty. -/
def cutG (g : Gh) : Gh := ⟨g.f, g.t, g.p, min g.n 50, g.c⟩
def cutL (L : List Gh) : List Gh := (L.take 20).map cutG
theorem few22_form (g : Gh) (l : List Bun) (w : World) (h : BIn w (.slice g.p g.n g.c) l) :
    Calls Try.prog 19 #[.slice g.p g.n g.c] w fun e w' => e = .returned (.slice g.p (min g.n 50) g.c) ∧ w = w' := by
  obtain ⟨p, cap, hv, hm, _, hc, _⟩ := h
  simp only [Value.slice.injEq] at hv
  obtain ⟨_, h2, h3⟩ := hv
  unfold maxLen at hm
  rw [h2, h3]
  generalize g.p = gp
  clear h2 h3
  by_cases h6 : 50 < l.length
  · have t : (50 : Int) < (l.length : Int) := by omega
    have hc6 : 50 ≤ cap := by omega
    rw [Nat.min_eq_right (by omega)]
    go_enter Try.func19, Try.ntmps19
    go_wp2
    go_ret
    exact ⟨rfl, rfl⟩
  · have t : ¬ (50 : Int) < (l.length : Int) := by omega
    rw [Nat.min_eq_left (by omega)]
    go_enter Try.func19, Try.ntmps19
    go_wp2
    go_ret
    exact ⟨rfl, rfl⟩
theorem boxes_fz (W : World) (a6 a7 a8 : Array Value) (t6 t7 t8 : TypeId) (u : Nat) : (((W.alloc (.cells a6 t6)).alloc (.cells a7 t7)).alloc (.cells a8 t8)).frozen? ⟨W.heap.size + 1, u, none⟩ = false := by
  have e7 : (((W.alloc (.cells a6 t6)).alloc (.cells a7 t7)).alloc (.cells a8 t8)).heap[W.heap.size + 1]? = some (.cells a7 t7) :=
    (((Below.refl _ ((W.alloc (.cells a6 t6)).alloc (.cells a7 t7))).alloc (Nat.le_refl _) (.cells a8 t8)).block (W.heap.size + 1) (by simp)).trans (heap_alloc_new_at _ _ _ (by simp))
  unfold World.frozen?; rw [e7]; simp
theorem cutG_take {L : List Gh} {k : Nat} {g : Gh} (h : L[k]? = some g) : (L.take (k + 1)).map cutG = (L.take k).map cutG ++ [cutG g] := by
  have hk := (List.getElem?_eq_some_iff.1 h).1
  rw [List.take_succ_eq_append_getElem hk, List.map_append, (List.getElem?_eq_some_iff.1 h).2]
  rfl
theorem Sl.grow {w w' : World} {e : TypeId} {size : Nat} {v : Value} {n : Nat} {xs : List Value} (h : Sl w e size v n xs) (hb : Below w.heap.size w w') : Sl w' e size v n xs := h.keep fun g hg => hb.block g (sl_lt h hg)

set_option maxRecDepth 100000 in
set_option maxHeartbeats 4000000 in
theorem state_any (cols rows side radius speed ids queue z t : Int) (p : Option Addr) (cap : Nat) (r : Rcd) (L : List Gh) (W : World) (hL : RIn ghL W (.slice p L.length cap) L) (hO : ∀ g ∈ L, ∃ l, BIn W (.slice g.p g.n g.c) l) :
    Calls Try.prog 24 #[.agg #[.int .i64 cols, .int .i64 rows, .int .i64 side, .int .i64 radius, .int .i64 speed, .int .i64 ids, .int .i64 queue, .int .i64 z, .int .i64 t, .slice p L.length cap, .int .i64 r.k, .int .i64 r.n, .int .i64 r.f, .slice r.pc r.nc r.cc, .int .i64 (r.b).s, .int .i64 (r.b).i, .int .i64 (r.b).g, .int .i64 (r.b).m, .int .i64 (r.b).x, .int .i64 (r.b).y, .int .i64 (r.b).vx, .int .i64 (r.b).vy, .int .i64 (r.b).hp, .int .i64 (r.b).pw, .int .i64 (r.b).lf, .slice r.pl r.nl r.cl, .int .i64 r.s.ep, .int .i64 r.s.t, .slice r.s.po r.s.no r.s.co, .slice r.s.pd r.s.nd r.s.cd, .slice r.s.pu r.s.nu r.s.cu, .slice r.s.pi r.s.ni r.s.ci, .slice r.s.pg r.s.ng r.s.cg, .int .i64 r.s.nx]] W fun e w' => ∃ p' n' c', e = .returned (.agg #[.int .i64 0, .int .i64 t, .slice none 0 0, .slice none 0 0, .slice none 0 0, .slice none 0 0, .slice p' n' c', .int .i64 0]) ∧ RNew ghL 64 3 W w' (.slice p' n' c') (cutL L) := by
  obtain ⟨i0, hi0, hz0, hz1, hz2⟩ := info_partsG info_gh
  have HL := Lib.hid hL
  have HO := Lib.hid hO
  have hm : L.length ≤ 9223372036854775807 := by obtain ⟨_, _, _, h, _⟩ := hL; unfold maxLen at h; omega
  clear hL hO
  go_enter Try.func24, Try.ntmps24
  go_wp2_with fail
  generalize hw3 : World.alloc (World.alloc _ _) _ = w3
  have hfz := boxes_fz W #[.int .i64 cols, .int .i64 rows, .int .i64 side, .int .i64 radius, .int .i64 speed, .int .i64 ids, .int .i64 queue, .int .i64 z, .int .i64 t, .slice p L.length cap, .int .i64 r.k, .int .i64 r.n, .int .i64 r.f, .slice r.pc r.nc r.cc, .int .i64 (r.b).s, .int .i64 (r.b).i, .int .i64 (r.b).g, .int .i64 (r.b).m, .int .i64 (r.b).x, .int .i64 (r.b).y, .int .i64 (r.b).vx, .int .i64 (r.b).vy, .int .i64 (r.b).hp, .int .i64 (r.b).pw, .int .i64 (r.b).lf, .slice r.pl r.nl r.cl, .int .i64 r.s.ep, .int .i64 r.s.t, .slice r.s.po r.s.no r.s.co, .slice r.s.pd r.s.nd r.s.cd, .slice r.s.pu r.s.nu r.s.cu, .slice r.s.pi r.s.ni r.s.ci, .slice r.s.pg r.s.ng r.s.cg, .int .i64 r.s.nx] #[.int .i64 0, .int .i64 0, .slice none 0 0, .slice none 0 0, .slice none 0 0, .slice none 0 0, .slice none 0 0, .int .i64 0] #[.int .i64 0, .int .i64 t, .slice none 0 0, .slice none 0 0, .slice none 0 0, .slice none 0 0, .slice none 0 0, .int .i64 0] 50 46 46
  obtain ⟨w1, hw1, hb1, k1, k2, k3, g1, g3, hsz⟩ := three_boxes W #[.int .i64 cols, .int .i64 rows, .int .i64 side, .int .i64 radius, .int .i64 speed, .int .i64 ids, .int .i64 queue, .int .i64 z, .int .i64 t, .slice p L.length cap, .int .i64 r.k, .int .i64 r.n, .int .i64 r.f, .slice r.pc r.nc r.cc, .int .i64 (r.b).s, .int .i64 (r.b).i, .int .i64 (r.b).g, .int .i64 (r.b).m, .int .i64 (r.b).x, .int .i64 (r.b).y, .int .i64 (r.b).vx, .int .i64 (r.b).vy, .int .i64 (r.b).hp, .int .i64 (r.b).pw, .int .i64 (r.b).lf, .slice r.pl r.nl r.cl, .int .i64 r.s.ep, .int .i64 r.s.t, .slice r.s.po r.s.no r.s.co, .slice r.s.pd r.s.nd r.s.cd, .slice r.s.pu r.s.nu r.s.cu, .slice r.s.pi r.s.ni r.s.ci, .slice r.s.pg r.s.ng r.s.cg, .int .i64 r.s.nx] #[.int .i64 0, .int .i64 0, .slice none 0 0, .slice none 0 0, .slice none 0 0, .slice none 0 0, .slice none 0 0, .int .i64 0] #[.int .i64 0, .int .i64 t, .slice none 0 0, .slice none 0 0, .slice none 0 0, .slice none 0 0, .slice none 0 0, .int .i64 0] 50 46 46
  rw [hw3] at hfz
  rw [hw3] at hw1
  subst hw1
  have s1 : W.heap.size < w1.heap.size := by omega
  have s2 : W.heap.size + 1 < w1.heap.size := by omega
  have s3 : W.heap.size + 1 + 1 < w1.heap.size := by omega
  have x9 := k1 9
  simp at x9
  have HB1 := Lib.hid hb1
  have K1 := Lib.hid x9
  have K2 := Lib.hid k2
  have K3 := Lib.hid k3
  have G2 := Lib.hid hfz
  have G3 := Lib.hid g3
  have HST := Lib.hid (BoxSt.start (k3 6))
  simp at HST
  clear hw3 hb1 k1 k2 k3 g1 g3 hfz x9 hsz
  go_loopg [4] L.length (fun kx sk wr => ∃ (k : Nat) (v : Value), sk = .int .i64 k ∧ k ≤ L.length ∧ k ≤ 20 ∧ L.length - k ≤ kx ∧ Hid (BoxSt w1 wr (W.heap.size + 1 + 1) v) ∧ Hid (Sl wr 64 3 v k (cellsR ghL ((L.take k).map cutG))) ∧ Hid (∀ g, v.ownBlock = some g → w1.heap.size ≤ g))
  case atStart => exact ⟨0, .slice none 0 0, by go_num, by omega, by omega, by omega, HST, Lib.hid ⟨by simp [cellsR], .inl ⟨rfl, rfl⟩⟩, Lib.hid (fun g hg => by cases hg)⟩
  case round =>
    clear HST
    obtain ⟨k, v, rfl, hk, hk20, hkx, HBX, HS, HOW⟩ := hrel
    obtain ⟨wa, rfl⟩ : ∃ wa : World, wa = wr := ⟨_, rfl⟩
    have hbw : Below W.heap.size W wa := HBX.out.below HB1.out (by omega)
    have sz := HBX.out.t.size
    have y9 := (HBX.out.cell (b := W.heap.size) (o := 9) s1 (by omega)).trans K1.out
    have sa1 : W.heap.size < wa.heap.size := by omega
    have sa3 : W.heap.size + 1 + 1 < wa.heap.size := by omega
    have y6 := HBX.out.c6
    obtain ⟨z0, z1, z2⟩ := ltz sa1
    obtain ⟨z3, z4, z5⟩ := ltz sa3
    have HBW := Lib.hid hbw
    obtain ⟨pv, cv, hpv⟩ := sl_frm HS.out
    subst hpv
    by_cases hlt : k < L.length
    · have t1 : (k : Int) < (L.length : Int) := by omega
      by_cases h20 : k < 20
      · have t2 : (k : Int) < 20 := by omega
        obtain ⟨g, hg⟩ : ∃ g, L[k]? = some g := ⟨_, List.getElem?_eq_getElem hlt⟩
        obtain ⟨gb, ob, cb, hv, hgb, hcb⟩ := (HL.out.keep hbw).cells ghL_len hg
        simp only [Value.slice.injEq, true_and] at hv
        obtain ⟨rfl, rfl⟩ := hv
        have c0 := hcb 0 _ rfl
        have c1 := hcb 1 _ rfl
        have c2 := hcb 2 _ rfl
        simp only [Nat.add_zero] at c0
        obtain ⟨lg, hlg⟩ := HO.out g (List.mem_of_getElem? hg)
        have HFW := Lib.hid (fun W' (hW : Below W.heap.size W W') => few22_form g lg W' (hlg.keep hW))
        have HTK := Lib.hid (cutG_take hg)
        obtain ⟨y0, y1, y2⟩ := ltz hgb
        clear hcb hg hlg
        have hacc : ((L.take k).map cutG).length = k := by simp; omega
        generalize (L.take k).map cutG = acc at *
        go_wp2_with fail
        refine (HFW.out _ (by repeat' (first | (with_reducible exact Below.refl _ _) | (with_reducible assumption) | (with_reducible refine below_drewN ?_ _) | (with_reducible refine below_more _ _ _ ?_ ?_) | (with_reducible refine Below.alloc ?_ ?_ _) | (with_reducible refine Below.drew ?_) | (with_reducible refine Below.setCell ?_ ?_ _) | go_size))).mono ?_; rintro e w' ⟨rfl, rfl⟩
        go_wp2_with (at_builtin; refine wpList_append_sl _ (by rfl) _ _ 36 (by rfl) 64 i0 _ 3 40 Try.underlying36 hi0 hz0 hz1 hz2 rfl (by omega) _ k (cellsR ghL acc) (by rfl) (HS.out.grow (by repeat' (first | (with_reducible exact Below.refl _ _) | (with_reducible assumption) | (with_reducible refine below_drewN ?_ _) | (with_reducible refine below_more _ _ _ ?_ ?_) | (with_reducible refine Below.alloc ?_ ?_ _) | (with_reducible refine Below.drew ?_) | (with_reducible refine Below.setCell ?_ ?_ _) | go_size))) ⟨_, 0, none⟩ 1 1 (ghL (cutG g)) (by rfl) (by rfl) (new_cellsN _ _ _ _ (by simp)) (ghL_one _) (by omega) (by unfold maxLen; omega) (by omega) ?_; intro v4 w4 hs4 ht4 ho4; obtain ⟨p4, c4, rfl⟩ := sl_frm hs4; have hb4 := ((HBX.out.grow s3 (by repeat' (first | (with_reducible exact Below.refl _ _) | (with_reducible assumption) | (with_reducible refine below_drewN ?_ _) | (with_reducible refine below_more _ _ _ ?_ ?_) | (with_reducible refine Below.alloc ?_ ?_ _) | (with_reducible refine Below.drew ?_) | (with_reducible refine Below.setCell ?_ ?_ _) | go_size))).app s3 ht4 HOW.out); have q6 := hb4.c6; have f6 := (hb4.fz 6).trans (G3.out 6); have u3 := Nat.lt_of_lt_of_le s3 hb4.t.size)
        have hz4 := ht4.size
        have own4 : ∀ g', (Value.slice p4 (k + 1) c4).ownBlock = some g' → w1.heap.size ≤ g' := fun g' hg' => by
          rcases ho4 with e | ⟨g5, e, hg5⟩
          · exact HOW.out g' (by rw [← e]; exact hg')
          · rw [e] at hg'; cases hg'; simp at hg5; omega
        go_roundg (L.length - (k + 1))
        case measure => omega
        case rel => exact ⟨k + 1, _, by go_num, by omega, by omega, by omega, Lib.hid (hb4.store _), Lib.hid (by
          rw [HTK.out, cellsR_app, cellsR_one]
          exact hs4.keep fun g' hg' => Below.heap_setCell _ _ _ _ (fun e => by have := own4 g' hg'; simp at e; omega)), Lib.hid own4⟩
      · have t2 : ¬ (k : Int) < 20 := by omega
        have hfin : (L.take k).map cutG = cutL L := by unfold cutL; rw [show k = 20 by omega]
        have HFN := Lib.hid hfin
        clear hfin
        have r0 := (HBX.out.cs 0 (by omega)).trans (K3.out 0); simp at r0; have r1 := (HBX.out.cs 1 (by omega)).trans (K3.out 1); simp at r1; have r2 := (HBX.out.cs 2 (by omega)).trans (K3.out 2); simp at r2; have r3 := (HBX.out.cs 3 (by omega)).trans (K3.out 3); simp at r3; have r4 := (HBX.out.cs 4 (by omega)).trans (K3.out 4); simp at r4; have r5 := (HBX.out.cs 5 (by omega)).trans (K3.out 5); simp at r5; have r7 := (HBX.out.cs 7 (by omega)).trans (K3.out 7); simp at r7
        have m0 := (HBX.out.cell (b := W.heap.size + 1) (o := 0) s2 (by omega)).trans (K2.out 0); simp at m0; have m1 := (HBX.out.cell (b := W.heap.size + 1) (o := 1) s2 (by omega)).trans (K2.out 1); simp at m1; have m2 := (HBX.out.cell (b := W.heap.size + 1) (o := 2) s2 (by omega)).trans (K2.out 2); simp at m2; have m3 := (HBX.out.cell (b := W.heap.size + 1) (o := 3) s2 (by omega)).trans (K2.out 3); simp at m3; have m4 := (HBX.out.cell (b := W.heap.size + 1) (o := 4) s2 (by omega)).trans (K2.out 4); simp at m4; have m5 := (HBX.out.cell (b := W.heap.size + 1) (o := 5) s2 (by omega)).trans (K2.out 5); simp at m5; have m6 := (HBX.out.cell (b := W.heap.size + 1) (o := 6) s2 (by omega)).trans (K2.out 6); simp at m6; have m7 := (HBX.out.cell (b := W.heap.size + 1) (o := 7) s2 (by omega)).trans (K2.out 7); simp at m7
        have f0 := (HBX.out.frozen (b := W.heap.size + 1) (o := 0) s2 (by omega)).trans (G2.out 0); have f1 := (HBX.out.frozen (b := W.heap.size + 1) (o := 1) s2 (by omega)).trans (G2.out 1); have f2 := (HBX.out.frozen (b := W.heap.size + 1) (o := 2) s2 (by omega)).trans (G2.out 2); have f3 := (HBX.out.frozen (b := W.heap.size + 1) (o := 3) s2 (by omega)).trans (G2.out 3); have f4 := (HBX.out.frozen (b := W.heap.size + 1) (o := 4) s2 (by omega)).trans (G2.out 4); have f5 := (HBX.out.frozen (b := W.heap.size + 1) (o := 5) s2 (by omega)).trans (G2.out 5); have f6 := (HBX.out.frozen (b := W.heap.size + 1) (o := 6) s2 (by omega)).trans (G2.out 6); have f7 := (HBX.out.frozen (b := W.heap.size + 1) (o := 7) s2 (by omega)).trans (G2.out 7)
        have sa2 : W.heap.size + 1 < wa.heap.size := by omega
        obtain ⟨z6, z7, z8⟩ := ltz sa2
        go_wp2_with fail
        refine bodyPost_ret (v := .agg #[.int .i64 0, .int .i64 t, .slice none 0 0, .slice none 0 0, .slice none 0 0, .slice none 0 0, .slice pv k cv, .int .i64 0]) (by simp [results, Try.results24, go_sem, *]) rfl ⟨_, _, _, rfl, ?_, (by repeat' (first | (with_reducible exact Below.refl _ _) | (with_reducible assumption) | (with_reducible refine below_drewN ?_ _) | (with_reducible refine below_more _ _ _ ?_ ?_) | (with_reducible refine Below.alloc ?_ ?_ _) | (with_reducible refine Below.drew ?_) | (with_reducible refine Below.setCell ?_ ?_ _) | go_size)), fun g hg => ?_⟩
        · rw [← HFN.out]
          have hkk : ((L.take k).map cutG).length = k := by simp; omega
          rw [hkk]
          exact HS.out.keep fun g hg => by
            have := HOW.out g hg
            simp [World.setCell, Array.getElem?_modify, show ¬ W.heap.size + 1 = g by omega]
        · have := HOW.out g hg; omega
    · have t1 : ¬ (k : Int) < (L.length : Int) := by omega
      have hfin : (L.take k).map cutG = cutL L := by unfold cutL; rw [List.take_of_length_le (by omega), List.take_of_length_le (by omega)]
      have HFN := Lib.hid hfin
      clear hfin
      have r0 := (HBX.out.cs 0 (by omega)).trans (K3.out 0); simp at r0; have r1 := (HBX.out.cs 1 (by omega)).trans (K3.out 1); simp at r1; have r2 := (HBX.out.cs 2 (by omega)).trans (K3.out 2); simp at r2; have r3 := (HBX.out.cs 3 (by omega)).trans (K3.out 3); simp at r3; have r4 := (HBX.out.cs 4 (by omega)).trans (K3.out 4); simp at r4; have r5 := (HBX.out.cs 5 (by omega)).trans (K3.out 5); simp at r5; have r7 := (HBX.out.cs 7 (by omega)).trans (K3.out 7); simp at r7
      have m0 := (HBX.out.cell (b := W.heap.size + 1) (o := 0) s2 (by omega)).trans (K2.out 0); simp at m0; have m1 := (HBX.out.cell (b := W.heap.size + 1) (o := 1) s2 (by omega)).trans (K2.out 1); simp at m1; have m2 := (HBX.out.cell (b := W.heap.size + 1) (o := 2) s2 (by omega)).trans (K2.out 2); simp at m2; have m3 := (HBX.out.cell (b := W.heap.size + 1) (o := 3) s2 (by omega)).trans (K2.out 3); simp at m3; have m4 := (HBX.out.cell (b := W.heap.size + 1) (o := 4) s2 (by omega)).trans (K2.out 4); simp at m4; have m5 := (HBX.out.cell (b := W.heap.size + 1) (o := 5) s2 (by omega)).trans (K2.out 5); simp at m5; have m6 := (HBX.out.cell (b := W.heap.size + 1) (o := 6) s2 (by omega)).trans (K2.out 6); simp at m6; have m7 := (HBX.out.cell (b := W.heap.size + 1) (o := 7) s2 (by omega)).trans (K2.out 7); simp at m7
      have f0 := (HBX.out.frozen (b := W.heap.size + 1) (o := 0) s2 (by omega)).trans (G2.out 0); have f1 := (HBX.out.frozen (b := W.heap.size + 1) (o := 1) s2 (by omega)).trans (G2.out 1); have f2 := (HBX.out.frozen (b := W.heap.size + 1) (o := 2) s2 (by omega)).trans (G2.out 2); have f3 := (HBX.out.frozen (b := W.heap.size + 1) (o := 3) s2 (by omega)).trans (G2.out 3); have f4 := (HBX.out.frozen (b := W.heap.size + 1) (o := 4) s2 (by omega)).trans (G2.out 4); have f5 := (HBX.out.frozen (b := W.heap.size + 1) (o := 5) s2 (by omega)).trans (G2.out 5); have f6 := (HBX.out.frozen (b := W.heap.size + 1) (o := 6) s2 (by omega)).trans (G2.out 6); have f7 := (HBX.out.frozen (b := W.heap.size + 1) (o := 7) s2 (by omega)).trans (G2.out 7)
      have sa2 : W.heap.size + 1 < wa.heap.size := by omega
      obtain ⟨z6, z7, z8⟩ := ltz sa2
      go_wp2_with fail
      refine bodyPost_ret (v := .agg #[.int .i64 0, .int .i64 t, .slice none 0 0, .slice none 0 0, .slice none 0 0, .slice none 0 0, .slice pv k cv, .int .i64 0]) (by simp [results, Try.results24, go_sem, *]) rfl ⟨_, _, _, rfl, ?_, (by repeat' (first | (with_reducible exact Below.refl _ _) | (with_reducible assumption) | (with_reducible refine below_drewN ?_ _) | (with_reducible refine below_more _ _ _ ?_ ?_) | (with_reducible refine Below.alloc ?_ ?_ _) | (with_reducible refine Below.drew ?_) | (with_reducible refine Below.setCell ?_ ?_ _) | go_size)), fun g hg => ?_⟩
      · rw [← HFN.out]
        have hkk : ((L.take k).map cutG).length = k := by simp; omega
        rw [hkk]
        exact HS.out.keep fun g hg => by
          have := HOW.out g hg
          simp [World.setCell, Array.getElem?_modify, show ¬ W.heap.size + 1 = g by omega]
      · have := HOW.out g hg; omega
end Go.Proofs.Ytcnclcfipabimaa
namespace Go.Proofs.Ytcnclcfipabimaa
open Go.RowKit

theorem count_nil (w : World) : Calls Try.prog 49 #[.pointer none] w fun e w' => e = .returned (.int .i64 0) ∧ w = w' := by
  go_enter Try.func49, Try.ntmps49
  go_wp2
  go_ret
  exact ⟨rfl, rfl⟩
set_option maxHeartbeats 1000000 in
theorem beside_nil (w : World) (k : Int) : Calls Try.prog 52 #[.pointer none, .int .i64 k] w fun e w' => ∃ v', e = .returned v' ∧ RNew intL 3 1 w w' v' [] := by
  go_enter Try.func52, Try.ntmps52
  go_wp2_with fail
  refine (count_nil _).mono ?_; rintro e w' ⟨rfl, rfl⟩
  go_wp2_with fail
  refine wp_loop_rounds 1 ?_
  rw [rounds_succ]
  go_wp2_with fail
  go_ret
  exact ⟨_, rfl, (RNew.nil _).since (by repeat' (first | (with_reducible exact Below.refl _ _) | (with_reducible assumption) | (with_reducible refine below_drewN ?_ _) | (with_reducible refine below_more _ _ _ ?_ ?_) | (with_reducible refine Below.alloc ?_ ?_ _) | (with_reducible refine Below.drew ?_) | (with_reducible refine Below.setCell ?_ ?_ _) | go_size))⟩
theorem sameO_nil (w : World) : Calls Try.prog 68 #[.slice none 0 0, .slice none 0 0] w fun e w' => e = .returned (.bool true) ∧ Below w.heap.size w w' := by
  go_enter Try.func68, Try.ntmps68
  go_wp2_with fail
  refine wp_loop_rounds 1 ?_
  rw [rounds_succ]
  go_wp2_with fail
  go_ret
  exact ⟨rfl, (by repeat' (first | (with_reducible exact Below.refl _ _) | (with_reducible assumption) | (with_reducible refine below_drewN ?_ _) | (with_reducible refine below_more _ _ _ ?_ ?_) | (with_reducible refine Below.alloc ?_ ?_ _) | (with_reducible refine Below.drew ?_) | (with_reducible refine Below.setCell ?_ ?_ _) | go_size))⟩
theorem sameI_nil (w : World) : Calls Try.prog 69 #[.slice none 0 0, .slice none 0 0] w fun e w' => e = .returned (.bool true) ∧ Below w.heap.size w w' := by
  go_enter Try.func69, Try.ntmps69
  go_wp2_with fail
  refine wp_loop_rounds 1 ?_
  rw [rounds_succ]
  go_wp2_with fail
  go_ret
  exact ⟨rfl, (by repeat' (first | (with_reducible exact Below.refl _ _) | (with_reducible assumption) | (with_reducible refine below_drewN ?_ _) | (with_reducible refine below_more _ _ _ ?_ ?_) | (with_reducible refine Below.alloc ?_ ?_ _) | (with_reducible refine Below.drew ?_) | (with_reducible refine Below.setCell ?_ ?_ _) | go_size))⟩
/-- Two lists of ghosts that tell the same. -/
def AlikeG (W : World) (L1 L2 : List Gh) : Prop := L1.length = L2.length ∧ ∀ (k : Nat) g1 g2, L1[k]? = some g1 → L2[k]? = some g2 → g1.f = g2.f ∧ g1.t = g2.t ∧ ∃ l, BIn W (.slice g1.p g1.n g1.c) l ∧ BIn W (.slice g2.p g2.n g2.c) l
theorem AlikeG.keep {W W' : World} {L1 L2 : List Gh} (h : AlikeG W L1 L2) (hb : Below W.heap.size W W') : AlikeG W' L1 L2 :=
  ⟨h.1, fun k g1 g2 h1 h2 => let ⟨a, b, l, c, d⟩ := h.2 k g1 g2 h1 h2; ⟨a, b, l, c.keep hb, d.keep hb⟩⟩
theorem alikeG_nil (W : World) : AlikeG W [] [] := ⟨rfl, fun _ _ _ h => by simp at h⟩

set_option maxRecDepth 100000 in
set_option maxHeartbeats 2000000 in
theorem sameG_any (va vb : Value) (L1 L2 : List Gh) (w : World) (h1 : RIn ghL w va L1) (h2 : RIn ghL w vb L2) (hs : AlikeG w L1 L2) :
    Calls Try.prog 33 #[va, vb] w fun e w' => e = .returned (.bool true) ∧ Below w.heap.size w w' := by
  have H1 := Lib.hid h1
  have H2 := Lib.hid h2
  have HS := Lib.hid hs
  obtain ⟨pa, ca, rfl, ma, _⟩ := h1
  obtain ⟨pb, cb, rfl, mb, _⟩ := h2
  unfold maxLen at ma mb
  have hle1 : L1.length ≤ L2.length := Nat.le_of_eq hs.1
  have hle2 : L2.length ≤ L1.length := Nat.le_of_eq hs.1.symm
  have hd : ((L1.length : Int) != (L2.length : Int)) = false := by simp; omega
  have hd2 : (L1.length : Int) = (L2.length : Int) := by omega
  clear hs
  go_enter Try.func33, Try.ntmps33
  go_wp2_with fail
  go_loopg [5] L1.length (fun kx sx wr => ∃ k : Nat, sx = .int .i64 k ∧ k ≤ L1.length ∧ L1.length - k ≤ kx ∧ Hid (Below w.heap.size w wr))
  case atStart => exact ⟨0, by go_num, by omega, by omega, Lib.hid (Below.refl _ _)⟩
  case round =>
    obtain ⟨k, rfl, hk, hkx, HW⟩ := hrel
    by_cases hlt : k < L1.length
    · have t1 : (k : Int) < (L1.length : Int) := by omega
      have t2 : (k : Int) < (L2.length : Int) := by omega
      obtain ⟨g1, hg1⟩ : ∃ g, L1[k]? = some g := ⟨_, List.getElem?_eq_getElem hlt⟩
      obtain ⟨g2, hg2⟩ : ∃ g, L2[k]? = some g := ⟨_, List.getElem?_eq_getElem (by omega)⟩
      obtain ⟨b1, o1, c1, hv1, lg1, q1⟩ := (H1.out.keep HW.out).cells ghL_len hg1
      obtain ⟨b2, o2, c2, hv2, lg2, q2⟩ := (H2.out.keep HW.out).cells ghL_len hg2
      simp only [Value.slice.injEq, true_and] at hv1 hv2
      obtain ⟨rfl, rfl⟩ := hv1
      obtain ⟨rfl, rfl⟩ := hv2
      obtain ⟨hf, ht, l, hl1, hl2⟩ := HS.out.2 k g1 g2 hg1 hg2
      have u0 := q1 0 _ rfl; have y0 := q2 0 _ rfl
      have u1 := q1 1 _ rfl; have y1 := q2 1 _ rfl
      have u2 := q1 2 _ rfl; have y2 := q2 2 _ rfl
      simp only [Nat.add_zero] at u0 y0
      obtain ⟨z0, z1, z2⟩ := ltw lg1
      obtain ⟨x0, x1, x2⟩ := ltw lg2
      have HSM := Lib.hid (fun W' (hW : Below wr.heap.size wr W') => same_any _ _ l l W' (hl1.keep (HW.out.trans (hW.mono HW.out.size))) (hl2.keep (HW.out.trans (hW.mono HW.out.size))))
      rw [decide_eq_true rfl] at HSM
      clear q1 q2 hg1 hg2 hl1 hl2
      obtain ⟨f1, t1', p1, n1, c1'⟩ := g1
      obtain ⟨f2, t2', p2, n2, c2'⟩ := g2
      simp only at hf ht u0 u1 u2 y0 y1 y2 HSM
      subst hf ht
      have hff : (f1 != f1) = false := by simp
      have htt : (t1' != t1') = false := by simp
      go_wp2_with fail
      refine wp_region_more (by kernel_rfl) (by kernel_rfl) ?_
      repeat (go_big_quiet_step ((first | (go_at_call 20; exact more_call (HSM.out _ (by repeat' (first | (with_reducible exact Below.refl _ _) | (with_reducible assumption) | (with_reducible refine below_drewN ?_ _) | (with_reducible refine below_more _ _ _ ?_ ?_) | (with_reducible refine Below.alloc ?_ ?_ _) | (with_reducible refine Below.drew ?_) | (with_reducible refine Below.setCell ?_ ?_ _) | go_size)))))))
      refine wpQuiet_nil ?_
      rintro _ ⟨pm, rfl⟩
      go_wp2_with fail
      go_roundg (L1.length - (k + 1))
      case measure => omega
      case rel => exact ⟨k + 1, by go_num, by omega, by omega, Lib.hid (HW.out.trans (Below.mono (B := wr.heap.size) (by repeat' (first | (with_reducible exact Below.refl _ _) | (with_reducible assumption) | (with_reducible refine below_drewN ?_ _) | (with_reducible refine below_more _ _ _ ?_ ?_) | (with_reducible refine Below.alloc ?_ ?_ _) | (with_reducible refine Below.drew ?_) | (with_reducible refine Below.setCell ?_ ?_ _) | go_size)) HW.out.size))⟩
    · have t1 : ¬ (k : Int) < (L1.length : Int) := by omega
      go_wp2_with fail
      go_ret
      exact ⟨rfl, HW.out⟩


theorem same_nil (w : World) : Calls Try.prog 20 #[.slice none 0 0, .slice none 0 0] w fun e w' => e = .returned (.bool true) ∧ Below w.heap.size w w' := by
  have hn : ∀ W : World, BIn W (.slice none 0 0) [] := fun W => ⟨none, 0, rfl, by simp [maxLen], fun _ => rfl, Nat.le_refl _, fun h => absurd rfl h⟩
  have := same_any _ _ [] [] w (hn w) (hn w)
  rw [decide_eq_true rfl] at this
  exact this
set_option maxRecDepth 100000 in
set_option maxHeartbeats 2000000 in
theorem sameS_any (ep t nx : Int) (pa pb : Option Addr) (na ca nb cb : Nat) (L1 L2 : List Gh) (w : World) (h1 : RIn ghL w (.slice pa na ca) L1) (h2 : RIn ghL w (.slice pb nb cb) L2) (hs : AlikeG w L1 L2) :
    Calls Try.prog 32 #[.agg #[.int .i64 ep, .int .i64 t, .slice none 0 0, .slice none 0 0, .slice none 0 0, .slice none 0 0, .slice pa na ca, .int .i64 nx], .agg #[.int .i64 ep, .int .i64 t, .slice none 0 0, .slice none 0 0, .slice none 0 0, .slice none 0 0, .slice pb nb cb, .int .i64 nx]] w fun e w' => e = .returned (.bool true) ∧ Below w.heap.size w w' := by
  have HG := Lib.hid (fun W (hW : Below w.heap.size w W) => sameG_any _ _ L1 L2 W (h1.keep hW) (h2.keep hW) (hs.keep hW))
  have e1 : (ep != ep) = false := by simp
  have e2 : (t != t) = false := by simp
  have e3 : (nx != nx) = false := by simp
  clear h1 h2 hs
  go_enter Try.func32, Try.ntmps32
  go_wp2_with fail
  refine wp_loop_rounds 1 ?_
  rw [rounds_succ]
  go_wp2_with fail
  refine (same_nil _).mono ?_; rintro e w' ⟨rfl, hb⟩; obtain ⟨d1, os1, rfl⟩ := more_of hb; clear hb
  go_wp2_with fail
  refine (sameO_nil _).mono ?_; rintro e w' ⟨rfl, hb⟩; obtain ⟨d2, os2, rfl⟩ := more_of hb; clear hb
  go_wp2_with fail
  refine (sameI_nil _).mono ?_; rintro e w' ⟨rfl, hb⟩; obtain ⟨d3, os3, rfl⟩ := more_of hb; clear hb
  go_wp2_with fail
  refine (HG.out _ (by repeat' (first | (with_reducible exact Below.refl _ _) | (with_reducible assumption) | (with_reducible refine below_drewN ?_ _) | (with_reducible refine below_more _ _ _ ?_ ?_) | (with_reducible refine Below.alloc ?_ ?_ _) | (with_reducible refine Below.drew ?_) | (with_reducible refine Below.setCell ?_ ?_ _) | go_size))).mono ?_; rintro e w' ⟨rfl, hb⟩; obtain ⟨d4, os4, rfl⟩ := more_of hb; clear hb
  go_wp2_with fail
  go_ret
  exact ⟨rfl, (by repeat' (first | (with_reducible exact Below.refl _ _) | (with_reducible assumption) | (with_reducible refine below_drewN ?_ _) | (with_reducible refine below_more _ _ _ ?_ ?_) | (with_reducible refine Below.alloc ?_ ?_ _) | (with_reducible refine Below.drew ?_) | (with_reducible refine Below.setCell ?_ ?_ _) | go_size))⟩
end Go.Proofs.Ytcnclcfipabimaa
namespace Go.Proofs.Ytcnclcfipabimaa
open Go.RowKit

def ldC (a : Addr) : Sem Value := loadVar 50 a
def ldR (a : Addr) : Sem Value := loadVar 48 a
theorem loadVar_ldC (a : Addr) : loadVar 50 a = ldC a := rfl
theorem loadVar_ldR (a : Addr) : loadVar 48 a = ldR a := rfl
theorem ldC_of {W : World} {b o : Nat} (cs : List Value) (hl : cs.length = 34) (h : ∀ j v, cs[j]? = some v → W.cell? ⟨b, o + j, none⟩ = some v) : (ldC ⟨b, o, none⟩).run Try.prog W = .ok (.agg cs.toArray) W := by
  have h1 := Go.Proofs.run_loadCellsFrom_list Try.prog W ⟨b, o, none⟩ cs 34 hl (fun j v hj => by rw [Addr.add_lit]; exact h j v hj)
  simp [ldC, loadVar, loadCells, h1]
theorem ldR_of {W : World} {b o : Nat} (cs : List Value) (hl : cs.length = 24) (h : ∀ j v, cs[j]? = some v → W.cell? ⟨b, o + j, none⟩ = some v) : (ldR ⟨b, o, none⟩).run Try.prog W = .ok (.agg cs.toArray) W := by
  have h1 := Go.Proofs.run_loadCellsFrom_list Try.prog W ⟨b, o, none⟩ cs 24 hl (fun j v hj => by rw [Addr.add_lit]; exact h j v hj)
  simp [ldR, loadVar, loadCells, h1]
end Go.Proofs.Ytcnclcfipabimaa
namespace Go.Proofs.Ytcnclcfipabimaa
open Go.RowKit

open Classical in
/-- What one told, read in a world. -/
noncomputable def blOf (W : World) (g : Gh) : List Bun := if h : ∃ l, BIn W (.slice g.p g.n g.c) l ∧ l.length ≤ 1000 then h.choose else []
theorem blOf_ok {W : World} {L : List Gh} (h : ∀ g ∈ L, ∃ l, BIn W (.slice g.p g.n g.c) l ∧ l.length ≤ 1000) : GhOk W L (blOf W) := fun g hg => by
  unfold blOf
  rw [dif_pos (h g hg)]
  exact (h g hg).choose_spec
theorem cutL_ok {W : World} {L : List Gh} (h : ∀ g ∈ L, ∃ l, BIn W (.slice g.p g.n g.c) l) : ∀ g ∈ cutL L, ∃ l, BIn W (.slice g.p g.n g.c) l ∧ l.length ≤ 1000 := fun g hg => by
  obtain ⟨g0, h0, rfl⟩ := List.mem_map.1 hg
  obtain ⟨l, hl⟩ := h g0 (List.mem_of_mem_take h0)
  obtain ⟨_, _, e, _⟩ := id hl
  simp only [Value.slice.injEq] at e
  refine ⟨l.take (min g0.n 50), hl.take (min g0.n 50) (Nat.min_le_left _ _), ?_⟩
  simp; omega
theorem cutL_len (L : List Gh) : (cutL L).length ≤ 20 := by simp [cutL]; omega
def besR (c : Cfg) (k : Int) : List Int := if 0 ≤ k ∧ k < c.cols * c.rows then besideF c k else []
theorem beside_all (W : World) (b : Nat) (c : Cfg) (k : Int) (h : MapAt W b c) (ho : CfgOk c) : ∀ W', Below W.heap.size W W' → Calls Try.prog 52 #[.pointer (some ⟨b, 0, none⟩), .int .i64 k] W' fun e w' => ∃ v', e = .returned v' ∧ RNew intL 3 1 W' w' v' (besR c k) := fun W' hW => by
  unfold besR
  by_cases hk : 0 ≤ k ∧ k < c.cols * c.rows
  · rw [if_pos hk]; exact beside_in W' b c k (h.grow hW) ho hk.1 hk.2
  · rw [if_neg hk]
    refine (beside_out W' b c k (h.grow hW) ho (by omega)).mono ?_
    rintro e w' ⟨rfl, hb⟩
    exact ⟨_, rfl, (RNew.nil _).since hb⟩
theorem missing_at (b : Nat) (c : Cfg) (z t : Int) (p' : Option Addr) (n' c' : Nat) (L : List Gh) (W : World) (hm : MapAt W b c) (ho : CfgOk c) (hL : RIn ghL W (.slice p' n' c') L) :
    Calls Try.prog 26 #[.pointer (some ⟨b, 0, none⟩), .int .i64 z, .agg #[.int .i64 0, .int .i64 t, .slice none 0 0, .slice none 0 0, .slice none 0 0, .slice none 0 0, .slice p' n' c', .int .i64 0]] W fun e w' => ∃ v', e = .returned v' ∧ RNew intL 3 1 W w' v' (missF (besR c z) L t) :=
  missing_of (.pointer (some ⟨b, 0, none⟩)) z (⟨0, t, none, 0, 0, none, 0, 0, none, 0, 0, none, 0, 0, p', n', c', 0⟩ : Sta) L (besR c z) W ⟨_, rfl⟩ hL (beside_all W b c z hm ho)
theorem near_at (t : Int) (p' : Option Addr) (n' c' : Nat) (L : List Gh) (bl : Gh → List Bun) (W : World) (hL : RIn ghL W (.slice p' n' c') L) (hO : GhOk W L bl) (hn : L.length ≤ 1000) :
    Calls Try.prog 28 #[.agg #[.int .i64 0, .int .i64 t, .slice none 0 0, .slice none 0 0, .slice none 0 0, .slice none 0 0, .slice p' n' c', .int .i64 0]] W fun e w' => ∃ v', e = .returned v' ∧ BNew W w' v' (nearG L t bl) :=
  gnear_any (⟨0, t, none, 0, 0, none, 0, 0, none, 0, 0, none, 0, 0, p', n', c', 0⟩ : Sta) L bl W hL hO hn
theorem besR_eq (c : Cfg) (k : Int) : besideR c k = besR c k := rfl
theorem rmissing_at (cols rows side radius speed ids queue z t : Int) (p' : Option Addr) (n' c' : Nat) (L : List Gh) (W : World) (ho : CfgOk ⟨cols, rows, side, radius, speed, ids, queue⟩) (hL : RIn ghL W (.slice p' n' c') L) :
    Calls Try.prog 27 #[.agg #[.int .i64 cols, .int .i64 rows, .int .i64 side, .int .i64 radius, .int .i64 speed, .int .i64 ids, .int .i64 queue], .int .i64 z, .agg #[.int .i64 0, .int .i64 t, .slice none 0 0, .slice none 0 0, .slice none 0 0, .slice none 0 0, .slice p' n' c', .int .i64 0]] W fun e w' => ∃ v', e = .returned v' ∧ RNew intL 3 1 W w' v' (missF (besR ⟨cols, rows, side, radius, speed, ids, queue⟩ z) L t) :=
  rmissing_any cols rows side radius speed ids queue z (⟨0, t, none, 0, 0, none, 0, 0, none, 0, 0, none, 0, 0, p', n', c', 0⟩ : Sta) L W ho hL
theorem rnear_at (t : Int) (p' : Option Addr) (n' c' : Nat) (L : List Gh) (bl : Gh → List Bun) (W : World) (hL : RIn ghL W (.slice p' n' c') L) (hO : GhOk W L bl) (hn : L.length ≤ 1000) :
    Calls Try.prog 29 #[.agg #[.int .i64 0, .int .i64 t, .slice none 0 0, .slice none 0 0, .slice none 0 0, .slice none 0 0, .slice p' n' c', .int .i64 0]] W fun e w' => ∃ v', e = .returned v' ∧ BNew W w' v' (nearG L t bl) :=
  rgnear_any (⟨0, t, none, 0, 0, none, 0, 0, none, 0, 0, none, 0, 0, p', n', c', 0⟩ : Sta) L bl W hL hO hn
/-- Does a fold note a record? -/
def foldC (c : Cfg) (z t : Int) (L : List Gh) (r : Rcd) : Prop := r.k = 8 ∧ r.n = t ∧ r.f ∈ missF (besR c z) L t
theorem fold_at (b : Nat) (c : Cfg) (z t : Int) (p' : Option Addr) (n' c' : Nat) (r : Rcd) (L : List Gh) (lr : List Bun) (W : World) (hm : MapAt W b c) (ho : CfgOk c) (hL : RIn ghL W (.slice p' n' c') L) (hn : L.length ≤ 1000) (hr : BIn W (.slice r.pl r.nl r.cl) lr) (hln : lr.length ≤ 1000000) (hf : foldC c z t L r) :
    Calls Try.prog 30 #[.pointer (some ⟨b, 0, none⟩), .int .i64 z, .agg #[.int .i64 0, .int .i64 t, .slice none 0 0, .slice none 0 0, .slice none 0 0, .slice none 0 0, .slice p' n' c', .int .i64 0], .agg #[.int .i64 r.k, .int .i64 r.n, .int .i64 r.f, .slice r.pc r.nc r.cc, .int .i64 (r.b).s, .int .i64 (r.b).i, .int .i64 (r.b).g, .int .i64 (r.b).m, .int .i64 (r.b).x, .int .i64 (r.b).y, .int .i64 (r.b).vx, .int .i64 (r.b).vy, .int .i64 (r.b).hp, .int .i64 (r.b).pw, .int .i64 (r.b).lf, .slice r.pl r.nl r.cl, .int .i64 r.s.ep, .int .i64 r.s.t, .slice r.s.po r.s.no r.s.co, .slice r.s.pd r.s.nd r.s.cd, .slice r.s.pu r.s.nu r.s.cu, .slice r.s.pi r.s.ni r.s.ci, .slice r.s.pg r.s.ng r.s.cg, .int .i64 r.s.nx]] W fun e w' => ∃ p1 n1 c1 p2 n2 c2, e = .returned (.tuple #[.agg #[.int .i64 0, .int .i64 t, .slice none 0 0, .slice none 0 0, .slice none 0 0, .slice none 0 0, .slice p1 n1 c1, .int .i64 0], .int .i64 0]) ∧
      RNew ghL 64 3 W w' (.slice p1 n1 c1) (L ++ [⟨r.f, r.n, p2, n2, c2⟩]) ∧ BIn w' (.slice p2 n2 c2) lr :=
  fold_ok ⟨b, 0, none⟩ z (⟨0, t, none, 0, 0, none, 0, 0, none, 0, 0, none, 0, 0, p', n', c', 0⟩ : Sta) r L lr (besR c z) W hL hn hr hln hf.1 hf.2.1 hf.2.2 (beside_all W b c z hm ho)
theorem fold_at_no (b : Nat) (c : Cfg) (z t : Int) (p' : Option Addr) (n' c' : Nat) (r : Rcd) (L : List Gh) (W : World) (hm : MapAt W b c) (ho : CfgOk c) (hL : RIn ghL W (.slice p' n' c') L) (hf : ¬ foldC c z t L r) :
    Calls Try.prog 30 #[.pointer (some ⟨b, 0, none⟩), .int .i64 z, .agg #[.int .i64 0, .int .i64 t, .slice none 0 0, .slice none 0 0, .slice none 0 0, .slice none 0 0, .slice p' n' c', .int .i64 0], .agg #[.int .i64 r.k, .int .i64 r.n, .int .i64 r.f, .slice r.pc r.nc r.cc, .int .i64 (r.b).s, .int .i64 (r.b).i, .int .i64 (r.b).g, .int .i64 (r.b).m, .int .i64 (r.b).x, .int .i64 (r.b).y, .int .i64 (r.b).vx, .int .i64 (r.b).vy, .int .i64 (r.b).hp, .int .i64 (r.b).pw, .int .i64 (r.b).lf, .slice r.pl r.nl r.cl, .int .i64 r.s.ep, .int .i64 r.s.t, .slice r.s.po r.s.no r.s.co, .slice r.s.pd r.s.nd r.s.cd, .slice r.s.pu r.s.nu r.s.cu, .slice r.s.pi r.s.ni r.s.ci, .slice r.s.pg r.s.ng r.s.cg, .int .i64 r.s.nx]] W fun e w' => e = .returned (.tuple #[.agg #[.int .i64 0, .int .i64 0, .slice none 0 0, .slice none 0 0, .slice none 0 0, .slice none 0 0, .slice none 0 0, .int .i64 0], .int .i64 14]) ∧ Below W.heap.size W w' := by
  by_cases h8 : r.k = 8
  · by_cases ht : r.n = t
    · have h3 : r.f ∉ missF (besR c z) L t := fun h => hf ⟨h8, ht, h⟩
      exact fold_nomiss ⟨b, 0, none⟩ z (⟨0, t, none, 0, 0, none, 0, 0, none, 0, 0, none, 0, 0, p', n', c', 0⟩ : Sta) r L (besR c z) W hL h8 ht h3 (beside_all W b c z hm ho)
    · exact fold_no (some ⟨b, 0, none⟩) z (⟨0, t, none, 0, 0, none, 0, 0, none, 0, 0, none, 0, 0, p', n', c', 0⟩ : Sta) r W (.inr (.inr ht))
  · exact fold_no (some ⟨b, 0, none⟩) z (⟨0, t, none, 0, 0, none, 0, 0, none, 0, 0, none, 0, 0, p', n', c', 0⟩ : Sta) r W (.inr (.inl h8))
theorem rfold_at (cols rows side radius speed ids queue z t : Int) (p' : Option Addr) (n' c' : Nat) (r : Rcd) (L : List Gh) (W : World) (ho : CfgOk ⟨cols, rows, side, radius, speed, ids, queue⟩) (hL : RIn ghL W (.slice p' n' c') L) (hn : L.length ≤ 1000) (hf : foldC ⟨cols, rows, side, radius, speed, ids, queue⟩ z t L r) :
    Calls Try.prog 31 #[.agg #[.int .i64 cols, .int .i64 rows, .int .i64 side, .int .i64 radius, .int .i64 speed, .int .i64 ids, .int .i64 queue], .int .i64 z, .agg #[.int .i64 0, .int .i64 t, .slice none 0 0, .slice none 0 0, .slice none 0 0, .slice none 0 0, .slice p' n' c', .int .i64 0], .agg #[.int .i64 r.k, .int .i64 r.n, .int .i64 r.f, .slice r.pc r.nc r.cc, .int .i64 (r.b).s, .int .i64 (r.b).i, .int .i64 (r.b).g, .int .i64 (r.b).m, .int .i64 (r.b).x, .int .i64 (r.b).y, .int .i64 (r.b).vx, .int .i64 (r.b).vy, .int .i64 (r.b).hp, .int .i64 (r.b).pw, .int .i64 (r.b).lf, .slice r.pl r.nl r.cl, .int .i64 r.s.ep, .int .i64 r.s.t, .slice r.s.po r.s.no r.s.co, .slice r.s.pd r.s.nd r.s.cd, .slice r.s.pu r.s.nu r.s.cu, .slice r.s.pi r.s.ni r.s.ci, .slice r.s.pg r.s.ng r.s.cg, .int .i64 r.s.nx]] W fun e w' => ∃ p1 n1 c1, e = .returned (.tuple #[.agg #[.int .i64 0, .int .i64 t, .slice none 0 0, .slice none 0 0, .slice none 0 0, .slice none 0 0, .slice p1 n1 c1, .int .i64 0], .int .i64 0]) ∧
      RNew ghL 64 3 W w' (.slice p1 n1 c1) (L ++ [⟨r.f, r.n, r.pl, r.nl, r.cl⟩]) :=
  rfold_ok cols rows side radius speed ids queue z (⟨0, t, none, 0, 0, none, 0, 0, none, 0, 0, none, 0, 0, p', n', c', 0⟩ : Sta) r L W ho hL hn hf.1 hf.2.1 hf.2.2
theorem rfold_at_no (cols rows side radius speed ids queue z t : Int) (p' : Option Addr) (n' c' : Nat) (r : Rcd) (L : List Gh) (W : World) (ho : CfgOk ⟨cols, rows, side, radius, speed, ids, queue⟩) (hL : RIn ghL W (.slice p' n' c') L) (hf : ¬ foldC ⟨cols, rows, side, radius, speed, ids, queue⟩ z t L r) :
    Calls Try.prog 31 #[.agg #[.int .i64 cols, .int .i64 rows, .int .i64 side, .int .i64 radius, .int .i64 speed, .int .i64 ids, .int .i64 queue], .int .i64 z, .agg #[.int .i64 0, .int .i64 t, .slice none 0 0, .slice none 0 0, .slice none 0 0, .slice none 0 0, .slice p' n' c', .int .i64 0], .agg #[.int .i64 r.k, .int .i64 r.n, .int .i64 r.f, .slice r.pc r.nc r.cc, .int .i64 (r.b).s, .int .i64 (r.b).i, .int .i64 (r.b).g, .int .i64 (r.b).m, .int .i64 (r.b).x, .int .i64 (r.b).y, .int .i64 (r.b).vx, .int .i64 (r.b).vy, .int .i64 (r.b).hp, .int .i64 (r.b).pw, .int .i64 (r.b).lf, .slice r.pl r.nl r.cl, .int .i64 r.s.ep, .int .i64 r.s.t, .slice r.s.po r.s.no r.s.co, .slice r.s.pd r.s.nd r.s.cd, .slice r.s.pu r.s.nu r.s.cu, .slice r.s.pi r.s.ni r.s.ci, .slice r.s.pg r.s.ng r.s.cg, .int .i64 r.s.nx]] W fun e w' => e = .returned (.tuple #[.agg #[.int .i64 0, .int .i64 0, .slice none 0 0, .slice none 0 0, .slice none 0 0, .slice none 0 0, .slice none 0 0, .int .i64 0], .int .i64 14]) ∧ Below W.heap.size W w' :=
  rfold_no cols rows side radius speed ids queue z (⟨0, t, none, 0, 0, none, 0, 0, none, 0, 0, none, 0, 0, p', n', c', 0⟩ : Sta) r L W ho hL (by
    by_cases h8 : r.k = 8
    · by_cases ht : r.n = t
      · exact .inr (.inr fun h => hf ⟨h8, ht, h⟩)
      · exact .inr (.inl ht)
    · exact .inl h8)
end Go.Proofs.Ytcnclcfipabimaa
