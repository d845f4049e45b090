/-
  Chapter 22: Fold. Condition: what was told can be read.
  Chapter 22: Fold, whose zone is not missing. Condition: what was told can be read.
  A region that draws its order and whose last operation, number n, turns what the others read: a condition S holds behind every operation but that one. No condition.
  Chapter 22: Fold, whose zone is missing. Condition: what was told can be read.
-/
import Derived.Test.YtcnclcfipabimaaMgb
import Derived.Test.YtcnclcfipabimaaBase
import Derived.StillTail
import Derived.Deep.RegionHeld3
namespace Go.Proofs.Ytcnclcfipabimaa
open Go.RowKit Go.Shelf

/-- A record, as it lies in memory. -/
structure Rcd where
  k : Int
  n : Int
  f : Int
  pc : Option Addr
  nc : Nat
  cc : Nat
  b : Bun
  pl : Option Addr
  nl : Nat
  cl : Nat
  s : Sta

theorem heap_alloc_new_at (W : World) (o : Obj) (n : Nat) (h : n = W.heap.size) : (W.alloc o).heap[n]? = some o := by subst h; exact heap_alloc_new W o
/-- Three boxes in a row. -/
theorem three_boxes (W : World) (a6 a7 a8 : Array Value) (t6 t7 t8 : TypeId) : ∃ w1, w1 = ((W.alloc (.cells a6 t6)).alloc (.cells a7 t7)).alloc (.cells a8 t8) ∧ Below W.heap.size W w1 ∧ (∀ u, w1.cell? ⟨W.heap.size, u, none⟩ = a6[u]?) ∧ (∀ u, w1.cell? ⟨W.heap.size + 1, u, none⟩ = a7[u]?) ∧ (∀ u, w1.cell? ⟨W.heap.size + 1 + 1, u, none⟩ = a8[u]?) ∧
    (∀ u, w1.frozen? ⟨W.heap.size, u, none⟩ = false) ∧ (∀ u, w1.frozen? ⟨W.heap.size + 1 + 1, u, none⟩ = false) ∧ w1.heap.size = W.heap.size + 1 + 1 + 1 := by
  have e6 : (((W.alloc (.cells a6 t6)).alloc (.cells a7 t7)).alloc (.cells a8 t8)).heap[W.heap.size]? = some (.cells a6 t6) :=
    ((((Below.refl _ (W.alloc (.cells a6 t6))).alloc (Nat.le_refl _) (.cells a7 t7)).alloc (by simp) (.cells a8 t8)).block W.heap.size (by simp)).trans (heap_alloc_new_at W _ _ rfl)
  have e7 : (((W.alloc (.cells a6 t6)).alloc (.cells a7 t7)).alloc (.cells a8 t8)).heap[W.heap.size + 1]? = some (.cells a7 t7) :=
    (((Below.refl _ ((W.alloc (.cells a6 t6)).alloc (.cells a7 t7))).alloc (Nat.le_refl _) (.cells a8 t8)).block (W.heap.size + 1) (by simp)).trans (heap_alloc_new_at _ _ _ (by simp))
  have e8 : (((W.alloc (.cells a6 t6)).alloc (.cells a7 t7)).alloc (.cells a8 t8)).heap[W.heap.size + 1 + 1]? = some (.cells a8 t8) := heap_alloc_new_at _ _ _ (by simp)
  refine ⟨_, rfl, (by repeat' (first | (with_reducible exact Below.refl _ _) | (with_reducible assumption) | (with_reducible refine below_drewN ?_ _) | (with_reducible refine below_more _ _ _ ?_ ?_) | (with_reducible refine Below.alloc ?_ ?_ _) | (with_reducible refine Below.drew ?_) | (with_reducible refine Below.setCell ?_ ?_ _) | go_size)), fun u => ?_, fun u => ?_, fun u => ?_, fun u => ?_, fun u => ?_, by simp⟩
  · unfold World.cell?; rw [e6]; rfl
  · unfold World.cell?; rw [e7]; rfl
  · unfold World.cell?; rw [e8]; rfl
  · unfold World.frozen?; rw [e6]; simp
  · unfold World.frozen?; rw [e8]; simp

set_option maxRecDepth 100000 in
set_option maxHeartbeats 2000000 in
theorem fold_no (a : Option Addr) (z : Int) (s : Sta) (r : Rcd) (W : World) (h : a = none ∨ r.k ≠ 8 ∨ r.n ≠ s.t) :
    Calls Try.prog 30 #[.pointer a, .int .i64 z, .agg #[.int .i64 s.ep, .int .i64 s.t, .slice s.po s.no s.co, .slice s.pd s.nd s.cd, .slice s.pu s.nu s.cu, .slice s.pi s.ni s.ci, .slice s.pg s.ng s.cg, .int .i64 s.nx], .agg #[.int .i64 r.k, .int .i64 r.n, .int .i64 r.f, .slice r.pc r.nc r.cc, .int .i64 (r.b).s, .int .i64 (r.b).i, .int .i64 (r.b).g, .int .i64 (r.b).m, .int .i64 (r.b).x, .int .i64 (r.b).y, .int .i64 (r.b).vx, .int .i64 (r.b).vy, .int .i64 (r.b).hp, .int .i64 (r.b).pw, .int .i64 (r.b).lf, .slice r.pl r.nl r.cl, .int .i64 r.s.ep, .int .i64 r.s.t, .slice r.s.po r.s.no r.s.co, .slice r.s.pd r.s.nd r.s.cd, .slice r.s.pu r.s.nu r.s.cu, .slice r.s.pi r.s.ni r.s.ci, .slice r.s.pg r.s.ng r.s.cg, .int .i64 r.s.nx]] W fun e w' => e = .returned (.tuple #[.agg #[.int .i64 0, .int .i64 0, .slice none 0 0, .slice none 0 0, .slice none 0 0, .slice none 0 0, .slice none 0 0, .int .i64 0], .int .i64 14]) ∧ Below W.heap.size W w' := by
  obtain ⟨w1, hw1, hb1, k6, k7, k8, g6, g8, hsz⟩ := three_boxes W #[.int .i64 s.ep, .int .i64 s.t, .slice s.po s.no s.co, .slice s.pd s.nd s.cd, .slice s.pu s.nu s.cu, .slice s.pi s.ni s.ci, .slice s.pg s.ng s.cg, .int .i64 s.nx] #[.int .i64 r.k, .int .i64 r.n, .int .i64 r.f, .slice r.pc r.nc r.cc, .int .i64 (r.b).s, .int .i64 (r.b).i, .int .i64 (r.b).g, .int .i64 (r.b).m, .int .i64 (r.b).x, .int .i64 (r.b).y, .int .i64 (r.b).vx, .int .i64 (r.b).vy, .int .i64 (r.b).hp, .int .i64 (r.b).pw, .int .i64 (r.b).lf, .slice r.pl r.nl r.cl, .int .i64 r.s.ep, .int .i64 r.s.t, .slice r.s.po r.s.no r.s.co, .slice r.s.pd r.s.nd r.s.cd, .slice r.s.pu r.s.nu r.s.cu, .slice r.s.pi r.s.ni r.s.ci, .slice r.s.pg r.s.ng r.s.cg, .int .i64 r.s.nx] #[.int .i64 0, .int .i64 0, .slice none 0 0, .slice none 0 0, .slice none 0 0, .slice none 0 0, .slice none 0 0, .int .i64 0] 46 48 46
  have s6 : W.heap.size < w1.heap.size := by omega
  have s7 : W.heap.size + 1 < w1.heap.size := by omega
  have s8 : W.heap.size + 1 + 1 < w1.heap.size := by omega
  obtain ⟨z0, z1, z2⟩ := ltz s6
  obtain ⟨z3, z4, z5⟩ := ltz s7
  obtain ⟨z6, z7, z8⟩ := ltz s8
  have x60 := k6 0; simp at x60; have x61 := k6 1; simp at x61; have x62 := k6 2; simp at x62; have x63 := k6 3; simp at x63; have x64 := k6 4; simp at x64; have x65 := k6 5; simp at x65; have x66 := k6 6; simp at x66; have x67 := k6 7; simp at x67
  have x70 := k7 0; simp at x70; have x71 := k7 1; simp at x71; have x72 := k7 2; simp at x72; have x715 := k7 15; simp at x715
  have x80 := k8 0; simp at x80; have x81 := k8 1; simp at x81; have x82 := k8 2; simp at x82; have x83 := k8 3; simp at x83; have x84 := k8 4; simp at x84; have x85 := k8 5; simp at x85; have x86 := k8 6; simp at x86; have x87 := k8 7; simp at x87
  have g80 := g8 0; have g81 := g8 1; have g82 := g8 2; have g83 := g8 3; have g84 := g8 4; have g85 := g8 5; have g86 := g8 6; have g87 := g8 7
  have g66 := g6 6
  have HW1 := Lib.hid hw1
  have HB1 := Lib.hid hb1
  clear hw1 hb1 k6 k7 k8 g6 g8
  by_cases h0 : a = none
  · subst h0
    clear h
    go_enter Try.func30, Try.ntmps30
    go_upto_region 1 with fail
    rw [← HW1.out]
    refine wp_region_more (by kernel_rfl) (by kernel_rfl) ?_
    repeat (go_big_quiet_step (fail))
    refine wpQuiet_nil ?_
    rintro _ ⟨pn, rfl⟩
    go_wp2_with fail
    have hb1 := HB1.out; exact bodyPost_ret (v := .tuple #[.agg #[.int .i64 0, .int .i64 0, .slice none 0 0, .slice none 0 0, .slice none 0 0, .slice none 0 0, .slice none 0 0, .int .i64 0], .int .i64 14]) (by simp [results, Try.results30, go_sem, *]) rfl ⟨rfl, (by repeat' (first | (with_reducible exact Below.refl _ _) | (with_reducible assumption) | (with_reducible refine below_drewN ?_ _) | (with_reducible refine below_more _ _ _ ?_ ?_) | (with_reducible refine Below.alloc ?_ ?_ _) | (with_reducible refine Below.drew ?_) | (with_reducible refine Below.setCell ?_ ?_ _) | go_size))⟩
  · obtain ⟨⟨ab, ao, at'⟩, rfl⟩ := Option.ne_none_iff_exists'.1 h0
    clear h0
    cases hk : (r.k != 8) with
    | true =>
      clear h
      go_enter Try.func30, Try.ntmps30
      go_upto_region 1 with fail
      rw [← HW1.out]
      refine wp_region_more (by kernel_rfl) (by kernel_rfl) ?_
      repeat (go_big_quiet_step (fail))
      refine wpQuiet_nil ?_
      rintro _ ⟨pn, rfl⟩
      go_wp2_with fail
      have hb1 := HB1.out; exact bodyPost_ret (v := .tuple #[.agg #[.int .i64 0, .int .i64 0, .slice none 0 0, .slice none 0 0, .slice none 0 0, .slice none 0 0, .slice none 0 0, .int .i64 0], .int .i64 14]) (by simp [results, Try.results30, go_sem, *]) rfl ⟨rfl, (by repeat' (first | (with_reducible exact Below.refl _ _) | (with_reducible assumption) | (with_reducible refine below_drewN ?_ _) | (with_reducible refine below_more _ _ _ ?_ ?_) | (with_reducible refine Below.alloc ?_ ?_ _) | (with_reducible refine Below.drew ?_) | (with_reducible refine Below.setCell ?_ ?_ _) | go_size))⟩
    | false =>
      have hn : (r.n != s.t) = true := by
        simp at hk
        rcases h with h | h | h
        · cases h
        · exact absurd hk h
        · simpa using h
      clear h
      go_enter Try.func30, Try.ntmps30
      go_upto_region 1 with fail
      rw [← HW1.out]
      refine wp_region_more (by kernel_rfl) (by kernel_rfl) ?_
      repeat (go_big_quiet_step (fail))
      refine wpQuiet_nil ?_
      rintro _ ⟨pn, rfl⟩
      go_wp2_with fail
      have hb1 := HB1.out; exact bodyPost_ret (v := .tuple #[.agg #[.int .i64 0, .int .i64 0, .slice none 0 0, .slice none 0 0, .slice none 0 0, .slice none 0 0, .slice none 0 0, .int .i64 0], .int .i64 14]) (by simp [results, Try.results30, go_sem, *]) rfl ⟨rfl, (by repeat' (first | (with_reducible exact Below.refl _ _) | (with_reducible assumption) | (with_reducible refine below_drewN ?_ _) | (with_reducible refine below_more _ _ _ ?_ ?_) | (with_reducible refine Below.alloc ?_ ?_ _) | (with_reducible refine Below.drew ?_) | (with_reducible refine Below.setCell ?_ ?_ _) | go_size))⟩
end Go.Proofs.Ytcnclcfipabimaa
namespace Go.Proofs.Ytcnclcfipabimaa
open Go.RowKit Go.Shelf

set_option maxRecDepth 100000 in
set_option maxHeartbeats 2000000 in
theorem fold_nomiss (a : Addr) (z : Int) (s : Sta) (r : Rcd) (L : List Gh) (bes : List Int) (W : World) (hL : RIn ghL W (.slice s.pg s.ng s.cg) L) (hk : r.k = 8) (hn : r.n = s.t) (hf : r.f ∉ missF bes L s.t)
    (HB : ∀ W', Below W.heap.size W W' → Calls Try.prog 52 #[.pointer (some a), .int .i64 z] W' fun e w' => ∃ v', e = .returned v' ∧ RNew intL 3 1 W' w' v' bes) :
    Calls Try.prog 30 #[.pointer (some a), .int .i64 z, .agg #[.int .i64 s.ep, .int .i64 s.t, .slice s.po s.no s.co, .slice s.pd s.nd s.cd, .slice s.pu s.nu s.cu, .slice s.pi s.ni s.ci, .slice s.pg s.ng s.cg, .int .i64 s.nx], .agg #[.int .i64 r.k, .int .i64 r.n, .int .i64 r.f, .slice r.pc r.nc r.cc, .int .i64 (r.b).s, .int .i64 (r.b).i, .int .i64 (r.b).g, .int .i64 (r.b).m, .int .i64 (r.b).x, .int .i64 (r.b).y, .int .i64 (r.b).vx, .int .i64 (r.b).vy, .int .i64 (r.b).hp, .int .i64 (r.b).pw, .int .i64 (r.b).lf, .slice r.pl r.nl r.cl, .int .i64 r.s.ep, .int .i64 r.s.t, .slice r.s.po r.s.no r.s.co, .slice r.s.pd r.s.nd r.s.cd, .slice r.s.pu r.s.nu r.s.cu, .slice r.s.pi r.s.ni r.s.ci, .slice r.s.pg r.s.ng r.s.cg, .int .i64 r.s.nx]] W fun e w' => e = .returned (.tuple #[.agg #[.int .i64 0, .int .i64 0, .slice none 0 0, .slice none 0 0, .slice none 0 0, .slice none 0 0, .slice none 0 0, .int .i64 0], .int .i64 14]) ∧ Below W.heap.size W w' := by
  obtain ⟨w1, hw1, hb1, k6, k7, k8, g6, g8, hsz⟩ := three_boxes W #[.int .i64 s.ep, .int .i64 s.t, .slice s.po s.no s.co, .slice s.pd s.nd s.cd, .slice s.pu s.nu s.cu, .slice s.pi s.ni s.ci, .slice s.pg s.ng s.cg, .int .i64 s.nx] #[.int .i64 r.k, .int .i64 r.n, .int .i64 r.f, .slice r.pc r.nc r.cc, .int .i64 (r.b).s, .int .i64 (r.b).i, .int .i64 (r.b).g, .int .i64 (r.b).m, .int .i64 (r.b).x, .int .i64 (r.b).y, .int .i64 (r.b).vx, .int .i64 (r.b).vy, .int .i64 (r.b).hp, .int .i64 (r.b).pw, .int .i64 (r.b).lf, .slice r.pl r.nl r.cl, .int .i64 r.s.ep, .int .i64 r.s.t, .slice r.s.po r.s.no r.s.co, .slice r.s.pd r.s.nd r.s.cd, .slice r.s.pu r.s.nu r.s.cu, .slice r.s.pi r.s.ni r.s.ci, .slice r.s.pg r.s.ng r.s.cg, .int .i64 r.s.nx] #[.int .i64 0, .int .i64 0, .slice none 0 0, .slice none 0 0, .slice none 0 0, .slice none 0 0, .slice none 0 0, .int .i64 0] 46 48 46
  have s6 : W.heap.size < w1.heap.size := by omega
  have s7 : W.heap.size + 1 < w1.heap.size := by omega
  have s8 : W.heap.size + 1 + 1 < w1.heap.size := by omega
  obtain ⟨z0, z1, z2⟩ := ltz s6
  obtain ⟨z3, z4, z5⟩ := ltz s7
  obtain ⟨z6, z7, z8⟩ := ltz s8
  have x60 := k6 0; simp at x60; have x61 := k6 1; simp at x61; have x62 := k6 2; simp at x62; have x63 := k6 3; simp at x63; have x64 := k6 4; simp at x64; have x65 := k6 5; simp at x65; have x66 := k6 6; simp at x66; have x67 := k6 7; simp at x67
  have x70 := k7 0; simp at x70; have x71 := k7 1; simp at x71; have x72 := k7 2; simp at x72; have x715 := k7 15; simp at x715
  have x80 := k8 0; simp at x80; have x81 := k8 1; simp at x81; have x82 := k8 2; simp at x82; have x83 := k8 3; simp at x83; have x84 := k8 4; simp at x84; have x85 := k8 5; simp at x85; have x86 := k8 6; simp at x86; have x87 := k8 7; simp at x87
  have g80 := g8 0; have g81 := g8 1; have g82 := g8 2; have g83 := g8 3; have g84 := g8 4; have g85 := g8 5; have g86 := g8 6; have g87 := g8 7
  have g66 := g6 6
  have HW1 := Lib.hid hw1
  have HB1 := Lib.hid hb1
  have HZ := Lib.hid hb1.size
  clear hw1 hb1 k6 k7 k8 g6 g8
  have HM := Lib.hid (fun W' (hW : Below w1.heap.size w1 W') => missing_of (.pointer (some a)) z s L bes W' ⟨_, rfl⟩ (hL.keep (HB1.out.trans (hW.mono HZ.out))) (fun W'' hW'' => HB W'' (HB1.out.trans ((hW.trans (hW''.mono hW.size)).mono HZ.out))))
  have HCT := Lib.hid (fun v W' h => contains_rin v (missF bes L s.t) r.f W' h)
  rw [show decide (r.f ∈ missF bes L s.t) = false from by simpa using hf] at HCT
  have hk8 : (r.k != 8) = false := by simpa using hk
  have hnt : (r.n != s.t) = false := by simpa using hn
  obtain ⟨ab, ao, at'⟩ := a

  clear hL HB hf hk hn
  go_enter Try.func30, Try.ntmps30
  go_upto_region 1 with fail
  rw [← HW1.out]
  go_region_held3 (fun W => (w1).heap.size ≤ W.heap.size ∧ ∀ b o, b < (w1).heap.size → W.cell? ⟨b, o, none⟩ = (w1).cell? ⟨b, o, none⟩) (with_reducible (repeat (first | assumption | exact s_refl _ | exact s_id _ | refine s_more _ _ ?_ | refine s_alloc _ ?_ | refine s_drew ?_))) (first | (go_at_call 26; refine (HM.out _ (by repeat' (first | (with_reducible exact Below.refl _ _) | (with_reducible assumption) | (with_reducible refine below_drewN ?_ _) | (with_reducible refine below_more _ _ _ ?_ ?_) | (with_reducible refine Below.alloc ?_ ?_ _) | (with_reducible refine Below.drew ?_) | (with_reducible refine Below.setCell ?_ ?_ _) | go_size))).mono ?_; rintro e w' ⟨v1, rfl, hR⟩; obtain ⟨d1, os1, rfl⟩ := more_of hR.2.1) | (go_at_call 65; refine (HCT.out _ _ (hR.rin.keep (by repeat' (first | (with_reducible exact Below.refl _ _) | (with_reducible assumption) | (with_reducible refine below_drewN ?_ _) | (with_reducible refine below_more _ _ _ ?_ ?_) | (with_reducible refine Below.alloc ?_ ?_ _) | (with_reducible refine Below.drew ?_) | (with_reducible refine Below.setCell ?_ ?_ _) | go_size)))).mono ?_; rintro e w' ⟨rfl, rfl⟩))
  go_wp2_with fail
  have hb1 := HB1.out; exact bodyPost_ret (v := .tuple #[.agg #[.int .i64 0, .int .i64 0, .slice none 0 0, .slice none 0 0, .slice none 0 0, .slice none 0 0, .slice none 0 0, .int .i64 0], .int .i64 14]) (by simp [results, Try.results30, go_sem, *]) rfl ⟨rfl, (by repeat' (first | (with_reducible exact Below.refl _ _) | (with_reducible assumption) | (with_reducible refine below_drewN ?_ _) | (with_reducible refine below_more _ _ _ ?_ ?_) | (with_reducible refine Below.alloc ?_ ?_ _) | (with_reducible refine Below.drew ?_) | (with_reducible refine Below.setCell ?_ ?_ _) | go_size))⟩
end Go.Proofs.Ytcnclcfipabimaa
namespace Go.Proofs.Ytcnclcfipabimaa
open Go
section
variable {P : Program} {ops : Array Oper} {Q : Exit → Act → World → Prop} {md : Region.Mode} {S : World → Prop} {n : Nat}

/-- Whatever order is drawn; S holds behind each but number n. -/
def AnyX (P : Program) (md : Region.Mode) (ops : Array Oper) (Q : Exit → Act → World → Prop) (S : World → Prop) (n : Nat) : Nat → Array Bool → Act → World → Prop
  | 0, listed, a, w => Region.ready md ops listed = [] ∧ Q .normal a w
  | fuel + 1, listed, a, w =>
    (Region.ready md ops listed = [] → Q .normal a w) ∧
    ∀ i ∈ Region.ready md ops listed, wpOp P ops Q i (fun a' w' => (i < n → S w') ∧ AnyX P md ops Q S n fuel (listed.setIfInBounds i true) a' w') a w

theorem any_of_x : ∀ (fuel : Nat) (listed : Array Bool) (a : Act) (w : World), AnyX P md ops Q S n fuel listed a w → wpAny P md ops Q fuel listed a w
  | 0, _, _, _, h => h
  | fuel + 1, _, _, _, h => ⟨h.1, fun i hi => wpOp_mono (fun a' w' h' => any_of_x fuel _ a' w' h'.2) (h.2 i hi)⟩

theorem anyX_first {i : Nat} {oi : Oper} {v : Value} (hi : ops[i]? = some oi) (hsel : Region.noSelect ops = true) (hs : Region.sinkB md ops n = true) (hc : Region.chainB md ops n = true) (hn : n < ops.size) (hin : i < n)
    (hQ : ∀ c a w, Q (.panic c) (a.put oi.dst v) w → Q (.panic c) a w) : ∀ (fuel : Nat) (listed : Array Bool) (a : Act) (w : World), HeadInv md ops n listed →
      (∀ j oj, ops[j]? = some oj → j ≠ i → listed.getD j true = false → (∀ e ∈ oj.after, Region.binds md e = true → e.on ≠ i) → oi.apart ops oj = true) →
      i ∈ Region.ready md ops listed → YieldsIf P ops S oi v a → S w →
      AnyX P md ops Q S n fuel (listed.setIfInBounds i true) (a.put oi.dst v) w → AnyX P md ops Q S n (fuel + 1) listed a w
  | fuel, listed, a, w, inv, hfree, hr, hy, hS, H => by
    have hun := (mem_ready.1 hr).1
    refine ⟨fun h => (by rw [h] at hr; cases hr), fun j hj => ?_⟩
    have hjn : j < n := Nat.lt_of_not_le fun h => tail_waits hs hc hn inv _ i rfl hin hun j h hj
    by_cases hji : j = i
    · rw [hji]; exact hy.wpOp hi hS ⟨fun _ => hS, H⟩
    · cases fuel with
      | zero =>
        have := ready_mono hj hji
        rw [H.1] at this
        cases this
      | succ fuel =>
        have h1 := H.2 j (ready_mono hj hji)
        obtain ⟨hjun, oj, hoj, hall⟩ := mem_ready.1 hj
        have hnot : ∀ e ∈ oj.after, Region.binds md e = true → e.on ≠ i := fun e he hb heq => by
          have h2 := hall e he hb
          rw [heq, getD_both hun] at h2
          cases h2
        have h2 := wpOp_putIf hoj (hfree j oj hoj hji hjun hnot) (fun cs b => Region.noSelect_spec hsel i oi cs b hi) (fun cs b => Region.noSelect_spec hsel j oj cs b hoj) hQ hy h1
        refine wpOp_mono (fun a' w' h3 => ⟨h3.2.1, anyX_first hi hsel hs hc hn hin hQ fuel (listed.setIfInBounds j true) a' w' (inv.set hj hjn) (fun k ok hk hki hku hno => ?_) (ready_mono hr (Ne.symm hji)) h3.1 (h3.2.1 hjn) ?_⟩) h2
        · refine hfree k ok hk hki ?_ hno
          by_cases hjk : j = k
          · rw [← hjk]; exact hjun
          · rwa [getD_set_ne true hjk] at hku
        · rw [Array.setIfInBounds_comm _ _ hji]
          exact h3.2.2

/-- What is listed waits for nothing; the tail is not listed. -/
def headB (md : Region.Mode) (ops : Array Oper) (n : Nat) (listed : Array Bool) : Bool :=
  listed.size == ops.size && ((List.range ops.size).all fun j => match ops[j]? with
    | some oj => !listed.getD j false || oj.after.all fun e => !Region.binds md e || listed.getD e.on false
    | none => true) && ((List.range ops.size).all fun t => decide (t < n) || !listed.getD t true)
theorem headB_inv {listed : Array Bool} (h : headB md ops n listed = true) : HeadInv md ops n listed := by
  unfold headB at h
  simp only [Bool.and_eq_true, beq_iff_eq] at h
  obtain ⟨⟨h1, h2⟩, h3⟩ := h
  refine ⟨h1, fun j oj hj hl e he hb => ?_, fun t ht hlt => ?_⟩
  · have := List.all_eq_true.1 h2 j (List.mem_range.2 (Array.getElem?_eq_some_iff.1 hj).1)
    rw [hj] at this
    simp only [hl, Bool.not_true, Bool.false_or] at this
    have h4 := Array.all_eq_true_iff_forall_mem.1 this e he
    simpa [hb] using h4
  · have := List.all_eq_true.1 h3 t (List.mem_range.2 hlt)
    simpa [show ¬ t < n by omega] using this

theorem anyX_take {i : Nat} {oi : Oper} {v : Value} {fuel : Nat} {listed : Array Bool} {a : Act} {w : World} (hi : ops[i]? = some oi)
    (hB : (Region.noSelect ops && Region.sinkB md ops n && Region.chainB md ops n && decide (n < ops.size) && decide (i < n) && headB md ops n listed && Region.free md ops listed i && (Region.ready md ops listed).contains i) = true)
    (hQ : ∀ c a w, Q (.panic c) (a.put oi.dst v) w → Q (.panic c) a w) (hy : YieldsIf P ops S oi v a) (hS : S w)
    (h : AnyX P md ops Q S n fuel (listed.setIfInBounds i true) (a.put oi.dst v) w) : AnyX P md ops Q S n (fuel + 1) listed a w := by
  simp only [Bool.and_eq_true, decide_eq_true_eq] at hB
  obtain ⟨⟨⟨⟨⟨⟨⟨b1, b2⟩, b3⟩, b4⟩, b5⟩, b6⟩, b7⟩, b8⟩ := hB
  exact anyX_first hi b1 b2 b3 b4 b5 hQ fuel listed a w (headB_inv b6) (Region.free_spec hi b7) (by simpa using b8) hy hS h

/-- Each of these comes up next. -/
def ReadyX (P : Program) (md : Region.Mode) (ops : Array Oper) (Q : Exit → Act → World → Prop) (S : World → Prop) (n fuel : Nat) (listed : Array Bool) (a : Act) (w : World) (rs : List Nat) : Prop :=
  ∀ i ∈ rs, wpOp P ops Q i (fun a' w' => (i < n → S w') ∧ AnyX P md ops Q S n fuel (listed.setIfInBounds i true) a' w') a w
theorem ReadyX.nil {fuel : Nat} {listed : Array Bool} {a : Act} {w : World} : ReadyX P md ops Q S n fuel listed a w [] := fun _ h => by cases h
theorem ReadyX.cons {fuel : Nat} {listed : Array Bool} {a : Act} {w : World} {i : Nat} {o : Oper} {rs : List Nat} (ho : ops[i]? = some o)
    (h : ∀ K' : Act → World → Prop, Shut (∀ a w, (i < n → S w) → ((i < n → S w) → AnyX P md ops Q S n fuel (listed.setIfInBounds i true) a w) → K' a w) → if Region.wanted o (yielded ops a.tmps) = true then Oper.wp P o a w K' Q else K' (a.put o.dst undef) w)
    (hs : ReadyX P md ops Q S n fuel listed a w rs) : ReadyX P md ops Q S n fuel listed a w (i :: rs) := fun j hj => by
  rcases List.mem_cons.1 hj with rfl | hj
  · exact wpOp_step ho (fun K' hK => h K' (fun a w hS hW => hK a w ⟨hS, hW hS⟩))
  · exact hs j hj
theorem anyX_ready {rs : List Nat} {fuel : Nat} {listed : Array Bool} {a : Act} {w : World} (hr : Region.ready md ops listed = rs) (hne : rs ≠ [])
    (h : ReadyX P md ops Q S n fuel listed a w rs) : AnyX P md ops Q S n (fuel + 1) listed a w := ⟨fun h0 => absurd (hr ▸ h0) hne, hr ▸ h⟩
theorem anyX_done {listed : Array Bool} {a : Act} {w : World} (hr : Region.ready md ops listed = []) (h : Q .normal a w) : ∀ fuel, AnyX P md ops Q S n fuel listed a w
  | 0 => ⟨hr, h⟩
  | _ + 1 => ⟨fun _ => h, by rw [hr]; simp⟩
theorem wp_region_x {id : Nat} {a : Act} {w : World} (n : Nat) (hm : P.follows .mixedOrders = true) (hS : S w.drew)
    (h : S w.drew → AnyX P .any ops Q S n ops.size (Array.replicate ops.size false) a w.drew) : (Code.region id ops true).wp P Q a w := wp_region_any hm (any_of_x _ _ _ _ (h hS))
end
end Go.Proofs.Ytcnclcfipabimaa
namespace Go.Proofs.Ytcnclcfipabimaa
open Go.RowKit Go.Shelf

theorem more_of_drew (w : World) (d : Nat) (os : Array Obj) : more w.drew d os = more w d os := rfl
/-- A world in which nothing below has turned but one slice's block, which is new. -/
theorem below_app {w1 w w' : World} {v : Value} (hb : Below w1.heap.size w1 w) (ht : Turned w w' v.ownBlock) (hv : ∀ g, v.ownBlock = some g → w1.heap.size ≤ g) : Below w1.heap.size w1 w' := Turned.below_new ht hv hb hb.size
theorem bin_app {W2 W3 Wa w4 : World} {v1 v2 : Value} {lr : List Bun} (h2 : BNew W2 W3 v2 lr) (hv1 : ∀ g, v1.ownBlock = some g → g < W2.heap.size) (hb : Below W3.heap.size W3 Wa) (ht : Turned Wa w4 v1.ownBlock) : Sl w4 41 11 v2 lr.length (bunCells lr) :=
  h2.1.keep fun g hg => (ht.block g (Nat.lt_of_lt_of_le (sl_lt h2.1 hg) hb.size) fun e => by have h1 := hv1 g e.symm; have h3 := h2.2.2 g hg; omega).trans (hb.block g (sl_lt h2.1 hg))
theorem more_heap_congr {w w' : World} {d : Nat} {os : Array Obj} {g : Nat} (hs : w'.heap.size = w.heap.size) (h : w'.heap[g]? = w.heap[g]?) : (more w' d os).heap[g]? = (more w d os).heap[g]? := by
  simp only [more, Array.getElem?_append, hs]
  split
  · exact h
  · rfl

set_option maxRecDepth 100000 in
set_option maxHeartbeats 2000000 in
theorem fold_ok (a : Addr) (z : Int) (s : Sta) (r : Rcd) (L : List Gh) (lr : List Bun) (bes : List Int) (W : World) (hL : RIn ghL W (.slice s.pg s.ng s.cg) L) (hLn : L.length ≤ 1000) (hlr : BIn W (.slice r.pl r.nl r.cl) lr) (hln : lr.length ≤ 1000000) (hk : r.k = 8) (hn : r.n = s.t) (hf : r.f ∈ missF bes L s.t)
    (HB : ∀ W', Below W.heap.size W W' → Calls Try.prog 52 #[.pointer (some a), .int .i64 z] W' fun e w' => ∃ v', e = .returned v' ∧ RNew intL 3 1 W' w' v' bes) :
    Calls Try.prog 30 #[.pointer (some a), .int .i64 z, .agg #[.int .i64 s.ep, .int .i64 s.t, .slice s.po s.no s.co, .slice s.pd s.nd s.cd, .slice s.pu s.nu s.cu, .slice s.pi s.ni s.ci, .slice s.pg s.ng s.cg, .int .i64 s.nx], .agg #[.int .i64 r.k, .int .i64 r.n, .int .i64 r.f, .slice r.pc r.nc r.cc, .int .i64 (r.b).s, .int .i64 (r.b).i, .int .i64 (r.b).g, .int .i64 (r.b).m, .int .i64 (r.b).x, .int .i64 (r.b).y, .int .i64 (r.b).vx, .int .i64 (r.b).vy, .int .i64 (r.b).hp, .int .i64 (r.b).pw, .int .i64 (r.b).lf, .slice r.pl r.nl r.cl, .int .i64 r.s.ep, .int .i64 r.s.t, .slice r.s.po r.s.no r.s.co, .slice r.s.pd r.s.nd r.s.cd, .slice r.s.pu r.s.nu r.s.cu, .slice r.s.pi r.s.ni r.s.ci, .slice r.s.pg r.s.ng r.s.cg, .int .i64 r.s.nx]] W fun e w' => ∃ p' n' c' p2 n2 c2, e = .returned (.tuple #[.agg #[.int .i64 s.ep, .int .i64 s.t, .slice s.po s.no s.co, .slice s.pd s.nd s.cd, .slice s.pu s.nu s.cu, .slice s.pi s.ni s.ci, .slice p' n' c', .int .i64 s.nx], .int .i64 0]) ∧
      RNew ghL 64 3 W w' (.slice p' n' c') (L ++ [⟨r.f, r.n, p2, n2, c2⟩]) ∧ BIn w' (.slice p2 n2 c2) lr := by
  obtain ⟨w1, hw1, hb1, k6, k7, k8, g6, g8, hsz⟩ := three_boxes W #[.int .i64 s.ep, .int .i64 s.t, .slice s.po s.no s.co, .slice s.pd s.nd s.cd, .slice s.pu s.nu s.cu, .slice s.pi s.ni s.ci, .slice s.pg s.ng s.cg, .int .i64 s.nx] #[.int .i64 r.k, .int .i64 r.n, .int .i64 r.f, .slice r.pc r.nc r.cc, .int .i64 (r.b).s, .int .i64 (r.b).i, .int .i64 (r.b).g, .int .i64 (r.b).m, .int .i64 (r.b).x, .int .i64 (r.b).y, .int .i64 (r.b).vx, .int .i64 (r.b).vy, .int .i64 (r.b).hp, .int .i64 (r.b).pw, .int .i64 (r.b).lf, .slice r.pl r.nl r.cl, .int .i64 r.s.ep, .int .i64 r.s.t, .slice r.s.po r.s.no r.s.co, .slice r.s.pd r.s.nd r.s.cd, .slice r.s.pu r.s.nu r.s.cu, .slice r.s.pi r.s.ni r.s.ci, .slice r.s.pg r.s.ng r.s.cg, .int .i64 r.s.nx] #[.int .i64 0, .int .i64 0, .slice none 0 0, .slice none 0 0, .slice none 0 0, .slice none 0 0, .slice none 0 0, .int .i64 0] 46 48 46
  have s6 : W.heap.size < w1.heap.size := by omega
  have s7 : W.heap.size + 1 < w1.heap.size := by omega
  have s8 : W.heap.size + 1 + 1 < w1.heap.size := by omega
  obtain ⟨z0, z1, z2⟩ := ltz s6
  obtain ⟨z3, z4, z5⟩ := ltz s7
  obtain ⟨z6, z7, z8⟩ := ltz s8
  have x60 := k6 0; simp at x60; have x61 := k6 1; simp at x61; have x62 := k6 2; simp at x62; have x63 := k6 3; simp at x63; have x64 := k6 4; simp at x64; have x65 := k6 5; simp at x65; have x66 := k6 6; simp at x66; have x67 := k6 7; simp at x67
  have x70 := k7 0; simp at x70; have x71 := k7 1; simp at x71; have x72 := k7 2; simp at x72; have x715 := k7 15; simp at x715
  have x80 := k8 0; simp at x80; have x81 := k8 1; simp at x81; have x82 := k8 2; simp at x82; have x83 := k8 3; simp at x83; have x84 := k8 4; simp at x84; have x85 := k8 5; simp at x85; have x86 := k8 6; simp at x86; have x87 := k8 7; simp at x87
  have g80 := g8 0; have g81 := g8 1; have g82 := g8 2; have g83 := g8 3; have g84 := g8 4; have g85 := g8 5; have g86 := g8 6; have g87 := g8 7
  have g66 := g6 6
  have HW1 := Lib.hid hw1
  have HB1 := Lib.hid hb1
  have HZ := Lib.hid hb1.size
  clear hw1 hb1 k6 k7 k8 g6 g8 hsz
  have HM := Lib.hid (fun W' (hW : Below w1.heap.size w1 W') => missing_of (.pointer (some a)) z s L bes W' ⟨_, rfl⟩ (hL.keep (HB1.out.trans (hW.mono HZ.out))) (fun W'' hW'' => HB W'' (HB1.out.trans ((hW.trans (hW''.mono hW.size)).mono HZ.out))))
  have HCT := Lib.hid (fun v W' h => contains_rin v (missF bes L s.t) r.f W' h)
  rw [show decide (r.f ∈ missF bes L s.t) = true from by simpa using hf] at HCT
  have hk8 : (r.k != 8) = false := by simpa using hk
  have hnt : (r.n != s.t) = false := by simpa using hn
  obtain ⟨ab, ao, at'⟩ := a

  have HCG := Lib.hid (fun W' (hW : Below w1.heap.size w1 W') => cloneG_any _ L W' (hL.keep (HB1.out.trans (hW.mono HZ.out))) (by omega))
  have HCB := Lib.hid (fun W' (hW : Below w1.heap.size w1 W') => clone_bin _ lr W' (hlr.keep (HB1.out.trans (hW.mono HZ.out))) hln)
  obtain ⟨i0, hi0, hz0, hz1, hz2⟩ := info_partsG info_gh
  clear hL HB hf hk hn hlr
  go_enter Try.func30, Try.ntmps30
  go_upto_region 1 with fail
  rw [← HW1.out]
  go_region_held3 (fun W => (w1).heap.size ≤ W.heap.size ∧ ∀ b o, b < (w1).heap.size → W.cell? ⟨b, o, none⟩ = (w1).cell? ⟨b, o, none⟩) (with_reducible (repeat (first | assumption | exact s_refl _ | exact s_id _ | refine s_more _ _ ?_ | refine s_alloc _ ?_ | refine s_drew ?_))) (first | (go_at_call 26; refine (HM.out _ (by repeat' (first | (with_reducible exact Below.refl _ _) | (with_reducible assumption) | (with_reducible refine below_drewN ?_ _) | (with_reducible refine below_more _ _ _ ?_ ?_) | (with_reducible refine Below.alloc ?_ ?_ _) | (with_reducible refine Below.drew ?_) | (with_reducible refine Below.setCell ?_ ?_ _) | go_size))).mono ?_; rintro e w' ⟨v1, rfl, hR⟩; obtain ⟨d1, os1, rfl⟩ := more_of hR.2.1) | (go_at_call 65; refine (HCT.out _ _ (hR.rin.keep (by repeat' (first | (with_reducible exact Below.refl _ _) | (with_reducible assumption) | (with_reducible refine below_drewN ?_ _) | (with_reducible refine below_more _ _ _ ?_ ?_) | (with_reducible refine Below.alloc ?_ ?_ _) | (with_reducible refine Below.drew ?_) | (with_reducible refine Below.setCell ?_ ?_ _) | go_size)))).mono ?_; rintro e w' ⟨rfl, rfl⟩))
  go_upto_region 3 with fail
  rw [more_of_drew]
  refine wp_region_x (S := fun W' => w1.heap.size ≤ W'.heap.size ∧ ∀ b o, b < w1.heap.size → W'.cell? ⟨b, o, none⟩ = w1.cell? ⟨b, o, none⟩) 14 (by kernel_rfl) (by with_reducible (repeat (first | assumption | exact s_refl _ | exact s_id _ | refine s_more _ _ ?_ | refine s_alloc _ ?_ | refine s_drew ?_))) (fun hHeld => ?_)
  refine anyX_take (n := 14) (i := 0) (v := ?_) rfl (by kernel_rfl) (fun _ _ _ h => h) (Or.inl ⟨by rfl, ?_⟩) (by assumption) ?_
  rotate_left 1
  · (intro w hSw; (try dsimp only at hSw); go_simp; (try with_reducible rfl))
  simp [Act.put]
  refine anyX_take (n := 14) (i := 1) (v := ?_) rfl (by kernel_rfl) (fun _ _ _ h => h) (Or.inl ⟨by rfl, ?_⟩) (by assumption) ?_
  rotate_left 1
  · (intro w hSw; (try dsimp only at hSw); go_simp; (try with_reducible rfl))
  simp [Act.put]
  refine anyX_take (n := 14) (i := 3) (v := ?_) rfl (by kernel_rfl) (fun _ _ _ h => h) (Or.inl ⟨by rfl, ?_⟩) (by assumption) ?_
  rotate_left 1
  · (intro w hSw; (try dsimp only at hSw); go_simp; (try with_reducible rfl))
  simp [Act.put]
  refine anyX_take (n := 14) (i := 4) (v := ?_) rfl (by kernel_rfl) (fun _ _ _ h => h) (Or.inl ⟨by rfl, ?_⟩) (by assumption) ?_
  rotate_left 1
  · (intro w hSw; (try dsimp only at hSw); go_simp; (try with_reducible rfl))
  simp [Act.put]
  refine anyX_take (n := 14) (i := 5) (v := ?_) rfl (by kernel_rfl) (fun _ _ _ h => h) (Or.inl ⟨by rfl, ?_⟩) (by assumption) ?_
  rotate_left 1
  · (intro w hSw; (try dsimp only at hSw); go_simp; (try with_reducible rfl))
  simp [Act.put]
  refine anyX_take (n := 14) (i := 6) (v := ?_) rfl (by kernel_rfl) (fun _ _ _ h => h) (Or.inl ⟨by rfl, ?_⟩) (by assumption) ?_
  rotate_left 1
  · (intro w hSw; (try dsimp only at hSw); go_simp; (try with_reducible rfl))
  simp [Act.put]
  refine anyX_take (n := 14) (i := 7) (v := ?_) rfl (by kernel_rfl) (fun _ _ _ h => h) (Or.inl ⟨by rfl, ?_⟩) (by assumption) ?_
  rotate_left 1
  · (intro w hSw; (try dsimp only at hSw); go_simp; (try with_reducible rfl))
  simp [Act.put]
  refine anyX_take (n := 14) (i := 8) (v := ?_) rfl (by kernel_rfl) (fun _ _ _ h => h) (Or.inl ⟨by rfl, ?_⟩) (by assumption) ?_
  rotate_left 1
  · (intro w hSw; (try dsimp only at hSw); go_simp; (try with_reducible rfl))
  simp [Act.put]
  refine anyX_ready (rs := [2]) (by kernel_rfl) (by simp) (ReadyX.cons rfl (fun K hK => ?_) ReadyX.nil)
  (go_simp; go_at_call 66; refine (HCG.out _ (by repeat' (first | (with_reducible exact Below.refl _ _) | (with_reducible assumption) | (with_reducible refine below_drewN ?_ _) | (with_reducible refine below_more _ _ _ ?_ ?_) | (with_reducible refine Below.alloc ?_ ?_ _) | (with_reducible refine Below.drew ?_) | (with_reducible refine Below.setCell ?_ ?_ _) | go_size))).mono ?_; rintro e w' ⟨v1, rfl, hV1⟩; obtain ⟨d1, os1, rfl⟩ := more_of hV1.2.1)
  refine hK.out _ _ (fun hlt => ?_) (fun hHeld => ?_)
  · (try dsimp only); with_reducible (repeat (first | assumption | exact s_refl _ | exact s_id _ | refine s_more _ _ ?_ | refine s_alloc _ ?_ | refine s_drew ?_))
  clear hK
  replace hHeld := hHeld (by omega); try simp [Act.put]
  refine anyX_ready (rs := [9]) (by kernel_rfl) (by simp) (ReadyX.cons rfl (fun K hK => ?_) ReadyX.nil)
  (go_simp; go_at_call 67; refine (HCB.out _ (by repeat' (first | (with_reducible exact Below.refl _ _) | (with_reducible assumption) | (with_reducible refine below_drewN ?_ _) | (with_reducible refine below_more _ _ _ ?_ ?_) | (with_reducible refine Below.alloc ?_ ?_ _) | (with_reducible refine Below.drew ?_) | (with_reducible refine Below.setCell ?_ ?_ _) | go_size))).mono ?_; rintro e w' ⟨v2, rfl, hV2⟩; obtain ⟨d2, os2, rfl⟩ := more_of hV2.2.1; obtain ⟨p2, c2, rfl⟩ := sl_frm hV2.1)
  refine hK.out _ _ (fun hlt => ?_) (fun hHeld => ?_)
  · (try dsimp only); with_reducible (repeat (first | assumption | exact s_refl _ | exact s_id _ | refine s_more _ _ ?_ | refine s_alloc _ ?_ | refine s_drew ?_))
  clear hK
  replace hHeld := hHeld (by omega); try simp [Act.put]
  refine anyX_take (n := 14) (i := 10) (v := ?_) rfl (by kernel_rfl) (fun _ _ _ h => h) (Or.inl ⟨by rfl, ?_⟩) (by assumption) ?_
  rotate_left 1
  · (intro w hSw; (try dsimp only at hSw); go_simp; (try with_reducible rfl))
  simp [Act.put]
  refine anyX_ready (rs := [11]) (by kernel_rfl) (by simp) (ReadyX.cons rfl (fun K hK => ?_) ReadyX.nil)
  go_simp
  refine hK.out _ _ (fun hlt => ?_) (fun hHeld => ?_)
  · (try dsimp only); with_reducible (repeat (first | assumption | exact s_refl _ | exact s_id _ | refine s_more _ _ ?_ | refine s_alloc _ ?_ | refine s_drew ?_))
  clear hK
  replace hHeld := hHeld (by omega); try simp [Act.put]
  refine anyX_ready (rs := [12]) (by kernel_rfl) (by simp) (ReadyX.cons rfl (fun K hK => ?_) ReadyX.nil)
  (refine step_append_sl _ (by rfl) (.tmp 37) (.tmp 46) 36 (by rfl) 64 i0 _ 3 40 Try.underlying36 hi0 hz0 hz1 hz2 rfl (by omega) _ L.length (cellsR ghL L) (by rfl) (hV1.grow (by repeat' (first | (with_reducible exact Below.refl _ _) | (with_reducible assumption) | (with_reducible refine below_drewN ?_ _) | (with_reducible refine below_more _ _ _ ?_ ?_) | (with_reducible refine Below.alloc ?_ ?_ _) | (with_reducible refine Below.drew ?_) | (with_reducible refine Below.setCell ?_ ?_ _) | go_size))).1 ⟨_, 0, none⟩ 1 1 [.int .i64 r.f, .int .i64 r.n, .slice p2 lr.length c2] (by rfl) (by rfl) (new_cellsN _ _ _ _ (by simp)) (by simp [Value.oneCell']) (by omega) (by unfold maxLen; omega) (by omega) ?_; intro g4 off4 cap4 w4 hs4 ht4 ho4; have hb4 := below_app (by repeat' (first | (with_reducible exact Below.refl _ _) | (with_reducible assumption) | (with_reducible refine below_drewN ?_ _) | (with_reducible refine below_more _ _ _ ?_ ?_) | (with_reducible refine Below.alloc ?_ ?_ _) | (with_reducible refine Below.drew ?_) | (with_reducible refine Below.setCell ?_ ?_ _) | go_size)) ht4 hV1.2.2; obtain ⟨d4, os4, rfl⟩ := more_of hb4)
  refine hK.out _ _ (fun hlt => ?_) (fun hHeld => ?_)
  · (try dsimp only); with_reducible (repeat (first | assumption | exact s_refl _ | exact s_id _ | refine s_more _ _ ?_ | refine s_alloc _ ?_ | refine s_drew ?_))
  clear hK
  replace hHeld := hHeld (by omega); try simp [Act.put]
  refine anyX_take (n := 14) (i := 13) (v := ?_) rfl (by kernel_rfl) (fun _ _ _ h => h) (Or.inl ⟨by rfl, ?_⟩) (by assumption) ?_
  rotate_left 1
  · (intro w hSw; (try dsimp only at hSw); go_simp; (try with_reducible rfl))
  simp [Act.put]
  refine anyX_ready (rs := [14]) (by kernel_rfl) (by simp) (ReadyX.cons rfl (fun K hK => ?_) ReadyX.nil)
  go_simp
  refine hK.out _ _ (fun hlt => ?_) (fun hHeld => ?_)
  · exact absurd hlt (by omega)
  clear hK
  clear hHeld; try simp [Act.put]
  refine anyX_done (by kernel_rfl) ?_ _
  go_wp2_with fail
  have hb1 := HB1.out
  have hs5 := bin_app hV2 (fun g hg => sl_lt hV1.1 hg) (by repeat' (first | (with_reducible exact Below.refl _ _) | (with_reducible assumption) | (with_reducible refine below_drewN ?_ _) | (with_reducible refine below_more _ _ _ ?_ ?_) | (with_reducible refine Below.alloc ?_ ?_ _) | (with_reducible refine Below.drew ?_) | (with_reducible refine Below.setCell ?_ ?_ _) | go_size)) ht4
  have hg1 := hV1.2.2
  have hg2 := hV2.2.2
  have hlt1 : ∀ g, (Value.slice p2 lr.length c2).ownBlock = some g → w1.heap.size ≤ g := fun g hg => by have := hg2 g hg; simp at this; omega
  have hlt2 : w1.heap.size ≤ g4 := by
    rcases ho4 with h | h
    · have := hg1 g4 h; simp at this; omega
    · simp at h; omega
  refine bodyPost_ret (v := .tuple #[.agg #[.int .i64 s.ep, .int .i64 s.t, .slice s.po s.no s.co, .slice s.pd s.nd s.cd, .slice s.pu s.nu s.cu, .slice s.pi s.ni s.ci, .slice (some ⟨g4, off4, none⟩) (L.length + 1) cap4, .int .i64 s.nx], .int .i64 0]) (by simp [results, Try.results30, go_sem, *]) rfl ⟨_, _, _, _, _, _, rfl, ⟨?_, (by repeat' (first | (with_reducible exact Below.refl _ _) | (with_reducible assumption) | (with_reducible refine below_drewN ?_ _) | (with_reducible refine below_more _ _ _ ?_ ?_) | (with_reducible refine Below.alloc ?_ ?_ _) | (with_reducible refine Below.drew ?_) | (with_reducible refine Below.setCell ?_ ?_ _) | go_size)), fun g hg => ?_⟩, BIn.of_sl (hs5.keep fun g hg => ?_)⟩
  · rw [cellsR_app, cellsR_one, List.length_append]
    refine hs4.keep fun g hg => ?_
    obtain rfl : g4 = g := by simpa [Value.ownBlock] using hg
    refine more_heap_congr (by simp) (more_heap_congr (by simp) ?_)
    simp [World.setCell, Array.getElem?_modify, show ¬ W.heap.size = g4 by omega, show ¬ W.heap.size + 1 + 1 = g4 by omega]
  · obtain rfl : g4 = g := by simpa [Value.ownBlock] using hg
    omega
  · have := hlt1 g hg
    refine more_heap_congr (by simp) (more_heap_congr (by simp) ?_)
    simp [World.setCell, Array.getElem?_modify, show ¬ W.heap.size = g by omega, show ¬ W.heap.size + 1 + 1 = g by omega]
end Go.Proofs.Ytcnclcfipabimaa
