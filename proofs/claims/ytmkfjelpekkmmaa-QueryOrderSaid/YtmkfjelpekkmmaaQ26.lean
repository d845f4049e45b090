/-
  Chapter texts QmN: what the claim reaches of them. Conditions stand at each theorem.
-/
import Derived.Maps.AppendAt
import Derived.Test.YtmkfjelpekkmmaaQ25
import Derived.Test.YtmkfjelpekkmmaaQ23
import Derived.Test.YtmkfjelpekkmmaaQ20
import Derived.Test.YtmkfjelpekkmmaaQ21
import Derived.Test.YtmkfjelpekkmmaaQ05
namespace Go.Proofs.Ytmkfjelpekkmmaa
open Go.RowKit Go.Shelf Go.Sort

attribute [local go_sem] Oper.semAt_some
theorem cells_own {β : Type} (B : Nat) (t : TypeId) (f : β → Array Value) : Go.Own (fun s W => W.heap[B]? = some (.cells (f s) t (0, 0))) := fun s X Y row hs hg hrow => by
  refine (hg.block B (lt_of_heap hs) fun e => ?_).trans hs
  obtain ⟨o, ho, hc⟩ := hrow B e.symm
  rw [hs] at ho; cases ho; cases hc
theorem cells_not_row {W : World} {B : Nat} {t e : TypeId} {cs : Array Value} (h : W.heap[B]? = some (.cells cs t (0, 0))) (hte : t ≠ e) {base size k : Nat} {v : Value} {xs : List Value} (hr : W.ownsRow base e size v k xs) : some B ≠ v.ownBlock := by
  rcases hr.2 with ⟨rfl, _⟩ | ⟨g, cap, cur, rfl, _, hgb, _⟩
  · simp [Value.ownBlock]
  · intro e'
    obtain rfl : B = g := by simpa [Value.ownBlock] using e'
    have := h.symm.trans hgb
    simp at this
    exact hte this.2
theorem bnew_put {w0 W : World} {v : Value} {l : List Bun} (h : BNew w0 W v l) {D : Nat} {o : Obj} (o' : Obj) (hD : w0.heap.size ≤ D) (hl : W.heap[D]? = some o) (ho : o.isCells = false) (ho2 : o.isWalk = false) : BNew w0 (W.putObj D o') v l := by
  obtain ⟨h1, h2, h3⟩ := h
  refine ⟨h1.keep fun g hg => World.putObj_heap_other fun e => ?_, h2.trans (belowK_b (w := w0) (Nat.le_refl _) W D _ _ hD hl ho ho2), h3⟩
  subst e
  obtain ⟨_, ⟨rfl, _⟩ | ⟨g', off, cap, cur, rfl, hb, _⟩⟩ := h1
  · cases hg
  · obtain rfl : g' = g := by simpa [Value.ownBlock] using hg
    rw [hb] at hl; cases hl; cases ho
set_option maxRecDepth 100000 in
set_option maxHeartbeats 4000000 in
theorem found_seq (w : World) (ptr : Option Addr) (qa qn : Int) (g : FuncId) (lb : Array Value) (eg : ∀ args w, (callFunc g args).run Try.prog w = .ok (.enter g args) w) (hf : Bun → Bool) (ys : List Bun) (Nn : Nat) (hN : Nn ≤ 1000000) (Sp : List Bun → Prop)
    (HH : ∀ W, Below w.heap.size w W → ∀ x : Bun, Calls Try.prog g (#[.agg x.arr] ++ lb) W fun e w' => e = .returned (.bool (hf x)) ∧ Below W.heap.size W w')
    (HS : ∀ W, Below w.heap.size w W → W.heap[w.heap.size + 3]? = some (.cells #[.pointer ptr] 32 (0, 0)) → w.heap.size ≤ W.heap.size →
      SeqStopsK Fence.wide 9 Try.prog 71 #[.pointer (some ⟨w.heap.size + 3, 0, none⟩)] (fun x : Bun => #[.agg x.arr]) (KpA w.heap.size (w.heap.size + 3)) (fun zs => zs = ys) Sp Nn W) (hys : ys.length ≤ 1000000) (f : Bun → Bool) (hfd : ∀ b, f b = (matchB qa qn b.m && hf b)) :
    Calls Try.prog 39 #[.pointer ptr, .agg #[.int .i64 qa, .int .i64 qn], .func (.func g) #[] lb] w fun e w' => ∃ v, e = .returned v ∧ BNew w w' v (stableF cmpBun (ys.filter f)) := by
  obtain ⟨i0, hi0, hz0, hz1, hz2⟩ := info_parts info_bunJ
  refine (callsIn_wide (n := 10)).1 ?_
  refine callsIn_of_wp_marks Try.func39 rfl trivial ?_ rfl
  simp only [Try.ntmps39, List.size_toArray, List.length_cons, List.length_nil, Nat.reduceAdd, Nat.reduceSub, Array.replicate_succ, Array.replicate_zero, List.push_toArray, List.append_toArray, List.nil_append, List.cons_append]
  gi_wp2
  refine ⟨trivial, (callsIn_wide.2 (all_fn ptr _)).mono ?_⟩
  rintro e W1 ⟨rfl, rfl⟩
  simp only [World.size_alloc]
  have hB0 : Below w.heap.size w ((((w.alloc (.cells #[.int .i64 qa, .int .i64 qn] 23)).alloc (.cells #[.func (.func g) #[] lb] 74)).alloc (.cells #[.slice none 0 0] 29)).alloc (.cells #[.pointer ptr] 32)) := (by repeat' (first | (with_reducible exact Below.refl _ _) | (with_reducible assumption) | (with_reducible refine below_drewN ?_ _) | (with_reducible refine below_more _ _ _ ?_ ?_) | (with_reducible refine Below.alloc ?_ ?_ _) | (with_reducible refine Below.drew ?_) | (with_reducible refine Below.setCell ?_ ?_ _) | go_size))
  have b0 : ((((w.alloc (.cells #[.int .i64 qa, .int .i64 qn] 23)).alloc (.cells #[.func (.func g) #[] lb] 74)).alloc (.cells #[.slice none 0 0] 29)).alloc (.cells #[.pointer ptr] 32)).heap[w.heap.size]? = some (.cells #[.int .i64 qa, .int .i64 qn] 23 (0, 0)) :=
    (World.grownBy_alloc _ _ none).block w.heap.size (by simp; omega) (by simp) |>.trans ((World.grownBy_alloc _ _ none).block w.heap.size (by simp; omega) (by simp) |>.trans ((World.grownBy_alloc _ _ none).block w.heap.size (by simp) (by simp) |>.trans (heap_alloc_new_at _ _ _ rfl)))
  have b1 : Go.Boxed ((((w.alloc (.cells #[.int .i64 qa, .int .i64 qn] 23)).alloc (.cells #[.func (.func g) #[] lb] 74)).alloc (.cells #[.slice none 0 0] 29)).alloc (.cells #[.pointer ptr] 32)) (w.heap.size + 1) 74 (.func (.func g) #[] lb) := by
    have := ((Go.Boxed.new (w.alloc (.cells #[.int .i64 qa, .int .i64 qn] 23)) 74 (.func (.func g) #[] lb)).alloc (.cells #[.slice none 0 0] 29)).alloc (.cells #[.pointer ptr] 32)
    simpa only [World.size_alloc] using this
  have b2 : Go.Boxed ((((w.alloc (.cells #[.int .i64 qa, .int .i64 qn] 23)).alloc (.cells #[.func (.func g) #[] lb] 74)).alloc (.cells #[.slice none 0 0] 29)).alloc (.cells #[.pointer ptr] 32)) (w.heap.size + 1 + 1) 29 (.slice none 0 0) := by
    have := (Go.Boxed.new ((w.alloc (.cells #[.int .i64 qa, .int .i64 qn] 23)).alloc (.cells #[.func (.func g) #[] lb] 74)) 29 (.slice none 0 0)).alloc (.cells #[.pointer ptr] 32)
    simpa only [World.size_alloc] using this
  have b3 : Go.Boxed ((((w.alloc (.cells #[.int .i64 qa, .int .i64 qn] 23)).alloc (.cells #[.func (.func g) #[] lb] 74)).alloc (.cells #[.slice none 0 0] 29)).alloc (.cells #[.pointer ptr] 32)) (w.heap.size + 1 + 1 + 1) 32 (.pointer ptr) := by
    have := Go.Boxed.new (((w.alloc (.cells #[.int .i64 qa, .int .i64 qn] 23)).alloc (.cells #[.func (.func g) #[] lb] 74)).alloc (.cells #[.slice none 0 0] 29)) 32 (.pointer ptr)
    simpa only [World.size_alloc] using this
  have hsz : ((((w.alloc (.cells #[.int .i64 qa, .int .i64 qn] 23)).alloc (.cells #[.func (.func g) #[] lb] 74)).alloc (.cells #[.slice none 0 0] 29)).alloc (.cells #[.pointer ptr] 32)).heap.size = w.heap.size + 4 := by simp
  generalize (((w.alloc (.cells #[.int .i64 qa, .int .i64 qn] 23)).alloc (.cells #[.func (.func g) #[] lb] 74)).alloc (.cells #[.slice none 0 0] 29)).alloc (.cells #[.pointer ptr] 32) = W0 at *
  have HSQ := HS W0 hB0 b3 hB0.size
  rw [show w.heap.size + 3 = w.heap.size + 1 + 1 + 1 by omega] at HSQ
  obtain ⟨n0, hn0⟩ : ∃ n0, n0 = w.heap.size := ⟨_, rfl⟩
  rw [← hn0] at b0 b1 b2 b3 hsz HSQ ⊢
  obtain ⟨n1, hn1⟩ : ∃ n1, n1 = n0 + 1 := ⟨_, rfl⟩
  rw [← hn1] at b1 b2 b3 HSQ ⊢
  obtain ⟨n2, hn2⟩ : ∃ n2, n2 = n1 + 1 := ⟨_, rfl⟩
  rw [← hn2] at b2 b3 HSQ ⊢
  obtain ⟨n3, hn3⟩ : ∃ n3, n3 = n2 + 1 := ⟨_, rfl⟩
  rw [← hn3] at b3 HSQ ⊢
  have q0 : w.heap.size ≤ n0 := by omega
  have q1 : n0 < n1 := by omega
  have q2 : n1 < n2 := by omega
  have q3 : n2 < n3 := by omega
  have q4 : n3 < W0.heap.size := by omega
  have q5 : w.heap.size ≤ W0.heap.size := by omega
  have HN0 := Lib.hid hn0
  clear hn0 hn1 hn2 hn3 hsz
  have HH' := Lib.hid HH
  have HFD := Lib.hid hfd
  clear HH HS hfd
  gi_wp2
  refine wpIn_rangeFunc_ownH rfl (by omega) (gf := 71) (lb := #[.pointer (some ⟨n3, 0, none⟩)]) rfl trivial (enters_of Try.func71 (by kernel_rfl) rfl)
    HSQ KpA.trans (kpA_b (by omega) (by omega)) (Below.refl _ _) (fun _ => rfl)
    (fun pre W => ((∃ v, Go.Boxed W n2 29 v ∧ W.ownsRow w.heap.size 51 11 v (pre.filter f).length (cellsR bunL (pre.filter f)) ∧ True) ∧ (W.heap[n0]? = some (.cells #[.int .i64 qa, .int .i64 qn] 23 (0, 0)) ∧ Go.Boxed W n1 74 (.func (.func g) #[] lb) ∧ Go.Boxed W n3 32 (.pointer ptr))) ∧ Below w.heap.size w W)
    (fun _ _ _ => False)
    (OwnFrom.and (OwnFrom.and (Go.Own.from (holdsRow_own w.heap.size n2 29 51 11 (fun pre : List Bun => (pre.filter f).length) (fun pre => cellsR bunL (pre.filter f)) (fun _ _ => True)) _) (OwnFrom.and (Go.Own.from (cells_own n0 23 fun _ => #[.int .i64 qa, .int .i64 qn]) _) (OwnFrom.and (Go.Own.from (boxed_own _ _ _) _) (Go.Own.from (boxed_own _ _ _) _)))) (ownFrom_below (Nat.le_refl _) (by omega)))
    (fun _ _ _ _ _ hs _ _ => hs)
    ⟨⟨⟨_, b2, World.ownsRow_nil _ _ _ _, trivial⟩, b0, b1, b3⟩, hB0⟩
    (fun x a' W => ∃ Bx, n3 < Bx ∧ W.heap[Bx]? = some (.cells x.arr 51 (0, 0)) ∧ a' = { tmps := #[.pointer ptr, .agg #[.int .i64 qa, .int .i64 qn], .func (.func g) #[] lb, undef, .pointer (some ⟨n0, 0, none⟩), .pointer (some ⟨n1, 0, none⟩), .slice none 0 0, .pointer (some ⟨n2, 0, none⟩), .pointer (some ⟨Bx, 0, none⟩), .pointer ptr, .func (.func 71) #[] #[.pointer (some ⟨n3, 0, none⟩)], .agg x.arr, undef, undef, undef, undef, undef, undef, undef, undef, undef, undef, undef, undef, undef, undef, undef], defers := [] })
    (fun x a' _ X Y row hs hg hr => by obtain ⟨Bx, h1, h2, h3⟩ := hs; exact ⟨Bx, h1, cells_own Bx 51 (fun (_ : Unit) => x.arr) () X Y row h2 hg (fun r e => (hr r e).2), h3⟩)
    ?assign ?body ?done ?stop
  case assign =>
    rintro l pre x W K ⟨⟨hrow, hq, hb1, hb3⟩, hB⟩ hK
    gi_wp2
    refine hK _ _ ((KeepsOthers.alloc _ _).from _) (KpA.grow ((Below.refl _ W).alloc (Nat.le_refl _) _) (by have := hb3.lt; omega) hb3.lt) ⟨⟨?_, ?_, hb1.alloc _, hb3.alloc _⟩, hB.alloc hB.size _⟩ ⟨W.heap.size, hb3.lt, heap_alloc_new_at _ _ _ rfl, rfl⟩
    · obtain ⟨v, h1, h2, h3⟩ := hrow
      exact ⟨v, h1.alloc _, h2.alloc _, h3⟩
    · exact ((World.grownBy_alloc W _ none).block n0 (lt_of_heap hq) (by simp)).trans hq
  case body =>
    rintro l pre x a' W hl ⟨r, hr⟩ ⟨⟨⟨v, hv, hrow, -⟩, hq, hb1, hb3⟩, hB⟩ ⟨Bx, hBx, bX, rfl⟩ hlt
    have c2 := hv.cell
    have fr2 := hv.frozen
    have c1 := hb1.cell
    have c00 : W.cell? ⟨n0, 0, none⟩ = some (.int .i64 qa) := by simp [World.cell?, hq]
    have c01 : W.cell? ⟨n0, 1, none⟩ = some (.int .i64 qn) := by simp [World.cell?, hq]
    have x0 : W.cell? ⟨Bx, 0, none⟩ = some (.int .i64 x.s) := by simp [World.cell?, bX]
    have x1 : W.cell? ⟨Bx, 1, none⟩ = some (.int .i64 x.i) := by simp [World.cell?, bX]
    have x2 : W.cell? ⟨Bx, 2, none⟩ = some (.int .i64 x.g) := by simp [World.cell?, bX]
    have x3 : W.cell? ⟨Bx, 3, none⟩ = some (.int .i64 x.m) := by simp [World.cell?, bX]
    have x4 : W.cell? ⟨Bx, 4, none⟩ = some (.int .i64 x.x) := by simp [World.cell?, bX]
    have x5 : W.cell? ⟨Bx, 5, none⟩ = some (.int .i64 x.y) := by simp [World.cell?, bX]
    have x6 : W.cell? ⟨Bx, 6, none⟩ = some (.int .i64 x.vx) := by simp [World.cell?, bX]
    have x7 : W.cell? ⟨Bx, 7, none⟩ = some (.int .i64 x.vy) := by simp [World.cell?, bX]
    have x8 : W.cell? ⟨Bx, 8, none⟩ = some (.int .i64 x.hp) := by simp [World.cell?, bX]
    have x9 : W.cell? ⟨Bx, 9, none⟩ = some (.int .i64 x.pw) := by simp [World.cell?, bX]
    have x10 : W.cell? ⟨Bx, 10, none⟩ = some (.int .i64 x.lf) := by simp [World.cell?, bX]
    have lW : n3 < W.heap.size := hb3.lt
    have lX : Bx < W.heap.size := lt_of_heap bX
    have l0 : n0 < W.heap.size := by omega
    have l1 : n1 < W.heap.size := by omega
    have l2 : n2 < W.heap.size := by omega
    have HM := Lib.hid (fun W' => qmatch_any qa qn x.m W')
    have HX := Lib.hid (fun W' (hW : Below W.heap.size W W') => HH'.out W' (hB.trans (hW.mono hB.size)) x)
    have hfx := HFD.out x
    generalize matchB qa qn x.m = mb at *
    generalize hf x = hx at *
    cases mb with
    | false =>
      have hff : (pre ++ [x]).filter f = pre.filter f := by rw [List.filter_append]; simp [hfx]
      have HFF := Lib.hid hff
      clear hff hfx
      gi_wp2
      refine ⟨trivial, (CallsIn.inRound l (callsIn_wide.2 (HM.out _))).mono ?_⟩
      rintro e w' ⟨rfl, hb⟩
      have hk : KpA n0 n3 W w' := KpA.grow hb (by omega) lW
      have hg := grown_of_below hb
      have hR : (∃ v, Go.Boxed w' n2 29 v ∧ w'.ownsRow w.heap.size 51 11 v (pre.filter f).length (cellsR bunL (pre.filter f)) ∧ True) := ⟨v, hv.kept hg (by simp), hrow.kept hg (Classical.em _), trivial⟩
      have HRES := Lib.hid (And.intro (And.intro hR (And.intro ((hg.block n0 l0 (by simp)).trans hq) (And.intro (hb1.kept hg (by simp)) (hb3.kept hg (by simp))))) (hB.trans (hb.mono hB.size)))
      have HK := Lib.hid hk
      have HKF := Lib.hid (show KeepsFrom W0.heap.size W w' from KeepsFrom.of_grownBy hg (fun j e => by cases e))
      clear hb hk hg hR
      gi_wp2
      refine ⟨fun _ h => (by cases h), ?_⟩
      gi_wp2
      exact ⟨HKF.out, HK.out, by dsimp only; rw [HFF.out]; exact HRES.out⟩
    | true =>
      gi_wp2
      refine ⟨trivial, (CallsIn.inRound l (callsIn_wide.2 (HM.out _))).mono ?_⟩
      rintro e w' ⟨rfl, hb⟩
      obtain ⟨d, os, rfl⟩ := more_of hb
      clear hb
      gi_wp2
      refine ⟨trivial, (CallsIn.inRound l (callsIn_wide.2 (HX.out _ (by repeat' (first | (with_reducible exact Below.refl _ _) | (with_reducible assumption) | (with_reducible refine below_drewN ?_ _) | (with_reducible refine below_more _ _ _ ?_ ?_) | (with_reducible refine Below.alloc ?_ ?_ _) | (with_reducible refine Below.drew ?_) | (with_reducible refine Below.setCell ?_ ?_ _) | go_size))))).mono ?_⟩
      rintro e w' ⟨rfl, hb⟩
      have hb2 : Below W.heap.size W w' := (more_below W d os).trans (hb.mono (by simp))
      clear hb
      have hk : KpA n0 n3 W w' := KpA.grow hb2 (by omega) lW
      have hg := grown_of_below hb2
      have hv2 := hv.kept hg (by simp)
      have hrow2 := hrow.kept hg (Classical.em _)
      have hq2 := (hg.block n0 l0 (by simp)).trans hq
      have hb12 := hb1.kept hg (by simp)
      have hb32 := hb3.kept hg (by simp)
      have hB2 := hB.trans (hb2.mono hB.size)
      have hkf : KeepsFrom W0.heap.size W w' := KeepsFrom.of_grownBy hg (fun j e => by cases e)
      cases hx with
      | false =>
        have hff : (pre ++ [x]).filter f = pre.filter f := by rw [List.filter_append]; simp [hfx]
        have HRES := Lib.hid (And.intro (And.intro (⟨v, hv2, hrow2, trivial⟩ : ∃ v, Go.Boxed w' n2 29 v ∧ w'.ownsRow w.heap.size 51 11 v (pre.filter f).length (cellsR bunL (pre.filter f)) ∧ True) (And.intro hq2 (And.intro hb12 hb32))) hB2)
        have HFF := Lib.hid hff
        have HK := Lib.hid hk
        have HKF := Lib.hid hkf
        clear hff hfx hk hg hv2 hrow2 hq2 hb12 hb32 hB2 hkf hb2
        gi_wp2
        exact ⟨HKF.out, HK.out, by dsimp only; rw [HFF.out]; exact HRES.out⟩
      | true =>
        have hff : (pre ++ [x]).filter f = pre.filter f ++ [x] := by rw [List.filter_append]; simp [hfx]
        have hpl : (pre.filter f).length ≤ pre.length := List.length_filter_le _ _
        have HFF := Lib.hid hff
        have HK := Lib.hid hk
        have HKF := Lib.hid hkf
        have HQ2 := Lib.hid hq2
        have HBX := Lib.hid (fun j => hb2.cell (p := ⟨Bx, j, none⟩) lX)
        replace x0 := (HBX.out 0).trans x0; replace x1 := (HBX.out 1).trans x1; replace x2 := (HBX.out 2).trans x2; replace x3 := (HBX.out 3).trans x3; replace x4 := (HBX.out 4).trans x4; replace x5 := (HBX.out 5).trans x5; replace x6 := (HBX.out 6).trans x6; replace x7 := (HBX.out 7).trans x7; replace x8 := (HBX.out 8).trans x8; replace x9 := (HBX.out 9).trans x9; replace x10 := (HBX.out 10).trans x10
        have c22 := hv2.cell
        have lX2 := Nat.lt_of_lt_of_le lX hb2.size
        have l22 := Nat.lt_of_lt_of_le l2 hb2.size
        have hne3 := hb32.not_row (e := 51) (by decide) hrow2
        have hne1 := hb12.not_row (e := 51) (by decide) hrow2
        clear hff hfx hk hg hkf hb2 c2 c1 c00 c01 fr2 hq2
        gi_wp2_with (gi_at_builtin; refine wpListIn_append_own _ rfl _ _ 29 rfl w.heap.size 51 i0 _ 11 88 Try.underlying29 hi0 hz0 hz1 hz2 rfl (by decide) _ _ _ rfl (hrow2.alloc _) ⟨w'.heap.size, 0, none⟩ 1 1 (bunL x) rfl rfl (new_cells _ _ _) (bunL_one x) (by unfold maxLen; omega) (by omega) (by have := hB2.size; simp; omega) ?_; intro v' w1 hown' hgrow _; obtain ⟨g', cap', rfl⟩ := ownsRow_succ hown'; obtain ⟨hv1, hv3, hr2, hk2, hb4⟩ := hv2.appended (by decide) hrow2 hB2.size (by omega) hown' hgrow; have hc1 := hv1.cell; have hf1 := hv1.frozen)
        have hne0 := cells_not_row HQ2.out (e := 51) (by decide) hrow2
        have k0 := (hgrow.block n0 (by simp; have := lt_of_heap HQ2.out; omega) hne0).trans (((World.grownBy_alloc w' _ none).block n0 (lt_of_heap HQ2.out) (by simp)).trans HQ2.out)
        have k1 := (hb12.alloc (.cells (bunL x).toArray 51)).kept hgrow hne1
        have k3 := (hb32.alloc (.cells (bunL x).toArray 51)).kept hgrow hne3
        have e0 := (Below.heap_setCell w1 ⟨n2, 0, none⟩ (.slice (some ⟨g', 0, none⟩) ((pre.filter f).length + 1) cap') n0 (by simp; omega)).trans k0
        have e1 := k1.other (B' := n2) (by omega) (.slice (some ⟨g', 0, none⟩) ((pre.filter f).length + 1) cap')
        have e3 := k3.other (B' := n2) (by omega) (.slice (some ⟨g', 0, none⟩) ((pre.filter f).length + 1) cap')
        refine ⟨HKF.out.trans (hk2.from _), ⟨HK.out.1.trans (by rw [HN0.out]; exact hb4), (show _ = _ from e3).trans (show _ = _ from hb3).symm⟩, ?_⟩
        dsimp only
        rw [HFF.out, cellsR_app, cellsR_one, List.length_append]
        exact ⟨⟨⟨_, hv3, hr2, trivial⟩, e0, e1, e3⟩, hB2.trans hb4⟩
  case done =>
    rintro D zs W hD rfl ⟨⟨⟨v, hv, hrow, -⟩, -⟩, hB⟩ hK
    have hc := hv.cell
    have hfl : (zs.filter f).length ≤ 1000000 := Nat.le_trans (List.length_filter_le _ _) hys
    have HSO := Lib.hid (sorted_any v (zs.filter f) W (BIn.of_sl (Sl.of_own hrow)) hfl)
    clear hv hrow hfl
    gi_wp2
    refine ⟨trivial, (callsIn_wide.2 HSO.out).mono ?_⟩
    rintro e W2 ⟨v2, rfl, hN⟩
    have hK2 := (hN.2.1.block D (lt_of_heap hK)).trans hK
    have HN2 : Hid (BNew w W2 v2 (stableF cmpBun (zs.filter f))) := Lib.hid ⟨hN.1, hB.trans (hN.2.1.mono hB.size), fun q hq => Nat.le_trans hB.size (hN.2.2 q hq)⟩
    clear hN
    gi_wp2
    refine ⟨by simp, .inl ⟨_, _, rfl, run_takeDeferred hK2, ?_⟩⟩
    exact ⟨_, results_tmp rfl _ _ _, v2, rfl, bnew_put HN2.out _ (by omega) hK2 rfl rfl⟩
  case stop =>
    rintro D c pre W _ _ h _
    exact h.elim
end Go.Proofs.Ytmkfjelpekkmmaa
