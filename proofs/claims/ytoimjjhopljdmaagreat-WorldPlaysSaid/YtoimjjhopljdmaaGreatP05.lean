/- Texts CmS SyA RcA PaA PaR PaP SyC ZnA DkA: what the claim reaches of them. Conditions stand at each theorem. -/
import Derived.Shelf.SlicesQ.IndexFunc
import Derived.Lib.MinMax
import Derived.BigRegion
import Derived.Shelf.RegionOpenPlain
import Derived.Test.YtoimjjhopljdmaaGreatP04
set_option maxRecDepth 100000
set_option maxHeartbeats 8000000
namespace Go.Proofs.YtoimjjhopljdmaaGreat
open Go.RowKit
open Go.Proofs.Tryz (prog)
open Go.Value (int)
open Go.IntKind (i64)
open Go.Lib (hid)
section
open Go.Shelf
theorem sl_emptyCm (W : World) : Sl (W.alloc (.cells #[] 34)) 34 16 (.slice (some ⟨W.heap.size, 0, none⟩) 0 0) 0 [] := ⟨rfl, .inr ⟨W.heap.size, 0, 0, #[], rfl, heap_alloc_new W _, Nat.le_refl _, by simp [maxLen], by simp, fun j u hj => by cases hj⟩⟩
theorem rnew_ofCm {w w1 : World} {l : List Cm} {v v' : Value} (o : Obj) (hv : v.ownBlock = some w.heap.size) (hs : Sl w1 34 16 v' (0 + l.length) ([] ++ cellsR cmC l)) (ht : Turned (w.alloc o) w1 v.ownBlock)
 (ho : v'.ownBlock = v.ownBlock ∨ ∃ g, v'.ownBlock = some g ∧ (w.alloc o).heap.size ≤ g) : RNew cmC 34 16 w w1 v' l := by
 rw [Nat.zero_add, List.nil_append] at hs
 have hsz := ht.size
 rw [World.size_alloc] at hsz
 refine ⟨hs, ((Below.refl w.heap.size w).alloc (Nat.le_refl _) o).trans ⟨ht.os, ht.tape, ht.output, ht.size, fun k hk => ht.block k (by rw [World.size_alloc]; omega) (fun e => by rw [hv] at e; simp at e; omega)⟩, fun g hg => ?_⟩
 rcases ho with e | ⟨g', e, hg'⟩
 · rw [e, hv] at hg; simp at hg; omega
 · rw [e] at hg; simp at hg; rw [World.size_alloc] at hg'; omega
theorem cloneCm_any (v : Value) (l : List Cm) (w : World) (h : RIn cmC w v l) (hl : l.length ≤ 1000000) :
 Calls prog 90 #[v] w fun e w' => ∃ v', e = .returned v' ∧ RNew cmC 34 16 w w' v' l := by
 obtain ⟨i0, hi0, hz0, hz1, hz2⟩ := info_partsG info_cm
 obtain ⟨p, cap, rfl, h1, h2, h3, h4⟩ := h
 have HS := hid sl_emptyCm
 by_cases hn : l = []
 · subst hn
   clear h4 h1
   cases p with
   | none =>
     obtain rfl := h2 rfl
     clear h2 h3
     have hnil := fun W : World => Lib.run_eql_slice_nil (P := prog) W 26 34 none 0 0 0 0 Tryz.underlying26
     go_enter Tryz.func90, Tryz.ntmps90
     go_wp2_with fail
     go_ret
     exact ⟨_, rfl, ⟨rfl, .inl ⟨rfl, rfl⟩⟩, bg, fun g hg => by cases hg⟩
   | some a =>
     clear h2
     have hnil := fun W : World => Lib.run_eql_slice_nil (P := prog) W 26 34 (some a) 0 cap 0 0 Tryz.underlying26
     go_enter Tryz.func90, Tryz.ntmps90
     go_wp2_with (at_builtin; refine wpList_append_zero (by rfl) _ _ 26 (by rfl) 34 i0 Tryz.underlying26 hi0 _ _ 0 0 _ (by rfl) (by rfl) (Nat.le_refl _) ?_)
     go_ret
     exact ⟨_, rfl, HS.out w, bg, fun g hg => by simp [Value.ownBlock] at hg; omega⟩
 · obtain ⟨blk, off, rfl, h5, h6⟩ := h4 hn
   have hn0 : 0 < l.length := List.length_pos_iff.2 hn
   have hcw : ∀ j u, (cellsR cmC l)[j]? = some u → (w.alloc (.cells #[] 34)).cell? (Addr.add ⟨blk, off, none⟩ j) = some u := fun j u hj => by
    have h := h6 j u hj
    rw [show Addr.add ⟨blk, off, none⟩ j = ⟨blk, off + j, none⟩ from by unfold Addr.add; split <;> simp_all]
    exact cell_keep ((Below.refl _ _).alloc (Nat.le_refl _) _) h
   have HW := hid hcw
   have H1 := hid (cellsR_mem cmC (l := l) cmC_one)
   have HX := hid (cellsR_len cmC 16 cmC_len l)
   clear hcw h4 h6 h2 hn h1
   have hnil := fun W : World => Lib.run_eql_slice_nil (P := prog) W 26 34 (some ⟨blk, off, none⟩) l.length cap 0 0 Tryz.underlying26
   go_enter Tryz.func90, Tryz.ntmps90
   go_wp2_with (at_builtin; refine wpList_append_sl _ (by rfl) _ _ 26 (by rfl) 34 i0 _ 16 128 Tryz.underlying26 hi0 hz0 hz1 hz2 rfl (by omega) _ 0 [] (by rfl) (HS.out _) ⟨blk, off, none⟩ l.length cap (cellsR cmC l) (by rfl) HX.out HW.out H1.out hn0 (by unfold maxLen; omega) (by omega) ?_; intro v' w1 hs1 ht ho)
   go_ret
   exact ⟨_, rfl, rnew_ofCm _ rfl hs1 ht ho⟩
def renCm : Ren := ⟨fun n => if n = 6 then 151 else if n = 8 then 126 else 0, fun n => if n = 0 then 0 else if n = 3 then 3 else if n = 4 then 4 else if n = 22 then 26 else if n = 23 then 34 else if n = 25 then 80 else 0, fun _ => 0⟩
theorem laysCm : SlLaysH0.n8 prog renCm := {
 mixed := by kernel_rfl
 f6 := ⟨Tryz.f151.name, by decide, by kernel_rfl⟩
 f8 := ⟨Tryz.f126.name, by decide, by kernel_rfl⟩
 t0 := by kernel_rfl
 a0 := fun _ => by kernel_rfl
 z0 := fun _ => by kernel_rfl
 v0 := fun _ => by kernel_rfl
 t3 := by kernel_rfl
 a3 := fun _ => by kernel_rfl
 z3 := fun _ => by kernel_rfl
 v3 := fun _ => by kernel_rfl
 t4 := by kernel_rfl
 a4 := fun _ => by kernel_rfl
 z4 := fun _ => by kernel_rfl
 v4 := fun _ => by kernel_rfl
 t22 := by kernel_rfl
 a22 := fun _ => by kernel_rfl
 z22 := fun _ => by kernel_rfl
 v22 := fun _ => by kernel_rfl
 t25 := by kernel_rfl
 a25 := fun _ => by kernel_rfl
 z25 := fun _ => by kernel_rfl
 v25 := fun _ => by kernel_rfl }
instance inhCm : Inhabited Cm := ⟨⟨0, 0, 0, 0, zeroB, 0⟩⟩
def endsF (q : List Cm) (s i g : Int) : Bool := q.any fun c => c.k == 2 && idEq c.s c.i c.g s i g
theorem waits1_any (x : Cm) (s i g : Int) (B : Nat) (W : World) (hB : B < W.heap.size) (h0 : W.cell? ⟨B, 0, none⟩ = some (int i64 s)) (h1 : W.cell? ⟨B, 1, none⟩ = some (int i64 i)) (h2 : W.cell? ⟨B, 2, none⟩ = some (int i64 g)) :
 Calls prog 127 (#[.agg (cmC x).toArray] ++ #[.pointer (some ⟨B, 0, none⟩)]) W fun e w' => e = .returned (.bool (x.k == 2 && idEq x.s x.i x.g s i g)) ∧ Below W.heap.size W w' := by
 show Calls prog 127 #[.agg #[int i64 x.k, int i64 x.s, int i64 x.i, int i64 x.g, int i64 (x.b).s, int i64 (x.b).i, int i64 (x.b).g, int i64 (x.b).m, int i64 (x.b).x, int i64 (x.b).y, int i64 (x.b).vx, int i64 (x.b).vy, int i64 (x.b).hp, int i64 (x.b).pw, int i64 (x.b).lf, int i64 x.mask], .pointer (some ⟨B, 0, none⟩)] W _
 obtain ⟨n1, n2, n3⟩ := ltz hB
 cases e1 : (x.k == 2) with
 | true =>
   go_enter Tryz.func127, Tryz.ntmps127
   go_wp2_with fail
   go_ret
   exact ⟨by simp, bg⟩
 | false =>
   go_enter Tryz.func127, Tryz.ntmps127
   go_wp2_with fail
   go_ret
   exact ⟨rfl, bg⟩
theorem eg_waits1 : ∀ args w, (callFunc 127 args).run prog w = .ok (.enter 127 args) w := enters_of Tryz.func127 (by kernel_rfl) rfl
theorem cf_emptyCm (g : Nat) (lb : Array Value) (p : Option Addr) (c : Nat) (w : World) :
 Calls prog 126 #[.slice p 0 c, .func (.func g) #[] lb] w fun e w' => e = .returned (.bool false) ∧ w = w' := by
 have hI : Calls prog 151 #[.slice p 0 c, .func (.func g) #[] lb] w fun e w' => e = .returned (int i64 (-1)) ∧ w = w' := by
  go_enter Tryz.func151, Tryz.ntmps151
  go_wp2_with fail
  refine wp_loop_rounds 1 ?_
  rw [rounds_succ]
  go_wp2
  go_ret
  exact ⟨rfl, rfl⟩
 go_enter Tryz.func126, Tryz.ntmps126
 go_wp2_with (go_at_call 151; refine hI.mono ?_; rintro e w' ⟨rfl, rfl⟩)
 go_ret
 exact ⟨rfl, rfl⟩
theorem contCm_any (s i g : Int) (L : List Cm) (v : Value) (B : Nat) (W : World) (hL : RIn cmC W v L) (hB : B < W.heap.size) (h0' : W.cell? ⟨B, 0, none⟩ = some (int i64 s)) (h1' : W.cell? ⟨B, 1, none⟩ = some (int i64 i)) (h2' : W.cell? ⟨B, 2, none⟩ = some (int i64 g)) :
 Calls prog 126 #[v, .func (.func 127) #[] #[.pointer (some ⟨B, 0, none⟩)]] W fun e w' => e = .returned (.bool (endsF L s i g)) ∧ Below W.heap.size W w' := by
 obtain ⟨p, cap, rfl, hm, _, hc, h4⟩ := hL
 by_cases h0 : L = []
 · subst h0
   refine (cf_emptyCm _ _ p cap W).mono ?_
   rintro e w' ⟨rfl, rfl⟩
   exact ⟨rfl, Below.refl _ _⟩
 · obtain ⟨blk, off, rfl, h5, h6⟩ := h4 h0
   have hcon := AnyQ.slices_ContainsFunc laysCm 16 (fun _ => by kernel_rfl) (fun _ => by kernel_rfl) cmC cmC_len (fun x => x.k == 2 && idEq x.s x.i x.g s i g) 127 #[.pointer (some ⟨B, 0, none⟩)] eg_waits1 blk off L.length cap L W
    (fun W' x hb => ?_) (Nat.le_refl _) (by unfold maxLen at hm; omega) h5 (fun j hj i v hi => ?_)
   · rw [List.take_length] at hcon
     exact hcon
   · have hz := hb.size
     refine (waits1_any x s i g B W' (by omega) ((hb.cell (p := ⟨B, 0, none⟩) hB).trans h0') ((hb.cell (p := ⟨B, 1, none⟩) hB).trans h1') ((hb.cell (p := ⟨B, 2, none⟩) hB).trans h2')).mono ?_
     rintro e w' ⟨he, hb'⟩
     exact ⟨he, hb.trans (hb'.mono hz)⟩
   · rw [getElem!_pos L j hj] at hi
     have hi' : i < 16 := by have := (List.getElem?_eq_some_iff.1 hi).1; rwa [cmC_len] at this
     have := cellsR_get cmC 16 cmC_len L j i L[j] (List.getElem?_eq_getElem hj) hi'
     rw [Nat.add_assoc]
     exact h6 _ v (this.trans hi)
end
theorem ltb {a W : Nat} (h : a < W) : a < W + 1 ∧ (∀ n, a < W + 1 + n) ∧ (∀ n m, a < W + 1 + n + m) ∧ (∀ n m q, a < W + 1 + n + m + q) := ⟨by omega, fun _ => by omega, fun _ _ => by omega, fun _ _ _ => by omega⟩
theorem max_if (x y : Int) : (if y > x then y else x) = max x y := by rw [Int.max_def]; split <;> split <;> omega
@[go_sem high] theorem run_max_ints4 {P : Program} (w : World) (ts : Array TypeId) (t : TypeId) (k : IntKind) (x y u v : Int) :
 (Builtin.max_ ts t #[.int k x, .int k y, .int k u, .int k v]).run P w = .ok (.int k (max (max (max x y) u) v)) w := by
 simp [Builtin.max_, Builtin.max2, max_if]
@[go_sem high] theorem run_max_ints3 {P : Program} (w : World) (ts : Array TypeId) (t : TypeId) (k : IntKind) (x y u : Int) :
 (Builtin.max_ ts t #[.int k x, .int k y, .int k u]).run P w = .ok (.int k (max (max x y) u)) w := by
 simp [Builtin.max_, Builtin.max2, max_if]
def clampF (n : Int) : Int := max (-1073741824) (min 1073741824 n)
theorem clampF_lo (n : Int) : -1073741824 ≤ clampF n := by unfold clampF; omega
theorem clampF_hi (n : Int) : clampF n ≤ 1073741824 := by unfold clampF; omega
theorem clampF_id (n : Int) (h0 : -1073741824 ≤ n) (h1 : n ≤ 1073741824) : clampF n = n := by unfold clampF; omega
def addF (a b : Int) : Int := clampF (clampF a + clampF b)
def farF (x y u v : Int) : Int := max (clampF x - clampF u) (max (-(clampF x - clampF u)) (max (clampF y - clampF v) (-(clampF y - clampF v))))
theorem ret_int {k : IntKind} {a b : Int} (h : a = b) : Ending.returned (.int k a) = .returned (.int k b) := by rw [h]
theorem clamp_any (n : Int) (w : World) : Calls prog 155 #[int i64 n] w fun e w' => e = .returned (int i64 (clampF n)) ∧ w = w' := by
 by_cases h1 : n < -1073741824
 · rw [show clampF n = -1073741824 from by unfold clampF; omega]
   have h2 : n ≤ 1073741824 := by omega
   go_enter Tryz.func155, Tryz.ntmps155
   go_wp2
   all_goals go_ret
   all_goals (refine ⟨ret_int ?_, rfl⟩; first | omega | ((repeat' split at *) <;> omega))
 · by_cases h2 : 1073741824 < n
   · rw [show clampF n = 1073741824 from by unfold clampF; omega]
     have h3 : -1073741824 ≤ n := by omega
     clear h1
     go_enter Tryz.func155, Tryz.ntmps155
     go_wp2
     all_goals go_ret
     all_goals (refine ⟨ret_int ?_, rfl⟩; first | omega | ((repeat' split at *) <;> omega))
   · rw [show clampF n = n from by unfold clampF; omega]
     have h3 : -1073741824 ≤ n := by omega
     have h4 : n ≤ 1073741824 := by omega
     clear h1 h2
     go_enter Tryz.func155, Tryz.ntmps155
     go_wp2
     all_goals go_ret
     all_goals (refine ⟨ret_int ?_, rfl⟩; first | omega | ((repeat' split at *) <;> omega))
theorem rClamp_any (n : Int) (w : World) : Calls prog 78 #[int i64 n] w fun e w' => e = .returned (int i64 (clampF n)) ∧ w = w' := by
 by_cases h1 : n < -1073741824
 · rw [show clampF n = -1073741824 from by unfold clampF; omega]
   have h2 : n ≤ 1073741824 := by omega
   go_enter Tryz.func78, Tryz.ntmps78
   go_wp2
   all_goals go_ret
   all_goals (refine ⟨ret_int ?_, rfl⟩; first | omega | ((repeat' split at *) <;> omega))
 · by_cases h2 : 1073741824 < n
   · rw [show clampF n = 1073741824 from by unfold clampF; omega]
     have h3 : -1073741824 ≤ n := by omega
     clear h1
     go_enter Tryz.func78, Tryz.ntmps78
     go_wp2
     all_goals go_ret
     all_goals (refine ⟨ret_int ?_, rfl⟩; first | omega | ((repeat' split at *) <;> omega))
   · rw [show clampF n = n from by unfold clampF; omega]
     have h3 : -1073741824 ≤ n := by omega
     have h4 : n ≤ 1073741824 := by omega
     clear h1 h2
     go_enter Tryz.func78, Tryz.ntmps78
     go_wp2
     all_goals go_ret
     all_goals (refine ⟨ret_int ?_, rfl⟩; first | omega | ((repeat' split at *) <;> omega))
theorem add_any (b : Nat) (x y : Int) (w : World) (h0 : w.cell? ⟨b, 0, none⟩ = some (int i64 x)) (h1 : w.cell? ⟨b, 1, none⟩ = some (int i64 y)) :
 Calls prog 138 #[.slice (some ⟨b, 0, none⟩) 2 2] w fun e w' => e = .returned (int i64 (addF x y)) ∧ w = w' := by
 have l1 := clampF_lo x; have l2 := clampF_hi x; have l3 := clampF_lo y; have l4 := clampF_hi y
 have e0 := clampF_id (clampF x) l1 l2
 unfold addF
 generalize hcx : clampF x = cx at *
 generalize hcy : clampF y = cy at *
 go_enter Tryz.func138, Tryz.ntmps138
 go_wp2_with fail
 refine wp_loop_rounds 3 ?_
 repeat any_goals (rw [rounds_succ]; go_wp2_with (go_at_call 155; refine eqA (clamp_any _ _) ?_))
 all_goals go_ret
 all_goals exact ⟨rfl, rfl⟩
theorem far_any (x y u v : Int) (w : World) : Calls prog 137 #[int i64 x, int i64 y, int i64 u, int i64 v] w fun e w' => e = .returned (int i64 (farF x y u v)) ∧ w = w' := by
 have h1 := clampF_lo x; have h2 := clampF_hi x; have h3 := clampF_lo u; have h4 := clampF_hi u
 have h5 := clampF_lo y; have h6 := clampF_hi y; have h7 := clampF_lo v; have h8 := clampF_hi v
 generalize hr : farF x y u v = r
 unfold farF at hr
 have HR := hid hr
 clear hr
 go_enter Tryz.func137, Tryz.ntmps137
 go_wp2_with (go_at_call 155; refine eqA (clamp_any _ _) ?_)
 go_ret
 exact ⟨ret_int HR.out, rfl⟩
theorem still_ofR {P : Program} {f : FuncId} {args : Array Value} {w : World} {v : Value} (h : Calls P f args w fun e w' => e = .returned v ∧ w = w') : Calls P f args w fun e w'' => e = .returned v ∧ w'' = w := h.mono fun _ _ ⟨a, b⟩ => ⟨a, b.symm⟩
theorem more_selfR (w : World) : more w w.drawn #[] = w := by simp [more]
def boxOk (x0 y0 x1 y1 : Int) : Bool := decide (clampF x0 < clampF x1) && decide (clampF y0 < clampF y1)
theorem box_any (x0 y0 x1 y1 : Int) (w : World) :
 Calls prog 171 #[.agg #[int i64 x0, int i64 y0, int i64 x1, int i64 y1]] w fun e w' => e = .returned (.tuple #[.agg #[int i64 (clampF x0), int i64 (clampF y0), int i64 (clampF x1), int i64 (clampF y1)], .bool (boxOk x0 y0 x1 y1)]) ∧ Below w.heap.size w w' := by
 have C0 := hid (fun W => clamp_any x0 W)
 have C1 := hid (fun W => clamp_any y0 W)
 have C2 := hid (fun W => clamp_any x1 W)
 have C3 := hid (fun W => clamp_any y1 W)
 unfold boxOk
 generalize clampF x0 = a0 at *
 generalize clampF y0 = b0 at *
 generalize clampF x1 = a1 at *
 generalize clampF y1 = b1 at *
 go_enter Tryz.func171, Tryz.ntmps171
 go_wp2_with fail
 rw [← more_selfR ((w.alloc _).alloc _)]
 generalize World.drawn _ = d0
 generalize (#[] : Array Obj) = os0
 refine wp_region_still_tail 12 (by kernel_rfl) (by kernel_rfl) ?_
 simp only [List.take_succ_cons, List.take_zero, List.drop_succ_cons, List.drop_zero]
 repeat (first | still_step | (still_call (still_ofR (C0.out _))) | (still_call (still_ofR (C1.out _))) | (still_call (still_ofR (C2.out _))) | (still_call (still_ofR (C3.out _))))
 refine wpStill_nil ?_
 go_wp2_with fail
 generalize d0 + 1 = d1
 have mixed : prog.follows .mixedOrders = true := by kernel_rfl
 have hc0 : ∀ j, (more ((w.alloc (.cells #[int i64 a0, int i64 b0, int i64 a1, int i64 b1] 54)).alloc (.cells #[int i64 0, int i64 0, int i64 0, int i64 0] 54)) d1 os0).cell? ⟨w.heap.size, j, none⟩ = (#[int i64 a0, int i64 b0, int i64 a1, int i64 b1] : Array Value)[j]? := fun j => by rw [more_cell _ _ _ _ (by simp; omega)]; simp
 have q0 := hc0 0; have q1 := hc0 1; have q2 := hc0 2; have q3 := hc0 3
 simp only [List.getElem?_toArray, List.getElem?_cons_succ, List.getElem?_cons_zero] at q0 q1 q2 q3
 clear hc0
 cases h1 : decide (a0 < a1) with
 | true =>
   cases h2 : decide (b0 < b1) with
   | true =>
     go_big_region_o
     all_goals go_wp2_with fail
     all_goals exact bodyPost_ret (v := .tuple #[.agg #[int i64 a0, int i64 b0, int i64 a1, int i64 b1], .bool true]) (by simp [results, Tryz.results171, go_sem]) rfl ⟨by simp at h1 h2 ⊢; omega, bg⟩
   | false =>
     go_big_region_o
     all_goals go_wp2_with fail
     all_goals exact bodyPost_ret (v := .tuple #[.agg #[int i64 a0, int i64 b0, int i64 a1, int i64 b1], .bool false]) (by simp [results, Tryz.results171, go_sem]) rfl ⟨by simp at h1 h2 ⊢; omega, bg⟩
 | false =>
   go_big_region_o
   all_goals go_wp2_with fail
   all_goals exact bodyPost_ret (v := .tuple #[.agg #[int i64 a0, int i64 b0, int i64 a1, int i64 b1], .bool false]) (by simp [results, Tryz.results171, go_sem]) rfl ⟨by simp at h1 ⊢; omega, bg⟩
def offF (n lo hi : Int) : Int := max (lo - n) (max (n - hi) 0)
theorem off_any (n lo hi : Int) (w : World) (h0 : -4294967296 ≤ n) (h1 : n ≤ 4294967296) (h2 : -4294967296 ≤ lo) (h3 : lo ≤ 4294967296) (h4 : -4294967296 ≤ hi) (h5 : hi ≤ 4294967296) :
 Calls prog 172 #[int i64 n, int i64 lo, int i64 hi] w fun e w' => e = .returned (int i64 (offF n lo hi)) ∧ w = w' := by
 generalize hr : offF n lo hi = r
 unfold offF at hr
 have HR := hid hr
 clear hr
 go_enter Tryz.func172, Tryz.ntmps172
 go_wp2
 go_ret
 exact ⟨ret_int HR.out, rfl⟩
def gapF (x0 y0 x1 y1 x y : Int) : Int := if boxOk x0 y0 x1 y1 then max (offF (clampF x) (clampF x0) (clampF x1 - 1)) (offF (clampF y) (clampF y0) (clampF y1 - 1)) else -1
theorem gap_any (x0 y0 x1 y1 x y : Int) (w : World) :
 Calls prog 150 #[.agg #[int i64 x0, int i64 y0, int i64 x1, int i64 y1], int i64 x, int i64 y] w fun e w' => e = .returned (int i64 (gapF x0 y0 x1 y1 x y)) ∧ Below w.heap.size w w' := by
 have HBX := hid (fun W => box_any x0 y0 x1 y1 W)
 have CX := hid (fun W => clamp_any x W)
 have CY := hid (fun W => clamp_any y W)
 have l1 := clampF_lo x0; have l2 := clampF_hi x0; have l3 := clampF_lo y0; have l4 := clampF_hi y0
 have l5 := clampF_lo x1; have l6 := clampF_hi x1; have l7 := clampF_lo y1; have l8 := clampF_hi y1
 have m1 := clampF_lo x; have m2 := clampF_hi x; have m3 := clampF_lo y; have m4 := clampF_hi y
 unfold gapF
 cases hok : boxOk x0 y0 x1 y1 with
 | false =>
   rw [hok] at HBX
   simp only [Bool.false_eq_true, if_false]
   generalize clampF x0 = a0 at *
   generalize clampF y0 = b0 at *
   generalize clampF x1 = a1 at *
   generalize clampF y1 = b1 at *
   go_enter Tryz.func150, Tryz.ntmps150
   go_wp2_with (go_at_call 171; refine belA (HBX.out _) fun d os => ?_)
   go_ret
   exact ⟨rfl, bg⟩
 | true =>
   rw [hok] at HBX
   simp only [if_true]
   generalize clampF x0 = a0 at *
   generalize clampF y0 = b0 at *
   generalize clampF x1 = a1 at *
   generalize clampF y1 = b1 at *
   generalize clampF x = cx at *
   generalize clampF y = cy at *
   have O1 := hid (fun W => off_any cx a0 (a1 - 1) W (by omega) (by omega) (by omega) (by omega) (by omega) (by omega))
   have O2 := hid (fun W => off_any cy b0 (b1 - 1) W (by omega) (by omega) (by omega) (by omega) (by omega) (by omega))
   have r1 : IntKind.i64.wrap (a1 - 1) = a1 - 1 := by rw [IntKind.wrap_i64]; omega
   have r2 : IntKind.i64.wrap (b1 - 1) = b1 - 1 := by rw [IntKind.wrap_i64]; omega
   generalize offF cx a0 (a1 - 1) = p1 at *
   generalize offF cy b0 (b1 - 1) = p2 at *
   clear l1 l2 l3 l4 l5 l6 l7 l8 m1 m2 m3 m4
   go_enter Tryz.func150, Tryz.ntmps150
   go_wp2_with (go_at_call 171; refine belA (HBX.out _) fun d os => ?_)
   refine wpm ?_
   repeat (go_big_quiet_step ((first | (go_at_call 155; with_reducible exact more_same (CX.out _)) | (go_at_call 155; with_reducible exact more_same (CY.out _)) | (go_at_call 172; with_reducible exact more_same (O1.out _)) | (go_at_call 172; with_reducible exact more_same (O2.out _)))))
   refine wpQuiet_nil ?_
   rintro _ ⟨pm, rfl⟩
   go_wp2_with fail
   go_ret
   exact ⟨rfl, bg⟩
theorem rhas_any (x0 y0 x1 y1 x y : Int) (w : World) :
 Calls prog 124 #[.agg #[int i64 x0, int i64 y0, int i64 x1, int i64 y1], int i64 x, int i64 y] w fun e w' => e = .returned (.bool (gapF x0 y0 x1 y1 x y == 0)) ∧ Below w.heap.size w w' := by
 have HG := hid (fun W => gap_any x0 y0 x1 y1 x y W)
 generalize gapF x0 y0 x1 y1 x y = r at *
 go_enter Tryz.func124, Tryz.ntmps124
 go_wp2_with (go_at_call 150; refine belA (HG.out _) fun d os => ?_)
 go_ret
 exact ⟨rfl, bg⟩
theorem gapF_world (X Y x y : Int) (hx0 : 1 ≤ X) (hx1 : X ≤ 1073741823) (hy0 : 1 ≤ Y) (hy1 : Y ≤ 1073741823) : (gapF 0 0 X Y x y == 0) = decide (0 ≤ x ∧ x < X ∧ 0 ≤ y ∧ y < Y) := by
 have e0 : clampF 0 = 0 := by decide
 have e1 : clampF X = X := clampF_id X (by omega) (by omega)
 have e2 : clampF Y = Y := clampF_id Y (by omega) (by omega)
 have hok : boxOk 0 0 X Y = true := by unfold boxOk; rw [e0, e1, e2]; simp; omega
 unfold gapF
 rw [hok, if_pos rfl, e0, e1, e2, Bool.eq_iff_iff, beq_iff_eq, decide_eq_true_iff]
 unfold offF clampF
 omega
theorem within_any (h : Bool) (n lo hi : Int) (w : World) :
 Calls prog 149 #[.bool h, int i64 n, int i64 lo, int i64 hi] w fun e w' => e = .returned (.bool (withinB h n lo hi)) ∧ w = w' := by
 cases h
 · go_enter Tryz.func149, Tryz.ntmps149
   go_wp2
   go_ret
   exact ⟨rfl, rfl⟩
 · by_cases h1 : lo ≤ n
   · go_enter Tryz.func149, Tryz.ntmps149
     go_wp2
     go_ret
     exact ⟨by simp [withinB, inR]; omega, rfl⟩
   · go_enter Tryz.func149, Tryz.ntmps149
     go_wp2
     go_ret
     exact ⟨by simp [withinB, inR]; omega, rfl⟩
theorem has_any (s i g m x y vx vy hp pw lf k : Int) (w : World) :
 Calls prog 136 #[.agg #[int i64 s, int i64 i, int i64 g, int i64 m, int i64 x, int i64 y, int i64 vx, int i64 vy, int i64 hp, int i64 pw, int i64 lf], int i64 k] w fun e w' => e = .returned (.bool (hasB m k)) ∧ Below w.heap.size w w' := by
 go_enter Tryz.func136, Tryz.ntmps136
 go_wp2
 go_ret
 exact ⟨rfl, (Below.refl _ _).alloc (Nat.le_refl _) _⟩
theorem checkID_any (s i g : Int) (w : World) :
 Calls prog 120 #[.agg #[int i64 s, int i64 i, int i64 g]] w fun e w' => e = .returned (int i64 (errB (idOk s i g))) ∧ Below w.heap.size w w' := by
 generalize hr : errB _ = r
 have HR := hid hr
 clear hr
 go_enter Tryz.func120, Tryz.ntmps120
 go_wp2_with (go_at_call 149; refine eqA (within_any _ _ _ _ _) ?_)
 all_goals go_ret
 all_goals refine ⟨?_, by go_grown⟩
 all_goals go_tidy
 all_goals (have h := HR.out; rw [← h]; simp_all [errB, idOk, withinB])
theorem some_any (m : Int) (w : World) : Calls prog 122 #[int i64 m] w fun e w' => e = .returned (.bool (someB m)) ∧ w = w' := by
 generalize hr : someB m = r
 have HR := hid hr
 clear hr
 go_enter Tryz.func122, Tryz.ntmps122
 go_wp2
 all_goals go_ret
 all_goals refine ⟨?_, rfl⟩
 all_goals go_tidy
 all_goals (have h := HR.out; rw [← h]; simp [someB, *]; try omega)
theorem right_any (s i g m x y vx vy hp pw lf : Int) (w : World) :
 Calls prog 123 #[.agg #[int i64 s, int i64 i, int i64 g, int i64 m, int i64 x, int i64 y, int i64 vx, int i64 vy, int i64 hp, int i64 pw, int i64 lf]] w fun e w' => e = .returned (.bool (rightB ⟨s, i, g, m, x, y, vx, vy, hp, pw, lf⟩)) ∧ Below w.heap.size w w' := by
 generalize hr : rightB _ = r
 unfold rightB at hr
 have HR := hid hr
 clear hr
 by_cases hm : 0 ≤ m ∧ m ≤ 31
 · obtain ⟨hm0, hm1⟩ := hm
   go_enter Tryz.func123, Tryz.ntmps123
   go_wp2_with fail
   go_region_held3 (fun W => (Below w.heap.size w W ∧ w.heap.size ≤ W.heap.size ∧ w.heap.size < W.heap.size) ∧ ∀ j, W.cell? ⟨w.heap.size, j, none⟩ = (#[int i64 s, int i64 i, int i64 g, int i64 m, int i64 x, int i64 y, int i64 vx, int i64 vy, int i64 hp, int i64 pw, int i64 lf] : Array Value)[j]?) (first | exact box_new _ _ _ | exact box_keep hb (by assumption))
    (first | (go_at_call 136; refine (has_any _ _ _ _ _ _ _ _ _ _ _ _ _).mono ?_; rintro e w' ⟨rfl, hb⟩))
   go_wp2_with fail
   go_region_held3 (fun W => (Below w.heap.size w W ∧ w.heap.size ≤ W.heap.size ∧ w.heap.size < W.heap.size) ∧ ∀ j, W.cell? ⟨w.heap.size, j, none⟩ = (#[int i64 s, int i64 i, int i64 g, int i64 m, int i64 x, int i64 y, int i64 vx, int i64 vy, int i64 hp, int i64 pw, int i64 lf] : Array Value)[j]?) (first | exact box_keep hb (by assumption) | exact box_alloc _ (by assumption) | exact box_drew (by assumption))
    (first | (go_at_call 136; refine (has_any _ _ _ _ _ _ _ _ _ _ _ _ _).mono ?_; rintro e w' ⟨rfl, hb⟩))
   go_wp2_with fail
   rename_i hH
   obtain ⟨⟨hB, hsz, -⟩, -⟩ := hH
   simp only [World.size_alloc] at hsz
   refine wp_loop_rounds 8 ?_
   repeat any_goals (rw [rounds_succ]; go_wp2_with (go_at_call 149; refine eqA (within_any _ _ _ _ _) ?_))
   all_goals go_ret
   all_goals refine ⟨?_, by go_grown⟩
   all_goals clear hB hsz
   all_goals go_tidy
   all_goals (have h := HR.out; rw [← h]; simp only [Bool.not_eq_true', Bool.not_eq_false'] at *; simp [*, inR])
 · go_enter Tryz.func123, Tryz.ntmps123
   go_wp2_with fail
   all_goals go_ret
   all_goals refine ⟨?_, by go_grown⟩
   all_goals go_tidy
   all_goals (have h := HR.out; rw [← h]; simp [inR]; omega)
theorem tmod_two (m : Int) : m.tmod 2 = if m % 2 = 0 then 0 else if m < 0 then -1 else 1 := by
 rcases Int.lt_or_le m 0 with h | h
 · have e : m.tmod 2 = -((-m) % 2) := by
    have := Int.neg_tmod (-m) 2
    rw [Int.neg_neg] at this
    rw [this, Int.tmod_eq_emod_of_nonneg (by omega)]
   rw [e]
   split <;> omega
 · rw [Int.tmod_eq_emod_of_nonneg h]
   split <;> omega
theorem tdiv_two (m : Int) : m.tdiv 2 = if m % 2 = 0 then m / 2 else if m < 0 then m / 2 + 1 else m / 2 := by
 have h := Int.tmod_add_mul_tdiv m 2
 rw [tmod_two] at h
 split at h <;> omega
theorem wrap64_at (n : Int) (h0 : -9223372036854775808 ≤ n) (h1 : n ≤ 9223372036854775807) : wrap64 n = n := by unfold wrap64; omega
theorem half_neg_odd (m : Int) (h0 : -9223372036854775808 ≤ m) (h1 : m < 0) (h2 : (m.tmod 2 != 0) = true) : wrap64 ((wrap64 (m - 1)).tdiv 2) = m / 2 := by
 rw [bne_iff_ne, tmod_two] at h2
 have ho : m % 2 ≠ 0 := by intro h; simp [h] at h2
 rw [wrap64_at (m - 1) (by omega) (by omega), tdiv_two, if_pos (by omega), wrap64_at _ (by omega) (by omega)]
 omega
theorem half_neg_even (m : Int) (h0 : -9223372036854775808 ≤ m) (h1 : m < 0) (h2 : (m.tmod 2 != 0) = false) : wrap64 (m.tdiv 2) = m / 2 := by
 rw [bne_eq_false_iff_eq, tmod_two] at h2
 have ho : m % 2 = 0 := by
  by_cases h : m % 2 = 0
  · exact h
  · rw [if_neg h] at h2; split at h2 <;> omega
 rw [tdiv_two, if_pos ho, wrap64_at _ (by omega) (by omega)]
theorem half_any (m : Int) (w : World) (h0 : -9223372036854775808 ≤ m) (h1 : m ≤ 9223372036854775807) : Calls prog 77 #[int i64 m] w fun e w' => e = .returned (int i64 (m / 2)) ∧ w = w' := by
 generalize hr : m / 2 = r
 have HR := hid hr
 clear hr
 have H0 := hid h0
 clear h0
 go_enter Tryz.func77, Tryz.ntmps77
 go_wp2
 · go_ret
   refine ⟨?_, rfl⟩
   rw [← HR.out]
   exact congrArg (fun n => Ending.returned (Value.int .i64 n)) (half_neg_odd m H0.out (by assumption) (by assumption))
 · go_ret
   refine ⟨?_, rfl⟩
   rw [← HR.out]
   exact congrArg (fun n => Ending.returned (Value.int .i64 n)) (half_neg_even m H0.out (by assumption) (by assumption))
 · go_ret
   exact ⟨by rw [← HR.out]; rfl, rfl⟩
theorem bit_end (q : Int) : (q.tmod 2 != 0) = !(q % 2 == 0) := by
 rw [tmod_two]
 by_cases h : q % 2 = 0
 · simp [h]
 · by_cases h2 : q < 0 <;> simp [h, h2]
theorem bit_any (m c : Int) (w : World) (h0 : -9223372036854775808 ≤ m) (h1 : m ≤ 9223372036854775807) (hc : c = 1 ∨ c = 2 ∨ c = 4 ∨ c = 8 ∨ c = 16) :
 Calls prog 41 #[int i64 m, int i64 c] w fun e w' => e = .returned (.bool (tb m c)) ∧ w = w' := by
 generalize hr : tb m c = r
 have HR := hid hr
 clear hr
 rcases hc with rfl | rfl | rfl | rfl | rfl
 all_goals
  go_enter Tryz.func41, Tryz.ntmps41
  go_wp2_with fail
  refine wp_loop_rounds 5 ?_
  repeat any_goals (rw [rounds_succ]; go_wp2_with (go_at_call 77; refine eqA (half_any _ _ (by omega) (by omega)) ?_))
  go_ret
  refine ⟨?_, rfl⟩
  rw [← HR.out]
  unfold tb
  refine congrArg (fun b => Ending.returned (Value.bool b)) ?_
  refine (bit_end _).trans ?_
  refine congrArg (fun n : Int => !(n % 2 == 0)) ?_
  omega
theorem rIn_any (n lo hi : Int) (h : Bool) (w : World) :
 Calls prog 76 #[int i64 n, int i64 lo, int i64 hi, .bool h] w fun e w' => e = .returned (.bool (withinB h n lo hi)) ∧ w = w' := by
 cases h
 · go_enter Tryz.func76, Tryz.ntmps76
   go_wp2
   go_ret
   exact ⟨rfl, rfl⟩
 · by_cases h1 : lo ≤ n
   · go_enter Tryz.func76, Tryz.ntmps76
     go_wp2
     go_ret
     exact ⟨by simp [withinB, inR]; omega, rfl⟩
   · go_enter Tryz.func76, Tryz.ntmps76
     go_wp2
     go_ret
     exact ⟨by simp [withinB, inR]; omega, rfl⟩
theorem rTakes_any (m : Int) (w : World) : Calls prog 147 #[int i64 m] w fun e w' => e = .returned (.bool (rTakesB m)) ∧ w = w' := by
 generalize hr : rTakesB m = r
 have HR := hid hr
 clear hr
 go_enter Tryz.func147, Tryz.ntmps147
 go_wp2
 all_goals go_ret
 all_goals refine ⟨?_, rfl⟩
 all_goals go_tidy
 all_goals (have h := HR.out; rw [← h]; simp [rTakesB, *]; try omega)
theorem rRightID_any (s i g : Int) (w : World) :
 Calls prog 39 #[.agg #[int i64 s, int i64 i, int i64 g]] w fun e w' => e = .returned (.bool (rIdOk s i g)) ∧ Below w.heap.size w w' := by
 generalize hr : rIdOk _ _ _ = r
 have HR := hid hr
 clear hr
 go_enter Tryz.func39, Tryz.ntmps39
 go_wp2
 all_goals go_ret
 all_goals refine ⟨?_, by go_grown⟩
 all_goals go_tidy
 all_goals (have h := HR.out; rw [← h]; simp [rIdOk, *]; try omega)
abbrev I64 (n : Int) : Prop := -9223372036854775808 ≤ n ∧ n ≤ 9223372036854775807
def gb (m : Int) (i : Nat) : Bool := (BitVec.ofInt 64 m).getLsbD i
theorem wrap_toInt (v : BitVec 64) : IntKind.i64.wrap v.toNat = v.toInt := by
 rw [IntKind.wrap_i64, BitVec.toInt_eq_toNat_cond]
 have := v.isLt
 split <;> omega
theorem bits_and_i64 (m n : Int) : bits .and .i64 m n = (BitVec.ofInt 64 m &&& BitVec.ofInt 64 n).toInt := wrap_toInt _
theorem bits_or_i64 (m n : Int) : bits .or .i64 m n = (BitVec.ofInt 64 m ||| BitVec.ofInt 64 n).toInt := wrap_toInt _
theorem bits_andNot_i64 (m n : Int) : bits .andNot .i64 m n = (BitVec.ofInt 64 m &&& ~~~(BitVec.ofInt 64 n)).toInt := wrap_toInt _
theorem gb_and (m n : Int) (i : Nat) : gb (bits .and .i64 m n) i = (gb m i && gb n i) := by
 unfold gb; rw [bits_and_i64, BitVec.ofInt_toInt, BitVec.getLsbD_and]
theorem gb_or (m n : Int) (i : Nat) : gb (bits .or .i64 m n) i = (gb m i || gb n i) := by
 unfold gb; rw [bits_or_i64, BitVec.ofInt_toInt, BitVec.getLsbD_or]
theorem gb_andNot (m n : Int) (i : Nat) (hi : i < 64) : gb (bits .andNot .i64 m n) i = (gb m i && !gb n i) := by
 unfold gb; rw [bits_andNot_i64, BitVec.ofInt_toInt, BitVec.getLsbD_and, BitVec.getLsbD_not]; simp [hi]
theorem toInt_ofInt_i64 (m : Int) (h : I64 m) : (BitVec.ofInt 64 m).toInt = m := by
 rw [BitVec.toInt_ofInt]
 unfold I64 at h
 exact Int.bmod_eq_of_le (by omega) (by omega)
theorem i64_toInt (v : BitVec 64) : I64 v.toInt := by
 have h1 := BitVec.le_toInt v
 have h2 := BitVec.toInt_lt (x := v)
 unfold I64
 omega
theorem i64_and (m n : Int) : I64 (bits .and .i64 m n) := by rw [bits_and_i64]; exact i64_toInt _
theorem i64_or (m n : Int) : I64 (bits .or .i64 m n) := by rw [bits_or_i64]; exact i64_toInt _
theorem i64_andNot (m n : Int) : I64 (bits .andNot .i64 m n) := by rw [bits_andNot_i64]; exact i64_toInt _
theorem gb_ext (m n : Int) (hm : I64 m) (hn : I64 n) (h : ∀ i, i < 64 → gb m i = gb n i) : m = n := by
 rw [← toInt_ofInt_i64 m hm, ← toInt_ofInt_i64 n hn]
 congr 1
 exact BitVec.eq_of_getLsbD_eq h
theorem gb_zero (i : Nat) : gb 0 i = false := by unfold gb; simp
theorem gb_div (m : Int) (i : Nat) (hi : i < 64) : gb m i = !((m / 2 ^ i) % 2 == 0) := by
 unfold gb
 rw [BitVec.getLsbD, BitVec.toNat_ofInt, Nat.testBit_eq_decide_div_mod_eq]
 have e : ((m % (2 ^ 64 : Nat)).toNat : Int) = m % (2 ^ 64 : Nat) := Int.toNat_of_nonneg (Int.emod_nonneg _ (by decide))
 have k : (((m % (2 ^ 64 : Nat)).toNat / 2 ^ i % 2 : Nat) : Int) = m / 2 ^ i % 2 := by
  rw [Int.natCast_emod, Int.natCast_ediv, e]
  have h2 : ((2 ^ 64 : Nat) : Int) = 2 ^ i * (2 * 2 ^ (63 - i)) := by
   have : (2 : Int) ^ i * (2 * 2 ^ (63 - i)) = 2 ^ (i + 1 + (63 - i)) := by rw [Int.pow_add, Int.pow_add]; simp [Int.mul_assoc]
   rw [this, show i + 1 + (63 - i) = 64 from by omega]; rfl
  rw [h2]
  have hp : (0 : Int) < 2 ^ i := Int.pow_pos (by decide)
  have h3 : m % (2 ^ i * (2 * 2 ^ (63 - i))) = m - 2 ^ i * ((2 * 2 ^ (63 - i)) * (m / (2 ^ i * (2 * 2 ^ (63 - i))))) := by
   rw [Int.emod_def, Int.mul_assoc]
  rw [h3]
  have h4 : (m - 2 ^ i * ((2 * 2 ^ (63 - i)) * (m / (2 ^ i * (2 * 2 ^ (63 - i)))))) / 2 ^ i = m / 2 ^ i - (2 * 2 ^ (63 - i)) * (m / (2 ^ i * (2 * 2 ^ (63 - i)))) := by
   rw [Int.sub_eq_add_neg, ← Int.mul_neg, Int.add_mul_ediv_left _ _ (Int.ne_of_gt hp)]
   rw [← Int.sub_eq_add_neg]
  simp only [Int.natCast_pow, Int.cast_ofNat_Int]
  rw [h4, Int.mul_assoc, Int.sub_emod, Int.mul_emod_right]
  simp
 by_cases h : m / 2 ^ i % 2 = 0
 · have : (m % (2 ^ 64 : Nat)).toNat / 2 ^ i % 2 = 0 := by omega
   rw [this, h]; rfl
 · have : (m % (2 ^ 64 : Nat)).toNat / 2 ^ i % 2 = 1 := by omega
   rw [this, show (m / 2 ^ i % 2 == 0) = false from by simpa using h]; rfl
theorem gb_pow (i j : Nat) (_hi : i < 63) (hj : j < 64) : gb (2 ^ i) j = decide (i = j) := by
 rw [gb_div _ _ hj]
 by_cases h : i = j
 · subst h
   rw [Int.ediv_self (Int.ne_of_gt (Int.pow_pos (by decide)))]
   simp
 · rcases Nat.lt_or_ge j i with hlt | hge
   · have : (2 : Int) ^ i / 2 ^ j = 2 * 2 ^ (i - j - 1) := by
      have e : (2 : Int) ^ i = 2 ^ j * (2 * 2 ^ (i - j - 1)) := by
       have : (2 : Int) ^ j * (2 * 2 ^ (i - j - 1)) = 2 ^ (j + 1 + (i - j - 1)) := by rw [Int.pow_add, Int.pow_add]; simp [Int.mul_assoc]
       rw [this, show j + 1 + (i - j - 1) = i from by omega]
      rw [e, Int.mul_ediv_cancel_left _ (Int.ne_of_gt (Int.pow_pos (by decide)))]
     rw [this]
     simp [h]
   · have hlt : i < j := by omega
     have : (2 : Int) ^ i / 2 ^ j = 0 := Int.ediv_eq_zero_of_lt (Int.le_of_lt (Int.pow_pos (by decide))) (Int.pow_lt_pow_of_lt (by decide) hlt)
     rw [this]
     simp [h]
theorem i64_pow (i : Nat) (hi : i < 63) : I64 ((2 : Int) ^ i) := by
 have h1 : (0 : Int) < 2 ^ i := Int.pow_pos (by decide)
 have h2 : (2 : Int) ^ i ≤ 2 ^ 62 := by
  rcases Nat.lt_or_ge i 62 with h | h
  · exact Int.le_of_lt (Int.pow_lt_pow_of_lt (by decide) h)
  · rw [show i = 62 from by omega]; exact Int.le_refl _
 unfold I64
 omega
theorem hasB_gb (m : Int) (i : Nat) (hi : i < 63) : hasB m (2 ^ i) = gb m i := by
 unfold hasB
 rw [Bool.eq_iff_iff, beq_iff_eq]
 constructor
 · intro h
   have : gb (bits .and .i64 m (2 ^ i)) i = gb (2 ^ i) i := by rw [h]
   rw [gb_and, gb_pow i i hi (by omega)] at this
   simpa using this
 · intro h
   refine gb_ext _ _ (i64_and _ _) (i64_pow i hi) fun j hj => ?_
   rw [gb_and, gb_pow i j hi hj]
   by_cases e : i = j
   · subst e; simp [h]
   · simp [e]
theorem tb_gb (m : Int) (i : Nat) (hi : i < 64) : tb m (2 ^ i) = gb m i := (gb_div m i hi).symm
theorem hasB_tb (m : Int) (i : Nat) (hi : i < 63) : hasB m (2 ^ i) = tb m (2 ^ i) := by rw [hasB_gb m i hi, tb_gb m i (by omega)]
theorem hasB_tb1 (m : Int) : hasB m 1 = tb m 1 := hasB_tb m 0 (by decide)
theorem hasB_tb2 (m : Int) : hasB m 2 = tb m 2 := hasB_tb m 1 (by decide)
theorem hasB_tb4 (m : Int) : hasB m 4 = tb m 4 := hasB_tb m 2 (by decide)
theorem hasB_tb8 (m : Int) : hasB m 8 = tb m 8 := hasB_tb m 3 (by decide)
theorem hasB_tb16 (m : Int) : hasB m 16 = tb m 16 := hasB_tb m 4 (by decide)
theorem idOk_eq (s i g : Int) : rIdOk s i g = idOk s i g := by
 unfold rIdOk idOk inR
 rw [Bool.eq_iff_iff]
 simp
 omega
theorem rightB_eq (b : Bun) : rRightB b = rightB b := by
 unfold rRightB rightB
 rw [hasB_tb1, hasB_tb2, hasB_tb4, hasB_tb8, hasB_tb16]
theorem tb1_mod (m : Int) : tb m 1 = !(m % 2 == 0) := by unfold tb; rw [Int.ediv_one]
theorem and1_zero (m : Int) : (bits .and .i64 m 1 == 0) = !hasB m 1 := by
 rw [Bool.eq_iff_iff, beq_iff_eq, Bool.not_eq_true', show (1 : Int) = 2 ^ 0 from rfl, hasB_gb m 0 (by decide)]
 constructor
 · intro h
   have : gb (bits .and .i64 m (2 ^ 0)) 0 = gb 0 0 := by rw [h]
   rw [gb_and, gb_pow 0 0 (by decide) (by decide), gb_zero] at this
   simpa using this
 · intro h
   refine gb_ext _ _ (i64_and _ _) (by unfold I64; omega) fun j hj => ?_
   rw [gb_and, gb_pow 0 j (by decide) hj, gb_zero]
   by_cases e : 0 = j
   · subst e; simp [h]
   · simp [e]
theorem someB_eq (m : Int) : rTakesB m = someB m := by
 unfold rTakesB someB
 rw [and1_zero, hasB_tb1, tb1_mod, Bool.not_not]
 rfl
theorem checkB_eq (b : Bun) : rMayB b = checkB b := by
 unfold rMayB checkB
 rw [idOk_eq, rightB_eq, hasB_tb1]
 cases idOk b.s b.i b.g <;> cases rightB b <;> cases tb b.m 1 <;> rfl
theorem cmdB_eq (c : Cm) : rCmdB c = cmdB c := by
 unfold rCmdB cmdB
 rw [checkB_eq, idOk_eq, someB_eq, someB_eq, rightB_eq]
 by_cases h1 : c.k = 1
 · simp [h1]
 · by_cases h3 : c.k = 3
   · simp [h3]
     generalize idOk c.s c.i c.g = a; generalize idZero c.b.s c.b.i c.b.g = b; generalize someB c.b.m = d; generalize rightB c.b = e; generalize (c.mask == 0) = f
     revert a b d e f; decide
   · by_cases h4 : c.k = 4
     · simp [h4]
       generalize idOk c.s c.i c.g = a; generalize someB c.mask = b; generalize bunZero c.b = d
       revert a b d; decide
     · by_cases h2 : c.k = 2
       · simp [h2]
         generalize idOk c.s c.i c.g = a; generalize (c.mask == 0) = b; generalize bunZero c.b = d
         revert a b d; decide
       · simp [h1, h2, h3, h4]
theorem withF_eq (b c : Bun) : rWithF b c = withF b c := by
 unfold rWithF withF
 rw [hasB_tb1, hasB_tb2, hasB_tb4, hasB_tb8, hasB_tb16]
theorem sub_and (m k : Int) (hm : I64 m) : wrap64 (m - bits .and .i64 m k) = bits .andNot .i64 (bits .or .i64 m k) k := by
 have e1 : m - bits .and .i64 m k = bits .andNot .i64 m k := by
  rw [bits_and_i64, bits_andNot_i64]
  have hv := toInt_ofInt_i64 m hm
  generalize BitVec.ofInt 64 m = v at *
  generalize BitVec.ofInt 64 k = u
  subst hv
  have h1 : (v &&& u) + (v &&& ~~~u) = v := by
   rw [BitVec.add_eq_or_of_and_eq_zero]
   · ext i hi; simp; cases v[i] <;> cases u[i] <;> rfl
   · ext i hi; simp; cases v[i] <;> cases u[i] <;> simp
  have hx : (v &&& u).msb = (v.msb && u.msb) := BitVec.msb_and
  have hy : (v &&& ~~~u).msb = (v.msb && !u.msb) := by rw [BitVec.msb_and, BitVec.msb_not]; simp
  have lx : (v &&& u).toNat ≤ v.toNat := by rw [BitVec.toNat_and]; exact Nat.and_le_left
  have ly : (v &&& ~~~u).toNat ≤ v.toNat := by rw [BitVec.toNat_and]; exact Nat.and_le_left
  have hs := congrArg BitVec.toNat h1
  rw [BitVec.toNat_add] at hs
  have l1 := v.isLt
  rw [BitVec.toInt_eq_msb_cond, BitVec.toInt_eq_msb_cond, BitVec.toInt_eq_msb_cond, hx, hy]
  clear hx hy h1 hm
  generalize (v &&& u).toNat = a at *
  generalize (v &&& ~~~u).toNat = b at *
  generalize v.toNat = c at *
  cases v.msb <;> cases u.msb <;> simp <;> omega
 have e2 : bits .andNot .i64 (bits .or .i64 m k) k = bits .andNot .i64 m k := by
  refine gb_ext _ _ (i64_andNot _ _) (i64_andNot _ _) fun i hi => ?_
  rw [gb_andNot _ _ _ hi, gb_andNot _ _ _ hi, gb_or]
  cases gb m i <;> cases gb k i <;> rfl
 rw [e1, e2]
 have := i64_andNot m k
 unfold I64 at this
 unfold wrap64
 omega
theorem withoutF_eq (b : Bun) (k : Int) (hm : I64 b.m) : rWithoutF b k = withoutF b k := by
 unfold rWithoutF withoutF
 rw [hasB_tb1, hasB_tb2, hasB_tb4, hasB_tb8, hasB_tb16, sub_and _ _ hm]
/-! ### What is put and taken away -/
theorem hasB_or1 (m n : Int) : hasB (bits .or .i64 m n) 1 = (hasB m 1 || hasB n 1) := by
 have := gb_or m n 0; simpa [← hasB_gb _ 0 (by decide)] using this
theorem hasB_or2 (m n : Int) : hasB (bits .or .i64 m n) 2 = (hasB m 2 || hasB n 2) := by
 have := gb_or m n 1; simpa [← hasB_gb _ 1 (by decide)] using this
theorem hasB_or4 (m n : Int) : hasB (bits .or .i64 m n) 4 = (hasB m 4 || hasB n 4) := by
 have := gb_or m n 2; simpa [← hasB_gb _ 2 (by decide)] using this
theorem hasB_or8 (m n : Int) : hasB (bits .or .i64 m n) 8 = (hasB m 8 || hasB n 8) := by
 have := gb_or m n 3; simpa [← hasB_gb _ 3 (by decide)] using this
theorem hasB_or16 (m n : Int) : hasB (bits .or .i64 m n) 16 = (hasB m 16 || hasB n 16) := by
 have := gb_or m n 4; simpa [← hasB_gb _ 4 (by decide)] using this
theorem small_gb (m : Int) (h : inR 0 m 31 = true) (i : Nat) (h5 : 5 ≤ i) (hi : i < 64) : gb m i = false := by
 simp only [inR, Bool.and_eq_true, decide_eq_true_eq] at h
 rw [gb_div _ _ hi]
 have h2 : (2 : Int) ^ 5 ≤ 2 ^ i := by
  rcases Nat.lt_or_ge 5 i with h' | h'
  · exact Int.le_of_lt (Int.pow_lt_pow_of_lt (by decide) h')
  · rw [show i = 5 from by omega]; exact Int.le_refl _
 rw [Int.ediv_eq_zero_of_lt h.1 (by omega)]
 rfl
theorem gb_31 (i : Nat) (h5 : i < 5) : gb 31 i = true := by
 match i, h5 with
 | 0, _ => decide
 | 1, _ => decide
 | 2, _ => decide
 | 3, _ => decide
 | 4, _ => decide
theorem and_31 (m : Int) : 0 ≤ bits .and .i64 m 31 ∧ bits .and .i64 m 31 ≤ 31 := by
 rw [bits_and_i64]
 have h : (BitVec.ofInt 64 m &&& BitVec.ofInt 64 31).toNat ≤ 31 := by rw [BitVec.toNat_and]; exact Nat.and_le_right
 rw [BitVec.toInt_eq_toNat_cond]
 split <;> omega
theorem gb_small (m : Int) (hm : I64 m) (h : ∀ i, 5 ≤ i → i < 64 → gb m i = false) : inR 0 m 31 = true := by
 have e : m = bits .and .i64 m 31 := gb_ext _ _ hm (i64_and _ _) fun i hi => by
  rw [gb_and]
  rcases Nat.lt_or_ge i 5 with h5 | h5
  · rw [gb_31 i h5, Bool.and_true]
  · rw [h i h5 hi, Bool.false_and]
 have := and_31 m
 rw [← e] at this
 simpa [inR] using this
theorem small_or (a b : Int) (ha : inR 0 a 31 = true) (hb : inR 0 b 31 = true) : inR 0 (bits .or .i64 a b) 31 = true :=
 gb_small _ (i64_or _ _) fun i h5 hi => by rw [gb_or, small_gb a ha i h5 hi, small_gb b hb i h5 hi]; rfl
theorem small_wo (a k : Int) (ha : inR 0 a 31 = true) : inR 0 (bits .andNot .i64 (bits .or .i64 a k) k) 31 = true :=
 gb_small _ (i64_andNot _ _) fun i h5 hi => by rw [gb_andNot _ _ _ hi, gb_or, small_gb a ha i h5 hi]; cases gb k i <;> rfl
theorem within_put {p q : Bool} {x y lo hi : Int} (h1 : withinB p x lo hi = true) (h2 : withinB q y lo hi = true) : withinB (p || q) (if q = true then y else x) lo hi = true := by
 cases p <;> cases q <;> simp_all [withinB]
theorem within_take {p q : Bool} {x lo hi : Int} (h1 : withinB p x lo hi = true) : withinB (p && !q) (if q = true then 0 else x) lo hi = true := by
 cases p <;> cases q <;> simp_all [withinB]
theorem hasB_wo (m n : Int) (i : Nat) (hi : i < 63) : hasB (bits .andNot .i64 (bits .or .i64 m n) n) (2 ^ i) = (hasB m (2 ^ i) && !hasB n (2 ^ i)) := by
 rw [hasB_gb _ i hi, hasB_gb _ i hi, hasB_gb _ i hi, gb_andNot _ _ _ (by omega), gb_or]
 cases gb m i <;> cases gb n i <;> rfl
theorem hasB_wo1 (m n : Int) : hasB (bits .andNot .i64 (bits .or .i64 m n) n) 1 = (hasB m 1 && !hasB n 1) := hasB_wo m n 0 (by decide)
theorem hasB_wo2 (m n : Int) : hasB (bits .andNot .i64 (bits .or .i64 m n) n) 2 = (hasB m 2 && !hasB n 2) := hasB_wo m n 1 (by decide)
theorem hasB_wo4 (m n : Int) : hasB (bits .andNot .i64 (bits .or .i64 m n) n) 4 = (hasB m 4 && !hasB n 4) := hasB_wo m n 2 (by decide)
theorem hasB_wo8 (m n : Int) : hasB (bits .andNot .i64 (bits .or .i64 m n) n) 8 = (hasB m 8 && !hasB n 8) := hasB_wo m n 3 (by decide)
theorem hasB_wo16 (m n : Int) : hasB (bits .andNot .i64 (bits .or .i64 m n) n) 16 = (hasB m 16 && !hasB n 16) := hasB_wo m n 4 (by decide)
theorem right_with (b c : Bun) (hb : rightB b = true) (hc : rightB c = true) : rightB (withF b c) = true := by
 unfold rightB at *
 simp only [Bool.and_eq_true] at *
 obtain ⟨⟨⟨⟨⟨⟨⟨a0, a1⟩, a2⟩, a3⟩, a4⟩, a5⟩, a6⟩, a7⟩ := hb
 obtain ⟨⟨⟨⟨⟨⟨⟨c0, c1⟩, c2⟩, c3⟩, c4⟩, c5⟩, c6⟩, c7⟩ := hc
 simp only [withF, hasB_or1, hasB_or2, hasB_or4, hasB_or8, hasB_or16]
 exact ⟨⟨⟨⟨⟨⟨⟨small_or _ _ a0 c0, within_put a1 c1⟩, within_put a2 c2⟩, within_put a3 c3⟩, within_put a4 c4⟩, within_put a5 c5⟩, within_put a6 c6⟩, within_put a7 c7⟩
theorem right_without (b : Bun) (k : Int) (hb : rightB b = true) : rightB (withoutF b k) = true := by
 unfold rightB at *
 simp only [Bool.and_eq_true] at *
 obtain ⟨⟨⟨⟨⟨⟨⟨a0, a1⟩, a2⟩, a3⟩, a4⟩, a5⟩, a6⟩, a7⟩ := hb
 simp only [withoutF, hasB_wo1, hasB_wo2, hasB_wo4, hasB_wo8, hasB_wo16]
 exact ⟨⟨⟨⟨⟨⟨⟨small_wo _ _ a0, within_take a1⟩, within_take a2⟩, within_take a3⟩, within_take a4⟩, within_take a5⟩, within_take a6⟩, within_take a7⟩
theorem check_with (b c : Bun) (hb : checkB b = true) (hc : rightB c = true) : checkB (withF b c) = true := by
 unfold checkB at *
 simp only [Bool.and_eq_true] at *
 refine ⟨⟨right_with b c hb.1.1 hc, ?_⟩, hb.2⟩
 simp only [withF, hasB_or1, hb.1.2, Bool.true_or]
theorem check_without (b : Bun) (k : Int) (hb : checkB b = true) : checkB (withoutF b k) = (bits .and .i64 k 1 == 0) := by
 unfold checkB at *
 simp only [Bool.and_eq_true] at hb
 rw [right_without b k hb.1.1, and1_zero]
 have e : idOk (withoutF b k).s (withoutF b k).i (withoutF b k).g = true := hb.2
 rw [e]
 simp only [withoutF, hasB_wo1, hb.1.2]
 cases hasB k 1 <;> rfl
structure Cfg where
 (cols rows side radius speed ids queue : Int)
structure CfgOk (c : Cfg) : Prop where
 c0 : 1 ≤ c.cols
 c1 : c.cols ≤ 4
 r0 : 1 ≤ c.rows
 r1 : c.rows ≤ 4
 s0 : 256 ≤ c.side
 s1 : c.side ≤ 1048576
 a0 : 0 ≤ c.radius
 a1 : c.radius ≤ c.side
 v0 : 0 ≤ c.speed
 v1 : c.speed ≤ c.side
 i0 : 1 ≤ c.ids
 i1 : c.ids ≤ 16
 q0 : 1 ≤ c.queue
 q1 : c.queue ≤ 64
theorem zcheck_ok (cols rows side radius speed ids queue : Int) (w : World) (h : CfgOk ⟨cols, rows, side, radius, speed, ids, queue⟩) :
 Calls prog 119 #[.agg #[int i64 cols, int i64 rows, int i64 side, int i64 radius, int i64 speed, int i64 ids, int i64 queue]] w fun e w' => e = .returned (int i64 0) ∧ Below w.heap.size w w' := by
 obtain ⟨c0, c1, r0, r1, s0, s1, a0, a1, v0, v1, i0, i1, q0, q1⟩ := h
 simp only at c0 c1 r0 r1 s0 s1 a0 a1 v0 v1 i0 i1 q0 q1
 go_enter Tryz.func119, Tryz.ntmps119
 go_wp2_with fail
 refine wp_loop_rounds 8 ?_
 repeat any_goals (rw [rounds_succ]; go_wp2_with fail)
 all_goals go_ret
 exact ⟨rfl, bg⟩
theorem CfgOk.prod {c : Cfg} (h : CfgOk c) : 256 ≤ c.cols * c.side ∧ c.cols * c.side ≤ 4194304 ∧ 256 ≤ c.rows * c.side ∧ c.rows * c.side ≤ 4194304 := by
 obtain ⟨c0, c1, r0, r1, s0, s1, _⟩ := h
 refine ⟨?_, ?_, ?_, ?_⟩
 · have := Int.mul_le_mul c0 s0 (by omega) (by omega); omega
 · have := Int.mul_le_mul c1 s1 (by omega) (by omega); omega
 · have := Int.mul_le_mul r0 s0 (by omega) (by omega); omega
 · have := Int.mul_le_mul r1 s1 (by omega) (by omega); omega
def MapAt (w : World) (b : Nat) (c : Cfg) : Prop := w.heap[b]? = some (.cells #[int i64 c.cols, int i64 c.rows, int i64 c.side, int i64 c.radius, int i64 c.speed, int i64 c.ids, int i64 c.queue, int i64 0, int i64 0, int i64 (c.cols * c.side), int i64 (c.rows * c.side)] 142 (0, 0))
theorem znew_ok (cols rows side radius speed ids queue : Int) (w : World) (h : CfgOk ⟨cols, rows, side, radius, speed, ids, queue⟩) :
 Calls prog 79 #[.agg #[int i64 cols, int i64 rows, int i64 side, int i64 radius, int i64 speed, int i64 ids, int i64 queue]] w fun e w' => ∃ b, e = .returned (.tuple #[.pointer (some ⟨b, 0, none⟩), int i64 0]) ∧ Below w.heap.size w w' ∧ MapAt w' b ⟨cols, rows, side, radius, speed, ids, queue⟩ ∧ w.heap.size ≤ b := by
 obtain ⟨p1, p2, p3, p4⟩ := h.prod
 have HC := hid (fun W => zcheck_ok cols rows side radius speed ids queue W h)
 clear h
 simp only at p1 p2 p3 p4
 generalize hx1 : cols * side = x1 at *
 generalize hy1 : rows * side = y1 at *
 go_enter Tryz.func79, Tryz.ntmps79
 go_wp2_with (go_at_call 119; refine belA (HC.out _) fun d os => ?_)
 go_ret2
 refine ⟨_, rfl, bg, ?_, by omega⟩
 unfold MapAt
 simp only [hx1, hy1]
 have hn := heap_alloc_new (more (w.alloc (.cells #[int i64 cols, int i64 rows, int i64 side, int i64 radius, int i64 speed, int i64 ids, int i64 queue] 23)) d os) (.cells #[int i64 cols, int i64 rows, int i64 side, int i64 radius, int i64 speed, int i64 ids, int i64 queue, int i64 0, int i64 0, int i64 x1, int i64 y1] 142)
 simpa using hn
def inF (c : Cfg) (x y : Int) : Int × Int := (max 0 (min x (c.cols * c.side - 1)), max 0 (min y (c.rows * c.side - 1)))
theorem MapAt.cell {w : World} {b : Nat} {c : Cfg} (h : MapAt w b c) (j : Nat) : w.cell? ⟨b, j, none⟩ = (#[int i64 c.cols, int i64 c.rows, int i64 c.side, int i64 c.radius, int i64 c.speed, int i64 c.ids, int i64 c.queue, int i64 0, int i64 0, int i64 (c.cols * c.side), int i64 (c.rows * c.side)] : Array Value)[j]? := by
 simp only [MapAt] at h
 simp [World.cell?, h]
theorem MapAt.grow {w w' : World} {b : Nat} {c : Cfg} (h : MapAt w b c) (hb : Below w.heap.size w w') : MapAt w' b c := (hb.block b (Array.getElem?_eq_some_iff.1 h).1).trans h
theorem zin_any (w : World) (b : Nat) (c : Cfg) (x y : Int) (h : MapAt w b c) (ho : CfgOk c) :
 Calls prog 142 #[.pointer (some ⟨b, 0, none⟩), int i64 x, int i64 y] w fun e w' => e = .returned (.tuple #[int i64 (inF c x y).1, int i64 (inF c x y).2]) ∧ ∃ n, w' = w.drewN n := by
 obtain ⟨p1, p2, p3, p4⟩ := ho.prod
 have h9 := h.cell 9
 have h10 := h.cell 10
 simp only [List.getElem?_toArray, List.getElem?_cons_succ, List.getElem?_cons_zero] at h9 h10
 simp only [inF]
 clear h ho
 generalize c.cols * c.side = x1 at *
 generalize c.rows * c.side = y1 at *
 go_enter Tryz.func142, Tryz.ntmps142
 go_wp2_with fail
 go_quiet (fail)
 go_wp2_with fail
 all_goals go_ret2
 all_goals exact ⟨rfl, _, rfl⟩
def inW (c : Cfg) (x y : Int) : Bool := decide (0 ≤ x ∧ x < c.cols * c.side ∧ 0 ≤ y ∧ y < c.rows * c.side)
def ofF (c : Cfg) (x y : Int) : Int := if inW c x y then y / c.side * c.cols + x / c.side else -1
theorem div_rng {x n s : Int} (h0 : 0 ≤ x) (h1 : x < n * s) (hs : 0 < s) : 0 ≤ x / s ∧ x / s < n := ⟨Int.ediv_nonneg h0 (by omega), Int.ediv_lt_of_lt_mul hs h1⟩
theorem zof_any (w : World) (b : Nat) (c : Cfg) (x y : Int) (h : MapAt w b c) (ho : CfgOk c) :
 Calls prog 83 #[.pointer (some ⟨b, 0, none⟩), int i64 x, int i64 y] w fun e w' => e = .returned (int i64 (ofF c x y)) ∧ Below w.heap.size w w' := by
 obtain ⟨p1, p2, p3, p4⟩ := ho.prod
 have hb := (Array.getElem?_eq_some_iff.1 h).1
 have hg := gapF_world (c.cols * c.side) (c.rows * c.side) x y (by omega) (by omega) (by omega) (by omega)
 have h0 := h.cell 0; have h2 := h.cell 2; have h7 := h.cell 7; have h8 := h.cell 8; have h9 := h.cell 9; have h10 := h.cell 10
 simp only [List.getElem?_toArray, List.getElem?_cons_succ, List.getElem?_cons_zero] at h0 h2 h7 h8 h9 h10
 have HH := hid (fun W => rhas_any 0 0 (c.cols * c.side) (c.rows * c.side) x y W)
 have s0 := ho.s0
 have s1 := ho.s1
 have k0 := ho.c0
 have k1 := ho.c1
 have r1 := ho.r1
 unfold ofF
 unfold inW
 rw [hg] at HH
 obtain ⟨z0, z1, z2⟩ := ltz hb
 by_cases hw : 0 ≤ x ∧ x < c.cols * c.side ∧ 0 ≤ y ∧ y < c.rows * c.side
 · have hd : decide (0 ≤ x ∧ x < c.cols * c.side ∧ 0 ≤ y ∧ y < c.rows * c.side) = true := decide_eq_true hw
   rw [hd] at HH ⊢
   rw [if_pos rfl]
   obtain ⟨x0, x1, y0, y1⟩ := hw
   obtain ⟨dx0, dx1⟩ := div_rng x0 x1 (by omega)
   obtain ⟨dy0, dy1⟩ := div_rng y0 y1 (by omega)
   have ey : Int.tdiv y c.side = y / c.side := Int.tdiv_eq_ediv_of_nonneg y0
   have ex : Int.tdiv x c.side = x / c.side := Int.tdiv_eq_ediv_of_nonneg x0
   have hm0 : 0 ≤ y / c.side * c.cols := Int.mul_nonneg dy0 (by omega)
   have hm1 : y / c.side * c.cols ≤ 3 * 4 := Int.mul_le_mul (by omega) k1 (by omega) (by omega)
   clear hd hg h ho
   generalize hcs : c.cols * c.side = cs at *
   generalize hrs : c.rows * c.side = rs at *
   generalize y / c.side = qy at *
   generalize x / c.side = qx at *
   generalize c.side = side at *
   generalize hcc : c.cols = cols at *
   have w1 : IntKind.i64.wrap qy = qy := by rw [IntKind.wrap_i64]; omega
   have w2 : IntKind.i64.wrap qx = qx := by rw [IntKind.wrap_i64]; omega
   have w3 : IntKind.i64.wrap (qy * cols) = qy * cols := by rw [IntKind.wrap_i64]; omega
   have w4 : IntKind.i64.wrap (qy * cols + qx) = qy * cols + qx := by rw [IntKind.wrap_i64]; omega
   have hne : side ≠ 0 := by omega
   go_enter Tryz.func83, Tryz.ntmps83
   go_wp2_with (go_at_call 124; refine belA (HH.out _) fun d os => ?_)
   refine wpm ?_
   repeat (go_big_quiet_step (fail))
   refine wpQuiet_nil ?_
   rintro _ ⟨pn, rfl⟩
   go_wp2_with fail
   go_ret
   exact ⟨rfl, bg⟩
 · have hd : decide (0 ≤ x ∧ x < c.cols * c.side ∧ 0 ≤ y ∧ y < c.rows * c.side) = false := decide_eq_false hw
   rw [hd] at HH ⊢
   simp only [Bool.false_eq_true, if_false]
   clear hd hw hg h ho
   generalize hcs : c.cols * c.side = cs at *
   generalize hrs : c.rows * c.side = rs at *
   go_enter Tryz.func83, Tryz.ntmps83
   go_wp2_with (go_at_call 124; refine belA (HH.out _) fun d os => ?_)
   go_ret
   exact ⟨rfl, bg⟩
structure Dk where
 (M : List Sh) (q : List Cm) (t : Int) (op : Bool)
def zeroCm : Cm := ⟨0, 0, 0, 0, zeroB, 0⟩
def newB (m : Cm) : Bool := idEq m.b.s m.b.i m.b.g 0 0 0
def fullB (c : Cfg) (D : Dk) : Bool := decide (c.queue ≤ (D.q.length : Int))
def nameCm (m : Cm) (s i g : Int) : Cm := { m with b := { m.b with s := s, i := i, g := g } }
def lookF (c : Cfg) (D : Dk) (m : Cm) : Cm × Bool × Int :=
 if cmdB m = false ∨ (m.k = 1 ∧ newB m = false) then (zeroCm, false, 1)
 else if m.k = 1 then
  if ofF c m.b.x m.b.y < 0 then (zeroCm, false, 5)
  else if fullB c D = true then (zeroCm, false, 8)
  else if (headF D.M (ofF c m.b.x m.b.y)).2.2 ≠ 0 then (zeroCm, false, 13)
  else (nameCm m (ofF c m.b.x m.b.y) (headF D.M (ofF c m.b.x m.b.y)).1 (genF D.M (ofF c m.b.x m.b.y) (headF D.M (ofF c m.b.x m.b.y)).1), !(headF D.M (ofF c m.b.x m.b.y)).2.1, 0)
 else if aliveF D.M m.s m.i m.g = false then (zeroCm, false, 9)
 else if endsF D.q m.s m.i m.g = true then (zeroCm, false, 10)
 else if fullB c D = true then (zeroCm, false, 8)
 else (m, false, 0)
def admitF (c : Cfg) (D : Dk) (m : Cm) : Int × Dk :=
 if cmdB m = false then (1, D)
 else if fullB c D = true then (8, D)
 else if m.k = 1 then
  if ofF c m.b.x m.b.y ≠ m.b.s then (5, D)
  else if (takeF D.M m.b.s m.b.i m.b.g).1 ≠ 0 then ((takeF D.M m.b.s m.b.i m.b.g).1, { D with M := (takeF D.M m.b.s m.b.i m.b.g).2 })
  else (0, { D with M := (takeF D.M m.b.s m.b.i m.b.g).2, q := D.q ++ [m] })
 else if aliveF D.M m.s m.i m.g = false then (9, D)
 else (0, { D with q := D.q ++ [m] })
def beginB (D : Dk) : Bool := D.op || decide (1099511627776 ≤ D.t)
def beginF (D : Dk) : (Int × List Cm × Int) × Dk := if beginB D = true then ((0, [], 14), D) else ((D.t + 1, D.q, 0), { D with q := [], t := D.t + 1, op := true })
def freesF (M : List Sh) (n : Nat) : List Nid → Nat × List Sh
 | [] => (n, M)
 | x :: l => freesF (freeF M x.s x.i x.g).2 (n + if (freeF M x.s x.i x.g).1 = 0 then 1 else 0) l
def closeF (D : Dk) (l : List Nid) : (Int × Int) × Dk := if D.op = false then ((0, 14), D) else ((((freesF D.M 0 l).1 : Nat), 0), { D with M := (freesF D.M 0 l).2, op := false })
def reservedF (D : Dk) (k i : Int) : Int × Dk := ((reserveF D.M k i).1, { D with M := (reserveF D.M k i).2 })
def newD (c : Cfg) : Dk := ⟨List.replicate (c.cols * c.rows).toNat (fresh c.ids.toNat c.ids.toNat), [], 0, false⟩
def toNid (x : Id3) : Nid := ⟨x.1, x.2.1, x.2.2⟩
theorem idCells_nid (l : List Id3) : idCells l = cellsR nidL (l.map toNid) := by
 induction l with
 | nil => rfl
 | cons x l ih => simp only [idCells, cellsR, List.flatMap_cons, List.map_cons] at *; rw [ih]; rfl
theorem frees_snoc (M : List Sh) (n : Nat) (l : List Nid) (x : Nid) : freesF M n (l ++ [x]) = ((freesF M n l).1 + (if (freeF (freesF M n l).2 x.s x.i x.g).1 = 0 then 1 else 0), (freeF (freesF M n l).2 x.s x.i x.g).2) := by
 induction l generalizing M n with
 | nil => rfl
 | cons y l ih => rw [List.cons_append, freesF, ih]; rfl
theorem frees_step (M : List Sh) {l : List Nid} {t : Nat} {x : Nid} (h : l[t]? = some x) : freesF M 0 (l.take (t + 1)) = ((freesF M 0 (l.take t)).1 + (if (freeF (freesF M 0 (l.take t)).2 x.s x.i x.g).1 = 0 then 1 else 0), (freeF (freesF M 0 (l.take t)).2 x.s x.i x.g).2) := by
 have hlt := (List.getElem?_eq_some_iff.1 h).1
 rw [List.take_succ_eq_append_getElem hlt, (List.getElem?_eq_some_iff.1 h).2, frees_snoc]
theorem frees_le (M : List Sh) (n : Nat) (l : List Nid) : (freesF M n l).1 ≤ n + l.length := by
 induction l generalizing M n with
 | nil => exact Nat.le_refl _
 | cons x l ih =>
   have := ih (freeF M x.s x.i x.g).2 (n + if (freeF M x.s x.i x.g).1 = 0 then 1 else 0)
   rw [freesF, List.length_cons]
   refine Nat.le_trans this ?_
   split <;> omega
end Go.Proofs.YtoimjjhopljdmaaGreat
