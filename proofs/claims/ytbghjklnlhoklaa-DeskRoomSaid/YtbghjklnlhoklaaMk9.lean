/-
  slices.Clone of commands; which command of a list is told by a predicate (slices.ContainsFunc): does an end of an entity wait? Condition: the commands can be read.
  Package fixed and rect, as chapter 14 uses them: Clamp, Add of two, Far; the references' too. No condition.
-/
import Derived.Test.YtbghjklnlhoklaaMk1
import Derived.Test.YtbghjklnlhoklaaMk2
import Derived.Test.YtbghjklnlhoklaaEq
import Derived.Shelf.SlicesQ.IndexFunc
import Derived.Lib.MinMax
namespace Go.Proofs.Ytbghjklnlhoklaa
open Go.RowKit Go.Shelf

theorem sl_emptyCm (W : World) : Sl (W.alloc (.cells #[] 37)) 37 16 (.slice (some ⟨W.heap.size, 0, none⟩) 0 0) 0 [] := ⟨rfl, .inr ⟨W.heap.size, 0, 0, #[], rfl, heap_alloc_new W _, Nat.le_refl _, by simp [maxLen], by simp, fun j u hj => by cases hj⟩⟩
theorem rnew_ofCm {w w1 : World} {l : List Cm} {v v' : Value} (o : Obj) (hv : v.ownBlock = some w.heap.size) (hs : Sl w1 37 16 v' (0 + l.length) ([] ++ cellsR cmC l)) (ht : Turned (w.alloc o) w1 v.ownBlock)
    (ho : v'.ownBlock = v.ownBlock ∨ ∃ g, v'.ownBlock = some g ∧ (w.alloc o).heap.size ≤ g) : RNew cmC 37 16 w w1 v' l := by
  rw [Nat.zero_add, List.nil_append] at hs
  have hsz := ht.size
  rw [World.size_alloc] at hsz
  refine ⟨hs, ((Below.refl w.heap.size w).alloc (Nat.le_refl _) o).trans ⟨ht.os, ht.tape, ht.output, ht.size, fun k hk => ht.block k (by rw [World.size_alloc]; omega) (fun e => by rw [hv] at e; simp at e; omega)⟩, fun g hg => ?_⟩
  rcases ho with e | ⟨g', e, hg'⟩
  · rw [e, hv] at hg; simp at hg; omega
  · rw [e] at hg; simp at hg; rw [World.size_alloc] at hg'; omega

set_option maxRecDepth 100000 in
/-- slices.Clone of commands. -/
theorem cloneCm_any (v : Value) (l : List Cm) (w : World) (h : RIn cmC w v l) (hl : l.length ≤ 1000000) :
    Calls Try.prog 46 #[v] w fun e w' => ∃ v', e = .returned v' ∧ RNew cmC 37 16 w w' v' l := by
  obtain ⟨i0, hi0, hz0, hz1, hz2⟩ := info_partsG info_cm
  obtain ⟨p, cap, rfl, h1, h2, h3, h4⟩ := h
  have HS := Lib.hid sl_emptyCm
  by_cases hn : l = []
  · subst hn
    clear h4 h1
    cases p with
    | none =>
      obtain rfl := h2 rfl
      clear h2 h3
      have hnil := fun W : World => Lib.run_eql_slice_nil (P := Try.prog) W 31 37 none 0 0 0 0 Try.underlying31
      go_enter Try.func46, Try.ntmps46
      go_wp2_with fail
      go_ret
      exact ⟨_, rfl, ⟨rfl, .inl ⟨rfl, rfl⟩⟩, (by repeat' (first | (with_reducible exact Below.refl _ _) | (with_reducible assumption) | (with_reducible refine below_drewN ?_ _) | (with_reducible refine below_more _ _ _ ?_ ?_) | (with_reducible refine Below.alloc ?_ ?_ _) | (with_reducible refine Below.drew ?_) | (with_reducible refine Below.setCell ?_ ?_ _) | go_size)), fun g hg => by cases hg⟩
    | some a =>
      clear h2
      have hnil := fun W : World => Lib.run_eql_slice_nil (P := Try.prog) W 31 37 (some a) 0 cap 0 0 Try.underlying31
      go_enter Try.func46, Try.ntmps46
      go_wp2_with (at_builtin; refine wpList_append_zero (by rfl) _ _ 31 (by rfl) 37 i0 Try.underlying31 hi0 _ _ 0 0 _ (by rfl) (by rfl) (Nat.le_refl _) ?_)
      go_ret
      exact ⟨_, rfl, HS.out w, (by repeat' (first | (with_reducible exact Below.refl _ _) | (with_reducible assumption) | (with_reducible refine below_drewN ?_ _) | (with_reducible refine below_more _ _ _ ?_ ?_) | (with_reducible refine Below.alloc ?_ ?_ _) | (with_reducible refine Below.drew ?_) | (with_reducible refine Below.setCell ?_ ?_ _) | go_size)), fun g hg => by simp [Value.ownBlock] at hg; omega⟩
  · obtain ⟨blk, off, rfl, h5, h6⟩ := h4 hn
    have hn0 : 0 < l.length := List.length_pos_iff.2 hn
    have hcw : ∀ j u, (cellsR cmC l)[j]? = some u → (w.alloc (.cells #[] 37)).cell? (Addr.add ⟨blk, off, none⟩ j) = some u := fun j u hj => by
      have h := h6 j u hj
      rw [show Addr.add ⟨blk, off, none⟩ j = ⟨blk, off + j, none⟩ from by unfold Addr.add; split <;> simp_all]
      exact cell_keep ((Below.refl _ _).alloc (Nat.le_refl _) _) h
    have HW := Lib.hid hcw
    have H1 := Lib.hid (cellsR_mem cmC (l := l) cmC_one)
    have HX := Lib.hid (cellsR_len cmC 16 cmC_len l)
    clear hcw h4 h6 h2 hn h1
    have hnil := fun W : World => Lib.run_eql_slice_nil (P := Try.prog) W 31 37 (some ⟨blk, off, none⟩) l.length cap 0 0 Try.underlying31
    go_enter Try.func46, Try.ntmps46
    go_wp2_with (at_builtin; refine wpList_append_sl _ (by rfl) _ _ 31 (by rfl) 37 i0 _ 16 128 Try.underlying31 hi0 hz0 hz1 hz2 rfl (by omega) _ 0 [] (by rfl) (HS.out _) ⟨blk, off, none⟩ l.length cap (cellsR cmC l) (by rfl) HX.out HW.out H1.out hn0 (by unfold maxLen; omega) (by omega) ?_; intro v' w1 hs1 ht ho)
    go_ret
    exact ⟨_, rfl, rnew_ofCm _ rfl hs1 ht ho⟩

def renCm : Ren := ⟨fun n => if n = 6 then 91 else if n = 8 then 73 else 0, fun n => if n = 0 then 0 else if n = 3 then 3 else if n = 4 then 4 else if n = 22 then 31 else if n = 23 then 37 else if n = 25 then 60 else 0, fun _ => 0⟩
theorem laysCm : SlLaysH0.n8 Try.prog renCm := {
  mixed := by kernel_rfl
  f6 := ⟨Try.f91.name, by decide, by kernel_rfl⟩
  f8 := ⟨Try.f73.name, by decide, by kernel_rfl⟩
  t0 := by kernel_rfl
  a0 := fun _ => by kernel_rfl
  z0 := fun _ => by kernel_rfl
  v0 := fun _ => by kernel_rfl
  t3 := by kernel_rfl
  a3 := fun _ => by kernel_rfl
  z3 := fun _ => by kernel_rfl
  v3 := fun _ => by kernel_rfl
  t4 := by kernel_rfl
  a4 := fun _ => by kernel_rfl
  z4 := fun _ => by kernel_rfl
  v4 := fun _ => by kernel_rfl
  t22 := by kernel_rfl
  a22 := fun _ => by kernel_rfl
  z22 := fun _ => by kernel_rfl
  v22 := fun _ => by kernel_rfl
  t25 := by kernel_rfl
  a25 := fun _ => by kernel_rfl
  z25 := fun _ => by kernel_rfl
  v25 := fun _ => by kernel_rfl }

instance inhCm : Inhabited Cm := ⟨⟨0, 0, 0, 0, zeroB, 0⟩⟩
def endsF (q : List Cm) (s i g : Int) : Bool := q.any fun c => c.k == 2 && idEq c.s c.i c.g s i g
/-- waits' predicate. -/
theorem waits1_any (x : Cm) (s i g : Int) (B : Nat) (W : World) (hB : B < W.heap.size) (h0 : W.cell? ⟨B, 0, none⟩ = some (.int .i64 s)) (h1 : W.cell? ⟨B, 1, none⟩ = some (.int .i64 i)) (h2 : W.cell? ⟨B, 2, none⟩ = some (.int .i64 g)) :
    Calls Try.prog 74 (#[.agg (cmC x).toArray] ++ #[.pointer (some ⟨B, 0, none⟩)]) W fun e w' => e = .returned (.bool (x.k == 2 && idEq x.s x.i x.g s i g)) ∧ Below W.heap.size W w' := by
  show Calls Try.prog 74 #[.agg #[.int .i64 x.k, .int .i64 x.s, .int .i64 x.i, .int .i64 x.g, .int .i64 (x.b).s, .int .i64 (x.b).i, .int .i64 (x.b).g, .int .i64 (x.b).m, .int .i64 (x.b).x, .int .i64 (x.b).y, .int .i64 (x.b).vx, .int .i64 (x.b).vy, .int .i64 (x.b).hp, .int .i64 (x.b).pw, .int .i64 (x.b).lf, .int .i64 x.mask], .pointer (some ⟨B, 0, none⟩)] W _
  obtain ⟨n1, n2, n3⟩ := ltz hB
  cases e1 : (x.k == 2) with
  | true =>
    go_enter Try.func74, Try.ntmps74
    go_wp2_with fail
    go_ret
    exact ⟨by simp, (by repeat' (first | (with_reducible exact Below.refl _ _) | (with_reducible assumption) | (with_reducible refine below_drewN ?_ _) | (with_reducible refine below_more _ _ _ ?_ ?_) | (with_reducible refine Below.alloc ?_ ?_ _) | (with_reducible refine Below.drew ?_) | (with_reducible refine Below.setCell ?_ ?_ _) | go_size))⟩
  | false =>
    go_enter Try.func74, Try.ntmps74
    go_wp2_with fail
    go_ret
    exact ⟨rfl, (by repeat' (first | (with_reducible exact Below.refl _ _) | (with_reducible assumption) | (with_reducible refine below_drewN ?_ _) | (with_reducible refine below_more _ _ _ ?_ ?_) | (with_reducible refine Below.alloc ?_ ?_ _) | (with_reducible refine Below.drew ?_) | (with_reducible refine Below.setCell ?_ ?_ _) | go_size))⟩
theorem eg_waits1 : ∀ args w, (callFunc 74 args).run Try.prog w = .ok (.enter 74 args) w := enters_of Try.func74 (by kernel_rfl) rfl

theorem cf_emptyCm (g : Nat) (lb : Array Value) (p : Option Addr) (c : Nat) (w : World) :
    Calls Try.prog 73 #[.slice p 0 c, .func (.func g) #[] lb] w fun e w' => e = .returned (.bool false) ∧ w = w' := by
  have hI : Calls Try.prog 91 #[.slice p 0 c, .func (.func g) #[] lb] w fun e w' => e = .returned (.int .i64 (-1)) ∧ w = w' := by
    go_enter Try.func91, Try.ntmps91
    go_wp2_with fail
    refine wp_loop_rounds 1 ?_
    rw [rounds_succ]
    go_wp2
    go_ret
    exact ⟨rfl, rfl⟩
  go_enter Try.func73, Try.ntmps73
  go_wp2_with (go_at_call 91; refine hI.mono ?_; rintro e w' ⟨rfl, rfl⟩)
  go_ret
  exact ⟨rfl, rfl⟩

theorem contCm_any (s i g : Int) (L : List Cm) (v : Value) (B : Nat) (W : World) (hL : RIn cmC W v L) (hB : B < W.heap.size) (h0' : W.cell? ⟨B, 0, none⟩ = some (.int .i64 s)) (h1' : W.cell? ⟨B, 1, none⟩ = some (.int .i64 i)) (h2' : W.cell? ⟨B, 2, none⟩ = some (.int .i64 g)) :
    Calls Try.prog 73 #[v, .func (.func 74) #[] #[.pointer (some ⟨B, 0, none⟩)]] W fun e w' => e = .returned (.bool (endsF L s i g)) ∧ Below W.heap.size W w' := by
  obtain ⟨p, cap, rfl, hm, _, hc, h4⟩ := hL
  by_cases h0 : L = []
  · subst h0
    refine (cf_emptyCm _ _ p cap W).mono ?_
    rintro e w' ⟨rfl, rfl⟩
    exact ⟨rfl, Below.refl _ _⟩
  · obtain ⟨blk, off, rfl, h5, h6⟩ := h4 h0
    have hcon := AnyQ.slices_ContainsFunc laysCm 16 (fun _ => by kernel_rfl) (fun _ => by kernel_rfl) cmC cmC_len (fun x => x.k == 2 && idEq x.s x.i x.g s i g) 74 #[.pointer (some ⟨B, 0, none⟩)] eg_waits1 blk off L.length cap L W
      (fun W' x hb => ?_) (Nat.le_refl _) (by unfold maxLen at hm; omega) h5 (fun j hj i v hi => ?_)
    · rw [List.take_length] at hcon
      exact hcon
    · have hz := hb.size
      refine (waits1_any x s i g B W' (by omega) ((hb.cell (p := ⟨B, 0, none⟩) hB).trans h0') ((hb.cell (p := ⟨B, 1, none⟩) hB).trans h1') ((hb.cell (p := ⟨B, 2, none⟩) hB).trans h2')).mono ?_
      rintro e w' ⟨he, hb'⟩
      exact ⟨he, hb.trans (hb'.mono hz)⟩
    · rw [getElem!_pos L j hj] at hi
      have hi' : i < 16 := by have := (List.getElem?_eq_some_iff.1 hi).1; rwa [cmC_len] at this
      have := cellsR_get cmC 16 cmC_len L j i L[j] (List.getElem?_eq_getElem hj) hi'
      rw [Nat.add_assoc]
      exact h6 _ v (this.trans hi)
end Go.Proofs.Ytbghjklnlhoklaa
namespace Go.Proofs.Ytbghjklnlhoklaa
open Go.RowKit

theorem ltb {a W : Nat} (h : a < W) : a < W + 1 ∧ (∀ n, a < W + 1 + n) ∧ (∀ n m, a < W + 1 + n + m) ∧ (∀ n m q, a < W + 1 + n + m + q) := ⟨by omega, fun _ => by omega, fun _ _ => by omega, fun _ _ _ => by omega⟩

theorem max_if (x y : Int) : (if y > x then y else x) = max x y := by rw [Int.max_def]; split <;> split <;> omega
@[go_sem high] theorem run_max_ints4 {P : Program} (w : World) (ts : Array TypeId) (t : TypeId) (k : IntKind) (x y u v : Int) :
    (Builtin.max_ ts t #[.int k x, .int k y, .int k u, .int k v]).run P w = .ok (.int k (max (max (max x y) u) v)) w := by
  simp [Builtin.max_, Builtin.max2, max_if]
@[go_sem high] theorem run_max_ints3 {P : Program} (w : World) (ts : Array TypeId) (t : TypeId) (k : IntKind) (x y u : Int) :
    (Builtin.max_ ts t #[.int k x, .int k y, .int k u]).run P w = .ok (.int k (max (max x y) u)) w := by
  simp [Builtin.max_, Builtin.max2, max_if]

def clampF (n : Int) : Int := max (-1073741824) (min 1073741824 n)
theorem clampF_lo (n : Int) : -1073741824 ≤ clampF n := by unfold clampF; omega
theorem clampF_hi (n : Int) : clampF n ≤ 1073741824 := by unfold clampF; omega
theorem clampF_id (n : Int) (h0 : -1073741824 ≤ n) (h1 : n ≤ 1073741824) : clampF n = n := by unfold clampF; omega
def addF (a b : Int) : Int := clampF (clampF a + clampF b)
def farF (x y u v : Int) : Int := max (clampF x - clampF u) (max (-(clampF x - clampF u)) (max (clampF y - clampF v) (-(clampF y - clampF v))))
theorem farF_bd (x y u v : Int) : 0 ≤ farF x y u v ∧ farF x y u v ≤ 2147483648 := by
  have h1 := clampF_lo x; have h2 := clampF_hi x; have h3 := clampF_lo u; have h4 := clampF_hi u
  have h5 := clampF_lo y; have h6 := clampF_hi y; have h7 := clampF_lo v; have h8 := clampF_hi v
  unfold farF; omega

theorem ret_int {k : IntKind} {a b : Int} (h : a = b) : Ending.returned (.int k a) = .returned (.int k b) := by rw [h]

theorem clamp_any (n : Int) (w : World) : Calls Try.prog 98 #[.int .i64 n] w fun e w' => e = .returned (.int .i64 (clampF n)) ∧ w = w' := by
  by_cases h1 : n < -1073741824
  · rw [show clampF n = -1073741824 from by unfold clampF; omega]
    have h2 : n ≤ 1073741824 := by omega
    go_enter Try.func98, Try.ntmps98
    go_wp2
    all_goals go_ret
    all_goals (refine ⟨ret_int ?_, rfl⟩; first | omega | ((repeat' split at *) <;> omega))
  · by_cases h2 : 1073741824 < n
    · rw [show clampF n = 1073741824 from by unfold clampF; omega]
      have h3 : -1073741824 ≤ n := by omega
      clear h1
      go_enter Try.func98, Try.ntmps98
      go_wp2
      all_goals go_ret
      all_goals (refine ⟨ret_int ?_, rfl⟩; first | omega | ((repeat' split at *) <;> omega))
    · rw [show clampF n = n from by unfold clampF; omega]
      have h3 : -1073741824 ≤ n := by omega
      have h4 : n ≤ 1073741824 := by omega
      clear h1 h2
      go_enter Try.func98, Try.ntmps98
      go_wp2
      all_goals go_ret
      all_goals (refine ⟨ret_int ?_, rfl⟩; first | omega | ((repeat' split at *) <;> omega))

theorem rClamp_any (n : Int) (w : World) : Calls Try.prog 86 #[.int .i64 n] w fun e w' => e = .returned (.int .i64 (clampF n)) ∧ w = w' := by
  by_cases h1 : n < -1073741824
  · rw [show clampF n = -1073741824 from by unfold clampF; omega]
    have h2 : n ≤ 1073741824 := by omega
    go_enter Try.func86, Try.ntmps86
    go_wp2
    all_goals go_ret
    all_goals (refine ⟨ret_int ?_, rfl⟩; first | omega | ((repeat' split at *) <;> omega))
  · by_cases h2 : 1073741824 < n
    · rw [show clampF n = 1073741824 from by unfold clampF; omega]
      have h3 : -1073741824 ≤ n := by omega
      clear h1
      go_enter Try.func86, Try.ntmps86
      go_wp2
      all_goals go_ret
      all_goals (refine ⟨ret_int ?_, rfl⟩; first | omega | ((repeat' split at *) <;> omega))
    · rw [show clampF n = n from by unfold clampF; omega]
      have h3 : -1073741824 ≤ n := by omega
      have h4 : n ≤ 1073741824 := by omega
      clear h1 h2
      go_enter Try.func86, Try.ntmps86
      go_wp2
      all_goals go_ret
      all_goals (refine ⟨ret_int ?_, rfl⟩; first | omega | ((repeat' split at *) <;> omega))

theorem clampF_zero_add (a : Int) : clampF (0 + clampF a) = clampF a := by
  have := clampF_lo a; have := clampF_hi a
  rw [Int.zero_add, clampF_id _ (by omega) (by omega)]

end Go.Proofs.Ytbghjklnlhoklaa
