/-
  Chapter texts Hlp Eq Cmp SoA: what the claim reaches of them. Conditions stand at each theorem.
-/
import Derived.Shelf.SlSortCmp.KitK
import Derived.Sort.WalkB2
import Derived.Sort.WalkB12
import Derived.Test.YtoimjjhopljdmaaGreatY01
namespace Go.Proofs.YtoimjjhopljdmaaGreat
open Go.RowKit
theorem sl_lt {w : World} {e : TypeId} {size : Nat} {v : Value} {n : Nat} {xs : List Value} (h : Sl w e size v n xs) {g : Nat} (hg : v.ownBlock = some g) : g < w.heap.size := by
  obtain ⟨_, ⟨rfl, _⟩ | ⟨g', off, cap, cur, rfl, hb, _⟩⟩ := h
  · cases hg
  · cases hg; exact (Array.getElem?_eq_some_iff.1 hb).1
theorem sl_frm {w : World} {e : TypeId} {size : Nat} {v : Value} {n : Nat} {xs : List Value} (h : Sl w e size v n xs) : ∃ p cap, v = .slice p n cap := by
  obtain ⟨_, ⟨rfl, rfl⟩ | ⟨g, off, cap, cur, rfl, _⟩⟩ := h
  · exact ⟨none, 0, rfl⟩
  · exact ⟨_, cap, rfl⟩
theorem new_cells (W : World) (arr : Array Value) (t : TypeId) (j : Nat) (u : Value) (h : arr.toList[j]? = some u) : (W.alloc (.cells arr t)).cell? (Addr.add ⟨W.heap.size, 0, none⟩ j) = some u := by
  have e : Addr.add ⟨W.heap.size, 0, none⟩ j = ⟨W.heap.size, j, none⟩ := by unfold Addr.add; split <;> simp_all
  rw [e]
  simp
  simpa using h
theorem heap_alloc_new_at (W : World) (o : Obj) (n : Nat) (h : n = W.heap.size) : (W.alloc o).heap[n]? = some o := by subst h; exact heap_alloc_new W o
theorem new_cellsN (W : World) (arr : Array Value) (t : TypeId) (n : Nat) (hn : n = W.heap.size) (j : Nat) (u : Value) (h : arr.toList[j]? = some u) : (W.alloc (.cells arr t)).cell? (Addr.add ⟨n, 0, none⟩ j) = some u := by subst hn; exact new_cells W arr t j u h
theorem info_partsG {P : Program} {t : TypeId} {z : Value} {s b : Nat} (h : (P.info? t).map (fun i => (i.zero, i.size, i.bytes)) = some (some z, s, b)) : ∃ i, P.info? t = some i ∧ i.zero = some z ∧ i.size = s ∧ i.bytes = b := by
  cases hi : P.info? t with
  | none => rw [hi] at h; cases h
  | some i => rw [hi] at h; simp at h; exact ⟨i, rfl, h.1, h.2.1, h.2.2⟩
theorem ltz {a W : Nat} (h : a < W) : (∀ n, a < W + n) ∧ (∀ n m, a < W + n + m) ∧ (∀ n m q, a < W + n + m + q) := ⟨fun _ => by omega, fun _ _ => by omega, fun _ _ _ => by omega⟩
theorem new_box (W : World) (arr : Array Value) (t : TypeId) (n : Nat) (hn : n = W.heap.size) : (∀ u, (W.alloc (.cells arr t)).cell? ⟨n, u, none⟩ = arr[u]?) ∧ (∀ u, (W.alloc (.cells arr t)).frozen? ⟨n, u, none⟩ = false) ∧ n < (W.alloc (.cells arr t)).heap.size ∧ Below W.heap.size W (W.alloc (.cells arr t)) := by
  subst hn
  have e := heap_alloc_new_at W (.cells arr t) W.heap.size rfl
  refine ⟨fun u => ?_, fun u => ?_, by simp, (Below.refl _ _).alloc (Nat.le_refl _) _⟩
  · unfold World.cell?; rw [e]; rfl
  · unfold World.frozen?; rw [e]; simp
theorem box_on {w w' : World} {n : Nat} {arr : Array Value} (hb : Below w.heap.size w w') (hn : n < w.heap.size) (hc : ∀ u, w.cell? ⟨n, u, none⟩ = arr[u]?) : ∀ u, w'.cell? ⟨n, u, none⟩ = arr[u]? := fun u => (hb.cell (p := ⟨n, u, none⟩) hn).trans (hc u)
theorem box_fr {w w' : World} {n : Nat} (hb : Below w.heap.size w w') (hn : n < w.heap.size) (hf : ∀ u, w.frozen? ⟨n, u, none⟩ = false) : ∀ u, w'.frozen? ⟨n, u, none⟩ = false := fun u => (World.frozen?_of_block (w := w) (a := ⟨n, u, none⟩) (hb.block n hn)).trans (hf u)
theorem ltw {a W : Nat} (h : a < W) : (∀ n, a < W + n) ∧ (∀ n m, a < W + n + m) ∧ (∀ n m q, a < W + n + m + q) := ⟨fun _ => by omega, fun _ _ => by omega, fun _ _ _ => by omega⟩
theorem list_of {β : Type} {P : Nat → β → Prop} : ∀ (n : Nat), (∀ i, i < n → ∃ b, P i b) → ∃ l : List β, l.length = n ∧ ∀ i b, l[i]? = some b → P i b
  | 0, _ => ⟨[], rfl, fun i b h => by cases h⟩
  | n + 1, h => by
    obtain ⟨l, hl, hp⟩ := list_of n fun i hi => h i (by omega)
    obtain ⟨b, hb⟩ := h n (by omega)
    refine ⟨l ++ [b], by simp [hl], fun i c hc => ?_⟩
    by_cases hi : i < n
    · rw [List.getElem?_append_left (by omega)] at hc; exact hp i c hc
    · rw [List.getElem?_append_right (by omega)] at hc
      have : i - l.length = 0 := by have := (List.getElem?_eq_some_iff.1 hc).1; simp at this; omega
      rw [this] at hc
      simp at hc
      subst hc
      obtain rfl : i = n := by omega
      exact hb
theorem two_boxes (W : World) (a6 a7 : Array Value) (t6 t7 : TypeId) : ∃ w1, w1 = (W.alloc (.cells a6 t6)).alloc (.cells a7 t7) ∧ Below W.heap.size W w1 ∧ (∀ u, w1.cell? ⟨W.heap.size, u, none⟩ = a6[u]?) ∧ (∀ u, w1.cell? ⟨W.heap.size + 1, u, none⟩ = a7[u]?) ∧
    (∀ u, w1.frozen? ⟨W.heap.size, u, none⟩ = false) ∧ (∀ u, w1.frozen? ⟨W.heap.size + 1, u, none⟩ = false) ∧ w1.heap.size = W.heap.size + 1 + 1 := by
  have e6 : ((W.alloc (.cells a6 t6)).alloc (.cells a7 t7)).heap[W.heap.size]? = some (.cells a6 t6) :=
    (((Below.refl _ (W.alloc (.cells a6 t6))).alloc (Nat.le_refl _) (.cells a7 t7)).block W.heap.size (by simp)).trans (heap_alloc_new_at W _ _ rfl)
  have e7 : ((W.alloc (.cells a6 t6)).alloc (.cells a7 t7)).heap[W.heap.size + 1]? = some (.cells a7 t7) := heap_alloc_new_at _ _ _ (by simp)
  refine ⟨_, rfl, bg, fun u => ?_, fun u => ?_, fun u => ?_, fun u => ?_, by simp⟩
  · unfold World.cell?; rw [e6]; rfl
  · unfold World.cell?; rw [e7]; rfl
  · unfold World.frozen?; rw [e6]; simp
  · unfold World.frozen?; rw [e7]; simp
theorem Turned.below_new {W w2 a : World} {b : Option Nat} {B : Nat} (h : Turned W w2 b) (hb : ∀ k, b = some k → B ≤ k) (h0 : Below B a W) (hB : B ≤ W.heap.size) : Below B a w2 :=
  h0.trans ⟨h.os, h.tape, h.output, by have := h.size; omega, fun k hk => h.block k (by omega) (fun e => by have := hb k e.symm; omega)⟩
theorem cell_set_ne {w : World} {b o o' : Nat} {u : Value} (h : o ≠ o') : (w.setCell ⟨b, o, none⟩ u).cell? ⟨b, o', none⟩ = w.cell? ⟨b, o', none⟩ := by
  simp only [World.setCell, World.cell?, Array.getElem?_modify, if_true]
  cases w.heap[b]? with
  | none => rfl
  | some x =>
    cases x <;> simp [Array.getElem?_setIfInBounds_ne h]
theorem one_box (W : World) (a6 : Array Value) (t6 : TypeId) : ∃ w1, w1 = W.alloc (.cells a6 t6) ∧ (∀ u, w1.cell? ⟨W.heap.size, u, none⟩ = a6[u]?) ∧ Below W.heap.size W w1 ∧ (∀ u, w1.frozen? ⟨W.heap.size, u, none⟩ = false) ∧ w1.heap.size = W.heap.size + 1 := by
  obtain ⟨h1, h2, h3, h4⟩ := new_box W a6 t6 W.heap.size rfl
  exact ⟨_, rfl, h1, h4, h2, by simp⟩
end Go.Proofs.YtoimjjhopljdmaaGreat
namespace Go.Proofs.YtoimjjhopljdmaaGreat
open Go.RowKit

@[go_sem] theorem alloc_drewN (w : World) (n : Nat) (o : Obj) : (w.drewN n).alloc o = (w.alloc o).drewN n := rfl
@[go_sem] theorem setCell_drewN (w : World) (n : Nat) (a : Addr) (v : Value) : (w.drewN n).setCell a v = (w.setCell a v).drewN n := rfl

@[go_sem high] theorem run_eql_id (s i g s' i' g' : Int) (W : World) :
    (binOp .eql 30 (.agg #[.int .i64 s, .int .i64 i, .int .i64 g]) (.agg #[.int .i64 s', .int .i64 i', .int .i64 g'])).run Tryz.prog W = .ok (.bool (idEq s i g s' i' g')) W := by
  rw [run_eql_struct]
  by_cases h1 : s = s'
  · by_cases h2 : i = i'
    · by_cases h3 : g = g' <;> simp [go_sem, idEq, h1, h2, h3]
    · simp [go_sem, idEq, h1, h2]
  · simp [go_sem, idEq, h1]

@[go_sem high] theorem run_neq_id (s i g s' i' g' : Int) (W : World) :
    (binOp .neq 30 (.agg #[.int .i64 s, .int .i64 i, .int .i64 g]) (.agg #[.int .i64 s', .int .i64 i', .int .i64 g'])).run Tryz.prog W = .ok (.bool (!(idEq s i g s' i' g'))) W := by
  have h := run_eql_id s i g s' i' g' W
  rw [run_eql_struct] at h
  rw [run_neq_struct]
  generalize (Op.equalIn _ _ _ _).run Tryz.prog W = r at *
  cases r with
  | ok b w => simp only [Result.andThen_ok] at *; cases b <;> simp_all
  | halt x w => simp [Result.andThen] at h


set_option maxHeartbeats 1000000 in
@[go_sem high] theorem run_eql_bun (s i g m x y vx vy hp pw lf s' i' g' m' x' y' vx' vy' hp' pw' lf' : Int) (W : World) :
    (binOp .eql 32 (.agg #[.int .i64 s, .int .i64 i, .int .i64 g, .int .i64 m, .int .i64 x, .int .i64 y, .int .i64 vx, .int .i64 vy, .int .i64 hp, .int .i64 pw, .int .i64 lf]) (.agg #[.int .i64 s', .int .i64 i', .int .i64 g', .int .i64 m', .int .i64 x', .int .i64 y', .int .i64 vx', .int .i64 vy', .int .i64 hp', .int .i64 pw', .int .i64 lf'])).run Tryz.prog W = .ok (.bool (bunEq ⟨s, i, g, m, x, y, vx, vy, hp, pw, lf⟩ ⟨s', i', g', m', x', y', vx', vy', hp', pw', lf'⟩)) W := by
  rw [run_eql_struct]
  by_cases h0 : s = s'
  · by_cases h1 : i = i'
    · by_cases h2 : g = g'
      · by_cases h3 : m = m'
        · by_cases h4 : x = x'
          · by_cases h5 : y = y'
            · by_cases h6 : vx = vx'
              · by_cases h7 : vy = vy'
                · by_cases h8 : hp = hp'
                  · by_cases h9 : pw = pw'
                    · by_cases h10 : lf = lf'
                      · simp [go_sem, bunEq, h0, h1, h2, h3, h4, h5, h6, h7, h8, h9, h10]
                      · simp [go_sem, bunEq, h0, h1, h2, h3, h4, h5, h6, h7, h8, h9, h10]
                    · simp [go_sem, bunEq, h0, h1, h2, h3, h4, h5, h6, h7, h8, h9]
                  · simp [go_sem, bunEq, h0, h1, h2, h3, h4, h5, h6, h7, h8]
                · simp [go_sem, bunEq, h0, h1, h2, h3, h4, h5, h6, h7]
              · simp [go_sem, bunEq, h0, h1, h2, h3, h4, h5, h6]
            · simp [go_sem, bunEq, h0, h1, h2, h3, h4, h5]
          · simp [go_sem, bunEq, h0, h1, h2, h3, h4]
        · simp [go_sem, bunEq, h0, h1, h2, h3]
      · simp [go_sem, bunEq, h0, h1, h2]
    · simp [go_sem, bunEq, h0, h1]
  · simp [go_sem, bunEq, h0]

@[go_sem high] theorem run_neq_bun (s i g m x y vx vy hp pw lf s' i' g' m' x' y' vx' vy' hp' pw' lf' : Int) (W : World) :
    (binOp .neq 32 (.agg #[.int .i64 s, .int .i64 i, .int .i64 g, .int .i64 m, .int .i64 x, .int .i64 y, .int .i64 vx, .int .i64 vy, .int .i64 hp, .int .i64 pw, .int .i64 lf]) (.agg #[.int .i64 s', .int .i64 i', .int .i64 g', .int .i64 m', .int .i64 x', .int .i64 y', .int .i64 vx', .int .i64 vy', .int .i64 hp', .int .i64 pw', .int .i64 lf'])).run Tryz.prog W = .ok (.bool (!(bunEq ⟨s, i, g, m, x, y, vx, vy, hp, pw, lf⟩ ⟨s', i', g', m', x', y', vx', vy', hp', pw', lf'⟩))) W := by
  have h := run_eql_bun s i g m x y vx vy hp pw lf s' i' g' m' x' y' vx' vy' hp' pw' lf' W
  rw [run_eql_struct] at h
  rw [run_neq_struct]
  generalize (Op.equalIn _ _ _ _).run Tryz.prog W = r at *
  cases r with
  | ok b w => simp only [Result.andThen_ok] at *; cases b <;> simp_all
  | halt x w => simp [Result.andThen] at h

end Go.Proofs.YtoimjjhopljdmaaGreat
namespace Go.Proofs.YtoimjjhopljdmaaGreat
open Go.RowKit

def cmpI (a b : Int) : Int := if a < b then -1 else if b < a then 1 else 0
def cmpId (s i g s' i' g' : Int) : Int := if cmpI s s' ≠ 0 then cmpI s s' else if cmpI i i' ≠ 0 then cmpI i i' else cmpI g g'
def beforeB (s i g s' i' g' : Int) : Bool := if s ≠ s' then decide (s < s') else if i ≠ i' then decide (i < i') else decide (g < g')

theorem cmpI_spec (a b : Int) : (a < b ∧ cmpI a b = -1) ∨ (a = b ∧ cmpI a b = 0) ∨ (b < a ∧ cmpI a b = 1) := by
  unfold cmpI
  by_cases h : a < b
  · simp [h]
  · by_cases h2 : b < a
    · simp [h, h2]
    · simp [h, h2]; omega
theorem cmpId_neg (s i g s' i' g' : Int) : cmpId s' i' g' s i g = -cmpId s i g s' i' g' := by
  unfold cmpId
  have h1 := cmpI_spec s s'; have h2 := cmpI_spec i i'; have h3 := cmpI_spec g g'
  have k1 := cmpI_spec s' s; have k2 := cmpI_spec i' i; have k3 := cmpI_spec g' g
  repeat' split
  all_goals omega
theorem cmpId_before (s i g s' i' g' : Int) : beforeB s i g s' i' g' = decide (cmpId s i g s' i' g' < 0) := by
  unfold beforeB cmpId
  have h1 := cmpI_spec s s'; have h2 := cmpI_spec i i'; have h3 := cmpI_spec g g'
  repeat' split
  all_goals rw [decide_eq_decide]
  all_goals omega
set_option maxHeartbeats 4000000 in
theorem cmpId_trans (s i g s' i' g' s2 i2 g2 : Int) (h1 : cmpId s i g s' i' g' ≤ 0) (h2 : cmpId s' i' g' s2 i2 g2 ≤ 0) : cmpId s i g s2 i2 g2 = min (cmpId s i g s' i' g') (cmpId s' i' g' s2 i2 g2) := by
  unfold cmpId at *
  have a1 := cmpI_spec s s'; have a2 := cmpI_spec i i'; have a3 := cmpI_spec g g'
  have b1 := cmpI_spec s' s2; have b2 := cmpI_spec i' i2; have b3 := cmpI_spec g' g2
  have c1 := cmpI_spec s s2; have c2 := cmpI_spec i i2; have c3 := cmpI_spec g g2
  generalize cmpI s s' = x1 at *; generalize cmpI i i' = x2 at *; generalize cmpI g g' = x3 at *
  generalize cmpI s' s2 = y1 at *; generalize cmpI i' i2 = y2 at *; generalize cmpI g' g2 = y3 at *
  generalize cmpI s s2 = z1 at *; generalize cmpI i i2 = z2 at *; generalize cmpI g g2 = z3 at *
  repeat' split at h1
  all_goals repeat' split at h2
  all_goals repeat' split
  all_goals omega

theorem cmpC_any (a b : Int) (w : World) : Calls Tryz.prog 146 #[.int .i64 a, .int .i64 b] w fun e w' => e = .returned (.int .i64 (cmpI a b)) ∧ w = w' := by
  generalize hr : cmpI a b = r
  have HR := Lib.hid hr
  clear hr
  go_enter Tryz.func146, Tryz.ntmps146
  go_wp2
  all_goals go_ret
  all_goals (refine ⟨?_, rfl⟩; go_tidy; (have h := HR.out; clear HR; subst h; simp [cmpI, *]))
  all_goals (try omega)

def or3 (x y z : Int) : Int := if x ≠ 0 then x else if y ≠ 0 then y else z

theorem or_any (b : Nat) (x y z : Int) (w : World) (h0 : w.cell? ⟨b, 0, none⟩ = some (.int .i64 x)) (h1 : w.cell? ⟨b, 1, none⟩ = some (.int .i64 y)) (h2 : w.cell? ⟨b, 2, none⟩ = some (.int .i64 z)) :
    Calls Tryz.prog 145 #[.slice (some ⟨b, 0, none⟩) 3 3] w fun e w' => e = .returned (.int .i64 (or3 x y z)) ∧ w = w' := by
  generalize hr : or3 x y z = r
  have HR := Lib.hid hr
  clear hr
  go_enter Tryz.func145, Tryz.ntmps145
  go_wp2_with fail
  refine wp_loop_rounds 4 ?_
  repeat any_goals (rw [rounds_succ]; go_wp2)
  all_goals go_ret
  all_goals (refine ⟨?_, rfl⟩; go_tidy; (have h := HR.out; clear HR; subst h; simp_all [or3]))

theorem before_any (s i g s' i' g' : Int) (w : World) :
    Calls Tryz.prog 16 #[.agg #[.int .i64 s, .int .i64 i, .int .i64 g], .agg #[.int .i64 s', .int .i64 i', .int .i64 g']] w fun e w' => e = .returned (.bool (beforeB s i g s' i' g')) ∧ Below w.heap.size w w' := by
  generalize hr : beforeB s i g s' i' g' = r
  have HR := Lib.hid hr
  clear hr
  go_enter Tryz.func16, Tryz.ntmps16
  go_wp2
  all_goals go_ret
  all_goals (refine ⟨?_, bg⟩; go_tidy; (have h := HR.out; clear HR; subst h; simp_all [beforeB]))


set_option maxHeartbeats 1000000 in
theorem compare_any (s i g s' i' g' : Int) (w : World) :
    Calls Tryz.prog 106 #[.agg #[.int .i64 s, .int .i64 i, .int .i64 g], .agg #[.int .i64 s', .int .i64 i', .int .i64 g']] w fun e w' => e = .returned (.int .i64 (cmpId s i g s' i' g')) ∧ Below w.heap.size w w' := by
  generalize hr : cmpId s i g s' i' g' = r
  have HR := Lib.hid hr
  clear hr
  go_enter Tryz.func106, Tryz.ntmps106
  go_wp2_with fail
  go_region_held3 (fun W => ((w.alloc (.cells #[.int .i64 s, .int .i64 i, .int .i64 g] 30)).alloc (.cells #[.int .i64 s', .int .i64 i', .int .i64 g'] 30)).heap.size ≤ W.heap.size ∧ ∀ b o, b < ((w.alloc (.cells #[.int .i64 s, .int .i64 i, .int .i64 g] 30)).alloc (.cells #[.int .i64 s', .int .i64 i', .int .i64 g'] 30)).heap.size → W.cell? ⟨b, o, none⟩ = ((w.alloc (.cells #[.int .i64 s, .int .i64 i, .int .i64 g] 30)).alloc (.cells #[.int .i64 s', .int .i64 i', .int .i64 g'] 30)).cell? ⟨b, o, none⟩) (with_reducible (repeat (first | assumption | exact s_refl _ | exact s_id _ | refine s_more _ _ ?_ | refine s_alloc _ ?_ | refine s_drew ?_))) (first | (go_at_call 146; refine (cmpC_any _ _ _).mono ?_; rintro e w' ⟨rfl, rfl⟩) | (go_at_call 145; refine (or_any _ (cmpI s s') (cmpI i i') (cmpI g g') _ (by simp [go_sem]) (by simp [go_sem]) (by simp [go_sem])).mono ?_; rintro e w' ⟨rfl, rfl⟩))
  go_wp2_with fail
  go_ret
  refine ⟨?_, bg⟩
  rw [← HR.out]
  rfl

end Go.Proofs.YtoimjjhopljdmaaGreat
namespace Go.Proofs.YtoimjjhopljdmaaGreat
open Go.Shelf Go.RowKit Go.Lib Go.Sort Go.Proofs

variable {α : Type} [Inhabited α]

def swapN (a b : Nat) : Nat → Array α → Array α
  | 0, d => d
  | n + 1, d => swp (swapN a b n d) (a + n) (b + n)
theorem size_swapN (a b : Nat) : ∀ (n : Nat) (d : Array α), (swapN a b n d).size = d.size
  | 0, _ => rfl
  | n + 1, d => by rw [swapN, size_swp, size_swapN a b n d]

def ldB (a : Addr) : Sem Value := loadVar 32 a
def stB (a : Addr) (v : Value) : Sem Unit := storeVar 32 a v
theorem loadVar_ldB (a : Addr) : loadVar 32 a = ldB a := rfl
theorem storeVar_stB (a : Addr) (v : Value) : storeVar 32 a v = stB a v := rfl

theorem ldB_of {W : World} {a : Addr} {cs : List Value} (h : Sem.run Tryz.prog (loadCellsFrom a 0 11 #[]) W = .ok cs.toArray W) : (ldB a).run Tryz.prog W = .ok (.agg cs.toArray) W := by
  simp [ldB, loadVar, loadCells, h]
theorem stB_of {W W' : World} {a : Addr} {cs : List Value} (hl : cs.length = 11) (h : Sem.run Tryz.prog (storeCells a cs 0) W = .ok () W') : (stB a (.agg cs.toArray)).run Tryz.prog W = .ok () W' := by
  simp [stB, storeVar, Value.cells, hl, h]
attribute [local go_sem ↓] loadVar_ldB storeVar_stB

set_option maxHeartbeats 4000000 in
set_option maxRecDepth 1000000 in
theorem swapRange (enc : α → List Value) (f : Value) (blk off cap a b n : Nat) (d0 d : Array α) (w0 w : World)
    (R : RowK enc 11 w0 blk off d0) (hs : d0.size = d.size) (S : SWK enc 11 w0 blk off d w) (ha : a + n ≤ d.size) (hb : b + n ≤ d.size) (hsz : d.size < 4611686018427387904) :
    Calls Tryz.prog 184 #[.slice (some ⟨blk, off, none⟩) d.size cap, .int .i64 a, .int .i64 b, .int .i64 n, f] w fun e w' => e = .returned (.tuple #[]) ∧ SWK enc 11 w0 blk off (swapN a b n d) w' := by
  have mixed : Tryz.prog.follows .mixedOrders = true := by kernel_rfl
  have S0 : Aside (SWK enc 11 w0 blk off d w) := S
  clear S
  go_enter Tryz.func184, Tryz.ntmps184
  go_wp2_with fail
  go_loopg [10] n (fun kx s wr => ∃ (i : Nat) (dk : Array α), s = .int .i64 i ∧ i ≤ n ∧ n - i ≤ kx ∧ dk.size = d.size ∧ dk = swapN a b i d ∧ Aside (SWK enc 11 w0 blk off dk wr))
  case atStart => exact ⟨0, d, rfl, by omega, by omega, rfl, rfl, S0⟩
  case round =>
    clear S0
    obtain ⟨i, dk, rfl, hin, hkx, hds, heq, S1⟩ := hrel
    have HEQ := Lib.hid heq
    clear heq
    by_cases hlt : i < n
    · have hltz : (i : Int) < (n : Int) := by omega
      go_wp2_with fail
      have ea44 : ((a : Int) + (i : Int)).toNat = a + i := by omega
      have pa44 : (0 : Int) ≤ (a : Int) + (i : Int) := by omega
      have ba44 : (a : Int) + (i : Int) < (d.size : Int) := by omega
      have ra44 : IntKind.i64.wrap ((a : Int) + (i : Int)) = (a : Int) + (i : Int) := by rw [IntKind.wrap_i64]; omega
      have ec44 : ((b : Int) + (i : Int)).toNat = b + i := by omega
      have pc44 : (0 : Int) ≤ (b : Int) + (i : Int) := by omega
      have bc44 : (b : Int) + (i : Int) < (d.size : Int) := by omega
      have rc44 : IntKind.i64.wrap ((b : Int) + (i : Int)) = (b : Int) + (i : Int) := by rw [IntKind.wrap_i64]; omega
      have S2 : Aside (SWK enc 11 w0 blk off (swp dk (a + i) (b + i)) ((wr.drew.setCells blk (off + (a + i) * 11) (enc dk[b + i]!)).setCells blk (off + (b + i) * 11) (enc dk[a + i]!))) := S1.out.swapped R (a + i) (b + i) (by omega) (by omega)
      have l44a := ldB_of (S1.out.ld1 R (by omega) Tryz.prog (a + i) (by omega))
      have l44b := ldB_of (S1.out.ld1 R (by omega) Tryz.prog (b + i) (by omega))
      have s44a := stB_of (R.hk _) (S1.out.st1 R (by omega) Tryz.prog (a + i) (by omega) dk[b + i]!)
      have s44b := stB_of (R.hk _) (S1.out.st2 R (by omega) Tryz.prog (a + i) (b + i) (by omega) (by omega) dk[b + i]! dk[a + i]!)
      generalize enc dk[a + i]! = cI44 at S2 l44a s44b
      generalize enc dk[b + i]! = cJ44 at S2 l44b s44a s44b
      clear S1
      go_wp2_with fail
      go_big_region_o
      clear l44a l44b s44a s44b
      generalize (wr.drew.setCells blk (off + (a + i) * 11) cJ44).setCells blk (off + (b + i) * 11) cI44 = w2 at S2 ⊢
      go_wp2
      go_roundg (n - (i + 1))
      case measure => omega
      case rel =>
        exact ⟨i + 1, swp dk (a + i) (b + i), by simp, by omega, by omega, by rw [size_swp]; exact hds, by rw [HEQ.out]; rfl, S2⟩
    · have hnot : ¬ (i : Int) < (n : Int) := by omega
      go_wp2
      go_returns
      refine ⟨rfl, ?_⟩
      obtain rfl : i = n := by omega
      rw [← HEQ.out]
      exact S1.out
end Go.Proofs.YtoimjjhopljdmaaGreat
