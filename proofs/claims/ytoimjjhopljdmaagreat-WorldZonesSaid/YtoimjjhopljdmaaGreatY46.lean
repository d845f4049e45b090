/-
  Chapter texts RdG SyF WoL CfS TwH: what the claim reaches of them. Conditions stand at each theorem.
-/
import Derived.Deep.Slices
import Derived.Test.YtoimjjhopljdmaaGreatY07
import Derived.Test.YtoimjjhopljdmaaGreatY01
import Derived.Test.YtoimjjhopljdmaaGreatY12
import Derived.Test.YtoimjjhopljdmaaGreatY22
import Derived.Test.YtoimjjhopljdmaaGreatY45
import Derived.Test.YtoimjjhopljdmaaGreatY29
import Derived.Test.YtoimjjhopljdmaaGreatY02
import Derived.Test.YtoimjjhopljdmaaGreatY20
import Derived.Test.YtoimjjhopljdmaaGreatY14
namespace Go.Proofs.YtoimjjhopljdmaaGreat
open Go.ChangeShapes Go.WideShapes Go.ChangeAt Go.RowKit
theorem cellsR_split {β : Type} {enc : β → List Value} {size : Nat} (hk : ∀ x, (enc x).length = size) : ∀ (l : List β) (t : Nat) (u : Value), (cellsR enc l)[t]? = some u → ∃ b, l[t / size]? = some b ∧ (enc b)[t % size]? = some u := fun l t u h => by
  have hlt := (List.getElem?_eq_some_iff.1 h).1
  rw [cellsR_len enc size hk] at hlt
  have hs : 0 < size := by rcases Nat.eq_zero_or_pos size with h | h; · subst h; omega
                           · exact h
  have hd : t / size < l.length := (Nat.div_lt_iff_lt_mul hs).2 hlt
  refine ⟨l[t / size], List.getElem?_eq_getElem hd, ?_⟩
  have e := cellsR_get enc size hk l (t / size) (t % size) _ (List.getElem?_eq_getElem hd) (Nat.mod_lt _ hs)
  rw [← e, Nat.mul_comm, Nat.div_add_mod]
  exact h
section
variable {H : Type} {enc : TypeId × Value → H} {W : World} {base : Nat} {spare : Nat → Bool} {held : Bool} {fuel : Nat}
theorem slice_cells {β : Type} {en : β → List Value} {size : Nat} (hk : ∀ x, (en x).length = size) (hs : 0 < size) {Good : β → Prop} {TS T : TypeId} (hT : Tryz.prog.underlying TS = some (.slice T)) (hz : Tryz.prog.cellsOf T = size)
    (rd : ∀ {fuel : Nat} {c : List Value} {x : DataW H × List MemPlace}, DataW.trod enc Tryz.prog W base spare held fuel T c = some x → ∃ b, c = en b ∧ Good b)
    {c : List Value} {x : DataW H × List MemPlace} (h : DataW.trod enc Tryz.prog W base spare held fuel TS c = some x) : ∃ p cap l, c = [.slice p l.length cap] ∧ RIn en W (.slice p l.length cap) l ∧ ∀ b ∈ l, Good b := by
  rcases Go.Deep.open_slice hT h with ⟨h0, _⟩ | ⟨⟨b, off, sp⟩, len, cap, m, n, D, Pl, h0, _, hl, hm, hmm, _, hi⟩
  · exact ⟨none, 0, [], h0, ⟨none, 0, rfl, by simp [maxLen], fun _ => rfl, Nat.le_refl _, fun h => absurd rfl h⟩, by simp⟩
  · subst h0
    have hle : len ≤ m := by rw [hmm]; split <;> omega
    rw [hz] at hi
    by_cases hz0 : len = 0
    · subst hz0
      exact ⟨_, cap, [], rfl, ⟨_, cap, rfl, by simp [maxLen], (fun h => by cases h), Nat.zero_le _, fun h => absurd rfl h⟩, by simp⟩
    have hsp : sp = none := by
      obtain ⟨cs', hc, ht⟩ := hi 0 (by omega)
      obtain ⟨_, hlen, hcell⟩ := World.cells?_some hc
      have hc0 := hcell 0 (by omega)
      rw [List.getElem?_eq_getElem (by omega)] at hc0
      simp only [Addr.add, Nat.zero_mul, if_true] at hc0
      cases sp with
      | none => rfl
      | some q =>
        simp only [World.cell?, Option.isSome_some, if_true] at hc0
        split at hc0 <;> cases hc0
    subst hsp
    have hq : ∀ q, q < len → ∃ c : β, (∀ j, j < size → W.cell? ⟨b, off + q * size + j, none⟩ = (en c)[j]?) ∧ Good c := by
      intro q hql
      obtain ⟨cs', hc, ht⟩ := hi q (by omega)
      obtain ⟨_, hlen, hcell⟩ := World.cells?_some hc
      obtain ⟨y, rfl, hfit⟩ := rd ht
      refine ⟨y, fun j hj => ?_, hfit⟩
      have e : (⟨b, off + q * size + j, none⟩ : Addr) = ((⟨b, off, none⟩ : Addr).add (q * size)).add j := by
        unfold Addr.add
        by_cases h1 : q * size = 0
        · by_cases h2 : j = 0 <;> simp [h1, h2]
        · by_cases h2 : j = 0 <;> simp [h1, h2]
      rw [e]
      exact hcell j hj
    obtain ⟨l, hll, hlp⟩ := list_of len hq
    subst hll
    refine ⟨_, cap, l, rfl, ⟨some ⟨b, off, none⟩, cap, rfl, by omega, (fun h => by cases h), by omega, fun hn => ⟨b, off, rfl, ?_, fun t u hu => ?_⟩⟩, fun c hc => ?_⟩
    · have h1 : 0 < l.length := List.length_pos_iff.2 hn
      have h0 := (hlp 0 l[0] (List.getElem?_eq_getElem h1)).1 0 hs
      have h2 : 0 < (en l[0]).length := by rw [hk]; exact hs
      rw [List.getElem?_eq_getElem h2] at h0
      exact World.block_lt_of_cell? W _ h0
    · obtain ⟨c, hc, hcu⟩ := cellsR_split hk l t u hu
      have h1 := (hlp _ c hc).1 (t % size) (Nat.mod_lt _ hs)
      rw [show off + t = off + t / size * size + t % size by rw [Nat.add_assoc, Nat.mul_comm, Nat.div_add_mod], h1, hcu]
    · obtain ⟨q, hi', e⟩ := List.getElem_of_mem hc
      exact (hlp q c (by rw [← e]; exact List.getElem?_eq_getElem hi')).2
end
set_option maxRecDepth 100000 in
theorem read_cmdF {H : Type} {enc : TypeId × Value → H} {w : World} {base : Nat} {spare : Nat → Bool} {held : Bool} {fuel : Nat} {c : List Value} {x : DataW H × List MemPlace} (h : DataW.trod enc Tryz.prog w base spare held fuel 34 c = some x) : ∃ m : Cm, c = cmC m ∧ CmFit m := by
  obtain ⟨xs, n, _, _, hc, hl, hf⟩ := DataW.trod_struct Tryz.underlying34 h
  rw [cells_cmd] at hc
  match c, hc with
  | [c0, c1, c2, c3, c4, c5, c6, c7, c8, c9, c10, c11, c12, c13, c14, c15], _ =>
    match xs, hl with
    | [x0, x1, x2, x3], _ =>
      have h0 := hf 0 _ rfl
      have h1 := hf 1 _ rfl
      have h2 := hf 2 _ rfl
      have h3 := hf 3 _ rfl
      simp [cells_int, cells_id, cells_bun] at h0 h1 h2 h3
      obtain ⟨k, e0, _⟩ := read_int h0
      obtain ⟨s, i, g, e1, _⟩ := read_id h1
      obtain ⟨es, ei, eg, m, x, y, vx, vy, hp, pw, lf, e2, hb⟩ := read_bun h2
      obtain ⟨mask, e3, hk⟩ := read_int h3
      simp at e0 e1 e2 e3
      obtain ⟨e10, e11, e12⟩ := e1
      obtain ⟨f0, f1, f2, f3, f4, f5, f6, f7, f8, f9, f10⟩ := e2
      subst e0 e10 e11 e12 f0 f1 f2 f3 f4 f5 f6 f7 f8 f9 f10 e3
      exact ⟨⟨k, s, i, g, ⟨es, ei, eg, m, x, y, vx, vy, hp, pw, lf⟩, mask⟩, rfl, hb, hk⟩
end Go.Proofs.YtoimjjhopljdmaaGreat
namespace Go.Proofs.YtoimjjhopljdmaaGreat
open Go.RowKit


def mayF (c : Cfg) : Cfg :=
  let side := 256 + c.side % 5000
  { cols := 1 + c.cols % 4, rows := 1 + c.rows % 4, side := side, radius := c.radius % (side + 1), speed := c.speed % (side + 1), ids := 1 + c.ids % 16, queue := 1 + c.queue % 64 }

theorem mayF_ok (c : Cfg) : CfgOk (mayF c) := by
  have h1 := Int.emod_nonneg c.side (by omega : (5000 : Int) ≠ 0)
  have h2 := Int.emod_lt_of_pos c.side (by omega : (0 : Int) < 5000)
  constructor <;> simp only [mayF]
  all_goals first
    | omega
    | exact Int.emod_nonneg _ (by omega)
    | (have := Int.emod_lt_of_pos c.radius (by omega : 0 < 256 + c.side % 5000 + 1); omega)
    | (have := Int.emod_lt_of_pos c.speed (by omega : 0 < 256 + c.side % 5000 + 1); omega)

theorem mod4_any (k n : Int) (w : World) (h1 : 1 ≤ n) (h2 : n ≤ 1000000) :
    Calls Tryz.prog 38 #[.int .i64 k, .int .i64 n] w fun e w' => e = .returned (.int .i64 (k % n)) ∧ w = w' := by
  have e0 : (Int.tmod k n + n) % n = k % n := by
    rw [Int.add_emod_right]
    by_cases hk0 : 0 ≤ k
    · rw [Int.tmod_eq_emod_of_nonneg hk0, Int.emod_emod_of_dvd _ (Int.dvd_refl n)]
    · rw [Int.tmod_eq_emod]
      split
      · simp
      · have hn : ((n.natAbs : Int)) = n := by omega
        rw [hn, Int.sub_emod_right, Int.emod_emod_of_dvd _ (Int.dvd_refl n)]
  have E0 := Lib.hid e0
  have t1 : -n < Int.tmod k n := by have := Int.tmod_lt_of_pos k (by omega : 0 < n); have := Int.lt_tmod_of_pos k (by omega : 0 < n); omega
  have t2 : Int.tmod k n < n := Int.tmod_lt_of_pos k (by omega)
  clear e0
  go_enter Tryz.func38, Tryz.ntmps38
  go_wp2
  go_ret
  refine ⟨?_, rfl⟩
  show Ending.returned (.int .i64 ((Int.tmod k n + n) % n)) = _
  rw [E0.out]

set_option maxRecDepth 100000 in
set_option maxHeartbeats 2000000 in
theorem may_any (cols rows side radius speed ids queue : Int) (w : World) :
    Calls Tryz.prog 13 #[.agg #[.int .i64 cols, .int .i64 rows, .int .i64 side, .int .i64 radius, .int .i64 speed, .int .i64 ids, .int .i64 queue]] w fun e w' => e = .returned (.agg #[.int .i64 (mayF ⟨cols, rows, side, radius, speed, ids, queue⟩).cols, .int .i64 (mayF ⟨cols, rows, side, radius, speed, ids, queue⟩).rows, .int .i64 (mayF ⟨cols, rows, side, radius, speed, ids, queue⟩).side, .int .i64 (mayF ⟨cols, rows, side, radius, speed, ids, queue⟩).radius, .int .i64 (mayF ⟨cols, rows, side, radius, speed, ids, queue⟩).speed, .int .i64 (mayF ⟨cols, rows, side, radius, speed, ids, queue⟩).ids, .int .i64 (mayF ⟨cols, rows, side, radius, speed, ids, queue⟩).queue]) ∧ Below w.heap.size w w' := by
  have h1 := Int.emod_nonneg side (by omega : (5000 : Int) ≠ 0)
  have h2 := Int.emod_lt_of_pos side (by omega : (0 : Int) < 5000)
  have h3 := Int.emod_nonneg cols (by omega : (4 : Int) ≠ 0)
  have h4 := Int.emod_lt_of_pos cols (by omega : (0 : Int) < 4)
  have h5 := Int.emod_nonneg rows (by omega : (4 : Int) ≠ 0)
  have h6 := Int.emod_lt_of_pos rows (by omega : (0 : Int) < 4)
  have h7 := Int.emod_nonneg ids (by omega : (16 : Int) ≠ 0)
  have h8 := Int.emod_lt_of_pos ids (by omega : (0 : Int) < 16)
  have h9 := Int.emod_nonneg queue (by omega : (64 : Int) ≠ 0)
  have h10 := Int.emod_lt_of_pos queue (by omega : (0 : Int) < 64)
  
  go_enter Tryz.func13, Tryz.ntmps13
  go_wp2_with fail
  go_region_held3 (fun W => ((w.alloc (.cells #[.int .i64 cols, .int .i64 rows, .int .i64 side, .int .i64 radius, .int .i64 speed, .int .i64 ids, .int .i64 queue] 23)).alloc (.cells #[.int .i64 0, .int .i64 0, .int .i64 0, .int .i64 0, .int .i64 0, .int .i64 0, .int .i64 0] 23)).heap.size ≤ W.heap.size ∧ ∀ b o, b < ((w.alloc (.cells #[.int .i64 cols, .int .i64 rows, .int .i64 side, .int .i64 radius, .int .i64 speed, .int .i64 ids, .int .i64 queue] 23)).alloc (.cells #[.int .i64 0, .int .i64 0, .int .i64 0, .int .i64 0, .int .i64 0, .int .i64 0, .int .i64 0] 23)).heap.size → W.cell? ⟨b, o, none⟩ = ((w.alloc (.cells #[.int .i64 cols, .int .i64 rows, .int .i64 side, .int .i64 radius, .int .i64 speed, .int .i64 ids, .int .i64 queue] 23)).alloc (.cells #[.int .i64 0, .int .i64 0, .int .i64 0, .int .i64 0, .int .i64 0, .int .i64 0, .int .i64 0] 23)).cell? ⟨b, o, none⟩) (with_reducible (repeat (first | assumption | exact s_refl _ | exact s_id _ | refine s_more _ _ ?_ | refine s_alloc _ ?_ | refine s_drew ?_))) (first | (go_at_call 38; refine (mod4_any _ _ _ (by omega) (by omega)).mono ?_; rintro e w' ⟨rfl, rfl⟩))
  all_goals go_wp2_with (go_at_call 38; refine (mod4_any _ _ _ (by omega) (by omega)).mono ?_; rintro e w' ⟨rfl, rfl⟩)
  all_goals go_returns
  all_goals exact ⟨rfl, bg⟩
end Go.Proofs.YtoimjjhopljdmaaGreat
namespace Go.Proofs.YtoimjjhopljdmaaGreat
open Go.ChangeShapes Go.WideShapes Go.ChangeAt Go.RowKit

structure Tn where
  (st : Bool) (m : Cm)
def tnL (t : Tn) : List Value := .bool t.st :: cmC t.m
theorem tnL_len (t : Tn) : (tnL t).length = 17 := rfl
theorem cells_turn : Tryz.prog.cellsOf 48 = 17 := by kernel_rfl
theorem cells_bool17 : Tryz.prog.cellsOf 4 = 1 := by kernel_rfl
section
variable {H : Type} {enc : TypeId × Value → H} {W : World} {base : Nat} {spare : Nat → Bool} {held : Bool} {fuel : Nat}
set_option maxRecDepth 100000 in
theorem read_turn {c : List Value} {x : DataW H × List MemPlace} (h : DataW.trod enc Tryz.prog W base spare held fuel 48 c = some x) : ∃ t : Tn, c = tnL t ∧ CmFit t.m := by
  obtain ⟨xs, n, _, _, hc, hl, hf⟩ := DataW.trod_struct Tryz.underlying48 h
  rw [cells_turn] at hc
  match c, hc with
  | [c0, c1, c2, c3, c4, c5, c6, c7, c8, c9, c10, c11, c12, c13, c14, c15, c16], _ =>
    match xs, hl with
    | [x0, x1], _ =>
      have h0 := hf 0 _ rfl
      have h1 := hf 1 _ rfl
      simp [cells_bool17, cells_cmd] at h0 h1
      obtain ⟨st, e0, _⟩ := DataW.trod_bool Tryz.underlying4 h0
      obtain ⟨m, e1, hm⟩ := read_cmdF h1
      obtain ⟨k, s, i, g, ⟨es, ei, eg, mk, x, y, vx, vy, hp, pw, lf⟩, mask⟩ := m
      simp [cmC, bunL] at e0 e1
      obtain ⟨f0, f1, f2, f3, f4, f5, f6, f7, f8, f9, f10, f11, f12, f13, f14, f15⟩ := e1
      subst e0 f0 f1 f2 f3 f4 f5 f6 f7 f8 f9 f10 f11 f12 f13 f14 f15
      exact ⟨⟨st, ⟨k, s, i, g, ⟨es, ei, eg, mk, x, y, vx, vy, hp, pw, lf⟩, mask⟩⟩, rfl, hm⟩
end
set_option maxRecDepth 100000 in
theorem turns_in {H : Type} {enc : TypeId × Value → H} {W : World} {base b0 : Nat} {spare : Nat → Bool} {held : Bool} {r : Reach} {v : Value} {d : DataW H} {p : List MemPlace} (hv : Value.okWide Tryz.prog W r b0 24 v) (h : DataW.Trod enc Tryz.prog W base spare held 24 v d p) : ∃ zs, RIn tnL W v zs ∧ ∀ t ∈ zs, CmFit t.m := by
  obtain ⟨a, len, cap, rfl⟩ := Go.WideShapes.okWide_slice Tryz.underlying24 hv
  obtain ⟨fuel, hf⟩ := h
  have hf' : DataW.trod enc Tryz.prog W base spare held fuel 24 [.slice a len cap] = some (d, p) := by simpa [Value.cells] using hf
  obtain ⟨p', cap', l, e, hr, hg⟩ := slice_cells (en := tnL) (size := 17) (Good := fun t => CmFit t.m) tnL_len (by omega) Tryz.underlying24 cells_turn (fun ht => read_turn ht) hf'
  simp only [List.cons.injEq, and_true] at e
  rw [e]
  exact ⟨l, hr, hg⟩
theorem few17_any (pt : Option Addr) (ct : Nat) (zs : List Tn) (w : World) (h : RIn tnL w (.slice pt zs.length ct) zs) : Calls Tryz.prog 18 #[.slice pt zs.length ct] w fun e w' => e = .returned (.slice pt (zs.take 60).length ct) ∧ Below w.heap.size w w' := by
  obtain ⟨p, cap, he, h1, h2, h3, h4⟩ := h
  simp only [Value.slice.injEq, true_and] at he
  obtain ⟨rfl, rfl⟩ := he
  clear h4
  by_cases hn : (zs.length : Int) > 60
  · have e : (zs.take 60).length = 60 := by rw [List.length_take]; omega
    rw [e]
    go_enter Tryz.func18, Tryz.ntmps18
    go_wp2_with fail
    go_ret
    exact ⟨rfl, bg⟩
  · have e : zs.take 60 = zs := List.take_of_length_le (by omega)
    rw [e]
    go_enter Tryz.func18, Tryz.ntmps18
    go_wp2_with fail
    go_ret
    exact ⟨rfl, bg⟩
attribute [local go_sem ↓] loadVar_ldM storeVar_stM
end Go.Proofs.YtoimjjhopljdmaaGreat
namespace Go.Proofs.YtoimjjhopljdmaaGreat
open Go.RowKit

def stC (a : Addr) (v : Value) : Sem Unit := storeVar 23 a v
theorem storeVar_stC (a : Addr) (v : Value) : storeVar 23 a v = stC a v := rfl

theorem st_cfg {w0 W : World} {F : Ob} {b : Nat} {acols arows aside aradius aspeed aids aqueue cols rows side radius speed ids queue : Int} (h : Own w0 W ((boxO b #[.int .i64 acols, .int .i64 arows, .int .i64 aside, .int .i64 aradius, .int .i64 aspeed, .int .i64 aids, .int .i64 aqueue] 23).and F)) :
    (stC ⟨b, 0, none⟩ (.agg #[.int .i64 cols, .int .i64 rows, .int .i64 side, .int .i64 radius, .int .i64 speed, .int .i64 ids, .int .i64 queue])).run Tryz.prog W = .ok () (((((((W.setCell ⟨b, 0, none⟩ (.int .i64 cols)).setCell ⟨b, 1, none⟩ (.int .i64 rows)).setCell ⟨b, 2, none⟩ (.int .i64 side)).setCell ⟨b, 3, none⟩ (.int .i64 radius)).setCell ⟨b, 4, none⟩ (.int .i64 speed)).setCell ⟨b, 5, none⟩ (.int .i64 ids)).setCell ⟨b, 6, none⟩ (.int .i64 queue)) ∧ Own w0 (((((((W.setCell ⟨b, 0, none⟩ (.int .i64 cols)).setCell ⟨b, 1, none⟩ (.int .i64 rows)).setCell ⟨b, 2, none⟩ (.int .i64 side)).setCell ⟨b, 3, none⟩ (.int .i64 radius)).setCell ⟨b, 4, none⟩ (.int .i64 speed)).setCell ⟨b, 5, none⟩ (.int .i64 ids)).setCell ⟨b, 6, none⟩ (.int .i64 queue)) ((boxO b #[.int .i64 cols, .int .i64 rows, .int .i64 side, .int .i64 radius, .int .i64 speed, .int .i64 ids, .int .i64 queue] 23).and F) := by
  have hb := h.box
  have h1 := Go.run_storeCells_cells (P := Tryz.prog) b 0 [.int .i64 cols, .int .i64 rows, .int .i64 side, .int .i64 radius, .int .i64 speed, .int .i64 ids, .int .i64 queue] 0 W (fun j hj => by
    have hj : j < 7 := hj
    rw [show 0 + 0 + j = j by omega, hb.1]
    rcases (by omega : j = 0 ∨ j = 1 ∨ j = 2 ∨ j = 3 ∨ j = 4 ∨ j = 5 ∨ j = 6) with rfl | rfl | rfl | rfl | rfl | rfl | rfl <;> rfl) (fun j _ => hb.2.1 _) (fun u hu => by
    simp at hu
    rcases hu with rfl | rfl | rfl | rfl | rfl | rfl | rfl <;> rfl)
  have h8 := ((((((h.set 0 (.int .i64 cols)).set 1 (.int .i64 rows)).set 2 (.int .i64 side)).set 3 (.int .i64 radius)).set 4 (.int .i64 speed)).set 5 (.int .i64 ids)).set 6 (.int .i64 queue)
  simp only [List.setIfInBounds_toArray, List.set_cons_zero, List.set_cons_succ] at h8
  refine ⟨?_, h8⟩
  have h' : Sem.run Tryz.prog (storeCells ⟨b, 0, none⟩ [.int .i64 cols, .int .i64 rows, .int .i64 side, .int .i64 radius, .int .i64 speed, .int .i64 ids, .int .i64 queue] 0) W = .ok () (((((((W.setCell ⟨b, 0, none⟩ (.int .i64 cols)).setCell ⟨b, 1, none⟩ (.int .i64 rows)).setCell ⟨b, 2, none⟩ (.int .i64 side)).setCell ⟨b, 3, none⟩ (.int .i64 radius)).setCell ⟨b, 4, none⟩ (.int .i64 speed)).setCell ⟨b, 5, none⟩ (.int .i64 ids)).setCell ⟨b, 6, none⟩ (.int .i64 queue)) := h1
  clear h1 hb h h8
  generalize (((((((W.setCell ⟨b, 0, none⟩ (.int .i64 cols)).setCell ⟨b, 1, none⟩ (.int .i64 rows)).setCell ⟨b, 2, none⟩ (.int .i64 side)).setCell ⟨b, 3, none⟩ (.int .i64 radius)).setCell ⟨b, 4, none⟩ (.int .i64 speed)).setCell ⟨b, 5, none⟩ (.int .i64 ids)).setCell ⟨b, 6, none⟩ (.int .i64 queue)) = W2 at *
  simp [stC, storeVar, Value.cells, h']
end Go.Proofs.YtoimjjhopljdmaaGreat
namespace Go.Proofs.YtoimjjhopljdmaaGreat
open Go.RowKit

structure Prs (w0 w : World) (va vb : Value) (la lb : List Bun) : Prop where
  a : BNew w0 w va la
  b : BNew w0 w vb lb
  ap : ∀ g, va.ownBlock = some g → vb.ownBlock ≠ some g
theorem Prs.nil (w : World) : Prs w w (.slice none 0 0) (.slice none 0 0) [] [] := ⟨BNew.nil w, BNew.nil w, fun g hg => by cases hg⟩
theorem Prs.swap {w0 w : World} {va vb : Value} {la lb : List Bun} (h : Prs w0 w va vb la lb) : Prs w0 w vb va lb la := ⟨h.b, h.a, fun g h1 h2 => h.ap g h2 h1⟩
theorem Prs.grow {w0 w w' : World} {va vb : Value} {la lb : List Bun} (h : Prs w0 w va vb la lb) (hb : Below w.heap.size w w') : Prs w0 w' va vb la lb := ⟨h.a.grow hb, h.b.grow hb, h.ap⟩
theorem Prs.since {w0 w1 w : World} {va vb : Value} {la lb : List Bun} (h : Prs w1 w va vb la lb) (hb : Below w0.heap.size w0 w1) : Prs w0 w va vb la lb := ⟨h.a.since hb, h.b.since hb, h.ap⟩
theorem Prs.app {w0 w w' : World} {va vb v' : Value} {la lb l : List Bun} (h : Prs w0 w va vb la lb) (hs : Sl w' 32 11 v' (la ++ l).length (bunCells (la ++ l))) (ht : Turned w w' va.ownBlock)
    (ho : v'.ownBlock = va.ownBlock ∨ ∃ g, v'.ownBlock = some g ∧ w.heap.size ≤ g) : Prs w0 w' v' vb (la ++ l) lb := by
  have hbel : Below w0.heap.size w0 w' := h.a.2.1.trans ⟨ht.os, ht.tape, ht.output, ht.size, fun k hk => ht.block k (by have := h.a.2.1.size; omega) fun e => by have := h.a.2.2 k e.symm; omega⟩
  refine ⟨⟨hs, hbel, fun q hq => ?_⟩, ⟨h.b.1.keep fun g hg => ht.block g (sl_lt h.b.1 hg) fun e => h.ap g e.symm hg, hbel, h.b.2.2⟩, fun g hg e2 => ?_⟩
  · rcases ho with e | ⟨g', e, hg'⟩
    · exact h.a.2.2 q (e ▸ hq)
    · rw [e] at hq; cases hq; exact Nat.le_trans h.a.2.1.size hg'
  · rcases ho with e | ⟨g', e, hg'⟩
    · exact h.ap g (e ▸ hg) e2
    · rw [e] at hg; cases hg; have := sl_lt h.b.1 e2; omega
theorem Prs.app1 {w0 w w' : World} {va vb v' : Value} {la lb : List Bun} {x : Bun} (h : Prs w0 w va vb la lb) (hs : Sl w' 32 11 v' (la.length + 1) (bunCells la ++ bunL x)) (ht : Turned w w' va.ownBlock)
    (ho : v'.ownBlock = va.ownBlock ∨ ∃ g, v'.ownBlock = some g ∧ w.heap.size ≤ g) : Prs w0 w' v' vb (la ++ [x]) lb :=
  h.app (by rw [bunCells_app, List.length_append, show bunCells [x] = bunL x by simp [bunCells]]; exact hs) ht ho
theorem wpList_append_prs (w0 w : World) {ops : Array Oper} {rest : List Oper} {o : Oper} {a : Act} {Q : Exit → Act → World → Prop}
    (hg : o.guard = none) (s x : Operand) (hop : o.op = Op.call { callee := Callee.builtin Builtin.append, args := #[s, x], argTypes := #[37, 37] })
    (v vx vb : Value) (l0 l lb : List Bun) (hv : a.eval s = v) (hp : Prs w0 w v vb l0 lb) (hx : a.eval x = vx) (hb : BIn w vx l) (h0 : l0.length ≤ 1000000) (hl : l.length ≤ 1000000)
    (hK : ∀ v' w', Prs w0 w' v' vb (l0 ++ l) lb → Turned w w' v.ownBlock → (v'.ownBlock = v.ownBlock ∨ ∃ g, v'.ownBlock = some g ∧ w.heap.size ≤ g) → wpList Tryz.prog ops Q rest (a.put o.dst v') w') :
    wpList Tryz.prog ops Q (o :: rest) a w := by
  obtain ⟨i0, hi0, hz0, hz1, hz2⟩ := info_parts info_bunJ
  obtain ⟨p, cap, rfl, h1, h2, h3, h4⟩ := hb
  by_cases hn : l = []
  · subst hn
    obtain ⟨q, c, rfl⟩ := sl_frm hp.a.1
    refine wpList_append_zero hg s x 37 hop 32 i0 Tryz.underlying37 hi0 _ _ _ _ _ hv hx ?_ (hK _ _ (by simpa using hp) (Turned.of_grown ⟨rfl, rfl, rfl, Nat.le_refl _, fun k hk _ => rfl⟩) (.inl rfl))
    obtain ⟨_, ⟨h, h0⟩ | ⟨g, off, cap', cur, h, hb, hn, hc, hsz, hr⟩⟩ := hp.a.1
    · simp only [Value.slice.injEq] at h; omega
    · simp only [Value.slice.injEq] at h; omega
  · obtain ⟨blk, off, rfl, h5, h6⟩ := h4 hn
    have hn0 : 0 < l.length := List.length_pos_iff.2 hn
    refine wpList_append_sl w hg s x 37 hop 32 i0 _ 11 88 Tryz.underlying37 hi0 hz0 hz1 hz2 rfl (by omega) v l0.length (bunCells l0) hv hp.a.1 ⟨blk, off, none⟩ l.length cap (bunCells l) hx (bunCells_len l) (fun j u hj => ?_) (bunCells_one l) hn0 (by unfold maxLen; omega) (by omega) (fun v' w' hs ht ho => hK v' w' (hp.app ?_ ht ho) ht ho)
    · rw [show Addr.add ⟨blk, off, none⟩ j = ⟨blk, off + j, none⟩ from by unfold Addr.add; split <;> simp_all]
      exact h6 j u hj
    · rw [bunCells_app, List.length_append]; exact hs
end Go.Proofs.YtoimjjhopljdmaaGreat
