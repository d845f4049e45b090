/-
  Chapter texts SyF WoL: what the claim reaches of them. Conditions stand at each theorem.
-/
import Derived.Test.YtoimjjhopljdmaaGreatProg
import Derived.WalkKit
import Derived.WalkSpells
import Derived.WalkLawsBesides
import Derived.Handy
import Derived.Lib.Hide
import Derived.Lib.QuietBelow
import Derived.BigQuiet
import Derived.Deep.RegionHeld3
import Derived.Deep.RegionWith
import Derived.Deep.DeepFit
import Derived.Deep.DeepCutAuto
import Derived.Deep.LoopGhost
import Derived.Deep.Light
import Derived.Lib.MinMax
import Derived.StillTailTactics
import Derived.Test.YtoimjjhopljdmaaGreatQ01
import Derived.Test.YtoimjjhopljdmaaGreatQ02
import Derived.Test.YtoimjjhopljdmaaGreatQ03
import Derived.Test.YtoimjjhopljdmaaGreatQ04
import Derived.Test.YtoimjjhopljdmaaGreatQ05
import Derived.Test.YtoimjjhopljdmaaGreatQ06
import Derived.Test.YtoimjjhopljdmaaGreatQ07
import Derived.Test.YtoimjjhopljdmaaGreatQ08
import Derived.Test.YtoimjjhopljdmaaGreatQ09
import Derived.Test.YtoimjjhopljdmaaGreatQ10
import Derived.Test.YtoimjjhopljdmaaGreatQ11
import Derived.Test.YtoimjjhopljdmaaGreatQ12
import Derived.Test.YtoimjjhopljdmaaGreatQ13
import Derived.Test.YtoimjjhopljdmaaGreatQ14
import Derived.Test.YtoimjjhopljdmaaGreatQ15
import Derived.Test.YtoimjjhopljdmaaGreatQ16
import Derived.Test.YtoimjjhopljdmaaGreatQ17
import Derived.Test.YtoimjjhopljdmaaGreatQ18
import Derived.Test.YtoimjjhopljdmaaGreatQ19
import Derived.Test.YtoimjjhopljdmaaGreatQ20
import Derived.Test.YtoimjjhopljdmaaGreatQ21
import Derived.Test.YtoimjjhopljdmaaGreatQ22
import Derived.Test.YtoimjjhopljdmaaGreatQ23
import Derived.Test.YtoimjjhopljdmaaGreatQ24
import Derived.Test.YtoimjjhopljdmaaGreatQ25
import Derived.Test.YtoimjjhopljdmaaGreatQ26
import Derived.Test.YtoimjjhopljdmaaGreatQ27
import Derived.Test.YtoimjjhopljdmaaGreatQ28
import Derived.Test.YtoimjjhopljdmaaGreatQ29
import Derived.Test.YtoimjjhopljdmaaGreatQ30
import Derived.Test.YtoimjjhopljdmaaGreatQ31
import Derived.Test.YtoimjjhopljdmaaGreatQ32
import Derived.Test.YtoimjjhopljdmaaGreatQ33
import Derived.Test.YtoimjjhopljdmaaGreatQ34
import Derived.Test.YtoimjjhopljdmaaGreatQ35
import Derived.Test.YtoimjjhopljdmaaGreatQ36
import Derived.Test.YtoimjjhopljdmaaGreatQ37
import Derived.Test.YtoimjjhopljdmaaGreatQ38
import Derived.Test.YtoimjjhopljdmaaGreatQ39
import Derived.Test.YtoimjjhopljdmaaGreatQ40
import Derived.Test.YtoimjjhopljdmaaGreatR01
import Derived.Test.YtoimjjhopljdmaaGreatR03
namespace Go.Proofs.YtoimjjhopljdmaaGreat
open Go.RowKit


def mayF (c : Cfg) : Cfg :=
  let side := 256 + c.side % 5000
  { cols := 1 + c.cols % 4, rows := 1 + c.rows % 4, side := side, radius := c.radius % (side + 1), speed := c.speed % (side + 1), ids := 1 + c.ids % 16, queue := 1 + c.queue % 64 }

theorem mayF_ok (c : Cfg) : CfgOk (mayF c) := by
  have h1 := Int.emod_nonneg c.side (by omega : (5000 : Int) ≠ 0)
  have h2 := Int.emod_lt_of_pos c.side (by omega : (0 : Int) < 5000)
  constructor <;> simp only [mayF]
  all_goals first
    | omega
    | exact Int.emod_nonneg _ (by omega)
    | (have := Int.emod_lt_of_pos c.radius (by omega : 0 < 256 + c.side % 5000 + 1); omega)
    | (have := Int.emod_lt_of_pos c.speed (by omega : 0 < 256 + c.side % 5000 + 1); omega)

theorem mod4_any (k n : Int) (w : World) (h1 : 1 ≤ n) (h2 : n ≤ 1000000) :
    Calls Tryz.prog 38 #[.int .i64 k, .int .i64 n] w fun e w' => e = .returned (.int .i64 (k % n)) ∧ w = w' := by
  have e0 : (Int.tmod k n + n) % n = k % n := by
    rw [Int.add_emod_right]
    by_cases hk0 : 0 ≤ k
    · rw [Int.tmod_eq_emod_of_nonneg hk0, Int.emod_emod_of_dvd _ (Int.dvd_refl n)]
    · rw [Int.tmod_eq_emod]
      split
      · simp
      · have hn : ((n.natAbs : Int)) = n := by omega
        rw [hn, Int.sub_emod_right, Int.emod_emod_of_dvd _ (Int.dvd_refl n)]
  have E0 := Lib.hid e0
  have t1 : -n < Int.tmod k n := by have := Int.tmod_lt_of_pos k (by omega : 0 < n); have := Int.lt_tmod_of_pos k (by omega : 0 < n); omega
  have t2 : Int.tmod k n < n := Int.tmod_lt_of_pos k (by omega)
  clear e0
  go_enter Tryz.func38, Tryz.ntmps38
  go_wp2
  go_ret
  refine ⟨?_, rfl⟩
  show Ending.returned (.int .i64 ((Int.tmod k n + n) % n)) = _
  rw [E0.out]

set_option maxRecDepth 100000 in
set_option maxHeartbeats 2000000 in
theorem may_any (cols rows side radius speed ids queue : Int) (w : World) :
    Calls Tryz.prog 13 #[.agg #[.int .i64 cols, .int .i64 rows, .int .i64 side, .int .i64 radius, .int .i64 speed, .int .i64 ids, .int .i64 queue]] w fun e w' => e = .returned (.agg #[.int .i64 (mayF ⟨cols, rows, side, radius, speed, ids, queue⟩).cols, .int .i64 (mayF ⟨cols, rows, side, radius, speed, ids, queue⟩).rows, .int .i64 (mayF ⟨cols, rows, side, radius, speed, ids, queue⟩).side, .int .i64 (mayF ⟨cols, rows, side, radius, speed, ids, queue⟩).radius, .int .i64 (mayF ⟨cols, rows, side, radius, speed, ids, queue⟩).speed, .int .i64 (mayF ⟨cols, rows, side, radius, speed, ids, queue⟩).ids, .int .i64 (mayF ⟨cols, rows, side, radius, speed, ids, queue⟩).queue]) ∧ Below w.heap.size w w' := by
  have h1 := Int.emod_nonneg side (by omega : (5000 : Int) ≠ 0)
  have h2 := Int.emod_lt_of_pos side (by omega : (0 : Int) < 5000)
  have h3 := Int.emod_nonneg cols (by omega : (4 : Int) ≠ 0)
  have h4 := Int.emod_lt_of_pos cols (by omega : (0 : Int) < 4)
  have h5 := Int.emod_nonneg rows (by omega : (4 : Int) ≠ 0)
  have h6 := Int.emod_lt_of_pos rows (by omega : (0 : Int) < 4)
  have h7 := Int.emod_nonneg ids (by omega : (16 : Int) ≠ 0)
  have h8 := Int.emod_lt_of_pos ids (by omega : (0 : Int) < 16)
  have h9 := Int.emod_nonneg queue (by omega : (64 : Int) ≠ 0)
  have h10 := Int.emod_lt_of_pos queue (by omega : (0 : Int) < 64)
  
  go_enter Tryz.func13, Tryz.ntmps13
  go_wp2_with fail
  go_region_held3 (fun W => ((w.alloc (.cells #[.int .i64 cols, .int .i64 rows, .int .i64 side, .int .i64 radius, .int .i64 speed, .int .i64 ids, .int .i64 queue] 23)).alloc (.cells #[.int .i64 0, .int .i64 0, .int .i64 0, .int .i64 0, .int .i64 0, .int .i64 0, .int .i64 0] 23)).heap.size ≤ W.heap.size ∧ ∀ b o, b < ((w.alloc (.cells #[.int .i64 cols, .int .i64 rows, .int .i64 side, .int .i64 radius, .int .i64 speed, .int .i64 ids, .int .i64 queue] 23)).alloc (.cells #[.int .i64 0, .int .i64 0, .int .i64 0, .int .i64 0, .int .i64 0, .int .i64 0, .int .i64 0] 23)).heap.size → W.cell? ⟨b, o, none⟩ = ((w.alloc (.cells #[.int .i64 cols, .int .i64 rows, .int .i64 side, .int .i64 radius, .int .i64 speed, .int .i64 ids, .int .i64 queue] 23)).alloc (.cells #[.int .i64 0, .int .i64 0, .int .i64 0, .int .i64 0, .int .i64 0, .int .i64 0, .int .i64 0] 23)).cell? ⟨b, o, none⟩) (with_reducible (repeat (first | assumption | exact s_refl _ | exact s_id _ | refine s_more _ _ ?_ | refine s_alloc _ ?_ | refine s_drew ?_))) (first | (go_at_call 38; refine (mod4_any _ _ _ (by omega) (by omega)).mono ?_; rintro e w' ⟨rfl, rfl⟩))
  all_goals go_wp2_with (go_at_call 38; refine (mod4_any _ _ _ (by omega) (by omega)).mono ?_; rintro e w' ⟨rfl, rfl⟩)
  all_goals go_returns
  all_goals exact ⟨rfl, (by repeat' (first | (with_reducible exact Below.refl _ _) | (with_reducible assumption) | (with_reducible refine below_drewN ?_ _) | (with_reducible refine below_more _ _ _ ?_ ?_) | (with_reducible refine Below.alloc ?_ ?_ _) | (with_reducible refine Below.drew ?_) | (with_reducible refine Below.setCell ?_ ?_ _) | go_size))⟩
end Go.Proofs.YtoimjjhopljdmaaGreat
namespace Go.Proofs.YtoimjjhopljdmaaGreat
open Go.ChangeShapes Go.WideShapes Go.ChangeAt Go.RowKit

structure Tn where
  (st : Bool) (m : Cm)
def tnL (t : Tn) : List Value := .bool t.st :: cmC t.m
theorem tnL_len (t : Tn) : (tnL t).length = 17 := rfl
theorem cells_turn : Tryz.prog.cellsOf 48 = 17 := by kernel_rfl
theorem cells_bool17 : Tryz.prog.cellsOf 4 = 1 := by kernel_rfl
section
variable {H : Type} {enc : TypeId × Value → H} {W : World} {base : Nat} {spare : Nat → Bool} {held : Bool} {fuel : Nat}
set_option maxRecDepth 100000 in
theorem read_turn {c : List Value} {x : DataW H × List MemPlace} (h : DataW.trod enc Tryz.prog W base spare held fuel 48 c = some x) : ∃ t : Tn, c = tnL t ∧ CmFit t.m := by
  obtain ⟨xs, n, _, _, hc, hl, hf⟩ := DataW.trod_struct Tryz.underlying48 h
  rw [cells_turn] at hc
  match c, hc with
  | [c0, c1, c2, c3, c4, c5, c6, c7, c8, c9, c10, c11, c12, c13, c14, c15, c16], _ =>
    match xs, hl with
    | [x0, x1], _ =>
      have h0 := hf 0 _ rfl
      have h1 := hf 1 _ rfl
      simp [cells_bool17, cells_cmd] at h0 h1
      obtain ⟨st, e0, _⟩ := DataW.trod_bool Tryz.underlying4 h0
      obtain ⟨m, e1, hm⟩ := read_cmdF h1
      obtain ⟨k, s, i, g, ⟨es, ei, eg, mk, x, y, vx, vy, hp, pw, lf⟩, mask⟩ := m
      simp [cmC, bunL] at e0 e1
      obtain ⟨f0, f1, f2, f3, f4, f5, f6, f7, f8, f9, f10, f11, f12, f13, f14, f15⟩ := e1
      subst e0 f0 f1 f2 f3 f4 f5 f6 f7 f8 f9 f10 f11 f12 f13 f14 f15
      exact ⟨⟨st, ⟨k, s, i, g, ⟨es, ei, eg, mk, x, y, vx, vy, hp, pw, lf⟩, mask⟩⟩, rfl, hm⟩
end
set_option maxRecDepth 100000 in
theorem turns_in {H : Type} {enc : TypeId × Value → H} {W : World} {base b0 : Nat} {spare : Nat → Bool} {held : Bool} {r : Reach} {v : Value} {d : DataW H} {p : List MemPlace} (hv : Value.okWide Tryz.prog W r b0 24 v) (h : DataW.Trod enc Tryz.prog W base spare held 24 v d p) : ∃ zs, RIn tnL W v zs ∧ ∀ t ∈ zs, CmFit t.m := by
  obtain ⟨a, len, cap, rfl⟩ := Go.WideShapes.okWide_slice Tryz.underlying24 hv
  obtain ⟨fuel, hf⟩ := h
  have hf' : DataW.trod enc Tryz.prog W base spare held fuel 24 [.slice a len cap] = some (d, p) := by simpa [Value.cells] using hf
  obtain ⟨p', cap', l, e, hr, hg⟩ := slice_cells (en := tnL) (size := 17) (Good := fun t => CmFit t.m) tnL_len (by omega) Tryz.underlying24 cells_turn (fun ht => read_turn ht) hf'
  simp only [List.cons.injEq, and_true] at e
  rw [e]
  exact ⟨l, hr, hg⟩
theorem few17_any (pt : Option Addr) (ct : Nat) (zs : List Tn) (w : World) (h : RIn tnL w (.slice pt zs.length ct) zs) : Calls Tryz.prog 18 #[.slice pt zs.length ct] w fun e w' => e = .returned (.slice pt (zs.take 60).length ct) ∧ Below w.heap.size w w' := by
  obtain ⟨p, cap, he, h1, h2, h3, h4⟩ := h
  simp only [Value.slice.injEq, true_and] at he
  obtain ⟨rfl, rfl⟩ := he
  clear h4
  by_cases hn : (zs.length : Int) > 60
  · have e : (zs.take 60).length = 60 := by rw [List.length_take]; omega
    rw [e]
    go_enter Tryz.func18, Tryz.ntmps18
    go_wp2_with fail
    go_ret
    exact ⟨rfl, (by repeat' (first | (with_reducible exact Below.refl _ _) | (with_reducible assumption) | (with_reducible refine below_drewN ?_ _) | (with_reducible refine below_more _ _ _ ?_ ?_) | (with_reducible refine Below.alloc ?_ ?_ _) | (with_reducible refine Below.drew ?_) | (with_reducible refine Below.setCell ?_ ?_ _) | go_size))⟩
  · have e : zs.take 60 = zs := List.take_of_length_le (by omega)
    rw [e]
    go_enter Tryz.func18, Tryz.ntmps18
    go_wp2_with fail
    go_ret
    exact ⟨rfl, (by repeat' (first | (with_reducible exact Below.refl _ _) | (with_reducible assumption) | (with_reducible refine below_drewN ?_ _) | (with_reducible refine below_more _ _ _ ?_ ?_) | (with_reducible refine Below.alloc ?_ ?_ _) | (with_reducible refine Below.drew ?_) | (with_reducible refine Below.setCell ?_ ?_ _) | go_size))⟩
def turnW (c : Cfg) (s : Wo × List Cm) (t : Tn) : Wo × List Cm :=
  if t.st = true then ((stepW c s.1).2, s.2) else ((callW c s.1 t.m).2, if (callW c s.1 t.m).1.2 = 0 then s.2 ++ [(callW c s.1 t.m).1.1] else s.2)
def playW (c : Cfg) (ts : List Tn) : Wo × List Cm := ts.foldl (turnW c) (newW c, [])
theorem playW_snoc (c : Cfg) {ts : List Tn} {j : Nat} {t : Tn} (h : ts[j]? = some t) : playW c (ts.take (j + 1)) = turnW c (playW c (ts.take j)) t := by
  have hlt := (List.getElem?_eq_some_iff.1 h).1
  unfold playW
  rw [List.take_succ_eq_append_getElem hlt, (List.getElem?_eq_some_iff.1 h).2, List.foldl_append]; rfl
theorem turn_inv {c : Cfg} (ho : CfgOk c) {n : Nat} (hn : n ≤ 400) {s : Wo × List Cm} (h : WInv c n s.1) (t : Tn) : WInv c (n + 1) (turnW c s t).1 ∧ (turnW c s t).2.length ≤ s.2.length + 1 := by
  unfold turnW
  split
  · exact ⟨(step_inv ho h (by omega)).1, Nat.le_succ _⟩
  · refine ⟨(call_inv h t.m).inv, ?_⟩
    simp only
    split
    · simp
    · exact Nat.le_succ _
theorem play_inv {c : Cfg} (ho : CfgOk c) (ts : List Tn) (hl : ts.length ≤ 60) : ∀ j, j ≤ ts.length → WInv c j (playW c (ts.take j)).1 ∧ (playW c (ts.take j)).2.length ≤ j := by
  intro j
  induction j with
  | zero => intro _; rw [List.take_zero]; exact ⟨new_inv ho, Nat.le_refl _⟩
  | succ j ih =>
    intro hj
    obtain ⟨h1, h2⟩ := ih (by omega)
    rw [playW_snoc c (List.getElem?_eq_getElem (show j < ts.length by omega))]
    obtain ⟨g1, g2⟩ := turn_inv ho (by omega) h1 ts[j]
    exact ⟨g1, by omega⟩
theorem cells_snoc17 (l : List Cm) (m : Cm) : cellsR cmC l ++ cmC m = cellsR cmC (l ++ [m]) := by
  rw [cellsR_app]; congr 1
attribute [local go_sem ↓] loadVar_ldM storeVar_stM
set_option maxRecDepth 100000 in
set_option maxHeartbeats 8000000 in
theorem made17_any (cols rows side radius speed ids queue : Int) (v : Value) (zs : List Tn) (w : World) (hz : RIn tnL w v zs) :
    Calls Tryz.prog 10 #[.agg #[.int .i64 cols, .int .i64 rows, .int .i64 side, .int .i64 radius, .int .i64 speed, .int .i64 ids, .int .i64 queue], v] w fun e w' => ∃ p pi ci, e = .returned (.tuple #[.pointer (some ⟨p, 0, none⟩), .slice pi (playW (mayF ⟨cols, rows, side, radius, speed, ids, queue⟩) (zs.take 60)).2.length ci]) ∧
      Own w w' ((worldO p (mayF ⟨cols, rows, side, radius, speed, ids, queue⟩) (playW (mayF ⟨cols, rows, side, radius, speed, ids, queue⟩) (zs.take 60)).1).and ((slO 34 16 (.slice pi (playW (mayF ⟨cols, rows, side, radius, speed, ids, queue⟩) (zs.take 60)).2.length ci) (playW (mayF ⟨cols, rows, side, radius, speed, ids, queue⟩) (zs.take 60)).2.length (cellsR cmC (playW (mayF ⟨cols, rows, side, radius, speed, ids, queue⟩) (zs.take 60)).2)).and .nil)) := by
  have HMAY := Lib.hid (fun W => may_any cols rows side radius speed ids queue W)
  have ho := mayF_ok ⟨cols, rows, side, radius, speed, ids, queue⟩
  obtain ⟨pt, ct, rfl⟩ : ∃ pt ct, v = .slice pt zs.length ct := by obtain ⟨pt, ct, h, _⟩ := hz; exact ⟨pt, ct, h⟩
  have HFW := Lib.hid (fun W (hW : Below w.heap.size w W) => few17_any pt ct zs W (hz.keep hW))
  have HIN := Lib.hid (rin_cut 60 hz)
  generalize mayF ⟨cols, rows, side, radius, speed, ids, queue⟩ = cm at *
  have HNW : Hid (∀ W, Calls Tryz.prog 17 #[.agg #[.int .i64 cm.cols, .int .i64 cm.rows, .int .i64 cm.side, .int .i64 cm.radius, .int .i64 cm.speed, .int .i64 cm.ids, .int .i64 cm.queue]] W fun e w' => ∃ p, e = .returned (.tuple #[.pointer (some ⟨p, 0, none⟩), .int .i64 0]) ∧ Made W w' (worldO p cm (newW cm))) := Lib.hid (fun W => wnew_ok _ _ _ _ _ _ _ W ho)
  have HO := Lib.hid ho
  have hts : (zs.take 60).length ≤ 60 := by rw [List.length_take]; omega
  have HPI := Lib.hid (play_inv ho (zs.take 60) hts)
  obtain ⟨i0, hi0, hz0, hz1, hz2⟩ := info_partsG info_cm
  clear ho hz
  generalize zs.take 60 = ts at *
  have hp0 : playW cm (ts.take 0) = (newW cm, []) := by rw [List.take_zero]; rfl
  have HSN := Lib.hid (fun j t (ht : ts[j]? = some t) => playW_snoc cm ht)
  go_enter Tryz.func10, Tryz.ntmps10
  go_wp2_with (go_at_call 13; refine (HMAY.out _).mono ?_; rintro e w' ⟨rfl, hb⟩; obtain ⟨d, os, rfl⟩ := more_of hb; clear hb)
  generalize hw1 : more _ _ _ = W1
  have hb1 : Below w.heap.size w W1 := by rw [← hw1]; exact (by repeat' (first | (with_reducible exact Below.refl _ _) | (with_reducible assumption) | (with_reducible refine below_drewN ?_ _) | (with_reducible refine below_more _ _ _ ?_ ?_) | (with_reducible refine Below.alloc ?_ ?_ _) | (with_reducible refine Below.drew ?_) | (with_reducible refine Below.setCell ?_ ?_ _) | go_size))
  clear hw1
  refine (HNW.out _).mono ?_
  rintro e W2 ⟨p, rfl, hm⟩
  have H2 := Lib.hid (((Own.nil w).grow hb1).made hm)
  clear hm hb1 HNW HMAY
  go_wp2_with fail
  refine (HFW.out _ H2.out.below).mono ?_
  rintro e W3 ⟨rfl, hb3⟩
  have hnil : Made W3 W3 (slO 34 16 (.slice none 0 0) ([] : List Cm).length (cellsR cmC [])) := made_sl ⟨rfl, .inl ⟨rfl, rfl⟩⟩ (Below.refl _ _) (fun g hg => by cases hg)
  have H3 : Hid (Own w W3 ((worldO p cm (playW cm (ts.take 0)).1).and ((slO 34 16 (.slice none 0 0) (playW cm (ts.take 0)).2.length (cellsR cmC (playW cm (ts.take 0)).2)).and .nil))) := Lib.hid (by rw [hp0]; exact ((H2.out.grow hb3).made hnil).swap)
  clear hb3 hnil HFW H2 hp0
  go_wp2_with fail
  go_loopw [8, 9] (fun s8 x wr => ∃ (j : Nat) (sv : Value), x = .int .i64 j ∧ s8 = sv ∧ j ≤ ts.length ∧ Hid (Own w wr ((worldO p cm (playW cm (ts.take j)).1).and ((slO 34 16 sv (playW cm (ts.take j)).2.length (cellsR cmC (playW cm (ts.take j)).2)).and .nil)))) (fun _ x _ => ts.length - (intOf x).toNat)
  case atStart => exact ⟨0, _, rfl, rfl, Nat.zero_le _, H3⟩
  case round =>
    clear H3
    obtain ⟨j, sv, rfl, rfl, hj, hh⟩ := hrel
    obtain ⟨wo, rfl⟩ : ∃ wo : World, wo = wr := ⟨_, rfl⟩
    have hI : 0 ≤ (j : Int) := Int.natCast_nonneg j
    obtain ⟨hinv, hlen⟩ := HPI.out j hj
    by_cases hlt : j < ts.length
    · have t1 : (j : Int) < (ts.length : Int) := by omega
      obtain ⟨t, ht⟩ : ∃ t, ts[j]? = some t := ⟨_, List.getElem?_eq_getElem hlt⟩
      have hsn := HSN.out j t ht
      obtain ⟨blk, off, cap', hve, hb, hcx⟩ := (HIN.out.keep hh.out.below).cells tnL_len ht
      simp only [Value.slice.injEq, true_and] at hve
      obtain ⟨rfl, rfl⟩ := hve
      generalize playW cm (ts.take j) = s at *
      obtain ⟨X, li⟩ := s
      obtain ⟨st, ⟨k, s, i, g, ⟨es, ei, eg, m, x, y, vx, vy, hp, pw, lf⟩, mask⟩⟩ := t
      have c0 : wo.cell? ⟨blk, off + j * 17, none⟩ = some (.bool st) := hcx 0 _ rfl
      simp only at hh hinv hlen
      obtain ⟨z0, z1, z2⟩ := ltz hb
      cases st with
      | true =>
        have HE := Lib.hid (show playW cm (ts.take (j + 1)) = ((stepW cm X).2, li) from by rw [hsn]; rfl)
        have HST := Lib.hid (wstep_i hh.out HO.out hinv (by omega))
        clear hcx hsn hinv
        go_wp2_with fail
        refine HST.out.mono ?_
        rintro e w6 ⟨v6, rfl, h6⟩
        obtain ⟨p6, c6, rfl⟩ := sl_frm h6.swap.sl.1
        have H6 := Lib.hid h6.drop
        clear h6 hh HST
        go_wp2_with fail
        go_roundw
        case rel => exact ⟨j + 1, _, by go_num, rfl, hlt, Lib.hid (by rw [HE.out]; exact H6.out)⟩
        case measure => simp [intOf]; omega
      | false =>
        have HE := Lib.hid (show playW cm (ts.take (j + 1)) = ((callW cm X ⟨k, s, i, g, ⟨es, ei, eg, m, x, y, vx, vy, hp, pw, lf⟩, mask⟩).2, if (callW cm X ⟨k, s, i, g, ⟨es, ei, eg, m, x, y, vx, vy, hp, pw, lf⟩, mask⟩).1.2 = 0 then li ++ [(callW cm X ⟨k, s, i, g, ⟨es, ei, eg, m, x, y, vx, vy, hp, pw, lf⟩, mask⟩).1.1] else li) from by rw [hsn]; rfl)
        have HCL := Lib.hid (wcall_o hh.out HO.out ⟨k, s, i, g, ⟨es, ei, eg, m, x, y, vx, vy, hp, pw, lf⟩, mask⟩)
        have hL1 : (ldM ⟨blk, off + j * 17 + 1, none⟩).run Tryz.prog wo = .ok (.agg #[.int .i64 k, .int .i64 s, .int .i64 i, .int .i64 g, .int .i64 es, .int .i64 ei, .int .i64 eg, .int .i64 m, .int .i64 x, .int .i64 y, .int .i64 vx, .int .i64 vy, .int .i64 hp, .int .i64 pw, .int .i64 lf, .int .i64 mask]) wo := ldM_of ⟨k, s, i, g, ⟨es, ei, eg, m, x, y, vx, vy, hp, pw, lf⟩, mask⟩ fun q u hq => by
          rw [Nat.add_assoc (off + j * 17)]
          exact hcx (1 + q) u (by rw [Nat.add_comm 1 q]; exact hq)
        generalize callW cm X ⟨k, s, i, g, ⟨es, ei, eg, m, x, y, vx, vy, hp, pw, lf⟩, mask⟩ = cr at *
        obtain ⟨⟨⟨uk, us, ui, ug, ⟨ues, uei, ueg, um, ux, uy, uvx, uvy, uhp, upw, ulf⟩, umask⟩, er⟩, X2⟩ := cr
        simp only at HE
        have HCL2 : Hid (Calls Tryz.prog 19 #[.pointer (some ⟨p, 0, none⟩), .agg #[.int .i64 k, .int .i64 s, .int .i64 i, .int .i64 g, .int .i64 es, .int .i64 ei, .int .i64 eg, .int .i64 m, .int .i64 x, .int .i64 y, .int .i64 vx, .int .i64 vy, .int .i64 hp, .int .i64 pw, .int .i64 lf, .int .i64 mask]] wo fun e w' => e = .returned (.tuple #[.agg #[.int .i64 uk, .int .i64 us, .int .i64 ui, .int .i64 ug, .int .i64 ues, .int .i64 uei, .int .i64 ueg, .int .i64 um, .int .i64 ux, .int .i64 uy, .int .i64 uvx, .int .i64 uvy, .int .i64 uhp, .int .i64 upw, .int .i64 ulf, .int .i64 umask], .int .i64 er]) ∧ Own w w' ((worldO p cm X2).and ((slO 34 16 u8 li.length (cellsR cmC li)).and .nil))) := Lib.hid HCL.out
        clear hcx hsn hinv HCL
        go_wp2_with fail
        refine HCL2.out.mono ?_
        rintro e V1 ⟨rfl, h1⟩
        obtain ⟨w3, hs3, hm3⟩ := new_cmO V1 ⟨uk, us, ui, ug, ⟨ues, uei, ueg, um, ux, uy, uvx, uvy, uhp, upw, ulf⟩, umask⟩
        have H3 := Lib.hid ((h1.made hm3).swap)
        have hs3' : (stM ⟨V1.heap.size, 0, none⟩ (.agg #[.int .i64 uk, .int .i64 us, .int .i64 ui, .int .i64 ug, .int .i64 ues, .int .i64 uei, .int .i64 ueg, .int .i64 um, .int .i64 ux, .int .i64 uy, .int .i64 uvx, .int .i64 uvy, .int .i64 uhp, .int .i64 upw, .int .i64 ulf, .int .i64 umask])).run Tryz.prog (V1.alloc (.cells #[.int .i64 0, .int .i64 0, .int .i64 0, .int .i64 0, .int .i64 0, .int .i64 0, .int .i64 0, .int .i64 0, .int .i64 0, .int .i64 0, .int .i64 0, .int .i64 0, .int .i64 0, .int .i64 0, .int .i64 0, .int .i64 0] 34)) = .ok () w3 := hs3
        have hb7 := H3.out.swap.box.1
        have hL3 : (ldM ⟨V1.heap.size, 0, none⟩).run Tryz.prog w3 = .ok (.agg #[.int .i64 uk, .int .i64 us, .int .i64 ui, .int .i64 ug, .int .i64 ues, .int .i64 uei, .int .i64 ueg, .int .i64 um, .int .i64 ux, .int .i64 uy, .int .i64 uvx, .int .i64 uvy, .int .i64 uhp, .int .i64 upw, .int .i64 ulf, .int .i64 umask]) w3 := ldM_of ⟨uk, us, ui, ug, ⟨ues, uei, ueg, um, ux, uy, uvx, uvy, uhp, upw, ulf⟩, umask⟩ fun j v hj => by rw [Nat.zero_add, hb7, List.getElem?_toArray]; exact hj
        clear hm3 hs3 h1 hb7 hL1 hh HCL2 c0 z0 z1 z2 hb
        by_cases her : er = 0
        · subst her
          rw [if_pos rfl] at HE
          have HSI := Lib.hid H3.out.third
          go_wp2_with (at_builtin; refine wpList_append_sl _ (by rfl) _ _ 26 (by rfl) 34 i0 _ 16 128 Tryz.underlying26 hi0 hz0 hz1 hz2 rfl (by omega) _ li.length (cellsR cmC li) (by rfl) (HSI.out.grow (by repeat' (first | (with_reducible exact Below.refl _ _) | (with_reducible assumption) | (with_reducible refine below_drewN ?_ _) | (with_reducible refine below_more _ _ _ ?_ ?_) | (with_reducible refine Below.alloc ?_ ?_ _) | (with_reducible refine Below.drew ?_) | (with_reducible refine Below.setCell ?_ ?_ _) | go_size))).sl.1 ⟨_, 0, none⟩ 1 1 (cmC ⟨uk, us, ui, ug, ⟨ues, uei, ueg, um, ux, uy, uvx, uvy, uhp, upw, ulf⟩, umask⟩) (by rfl) (by rfl) (new_cellsN _ _ _ _ (by simp)) (cmC_one _) (by omega) (by unfold maxLen; omega) (by omega) ?_; intro v' w1 hs1 ht ho)
          rw [cells_snoc17, show li.length + 1 = (li ++ [(⟨uk, us, ui, ug, ⟨ues, uei, ueg, um, ux, uy, uvx, uvy, uhp, upw, ulf⟩, umask⟩ : Cm)]).length from by simp] at hs1
          have H8 := Lib.hid (((HSI.out.grow (by repeat' (first | (with_reducible exact Below.refl _ _) | (with_reducible assumption) | (with_reducible refine below_drewN ?_ _) | (with_reducible refine below_more _ _ _ ?_ ?_) | (with_reducible refine Below.alloc ?_ ?_ _) | (with_reducible refine Below.drew ?_) | (with_reducible refine Below.setCell ?_ ?_ _) | go_size))).app hs1 ht ho).swap.drop3)
          clear hs1 ht ho HSI H3
          go_wp2_with fail
          go_roundw
          case rel => exact ⟨j + 1, _, by go_num, rfl, hlt, Lib.hid (by rw [HE.out]; exact H8.out)⟩
          case measure => simp [intOf]; omega
        · have her' : (er == 0) = false := by simpa using her
          rw [if_neg her] at HE
          clear hL3
          go_wp2_with fail
          go_roundw
          case rel => exact ⟨j + 1, _, by go_num, rfl, hlt, Lib.hid (by rw [HE.out]; exact H3.out.drop.grow (by repeat' (first | (with_reducible exact Below.refl _ _) | (with_reducible assumption) | (with_reducible refine below_drewN ?_ _) | (with_reducible refine below_more _ _ _ ?_ ?_) | (with_reducible refine Below.alloc ?_ ?_ _) | (with_reducible refine Below.drew ?_) | (with_reducible refine Below.setCell ?_ ?_ _) | go_size)))⟩
          case measure => simp [intOf]; omega
    · obtain rfl : j = ts.length := by omega
      rw [List.take_length] at hh
      obtain ⟨pi, ci, rfl⟩ := sl_frm hh.out.swap.sl.1
      go_wp2_with fail
      go_ret2
      exact ⟨_, _, _, rfl, hh.out⟩
end Go.Proofs.YtoimjjhopljdmaaGreat
