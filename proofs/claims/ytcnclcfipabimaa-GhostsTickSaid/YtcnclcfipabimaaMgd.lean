/-
  Chapter 22: the document's examples (awake). No condition.
  Chapter 22: the document's examples hold (awake). No condition.
-/
import Derived.Test.YtcnclcfipabimaaMgc
namespace Go.Proofs.Ytcnclcfipabimaa
open Go.RowKit

theorem aw22_cfg : CfgOk (⟨2, 1, 256, 20, 0, 1, 1⟩ : Cfg) := by constructor <;> decide
theorem aw22_flt : [(⟨0, 0, 0, 1, 240, 0, 0, 0, 0, 0, 0⟩ : Bun), (⟨0, 1, 0, 1, 200, 0, 0, 0, 0, 0, 0⟩ : Bun)].filter (forB (⟨2, 1, 256, 20, 0, 1, 1⟩ : Cfg) 1) = [(⟨0, 0, 0, 1, 240, 0, 0, 0, 0, 0, 0⟩ : Bun)] := by kernel_rfl
theorem aw22_one : stableF cmpBun [(⟨0, 0, 0, 1, 240, 0, 0, 0, 0, 0, 0⟩ : Bun)] = [(⟨0, 0, 0, 1, 240, 0, 0, 0, 0, 0, 0⟩ : Bun)] := by kernel_rfl
theorem aw22_for : forF (⟨2, 1, 256, 20, 0, 1, 1⟩ : Cfg) 1 [(⟨0, 0, 0, 1, 240, 0, 0, 0, 0, 0, 0⟩ : Bun), (⟨0, 1, 0, 1, 200, 0, 0, 0, 0, 0, 0⟩ : Bun)] = [(⟨0, 0, 0, 1, 240, 0, 0, 0, 0, 0, 0⟩ : Bun)] := by
  unfold forF
  rw [← stableF_filter, aw22_flt, aw22_one]
theorem aw22_bes : besideF (⟨2, 1, 256, 20, 0, 1, 1⟩ : Cfg) 0 = [1] := by kernel_rfl
theorem aw22_near (p : Option Addr) (n c : Nat) : nearG [(⟨1, 3, p, n, c⟩ : Gh)] 3 (fun _ => [(⟨0, 0, 0, 1, 240, 0, 0, 0, 0, 0, 0⟩ : Bun)]) = [(⟨0, 0, 0, 1, 240, 0, 0, 0, 0, 0, 0⟩ : Bun)] := by kernel_rfl
theorem aw22_m0 : missF [1] [] 3 = [1] := by kernel_rfl
theorem aw22_m1 (p : Option Addr) (n c : Nat) : missF [1] [(⟨1, 3, p, n, c⟩ : Gh)] 3 = [] := by kernel_rfl
theorem rin_none {β : Type} {enc : β → List Value} (w : World) : RIn enc w (.slice Option.none 0 0) ([] : List β) := ⟨Option.none, 0, rfl, by simp [maxLen], fun _ => rfl, Nat.le_refl _, fun h => absurd rfl h⟩
/-- Entities in a box that the call has made. -/
theorem bin_box (W : World) (arr : Array Value) (l : List Bun) (n : Nat) (h : arr.toList = bunCells l) (hn : n = W.heap.size) (hl : l.length ≤ 1000) (k : Nat) (hk : k = l.length) (c : Nat) (hc : k ≤ c) : BIn (W.alloc (.cells arr 41)) (.slice (some ⟨n, 0, none⟩) k c) l := by
  subst hn
  subst hk
  refine ⟨_, c, rfl, by unfold maxLen; omega, (fun h => by cases h), hc, fun _ => ⟨W.heap.size, 0, rfl, by simp, fun t u hu => ?_⟩⟩
  rw [alloc_cells _ _ _ _ _ rfl, Nat.zero_add, ← Array.getElem?_toList, h]
  exact hu


theorem aw22_two (w1 : World) : BIn (((w1.alloc (.cells #[.int .i64 0, .int .i64 0, .int .i64 0, .int .i64 1, .int .i64 240, .int .i64 0, .int .i64 0, .int .i64 0, .int .i64 0, .int .i64 0, .int .i64 0] 41)).alloc (.cells #[.int .i64 0, .int .i64 1, .int .i64 0, .int .i64 1, .int .i64 200, .int .i64 0, .int .i64 0, .int .i64 0, .int .i64 0, .int .i64 0, .int .i64 0] 41)).alloc (.cells #[.int .i64 0, .int .i64 0, .int .i64 0, .int .i64 1, .int .i64 240, .int .i64 0, .int .i64 0, .int .i64 0, .int .i64 0, .int .i64 0, .int .i64 0, .int .i64 0, .int .i64 1, .int .i64 0, .int .i64 1, .int .i64 200, .int .i64 0, .int .i64 0, .int .i64 0, .int .i64 0, .int .i64 0, .int .i64 0] 41)) (.slice (some ⟨w1.heap.size + 1 + 1, 0, none⟩) 2 2) [(⟨0, 0, 0, 1, 240, 0, 0, 0, 0, 0, 0⟩ : Bun), (⟨0, 1, 0, 1, 200, 0, 0, 0, 0, 0, 0⟩ : Bun)] :=
  bin_box ((w1.alloc (.cells #[.int .i64 0, .int .i64 0, .int .i64 0, .int .i64 1, .int .i64 240, .int .i64 0, .int .i64 0, .int .i64 0, .int .i64 0, .int .i64 0, .int .i64 0] 41)).alloc (.cells #[.int .i64 0, .int .i64 1, .int .i64 0, .int .i64 1, .int .i64 200, .int .i64 0, .int .i64 0, .int .i64 0, .int .i64 0, .int .i64 0, .int .i64 0] 41)) #[.int .i64 0, .int .i64 0, .int .i64 0, .int .i64 1, .int .i64 240, .int .i64 0, .int .i64 0, .int .i64 0, .int .i64 0, .int .i64 0, .int .i64 0, .int .i64 0, .int .i64 1, .int .i64 0, .int .i64 1, .int .i64 200, .int .i64 0, .int .i64 0, .int .i64 0, .int .i64 0, .int .i64 0, .int .i64 0] [(⟨0, 0, 0, 1, 240, 0, 0, 0, 0, 0, 0⟩ : Bun), (⟨0, 1, 0, 1, 200, 0, 0, 0, 0, 0, 0⟩ : Bun)] _ rfl (by simp) (by simp) 2 rfl 2 (Nat.le_refl _)
theorem aw22_forcall (w1 : World) (b : Nat) (h : MapAt w1 b (⟨2, 1, 256, 20, 0, 1, 1⟩ : Cfg)) : Calls Try.prog 21 #[.pointer (some ⟨b, 0, none⟩), .int .i64 1, .slice (some ⟨w1.heap.size + 1 + 1, 0, none⟩) 2 2] (((w1.alloc (.cells #[.int .i64 0, .int .i64 0, .int .i64 0, .int .i64 1, .int .i64 240, .int .i64 0, .int .i64 0, .int .i64 0, .int .i64 0, .int .i64 0, .int .i64 0] 41)).alloc (.cells #[.int .i64 0, .int .i64 1, .int .i64 0, .int .i64 1, .int .i64 200, .int .i64 0, .int .i64 0, .int .i64 0, .int .i64 0, .int .i64 0, .int .i64 0] 41)).alloc (.cells #[.int .i64 0, .int .i64 0, .int .i64 0, .int .i64 1, .int .i64 240, .int .i64 0, .int .i64 0, .int .i64 0, .int .i64 0, .int .i64 0, .int .i64 0, .int .i64 0, .int .i64 1, .int .i64 0, .int .i64 1, .int .i64 200, .int .i64 0, .int .i64 0, .int .i64 0, .int .i64 0, .int .i64 0, .int .i64 0] 41)) fun e w' => ∃ v', e = .returned v' ∧ BNew (((w1.alloc (.cells #[.int .i64 0, .int .i64 0, .int .i64 0, .int .i64 1, .int .i64 240, .int .i64 0, .int .i64 0, .int .i64 0, .int .i64 0, .int .i64 0, .int .i64 0] 41)).alloc (.cells #[.int .i64 0, .int .i64 1, .int .i64 0, .int .i64 1, .int .i64 200, .int .i64 0, .int .i64 0, .int .i64 0, .int .i64 0, .int .i64 0, .int .i64 0] 41)).alloc (.cells #[.int .i64 0, .int .i64 0, .int .i64 0, .int .i64 1, .int .i64 240, .int .i64 0, .int .i64 0, .int .i64 0, .int .i64 0, .int .i64 0, .int .i64 0, .int .i64 0, .int .i64 1, .int .i64 0, .int .i64 1, .int .i64 200, .int .i64 0, .int .i64 0, .int .i64 0, .int .i64 0, .int .i64 0, .int .i64 0] 41)) w' v' [(⟨0, 0, 0, 1, 240, 0, 0, 0, 0, 0, 0⟩ : Bun)] := by
  have hb : Below w1.heap.size w1 (((w1.alloc (.cells #[.int .i64 0, .int .i64 0, .int .i64 0, .int .i64 1, .int .i64 240, .int .i64 0, .int .i64 0, .int .i64 0, .int .i64 0, .int .i64 0, .int .i64 0] 41)).alloc (.cells #[.int .i64 0, .int .i64 1, .int .i64 0, .int .i64 1, .int .i64 200, .int .i64 0, .int .i64 0, .int .i64 0, .int .i64 0, .int .i64 0, .int .i64 0] 41)).alloc (.cells #[.int .i64 0, .int .i64 0, .int .i64 0, .int .i64 1, .int .i64 240, .int .i64 0, .int .i64 0, .int .i64 0, .int .i64 0, .int .i64 0, .int .i64 0, .int .i64 0, .int .i64 1, .int .i64 0, .int .i64 1, .int .i64 200, .int .i64 0, .int .i64 0, .int .i64 0, .int .i64 0, .int .i64 0, .int .i64 0] 41)) := (by repeat' (first | (with_reducible exact Below.refl _ _) | (with_reducible assumption) | (with_reducible refine below_drewN ?_ _) | (with_reducible refine below_more _ _ _ ?_ ?_) | (with_reducible refine Below.alloc ?_ ?_ _) | (with_reducible refine Below.drew ?_) | (with_reducible refine Below.setCell ?_ ?_ _) | go_size))
  have h2 := aw22_two w1
  generalize (((w1.alloc (.cells #[.int .i64 0, .int .i64 0, .int .i64 0, .int .i64 1, .int .i64 240, .int .i64 0, .int .i64 0, .int .i64 0, .int .i64 0, .int .i64 0, .int .i64 0] 41)).alloc (.cells #[.int .i64 0, .int .i64 1, .int .i64 0, .int .i64 1, .int .i64 200, .int .i64 0, .int .i64 0, .int .i64 0, .int .i64 0, .int .i64 0, .int .i64 0] 41)).alloc (.cells #[.int .i64 0, .int .i64 0, .int .i64 0, .int .i64 1, .int .i64 240, .int .i64 0, .int .i64 0, .int .i64 0, .int .i64 0, .int .i64 0, .int .i64 0, .int .i64 0, .int .i64 1, .int .i64 0, .int .i64 1, .int .i64 200, .int .i64 0, .int .i64 0, .int .i64 0, .int .i64 0, .int .i64 0, .int .i64 0] 41)) = W2 at *
  have := for_in W2 b (⟨2, 1, 256, 20, 0, 1, 1⟩ : Cfg) 1 _ [(⟨0, 0, 0, 1, 240, 0, 0, 0, 0, 0, 0⟩ : Bun), (⟨0, 1, 0, 1, 200, 0, 0, 0, 0, 0, 0⟩ : Bun)] (h.grow hb) aw22_cfg (by decide) (by decide) h2 (by simp)
  rw [aw22_for] at this
  exact this

theorem aw22_beside (W : World) (b : Nat) (h : MapAt W b (⟨2, 1, 256, 20, 0, 1, 1⟩ : Cfg)) : ∀ W', Below W.heap.size W W' → Calls Try.prog 52 #[.pointer (some ⟨b, 0, none⟩), .int .i64 0] W' fun e w' => ∃ v', e = .returned v' ∧ RNew intL 3 1 W' w' v' [1] := fun W' h' => by
  have := beside_in W' b (⟨2, 1, 256, 20, 0, 1, 1⟩ : Cfg) 0 (h.grow h') aw22_cfg (by decide) (by decide)
  rw [aw22_bes] at this
  exact this


theorem aw22_miss (W : World) (b : Nat) (h : MapAt W b (⟨2, 1, 256, 20, 0, 1, 1⟩ : Cfg)) : Calls Try.prog 26 #[.pointer (some ⟨b, 0, none⟩), .int .i64 0, .agg #[.int .i64 0, .int .i64 3, .slice none 0 0, .slice none 0 0, .slice none 0 0, .slice none 0 0, .slice none 0 0, .int .i64 0]] W fun e w' => ∃ v', e = .returned v' ∧ RNew intL 3 1 W w' v' [1] := by
  have := missing_of (.pointer (some ⟨b, 0, none⟩)) 0 (⟨0, 3, none, 0, 0, none, 0, 0, none, 0, 0, none, 0, 0, none, 0, 0, 0⟩ : Sta) [] [1] W ⟨_, rfl⟩ (rin_none W) (aw22_beside W b h)
  rw [aw22_m0] at this
  exact this
theorem aw22_fold (W : World) (b g off c : Nat) (h : MapAt W b (⟨2, 1, 256, 20, 0, 1, 1⟩ : Cfg)) (hl : BIn W (.slice (some ⟨g, off, none⟩) 1 c) [(⟨0, 0, 0, 1, 240, 0, 0, 0, 0, 0, 0⟩ : Bun)]) :
    Calls Try.prog 30 #[.pointer (some ⟨b, 0, none⟩), .int .i64 0, .agg #[.int .i64 0, .int .i64 3, .slice none 0 0, .slice none 0 0, .slice none 0 0, .slice none 0 0, .slice none 0 0, .int .i64 0], .agg #[.int .i64 8, .int .i64 3, .int .i64 1, .slice none 0 0, .int .i64 0, .int .i64 0, .int .i64 0, .int .i64 0, .int .i64 0, .int .i64 0, .int .i64 0, .int .i64 0, .int .i64 0, .int .i64 0, .int .i64 0, .slice (some ⟨g, off, none⟩) 1 c, .int .i64 0, .int .i64 0, .slice none 0 0, .slice none 0 0, .slice none 0 0, .slice none 0 0, .slice none 0 0, .int .i64 0]] W fun e w' => ∃ p' n' c' p2 n2 c2, e = .returned (.tuple #[.agg #[.int .i64 0, .int .i64 3, .slice none 0 0, .slice none 0 0, .slice none 0 0, .slice none 0 0, .slice p' n' c', .int .i64 0], .int .i64 0]) ∧
      RNew ghL 64 3 W w' (.slice p' n' c') [⟨1, 3, p2, n2, c2⟩] ∧ BIn w' (.slice p2 n2 c2) [(⟨0, 0, 0, 1, 240, 0, 0, 0, 0, 0, 0⟩ : Bun)] :=
  fold_ok ⟨b, 0, none⟩ 0 (⟨0, 3, none, 0, 0, none, 0, 0, none, 0, 0, none, 0, 0, none, 0, 0, 0⟩ : Sta) (⟨8, 3, 1, none, 0, 0, (⟨0, 0, 0, 0, 0, 0, 0, 0, 0, 0, 0⟩ : Bun), some ⟨g, off, none⟩, 1, c, (⟨0, 0, none, 0, 0, none, 0, 0, none, 0, 0, none, 0, 0, none, 0, 0, 0⟩ : Sta)⟩ : Rcd) [] [(⟨0, 0, 0, 1, 240, 0, 0, 0, 0, 0, 0⟩ : Bun)] [1] W (rin_none W) (by simp) hl (by simp) rfl rfl (by rw [aw22_m0]; simp) (aw22_beside W b h)
theorem aw22_nearcall (W : World) (p' : Option Addr) (n' c' : Nat) (p2 : Option Addr) (n2 c2 : Nat) (hR : RIn ghL W (.slice p' n' c') [⟨1, 3, p2, n2, c2⟩]) (hB : BIn W (.slice p2 n2 c2) [(⟨0, 0, 0, 1, 240, 0, 0, 0, 0, 0, 0⟩ : Bun)]) :
    Calls Try.prog 28 #[.agg #[.int .i64 0, .int .i64 3, .slice none 0 0, .slice none 0 0, .slice none 0 0, .slice none 0 0, .slice p' n' c', .int .i64 0]] W fun e w' => ∃ v', e = .returned v' ∧ BNew W w' v' [(⟨0, 0, 0, 1, 240, 0, 0, 0, 0, 0, 0⟩ : Bun)] := by
  have := gnear_any (⟨0, 3, none, 0, 0, none, 0, 0, none, 0, 0, none, 0, 0, p', n', c', 0⟩ : Sta) [⟨1, 3, p2, n2, c2⟩] (fun _ => [(⟨0, 0, 0, 1, 240, 0, 0, 0, 0, 0, 0⟩ : Bun)]) W hR (fun g hg => by simp at hg; subst hg; exact ⟨hB, by simp⟩) (by simp)
  rw [aw22_near] at this
  exact this
theorem aw22_miss1 (W : World) (b : Nat) (h : MapAt W b (⟨2, 1, 256, 20, 0, 1, 1⟩ : Cfg)) (p' : Option Addr) (n' c' : Nat) (p2 : Option Addr) (n2 c2 : Nat) (hR : RIn ghL W (.slice p' n' c') [⟨1, 3, p2, n2, c2⟩]) :
    Calls Try.prog 26 #[.pointer (some ⟨b, 0, none⟩), .int .i64 0, .agg #[.int .i64 0, .int .i64 3, .slice none 0 0, .slice none 0 0, .slice none 0 0, .slice none 0 0, .slice p' n' c', .int .i64 0]] W fun e w' => ∃ v', e = .returned v' ∧ RNew intL 3 1 W w' v' [] := by
  have := missing_of (.pointer (some ⟨b, 0, none⟩)) 0 (⟨0, 3, none, 0, 0, none, 0, 0, none, 0, 0, none, 0, 0, p', n', c', 0⟩ : Sta) [⟨1, 3, p2, n2, c2⟩] [1] W ⟨_, rfl⟩ hR (aw22_beside W b h)
  rw [aw22_m1] at this
  exact this
theorem bnew_one {w w' : World} {v : Value} {x : Bun} (h : BNew w w' v [x]) : ∃ g off c, v = .slice (some ⟨g, off, none⟩) 1 c ∧ g < w'.heap.size ∧ ∀ j u, (bunL x)[j]? = some u → w'.cell? ⟨g, off + j, none⟩ = some u := by
  obtain ⟨g, off, c, rfl, lg, _⟩ := sl_some (n := 0) h.1
  refine ⟨g, off, c, rfl, lg, ?_⟩
  obtain ⟨gb, ob, cb, hv, hgb, hcb⟩ := h.bin.cells (k := 0) rfl
  simp only [Value.slice.injEq, Option.some.injEq, Addr.mk.injEq, and_true] at hv
  obtain ⟨⟨rfl, rfl⟩, _, rfl⟩ := hv
  simpa using hcb
end Go.Proofs.Ytcnclcfipabimaa
namespace Go.Proofs.Ytcnclcfipabimaa
open Go.RowKit

theorem rnew_one {w w' : World} {v : Value} {x : Int} (h : RNew intL 3 1 w w' v [x]) : ∃ g off c, v = .slice (some ⟨g, off, none⟩) 1 c ∧ g < w'.heap.size ∧ w'.cell? ⟨g, off, none⟩ = some (.int .i64 x) := by
  obtain ⟨g, off, c, rfl, lg, _⟩ := sl_some (n := 0) h.1
  refine ⟨g, off, c, rfl, lg, ?_⟩
  obtain ⟨gb, ob, cb, hv, hgb, hcb⟩ := h.rin.cells intL_len (k := 0) rfl
  simp only [Value.slice.injEq, Option.some.injEq, Addr.mk.injEq, and_true] at hv
  obtain ⟨⟨rfl, rfl⟩, _, rfl⟩ := hv
  have := hcb 0 _ rfl
  simpa using this
set_option maxRecDepth 100000 in
set_option maxHeartbeats 2000000 in
theorem awake22 (w : World) : Calls Try.prog 23 #[] w fun e w' => e = .returned (.bool true) ∧ Below w.heap.size w w' := by
  go_enter Try.func23, Try.ntmps23
  go_wp2_with fail
  refine (znew_ok 2 1 256 20 0 1 1 w aw22_cfg).mono ?_
  rintro e w1 ⟨b, rfl, hb1, hmap, hbb⟩
  have HB1 := Lib.hid hb1
  have HMAP := Lib.hid hmap
  clear hb1 hmap hbb
  go_wp2_with fail
  refine (aw22_forcall w1 b HMAP.out).mono ?_
  rintro e w3 ⟨v1, rfl, hN1⟩
  have hb3 : Below w1.heap.size w1 w3 := Below.trans (b := ((w1.alloc _).alloc _).alloc _) (by repeat' (first | (with_reducible exact Below.refl _ _) | (with_reducible assumption) | (with_reducible refine below_drewN ?_ _) | (with_reducible refine below_more _ _ _ ?_ ?_) | (with_reducible refine Below.alloc ?_ ?_ _) | (with_reducible refine Below.drew ?_) | (with_reducible refine Below.setCell ?_ ?_ _) | go_size)) (hN1.2.1.mono (by simp; omega))
  have kA : ∀ j, w3.cell? ⟨w1.heap.size, j, none⟩ = (#[.int .i64 0, .int .i64 0, .int .i64 0, .int .i64 1, .int .i64 240, .int .i64 0, .int .i64 0, .int .i64 0, .int .i64 0, .int .i64 0, .int .i64 0] : Array Value)[j]? := fun j => (hN1.2.1.cell (p := ⟨w1.heap.size, j, none⟩) (by simp; omega)).trans (by simp [go_sem])
  have sA : w1.heap.size < w3.heap.size := by have := hN1.2.1.size; simp at this; omega
  have hl := hN1.bin
  obtain ⟨g, off, c, rfl, sg, kg⟩ := bnew_one hN1
  have HB3 := Lib.hid hb3
  have KA := Lib.hid kA
  have KG := Lib.hid kg
  have HL := Lib.hid hl
  have HM3 := Lib.hid (HMAP.out.grow hb3)
  clear hN1 hb3 kA kg hl HMAP
  go_wp2_with fail
  refine (aw22_miss _ b (HM3.out.grow (by repeat' (first | (with_reducible exact Below.refl _ _) | (with_reducible assumption) | (with_reducible refine below_drewN ?_ _) | (with_reducible refine below_more _ _ _ ?_ ?_) | (with_reducible refine Below.alloc ?_ ?_ _) | (with_reducible refine Below.drew ?_) | (with_reducible refine Below.setCell ?_ ?_ _) | go_size)))).mono ?_
  rintro e w4 ⟨v2, rfl, hN2⟩
  have b34 : Below w3.heap.size w3 w4 := Below.trans (b := w3.alloc _) (by repeat' (first | (with_reducible exact Below.refl _ _) | (with_reducible assumption) | (with_reducible refine below_drewN ?_ _) | (with_reducible refine below_more _ _ _ ?_ ?_) | (with_reducible refine Below.alloc ?_ ?_ _) | (with_reducible refine Below.drew ?_) | (with_reducible refine Below.setCell ?_ ?_ _) | go_size)) (hN2.2.1.mono (by simp))
  have ks : ∀ j, w4.cell? ⟨w3.heap.size, j, none⟩ = (#[.int .i64 0, .int .i64 3, .slice none 0 0, .slice none 0 0, .slice none 0 0, .slice none 0 0, .slice none 0 0, .int .i64 0] : Array Value)[j]? := fun j => (hN2.2.1.cell (p := ⟨w3.heap.size, j, none⟩) (by simp)).trans (by simp [go_sem])
  have ss : w3.heap.size < w4.heap.size := by have := hN2.2.1.size; simp at this; omega
  obtain ⟨g2, o2, c2, rfl, sk, k2⟩ := rnew_one hN2
  have HB4 := Lib.hid (HB3.out.trans (b34.mono HB3.out.size))
  have HM4 := Lib.hid (HM3.out.grow b34)
  have HL4 := Lib.hid (HL.out.keep b34)
  have KA4 := Lib.hid (fun j => (b34.cell (p := ⟨w1.heap.size, j, none⟩) sA).trans (KA.out j))
  have KG4 := Lib.hid (fun j u hu => (b34.cell (p := ⟨g, off + j, none⟩) sg).trans (KG.out j u hu))
  have KS4 := Lib.hid ks
  have K24 := Lib.hid k2
  have sA4 : w1.heap.size < w4.heap.size := by omega
  have sg4 : g < w4.heap.size := by omega
  have y0 := ks 0; simp at y0; have y1 := ks 1; simp at y1; have y2 := ks 2; simp at y2; have y3 := ks 3; simp at y3; have y4 := ks 4; simp at y4; have y5 := ks 5; simp at y5; have y6 := ks 6; simp at y6; have y7 := ks 7; simp at y7
  obtain ⟨z0, z1, z2⟩ := ltz ss
  clear hN2 b34 ks k2 HM3 HL KA KG HB3
  go_wp2_with fail
  refine (aw22_fold _ b g off c (HM4.out.grow (by repeat' (first | (with_reducible exact Below.refl _ _) | (with_reducible assumption) | (with_reducible refine below_drewN ?_ _) | (with_reducible refine below_more _ _ _ ?_ ?_) | (with_reducible refine Below.alloc ?_ ?_ _) | (with_reducible refine Below.drew ?_) | (with_reducible refine Below.setCell ?_ ?_ _) | go_size))) (HL4.out.keep (by repeat' (first | (with_reducible exact Below.refl _ _) | (with_reducible assumption) | (with_reducible refine below_drewN ?_ _) | (with_reducible refine below_more _ _ _ ?_ ?_) | (with_reducible refine Below.alloc ?_ ?_ _) | (with_reducible refine Below.drew ?_) | (with_reducible refine Below.setCell ?_ ?_ _) | go_size)))).mono ?_
  rintro e w5 ⟨p', n', c', p2, n2, c3, rfl, hR, hBI⟩
  have b45 := hR.2.1
  have HB5 := Lib.hid (HB4.out.trans (b45.mono HB4.out.size))
  have HM5 := Lib.hid (HM4.out.grow b45)
  have KA5 := Lib.hid (fun j => (b45.cell (p := ⟨w1.heap.size, j, none⟩) sA4).trans (KA4.out j))
  have KG5 := Lib.hid (fun j u hu => (b45.cell (p := ⟨g, off + j, none⟩) sg4).trans (KG4.out j u hu))
  have K25 := Lib.hid ((b45.cell (p := ⟨g2, o2, none⟩) sk).trans K24.out)
  have s5 := b45.size
  have sA5 : w1.heap.size < w5.heap.size := by omega
  have sg5 : g < w5.heap.size := by omega
  have sk5 : g2 < w5.heap.size := by omega
  have HR5 := Lib.hid hR.rin
  have HI5 := Lib.hid hBI
  clear hR hBI b45 HM4 HL4 KA4 KG4 KS4 K24 HB4 y0 y1 y2 y3 y4 y5 y6 y7
  go_wp2_with fail
  refine (aw22_nearcall _ p' n' c' p2 n2 c3 (HR5.out.keep (by repeat' (first | (with_reducible exact Below.refl _ _) | (with_reducible assumption) | (with_reducible refine below_drewN ?_ _) | (with_reducible refine below_more _ _ _ ?_ ?_) | (with_reducible refine Below.alloc ?_ ?_ _) | (with_reducible refine Below.drew ?_) | (with_reducible refine Below.setCell ?_ ?_ _) | go_size))) (HI5.out.keep (by repeat' (first | (with_reducible exact Below.refl _ _) | (with_reducible assumption) | (with_reducible refine below_drewN ?_ _) | (with_reducible refine below_more _ _ _ ?_ ?_) | (with_reducible refine Below.alloc ?_ ?_ _) | (with_reducible refine Below.drew ?_) | (with_reducible refine Below.setCell ?_ ?_ _) | go_size)))).mono ?_
  rintro e w6 ⟨v5, rfl, hN5⟩
  have b56 : Below w5.heap.size w5 w6 := Below.trans (b := w5.alloc _) (by repeat' (first | (with_reducible exact Below.refl _ _) | (with_reducible assumption) | (with_reducible refine below_drewN ?_ _) | (with_reducible refine below_more _ _ _ ?_ ?_) | (with_reducible refine Below.alloc ?_ ?_ _) | (with_reducible refine Below.drew ?_) | (with_reducible refine Below.setCell ?_ ?_ _) | go_size)) (hN5.2.1.mono (by simp))
  have kt : ∀ j, w6.cell? ⟨w5.heap.size, j, none⟩ = (#[.int .i64 0, .int .i64 3, .slice none 0 0, .slice none 0 0, .slice none 0 0, .slice none 0 0, .slice p' n' c', .int .i64 0] : Array Value)[j]? := fun j => (hN5.2.1.cell (p := ⟨w5.heap.size, j, none⟩) (by simp)).trans (by simp [go_sem])
  have st : w5.heap.size < w6.heap.size := by have := hN5.2.1.size; simp at this; omega
  obtain ⟨g5, o5, c5, rfl, sn, kn⟩ := bnew_one hN5
  have HB6 := Lib.hid (HB5.out.trans (b56.mono HB5.out.size))
  have HM6 := Lib.hid (HM5.out.grow b56)
  have HR6 := Lib.hid (HR5.out.keep b56)
  have kA := fun j => (b56.cell (p := ⟨w1.heap.size, j, none⟩) sA5).trans (KA5.out j)
  have kg := fun j u hu => (b56.cell (p := ⟨g, off + j, none⟩) sg5).trans (KG5.out j u hu)
  have k2 := (b56.cell (p := ⟨g2, o2, none⟩) sk5).trans K25.out
  have sA6 : w1.heap.size < w6.heap.size := by omega
  have sg6 : g < w6.heap.size := by omega
  have sk6 : g2 < w6.heap.size := by omega
  have a0 := kA 0; simp at a0; have a1 := kA 1; simp at a1; have a2 := kA 2; simp at a2; have a3 := kA 3; simp at a3; have a4 := kA 4; simp at a4; have a5 := kA 5; simp at a5; have a6 := kA 6; simp at a6; have a7 := kA 7; simp at a7; have a8 := kA 8; simp at a8; have a9 := kA 9; simp at a9; have a10 := kA 10; simp at a10
  have l0 := kg 0 _ rfl; simp at l0; have l1 := kg 1 _ rfl; simp at l1; have l2 := kg 2 _ rfl; simp at l2; have l3 := kg 3 _ rfl; simp at l3; have l4 := kg 4 _ rfl; simp at l4; have l5 := kg 5 _ rfl; simp at l5; have l6 := kg 6 _ rfl; simp at l6; have l7 := kg 7 _ rfl; simp at l7; have l8 := kg 8 _ rfl; simp at l8; have l9 := kg 9 _ rfl; simp at l9; have l10 := kg 10 _ rfl; simp at l10
  have m0 := kn 0 _ rfl; simp at m0; have m1 := kn 1 _ rfl; simp at m1; have m2 := kn 2 _ rfl; simp at m2; have m3 := kn 3 _ rfl; simp at m3; have m4 := kn 4 _ rfl; simp at m4; have m5 := kn 5 _ rfl; simp at m5; have m6 := kn 6 _ rfl; simp at m6; have m7 := kn 7 _ rfl; simp at m7; have m8 := kn 8 _ rfl; simp at m8; have m9 := kn 9 _ rfl; simp at m9; have m10 := kn 10 _ rfl; simp at m10
  have y0 := kt 0; simp at y0; have y1 := kt 1; simp at y1; have y2 := kt 2; simp at y2; have y3 := kt 3; simp at y3; have y4 := kt 4; simp at y4; have y5 := kt 5; simp at y5; have y6 := kt 6; simp at y6; have y7 := kt 7; simp at y7
  clear hN5 b56 kt kA kg kn HM5 HR5 HI5 KA5 KG5 K25 HB5
  have HMI := Lib.hid (fun W (hW : Below w6.heap.size w6 W) => aw22_miss1 W b (HM6.out.grow hW) p' n' c' p2 n2 c3 (HR6.out.keep hW))
  clear HM6 HR6
  go_upto_region 10 with fail
  go_region_held3 (fun W => (w6).heap.size ≤ W.heap.size ∧ ∀ b o, b < (w6).heap.size → W.cell? ⟨b, o, none⟩ = (w6).cell? ⟨b, o, none⟩) (with_reducible (repeat (first | assumption | exact s_refl _ | exact s_id _ | refine s_more _ _ ?_ | refine s_alloc _ ?_ | refine s_drew ?_))) (first | (go_at_call 26; refine (HMI.out _ (by repeat' (first | (with_reducible exact Below.refl _ _) | (with_reducible assumption) | (with_reducible refine below_drewN ?_ _) | (with_reducible refine below_more _ _ _ ?_ ?_) | (with_reducible refine Below.alloc ?_ ?_ _) | (with_reducible refine Below.drew ?_) | (with_reducible refine Below.setCell ?_ ?_ _) | go_size))).mono ?_; rintro e w' ⟨v', rfl, hN⟩; obtain ⟨p9, c9, rfl⟩ := sl_frm hN.1; obtain ⟨d9, os9, rfl⟩ := more_of hN.2.1))
  all_goals
    go_wp2_with fail
    go_ret
  have hb6 := HB1.out.trans (HB6.out.mono HB1.out.size)
  exact ⟨rfl, hb6.trans (Below.mono (B := w6.heap.size) (by repeat' (first | (with_reducible exact Below.refl _ _) | (with_reducible assumption) | (with_reducible refine below_drewN ?_ _) | (with_reducible refine below_more _ _ _ ?_ ?_) | (with_reducible refine Below.alloc ?_ ?_ _) | (with_reducible refine Below.drew ?_) | (with_reducible refine Below.setCell ?_ ?_ _) | go_size)) hb6.size)⟩
end Go.Proofs.Ytcnclcfipabimaa
