/-
  Chapter texts QmEb: what the claim reaches of them. Conditions stand at each theorem.
-/
import Derived.RangeFuncNested
import Derived.RangeFuncBound
import Derived.RangeFuncCalls
import Derived.RangeFuncLeaves
import Derived.Shelf.Abstract
import Derived.Shelf.RegionOpen
import Derived.OwnWalkIn
import Derived.TacticsInMore
import Derived.LoopNIn
import Derived.LoopIn
import Derived.WalkKit
import Derived.Test.YtmkfjelpekkmmaaProg
import Derived.WalkSpells
import Derived.WalkLawsBesides
import Derived.Handy
import Derived.Lib.Hide
import Derived.Lib.QuietBelow
import Derived.BigQuiet
import Derived.Deep.RegionHeld3
import Derived.Deep.RegionWith
import Derived.Deep.DeepFit
import Derived.Deep.DeepCutAuto
import Derived.Deep.LoopGhost
import Derived.Deep.Light
import Derived.Deep.RegionLaw
import Derived.Deep.RegionLawGrows
import Derived.Shelf.SlSortCmp.KitK
import Derived.Sort.WalkB2
import Derived.Sort.WalkB12
import Derived.Sort.LotA
import Derived.Shelf.SlSortCmp.Insertion
import Derived.StillTailTactics
import Derived.Maps.AppendAt
import Derived.Lib.MinMax
import Derived.BigRegion
import Derived.Shelf.RegionOpenPlain
import Derived.Test.YtmkfjelpekkmmaaQ01
import Derived.Test.YtmkfjelpekkmmaaQ02
import Derived.Test.YtmkfjelpekkmmaaQ03
import Derived.Test.YtmkfjelpekkmmaaQ04
import Derived.Test.YtmkfjelpekkmmaaQ05
import Derived.Test.YtmkfjelpekkmmaaQ06
import Derived.Test.YtmkfjelpekkmmaaQ07
import Derived.Test.YtmkfjelpekkmmaaQ08
import Derived.Test.YtmkfjelpekkmmaaQ09
import Derived.Test.YtmkfjelpekkmmaaQ10
import Derived.Test.YtmkfjelpekkmmaaQ11
import Derived.Test.YtmkfjelpekkmmaaQ12
import Derived.Test.YtmkfjelpekkmmaaQ13
import Derived.Test.YtmkfjelpekkmmaaQ14
import Derived.Test.YtmkfjelpekkmmaaQ15
import Derived.Test.YtmkfjelpekkmmaaQ16
import Derived.Test.YtmkfjelpekkmmaaQ17
import Derived.Test.YtmkfjelpekkmmaaQ18
import Derived.Test.YtmkfjelpekkmmaaQ19
import Derived.Test.YtmkfjelpekkmmaaQ20
import Derived.Test.YtmkfjelpekkmmaaQ21
import Derived.Test.YtmkfjelpekkmmaaQ22
import Derived.Test.YtmkfjelpekkmmaaQ23
import Derived.Test.YtmkfjelpekkmmaaQ24
import Derived.Test.YtmkfjelpekkmmaaQ25
import Derived.Test.YtmkfjelpekkmmaaQ26
import Derived.Test.YtmkfjelpekkmmaaQ27
import Derived.Test.YtmkfjelpekkmmaaQ28
import Derived.Test.YtmkfjelpekkmmaaQ29
import Derived.Test.YtmkfjelpekkmmaaQ30
import Derived.Test.YtmkfjelpekkmmaaQ31
import Derived.Test.YtmkfjelpekkmmaaQ32
import Derived.Test.YtmkfjelpekkmmaaQ33
import Derived.Test.YtmkfjelpekkmmaaQ34
import Derived.Test.YtmkfjelpekkmmaaQ35
import Derived.Test.YtmkfjelpekkmmaaS04
import Derived.Test.YtmkfjelpekkmmaaS01
namespace Go.Proofs.Ytmkfjelpekkmmaa
open Go.RowKit Go.Shelf Go.Sort

structure EaW (W0 : World) (a : Nat → Prop) (p mb n : Nat) (C pre : List Bun) (fst : Prop) (W : World) (a' : Nat → Prop) (v : Value) : Prop where
  sto : (stoM p mb C).holds W a'
  sub : fst → ∀ x, a' x → a x
  dis : ∀ x, a' x → (a x ∨ W0.heap.size ≤ x) ∧ v.ownBlock ≠ some x
  box : Go.Boxed W n 29 v
  row : W.ownsRow n 51 11 v pre.length (cellsR bunL pre)
  size : W0.heap.size ≤ W.heap.size
  frm : ∀ x, x < n → ¬ a x → W.heap[x]? = W0.heap[x]?
def EaI (W0 : World) (a : Nat → Prop) (p mb n : Nat) (L pre : List Bun) (W : World) : Prop := ∃ a' v, EaW W0 a p mb n (if pre = [] then L else []) pre (pre = []) W a' v
variable {W0 : World} {a : Nat → Prop} {p mb n : Nat} {C pre : List Bun} {fst : Prop} {W W1 w1 wr : World} {a' : Nat → Prop} {v v' : Value}
theorem EaW.keep {W' : World} {row : Option Nat} (h : EaW W0 a p mb n C pre fst W a' v) (hmb : mb < W0.heap.size) (hn : n < W0.heap.size) (hg : W.grownBy W' row) (hr : ∀ r, row = some r → W0.heap.size ≤ r ∧ ∃ o : Obj, W.heap[r]? = some o ∧ o.isCells = false) : EaW W0 a p mb n C pre fst W' a' v where
  sto := (stoM p mb C).keep _ _ _ h.sto fun x hx => hg.block x ((stoM p mb C).lt _ _ h.sto x hx) fun e => by
    obtain ⟨h1, o, h2, h3⟩ := hr x e.symm
    obtain ⟨o', h4, h5⟩ := stoM_cells h.sto hx (by omega)
    rw [h4] at h2; cases h2; rw [h5] at h3; cases h3
  sub := h.sub
  dis := h.dis
  box := h.box.kept hg fun e => by have := (hr n e.symm).1; omega
  row := h.row.kept hg (by
    rcases h.row.2 with ⟨e, _⟩ | ⟨g, cap, cur, e, _, hgb, _⟩
    · exact .inl (by rw [e]; rfl)
    · refine .inr fun e' => ?_
      rw [e] at e'
      obtain ⟨_, o, ho, hc⟩ := hr g (by simpa [Value.ownBlock] using e'.symm)
      rw [hgb] at ho; cases ho; cases hc)
  size := Nat.le_trans h.size hg.size
  frm := fun x hx hna => (hg.block x (by have := h.size; omega) fun e => by have := (hr x e.symm).1; omega).trans (h.frm x hx hna)
theorem EaW.grow {W' : World} (h : EaW W0 a p mb n C pre fst W a' v) (hmb : mb < W0.heap.size) (hn : n < W0.heap.size) (hb : Below W.heap.size W W') : EaW W0 a p mb n C pre fst W' a' v := h.keep hmb hn (grown_of_below hb) fun r e => by cases e
theorem eaI_own (W0 : World) (a : Nat → Prop) (p mb n : Nat) (L : List Bun) (hmb : mb < W0.heap.size) (hn : n < W0.heap.size) : OwnFrom W0.heap.size (fun pre W => EaI W0 a p mb n L pre W) := fun pre X Y row hs hg hr => by
  obtain ⟨a', v, h⟩ := hs
  exact ⟨a', v, h.keep hmb hn hg hr⟩
theorem EaW.app {x : Bun} {tmp : Obj} (h : EaW W0 a p mb n C pre fst W a' v) (hla : ∀ x, a x → x < n) (hn : n < W0.heap.size) (hgrow : (W.alloc tmp).grownBy w1 v.ownBlock) (ho : v'.ownBlock = v.ownBlock ∨ v'.ownBlock = some (W.alloc tmp).heap.size)
    (h2 : Go.Boxed (w1.setCell ⟨n, 0, none⟩ v') n 29 v') (h3 : (w1.setCell ⟨n, 0, none⟩ v').ownsRow n 51 11 v' (pre ++ [x]).length (cellsR bunL (pre ++ [x]))) (h4 : Below n W (w1.setCell ⟨n, 0, none⟩ v')) : EaW W0 a p mb n C (pre ++ [x]) fst (w1.setCell ⟨n, 0, none⟩ v') a' v' where
  sto := (stoM p mb C).keep _ _ _ h.sto fun x hx => by
    have hlt := (stoM p mb C).lt _ _ h.sto x hx
    have hne : x ≠ n := by rcases (h.dis x hx).1 with e | e; exact Nat.ne_of_lt (hla x e); omega
    exact (Below.heap_setCell _ _ _ _ hne).trans ((hgrow.block x (by simp; omega) fun e => (h.dis x hx).2 e.symm).trans ((World.grownBy_alloc W tmp none).block x hlt (by simp)))
  sub := h.sub
  dis := fun x hx => ⟨(h.dis x hx).1, fun e => by
    have hlt := (stoM p mb C).lt _ _ h.sto x hx
    rcases ho with e2 | e2
    · exact (h.dis x hx).2 (e2.symm.trans e)
    · rw [e2] at e; simp at e; omega⟩
  box := h2
  row := h3
  size := Nat.le_trans h.size h4.size
  frm := fun x hx hna => (h4.block x hx).trans (h.frm x hx hna)
theorem EaW.gone {C2 : List Bun} (h : EaW W0 a p mb n C pre fst W1 a' v) (hla : ∀ x, a x → x < n) (hn : n < W0.heap.size) (hg : Gone a' W1 wr (stoM p mb C2)) : ∃ b, EaW W0 a p mb n C2 pre False wr b v := by
  obtain ⟨b, h1, h2, h3⟩ := hg
  have hown : ∀ g, v.ownBlock = some g → wr.heap[g]? = W1.heap[g]? ∧ g < W1.heap.size := fun g hg => by
    rcases h.row.2 with ⟨e, _⟩ | ⟨g', cap, cur, e, _, hgb, _⟩
    · rw [e] at hg; cases hg
    · rw [e] at hg
      obtain rfl : g' = g := by simpa [Value.ownBlock] using hg
      exact ⟨h2.block g' (lt_of_heap hgb) fun ha => (h.dis g' ha).2 (by rw [e]; rfl), lt_of_heap hgb⟩
  refine ⟨b, h1, fun e => e.elim, fun x hx => ⟨?_, fun e => ?_⟩, ?_, ?_, Nat.le_trans h.size h2.size, fun x hx hna => ?_⟩
  · rcases h3 x hx with e | e
    · exact (h.dis x e).1
    · exact .inr (Nat.le_trans h.size e)
  · rcases h3 x hx with e2 | e2
    · exact (h.dis x e2).2 e
    · have := (hown x e).2; omega
  · exact (h2.block n h.box.lt fun ha => by rcases (h.dis n ha).1 with e | e; exact absurd (hla n e) (by omega); omega).trans h.box
  · refine ⟨h.row.1, ?_⟩
    rcases h.row.2 with hn' | ⟨g, cap, cur, e, hb, hgb, rest⟩
    · exact .inl hn'
    · exact .inr ⟨g, cap, cur, e, hb, (hown g (by rw [e]; rfl)).1.trans hgb, rest⟩
  · have hs := h.size
    exact (h2.block x (by omega) fun ha => by rcases (h.dis x ha).1 with e | e; exact hna e; omega).trans (h.frm x hx hna)
theorem EaW.kp (h : EaW W0 a p mb n C pre fst W1 a' v) (hla : ∀ x, a x → x < n) (hmb : mb < W0.heap.size) (hn : n < W0.heap.size) (hc : Chg W1 wr a') (hf : fst ∨ Below W1.heap.size W1 wr) : KpE W0.heap.size n W1 wr ∧ KeepsFrom W0.heap.size W1 wr := by
  refine ⟨⟨hc.size, fun k o hk ho _ _ => ?_, fun k ⟨off, n', c', e⟩ => .inl ⟨off, n', c', ?_⟩⟩, ⟨hc.size, fun k o hk ho hno => ?_⟩⟩
  · rcases hf with hf | hf
    · exact (hc.block k (lt_of_heap ho) fun e => by have := hla k (h.sub hf k e); omega).trans ho
    · exact (hf.block k (lt_of_heap ho)).trans ho
  · rwa [World.cell?_of_block (w := W1) (a := ⟨n, 0, none⟩) (hc.block n h.box.lt fun ha => by rcases (h.dis n ha).1 with e | e; exact absurd (hla n e) (by omega); omega)] at e
  · refine (hc.block k (lt_of_heap ho) fun e => ?_).trans ho
    obtain ⟨o', h4, h5⟩ := stoM_cells h.sto e (by omega)
    rw [h4] at ho; cases ho; rw [h5] at hno; cases hno
theorem below_chg {B : Nat} {w W1 wr : World} {a' : Nat → Prop} (h : Below B w W1) (c : Chg W1 wr a') (hB : B ≤ W1.heap.size) (ha : ∀ x, a' x → B ≤ x) : Below B w wr :=
  ⟨c.os.trans h.os, c.tape.trans h.tape, c.output.trans h.output, Nat.le_trans h.size c.size, fun k hk => (c.block k (by omega) fun e => by have := ha k e; omega).trans (h.block k hk)⟩
theorem bin_block {W : World} {p : Option Addr} {k c : Nat} {l : List Bun} (h : BIn W (.slice p k c) l) (hn : l ≠ []) : ∀ g off, p = some ⟨g, off, none⟩ → g < W.heap.size := fun g off e => by
  obtain ⟨p', c', hv, h1, h2, h3, h4⟩ := h
  simp only [Value.slice.injEq] at hv
  obtain ⟨rfl, rfl, rfl⟩ := hv
  obtain ⟨blk, off', e2, h5, _⟩ := h4 hn
  rw [e] at e2; cases e2
  exact h5
theorem ea_step {L pre C : List Bun} {p mb t : Nat} {a' : Nat → Prop} {W1 wr : World} {b : Bun} (hC : C = if pre = [] then L else []) (hg : Good L) (hb : L[t]? = some b) (h : Gone a' W1 wr (stoM p mb (C.drop t)) ∧ (pre = [] ∨ Below W1.heap.size W1 wr)) (W : World) (hW : Below wr.heap.size wr W) :
    Calls Try.prog 36 #[.pointer (some ⟨p, 0, none⟩), .agg #[.int .i64 b.s, .int .i64 b.i, .int .i64 b.g]] W fun e w' => (∃ bo, e = .returned (.bool bo)) ∧ Gone a' W1 w' (stoM p mb (C.drop (t + 1))) ∧ (pre = [] ∨ Below W1.heap.size W1 w') := by
  obtain ⟨⟨c, h1, h2, h3⟩, h4⟩ := h
  have h1' := (stoM p mb (C.drop t)).keep _ _ _ h1 fun x hx => hW.block x ((stoM p mb (C.drop t)).lt _ _ h1 x hx)
  have e1 : remL (C.drop t) (idOf b) = C.drop (t + 1) := by
    rw [hC]
    split
    · exact remL_drop hg.1 hb
    · simp [remL]
  refine (mrem_any W p mb _ (idOf b) c h1' (nfit_of_check (hg.2 b (List.mem_of_getElem? hb)))).mono ?_
  rintro e w' ⟨rfl, h5, h6⟩
  rw [e1] at h5
  refine ⟨⟨_, rfl⟩, ?_, ?_⟩
  · obtain ⟨d, g1, g2, g3⟩ := h5
    have hs1 := h2.size
    have hs2 := hW.size
    exact ⟨d, g1, (h2.trans (Chg.of_below (F := a') hW) fun _ _ h => h).trans g2 fun x hx hc => (h3 x hc).elim id fun e => by omega, fun x hx => (g3 x hx).elim (h3 x) fun e => .inr (by omega)⟩
  · by_cases hp : pre = []
    · exact .inl hp
    · right
      rw [if_neg hp] at hC
      subst hC
      have hold := h4.resolve_left hp
      have hs1 := hold.size
      have hs2 := hW.size
      exact hold.trans ((hW.mono hs1).trans ((h6 (by simp)).mono (by omega)))
theorem bin_same {W W' : World} {p : Option Addr} {k c : Nat} {l : List Bun} (h : BIn W (.slice p k c) l) (hs : W.heap.size ≤ W'.heap.size) (hk : l ≠ [] → ∀ g off, p = some ⟨g, off, none⟩ → W'.heap[g]? = W.heap[g]?) : BIn W' (.slice p k c) l := by
  obtain ⟨p', c', hv, h1, h2, h3, h4⟩ := h
  simp only [Value.slice.injEq] at hv
  obtain ⟨rfl, rfl, rfl⟩ := hv
  refine ⟨_, _, rfl, h1, h2, h3, fun hn => ?_⟩
  obtain ⟨blk, off, rfl, h5, h6⟩ := h4 hn
  refine ⟨blk, off, rfl, by omega, fun t u hu => ?_⟩
  rw [World.cell?_of_block (w := W) (a := ⟨blk, off + t, none⟩) (hk hn blk off rfl)]
  exact h6 t u hu
end Go.Proofs.Ytmkfjelpekkmmaa
