/-
  Chapter texts QmI QmEa: what the claim reaches of them. Conditions stand at each theorem.
-/
import Derived.Test.YtmkfjelpekkmmaaProg
import Derived.WalkKit
import Derived.WalkSpells
import Derived.WalkLawsBesides
import Derived.Handy
import Derived.Lib.Hide
import Derived.Lib.QuietBelow
import Derived.BigQuiet
import Derived.Deep.RegionHeld3
import Derived.Deep.RegionWith
import Derived.Deep.DeepFit
import Derived.Deep.DeepCutAuto
import Derived.Deep.LoopGhost
import Derived.Deep.Light
import Derived.Deep.RegionLaw
import Derived.Deep.RegionLawGrows
import Derived.Shelf.SlSortCmp.KitK
import Derived.Sort.WalkB2
import Derived.Sort.WalkB12
import Derived.Sort.LotA
import Derived.Shelf.SlSortCmp.Insertion
import Derived.StillTailTactics
import Derived.Test.YtmkfjelpekkmmaaRows
import Derived.ProofKit
import Derived.OpenShut
import Derived.Carry
import Derived.ChangeSlices
import Derived.Deep.Slices
import Derived.RangeFuncNested
import Derived.RangeFuncBound
import Derived.RangeFuncCalls
import Derived.RangeFuncLeaves
import Derived.Shelf.Abstract
import Derived.Shelf.RegionOpen
import Derived.OwnWalkIn
import Derived.TacticsInMore
import Derived.LoopNIn
import Derived.LoopIn
import Derived.Maps.AppendAt
import Derived.Lib.MinMax
import Derived.BigRegion
import Derived.Shelf.RegionOpenPlain
import Derived.Laws.EntriesVeiled
import Derived.Test.YtmkfjelpekkmmaaQ01
import Derived.Test.YtmkfjelpekkmmaaQ02
import Derived.Test.YtmkfjelpekkmmaaQ03
import Derived.Test.YtmkfjelpekkmmaaQ04
import Derived.Test.YtmkfjelpekkmmaaQ05
import Derived.Test.YtmkfjelpekkmmaaQ06
import Derived.Test.YtmkfjelpekkmmaaQ07
import Derived.Test.YtmkfjelpekkmmaaQ08
import Derived.Test.YtmkfjelpekkmmaaQ09
import Derived.Test.YtmkfjelpekkmmaaQ10
import Derived.Test.YtmkfjelpekkmmaaQ11
import Derived.Test.YtmkfjelpekkmmaaQ12
import Derived.Test.YtmkfjelpekkmmaaQ13
import Derived.Test.YtmkfjelpekkmmaaQ14
import Derived.Test.YtmkfjelpekkmmaaQ15
import Derived.Test.YtmkfjelpekkmmaaQ16
import Derived.Test.YtmkfjelpekkmmaaQ17
import Derived.Test.YtmkfjelpekkmmaaQ18
import Derived.Test.YtmkfjelpekkmmaaQ19
import Derived.Test.YtmkfjelpekkmmaaQ20
import Derived.Test.YtmkfjelpekkmmaaQ21
import Derived.Test.YtmkfjelpekkmmaaQ22
import Derived.Test.YtmkfjelpekkmmaaQ23
import Derived.Test.YtmkfjelpekkmmaaQ24
import Derived.Test.YtmkfjelpekkmmaaQ25
import Derived.Test.YtmkfjelpekkmmaaQ26
import Derived.Test.YtmkfjelpekkmmaaQ27
import Derived.Test.YtmkfjelpekkmmaaQ28
import Derived.Test.YtmkfjelpekkmmaaQ29
import Derived.Test.YtmkfjelpekkmmaaQ30
import Derived.Test.YtmkfjelpekkmmaaQ31
import Derived.Test.YtmkfjelpekkmmaaQ32
import Derived.Test.YtmkfjelpekkmmaaQ33
import Derived.Test.YtmkfjelpekkmmaaQ34
import Derived.Test.YtmkfjelpekkmmaaQ35
import Derived.Test.YtmkfjelpekkmmaaS03
import Derived.Test.YtmkfjelpekkmmaaS01
namespace Go.Proofs.Ytmkfjelpekkmmaa
open Go.RowKit

def remL (L : List Bun) (n : Nid) : List Bun := L.filter fun b => decide (idOf b ≠ n)
theorem remL_no {L : List Bun} {n : Nid} (h : n ∉ L.map idOf) : remL L n = L := by
  unfold remL
  rw [List.filter_eq_self]
  exact fun b hb => by simpa using fun e => h (List.mem_map.2 ⟨b, hb, e⟩)
end Go.Proofs.Ytmkfjelpekkmmaa
namespace Go.Proofs.Ytmkfjelpekkmmaa
open Go.RowKit Go.Sort

def stoM (p mb : Nat) (L : List Bun) : Ob where
  holds w a := ∃ o V T P, StoC w p mb o V (fun j => T (j / 8)) ∧ MpO o P ∧ SInv T P ∧ (allT T).Perm L ∧ ∀ x, a x ↔ StoOwn p mb V x
  lt := by
    rintro w a ⟨o, V, T, P, hC, _, _, _, hO⟩ b hb
    exact hC.lt ((hO b).1 hb)
  keep := by
    rintro w w' a ⟨o, V, T, P, hC, hM, hI, hP, hO⟩ hk
    exact ⟨o, V, T, P, hC.keep fun b hb => hk b ((hO b).2 hb), hM, hI, hP, hO⟩
theorem stoM_of {w : World} {p : Nat} {L : List Bun} {a : Nat → Prop} (h : (stoO p L).holds w a) : ∃ mb, (stoM p mb L).holds w a ∧ a mb := by
  obtain ⟨mb, o, V, T, P, hC, hM, hI, hP, hO⟩ := h
  exact ⟨mb, ⟨o, V, T, P, hC, hM, hI, hP, hO⟩, (hO mb).2 (.inr (.inl rfl))⟩
theorem stoM_sto {w : World} {p mb : Nat} {L : List Bun} {a : Nat → Prop} (h : (stoM p mb L).holds w a) : (stoO p L).holds w a := by
  obtain ⟨o, V, T, P, hC, hM, hI, hP, hO⟩ := h
  exact ⟨mb, o, V, T, P, hC, hM, hI, hP, hO⟩
theorem stoM_cells {w : World} {p mb : Nat} {L : List Bun} {a : Nat → Prop} (h : (stoM p mb L).holds w a) {x : Nat} (hx : a x) (hn : x ≠ mb) : ∃ o, w.heap[x]? = some o ∧ o.isCells = true := by
  obtain ⟨o, V, T, P, hC, hM, hI, hP, hO⟩ := h
  rcases (hO x).1 hx with rfl | rfl | ⟨j, hj, e⟩
  · obtain ⟨cs, h1, _⟩ := hC.top
    exact ⟨_, h1, rfl⟩
  · exact absurd rfl hn
  · obtain ⟨_, ⟨e2, _⟩ | ⟨g, off, cap, cur, e2, hb, _⟩⟩ := hC.col j hj
    · rw [e2] at e; cases e
    · rw [e2] at e
      obtain rfl : g = x := by simpa [Value.ownBlock] using e
      exact ⟨_, hb, rfl⟩
theorem StoG.goneM {w W : World} {p mb : Nat} {o' : Obj} {V V' : Nat → Value} {T' : Nat → List Bun} {P' : List Pl} {L' : List Bun} {a : Nat → Prop} {w0 : World} (ho : ∀ x, a x ↔ StoOwn p mb V x) (hb : Below w0.heap.size w0 w) (h : StoG w (StoOwn p mb V) W p mb o' V' (fun j => T' (j / 8))) (hm : MpO o' P') (hi : SInv T' P') (hp : (allT T').Perm L') :
    Gone a w0 W (stoM p mb L') :=
  ⟨StoOwn p mb V', ⟨o', V', T', P', h.at_, hm, hi, hp, fun _ => Iff.rfl⟩, ((Chg.of_below hb).trans h.chg fun _ _ h => h).mono fun x _ hx => (ho x).2 hx, fun x hx => (h.own x hx).imp (ho x).2 fun e => Nat.le_trans hb.size e⟩
set_option maxRecDepth 100000 in
set_option maxHeartbeats 1000000 in
theorem mrem_any (w : World) (p mb : Nat) (L : List Bun) (n : Nid) (a : Nat → Prop) (h : (stoM p mb L).holds w a) (hn : NFit n) :
    Calls Try.prog 36 #[.pointer (some ⟨p, 0, none⟩), .agg #[.int .i64 n.s, .int .i64 n.i, .int .i64 n.g]] w fun e w' => e = .returned (.bool (decide (n ∈ L.map idOf))) ∧ Gone a w w' (stoM p mb (remL L n)) ∧ (n ∉ L.map idOf → Below w.heap.size w w') := by
  obtain ⟨o, V, T, P, hC, hM, hI, hP, hO⟩ := h
  have hK := fun n => (hI.keys n).trans ⟨fun h => (hP.map idOf).mem_iff.1 h, fun h => (hP.map idOf).mem_iff.2 h⟩
  have HG0 := fun W (hW : Below w.heap.size w W) => (⟨Gone.of_below (A := stoM p mb L) ⟨o, V, T, P, hC, hM, hI, hP, hO⟩ hW, fun _ => hW⟩ : Gone a w W (stoM p mb L) ∧ (n ∉ L.map idOf → Below w.heap.size w W))
  have HH := Lib.hid (fun W (hW : Below w.heap.size w W) => shas_any W p mb o V (fun j => T (j / 8)) P n (hC.grow hW) hM hn hI.key)
  by_cases hin : n ∈ P.map fun x => x.1
  · obtain ⟨⟨n', m, r⟩, hx, rfl⟩ := List.mem_map.1 hin
    obtain ⟨hm, b0, hb0, _⟩ := hI.row _ _ _ hx
    have hr := (List.getElem?_eq_some_iff.1 hb0).1
    obtain ⟨lb, hl⟩ : ∃ lb, (T m)[(T m).length - 1]? = some lb := ⟨_, List.getElem?_eq_getElem (by omega)⟩
    rw [decide_eq_true ((hK n').1 hin)]
    simp only at HH hn
    rw [show decide (n' ∈ P.map fun x => x.1) = true from decide_eq_true hin] at HH
    have HA := Lib.hid (fun W (hW : Below w.heap.size w W) => scut_any W p mb o V T P n' m r lb (hC.grow hW) hM hI hx hl)
    have hcut := hI.cut hx hl
    have hmem := (hK n').1 hin
    have HF := Lib.hid (fun W o' V' (hm' : MpO o' (mdelP (mputP P (idOf lb) (m, r)) n')) W0 (hb : Below w.heap.size w W0) (hg : StoG W0 (StoOwn p mb V) W p mb o' V' (fun j => updT T m (cutR (T m) r) (j / 8))) => (⟨StoG.goneM hO hb hg hm' hcut.1 (hcut.2.trans (hP.filter _)), fun e => absurd hmem e⟩ : Gone a w W (stoM p mb (remL L n')) ∧ (n' ∉ L.map idOf → Below w.heap.size w W)))
    clear HG0 hC hM hI hP hO hK hin hcut hx hb0 hl hr hn hmem
    go_enter Try.func36, Try.ntmps36
    go_wp2_with (go_at_call 50; refine (HH.out _ (by repeat' (first | (with_reducible exact Below.refl _ _) | (with_reducible assumption) | (with_reducible refine below_drewN ?_ _) | (with_reducible refine below_more _ _ _ ?_ ?_) | (with_reducible refine Below.alloc ?_ ?_ _) | (with_reducible refine Below.drew ?_) | (with_reducible refine Below.setCell ?_ ?_ _) | go_size))).mono ?_; rintro e w' ⟨rfl, hb⟩; obtain ⟨d, os, rfl⟩ := more_of hb; clear hb)
    refine (HA.out _ (by repeat' (first | (with_reducible exact Below.refl _ _) | (with_reducible assumption) | (with_reducible refine below_drewN ?_ _) | (with_reducible refine below_more _ _ _ ?_ ?_) | (with_reducible refine Below.alloc ?_ ?_ _) | (with_reducible refine Below.drew ?_) | (with_reducible refine Below.setCell ?_ ?_ _) | go_size))).mono ?_
    rintro e w5 ⟨rfl, o', V', hm', hg⟩
    have HFF := Lib.hid (HF.out w5 o' V' hm' _ (by repeat' (first | (with_reducible exact Below.refl _ _) | (with_reducible assumption) | (with_reducible refine below_drewN ?_ _) | (with_reducible refine below_more _ _ _ ?_ ?_) | (with_reducible refine Below.alloc ?_ ?_ _) | (with_reducible refine Below.drew ?_) | (with_reducible refine Below.setCell ?_ ?_ _) | go_size)) hg)
    clear hm' hg
    go_wp2_with fail
    go_ret
    exact ⟨rfl, HFF.out⟩
  · rw [show decide (n ∈ P.map fun x => x.1) = false from decide_eq_false hin] at HH
    rw [decide_eq_false fun e => hin ((hK n).2 e), remL_no fun e => hin ((hK n).2 e)]
    have HG := Lib.hid HG0
    clear HG0 hC hM hI hP hO hK hin hn
    go_enter Try.func36, Try.ntmps36
    go_wp2_with (go_at_call 50; refine (HH.out _ (by repeat' (first | (with_reducible exact Below.refl _ _) | (with_reducible assumption) | (with_reducible refine below_drewN ?_ _) | (with_reducible refine below_more _ _ _ ?_ ?_) | (with_reducible refine Below.alloc ?_ ?_ _) | (with_reducible refine Below.drew ?_) | (with_reducible refine Below.setCell ?_ ?_ _) | go_size))).mono ?_; rintro e w' ⟨rfl, hb⟩; obtain ⟨d, os, rfl⟩ := more_of hb; clear hb)
    go_ret
    exact ⟨rfl, HG.out _ (by repeat' (first | (with_reducible exact Below.refl _ _) | (with_reducible assumption) | (with_reducible refine below_drewN ?_ _) | (with_reducible refine below_more _ _ _ ?_ ?_) | (with_reducible refine Below.alloc ?_ ?_ _) | (with_reducible refine Below.drew ?_) | (with_reducible refine Below.setCell ?_ ?_ _) | go_size))⟩

theorem remL_drop {L : List Bun} (hu : UnId L) {k : Nat} {b : Bun} (h : L[k]? = some b) : remL (L.drop k) (idOf b) = L.drop (k + 1) := by
  obtain ⟨hk, e⟩ := List.getElem?_eq_some_iff.1 h
  have hs := hu.sub (List.drop_sublist k L)
  rw [List.drop_eq_getElem_cons hk, e] at hs ⊢
  unfold remL
  rw [List.filter_cons_of_neg (by simp)]
  exact List.filter_eq_self.2 fun c hc => decide_eq_true fun e2 => (List.pairwise_cons.1 hs).1 c hc ((sameId_iff _ _).2 e2.symm)
end Go.Proofs.Ytmkfjelpekkmmaa
