/-
  Chapter texts QmI QmK QmOr: what the claim reaches of them. Conditions stand at each theorem.
-/
import Derived.Test.YtmkfjelpekkmmaaProg
import Derived.WalkKit
import Derived.WalkSpells
import Derived.WalkLawsBesides
import Derived.Handy
import Derived.Lib.Hide
import Derived.Lib.QuietBelow
import Derived.BigQuiet
import Derived.Deep.RegionHeld3
import Derived.Deep.RegionWith
import Derived.Deep.DeepFit
import Derived.Deep.DeepCutAuto
import Derived.Deep.LoopGhost
import Derived.Deep.Light
import Derived.Deep.RegionLaw
import Derived.Deep.RegionLawGrows
import Derived.Shelf.SlSortCmp.KitK
import Derived.Sort.WalkB2
import Derived.Sort.WalkB12
import Derived.Sort.LotA
import Derived.Shelf.SlSortCmp.Insertion
import Derived.StillTailTactics
import Derived.Test.YtmkfjelpekkmmaaRows
import Derived.ProofKit
import Derived.OpenShut
import Derived.Carry
import Derived.ChangeSlices
import Derived.Deep.Slices
import Derived.RangeFuncNested
import Derived.RangeFuncBound
import Derived.RangeFuncCalls
import Derived.RangeFuncLeaves
import Derived.Shelf.Abstract
import Derived.Shelf.RegionOpen
import Derived.OwnWalkIn
import Derived.TacticsInMore
import Derived.LoopNIn
import Derived.LoopIn
import Derived.Maps.AppendAt
import Derived.Lib.MinMax
import Derived.BigRegion
import Derived.Shelf.RegionOpenPlain
import Derived.Laws.EntriesVeiled
import Derived.Test.YtmkfjelpekkmmaaQ01
import Derived.Test.YtmkfjelpekkmmaaQ02
import Derived.Test.YtmkfjelpekkmmaaQ03
import Derived.Test.YtmkfjelpekkmmaaQ04
import Derived.Test.YtmkfjelpekkmmaaQ05
import Derived.Test.YtmkfjelpekkmmaaQ06
import Derived.Test.YtmkfjelpekkmmaaQ07
import Derived.Test.YtmkfjelpekkmmaaQ08
import Derived.Test.YtmkfjelpekkmmaaQ09
import Derived.Test.YtmkfjelpekkmmaaQ10
import Derived.Test.YtmkfjelpekkmmaaQ11
import Derived.Test.YtmkfjelpekkmmaaQ12
import Derived.Test.YtmkfjelpekkmmaaQ13
import Derived.Test.YtmkfjelpekkmmaaQ14
import Derived.Test.YtmkfjelpekkmmaaQ15
import Derived.Test.YtmkfjelpekkmmaaQ16
import Derived.Test.YtmkfjelpekkmmaaQ17
import Derived.Test.YtmkfjelpekkmmaaQ18
import Derived.Test.YtmkfjelpekkmmaaQ19
import Derived.Test.YtmkfjelpekkmmaaQ20
import Derived.Test.YtmkfjelpekkmmaaQ21
import Derived.Test.YtmkfjelpekkmmaaQ22
import Derived.Test.YtmkfjelpekkmmaaQ23
import Derived.Test.YtmkfjelpekkmmaaQ24
import Derived.Test.YtmkfjelpekkmmaaQ25
import Derived.Test.YtmkfjelpekkmmaaQ26
import Derived.Test.YtmkfjelpekkmmaaQ27
import Derived.Test.YtmkfjelpekkmmaaQ28
import Derived.Test.YtmkfjelpekkmmaaQ29
import Derived.Test.YtmkfjelpekkmmaaQ30
import Derived.Test.YtmkfjelpekkmmaaQ31
import Derived.Test.YtmkfjelpekkmmaaQ32
import Derived.Test.YtmkfjelpekkmmaaQ33
import Derived.Test.YtmkfjelpekkmmaaQ34
import Derived.Test.YtmkfjelpekkmmaaQ35
import Derived.Test.YtmkfjelpekkmmaaU03
import Derived.Test.YtmkfjelpekkmmaaU01
namespace Go.Proofs.Ytmkfjelpekkmmaa
open Go.RowKit

def remL (L : List Bun) (n : Nid) : List Bun := L.filter fun b => decide (idOf b ≠ n)
theorem remL_no {L : List Bun} {n : Nid} (h : n ∉ L.map idOf) : remL L n = L := by
  unfold remL
  rw [List.filter_eq_self]
  exact fun b hb => by simpa using fun e => h (List.mem_map.2 ⟨b, hb, e⟩)
set_option maxRecDepth 100000 in
set_option maxHeartbeats 1000000 in
theorem srem_any (w : World) (p : Nat) (L : List Bun) (n : Nid) (a : Nat → Prop) (h : (stoO p L).holds w a) (hn : NFit n) :
    Calls Try.prog 36 #[.pointer (some ⟨p, 0, none⟩), .agg #[.int .i64 n.s, .int .i64 n.i, .int .i64 n.g]] w fun e w' => e = .returned (.bool (decide (n ∈ L.map idOf))) ∧ Gone a w w' (stoO p (remL L n)) := by
  obtain ⟨mb, o, V, T, P, hC, hM, hI, hP, hO⟩ := h
  have hK := fun n => (hI.keys n).trans ⟨fun h => (hP.map idOf).mem_iff.1 h, fun h => (hP.map idOf).mem_iff.2 h⟩
  have HG0 := fun W (hW : Below w.heap.size w W) => (Gone.of_below (A := stoO p L) ⟨mb, o, V, T, P, hC, hM, hI, hP, hO⟩ hW : Gone a w W (stoO p L))
  have HH := Lib.hid (fun W (hW : Below w.heap.size w W) => shas_any W p mb o V (fun j => T (j / 8)) P n (hC.grow hW) hM hn hI.key)
  by_cases hin : n ∈ P.map fun x => x.1
  · obtain ⟨⟨n', m, r⟩, hx, rfl⟩ := List.mem_map.1 hin
    obtain ⟨hm, b0, hb0, _⟩ := hI.row _ _ _ hx
    have hr := (List.getElem?_eq_some_iff.1 hb0).1
    obtain ⟨lb, hl⟩ : ∃ lb, (T m)[(T m).length - 1]? = some lb := ⟨_, List.getElem?_eq_getElem (by omega)⟩
    rw [decide_eq_true ((hK n').1 hin)]
    simp only at HH hn
    rw [show decide (n' ∈ P.map fun x => x.1) = true from decide_eq_true hin] at HH
    have HA := Lib.hid (fun W (hW : Below w.heap.size w W) => scut_any W p mb o V T P n' m r lb (hC.grow hW) hM hI hx hl)
    have hcut := hI.cut hx hl
    have HF := Lib.hid (fun W o' V' (hm' : MpO o' (mdelP (mputP P (idOf lb) (m, r)) n')) W0 (hb : Below w.heap.size w W0) (hg : StoG W0 (StoOwn p mb V) W p mb o' V' (fun j => updT T m (cutR (T m) r) (j / 8))) => (StoG.gone hO hb hg hm' hcut.1 (hcut.2.trans (hP.filter _)) : Gone a w W (stoO p (remL L n'))))
    clear HG0 hC hM hI hP hO hK hin hcut hx hb0 hl hr hn
    go_enter Try.func36, Try.ntmps36
    go_wp2_with (go_at_call 50; refine (HH.out _ (by repeat' (first | (with_reducible exact Below.refl _ _) | (with_reducible assumption) | (with_reducible refine below_drewN ?_ _) | (with_reducible refine below_more _ _ _ ?_ ?_) | (with_reducible refine Below.alloc ?_ ?_ _) | (with_reducible refine Below.drew ?_) | (with_reducible refine Below.setCell ?_ ?_ _) | go_size))).mono ?_; rintro e w' ⟨rfl, hb⟩; obtain ⟨d, os, rfl⟩ := more_of hb; clear hb)
    refine (HA.out _ (by repeat' (first | (with_reducible exact Below.refl _ _) | (with_reducible assumption) | (with_reducible refine below_drewN ?_ _) | (with_reducible refine below_more _ _ _ ?_ ?_) | (with_reducible refine Below.alloc ?_ ?_ _) | (with_reducible refine Below.drew ?_) | (with_reducible refine Below.setCell ?_ ?_ _) | go_size))).mono ?_
    rintro e w5 ⟨rfl, o', V', hm', hg⟩
    have HFF := Lib.hid (HF.out w5 o' V' hm' _ (by repeat' (first | (with_reducible exact Below.refl _ _) | (with_reducible assumption) | (with_reducible refine below_drewN ?_ _) | (with_reducible refine below_more _ _ _ ?_ ?_) | (with_reducible refine Below.alloc ?_ ?_ _) | (with_reducible refine Below.drew ?_) | (with_reducible refine Below.setCell ?_ ?_ _) | go_size)) hg)
    clear hm' hg
    go_wp2_with fail
    go_ret
    exact ⟨rfl, HFF.out⟩
  · rw [show decide (n ∈ P.map fun x => x.1) = false from decide_eq_false hin] at HH
    rw [decide_eq_false fun e => hin ((hK n).2 e), remL_no fun e => hin ((hK n).2 e)]
    have HG := Lib.hid HG0
    clear HG0 hC hM hI hP hO hK hin hn
    go_enter Try.func36, Try.ntmps36
    go_wp2_with (go_at_call 50; refine (HH.out _ (by repeat' (first | (with_reducible exact Below.refl _ _) | (with_reducible assumption) | (with_reducible refine below_drewN ?_ _) | (with_reducible refine below_more _ _ _ ?_ ?_) | (with_reducible refine Below.alloc ?_ ?_ _) | (with_reducible refine Below.drew ?_) | (with_reducible refine Below.setCell ?_ ?_ _) | go_size))).mono ?_; rintro e w' ⟨rfl, hb⟩; obtain ⟨d, os, rfl⟩ := more_of hb; clear hb)
    go_ret
    exact ⟨rfl, HG.out _ (by repeat' (first | (with_reducible exact Below.refl _ _) | (with_reducible assumption) | (with_reducible refine below_drewN ?_ _) | (with_reducible refine below_more _ _ _ ?_ ?_) | (with_reducible refine Below.alloc ?_ ?_ _) | (with_reducible refine Below.drew ?_) | (with_reducible refine Below.setCell ?_ ?_ _) | go_size))⟩
end Go.Proofs.Ytmkfjelpekkmmaa
namespace Go.Proofs.Ytmkfjelpekkmmaa
open Go.RowKit

theorem srem_o {w0 W : World} {p : Nat} {L : List Bun} {F : Ob} (h : Own w0 W ((stoO p L).and F)) (n : Nid) (hn : NFit n) :
    Calls Try.prog 36 #[.pointer (some ⟨p, 0, none⟩), .agg #[.int .i64 n.s, .int .i64 n.i, .int .i64 n.g]] W fun e w' => e = .returned (.bool (decide (n ∈ L.map idOf))) ∧ Own w0 w' ((stoO p (remL L n)).and F) :=
  h.call fun a ha => srem_any W p L n a ha hn
end Go.Proofs.Ytmkfjelpekkmmaa
namespace Go.Proofs.Ytmkfjelpekkmmaa
open Go.RowKit Go.Sort
def lastG (b : Bun) : Bun := { b with g := 1048575 }
def revT (L : List Bun) (m : Nat) : List Bun := (L.drop m).reverse
theorem revT_step {L : List Bun} {j : Nat} {b : Bun} (h : L[j]? = some b) : revT L j = revT L (j + 1) ++ [b] := by
  obtain ⟨hj, e⟩ := List.getElem?_eq_some_iff.1 h
  unfold revT
  rw [List.drop_eq_getElem_cons hj, e, List.reverse_cons]
theorem revT_not {L : List Bun} (hg : Good L) {j : Nat} {b : Bun} (h : L[j]? = some b) : idOf b ∉ (revT L (j + 1)).map idOf := by
  obtain ⟨hj, e⟩ := List.getElem?_eq_some_iff.1 h
  intro hm
  obtain ⟨c, hc, e2⟩ := List.mem_map.1 hm
  unfold revT at hc
  rw [List.mem_reverse] at hc
  have hu := hg.1.sub (List.drop_sublist j L)
  rw [List.drop_eq_getElem_cons hj, e] at hu
  exact (List.pairwise_cons.1 hu).1 c hc ((sameId_iff _ _).2 e2.symm)
theorem putOk_iff {T : List Bun} {b : Bun} (hc : checkB b = true) : putOk T b = true ↔ idOf b ∉ T.map idOf := by
  unfold putOk
  simp [hc]
theorem put_yes {T : List Bun} {b : Bun} (h : putOk T b = true) : putL T b = T ++ [b] := by unfold putL; rw [if_pos h]
theorem put_no {T : List Bun} {b : Bun} (h : putOk T b = false) : putL T b = T := by unfold putL; rw [h]; simp
theorem lastG_check {b : Bun} (h : checkB b = true) : checkB (lastG b) = true := by
  unfold checkB idOk inR at h ⊢
  simp only [Bool.and_eq_true, decide_eq_true_eq] at h ⊢
  refine ⟨h.1, ⟨h.2.1, by unfold lastG; simp⟩⟩
theorem lastG_self {b : Bun} (h : b.g = 1048575) : lastG b = b := by unfold lastG; rw [← h]
theorem ord_same {L : List Bun} (hg : Good L) {j : Nat} {b : Bun} (h : L[j]? = some b) (hb : b.g = 1048575) : putOk (revT L (j + 1)) (lastG b) = true ∧ putL (revT L (j + 1)) (lastG b) = revT L j ∧ putOk (revT L j) b = false ∧ putL (revT L j) b = revT L j := by
  have hc := hg.2 b (List.mem_of_getElem? h)
  have h1 := (putOk_iff hc).2 (revT_not hg h)
  have h2 : putOk (revT L j) b = false := by
    rw [← Bool.not_eq_true, putOk_iff hc, revT_step h]
    simp
  rw [lastG_self hb]
  exact ⟨h1, by rw [put_yes h1, revT_step h], h2, put_no h2⟩
theorem ord_new {L : List Bun} (hg : Good L) {j : Nat} {b : Bun} (h : L[j]? = some b) (hn : b.g ≠ 1048575) (hk : putOk (revT L (j + 1)) (lastG b) = true) :
    putOk (putL (revT L (j + 1)) (lastG b)) b = true ∧ remL (putL (putL (revT L (j + 1)) (lastG b)) b) (idOf (lastG b)) = revT L j := by
  have hc := hg.2 b (List.mem_of_getElem? h)
  have hne : idOf b ≠ idOf (lastG b) := fun e => hn (by have := congrArg Nid.g e; simpa [idOf, lastG] using this)
  have hnt := (putOk_iff (lastG_check hc)).1 hk
  have h1 : putOk (putL (revT L (j + 1)) (lastG b)) b = true := by
    rw [putOk_iff hc, put_yes hk, List.map_append, List.mem_append]
    rintro (e | e)
    · exact revT_not hg h e
    · simp at e; exact hne e
  refine ⟨h1, ?_⟩
  rw [put_yes h1, put_yes hk, revT_step h]
  unfold remL
  rw [List.filter_append, List.filter_append]
  have e1 : (revT L (j + 1)).filter (fun c => decide (idOf c ≠ idOf (lastG b))) = revT L (j + 1) := List.filter_eq_self.2 fun c hc' => decide_eq_true fun e => hnt (e ▸ List.mem_map.2 ⟨c, hc', rfl⟩)
  rw [e1]
  simp [hne]
theorem ord_old {L : List Bun} (hg : Good L) {j : Nat} {b : Bun} (h : L[j]? = some b) (hk : putOk (revT L (j + 1)) (lastG b) = false) :
    putOk (putL (revT L (j + 1)) (lastG b)) b = true ∧ putL (putL (revT L (j + 1)) (lastG b)) b = revT L j := by
  have hc := hg.2 b (List.mem_of_getElem? h)
  have h1 := (putOk_iff hc).2 (revT_not hg h)
  rw [put_no hk]
  exact ⟨h1, by rw [put_yes h1, revT_step h]⟩
theorem revT_len (L : List Bun) (m : Nat) : (revT L m).length ≤ L.length := by unfold revT; simp
theorem revT_found {L : List Bun} (hg : Good L) (qa qn : Int) (hf : Bun → Bool) : foundF qa qn hf (revT L 0) = foundF qa qn hf L := by
  unfold foundF
  refine stF_eq ?_ ?_
  · unfold revT
    rw [List.drop_zero]
    exact (List.reverse_perm L).filter _
  · unfold revT
    rw [List.drop_zero]
    exact (hg.1.perm (List.reverse_perm L).symm).sub List.filter_sublist
end Go.Proofs.Ytmkfjelpekkmmaa
