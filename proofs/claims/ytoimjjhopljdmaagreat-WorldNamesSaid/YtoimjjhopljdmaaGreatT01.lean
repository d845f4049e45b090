/-
  Chapter texts PoolI CmS DkA DkC DkO Cmp SoI SoK: what the claim reaches of them. Conditions stand at each theorem.
-/
import Derived.Test.YtoimjjhopljdmaaGreatProg
import Derived.WalkKit
import Derived.WalkSpells
import Derived.WalkLawsBesides
import Derived.Handy
import Derived.Lib.Hide
import Derived.Lib.QuietBelow
import Derived.BigQuiet
import Derived.Deep.RegionHeld3
import Derived.Deep.RegionWith
import Derived.Deep.DeepFit
import Derived.Deep.DeepCutAuto
import Derived.Deep.LoopGhost
import Derived.Deep.Light
import Derived.Deep.RegionLaw
import Derived.Deep.RegionLawGrows
import Derived.RegionTactic
import Derived.StillTailTactics
import Derived.Deep.AppendLies
import Derived.Shelf.SlicesE.DeleteFunc
import Derived.Shelf.SlicesQ.IndexFunc
import Derived.Laws.MakeOwn
import Derived.Lib.MinMax
import Derived.BigRegion
import Derived.Shelf.RegionOpenPlain
import Derived.Test.YtoimjjhopljdmaaGreatRows
import Derived.ProofKit
import Derived.OpenShut
import Derived.Carry
import Derived.ChangeSlices
import Derived.Shelf.SlicesQ.Load
import Derived.StillTail
import Derived.Shelf.SlSortCmp.KitK
import Derived.Sort.WalkB2
import Derived.Sort.WalkB12
import Derived.Sort.LotA
import Derived.Shelf.SlSortCmp.Insertion
import Derived.Test.YtoimjjhopljdmaaGreatQ01
import Derived.Test.YtoimjjhopljdmaaGreatQ02
import Derived.Test.YtoimjjhopljdmaaGreatQ03
import Derived.Test.YtoimjjhopljdmaaGreatQ04
import Derived.Test.YtoimjjhopljdmaaGreatQ05
import Derived.Test.YtoimjjhopljdmaaGreatQ06
import Derived.Test.YtoimjjhopljdmaaGreatQ07
import Derived.Test.YtoimjjhopljdmaaGreatQ08
import Derived.Test.YtoimjjhopljdmaaGreatQ09
import Derived.Test.YtoimjjhopljdmaaGreatQ10
import Derived.Test.YtoimjjhopljdmaaGreatQ11
import Derived.Test.YtoimjjhopljdmaaGreatQ12
import Derived.Test.YtoimjjhopljdmaaGreatQ13
import Derived.Test.YtoimjjhopljdmaaGreatQ14
import Derived.Test.YtoimjjhopljdmaaGreatQ15
import Derived.Test.YtoimjjhopljdmaaGreatQ16
import Derived.Test.YtoimjjhopljdmaaGreatQ17
import Derived.Test.YtoimjjhopljdmaaGreatQ18
import Derived.Test.YtoimjjhopljdmaaGreatQ19
import Derived.Test.YtoimjjhopljdmaaGreatQ20
import Derived.Test.YtoimjjhopljdmaaGreatQ21
import Derived.Test.YtoimjjhopljdmaaGreatQ22
import Derived.Test.YtoimjjhopljdmaaGreatQ23
import Derived.Test.YtoimjjhopljdmaaGreatQ24
import Derived.Test.YtoimjjhopljdmaaGreatQ25
import Derived.Test.YtoimjjhopljdmaaGreatQ26
import Derived.Test.YtoimjjhopljdmaaGreatQ27
import Derived.Test.YtoimjjhopljdmaaGreatQ28
import Derived.Test.YtoimjjhopljdmaaGreatQ29
import Derived.Test.YtoimjjhopljdmaaGreatQ30
import Derived.Test.YtoimjjhopljdmaaGreatQ31
import Derived.Test.YtoimjjhopljdmaaGreatQ32
import Derived.Test.YtoimjjhopljdmaaGreatQ33
import Derived.Test.YtoimjjhopljdmaaGreatQ34
import Derived.Test.YtoimjjhopljdmaaGreatQ35
import Derived.Test.YtoimjjhopljdmaaGreatQ36
import Derived.Test.YtoimjjhopljdmaaGreatQ37
import Derived.Test.YtoimjjhopljdmaaGreatQ38
import Derived.Test.YtoimjjhopljdmaaGreatQ39
import Derived.Test.YtoimjjhopljdmaaGreatQ40
import Derived.Test.YtoimjjhopljdmaaGreatR01
import Derived.Test.YtoimjjhopljdmaaGreatR02
import Derived.Test.YtoimjjhopljdmaaGreatR03
import Derived.Test.YtoimjjhopljdmaaGreatR04
namespace Go.Proofs.YtoimjjhopljdmaaGreat
open Go.RowKit

def ixList (k : Int) : Int → List Ix → List Id3
  | _, [] => []
  | i, x :: xs => (if x.alive then [(k, i, x.gen)] else []) ++ ixList k (i + 1) xs
def shList : Int → List Sh → List Id3
  | _, [] => []
  | k, m :: ms => ixList k 0 m.all ++ shList (k + 1) ms
def listF (M : List Sh) : List Id3 := shList 0 M

theorem ixList_snoc (k : Int) (x : Ix) : ∀ (l : List Ix) (i : Int), ixList k i (l ++ [x]) = ixList k i l ++ (if x.alive then [(k, i + l.length, x.gen)] else [])
  | [], i => by simp [ixList]
  | y :: l, i => by
    simp only [List.cons_append, ixList, ixList_snoc k x l (i + 1), List.append_assoc, List.length_cons]
    rw [show i + 1 + (l.length : Int) = i + ((l.length + 1 : Nat) : Int) by omega]
theorem shList_snoc (m : Sh) : ∀ (l : List Sh) (k : Int), shList k (l ++ [m]) = shList k l ++ ixList (k + l.length) 0 m.all
  | [], k => by simp [shList]
  | y :: l, k => by
    simp only [List.cons_append, shList, shList_snoc m l (k + 1), List.append_assoc, List.length_cons]
    rw [show k + 1 + (l.length : Int) = k + ((l.length + 1 : Nat) : Int) by omega]
theorem ixList_le (k : Int) : ∀ (l : List Ix) (i : Int), (ixList k i l).length ≤ l.length
  | [], _ => by simp [ixList]
  | x :: l, i => by
    have := ixList_le k l (i + 1)
    simp only [ixList, List.length_append, List.length_cons]
    split <;> simp <;> omega
theorem shList_le : ∀ (l : List Sh) (k : Int), (∀ m ∈ l, m.all.length ≤ 16) → (shList k l).length ≤ 16 * l.length
  | [], _, _ => by simp [shList]
  | m :: l, k, h => by
    have h1 := shList_le l (k + 1) fun m hm => h m (List.mem_cons_of_mem _ hm)
    have h2 := ixList_le k m.all 0
    have h3 := h m (by simp)
    simp only [shList, List.length_append, List.length_cons]
    omega
theorem ListAt.later {w wr W : World} {v : Value} {l : List Id3} (h : ListAt w wr v l) (hb : Below wr.heap.size wr W) : ListAt w W v l :=
  ⟨h.1.keep fun g hg => hb.block g (h.1.lt hg), h.2.1.trans (hb.mono h.2.1.size), h.2.2⟩

theorem info_id : (Tryz.prog.info? 30).map (fun i => (i.zero, i.size, i.bytes)) = some (some (.agg #[.int .i64 0, .int .i64 0, .int .i64 0]), 3, 24) := by kernel_rfl

set_option maxRecDepth 100000 in
set_option maxHeartbeats 4000000 in
theorem list_any (w : World) (L : Lay) (M : List Sh) (h : PoolAt w L M) :
    Calls Tryz.prog 109 #[.pointer (some ⟨L.P, 0, none⟩)] w fun e w' => ∃ v, e = .returned v ∧ ListAt w w' v (listF M) := by
  obtain ⟨i0, hi0, hz0, hz1, hz2⟩ := info_parts info_id
  have hfew := h.few
  have hc : w.cell? ⟨L.P, 0, none⟩ = some (.slice (some ⟨L.S, 0, none⟩) M.length M.length) := by simp [World.cell?, h.top]
  have HP := Lib.hid h
  have hm16 : ∀ m ∈ M, m.all.length ≤ 16 := by
    intro m hm
    obtain ⟨k, hk, rfl⟩ := List.getElem_of_mem hm
    have hkl : k < L.sh.length := by rw [h.len]; exact hk
    exact (h.sh (List.getElem?_eq_getElem hk) (List.getElem?_eq_getElem hkl)).2.2.2.2.1.few
  have HM := Lib.hid hm16
  clear h hm16
  go_enter Tryz.func109, Tryz.ntmps109
  go_wp2_with fail
  go_loopw [3, 16] (fun v i wr => ∃ k : Nat, k ≤ M.length ∧ i = .int .i64 k ∧ ListAt w wr v (shList 0 (M.take k))) (fun _ i _ => M.length - (intOf i).toNat)
  case atStart => exact ⟨0, Nat.zero_le _, rfl, ⟨by simp [shList, idCells], .inl ⟨rfl, by simp [shList]⟩⟩, Below.refl _ _, fun g hg => by cases hg⟩
  case round =>
    obtain ⟨k, hk, rfl, hl⟩ := hrel
    obtain ⟨wo, rfl⟩ : ∃ wo : World, wo = wr := ⟨_, rfl⟩
    by_cases hlt : k < M.length
    · have hkl : k < L.sh.length := by rw [HP.out.len]; exact hlt
      have hmk : M[k]? = some M[k] := List.getElem?_eq_getElem hlt
      have hlk : L.sh[k]? = some L.sh[k] := List.getElem?_eq_getElem hkl
      have hll := shList_le (M.take k) 0 (fun m hm => HM.out m (List.mem_of_mem_take hm))
      rw [List.length_take] at hll
      have hsn := shList_snoc M[k] (M.take k) 0
      rw [List.take_append_getElem hlt, List.length_take, Nat.min_eq_left hk] at hsn
      generalize M[k] = m at *
      generalize L.sh[k] = l at *
      have PW := HP.out.grown hl.2.1
      obtain ⟨d0, d1, _, _, hinv, _, hsl⟩ := PW.sh hmk hlk
      obtain ⟨pf, cf, hfv, hfl, _⟩ := Sl.cells hsl
      rw [hfv] at d1
      have HSN := Lib.hid hsn
      have HL := Lib.hid hl
      have hfw := hinv.few
      have b2 : L.S < wo.heap.size := World.block_lt_of_cell? wo _ d0
      have HPW := Lib.hid PW
      have HMK := Lib.hid hmk
      have HLK := Lib.hid hlk
      unfold maxLen at hfl
      clear hsn hl hsl hfv PW hmk hlk
      generalize m.free.length = fl at *
      go_wp2_with fail
      go_loopw [3, 24] (fun v i wr => ∃ q : Nat, q ≤ m.all.length ∧ i = .int .i64 q ∧ ListAt w wr v (shList 0 (M.take k) ++ ixList k 0 (m.all.take q))) (fun _ i _ => m.all.length - (intOf i).toNat)
      case atStart => exact ⟨0, Nat.zero_le _, rfl, by simpa [ixList] using HL.out.later (by repeat' (first | (with_reducible exact Below.refl _ _) | (with_reducible assumption) | (with_reducible refine below_drewN ?_ _) | (with_reducible refine below_more _ _ _ ?_ ?_) | (with_reducible refine Below.alloc ?_ ?_ _) | (with_reducible refine Below.drew ?_) | (with_reducible refine Below.setCell ?_ ?_ _) | go_size))⟩
      case round =>
        obtain ⟨q, hq, rfl, hl⟩ := hrel
        obtain ⟨wi, rfl⟩ : ∃ wi : World, wi = wr := ⟨_, rfl⟩
        by_cases hqi : q < m.all.length
        · have hxq : m.all[q]? = some m.all[q] := List.getElem?_eq_getElem hqi
          have PI := HP.out.grown hl.2.1
          have hsn := ixList_snoc k m.all[q] (m.all.take q) 0
          rw [List.take_append_getElem hqi, List.length_take, Nat.min_eq_left hq] at hsn
          have hle := ixList_le k (m.all.take q) 0
          rw [List.length_take] at hle
          generalize m.all[q] = x at *
          obtain ⟨c0, c1, c2⟩ := PI.ix HMK.out HLK.out hxq
          have b1 : l.A < wi.heap.size := World.block_lt_of_cell? wi _ c0
          have HL2 := Lib.hid hl
          have HS2 := Lib.hid hsn
          have HXQ := Lib.hid hxq
          have hlen : (shList 0 (M.take k) ++ ixList k 0 (m.all.take q)).length ≤ 1000 := by rw [List.length_append]; omega
          generalize hll2 : shList 0 (M.take k) ++ ixList k 0 (m.all.take q) = ll at *
          have HLL := Lib.hid hll2
          clear hl hsn hxq PI hle hll hll2
          obtain ⟨gen, bound, alive⟩ := x
          simp only at c0 c1 c2
          cases alive with
          | false =>
            have e2 : shList 0 (M.take k) ++ ixList k 0 (m.all.take (q + 1)) = ll := by rw [HS2.out]; simpa using HLL.out
            have E2 := Lib.hid e2
            clear e2
            go_wp2_with fail
            go_roundw
            case rel => exact ⟨q + 1, by omega, by go_num, by rw [E2.out]; exact HL2.out.later (by repeat' (first | (with_reducible exact Below.refl _ _) | (with_reducible assumption) | (with_reducible refine below_drewN ?_ _) | (with_reducible refine below_more _ _ _ ?_ ?_) | (with_reducible refine Below.alloc ?_ ?_ _) | (with_reducible refine Below.drew ?_) | (with_reducible refine Below.setCell ?_ ?_ _) | go_size))⟩
            case measure => simp [intOf]; omega
          | true =>
            have e2 : shList 0 (M.take k) ++ ixList k 0 (m.all.take (q + 1)) = ll ++ [((k : Int), (q : Int), gen)] := by rw [HS2.out, ← List.append_assoc, HLL.out]; simp
            have E2 := Lib.hid e2
            clear e2
            go_wp2_with (at_builtin; refine wpList_append_sl _ (by rfl) _ _ 56 (by rfl) 30 i0 _ 3 24 Tryz.underlying56 hi0 hz0 hz1 hz2 rfl (by omega) u3 ll.length (idCells ll) (by rfl) (HL2.out.later (by repeat' (first | (with_reducible exact Below.refl _ _) | (with_reducible assumption) | (with_reducible refine below_drewN ?_ _) | (with_reducible refine below_more _ _ _ ?_ ?_) | (with_reducible refine Below.alloc ?_ ?_ _) | (with_reducible refine Below.drew ?_) | (with_reducible refine Below.setCell ?_ ?_ _) | go_size))).1 ⟨_, 0, none⟩ 1 1 [.int .i64 k, .int .i64 q, .int .i64 gen] (by rfl) (by rfl) (World.news_of_block (cs := #[.int .i64 k, .int .i64 q, .int .i64 gen]) (t := 30) (fr := (0, 0)) (by have h := heap_alloc_new (wi.alloc (.cells #[.int .i64 gen, .int .i64 bound, .bool true] 186)) (.cells #[.int .i64 k, .int .i64 q, .int .i64 gen] 30); rw [World.size_alloc] at h; exact h)) (by simp [Value.oneCell']) (by omega) (by unfold maxLen; omega) (by omega) ?_; intro v' w1 hs1 ht ho)
            go_roundw
            case rel => exact ⟨q + 1, by omega, by go_num, by rw [E2.out]; exact (HL2.out.later (by repeat' (first | (with_reducible exact Below.refl _ _) | (with_reducible assumption) | (with_reducible refine below_drewN ?_ _) | (with_reducible refine below_more _ _ _ ?_ ?_) | (with_reducible refine Below.alloc ?_ ?_ _) | (with_reducible refine Below.drew ?_) | (with_reducible refine Below.setCell ?_ ?_ _) | go_size))).snoc hs1 ht ho⟩
            case measure => simp [intOf]; omega
        · obtain rfl : q = m.all.length := by omega
          have e1 : shList 0 (M.take k) ++ ixList k 0 (m.all.take m.all.length) = shList 0 (M.take (k + 1)) := by rw [HSN.out, List.take_length]; simp
          rw [e1] at hl
          have HL2 := Lib.hid hl
          clear hl e1
          go_wp2_with fail
          go_roundw
          case rel => exact ⟨k + 1, by omega, by go_num, HL2.out⟩
          case measure => simp [intOf]; omega
    · obtain rfl : k = M.length := by omega
      rw [List.take_length] at hl
      have HL := Lib.hid hl
      clear hl
      go_wp2_with fail
      go_ret
      exact ⟨_, rfl, HL.out⟩
end Go.Proofs.YtoimjjhopljdmaaGreat
namespace Go.Proofs.YtoimjjhopljdmaaGreat
open Go.RowKit Go.Shelf

theorem sl_emptyCm (W : World) : Sl (W.alloc (.cells #[] 34)) 34 16 (.slice (some ⟨W.heap.size, 0, none⟩) 0 0) 0 [] := ⟨rfl, .inr ⟨W.heap.size, 0, 0, #[], rfl, heap_alloc_new W _, Nat.le_refl _, by simp [maxLen], by simp, fun j u hj => by cases hj⟩⟩
theorem rnew_ofCm {w w1 : World} {l : List Cm} {v v' : Value} (o : Obj) (hv : v.ownBlock = some w.heap.size) (hs : Sl w1 34 16 v' (0 + l.length) ([] ++ cellsR cmC l)) (ht : Turned (w.alloc o) w1 v.ownBlock)
    (ho : v'.ownBlock = v.ownBlock ∨ ∃ g, v'.ownBlock = some g ∧ (w.alloc o).heap.size ≤ g) : RNew cmC 34 16 w w1 v' l := by
  rw [Nat.zero_add, List.nil_append] at hs
  have hsz := ht.size
  rw [World.size_alloc] at hsz
  refine ⟨hs, ((Below.refl w.heap.size w).alloc (Nat.le_refl _) o).trans ⟨ht.os, ht.tape, ht.output, ht.size, fun k hk => ht.block k (by rw [World.size_alloc]; omega) (fun e => by rw [hv] at e; simp at e; omega)⟩, fun g hg => ?_⟩
  rcases ho with e | ⟨g', e, hg'⟩
  · rw [e, hv] at hg; simp at hg; omega
  · rw [e] at hg; simp at hg; rw [World.size_alloc] at hg'; omega

set_option maxRecDepth 100000 in
theorem cloneCm_any (v : Value) (l : List Cm) (w : World) (h : RIn cmC w v l) (hl : l.length ≤ 1000000) :
    Calls Tryz.prog 90 #[v] w fun e w' => ∃ v', e = .returned v' ∧ RNew cmC 34 16 w w' v' l := by
  obtain ⟨i0, hi0, hz0, hz1, hz2⟩ := info_partsG info_cm
  obtain ⟨p, cap, rfl, h1, h2, h3, h4⟩ := h
  have HS := Lib.hid sl_emptyCm
  by_cases hn : l = []
  · subst hn
    clear h4 h1
    cases p with
    | none =>
      obtain rfl := h2 rfl
      clear h2 h3
      have hnil := fun W : World => Lib.run_eql_slice_nil (P := Tryz.prog) W 26 34 none 0 0 0 0 Tryz.underlying26
      go_enter Tryz.func90, Tryz.ntmps90
      go_wp2_with fail
      go_ret
      exact ⟨_, rfl, ⟨rfl, .inl ⟨rfl, rfl⟩⟩, (by repeat' (first | (with_reducible exact Below.refl _ _) | (with_reducible assumption) | (with_reducible refine below_drewN ?_ _) | (with_reducible refine below_more _ _ _ ?_ ?_) | (with_reducible refine Below.alloc ?_ ?_ _) | (with_reducible refine Below.drew ?_) | (with_reducible refine Below.setCell ?_ ?_ _) | go_size)), fun g hg => by cases hg⟩
    | some a =>
      clear h2
      have hnil := fun W : World => Lib.run_eql_slice_nil (P := Tryz.prog) W 26 34 (some a) 0 cap 0 0 Tryz.underlying26
      go_enter Tryz.func90, Tryz.ntmps90
      go_wp2_with (at_builtin; refine wpList_append_zero (by rfl) _ _ 26 (by rfl) 34 i0 Tryz.underlying26 hi0 _ _ 0 0 _ (by rfl) (by rfl) (Nat.le_refl _) ?_)
      go_ret
      exact ⟨_, rfl, HS.out w, (by repeat' (first | (with_reducible exact Below.refl _ _) | (with_reducible assumption) | (with_reducible refine below_drewN ?_ _) | (with_reducible refine below_more _ _ _ ?_ ?_) | (with_reducible refine Below.alloc ?_ ?_ _) | (with_reducible refine Below.drew ?_) | (with_reducible refine Below.setCell ?_ ?_ _) | go_size)), fun g hg => by simp [Value.ownBlock] at hg; omega⟩
  · obtain ⟨blk, off, rfl, h5, h6⟩ := h4 hn
    have hn0 : 0 < l.length := List.length_pos_iff.2 hn
    have hcw : ∀ j u, (cellsR cmC l)[j]? = some u → (w.alloc (.cells #[] 34)).cell? (Addr.add ⟨blk, off, none⟩ j) = some u := fun j u hj => by
      have h := h6 j u hj
      rw [show Addr.add ⟨blk, off, none⟩ j = ⟨blk, off + j, none⟩ from by unfold Addr.add; split <;> simp_all]
      exact cell_keep ((Below.refl _ _).alloc (Nat.le_refl _) _) h
    have HW := Lib.hid hcw
    have H1 := Lib.hid (cellsR_mem cmC (l := l) cmC_one)
    have HX := Lib.hid (cellsR_len cmC 16 cmC_len l)
    clear hcw h4 h6 h2 hn h1
    have hnil := fun W : World => Lib.run_eql_slice_nil (P := Tryz.prog) W 26 34 (some ⟨blk, off, none⟩) l.length cap 0 0 Tryz.underlying26
    go_enter Tryz.func90, Tryz.ntmps90
    go_wp2_with (at_builtin; refine wpList_append_sl _ (by rfl) _ _ 26 (by rfl) 34 i0 _ 16 128 Tryz.underlying26 hi0 hz0 hz1 hz2 rfl (by omega) _ 0 [] (by rfl) (HS.out _) ⟨blk, off, none⟩ l.length cap (cellsR cmC l) (by rfl) HX.out HW.out H1.out hn0 (by unfold maxLen; omega) (by omega) ?_; intro v' w1 hs1 ht ho)
    go_ret
    exact ⟨_, rfl, rnew_ofCm _ rfl hs1 ht ho⟩

end Go.Proofs.YtoimjjhopljdmaaGreat
namespace Go.Proofs.YtoimjjhopljdmaaGreat
open Go.RowKit
def toNid (x : Id3) : Nid := ⟨x.1, x.2.1, x.2.2⟩
theorem idCells_nid (l : List Id3) : idCells l = cellsR nidL (l.map toNid) := by
  induction l with
  | nil => rfl
  | cons x l ih => simp only [idCells, cellsR, List.flatMap_cons, List.map_cons] at *; rw [ih]; rfl
end Go.Proofs.YtoimjjhopljdmaaGreat
namespace Go.Proofs.YtoimjjhopljdmaaGreat
open Go.RowKit

section
variable (w : World) (d : DLay) (c : Cfg) (D : Dk) (h : DeskAt w d c D)
include h
theorem dalive_any : Calls Tryz.prog 64 #[.pointer (some ⟨d.p, 0, none⟩)] w fun e w' => ∃ v, e = .returned v ∧ ListAt w w' v (listF D.M) := by
  have c1 := h.cell 1
  simp [deskC] at c1
  have HR := Lib.hid (list_any w d.L D.M h.pool)
  clear h
  go_enter Tryz.func64, Tryz.ntmps64
  go_wp2_with (go_at_call 109; refine HR.out.mono ?_; rintro e w' ⟨v, rfl, hl⟩)
  go_ret
  exact ⟨_, rfl, hl⟩
theorem DeskAt.qc (ho : CfgOk c) : D.q.length ≤ 64 := by have := h.qn; have := ho.q1; omega
theorem dwaiting_any (ho : CfgOk c) : Calls Tryz.prog 47 #[.pointer (some ⟨d.p, 0, none⟩)] w fun e w' => ∃ v, e = .returned v ∧ RNew cmC 34 16 w w' v D.q := by
  have c2 := h.cell 2
  simp [deskC] at c2
  have HR := Lib.hid (cloneCm_any d.qv D.q w (RIn.of_sl h.q) (by have := h.qc _ _ _ _ ho; omega))
  obtain ⟨p, cap, hv⟩ := sl_frm h.q
  rw [hv] at c2 HR
  clear h hv
  go_enter Tryz.func47, Tryz.ntmps47
  go_wp2_with fail
  refine HR.out.mono ?_
  rintro e w' ⟨v, rfl, hl⟩
  go_wp2_with fail
  go_ret
  exact ⟨_, rfl, hl⟩
end
end Go.Proofs.YtoimjjhopljdmaaGreat
namespace Go.Proofs.YtoimjjhopljdmaaGreat
open Go.RowKit

section
variable {w0 W : World} {F : Ob} {p q R : Nat} {c : Cfg} {kk : Int} {D : Dk}
theorem waiting_o (h : Own w0 W ((deskO p c D).and F)) (ho : CfgOk c) : Calls Tryz.prog 47 #[.pointer (some ⟨p, 0, none⟩)] W fun e w' => ∃ v, e = .returned v ∧ RNew cmC 34 16 W w' v D.q :=
  h.reads fun d hp hd => by subst hp; exact dwaiting_any W d c D hd ho
theorem nid_list {W w' : World} {v : Value} {l : List Id3} (h : ListAt W w' v l) : RNew nidL 30 3 W w' v (l.map toNid) := by
  obtain ⟨h1, h2, h3⟩ := h
  rw [idCells_nid] at h1
  exact ⟨by rw [List.length_map]; exact h1, h2, h3⟩
theorem alive_o (h : Own w0 W ((deskO p c D).and F)) : Calls Tryz.prog 64 #[.pointer (some ⟨p, 0, none⟩)] W fun e w' => ∃ v, e = .returned v ∧ RNew nidL 30 3 W w' v ((listF D.M).map toNid) :=
  h.reads fun d hp hd => by subst hp; exact (dalive_any W d c D hd).mono fun _ _ ⟨v, h1, h2⟩ => ⟨v, h1, nid_list h2⟩
end
end Go.Proofs.YtoimjjhopljdmaaGreat
namespace Go.Proofs.YtoimjjhopljdmaaGreat
open Go.RowKit

theorem before_any (s i g s' i' g' : Int) (w : World) :
    Calls Tryz.prog 16 #[.agg #[.int .i64 s, .int .i64 i, .int .i64 g], .agg #[.int .i64 s', .int .i64 i', .int .i64 g']] w fun e w' => e = .returned (.bool (beforeB s i g s' i' g')) ∧ Below w.heap.size w w' := by
  generalize hr : beforeB s i g s' i' g' = r
  have HR := Lib.hid hr
  clear hr
  go_enter Tryz.func16, Tryz.ntmps16
  go_wp2
  all_goals go_ret
  all_goals (refine ⟨?_, (by repeat' (first | (with_reducible exact Below.refl _ _) | (with_reducible assumption) | (with_reducible refine below_drewN ?_ _) | (with_reducible refine below_more _ _ _ ?_ ?_) | (with_reducible refine Below.alloc ?_ ?_ _) | (with_reducible refine Below.drew ?_) | (with_reducible refine Below.setCell ?_ ?_ _) | go_size))⟩; go_tidy; (have h := HR.out; clear HR; subst h; simp_all [beforeB]))


end Go.Proofs.YtoimjjhopljdmaaGreat
namespace Go.Proofs.YtoimjjhopljdmaaGreat
open Go.RowKit Go.Sort Go.Lib

theorem Gw.below {w w' : World} (h : Gw w w') : Below w.heap.size w w' := by
  obtain ⟨q, os, rfl⟩ := h
  exact ⟨rfl, rfl, rfl, by simp [grow], fun k hk => by simp [grow, Array.getElem?_append, hk]⟩

end Go.Proofs.YtoimjjhopljdmaaGreat
namespace Go.Proofs.YtoimjjhopljdmaaGreat
open Go.RowKit Go.Sort
theorem ld_of {w : World} {blk o : Nat} {b : Bun} (h : ∀ j u, (bunL b)[j]? = some u → w.cell? ⟨blk, o + j, none⟩ = some u) : (ldB ⟨blk, o, none⟩).run Tryz.prog w = .ok (.agg b.arr) w := by
  have := ldB_of (cs := bunL b) (Go.Proofs.run_loadCellsFrom_list Tryz.prog w ⟨blk, o, none⟩ (bunL b) 11 rfl (fun j v hj => by
    rw [show Addr.add ⟨blk, o, none⟩ j = ⟨blk, o + j, none⟩ from by unfold Addr.add; split <;> simp_all]
    exact h j v hj))
  exact this
theorem bunCells_set : ∀ (l : List Bun) (k : Nat) (b : Bun) (t : Nat), k < l.length → (bunCells (l.set k b))[t]? = if k * 11 ≤ t ∧ t < k * 11 + 11 then (bunL b)[t - k * 11]? else (bunCells l)[t]?
  | [], k, b, t, h => by simp at h
  | c :: l, 0, b, t, h => by
    have e1 : bunCells (b :: l) = bunL b ++ bunCells l := by simp [bunCells]
    have e2 : bunCells (c :: l) = bunL c ++ bunCells l := by simp [bunCells]
    rw [List.set_cons_zero, e1, e2]
    by_cases ht : t < 11
    · rw [if_pos (by omega), List.getElem?_append_left (by rw [bunL_len]; exact ht)]; rfl
    · rw [if_neg (by omega), List.getElem?_append_right (by rw [bunL_len]; omega), List.getElem?_append_right (by rw [bunL_len]; omega), bunL_len, bunL_len]
  | c :: l, k + 1, b, t, h => by
    have e1 : bunCells (c :: l.set k b) = bunL c ++ bunCells (l.set k b) := by simp [bunCells]
    have e2 : bunCells (c :: l) = bunL c ++ bunCells l := by simp [bunCells]
    rw [List.set_cons_succ, e1, e2]
    by_cases ht : t < 11
    · rw [if_neg (by omega), List.getElem?_append_left (by rw [bunL_len]; exact ht), List.getElem?_append_left (by rw [bunL_len]; exact ht)]
    · have ih := bunCells_set l k b (t - 11) (by simpa using h)
      rw [List.getElem?_append_right (by rw [bunL_len]; omega), List.getElem?_append_right (by rw [bunL_len]; omega), bunL_len, ih]
      by_cases h1 : (k + 1) * 11 ≤ t ∧ t < (k + 1) * 11 + 11
      · rw [if_pos h1, if_pos (by omega)]; congr 1; omega
      · rw [if_neg h1, if_neg (by omega)]

theorem BNew.store {w0 w : World} {blk off cap : Nat} {l : List Bun} (h : BNew w0 w (.slice (some ⟨blk, off, Option.none⟩) l.length cap) l) {k : Nat} (hk : k < l.length) (b : Bun) :
    (stB ⟨blk, off + k * 11, Option.none⟩ b.v).run Tryz.prog w = .ok () (w.setCells blk (off + k * 11) (bunL b)) ∧ BNew w0 (w.setCells blk (off + k * 11) (bunL b)) (.slice (some ⟨blk, off, Option.none⟩) l.length cap) (l.set k b) := by
  obtain ⟨⟨hlen, ⟨h0, _⟩ | ⟨g, off', cap', cur, hv, hb, hn, hc, hsz, hr⟩⟩, h2, h3⟩ := h
  · cases h0
  simp only [Value.slice.injEq, Option.some.injEq, Addr.mk.injEq, and_true, true_and] at hv
  obtain ⟨⟨rfl, rfl⟩, rfl⟩ := hv
  have hle : off + k * 11 + (bunL b).length ≤ cur.size := by
    have : l.length * 11 ≤ cap * 11 := Nat.mul_le_mul_right _ hn
    rw [bunL_len]; omega
  obtain ⟨cur', hg', hs', hlo, hin, hhi⟩ := setCells_heap blk 32 (0, 0) (bunL b) (off + k * 11) w cur hb hle
  have ht := setCells_turned blk (bunL b) (off + k * 11) w
  have hblk := h3 blk rfl
  refine ⟨?_, ⟨by rw [bunCells_len, List.length_set], .inr ⟨blk, off, cap, cur', by rw [List.length_set], hg', by rw [List.length_set]; exact hn, hc, by omega, fun j u hj => ?_⟩⟩, Turned.below_new ht (fun q hq => by cases hq; exact hblk) h2 h2.size, h3⟩
  · have := stB_of (W := w) (W' := w.setCells blk (off + k * 11) (bunL b)) (a := ⟨blk, off + k * 11, Option.none⟩) (cs := bunL b) rfl (by
      have := Go.run_storeCells_cells (P := Tryz.prog) blk (off + k * 11) (bunL b) 0 w (fun j hj => by
        have hj2 : off + k * 11 + j < cur.size := by rw [bunL_len] at hj hle; omega
        simp [World.cell?, hb]; exact hj2) (fun j hj => by simp [World.frozen?, hb]) (bunL_one b)
      simpa using this)
    exact this
  · rw [bunCells_set l k b j hk] at hj
    split at hj
    · rename_i h1
      have := hin (j - k * 11) u hj
      rwa [show off + k * 11 + (j - k * 11) = off + j by omega] at this
    · rename_i h1
      by_cases h4 : j < k * 11
      · rw [hlo _ (by omega)]; exact hr j u hj
      · rw [hhi _ (by rw [bunL_len]; omega)]; exact hr j u hj
end Go.Proofs.YtoimjjhopljdmaaGreat
