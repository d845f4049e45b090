/-
  Chapter texts PoolI DkA DkC RfB DkO SoK SoO SyD TkP WoB WoF: what the claim reaches of them. Conditions stand at each theorem.
-/
import Derived.Test.YtoimjjhopljdmaaGreatProg
import Derived.WalkKit
import Derived.WalkSpells
import Derived.WalkLawsBesides
import Derived.Handy
import Derived.Lib.Hide
import Derived.Lib.QuietBelow
import Derived.BigQuiet
import Derived.Deep.RegionHeld3
import Derived.Deep.RegionWith
import Derived.Deep.DeepFit
import Derived.Deep.DeepCutAuto
import Derived.Deep.LoopGhost
import Derived.Deep.Light
import Derived.Deep.RegionLaw
import Derived.Deep.RegionLawGrows
import Derived.RegionTactic
import Derived.StillTailTactics
import Derived.Deep.AppendLies
import Derived.Shelf.SlicesE.DeleteFunc
import Derived.Laws.MakeOwn
import Derived.Shelf.SlicesQ.IndexFunc
import Derived.Lib.MinMax
import Derived.BigRegion
import Derived.Shelf.RegionOpenPlain
import Derived.Test.YtoimjjhopljdmaaGreatRows
import Derived.ProofKit
import Derived.OpenShut
import Derived.Carry
import Derived.ChangeSlices
import Derived.Shelf.SlicesQ.Load
import Derived.StillTail
import Derived.Shelf.SlSortCmp.KitK
import Derived.Sort.WalkB2
import Derived.Sort.WalkB12
import Derived.Sort.LotA
import Derived.Shelf.SlSortCmp.Insertion
import Derived.Shelf.SlSortCmp.NoneTotal
import Derived.Deep.Slices
import Derived.Lib.SliceRun
import Derived.Test.YtoimjjhopljdmaaGreatQ01
import Derived.Test.YtoimjjhopljdmaaGreatQ02
import Derived.Test.YtoimjjhopljdmaaGreatQ03
import Derived.Test.YtoimjjhopljdmaaGreatQ04
import Derived.Test.YtoimjjhopljdmaaGreatQ05
import Derived.Test.YtoimjjhopljdmaaGreatQ06
import Derived.Test.YtoimjjhopljdmaaGreatQ07
import Derived.Test.YtoimjjhopljdmaaGreatQ08
import Derived.Test.YtoimjjhopljdmaaGreatQ09
import Derived.Test.YtoimjjhopljdmaaGreatQ10
import Derived.Test.YtoimjjhopljdmaaGreatQ11
import Derived.Test.YtoimjjhopljdmaaGreatQ12
import Derived.Test.YtoimjjhopljdmaaGreatQ13
import Derived.Test.YtoimjjhopljdmaaGreatQ14
import Derived.Test.YtoimjjhopljdmaaGreatQ15
import Derived.Test.YtoimjjhopljdmaaGreatQ16
import Derived.Test.YtoimjjhopljdmaaGreatQ17
import Derived.Test.YtoimjjhopljdmaaGreatQ18
import Derived.Test.YtoimjjhopljdmaaGreatQ19
import Derived.Test.YtoimjjhopljdmaaGreatQ20
import Derived.Test.YtoimjjhopljdmaaGreatQ21
import Derived.Test.YtoimjjhopljdmaaGreatQ22
import Derived.Test.YtoimjjhopljdmaaGreatQ23
import Derived.Test.YtoimjjhopljdmaaGreatQ24
import Derived.Test.YtoimjjhopljdmaaGreatQ25
import Derived.Test.YtoimjjhopljdmaaGreatQ26
import Derived.Test.YtoimjjhopljdmaaGreatQ27
import Derived.Test.YtoimjjhopljdmaaGreatQ28
import Derived.Test.YtoimjjhopljdmaaGreatQ29
import Derived.Test.YtoimjjhopljdmaaGreatQ30
import Derived.Test.YtoimjjhopljdmaaGreatQ31
import Derived.Test.YtoimjjhopljdmaaGreatQ32
import Derived.Test.YtoimjjhopljdmaaGreatQ33
import Derived.Test.YtoimjjhopljdmaaGreatQ34
import Derived.Test.YtoimjjhopljdmaaGreatQ35
import Derived.Test.YtoimjjhopljdmaaGreatQ36
import Derived.Test.YtoimjjhopljdmaaGreatQ37
import Derived.Test.YtoimjjhopljdmaaGreatQ38
import Derived.Test.YtoimjjhopljdmaaGreatQ39
import Derived.Test.YtoimjjhopljdmaaGreatQ40
import Derived.Test.YtoimjjhopljdmaaGreatR01
import Derived.Test.YtoimjjhopljdmaaGreatR02
import Derived.Test.YtoimjjhopljdmaaGreatR03
import Derived.Test.YtoimjjhopljdmaaGreatR04
namespace Go.Proofs.YtoimjjhopljdmaaGreat
open Go.RowKit

def ixList (k : Int) : Int → List Ix → List Id3
  | _, [] => []
  | i, x :: xs => (if x.alive then [(k, i, x.gen)] else []) ++ ixList k (i + 1) xs
def shList : Int → List Sh → List Id3
  | _, [] => []
  | k, m :: ms => ixList k 0 m.all ++ shList (k + 1) ms
def listF (M : List Sh) : List Id3 := shList 0 M

theorem ixList_snoc (k : Int) (x : Ix) : ∀ (l : List Ix) (i : Int), ixList k i (l ++ [x]) = ixList k i l ++ (if x.alive then [(k, i + l.length, x.gen)] else [])
  | [], i => by simp [ixList]
  | y :: l, i => by
    simp only [List.cons_append, ixList, ixList_snoc k x l (i + 1), List.append_assoc, List.length_cons]
    rw [show i + 1 + (l.length : Int) = i + ((l.length + 1 : Nat) : Int) by omega]
theorem shList_snoc (m : Sh) : ∀ (l : List Sh) (k : Int), shList k (l ++ [m]) = shList k l ++ ixList (k + l.length) 0 m.all
  | [], k => by simp [shList]
  | y :: l, k => by
    simp only [List.cons_append, shList, shList_snoc m l (k + 1), List.append_assoc, List.length_cons]
    rw [show k + 1 + (l.length : Int) = k + ((l.length + 1 : Nat) : Int) by omega]
theorem ixList_le (k : Int) : ∀ (l : List Ix) (i : Int), (ixList k i l).length ≤ l.length
  | [], _ => by simp [ixList]
  | x :: l, i => by
    have := ixList_le k l (i + 1)
    simp only [ixList, List.length_append, List.length_cons]
    split <;> simp <;> omega
theorem shList_le : ∀ (l : List Sh) (k : Int), (∀ m ∈ l, m.all.length ≤ 16) → (shList k l).length ≤ 16 * l.length
  | [], _, _ => by simp [shList]
  | m :: l, k, h => by
    have h1 := shList_le l (k + 1) fun m hm => h m (List.mem_cons_of_mem _ hm)
    have h2 := ixList_le k m.all 0
    have h3 := h m (by simp)
    simp only [shList, List.length_append, List.length_cons]
    omega
theorem ListAt.later {w wr W : World} {v : Value} {l : List Id3} (h : ListAt w wr v l) (hb : Below wr.heap.size wr W) : ListAt w W v l :=
  ⟨h.1.keep fun g hg => hb.block g (h.1.lt hg), h.2.1.trans (hb.mono h.2.1.size), h.2.2⟩

theorem info_id : (Tryz.prog.info? 30).map (fun i => (i.zero, i.size, i.bytes)) = some (some (.agg #[.int .i64 0, .int .i64 0, .int .i64 0]), 3, 24) := by kernel_rfl

set_option maxRecDepth 100000 in
set_option maxHeartbeats 4000000 in
theorem list_any (w : World) (L : Lay) (M : List Sh) (h : PoolAt w L M) :
    Calls Tryz.prog 109 #[.pointer (some ⟨L.P, 0, none⟩)] w fun e w' => ∃ v, e = .returned v ∧ ListAt w w' v (listF M) := by
  obtain ⟨i0, hi0, hz0, hz1, hz2⟩ := info_parts info_id
  have hfew := h.few
  have hc : w.cell? ⟨L.P, 0, none⟩ = some (.slice (some ⟨L.S, 0, none⟩) M.length M.length) := by simp [World.cell?, h.top]
  have HP := Lib.hid h
  have hm16 : ∀ m ∈ M, m.all.length ≤ 16 := by
    intro m hm
    obtain ⟨k, hk, rfl⟩ := List.getElem_of_mem hm
    have hkl : k < L.sh.length := by rw [h.len]; exact hk
    exact (h.sh (List.getElem?_eq_getElem hk) (List.getElem?_eq_getElem hkl)).2.2.2.2.1.few
  have HM := Lib.hid hm16
  clear h hm16
  go_enter Tryz.func109, Tryz.ntmps109
  go_wp2_with fail
  go_loopw [3, 16] (fun v i wr => ∃ k : Nat, k ≤ M.length ∧ i = .int .i64 k ∧ ListAt w wr v (shList 0 (M.take k))) (fun _ i _ => M.length - (intOf i).toNat)
  case atStart => exact ⟨0, Nat.zero_le _, rfl, ⟨by simp [shList, idCells], .inl ⟨rfl, by simp [shList]⟩⟩, Below.refl _ _, fun g hg => by cases hg⟩
  case round =>
    obtain ⟨k, hk, rfl, hl⟩ := hrel
    obtain ⟨wo, rfl⟩ : ∃ wo : World, wo = wr := ⟨_, rfl⟩
    by_cases hlt : k < M.length
    · have hkl : k < L.sh.length := by rw [HP.out.len]; exact hlt
      have hmk : M[k]? = some M[k] := List.getElem?_eq_getElem hlt
      have hlk : L.sh[k]? = some L.sh[k] := List.getElem?_eq_getElem hkl
      have hll := shList_le (M.take k) 0 (fun m hm => HM.out m (List.mem_of_mem_take hm))
      rw [List.length_take] at hll
      have hsn := shList_snoc M[k] (M.take k) 0
      rw [List.take_append_getElem hlt, List.length_take, Nat.min_eq_left hk] at hsn
      generalize M[k] = m at *
      generalize L.sh[k] = l at *
      have PW := HP.out.grown hl.2.1
      obtain ⟨d0, d1, _, _, hinv, _, hsl⟩ := PW.sh hmk hlk
      obtain ⟨pf, cf, hfv, hfl, _⟩ := Sl.cells hsl
      rw [hfv] at d1
      have HSN := Lib.hid hsn
      have HL := Lib.hid hl
      have hfw := hinv.few
      have b2 : L.S < wo.heap.size := World.block_lt_of_cell? wo _ d0
      have HPW := Lib.hid PW
      have HMK := Lib.hid hmk
      have HLK := Lib.hid hlk
      unfold maxLen at hfl
      clear hsn hl hsl hfv PW hmk hlk
      generalize m.free.length = fl at *
      go_wp2_with fail
      go_loopw [3, 24] (fun v i wr => ∃ q : Nat, q ≤ m.all.length ∧ i = .int .i64 q ∧ ListAt w wr v (shList 0 (M.take k) ++ ixList k 0 (m.all.take q))) (fun _ i _ => m.all.length - (intOf i).toNat)
      case atStart => exact ⟨0, Nat.zero_le _, rfl, by simpa [ixList] using HL.out.later (by repeat' (first | (with_reducible exact Below.refl _ _) | (with_reducible assumption) | (with_reducible refine below_drewN ?_ _) | (with_reducible refine below_more _ _ _ ?_ ?_) | (with_reducible refine Below.alloc ?_ ?_ _) | (with_reducible refine Below.drew ?_) | (with_reducible refine Below.setCell ?_ ?_ _) | go_size))⟩
      case round =>
        obtain ⟨q, hq, rfl, hl⟩ := hrel
        obtain ⟨wi, rfl⟩ : ∃ wi : World, wi = wr := ⟨_, rfl⟩
        by_cases hqi : q < m.all.length
        · have hxq : m.all[q]? = some m.all[q] := List.getElem?_eq_getElem hqi
          have PI := HP.out.grown hl.2.1
          have hsn := ixList_snoc k m.all[q] (m.all.take q) 0
          rw [List.take_append_getElem hqi, List.length_take, Nat.min_eq_left hq] at hsn
          have hle := ixList_le k (m.all.take q) 0
          rw [List.length_take] at hle
          generalize m.all[q] = x at *
          obtain ⟨c0, c1, c2⟩ := PI.ix HMK.out HLK.out hxq
          have b1 : l.A < wi.heap.size := World.block_lt_of_cell? wi _ c0
          have HL2 := Lib.hid hl
          have HS2 := Lib.hid hsn
          have HXQ := Lib.hid hxq
          have hlen : (shList 0 (M.take k) ++ ixList k 0 (m.all.take q)).length ≤ 1000 := by rw [List.length_append]; omega
          generalize hll2 : shList 0 (M.take k) ++ ixList k 0 (m.all.take q) = ll at *
          have HLL := Lib.hid hll2
          clear hl hsn hxq PI hle hll hll2
          obtain ⟨gen, bound, alive⟩ := x
          simp only at c0 c1 c2
          cases alive with
          | false =>
            have e2 : shList 0 (M.take k) ++ ixList k 0 (m.all.take (q + 1)) = ll := by rw [HS2.out]; simpa using HLL.out
            have E2 := Lib.hid e2
            clear e2
            go_wp2_with fail
            go_roundw
            case rel => exact ⟨q + 1, by omega, by go_num, by rw [E2.out]; exact HL2.out.later (by repeat' (first | (with_reducible exact Below.refl _ _) | (with_reducible assumption) | (with_reducible refine below_drewN ?_ _) | (with_reducible refine below_more _ _ _ ?_ ?_) | (with_reducible refine Below.alloc ?_ ?_ _) | (with_reducible refine Below.drew ?_) | (with_reducible refine Below.setCell ?_ ?_ _) | go_size))⟩
            case measure => simp [intOf]; omega
          | true =>
            have e2 : shList 0 (M.take k) ++ ixList k 0 (m.all.take (q + 1)) = ll ++ [((k : Int), (q : Int), gen)] := by rw [HS2.out, ← List.append_assoc, HLL.out]; simp
            have E2 := Lib.hid e2
            clear e2
            go_wp2_with (at_builtin; refine wpList_append_sl _ (by rfl) _ _ 56 (by rfl) 30 i0 _ 3 24 Tryz.underlying56 hi0 hz0 hz1 hz2 rfl (by omega) u3 ll.length (idCells ll) (by rfl) (HL2.out.later (by repeat' (first | (with_reducible exact Below.refl _ _) | (with_reducible assumption) | (with_reducible refine below_drewN ?_ _) | (with_reducible refine below_more _ _ _ ?_ ?_) | (with_reducible refine Below.alloc ?_ ?_ _) | (with_reducible refine Below.drew ?_) | (with_reducible refine Below.setCell ?_ ?_ _) | go_size))).1 ⟨_, 0, none⟩ 1 1 [.int .i64 k, .int .i64 q, .int .i64 gen] (by rfl) (by rfl) (World.news_of_block (cs := #[.int .i64 k, .int .i64 q, .int .i64 gen]) (t := 30) (fr := (0, 0)) (by have h := heap_alloc_new (wi.alloc (.cells #[.int .i64 gen, .int .i64 bound, .bool true] 186)) (.cells #[.int .i64 k, .int .i64 q, .int .i64 gen] 30); rw [World.size_alloc] at h; exact h)) (by simp [Value.oneCell']) (by omega) (by unfold maxLen; omega) (by omega) ?_; intro v' w1 hs1 ht ho)
            go_roundw
            case rel => exact ⟨q + 1, by omega, by go_num, by rw [E2.out]; exact (HL2.out.later (by repeat' (first | (with_reducible exact Below.refl _ _) | (with_reducible assumption) | (with_reducible refine below_drewN ?_ _) | (with_reducible refine below_more _ _ _ ?_ ?_) | (with_reducible refine Below.alloc ?_ ?_ _) | (with_reducible refine Below.drew ?_) | (with_reducible refine Below.setCell ?_ ?_ _) | go_size))).snoc hs1 ht ho⟩
            case measure => simp [intOf]; omega
        · obtain rfl : q = m.all.length := by omega
          have e1 : shList 0 (M.take k) ++ ixList k 0 (m.all.take m.all.length) = shList 0 (M.take (k + 1)) := by rw [HSN.out, List.take_length]; simp
          rw [e1] at hl
          have HL2 := Lib.hid hl
          clear hl e1
          go_wp2_with fail
          go_roundw
          case rel => exact ⟨k + 1, by omega, by go_num, HL2.out⟩
          case measure => simp [intOf]; omega
    · obtain rfl : k = M.length := by omega
      rw [List.take_length] at hl
      have HL := Lib.hid hl
      clear hl
      go_wp2_with fail
      go_ret
      exact ⟨_, rfl, HL.out⟩
end Go.Proofs.YtoimjjhopljdmaaGreat
namespace Go.Proofs.YtoimjjhopljdmaaGreat
open Go.RowKit
def toNid (x : Id3) : Nid := ⟨x.1, x.2.1, x.2.2⟩
theorem idCells_nid (l : List Id3) : idCells l = cellsR nidL (l.map toNid) := by
  induction l with
  | nil => rfl
  | cons x l ih => simp only [idCells, cellsR, List.flatMap_cons, List.map_cons] at *; rw [ih]; rfl
end Go.Proofs.YtoimjjhopljdmaaGreat
namespace Go.Proofs.YtoimjjhopljdmaaGreat
open Go.RowKit

section
variable (w : World) (d : DLay) (c : Cfg) (D : Dk) (h : DeskAt w d c D)
include h
theorem dalive_any : Calls Tryz.prog 64 #[.pointer (some ⟨d.p, 0, none⟩)] w fun e w' => ∃ v, e = .returned v ∧ ListAt w w' v (listF D.M) := by
  have c1 := h.cell 1
  simp [deskC] at c1
  have HR := Lib.hid (list_any w d.L D.M h.pool)
  clear h
  go_enter Tryz.func64, Tryz.ntmps64
  go_wp2_with (go_at_call 109; refine HR.out.mono ?_; rintro e w' ⟨v, rfl, hl⟩)
  go_ret
  exact ⟨_, rfl, hl⟩
end
end Go.Proofs.YtoimjjhopljdmaaGreat
namespace Go.Proofs.YtoimjjhopljdmaaGreat
open Go.RowKit

theorem of_rng {c : Cfg} (ho : CfgOk c) (x y : Int) : ofF c x y = -1 ∨ 0 ≤ ofF c x y ∧ ofF c x y < c.cols * c.rows := by
  cases hin : inW c x y with
  | false => left; unfold ofF; rw [hin]; rfl
  | true => obtain ⟨_, _, _, _, _, h⟩ := ofF_in ho hin; exact Or.inr h

end Go.Proofs.YtoimjjhopljdmaaGreat
namespace Go.Proofs.YtoimjjhopljdmaaGreat
open Go.RowKit

section
variable {w0 W : World} {F : Ob} {p q R : Nat} {c : Cfg} {kk : Int} {D : Dk}
theorem nid_list {W w' : World} {v : Value} {l : List Id3} (h : ListAt W w' v l) : RNew nidL 30 3 W w' v (l.map toNid) := by
  obtain ⟨h1, h2, h3⟩ := h
  rw [idCells_nid] at h1
  exact ⟨by rw [List.length_map]; exact h1, h2, h3⟩
theorem alive_o (h : Own w0 W ((deskO p c D).and F)) : Calls Tryz.prog 64 #[.pointer (some ⟨p, 0, none⟩)] W fun e w' => ∃ v, e = .returned v ∧ RNew nidL 30 3 W w' v ((listF D.M).map toNid) :=
  h.reads fun d hp hd => by subst hp; exact (dalive_any W d c D hd).mono fun _ _ ⟨v, h1, h2⟩ => ⟨v, h1, nid_list h2⟩
end
end Go.Proofs.YtoimjjhopljdmaaGreat
namespace Go.Proofs.YtoimjjhopljdmaaGreat
open Go.RowKit Go.Sort
theorem ld_of {w : World} {blk o : Nat} {b : Bun} (h : ∀ j u, (bunL b)[j]? = some u → w.cell? ⟨blk, o + j, none⟩ = some u) : (ldB ⟨blk, o, none⟩).run Tryz.prog w = .ok (.agg b.arr) w := by
  have := ldB_of (cs := bunL b) (Go.Proofs.run_loadCellsFrom_list Tryz.prog w ⟨blk, o, none⟩ (bunL b) 11 rfl (fun j v hj => by
    rw [show Addr.add ⟨blk, o, none⟩ j = ⟨blk, o + j, none⟩ from by unfold Addr.add; split <;> simp_all]
    exact h j v hj))
  exact this
end Go.Proofs.YtoimjjhopljdmaaGreat
namespace Go.Proofs.YtoimjjhopljdmaaGreat
open Go.RowKit Go.Sort

attribute [local go_sem ↓] loadVar_ldB
theorem BIn.ldm {w : World} {v : Value} {l : List Bun} (h : BIn w v l) {k : Nat} {b : Bun} (hk : l[k]? = some b) : ∃ blk off cap, v = .slice (some ⟨blk, off, none⟩) l.length cap ∧ ∀ d os, (ldB ⟨blk, off + k * 11, none⟩).run Tryz.prog (more w d os) = .ok (.agg b.arr) (more w d os) := by
  obtain ⟨g, o, c, hv, h1, h2⟩ := h.cells hk
  exact ⟨g, o, c, hv, fun d os => ld_of fun j u hj => (more_cell w d os ⟨g, o + k * 11 + j, none⟩ h1).trans (h2 j u hj)⟩

end Go.Proofs.YtoimjjhopljdmaaGreat
namespace Go.Proofs.YtoimjjhopljdmaaGreat
open Go.RowKit

theorem into_any (x n : Int) (w : World) (h0 : 1 ≤ n) (h1 : n ≤ 1073741824) : Calls Tryz.prog 62 #[.int .i64 x, .int .i64 n] w fun e w' => e = .returned (.int .i64 (max 0 (min x (n - 1)))) ∧ w = w' := by
  by_cases h2 : x < 0
  · rw [show max 0 (min x (n - 1)) = 0 by omega]
    go_enter Tryz.func62, Tryz.ntmps62
    go_wp2
    go_ret
    exact ⟨rfl, rfl⟩
  · have h2' : 0 ≤ x := by omega
    by_cases h3 : n ≤ x
    · rw [show max 0 (min x (n - 1)) = n - 1 by omega]
      clear h2
      go_enter Tryz.func62, Tryz.ntmps62
      go_wp2
      go_ret
      exact ⟨rfl, rfl⟩
    · rw [show max 0 (min x (n - 1)) = x by omega]
      have h4 : x < n := by omega
      clear h2 h3
      go_enter Tryz.func62, Tryz.ntmps62
      go_wp2
      go_ret
      exact ⟨rfl, rfl⟩

set_option maxHeartbeats 1000000 in
theorem rIn_k (cols rows side radius speed ids queue x y : Int) (w : World) (ho : CfgOk ⟨cols, rows, side, radius, speed, ids, queue⟩) :
    Calls Tryz.prog 27 #[.agg #[.int .i64 cols, .int .i64 rows, .int .i64 side, .int .i64 radius, .int .i64 speed, .int .i64 ids, .int .i64 queue], .int .i64 x, .int .i64 y] w fun e w' => e = .returned (.tuple #[.int .i64 (inF ⟨cols, rows, side, radius, speed, ids, queue⟩ x y).1, .int .i64 (inF ⟨cols, rows, side, radius, speed, ids, queue⟩ x y).2]) ∧ Below w.heap.size w w' := by
  obtain ⟨p1, p2, p3, p4⟩ := ho.prod
  simp only at p1 p2 p3 p4
  simp only [inF]
  clear ho
  generalize hx1 : cols * side = x1 at *
  generalize hy1 : rows * side = y1 at *
  go_enter Tryz.func27, Tryz.ntmps27
  go_wp2_with fail
  refine wp_region_more (by kernel_rfl) (by kernel_rfl) ?_
  repeat (go_big_quiet_step ((first | (go_at_call 62; exact more_same (into_any _ _ _ (by omega) (by omega))))))
  refine wpQuiet_nil ?_
  rintro _ ⟨pm, rfl⟩
  go_wp2_with fail
  go_ret2
  exact ⟨rfl, (by repeat' (first | (with_reducible exact Below.refl _ _) | (with_reducible assumption) | (with_reducible refine below_drewN ?_ _) | (with_reducible refine below_more _ _ _ ?_ ?_) | (with_reducible refine Below.alloc ?_ ?_ _) | (with_reducible refine Below.drew ?_) | (with_reducible refine Below.setCell ?_ ?_ _) | go_size))⟩

end Go.Proofs.YtoimjjhopljdmaaGreat
namespace Go.Proofs.YtoimjjhopljdmaaGreat
open Go.RowKit Go.Sort
theorem strict_eq {l l' : List Nid} (h : l.Pairwise fun a b => befN a b = true) (h' : l'.Pairwise fun a b => befN a b = true) (hm : ∀ x, x ∈ l ↔ x ∈ l') : l = l' := by
  have hne : ∀ {a b : Nid}, befN a b = true → a ≠ b := fun h e => by subst e; rw [befN_irr] at h; cases h
  have n1 : l.Nodup := h.imp fun h => hne h
  have n2 : l'.Nodup := h'.imp fun h => hne h
  refine List.Perm.eq_of_pairwise (le := fun a b => befN a b = true) (fun a b _ _ h1 h2 => ?_) h h' ((List.perm_ext_iff_of_nodup n1 n2).2 hm)
  have := befN_trans h1 h2
  rw [befN_irr] at this; cases this
theorem setN_nil : setN [] = [] := by simp [setN, sortN, compF]
end Go.Proofs.YtoimjjhopljdmaaGreat
namespace Go.Proofs.YtoimjjhopljdmaaGreat
open Go.RowKit

section
variable {w0 W : World} {F : Ob} {p : Nat} {c : Cfg} {X : Wo}

theorem wnames_o (h : Own w0 W ((worldO p c X).and F)) (li : List Nid) (hli : (listF X.D.M).map toNid = li) : Calls Tryz.prog 29 #[.pointer (some ⟨p, 0, none⟩)] W fun e w' => ∃ v, e = .returned v ∧ RNew nidL 30 3 W w' v li := by
  obtain ⟨d, v, h⟩ := wopen h
  have hb := h.box
  have x0 := hb.1 0
  have x1 := hb.1 1
  simp at x0 x1
  have hlt := hb.2.2.1
  obtain ⟨z0, z1, z2⟩ := ltz hlt
  have H := Lib.hid h
  have HC := Lib.hid (fun V (hV : Own w0 V ((deskO d c X.D).and ((boxO p #[.pointer (some ⟨d, 0, none⟩), v] 83).and ((slO 32 11 v X.L.length (cellsR bunL X.L)).and F)))) => (show Calls Tryz.prog 64 #[.pointer (some ⟨d, 0, none⟩)] V (fun e w' => ∃ v, e = .returned v ∧ RNew nidL 30 3 V w' v li) from hli ▸ alive_o hV))
  have H2 := Lib.hid h.swap.inner2
  clear h hb
  go_enter Tryz.func29, Tryz.ntmps29
  go_wp2_with fail
  refine (HC.out _ (H2.out.grow (by repeat' (first | (with_reducible exact Below.refl _ _) | (with_reducible assumption) | (with_reducible refine below_drewN ?_ _) | (with_reducible refine below_more _ _ _ ?_ ?_) | (with_reducible refine Below.alloc ?_ ?_ _) | (with_reducible refine Below.drew ?_) | (with_reducible refine Below.setCell ?_ ?_ _) | go_size)))).mono ?_
  rintro e w' ⟨va, rfl, hn⟩
  obtain ⟨pw, cw, rfl⟩ := sl_frm hn.1
  have HN := Lib.hid hn
  clear hn
  go_wp2_with fail
  go_ret
  exact ⟨_, rfl, HN.out.1, Below.trans (Below.mono (B := W.heap.size) (by repeat' (first | (with_reducible exact Below.refl _ _) | (with_reducible assumption) | (with_reducible refine below_drewN ?_ _) | (with_reducible refine below_more _ _ _ ?_ ?_) | (with_reducible refine Below.alloc ?_ ?_ _) | (with_reducible refine Below.drew ?_) | (with_reducible refine Below.setCell ?_ ?_ _) | go_size)) (Nat.le_refl _)) (HN.out.2.1.mono (Nat.le_refl _)), HN.out.2.2⟩
end
end Go.Proofs.YtoimjjhopljdmaaGreat
namespace Go.Proofs.YtoimjjhopljdmaaGreat
open Go.RowKit

theorem st_boxB (V : World) (b : Nat) (h11 : ∀ j, j < 11 → (V.cell? ⟨b, j, none⟩).isSome = true) (hf : ∀ j, V.frozen? ⟨b, j, none⟩ = false) (hb : b < V.heap.size) (x : Bun) :
    ∃ V2, (∀ d os, (stB ⟨b, 0, none⟩ (.agg (bunL x).toArray)).run Tryz.prog (more V d os) = .ok () (more V2 d os)) ∧ (∀ j v, (bunL x)[j]? = some v → V2.cell? ⟨b, j, none⟩ = some v) ∧ V2.heap.size = V.heap.size ∧ Turned V V2 (some b) := by
  have key : ∀ W : World, (∀ j, j < 11 → (W.cell? ⟨b, j, none⟩).isSome = true) → (∀ j, W.frozen? ⟨b, j, none⟩ = false) → (stB ⟨b, 0, none⟩ (.agg (bunL x).toArray)).run Tryz.prog W = .ok () (W.setCells b 0 (bunL x)) := fun W hw hv => by
    have h := Go.run_storeCells_cells (P := Tryz.prog) b 0 (bunL x) 0 W (fun j hj => by rw [show 0 + 0 + j = j by omega]; exact hw j hj) (fun j _ => hv _) (bunL_one x)
    exact stB_of rfl (by simpa using h)
  have hin := World.cell?_setCells_in b (bunL x) 0 V fun j hj => by rw [Nat.zero_add]; exact h11 j hj
  refine ⟨V.setCells b 0 (bunL x), fun d os => ?_, fun j v hj => ?_, size_setCells _ _ _ _, setCells_turned _ _ _ _⟩
  · rw [key _ (fun j hj => by rw [more_cell _ _ _ _ hb]; exact h11 j hj) (fun j => by rw [more_frozen _ _ _ _ hb]; exact hf j), more_setCells _ _ _ _ _ _ hb]
  · have hlt := (List.getElem?_eq_some_iff.1 hj).1
    have := hin j hlt
    rw [Nat.zero_add] at this
    rw [this, ← hj, List.getElem?_eq_getElem hlt]
theorem ldB_at {W : World} {b o : Nat} {x : Bun} (h : ∀ j v, (bunL x)[j]? = some v → W.cell? ⟨b, o + j, none⟩ = some v) : (ldB ⟨b, o, none⟩).run Tryz.prog W = .ok (.agg (bunL x).toArray) W :=
  ldB_of (Go.Proofs.run_loadCellsFrom_list Tryz.prog W ⟨b, o, none⟩ (bunL x) 11 rfl (fun j v hj => by rw [Addr.add_lit]; exact h j v hj))
theorem results_bb {fn : Func} {a b : Tmp} {tmps : Array Value} {W : World} {ad : Addr} {v vb : Value} (h : fn.results = #[.cell a 32, .tmp b]) (ha : tmps.getD a undef = .pointer (some ad)) (hb : tmps.getD b undef = vb) (hl : (ldB ad).run Tryz.prog W = .ok v W) :
    (results fn tmps).run Tryz.prog W = .ok (.tuple #[v, vb]) W := by
  unfold results
  rw [h]
  simp only [List.mapM_toArray, List.mapM_cons, List.mapM_nil, ha, hb, loadVar_ldB]
  simp [asAddr, hl, go_sem]
attribute [local go_sem ↓] loadVar_ldB storeVar_stB
set_option maxRecDepth 100000 in
set_option maxHeartbeats 4000000 in
theorem wfind_no {w0 W : World} {F : Ob} {p : Nat} {c : Cfg} {X : Wo} (h : Own w0 W ((worldO p c X).and F)) (s i g : Int) (hl : X.L.length ≤ 1000000) {x : Int} (hfb : findB s i g X.L 0 = (x, false)) :
    Calls Tryz.prog 28 #[.pointer (some ⟨p, 0, none⟩), .agg #[.int .i64 s, .int .i64 i, .int .i64 g]] W fun e w' => e = .returned (.tuple #[.agg #[.int .i64 0, .int .i64 0, .int .i64 0, .int .i64 0, .int .i64 0, .int .i64 0, .int .i64 0, .int .i64 0, .int .i64 0, .int .i64 0, .int .i64 0], .bool false]) ∧ Below W.heap.size W w' := by
  obtain ⟨d, v, h⟩ := wopen h
  have hb := h.box
  have x1 := hb.1 1
  simp at x1
  have lp := hb.2.2.1
  obtain ⟨hs, _⟩ := h.third.sl
  have hin := BIn.of_sl hs
  obtain ⟨pv, cv, rfl⟩ := sl_frm hs
  obtain ⟨w1, hw1, hb1, k0, k1, g0, g1, hsz⟩ := two_boxes W #[.int .i64 s, .int .i64 i, .int .i64 g] #[.int .i64 0, .int .i64 0, .int .i64 0, .int .i64 0, .int .i64 0, .int .i64 0, .int .i64 0, .int .i64 0, .int .i64 0, .int .i64 0, .int .i64 0] 30 32
  have HFI := Lib.hid (fun V (hV : Below w1.heap.size w1 V) => find_any (.slice pv X.L.length cv) X.L s i g V ((hin.keep hb1).keep hV) hl)
  rw [hfb] at HFI
  simp only at HFI
  have x1' := (hb1.cell (p := ⟨p, 1, none⟩) lp).trans x1
  have lp1 := Nat.lt_of_lt_of_le lp hb1.size
  have s6 : W.heap.size < w1.heap.size := by omega
  have s7 : W.heap.size + 1 < w1.heap.size := by omega
  obtain ⟨w2, hS, hq, hsz2, ht2⟩ := st_boxB w1.drew (W.heap.size + 1) (fun j hj => by rw [show w1.drew.cell? ⟨W.heap.size + 1, j, none⟩ = w1.cell? ⟨W.heap.size + 1, j, none⟩ from rfl, k1 j, Array.getElem?_eq_getElem (by simpa using hj)]; rfl) (fun j => g1 j) s7 ⟨0, 0, 0, 0, 0, 0, 0, 0, 0, 0, 0⟩
  have hS' : ∀ d os, (stB ⟨W.heap.size + 1, 0, none⟩ (.agg #[.int .i64 0, .int .i64 0, .int .i64 0, .int .i64 0, .int .i64 0, .int .i64 0, .int .i64 0, .int .i64 0, .int .i64 0, .int .i64 0, .int .i64 0])).run Tryz.prog (more w1.drew d os) = .ok () (more w2 d os) := hS
  have hb2 : Below W.heap.size W w2 := Turned.below_new ht2 (fun q hq => by cases hq; omega) (hb1.trans (show Below W.heap.size w1 w1.drew from (by repeat' (first | (with_reducible exact Below.refl _ _) | (with_reducible assumption) | (with_reducible refine below_drewN ?_ _) | (with_reducible refine below_more _ _ _ ?_ ?_) | (with_reducible refine Below.alloc ?_ ?_ _) | (with_reducible refine Below.drew ?_) | (with_reducible refine Below.setCell ?_ ?_ _) | go_size)))) (by simp; omega)
  have hld : ∀ d os, (ldB ⟨W.heap.size + 1, 0, none⟩).run Tryz.prog (more w2 d os) = .ok (.agg #[.int .i64 0, .int .i64 0, .int .i64 0, .int .i64 0, .int .i64 0, .int .i64 0, .int .i64 0, .int .i64 0, .int .i64 0, .int .i64 0, .int .i64 0]) (more w2 d os) := fun d os => ldB_at (x := ⟨0, 0, 0, 0, 0, 0, 0, 0, 0, 0, 0⟩) fun j v hj => by rw [Nat.zero_add, more_cell _ _ _ _ (by simp only; rw [hsz2]; exact s7)]; exact hq j v hj
  have HW1 := Lib.hid hw1
  have y0 := k0 0; simp at y0; have y1 := k0 1; simp at y1; have y2 := k0 2; simp at y2
  obtain ⟨z0, z1, z2⟩ := ltz lp1
  obtain ⟨z3, z4, z5⟩ := ltz s6
  clear h hb x1 lp hs hin hw1 hb1 k0 k1 g0 g1 hsz hfb hS hq hsz2 ht2
  go_enter Tryz.func28, Tryz.ntmps28
  go_upto_region 1 with fail
  rw [← HW1.out]
  go_upto_region 3 with fail
  go_region_held3 (fun W => (w1).heap.size ≤ W.heap.size ∧ ∀ b o, b < (w1).heap.size → W.cell? ⟨b, o, none⟩ = (w1).cell? ⟨b, o, none⟩) (with_reducible (repeat (first | assumption | exact s_refl _ | exact s_id _ | refine s_more _ _ ?_ | refine s_alloc _ ?_ | refine s_drew ?_))) (first | (go_at_call 63; refine (HFI.out _ (by repeat' (first | (with_reducible exact Below.refl _ _) | (with_reducible assumption) | (with_reducible refine below_drewN ?_ _) | (with_reducible refine below_more _ _ _ ?_ ?_) | (with_reducible refine Below.alloc ?_ ?_ _) | (with_reducible refine Below.drew ?_) | (with_reducible refine Below.setCell ?_ ?_ _) | go_size))).mono ?_; rintro e w' ⟨rfl, hb⟩; obtain ⟨d2, os2, rfl⟩ := more_of hb; clear hb))
  go_wp2_with fail
  exact bodyPost_ret (results_bb Tryz.results28 rfl rfl (hld _ _)) rfl ⟨rfl, hb2.trans (Below.mono (B := w2.heap.size) (by repeat' (first | (with_reducible exact Below.refl _ _) | (with_reducible assumption) | (with_reducible refine below_drewN ?_ _) | (with_reducible refine below_more _ _ _ ?_ ?_) | (with_reducible refine Below.alloc ?_ ?_ _) | (with_reducible refine Below.drew ?_) | (with_reducible refine Below.setCell ?_ ?_ _) | go_size)) hb2.size)⟩

set_option maxRecDepth 100000 in
set_option maxHeartbeats 4000000 in
theorem wfind_yes {w0 W : World} {F : Ob} {p : Nat} {c : Cfg} {X : Wo} (h : Own w0 W ((worldO p c X).and F)) (s i g : Int) (hl : X.L.length ≤ 1000000) {q : Nat} (us ui ug um ux uy uvx uvy uhp upw ulf : Int) (hfb : findB s i g X.L 0 = ((q : Int), true)) (hgq : X.L[q]? = some ⟨us, ui, ug, um, ux, uy, uvx, uvy, uhp, upw, ulf⟩) :
    Calls Tryz.prog 28 #[.pointer (some ⟨p, 0, none⟩), .agg #[.int .i64 s, .int .i64 i, .int .i64 g]] W fun e w' => e = .returned (.tuple #[.agg #[.int .i64 us, .int .i64 ui, .int .i64 ug, .int .i64 um, .int .i64 ux, .int .i64 uy, .int .i64 uvx, .int .i64 uvy, .int .i64 uhp, .int .i64 upw, .int .i64 ulf], .bool true]) ∧ Below W.heap.size W w' := by
  obtain ⟨d, v, h⟩ := wopen h
  have hb := h.box
  have x1 := hb.1 1
  simp at x1
  have lp := hb.2.2.1
  obtain ⟨hs, _⟩ := h.third.sl
  have hin := BIn.of_sl hs
  obtain ⟨pv, cv, rfl⟩ := sl_frm hs
  obtain ⟨w1, hw1, hb1, k0, k1, g0, g1, hsz⟩ := two_boxes W #[.int .i64 s, .int .i64 i, .int .i64 g] #[.int .i64 0, .int .i64 0, .int .i64 0, .int .i64 0, .int .i64 0, .int .i64 0, .int .i64 0, .int .i64 0, .int .i64 0, .int .i64 0, .int .i64 0] 30 32
  have HFI := Lib.hid (fun V (hV : Below w1.heap.size w1 V) => find_any (.slice pv X.L.length cv) X.L s i g V ((hin.keep hb1).keep hV) hl)
  rw [hfb] at HFI
  simp only at HFI
  have x1' := (hb1.cell (p := ⟨p, 1, none⟩) lp).trans x1
  have lp1 := Nat.lt_of_lt_of_le lp hb1.size
  have s6 : W.heap.size < w1.heap.size := by omega
  have s7 : W.heap.size + 1 < w1.heap.size := by omega
  obtain ⟨w2, hS, hq, hsz2, ht2⟩ := st_boxB w1.drew (W.heap.size + 1) (fun j hj => by rw [show w1.drew.cell? ⟨W.heap.size + 1, j, none⟩ = w1.cell? ⟨W.heap.size + 1, j, none⟩ from rfl, k1 j, Array.getElem?_eq_getElem (by simpa using hj)]; rfl) (fun j => g1 j) s7 ⟨us, ui, ug, um, ux, uy, uvx, uvy, uhp, upw, ulf⟩
  have hS' : ∀ d os, (stB ⟨W.heap.size + 1, 0, none⟩ (.agg #[.int .i64 us, .int .i64 ui, .int .i64 ug, .int .i64 um, .int .i64 ux, .int .i64 uy, .int .i64 uvx, .int .i64 uvy, .int .i64 uhp, .int .i64 upw, .int .i64 ulf])).run Tryz.prog (more w1.drew d os) = .ok () (more w2 d os) := hS
  have hb2 : Below W.heap.size W w2 := Turned.below_new ht2 (fun q hq => by cases hq; omega) (hb1.trans (show Below W.heap.size w1 w1.drew from (by repeat' (first | (with_reducible exact Below.refl _ _) | (with_reducible assumption) | (with_reducible refine below_drewN ?_ _) | (with_reducible refine below_more _ _ _ ?_ ?_) | (with_reducible refine Below.alloc ?_ ?_ _) | (with_reducible refine Below.drew ?_) | (with_reducible refine Below.setCell ?_ ?_ _) | go_size)))) (by simp; omega)
  have hld : ∀ d os, (ldB ⟨W.heap.size + 1, 0, none⟩).run Tryz.prog (more w2 d os) = .ok (.agg #[.int .i64 us, .int .i64 ui, .int .i64 ug, .int .i64 um, .int .i64 ux, .int .i64 uy, .int .i64 uvx, .int .i64 uvy, .int .i64 uhp, .int .i64 upw, .int .i64 ulf]) (more w2 d os) := fun d os => ldB_at (x := ⟨us, ui, ug, um, ux, uy, uvx, uvy, uhp, upw, ulf⟩) fun j v hj => by rw [Nat.zero_add, more_cell _ _ _ _ (by simp only; rw [hsz2]; exact s7)]; exact hq j v hj
  obtain ⟨blk, off, cap', hve, hLQ⟩ := BIn.ldm (show BIn w1.drew _ _ from (hin.keep hb1).keep (show Below w1.heap.size w1 w1.drew from (by repeat' (first | (with_reducible exact Below.refl _ _) | (with_reducible assumption) | (with_reducible refine below_drewN ?_ _) | (with_reducible refine below_more _ _ _ ?_ ?_) | (with_reducible refine Below.alloc ?_ ?_ _) | (with_reducible refine Below.drew ?_) | (with_reducible refine Below.setCell ?_ ?_ _) | go_size)))) hgq
  simp only [Value.slice.injEq, true_and] at hve
  obtain ⟨rfl, rfl⟩ := hve
  have hLQ' : ∀ d os, (ldB ⟨blk, off + q * 11, none⟩).run Tryz.prog (more w1.drew d os) = .ok (.agg #[.int .i64 us, .int .i64 ui, .int .i64 ug, .int .i64 um, .int .i64 ux, .int .i64 uy, .int .i64 uvx, .int .i64 uvy, .int .i64 uhp, .int .i64 upw, .int .i64 ulf]) (more w1.drew d os) := hLQ
  have hqi : (q : Int) < (X.L.length : Int) := by have := (List.getElem?_eq_some_iff.1 hgq).1; omega
  have hq0 : 0 ≤ (q : Int) := by omega
  clear hLQ hgq
  have HW1 := Lib.hid hw1
  have y0 := k0 0; simp at y0; have y1 := k0 1; simp at y1; have y2 := k0 2; simp at y2
  obtain ⟨z0, z1, z2⟩ := ltz lp1
  obtain ⟨z3, z4, z5⟩ := ltz s6
  clear h hb x1 lp hs hin hw1 hb1 k0 k1 g0 g1 hsz hfb hS hq hsz2 ht2
  go_enter Tryz.func28, Tryz.ntmps28
  go_upto_region 1 with fail
  rw [← HW1.out]
  go_upto_region 3 with fail
  go_region_held3 (fun W => (w1).heap.size ≤ W.heap.size ∧ ∀ b o, b < (w1).heap.size → W.cell? ⟨b, o, none⟩ = (w1).cell? ⟨b, o, none⟩) (with_reducible (repeat (first | assumption | exact s_refl _ | exact s_id _ | refine s_more _ _ ?_ | refine s_alloc _ ?_ | refine s_drew ?_))) (first | (go_at_call 63; refine (HFI.out _ (by repeat' (first | (with_reducible exact Below.refl _ _) | (with_reducible assumption) | (with_reducible refine below_drewN ?_ _) | (with_reducible refine below_more _ _ _ ?_ ?_) | (with_reducible refine Below.alloc ?_ ?_ _) | (with_reducible refine Below.drew ?_) | (with_reducible refine Below.setCell ?_ ?_ _) | go_size))).mono ?_; rintro e w' ⟨rfl, hb⟩; obtain ⟨d2, os2, rfl⟩ := more_of hb; clear hb))
  go_wp2_with fail
  exact bodyPost_ret (results_bb Tryz.results28 rfl rfl (hld _ _)) rfl ⟨rfl, hb2.trans (Below.mono (B := w2.heap.size) (by repeat' (first | (with_reducible exact Below.refl _ _) | (with_reducible assumption) | (with_reducible refine below_drewN ?_ _) | (with_reducible refine below_more _ _ _ ?_ ?_) | (with_reducible refine Below.alloc ?_ ?_ _) | (with_reducible refine Below.drew ?_) | (with_reducible refine Below.setCell ?_ ?_ _) | go_size)) hb2.size)⟩

end Go.Proofs.YtoimjjhopljdmaaGreat
