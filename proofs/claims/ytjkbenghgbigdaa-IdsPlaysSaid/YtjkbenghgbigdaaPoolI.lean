/-
  The program's pool of names: List. No condition.
-/
import Derived.Test.YtjkbenghgbigdaaPoolG
namespace Go.Proofs.Ytjkbenghgbigdaa
open Go.RowKit

abbrev Id3 := Int × Int × Int
def idCells (l : List Id3) : List Value := l.flatMap fun x => [.int .i64 x.1, .int .i64 x.2.1, .int .i64 x.2.2]
def ixList (k : Int) : Int → List Ix → List Id3
  | _, [] => []
  | i, x :: xs => (if x.alive then [(k, i, x.gen)] else []) ++ ixList k (i + 1) xs
def shList : Int → List Sh → List Id3
  | _, [] => []
  | k, m :: ms => ixList k 0 m.all ++ shList (k + 1) ms
def listF (M : List Sh) : List Id3 := shList 0 M

theorem ixList_snoc (k : Int) (x : Ix) : ∀ (l : List Ix) (i : Int), ixList k i (l ++ [x]) = ixList k i l ++ (if x.alive then [(k, i + l.length, x.gen)] else [])
  | [], i => by simp [ixList]
  | y :: l, i => by
    simp only [List.cons_append, ixList, ixList_snoc k x l (i + 1), List.append_assoc, List.length_cons]
    rw [show i + 1 + (l.length : Int) = i + ((l.length + 1 : Nat) : Int) by omega]
theorem shList_snoc (m : Sh) : ∀ (l : List Sh) (k : Int), shList k (l ++ [m]) = shList k l ++ ixList (k + l.length) 0 m.all
  | [], k => by simp [shList]
  | y :: l, k => by
    simp only [List.cons_append, shList, shList_snoc m l (k + 1), List.append_assoc, List.length_cons]
    rw [show k + 1 + (l.length : Int) = k + ((l.length + 1 : Nat) : Int) by omega]
theorem ixList_le (k : Int) : ∀ (l : List Ix) (i : Int), (ixList k i l).length ≤ l.length
  | [], _ => by simp [ixList]
  | x :: l, i => by
    have := ixList_le k l (i + 1)
    simp only [ixList, List.length_append, List.length_cons]
    split <;> simp <;> omega
theorem shList_le : ∀ (l : List Sh) (k : Int), (∀ m ∈ l, m.all.length ≤ 16) → (shList k l).length ≤ 16 * l.length
  | [], _, _ => by simp [shList]
  | m :: l, k, h => by
    have h1 := shList_le l (k + 1) fun m hm => h m (List.mem_cons_of_mem _ hm)
    have h2 := ixList_le k m.all 0
    have h3 := h m (by simp)
    simp only [shList, List.length_append, List.length_cons]
    omega
theorem idCells_app (l l' : List Id3) : idCells (l ++ l') = idCells l ++ idCells l' := by simp [idCells]
theorem idCells_one (s i g : Int) : idCells [(s, i, g)] = [.int .i64 s, .int .i64 i, .int .i64 g] := by simp [idCells]

/-- v reads as the names l, in memory of the call's own. -/
def ListAt (w wr : World) (v : Value) (l : List Id3) : Prop := Sl wr 30 3 v l.length (idCells l) ∧ Below w.heap.size w wr ∧ ∀ g, v.ownBlock = some g → w.heap.size ≤ g

theorem ListAt.later {w wr W : World} {v : Value} {l : List Id3} (h : ListAt w wr v l) (hb : Below wr.heap.size wr W) : ListAt w W v l :=
  ⟨h.1.keep fun g hg => hb.block g (h.1.lt hg), h.2.1.trans (hb.mono h.2.1.size), h.2.2⟩

theorem ListAt.snoc {w W w1 : World} {v v' : Value} {l : List Id3} {s i g : Int} (h : ListAt w W v l) (hs : Sl w1 30 3 v' (l.length + 1) (idCells l ++ [.int .i64 s, .int .i64 i, .int .i64 g])) (ht : Turned W w1 v.ownBlock)
    (ho : v'.ownBlock = v.ownBlock ∨ ∃ g, v'.ownBlock = some g ∧ W.heap.size ≤ g) : ListAt w w1 v' (l ++ [(s, i, g)]) := by
  refine ⟨?_, h.2.1.trans ⟨ht.os, ht.tape, ht.output, ht.size, fun k hk => ht.block k (by have := h.2.1.size; omega) fun e => by have := h.2.2 k e.symm; omega⟩, fun q hq => ?_⟩
  · rw [idCells_app, idCells_one]; simpa using hs
  · rcases ho with e | ⟨g', e, hg'⟩
    · exact h.2.2 q (by rw [← e]; exact hq)
    · rw [e] at hq
      cases hq
      exact Nat.le_trans h.2.1.size hg'

theorem info_id : (Try.prog.info? 30).map (fun i => (i.zero, i.size, i.bytes)) = some (some (.agg #[.int .i64 0, .int .i64 0, .int .i64 0]), 3, 24) := by kernel_rfl

theorem list_none (w : World) : Calls Try.prog 37 #[.pointer none] w fun e w' => e = .returned (.slice none 0 0) ∧ w = w' := by
  go_enter Try.func37, Try.ntmps37
  go_wp2
  go_ret
  exact ⟨rfl, rfl⟩

set_option maxRecDepth 100000 in
set_option maxHeartbeats 4000000 in
theorem list_any (w : World) (L : Lay) (M : List Sh) (h : PoolAt w L M) :
    Calls Try.prog 37 #[.pointer (some ⟨L.P, 0, none⟩)] w fun e w' => ∃ v, e = .returned v ∧ ListAt w w' v (listF M) := by
  obtain ⟨i0, hi0, hz0, hz1, hz2⟩ := info_parts info_id
  have hfew := h.few
  have hc : w.cell? ⟨L.P, 0, none⟩ = some (.slice (some ⟨L.S, 0, none⟩) M.length M.length) := by simp [World.cell?, h.top]
  have HP := Lib.hid h
  have hm16 : ∀ m ∈ M, m.all.length ≤ 16 := by
    intro m hm
    obtain ⟨k, hk, rfl⟩ := List.getElem_of_mem hm
    have hkl : k < L.sh.length := by rw [h.len]; exact hk
    exact (h.sh (List.getElem?_eq_getElem hk) (List.getElem?_eq_getElem hkl)).2.2.2.2.1.few
  have HM := Lib.hid hm16
  clear h hm16
  go_enter Try.func37, Try.ntmps37
  go_wp2_with fail
  go_loopw [3, 16] (fun v i wr => ∃ k : Nat, k ≤ M.length ∧ i = .int .i64 k ∧ ListAt w wr v (shList 0 (M.take k))) (fun _ i _ => M.length - (intOf i).toNat)
  case atStart => exact ⟨0, Nat.zero_le _, rfl, ⟨by simp [shList, idCells], .inl ⟨rfl, by simp [shList]⟩⟩, Below.refl _ _, fun g hg => by cases hg⟩
  case round =>
    obtain ⟨k, hk, rfl, hl⟩ := hrel
    obtain ⟨wo, rfl⟩ : ∃ wo : World, wo = wr := ⟨_, rfl⟩
    by_cases hlt : k < M.length
    · have hkl : k < L.sh.length := by rw [HP.out.len]; exact hlt
      have hmk : M[k]? = some M[k] := List.getElem?_eq_getElem hlt
      have hlk : L.sh[k]? = some L.sh[k] := List.getElem?_eq_getElem hkl
      have hll := shList_le (M.take k) 0 (fun m hm => HM.out m (List.mem_of_mem_take hm))
      rw [List.length_take] at hll
      have hsn := shList_snoc M[k] (M.take k) 0
      rw [List.take_append_getElem hlt, List.length_take, Nat.min_eq_left hk] at hsn
      generalize M[k] = m at *
      generalize L.sh[k] = l at *
      have PW := HP.out.grown hl.2.1
      obtain ⟨d0, d1, _, _, hinv, _, hsl⟩ := PW.sh hmk hlk
      obtain ⟨pf, cf, hfv, hfl, _⟩ := Sl.cells hsl
      rw [hfv] at d1
      have HSN := Lib.hid hsn
      have HL := Lib.hid hl
      have hfw := hinv.few
      have b2 : L.S < wo.heap.size := World.block_lt_of_cell? wo _ d0
      have HPW := Lib.hid PW
      have HMK := Lib.hid hmk
      have HLK := Lib.hid hlk
      unfold maxLen at hfl
      clear hsn hl hsl hfv PW hmk hlk
      generalize m.free.length = fl at *
      go_wp2_with fail
      go_loopw [3, 24] (fun v i wr => ∃ q : Nat, q ≤ m.all.length ∧ i = .int .i64 q ∧ ListAt w wr v (shList 0 (M.take k) ++ ixList k 0 (m.all.take q))) (fun _ i _ => m.all.length - (intOf i).toNat)
      case atStart => exact ⟨0, Nat.zero_le _, rfl, by simpa [ixList] using HL.out.later (by repeat' (first | (with_reducible exact Below.refl _ _) | (with_reducible assumption) | (with_reducible refine below_drewN ?_ _) | (with_reducible refine below_more _ _ _ ?_ ?_) | (with_reducible refine Below.alloc ?_ ?_ _) | (with_reducible refine Below.drew ?_) | (with_reducible refine Below.setCell ?_ ?_ _) | go_size))⟩
      case round =>
        obtain ⟨q, hq, rfl, hl⟩ := hrel
        obtain ⟨wi, rfl⟩ : ∃ wi : World, wi = wr := ⟨_, rfl⟩
        by_cases hqi : q < m.all.length
        · have hxq : m.all[q]? = some m.all[q] := List.getElem?_eq_getElem hqi
          have PI := HP.out.grown hl.2.1
          have hsn := ixList_snoc k m.all[q] (m.all.take q) 0
          rw [List.take_append_getElem hqi, List.length_take, Nat.min_eq_left hq] at hsn
          have hle := ixList_le k (m.all.take q) 0
          rw [List.length_take] at hle
          generalize m.all[q] = x at *
          obtain ⟨c0, c1, c2⟩ := PI.ix HMK.out HLK.out hxq
          have b1 : l.A < wi.heap.size := World.block_lt_of_cell? wi _ c0
          have HL2 := Lib.hid hl
          have HS2 := Lib.hid hsn
          have HXQ := Lib.hid hxq
          have hlen : (shList 0 (M.take k) ++ ixList k 0 (m.all.take q)).length ≤ 1000 := by rw [List.length_append]; omega
          generalize hll2 : shList 0 (M.take k) ++ ixList k 0 (m.all.take q) = ll at *
          have HLL := Lib.hid hll2
          clear hl hsn hxq PI hle hll hll2
          obtain ⟨gen, bound, alive⟩ := x
          simp only at c0 c1 c2
          cases alive with
          | false =>
            have e2 : shList 0 (M.take k) ++ ixList k 0 (m.all.take (q + 1)) = ll := by rw [HS2.out]; simpa using HLL.out
            have E2 := Lib.hid e2
            clear e2
            go_wp2_with fail
            go_roundw
            case rel => exact ⟨q + 1, by omega, by go_num, by rw [E2.out]; exact HL2.out.later (by repeat' (first | (with_reducible exact Below.refl _ _) | (with_reducible assumption) | (with_reducible refine below_drewN ?_ _) | (with_reducible refine below_more _ _ _ ?_ ?_) | (with_reducible refine Below.alloc ?_ ?_ _) | (with_reducible refine Below.drew ?_) | (with_reducible refine Below.setCell ?_ ?_ _) | go_size))⟩
            case measure => simp [intOf]; omega
          | true =>
            have e2 : shList 0 (M.take k) ++ ixList k 0 (m.all.take (q + 1)) = ll ++ [((k : Int), (q : Int), gen)] := by rw [HS2.out, ← List.append_assoc, HLL.out]; simp
            have E2 := Lib.hid e2
            clear e2
            go_wp2_with (at_builtin; refine wpList_append_sl _ (by rfl) _ _ 27 (by rfl) 30 i0 _ 3 24 Try.underlying27 hi0 hz0 hz1 hz2 rfl (by omega) u3 ll.length (idCells ll) (by rfl) (HL2.out.later (by repeat' (first | (with_reducible exact Below.refl _ _) | (with_reducible assumption) | (with_reducible refine below_drewN ?_ _) | (with_reducible refine below_more _ _ _ ?_ ?_) | (with_reducible refine Below.alloc ?_ ?_ _) | (with_reducible refine Below.drew ?_) | (with_reducible refine Below.setCell ?_ ?_ _) | go_size))).1 ⟨_, 0, none⟩ 1 1 [.int .i64 k, .int .i64 q, .int .i64 gen] (by rfl) (by rfl) (World.news_of_block (cs := #[.int .i64 k, .int .i64 q, .int .i64 gen]) (t := 30) (fr := (0, 0)) (by have h := heap_alloc_new (wi.alloc (.cells #[.int .i64 gen, .int .i64 bound, .bool true] 92)) (.cells #[.int .i64 k, .int .i64 q, .int .i64 gen] 30); rw [World.size_alloc] at h; exact h)) (by simp [Value.oneCell']) (by omega) (by unfold maxLen; omega) (by omega) ?_; intro v' w1 hs1 ht ho)
            go_roundw
            case rel => exact ⟨q + 1, by omega, by go_num, by rw [E2.out]; exact (HL2.out.later (by repeat' (first | (with_reducible exact Below.refl _ _) | (with_reducible assumption) | (with_reducible refine below_drewN ?_ _) | (with_reducible refine below_more _ _ _ ?_ ?_) | (with_reducible refine Below.alloc ?_ ?_ _) | (with_reducible refine Below.drew ?_) | (with_reducible refine Below.setCell ?_ ?_ _) | go_size))).snoc hs1 ht ho⟩
            case measure => simp [intOf]; omega
        · obtain rfl : q = m.all.length := by omega
          have e1 : shList 0 (M.take k) ++ ixList k 0 (m.all.take m.all.length) = shList 0 (M.take (k + 1)) := by rw [HSN.out, List.take_length]; simp
          rw [e1] at hl
          have HL2 := Lib.hid hl
          clear hl e1
          go_wp2_with fail
          go_roundw
          case rel => exact ⟨k + 1, by omega, by go_num, HL2.out⟩
          case measure => simp [intOf]; omega
    · obtain rfl : k = M.length := by omega
      rw [List.take_length] at hl
      have HL := Lib.hid hl
      clear hl
      go_wp2_with fail
      go_ret
      exact ⟨_, rfl, HL.out⟩
end Go.Proofs.Ytjkbenghgbigdaa
