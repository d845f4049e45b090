/-
  The reference's pool of names: List, as the program's. No condition.
  The reference's pool of names: New. No condition.
  The reference's pool of names: New, walked. No condition.
-/
import Derived.Test.YtbghjklnlhoklaaMk18
namespace Go.Proofs.Ytbghjklnlhoklaa
open Go.RowKit

theorem s_turned {W1 W w' : World} {o : Option Nat} (h : W1.heap.size ≤ W.heap.size ∧ ∀ b o, b < W1.heap.size → W.cell? ⟨b, o, none⟩ = W1.cell? ⟨b, o, none⟩) (ht : Turned W w' o) (ho : ∀ g, o = some g → W1.heap.size ≤ g) :
    W1.heap.size ≤ w'.heap.size ∧ ∀ b o, b < W1.heap.size → w'.cell? ⟨b, o, none⟩ = W1.cell? ⟨b, o, none⟩ :=
  ⟨Nat.le_trans h.1 ht.size, fun b j hb => (ht.cell (a := ⟨b, j, none⟩) (Nat.lt_of_lt_of_le hb h.1) fun e => by have := ho b e; omega).trans (h.2 b j hb)⟩
def rlL (l : List Slot) : List Id3 := l.flatMap fun s => if s.alive then [(s.k, s.i, s.gen)] else []
theorem rlL_succ {l : List Slot} {n : Nat} {s : Slot} (hs : l[n]? = some s) : rlL (l.take (n + 1)) = rlL (l.take n) ++ if s.alive then [(s.k, s.i, s.gen)] else [] := by
  have hn := (List.getElem?_eq_some_iff.1 hs).1
  rw [List.take_succ_eq_append_getElem hn, (List.getElem?_eq_some_iff.1 hs).2]
  simp [rlL]
theorem rlL_le : ∀ l : List Slot, (rlL l).length ≤ l.length
  | [] => by simp [rlL]
  | s :: l => by
    have := rlL_le l
    have e : rlL (s :: l) = (if s.alive then [(s.k, s.i, s.gen)] else []) ++ rlL l := by simp [rlL]
    rw [e, List.length_append, List.length_cons]
    split <;> simp <;> omega
theorem ixSlots_list (rw : Int → Int → Int) : ∀ (l : List Ix) (k i : Int), rlL (ixSlots rw k i l) = ixList k i l
  | [], _, _ => rfl
  | x :: l, k, i => by
    have := ixSlots_list rw l k (i + 1)
    simp only [rlL] at this
    simp [ixSlots, rlL, ixList, this]
theorem mSlots_list (rw : Int → Int → Int) : ∀ (M : List Sh) (k : Int), rlL (mSlots rw k M) = shList k M
  | [], _ => rfl
  | m :: M, k => by
    have h1 := ixSlots_list rw m.all k 0
    have h2 := mSlots_list rw M (k + 1)
    simp only [rlL] at h1 h2
    simp [mSlots, rlL, shList, h1, h2]

set_option maxRecDepth 100000 in
set_option maxHeartbeats 4000000 in
theorem rlist_any (w : World) (R : RLay) (ids : Nat) {c : Int} (M : List Sh) (h : RPool w R ids c M) : Calls Try.prog 62 #[.pointer (some ⟨R.p, 0, none⟩)] w fun e w' => ∃ v, e = .returned v ∧ ListAt w w' v (listF M) := by
  obtain ⟨i0, hi0, hz0, hz1, hz2⟩ := info_parts info_id
  obtain ⟨rw, put, h1, h2, hpc⟩ := h
  have hle : (mSlots rw 0 M).length ≤ 256 := by rw [mSlots_len M 0 h2.len]; exact Nat.mul_le_mul h2.pos.2.2 h2.pos.2.1
  have hres : listF M = rlL (mSlots rw 0 M) := (mSlots_list rw M 0).symm
  rw [hres]
  obtain ⟨c0, _, fp, fb, b0, b1⟩ := h1.tops
  obtain ⟨z1, z2⟩ := h1.bnd
  unfold maxLen at z2
  have HSL := Lib.hid fun n s => h1.slot (n := n) (s := s)
  clear h1 h2 hpc hres
  generalize mSlots rw 0 M = l at *
  go_enter Try.func62, Try.ntmps62
  go_wp2_with fail
  go_loopw [3, 4] (fun v x wr => ∃ n : Nat, n ≤ l.length ∧ x = .int .i64 n ∧ Hid (ListAt w wr v (rlL (l.take n)))) (fun _ x _ => l.length - (intOf x).toNat)
  case atStart => exact ⟨0, Nat.zero_le _, rfl, Lib.hid ⟨⟨by simp [rlL, idCells], .inl ⟨rfl, by simp [rlL]⟩⟩, Below.refl _ _, fun g hg => by cases hg⟩⟩
  case round =>
    obtain ⟨n, hn, rfl, hh⟩ := hrel
    obtain ⟨wo, rfl⟩ : ∃ wo : World, wo = wr := ⟨_, rfl⟩
    have hI : 0 ≤ (n : Int) := Int.natCast_nonneg n
    have hS : w.heap.size ≤ wo.heap.size ∧ ∀ b o, b < w.heap.size → wo.cell? ⟨b, o, none⟩ = w.cell? ⟨b, o, none⟩ := ⟨hh.out.2.1.size, (bcell hh.out.2.1).1⟩
    have hS2 := hS.2
    have hll := rlL_le (l.take n)
    rw [List.length_take, Nat.min_eq_left hn] at hll
    by_cases hlt : n < l.length
    · obtain ⟨s, hs⟩ : ∃ s, l[n]? = some s := ⟨_, List.getElem?_eq_getElem hlt⟩
      obtain ⟨s0, s1, s2, s3, s4, s5⟩ := HSL.out n s hs
      have hsn := rlL_succ hs
      have HSN := Lib.hid hsn
      clear hs hsn
      generalize rlL (l.take n) = ll at *
      obtain ⟨sk, si, sg, sb, srow, sa⟩ := s
      simp only at s0 s1 s2 s3 s4 s5
      cases sa with
      | false =>
        simp only [Bool.false_eq_true, if_false, List.append_nil] at HSN
        go_wp2_with fail
        go_roundw
        case rel => exact ⟨n + 1, hlt, by go_num, by rw [HSN.out]; exact Lib.hid (hh.out.later (by repeat' (first | (with_reducible exact Below.refl _ _) | (with_reducible assumption) | (with_reducible refine below_drewN ?_ _) | (with_reducible refine below_more _ _ _ ?_ ?_) | (with_reducible refine Below.alloc ?_ ?_ _) | (with_reducible refine Below.drew ?_) | (with_reducible refine Below.setCell ?_ ?_ _) | go_size)))⟩
        case measure => simp [intOf]; omega
      | true =>
        simp only [if_true] at HSN
        have HO := Lib.hid hh.out.2.2
        go_wp2_with fail
        go_region_held3 (fun W => w.heap.size ≤ W.heap.size ∧ ∀ b o, b < w.heap.size → W.cell? ⟨b, o, none⟩ = w.cell? ⟨b, o, none⟩) (with_reducible (repeat (first | assumption | exact hS | refine s_turned ?_ ht4 HO.out | refine s_alloc _ ?_ | refine s_drew ?_))) ((refine step_append_sl _ (by rfl) (.tmp 22) (.tmp 48) 38 (by rfl) 33 i0 _ 3 24 Try.underlying38 hi0 hz0 hz1 hz2 rfl (by omega) _ ll.length (idCells ll) (by rfl) (hh.out.later (by repeat' (first | (with_reducible exact Below.refl _ _) | (with_reducible assumption) | (with_reducible refine below_drewN ?_ _) | (with_reducible refine below_more _ _ _ ?_ ?_) | (with_reducible refine Below.alloc ?_ ?_ _) | (with_reducible refine Below.drew ?_) | (with_reducible refine Below.setCell ?_ ?_ _) | go_size))).1 ⟨_, 0, none⟩ 1 1 [.int .i64 sk, .int .i64 si, .int .i64 sg] (by rfl) (by rfl) (by intro j u hj; rcases j with _ | _ | _ | j <;> simp at hj <;> subst hj <;> simp [Addr.add, go_sem]) (by simp [Value.oneCell']) (by omega) (by unfold maxLen; omega) (by omega) ?_; intro g off cap w4 hs4 ht4 ho4))
        go_wp2_with fail
        go_roundw
        case rel => exact ⟨n + 1, hlt, by go_num, by rw [HSN.out]; exact Lib.hid ((hh.out.later (by repeat' (first | (with_reducible exact Below.refl _ _) | (with_reducible assumption) | (with_reducible refine below_drewN ?_ _) | (with_reducible refine below_more _ _ _ ?_ ?_) | (with_reducible refine Below.alloc ?_ ?_ _) | (with_reducible refine Below.drew ?_) | (with_reducible refine Below.setCell ?_ ?_ _) | go_size))).snoc hs4 ht4 (ho4.elim (fun h => .inl h.symm) fun h => .inr ⟨g, rfl, h⟩))⟩
        case measure => simp [intOf]; omega
    · obtain rfl : n = l.length := by omega
      rw [List.take_length] at hh
      clear hS
      go_wp2_with fail
      go_ret
      exact ⟨_, rfl, hh.out⟩
end Go.Proofs.Ytbghjklnlhoklaa
namespace Go.Proofs.Ytbghjklnlhoklaa
open Go.RowKit

def slCells (l : List Slot) : List Value := l.flatMap Slot.cells
def newL (ids n : Nat) : List Slot := (List.range n).map fun (j : Nat) => (⟨((j / ids : Nat) : Int), ((j % ids : Nat) : Int), 0, 0, (j : Int), false⟩ : Slot)
theorem newL_len (ids n : Nat) : (newL ids n).length = n := by simp [newL]
theorem newL_succ (ids n : Nat) : newL ids (n + 1) = newL ids n ++ [⟨((n / ids : Nat) : Int), ((n % ids : Nat) : Int), 0, 0, (n : Int), false⟩] := by simp [newL, List.range_succ]
theorem slCells_get : ∀ (l : List Slot) (n j : Nat) (s : Slot), l[n]? = some s → j < 6 → (slCells l)[n * 6 + j]? = s.cells[j]?
  | [], _, _, _, h, _ => by simp at h
  | t :: l, 0, j, s, h, hj => by
    obtain rfl : t = s := by simpa using h
    have e : slCells (t :: l) = t.cells ++ slCells l := by simp [slCells]
    rw [e, List.getElem?_append_left (by simp [Slot.cells]; omega)]
    simp
  | t :: l, n + 1, j, s, h, hj => by
    have e : slCells (t :: l) = t.cells ++ slCells l := by simp [slCells]
    have hl : t.cells.length = 6 := rfl
    rw [e, show (n + 1) * 6 + j = 6 + (n * 6 + j) by omega, List.getElem?_append_right (by rw [hl]; omega), hl, Nat.add_sub_cancel_left]
    exact slCells_get l n j s (by simpa using h) hj
theorem slCells_len (l : List Slot) : (slCells l).length = l.length * 6 := by
  induction l with
  | nil => simp [slCells]
  | cons s l ih =>
    have e : slCells (s :: l) = s.cells ++ slCells l := by simp [slCells]
    rw [e, List.length_append, ih, List.length_cons]
    simp [Slot.cells]; omega

/-- What has been made so far. -/
structure NewR (w wr : World) (ids n : Nat) (v : Value) : Prop where
  top : wr.heap[w.heap.size]? = some (.cells #[v, .int .i64 n] 98 (0, 0))
  sl : Sl wr 95 6 v n (slCells (newL ids n))
  ap : ∀ g, v.ownBlock = some g → w.heap.size ≤ g ∧ g ≠ w.heap.size
  hb : Below w.heap.size w wr

theorem NewR.later {w wr W : World} {ids n : Nat} {v : Value} (h : NewR w wr ids n v) (hb : Below wr.heap.size wr W) : NewR w W ids n v :=
  ⟨(hb.block _ (lt_of_heap h.top)).trans h.top, h.sl.keep fun g hg => hb.block g (h.sl.lt hg), h.ap, h.hb.trans (hb.mono h.hb.size)⟩
theorem NewR.facts {w wr : World} {ids n : Nat} {v : Value} (h : NewR w wr ids n v) : wr.cell? ⟨w.heap.size, 0, none⟩ = some v ∧ wr.cell? ⟨w.heap.size, 1, none⟩ = some (.int .i64 n) ∧ (∀ o, wr.frozen? ⟨w.heap.size, o, none⟩ = false) ∧ w.heap.size < wr.heap.size ∧ v.ownBlock ≠ some w.heap.size :=
  ⟨by simp [World.cell?, h.top], by simp [World.cell?, h.top], fun o => by simp [World.frozen?, h.top], lt_of_heap h.top, fun e => (h.ap _ e).2 rfl⟩

theorem NewR.app {w wo W w4 : World} {ids n k i : Nat} {v : Value} {g off cap : Nat} (h : NewR w wo ids n v) (hn : n = k * ids + i) (hi : i < ids) (hW : Below wo.heap.size wo W)
    (hs : Sl w4 95 6 (.slice (some ⟨g, off, none⟩) (n + 1) cap) (n + 1) (slCells (newL ids n) ++ [.int .i64 k, .int .i64 i, .int .i64 0, .int .i64 0, .int .i64 n, .bool false])) (ht : Turned W w4 v.ownBlock) (ho : v.ownBlock = some g ∨ W.heap.size ≤ g) :
    NewR w ((w4.setCell ⟨w.heap.size, 0, none⟩ (.slice (some ⟨g, off, none⟩) (n + 1) cap)).setCell ⟨w.heap.size, 1, none⟩ (.int .i64 ((n : Int) + 1))) ids (n + 1) (.slice (some ⟨g, off, none⟩) (n + 1) cap) := by
  have hlt := lt_of_heap h.top
  have hz := hW.size
  have hne : v.ownBlock ≠ some w.heap.size := fun e => (h.ap _ e).2 rfl
  have ht4 : w4.heap[w.heap.size]? = some (.cells #[v, .int .i64 n] 98 (0, 0)) := (ht.block _ (by omega) hne.symm).trans ((hW.block _ hlt).trans h.top)
  have hg : w.heap.size ≤ g ∧ g ≠ w.heap.size := by
    rcases ho with e | e
    · exact h.ap g e
    · exact ⟨by omega, by omega⟩
  have e1 : n / ids = k := by rw [hn, Nat.mul_comm, Nat.mul_add_div (by omega), Nat.div_eq_of_lt hi, Nat.add_zero]
  have e2 : n % ids = i := by rw [hn, Nat.mul_comm, Nat.mul_add_mod, Nat.mod_eq_of_lt hi]
  refine ⟨?_, ?_, fun q hq => ?_, ?_⟩
  · rw [heap_setCell_same _ _ _ _ _ _ _ (heap_setCell_same _ _ _ _ _ _ _ ht4)]; simp
  · have hs2 : Sl w4 95 6 (.slice (some ⟨g, off, none⟩) (n + 1) cap) (n + 1) (slCells (newL ids (n + 1))) := by
      have : slCells (newL ids (n + 1)) = slCells (newL ids n) ++ [.int .i64 k, .int .i64 i, .int .i64 0, .int .i64 0, .int .i64 n, .bool false] := by rw [newL_succ, e1, e2]; simp [slCells, Slot.cells]
      rw [this]; exact hs
    refine hs2.keep fun q hq => ?_
    obtain rfl : g = q := by simpa [Value.ownBlock] using hq
    rw [Below.heap_setCell _ _ _ _ (show g ≠ (⟨w.heap.size, 1, none⟩ : Addr).block from hg.2), Below.heap_setCell _ _ _ _ (show g ≠ (⟨w.heap.size, 0, none⟩ : Addr).block from hg.2)]
  · obtain rfl : g = q := by simpa [Value.ownBlock] using hq
    exact hg
  · have hb2 : Below w.heap.size w w4 := h.hb.trans ((hW.mono h.hb.size).trans ⟨ht.os, ht.tape, ht.output, ht.size, fun x hx => ht.block x (by have := h.hb.size; omega) fun e => by have := (h.ap x e.symm).1; omega⟩)
    exact (hb2.setCell (Nat.le_refl _) _).setCell (Nat.le_refl _) _

theorem newL_eq {shards ids : Nat} (h : 1 ≤ ids) : newL ids (shards * ids) = mSlots (fun a b => a * ids + b) 0 (List.replicate shards (fresh ids ids)) := by
  have hl : ∀ m ∈ List.replicate shards (fresh ids ids), m.all.length = ids := by
    intro m hm
    rw [List.eq_of_mem_replicate hm]; simp [fresh, freshIx]
  apply List.ext_getElem?
  intro n
  by_cases hn : n < shards * ids
  · have hk : n / ids < shards := by rw [Nat.div_lt_iff_lt_mul h]; exact hn
    have hi := Nat.mod_lt n h
    have := mSlots_get (rw := fun a b => a * ids + b) (List.replicate shards (fresh ids ids)) 0 (n / ids) (n % ids) (fresh ids ids) ⟨0, 0, false⟩ hl (by simp [hk]) (by simp [fresh, freshIx, hi])
    have hd : n / ids * ids + n % ids = n := by have := Nat.div_add_mod n ids; rw [Nat.mul_comm] at this; exact this
    rw [hd] at this
    rw [this]
    simp only [newL, List.getElem?_map, List.getElem?_range hn, Option.map_some, Option.some.injEq, Int.zero_add]
    congr 1
    have : ((n / ids * ids + n % ids : Nat) : Int) = n := by rw [hd]
    simpa using this.symm
  · rw [List.getElem?_eq_none (by rw [newL_len]; omega), List.getElem?_eq_none (by rw [mSlots_len _ 0 hl, List.length_replicate]; omega)]

theorem fresh_sim (shards ids : Nat) (h1 : shards ≤ 16) (h2 : 1 ≤ ids) (h3 : ids ≤ 16) : Sim ids (List.replicate shards (fresh ids ids)) (fun a b => a * ids + b) ((shards * ids : Nat) : Int) := by
  have hm : ∀ (k : Nat) (m : Sh), (List.replicate shards (fresh ids ids))[k]? = some m → k < shards ∧ m = fresh ids ids := by
    intro k m hm
    rw [List.getElem?_replicate] at hm
    split at hm
    · exact ⟨by assumption, by cases hm; rfl⟩
    · cases hm
  refine ⟨⟨h2, h3, by simpa using h1⟩, fun m hm => by rw [List.eq_of_mem_replicate hm]; simp [fresh, freshIx], fun m hm => by rw [List.eq_of_mem_replicate hm]; exact fresh_good ids h3, fun k m hk i hi => ?_, fun k m hk => ?_, by omega⟩
  · obtain ⟨hks, rfl⟩ := hm k m hk
    refine ⟨⟨fun _ => ?_, fun _ => ?_⟩, ?_⟩
    · simp [fresh]; exact ⟨i, hi, rfl⟩
    · have : (0 : Int) ≤ (k : Int) * (ids : Int) := Int.mul_nonneg (by omega) (by omega)
      omega
    · have h4 : (k + 1) * ids ≤ shards * ids := Nat.mul_le_mul_right ids hks
      rw [Nat.add_mul, Nat.one_mul] at h4
      have h5 : ((k * ids + i : Nat) : Int) < ((shards * ids : Nat) : Int) := by omega
      simpa using h5
  · obtain ⟨hks, rfl⟩ := hm k m hk
    simp only [fresh, List.map_map, List.pairwise_map]
    refine (List.pairwise_lt_range).imp fun h => ?_
    simp only [Function.comp, Int.ofNat_eq_natCast]
    omega
end Go.Proofs.Ytbghjklnlhoklaa
namespace Go.Proofs.Ytbghjklnlhoklaa
open Go.RowKit

theorem info_slot : (Try.prog.info? 95).map (fun i => (i.zero, i.size, i.bytes)) = some (some (.agg #[.int .i64 0, .int .i64 0, .int .i64 0, .int .i64 0, .int .i64 0, .bool false]), 6, 48) := by kernel_rfl
theorem NewR.done {w wr : World} {ids shards : Nat} {v : Value} (h : NewR w wr ids (shards * ids) v) (h1 : 1 ≤ shards) (h2 : shards ≤ 16) (h3 : 1 ≤ ids) (h4 : ids ≤ 16) :
    ∃ R : RLay, R.p = w.heap.size ∧ RPool wr R ids ((shards * ids : Nat) : Int) (List.replicate shards (fresh ids ids)) ∧ ∀ b, R.own b → w.heap.size ≤ b := by
  have hpos : 0 < shards * ids := Nat.mul_pos h1 h3
  obtain ⟨hl, ⟨_, h0⟩ | ⟨g, off, cap, cur, rfl, hb, hn, hc, hsz, hr⟩⟩ := h.sl
  · omega
  · have hg := h.ap g rfl
    refine ⟨⟨w.heap.size, g, off, cap⟩, rfl, ⟨_, _, ⟨?_, ⟨cur, hb, ?_, hc, hsz, fun n j s hs hj => ?_⟩, hg.2.symm⟩, fresh_sim shards ids h2 h3 h4, Int.le_refl _⟩, fun b hb => ?_⟩
    · rw [← newL_eq h3, newL_len]; exact h.top
    · rw [← newL_eq h3, newL_len]; exact hn
    · rw [← newL_eq h3] at hs
      have e := slCells_get _ n j s hs hj
      have hjl : j < s.cells.length := by simpa [Slot.cells] using hj
      rw [List.getElem?_eq_getElem hjl] at e ⊢
      have := hr _ _ e
      rw [← Nat.add_assoc] at this
      exact this
    · rcases hb with rfl | rfl
      · exact Nat.le_refl _
      · exact hg.1

theorem NewR.after {w wo W w4 : World} {ids n : Nat} {v : Value} (h : NewR w wo ids n v) (hW : Below wo.heap.size wo W) (ht : Turned W w4 v.ownBlock) :
    w4.cell? ⟨w.heap.size, 0, none⟩ = some v ∧ w4.cell? ⟨w.heap.size, 1, none⟩ = some (.int .i64 n) ∧ (∀ o, w4.frozen? ⟨w.heap.size, o, none⟩ = false) ∧ w.heap.size < w4.heap.size := by
  obtain ⟨_, _, _, h4, h5⟩ := h.facts
  obtain ⟨h1, h2, h3, h4, _⟩ := (h.later hW).facts
  exact ⟨(ht.cell (a := ⟨w.heap.size, 0, none⟩) h4 h5).trans h1, (ht.cell (a := ⟨w.heap.size, 1, none⟩) h4 h5).trans h2, fun o => (ht.frozen (a := ⟨w.heap.size, o, none⟩) h4 h5).trans (h3 o), Nat.lt_of_lt_of_le h4 ht.size⟩

set_option maxRecDepth 100000 in
set_option maxHeartbeats 4000000 in
theorem rnew_ok (shards ids : Nat) (w : World) (h1 : 1 ≤ shards) (h2 : shards ≤ 16) (h3 : 1 ≤ ids) (h4 : ids ≤ 16) : Calls Try.prog 55 #[.int .i64 shards, .int .i64 ids] w fun e w' =>
    e = .returned (.tuple #[.pointer (some ⟨w.heap.size, 0, none⟩), .bool true]) ∧ Below w.heap.size w w' ∧ ∃ R : RLay, R.p = w.heap.size ∧ RPool w' R ids ((shards * ids : Nat) : Int) (List.replicate shards (fresh ids ids)) ∧ ∀ b, R.own b → w.heap.size ≤ b := by
  obtain ⟨i0, hi0, hz0, hz1, hz2⟩ := info_parts info_slot
  have hsi : 0 ≤ (shards : Int) := by omega
  have hii : 0 ≤ (ids : Int) := by omega
  have b1 : (1 : Int) ≤ (shards : Int) := by omega
  have b2 : (shards : Int) ≤ 16 := by omega
  have b3 : (1 : Int) ≤ (ids : Int) := by omega
  have b4 : (ids : Int) ≤ 16 := by omega
  have h0 : ∀ W, W = w.alloc (.cells #[.slice none 0 0, .int .i64 0] 98) → NewR w W ids 0 (.slice none 0 0) := by
    rintro W rfl
    exact ⟨heap_alloc_new _ _, ⟨by simp [newL, slCells], .inl ⟨rfl, rfl⟩⟩, (fun g hg => by cases hg), (Below.refl _ _).alloc (Nat.le_refl _) _⟩
  have H0 := Lib.hid h0
  clear h0
  go_enter Try.func55, Try.ntmps55
  go_wp2_with fail
  go_loopw [7] (fun x wr => ∃ (k : Nat) (v : Value), k ≤ shards ∧ x = .int .i64 k ∧ Hid (NewR w wr ids (k * ids) v)) (fun x _ => shards - (intOf x).toNat)
  case atStart => exact ⟨0, _, Nat.zero_le _, rfl, Lib.hid (by rw [Nat.zero_mul]; exact H0.out _ rfl)⟩
  case round =>
    obtain ⟨k, v, hk, rfl, hh⟩ := hrel
    obtain ⟨wo, rfl⟩ : ∃ wo : World, wo = wr := ⟨_, rfl⟩
    have hkI : 0 ≤ (k : Int) := Int.natCast_nonneg k
    by_cases hlt : k < shards
    · go_wp2_with fail
      go_loopw [8] (fun x wr => ∃ (i : Nat) (v : Value), i ≤ ids ∧ x = .int .i64 i ∧ Hid (NewR w wr ids (k * ids + i) v)) (fun x _ => ids - (intOf x).toNat)
      case atStart => exact ⟨0, v, Nat.zero_le _, rfl, hh⟩
      case round =>
        clear hh
        obtain ⟨i, v, hi, rfl, hh⟩ := hrel
        obtain ⟨wi, rfl⟩ : ∃ wi : World, wi = wr := ⟨_, rfl⟩
        have hiI : 0 ≤ (i : Int) := Int.natCast_nonneg i
        by_cases hil : i < ids
        · obtain ⟨c0, c1, fp, bp, hne⟩ := hh.out.facts
          have hap := fun (W w4 : World) (g off cap : Nat) => NewR.app (W := W) (w4 := w4) (g := g) (off := off) (cap := cap) hh.out rfl hil
          have hn : k * ids + i ≤ 256 := by
            have : k * ids ≤ 15 * 16 := Nat.mul_le_mul (by omega) h4
            omega
          generalize hn0 : k * ids + i = n at *
          have HN := Lib.hid hn0
          clear hn0
          have HAP := Lib.hid hap
          have HNE := Lib.hid hne
          obtain ⟨y0, y1, y2, y3⟩ := lts bp
          clear hap hne
          go_wp2_with fail
          go_region_law ((refine step_append_sl _ (by rfl) (.tmp 39) (.tmp 47) 96 (by rfl) 95 i0 _ 6 48 Try.underlying96 hi0 hz0 hz1 hz2 rfl (by omega) _ n (slCells (newL ids n)) (by rfl) (hh.out.later (by repeat' (first | (with_reducible exact Below.refl _ _) | (with_reducible assumption) | (with_reducible refine below_drewN ?_ _) | (with_reducible refine below_more _ _ _ ?_ ?_) | (with_reducible refine Below.alloc ?_ ?_ _) | (with_reducible refine Below.drew ?_) | (with_reducible refine Below.setCell ?_ ?_ _) | go_size))).sl ⟨_, 0, none⟩ 1 1 [.int .i64 k, .int .i64 i, .int .i64 0, .int .i64 0, .int .i64 n, .bool false] (by rfl) (by rfl) (by intro j u hj; rcases j with _ | _ | _ | _ | _ | _ | j <;> simp at hj <;> subst hj <;> simp [Addr.add, go_sem]) (by simp [Value.oneCell']) (by omega) (by unfold maxLen; omega) (by omega) ?_; intro g off cap w4 hs4 ht4 ho4; obtain ⟨k0, k1, k2, k3⟩ := NewR.after hh.out (by repeat' (first | (with_reducible exact Below.refl _ _) | (with_reducible assumption) | (with_reducible refine below_drewN ?_ _) | (with_reducible refine below_more _ _ _ ?_ ?_) | (with_reducible refine Below.alloc ?_ ?_ _) | (with_reducible refine Below.drew ?_) | (with_reducible refine Below.setCell ?_ ?_ _) | go_size)) ht4))
          all_goals
            go_wp2_with fail
            go_roundw
            case rel => exact ⟨i + 1, _, hil, by go_num, by rw [show k * ids + (i + 1) = n + 1 by have := HN.out; omega]; exact Lib.hid ((HAP.out _ _ _ _ _ (by repeat' (first | (with_reducible exact Below.refl _ _) | (with_reducible assumption) | (with_reducible refine below_drewN ?_ _) | (with_reducible refine below_more _ _ _ ?_ ?_) | (with_reducible refine Below.alloc ?_ ?_ _) | (with_reducible refine Below.drew ?_) | (with_reducible refine Below.setCell ?_ ?_ _) | go_size)) hs4 ht4 ho4).later (by repeat' (first | (with_reducible exact Below.refl _ _) | (with_reducible assumption) | (with_reducible refine below_drewN ?_ _) | (with_reducible refine below_more _ _ _ ?_ ?_) | (with_reducible refine Below.alloc ?_ ?_ _) | (with_reducible refine Below.drew ?_) | (with_reducible refine Below.setCell ?_ ?_ _) | go_size)))⟩
            case measure => simp [intOf]; omega
        · obtain rfl : i = ids := by omega
          go_wp2_with fail
          go_roundw
          case rel => exact ⟨k + 1, v, hlt, by go_num, by rw [Nat.add_mul, Nat.one_mul]; exact hh⟩
          case measure => simp [intOf]; omega
    · obtain rfl : k = shards := by omega
      have hdone := hh.out.done h1 h2 h3 h4
      have HD := Lib.hid hdone
      have HB := Lib.hid hh.out.hb
      clear hdone
      go_wp2_with fail
      go_ret2
      exact ⟨rfl, HB.out, HD.out⟩

theorem rnew_bad (n ids : Int) (w : World) (h : n < 1 ∨ 16 < n ∨ ids < 1 ∨ 16 < ids) : Calls Try.prog 55 #[.int .i64 n, .int .i64 ids] w fun e w' => e = .returned (.tuple #[.pointer none, .bool false]) ∧ w = w' := by
  by_cases h1 : n < 1
  · clear h
    go_enter Try.func55, Try.ntmps55
    go_wp2
    go_ret2
    exact ⟨rfl, rfl⟩
  · by_cases h2 : 16 < n
    · clear h
      go_enter Try.func55, Try.ntmps55
      go_wp2
      go_ret2
      exact ⟨rfl, rfl⟩
    · by_cases h3 : ids < 1
      · clear h
        go_enter Try.func55, Try.ntmps55
        go_wp2
        go_ret2
        exact ⟨rfl, rfl⟩
      · have h4 : 16 < ids := by omega
        clear h
        go_enter Try.func55, Try.ntmps55
        go_wp2
        go_ret2
        exact ⟨rfl, rfl⟩
end Go.Proofs.Ytbghjklnlhoklaa
