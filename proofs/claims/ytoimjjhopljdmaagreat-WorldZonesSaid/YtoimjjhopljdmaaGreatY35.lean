/-
  Chapter texts RefJ RefK DkO DkN DkM: what the claim reaches of them. Conditions stand at each theorem.
-/
import Derived.Test.YtoimjjhopljdmaaGreatY34
import Derived.Test.YtoimjjhopljdmaaGreatY31
import Derived.Test.YtoimjjhopljdmaaGreatY32
import Derived.Test.YtoimjjhopljdmaaGreatY33
import Derived.Test.YtoimjjhopljdmaaGreatY10
import Derived.Test.YtoimjjhopljdmaaGreatY01
import Derived.Test.YtoimjjhopljdmaaGreatY02
import Derived.Test.YtoimjjhopljdmaaGreatY29
import Derived.Test.YtoimjjhopljdmaaGreatY08
import Derived.Test.YtoimjjhopljdmaaGreatY09
import Derived.Test.YtoimjjhopljdmaaGreatY30
import Derived.Test.YtoimjjhopljdmaaGreatY28
namespace Go.Proofs.YtoimjjhopljdmaaGreat
open Go.RowKit

def slCells (l : List Slot) : List Value := l.flatMap Slot.cells
def newL (ids n : Nat) : List Slot := (List.range n).map fun (j : Nat) => (⟨((j / ids : Nat) : Int), ((j % ids : Nat) : Int), 0, 0, (j : Int), false⟩ : Slot)
theorem newL_len (ids n : Nat) : (newL ids n).length = n := by simp [newL]
theorem newL_succ (ids n : Nat) : newL ids (n + 1) = newL ids n ++ [⟨((n / ids : Nat) : Int), ((n % ids : Nat) : Int), 0, 0, (n : Int), false⟩] := by simp [newL, List.range_succ]
theorem slCells_get : ∀ (l : List Slot) (n j : Nat) (s : Slot), l[n]? = some s → j < 6 → (slCells l)[n * 6 + j]? = s.cells[j]?
  | [], _, _, _, h, _ => by simp at h
  | t :: l, 0, j, s, h, hj => by
    obtain rfl : t = s := by simpa using h
    have e : slCells (t :: l) = t.cells ++ slCells l := by simp [slCells]
    rw [e, List.getElem?_append_left (by simp [Slot.cells]; omega)]
    simp
  | t :: l, n + 1, j, s, h, hj => by
    have e : slCells (t :: l) = t.cells ++ slCells l := by simp [slCells]
    have hl : t.cells.length = 6 := rfl
    rw [e, show (n + 1) * 6 + j = 6 + (n * 6 + j) by omega, List.getElem?_append_right (by rw [hl]; omega), hl, Nat.add_sub_cancel_left]
    exact slCells_get l n j s (by simpa using h) hj
structure NewR (w wr : World) (ids n : Nat) (v : Value) : Prop where
  top : wr.heap[w.heap.size]? = some (.cells #[v, .int .i64 n] 170 (0, 0))
  sl : Sl wr 167 6 v n (slCells (newL ids n))
  ap : ∀ g, v.ownBlock = some g → w.heap.size ≤ g ∧ g ≠ w.heap.size
  hb : Below w.heap.size w wr

theorem NewR.app {w wo W w4 : World} {ids n k i : Nat} {v : Value} {g off cap : Nat} (h : NewR w wo ids n v) (hn : n = k * ids + i) (hi : i < ids) (hW : Below wo.heap.size wo W)
    (hs : Sl w4 167 6 (.slice (some ⟨g, off, none⟩) (n + 1) cap) (n + 1) (slCells (newL ids n) ++ [.int .i64 k, .int .i64 i, .int .i64 0, .int .i64 0, .int .i64 n, .bool false])) (ht : Turned W w4 v.ownBlock) (ho : v.ownBlock = some g ∨ W.heap.size ≤ g) :
    NewR w ((w4.setCell ⟨w.heap.size, 0, none⟩ (.slice (some ⟨g, off, none⟩) (n + 1) cap)).setCell ⟨w.heap.size, 1, none⟩ (.int .i64 ((n : Int) + 1))) ids (n + 1) (.slice (some ⟨g, off, none⟩) (n + 1) cap) := by
  have hlt := lt_of_heap h.top
  have hz := hW.size
  have hne : v.ownBlock ≠ some w.heap.size := fun e => (h.ap _ e).2 rfl
  have ht4 : w4.heap[w.heap.size]? = some (.cells #[v, .int .i64 n] 170 (0, 0)) := (ht.block _ (by omega) hne.symm).trans ((hW.block _ hlt).trans h.top)
  have hg : w.heap.size ≤ g ∧ g ≠ w.heap.size := by
    rcases ho with e | e
    · exact h.ap g e
    · exact ⟨by omega, by omega⟩
  have e1 : n / ids = k := by rw [hn, Nat.mul_comm, Nat.mul_add_div (by omega), Nat.div_eq_of_lt hi, Nat.add_zero]
  have e2 : n % ids = i := by rw [hn, Nat.mul_comm, Nat.mul_add_mod, Nat.mod_eq_of_lt hi]
  refine ⟨?_, ?_, fun q hq => ?_, ?_⟩
  · rw [heap_setCell_same _ _ _ _ _ _ _ (heap_setCell_same _ _ _ _ _ _ _ ht4)]; simp
  · have hs2 : Sl w4 167 6 (.slice (some ⟨g, off, none⟩) (n + 1) cap) (n + 1) (slCells (newL ids (n + 1))) := by
      have : slCells (newL ids (n + 1)) = slCells (newL ids n) ++ [.int .i64 k, .int .i64 i, .int .i64 0, .int .i64 0, .int .i64 n, .bool false] := by rw [newL_succ, e1, e2]; simp [slCells, Slot.cells]
      rw [this]; exact hs
    refine hs2.keep fun q hq => ?_
    obtain rfl : g = q := by simpa [Value.ownBlock] using hq
    rw [Below.heap_setCell _ _ _ _ (show g ≠ (⟨w.heap.size, 1, none⟩ : Addr).block from hg.2), Below.heap_setCell _ _ _ _ (show g ≠ (⟨w.heap.size, 0, none⟩ : Addr).block from hg.2)]
  · obtain rfl : g = q := by simpa [Value.ownBlock] using hq
    exact hg
  · have hb2 : Below w.heap.size w w4 := h.hb.trans ((hW.mono h.hb.size).trans ⟨ht.os, ht.tape, ht.output, ht.size, fun x hx => ht.block x (by have := h.hb.size; omega) fun e => by have := (h.ap x e.symm).1; omega⟩)
    exact (hb2.setCell (Nat.le_refl _) _).setCell (Nat.le_refl _) _

theorem newL_eq {shards ids : Nat} (h : 1 ≤ ids) : newL ids (shards * ids) = mSlots (fun a b => a * ids + b) 0 (List.replicate shards (fresh ids ids)) := by
  have hl : ∀ m ∈ List.replicate shards (fresh ids ids), m.all.length = ids := by
    intro m hm
    rw [List.eq_of_mem_replicate hm]; simp [fresh, freshIx]
  apply List.ext_getElem?
  intro n
  by_cases hn : n < shards * ids
  · have hk : n / ids < shards := by rw [Nat.div_lt_iff_lt_mul h]; exact hn
    have hi := Nat.mod_lt n h
    have := mSlots_get (rw := fun a b => a * ids + b) (List.replicate shards (fresh ids ids)) 0 (n / ids) (n % ids) (fresh ids ids) ⟨0, 0, false⟩ hl (by simp [hk]) (by simp [fresh, freshIx, hi])
    have hd : n / ids * ids + n % ids = n := by have := Nat.div_add_mod n ids; rw [Nat.mul_comm] at this; exact this
    rw [hd] at this
    rw [this]
    simp only [newL, List.getElem?_map, List.getElem?_range hn, Option.map_some, Option.some.injEq, Int.zero_add]
    congr 1
    have : ((n / ids * ids + n % ids : Nat) : Int) = n := by rw [hd]
    simpa using this.symm
  · rw [List.getElem?_eq_none (by rw [newL_len]; omega), List.getElem?_eq_none (by rw [mSlots_len _ 0 hl, List.length_replicate]; omega)]

theorem fresh_sim (shards ids : Nat) (h1 : shards ≤ 16) (h2 : 1 ≤ ids) (h3 : ids ≤ 16) : Sim ids (List.replicate shards (fresh ids ids)) (fun a b => a * ids + b) ((shards * ids : Nat) : Int) := by
  have hm : ∀ (k : Nat) (m : Sh), (List.replicate shards (fresh ids ids))[k]? = some m → k < shards ∧ m = fresh ids ids := by
    intro k m hm
    rw [List.getElem?_replicate] at hm
    split at hm
    · exact ⟨by assumption, by cases hm; rfl⟩
    · cases hm
  refine ⟨⟨h2, h3, by simpa using h1⟩, fun m hm => by rw [List.eq_of_mem_replicate hm]; simp [fresh, freshIx], fun m hm => by rw [List.eq_of_mem_replicate hm]; exact fresh_good ids h3, fun k m hk i hi => ?_, fun k m hk => ?_, by omega⟩
  · obtain ⟨hks, rfl⟩ := hm k m hk
    refine ⟨⟨fun _ => ?_, fun _ => ?_⟩, ?_⟩
    · simp [fresh]; exact ⟨i, hi, rfl⟩
    · have : (0 : Int) ≤ (k : Int) * (ids : Int) := Int.mul_nonneg (by omega) (by omega)
      omega
    · have h4 : (k + 1) * ids ≤ shards * ids := Nat.mul_le_mul_right ids hks
      rw [Nat.add_mul, Nat.one_mul] at h4
      have h5 : ((k * ids + i : Nat) : Int) < ((shards * ids : Nat) : Int) := by omega
      simpa using h5
  · obtain ⟨hks, rfl⟩ := hm k m hk
    simp only [fresh, List.map_map, List.pairwise_map]
    refine (List.pairwise_lt_range).imp fun h => ?_
    simp only [Function.comp, Int.ofNat_eq_natCast]
    omega
end Go.Proofs.YtoimjjhopljdmaaGreat
namespace Go.Proofs.YtoimjjhopljdmaaGreat
open Go.RowKit

theorem NewR.done {w wr : World} {ids shards : Nat} {v : Value} (h : NewR w wr ids (shards * ids) v) (h1 : 1 ≤ shards) (h2 : shards ≤ 16) (h3 : 1 ≤ ids) (h4 : ids ≤ 16) :
    ∃ R : RLay, R.p = w.heap.size ∧ RPool wr R ids ((shards * ids : Nat) : Int) (List.replicate shards (fresh ids ids)) ∧ ∀ b, R.own b → w.heap.size ≤ b := by
  have hpos : 0 < shards * ids := Nat.mul_pos h1 h3
  obtain ⟨hl, ⟨_, h0⟩ | ⟨g, off, cap, cur, rfl, hb, hn, hc, hsz, hr⟩⟩ := h.sl
  · omega
  · have hg := h.ap g rfl
    refine ⟨⟨w.heap.size, g, off, cap⟩, rfl, ⟨_, _, ⟨?_, ⟨cur, hb, ?_, hc, hsz, fun n j s hs hj => ?_⟩, hg.2.symm⟩, fresh_sim shards ids h2 h3 h4, Int.le_refl _⟩, fun b hb => ?_⟩
    · rw [← newL_eq h3, newL_len]; exact h.top
    · rw [← newL_eq h3, newL_len]; exact hn
    · rw [← newL_eq h3] at hs
      have e := slCells_get _ n j s hs hj
      have hjl : j < s.cells.length := by simpa [Slot.cells] using hj
      rw [List.getElem?_eq_getElem hjl] at e ⊢
      have := hr _ _ e
      rw [← Nat.add_assoc] at this
      exact this
    · rcases hb with rfl | rfl
      · exact Nat.le_refl _
      · exact hg.1

end Go.Proofs.YtoimjjhopljdmaaGreat
namespace Go.Proofs.YtoimjjhopljdmaaGreat
open Go.RowKit

section
variable {A B C F G : Ob} {w0 W W' : World}
theorem and_swap' {o : Nat → Prop} (h : (A.and (B.and C)).holds W o) : (B.and (A.and C)).holds W o := by
  obtain ⟨a, bc, h1, ⟨b, c, h2, h3, h4, h5⟩, h6, h7⟩ := h
  exact ⟨b, fun x => a x ∨ c x, h2, ⟨a, c, h1, h3, fun x ha hc => h6 x ha ((h5 x).2 (.inr hc)), fun _ => Iff.rfl⟩, fun x hb hac => hac.elim (fun ha => h6 x ha ((h5 x).2 (.inl hb))) (h4 x hb), fun x => by rw [h7 x, h5 x, or_left_comm]⟩
theorem and_in' {o : Nat → Prop} (hi : ∀ o, F.holds W o → G.holds W o) (h : (A.and F).holds W o) : (A.and G).holds W o := by
  obtain ⟨a, b, h1, h2, h3, h4⟩ := h
  exact ⟨a, b, h1, hi _ h2, h3, h4⟩
theorem Own.inner (h : Own w0 W (A.and F)) (hi : ∀ o, F.holds W o → G.holds W o) : Own w0 W (A.and G) := by
  obtain ⟨o, h1, h2⟩ := h; exact ⟨o, and_in' hi h1, h2⟩
theorem Own.new3 {N : Ob} (h : Own w0 W (N.and (A.and (B.and F)))) : Own w0 W (A.and (B.and (N.and F))) := h.swap.inner fun _ => and_swap'
theorem Own.third (h : Own w0 W (A.and (B.and (C.and F)))) : Own w0 W (C.and (A.and (B.and F))) := (h.inner fun _ => and_swap').swap
theorem Own.fourth {E : Ob} (h : Own w0 W (A.and (B.and (C.and (E.and F))))) : Own w0 W (E.and (A.and (B.and (C.and F)))) := (h.inner fun _ => and_in' fun _ => and_swap').third
theorem Own.fifth {E H : Ob} (h : Own w0 W (A.and (B.and (C.and (E.and (H.and F)))))) : Own w0 W (H.and (A.and (B.and (C.and (E.and F))))) := (h.inner fun _ => and_in' fun _ => and_in' fun _ => and_swap').fourth
end
section
variable {w0 W : World} {F : Ob} {p q R : Nat} {c : Cfg} {kk : Int} {D : Dk}
theorem look_o (h : Own w0 W ((deskO p c D).and F)) (ho : CfgOk c) (m : Cm) : Calls Tryz.prog 44 #[.pointer (some ⟨p, 0, none⟩), .agg (cmC m).toArray] W fun e w' => e = .returned (.tuple #[.agg (cmC (lookF c D m).1).toArray, .bool (lookF c D m).2.1, .int .i64 (lookF c D m).2.2]) ∧ Below W.heap.size W w' :=
  h.reads fun d hp hd => by subst hp; exact dlook_any W d c D hd ho m
theorem admit_o (h : Own w0 W ((deskO p c D).and F)) (ho : CfgOk c) (m : Cm) : Calls Tryz.prog 46 #[.pointer (some ⟨p, 0, none⟩), .agg (cmC m).toArray] W fun e w' => e = .returned (.int .i64 (admitF c D m).1) ∧ Own w0 w' ((deskO p c (admitF c D m).2).and F) :=
  h.desk (R := fun e => e = .returned (.int .i64 (admitF c D m).1)) fun d hp hd => by subst hp; exact dadmit_any W d c D hd ho m
theorem reserve_o (h : Own w0 W ((deskO p c D).and F)) (k i : Int) : Calls Tryz.prog 45 #[.pointer (some ⟨p, 0, none⟩), .int .i64 k, .int .i64 i] W fun e w' => e = .returned (.int .i64 (reservedF D k i).1) ∧ Own w0 w' ((deskO p c (reservedF D k i).2).and F) :=
  h.desk (R := fun e => e = .returned (.int .i64 (reservedF D k i).1)) fun d hp hd => by subst hp; exact dreserve_any W d c D hd k i
theorem tick_o (h : Own w0 W ((deskO p c D).and F)) : Calls Tryz.prog 75 #[.pointer (some ⟨p, 0, none⟩)] W fun e w' => e = .returned (.tuple #[.int .i64 D.t, .bool D.op]) ∧ Below W.heap.size W w' :=
  h.reads fun d hp hd => by subst hp; exact dtick_any W d c D hd
theorem waiting_o (h : Own w0 W ((deskO p c D).and F)) (ho : CfgOk c) : Calls Tryz.prog 47 #[.pointer (some ⟨p, 0, none⟩)] W fun e w' => ∃ v, e = .returned v ∧ RNew cmC 34 16 W w' v D.q :=
  h.reads fun d hp hd => by subst hp; exact dwaiting_any W d c D hd ho
theorem open_o (h : Own w0 W ((deskO p c D).and F)) : Calls Tryz.prog 58 #[.pointer (some ⟨p, 0, none⟩)] W fun e w' => ∃ v, e = .returned (.tuple #[.int .i64 (beginF D).1.1, v, .int .i64 (beginF D).1.2.2]) ∧ Own w0 w' (((deskO p c (beginF D).2).and (slO 34 16 v (beginF D).1.2.1.length (cellsR cmC (beginF D).1.2.1))).and F) := by
  obtain ⟨o, ⟨a, f, h1, h2, h3, h4⟩, h5, h6⟩ := h
  obtain ⟨d, hp, hd, ha⟩ := h1
  subst hp
  refine (dopen_any W d c D hd).mono ?_
  rintro e w' ⟨v, rfl, hsl, hvo, d', e1, e2, hd', hc, ho, hn⟩
  refine ⟨v, rfl, ?_⟩
  have ho' : ∀ x, d'.own x ∨ x = d'.bm → a x ∨ W.heap.size ≤ x := fun x hx => hx.elim (fun h => (ho x h).imp (fun h => (ha x).2 (.inl h)) id) fun h => .inl ((ha x).2 (.inr (h.trans e2)))
  have hvl : ∀ g, v.ownBlock = some g → a g := fun g hg => by
    rcases hvo with e | e
    · rw [e] at hg; cases hg
    · exact (ha g).2 (.inl (.inr (.inr (e.symm.trans hg))))
  have hc' : Chg W w' a := hc.mono fun x _ hx => (ha x).2 (.inl hx)
  refine ⟨fun x => ((d'.own x ∨ x = d'.bm) ∨ v.ownBlock = some x) ∨ f x, ⟨_, f, ⟨fun x => d'.own x ∨ x = d'.bm, fun x => v.ownBlock = some x, ⟨d', e1, hd', fun _ => Iff.rfl⟩, ⟨hsl, fun _ => Iff.rfl⟩, fun x hx hv => ?_, fun _ => Iff.rfl⟩, F.keep _ _ _ h2 fun x hx => hc'.block x (F.lt _ _ h2 x hx) fun e => h3 x e hx, fun x hx hf => ?_, fun _ => Iff.rfl⟩, fun x hx => ?_, h6.trans (hc'.below h6.size fun x hx => h5 x ((h4 x).2 (.inl hx)))⟩
  · rcases hx with e | e
    · exact (hn x hv).1 e
    · exact (hn x hv).2 e
  · rcases hx with e | e
    · rcases ho' x e with e | e
      · exact h3 x e hf
      · have := F.lt _ _ h2 x hf; omega
    · exact h3 x (hvl x e) hf
  · rcases hx with (e | e) | e
    · rcases ho' x e with e | e
      · exact h5 x ((h4 x).2 (.inl e))
      · exact Nat.le_trans h6.size e
    · exact h5 x ((h4 x).2 (.inl (hvl x e)))
    · exact h5 x ((h4 x).2 (.inr e))
theorem Own.dbounds (h : Own w0 W ((deskO p c D).and F)) : (D.q.length : Int) ≤ c.queue ∧ 0 ≤ D.t ∧ D.t ≤ 1099511627776 := by
  obtain ⟨o, ⟨a, f, ⟨d, hp, hd, ha⟩, _⟩, _⟩ := h
  exact ⟨hd.qn, hd.t0⟩
theorem Own.drop {A B : Ob} (h : Own w0 W (A.and (B.and F))) : Own w0 W (A.and F) := h.swap.snd
end
end Go.Proofs.YtoimjjhopljdmaaGreat
namespace Go.Proofs.YtoimjjhopljdmaaGreat
open Go.RowKit

theorem deskMade {w W : World} {c : Cfg} {bm : Nat} {L : Lay} {M : List Sh} {P p : Nat} (hpw : p = W.heap.size) (hw : Below w.heap.size w W) (hm : MapAt W bm c) (hp : PoolAt W L M) (hP : L.P = P) (hbm : w.heap.size ≤ bm) (ho : ∀ b, L.own b → w.heap.size ≤ b) (hob : ∀ b, L.own b → bm < b) (hq : (([] : List Cm).length : Int) ≤ c.queue) :
    Made w (W.alloc (.cells #[.pointer (some ⟨bm, 0, none⟩), .pointer (some ⟨P, 0, none⟩), .slice none 0 0, .int .i64 0, .bool false] 113)) (deskO p c ⟨M, [], 0, false⟩) := by
  subst hP hpw
  have hb := (Below.refl W.heap.size W).alloc (Nat.le_refl _) (.cells #[.pointer (some ⟨bm, 0, none⟩), .pointer (some ⟨L.P, 0, none⟩), .slice none 0 0, .int .i64 0, .bool false] 113)
  have hlm := lt_of_heap hm
  have h1 := hw.size
  refine ⟨fun x => DLay.own ⟨W.heap.size, bm, L, .slice none 0 0⟩ x ∨ x = bm, ⟨⟨W.heap.size, bm, L, .slice none 0 0⟩, rfl, ⟨heap_alloc_new W _, hm.grow hb, hp.grown hb, ⟨rfl, .inl ⟨rfl, rfl⟩⟩, hq, by simp only; omega, fun e => ?_, fun g hg => (by cases hg), ?_⟩, fun _ => Iff.rfl⟩, hw.trans (hb.mono h1), fun x hx => ?_⟩
  · have e' : L.own W.heap.size := e
    have := hp.lt e'; omega
  · rintro (e | e | e)
    · have e' : bm = W.heap.size := e
      omega
    · have := hob _ e; simp only at this; omega
    · cases e
  · rcases hx with (e | e | e) | e
    · have e' : x = W.heap.size := e
      omega
    · exact ho x e
    · cases e
    · omega
set_option maxRecDepth 100000 in
set_option maxHeartbeats 2000000 in
theorem dnew_ok (cols rows side radius speed ids queue : Int) (w : World) (h : CfgOk ⟨cols, rows, side, radius, speed, ids, queue⟩) :
    Calls Tryz.prog 43 #[.agg #[.int .i64 cols, .int .i64 rows, .int .i64 side, .int .i64 radius, .int .i64 speed, .int .i64 ids, .int .i64 queue]] w fun e w' => ∃ p, e = .returned (.tuple #[.pointer (some ⟨p, 0, none⟩), .int .i64 0]) ∧ Made w w' (deskO p ⟨cols, rows, side, radius, speed, ids, queue⟩ (newD ⟨cols, rows, side, radius, speed, ids, queue⟩)) := by
  obtain ⟨n1, n2⟩ := h.cnt
  simp only at n1 n2
  have i0 := h.i0
  have i1 := h.i1
  have q0 := h.q0
  simp only at i0 i1 q0
  obtain ⟨n, hn⟩ : ∃ n : Nat, cols * rows = (n : Int) := ⟨(cols * rows).toNat, by omega⟩
  obtain ⟨k, rfl⟩ : ∃ k : Nat, ids = (k : Int) := ⟨ids.toNat, by omega⟩
  have HZ := Lib.hid (fun W => znew_ok cols rows side radius speed k queue W h)
  have HCN := Lib.hid (fun W b (hm : MapAt W b ⟨cols, rows, side, radius, speed, k, queue⟩) => zcount_any W b _ hm h)
  simp only [hn] at HCN
  have HNW := Lib.hid (fun W => new_p n k W (by omega) (by omega) (by omega) (by omega))
  have hnd : newD ⟨cols, rows, side, radius, speed, k, queue⟩ = ⟨List.replicate n (fresh k k), [], 0, false⟩ := by
    unfold newD; simp only [hn, Int.toNat_natCast]
  rw [hnd]
  clear h hnd
  go_enter Tryz.func43, Tryz.ntmps43
  go_wp2_with fail
  generalize hw1 : World.alloc w _ = w1
  have y5 : w1.cell? ⟨w.heap.size, 5, none⟩ = some (.int .i64 k) := by rw [← hw1]; simp
  have s1 : w.heap.size < w1.heap.size := by rw [← hw1]; simp
  have hb1 : Below w.heap.size w w1 := by rw [← hw1]; exact bg
  have HB1 := Lib.hid hb1
  clear hw1 hb1
  refine (HZ.out _).mono ?_
  rintro e w2 ⟨bm, rfl, hb2, hm2, hbm⟩
  replace y5 := (hb2.cell (p := ⟨w.heap.size, 5, none⟩) s1).trans y5
  have s2 : w.heap.size < w2.heap.size := Nat.lt_of_lt_of_le s1 hb2.size
  have HB2 := Lib.hid (HB1.out.trans (hb2.mono HB1.out.size))
  have HM2 := Lib.hid hm2
  have HBM := Lib.hid (Nat.le_trans HB1.out.size hbm)
  have HLM := Lib.hid (lt_of_heap hm2)
  clear hb2 hm2 hbm HB1
  go_wp2_with fail
  go_region_held3 (fun W => (w2).heap.size ≤ W.heap.size ∧ ∀ b o, b < (w2).heap.size → W.cell? ⟨b, o, none⟩ = (w2).cell? ⟨b, o, none⟩) (with_reducible (repeat (first | assumption | exact s_refl _ | exact s_id _ | refine s_more _ _ ?_ | refine s_alloc _ ?_ | refine s_drew ?_))) (first | (go_at_call 81; refine (HCN.out _ _ (HM2.out.grow bg)).mono ?_; rintro e w' ⟨rfl, hb⟩; obtain ⟨d, os, rfl⟩ := more_of hb; clear hb) | (go_at_call 80; refine (HNW.out _).mono ?_; rintro e w' ⟨rfl, hbn, L, hP, hp, hown⟩; obtain ⟨d2, os2, rfl⟩ := more_of hbn; have HP := Lib.hid hp; have HOW := Lib.hid hown; clear hp hown hbn))
  go_wp2_with fail
  go_ret2
  have hb2 := HB2.out
  have hbw : ∀ W, Below w2.heap.size w2 W → Below w.heap.size w W := fun W hW => hb2.trans (hW.mono hb2.size)
  refine ⟨_, rfl, deskMade (W := more (more _ _ _) _ _) (by simp) (hbw _ bg) (HM2.out.grow bg) HP.out (hP.trans (by simp)) HBM.out (fun b hb => ?_) (fun b hb => ?_) (by simp only [List.length_nil]; omega)⟩
  · have := HOW.out b hb; simp at this; have := hb2.size; omega
  · have := HOW.out b hb; simp at this; have := HLM.out; omega
end Go.Proofs.YtoimjjhopljdmaaGreat
namespace Go.Proofs.YtoimjjhopljdmaaGreat
open Go.RowKit
theorem head_ok {M : List Sh} {k : Int} (hg : ∀ m ∈ M, Good m) (h : (headF M k).2.2 = 0) : ∃ m x f r, shOf M k = some m ∧ m ∈ M ∧ m.free = f :: r ∧ m.all[f.toNat]? = some x ∧ headF M k = (f, decide (x.gen < x.bound), 0) ∧ 0 ≤ f ∧ f < m.all.length ∧ 0 ≤ x.gen ∧ x.gen < 1048576 ∧ x.bound ≤ 1048576 ∧ x.gen ≤ x.bound ∧ ixOf M k f = some x := by
  unfold headF at h ⊢
  cases hm : shOf M k with
  | none => simp [hm] at h
  | some m =>
    simp only [hm] at h ⊢
    have hmem : m ∈ M := by
      unfold shOf at hm
      split at hm
      · exact List.mem_of_getElem? hm
      · cases hm
    have G := hg m hmem
    cases hf : m.free with
    | nil => simp [hf] at h
    | cons f r =>
      simp only [hf] at h ⊢
      cases hx : m.all[f.toNat]? with
      | none => simp [hx] at h
      | some x =>
        simp only
        have hfm : f ∈ m.free := by rw [hf]; exact List.mem_cons_self ..
        obtain ⟨h1, h2⟩ := G.inv.fr f hfm
        obtain ⟨q1, q2, q3, q4, _⟩ := G.inv.rng _ _ hx
        refine ⟨m, x, f, r, rfl, hmem, hf, hx, rfl, h1, h2, q1, G.fg f hfm x hx, q4, G.le _ _ hx, ?_⟩
        unfold ixOf
        rw [hm]
        simp only [Option.bind_some, if_pos h1]
        exact hx
theorem take_head {M : List Sh} {k : Int} (hg : ∀ m ∈ M, Good m) (h : (headF M k).2.2 = 0) :
    ((headF M k).2.1 = true → (takeF M k (headF M k).1 (genF M k (headF M k).1)).1 = 0) ∧ ((headF M k).2.1 = false → (takeF M k (headF M k).1 (genF M k (headF M k).1)).1 = 9) := by
  obtain ⟨m, x, f, r, hm, hmem, hf, hx, hh, h1, h2, q1, q2, q3, q4, hix⟩ := head_ok hg h
  rw [hh]
  have hfr : frOf M k = f :: r := by unfold frOf; rw [hm]; exact hf
  have hge : genF M k f = x.gen := by unfold genF; rw [hix]
  unfold takeF
  simp only [hix, hge, hfr]
  rw [if_neg (by omega), if_neg (by simp)]
  constructor
  · intro hb
    have : x.gen < x.bound := by simpa using hb
    rw [if_neg (by omega)]
  · intro hb
    have : ¬ x.gen < x.bound := by simpa using hb
    rw [if_pos (by omega)]
theorem take_nine {M : List Sh} {k i g : Int} (h : (takeF M k i g).1 = 9) : (takeF M k i g).2 = M := by
  unfold takeF at h ⊢
  split at h
  · rfl
  · split at h
    · rename_i h1; simp only [if_pos h1]
    · rename_i h1
      split at h
      · rename_i h2; simp only [if_neg h1, if_pos h2]
      · rename_i h2
        split at h
        · rename_i h3; simp only [if_neg h1, if_neg h2, if_pos h3]
        · simp at h
theorem res_head {M : List Sh} {k : Int} (hg : ∀ m ∈ M, Good m) (h : (headF M k).2.2 = 0) (hb : (headF M k).2.1 = false) :
    (reserveF M k (headF M k).1).1 = 0 ∧ (takeF (reserveF M k (headF M k).1).2 k (headF M k).1 (genF M k (headF M k).1)).1 = 0 := by
  obtain ⟨m, x, f, r, hm, hmem, hf, hx, hh, h1, h2, q1, q2, q3, q4, hix⟩ := head_ok hg h
  rw [hh] at hb ⊢
  have hb : ¬ x.gen < x.bound := by simpa using hb
  have hge : genF M k f = x.gen := by unfold genF; rw [hix]
  have hr : reserveF M k f = (0, setIx M k f { x with bound := min (x.bound + 8) 1048576 }) := by
    unfold reserveF
    simp only [hix]
    rw [if_neg (by omega)]
  simp only [hr, hge, true_and]
  have hk : 0 ≤ k ∧ M[k.toNat]? = some m := by
    unfold shOf at hm
    split at hm
    · exact ⟨by assumption, hm⟩
    · cases hm
  have hkl := (List.getElem?_eq_some_iff.1 hk.2).1
  have hfl := (List.getElem?_eq_some_iff.1 hx).1
  have hsh : shOf (setIx M k f { x with bound := min (x.bound + 8) 1048576 }) k = some { m with all := m.all.set f.toNat { x with bound := min (x.bound + 8) 1048576 } } := by
    unfold setIx
    simp only [hm]
    unfold shOf
    rw [if_pos hk.1, List.getElem?_set_self hkl]
  unfold takeF
  have hi2 : ixOf (setIx M k f { x with bound := min (x.bound + 8) 1048576 }) k f = some { x with bound := min (x.bound + 8) 1048576 } := by
    unfold ixOf
    rw [hsh]
    simp only [Option.bind_some, if_pos h1]
    rw [List.getElem?_set_self hfl]
  have hfr : frOf (setIx M k f { x with bound := min (x.bound + 8) 1048576 }) k = f :: r := by unfold frOf; rw [hsh]; exact hf
  simp only [hi2, hfr]
  rw [if_neg (by omega), if_neg (by simp), if_neg (by omega)]
theorem cmdB_name {m : Cm} {s i g : Int} (hk : m.k = 1) (h : cmdB m = true) (ho : idOk s i g = true) : cmdB (nameCm m s i g) = true := by
  unfold cmdB nameCm at *
  simp only [hk, beq_self_eq_true, if_true, checkB, rightB, Bool.and_eq_true] at h ⊢
  exact ⟨h.1, ⟨h.2.1, ho⟩⟩
theorem adm_name {c : Cfg} {D : Dk} {m : Cm} {s i g : Int} (hk : m.k = 1) (hc : cmdB (nameCm m s i g) = true) (hf : fullB c D ≠ true) (ho : ofF c m.b.x m.b.y = s) : (admitF c D (nameCm m s i g)).1 = (takeF D.M s i g).1 ∧ ((takeF D.M s i g).1 = 9 → (admitF c D (nameCm m s i g)).2 = D) := by
  unfold admitF
  rw [if_neg (by rw [hc]; simp), if_neg hf, if_pos (show (nameCm m s i g).k = 1 from hk), if_neg (fun h => h ho)]
  change (if (takeF D.M s i g).1 ≠ 0 then ((takeF D.M s i g).1, { D with M := (takeF D.M s i g).2 }) else (0, { D with M := (takeF D.M s i g).2, q := D.q ++ [nameCm m s i g] }) : Int × Dk).1 = _ ∧ (_ → (if (takeF D.M s i g).1 ≠ 0 then ((takeF D.M s i g).1, { D with M := (takeF D.M s i g).2 }) else (0, { D with M := (takeF D.M s i g).2, q := D.q ++ [nameCm m s i g] }) : Int × Dk).2 = D)
  by_cases h0 : (takeF D.M s i g).1 = 0
  · rw [if_neg (fun h => h h0), h0]; exact ⟨rfl, fun h => by omega⟩
  · rw [if_pos h0]
    refine ⟨rfl, fun h9 => ?_⟩
    simp only [take_nine h9]
theorem look_adm (c : Cfg) (D : Dk) (m a : Cm) (must : Bool) (hg : ∀ m ∈ D.M, Good m) (hl : D.M.length ≤ 16) (h : lookF c D m = (a, must, 0)) :
    (m.k = 1 → ∃ s i g, a = nameCm m s i g ∧ newB m = true ∧ ofF c m.b.x m.b.y = s ∧ (must = false → (admitF c D a).1 = 0) ∧ (must = true → (admitF c D a).1 = 9 ∧ (admitF c D a).2 = D ∧ (reservedF D s i).1 = 0 ∧ (admitF c (reservedF D s i).2 a).1 = 0)) ∧ (m.k ≠ 1 → a = m ∧ must = false ∧ (admitF c D a).1 = 0) := by
  unfold lookF at h
  split at h
  · simp at h
  rename_i h1
  have hcm : cmdB m = true := by
    cases hb : cmdB m with
    | true => rfl
    | false => exact absurd (Or.inl hb) h1
  split at h
  · rename_i hk
    have hnew : newB m = true := by
      cases hb : newB m with
      | true => rfl
      | false => exact absurd (Or.inr ⟨hk, hb⟩) h1
    split at h
    · simp at h
    split at h
    · simp at h
    rename_i hfull
    split at h
    · simp at h
    rename_i hh0
    have hh := Decidable.not_not.1 hh0
    refine ⟨fun _ => ?_, fun hn => absurd hk hn⟩
    generalize hzn : ofF c m.b.x m.b.y = zn at *
    have T1 := take_head hg hh
    have T2 := fun hb => res_head hg hh hb
    obtain ⟨m0, x, f, r, hm, hmem, hf, hx, he, f1, f2, q1, q2, q3, q4, hix⟩ := head_ok hg hh
    have hge : genF D.M zn f = x.gen := by unfold genF; rw [hix]
    rw [he] at h T1 T2
    simp only [hge] at h T1 T2
    simp only [Prod.mk.injEq, and_true] at h
    obtain ⟨rfl, rfl⟩ := h
    have hid : idOk zn f x.gen = true := by
      have hz : 0 ≤ zn ∧ zn.toNat < D.M.length := by
        unfold shOf at hm
        split at hm
        · exact ⟨by assumption, (List.getElem?_eq_some_iff.1 hm).1⟩
        · cases hm
      have h16 := (hg m0 hmem).inv.few
      simp [idOk, inR]
      omega
    have hc := cmdB_name hk hcm hid
    obtain ⟨A1, A2⟩ := adm_name (c := c) (D := D) hk hc hfull hzn
    refine ⟨zn, f, x.gen, rfl, hnew, rfl, fun hb => ?_, fun hb => ?_⟩
    · rw [A1]; exact T1.1 (by simpa using hb)
    · have hb' : decide (x.gen < x.bound) = false := by simpa using hb
      have h9 := T1.2 hb'
      obtain ⟨B1, B2⟩ := T2 hb'
      refine ⟨A1.trans h9, A2 h9, B1, ?_⟩
      exact (adm_name (c := c) (D := (reservedF D zn f).2) hk hc hfull hzn).1.trans B2
  · rename_i hk
    refine ⟨fun hn => absurd hn hk, fun _ => ?_⟩
    split at h
    · simp at h
    rename_i h2
    split at h
    · simp at h
    split at h
    · simp at h
    rename_i h4
    simp only [Prod.mk.injEq, and_true] at h
    obtain ⟨rfl, rfl⟩ := h
    refine ⟨rfl, rfl, ?_⟩
    unfold admitF
    rw [if_neg (by rw [hcm]; simp), if_neg h4, if_neg hk, if_neg h2]
end Go.Proofs.YtoimjjhopljdmaaGreat
