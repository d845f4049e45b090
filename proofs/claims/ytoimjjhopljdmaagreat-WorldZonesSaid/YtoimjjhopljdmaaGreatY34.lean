/-
  Chapter texts RefD RefE DkR DkT OncA RefG RefH: what the claim reaches of them. Conditions stand at each theorem.
-/
import Derived.Test.YtoimjjhopljdmaaGreatY28
import Derived.Test.YtoimjjhopljdmaaGreatY29
import Derived.Test.YtoimjjhopljdmaaGreatY10
import Derived.Test.YtoimjjhopljdmaaGreatY01
import Derived.Test.YtoimjjhopljdmaaGreatY02
import Derived.Test.YtoimjjhopljdmaaGreatY08
import Derived.Test.YtoimjjhopljdmaaGreatY09
import Derived.Test.YtoimjjhopljdmaaGreatY30
import Derived.Test.YtoimjjhopljdmaaGreatY14
import Derived.Test.YtoimjjhopljdmaaGreatY32
namespace Go.Proofs.YtoimjjhopljdmaaGreat
open Go.RowKit
def updRw (rw : Int → Int → Int) (k i : Nat) (v : Int) : Int → Int → Int := fun a b => if a = k ∧ b = i then v else rw a b
theorem upd_same (rw : Int → Int → Int) (k i : Nat) (v : Int) : updRw rw k i v k i = v := by simp [updRw]
theorem upd_ne (rw : Int → Int → Int) (k i : Nat) (v : Int) {a b : Int} (h : ¬ (a = k ∧ b = i)) : updRw rw k i v a b = rw a b := by simp only [updRw, if_neg h]

theorem Sim.updRw {ids : Nat} {M : List Sh} {rw rw' : Int → Int → Int} {put put' : Int} (h : Sim ids M rw put) {k : Nat} {m m' : Sh} (hm : M[k]? = some m) (hl : m'.all.length = ids) (hg : Good m') (hrw : ∀ (a : Nat) (b : Int), a ≠ k → rw' a b = rw a b)
    (hr : ∀ i : Nat, i < ids → (0 ≤ rw' k i ↔ (i : Int) ∈ m'.free) ∧ rw' k i < put') (ho : (m'.free.map (rw' k)).Pairwise (· < ·)) (hp : put ≤ put') : Sim ids (M.set k m') rw' put' := by
  have hkl := (List.getElem?_eq_some_iff.1 hm).1
  refine ⟨⟨h.pos.1, h.pos.2.1, by simpa using h.pos.2.2⟩, fun a ha => ?_, fun a ha => ?_, fun a b hb => ?_, fun a b hb => ?_, Int.le_trans h.put hp⟩
  · rcases List.mem_or_eq_of_mem_set ha with ha | rfl
    · exact h.len a ha
    · exact hl
  · rcases List.mem_or_eq_of_mem_set ha with ha | rfl
    · exact h.good a ha
    · exact hg
  · rw [List.getElem?_set] at hb
    by_cases e : k = a
    · subst e
      rw [if_pos rfl, if_pos hkl] at hb
      obtain rfl : m' = b := by simpa using hb
      exact hr
    · rw [if_neg e] at hb
      intro i hi
      rw [hrw a i (fun e' => e e'.symm)]
      have := h.row a b hb i hi
      exact ⟨this.1, by have := this.2; omega⟩
  · rw [List.getElem?_set] at hb
    by_cases e : k = a
    · subst e
      rw [if_pos rfl, if_pos hkl] at hb
      obtain rfl : m' = b := by simpa using hb
      exact ho
    · rw [if_neg e] at hb
      have : b.free.map (rw' a) = b.free.map (rw a) := List.map_congr_left fun f _ => hrw a f (fun e' => e e'.symm)
      rw [this]
      exact h.ord a b hb

variable {W : World} {R : RLay} {ids : Nat} {M : List Sh} {rw : Int → Int → Int} {put : Int} {k i : Nat} {m : Sh} {x : Ix}
theorem row_drop (h2 : Sim ids M rw put) (hm : M[k]? = some m) (fr : List Int) (hs : ∀ j : Nat, j ≠ i → ((j : Int) ∈ m.free ↔ (j : Int) ∈ fr)) (hn : (i : Int) ∉ fr) : ∀ j : Nat, j < ids → (0 ≤ updRw rw k i (-1) k j ↔ (j : Int) ∈ fr) ∧ updRw rw k i (-1) k j < put := by
  intro j hj
  by_cases e : j = i
  · subst e
    rw [upd_same]
    have := h2.put
    exact ⟨⟨fun h => by omega, fun h => absurd h hn⟩, by omega⟩
  · rw [upd_ne _ _ _ _ (by omega)]
    have := h2.row k m hm j hj
    exact ⟨this.1.trans (hs j e), this.2⟩
theorem ord_drop (h2 : Sim ids M rw put) (hm : M[k]? = some m) (fr : List Int) (hs : fr.Sublist m.free) (hn : (i : Int) ∉ fr) : (fr.map (updRw rw k i (-1) k)).Pairwise (· < ·) := by
  have e : fr.map (updRw rw k i (-1) k) = fr.map (rw k) := List.map_congr_left fun f hf => upd_ne _ _ _ _ fun h => hn (by rw [← h.2]; exact hf)
  rw [e]
  exact (h2.ord k m hm).sublist (hs.map _)

theorem Sim.take (h2 : Sim ids M rw put) (hm : M[k]? = some m) (hx : m.all[i]? = some x) {g : Int} (hg0 : 0 ≤ g) (hb : g < x.bound) :
    Sim ids (M.set k ⟨m.all.set i ⟨g, x.bound, true⟩, m.free.filter fun j => !(j == (i : Int))⟩) (Go.Proofs.YtoimjjhopljdmaaGreat.updRw rw k i (-1)) put := by
  have hg := h2.good m (List.mem_of_getElem? hm)
  have hr := hg.inv.rng i x hx
  have hni : (i : Int) ∉ m.free.filter fun j => !(j == (i : Int)) := fun h => by simp [List.mem_filter] at h
  have hdr := hg.inv.drop (i := i) ⟨g, x.bound, true⟩ ⟨hg0, by simp only; omega, hr.2.2.1, hr.2.2.2.1, fun _ => by simp only; omega⟩
  have g1 := free_drop_good hg _ hdr.1 fun f hf => (List.mem_filter.1 hf).1
  refine h2.updRw hm (by simpa using h2.len m (List.mem_of_getElem? hm)) ?_ (fun a b ha => upd_ne _ _ _ _ (by omega)) (row_drop h2 hm _ (fun j hj => by simp only [List.mem_filter]; exact ⟨fun h => ⟨h, by simp; omega⟩, fun h => h.1⟩) hni) (ord_drop h2 hm _ List.filter_sublist hni) (Int.le_refl _)
  exact set_good g1 ⟨g, x.bound, true⟩ hdr.2 (by simp only; omega) (fun _ => hb) (fun hm => absurd hm hni)

theorem Sim.free (h2 : Sim ids M rw put) (hm : M[k]? = some m) (hx : m.all[i]? = some x) (ha : x.alive = true) (hlt : x.gen + 1 < 1048576) :
    Sim ids (M.set k ⟨m.all.set i ⟨x.gen + 1, x.bound, false⟩, m.free ++ [(i : Int)]⟩) (Go.Proofs.YtoimjjhopljdmaaGreat.updRw rw k i put) (put + 1) := by
  have hg := h2.good m (List.mem_of_getElem? hm)
  have hal := h2.len m (List.mem_of_getElem? hm)
  have hni : (i : Int) ∉ m.free := fun h => by have := hg.inv.dead i h x (by simpa using hx); rw [ha] at this; cases this
  have hgood := (freeF_alive hm hx ha hg).2
  unfold freedSh at hgood
  rw [if_pos hlt] at hgood
  have hp := h2.put
  refine h2.updRw hm (by simpa using hal) hgood (fun a b ha => upd_ne _ _ _ _ (by omega)) (fun j hj => ?_) ?_ (by omega)
  · by_cases e : j = i
    · subst e
      rw [upd_same]
      exact ⟨⟨fun _ => by simp, fun _ => hp⟩, by omega⟩
    · rw [upd_ne _ _ _ _ (by omega)]
      have := h2.row k m hm j hj
      refine ⟨this.1.trans ?_, by omega⟩
      simp only [List.mem_append, List.mem_singleton]
      exact ⟨.inl, fun h => h.resolve_right (by omega)⟩
  · have e : m.free.map (Go.Proofs.YtoimjjhopljdmaaGreat.updRw rw k i put k) = m.free.map (rw k) := List.map_congr_left fun f hf => upd_ne _ _ _ _ fun h => hni (by rw [← h.2]; exact hf)
    rw [List.map_append, e, List.pairwise_append]
    refine ⟨h2.ord k m hm, by simp, fun a hma b hmb => ?_⟩
    simp only [List.map_cons, List.map_nil, List.mem_singleton, upd_same] at hmb
    subst hmb
    obtain ⟨f, hf, rfl⟩ := List.mem_map.1 hma
    obtain ⟨h0, h1⟩ := hg.inv.fr f hf
    obtain ⟨j, rfl⟩ := Int.eq_ofNat_of_zero_le h0
    exact (h2.row k m hm j (by omega)).2

end Go.Proofs.YtoimjjhopljdmaaGreat
namespace Go.Proofs.YtoimjjhopljdmaaGreat
open Go.RowKit

def RStp (w : World) (R : RLay) (ids : Nat) (c : Int) (w' : World) (M' : List Sh) : Prop := RPool w' R ids c M' ∧ Chg w w' R.own
theorem RStp.more {w w' : World} {R : RLay} {ids : Nat} {c : Int} {M' : List Sh} (h : RStp w R ids c w' M') : RStp w R ids (c + 1) w' M' := by
  obtain ⟨⟨rw, put, h1, h2, h3⟩, h4⟩ := h
  exact ⟨⟨rw, put, h1, h2, by omega⟩, h4⟩
theorem RStp.of {w W W' : World} {R : RLay} {ids : Nat} {c : Int} {M' : List Sh} (hc : Chg w W R.own) (hr : RPool W R ids c M') (hb : Below W.heap.size W W') : RStp w R ids c W' M' := ⟨hr.grown hb, hc.then_below (hb.mono hc.size)⟩

theorem RefAt.put1 {w : World} {R : RLay} {l : List Slot} {put : Int} (h : RefAt w R l put) {n : Nat} {s s' : Slot} (hs : l[n]? = some s) (q : Nat) (v : Value) (hq : q < 6) (hc : s'.cells = s.cells.set q v) : RefAt (w.setCell ⟨R.b, R.off + n * 6 + q, none⟩ v) R (l.set n s') put :=
  h.set hs q v hq (by rw [hc]; exact List.getElem?_set_self (by simpa [Slot.cells] using hq)) fun j hj => by rw [hc]; exact List.getElem?_set_ne hj.symm
theorem Chg.put1 {w W : World} {R : RLay} (h : Chg w W R.own) (o : Nat) (v : Value) : Chg w (W.setCell ⟨R.b, o, none⟩ v) R.own := h.setCell _ _ (.inl (.inr rfl))
end Go.Proofs.YtoimjjhopljdmaaGreat
namespace Go.Proofs.YtoimjjhopljdmaaGreat
open Go.RowKit

structure RDLay where
  (p : Nat) (R : RLay) (qv : Value)
def RDLay.own (r : RDLay) (b : Nat) : Prop := b = r.p ∨ r.R.own b ∨ r.qv.ownBlock = some b
def rdeskC (r : RDLay) (c : Cfg) (D : Dk) : Array Value := #[.int .i64 c.cols, .int .i64 c.rows, .int .i64 c.side, .int .i64 c.radius, .int .i64 c.speed, .int .i64 c.ids, .int .i64 c.queue, .pointer (some ⟨r.R.p, 0, none⟩), r.qv, .int .i64 D.t, .bool D.op]
structure RDeskAt (w : World) (r : RDLay) (c : Cfg) (k : Int) (D : Dk) : Prop where
  box : w.heap[r.p]? = some (.cells (rdeskC r c D) 128 (0, 0))
  pool : RPool w r.R c.ids.toNat k D.M
  q : Sl w 34 16 r.qv D.q.length (cellsR cmC D.q)
  qn : (D.q.length : Int) ≤ c.queue
  t0 : 0 ≤ D.t ∧ D.t ≤ 1099511627776
  ap : ¬ r.R.own r.p
  aq : ∀ g, r.qv.ownBlock = some g → g ≠ r.p ∧ ¬ r.R.own g
variable {w w' w'' : World} {r r' : RDLay} {c : Cfg} {k k' : Int} {D D' D'' : Dk}
theorem RDeskAt.lt (h : RDeskAt w r c k D) {b : Nat} (hb : r.own b) : b < w.heap.size := by
  rcases hb with rfl | hb | hb
  · exact lt_of_heap h.box
  · exact h.pool.lt hb
  · exact sl_lt h.q hb
theorem RPool.keep {R : RLay} {ids : Nat} {c : Int} {M : List Sh} (h : RPool w R ids c M) (hk : ∀ b, R.own b → w'.heap[b]? = w.heap[b]?) : RPool w' R ids c M := by
  obtain ⟨rw, put, h1, h2, h3⟩ := h; exact ⟨rw, put, h1.keep hk, h2, h3⟩
theorem RDeskAt.keep (h : RDeskAt w r c k D) (hk : ∀ b, r.own b → w'.heap[b]? = w.heap[b]?) : RDeskAt w' r c k D :=
  ⟨(hk _ (.inl rfl)).trans h.box, h.pool.keep fun b hb => hk b (.inr (.inl hb)), h.q.keep fun g hg => hk g (.inr (.inr hg)), h.qn, h.t0, h.ap, h.aq⟩
theorem RDeskAt.grown (h : RDeskAt w r c k D) (hb : Below w.heap.size w w') : RDeskAt w' r c k D := h.keep fun b hb' => hb.block b (h.lt hb')
theorem RPool.more {R : RLay} {ids : Nat} {c c' : Int} {M : List Sh} (h : RPool w R ids c M) (hc : c ≤ c') : RPool w R ids c' M := by
  obtain ⟨rw, put, h1, h2, h3⟩ := h; exact ⟨rw, put, h1, h2, by omega⟩
theorem RDeskAt.more (h : RDeskAt w r c k D) (hk : k ≤ k') : RDeskAt w r c k' D := ⟨h.box, h.pool.more hk, h.q, h.qn, h.t0, h.ap, h.aq⟩
def RDStp (w : World) (r : RDLay) (c : Cfg) (k : Int) (w' : World) (D' : Dk) : Prop := ∃ r', r'.p = r.p ∧ r'.R = r.R ∧ RDeskAt w' r' c k D' ∧ Chg w w' r.own ∧ ∀ b, r'.own b → r.own b ∨ w.heap.size ≤ b
theorem RDStp.of_grown (h : RDeskAt w r c k D) (hb : Below w.heap.size w w') : RDStp w r c k w' D := ⟨r, rfl, rfl, h.grown hb, Chg.of_below hb, fun _ h => .inl h⟩
theorem RDStp.trans (h : RDStp w r c k w' D') (h2 : ∀ r', r'.p = r.p → r'.R = r.R → RDeskAt w' r' c k D' → RDStp w' r' c k' w'' D'') : RDStp w r c k' w'' D'' := by
  obtain ⟨r1, e1, e2, hd, hc, ho⟩ := h
  obtain ⟨r2, f1, f2, hd2, hc2, ho2⟩ := h2 r1 e1 e2 hd
  refine ⟨r2, f1.trans e1, f2.trans e2, hd2, hc.trans hc2 fun b hb h1 => ?_, fun b hb => ?_⟩
  · rcases ho b h1 with h | h
    · exact h
    · omega
  · rcases ho2 b hb with h | h
    · exact ho b h
    · exact .inr (Nat.le_trans hc.size h)
theorem RDStp.then_below (h : RDStp w r c k w' D') (hb : Below w'.heap.size w' w'') : RDStp w r c k w'' D' := h.trans fun _ _ _ h2 => RDStp.of_grown h2 hb
theorem RDStp.from_below (hb : Below w.heap.size w w') (h : RDStp w' r c k w'' D') : RDStp w r c k w'' D' := by
  obtain ⟨d1, e1, e2, hd, hc, ho⟩ := h
  exact ⟨d1, e1, e2, hd, (Chg.of_below hb).trans hc fun _ _ h => h, fun b h => (ho b h).imp_right fun h => Nat.le_trans hb.size h⟩
theorem RDStp.pool (h : RDeskAt w r c k D) {M' : List Sh} (hs : RStp w r.R c.ids.toNat k' w' M') : RDStp w r c k' w' { D with M := M' } := by
  obtain ⟨hp, hc⟩ := hs
  have hk : ∀ b, b < w.heap.size → ¬ r.R.own b → w'.heap[b]? = w.heap[b]? := fun b h1 h2 => hc.block b h1 h2
  exact ⟨r, rfl, rfl, ⟨(hk _ (lt_of_heap h.box) h.ap).trans h.box, hp, h.q.keep fun g hg => hk g (sl_lt h.q hg) (h.aq g hg).2, h.qn, h.t0, h.ap, h.aq⟩, hc.mono fun b _ hb => .inr (.inl hb), fun b hb => .inl hb⟩
theorem RDeskAt.cell (h : RDeskAt w r c k D) (j : Nat) : w.cell? ⟨r.p, j, none⟩ = (rdeskC r c D)[j]? := by simp [World.cell?, h.box]
theorem RDeskAt.frozen (h : RDeskAt w r c k D) (j : Nat) : w.frozen? ⟨r.p, j, none⟩ = false := by simp [World.frozen?, h.box]
theorem RDeskAt.boxed (h : RDeskAt w r c k D) {v' : Value} (hb : w'.heap[r.p]? = some (.cells (rdeskC ⟨r.p, r.R, v'⟩ c D') 128 (0, 0))) (hM : D'.M = D.M) (hq : Sl w' 34 16 v' D'.q.length (cellsR cmC D'.q)) (hn : (D'.q.length : Int) ≤ c.queue) (ht : 0 ≤ D'.t ∧ D'.t ≤ 1099511627776)
    (ho : ∀ g, v'.ownBlock = some g → r.qv.ownBlock = some g ∨ w.heap.size ≤ g) (hc : Chg w w' fun b => b = r.p ∨ r.qv.ownBlock = some b) : RDStp w r c k w' D' := by
  have hk : ∀ b, b < w.heap.size → b ≠ r.p → r.qv.ownBlock ≠ some b → w'.heap[b]? = w.heap[b]? := fun b h1 h2 h3 => hc.block b h1 fun e => e.elim h2 h3
  refine ⟨⟨r.p, r.R, v'⟩, rfl, rfl, ⟨hb, ?_, hq, hn, ht, h.ap, fun g hg => ?_⟩, hc.mono fun b _ e => e.elim .inl fun e => .inr (.inr e), fun b hb => ?_⟩
  · rw [hM]
    exact h.pool.keep fun b hb => hk b (h.pool.lt hb) (fun e => h.ap (e ▸ hb)) (fun e => (h.aq b e).2 hb)
  · rcases ho g hg with e | e
    · exact h.aq g e
    · exact ⟨fun e2 => by have h1 := lt_of_heap h.box; have e3 : g = r.p := e2; omega, fun e2 => by have := h.pool.lt e2; omega⟩
  · rcases hb with e | e | e
    · exact .inl (.inl e)
    · exact .inl (.inr (.inl e))
    · exact (ho b e).imp (fun h => .inr (.inr h)) id
theorem RDeskAt.queued (h : RDeskAt w r c k D) {w4 : World} {v' : Value} {m : Cm} (hs : Sl w4 34 16 v' (D.q.length + 1) (cellsR cmC D.q ++ cmC m)) (ht : Turned w w4 r.qv.ownBlock)
    (ho : v'.ownBlock = r.qv.ownBlock ∨ ∃ g, v'.ownBlock = some g ∧ w.heap.size ≤ g) (hq : (D.q.length : Int) < c.queue) : RDStp w r c k (w4.setCell ⟨r.p, 8, none⟩ v') { D with q := D.q ++ [m] } := by
  have hp := lt_of_heap h.box
  have hnp : r.qv.ownBlock ≠ some r.p := fun e => (h.aq _ e).1 rfl
  have hb4 := (ht.block r.p hp fun e => hnp e.symm).trans h.box
  have hvp : v'.ownBlock ≠ some r.p := fun e => by
    rcases ho with e2 | ⟨g, e2, e3⟩
    · exact hnp (e2 ▸ e)
    · rw [e] at e2; cases e2; omega
  refine h.boxed (v' := v') ?_ rfl ?_ (by simp only [List.length_append, List.length_singleton]; omega) h.t0 (fun g hg => ?_) ?_
  · rw [heap_setCell_same _ _ _ _ _ _ _ hb4]
    simp [rdeskC]
  · rw [show cellsR cmC (D.q ++ [m]) = cellsR cmC D.q ++ cmC m from by rw [cellsR_app, cellsR_one], List.length_append, List.length_singleton]
    exact hs.keep fun g hg => Below.heap_setCell _ _ _ _ fun e => hvp (by rw [hg, e])
  · rcases ho with e2 | ⟨g', e2, e3⟩
    · exact .inl (e2 ▸ hg)
    · rw [hg] at e2; cases e2; exact .inr e3
  · exact (Chg.of_turned ht (F := fun b => b = r.p ∨ r.qv.ownBlock = some b) fun k e _ => .inr e).setCell _ _ (.inl (.inl rfl))
def rdeskO (p R : Nat) (c : Cfg) (k : Int) (D : Dk) : Ob where
  holds w o := ∃ r : RDLay, r.p = p ∧ r.R.p = R ∧ RDeskAt w r c k D ∧ ∀ x, o x ↔ r.own x
  lt := by
    rintro w o ⟨r, _, _, h, ho⟩ b hb
    exact h.lt ((ho b).1 hb)
  keep := by
    rintro w w' o ⟨r, hp, hR, h, ho⟩ hk
    exact ⟨r, hp, hR, h.keep fun b hb => hk b ((ho b).2 hb), ho⟩
theorem RDStp.gone {a : Nat → Prop} (h : RDStp w r c k w' D') (ha : ∀ x, a x ↔ r.own x) : Gone a w w' (rdeskO r.p r.R.p c k D') := by
  obtain ⟨r', hp, hR, hd, hc, ho⟩ := h
  exact ⟨r'.own, ⟨r', hp, by rw [hR], hd, fun _ => Iff.rfl⟩, hc.mono fun x _ hx => (ha x).2 hx, fun x hx => (ho x hx).imp (ha x).2 id⟩
end Go.Proofs.YtoimjjhopljdmaaGreat
namespace Go.Proofs.YtoimjjhopljdmaaGreat
open Go.RowKit

theorem RDStp.next {w w' w'' : World} {r r1 : RDLay} {c : Cfg} {kk : Int} {D'' : Dk} (e1 : r1.p = r.p) (e2 : r1.R = r.R) (hc : Chg w w' r.own) (ho : ∀ b, r1.own b → r.own b ∨ w.heap.size ≤ b) (h2 : RDStp w' r1 c kk w'' D'') : RDStp w r c kk w'' D'' := by
  obtain ⟨d2, f1, f2, hd2, hc2, ho2⟩ := h2
  refine ⟨d2, f1.trans e1, f2.trans e2, hd2, hc.trans hc2 fun b hb h1 => (ho b h1).elim id fun h => by omega, fun b hb => ?_⟩
  rcases ho2 b hb with h | h
  · exact ho b h
  · exact .inr (Nat.le_trans hc.size h)
theorem RDStp.fin {w : World} {r : RDLay} {c : Cfg} {kk : Int} {D1 : Dk} {W1 W : World} {B : Nat} (h : RDeskAt w r c kk D1) (hW1 : Below w.heap.size w W1) (hB0 : w.heap.size ≤ B) (hB : B < W1.heap.size) (D2 : Dk) (HD : RDStp W1 r c kk W D2) (hq : (D2.q.length : Int) < c.queue) (m : Cm) :
    ∃ qv p cap, qv = .slice p D2.q.length cap ∧ W.cell? ⟨r.p, 8, none⟩ = some qv ∧ W.frozen? ⟨r.p, 8, none⟩ = false ∧ r.p < W.heap.size ∧ qv.ownBlock ≠ some r.p ∧ qv.ownBlock ≠ some B ∧ (∀ Wa, Below W.heap.size W Wa → Sl Wa 34 16 qv D2.q.length (cellsR cmC D2.q)) ∧
      (∀ j, W.cell? ⟨B, j, none⟩ = W1.cell? ⟨B, j, none⟩) ∧ B < W.heap.size ∧
      ∀ Wa, Below W.heap.size W Wa → ∀ w4 v', Sl w4 34 16 v' (D2.q.length + 1) (cellsR cmC D2.q ++ cmC m) → Turned Wa w4 qv.ownBlock → (v'.ownBlock = qv.ownBlock ∨ ∃ g, v'.ownBlock = some g ∧ Wa.heap.size ≤ g) → RDStp w r c kk (w4.setCell ⟨r.p, 8, none⟩ v') { D2 with q := D2.q ++ [m] } := by
  have hnB : ¬ r.own B := fun e => by have := h.lt e; omega
  obtain ⟨d', e1, e2, hd, hc, ho⟩ := HD
  have hnB' : ¬ d'.own B := fun e => (ho B e).elim hnB fun h => by omega
  have c2 := hd.cell 8
  have f2 := hd.frozen 8
  have hp := lt_of_heap hd.box
  have hap : d'.qv.ownBlock ≠ some d'.p := fun e => (hd.aq _ e).1 rfl
  simp [rdeskC] at c2
  rw [e1] at c2 f2 hp hap
  obtain ⟨p, cap, hv⟩ := sl_frm hd.q
  refine ⟨d'.qv, p, cap, hv, c2, f2, hp, hap, fun e => hnB' (.inr (.inr e)), fun Wa hWa => (hd.grown hWa).q, fun j => hc.cell (a := ⟨B, j, none⟩) hB hnB, Nat.lt_of_lt_of_le hB hc.size, fun Wa hWa w4 v' hs ht hv' => ?_⟩
  have := (hd.grown hWa).queued (m := m) hs ht hv' hq
  rw [e1] at this
  exact RDStp.from_below hW1 (RDStp.next e1 e2 hc ho (this.from_below hWa))
attribute [local go_sem ↓] loadVar_ldM storeVar_stM
end Go.Proofs.YtoimjjhopljdmaaGreat
namespace Go.Proofs.YtoimjjhopljdmaaGreat
open Go.RowKit
structure OnceR (mp mq : Sh) (gv : List (Id3 × Bool)) : Prop where
  gp : Good mp
  gq : Good mq
  rel : ∀ (i : Nat) (x : Ix), mp.all[i]? = some x → ∃ y : Ix, mq.all[i]? = some y ∧ y.bound = x.bound ∧ y.gen ≤ x.gen ∧ (y.alive = true → x.alive = true ∧ y.gen = x.gen) ∧ (y.alive = false → x.gen < 1048576 → (i : Int) ∈ mq.free)
  gvn : ∀ e ∈ gv, e.1.1 = 0 ∧ 0 ≤ e.1.2.1 ∧ 0 ≤ e.1.2.2 ∧ ∃ x y : Ix, mp.all[e.1.2.1.toNat]? = some x ∧ mq.all[e.1.2.1.toNat]? = some y ∧ e.1.2.2 < x.bound ∧ e.1.2.2 ≤ x.gen ∧ (x.alive = false → e.1.2.2 < x.gen) ∧ (x.alive = true → x.gen = e.1.2.2 → y.alive = e.2)

theorem OnceR.turn {mp mq mp' mq' : Sh} {gv : List (Id3 × Bool)} (h : OnceR mp mq gv) {i : Nat} {x y x' y' : Ix} (hx : mp.all[i]? = some x) (hy : mq.all[i]? = some y) (hp : mp'.all = mp.all.set i x') (hq : mq'.all = mq.all.set i y') (gp : Good mp') (gq : Good mq')
    (hf : ∀ j : Nat, j ≠ i → (j : Int) ∈ mq.free → (j : Int) ∈ mq'.free) (h1 : y'.bound = x'.bound) (h2 : y'.gen ≤ x'.gen) (h3 : y'.alive = true → x'.alive = true ∧ y'.gen = x'.gen) (h4 : y'.alive = false → x'.gen < 1048576 → (i : Int) ∈ mq'.free)
    (hb : x.bound ≤ x'.bound) (hg : ∀ e ∈ gv, e.1.2.1 = (i : Int) → e.1.2.2 ≤ x.gen → (x.alive = false → e.1.2.2 < x.gen) → (x.alive = true → x.gen = e.1.2.2 → y.alive = e.2) → e.1.2.2 ≤ x'.gen ∧ (x'.alive = false → e.1.2.2 < x'.gen) ∧ (x'.alive = true → x'.gen = e.1.2.2 → y'.alive = e.2)) : OnceR mp' mq' gv := by
  have hil : i < mp.all.length := (List.getElem?_eq_some_iff.1 hx).1
  have hil2 : i < mq.all.length := (List.getElem?_eq_some_iff.1 hy).1
  refine ⟨gp, gq, fun j z hz => ?_, fun e he => ?_⟩
  · rw [hp, List.getElem?_set] at hz
    by_cases hj : i = j
    · subst hj
      rw [if_pos rfl, if_pos hil] at hz
      obtain rfl : x' = z := by simpa using hz
      exact ⟨y', by rw [hq, List.getElem?_set_self hil2], h1, h2, h3, h4⟩
    · rw [if_neg hj] at hz
      obtain ⟨y2, a1, a2, a3, a4, a5⟩ := h.rel j z hz
      exact ⟨y2, by rw [hq, List.getElem?_set_ne hj]; exact a1, a2, a3, a4, fun b1 b2 => hf j (fun e => hj e.symm) (a5 b1 b2)⟩
  · obtain ⟨e0, e1, e1', x2, y2, e2, e3, e4, e5, e6, e7⟩ := h.gvn e he
    refine ⟨e0, e1, e1', ?_⟩
    by_cases hj : i = e.1.2.1.toNat
    · have hei : e.1.2.1 = (i : Int) := by omega
      rw [← hj] at e2 e3 ⊢
      rw [hx] at e2
      rw [hy] at e3
      obtain rfl := Option.some.inj e2
      obtain rfl := Option.some.inj e3
      obtain ⟨g1, g2, g3⟩ := hg e he hei e5 e6 e7
      exact ⟨x', y', by rw [hp, List.getElem?_set_self hil], by rw [hq, List.getElem?_set_self hil2], by omega, g1, g2, g3⟩
    · exact ⟨x2, y2, by rw [hp, List.getElem?_set_ne hj]; exact e2, by rw [hq, List.getElem?_set_ne hj]; exact e3, e4, e5, e6, e7⟩

theorem OnceR.snoc {mp mq : Sh} {gv : List (Id3 × Bool)} (h : OnceR mp mq gv) {i : Nat} {x y : Ix} (hx : mp.all[i]? = some x) (hy : mq.all[i]? = some y) (ha : x.alive = true) (hb : x.gen < x.bound) (h0 : 0 ≤ x.gen) {b : Bool} (hyb : y.alive = b) : OnceR mp mq (gv ++ [((0, (i : Int), x.gen), b)]) := by
  refine ⟨h.gp, h.gq, h.rel, fun e he => ?_⟩
  rcases List.mem_append.1 he with he | he
  · exact h.gvn e he
  · obtain rfl : e = ((0, (i : Int), x.gen), b) := by simpa using he
    exact ⟨rfl, Int.natCast_nonneg i, h0, x, y, by simpa using hx, by simpa using hy, hb, Int.le_refl _, (fun h => by rw [ha] at h; cases h), fun _ _ => hyb⟩

theorem freeF_not {m : Sh} {i g : Int} (h : (aliveF [m] 0 i g) = false) : ∃ c : Int, (c == 0) = false ∧ freeF [m] 0 i g = (c, [m]) := by
  cases hx : ixOf [m] 0 i with
  | none => exact ⟨1, rfl, by simp only [freeF, hx]⟩
  | some x =>
    by_cases h0 : g < 0
    · exact ⟨1, rfl, by simp only [freeF, hx, if_pos h0]⟩
    · have ha : (x.alive && x.gen == g) = false := by simpa [aliveF, hx] using h
      exact ⟨9, rfl, by simp only [freeF, hx, if_neg h0, ha, if_true]⟩

theorem freed_all (m : Sh) (i : Nat) (x : Ix) : (freedSh m i x).all = m.all.set i ⟨x.gen + 1, x.bound, false⟩ := by unfold freedSh; split <;> rfl
theorem freed_free {m : Sh} {i : Nat} {x : Ix} {f : Int} (h : f ∈ m.free) : f ∈ (freedSh m i x).free := by unfold freedSh; split <;> simp [h]
theorem freed_self {m : Sh} {i : Nat} {x : Ix} (h : x.gen + 1 < 1048576) : (i : Int) ∈ (freedSh m i x).free := by unfold freedSh; rw [if_pos h]; simp

theorem OnceR.free {mp mq : Sh} {gv : List (Id3 × Bool)} (h : OnceR mp mq gv) {e : Id3 × Bool} (he : e ∈ gv) :
    (∃ mp', freeF [mp] 0 e.1.2.1 e.1.2.2 = (0, [mp']) ∧ (e.2 = true → ∃ mq', freeF [mq] 0 e.1.2.1 e.1.2.2 = (0, [mq']) ∧ OnceR mp' mq' gv) ∧ (e.2 = false → OnceR mp' mq gv)) ∨ (∃ c : Int, (c == 0) = false ∧ freeF [mp] 0 e.1.2.1 e.1.2.2 = (c, [mp])) := by
  obtain ⟨e0, e1, e1', x, y, hx, hy, e4, e5, e6, e7⟩ := h.gvn e he
  obtain ⟨⟨es, ei, eg⟩, eb⟩ := e
  simp only at e0 e1 e1' hx hy e4 e5 e6 e7 ⊢
  obtain ⟨i, rfl⟩ := Int.eq_ofNat_of_zero_le e1
  rw [Int.toNat_natCast] at hx hy
  cases ha : aliveF [mp] 0 i eg with
  | false => exact .inr (freeF_not ha)
  | true =>
    left
    have ha' : x.alive = true ∧ x.gen = eg := by simpa [aliveF, ixOf, shOf, hx] using ha
    obtain ⟨hxa, rfl⟩ := ha'
    obtain ⟨f1, f2⟩ := freeF_alive (M := [mp]) (k := 0) rfl hx hxa h.gp
    have hyb := e7 hxa rfl
    obtain ⟨y2, hy2, y1, y3, y4, y5⟩ := h.rel i x hx
    rw [hy] at hy2
    obtain rfl := Option.some.inj hy2
    have hil := (List.getElem?_eq_some_iff.1 hx).1
    have hxr := (h.gp.inv.rng i x hx).2.2.2.2 hxa
    refine ⟨freedSh mp i x, by simpa using f1, fun hb => ?_, fun hb => ?_⟩
    · subst hb
      obtain ⟨y6, y7⟩ := y4 hyb
      obtain ⟨g1, g2⟩ := freeF_alive (M := [mq]) (k := 0) rfl hy hyb h.gq
      rw [y7] at g1
      refine ⟨freedSh mq i y, by simpa using g1, ?_⟩
      refine h.turn hx hy (x' := ⟨x.gen + 1, x.bound, false⟩) (y' := ⟨y.gen + 1, y.bound, false⟩) (freed_all _ _ _) (freed_all _ _ _) f2 g2 (fun j _ hm => freed_free hm) y1 (by simp only; omega) (fun hh => by cases hh) (fun _ hh => freed_self (by simp only at hh; omega)) (Int.le_refl _) ?_
      intro e _ _ q1 _ _
      exact ⟨by simp only; omega, fun _ => by simp only; omega, fun hh => by cases hh⟩
    · subst hb
      have hset : mq.all = mq.all.set i y := by rw [← (List.getElem?_eq_some_iff.1 hy).2]; simp
      refine h.turn hx hy (x' := ⟨x.gen + 1, x.bound, false⟩) (y' := y) (freed_all _ _ _) hset f2 h.gq (fun j _ hm => hm) y1 (by simp only; omega) (fun hh => by rw [hyb] at hh; cases hh) (fun hh _ => y5 hh hxr) (Int.le_refl _) ?_
      intro e _ _ q1 _ _
      exact ⟨by simp only; omega, fun _ => by simp only; omega, fun hh => by cases hh⟩

end Go.Proofs.YtoimjjhopljdmaaGreat
namespace Go.Proofs.YtoimjjhopljdmaaGreat
open Go.RowKit
def lapsS (s : Slot) : Bool := decide (0 ≤ s.row) && decide (s.gen < s.bound)
def lapSlot (s : Slot) : Slot := if lapsS s then { s with gen := s.bound, row := if s.bound = 1048576 then -1 else s.row } else s
def lapL (l : List Slot) (n : Nat) : List Slot := (l.take n).map lapSlot ++ l.drop n
theorem lapL_get {l : List Slot} {n : Nat} {s : Slot} (hs : l[n]? = some s) : (lapL l n)[n]? = some s := by
  have hn := (List.getElem?_eq_some_iff.1 hs).1
  rw [lapL, List.getElem?_append_right (by simp; omega)]
  simp [Nat.min_eq_left (Nat.le_of_lt hn), hs]
theorem lapL_succ {l : List Slot} {n : Nat} {s : Slot} (hs : l[n]? = some s) : lapL l (n + 1) = (lapL l n).set n (lapSlot s) := by
  have hn := (List.getElem?_eq_some_iff.1 hs).1
  have e := (List.getElem?_eq_some_iff.1 hs).2
  have hd : l.drop n = s :: l.drop (n + 1) := by rw [List.drop_eq_getElem_cons hn, e]
  rw [lapL, lapL, List.take_succ_eq_append_getElem hn, e, hd, List.set_append_right _ _ (by simp; omega)]
  simp [Nat.min_eq_left (Nat.le_of_lt hn)]
def lapC (l : List Slot) : Nat := (l.filter lapsS).length
variable {ids : Nat} {M : List Sh} {rw : Int → Int → Int} {put : Int}
theorem ixSlots_cnt (k : Nat) (m : Sh) (hg : Good m) (hr : ∀ i : Nat, i < m.all.length → (0 ≤ rw k i ↔ (i : Int) ∈ m.free)) : lapC (ixSlots rw k 0 m.all) = lapN m := by
  have h1 : ixSlots rw k 0 m.all = (List.range m.all.length).map fun (i : Nat) => (⟨(k : Int), (i : Int), (m.all.getD i ⟨0, 0, false⟩).gen, (m.all.getD i ⟨0, 0, false⟩).bound, rw (k : Int) (i : Int), (m.all.getD i ⟨0, 0, false⟩).alive⟩ : Slot) := by
    apply List.ext_getElem?
    intro j
    rw [ixSlots_get, List.getElem?_map]
    by_cases hj : j < m.all.length
    · simp [List.getElem?_range hj, List.getElem?_eq_getElem hj, List.getD]
    · rw [List.getElem?_eq_none (by omega), List.getElem?_eq_none (by simp; omega)]; rfl
  have h2 : (m.free.filter (lapses m.all)).Perm (((List.range m.all.length).filter fun (i : Nat) => decide ((i : Int) ∈ m.free) && lapses m.all i).map Int.ofNat) := by
    refine (List.perm_ext_iff_of_nodup (hg.inv.nd.filter _) ?_).2 fun a => ?_
    · rw [List.nodup_iff_pairwise_ne, List.pairwise_map]
      exact (List.nodup_range.filter _).imp fun hne e => hne (Int.ofNat.inj e)
    · simp only [List.mem_filter, List.mem_map, List.mem_range, Bool.and_eq_true, decide_eq_true_eq]
      constructor
      · rintro ⟨h3, h4⟩
        obtain ⟨h0, h5⟩ := hg.inv.fr a h3
        obtain ⟨i, rfl⟩ := Int.eq_ofNat_of_zero_le h0
        exact ⟨i, ⟨by omega, h3, h4⟩, rfl⟩
      · rintro ⟨i, ⟨_, h3, h4⟩, rfl⟩
        exact ⟨h3, h4⟩
  rw [lapN, lapCnt, h2.length_eq, List.length_map, lapC, h1, List.filter_map, List.length_map]
  congr 1
  refine List.filter_congr fun i hi => ?_
  have hil := List.mem_range.1 hi
  have hrr := hr i hil
  simp only [Function.comp, lapsS, lapses, Int.toNat_natCast, List.getElem?_eq_getElem hil, List.getD, Option.getD_some]
  by_cases hf : (i : Int) ∈ m.free
  · simp [hf, hrr.2 hf]
  · have : ¬ 0 ≤ rw k i := fun h => hf (hrr.1 h)
    simp [hf, this]
theorem mSlots_cnt : ∀ (M : List Sh) (k0 : Nat), (∀ m ∈ M, Good m) → (∀ (k : Nat) (m : Sh), M[k]? = some m → ∀ i : Nat, i < m.all.length → (0 ≤ rw ((k0 + k : Nat) : Int) i ↔ (i : Int) ∈ m.free)) → lapC (mSlots rw k0 M) = (M.map lapN).sum
  | [], _, _, _ => by simp [mSlots, lapC]
  | m :: M, k0, hg, hr => by
    have h1 := ixSlots_cnt (rw := rw) k0 m (hg m (by simp)) (hr 0 m rfl)
    have h2 := mSlots_cnt M (k0 + 1) (fun m hm => hg m (List.mem_cons_of_mem _ hm)) fun k m hm i hi => by
      have := hr (k + 1) m (by simpa using hm) i hi
      rwa [show k0 + (k + 1) = k0 + 1 + k by omega] at this
    have e : lapC (mSlots rw k0 (m :: M)) = lapC (ixSlots rw k0 0 m.all) + lapC (mSlots rw ((k0 : Int) + 1) M) := by
      simp [mSlots, lapC, List.filter_append]
    rw [e, h1, List.map_cons, List.sum_cons, ← h2]
    rfl
theorem Sim.cnt (h : Sim ids M rw put) : lapC (mSlots rw 0 M) = (M.map lapN).sum :=
  mSlots_cnt M 0 h.good fun k m hm i hi => by
    have := (h.row k m hm i (by rw [← h.len m (List.mem_of_getElem? hm)]; exact hi)).1
    simpa using this
end Go.Proofs.YtoimjjhopljdmaaGreat
namespace Go.Proofs.YtoimjjhopljdmaaGreat
open Go.RowKit

def LapR (w : World) (R : RLay) (l : List Slot) (put : Int) (wr : World) (n : Nat) : Prop := RefAt wr R (lapL l n) put ∧ Chg w wr R.own ∧ w.heap.size ≤ wr.heap.size
theorem LapR.gen {w wr : World} {R : RLay} {l : List Slot} {put : Int} {n : Nat} {s : Slot} (h : LapR w R l put wr n) (hs : l[n]? = some s) (hn : lapsS s = true) (hb : s.bound ≠ 1048576) : LapR w R l put (wr.setCell ⟨R.b, R.off + n * 6 + 2, none⟩ (.int .i64 s.bound)) (n + 1) := by
  refine ⟨?_, h.2.1.put1 _ _, by simpa [World.setCell] using h.2.2⟩
  rw [lapL_succ hs, lapSlot, hn]
  exact h.1.put1 (lapL_get hs) 2 _ (by omega) (by simp [Slot.cells, hb])
end Go.Proofs.YtoimjjhopljdmaaGreat
