/-
  Chapter texts QmC Hlp Rin: what the claim reaches of them. Conditions stand at each theorem.
-/
import Derived.Maps.OwnSet
import Derived.DeepKeys4
import Derived.Test.YtmkfjelpekkmmaaQ02
import Derived.Test.YtmkfjelpekkmmaaQ04
namespace Go.Proofs.Ytmkfjelpekkmmaa
open Go.RowKit Go.Maps Go.MapKept Go.ChangeMaps

def nidV (n : Nid) : Value := .agg #[.int .i64 n.s, .int .i64 n.i, .int .i64 n.g]
def plV (p : Nat × Nat) : Value := .agg #[.int .i64 p.1, .int .i64 p.2]
def NFit (n : Nid) : Prop := I64 n.s ∧ I64 n.i ∧ I64 n.g
theorem nidV_inj {a b : Nid} (h : nidV a = nidV b) : a = b := by
  obtain ⟨s, i, g⟩ := a
  obtain ⟨s', i', g'⟩ := b
  simpa [nidV] using h
theorem mapLaw : Keyed Try.prog 48 := Keyed.of_law (deep_law_laid laidOut (m := 2) (by omega) (of_decide_eq_true (by kernel_rfl)) (by kernel_rfl) (by rw [Try.underlying48]))
theorem types_size : ∃ d, Try.prog.types.size + 1 = d + 2 := by
  have h : 1 ≤ Try.prog.types.size := of_decide_eq_true (by kernel_rfl)
  exact ⟨Try.prog.types.size - 1, by omega⟩
theorem key_nid (n : Nid) (h : NFit n) : ∃ l, keyOf Try.prog 48 (nidV n) = some l := by
  obtain ⟨d, hd⟩ := types_size
  obtain ⟨⟨a1, a2⟩, ⟨b1, b2⟩, ⟨c1, c2⟩⟩ := h
  unfold keyOf
  rw [Try.underlying48]
  have hf : (nidV n).formed Try.prog 48 = true := by simp [nidV, Value.formed, Try.underlying48, cells_id]
  rw [hd]
  have hk : Try.prog.keyType 48 = true := by kernel_rfl
  have hs : (Lit.int .i64 n.s).wf = true := by simp [Lit.wf, IntKind.min, IntKind.max, IntKind.bits, IntKind.signed]; omega
  have hi : (Lit.int .i64 n.i).wf = true := by simp [Lit.wf, IntKind.min, IntKind.max, IntKind.bits, IntKind.signed]; omega
  have hg : (Lit.int .i64 n.g).wf = true := by simp [Lit.wf, IntKind.min, IntKind.max, IntKind.bits, IntKind.signed]; omega
  simp [hk, nidV, Value.cells, Program.keyLits, Try.underlying48, Try.underlying3, cells_id, cells_int, hs, hi, hg]
  exact hf
def MpO (o : Obj) (P : List Pl) : Prop :=
  ∃ (es : Array MapEntry) (clock : Nat), o = .map es clock ∧ es.toList.map (fun e => (e.key, e.val)) = P.map (fun x => (nidV x.1, plV x.2)) ∧ ∀ x ∈ P, NFit x.1
theorem ents_get {es : Array MapEntry} {P : List Pl} (h : es.toList.map (fun e => (e.key, e.val)) = P.map (fun x => (nidV x.1, plV x.2))) {j : Nat} {e : MapEntry} (he : es.toList[j]? = some e) : ∃ x, P[j]? = some x ∧ e.key = nidV x.1 ∧ e.val = plV x.2 := by
  have := congrArg (fun l => l[j]?) h
  simp only [List.getElem?_map, he, Option.map_some] at this
  cases hx : P[j]? with
  | none => rw [hx] at this; cases this
  | some x =>
    rw [hx] at this
    simp only [Option.map_some, Option.some.injEq, Prod.mk.injEq] at this
    exact ⟨x, rfl, this.1, this.2⟩
theorem ents_keys {es : Array MapEntry} {P : List Pl} (h : es.toList.map (fun e => (e.key, e.val)) = P.map (fun x => (nidV x.1, plV x.2))) (hf : ∀ x ∈ P, NFit x.1) : ∀ e ∈ es.toList, ∃ l, keyOf Try.prog 48 e.key = some l := fun e he => by
  obtain ⟨j, hj⟩ := List.mem_iff_getElem?.1 he
  obtain ⟨x, hx, hk, _⟩ := ents_get h hj
  rw [hk]
  exact key_nid _ (hf x (List.mem_of_getElem? hx))
theorem find_mp {w : World} {es : Array MapEntry} {P : List Pl} (h : es.toList.map (fun e => (e.key, e.val)) = P.map (fun x => (nidV x.1, plV x.2))) (hf : ∀ x ∈ P, NFit x.1) (n : Nid) (hn : NFit n) :
    ((Instr.findKey 48 (nidV n) es.toList).run Try.prog w = .ok none w ∧ n ∉ P.map fun x => x.1) ∨ ∃ j v, (Instr.findKey 48 (nidV n) es.toList).run Try.prog w = .ok (some (j, plV v)) w ∧ P[j]? = some (n, v) := by
  obtain ⟨l, hl⟩ := key_nid n hn
  rcases mapLaw.find w hl es.toList (ents_keys h hf) with ⟨h1, h2⟩ | ⟨j, e, h1, h2, h3⟩
  · refine .inl ⟨h1, fun hm => ?_⟩
    obtain ⟨x, hx, rfl⟩ := List.mem_map.1 hm
    obtain ⟨j, hj⟩ := List.mem_iff_getElem?.1 hx
    have := congrArg (fun l => l[j]?) h
    simp only [List.getElem?_map, hj, Option.map_some] at this
    cases he : es.toList[j]? with
    | none => rw [he] at this; cases this
    | some e =>
      rw [he] at this
      simp only [Option.map_some, Option.some.injEq, Prod.mk.injEq] at this
      exact h2 e (List.mem_of_getElem? he) this.1
  · obtain ⟨x, hx, hk, hv⟩ := ents_get h h2
    refine .inr ⟨j, x.2, by rw [h1, hv], ?_⟩
    rw [hx]
    have : x.1 = n := nidV_inj (hk.symm.trans h3)
    rw [← this]
theorem MpO.look_no {o : Obj} {P : List Pl} (h : MpO o P) (n : Nid) (hn : NFit n) (hk : n ∉ P.map fun x => x.1) (c : Bool) (W : World) (b : Nat) (hb : W.heap[b]? = some o) :
    (Instr.lookup 85 (.map (some b)) (.agg #[.int .i64 n.s, .int .i64 n.i, .int .i64 n.g]) c).run Try.prog W = .ok (if c then .tuple #[.agg #[.int .i64 0, .int .i64 0], .bool false] else .agg #[.int .i64 0, .int .i64 0]) W := by
  obtain ⟨es, clock, rfl, he, hf⟩ := h
  obtain ⟨l, hl⟩ := key_nid n hn
  have hz : (zeroValue 81).run Try.prog W = .ok (.agg #[.int .i64 0, .int .i64 0]) W := by kernel_rfl
  rcases find_mp (w := W) he hf n hn with ⟨h1, h2⟩ | ⟨j, v, h1, h2⟩
  · unfold nidV at hl h1
    simp [Instr.lookup, run_underlying Try.underlying85, MapKept.run_getObj_map hb, mapLaw.check W _ hl, h1, hz, Result.andThen]
  · exact absurd (List.mem_map.2 ⟨_, List.mem_of_getElem? h2, rfl⟩) hk
theorem MpO.look {o : Obj} {P : List Pl} (h : MpO o P) (n : Nid) (hn : NFit n) (hk : (P.map fun x => x.1).Nodup) {m r : Nat} (hm : (n, m, r) ∈ P) (c : Bool) (W : World) (b : Nat) (hb : W.heap[b]? = some o) :
    (Instr.lookup 85 (.map (some b)) (.agg #[.int .i64 n.s, .int .i64 n.i, .int .i64 n.g]) c).run Try.prog W = .ok (if c then .tuple #[.agg #[.int .i64 m, .int .i64 r], .bool true] else .agg #[.int .i64 m, .int .i64 r]) W := by
  obtain ⟨es, clock, rfl, he, hf⟩ := h
  obtain ⟨l, hl⟩ := key_nid n hn
  rcases find_mp (w := W) he hf n hn with ⟨h1, h2⟩ | ⟨j, v, h1, h2⟩
  · exact absurd (List.mem_map.2 ⟨_, hm, rfl⟩) h2
  · obtain ⟨i, hi⟩ := List.mem_iff_getElem?.1 hm
    obtain ⟨hj1, hj2⟩ := List.getElem?_eq_some_iff.1 h2
    obtain ⟨hi1, hi2⟩ := List.getElem?_eq_some_iff.1 hi
    have : (m, r) = v := by
      unfold List.Nodup at hk
      rw [List.pairwise_map] at hk
      rcases Nat.lt_trichotomy i j with hlt | rfl | hlt
      · exact absurd (by rw [hi2, hj2]) (List.pairwise_iff_getElem.1 hk i j hi1 hj1 hlt)
      · rw [hj2] at hi2; cases hi2; rfl
      · exact absurd (by rw [hi2, hj2]) (List.pairwise_iff_getElem.1 hk j i hj1 hi1 hlt)
    subst this
    unfold nidV at hl h1
    simp [Instr.lookup, run_underlying Try.underlying85, MapKept.run_getObj_map hb, mapLaw.check W _ hl, h1, Result.andThen, plV]
def setB (w : World) (b : Nat) (o : Obj) : World := { w with heap := w.heap.setIfInBounds b o }
theorem setB_turned (w : World) (b : Nat) (o : Obj) : Turned w (setB w b o) (some b) :=
  ⟨rfl, rfl, rfl, by simp [setB], fun k hk hne => by simp only [setB]; exact Array.getElem?_setIfInBounds_ne (fun e => hne (by rw [e]))⟩
theorem setB_same {w : World} {b : Nat} {o o' : Obj} (h : w.heap[b]? = some o') : (setB w b o).heap[b]? = some o := by
  have := (Array.getElem?_eq_some_iff.1 h).1
  simp [setB, this]
theorem MpO.store_new {o : Obj} {P : List Pl} (h : MpO o P) (n : Nid) (m r : Nat) (hn : NFit n) (hk : n ∉ P.map fun x => x.1) :
    ∃ o', MpO o' (P ++ [(n, m, r)]) ∧ ∀ (W : World) (b : Nat), W.heap[b]? = some o → (Instr.mapUpdate 85 (.map (some b)) (.agg #[.int .i64 n.s, .int .i64 n.i, .int .i64 n.g]) (.agg #[.int .i64 m, .int .i64 r])).run Try.prog W = .ok () (setB W b o') := by
  obtain ⟨es, clock, rfl, he, hf⟩ := h
  obtain ⟨l, hl⟩ := key_nid n hn
  by_cases hin : n ∈ P.map fun x => x.1
  · exact absurd hin hk
  · refine ⟨.map (es.push ⟨nidV n, plV (m, r), clock⟩) (clock + 1), ⟨_, _, rfl, ?_, fun x hx => ?_⟩, fun W b hb => ?_⟩
    rotate_left 2
    · rcases find_mp (w := W) he hf n hn with ⟨h1, h2⟩ | ⟨j, v', h1, h2⟩
      · unfold nidV at hl h1
        simp [Instr.mapUpdate, run_underlying Try.underlying85, MapKept.run_getObj_map hb, mapLaw.check W false hl, h1, MapKept.run_setObj_map _ hb, Result.andThen, setB, nidV, plV]
      · exact absurd (List.mem_map.2 ⟨_, List.mem_of_getElem? h2, rfl⟩) hk
    · simp [he]
    · rcases List.mem_append.1 hx with hx | hx
      · exact hf x hx
      · simp only [List.mem_singleton] at hx
        subst hx; exact hn
theorem MpO.length {o : Obj} {P : List Pl} (h : MpO o P) (W : World) (b : Nat) (ty : TypeId) (hb : W.heap[b]? = some o) : (Builtin.len_ #[85] ty #[.map (some b)]).run Try.prog W = .ok (.int .i64 (P.length : Int)) W := by
  obtain ⟨es, clock, rfl, he, hf⟩ := h
  have hlen := congrArg List.length he
  simp only [List.length_map, Array.length_toList] at hlen
  simp [Builtin.len_, run_underlying Try.underlying85, MapKept.run_getObj_map hb, goInt, Result.andThen, hlen]
end Go.Proofs.Ytmkfjelpekkmmaa
namespace Go.Proofs.Ytmkfjelpekkmmaa
open Go.RowKit
theorem sl_lt {w : World} {e : TypeId} {size : Nat} {v : Value} {n : Nat} {xs : List Value} (h : Sl w e size v n xs) {g : Nat} (hg : v.ownBlock = some g) : g < w.heap.size := by
  obtain ⟨_, ⟨rfl, _⟩ | ⟨g', off, cap, cur, rfl, hb, _⟩⟩ := h
  · cases hg
  · cases hg; exact (Array.getElem?_eq_some_iff.1 hb).1
theorem sl_frm {w : World} {e : TypeId} {size : Nat} {v : Value} {n : Nat} {xs : List Value} (h : Sl w e size v n xs) : ∃ p cap, v = .slice p n cap := by
  obtain ⟨_, ⟨rfl, rfl⟩ | ⟨g, off, cap, cur, rfl, _⟩⟩ := h
  · exact ⟨none, 0, rfl⟩
  · exact ⟨_, cap, rfl⟩
theorem new_cells (W : World) (arr : Array Value) (t : TypeId) (j : Nat) (u : Value) (h : arr.toList[j]? = some u) : (W.alloc (.cells arr t)).cell? (Addr.add ⟨W.heap.size, 0, none⟩ j) = some u := by
  have e : Addr.add ⟨W.heap.size, 0, none⟩ j = ⟨W.heap.size, j, none⟩ := by unfold Addr.add; split <;> simp_all
  rw [e]
  simp
  simpa using h
theorem heap_alloc_new_at (W : World) (o : Obj) (n : Nat) (h : n = W.heap.size) : (W.alloc o).heap[n]? = some o := by subst h; exact heap_alloc_new W o
theorem new_cellsN (W : World) (arr : Array Value) (t : TypeId) (n : Nat) (hn : n = W.heap.size) (j : Nat) (u : Value) (h : arr.toList[j]? = some u) : (W.alloc (.cells arr t)).cell? (Addr.add ⟨n, 0, none⟩ j) = some u := by subst hn; exact new_cells W arr t j u h
theorem info_partsG {P : Program} {t : TypeId} {z : Value} {s b : Nat} (h : (P.info? t).map (fun i => (i.zero, i.size, i.bytes)) = some (some z, s, b)) : ∃ i, P.info? t = some i ∧ i.zero = some z ∧ i.size = s ∧ i.bytes = b := by
  cases hi : P.info? t with
  | none => rw [hi] at h; cases h
  | some i => rw [hi] at h; simp at h; exact ⟨i, rfl, h.1, h.2.1, h.2.2⟩
theorem ltz {a W : Nat} (h : a < W) : (∀ n, a < W + n) ∧ (∀ n m, a < W + n + m) ∧ (∀ n m q, a < W + n + m + q) := ⟨fun _ => by omega, fun _ _ => by omega, fun _ _ _ => by omega⟩
theorem new_box (W : World) (arr : Array Value) (t : TypeId) (n : Nat) (hn : n = W.heap.size) : (∀ u, (W.alloc (.cells arr t)).cell? ⟨n, u, none⟩ = arr[u]?) ∧ (∀ u, (W.alloc (.cells arr t)).frozen? ⟨n, u, none⟩ = false) ∧ n < (W.alloc (.cells arr t)).heap.size ∧ Below W.heap.size W (W.alloc (.cells arr t)) := by
  subst hn
  have e := heap_alloc_new_at W (.cells arr t) W.heap.size rfl
  refine ⟨fun u => ?_, fun u => ?_, by simp, (Below.refl _ _).alloc (Nat.le_refl _) _⟩
  · unfold World.cell?; rw [e]; rfl
  · unfold World.frozen?; rw [e]; simp
theorem list_of {β : Type} {P : Nat → β → Prop} : ∀ (n : Nat), (∀ i, i < n → ∃ b, P i b) → ∃ l : List β, l.length = n ∧ ∀ i b, l[i]? = some b → P i b
  | 0, _ => ⟨[], rfl, fun i b h => by cases h⟩
  | n + 1, h => by
    obtain ⟨l, hl, hp⟩ := list_of n fun i hi => h i (by omega)
    obtain ⟨b, hb⟩ := h n (by omega)
    refine ⟨l ++ [b], by simp [hl], fun i c hc => ?_⟩
    by_cases hi : i < n
    · rw [List.getElem?_append_left (by omega)] at hc; exact hp i c hc
    · rw [List.getElem?_append_right (by omega)] at hc
      have : i - l.length = 0 := by have := (List.getElem?_eq_some_iff.1 hc).1; simp at this; omega
      rw [this] at hc
      simp at hc
      subst hc
      obtain rfl : i = n := by omega
      exact hb
theorem two_boxes (W : World) (a6 a7 : Array Value) (t6 t7 : TypeId) : ∃ w1, w1 = (W.alloc (.cells a6 t6)).alloc (.cells a7 t7) ∧ Below W.heap.size W w1 ∧ (∀ u, w1.cell? ⟨W.heap.size, u, none⟩ = a6[u]?) ∧ (∀ u, w1.cell? ⟨W.heap.size + 1, u, none⟩ = a7[u]?) ∧
    (∀ u, w1.frozen? ⟨W.heap.size, u, none⟩ = false) ∧ (∀ u, w1.frozen? ⟨W.heap.size + 1, u, none⟩ = false) ∧ w1.heap.size = W.heap.size + 1 + 1 := by
  have e6 : ((W.alloc (.cells a6 t6)).alloc (.cells a7 t7)).heap[W.heap.size]? = some (.cells a6 t6) :=
    (((Below.refl _ (W.alloc (.cells a6 t6))).alloc (Nat.le_refl _) (.cells a7 t7)).block W.heap.size (by simp)).trans (heap_alloc_new_at W _ _ rfl)
  have e7 : ((W.alloc (.cells a6 t6)).alloc (.cells a7 t7)).heap[W.heap.size + 1]? = some (.cells a7 t7) := heap_alloc_new_at _ _ _ (by simp)
  refine ⟨_, rfl, (by repeat' (first | (with_reducible exact Below.refl _ _) | (with_reducible assumption) | (with_reducible refine below_drewN ?_ _) | (with_reducible refine below_more _ _ _ ?_ ?_) | (with_reducible refine Below.alloc ?_ ?_ _) | (with_reducible refine Below.drew ?_) | (with_reducible refine Below.setCell ?_ ?_ _) | go_size)), fun u => ?_, fun u => ?_, fun u => ?_, fun u => ?_, by simp⟩
  · unfold World.cell?; rw [e6]; rfl
  · unfold World.cell?; rw [e7]; rfl
  · unfold World.frozen?; rw [e6]; simp
  · unfold World.frozen?; rw [e7]; simp
theorem Turned.below_new {W w2 a : World} {b : Option Nat} {B : Nat} (h : Turned W w2 b) (hb : ∀ k, b = some k → B ≤ k) (h0 : Below B a W) (hB : B ≤ W.heap.size) : Below B a w2 :=
  h0.trans ⟨h.os, h.tape, h.output, by have := h.size; omega, fun k hk => h.block k (by omega) (fun e => by have := hb k e.symm; omega)⟩
theorem one_box (W : World) (a6 : Array Value) (t6 : TypeId) : ∃ w1, w1 = W.alloc (.cells a6 t6) ∧ (∀ u, w1.cell? ⟨W.heap.size, u, none⟩ = a6[u]?) ∧ Below W.heap.size W w1 ∧ (∀ u, w1.frozen? ⟨W.heap.size, u, none⟩ = false) ∧ w1.heap.size = W.heap.size + 1 := by
  obtain ⟨h1, h2, h3, h4⟩ := new_box W a6 t6 W.heap.size rfl
  exact ⟨_, rfl, h1, h4, h2, by simp⟩
end Go.Proofs.Ytmkfjelpekkmmaa
namespace Go.Proofs.Ytmkfjelpekkmmaa
open Go.RowKit
section
variable {β : Type} (enc : β → List Value) (T : TypeId) (size : Nat) (hk : ∀ x, (enc x).length = size)
def cellsR (l : List β) : List Value := l.flatMap enc
theorem cellsR_app (l l' : List β) : cellsR enc (l ++ l') = cellsR enc l ++ cellsR enc l' := by simp [cellsR]
theorem cellsR_one (x : β) : cellsR enc [x] = enc x := by simp [cellsR]
include hk in
theorem cellsR_len : ∀ l : List β, (cellsR enc l).length = l.length * size
  | [] => by simp [cellsR]
  | b :: l => by
    have h := cellsR_len l
    simp only [cellsR, List.flatMap_cons, List.length_append, hk, List.length_cons] at *
    rw [h, Nat.add_mul, Nat.one_mul, Nat.add_comm]
include hk in
theorem cellsR_get : ∀ (l : List β) (k j : Nat) (b : β), l[k]? = some b → j < size → (cellsR enc l)[k * size + j]? = (enc b)[j]?
  | c :: l, 0, j, b, h, hj => by
    obtain rfl : c = b := by simpa using h
    simp only [cellsR, List.flatMap_cons, Nat.zero_mul, Nat.zero_add]
    rw [List.getElem?_append_left (by rw [hk]; exact hj)]
  | c :: l, k + 1, j, b, h, hj => by
    have ih := cellsR_get l k j b (by simpa using h) hj
    simp only [cellsR, List.flatMap_cons] at *
    rw [List.getElem?_append_right (by rw [hk, Nat.add_mul]; omega), hk, show (k + 1) * size + j - size = k * size + j by rw [Nat.add_mul]; omega, ih]

def RIn (w : World) (v : Value) (l : List β) : Prop :=
  ∃ p cap, v = .slice p l.length cap ∧ l.length ≤ maxLen ∧ (p = none → cap = 0) ∧ l.length ≤ cap ∧ (l ≠ [] → ∃ blk off, p = some ⟨blk, off, none⟩ ∧ blk < w.heap.size ∧ ∀ t u, (cellsR enc l)[t]? = some u → w.cell? ⟨blk, off + t, none⟩ = some u)
def RNew (w w' : World) (v : Value) (l : List β) : Prop := Sl w' T size v l.length (cellsR enc l) ∧ Below w.heap.size w w' ∧ ∀ g, v.ownBlock = some g → w.heap.size ≤ g
variable {enc T size}

theorem RIn.of_sl {w : World} {v : Value} {l : List β} (h : Sl w T size v l.length (cellsR enc l)) : RIn enc w v l := by
  obtain ⟨_, ⟨rfl, h0⟩ | ⟨g, off, cap, cur, rfl, hb, hn, hc, hsz, hr⟩⟩ := h
  · obtain rfl := List.eq_nil_of_length_eq_zero h0
    exact ⟨none, 0, rfl, by simp [maxLen], fun _ => rfl, Nat.le_refl _, fun h => absurd rfl h⟩
  · exact ⟨_, cap, rfl, by omega, (fun h => by cases h), hn, fun _ => ⟨g, off, rfl, (Array.getElem?_eq_some_iff.1 hb).1, fun t u hu => by simp [World.cell?, hb, hr t u hu]⟩⟩
theorem RIn.keep {w w' : World} {v : Value} {l : List β} (h : RIn enc w v l) (hb : Below w.heap.size w w') : RIn enc w' v l := by
  obtain ⟨p, cap, rfl, h1, h2, h3, h4⟩ := h
  refine ⟨p, cap, rfl, h1, h2, h3, fun hn => ?_⟩
  obtain ⟨blk, off, rfl, h5, h6⟩ := h4 hn
  exact ⟨blk, off, rfl, Nat.lt_of_lt_of_le h5 hb.size, fun t u hu => (hb.cell (p := ⟨blk, off + t, none⟩) h5).trans (h6 t u hu)⟩
include hk in
theorem RIn.cells {w : World} {v : Value} {l : List β} (h : RIn enc w v l) {k : Nat} {b : β} (hb : l[k]? = some b) : ∃ blk off cap, v = .slice (some ⟨blk, off, none⟩) l.length cap ∧ blk < w.heap.size ∧ ∀ j u, (enc b)[j]? = some u → w.cell? ⟨blk, off + k * size + j, none⟩ = some u := by
  obtain ⟨p, cap, rfl, _, _, _, h4⟩ := h
  obtain ⟨blk, off, rfl, h5, h6⟩ := h4 (fun e => by subst e; cases hb)
  refine ⟨blk, off, cap, rfl, h5, fun j u hj => ?_⟩
  have hj' : j < size := by have := (List.getElem?_eq_some_iff.1 hj).1; rwa [hk] at this
  have e := cellsR_get enc size hk l k j b hb hj'
  rw [Nat.add_assoc]
  exact h6 _ u (e.trans hj)
theorem RNew.rin {w0 w : World} {v : Value} {l : List β} (h : RNew enc T size w0 w v l) : RIn enc w v l := RIn.of_sl h.1
theorem RNew.grow {w0 w w' : World} {v : Value} {l : List β} (h : RNew enc T size w0 w v l) (hb : Below w.heap.size w w') : RNew enc T size w0 w' v l :=
  ⟨h.1.keep fun g hg => hb.block g (sl_lt h.1 hg), h.2.1.trans (hb.mono h.2.1.size), h.2.2⟩
theorem RNew.nil (w : World) : RNew enc T size w w (.slice none 0 0) ([] : List β) := ⟨⟨by simp [cellsR], .inl ⟨rfl, rfl⟩⟩, Below.refl _ _, fun g hg => by cases hg⟩
theorem RNew.since {w0 w1 w : World} {v : Value} {l : List β} (h : RNew enc T size w1 w v l) (hb : Below w0.heap.size w0 w1) : RNew enc T size w0 w v l :=
  ⟨h.1, hb.trans (h.2.1.mono hb.size), fun g hg => Nat.le_trans hb.size (h.2.2 g hg)⟩
theorem RNew.snoc {w0 w w1 : World} {v v' : Value} {l : List β} {b : β} (h : RNew enc T size w0 w v l) (hs : Sl w1 T size v' (l.length + 1) (cellsR enc l ++ enc b)) (ht : Turned w w1 v.ownBlock)
    (ho : v'.ownBlock = v.ownBlock ∨ ∃ g, v'.ownBlock = some g ∧ w.heap.size ≤ g) : RNew enc T size w0 w1 v' (l ++ [b]) := by
  refine ⟨?_, h.2.1.trans ⟨ht.os, ht.tape, ht.output, ht.size, fun k hk => ht.block k (by have := h.2.1.size; omega) fun e => by have := h.2.2 k e.symm; omega⟩, fun q hq => ?_⟩
  · rw [cellsR_app, cellsR_one]; simpa using hs
  · rcases ho with e | ⟨g', e, hg'⟩
    · exact h.2.2 q (by rw [← e]; exact hq)
    · rw [e] at hq
      cases hq
      exact Nat.le_trans h.2.1.size hg'
end
end Go.Proofs.Ytmkfjelpekkmmaa
