/-
  Chapter texts PoolH PoolI PoolN: what the claim reaches of them. Conditions stand at each theorem.
-/
import Derived.Laws.MakeOwn
import Derived.Test.YtoimjjhopljdmaaGreatQ05
namespace Go.Proofs.YtoimjjhopljdmaaGreat
open Go.RowKit

def freshIx (ids : Nat) : List Ix := List.replicate ids ⟨0, 0, false⟩
def fresh (ids j : Nat) : Sh := ⟨freshIx ids, (List.range j).map Int.ofNat⟩

theorem fresh_inv (ids j : Nat) (h : ids ≤ 16) (hj : j ≤ ids) : ShInv (fresh ids j) := by
  refine ⟨by simp [fresh, freshIx, h], fun i x hx => ?_, fun f hf => ?_, ?_, fun f hf x hx => ?_⟩
  · simp only [fresh, freshIx, List.getElem?_replicate] at hx
    split at hx
    · cases hx; simp
    · cases hx
  · simp only [fresh, List.mem_map, List.mem_range] at hf
    obtain ⟨a, ha, rfl⟩ := hf
    simp [fresh, freshIx]
    omega
  · show ((List.range j).map Int.ofNat).Nodup
    rw [List.nodup_iff_pairwise_ne] at *
    rw [List.pairwise_map]
    exact List.nodup_range.imp fun h e => h (Int.ofNat.inj e)
  · simp only [fresh, freshIx, List.getElem?_replicate] at hx
    split at hx
    · cases hx; rfl
    · cases hx

theorem made_get (z : Array Value) (n j : Nat) (h : j < n) : (madeCells z n)[j]? = some (z[j % z.size]!) := by
  simp [madeCells, h]

theorem set_self' (ca : Array Value) (j : Nat) (v : Value) (h : j < ca.size) : (ca.setIfInBounds j v)[j]? = some v := by simp [h]

def Lay.snoc (L : Lay) (l : ShL) : Lay := { L with sh := L.sh ++ [l] }

theorem PoolN.add {w w' : World} {L : Lay} {M : List Sh} {n ids : Nat} (h : PoolN w L M n) (hlt : M.length < n) (hids : ids ≤ 16)
    (hc : Chg w w' (fun b => b = L.S)) (hA : w'.heap[w.heap.size]? = some (.cells (madeCells #[.int .i64 0, .int .i64 0, .bool false] (ids * 3)) 186 (0, 0)))
    (hS : ∀ cur, w.heap[L.S]? = some (.cells cur 178 (0, 0)) → w'.heap[L.S]? = some (.cells (cur.setIfInBounds (M.length * 2) (.slice (some ⟨w.heap.size, 0, none⟩) ids ids)) 178 (0, 0))) :
    PoolN w' (L.snoc ⟨w.heap.size, .slice none 0 0⟩) (M ++ [fresh ids 0]) n ∧ ∀ b, (L.snoc ⟨w.heap.size, .slice none 0 0⟩).own b → L.own b ∨ w.heap.size ≤ b := by
  obtain ⟨cur, hcur, hsz, hrest, hsh⟩ := h.shards
  have hlen := h.len
  have hhas : ∀ t b, (L.snoc ⟨w.heap.size, .slice none 0 0⟩).has t b → L.has t b ∨ (t = 2 * M.length + 2 ∧ b = w.heap.size) := by
    intro t b ht
    match t, ht with
    | 0, ht => exact .inl ht
    | 1, ht => exact .inl ht
    | t + 2, ht =>
      obtain ⟨x, hx, hor⟩ := ht
      simp only [Lay.snoc, List.getElem?_append] at hx
      split at hx
      · exact .inl ⟨x, hx, hor⟩
      · have hlt2 := (List.getElem?_eq_some_iff.1 hx).1
        simp only [List.length_singleton] at hlt2
        rw [show t / 2 - L.sh.length = 0 by omega] at hx
        obtain rfl : (⟨w.heap.size, .slice none 0 0⟩ : ShL) = x := by simpa using hx
        rcases hor with ⟨h0, h1⟩ | ⟨h0, h1⟩
        · exact .inr ⟨by omega, h1.symm⟩
        · cases h1
  have hPn : L.P ≠ L.S := fun e => by have := h.apart 0 1 L.P rfl e.symm; omega
  refine ⟨⟨by simp [Lay.snoc, hlen], by simp; omega, h.few, (hc.block _ (lt_of_heap h.top) hPn).trans h.top, ⟨_, hS cur hcur, by simp [hsz], fun j hj hjn => ?_, fun k m l hm hl => ?_⟩, ?_⟩, ?_⟩
  · simp only [List.length_append, List.length_singleton] at hj
    rw [Array.getElem?_setIfInBounds_ne (by omega), Array.getElem?_setIfInBounds_ne (by omega)]
    exact hrest j (by omega) hjn
  · simp only [Lay.snoc, List.getElem?_append] at hm hl
    by_cases hk : k < M.length
    · rw [if_pos hk] at hm
      rw [if_pos (by omega)] at hl
      have hs := hsh k m l hm hl
      refine hs.keep (Array.getElem?_setIfInBounds_ne (by omega)) (Array.getElem?_setIfInBounds_ne (by omega)) (hc.block _ ?_ (fun e => h.S_ne_A hl e.symm)) fun g hg => hc.block _ (hs.free.lt hg) (fun e => h.S_ne_F hl hg e.symm)
      obtain ⟨ca, hca, _⟩ := hs.rows; exact lt_of_heap hca
    · rw [if_neg hk] at hm
      rw [if_neg (by omega)] at hl
      have hk0 : k - M.length = 0 := by
        have := (List.getElem?_eq_some_iff.1 hm).1
        simp only [List.length_singleton] at this
        omega
      rw [hk0] at hm
      rw [show k - L.sh.length = 0 by omega] at hl
      obtain rfl : fresh ids 0 = m := by simpa using hm
      obtain rfl : (⟨w.heap.size, .slice none 0 0⟩ : ShL) = l := by simpa using hl
      have hkM : k = M.length := by omega
      subst hkM
      refine ⟨?_, ?_, ⟨_, hA, ?_, fun i x hx => ?_⟩, ⟨by simp [fresh], .inl ⟨rfl, by simp [fresh]⟩⟩, fresh_inv ids 0 hids (Nat.zero_le _)⟩
      · rw [set_self' _ _ _ (by omega)]; simp [fresh, freshIx]
      · rw [Array.getElem?_setIfInBounds_ne (by omega)]
        exact (hrest M.length (Nat.le_refl _) hlt).2
      · rw [size_madeCells]; simp [fresh, freshIx, Nat.mul_comm]
      · simp only [fresh, freshIx, List.getElem?_replicate] at hx
        split at hx
        · rename_i hi
          cases hx
          refine ⟨?_, ?_, ?_⟩
          · rw [made_get _ _ _ (by omega), show (i * 3) % (#[Value.int .i64 0, .int .i64 0, .bool false] : Array Value).size = 0 by simp]; rfl
          · rw [made_get _ _ _ (by omega), show (i * 3 + 1) % (#[Value.int .i64 0, .int .i64 0, .bool false] : Array Value).size = 1 by simp]; rfl
          · rw [made_get _ _ _ (by omega), show (i * 3 + 2) % (#[Value.int .i64 0, .int .i64 0, .bool false] : Array Value).size = 2 by simp]; rfl
        · cases hx
  · intro t t' b ht ht'
    rcases hhas t b ht with a | ⟨a, hb⟩ <;> rcases hhas t' b ht' with a' | ⟨a', hb'⟩
    · exact h.apart t t' b a a'
    · have := h.lt ⟨t, a⟩; omega
    · have := h.lt ⟨t', a'⟩; omega
    · omega
  · rintro b ⟨t, ht⟩
    rcases hhas t b ht with a | ⟨_, hb⟩
    · exact .inl ⟨t, a⟩
    · exact .inr (by omega)

theorem info_ix : (Tryz.prog.info? 186).map (fun i => (i.zero, i.size, i.bytes)) = some (some (.agg #[.int .i64 0, .int .i64 0, .bool false]), 3, 24) := by kernel_rfl
theorem info_sh : (Tryz.prog.info? 178).map (fun i => (i.zero, i.size, i.bytes)) = some (some (.agg #[.slice none 0 0, .slice none 0 0]), 2, 48) := by kernel_rfl

def NewAt (w0 wr : World) (n ids k : Nat) (part : Option Nat) : Prop := ∃ L : Lay, L.P = w0.heap.size + 1 ∧ L.S = w0.heap.size ∧ PoolN wr L (List.replicate k (fresh ids ids) ++ (match part with | none => [] | some j => [fresh ids j])) n ∧ Below w0.heap.size w0 wr ∧ ∀ b, L.own b → w0.heap.size ≤ b

theorem newAt_zero (w : World) (n ids : Nat) (h2 : n ≤ 16) : NewAt w ((w.alloc (.cells (madeCells #[.slice none 0 0, .slice none 0 0] (n * 2)) 178)).alloc (.cells #[.slice (some ⟨w.heap.size, 0, none⟩) n n] 174)) n ids 0 none := by
  refine ⟨⟨w.heap.size + 1, w.heap.size, []⟩, rfl, rfl, ⟨rfl, by simp, h2, ?_, ⟨madeCells #[.slice none 0 0, .slice none 0 0] (n * 2), ?_, by rw [size_madeCells]; omega, fun j _ hjn => ?_, fun k m l hm _ => by simp at hm⟩, ?_⟩, ((Below.refl _ _).alloc (Nat.le_refl _) _).alloc (by simp) _, ?_⟩
  · have := heap_alloc_new (w.alloc (.cells (madeCells #[.slice none 0 0, .slice none 0 0] (n * 2)) 178)) (.cells #[.slice (some ⟨w.heap.size, 0, none⟩) n n] 174)
    simpa using this
  · exact (Below.heap_alloc _ _ _ (by simp)).trans (heap_alloc_new w _)
  · refine ⟨?_, ?_⟩
    · rw [made_get _ _ _ (by omega), show (j * 2) % (#[Value.slice none 0 0, .slice none 0 0] : Array Value).size = 0 by simp]; rfl
    · rw [made_get _ _ _ (by omega), show (j * 2 + 1) % (#[Value.slice none 0 0, .slice none 0 0] : Array Value).size = 1 by simp]; rfl
  · intro t t' b ht ht'
    match t, t', ht, ht' with
    | 0, 0, _, _ => rfl
    | 1, 1, _, _ => rfl
    | 0, 1, h, h' => cases h; simp [Lay.has] at h'
    | 1, 0, h, h' => cases h; simp [Lay.has] at h'
    | t + 2, _, h, _ => obtain ⟨l, hl, _⟩ := h; simp at hl
    | _, t' + 2, _, h => obtain ⟨l, hl, _⟩ := h; simp at hl
  · rintro b ⟨t, ht⟩
    match t, ht with
    | 0, h => cases h; simp
    | 1, h => cases h; simp
    | t + 2, h => obtain ⟨l, hl, _⟩ := h; simp at hl

theorem newAt_facts {w0 wr : World} {n ids k : Nat} {part : Option Nat} (h : NewAt w0 wr n ids k part) :
    wr.cell? ⟨w0.heap.size + 1, 0, none⟩ = some (.slice (some ⟨w0.heap.size, 0, none⟩) n n) ∧ w0.heap.size < wr.heap.size ∧ w0.heap.size + 1 < wr.heap.size ∧ (∀ j, j < 2 * n → (wr.cell? ⟨w0.heap.size, j, none⟩).isSome = true) ∧ (∀ j, wr.frozen? ⟨w0.heap.size, j, none⟩ = false) := by
  obtain ⟨L, hP, hS, hp, _, _⟩ := h
  have ht := hp.top
  obtain ⟨cur, hcur, hsz, _⟩ := hp.shards
  rw [hP, hS] at ht
  rw [hS] at hcur
  exact ⟨by simp [World.cell?, ht], lt_of_heap hcur, lt_of_heap ht, fun j hj => by simp [World.cell?, hcur, hsz]; exact hj, fun j => by simp [World.frozen?, hcur]⟩

theorem size_setCell' (w : World) (a : Addr) (v : Value) : (w.setCell a v).heap.size = w.heap.size := by simp [World.setCell]

theorem newAt_add {w0 wr : World} {n ids k : Nat} (h : NewAt w0 wr n ids k none) (hk : k < n) (hids : ids ≤ 16) : NewAt w0 (((wr.setCell ⟨w0.heap.size, k * 2, none⟩ (.slice (some ⟨wr.heap.size, 0, none⟩) ids ids)).alloc (.cells (madeCells #[.int .i64 0, .int .i64 0, .bool false] (ids * 3)) 186)).drew) n ids k (some 0) := by
  obtain ⟨L, hP, hS, hp, hb, hown⟩ := h
  simp only [List.append_nil] at hp
  have hb0 := hb.size
  have hlt := lt_of_heap (hp.shards.choose_spec.1)
  have hsz : (wr.setCell ⟨w0.heap.size, k * 2, none⟩ (.slice (some ⟨wr.heap.size, 0, none⟩) ids ids)).heap.size = wr.heap.size := by simp [World.setCell]
  have hc : Chg wr (((wr.setCell ⟨w0.heap.size, k * 2, none⟩ (.slice (some ⟨wr.heap.size, 0, none⟩) ids ids)).alloc (.cells (madeCells #[.int .i64 0, .int .i64 0, .bool false] (ids * 3)) 186)).drew) (fun b => b = L.S) :=
    (((Chg.refl wr (fun b => b = L.S)).setCell _ _ (.inl hS.symm)).then_below ((Below.refl _ _).alloc (Nat.le_of_eq hsz.symm) _)).then_below ((Below.refl _ _).drew)
  obtain ⟨p2, o2⟩ := hp.add (ids := ids) (w' := ((wr.setCell ⟨w0.heap.size, k * 2, none⟩ (.slice (some ⟨wr.heap.size, 0, none⟩) ids ids)).alloc (.cells (madeCells #[.int .i64 0, .int .i64 0, .bool false] (ids * 3)) 186)).drew) (by simpa using hk) hids hc
    (by
      show ((wr.setCell _ _).alloc _).heap[wr.heap.size]? = _
      have := heap_alloc_new (wr.setCell ⟨w0.heap.size, k * 2, none⟩ (.slice (some ⟨wr.heap.size, 0, none⟩) ids ids)) (.cells (madeCells #[.int .i64 0, .int .i64 0, .bool false] (ids * 3)) 186)
      rwa [hsz] at this)
    (fun cur hcur => by
      rw [List.length_replicate]
      rw [← hS]
      show ((wr.setCell _ _).alloc _).heap[L.S]? = _
      rw [Below.heap_alloc _ _ _ (by rw [size_setCell']; exact hlt)]
      exact heap_setCell_same _ _ _ _ _ _ _ hcur)
  refine ⟨L.snoc ⟨wr.heap.size, .slice none 0 0⟩, hP, hS, p2, (((hb.setCell (Nat.le_refl _) _).alloc (by rw [size_setCell']; exact hb0) _).drew), fun b hb' => ?_⟩
  rcases o2 b hb' with h | h
  · exact hown b h
  · omega

theorem newAt_next {w0 wr : World} {n ids k : Nat} (h : NewAt w0 wr n ids k (some ids)) : NewAt w0 wr n ids (k + 1) none := by
  obtain ⟨L, hP, hS, hp, hb, hown⟩ := h
  refine ⟨L, hP, hS, ?_, hb, hown⟩
  rw [List.replicate_succ', List.append_nil]
  exact hp

theorem newAt_app {w0 wr : World} {n ids k j : Nat} (h : NewAt w0 wr n ids k (some j)) (hj : j < ids) (hids : ids ≤ 16) : ∃ v, wr.cell? ⟨w0.heap.size, k * 2 + 1, none⟩ = some v ∧ v.ownBlock ≠ some w0.heap.size ∧ v.ownBlock ≠ some (w0.heap.size + 1) ∧
    ∀ W, Below wr.heap.size wr W → Sl W 3 1 v j ((List.range j).map fun q => Value.int .i64 (Int.ofNat q)) ∧
      ∀ (g off cap : Nat) (w1 : World), Sl w1 3 1 (.slice (some ⟨g, off, none⟩) (j + 1) cap) (j + 1) (((List.range j).map fun q => Value.int .i64 (Int.ofNat q)) ++ [.int .i64 j]) → Turned W w1 v.ownBlock → (v.ownBlock = some g ∨ W.heap.size ≤ g) →
      NewAt w0 (w1.setCell ⟨w0.heap.size, k * 2 + 1, none⟩ (.slice (some ⟨g, off, none⟩) (j + 1) cap)) n ids k (some (j + 1)) := by
  obtain ⟨L, hP, hS, hp, hb, hown⟩ := h
  have hm : (List.replicate k (fresh ids ids) ++ [fresh ids j])[k]? = some (fresh ids j) := by simp
  have hkl : k < L.sh.length := by rw [hp.len]; simp
  have hl : L.sh[k]? = some L.sh[k] := List.getElem?_eq_getElem hkl
  generalize L.sh[k] = l at hl
  obtain ⟨_, hcF, _, _, _, _, _⟩ := hp.sh hm hl
  rw [hS] at hcF
  refine ⟨l.fv, hcF, fun e => hp.S_ne_F hl (hS ▸ e) hS, fun e => ?_, fun W hW => ?_⟩
  · have := hp.apart 0 _ _ hP (Lay.has_F hl e); omega
  have pW := hp.grown hW
  have hsl := (pW.sh hm hl).2.2.2.2.2.2
  have e1 : (fresh ids j).free.length = j := by simp [fresh]
  have e2 : (fresh ids j).free.map (Value.int .i64) = (List.range j).map fun q => Value.int .i64 (Int.ofNat q) := by simp [fresh, List.map_map, Function.comp_def]
  rw [e1, e2] at hsl
  refine ⟨hsl, fun g off cap w1 hs1 ht hor => ?_⟩
  have e3 : (fresh ids (j + 1)).free.map (Value.int .i64) = ((List.range j).map fun q => Value.int .i64 (Int.ofNat q)) ++ [.int .i64 j] := by simp [fresh, List.map_map, Function.comp_def, List.range_succ]
  have e4 : (fresh ids (j + 1)).free.length = j + 1 := by simp [fresh]
  rw [← e3] at hs1
  obtain ⟨p2, o2⟩ := pW.set_freeN hm hl (w1 := w1) (Chg.of_turned ht fun k e _ => e) (v := .slice (some ⟨g, off, none⟩) (j + 1) cap) (fr := (fresh ids (j + 1)).free) (by rw [e4]; exact hs1) (fun g' hg' => by simp [Value.ownBlock] at hg'; subst hg'; exact hor) (fresh_inv ids (j + 1) hids hj)
  have hbW : Below w0.heap.size w0 W := hb.trans (hW.mono hb.size)
  have hgw : ∀ b, l.fv.ownBlock = some b → w0.heap.size ≤ b := fun b e => hown b (Lay.own_at hl (.inr (.inr e)))
  have hb1 : Below w0.heap.size w0 w1 := hbW.trans ⟨ht.os, ht.tape, ht.output, ht.size, fun q hq => ht.block q (by have := hbW.size; omega) (fun e => by have := hgw q e.symm; omega)⟩
  refine ⟨L.put k { l with fv := .slice (some ⟨g, off, none⟩) (j + 1) cap }, hP, hS, ?_, hb1.setCell (Nat.le_refl _) _, fun b hb' => ?_⟩
  · rw [← hS]
    have e5 : (List.replicate k (fresh ids ids) ++ [fresh ids j]).set k ⟨(fresh ids j).all, (fresh ids (j + 1)).free⟩ = List.replicate k (fresh ids ids) ++ [fresh ids (j + 1)] := by
      rw [List.set_append_right _ _ (by simp)]
      simp [fresh]
    rw [e5] at p2
    exact p2
  · rcases o2 b hb' with h | h
    · exact hown b h
    · have := hbW.size; omega

set_option maxRecDepth 100000 in
set_option maxHeartbeats 2000000 in
theorem new_ok (n ids : Nat) (w : World) (h1 : 1 ≤ n) (h2 : n ≤ 16) (h3 : 1 ≤ ids) (h4 : ids ≤ 16) :
    Calls Tryz.prog 80 #[.int .i64 n, .int .i64 ids] w fun e w' => e = .returned (.tuple #[.pointer (some ⟨w.heap.size + 1, 0, none⟩), .int .i64 0]) ∧ NewAt w w' n ids n none := by
  obtain ⟨j0, hj0, hj1, hj2, hj3⟩ := info_parts info_ix
  obtain ⟨s0, hs0, hs1, hs2, hs3⟩ := info_parts info_sh
  have hmk1 : ∀ W, (Instr.makeSlice 172 (.int .i64 n) (.int .i64 n)).run Tryz.prog W = .ok (.slice (some ⟨W.heap.size, 0, none⟩) n n) (W.alloc (.cells (madeCells #[.slice none 0 0, .slice none 0 0] (n * 2)) 178)) := by
    intro W
    have := run_make (P := Tryz.prog) W 172 178 s0 _ Tryz.underlying172 hs0 hs1 .i64 .i64 n n (by omega) (by omega) (by rw [hs3]; omega) (by omega)
    rw [hs2, Int.toNat_natCast] at this
    exact this
  have hmk2 : ∀ W, (Instr.makeSlice 175 (.int .i64 ids) (.int .i64 ids)).run Tryz.prog W = .ok (.slice (some ⟨W.heap.size, 0, none⟩) ids ids) (W.alloc (.cells (madeCells #[.int .i64 0, .int .i64 0, .bool false] (ids * 3)) 186)) := by
    intro W
    have := run_make (P := Tryz.prog) W 175 186 j0 _ Tryz.underlying175 hj0 hj1 .i64 .i64 ids ids (by omega) (by omega) (by rw [hj3]; omega) (by omega)
    rw [hj2, Int.toNat_natCast] at this
    exact this
  clear hj0 hj1 hj2 hj3 hs0 hs1 hs2 hs3
  have d1 : decide ((n : Int) < 1) = false := by simp; omega
  have d2 : decide (16 < (n : Int)) = false := by simp; omega
  have d3 : decide ((ids : Int) < 1) = false := by simp; omega
  have d4 : decide (16 < (ids : Int)) = false := by simp; omega
  go_enter Tryz.func80, Tryz.ntmps80
  go_wp2_with fail
  go_loopw [32] (fun i wr => ∃ k : Nat, k ≤ n ∧ i = .int .i64 k ∧ NewAt w wr n ids k none) (fun i _ => n - (intOf i).toNat)
  case atStart => exact ⟨0, Nat.zero_le _, rfl, newAt_zero w n ids h2⟩
  case round =>
    obtain ⟨k, hk, rfl, hn⟩ := hrel
    obtain ⟨n1, n2, n3, n4, n5⟩ := newAt_facts hn
    obtain ⟨wo, rfl⟩ : ∃ wo : World, wo = wr := ⟨_, rfl⟩
    by_cases hlt : k < n
    · have n4' := n4 (k * 2) (by omega)
      have n5' := n5 (k * 2)
      obtain ⟨y, hy⟩ := Option.isSome_iff_exists.1 n4'
      have HN := Lib.hid hn
      clear n4 n5 n4' hn
      go_wp2_with fail
      go_region_held3 (fun W => W.cell? ⟨w.heap.size + 1, 0, none⟩ = some (.slice (some ⟨w.heap.size, 0, none⟩) n n)) (go_keep) (fail)
      go_wp2_with fail
      go_loopw [45] (fun j wr => ∃ q : Nat, q ≤ ids ∧ j = .int .i64 q ∧ NewAt w wr n ids k (some q)) (fun j _ => ids - (intOf j).toNat)
      case atStart => exact ⟨0, Nat.zero_le _, rfl, newAt_add HN.out hlt h4⟩
      case round =>
        clear HN n1 n2 n3 n5' hy
        obtain ⟨q, hq, rfl, hn⟩ := hrel
        obtain ⟨n1, n2, n3, n4, n5⟩ := newAt_facts hn
        obtain ⟨wi, rfl⟩ : ∃ wi : World, wi = wr := ⟨_, rfl⟩
        by_cases hqi : q < ids
        · obtain ⟨v, hv, v1, v2, hfin⟩ := newAt_app hn hqi h4
          have FIN := Lib.hid hfin
          have V1 := Lib.hid v1
          have V2 := Lib.hid v2
          have n5' := n5 (k * 2 + 1)
          clear n4 n5 hn hfin v1 v2
          obtain ⟨i0, hi0, hz0, hz1, hz2⟩ := info_parts info_int
          go_wp2_with fail
          go_region_law
            ((refine step_append_sl _ (by rfl) _ _ _ (by rfl) 3 i0 _ 1 8 Tryz.underlying176 hi0 hz0 hz1 hz2 rfl (by omega) v q _ (by rfl) (FIN.out _ (by repeat' (first | (with_reducible exact Below.refl _ _) | (with_reducible assumption) | (with_reducible refine below_drewN ?_ _) | (with_reducible refine below_more _ _ _ ?_ ?_) | (with_reducible refine Below.alloc ?_ ?_ _) | (with_reducible refine Below.drew ?_) | (with_reducible refine Below.setCell ?_ ?_ _) | go_size))).1
                ⟨_, 0, none⟩ 1 1 [.int .i64 q] (by rfl) (by rfl) (World.news_of_block (cs := #[.int .i64 q]) (t := 3) (fr := (0, 0)) (heap_alloc_new _ _)) (by simp [Value.oneCell'])
                (by omega) (by unfold maxLen; omega) (by omega) ?_; intro g off cap w1 hs1 ht hor; have k6 : w1.frozen? ⟨w.heap.size, k * 2 + 1, none⟩ = false := (by rw [ht.frozen (by simp; omega) V1.out]; simp [n5', n2, go_sem]); have k7 : w1.cell? ⟨w.heap.size, k * 2 + 1, none⟩ = some v := (by rw [ht.cell (by simp; omega) V1.out]; simp [hv, n2, go_sem]); have k8 : w1.cell? ⟨w.heap.size + 1, 0, none⟩ = some (.slice (some ⟨w.heap.size, 0, none⟩) n n) := (by rw [ht.cell (by simp; omega) V2.out]; simp [n1, n3, go_sem])))
          all_goals go_wp2_with fail
          all_goals go_roundw
          all_goals first
            | exact ⟨q + 1, by omega, by go_num, (FIN.out _ (by repeat' (first | (with_reducible exact Below.refl _ _) | (with_reducible assumption) | (with_reducible refine below_drewN ?_ _) | (with_reducible refine below_more _ _ _ ?_ ?_) | (with_reducible refine Below.alloc ?_ ?_ _) | (with_reducible refine Below.drew ?_) | (with_reducible refine Below.setCell ?_ ?_ _) | go_size))).2 g off cap w1 hs1 ht hor⟩
            | (simp [intOf]; omega)
        · obtain rfl : q = ids := by omega
          clear n4 n5
          have HN := Lib.hid (newAt_next hn)
          clear hn
          go_wp2_with fail
          go_roundw
          case rel => exact ⟨k + 1, by omega, by go_num, HN.out⟩
          case measure => simp [intOf]; omega
    · obtain rfl : k = n := by omega
      have HN := Lib.hid hn
      clear hn n4 n5
      go_wp2_with fail
      go_ret2
      exact ⟨rfl, HN.out⟩
end Go.Proofs.YtoimjjhopljdmaaGreat
namespace Go.Proofs.YtoimjjhopljdmaaGreat
open Go.RowKit

abbrev Id3 := Int × Int × Int
def idCells (l : List Id3) : List Value := l.flatMap fun x => [.int .i64 x.1, .int .i64 x.2.1, .int .i64 x.2.2]
theorem idCells_app (l l' : List Id3) : idCells (l ++ l') = idCells l ++ idCells l' := by simp [idCells]
theorem idCells_one (s i g : Int) : idCells [(s, i, g)] = [.int .i64 s, .int .i64 i, .int .i64 g] := by simp [idCells]

def ListAt (w wr : World) (v : Value) (l : List Id3) : Prop := Sl wr 30 3 v l.length (idCells l) ∧ Below w.heap.size w wr ∧ ∀ g, v.ownBlock = some g → w.heap.size ≤ g

theorem ListAt.snoc {w W w1 : World} {v v' : Value} {l : List Id3} {s i g : Int} (h : ListAt w W v l) (hs : Sl w1 30 3 v' (l.length + 1) (idCells l ++ [.int .i64 s, .int .i64 i, .int .i64 g])) (ht : Turned W w1 v.ownBlock)
    (ho : v'.ownBlock = v.ownBlock ∨ ∃ g, v'.ownBlock = some g ∧ W.heap.size ≤ g) : ListAt w w1 v' (l ++ [(s, i, g)]) := by
  refine ⟨?_, h.2.1.trans ⟨ht.os, ht.tape, ht.output, ht.size, fun k hk => ht.block k (by have := h.2.1.size; omega) fun e => by have := h.2.2 k e.symm; omega⟩, fun q hq => ?_⟩
  · rw [idCells_app, idCells_one]; simpa using hs
  · rcases ho with e | ⟨g', e, hg'⟩
    · exact h.2.2 q (by rw [← e]; exact hq)
    · rw [e] at hq
      cases hq
      exact Nat.le_trans h.2.1.size hg'

end Go.Proofs.YtoimjjhopljdmaaGreat
namespace Go.Proofs.YtoimjjhopljdmaaGreat
open Go.RowKit
structure Good (m : Sh) : Prop where
  inv : ShInv m
  le : ∀ (i : Nat) (x : Ix), m.all[i]? = some x → x.gen ≤ x.bound
  lv : ∀ (i : Nat) (x : Ix), m.all[i]? = some x → x.alive = true → x.gen < x.bound
  fg : ∀ f ∈ m.free, ∀ (x : Ix), m.all[f.toNat]? = some x → x.gen < 1048576

theorem fresh_good (ids : Nat) (h : ids ≤ 16) : Good (fresh ids ids) := by
  have hx0 : ∀ (i : Nat) (x : Ix), (fresh ids ids).all[i]? = some x → x = ⟨0, 0, false⟩ := by
    intro i x hx
    simp only [fresh, freshIx, List.getElem?_replicate] at hx
    split at hx
    · cases hx; rfl
    · cases hx
  refine ⟨fresh_inv ids ids h (Nat.le_refl _), fun i x hx => ?_, fun i x hx ha => ?_, fun f _ x hx => ?_⟩
  · rw [hx0 i x hx]; simp
  · rw [hx0 i x hx] at ha; cases ha
  · rw [hx0 _ x hx]; simp

theorem set_good {m : Sh} (h : Good m) {i : Nat} (x' : Ix) (hi : ShInv { m with all := m.all.set i x' }) (h1 : x'.gen ≤ x'.bound) (h2 : x'.alive = true → x'.gen < x'.bound) (h3 : (i : Int) ∈ m.free → x'.gen < 1048576) : Good { m with all := m.all.set i x' } := by
  refine ⟨hi, fun j y hy => ?_, fun j y hy => ?_, fun f hf y hy => ?_⟩
  · simp only [List.getElem?_set] at hy
    split at hy
    · split at hy
      · cases hy; exact h1
      · cases hy
    · exact h.le j y hy
  · simp only [List.getElem?_set] at hy
    split at hy
    · split at hy
      · cases hy; exact h2
      · cases hy
    · exact h.lv j y hy
  · simp only [List.getElem?_set] at hy
    have h0 := (h.inv.fr f hf).1
    split at hy
    · rename_i he
      split at hy
      · cases hy; exact h3 (by rw [show (i : Int) = f by omega]; exact hf)
      · cases hy
    · exact h.fg f hf y hy

theorem free_drop_good {m : Sh} (h : Good m) (fr : List Int) (hi : ShInv { m with free := fr }) (hs : ∀ f ∈ fr, f ∈ m.free) : Good { m with free := fr } :=
  ⟨hi, h.le, h.lv, fun f hf => h.fg f (hs f hf)⟩

def freedSh (m : Sh) (i : Nat) (x : Ix) : Sh := if x.gen + 1 < 1048576 then ⟨m.all.set i ⟨x.gen + 1, x.bound, false⟩, m.free ++ [(i : Int)]⟩ else ⟨m.all.set i ⟨x.gen + 1, x.bound, false⟩, m.free⟩

theorem freeF_alive {M : List Sh} {k i : Nat} {m : Sh} {x : Ix} (hm : M[k]? = some m) (hx : m.all[i]? = some x) (ha : x.alive = true) (hg : Good m) :
    freeF M k i x.gen = (0, M.set k (freedSh m i x)) ∧ Good (freedSh m i x) := by
  have hkl : k < M.length := (List.getElem?_eq_some_iff.1 hm).1
  have hil : i < m.all.length := (List.getElem?_eq_some_iff.1 hx).1
  have hrr := hg.inv.rng i x hx
  have hlv := hg.lv i x hx ha
  have hni : (i : Int) ∉ m.free := fun hf => by have := hg.inv.dead i hf x (by simpa using hx); rw [ha] at this; cases this
  have hix : ixOf M k i = some x := by simp [ixOf, shOf, hm, hx]
  have hr' : 0 ≤ x.gen + 1 ∧ x.gen + 1 ≤ 1048576 ∧ 0 ≤ x.bound ∧ x.bound ≤ 1048576 ∧ (false = true → x.gen + 1 < 1048576) := ⟨by omega, by have := hrr.2.2.2.2 ha; omega, hrr.2.2.1, hrr.2.2.2.1, fun h => by cases h⟩
  have g1 : Good ⟨m.all.set i ⟨x.gen + 1, x.bound, false⟩, m.free⟩ := set_good hg ⟨x.gen + 1, x.bound, false⟩ (hg.inv.set_ix i _ hr' fun _ => rfl) (by simp only; omega) (fun h => by cases h) (fun h => absurd h hni)
  refine ⟨?_, ?_⟩
  · simp only [freeF, hix, if_neg (show ¬ x.gen < 0 by omega), ha, Bool.true_and, BEq.rfl, Bool.true_eq_false, if_false, freedSh]
    congr 1
    split
    · rw [setIx_nat _ hm, addFr]
      simp [shOf, List.getElem?_set_self hkl]
    · rw [setIx_nat _ hm]
  · unfold freedSh
    split
    · rename_i hlt
      refine ⟨hg.inv.add hx ha _ hr' rfl, g1.le, g1.lv, fun f hf y hy => ?_⟩
      rcases List.mem_append.1 hf with hf | hf
      · exact g1.fg f hf y hy
      · obtain rfl : f = i := by simpa using hf
        simp only [Int.toNat_natCast] at hy
        rw [List.getElem?_set_self hil] at hy
        cases hy
        exact hlt
    · exact g1

end Go.Proofs.YtoimjjhopljdmaaGreat
