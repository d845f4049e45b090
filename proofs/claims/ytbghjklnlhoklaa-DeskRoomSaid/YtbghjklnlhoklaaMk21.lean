/-
  A slice of the call's own: one element stored. No condition.
  Chapter 16's laws: few; deeds as they lie in memory. Condition: a million deeds at most.
-/
import Derived.Test.YtbghjklnlhoklaaMk1
import Derived.Test.YtbghjklnlhoklaaMk2
import Derived.Test.YtbghjklnlhoklaaMk13
namespace Go.Proofs.Ytbghjklnlhoklaa
open Go.RowKit
theorem cellsR_set {β : Type} (enc : β → List Value) (size : Nat) (hk : ∀ x, (enc x).length = size) : ∀ (l : List β) (k : Nat) (b : β) (t : Nat), k < l.length → (cellsR enc (l.set k b))[t]? = if k * size ≤ t ∧ t < k * size + size then (enc b)[t - k * size]? else (cellsR enc l)[t]?
  | [], k, b, t, h => by simp at h
  | c :: l, 0, b, t, h => by
    have e1 : cellsR enc (b :: l) = enc b ++ cellsR enc l := by simp [cellsR]
    have e2 : cellsR enc (c :: l) = enc c ++ cellsR enc l := by simp [cellsR]
    rw [List.set_cons_zero, e1, e2, Nat.zero_mul]
    by_cases ht : t < size
    · rw [if_pos (by omega), List.getElem?_append_left (by rw [hk]; exact ht)]; rfl
    · rw [if_neg (by omega), List.getElem?_append_right (by rw [hk]; omega), List.getElem?_append_right (by rw [hk]; omega), hk, hk]
  | c :: l, k + 1, b, t, h => by
    have e1 : cellsR enc (c :: l.set k b) = enc c ++ cellsR enc (l.set k b) := by simp [cellsR]
    have e2 : cellsR enc (c :: l) = enc c ++ cellsR enc l := by simp [cellsR]
    have e3 : (k + 1) * size = k * size + size := by rw [Nat.add_mul, Nat.one_mul]
    rw [List.set_cons_succ, e1, e2, e3]
    by_cases ht : t < size
    · rw [if_neg (by omega), List.getElem?_append_left (by rw [hk]; exact ht), List.getElem?_append_left (by rw [hk]; exact ht)]
    · have ih := cellsR_set enc size hk l k b (t - size) (by simpa using h)
      rw [List.getElem?_append_right (by rw [hk]; omega), List.getElem?_append_right (by rw [hk]; omega), hk, ih]
      generalize k * size = ks at *
      by_cases h1 : ks + size ≤ t ∧ t < ks + size + size
      · rw [if_pos h1, if_pos (by omega)]; congr 1; omega
      · rw [if_neg h1, if_neg (by omega)]
/-- A store of a whole one. -/
theorem RNew.store {β : Type} {enc : β → List Value} {T : TypeId} {size : Nat} (he : ∀ x, (enc x).length = size) (h1c : ∀ x, ∀ u ∈ enc x, u.oneCell' = true) {w0 w : World} {blk off n cap : Nat} {l : List β} (h : RNew enc T size w0 w (.slice (some ⟨blk, off, none⟩) n cap) l) {k : Nat} (hk : k < l.length) (b : β) :
    Sem.run Try.prog (storeCells ⟨blk, off + k * size, none⟩ (enc b) 0) w = .ok () (w.setCells blk (off + k * size) (enc b)) ∧ RNew enc T size w0 (w.setCells blk (off + k * size) (enc b)) (.slice (some ⟨blk, off, none⟩) n cap) (l.set k b) := by
  obtain ⟨⟨hlen, ⟨h0, _⟩ | ⟨g, off', cap', cur, hv, hb, hn, hc, hsz, hr⟩⟩, h2, h3⟩ := h
  · cases h0
  simp only [Value.slice.injEq, Option.some.injEq, Addr.mk.injEq, and_true] at hv
  obtain ⟨⟨rfl, rfl⟩, rfl, rfl⟩ := hv
  have hks : k * size + size ≤ l.length * size := by rw [show k * size + size = (k + 1) * size by rw [Nat.add_mul, Nat.one_mul]]; exact Nat.mul_le_mul_right _ hk
  have hle : off + k * size + (enc b).length ≤ cur.size := by
    have : l.length * size ≤ cap * size := Nat.mul_le_mul_right _ hn
    rw [he]; omega
  obtain ⟨cur', hg', hs', hlo, hin, hhi⟩ := setCells_heap blk T (0, 0) (enc b) (off + k * size) w cur hb hle
  have ht := setCells_turned blk (enc b) (off + k * size) w
  have hblk := h3 blk rfl
  refine ⟨?_, ⟨by rw [cellsR_len enc size he, List.length_set], .inr ⟨blk, off, cap, cur', by rw [List.length_set], hg', by rw [List.length_set]; exact hn, hc, by omega, fun j u hj => ?_⟩⟩, Turned.below_new ht (fun q hq => by cases hq; exact hblk) h2 h2.size, h3⟩
  · have := Go.run_storeCells_cells (P := Try.prog) blk (off + k * size) (enc b) 0 w (fun j hj => by
        have hj2 : off + k * size + j < cur.size := by omega
        simp [World.cell?, hb]; exact hj2) (fun j hj => by simp [World.frozen?, hb]) (h1c b)
    simpa using this
  · rw [cellsR_set enc size he l k b j hk] at hj
    split at hj
    · rename_i h1
      have := hin (j - k * size) u hj
      rwa [show off + k * size + (j - k * size) = off + j by omega] at this
    · rename_i h1
      by_cases h4 : j < k * size
      · rw [hlo _ (by omega)]; exact hr j u hj
      · rw [hhi _ (by rw [he]; omega)]; exact hr j u hj
theorem rin_cut {β : Type} {enc : β → List Value} {w : World} {p : Option Addr} {cap : Nat} {l : List β} (k : Nat) (h : RIn enc w (.slice p l.length cap) l) : RIn enc w (.slice p (l.take k).length cap) (l.take k) := by
  obtain ⟨p', cap', hv, h1, h2, h3, h4⟩ := h
  simp only [Value.slice.injEq, true_and] at hv
  obtain ⟨rfl, rfl⟩ := hv
  have hle : (l.take k).length ≤ l.length := by rw [List.length_take]; omega
  refine ⟨p, cap, rfl, by omega, h2, by omega, fun hn => ?_⟩
  obtain ⟨blk, off, rfl, h5, h6⟩ := h4 (fun e => hn (by rw [e]; simp))
  refine ⟨blk, off, rfl, h5, fun t u hu => h6 t u ?_⟩
  have e : cellsR enc l = cellsR enc (l.take k) ++ cellsR enc (l.drop k) := by rw [← cellsR_app, List.take_append_drop]
  rw [e, List.getElem?_append_left (List.getElem?_eq_some_iff.1 hu).1]
  exact hu
end Go.Proofs.Ytbghjklnlhoklaa
namespace Go.Proofs.Ytbghjklnlhoklaa
open Go.RowKit

/-- A deed, as it lies in memory. -/
structure Ded where
  (kd : Int) (m : Cm) (p : Option Addr) (n c : Nat)
def dedL (d : Ded) : List Value := .int .i64 d.kd :: (cmC d.m ++ [.slice d.p d.n d.c])
theorem dedL_len (d : Ded) : (dedL d).length = 18 := rfl
theorem dedL_one (d : Ded) : ∀ v ∈ dedL d, v.oneCell' = true := fun v hv => by
  simp only [dedL, List.mem_cons, List.mem_append, List.not_mem_nil, or_false] at hv
  rcases hv with rfl | hv | rfl
  · rfl
  · exact cmC_one _ v hv
  · rfl
theorem info_ded : (Try.prog.info? 40).map (fun i => (i.zero, i.size, i.bytes)) = some (some (.agg #[.int .i64 0, .int .i64 0, .int .i64 0, .int .i64 0, .int .i64 0, .int .i64 0, .int .i64 0, .int .i64 0, .int .i64 0, .int .i64 0, .int .i64 0, .int .i64 0, .int .i64 0, .int .i64 0, .int .i64 0, .int .i64 0, .int .i64 0, .slice none 0 0]), 18, 160) := by kernel_rfl
/-- Forty names at most. -/
def cutD (d : Ded) : Ded := if 40 < d.n then { d with n := 40 } else d
def fewF (zs : List Ded) : List Ded := (zs.take 50).map cutD
theorem fewF_snoc (zs : List Ded) {k : Nat} {d : Ded} (h : zs[k]? = some d) : (zs.take (k + 1)).map cutD = (zs.take k).map cutD ++ [cutD d] := by
  have hlt := (List.getElem?_eq_some_iff.1 h).1
  rw [List.take_succ_eq_append_getElem hlt, (List.getElem?_eq_some_iff.1 h).2, List.map_append]; rfl
def ldDd (a : Addr) : Sem Value := loadVar 40 a
def stDd (a : Addr) (v : Value) : Sem Unit := storeVar 40 a v
theorem loadVar_ldDd (a : Addr) : loadVar 40 a = ldDd a := rfl
theorem storeVar_stDd (a : Addr) (v : Value) : storeVar 40 a v = stDd a v := rfl
theorem ldDd_of {W : World} {b o : Nat} (d : Ded) (h : ∀ j v, (dedL d)[j]? = some v → W.cell? ⟨b, o + j, none⟩ = some v) : (ldDd ⟨b, o, none⟩).run Try.prog W = .ok (.agg (dedL d).toArray) W := by
  have h1 := Go.Proofs.run_loadCellsFrom_list Try.prog W ⟨b, o, none⟩ (dedL d) 18 rfl (fun j v hj => by rw [Addr.add_lit]; exact h j v hj)
  simp [ldDd, loadVar, loadCells, h1]
/-- A new box that holds a deed. -/
theorem new_ded (W : World) (d : Ded) : ∃ w5, (stDd ⟨W.heap.size, 0, none⟩ (.agg (dedL d).toArray)).run Try.prog (W.alloc (.cells #[.int .i64 0, .int .i64 0, .int .i64 0, .int .i64 0, .int .i64 0, .int .i64 0, .int .i64 0, .int .i64 0, .int .i64 0, .int .i64 0, .int .i64 0, .int .i64 0, .int .i64 0, .int .i64 0, .int .i64 0, .int .i64 0, .int .i64 0, .slice none 0 0] 40)) = .ok () w5 ∧ Below W.heap.size W w5 ∧ W.heap.size < w5.heap.size ∧ (∀ j v, (dedL d)[j]? = some v → w5.cell? ⟨W.heap.size, j, none⟩ = some v) ∧ w5.frozen? ⟨W.heap.size, 17, none⟩ = false := by
  obtain ⟨k5, g5, s5, b5⟩ := new_box W #[.int .i64 0, .int .i64 0, .int .i64 0, .int .i64 0, .int .i64 0, .int .i64 0, .int .i64 0, .int .i64 0, .int .i64 0, .int .i64 0, .int .i64 0, .int .i64 0, .int .i64 0, .int .i64 0, .int .i64 0, .int .i64 0, .int .i64 0, .slice none 0 0] 40 W.heap.size rfl
  have hh := heap_alloc_new W (.cells #[.int .i64 0, .int .i64 0, .int .i64 0, .int .i64 0, .int .i64 0, .int .i64 0, .int .i64 0, .int .i64 0, .int .i64 0, .int .i64 0, .int .i64 0, .int .i64 0, .int .i64 0, .int .i64 0, .int .i64 0, .int .i64 0, .int .i64 0, .slice none 0 0] 40)
  generalize W.alloc (.cells #[.int .i64 0, .int .i64 0, .int .i64 0, .int .i64 0, .int .i64 0, .int .i64 0, .int .i64 0, .int .i64 0, .int .i64 0, .int .i64 0, .int .i64 0, .int .i64 0, .int .i64 0, .int .i64 0, .int .i64 0, .int .i64 0, .int .i64 0, .slice none 0 0] 40) = V at *
  have hsome : ∀ j, j < (dedL d).length → (V.cell? ⟨W.heap.size, 0 + j, none⟩).isSome = true := fun j hj => by
    have hj : j < 18 := hj
    rw [Nat.zero_add, k5 j, Array.getElem?_eq_getElem (by simpa using hj)]; rfl
  have h := Go.run_storeCells_cells (P := Try.prog) W.heap.size 0 (dedL d) 0 V (fun j hj => by
    rw [show 0 + 0 + j = 0 + j by omega]; exact hsome j hj) (fun j _ => g5 _) (dedL_one d)
  have ht := setCells_turned W.heap.size (dedL d) 0 V
  have hin := World.cell?_setCells_in W.heap.size (dedL d) 0 V hsome
  obtain ⟨cur', hg', _⟩ := setCells_heap W.heap.size _ (0, 0) (dedL d) 0 V _ hh (by rw [dedL_len]; exact Nat.le_refl _)
  refine ⟨V.setCells W.heap.size 0 (dedL d), ?_, Turned.below_new ht (fun q hq => by cases hq; exact Nat.le_refl _) b5 b5.size, Nat.lt_of_lt_of_le s5 ht.size, fun j v hj => ?_, by unfold World.frozen?; rw [hg']; simp⟩
  · have h' : Sem.run Try.prog (storeCells ⟨W.heap.size, 0, none⟩ (dedL d) 0) V = .ok () (V.setCells W.heap.size 0 (dedL d)) := by simpa using h
    simp [stDd, storeVar, Value.cells, dedL_len, h']
  · have hlt := (List.getElem?_eq_some_iff.1 hj).1
    have := hin j hlt
    rw [Nat.zero_add] at this
    rw [this, ← hj, List.getElem?_eq_getElem hlt]
attribute [local go_sem ↓] loadVar_ldDd storeVar_stDd
set_option maxRecDepth 100000 in
set_option maxHeartbeats 4000000 in
/-- few, behind the cut to fifty. -/
theorem few_body (p : Option Addr) (cap : Nat) (zs : List Ded) (w : World) (h : RIn dedL w (.slice p zs.length cap) zs) (hc : ∀ d ∈ zs, d.n ≤ d.c) (hn : zs.length ≤ 50) :
    Calls Try.prog 12 #[.slice p zs.length cap] w fun e w' => ∃ v', e = .returned v' ∧ RNew dedL 40 18 w w' v' (zs.map cutD) := by
  obtain ⟨i0, hi0, hz0, hz1, hz2⟩ := info_partsG info_ded
  have HZ := Lib.hid h
  have HC := Lib.hid hc
  have HSN := Lib.hid (fun k d hd => fewF_snoc zs (k := k) (d := d) hd)
  have hd50 : ¬ (50 < (zs.length : Int)) := by omega
  clear hc h
  go_enter Try.func12, Try.ntmps12
  go_wp2_with fail
  go_loopg [4, 3] zs.length (fun kx sk so wr => ∃ j : Nat, sk = .int .i64 j ∧ j ≤ zs.length ∧ zs.length - j ≤ kx ∧ Hid (RNew dedL 40 18 w wr so ((zs.take j).map cutD)))
  case atStart => exact ⟨0, by go_num, by omega, by omega, Lib.hid (RNew.nil w)⟩
  case round =>
    obtain ⟨j, rfl, hk, hkx, HN⟩ := hrel
    obtain ⟨wa, rfl⟩ : ∃ wa : World, wa = wr := ⟨_, rfl⟩
    by_cases hlt : j < zs.length
    · have t1 : (j : Int) < (zs.length : Int) := by omega
      obtain ⟨d, hd⟩ : ∃ d, zs[j]? = some d := ⟨_, List.getElem?_eq_getElem hlt⟩
      obtain ⟨blk, off, cap', hve, hb, hcx⟩ := (HZ.out.keep HN.out.2.1).cells dedL_len hd
      simp only [Value.slice.injEq, true_and] at hve
      obtain ⟨rfl, rfl⟩ := hve
      have hsn := HSN.out j d hd
      have hnc := HC.out d (List.mem_of_getElem? hd)
      have hll : ((zs.take j).map cutD).length = j := by rw [List.length_map, List.length_take]; omega
      generalize (zs.take j).map cutD = ll at *
      have HLL := Lib.hid hll
      have hld0 := ldDd_of d hcx
      obtain ⟨w5, hst0, hb5, hs5, hc5, hf5⟩ := new_ded wa d
      obtain ⟨kd, ⟨k, s, i, g, ⟨es, ei, eg, m, x, y, vx, vy, hp, pw, lf⟩, mask⟩, px, nx, cx⟩ := d
      simp only at hnc hsn
      have hld : (ldDd ⟨blk, off + j * 18, none⟩).run Try.prog wa = .ok (.agg #[.int .i64 kd, .int .i64 k, .int .i64 s, .int .i64 i, .int .i64 g, .int .i64 es, .int .i64 ei, .int .i64 eg, .int .i64 m, .int .i64 x, .int .i64 y, .int .i64 vx, .int .i64 vy, .int .i64 hp, .int .i64 pw, .int .i64 lf, .int .i64 mask, .slice px nx cx]) wa := hld0
      have hst : (stDd ⟨wa.heap.size, 0, none⟩ (.agg #[.int .i64 kd, .int .i64 k, .int .i64 s, .int .i64 i, .int .i64 g, .int .i64 es, .int .i64 ei, .int .i64 eg, .int .i64 m, .int .i64 x, .int .i64 y, .int .i64 vx, .int .i64 vy, .int .i64 hp, .int .i64 pw, .int .i64 lf, .int .i64 mask, .slice px nx cx])).run Try.prog (wa.alloc (.cells #[.int .i64 0, .int .i64 0, .int .i64 0, .int .i64 0, .int .i64 0, .int .i64 0, .int .i64 0, .int .i64 0, .int .i64 0, .int .i64 0, .int .i64 0, .int .i64 0, .int .i64 0, .int .i64 0, .int .i64 0, .int .i64 0, .int .i64 0, .slice none 0 0] 40)) = .ok () w5 := hst0
      have c17 := hc5 17 _ rfl
      have HC5 := Lib.hid hc5
      have HB5 := Lib.hid hb5
      have HSNK := Lib.hid hsn
      clear hcx hd hsn hld0 hst0 hll hc5 hb5
      by_cases h40 : 40 < nx
      · have t2 : (40 : Int) < (nx : Int) := by omega
        have h41 : 40 ≤ cx := by omega
        have hcu : cutD ⟨kd, ⟨k, s, i, g, ⟨es, ei, eg, m, x, y, vx, vy, hp, pw, lf⟩, mask⟩, px, nx, cx⟩ = ⟨kd, ⟨k, s, i, g, ⟨es, ei, eg, m, x, y, vx, vy, hp, pw, lf⟩, mask⟩, px, 40, cx⟩ := if_pos h40
        rw [hcu] at HSNK
        clear hcu
        go_upto_region 10 with fail
        generalize hw6 : World.setCell w5 _ _ = w6
        have hb6 : Below wa.heap.size wa w6 := by rw [← hw6]; refine Below.setCell HB5.out ?_ _; exact Nat.le_refl _
        have hs6 : wa.heap.size < w6.heap.size := by rw [← hw6]; simpa [World.setCell] using hs5
        have hld6 : (ldDd ⟨wa.heap.size, 0, none⟩).run Try.prog w6 = .ok (.agg #[.int .i64 kd, .int .i64 k, .int .i64 s, .int .i64 i, .int .i64 g, .int .i64 es, .int .i64 ei, .int .i64 eg, .int .i64 m, .int .i64 x, .int .i64 y, .int .i64 vx, .int .i64 vy, .int .i64 hp, .int .i64 pw, .int .i64 lf, .int .i64 mask, .slice px 40 cx]) w6 := ldDd_of ⟨kd, ⟨k, s, i, g, ⟨es, ei, eg, m, x, y, vx, vy, hp, pw, lf⟩, mask⟩, px, 40, cx⟩ fun q u hq => by
          rw [Nat.zero_add, ← hw6]
          by_cases h17 : q = 17
          · subst h17; rw [World.cell?_setCell_same' _ _ _ (by rw [c17]; rfl)]; exact hq
          · rw [cell_set_ne (Ne.symm h17)]
            refine HC5.out q u ?_
            have hq18 : q < 18 := (List.getElem?_eq_some_iff.1 hq).1
            rcases q with _ | _ | _ | _ | _ | _ | _ | _ | _ | _ | _ | _ | _ | _ | _ | _ | _ | q
            all_goals first | exact hq | omega
        have HB6 := Lib.hid hb6
        clear hw6 hb6 hld hst c17 hf5 HC5 HB5
        go_wp2_with (at_builtin; refine wpList_append_sl _ (by rfl) _ _ 24 (by rfl) 40 i0 _ 18 160 Try.underlying24 hi0 hz0 hz1 hz2 rfl (by omega) _ ll.length (cellsR dedL ll) (by rfl) (HN.out.grow (HB6.out.trans (Below.mono (B := w6.heap.size) (by repeat' (first | (with_reducible exact Below.refl _ _) | (with_reducible assumption) | (with_reducible refine below_drewN ?_ _) | (with_reducible refine below_more _ _ _ ?_ ?_) | (with_reducible refine Below.alloc ?_ ?_ _) | (with_reducible refine Below.drew ?_) | (with_reducible refine Below.setCell ?_ ?_ _) | go_size)) HB6.out.size))).1 ⟨_, 0, none⟩ 1 1 (dedL ⟨kd, ⟨k, s, i, g, ⟨es, ei, eg, m, x, y, vx, vy, hp, pw, lf⟩, mask⟩, px, 40, cx⟩) (by rfl) (by rfl) (new_cellsN _ _ _ _ (by simp)) (dedL_one _) (by omega) (by have := HLL.out; unfold maxLen; omega) (by have := HLL.out; omega) ?_; intro v' w1 hs1 ht ho)
        go_roundg (zs.length - (j + 1))
        case measure => omega
        case rel => exact ⟨j + 1, by go_num, by omega, by omega, Lib.hid (by rw [HSNK.out]; exact (HN.out.grow (HB6.out.trans (Below.mono (B := w6.heap.size) (by repeat' (first | (with_reducible exact Below.refl _ _) | (with_reducible assumption) | (with_reducible refine below_drewN ?_ _) | (with_reducible refine below_more _ _ _ ?_ ?_) | (with_reducible refine Below.alloc ?_ ?_ _) | (with_reducible refine Below.drew ?_) | (with_reducible refine Below.setCell ?_ ?_ _) | go_size)) HB6.out.size))).snoc hs1 ht ho)⟩
      · have t2 : ¬ (40 : Int) < (nx : Int) := by omega
        have hcu : cutD ⟨kd, ⟨k, s, i, g, ⟨es, ei, eg, m, x, y, vx, vy, hp, pw, lf⟩, mask⟩, px, nx, cx⟩ = ⟨kd, ⟨k, s, i, g, ⟨es, ei, eg, m, x, y, vx, vy, hp, pw, lf⟩, mask⟩, px, nx, cx⟩ := if_neg h40
        rw [hcu] at HSNK
        have hld6 : (ldDd ⟨wa.heap.size, 0, none⟩).run Try.prog w5 = .ok (.agg #[.int .i64 kd, .int .i64 k, .int .i64 s, .int .i64 i, .int .i64 g, .int .i64 es, .int .i64 ei, .int .i64 eg, .int .i64 m, .int .i64 x, .int .i64 y, .int .i64 vx, .int .i64 vy, .int .i64 hp, .int .i64 pw, .int .i64 lf, .int .i64 mask, .slice px nx cx]) w5 := ldDd_of ⟨kd, ⟨k, s, i, g, ⟨es, ei, eg, m, x, y, vx, vy, hp, pw, lf⟩, mask⟩, px, nx, cx⟩ fun q u hq => by rw [Nat.zero_add]; exact HC5.out q u hq
        clear hcu
        go_upto_region 10 with fail
        obtain ⟨w6, rfl⟩ : ∃ w6 : World, w6 = w5 := ⟨_, rfl⟩
        have HB6 := HB5
        clear hld hst c17 hf5 HC5 HB5
        go_wp2_with (at_builtin; refine wpList_append_sl _ (by rfl) _ _ 24 (by rfl) 40 i0 _ 18 160 Try.underlying24 hi0 hz0 hz1 hz2 rfl (by omega) _ ll.length (cellsR dedL ll) (by rfl) (HN.out.grow (HB6.out.trans (Below.mono (B := w6.heap.size) (by repeat' (first | (with_reducible exact Below.refl _ _) | (with_reducible assumption) | (with_reducible refine below_drewN ?_ _) | (with_reducible refine below_more _ _ _ ?_ ?_) | (with_reducible refine Below.alloc ?_ ?_ _) | (with_reducible refine Below.drew ?_) | (with_reducible refine Below.setCell ?_ ?_ _) | go_size)) HB6.out.size))).1 ⟨_, 0, none⟩ 1 1 (dedL ⟨kd, ⟨k, s, i, g, ⟨es, ei, eg, m, x, y, vx, vy, hp, pw, lf⟩, mask⟩, px, nx, cx⟩) (by rfl) (by rfl) (new_cellsN _ _ _ _ (by simp)) (dedL_one _) (by omega) (by have := HLL.out; unfold maxLen; omega) (by have := HLL.out; omega) ?_; intro v' w1 hs1 ht ho)
        go_roundg (zs.length - (j + 1))
        case measure => omega
        case rel => exact ⟨j + 1, by go_num, by omega, by omega, Lib.hid (by rw [HSNK.out]; exact (HN.out.grow (HB6.out.trans (Below.mono (B := w6.heap.size) (by repeat' (first | (with_reducible exact Below.refl _ _) | (with_reducible assumption) | (with_reducible refine below_drewN ?_ _) | (with_reducible refine below_more _ _ _ ?_ ?_) | (with_reducible refine Below.alloc ?_ ?_ _) | (with_reducible refine Below.drew ?_) | (with_reducible refine Below.setCell ?_ ?_ _) | go_size)) HB6.out.size))).snoc hs1 ht ho)⟩
    · obtain rfl : j = zs.length := by omega
      have t1 : ¬ ((zs.length : Nat) : Int) < (zs.length : Int) := by omega
      rw [List.take_length] at HN
      go_wp2_with fail
      go_ret
      exact ⟨_, rfl, HN.out⟩
set_option maxRecDepth 100000 in
set_option maxHeartbeats 4000000 in
/-- few, of more. -/
theorem few_cut (p : Option Addr) (cap : Nat) (zs : List Ded) (w : World) (m : Nat) (h : RIn dedL w (.slice p zs.length cap) zs) (hc : ∀ d ∈ zs, d.n ≤ d.c) (hn : zs.length = 50) (hm : 50 < m) (hmc : m ≤ cap) :
    Calls Try.prog 12 #[.slice p m cap] w fun e w' => ∃ v', e = .returned v' ∧ RNew dedL 40 18 w w' v' (zs.map cutD) := by
  obtain ⟨i0, hi0, hz0, hz1, hz2⟩ := info_partsG info_ded
  have HZ := Lib.hid h
  have HC := Lib.hid hc
  have HSN := Lib.hid (fun k d hd => fewF_snoc zs (k := k) (d := d) hd)
  have hd50 : 50 < (m : Int) := by omega
  have hcp : 50 ≤ cap := by omega
  have HL50 := Lib.hid hn
  clear hc h hn
  go_enter Try.func12, Try.ntmps12
  go_wp2_with fail
  clear hd50 hm hmc hcp
  go_loopg [4, 3] 50 (fun kx sk so wr => ∃ j : Nat, sk = .int .i64 j ∧ j ≤ 50 ∧ 50 - j ≤ kx ∧ Hid (RNew dedL 40 18 w wr so ((zs.take j).map cutD)))
  case atStart => exact ⟨0, by go_num, by omega, by omega, Lib.hid (RNew.nil w)⟩
  case round =>
    obtain ⟨j, rfl, hk, hkx, HN⟩ := hrel
    obtain ⟨wa, rfl⟩ : ∃ wa : World, wa = wr := ⟨_, rfl⟩
    by_cases hlt : j < 50
    · have t1 : (j : Int) < 50 := by omega
      obtain ⟨d, hd⟩ : ∃ d, zs[j]? = some d := ⟨_, List.getElem?_eq_getElem (by have := HL50.out; omega)⟩
      obtain ⟨blk, off, cap', hve, hb, hcx⟩ := (HZ.out.keep HN.out.2.1).cells dedL_len hd
      simp only [Value.slice.injEq, true_and] at hve
      obtain ⟨rfl, rfl⟩ := hve
      have hsn := HSN.out j d hd
      have hnc := HC.out d (List.mem_of_getElem? hd)
      have hll : ((zs.take j).map cutD).length = j := by have := HL50.out; rw [List.length_map, List.length_take]; omega
      generalize (zs.take j).map cutD = ll at *
      have HLL := Lib.hid hll
      have hld0 := ldDd_of d hcx
      obtain ⟨w5, hst0, hb5, hs5, hc5, hf5⟩ := new_ded wa d
      obtain ⟨kd, ⟨k, s, i, g, ⟨es, ei, eg, m, x, y, vx, vy, hp, pw, lf⟩, mask⟩, px, nx, cx⟩ := d
      simp only at hnc hsn
      have hld : (ldDd ⟨blk, off + j * 18, none⟩).run Try.prog wa = .ok (.agg #[.int .i64 kd, .int .i64 k, .int .i64 s, .int .i64 i, .int .i64 g, .int .i64 es, .int .i64 ei, .int .i64 eg, .int .i64 m, .int .i64 x, .int .i64 y, .int .i64 vx, .int .i64 vy, .int .i64 hp, .int .i64 pw, .int .i64 lf, .int .i64 mask, .slice px nx cx]) wa := hld0
      have hst : (stDd ⟨wa.heap.size, 0, none⟩ (.agg #[.int .i64 kd, .int .i64 k, .int .i64 s, .int .i64 i, .int .i64 g, .int .i64 es, .int .i64 ei, .int .i64 eg, .int .i64 m, .int .i64 x, .int .i64 y, .int .i64 vx, .int .i64 vy, .int .i64 hp, .int .i64 pw, .int .i64 lf, .int .i64 mask, .slice px nx cx])).run Try.prog (wa.alloc (.cells #[.int .i64 0, .int .i64 0, .int .i64 0, .int .i64 0, .int .i64 0, .int .i64 0, .int .i64 0, .int .i64 0, .int .i64 0, .int .i64 0, .int .i64 0, .int .i64 0, .int .i64 0, .int .i64 0, .int .i64 0, .int .i64 0, .int .i64 0, .slice none 0 0] 40)) = .ok () w5 := hst0
      have c17 := hc5 17 _ rfl
      have HC5 := Lib.hid hc5
      have HB5 := Lib.hid hb5
      have HSNK := Lib.hid hsn
      clear hcx hd hsn hld0 hst0 hll hc5 hb5
      by_cases h40 : 40 < nx
      · have t2 : (40 : Int) < (nx : Int) := by omega
        have h41 : 40 ≤ cx := by omega
        have hcu : cutD ⟨kd, ⟨k, s, i, g, ⟨es, ei, eg, m, x, y, vx, vy, hp, pw, lf⟩, mask⟩, px, nx, cx⟩ = ⟨kd, ⟨k, s, i, g, ⟨es, ei, eg, m, x, y, vx, vy, hp, pw, lf⟩, mask⟩, px, 40, cx⟩ := if_pos h40
        rw [hcu] at HSNK
        clear hcu
        go_upto_region 10 with fail
        generalize hw6 : World.setCell w5 _ _ = w6
        have hb6 : Below wa.heap.size wa w6 := by rw [← hw6]; refine Below.setCell HB5.out ?_ _; exact Nat.le_refl _
        have hs6 : wa.heap.size < w6.heap.size := by rw [← hw6]; simpa [World.setCell] using hs5
        have hld6 : (ldDd ⟨wa.heap.size, 0, none⟩).run Try.prog w6 = .ok (.agg #[.int .i64 kd, .int .i64 k, .int .i64 s, .int .i64 i, .int .i64 g, .int .i64 es, .int .i64 ei, .int .i64 eg, .int .i64 m, .int .i64 x, .int .i64 y, .int .i64 vx, .int .i64 vy, .int .i64 hp, .int .i64 pw, .int .i64 lf, .int .i64 mask, .slice px 40 cx]) w6 := ldDd_of ⟨kd, ⟨k, s, i, g, ⟨es, ei, eg, m, x, y, vx, vy, hp, pw, lf⟩, mask⟩, px, 40, cx⟩ fun q u hq => by
          rw [Nat.zero_add, ← hw6]
          by_cases h17 : q = 17
          · subst h17; rw [World.cell?_setCell_same' _ _ _ (by rw [c17]; rfl)]; exact hq
          · rw [cell_set_ne (Ne.symm h17)]
            refine HC5.out q u ?_
            have hq18 : q < 18 := (List.getElem?_eq_some_iff.1 hq).1
            rcases q with _ | _ | _ | _ | _ | _ | _ | _ | _ | _ | _ | _ | _ | _ | _ | _ | _ | q
            all_goals first | exact hq | omega
        have HB6 := Lib.hid hb6
        clear hw6 hb6 hld hst c17 hf5 HC5 HB5
        go_wp2_with (at_builtin; refine wpList_append_sl _ (by rfl) _ _ 24 (by rfl) 40 i0 _ 18 160 Try.underlying24 hi0 hz0 hz1 hz2 rfl (by omega) _ ll.length (cellsR dedL ll) (by rfl) (HN.out.grow (HB6.out.trans (Below.mono (B := w6.heap.size) (by repeat' (first | (with_reducible exact Below.refl _ _) | (with_reducible assumption) | (with_reducible refine below_drewN ?_ _) | (with_reducible refine below_more _ _ _ ?_ ?_) | (with_reducible refine Below.alloc ?_ ?_ _) | (with_reducible refine Below.drew ?_) | (with_reducible refine Below.setCell ?_ ?_ _) | go_size)) HB6.out.size))).1 ⟨_, 0, none⟩ 1 1 (dedL ⟨kd, ⟨k, s, i, g, ⟨es, ei, eg, m, x, y, vx, vy, hp, pw, lf⟩, mask⟩, px, 40, cx⟩) (by rfl) (by rfl) (new_cellsN _ _ _ _ (by simp)) (dedL_one _) (by omega) (by have := HLL.out; unfold maxLen; omega) (by have := HLL.out; omega) ?_; intro v' w1 hs1 ht ho)
        go_roundg (50 - (j + 1))
        case measure => omega
        case rel => exact ⟨j + 1, by go_num, by omega, by omega, Lib.hid (by rw [HSNK.out]; exact (HN.out.grow (HB6.out.trans (Below.mono (B := w6.heap.size) (by repeat' (first | (with_reducible exact Below.refl _ _) | (with_reducible assumption) | (with_reducible refine below_drewN ?_ _) | (with_reducible refine below_more _ _ _ ?_ ?_) | (with_reducible refine Below.alloc ?_ ?_ _) | (with_reducible refine Below.drew ?_) | (with_reducible refine Below.setCell ?_ ?_ _) | go_size)) HB6.out.size))).snoc hs1 ht ho)⟩
      · have t2 : ¬ (40 : Int) < (nx : Int) := by omega
        have hcu : cutD ⟨kd, ⟨k, s, i, g, ⟨es, ei, eg, m, x, y, vx, vy, hp, pw, lf⟩, mask⟩, px, nx, cx⟩ = ⟨kd, ⟨k, s, i, g, ⟨es, ei, eg, m, x, y, vx, vy, hp, pw, lf⟩, mask⟩, px, nx, cx⟩ := if_neg h40
        rw [hcu] at HSNK
        have hld6 : (ldDd ⟨wa.heap.size, 0, none⟩).run Try.prog w5 = .ok (.agg #[.int .i64 kd, .int .i64 k, .int .i64 s, .int .i64 i, .int .i64 g, .int .i64 es, .int .i64 ei, .int .i64 eg, .int .i64 m, .int .i64 x, .int .i64 y, .int .i64 vx, .int .i64 vy, .int .i64 hp, .int .i64 pw, .int .i64 lf, .int .i64 mask, .slice px nx cx]) w5 := ldDd_of ⟨kd, ⟨k, s, i, g, ⟨es, ei, eg, m, x, y, vx, vy, hp, pw, lf⟩, mask⟩, px, nx, cx⟩ fun q u hq => by rw [Nat.zero_add]; exact HC5.out q u hq
        clear hcu
        go_upto_region 10 with fail
        obtain ⟨w6, rfl⟩ : ∃ w6 : World, w6 = w5 := ⟨_, rfl⟩
        have HB6 := HB5
        clear hld hst c17 hf5 HC5 HB5
        go_wp2_with (at_builtin; refine wpList_append_sl _ (by rfl) _ _ 24 (by rfl) 40 i0 _ 18 160 Try.underlying24 hi0 hz0 hz1 hz2 rfl (by omega) _ ll.length (cellsR dedL ll) (by rfl) (HN.out.grow (HB6.out.trans (Below.mono (B := w6.heap.size) (by repeat' (first | (with_reducible exact Below.refl _ _) | (with_reducible assumption) | (with_reducible refine below_drewN ?_ _) | (with_reducible refine below_more _ _ _ ?_ ?_) | (with_reducible refine Below.alloc ?_ ?_ _) | (with_reducible refine Below.drew ?_) | (with_reducible refine Below.setCell ?_ ?_ _) | go_size)) HB6.out.size))).1 ⟨_, 0, none⟩ 1 1 (dedL ⟨kd, ⟨k, s, i, g, ⟨es, ei, eg, m, x, y, vx, vy, hp, pw, lf⟩, mask⟩, px, nx, cx⟩) (by rfl) (by rfl) (new_cellsN _ _ _ _ (by simp)) (dedL_one _) (by omega) (by have := HLL.out; unfold maxLen; omega) (by have := HLL.out; omega) ?_; intro v' w1 hs1 ht ho)
        go_roundg (50 - (j + 1))
        case measure => omega
        case rel => exact ⟨j + 1, by go_num, by omega, by omega, Lib.hid (by rw [HSNK.out]; exact (HN.out.grow (HB6.out.trans (Below.mono (B := w6.heap.size) (by repeat' (first | (with_reducible exact Below.refl _ _) | (with_reducible assumption) | (with_reducible refine below_drewN ?_ _) | (with_reducible refine below_more _ _ _ ?_ ?_) | (with_reducible refine Below.alloc ?_ ?_ _) | (with_reducible refine Below.drew ?_) | (with_reducible refine Below.setCell ?_ ?_ _) | go_size)) HB6.out.size))).snoc hs1 ht ho)⟩
    · obtain rfl : j = 50 := by omega
      rw [show zs.take 50 = zs from List.take_of_length_le (Nat.le_of_eq HL50.out)] at HN
      go_wp2_with fail
      go_ret
      exact ⟨_, rfl, HN.out⟩
/-- few. -/
theorem few_any (v : Value) (zs : List Ded) (w : World) (h : RIn dedL w v zs) (hc : ∀ d ∈ zs, d.n ≤ d.c) : Calls Try.prog 12 #[v] w fun e w' => ∃ v', e = .returned v' ∧ RNew dedL 40 18 w w' v' (fewF zs) := by
  obtain ⟨p, cap, rfl, h1, h2, h3, h4⟩ := h
  have h : RIn dedL w (.slice p zs.length cap) zs := ⟨p, cap, rfl, h1, h2, h3, h4⟩
  by_cases hn : zs.length ≤ 50
  · have e : fewF zs = zs.map cutD := by unfold fewF; rw [List.take_of_length_le hn]
    rw [e]; exact few_body p cap zs w h hc hn
  · have hl : (zs.take 50).length = 50 := by rw [List.length_take]; omega
    exact few_cut p cap (zs.take 50) w zs.length (rin_cut 50 h) (fun d hd => hc d (List.mem_of_mem_take hd)) hl (by omega) h3
end Go.Proofs.Ytbghjklnlhoklaa
