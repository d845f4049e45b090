/-
  Chapter texts TkA TkF TkP: what the claim reaches of them. Conditions stand at each theorem.
-/
import Derived.Shelf.SlSortCmp.NoneTotal
import Derived.Test.YtoimjjhopljdmaaGreatQ07
import Derived.Test.YtoimjjhopljdmaaGreatQ23
import Derived.Test.YtoimjjhopljdmaaGreatQ25
import Derived.Test.YtoimjjhopljdmaaGreatQ14
namespace Go.Proofs.YtoimjjhopljdmaaGreat
open Go.RowKit
theorem filter_step2 {α : Type} (f : α → Bool) {l : List α} {t : Nat} {x : α} (h : l[t]? = some x) : (l.take (t + 1)).filter f = (l.take t).filter f ++ (if f x then [x] else []) := by
  have hlt := (List.getElem?_eq_some_iff.1 h).1
  rw [List.take_succ_eq_append_getElem hlt, List.filter_append, (List.getElem?_eq_some_iff.1 h).2]
  cases hh : f x <;> simp [hh]
structure StB (w : World) (b : Nat) (m lv ov gv dv : Value) : Prop where
  c : ∀ j, w.cell? ⟨b, j, none⟩ = (#[m, lv, ov, gv, dv] : Array Value)[j]?
  f : ∀ j, w.frozen? ⟨b, j, none⟩ = false
theorem StB.keep {w w' : World} {b : Nat} {m lv ov gv dv : Value} (h : StB w b m lv ov gv dv) (hb : w'.heap[b]? = w.heap[b]?) : StB w' b m lv ov gv dv :=
  ⟨fun j => (World.cell?_of_block (w := w) (a := ⟨b, j, none⟩) hb).trans (h.c j), fun j => (World.frozen?_of_block (w := w) (a := ⟨b, j, none⟩) hb).trans (h.f j)⟩
theorem StB.lt {w : World} {b : Nat} {m lv ov gv dv : Value} (h : StB w b m lv ov gv dv) : b < w.heap.size := World.block_lt_of_cell? w ⟨b, 0, none⟩ (h.c 0)
theorem StB.block {w : World} {b : Nat} {m lv ov gv dv : Value} (h : StB w b m lv ov gv dv) : ∃ c e fr, w.heap[b]? = some (.cells c e fr) ∧ 4 < c.size := by
  have h6 := h.c 4
  simp only [World.cell?] at h6
  split at h6
  · rename_i c e fr hb
    refine ⟨c, e, fr, hb, ?_⟩
    simp at h6
    exact (Array.getElem?_eq_some_iff.1 h6).1
  · simp at h6
theorem StB.store {w : World} {b : Nat} {vs : Array Value} {u : Nat} (hu : u < 5) (hs : vs.size = 5) (v' : Value) (hc : ∀ j, w.cell? ⟨b, j, none⟩ = vs[j]?) (hf : ∀ j, w.frozen? ⟨b, j, none⟩ = false) :
    (∀ j, (w.setCell ⟨b, u, none⟩ v').cell? ⟨b, j, none⟩ = (vs.setIfInBounds u v')[j]?) ∧ (∀ j, (w.setCell ⟨b, u, none⟩ v').frozen? ⟨b, j, none⟩ = false) := by
  have h6 := hc u
  rw [Array.getElem?_eq_getElem (by omega)] at h6
  simp only [World.cell?] at h6
  split at h6
  · rename_i c e fr hb
    simp at h6
    have hcs := (Array.getElem?_eq_some_iff.1 h6).1
    have hs' : (w.setCell ⟨b, u, none⟩ v').heap[b]? = some (.cells (c.setIfInBounds u v') e fr) := by simp [World.setCell, Array.getElem?_modify, hb]
    have hcc : ∀ j, c[j]? = vs[j]? := fun j => by have := hc j; simpa [World.cell?, hb] using this
    refine ⟨fun j => ?_, fun j => ?_⟩
    · have e1 : (w.setCell ⟨b, u, none⟩ v').cell? ⟨b, j, none⟩ = (c.setIfInBounds u v')[j]? := by unfold World.cell?; rw [hs']; simp
      rw [e1]
      simp only [Array.getElem?_setIfInBounds, hcc]
      split
      · rw [if_pos (by omega)]
      · rfl
    · rw [← hf j]
      simp only [World.frozen?, hs', hb]
  · simp at h6
structure Tu2 (w w' : World) (b : Nat) (o : Option Nat) : Prop where
  os : w'.os = w.os
  tape : w'.tape = w.tape
  output : w'.output = w.output
  size : w.heap.size ≤ w'.heap.size
  block : ∀ k, k < w.heap.size → k ≠ b → some k ≠ o → w'.heap[k]? = w.heap[k]?
theorem Tu2.refl (w : World) (b : Nat) (o : Option Nat) : Tu2 w w b o := ⟨rfl, rfl, rfl, Nat.le_refl _, fun _ _ _ _ => rfl⟩
theorem Tu2.bel {w w1 w2 : World} {b : Nat} {o : Option Nat} (h : Tu2 w w1 b o) (hb : Below w1.heap.size w1 w2) : Tu2 w w2 b o :=
  ⟨hb.os.trans h.os, hb.tape.trans h.tape, hb.output.trans h.output, Nat.le_trans h.size hb.size, fun k hk h1 h2 => (hb.block k (Nat.lt_of_lt_of_le hk h.size)).trans (h.block k hk h1 h2)⟩
theorem Tu2.tur {w w1 w2 : World} {b : Nat} {o o' : Option Nat} (h : Tu2 w w1 b o) (ht : Turned w1 w2 o') (ho : ∀ g, o' = some g → some g = o ∨ g = b ∨ w.heap.size ≤ g) : Tu2 w w2 b o :=
  ⟨ht.os.trans h.os, ht.tape.trans h.tape, ht.output.trans h.output, Nat.le_trans h.size ht.size, fun k hk h1 h2 => (ht.block k (Nat.lt_of_lt_of_le hk h.size) (fun e => by
    rcases ho k e.symm with h3 | h3 | h3
    · exact h2 h3
    · exact h1 h3
    · omega)).trans (h.block k hk h1 h2)⟩
theorem Tu2.trans {w w1 w2 : World} {b : Nat} {o o' : Option Nat} (h : Tu2 w w1 b o) (h2 : Tu2 w1 w2 b o') (ho : ∀ g, o' = some g → some g = o ∨ g = b ∨ w.heap.size ≤ g) : Tu2 w w2 b o :=
  ⟨h2.os.trans h.os, h2.tape.trans h.tape, h2.output.trans h.output, Nat.le_trans h.size h2.size, fun k hk h3 h4 => (h2.block k (Nat.lt_of_lt_of_le hk h.size) h3 (fun e => by
    rcases ho k e.symm with h5 | h5 | h5
    · exact h4 h5
    · exact h3 h5
    · omega)).trans (h.block k hk h3 h4)⟩
theorem Tu2.below {W w w' : World} {b : Nat} {o : Option Nat} (h : Tu2 w w' b o) (hb : Below W.heap.size W w) (h1 : W.heap.size ≤ b) (h2 : ∀ g, o = some g → W.heap.size ≤ g) : Below W.heap.size W w' :=
  hb.trans ⟨h.os, h.tape, h.output, h.size, fun k hk => h.block k (Nat.lt_of_lt_of_le hk hb.size) (by omega) (fun e => by have := h2 k e.symm; omega)⟩
structure Two (w1 : World) (b n : Nat) (W : World) : Prop where
  sz : w1.heap.size ≤ W.heap.size
  cb : ∀ o, W.cell? ⟨b, o, none⟩ = w1.cell? ⟨b, o, none⟩
  fb : ∀ o, W.frozen? ⟨b, o, none⟩ = w1.frozen? ⟨b, o, none⟩
  cn : ∀ o, W.cell? ⟨n, o, none⟩ = w1.cell? ⟨n, o, none⟩
theorem Two.refl (w1 : World) (b n : Nat) : Two w1 b n w1 := ⟨Nat.le_refl _, fun _ => rfl, fun _ => rfl, fun _ => rfl⟩
theorem Two.step {w1 W W' : World} {b n : Nat} (h : Two w1 b n W) (hs : W.heap.size ≤ W'.heap.size) (hb : W'.heap[b]? = W.heap[b]?) (hn : W'.heap[n]? = W.heap[n]?) : Two w1 b n W' :=
  ⟨Nat.le_trans h.sz hs, fun o => (World.cell?_of_block (w := W) (a := ⟨b, o, none⟩) hb).trans (h.cb o), fun o => (World.frozen?_of_block (w := W) (a := ⟨b, o, none⟩) hb).trans (h.fb o), fun o => (World.cell?_of_block (w := W) (a := ⟨n, o, none⟩) hn).trans (h.cn o)⟩
theorem Two.bel {w1 W W' : World} {b n : Nat} (hb : b < w1.heap.size) (hn : n < w1.heap.size) (h : Two w1 b n W) (hB : Below W.heap.size W W') : Two w1 b n W' :=
  h.step hB.size (hB.block b (Nat.lt_of_lt_of_le hb h.sz)) (hB.block n (Nat.lt_of_lt_of_le hn h.sz))
theorem Two.drew {w1 W : World} {b n : Nat} (h : Two w1 b n W) : Two w1 b n W.drew := h.step (Nat.le_refl _) rfl rfl
theorem Two.alloc {w1 W : World} {b n : Nat} (hb : b < w1.heap.size) (hn : n < w1.heap.size) (o : Obj) (h : Two w1 b n W) : Two w1 b n (W.alloc o) :=
  h.bel hb hn ((Below.refl _ _).alloc (Nat.le_refl _) o)
theorem Two.tur {w1 W W' : World} {b n : Nat} {o : Option Nat} (hb : b < w1.heap.size) (hn : n < w1.heap.size) (h1 : some b ≠ o) (h2 : some n ≠ o) (h : Two w1 b n W) (ht : Turned W W' o) : Two w1 b n W' :=
  h.step ht.size (ht.block b (Nat.lt_of_lt_of_le hb h.sz) h1) (ht.block n (Nat.lt_of_lt_of_le hn h.sz) h2)
end Go.Proofs.YtoimjjhopljdmaaGreat
namespace Go.Proofs.YtoimjjhopljdmaaGreat
open Go.RowKit Go.Shelf Go.Sort Go.Lib

def renD : Ren := ⟨fun n => if n = 6 then 105 else if n = 14 then 143 else if n = 15 then 144 else if n = 20 then 160 else if n = 21 then 161 else if n = 22 then 162 else if n = 23 then 163 else if n = 24 then 164 else if n = 25 then 165 else if n = 26 then 166 else if n = 27 then 167 else if n = 28 then 168 else if n = 29 then 169 else if n = 46 then 176 else if n = 47 then 177 else if n = 48 then 178 else if n = 49 then 179 else if n = 50 then 180 else if n = 57 then 183 else 0, fun n => if n = 3 then 3 else if n = 4 then 4 else if n = 5 then 5 else if n = 9 then 9 else if n = 22 then 56 else if n = 24 then 30 else if n = 25 then 160 else if n = 39 then 202 else if n = 45 then 214 else if n = 46 then 215 else if n = 50 then 117 else if n = 53 then 221 else if n = 55 then 223 else if n = 66 then 228 else if n = 70 then 232 else if n = 76 then 235 else if n = 77 then 64 else 0, fun _ => 0⟩
theorem laysD : SlLaysF0.n6 Tryz.prog renD := {
  mixed := by kernel_rfl
  f6 := ⟨Tryz.f105.name, by decide, by kernel_rfl⟩
  f14 := ⟨Tryz.f143.name, by decide, by kernel_rfl⟩
  f15 := by kernel_rfl
  f20 := ⟨Tryz.f160.name, by decide, by kernel_rfl⟩
  f21 := ⟨Tryz.f161.name, by decide, by kernel_rfl⟩
  f22 := ⟨Tryz.f162.name, by decide, by kernel_rfl⟩
  f23 := ⟨Tryz.f163.name, by decide, by kernel_rfl⟩
  f24 := ⟨Tryz.f164.name, by decide, by kernel_rfl⟩
  f25 := ⟨Tryz.f165.name, by decide, by kernel_rfl⟩
  f26 := ⟨Tryz.f166.name, by decide, by kernel_rfl⟩
  f27 := ⟨Tryz.f167.name, by decide, by kernel_rfl⟩
  f28 := by kernel_rfl
  f29 := by kernel_rfl
  f46 := ⟨Tryz.f176.name, by decide, by kernel_rfl⟩
  f47 := by kernel_rfl
  f48 := by kernel_rfl
  f49 := ⟨Tryz.f179.name, by decide, by kernel_rfl⟩
  f50 := ⟨Tryz.f180.name, by decide, by kernel_rfl⟩
  f57 := ⟨Tryz.f183.name, by decide, by kernel_rfl⟩
  t0 := by kernel_rfl
  a0 := fun _ => by kernel_rfl
  z0 := fun _ => by kernel_rfl
  v0 := fun _ => by kernel_rfl
  t3 := by kernel_rfl
  a3 := fun _ => by kernel_rfl
  z3 := fun _ => by kernel_rfl
  v3 := fun _ => by kernel_rfl
  t4 := by kernel_rfl
  a4 := fun _ => by kernel_rfl
  z4 := fun _ => by kernel_rfl
  v4 := fun _ => by kernel_rfl
  t5 := by kernel_rfl
  a5 := fun _ => by kernel_rfl
  z5 := fun _ => by kernel_rfl
  v5 := fun _ => by kernel_rfl
  t9 := by kernel_rfl
  a9 := fun _ => by kernel_rfl
  z9 := fun _ => by kernel_rfl
  v9 := fun _ => by kernel_rfl
  t22 := by kernel_rfl
  a22 := fun _ => by kernel_rfl
  z22 := fun _ => by kernel_rfl
  v22 := fun _ => by kernel_rfl
  t25 := by kernel_rfl
  a25 := fun _ => by kernel_rfl
  z25 := fun _ => by kernel_rfl
  v25 := fun _ => by kernel_rfl
  t39 := by kernel_rfl
  a39 := fun _ => by kernel_rfl
  z39 := fun _ => by kernel_rfl
  v39 := fun _ => by kernel_rfl
  t45 := by kernel_rfl
  a45 := fun _ => by kernel_rfl
  z45 := fun _ => by kernel_rfl
  v45 := fun _ => by kernel_rfl
  t46 := by kernel_rfl
  a46 := fun _ => by kernel_rfl
  z46 := fun _ => by kernel_rfl
  v46 := fun _ => by kernel_rfl
  t50 := by kernel_rfl
  a50 := fun _ => by kernel_rfl
  z50 := fun _ => by kernel_rfl
  v50 := fun _ => by kernel_rfl
  t53 := by kernel_rfl
  a53 := fun _ => by kernel_rfl
  z53 := fun _ => by kernel_rfl
  v53 := fun _ => by kernel_rfl
  t55 := by kernel_rfl
  a55 := fun _ => by kernel_rfl
  z55 := fun _ => by kernel_rfl
  v55 := fun _ => by kernel_rfl
  t66 := by kernel_rfl
  a66 := fun _ => by kernel_rfl
  z66 := fun _ => by kernel_rfl
  v66 := fun _ => by kernel_rfl
  t70 := by kernel_rfl
  a70 := fun _ => by kernel_rfl
  z70 := fun _ => by kernel_rfl
  v70 := fun _ => by kernel_rfl
  t76 := by kernel_rfl
  a76 := fun _ => by kernel_rfl
  z76 := fun _ => by kernel_rfl
  v76 := fun _ => by kernel_rfl
  t77 := by kernel_rfl
  a77 := fun _ => by kernel_rfl
  z77 := fun _ => by kernel_rfl
  v77 := fun _ => by kernel_rfl }
def cmpN (a b : Nid) : Int := cmpId a.s a.i a.g b.s b.i b.g
def sortN (l : List Nid) : List Nid := l.mergeSort fun x y => !(ltOf cmpN) y x
theorem cmpN_ok : CmpOk cmpN where
  neg x y := by have := cmpId_neg x.s x.i x.g y.s y.i y.g; unfold cmpN; omega
  zero x y := by have := cmpId_neg x.s x.i x.g y.s y.i y.g; unfold cmpN; omega
  trans x y z h1 h2 := by have := cmpId_trans x.s x.i x.g y.s y.i y.g z.s z.i z.g h1 h2; unfold cmpN at *; omega
  transl x y z h1 h2 := by have := cmpId_trans x.s x.i x.g y.s y.i y.g z.s z.i z.g (by unfold cmpN at h1; omega) h2; unfold cmpN at *; omega
  transr x y z h1 h2 := by have := cmpId_trans x.s x.i x.g y.s y.i y.g z.s z.i z.g h1 (by unfold cmpN at h2; omega); unfold cmpN at *; omega
theorem ltN_iff (x y : Nid) : ltOf cmpN x y = true ↔ cmpN x y < 0 := by unfold ltOf; simp
theorem ltN_not (x y : Nid) : ltOf cmpN x y = false ↔ 0 ≤ cmpN x y := by unfold ltOf; simp
theorem cmpN_swo : SWO (ltOf cmpN) where
  irrefl x := by rw [ltN_not]; have := cmpN_ok.self x; omega
  trans x y z h1 h2 := by rw [ltN_iff] at *; exact cmpN_ok.transl x y z h1 (by omega)
  ntrans x y z h1 h2 := by
    rw [ltN_not] at *
    have a1 := cmpN_ok.neg y x; have a2 := cmpN_ok.neg z y; have a3 := cmpN_ok.neg z x
    have b1 := cmpN_ok.zero y x; have b2 := cmpN_ok.zero z y
    have a4 := cmpN_ok.neg x z
    have := cmpN_ok.trans z y x (by have := cmpN_ok.neg y z; omega) (by have := cmpN_ok.neg x y; omega)
    omega
theorem cmpN_eq {x y : Nid} (h : cmpN x y = 0) : x = y := by
  obtain ⟨s, i, g⟩ := x
  obtain ⟨s', i', g'⟩ := y
  obtain ⟨rfl, rfl, rfl⟩ := (cmpId_zero _ _ _ _ _ _).1 h
  rfl
theorem eg_cmp : ∀ args w, (callFunc 106 args).run Tryz.prog w = .ok (.enter 106 args) w := enters_of Tryz.func106 (by kernel_rfl) rfl
theorem cmpLaysN (blk off size : Nat) (w : World) : CmpLays Tryz.prog 106 #[] nidL 3 cmpN blk off size w := fun m os dk _ x y => by
  have h := compare_grow x.s x.i x.g y.s y.i y.g (sortWorldK nidL 3 w blk off m dk os)
  exact h
theorem holds_of_slN {w : World} {l : List Nid} {blk off cap : Nat} (h : Sl w 30 3 (.slice (some ⟨blk, off, none⟩) l.length cap) l.length (cellsR nidL l)) : blk < w.heap.size ∧ HoldsK nidL 3 w blk off l.toArray := by
  obtain ⟨_, ⟨h0, _⟩ | ⟨g, off', cap', cur, hv, hb, hn, hc, hsz, hr⟩⟩ := h
  · cases h0
  · simp only [Value.slice.injEq, Option.some.injEq, Addr.mk.injEq, and_true, true_and] at hv
    obtain ⟨⟨rfl, rfl⟩, rfl⟩ := hv
    refine ⟨(Array.getElem?_eq_some_iff.1 hb).1, fun t ht => ?_⟩
    rw [size_flatK, List.size_toArray] at ht
    rw [get_flatK _ _ _ _ (by rw [List.size_toArray]; exact ht)]
    have hk : t / 3 < l.length := by omega
    rw [getElem!_pos l.toArray _ (by simpa using hk), List.getElem_toArray]
    have e1 := cellsR_get nidL 3 nidL_len l (t / 3) (t % 3) l[t / 3] (List.getElem?_eq_getElem hk) (Nat.mod_lt _ (by omega))
    rw [show t / 3 * 3 + t % 3 = t by omega] at e1
    have e2 : (nidL l[t / 3])[t % 3]? = some ((nidL l[t / 3])[t % 3]!) := by
      rw [List.getElem!_eq_getElem?_getD]
      have : t % 3 < (nidL l[t / 3]).length := by rw [nidL_len]; exact Nat.mod_lt _ (by omega)
      rw [List.getElem?_eq_getElem this]; rfl
    have h3 := hr t _ (e1.trans e2)
    refine ⟨?_, by simp [World.frozen?, hb]⟩
    show w.cell? ⟨blk, off + t, none⟩ = some ((nidL l[t / 3])[t % 3]!)
    simp [World.cell?, hb, h3]
theorem sl_of_sortedN {w : World} {l l' : List Nid} {blk off cap n : Nat} {os : Array Obj} (h : Sl w 30 3 (.slice (some ⟨blk, off, none⟩) l.length cap) l.length (cellsR nidL l)) (hd : l'.length = l.length) :
    Sl (sortWorldK nidL 3 w blk off n l'.toArray os) 30 3 (.slice (some ⟨blk, off, none⟩) l.length cap) l.length (cellsR nidL l') ∧ Turned w (sortWorldK nidL 3 w blk off n l'.toArray os) (some blk) := by
  obtain ⟨_, ⟨h0, _⟩ | ⟨g, off', cap', cur, hv, hb, hn, hc, hsz, hr⟩⟩ := h
  · cases h0
  · simp only [Value.slice.injEq, Option.some.injEq, Addr.mk.injEq, and_true, true_and] at hv
    obtain ⟨⟨rfl, rfl⟩, rfl⟩ := hv
    have hlt := (Array.getElem?_eq_some_iff.1 hb).1
    have hheap : (sortWorldK nidL 3 w blk off n l'.toArray os).heap[blk]? = some (.cells (putCells id off (flatK nidL 3 l'.toArray) cur) 30 (0, 0)) := by
      unfold sortWorldK putRowK
      simp only [grow]
      rw [Array.getElem?_append_left (by simp [putRow, mapBlock, Sort.ahead]; exact hlt)]
      simp [putRow, mapBlock, Sort.ahead, Array.getElem?_modify, hb, onCells]
    have hF : ∀ j, j < l.length * 3 → (flatK nidL 3 l'.toArray)[j]! = (nidL (l'.toArray[j / 3]!))[j % 3]! := fun j hj => get_flatK _ _ _ _ (by rw [List.size_toArray, hd]; exact hj)
    refine ⟨⟨by rw [cellsR_len nidL 3 nidL_len, hd], .inr ⟨blk, off, cap, _, rfl, hheap, hn, hc, by simp [putCells]; omega, fun j u hj => ?_⟩⟩, ?_⟩
    · have hj' : j < l.length * 3 := by
        have := (List.getElem?_eq_some_iff.1 hj).1; rw [cellsR_len nidL 3 nidL_len, hd] at this; exact this
      have hk : j / 3 < l'.length := by omega
      have e1 := cellsR_get nidL 3 nidL_len l' (j / 3) (j % 3) l'[j / 3] (List.getElem?_eq_getElem hk) (Nat.mod_lt _ (by omega))
      rw [show j / 3 * 3 + j % 3 = j by omega] at e1
      rw [e1] at hj
      have hcj : (cur[off + j]?).isSome = true := by
        have : l.length * 3 ≤ cap * 3 := Nat.mul_le_mul_right _ hn
        rw [Array.getElem?_eq_getElem (by omega)]; rfl
      obtain ⟨y, hy⟩ := Option.isSome_iff_exists.1 hcj
      simp only [putCells, Array.getElem?_mapIdx, hy, Option.map_some]
      rw [if_pos ⟨by omega, by rw [size_flatK, List.size_toArray, hd]; omega⟩, show off + j - off = j by omega]
      show some ((flatK nidL 3 l'.toArray)[j]!) = some u
      rw [hF j hj', getElem!_pos l'.toArray _ (by simpa using hk), List.getElem_toArray, List.getElem!_eq_getElem?_getD, hj]; rfl
    · unfold sortWorldK putRowK
      refine ⟨rfl, rfl, rfl, ?_, fun k hk hne => ?_⟩
      · simp [grow, Sort.ahead]
      · have hgk : blk ≠ k := fun e => hne (by rw [e])
        show ((putRow id (Sort.ahead w n) blk off (flatK nidL 3 l'.toArray)).heap ++ os)[k]? = _
        rw [Array.getElem?_append_left (by simpa [Sort.ahead] using hk)]
        simp [putRow, mapBlock, Array.getElem?_modify, Sort.ahead, hgk]
theorem sortN_any (v : Value) (l : List Nid) (w : World) (h : Sl w 30 3 v l.length (cellsR nidL l)) (hl : l.length ≤ 1000000) :
    Calls Tryz.prog 105 #[v, .func (.func 106) #[] #[]] w fun e w' => e = .returned (.tuple #[]) ∧ Sl w' 30 3 v l.length (cellsR nidL (sortN l)) ∧ Turned w w' v.ownBlock := by
  have h' := h
  obtain ⟨_, ⟨rfl, h0⟩ | ⟨blk, off, cap, cur, rfl, _⟩⟩ := h'
  · have e := List.eq_nil_of_length_eq_zero h0
    subst e
    refine (AnyF.slices_SortFunc_none (P := Tryz.prog) (ρ := renD) laysD none 0 _ w).mono ?_
    rintro e w' ⟨rfl, rfl⟩
    exact ⟨rfl, by simpa [sortN] using h, Turned.of_bel (Below.refl _ _)⟩
  · obtain ⟨hlt, hH⟩ := holds_of_slN h
    have hs := AnyQ.slices_SortFunc_total (P := Tryz.prog) (ρ := renD) laysD 3 (fun w => by kernel_rfl) (fun w => by kernel_rfl) nidL nidL_len nidL_one cmpN cmpN_swo 106 #[] blk off cap l.toArray w eg_cmp (cmpLaysN _ _ _ _) hH hlt (by simp; omega) (fun x y h1 h2 => by
      rw [ltN_not] at h1 h2
      have := cmpN_ok.neg x y
      have := cmpN_ok.neg y x
      exact cmpN_eq (by omega))
    rw [List.size_toArray] at hs
    refine hs.mono ?_
    rintro e w' ⟨rfl, n, os, rfl⟩
    obtain ⟨q1, q2⟩ := sl_of_sortedN (n := n) (os := os) (l' := sortN l) h (by simp [sortN])
    exact ⟨rfl, q1, q2⟩
end Go.Proofs.YtoimjjhopljdmaaGreat
namespace Go.Proofs.YtoimjjhopljdmaaGreat
open Go.RowKit Go.Sort
def compS (o : List Nid) (x : Nid) : List Nid := if o.getLast? = some x then o else o ++ [x]
def compF (l : List Nid) : List Nid := l.foldl compS []
def setN (l : List Nid) : List Nid := compF (sortN l)
theorem sortN_perm (l : List Nid) : (sortN l).Perm l := List.mergeSort_perm _ _
end Go.Proofs.YtoimjjhopljdmaaGreat
