/-
  Chapter 15: each: something is done to each entity; those that are no more are told. Condition: a thousand entities at most.
  Chapter 15: names are sorted (slices.SortFunc by parts.Compare: the shelf's contract, laid by hand). Condition: a million at most.
  Plain: names that are no more: sorted, each once; what the reference's 'with' does, one by one, is that. No program here. No condition.
  Plain: what a tick is: commands, hits, time. And slices that are read beside others that are written. No program here. No condition.
-/
import Derived.Test.YtcnclcfipabimaaMtl
import Derived.Shelf.SlSortCmp.NoneTotal
import Derived.Test.YtcnclcfipabimaaMsi
import Derived.Test.YtcnclcfipabimaaTkC
namespace Go.Proofs.Ytcnclcfipabimaa
open Go.RowKit

/-- What is left, and who is no more. -/
def eachL (f : Bun → Bun × Bool) (l : List Bun) : List Bun := (l.filter fun x => (f x).2).map fun x => (f x).1
def eachD (f : Bun → Bun × Bool) (l : List Bun) : List Nid := (l.filter fun x => !(f x).2).map idOf
theorem eachL_step (f : Bun → Bun × Bool) {l : List Bun} {t : Nat} {x : Bun} (h : l[t]? = some x) : eachL f (l.take (t + 1)) = eachL f (l.take t) ++ (if (f x).2 then [(f x).1] else []) := by
  unfold eachL
  rw [filter_step2 _ h, List.map_append]
  congr 1
  split <;> simp
theorem eachD_step (f : Bun → Bun × Bool) {l : List Bun} {t : Nat} {x : Bun} (h : l[t]? = some x) : eachD f (l.take (t + 1)) = eachD f (l.take t) ++ (if (f x).2 then [] else [idOf x]) := by
  unfold eachD
  rw [filter_step2 _ h, List.map_append]
  congr 1
  cases (f x).2 <;> simp
theorem eachL_le (f : Bun → Bun × Bool) (l : List Bun) (t : Nat) : (eachL f (l.take t)).length ≤ t := by
  unfold eachL
  have := List.length_filter_le (fun x => (f x).2) (l.take t)
  rw [List.length_take] at this
  simp; omega
theorem eachD_le (f : Bun → Bun × Bool) (l : List Bun) (t : Nat) : (eachD f (l.take t)).length ≤ t := by
  unfold eachD
  have := List.length_filter_le (fun x => !(f x).2) (l.take t)
  rw [List.length_take] at this
  simp only [List.length_map]; omega
/-- What holds in the loop. -/
structure Ea (w wr : World) (b : Nat) (m lv ov gv dv0 left : Value) (ll : List Bun) (dv : Value) (dd : List Nid) : Prop where
  st : StB wr b m lv ov gv dv
  sl : Sl wr 41 11 left ll.length (bunCells ll)
  sd : Sl wr 39 3 dv dd.length (cellsR nidL dd)
  tu : Tu2 w wr b dv0.ownBlock
  ol : ∀ g, left.ownBlock = some g → w.heap.size ≤ g
  od : dv.ownBlock = dv0.ownBlock ∨ ∃ g, dv.ownBlock = some g ∧ w.heap.size ≤ g
  ld : ∀ g, left.ownBlock = some g → dv.ownBlock ≠ some g
variable {w wr : World} {b : Nat} {m lv ov gv dv0 left : Value} {ll : List Bun} {dv : Value} {dd : List Nid}
theorem Ea.odb (h : Ea w wr b m lv ov gv dv0 left ll dv dd) (hb : b < w.heap.size) (h0 : dv0.ownBlock ≠ some b) : dv.ownBlock ≠ some b := fun e => by
  rcases h.od with h1 | ⟨g, h1, h2⟩
  · exact h0 (h1.symm.trans e)
  · rw [h1] at e; cases e; omega
theorem Ea.bel {w' : World} (h : Ea w wr b m lv ov gv dv0 left ll dv dd) (hb : Below wr.heap.size wr w') : Ea w w' b m lv ov gv dv0 left ll dv dd :=
  ⟨h.st.keep (hb.block b h.st.lt), h.sl.grow hb, h.sd.grow hb, h.tu.bel hb, h.ol, h.od, h.ld⟩
theorem Ea.app {w' : World} {left' : Value} {x : Bun} (h : Ea w wr b m lv ov gv dv0 left ll dv dd) (hb : b < w.heap.size) (hs : Sl w' 41 11 left' (ll.length + 1) (bunCells ll ++ bunL x)) (ht : Turned wr w' left.ownBlock)
    (ho : left'.ownBlock = left.ownBlock ∨ ∃ g, left'.ownBlock = some g ∧ wr.heap.size ≤ g) : Ea w w' b m lv ov gv dv0 left' (ll ++ [x]) dv dd := by
  refine ⟨h.st.keep (ht.block b h.st.lt fun e => by have := h.ol b e.symm; omega), ?_, h.sd.keep fun g hg => ht.block g (sl_lt h.sd hg) fun e => h.ld g e.symm hg, h.tu.tur ht fun g hg => .inr (.inr (h.ol g hg)), fun g hg => ?_, h.od, fun g hg => ?_⟩
  · rw [bunCells_app, show bunCells [x] = bunL x by simp [bunCells]]; simpa using hs
  · rcases ho with e | ⟨g', e, hg'⟩
    · exact h.ol g (e ▸ hg)
    · rw [e] at hg; cases hg; exact Nat.le_trans h.tu.size hg'
  · rcases ho with e | ⟨g', e, hg'⟩
    · exact h.ld g (e ▸ hg)
    · rw [e] at hg; cases hg
      intro e2; have := sl_lt h.sd e2; omega
theorem Ea.die {w1 : World} {g off cap : Nat} {x : Bun} (h : Ea w wr b m lv ov gv dv0 left ll dv dd) (hb : b < w.heap.size) (h0 : dv0.ownBlock ≠ some b) (hs : Sl w1 39 3 (.slice (some ⟨g, off, none⟩) (dd.length + 1) cap) (dd.length + 1) (cellsR nidL dd ++ nidL (idOf x))) (ht : Turned wr w1 dv.ownBlock)
    (ho : dv.ownBlock = some g ∨ wr.heap.size ≤ g) : Ea w (w1.setCell ⟨b, 4, none⟩ (.slice (some ⟨g, off, none⟩) (dd.length + 1) cap)) b m lv ov gv dv0 left ll (.slice (some ⟨g, off, none⟩) (dd.length + 1) cap) (dd ++ [idOf x]) := by
  have hob := h.odb hb h0
  have hgb : g ≠ b := by
    rcases ho with e | e
    · intro e2; exact hob (e2 ▸ e)
    · have := h.st.lt; omega
  have st1 : StB w1 b m lv ov gv dv := h.st.keep (ht.block b h.st.lt fun e => hob e.symm)
  obtain ⟨q1, q2⟩ := StB.store (u := 4) (by omega) rfl (.slice (some ⟨g, off, none⟩) (dd.length + 1) cap) st1.c st1.f
  have hk : ∀ k, k ≠ b → (w1.setCell ⟨b, 4, none⟩ (.slice (some ⟨g, off, none⟩) (dd.length + 1) cap)).heap[k]? = w1.heap[k]? := fun k hk => Below.heap_setCell _ _ _ _ (fun e => hk e)
  have hlb : ∀ k, left.ownBlock = some k → k ≠ b := fun k hk e => by have := h.ol k hk; omega
  refine ⟨⟨q1, q2⟩, h.sl.keep fun k hl => (hk k (hlb k hl)).trans (ht.block k (sl_lt h.sl hl) fun e => h.ld k hl e.symm), ?_, (h.tu.tur ht fun k hk => ?_).tur (setCells_turned b [_] 4 w1) fun k hk => ?_, h.ol, ?_, fun k hl => ?_⟩
  · rw [cellsR_app, cellsR_one, List.length_append]
    exact hs.keep fun k hg => hk k (by simp [Value.ownBlock] at hg; omega)
  · rcases h.od with e | ⟨g', e, hg'⟩
    · exact .inl (e ▸ hk.symm)
    · rw [e] at hk; cases hk; exact .inr (.inr hg')
  · cases hk; exact .inr (.inl rfl)
  · rcases ho with e | e
    · rcases h.od with e1 | ⟨g', e1, hg'⟩
      · exact .inl (by rw [← e1, e]; rfl)
      · exact .inr ⟨g, rfl, by rw [e1] at e; cases e; exact hg'⟩
    · exact .inr ⟨g, rfl, Nat.le_trans h.tu.size e⟩
  · intro e2
    simp [Value.ownBlock] at e2
    subst e2
    rcases ho with e | e
    · exact h.ld g hl e
    · have := sl_lt h.sl hl; omega
theorem Ea.fin (h : Ea w wr b m lv ov gv dv0 left ll dv dd) (hb : b < w.heap.size) (h0 : dv0.ownBlock ≠ some b) : Ea w (wr.setCell ⟨b, 1, none⟩ left) b m left ov gv dv0 left ll dv dd := by
  have hob := h.odb hb h0
  obtain ⟨q1, q2⟩ := StB.store (u := 1) (by omega) rfl left h.st.c h.st.f
  have hk : ∀ k, k ≠ b → (wr.setCell ⟨b, 1, none⟩ left).heap[k]? = wr.heap[k]? := fun k hk => Below.heap_setCell _ _ _ _ (fun e => hk e)
  exact ⟨⟨q1, q2⟩, h.sl.keep fun k hl => hk k fun e => by have := h.ol k hl; omega, h.sd.keep fun k hg => hk k fun e => hob (e ▸ hg), h.tu.tur (setCells_turned b [_] 1 wr) fun k hk => by cases hk; exact .inr (.inl rfl), h.ol, h.od, h.ld⟩
theorem Ea.start {w : World} {b : Nat} {m lv ov gv dv : Value} {dead : List Nid} (hst : StB w b m lv ov gv dv) (hd : Sl w 39 3 dv dead.length (cellsR nidL dead)) : Ea w w b m lv ov gv dv (.slice none 0 0) [] dv dead :=
  ⟨hst, ⟨rfl, .inl ⟨rfl, rfl⟩⟩, hd, Tu2.refl _ _ _, (fun g hg => by cases hg), .inl rfl, (fun g hg => by cases hg)⟩

set_option maxRecDepth 100000 in
set_option maxHeartbeats 4000000 in
theorem each_any (F : Nat) (caps : Array Value) (eg : ∀ args w, (callFunc F args).run Try.prog w = .ok (.enter F args) w) (f : Bun → Bun × Bool) (b : Nat) (m lv ov gv dv : Value) (l : List Bun) (dead : List Nid) (w : World)
    (hst : StB w b m lv ov gv dv) (hl : Sl w 41 11 lv l.length (bunCells l)) (hlb : lv.ownBlock ≠ some b) (hd : Sl w 39 3 dv dead.length (cellsR nidL dead)) (hdb : dv.ownBlock ≠ some b) (hld : ∀ g, lv.ownBlock = some g → dv.ownBlock ≠ some g)
    (hn : l.length ≤ 1000) (hdn : dead.length ≤ 1000000)
    (hc : ∀ W', Tu2 w W' b dv.ownBlock → ∀ x ∈ l, Calls Try.prog F (#[.agg #[.int .i64 (x).s, .int .i64 (x).i, .int .i64 (x).g, .int .i64 (x).m, .int .i64 (x).x, .int .i64 (x).y, .int .i64 (x).vx, .int .i64 (x).vy, .int .i64 (x).hp, .int .i64 (x).pw, .int .i64 (x).lf]] ++ caps) W' fun e w' => e = .returned (.tuple #[.agg #[.int .i64 ((f x).1).s, .int .i64 ((f x).1).i, .int .i64 ((f x).1).g, .int .i64 ((f x).1).m, .int .i64 ((f x).1).x, .int .i64 ((f x).1).y, .int .i64 ((f x).1).vx, .int .i64 ((f x).1).vy, .int .i64 ((f x).1).hp, .int .i64 ((f x).1).pw, .int .i64 ((f x).1).lf], .bool (f x).2]) ∧ Below W'.heap.size W' w') :
    Calls Try.prog 85 #[.pointer (some ⟨b, 0, none⟩), .func (.func F) #[] caps] w fun e w' => e = .returned (.tuple #[]) ∧ ∃ lv' dv', Ea w w' b m lv' ov gv dv lv' (eachL f l) dv' (dead ++ eachD f l) := by
  obtain ⟨i0, hi0, hz0, hz1, hz2⟩ := info_parts info_bunJ
  obtain ⟨j0, hj0, hy0, hy1, hy2⟩ := info_partsG info_nid
  have hb := hst.lt
  have hbw0 := hb
  have hE := Ea.start hst hd
  have HL := Lib.hid hl
  have HC := Lib.hid hc
  have HLB := Lib.hid hlb; have HLD := Lib.hid hld; have HDB := Lib.hid hdb
  have HE0 := Lib.hid hE
  have x1 := hst.c 1
  simp at x1
  obtain ⟨pl, cl, rfl⟩ := sl_frm hl
  obtain ⟨u0, u1, u2⟩ := ltz hb
  clear hl hc hlb hld hdb hd hst hE
  go_enter Try.func85, Try.ntmps85
  go_wp2_with fail
  go_loopg [4, 14] l.length (fun kx sl sx wr => ∃ (t : Nat) (dv' : Value), sx = .int .i64 t ∧ t ≤ l.length ∧ l.length - t ≤ kx ∧ Hid (Ea w wr b m (.slice pl l.length cl) ov gv dv sl (eachL f (l.take t)) dv' (dead ++ eachD f (l.take t))))
  case atStart => exact ⟨0, dv, by go_num, by omega, by omega, Lib.hid (by simpa [eachL, eachD] using HE0.out)⟩
  case round =>
    clear HE0 x1 u0 u1 u2
    obtain ⟨t, dv', rfl, ht, hkx, HE⟩ := hrel
    obtain ⟨wa, rfl⟩ : ∃ wa : World, wa = wr := ⟨_, rfl⟩
    have hba : b < wa.heap.size := HE.out.st.lt
    obtain ⟨u0, u1, u2⟩ := ltz hba
    have hll := eachL_le f l t
    have hdl := eachD_le f l t
    obtain ⟨po, co, hpo⟩ := sl_frm HE.out.sl
    subst hpo
    by_cases hlt : t < l.length
    · have t1 : (t : Int) < (l.length : Int) := by omega
      obtain ⟨x0, hx0⟩ : ∃ x0, l[t]? = some x0 := ⟨_, List.getElem?_eq_getElem hlt⟩
      have hlw : Sl wa 41 11 (.slice pl l.length cl) l.length (bunCells l) := HL.out.keep fun g hg => HE.out.tu.block g (sl_lt HL.out hg) (fun e => HLB.out (e ▸ hg)) (fun e => HLD.out g hg e.symm)
      obtain ⟨gb, ob, cb, hv, hgb, hcb⟩ := (BIn.of_sl hlw).cells hx0
      simp only [Value.slice.injEq, true_and] at hv
      obtain ⟨rfl, rfl⟩ := hv
      have c0 := hcb 0 _ rfl
      have c1 := hcb 1 _ rfl
      have c2 := hcb 2 _ rfl
      have c3 := hcb 3 _ rfl
      have c4 := hcb 4 _ rfl
      have c5 := hcb 5 _ rfl
      have c6 := hcb 6 _ rfl
      have c7 := hcb 7 _ rfl
      have c8 := hcb 8 _ rfl
      have c9 := hcb 9 _ rfl
      have c10 := hcb 10 _ rfl
      simp only [Nat.add_zero] at c0
      have h1 := eachL_step f hx0
      have h2 := eachD_step f hx0
      have HCX := Lib.hid (fun W' (hW : Tu2 w W' b dv.ownBlock) => HC.out W' hW x0 (List.mem_of_getElem? hx0))
      obtain ⟨e0, e1', e2'⟩ := ltz hgb
      clear hcb hx0 hlw
      have HF := Lib.hid (rfl : f x0 = f x0)
      generalize hfx : f x0 = r at HCX h1 h2
      have HF := Lib.hid hfx
      clear hfx
      have HS1 := Lib.hid h1; have HS2 := Lib.hid h2
      clear h1 h2
      generalize eachL f (l.take t) = la at *
      generalize eachD f (l.take t) = da at *
      obtain ⟨⟨s', i', g', m', x', y', vx', vy', hp', pw', lf'⟩, ok⟩ := r
      obtain ⟨s, i, g, m, x, y, vx, vy, hp, pw, lf⟩ := x0
      simp only at HCX HS1 HS2
      cases ok with
      | true =>
        simp only [if_true, List.append_nil] at HS1 HS2
        go_wp2_with (first | (go_at_fn F; refine (HCX.out _ (HE.out.tu.bel (by repeat' (first | (with_reducible exact Below.refl _ _) | (with_reducible assumption) | (with_reducible refine below_drewN ?_ _) | (with_reducible refine below_more _ _ _ ?_ ?_) | (with_reducible refine Below.alloc ?_ ?_ _) | (with_reducible refine Below.drew ?_) | (with_reducible refine Below.setCell ?_ ?_ _) | go_size)))).mono ?_; rintro e w' ⟨rfl, hb'⟩; obtain ⟨d1, os1, rfl⟩ := more_of hb'; clear hb') | (at_builtin; refine wpList_append_sl _ (by rfl) _ _ 24 (by rfl) 41 i0 _ 11 88 Try.underlying24 hi0 hz0 hz1 hz2 rfl (by omega) _ la.length (bunCells la) (by rfl) (HE.out.bel (by repeat' (first | (with_reducible exact Below.refl _ _) | (with_reducible assumption) | (with_reducible refine below_drewN ?_ _) | (with_reducible refine below_more _ _ _ ?_ ?_) | (with_reducible refine Below.alloc ?_ ?_ _) | (with_reducible refine Below.drew ?_) | (with_reducible refine Below.setCell ?_ ?_ _) | go_size))).sl ⟨_, 0, none⟩ 1 1 (bunL ⟨s', i', g', m', x', y', vx', vy', hp', pw', lf'⟩) (by rfl) (by rfl) (new_cellsN _ _ _ _ (by simp)) (bunL_one _) (by omega) (by unfold maxLen; omega) (by omega) ?_; intro v' w4 hs4 ht4 ho4; have hE4 := (HE.out.bel (by repeat' (first | (with_reducible exact Below.refl _ _) | (with_reducible assumption) | (with_reducible refine below_drewN ?_ _) | (with_reducible refine below_more _ _ _ ?_ ?_) | (with_reducible refine Below.alloc ?_ ?_ _) | (with_reducible refine Below.drew ?_) | (with_reducible refine Below.setCell ?_ ?_ _) | go_size))).app hbw0 hs4 ht4 ho4; clear hs4 ht4 ho4))
        go_roundg (l.length - (t + 1))
        case measure => omega
        case rel => exact ⟨t + 1, _, by go_num, by omega, by omega, Lib.hid (by rw [HS1.out, HS2.out]; exact hE4)⟩
      | false =>
        simp only [Bool.false_eq_true, if_false, List.append_nil] at HS1 HS2
        go_upto_region 7 with (go_at_fn F; refine (HCX.out _ (HE.out.tu.bel (by repeat' (first | (with_reducible exact Below.refl _ _) | (with_reducible assumption) | (with_reducible refine below_drewN ?_ _) | (with_reducible refine below_more _ _ _ ?_ ?_) | (with_reducible refine Below.alloc ?_ ?_ _) | (with_reducible refine Below.drew ?_) | (with_reducible refine Below.setCell ?_ ?_ _) | go_size)))).mono ?_; rintro e w' ⟨rfl, hb'⟩; obtain ⟨d1, os1, rfl⟩ := more_of hb'; clear hb')
        generalize hw2 : World.alloc (more _ _ _) _ = w2
        have hb2 : Below wa.heap.size wa w2 := by rw [← hw2]; exact (by repeat' (first | (with_reducible exact Below.refl _ _) | (with_reducible assumption) | (with_reducible refine below_drewN ?_ _) | (with_reducible refine below_more _ _ _ ?_ ?_) | (with_reducible refine Below.alloc ?_ ?_ _) | (with_reducible refine Below.drew ?_) | (with_reducible refine Below.setCell ?_ ?_ _) | go_size))
        have k6 : ∀ u, w2.cell? ⟨wa.heap.size, u, none⟩ = (#[.int .i64 s, .int .i64 i, .int .i64 g, .int .i64 m, .int .i64 x, .int .i64 y, .int .i64 vx, .int .i64 vy, .int .i64 hp, .int .i64 pw, .int .i64 lf] : Array Value)[u]? := fun u => by
          rw [← hw2, Below.cell (B := wa.heap.size + 1) (w := wa.alloc (.cells #[.int .i64 s, .int .i64 i, .int .i64 g, .int .i64 m, .int .i64 x, .int .i64 y, .int .i64 vx, .int .i64 vy, .int .i64 hp, .int .i64 pw, .int .i64 lf] 41)) (by repeat' (first | (with_reducible exact Below.refl _ _) | (with_reducible assumption) | (with_reducible refine below_drewN ?_ _) | (with_reducible refine below_more _ _ _ ?_ ?_) | (with_reducible refine Below.alloc ?_ ?_ _) | (with_reducible refine Below.drew ?_) | (with_reducible refine Below.setCell ?_ ?_ _) | go_size)) (by simp)]; simp
        have s6 : wa.heap.size < w2.heap.size := by rw [← hw2]; simp; omega
        have hE2 := HE.out.bel hb2
        have hb2w : b < w2.heap.size := by omega
        have y6 := k6 0; have y7 := k6 1; have y8 := k6 2
        simp at y6 y7 y8
        have x4 := hE2.st.c 4
        simp at x4
        have f4 := hE2.st.f 4
        have hob := hE2.odb hbw0 HDB.out
        have hon : dv'.ownBlock ≠ some wa.heap.size := fun e => by have := sl_lt HE.out.sd e; omega
        generalize wa.heap.size = n6 at *
        have HE2 := Lib.hid hE2
        clear hw2 hb2 k6 hE2 c0 c1 c2 c3 c4 c5 c6 c7 c8 c9 c10 e0 e1' e2' u0 u1 u2
        obtain ⟨pd, cd, rfl⟩ := sl_frm HE2.out.sd
        have hdl2 : (dead ++ da).length ≤ 1002000 := by simp; omega
        have HS3 := Lib.hid (show dead ++ eachD f (l.take (t + 1)) = (dead ++ da) ++ [idOf ⟨s, i, g, m, x, y, vx, vy, hp, pw, lf⟩] by rw [HS2.out, List.append_assoc])
        clear HS2
        generalize dead ++ da = dd at *
        refine wp_region_x (S := Two w2 b n6) 13 (by kernel_rfl) (Two.drew (Two.refl _ _ _)) (fun hHeld => ?_)
        refine anyX_take (n := 13) (i := 0) (v := ?_) rfl (by kernel_rfl) (fun _ _ _ h => h) (Or.inl ⟨by rfl, ?_⟩) (by assumption) ?_
        rotate_left 1
        · (intro w hSw; have hSc := hSw.cb; have hSn := hSw.cn; go_simp; (try with_reducible rfl))
        simp [Act.put]
        refine anyX_take (n := 13) (i := 1) (v := ?_) rfl (by kernel_rfl) (fun _ _ _ h => h) (Or.inl ⟨by rfl, ?_⟩) (by assumption) ?_
        rotate_left 1
        · (intro w hSw; have hSc := hSw.cb; have hSn := hSw.cn; go_simp; (try with_reducible rfl))
        simp [Act.put]
        refine anyX_take (n := 13) (i := 2) (v := ?_) rfl (by kernel_rfl) (fun _ _ _ h => h) (Or.inl ⟨by rfl, ?_⟩) (by assumption) ?_
        rotate_left 1
        · (intro w hSw; have hSc := hSw.cb; have hSn := hSw.cn; go_simp; (try with_reducible rfl))
        simp [Act.put]
        refine anyX_take (n := 13) (i := 3) (v := ?_) rfl (by kernel_rfl) (fun _ _ _ h => h) (Or.inl ⟨by rfl, ?_⟩) (by assumption) ?_
        rotate_left 1
        · (intro w hSw; have hSc := hSw.cb; have hSn := hSw.cn; go_simp; (try with_reducible rfl))
        simp [Act.put]
        refine anyX_take (n := 13) (i := 4) (v := ?_) rfl (by kernel_rfl) (fun _ _ _ h => h) (Or.inl ⟨by rfl, ?_⟩) (by assumption) ?_
        rotate_left 1
        · (intro w hSw; have hSc := hSw.cb; have hSn := hSw.cn; go_simp; (try with_reducible rfl))
        simp [Act.put]
        refine anyX_take (n := 13) (i := 5) (v := ?_) rfl (by kernel_rfl) (fun _ _ _ h => h) (Or.inl ⟨by rfl, ?_⟩) (by assumption) ?_
        rotate_left 1
        · (intro w hSw; have hSc := hSw.cb; have hSn := hSw.cn; go_simp; (try with_reducible rfl))
        simp [Act.put]
        refine anyX_take (n := 13) (i := 6) (v := ?_) rfl (by kernel_rfl) (fun _ _ _ h => h) (Or.inl ⟨by rfl, ?_⟩) (by assumption) ?_
        rotate_left 1
        · (intro w hSw; have hSc := hSw.cb; have hSn := hSw.cn; go_simp; (try with_reducible rfl))
        simp [Act.put]
        refine anyX_take (n := 13) (i := 7) (v := ?_) rfl (by kernel_rfl) (fun _ _ _ h => h) (Or.inl ⟨by rfl, ?_⟩) (by assumption) ?_
        rotate_left 1
        · (intro w hSw; have hSc := hSw.cb; have hSn := hSw.cn; go_simp; (try with_reducible rfl))
        simp [Act.put]
        refine anyX_ready (rs := [8]) (by kernel_rfl) (by simp) (ReadyX.cons rfl (fun K hK => ?_) ReadyX.nil)
        go_simp
        refine hK.out _ _ (fun hlt => ?_) (fun hHeld => ?_)
        · with_reducible (repeat (first | assumption | exact Two.refl _ _ _ | refine Two.alloc (by assumption) (by assumption) _ ?_ | refine Two.drew ?_))
        clear hK
        replace hHeld := hHeld (by omega); try simp [Act.put]
        refine anyX_ready (rs := [9]) (by kernel_rfl) (by simp) (ReadyX.cons rfl (fun K hK => ?_) ReadyX.nil)
        (refine step_append_sl _ (by rfl) (.tmp 34) (.tmp 37) 42 (by rfl) 39 j0 _ 3 24 Try.underlying42 hj0 hy0 hy1 hy2 rfl (by omega) _ dd.length (cellsR nidL dd) (by rfl) (HE2.out.bel (by repeat' (first | (with_reducible exact Below.refl _ _) | (with_reducible assumption) | (with_reducible refine below_drewN ?_ _) | (with_reducible refine below_more _ _ _ ?_ ?_) | (with_reducible refine Below.alloc ?_ ?_ _) | (with_reducible refine Below.drew ?_) | (with_reducible refine Below.setCell ?_ ?_ _) | go_size))).sd ⟨_, 0, none⟩ 1 1 (nidL ⟨s, i, g⟩) (by rfl) (by rfl) (new_cellsN _ _ _ _ (by simp)) (nidL_one _) (by omega) (by unfold maxLen; omega) (by omega) ?_; intro g4 off4 cap4 w4 hs4 ht4 ho4)
        refine hK.out _ _ (fun hlt => ?_) (fun hHeld => ?_)
        · exact Two.tur hb2w s6 (fun e => hob e.symm) (fun e => hon e.symm) (by with_reducible (repeat (first | assumption | exact Two.refl _ _ _ | refine Two.alloc (by assumption) (by assumption) _ ?_ | refine Two.drew ?_))) ht4
        clear hK
        replace hHeld := hHeld (by omega); try simp [Act.put]
        refine anyX_take (n := 13) (i := 10) (v := ?_) rfl (by kernel_rfl) (fun _ _ _ h => h) (Or.inl ⟨by rfl, ?_⟩) (by assumption) ?_
        rotate_left 1
        · (intro w hSw; have hSc := hSw.cb; have hSn := hSw.cn; go_simp; (try with_reducible rfl))
        simp [Act.put]
        refine anyX_take (n := 13) (i := 11) (v := ?_) rfl (by kernel_rfl) (fun _ _ _ h => h) (Or.inl ⟨by rfl, ?_⟩) (by assumption) ?_
        rotate_left 1
        · (intro w hSw; have hSc := hSw.cb; have hSn := hSw.cn; go_simp; (try with_reducible rfl))
        simp [Act.put]
        refine anyX_take (n := 13) (i := 12) (v := ?_) rfl (by kernel_rfl) (fun _ _ _ h => h) (Or.inl ⟨by rfl, ?_⟩) (by assumption) ?_
        rotate_left 1
        · (intro w hSw; have hSc := hSw.cb; have hSn := hSw.cn; go_simp; (try with_reducible rfl))
        simp [Act.put]
        have hq4 := (hHeld.cb 4).trans x4
        have hf4 := (hHeld.fb 4).trans f4
        refine anyX_ready (rs := [13]) (by kernel_rfl) (by simp) (ReadyX.cons rfl (fun K hK => ?_) ReadyX.nil)
        go_simp
        refine hK.out _ _ (fun hlt => ?_) (fun hHeld => ?_)
        · exact absurd hlt (by omega)
        clear hK
        clear hHeld; try simp [Act.put]
        refine anyX_done (by kernel_rfl) ?_ _
        go_wp2_with fail
        go_roundg (l.length - (t + 1))
        case measure => omega
        case rel => exact ⟨t + 1, _, by go_num, by omega, by omega, Lib.hid (by rw [HS1.out, HS3.out]; exact (HE2.out.bel (by repeat' (first | (with_reducible exact Below.refl _ _) | (with_reducible assumption) | (with_reducible refine below_drewN ?_ _) | (with_reducible refine below_more _ _ _ ?_ ?_) | (with_reducible refine Below.alloc ?_ ?_ _) | (with_reducible refine Below.drew ?_) | (with_reducible refine Below.setCell ?_ ?_ _) | go_size))).die hbw0 HDB.out hs4 ht4 ho4)⟩
    · have t1 : ¬ (t : Int) < (l.length : Int) := by omega
      obtain rfl : t = l.length := by omega
      rw [List.take_length] at HE
      have f1 := HE.out.st.f 1
      have x1 := HE.out.st.c 1
      simp at x1
      go_wp2_with fail
      go_end0
      exact ⟨rfl, _, _, HE.out.fin hbw0 HDB.out⟩
end Go.Proofs.Ytcnclcfipabimaa
namespace Go.Proofs.Ytcnclcfipabimaa
open Go.RowKit Go.Shelf Go.Sort Go.Lib

def renD : Ren := ⟨fun n => if n = 6 then 92 else if n = 14 then 127 else if n = 15 then 128 else if n = 20 then 140 else if n = 21 then 141 else if n = 22 then 142 else if n = 23 then 143 else if n = 24 then 144 else if n = 25 then 145 else if n = 26 then 146 else if n = 27 then 147 else if n = 28 then 148 else if n = 29 then 149 else if n = 46 then 154 else if n = 47 then 155 else if n = 48 then 156 else if n = 49 then 157 else if n = 50 then 158 else if n = 57 then 161 else 0, fun n => if n = 3 then 3 else if n = 4 then 4 else if n = 5 then 5 else if n = 9 then 9 else if n = 22 then 42 else if n = 24 then 39 else if n = 25 then 141 else if n = 39 then 174 else if n = 45 then 181 else if n = 46 then 182 else if n = 50 then 164 else if n = 53 then 188 else if n = 55 then 190 else if n = 66 then 193 else if n = 70 then 197 else if n = 76 then 200 else if n = 77 then 114 else 0, fun _ => 0⟩
theorem laysD : SlLaysF0.n6 Try.prog renD := {
  mixed := by kernel_rfl
  f6 := ⟨Try.f92.name, by decide, by kernel_rfl⟩
  f14 := ⟨Try.f127.name, by decide, by kernel_rfl⟩
  f15 := by kernel_rfl
  f20 := ⟨Try.f140.name, by decide, by kernel_rfl⟩
  f21 := ⟨Try.f141.name, by decide, by kernel_rfl⟩
  f22 := ⟨Try.f142.name, by decide, by kernel_rfl⟩
  f23 := ⟨Try.f143.name, by decide, by kernel_rfl⟩
  f24 := ⟨Try.f144.name, by decide, by kernel_rfl⟩
  f25 := ⟨Try.f145.name, by decide, by kernel_rfl⟩
  f26 := ⟨Try.f146.name, by decide, by kernel_rfl⟩
  f27 := ⟨Try.f147.name, by decide, by kernel_rfl⟩
  f28 := by kernel_rfl
  f29 := by kernel_rfl
  f46 := ⟨Try.f154.name, by decide, by kernel_rfl⟩
  f47 := by kernel_rfl
  f48 := by kernel_rfl
  f49 := ⟨Try.f157.name, by decide, by kernel_rfl⟩
  f50 := ⟨Try.f158.name, by decide, by kernel_rfl⟩
  f57 := ⟨Try.f161.name, by decide, by kernel_rfl⟩
  t0 := by kernel_rfl
  a0 := fun _ => by kernel_rfl
  z0 := fun _ => by kernel_rfl
  v0 := fun _ => by kernel_rfl
  t3 := by kernel_rfl
  a3 := fun _ => by kernel_rfl
  z3 := fun _ => by kernel_rfl
  v3 := fun _ => by kernel_rfl
  t4 := by kernel_rfl
  a4 := fun _ => by kernel_rfl
  z4 := fun _ => by kernel_rfl
  v4 := fun _ => by kernel_rfl
  t5 := by kernel_rfl
  a5 := fun _ => by kernel_rfl
  z5 := fun _ => by kernel_rfl
  v5 := fun _ => by kernel_rfl
  t9 := by kernel_rfl
  a9 := fun _ => by kernel_rfl
  z9 := fun _ => by kernel_rfl
  v9 := fun _ => by kernel_rfl
  t22 := by kernel_rfl
  a22 := fun _ => by kernel_rfl
  z22 := fun _ => by kernel_rfl
  v22 := fun _ => by kernel_rfl
  t25 := by kernel_rfl
  a25 := fun _ => by kernel_rfl
  z25 := fun _ => by kernel_rfl
  v25 := fun _ => by kernel_rfl
  t39 := by kernel_rfl
  a39 := fun _ => by kernel_rfl
  z39 := fun _ => by kernel_rfl
  v39 := fun _ => by kernel_rfl
  t45 := by kernel_rfl
  a45 := fun _ => by kernel_rfl
  z45 := fun _ => by kernel_rfl
  v45 := fun _ => by kernel_rfl
  t46 := by kernel_rfl
  a46 := fun _ => by kernel_rfl
  z46 := fun _ => by kernel_rfl
  v46 := fun _ => by kernel_rfl
  t50 := by kernel_rfl
  a50 := fun _ => by kernel_rfl
  z50 := fun _ => by kernel_rfl
  v50 := fun _ => by kernel_rfl
  t53 := by kernel_rfl
  a53 := fun _ => by kernel_rfl
  z53 := fun _ => by kernel_rfl
  v53 := fun _ => by kernel_rfl
  t55 := by kernel_rfl
  a55 := fun _ => by kernel_rfl
  z55 := fun _ => by kernel_rfl
  v55 := fun _ => by kernel_rfl
  t66 := by kernel_rfl
  a66 := fun _ => by kernel_rfl
  z66 := fun _ => by kernel_rfl
  v66 := fun _ => by kernel_rfl
  t70 := by kernel_rfl
  a70 := fun _ => by kernel_rfl
  z70 := fun _ => by kernel_rfl
  v70 := fun _ => by kernel_rfl
  t76 := by kernel_rfl
  a76 := fun _ => by kernel_rfl
  z76 := fun _ => by kernel_rfl
  v76 := fun _ => by kernel_rfl
  t77 := by kernel_rfl
  a77 := fun _ => by kernel_rfl
  z77 := fun _ => by kernel_rfl
  v77 := fun _ => by kernel_rfl }
/-- The order of names. -/
def cmpN (a b : Nid) : Int := cmpId a.s a.i a.g b.s b.i b.g
def sortN (l : List Nid) : List Nid := l.mergeSort fun x y => !(ltOf cmpN) y x
theorem cmpN_ok : CmpOk cmpN where
  neg x y := by have := cmpId_neg x.s x.i x.g y.s y.i y.g; unfold cmpN; omega
  zero x y := by have := cmpId_neg x.s x.i x.g y.s y.i y.g; unfold cmpN; omega
  trans x y z h1 h2 := by have := cmpId_trans x.s x.i x.g y.s y.i y.g z.s z.i z.g h1 h2; unfold cmpN at *; omega
  transl x y z h1 h2 := by have := cmpId_trans x.s x.i x.g y.s y.i y.g z.s z.i z.g (by unfold cmpN at h1; omega) h2; unfold cmpN at *; omega
  transr x y z h1 h2 := by have := cmpId_trans x.s x.i x.g y.s y.i y.g z.s z.i z.g h1 (by unfold cmpN at h2; omega); unfold cmpN at *; omega
theorem ltN_iff (x y : Nid) : ltOf cmpN x y = true ↔ cmpN x y < 0 := by unfold ltOf; simp
theorem ltN_not (x y : Nid) : ltOf cmpN x y = false ↔ 0 ≤ cmpN x y := by unfold ltOf; simp
theorem cmpN_swo : SWO (ltOf cmpN) where
  irrefl x := by rw [ltN_not]; have := cmpN_ok.self x; omega
  trans x y z h1 h2 := by rw [ltN_iff] at *; exact cmpN_ok.transl x y z h1 (by omega)
  ntrans x y z h1 h2 := by
    rw [ltN_not] at *
    have a1 := cmpN_ok.neg y x; have a2 := cmpN_ok.neg z y; have a3 := cmpN_ok.neg z x
    have b1 := cmpN_ok.zero y x; have b2 := cmpN_ok.zero z y
    have a4 := cmpN_ok.neg x z
    have := cmpN_ok.trans z y x (by have := cmpN_ok.neg y z; omega) (by have := cmpN_ok.neg x y; omega)
    omega
theorem cmpN_eq {x y : Nid} (h : cmpN x y = 0) : x = y := by
  obtain ⟨s, i, g⟩ := x
  obtain ⟨s', i', g'⟩ := y
  obtain ⟨rfl, rfl, rfl⟩ := (cmpId_zero _ _ _ _ _ _).1 h
  rfl
theorem eg_cmp : ∀ args w, (callFunc 93 args).run Try.prog w = .ok (.enter 93 args) w := enters_of Try.func93 (by kernel_rfl) rfl
theorem cmpLaysN (blk off size : Nat) (w : World) : CmpLays Try.prog 93 #[] nidL 3 cmpN blk off size w := fun m os dk _ x y => by
  have h := compare_grow x.s x.i x.g y.s y.i y.g (sortWorldK nidL 3 w blk off m dk os)
  exact h
theorem holds_of_slN {w : World} {l : List Nid} {blk off cap : Nat} (h : Sl w 39 3 (.slice (some ⟨blk, off, none⟩) l.length cap) l.length (cellsR nidL l)) : blk < w.heap.size ∧ HoldsK nidL 3 w blk off l.toArray := by
  obtain ⟨_, ⟨h0, _⟩ | ⟨g, off', cap', cur, hv, hb, hn, hc, hsz, hr⟩⟩ := h
  · cases h0
  · simp only [Value.slice.injEq, Option.some.injEq, Addr.mk.injEq, and_true, true_and] at hv
    obtain ⟨⟨rfl, rfl⟩, rfl⟩ := hv
    refine ⟨(Array.getElem?_eq_some_iff.1 hb).1, fun t ht => ?_⟩
    rw [size_flatK, List.size_toArray] at ht
    rw [get_flatK _ _ _ _ (by rw [List.size_toArray]; exact ht)]
    have hk : t / 3 < l.length := by omega
    rw [getElem!_pos l.toArray _ (by simpa using hk), List.getElem_toArray]
    have e1 := cellsR_get nidL 3 nidL_len l (t / 3) (t % 3) l[t / 3] (List.getElem?_eq_getElem hk) (Nat.mod_lt _ (by omega))
    rw [show t / 3 * 3 + t % 3 = t by omega] at e1
    have e2 : (nidL l[t / 3])[t % 3]? = some ((nidL l[t / 3])[t % 3]!) := by
      rw [List.getElem!_eq_getElem?_getD]
      have : t % 3 < (nidL l[t / 3]).length := by rw [nidL_len]; exact Nat.mod_lt _ (by omega)
      rw [List.getElem?_eq_getElem this]; rfl
    have h3 := hr t _ (e1.trans e2)
    refine ⟨?_, by simp [World.frozen?, hb]⟩
    show w.cell? ⟨blk, off + t, none⟩ = some ((nidL l[t / 3])[t % 3]!)
    simp [World.cell?, hb, h3]
theorem sl_of_sortedN {w : World} {l l' : List Nid} {blk off cap n : Nat} {os : Array Obj} (h : Sl w 39 3 (.slice (some ⟨blk, off, none⟩) l.length cap) l.length (cellsR nidL l)) (hd : l'.length = l.length) :
    Sl (sortWorldK nidL 3 w blk off n l'.toArray os) 39 3 (.slice (some ⟨blk, off, none⟩) l.length cap) l.length (cellsR nidL l') ∧ Turned w (sortWorldK nidL 3 w blk off n l'.toArray os) (some blk) := by
  obtain ⟨_, ⟨h0, _⟩ | ⟨g, off', cap', cur, hv, hb, hn, hc, hsz, hr⟩⟩ := h
  · cases h0
  · simp only [Value.slice.injEq, Option.some.injEq, Addr.mk.injEq, and_true, true_and] at hv
    obtain ⟨⟨rfl, rfl⟩, rfl⟩ := hv
    have hlt := (Array.getElem?_eq_some_iff.1 hb).1
    have hheap : (sortWorldK nidL 3 w blk off n l'.toArray os).heap[blk]? = some (.cells (putCells id off (flatK nidL 3 l'.toArray) cur) 39 (0, 0)) := by
      unfold sortWorldK putRowK
      simp only [grow]
      rw [Array.getElem?_append_left (by simp [putRow, mapBlock, Sort.ahead]; exact hlt)]
      simp [putRow, mapBlock, Sort.ahead, Array.getElem?_modify, hb, onCells]
    have hF : ∀ j, j < l.length * 3 → (flatK nidL 3 l'.toArray)[j]! = (nidL (l'.toArray[j / 3]!))[j % 3]! := fun j hj => get_flatK _ _ _ _ (by rw [List.size_toArray, hd]; exact hj)
    refine ⟨⟨by rw [cellsR_len nidL 3 nidL_len, hd], .inr ⟨blk, off, cap, _, rfl, hheap, hn, hc, by simp [putCells]; omega, fun j u hj => ?_⟩⟩, ?_⟩
    · have hj' : j < l.length * 3 := by
        have := (List.getElem?_eq_some_iff.1 hj).1; rw [cellsR_len nidL 3 nidL_len, hd] at this; exact this
      have hk : j / 3 < l'.length := by omega
      have e1 := cellsR_get nidL 3 nidL_len l' (j / 3) (j % 3) l'[j / 3] (List.getElem?_eq_getElem hk) (Nat.mod_lt _ (by omega))
      rw [show j / 3 * 3 + j % 3 = j by omega] at e1
      rw [e1] at hj
      have hcj : (cur[off + j]?).isSome = true := by
        have : l.length * 3 ≤ cap * 3 := Nat.mul_le_mul_right _ hn
        rw [Array.getElem?_eq_getElem (by omega)]; rfl
      obtain ⟨y, hy⟩ := Option.isSome_iff_exists.1 hcj
      simp only [putCells, Array.getElem?_mapIdx, hy, Option.map_some]
      rw [if_pos ⟨by omega, by rw [size_flatK, List.size_toArray, hd]; omega⟩, show off + j - off = j by omega]
      show some ((flatK nidL 3 l'.toArray)[j]!) = some u
      rw [hF j hj', getElem!_pos l'.toArray _ (by simpa using hk), List.getElem_toArray, List.getElem!_eq_getElem?_getD, hj]; rfl
    · unfold sortWorldK putRowK
      refine ⟨rfl, rfl, rfl, ?_, fun k hk hne => ?_⟩
      · simp [grow, Sort.ahead]
      · have hgk : blk ≠ k := fun e => hne (by rw [e])
        show ((putRow id (Sort.ahead w n) blk off (flatK nidL 3 l'.toArray)).heap ++ os)[k]? = _
        rw [Array.getElem?_append_left (by simpa [Sort.ahead] using hk)]
        simp [putRow, mapBlock, Array.getElem?_modify, Sort.ahead, hgk]
/-- Names are sorted where they lie. -/
theorem sortN_any (v : Value) (l : List Nid) (w : World) (h : Sl w 39 3 v l.length (cellsR nidL l)) (hl : l.length ≤ 1000000) :
    Calls Try.prog 92 #[v, .func (.func 93) #[] #[]] w fun e w' => e = .returned (.tuple #[]) ∧ Sl w' 39 3 v l.length (cellsR nidL (sortN l)) ∧ Turned w w' v.ownBlock := by
  have h' := h
  obtain ⟨_, ⟨rfl, h0⟩ | ⟨blk, off, cap, cur, rfl, _⟩⟩ := h'
  · have e := List.eq_nil_of_length_eq_zero h0
    subst e
    refine (AnyF.slices_SortFunc_none (P := Try.prog) (ρ := renD) laysD none 0 _ w).mono ?_
    rintro e w' ⟨rfl, rfl⟩
    exact ⟨rfl, by simpa [sortN] using h, Turned.of_bel (Below.refl _ _)⟩
  · obtain ⟨hlt, hH⟩ := holds_of_slN h
    have hs := AnyQ.slices_SortFunc_total (P := Try.prog) (ρ := renD) laysD 3 (fun w => by kernel_rfl) (fun w => by kernel_rfl) nidL nidL_len nidL_one cmpN cmpN_swo 93 #[] blk off cap l.toArray w eg_cmp (cmpLaysN _ _ _ _) hH hlt (by simp; omega) (fun x y h1 h2 => by
      rw [ltN_not] at h1 h2
      have := cmpN_ok.neg x y
      have := cmpN_ok.neg y x
      exact cmpN_eq (by omega))
    rw [List.size_toArray] at hs
    refine hs.mono ?_
    rintro e w' ⟨rfl, n, os, rfl⟩
    obtain ⟨q1, q2⟩ := sl_of_sortedN (n := n) (os := os) (l' := sortN l) h (by simp [sortN])
    exact ⟨rfl, q1, q2⟩
end Go.Proofs.Ytcnclcfipabimaa
namespace Go.Proofs.Ytcnclcfipabimaa
open Go.RowKit Go.Sort
def befN (a b : Nid) : Bool := ltOf cmpN a b
theorem befN_iff (a b : Nid) : befN a b = true ↔ cmpN a b < 0 := ltN_iff a b
theorem befN_trans {a b c : Nid} (h1 : befN a b = true) (h2 : befN b c = true) : befN a c = true := cmpN_swo.trans a b c h1 h2
theorem befN_irr (a : Nid) : befN a a = false := cmpN_swo.irrefl a
theorem befN_tot {a b : Nid} (h1 : befN a b = false) (h2 : befN b a = false) : a = b := by
  unfold befN at *
  rw [ltN_not] at h1 h2
  have a1 := cmpN_ok.neg a b
  have a2 := cmpN_ok.neg b a
  exact cmpN_eq (by omega)
/-- One step of 'with'. -/
def witS (n : Nid) (st : List Nid × Bool) (x : Nid) : List Nid × Bool := if !st.2 && befN n x then (st.1 ++ [n] ++ [x], true) else (st.1 ++ [x], st.2)
def witG (n : Nid) (l : List Nid) : List Nid × Bool := l.foldl (witS n) ([], false)
def witE (n : Nid) (r : List Nid × Bool) : List Nid := if r.2 then r.1 else r.1 ++ [n]
/-- Names with one more. -/
def putN (l : List Nid) (n : Nid) : List Nid := if l.contains n then l else witE n (witG n l)
theorem witG_step (n : Nid) {l : List Nid} {t : Nat} {x : Nid} (h : l[t]? = some x) : witG n (l.take (t + 1)) = witS n (witG n (l.take t)) x := by
  have hlt := (List.getElem?_eq_some_iff.1 h).1
  unfold witG
  rw [List.take_succ_eq_append_getElem hlt, List.foldl_append, (List.getElem?_eq_some_iff.1 h).2]; rfl
theorem witS_len (n : Nid) (st : List Nid × Bool) (x : Nid) : (witS n st x).1.length ≤ st.1.length + 2 := by unfold witS; split <;> simp
/-- The names in front of n, of a list. -/
theorem witG_ok (n : Nid) : ∀ l : List Nid, l.Pairwise (fun a b => befN a b = true) → n ∉ l →
    ∃ a b, l = a ++ b ∧ (∀ x ∈ a, befN x n = true) ∧ (∀ x ∈ b, befN n x = true) ∧ witG n l = if b = [] then (a, false) else (a ++ [n] ++ b, true) := by
  have key : ∀ r : List Nid, r.reverse.Pairwise (fun a b => befN a b = true) → n ∉ r.reverse → ∃ a b, r.reverse = a ++ b ∧ (∀ x ∈ a, befN x n = true) ∧ (∀ x ∈ b, befN n x = true) ∧ witG n r.reverse = if b = [] then (a, false) else (a ++ [n] ++ b, true) := fun r => by
    induction r with
    | nil => intro _ _; exact ⟨[], [], rfl, by simp, by simp, rfl⟩
    | cons x r ih =>
      intro hp hn
      rw [List.reverse_cons] at hp hn ⊢
      obtain ⟨hp1, _, hp2⟩ := List.pairwise_append.1 hp
      obtain ⟨a, b, e, ha, hb, hw⟩ := ih hp1 (fun h => hn (List.mem_append_left _ h))
      have hxn : x ≠ n := fun h => hn (by simp [h])
      have hst : witG n (r.reverse ++ [x]) = witS n (witG n r.reverse) x := by unfold witG; rw [List.foldl_append]; rfl
      rw [hst, hw]
      by_cases hbe : b = []
      · subst hbe
        rw [if_pos rfl]
        unfold witS
        cases hx : befN n x with
        | true => exact ⟨a, [x], by rw [e]; simp, ha, by simpa using hx, by simp⟩
        | false =>
          have hxb : befN x n = true := by
            cases h : befN x n with
            | true => rfl
            | false => exact absurd (befN_tot h hx) hxn
          refine ⟨a ++ [x], [], by rw [e]; simp, fun y hy => ?_, by simp, by simp⟩
          rcases List.mem_append.1 hy with hy | hy
          · exact ha y hy
          · obtain rfl := List.mem_singleton.1 hy; exact hxb
      · rw [if_neg hbe]
        refine ⟨a, b ++ [x], by rw [e]; simp, ha, fun y hy => ?_, ?_⟩
        · rcases List.mem_append.1 hy with hy | hy
          · exact hb y hy
          · obtain rfl := List.mem_singleton.1 hy
            obtain ⟨z, hz⟩ := List.exists_mem_of_ne_nil b hbe
            exact befN_trans (hb z hz) (hp2 z (by rw [e]; exact List.mem_append_right _ hz) y (by simp))
        · rw [if_neg (by simp)]
          unfold witS
          simp
  intro l
  have := key l.reverse
  rw [List.reverse_reverse] at this
  exact this
theorem putN_ok {l : List Nid} (n : Nid) (hp : l.Pairwise fun a b => befN a b = true) : (putN l n).Pairwise (fun a b => befN a b = true) ∧ ∀ x, x ∈ putN l n ↔ x ∈ l ∨ x = n := by
  unfold putN
  by_cases hm : n ∈ l
  · rw [if_pos (by simpa using hm)]
    exact ⟨hp, fun x => ⟨fun h => .inl h, fun h => h.elim id (fun e => e ▸ hm)⟩⟩
  · rw [if_neg (by simpa using hm)]
    obtain ⟨a, b, rfl, ha, hb, hw⟩ := witG_ok n l hp hm
    have e : witE n (witG n (a ++ b)) = a ++ n :: b := by
      rw [hw]
      unfold witE
      by_cases hbe : b = []
      · subst hbe; simp
      · rw [if_neg hbe]; simp
    rw [e]
    obtain ⟨p1, p2, p3⟩ := List.pairwise_append.1 hp
    refine ⟨List.pairwise_append.2 ⟨p1, List.pairwise_cons.2 ⟨hb, p2⟩, fun x hx y hy => ?_⟩, fun x => by simp only [List.mem_append, List.mem_cons]; exact ⟨fun h => h.elim (fun h => .inl (.inl h)) (fun h => h.elim .inr (fun h => .inl (.inr h))), fun h => h.elim (fun h => h.elim .inl (fun h => .inr (.inr h))) (fun h => .inr (.inl h))⟩⟩
    rcases List.mem_cons.1 hy with rfl | hy
    · exact ha x hx
    · exact p3 x hx y hy
/-- Each but once, of names in a row. -/
def compS (o : List Nid) (x : Nid) : List Nid := if o.getLast? = some x then o else o ++ [x]
def compF (l : List Nid) : List Nid := l.foldl compS []
/-- Names, sorted, each once. -/
def setN (l : List Nid) : List Nid := compF (sortN l)
theorem sortN_perm (l : List Nid) : (sortN l).Perm l := List.mergeSort_perm _ _
theorem sortN_pair (l : List Nid) : (sortN l).Pairwise fun a b => befN b a = false := by
  have h := List.pairwise_mergeSort (le := fun x y => !(ltOf cmpN) y x) (fun a b c h1 h2 => by
    simp only [Bool.not_eq_true'] at *; exact cmpN_swo.ntrans c b a h2 h1) (fun a b => by
    cases h : ltOf cmpN b a with
    | false => rfl
    | true =>
      cases h2 : ltOf cmpN a b with
      | false => rfl
      | true => have := cmpN_swo.trans _ _ _ h h2; rw [cmpN_swo.irrefl] at this; cases this) l
  exact h.imp fun {a b} h => by unfold befN; simpa using h
theorem compF_ok : ∀ l : List Nid, l.Pairwise (fun a b => befN b a = false) → (compF l).Pairwise (fun a b => befN a b = true) ∧ (∀ x, x ∈ compF l ↔ x ∈ l) ∧ (compF l).getLast? = l.getLast? := by
  have key : ∀ r : List Nid, r.reverse.Pairwise (fun a b => befN b a = false) → (compF r.reverse).Pairwise (fun a b => befN a b = true) ∧ (∀ x, x ∈ compF r.reverse ↔ x ∈ r.reverse) ∧ (compF r.reverse).getLast? = r.reverse.getLast? := fun r => by
    induction r with
    | nil => intro _; exact ⟨List.Pairwise.nil, by simp [compF], rfl⟩
    | cons x r ih =>
      intro hp
      rw [List.reverse_cons] at hp ⊢
      obtain ⟨hp1, _, hp2⟩ := List.pairwise_append.1 hp
      obtain ⟨h1, h2, h3⟩ := ih hp1
      have hst : compF (r.reverse ++ [x]) = compS (compF r.reverse) x := by unfold compF; rw [List.foldl_append]; rfl
      rw [hst]
      generalize compF r.reverse = o at *
      unfold compS
      by_cases hl : o.getLast? = some x
      · rw [if_pos hl]
        refine ⟨h1, fun y => ?_, by simpa using hl⟩
        rw [h2 y]
        have hx : x ∈ r.reverse := (h2 x).1 (List.mem_of_getLast? hl)
        constructor
        · exact fun h => List.mem_append_left _ h
        · intro h
          rcases List.mem_append.1 h with h | h
          · exact h
          · obtain rfl := List.mem_singleton.1 h; exact hx
      · rw [if_neg hl]
        refine ⟨List.pairwise_append.2 ⟨h1, List.pairwise_singleton _ _, fun y hy z hz => ?_⟩, fun y => by simp [h2 y], by simp⟩
        obtain rfl := List.mem_singleton.1 hz
        have hne : y ≠ z → befN y z = true := fun hn => by
          have h5 := hp2 y ((h2 y).1 hy) z (by simp)
          cases h6 : befN y z with
          | true => rfl
          | false => exact absurd (befN_tot h6 h5) hn
        by_cases hyz : y = z
        · subst hyz
          exfalso
          obtain ⟨o', e⟩ : ∃ o' q, o = o' ++ [q] := by
            rcases List.eq_nil_or_concat o with rfl | ⟨o', q, e⟩
            · cases hy
            · exact ⟨o', q, by simpa using e⟩
          obtain ⟨q, e⟩ := e
          subst e
          rw [List.getLast?_concat] at hl
          have hq : q ≠ y := fun h => hl (by rw [h])
          have hyo : y ∈ o' := by
            rcases List.mem_append.1 hy with h | h
            · exact h
            · exact absurd (List.mem_singleton.1 h).symm hq
          have h7 := (List.pairwise_append.1 h1).2.2 y hyo q (by simp)
          have h8 := hp2 q ((h2 q).1 (by simp)) y (by simp)
          rw [h7] at h8; cases h8
        · exact hne hyz
  intro l
  have := key l.reverse
  rw [List.reverse_reverse] at this
  exact this
theorem setN_ok (l : List Nid) : (setN l).Pairwise (fun a b => befN a b = true) ∧ ∀ x, x ∈ setN l ↔ x ∈ l := by
  obtain ⟨h1, h2, _⟩ := compF_ok (sortN l) (sortN_pair l)
  exact ⟨h1, fun x => (h2 x).trans (sortN_perm l).mem_iff⟩
theorem strict_eq {l l' : List Nid} (h : l.Pairwise fun a b => befN a b = true) (h' : l'.Pairwise fun a b => befN a b = true) (hm : ∀ x, x ∈ l ↔ x ∈ l') : l = l' := by
  have hne : ∀ {a b : Nid}, befN a b = true → a ≠ b := fun h e => by subst e; rw [befN_irr] at h; cases h
  have n1 : l.Nodup := h.imp fun h => hne h
  have n2 : l'.Nodup := h'.imp fun h => hne h
  refine List.Perm.eq_of_pairwise (le := fun a b => befN a b = true) (fun a b _ _ h1 h2 => ?_) h h' ((List.perm_ext_iff_of_nodup n1 n2).2 hm)
  have := befN_trans h1 h2
  rw [befN_irr] at this; cases this
/-- One name more. -/
theorem putN_set (l : List Nid) (n : Nid) : putN (setN l) n = setN (l ++ [n]) := by
  obtain ⟨h1, h2⟩ := setN_ok l
  obtain ⟨h3, h4⟩ := putN_ok n h1
  obtain ⟨h5, h6⟩ := setN_ok (l ++ [n])
  exact strict_eq h3 h5 fun x => by rw [h4, h6, h2]; simp
theorem setN_nil : setN [] = [] := by simp [setN, sortN, compF]
theorem putN_all (l d : List Nid) : d.foldl putN (setN l) = setN (l ++ d) := by
  induction d generalizing l with
  | nil => simp
  | cons n d ih => rw [List.foldl_cons, putN_set, ih]; simp
theorem setN_len (l : List Nid) : (setN l).length ≤ l.length := by
  have key : ∀ (l : List Nid) (o : List Nid), (l.foldl compS o).length ≤ o.length + l.length := fun l => by
    induction l with
    | nil => intro o; simp
    | cons x l ih =>
      intro o
      rw [List.foldl_cons]
      refine Nat.le_trans (ih _) ?_
      unfold compS
      split <;> simp <;> omega
  have := key (sortN l) []
  unfold setN compF
  simpa [(sortN_perm l).length_eq] using this
end Go.Proofs.Ytcnclcfipabimaa
namespace Go.Proofs.Ytcnclcfipabimaa
open Go.RowKit
/-- One more entity, at a place. -/
def insF (l : List Bun) (i : Nat) (b : Bun) : List Bun := l.take i ++ b :: l.drop i
theorem findB_rng (s i g : Int) : ∀ (l : List Bun) (k : Nat), ∃ q : Nat, (findB s i g l k).1 = (q : Int) ∧ k ≤ q ∧ q ≤ k + l.length
  | [], k => ⟨k, rfl, by omega, by simp⟩
  | b :: l, k => by
    unfold findB
    split
    · exact ⟨k, rfl, by omega, by omega⟩
    · obtain ⟨q, h1, h2, h3⟩ := findB_rng s i g l (k + 1)
      exact ⟨q, h1, by omega, by simp only [List.length_cons]; omega⟩
/-- Does an entity begin? -/
def spawnB (c : Cfg) (z : Int) (l : List Bun) (m : Cm) : Bool :=
  !(findB m.b.s m.b.i m.b.g l 0).2 && decide (0 ≤ ofF c m.b.x m.b.y) && (decide (z < 0) || decide (ofF c m.b.x m.b.y = z))
/-- What a command leaves. -/
def cmdL (c : Cfg) (z : Int) (l : List Bun) (m : Cm) : List Bun :=
  if m.k = 1 then (if spawnB c z l m then insF l (findB m.b.s m.b.i m.b.g l 0).1.toNat m.b else l) else eachL (fun b => obeyF b m) l
/-- Who is no more by it. -/
def cmdN (l : List Bun) (m : Cm) : List Nid := if m.k = 1 then [] else eachD (fun b => obeyF b m) l
/-- What all commands leave. -/
def cmdsL (c : Cfg) (z : Int) : List Bun → List Cm → List Bun
  | l, [] => l
  | l, m :: ms => cmdsL c z (cmdL c z l m) ms
def cmdsN (c : Cfg) (z : Int) : List Bun → List Cm → List Nid
  | _, [] => []
  | l, m :: ms => cmdN l m ++ cmdsN c z (cmdL c z l m) ms
theorem cmdsL_app (c : Cfg) (z : Int) : ∀ (a b : List Cm) (l : List Bun), cmdsL c z l (a ++ b) = cmdsL c z (cmdsL c z l a) b
  | [], _, _ => rfl
  | _ :: a, b, _ => cmdsL_app c z a b _
theorem cmdsN_app (c : Cfg) (z : Int) : ∀ (a b : List Cm) (l : List Bun), cmdsN c z l (a ++ b) = cmdsN c z l a ++ cmdsN c z (cmdsL c z l a) b
  | [], _, _ => rfl
  | m :: a, b, l => by
    show cmdN l m ++ cmdsN c z (cmdL c z l m) (a ++ b) = _
    rw [cmdsN_app c z a b]
    exact (List.append_assoc _ _ _).symm
theorem cmdsL_step (c : Cfg) (z : Int) (l : List Bun) {ms : List Cm} {t : Nat} {m : Cm} (h : ms[t]? = some m) : cmdsL c z l (ms.take (t + 1)) = cmdL c z (cmdsL c z l (ms.take t)) m := by
  have hlt := (List.getElem?_eq_some_iff.1 h).1
  rw [List.take_succ_eq_append_getElem hlt, (List.getElem?_eq_some_iff.1 h).2, cmdsL_app]; rfl
theorem cmdsN_step (c : Cfg) (z : Int) (l : List Bun) {ms : List Cm} {t : Nat} {m : Cm} (h : ms[t]? = some m) : cmdsN c z l (ms.take (t + 1)) = cmdsN c z l (ms.take t) ++ cmdN (cmdsL c z l (ms.take t)) m := by
  have hlt := (List.getElem?_eq_some_iff.1 h).1
  rw [List.take_succ_eq_append_getElem hlt, (List.getElem?_eq_some_iff.1 h).2, cmdsN_app]
  simp [cmdsN]
theorem eachL_len (f : Bun → Bun × Bool) (l : List Bun) : (eachL f l).length ≤ l.length := by
  have := eachL_le f l l.length
  rwa [List.take_length] at this
theorem cmdL_len (c : Cfg) (z : Int) (l : List Bun) (m : Cm) : (cmdL c z l m).length ≤ l.length + 1 := by
  unfold cmdL
  split
  · split
    · unfold insF
      simp only [List.length_append, List.length_take, List.length_cons, List.length_drop]; omega
    · omega
  · have := eachL_len (fun b => obeyF b m) l; omega
theorem cmdsL_len (c : Cfg) (z : Int) : ∀ (ms : List Cm) (l : List Bun), (cmdsL c z l ms).length ≤ l.length + ms.length
  | [], l => by simp [cmdsL]
  | m :: ms, l => by
    have h1 := cmdsL_len c z ms (cmdL c z l m)
    have h2 := cmdL_len c z l m
    show (cmdsL c z (cmdL c z l m) ms).length ≤ _
    simp only [List.length_cons]; omega
theorem eachD_len (f : Bun → Bun × Bool) (l : List Bun) : (eachD f l).length ≤ l.length := by
  have := eachD_le f l l.length
  rwa [List.take_length] at this
/-- What a tick is: who is left at its end, ahead of time's own; who is no more by hits and commands. -/
def hurtL (r : Int) (own near : List Bun) : List Bun := eachL (hitF (hitsF r own near)) (stableF cmpBun own)
def hurtN (r : Int) (own near : List Bun) : List Nid := eachD (hitF (hitsF r own near)) (stableF cmpBun own)
def midL (c : Cfg) (z : Int) (own near : List Bun) (ms : List Cm) : List Bun := cmdsL c z (hurtL c.radius own near) ms
/-- All that are left. -/
def leftL (c : Cfg) (z : Int) (own near : List Bun) (ms : List Cm) : List Bun := eachL (passF c) (midL c z own near ms)
def inZ (c : Cfg) (z : Int) (b : Bun) : Bool := decide (z < 0) || decide (ofF c b.x b.y = z)
def ownL (c : Cfg) (z : Int) (own near : List Bun) (ms : List Cm) : List Bun := (leftL c z own near ms).filter (inZ c z)
def goneL (c : Cfg) (z : Int) (own near : List Bun) (ms : List Cm) : List Bun := (leftL c z own near ms).filter fun b => !inZ c z b
def deadN (c : Cfg) (z : Int) (own near : List Bun) (ms : List Cm) : List Nid := hurtN c.radius own near ++ cmdsN c z (hurtL c.radius own near) ms ++ eachD (passF c) (midL c z own near ms)
/-- Is there such a zone? -/
def zoneOk (c : Cfg) (z : Int) : Prop := -1 ≤ z ∧ z < c.cols * c.rows
/-- A slice that reads as these, in a block that there is. -/
def RIb {β : Type} (enc : β → List Value) (w : World) (v : Value) (l : List β) : Prop := RIn enc w v l ∧ (∀ g, v.ownBlock = some g → g < w.heap.size) ∧ (v = .slice none 0 0 ∨ ∃ blk off n cap, v = .slice (some ⟨blk, off, none⟩) n cap)
theorem RIb.of_sl {β : Type} {enc : β → List Value} {T : TypeId} {size : Nat} {w : World} {v : Value} {l : List β} (h : Sl w T size v l.length (cellsR enc l)) : RIb enc w v l := ⟨RIn.of_sl h, fun _ hg => sl_lt h hg, by
  obtain ⟨_, ⟨rfl, _⟩ | ⟨g, off, cap, cur, rfl, _⟩⟩ := h
  · exact .inl rfl
  · exact .inr ⟨g, off, _, cap, rfl⟩⟩
theorem RIb.keep {β : Type} {enc : β → List Value} {w w' : World} {v : Value} {l : List β} (h : RIb enc w v l) (hb : Below w.heap.size w w') : RIb enc w' v l := ⟨h.1.keep hb, fun g hg => Nat.lt_of_lt_of_le (h.2.1 g hg) hb.size, h.2.2⟩
/-- .. it stays where its block stays. -/
theorem RIb.block {β : Type} {enc : β → List Value} {w w' : World} {v : Value} {l : List β} (h : RIb enc w v l) (hs : w.heap.size ≤ w'.heap.size) (hk : ∀ g, v.ownBlock = some g → w'.heap[g]? = w.heap[g]?) : RIb enc w' v l := by
  obtain ⟨⟨p, cap, rfl, h1, h2, h3, h4⟩, h5, h8⟩ := h
  refine ⟨⟨p, cap, rfl, h1, h2, h3, fun hn => ?_⟩, fun g hg => Nat.lt_of_lt_of_le (h5 g hg) hs, h8⟩
  obtain ⟨blk, off, rfl, h6, h7⟩ := h4 hn
  exact ⟨blk, off, rfl, Nat.lt_of_lt_of_le h6 hs, fun t u hu => (World.cell?_of_block (w := w) (a := ⟨blk, off + t, none⟩) (hk blk rfl)).trans (h7 t u hu)⟩
theorem RIb.turned {β : Type} {enc : β → List Value} {w w' : World} {v : Value} {l : List β} {o : Option Nat} (h : RIb enc w v l) (ht : Turned w w' o) (hn : ∀ g, v.ownBlock = some g → o ≠ some g) : RIb enc w' v l :=
  h.block ht.size fun g hg => ht.block g (h.2.1 g hg) fun e => hn g hg e.symm
/-- It is the same slice, or a new one. -/
def OrNew (w : World) (v v' : Value) : Prop := v' = v ∨ ∀ g, v'.ownBlock = some g → w.heap.size ≤ g
end Go.Proofs.Ytcnclcfipabimaa
