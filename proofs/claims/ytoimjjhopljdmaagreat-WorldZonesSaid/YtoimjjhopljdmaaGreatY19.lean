/-
  Chapter texts TkB TkS: what the claim reaches of them. Conditions stand at each theorem.
-/
import Derived.Test.YtoimjjhopljdmaaGreatY14
import Derived.Test.YtoimjjhopljdmaaGreatY15
import Derived.Test.YtoimjjhopljdmaaGreatY18
namespace Go.Proofs.YtoimjjhopljdmaaGreat
open Go.RowKit

def eachL (f : Bun → Bun × Bool) (l : List Bun) : List Bun := (l.filter fun x => (f x).2).map fun x => (f x).1
def eachD (f : Bun → Bun × Bool) (l : List Bun) : List Nid := (l.filter fun x => !(f x).2).map idOf
theorem eachL_step (f : Bun → Bun × Bool) {l : List Bun} {t : Nat} {x : Bun} (h : l[t]? = some x) : eachL f (l.take (t + 1)) = eachL f (l.take t) ++ (if (f x).2 then [(f x).1] else []) := by
  unfold eachL
  rw [filter_step2 _ h, List.map_append]
  congr 1
  split <;> simp
theorem eachD_step (f : Bun → Bun × Bool) {l : List Bun} {t : Nat} {x : Bun} (h : l[t]? = some x) : eachD f (l.take (t + 1)) = eachD f (l.take t) ++ (if (f x).2 then [] else [idOf x]) := by
  unfold eachD
  rw [filter_step2 _ h, List.map_append]
  congr 1
  cases (f x).2 <;> simp
theorem eachL_le (f : Bun → Bun × Bool) (l : List Bun) (t : Nat) : (eachL f (l.take t)).length ≤ t := by
  unfold eachL
  have := List.length_filter_le (fun x => (f x).2) (l.take t)
  rw [List.length_take] at this
  simp; omega
theorem eachD_le (f : Bun → Bun × Bool) (l : List Bun) (t : Nat) : (eachD f (l.take t)).length ≤ t := by
  unfold eachD
  have := List.length_filter_le (fun x => !(f x).2) (l.take t)
  rw [List.length_take] at this
  simp only [List.length_map]; omega
structure Ea (w wr : World) (b : Nat) (m lv ov gv dv0 left : Value) (ll : List Bun) (dv : Value) (dd : List Nid) : Prop where
  st : StB wr b m lv ov gv dv
  sl : Sl wr 32 11 left ll.length (bunCells ll)
  sd : Sl wr 30 3 dv dd.length (cellsR nidL dd)
  tu : Tu2 w wr b dv0.ownBlock
  ol : ∀ g, left.ownBlock = some g → w.heap.size ≤ g
  od : dv.ownBlock = dv0.ownBlock ∨ ∃ g, dv.ownBlock = some g ∧ w.heap.size ≤ g
  ld : ∀ g, left.ownBlock = some g → dv.ownBlock ≠ some g
variable {w wr : World} {b : Nat} {m lv ov gv dv0 left : Value} {ll : List Bun} {dv : Value} {dd : List Nid}
theorem Ea.odb (h : Ea w wr b m lv ov gv dv0 left ll dv dd) (hb : b < w.heap.size) (h0 : dv0.ownBlock ≠ some b) : dv.ownBlock ≠ some b := fun e => by
  rcases h.od with h1 | ⟨g, h1, h2⟩
  · exact h0 (h1.symm.trans e)
  · rw [h1] at e; cases e; omega
theorem Ea.bel {w' : World} (h : Ea w wr b m lv ov gv dv0 left ll dv dd) (hb : Below wr.heap.size wr w') : Ea w w' b m lv ov gv dv0 left ll dv dd :=
  ⟨h.st.keep (hb.block b h.st.lt), h.sl.grow hb, h.sd.grow hb, h.tu.bel hb, h.ol, h.od, h.ld⟩
theorem Ea.app {w' : World} {left' : Value} {x : Bun} (h : Ea w wr b m lv ov gv dv0 left ll dv dd) (hb : b < w.heap.size) (hs : Sl w' 32 11 left' (ll.length + 1) (bunCells ll ++ bunL x)) (ht : Turned wr w' left.ownBlock)
    (ho : left'.ownBlock = left.ownBlock ∨ ∃ g, left'.ownBlock = some g ∧ wr.heap.size ≤ g) : Ea w w' b m lv ov gv dv0 left' (ll ++ [x]) dv dd := by
  refine ⟨h.st.keep (ht.block b h.st.lt fun e => by have := h.ol b e.symm; omega), ?_, h.sd.keep fun g hg => ht.block g (sl_lt h.sd hg) fun e => h.ld g e.symm hg, h.tu.tur ht fun g hg => .inr (.inr (h.ol g hg)), fun g hg => ?_, h.od, fun g hg => ?_⟩
  · rw [bunCells_app, show bunCells [x] = bunL x by simp [bunCells]]; simpa using hs
  · rcases ho with e | ⟨g', e, hg'⟩
    · exact h.ol g (e ▸ hg)
    · rw [e] at hg; cases hg; exact Nat.le_trans h.tu.size hg'
  · rcases ho with e | ⟨g', e, hg'⟩
    · exact h.ld g (e ▸ hg)
    · rw [e] at hg; cases hg
      intro e2; have := sl_lt h.sd e2; omega
theorem Ea.die {w1 : World} {g off cap : Nat} {x : Bun} (h : Ea w wr b m lv ov gv dv0 left ll dv dd) (hb : b < w.heap.size) (h0 : dv0.ownBlock ≠ some b) (hs : Sl w1 30 3 (.slice (some ⟨g, off, none⟩) (dd.length + 1) cap) (dd.length + 1) (cellsR nidL dd ++ nidL (idOf x))) (ht : Turned wr w1 dv.ownBlock)
    (ho : dv.ownBlock = some g ∨ wr.heap.size ≤ g) : Ea w (w1.setCell ⟨b, 4, none⟩ (.slice (some ⟨g, off, none⟩) (dd.length + 1) cap)) b m lv ov gv dv0 left ll (.slice (some ⟨g, off, none⟩) (dd.length + 1) cap) (dd ++ [idOf x]) := by
  have hob := h.odb hb h0
  have hgb : g ≠ b := by
    rcases ho with e | e
    · intro e2; exact hob (e2 ▸ e)
    · have := h.st.lt; omega
  have st1 : StB w1 b m lv ov gv dv := h.st.keep (ht.block b h.st.lt fun e => hob e.symm)
  obtain ⟨q1, q2⟩ := StB.store (u := 4) (by omega) rfl (.slice (some ⟨g, off, none⟩) (dd.length + 1) cap) st1.c st1.f
  have hk : ∀ k, k ≠ b → (w1.setCell ⟨b, 4, none⟩ (.slice (some ⟨g, off, none⟩) (dd.length + 1) cap)).heap[k]? = w1.heap[k]? := fun k hk => Below.heap_setCell _ _ _ _ (fun e => hk e)
  have hlb : ∀ k, left.ownBlock = some k → k ≠ b := fun k hk e => by have := h.ol k hk; omega
  refine ⟨⟨q1, q2⟩, h.sl.keep fun k hl => (hk k (hlb k hl)).trans (ht.block k (sl_lt h.sl hl) fun e => h.ld k hl e.symm), ?_, (h.tu.tur ht fun k hk => ?_).tur (setCells_turned b [_] 4 w1) fun k hk => ?_, h.ol, ?_, fun k hl => ?_⟩
  · rw [cellsR_app, cellsR_one, List.length_append]
    exact hs.keep fun k hg => hk k (by simp [Value.ownBlock] at hg; omega)
  · rcases h.od with e | ⟨g', e, hg'⟩
    · exact .inl (e ▸ hk.symm)
    · rw [e] at hk; cases hk; exact .inr (.inr hg')
  · cases hk; exact .inr (.inl rfl)
  · rcases ho with e | e
    · rcases h.od with e1 | ⟨g', e1, hg'⟩
      · exact .inl (by rw [← e1, e]; rfl)
      · exact .inr ⟨g, rfl, by rw [e1] at e; cases e; exact hg'⟩
    · exact .inr ⟨g, rfl, Nat.le_trans h.tu.size e⟩
  · intro e2
    simp [Value.ownBlock] at e2
    subst e2
    rcases ho with e | e
    · exact h.ld g hl e
    · have := sl_lt h.sl hl; omega
theorem Ea.fin (h : Ea w wr b m lv ov gv dv0 left ll dv dd) (hb : b < w.heap.size) (h0 : dv0.ownBlock ≠ some b) : Ea w (wr.setCell ⟨b, 1, none⟩ left) b m left ov gv dv0 left ll dv dd := by
  have hob := h.odb hb h0
  obtain ⟨q1, q2⟩ := StB.store (u := 1) (by omega) rfl left h.st.c h.st.f
  have hk : ∀ k, k ≠ b → (wr.setCell ⟨b, 1, none⟩ left).heap[k]? = wr.heap[k]? := fun k hk => Below.heap_setCell _ _ _ _ (fun e => hk e)
  exact ⟨⟨q1, q2⟩, h.sl.keep fun k hl => hk k fun e => by have := h.ol k hl; omega, h.sd.keep fun k hg => hk k fun e => hob (e ▸ hg), h.tu.tur (setCells_turned b [_] 1 wr) fun k hk => by cases hk; exact .inr (.inl rfl), h.ol, h.od, h.ld⟩
theorem Ea.start {w : World} {b : Nat} {m lv ov gv dv : Value} {dead : List Nid} (hst : StB w b m lv ov gv dv) (hd : Sl w 30 3 dv dead.length (cellsR nidL dead)) : Ea w w b m lv ov gv dv (.slice none 0 0) [] dv dead :=
  ⟨hst, ⟨rfl, .inl ⟨rfl, rfl⟩⟩, hd, Tu2.refl _ _ _, (fun g hg => by cases hg), .inl rfl, (fun g hg => by cases hg)⟩

set_option maxRecDepth 100000 in
set_option maxHeartbeats 4000000 in
theorem each_any (F : Nat) (caps : Array Value) (eg : ∀ args w, (callFunc F args).run Tryz.prog w = .ok (.enter F args) w) (f : Bun → Bun × Bool) (b : Nat) (m lv ov gv dv : Value) (l : List Bun) (dead : List Nid) (w : World)
    (hst : StB w b m lv ov gv dv) (hl : Sl w 32 11 lv l.length (bunCells l)) (hlb : lv.ownBlock ≠ some b) (hd : Sl w 30 3 dv dead.length (cellsR nidL dead)) (hdb : dv.ownBlock ≠ some b) (hld : ∀ g, lv.ownBlock = some g → dv.ownBlock ≠ some g)
    (hn : l.length ≤ 1000) (hdn : dead.length ≤ 1000000)
    (hc : ∀ W', Tu2 w W' b dv.ownBlock → ∀ x ∈ l, Calls Tryz.prog F (#[.agg #[.int .i64 (x).s, .int .i64 (x).i, .int .i64 (x).g, .int .i64 (x).m, .int .i64 (x).x, .int .i64 (x).y, .int .i64 (x).vx, .int .i64 (x).vy, .int .i64 (x).hp, .int .i64 (x).pw, .int .i64 (x).lf]] ++ caps) W' fun e w' => e = .returned (.tuple #[.agg #[.int .i64 ((f x).1).s, .int .i64 ((f x).1).i, .int .i64 ((f x).1).g, .int .i64 ((f x).1).m, .int .i64 ((f x).1).x, .int .i64 ((f x).1).y, .int .i64 ((f x).1).vx, .int .i64 ((f x).1).vy, .int .i64 ((f x).1).hp, .int .i64 ((f x).1).pw, .int .i64 ((f x).1).lf], .bool (f x).2]) ∧ Below W'.heap.size W' w') :
    Calls Tryz.prog 98 #[.pointer (some ⟨b, 0, none⟩), .func (.func F) #[] caps] w fun e w' => e = .returned (.tuple #[]) ∧ ∃ lv' dv', Ea w w' b m lv' ov gv dv lv' (eachL f l) dv' (dead ++ eachD f l) := by
  obtain ⟨i0, hi0, hz0, hz1, hz2⟩ := info_parts info_bunJ
  obtain ⟨j0, hj0, hy0, hy1, hy2⟩ := info_partsG info_nid
  have hb := hst.lt
  have hbw0 := hb
  have hE := Ea.start hst hd
  have HL := Lib.hid hl
  have HC := Lib.hid hc
  have HLB := Lib.hid hlb; have HLD := Lib.hid hld; have HDB := Lib.hid hdb
  have HE0 := Lib.hid hE
  have x1 := hst.c 1
  simp at x1
  obtain ⟨pl, cl, rfl⟩ := sl_frm hl
  obtain ⟨u0, u1, u2⟩ := ltz hb
  clear hl hc hlb hld hdb hd hst hE
  go_enter Tryz.func98, Tryz.ntmps98
  go_wp2_with fail
  go_loopg [4, 14] l.length (fun kx sl sx wr => ∃ (t : Nat) (dv' : Value), sx = .int .i64 t ∧ t ≤ l.length ∧ l.length - t ≤ kx ∧ Hid (Ea w wr b m (.slice pl l.length cl) ov gv dv sl (eachL f (l.take t)) dv' (dead ++ eachD f (l.take t))))
  case atStart => exact ⟨0, dv, by go_num, by omega, by omega, Lib.hid (by simpa [eachL, eachD] using HE0.out)⟩
  case round =>
    clear HE0 x1 u0 u1 u2
    obtain ⟨t, dv', rfl, ht, hkx, HE⟩ := hrel
    obtain ⟨wa, rfl⟩ : ∃ wa : World, wa = wr := ⟨_, rfl⟩
    have hba : b < wa.heap.size := HE.out.st.lt
    obtain ⟨u0, u1, u2⟩ := ltz hba
    have hll := eachL_le f l t
    have hdl := eachD_le f l t
    obtain ⟨po, co, hpo⟩ := sl_frm HE.out.sl
    subst hpo
    by_cases hlt : t < l.length
    · have t1 : (t : Int) < (l.length : Int) := by omega
      obtain ⟨x0, hx0⟩ : ∃ x0, l[t]? = some x0 := ⟨_, List.getElem?_eq_getElem hlt⟩
      have hlw : Sl wa 32 11 (.slice pl l.length cl) l.length (bunCells l) := HL.out.keep fun g hg => HE.out.tu.block g (sl_lt HL.out hg) (fun e => HLB.out (e ▸ hg)) (fun e => HLD.out g hg e.symm)
      obtain ⟨gb, ob, cb, hv, hgb, hcb⟩ := (BIn.of_sl hlw).cells hx0
      simp only [Value.slice.injEq, true_and] at hv
      obtain ⟨rfl, rfl⟩ := hv
      have c0 := hcb 0 _ rfl
      have c1 := hcb 1 _ rfl
      have c2 := hcb 2 _ rfl
      have c3 := hcb 3 _ rfl
      have c4 := hcb 4 _ rfl
      have c5 := hcb 5 _ rfl
      have c6 := hcb 6 _ rfl
      have c7 := hcb 7 _ rfl
      have c8 := hcb 8 _ rfl
      have c9 := hcb 9 _ rfl
      have c10 := hcb 10 _ rfl
      simp only [Nat.add_zero] at c0
      have h1 := eachL_step f hx0
      have h2 := eachD_step f hx0
      have HCX := Lib.hid (fun W' (hW : Tu2 w W' b dv.ownBlock) => HC.out W' hW x0 (List.mem_of_getElem? hx0))
      obtain ⟨e0, e1', e2'⟩ := ltz hgb
      clear hcb hx0 hlw
      have HF := Lib.hid (rfl : f x0 = f x0)
      generalize hfx : f x0 = r at HCX h1 h2
      have HF := Lib.hid hfx
      clear hfx
      have HS1 := Lib.hid h1; have HS2 := Lib.hid h2
      clear h1 h2
      generalize eachL f (l.take t) = la at *
      generalize eachD f (l.take t) = da at *
      obtain ⟨⟨s', i', g', m', x', y', vx', vy', hp', pw', lf'⟩, ok⟩ := r
      obtain ⟨s, i, g, m, x, y, vx, vy, hp, pw, lf⟩ := x0
      simp only at HCX HS1 HS2
      cases ok with
      | true =>
        simp only [if_true, List.append_nil] at HS1 HS2
        go_wp2_with (first | (go_at_fn F; refine (HCX.out _ (HE.out.tu.bel bg)).mono ?_; rintro e w' ⟨rfl, hb'⟩; obtain ⟨d1, os1, rfl⟩ := more_of hb'; clear hb') | (at_builtin; refine wpList_append_sl _ (by rfl) _ _ 37 (by rfl) 32 i0 _ 11 88 Tryz.underlying37 hi0 hz0 hz1 hz2 rfl (by omega) _ la.length (bunCells la) (by rfl) (HE.out.bel bg).sl ⟨_, 0, none⟩ 1 1 (bunL ⟨s', i', g', m', x', y', vx', vy', hp', pw', lf'⟩) (by rfl) (by rfl) (new_cellsN _ _ _ _ (by simp)) (bunL_one _) (by omega) (by unfold maxLen; omega) (by omega) ?_; intro v' w4 hs4 ht4 ho4; have hE4 := (HE.out.bel bg).app hbw0 hs4 ht4 ho4; clear hs4 ht4 ho4))
        go_roundg (l.length - (t + 1))
        case measure => omega
        case rel => exact ⟨t + 1, _, by go_num, by omega, by omega, Lib.hid (by rw [HS1.out, HS2.out]; exact hE4)⟩
      | false =>
        simp only [Bool.false_eq_true, if_false, List.append_nil] at HS1 HS2
        go_upto_region 7 with (go_at_fn F; refine (HCX.out _ (HE.out.tu.bel bg)).mono ?_; rintro e w' ⟨rfl, hb'⟩; obtain ⟨d1, os1, rfl⟩ := more_of hb'; clear hb')
        generalize hw2 : World.alloc (more _ _ _) _ = w2
        have hb2 : Below wa.heap.size wa w2 := by rw [← hw2]; exact bg
        have k6 : ∀ u, w2.cell? ⟨wa.heap.size, u, none⟩ = (#[.int .i64 s, .int .i64 i, .int .i64 g, .int .i64 m, .int .i64 x, .int .i64 y, .int .i64 vx, .int .i64 vy, .int .i64 hp, .int .i64 pw, .int .i64 lf] : Array Value)[u]? := fun u => by
          rw [← hw2, Below.cell (B := wa.heap.size + 1) (w := wa.alloc (.cells #[.int .i64 s, .int .i64 i, .int .i64 g, .int .i64 m, .int .i64 x, .int .i64 y, .int .i64 vx, .int .i64 vy, .int .i64 hp, .int .i64 pw, .int .i64 lf] 32)) bg (by simp)]; simp
        have s6 : wa.heap.size < w2.heap.size := by rw [← hw2]; simp; omega
        have hE2 := HE.out.bel hb2
        have hb2w : b < w2.heap.size := by omega
        have y6 := k6 0; have y7 := k6 1; have y8 := k6 2
        simp at y6 y7 y8
        have x4 := hE2.st.c 4
        simp at x4
        have f4 := hE2.st.f 4
        have hob := hE2.odb hbw0 HDB.out
        have hon : dv'.ownBlock ≠ some wa.heap.size := fun e => by have := sl_lt HE.out.sd e; omega
        generalize wa.heap.size = n6 at *
        have HE2 := Lib.hid hE2
        clear hw2 hb2 k6 hE2 c0 c1 c2 c3 c4 c5 c6 c7 c8 c9 c10 e0 e1' e2' u0 u1 u2
        obtain ⟨pd, cd, rfl⟩ := sl_frm HE2.out.sd
        have hdl2 : (dead ++ da).length ≤ 1002000 := by simp; omega
        have HS3 := Lib.hid (show dead ++ eachD f (l.take (t + 1)) = (dead ++ da) ++ [idOf ⟨s, i, g, m, x, y, vx, vy, hp, pw, lf⟩] by rw [HS2.out, List.append_assoc])
        clear HS2
        generalize dead ++ da = dd at *
        refine wp_region_x (S := Two w2 b n6) 13 (by kernel_rfl) (Two.drew (Two.refl _ _ _)) (fun hHeld => ?_)
        refine anyX_take (n := 13) (i := 0) (v := ?_) rfl (by kernel_rfl) (fun _ _ _ h => h) (Or.inl ⟨by rfl, ?_⟩) (by assumption) ?_
        rotate_left 1
        · (intro w hSw; have hSc := hSw.cb; have hSn := hSw.cn; go_simp; (try with_reducible rfl))
        simp [Act.put]
        refine anyX_take (n := 13) (i := 1) (v := ?_) rfl (by kernel_rfl) (fun _ _ _ h => h) (Or.inl ⟨by rfl, ?_⟩) (by assumption) ?_
        rotate_left 1
        · (intro w hSw; have hSc := hSw.cb; have hSn := hSw.cn; go_simp; (try with_reducible rfl))
        simp [Act.put]
        refine anyX_take (n := 13) (i := 2) (v := ?_) rfl (by kernel_rfl) (fun _ _ _ h => h) (Or.inl ⟨by rfl, ?_⟩) (by assumption) ?_
        rotate_left 1
        · (intro w hSw; have hSc := hSw.cb; have hSn := hSw.cn; go_simp; (try with_reducible rfl))
        simp [Act.put]
        refine anyX_take (n := 13) (i := 3) (v := ?_) rfl (by kernel_rfl) (fun _ _ _ h => h) (Or.inl ⟨by rfl, ?_⟩) (by assumption) ?_
        rotate_left 1
        · (intro w hSw; have hSc := hSw.cb; have hSn := hSw.cn; go_simp; (try with_reducible rfl))
        simp [Act.put]
        refine anyX_take (n := 13) (i := 4) (v := ?_) rfl (by kernel_rfl) (fun _ _ _ h => h) (Or.inl ⟨by rfl, ?_⟩) (by assumption) ?_
        rotate_left 1
        · (intro w hSw; have hSc := hSw.cb; have hSn := hSw.cn; go_simp; (try with_reducible rfl))
        simp [Act.put]
        refine anyX_take (n := 13) (i := 5) (v := ?_) rfl (by kernel_rfl) (fun _ _ _ h => h) (Or.inl ⟨by rfl, ?_⟩) (by assumption) ?_
        rotate_left 1
        · (intro w hSw; have hSc := hSw.cb; have hSn := hSw.cn; go_simp; (try with_reducible rfl))
        simp [Act.put]
        refine anyX_take (n := 13) (i := 6) (v := ?_) rfl (by kernel_rfl) (fun _ _ _ h => h) (Or.inl ⟨by rfl, ?_⟩) (by assumption) ?_
        rotate_left 1
        · (intro w hSw; have hSc := hSw.cb; have hSn := hSw.cn; go_simp; (try with_reducible rfl))
        simp [Act.put]
        refine anyX_take (n := 13) (i := 7) (v := ?_) rfl (by kernel_rfl) (fun _ _ _ h => h) (Or.inl ⟨by rfl, ?_⟩) (by assumption) ?_
        rotate_left 1
        · (intro w hSw; have hSc := hSw.cb; have hSn := hSw.cn; go_simp; (try with_reducible rfl))
        simp [Act.put]
        refine anyX_ready (rs := [8]) (by kernel_rfl) (by simp) (ReadyX.cons rfl (fun K hK => ?_) ReadyX.nil)
        go_simp
        refine hK.out _ _ (fun hlt => ?_) (fun hHeld => ?_)
        · with_reducible (repeat (first | assumption | exact Two.refl _ _ _ | refine Two.alloc (by assumption) (by assumption) _ ?_ | refine Two.drew ?_))
        clear hK
        replace hHeld := hHeld (by omega); try simp [Act.put]
        refine anyX_ready (rs := [9]) (by kernel_rfl) (by simp) (ReadyX.cons rfl (fun K hK => ?_) ReadyX.nil)
        (refine step_append_sl _ (by rfl) (.tmp 34) (.tmp 37) 56 (by rfl) 30 j0 _ 3 24 Tryz.underlying56 hj0 hy0 hy1 hy2 rfl (by omega) _ dd.length (cellsR nidL dd) (by rfl) (HE2.out.bel bg).sd ⟨_, 0, none⟩ 1 1 (nidL ⟨s, i, g⟩) (by rfl) (by rfl) (new_cellsN _ _ _ _ (by simp)) (nidL_one _) (by omega) (by unfold maxLen; omega) (by omega) ?_; intro g4 off4 cap4 w4 hs4 ht4 ho4)
        refine hK.out _ _ (fun hlt => ?_) (fun hHeld => ?_)
        · exact Two.tur hb2w s6 (fun e => hob e.symm) (fun e => hon e.symm) (by with_reducible (repeat (first | assumption | exact Two.refl _ _ _ | refine Two.alloc (by assumption) (by assumption) _ ?_ | refine Two.drew ?_))) ht4
        clear hK
        replace hHeld := hHeld (by omega); try simp [Act.put]
        refine anyX_take (n := 13) (i := 10) (v := ?_) rfl (by kernel_rfl) (fun _ _ _ h => h) (Or.inl ⟨by rfl, ?_⟩) (by assumption) ?_
        rotate_left 1
        · (intro w hSw; have hSc := hSw.cb; have hSn := hSw.cn; go_simp; (try with_reducible rfl))
        simp [Act.put]
        refine anyX_take (n := 13) (i := 11) (v := ?_) rfl (by kernel_rfl) (fun _ _ _ h => h) (Or.inl ⟨by rfl, ?_⟩) (by assumption) ?_
        rotate_left 1
        · (intro w hSw; have hSc := hSw.cb; have hSn := hSw.cn; go_simp; (try with_reducible rfl))
        simp [Act.put]
        refine anyX_take (n := 13) (i := 12) (v := ?_) rfl (by kernel_rfl) (fun _ _ _ h => h) (Or.inl ⟨by rfl, ?_⟩) (by assumption) ?_
        rotate_left 1
        · (intro w hSw; have hSc := hSw.cb; have hSn := hSw.cn; go_simp; (try with_reducible rfl))
        simp [Act.put]
        have hq4 := (hHeld.cb 4).trans x4
        have hf4 := (hHeld.fb 4).trans f4
        refine anyX_ready (rs := [13]) (by kernel_rfl) (by simp) (ReadyX.cons rfl (fun K hK => ?_) ReadyX.nil)
        go_simp
        refine hK.out _ _ (fun hlt => ?_) (fun hHeld => ?_)
        · exact absurd hlt (by omega)
        clear hK
        clear hHeld; try simp [Act.put]
        refine anyX_done (by kernel_rfl) ?_ _
        go_wp2_with fail
        go_roundg (l.length - (t + 1))
        case measure => omega
        case rel => exact ⟨t + 1, _, by go_num, by omega, by omega, Lib.hid (by rw [HS1.out, HS3.out]; exact (HE2.out.bel bg).die hbw0 HDB.out hs4 ht4 ho4)⟩
    · have t1 : ¬ (t : Int) < (l.length : Int) := by omega
      obtain rfl : t = l.length := by omega
      rw [List.take_length] at HE
      have f1 := HE.out.st.f 1
      have x1 := HE.out.st.c 1
      simp at x1
      go_wp2_with fail
      go_end0
      exact ⟨rfl, _, _, HE.out.fin hbw0 HDB.out⟩
end Go.Proofs.YtoimjjhopljdmaaGreat
namespace Go.Proofs.YtoimjjhopljdmaaGreat
open Go.RowKit
def insF (l : List Bun) (i : Nat) (b : Bun) : List Bun := l.take i ++ b :: l.drop i
theorem findB_rng (s i g : Int) : ∀ (l : List Bun) (k : Nat), ∃ q : Nat, (findB s i g l k).1 = (q : Int) ∧ k ≤ q ∧ q ≤ k + l.length
  | [], k => ⟨k, rfl, by omega, by simp⟩
  | b :: l, k => by
    unfold findB
    split
    · exact ⟨k, rfl, by omega, by omega⟩
    · obtain ⟨q, h1, h2, h3⟩ := findB_rng s i g l (k + 1)
      exact ⟨q, h1, by omega, by simp only [List.length_cons]; omega⟩
def spawnB (c : Cfg) (z : Int) (l : List Bun) (m : Cm) : Bool :=
  !(findB m.b.s m.b.i m.b.g l 0).2 && decide (0 ≤ ofF c m.b.x m.b.y) && (decide (z < 0) || decide (ofF c m.b.x m.b.y = z))
def cmdL (c : Cfg) (z : Int) (l : List Bun) (m : Cm) : List Bun :=
  if m.k = 1 then (if spawnB c z l m then insF l (findB m.b.s m.b.i m.b.g l 0).1.toNat m.b else l) else eachL (fun b => obeyF b m) l
def cmdN (l : List Bun) (m : Cm) : List Nid := if m.k = 1 then [] else eachD (fun b => obeyF b m) l
def cmdsL (c : Cfg) (z : Int) : List Bun → List Cm → List Bun
  | l, [] => l
  | l, m :: ms => cmdsL c z (cmdL c z l m) ms
def cmdsN (c : Cfg) (z : Int) : List Bun → List Cm → List Nid
  | _, [] => []
  | l, m :: ms => cmdN l m ++ cmdsN c z (cmdL c z l m) ms
theorem cmdsL_app (c : Cfg) (z : Int) : ∀ (a b : List Cm) (l : List Bun), cmdsL c z l (a ++ b) = cmdsL c z (cmdsL c z l a) b
  | [], _, _ => rfl
  | _ :: a, b, _ => cmdsL_app c z a b _
theorem cmdsN_app (c : Cfg) (z : Int) : ∀ (a b : List Cm) (l : List Bun), cmdsN c z l (a ++ b) = cmdsN c z l a ++ cmdsN c z (cmdsL c z l a) b
  | [], _, _ => rfl
  | m :: a, b, l => by
    show cmdN l m ++ cmdsN c z (cmdL c z l m) (a ++ b) = _
    rw [cmdsN_app c z a b]
    exact (List.append_assoc _ _ _).symm
theorem cmdsL_step (c : Cfg) (z : Int) (l : List Bun) {ms : List Cm} {t : Nat} {m : Cm} (h : ms[t]? = some m) : cmdsL c z l (ms.take (t + 1)) = cmdL c z (cmdsL c z l (ms.take t)) m := by
  have hlt := (List.getElem?_eq_some_iff.1 h).1
  rw [List.take_succ_eq_append_getElem hlt, (List.getElem?_eq_some_iff.1 h).2, cmdsL_app]; rfl
theorem cmdsN_step (c : Cfg) (z : Int) (l : List Bun) {ms : List Cm} {t : Nat} {m : Cm} (h : ms[t]? = some m) : cmdsN c z l (ms.take (t + 1)) = cmdsN c z l (ms.take t) ++ cmdN (cmdsL c z l (ms.take t)) m := by
  have hlt := (List.getElem?_eq_some_iff.1 h).1
  rw [List.take_succ_eq_append_getElem hlt, (List.getElem?_eq_some_iff.1 h).2, cmdsN_app]
  simp [cmdsN]
theorem eachL_len (f : Bun → Bun × Bool) (l : List Bun) : (eachL f l).length ≤ l.length := by
  have := eachL_le f l l.length
  rwa [List.take_length] at this
theorem cmdL_len (c : Cfg) (z : Int) (l : List Bun) (m : Cm) : (cmdL c z l m).length ≤ l.length + 1 := by
  unfold cmdL
  split
  · split
    · unfold insF
      simp only [List.length_append, List.length_take, List.length_cons, List.length_drop]; omega
    · omega
  · have := eachL_len (fun b => obeyF b m) l; omega
theorem cmdsL_len (c : Cfg) (z : Int) : ∀ (ms : List Cm) (l : List Bun), (cmdsL c z l ms).length ≤ l.length + ms.length
  | [], l => by simp [cmdsL]
  | m :: ms, l => by
    have h1 := cmdsL_len c z ms (cmdL c z l m)
    have h2 := cmdL_len c z l m
    show (cmdsL c z (cmdL c z l m) ms).length ≤ _
    simp only [List.length_cons]; omega
theorem eachD_len (f : Bun → Bun × Bool) (l : List Bun) : (eachD f l).length ≤ l.length := by
  have := eachD_le f l l.length
  rwa [List.take_length] at this
def hurtL (r : Int) (own near : List Bun) : List Bun := eachL (hitF (hitsF r own near)) (stableF cmpBun own)
def hurtN (r : Int) (own near : List Bun) : List Nid := eachD (hitF (hitsF r own near)) (stableF cmpBun own)
def midL (c : Cfg) (z : Int) (own near : List Bun) (ms : List Cm) : List Bun := cmdsL c z (hurtL c.radius own near) ms
def leftL (c : Cfg) (z : Int) (own near : List Bun) (ms : List Cm) : List Bun := eachL (passF c) (midL c z own near ms)
def inZ (c : Cfg) (z : Int) (b : Bun) : Bool := decide (z < 0) || decide (ofF c b.x b.y = z)
def ownL (c : Cfg) (z : Int) (own near : List Bun) (ms : List Cm) : List Bun := (leftL c z own near ms).filter (inZ c z)
def goneL (c : Cfg) (z : Int) (own near : List Bun) (ms : List Cm) : List Bun := (leftL c z own near ms).filter fun b => !inZ c z b
def deadN (c : Cfg) (z : Int) (own near : List Bun) (ms : List Cm) : List Nid := hurtN c.radius own near ++ cmdsN c z (hurtL c.radius own near) ms ++ eachD (passF c) (midL c z own near ms)
def RIb {β : Type} (enc : β → List Value) (w : World) (v : Value) (l : List β) : Prop := RIn enc w v l ∧ (∀ g, v.ownBlock = some g → g < w.heap.size) ∧ (v = .slice none 0 0 ∨ ∃ blk off n cap, v = .slice (some ⟨blk, off, none⟩) n cap)
theorem RIb.of_sl {β : Type} {enc : β → List Value} {T : TypeId} {size : Nat} {w : World} {v : Value} {l : List β} (h : Sl w T size v l.length (cellsR enc l)) : RIb enc w v l := ⟨RIn.of_sl h, fun _ hg => sl_lt h hg, by
  obtain ⟨_, ⟨rfl, _⟩ | ⟨g, off, cap, cur, rfl, _⟩⟩ := h
  · exact .inl rfl
  · exact .inr ⟨g, off, _, cap, rfl⟩⟩
theorem RIb.keep {β : Type} {enc : β → List Value} {w w' : World} {v : Value} {l : List β} (h : RIb enc w v l) (hb : Below w.heap.size w w') : RIb enc w' v l := ⟨h.1.keep hb, fun g hg => Nat.lt_of_lt_of_le (h.2.1 g hg) hb.size, h.2.2⟩
theorem RIb.block {β : Type} {enc : β → List Value} {w w' : World} {v : Value} {l : List β} (h : RIb enc w v l) (hs : w.heap.size ≤ w'.heap.size) (hk : ∀ g, v.ownBlock = some g → w'.heap[g]? = w.heap[g]?) : RIb enc w' v l := by
  obtain ⟨⟨p, cap, rfl, h1, h2, h3, h4⟩, h5, h8⟩ := h
  refine ⟨⟨p, cap, rfl, h1, h2, h3, fun hn => ?_⟩, fun g hg => Nat.lt_of_lt_of_le (h5 g hg) hs, h8⟩
  obtain ⟨blk, off, rfl, h6, h7⟩ := h4 hn
  exact ⟨blk, off, rfl, Nat.lt_of_lt_of_le h6 hs, fun t u hu => (World.cell?_of_block (w := w) (a := ⟨blk, off + t, none⟩) (hk blk rfl)).trans (h7 t u hu)⟩
theorem RIb.turned {β : Type} {enc : β → List Value} {w w' : World} {v : Value} {l : List β} {o : Option Nat} (h : RIb enc w v l) (ht : Turned w w' o) (hn : ∀ g, v.ownBlock = some g → o ≠ some g) : RIb enc w' v l :=
  h.block ht.size fun g hg => ht.block g (h.2.1 g hg) fun e => hn g hg e.symm
def OrNew (w : World) (v v' : Value) : Prop := v' = v ∨ ∀ g, v'.ownBlock = some g → w.heap.size ≤ g
end Go.Proofs.YtoimjjhopljdmaaGreat
