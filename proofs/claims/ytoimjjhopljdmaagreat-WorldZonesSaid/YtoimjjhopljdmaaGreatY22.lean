/-
  Chapter texts SyE RtC: what the claim reaches of them. Conditions stand at each theorem.
-/
import Derived.Test.YtoimjjhopljdmaaGreatY13
import Derived.Test.YtoimjjhopljdmaaGreatY01
import Derived.Test.YtoimjjhopljdmaaGreatY21
import Derived.Test.YtoimjjhopljdmaaGreatY16
namespace Go.Proofs.YtoimjjhopljdmaaGreat
open Go.RowKit

theorem more_self (w : World) : more w w.drawn #[] = w := by simp [more]

theorem still_of {P : Program} {f : FuncId} {args : Array Value} {w : World} {v : Value} (h : Calls P f args w fun e w' => e = .returned v ∧ w = w') : Calls P f args w fun e w'' => e = .returned v ∧ w'' = w := h.mono fun _ _ ⟨a, b⟩ => ⟨a, b.symm⟩

set_option maxRecDepth 100000 in
set_option maxHeartbeats 2000000 in
theorem rMove_any (cols rows side radius speed ids queue s i g m x y vx vy hp pw lf : Int) (w : World) (ho : CfgOk ⟨cols, rows, side, radius, speed, ids, queue⟩) (HM : (-9223372036854775808 ≤ m ∧ m ≤ 9223372036854775807)) :
    Calls Tryz.prog 57 #[.agg #[.int .i64 cols, .int .i64 rows, .int .i64 side, .int .i64 radius, .int .i64 speed, .int .i64 ids, .int .i64 queue], .agg #[.int .i64 s, .int .i64 i, .int .i64 g, .int .i64 m, .int .i64 x, .int .i64 y, .int .i64 vx, .int .i64 vy, .int .i64 hp, .int .i64 pw, .int .i64 lf]] w fun e w' => e = .returned (.agg #[.int .i64 (moveF ⟨cols, rows, side, radius, speed, ids, queue⟩ ⟨s, i, g, m, x, y, vx, vy, hp, pw, lf⟩).s, .int .i64 (moveF ⟨cols, rows, side, radius, speed, ids, queue⟩ ⟨s, i, g, m, x, y, vx, vy, hp, pw, lf⟩).i, .int .i64 (moveF ⟨cols, rows, side, radius, speed, ids, queue⟩ ⟨s, i, g, m, x, y, vx, vy, hp, pw, lf⟩).g, .int .i64 (moveF ⟨cols, rows, side, radius, speed, ids, queue⟩ ⟨s, i, g, m, x, y, vx, vy, hp, pw, lf⟩).m, .int .i64 (moveF ⟨cols, rows, side, radius, speed, ids, queue⟩ ⟨s, i, g, m, x, y, vx, vy, hp, pw, lf⟩).x, .int .i64 (moveF ⟨cols, rows, side, radius, speed, ids, queue⟩ ⟨s, i, g, m, x, y, vx, vy, hp, pw, lf⟩).y, .int .i64 (moveF ⟨cols, rows, side, radius, speed, ids, queue⟩ ⟨s, i, g, m, x, y, vx, vy, hp, pw, lf⟩).vx, .int .i64 (moveF ⟨cols, rows, side, radius, speed, ids, queue⟩ ⟨s, i, g, m, x, y, vx, vy, hp, pw, lf⟩).vy, .int .i64 (moveF ⟨cols, rows, side, radius, speed, ids, queue⟩ ⟨s, i, g, m, x, y, vx, vy, hp, pw, lf⟩).hp, .int .i64 (moveF ⟨cols, rows, side, radius, speed, ids, queue⟩ ⟨s, i, g, m, x, y, vx, vy, hp, pw, lf⟩).pw, .int .i64 (moveF ⟨cols, rows, side, radius, speed, ids, queue⟩ ⟨s, i, g, m, x, y, vx, vy, hp, pw, lf⟩).lf]) ∧ Below w.heap.size w w' := by
  have HB := fun W => bit_any m 2 W HM.1 HM.2 (by omega)
  rw [← hasB_tb2] at HB
  have hs0 := ho.v0
  have hs1 := ho.v1
  have hs2 := ho.s1
  simp only at hs0 hs1 hs2
  have HI := Lib.hid (fun W x y => rIn_k cols rows side radius speed ids queue x y W ho)
  have cx := clampF_lo x; have cx' := clampF_hi x; have cy := clampF_lo y; have cy' := clampF_hi y
  clear ho
  cases hb : hasB m 2 with
  | false =>
    rw [hb] at HB
    have HB := Lib.hid HB
    go_enter Tryz.func57, Tryz.ntmps57
    go_wp2_with (first | (go_at_call 41; refine (HB.out _).mono ?_; rintro e w' ⟨rfl, rfl⟩) | (go_at_call 27; refine (HI.out _ _ _).mono ?_; rintro e w' ⟨rfl, hb⟩; obtain ⟨d, os, rfl⟩ := more_of hb; clear hb))
    go_returns
    refine ⟨?_, bg⟩
    simp [moveF, hb]
  | true =>
    rw [hb] at HB
    have HB := Lib.hid HB
    go_enter Tryz.func57, Tryz.ntmps57
    go_wp2_with (first | (go_at_call 41; refine (HB.out _).mono ?_; rintro e w' ⟨rfl, rfl⟩) | (go_at_call 27; refine (HI.out _ _ _).mono ?_; rintro e w' ⟨rfl, hb⟩; obtain ⟨d, os, rfl⟩ := more_of hb; clear hb) | (go_at_call 78; refine (rClamp_any _ _).mono ?_; rintro e w' ⟨rfl, rfl⟩) | (go_at_call 95; refine (near_any _ _ _ (by omega) (by omega)).mono ?_; rintro e w' ⟨rfl, rfl⟩))
    rw [← more_self (((w.alloc _).alloc _).alloc _)]
    generalize World.drawn _ = d0
    generalize (#[] : Array Obj) = os0
    refine wp_region_still_tail 9 (by kernel_rfl) (by kernel_rfl) ?_
    simp only [List.take_succ_cons, List.take_zero, List.drop_succ_cons, List.drop_zero]
    repeat (first | still_step | (still_call (still_of (rClamp_any _ _))) | (still_call (still_of (near_any _ _ _ (by omega) (by omega)))))
    refine wpStill_nil ?_
    go_wp2_with (go_at_call 78; refine (rClamp_any _ _).mono ?_; rintro e w' ⟨rfl, rfl⟩)
    refine wp_region_still_tail 9 (by kernel_rfl) (by kernel_rfl) ?_
    simp only [List.take_succ_cons, List.take_zero, List.drop_succ_cons, List.drop_zero]
    repeat (first | still_step | (still_call (still_of (rClamp_any _ _))) | (still_call (still_of (near_any _ _ _ (by omega) (by omega)))))
    refine wpStill_nil ?_
    go_wp2_with (first | (go_at_call 78; refine (rClamp_any _ _).mono ?_; rintro e w' ⟨rfl, rfl⟩) | (go_at_call 27; refine (HI.out _ _ _).mono ?_; rintro e w' ⟨rfl, hb⟩; obtain ⟨d, os, rfl⟩ := more_of hb; clear hb))
    go_returns
    refine ⟨?_, bg⟩
    simp [moveF, hb, addF_near _ _ _ hs0 (by omega : speed ≤ 1073741824)]

end Go.Proofs.YtoimjjhopljdmaaGreat
namespace Go.Proofs.YtoimjjhopljdmaaGreat
open Go.RowKit
theorem bfit_zero : BFit zeroB := by unfold BFit zeroB; simp
theorem bfit_hurt {b : Bun} (n : Int) (h : BFit b) : BFit (hurtF b n).1 := by
  unfold hurtF
  split
  · exact h
  · rename_i h1
    split
    · exact bfit_zero
    · unfold BFit at *
      simp only at *
      omega
theorem bfit_with {b c : Bun} (h : BFit b) (h2 : BFit c) : BFit (withF b c) := by
  have := i64_or b.m c.m
  unfold I64 at this
  unfold BFit withF at *
  simp only at *
  refine ⟨by omega, by omega, by omega, this, ?_, ?_, ?_, ?_, ?_, ?_, ?_⟩ <;> (split <;> omega)
theorem bfit_without {b : Bun} (k : Int) (h : BFit b) : BFit (withoutF b k) := by
  have := i64_andNot (bits .or .i64 b.m k) k
  unfold I64 at this
  unfold BFit withoutF at *
  simp only at *
  refine ⟨by omega, by omega, by omega, this, ?_, ?_, ?_, ?_, ?_, ?_, ?_⟩ <;> (split <;> omega)
theorem bfit_obey {b : Bun} {c : Cm} (h : BFit b) (hc : CmFit c) : BFit (obeyF b c).1 := by
  unfold obeyF
  split
  · exact h
  · split
    · exact bfit_zero
    · split
      · exact bfit_with h hc.1
      · split
        · exact bfit_without _ h
        · exact h
theorem bfit_hit {b : Bun} (hs : List Hit) (h : BFit b) : BFit (hitF hs b).1 := by
  unfold hitF
  split
  · exact bfit_hurt _ h
  · exact h
theorem bfit_each {f : Bun → Bun × Bool} {l : List Bun} (hf : ∀ b, BFit b → BFit (f b).1) (h : ∀ b ∈ l, BFit b) : ∀ b ∈ eachL f l, BFit b := fun b hb => by
  unfold eachL at hb
  obtain ⟨x, hx, rfl⟩ := List.mem_map.1 hb
  exact hf x (h x (List.mem_filter.1 hx).1)
theorem bfit_cmd {c : Cfg} {z : Int} {l : List Bun} {m : Cm} (h : ∀ b ∈ l, BFit b) (hm : CmFit m) : ∀ b ∈ cmdL c z l m, BFit b := fun b hb => by
  unfold cmdL at hb
  split at hb
  · split at hb
    · unfold insF at hb
      rcases List.mem_append.1 hb with hb | hb
      · exact h b (List.mem_of_mem_take hb)
      · rcases List.mem_cons.1 hb with rfl | hb
        · exact hm.1
        · exact h b (List.mem_of_mem_drop hb)
    · exact h b hb
  · exact bfit_each (fun x hx => bfit_obey hx hm) h b hb
theorem bfit_cmds (c : Cfg) (z : Int) : ∀ (ms : List Cm) (l : List Bun), (∀ b ∈ l, BFit b) → (∀ m ∈ ms, CmFit m) → ∀ b ∈ cmdsL c z l ms, BFit b
  | [], _, h, _ => h
  | m :: ms, l, h, hm => bfit_cmds c z ms _ (bfit_cmd h (hm m (by simp))) fun x hx => hm x (List.mem_cons_of_mem _ hx)
structure Rc (w1 wr : World) (n : Nat) (va vb vd : Value) (la lb : List Bun) (dd : List Nid) : Prop where
  tu : Tu2 w1 wr n none
  a : Sl wr 32 11 va la.length (bunCells la)
  b : Sl wr 32 11 vb lb.length (bunCells lb)
  d : RIb nidL wr vd dd
  ao : ∀ g, va.ownBlock = some g → w1.heap.size ≤ g
  bo : ∀ g, vb.ownBlock = some g → w1.heap.size ≤ g
  dn : ∀ g, vd.ownBlock = some g → n < g
  ab : ∀ g, va.ownBlock = some g → vb.ownBlock ≠ some g
  ad : ∀ g, va.ownBlock = some g → vd.ownBlock ≠ some g
  bd : ∀ g, vb.ownBlock = some g → vd.ownBlock ≠ some g
section
variable {w1 wr w' : World} {n : Nat} {va vb vd va' vb' vd' : Value} {la lb : List Bun} {dd dd' : List Nid} {x : Bun}
theorem Rc.start (h : RIb nidL w1 vd dd) (hn : ∀ g, vd.ownBlock = some g → n < g) : Rc w1 w1 n (.slice none 0 0) (.slice none 0 0) vd [] [] dd :=
  ⟨Tu2.refl _ _ _, ⟨rfl, .inl ⟨rfl, rfl⟩⟩, ⟨rfl, .inl ⟨rfl, rfl⟩⟩, h, (fun _ hg => by cases hg), (fun _ hg => by cases hg), hn, (fun _ hg => by cases hg), (fun _ hg => by cases hg), (fun _ hg => by cases hg)⟩
theorem Rc.grow (h : Rc w1 wr n va vb vd la lb dd) (hb : Below wr.heap.size wr w') : Rc w1 w' n va vb vd la lb dd :=
  ⟨h.tu.bel hb, h.a.grow hb, h.b.grow hb, h.d.keep hb, h.ao, h.bo, h.dn, h.ab, h.ad, h.bd⟩
theorem Rc.swap (h : Rc w1 wr n va vb vd la lb dd) : Rc w1 wr n vb va vd lb la dd :=
  ⟨h.tu, h.b, h.a, h.d, h.bo, h.ao, h.dn, (fun g hg e => h.ab g e hg), h.bd, h.ad⟩
theorem Rc.appA (h : Rc w1 wr n va vb vd la lb dd) (hs : Sl w' 32 11 va' (la.length + 1) (bunCells la ++ bunL x)) (ht : Turned wr w' va.ownBlock) (ho : va'.ownBlock = va.ownBlock ∨ ∃ g, va'.ownBlock = some g ∧ wr.heap.size ≤ g) : Rc w1 w' n va' vb vd (la ++ [x]) lb dd := by
  refine ⟨h.tu.tur ht fun g hg => .inr (.inr (h.ao g hg)), ?_, h.b.keep fun g hg => ht.block g (sl_lt h.b hg) fun e => h.ab g e.symm hg, h.d.turned ht fun g hg e => h.ad g e hg, fun g hg => ?_, h.bo, h.dn, fun g hg => ?_, fun g hg => ?_, h.bd⟩
  · rw [bunCells_app, List.length_append, show bunCells [x] = bunL x by simp [bunCells]]; exact hs
  · rcases ho with e | ⟨g', e, hg'⟩
    · exact h.ao g (e ▸ hg)
    · rw [e] at hg; cases hg; exact Nat.le_trans h.tu.size hg'
  · rcases ho with e | ⟨g', e, hg'⟩
    · exact h.ab g (e ▸ hg)
    · rw [e] at hg; cases hg; intro e2; have := sl_lt h.b e2; omega
  · rcases ho with e | ⟨g', e, hg'⟩
    · exact h.ad g (e ▸ hg)
    · rw [e] at hg; cases hg; intro e2; have := h.d.2.1 g e2; omega
theorem Rc.put (hn : n < w1.heap.size) (h : Rc w1 wr n va vb vd la lb dd) (hb : Below wr.heap.size wr w') (hr : RIb nidL w' vd' dd') (ho : OrNew wr vd vd') : Rc w1 w' n va vb vd' la lb dd' := by
  have hz := h.tu.size
  refine ⟨h.tu.bel hb, h.a.grow hb, h.b.grow hb, hr, h.ao, h.bo, fun g hg => ?_, h.ab, fun g hg => ?_, fun g hg => ?_⟩
  · rcases ho with rfl | ho
    · exact h.dn g hg
    · have := ho g hg; omega
  · rcases ho with rfl | ho
    · exact h.ad g hg
    · intro e; have := ho g e; have := sl_lt h.a hg; omega
  · rcases ho with rfl | ho
    · exact h.bd g hg
    · intro e; have := ho g e; have := sl_lt h.b hg; omega
theorem Rc.set (hn : n < w1.heap.size) (h : Rc w1 wr n va vb vd la lb dd) (u : Nat) (v : Value) : Rc w1 (wr.setCell ⟨n, u, none⟩ v) n va vb vd la lb dd := by
  have hk : ∀ k, k ≠ n → (wr.setCell ⟨n, u, none⟩ v).heap[k]? = wr.heap[k]? := fun k hk => Below.heap_setCell _ _ _ _ (fun e => hk e)
  refine ⟨h.tu.tur (setCells_turned n [v] u wr) fun g hg => by cases hg; exact .inr (.inl rfl), h.a.keep fun g hg => hk g (by have := h.ao g hg; omega), h.b.keep fun g hg => hk g (by have := h.bo g hg; omega), h.d.block (by simp [World.setCell]) fun g hg => hk g (by have := h.dn g hg; omega), h.ao, h.bo, h.dn, h.ab, h.ad, h.bd⟩
end
structure Bx (w : World) (n : Nat) (v0 v1 v2 : Value) : Prop where
  c : ∀ u, w.cell? ⟨n, u, none⟩ = (#[v0, v1, v2] : Array Value)[u]?
  f : ∀ u, w.frozen? ⟨n, u, none⟩ = false
theorem Bx.keep {w w' : World} {n : Nat} {v0 v1 v2 : Value} (h : Bx w n v0 v1 v2) (hb : w'.heap[n]? = w.heap[n]?) : Bx w' n v0 v1 v2 :=
  ⟨fun u => (World.cell?_of_block (w := w) (a := ⟨n, u, none⟩) hb).trans (h.c u), fun u => (World.frozen?_of_block (w := w) (a := ⟨n, u, none⟩) hb).trans (h.f u)⟩
theorem cell_store {w : World} {n : Nat} {vs : Array Value} {u : Nat} (hu : u < vs.size) (v : Value) (hc : ∀ j, w.cell? ⟨n, j, none⟩ = vs[j]?) (hf : ∀ j, w.frozen? ⟨n, j, none⟩ = false) :
    (∀ j, (w.setCell ⟨n, u, none⟩ v).cell? ⟨n, j, none⟩ = (vs.setIfInBounds u v)[j]?) ∧ ∀ j, (w.setCell ⟨n, u, none⟩ v).frozen? ⟨n, j, none⟩ = false := by
  have h6 := hc u
  rw [Array.getElem?_eq_getElem hu] at h6
  simp only [World.cell?] at h6
  split at h6
  · rename_i c e fr hb
    simp at h6
    have hcs := (Array.getElem?_eq_some_iff.1 h6).1
    have hs' : (w.setCell ⟨n, u, none⟩ v).heap[n]? = some (.cells (c.setIfInBounds u v) e fr) := by simp [World.setCell, Array.getElem?_modify, hb]
    have hcc : ∀ j, c[j]? = vs[j]? := fun j => by have := hc j; simpa [World.cell?, hb] using this
    refine ⟨fun j => ?_, fun j => ?_⟩
    · have e1 : (w.setCell ⟨n, u, none⟩ v).cell? ⟨n, j, none⟩ = (c.setIfInBounds u v)[j]? := by unfold World.cell?; rw [hs']; simp
      rw [e1]
      simp only [Array.getElem?_setIfInBounds, hcc]
      split <;> first | rfl | rw [if_pos (by omega)]
    · rw [← hf j]
      simp only [World.frozen?, hs', hb]
  · simp at h6
theorem Bx.set {w : World} {n : Nat} {v0 v1 v2 : Value} (h : Bx w n v0 v1 v2) (u : Nat) (hu : u < 3) (v : Value) :
    (∀ j, (w.setCell ⟨n, u, none⟩ v).cell? ⟨n, j, none⟩ = ((#[v0, v1, v2] : Array Value).setIfInBounds u v)[j]?) ∧ ∀ j, (w.setCell ⟨n, u, none⟩ v).frozen? ⟨n, j, none⟩ = false :=
  cell_store (vs := #[v0, v1, v2]) (by simpa using hu) v h.c h.f
theorem Bx.set0 {w : World} {n : Nat} {v0 v1 v2 : Value} (h : Bx w n v0 v1 v2) (v : Value) : Bx (w.setCell ⟨n, 0, none⟩ v) n v v1 v2 := ⟨(h.set 0 (by omega) v).1, (h.set 0 (by omega) v).2⟩
theorem Bx.set1 {w : World} {n : Nat} {v0 v1 v2 : Value} (h : Bx w n v0 v1 v2) (v : Value) : Bx (w.setCell ⟨n, 1, none⟩ v) n v0 v v2 := ⟨(h.set 1 (by omega) v).1, (h.set 1 (by omega) v).2⟩
theorem Bx.set2 {w : World} {n : Nat} {v0 v1 v2 : Value} (h : Bx w n v0 v1 v2) (v : Value) : Bx (w.setCell ⟨n, 2, none⟩ v) n v0 v1 v := ⟨(h.set 2 (by omega) v).1, (h.set 2 (by omega) v).2⟩
theorem RIb.tu {β : Type} {enc : β → List Value} {w w' : World} {v : Value} {l : List β} {n : Nat} (h : RIb enc w v l) (ht : Tu2 w w' n none) (hn : ∀ g, v.ownBlock = some g → g ≠ n) : RIb enc w' v l :=
  h.block ht.size fun g hg => ht.block g (h.2.1 g hg) (hn g hg) (fun e => by cases e)
structure Ry (w1 wr : World) (n : Nat) (vl vd : Value) (ll : List Bun) (dd : List Nid) : Prop where
  tu : Tu2 w1 wr n none
  l : RIb bunL wr vl ll
  d : RIb nidL wr vd dd
  ln : ∀ g, vl.ownBlock = some g → g ≠ n
  dn : ∀ g, vd.ownBlock = some g → n < g
theorem Ry.step {w1 wr w' : World} {n : Nat} {vl vd vl' vd' : Value} {ll ll' : List Bun} {dd dd' : List Nid} (hn : n < w1.heap.size) (h : Ry w1 wr n vl vd ll dd) (hb : Below wr.heap.size wr w') (hl : RIb bunL w' vl' ll') (hd : RIb nidL w' vd' dd') (ol : OrNew wr vl vl') (od : OrNew wr vd vd') (u : Nat) (v : Value) :
    Ry w1 (w'.setCell ⟨n, u, none⟩ v) n vl' vd' ll' dd' := by
  have hz := h.tu.size
  have hk : ∀ k, k ≠ n → (w'.setCell ⟨n, u, none⟩ v).heap[k]? = w'.heap[k]? := fun k hk => Below.heap_setCell _ _ _ _ (fun e => hk e)
  have hln : ∀ g, vl'.ownBlock = some g → g ≠ n := fun g hg => by
    rcases ol with rfl | ol
    · exact h.ln g hg
    · have := ol g hg; omega
  have hdn : ∀ g, vd'.ownBlock = some g → n < g := fun g hg => by
    rcases od with rfl | od
    · exact h.dn g hg
    · have := od g hg; omega
  exact ⟨(h.tu.bel hb).tur (setCells_turned n [v] u w') fun g hg => by cases hg; exact .inr (.inl rfl), hl.block (by simp [World.setCell]) fun g hg => hk g (hln g hg), hd.block (by simp [World.setCell]) fun g hg => hk g (by have := hdn g hg; omega), hln, hdn⟩
theorem each_cnt (f : Bun → Bun × Bool) : ∀ l : List Bun, (eachL f l).length + (eachD f l).length = l.length
  | [] => rfl
  | b :: l => by
    have h := each_cnt f l
    unfold eachL eachD at *
    simp only [List.length_map] at *
    cases hb : (f b).2 with
    | true => rw [List.filter_cons, if_pos (by simpa using hb), List.filter_cons, if_neg (by simp [hb])]; simp only [List.length_cons]; omega
    | false => rw [List.filter_cons, if_neg (by simp [hb]), List.filter_cons, if_pos (by simp [hb])]; simp only [List.length_cons]; omega
theorem cmd_cnt (c : Cfg) (z : Int) (l : List Bun) (m : Cm) : (cmdL c z l m).length + (cmdN l m).length ≤ l.length + 1 := by
  have h := cmdL_len c z l m
  unfold cmdN
  by_cases hk : m.k = 1
  · rw [if_pos hk]; simpa using h
  · rw [if_neg hk]
    have e : cmdL c z l m = eachL (fun b => obeyF b m) l := by unfold cmdL; rw [if_neg hk]
    rw [e]
    have := each_cnt (fun b => obeyF b m) l
    omega
theorem cmds_cnt (c : Cfg) (z : Int) : ∀ (ms : List Cm) (l : List Bun), (cmdsL c z l ms).length + (cmdsN c z l ms).length ≤ l.length + ms.length
  | [], l => by simp [cmdsL, cmdsN]
  | m :: ms, l => by
    have h1 := cmds_cnt c z ms (cmdL c z l m)
    have h2 := cmd_cnt c z l m
    show (cmdsL c z (cmdL c z l m) ms).length + (cmdN l m ++ cmdsN c z (cmdL c z l m) ms).length ≤ _
    simp only [List.length_append, List.length_cons]; omega
end Go.Proofs.YtoimjjhopljdmaaGreat
