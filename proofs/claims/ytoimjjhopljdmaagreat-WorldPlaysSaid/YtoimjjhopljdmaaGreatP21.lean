/- Texts RtC RtD: what the claim reaches of them. Conditions stand at each theorem. -/
import Derived.Test.YtoimjjhopljdmaaGreatP20
set_option maxRecDepth 100000
set_option maxHeartbeats 8000000
namespace Go.Proofs.YtoimjjhopljdmaaGreat
open Go.RowKit
open Go.Proofs.Tryz (prog)
open Go.Value (int)
open Go.IntKind (i64)
open Go.Lib (hid)
section
theorem bfit_zero : BFit zeroB := by unfold BFit zeroB; simp
theorem bfit_hurt {b : Bun} (n : Int) (h : BFit b) : BFit (hurtF b n).1 := by
 unfold hurtF
 split
 · exact h
 · rename_i h1
   split
   · exact bfit_zero
   · unfold BFit at *
     simp only at *
     omega
theorem bfit_with {b c : Bun} (h : BFit b) (h2 : BFit c) : BFit (withF b c) := by
 have := i64_or b.m c.m
 unfold I64 at this
 unfold BFit withF at *
 simp only at *
 refine ⟨by omega, by omega, by omega, this, ?_, ?_, ?_, ?_, ?_, ?_, ?_⟩ <;> (split <;> omega)
theorem bfit_without {b : Bun} (k : Int) (h : BFit b) : BFit (withoutF b k) := by
 have := i64_andNot (bits .or .i64 b.m k) k
 unfold I64 at this
 unfold BFit withoutF at *
 simp only at *
 refine ⟨by omega, by omega, by omega, this, ?_, ?_, ?_, ?_, ?_, ?_, ?_⟩ <;> (split <;> omega)
theorem bfit_obey {b : Bun} {c : Cm} (h : BFit b) (hc : CmFit c) : BFit (obeyF b c).1 := by
 unfold obeyF
 split
 · exact h
 · split
   · exact bfit_zero
   · split
     · exact bfit_with h hc.1
     · split
       · exact bfit_without _ h
       · exact h
theorem bfit_hit {b : Bun} (hs : List Hit) (h : BFit b) : BFit (hitF hs b).1 := by
 unfold hitF
 split
 · exact bfit_hurt _ h
 · exact h
theorem bfit_each {f : Bun → Bun × Bool} {l : List Bun} (hf : ∀ b, BFit b → BFit (f b).1) (h : ∀ b ∈ l, BFit b) : ∀ b ∈ eachL f l, BFit b := fun b hb => by
 unfold eachL at hb
 obtain ⟨x, hx, rfl⟩ := List.mem_map.1 hb
 exact hf x (h x (List.mem_filter.1 hx).1)
theorem bfit_cmd {c : Cfg} {z : Int} {l : List Bun} {m : Cm} (h : ∀ b ∈ l, BFit b) (hm : CmFit m) : ∀ b ∈ cmdL c z l m, BFit b := fun b hb => by
 unfold cmdL at hb
 split at hb
 · split at hb
   · unfold insF at hb
     rcases List.mem_append.1 hb with hb | hb
     · exact h b (List.mem_of_mem_take hb)
     · rcases List.mem_cons.1 hb with rfl | hb
       · exact hm.1
       · exact h b (List.mem_of_mem_drop hb)
   · exact h b hb
 · exact bfit_each (fun x hx => bfit_obey hx hm) h b hb
theorem bfit_cmds (c : Cfg) (z : Int) : ∀ (ms : List Cm) (l : List Bun), (∀ b ∈ l, BFit b) → (∀ m ∈ ms, CmFit m) → ∀ b ∈ cmdsL c z l ms, BFit b
 | [], _, h, _ => h
 | m :: ms, l, h, hm => bfit_cmds c z ms _ (bfit_cmd h (hm m (by simp))) fun x hx => hm x (List.mem_cons_of_mem _ hx)
structure Rc (w1 wr : World) (n : Nat) (va vb vd : Value) (la lb : List Bun) (dd : List Nid) : Prop where
 tu : Tu2 w1 wr n none
 a : Sl wr 32 11 va la.length (bunCells la)
 b : Sl wr 32 11 vb lb.length (bunCells lb)
 d : RIb nidL wr vd dd
 ao : ∀ g, va.ownBlock = some g → w1.heap.size ≤ g
 bo : ∀ g, vb.ownBlock = some g → w1.heap.size ≤ g
 dn : ∀ g, vd.ownBlock = some g → n < g
 ab : ∀ g, va.ownBlock = some g → vb.ownBlock ≠ some g
 ad : ∀ g, va.ownBlock = some g → vd.ownBlock ≠ some g
 bd : ∀ g, vb.ownBlock = some g → vd.ownBlock ≠ some g
section
variable {w1 wr w' : World} {n : Nat} {va vb vd va' vb' vd' : Value} {la lb : List Bun} {dd dd' : List Nid} {x : Bun}
theorem Rc.start (h : RIb nidL w1 vd dd) (hn : ∀ g, vd.ownBlock = some g → n < g) : Rc w1 w1 n (.slice none 0 0) (.slice none 0 0) vd [] [] dd :=
 ⟨Tu2.refl _ _ _, ⟨rfl, .inl ⟨rfl, rfl⟩⟩, ⟨rfl, .inl ⟨rfl, rfl⟩⟩, h, (fun _ hg => by cases hg), (fun _ hg => by cases hg), hn, (fun _ hg => by cases hg), (fun _ hg => by cases hg), (fun _ hg => by cases hg)⟩
theorem Rc.grow (h : Rc w1 wr n va vb vd la lb dd) (hb : Below wr.heap.size wr w') : Rc w1 w' n va vb vd la lb dd :=
 ⟨h.tu.bel hb, h.a.grow hb, h.b.grow hb, h.d.keep hb, h.ao, h.bo, h.dn, h.ab, h.ad, h.bd⟩
theorem Rc.swap (h : Rc w1 wr n va vb vd la lb dd) : Rc w1 wr n vb va vd lb la dd :=
 ⟨h.tu, h.b, h.a, h.d, h.bo, h.ao, h.dn, (fun g hg e => h.ab g e hg), h.bd, h.ad⟩
theorem Rc.appA (h : Rc w1 wr n va vb vd la lb dd) (hs : Sl w' 32 11 va' (la.length + 1) (bunCells la ++ bunL x)) (ht : Turned wr w' va.ownBlock) (ho : va'.ownBlock = va.ownBlock ∨ ∃ g, va'.ownBlock = some g ∧ wr.heap.size ≤ g) : Rc w1 w' n va' vb vd (la ++ [x]) lb dd := by
 refine ⟨h.tu.tur ht fun g hg => .inr (.inr (h.ao g hg)), ?_, h.b.keep fun g hg => ht.block g (sl_lt h.b hg) fun e => h.ab g e.symm hg, h.d.turned ht fun g hg e => h.ad g e hg, fun g hg => ?_, h.bo, h.dn, fun g hg => ?_, fun g hg => ?_, h.bd⟩
 · rw [bunCells_app, List.length_append, show bunCells [x] = bunL x by simp [bunCells]]; exact hs
 · rcases ho with e | ⟨g', e, hg'⟩
   · exact h.ao g (e ▸ hg)
   · rw [e] at hg; cases hg; exact Nat.le_trans h.tu.size hg'
 · rcases ho with e | ⟨g', e, hg'⟩
   · exact h.ab g (e ▸ hg)
   · rw [e] at hg; cases hg; intro e2; have := sl_lt h.b e2; omega
 · rcases ho with e | ⟨g', e, hg'⟩
   · exact h.ad g (e ▸ hg)
   · rw [e] at hg; cases hg; intro e2; have := h.d.2.1 g e2; omega
theorem Rc.put (hn : n < w1.heap.size) (h : Rc w1 wr n va vb vd la lb dd) (hb : Below wr.heap.size wr w') (hr : RIb nidL w' vd' dd') (ho : OrNew wr vd vd') : Rc w1 w' n va vb vd' la lb dd' := by
 have hz := h.tu.size
 refine ⟨h.tu.bel hb, h.a.grow hb, h.b.grow hb, hr, h.ao, h.bo, fun g hg => ?_, h.ab, fun g hg => ?_, fun g hg => ?_⟩
 · rcases ho with rfl | ho
   · exact h.dn g hg
   · have := ho g hg; omega
 · rcases ho with rfl | ho
   · exact h.ad g hg
   · intro e; have := ho g e; have := sl_lt h.a hg; omega
 · rcases ho with rfl | ho
   · exact h.bd g hg
   · intro e; have := ho g e; have := sl_lt h.b hg; omega
theorem Rc.set (hn : n < w1.heap.size) (h : Rc w1 wr n va vb vd la lb dd) (u : Nat) (v : Value) : Rc w1 (wr.setCell ⟨n, u, none⟩ v) n va vb vd la lb dd := by
 have hk : ∀ k, k ≠ n → (wr.setCell ⟨n, u, none⟩ v).heap[k]? = wr.heap[k]? := fun k hk => Below.heap_setCell _ _ _ _ (fun e => hk e)
 refine ⟨h.tu.tur (setCells_turned n [v] u wr) fun g hg => by cases hg; exact .inr (.inl rfl), h.a.keep fun g hg => hk g (by have := h.ao g hg; omega), h.b.keep fun g hg => hk g (by have := h.bo g hg; omega), h.d.block (by simp [World.setCell]) fun g hg => hk g (by have := h.dn g hg; omega), h.ao, h.bo, h.dn, h.ab, h.ad, h.bd⟩
end
structure Bx (w : World) (n : Nat) (v0 v1 v2 : Value) : Prop where
 c : ∀ u, w.cell? ⟨n, u, none⟩ = (#[v0, v1, v2] : Array Value)[u]?
 f : ∀ u, w.frozen? ⟨n, u, none⟩ = false
theorem Bx.keep {w w' : World} {n : Nat} {v0 v1 v2 : Value} (h : Bx w n v0 v1 v2) (hb : w'.heap[n]? = w.heap[n]?) : Bx w' n v0 v1 v2 :=
 ⟨fun u => (World.cell?_of_block (w := w) (a := ⟨n, u, none⟩) hb).trans (h.c u), fun u => (World.frozen?_of_block (w := w) (a := ⟨n, u, none⟩) hb).trans (h.f u)⟩
theorem cell_store {w : World} {n : Nat} {vs : Array Value} {u : Nat} (hu : u < vs.size) (v : Value) (hc : ∀ j, w.cell? ⟨n, j, none⟩ = vs[j]?) (hf : ∀ j, w.frozen? ⟨n, j, none⟩ = false) :
 (∀ j, (w.setCell ⟨n, u, none⟩ v).cell? ⟨n, j, none⟩ = (vs.setIfInBounds u v)[j]?) ∧ ∀ j, (w.setCell ⟨n, u, none⟩ v).frozen? ⟨n, j, none⟩ = false := by
 have h6 := hc u
 rw [Array.getElem?_eq_getElem hu] at h6
 simp only [World.cell?] at h6
 split at h6
 · rename_i c e fr hb
   simp at h6
   have hcs := (Array.getElem?_eq_some_iff.1 h6).1
   have hs' : (w.setCell ⟨n, u, none⟩ v).heap[n]? = some (.cells (c.setIfInBounds u v) e fr) := by simp [World.setCell, Array.getElem?_modify, hb]
   have hcc : ∀ j, c[j]? = vs[j]? := fun j => by have := hc j; simpa [World.cell?, hb] using this
   refine ⟨fun j => ?_, fun j => ?_⟩
   · have e1 : (w.setCell ⟨n, u, none⟩ v).cell? ⟨n, j, none⟩ = (c.setIfInBounds u v)[j]? := by unfold World.cell?; rw [hs']; simp
     rw [e1]
     simp only [Array.getElem?_setIfInBounds, hcc]
     split <;> first | rfl | rw [if_pos (by omega)]
   · rw [← hf j]
     simp only [World.frozen?, hs', hb]
 · simp at h6
theorem Bx.set {w : World} {n : Nat} {v0 v1 v2 : Value} (h : Bx w n v0 v1 v2) (u : Nat) (hu : u < 3) (v : Value) :
 (∀ j, (w.setCell ⟨n, u, none⟩ v).cell? ⟨n, j, none⟩ = ((#[v0, v1, v2] : Array Value).setIfInBounds u v)[j]?) ∧ ∀ j, (w.setCell ⟨n, u, none⟩ v).frozen? ⟨n, j, none⟩ = false :=
 cell_store (vs := #[v0, v1, v2]) (by simpa using hu) v h.c h.f
theorem Bx.set0 {w : World} {n : Nat} {v0 v1 v2 : Value} (h : Bx w n v0 v1 v2) (v : Value) : Bx (w.setCell ⟨n, 0, none⟩ v) n v v1 v2 := ⟨(h.set 0 (by omega) v).1, (h.set 0 (by omega) v).2⟩
theorem Bx.set1 {w : World} {n : Nat} {v0 v1 v2 : Value} (h : Bx w n v0 v1 v2) (v : Value) : Bx (w.setCell ⟨n, 1, none⟩ v) n v0 v v2 := ⟨(h.set 1 (by omega) v).1, (h.set 1 (by omega) v).2⟩
theorem Bx.set2 {w : World} {n : Nat} {v0 v1 v2 : Value} (h : Bx w n v0 v1 v2) (v : Value) : Bx (w.setCell ⟨n, 2, none⟩ v) n v0 v1 v := ⟨(h.set 2 (by omega) v).1, (h.set 2 (by omega) v).2⟩
theorem RIb.tu {β : Type} {enc : β → List Value} {w w' : World} {v : Value} {l : List β} {n : Nat} (h : RIb enc w v l) (ht : Tu2 w w' n none) (hn : ∀ g, v.ownBlock = some g → g ≠ n) : RIb enc w' v l :=
 h.block ht.size fun g hg => ht.block g (h.2.1 g hg) (hn g hg) (fun e => by cases e)
structure Ry (w1 wr : World) (n : Nat) (vl vd : Value) (ll : List Bun) (dd : List Nid) : Prop where
 tu : Tu2 w1 wr n none
 l : RIb bunL wr vl ll
 d : RIb nidL wr vd dd
 ln : ∀ g, vl.ownBlock = some g → g ≠ n
 dn : ∀ g, vd.ownBlock = some g → n < g
theorem Ry.step {w1 wr w' : World} {n : Nat} {vl vd vl' vd' : Value} {ll ll' : List Bun} {dd dd' : List Nid} (hn : n < w1.heap.size) (h : Ry w1 wr n vl vd ll dd) (hb : Below wr.heap.size wr w') (hl : RIb bunL w' vl' ll') (hd : RIb nidL w' vd' dd') (ol : OrNew wr vl vl') (od : OrNew wr vd vd') (u : Nat) (v : Value) :
 Ry w1 (w'.setCell ⟨n, u, none⟩ v) n vl' vd' ll' dd' := by
 have hz := h.tu.size
 have hk : ∀ k, k ≠ n → (w'.setCell ⟨n, u, none⟩ v).heap[k]? = w'.heap[k]? := fun k hk => Below.heap_setCell _ _ _ _ (fun e => hk e)
 have hln : ∀ g, vl'.ownBlock = some g → g ≠ n := fun g hg => by
  rcases ol with rfl | ol
  · exact h.ln g hg
  · have := ol g hg; omega
 have hdn : ∀ g, vd'.ownBlock = some g → n < g := fun g hg => by
  rcases od with rfl | od
  · exact h.dn g hg
  · have := od g hg; omega
 exact ⟨(h.tu.bel hb).tur (setCells_turned n [v] u w') fun g hg => by cases hg; exact .inr (.inl rfl), hl.block (by simp [World.setCell]) fun g hg => hk g (hln g hg), hd.block (by simp [World.setCell]) fun g hg => hk g (by have := hdn g hg; omega), hln, hdn⟩
theorem each_cnt (f : Bun → Bun × Bool) : ∀ l : List Bun, (eachL f l).length + (eachD f l).length = l.length
 | [] => rfl
 | b :: l => by
   have h := each_cnt f l
   unfold eachL eachD at *
   simp only [List.length_map] at *
   cases hb : (f b).2 with
   | true => rw [List.filter_cons, if_pos (by simpa using hb), List.filter_cons, if_neg (by simp [hb])]; simp only [List.length_cons]; omega
   | false => rw [List.filter_cons, if_neg (by simp [hb]), List.filter_cons, if_pos (by simp [hb])]; simp only [List.length_cons]; omega
theorem cmd_cnt (c : Cfg) (z : Int) (l : List Bun) (m : Cm) : (cmdL c z l m).length + (cmdN l m).length ≤ l.length + 1 := by
 have h := cmdL_len c z l m
 unfold cmdN
 by_cases hk : m.k = 1
 · rw [if_pos hk]; simpa using h
 · rw [if_neg hk]
   have e : cmdL c z l m = eachL (fun b => obeyF b m) l := by unfold cmdL; rw [if_neg hk]
   rw [e]
   have := each_cnt (fun b => obeyF b m) l
   omega
theorem cmds_cnt (c : Cfg) (z : Int) : ∀ (ms : List Cm) (l : List Bun), (cmdsL c z l ms).length + (cmdsN c z l ms).length ≤ l.length + ms.length
 | [], l => by simp [cmdsL, cmdsN]
 | m :: ms, l => by
   have h1 := cmds_cnt c z ms (cmdL c z l m)
   have h2 := cmd_cnt c z l m
   show (cmdsL c z (cmdL c z l m) ms).length + (cmdN l m ++ cmdsN c z (cmdL c z l m) ms).length ≤ _
   simp only [List.length_append, List.length_cons]; omega
end
def RunQ (w : World) (own gone : List Bun) (dead : List Nid) (e : Ending) (w' : World) : Prop :=
 ∃ va vb vd, e = .returned (.agg #[va, vb, vd]) ∧ Below w.heap.size w w' ∧ BIn w' va own ∧ BIn w' vb gone ∧ RIn nidL w' vd dead
def RunM (w : World) (own gone : List Bun) (dead : List Nid) (e : Ending) (w' : World) : Prop :=
 ∃ va vb vd, e = .returned (.agg #[va, vb, vd]) ∧ BNew w w' va own ∧ BNew w w' vb gone ∧ RIb nidL w' vd dead ∧ (∀ g, vd.ownBlock = some g → w.heap.size ≤ g) ∧ ∀ g, va.ownBlock = some g → vd.ownBlock ≠ some g
theorem RunM.q {w : World} {own gone : List Bun} {dead : List Nid} {e : Ending} {w' : World} (h : RunM w own gone dead e w') : RunQ w own gone dead e w' := by
 obtain ⟨va, vb, vd, h1, h2, h3, h4, _⟩ := h
 exact ⟨va, vb, vd, h1, h2.2.1, h2.bin, h3.bin, h4.1⟩
theorem hit_hurt (hs : List Hit) (b : Bun) : hitF hs b = hurtF b (hitN hs b.s b.i b.g) := by
 unfold hitF hitN
 cases hs.find? fun h => idEq h.s h.i h.g b.s b.i b.g with
 | some h => rfl
 | none => unfold hurtF; rw [if_pos (.inr (by simp))]
theorem run15_new (cols rows side radius speed ids queue z : Int) (vo vn vc : Value) (own near : List Bun) (ms : List Cm) (w : World) (ho : CfgOk ⟨cols, rows, side, radius, speed, ids, queue⟩) (hz0 : -1 ≤ z) (hz1 : z < cols * rows) (h1 : BIn w vo own) (h2 : BIn w vn near) (h3 : RIn cmC w vc ms)
 (hf1 : ∀ b ∈ own, BFit b) (hf2 : ∀ b ∈ near, BFit b) (hf3 : ∀ m ∈ ms, CmFit m) (hl1 : own.length ≤ 1000) (hl2 : near.length ≤ 1000) (hl3 : ms.length ≤ 1000) :
 Calls prog 23 #[.agg #[int i64 cols, int i64 rows, int i64 side, int i64 radius, int i64 speed, int i64 ids, int i64 queue], int i64 z, vo, vn, vc] w (RunM w (ownL ⟨cols, rows, side, radius, speed, ids, queue⟩ z own near ms) (goneL ⟨cols, rows, side, radius, speed, ids, queue⟩ z own near ms) (setN (deadN ⟨cols, rows, side, radius, speed, ids, queue⟩ z own near ms))) := by
 obtain ⟨i0, hi0, hz0', hz1', hz2'⟩ := info_parts info_bunJ
 generalize hres : RunM w (ownL ⟨cols, rows, side, radius, speed, ids, queue⟩ z own near ms) (goneL ⟨cols, rows, side, radius, speed, ids, queue⟩ z own near ms) (setN (deadN ⟨cols, rows, side, radius, speed, ids, queue⟩ z own near ms)) = Q
 have HRES := hid hres
 clear hres
 have HHI := hid (fun W (hW : Below w.heap.size w W) => rHits_any radius vo vn own near W (h1.keep hW) (h2.keep hW) hf1 hf2 hl1 hl2)
 have HSO := hid (fun W (hW : Below w.heap.size w W) => rsorted_any vo own W (h1.keep hW) (by omega))
 have HFS := hid (fun b (hb : b ∈ stableF cmpBun own) => hf1 b ((stF_perm _).mem_iff.1 hb))
 have H3 := hid h3
 have HF3 := hid hf3
 have hsl : (stableF cmpBun own).length ≤ 1000 := by rw [stableF_len]; exact hl1
 have HO := hid ho
 generalize hhs : hitsF radius own near = hs at *
 generalize hso : stableF cmpBun own = so at *
 have HHS := hid hhs; have HSS := hid hso
 have HF1 := hid hf1
 obtain ⟨q1, q2⟩ := ho.cnt
 simp only at q1 q2
 obtain ⟨cnt, hcnt⟩ : ∃ cnt : Nat, cols * rows = (cnt : Int) := ⟨(cols * rows).toNat, by omega⟩
 rw [hcnt] at hz1
 have v1 : IntKind.i64.wrap (cols * rows) = (cnt : Int) := by rw [hcnt, IntKind.wrap_i64]; omega
 have d1 : ¬ z < -1 := by omega
 have d2 : ¬ (cnt : Int) ≤ z := by omega
 obtain ⟨po, eo, rfl, _⟩ := h1
 obtain ⟨pn, en, rfl, _⟩ := h2
 obtain ⟨pc, ec, rfl, hmc, _⟩ := h3
 unfold maxLen at hmc
 clear ho hf1 hf2 hf3 hhs hso hcnt q1 q2
 obtain ⟨wz, hwz, hbz, k5, k10, g5, g10, hsz⟩ := two_boxes w #[int i64 cols, int i64 rows, int i64 side, int i64 radius, int i64 speed, int i64 ids, int i64 queue] #[.slice none 0 0, .slice none 0 0, .slice none 0 0] 23 58
 obtain ⟨k11, g11, s11, b11⟩ := new_box wz #[.slice none 0 0, .slice none 0 0, .slice none 0 0] 58 (w.heap.size + 1 + 1) (by omega)
 have hb1 := hbz.trans (b11.mono hbz.size)
 have s5z : w.heap.size < wz.heap.size := by omega
 have s10z : w.heap.size + 1 < wz.heap.size := by omega
 have K5 := hid (box_on b11 s5z k5)
 have K10 := hid (box_on b11 s10z k10)
 have G10 := hid (box_fr b11 s10z g10)
 have s5 := Nat.lt_of_lt_of_le s5z b11.size
 have s10 := Nat.lt_of_lt_of_le s10z b11.size
 obtain ⟨w1, hw1⟩ : ∃ w1, w1 = wz.alloc (.cells #[.slice none 0 0, .slice none 0 0, .slice none 0 0] 58) := ⟨_, rfl⟩
 rw [← hw1] at hb1 k11 g11 s11 K5 K10 G10 s5 s10
 rw [hwz] at hw1
 have HW1 := hid hw1
 have HX1 := hid (⟨k11, g11⟩ : Bx w1 (w.heap.size + 1 + 1) (.slice none 0 0) (.slice none 0 0) (.slice none 0 0))
 have HB1 := hid hb1
 have HS11 := hid s11
 have l1 : w.heap.size < w.heap.size + 1 + 1 := by omega
 have l2 : w.heap.size + 1 < w.heap.size + 1 + 1 := by omega
 have a0 := K5.out 0; simp at a0; have a1 := K5.out 1; simp at a1; have a2 := K5.out 2; simp at a2; have a3 := K5.out 3; simp at a3; have a4 := K5.out 4; simp at a4; have a5 := K5.out 5; simp at a5; have a6 := K5.out 6; simp at a6
 clear hwz hbz k5 k10 g5 g10 hsz k11 g11 b11 hw1 s5z s10z
 go_enter Tryz.func23, Tryz.ntmps23
 go_upto_region 2 with fail
 rw [← HW1.out]
 clear HW1
 generalize hn11 : w.heap.size + 1 + 1 = n11 at *
 have HN11 := hid hn11
 clear hn11
 generalize hn10 : w.heap.size + 1 = n10 at *
 have HN10 := hid hn10
 clear hn10
 go_wp2_with fail
 refine (HHI.out _ hb1).mono ?_; rintro e w' ⟨vh, rfl, hH⟩
 obtain ⟨w2, rfl⟩ : ∃ w2 : World, w2 = w' := ⟨_, rfl⟩
 obtain ⟨ph, eh, rfl⟩ := sl_frm hH.1
 have hb2 := hb1.trans (hH.2.1.mono hb1.size)
 have HH2 := hid hH
 have K52 := hid (box_on hH.2.1 s5 K5.out)
 clear hH a0 a1 a2 a3 a4 a5 a6
 go_wp2_with fail
 refine (HSO.out _ hb2).mono ?_; rintro e w' ⟨vs, rfl, hS⟩
 obtain ⟨w3, rfl⟩ : ∃ w3 : World, w3 = w' := ⟨_, rfl⟩
 obtain ⟨ps, es, rfl⟩ := sl_frm hS.1
 have hb13 := HH2.out.2.1.trans (hS.2.1.mono HH2.out.2.1.size)
 have HH := hid (RIb.of_sl (HH2.out.grow hS.2.1).1)
 have HHN := hid (fun g hg => show g ≠ n11 by have := HH2.out.2.2 g hg; have := HS11.out; omega)
 have HS := hid (show RIb bunL w3 _ so from RIb.of_sl hS.1)
 have HSN := hid (fun g hg => show g ≠ n11 by have := hS.2.2 g hg; have := HS11.out; have := HH2.out.2.1.size; omega)
 have K53 := hid (box_on hb13 s5 K5.out)
 have K103 := hid (box_on hb13 s10 K10.out)
 have G103 := hid (box_fr hb13 s10 G10.out)
 have HX3 := hid (HX1.out.keep (hb13.block n11 HS11.out))
 have HB3 := hid (hb1.trans (hb13.mono hb1.size))
 have s11 : n11 < w3.heap.size := Nat.lt_of_lt_of_le HS11.out hb13.size
 have s5' : w.heap.size < w3.heap.size := by omega
 have s10' : n10 < w3.heap.size := by omega
 clear hS hb2 hb13 hb1 HH2 K52 K5 K10 G10 HX1 HB1 HS11 HHI HSO s5 s10
 have hlp : ∀ t x, so[t]? = some x → eachL (hitF hs) (so.take (t + 1)) = eachL (hitF hs) (so.take t) ++ (if (hitF hs x).2 then [(hitF hs x).1] else []) := fun t x h => eachL_step (hitF hs) h
 have hdp : ∀ t x, so[t]? = some x → eachD (hitF hs) (so.take (t + 1)) = eachD (hitF hs) (so.take t) ++ (if (hitF hs x).2 then [] else [idOf x]) := fun t x h => eachD_step (hitF hs) h
 have HLP := hid hlp; have HDP := hid hdp
 have HLL := hid (fun t => eachL_le (hitF hs) so t)
 have HDL := hid (fun t => eachD_le (hitF hs) so t)
 clear hlp hdp
 go_wp2_with fail
 go_loopg [14, 15] so.length (fun kx o sx wr => ∃ (t : Nat) (vd : Value), sx = int i64 t ∧ t ≤ so.length ∧ so.length - t ≤ kx ∧ Hid (Rc w3 wr n11 o (.slice none 0 0) vd (eachL (hitF hs) (so.take t)) [] ((eachD (hitF hs) (so.take t)).foldl putN [])) ∧ Hid (Bx wr n11 (.slice none 0 0) (.slice none 0 0) vd))
 case atStart => exact ⟨0, .slice none 0 0, by go_num, by omega, by omega, hid (Rc.start ⟨rin_zero _, (fun g hg => by cases hg), .inl rfl⟩ (fun g hg => by cases hg)), HX3⟩
 case round =>
  obtain ⟨t, vd, rfl, ht, hkx, HR, HX⟩ := hrel
  obtain ⟨wa, rfl⟩ : ∃ wa : World, wa = wr := ⟨_, rfl⟩
  have hta := HR.out.tu
  have hza := hta.size
  have hal := HLL.out t
  have hdl := HDL.out t
  have s11a : n11 < wa.heap.size := by omega
  obtain ⟨pd, cd, hpd, _⟩ := HR.out.d.1
  subst hpd
  have hpl := putNs_len (eachD (hitF hs) (so.take t)) []
  rw [List.length_nil, Nat.zero_add] at hpl
  obtain ⟨po', co', hpo⟩ := sl_frm HR.out.a
  subst hpo
  have HHA := hid (HH.out.tu hta HHN.out)
  by_cases hlt : t < so.length
  · have t1 : (t : Int) < (so.length : Int) := by omega
    obtain ⟨x0, hx0⟩ : ∃ x0, so[t]? = some x0 := ⟨_, List.getElem?_eq_getElem hlt⟩
    have HSA := hid (HS.out.tu hta HSN.out)
    obtain ⟨gb, ob, cb, hv, hgb, hcb⟩ := BIn.cells HSA.out.1 hx0
    simp only [Value.slice.injEq, true_and] at hv
    obtain ⟨rfl, rfl⟩ := hv
    have c0 := hcb 0 _ rfl; have c1 := hcb 1 _ rfl; have c2 := hcb 2 _ rfl; have c3 := hcb 3 _ rfl; have c4 := hcb 4 _ rfl; have c5 := hcb 5 _ rfl; have c6 := hcb 6 _ rfl; have c7 := hcb 7 _ rfl; have c8 := hcb 8 _ rfl; have c9 := hcb 9 _ rfl; have c10 := hcb 10 _ rfl
    simp only [Nat.add_zero] at c0
    obtain ⟨e0, e1', e2'⟩ := ltz hgb
    have HXL := hid (HLP.out t x0 hx0)
    have HXD := hid (HDP.out t x0 hx0)
    have hfx := HFS.out x0 (List.mem_of_getElem? hx0)
    have HHT := hid (fun W (hW : Below wa.heap.size wa W) => hit15_any _ hs x0.s x0.i x0.g W (HHA.out.1.keep hW))
    have hhu := fun W => rHurt_any x0.s x0.i x0.g x0.m x0.x x0.y x0.vx x0.vy x0.hp x0.pw x0.lf (hitN hs x0.s x0.i x0.g) W hfx.2.2.2.2.2.2.2.2.1 hfx.2.2.2.1
    rw [show hurtF ⟨x0.s, x0.i, x0.g, x0.m, x0.x, x0.y, x0.vx, x0.vy, x0.hp, x0.pw, x0.lf⟩ (hitN hs x0.s x0.i x0.g) = hitF hs x0 from (hit_hurt hs x0).symm] at hhu
    have HHU := hid hhu
    have HX0 := hid hx0
    clear hcb hx0 hhu hfx hta
    generalize hitF hs x0 = r at *
    generalize eachL (hitF hs) (so.take t) = la at *
    generalize eachD (hitF hs) (so.take t) = da at *
    generalize hpd : da.foldl putN [] = pdl at *
    have HPD := hid hpd
    clear hpd
    generalize hitN hs x0.s x0.i x0.g = hn at *
    obtain ⟨⟨sw, iw, gw, mw, xw, yw, vxw, vyw, hpw, pww, lfw⟩, ok⟩ := r
    obtain ⟨s, i, g, m, x, y, vx, vy, hp, pw, lf⟩ := x0
    simp only at HHT HHU HXL HXD c0 c1 c2 c3 c4 c5 c6 c7 c8 c9 c10
    go_upto_region 10 with fail
    go_cut [16, 17] (fun sq ss wx => Boxed wa wa.heap.size #[int i64 sw, int i64 iw, int i64 gw, int i64 mw, int i64 xw, int i64 yw, int i64 vxw, int i64 vyw, int i64 hpw, int i64 pww, int i64 lfw] 32 sq wx ∧ ss = .bool ok)
    case first =>
     go_region_held3 (fun W => (wa).heap.size ≤ W.heap.size ∧ ∀ b o, b < (wa).heap.size → W.cell? ⟨b, o, none⟩ = (wa).cell? ⟨b, o, none⟩) (with_reducible (repeat (first | assumption | exact s_refl _ | exact s_id _ | refine s_more _ _ ?_ | refine s_alloc _ ?_ | refine s_drew ?_))) (first | (go_at_call 53; refine belA (HHT.out _ bg) fun d1 os1 => ?_) | (go_at_call 52; refine belA (HHU.out _) fun d2 os2 => ?_))
     all_goals (clear c0 c1 c2 c3 c4 c5 c6 c7 c8 c9 c10 e0 e1' e2')
     all_goals (go_wp2_with fail; go_meet)
     all_goals (refine ⟨?_, rfl⟩; ((with_reducible (repeat (first | exact grew_refl _ | exact grew_redrawn _ _ _ _ | refine boxed_drew ?_ | refine boxed_more _ _ ?_ | refine boxed_end ?_ ?_ ?_ | refine grew_more _ _ ?_ | refine grew_drew ?_))); (all_goals (try simp))))
    obtain ⟨⟨d1, os1, d2, os2, rfl, hwc⟩, rfl⟩ := hcut
    obtain ⟨wx, rfl⟩ : ∃ wx : World, wx = wc := ⟨_, rfl⟩
    have hbx : Below wa.heap.size wa wx := by rw [hwc]; exact bg
    have hnb := new_box (more wa d1 os1) #[int i64 sw, int i64 iw, int i64 gw, int i64 mw, int i64 xw, int i64 yw, int i64 vxw, int i64 vyw, int i64 hpw, int i64 pww, int i64 lfw] 32 (wa.heap.size + os1.size) (by simp)
    have hmb : Below ((more wa d1 os1).alloc (.cells #[int i64 sw, int i64 iw, int i64 gw, int i64 mw, int i64 xw, int i64 yw, int i64 vxw, int i64 vyw, int i64 hpw, int i64 pww, int i64 lfw] 32)).heap.size ((more wa d1 os1).alloc (.cells #[int i64 sw, int i64 iw, int i64 gw, int i64 mw, int i64 xw, int i64 yw, int i64 vxw, int i64 vyw, int i64 hpw, int i64 pww, int i64 lfw] 32)) wx := by rw [hwc]; exact more_below _ _ _
    have kx := box_on hmb hnb.2.2.1 hnb.1
    have sx := Nat.lt_of_lt_of_le hnb.2.2.1 hmb.size
    have HRX := hid (HR.out.grow hbx)
    have HXX := hid (HX.out.keep (hbx.block n11 s11a))
    have HSX := hid (HSA.out.keep hbx)
    have s11x := Nat.lt_of_lt_of_le s11a hbx.size
    generalize wa.heap.size + os1.size = n16 at *
    clear hwc hnb hmb hbx c0 c1 c2 c3 c4 c5 c6 c7 c8 c9 c10 e0 e1' e2'
    cases ok with
    | true =>
      simp only [if_true, List.append_nil] at HXL HXD
      have q0 := kx 0; simp at q0; have q1 := kx 1; simp at q1; have q2 := kx 2; simp at q2; have q3 := kx 3; simp at q3; have q4 := kx 4; simp at q4; have q5 := kx 5; simp at q5; have q6 := kx 6; simp at q6; have q7 := kx 7; simp at q7; have q8 := kx 8; simp at q8; have q9 := kx 9; simp at q9; have q10 := kx 10; simp at q10
      obtain ⟨f0, f1, f2⟩ := ltz sx
      clear kx
      go_wp2_with (at_builtin; refine wpList_append_sl _ (by rfl) _ _ 37 (by rfl) 32 i0 _ 11 88 Tryz.underlying37 hi0 hz0' hz1' hz2' rfl (by omega) _ la.length (bunCells la) (by rfl) (HRX.out.grow bg).a ⟨_, 0, none⟩ 1 1 (bunL ⟨sw, iw, gw, mw, xw, yw, vxw, vyw, hpw, pww, lfw⟩) (by rfl) (by rfl) (new_cellsN _ _ _ _ (by simp)) (bunL_one _) (by omega) (by unfold maxLen; omega) (by omega) ?_; intro v' w4 hs4 ht4 ho4)
      have hm := (HRX.out.grow bg).appA hs4 ht4 ho4
      have hmx := (HXX.out.keep (w' := w4) ((ht4.block n11 (Nat.lt_of_lt_of_le s11x (Below.size (B := wx.heap.size) (w := wx) bg)) (fun e => by have := HRX.out.ao n11 e.symm; omega)).trans (Below.block (B := wx.heap.size) (w := wx) bg n11 s11x)))
      have HM := hid hm
      have HMX := hid hmx
      clear hs4 ht4 ho4 hm hmx
      go_roundg (so.length - (t + 1))
      case measure => omega
      case rel => exact ⟨t + 1, _, by go_num, by omega, by omega, hid (by rw [HXL.out, HXD.out, HPD.out]; exact HM.out), HMX⟩
    | false =>
      simp only [Bool.false_eq_true, if_false, List.append_nil] at HXL HXD
      obtain ⟨gb2, ob2, cb2, hv2, hgb2, hcb2⟩ := BIn.cells HSX.out.1 HX0.out
      simp only [Value.slice.injEq, Option.some.injEq, Addr.mk.injEq, true_and, and_true] at hv2
      obtain ⟨⟨rfl, rfl⟩, rfl⟩ := hv2
      have c0 := hcb2 0 _ rfl; have c1 := hcb2 1 _ rfl; have c2 := hcb2 2 _ rfl
      simp only [Nat.add_zero] at c0
      obtain ⟨e0, e1', e2'⟩ := ltz hgb2
      obtain ⟨f0, f1, f2⟩ := ltz s11x
      have b2 := HXX.out.c 2
      simp at b2
      have g2 := HXX.out.f 2
      have HWI := hid (fun W (hW : Below wx.heap.size wx W) => with15_any _ pdl s i g W (HRX.out.d.keep hW) (by omega))
      clear hcb2 kx
      go_upto_region 13 with fail
      refine wp_region_x (S := fun W' => wx.heap.size ≤ W'.heap.size ∧ ∀ b o, b < wx.heap.size → W'.cell? ⟨b, o, none⟩ = wx.cell? ⟨b, o, none⟩) 9 (by kernel_rfl) (by with_reducible (repeat (first | assumption | exact s_refl _ | exact s_id _ | refine s_more _ _ ?_ | refine s_alloc _ ?_ | refine s_drew ?_))) (fun hHeld => ?_)
      refine anyX_tk 0 (v := ?_) rfl ?_ (by assumption) ?_
      rotate_left 1
      · (intro w hSw; (try dsimp only at hSw); go_simp; (try with_reducible rfl))
      simp [Act.put]
      refine anyX_tk 1 (v := ?_) rfl ?_ (by assumption) ?_
      rotate_left 1
      · (intro w hSw; (try dsimp only at hSw); go_simp; (try with_reducible rfl))
      simp [Act.put]
      refine anyX_tk 2 (v := ?_) rfl ?_ (by assumption) ?_
      rotate_left 1
      · (intro w hSw; (try dsimp only at hSw); go_simp; (try with_reducible rfl))
      simp [Act.put]
      refine anyX_tk 3 (v := ?_) rfl ?_ (by assumption) ?_
      rotate_left 1
      · (intro w hSw; (try dsimp only at hSw); go_simp; (try with_reducible rfl))
      simp [Act.put]
      refine anyX_tk 4 (v := ?_) rfl ?_ (by assumption) ?_
      rotate_left 1
      · (intro w hSw; (try dsimp only at hSw); go_simp; (try with_reducible rfl))
      simp [Act.put]
      refine anyX_tk 5 (v := ?_) rfl ?_ (by assumption) ?_
      rotate_left 1
      · (intro w hSw; (try dsimp only at hSw); go_simp; (try with_reducible rfl))
      simp [Act.put]
      refine anyX_tk 6 (v := ?_) rfl ?_ (by assumption) ?_
      rotate_left 1
      · (intro w hSw; (try dsimp only at hSw); go_simp; (try with_reducible rfl))
      simp [Act.put]
      refine anyX_r1 7 fun K hK => ?_
      (go_simp; go_at_call 54; refine (HWI.out _ bg).mono ?_; rintro e w' ⟨vq, rfl, hb, hr, ho⟩; obtain ⟨d1, os1, rfl⟩ := more_of hb; obtain ⟨pq, cq, hvq, _⟩ := hr.1; subst hvq; (try simp only [more_of_drew] at hb hr ho ⊢))
      refine hK.out _ _ (fun hlt => ?_) (fun hHeld => ?_)
      · (try dsimp only); with_reducible (repeat (first | assumption | exact s_refl _ | exact s_id _ | refine s_more _ _ ?_ | refine s_alloc _ ?_ | refine s_drew ?_))
      clear hK
      replace hHeld := hHeld (by omega); try simp [Act.put]
      refine anyX_tk 8 (v := ?_) rfl ?_ (by assumption) ?_
      rotate_left 1
      · (intro w hSw; (try dsimp only at hSw); go_simp; (try with_reducible rfl))
      simp [Act.put]
      refine anyX_r1 9 fun K hK => ?_
      go_simp
      refine hK.out _ _ (fun hlt => ?_) (fun hHeld => ?_)
      · exact absurd hlt (by omega)
      clear hK
      clear hHeld; try simp [Act.put]
      refine anyX_done (by kernel_rfl) ?_ _
      clear b2 g2 c0 c1 c2 e0 e1' e2' f0 f1 f2
      have hm := (Rc.put s11 HRX.out (more_below wx d1 os1) hr (show OrNew wx _ _ from ho)).set s11 2 (.slice pq (putN pdl ⟨s, i, g⟩).length cq)
      have hmx := (HXX.out.keep ((more_below wx d1 os1).block n11 s11x)).set2 (.slice pq (putN pdl ⟨s, i, g⟩).length cq)
      rw [more_setCell _ _ _ _ _ s11x] at hm hmx
      have HM := hid hm
      have HMX := hid hmx
      clear hm hmx hb hr ho
      go_wp2_with fail
      go_roundg (so.length - (t + 1))
      case measure => omega
      case rel => exact ⟨t + 1, _, by go_num, by omega, by omega, hid (by rw [HXL.out, HXD.out, List.foldl_append, HPD.out]; exact HM.out), HMX⟩
  · have t1 : ¬ (t : Int) < (so.length : Int) := by omega
    obtain rfl : t = so.length := by omega
    rw [List.take_length] at HR HX hal hdl hpl ⊢
    have HRY := hid (⟨Tu2.refl _ _ _, RIb.of_sl HR.out.a, HR.out.d, (fun g hg => by have := HR.out.ao g hg; omega), HR.out.dn⟩ : Ry wa wa n11 _ _ _ _)
    have hk : ∀ k, k < w3.heap.size → k ≠ n11 → wa.heap[k]? = w3.heap[k]? := fun k h1 h2 => hta.block k h1 h2 (fun e => by cases e)
    have K54 := hid (fun u => (World.cell?_of_block (w := w3) (a := ⟨w.heap.size, u, none⟩) (hk w.heap.size s5' (by have := HN11.out; omega))).trans (K53.out u))
    have K104 := hid (fun u => (World.cell?_of_block (w := w3) (a := ⟨n10, u, none⟩) (hk n10 s10' (by have := HN11.out; have := HN10.out; omega))).trans (K103.out u))
    have G104 := hid (fun u => (World.frozen?_of_block (w := w3) (a := ⟨n10, u, none⟩) (hk n10 s10' (by have := HN11.out; have := HN10.out; omega))).trans (G103.out u))
    have HB4 := hid (hta.below HB3.out (by have := HN11.out; omega) (fun g hg => by cases hg))
    have s54 : w.heap.size < wa.heap.size := by omega
    have s104 : n10 < wa.heap.size := by omega
    have hll : (eachL (hitF hs) so).length ≤ 1000 := by omega
    have hdd : ((eachD (hitF hs) so).foldl putN []).length ≤ 1000 := by omega
    have HFL := hid (bfit_each (fun _ hx => bfit_hit hs hx) HFS.out)
    have e1 : hurtL radius own near = eachL (hitF hs) so := by unfold hurtL; rw [HHS.out, HSS.out]
    have e2 : hurtN radius own near = eachD (hitF hs) so := by unfold hurtN; rw [HHS.out, HSS.out]
    have HE1 := hid e1; have HE2 := hid e2
    clear HR hta hk K53 K103 G103 HB3 HHA HH HS HSN HHN HLP HDP HLL HDL HX3 e1 e2 hal hdl hpl
    generalize eachL (hitF hs) so = l4 at *
    generalize eachD (hitF hs) so = da4 at *
    generalize hd4 : da4.foldl putN [] = d4 at *
    have HD4 := hid hd4
    clear hd4
    have HLS := hid (fun t m h => cmdsL_step ⟨cols, rows, side, radius, speed, ids, queue⟩ z l4 (ms := ms) (t := t) (m := m) h)
    have HNS := hid (fun t m h => cmdsN_step ⟨cols, rows, side, radius, speed, ids, queue⟩ z l4 (ms := ms) (t := t) (m := m) h)
    have HCL := hid (fun t => cmds_cnt ⟨cols, rows, side, radius, speed, ids, queue⟩ z (ms.take t) l4)
    have HCF := hid (fun t => bfit_cmds ⟨cols, rows, side, radius, speed, ids, queue⟩ z (ms.take t) l4 HFL.out (fun m hm => HF3.out m (List.mem_of_mem_take hm)))
    go_wp2_with fail
    go_loopg [14, 18] ms.length (fun kx o sx wr => ∃ (t : Nat) (vd : Value), sx = int i64 t ∧ t ≤ ms.length ∧ ms.length - t ≤ kx ∧ Hid (Ry wa wr n11 o vd (cmdsL ⟨cols, rows, side, radius, speed, ids, queue⟩ z l4 (ms.take t)) ((cmdsN ⟨cols, rows, side, radius, speed, ids, queue⟩ z l4 (ms.take t)).foldl putN d4)) ∧ Hid (Bx wr n11 (.slice none 0 0) (.slice none 0 0) vd))
    case atStart => exact ⟨0, _, by go_num, by omega, by omega, HRY, HX⟩
    case round =>
     obtain ⟨t, vd, rfl, ht, hkx, HY, HX2⟩ := hrel
     obtain ⟨wb, rfl⟩ : ∃ wb : World, wb = wr := ⟨_, rfl⟩
     have htb := HY.out.tu
     have hzb := htb.size
     have s11b : n11 < wb.heap.size := by omega
     have s5b : w.heap.size < wb.heap.size := by omega
     have s11a : n11 < wa.heap.size := by omega
     have hk : ∀ k, k < wa.heap.size → k ≠ n11 → wb.heap[k]? = wa.heap[k]? := fun k h1 h2 => htb.block k h1 h2 (fun e => by cases e)
     have K5b := hid (fun u => (World.cell?_of_block (w := wa) (a := ⟨w.heap.size, u, none⟩) (hk w.heap.size s54 (by have := HN11.out; omega))).trans (K54.out u))
     have HBb := hid (htb.below HB4.out (by have := HN11.out; omega) (fun g hg => by cases hg))
     obtain ⟨f0, f1, f2⟩ := ltz s11b
     obtain ⟨f3, f4, f5⟩ := ltz s5b
     have hcl := HCL.out t
     rw [List.length_take] at hcl
     obtain ⟨pl4, cl4, hpl, _⟩ := HY.out.l.1
     subst hpl
     obtain ⟨pd4, cd4, hpd, _⟩ := HY.out.d.1
     subst hpd
     by_cases hlt : t < ms.length
     · have t1 : (t : Int) < (ms.length : Int) := by omega
       obtain ⟨m0, hm0⟩ : ∃ m0, ms[t]? = some m0 := ⟨_, List.getElem?_eq_getElem hlt⟩
       obtain ⟨gb, ob, cb, hv, hgb, hcb⟩ := (H3.out.keep HBb.out).cells cmC_len hm0
       simp only [Value.slice.injEq, true_and] at hv
       obtain ⟨rfl, rfl⟩ := hv
       have c0 := hcb 0 _ rfl; have c1 := hcb 1 _ rfl; have c2 := hcb 2 _ rfl; have c3 := hcb 3 _ rfl; have c4 := hcb 4 _ rfl; have c5 := hcb 5 _ rfl; have c6 := hcb 6 _ rfl; have c7 := hcb 7 _ rfl; have c8 := hcb 8 _ rfl; have c9 := hcb 9 _ rfl; have c10 := hcb 10 _ rfl; have c11 := hcb 11 _ rfl; have c12 := hcb 12 _ rfl; have c13 := hcb 13 _ rfl; have c14 := hcb 14 _ rfl; have c15 := hcb 15 _ rfl
       simp only [Nat.add_zero] at c0
       obtain ⟨e0, e1', e2'⟩ := ltz hgb
       have a0 := K5b.out 0; simp at a0; have a1 := K5b.out 1; simp at a1; have a2 := K5b.out 2; simp at a2; have a3 := K5b.out 3; simp at a3; have a4 := K5b.out 4; simp at a4; have a5 := K5b.out 5; simp at a5; have a6 := K5b.out 6; simp at a6
       have b2 := HX2.out.c 2
       simp at b2
       have g2 := HX2.out.f 2
       have hfm := HF3.out m0 (List.mem_of_getElem? hm0)
       have hfl := HCF.out t
       have HSL := hid (HLS.out t m0 hm0)
       have HSN := hid (HNS.out t m0 hm0)
       generalize cmdsL ⟨cols, rows, side, radius, speed, ids, queue⟩ z l4 (ms.take t) = lt at *
       generalize cmdsN ⟨cols, rows, side, radius, speed, ids, queue⟩ z l4 (ms.take t) = nt at *
       generalize hdt : nt.foldl putN d4 = dt at *
       have hcn := putNs_len nt d4
       rw [hdt] at hcn
       obtain ⟨mk, msn, mi, mg, ⟨s', i', g', m', x', y', vx', vy', hp', pw', lf'⟩, mmk⟩ := m0
       have HCM := hid (fun W (hW : Below wb.heap.size wb W) => cmd15_any cols rows side radius speed ids queue z _ _ lt dt mk msn mi mg s' i' g' m' x' y' vx' vy' hp' pw' lf' mmk W HO.out (HY.out.l.keep hW) (HY.out.d.keep hW) (by omega) (by omega) (fun b hb => (hfl b hb).2.2.2.1) hfm.1.2.2.2.1 hfm.2)
       generalize cmdL ⟨cols, rows, side, radius, speed, ids, queue⟩ z lt ⟨mk, msn, mi, mg, ⟨s', i', g', m', x', y', vx', vy', hp', pw', lf'⟩, mmk⟩ = lt' at *
       generalize cmdN lt ⟨mk, msn, mi, mg, ⟨s', i', g', m', x', y', vx', vy', hp', pw', lf'⟩, mmk⟩ = nn at *
       have HDT := hid hdt
       clear hcb hm0 hdt hfm hfl hk
       go_upto_region 17 with fail
       go_region_held3 (fun W => (wb).heap.size ≤ W.heap.size ∧ ∀ b o, b < (wb).heap.size → W.cell? ⟨b, o, none⟩ = (wb).cell? ⟨b, o, none⟩) (with_reducible (repeat (first | assumption | exact s_refl _ | exact s_id _ | refine s_more _ _ ?_ | refine s_alloc _ ?_ | refine s_drew ?_))) (first | (go_at_call 55; refine (HCM.out _ bg).mono ?_; rintro e w' ⟨vl', vd', rfl, hb, hl', hd', hol, hod⟩; obtain ⟨d1, os1, rfl⟩ := more_of hb; obtain ⟨pl5, cl5, hvl, _⟩ := hl'.1; subst hvl; obtain ⟨pd5, cd5, hvd, _⟩ := hd'.1; subst hvd; (try simp only [more_of_drew] at hl' hd' ⊢)))
       clear c0 c1 c2 c3 c4 c5 c6 c7 c8 c9 c10 c11 c12 c13 c14 c15 e0 e1' e2' a0 a1 a2 a3 a4 a5 a6
       have hm := HY.out.step s11a (more_below wb d1 os1) hl' hd' (show OrNew wb _ _ from hol) (show OrNew wb _ _ from hod) 2 (.slice pd5 (nn.foldl putN dt).length cd5)
       have hmx := (HX2.out.keep ((more_below wb d1 os1).block n11 s11b)).set2 (.slice pd5 (nn.foldl putN dt).length cd5)
       rw [more_setCell _ _ _ _ _ s11b] at hm hmx
       have HM := hid hm
       have HMX := hid hmx
       clear hm hmx hl' hd' hol hod hb
       go_wp2_with fail
       go_roundg (ms.length - (t + 1))
       case measure => omega
       case rel => exact ⟨t + 1, _, by go_num, by omega, by omega, hid (by rw [HSL.out, HSN.out, List.foldl_append, HDT.out]; exact HM.out), HMX⟩
     · have t1 : ¬ (t : Int) < (ms.length : Int) := by omega
       obtain rfl : t = ms.length := by omega
       rw [List.take_length] at HY HX2 hcl ⊢
       have HRC := hid (Rc.start HY.out.d HY.out.dn)
       have HL5 := hid HY.out.l
       have HLN5 := hid HY.out.ln
       have K105 := hid (fun u => (World.cell?_of_block (w := wa) (a := ⟨n10, u, none⟩) (hk n10 s104 (by have := HN11.out; have := HN10.out; omega))).trans (K104.out u))
       have G105 := hid (fun u => (World.frozen?_of_block (w := wa) (a := ⟨n10, u, none⟩) (hk n10 s104 (by have := HN11.out; have := HN10.out; omega))).trans (G104.out u))
       have s10b : n10 < wb.heap.size := by omega
       have l10 : n10 < n11 := by have := HN11.out; have := HN10.out; omega
       have HFM := hid (bfit_cmds ⟨cols, rows, side, radius, speed, ids, queue⟩ z ms l4 HFL.out HF3.out)
       have hcd := putNs_len (cmdsN ⟨cols, rows, side, radius, speed, ids, queue⟩ z l4 ms) d4
       have HE3 := hid (show midL ⟨cols, rows, side, radius, speed, ids, queue⟩ z own near ms = cmdsL ⟨cols, rows, side, radius, speed, ids, queue⟩ z l4 ms from by unfold midL; rw [show (⟨cols, rows, side, radius, speed, ids, queue⟩ : Cfg).radius = radius from rfl, HE1.out])
       have hcm := cmds_cnt ⟨cols, rows, side, radius, speed, ids, queue⟩ z ms l4
       clear HY hk htb K104 G104 HB4 HRY HX HLS HNS HCL HCF f0 f1 f2 f3 f4 f5 hcl
       generalize cmdsL ⟨cols, rows, side, radius, speed, ids, queue⟩ z l4 ms = l5 at *
       generalize hn5 : cmdsN ⟨cols, rows, side, radius, speed, ids, queue⟩ z l4 ms = n5 at *
       have HN5 := hid hn5
       generalize hd5 : n5.foldl putN d4 = d5 at *
       have HD5 := hid hd5
       clear hn5 hd5
       have hlen5 : l5.length ≤ 2000 := by omega
       have hlend5 : d5.length ≤ 3000 := by omega
       have HPL := hid (fun t x h => eachL_step (passF ⟨cols, rows, side, radius, speed, ids, queue⟩) (l := l5) (t := t) (x := x) h)
       have HPD := hid (fun t x h => eachD_step (passF ⟨cols, rows, side, radius, speed, ids, queue⟩) (l := l5) (t := t) (x := x) h)
       have HLE := hid (fun t => eachL_le (passF ⟨cols, rows, side, radius, speed, ids, queue⟩) l5 t)
       have HDE := hid (fun t => eachD_le (passF ⟨cols, rows, side, radius, speed, ids, queue⟩) l5 t)
       have hpa0 : ∀ b : Bun, passF ⟨cols, rows, side, radius, speed, ids, queue⟩ b = ageF (moveF ⟨cols, rows, side, radius, speed, ids, queue⟩ b) := fun b => rfl
       have hiz0 : ∀ b : Bun, inZ ⟨cols, rows, side, radius, speed, ids, queue⟩ z b = (decide (z < 0) || decide (ofF ⟨cols, rows, side, radius, speed, ids, queue⟩ b.x b.y = z)) := fun b => rfl
       have HPA := hid hpa0; have HIZ := hid hiz0
       clear hpa0 hiz0
       have HFIN := hid (And.intro (show ownL ⟨cols, rows, side, radius, speed, ids, queue⟩ z own near ms = (eachL (passF ⟨cols, rows, side, radius, speed, ids, queue⟩) l5).filter (inZ ⟨cols, rows, side, radius, speed, ids, queue⟩ z) from by unfold ownL leftL; rw [HE3.out]) (And.intro (show goneL ⟨cols, rows, side, radius, speed, ids, queue⟩ z own near ms = (eachL (passF ⟨cols, rows, side, radius, speed, ids, queue⟩) l5).filter (fun b => !inZ ⟨cols, rows, side, radius, speed, ids, queue⟩ z b) from by unfold goneL leftL; rw [HE3.out])
        (show setN (deadN ⟨cols, rows, side, radius, speed, ids, queue⟩ z own near ms) = (eachD (passF ⟨cols, rows, side, radius, speed, ids, queue⟩) l5).foldl putN d5 from by
          unfold deadN
          rw [HE3.out, show (⟨cols, rows, side, radius, speed, ids, queue⟩ : Cfg).radius = radius from rfl, HE1.out, HE2.out, HN5.out, ← HD5.out, ← HD4.out, ← List.foldl_append, ← List.foldl_append, ← List.append_assoc]
          have h := putN_all [] (da4 ++ n5 ++ eachD (passF ⟨cols, rows, side, radius, speed, ids, queue⟩) l5)
          rw [setN_nil, List.nil_append] at h
          exact h.symm)))
       have HMV := hid (fun (b : Bun) (hb : I64 b.m) W => rMove_any cols rows side radius speed ids queue b.s b.i b.g b.m b.x b.y b.vx b.vy b.hp b.pw b.lf W HO.out hb)
       have hmy0 : ∀ b : Bun, (moveF ⟨cols, rows, side, radius, speed, ids, queue⟩ b).m = b.m ∧ (moveF ⟨cols, rows, side, radius, speed, ids, queue⟩ b).lf = b.lf := fun b => ⟨rfl, rfl⟩
       have HMY := hid hmy0
       clear hmy0
       have HOF := hid (fun x y W => rof_any cols rows side radius speed ids queue x y W HO.out)
       generalize ofF ⟨cols, rows, side, radius, speed, ids, queue⟩ = of at *
       generalize moveF ⟨cols, rows, side, radius, speed, ids, queue⟩ = mv at *
       generalize passF ⟨cols, rows, side, radius, speed, ids, queue⟩ = pf at *
       generalize inZ ⟨cols, rows, side, radius, speed, ids, queue⟩ z = inb at *
       go_wp2_with fail
       go_loopg [21] l5.length (fun kx sx wr => ∃ (t : Nat) (va vb vd : Value), sx = int i64 t ∧ t ≤ l5.length ∧ l5.length - t ≤ kx ∧ Hid (Rc wb wr n11 va vb vd ((eachL pf (l5.take t)).filter inb) ((eachL pf (l5.take t)).filter fun b => !inb b) ((eachD pf (l5.take t)).foldl putN d5)) ∧ Hid (Bx wr n11 va vb vd))
       case atStart => exact ⟨0, _, _, _, by go_num, by omega, by omega, HRC, HX2⟩
       case round =>
        clear HRC HX2
        obtain ⟨t, va, vb, vd, rfl, ht, hkx, HR, HX⟩ := hrel
        obtain ⟨wa', rfl⟩ : ∃ wa' : World, wa' = wr := ⟨_, rfl⟩
        have hta := HR.out.tu
        have hza := hta.size
        have s11d : n11 < wa'.heap.size := by omega
        have s5d : w.heap.size < wa'.heap.size := by omega
        have hk : ∀ k, k < wb.heap.size → k ≠ n11 → wa'.heap[k]? = wb.heap[k]? := fun k h1 h2 => hta.block k h1 h2 (fun e => by cases e)
        have K5c := hid (fun u => (World.cell?_of_block (w := wb) (a := ⟨w.heap.size, u, none⟩) (hk w.heap.size s5b (by have := HN11.out; omega))).trans (K5b.out u))
        have HLC := hid (HL5.out.tu hta HLN5.out)
        have hal := HLE.out t
        have hdl := HDE.out t
        obtain ⟨pva, cva, hva⟩ := sl_frm HR.out.a
        subst hva
        obtain ⟨pvb, cvb, hvb⟩ := sl_frm HR.out.b
        subst hvb
        obtain ⟨pvd, cvd, hvd, _⟩ := HR.out.d.1
        subst hvd
        have hla := List.length_filter_le inb (eachL pf (l5.take t))
        have hlb := List.length_filter_le (fun b => !inb b) (eachL pf (l5.take t))
        have hld := putNs_len (eachD pf (l5.take t)) d5
        by_cases hlt : t < l5.length
        · have t1 : (t : Int) < (l5.length : Int) := by omega
          obtain ⟨x0, hx0⟩ : ∃ x0, l5[t]? = some x0 := ⟨_, List.getElem?_eq_getElem hlt⟩
          obtain ⟨gb, ob, cb, hv, hgb, hcb⟩ := BIn.cells HLC.out.1 hx0
          simp only [Value.slice.injEq, true_and] at hv
          obtain ⟨rfl, rfl⟩ := hv
          have c0 := hcb 0 _ rfl; have c1 := hcb 1 _ rfl; have c2 := hcb 2 _ rfl; have c3 := hcb 3 _ rfl; have c4 := hcb 4 _ rfl; have c5 := hcb 5 _ rfl; have c6 := hcb 6 _ rfl; have c7 := hcb 7 _ rfl; have c8 := hcb 8 _ rfl; have c9 := hcb 9 _ rfl; have c10 := hcb 10 _ rfl
          simp only [Nat.add_zero] at c0
          obtain ⟨e0, e1', e2'⟩ := ltz hgb
          obtain ⟨f0, f1, f2⟩ := ltz s5d
          have a0 := K5c.out 0; simp at a0; have a1 := K5c.out 1; simp at a1; have a2 := K5c.out 2; simp at a2; have a3 := K5c.out 3; simp at a3; have a4 := K5c.out 4; simp at a4; have a5 := K5c.out 5; simp at a5; have a6 := K5c.out 6; simp at a6
          have HXL := hid (HPL.out t x0 hx0)
          have HXD := hid (HPD.out t x0 hx0)
          have hfx := HFM.out x0 (List.mem_of_getElem? hx0)
          have hmv := HMV.out x0 hfx.2.2.2.1
          have hmy := HMY.out x0
          have hpa := HPA.out x0
          have HX0 := hid hx0
          clear hcb hx0 hk
          generalize eachL pf (l5.take t) = la at *
          generalize eachD pf (l5.take t) = da at *
          generalize hpd : da.foldl putN d5 = pdl at *
          have HDP2 := hid hpd
          clear hpd
          generalize hyy : mv x0 = y0 at *
          have HMO := hid hmv
          have hag := fun W => rAge_any y0.s y0.i y0.g y0.m y0.x y0.y y0.vx y0.vy y0.hp y0.pw y0.lf W (by rw [hmy.2]; exact hfx.2.2.2.2.2.2.2.2.2.2) (by rw [hmy.1]; exact hfx.2.2.2.1)
          rw [show ageF ⟨y0.s, y0.i, y0.g, y0.m, y0.x, y0.y, y0.vx, y0.vy, y0.hp, y0.pw, y0.lf⟩ = pf x0 from hpa.symm] at hag
          have HAG := hid hag
          clear hmv hag hmy hpa hyy hfx
          generalize pf x0 = r at *
          obtain ⟨⟨sw, iw, gw, mw, xw, yw, vxw, vyw, hpw, pww, lfw⟩, ok⟩ := r
          obtain ⟨s', i', g', m', x', y', vx', vy', hp', pw', lf'⟩ := y0
          obtain ⟨s, i, g, m, x, y, vx, vy, hp, pw, lf⟩ := x0
          simp only at HMO HAG HXL HXD c0 c1 c2 c3 c4 c5 c6 c7 c8 c9 c10
          go_upto_region 23 with fail
          go_cut [22, 23] (fun sq ss wx => Boxed wa' wa'.heap.size #[int i64 sw, int i64 iw, int i64 gw, int i64 mw, int i64 xw, int i64 yw, int i64 vxw, int i64 vyw, int i64 hpw, int i64 pww, int i64 lfw] 32 sq wx ∧ ss = .bool ok)
          case first =>
           go_region_held3 (fun W => (wa').heap.size ≤ W.heap.size ∧ ∀ b o, b < (wa').heap.size → W.cell? ⟨b, o, none⟩ = (wa').cell? ⟨b, o, none⟩) (with_reducible (repeat (first | assumption | exact s_refl _ | exact s_id _ | refine s_more _ _ ?_ | refine s_alloc _ ?_ | refine s_drew ?_))) (first | (go_at_call 57; refine belA (HMO.out _) fun d1 os1 => ?_) | (go_at_call 56; refine belA (HAG.out _) fun d2 os2 => ?_))
           all_goals (clear c0 c1 c2 c3 c4 c5 c6 c7 c8 c9 c10 e0 e1' e2' a0 a1 a2 a3 a4 a5 a6 f0 f1 f2)
           all_goals (go_wp2_with fail; go_meet)
           all_goals (refine ⟨?_, rfl⟩; ((with_reducible (repeat (first | exact grew_refl _ | exact grew_redrawn _ _ _ _ | refine boxed_drew ?_ | refine boxed_more _ _ ?_ | refine boxed_end ?_ ?_ ?_ | refine grew_more _ _ ?_ | refine grew_drew ?_))); (all_goals (try simp))))
          obtain ⟨⟨d1, os1, d2, os2, rfl, hwc⟩, rfl⟩ := hcut
          obtain ⟨wx, rfl⟩ : ∃ wx : World, wx = wc := ⟨_, rfl⟩
          have hbx : Below wa'.heap.size wa' wx := by rw [hwc]; exact bg
          have hnb := new_box (more wa' d1 os1) #[int i64 sw, int i64 iw, int i64 gw, int i64 mw, int i64 xw, int i64 yw, int i64 vxw, int i64 vyw, int i64 hpw, int i64 pww, int i64 lfw] 32 (wa'.heap.size + os1.size) (by simp)
          have hmb : Below ((more wa' d1 os1).alloc (.cells #[int i64 sw, int i64 iw, int i64 gw, int i64 mw, int i64 xw, int i64 yw, int i64 vxw, int i64 vyw, int i64 hpw, int i64 pww, int i64 lfw] 32)).heap.size ((more wa' d1 os1).alloc (.cells #[int i64 sw, int i64 iw, int i64 gw, int i64 mw, int i64 xw, int i64 yw, int i64 vxw, int i64 vyw, int i64 hpw, int i64 pww, int i64 lfw] 32)) wx := by rw [hwc]; exact more_below _ _ _
          have kx := box_on hmb hnb.2.2.1 hnb.1
          have sx := Nat.lt_of_lt_of_le hnb.2.2.1 hmb.size
          have HRX := hid (HR.out.grow hbx)
          have HXX := hid (HX.out.keep (hbx.block n11 s11d))
          have HLX := hid (HLC.out.keep hbx)
          have s11x := Nat.lt_of_lt_of_le s11d hbx.size
          have s5x := Nat.lt_of_lt_of_le s5d hbx.size
          have K5x := hid (box_on hbx s5d K5c.out)
          generalize wa'.heap.size + os1.size = n22 at *
          clear hwc hnb hmb hbx c0 c1 c2 c3 c4 c5 c6 c7 c8 c9 c10 e0 e1' e2' a0 a1 a2 a3 a4 a5 a6 f0 f1 f2
          obtain ⟨f0, f1, f2⟩ := ltz s11x
          cases ok with
          | false =>
            simp only [Bool.false_eq_true, if_false, List.append_nil] at HXL HXD
            obtain ⟨gb2, ob2, cb2, hv2, hgb2, hcb2⟩ := BIn.cells HLX.out.1 HX0.out
            simp only [Value.slice.injEq, Option.some.injEq, Addr.mk.injEq, true_and, and_true] at hv2
            obtain ⟨⟨rfl, rfl⟩, rfl⟩ := hv2
            have c0 := hcb2 0 _ rfl; have c1 := hcb2 1 _ rfl; have c2 := hcb2 2 _ rfl
            simp only [Nat.add_zero] at c0
            obtain ⟨e0, e1', e2'⟩ := ltz hgb2
            have b2 := HXX.out.c 2
            simp at b2
            have g2 := HXX.out.f 2
            have HWI := hid (fun W (hW : Below wx.heap.size wx W) => with15_any _ pdl s i g W (HRX.out.d.keep hW) (by omega))
            clear hcb2 kx
            go_upto_region 25 with fail
            refine wp_region_x (S := fun W' => wx.heap.size ≤ W'.heap.size ∧ ∀ b o, b < wx.heap.size → W'.cell? ⟨b, o, none⟩ = wx.cell? ⟨b, o, none⟩) 9 (by kernel_rfl) (by with_reducible (repeat (first | assumption | exact s_refl _ | exact s_id _ | refine s_more _ _ ?_ | refine s_alloc _ ?_ | refine s_drew ?_))) (fun hHeld => ?_)
            refine anyX_tk 0 (v := ?_) rfl ?_ (by assumption) ?_
            rotate_left 1
            · (intro w hSw; (try dsimp only at hSw); go_simp; (try with_reducible rfl))
            simp [Act.put]
            refine anyX_tk 1 (v := ?_) rfl ?_ (by assumption) ?_
            rotate_left 1
            · (intro w hSw; (try dsimp only at hSw); go_simp; (try with_reducible rfl))
            simp [Act.put]
            refine anyX_tk 2 (v := ?_) rfl ?_ (by assumption) ?_
            rotate_left 1
            · (intro w hSw; (try dsimp only at hSw); go_simp; (try with_reducible rfl))
            simp [Act.put]
            refine anyX_tk 3 (v := ?_) rfl ?_ (by assumption) ?_
            rotate_left 1
            · (intro w hSw; (try dsimp only at hSw); go_simp; (try with_reducible rfl))
            simp [Act.put]
            refine anyX_tk 4 (v := ?_) rfl ?_ (by assumption) ?_
            rotate_left 1
            · (intro w hSw; (try dsimp only at hSw); go_simp; (try with_reducible rfl))
            simp [Act.put]
            refine anyX_tk 5 (v := ?_) rfl ?_ (by assumption) ?_
            rotate_left 1
            · (intro w hSw; (try dsimp only at hSw); go_simp; (try with_reducible rfl))
            simp [Act.put]
            refine anyX_tk 6 (v := ?_) rfl ?_ (by assumption) ?_
            rotate_left 1
            · (intro w hSw; (try dsimp only at hSw); go_simp; (try with_reducible rfl))
            simp [Act.put]
            refine anyX_r1 7 fun K hK => ?_
            (go_simp; go_at_call 54; refine (HWI.out _ bg).mono ?_; rintro e w' ⟨vq, rfl, hb, hr, ho⟩; obtain ⟨d1, os1, rfl⟩ := more_of hb; obtain ⟨pq, cq, hvq, _⟩ := hr.1; subst hvq; (try simp only [more_of_drew] at hb hr ho ⊢))
            refine hK.out _ _ (fun hlt => ?_) (fun hHeld => ?_)
            · (try dsimp only); with_reducible (repeat (first | assumption | exact s_refl _ | exact s_id _ | refine s_more _ _ ?_ | refine s_alloc _ ?_ | refine s_drew ?_))
            clear hK
            replace hHeld := hHeld (by omega); try simp [Act.put]
            refine anyX_tk 8 (v := ?_) rfl ?_ (by assumption) ?_
            rotate_left 1
            · (intro w hSw; (try dsimp only at hSw); go_simp; (try with_reducible rfl))
            simp [Act.put]
            refine anyX_r1 9 fun K hK => ?_
            go_simp
            refine hK.out _ _ (fun hlt => ?_) (fun hHeld => ?_)
            · exact absurd hlt (by omega)
            clear hK
            clear hHeld; try simp [Act.put]
            refine anyX_done (by kernel_rfl) ?_ _
            clear b2 g2 c0 c1 c2 e0 e1' e2' f0 f1 f2
            have hm := (Rc.put s11b HRX.out (more_below wx d1 os1) hr (show OrNew wx _ _ from ho)).set s11b 2 (.slice pq (putN pdl ⟨s, i, g⟩).length cq)
            have hmx := (HXX.out.keep ((more_below wx d1 os1).block n11 s11x)).set2 (.slice pq (putN pdl ⟨s, i, g⟩).length cq)
            rw [more_setCell _ _ _ _ _ s11x] at hm hmx
            have HM := hid hm
            have HMX := hid hmx
            clear hm hmx hb hr ho
            go_wp2_with fail
            go_roundg (l5.length - (t + 1))
            case measure => omega
            case rel => exact ⟨t + 1, _, _, _, by go_num, by omega, by omega, hid (by rw [HXL.out, HXD.out, List.foldl_append, HDP2.out]; exact HM.out), HMX⟩
          | true =>
            simp only [if_true, List.append_nil] at HXL HXD
            have q0 := kx 0; simp at q0; have q1 := kx 1; simp at q1; have q2 := kx 2; simp at q2; have q3 := kx 3; simp at q3; have q4 := kx 4; simp at q4; have q5 := kx 5; simp at q5; have q6 := kx 6; simp at q6; have q7 := kx 7; simp at q7; have q8 := kx 8; simp at q8; have q9 := kx 9; simp at q9; have q10 := kx 10; simp at q10
            have a0 := K5x.out 0; simp at a0; have a1 := K5x.out 1; simp at a1; have a2 := K5x.out 2; simp at a2; have a3 := K5x.out 3; simp at a3; have a4 := K5x.out 4; simp at a4; have a5 := K5x.out 5; simp at a5; have a6 := K5x.out 6; simp at a6
            obtain ⟨f3, f4, f5⟩ := ltz sx
            obtain ⟨f6, f7, f8⟩ := ltz s5x
            have b0 := HXX.out.c 0
            have b1 := HXX.out.c 1
            simp at b0 b1
            have g0 := HXX.out.f 0
            have g1 := HXX.out.f 1
            have hiz := HIZ.out ⟨sw, iw, gw, mw, xw, yw, vxw, vyw, hpw, pww, lfw⟩
            have HOX := hid (HOF.out xw yw)
            simp only at hiz
            generalize of xw yw = oz at *
            clear kx
            have HIZ2 := hid hiz
            clear hiz
            by_cases hz : z < 0
            · have HIN := hid (show inb ⟨sw, iw, gw, mw, xw, yw, vxw, vyw, hpw, pww, lfw⟩ = true from by rw [HIZ2.out]; simp [hz])
              have HF1S := hid (show [(⟨sw, iw, gw, mw, xw, yw, vxw, vyw, hpw, pww, lfw⟩ : Bun)].filter inb = [⟨sw, iw, gw, mw, xw, yw, vxw, vyw, hpw, pww, lfw⟩] from by simp [HIN.out])
              have HF2S := hid (show ([(⟨sw, iw, gw, mw, xw, yw, vxw, vyw, hpw, pww, lfw⟩ : Bun)].filter fun b => !inb b) = [] from by simp [HIN.out])
              clear HIN HIZ2
              generalize hfa : la.filter inb = fa at *
              have HFA := hid hfa
              have HRY2 := hid HRX.out
              clear hfa
              go_wp2_with (at_builtin; refine wpList_append_sl _ (by rfl) _ _ 37 (by rfl) 32 i0 _ 11 88 Tryz.underlying37 hi0 hz0' hz1' hz2' rfl (by omega) _ fa.length (bunCells fa) (by rfl) (HRY2.out.grow bg).a ⟨_, 0, none⟩ 1 1 (bunL ⟨sw, iw, gw, mw, xw, yw, vxw, vyw, hpw, pww, lfw⟩) (by rfl) (by rfl) (new_cellsN _ _ _ _ (by simp)) (bunL_one _) (by omega) (by unfold maxLen; omega) (by omega) ?_; intro v' w4 hs4 ht4 ho4; obtain ⟨p4, c4, rfl⟩ := sl_frm hs4; have hm := (HRY2.out.grow bg).appA hs4 ht4 ho4; have hmx := (HXX.out.keep (w' := w4) ((ht4.block n11 (Nat.lt_of_lt_of_le s11x (Below.size (B := wx.heap.size) (w := wx) bg)) (fun e => by have := HRY2.out.ao n11 e.symm; omega)).trans (Below.block (B := wx.heap.size) (w := wx) bg n11 s11x))); have HM := hid hm; have b4 := hmx.c 0; simp at b4; have g4 := hmx.f 0; have HMX := hid hmx; clear hs4 ht4 ho4 hm hmx)
              go_roundg (l5.length - (t + 1))
              case measure => omega
              case rel => exact ⟨t + 1, _, _, _, by go_num, by omega, by omega, hid (by rw [HXL.out, HXD.out, HDP2.out, List.filter_append, List.filter_append, HF1S.out, HF2S.out, List.append_nil, HFA.out]; exact HM.out.set s11b 0 _), hid (HMX.out.set0 _)⟩
            · by_cases hoz : oz = z
              · have HIN := hid (show inb ⟨sw, iw, gw, mw, xw, yw, vxw, vyw, hpw, pww, lfw⟩ = true from by rw [HIZ2.out]; simp [hoz])
                have HF1S := hid (show [(⟨sw, iw, gw, mw, xw, yw, vxw, vyw, hpw, pww, lfw⟩ : Bun)].filter inb = [⟨sw, iw, gw, mw, xw, yw, vxw, vyw, hpw, pww, lfw⟩] from by simp [HIN.out])
                have HF2S := hid (show ([(⟨sw, iw, gw, mw, xw, yw, vxw, vyw, hpw, pww, lfw⟩ : Bun)].filter fun b => !inb b) = [] from by simp [HIN.out])
                clear HIN HIZ2
                generalize hfa : la.filter inb = fa at *
                have HFA := hid hfa
                have HRY2 := hid HRX.out
                clear hfa
                go_wp2_with (first | (go_at_call 15; refine belA (HOX.out _) fun d3 os3 => ?_) | (at_builtin; refine wpList_append_sl _ (by rfl) _ _ 37 (by rfl) 32 i0 _ 11 88 Tryz.underlying37 hi0 hz0' hz1' hz2' rfl (by omega) _ fa.length (bunCells fa) (by rfl) (HRY2.out.grow bg).a ⟨_, 0, none⟩ 1 1 (bunL ⟨sw, iw, gw, mw, xw, yw, vxw, vyw, hpw, pww, lfw⟩) (by rfl) (by rfl) (new_cellsN _ _ _ _ (by simp)) (bunL_one _) (by omega) (by unfold maxLen; omega) (by omega) ?_; intro v' w4 hs4 ht4 ho4; obtain ⟨p4, c4, rfl⟩ := sl_frm hs4; have hm := (HRY2.out.grow bg).appA hs4 ht4 ho4; have hmx := (HXX.out.keep (w' := w4) ((ht4.block n11 (Nat.lt_of_lt_of_le s11x (Below.size (B := wx.heap.size) (w := wx) bg)) (fun e => by have := HRY2.out.ao n11 e.symm; omega)).trans (Below.block (B := wx.heap.size) (w := wx) bg n11 s11x))); have HM := hid hm; have b4 := hmx.c 0; simp at b4; have g4 := hmx.f 0; have HMX := hid hmx; clear hs4 ht4 ho4 hm hmx))
                go_roundg (l5.length - (t + 1))
                case measure => omega
                case rel => exact ⟨t + 1, _, _, _, by go_num, by omega, by omega, hid (by rw [HXL.out, HXD.out, HDP2.out, List.filter_append, List.filter_append, HF1S.out, HF2S.out, List.append_nil, HFA.out]; exact HM.out.set s11b 0 _), hid (HMX.out.set0 _)⟩
              · have HIN := hid (show inb ⟨sw, iw, gw, mw, xw, yw, vxw, vyw, hpw, pww, lfw⟩ = false from by rw [HIZ2.out]; simp [hoz, hz])
                have HF1S := hid (show [(⟨sw, iw, gw, mw, xw, yw, vxw, vyw, hpw, pww, lfw⟩ : Bun)].filter inb = [] from by simp [HIN.out])
                have HF2S := hid (show ([(⟨sw, iw, gw, mw, xw, yw, vxw, vyw, hpw, pww, lfw⟩ : Bun)].filter fun b => !inb b) = [⟨sw, iw, gw, mw, xw, yw, vxw, vyw, hpw, pww, lfw⟩] from by simp [HIN.out])
                clear HIN HIZ2
                generalize hfa : (la.filter fun b => !inb b) = fa at *
                have HFA := hid hfa
                have HRY2 := hid HRX.out.swap
                clear hfa
                go_wp2_with (first | (go_at_call 15; refine belA (HOX.out _) fun d3 os3 => ?_) | (at_builtin; refine wpList_append_sl _ (by rfl) _ _ 37 (by rfl) 32 i0 _ 11 88 Tryz.underlying37 hi0 hz0' hz1' hz2' rfl (by omega) _ fa.length (bunCells fa) (by rfl) (HRY2.out.grow bg).a ⟨_, 0, none⟩ 1 1 (bunL ⟨sw, iw, gw, mw, xw, yw, vxw, vyw, hpw, pww, lfw⟩) (by rfl) (by rfl) (new_cellsN _ _ _ _ (by simp)) (bunL_one _) (by omega) (by unfold maxLen; omega) (by omega) ?_; intro v' w4 hs4 ht4 ho4; obtain ⟨p4, c4, rfl⟩ := sl_frm hs4; have hm := (HRY2.out.grow bg).appA hs4 ht4 ho4; have hmx := (HXX.out.keep (w' := w4) ((ht4.block n11 (Nat.lt_of_lt_of_le s11x (Below.size (B := wx.heap.size) (w := wx) bg)) (fun e => by have := HRY2.out.ao n11 e.symm; omega)).trans (Below.block (B := wx.heap.size) (w := wx) bg n11 s11x))); have HM := hid hm; have b4 := hmx.c 1; simp at b4; have g4 := hmx.f 1; have HMX := hid hmx; clear hs4 ht4 ho4 hm hmx))
                go_roundg (l5.length - (t + 1))
                case measure => omega
                case rel => exact ⟨t + 1, _, _, _, by go_num, by omega, by omega, hid (by rw [HXL.out, HXD.out, HDP2.out, List.filter_append, List.filter_append, HF1S.out, HF2S.out, List.append_nil, HFA.out]; exact (HM.out.swap).set s11b 1 _), hid (HMX.out.set1 _)⟩
        · have t1 : ¬ (t : Int) < (l5.length : Int) := by omega
          obtain rfl : t = l5.length := by omega
          rw [List.take_length] at HR HX
          rw [List.take_length] at hla hlb hld
          have K106 := hid (fun u => (World.cell?_of_block (w := wb) (a := ⟨n10, u, none⟩) (hk n10 s10b (by omega))).trans (K105.out u))
          have G106 := hid (fun u => (World.frozen?_of_block (w := wb) (a := ⟨n10, u, none⟩) (hk n10 s10b (by omega))).trans (G105.out u))
          have hw10 : w.heap.size ≤ n10 := by have := HN10.out; omega
          have hw11 : w.heap.size ≤ n11 := by omega
          have hbw := hta.below HBb.out hw11 (fun g hg => by cases hg)
          have HBW := hid hbw
          have r0 := K106.out 0; simp at r0; have r1 := K106.out 1; simp at r1; have r2 := K106.out 2; simp at r2
          have q0 := G106.out 0; have q1 := G106.out 1; have q2 := G106.out 2
          have b0 := HX.out.c 0; simp at b0; have b1 := HX.out.c 1; simp at b1; have b2 := HX.out.c 2; simp at b2
          have hne : n10 ≠ n11 := by omega
          have HTA := hid hta
          clear hta hbw hk
          generalize (eachL pf l5).filter inb = fa at *
          generalize ((eachL pf l5).filter fun b => !inb b) = fb at *
          generalize (eachD pf l5).foldl putN d5 = fd at *
          go_wp2_with fail
          have hT := setCells_turned n10 [.slice pva fa.length cva, .slice pvb fb.length cvb, .slice pvd fd.length cvd] 0 wa'
          have hkf : ∀ g, g < wa'.heap.size → g ≠ n10 → (wa'.setCells n10 0 [.slice pva fa.length cva, .slice pvb fb.length cvb, .slice pvd fd.length cvd]).heap[g]? = wa'.heap[g]? := fun g h1 h2 => hT.block g h1 (fun e => h2 (Option.some.inj e))
          have hB : Below w.heap.size w (wa'.setCells n10 0 [.slice pva fa.length cva, .slice pvb fb.length cvb, .slice pvd fd.length cvd]) := HBW.out.trans ⟨hT.os, hT.tape, hT.output, hT.size, fun g hg => hT.block g (Nat.lt_of_lt_of_le hg HBW.out.size) (fun e => by cases e; omega)⟩
          have hq : RunM w fa fb fd (.returned (.agg #[.slice pva fa.length cva, .slice pvb fb.length cvb, .slice pvd fd.length cvd])) (wa'.setCells n10 0 [.slice pva fa.length cva, .slice pvb fb.length cvb, .slice pvd fd.length cvd]) :=
           ⟨_, _, _, rfl, ⟨HR.out.a.keep fun g hg => hkf g (sl_lt HR.out.a hg) (by have := HR.out.ao g hg; omega), hB, fun g hg => by have := HR.out.ao g hg; omega⟩, ⟨HR.out.b.keep fun g hg => hkf g (sl_lt HR.out.b hg) (by have := HR.out.bo g hg; omega), hB, fun g hg => by have := HR.out.bo g hg; omega⟩, HR.out.d.block hT.size fun g hg => hkf g (HR.out.d.2.1 g hg) (by have := HR.out.dn g hg; omega), fun g hg => by have := HR.out.dn g hg; omega, HR.out.ad⟩
          have hqq : RunM w fa fb fd = Q := by rw [← HRES.out, HFIN.out.1, HFIN.out.2.1, HFIN.out.2.2]
          rw [hqq] at hq
          exact bodyPost_ret (v := .agg #[.slice pva fa.length cva, .slice pvb fb.length cvb, .slice pvd fd.length cvd]) (by simp [results, Tryz.results23, go_sem, r0, r1, r2]) rfl hq
end Go.Proofs.YtoimjjhopljdmaaGreat
