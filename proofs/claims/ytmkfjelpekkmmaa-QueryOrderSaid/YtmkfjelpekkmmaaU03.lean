/-
  Chapter texts QmH: what the claim reaches of them. Conditions stand at each theorem.
-/
import Derived.Test.YtmkfjelpekkmmaaProg
import Derived.WalkKit
import Derived.WalkSpells
import Derived.WalkLawsBesides
import Derived.Handy
import Derived.Lib.Hide
import Derived.Lib.QuietBelow
import Derived.BigQuiet
import Derived.Deep.RegionHeld3
import Derived.Deep.RegionWith
import Derived.Deep.DeepFit
import Derived.Deep.DeepCutAuto
import Derived.Deep.LoopGhost
import Derived.Deep.Light
import Derived.Deep.RegionLaw
import Derived.Deep.RegionLawGrows
import Derived.StillTailTactics
import Derived.StillTail
import Derived.RegionTactic
import Derived.Deep.AppendLies
import Derived.Test.YtmkfjelpekkmmaaQ01
import Derived.Test.YtmkfjelpekkmmaaQ02
import Derived.Test.YtmkfjelpekkmmaaQ03
import Derived.Test.YtmkfjelpekkmmaaQ04
import Derived.Test.YtmkfjelpekkmmaaQ05
import Derived.Test.YtmkfjelpekkmmaaQ06
import Derived.Test.YtmkfjelpekkmmaaQ07
import Derived.Test.YtmkfjelpekkmmaaQ08
import Derived.Test.YtmkfjelpekkmmaaQ09
import Derived.Test.YtmkfjelpekkmmaaQ10
import Derived.Test.YtmkfjelpekkmmaaQ11
import Derived.Test.YtmkfjelpekkmmaaQ12
import Derived.Test.YtmkfjelpekkmmaaQ13
import Derived.Test.YtmkfjelpekkmmaaQ14
import Derived.Test.YtmkfjelpekkmmaaQ15
import Derived.Test.YtmkfjelpekkmmaaQ16
import Derived.Test.YtmkfjelpekkmmaaQ17
import Derived.Test.YtmkfjelpekkmmaaQ18
import Derived.Test.YtmkfjelpekkmmaaQ19
import Derived.Test.YtmkfjelpekkmmaaQ20
import Derived.Test.YtmkfjelpekkmmaaQ21
import Derived.Test.YtmkfjelpekkmmaaQ22
import Derived.Test.YtmkfjelpekkmmaaQ23
import Derived.Test.YtmkfjelpekkmmaaQ24
import Derived.Test.YtmkfjelpekkmmaaQ25
import Derived.Test.YtmkfjelpekkmmaaQ26
import Derived.Test.YtmkfjelpekkmmaaQ27
import Derived.Test.YtmkfjelpekkmmaaQ28
import Derived.Test.YtmkfjelpekkmmaaQ29
import Derived.Test.YtmkfjelpekkmmaaQ30
import Derived.Test.YtmkfjelpekkmmaaQ31
import Derived.Test.YtmkfjelpekkmmaaQ32
import Derived.Test.YtmkfjelpekkmmaaQ33
import Derived.Test.YtmkfjelpekkmmaaQ34
import Derived.Test.YtmkfjelpekkmmaaQ35
import Derived.Test.YtmkfjelpekkmmaaU02
namespace Go.Proofs.Ytmkfjelpekkmmaa
open Go.RowKit

theorem Sl.at0 {w : World} {e : TypeId} {size n : Nat} {v : Value} {xs : List Value} (h : Sl w e size v n xs) (hn : 0 < n) : ∃ g off cap, v = .slice (some ⟨g, off, none⟩) n cap ∧ n ≤ cap ∧ cap ≤ maxLen ∧ g < w.heap.size ∧ (∀ j, w.frozen? ⟨g, j, none⟩ = false) := by
  obtain ⟨_, ⟨_, h0⟩ | ⟨g, off, cap, cur, rfl, hb, h1, h2, _⟩⟩ := h
  · omega
  · exact ⟨g, off, cap, rfl, h1, h2, lt_of_heap hb, fun j => by simp [World.frozen?, hb]⟩
def colC (T : Nat → List Bun) (m : Nat) (l : List Bun) (t : Nat) : Nat → List Bun := fun j => if j / 8 = m ∧ j % 8 ≤ t then l else T (j / 8)
theorem colC_zero (T : Nat → List Bun) (m : Nat) (l l1 : List Bun) : updV (updV (fun j => T (j / 8)) (m * 8) l1) (m * 8) l = colC T m l 0 := by
  funext j
  unfold updV colC
  by_cases e : j = m * 8
  · subst e
    rw [if_pos rfl, if_pos ⟨by omega, by omega⟩]
  · rw [if_neg e, if_neg e, if_neg (by omega)]
theorem colC_step (T : Nat → List Bun) (m : Nat) (l l1 : List Bun) (t : Nat) (ht : t < 7) : colC T m l t (m * 8 + (t + 1)) = T m ∧ updV (updV (colC T m l t) (m * 8 + (t + 1)) l1) (m * 8 + (t + 1)) l = colC T m l (t + 1) := by
  refine ⟨?_, ?_⟩
  · unfold colC
    rw [if_neg (by omega), show (m * 8 + (t + 1)) / 8 = m by omega]
  · funext j
    unfold updV colC
    by_cases e : j = m * 8 + (t + 1)
    · subst e
      rw [if_pos rfl, if_pos ⟨by omega, by omega⟩]
    · rw [if_neg e, if_neg e]
      by_cases h : j / 8 = m ∧ j % 8 ≤ t
      · rw [if_pos h, if_pos ⟨h.1, by omega⟩]
      · rw [if_neg h, if_neg (by omega)]
theorem colC_last (T : Nat → List Bun) (m : Nat) (l : List Bun) : colC T m l 7 = fun j => updT T m l (j / 8) := by
  funext j
  unfold colC updT
  by_cases h : j / 8 = m
  · rw [if_pos ⟨h, by omega⟩, if_pos h]
  · rw [if_neg (fun e => h e.1), if_neg h]
section
variable {w1 W W' : World} {A : Nat → Prop} {p mb : Nat} {o : Obj} {V : Nat → Value} {C : Nat → List Bun}
theorem StoG.set0 (h : StoG w1 A W p mb o V C) {m r g off cap : Nat} (hm : m < 32) {l : List Bun} (hC : C (m * 8) = l) {n : Nat} (hn : l.length = n) (hv : V (m * 8) = .slice (some ⟨g, off, none⟩) n cap) (hr : r < l.length) (b : Bun) :
    StoG w1 A (((W.setCell ⟨g, off + r * 3, none⟩ (.int .i64 b.s)).setCell ⟨g, off + r * 3 + 1, none⟩ (.int .i64 b.i)).setCell ⟨g, off + r * 3 + 2, none⟩ (.int .i64 b.g)) p mb o V (updV C (m * 8) (l.set r b)) := by
  subst hn
  have := h.set (j := m * 8) (by omega) hC hv hr b
  rw [show m * 8 % 8 = 0 by omega] at this
  exact this
theorem StoG.setc (h : StoG w1 A W p mb o V C) {m c r g off cap : Nat} (hm : m < 32) (hc : c < 7) {l : List Bun} (hC : C (m * 8 + (c + 1)) = l) {n : Nat} (hn : l.length = n) (hv : V (m * 8 + (c + 1)) = .slice (some ⟨g, off, none⟩) n cap) (hr : r < l.length) (b : Bun) :
    StoG w1 A (W.setCell ⟨g, off + r, none⟩ (.int .i64 ((numL b).getD c 0))) p mb o V (updV C (m * 8 + (c + 1)) (l.set r b)) := by
  subst hn
  have := h.set (j := m * 8 + (c + 1)) (by omega) hC hv hr b
  rw [show (m * 8 + (c + 1)) % 8 = c + 1 by omega, show colS (c + 1) = 1 from rfl, Nat.mul_one] at this
  exact this
end
theorem cutR_eq {l : List Bun} {r K : Nat} {lb : Bun} (hK : l.length = K + 1) (hl : l[K]? = some lb) : (l.set r lb).take K = cutR l r := by
  unfold cutR
  rw [hK, Nat.add_sub_cancel, List.getD_eq_getElem?_getD, hl]
  rfl
theorem boxed_at (W0 : World) (d1 d2 : Nat) (os1 os2 : Array Obj) (arr : Array Value) (T : TypeId) : Below W0.heap.size W0 (more ((more W0 d1 os1).alloc (.cells arr T)) d2 os2) ∧
    (∀ u, (more ((more W0 d1 os1).alloc (.cells arr T)) d2 os2).cell? ⟨W0.heap.size + os1.size, u, none⟩ = arr[u]?) ∧ W0.heap.size + os1.size < (more ((more W0 d1 os1).alloc (.cells arr T)) d2 os2).heap.size := by
  refine ⟨(by repeat' (first | (with_reducible exact Below.refl _ _) | (with_reducible assumption) | (with_reducible refine below_drewN ?_ _) | (with_reducible refine below_more _ _ _ ?_ ?_) | (with_reducible refine Below.alloc ?_ ?_ _) | (with_reducible refine Below.drew ?_) | (with_reducible refine Below.setCell ?_ ?_ _) | go_size)), fun u => ?_, by simp; omega⟩
  rw [more_cell _ _ _ _ (by simp)]
  exact (new_box (more W0 d1 os1) arr T (W0.heap.size + os1.size) (by simp)).1 u
set_option maxRecDepth 100000 in
set_option maxHeartbeats 4000000 in
theorem scut_any (w : World) (p mb : Nat) (o : Obj) (V : Nat → Value) (T : Nat → List Bun) (P : List Pl) (n : Nid) (m r : Nat) (lb : Bun) (h : StoC w p mb o V (fun j => T (j / 8))) (hmp : MpO o P) (hi : SInv T P) (hp : (n, m, r) ∈ P) (hl : (T m)[(T m).length - 1]? = some lb) :
    Calls Try.prog 57 #[.pointer (some ⟨p, 0, none⟩), .agg #[.int .i64 n.s, .int .i64 n.i, .int .i64 n.g]] w fun e w' => e = .returned (.tuple #[]) ∧ ∃ o' V', MpO o' (mdelP (mputP P (idOf lb) (m, r)) n) ∧ StoG w (StoOwn p mb V) w' p mb o' V' (fun j => updT T m (cutR (T m) r) (j / 8)) := by
  obtain ⟨hm, b0, hb0, hid0⟩ := hi.row _ _ _ hp
  have hr : r < (T m).length := (List.getElem?_eq_some_iff.1 hb0).1
  have hpl := (hi.ent m hm _ _ hl).2.2
  have hfn : NFit n := by obtain ⟨_, _, _, _, hf⟩ := hmp; exact hf _ hp
  have hfl : NFit (idOf lb) := by obtain ⟨_, _, _, _, hf⟩ := hmp; exact hf _ hpl
  have hlk := hmp.look n hfn hi.key hp false
  simp only [Bool.false_eq_true, if_false] at hlk
  obtain ⟨o2, hmo2, hmu⟩ := hmp.store_old (idOf lb) m r hfl hpl hi.key
  have hp2 : ∃ v, (n, v) ∈ mputP P (idOf lb) (m, r) := by
    by_cases e : n = idOf lb
    · exact ⟨(m, r), List.mem_map.2 ⟨_, hp, by rw [if_pos e, e]⟩⟩
    · exact ⟨(m, r), List.mem_map.2 ⟨_, hp, by rw [if_neg e]⟩⟩
  obtain ⟨v2, hp2⟩ := hp2
  obtain ⟨o3, hmo3, hdel⟩ := hmo2.del n hfn hp2 (by rw [mput_keys]; exact hi.key)
  obtain ⟨K, hK⟩ : ∃ K, (T m).length = K + 1 := ⟨(T m).length - 1, by omega⟩
  rw [hK, Nat.add_sub_cancel] at hl
  obtain ⟨w1, hw1, h1, hc, hb, hfr, hs, hmc, hmo, hpp, hnB⟩ := h.box #[.int .i64 n.s, .int .i64 n.i, .int .i64 n.g] 48
  have x0 := hc 0; simp at x0; have x1 := hc 1; simp at x1; have x2 := hc 2; simp at x2
  have l1 : w.heap.size < w1.heap.size := by omega
  have HW1 := Lib.hid hw1
  have HB1 := Lib.hid hb
  have HH1 := Lib.hid h1
  have HMU := Lib.hid hmu
  have HDEL := Lib.hid hdel
  have HMO3 := Lib.hid hmo3
  have HNB := Lib.hid hnB
  have HC := Lib.hid hc
  have HF := Lib.hid hfr
  clear hw1 h1 hc hfr hb hmp hi hp hpl hfn hfl hmo2 hmu hp2 hmo3 hdel h hs hid0 hnB
  go_enter Try.func57, Try.ntmps57
  go_upto_region 1 with fail
  rw [← HW1.out]
  go_cut [4] (fun sq wx => Boxed w1 w1.heap.size #[.int .i64 m, .int .i64 r] 81 sq wx)
  case first =>
    go_region_held3 (fun W => (w1).heap.size ≤ W.heap.size ∧ (∀ b o, b < (w1).heap.size → W.cell? ⟨b, o, none⟩ = (w1).cell? ⟨b, o, none⟩) ∧ W.heap[mb]? = some o) (with_reducible (repeat (first | assumption | exact m_refl (by assumption) | exact m_id (by assumption) | refine m_more _ _ (by assumption) ?_ | refine m_alloc _ (by assumption) ?_ | refine m_drew ?_))) (first | (fail))
    all_goals (go_wp2_with fail; go_meet; ((with_reducible (repeat (first | exact grew_refl _ | exact grew_redrawn _ _ _ _ | refine boxed_drew ?_ | refine boxed_more _ _ ?_ | refine boxed_end ?_ ?_ ?_ | refine grew_more _ _ ?_ | refine grew_drew ?_))); (all_goals (try simp))))
  obtain ⟨d1, os1, d2, os2, rfl, rfl⟩ := hcut
  obtain ⟨hb2, hc2, l2⟩ := boxed_at w1 d1 d2 os1 os2 #[.int .i64 m, .int .i64 r] 81
  have l12 : w1.heap.size ≤ w1.heap.size + os1.size := by omega
  generalize more ((more w1 d1 os1).alloc (.cells #[.int .i64 m, .int .i64 r] 81)) d2 os2 = w2 at hb2 hc2 l2 ⊢
  generalize w1.heap.size + os1.size = n1 at hc2 l2 l12 ⊢
  have G2 := StoG.refl (HH1.out.grow hb2)
  have HNC := Lib.hid (fun e => absurd (HH1.out.lt e) (by omega) : ¬ StoOwn p mb V n1)
  have l02 : w.heap.size < w2.heap.size := by omega
  replace x0 := (hb2.cell (p := ⟨w.heap.size, 0, none⟩) l1).trans x0; replace x1 := (hb2.cell (p := ⟨w.heap.size, 1, none⟩) l1).trans x1; replace x2 := (hb2.cell (p := ⟨w.heap.size, 2, none⟩) l1).trans x2
  have z0 := hc2 0; simp at z0; have z1 := hc2 1; simp at z1
  have lp2 : p < w2.heap.size := G2.at_.lt (.inl rfl)
  obtain ⟨g0, o0, c0, hv0, hle0, hmx0, lg0, fg0⟩ := (G2.sl0 hm).at0 (by rw [show m * 8 / 8 = m by omega]; omega)
  simp only [show m * 8 / 8 = m by omega, hK] at hv0 hle0
  have ch := G2.at_.cell (j := m * 8) (by omega)
  rw [hv0] at ch
  obtain ⟨g0', o0', c0', ch', _, er0, er1, er2⟩ := G2.at_.nam hm hb0
  rw [ch, hK] at ch'
  obtain ⟨⟨rfl, rfl⟩, rfl⟩ : (g0 = g0' ∧ o0 = o0') ∧ c0 = c0' := by simpa using ch'
  obtain ⟨g0', o0', c0', ch', _, el0, el1, el2⟩ := G2.at_.nam hm hl
  rw [ch, hK] at ch'
  obtain ⟨⟨rfl, rfl⟩, rfl⟩ : (g0 = g0' ∧ o0 = o0') ∧ c0 = c0' := by simpa using ch'
  have hG2 := Lib.hid G2
  have HV0 := Lib.hid hv0
  have HBB := Lib.hid hb2
  have m0 : (0 : Int) ≤ (m : Int) := by omega
  have m1 : (m : Int) < 32 := by omega
  have r0 : (0 : Int) ≤ (r : Int) := by omega
  have r1 : (r : Int) < (K : Int) + 1 := by omega
  have k0 : (0 : Int) ≤ (K : Int) := by omega
  have k1 : (K : Int) < (K : Int) + 1 := by omega
  have k2 : (K : Int) < ((K + 1 : Nat) : Int) := by omega
  unfold maxLen at hmx0
  clear hc2 hmo hmc hlk hpp hv0 G2 hb2
  go_upto_region 2 with fail
  refine wp_region_more (by kernel_rfl) (by kernel_rfl) ?_
  repeat (go_big_quiet_step (fail))
  refine wpQuiet_nil ?_
  rintro _ ⟨pa, rfl⟩
  go_upto_region 4 with fail
  generalize hw3 : more w2 _ _ = w3
  have hb3 : Below w2.heap.size w2 w3 := by rw [← hw3]; exact more_below _ _ _
  have G3 := Lib.hid (hG2.out.grow hb3)
  have fr0 := cell_keep hb3 er0; have fr1 := cell_keep hb3 er1; have fr2 := cell_keep hb3 er2; have fl0 := cell_keep hb3 el0; have fl1 := cell_keep hb3 el1; have fl2 := cell_keep hb3 el2
  have dh := cell_keep hb3 ch
  have yz1 := cell_keep hb3 z1
  have yz0 := cell_keep hb3 z0
  have gr0 := (hb3.frozen (p := ⟨g0, o0 + r * 3, none⟩) lg0).trans (fg0 _); have gr1 := (hb3.frozen (p := ⟨g0, o0 + r * 3 + 1, none⟩) lg0).trans (fg0 _); have gr2 := (hb3.frozen (p := ⟨g0, o0 + r * 3 + 2, none⟩) lg0).trans (fg0 _)
  have lg3 := Nat.lt_of_lt_of_le lg0 hb3.size
  have ln3 := Nat.lt_of_lt_of_le l2 hb3.size
  have lp3 := Nat.lt_of_lt_of_le lp2 hb3.size
  clear hw3 fg0 er0 er1 er2 el0 el1 el2 ch ch'
  refine wp_region_still_tail 14 (by kernel_rfl) (by kernel_rfl) ?_
  simp only [List.take_succ_cons, List.take_zero, List.drop_succ_cons, List.drop_zero]
  repeat (first | still_step)
  refine wpStill_nil ?_
  go_wp2_with fail
  have G4 := (G3.out.set0 hm (l := T m) (show T (m * 8 / 8) = T m by rw [show m * 8 / 8 = m by omega]) hK HV0.out hr lb).drew
  generalize (World.setCell _ _ _).drew = w4 at G4 ⊢
  have lp4 : p < w4.heap.size := G4.at_.lt (.inl rfl)
  have dh4 := G4.at_.cell (j := m * 8) (by omega)
  rw [HV0.out] at dh4
  have a1 := G4.at_.mcell
  have b1 := (G4.cell l2 HNC.out 1).trans z1
  have b0' := (G4.cell l2 HNC.out 0).trans z0
  obtain ⟨g1, o1, c1, hv1, lg4, hel⟩ := G4.at_.elem (j := m * 8) (by omega) (r := r) (b := lb) (by rw [updV_same, List.getElem?_set_self hr])
  rw [show m * 8 % 8 = 0 by omega] at hel
  rw [HV0.out] at hv1
  obtain ⟨rfl, rfl⟩ : g0 = g1 ∧ o0 = o1 := by simp only [Value.slice.injEq, Option.some.injEq, Addr.mk.injEq, and_true] at hv1; exact hv1.1
  have e0 : w4.cell? ⟨g0, o0 + r * 3, none⟩ = some (.int .i64 lb.s) := hel 0 _ rfl
  have e1 : w4.cell? ⟨g0, o0 + r * 3 + 1, none⟩ = some (.int .i64 lb.i) := hel 1 _ rfl
  have e2 : w4.cell? ⟨g0, o0 + r * 3 + 2, none⟩ = some (.int .i64 lb.g) := hel 2 _ rfl
  have hmu4 : (Instr.mapUpdate 85 (.map (some mb)) (.agg #[.int .i64 lb.s, .int .i64 lb.i, .int .i64 lb.g]) (.agg #[.int .i64 m, .int .i64 r])).run Try.prog w4.drew = .ok () (setB w4.drew mb o2) := HMU.out w4.drew mb G4.at_.map
  have HG4 := Lib.hid G4
  clear G4 G3 hel hv1 HMU fr0 fr1 fr2 fl0 fl1 fl2 gr0 gr1 gr2 dh yz0 yz1 lg3 ln3 lp3 hb3
  refine wp_region_still_tail 13 (by kernel_rfl) (by kernel_rfl) ?_
  simp only [List.take_succ_cons, List.take_zero, List.drop_succ_cons, List.drop_zero]
  repeat (first | still_step)
  refine wpStill_nil ?_
  go_upto_region 6 with fail
  have G5 := HG4.out.drew.setmap (setB_turned w4.drew mb o2) (setB_same HG4.out.at_.map)
  generalize setB w4.drew mb o2 = w5 at G5 ⊢
  have dh5 := G5.at_.cell (j := m * 8) (by omega)
  rw [HV0.out] at dh5
  have fr5 := G5.at_.fr (m * 8)
  have kc : (K : Int) ≤ (c0 : Int) := by omega
  have kc2 : K ≤ c0 := by omega
  have HG5 := Lib.hid G5
  clear G5 hmu4 e0 e1 e2 b1 b0' a1 dh4
  go_wp2_with fail
  have G6 := HG5.out.first (j := m * 8) (by omega) (updV_same _ _ _) (n := K + 1) (by rw [List.length_set, hK]) HV0.out (k := K) (by omega)
  rw [cutR_eq hK hl, colC_zero] at G6
  generalize updV V (m * 8) _ = V5 at G6
  generalize w5.setCell _ _ = w6 at G6 ⊢
  have HNB5 := Lib.hid (fun e => (G6.own w.heap.size e).elim HNB.out fun h => absurd h (by omega) : ¬ StoOwn p mb V5 w.heap.size)
  have HNC5 := Lib.hid (fun e => (G6.own n1 e).elim HNC.out fun h => absurd h (by omega) : ¬ StoOwn p mb V5 n1)
  replace x0 := (G6.cell l02 HNB.out 0).trans x0
  replace x1 := (G6.cell l02 HNB.out 1).trans x1
  replace x2 := (G6.cell l02 HNB.out 2).trans x2
  replace z0 := (G6.cell l2 HNC.out 0).trans z0
  replace z1 := (G6.cell l2 HNC.out 1).trans z1
  have s6 := G6.chg.size
  have HG6 := Lib.hid G6
  clear G6 HG5 HG4 HV0 fr5 dh5 kc kc2 hG2 hle0 hmx0
  refine (columns_any _ _ _).mono ?_
  rintro e w7 ⟨rfl, hb7, hcol⟩
  have HG7 := Lib.hid (HG6.out.grow hb7)
  have HND := Lib.hid (fun e => absurd (HG6.out.at_.lt e) (by omega) : ¬ StoOwn p mb V5 w6.heap.size)
  have HCOL := Lib.hid hcol
  have lc7 : w6.heap.size < w7.heap.size := lt_of_heap hcol
  have lb7 : w.heap.size < w7.heap.size := by omega
  have l27 : n1 < w7.heap.size := by omega
  replace x0 := cell_keep hb7 x0; replace x1 := cell_keep hb7 x1; replace x2 := cell_keep hb7 x2; replace z0 := cell_keep hb7 z0; replace z1 := cell_keep hb7 z1
  generalize w6.heap.size = nc at *
  clear hcol hb7 HG6
  go_wp2_with fail
  go_loopg [66] 7 (fun kx s66 wr => ∃ t : Nat, s66 = .int .i64 t ∧ t ≤ 7 ∧ 7 - t ≤ kx ∧ Hid (∃ Vt, StoG w7 (StoOwn p mb V5) wr p mb o2 Vt (colC T m (cutR (T m) r) t)))
  case atStart => exact ⟨0, by go_num, by omega, by omega, Lib.hid ⟨V5, StoG.refl HG7.out.at_⟩⟩
  case round =>
    obtain ⟨t, rfl, ht, hkx, HG⟩ := hrel
    obtain ⟨Vt, hGt⟩ := HG.out
    by_cases hlt : t < 7
    · have hct := colC_step T m (cutR (T m) r) ((T m).set r lb) t hlt
      obtain ⟨gq, oq, cq, hq, hle, hmx, lgq, fgq⟩ := (hGt.slc hm hlt).at0 (by rw [hct.1]; omega)
      rw [hct.1, hK] at hq hle
      have dhr := hGt.at_.cell (j := m * 8 + (t + 1)) (by omega)
      rw [hq] at dhr
      have frr := fgq (oq + r)
      obtain ⟨g1, o1, c1, hv1, _, hel⟩ := hGt.at_.elem (j := m * 8 + (t + 1)) (by omega) (r := K) (b := lb) (by rw [hct.1]; exact hl)
      obtain ⟨g2, o2', c2, hv2, _, hel2⟩ := hGt.at_.elem (j := m * 8 + (t + 1)) (by omega) (r := r) (b := b0) (by rw [hct.1]; exact hb0)
      rw [show (m * 8 + (t + 1)) % 8 = t + 1 by omega, show colS (t + 1) = 1 from rfl, Nat.mul_one] at hel hel2
      rw [hq] at hv1 hv2
      obtain ⟨rfl, rfl⟩ : gq = g1 ∧ oq = o1 := by simp only [Value.slice.injEq, Option.some.injEq, Addr.mk.injEq, and_true] at hv1; exact hv1.1
      obtain ⟨rfl, rfl⟩ : gq = g2 ∧ oq = o2' := by simp only [Value.slice.injEq, Option.some.injEq, Addr.mk.injEq, and_true] at hv2; exact hv2.1
      have eK : wr.cell? ⟨gq, oq + K, none⟩ = some (.int .i64 ((numL lb).getD t 0)) := hel 0 _ rfl
      have eR : wr.cell? ⟨gq, oq + r, none⟩ = some (.int .i64 ((numL b0).getD t 0)) := hel2 0 _ rfl
      have lpr : p < wr.heap.size := hGt.at_.lt (.inl rfl)
      have ccr := (hGt.cell lc7 HND.out t).trans (cols_at HCOL.out hlt)
      have zr := (hGt.cell l27 HNC5.out 1).trans z1
      have t0 : (0 : Int) ≤ (t : Int) := by omega
      have t1 : (t : Int) < 7 := by omega
      have kc : (K : Int) ≤ (cq : Int) := by omega
      have kc2 : K ≤ cq := by omega
      unfold maxLen at hmx
      have G8 := (hGt.setc hm hlt hct.1 hK hq hr lb).drew
      generalize (numL lb).getD t 0 = nv at *
      generalize (numL b0).getD t 0 = nv0 at *
      have HG8 := Lib.hid G8
      have HQ := Lib.hid hq
      have HCT := Lib.hid hct.2
      clear hGt G8 HG hel hel2 hv1 hv2 fgq hq hct
      go_wp2_with fail
      refine wp_region_still_tail 12 (by kernel_rfl) (by kernel_rfl) ?_
      simp only [List.take_succ_cons, List.take_zero, List.drop_succ_cons, List.drop_zero]
      repeat (first | still_step)
      refine wpStill_nil ?_
      go_upto_region 11 with fail
      have G8 := HG8.out
      generalize (World.setCell _ _ _).drew = w8 at G8 ⊢
      have dh8 := G8.at_.cell (j := m * 8 + (t + 1)) (by omega)
      rw [HQ.out] at dh8
      have fr8 := G8.at_.fr (m * 8 + (t + 1))
      have lp8 : p < w8.heap.size := G8.at_.lt (.inl rfl)
      have G9 := G8.first (j := m * 8 + (t + 1)) (by omega) (updV_same _ _ _) (n := K + 1) (by rw [List.length_set, hK]) HQ.out (k := K) (by omega)
      rw [cutR_eq hK hl, HCT.out] at G9
      have HG9 := Lib.hid (⟨_, G9⟩ : ∃ Vx, StoG w7 (StoOwn p mb V5) _ p mb o2 Vx (colC T m (cutR (T m) r) (t + 1)))
      clear G9 G8 HG8 HCT HQ
      go_wp2_with fail
      go_roundg (7 - (t + 1))
      case measure => omega
      case rel => exact ⟨t + 1, by go_num, by omega, by omega, HG9⟩
    · obtain rfl : t = 7 := by omega
      rw [colC_last] at hGt
      have y0 := (hGt.cell lb7 HNB5.out 0).trans x0; have y1 := (hGt.cell lb7 HNB5.out 1).trans x1; have y2 := (hGt.cell lb7 HNB5.out 2).trans x2
      have am := hGt.at_.mcell
      have lpr : p < wr.heap.size := hGt.at_.lt (.inl rfl)
      have hdel := fun ty => HDEL.out wr.drew mb ty hGt.at_.map
      have HGT := Lib.hid (hGt.drew.setmap (setB_turned wr.drew mb o3) (setB_same hGt.at_.map))
      clear hGt HG
      go_wp2_with fail
      refine wp_region_still_tail 5 (by kernel_rfl) (by kernel_rfl) ?_
      simp only [List.take_succ_cons, List.take_zero, List.drop_succ_cons, List.drop_zero]
      repeat (first | still_step)
      refine wpStill_nil ?_
      go_wp2_with fail
      go_end0
      have hG := StoG.trans (HG7.out) HGT.out
      refine ⟨rfl, o3, Vt, HMO3.out, ⟨hG.at_, (Chg.of_below (HB1.out.trans (HBB.out.mono HB1.out.size))).trans hG.chg fun _ _ h => h, fun x hx => (hG.own x hx).imp_right fun h => Nat.le_trans (Nat.le_trans HB1.out.size HBB.out.size) h⟩⟩
end Go.Proofs.Ytmkfjelpekkmmaa
