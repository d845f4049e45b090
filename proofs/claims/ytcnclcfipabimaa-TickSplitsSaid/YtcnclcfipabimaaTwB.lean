/-
  Chapter 15: the document's example holds (awake). A map that is none, a zone that there is not: nothing is left. No condition.
-/
import Derived.Test.YtcnclcfipabimaaTkR
import Derived.Test.YtcnclcfipabimaaMpa
namespace Go.Proofs.Ytcnclcfipabimaa
open Go.RowKit

/-- What Run leaves, as constructors. -/
theorem RunQ.opn {w : World} {own gone : List Bun} {dead : List Nid} {e : Ending} {w' : World} (h : RunQ w own gone dead e w') :
    ∃ pa ca pb cb pd cd d os, e = .returned (.agg #[.slice pa own.length ca, .slice pb gone.length cb, .slice pd dead.length cd]) ∧ w' = more w d os ∧ BIn (more w d os) (.slice pa own.length ca) own ∧ BIn (more w d os) (.slice pb gone.length cb) gone ∧ RIn nidL (more w d os) (.slice pd dead.length cd) dead := by
  obtain ⟨va, vb, vd, rfl, hb, h1, h2, h3⟩ := h
  obtain ⟨d, os, rfl⟩ := more_of hb
  have g1 := h1; have g2 := h2; have g3 := h3
  obtain ⟨pa, ca, rfl, _⟩ := g1
  obtain ⟨pb, cb, rfl, _⟩ := g2
  obtain ⟨pd, cd, rfl, _⟩ := g3
  exact ⟨pa, ca, pb, cb, pd, cd, d, os, rfl, rfl, h1, h2, h3⟩
def cE : Cfg := ⟨2, 1, 256, 20, 10, 1, 1⟩
def aE : Bun := ⟨0, 0, 0, 7, 250, 0, 10, 0, 3, 0, 0⟩
def bE : Bun := ⟨1, 0, 0, 9, 260, 0, 0, 0, 0, 2, 0⟩
def dE : Cm := ⟨2, 0, 0, 0, ⟨0, 0, 0, 0, 0, 0, 0, 0, 0, 0, 0⟩, 0⟩
theorem st_one (x : Bun) : stableF cmpBun [x] = [x] := List.perm_singleton.1 (stF_perm [x])
theorem ex1 : ownL cE 0 [aE] [bE] [] = [] ∧ goneL cE 0 [aE] [bE] [] = [⟨0, 0, 0, 7, 260, 0, 10, 0, 1, 0, 0⟩] ∧ deadN cE 0 [aE] [bE] [] = [] := by
  unfold ownL goneL deadN leftL midL hurtL hurtN hitsF
  simp only [st_one]
  exact ⟨by rfl, by rfl, by rfl⟩
theorem ex2 : deadN cE 0 [aE] [] [dE] = [⟨0, 0, 0⟩] := by
  unfold deadN midL hurtL hurtN hitsF
  simp only [st_one]
  rfl
theorem set_one (n : Nid) : setN [n] = [n] := by
  have h : sortN [n] = [n] := List.perm_singleton.1 (sortN_perm [n])
  unfold setN
  rw [h]
  rfl
/-- A slice of one, just laid. -/
theorem rin_one {β : Type} {enc : β → List Value} {W : World} {n : Nat} {x : β} {T : TypeId} {fr : Nat × Nat} (h : W.heap[n]? = some (.cells (enc x).toArray T fr)) : RIn enc W (.slice (some ⟨n, 0, none⟩) 1 1) [x] :=
  ⟨some ⟨n, 0, none⟩, 1, rfl, by simp [maxLen], (fun h => by cases h), Nat.le_refl _, fun _ => ⟨n, 0, rfl, (Array.getElem?_eq_some_iff.1 h).1, fun t u hu => by
    rw [cellsR_one] at hu
    simp only [World.cell?, h, Nat.zero_add]
    simpa using hu⟩⟩
theorem alloc_get (W : World) (o : Obj) (k : Nat) : (W.alloc o).heap[k]? = if k = W.heap.size then some o else W.heap[k]? := by
  by_cases h : k = W.heap.size
  · subst h; rw [if_pos rfl]; exact heap_alloc_new W o
  · rw [if_neg h]
    by_cases h2 : k < W.heap.size
    · exact ((Below.refl _ W).alloc (Nat.le_refl _) o).block k h2
    · rw [Array.getElem?_eq_none (by simp; omega), Array.getElem?_eq_none (by omega)]
theorem alloc_four (W : World) (o1 o2 o3 o4 : Obj) : ((((W.alloc o1).alloc o2).alloc o3).alloc o4).heap[W.heap.size]? = some o1 ∧ ((((W.alloc o1).alloc o2).alloc o3).alloc o4).heap[W.heap.size + 1 + 1]? = some o3 ∧ ((((W.alloc o1).alloc o2).alloc o3).alloc o4).heap[W.heap.size + 1 + 1 + 1]? = some o4 := by
  have e : ∀ (W : World) (o : Obj), (W.alloc o).heap.size = W.heap.size + 1 := fun _ _ => by simp
  refine ⟨?_, ?_, ?_⟩
  · rw [alloc_get, if_neg (by simp only [e]; omega), alloc_get, if_neg (by simp only [e]; omega), alloc_get, if_neg (by simp only [e]; omega), alloc_get, if_pos rfl]
  · rw [alloc_get, if_neg (by simp only [e]; omega), alloc_get, if_pos (by simp only [e])]
  · rw [alloc_get, if_pos (by simp only [e])]
theorem alloc_three (W : World) (o1 o2 o3 : Obj) : (((W.alloc o1).alloc o2).alloc o3).heap[W.heap.size]? = some o1 ∧ (((W.alloc o1).alloc o2).alloc o3).heap[W.heap.size + 1]? = some o2 ∧ (((W.alloc o1).alloc o2).alloc o3).heap[W.heap.size + 1 + 1]? = some o3 := by
  have e : ∀ (W : World) (o : Obj), (W.alloc o).heap.size = W.heap.size + 1 := fun _ _ => by simp
  refine ⟨?_, ?_, ?_⟩
  · rw [alloc_get, if_neg (by simp only [e]; omega), alloc_get, if_neg (by simp only [e]; omega), alloc_get, if_pos rfl]
  · rw [alloc_get, if_neg (by simp only [e]; omega), alloc_get, if_pos (by simp only [e])]
  · rw [alloc_get, if_pos (by simp only [e])]
theorem cE_ok : CfgOk cE := by constructor <;> decide
theorem fit_a : BFit aE := by unfold BFit aE; decide
theorem fit_d : CmFit dE := by unfold CmFit BFit dE; decide
set_option maxRecDepth 100000 in
set_option maxHeartbeats 4000000 in
theorem awake15 (w : World) : Calls Try.prog 45 #[] w fun e w' => e = .returned (.bool true) ∧ Below w.heap.size w w' := by
  go_enter Try.func45, Try.ntmps45
  go_wp2_with fail
  refine (znew_ok 2 1 256 20 10 1 1 w cE_ok).mono ?_
  rintro e w1 ⟨b, rfl, hb1, hmap, hbb⟩
  have HB1 := Lib.hid hb1
  have HMAP := Lib.hid (show MapAt w1 b cE from hmap)
  clear hb1 hmap hbb
  go_wp2_with fail
  generalize hw5 : World.alloc (World.alloc (World.alloc (World.alloc w1 _) _) _) _ = w5
  have hb5 : Below w1.heap.size w1 w5 := by rw [← hw5]; exact (by repeat' (first | (with_reducible exact Below.refl _ _) | (with_reducible assumption) | (with_reducible refine below_drewN ?_ _) | (with_reducible refine below_more _ _ _ ?_ ?_) | (with_reducible refine Below.alloc ?_ ?_ _) | (with_reducible refine Below.drew ?_) | (with_reducible refine Below.setCell ?_ ?_ _) | go_size))
  have ka : w5.heap[w1.heap.size]? = some (.cells (bunL aE).toArray 41 (0, 0)) := by rw [← hw5]; exact (alloc_four _ _ _ _ _).1
  have ka2 : w5.heap[w1.heap.size + 1 + 1]? = some (.cells (bunL aE).toArray 41 (0, 0)) := by rw [← hw5]; exact (alloc_four _ _ _ _ _).2.1
  have kb2 : w5.heap[w1.heap.size + 1 + 1 + 1]? = some (.cells (bunL bE).toArray 41 (0, 0)) := by rw [← hw5]; exact (alloc_four _ _ _ _ _).2.2
  have KA := Lib.hid ka; have KA2 := Lib.hid ka2; have KB2 := Lib.hid kb2; have HB5 := Lib.hid hb5
  have HM5 := Lib.hid (HMAP.out.grow hb5)
  clear ka ka2 kb2 hb5 hw5
  refine (prun_any b cE 0 _ _ _ [aE] [bE] [] w5 HM5.out cE_ok (by omega) (by decide) (rin_one (enc := bunL) KA2.out) (rin_one (enc := bunL) KB2.out) (rin_zero _) (by simp [fit_a]) (by simp) (by simp) (by simp) (by simp)).mono ?_
  rintro e w' hq
  obtain ⟨e1, e2, e3⟩ := ex1
  rw [e1, e2, e3, setN_nil] at hq
  obtain ⟨pa, ca, pb, cb, pd, cd, d2, os2, rfl, rfl, ha, hg, hd⟩ := hq.opn
  obtain ⟨gb, ob, cb', hv, hgb, hcb⟩ := BIn.cells hg (k := 0) rfl
  simp only [Value.slice.injEq, true_and] at hv
  obtain ⟨rfl, rfl⟩ := hv
  have v0 := hcb 0 _ rfl; have v1 := hcb 1 _ rfl; have v2 := hcb 2 _ rfl; have v3 := hcb 3 _ rfl; have v4 := hcb 4 _ rfl; have v5 := hcb 5 _ rfl; have v6 := hcb 6 _ rfl; have v7 := hcb 7 _ rfl; have v8 := hcb 8 _ rfl; have v9 := hcb 9 _ rfl; have v10 := hcb 10 _ rfl
  have lgb := hgb
  have hb6 : Below w5.heap.size w5 (more w5 d2 os2) := more_below _ _ _
  have ka6 := (hb6.block w1.heap.size (Array.getElem?_eq_some_iff.1 KA.out).1).trans KA.out
  have HM6 := Lib.hid (HM5.out.grow hb6)
  have HB6 := Lib.hid (HB5.out.trans (hb6.mono HB5.out.size))
  have s6 : w1.heap.size < (more w5 d2 os2).heap.size := (Array.getElem?_eq_some_iff.1 ka6).1
  clear hcb hb6 e1 e2 e3 hq ha hg hd hgb
  generalize more w5 d2 os2 = w6 at *
  have c0 : w6.cell? ⟨w1.heap.size, 0, none⟩ = some (.int .i64 (0)) := (by simp only [World.cell?, ka6] <;> rfl); have c1 : w6.cell? ⟨w1.heap.size, 1, none⟩ = some (.int .i64 (0)) := (by simp only [World.cell?, ka6] <;> rfl); have c2 : w6.cell? ⟨w1.heap.size, 2, none⟩ = some (.int .i64 (0)) := (by simp only [World.cell?, ka6] <;> rfl); have c3 : w6.cell? ⟨w1.heap.size, 3, none⟩ = some (.int .i64 (7)) := (by simp only [World.cell?, ka6] <;> rfl); have c4 : w6.cell? ⟨w1.heap.size, 4, none⟩ = some (.int .i64 (250)) := (by simp only [World.cell?, ka6] <;> rfl); have c5 : w6.cell? ⟨w1.heap.size, 5, none⟩ = some (.int .i64 (0)) := (by simp only [World.cell?, ka6] <;> rfl); have c6 : w6.cell? ⟨w1.heap.size, 6, none⟩ = some (.int .i64 (10)) := (by simp only [World.cell?, ka6] <;> rfl); have c7 : w6.cell? ⟨w1.heap.size, 7, none⟩ = some (.int .i64 (0)) := (by simp only [World.cell?, ka6] <;> rfl); have c8 : w6.cell? ⟨w1.heap.size, 8, none⟩ = some (.int .i64 (3)) := (by simp only [World.cell?, ka6] <;> rfl); have c9 : w6.cell? ⟨w1.heap.size, 9, none⟩ = some (.int .i64 (0)) := (by simp only [World.cell?, ka6] <;> rfl); have c10 : w6.cell? ⟨w1.heap.size, 10, none⟩ = some (.int .i64 (0)) := (by simp only [World.cell?, ka6] <;> rfl)
  obtain ⟨z0, z1, z2⟩ := ltz s6
  obtain ⟨z3, z4, z5⟩ := ltz lgb
  clear ka6
  go_wp2_with fail
  generalize hw7 : World.alloc (World.alloc (World.alloc w6 _) _) _ = w7
  have hb7 : Below w6.heap.size w6 w7 := by rw [← hw7]; exact (by repeat' (first | (with_reducible exact Below.refl _ _) | (with_reducible assumption) | (with_reducible refine below_drewN ?_ _) | (with_reducible refine below_more _ _ _ ?_ ?_) | (with_reducible refine Below.alloc ?_ ?_ _) | (with_reducible refine Below.drew ?_) | (with_reducible refine Below.setCell ?_ ?_ _) | go_size))
  obtain ⟨k1, k2, k3⟩ := alloc_three w6 (.cells #[.slice pa 0 ca, .slice (some ⟨gb, ob, none⟩) 1 cb, .slice pd 0 cd] 82) (.cells (bunL aE).toArray 41) (.cells (cmC dE).toArray 93)
  rw [show ((w6.alloc (.cells #[.slice pa 0 ca, .slice (some ⟨gb, ob, none⟩) 1 cb, .slice pd 0 cd] 82)).alloc (.cells (bunL aE).toArray 41)).alloc (.cells (cmC dE).toArray 93) = w7 from hw7] at k1 k2 k3
  have K1 := Lib.hid k1; have K2 := Lib.hid k2; have K3 := Lib.hid k3
  have HB7 := Lib.hid (HB6.out.trans (hb7.mono HB6.out.size))
  have HM7 := Lib.hid (HM6.out.grow hb7)
  have y4 := (hb7.cell (p := ⟨gb, ob + 4, none⟩) lgb).trans v4; have y8 := (hb7.cell (p := ⟨gb, ob + 8, none⟩) lgb).trans v8
  have s7 := Nat.lt_of_lt_of_le lgb hb7.size
  clear hw7 hb7 k1 k2 k3 c0 c1 c2 c3 c4 c5 c6 c7 c8 c9 c10 z0 z1 z2 z3 z4 z5
  refine (prun_any b cE 0 _ _ _ [aE] [] [dE] w7 HM7.out cE_ok (by omega) (by decide) (rin_one (enc := bunL) K2.out) (rin_zero (enc := bunL) _) (rin_one (enc := cmC) K3.out) (by simp [fit_a]) (by simp [fit_d]) (by simp) (by simp) (by simp)).mono ?_
  rintro e w' hq
  rw [ex2, set_one] at hq
  obtain ⟨va, vb, vd, rfl, hb, _, _, hd⟩ := hq
  obtain ⟨pa2, ca2, rfl, _⟩ := ‹BIn _ va _›
  obtain ⟨pb2, cb2, rfl, _⟩ := ‹BIn _ vb _›
  obtain ⟨pd2, cd2, rfl, _⟩ := hd
  obtain ⟨d3, os3, rfl⟩ := more_of hb
  have hb8 : Below w7.heap.size w7 (more w7 d3 os3) := more_below _ _ _
  have x1 := (hb8.block _ (Array.getElem?_eq_some_iff.1 K1.out).1).trans K1.out
  have u4 := (hb8.cell (p := ⟨gb, ob + 4, none⟩) s7).trans y4
  have u8 := (hb8.cell (p := ⟨gb, ob + 8, none⟩) s7).trans y8
  have s8 := Nat.lt_of_lt_of_le s7 hb8.size
  have HB8 := Lib.hid (HB7.out.trans (hb8.mono HB7.out.size))
  have t8 : w6.heap.size < (more w7 d3 os3).heap.size := (Array.getElem?_eq_some_iff.1 x1).1
  have hz : ((ownL cE 0 [aE] [] [dE]).length : Int) = 0 ∨ True := .inr trivial
  clear hb hb8 hz y4 y8
  generalize more w7 d3 os3 = w8 at *
  have q0 : w8.cell? ⟨w6.heap.size, 0, none⟩ = some (.slice pa 0 ca) := by simp only [World.cell?, x1] <;> rfl
  have q1 : w8.cell? ⟨w6.heap.size, 1, none⟩ = some (.slice (some ⟨gb, ob, none⟩) 1 cb) := by simp only [World.cell?, x1] <;> rfl
  have q2 : w8.cell? ⟨w6.heap.size, 2, none⟩ = some (.slice pd 0 cd) := by simp only [World.cell?, x1] <;> rfl
  obtain ⟨z0, z1, z2⟩ := ltz t8
  obtain ⟨z3, z4, z5⟩ := ltz s8
  clear x1
  go_wp2_with fail
  go_ret
  exact ⟨rfl, HB1.out.trans ((HB8.out.trans (Below.mono (B := w8.heap.size) (by repeat' (first | (with_reducible exact Below.refl _ _) | (with_reducible assumption) | (with_reducible refine below_drewN ?_ _) | (with_reducible refine below_more _ _ _ ?_ ?_) | (with_reducible refine Below.alloc ?_ ?_ _) | (with_reducible refine Below.drew ?_) | (with_reducible refine Below.setCell ?_ ?_ _) | go_size)) HB8.out.size)).mono HB1.out.size)⟩

set_option maxRecDepth 100000 in
theorem prun_nil (z : Int) (vo vn vc : Value) (w : World) : Calls Try.prog 43 #[.pointer none, .int .i64 z, vo, vn, vc] w fun e w' => e = .returned (.agg #[.slice none 0 0, .slice none 0 0, .slice none 0 0]) ∧ Below w.heap.size w w' := by
  go_enter Try.func43, Try.ntmps43
  go_wp2_with fail
  exact bodyPost_ret (v := .agg #[.slice none 0 0, .slice none 0 0, .slice none 0 0]) (by simp [results, Try.results43, go_sem]) rfl ⟨rfl, (by repeat' (first | (with_reducible exact Below.refl _ _) | (with_reducible assumption) | (with_reducible refine below_drewN ?_ _) | (with_reducible refine below_more _ _ _ ?_ ?_) | (with_reducible refine Below.alloc ?_ ?_ _) | (with_reducible refine Below.drew ?_) | (with_reducible refine Below.setCell ?_ ?_ _) | go_size))⟩
set_option maxRecDepth 100000 in
theorem prun_low (bm : Nat) (z : Int) (vo vn vc : Value) (w : World) (hz : z < -1) : Calls Try.prog 43 #[.pointer (some ⟨bm, 0, none⟩), .int .i64 z, vo, vn, vc] w fun e w' => e = .returned (.agg #[.slice none 0 0, .slice none 0 0, .slice none 0 0]) ∧ Below w.heap.size w w' := by
  go_enter Try.func43, Try.ntmps43
  go_wp2_with fail
  exact bodyPost_ret (v := .agg #[.slice none 0 0, .slice none 0 0, .slice none 0 0]) (by simp [results, Try.results43, go_sem]) rfl ⟨rfl, (by repeat' (first | (with_reducible exact Below.refl _ _) | (with_reducible assumption) | (with_reducible refine below_drewN ?_ _) | (with_reducible refine below_more _ _ _ ?_ ?_) | (with_reducible refine Below.alloc ?_ ?_ _) | (with_reducible refine Below.drew ?_) | (with_reducible refine Below.setCell ?_ ?_ _) | go_size))⟩
set_option maxRecDepth 100000 in
theorem prun_high (bm : Nat) (c : Cfg) (z : Int) (vo vn vc : Value) (w : World) (hm : MapAt w bm c) (ho : CfgOk c) (hz : c.cols * c.rows ≤ z) : Calls Try.prog 43 #[.pointer (some ⟨bm, 0, none⟩), .int .i64 z, vo, vn, vc] w fun e w' => e = .returned (.agg #[.slice none 0 0, .slice none 0 0, .slice none 0 0]) ∧ Below w.heap.size w w' := by
  have HCN := Lib.hid (fun W (hW : Below w.heap.size w W) => zcount_any W bm c (hm.grow hW) ho)
  have hc := ho.cnt
  have d1 : ¬ z < -1 := by omega
  clear hm ho hc
  go_enter Try.func43, Try.ntmps43
  go_wp2_with (go_at_call 49; refine (HCN.out _ (by repeat' (first | (with_reducible exact Below.refl _ _) | (with_reducible assumption) | (with_reducible refine below_drewN ?_ _) | (with_reducible refine below_more _ _ _ ?_ ?_) | (with_reducible refine Below.alloc ?_ ?_ _) | (with_reducible refine Below.drew ?_) | (with_reducible refine Below.setCell ?_ ?_ _) | go_size))).mono ?_; rintro e w' ⟨rfl, hb⟩; obtain ⟨d1', os1, rfl⟩ := more_of hb; clear hb)
  exact bodyPost_ret (v := .agg #[.slice none 0 0, .slice none 0 0, .slice none 0 0]) (by simp [results, Try.results43, go_sem]) rfl ⟨rfl, (by repeat' (first | (with_reducible exact Below.refl _ _) | (with_reducible assumption) | (with_reducible refine below_drewN ?_ _) | (with_reducible refine below_more _ _ _ ?_ ?_) | (with_reducible refine Below.alloc ?_ ?_ _) | (with_reducible refine Below.drew ?_) | (with_reducible refine Below.setCell ?_ ?_ _) | go_size))⟩
end Go.Proofs.Ytcnclcfipabimaa
