/-
  GhostsFold: for every case the law returns true, and the argument stays as it was. No condition. (Under way: the walk up to the record's cut.)
-/
import Derived.Test.YtcnclcfipabimaaMgx
import Derived.Test.YtcnclcfipabimaaMgd
import Derived.Test.YtcnclcfipabimaaMrt
import Derived.Test.YtcnclcfipabimaaSyF
namespace Go.Proofs.Ytcnclcfipabimaa.ghostsFold
open Go.ChangeShapes Go.WideShapes Go.ChangeAt Go.RowKit

attribute [local go_sem ↓] loadVar_ldC loadVar_ldR
theorem same_zero (w : World) : Calls Try.prog 32 #[.agg #[.int .i64 0, .int .i64 0, .slice none 0 0, .slice none 0 0, .slice none 0 0, .slice none 0 0, .slice none 0 0, .int .i64 0], .agg #[.int .i64 0, .int .i64 0, .slice none 0 0, .slice none 0 0, .slice none 0 0, .slice none 0 0, .slice none 0 0, .int .i64 0]] w fun e w' => e = .returned (.bool true) ∧ Below w.heap.size w w' :=
  sameS_any 0 0 0 none none 0 0 0 0 [] [] w (rin_none w) (rin_none w) (alikeG_nil w)
theorem alike_self {W : World} {L : List Gh} {bl : Gh → List Bun} (h : GhOk W L bl) : AlikeG W L L := ⟨rfl, fun k g1 g2 h1 h2 => by
  obtain rfl : g1 = g2 := Option.some.inj (h1.symm.trans h2)
  exact ⟨rfl, rfl, _, (h g1 (List.mem_of_getElem? h1)).1, (h g1 (List.mem_of_getElem? h1)).1⟩⟩
theorem alike_last {W : World} {L : List Gh} {bl : Gh → List Bun} {f t : Int} {p1 p2 : Option Addr} {n1 c1 n2 c2 : Nat} {l : List Bun} (h : GhOk W L bl) (h1 : BIn W (.slice p1 n1 c1) l) (h2 : BIn W (.slice p2 n2 c2) l) : AlikeG W (L ++ [⟨f, t, p1, n1, c1⟩]) (L ++ [⟨f, t, p2, n2, c2⟩]) := by
  refine ⟨by simp, fun k g1 g2 e1 e2 => ?_⟩
  by_cases hk : k < L.length
  · rw [List.getElem?_append_left hk] at e1 e2
    exact (alike_self h).2 k g1 g2 e1 e2
  · have hlt := (List.getElem?_eq_some_iff.1 e1).1
    simp at hlt
    obtain rfl : k = L.length := by omega
    simp at e1 e2
    subst e1 e2
    exact ⟨rfl, rfl, l, h1, h2⟩
/-- The record with its entities cut. -/
def cutR (r : Rcd) : Rcd := { r with nl := min r.nl 50 }
/-- What stands behind the record's cut. -/
structure MidF (w wx : World) (n3 n6 b : Nat) (c : Cfg) (z t : Int) (p' : Option Addr) (c' : Nat) (L' : List Gh) (r : Rcd) (lr : List Bun) (bl : Gh → List Bun) : Prop where
  hw : Below w.heap.size w wx
  s1 : w.heap.size < wx.heap.size
  s3 : n3 < wx.heap.size
  s6 : n6 < wx.heap.size
  kz : wx.cell? ⟨w.heap.size, 7, none⟩ = some (.int .i64 z)
  kr : ∀ j v, [.int .i64 r.k, .int .i64 r.n, .int .i64 r.f, .slice r.pc r.nc r.cc, .int .i64 (r.b).s, .int .i64 (r.b).i, .int .i64 (r.b).g, .int .i64 (r.b).m, .int .i64 (r.b).x, .int .i64 (r.b).y, .int .i64 (r.b).vx, .int .i64 (r.b).vy, .int .i64 (r.b).hp, .int .i64 (r.b).pw, .int .i64 (r.b).lf, .slice r.pl r.nl r.cl, .int .i64 r.s.ep, .int .i64 r.s.t, .slice r.s.po r.s.no r.s.co, .slice r.s.pd r.s.nd r.s.cd, .slice r.s.pu r.s.nu r.s.cu, .slice r.s.pi r.s.ni r.s.ci, .slice r.s.pg r.s.ng r.s.cg, .int .i64 r.s.nx][j]? = some v → wx.cell? ⟨w.heap.size, 10 + j, none⟩ = some v
  k3 : ∀ j, wx.cell? ⟨n3, j, none⟩ = (#[.int .i64 c.cols, .int .i64 c.rows, .int .i64 c.side, .int .i64 c.radius, .int .i64 c.speed, .int .i64 c.ids, .int .i64 c.queue] : Array Value)[j]?
  k6 : ∀ j, wx.cell? ⟨n6, j, none⟩ = (#[.int .i64 0, .int .i64 t, .slice none 0 0, .slice none 0 0, .slice none 0 0, .slice none 0 0, .slice p' L'.length c', .int .i64 0] : Array Value)[j]?
  hm : MapAt wx b c
  hr : RIn ghL wx (.slice p' L'.length c') L'
  hok : GhOk wx L' bl
  hlr : BIn wx (.slice r.pl r.nl r.cl) lr
  hln : lr.length ≤ 50
theorem midF_of {w w3 : World} {n3 b : Nat} {c : Cfg} {z t : Int} {p p' : Option Addr} {cap c' : Nat} {L L' : List Gh} {r : Rcd} {lr : List Bun} {bl : Gh → List Bun} {cols rows side radius speed ids queue : Int} (hw : Below w.heap.size w w3) (s1 : w.heap.size < w3.heap.size) (s3 : n3 < w3.heap.size) (h3 : n3 ≠ w.heap.size)
    (kc : ∀ j, w3.cell? ⟨w.heap.size, j, none⟩ = (#[.int .i64 cols, .int .i64 rows, .int .i64 side, .int .i64 radius, .int .i64 speed, .int .i64 ids, .int .i64 queue, .int .i64 z, .int .i64 t, .slice p L.length cap, .int .i64 r.k, .int .i64 r.n, .int .i64 r.f, .slice r.pc r.nc r.cc, .int .i64 (r.b).s, .int .i64 (r.b).i, .int .i64 (r.b).g, .int .i64 (r.b).m, .int .i64 (r.b).x, .int .i64 (r.b).y, .int .i64 (r.b).vx, .int .i64 (r.b).vy, .int .i64 (r.b).hp, .int .i64 (r.b).pw, .int .i64 (r.b).lf, .slice r.pl r.nl r.cl, .int .i64 r.s.ep, .int .i64 r.s.t, .slice r.s.po r.s.no r.s.co, .slice r.s.pd r.s.nd r.s.cd, .slice r.s.pu r.s.nu r.s.cu, .slice r.s.pi r.s.ni r.s.ci, .slice r.s.pg r.s.ng r.s.cg, .int .i64 r.s.nx] : Array Value)[j]?) (k3 : ∀ j, w3.cell? ⟨n3, j, none⟩ = (#[.int .i64 c.cols, .int .i64 c.rows, .int .i64 c.side, .int .i64 c.radius, .int .i64 c.speed, .int .i64 c.ids, .int .i64 c.queue] : Array Value)[j]?) (hm : MapAt w3 b c) (hbw : b ≠ w.heap.size)
    (hs : Sl w3 64 3 (.slice p' L'.length c') L'.length (cellsR ghL L')) (ho : ∀ g, (Value.slice p' L'.length c').ownBlock = some g → w.heap.size < g) (hok : GhOk w L' bl) (hlr : BIn w (.slice r.pl r.nl r.cl) lr) :
    MidF w ((w3.setCell ⟨w.heap.size, 25, none⟩ (.slice r.pl (min r.nl 50) r.cl)).alloc (.cells #[.int .i64 0, .int .i64 t, .slice none 0 0, .slice none 0 0, .slice none 0 0, .slice none 0 0, .slice p' L'.length c', .int .i64 0] 46)) n3 w3.heap.size b c z t p' c' L' (cutR r) (lr.take 50) bl := by
  have hwx : Below w.heap.size w ((w3.setCell ⟨w.heap.size, 25, none⟩ (.slice r.pl (min r.nl 50) r.cl)).alloc (.cells #[.int .i64 0, .int .i64 t, .slice none 0 0, .slice none 0 0, .slice none 0 0, .slice none 0 0, .slice p' L'.length c', .int .i64 0] 46)) := (by repeat' (first | (with_reducible exact Below.refl _ _) | (with_reducible assumption) | (with_reducible refine below_drewN ?_ _) | (with_reducible refine below_more _ _ _ ?_ ?_) | (with_reducible refine Below.alloc ?_ ?_ _) | (with_reducible refine Below.drew ?_) | (with_reducible refine Below.setCell ?_ ?_ _) | go_size))
  have hh : ∀ g, g < w3.heap.size → g ≠ w.heap.size → ((w3.setCell ⟨w.heap.size, 25, none⟩ (.slice r.pl (min r.nl 50) r.cl)).alloc (.cells #[.int .i64 0, .int .i64 t, .slice none 0 0, .slice none 0 0, .slice none 0 0, .slice none 0 0, .slice p' L'.length c', .int .i64 0] 46)).heap[g]? = w3.heap[g]? := fun g hg hne => by
    refine (((Below.refl _ (w3.setCell ⟨w.heap.size, 25, none⟩ (.slice r.pl (min r.nl 50) r.cl))).alloc (Nat.le_refl _) _).block g (by simpa [World.setCell] using hg)).trans ?_
    exact Below.heap_setCell _ _ _ _ hne
  have hkk : ∀ j, ((w3.setCell ⟨w.heap.size, 25, none⟩ (.slice r.pl (min r.nl 50) r.cl)).alloc (.cells #[.int .i64 0, .int .i64 t, .slice none 0 0, .slice none 0 0, .slice none 0 0, .slice none 0 0, .slice p' L'.length c', .int .i64 0] 46)).cell? ⟨w.heap.size, j, none⟩ = if j = 25 then some (.slice r.pl (min r.nl 50) r.cl) else (#[.int .i64 cols, .int .i64 rows, .int .i64 side, .int .i64 radius, .int .i64 speed, .int .i64 ids, .int .i64 queue, .int .i64 z, .int .i64 t, .slice p L.length cap, .int .i64 r.k, .int .i64 r.n, .int .i64 r.f, .slice r.pc r.nc r.cc, .int .i64 (r.b).s, .int .i64 (r.b).i, .int .i64 (r.b).g, .int .i64 (r.b).m, .int .i64 (r.b).x, .int .i64 (r.b).y, .int .i64 (r.b).vx, .int .i64 (r.b).vy, .int .i64 (r.b).hp, .int .i64 (r.b).pw, .int .i64 (r.b).lf, .slice r.pl r.nl r.cl, .int .i64 r.s.ep, .int .i64 r.s.t, .slice r.s.po r.s.no r.s.co, .slice r.s.pd r.s.nd r.s.cd, .slice r.s.pu r.s.nu r.s.cu, .slice r.s.pi r.s.ni r.s.ci, .slice r.s.pg r.s.ng r.s.cg, .int .i64 r.s.nx] : Array Value)[j]? := fun j => by
    rw [Below.cell (B := w3.heap.size) (w := w3.setCell ⟨w.heap.size, 25, none⟩ (.slice r.pl (min r.nl 50) r.cl)) (by repeat' (first | (with_reducible exact Below.refl _ _) | (with_reducible assumption) | (with_reducible refine below_drewN ?_ _) | (with_reducible refine below_more _ _ _ ?_ ?_) | (with_reducible refine Below.alloc ?_ ?_ _) | (with_reducible refine Below.drew ?_) | (with_reducible refine Below.setCell ?_ ?_ _) | go_size)) s1]
    split
    · rename_i e; subst e
      have := kc 25
      simp [go_sem] at this ⊢
      simp [go_sem, this]
    · rename_i e
      rw [← kc j]
      simp [go_sem]
  have hnl : r.nl = lr.length := by obtain ⟨_, _, e, _⟩ := hlr; simp only [Value.slice.injEq] at e; exact e.2.1
  refine ⟨hwx, by simp; omega, by simp; omega, by simp, ?_, fun j v hj => ?_, fun j => ?_, fun j => ?_, ?_, ?_, hok.keep hwx, ?_, by simp; omega⟩
  · rw [hkk 7]; simp
  · rw [hkk (10 + j), Nat.add_comm 10 j]
    by_cases e : j = 15
    · subst e; simpa [cutR] using hj
    · rw [if_neg (by omega)]
      simp only [List.getElem?_toArray, List.getElem?_cons_succ]
      rw [← hj]
      unfold cutR
      by_cases hl : j < 24
      · match j, e, hl with
        | 0, e, _ => rfl
        | 1, e, _ => rfl
        | 2, e, _ => rfl
        | 3, e, _ => rfl
        | 4, e, _ => rfl
        | 5, e, _ => rfl
        | 6, e, _ => rfl
        | 7, e, _ => rfl
        | 8, e, _ => rfl
        | 9, e, _ => rfl
        | 10, e, _ => rfl
        | 11, e, _ => rfl
        | 12, e, _ => rfl
        | 13, e, _ => rfl
        | 14, e, _ => rfl
        | 15, e, _ => exact absurd rfl e
        | 16, e, _ => rfl
        | 17, e, _ => rfl
        | 18, e, _ => rfl
        | 19, e, _ => rfl
        | 20, e, _ => rfl
        | 21, e, _ => rfl
        | 22, e, _ => rfl
        | 23, e, _ => rfl
      · rw [List.getElem?_eq_none (by simp; omega), List.getElem?_eq_none (by simp; omega)]
  · exact (World.cell?_of_block (w := w3) (a := ⟨n3, j, none⟩) (hh n3 s3 h3)).trans (k3 j)
  · exact alloc_cells _ _ _ _ _ (by simp)
  · have := (Array.getElem?_eq_some_iff.1 hm).1
    unfold MapAt at *
    rw [hh b this hbw]; exact hm
  · exact RIn.of_sl (hs.keep fun g hg => hh g (sl_lt hs hg) (by have := ho g hg; omega))
  · have e : lr.take 50 = lr.take (min r.nl 50) := by
      rw [hnl]
      rcases Nat.le_total lr.length 50 with h | h
      · rw [Nat.min_eq_left h, List.take_length, List.take_of_length_le h]
      · rw [Nat.min_eq_right h]
    rw [e]
    exact (hlr.take (min r.nl 50) (Nat.min_le_left _ _)).keep hwx
theorem MidF.grow {w wx wy : World} {n3 n6 b : Nat} {c : Cfg} {z t : Int} {p' : Option Addr} {c' : Nat} {L' : List Gh} {r : Rcd} {lr : List Bun} {bl : Gh → List Bun} (h : MidF w wx n3 n6 b c z t p' c' L' r lr bl) (hb : Below wx.heap.size wx wy) : MidF w wy n3 n6 b c z t p' c' L' r lr bl := by
  have hz := hb.size
  have h1 := h.s1; have h2 := h.s3; have h3 := h.s6
  exact ⟨h.hw.trans (hb.mono h.hw.size), by omega, by omega, by omega, (hb.cell (p := ⟨w.heap.size, 7, none⟩) h1).trans h.kz, fun j v hj => (hb.cell (p := ⟨w.heap.size, 10 + j, none⟩) h1).trans (h.kr j v hj), fun j => (hb.cell (p := ⟨n3, j, none⟩) h2).trans (h.k3 j), fun j => (hb.cell (p := ⟨n6, j, none⟩) h3).trans (h.k6 j), h.hm.grow hb, h.hr.keep hb, h.hok.keep hb, h.hlr.keep hb, h.hln⟩
set_option maxRecDepth 100000 in
set_option maxHeartbeats 4000000 in
theorem walk (cols rows side radius speed ids queue z t : Int) (p : Option Addr) (cap : Nat) (r : Rcd) (L : List Gh) (w : World) (hL : RIn ghL w (.slice p L.length cap) L) (hO : ∀ g ∈ L, ∃ l, BIn w (.slice g.p g.n g.c) l) (lr : List Bun) (hr : BIn w (.slice r.pl r.nl r.cl) lr) :
    Calls Try.prog 4 #[.agg #[.int .i64 cols, .int .i64 rows, .int .i64 side, .int .i64 radius, .int .i64 speed, .int .i64 ids, .int .i64 queue, .int .i64 z, .int .i64 t, .slice p L.length cap, .int .i64 r.k, .int .i64 r.n, .int .i64 r.f, .slice r.pc r.nc r.cc, .int .i64 (r.b).s, .int .i64 (r.b).i, .int .i64 (r.b).g, .int .i64 (r.b).m, .int .i64 (r.b).x, .int .i64 (r.b).y, .int .i64 (r.b).vx, .int .i64 (r.b).vy, .int .i64 (r.b).hp, .int .i64 (r.b).pw, .int .i64 (r.b).lf, .slice r.pl r.nl r.cl, .int .i64 r.s.ep, .int .i64 r.s.t, .slice r.s.po r.s.no r.s.co, .slice r.s.pd r.s.nd r.s.cd, .slice r.s.pu r.s.nu r.s.cu, .slice r.s.pi r.s.ni r.s.ci, .slice r.s.pg r.s.ng r.s.cg, .int .i64 r.s.nx]] w fun e w' => e = .returned (.bool true) ∧ Below w.heap.size w w' := by
  have HMay := Lib.hid (fun W => may_any cols rows side radius speed ids queue W)
  have ho := mayF_ok ⟨cols, rows, side, radius, speed, ids, queue⟩
  generalize mayF ⟨cols, rows, side, radius, speed, ids, queue⟩ = d at *
  obtain ⟨dcols, drows, dside, dradius, dspeed, dids, dqueue⟩ := d
  have HO := Lib.hid ho
  have HCL := Lib.hid (fun W (hW : Below w.heap.size w W) => cutL_ok (W := W) (L := L) (fun g hg => let ⟨l, hl⟩ := hO g hg; ⟨l, hl.keep hW⟩))
  have HST := Lib.hid (fun W (hW : Below w.heap.size w W) => state_any cols rows side radius speed ids queue z t p cap r L W (hL.keep hW) (fun g hg => let ⟨l, hl⟩ := hO g hg; ⟨l, hl.keep hW⟩))
  have HLR := Lib.hid hr
  clear hL hO ho hr
  go_enter Try.func4, Try.ntmps4
  go_wp2_with (go_at_call 17; refine (HMay.out _).mono ?_; rintro e w' ⟨rfl, hb⟩; obtain ⟨d, os, rfl⟩ := more_of hb; clear hb)
  refine (znew_ok dcols drows dside dradius dspeed dids dqueue _ HO.out).mono ?_
  rintro e w2 ⟨b, rfl, hb2, hmap, hbb⟩
  have hc0 : ∀ j, w2.cell? ⟨w.heap.size, j, none⟩ = (#[.int .i64 cols, .int .i64 rows, .int .i64 side, .int .i64 radius, .int .i64 speed, .int .i64 ids, .int .i64 queue, .int .i64 z, .int .i64 t, .slice p L.length cap, .int .i64 r.k, .int .i64 r.n, .int .i64 r.f, .slice r.pc r.nc r.cc, .int .i64 (r.b).s, .int .i64 (r.b).i, .int .i64 (r.b).g, .int .i64 (r.b).m, .int .i64 (r.b).x, .int .i64 (r.b).y, .int .i64 (r.b).vx, .int .i64 (r.b).vy, .int .i64 (r.b).hp, .int .i64 (r.b).pw, .int .i64 (r.b).lf, .slice r.pl r.nl r.cl, .int .i64 r.s.ep, .int .i64 r.s.t, .slice r.s.po r.s.no r.s.co, .slice r.s.pd r.s.nd r.s.cd, .slice r.s.pu r.s.nu r.s.cu, .slice r.s.pi r.s.ni r.s.ci, .slice r.s.pg r.s.ng r.s.cg, .int .i64 r.s.nx] : Array Value)[j]? := fun j => by rw [hb2.cell (by first | (simp; done) | (simp; omega))]; simp [go_sem]
  have s1 : w.heap.size < w2.heap.size := by have := hb2.size; simp at this; omega
  have hbw : Below w.heap.size w w2 := Below.trans (Below.mono (B := w.heap.size) (by repeat' (first | (with_reducible exact Below.refl _ _) | (with_reducible assumption) | (with_reducible refine below_drewN ?_ _) | (with_reducible refine below_more _ _ _ ?_ ?_) | (with_reducible refine Below.alloc ?_ ?_ _) | (with_reducible refine Below.drew ?_) | (with_reducible refine Below.setCell ?_ ?_ _) | go_size)) (Nat.le_refl _)) (hb2.mono (by simp; omega))
  have hc3 : ∀ j, w2.cell? ⟨w.heap.size + 1 + os.size, j, none⟩ = (#[.int .i64 dcols, .int .i64 drows, .int .i64 dside, .int .i64 dradius, .int .i64 dspeed, .int .i64 dids, .int .i64 dqueue] : Array Value)[j]? := fun j => by rw [hb2.cell (by first | (simp; done) | (simp; omega))]; exact alloc_cells _ _ _ _ _ (by simp)
  have s3 : w.heap.size + 1 + os.size < w2.heap.size := by have := hb2.size; simp at this; omega
  have HK3 := Lib.hid hc3
  have HFZ := Lib.hid ((World.frozen?_of_block (a := ⟨w.heap.size, 25, none⟩) (hb2.block w.heap.size (by first | (simp; done) | (simp; omega)))).trans (by simp [go_sem]) : w2.frozen? ⟨w.heap.size, 25, none⟩ = false)
  clear hc3
  have hld : (ldC ⟨w.heap.size, 0, none⟩).run Try.prog w2 = .ok (.agg #[.int .i64 cols, .int .i64 rows, .int .i64 side, .int .i64 radius, .int .i64 speed, .int .i64 ids, .int .i64 queue, .int .i64 z, .int .i64 t, .slice p L.length cap, .int .i64 r.k, .int .i64 r.n, .int .i64 r.f, .slice r.pc r.nc r.cc, .int .i64 (r.b).s, .int .i64 (r.b).i, .int .i64 (r.b).g, .int .i64 (r.b).m, .int .i64 (r.b).x, .int .i64 (r.b).y, .int .i64 (r.b).vx, .int .i64 (r.b).vy, .int .i64 (r.b).hp, .int .i64 (r.b).pw, .int .i64 (r.b).lf, .slice r.pl r.nl r.cl, .int .i64 r.s.ep, .int .i64 r.s.t, .slice r.s.po r.s.no r.s.co, .slice r.s.pd r.s.nd r.s.cd, .slice r.s.pu r.s.nu r.s.cu, .slice r.s.pi r.s.ni r.s.ci, .slice r.s.pg r.s.ng r.s.cg, .int .i64 r.s.nx]) w2 := ldC_of [.int .i64 cols, .int .i64 rows, .int .i64 side, .int .i64 radius, .int .i64 speed, .int .i64 ids, .int .i64 queue, .int .i64 z, .int .i64 t, .slice p L.length cap, .int .i64 r.k, .int .i64 r.n, .int .i64 r.f, .slice r.pc r.nc r.cc, .int .i64 (r.b).s, .int .i64 (r.b).i, .int .i64 (r.b).g, .int .i64 (r.b).m, .int .i64 (r.b).x, .int .i64 (r.b).y, .int .i64 (r.b).vx, .int .i64 (r.b).vy, .int .i64 (r.b).hp, .int .i64 (r.b).pw, .int .i64 (r.b).lf, .slice r.pl r.nl r.cl, .int .i64 r.s.ep, .int .i64 r.s.t, .slice r.s.po r.s.no r.s.co, .slice r.s.pd r.s.nd r.s.cd, .slice r.s.pu r.s.nu r.s.cu, .slice r.s.pi r.s.ni r.s.ci, .slice r.s.pg r.s.ng r.s.cg, .int .i64 r.s.nx] rfl (fun j v hj => by rw [Nat.zero_add, hc0]; simpa using hj)
  have HC0 := Lib.hid hc0
  have HBW := Lib.hid hbw
  have HMP := Lib.hid hmap
  have hbne : b ≠ w.heap.size := by simp at hbb; omega
  clear hb2 hc0 hmap hbb
  go_wp2_with fail
  refine (HST.out _ hbw).mono ?_
  rintro e w3 ⟨p', n', c', rfl, hR⟩
  clear hld
  have hn' : n' = (cutL L).length := by obtain ⟨_, _, e⟩ := sl_frm hR.1; simp only [Value.slice.injEq] at e; exact e.2.1
  subst hn'
  have hb3 := hR.2.1
  have HOK := Lib.hid (blOf_ok (HCL.out w (Below.refl _ _)))
  have HLN := Lib.hid (cutL_len L)
  have HR := Lib.hid hR.rin
  have HB3 := Lib.hid (hbw.trans (hb3.mono hbw.size))
  have HM3 := Lib.hid (HMP.out.grow hb3)
  have HC3 := Lib.hid (fun j => (hb3.cell (p := ⟨w.heap.size, j, none⟩) s1).trans (HC0.out j))
  have HK33 := Lib.hid (fun j => (hb3.cell (p := ⟨w.heap.size + 1 + os.size, j, none⟩) s3).trans (HK3.out j))
  have s33 : w.heap.size + 1 + os.size < w3.heap.size := by have := hb3.size; omega
  have hfz3 : w3.frozen? ⟨w.heap.size, 25, none⟩ = false := (World.frozen?_of_block (a := ⟨w.heap.size, 25, none⟩) (hb3.block w.heap.size s1)).trans HFZ.out
  have s13 : w.heap.size < w3.heap.size := by have := hb3.size; omega
  generalize blOf w = bl at *
  have HS3 := Lib.hid hR.1
  have HOW := Lib.hid (fun g hg => Nat.lt_of_lt_of_le s1 (hR.2.2 g hg))
  clear hR hb3 hbw HCL HST HBW HMP HC0 s1 HMay
  generalize cutL L = L' at *
  generalize Value.agg #[.int .i64 cols, .int .i64 rows, .int .i64 side, .int .i64 radius, .int .i64 speed, .int .i64 ids, .int .i64 queue, .int .i64 z, .int .i64 t, .slice p L.length cap, .int .i64 r.k, .int .i64 r.n, .int .i64 r.f, .slice r.pc r.nc r.cc, .int .i64 (r.b).s, .int .i64 (r.b).i, .int .i64 (r.b).g, .int .i64 (r.b).m, .int .i64 (r.b).x, .int .i64 (r.b).y, .int .i64 (r.b).vx, .int .i64 (r.b).vy, .int .i64 (r.b).hp, .int .i64 (r.b).pw, .int .i64 (r.b).lf, .slice r.pl r.nl r.cl, .int .i64 r.s.ep, .int .i64 r.s.t, .slice r.s.po r.s.no r.s.co, .slice r.s.pd r.s.nd r.s.cd, .slice r.s.pu r.s.nu r.s.cu, .slice r.s.pi r.s.ni r.s.ci, .slice r.s.pg r.s.ng r.s.cg, .int .i64 r.s.nx] = cv
  have x25 := HC3.out 25
  simp at x25
  obtain ⟨a0, a1, a2⟩ := ltz s13
  have HFEW := Lib.hid (fun W (hW : Below w.heap.size w W) => few22_form ⟨0, 0, r.pl, r.nl, r.cl⟩ lr W (HLR.out.keep hW))
  have hb3w := HB3.out
  go_upto_region 4 with fail
  go_cut [1, 3, 4, 5, 6] (fun a b3 c d e wx => ∃ n3 n6, (a = .pointer (some ⟨w.heap.size, 0, none⟩) ∧ b3 = .pointer (some ⟨n3, 0, none⟩) ∧ c = .pointer (some ⟨b, 0, none⟩) ∧ d = .int .i64 0 ∧ e = .pointer (some ⟨n6, 0, none⟩)) ∧ Hid (MidF w wx n3 n6 b ⟨dcols, drows, dside, dradius, dspeed, dids, dqueue⟩ z t p' c' L' (cutR r) (lr.take 50) bl))
  case first =>
    go_wp2_with fail
    refine (HFEW.out _ (by repeat' (first | (with_reducible exact Below.refl _ _) | (with_reducible assumption) | (with_reducible refine below_drewN ?_ _) | (with_reducible refine below_more _ _ _ ?_ ?_) | (with_reducible refine Below.alloc ?_ ?_ _) | (with_reducible refine Below.drew ?_) | (with_reducible refine Below.setCell ?_ ?_ _) | go_size))).mono ?_; rintro e w' ⟨rfl, rfl⟩
    go_wp2_with fail
    go_meet
    exact ⟨_, _, ⟨rfl, rfl, rfl, rfl, rfl⟩, Lib.hid (midF_of HB3.out s13 s33 (by omega) HC3.out HK33.out HM3.out hbne HS3.out HOW.out HOK.out HLR.out)⟩
  obtain ⟨n3, n6, ⟨rfl, rfl, rfl, rfl, rfl⟩, HM⟩ := hcut
  obtain ⟨w5, rfl⟩ : ∃ w5 : World, w5 = wc := ⟨_, rfl⟩
  clear HFEW hb3w x25 a0 a1 a2 s13 s33 HB3 HC3 HK33 HM3 HS3 HOW HOK HLR HR hbne hfz3 HFZ HK3 s3
  have hln := HLN.out
  have s1 := HM.out.s1
  have s3 := HM.out.s3
  have s6 := HM.out.s6
  have q7 := HM.out.kz
  have v0 := HM.out.k6 0; simp at v0; have v1 := HM.out.k6 1; simp at v1; have v2 := HM.out.k6 2; simp at v2; have v3 := HM.out.k6 3; simp at v3; have v4 := HM.out.k6 4; simp at v4; have v5 := HM.out.k6 5; simp at v5; have v6 := HM.out.k6 6; simp at v6; have v7 := HM.out.k6 7; simp at v7
  have e0 := HM.out.k3 0; simp at e0; have e1 := HM.out.k3 1; simp at e1; have e2 := HM.out.k3 2; simp at e2; have e3 := HM.out.k3 3; simp at e3; have e4 := HM.out.k3 4; simp at e4; have e5 := HM.out.k3 5; simp at e5; have e6 := HM.out.k3 6; simp at e6
  have HI1 := Lib.hid (fun W (hW : Below w5.heap.size w5 W) => missing_at b ⟨dcols, drows, dside, dradius, dspeed, dids, dqueue⟩ z t p' L'.length c' L' W (HM.out.hm.grow hW) HO.out (HM.out.hr.keep hW))
  have HI2 := Lib.hid (fun W (hW : Below w5.heap.size w5 W) => rmissing_at dcols drows dside dradius dspeed dids dqueue z t p' L'.length c' L' W HO.out (HM.out.hr.keep hW))
  have HN1 := Lib.hid (fun W (hW : Below w5.heap.size w5 W) => near_at t p' L'.length c' L' bl W (HM.out.hr.keep hW) (HM.out.hok.keep hW) (by omega))
  have HN2 := Lib.hid (fun W (hW : Below w5.heap.size w5 W) => rnear_at t p' L'.length c' L' bl W (HM.out.hr.keep hW) (HM.out.hok.keep hW) (by omega))
  generalize hms : missF (besR ⟨dcols, drows, dside, dradius, dspeed, dids, dqueue⟩ z) L' t = ms at *
  generalize nearG L' t bl = ns at *
  have HSM := Lib.hid (fun va vb W h1 h2 => same_any va vb ns ns W h1 h2)
  rw [decide_eq_true rfl] at HSM
  have HMS := Lib.hid hms
  clear hms
  go_upto_region 5 with fail
  go_cut [52] (fun x wx => x = .bool false ∧ Hid (MidF w wx n3 n6 b ⟨dcols, drows, dside, dradius, dspeed, dids, dqueue⟩ z t p' c' L' (cutR r) (lr.take 50) bl))
  case first =>
    go_region_held3 (fun W => (w5).heap.size ≤ W.heap.size ∧ ∀ b o, b < (w5).heap.size → W.cell? ⟨b, o, none⟩ = (w5).cell? ⟨b, o, none⟩) (with_reducible (repeat (first | assumption | exact s_refl _ | exact s_id _ | refine s_more _ _ ?_ | refine s_alloc _ ?_ | refine s_drew ?_))) (first | (go_at_call 26; refine (HI1.out _ (by repeat' (first | (with_reducible exact Below.refl _ _) | (with_reducible assumption) | (with_reducible refine below_drewN ?_ _) | (with_reducible refine below_more _ _ _ ?_ ?_) | (with_reducible refine Below.alloc ?_ ?_ _) | (with_reducible refine Below.drew ?_) | (with_reducible refine Below.setCell ?_ ?_ _) | go_size))).mono ?_; rintro e w' ⟨v1, rfl, hM1⟩; obtain ⟨d1, os1, rfl⟩ := more_of hM1.2.1) | (go_at_call 27; refine (HI2.out _ (by repeat' (first | (with_reducible exact Below.refl _ _) | (with_reducible assumption) | (with_reducible refine below_drewN ?_ _) | (with_reducible refine below_more _ _ _ ?_ ?_) | (with_reducible refine Below.alloc ?_ ?_ _) | (with_reducible refine Below.drew ?_) | (with_reducible refine Below.setCell ?_ ?_ _) | go_size))).mono ?_; rintro e w' ⟨v2, rfl, hM2⟩; obtain ⟨d2, os2, rfl⟩ := more_of hM2.2.1) | (go_at_call 25; refine (ints22_any _ _ _ _ (hM1.rin.keep (by repeat' (first | (with_reducible exact Below.refl _ _) | (with_reducible assumption) | (with_reducible refine below_drewN ?_ _) | (with_reducible refine below_more _ _ _ ?_ ?_) | (with_reducible refine Below.alloc ?_ ?_ _) | (with_reducible refine Below.drew ?_) | (with_reducible refine Below.setCell ?_ ?_ _) | go_size))) (hM2.rin.keep (by repeat' (first | (with_reducible exact Below.refl _ _) | (with_reducible assumption) | (with_reducible refine below_drewN ?_ _) | (with_reducible refine below_more _ _ _ ?_ ?_) | (with_reducible refine Below.alloc ?_ ?_ _) | (with_reducible refine Below.drew ?_) | (with_reducible refine Below.setCell ?_ ?_ _) | go_size)))).mono ?_; rintro e w' ⟨rfl, hb⟩; obtain ⟨d3, os3, rfl⟩ := more_of hb) | (go_at_call 28; refine (HN1.out _ (by repeat' (first | (with_reducible exact Below.refl _ _) | (with_reducible assumption) | (with_reducible refine below_drewN ?_ _) | (with_reducible refine below_more _ _ _ ?_ ?_) | (with_reducible refine Below.alloc ?_ ?_ _) | (with_reducible refine Below.drew ?_) | (with_reducible refine Below.setCell ?_ ?_ _) | go_size))).mono ?_; rintro e w' ⟨v3, rfl, hN1⟩; obtain ⟨d4, os4, rfl⟩ := more_of hN1.2.1) | (go_at_call 29; refine (HN2.out _ (by repeat' (first | (with_reducible exact Below.refl _ _) | (with_reducible assumption) | (with_reducible refine below_drewN ?_ _) | (with_reducible refine below_more _ _ _ ?_ ?_) | (with_reducible refine Below.alloc ?_ ?_ _) | (with_reducible refine Below.drew ?_) | (with_reducible refine Below.setCell ?_ ?_ _) | go_size))).mono ?_; rintro e w' ⟨v4, rfl, hN2⟩; obtain ⟨d5, os5, rfl⟩ := more_of hN2.2.1) | (go_at_call 20; refine (HSM.out _ _ _ (hN1.bin.keep (by repeat' (first | (with_reducible exact Below.refl _ _) | (with_reducible assumption) | (with_reducible refine below_drewN ?_ _) | (with_reducible refine below_more _ _ _ ?_ ?_) | (with_reducible refine Below.alloc ?_ ?_ _) | (with_reducible refine Below.drew ?_) | (with_reducible refine Below.setCell ?_ ?_ _) | go_size))) (hN2.bin.keep (by repeat' (first | (with_reducible exact Below.refl _ _) | (with_reducible assumption) | (with_reducible refine below_drewN ?_ _) | (with_reducible refine below_more _ _ _ ?_ ?_) | (with_reducible refine Below.alloc ?_ ?_ _) | (with_reducible refine Below.drew ?_) | (with_reducible refine Below.setCell ?_ ?_ _) | go_size)))).mono ?_; rintro e w' ⟨rfl, hb⟩; obtain ⟨d6, os6, rfl⟩ := more_of hb))
    all_goals
      go_wp2_with fail
      go_meet
      exact ⟨rfl, Lib.hid (HM.out.grow (by repeat' (first | (with_reducible exact Below.refl _ _) | (with_reducible assumption) | (with_reducible refine below_drewN ?_ _) | (with_reducible refine below_more _ _ _ ?_ ?_) | (with_reducible refine Below.alloc ?_ ?_ _) | (with_reducible refine Below.drew ?_) | (with_reducible refine Below.setCell ?_ ?_ _) | go_size)))⟩
  obtain ⟨rfl, HM⟩ := hcut
  obtain ⟨w6, rfl⟩ : ∃ w6 : World, w6 = wc := ⟨_, rfl⟩
  clear HI1 HI2 HN1 HN2 HSM s1 s3 s6 q7 v0 v1 v2 v3 v4 v5 v6 v7 e0 e1 e2 e3 e4 e5 e6
  have s1 := HM.out.s1
  have s3 := HM.out.s3
  have s6 := HM.out.s6
  have v6 := HM.out.k6 6
  simp at v6
  obtain ⟨z0, z1, z2⟩ := ltz s6
  have hE : RNew ghL 64 3 w6 (w6.alloc (.cells #[] 64)) (.slice (some ⟨w6.heap.size, 0, none⟩) 0 0) [] := ⟨by simpa [cellsR] using sl_emptyG w6, (by repeat' (first | (with_reducible exact Below.refl _ _) | (with_reducible assumption) | (with_reducible refine below_drewN ?_ _) | (with_reducible refine below_more _ _ _ ?_ ?_) | (with_reducible refine Below.alloc ?_ ?_ _) | (with_reducible refine Below.drew ?_) | (with_reducible refine Below.setCell ?_ ?_ _) | go_size)), fun g hg => by simp [Value.ownBlock] at hg; omega⟩
  have HE := Lib.hid hE
  clear hE
  go_upto_region 8 with (at_builtin; refine wpList_append_ghs w6 _ (by rfl) _ _ (by rfl) _ _ [] L' (by rfl) HE.out (by rfl) (HM.out.hr.keep (by repeat' (first | (with_reducible exact Below.refl _ _) | (with_reducible assumption) | (with_reducible refine below_drewN ?_ _) | (with_reducible refine below_more _ _ _ ?_ ?_) | (with_reducible refine Below.alloc ?_ ?_ _) | (with_reducible refine Below.drew ?_) | (with_reducible refine Below.setCell ?_ ?_ _) | go_size))) (by simp) (by omega) ?_; intro v7 w7 hV7; rw [List.nil_append] at hV7)
  have HM7 := Lib.hid (HM.out.grow hV7.2.1)
  have HV7 := Lib.hid hV7
  clear hV7 HM s1 s3 s6 v6 z0 z1 z2 HE
  have s1 := HM7.out.s1
  have s3 := HM7.out.s3
  have s6 := HM7.out.s6
  have q7 := HM7.out.kz
  have v0 := HM7.out.k6 0; simp at v0; have v1 := HM7.out.k6 1; simp at v1; have v2 := HM7.out.k6 2; simp at v2; have v3 := HM7.out.k6 3; simp at v3; have v4 := HM7.out.k6 4; simp at v4; have v5 := HM7.out.k6 5; simp at v5; have v6 := HM7.out.k6 6; simp at v6; have v7 := HM7.out.k6 7; simp at v7
  have e0 := HM7.out.k3 0; simp at e0; have e1 := HM7.out.k3 1; simp at e1; have e2 := HM7.out.k3 2; simp at e2; have e3 := HM7.out.k3 3; simp at e3; have e4 := HM7.out.k3 4; simp at e4; have e5 := HM7.out.k3 5; simp at e5; have e6 := HM7.out.k3 6; simp at e6
  obtain ⟨z0, z1, z2⟩ := ltz s6
  obtain ⟨y0, y1, y2⟩ := ltz s3
  obtain ⟨x0, x1, x2⟩ := ltz s1
  have hlr : (ldR ⟨w.heap.size, 10, none⟩).run Try.prog w7 = .ok (.agg #[.int .i64 (cutR r).k, .int .i64 (cutR r).n, .int .i64 (cutR r).f, .slice (cutR r).pc (cutR r).nc (cutR r).cc, .int .i64 ((cutR r).b).s, .int .i64 ((cutR r).b).i, .int .i64 ((cutR r).b).g, .int .i64 ((cutR r).b).m, .int .i64 ((cutR r).b).x, .int .i64 ((cutR r).b).y, .int .i64 ((cutR r).b).vx, .int .i64 ((cutR r).b).vy, .int .i64 ((cutR r).b).hp, .int .i64 ((cutR r).b).pw, .int .i64 ((cutR r).b).lf, .slice (cutR r).pl (cutR r).nl (cutR r).cl, .int .i64 (cutR r).s.ep, .int .i64 (cutR r).s.t, .slice (cutR r).s.po (cutR r).s.no (cutR r).s.co, .slice (cutR r).s.pd (cutR r).s.nd (cutR r).s.cd, .slice (cutR r).s.pu (cutR r).s.nu (cutR r).s.cu, .slice (cutR r).s.pi (cutR r).s.ni (cutR r).s.ci, .slice (cutR r).s.pg (cutR r).s.ng (cutR r).s.cg, .int .i64 (cutR r).s.nx]) w7 := ldR_of [.int .i64 (cutR r).k, .int .i64 (cutR r).n, .int .i64 (cutR r).f, .slice (cutR r).pc (cutR r).nc (cutR r).cc, .int .i64 ((cutR r).b).s, .int .i64 ((cutR r).b).i, .int .i64 ((cutR r).b).g, .int .i64 ((cutR r).b).m, .int .i64 ((cutR r).b).x, .int .i64 ((cutR r).b).y, .int .i64 ((cutR r).b).vx, .int .i64 ((cutR r).b).vy, .int .i64 ((cutR r).b).hp, .int .i64 ((cutR r).b).pw, .int .i64 ((cutR r).b).lf, .slice (cutR r).pl (cutR r).nl (cutR r).cl, .int .i64 (cutR r).s.ep, .int .i64 (cutR r).s.t, .slice (cutR r).s.po (cutR r).s.no (cutR r).s.co, .slice (cutR r).s.pd (cutR r).s.nd (cutR r).s.cd, .slice (cutR r).s.pu (cutR r).s.nu (cutR r).s.cu, .slice (cutR r).s.pi (cutR r).s.ni (cutR r).s.ci, .slice (cutR r).s.pg (cutR r).s.ng (cutR r).s.cg, .int .i64 (cutR r).s.nx] rfl (fun j v hj => HM7.out.kr j v hj)
  by_cases hf : foldC ⟨dcols, drows, dside, dradius, dspeed, dids, dqueue⟩ z t L' (cutR r)
  · go_wp2_with fail
    refine (fold_at b ⟨dcols, drows, dside, dradius, dspeed, dids, dqueue⟩ z t p' L'.length c' (cutR r) L' (lr.take 50) _ (HM7.out.hm.grow (by repeat' (first | (with_reducible exact Below.refl _ _) | (with_reducible assumption) | (with_reducible refine below_drewN ?_ _) | (with_reducible refine below_more _ _ _ ?_ ?_) | (with_reducible refine Below.alloc ?_ ?_ _) | (with_reducible refine Below.drew ?_) | (with_reducible refine Below.setCell ?_ ?_ _) | go_size))) HO.out (HM7.out.hr.keep (by repeat' (first | (with_reducible exact Below.refl _ _) | (with_reducible assumption) | (with_reducible refine below_drewN ?_ _) | (with_reducible refine below_more _ _ _ ?_ ?_) | (with_reducible refine Below.alloc ?_ ?_ _) | (with_reducible refine Below.drew ?_) | (with_reducible refine Below.setCell ?_ ?_ _) | go_size))) (by omega) (HM7.out.hlr.keep (by repeat' (first | (with_reducible exact Below.refl _ _) | (with_reducible assumption) | (with_reducible refine below_drewN ?_ _) | (with_reducible refine below_more _ _ _ ?_ ?_) | (with_reducible refine Below.alloc ?_ ?_ _) | (with_reducible refine Below.drew ?_) | (with_reducible refine Below.setCell ?_ ?_ _) | go_size))) (by have := HM7.out.hln; omega) hf).mono ?_
    rintro e w8 ⟨p1, n1, c1, p2, n2, c2, rfl, hR1, hB1⟩
    have hb8 := hR1.2.1
    have HM8 := Lib.hid (HM7.out.grow hb8)
    have HV8 := Lib.hid (HV7.out.grow hb8)
    have HR1 := Lib.hid hR1
    have HBI := Lib.hid hB1
    obtain rfl : n1 = L'.length + 1 := by obtain ⟨_, _, e⟩ := sl_frm hR1.1; simp only [Value.slice.injEq, List.length_append, List.length_singleton] at e; exact e.2.1
    obtain ⟨g5, o5, rfl⟩ : ∃ g5 o5, p1 = some ⟨g5, o5, none⟩ := by
      obtain ⟨_, ⟨h1, h0⟩ | ⟨g', off', cap', cur, hv, _⟩⟩ := hR1.1
      · simp at h0
      · simp only [Value.slice.injEq] at hv; exact ⟨_, _, hv.1⟩
    have hg5 : w7.heap.size ≤ g5 := hR1.2.2 g5 rfl
    have hg8 : g5 < w8.heap.size := sl_lt hR1.1 rfl
    have hz8 := hb8.size
    have HB8 := Lib.hid hb8
    clear hb8 hR1 hB1 hlr s1 s3 s6 q7 z0 z1 z2 y0 y1 y2 x0 x1 x2 v0 v1 v2 v3 v4 v5 v6 v7 e0 e1 e2 e3 e4 e5 e6
    generalize Value.agg #[.int .i64 (cutR r).k, .int .i64 (cutR r).n, .int .i64 (cutR r).f, .slice (cutR r).pc (cutR r).nc (cutR r).cc, .int .i64 ((cutR r).b).s, .int .i64 ((cutR r).b).i, .int .i64 ((cutR r).b).g, .int .i64 ((cutR r).b).m, .int .i64 ((cutR r).b).x, .int .i64 ((cutR r).b).y, .int .i64 ((cutR r).b).vx, .int .i64 ((cutR r).b).vy, .int .i64 ((cutR r).b).hp, .int .i64 ((cutR r).b).pw, .int .i64 ((cutR r).b).lf, .slice (cutR r).pl (cutR r).nl (cutR r).cl, .int .i64 (cutR r).s.ep, .int .i64 (cutR r).s.t, .slice (cutR r).s.po (cutR r).s.no (cutR r).s.co, .slice (cutR r).s.pd (cutR r).s.nd (cutR r).s.cd, .slice (cutR r).s.pu (cutR r).s.nu (cutR r).s.cu, .slice (cutR r).s.pi (cutR r).s.ni (cutR r).s.ci, .slice (cutR r).s.pg (cutR r).s.ng (cutR r).s.cg, .int .i64 (cutR r).s.nx] = rv
    go_upto_region 9 with fail
    generalize hw9 : World.alloc w8 _ = w9
    have hb9 : Below w8.heap.size w8 w9 := by rw [← hw9]; exact (by repeat' (first | (with_reducible exact Below.refl _ _) | (with_reducible assumption) | (with_reducible refine below_drewN ?_ _) | (with_reducible refine below_more _ _ _ ?_ ?_) | (with_reducible refine Below.alloc ?_ ?_ _) | (with_reducible refine Below.drew ?_) | (with_reducible refine Below.setCell ?_ ?_ _) | go_size))
    have k8 : ∀ u, w9.cell? ⟨w8.heap.size, u, none⟩ = (#[.int .i64 0, .int .i64 t, .slice none 0 0, .slice none 0 0, .slice none 0 0, .slice none 0 0, .slice (some ⟨g5, o5, none⟩) (L'.length + 1) c1, .int .i64 0] : Array Value)[u]? := fun u => by rw [← hw9]; exact alloc_cells _ _ _ _ _ (by simp)
    have s8 : w8.heap.size < w9.heap.size := by rw [← hw9]; simp
    have HM9 := Lib.hid (HM8.out.grow hb9)
    have HV9 := Lib.hid (HV8.out.grow hb9)
    have HR9 := Lib.hid (HR1.out.grow hb9)
    have HBI9 := Lib.hid (HBI.out.keep hb9)
    have HB9 := Lib.hid (HB8.out.trans (hb9.mono hz8))
    have K8 := Lib.hid k8
    have hz9 := hb9.size
    generalize w8.heap.size = n8 at *
    clear hw9 hb9 k8 HM8 HV8 HR1 HBI HB8
    generalize Value.agg #[.int .i64 (cutR r).k, .int .i64 (cutR r).n, .int .i64 (cutR r).f, .slice (cutR r).pc (cutR r).nc (cutR r).cc, .int .i64 ((cutR r).b).s, .int .i64 ((cutR r).b).i, .int .i64 ((cutR r).b).g, .int .i64 ((cutR r).b).m, .int .i64 ((cutR r).b).x, .int .i64 ((cutR r).b).y, .int .i64 ((cutR r).b).vx, .int .i64 ((cutR r).b).vy, .int .i64 ((cutR r).b).hp, .int .i64 ((cutR r).b).pw, .int .i64 ((cutR r).b).lf, .slice (cutR r).pl (cutR r).nl (cutR r).cl, .int .i64 (cutR r).s.ep, .int .i64 (cutR r).s.t, .slice (cutR r).s.po (cutR r).s.no (cutR r).s.co, .slice (cutR r).s.pd (cutR r).s.nd (cutR r).s.cd, .slice (cutR r).s.pu (cutR r).s.nu (cutR r).s.cu, .slice (cutR r).s.pi (cutR r).s.ni (cutR r).s.ci, .slice (cutR r).s.pg (cutR r).s.ng (cutR r).s.cg, .int .i64 (cutR r).s.nx] = rv
    have s1 := HM9.out.s1
    have s3 := HM9.out.s3
    have s6 := HM9.out.s6
    have q7 := HM9.out.kz
    have v0 := HM9.out.k6 0; simp at v0; have v1 := HM9.out.k6 1; simp at v1; have v2 := HM9.out.k6 2; simp at v2; have v3 := HM9.out.k6 3; simp at v3; have v4 := HM9.out.k6 4; simp at v4; have v5 := HM9.out.k6 5; simp at v5; have v6 := HM9.out.k6 6; simp at v6; have v7 := HM9.out.k6 7; simp at v7
    have e0 := HM9.out.k3 0; simp at e0; have e1 := HM9.out.k3 1; simp at e1; have e2 := HM9.out.k3 2; simp at e2; have e3 := HM9.out.k3 3; simp at e3; have e4 := HM9.out.k3 4; simp at e4; have e5 := HM9.out.k3 5; simp at e5; have e6 := HM9.out.k3 6; simp at e6
    have hlr : (ldR ⟨w.heap.size, 10, none⟩).run Try.prog w9 = .ok (.agg #[.int .i64 (cutR r).k, .int .i64 (cutR r).n, .int .i64 (cutR r).f, .slice (cutR r).pc (cutR r).nc (cutR r).cc, .int .i64 ((cutR r).b).s, .int .i64 ((cutR r).b).i, .int .i64 ((cutR r).b).g, .int .i64 ((cutR r).b).m, .int .i64 ((cutR r).b).x, .int .i64 ((cutR r).b).y, .int .i64 ((cutR r).b).vx, .int .i64 ((cutR r).b).vy, .int .i64 ((cutR r).b).hp, .int .i64 ((cutR r).b).pw, .int .i64 ((cutR r).b).lf, .slice (cutR r).pl (cutR r).nl (cutR r).cl, .int .i64 (cutR r).s.ep, .int .i64 (cutR r).s.t, .slice (cutR r).s.po (cutR r).s.no (cutR r).s.co, .slice (cutR r).s.pd (cutR r).s.nd (cutR r).s.cd, .slice (cutR r).s.pu (cutR r).s.nu (cutR r).s.cu, .slice (cutR r).s.pi (cutR r).s.ni (cutR r).s.ci, .slice (cutR r).s.pg (cutR r).s.ng (cutR r).s.cg, .int .i64 (cutR r).s.nx]) w9 := ldR_of [.int .i64 (cutR r).k, .int .i64 (cutR r).n, .int .i64 (cutR r).f, .slice (cutR r).pc (cutR r).nc (cutR r).cc, .int .i64 ((cutR r).b).s, .int .i64 ((cutR r).b).i, .int .i64 ((cutR r).b).g, .int .i64 ((cutR r).b).m, .int .i64 ((cutR r).b).x, .int .i64 ((cutR r).b).y, .int .i64 ((cutR r).b).vx, .int .i64 ((cutR r).b).vy, .int .i64 ((cutR r).b).hp, .int .i64 ((cutR r).b).pw, .int .i64 ((cutR r).b).lf, .slice (cutR r).pl (cutR r).nl (cutR r).cl, .int .i64 (cutR r).s.ep, .int .i64 (cutR r).s.t, .slice (cutR r).s.po (cutR r).s.no (cutR r).s.co, .slice (cutR r).s.pd (cutR r).s.nd (cutR r).s.cd, .slice (cutR r).s.pu (cutR r).s.nu (cutR r).s.cu, .slice (cutR r).s.pi (cutR r).s.ni (cutR r).s.ci, .slice (cutR r).s.pg (cutR r).s.ng (cutR r).s.cg, .int .i64 (cutR r).s.nx] rfl (fun j v hj => HM9.out.kr j v hj)
    go_wp2_with fail
    refine (rfold_at dcols drows dside dradius dspeed dids dqueue z t p' L'.length c' (cutR r) L' _ HO.out (HM9.out.hr.keep (by repeat' (first | (with_reducible exact Below.refl _ _) | (with_reducible assumption) | (with_reducible refine below_drewN ?_ _) | (with_reducible refine below_more _ _ _ ?_ ?_) | (with_reducible refine Below.alloc ?_ ?_ _) | (with_reducible refine Below.drew ?_) | (with_reducible refine Below.setCell ?_ ?_ _) | go_size))) (by omega) hf).mono ?_
    rintro e w10 ⟨p3, n3', c3, rfl, hR2⟩
    have hb10 := hR2.2.1
    have HM10 := Lib.hid (HM9.out.grow hb10)
    have HV10 := Lib.hid (HV9.out.grow hb10)
    have HR10 := Lib.hid (HR9.out.grow hb10)
    have HBI10 := Lib.hid (HBI9.out.keep hb10)
    have HB10 := Lib.hid (HB9.out.trans (hb10.mono HB9.out.size))
    have K810 := Lib.hid (fun u => (hb10.cell (p := ⟨n8, u, none⟩) s8).trans (K8.out u))
    have s810 : n8 < w10.heap.size := by have := hb10.size; omega
    have HR2 := Lib.hid hR2
    clear hb10 hR2 hlr HM9 HV9 HR9 HBI9 HB9 K8 s1 s3 s6 q7 s8 v0 v1 v2 v3 v4 v5 v6 v7 e0 e1 e2 e3 e4 e5 e6
    go_upto_region 10 with fail
    obtain rfl : n3' = L'.length + 1 := by obtain ⟨_, _, e⟩ := sl_frm HR2.out.1; simp only [Value.slice.injEq, List.length_append, List.length_singleton] at e; exact e.2.1
    generalize hw11 : World.alloc w10 _ = w11
    have hb11 : Below w10.heap.size w10 w11 := by rw [← hw11]; exact (by repeat' (first | (with_reducible exact Below.refl _ _) | (with_reducible assumption) | (with_reducible refine below_drewN ?_ _) | (with_reducible refine below_more _ _ _ ?_ ?_) | (with_reducible refine Below.alloc ?_ ?_ _) | (with_reducible refine Below.drew ?_) | (with_reducible refine Below.setCell ?_ ?_ _) | go_size))
    have k9 : ∀ u, w11.cell? ⟨w10.heap.size, u, none⟩ = (#[.int .i64 0, .int .i64 t, .slice none 0 0, .slice none 0 0, .slice none 0 0, .slice none 0 0, .slice p3 (L'.length + 1) c3, .int .i64 0] : Array Value)[u]? := fun u => by rw [← hw11]; exact alloc_cells _ _ _ _ _ (by simp)
    have s9 : w10.heap.size < w11.heap.size := by rw [← hw11]; simp
    have HM11 := Lib.hid (HM10.out.grow hb11)
    have HV11 := Lib.hid (HV10.out.grow hb11)
    have HR11 := Lib.hid (HR10.out.grow hb11)
    have HR21 := Lib.hid (HR2.out.grow hb11)
    have HBI11 := Lib.hid (HBI10.out.keep hb11)
    have HB11 := Lib.hid (HB10.out.trans (hb11.mono HB10.out.size))
    have K811 := Lib.hid (fun u => (hb11.cell (p := ⟨n8, u, none⟩) s810).trans (K810.out u))
    have s811 : n8 < w11.heap.size := by have := hb11.size; omega
    have K9 := Lib.hid k9
    generalize w10.heap.size = n9 at *
    clear hw11 hb11 k9 HM10 HV10 HR10 HR2 HBI10 HB10 K810 s810
    generalize Value.agg #[.int .i64 (cutR r).k, .int .i64 (cutR r).n, .int .i64 (cutR r).f, .slice (cutR r).pc (cutR r).nc (cutR r).cc, .int .i64 ((cutR r).b).s, .int .i64 ((cutR r).b).i, .int .i64 ((cutR r).b).g, .int .i64 ((cutR r).b).m, .int .i64 ((cutR r).b).x, .int .i64 ((cutR r).b).y, .int .i64 ((cutR r).b).vx, .int .i64 ((cutR r).b).vy, .int .i64 ((cutR r).b).hp, .int .i64 ((cutR r).b).pw, .int .i64 ((cutR r).b).lf, .slice (cutR r).pl (cutR r).nl (cutR r).cl, .int .i64 (cutR r).s.ep, .int .i64 (cutR r).s.t, .slice (cutR r).s.po (cutR r).s.no (cutR r).s.co, .slice (cutR r).s.pd (cutR r).s.nd (cutR r).s.cd, .slice (cutR r).s.pu (cutR r).s.nu (cutR r).s.cu, .slice (cutR r).s.pi (cutR r).s.ni (cutR r).s.ci, .slice (cutR r).s.pg (cutR r).s.ng (cutR r).s.cg, .int .i64 (cutR r).s.nx] = rv
    have s6 := HM11.out.s6
    have v6 := HM11.out.k6 6
    simp at v6
    have t0 := K811.out 0; simp at t0; have t1 := K811.out 1; simp at t1; have t2 := K811.out 2; simp at t2; have t3 := K811.out 3; simp at t3; have t4 := K811.out 4; simp at t4; have t5 := K811.out 5; simp at t5; have t6 := K811.out 6; simp at t6; have t7 := K811.out 7; simp at t7
    have u0 := K9.out 0; simp at u0; have u1 := K9.out 1; simp at u1; have u2 := K9.out 2; simp at u2; have u3 := K9.out 3; simp at u3; have u4 := K9.out 4; simp at u4; have u5 := K9.out 5; simp at u5; have u6 := K9.out 6; simp at u6; have u7 := K9.out 7; simp at u7
    obtain ⟨z0, z1, z2⟩ := ltz s6
    obtain ⟨y0, y1, y2⟩ := ltz s811
    obtain ⟨x0, x1, x2⟩ := ltz s9
    have HAL := Lib.hid (alike_last (f := (cutR r).f) (t := (cutR r).n) HM11.out.hok HBI11.out HM11.out.hlr)
    have HSG := Lib.hid (fun W (hW : Below w11.heap.size w11 W) => sameG_any _ _ L' L' W (HV11.out.rin.keep hW) (HM11.out.hr.keep hW) (alike_self (HM11.out.hok.keep hW)))
    have HSS := Lib.hid (fun W (hW : Below w11.heap.size w11 W) => sameS_any 0 t 0 _ _ _ _ _ _ _ _ W (HR11.out.rin.keep hW) (HR21.out.rin.keep hW) (HAL.out.keep hW))
    go_wp2_with fail
    refine (HSS.out _ (by repeat' (first | (with_reducible exact Below.refl _ _) | (with_reducible assumption) | (with_reducible refine below_drewN ?_ _) | (with_reducible refine below_more _ _ _ ?_ ?_) | (with_reducible refine Below.alloc ?_ ?_ _) | (with_reducible refine Below.drew ?_) | (with_reducible refine Below.setCell ?_ ?_ _) | go_size))).mono ?_; rintro e w' ⟨rfl, hb⟩; obtain ⟨d3, os3, rfl⟩ := more_of hb; clear hb
    go_wp2_with fail
    refine (HSG.out _ (by repeat' (first | (with_reducible exact Below.refl _ _) | (with_reducible assumption) | (with_reducible refine below_drewN ?_ _) | (with_reducible refine below_more _ _ _ ?_ ?_) | (with_reducible refine Below.alloc ?_ ?_ _) | (with_reducible refine Below.drew ?_) | (with_reducible refine Below.setCell ?_ ?_ _) | go_size))).mono ?_; rintro e w' ⟨rfl, hb⟩; obtain ⟨d4, os4, rfl⟩ := more_of hb; clear hb
    go_upto_region 13 with fail
    have hb5 : Below w11.heap.size w11 (more (more w11 d3 os3) d4 os4) := (by repeat' (first | (with_reducible exact Below.refl _ _) | (with_reducible assumption) | (with_reducible refine below_drewN ?_ _) | (with_reducible refine below_more _ _ _ ?_ ?_) | (with_reducible refine Below.alloc ?_ ?_ _) | (with_reducible refine Below.drew ?_) | (with_reducible refine Below.setCell ?_ ?_ _) | go_size))
    generalize more (more w11 d3 os3) d4 os4 = W5 at *
    have KS5 := Lib.hid (HR11.out.grow hb5).1
    have T6 := Lib.hid ((hb5.cell (p := ⟨n8, 6, none⟩) s811).trans t6)
    have V6 := Lib.hid ((hb5.cell (p := ⟨n6, 6, none⟩) s6).trans v6)
    have hn65 : n6 < W5.heap.size := Nat.lt_of_lt_of_le s6 hb5.size
    have hn85 : n8 < W5.heap.size := Nat.lt_of_lt_of_le s811 hb5.size
    have h67 := HM7.out.s6
    have HBW := Lib.hid (HB11.out.trans (hb5.mono HB11.out.size))
    clear hb5 HM11 HV11 HR11 HR21 HBI11 HB11 K811 K9 HAL HSG HSS s6 v6 s811 s9 z0 z1 z2 y0 y1 y2 x0 x1 x2 t0 u0 t1 u1 t2 u2 t3 u3 t4 u4 t5 u5 t6 u6 t7 u7
    go_loopg [12] (L'.length + 1) (fun kx x wr => ∃ (m : Nat) (xs : List Value), x = .int .i64 m ∧ m ≤ L'.length + 1 ∧ L'.length + 1 - m ≤ kx ∧ Hid (Sl wr 64 3 (.slice (some ⟨g5, o5, none⟩) (L'.length + 1) c1) (L'.length + 1) xs) ∧ Hid (Turned W5 wr (some g5)))
    case atStart => exact ⟨0, _, by go_num, by omega, by omega, Lib.hid (by have := KS5.out; rwa [List.length_append] at this), Lib.hid (Turned.of_bel (Below.refl _ _))⟩
    case round =>
      clear KS5
      obtain ⟨m, xs, rfl, hm, hkx, HSL, HT⟩ := hrel
      obtain ⟨wa, rfl⟩ : ∃ wa : World, wa = wr := ⟨_, rfl⟩
      have hz := HT.out.size
      have t6 := (World.cell?_of_block (w := W5) (a := ⟨n8, 6, none⟩) (HT.out.block n8 hn85 (fun e => by cases e; omega))).trans T6.out
      have v6 := (World.cell?_of_block (w := W5) (a := ⟨n6, 6, none⟩) (HT.out.block n6 hn65 (fun e => by cases e; omega))).trans V6.out
      by_cases hlt : m < L'.length + 1
      · have t1 : (m : Int) < (L'.length : Int) + 1 := by omega
        obtain ⟨⟨u', hc⟩, hf', hsl2, ht2⟩ := sl_store1 HSL.out (t := m * 3) (by omega) (.int .i64 (-1))
        have HS2 := Lib.hid hsl2
        have HT2 := Lib.hid (HT.out.then ht2)
        clear hsl2 ht2
        go_wp2_with fail
        go_roundg (L'.length + 1 - (m + 1))
        case measure => omega
        case rel => exact ⟨m + 1, _, by go_num, by omega, by omega, HS2, HT2⟩
      · have t1 : ¬ (m : Int) < (L'.length : Int) + 1 := by omega
        have hbw : Below w7.heap.size w7 wa := Turned.below_new HT.out (fun k hk => by cases hk; exact hg5) HBW.out HBW.out.size
        have hsg := sameG_any _ _ L' L' wa (HV7.out.rin.keep hbw) (HM7.out.hr.keep hbw) (alike_self (HM7.out.hok.keep hbw))
        have HSG := Lib.hid hsg
        have HBZ := Lib.hid (HM7.out.hw.trans (hbw.mono HM7.out.hw.size))
        clear hbw hsg
        go_wp2_with fail
        refine HSG.out.mono ?_; rintro e w' ⟨rfl, hb⟩; obtain ⟨d7, os7, rfl⟩ := more_of hb; clear hb
        go_wp2_with (go_at_call 23; refine (awake22 _).mono ?_; rintro e w' ⟨rfl, hb⟩; obtain ⟨d, os, rfl⟩ := more_of hb; clear hb)
        go_ret
        exact ⟨rfl, HBZ.out.trans (Below.mono (B := wa.heap.size) (by repeat' (first | (with_reducible exact Below.refl _ _) | (with_reducible assumption) | (with_reducible refine below_drewN ?_ _) | (with_reducible refine below_more _ _ _ ?_ ?_) | (with_reducible refine Below.alloc ?_ ?_ _) | (with_reducible refine Below.drew ?_) | (with_reducible refine Below.setCell ?_ ?_ _) | go_size)) HBZ.out.size)⟩
  · go_wp2_with fail
    refine (fold_at_no b ⟨dcols, drows, dside, dradius, dspeed, dids, dqueue⟩ z t p' L'.length c' (cutR r) L' _ (HM7.out.hm.grow (by repeat' (first | (with_reducible exact Below.refl _ _) | (with_reducible assumption) | (with_reducible refine below_drewN ?_ _) | (with_reducible refine below_more _ _ _ ?_ ?_) | (with_reducible refine Below.alloc ?_ ?_ _) | (with_reducible refine Below.drew ?_) | (with_reducible refine Below.setCell ?_ ?_ _) | go_size))) HO.out (HM7.out.hr.keep (by repeat' (first | (with_reducible exact Below.refl _ _) | (with_reducible assumption) | (with_reducible refine below_drewN ?_ _) | (with_reducible refine below_more _ _ _ ?_ ?_) | (with_reducible refine Below.alloc ?_ ?_ _) | (with_reducible refine Below.drew ?_) | (with_reducible refine Below.setCell ?_ ?_ _) | go_size))) hf).mono ?_; rintro e w' ⟨rfl, hb⟩; obtain ⟨d1, os1, rfl⟩ := more_of hb; clear hb
    go_upto_region 9 with fail
    generalize hw8 : World.alloc (more w7 d1 os1) _ = w8
    have hb8 : Below w7.heap.size w7 w8 := by rw [← hw8]; exact (by repeat' (first | (with_reducible exact Below.refl _ _) | (with_reducible assumption) | (with_reducible refine below_drewN ?_ _) | (with_reducible refine below_more _ _ _ ?_ ?_) | (with_reducible refine Below.alloc ?_ ?_ _) | (with_reducible refine Below.drew ?_) | (with_reducible refine Below.setCell ?_ ?_ _) | go_size))
    have k8 : ∀ u, w8.cell? ⟨w7.heap.size + os1.size, u, none⟩ = (#[.int .i64 0, .int .i64 0, .slice none 0 0, .slice none 0 0, .slice none 0 0, .slice none 0 0, .slice none 0 0, .int .i64 0] : Array Value)[u]? := fun u => by rw [← hw8]; exact alloc_cells _ _ _ _ _ (by simp)
    have s8 : w7.heap.size + os1.size < w8.heap.size := by rw [← hw8]; simp
    have HM8 := Lib.hid (HM7.out.grow hb8)
    have HV8 := Lib.hid (HV7.out.grow hb8)
    have K8 := Lib.hid k8
    generalize w7.heap.size + os1.size = n8 at *
    clear hw8 hb8 k8 hlr HM7 HV7 s1 s3 s6 q7 z0 z1 z2 y0 y1 y2 x0 x1 x2 v0 v1 v2 v3 v4 v5 v6 v7 e0 e1 e2 e3 e4 e5 e6
    generalize Value.agg #[.int .i64 (cutR r).k, .int .i64 (cutR r).n, .int .i64 (cutR r).f, .slice (cutR r).pc (cutR r).nc (cutR r).cc, .int .i64 ((cutR r).b).s, .int .i64 ((cutR r).b).i, .int .i64 ((cutR r).b).g, .int .i64 ((cutR r).b).m, .int .i64 ((cutR r).b).x, .int .i64 ((cutR r).b).y, .int .i64 ((cutR r).b).vx, .int .i64 ((cutR r).b).vy, .int .i64 ((cutR r).b).hp, .int .i64 ((cutR r).b).pw, .int .i64 ((cutR r).b).lf, .slice (cutR r).pl (cutR r).nl (cutR r).cl, .int .i64 (cutR r).s.ep, .int .i64 (cutR r).s.t, .slice (cutR r).s.po (cutR r).s.no (cutR r).s.co, .slice (cutR r).s.pd (cutR r).s.nd (cutR r).s.cd, .slice (cutR r).s.pu (cutR r).s.nu (cutR r).s.cu, .slice (cutR r).s.pi (cutR r).s.ni (cutR r).s.ci, .slice (cutR r).s.pg (cutR r).s.ng (cutR r).s.cg, .int .i64 (cutR r).s.nx] = rv
    have s1 := HM8.out.s1
    have s3 := HM8.out.s3
    have s6 := HM8.out.s6
    have q7 := HM8.out.kz
    have v0 := HM8.out.k6 0; simp at v0; have v1 := HM8.out.k6 1; simp at v1; have v2 := HM8.out.k6 2; simp at v2; have v3 := HM8.out.k6 3; simp at v3; have v4 := HM8.out.k6 4; simp at v4; have v5 := HM8.out.k6 5; simp at v5; have v6 := HM8.out.k6 6; simp at v6; have v7 := HM8.out.k6 7; simp at v7
    have e0 := HM8.out.k3 0; simp at e0; have e1 := HM8.out.k3 1; simp at e1; have e2 := HM8.out.k3 2; simp at e2; have e3 := HM8.out.k3 3; simp at e3; have e4 := HM8.out.k3 4; simp at e4; have e5 := HM8.out.k3 5; simp at e5; have e6 := HM8.out.k3 6; simp at e6
    have hlr : (ldR ⟨w.heap.size, 10, none⟩).run Try.prog w8 = .ok (.agg #[.int .i64 (cutR r).k, .int .i64 (cutR r).n, .int .i64 (cutR r).f, .slice (cutR r).pc (cutR r).nc (cutR r).cc, .int .i64 ((cutR r).b).s, .int .i64 ((cutR r).b).i, .int .i64 ((cutR r).b).g, .int .i64 ((cutR r).b).m, .int .i64 ((cutR r).b).x, .int .i64 ((cutR r).b).y, .int .i64 ((cutR r).b).vx, .int .i64 ((cutR r).b).vy, .int .i64 ((cutR r).b).hp, .int .i64 ((cutR r).b).pw, .int .i64 ((cutR r).b).lf, .slice (cutR r).pl (cutR r).nl (cutR r).cl, .int .i64 (cutR r).s.ep, .int .i64 (cutR r).s.t, .slice (cutR r).s.po (cutR r).s.no (cutR r).s.co, .slice (cutR r).s.pd (cutR r).s.nd (cutR r).s.cd, .slice (cutR r).s.pu (cutR r).s.nu (cutR r).s.cu, .slice (cutR r).s.pi (cutR r).s.ni (cutR r).s.ci, .slice (cutR r).s.pg (cutR r).s.ng (cutR r).s.cg, .int .i64 (cutR r).s.nx]) w8 := ldR_of [.int .i64 (cutR r).k, .int .i64 (cutR r).n, .int .i64 (cutR r).f, .slice (cutR r).pc (cutR r).nc (cutR r).cc, .int .i64 ((cutR r).b).s, .int .i64 ((cutR r).b).i, .int .i64 ((cutR r).b).g, .int .i64 ((cutR r).b).m, .int .i64 ((cutR r).b).x, .int .i64 ((cutR r).b).y, .int .i64 ((cutR r).b).vx, .int .i64 ((cutR r).b).vy, .int .i64 ((cutR r).b).hp, .int .i64 ((cutR r).b).pw, .int .i64 ((cutR r).b).lf, .slice (cutR r).pl (cutR r).nl (cutR r).cl, .int .i64 (cutR r).s.ep, .int .i64 (cutR r).s.t, .slice (cutR r).s.po (cutR r).s.no (cutR r).s.co, .slice (cutR r).s.pd (cutR r).s.nd (cutR r).s.cd, .slice (cutR r).s.pu (cutR r).s.nu (cutR r).s.cu, .slice (cutR r).s.pi (cutR r).s.ni (cutR r).s.ci, .slice (cutR r).s.pg (cutR r).s.ng (cutR r).s.cg, .int .i64 (cutR r).s.nx] rfl (fun j v hj => HM8.out.kr j v hj)
    go_wp2_with fail
    refine (rfold_at_no dcols drows dside dradius dspeed dids dqueue z t p' L'.length c' (cutR r) L' _ HO.out (HM8.out.hr.keep (by repeat' (first | (with_reducible exact Below.refl _ _) | (with_reducible assumption) | (with_reducible refine below_drewN ?_ _) | (with_reducible refine below_more _ _ _ ?_ ?_) | (with_reducible refine Below.alloc ?_ ?_ _) | (with_reducible refine Below.drew ?_) | (with_reducible refine Below.setCell ?_ ?_ _) | go_size))) hf).mono ?_; rintro e w' ⟨rfl, hb⟩; obtain ⟨d2, os2, rfl⟩ := more_of hb; clear hb
    go_upto_region 10 with fail
    generalize hw9 : World.alloc (more w8 d2 os2) _ = w9
    have hb9 : Below w8.heap.size w8 w9 := by rw [← hw9]; exact (by repeat' (first | (with_reducible exact Below.refl _ _) | (with_reducible assumption) | (with_reducible refine below_drewN ?_ _) | (with_reducible refine below_more _ _ _ ?_ ?_) | (with_reducible refine Below.alloc ?_ ?_ _) | (with_reducible refine Below.drew ?_) | (with_reducible refine Below.setCell ?_ ?_ _) | go_size))
    have k9 : ∀ u, w9.cell? ⟨w8.heap.size + os2.size, u, none⟩ = (#[.int .i64 0, .int .i64 0, .slice none 0 0, .slice none 0 0, .slice none 0 0, .slice none 0 0, .slice none 0 0, .int .i64 0] : Array Value)[u]? := fun u => by rw [← hw9]; exact alloc_cells _ _ _ _ _ (by simp)
    have s9 : w8.heap.size + os2.size < w9.heap.size := by rw [← hw9]; simp
    have HM9 := Lib.hid (HM8.out.grow hb9)
    have HV9 := Lib.hid (HV8.out.grow hb9)
    have K89 := Lib.hid (fun u => (hb9.cell (p := ⟨n8, u, none⟩) s8).trans (K8.out u))
    have s89 : n8 < w9.heap.size := by have := hb9.size; omega
    have K9 := Lib.hid k9
    generalize w8.heap.size + os2.size = n9 at *
    clear hw9 hb9 k9 hlr HM8 HV8 K8 s1 s3 s6 q7 s8 v0 v1 v2 v3 v4 v5 v6 v7 e0 e1 e2 e3 e4 e5 e6
    generalize Value.agg #[.int .i64 (cutR r).k, .int .i64 (cutR r).n, .int .i64 (cutR r).f, .slice (cutR r).pc (cutR r).nc (cutR r).cc, .int .i64 ((cutR r).b).s, .int .i64 ((cutR r).b).i, .int .i64 ((cutR r).b).g, .int .i64 ((cutR r).b).m, .int .i64 ((cutR r).b).x, .int .i64 ((cutR r).b).y, .int .i64 ((cutR r).b).vx, .int .i64 ((cutR r).b).vy, .int .i64 ((cutR r).b).hp, .int .i64 ((cutR r).b).pw, .int .i64 ((cutR r).b).lf, .slice (cutR r).pl (cutR r).nl (cutR r).cl, .int .i64 (cutR r).s.ep, .int .i64 (cutR r).s.t, .slice (cutR r).s.po (cutR r).s.no (cutR r).s.co, .slice (cutR r).s.pd (cutR r).s.nd (cutR r).s.cd, .slice (cutR r).s.pu (cutR r).s.nu (cutR r).s.cu, .slice (cutR r).s.pi (cutR r).s.ni (cutR r).s.ci, .slice (cutR r).s.pg (cutR r).s.ng (cutR r).s.cg, .int .i64 (cutR r).s.nx] = rv
    have s6 := HM9.out.s6
    have v6 := HM9.out.k6 6
    simp at v6
    have t0 := K89.out 0; simp at t0; have t1 := K89.out 1; simp at t1; have t2 := K89.out 2; simp at t2; have t3 := K89.out 3; simp at t3; have t4 := K89.out 4; simp at t4; have t5 := K89.out 5; simp at t5; have t6 := K89.out 6; simp at t6; have t7 := K89.out 7; simp at t7
    have u0 := K9.out 0; simp at u0; have u1 := K9.out 1; simp at u1; have u2 := K9.out 2; simp at u2; have u3 := K9.out 3; simp at u3; have u4 := K9.out 4; simp at u4; have u5 := K9.out 5; simp at u5; have u6 := K9.out 6; simp at u6; have u7 := K9.out 7; simp at u7
    obtain ⟨z0, z1, z2⟩ := ltz s6
    obtain ⟨y0, y1, y2⟩ := ltz s89
    obtain ⟨x0, x1, x2⟩ := ltz s9
    have HSG := Lib.hid (fun W (hW : Below w9.heap.size w9 W) => sameG_any _ _ L' L' W (HV9.out.rin.keep hW) (HM9.out.hr.keep hW) (alike_self (HM9.out.hok.keep hW)))
    go_wp2_with fail
    refine (same_zero _).mono ?_; rintro e w' ⟨rfl, hb⟩; obtain ⟨d3, os3, rfl⟩ := more_of hb; clear hb
    go_wp2_with fail
    refine (HSG.out _ (by repeat' (first | (with_reducible exact Below.refl _ _) | (with_reducible assumption) | (with_reducible refine below_drewN ?_ _) | (with_reducible refine below_more _ _ _ ?_ ?_) | (with_reducible refine Below.alloc ?_ ?_ _) | (with_reducible refine Below.drew ?_) | (with_reducible refine Below.setCell ?_ ?_ _) | go_size))).mono ?_; rintro e w' ⟨rfl, hb⟩; obtain ⟨d4, os4, rfl⟩ := more_of hb; clear hb
    go_wp2_with fail
    refine (same_zero _).mono ?_; rintro e w' ⟨rfl, hb⟩; obtain ⟨d5, os5, rfl⟩ := more_of hb; clear hb
    go_wp2_with fail
    refine (HSG.out _ (by repeat' (first | (with_reducible exact Below.refl _ _) | (with_reducible assumption) | (with_reducible refine below_drewN ?_ _) | (with_reducible refine below_more _ _ _ ?_ ?_) | (with_reducible refine Below.alloc ?_ ?_ _) | (with_reducible refine Below.drew ?_) | (with_reducible refine Below.setCell ?_ ?_ _) | go_size))).mono ?_; rintro e w' ⟨rfl, hb⟩; obtain ⟨d6, os6, rfl⟩ := more_of hb; clear hb
    go_wp2_with (go_at_call 23; refine (awake22 _).mono ?_; rintro e w' ⟨rfl, hb⟩; obtain ⟨d, os, rfl⟩ := more_of hb; clear hb)
    go_ret
    exact ⟨rfl, HM9.out.hw.trans (Below.mono (B := w9.heap.size) (by repeat' (first | (with_reducible exact Below.refl _ _) | (with_reducible assumption) | (with_reducible refine below_drewN ?_ _) | (with_reducible refine below_more _ _ _ ?_ ?_) | (with_reducible refine Below.alloc ?_ ?_ _) | (with_reducible refine Below.drew ?_) | (with_reducible refine Below.setCell ?_ ?_ _) | go_size)) HM9.out.hw.size)⟩
set_option maxRecDepth 100000 in
theorem lifted (os : Os) (started : os.Started) (H : Type) (enc : TypeId × Value → H) :
    ReturnsInHanded {} Try.checked os 4 .any (Rows.ghostsFoldSpec.pre6 enc Try.prog Try.f4 Rows.ghostsFoldRow.domain false) (Rows.ghostsFoldSpec.post enc Try.prog Try.f4 false true false false) := by
  refine returnsInHanded_of_change (C := Try.checked) ownKnob0 started (by kernel_rfl) Try.func4
    (ChangeSpec.witness6 (enc := enc) (C := Try.checked) false ⟨#[], #[.agg #[.int .i64 0, .int .i64 0, .int .i64 0, .int .i64 0, .int .i64 0, .int .i64 0, .int .i64 0, .int .i64 0, .int .i64 0, .slice none 0 0, .int .i64 0, .int .i64 0, .int .i64 0, .slice none 0 0, .int .i64 0, .int .i64 0, .int .i64 0, .int .i64 0, .int .i64 0, .int .i64 0, .int .i64 0, .int .i64 0, .int .i64 0, .int .i64 0, .int .i64 0, .slice none 0 0, .int .i64 0, .int .i64 0, .slice none 0 0, .slice none 0 0, .slice none 0 0, .slice none 0 0, .slice none 0 0, .int .i64 0]], []⟩ 8 (by kernel_rfl) (by kernel_rfl) (by kernel_rfl) (by kernel_rfl)) ?_
  intro W base args ds gs before hval0 hW _ _
  have hval : ∀ (j : Nat) t v, Try.f4.params[j]? = some t → args[j]? = some v → Value.okWide Try.prog W .any base t v := hval0
  have hread : ∀ t ∈ Try.f4.params.toList, Try.prog.readableRec t = true ∧ t < Try.prog.types.size := by
    rw [Try.params4]
    intro t ht
    simp only [List.mem_cons, List.not_mem_nil, or_false] at ht
    rcases ht with rfl
    all_goals exact ⟨by kernel_rfl, of_decide_eq_true (by kernel_rfl)⟩
  have hW' := hW
  obtain ⟨p, q, hA0, hV, -, -⟩ := hW'
  have hA : DataW.TrodAll enc Try.prog W 0 (fun _ => true) true Try.f4.params.toList args.toList ds p := hA0
  rw [Try.params4] at hA hval
  obtain ⟨v0, vs0, d0, ds0, p0, q0, hargs, rfl, rfl, h0, r0⟩ := trodAll_cons hA
  obtain ⟨rfl, rfl, rfl⟩ := trodAll_nil r0
  obtain rfl : args = #[v0] := by cases args; simp_all
  obtain ⟨rfl, rfl⟩ := trodVars_none hV
  have k0 := hval 0 50 v0 rfl rfl
  clear hval hval0 hA0 hV hA
  obtain ⟨cc, fuel0, rfl, g0⟩ := agg_of Try.underlying50 k0 h0
  obtain ⟨zcols, zrows, zside, zradius, zspeed, zids, zqueue, zz, tt, pp, cp, L, r, e0, hL, hO, lr, hr⟩ := read_case g0
  subst e0
  exact (walk _ _ _ _ _ _ _ _ _ _ _ r L W hL hO lr hr).mono fun e W' ⟨he, hb⟩ => ⟨_, he, post_true rfl rfl hread rfl hW hb⟩

/-- GhostsFold: true for every input; the arguments stay. -/
theorem proved : Rows.GhostsFoldSaid :=
  OpenClaim.holds_of_wide 4 Try.f4 rfl rfl rfl rfl rfl rfl rfl ⟨rfl, rfl, rfl, rfl, rfl⟩ rfl rfl rfl rfl rfl (by kernel_rfl) Try.func4 (by kernel_rfl)
    (of_decide_eq_true (by kernel_rfl)) (by unfold Func.isWrapper; first | (rw [if_pos (by decide +kernel)]; kernel_rfl) | (rw [if_neg (by decide +kernel)]; exact ⟨rfl, rfl⟩))
    (fun os started H enc _ => lifted os started H enc)
end Go.Proofs.Ytcnclcfipabimaa.ghostsFold
