/-
  GhostsOld: for every case the law returns true, and the argument stays as it was. No condition.
-/
import Derived.Test.YtcnclcfipabimaaGhU
import Derived.Test.YtcnclcfipabimaaGhX
import Derived.Test.YtcnclcfipabimaaMgd
import Derived.Test.YtcnclcfipabimaaRdT
import Derived.Test.YtcnclcfipabimaaSyF
namespace Go.Proofs.Ytcnclcfipabimaa.ghostsOld
open Go.ChangeShapes Go.WideShapes Go.ChangeAt Go.RowKit

def nowL (L : List Gh) (T : Int) : List Gh := L.filter fun g => g.t == T
theorem saidF_now (T k : Int) : ∀ L : List Gh, saidF (nowL L T) T k = saidF L T k
  | [] => rfl
  | g :: L => by
    have ih := saidF_now T k L
    simp only [saidF, nowL, List.filter_cons, List.any_cons] at *
    cases h : (g.t == T)
    · simp [ih]
    · simp [ih, h]
theorem missF_now (bes : List Int) (L : List Gh) (T : Int) : missF bes (nowL L T) T = missF bes L T := by
  unfold missF
  congr 1
  funext k
  rw [saidF_now]
theorem nearG_now (L : List Gh) (T : Int) (bl : Gh → List Bun) : nearG (nowL L T) T bl = nearG L T bl := by
  unfold nearG nearTo nowL
  rw [List.filter_filter]
  simp
open Classical in
/-- What one told, read in a world. -/
noncomputable def blOf (W : World) (g : Gh) : List Bun := if h : ∃ l, BIn W (.slice g.p g.n g.c) l ∧ l.length ≤ 1000 then h.choose else []
theorem blOf_ok {W : World} {L : List Gh} (h : ∀ g ∈ L, ∃ l, BIn W (.slice g.p g.n g.c) l ∧ l.length ≤ 1000) : GhOk W L (blOf W) := fun g hg => by
  unfold blOf
  rw [dif_pos (h g hg)]
  exact (h g hg).choose_spec
theorem cutL_ok {W : World} {L : List Gh} (h : ∀ g ∈ L, ∃ l, BIn W (.slice g.p g.n g.c) l) : ∀ g ∈ cutL L, ∃ l, BIn W (.slice g.p g.n g.c) l ∧ l.length ≤ 1000 := fun g hg => by
  obtain ⟨g0, h0, rfl⟩ := List.mem_map.1 hg
  obtain ⟨l, hl⟩ := h g0 (List.mem_of_mem_take h0)
  obtain ⟨_, _, e, _⟩ := id hl
  simp only [Value.slice.injEq] at e
  refine ⟨l.take (min g0.n 50), hl.take (min g0.n 50) (Nat.min_le_left _ _), ?_⟩
  simp; omega
theorem cutL_len (L : List Gh) : (cutL L).length ≤ 20 := by simp [cutL]; omega
def besR (c : Cfg) (k : Int) : List Int := if 0 ≤ k ∧ k < c.cols * c.rows then besideF c k else []
theorem beside_all (W : World) (b : Nat) (c : Cfg) (k : Int) (h : MapAt W b c) (ho : CfgOk c) : ∀ W', Below W.heap.size W W' → Calls Try.prog 52 #[.pointer (some ⟨b, 0, none⟩), .int .i64 k] W' fun e w' => ∃ v', e = .returned v' ∧ RNew intL 3 1 W' w' v' (besR c k) := fun W' hW => by
  unfold besR
  by_cases hk : 0 ≤ k ∧ k < c.cols * c.rows
  · rw [if_pos hk]; exact beside_in W' b c k (h.grow hW) ho hk.1 hk.2
  · rw [if_neg hk]
    refine (beside_out W' b c k (h.grow hW) ho (by omega)).mono ?_
    rintro e w' ⟨rfl, hb⟩
    exact ⟨_, rfl, (RNew.nil _).since hb⟩
theorem missing_at (b : Nat) (c : Cfg) (z t : Int) (p' : Option Addr) (n' c' : Nat) (L : List Gh) (W : World) (hm : MapAt W b c) (ho : CfgOk c) (hL : RIn ghL W (.slice p' n' c') L) :
    Calls Try.prog 26 #[.pointer (some ⟨b, 0, none⟩), .int .i64 z, .agg #[.int .i64 0, .int .i64 t, .slice none 0 0, .slice none 0 0, .slice none 0 0, .slice none 0 0, .slice p' n' c', .int .i64 0]] W fun e w' => ∃ v', e = .returned v' ∧ RNew intL 3 1 W w' v' (missF (besR c z) L t) :=
  missing_of (.pointer (some ⟨b, 0, none⟩)) z (⟨0, t, none, 0, 0, none, 0, 0, none, 0, 0, none, 0, 0, p', n', c', 0⟩ : Sta) L (besR c z) W ⟨_, rfl⟩ hL (beside_all W b c z hm ho)
theorem near_at (t : Int) (p' : Option Addr) (n' c' : Nat) (L : List Gh) (bl : Gh → List Bun) (W : World) (hL : RIn ghL W (.slice p' n' c') L) (hO : GhOk W L bl) (hn : L.length ≤ 1000) :
    Calls Try.prog 28 #[.agg #[.int .i64 0, .int .i64 t, .slice none 0 0, .slice none 0 0, .slice none 0 0, .slice none 0 0, .slice p' n' c', .int .i64 0]] W fun e w' => ∃ v', e = .returned v' ∧ BNew W w' v' (nearG L t bl) :=
  gnear_any (⟨0, t, none, 0, 0, none, 0, 0, none, 0, 0, none, 0, 0, p', n', c', 0⟩ : Sta) L bl W hL hO hn
theorem lt5 {a W : Nat} (h : a < W) : (∀ n, a < W + n) ∧ (∀ n m, a < W + n + m) ∧ (∀ n m q, a < W + n + m + q) ∧ (∀ n m q r, a < W + n + m + q + r) ∧ (∀ n m q r s, a < W + n + m + q + r + s) := ⟨fun _ => by omega, fun _ _ => by omega, fun _ _ _ => by omega, fun _ _ _ _ => by omega, fun _ _ _ _ _ => by omega⟩
attribute [local go_sem ↓] loadVar_ldC
set_option maxRecDepth 100000 in
set_option maxHeartbeats 4000000 in
theorem walk (cols rows side radius speed ids queue z t : Int) (p : Option Addr) (cap : Nat) (r : Rcd) (L : List Gh) (w : World) (hL : RIn ghL w (.slice p L.length cap) L) (hO : ∀ g ∈ L, ∃ l, BIn w (.slice g.p g.n g.c) l) :
    Calls Try.prog 8 #[.agg #[.int .i64 cols, .int .i64 rows, .int .i64 side, .int .i64 radius, .int .i64 speed, .int .i64 ids, .int .i64 queue, .int .i64 z, .int .i64 t, .slice p L.length cap, .int .i64 r.k, .int .i64 r.n, .int .i64 r.f, .slice r.pc r.nc r.cc, .int .i64 (r.b).s, .int .i64 (r.b).i, .int .i64 (r.b).g, .int .i64 (r.b).m, .int .i64 (r.b).x, .int .i64 (r.b).y, .int .i64 (r.b).vx, .int .i64 (r.b).vy, .int .i64 (r.b).hp, .int .i64 (r.b).pw, .int .i64 (r.b).lf, .slice r.pl r.nl r.cl, .int .i64 r.s.ep, .int .i64 r.s.t, .slice r.s.po r.s.no r.s.co, .slice r.s.pd r.s.nd r.s.cd, .slice r.s.pu r.s.nu r.s.cu, .slice r.s.pi r.s.ni r.s.ci, .slice r.s.pg r.s.ng r.s.cg, .int .i64 r.s.nx]] w fun e w' => e = .returned (.bool true) ∧ Below w.heap.size w w' := by
  have HMay := Lib.hid (fun W => may_any cols rows side radius speed ids queue W)
  have ho := mayF_ok ⟨cols, rows, side, radius, speed, ids, queue⟩
  generalize mayF ⟨cols, rows, side, radius, speed, ids, queue⟩ = d at *
  obtain ⟨dcols, drows, dside, dradius, dspeed, dids, dqueue⟩ := d
  have HO := Lib.hid ho
  have HCL := Lib.hid (fun W (hW : Below w.heap.size w W) => cutL_ok (W := W) (L := L) (fun g hg => let ⟨l, hl⟩ := hO g hg; ⟨l, hl.keep hW⟩))
  have HST := Lib.hid (fun W (hW : Below w.heap.size w W) => state_any cols rows side radius speed ids queue z t p cap r L W (hL.keep hW) (fun g hg => let ⟨l, hl⟩ := hO g hg; ⟨l, hl.keep hW⟩))
  clear hL hO ho
  go_enter Try.func8, Try.ntmps8
  go_wp2_with (go_at_call 17; refine (HMay.out _).mono ?_; rintro e w' ⟨rfl, hb⟩; obtain ⟨d, os, rfl⟩ := more_of hb; clear hb)
  refine (znew_ok dcols drows dside dradius dspeed dids dqueue _ HO.out).mono ?_
  rintro e w2 ⟨b, rfl, hb2, hmap, hbb⟩
  have hc0 : ∀ j, w2.cell? ⟨w.heap.size, j, none⟩ = (#[.int .i64 cols, .int .i64 rows, .int .i64 side, .int .i64 radius, .int .i64 speed, .int .i64 ids, .int .i64 queue, .int .i64 z, .int .i64 t, .slice p L.length cap, .int .i64 r.k, .int .i64 r.n, .int .i64 r.f, .slice r.pc r.nc r.cc, .int .i64 (r.b).s, .int .i64 (r.b).i, .int .i64 (r.b).g, .int .i64 (r.b).m, .int .i64 (r.b).x, .int .i64 (r.b).y, .int .i64 (r.b).vx, .int .i64 (r.b).vy, .int .i64 (r.b).hp, .int .i64 (r.b).pw, .int .i64 (r.b).lf, .slice r.pl r.nl r.cl, .int .i64 r.s.ep, .int .i64 r.s.t, .slice r.s.po r.s.no r.s.co, .slice r.s.pd r.s.nd r.s.cd, .slice r.s.pu r.s.nu r.s.cu, .slice r.s.pi r.s.ni r.s.ci, .slice r.s.pg r.s.ng r.s.cg, .int .i64 r.s.nx] : Array Value)[j]? := fun j => by rw [hb2.cell (by first | (simp; done) | (simp; omega))]; simp [go_sem]
  have s1 : w.heap.size < w2.heap.size := by have := hb2.size; simp at this; omega
  have hbw : Below w.heap.size w w2 := Below.trans (Below.mono (B := w.heap.size) (by repeat' (first | (with_reducible exact Below.refl _ _) | (with_reducible assumption) | (with_reducible refine below_drewN ?_ _) | (with_reducible refine below_more _ _ _ ?_ ?_) | (with_reducible refine Below.alloc ?_ ?_ _) | (with_reducible refine Below.drew ?_) | (with_reducible refine Below.setCell ?_ ?_ _) | go_size)) (Nat.le_refl _)) (hb2.mono (by simp; omega))
  have hld : (ldC ⟨w.heap.size, 0, none⟩).run Try.prog w2 = .ok (.agg #[.int .i64 cols, .int .i64 rows, .int .i64 side, .int .i64 radius, .int .i64 speed, .int .i64 ids, .int .i64 queue, .int .i64 z, .int .i64 t, .slice p L.length cap, .int .i64 r.k, .int .i64 r.n, .int .i64 r.f, .slice r.pc r.nc r.cc, .int .i64 (r.b).s, .int .i64 (r.b).i, .int .i64 (r.b).g, .int .i64 (r.b).m, .int .i64 (r.b).x, .int .i64 (r.b).y, .int .i64 (r.b).vx, .int .i64 (r.b).vy, .int .i64 (r.b).hp, .int .i64 (r.b).pw, .int .i64 (r.b).lf, .slice r.pl r.nl r.cl, .int .i64 r.s.ep, .int .i64 r.s.t, .slice r.s.po r.s.no r.s.co, .slice r.s.pd r.s.nd r.s.cd, .slice r.s.pu r.s.nu r.s.cu, .slice r.s.pi r.s.ni r.s.ci, .slice r.s.pg r.s.ng r.s.cg, .int .i64 r.s.nx]) w2 := ldC_of [.int .i64 cols, .int .i64 rows, .int .i64 side, .int .i64 radius, .int .i64 speed, .int .i64 ids, .int .i64 queue, .int .i64 z, .int .i64 t, .slice p L.length cap, .int .i64 r.k, .int .i64 r.n, .int .i64 r.f, .slice r.pc r.nc r.cc, .int .i64 (r.b).s, .int .i64 (r.b).i, .int .i64 (r.b).g, .int .i64 (r.b).m, .int .i64 (r.b).x, .int .i64 (r.b).y, .int .i64 (r.b).vx, .int .i64 (r.b).vy, .int .i64 (r.b).hp, .int .i64 (r.b).pw, .int .i64 (r.b).lf, .slice r.pl r.nl r.cl, .int .i64 r.s.ep, .int .i64 r.s.t, .slice r.s.po r.s.no r.s.co, .slice r.s.pd r.s.nd r.s.cd, .slice r.s.pu r.s.nu r.s.cu, .slice r.s.pi r.s.ni r.s.ci, .slice r.s.pg r.s.ng r.s.cg, .int .i64 r.s.nx] rfl (fun j v hj => by rw [Nat.zero_add, hc0]; simpa using hj)
  have HC0 := Lib.hid (hc0 7)
  have HBW := Lib.hid hbw
  have HMP := Lib.hid hmap
  clear hb2 hc0 hmap hbb
  go_wp2_with fail
  refine (HST.out _ hbw).mono ?_
  rintro e w3 ⟨p', n', c', rfl, hR⟩
  clear hld
  have hn' : n' = (cutL L).length := by obtain ⟨_, _, e⟩ := sl_frm hR.1; simp only [Value.slice.injEq] at e; exact e.2.1
  subst hn'
  have hb3 := hR.2.1
  have HOK := Lib.hid (blOf_ok (HCL.out w3 (hbw.trans (hb3.mono hbw.size))))
  have HLN := Lib.hid (cutL_len L)
  have HR := Lib.hid hR.rin
  have HB3 := Lib.hid (hbw.trans (hb3.mono hbw.size))
  have HM3 := Lib.hid (HMP.out.grow hb3)
  have HC3 := Lib.hid ((hb3.cell (p := ⟨w.heap.size, 7, none⟩) s1).trans HC0.out)
  have s13 : w.heap.size < w3.heap.size := by have := hb3.size; omega
  generalize blOf w3 = bl at *
  clear hR hb3 hbw HCL HST HBW HMP HC0 s1 HMay
  generalize cutL L = L' at *
  have hln : L'.length ≤ 20 := HLN.out
  generalize Value.agg #[.int .i64 cols, .int .i64 rows, .int .i64 side, .int .i64 radius, .int .i64 speed, .int .i64 ids, .int .i64 queue, .int .i64 z, .int .i64 t, .slice p L.length cap, .int .i64 r.k, .int .i64 r.n, .int .i64 r.f, .slice r.pc r.nc r.cc, .int .i64 (r.b).s, .int .i64 (r.b).i, .int .i64 (r.b).g, .int .i64 (r.b).m, .int .i64 (r.b).x, .int .i64 (r.b).y, .int .i64 (r.b).vx, .int .i64 (r.b).vy, .int .i64 (r.b).hp, .int .i64 (r.b).pw, .int .i64 (r.b).lf, .slice r.pl r.nl r.cl, .int .i64 r.s.ep, .int .i64 r.s.t, .slice r.s.po r.s.no r.s.co, .slice r.s.pd r.s.nd r.s.cd, .slice r.s.pu r.s.nu r.s.cu, .slice r.s.pi r.s.ni r.s.ci, .slice r.s.pg r.s.ng r.s.cg, .int .i64 r.s.nx] = cv
  go_wp2_with fail
  generalize hw4 : World.alloc _ _ = w4
  have hb4 : Below w3.heap.size w3 w4 := by rw [← hw4]; exact (by repeat' (first | (with_reducible exact Below.refl _ _) | (with_reducible assumption) | (with_reducible refine below_drewN ?_ _) | (with_reducible refine below_more _ _ _ ?_ ?_) | (with_reducible refine Below.alloc ?_ ?_ _) | (with_reducible refine Below.drew ?_) | (with_reducible refine Below.setCell ?_ ?_ _) | go_size))
  have k6 : ∀ u, w4.cell? ⟨w3.heap.size, u, none⟩ = (#[.int .i64 0, .int .i64 t, .slice none 0 0, .slice none 0 0, .slice none 0 0, .slice none 0 0, .slice p' L'.length c', .int .i64 0] : Array Value)[u]? := fun u => by rw [← hw4]; simp
  have s6 : w3.heap.size < w4.heap.size := by rw [← hw4]; simp
  have HB4 := Lib.hid hb4
  have K6 := Lib.hid k6
  clear hb4 k6 hw4
  go_loopg [8, 7] L'.length (fun kx sk so wr => ∃ k : Nat, sk = .int .i64 k ∧ k ≤ L'.length ∧ L'.length - k ≤ kx ∧ Hid (RNew ghL 64 3 w4 wr so (nowL (L'.take k) t)) ∧ Hid ((nowL (L'.take k) t).length ≤ k))
  case atStart => exact ⟨0, by go_num, by omega, by omega, Lib.hid (RNew.nil w4), Lib.hid (by simp [nowL])⟩
  case round =>
    obtain ⟨k, rfl, hk, hkx, HN, HL⟩ := hrel
    obtain ⟨wa, rfl⟩ : ∃ wa : World, wa = wr := ⟨_, rfl⟩
    have hbl := HN.out.2.1
    have sz := hbl.size
    have y1 := (hbl.cell (p := ⟨w3.heap.size, 1, none⟩) s6).trans (K6.out 1); simp at y1
    have y6 := (hbl.cell (p := ⟨w3.heap.size, 6, none⟩) s6).trans (K6.out 6); simp at y6
    have sa : w3.heap.size < wa.heap.size := by omega
    obtain ⟨z0, z1, z2⟩ := ltz sa
    have hb34 := HB4.out.trans (hbl.mono HB4.out.size)
    have HB34 := Lib.hid hb34
    by_cases hlt : k < L'.length
    · have t1 : (k : Int) < (L'.length : Int) := by omega
      obtain ⟨g, hg⟩ : ∃ g, L'[k]? = some g := ⟨_, List.getElem?_eq_getElem hlt⟩
      obtain ⟨gb, ob, cb, hv, hgb, hcb⟩ := (HR.out.keep hb34).cells ghL_len hg
      simp only [Value.slice.injEq, true_and] at hv
      obtain ⟨rfl, rfl⟩ := hv
      have c0 := hcb 0 _ rfl
      have c1 := hcb 1 _ rfl
      have c2 := hcb 2 _ rfl
      simp only [Nat.add_zero] at c0
      obtain ⟨po, co, hpo⟩ := sl_frm HN.out.1
      subst hpo
      have hstep : nowL (L'.take (k + 1)) t = nowL (L'.take k) t ++ (if g.t == t then [g] else []) := by
        unfold nowL
        rw [List.take_succ_eq_append_getElem hlt, List.filter_append, (List.getElem?_eq_some_iff.1 hg).2]
        cases hh : (g.t == t) <;> simp [hh]
      have HST := Lib.hid hstep
      obtain ⟨x0, x1, x2⟩ := ltz hgb
      clear hcb hg hstep hbl
      generalize hacc : nowL (L'.take k) t = acc at *
      have hal := HL.out
      clear hacc HL
      obtain ⟨gf, gt, gp, gn, gc⟩ := g
      simp only at c0 c1 c2 HST
      cases he : (gt == t) with
      | false =>
        rw [he] at HST
        have HS2 := Lib.hid HST.out
        clear HST
        go_wp2_with fail
        refine wp_region_more (by kernel_rfl) (by kernel_rfl) ?_
        repeat (go_big_quiet_step (fail))
        refine wpQuiet_nil ?_
        rintro _ ⟨pn, rfl⟩
        go_wp2_with fail
        go_roundg (L'.length - (k + 1))
        case measure => omega
        case rel => exact ⟨k + 1, by go_num, by omega, by omega, Lib.hid (by rw [HS2.out]; simpa using HN.out.grow (by repeat' (first | (with_reducible exact Below.refl _ _) | (with_reducible assumption) | (with_reducible refine below_drewN ?_ _) | (with_reducible refine below_more _ _ _ ?_ ?_) | (with_reducible refine Below.alloc ?_ ?_ _) | (with_reducible refine Below.drew ?_) | (with_reducible refine Below.setCell ?_ ?_ _) | go_size))), Lib.hid (by rw [HS2.out]; simp; omega)⟩
      | true =>
        rw [he] at HST
        have HS2 := Lib.hid HST.out
        clear HST
        obtain ⟨i0, hi0, hz0, hz1, hz2⟩ := info_partsG info_gh
        go_wp2_with fail
        refine wp_region_more (by kernel_rfl) (by kernel_rfl) ?_
        repeat (go_big_quiet_step (fail))
        refine wpQuiet_nil ?_
        rintro _ ⟨pn, rfl⟩
        go_wp2_with (at_builtin; refine wpList_append_sl _ (by rfl) _ _ 36 (by rfl) 64 i0 _ 3 40 Try.underlying36 hi0 hz0 hz1 hz2 rfl (by omega) _ acc.length (cellsR ghL acc) (by rfl) (HN.out.grow (by repeat' (first | (with_reducible exact Below.refl _ _) | (with_reducible assumption) | (with_reducible refine below_drewN ?_ _) | (with_reducible refine below_more _ _ _ ?_ ?_) | (with_reducible refine Below.alloc ?_ ?_ _) | (with_reducible refine Below.drew ?_) | (with_reducible refine Below.setCell ?_ ?_ _) | go_size))).1 ⟨_, 0, none⟩ 1 1 (ghL ⟨gf, gt, gp, gn, gc⟩) (by rfl) (by rfl) (new_cellsN _ _ _ _ (by simp)) (ghL_one _) (by omega) (by unfold maxLen; omega) (by omega) ?_; intro v4 w5 hs4 ht4 ho4)
        have hm := (HN.out.grow (by repeat' (first | (with_reducible exact Below.refl _ _) | (with_reducible assumption) | (with_reducible refine below_drewN ?_ _) | (with_reducible refine below_more _ _ _ ?_ ?_) | (with_reducible refine Below.alloc ?_ ?_ _) | (with_reducible refine Below.drew ?_) | (with_reducible refine Below.setCell ?_ ?_ _) | go_size))).snoc hs4 ht4 ho4
        have HM := Lib.hid hm
        clear hs4 ht4 ho4 hm
        go_roundg (L'.length - (k + 1))
        case measure => omega
        case rel => exact ⟨k + 1, by go_num, by omega, by omega, Lib.hid (by rw [HS2.out]; simpa using HM.out), Lib.hid (by rw [HS2.out]; simp; omega)⟩
    · have t1 : ¬ (k : Int) < (L'.length : Int) := by omega
      obtain rfl : k = L'.length := by omega
      rw [List.take_length] at HN HL
      obtain ⟨po, co, hpo⟩ := sl_frm HN.out.1
      subst hpo
      go_upto_region 11 with fail
      generalize hw5 : World.alloc _ _ = w5
      have hb5 : Below wa.heap.size wa w5 := by rw [← hw5]; exact (by repeat' (first | (with_reducible exact Below.refl _ _) | (with_reducible assumption) | (with_reducible refine below_drewN ?_ _) | (with_reducible refine below_more _ _ _ ?_ ?_) | (with_reducible refine Below.alloc ?_ ?_ _) | (with_reducible refine Below.drew ?_) | (with_reducible refine Below.setCell ?_ ?_ _) | go_size))
      have k9 : ∀ u, w5.cell? ⟨wa.heap.size, u, none⟩ = (#[.int .i64 0, .int .i64 t, .slice none 0 0, .slice none 0 0, .slice none 0 0, .slice none 0 0, .slice po (nowL L' t).length co, .int .i64 0] : Array Value)[u]? := fun u => by rw [← hw5]; simp
      have s9 : wa.heap.size < w5.heap.size := by rw [← hw5]; simp
      have b45 : Below w4.heap.size w4 w5 := hbl.trans (hb5.mono sz)
      have b35 : Below w3.heap.size w3 w5 := HB4.out.trans (b45.mono HB4.out.size)
      have s65 : w3.heap.size < w5.heap.size := by have := b45.size; omega
      have s15 : w.heap.size < w5.heap.size := by omega
      have q7 := (b35.cell (p := ⟨w.heap.size, 7, none⟩) s13).trans HC3.out
      simp at q7
      have v0 := (b45.cell (p := ⟨w3.heap.size, 0, none⟩) s6).trans (K6.out 0); simp at v0; have v1 := (b45.cell (p := ⟨w3.heap.size, 1, none⟩) s6).trans (K6.out 1); simp at v1; have v2 := (b45.cell (p := ⟨w3.heap.size, 2, none⟩) s6).trans (K6.out 2); simp at v2; have v3 := (b45.cell (p := ⟨w3.heap.size, 3, none⟩) s6).trans (K6.out 3); simp at v3; have v4 := (b45.cell (p := ⟨w3.heap.size, 4, none⟩) s6).trans (K6.out 4); simp at v4; have v5 := (b45.cell (p := ⟨w3.heap.size, 5, none⟩) s6).trans (K6.out 5); simp at v5; have v6 := (b45.cell (p := ⟨w3.heap.size, 6, none⟩) s6).trans (K6.out 6); simp at v6; have v7 := (b45.cell (p := ⟨w3.heap.size, 7, none⟩) s6).trans (K6.out 7); simp at v7
      have u0 := k9 0; simp at u0; have u1 := k9 1; simp at u1; have u2 := k9 2; simp at u2; have u3 := k9 3; simp at u3; have u4 := k9 4; simp at u4; have u5 := k9 5; simp at u5; have u6 := k9 6; simp at u6; have u7 := k9 7; simp at u7
      have hr1 := HR.out.keep b35
      have hr2 := HN.out.rin.keep hb5
      have hok := HOK.out.keep b35
      have hok2 : GhOk w5 (nowL L' t) bl := fun g hg => hok g (List.mem_filter.1 hg).1
      have hnl : (nowL L' t).length ≤ 1000 := by have := HL.out; omega
      have HM1 := Lib.hid (fun W (hW : Below w5.heap.size w5 W) => missing_at b ⟨dcols, drows, dside, dradius, dspeed, dids, dqueue⟩ z t p' L'.length c' L' W (HM3.out.grow (b35.trans (hW.mono b35.size))) HO.out (hr1.keep hW))
      have HM2 := Lib.hid (fun W (hW : Below w5.heap.size w5 W) => missing_at b ⟨dcols, drows, dside, dradius, dspeed, dids, dqueue⟩ z t po (nowL L' t).length co (nowL L' t) W (HM3.out.grow (b35.trans (hW.mono b35.size))) HO.out (hr2.keep hW))
      have HN1 := Lib.hid (fun W (hW : Below w5.heap.size w5 W) => near_at t p' L'.length c' L' bl W (hr1.keep hW) (hok.keep hW) (by omega))
      have HN2 := Lib.hid (fun W (hW : Below w5.heap.size w5 W) => near_at t po (nowL L' t).length co (nowL L' t) bl W (hr2.keep hW) (hok2.keep hW) hnl)
      rw [missF_now] at HM2
      rw [nearG_now] at HN2
      have HB5 := Lib.hid (HB3.out.trans (b35.mono HB3.out.size))
      clear hr1 hr2 hok hok2 hbl y1 y6 z0 z1 z2 hb34 HB34 hb5 b45 b35 k9 HN HL HR HM3 HC3 HOK HLN K6 HB4 hw5 HO sz HB3
      generalize missF (besR ⟨dcols, drows, dside, dradius, dspeed, dids, dqueue⟩ z) L' t = ms at *
      generalize nearG L' t bl = ns at *
      have HSM := Lib.hid (fun va vb W h1 h2 => same_any va vb ns ns W h1 h2)
      rw [decide_eq_true rfl] at HSM
      generalize (nowL L' t).length = nn at *
      go_region_held3 (fun W => (w5).heap.size ≤ W.heap.size ∧ ∀ b o, b < (w5).heap.size → W.cell? ⟨b, o, none⟩ = (w5).cell? ⟨b, o, none⟩) (with_reducible (repeat (first | assumption | exact s_refl _ | exact s_id _ | refine s_more _ _ ?_ | refine s_alloc _ ?_ | refine s_drew ?_))) (first | (go_at_call 26; (with_reducible refine (HM1.out _ (by repeat' (first | (with_reducible exact Below.refl _ _) | (with_reducible assumption) | (with_reducible refine below_drewN ?_ _) | (with_reducible refine below_more _ _ _ ?_ ?_) | (with_reducible refine Below.alloc ?_ ?_ _) | (with_reducible refine Below.drew ?_) | (with_reducible refine Below.setCell ?_ ?_ _) | go_size))).mono ?_); rintro e w' ⟨v1, rfl, hM1⟩; obtain ⟨d1, os1, rfl⟩ := more_of hM1.2.1) | (go_at_call 26; (with_reducible refine (HM2.out _ (by repeat' (first | (with_reducible exact Below.refl _ _) | (with_reducible assumption) | (with_reducible refine below_drewN ?_ _) | (with_reducible refine below_more _ _ _ ?_ ?_) | (with_reducible refine Below.alloc ?_ ?_ _) | (with_reducible refine Below.drew ?_) | (with_reducible refine Below.setCell ?_ ?_ _) | go_size))).mono ?_); rintro e w' ⟨v2, rfl, hM2⟩; obtain ⟨d2, os2, rfl⟩ := more_of hM2.2.1) | (go_at_call 25; refine (ints22_any _ _ _ _ (hM1.rin.keep (by repeat' (first | (with_reducible exact Below.refl _ _) | (with_reducible assumption) | (with_reducible refine below_drewN ?_ _) | (with_reducible refine below_more _ _ _ ?_ ?_) | (with_reducible refine Below.alloc ?_ ?_ _) | (with_reducible refine Below.drew ?_) | (with_reducible refine Below.setCell ?_ ?_ _) | go_size))) (hM2.rin.keep (by repeat' (first | (with_reducible exact Below.refl _ _) | (with_reducible assumption) | (with_reducible refine below_drewN ?_ _) | (with_reducible refine below_more _ _ _ ?_ ?_) | (with_reducible refine Below.alloc ?_ ?_ _) | (with_reducible refine Below.drew ?_) | (with_reducible refine Below.setCell ?_ ?_ _) | go_size)))).mono ?_; rintro e w' ⟨rfl, hb⟩; obtain ⟨d3, os3, rfl⟩ := more_of hb) | (go_at_call 28; (with_reducible refine (HN1.out _ (by repeat' (first | (with_reducible exact Below.refl _ _) | (with_reducible assumption) | (with_reducible refine below_drewN ?_ _) | (with_reducible refine below_more _ _ _ ?_ ?_) | (with_reducible refine Below.alloc ?_ ?_ _) | (with_reducible refine Below.drew ?_) | (with_reducible refine Below.setCell ?_ ?_ _) | go_size))).mono ?_); rintro e w' ⟨v3, rfl, hN1⟩; obtain ⟨d4, os4, rfl⟩ := more_of hN1.2.1) | (go_at_call 28; (with_reducible refine (HN2.out _ (by repeat' (first | (with_reducible exact Below.refl _ _) | (with_reducible assumption) | (with_reducible refine below_drewN ?_ _) | (with_reducible refine below_more _ _ _ ?_ ?_) | (with_reducible refine Below.alloc ?_ ?_ _) | (with_reducible refine Below.drew ?_) | (with_reducible refine Below.setCell ?_ ?_ _) | go_size))).mono ?_); rintro e w' ⟨v4, rfl, hN2⟩; obtain ⟨d5, os5, rfl⟩ := more_of hN2.2.1) | (go_at_call 20; refine (HSM.out _ _ _ (hN1.bin.keep (by repeat' (first | (with_reducible exact Below.refl _ _) | (with_reducible assumption) | (with_reducible refine below_drewN ?_ _) | (with_reducible refine below_more _ _ _ ?_ ?_) | (with_reducible refine Below.alloc ?_ ?_ _) | (with_reducible refine Below.drew ?_) | (with_reducible refine Below.setCell ?_ ?_ _) | go_size))) (hN2.bin.keep (by repeat' (first | (with_reducible exact Below.refl _ _) | (with_reducible assumption) | (with_reducible refine below_drewN ?_ _) | (with_reducible refine below_more _ _ _ ?_ ?_) | (with_reducible refine Below.alloc ?_ ?_ _) | (with_reducible refine Below.drew ?_) | (with_reducible refine Below.setCell ?_ ?_ _) | go_size)))).mono ?_; rintro e w' ⟨rfl, hb⟩; obtain ⟨d6, os6, rfl⟩ := more_of hb) | (go_at_call 23; refine (awake22 _).mono ?_; rintro e w' ⟨rfl, hb⟩; obtain ⟨d7, os7, rfl⟩ := more_of hb))
      all_goals
        go_wp2_with fail
        go_ret
        exact ⟨rfl, HB5.out.trans (Below.mono (B := w5.heap.size) (by repeat' (first | (with_reducible exact Below.refl _ _) | (with_reducible assumption) | (with_reducible refine below_drewN ?_ _) | (with_reducible refine below_more _ _ _ ?_ ?_) | (with_reducible refine Below.alloc ?_ ?_ _) | (with_reducible refine Below.drew ?_) | (with_reducible refine Below.setCell ?_ ?_ _) | go_size)) HB5.out.size)⟩

set_option maxRecDepth 100000 in
theorem lifted (os : Os) (started : os.Started) (H : Type) (enc : TypeId × Value → H) :
    ReturnsInHanded {} Try.checked os 8 .any (Rows.ghostsOldSpec.pre6 enc Try.prog Try.f8 Rows.ghostsOldRow.domain false) (Rows.ghostsOldSpec.post enc Try.prog Try.f8 false true false false) := by
  refine returnsInHanded_of_change (C := Try.checked) ownKnob0 started (by kernel_rfl) Try.func8
    (ChangeSpec.witness6 (enc := enc) (C := Try.checked) false ⟨#[], #[.agg #[.int .i64 0, .int .i64 0, .int .i64 0, .int .i64 0, .int .i64 0, .int .i64 0, .int .i64 0, .int .i64 0, .int .i64 0, .slice none 0 0, .int .i64 0, .int .i64 0, .int .i64 0, .slice none 0 0, .int .i64 0, .int .i64 0, .int .i64 0, .int .i64 0, .int .i64 0, .int .i64 0, .int .i64 0, .int .i64 0, .int .i64 0, .int .i64 0, .int .i64 0, .slice none 0 0, .int .i64 0, .int .i64 0, .slice none 0 0, .slice none 0 0, .slice none 0 0, .slice none 0 0, .slice none 0 0, .int .i64 0]], []⟩ 8 (by kernel_rfl) (by kernel_rfl) (by kernel_rfl) (by kernel_rfl)) ?_
  intro W base args ds gs before hval0 hW _ _
  have hval : ∀ (j : Nat) t v, Try.f8.params[j]? = some t → args[j]? = some v → Value.okWide Try.prog W .any base t v := hval0
  have hread : ∀ t ∈ Try.f8.params.toList, Try.prog.readableRec t = true ∧ t < Try.prog.types.size := by
    rw [Try.params8]
    intro t ht
    simp only [List.mem_cons, List.not_mem_nil, or_false] at ht
    rcases ht with rfl
    all_goals exact ⟨by kernel_rfl, of_decide_eq_true (by kernel_rfl)⟩
  have hW' := hW
  obtain ⟨p, q, hA0, hV, -, -⟩ := hW'
  have hA : DataW.TrodAll enc Try.prog W 0 (fun _ => true) true Try.f8.params.toList args.toList ds p := hA0
  rw [Try.params8] at hA hval
  obtain ⟨v0, vs0, d0, ds0, p0, q0, hargs, rfl, rfl, h0, r0⟩ := trodAll_cons hA
  obtain ⟨rfl, rfl, rfl⟩ := trodAll_nil r0
  obtain rfl : args = #[v0] := by cases args; simp_all
  obtain ⟨rfl, rfl⟩ := trodVars_none hV
  have k0 := hval 0 50 v0 rfl rfl
  clear hval hval0 hA0 hV hA
  obtain ⟨cc, fuel0, rfl, g0⟩ := agg_of Try.underlying50 k0 h0
  obtain ⟨zcols, zrows, zside, zradius, zspeed, zids, zqueue, zz, tt, pp, cp, L, r, e0, hL, hO, _⟩ := read_case g0
  subst e0
  exact (walk _ _ _ _ _ _ _ _ _ _ _ r L W hL hO).mono fun e W' ⟨he, hb⟩ => ⟨_, he, post_true rfl rfl hread rfl hW hb⟩

/-- GhostsOld: true for every input; the arguments stay. -/
theorem proved : Rows.GhostsOldSaid :=
  OpenClaim.holds_of_wide 8 Try.f8 rfl rfl rfl rfl rfl rfl rfl ⟨rfl, rfl, rfl, rfl, rfl⟩ rfl rfl rfl rfl rfl (by kernel_rfl) Try.func8 (by kernel_rfl)
    (of_decide_eq_true (by kernel_rfl)) (by unfold Func.isWrapper; first | (rw [if_pos (by decide +kernel)]; kernel_rfl) | (rw [if_neg (by decide +kernel)]; exact ⟨rfl, rfl⟩))
    (fun os started H enc _ => lifted os started H enc)
end Go.Proofs.Ytcnclcfipabimaa.ghostsOld
