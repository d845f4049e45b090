/-
  Chapter texts TkC: what the claim reaches of them. Conditions stand at each theorem.
-/
import Derived.Test.YtoimjjhopljdmaaGreatY11
import Derived.Test.YtoimjjhopljdmaaGreatY17
import Derived.Test.YtoimjjhopljdmaaGreatY13
import Derived.Test.YtoimjjhopljdmaaGreatY16
import Derived.Test.YtoimjjhopljdmaaGreatY07
import Derived.Test.YtoimjjhopljdmaaGreatY09
namespace Go.Proofs.YtoimjjhopljdmaaGreat
open Go.RowKit

def hitF (hs : List Hit) (b : Bun) : Bun × Bool := match hs.find? fun h => idEq h.s h.i h.g b.s b.i b.g with
  | some h => hurtF b h.n
  | none => (b, true)
def passF (c : Cfg) (b : Bun) : Bun × Bool := ageF (moveF c b)
theorem find_at {α : Type} {p : α → Bool} : ∀ {l : List α} {t : Nat} {x : α}, l[t]? = some x → p x = true → (∀ j y, j < t → l[j]? = some y → p y = false) → l.find? p = some x
  | y :: l, 0, x, h, hx, _ => by
    obtain rfl : y = x := by simpa using h
    simp [hx]
  | y :: l, t + 1, x, h, hx, hn => by
    have h0 := hn 0 y (by omega) rfl
    rw [List.find?_cons, h0]
    exact find_at (by simpa using h) hx fun j z hj hz => hn (j + 1) z (by omega) (by simpa using hz)
theorem find_no {α : Type} {p : α → Bool} {l : List α} (hn : ∀ j y, j < l.length → l[j]? = some y → p y = false) : l.find? p = none := by
  rw [List.find?_eq_none]
  intro y hy
  obtain ⟨j, hj, rfl⟩ := List.mem_iff_getElem.1 hy
  simpa using hn j _ hj (List.getElem?_eq_getElem hj)
theorem new_at2 (W : World) (o : Obj) (n : Nat) (h : n = W.heap.size) : (W.alloc o).heap[n]? = some o := by subst h; exact heap_alloc_new W o
theorem two_bxs (w : World) (a1 a2 : Array Value) (t1 t2 : TypeId) : ∃ w1, w1 = (w.alloc (.cells a1 t1)).alloc (.cells a2 t2) ∧ Below w.heap.size w w1 ∧ (∀ u, w1.cell? ⟨w.heap.size, u, none⟩ = a1[u]?) ∧ (∀ u, w1.cell? ⟨w.heap.size + 1, u, none⟩ = a2[u]?) ∧ (∀ u, w1.frozen? ⟨w.heap.size + 1, u, none⟩ = false) ∧ w1.heap.size = w.heap.size + 1 + 1 := by
  have e1 : ((w.alloc (.cells a1 t1)).alloc (.cells a2 t2)).heap[w.heap.size + 1]? = some (.cells a2 t2) := new_at2 _ _ _ (by simp)
  have e0 : ((w.alloc (.cells a1 t1)).alloc (.cells a2 t2)).heap[w.heap.size]? = some (.cells a1 t1) :=
    (((Below.refl _ (w.alloc (.cells a1 t1))).alloc (Nat.le_refl _) (.cells a2 t2)).block w.heap.size (by simp)).trans (new_at2 _ _ _ rfl)
  refine ⟨_, rfl, bg, fun u => ?_, fun u => ?_, fun u => ?_, by simp⟩
  · unfold World.cell?; rw [e0]; simp
  · unfold World.cell?; rw [e1]; simp
  · unfold World.frozen?; rw [e1]; simp
theorem eg_run1 : ∀ args w, (callFunc 99 args).run Tryz.prog w = .ok (.enter 99 args) w := enters_of Tryz.func99 (by kernel_rfl) rfl
theorem eg_run2 : ∀ args w, (callFunc 102 args).run Tryz.prog w = .ok (.enter 102 args) w := enters_of Tryz.func102 (by kernel_rfl) rfl
theorem eg_obey1 : ∀ args w, (callFunc 139 args).run Tryz.prog w = .ok (.enter 139 args) w := enters_of Tryz.func139 (by kernel_rfl) rfl
set_option maxRecDepth 100000 in
set_option maxHeartbeats 2000000 in
theorem run2_any (s i g m x y vx vy hp pw lf : Int) (nb bm : Nat) (c : Cfg) (w : World) (hn : w.cell? ⟨nb, 0, none⟩ = some (.pointer (some ⟨bm, 0, none⟩))) (hm : MapAt w bm c) (ho : CfgOk c) (hl : (-9223372036854775808 ≤ lf ∧ lf ≤ 9223372036854775807)) :
    Calls Tryz.prog 102 (#[.agg #[.int .i64 s, .int .i64 i, .int .i64 g, .int .i64 m, .int .i64 x, .int .i64 y, .int .i64 vx, .int .i64 vy, .int .i64 hp, .int .i64 pw, .int .i64 lf]] ++ #[.pointer (some ⟨nb, 0, none⟩)]) w fun e w' => e = .returned (.tuple #[.agg #[.int .i64 ((passF c ⟨s, i, g, m, x, y, vx, vy, hp, pw, lf⟩).1).s, .int .i64 ((passF c ⟨s, i, g, m, x, y, vx, vy, hp, pw, lf⟩).1).i, .int .i64 ((passF c ⟨s, i, g, m, x, y, vx, vy, hp, pw, lf⟩).1).g, .int .i64 ((passF c ⟨s, i, g, m, x, y, vx, vy, hp, pw, lf⟩).1).m, .int .i64 ((passF c ⟨s, i, g, m, x, y, vx, vy, hp, pw, lf⟩).1).x, .int .i64 ((passF c ⟨s, i, g, m, x, y, vx, vy, hp, pw, lf⟩).1).y, .int .i64 ((passF c ⟨s, i, g, m, x, y, vx, vy, hp, pw, lf⟩).1).vx, .int .i64 ((passF c ⟨s, i, g, m, x, y, vx, vy, hp, pw, lf⟩).1).vy, .int .i64 ((passF c ⟨s, i, g, m, x, y, vx, vy, hp, pw, lf⟩).1).hp, .int .i64 ((passF c ⟨s, i, g, m, x, y, vx, vy, hp, pw, lf⟩).1).pw, .int .i64 ((passF c ⟨s, i, g, m, x, y, vx, vy, hp, pw, lf⟩).1).lf], .bool (passF c ⟨s, i, g, m, x, y, vx, vy, hp, pw, lf⟩).2]) ∧ Below w.heap.size w w' := by
  have hnb : nb < w.heap.size := World.block_lt_of_cell? w ⟨nb, 0, none⟩ hn
  obtain ⟨u0, u1, u2⟩ := ltz hnb
  have HM := Lib.hid (fun W (hW : Below w.heap.size w W) => move_any W bm c s i g m x y vx vy hp pw lf (hm.grow hW) ho)
  have hlf : (moveF c ⟨s, i, g, m, x, y, vx, vy, hp, pw, lf⟩).lf = lf := rfl
  unfold passF
  generalize moveF c ⟨s, i, g, m, x, y, vx, vy, hp, pw, lf⟩ = y at *
  obtain ⟨s', i', g', m', x', y', vx', vy', hp', pw', lf'⟩ := y
  simp only at hlf
  subst hlf
  have HA := Lib.hid (fun W => age_any s' i' g' m' x' y' vx' vy' hp' pw' lf' W hl)
  generalize ageF ⟨s', i', g', m', x', y', vx', vy', hp', pw', lf'⟩ = z at *
  clear hm ho hl
  go_enter Tryz.func102, Tryz.ntmps102
  go_wp2_with fail
  refine (HM.out _ bg).mono ?_; rintro e w' ⟨rfl, hb⟩; obtain ⟨d1, os1, rfl⟩ := more_of hb; clear hb
  go_wp2_with fail
  refine (HA.out _).mono ?_; rintro e w' ⟨rfl, hb⟩; obtain ⟨d2, os2, rfl⟩ := more_of hb; clear hb
  go_wp2_with fail
  exact bodyPost_ret (v := .tuple #[.agg #[.int .i64 (z.1).s, .int .i64 (z.1).i, .int .i64 (z.1).g, .int .i64 (z.1).m, .int .i64 (z.1).x, .int .i64 (z.1).y, .int .i64 (z.1).vx, .int .i64 (z.1).vy, .int .i64 (z.1).hp, .int .i64 (z.1).pw, .int .i64 (z.1).lf], .bool z.2]) (by simp [results, Tryz.results102, go_sem]) rfl ⟨rfl, bg⟩
set_option maxRecDepth 100000 in
set_option maxHeartbeats 2000000 in
theorem obey1_any (s i g m x y vx vy hp pw lf ck cs ci cg s' i' g' m' x' y' vx' vy' hp' pw' lf' mask : Int) (nb : Nat) (w : World) (hn : ∀ j, w.cell? ⟨nb, j, none⟩ = (#[.int .i64 ck, .int .i64 cs, .int .i64 ci, .int .i64 cg, .int .i64 s', .int .i64 i', .int .i64 g', .int .i64 m', .int .i64 x', .int .i64 y', .int .i64 vx', .int .i64 vy', .int .i64 hp', .int .i64 pw', .int .i64 lf', .int .i64 mask] : Array Value)[j]?) :
    Calls Tryz.prog 139 (#[.agg #[.int .i64 s, .int .i64 i, .int .i64 g, .int .i64 m, .int .i64 x, .int .i64 y, .int .i64 vx, .int .i64 vy, .int .i64 hp, .int .i64 pw, .int .i64 lf]] ++ #[.pointer (some ⟨nb, 0, none⟩)]) w fun e w' => e = .returned (.tuple #[.agg #[.int .i64 ((obeyF ⟨s, i, g, m, x, y, vx, vy, hp, pw, lf⟩ (⟨ck, cs, ci, cg, ⟨s', i', g', m', x', y', vx', vy', hp', pw', lf'⟩, mask⟩ : Cm)).1).s, .int .i64 ((obeyF ⟨s, i, g, m, x, y, vx, vy, hp, pw, lf⟩ (⟨ck, cs, ci, cg, ⟨s', i', g', m', x', y', vx', vy', hp', pw', lf'⟩, mask⟩ : Cm)).1).i, .int .i64 ((obeyF ⟨s, i, g, m, x, y, vx, vy, hp, pw, lf⟩ (⟨ck, cs, ci, cg, ⟨s', i', g', m', x', y', vx', vy', hp', pw', lf'⟩, mask⟩ : Cm)).1).g, .int .i64 ((obeyF ⟨s, i, g, m, x, y, vx, vy, hp, pw, lf⟩ (⟨ck, cs, ci, cg, ⟨s', i', g', m', x', y', vx', vy', hp', pw', lf'⟩, mask⟩ : Cm)).1).m, .int .i64 ((obeyF ⟨s, i, g, m, x, y, vx, vy, hp, pw, lf⟩ (⟨ck, cs, ci, cg, ⟨s', i', g', m', x', y', vx', vy', hp', pw', lf'⟩, mask⟩ : Cm)).1).x, .int .i64 ((obeyF ⟨s, i, g, m, x, y, vx, vy, hp, pw, lf⟩ (⟨ck, cs, ci, cg, ⟨s', i', g', m', x', y', vx', vy', hp', pw', lf'⟩, mask⟩ : Cm)).1).y, .int .i64 ((obeyF ⟨s, i, g, m, x, y, vx, vy, hp, pw, lf⟩ (⟨ck, cs, ci, cg, ⟨s', i', g', m', x', y', vx', vy', hp', pw', lf'⟩, mask⟩ : Cm)).1).vx, .int .i64 ((obeyF ⟨s, i, g, m, x, y, vx, vy, hp, pw, lf⟩ (⟨ck, cs, ci, cg, ⟨s', i', g', m', x', y', vx', vy', hp', pw', lf'⟩, mask⟩ : Cm)).1).vy, .int .i64 ((obeyF ⟨s, i, g, m, x, y, vx, vy, hp, pw, lf⟩ (⟨ck, cs, ci, cg, ⟨s', i', g', m', x', y', vx', vy', hp', pw', lf'⟩, mask⟩ : Cm)).1).hp, .int .i64 ((obeyF ⟨s, i, g, m, x, y, vx, vy, hp, pw, lf⟩ (⟨ck, cs, ci, cg, ⟨s', i', g', m', x', y', vx', vy', hp', pw', lf'⟩, mask⟩ : Cm)).1).pw, .int .i64 ((obeyF ⟨s, i, g, m, x, y, vx, vy, hp, pw, lf⟩ (⟨ck, cs, ci, cg, ⟨s', i', g', m', x', y', vx', vy', hp', pw', lf'⟩, mask⟩ : Cm)).1).lf], .bool (obeyF ⟨s, i, g, m, x, y, vx, vy, hp, pw, lf⟩ (⟨ck, cs, ci, cg, ⟨s', i', g', m', x', y', vx', vy', hp', pw', lf'⟩, mask⟩ : Cm)).2]) ∧ Below w.heap.size w w' := by
  have hnb : nb < w.heap.size := World.block_lt_of_cell? w ⟨nb, 0, none⟩ (hn 0)
  obtain ⟨u0, u1, u2⟩ := ltz hnb
  have x0 := hn 0; simp at x0; have x1 := hn 1; simp at x1; have x2 := hn 2; simp at x2; have x3 := hn 3; simp at x3; have x4 := hn 4; simp at x4; have x5 := hn 5; simp at x5; have x6 := hn 6; simp at x6; have x7 := hn 7; simp at x7; have x8 := hn 8; simp at x8; have x9 := hn 9; simp at x9; have x10 := hn 10; simp at x10; have x11 := hn 11; simp at x11; have x12 := hn 12; simp at x12; have x13 := hn 13; simp at x13; have x14 := hn 14; simp at x14; have x15 := hn 15; simp at x15
  have HB := Lib.hid (fun W => obey_any s i g m x y vx vy hp pw lf ck cs ci cg s' i' g' m' x' y' vx' vy' hp' pw' lf' mask W)
  generalize obeyF _ _ = z at *
  clear hn
  go_enter Tryz.func139, Tryz.ntmps139
  go_wp2_with fail
  refine (HB.out _).mono ?_; rintro e w' ⟨rfl, hb⟩; obtain ⟨d1, os1, rfl⟩ := more_of hb; clear hb
  go_wp2_with fail
  exact bodyPost_ret (v := .tuple #[.agg #[.int .i64 (z.1).s, .int .i64 (z.1).i, .int .i64 (z.1).g, .int .i64 (z.1).m, .int .i64 (z.1).x, .int .i64 (z.1).y, .int .i64 (z.1).vx, .int .i64 (z.1).vy, .int .i64 (z.1).hp, .int .i64 (z.1).pw, .int .i64 (z.1).lf], .bool z.2]) (by simp [results, Tryz.results139, go_sem]) rfl ⟨rfl, bg⟩
set_option maxRecDepth 100000 in
set_option maxHeartbeats 2000000 in
theorem run1_any (s i g m x y vx vy hp pw lf : Int) (hs : List Hit) (nb : Nat) (hv : Value) (w : World) (hn : w.cell? ⟨nb, 0, none⟩ = some hv) (hR : RIn hitL w hv hs) (hh : (-9223372036854775808 ≤ hp ∧ hp ≤ 9223372036854775807)) :
    Calls Tryz.prog 99 (#[.agg #[.int .i64 s, .int .i64 i, .int .i64 g, .int .i64 m, .int .i64 x, .int .i64 y, .int .i64 vx, .int .i64 vy, .int .i64 hp, .int .i64 pw, .int .i64 lf]] ++ #[.pointer (some ⟨nb, 0, none⟩)]) w fun e w' => e = .returned (.tuple #[.agg #[.int .i64 ((hitF hs ⟨s, i, g, m, x, y, vx, vy, hp, pw, lf⟩).1).s, .int .i64 ((hitF hs ⟨s, i, g, m, x, y, vx, vy, hp, pw, lf⟩).1).i, .int .i64 ((hitF hs ⟨s, i, g, m, x, y, vx, vy, hp, pw, lf⟩).1).g, .int .i64 ((hitF hs ⟨s, i, g, m, x, y, vx, vy, hp, pw, lf⟩).1).m, .int .i64 ((hitF hs ⟨s, i, g, m, x, y, vx, vy, hp, pw, lf⟩).1).x, .int .i64 ((hitF hs ⟨s, i, g, m, x, y, vx, vy, hp, pw, lf⟩).1).y, .int .i64 ((hitF hs ⟨s, i, g, m, x, y, vx, vy, hp, pw, lf⟩).1).vx, .int .i64 ((hitF hs ⟨s, i, g, m, x, y, vx, vy, hp, pw, lf⟩).1).vy, .int .i64 ((hitF hs ⟨s, i, g, m, x, y, vx, vy, hp, pw, lf⟩).1).hp, .int .i64 ((hitF hs ⟨s, i, g, m, x, y, vx, vy, hp, pw, lf⟩).1).pw, .int .i64 ((hitF hs ⟨s, i, g, m, x, y, vx, vy, hp, pw, lf⟩).1).lf], .bool (hitF hs ⟨s, i, g, m, x, y, vx, vy, hp, pw, lf⟩).2]) ∧ Below w.heap.size w w' := by
  have hnb : nb < w.heap.size := World.block_lt_of_cell? w ⟨nb, 0, none⟩ hn
  obtain ⟨u0, u1, u2⟩ := ltz hnb
  have HR := Lib.hid hR
  obtain ⟨p, cap, rfl, hmx, _⟩ := hR
  unfold maxLen at hmx
  have HH := Lib.hid (fun n W => hurt_any s i g m x y vx vy hp pw lf n W hh)
  obtain ⟨zr, hzr⟩ : ∃ zr, hitF hs ⟨s, i, g, m, x, y, vx, vy, hp, pw, lf⟩ = zr := ⟨_, rfl⟩
  rw [hzr]
  have HZR := Lib.hid hzr
  clear hh hzr
  obtain ⟨w1, hw1, hb1, k1, k2, g2, hsz⟩ := two_bxs w #[.int .i64 s, .int .i64 i, .int .i64 g, .int .i64 m, .int .i64 x, .int .i64 y, .int .i64 vx, .int .i64 vy, .int .i64 hp, .int .i64 pw, .int .i64 lf] #[.int .i64 0, .int .i64 0, .int .i64 0, .int .i64 0, .int .i64 0, .int .i64 0, .int .i64 0, .int .i64 0, .int .i64 0, .int .i64 0, .int .i64 0] 32 32
  have HB1 := Lib.hid hb1
  have K1 := Lib.hid k1
  have K2 := Lib.hid k2
  have G2 := Lib.hid g2
  have s0 : nb < w1.heap.size := by omega
  have s1 : w.heap.size < w1.heap.size := by omega
  have s2 : w.heap.size + 1 < w1.heap.size := by omega
  have hn1 := (hb1.cell (p := ⟨nb, 0, none⟩) hnb).trans hn
  clear hb1 k1 k2 g2 hn
  go_enter Tryz.func99, Tryz.ntmps99
  go_upto_region 1 with fail
  rw [← hw1]
  clear hw1
  go_wp2_with fail
  go_loopg [9] hs.length (fun kx sx wr => ∃ t : Nat, sx = .int .i64 t ∧ t ≤ hs.length ∧ hs.length - t ≤ kx ∧ Hid (Below w1.heap.size w1 wr) ∧ Hid (∀ j y, j < t → hs[j]? = some y → idEq y.s y.i y.g s i g = false))
  case atStart => exact ⟨0, by go_num, by omega, by omega, Lib.hid (Below.refl _ _), Lib.hid (fun j y hj => absurd hj (by omega))⟩
  case round =>
    obtain ⟨t, rfl, ht, hkx, HBW, HNO⟩ := hrel
    obtain ⟨wa, rfl⟩ : ∃ wa : World, wa = wr := ⟨_, rfl⟩
    have hz := HBW.out.size
    have a1 : w.heap.size < wa.heap.size := by omega
    have a2 : w.heap.size + 1 < wa.heap.size := by omega
    obtain ⟨z0, z1, z2⟩ := ltz a1
    obtain ⟨z3, z4, z5⟩ := ltz a2
    have x0 := (HBW.out.cell (p := ⟨w.heap.size, 0, none⟩) s1).trans (K1.out 0); simp at x0
    have x1 := (HBW.out.cell (p := ⟨w.heap.size, 1, none⟩) s1).trans (K1.out 1); simp at x1
    have x2 := (HBW.out.cell (p := ⟨w.heap.size, 2, none⟩) s1).trans (K1.out 2); simp at x2
    have x3 := (HBW.out.cell (p := ⟨w.heap.size, 3, none⟩) s1).trans (K1.out 3); simp at x3
    have x4 := (HBW.out.cell (p := ⟨w.heap.size, 4, none⟩) s1).trans (K1.out 4); simp at x4
    have x5 := (HBW.out.cell (p := ⟨w.heap.size, 5, none⟩) s1).trans (K1.out 5); simp at x5
    have x6 := (HBW.out.cell (p := ⟨w.heap.size, 6, none⟩) s1).trans (K1.out 6); simp at x6
    have x7 := (HBW.out.cell (p := ⟨w.heap.size, 7, none⟩) s1).trans (K1.out 7); simp at x7
    have x8 := (HBW.out.cell (p := ⟨w.heap.size, 8, none⟩) s1).trans (K1.out 8); simp at x8
    have x9 := (HBW.out.cell (p := ⟨w.heap.size, 9, none⟩) s1).trans (K1.out 9); simp at x9
    have x10 := (HBW.out.cell (p := ⟨w.heap.size, 10, none⟩) s1).trans (K1.out 10); simp at x10
    have y0 := (HBW.out.cell (p := ⟨w.heap.size + 1, 0, none⟩) s2).trans (K2.out 0); simp at y0
    have y1 := (HBW.out.cell (p := ⟨w.heap.size + 1, 1, none⟩) s2).trans (K2.out 1); simp at y1
    have y2 := (HBW.out.cell (p := ⟨w.heap.size + 1, 2, none⟩) s2).trans (K2.out 2); simp at y2
    have y3 := (HBW.out.cell (p := ⟨w.heap.size + 1, 3, none⟩) s2).trans (K2.out 3); simp at y3
    have y4 := (HBW.out.cell (p := ⟨w.heap.size + 1, 4, none⟩) s2).trans (K2.out 4); simp at y4
    have y5 := (HBW.out.cell (p := ⟨w.heap.size + 1, 5, none⟩) s2).trans (K2.out 5); simp at y5
    have y6 := (HBW.out.cell (p := ⟨w.heap.size + 1, 6, none⟩) s2).trans (K2.out 6); simp at y6
    have y7 := (HBW.out.cell (p := ⟨w.heap.size + 1, 7, none⟩) s2).trans (K2.out 7); simp at y7
    have y8 := (HBW.out.cell (p := ⟨w.heap.size + 1, 8, none⟩) s2).trans (K2.out 8); simp at y8
    have y9 := (HBW.out.cell (p := ⟨w.heap.size + 1, 9, none⟩) s2).trans (K2.out 9); simp at y9
    have y10 := (HBW.out.cell (p := ⟨w.heap.size + 1, 10, none⟩) s2).trans (K2.out 10); simp at y10
    have q0 := (World.frozen?_of_block (w := w1) (a := ⟨w.heap.size + 1, 0, none⟩) (HBW.out.block (w.heap.size + 1) s2)).trans (G2.out 0)
    have q1 := (World.frozen?_of_block (w := w1) (a := ⟨w.heap.size + 1, 1, none⟩) (HBW.out.block (w.heap.size + 1) s2)).trans (G2.out 1)
    have q2 := (World.frozen?_of_block (w := w1) (a := ⟨w.heap.size + 1, 2, none⟩) (HBW.out.block (w.heap.size + 1) s2)).trans (G2.out 2)
    have q3 := (World.frozen?_of_block (w := w1) (a := ⟨w.heap.size + 1, 3, none⟩) (HBW.out.block (w.heap.size + 1) s2)).trans (G2.out 3)
    have q4 := (World.frozen?_of_block (w := w1) (a := ⟨w.heap.size + 1, 4, none⟩) (HBW.out.block (w.heap.size + 1) s2)).trans (G2.out 4)
    have q5 := (World.frozen?_of_block (w := w1) (a := ⟨w.heap.size + 1, 5, none⟩) (HBW.out.block (w.heap.size + 1) s2)).trans (G2.out 5)
    have q6 := (World.frozen?_of_block (w := w1) (a := ⟨w.heap.size + 1, 6, none⟩) (HBW.out.block (w.heap.size + 1) s2)).trans (G2.out 6)
    have q7 := (World.frozen?_of_block (w := w1) (a := ⟨w.heap.size + 1, 7, none⟩) (HBW.out.block (w.heap.size + 1) s2)).trans (G2.out 7)
    have q8 := (World.frozen?_of_block (w := w1) (a := ⟨w.heap.size + 1, 8, none⟩) (HBW.out.block (w.heap.size + 1) s2)).trans (G2.out 8)
    have q9 := (World.frozen?_of_block (w := w1) (a := ⟨w.heap.size + 1, 9, none⟩) (HBW.out.block (w.heap.size + 1) s2)).trans (G2.out 9)
    have q10 := (World.frozen?_of_block (w := w1) (a := ⟨w.heap.size + 1, 10, none⟩) (HBW.out.block (w.heap.size + 1) s2)).trans (G2.out 10)
    have hbw := HB1.out.trans (HBW.out.mono HB1.out.size)
    have HBX := Lib.hid hbw
    by_cases hlt : t < hs.length
    · have t1 : (t : Int) < (hs.length : Int) := by omega
      obtain ⟨h0, hx0⟩ : ∃ h0, hs[t]? = some h0 := ⟨_, List.getElem?_eq_getElem hlt⟩
      obtain ⟨gb, ob, cb, hv, hgb, hcb⟩ := (HR.out.keep hbw).cells hitL_len hx0
      simp only [Value.slice.injEq, true_and] at hv
      obtain ⟨rfl, rfl⟩ := hv
      have c0 := hcb 0 _ rfl
      have c1 := hcb 1 _ rfl
      have c2 := hcb 2 _ rfl
      have c3 := hcb 3 _ rfl
      simp only [Nat.add_zero] at c0
      obtain ⟨e0, e1, e2⟩ := ltz hgb
      have HX := Lib.hid hx0
      clear hcb hx0 hbw
      obtain ⟨hs', hi, hg, hn⟩ := h0
      simp only at c0 c1 c2 c3
      cases hid : idEq hs' hi hg s i g with
      | true =>
        have hres : zr = hurtF ⟨s, i, g, m, x, y, vx, vy, hp, pw, lf⟩ hn := by
          rw [← HZR.out]
          unfold hitF
          rw [find_at (p := fun h => idEq h.s h.i h.g s i g) HX.out hid HNO.out]
        have HHX := Lib.hid (HH.out hn)
        generalize hurtF ⟨s, i, g, m, x, y, vx, vy, hp, pw, lf⟩ hn = z at *
        subst hres
        go_wp2_with fail
        refine (HHX.out _).mono ?_; rintro e w' ⟨rfl, hb⟩; obtain ⟨d1, os1, rfl⟩ := more_of hb; clear hb
        go_wp2_with fail
        have hbx := HBX.out
        exact bodyPost_ret (v := .tuple #[.agg #[.int .i64 (zr.1).s, .int .i64 (zr.1).i, .int .i64 (zr.1).g, .int .i64 (zr.1).m, .int .i64 (zr.1).x, .int .i64 (zr.1).y, .int .i64 (zr.1).vx, .int .i64 (zr.1).vy, .int .i64 (zr.1).hp, .int .i64 (zr.1).pw, .int .i64 (zr.1).lf], .bool zr.2]) (by simp [results, Tryz.results99, go_sem, *]) rfl ⟨rfl, bg⟩
      | false =>
        go_wp2_with fail
        go_roundg (hs.length - (t + 1))
        case measure => omega
        case rel => exact ⟨t + 1, by go_num, by omega, by omega, Lib.hid (HBW.out.trans (Below.mono (B := wa.heap.size) bg HBW.out.size)), Lib.hid (fun j y hj hy => by
          by_cases hjt : j = t
          · subst hjt
            obtain rfl := Option.some.inj (HX.out.symm.trans hy)
            exact hid
          · exact HNO.out j y (by omega) hy)⟩
    · have t1 : ¬ (t : Int) < (hs.length : Int) := by omega
      have hres : zr = (⟨s, i, g, m, x, y, vx, vy, hp, pw, lf⟩, true) := by
        rw [← HZR.out]
        unfold hitF
        rw [find_no (p := fun h => idEq h.s h.i h.g s i g) fun j y hj hy => HNO.out j y (by omega) hy]
      subst hres
      clear hbw
      go_wp2_with fail
      have hbx := HBX.out
      exact bodyPost_ret (v := .tuple #[.agg #[.int .i64 s, .int .i64 i, .int .i64 g, .int .i64 m, .int .i64 x, .int .i64 y, .int .i64 vx, .int .i64 vy, .int .i64 hp, .int .i64 pw, .int .i64 lf], .bool true]) (by simp [results, Tryz.results99, go_sem, *]) rfl ⟨rfl, bg⟩
end Go.Proofs.YtoimjjhopljdmaaGreat
