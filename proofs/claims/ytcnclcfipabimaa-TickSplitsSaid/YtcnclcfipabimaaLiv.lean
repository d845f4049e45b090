/-
  Chapter 15: Living: the entities that may be, of unlike names. Condition: the world may be; the masks fit.
-/
import Derived.Test.YtcnclcfipabimaaMtl
import Derived.Test.YtcnclcfipabimaaMpt
namespace Go.Proofs.Ytcnclcfipabimaa
open Go.RowKit

def livB (c : Cfg) (b : Bun) : Bun := { b with x := (inF c b.x b.y).1, y := (inF c b.x b.y).2 }
def newU (out : List Bun) (b : Bun) : Bool := out.all fun o => !idEq o.s o.i o.g b.s b.i b.g
def addU (out : List Bun) (b : Bun) : List Bun := if rMayB b && newU out b then out ++ [b] else out
def livTo (c : Cfg) (l : List Bun) : List Bun := l.foldl (fun o b => addU o (livB c b)) []
/-- The entities that may be, of unlike names. -/
def livF (c : Cfg) (l : List Bun) : List Bun := livTo c (l.take 60)
theorem livTo_snoc (c : Cfg) (l : List Bun) (x : Bun) : livTo c (l ++ [x]) = addU (livTo c l) (livB c x) := by simp [livTo]
theorem livTo_step (c : Cfg) {l : List Bun} {t : Nat} {x : Bun} (h : l[t]? = some x) : livTo c (l.take (t + 1)) = addU (livTo c (l.take t)) (livB c x) := by
  have hlt := (List.getElem?_eq_some_iff.1 h).1
  rw [List.take_succ_eq_append_getElem hlt, (List.getElem?_eq_some_iff.1 h).2, livTo_snoc]
theorem addU_len (o : List Bun) (b : Bun) : (addU o b).length ≤ o.length + 1 := by unfold addU; split <;> simp
theorem livTo_ind (c : Cfg) (P : List Bun → Prop) (h0 : P []) (h1 : ∀ o b, P o → P (addU o (livB c b))) (l : List Bun) : P (livTo c l) := by
  have key : ∀ r : List Bun, P (livTo c r.reverse) := fun r => by
    induction r with
    | nil => exact h0
    | cons x r ih => rw [List.reverse_cons, livTo_snoc]; exact h1 _ _ ih
  have := key l.reverse
  rwa [List.reverse_reverse] at this
theorem livTo_len (c : Cfg) (l : List Bun) : (livTo c l).length ≤ l.length := by
  have key : ∀ r : List Bun, (livTo c r.reverse).length ≤ r.length := fun r => by
    induction r with
    | nil => simp [livTo]
    | cons x r ih =>
      rw [List.reverse_cons, livTo_snoc]
      have := addU_len (livTo c r.reverse) (livB c x)
      simp only [List.length_cons]; omega
  have := key l.reverse
  rw [List.reverse_reverse, List.length_reverse] at this
  exact this
theorem livF_len (c : Cfg) (l : List Bun) : (livF c l).length ≤ 60 := by
  have := livTo_len c (l.take 60)
  unfold livF
  rw [List.length_take] at this
  omega
theorem livF_may (c : Cfg) (l : List Bun) : ∀ b ∈ livF c l, rMayB b = true := by
  unfold livF
  refine livTo_ind c (fun o => ∀ b ∈ o, rMayB b = true) (by simp) (fun o b h x hx => ?_) _
  unfold addU at hx
  split at hx
  · rename_i hc
    rcases List.mem_append.1 hx with h2 | h2
    · exact h x h2
    · obtain rfl := List.mem_singleton.1 h2
      simp only [Bool.and_eq_true] at hc; exact hc.1
  · exact h x hx
theorem livF_in {c : Cfg} (ho : CfgOk c) (l : List Bun) : ∀ b ∈ livF c l, inW c b.x b.y = true := by
  unfold livF
  refine livTo_ind c (fun o => ∀ b ∈ o, inW c b.x b.y = true) (by simp) (fun o b h x hx => ?_) _
  unfold addU at hx
  split at hx
  · rcases List.mem_append.1 hx with h2 | h2
    · exact h x h2
    · obtain rfl := List.mem_singleton.1 h2
      exact inF_in ho _ _
  · exact h x hx
theorem livF_un (c : Cfg) (l : List Bun) : UnId (livF c l) := by
  unfold livF
  refine livTo_ind c UnId List.Pairwise.nil (fun o b h => ?_) _
  unfold addU
  split
  · rename_i hc
    simp only [Bool.and_eq_true] at hc
    unfold newU at hc
    refine List.pairwise_append.2 ⟨h, List.pairwise_singleton _ _, fun x hx y hy => ?_⟩
    obtain rfl := List.mem_singleton.1 hy
    have := List.all_eq_true.1 hc.2 x hx
    intro hs
    simp only [Bool.not_eq_true'] at this
    unfold sameId at hs
    unfold idEq at this
    simp_all
  · exact h
/-- Whoever fits stays so. -/
def MFit (b : Bun) : Prop := -9223372036854775808 ≤ b.m ∧ b.m ≤ 9223372036854775807
set_option maxRecDepth 100000 in
set_option maxHeartbeats 4000000 in
theorem living_any (cols rows side radius speed ids queue : Int) (v : Value) (l : List Bun) (w : World) (ho : CfgOk ⟨cols, rows, side, radius, speed, ids, queue⟩) (hl : BIn w v l) (hf : ∀ b ∈ l, MFit b) :
    Calls Try.prog 34 #[.agg #[.int .i64 cols, .int .i64 rows, .int .i64 side, .int .i64 radius, .int .i64 speed, .int .i64 ids, .int .i64 queue], v] w fun e w' => ∃ v', e = .returned v' ∧ BNew w w' v' (livF ⟨cols, rows, side, radius, speed, ids, queue⟩ l) := by
  obtain ⟨i0, hi0, hz0, hz1, hz2⟩ := info_parts info_bunJ
  have HO := Lib.hid (fun x y W => rIn_k cols rows side radius speed ids queue x y W ho)
  have HL := Lib.hid hl
  have HFT := Lib.hid hf
  have hlb : ∀ b : Bun, livB ⟨cols, rows, side, radius, speed, ids, queue⟩ b = { b with x := (inF ⟨cols, rows, side, radius, speed, ids, queue⟩ b.x b.y).1, y := (inF ⟨cols, rows, side, radius, speed, ids, queue⟩ b.x b.y).2 } := fun b => rfl
  have hst : ∀ t x, l[t]? = some x → livTo ⟨cols, rows, side, radius, speed, ids, queue⟩ (l.take (t + 1)) = addU (livTo ⟨cols, rows, side, radius, speed, ids, queue⟩ (l.take t)) (livB ⟨cols, rows, side, radius, speed, ids, queue⟩ x) := fun t x h => livTo_step _ h
  have hln : ∀ t, (livTo ⟨cols, rows, side, radius, speed, ids, queue⟩ (l.take t)).length ≤ t := fun t => by have := livTo_len ⟨cols, rows, side, radius, speed, ids, queue⟩ (l.take t); rw [List.length_take] at this; omega
  have hnil : livTo ⟨cols, rows, side, radius, speed, ids, queue⟩ (l.take 0) = [] := rfl
  have hfin : ∀ t, t ≤ l.length → t ≤ 60 → (l.length ≤ t ∨ 60 ≤ t) → livF ⟨cols, rows, side, radius, speed, ids, queue⟩ l = livTo ⟨cols, rows, side, radius, speed, ids, queue⟩ (l.take t) := fun t h1 h2 h3 => by
    unfold livF
    rcases h3 with h3 | h3
    · rw [List.take_of_length_le (by omega), List.take_of_length_le (by omega)]
    · rw [show t = 60 by omega]
  have HLB := Lib.hid hlb; have HST := Lib.hid hst; have HLN := Lib.hid hln; have HNIL := Lib.hid hnil; have HFIN := Lib.hid hfin
  clear ho hlb hst hln hnil hfin hf
  generalize livF ⟨cols, rows, side, radius, speed, ids, queue⟩ l = lf at *
  generalize livTo ⟨cols, rows, side, radius, speed, ids, queue⟩ = lt at *
  generalize livB ⟨cols, rows, side, radius, speed, ids, queue⟩ = lb at *
  generalize inF ⟨cols, rows, side, radius, speed, ids, queue⟩ = inf at *
  obtain ⟨p1, e1, rfl, hmx, _⟩ := hl
  unfold maxLen at hmx
  go_enter Try.func34, Try.ntmps34
  go_upto_region 1 with fail
  generalize hw1 : World.alloc w _ = w1
  have hb1 : Below w.heap.size w w1 := by rw [← hw1]; exact (by repeat' (first | (with_reducible exact Below.refl _ _) | (with_reducible assumption) | (with_reducible refine below_drewN ?_ _) | (with_reducible refine below_more _ _ _ ?_ ?_) | (with_reducible refine Below.alloc ?_ ?_ _) | (with_reducible refine Below.drew ?_) | (with_reducible refine Below.setCell ?_ ?_ _) | go_size))
  have hcf : ∀ u, w1.cell? ⟨w.heap.size, u, none⟩ = (#[.int .i64 cols, .int .i64 rows, .int .i64 side, .int .i64 radius, .int .i64 speed, .int .i64 ids, .int .i64 queue] : Array Value)[u]? := fun u => by rw [← hw1]; simp
  have hs2 : w.heap.size < w1.heap.size := by rw [← hw1]; simp
  have HB1 := Lib.hid hb1
  have HCF := Lib.hid hcf
  clear hb1 hcf hw1
  go_wp2_with fail
  go_loopg [5, 6] l.length (fun kx o sx wr => ∃ t : Nat, sx = .int .i64 t ∧ t ≤ l.length ∧ t ≤ 60 ∧ l.length - t ≤ kx ∧ Hid (BNew w1 wr o (lt (l.take t))))
  case atStart => exact ⟨0, by go_num, by omega, by omega, by omega, Lib.hid (by rw [HNIL.out]; exact BNew.nil w1)⟩
  case round =>
    obtain ⟨t, rfl, ht, ht6, hkx, HN⟩ := hrel
    obtain ⟨wa, rfl⟩ : ∃ wa : World, wa = wr := ⟨_, rfl⟩
    have hbl := HN.out.2.1
    have hsl := hbl.size
    have x0 := (hbl.cell (p := ⟨w.heap.size, 0, none⟩) hs2).trans (HCF.out 0); simp at x0
    have x1 := (hbl.cell (p := ⟨w.heap.size, 1, none⟩) hs2).trans (HCF.out 1); simp at x1
    have x2 := (hbl.cell (p := ⟨w.heap.size, 2, none⟩) hs2).trans (HCF.out 2); simp at x2
    have x3 := (hbl.cell (p := ⟨w.heap.size, 3, none⟩) hs2).trans (HCF.out 3); simp at x3
    have x4 := (hbl.cell (p := ⟨w.heap.size, 4, none⟩) hs2).trans (HCF.out 4); simp at x4
    have x5 := (hbl.cell (p := ⟨w.heap.size, 5, none⟩) hs2).trans (HCF.out 5); simp at x5
    have x6 := (hbl.cell (p := ⟨w.heap.size, 6, none⟩) hs2).trans (HCF.out 6); simp at x6
    have s2a : w.heap.size < wa.heap.size := by omega
    obtain ⟨f0, f1, f2⟩ := ltz s2a
    have HBL := Lib.hid hbl
    clear hbl
    by_cases hlt : t < l.length
    · have t1 : (t : Int) < (l.length : Int) := by omega
      by_cases h60 : t < 60
      · have t2 : (t : Int) < 60 := by omega
        obtain ⟨x0, hx0⟩ : ∃ x0, l[t]? = some x0 := ⟨_, List.getElem?_eq_getElem hlt⟩
        obtain ⟨gb, ob, cb, hv, hgb, hcb⟩ := (HL.out.keep (HB1.out.trans (HBL.out.mono HB1.out.size))).cells hx0
        simp only [Value.slice.injEq, true_and] at hv
        obtain ⟨rfl, rfl⟩ := hv
        have c0 := hcb 0 _ rfl
        have c1 := hcb 1 _ rfl
        have c2 := hcb 2 _ rfl
        have c3 := hcb 3 _ rfl
        have c4 := hcb 4 _ rfl
        have c5 := hcb 5 _ rfl
        have c6 := hcb 6 _ rfl
        have c7 := hcb 7 _ rfl
        have c8 := hcb 8 _ rfl
        have c9 := hcb 9 _ rfl
        have c10 := hcb 10 _ rfl
        simp only [Nat.add_zero] at c0
        obtain ⟨po, co, hpo⟩ := sl_frm HN.out.1
        subst hpo
        have HSX := Lib.hid (HST.out t x0 hx0)
        have hlx := HLB.out x0
        have HMF := Lib.hid (HFT.out x0 (List.mem_of_getElem? hx0))
        have HOX := Lib.hid (HO.out x0.x x0.y)
        generalize inf x0.x x0.y = q at *
        obtain ⟨xx, yy⟩ := q
        obtain ⟨e0, e1', e2'⟩ := ltz hgb
        clear hcb hx0
        have hal := HLN.out t
        generalize lt (l.take t) = acc at *
        obtain ⟨s, i, g, m, x, y, vx, vy, hp, pw, lf⟩ := x0
        simp only at HOX hlx HMF
        rw [hlx] at HSX
        clear hlx
        obtain ⟨my, hmy⟩ : ∃ my, rMayB ⟨s, i, g, m, xx, yy, vx, vy, hp, pw, lf⟩ = my := ⟨_, rfl⟩
        have HMX := Lib.hid (fun W => rMay_any s i g m xx yy vx vy hp pw lf W HMF.out.1 HMF.out.2)
        rw [hmy] at HMX
        have HMY := Lib.hid hmy
        clear hmy
        go_wp2_with fail
        refine (HOX.out _).mono ?_; rintro e w' ⟨rfl, hb'⟩; obtain ⟨d1, os1, rfl⟩ := more_of hb'; clear hb'
        go_wp2_with fail
        refine (HMX.out _).mono ?_; rintro e w' ⟨rfl, hb'⟩; obtain ⟨d2, os2, rfl⟩ := more_of hb'; clear hb'
        go_upto_region 11 with fail
        generalize hw2 : more (more (World.alloc _ _) _ _) _ _ = w2
        have hb2 : Below wa.heap.size wa w2 := by rw [← hw2]; exact (by repeat' (first | (with_reducible exact Below.refl _ _) | (with_reducible assumption) | (with_reducible refine below_drewN ?_ _) | (with_reducible refine below_more _ _ _ ?_ ?_) | (with_reducible refine Below.alloc ?_ ?_ _) | (with_reducible refine Below.drew ?_) | (with_reducible refine Below.setCell ?_ ?_ _) | go_size))
        have k6 : ∀ u, w2.cell? ⟨wa.heap.size, u, none⟩ = (#[.int .i64 s, .int .i64 i, .int .i64 g, .int .i64 m, .int .i64 xx, .int .i64 yy, .int .i64 vx, .int .i64 vy, .int .i64 hp, .int .i64 pw, .int .i64 lf] : Array Value)[u]? := fun u => by
          rw [← hw2, Below.cell (B := wa.heap.size + 1) (w := wa.alloc (.cells #[.int .i64 s, .int .i64 i, .int .i64 g, .int .i64 m, .int .i64 xx, .int .i64 yy, .int .i64 vx, .int .i64 vy, .int .i64 hp, .int .i64 pw, .int .i64 lf] 41)) (by repeat' (first | (with_reducible exact Below.refl _ _) | (with_reducible assumption) | (with_reducible refine below_drewN ?_ _) | (with_reducible refine below_more _ _ _ ?_ ?_) | (with_reducible refine Below.alloc ?_ ?_ _) | (with_reducible refine Below.drew ?_) | (with_reducible refine Below.setCell ?_ ?_ _) | go_size)) (by simp)]; simp
        have s6 : wa.heap.size < w2.heap.size := by rw [← hw2]; simp; omega
        have HN2 := Lib.hid (HN.out.grow hb2)
        have HB2 := Lib.hid hb2
        have K6 := Lib.hid k6
        have HAI := Lib.hid (HN.out.bin.keep hb2)
        generalize wa.heap.size = n6 at *
        clear hw2 hb2 k6 HN c0 c1 c2 c3 c4 c5 c6 c7 c8 c9 c10 e0 e1' e2' x0 x1 x2 x3 x4 x5 x6 f0 f1 f2
        go_loopg [10, 11] acc.length (fun kx o sx wr => ∃ q : Nat, sx = .int .i64 q ∧ q ≤ acc.length ∧ acc.length - q ≤ kx ∧ o = .bool (my && (acc.take q).all fun z => !idEq z.s z.i z.g s i g) ∧ Hid (Below w2.heap.size w2 wr))
        case atStart => exact ⟨0, by go_num, by omega, by omega, by simp, Lib.hid (Below.refl _ _)⟩
        case round =>
          obtain ⟨q, rfl, hq, hkq, rfl, HW⟩ := hrel
          obtain ⟨wb, rfl⟩ : ∃ wb : World, wb = wr := ⟨_, rfl⟩
          have hzz := HW.out.size
          have s6b : n6 < wb.heap.size := by omega
          obtain ⟨f0, f1, f2⟩ := ltz s6b
          have x0 := (HW.out.cell (p := ⟨n6, 0, none⟩) s6).trans (K6.out 0); simp at x0
          have x1 := (HW.out.cell (p := ⟨n6, 1, none⟩) s6).trans (K6.out 1); simp at x1
          have x2 := (HW.out.cell (p := ⟨n6, 2, none⟩) s6).trans (K6.out 2); simp at x2
          have x3 := (HW.out.cell (p := ⟨n6, 3, none⟩) s6).trans (K6.out 3); simp at x3
          have x4 := (HW.out.cell (p := ⟨n6, 4, none⟩) s6).trans (K6.out 4); simp at x4
          have x5 := (HW.out.cell (p := ⟨n6, 5, none⟩) s6).trans (K6.out 5); simp at x5
          have x6 := (HW.out.cell (p := ⟨n6, 6, none⟩) s6).trans (K6.out 6); simp at x6
          have x7 := (HW.out.cell (p := ⟨n6, 7, none⟩) s6).trans (K6.out 7); simp at x7
          have x8 := (HW.out.cell (p := ⟨n6, 8, none⟩) s6).trans (K6.out 8); simp at x8
          have x9 := (HW.out.cell (p := ⟨n6, 9, none⟩) s6).trans (K6.out 9); simp at x9
          have x10 := (HW.out.cell (p := ⟨n6, 10, none⟩) s6).trans (K6.out 10); simp at x10
          by_cases hlq : q < acc.length
          · have t3 : (q : Int) < (acc.length : Int) := by omega
            obtain ⟨y0, hy0⟩ : ∃ y0, acc[q]? = some y0 := ⟨_, List.getElem?_eq_getElem hlq⟩
            obtain ⟨gc, oc, cc, hv, hgc, hcc⟩ := (HAI.out.keep HW.out).cells hy0
            simp only [Value.slice.injEq, true_and] at hv
            obtain ⟨rfl, rfl⟩ := hv
            have c0 := hcc 0 _ rfl
            have c1 := hcc 1 _ rfl
            have c2 := hcc 2 _ rfl
            simp only [Nat.add_zero] at c0
            have hst : (my && (acc.take (q + 1)).all fun z => !idEq z.s z.i z.g s i g) = ((my && (acc.take q).all fun z => !idEq z.s z.i z.g s i g) && !idEq y0.s y0.i y0.g s i g) := by
              rw [List.take_succ_eq_append_getElem hlq, List.all_append, (List.getElem?_eq_some_iff.1 hy0).2, Bool.and_assoc]; simp
            have HST2 := Lib.hid hst
            clear hst hcc hy0
            generalize (my && (acc.take q).all fun z => !idEq z.s z.i z.g s i g) = fl at *
            go_wp2_with fail
            cases fl with
            | false =>
              refine wp_region_more (by kernel_rfl) (by kernel_rfl) ?_
              repeat (go_big_quiet_step (fail))
              refine wpQuiet_nil ?_
              rintro _ ⟨pq1, rfl⟩
              go_wp2_with fail
              go_roundg (acc.length - (q + 1))
              case measure => omega
              case rel => exact ⟨q + 1, by go_num, by omega, by omega, by rw [HST2.out]; rfl, Lib.hid (HW.out.trans (Below.mono (B := wb.heap.size) (by repeat' (first | (with_reducible exact Below.refl _ _) | (with_reducible assumption) | (with_reducible refine below_drewN ?_ _) | (with_reducible refine below_more _ _ _ ?_ ?_) | (with_reducible refine Below.alloc ?_ ?_ _) | (with_reducible refine Below.drew ?_) | (with_reducible refine Below.setCell ?_ ?_ _) | go_size)) HW.out.size))⟩
            | true =>
              refine wp_region_more (by kernel_rfl) (by kernel_rfl) ?_
              repeat (go_big_quiet_step (fail))
              refine wpQuiet_nil ?_
              rintro _ ⟨pq1, rfl⟩
              go_wp2_with fail
              go_roundg (acc.length - (q + 1))
              case measure => omega
              case rel => exact ⟨q + 1, by go_num, by omega, by omega, by rw [HST2.out]; simp, Lib.hid (HW.out.trans (Below.mono (B := wb.heap.size) (by repeat' (first | (with_reducible exact Below.refl _ _) | (with_reducible assumption) | (with_reducible refine below_drewN ?_ _) | (with_reducible refine below_more _ _ _ ?_ ?_) | (with_reducible refine Below.alloc ?_ ?_ _) | (with_reducible refine Below.drew ?_) | (with_reducible refine Below.setCell ?_ ?_ _) | go_size)) HW.out.size))⟩
          · have t3 : ¬ (q : Int) < (acc.length : Int) := by omega
            obtain rfl : q = acc.length := by omega
            rw [List.take_length]
            have hfl : addU acc ⟨s, i, g, m, xx, yy, vx, vy, hp, pw, lf⟩ = if (my && acc.all fun z => !idEq z.s z.i z.g s i g) then acc ++ [⟨s, i, g, m, xx, yy, vx, vy, hp, pw, lf⟩] else acc := by
              unfold addU newU
              rw [HMY.out]
            rw [hfl] at HSX
            clear hfl
            generalize (my && acc.all fun z => !idEq z.s z.i z.g s i g) = fl at *
            cases fl with
            | false =>
              go_wp2_with fail
              go_roundg (l.length - (t + 1))
              case measure => omega
              case rel => exact ⟨t + 1, by go_num, by omega, by omega, by omega, Lib.hid (by rw [HSX.out]; exact HN2.out.grow HW.out)⟩
            | true =>
              go_wp2_with (at_builtin; refine wpList_append_sl _ (by rfl) _ _ 24 (by rfl) 41 i0 _ 11 88 Try.underlying24 hi0 hz0 hz1 hz2 rfl (by omega) _ acc.length (bunCells acc) (by rfl) ((HN2.out.grow HW.out).grow (by repeat' (first | (with_reducible exact Below.refl _ _) | (with_reducible assumption) | (with_reducible refine below_drewN ?_ _) | (with_reducible refine below_more _ _ _ ?_ ?_) | (with_reducible refine Below.alloc ?_ ?_ _) | (with_reducible refine Below.drew ?_) | (with_reducible refine Below.setCell ?_ ?_ _) | go_size))).1 ⟨_, 0, none⟩ 1 1 (bunL ⟨s, i, g, m, xx, yy, vx, vy, hp, pw, lf⟩) (by rfl) (by rfl) (new_cellsN _ _ _ _ (by simp)) (bunL_one _) (by omega) (by unfold maxLen; omega) (by omega) ?_; intro v' w4 hs4 ht4 ho4)
              have hm := ((HN2.out.grow HW.out).grow (by repeat' (first | (with_reducible exact Below.refl _ _) | (with_reducible assumption) | (with_reducible refine below_drewN ?_ _) | (with_reducible refine below_more _ _ _ ?_ ?_) | (with_reducible refine Below.alloc ?_ ?_ _) | (with_reducible refine Below.drew ?_) | (with_reducible refine Below.setCell ?_ ?_ _) | go_size))).snoc hs4 ht4 ho4
              have HM := Lib.hid hm
              clear hs4 ht4 ho4 hm
              go_roundg (l.length - (t + 1))
              case measure => omega
              case rel => exact ⟨t + 1, by go_num, by omega, by omega, by omega, Lib.hid (by rw [HSX.out]; exact HM.out)⟩
      · have t2 : ¬ (t : Int) < 60 := by omega
        obtain ⟨po, co, hpo⟩ := sl_frm HN.out.1
        subst hpo
        go_wp2_with fail
        go_ret
        exact ⟨_, rfl, by rw [HFIN.out t ht ht6 (by omega)]; exact HN.out.since HB1.out⟩
    · have t1 : ¬ (t : Int) < (l.length : Int) := by omega
      obtain ⟨po, co, hpo⟩ := sl_frm HN.out.1
      subst hpo
      go_wp2_with fail
      go_ret
      exact ⟨_, rfl, by rw [HFIN.out t ht ht6 (by omega)]; exact HN.out.since HB1.out⟩
end Go.Proofs.Ytcnclcfipabimaa
