/-
  Chapter texts DkW ShA: what the claim reaches of them. Conditions stand at each theorem.
-/
import Derived.Test.YtoimjjhopljdmaaGreatQ23
import Derived.Test.YtoimjjhopljdmaaGreatQ07
import Derived.Test.YtoimjjhopljdmaaGreatQ08
import Derived.Test.YtoimjjhopljdmaaGreatQ09
namespace Go.Proofs.YtoimjjhopljdmaaGreat
open Go.RowKit

theorem look_cases (c : Cfg) (D : Dk) (m : Cm) : (∃ e : Int, e ≠ 0 ∧ lookF c D m = (zeroCm, false, e)) ∨ (m.k = 1 ∧ (headF D.M (ofF c m.b.x m.b.y)).2.2 = 0 ∧ lookF c D m = (nameCm m (ofF c m.b.x m.b.y) (headF D.M (ofF c m.b.x m.b.y)).1 (genF D.M (ofF c m.b.x m.b.y) (headF D.M (ofF c m.b.x m.b.y)).1), !(headF D.M (ofF c m.b.x m.b.y)).2.1, 0)) ∨ (m.k ≠ 1 ∧ lookF c D m = (m, false, 0)) := by
  unfold lookF
  split
  · exact .inl ⟨1, by omega, rfl⟩
  split
  · rename_i hk
    split
    · exact .inl ⟨5, by omega, rfl⟩
    split
    · exact .inl ⟨8, by omega, rfl⟩
    split
    · exact .inl ⟨13, by omega, rfl⟩
    rename_i hh
    exact .inr (.inl ⟨hk, Decidable.not_not.1 hh, rfl⟩)
  · rename_i hk
    split
    · exact .inl ⟨9, by omega, rfl⟩
    split
    · exact .inl ⟨10, by omega, rfl⟩
    split
    · exact .inl ⟨8, by omega, rfl⟩
    exact .inr (.inr ⟨hk, rfl⟩)
theorem st_at (V : World) (b : Nat) (h16 : ∀ j, j < 16 → (V.cell? ⟨b, j, none⟩).isSome = true) (hf : ∀ j, V.frozen? ⟨b, j, none⟩ = false) (m : Cm) : (stM ⟨b, 0, none⟩ (.agg (cmC m).toArray)).run Tryz.prog V = .ok () (V.setCells b 0 (cmC m)) := by
  have h := Go.run_storeCells_cells (P := Tryz.prog) b 0 (cmC m) 0 V (fun j hj => by rw [show 0 + 0 + j = j by omega]; exact h16 j hj) (fun j _ => hf _) (cmC_one m)
  exact stM_of m (by simpa using h)
theorem arr16 {cur : Array Value} {m : Cm} (hs : cur.size = 16) (hin : ∀ (j : Nat) (u : Value), (cmC m)[j]? = some u → cur[j]? = some u) : cur = (cmC m).toArray := by
  apply Array.ext_getElem?
  intro j
  have e : (cmC m).toArray[j]? = (cmC m)[j]? := List.getElem?_toArray ..
  rw [e]
  cases h : (cmC m)[j]? with
  | some u => exact hin j u h
  | none =>
    have := List.getElem?_eq_none_iff.1 h
    rw [cmC_len] at this
    exact Array.getElem?_eq_none (by omega)
theorem cells_box (V : World) (b : Nat) (a : Array Value) (T : TypeId) (ha : a.size = 16) (hh : V.heap[b]? = some (.cells a T (0, 0))) (m : Cm) : (V.setCells b 0 (cmC m)).heap[b]? = some (.cells (cmC m).toArray T (0, 0)) := by
  obtain ⟨cur', hg', hs', _, hin, _⟩ := setCells_heap b T (0, 0) (cmC m) 0 V a hh (by rw [cmC_len]; omega)
  have e := arr16 (cur := cur') (m := m) (by omega) fun j u hj => by have := hin j u hj; rwa [Nat.zero_add] at this
  rw [hg', e]
theorem new_cmO (W : World) (m : Cm) : ∃ w5, (stM ⟨W.heap.size, 0, none⟩ (.agg (cmC m).toArray)).run Tryz.prog (W.alloc (.cells #[.int .i64 0, .int .i64 0, .int .i64 0, .int .i64 0, .int .i64 0, .int .i64 0, .int .i64 0, .int .i64 0, .int .i64 0, .int .i64 0, .int .i64 0, .int .i64 0, .int .i64 0, .int .i64 0, .int .i64 0, .int .i64 0] 34)) = .ok () w5 ∧ Made W w5 (boxO W.heap.size (cmC m).toArray 34) := by
  obtain ⟨k5, g5, s5, b5⟩ := new_box W #[.int .i64 0, .int .i64 0, .int .i64 0, .int .i64 0, .int .i64 0, .int .i64 0, .int .i64 0, .int .i64 0, .int .i64 0, .int .i64 0, .int .i64 0, .int .i64 0, .int .i64 0, .int .i64 0, .int .i64 0, .int .i64 0] 34 W.heap.size rfl
  have hh := heap_alloc_new W (.cells #[.int .i64 0, .int .i64 0, .int .i64 0, .int .i64 0, .int .i64 0, .int .i64 0, .int .i64 0, .int .i64 0, .int .i64 0, .int .i64 0, .int .i64 0, .int .i64 0, .int .i64 0, .int .i64 0, .int .i64 0, .int .i64 0] 34)
  generalize W.alloc (.cells #[.int .i64 0, .int .i64 0, .int .i64 0, .int .i64 0, .int .i64 0, .int .i64 0, .int .i64 0, .int .i64 0, .int .i64 0, .int .i64 0, .int .i64 0, .int .i64 0, .int .i64 0, .int .i64 0, .int .i64 0, .int .i64 0] 34) = V at *
  have hx := cells_box V W.heap.size _ _ rfl hh m
  have h0 := st_at V W.heap.size (fun j hj => by rw [k5 j, Array.getElem?_eq_getElem (by simpa using hj)]; rfl) g5 m
  have ht := setCells_turned W.heap.size (cmC m) 0 V
  exact ⟨_, h0, fun x => x = W.heap.size, ⟨hx, fun _ => Iff.rfl⟩, Turned.below_new ht (fun q hq => by cases hq; exact Nat.le_refl _) b5 b5.size, fun x hx => Nat.le_of_eq hx.symm⟩
attribute [local go_sem ↓] loadVar_ldM storeVar_stM
end Go.Proofs.YtoimjjhopljdmaaGreat
namespace Go.Proofs.YtoimjjhopljdmaaGreat
open Go.RowKit

def takeC (r : Int) (b c : Bun) : Bool := (!(idEq c.s c.i c.g b.s b.i b.g) && hasB c.m 8) && decide (farF b.x b.y c.x c.y ≤ r)
def takesF (r : Int) (b : Bun) : Int → List Bun → Int
  | n, [] => n
  | n, c :: l => takesF r b (if takeC r b c then addF n c.pw else n) l
structure Hit where
  (s i g n : Int)
  deriving DecidableEq
def hitL (h : Hit) : List Value := [.int .i64 h.s, .int .i64 h.i, .int .i64 h.g, .int .i64 h.n]
theorem hitL_len (h : Hit) : (hitL h).length = 4 := rfl
theorem hitL_one (h : Hit) : ∀ v ∈ hitL h, v.oneCell' = true := fun v hv => by
  simp [hitL] at hv
  rcases hv with rfl | rfl | rfl | rfl <;> rfl
def hitOf (r : Int) (own oth : List Bun) (b : Bun) : Option Hit :=
  if hasB b.m 4 then (if 0 < takesF r b (takesF r b 0 own) oth then some ⟨b.s, b.i, b.g, takesF r b (takesF r b 0 own) oth⟩ else none) else none
def hitsF (r : Int) (own oth : List Bun) : List Hit := (stableF cmpBun own).filterMap (hitOf r own oth)

theorem info_hitJ : (Tryz.prog.info? 149).map (fun i => (i.zero, i.size, i.bytes)) = some (some (.agg #[.int .i64 0, .int .i64 0, .int .i64 0, .int .i64 0]), 4, 32) := by kernel_rfl

def sumAt (r : Int) (b : Bun) (l1 l2 : List Bun) (j : Nat) : Int := if j = 0 then 0 else if j = 1 then takesF r b 0 l1 else takesF r b (takesF r b 0 l1) l2


set_option maxRecDepth 100000 in
set_option maxHeartbeats 2000000 in
theorem hits_any (r : Int) (v1 v2 : Value) (l1 l2 : List Bun) (w : World) (h1 : BIn w v1 l1) (h2 : BIn w v2 l2) (hl1 : l1.length ≤ 1000) (hl2 : l2.length ≤ 1000) :
    Calls Tryz.prog 97 #[.int .i64 r, v1, v2] w fun e w' => ∃ v', e = .returned v' ∧ RNew hitL 149 4 w w' v' (hitsF r l1 l2) := by
  obtain ⟨i0, hi0, hz0, hz1, hz2⟩ := info_parts info_hitJ
  have H1 := Lib.hid h1
  have H2 := Lib.hid h2
  have hso := sorted_any v1 l1 w h1 (by omega)
  unfold hitsF
  generalize hls : stableF cmpBun l1 = ls at *
  have hlsn : ls.length ≤ 1000 := by rw [← hls, stableF_len]; exact hl1
  have HSO := Lib.hid hso
  clear hso hls
  obtain ⟨p1, e1, rfl, _⟩ := h1
  obtain ⟨p2, e2, rfl, _⟩ := h2
  go_enter Tryz.func97, Tryz.ntmps97
  go_wp2_with fail
  refine HSO.out.mono ?_
  rintro e w1 ⟨vs, rfl, hS⟩
  obtain ⟨ps, cs, rfl⟩ := sl_frm hS.1
  have HS := Lib.hid hS
  have hsz1 := hS.2.1.size
  clear hS
  go_wp2_with fail
  go_loopg [18, 7] ls.length (fun kx x o wr => ∃ k : Nat, x = .int .i64 k ∧ k ≤ ls.length ∧ ls.length - k ≤ kx ∧ Hid (Below w1.heap.size w1 wr) ∧ Hid (RNew hitL 149 4 w1 wr o ((ls.take k).filterMap (hitOf r l1 l2))) ∧ Hid (((ls.take k).filterMap (hitOf r l1 l2)).length ≤ k))
  case atStart => exact ⟨0, by go_num, by omega, by omega, Lib.hid (Below.refl _ _), Lib.hid (RNew.nil w1), Lib.hid (Nat.le_refl _)⟩
  case round =>
    obtain ⟨k, rfl, hk, hkx, HW, HN, HNL⟩ := hrel
    obtain ⟨wa, rfl⟩ : ∃ wa : World, wa = wr := ⟨_, rfl⟩
    by_cases hlt : k < ls.length
    · have t1 : (k : Int) < (ls.length : Int) := by omega
      obtain ⟨b, hb⟩ : ∃ b, ls[k]? = some b := ⟨_, List.getElem?_eq_getElem hlt⟩
      obtain ⟨gb, ob, cb, hv, hgb, hcb⟩ := (HS.out.bin.keep HW.out).cells hb
      simp only [Value.slice.injEq, true_and] at hv
      obtain ⟨rfl, rfl⟩ := hv
      have c0 := hcb 0 _ rfl
      have c1 := hcb 1 _ rfl
      have c2 := hcb 2 _ rfl
      have c3 := hcb 3 _ rfl
      have c4 := hcb 4 _ rfl
      have c5 := hcb 5 _ rfl
      have c6 := hcb 6 _ rfl
      have c7 := hcb 7 _ rfl
      have c8 := hcb 8 _ rfl
      have c9 := hcb 9 _ rfl
      have c10 := hcb 10 _ rfl
      simp only [Nat.add_zero] at c0
      obtain ⟨po, co, rfl⟩ := sl_frm HN.out.1
      have hstep : (ls.take (k + 1)).filterMap (hitOf r l1 l2) = (ls.take k).filterMap (hitOf r l1 l2) ++ (hitOf r l1 l2 b).toList := by
        rw [List.take_succ_eq_append_getElem hlt, List.filterMap_append, show ls[k] = b from by have := List.getElem?_eq_getElem hlt; rw [hb] at this; exact (Option.some.inj this).symm]
        cases hh : hitOf r l1 l2 b <;> simp [hh]
      have HST := Lib.hid hstep
      clear hstep hcb hb
      generalize hacc : (ls.take k).filterMap (hitOf r l1 l2) = acc at *
      have hal := HNL.out
      have HAC := Lib.hid hacc
      clear hacc HNL
      obtain ⟨s, i, g, m, x, y, vx, vy, hp, pw, lf⟩ := b
      cases hlife : hasB m 4 with
      | false =>
        have he : hitOf r l1 l2 ⟨s, i, g, m, x, y, vx, vy, hp, pw, lf⟩ = none := by unfold hitOf; simp [hlife]
        rw [he] at HST
        have HE := Lib.hid HST.out
        clear he HST
        go_wp2_with (go_at_call 136; refine (has_any _ _ _ _ _ _ _ _ _ _ _ _ _).mono ?_; rintro e w' ⟨rfl, hb⟩; obtain ⟨d, os, rfl⟩ := more_of hb; clear hb)
        go_roundg (ls.length - (k + 1))
        case measure => omega
        case rel => exact ⟨k + 1, by go_num, by omega, by omega, Lib.hid (HW.out.trans (Below.mono (B := wa.heap.size) (by repeat' (first | (with_reducible exact Below.refl _ _) | (with_reducible assumption) | (with_reducible refine below_drewN ?_ _) | (with_reducible refine below_more _ _ _ ?_ ?_) | (with_reducible refine Below.alloc ?_ ?_ _) | (with_reducible refine Below.drew ?_) | (with_reducible refine Below.setCell ?_ ?_ _) | go_size)) HW.out.size)), Lib.hid (by rw [HE.out]; simpa using HN.out.grow (by repeat' (first | (with_reducible exact Below.refl _ _) | (with_reducible assumption) | (with_reducible refine below_drewN ?_ _) | (with_reducible refine below_more _ _ _ ?_ ?_) | (with_reducible refine Below.alloc ?_ ?_ _) | (with_reducible refine Below.drew ?_) | (with_reducible refine Below.setCell ?_ ?_ _) | go_size))), Lib.hid (by rw [HE.out]; simp; omega)⟩
      | true =>
        go_wp2_with (go_at_call 136; refine (has_any _ _ _ _ _ _ _ _ _ _ _ _ _).mono ?_; rintro e w' ⟨rfl, hb⟩; obtain ⟨d, os, rfl⟩ := more_of hb; clear hb)
        go_loopg [29, 10] 2 (fun kx sx sn wr2 => ∃ j : Nat, sx = .int .i64 j ∧ j ≤ 2 ∧ 2 - j ≤ kx ∧ sn = .int .i64 (sumAt r ⟨s, i, g, m, x, y, vx, vy, hp, pw, lf⟩ l1 l2 j) ∧ Hid (Below wa.heap.size wa wr2) ∧ Hid (∀ t, wr2.cell? ⟨wa.heap.size, t, none⟩ = (#[.int .i64 s, .int .i64 i, .int .i64 g, .int .i64 m, .int .i64 x, .int .i64 y, .int .i64 vx, .int .i64 vy, .int .i64 hp, .int .i64 pw, .int .i64 lf] : Array Value)[t]?) ∧
          Hid (∀ t, wr2.cell? ⟨wa.heap.size + 1 + os.size, t, none⟩ = (#[.slice p1 l1.length e1, .slice p2 l2.length e2] : Array Value)[t]?) ∧ wa.heap.size + 1 + os.size < wr2.heap.size)
        case atStart => exact ⟨0, by go_num, by omega, by omega, rfl, Lib.hid (by repeat' (first | (with_reducible exact Below.refl _ _) | (with_reducible assumption) | (with_reducible refine below_drewN ?_ _) | (with_reducible refine below_more _ _ _ ?_ ?_) | (with_reducible refine Below.alloc ?_ ?_ _) | (with_reducible refine Below.drew ?_) | (with_reducible refine Below.setCell ?_ ?_ _) | go_size)), Lib.hid (fun t => by simp [go_sem]), Lib.hid (fun t => by simp [go_sem]), by simp⟩
        case round =>
          obtain ⟨j, rfl, hj, hkx2, rfl, HW2, HB2, HS2, hsz2⟩ := hrel
          obtain ⟨wb, rfl⟩ : ∃ wb : World, wb = wr := ⟨_, rfl⟩
          generalize hSB : wa.heap.size + 1 + os.size = SB at *
          have hSB1 : wa.heap.size < SB := by omega
          by_cases hlt2 : j < 2
          · have t2 : (j : Int) < 2 := by omega
            obtain ⟨pk, ck, lk, hcell, hbin, hsum, hlk⟩ : ∃ pk ck lk, (#[.slice p1 l1.length e1, .slice p2 l2.length e2] : Array Value)[j]? = some (.slice pk (lk : List Bun).length ck) ∧ BIn w (.slice pk lk.length ck) lk ∧ sumAt r ⟨s, i, g, m, x, y, vx, vy, hp, pw, lf⟩ l1 l2 (j + 1) = takesF r ⟨s, i, g, m, x, y, vx, vy, hp, pw, lf⟩ (sumAt r ⟨s, i, g, m, x, y, vx, vy, hp, pw, lf⟩ l1 l2 j) lk ∧ lk.length ≤ 1000 := by
              rcases (show j = 0 ∨ j = 1 by omega) with rfl | rfl
              · exact ⟨p1, e1, l1, rfl, H1.out, rfl, hl1⟩
              · exact ⟨p2, e2, l2, rfl, H2.out, rfl, hl2⟩
            have hq := (HS2.out j).trans hcell
            have HSM := Lib.hid hsum
            have HBK := Lib.hid hbin
            clear hcell hsum hbin
            go_wp2_with fail
            go_loopg [35, 10] lk.length (fun kx sx sn wr3 => ∃ (t : Nat) (q : Int), sx = .int .i64 t ∧ sn = .int .i64 q ∧ t ≤ lk.length ∧ lk.length - t ≤ kx ∧ Hid (takesF r ⟨s, i, g, m, x, y, vx, vy, hp, pw, lf⟩ q (lk.drop t) = sumAt r ⟨s, i, g, m, x, y, vx, vy, hp, pw, lf⟩ l1 l2 (j + 1)) ∧ Hid (Below wb.heap.size wb wr3))
            case atStart => exact ⟨0, _, by go_num, rfl, by omega, by omega, Lib.hid HSM.out.symm, Lib.hid (Below.refl _ _)⟩
            case round =>
              clear hq HSM
              obtain ⟨t, q, rfl, rfl, ht, hkx3, HF, HW3⟩ := hrel
              obtain ⟨wc, rfl⟩ : ∃ wc : World, wc = wr := ⟨_, rfl⟩
              by_cases hlt3 : t < lk.length
              · have t3 : (t : Int) < (lk.length : Int) := by omega
                obtain ⟨c, hc⟩ : ∃ c, lk[t]? = some c := ⟨_, List.getElem?_eq_getElem hlt3⟩
                have hsz3 := HW3.out.size
                have hsw := HW2.out.size
                have hws := HW.out.size
                have hsw1 := HS.out.2.1.size
                obtain ⟨gc, oc, cc, hv, hgc, hcc⟩ := (HBK.out.keep ((HS.out.2.1.trans ((HW.out.trans ((HW2.out.trans (HW3.out.mono hsw)).mono hws)).mono hsw1)))).cells hc
                simp only [Value.slice.injEq, true_and] at hv
                obtain ⟨rfl, rfl⟩ := hv
                have u0 := hcc 0 _ rfl
                have u1 := hcc 1 _ rfl
                have u2 := hcc 2 _ rfl
                have u3 := hcc 3 _ rfl
                have u4 := hcc 4 _ rfl
                have u5 := hcc 5 _ rfl
                have u6 := hcc 6 _ rfl
                have u7 := hcc 7 _ rfl
                have u8 := hcc 8 _ rfl
                have u9 := hcc 9 _ rfl
                have u10 := hcc 10 _ rfl
                simp only [Nat.add_zero] at u0
                have y0 := (HW3.out.cell (p := ⟨wa.heap.size, 0, none⟩) (by simp only; omega)).trans (HB2.out 0); simp at y0
                have y1 := (HW3.out.cell (p := ⟨wa.heap.size, 1, none⟩) (by simp only; omega)).trans (HB2.out 1); simp at y1
                have y2 := (HW3.out.cell (p := ⟨wa.heap.size, 2, none⟩) (by simp only; omega)).trans (HB2.out 2); simp at y2
                have y4 := (HW3.out.cell (p := ⟨wa.heap.size, 4, none⟩) (by simp only; omega)).trans (HB2.out 4); simp at y4
                have y5 := (HW3.out.cell (p := ⟨wa.heap.size, 5, none⟩) (by simp only; omega)).trans (HB2.out 5); simp at y5
                have hq := HF.out
                rw [List.drop_eq_getElem_cons hlt3, show lk[t] = c from by have := List.getElem?_eq_getElem hlt3; rw [hc] at this; exact (Option.some.inj this).symm] at hq
                simp only [takesF] at hq
                have HQ := Lib.hid hq
                have hB3 : wa.heap.size < wc.heap.size := by omega
                obtain ⟨z0, z1, z2, z3⟩ := ltq hB3
                clear hq hcc hc HF
                obtain ⟨s', i', g', m', x', y', vx', vy', hp', pw', lf'⟩ := c
                cases h1 : idEq s' i' g' s i g with
                | true =>
                  have ht : takeC r ⟨s, i, g, m, x, y, vx, vy, hp, pw, lf⟩ ⟨s', i', g', m', x', y', vx', vy', hp', pw', lf'⟩ = false := by unfold takeC; simp only; rw [h1]; rfl
                  have HT := Lib.hid ht
                  clear ht
                  go_wp2_with (first | (go_at_call 136; refine (has_any _ _ _ _ _ _ _ _ _ _ _ _ _).mono ?_; rintro e w' ⟨rfl, hb⟩; obtain ⟨d, os, rfl⟩ := more_of hb; clear hb) | (go_at_call 137; refine (far_any _ _ _ _ _).mono ?_; rintro e w' ⟨rfl, rfl⟩))
                  go_roundg (lk.length - (t + 1))
                  case measure => omega
                  case rel => exact ⟨t + 1, q, by go_num, rfl, by omega, by omega, Lib.hid (by have h := HQ.out; rw [HT.out] at h; exact h), Lib.hid (HW3.out.trans (Below.mono (B := wc.heap.size) (by repeat' (first | (with_reducible exact Below.refl _ _) | (with_reducible assumption) | (with_reducible refine below_drewN ?_ _) | (with_reducible refine below_more _ _ _ ?_ ?_) | (with_reducible refine Below.alloc ?_ ?_ _) | (with_reducible refine Below.drew ?_) | (with_reducible refine Below.setCell ?_ ?_ _) | go_size)) HW3.out.size))⟩
                | false =>
                  cases h2 : hasB m' 8 with
                  | false =>
                    have ht : takeC r ⟨s, i, g, m, x, y, vx, vy, hp, pw, lf⟩ ⟨s', i', g', m', x', y', vx', vy', hp', pw', lf'⟩ = false := by unfold takeC; simp only; rw [h1, h2]; rfl
                    have HT := Lib.hid ht
                    clear ht
                    go_wp2_with (first | (go_at_call 136; refine (has_any _ _ _ _ _ _ _ _ _ _ _ _ _).mono ?_; rintro e w' ⟨rfl, hb⟩; obtain ⟨d, os, rfl⟩ := more_of hb; clear hb) | (go_at_call 137; refine (far_any _ _ _ _ _).mono ?_; rintro e w' ⟨rfl, rfl⟩))
                    go_roundg (lk.length - (t + 1))
                    case measure => omega
                    case rel => exact ⟨t + 1, q, by go_num, rfl, by omega, by omega, Lib.hid (by have h := HQ.out; rw [HT.out] at h; exact h), Lib.hid (HW3.out.trans (Below.mono (B := wc.heap.size) (by repeat' (first | (with_reducible exact Below.refl _ _) | (with_reducible assumption) | (with_reducible refine below_drewN ?_ _) | (with_reducible refine below_more _ _ _ ?_ ?_) | (with_reducible refine Below.alloc ?_ ?_ _) | (with_reducible refine Below.drew ?_) | (with_reducible refine Below.setCell ?_ ?_ _) | go_size)) HW3.out.size))⟩
                  | true =>
                    cases h3 : decide (farF x y x' y' ≤ r) with
                    | false =>
                      have ht : takeC r ⟨s, i, g, m, x, y, vx, vy, hp, pw, lf⟩ ⟨s', i', g', m', x', y', vx', vy', hp', pw', lf'⟩ = false := by unfold takeC; simp only; rw [h1, h2, h3]; rfl
                      have HT := Lib.hid ht
                      clear ht
                      go_wp2_with (first | (go_at_call 136; refine (has_any _ _ _ _ _ _ _ _ _ _ _ _ _).mono ?_; rintro e w' ⟨rfl, hb⟩; obtain ⟨d, os, rfl⟩ := more_of hb; clear hb) | (go_at_call 137; refine (far_any _ _ _ _ _).mono ?_; rintro e w' ⟨rfl, rfl⟩))
                      go_roundg (lk.length - (t + 1))
                      case measure => omega
                      case rel => exact ⟨t + 1, q, by go_num, rfl, by omega, by omega, Lib.hid (by have h := HQ.out; rw [HT.out] at h; exact h), Lib.hid (HW3.out.trans (Below.mono (B := wc.heap.size) (by repeat' (first | (with_reducible exact Below.refl _ _) | (with_reducible assumption) | (with_reducible refine below_drewN ?_ _) | (with_reducible refine below_more _ _ _ ?_ ?_) | (with_reducible refine Below.alloc ?_ ?_ _) | (with_reducible refine Below.drew ?_) | (with_reducible refine Below.setCell ?_ ?_ _) | go_size)) HW3.out.size))⟩
                    | true =>
                      have ht : takeC r ⟨s, i, g, m, x, y, vx, vy, hp, pw, lf⟩ ⟨s', i', g', m', x', y', vx', vy', hp', pw', lf'⟩ = true := by unfold takeC; simp only; rw [h1, h2, h3]; rfl
                      have HT := Lib.hid ht
                      clear ht
                      go_wp2_with (first | (go_at_call 136; refine (has_any _ _ _ _ _ _ _ _ _ _ _ _ _).mono ?_; rintro e w' ⟨rfl, hb⟩; obtain ⟨d, os, rfl⟩ := more_of hb; clear hb) | (go_at_call 137; refine (far_any _ _ _ _ _).mono ?_; rintro e w' ⟨rfl, rfl⟩) | (go_at_call 138; refine (add_any _ _ _ _ (by simp [go_sem]; rfl) (by simp [go_sem]; rfl)).mono ?_; rintro e w' ⟨rfl, rfl⟩))
                      go_roundg (lk.length - (t + 1))
                      case measure => omega
                      case rel => exact ⟨t + 1, _, by go_num, rfl, by omega, by omega, Lib.hid (by have h := HQ.out; rw [HT.out] at h; exact h), Lib.hid (HW3.out.trans (Below.mono (B := wc.heap.size) (by repeat' (first | (with_reducible exact Below.refl _ _) | (with_reducible assumption) | (with_reducible refine below_drewN ?_ _) | (with_reducible refine below_more _ _ _ ?_ ?_) | (with_reducible refine Below.alloc ?_ ?_ _) | (with_reducible refine Below.drew ?_) | (with_reducible refine Below.setCell ?_ ?_ _) | go_size)) HW3.out.size))⟩
              · have t3 : ¬ (t : Int) < (lk.length : Int) := by omega
                obtain rfl : t = lk.length := by omega
                have hq := HF.out
                rw [List.drop_length] at hq
                simp only [takesF] at hq
                have HQ := Lib.hid hq
                clear hq HF
                go_wp2_with fail
                go_roundg (2 - (j + 1))
                case measure => omega
                case rel => exact ⟨j + 1, by go_num, by omega, by omega, by rw [← HQ.out], Lib.hid (HW2.out.trans (HW3.out.mono HW2.out.size)), Lib.hid (fun u => (HW3.out.cell (p := ⟨wa.heap.size, u, none⟩) (by simp only; omega)).trans (HB2.out u)), Lib.hid (fun u => (HW3.out.cell (p := ⟨SB, u, none⟩) (by simp only; omega)).trans (HS2.out u)), by have := HW3.out.size; omega⟩
          · obtain rfl : j = 2 := by omega
            have hs2 : sumAt r ⟨s, i, g, m, x, y, vx, vy, hp, pw, lf⟩ l1 l2 2 = takesF r ⟨s, i, g, m, x, y, vx, vy, hp, pw, lf⟩ (takesF r ⟨s, i, g, m, x, y, vx, vy, hp, pw, lf⟩ 0 l1) l2 := rfl
            have hho : hitOf r l1 l2 ⟨s, i, g, m, x, y, vx, vy, hp, pw, lf⟩ = if 0 < sumAt r ⟨s, i, g, m, x, y, vx, vy, hp, pw, lf⟩ l1 l2 2 then some ⟨s, i, g, sumAt r ⟨s, i, g, m, x, y, vx, vy, hp, pw, lf⟩ l1 l2 2⟩ else none := by
              rw [hs2]; unfold hitOf; simp only; rw [hlife, if_pos rfl]
            have HHO := Lib.hid hho
            clear hs2 hho
            generalize sumAt r ⟨s, i, g, m, x, y, vx, vy, hp, pw, lf⟩ l1 l2 2 = n at *
            have hbw : Below w1.heap.size w1 wb := HW.out.trans (HW2.out.mono HW.out.size)
            have HBW := Lib.hid hbw
            have hnb := HN.out.grow HW2.out
            have HNB := Lib.hid hnb
            have y0 := HB2.out 0; simp at y0
            have y1 := HB2.out 1; simp at y1
            have y2 := HB2.out 2; simp at y2
            have hB3 : wa.heap.size < wb.heap.size := by omega
            obtain ⟨z0, z1, z2, z3⟩ := ltq hB3
            clear hbw hnb HB2 HS2
            by_cases hn : 0 < n
            · have hho := HHO.out
              rw [if_pos hn] at hho
              rw [hho] at HST
              have HST2 := Lib.hid HST.out
              clear hho HST HHO
              go_wp2_with (at_builtin; refine wpList_append_sl _ (by rfl) _ _ 97 (by rfl) 149 i0 _ 4 32 Tryz.underlying97 hi0 hz0 hz1 hz2 rfl (by omega) _ acc.length (cellsR hitL acc) (by rfl) (HNB.out.grow (by repeat' (first | (with_reducible exact Below.refl _ _) | (with_reducible assumption) | (with_reducible refine below_drewN ?_ _) | (with_reducible refine below_more _ _ _ ?_ ?_) | (with_reducible refine Below.alloc ?_ ?_ _) | (with_reducible refine Below.drew ?_) | (with_reducible refine Below.setCell ?_ ?_ _) | go_size))).1 ⟨_, 0, none⟩ 1 1 (hitL ⟨s, i, g, n⟩) (by rfl) (by rfl) (new_cells _ _ _) (hitL_one _) (by omega) (by unfold maxLen; omega) (by omega) ?_; intro v' w4 hs4 ht4 ho4)
              have hm := (HNB.out.grow (by repeat' (first | (with_reducible exact Below.refl _ _) | (with_reducible assumption) | (with_reducible refine below_drewN ?_ _) | (with_reducible refine below_more _ _ _ ?_ ?_) | (with_reducible refine Below.alloc ?_ ?_ _) | (with_reducible refine Below.drew ?_) | (with_reducible refine Below.setCell ?_ ?_ _) | go_size))).snoc hs4 ht4 ho4
              have HM := Lib.hid hm
              clear hs4 ht4 ho4 hm
              go_roundg (ls.length - (k + 1))
              case measure => omega
              case rel => exact ⟨k + 1, by go_num, by omega, by omega, Lib.hid HM.out.2.1, Lib.hid (by rw [HST2.out]; simpa using HM.out), Lib.hid (by rw [HST2.out]; simp; omega)⟩
            · have hho := HHO.out
              rw [if_neg hn] at hho
              rw [hho] at HST
              have HST2 := Lib.hid HST.out
              clear hho HST HHO
              go_wp2_with fail
              go_roundg (ls.length - (k + 1))
              case measure => omega
              case rel => exact ⟨k + 1, by go_num, by omega, by omega, Lib.hid HBW.out, Lib.hid (by rw [HST2.out]; simpa using HNB.out), Lib.hid (by rw [HST2.out]; simp; omega)⟩
    · have t1 : ¬ (k : Int) < (ls.length : Int) := by omega
      obtain rfl : k = ls.length := by omega
      rw [List.take_length] at HN
      go_wp2_with fail
      go_ret
      exact ⟨_, rfl, HN.out.since HS.out.2.1⟩
end Go.Proofs.YtoimjjhopljdmaaGreat
