/-
  Chapter texts SoM ShA: what the claim reaches of them. Conditions stand at each theorem.
-/
import Derived.Test.YtoimjjhopljdmaaGreatY02
import Derived.Test.YtoimjjhopljdmaaGreatY07
import Derived.Test.YtoimjjhopljdmaaGreatY10
import Derived.Test.YtoimjjhopljdmaaGreatY08
namespace Go.Proofs.YtoimjjhopljdmaaGreat
open Go.RowKit Go.Sort

theorem sl_some {w : World} {e : TypeId} {size : Nat} {v : Value} {n : Nat} {xs : List Value} (h : Sl w e size v (n + 1) xs) : ∃ g off cap, v = .slice (some ⟨g, off, none⟩) (n + 1) cap ∧ g < w.heap.size ∧ n + 1 ≤ cap := by
  obtain ⟨_, ⟨_, h0⟩ | ⟨g, off, cap, cur, rfl, hb, hn, _⟩⟩ := h
  · omega
  · exact ⟨g, off, cap, rfl, (Array.getElem?_eq_some_iff.1 hb).1, hn⟩
theorem mid_step (l : List Bun) (k : Nat) (y : Bun) (hk : k < l.length) : (l.take (k + 1) ++ y :: l.drop (k + 1)).set (k + 1) l[k] = l.take k ++ l[k] :: l.drop k := by
  have e : (l.take (k + 1)).length = k + 1 := by simp; omega
  rw [List.set_append_right _ _ (by omega), e, Nat.sub_self, List.set_cons_zero, List.take_succ_eq_append_getElem hk, List.append_assoc, List.singleton_append, List.drop_eq_getElem_cons hk]
theorem mid_end (l : List Bun) (k : Nat) (y x : Bun) (hk : k ≤ l.length) : (l.take k ++ y :: l.drop k).set k x = l.take k ++ x :: l.drop k := by
  have e : (l.take k).length = k := by simp; omega
  rw [List.set_append_right _ _ (by omega), e, Nat.sub_self, List.set_cons_zero]
theorem mid_get (l : List Bun) (k : Nat) (y : Bun) (hk : k < l.length) : (l.take (k + 1) ++ y :: l.drop (k + 1))[k]? = some l[k] := by
  rw [List.getElem?_append_left (by simp; omega), List.getElem?_take_of_lt (by omega), List.getElem?_eq_getElem hk]
theorem mid_len (l : List Bun) (k : Nat) (y : Bun) (hk : k ≤ l.length) : (l.take k ++ y :: l.drop k).length = l.length + 1 := by simp; omega

theorem ltq {a W : Nat} (h : a < W) : a < W + 1 ∧ (∀ n, a < W + 1 + n) ∧ (∀ n m, a < W + 1 + n + m) ∧ (∀ n m q, a < W + 1 + n + m + q) := ⟨by omega, fun _ => by omega, fun _ _ => by omega, fun _ _ _ => by omega⟩
theorem BNew.store' {w0 w : World} {blk off cap n : Nat} {l : List Bun} (h : BNew w0 w (.slice (some ⟨blk, off, Option.none⟩) n cap) l) (hn : l.length = n) {k : Nat} (hk : k < n) (b : Bun) :
    (stB ⟨blk, off + k * 11, Option.none⟩ b.v).run Tryz.prog w = .ok () (w.setCells blk (off + k * 11) (bunL b)) ∧ BNew w0 (w.setCells blk (off + k * 11) (bunL b)) (.slice (some ⟨blk, off, Option.none⟩) n cap) (l.set k b) := by
  subst hn
  exact h.store hk b
theorem BIn.cells' {w : World} {blk off n cap : Nat} {l : List Bun} (h : BIn w (.slice (some ⟨blk, off, none⟩) n cap) l) {k : Nat} {b : Bun} (hk : l[k]? = some b) : blk < w.heap.size ∧ ∀ j u, (bunL b)[j]? = some u → w.cell? ⟨blk, off + k * 11 + j, none⟩ = some u := by
  obtain ⟨g, o, c, hv, h1, h2⟩ := h.cells hk
  simp only [Value.slice.injEq, Option.some.injEq, Addr.mk.injEq, and_true] at hv
  obtain ⟨⟨rfl, rfl⟩, _, _⟩ := hv
  exact ⟨h1, h2⟩
attribute [local go_sem ↓] loadVar_ldB storeVar_stB

set_option maxRecDepth 100000 in
set_option maxHeartbeats 4000000 in
theorem rsorted_any (v : Value) (l : List Bun) (w : World) (h : BIn w v l) (hl : l.length ≤ 1000000) :
    Calls Tryz.prog 24 #[v] w fun e w' => ∃ v', e = .returned v' ∧ BNew w w' v' (stableF cmpBun l) := by
  have mixed : Tryz.prog.follows .mixedOrders = true := by kernel_rfl
  obtain ⟨i0, hi0, hz0, hz1, hz2⟩ := info_parts info_bunJ
  rw [← rSort_stable]
  have H := Lib.hid h
  obtain ⟨pv, cv, rfl, _⟩ := h
  go_enter Tryz.func24, Tryz.ntmps24
  go_wp2_with fail
  go_loopg [3, 4] l.length (fun kx o x wr => ∃ i : Nat, x = .int .i64 i ∧ i ≤ l.length ∧ l.length - i ≤ kx ∧ Hid (BNew w wr o (rSort (l.take i))))
  case atStart => exact ⟨0, rfl, by omega, by omega, Lib.hid (BNew.nil w)⟩
  case round =>
    obtain ⟨i, rfl, hil, hkx, HN⟩ := hrel
    by_cases hlt : i < l.length
    · have t1 : (i : Int) < (l.length : Int) := by omega
      obtain ⟨b, hb⟩ : ∃ b, l[i]? = some b := ⟨_, List.getElem?_eq_getElem hlt⟩
      have hbin := H.out.keep HN.out.2.1
      obtain ⟨gb, ob, cb, hv, hgb, hcb⟩ := hbin.cells hb
      simp only [Value.slice.injEq, true_and] at hv
      obtain ⟨rfl, rfl⟩ := hv
      have hld := ld_of hcb
      have hsl : (rSort (l.take i)).length = i := by
        rw [rSort_stable, stableF_len]; simp; omega
      generalize hls : rSort (l.take i) = ls at *
      have HLS := Lib.hid hls
      clear hls hbin
      obtain rfl : i = ls.length := hsl.symm
      clear hsl
      obtain ⟨po, co, rfl⟩ := sl_frm HN.out.1
      have HCB := Lib.hid hcb
      clear hcb
      go_wp2_with (at_builtin; refine wpList_append_sl _ (by rfl) _ _ 37 (by rfl) 32 i0 _ 11 88 Tryz.underlying37 hi0 hz0 hz1 hz2 rfl (by omega) _ ls.length (bunCells ls) (by rfl) (HN.out.grow bg).1 ⟨_, 0, none⟩ 1 1 (bunL b) (by rfl) (by rfl) (new_cells _ _ _) (bunL_one b) (by omega) (by unfold maxLen; omega) (by omega) ?_; intro v' w4 hs4 ht4 ho4)
      have hm := (HN.out.grow bg).snoc hs4 ht4 ho4
      obtain ⟨g, off, cap, hvf, hgl, hcp⟩ := sl_some hs4
      subst hvf
      have HM := Lib.hid hm
      have hld4 := Lib.hid (fun W (hW : Below w.heap.size w W) => (H.out.keep hW).cells' hb)
      clear hs4 ht4 ho4 hm hld hgl HN
      go_wp2_with fail
      go_loopg [5] ls.length (fun kx x wr => ∃ (k : Nat) (y : Bun), x = .int .i64 k ∧ k ≤ ls.length ∧ k ≤ kx ∧ Hid (BNew w wr (.slice (some ⟨g, off, none⟩) (ls.length + 1) cap) (ls.take k ++ y :: ls.drop k)) ∧ Hid (rPos b ls k = rPos b ls ls.length))
      case atStart => exact ⟨ls.length, b, rfl, by omega, by omega, Lib.hid (by rw [List.take_length, List.drop_length]; exact HM.out), Lib.hid rfl⟩
      case round =>
        clear HM
        obtain ⟨k1, y, rfl, hk, hkx2, HM, HP⟩ := hrel
        have fin : bef b (ls.getD (k1 - 1) default) = false ∨ k1 = 0 → rPos b ls ls.length = k1 := fun h => by
          rw [← HP.out]
          cases k1 with
          | zero => rfl
          | succ k =>
            rcases h with h | h
            · unfold rPos; rw [Nat.add_sub_cancel] at h; rw [h]; rfl
            · omega
        have FIN := Lib.hid fin
        clear fin
        by_cases hk0 : 0 < k1
        · obtain ⟨k, rfl⟩ : ∃ k, k1 = k + 1 := ⟨k1 - 1, by omega⟩
          obtain ⟨c, hc⟩ : ∃ c, ls[k]? = some c := ⟨_, List.getElem?_eq_getElem (by omega)⟩
          have hkl : k < ls.length := by omega
          have e3 : ls.getD k default = c := by simp [List.getD, hc]
          have hcg : ls[k] = c := by have := List.getElem?_eq_getElem hkl; rw [hc] at this; exact (Option.some.inj this).symm
          have hmg := mid_get ls k y hkl
          rw [hcg] at hmg
          obtain ⟨lg, qc⟩ := HM.out.bin.cells' hmg
          obtain ⟨lb, qb⟩ := hld4.out wr HM.out.2.1
          have c0 := qc 0 _ rfl; have b0 := qb 0 _ rfl
          have c1 := qc 1 _ rfl; have b1 := qb 1 _ rfl
          have c2 := qc 2 _ rfl; have b2 := qb 2 _ rfl
          simp only [Nat.add_zero] at c0 b0
          have HQ := Lib.hid (And.intro hmg hcg)
          have HC := Lib.hid (And.intro hc e3)
          clear qc qb hmg hcg hc e3
          obtain ⟨x0, x1, x2, x3⟩ := ltq lg
          obtain ⟨y0, y1, y2, y3⟩ := ltq lb
          have hg0 : (0 : Int) < (k : Int) + 1 := by omega
          have ea1 : ((k : Int)).toNat = k := by omega
          have pa1 : (0 : Int) ≤ (k : Int) := by omega
          have ba1 : (k : Int) < (ls.length : Int) + 1 := by omega
          have ba2 : (k : Int) + 1 < (ls.length : Int) + 1 := by omega
          have ra1 : IntKind.i64.wrap (k : Int) = (k : Int) := by rw [IntKind.wrap_i64]; omega
          cases hbv : beforeB b.s b.i b.g c.s c.i c.g with
          | true =>
            have HBV := Lib.hid hbv
            have hbef := before_any b.s b.i b.g c.s c.i c.g
            rw [hbv] at hbef
            have HBF := Lib.hid hbef
            clear hbv hbef
            go_wp2_with fail
            refine wp_region_more (by kernel_rfl) (by kernel_rfl) ?_
            repeat (go_big_quiet_step ((first | (go_at_call 16; exact more_call (HBF.out _)))))
            refine wpQuiet_nil ?_
            rintro _ ⟨pm, rfl⟩
            have hN2 := HM.out.grow (more_below wr pm.d pm.os)
            have hst := hN2.store' (mid_len ls (k + 1) y (by omega)) (k := k + 1) (by omega) c
            have l44 := ld_of (hN2.bin.cells' HQ.out.1).2
            have s44 := hst.1
            have HST := Lib.hid hst.2
            clear hN2 hst c0 b0 c1 b1 c2 b2
            generalize more wr pm.d pm.os = W2 at *
            go_wp2_with fail
            go_roundg k
            case measure => omega
            case rel => exact ⟨k, c, by go_num, by omega, by omega, Lib.hid (by have h := HST.out; rw [← HQ.out.2, mid_step ls k y hkl] at h; rw [← HQ.out.2]; exact h), Lib.hid (by rw [← HP.out]; conv => rhs; unfold rPos; rw [HC.out.2]; rw [show bef b c = true from HBV.out, if_pos rfl])⟩
          | false =>
            have HBV := Lib.hid hbv
            have hbef := before_any b.s b.i b.g c.s c.i c.g
            rw [hbv] at hbef
            have HBF := Lib.hid hbef
            clear hbv hbef
            go_wp2_with fail
            refine wp_region_more (by kernel_rfl) (by kernel_rfl) ?_
            repeat (go_big_quiet_step ((first | (go_at_call 16; exact more_call (HBF.out _)))))
            refine wpQuiet_nil ?_
            rintro _ ⟨pm, rfl⟩
            have hN2 := HM.out.grow (more_below wr pm.d pm.os)
            have hst := hN2.store' (mid_len ls (k + 1) y (by omega)) (k := k + 1) (by omega) b
            have l44 := ld_of (hld4.out _ hN2.2.1).2
            have s44 := hst.1
            have HST := Lib.hid hst.2
            clear hN2 hst c0 b0 c1 b1 c2 b2
            generalize more wr pm.d pm.os = W2 at *
            go_wp2_with fail
            go_roundg (l.length - (ls.length + 1))
            case measure => omega
            case rel => exact ⟨ls.length + 1, by go_num, by omega, by omega, Lib.hid (by
              have e := FIN.out (.inl (by rw [Nat.add_sub_cancel, HC.out.2]; exact HBV.out))
              have h := HST.out
              rw [mid_end ls (k + 1) y b (by omega)] at h
              rw [List.take_succ_eq_append_getElem hlt, rSort_snoc, HLS.out, show l[ls.length] = b from by have := List.getElem?_eq_getElem hlt; rw [hb] at this; exact (Option.some.inj this).symm]
              unfold rIns
              rw [e]
              exact h)⟩
        · obtain rfl : k1 = 0 := by omega
          go_wp2_with fail
          refine wp_region_more (by kernel_rfl) (by kernel_rfl) ?_
          repeat (go_big_quiet_step (fail))
          refine wpQuiet_nil ?_
          rintro _ ⟨pn, rfl⟩
          have hN2 := HM.out.grow (more_below wr pn.d pn.os)
          have hst := hN2.store' (mid_len ls 0 y (by omega)) (k := 0) (by omega) b
          have l44 := ld_of (hld4.out _ hN2.2.1).2
          have s44 := hst.1
          have HST := Lib.hid hst.2
          rw [Nat.zero_mul, Nat.add_zero] at s44
          clear hN2 hst
          generalize more wr pn.d pn.os = W2 at *
          go_wp2_with fail
          go_roundg (l.length - (ls.length + 1))
          case measure => omega
          case rel => exact ⟨ls.length + 1, by go_num, by omega, by omega, Lib.hid (by
            have e := FIN.out (.inr (by simp))
            have h := HST.out
            rw [mid_end ls 0 y b (by omega), Nat.zero_mul, Nat.add_zero] at h
            rw [List.take_succ_eq_append_getElem hlt, rSort_snoc, HLS.out, show l[ls.length] = b from by have := List.getElem?_eq_getElem hlt; rw [hb] at this; exact (Option.some.inj this).symm]
            unfold rIns
            rw [e]
            exact h)⟩
    · have t1 : ¬ (i : Int) < (l.length : Int) := by omega
      obtain rfl : i = l.length := by omega
      rw [List.take_length] at HN
      go_wp2_with fail
      go_ret
      exact ⟨_, rfl, HN.out⟩
end Go.Proofs.YtoimjjhopljdmaaGreat
namespace Go.Proofs.YtoimjjhopljdmaaGreat
open Go.RowKit

def takeC (r : Int) (b c : Bun) : Bool := (!(idEq c.s c.i c.g b.s b.i b.g) && hasB c.m 8) && decide (farF b.x b.y c.x c.y ≤ r)
def takesF (r : Int) (b : Bun) : Int → List Bun → Int
  | n, [] => n
  | n, c :: l => takesF r b (if takeC r b c then addF n c.pw else n) l
structure Hit where
  (s i g n : Int)
  deriving DecidableEq
def hitL (h : Hit) : List Value := [.int .i64 h.s, .int .i64 h.i, .int .i64 h.g, .int .i64 h.n]
theorem hitL_len (h : Hit) : (hitL h).length = 4 := rfl
theorem hitL_one (h : Hit) : ∀ v ∈ hitL h, v.oneCell' = true := fun v hv => by
  simp [hitL] at hv
  rcases hv with rfl | rfl | rfl | rfl <;> rfl
def hitOf (r : Int) (own oth : List Bun) (b : Bun) : Option Hit :=
  if hasB b.m 4 then (if 0 < takesF r b (takesF r b 0 own) oth then some ⟨b.s, b.i, b.g, takesF r b (takesF r b 0 own) oth⟩ else none) else none
def hitsF (r : Int) (own oth : List Bun) : List Hit := (stableF cmpBun own).filterMap (hitOf r own oth)

theorem info_hitJ : (Tryz.prog.info? 149).map (fun i => (i.zero, i.size, i.bytes)) = some (some (.agg #[.int .i64 0, .int .i64 0, .int .i64 0, .int .i64 0]), 4, 32) := by kernel_rfl

def sumAt (r : Int) (b : Bun) (l1 l2 : List Bun) (j : Nat) : Int := if j = 0 then 0 else if j = 1 then takesF r b 0 l1 else takesF r b (takesF r b 0 l1) l2


set_option maxRecDepth 100000 in
set_option maxHeartbeats 2000000 in
theorem hits_any (r : Int) (v1 v2 : Value) (l1 l2 : List Bun) (w : World) (h1 : BIn w v1 l1) (h2 : BIn w v2 l2) (hl1 : l1.length ≤ 1000) (hl2 : l2.length ≤ 1000) :
    Calls Tryz.prog 97 #[.int .i64 r, v1, v2] w fun e w' => ∃ v', e = .returned v' ∧ RNew hitL 149 4 w w' v' (hitsF r l1 l2) := by
  obtain ⟨i0, hi0, hz0, hz1, hz2⟩ := info_parts info_hitJ
  have H1 := Lib.hid h1
  have H2 := Lib.hid h2
  have hso := sorted_any v1 l1 w h1 (by omega)
  unfold hitsF
  generalize hls : stableF cmpBun l1 = ls at *
  have hlsn : ls.length ≤ 1000 := by rw [← hls, stableF_len]; exact hl1
  have HSO := Lib.hid hso
  clear hso hls
  obtain ⟨p1, e1, rfl, _⟩ := h1
  obtain ⟨p2, e2, rfl, _⟩ := h2
  go_enter Tryz.func97, Tryz.ntmps97
  go_wp2_with fail
  refine HSO.out.mono ?_
  rintro e w1 ⟨vs, rfl, hS⟩
  obtain ⟨ps, cs, rfl⟩ := sl_frm hS.1
  have HS := Lib.hid hS
  have hsz1 := hS.2.1.size
  clear hS
  go_wp2_with fail
  go_loopg [18, 7] ls.length (fun kx x o wr => ∃ k : Nat, x = .int .i64 k ∧ k ≤ ls.length ∧ ls.length - k ≤ kx ∧ Hid (Below w1.heap.size w1 wr) ∧ Hid (RNew hitL 149 4 w1 wr o ((ls.take k).filterMap (hitOf r l1 l2))) ∧ Hid (((ls.take k).filterMap (hitOf r l1 l2)).length ≤ k))
  case atStart => exact ⟨0, by go_num, by omega, by omega, Lib.hid (Below.refl _ _), Lib.hid (RNew.nil w1), Lib.hid (Nat.le_refl _)⟩
  case round =>
    obtain ⟨k, rfl, hk, hkx, HW, HN, HNL⟩ := hrel
    obtain ⟨wa, rfl⟩ : ∃ wa : World, wa = wr := ⟨_, rfl⟩
    by_cases hlt : k < ls.length
    · have t1 : (k : Int) < (ls.length : Int) := by omega
      obtain ⟨b, hb⟩ : ∃ b, ls[k]? = some b := ⟨_, List.getElem?_eq_getElem hlt⟩
      obtain ⟨gb, ob, cb, hv, hgb, hcb⟩ := (HS.out.bin.keep HW.out).cells hb
      simp only [Value.slice.injEq, true_and] at hv
      obtain ⟨rfl, rfl⟩ := hv
      have c0 := hcb 0 _ rfl
      have c1 := hcb 1 _ rfl
      have c2 := hcb 2 _ rfl
      have c3 := hcb 3 _ rfl
      have c4 := hcb 4 _ rfl
      have c5 := hcb 5 _ rfl
      have c6 := hcb 6 _ rfl
      have c7 := hcb 7 _ rfl
      have c8 := hcb 8 _ rfl
      have c9 := hcb 9 _ rfl
      have c10 := hcb 10 _ rfl
      simp only [Nat.add_zero] at c0
      obtain ⟨po, co, rfl⟩ := sl_frm HN.out.1
      have hstep : (ls.take (k + 1)).filterMap (hitOf r l1 l2) = (ls.take k).filterMap (hitOf r l1 l2) ++ (hitOf r l1 l2 b).toList := by
        rw [List.take_succ_eq_append_getElem hlt, List.filterMap_append, show ls[k] = b from by have := List.getElem?_eq_getElem hlt; rw [hb] at this; exact (Option.some.inj this).symm]
        cases hh : hitOf r l1 l2 b <;> simp [hh]
      have HST := Lib.hid hstep
      clear hstep hcb hb
      generalize hacc : (ls.take k).filterMap (hitOf r l1 l2) = acc at *
      have hal := HNL.out
      have HAC := Lib.hid hacc
      clear hacc HNL
      obtain ⟨s, i, g, m, x, y, vx, vy, hp, pw, lf⟩ := b
      cases hlife : hasB m 4 with
      | false =>
        have he : hitOf r l1 l2 ⟨s, i, g, m, x, y, vx, vy, hp, pw, lf⟩ = none := by unfold hitOf; simp [hlife]
        rw [he] at HST
        have HE := Lib.hid HST.out
        clear he HST
        go_wp2_with (go_at_call 136; refine (has_any _ _ _ _ _ _ _ _ _ _ _ _ _).mono ?_; rintro e w' ⟨rfl, hb⟩; obtain ⟨d, os, rfl⟩ := more_of hb; clear hb)
        go_roundg (ls.length - (k + 1))
        case measure => omega
        case rel => exact ⟨k + 1, by go_num, by omega, by omega, Lib.hid (HW.out.trans (Below.mono (B := wa.heap.size) bg HW.out.size)), Lib.hid (by rw [HE.out]; simpa using HN.out.grow bg), Lib.hid (by rw [HE.out]; simp; omega)⟩
      | true =>
        go_wp2_with (go_at_call 136; refine (has_any _ _ _ _ _ _ _ _ _ _ _ _ _).mono ?_; rintro e w' ⟨rfl, hb⟩; obtain ⟨d, os, rfl⟩ := more_of hb; clear hb)
        go_loopg [29, 10] 2 (fun kx sx sn wr2 => ∃ j : Nat, sx = .int .i64 j ∧ j ≤ 2 ∧ 2 - j ≤ kx ∧ sn = .int .i64 (sumAt r ⟨s, i, g, m, x, y, vx, vy, hp, pw, lf⟩ l1 l2 j) ∧ Hid (Below wa.heap.size wa wr2) ∧ Hid (∀ t, wr2.cell? ⟨wa.heap.size, t, none⟩ = (#[.int .i64 s, .int .i64 i, .int .i64 g, .int .i64 m, .int .i64 x, .int .i64 y, .int .i64 vx, .int .i64 vy, .int .i64 hp, .int .i64 pw, .int .i64 lf] : Array Value)[t]?) ∧
          Hid (∀ t, wr2.cell? ⟨wa.heap.size + 1 + os.size, t, none⟩ = (#[.slice p1 l1.length e1, .slice p2 l2.length e2] : Array Value)[t]?) ∧ wa.heap.size + 1 + os.size < wr2.heap.size)
        case atStart => exact ⟨0, by go_num, by omega, by omega, rfl, Lib.hid bg, Lib.hid (fun t => by simp [go_sem]), Lib.hid (fun t => by simp [go_sem]), by simp⟩
        case round =>
          obtain ⟨j, rfl, hj, hkx2, rfl, HW2, HB2, HS2, hsz2⟩ := hrel
          obtain ⟨wb, rfl⟩ : ∃ wb : World, wb = wr := ⟨_, rfl⟩
          generalize hSB : wa.heap.size + 1 + os.size = SB at *
          have hSB1 : wa.heap.size < SB := by omega
          by_cases hlt2 : j < 2
          · have t2 : (j : Int) < 2 := by omega
            obtain ⟨pk, ck, lk, hcell, hbin, hsum, hlk⟩ : ∃ pk ck lk, (#[.slice p1 l1.length e1, .slice p2 l2.length e2] : Array Value)[j]? = some (.slice pk (lk : List Bun).length ck) ∧ BIn w (.slice pk lk.length ck) lk ∧ sumAt r ⟨s, i, g, m, x, y, vx, vy, hp, pw, lf⟩ l1 l2 (j + 1) = takesF r ⟨s, i, g, m, x, y, vx, vy, hp, pw, lf⟩ (sumAt r ⟨s, i, g, m, x, y, vx, vy, hp, pw, lf⟩ l1 l2 j) lk ∧ lk.length ≤ 1000 := by
              rcases (show j = 0 ∨ j = 1 by omega) with rfl | rfl
              · exact ⟨p1, e1, l1, rfl, H1.out, rfl, hl1⟩
              · exact ⟨p2, e2, l2, rfl, H2.out, rfl, hl2⟩
            have hq := (HS2.out j).trans hcell
            have HSM := Lib.hid hsum
            have HBK := Lib.hid hbin
            clear hcell hsum hbin
            go_wp2_with fail
            go_loopg [35, 10] lk.length (fun kx sx sn wr3 => ∃ (t : Nat) (q : Int), sx = .int .i64 t ∧ sn = .int .i64 q ∧ t ≤ lk.length ∧ lk.length - t ≤ kx ∧ Hid (takesF r ⟨s, i, g, m, x, y, vx, vy, hp, pw, lf⟩ q (lk.drop t) = sumAt r ⟨s, i, g, m, x, y, vx, vy, hp, pw, lf⟩ l1 l2 (j + 1)) ∧ Hid (Below wb.heap.size wb wr3))
            case atStart => exact ⟨0, _, by go_num, rfl, by omega, by omega, Lib.hid HSM.out.symm, Lib.hid (Below.refl _ _)⟩
            case round =>
              clear hq HSM
              obtain ⟨t, q, rfl, rfl, ht, hkx3, HF, HW3⟩ := hrel
              obtain ⟨wc, rfl⟩ : ∃ wc : World, wc = wr := ⟨_, rfl⟩
              by_cases hlt3 : t < lk.length
              · have t3 : (t : Int) < (lk.length : Int) := by omega
                obtain ⟨c, hc⟩ : ∃ c, lk[t]? = some c := ⟨_, List.getElem?_eq_getElem hlt3⟩
                have hsz3 := HW3.out.size
                have hsw := HW2.out.size
                have hws := HW.out.size
                have hsw1 := HS.out.2.1.size
                obtain ⟨gc, oc, cc, hv, hgc, hcc⟩ := (HBK.out.keep ((HS.out.2.1.trans ((HW.out.trans ((HW2.out.trans (HW3.out.mono hsw)).mono hws)).mono hsw1)))).cells hc
                simp only [Value.slice.injEq, true_and] at hv
                obtain ⟨rfl, rfl⟩ := hv
                have u0 := hcc 0 _ rfl
                have u1 := hcc 1 _ rfl
                have u2 := hcc 2 _ rfl
                have u3 := hcc 3 _ rfl
                have u4 := hcc 4 _ rfl
                have u5 := hcc 5 _ rfl
                have u6 := hcc 6 _ rfl
                have u7 := hcc 7 _ rfl
                have u8 := hcc 8 _ rfl
                have u9 := hcc 9 _ rfl
                have u10 := hcc 10 _ rfl
                simp only [Nat.add_zero] at u0
                have y0 := (HW3.out.cell (p := ⟨wa.heap.size, 0, none⟩) (by simp only; omega)).trans (HB2.out 0); simp at y0
                have y1 := (HW3.out.cell (p := ⟨wa.heap.size, 1, none⟩) (by simp only; omega)).trans (HB2.out 1); simp at y1
                have y2 := (HW3.out.cell (p := ⟨wa.heap.size, 2, none⟩) (by simp only; omega)).trans (HB2.out 2); simp at y2
                have y4 := (HW3.out.cell (p := ⟨wa.heap.size, 4, none⟩) (by simp only; omega)).trans (HB2.out 4); simp at y4
                have y5 := (HW3.out.cell (p := ⟨wa.heap.size, 5, none⟩) (by simp only; omega)).trans (HB2.out 5); simp at y5
                have hq := HF.out
                rw [List.drop_eq_getElem_cons hlt3, show lk[t] = c from by have := List.getElem?_eq_getElem hlt3; rw [hc] at this; exact (Option.some.inj this).symm] at hq
                simp only [takesF] at hq
                have HQ := Lib.hid hq
                have hB3 : wa.heap.size < wc.heap.size := by omega
                obtain ⟨z0, z1, z2, z3⟩ := ltq hB3
                clear hq hcc hc HF
                obtain ⟨s', i', g', m', x', y', vx', vy', hp', pw', lf'⟩ := c
                cases h1 : idEq s' i' g' s i g with
                | true =>
                  have ht : takeC r ⟨s, i, g, m, x, y, vx, vy, hp, pw, lf⟩ ⟨s', i', g', m', x', y', vx', vy', hp', pw', lf'⟩ = false := by unfold takeC; simp only; rw [h1]; rfl
                  have HT := Lib.hid ht
                  clear ht
                  go_wp2_with (first | (go_at_call 136; refine (has_any _ _ _ _ _ _ _ _ _ _ _ _ _).mono ?_; rintro e w' ⟨rfl, hb⟩; obtain ⟨d, os, rfl⟩ := more_of hb; clear hb) | (go_at_call 137; refine (far_any _ _ _ _ _).mono ?_; rintro e w' ⟨rfl, rfl⟩))
                  go_roundg (lk.length - (t + 1))
                  case measure => omega
                  case rel => exact ⟨t + 1, q, by go_num, rfl, by omega, by omega, Lib.hid (by have h := HQ.out; rw [HT.out] at h; exact h), Lib.hid (HW3.out.trans (Below.mono (B := wc.heap.size) bg HW3.out.size))⟩
                | false =>
                  cases h2 : hasB m' 8 with
                  | false =>
                    have ht : takeC r ⟨s, i, g, m, x, y, vx, vy, hp, pw, lf⟩ ⟨s', i', g', m', x', y', vx', vy', hp', pw', lf'⟩ = false := by unfold takeC; simp only; rw [h1, h2]; rfl
                    have HT := Lib.hid ht
                    clear ht
                    go_wp2_with (first | (go_at_call 136; refine (has_any _ _ _ _ _ _ _ _ _ _ _ _ _).mono ?_; rintro e w' ⟨rfl, hb⟩; obtain ⟨d, os, rfl⟩ := more_of hb; clear hb) | (go_at_call 137; refine (far_any _ _ _ _ _).mono ?_; rintro e w' ⟨rfl, rfl⟩))
                    go_roundg (lk.length - (t + 1))
                    case measure => omega
                    case rel => exact ⟨t + 1, q, by go_num, rfl, by omega, by omega, Lib.hid (by have h := HQ.out; rw [HT.out] at h; exact h), Lib.hid (HW3.out.trans (Below.mono (B := wc.heap.size) bg HW3.out.size))⟩
                  | true =>
                    cases h3 : decide (farF x y x' y' ≤ r) with
                    | false =>
                      have ht : takeC r ⟨s, i, g, m, x, y, vx, vy, hp, pw, lf⟩ ⟨s', i', g', m', x', y', vx', vy', hp', pw', lf'⟩ = false := by unfold takeC; simp only; rw [h1, h2, h3]; rfl
                      have HT := Lib.hid ht
                      clear ht
                      go_wp2_with (first | (go_at_call 136; refine (has_any _ _ _ _ _ _ _ _ _ _ _ _ _).mono ?_; rintro e w' ⟨rfl, hb⟩; obtain ⟨d, os, rfl⟩ := more_of hb; clear hb) | (go_at_call 137; refine (far_any _ _ _ _ _).mono ?_; rintro e w' ⟨rfl, rfl⟩))
                      go_roundg (lk.length - (t + 1))
                      case measure => omega
                      case rel => exact ⟨t + 1, q, by go_num, rfl, by omega, by omega, Lib.hid (by have h := HQ.out; rw [HT.out] at h; exact h), Lib.hid (HW3.out.trans (Below.mono (B := wc.heap.size) bg HW3.out.size))⟩
                    | true =>
                      have ht : takeC r ⟨s, i, g, m, x, y, vx, vy, hp, pw, lf⟩ ⟨s', i', g', m', x', y', vx', vy', hp', pw', lf'⟩ = true := by unfold takeC; simp only; rw [h1, h2, h3]; rfl
                      have HT := Lib.hid ht
                      clear ht
                      go_wp2_with (first | (go_at_call 136; refine (has_any _ _ _ _ _ _ _ _ _ _ _ _ _).mono ?_; rintro e w' ⟨rfl, hb⟩; obtain ⟨d, os, rfl⟩ := more_of hb; clear hb) | (go_at_call 137; refine (far_any _ _ _ _ _).mono ?_; rintro e w' ⟨rfl, rfl⟩) | (go_at_call 138; refine (add_any _ _ _ _ (by simp [go_sem]; rfl) (by simp [go_sem]; rfl)).mono ?_; rintro e w' ⟨rfl, rfl⟩))
                      go_roundg (lk.length - (t + 1))
                      case measure => omega
                      case rel => exact ⟨t + 1, _, by go_num, rfl, by omega, by omega, Lib.hid (by have h := HQ.out; rw [HT.out] at h; exact h), Lib.hid (HW3.out.trans (Below.mono (B := wc.heap.size) bg HW3.out.size))⟩
              · have t3 : ¬ (t : Int) < (lk.length : Int) := by omega
                obtain rfl : t = lk.length := by omega
                have hq := HF.out
                rw [List.drop_length] at hq
                simp only [takesF] at hq
                have HQ := Lib.hid hq
                clear hq HF
                go_wp2_with fail
                go_roundg (2 - (j + 1))
                case measure => omega
                case rel => exact ⟨j + 1, by go_num, by omega, by omega, by rw [← HQ.out], Lib.hid (HW2.out.trans (HW3.out.mono HW2.out.size)), Lib.hid (fun u => (HW3.out.cell (p := ⟨wa.heap.size, u, none⟩) (by simp only; omega)).trans (HB2.out u)), Lib.hid (fun u => (HW3.out.cell (p := ⟨SB, u, none⟩) (by simp only; omega)).trans (HS2.out u)), by have := HW3.out.size; omega⟩
          · obtain rfl : j = 2 := by omega
            have hs2 : sumAt r ⟨s, i, g, m, x, y, vx, vy, hp, pw, lf⟩ l1 l2 2 = takesF r ⟨s, i, g, m, x, y, vx, vy, hp, pw, lf⟩ (takesF r ⟨s, i, g, m, x, y, vx, vy, hp, pw, lf⟩ 0 l1) l2 := rfl
            have hho : hitOf r l1 l2 ⟨s, i, g, m, x, y, vx, vy, hp, pw, lf⟩ = if 0 < sumAt r ⟨s, i, g, m, x, y, vx, vy, hp, pw, lf⟩ l1 l2 2 then some ⟨s, i, g, sumAt r ⟨s, i, g, m, x, y, vx, vy, hp, pw, lf⟩ l1 l2 2⟩ else none := by
              rw [hs2]; unfold hitOf; simp only; rw [hlife, if_pos rfl]
            have HHO := Lib.hid hho
            clear hs2 hho
            generalize sumAt r ⟨s, i, g, m, x, y, vx, vy, hp, pw, lf⟩ l1 l2 2 = n at *
            have hbw : Below w1.heap.size w1 wb := HW.out.trans (HW2.out.mono HW.out.size)
            have HBW := Lib.hid hbw
            have hnb := HN.out.grow HW2.out
            have HNB := Lib.hid hnb
            have y0 := HB2.out 0; simp at y0
            have y1 := HB2.out 1; simp at y1
            have y2 := HB2.out 2; simp at y2
            have hB3 : wa.heap.size < wb.heap.size := by omega
            obtain ⟨z0, z1, z2, z3⟩ := ltq hB3
            clear hbw hnb HB2 HS2
            by_cases hn : 0 < n
            · have hho := HHO.out
              rw [if_pos hn] at hho
              rw [hho] at HST
              have HST2 := Lib.hid HST.out
              clear hho HST HHO
              go_wp2_with (at_builtin; refine wpList_append_sl _ (by rfl) _ _ 97 (by rfl) 149 i0 _ 4 32 Tryz.underlying97 hi0 hz0 hz1 hz2 rfl (by omega) _ acc.length (cellsR hitL acc) (by rfl) (HNB.out.grow bg).1 ⟨_, 0, none⟩ 1 1 (hitL ⟨s, i, g, n⟩) (by rfl) (by rfl) (new_cells _ _ _) (hitL_one _) (by omega) (by unfold maxLen; omega) (by omega) ?_; intro v' w4 hs4 ht4 ho4)
              have hm := (HNB.out.grow bg).snoc hs4 ht4 ho4
              have HM := Lib.hid hm
              clear hs4 ht4 ho4 hm
              go_roundg (ls.length - (k + 1))
              case measure => omega
              case rel => exact ⟨k + 1, by go_num, by omega, by omega, Lib.hid HM.out.2.1, Lib.hid (by rw [HST2.out]; simpa using HM.out), Lib.hid (by rw [HST2.out]; simp; omega)⟩
            · have hho := HHO.out
              rw [if_neg hn] at hho
              rw [hho] at HST
              have HST2 := Lib.hid HST.out
              clear hho HST HHO
              go_wp2_with fail
              go_roundg (ls.length - (k + 1))
              case measure => omega
              case rel => exact ⟨k + 1, by go_num, by omega, by omega, Lib.hid HBW.out, Lib.hid (by rw [HST2.out]; simpa using HNB.out), Lib.hid (by rw [HST2.out]; simp; omega)⟩
    · have t1 : ¬ (k : Int) < (ls.length : Int) := by omega
      obtain rfl : k = ls.length := by omega
      rw [List.take_length] at HN
      go_wp2_with fail
      go_ret
      exact ⟨_, rfl, HN.out.since HS.out.2.1⟩
end Go.Proofs.YtoimjjhopljdmaaGreat
