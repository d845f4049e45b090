/-
  Chapter texts SoM SoO: what the claim reaches of them. Conditions stand at each theorem.
-/
import Derived.ChangeSlices
import Derived.Test.YtmkfjelpekkmmaaQ05
import Derived.Test.YtmkfjelpekkmmaaQ21
import Derived.Test.YtmkfjelpekkmmaaQ04
import Derived.Test.YtmkfjelpekkmmaaQ11
namespace Go.Proofs.Ytmkfjelpekkmmaa
open Go.RowKit Go.Sort

theorem sl_some {w : World} {e : TypeId} {size : Nat} {v : Value} {n : Nat} {xs : List Value} (h : Sl w e size v (n + 1) xs) : ∃ g off cap, v = .slice (some ⟨g, off, none⟩) (n + 1) cap ∧ g < w.heap.size ∧ n + 1 ≤ cap := by
  obtain ⟨_, ⟨_, h0⟩ | ⟨g, off, cap, cur, rfl, hb, hn, _⟩⟩ := h
  · omega
  · exact ⟨g, off, cap, rfl, (Array.getElem?_eq_some_iff.1 hb).1, hn⟩
theorem mid_step (l : List Bun) (k : Nat) (y : Bun) (hk : k < l.length) : (l.take (k + 1) ++ y :: l.drop (k + 1)).set (k + 1) l[k] = l.take k ++ l[k] :: l.drop k := by
  have e : (l.take (k + 1)).length = k + 1 := by simp; omega
  rw [List.set_append_right _ _ (by omega), e, Nat.sub_self, List.set_cons_zero, List.take_succ_eq_append_getElem hk, List.append_assoc, List.singleton_append, List.drop_eq_getElem_cons hk]
theorem mid_end (l : List Bun) (k : Nat) (y x : Bun) (hk : k ≤ l.length) : (l.take k ++ y :: l.drop k).set k x = l.take k ++ x :: l.drop k := by
  have e : (l.take k).length = k := by simp; omega
  rw [List.set_append_right _ _ (by omega), e, Nat.sub_self, List.set_cons_zero]
theorem mid_get (l : List Bun) (k : Nat) (y : Bun) (hk : k < l.length) : (l.take (k + 1) ++ y :: l.drop (k + 1))[k]? = some l[k] := by
  rw [List.getElem?_append_left (by simp; omega), List.getElem?_take_of_lt (by omega), List.getElem?_eq_getElem hk]
theorem mid_len (l : List Bun) (k : Nat) (y : Bun) (hk : k ≤ l.length) : (l.take k ++ y :: l.drop k).length = l.length + 1 := by simp; omega

theorem ltq {a W : Nat} (h : a < W) : a < W + 1 ∧ (∀ n, a < W + 1 + n) ∧ (∀ n m, a < W + 1 + n + m) ∧ (∀ n m q, a < W + 1 + n + m + q) := ⟨by omega, fun _ => by omega, fun _ _ => by omega, fun _ _ _ => by omega⟩
theorem BNew.store' {w0 w : World} {blk off cap n : Nat} {l : List Bun} (h : BNew w0 w (.slice (some ⟨blk, off, none⟩) n cap) l) (hn : l.length = n) {k : Nat} (hk : k < n) (b : Bun) :
    (stB ⟨blk, off + k * 11, none⟩ b.v).run Try.prog w = .ok () (w.setCells blk (off + k * 11) (bunL b)) ∧ BNew w0 (w.setCells blk (off + k * 11) (bunL b)) (.slice (some ⟨blk, off, none⟩) n cap) (l.set k b) := by
  subst hn
  exact h.store hk b
theorem BIn.cells' {w : World} {blk off n cap : Nat} {l : List Bun} (h : BIn w (.slice (some ⟨blk, off, none⟩) n cap) l) {k : Nat} {b : Bun} (hk : l[k]? = some b) : blk < w.heap.size ∧ ∀ j u, (bunL b)[j]? = some u → w.cell? ⟨blk, off + k * 11 + j, none⟩ = some u := by
  obtain ⟨g, o, c, hv, h1, h2⟩ := h.cells hk
  simp only [Value.slice.injEq, Option.some.injEq, Addr.mk.injEq, and_true] at hv
  obtain ⟨⟨rfl, rfl⟩, _, _⟩ := hv
  exact ⟨h1, h2⟩
attribute [local go_sem ↓] loadVar_ldB storeVar_stB

set_option maxRecDepth 100000 in
set_option maxHeartbeats 4000000 in
theorem rsorted_any (v : Value) (l : List Bun) (w : World) (h : BIn w v l) (hl : l.length ≤ 1000000) :
    Calls Try.prog 54 #[v] w fun e w' => ∃ v', e = .returned v' ∧ BNew w w' v' (stableF cmpBun l) := by
  have mixed : Try.prog.follows .mixedOrders = true := by kernel_rfl
  obtain ⟨i0, hi0, hz0, hz1, hz2⟩ := info_parts info_bunJ
  rw [← rSort_stable]
  have H := Lib.hid h
  obtain ⟨pv, cv, rfl, _⟩ := h
  go_enter Try.func54, Try.ntmps54
  go_wp2_with fail
  go_loopg [3, 4] l.length (fun kx o x wr => ∃ i : Nat, x = .int .i64 i ∧ i ≤ l.length ∧ l.length - i ≤ kx ∧ Hid (BNew w wr o (rSort (l.take i))))
  case atStart => exact ⟨0, rfl, by omega, by omega, Lib.hid (BNew.nil w)⟩
  case round =>
    obtain ⟨i, rfl, hil, hkx, HN⟩ := hrel
    by_cases hlt : i < l.length
    · have t1 : (i : Int) < (l.length : Int) := by omega
      obtain ⟨b, hb⟩ : ∃ b, l[i]? = some b := ⟨_, List.getElem?_eq_getElem hlt⟩
      have hbin := H.out.keep HN.out.2.1
      obtain ⟨gb, ob, cb, hv, hgb, hcb⟩ := hbin.cells hb
      simp only [Value.slice.injEq, true_and] at hv
      obtain ⟨rfl, rfl⟩ := hv
      have hld := ld_of hcb
      have hsl : (rSort (l.take i)).length = i := by
        rw [rSort_stable, stableF_len]; simp; omega
      generalize hls : rSort (l.take i) = ls at *
      have HLS := Lib.hid hls
      clear hls hbin
      obtain rfl : i = ls.length := hsl.symm
      clear hsl
      obtain ⟨po, co, rfl⟩ := sl_frm HN.out.1
      have HCB := Lib.hid hcb
      clear hcb
      go_wp2_with (at_builtin; refine wpList_append_sl _ (by rfl) _ _ 29 (by rfl) 51 i0 _ 11 88 Try.underlying29 hi0 hz0 hz1 hz2 rfl (by omega) _ ls.length (bunCells ls) (by rfl) (HN.out.grow (by repeat' (first | (with_reducible exact Below.refl _ _) | (with_reducible assumption) | (with_reducible refine below_drewN ?_ _) | (with_reducible refine below_more _ _ _ ?_ ?_) | (with_reducible refine Below.alloc ?_ ?_ _) | (with_reducible refine Below.drew ?_) | (with_reducible refine Below.setCell ?_ ?_ _) | go_size))).1 ⟨_, 0, none⟩ 1 1 (bunL b) (by rfl) (by rfl) (new_cells _ _ _) (bunL_one b) (by omega) (by unfold maxLen; omega) (by omega) ?_; intro v' w4 hs4 ht4 ho4)
      have hm := (HN.out.grow (by repeat' (first | (with_reducible exact Below.refl _ _) | (with_reducible assumption) | (with_reducible refine below_drewN ?_ _) | (with_reducible refine below_more _ _ _ ?_ ?_) | (with_reducible refine Below.alloc ?_ ?_ _) | (with_reducible refine Below.drew ?_) | (with_reducible refine Below.setCell ?_ ?_ _) | go_size))).snoc hs4 ht4 ho4
      obtain ⟨g, off, cap, hvf, hgl, hcp⟩ := sl_some hs4
      subst hvf
      have HM := Lib.hid hm
      have hld4 := Lib.hid (fun W (hW : Below w.heap.size w W) => (H.out.keep hW).cells' hb)
      clear hs4 ht4 ho4 hm hld hgl HN
      go_wp2_with fail
      go_loopg [5] ls.length (fun kx x wr => ∃ (k : Nat) (y : Bun), x = .int .i64 k ∧ k ≤ ls.length ∧ k ≤ kx ∧ Hid (BNew w wr (.slice (some ⟨g, off, none⟩) (ls.length + 1) cap) (ls.take k ++ y :: ls.drop k)) ∧ Hid (rPos b ls k = rPos b ls ls.length))
      case atStart => exact ⟨ls.length, b, rfl, by omega, by omega, Lib.hid (by rw [List.take_length, List.drop_length]; exact HM.out), Lib.hid rfl⟩
      case round =>
        clear HM
        obtain ⟨k1, y, rfl, hk, hkx2, HM, HP⟩ := hrel
        have fin : bef b (ls.getD (k1 - 1) default) = false ∨ k1 = 0 → rPos b ls ls.length = k1 := fun h => by
          rw [← HP.out]
          cases k1 with
          | zero => rfl
          | succ k =>
            rcases h with h | h
            · unfold rPos; rw [Nat.add_sub_cancel] at h; rw [h]; rfl
            · omega
        have FIN := Lib.hid fin
        clear fin
        by_cases hk0 : 0 < k1
        · obtain ⟨k, rfl⟩ : ∃ k, k1 = k + 1 := ⟨k1 - 1, by omega⟩
          obtain ⟨c, hc⟩ : ∃ c, ls[k]? = some c := ⟨_, List.getElem?_eq_getElem (by omega)⟩
          have hkl : k < ls.length := by omega
          have e3 : ls.getD k default = c := by simp [List.getD, hc]
          have hcg : ls[k] = c := by have := List.getElem?_eq_getElem hkl; rw [hc] at this; exact (Option.some.inj this).symm
          have hmg := mid_get ls k y hkl
          rw [hcg] at hmg
          obtain ⟨lg, qc⟩ := HM.out.bin.cells' hmg
          obtain ⟨lb, qb⟩ := hld4.out wr HM.out.2.1
          have c0 := qc 0 _ rfl; have b0 := qb 0 _ rfl
          have c1 := qc 1 _ rfl; have b1 := qb 1 _ rfl
          have c2 := qc 2 _ rfl; have b2 := qb 2 _ rfl
          simp only [Nat.add_zero] at c0 b0
          have HQ := Lib.hid (And.intro hmg hcg)
          have HC := Lib.hid (And.intro hc e3)
          clear qc qb hmg hcg hc e3
          obtain ⟨x0, x1, x2, x3⟩ := ltq lg
          obtain ⟨y0, y1, y2, y3⟩ := ltq lb
          have hg0 : (0 : Int) < (k : Int) + 1 := by omega
          have ea1 : ((k : Int)).toNat = k := by omega
          have pa1 : (0 : Int) ≤ (k : Int) := by omega
          have ba1 : (k : Int) < (ls.length : Int) + 1 := by omega
          have ba2 : (k : Int) + 1 < (ls.length : Int) + 1 := by omega
          have ra1 : IntKind.i64.wrap (k : Int) = (k : Int) := by rw [IntKind.wrap_i64]; omega
          cases hbv : beforeB b.s b.i b.g c.s c.i c.g with
          | true =>
            have HBV := Lib.hid hbv
            have hbef := before_any b.s b.i b.g c.s c.i c.g
            rw [hbv] at hbef
            have HBF := Lib.hid hbef
            clear hbv hbef
            go_wp2_with fail
            refine wp_region_more (by kernel_rfl) (by kernel_rfl) ?_
            repeat (go_big_quiet_step ((first | (go_at_call 65; exact more_call (HBF.out _)))))
            refine wpQuiet_nil ?_
            rintro _ ⟨pm, rfl⟩
            have hN2 := HM.out.grow (more_below wr pm.d pm.os)
            have hst := hN2.store' (mid_len ls (k + 1) y (by omega)) (k := k + 1) (by omega) c
            have l44 := ld_of (hN2.bin.cells' HQ.out.1).2
            have s44 := hst.1
            have HST := Lib.hid hst.2
            clear hN2 hst c0 b0 c1 b1 c2 b2
            generalize more wr pm.d pm.os = W2 at *
            go_wp2_with fail
            go_roundg k
            case measure => omega
            case rel => exact ⟨k, c, by go_num, by omega, by omega, Lib.hid (by have h := HST.out; rw [← HQ.out.2, mid_step ls k y hkl] at h; rw [← HQ.out.2]; exact h), Lib.hid (by rw [← HP.out]; conv => rhs; unfold rPos; rw [HC.out.2]; rw [show bef b c = true from HBV.out, if_pos rfl])⟩
          | false =>
            have HBV := Lib.hid hbv
            have hbef := before_any b.s b.i b.g c.s c.i c.g
            rw [hbv] at hbef
            have HBF := Lib.hid hbef
            clear hbv hbef
            go_wp2_with fail
            refine wp_region_more (by kernel_rfl) (by kernel_rfl) ?_
            repeat (go_big_quiet_step ((first | (go_at_call 65; exact more_call (HBF.out _)))))
            refine wpQuiet_nil ?_
            rintro _ ⟨pm, rfl⟩
            have hN2 := HM.out.grow (more_below wr pm.d pm.os)
            have hst := hN2.store' (mid_len ls (k + 1) y (by omega)) (k := k + 1) (by omega) b
            have l44 := ld_of (hld4.out _ hN2.2.1).2
            have s44 := hst.1
            have HST := Lib.hid hst.2
            clear hN2 hst c0 b0 c1 b1 c2 b2
            generalize more wr pm.d pm.os = W2 at *
            go_wp2_with fail
            go_roundg (l.length - (ls.length + 1))
            case measure => omega
            case rel => exact ⟨ls.length + 1, by go_num, by omega, by omega, Lib.hid (by
              have e := FIN.out (.inl (by rw [Nat.add_sub_cancel, HC.out.2]; exact HBV.out))
              have h := HST.out
              rw [mid_end ls (k + 1) y b (by omega)] at h
              rw [List.take_succ_eq_append_getElem hlt, rSort_snoc, HLS.out, show l[ls.length] = b from by have := List.getElem?_eq_getElem hlt; rw [hb] at this; exact (Option.some.inj this).symm]
              unfold rIns
              rw [e]
              exact h)⟩
        · obtain rfl : k1 = 0 := by omega
          go_wp2_with fail
          refine wp_region_more (by kernel_rfl) (by kernel_rfl) ?_
          repeat (go_big_quiet_step (fail))
          refine wpQuiet_nil ?_
          rintro _ ⟨pn, rfl⟩
          have hN2 := HM.out.grow (more_below wr pn.d pn.os)
          have hst := hN2.store' (mid_len ls 0 y (by omega)) (k := 0) (by omega) b
          have l44 := ld_of (hld4.out _ hN2.2.1).2
          have s44 := hst.1
          have HST := Lib.hid hst.2
          rw [Nat.zero_mul, Nat.add_zero] at s44
          clear hN2 hst
          generalize more wr pn.d pn.os = W2 at *
          go_wp2_with fail
          go_roundg (l.length - (ls.length + 1))
          case measure => omega
          case rel => exact ⟨ls.length + 1, by go_num, by omega, by omega, Lib.hid (by
            have e := FIN.out (.inr (by simp))
            have h := HST.out
            rw [mid_end ls 0 y b (by omega), Nat.zero_mul, Nat.add_zero] at h
            rw [List.take_succ_eq_append_getElem hlt, rSort_snoc, HLS.out, show l[ls.length] = b from by have := List.getElem?_eq_getElem hlt; rw [hb] at this; exact (Option.some.inj this).symm]
            unfold rIns
            rw [e]
            exact h)⟩
    · have t1 : ¬ (i : Int) < (l.length : Int) := by omega
      obtain rfl : i = l.length := by omega
      rw [List.take_length] at HN
      go_wp2_with fail
      go_ret
      exact ⟨_, rfl, HN.out⟩
end Go.Proofs.Ytmkfjelpekkmmaa
namespace Go.Proofs.Ytmkfjelpekkmmaa
open Go.RowKit Go.Sort

attribute [local go_sem ↓] loadVar_ldB
theorem BIn.ldm {w : World} {v : Value} {l : List Bun} (h : BIn w v l) {k : Nat} {b : Bun} (hk : l[k]? = some b) : ∃ blk off cap, v = .slice (some ⟨blk, off, none⟩) l.length cap ∧ ∀ d os, (ldB ⟨blk, off + k * 11, none⟩).run Try.prog (more w d os) = .ok (.agg b.arr) (more w d os) := by
  obtain ⟨g, o, c, hv, h1, h2⟩ := h.cells hk
  exact ⟨g, o, c, hv, fun d os => ld_of fun j u hj => (more_cell w d os ⟨g, o + k * 11 + j, none⟩ h1).trans (h2 j u hj)⟩

set_option maxRecDepth 100000 in
set_option maxHeartbeats 4000000 in
theorem same_any (va vb : Value) (la lb : List Bun) (w : World) (ha : BIn w va la) (hb : BIn w vb lb) :
    Calls Try.prog 32 #[va, vb] w fun e w' => e = .returned (.bool (decide (la = lb))) ∧ Below w.heap.size w w' := by
  have mixed : Try.prog.follows .mixedOrders = true := by kernel_rfl
  have HA := Lib.hid ha
  have HB := Lib.hid hb
  obtain ⟨pa, ca, rfl, ma, _⟩ := ha
  obtain ⟨pb, cb, rfl, mb, _⟩ := hb
  unfold maxLen at ma mb
  by_cases hlen : la.length = lb.length
  · have hd : ((la.length : Int) != (lb.length : Int)) = false := by simp; omega
    have hd2 : (la.length : Int) = (lb.length : Int) := by omega
    have HL := Lib.hid hlen
    clear hlen
    by_cases heq : la = lb
    · subst heq
      rw [decide_eq_true rfl]
      go_enter Try.func32, Try.ntmps32
      go_wp2_with fail
      go_loopg [5] la.length (fun kx x wr => ∃ k : Nat, x = .int .i64 k ∧ k ≤ la.length ∧ la.length - k ≤ kx ∧ Hid (Below w.heap.size w wr))
      case atStart => exact ⟨0, by go_num, by omega, by omega, Lib.hid (Below.refl _ _)⟩
      case round =>
        obtain ⟨k, rfl, hk, hkx, HW⟩ := hrel
        by_cases hlt : k < la.length
        · have t1 : (k : Int) < (la.length : Int) := by omega
          obtain ⟨b, hb⟩ : ∃ b, la[k]? = some b := ⟨_, List.getElem?_eq_getElem hlt⟩
          obtain ⟨g1, o1, c1, hv1, l1⟩ := (HA.out.keep HW.out).ldm hb
          obtain ⟨g2, o2, c2, hv2, l2⟩ := (HB.out.keep HW.out).ldm hb
          simp only [Value.slice.injEq, true_and] at hv1 hv2
          obtain ⟨rfl, rfl⟩ := hv1
          obtain ⟨rfl, rfl⟩ := hv2
          clear hb
          obtain ⟨s, i, g, m, x, y, vx, vy, hp, pw, lf⟩ := b
          have hbe : bunEq ⟨s, i, g, m, x, y, vx, vy, hp, pw, lf⟩ ⟨s, i, g, m, x, y, vx, vy, hp, pw, lf⟩ = true := by simp [bunEq]
          go_wp2_with fail
          refine wp_region_more (by kernel_rfl) (by kernel_rfl) ?_
          repeat (go_big_quiet_step (fail))
          refine wpQuiet_nil ?_
          rintro _ ⟨pn, rfl⟩
          go_wp2_with fail
          go_roundg (la.length - (k + 1))
          case measure => omega
          case rel => exact ⟨k + 1, by go_num, by omega, by omega, Lib.hid (HW.out.trans (Below.mono (B := wr.heap.size) (by repeat' (first | (with_reducible exact Below.refl _ _) | (with_reducible assumption) | (with_reducible refine below_drewN ?_ _) | (with_reducible refine below_more _ _ _ ?_ ?_) | (with_reducible refine Below.alloc ?_ ?_ _) | (with_reducible refine Below.drew ?_) | (with_reducible refine Below.setCell ?_ ?_ _) | go_size)) HW.out.size))⟩
        · have t1 : ¬ (k : Int) < (la.length : Int) := by omega
          go_wp2_with fail
          go_ret
          exact ⟨rfl, HW.out⟩
    · rw [decide_eq_false heq]
      have HNE := Lib.hid heq
      clear heq
      go_enter Try.func32, Try.ntmps32
      go_wp2_with fail
      go_loopg [5] la.length (fun kx x wr => ∃ k : Nat, x = .int .i64 k ∧ k ≤ la.length ∧ la.length - k ≤ kx ∧ Hid (Below w.heap.size w wr) ∧ Hid (∀ t, t < k → la[t]? = lb[t]?))
      case atStart => exact ⟨0, by go_num, by omega, by omega, Lib.hid (Below.refl _ _), Lib.hid (fun t ht => by omega)⟩
      case round =>
        obtain ⟨k, rfl, hk, hkx, HW, HT⟩ := hrel
        by_cases hlt : k < la.length
        · have t1 : (k : Int) < (la.length : Int) := by omega
          have t2 : (k : Int) < (lb.length : Int) := by omega
          obtain ⟨b, hb⟩ : ∃ b, la[k]? = some b := ⟨_, List.getElem?_eq_getElem hlt⟩
          obtain ⟨c, hc⟩ : ∃ c, lb[k]? = some c := ⟨_, List.getElem?_eq_getElem (by omega)⟩
          obtain ⟨g1, o1, c1, hv1, l1⟩ := (HA.out.keep HW.out).ldm hb
          obtain ⟨g2, o2, c2, hv2, l2⟩ := (HB.out.keep HW.out).ldm hc
          simp only [Value.slice.injEq, true_and] at hv1 hv2
          obtain ⟨rfl, rfl⟩ := hv1
          obtain ⟨rfl, rfl⟩ := hv2
          have HBC := Lib.hid (And.intro hb hc)
          clear hb hc
          by_cases hbc : b = c
          · subst hbc
            obtain ⟨s, i, g, m, x, y, vx, vy, hp, pw, lf⟩ := b
            have hbe : bunEq ⟨s, i, g, m, x, y, vx, vy, hp, pw, lf⟩ ⟨s, i, g, m, x, y, vx, vy, hp, pw, lf⟩ = true := by simp [bunEq]
            go_wp2_with fail
            refine wp_region_more (by kernel_rfl) (by kernel_rfl) ?_
            repeat (go_big_quiet_step (fail))
            refine wpQuiet_nil ?_
            rintro _ ⟨pn, rfl⟩
            go_wp2_with fail
            go_roundg (la.length - (k + 1))
            case measure => omega
            case rel => exact ⟨k + 1, by go_num, by omega, by omega, Lib.hid (HW.out.trans (Below.mono (B := wr.heap.size) (by repeat' (first | (with_reducible exact Below.refl _ _) | (with_reducible assumption) | (with_reducible refine below_drewN ?_ _) | (with_reducible refine below_more _ _ _ ?_ ?_) | (with_reducible refine Below.alloc ?_ ?_ _) | (with_reducible refine Below.drew ?_) | (with_reducible refine Below.setCell ?_ ?_ _) | go_size)) HW.out.size)), Lib.hid (fun t ht => by
              by_cases htk : t = k
              · subst htk; exact HBC.out.1.trans HBC.out.2.symm
              · exact HT.out t (by omega))⟩
          · obtain ⟨s, i, g, m, x, y, vx, vy, hp, pw, lf⟩ := b
            obtain ⟨s', i', g', m', x', y', vx', vy', hp', pw', lf'⟩ := c
            have hbe : bunEq ⟨s, i, g, m, x, y, vx, vy, hp, pw, lf⟩ ⟨s', i', g', m', x', y', vx', vy', hp', pw', lf'⟩ = false := by unfold bunEq; exact decide_eq_false hbc
            clear hbc
            go_wp2_with fail
            refine wp_region_more (by kernel_rfl) (by kernel_rfl) ?_
            repeat (go_big_quiet_step (fail))
            refine wpQuiet_nil ?_
            rintro _ ⟨pn, rfl⟩
            go_wp2_with fail
            go_ret
            exact ⟨rfl, HW.out.trans (Below.mono (B := wr.heap.size) (by repeat' (first | (with_reducible exact Below.refl _ _) | (with_reducible assumption) | (with_reducible refine below_drewN ?_ _) | (with_reducible refine below_more _ _ _ ?_ ?_) | (with_reducible refine Below.alloc ?_ ?_ _) | (with_reducible refine Below.drew ?_) | (with_reducible refine Below.setCell ?_ ?_ _) | go_size)) HW.out.size)⟩
        · exfalso
          obtain rfl : k = la.length := by omega
          refine HNE.out (List.ext_getElem? fun t => ?_)
          by_cases ht : t < la.length
          · exact HT.out t ht
          · rw [List.getElem?_eq_none (by omega), List.getElem?_eq_none (by have := HL.out; omega)]
  · have hd : ((la.length : Int) != (lb.length : Int)) = true := by simp; omega
    have hd2 : ¬ (la.length : Int) = (lb.length : Int) := by omega
    rw [decide_eq_false (fun e => hlen (by rw [e]))]
    clear hlen
    go_enter Try.func32, Try.ntmps32
    go_wp2_with fail
    go_ret
    exact ⟨rfl, Below.refl _ _⟩
end Go.Proofs.Ytmkfjelpekkmmaa
