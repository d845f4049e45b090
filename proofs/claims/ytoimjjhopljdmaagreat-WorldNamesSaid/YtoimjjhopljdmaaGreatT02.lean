/-
  Chapter texts SoM CmL GhU TkP WoB LsC: what the claim reaches of them. Conditions stand at each theorem.
-/
import Derived.Test.YtoimjjhopljdmaaGreatProg
import Derived.WalkKit
import Derived.WalkSpells
import Derived.WalkLawsBesides
import Derived.Handy
import Derived.Lib.Hide
import Derived.Lib.QuietBelow
import Derived.BigQuiet
import Derived.Deep.RegionHeld3
import Derived.Deep.RegionWith
import Derived.Deep.DeepFit
import Derived.Deep.DeepCutAuto
import Derived.Deep.LoopGhost
import Derived.Deep.Light
import Derived.Deep.RegionLaw
import Derived.Deep.RegionLawGrows
import Derived.Shelf.SlicesQ.Load
import Derived.Lib.MinMax
import Derived.StillTailTactics
import Derived.BigRegion
import Derived.Shelf.RegionOpenPlain
import Derived.Test.YtoimjjhopljdmaaGreatRows
import Derived.ProofKit
import Derived.OpenShut
import Derived.Carry
import Derived.ChangeSlices
import Derived.Deep.Slices
import Derived.Lib.SliceRun
import Derived.Shelf.SlicesQ.IndexFunc
import Derived.StillTail
import Derived.Shelf.SlSortCmp.NoneTotal
import Derived.RegionTactic
import Derived.Deep.AppendLies
import Derived.Shelf.SlicesE.DeleteFunc
import Derived.Laws.MakeOwn
import Derived.Test.YtoimjjhopljdmaaGreatQ01
import Derived.Test.YtoimjjhopljdmaaGreatQ02
import Derived.Test.YtoimjjhopljdmaaGreatQ03
import Derived.Test.YtoimjjhopljdmaaGreatQ04
import Derived.Test.YtoimjjhopljdmaaGreatQ05
import Derived.Test.YtoimjjhopljdmaaGreatQ06
import Derived.Test.YtoimjjhopljdmaaGreatQ07
import Derived.Test.YtoimjjhopljdmaaGreatQ08
import Derived.Test.YtoimjjhopljdmaaGreatQ09
import Derived.Test.YtoimjjhopljdmaaGreatQ10
import Derived.Test.YtoimjjhopljdmaaGreatQ11
import Derived.Test.YtoimjjhopljdmaaGreatQ12
import Derived.Test.YtoimjjhopljdmaaGreatQ13
import Derived.Test.YtoimjjhopljdmaaGreatQ14
import Derived.Test.YtoimjjhopljdmaaGreatQ15
import Derived.Test.YtoimjjhopljdmaaGreatQ16
import Derived.Test.YtoimjjhopljdmaaGreatQ17
import Derived.Test.YtoimjjhopljdmaaGreatQ18
import Derived.Test.YtoimjjhopljdmaaGreatQ19
import Derived.Test.YtoimjjhopljdmaaGreatQ20
import Derived.Test.YtoimjjhopljdmaaGreatQ21
import Derived.Test.YtoimjjhopljdmaaGreatQ22
import Derived.Test.YtoimjjhopljdmaaGreatQ23
import Derived.Test.YtoimjjhopljdmaaGreatQ24
import Derived.Test.YtoimjjhopljdmaaGreatQ25
import Derived.Test.YtoimjjhopljdmaaGreatQ26
import Derived.Test.YtoimjjhopljdmaaGreatQ27
import Derived.Test.YtoimjjhopljdmaaGreatQ28
import Derived.Test.YtoimjjhopljdmaaGreatQ29
import Derived.Test.YtoimjjhopljdmaaGreatQ30
import Derived.Test.YtoimjjhopljdmaaGreatQ31
import Derived.Test.YtoimjjhopljdmaaGreatQ32
import Derived.Test.YtoimjjhopljdmaaGreatQ33
import Derived.Test.YtoimjjhopljdmaaGreatQ34
import Derived.Test.YtoimjjhopljdmaaGreatQ35
import Derived.Test.YtoimjjhopljdmaaGreatQ36
import Derived.Test.YtoimjjhopljdmaaGreatQ37
import Derived.Test.YtoimjjhopljdmaaGreatQ38
import Derived.Test.YtoimjjhopljdmaaGreatQ39
import Derived.Test.YtoimjjhopljdmaaGreatQ40
import Derived.Test.YtoimjjhopljdmaaGreatR01
import Derived.Test.YtoimjjhopljdmaaGreatR02
import Derived.Test.YtoimjjhopljdmaaGreatR03
import Derived.Test.YtoimjjhopljdmaaGreatR04
import Derived.Test.YtoimjjhopljdmaaGreatT01
namespace Go.Proofs.YtoimjjhopljdmaaGreat
open Go.RowKit Go.Sort

theorem sl_some {w : World} {e : TypeId} {size : Nat} {v : Value} {n : Nat} {xs : List Value} (h : Sl w e size v (n + 1) xs) : ∃ g off cap, v = .slice (some ⟨g, off, none⟩) (n + 1) cap ∧ g < w.heap.size ∧ n + 1 ≤ cap := by
  obtain ⟨_, ⟨_, h0⟩ | ⟨g, off, cap, cur, rfl, hb, hn, _⟩⟩ := h
  · omega
  · exact ⟨g, off, cap, rfl, (Array.getElem?_eq_some_iff.1 hb).1, hn⟩
theorem mid_step (l : List Bun) (k : Nat) (y : Bun) (hk : k < l.length) : (l.take (k + 1) ++ y :: l.drop (k + 1)).set (k + 1) l[k] = l.take k ++ l[k] :: l.drop k := by
  have e : (l.take (k + 1)).length = k + 1 := by simp; omega
  rw [List.set_append_right _ _ (by omega), e, Nat.sub_self, List.set_cons_zero, List.take_succ_eq_append_getElem hk, List.append_assoc, List.singleton_append, List.drop_eq_getElem_cons hk]
theorem mid_end (l : List Bun) (k : Nat) (y x : Bun) (hk : k ≤ l.length) : (l.take k ++ y :: l.drop k).set k x = l.take k ++ x :: l.drop k := by
  have e : (l.take k).length = k := by simp; omega
  rw [List.set_append_right _ _ (by omega), e, Nat.sub_self, List.set_cons_zero]
theorem mid_get (l : List Bun) (k : Nat) (y : Bun) (hk : k < l.length) : (l.take (k + 1) ++ y :: l.drop (k + 1))[k]? = some l[k] := by
  rw [List.getElem?_append_left (by simp; omega), List.getElem?_take_of_lt (by omega), List.getElem?_eq_getElem hk]
theorem mid_len (l : List Bun) (k : Nat) (y : Bun) (hk : k ≤ l.length) : (l.take k ++ y :: l.drop k).length = l.length + 1 := by simp; omega

theorem BNew.store' {w0 w : World} {blk off cap n : Nat} {l : List Bun} (h : BNew w0 w (.slice (some ⟨blk, off, Option.none⟩) n cap) l) (hn : l.length = n) {k : Nat} (hk : k < n) (b : Bun) :
    (stB ⟨blk, off + k * 11, Option.none⟩ b.v).run Tryz.prog w = .ok () (w.setCells blk (off + k * 11) (bunL b)) ∧ BNew w0 (w.setCells blk (off + k * 11) (bunL b)) (.slice (some ⟨blk, off, Option.none⟩) n cap) (l.set k b) := by
  subst hn
  exact h.store hk b
theorem BIn.cells' {w : World} {blk off n cap : Nat} {l : List Bun} (h : BIn w (.slice (some ⟨blk, off, none⟩) n cap) l) {k : Nat} {b : Bun} (hk : l[k]? = some b) : blk < w.heap.size ∧ ∀ j u, (bunL b)[j]? = some u → w.cell? ⟨blk, off + k * 11 + j, none⟩ = some u := by
  obtain ⟨g, o, c, hv, h1, h2⟩ := h.cells hk
  simp only [Value.slice.injEq, Option.some.injEq, Addr.mk.injEq, and_true] at hv
  obtain ⟨⟨rfl, rfl⟩, _, _⟩ := hv
  exact ⟨h1, h2⟩
attribute [local go_sem ↓] loadVar_ldB storeVar_stB

set_option maxRecDepth 100000 in
set_option maxHeartbeats 4000000 in
theorem rsorted_any (v : Value) (l : List Bun) (w : World) (h : BIn w v l) (hl : l.length ≤ 1000000) :
    Calls Tryz.prog 24 #[v] w fun e w' => ∃ v', e = .returned v' ∧ BNew w w' v' (stableF cmpBun l) := by
  have mixed : Tryz.prog.follows .mixedOrders = true := by kernel_rfl
  obtain ⟨i0, hi0, hz0, hz1, hz2⟩ := info_parts info_bunJ
  rw [← rSort_stable]
  have H := Lib.hid h
  obtain ⟨pv, cv, rfl, _⟩ := h
  go_enter Tryz.func24, Tryz.ntmps24
  go_wp2_with fail
  go_loopg [3, 4] l.length (fun kx o x wr => ∃ i : Nat, x = .int .i64 i ∧ i ≤ l.length ∧ l.length - i ≤ kx ∧ Hid (BNew w wr o (rSort (l.take i))))
  case atStart => exact ⟨0, rfl, by omega, by omega, Lib.hid (BNew.nil w)⟩
  case round =>
    obtain ⟨i, rfl, hil, hkx, HN⟩ := hrel
    by_cases hlt : i < l.length
    · have t1 : (i : Int) < (l.length : Int) := by omega
      obtain ⟨b, hb⟩ : ∃ b, l[i]? = some b := ⟨_, List.getElem?_eq_getElem hlt⟩
      have hbin := H.out.keep HN.out.2.1
      obtain ⟨gb, ob, cb, hv, hgb, hcb⟩ := hbin.cells hb
      simp only [Value.slice.injEq, true_and] at hv
      obtain ⟨rfl, rfl⟩ := hv
      have hld := ld_of hcb
      have hsl : (rSort (l.take i)).length = i := by
        rw [rSort_stable, stableF_len]; simp; omega
      generalize hls : rSort (l.take i) = ls at *
      have HLS := Lib.hid hls
      clear hls hbin
      obtain rfl : i = ls.length := hsl.symm
      clear hsl
      obtain ⟨po, co, rfl⟩ := sl_frm HN.out.1
      have HCB := Lib.hid hcb
      clear hcb
      go_wp2_with (at_builtin; refine wpList_append_sl _ (by rfl) _ _ 37 (by rfl) 32 i0 _ 11 88 Tryz.underlying37 hi0 hz0 hz1 hz2 rfl (by omega) _ ls.length (bunCells ls) (by rfl) (HN.out.grow (by repeat' (first | (with_reducible exact Below.refl _ _) | (with_reducible assumption) | (with_reducible refine below_drewN ?_ _) | (with_reducible refine below_more _ _ _ ?_ ?_) | (with_reducible refine Below.alloc ?_ ?_ _) | (with_reducible refine Below.drew ?_) | (with_reducible refine Below.setCell ?_ ?_ _) | go_size))).1 ⟨_, 0, none⟩ 1 1 (bunL b) (by rfl) (by rfl) (new_cells _ _ _) (bunL_one b) (by omega) (by unfold maxLen; omega) (by omega) ?_; intro v' w4 hs4 ht4 ho4)
      have hm := (HN.out.grow (by repeat' (first | (with_reducible exact Below.refl _ _) | (with_reducible assumption) | (with_reducible refine below_drewN ?_ _) | (with_reducible refine below_more _ _ _ ?_ ?_) | (with_reducible refine Below.alloc ?_ ?_ _) | (with_reducible refine Below.drew ?_) | (with_reducible refine Below.setCell ?_ ?_ _) | go_size))).snoc hs4 ht4 ho4
      obtain ⟨g, off, cap, hvf, hgl, hcp⟩ := sl_some hs4
      subst hvf
      have HM := Lib.hid hm
      have hld4 := Lib.hid (fun W (hW : Below w.heap.size w W) => (H.out.keep hW).cells' hb)
      clear hs4 ht4 ho4 hm hld hgl HN
      go_wp2_with fail
      go_loopg [5] ls.length (fun kx x wr => ∃ (k : Nat) (y : Bun), x = .int .i64 k ∧ k ≤ ls.length ∧ k ≤ kx ∧ Hid (BNew w wr (.slice (some ⟨g, off, none⟩) (ls.length + 1) cap) (ls.take k ++ y :: ls.drop k)) ∧ Hid (rPos b ls k = rPos b ls ls.length))
      case atStart => exact ⟨ls.length, b, rfl, by omega, by omega, Lib.hid (by rw [List.take_length, List.drop_length]; exact HM.out), Lib.hid rfl⟩
      case round =>
        clear HM
        obtain ⟨k1, y, rfl, hk, hkx2, HM, HP⟩ := hrel
        have fin : bef b (ls.getD (k1 - 1) default) = false ∨ k1 = 0 → rPos b ls ls.length = k1 := fun h => by
          rw [← HP.out]
          cases k1 with
          | zero => rfl
          | succ k =>
            rcases h with h | h
            · unfold rPos; rw [Nat.add_sub_cancel] at h; rw [h]; rfl
            · omega
        have FIN := Lib.hid fin
        clear fin
        by_cases hk0 : 0 < k1
        · obtain ⟨k, rfl⟩ : ∃ k, k1 = k + 1 := ⟨k1 - 1, by omega⟩
          obtain ⟨c, hc⟩ : ∃ c, ls[k]? = some c := ⟨_, List.getElem?_eq_getElem (by omega)⟩
          have hkl : k < ls.length := by omega
          have e3 : ls.getD k default = c := by simp [List.getD, hc]
          have hcg : ls[k] = c := by have := List.getElem?_eq_getElem hkl; rw [hc] at this; exact (Option.some.inj this).symm
          have hmg := mid_get ls k y hkl
          rw [hcg] at hmg
          obtain ⟨lg, qc⟩ := HM.out.bin.cells' hmg
          obtain ⟨lb, qb⟩ := hld4.out wr HM.out.2.1
          have c0 := qc 0 _ rfl; have b0 := qb 0 _ rfl
          have c1 := qc 1 _ rfl; have b1 := qb 1 _ rfl
          have c2 := qc 2 _ rfl; have b2 := qb 2 _ rfl
          simp only [Nat.add_zero] at c0 b0
          have HQ := Lib.hid (And.intro hmg hcg)
          have HC := Lib.hid (And.intro hc e3)
          clear qc qb hmg hcg hc e3
          obtain ⟨x0, x1, x2, x3⟩ := ltq lg
          obtain ⟨y0, y1, y2, y3⟩ := ltq lb
          have hg0 : (0 : Int) < (k : Int) + 1 := by omega
          have ea1 : ((k : Int)).toNat = k := by omega
          have pa1 : (0 : Int) ≤ (k : Int) := by omega
          have ba1 : (k : Int) < (ls.length : Int) + 1 := by omega
          have ba2 : (k : Int) + 1 < (ls.length : Int) + 1 := by omega
          have ra1 : IntKind.i64.wrap (k : Int) = (k : Int) := by rw [IntKind.wrap_i64]; omega
          cases hbv : beforeB b.s b.i b.g c.s c.i c.g with
          | true =>
            have HBV := Lib.hid hbv
            have hbef := before_any b.s b.i b.g c.s c.i c.g
            rw [hbv] at hbef
            have HBF := Lib.hid hbef
            clear hbv hbef
            go_wp2_with fail
            refine wp_region_more (by kernel_rfl) (by kernel_rfl) ?_
            repeat (go_big_quiet_step ((first | (go_at_call 16; exact more_call (HBF.out _)))))
            refine wpQuiet_nil ?_
            rintro _ ⟨pm, rfl⟩
            have hN2 := HM.out.grow (more_below wr pm.d pm.os)
            have hst := hN2.store' (mid_len ls (k + 1) y (by omega)) (k := k + 1) (by omega) c
            have l44 := ld_of (hN2.bin.cells' HQ.out.1).2
            have s44 := hst.1
            have HST := Lib.hid hst.2
            clear hN2 hst c0 b0 c1 b1 c2 b2
            generalize more wr pm.d pm.os = W2 at *
            go_wp2_with fail
            go_roundg k
            case measure => omega
            case rel => exact ⟨k, c, by go_num, by omega, by omega, Lib.hid (by have h := HST.out; rw [← HQ.out.2, mid_step ls k y hkl] at h; rw [← HQ.out.2]; exact h), Lib.hid (by rw [← HP.out]; conv => rhs; unfold rPos; rw [HC.out.2]; rw [show bef b c = true from HBV.out, if_pos rfl])⟩
          | false =>
            have HBV := Lib.hid hbv
            have hbef := before_any b.s b.i b.g c.s c.i c.g
            rw [hbv] at hbef
            have HBF := Lib.hid hbef
            clear hbv hbef
            go_wp2_with fail
            refine wp_region_more (by kernel_rfl) (by kernel_rfl) ?_
            repeat (go_big_quiet_step ((first | (go_at_call 16; exact more_call (HBF.out _)))))
            refine wpQuiet_nil ?_
            rintro _ ⟨pm, rfl⟩
            have hN2 := HM.out.grow (more_below wr pm.d pm.os)
            have hst := hN2.store' (mid_len ls (k + 1) y (by omega)) (k := k + 1) (by omega) b
            have l44 := ld_of (hld4.out _ hN2.2.1).2
            have s44 := hst.1
            have HST := Lib.hid hst.2
            clear hN2 hst c0 b0 c1 b1 c2 b2
            generalize more wr pm.d pm.os = W2 at *
            go_wp2_with fail
            go_roundg (l.length - (ls.length + 1))
            case measure => omega
            case rel => exact ⟨ls.length + 1, by go_num, by omega, by omega, Lib.hid (by
              have e := FIN.out (.inl (by rw [Nat.add_sub_cancel, HC.out.2]; exact HBV.out))
              have h := HST.out
              rw [mid_end ls (k + 1) y b (by omega)] at h
              rw [List.take_succ_eq_append_getElem hlt, rSort_snoc, HLS.out, show l[ls.length] = b from by have := List.getElem?_eq_getElem hlt; rw [hb] at this; exact (Option.some.inj this).symm]
              unfold rIns
              rw [e]
              exact h)⟩
        · obtain rfl : k1 = 0 := by omega
          go_wp2_with fail
          refine wp_region_more (by kernel_rfl) (by kernel_rfl) ?_
          repeat (go_big_quiet_step (fail))
          refine wpQuiet_nil ?_
          rintro _ ⟨pn, rfl⟩
          have hN2 := HM.out.grow (more_below wr pn.d pn.os)
          have hst := hN2.store' (mid_len ls 0 y (by omega)) (k := 0) (by omega) b
          have l44 := ld_of (hld4.out _ hN2.2.1).2
          have s44 := hst.1
          have HST := Lib.hid hst.2
          rw [Nat.zero_mul, Nat.add_zero] at s44
          clear hN2 hst
          generalize more wr pn.d pn.os = W2 at *
          go_wp2_with fail
          go_roundg (l.length - (ls.length + 1))
          case measure => omega
          case rel => exact ⟨ls.length + 1, by go_num, by omega, by omega, Lib.hid (by
            have e := FIN.out (.inr (by simp))
            have h := HST.out
            rw [mid_end ls 0 y b (by omega), Nat.zero_mul, Nat.add_zero] at h
            rw [List.take_succ_eq_append_getElem hlt, rSort_snoc, HLS.out, show l[ls.length] = b from by have := List.getElem?_eq_getElem hlt; rw [hb] at this; exact (Option.some.inj this).symm]
            unfold rIns
            rw [e]
            exact h)⟩
    · have t1 : ¬ (i : Int) < (l.length : Int) := by omega
      obtain rfl : i = l.length := by omega
      rw [List.take_length] at HN
      go_wp2_with fail
      go_ret
      exact ⟨_, rfl, HN.out⟩
end Go.Proofs.YtoimjjhopljdmaaGreat
namespace Go.Proofs.YtoimjjhopljdmaaGreat
open Go.RowKit

attribute [local go_sem ↓] loadVar_ldM storeVar_stM
set_option maxRecDepth 100000 in
set_option maxHeartbeats 4000000 in
theorem sameNid_self (va vb : Value) (l : List Nid) (w : World) (ha : RIn nidL w va l) (hb : RIn nidL w vb l) :
    Calls Tryz.prog 30 #[va, vb] w fun e w' => e = .returned (.bool true) ∧ Below w.heap.size w w' := by
  have HA := Lib.hid ha
  have HB := Lib.hid hb
  obtain ⟨pa, ca, rfl, ma, _⟩ := ha
  obtain ⟨pb, cb, rfl, mb, _⟩ := hb
  unfold maxLen at ma mb
  go_enter Tryz.func30, Tryz.ntmps30
  go_wp2_with fail
  go_loopg [5] l.length (fun kx x wr => ∃ k : Nat, x = .int .i64 k ∧ k ≤ l.length ∧ l.length - k ≤ kx ∧ Hid (Below w.heap.size w wr))
  case atStart => exact ⟨0, by go_num, by omega, by omega, Lib.hid (Below.refl _ _)⟩
  case round =>
    obtain ⟨j, rfl, hk, hkx, HW⟩ := hrel
    by_cases hlt : j < l.length
    · have t1 : (j : Int) < (l.length : Int) := by omega
      obtain ⟨b, hb⟩ : ∃ b, l[j]? = some b := ⟨_, List.getElem?_eq_getElem hlt⟩
      obtain ⟨g1, o1, c1, hv1, b1, l1⟩ := (HA.out.keep HW.out).cells nidL_len hb
      obtain ⟨g2, o2, c2, hv2, b2, l2⟩ := (HB.out.keep HW.out).cells nidL_len hb
      simp only [Value.slice.injEq, true_and] at hv1 hv2
      obtain ⟨rfl, rfl⟩ := hv1
      obtain ⟨rfl, rfl⟩ := hv2
      clear hb
      obtain ⟨s, i, g⟩ := b
      have hbe : idEq s i g s i g = true := by simp [idEq]
      have p0 := l1 0 _ rfl
      have p1 := l1 1 _ rfl
      have p2 := l1 2 _ rfl
      have q0 := l2 0 _ rfl
      have q1 := l2 1 _ rfl
      have q2 := l2 2 _ rfl
      rw [Nat.add_zero] at p0 q0
      obtain ⟨z0, z1, z2⟩ := ltz b1
      obtain ⟨y0, y1, y2⟩ := ltz b2
      clear l1 l2
      simp only at p0 p1 p2 q0 q1 q2
      go_wp2_with fail
      refine wp_region_more (by kernel_rfl) (by kernel_rfl) ?_
      repeat (go_big_quiet_step (fail))
      refine wpQuiet_nil ?_
      rintro _ ⟨pn, rfl⟩
      go_wp2_with fail
      go_roundg (l.length - (j + 1))
      case measure => omega
      case rel => exact ⟨j + 1, by go_num, by omega, by omega, Lib.hid (HW.out.trans (Below.mono (B := wr.heap.size) (by repeat' (first | (with_reducible exact Below.refl _ _) | (with_reducible assumption) | (with_reducible refine below_drewN ?_ _) | (with_reducible refine below_more _ _ _ ?_ ?_) | (with_reducible refine Below.alloc ?_ ?_ _) | (with_reducible refine Below.drew ?_) | (with_reducible refine Below.setCell ?_ ?_ _) | go_size)) HW.out.size))⟩
    · have t1 : ¬ (j : Int) < (l.length : Int) := by omega
      go_wp2_with fail
      go_ret
      exact ⟨rfl, HW.out⟩
end Go.Proofs.YtoimjjhopljdmaaGreat
namespace Go.Proofs.YtoimjjhopljdmaaGreat
open Go.RowKit

theorem BoxSt.below {W w3 w : World} {B : Nat} {v : Value} (h : BoxSt w3 w B v) (hW : Below W.heap.size W w3) (hB : W.heap.size ≤ B) : Below W.heap.size W w := Turned.below_new h.t (fun k hk => by cases hk; exact hB) hW hW.size
end Go.Proofs.YtoimjjhopljdmaaGreat
namespace Go.Proofs.YtoimjjhopljdmaaGreat
open Go.RowKit Go.Sort
theorem strict_eq {l l' : List Nid} (h : l.Pairwise fun a b => befN a b = true) (h' : l'.Pairwise fun a b => befN a b = true) (hm : ∀ x, x ∈ l ↔ x ∈ l') : l = l' := by
  have hne : ∀ {a b : Nid}, befN a b = true → a ≠ b := fun h e => by subst e; rw [befN_irr] at h; cases h
  have n1 : l.Nodup := h.imp fun h => hne h
  have n2 : l'.Nodup := h'.imp fun h => hne h
  refine List.Perm.eq_of_pairwise (le := fun a b => befN a b = true) (fun a b _ _ h1 h2 => ?_) h h' ((List.perm_ext_iff_of_nodup n1 n2).2 hm)
  have := befN_trans h1 h2
  rw [befN_irr] at this; cases this
end Go.Proofs.YtoimjjhopljdmaaGreat
namespace Go.Proofs.YtoimjjhopljdmaaGreat
open Go.RowKit

section
variable {w0 W : World} {F : Ob} {p : Nat} {c : Cfg} {X : Wo}

theorem wwaits_o (h : Own w0 W ((worldO p c X).and F)) (ho : CfgOk c) : Calls Tryz.prog 20 #[.pointer (some ⟨p, 0, none⟩)] W fun e w' => ∃ v, e = .returned v ∧ RNew cmC 34 16 W w' v X.D.q := by
  obtain ⟨d, v, h⟩ := wopen h
  have hb := h.box
  have x0 := hb.1 0
  have x1 := hb.1 1
  simp at x0 x1
  have hlt := hb.2.2.1
  obtain ⟨z0, z1, z2⟩ := ltz hlt
  have H := Lib.hid h
  have HC := Lib.hid (fun V (hV : Own w0 V ((deskO d c X.D).and ((boxO p #[.pointer (some ⟨d, 0, none⟩), v] 83).and ((slO 32 11 v X.L.length (cellsR bunL X.L)).and F)))) => waiting_o hV ho)
  have H2 := Lib.hid h.swap.inner2
  clear h hb
  go_enter Tryz.func20, Tryz.ntmps20
  go_wp2_with fail
  refine (HC.out _ (H2.out.grow (by repeat' (first | (with_reducible exact Below.refl _ _) | (with_reducible assumption) | (with_reducible refine below_drewN ?_ _) | (with_reducible refine below_more _ _ _ ?_ ?_) | (with_reducible refine Below.alloc ?_ ?_ _) | (with_reducible refine Below.drew ?_) | (with_reducible refine Below.setCell ?_ ?_ _) | go_size)))).mono ?_
  rintro e w' ⟨va, rfl, hn⟩
  obtain ⟨pw, cw, rfl⟩ := sl_frm hn.1
  have HN := Lib.hid hn
  clear hn
  go_wp2_with fail
  go_ret
  exact ⟨_, rfl, HN.out.1, Below.trans (Below.mono (B := W.heap.size) (by repeat' (first | (with_reducible exact Below.refl _ _) | (with_reducible assumption) | (with_reducible refine below_drewN ?_ _) | (with_reducible refine below_more _ _ _ ?_ ?_) | (with_reducible refine Below.alloc ?_ ?_ _) | (with_reducible refine Below.drew ?_) | (with_reducible refine Below.setCell ?_ ?_ _) | go_size)) (Nat.le_refl _)) (HN.out.2.1.mono (Nat.le_refl _)), HN.out.2.2⟩
theorem wnames_o (h : Own w0 W ((worldO p c X).and F)) (li : List Nid) (hli : (listF X.D.M).map toNid = li) : Calls Tryz.prog 29 #[.pointer (some ⟨p, 0, none⟩)] W fun e w' => ∃ v, e = .returned v ∧ RNew nidL 30 3 W w' v li := by
  obtain ⟨d, v, h⟩ := wopen h
  have hb := h.box
  have x0 := hb.1 0
  have x1 := hb.1 1
  simp at x0 x1
  have hlt := hb.2.2.1
  obtain ⟨z0, z1, z2⟩ := ltz hlt
  have H := Lib.hid h
  have HC := Lib.hid (fun V (hV : Own w0 V ((deskO d c X.D).and ((boxO p #[.pointer (some ⟨d, 0, none⟩), v] 83).and ((slO 32 11 v X.L.length (cellsR bunL X.L)).and F)))) => (show Calls Tryz.prog 64 #[.pointer (some ⟨d, 0, none⟩)] V (fun e w' => ∃ v, e = .returned v ∧ RNew nidL 30 3 V w' v li) from hli ▸ alive_o hV))
  have H2 := Lib.hid h.swap.inner2
  clear h hb
  go_enter Tryz.func29, Tryz.ntmps29
  go_wp2_with fail
  refine (HC.out _ (H2.out.grow (by repeat' (first | (with_reducible exact Below.refl _ _) | (with_reducible assumption) | (with_reducible refine below_drewN ?_ _) | (with_reducible refine below_more _ _ _ ?_ ?_) | (with_reducible refine Below.alloc ?_ ?_ _) | (with_reducible refine Below.drew ?_) | (with_reducible refine Below.setCell ?_ ?_ _) | go_size)))).mono ?_
  rintro e w' ⟨va, rfl, hn⟩
  obtain ⟨pw, cw, rfl⟩ := sl_frm hn.1
  have HN := Lib.hid hn
  clear hn
  go_wp2_with fail
  go_ret
  exact ⟨_, rfl, HN.out.1, Below.trans (Below.mono (B := W.heap.size) (by repeat' (first | (with_reducible exact Below.refl _ _) | (with_reducible assumption) | (with_reducible refine below_drewN ?_ _) | (with_reducible refine below_more _ _ _ ?_ ?_) | (with_reducible refine Below.alloc ?_ ?_ _) | (with_reducible refine Below.drew ?_) | (with_reducible refine Below.setCell ?_ ?_ _) | go_size)) (Nat.le_refl _)) (HN.out.2.1.mono (Nat.le_refl _)), HN.out.2.2⟩
end
end Go.Proofs.YtoimjjhopljdmaaGreat
namespace Go.Proofs.YtoimjjhopljdmaaGreat
open Go.RowKit
theorem ixList_mem (k : Int) : ∀ (l : List Ix) (i : Int) (x : Id3), x ∈ ixList k i l ↔ ∃ (j : Nat) (y : Ix), l[j]? = some y ∧ y.alive = true ∧ x = (k, i + j, y.gen)
  | [], _, _ => ⟨fun h => (by cases h), fun ⟨j, y, h, _⟩ => (by simp at h)⟩
  | y :: l, i, x => by
    simp only [ixList, List.mem_append, ixList_mem k l (i + 1) x]
    constructor
    · rintro (h | ⟨j, z, h1, h2, h3⟩)
      · split at h
        · rename_i ha
          exact ⟨0, y, rfl, ha, by simpa using h⟩
        · cases h
      · exact ⟨j + 1, z, by simpa using h1, h2, by rw [h3]; simp; omega⟩
    · rintro ⟨j, z, h1, h2, h3⟩
      cases j with
      | zero =>
        simp at h1
        subst h1
        left
        rw [if_pos h2, h3]
        simp
      | succ j => exact .inr ⟨j, z, by simpa using h1, h2, by rw [h3]; simp; omega⟩
theorem shList_mem : ∀ (M : List Sh) (k : Int) (x : Id3), x ∈ shList k M ↔ ∃ (n j : Nat) (m : Sh) (y : Ix), M[n]? = some m ∧ m.all[j]? = some y ∧ y.alive = true ∧ x = (k + n, (j : Int), y.gen)
  | [], _, _ => ⟨fun h => (by cases h), fun ⟨n, j, m, y, h, _⟩ => (by simp at h)⟩
  | m :: M, k, x => by
    simp only [shList, List.mem_append, ixList_mem, shList_mem M (k + 1) x]
    constructor
    · rintro (⟨j, y, h1, h2, h3⟩ | ⟨n, j, m', y, h0, h1, h2, h3⟩)
      · exact ⟨0, j, m, y, rfl, h1, h2, by rw [h3]; simp⟩
      · exact ⟨n + 1, j, m', y, by simpa using h0, h1, h2, by rw [h3]; simp; omega⟩
    · rintro ⟨n, j, m', y, h0, h1, h2, h3⟩
      cases n with
      | zero =>
        simp at h0
        subst h0
        exact .inl ⟨j, y, h1, h2, by rw [h3]; simp⟩
      | succ n => exact .inr ⟨n, j, m', y, by simpa using h0, h1, h2, by rw [h3]; simp; omega⟩
theorem list_al {M : List Sh} (n : Nid) : n ∈ (listF M).map toNid ↔ alN M n := by
  rw [alN_iff]
  unfold listF
  simp only [List.mem_map, shList_mem]
  constructor
  · rintro ⟨x, ⟨k, j, m, y, h0, h1, h2, h3⟩, rfl⟩
    subst h3
    refine ⟨y, ixOf_iff.2 ⟨k, j, m, by simp [toNid], rfl, h0, h1⟩, h2, rfl⟩
  · rintro ⟨y, hy, h2, h3⟩
    obtain ⟨k, j, m, e1, e2, h0, h1⟩ := ixOf_iff.1 hy
    refine ⟨(0 + (k : Int), (j : Int), y.gen), ⟨k, j, m, y, h0, h1, h2, rfl⟩, ?_⟩
    obtain ⟨s, i, g⟩ := n
    simp only at e1 e2 h3
    simp [toNid, e1, e2, h3]
def ltI (a b : Id3) : Prop := a.1 < b.1 ∨ a.1 = b.1 ∧ a.2.1 < b.2.1
theorem ixList_pair (k : Int) : ∀ (l : List Ix) (i : Int), (ixList k i l).Pairwise ltI
  | [], _ => List.Pairwise.nil
  | y :: l, i => by
    simp only [ixList]
    rw [List.pairwise_append]
    refine ⟨?_, ixList_pair k l (i + 1), fun a ha b hb => ?_⟩
    · split
      · exact List.pairwise_singleton _ _
      · exact List.Pairwise.nil
    · obtain ⟨j, z, _, _, rfl⟩ := (ixList_mem k l (i + 1) b).1 hb
      split at ha
      · obtain rfl : a = (k, i, y.gen) := by simpa using ha
        exact .inr ⟨rfl, by simp only; omega⟩
      · cases ha
theorem shList_pair : ∀ (M : List Sh) (k : Int), (shList k M).Pairwise ltI
  | [], _ => List.Pairwise.nil
  | m :: M, k => by
    simp only [shList]
    rw [List.pairwise_append]
    refine ⟨ixList_pair _ _ _, shList_pair M (k + 1), fun a ha b hb => ?_⟩
    obtain ⟨j, y, _, _, rfl⟩ := (ixList_mem k m.all 0 a).1 ha
    obtain ⟨n, j', m', y', _, _, _, rfl⟩ := (shList_mem M (k + 1) b).1 hb
    exact .inl (by simp only; omega)
theorem list_pair (M : List Sh) : ((listF M).map toNid).Pairwise fun a b => befN a b = true := by
  rw [List.pairwise_map]
  refine (shList_pair M 0).imp fun {a b} h => ?_
  rw [befN_iff]
  have e : beforeB a.1 a.2.1 a.2.2 b.1 b.2.1 b.2.2 = true := by
    unfold beforeB
    rcases h with h | ⟨h1, h2⟩
    · rw [if_pos (by omega)]; exact decide_eq_true h
    · rw [if_neg (by omega), if_pos (by omega)]; exact decide_eq_true h2
  rw [cmpId_before] at e
  exact of_decide_eq_true e
def spB (q : List Cm) : List Bun := (q.filter fun m => decide (m.k = 1)).map fun m => m.b
theorem spB_step {q : List Cm} {j : Nat} {m : Cm} (h : q[j]? = some m) : spB (q.take (j + 1)) = spB (q.take j) ++ if m.k = 1 then [m.b] else [] := by
  have hlt := (List.getElem?_eq_some_iff.1 h).1
  unfold spB
  rw [List.take_succ_eq_append_getElem hlt, (List.getElem?_eq_some_iff.1 h).2, List.filter_append, List.map_append]
  congr 1
  by_cases hk : m.k = 1 <;> simp [hk]
theorem spB_len (q : List Cm) : (spB q).length ≤ q.length := by unfold spB; rw [List.length_map]; exact List.length_filter_le _ _
theorem spB_ids (q : List Cm) : (spB q).map idOf = begM q := by unfold spB begM; rw [List.map_map]; rfl
theorem names_eq {c : Cfg} {n : Nat} {X : Wo} (h : WInv c n X) : (stableF cmpBun (X.L ++ spB X.D.q)).map idOf = (listF X.D.M).map toNid := by
  have hids : (X.L ++ spB X.D.q).map idOf = X.L.map idOf ++ begM X.D.q := by rw [List.map_append, spB_ids]
  have hu : UnId (X.L ++ spB X.D.q) := by
    have h1 := h.nd
    rw [← hids] at h1
    unfold List.Nodup at h1
    rw [List.pairwise_map] at h1
    exact h1.imp fun {a b} hn hs => hn ((sameId_iff a b).1 hs)
  have hr : Rise (stableF cmpBun (X.L ++ spB X.D.q)) := stF_rise hu
  refine strict_eq (rise_ids hr) (list_pair _) fun a => ?_
  rw [list_al, h.al, ← hids]
  exact ((stF_perm _).map idOf).mem_iff
end Go.Proofs.YtoimjjhopljdmaaGreat
