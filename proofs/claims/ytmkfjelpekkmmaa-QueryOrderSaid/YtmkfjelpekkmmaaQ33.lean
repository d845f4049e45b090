/-
  Chapter texts QmX: what the claim reaches of them. Conditions stand at each theorem.
-/
import Derived.Test.YtmkfjelpekkmmaaQ32
import Derived.Test.YtmkfjelpekkmmaaQ30
import Derived.Test.YtmkfjelpekkmmaaQ29
namespace Go.Proofs.Ytmkfjelpekkmmaa
open Go.RowKit Go.Sort

def nearG (px py d : Int) (l : List Bun) : List Bun := gSort (cmpFar px py) (l.filter fun b => decide (farF px py b.x b.y ≤ d))
theorem befG_far (px py : Int) (a b : Bun) : befG (cmpFar px py) a b = decide (farF px py a.x a.y < farF px py b.x b.y) := by
  unfold befG cmpFar
  have := cmpI_spec (farF px py a.x a.y) (farF px py b.x b.y)
  rw [Bool.eq_iff_iff, decide_eq_true_eq, decide_eq_true_eq]
  omega
theorem gSort_len (px py : Int) (l : List Bun) : (gSort (cmpFar px py) l).length = l.length := by rw [gSort_stable (cmpFar_ok px py)]; simp [stableF]
attribute [local go_sem ↓] loadVar_ldB storeVar_stB
set_option maxRecDepth 100000 in
set_option maxHeartbeats 4000000 in
theorem rnear12_any (v : Value) (l : List Bun) (w : World) (qa qn px py d : Int) (h : BIn w v l) (hl : l.length ≤ 1000000) (ha : I64 qa) (hm : ∀ b ∈ l, I64 b.m) :
    Calls Try.prog 25 #[v, .agg #[.int .i64 qa, .int .i64 qn], .int .i64 px, .int .i64 py, .int .i64 d] w fun e w' => ∃ v', e = .returned v' ∧ BNew w w' v' (nearG px py d (askF qa qn l)) := by
  have mixed : Try.prog.follows .mixedOrders = true := by kernel_rfl
  obtain ⟨i0, hi0, hz0, hz1, hz2⟩ := info_parts info_bunJ
  unfold nearG
  obtain ⟨w1, hw1, hc0, hb1, hf0, hs1⟩ := one_box w #[.int .i64 qa, .int .i64 qn] 23
  have HOF := Lib.hid (rof12_any v l w1 qa qn (h.keep hb1) hl ha hm)
  have hlen : (askF qa qn l).length ≤ 1000000 := by unfold askF; rw [stableF_len]; exact Nat.le_trans (List.length_filter_le _ _) hl
  obtain ⟨pl, cl, rfl, _⟩ := h
  have l0 : w.heap.size < w1.heap.size := by omega
  have q0 := hc0 0; simp at q0; have q1 := hc0 1; simp at q1
  have HW1 := Lib.hid hw1
  have HB1 := Lib.hid hb1
  obtain ⟨f, hf⟩ : ∃ f : Bun → Bool, f = fun b => decide (farF px py b.x b.y ≤ d) := ⟨_, rfl⟩
  rw [← hf]
  have HFD := Lib.hid (fun b => congrFun hf b)
  generalize askF qa qn l = la at *
  clear hw1 hb1 hc0 hf0 hs1 hm hf hl ha
  go_enter Try.func25, Try.ntmps25
  go_wp2_with fail
  rw [← HW1.out]
  refine HOF.out.mono ?_
  rintro e w2 ⟨v2, rfl, hN⟩
  obtain ⟨p2, c2, rfl⟩ := sl_frm hN.1
  have HB2 := Lib.hid (HB1.out.trans (hN.2.1.mono HB1.out.size))
  have H := Lib.hid hN.bin
  clear hN HOF q0 q1 l0
  go_wp2_with fail
  go_loopg [11, 13] la.length (fun kx o x wr => ∃ i : Nat, x = .int .i64 i ∧ i ≤ la.length ∧ la.length - i ≤ kx ∧ Hid (BNew w2 wr o (gSort (cmpFar px py) ((la.take i).filter f))))
  case atStart => exact ⟨0, by go_num, by omega, by omega, Lib.hid (BNew.nil w2)⟩
  case round =>
    obtain ⟨i, rfl, hil, hkx, HN⟩ := hrel
    by_cases hlt : i < la.length
    · have t1 : (i : Int) < (la.length : Int) := by omega
      obtain ⟨b, hb⟩ : ∃ b, la[i]? = some b := ⟨_, List.getElem?_eq_getElem hlt⟩
      have hbin := H.out.keep HN.out.2.1
      obtain ⟨gb, ob, cb, hv, hgb, hcb⟩ := hbin.cells hb
      simp only [Value.slice.injEq, true_and] at hv
      obtain ⟨rfl, rfl⟩ := hv
      have u4 := hcb 4 _ rfl
      have u5 := hcb 5 _ rfl
      have hstep : (la.take (i + 1)).filter f = (la.take i).filter f ++ if f b then [b] else [] := by
        rw [List.take_succ_eq_append_getElem hlt, List.filter_append, show la[i] = b from by have := List.getElem?_eq_getElem hlt; rw [hb] at this; exact (Option.some.inj this).symm]
        cases hh : f b <;> simp [hh]
      have HST0 := Lib.hid hstep
      have HFB := Lib.hid (fun W => rFar_any px py b.x b.y W)
      have hfb := HFD.out b
      obtain ⟨z0, z1, z2⟩ := ltz hgb
      have hfl : ((la.take i).filter f).length ≤ i := Nat.le_trans (List.length_filter_le _ _) (List.length_take_le _ _)
      have hbe := fun c : Bun => befG_far px py b c
      have HBE := Lib.hid hbe
      have HCB := Lib.hid hcb
      have HBB := Lib.hid hb
      clear hstep hbe hcb hb hbin
      cases hfv : f b with
      | false =>
        rw [hfv] at hfb HST0
        have hgt : d < farF px py b.x b.y := by have := hfb; simp at this; omega
        generalize farF px py b.x b.y = qb at *
        have HSTE : Hid ((la.take (i + 1)).filter f = (la.take i).filter f) := Lib.hid (by rw [HST0.out]; simp)
        clear hfb HST0 HBE hfv
        go_wp2_with fail
        refine wp_region_more (by kernel_rfl) (by kernel_rfl) ?_
        repeat (go_big_quiet_step ((first | (go_at_call 28; exact more_same (HFB.out _)))))
        refine wpQuiet_nil ?_
        rintro _ ⟨pm, rfl⟩
        go_wp2_with fail
        go_roundg (la.length - (i + 1))
        case measure => omega
        case rel => exact ⟨i + 1, by go_num, by omega, by omega, Lib.hid (by rw [HSTE.out]; exact HN.out.grow (by repeat' (first | (with_reducible exact Below.refl _ _) | (with_reducible assumption) | (with_reducible refine below_drewN ?_ _) | (with_reducible refine below_more _ _ _ ?_ ?_) | (with_reducible refine Below.alloc ?_ ?_ _) | (with_reducible refine Below.drew ?_) | (with_reducible refine Below.setCell ?_ ?_ _) | go_size)))⟩
      | true =>
        rw [hfv] at hfb HST0
        have hgt : farF px py b.x b.y ≤ d := by have := hfb; simp at this; omega
        generalize farF px py b.x b.y = qb at *
        have hstep : (la.take (i + 1)).filter f = (la.take i).filter f ++ [b] := by rw [HST0.out]; simp
        have hgl := gSort_len px py ((la.take i).filter f)
        have HSTE := Lib.hid (congrArg (gSort (cmpFar px py)) hstep)
        rw [gSort_snoc] at HSTE
        generalize gSort (cmpFar px py) ((la.take i).filter f) = ls at *
        have hll : ls.length ≤ i := by omega
        clear hfb HST0 hfv hstep hgl hfl
        obtain ⟨po, co, hpo⟩ := sl_frm HN.out.1
        subst hpo
        go_wp2_with fail
        refine wp_region_more (by kernel_rfl) (by kernel_rfl) ?_
        repeat (go_big_quiet_step ((first | (go_at_call 28; exact more_same (HFB.out _)))))
        refine wpQuiet_nil ?_
        rintro _ ⟨pm, rfl⟩
        have hmv : Below wr.heap.size wr (more wr pm.d pm.os) := more_below _ _ _
        generalize more wr pm.d pm.os = wm at *
        have hN2 := HN.out.grow hmv
        have HN2 := Lib.hid hN2
        have hld := ld_of (fun j u hj => cell_keep hmv (HCB.out j u hj))
        have hil2 : ls.length ≤ 1000000 := by omega
        clear u4 u5 HN
        go_wp2_with (at_builtin; refine wpList_append_sl _ (by rfl) _ _ 29 (by rfl) 51 i0 _ 11 88 Try.underlying29 hi0 hz0 hz1 hz2 rfl (by omega) _ ls.length (bunCells ls) (by rfl) (HN2.out.grow (by repeat' (first | (with_reducible exact Below.refl _ _) | (with_reducible assumption) | (with_reducible refine below_drewN ?_ _) | (with_reducible refine below_more _ _ _ ?_ ?_) | (with_reducible refine Below.alloc ?_ ?_ _) | (with_reducible refine Below.drew ?_) | (with_reducible refine Below.setCell ?_ ?_ _) | go_size))).1 ⟨_, 0, none⟩ 1 1 (bunL b) (by rfl) (by rfl) (new_cells _ _ _) (bunL_one b) (by omega) (by unfold maxLen; omega) (by omega) ?_; intro v' w4 hs4 ht4 ho4)
        have hmm := (HN2.out.grow (by repeat' (first | (with_reducible exact Below.refl _ _) | (with_reducible assumption) | (with_reducible refine below_drewN ?_ _) | (with_reducible refine below_more _ _ _ ?_ ?_) | (with_reducible refine Below.alloc ?_ ?_ _) | (with_reducible refine Below.drew ?_) | (with_reducible refine Below.setCell ?_ ?_ _) | go_size))).snoc hs4 ht4 ho4
        obtain ⟨g, off, cap, hvf, hgl, hcp⟩ := sl_some hs4
        subst hvf
        have HM := Lib.hid hmm
        have hld4 := Lib.hid (fun W (hW : Below w2.heap.size w2 W) => (H.out.keep hW).cells' HBB.out)
        clear hs4 ht4 ho4 hmm hld hgl hN2 HN2 hmv
        go_wp2_with fail
        go_loopg [15] ls.length (fun kx x wr => ∃ (k : Nat) (y : Bun), x = .int .i64 k ∧ k ≤ ls.length ∧ k ≤ kx ∧ Hid (BNew w2 wr (.slice (some ⟨g, off, none⟩) (ls.length + 1) cap) (ls.take k ++ y :: ls.drop k)) ∧ Hid (gPos (cmpFar px py) b ls k = gPos (cmpFar px py) b ls ls.length))
        case atStart => exact ⟨ls.length, b, rfl, by omega, by omega, Lib.hid (by rw [List.take_length, List.drop_length]; exact HM.out), Lib.hid rfl⟩
        case round =>
          clear HM
          obtain ⟨k1, y, rfl, hk, hkx2, HM, HP⟩ := hrel
          obtain ⟨wn, rfl⟩ : ∃ wn : World, wn = wr := ⟨_, rfl⟩
          have fin : befG (cmpFar px py) b (ls.getD (k1 - 1) default) = false ∨ k1 = 0 → gPos (cmpFar px py) b ls ls.length = k1 := fun h => by
            rw [← HP.out]
            cases k1 with
            | zero => rfl
            | succ k =>
              rcases h with h | h
              · unfold gPos; rw [Nat.add_sub_cancel] at h; rw [h]; rfl
              · omega
          have FIN := Lib.hid fin
          clear fin
          by_cases hk0 : 0 < k1
          · obtain ⟨k, rfl⟩ : ∃ k, k1 = k + 1 := ⟨k1 - 1, by omega⟩
            obtain ⟨c, hc⟩ : ∃ c, ls[k]? = some c := ⟨_, List.getElem?_eq_getElem (by omega)⟩
            have hkl : k < ls.length := by omega
            have e3 : ls.getD k default = c := by simp [List.getD, hc]
            have hcg : ls[k] = c := by have := List.getElem?_eq_getElem hkl; rw [hc] at this; exact (Option.some.inj this).symm
            have hmg := mid_get ls k y hkl
            rw [hcg] at hmg
            obtain ⟨lg, qc⟩ := HM.out.bin.cells' hmg
            have c4 := qc 4 _ rfl
            have c5 := qc 5 _ rfl
            have HQ := Lib.hid (And.intro hmg hcg)
            have HC := Lib.hid (And.intro hc e3)
            have HFC := Lib.hid (fun W => rFar_any px py c.x c.y W)
            have HBV := Lib.hid (HBE.out c)
            generalize farF px py c.x c.y = qc2 at *
            clear qc hmg hcg hc e3
            obtain ⟨x0, x1, x2, x3⟩ := ltq lg
            have hg0 : (0 : Int) < (k : Int) + 1 := by omega
            have ea1 : ((k : Int)).toNat = k := by omega
            have pa1 : (0 : Int) ≤ (k : Int) := by omega
            have ba1 : (k : Int) < (ls.length : Int) + 1 := by omega
            have ba2 : (k : Int) + 1 < (ls.length : Int) + 1 := by omega
            have ra1 : IntKind.i64.wrap (k : Int) = (k : Int) := by rw [IntKind.wrap_i64]; omega
            by_cases hbv : qb < qc2
            · have HBT := Lib.hid (HBV.out.trans (decide_eq_true hbv))
              clear HBV
              go_wp2_with fail
              refine wp_region_more (by kernel_rfl) (by kernel_rfl) ?_
              repeat (go_big_quiet_step ((first | (go_at_call 28; exact more_same (HFC.out _)))))
              refine wpQuiet_nil ?_
              rintro _ ⟨pm, rfl⟩
              have hN2 := HM.out.grow (more_below wn pm.d pm.os)
              have hst := hN2.store' (mid_len ls (k + 1) y (by omega)) (k := k + 1) (by omega) c
              have l44 := ld_of (hN2.bin.cells' HQ.out.1).2
              have s44 := hst.1
              have HST := Lib.hid hst.2
              clear hN2 hst c4 c5
              generalize more wn pm.d pm.os = W2 at *
              go_wp2_with fail
              go_roundg k
              case measure => omega
              case rel => exact ⟨k, c, by go_num, by omega, by omega, Lib.hid (by have h := HST.out; rw [← HQ.out.2, mid_step ls k y hkl] at h; rw [← HQ.out.2]; exact h), Lib.hid (by rw [← HP.out]; conv => rhs; unfold gPos; rw [HC.out.2, HBT.out, if_pos rfl])⟩
            · have HBT := Lib.hid (HBV.out.trans (decide_eq_false hbv))
              clear HBV
              go_wp2_with fail
              refine wp_region_more (by kernel_rfl) (by kernel_rfl) ?_
              repeat (go_big_quiet_step ((first | (go_at_call 28; exact more_same (HFC.out _)))))
              refine wpQuiet_nil ?_
              rintro _ ⟨pm, rfl⟩
              have hN2 := HM.out.grow (more_below wn pm.d pm.os)
              have hst := hN2.store' (mid_len ls (k + 1) y (by omega)) (k := k + 1) (by omega) b
              have l44 := ld_of (hld4.out _ hN2.2.1).2
              have s44 := hst.1
              have HST := Lib.hid hst.2
              clear hN2 hst c4 c5
              generalize more wn pm.d pm.os = W2 at *
              go_wp2_with fail
              go_roundg (la.length - (i + 1))
              case measure => omega
              case rel => exact ⟨i + 1, by go_num, by omega, by omega, Lib.hid (by
                have e := FIN.out (.inl (by rw [Nat.add_sub_cancel, HC.out.2]; exact HBT.out))
                have h := HST.out
                rw [mid_end ls (k + 1) y b (by omega)] at h
                rw [HSTE.out]
                unfold gIns
                rw [e]
                exact h)⟩
          · obtain rfl : k1 = 0 := by omega
            go_wp2_with fail
            refine wp_region_more (by kernel_rfl) (by kernel_rfl) ?_
            repeat (go_big_quiet_step (fail))
            refine wpQuiet_nil ?_
            rintro _ ⟨pn, rfl⟩
            have hN2 := HM.out.grow (more_below wn pn.d pn.os)
            have hst := hN2.store' (mid_len ls 0 y (by omega)) (k := 0) (by omega) b
            have l44 := ld_of (hld4.out _ hN2.2.1).2
            have s44 := hst.1
            have HST := Lib.hid hst.2
            rw [Nat.zero_mul, Nat.add_zero] at s44
            clear hN2 hst
            generalize more wn pn.d pn.os = W2 at *
            go_wp2_with fail
            go_roundg (la.length - (i + 1))
            case measure => omega
            case rel => exact ⟨i + 1, by go_num, by omega, by omega, Lib.hid (by
              have e := FIN.out (.inr (by simp))
              have h := HST.out
              rw [mid_end ls 0 y b (by omega), Nat.zero_mul, Nat.add_zero] at h
              rw [HSTE.out]
              unfold gIns
              rw [e]
              exact h)⟩
    · obtain rfl : i = la.length := by omega
      rw [List.take_length] at HN
      go_wp2_with fail
      go_ret
      exact ⟨_, rfl, HN.out.1, HB2.out.trans (HN.out.2.1.mono HB2.out.size), fun q hq => Nat.le_trans HB2.out.size (HN.out.2.2 q hq)⟩
end Go.Proofs.Ytmkfjelpekkmmaa
