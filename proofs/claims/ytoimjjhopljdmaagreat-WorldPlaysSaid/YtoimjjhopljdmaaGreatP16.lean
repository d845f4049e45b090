/- Texts SoP ShB ShC ShD ZnB SyD ZnD Boxed RfC GhP GhB GhC ShE GhD GhE GhF GhG GhI GhM GhU TkA: what the claim reaches of them. Conditions stand at each theorem. -/
import Derived.Deep.Slices
import Derived.Lib.SliceRun
import Derived.Test.YtoimjjhopljdmaaGreatP15
set_option maxRecDepth 100000
set_option maxHeartbeats 8000000
namespace Go.Proofs.YtoimjjhopljdmaaGreat
open Go.RowKit
open Go.Proofs.Tryz (prog)
open Go.Value (int)
open Go.IntKind (i64)
open Go.Lib (hid)
section
open Go.Sort
theorem bunCells_split : ∀ (l : List Bun) (t : Nat) (u : Value), (bunCells l)[t]? = some u → ∃ b, l[t / 11]? = some b ∧ (bunL b)[t % 11]? = some u := fun l t u h => by
 have ht : t < l.length * 11 := by have := (List.getElem?_eq_some_iff.1 h).1; rwa [bunCells_len] at this
 have hk : t / 11 < l.length := by omega
 refine ⟨l[t / 11], List.getElem?_eq_getElem hk, ?_⟩
 have e := bunCells_get l (t / 11) (t % 11) l[t / 11] (List.getElem?_eq_getElem hk) (Nat.mod_lt _ (by omega))
 rw [show t / 11 * 11 + t % 11 = t by omega] at e
 rw [← e]; exact h
theorem sl_store1 {w : World} {e : TypeId} {size n : Nat} {g off cap : Nat} {xs : List Value} (h : Sl w e size (.slice (some ⟨g, off, none⟩) n cap) n xs) {t : Nat} (ht : t < n * size) (u : Value) :
 (∃ u', w.cell? ⟨g, off + t, none⟩ = some u') ∧ w.frozen? ⟨g, off + t, none⟩ = false ∧ Sl (w.setCell ⟨g, off + t, none⟩ u) e size (.slice (some ⟨g, off, none⟩) n cap) n (xs.set t u) ∧ Turned w (w.setCell ⟨g, off + t, none⟩ u) (some g) := by
 obtain ⟨hl, ⟨h0, _⟩ | ⟨g', off', cap', cur, hv, hb, hn, hc, hsz, hr⟩⟩ := h
 · cases h0
 simp only [Value.slice.injEq, Option.some.injEq, Addr.mk.injEq, and_true, true_and] at hv
 obtain ⟨⟨rfl, rfl⟩, rfl⟩ := hv
 have hlt : off + t < cur.size := by
  have : n * size ≤ cap * size := Nat.mul_le_mul_right _ hn
  omega
 have hs := setCells_turned g [u] (off + t) w
 refine ⟨⟨cur[off + t], by simp [World.cell?, hb, hlt]⟩, by simp [World.frozen?, hb], ⟨by rw [List.length_set, hl], .inr ⟨g, off, cap, cur.setIfInBounds (off + t) u, rfl, ?_, hn, hc, by simpa using hsz, fun j v hj => ?_⟩⟩, hs⟩
 · simp [World.setCell, Array.getElem?_modify, hb]
 · rw [List.getElem?_set] at hj
   split at hj
   · rename_i e1
     subst e1
     split at hj
     · rw [Array.getElem?_setIfInBounds_self, if_pos hlt]; exact hj
     · cases hj
   · rename_i e1
     rw [Array.getElem?_setIfInBounds_ne (by omega)]
     exact hr j v hj
end
theorem abs_any (n : Int) (w : World) (h0 : -4294967296 ≤ n) (h1 : n ≤ 4294967296) : Calls prog 91 #[int i64 n] w fun e w' => e = .returned (int i64 (max n (-n))) ∧ w = w' := by
 by_cases h : n < 0
 · rw [show max n (-n) = -n by omega]
   go_enter Tryz.func91, Tryz.ntmps91
   go_wp2
   go_ret
   exact ⟨rfl, rfl⟩
 · rw [show max n (-n) = n by omega]
   have h' : 0 ≤ n := by omega
   go_enter Tryz.func91, Tryz.ntmps91
   go_wp2
   go_ret
   exact ⟨rfl, rfl⟩
theorem rFar_any (x y u v : Int) (w : World) : Calls prog 49 #[int i64 x, int i64 y, int i64 u, int i64 v] w fun e w' => e = .returned (int i64 (farF x y u v)) ∧ w = w' := by
 have h1 := clampF_lo x; have h2 := clampF_hi x; have h3 := clampF_lo u; have h4 := clampF_hi u
 have h5 := clampF_lo y; have h6 := clampF_hi y; have h7 := clampF_lo v; have h8 := clampF_hi v
 by_cases hc : max (clampF x - clampF u) (-(clampF x - clampF u)) > max (clampF y - clampF v) (-(clampF y - clampF v))
 · rw [show farF x y u v = max (clampF x - clampF u) (-(clampF x - clampF u)) by unfold farF; omega]
   generalize hcx : clampF x = cx at *
   generalize hcy : clampF y = cy at *
   generalize hcu : clampF u = cu at *
   generalize hcv : clampF v = cv at *
   have HX := hid (And.intro hcx (And.intro hcy (And.intro hcu hcv)))
   have HA := hid (fun n W a b => abs_any n W a b)
   have e1 := hid (fun W => by have := clamp_any x W; exact this)
   have C1 := hid (fun W => by have h := rClamp_any x W; rw [hcx] at h; exact h)
   have C2 := hid (fun W => by have h := rClamp_any u W; rw [hcu] at h; exact h)
   have C3 := hid (fun W => by have h := rClamp_any y W; rw [hcy] at h; exact h)
   have C4 := hid (fun W => by have h := rClamp_any v W; rw [hcv] at h; exact h)
   clear hcx hcy hcu hcv e1
   go_enter Tryz.func49, Tryz.ntmps49
   go_wp2_with fail
   refine eqA (C1.out _) ?_
   go_wp2_with fail
   refine eqA (C2.out _) ?_
   go_wp2_with fail
   refine eqA (HA.out _ _ (by omega) (by omega)) ?_
   go_wp2_with fail
   refine eqA (C3.out _) ?_
   go_wp2_with fail
   refine eqA (C4.out _) ?_
   go_wp2_with fail
   refine eqA (HA.out _ _ (by omega) (by omega)) ?_
   go_wp2_with fail
   go_ret
   exact ⟨rfl, rfl⟩
 · rw [show farF x y u v = max (clampF y - clampF v) (-(clampF y - clampF v)) by unfold farF; omega]
   generalize hcx : clampF x = cx at *
   generalize hcy : clampF y = cy at *
   generalize hcu : clampF u = cu at *
   generalize hcv : clampF v = cv at *
   have HA := hid (fun n W a b => abs_any n W a b)
   have C1 := hid (fun W => by have h := rClamp_any x W; rw [hcx] at h; exact h)
   have C2 := hid (fun W => by have h := rClamp_any u W; rw [hcu] at h; exact h)
   have C3 := hid (fun W => by have h := rClamp_any y W; rw [hcy] at h; exact h)
   have C4 := hid (fun W => by have h := rClamp_any v W; rw [hcv] at h; exact h)
   clear hcx hcy hcu hcv
   go_enter Tryz.func49, Tryz.ntmps49
   go_wp2_with fail
   refine eqA (C1.out _) ?_
   go_wp2_with fail
   refine eqA (C2.out _) ?_
   go_wp2_with fail
   refine eqA (HA.out _ _ (by omega) (by omega)) ?_
   go_wp2_with fail
   refine eqA (C3.out _) ?_
   go_wp2_with fail
   refine eqA (C4.out _) ?_
   go_wp2_with fail
   refine eqA (HA.out _ _ (by omega) (by omega)) ?_
   go_wp2_with fail
   go_ret
   exact ⟨rfl, rfl⟩
theorem addF_in (q n : Int) (h0 : -1073741824 ≤ q) (h1 : q ≤ 1073741824) : addF q n = clampF (q + clampF n) := by unfold addF; rw [clampF_id q h0 h1]
theorem addF_rng (q n : Int) : -1073741824 ≤ addF q n ∧ addF q n ≤ 1073741824 := ⟨clampF_lo _, clampF_hi _⟩
theorem takesF_rng (r : Int) (b : Bun) : ∀ (l : List Bun) (q : Int), -1073741824 ≤ q ∧ q ≤ 1073741824 → -1073741824 ≤ takesF r b q l ∧ takesF r b q l ≤ 1073741824
 | [], q, h => h
 | c :: l, q, h => by
   unfold takesF
   split
   · exact takesF_rng r b l _ (addF_rng _ _)
   · exact takesF_rng r b l q h
theorem rTakes14 (b : Bun) (v : Value) (l : List Bun) (r n0 : Int) (w : World) (h : BIn w v l) (hf : ∀ c ∈ l, BFit c) (hl : l.length ≤ 1000) (hn0 : -1073741824 ≤ n0) (hn1 : n0 ≤ 1073741824) :
 Calls prog 92 #[b.v, v, int i64 r, int i64 n0] w fun e w' => e = .returned (int i64 (takesF r b n0 l)) ∧ Below w.heap.size w w' := by
 have H := hid h
 have HF := hid hf
 obtain ⟨p, e, rfl, _⟩ := h
 clear hf
 obtain ⟨s, i, g, m, x, y, vx, vy, hp, pw, lf⟩ := b
 go_enter Tryz.func92, Tryz.ntmps92
 go_wp2_with fail
 go_loopg [9, 3] l.length (fun kx sx sn wr => ∃ (t : Nat) (q : Int), sx = int i64 t ∧ sn = int i64 q ∧ t ≤ l.length ∧ l.length - t ≤ kx ∧ -1073741824 ≤ q ∧ q ≤ 1073741824 ∧ Hid (takesF r ⟨s, i, g, m, x, y, vx, vy, hp, pw, lf⟩ q (l.drop t) = takesF r ⟨s, i, g, m, x, y, vx, vy, hp, pw, lf⟩ n0 l) ∧ Hid (Below w.heap.size w wr) ∧ w.heap.size < wr.heap.size ∧ Hid (∀ u, wr.cell? ⟨w.heap.size, u, none⟩ = (#[int i64 s, int i64 i, int i64 g, int i64 m, int i64 x, int i64 y, int i64 vx, int i64 vy, int i64 hp, int i64 pw, int i64 lf] : Array Value)[u]?))
 case atStart => exact ⟨0, n0, by go_num, rfl, by omega, by omega, hn0, hn1, hid rfl, hid bg, by simp, hid (fun u => by simp)⟩
 case round =>
  obtain ⟨t, q, rfl, rfl, ht, hkx, hq0, hq1, HFF, HW, hsz, HB⟩ := hrel
  by_cases hlt : t < l.length
  · have t3 : (t : Int) < (l.length : Int) := by omega
    obtain ⟨c, hc⟩ : ∃ c, l[t]? = some c := ⟨_, List.getElem?_eq_getElem hlt⟩
    obtain ⟨gc, oc, cc, hv, hgc, hcc⟩ := (H.out.keep HW.out).cells hc
    simp only [Value.slice.injEq, true_and] at hv
    obtain ⟨rfl, rfl⟩ := hv
    have u0 := hcc 0 _ rfl
    have u1 := hcc 1 _ rfl
    have u2 := hcc 2 _ rfl
    have u3 := hcc 3 _ rfl
    have u4 := hcc 4 _ rfl
    have u5 := hcc 5 _ rfl
    have u6 := hcc 6 _ rfl
    have u7 := hcc 7 _ rfl
    have u8 := hcc 8 _ rfl
    have u9 := hcc 9 _ rfl
    have u10 := hcc 10 _ rfl
    simp only [Nat.add_zero] at u0
    have y0 := HB.out 0; simp at y0
    have y1 := HB.out 1; simp at y1
    have y2 := HB.out 2; simp at y2
    have y4 := HB.out 4; simp at y4
    have y5 := HB.out 5; simp at y5
    have hq := HFF.out
    rw [List.drop_eq_getElem_cons hlt, show l[t] = c from by have := List.getElem?_eq_getElem hlt; rw [hc] at this; exact (Option.some.inj this).symm] at hq
    simp only [takesF] at hq
    have HQ := hid hq
    have hfit := HF.out c (List.mem_of_getElem? hc)
    obtain ⟨z0, z1, z2, z3⟩ := ltq hsz
    clear hq hcc hc HFF
    obtain ⟨s', i', g', m', x', y', vx', vy', hp', pw', lf'⟩ := c
    have hbit := fun W => bit_any m' 8 W hfit.2.2.2.1.1 hfit.2.2.2.1.2 (by omega)
    rw [← hasB_tb8] at hbit
    have HBIT := hid hbit
    clear hbit hfit
    cases h1 : idEq s' i' g' s i g with
    | true =>
      have ht : takeC r ⟨s, i, g, m, x, y, vx, vy, hp, pw, lf⟩ ⟨s', i', g', m', x', y', vx', vy', hp', pw', lf'⟩ = false := by unfold takeC; simp only; rw [h1]; rfl
      have HT := hid ht
      clear ht
      go_wp2_with (first | (go_at_call 41; refine eqA (HBIT.out _) ?_) | (go_at_call 49; refine eqA (rFar_any _ _ _ _ _) ?_))
      go_roundg (l.length - (t + 1))
      case measure => omega
      case rel => exact ⟨t + 1, q, by go_num, rfl, by omega, by omega, hq0, hq1, hid (by have h := HQ.out; rw [HT.out] at h; exact h), hid (HW.out.trans (Below.mono (B := wr.heap.size) bg HW.out.size)), by simp; omega, hid (fun u => by rw [← HB.out u]; exact Below.cell (B := wr.heap.size) bg (by simpa using hsz))⟩
    | false =>
      cases h2 : hasB m' 8 with
      | false =>
        have ht : takeC r ⟨s, i, g, m, x, y, vx, vy, hp, pw, lf⟩ ⟨s', i', g', m', x', y', vx', vy', hp', pw', lf'⟩ = false := by unfold takeC; simp only; rw [h1, h2]; rfl
        have HT := hid ht
        clear ht
        go_wp2_with (first | (go_at_call 41; refine eqA (HBIT.out _) ?_) | (go_at_call 49; refine eqA (rFar_any _ _ _ _ _) ?_))
        go_roundg (l.length - (t + 1))
        case measure => omega
        case rel => exact ⟨t + 1, q, by go_num, rfl, by omega, by omega, hq0, hq1, hid (by have h := HQ.out; rw [HT.out] at h; exact h), hid (HW.out.trans (Below.mono (B := wr.heap.size) bg HW.out.size)), by simp; omega, hid (fun u => by rw [← HB.out u]; exact Below.cell (B := wr.heap.size) bg (by simpa using hsz))⟩
      | true =>
        cases h3 : decide (farF x y x' y' ≤ r) with
        | false =>
          have ht : takeC r ⟨s, i, g, m, x, y, vx, vy, hp, pw, lf⟩ ⟨s', i', g', m', x', y', vx', vy', hp', pw', lf'⟩ = false := by unfold takeC; simp only; rw [h1, h2, h3]; rfl
          have HT := hid ht
          clear ht
          go_wp2_with (first | (go_at_call 41; refine eqA (HBIT.out _) ?_) | (go_at_call 49; refine eqA (rFar_any _ _ _ _ _) ?_))
          go_roundg (l.length - (t + 1))
          case measure => omega
          case rel => exact ⟨t + 1, q, by go_num, rfl, by omega, by omega, hq0, hq1, hid (by have h := HQ.out; rw [HT.out] at h; exact h), hid (HW.out.trans (Below.mono (B := wr.heap.size) bg HW.out.size)), by simp; omega, hid (fun u => by rw [← HB.out u]; exact Below.cell (B := wr.heap.size) bg (by simpa using hsz))⟩
        | true =>
          have ht : takeC r ⟨s, i, g, m, x, y, vx, vy, hp, pw, lf⟩ ⟨s', i', g', m', x', y', vx', vy', hp', pw', lf'⟩ = true := by unfold takeC; simp only; rw [h1, h2, h3]; rfl
          have HT := hid ht
          have HA := hid (addF_in q pw' hq0 hq1)
          have HR := hid (addF_rng q pw')
          have hp0 := clampF_lo pw'
          have hp1 := clampF_hi pw'
          have C1 := hid (fun W => rClamp_any pw' W)
          generalize clampF pw' = cw at *
          have C2 := hid (fun W => by have h := rClamp_any (q + cw) W; rw [← HA.out] at h; exact h)
          clear ht
          go_wp2_with (first | (go_at_call 41; refine eqA (HBIT.out _) ?_) | (go_at_call 49; refine eqA (rFar_any _ _ _ _ _) ?_))
          refine eqA (C1.out _) ?_
          go_wp2_with fail
          refine eqA (C2.out _) ?_
          go_wp2_with fail
          go_roundg (l.length - (t + 1))
          case measure => omega
          case rel => exact ⟨t + 1, _, by go_num, rfl, by omega, by omega, HR.out.1, HR.out.2, hid (by have h := HQ.out; rw [HT.out] at h; exact h), hid (HW.out.trans (Below.mono (B := wr.heap.size) bg HW.out.size)), by simp; omega, hid (fun u => by rw [← HB.out u]; exact Below.cell (B := wr.heap.size) bg (by simpa using hsz))⟩
  · have t3 : ¬ (t : Int) < (l.length : Int) := by omega
    obtain rfl : t = l.length := by omega
    have hq := HFF.out
    rw [List.drop_length] at hq
    simp only [takesF] at hq
    have HQ := hid hq
    clear hq HFF
    go_wp2_with fail
    go_ret
    exact ⟨by rw [← HQ.out]; rfl, HW.out⟩
theorem stableF_mem (l : List Bun) (b : Bun) (h : b ∈ stableF cmpBun l) : b ∈ l := by
 unfold stableF at h
 obtain ⟨x, hx, rfl⟩ := List.mem_map.1 h
 have h1 := (List.mergeSort_perm _ _).mem_iff.1 hx
 have h2 := List.mem_zipIdx_iff_getElem?.1 h1
 exact List.mem_of_getElem? h2
theorem rHits_any (r : Int) (v1 v2 : Value) (l1 l2 : List Bun) (w : World) (h1 : BIn w v1 l1) (h2 : BIn w v2 l2) (hf1 : ∀ c ∈ l1, BFit c) (hf2 : ∀ c ∈ l2, BFit c) (hl1 : l1.length ≤ 1000) (hl2 : l2.length ≤ 1000) :
 Calls prog 51 #[int i64 r, v1, v2] w fun e w' => ∃ v', e = .returned v' ∧ RNew hitL 149 4 w w' v' (hitsF r l1 l2) := by
 obtain ⟨i0, hi0, hz0, hz1, hz2⟩ := info_parts info_hitJ
 have T1 := hid (fun b n W hW a c => rTakes14 b v1 l1 r n W (h1.keep hW) hf1 hl1 a c)
 have T2 := hid (fun b n W hW a c => rTakes14 b v2 l2 r n W (h2.keep hW) hf2 hl2 a c)
 have hso := rsorted_any v1 l1 w h1 (by omega)
 unfold hitsF
 have hfs : ∀ c ∈ stableF cmpBun l1, BFit c := fun c hc => hf1 c (stableF_mem l1 c hc)
 generalize hls : stableF cmpBun l1 = ls at *
 have hlsn : ls.length ≤ 1000 := by rw [← hls, stableF_len]; exact hl1
 have HSO := hid hso
 have HFS := hid hfs
 clear hso hls hfs hf1 hf2
 obtain ⟨p1, e1, rfl, _⟩ := h1
 obtain ⟨p2, e2, rfl, _⟩ := h2
 go_enter Tryz.func51, Tryz.ntmps51
 go_wp2_with fail
 refine HSO.out.mono ?_
 rintro e w1 ⟨vs, rfl, hS⟩
 obtain ⟨ps, cs, rfl⟩ := sl_frm hS.1
 have HS := hid hS
 have hsz1 := hS.2.1.size
 clear hS
 go_wp2_with fail
 go_loopg [9, 7] ls.length (fun kx sx o wr => ∃ k : Nat, sx = int i64 k ∧ k ≤ ls.length ∧ ls.length - k ≤ kx ∧ Hid (Below w1.heap.size w1 wr) ∧ Hid (RNew hitL 149 4 w1 wr o ((ls.take k).filterMap (hitOf r l1 l2))) ∧ Hid (((ls.take k).filterMap (hitOf r l1 l2)).length ≤ k))
 case atStart => exact ⟨0, by go_num, by omega, by omega, hid (Below.refl _ _), hid (RNew.nil w1), hid (Nat.le_refl _)⟩
 case round =>
  obtain ⟨k, rfl, hk, hkx, HW, HN, HNL⟩ := hrel
  by_cases hlt : k < ls.length
  · have t1 : (k : Int) < (ls.length : Int) := by omega
    obtain ⟨b, hb⟩ : ∃ b, ls[k]? = some b := ⟨_, List.getElem?_eq_getElem hlt⟩
    obtain ⟨gb, ob, cb, hv, hgb, hcb⟩ := (HS.out.bin.keep HW.out).cells hb
    simp only [Value.slice.injEq, true_and] at hv
    obtain ⟨rfl, rfl⟩ := hv
    have c0 := hcb 0 _ rfl
    have c1 := hcb 1 _ rfl
    have c2 := hcb 2 _ rfl
    have c3 := hcb 3 _ rfl
    have c4 := hcb 4 _ rfl
    have c5 := hcb 5 _ rfl
    have c6 := hcb 6 _ rfl
    have c7 := hcb 7 _ rfl
    have c8 := hcb 8 _ rfl
    have c9 := hcb 9 _ rfl
    have c10 := hcb 10 _ rfl
    simp only [Nat.add_zero] at c0
    obtain ⟨po, co, rfl⟩ := sl_frm HN.out.1
    have hstep : (ls.take (k + 1)).filterMap (hitOf r l1 l2) = (ls.take k).filterMap (hitOf r l1 l2) ++ (hitOf r l1 l2 b).toList := by
     rw [List.take_succ_eq_append_getElem hlt, List.filterMap_append, show ls[k] = b from by have := List.getElem?_eq_getElem hlt; rw [hb] at this; exact (Option.some.inj this).symm]
     cases hh : hitOf r l1 l2 b <;> simp [hh]
    have HST := hid hstep
    have hfit := HFS.out b (List.mem_of_getElem? hb)
    have hgl := hgb
    obtain ⟨z0, z1, z2⟩ := ltw hgb
    clear hstep hcb hb hgl
    generalize hacc : (ls.take k).filterMap (hitOf r l1 l2) = acc at *
    have hal := HNL.out
    have HAC := hid hacc
    clear hacc HNL
    obtain ⟨s, i, g, m, x, y, vx, vy, hp, pw, lf⟩ := b
    have hbit := fun W => bit_any m 4 W hfit.2.2.2.1.1 hfit.2.2.2.1.2 (by omega)
    rw [← hasB_tb4] at hbit
    have HBIT := hid hbit
    clear hbit hfit
    cases hlife : hasB m 4 with
    | false =>
      have he : hitOf r l1 l2 ⟨s, i, g, m, x, y, vx, vy, hp, pw, lf⟩ = none := by unfold hitOf; simp only; rw [hlife]; rfl
      rw [he] at HST
      have HE := hid HST.out
      clear he HST
      go_wp2_with (go_at_call 41; refine eqA (HBIT.out _) ?_)
      go_roundg (ls.length - (k + 1))
      case measure => omega
      case rel => exact ⟨k + 1, by go_num, by omega, by omega, HW, hid (by rw [HE.out]; simpa using HN.out), hid (by rw [HE.out]; simp; omega)⟩
    | true =>
      have hho : hitOf r l1 l2 ⟨s, i, g, m, x, y, vx, vy, hp, pw, lf⟩ = if 0 < takesF r ⟨s, i, g, m, x, y, vx, vy, hp, pw, lf⟩ (takesF r ⟨s, i, g, m, x, y, vx, vy, hp, pw, lf⟩ 0 l1) l2 then some ⟨s, i, g, takesF r ⟨s, i, g, m, x, y, vx, vy, hp, pw, lf⟩ (takesF r ⟨s, i, g, m, x, y, vx, vy, hp, pw, lf⟩ 0 l1) l2⟩ else none := by
       unfold hitOf; simp only; rw [hlife]; rfl
      have HHO := hid hho
      have hr1 := takesF_rng r ⟨s, i, g, m, x, y, vx, vy, hp, pw, lf⟩ l1 0 (by omega)
      have hww := HS.out.2.1.trans (HW.out.mono HS.out.2.1.size)
      have q1 := hid (T1.out ⟨s, i, g, m, x, y, vx, vy, hp, pw, lf⟩ 0 wr hww (by omega) (by omega))
      have q2 := hid (fun W (hW : Below wr.heap.size wr W) => T2.out ⟨s, i, g, m, x, y, vx, vy, hp, pw, lf⟩ (takesF r ⟨s, i, g, m, x, y, vx, vy, hp, pw, lf⟩ 0 l1) W (hww.trans (hW.mono hww.size)) hr1.1 hr1.2)
      clear hho hww
      generalize takesF r ⟨s, i, g, m, x, y, vx, vy, hp, pw, lf⟩ 0 l1 = n1 at *
      generalize takesF r ⟨s, i, g, m, x, y, vx, vy, hp, pw, lf⟩ n1 l2 = n at *
      go_wp2_with (go_at_call 41; refine eqA (HBIT.out _) ?_)
      refine q1.out.mono ?_; rintro e w' ⟨rfl, hb⟩; obtain ⟨d1, os1, rfl⟩ := more_of hb; clear hb
      go_wp2_with fail
      refine belA (q2.out _ bg) fun d2 os2 => ?_
      by_cases hn : 0 < n
      · have hho := HHO.out
        rw [if_pos hn] at hho
        rw [hho] at HST
        have HST2 := hid HST.out
        clear hho HST HHO
        go_wp2_with (at_builtin; refine wpList_append_sl _ (by rfl) _ _ 97 (by rfl) 149 i0 _ 4 32 Tryz.underlying97 hi0 hz0 hz1 hz2 rfl (by omega) _ acc.length (cellsR hitL acc) (by rfl) (HN.out.grow bg).1 ⟨_, 0, none⟩ 1 1 (hitL ⟨s, i, g, n⟩) (by rfl) (by rfl) (new_cellsN _ _ _ _ (by simp)) (hitL_one _) (by omega) (by unfold maxLen; omega) (by omega) ?_; intro v' w4 hs4 ht4 ho4)
        have hm := (HN.out.grow bg).snoc hs4 ht4 ho4
        have HM := hid hm
        clear hs4 ht4 ho4 hm
        go_roundg (ls.length - (k + 1))
        case measure => omega
        case rel => exact ⟨k + 1, by go_num, by omega, by omega, hid HM.out.2.1, hid (by rw [HST2.out]; simpa using HM.out), hid (by rw [HST2.out]; simp; omega)⟩
      · have hho := HHO.out
        rw [if_neg hn] at hho
        rw [hho] at HST
        have HST2 := hid HST.out
        clear hho HST HHO
        go_wp2_with fail
        go_roundg (ls.length - (k + 1))
        case measure => omega
        case rel => exact ⟨k + 1, by go_num, by omega, by omega, hid (HW.out.trans (Below.mono (B := wr.heap.size) bg HW.out.size)), hid (by rw [HST2.out]; simpa using HN.out.grow bg), hid (by rw [HST2.out]; simp; omega)⟩
  · have t1 : ¬ (k : Int) < (ls.length : Int) := by omega
    obtain rfl : k = ls.length := by omega
    rw [List.take_length] at HN
    go_wp2_with fail
    go_ret
    exact ⟨_, rfl, HN.out.since HS.out.2.1⟩
def nextB (cols k i : Int) : Bool := !(i == k) && (max (i % cols - k % cols) (max (-(i % cols - k % cols)) (max (i / cols - k / cols) (-(i / cols - k / cols)))) == 1)
def besideF (c : Cfg) (k : Int) : List Int := ((List.range (c.cols * c.rows).toNat).map fun i : Nat => (i : Int)).filter (nextB c.cols k)
theorem more_alloc (w : World) (d : Nat) (os : Array Obj) (o : Obj) : (more w d os).alloc o = more w d (os.push o) := by
 have e : (w.heap ++ os).push o = w.heap ++ os.push o := by apply Array.ext'; simp
 show ({ more w d os with heap := (w.heap ++ os).push o } : World) = _
 rw [e]
 rfl
def moveF (c : Cfg) (b : Bun) : Bun :=
 let x := if hasB b.m 2 then addF b.x (max (-c.speed) (min c.speed b.vx)) else b.x
 let y := if hasB b.m 2 then addF b.y (max (-c.speed) (min c.speed b.vy)) else b.y
 { b with x := (inF c x y).1, y := (inF c x y).2 }
theorem move_vel (w : World) (bm : Nat) (c : Cfg) (s i g m x y vx vy hp pw lf : Int) (h : MapAt w bm c) (ho : CfgOk c) (hb : hasB m 2 = true) :
 Calls prog 104 #[.pointer (some ⟨bm, 0, none⟩), .agg #[int i64 s, int i64 i, int i64 g, int i64 m, int i64 x, int i64 y, int i64 vx, int i64 vy, int i64 hp, int i64 pw, int i64 lf]] w fun e w' => e = .returned (moveF c ⟨s, i, g, m, x, y, vx, vy, hp, pw, lf⟩).v ∧ Below w.heap.size w w' := by
 have h4 := h.cell 4
 simp only [List.getElem?_toArray, List.getElem?_cons_succ, List.getElem?_cons_zero] at h4
 have HZ := hid (fun W (hW : Below w.heap.size w W) x y => zin_any W bm c x y (h.grow hW) ho)
 have hbm : bm < w.heap.size := World.block_lt_of_cell? w _ h4
 obtain ⟨b10, b11, b12, b13⟩ := ltb hbm
 obtain ⟨b20, b21, b22, b23⟩ := ltb b10
 have hs0 := ho.v0
 have hs1 := ho.v1
 have hs2 := ho.s1
 obtain ⟨cols, rows, side, radius, speed, ids, queue⟩ := c
 simp only at h4 hs0 hs1 hs2
 go_enter Tryz.func104, Tryz.ntmps104
 go_wp2_with (go_at_call 136; refine belA (has_any _ _ _ _ _ _ _ _ _ _ _ _ _) fun d os => ?_)
 go_still_tail 17, (by kernel_rfl)
 go_wp2_with (go_at_call 138; refine eqA (add_any _ x (max (-speed) (min speed vx)) _ (by simp [go_sem]) (by simp [go_sem])) ?_)
 rw [more_alloc]
 generalize os.push _ = os2
 go_still_tail 17, (by kernel_rfl)
 go_wp2_with (go_at_call 138; refine eqA (add_any _ y (max (-speed) (min speed vy)) _ (by simp [go_sem]) (by simp [go_sem])) ?_)
 refine (HZ.out _ bg _ _).mono ?_
 rintro e w' ⟨rfl, nz, rfl⟩
 go_wp2_with fail
 go_returns
 refine ⟨?_, bg⟩
 simp [moveF, hb]
theorem move_rest (w : World) (bm : Nat) (c : Cfg) (s i g m x y vx vy hp pw lf : Int) (h : MapAt w bm c) (ho : CfgOk c) (hb : hasB m 2 = false) :
 Calls prog 104 #[.pointer (some ⟨bm, 0, none⟩), .agg #[int i64 s, int i64 i, int i64 g, int i64 m, int i64 x, int i64 y, int i64 vx, int i64 vy, int i64 hp, int i64 pw, int i64 lf]] w fun e w' => e = .returned (moveF c ⟨s, i, g, m, x, y, vx, vy, hp, pw, lf⟩).v ∧ Below w.heap.size w w' := by
 have HZ := hid (fun W (hW : Below w.heap.size w W) x y => zin_any W bm c x y (h.grow hW) ho)
 clear h ho
 go_enter Tryz.func104, Tryz.ntmps104
 go_wp2_with (go_at_call 136; refine belA (has_any _ _ _ _ _ _ _ _ _ _ _ _ _) fun d os => ?_)
 refine (HZ.out _ bg _ _).mono ?_
 rintro e w' ⟨rfl, nz, rfl⟩
 go_wp2_with fail
 go_returns
 refine ⟨?_, bg⟩
 simp [moveF, hb]
theorem move_any (w : World) (bm : Nat) (c : Cfg) (s i g m x y vx vy hp pw lf : Int) (h : MapAt w bm c) (ho : CfgOk c) :
 Calls prog 104 #[.pointer (some ⟨bm, 0, none⟩), .agg #[int i64 s, int i64 i, int i64 g, int i64 m, int i64 x, int i64 y, int i64 vx, int i64 vy, int i64 hp, int i64 pw, int i64 lf]] w fun e w' => e = .returned (.agg #[int i64 (moveF c ⟨s, i, g, m, x, y, vx, vy, hp, pw, lf⟩).s, int i64 (moveF c ⟨s, i, g, m, x, y, vx, vy, hp, pw, lf⟩).i, int i64 (moveF c ⟨s, i, g, m, x, y, vx, vy, hp, pw, lf⟩).g, int i64 (moveF c ⟨s, i, g, m, x, y, vx, vy, hp, pw, lf⟩).m, int i64 (moveF c ⟨s, i, g, m, x, y, vx, vy, hp, pw, lf⟩).x, int i64 (moveF c ⟨s, i, g, m, x, y, vx, vy, hp, pw, lf⟩).y, int i64 (moveF c ⟨s, i, g, m, x, y, vx, vy, hp, pw, lf⟩).vx, int i64 (moveF c ⟨s, i, g, m, x, y, vx, vy, hp, pw, lf⟩).vy, int i64 (moveF c ⟨s, i, g, m, x, y, vx, vy, hp, pw, lf⟩).hp, int i64 (moveF c ⟨s, i, g, m, x, y, vx, vy, hp, pw, lf⟩).pw, int i64 (moveF c ⟨s, i, g, m, x, y, vx, vy, hp, pw, lf⟩).lf]) ∧ Below w.heap.size w w' := by
 cases hb : hasB m 2 with
 | true => exact move_vel w bm c s i g m x y vx vy hp pw lf h ho hb
 | false => exact move_rest w bm c s i g m x y vx vy hp pw lf h ho hb
theorem near_any (v n : Int) (w : World) (h0 : 0 ≤ n) (h1 : n ≤ 1073741824) : Calls prog 95 #[int i64 v, int i64 n] w fun e w' => e = .returned (int i64 (max (-n) (min n v))) ∧ w = w' := by
 by_cases h2 : n < v
 · rw [show max (-n) (min n v) = n by omega]
   go_enter Tryz.func95, Tryz.ntmps95
   go_wp2
   go_ret
   exact ⟨rfl, rfl⟩
 · by_cases h3 : v < -n
   · rw [show max (-n) (min n v) = -n by omega]
     have h4 : v ≤ n := by omega
     clear h2
     go_enter Tryz.func95, Tryz.ntmps95
     go_wp2
     go_ret
     exact ⟨rfl, rfl⟩
   · rw [show max (-n) (min n v) = v by omega]
     have h4 : v ≤ n := by omega
     have h5 : -n ≤ v := by omega
     clear h2 h3
     go_enter Tryz.func95, Tryz.ntmps95
     go_wp2
     go_ret
     exact ⟨rfl, rfl⟩
theorem into_any (x n : Int) (w : World) (h0 : 1 ≤ n) (h1 : n ≤ 1073741824) : Calls prog 62 #[int i64 x, int i64 n] w fun e w' => e = .returned (int i64 (max 0 (min x (n - 1)))) ∧ w = w' := by
 by_cases h2 : x < 0
 · rw [show max 0 (min x (n - 1)) = 0 by omega]
   go_enter Tryz.func62, Tryz.ntmps62
   go_wp2
   go_ret
   exact ⟨rfl, rfl⟩
 · have h2' : 0 ≤ x := by omega
   by_cases h3 : n ≤ x
   · rw [show max 0 (min x (n - 1)) = n - 1 by omega]
     clear h2
     go_enter Tryz.func62, Tryz.ntmps62
     go_wp2
     go_ret
     exact ⟨rfl, rfl⟩
   · rw [show max 0 (min x (n - 1)) = x by omega]
     have h4 : x < n := by omega
     clear h2 h3
     go_enter Tryz.func62, Tryz.ntmps62
     go_wp2
     go_ret
     exact ⟨rfl, rfl⟩
theorem rIn_k (cols rows side radius speed ids queue x y : Int) (w : World) (ho : CfgOk ⟨cols, rows, side, radius, speed, ids, queue⟩) :
 Calls prog 27 #[.agg #[int i64 cols, int i64 rows, int i64 side, int i64 radius, int i64 speed, int i64 ids, int i64 queue], int i64 x, int i64 y] w fun e w' => e = .returned (.tuple #[int i64 (inF ⟨cols, rows, side, radius, speed, ids, queue⟩ x y).1, int i64 (inF ⟨cols, rows, side, radius, speed, ids, queue⟩ x y).2]) ∧ Below w.heap.size w w' := by
 obtain ⟨p1, p2, p3, p4⟩ := ho.prod
 simp only at p1 p2 p3 p4
 simp only [inF]
 clear ho
 generalize hx1 : cols * side = x1 at *
 generalize hy1 : rows * side = y1 at *
 go_enter Tryz.func27, Tryz.ntmps27
 go_wp2_with fail
 refine wpm ?_
 repeat (go_big_quiet_step ((first | (go_at_call 62; exact more_same (into_any _ _ _ (by omega) (by omega))))))
 refine wpQuiet_nil ?_
 rintro _ ⟨pm, rfl⟩
 go_wp2_with fail
 go_ret2
 exact ⟨rfl, bg⟩
theorem addF_near (x v n : Int) (h0 : 0 ≤ n) (h1 : n ≤ 1073741824) : clampF (clampF x + max (-n) (min n v)) = addF x (max (-n) (min n v)) := by
 unfold addF
 rw [clampF_id (max (-n) (min n v)) (by omega) (by omega)]
theorem div_near {x x' s : Int} (hs : 0 < s) (h1 : x - s ≤ x') (h2 : x' ≤ x + s) : -1 ≤ x' / s - x / s ∧ x' / s - x / s ≤ 1 := by
 have e1 : (x - s) / s = x / s - 1 := by rw [Int.sub_ediv_of_dvd x (Int.dvd_refl s), Int.ediv_self (by omega)]
 have e2 : (x + s) / s = x / s + 1 := by rw [Int.add_ediv_of_dvd_right (Int.dvd_refl s), Int.ediv_self (by omega)]
 have h3 := Int.ediv_le_ediv hs h1
 have h4 := Int.ediv_le_ediv hs h2
 omega
theorem mem_beside {c : Cfg} {k i : Int} (h0 : 0 ≤ i) (h1 : i < c.cols * c.rows) (h : nextB c.cols k i = true) : i ∈ besideF c k := by
 unfold besideF
 refine List.mem_filter.2 ⟨List.mem_map.2 ⟨i.toNat, List.mem_range.2 (by omega), by omega⟩, h⟩
theorem stays {c : Cfg} (ho : CfgOk c) {x y x' y' : Int} (h : inW c x y = true) (h' : inW c x' y' = true) (hx1 : x - c.side ≤ x') (hx2 : x' ≤ x + c.side) (hy1 : y - c.side ≤ y') (hy2 : y' ≤ y + c.side) :
 ofF c x y = ofF c x' y' ∨ ofF c x' y' ∈ besideF c (ofF c x y) := by
 obtain ⟨e, a0, a1, b0, b1, m0, m1⟩ := ofF_in ho h
 obtain ⟨e', a0', a1', b0', b1', m0', m1'⟩ := ofF_in ho h'
 have s0 := ho.s0
 obtain ⟨d1, d2⟩ := div_near (x := x) (x' := x') (s := c.side) (by omega) hx1 hx2
 obtain ⟨d3, d4⟩ := div_near (x := y) (x' := y') (s := c.side) (by omega) hy1 hy2
 obtain ⟨c1, c2⟩ := col_row (cy := y / c.side) a0 a1
 obtain ⟨c1', c2'⟩ := col_row (cy := y' / c.side) a0' a1'
 by_cases heq : ofF c x y = ofF c x' y'
 · exact .inl heq
 · right
   refine mem_beside m0' m1' ?_
   unfold nextB
   have hne : (ofF c x' y' == ofF c x y) = false := by simp; exact fun e => heq e.symm
   rw [hne, e, e', c1, c2, c1', c2']
   generalize x / c.side = p at *
   generalize y / c.side = q at *
   generalize x' / c.side = p' at *
   generalize y' / c.side = q' at *
   have hpq : ¬ (p = p' ∧ q = q') := fun ⟨h1, h2⟩ => heq (by rw [e, e', h1, h2])
   simp only [Bool.not_false, Bool.true_and, beq_iff_eq]
   omega
theorem inF_in {c : Cfg} (ho : CfgOk c) (x y : Int) : inW c (inF c x y).1 (inF c x y).2 = true := by
 obtain ⟨p1, p2, p3, p4⟩ := ho.prod
 unfold inW inF
 simp only [decide_eq_true_eq]
 omega
theorem move_stays {c : Cfg} (ho : CfgOk c) (b : Bun) (h : inW c b.x b.y = true) : ofF c b.x b.y = ofF c (moveF c b).x (moveF c b).y ∨ ofF c (moveF c b).x (moveF c b).y ∈ besideF c (ofF c b.x b.y) := by
 have h2 := h
 unfold inW at h2
 obtain ⟨x0, x1, y0, y1⟩ := of_decide_eq_true h2
 obtain ⟨p1, p2, p3, p4⟩ := ho.prod
 have v0 := ho.v0
 have v1 := ho.v1
 have s1 := ho.s1
 have key : ∀ (n v W : Int), 0 ≤ n → n < W → W ≤ 4194304 → n - c.side ≤ max 0 (min (addF n (max (-c.speed) (min c.speed v))) (W - 1)) ∧ max 0 (min (addF n (max (-c.speed) (min c.speed v))) (W - 1)) ≤ n + c.side := by
  intro n v W hn0 hn1 hW
  have e : addF n (max (-c.speed) (min c.speed v)) = n + max (-c.speed) (min c.speed v) := by
   unfold addF
   rw [clampF_id n (by omega) (by omega), clampF_id (max (-c.speed) (min c.speed v)) (by omega) (by omega), clampF_id _ (by omega) (by omega)]
  rw [e]
  omega
 refine stays ho h (by unfold moveF; exact inF_in ho _ _) ?_ ?_ ?_ ?_
 all_goals
  unfold moveF inF
  simp only
  cases hasB b.m 2 with
  | true => simp only [if_true]; first | exact (key b.x b.vx _ x0 x1 p2).1 | exact (key b.x b.vx _ x0 x1 p2).2 | exact (key b.y b.vy _ y0 y1 p4).1 | exact (key b.y b.vy _ y0 y1 p4).2
  | false => simp only [Bool.false_eq_true, if_false]; have s0 := ho.s0; omega
def Boxed (W0 : World) (n : Nat) (arr : Array Value) (T : TypeId) (s : Value) (wc : World) : Prop :=
 ∃ d1 os1 d2 os2, s = .pointer (some ⟨n + Array.size os1, 0, none⟩) ∧ wc = more ((more W0 d1 os1).alloc (.cells arr T)) d2 os2
def Grew (W0 X : World) : Prop := ∃ d os, X = more W0 d os
theorem grew_refl (W0 : World) : Grew W0 W0 := ⟨W0.drawn, #[], by simp [more]⟩
theorem grew_redrawn (X : World) (d d' : Nat) (os : Array Obj) : Grew (more X d os) (more X d' os) := ⟨d', #[], by rw [more_more]; simp⟩
theorem grew_drew {W0 X : World} (h : Grew W0 X) : Grew W0 X.drew := by
 obtain ⟨d, os, rfl⟩ := h
 exact ⟨d + 1, os, rfl⟩
theorem grew_more {W0 X : World} (d : Nat) (os : Array Obj) (h : Grew W0 X) : Grew W0 (more X d os) := by
 obtain ⟨d1, os1, rfl⟩ := h
 exact ⟨d, os1 ++ os, more_more _ _ _ _ _⟩
theorem boxed_end {W0 X : World} {arr : Array Value} {T : TypeId} {s : Value} {n : Nat} (h : Grew W0 X) (hs : s = .pointer (some ⟨X.heap.size, 0, none⟩)) (hn : W0.heap.size = n) : Boxed W0 n arr T s (X.alloc (.cells arr T)) := by
 obtain ⟨d, os, rfl⟩ := h
 refine ⟨d, os, d, #[], by rw [hs, more_size, hn], ?_⟩
 simp [more, World.alloc]
theorem boxed_drew {W0 wc : World} {arr : Array Value} {T : TypeId} {s : Value} {n : Nat} (h : Boxed W0 n arr T s wc) : Boxed W0 n arr T s wc.drew := by
 obtain ⟨d1, os1, d2, os2, rfl, rfl⟩ := h
 exact ⟨d1, os1, d2 + 1, os2, rfl, rfl⟩
theorem boxed_more {W0 wc : World} {arr : Array Value} {T : TypeId} {s : Value} {n : Nat} (d : Nat) (os : Array Obj) (h : Boxed W0 n arr T s wc) : Boxed W0 n arr T s (more wc d os) := by
 obtain ⟨d1, os1, d2, os2, rfl, rfl⟩ := h
 exact ⟨d1, os1, d, os2 ++ os, rfl, more_more _ _ _ _ _⟩
theorem heap_more (w : World) (d : Nat) (os : Array Obj) (b : Nat) (h : b < w.heap.size) : (more w d os).heap[b]? = w.heap[b]? := by simp [more, Array.getElem?_append, h]
def TwoW (w : World) (n : Nat) (q0 q1 q2 q3 a b c d : Int) (wx : World) : Prop :=
 Below w.heap.size w wx ∧ w.heap.size + 2 < n ∧ wx.heap[w.heap.size + 1]? = some (.cells #[int i64 q0, int i64 q1, int i64 q2, int i64 q3] 54) ∧ wx.heap[w.heap.size + 2]? = some (.cells #[int i64 0, int i64 0, int i64 0, int i64 0] 54) ∧ wx.heap[n]? = some (.cells #[int i64 a, int i64 b, int i64 c, int i64 d] 54)
theorem TwoW.more {w wx : World} {n : Nat} {q0 q1 q2 q3 a b c d : Int} (k : Nat) (os : Array Obj) (h : TwoW w n q0 q1 q2 q3 a b c d wx) : TwoW w n q0 q1 q2 q3 a b c d (more wx k os) := by
 obtain ⟨hb, h2, hq, hz, hn⟩ := h
 have hn' := (Array.getElem?_eq_some_iff.1 hn).1
 exact ⟨bg, h2, (heap_more _ _ _ _ (by omega)).trans hq, (heap_more _ _ _ _ (by omega)).trans hz, (heap_more _ _ _ _ hn').trans hn⟩
theorem TwoW.set0 {w wx : World} {n : Nat} {q0 q1 q2 q3 a b c d : Int} (v : Int) (h : TwoW w n q0 q1 q2 q3 a b c d wx) : TwoW w n q0 q1 q2 q3 v b c d (wx.setCell ⟨n, 0, none⟩ (int i64 v)) := by
 obtain ⟨hb, h2, hq, hz, hn⟩ := h
 refine ⟨hb.setCell (by simp; omega) _, h2, ?_, ?_, ?_⟩
 · rw [Below.heap_setCell _ _ _ _ (by simp; omega)]; exact hq
 · rw [Below.heap_setCell _ _ _ _ (by simp; omega)]; exact hz
 · simp [World.setCell, Array.getElem?_modify, hn]
theorem TwoW.set2 {w wx : World} {n : Nat} {q0 q1 q2 q3 a b c d : Int} (v : Int) (h : TwoW w n q0 q1 q2 q3 a b c d wx) : TwoW w n q0 q1 q2 q3 a b v d (wx.setCell ⟨n, 2, none⟩ (int i64 v)) := by
 obtain ⟨hb, h2, hq, hz, hn⟩ := h
 refine ⟨hb.setCell (by simp; omega) _, h2, ?_, ?_, ?_⟩
 · rw [Below.heap_setCell _ _ _ _ (by simp; omega)]; exact hq
 · rw [Below.heap_setCell _ _ _ _ (by simp; omega)]; exact hz
 · simp [World.setCell, Array.getElem?_modify, hn]
theorem TwoW.set3 {w wx : World} {n : Nat} {q0 q1 q2 q3 a b c d : Int} (v : Int) (h : TwoW w n q0 q1 q2 q3 a b c d wx) : TwoW w n q0 q1 q2 q3 a b c v (wx.setCell ⟨n, 3, none⟩ (int i64 v)) := by
 obtain ⟨hb, h2, hq, hz, hn⟩ := h
 refine ⟨hb.setCell (by simp; omega) _, h2, ?_, ?_, ?_⟩
 · rw [Below.heap_setCell _ _ _ _ (by simp; omega)]; exact hq
 · rw [Below.heap_setCell _ _ _ _ (by simp; omega)]; exact hz
 · simp [World.setCell, Array.getElem?_modify, hn]
theorem TwoW.cells {w wx : World} {n : Nat} {q0 q1 q2 q3 a b c d : Int} (h : TwoW w n q0 q1 q2 q3 a b c d wx) :
 (∀ j, wx.cell? ⟨w.heap.size + 1, j, none⟩ = (#[int i64 q0, int i64 q1, int i64 q2, int i64 q3] : Array Value)[j]?) ∧ (∀ j, wx.cell? ⟨w.heap.size + 1 + 1, j, none⟩ = (#[int i64 0, int i64 0, int i64 0, int i64 0] : Array Value)[j]?) ∧ (∀ j, wx.cell? ⟨n, j, none⟩ = (#[int i64 a, int i64 b, int i64 c, int i64 d] : Array Value)[j]?) ∧ n < wx.heap.size ∧ w.heap.size + 1 + 1 < wx.heap.size ∧ w.heap.size + 1 < wx.heap.size ∧ (∀ o, wx.frozen? ⟨n, o, none⟩ = false) ∧ (∀ o, wx.frozen? ⟨w.heap.size + 1 + 1, o, none⟩ = false) := by
 obtain ⟨hb, h2, hq, hz, hn⟩ := h
 have := (Array.getElem?_eq_some_iff.1 hn).1
 exact ⟨fun j => by simp [World.cell?, hq], fun j => by simp [World.cell?, hz], fun j => by simp [World.cell?, hn], this, by omega, by omega, fun o => by simp [World.frozen?, hn], fun o => by simp [World.frozen?, hz]⟩
theorem rSort_pair (l : List Bun) : (rSort l).Pairwise fun a b => bef b a = false := by
 obtain ⟨T, h1, h2, h3⟩ := rSort_tag l l.length (Nat.le_refl _)
 rw [List.take_length] at h1
 rw [← h1, List.pairwise_map]
 refine h3.imp fun {a b} h => ?_
 rw [bef_cmp]
 have hn := cmpBun_ok.neg b.1 a.1
 have hz := cmpBun_ok.zero b.1 a.1
 rcases (ltT_iff a b).1 h with h | ⟨h, _⟩
 · exact decide_eq_false (by have := cmpBun_ok.neg a.1 b.1; omega)
 · exact decide_eq_false (by omega)
theorem BNew.none {w w' : World} (h : Below w.heap.size w w') : BNew w w' (.slice Option.none 0 0) [] := ⟨(BNew.nil w').1, h, fun g hg => by cases hg⟩
theorem BNew.since {w0 w w' : World} {v : Value} {l : List Bun} (h : BNew w w' v l) (hb : Below w0.heap.size w0 w) : BNew w0 w' v l :=
 ⟨h.1, hb.trans (h.2.1.mono hb.size), fun g hg => Nat.le_trans hb.size (h.2.2 g hg)⟩
def hitEq (a b : Hit) : Bool := decide (a = b)
@[go_sem high] theorem run_eql_hit (s i g n s' i' g' n' : Int) (W : World) :
 (binOp .eql 149 (.agg #[int i64 s, int i64 i, int i64 g, int i64 n]) (.agg #[int i64 s', int i64 i', int i64 g', int i64 n'])).run prog W = .ok (.bool (hitEq ⟨s, i, g, n⟩ ⟨s', i', g', n'⟩)) W := by
 rw [run_eql_struct]
 by_cases h1 : s = s'
 · by_cases h2 : i = i'
   · by_cases h3 : g = g'
     · by_cases h4 : n = n' <;> simp [go_sem, hitEq, h1, h2, h3, h4]
     · simp [go_sem, hitEq, h1, h2, h3]
   · simp [go_sem, hitEq, h1, h2]
 · simp [go_sem, hitEq, h1]
@[go_sem high] theorem run_neq_hit (s i g n s' i' g' n' : Int) (W : World) :
 (binOp .neq 149 (.agg #[int i64 s, int i64 i, int i64 g, int i64 n]) (.agg #[int i64 s', int i64 i', int i64 g', int i64 n'])).run prog W = .ok (.bool (!(hitEq ⟨s, i, g, n⟩ ⟨s', i', g', n'⟩))) W := by
 have h := run_eql_hit s i g n s' i' g' n' W
 rw [run_eql_struct] at h
 rw [run_neq_struct]
 generalize (Op.equalIn _ _ _ _).run prog W = r at *
 cases r with
 | ok b w => simp only [Result.andThen_ok] at *; cases b <;> simp_all
 | halt x w => simp [Result.andThen] at h
theorem BIn.take {w : World} {p : Option Addr} {n cap : Nat} {l : List Bun} (h : BIn w (.slice p n cap) l) (k : Nat) (hk : k ≤ n) : BIn w (.slice p k cap) (l.take k) := by
 obtain ⟨p', cap', hv, h1, h2, h3, h4⟩ := h
 simp only [Value.slice.injEq] at hv
 obtain ⟨rfl, rfl, rfl⟩ := hv
 have e : (l.take k).length = k := by simp; omega
 refine ⟨p, cap, by rw [e], by rw [e]; omega, h2, by rw [e]; omega, fun hn => ?_⟩
 obtain ⟨blk, off, rfl, h5, h6⟩ := h4 (fun e => hn (by rw [e]; simp))
 refine ⟨blk, off, rfl, h5, fun t u hu => ?_⟩
 obtain ⟨b, hb, hbu⟩ := bunCells_split _ t u hu
 have ht : t / 11 < k := by have := (List.getElem?_eq_some_iff.1 hb).1; omega
 rw [List.getElem?_take_of_lt ht] at hb
 have e2 := bunCells_get l (t / 11) (t % 11) b hb (Nat.mod_lt _ (by omega))
 rw [show t / 11 * 11 + t % 11 = t by omega] at e2
 exact h6 t u (e2.trans hbu)
theorem wpList_append_bins (w0 w : World) {ops : Array Oper} {rest : List Oper} {o : Oper} {a : Act} {Q : Exit → Act → World → Prop}
 (hg : o.guard = none) (s x : Operand) (hop : o.op = Op.call { callee := Callee.builtin Builtin.append, args := #[s, x], argTypes := #[37, 37] })
 (v vx : Value) (l0 l : List Bun) (hv : a.eval s = v) (hsl : BNew w0 w v l0) (hx : a.eval x = vx) (hb : BIn w vx l) (h0 : l0.length ≤ 1000000) (hl : l.length ≤ 1000000)
 (hK : ∀ v' w', BNew w0 w' v' (l0 ++ l) → wpList prog ops Q rest (a.put o.dst v') w') :
 wpList prog ops Q (o :: rest) a w := by
 obtain ⟨i0, hi0, hz0, hz1, hz2⟩ := info_parts info_bunJ
 obtain ⟨p, cap, rfl, h1, h2, h3, h4⟩ := hb
 by_cases hn : l = []
 · subst hn
   obtain ⟨q, c, rfl⟩ := sl_frm hsl.1
   refine wpList_append_zero hg s x 37 hop 32 i0 Tryz.underlying37 hi0 _ _ _ _ _ hv hx ?_ (hK _ _ (by simpa using hsl))
   obtain ⟨_, ⟨h, h0⟩ | ⟨g, off, cap', cur, h, hb, hn, hc, hsz, hr⟩⟩ := hsl.1
   · simp only [Value.slice.injEq] at h; omega
   · simp only [Value.slice.injEq] at h; omega
 · obtain ⟨blk, off, rfl, h5, h6⟩ := h4 hn
   have hn0 : 0 < l.length := List.length_pos_iff.2 hn
   refine wpList_append_sl w hg s x 37 hop 32 i0 _ 11 88 Tryz.underlying37 hi0 hz0 hz1 hz2 rfl (by omega) v l0.length (bunCells l0) hv hsl.1 ⟨blk, off, none⟩ l.length cap (bunCells l) hx (bunCells_len l) (fun j u hj => ?_) (bunCells_one l) hn0 (by unfold maxLen; omega) (by omega) (fun v' w' hs ht ho => hK v' w' ⟨?_, ?_, ?_⟩)
   · rw [show Addr.add ⟨blk, off, none⟩ j = ⟨blk, off + j, none⟩ from by unfold Addr.add; split <;> simp_all]
     exact h6 j u hj
   · rw [bunCells_app, List.length_append]; exact hs
   · exact hsl.2.1.trans ⟨ht.os, ht.tape, ht.output, ht.size, fun k hk => ht.block k (by have := hsl.2.1.size; omega) fun e => by have := hsl.2.2 k e.symm; omega⟩
   · intro q hq
     rcases ho with e | ⟨g', e, hg'⟩
     · exact hsl.2.2 q (by rw [← e]; exact hq)
     · rw [e] at hq
       cases hq
       exact Nat.le_trans hsl.2.1.size hg'
def KeepRow (p : Int → Bool) (zs r : List Int) (i j : Nat) : Prop := r.length = zs.length ∧ i < j ∧ r.take i = (zs.take j).filter (fun x => !p x) ∧ r.drop j = zs.drop j
theorem KeepRow.skip {p : Int → Bool} {zs r : List Int} {i j : Nat} {x : Int} (h : KeepRow p zs r i j) (hx : zs[j]? = some x) (hp : p x = true) : KeepRow p zs r i (j + 1) := by
 obtain ⟨h1, h2, h3, h4⟩ := h
 have hj := (List.getElem?_eq_some_iff.1 hx).1
 refine ⟨h1, by omega, ?_, ?_⟩
 · rw [List.take_succ_eq_append_getElem hj, List.filter_append, (List.getElem?_eq_some_iff.1 hx).2]
   simp [hp, h3]
 · have := congrArg (List.drop 1) h4
   simpa [List.drop_drop, Nat.add_comm] using this
theorem KeepRow.put {p : Int → Bool} {zs r : List Int} {i j : Nat} {x : Int} (h : KeepRow p zs r i j) (hx : zs[j]? = some x) (hp : p x = false) : KeepRow p zs (r.set i x) (i + 1) (j + 1) := by
 obtain ⟨h1, h2, h3, h4⟩ := h
 have hj := (List.getElem?_eq_some_iff.1 hx).1
 have hi : i < r.length := by omega
 refine ⟨by simpa using h1, by omega, ?_, ?_⟩
 · rw [List.take_succ_eq_append_getElem hj, List.filter_append, (List.getElem?_eq_some_iff.1 hx).2, ← h3]
   rw [List.take_succ_eq_append_getElem (by simpa using hi)]
   simp [hp, List.take_set_of_le]
 · rw [List.drop_set_of_lt (by omega)]
   have := congrArg (List.drop 1) h4
   simpa [List.drop_drop, Nat.add_comm] using this
theorem Turned.of_bel {w w' : World} {b : Option Nat} (h : Below w.heap.size w w') : Turned w w' b := ⟨h.os, h.tape, h.output, h.size, fun k hk _ => h.block k hk⟩
theorem Turned.then {w w1 w2 : World} {b : Option Nat} (h : Turned w w1 b) (h2 : Turned w1 w2 b) : Turned w w2 b :=
 ⟨h2.os.trans h.os, h2.tape.trans h.tape, h2.output.trans h.output, Nat.le_trans h.size h2.size, fun k hk hne => (h2.block k (Nat.lt_of_lt_of_le hk h.size) hne).trans (h.block k hk hne)⟩
section
open Go.Shelf
structure Gh where
 f : Int
 t : Int
 p : Option Addr
 n : Nat
 c : Nat
deriving Inhabited
structure Sta where
 ep : Int
 t : Int
 po : Option Addr
 no : Nat
 co : Nat
 pd : Option Addr
 nd : Nat
 cd : Nat
 pu : Option Addr
 nu : Nat
 cu : Nat
 pi : Option Addr
 ni : Nat
 ci : Nat
 pg : Option Addr
 ng : Nat
 cg : Nat
 nx : Int
def Sta.arr (s : Sta) : Array Value := #[int i64 s.ep, int i64 s.t, .slice s.po s.no s.co, .slice s.pd s.nd s.cd, .slice s.pu s.nu s.cu, .slice s.pi s.ni s.ci, .slice s.pg s.ng s.cg, int i64 s.nx]
end
section
open Go.Shelf
def GhOk (W : World) (L : List Gh) (bl : Gh → List Bun) : Prop := ∀ g ∈ L, BIn W (.slice g.p g.n g.c) (bl g) ∧ (bl g).length ≤ 1000
theorem GhOk.keep {W W' : World} {L : List Gh} {bl : Gh → List Bun} (h : GhOk W L bl) (hb : Below W.heap.size W W') : GhOk W' L bl := fun g hg => ⟨(h g hg).1.keep hb, (h g hg).2⟩
end
section
open Go.Shelf
theorem more_of_drew (w : World) (d : Nat) (os : Array Obj) : more w.drew d os = more w d os := rfl
end
structure BoxSt (w3 w : World) (B : Nat) (v : Value) : Prop where
 t : Turned w3 w (some B)
 c6 : w.cell? ⟨B, 6, none⟩ = some v
 cs : ∀ u, u ≠ 6 → w.cell? ⟨B, u, none⟩ = w3.cell? ⟨B, u, none⟩
 fz : ∀ u, w.frozen? ⟨B, u, none⟩ = w3.frozen? ⟨B, u, none⟩
theorem BoxSt.cell {w3 w : World} {B : Nat} {v : Value} (h : BoxSt w3 w B v) {b o : Nat} (hb : b < w3.heap.size) (hne : b ≠ B) : w.cell? ⟨b, o, none⟩ = w3.cell? ⟨b, o, none⟩ :=
 World.cell?_of_block (w := w3) (a := ⟨b, o, none⟩) (h.t.block b hb (by intro e; exact hne (Option.some.inj e)))
theorem BoxSt.grow {w3 w w' : World} {B : Nat} {v : Value} (h : BoxSt w3 w B v) (hB : B < w3.heap.size) (hb : Below w.heap.size w w') : BoxSt w3 w' B v := by
 have hBw : B < w.heap.size := Nat.lt_of_lt_of_le hB h.t.size
 refine ⟨h.t.then (Turned.of_bel hb), (hb.cell (p := ⟨B, 6, none⟩) hBw).trans h.c6, fun u hu => (hb.cell (p := ⟨B, u, none⟩) hBw).trans (h.cs u hu), fun u => ?_⟩
 rw [← h.fz u]
 exact World.frozen?_of_block (w := w) (a := ⟨B, u, none⟩) (hb.block B hBw)
theorem BoxSt.app {w3 w w' : World} {B : Nat} {v : Value} {own : Option Nat} (h : BoxSt w3 w B v) (hB : B < w3.heap.size) (ht : Turned w w' own) (ho : ∀ g, own = some g → w3.heap.size ≤ g) : BoxSt w3 w' B v := by
 have hBw : B < w.heap.size := Nat.lt_of_lt_of_le hB h.t.size
 have hk : w'.heap[B]? = w.heap[B]? := ht.block B hBw (fun e => by have := ho B e.symm; omega)
 refine ⟨⟨ht.os.trans h.t.os, ht.tape.trans h.t.tape, ht.output.trans h.t.output, Nat.le_trans h.t.size ht.size, fun k hk hne => (ht.block k (Nat.lt_of_lt_of_le hk h.t.size) (fun e => by have := ho k e.symm; omega)).trans (h.t.block k hk hne)⟩, (World.cell?_of_block (w := w) (a := ⟨B, 6, none⟩) hk).trans h.c6, fun u hu => (World.cell?_of_block (w := w) (a := ⟨B, u, none⟩) hk).trans (h.cs u hu), fun u => ?_⟩
 rw [← h.fz u]
 exact World.frozen?_of_block (w := w) (a := ⟨B, u, none⟩) hk
theorem BoxSt.frozen {w3 w : World} {B : Nat} {v : Value} (h : BoxSt w3 w B v) {b o : Nat} (hb : b < w3.heap.size) (hne : b ≠ B) : w.frozen? ⟨b, o, none⟩ = w3.frozen? ⟨b, o, none⟩ :=
 World.frozen?_of_block (w := w3) (a := ⟨b, o, none⟩) (h.t.block b hb (by intro e; exact hne (Option.some.inj e)))
theorem Sl.grow {w w' : World} {e : TypeId} {size : Nat} {v : Value} {n : Nat} {xs : List Value} (h : Sl w e size v n xs) (hb : Below w.heap.size w w') : Sl w' e size v n xs := h.keep fun g hg => hb.block g (sl_lt h hg)
theorem filter_step2 {α : Type} (f : α → Bool) {l : List α} {t : Nat} {x : α} (h : l[t]? = some x) : (l.take (t + 1)).filter f = (l.take t).filter f ++ (if f x then [x] else []) := by
 have hlt := (List.getElem?_eq_some_iff.1 h).1
 rw [List.take_succ_eq_append_getElem hlt, List.filter_append, (List.getElem?_eq_some_iff.1 h).2]
 cases hh : f x <;> simp [hh]
structure StB (w : World) (b : Nat) (m lv ov gv dv : Value) : Prop where
 c : ∀ j, w.cell? ⟨b, j, none⟩ = (#[m, lv, ov, gv, dv] : Array Value)[j]?
 f : ∀ j, w.frozen? ⟨b, j, none⟩ = false
theorem StB.keep {w w' : World} {b : Nat} {m lv ov gv dv : Value} (h : StB w b m lv ov gv dv) (hb : w'.heap[b]? = w.heap[b]?) : StB w' b m lv ov gv dv :=
 ⟨fun j => (World.cell?_of_block (w := w) (a := ⟨b, j, none⟩) hb).trans (h.c j), fun j => (World.frozen?_of_block (w := w) (a := ⟨b, j, none⟩) hb).trans (h.f j)⟩
theorem StB.lt {w : World} {b : Nat} {m lv ov gv dv : Value} (h : StB w b m lv ov gv dv) : b < w.heap.size := World.block_lt_of_cell? w ⟨b, 0, none⟩ (h.c 0)
theorem StB.block {w : World} {b : Nat} {m lv ov gv dv : Value} (h : StB w b m lv ov gv dv) : ∃ c e fr, w.heap[b]? = some (.cells c e fr) ∧ 4 < c.size := by
 have h6 := h.c 4
 simp only [World.cell?] at h6
 split at h6
 · rename_i c e fr hb
   refine ⟨c, e, fr, hb, ?_⟩
   simp at h6
   exact (Array.getElem?_eq_some_iff.1 h6).1
 · simp at h6
theorem StB.store {w : World} {b : Nat} {vs : Array Value} {u : Nat} (hu : u < 5) (hs : vs.size = 5) (v' : Value) (hc : ∀ j, w.cell? ⟨b, j, none⟩ = vs[j]?) (hf : ∀ j, w.frozen? ⟨b, j, none⟩ = false) :
 (∀ j, (w.setCell ⟨b, u, none⟩ v').cell? ⟨b, j, none⟩ = (vs.setIfInBounds u v')[j]?) ∧ (∀ j, (w.setCell ⟨b, u, none⟩ v').frozen? ⟨b, j, none⟩ = false) := by
 have h6 := hc u
 rw [Array.getElem?_eq_getElem (by omega)] at h6
 simp only [World.cell?] at h6
 split at h6
 · rename_i c e fr hb
   simp at h6
   have hcs := (Array.getElem?_eq_some_iff.1 h6).1
   have hs' : (w.setCell ⟨b, u, none⟩ v').heap[b]? = some (.cells (c.setIfInBounds u v') e fr) := by simp [World.setCell, Array.getElem?_modify, hb]
   have hcc : ∀ j, c[j]? = vs[j]? := fun j => by have := hc j; simpa [World.cell?, hb] using this
   refine ⟨fun j => ?_, fun j => ?_⟩
   · have e1 : (w.setCell ⟨b, u, none⟩ v').cell? ⟨b, j, none⟩ = (c.setIfInBounds u v')[j]? := by unfold World.cell?; rw [hs']; simp
     rw [e1]
     simp only [Array.getElem?_setIfInBounds, hcc]
     split
     · rw [if_pos (by omega)]
     · rfl
   · rw [← hf j]
     simp only [World.frozen?, hs', hb]
 · simp at h6
structure Tu2 (w w' : World) (b : Nat) (o : Option Nat) : Prop where
 os : w'.os = w.os
 tape : w'.tape = w.tape
 output : w'.output = w.output
 size : w.heap.size ≤ w'.heap.size
 block : ∀ k, k < w.heap.size → k ≠ b → some k ≠ o → w'.heap[k]? = w.heap[k]?
theorem Tu2.refl (w : World) (b : Nat) (o : Option Nat) : Tu2 w w b o := ⟨rfl, rfl, rfl, Nat.le_refl _, fun _ _ _ _ => rfl⟩
theorem Tu2.bel {w w1 w2 : World} {b : Nat} {o : Option Nat} (h : Tu2 w w1 b o) (hb : Below w1.heap.size w1 w2) : Tu2 w w2 b o :=
 ⟨hb.os.trans h.os, hb.tape.trans h.tape, hb.output.trans h.output, Nat.le_trans h.size hb.size, fun k hk h1 h2 => (hb.block k (Nat.lt_of_lt_of_le hk h.size)).trans (h.block k hk h1 h2)⟩
theorem Tu2.tur {w w1 w2 : World} {b : Nat} {o o' : Option Nat} (h : Tu2 w w1 b o) (ht : Turned w1 w2 o') (ho : ∀ g, o' = some g → some g = o ∨ g = b ∨ w.heap.size ≤ g) : Tu2 w w2 b o :=
 ⟨ht.os.trans h.os, ht.tape.trans h.tape, ht.output.trans h.output, Nat.le_trans h.size ht.size, fun k hk h1 h2 => (ht.block k (Nat.lt_of_lt_of_le hk h.size) (fun e => by
  rcases ho k e.symm with h3 | h3 | h3
  · exact h2 h3
  · exact h1 h3
  · omega)).trans (h.block k hk h1 h2)⟩
theorem Tu2.trans {w w1 w2 : World} {b : Nat} {o o' : Option Nat} (h : Tu2 w w1 b o) (h2 : Tu2 w1 w2 b o') (ho : ∀ g, o' = some g → some g = o ∨ g = b ∨ w.heap.size ≤ g) : Tu2 w w2 b o :=
 ⟨h2.os.trans h.os, h2.tape.trans h.tape, h2.output.trans h.output, Nat.le_trans h.size h2.size, fun k hk h3 h4 => (h2.block k (Nat.lt_of_lt_of_le hk h.size) h3 (fun e => by
  rcases ho k e.symm with h5 | h5 | h5
  · exact h4 h5
  · exact h3 h5
  · omega)).trans (h.block k hk h3 h4)⟩
theorem Tu2.below {W w w' : World} {b : Nat} {o : Option Nat} (h : Tu2 w w' b o) (hb : Below W.heap.size W w) (h1 : W.heap.size ≤ b) (h2 : ∀ g, o = some g → W.heap.size ≤ g) : Below W.heap.size W w' :=
 hb.trans ⟨h.os, h.tape, h.output, h.size, fun k hk => h.block k (Nat.lt_of_lt_of_le hk hb.size) (by omega) (fun e => by have := h2 k e.symm; omega)⟩
structure Two (w1 : World) (b n : Nat) (W : World) : Prop where
 sz : w1.heap.size ≤ W.heap.size
 cb : ∀ o, W.cell? ⟨b, o, none⟩ = w1.cell? ⟨b, o, none⟩
 fb : ∀ o, W.frozen? ⟨b, o, none⟩ = w1.frozen? ⟨b, o, none⟩
 cn : ∀ o, W.cell? ⟨n, o, none⟩ = w1.cell? ⟨n, o, none⟩
theorem Two.refl (w1 : World) (b n : Nat) : Two w1 b n w1 := ⟨Nat.le_refl _, fun _ => rfl, fun _ => rfl, fun _ => rfl⟩
theorem Two.step {w1 W W' : World} {b n : Nat} (h : Two w1 b n W) (hs : W.heap.size ≤ W'.heap.size) (hb : W'.heap[b]? = W.heap[b]?) (hn : W'.heap[n]? = W.heap[n]?) : Two w1 b n W' :=
 ⟨Nat.le_trans h.sz hs, fun o => (World.cell?_of_block (w := W) (a := ⟨b, o, none⟩) hb).trans (h.cb o), fun o => (World.frozen?_of_block (w := W) (a := ⟨b, o, none⟩) hb).trans (h.fb o), fun o => (World.cell?_of_block (w := W) (a := ⟨n, o, none⟩) hn).trans (h.cn o)⟩
theorem Two.bel {w1 W W' : World} {b n : Nat} (hb : b < w1.heap.size) (hn : n < w1.heap.size) (h : Two w1 b n W) (hB : Below W.heap.size W W') : Two w1 b n W' :=
 h.step hB.size (hB.block b (Nat.lt_of_lt_of_le hb h.sz)) (hB.block n (Nat.lt_of_lt_of_le hn h.sz))
theorem Two.drew {w1 W : World} {b n : Nat} (h : Two w1 b n W) : Two w1 b n W.drew := h.step (Nat.le_refl _) rfl rfl
theorem Two.alloc {w1 W : World} {b n : Nat} (hb : b < w1.heap.size) (hn : n < w1.heap.size) (o : Obj) (h : Two w1 b n W) : Two w1 b n (W.alloc o) :=
 h.bel hb hn ((Below.refl _ _).alloc (Nat.le_refl _) o)
theorem Two.tur {w1 W W' : World} {b n : Nat} {o : Option Nat} (hb : b < w1.heap.size) (hn : n < w1.heap.size) (h1 : some b ≠ o) (h2 : some n ≠ o) (h : Two w1 b n W) (ht : Turned W W' o) : Two w1 b n W' :=
 h.step ht.size (ht.block b (Nat.lt_of_lt_of_le hb h.sz) h1) (ht.block n (Nat.lt_of_lt_of_le hn h.sz) h2)
end Go.Proofs.YtoimjjhopljdmaaGreat
