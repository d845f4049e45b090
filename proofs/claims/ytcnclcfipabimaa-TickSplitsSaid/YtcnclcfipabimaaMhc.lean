/-
  The reference's takes and Hits, and its Same of hits. Condition: the entities' numbers fit (of every argument they do).
  The reference's Hits. Condition: the entities' numbers fit (of every argument they do).
-/
import Derived.Test.YtcnclcfipabimaaShB
namespace Go.Proofs.Ytcnclcfipabimaa
open Go.RowKit

theorem addF_in (q n : Int) (h0 : -1073741824 ≤ q) (h1 : q ≤ 1073741824) : addF q n = clampF (q + clampF n) := by unfold addF; rw [clampF_id q h0 h1]
theorem addF_rng (q n : Int) : -1073741824 ≤ addF q n ∧ addF q n ≤ 1073741824 := ⟨clampF_lo _, clampF_hi _⟩
theorem takesF_rng (r : Int) (b : Bun) : ∀ (l : List Bun) (q : Int), -1073741824 ≤ q ∧ q ≤ 1073741824 → -1073741824 ≤ takesF r b q l ∧ takesF r b q l ≤ 1073741824
  | [], q, h => h
  | c :: l, q, h => by
    unfold takesF
    split
    · exact takesF_rng r b l _ (addF_rng _ _)
    · exact takesF_rng r b l q h


set_option maxRecDepth 100000 in
set_option maxHeartbeats 2000000 in
theorem rTakes14 (b : Bun) (v : Value) (l : List Bun) (r n0 : Int) (w : World) (h : BIn w v l) (hf : ∀ c ∈ l, BFit c) (hl : l.length ≤ 1000) (hn0 : -1073741824 ≤ n0) (hn1 : n0 ≤ 1073741824) :
    Calls Try.prog 115 #[b.v, v, .int .i64 r, .int .i64 n0] w fun e w' => e = .returned (.int .i64 (takesF r b n0 l)) ∧ Below w.heap.size w w' := by
  have H := Lib.hid h
  have HF := Lib.hid hf
  obtain ⟨p, e, rfl, _⟩ := h
  clear hf
  obtain ⟨s, i, g, m, x, y, vx, vy, hp, pw, lf⟩ := b
  go_enter Try.func115, Try.ntmps115
  go_wp2_with fail
  go_loopg [9, 3] l.length (fun kx sx sn wr => ∃ (t : Nat) (q : Int), sx = .int .i64 t ∧ sn = .int .i64 q ∧ t ≤ l.length ∧ l.length - t ≤ kx ∧ -1073741824 ≤ q ∧ q ≤ 1073741824 ∧ Hid (takesF r ⟨s, i, g, m, x, y, vx, vy, hp, pw, lf⟩ q (l.drop t) = takesF r ⟨s, i, g, m, x, y, vx, vy, hp, pw, lf⟩ n0 l) ∧ Hid (Below w.heap.size w wr) ∧ w.heap.size < wr.heap.size ∧ Hid (∀ u, wr.cell? ⟨w.heap.size, u, none⟩ = (#[.int .i64 s, .int .i64 i, .int .i64 g, .int .i64 m, .int .i64 x, .int .i64 y, .int .i64 vx, .int .i64 vy, .int .i64 hp, .int .i64 pw, .int .i64 lf] : Array Value)[u]?))
  case atStart => exact ⟨0, n0, by go_num, rfl, by omega, by omega, hn0, hn1, Lib.hid rfl, Lib.hid (by repeat' (first | (with_reducible exact Below.refl _ _) | (with_reducible assumption) | (with_reducible refine below_drewN ?_ _) | (with_reducible refine below_more _ _ _ ?_ ?_) | (with_reducible refine Below.alloc ?_ ?_ _) | (with_reducible refine Below.drew ?_) | (with_reducible refine Below.setCell ?_ ?_ _) | go_size)), by simp, Lib.hid (fun u => by simp)⟩
  case round =>
    obtain ⟨t, q, rfl, rfl, ht, hkx, hq0, hq1, HFF, HW, hsz, HB⟩ := hrel
    by_cases hlt : t < l.length
    · have t3 : (t : Int) < (l.length : Int) := by omega
      obtain ⟨c, hc⟩ : ∃ c, l[t]? = some c := ⟨_, List.getElem?_eq_getElem hlt⟩
      obtain ⟨gc, oc, cc, hv, hgc, hcc⟩ := (H.out.keep HW.out).cells hc
      simp only [Value.slice.injEq, true_and] at hv
      obtain ⟨rfl, rfl⟩ := hv
      have u0 := hcc 0 _ rfl
      have u1 := hcc 1 _ rfl
      have u2 := hcc 2 _ rfl
      have u3 := hcc 3 _ rfl
      have u4 := hcc 4 _ rfl
      have u5 := hcc 5 _ rfl
      have u6 := hcc 6 _ rfl
      have u7 := hcc 7 _ rfl
      have u8 := hcc 8 _ rfl
      have u9 := hcc 9 _ rfl
      have u10 := hcc 10 _ rfl
      simp only [Nat.add_zero] at u0
      have y0 := HB.out 0; simp at y0
      have y1 := HB.out 1; simp at y1
      have y2 := HB.out 2; simp at y2
      have y4 := HB.out 4; simp at y4
      have y5 := HB.out 5; simp at y5
      have hq := HFF.out
      rw [List.drop_eq_getElem_cons hlt, show l[t] = c from by have := List.getElem?_eq_getElem hlt; rw [hc] at this; exact (Option.some.inj this).symm] at hq
      simp only [takesF] at hq
      have HQ := Lib.hid hq
      have hfit := HF.out c (List.mem_of_getElem? hc)
      obtain ⟨z0, z1, z2, z3⟩ := ltq hsz
      clear hq hcc hc HFF
      obtain ⟨s', i', g', m', x', y', vx', vy', hp', pw', lf'⟩ := c
      have hbit := fun W => bit_any m' 8 W hfit.2.2.2.1.1 hfit.2.2.2.1.2 (by omega)
      rw [← hasB_tb8] at hbit
      have HBIT := Lib.hid hbit
      clear hbit hfit
      
      cases h1 : idEq s' i' g' s i g with
      | true =>
        have ht : takeC r ⟨s, i, g, m, x, y, vx, vy, hp, pw, lf⟩ ⟨s', i', g', m', x', y', vx', vy', hp', pw', lf'⟩ = false := by unfold takeC; simp only; rw [h1]; rfl
        have HT := Lib.hid ht
        clear ht
        go_wp2_with (first | (go_at_call 96; refine (HBIT.out _).mono ?_; rintro e w' ⟨rfl, rfl⟩) | (go_at_call 74; refine (rFar_any _ _ _ _ _).mono ?_; rintro e w' ⟨rfl, rfl⟩))
        go_roundg (l.length - (t + 1))
        case measure => omega
        case rel => exact ⟨t + 1, q, by go_num, rfl, by omega, by omega, hq0, hq1, Lib.hid (by have h := HQ.out; rw [HT.out] at h; exact h), Lib.hid (HW.out.trans (Below.mono (B := wr.heap.size) (by repeat' (first | (with_reducible exact Below.refl _ _) | (with_reducible assumption) | (with_reducible refine below_drewN ?_ _) | (with_reducible refine below_more _ _ _ ?_ ?_) | (with_reducible refine Below.alloc ?_ ?_ _) | (with_reducible refine Below.drew ?_) | (with_reducible refine Below.setCell ?_ ?_ _) | go_size)) HW.out.size)), by simp; omega, Lib.hid (fun u => by rw [← HB.out u]; exact Below.cell (B := wr.heap.size) (by repeat' (first | (with_reducible exact Below.refl _ _) | (with_reducible assumption) | (with_reducible refine below_drewN ?_ _) | (with_reducible refine below_more _ _ _ ?_ ?_) | (with_reducible refine Below.alloc ?_ ?_ _) | (with_reducible refine Below.drew ?_) | (with_reducible refine Below.setCell ?_ ?_ _) | go_size)) (by simpa using hsz))⟩
      | false =>
        cases h2 : hasB m' 8 with
        | false =>
          have ht : takeC r ⟨s, i, g, m, x, y, vx, vy, hp, pw, lf⟩ ⟨s', i', g', m', x', y', vx', vy', hp', pw', lf'⟩ = false := by unfold takeC; simp only; rw [h1, h2]; rfl
          have HT := Lib.hid ht
          clear ht
          go_wp2_with (first | (go_at_call 96; refine (HBIT.out _).mono ?_; rintro e w' ⟨rfl, rfl⟩) | (go_at_call 74; refine (rFar_any _ _ _ _ _).mono ?_; rintro e w' ⟨rfl, rfl⟩))
          go_roundg (l.length - (t + 1))
          case measure => omega
          case rel => exact ⟨t + 1, q, by go_num, rfl, by omega, by omega, hq0, hq1, Lib.hid (by have h := HQ.out; rw [HT.out] at h; exact h), Lib.hid (HW.out.trans (Below.mono (B := wr.heap.size) (by repeat' (first | (with_reducible exact Below.refl _ _) | (with_reducible assumption) | (with_reducible refine below_drewN ?_ _) | (with_reducible refine below_more _ _ _ ?_ ?_) | (with_reducible refine Below.alloc ?_ ?_ _) | (with_reducible refine Below.drew ?_) | (with_reducible refine Below.setCell ?_ ?_ _) | go_size)) HW.out.size)), by simp; omega, Lib.hid (fun u => by rw [← HB.out u]; exact Below.cell (B := wr.heap.size) (by repeat' (first | (with_reducible exact Below.refl _ _) | (with_reducible assumption) | (with_reducible refine below_drewN ?_ _) | (with_reducible refine below_more _ _ _ ?_ ?_) | (with_reducible refine Below.alloc ?_ ?_ _) | (with_reducible refine Below.drew ?_) | (with_reducible refine Below.setCell ?_ ?_ _) | go_size)) (by simpa using hsz))⟩
        | true =>
          cases h3 : decide (farF x y x' y' ≤ r) with
          | false =>
            have ht : takeC r ⟨s, i, g, m, x, y, vx, vy, hp, pw, lf⟩ ⟨s', i', g', m', x', y', vx', vy', hp', pw', lf'⟩ = false := by unfold takeC; simp only; rw [h1, h2, h3]; rfl
            have HT := Lib.hid ht
            clear ht
            go_wp2_with (first | (go_at_call 96; refine (HBIT.out _).mono ?_; rintro e w' ⟨rfl, rfl⟩) | (go_at_call 74; refine (rFar_any _ _ _ _ _).mono ?_; rintro e w' ⟨rfl, rfl⟩))
            go_roundg (l.length - (t + 1))
            case measure => omega
            case rel => exact ⟨t + 1, q, by go_num, rfl, by omega, by omega, hq0, hq1, Lib.hid (by have h := HQ.out; rw [HT.out] at h; exact h), Lib.hid (HW.out.trans (Below.mono (B := wr.heap.size) (by repeat' (first | (with_reducible exact Below.refl _ _) | (with_reducible assumption) | (with_reducible refine below_drewN ?_ _) | (with_reducible refine below_more _ _ _ ?_ ?_) | (with_reducible refine Below.alloc ?_ ?_ _) | (with_reducible refine Below.drew ?_) | (with_reducible refine Below.setCell ?_ ?_ _) | go_size)) HW.out.size)), by simp; omega, Lib.hid (fun u => by rw [← HB.out u]; exact Below.cell (B := wr.heap.size) (by repeat' (first | (with_reducible exact Below.refl _ _) | (with_reducible assumption) | (with_reducible refine below_drewN ?_ _) | (with_reducible refine below_more _ _ _ ?_ ?_) | (with_reducible refine Below.alloc ?_ ?_ _) | (with_reducible refine Below.drew ?_) | (with_reducible refine Below.setCell ?_ ?_ _) | go_size)) (by simpa using hsz))⟩
          | true =>
            have ht : takeC r ⟨s, i, g, m, x, y, vx, vy, hp, pw, lf⟩ ⟨s', i', g', m', x', y', vx', vy', hp', pw', lf'⟩ = true := by unfold takeC; simp only; rw [h1, h2, h3]; rfl
            have HT := Lib.hid ht
            have HA := Lib.hid (addF_in q pw' hq0 hq1)
            have HR := Lib.hid (addF_rng q pw')
            have hp0 := clampF_lo pw'
            have hp1 := clampF_hi pw'
            have C1 := Lib.hid (fun W => rClamp_any pw' W)
            generalize clampF pw' = cw at *
            have C2 := Lib.hid (fun W => by have h := rClamp_any (q + cw) W; rw [← HA.out] at h; exact h)
            clear ht
            go_wp2_with (first | (go_at_call 96; refine (HBIT.out _).mono ?_; rintro e w' ⟨rfl, rfl⟩) | (go_at_call 74; refine (rFar_any _ _ _ _ _).mono ?_; rintro e w' ⟨rfl, rfl⟩))
            refine (C1.out _).mono ?_; rintro e w' ⟨rfl, rfl⟩
            go_wp2_with fail
            refine (C2.out _).mono ?_; rintro e w' ⟨rfl, rfl⟩
            go_wp2_with fail
            go_roundg (l.length - (t + 1))
            case measure => omega
            case rel => exact ⟨t + 1, _, by go_num, rfl, by omega, by omega, HR.out.1, HR.out.2, Lib.hid (by have h := HQ.out; rw [HT.out] at h; exact h), Lib.hid (HW.out.trans (Below.mono (B := wr.heap.size) (by repeat' (first | (with_reducible exact Below.refl _ _) | (with_reducible assumption) | (with_reducible refine below_drewN ?_ _) | (with_reducible refine below_more _ _ _ ?_ ?_) | (with_reducible refine Below.alloc ?_ ?_ _) | (with_reducible refine Below.drew ?_) | (with_reducible refine Below.setCell ?_ ?_ _) | go_size)) HW.out.size)), by simp; omega, Lib.hid (fun u => by rw [← HB.out u]; exact Below.cell (B := wr.heap.size) (by repeat' (first | (with_reducible exact Below.refl _ _) | (with_reducible assumption) | (with_reducible refine below_drewN ?_ _) | (with_reducible refine below_more _ _ _ ?_ ?_) | (with_reducible refine Below.alloc ?_ ?_ _) | (with_reducible refine Below.drew ?_) | (with_reducible refine Below.setCell ?_ ?_ _) | go_size)) (by simpa using hsz))⟩
    · have t3 : ¬ (t : Int) < (l.length : Int) := by omega
      obtain rfl : t = l.length := by omega
      have hq := HFF.out
      rw [List.drop_length] at hq
      simp only [takesF] at hq
      have HQ := Lib.hid hq
      clear hq HFF
      go_wp2_with fail
      go_ret
      exact ⟨by rw [← HQ.out]; rfl, HW.out⟩
end Go.Proofs.Ytcnclcfipabimaa
namespace Go.Proofs.Ytcnclcfipabimaa
open Go.RowKit

theorem stableF_mem (l : List Bun) (b : Bun) (h : b ∈ stableF cmpBun l) : b ∈ l := by
  unfold stableF at h
  obtain ⟨x, hx, rfl⟩ := List.mem_map.1 h
  have h1 := (List.mergeSort_perm _ _).mem_iff.1 hx
  have h2 := List.mem_zipIdx_iff_getElem?.1 h1
  exact List.mem_of_getElem? h2

theorem new_cellsN (W : World) (arr : Array Value) (t : TypeId) (n : Nat) (hn : n = W.heap.size) (j : Nat) (u : Value) (h : arr.toList[j]? = some u) : (W.alloc (.cells arr t)).cell? (Addr.add ⟨n, 0, none⟩ j) = some u := by subst hn; exact new_cells W arr t j u h
theorem ltw {a W : Nat} (h : a < W) : (∀ n, a < W + n) ∧ (∀ n m, a < W + n + m) ∧ (∀ n m q, a < W + n + m + q) := ⟨fun _ => by omega, fun _ _ => by omega, fun _ _ _ => by omega⟩

set_option maxRecDepth 100000 in
set_option maxHeartbeats 2000000 in
theorem rHits_any (r : Int) (v1 v2 : Value) (l1 l2 : List Bun) (w : World) (h1 : BIn w v1 l1) (h2 : BIn w v2 l2) (hf1 : ∀ c ∈ l1, BFit c) (hf2 : ∀ c ∈ l2, BFit c) (hl1 : l1.length ≤ 1000) (hl2 : l2.length ≤ 1000) :
    Calls Try.prog 77 #[.int .i64 r, v1, v2] w fun e w' => ∃ v', e = .returned v' ∧ RNew hitL 137 4 w w' v' (hitsF r l1 l2) := by
  obtain ⟨i0, hi0, hz0, hz1, hz2⟩ := info_parts info_hitJ
  have T1 := Lib.hid (fun b n W hW a c => rTakes14 b v1 l1 r n W (h1.keep hW) hf1 hl1 a c)
  have T2 := Lib.hid (fun b n W hW a c => rTakes14 b v2 l2 r n W (h2.keep hW) hf2 hl2 a c)
  have hso := rsorted_any v1 l1 w h1 (by omega)
  unfold hitsF
  have hfs : ∀ c ∈ stableF cmpBun l1, BFit c := fun c hc => hf1 c (stableF_mem l1 c hc)
  generalize hls : stableF cmpBun l1 = ls at *
  have hlsn : ls.length ≤ 1000 := by rw [← hls, stableF_len]; exact hl1
  have HSO := Lib.hid hso
  have HFS := Lib.hid hfs
  clear hso hls hfs hf1 hf2
  obtain ⟨p1, e1, rfl, _⟩ := h1
  obtain ⟨p2, e2, rfl, _⟩ := h2
  go_enter Try.func77, Try.ntmps77
  go_wp2_with fail
  refine HSO.out.mono ?_
  rintro e w1 ⟨vs, rfl, hS⟩
  obtain ⟨ps, cs, rfl⟩ := sl_frm hS.1
  have HS := Lib.hid hS
  have hsz1 := hS.2.1.size
  clear hS
  go_wp2_with fail
  go_loopg [9, 7] ls.length (fun kx sx o wr => ∃ k : Nat, sx = .int .i64 k ∧ k ≤ ls.length ∧ ls.length - k ≤ kx ∧ Hid (Below w1.heap.size w1 wr) ∧ Hid (RNew hitL 137 4 w1 wr o ((ls.take k).filterMap (hitOf r l1 l2))) ∧ Hid (((ls.take k).filterMap (hitOf r l1 l2)).length ≤ k))
  case atStart => exact ⟨0, by go_num, by omega, by omega, Lib.hid (Below.refl _ _), Lib.hid (RNew.nil w1), Lib.hid (Nat.le_refl _)⟩
  case round =>
    obtain ⟨k, rfl, hk, hkx, HW, HN, HNL⟩ := hrel
    by_cases hlt : k < ls.length
    · have t1 : (k : Int) < (ls.length : Int) := by omega
      obtain ⟨b, hb⟩ : ∃ b, ls[k]? = some b := ⟨_, List.getElem?_eq_getElem hlt⟩
      obtain ⟨gb, ob, cb, hv, hgb, hcb⟩ := (HS.out.bin.keep HW.out).cells hb
      simp only [Value.slice.injEq, true_and] at hv
      obtain ⟨rfl, rfl⟩ := hv
      have c0 := hcb 0 _ rfl
      have c1 := hcb 1 _ rfl
      have c2 := hcb 2 _ rfl
      have c3 := hcb 3 _ rfl
      have c4 := hcb 4 _ rfl
      have c5 := hcb 5 _ rfl
      have c6 := hcb 6 _ rfl
      have c7 := hcb 7 _ rfl
      have c8 := hcb 8 _ rfl
      have c9 := hcb 9 _ rfl
      have c10 := hcb 10 _ rfl
      simp only [Nat.add_zero] at c0
      obtain ⟨po, co, rfl⟩ := sl_frm HN.out.1
      have hstep : (ls.take (k + 1)).filterMap (hitOf r l1 l2) = (ls.take k).filterMap (hitOf r l1 l2) ++ (hitOf r l1 l2 b).toList := by
        rw [List.take_succ_eq_append_getElem hlt, List.filterMap_append, show ls[k] = b from by have := List.getElem?_eq_getElem hlt; rw [hb] at this; exact (Option.some.inj this).symm]
        cases hh : hitOf r l1 l2 b <;> simp [hh]
      have HST := Lib.hid hstep
      have hfit := HFS.out b (List.mem_of_getElem? hb)
      have hgl := hgb
      obtain ⟨z0, z1, z2⟩ := ltw hgb
      clear hstep hcb hb hgl
      generalize hacc : (ls.take k).filterMap (hitOf r l1 l2) = acc at *
      have hal := HNL.out
      have HAC := Lib.hid hacc
      clear hacc HNL
      obtain ⟨s, i, g, m, x, y, vx, vy, hp, pw, lf⟩ := b
      have hbit := fun W => bit_any m 4 W hfit.2.2.2.1.1 hfit.2.2.2.1.2 (by omega)
      rw [← hasB_tb4] at hbit
      have HBIT := Lib.hid hbit
      clear hbit hfit
      cases hlife : hasB m 4 with
      | false =>
        have he : hitOf r l1 l2 ⟨s, i, g, m, x, y, vx, vy, hp, pw, lf⟩ = none := by unfold hitOf; simp only; rw [hlife]; rfl
        rw [he] at HST
        have HE := Lib.hid HST.out
        clear he HST
        go_wp2_with (go_at_call 96; refine (HBIT.out _).mono ?_; rintro e w' ⟨rfl, rfl⟩)
        go_roundg (ls.length - (k + 1))
        case measure => omega
        case rel => exact ⟨k + 1, by go_num, by omega, by omega, HW, Lib.hid (by rw [HE.out]; simpa using HN.out), Lib.hid (by rw [HE.out]; simp; omega)⟩
      | true =>
        have hho : hitOf r l1 l2 ⟨s, i, g, m, x, y, vx, vy, hp, pw, lf⟩ = if 0 < takesF r ⟨s, i, g, m, x, y, vx, vy, hp, pw, lf⟩ (takesF r ⟨s, i, g, m, x, y, vx, vy, hp, pw, lf⟩ 0 l1) l2 then some ⟨s, i, g, takesF r ⟨s, i, g, m, x, y, vx, vy, hp, pw, lf⟩ (takesF r ⟨s, i, g, m, x, y, vx, vy, hp, pw, lf⟩ 0 l1) l2⟩ else none := by
          unfold hitOf; simp only; rw [hlife]; rfl
        have HHO := Lib.hid hho
        have hr1 := takesF_rng r ⟨s, i, g, m, x, y, vx, vy, hp, pw, lf⟩ l1 0 (by omega)
        have hww := HS.out.2.1.trans (HW.out.mono HS.out.2.1.size)
        have q1 := Lib.hid (T1.out ⟨s, i, g, m, x, y, vx, vy, hp, pw, lf⟩ 0 wr hww (by omega) (by omega))
        have q2 := Lib.hid (fun W (hW : Below wr.heap.size wr W) => T2.out ⟨s, i, g, m, x, y, vx, vy, hp, pw, lf⟩ (takesF r ⟨s, i, g, m, x, y, vx, vy, hp, pw, lf⟩ 0 l1) W (hww.trans (hW.mono hww.size)) hr1.1 hr1.2)
        clear hho hww
        generalize takesF r ⟨s, i, g, m, x, y, vx, vy, hp, pw, lf⟩ 0 l1 = n1 at *
        generalize takesF r ⟨s, i, g, m, x, y, vx, vy, hp, pw, lf⟩ n1 l2 = n at *
        go_wp2_with (go_at_call 96; refine (HBIT.out _).mono ?_; rintro e w' ⟨rfl, rfl⟩)
        refine q1.out.mono ?_; rintro e w' ⟨rfl, hb⟩; obtain ⟨d1, os1, rfl⟩ := more_of hb; clear hb
        go_wp2_with fail
        refine (q2.out _ (by repeat' (first | (with_reducible exact Below.refl _ _) | (with_reducible assumption) | (with_reducible refine below_drewN ?_ _) | (with_reducible refine below_more _ _ _ ?_ ?_) | (with_reducible refine Below.alloc ?_ ?_ _) | (with_reducible refine Below.drew ?_) | (with_reducible refine Below.setCell ?_ ?_ _) | go_size))).mono ?_; rintro e w' ⟨rfl, hb⟩; obtain ⟨d2, os2, rfl⟩ := more_of hb; clear hb
        by_cases hn : 0 < n
        · have hho := HHO.out
          rw [if_pos hn] at hho
          rw [hho] at HST
          have HST2 := Lib.hid HST.out
          clear hho HST HHO
          go_wp2_with (at_builtin; refine wpList_append_sl _ (by rfl) _ _ 121 (by rfl) 137 i0 _ 4 32 Try.underlying121 hi0 hz0 hz1 hz2 rfl (by omega) _ acc.length (cellsR hitL acc) (by rfl) (HN.out.grow (by repeat' (first | (with_reducible exact Below.refl _ _) | (with_reducible assumption) | (with_reducible refine below_drewN ?_ _) | (with_reducible refine below_more _ _ _ ?_ ?_) | (with_reducible refine Below.alloc ?_ ?_ _) | (with_reducible refine Below.drew ?_) | (with_reducible refine Below.setCell ?_ ?_ _) | go_size))).1 ⟨_, 0, none⟩ 1 1 (hitL ⟨s, i, g, n⟩) (by rfl) (by rfl) (new_cellsN _ _ _ _ (by simp)) (hitL_one _) (by omega) (by unfold maxLen; omega) (by omega) ?_; intro v' w4 hs4 ht4 ho4)
          have hm := (HN.out.grow (by repeat' (first | (with_reducible exact Below.refl _ _) | (with_reducible assumption) | (with_reducible refine below_drewN ?_ _) | (with_reducible refine below_more _ _ _ ?_ ?_) | (with_reducible refine Below.alloc ?_ ?_ _) | (with_reducible refine Below.drew ?_) | (with_reducible refine Below.setCell ?_ ?_ _) | go_size))).snoc hs4 ht4 ho4
          have HM := Lib.hid hm
          clear hs4 ht4 ho4 hm
          go_roundg (ls.length - (k + 1))
          case measure => omega
          case rel => exact ⟨k + 1, by go_num, by omega, by omega, Lib.hid HM.out.2.1, Lib.hid (by rw [HST2.out]; simpa using HM.out), Lib.hid (by rw [HST2.out]; simp; omega)⟩
        · have hho := HHO.out
          rw [if_neg hn] at hho
          rw [hho] at HST
          have HST2 := Lib.hid HST.out
          clear hho HST HHO
          go_wp2_with fail
          go_roundg (ls.length - (k + 1))
          case measure => omega
          case rel => exact ⟨k + 1, by go_num, by omega, by omega, Lib.hid (HW.out.trans (Below.mono (B := wr.heap.size) (by repeat' (first | (with_reducible exact Below.refl _ _) | (with_reducible assumption) | (with_reducible refine below_drewN ?_ _) | (with_reducible refine below_more _ _ _ ?_ ?_) | (with_reducible refine Below.alloc ?_ ?_ _) | (with_reducible refine Below.drew ?_) | (with_reducible refine Below.setCell ?_ ?_ _) | go_size)) HW.out.size)), Lib.hid (by rw [HST2.out]; simpa using HN.out.grow (by repeat' (first | (with_reducible exact Below.refl _ _) | (with_reducible assumption) | (with_reducible refine below_drewN ?_ _) | (with_reducible refine below_more _ _ _ ?_ ?_) | (with_reducible refine Below.alloc ?_ ?_ _) | (with_reducible refine Below.drew ?_) | (with_reducible refine Below.setCell ?_ ?_ _) | go_size))), Lib.hid (by rw [HST2.out]; simp; omega)⟩
    · have t1 : ¬ (k : Int) < (ls.length : Int) := by omega
      obtain rfl : k = ls.length := by omega
      rw [List.take_length] at HN
      go_wp2_with fail
      go_ret
      exact ⟨_, rfl, HN.out.since HS.out.2.1⟩
end Go.Proofs.Ytcnclcfipabimaa
