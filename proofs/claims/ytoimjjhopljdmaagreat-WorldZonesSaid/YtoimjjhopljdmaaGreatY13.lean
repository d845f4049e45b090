/-
  Chapter texts RfG ShC ShD ZnB SyD ZnD: what the claim reaches of them. Conditions stand at each theorem.
-/
import Derived.StillTailTactics
import Derived.Test.YtoimjjhopljdmaaGreatY08
import Derived.Test.YtoimjjhopljdmaaGreatY12
import Derived.Test.YtoimjjhopljdmaaGreatY02
import Derived.Test.YtoimjjhopljdmaaGreatY09
import Derived.Test.YtoimjjhopljdmaaGreatY07
namespace Go.Proofs.YtoimjjhopljdmaaGreat
open Go.RowKit

def nearestF (n lo hi : Int) : Int := if clampF n < clampF lo then clampF lo else if clampF n ≥ clampF hi then clampF hi - 1 else clampF n

theorem rnearest_any (n lo hi : Int) (w : World) :
    Calls Tryz.prog 50 #[.int .i64 n, .int .i64 lo, .int .i64 hi] w fun e w' => e = .returned (.int .i64 (nearestF n lo hi)) ∧ w = w' := by
  unfold nearestF
  have l1 := clampF_lo hi
  have l2 := clampF_hi hi
  have C0 := Lib.hid (fun W => rClamp_any n W)
  have C1 := Lib.hid (fun W => rClamp_any lo W)
  have C2 := Lib.hid (fun W => rClamp_any hi W)
  generalize clampF n = cn at *
  generalize clampF lo = cl at *
  generalize clampF hi = ch at *
  have w1 : IntKind.i64.wrap (ch - 1) = ch - 1 := by rw [IntKind.wrap_i64]; omega
  
  by_cases h1 : cn < cl
  · rw [if_pos h1]
    go_enter Tryz.func50, Tryz.ntmps50
    go_wp2_with fail
    refine (C0.out _).mono ?_; rintro e w' ⟨rfl, rfl⟩
    go_wp2_with fail
    refine (C1.out _).mono ?_; rintro e w' ⟨rfl, rfl⟩
    go_wp2_with fail
    refine (C2.out _).mono ?_; rintro e w' ⟨rfl, rfl⟩
    go_wp2_with fail
    go_ret
    exact ⟨rfl, rfl⟩
  · rw [if_neg h1]
    by_cases h2 : cn ≥ ch
    · rw [if_pos h2]
      have h2' : ch ≤ cn := h2
      go_enter Tryz.func50, Tryz.ntmps50
      go_wp2_with fail
      refine (C0.out _).mono ?_; rintro e w' ⟨rfl, rfl⟩
      go_wp2_with fail
      refine (C1.out _).mono ?_; rintro e w' ⟨rfl, rfl⟩
      go_wp2_with fail
      refine (C2.out _).mono ?_; rintro e w' ⟨rfl, rfl⟩
      go_wp2_with fail
      go_ret
      exact ⟨rfl, rfl⟩
    · rw [if_neg h2]
      have h2' : ¬ ch ≤ cn := h2
      go_enter Tryz.func50, Tryz.ntmps50
      go_wp2_with fail
      refine (C0.out _).mono ?_; rintro e w' ⟨rfl, rfl⟩
      go_wp2_with fail
      refine (C1.out _).mono ?_; rintro e w' ⟨rfl, rfl⟩
      go_wp2_with fail
      refine (C2.out _).mono ?_; rintro e w' ⟨rfl, rfl⟩
      go_wp2_with fail
      go_ret
      exact ⟨rfl, rfl⟩

theorem nearestF_rng (n lo hi : Int) (h : clampF lo < clampF hi) : -1073741824 ≤ nearestF n lo hi ∧ nearestF n lo hi ≤ 1073741824 := by
  have l1 := clampF_lo lo; have l2 := clampF_hi lo; have l3 := clampF_lo hi; have l4 := clampF_hi hi
  have m1 := clampF_lo n; have m2 := clampF_hi n
  unfold nearestF
  split
  · omega
  · split <;> omega

theorem near_gap (x0 y0 x1 y1 x y : Int) (h : boxOk x0 y0 x1 y1 = true) : farF x y (nearestF x x0 x1) (nearestF y y0 y1) = gapF x0 y0 x1 y1 x y := by
  have hb := h
  unfold gapF
  rw [h, if_pos rfl]
  unfold boxOk at hb
  simp only [Bool.and_eq_true, decide_eq_true_iff] at hb
  have l1 := clampF_lo x0; have l2 := clampF_hi x0; have l3 := clampF_lo y0; have l4 := clampF_hi y0
  have l5 := clampF_lo x1; have l6 := clampF_hi x1; have l7 := clampF_lo y1; have l8 := clampF_hi y1
  have m1 := clampF_lo x; have m2 := clampF_hi x; have m3 := clampF_lo y; have m4 := clampF_hi y
  have nx : clampF (nearestF x x0 x1) = nearestF x x0 x1 := clampF_id _ (nearestF_rng x x0 x1 hb.1).1 (nearestF_rng x x0 x1 hb.1).2
  have ny : clampF (nearestF y y0 y1) = nearestF y y0 y1 := clampF_id _ (nearestF_rng y y0 y1 hb.2).1 (nearestF_rng y y0 y1 hb.2).2
  unfold farF
  rw [nx, ny]
  unfold nearestF offF
  generalize clampF x0 = a0 at *
  generalize clampF y0 = b0 at *
  generalize clampF x1 = a1 at *
  generalize clampF y1 = b1 at *
  generalize clampF x = cx at *
  generalize clampF y = cy at *
  clear nx ny h
  repeat' split
  all_goals omega

theorem rGap_any (x0 y0 x1 y1 x y : Int) (w : World) :
    Calls Tryz.prog 21 #[.agg #[.int .i64 x0, .int .i64 y0, .int .i64 x1, .int .i64 y1], .int .i64 x, .int .i64 y] w fun e w' => e = .returned (.int .i64 (gapF x0 y0 x1 y1 x y)) ∧ Below w.heap.size w w' := by
  have HN := Lib.hid (fun W => rNone_any x0 y0 x1 y1 W)
  cases hok : boxOk x0 y0 x1 y1 with
  | false =>
    rw [hok] at HN
    rw [show gapF x0 y0 x1 y1 x y = -1 by unfold gapF; rw [hok]; rfl]
    go_enter Tryz.func21, Tryz.ntmps21
    go_wp2_with (go_at_call 48; refine (HN.out _).mono ?_; rintro e w' ⟨rfl, hb⟩; obtain ⟨d, os, rfl⟩ := more_of hb; clear hb)
    go_ret
    exact ⟨rfl, bg⟩
  | true =>
    rw [hok] at HN
    rw [← near_gap x0 y0 x1 y1 x y hok]
    have HF := Lib.hid (fun W => rFar_any x y (nearestF x x0 x1) (nearestF y y0 y1) W)
    have H1 := Lib.hid (fun W => rnearest_any x x0 x1 W)
    have H2 := Lib.hid (fun W => rnearest_any y y0 y1 W)
    generalize farF x y (nearestF x x0 x1) (nearestF y y0 y1) = r at *
    generalize nearestF x x0 x1 = nx at *
    generalize nearestF y y0 y1 = ny at *
    go_enter Tryz.func21, Tryz.ntmps21
    go_wp2_with (go_at_call 48; refine (HN.out _).mono ?_; rintro e w' ⟨rfl, hb⟩; obtain ⟨d, os, rfl⟩ := more_of hb; clear hb)
    refine wp_region_more (by kernel_rfl) (by kernel_rfl) ?_
    repeat (go_big_quiet_step ((first | (go_at_call 50; with_reducible exact more_same (H1.out _)) | (go_at_call 50; with_reducible exact more_same (H2.out _)) | (go_at_call 49; with_reducible exact more_same (HF.out _)))))
    refine wpQuiet_nil ?_
    rintro _ ⟨pm, rfl⟩
    go_wp2_with fail
    go_ret
    exact ⟨rfl, bg⟩
end Go.Proofs.YtoimjjhopljdmaaGreat
namespace Go.Proofs.YtoimjjhopljdmaaGreat
open Go.RowKit

theorem addF_in (q n : Int) (h0 : -1073741824 ≤ q) (h1 : q ≤ 1073741824) : addF q n = clampF (q + clampF n) := by unfold addF; rw [clampF_id q h0 h1]
theorem addF_rng (q n : Int) : -1073741824 ≤ addF q n ∧ addF q n ≤ 1073741824 := ⟨clampF_lo _, clampF_hi _⟩
theorem takesF_rng (r : Int) (b : Bun) : ∀ (l : List Bun) (q : Int), -1073741824 ≤ q ∧ q ≤ 1073741824 → -1073741824 ≤ takesF r b q l ∧ takesF r b q l ≤ 1073741824
  | [], q, h => h
  | c :: l, q, h => by
    unfold takesF
    split
    · exact takesF_rng r b l _ (addF_rng _ _)
    · exact takesF_rng r b l q h


set_option maxRecDepth 100000 in
set_option maxHeartbeats 2000000 in
theorem rTakes14 (b : Bun) (v : Value) (l : List Bun) (r n0 : Int) (w : World) (h : BIn w v l) (hf : ∀ c ∈ l, BFit c) (hl : l.length ≤ 1000) (hn0 : -1073741824 ≤ n0) (hn1 : n0 ≤ 1073741824) :
    Calls Tryz.prog 92 #[b.v, v, .int .i64 r, .int .i64 n0] w fun e w' => e = .returned (.int .i64 (takesF r b n0 l)) ∧ Below w.heap.size w w' := by
  have H := Lib.hid h
  have HF := Lib.hid hf
  obtain ⟨p, e, rfl, _⟩ := h
  clear hf
  obtain ⟨s, i, g, m, x, y, vx, vy, hp, pw, lf⟩ := b
  go_enter Tryz.func92, Tryz.ntmps92
  go_wp2_with fail
  go_loopg [9, 3] l.length (fun kx sx sn wr => ∃ (t : Nat) (q : Int), sx = .int .i64 t ∧ sn = .int .i64 q ∧ t ≤ l.length ∧ l.length - t ≤ kx ∧ -1073741824 ≤ q ∧ q ≤ 1073741824 ∧ Hid (takesF r ⟨s, i, g, m, x, y, vx, vy, hp, pw, lf⟩ q (l.drop t) = takesF r ⟨s, i, g, m, x, y, vx, vy, hp, pw, lf⟩ n0 l) ∧ Hid (Below w.heap.size w wr) ∧ w.heap.size < wr.heap.size ∧ Hid (∀ u, wr.cell? ⟨w.heap.size, u, none⟩ = (#[.int .i64 s, .int .i64 i, .int .i64 g, .int .i64 m, .int .i64 x, .int .i64 y, .int .i64 vx, .int .i64 vy, .int .i64 hp, .int .i64 pw, .int .i64 lf] : Array Value)[u]?))
  case atStart => exact ⟨0, n0, by go_num, rfl, by omega, by omega, hn0, hn1, Lib.hid rfl, Lib.hid bg, by simp, Lib.hid (fun u => by simp)⟩
  case round =>
    obtain ⟨t, q, rfl, rfl, ht, hkx, hq0, hq1, HFF, HW, hsz, HB⟩ := hrel
    by_cases hlt : t < l.length
    · have t3 : (t : Int) < (l.length : Int) := by omega
      obtain ⟨c, hc⟩ : ∃ c, l[t]? = some c := ⟨_, List.getElem?_eq_getElem hlt⟩
      obtain ⟨gc, oc, cc, hv, hgc, hcc⟩ := (H.out.keep HW.out).cells hc
      simp only [Value.slice.injEq, true_and] at hv
      obtain ⟨rfl, rfl⟩ := hv
      have u0 := hcc 0 _ rfl
      have u1 := hcc 1 _ rfl
      have u2 := hcc 2 _ rfl
      have u3 := hcc 3 _ rfl
      have u4 := hcc 4 _ rfl
      have u5 := hcc 5 _ rfl
      have u6 := hcc 6 _ rfl
      have u7 := hcc 7 _ rfl
      have u8 := hcc 8 _ rfl
      have u9 := hcc 9 _ rfl
      have u10 := hcc 10 _ rfl
      simp only [Nat.add_zero] at u0
      have y0 := HB.out 0; simp at y0
      have y1 := HB.out 1; simp at y1
      have y2 := HB.out 2; simp at y2
      have y4 := HB.out 4; simp at y4
      have y5 := HB.out 5; simp at y5
      have hq := HFF.out
      rw [List.drop_eq_getElem_cons hlt, show l[t] = c from by have := List.getElem?_eq_getElem hlt; rw [hc] at this; exact (Option.some.inj this).symm] at hq
      simp only [takesF] at hq
      have HQ := Lib.hid hq
      have hfit := HF.out c (List.mem_of_getElem? hc)
      obtain ⟨z0, z1, z2, z3⟩ := ltq hsz
      clear hq hcc hc HFF
      obtain ⟨s', i', g', m', x', y', vx', vy', hp', pw', lf'⟩ := c
      have hbit := fun W => bit_any m' 8 W hfit.2.2.2.1.1 hfit.2.2.2.1.2 (by omega)
      rw [← hasB_tb8] at hbit
      have HBIT := Lib.hid hbit
      clear hbit hfit
      
      cases h1 : idEq s' i' g' s i g with
      | true =>
        have ht : takeC r ⟨s, i, g, m, x, y, vx, vy, hp, pw, lf⟩ ⟨s', i', g', m', x', y', vx', vy', hp', pw', lf'⟩ = false := by unfold takeC; simp only; rw [h1]; rfl
        have HT := Lib.hid ht
        clear ht
        go_wp2_with (first | (go_at_call 41; refine (HBIT.out _).mono ?_; rintro e w' ⟨rfl, rfl⟩) | (go_at_call 49; refine (rFar_any _ _ _ _ _).mono ?_; rintro e w' ⟨rfl, rfl⟩))
        go_roundg (l.length - (t + 1))
        case measure => omega
        case rel => exact ⟨t + 1, q, by go_num, rfl, by omega, by omega, hq0, hq1, Lib.hid (by have h := HQ.out; rw [HT.out] at h; exact h), Lib.hid (HW.out.trans (Below.mono (B := wr.heap.size) bg HW.out.size)), by simp; omega, Lib.hid (fun u => by rw [← HB.out u]; exact Below.cell (B := wr.heap.size) bg (by simpa using hsz))⟩
      | false =>
        cases h2 : hasB m' 8 with
        | false =>
          have ht : takeC r ⟨s, i, g, m, x, y, vx, vy, hp, pw, lf⟩ ⟨s', i', g', m', x', y', vx', vy', hp', pw', lf'⟩ = false := by unfold takeC; simp only; rw [h1, h2]; rfl
          have HT := Lib.hid ht
          clear ht
          go_wp2_with (first | (go_at_call 41; refine (HBIT.out _).mono ?_; rintro e w' ⟨rfl, rfl⟩) | (go_at_call 49; refine (rFar_any _ _ _ _ _).mono ?_; rintro e w' ⟨rfl, rfl⟩))
          go_roundg (l.length - (t + 1))
          case measure => omega
          case rel => exact ⟨t + 1, q, by go_num, rfl, by omega, by omega, hq0, hq1, Lib.hid (by have h := HQ.out; rw [HT.out] at h; exact h), Lib.hid (HW.out.trans (Below.mono (B := wr.heap.size) bg HW.out.size)), by simp; omega, Lib.hid (fun u => by rw [← HB.out u]; exact Below.cell (B := wr.heap.size) bg (by simpa using hsz))⟩
        | true =>
          cases h3 : decide (farF x y x' y' ≤ r) with
          | false =>
            have ht : takeC r ⟨s, i, g, m, x, y, vx, vy, hp, pw, lf⟩ ⟨s', i', g', m', x', y', vx', vy', hp', pw', lf'⟩ = false := by unfold takeC; simp only; rw [h1, h2, h3]; rfl
            have HT := Lib.hid ht
            clear ht
            go_wp2_with (first | (go_at_call 41; refine (HBIT.out _).mono ?_; rintro e w' ⟨rfl, rfl⟩) | (go_at_call 49; refine (rFar_any _ _ _ _ _).mono ?_; rintro e w' ⟨rfl, rfl⟩))
            go_roundg (l.length - (t + 1))
            case measure => omega
            case rel => exact ⟨t + 1, q, by go_num, rfl, by omega, by omega, hq0, hq1, Lib.hid (by have h := HQ.out; rw [HT.out] at h; exact h), Lib.hid (HW.out.trans (Below.mono (B := wr.heap.size) bg HW.out.size)), by simp; omega, Lib.hid (fun u => by rw [← HB.out u]; exact Below.cell (B := wr.heap.size) bg (by simpa using hsz))⟩
          | true =>
            have ht : takeC r ⟨s, i, g, m, x, y, vx, vy, hp, pw, lf⟩ ⟨s', i', g', m', x', y', vx', vy', hp', pw', lf'⟩ = true := by unfold takeC; simp only; rw [h1, h2, h3]; rfl
            have HT := Lib.hid ht
            have HA := Lib.hid (addF_in q pw' hq0 hq1)
            have HR := Lib.hid (addF_rng q pw')
            have hp0 := clampF_lo pw'
            have hp1 := clampF_hi pw'
            have C1 := Lib.hid (fun W => rClamp_any pw' W)
            generalize clampF pw' = cw at *
            have C2 := Lib.hid (fun W => by have h := rClamp_any (q + cw) W; rw [← HA.out] at h; exact h)
            clear ht
            go_wp2_with (first | (go_at_call 41; refine (HBIT.out _).mono ?_; rintro e w' ⟨rfl, rfl⟩) | (go_at_call 49; refine (rFar_any _ _ _ _ _).mono ?_; rintro e w' ⟨rfl, rfl⟩))
            refine (C1.out _).mono ?_; rintro e w' ⟨rfl, rfl⟩
            go_wp2_with fail
            refine (C2.out _).mono ?_; rintro e w' ⟨rfl, rfl⟩
            go_wp2_with fail
            go_roundg (l.length - (t + 1))
            case measure => omega
            case rel => exact ⟨t + 1, _, by go_num, rfl, by omega, by omega, HR.out.1, HR.out.2, Lib.hid (by have h := HQ.out; rw [HT.out] at h; exact h), Lib.hid (HW.out.trans (Below.mono (B := wr.heap.size) bg HW.out.size)), by simp; omega, Lib.hid (fun u => by rw [← HB.out u]; exact Below.cell (B := wr.heap.size) bg (by simpa using hsz))⟩
    · have t3 : ¬ (t : Int) < (l.length : Int) := by omega
      obtain rfl : t = l.length := by omega
      have hq := HFF.out
      rw [List.drop_length] at hq
      simp only [takesF] at hq
      have HQ := Lib.hid hq
      clear hq HFF
      go_wp2_with fail
      go_ret
      exact ⟨by rw [← HQ.out]; rfl, HW.out⟩
end Go.Proofs.YtoimjjhopljdmaaGreat
namespace Go.Proofs.YtoimjjhopljdmaaGreat
open Go.RowKit

theorem stableF_mem (l : List Bun) (b : Bun) (h : b ∈ stableF cmpBun l) : b ∈ l := by
  unfold stableF at h
  obtain ⟨x, hx, rfl⟩ := List.mem_map.1 h
  have h1 := (List.mergeSort_perm _ _).mem_iff.1 hx
  have h2 := List.mem_zipIdx_iff_getElem?.1 h1
  exact List.mem_of_getElem? h2

set_option maxRecDepth 100000 in
set_option maxHeartbeats 2000000 in
theorem rHits_any (r : Int) (v1 v2 : Value) (l1 l2 : List Bun) (w : World) (h1 : BIn w v1 l1) (h2 : BIn w v2 l2) (hf1 : ∀ c ∈ l1, BFit c) (hf2 : ∀ c ∈ l2, BFit c) (hl1 : l1.length ≤ 1000) (hl2 : l2.length ≤ 1000) :
    Calls Tryz.prog 51 #[.int .i64 r, v1, v2] w fun e w' => ∃ v', e = .returned v' ∧ RNew hitL 149 4 w w' v' (hitsF r l1 l2) := by
  obtain ⟨i0, hi0, hz0, hz1, hz2⟩ := info_parts info_hitJ
  have T1 := Lib.hid (fun b n W hW a c => rTakes14 b v1 l1 r n W (h1.keep hW) hf1 hl1 a c)
  have T2 := Lib.hid (fun b n W hW a c => rTakes14 b v2 l2 r n W (h2.keep hW) hf2 hl2 a c)
  have hso := rsorted_any v1 l1 w h1 (by omega)
  unfold hitsF
  have hfs : ∀ c ∈ stableF cmpBun l1, BFit c := fun c hc => hf1 c (stableF_mem l1 c hc)
  generalize hls : stableF cmpBun l1 = ls at *
  have hlsn : ls.length ≤ 1000 := by rw [← hls, stableF_len]; exact hl1
  have HSO := Lib.hid hso
  have HFS := Lib.hid hfs
  clear hso hls hfs hf1 hf2
  obtain ⟨p1, e1, rfl, _⟩ := h1
  obtain ⟨p2, e2, rfl, _⟩ := h2
  go_enter Tryz.func51, Tryz.ntmps51
  go_wp2_with fail
  refine HSO.out.mono ?_
  rintro e w1 ⟨vs, rfl, hS⟩
  obtain ⟨ps, cs, rfl⟩ := sl_frm hS.1
  have HS := Lib.hid hS
  have hsz1 := hS.2.1.size
  clear hS
  go_wp2_with fail
  go_loopg [9, 7] ls.length (fun kx sx o wr => ∃ k : Nat, sx = .int .i64 k ∧ k ≤ ls.length ∧ ls.length - k ≤ kx ∧ Hid (Below w1.heap.size w1 wr) ∧ Hid (RNew hitL 149 4 w1 wr o ((ls.take k).filterMap (hitOf r l1 l2))) ∧ Hid (((ls.take k).filterMap (hitOf r l1 l2)).length ≤ k))
  case atStart => exact ⟨0, by go_num, by omega, by omega, Lib.hid (Below.refl _ _), Lib.hid (RNew.nil w1), Lib.hid (Nat.le_refl _)⟩
  case round =>
    obtain ⟨k, rfl, hk, hkx, HW, HN, HNL⟩ := hrel
    by_cases hlt : k < ls.length
    · have t1 : (k : Int) < (ls.length : Int) := by omega
      obtain ⟨b, hb⟩ : ∃ b, ls[k]? = some b := ⟨_, List.getElem?_eq_getElem hlt⟩
      obtain ⟨gb, ob, cb, hv, hgb, hcb⟩ := (HS.out.bin.keep HW.out).cells hb
      simp only [Value.slice.injEq, true_and] at hv
      obtain ⟨rfl, rfl⟩ := hv
      have c0 := hcb 0 _ rfl
      have c1 := hcb 1 _ rfl
      have c2 := hcb 2 _ rfl
      have c3 := hcb 3 _ rfl
      have c4 := hcb 4 _ rfl
      have c5 := hcb 5 _ rfl
      have c6 := hcb 6 _ rfl
      have c7 := hcb 7 _ rfl
      have c8 := hcb 8 _ rfl
      have c9 := hcb 9 _ rfl
      have c10 := hcb 10 _ rfl
      simp only [Nat.add_zero] at c0
      obtain ⟨po, co, rfl⟩ := sl_frm HN.out.1
      have hstep : (ls.take (k + 1)).filterMap (hitOf r l1 l2) = (ls.take k).filterMap (hitOf r l1 l2) ++ (hitOf r l1 l2 b).toList := by
        rw [List.take_succ_eq_append_getElem hlt, List.filterMap_append, show ls[k] = b from by have := List.getElem?_eq_getElem hlt; rw [hb] at this; exact (Option.some.inj this).symm]
        cases hh : hitOf r l1 l2 b <;> simp [hh]
      have HST := Lib.hid hstep
      have hfit := HFS.out b (List.mem_of_getElem? hb)
      have hgl := hgb
      obtain ⟨z0, z1, z2⟩ := ltw hgb
      clear hstep hcb hb hgl
      generalize hacc : (ls.take k).filterMap (hitOf r l1 l2) = acc at *
      have hal := HNL.out
      have HAC := Lib.hid hacc
      clear hacc HNL
      obtain ⟨s, i, g, m, x, y, vx, vy, hp, pw, lf⟩ := b
      have hbit := fun W => bit_any m 4 W hfit.2.2.2.1.1 hfit.2.2.2.1.2 (by omega)
      rw [← hasB_tb4] at hbit
      have HBIT := Lib.hid hbit
      clear hbit hfit
      cases hlife : hasB m 4 with
      | false =>
        have he : hitOf r l1 l2 ⟨s, i, g, m, x, y, vx, vy, hp, pw, lf⟩ = none := by unfold hitOf; simp only; rw [hlife]; rfl
        rw [he] at HST
        have HE := Lib.hid HST.out
        clear he HST
        go_wp2_with (go_at_call 41; refine (HBIT.out _).mono ?_; rintro e w' ⟨rfl, rfl⟩)
        go_roundg (ls.length - (k + 1))
        case measure => omega
        case rel => exact ⟨k + 1, by go_num, by omega, by omega, HW, Lib.hid (by rw [HE.out]; simpa using HN.out), Lib.hid (by rw [HE.out]; simp; omega)⟩
      | true =>
        have hho : hitOf r l1 l2 ⟨s, i, g, m, x, y, vx, vy, hp, pw, lf⟩ = if 0 < takesF r ⟨s, i, g, m, x, y, vx, vy, hp, pw, lf⟩ (takesF r ⟨s, i, g, m, x, y, vx, vy, hp, pw, lf⟩ 0 l1) l2 then some ⟨s, i, g, takesF r ⟨s, i, g, m, x, y, vx, vy, hp, pw, lf⟩ (takesF r ⟨s, i, g, m, x, y, vx, vy, hp, pw, lf⟩ 0 l1) l2⟩ else none := by
          unfold hitOf; simp only; rw [hlife]; rfl
        have HHO := Lib.hid hho
        have hr1 := takesF_rng r ⟨s, i, g, m, x, y, vx, vy, hp, pw, lf⟩ l1 0 (by omega)
        have hww := HS.out.2.1.trans (HW.out.mono HS.out.2.1.size)
        have q1 := Lib.hid (T1.out ⟨s, i, g, m, x, y, vx, vy, hp, pw, lf⟩ 0 wr hww (by omega) (by omega))
        have q2 := Lib.hid (fun W (hW : Below wr.heap.size wr W) => T2.out ⟨s, i, g, m, x, y, vx, vy, hp, pw, lf⟩ (takesF r ⟨s, i, g, m, x, y, vx, vy, hp, pw, lf⟩ 0 l1) W (hww.trans (hW.mono hww.size)) hr1.1 hr1.2)
        clear hho hww
        generalize takesF r ⟨s, i, g, m, x, y, vx, vy, hp, pw, lf⟩ 0 l1 = n1 at *
        generalize takesF r ⟨s, i, g, m, x, y, vx, vy, hp, pw, lf⟩ n1 l2 = n at *
        go_wp2_with (go_at_call 41; refine (HBIT.out _).mono ?_; rintro e w' ⟨rfl, rfl⟩)
        refine q1.out.mono ?_; rintro e w' ⟨rfl, hb⟩; obtain ⟨d1, os1, rfl⟩ := more_of hb; clear hb
        go_wp2_with fail
        refine (q2.out _ bg).mono ?_; rintro e w' ⟨rfl, hb⟩; obtain ⟨d2, os2, rfl⟩ := more_of hb; clear hb
        by_cases hn : 0 < n
        · have hho := HHO.out
          rw [if_pos hn] at hho
          rw [hho] at HST
          have HST2 := Lib.hid HST.out
          clear hho HST HHO
          go_wp2_with (at_builtin; refine wpList_append_sl _ (by rfl) _ _ 97 (by rfl) 149 i0 _ 4 32 Tryz.underlying97 hi0 hz0 hz1 hz2 rfl (by omega) _ acc.length (cellsR hitL acc) (by rfl) (HN.out.grow bg).1 ⟨_, 0, none⟩ 1 1 (hitL ⟨s, i, g, n⟩) (by rfl) (by rfl) (new_cellsN _ _ _ _ (by simp)) (hitL_one _) (by omega) (by unfold maxLen; omega) (by omega) ?_; intro v' w4 hs4 ht4 ho4)
          have hm := (HN.out.grow bg).snoc hs4 ht4 ho4
          have HM := Lib.hid hm
          clear hs4 ht4 ho4 hm
          go_roundg (ls.length - (k + 1))
          case measure => omega
          case rel => exact ⟨k + 1, by go_num, by omega, by omega, Lib.hid HM.out.2.1, Lib.hid (by rw [HST2.out]; simpa using HM.out), Lib.hid (by rw [HST2.out]; simp; omega)⟩
        · have hho := HHO.out
          rw [if_neg hn] at hho
          rw [hho] at HST
          have HST2 := Lib.hid HST.out
          clear hho HST HHO
          go_wp2_with fail
          go_roundg (ls.length - (k + 1))
          case measure => omega
          case rel => exact ⟨k + 1, by go_num, by omega, by omega, Lib.hid (HW.out.trans (Below.mono (B := wr.heap.size) bg HW.out.size)), Lib.hid (by rw [HST2.out]; simpa using HN.out.grow bg), Lib.hid (by rw [HST2.out]; simp; omega)⟩
    · have t1 : ¬ (k : Int) < (ls.length : Int) := by omega
      obtain rfl : k = ls.length := by omega
      rw [List.take_length] at HN
      go_wp2_with fail
      go_ret
      exact ⟨_, rfl, HN.out.since HS.out.2.1⟩
end Go.Proofs.YtoimjjhopljdmaaGreat
namespace Go.Proofs.YtoimjjhopljdmaaGreat
open Go.RowKit

def nextB (cols k i : Int) : Bool := !(i == k) && (max (i % cols - k % cols) (max (-(i % cols - k % cols)) (max (i / cols - k / cols) (-(i / cols - k / cols)))) == 1)
def besideF (c : Cfg) (k : Int) : List Int := ((List.range (c.cols * c.rows).toNat).map fun i : Nat => (i : Int)).filter (nextB c.cols k)
end Go.Proofs.YtoimjjhopljdmaaGreat
namespace Go.Proofs.YtoimjjhopljdmaaGreat
open Go.RowKit

theorem more_alloc (w : World) (d : Nat) (os : Array Obj) (o : Obj) : (more w d os).alloc o = more w d (os.push o) := by
  have e : (w.heap ++ os).push o = w.heap ++ os.push o := by apply Array.ext'; simp
  show ({ more w d os with heap := (w.heap ++ os).push o } : World) = _
  rw [e]
  rfl

def moveF (c : Cfg) (b : Bun) : Bun :=
  let x := if hasB b.m 2 then addF b.x (max (-c.speed) (min c.speed b.vx)) else b.x
  let y := if hasB b.m 2 then addF b.y (max (-c.speed) (min c.speed b.vy)) else b.y
  { b with x := (inF c x y).1, y := (inF c x y).2 }


set_option maxRecDepth 100000 in
set_option maxHeartbeats 2000000 in
theorem move_vel (w : World) (bm : Nat) (c : Cfg) (s i g m x y vx vy hp pw lf : Int) (h : MapAt w bm c) (ho : CfgOk c) (hb : hasB m 2 = true) :
    Calls Tryz.prog 104 #[.pointer (some ⟨bm, 0, none⟩), .agg #[.int .i64 s, .int .i64 i, .int .i64 g, .int .i64 m, .int .i64 x, .int .i64 y, .int .i64 vx, .int .i64 vy, .int .i64 hp, .int .i64 pw, .int .i64 lf]] w fun e w' => e = .returned (moveF c ⟨s, i, g, m, x, y, vx, vy, hp, pw, lf⟩).v ∧ Below w.heap.size w w' := by
  have h4 := h.cell 4
  simp only [List.getElem?_toArray, List.getElem?_cons_succ, List.getElem?_cons_zero] at h4
  have HZ := Lib.hid (fun W (hW : Below w.heap.size w W) x y => zin_any W bm c x y (h.grow hW) ho)
  have hbm : bm < w.heap.size := World.block_lt_of_cell? w _ h4
  obtain ⟨b10, b11, b12, b13⟩ := ltb hbm
  obtain ⟨b20, b21, b22, b23⟩ := ltb b10
  have hs0 := ho.v0
  have hs1 := ho.v1
  have hs2 := ho.s1
  obtain ⟨cols, rows, side, radius, speed, ids, queue⟩ := c
  simp only at h4 hs0 hs1 hs2
  go_enter Tryz.func104, Tryz.ntmps104
  go_wp2_with (go_at_call 136; refine (has_any _ _ _ _ _ _ _ _ _ _ _ _ _).mono ?_; rintro e w' ⟨rfl, hb⟩; obtain ⟨d, os, rfl⟩ := more_of hb; clear hb)
  go_still_tail 17, (by kernel_rfl)
  go_wp2_with (go_at_call 138; refine (add_any _ x (max (-speed) (min speed vx)) _ (by simp [go_sem]) (by simp [go_sem])).mono ?_; rintro e w' ⟨rfl, rfl⟩)
  rw [more_alloc]
  generalize os.push _ = os2
  go_still_tail 17, (by kernel_rfl)
  go_wp2_with (go_at_call 138; refine (add_any _ y (max (-speed) (min speed vy)) _ (by simp [go_sem]) (by simp [go_sem])).mono ?_; rintro e w' ⟨rfl, rfl⟩)
  refine (HZ.out _ bg _ _).mono ?_
  rintro e w' ⟨rfl, nz, rfl⟩
  go_wp2_with fail
  go_returns
  refine ⟨?_, bg⟩
  simp [moveF, hb]

set_option maxRecDepth 100000 in
set_option maxHeartbeats 2000000 in
theorem move_rest (w : World) (bm : Nat) (c : Cfg) (s i g m x y vx vy hp pw lf : Int) (h : MapAt w bm c) (ho : CfgOk c) (hb : hasB m 2 = false) :
    Calls Tryz.prog 104 #[.pointer (some ⟨bm, 0, none⟩), .agg #[.int .i64 s, .int .i64 i, .int .i64 g, .int .i64 m, .int .i64 x, .int .i64 y, .int .i64 vx, .int .i64 vy, .int .i64 hp, .int .i64 pw, .int .i64 lf]] w fun e w' => e = .returned (moveF c ⟨s, i, g, m, x, y, vx, vy, hp, pw, lf⟩).v ∧ Below w.heap.size w w' := by
  have HZ := Lib.hid (fun W (hW : Below w.heap.size w W) x y => zin_any W bm c x y (h.grow hW) ho)
  clear h ho
  go_enter Tryz.func104, Tryz.ntmps104
  go_wp2_with (go_at_call 136; refine (has_any _ _ _ _ _ _ _ _ _ _ _ _ _).mono ?_; rintro e w' ⟨rfl, hb⟩; obtain ⟨d, os, rfl⟩ := more_of hb; clear hb)
  refine (HZ.out _ bg _ _).mono ?_
  rintro e w' ⟨rfl, nz, rfl⟩
  go_wp2_with fail
  go_returns
  refine ⟨?_, bg⟩
  simp [moveF, hb]

theorem move_any (w : World) (bm : Nat) (c : Cfg) (s i g m x y vx vy hp pw lf : Int) (h : MapAt w bm c) (ho : CfgOk c) :
    Calls Tryz.prog 104 #[.pointer (some ⟨bm, 0, none⟩), .agg #[.int .i64 s, .int .i64 i, .int .i64 g, .int .i64 m, .int .i64 x, .int .i64 y, .int .i64 vx, .int .i64 vy, .int .i64 hp, .int .i64 pw, .int .i64 lf]] w fun e w' => e = .returned (.agg #[.int .i64 (moveF c ⟨s, i, g, m, x, y, vx, vy, hp, pw, lf⟩).s, .int .i64 (moveF c ⟨s, i, g, m, x, y, vx, vy, hp, pw, lf⟩).i, .int .i64 (moveF c ⟨s, i, g, m, x, y, vx, vy, hp, pw, lf⟩).g, .int .i64 (moveF c ⟨s, i, g, m, x, y, vx, vy, hp, pw, lf⟩).m, .int .i64 (moveF c ⟨s, i, g, m, x, y, vx, vy, hp, pw, lf⟩).x, .int .i64 (moveF c ⟨s, i, g, m, x, y, vx, vy, hp, pw, lf⟩).y, .int .i64 (moveF c ⟨s, i, g, m, x, y, vx, vy, hp, pw, lf⟩).vx, .int .i64 (moveF c ⟨s, i, g, m, x, y, vx, vy, hp, pw, lf⟩).vy, .int .i64 (moveF c ⟨s, i, g, m, x, y, vx, vy, hp, pw, lf⟩).hp, .int .i64 (moveF c ⟨s, i, g, m, x, y, vx, vy, hp, pw, lf⟩).pw, .int .i64 (moveF c ⟨s, i, g, m, x, y, vx, vy, hp, pw, lf⟩).lf]) ∧ Below w.heap.size w w' := by
  cases hb : hasB m 2 with
  | true => exact move_vel w bm c s i g m x y vx vy hp pw lf h ho hb
  | false => exact move_rest w bm c s i g m x y vx vy hp pw lf h ho hb

theorem near_any (v n : Int) (w : World) (h0 : 0 ≤ n) (h1 : n ≤ 1073741824) : Calls Tryz.prog 95 #[.int .i64 v, .int .i64 n] w fun e w' => e = .returned (.int .i64 (max (-n) (min n v))) ∧ w = w' := by
  by_cases h2 : n < v
  · rw [show max (-n) (min n v) = n by omega]
    go_enter Tryz.func95, Tryz.ntmps95
    go_wp2
    go_ret
    exact ⟨rfl, rfl⟩
  · by_cases h3 : v < -n
    · rw [show max (-n) (min n v) = -n by omega]
      have h4 : v ≤ n := by omega
      clear h2
      go_enter Tryz.func95, Tryz.ntmps95
      go_wp2
      go_ret
      exact ⟨rfl, rfl⟩
    · rw [show max (-n) (min n v) = v by omega]
      have h4 : v ≤ n := by omega
      have h5 : -n ≤ v := by omega
      clear h2 h3
      go_enter Tryz.func95, Tryz.ntmps95
      go_wp2
      go_ret
      exact ⟨rfl, rfl⟩

theorem into_any (x n : Int) (w : World) (h0 : 1 ≤ n) (h1 : n ≤ 1073741824) : Calls Tryz.prog 62 #[.int .i64 x, .int .i64 n] w fun e w' => e = .returned (.int .i64 (max 0 (min x (n - 1)))) ∧ w = w' := by
  by_cases h2 : x < 0
  · rw [show max 0 (min x (n - 1)) = 0 by omega]
    go_enter Tryz.func62, Tryz.ntmps62
    go_wp2
    go_ret
    exact ⟨rfl, rfl⟩
  · have h2' : 0 ≤ x := by omega
    by_cases h3 : n ≤ x
    · rw [show max 0 (min x (n - 1)) = n - 1 by omega]
      clear h2
      go_enter Tryz.func62, Tryz.ntmps62
      go_wp2
      go_ret
      exact ⟨rfl, rfl⟩
    · rw [show max 0 (min x (n - 1)) = x by omega]
      have h4 : x < n := by omega
      clear h2 h3
      go_enter Tryz.func62, Tryz.ntmps62
      go_wp2
      go_ret
      exact ⟨rfl, rfl⟩

set_option maxHeartbeats 1000000 in
theorem rIn_k (cols rows side radius speed ids queue x y : Int) (w : World) (ho : CfgOk ⟨cols, rows, side, radius, speed, ids, queue⟩) :
    Calls Tryz.prog 27 #[.agg #[.int .i64 cols, .int .i64 rows, .int .i64 side, .int .i64 radius, .int .i64 speed, .int .i64 ids, .int .i64 queue], .int .i64 x, .int .i64 y] w fun e w' => e = .returned (.tuple #[.int .i64 (inF ⟨cols, rows, side, radius, speed, ids, queue⟩ x y).1, .int .i64 (inF ⟨cols, rows, side, radius, speed, ids, queue⟩ x y).2]) ∧ Below w.heap.size w w' := by
  obtain ⟨p1, p2, p3, p4⟩ := ho.prod
  simp only at p1 p2 p3 p4
  simp only [inF]
  clear ho
  generalize hx1 : cols * side = x1 at *
  generalize hy1 : rows * side = y1 at *
  go_enter Tryz.func27, Tryz.ntmps27
  go_wp2_with fail
  refine wp_region_more (by kernel_rfl) (by kernel_rfl) ?_
  repeat (go_big_quiet_step ((first | (go_at_call 62; exact more_same (into_any _ _ _ (by omega) (by omega))))))
  refine wpQuiet_nil ?_
  rintro _ ⟨pm, rfl⟩
  go_wp2_with fail
  go_ret2
  exact ⟨rfl, bg⟩

theorem addF_near (x v n : Int) (h0 : 0 ≤ n) (h1 : n ≤ 1073741824) : clampF (clampF x + max (-n) (min n v)) = addF x (max (-n) (min n v)) := by
  unfold addF
  rw [clampF_id (max (-n) (min n v)) (by omega) (by omega)]
end Go.Proofs.YtoimjjhopljdmaaGreat
namespace Go.Proofs.YtoimjjhopljdmaaGreat
open Go.RowKit
theorem div_near {x x' s : Int} (hs : 0 < s) (h1 : x - s ≤ x') (h2 : x' ≤ x + s) : -1 ≤ x' / s - x / s ∧ x' / s - x / s ≤ 1 := by
  have e1 : (x - s) / s = x / s - 1 := by rw [Int.sub_ediv_of_dvd x (Int.dvd_refl s), Int.ediv_self (by omega)]
  have e2 : (x + s) / s = x / s + 1 := by rw [Int.add_ediv_of_dvd_right (Int.dvd_refl s), Int.ediv_self (by omega)]
  have h3 := Int.ediv_le_ediv hs h1
  have h4 := Int.ediv_le_ediv hs h2
  omega
theorem mem_beside {c : Cfg} {k i : Int} (h0 : 0 ≤ i) (h1 : i < c.cols * c.rows) (h : nextB c.cols k i = true) : i ∈ besideF c k := by
  unfold besideF
  refine List.mem_filter.2 ⟨List.mem_map.2 ⟨i.toNat, List.mem_range.2 (by omega), by omega⟩, h⟩

theorem stays {c : Cfg} (ho : CfgOk c) {x y x' y' : Int} (h : inW c x y = true) (h' : inW c x' y' = true) (hx1 : x - c.side ≤ x') (hx2 : x' ≤ x + c.side) (hy1 : y - c.side ≤ y') (hy2 : y' ≤ y + c.side) :
    ofF c x y = ofF c x' y' ∨ ofF c x' y' ∈ besideF c (ofF c x y) := by
  obtain ⟨e, a0, a1, b0, b1, m0, m1⟩ := ofF_in ho h
  obtain ⟨e', a0', a1', b0', b1', m0', m1'⟩ := ofF_in ho h'
  have s0 := ho.s0
  obtain ⟨d1, d2⟩ := div_near (x := x) (x' := x') (s := c.side) (by omega) hx1 hx2
  obtain ⟨d3, d4⟩ := div_near (x := y) (x' := y') (s := c.side) (by omega) hy1 hy2
  obtain ⟨c1, c2⟩ := col_row (cy := y / c.side) a0 a1
  obtain ⟨c1', c2'⟩ := col_row (cy := y' / c.side) a0' a1'
  by_cases heq : ofF c x y = ofF c x' y'
  · exact .inl heq
  · right
    refine mem_beside m0' m1' ?_
    unfold nextB
    have hne : (ofF c x' y' == ofF c x y) = false := by simp; exact fun e => heq e.symm
    rw [hne, e, e', c1, c2, c1', c2']
    generalize x / c.side = p at *
    generalize y / c.side = q at *
    generalize x' / c.side = p' at *
    generalize y' / c.side = q' at *
    have hpq : ¬ (p = p' ∧ q = q') := fun ⟨h1, h2⟩ => heq (by rw [e, e', h1, h2])
    simp only [Bool.not_false, Bool.true_and, beq_iff_eq]
    omega

theorem inF_in {c : Cfg} (ho : CfgOk c) (x y : Int) : inW c (inF c x y).1 (inF c x y).2 = true := by
  obtain ⟨p1, p2, p3, p4⟩ := ho.prod
  unfold inW inF
  simp only [decide_eq_true_eq]
  omega

theorem move_stays {c : Cfg} (ho : CfgOk c) (b : Bun) (h : inW c b.x b.y = true) : ofF c b.x b.y = ofF c (moveF c b).x (moveF c b).y ∨ ofF c (moveF c b).x (moveF c b).y ∈ besideF c (ofF c b.x b.y) := by
  have h2 := h
  unfold inW at h2
  obtain ⟨x0, x1, y0, y1⟩ := of_decide_eq_true h2
  obtain ⟨p1, p2, p3, p4⟩ := ho.prod
  have v0 := ho.v0
  have v1 := ho.v1
  have s1 := ho.s1
  have key : ∀ (n v W : Int), 0 ≤ n → n < W → W ≤ 4194304 → n - c.side ≤ max 0 (min (addF n (max (-c.speed) (min c.speed v))) (W - 1)) ∧ max 0 (min (addF n (max (-c.speed) (min c.speed v))) (W - 1)) ≤ n + c.side := by
    intro n v W hn0 hn1 hW
    have e : addF n (max (-c.speed) (min c.speed v)) = n + max (-c.speed) (min c.speed v) := by
      unfold addF
      rw [clampF_id n (by omega) (by omega), clampF_id (max (-c.speed) (min c.speed v)) (by omega) (by omega), clampF_id _ (by omega) (by omega)]
    rw [e]
    omega
  refine stays ho h (by unfold moveF; exact inF_in ho _ _) ?_ ?_ ?_ ?_
  all_goals
    unfold moveF inF
    simp only
    cases hasB b.m 2 with
    | true => simp only [if_true]; first | exact (key b.x b.vx _ x0 x1 p2).1 | exact (key b.x b.vx _ x0 x1 p2).2 | exact (key b.y b.vy _ y0 y1 p4).1 | exact (key b.y b.vy _ y0 y1 p4).2
    | false => simp only [Bool.false_eq_true, if_false]; have s0 := ho.s0; omega
end Go.Proofs.YtoimjjhopljdmaaGreat
