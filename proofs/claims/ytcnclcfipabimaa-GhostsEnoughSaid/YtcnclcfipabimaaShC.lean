/-
  The reference's takes and Hits, and its Same of hits. Condition: the entities' numbers fit (of every argument they do).
-/
import Derived.Test.YtcnclcfipabimaaShB
namespace Go.Proofs.Ytcnclcfipabimaa
open Go.RowKit

theorem addF_in (q n : Int) (h0 : -1073741824 ≤ q) (h1 : q ≤ 1073741824) : addF q n = clampF (q + clampF n) := by unfold addF; rw [clampF_id q h0 h1]
theorem addF_rng (q n : Int) : -1073741824 ≤ addF q n ∧ addF q n ≤ 1073741824 := ⟨clampF_lo _, clampF_hi _⟩
theorem takesF_rng (r : Int) (b : Bun) : ∀ (l : List Bun) (q : Int), -1073741824 ≤ q ∧ q ≤ 1073741824 → -1073741824 ≤ takesF r b q l ∧ takesF r b q l ≤ 1073741824
  | [], q, h => h
  | c :: l, q, h => by
    unfold takesF
    split
    · exact takesF_rng r b l _ (addF_rng _ _)
    · exact takesF_rng r b l q h


set_option maxRecDepth 100000 in
set_option maxHeartbeats 2000000 in
theorem rTakes14 (b : Bun) (v : Value) (l : List Bun) (r n0 : Int) (w : World) (h : BIn w v l) (hf : ∀ c ∈ l, BFit c) (hl : l.length ≤ 1000) (hn0 : -1073741824 ≤ n0) (hn1 : n0 ≤ 1073741824) :
    Calls Try.prog 115 #[b.v, v, .int .i64 r, .int .i64 n0] w fun e w' => e = .returned (.int .i64 (takesF r b n0 l)) ∧ Below w.heap.size w w' := by
  have H := Lib.hid h
  have HF := Lib.hid hf
  obtain ⟨p, e, rfl, _⟩ := h
  clear hf
  obtain ⟨s, i, g, m, x, y, vx, vy, hp, pw, lf⟩ := b
  go_enter Try.func115, Try.ntmps115
  go_wp2_with fail
  go_loopg [9, 3] l.length (fun kx sx sn wr => ∃ (t : Nat) (q : Int), sx = .int .i64 t ∧ sn = .int .i64 q ∧ t ≤ l.length ∧ l.length - t ≤ kx ∧ -1073741824 ≤ q ∧ q ≤ 1073741824 ∧ Hid (takesF r ⟨s, i, g, m, x, y, vx, vy, hp, pw, lf⟩ q (l.drop t) = takesF r ⟨s, i, g, m, x, y, vx, vy, hp, pw, lf⟩ n0 l) ∧ Hid (Below w.heap.size w wr) ∧ w.heap.size < wr.heap.size ∧ Hid (∀ u, wr.cell? ⟨w.heap.size, u, none⟩ = (#[.int .i64 s, .int .i64 i, .int .i64 g, .int .i64 m, .int .i64 x, .int .i64 y, .int .i64 vx, .int .i64 vy, .int .i64 hp, .int .i64 pw, .int .i64 lf] : Array Value)[u]?))
  case atStart => exact ⟨0, n0, by go_num, rfl, by omega, by omega, hn0, hn1, Lib.hid rfl, Lib.hid (by repeat' (first | (with_reducible exact Below.refl _ _) | (with_reducible assumption) | (with_reducible refine below_drewN ?_ _) | (with_reducible refine below_more _ _ _ ?_ ?_) | (with_reducible refine Below.alloc ?_ ?_ _) | (with_reducible refine Below.drew ?_) | (with_reducible refine Below.setCell ?_ ?_ _) | go_size)), by simp, Lib.hid (fun u => by simp)⟩
  case round =>
    obtain ⟨t, q, rfl, rfl, ht, hkx, hq0, hq1, HFF, HW, hsz, HB⟩ := hrel
    by_cases hlt : t < l.length
    · have t3 : (t : Int) < (l.length : Int) := by omega
      obtain ⟨c, hc⟩ : ∃ c, l[t]? = some c := ⟨_, List.getElem?_eq_getElem hlt⟩
      obtain ⟨gc, oc, cc, hv, hgc, hcc⟩ := (H.out.keep HW.out).cells hc
      simp only [Value.slice.injEq, true_and] at hv
      obtain ⟨rfl, rfl⟩ := hv
      have u0 := hcc 0 _ rfl
      have u1 := hcc 1 _ rfl
      have u2 := hcc 2 _ rfl
      have u3 := hcc 3 _ rfl
      have u4 := hcc 4 _ rfl
      have u5 := hcc 5 _ rfl
      have u6 := hcc 6 _ rfl
      have u7 := hcc 7 _ rfl
      have u8 := hcc 8 _ rfl
      have u9 := hcc 9 _ rfl
      have u10 := hcc 10 _ rfl
      simp only [Nat.add_zero] at u0
      have y0 := HB.out 0; simp at y0
      have y1 := HB.out 1; simp at y1
      have y2 := HB.out 2; simp at y2
      have y4 := HB.out 4; simp at y4
      have y5 := HB.out 5; simp at y5
      have hq := HFF.out
      rw [List.drop_eq_getElem_cons hlt, show l[t] = c from by have := List.getElem?_eq_getElem hlt; rw [hc] at this; exact (Option.some.inj this).symm] at hq
      simp only [takesF] at hq
      have HQ := Lib.hid hq
      have hfit := HF.out c (List.mem_of_getElem? hc)
      obtain ⟨z0, z1, z2, z3⟩ := ltq hsz
      clear hq hcc hc HFF
      obtain ⟨s', i', g', m', x', y', vx', vy', hp', pw', lf'⟩ := c
      have hbit := fun W => bit_any m' 8 W hfit.2.2.2.1.1 hfit.2.2.2.1.2 (by omega)
      rw [← hasB_tb8] at hbit
      have HBIT := Lib.hid hbit
      clear hbit hfit
      
      cases h1 : idEq s' i' g' s i g with
      | true =>
        have ht : takeC r ⟨s, i, g, m, x, y, vx, vy, hp, pw, lf⟩ ⟨s', i', g', m', x', y', vx', vy', hp', pw', lf'⟩ = false := by unfold takeC; simp only; rw [h1]; rfl
        have HT := Lib.hid ht
        clear ht
        go_wp2_with (first | (go_at_call 96; refine (HBIT.out _).mono ?_; rintro e w' ⟨rfl, rfl⟩) | (go_at_call 74; refine (rFar_any _ _ _ _ _).mono ?_; rintro e w' ⟨rfl, rfl⟩))
        go_roundg (l.length - (t + 1))
        case measure => omega
        case rel => exact ⟨t + 1, q, by go_num, rfl, by omega, by omega, hq0, hq1, Lib.hid (by have h := HQ.out; rw [HT.out] at h; exact h), Lib.hid (HW.out.trans (Below.mono (B := wr.heap.size) (by repeat' (first | (with_reducible exact Below.refl _ _) | (with_reducible assumption) | (with_reducible refine below_drewN ?_ _) | (with_reducible refine below_more _ _ _ ?_ ?_) | (with_reducible refine Below.alloc ?_ ?_ _) | (with_reducible refine Below.drew ?_) | (with_reducible refine Below.setCell ?_ ?_ _) | go_size)) HW.out.size)), by simp; omega, Lib.hid (fun u => by rw [← HB.out u]; exact Below.cell (B := wr.heap.size) (by repeat' (first | (with_reducible exact Below.refl _ _) | (with_reducible assumption) | (with_reducible refine below_drewN ?_ _) | (with_reducible refine below_more _ _ _ ?_ ?_) | (with_reducible refine Below.alloc ?_ ?_ _) | (with_reducible refine Below.drew ?_) | (with_reducible refine Below.setCell ?_ ?_ _) | go_size)) (by simpa using hsz))⟩
      | false =>
        cases h2 : hasB m' 8 with
        | false =>
          have ht : takeC r ⟨s, i, g, m, x, y, vx, vy, hp, pw, lf⟩ ⟨s', i', g', m', x', y', vx', vy', hp', pw', lf'⟩ = false := by unfold takeC; simp only; rw [h1, h2]; rfl
          have HT := Lib.hid ht
          clear ht
          go_wp2_with (first | (go_at_call 96; refine (HBIT.out _).mono ?_; rintro e w' ⟨rfl, rfl⟩) | (go_at_call 74; refine (rFar_any _ _ _ _ _).mono ?_; rintro e w' ⟨rfl, rfl⟩))
          go_roundg (l.length - (t + 1))
          case measure => omega
          case rel => exact ⟨t + 1, q, by go_num, rfl, by omega, by omega, hq0, hq1, Lib.hid (by have h := HQ.out; rw [HT.out] at h; exact h), Lib.hid (HW.out.trans (Below.mono (B := wr.heap.size) (by repeat' (first | (with_reducible exact Below.refl _ _) | (with_reducible assumption) | (with_reducible refine below_drewN ?_ _) | (with_reducible refine below_more _ _ _ ?_ ?_) | (with_reducible refine Below.alloc ?_ ?_ _) | (with_reducible refine Below.drew ?_) | (with_reducible refine Below.setCell ?_ ?_ _) | go_size)) HW.out.size)), by simp; omega, Lib.hid (fun u => by rw [← HB.out u]; exact Below.cell (B := wr.heap.size) (by repeat' (first | (with_reducible exact Below.refl _ _) | (with_reducible assumption) | (with_reducible refine below_drewN ?_ _) | (with_reducible refine below_more _ _ _ ?_ ?_) | (with_reducible refine Below.alloc ?_ ?_ _) | (with_reducible refine Below.drew ?_) | (with_reducible refine Below.setCell ?_ ?_ _) | go_size)) (by simpa using hsz))⟩
        | true =>
          cases h3 : decide (farF x y x' y' ≤ r) with
          | false =>
            have ht : takeC r ⟨s, i, g, m, x, y, vx, vy, hp, pw, lf⟩ ⟨s', i', g', m', x', y', vx', vy', hp', pw', lf'⟩ = false := by unfold takeC; simp only; rw [h1, h2, h3]; rfl
            have HT := Lib.hid ht
            clear ht
            go_wp2_with (first | (go_at_call 96; refine (HBIT.out _).mono ?_; rintro e w' ⟨rfl, rfl⟩) | (go_at_call 74; refine (rFar_any _ _ _ _ _).mono ?_; rintro e w' ⟨rfl, rfl⟩))
            go_roundg (l.length - (t + 1))
            case measure => omega
            case rel => exact ⟨t + 1, q, by go_num, rfl, by omega, by omega, hq0, hq1, Lib.hid (by have h := HQ.out; rw [HT.out] at h; exact h), Lib.hid (HW.out.trans (Below.mono (B := wr.heap.size) (by repeat' (first | (with_reducible exact Below.refl _ _) | (with_reducible assumption) | (with_reducible refine below_drewN ?_ _) | (with_reducible refine below_more _ _ _ ?_ ?_) | (with_reducible refine Below.alloc ?_ ?_ _) | (with_reducible refine Below.drew ?_) | (with_reducible refine Below.setCell ?_ ?_ _) | go_size)) HW.out.size)), by simp; omega, Lib.hid (fun u => by rw [← HB.out u]; exact Below.cell (B := wr.heap.size) (by repeat' (first | (with_reducible exact Below.refl _ _) | (with_reducible assumption) | (with_reducible refine below_drewN ?_ _) | (with_reducible refine below_more _ _ _ ?_ ?_) | (with_reducible refine Below.alloc ?_ ?_ _) | (with_reducible refine Below.drew ?_) | (with_reducible refine Below.setCell ?_ ?_ _) | go_size)) (by simpa using hsz))⟩
          | true =>
            have ht : takeC r ⟨s, i, g, m, x, y, vx, vy, hp, pw, lf⟩ ⟨s', i', g', m', x', y', vx', vy', hp', pw', lf'⟩ = true := by unfold takeC; simp only; rw [h1, h2, h3]; rfl
            have HT := Lib.hid ht
            have HA := Lib.hid (addF_in q pw' hq0 hq1)
            have HR := Lib.hid (addF_rng q pw')
            have hp0 := clampF_lo pw'
            have hp1 := clampF_hi pw'
            have C1 := Lib.hid (fun W => rClamp_any pw' W)
            generalize clampF pw' = cw at *
            have C2 := Lib.hid (fun W => by have h := rClamp_any (q + cw) W; rw [← HA.out] at h; exact h)
            clear ht
            go_wp2_with (first | (go_at_call 96; refine (HBIT.out _).mono ?_; rintro e w' ⟨rfl, rfl⟩) | (go_at_call 74; refine (rFar_any _ _ _ _ _).mono ?_; rintro e w' ⟨rfl, rfl⟩))
            refine (C1.out _).mono ?_; rintro e w' ⟨rfl, rfl⟩
            go_wp2_with fail
            refine (C2.out _).mono ?_; rintro e w' ⟨rfl, rfl⟩
            go_wp2_with fail
            go_roundg (l.length - (t + 1))
            case measure => omega
            case rel => exact ⟨t + 1, _, by go_num, rfl, by omega, by omega, HR.out.1, HR.out.2, Lib.hid (by have h := HQ.out; rw [HT.out] at h; exact h), Lib.hid (HW.out.trans (Below.mono (B := wr.heap.size) (by repeat' (first | (with_reducible exact Below.refl _ _) | (with_reducible assumption) | (with_reducible refine below_drewN ?_ _) | (with_reducible refine below_more _ _ _ ?_ ?_) | (with_reducible refine Below.alloc ?_ ?_ _) | (with_reducible refine Below.drew ?_) | (with_reducible refine Below.setCell ?_ ?_ _) | go_size)) HW.out.size)), by simp; omega, Lib.hid (fun u => by rw [← HB.out u]; exact Below.cell (B := wr.heap.size) (by repeat' (first | (with_reducible exact Below.refl _ _) | (with_reducible assumption) | (with_reducible refine below_drewN ?_ _) | (with_reducible refine below_more _ _ _ ?_ ?_) | (with_reducible refine Below.alloc ?_ ?_ _) | (with_reducible refine Below.drew ?_) | (with_reducible refine Below.setCell ?_ ?_ _) | go_size)) (by simpa using hsz))⟩
    · have t3 : ¬ (t : Int) < (l.length : Int) := by omega
      obtain rfl : t = l.length := by omega
      have hq := HFF.out
      rw [List.drop_length] at hq
      simp only [takesF] at hq
      have HQ := Lib.hid hq
      clear hq HFF
      go_wp2_with fail
      go_ret
      exact ⟨by rw [← HQ.out]; rfl, HW.out⟩
end Go.Proofs.Ytcnclcfipabimaa
