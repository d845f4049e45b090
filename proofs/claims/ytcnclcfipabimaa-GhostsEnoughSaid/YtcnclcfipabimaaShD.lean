/-
  The reference's Hits. Condition: the entities' numbers fit (of every argument they do).
-/
import Derived.Test.YtcnclcfipabimaaShC
namespace Go.Proofs.Ytcnclcfipabimaa
open Go.RowKit

theorem stableF_mem (l : List Bun) (b : Bun) (h : b ∈ stableF cmpBun l) : b ∈ l := by
  unfold stableF at h
  obtain ⟨x, hx, rfl⟩ := List.mem_map.1 h
  have h1 := (List.mergeSort_perm _ _).mem_iff.1 hx
  have h2 := List.mem_zipIdx_iff_getElem?.1 h1
  exact List.mem_of_getElem? h2

theorem new_cellsN (W : World) (arr : Array Value) (t : TypeId) (n : Nat) (hn : n = W.heap.size) (j : Nat) (u : Value) (h : arr.toList[j]? = some u) : (W.alloc (.cells arr t)).cell? (Addr.add ⟨n, 0, none⟩ j) = some u := by subst hn; exact new_cells W arr t j u h
theorem ltw {a W : Nat} (h : a < W) : (∀ n, a < W + n) ∧ (∀ n m, a < W + n + m) ∧ (∀ n m q, a < W + n + m + q) := ⟨fun _ => by omega, fun _ _ => by omega, fun _ _ _ => by omega⟩

set_option maxRecDepth 100000 in
set_option maxHeartbeats 2000000 in
theorem rHits_any (r : Int) (v1 v2 : Value) (l1 l2 : List Bun) (w : World) (h1 : BIn w v1 l1) (h2 : BIn w v2 l2) (hf1 : ∀ c ∈ l1, BFit c) (hf2 : ∀ c ∈ l2, BFit c) (hl1 : l1.length ≤ 1000) (hl2 : l2.length ≤ 1000) :
    Calls Try.prog 77 #[.int .i64 r, v1, v2] w fun e w' => ∃ v', e = .returned v' ∧ RNew hitL 137 4 w w' v' (hitsF r l1 l2) := by
  obtain ⟨i0, hi0, hz0, hz1, hz2⟩ := info_parts info_hitJ
  have T1 := Lib.hid (fun b n W hW a c => rTakes14 b v1 l1 r n W (h1.keep hW) hf1 hl1 a c)
  have T2 := Lib.hid (fun b n W hW a c => rTakes14 b v2 l2 r n W (h2.keep hW) hf2 hl2 a c)
  have hso := rsorted_any v1 l1 w h1 (by omega)
  unfold hitsF
  have hfs : ∀ c ∈ stableF cmpBun l1, BFit c := fun c hc => hf1 c (stableF_mem l1 c hc)
  generalize hls : stableF cmpBun l1 = ls at *
  have hlsn : ls.length ≤ 1000 := by rw [← hls, stableF_len]; exact hl1
  have HSO := Lib.hid hso
  have HFS := Lib.hid hfs
  clear hso hls hfs hf1 hf2
  obtain ⟨p1, e1, rfl, _⟩ := h1
  obtain ⟨p2, e2, rfl, _⟩ := h2
  go_enter Try.func77, Try.ntmps77
  go_wp2_with fail
  refine HSO.out.mono ?_
  rintro e w1 ⟨vs, rfl, hS⟩
  obtain ⟨ps, cs, rfl⟩ := sl_frm hS.1
  have HS := Lib.hid hS
  have hsz1 := hS.2.1.size
  clear hS
  go_wp2_with fail
  go_loopg [9, 7] ls.length (fun kx sx o wr => ∃ k : Nat, sx = .int .i64 k ∧ k ≤ ls.length ∧ ls.length - k ≤ kx ∧ Hid (Below w1.heap.size w1 wr) ∧ Hid (RNew hitL 137 4 w1 wr o ((ls.take k).filterMap (hitOf r l1 l2))) ∧ Hid (((ls.take k).filterMap (hitOf r l1 l2)).length ≤ k))
  case atStart => exact ⟨0, by go_num, by omega, by omega, Lib.hid (Below.refl _ _), Lib.hid (RNew.nil w1), Lib.hid (Nat.le_refl _)⟩
  case round =>
    obtain ⟨k, rfl, hk, hkx, HW, HN, HNL⟩ := hrel
    by_cases hlt : k < ls.length
    · have t1 : (k : Int) < (ls.length : Int) := by omega
      obtain ⟨b, hb⟩ : ∃ b, ls[k]? = some b := ⟨_, List.getElem?_eq_getElem hlt⟩
      obtain ⟨gb, ob, cb, hv, hgb, hcb⟩ := (HS.out.bin.keep HW.out).cells hb
      simp only [Value.slice.injEq, true_and] at hv
      obtain ⟨rfl, rfl⟩ := hv
      have c0 := hcb 0 _ rfl
      have c1 := hcb 1 _ rfl
      have c2 := hcb 2 _ rfl
      have c3 := hcb 3 _ rfl
      have c4 := hcb 4 _ rfl
      have c5 := hcb 5 _ rfl
      have c6 := hcb 6 _ rfl
      have c7 := hcb 7 _ rfl
      have c8 := hcb 8 _ rfl
      have c9 := hcb 9 _ rfl
      have c10 := hcb 10 _ rfl
      simp only [Nat.add_zero] at c0
      obtain ⟨po, co, rfl⟩ := sl_frm HN.out.1
      have hstep : (ls.take (k + 1)).filterMap (hitOf r l1 l2) = (ls.take k).filterMap (hitOf r l1 l2) ++ (hitOf r l1 l2 b).toList := by
        rw [List.take_succ_eq_append_getElem hlt, List.filterMap_append, show ls[k] = b from by have := List.getElem?_eq_getElem hlt; rw [hb] at this; exact (Option.some.inj this).symm]
        cases hh : hitOf r l1 l2 b <;> simp [hh]
      have HST := Lib.hid hstep
      have hfit := HFS.out b (List.mem_of_getElem? hb)
      have hgl := hgb
      obtain ⟨z0, z1, z2⟩ := ltw hgb
      clear hstep hcb hb hgl
      generalize hacc : (ls.take k).filterMap (hitOf r l1 l2) = acc at *
      have hal := HNL.out
      have HAC := Lib.hid hacc
      clear hacc HNL
      obtain ⟨s, i, g, m, x, y, vx, vy, hp, pw, lf⟩ := b
      have hbit := fun W => bit_any m 4 W hfit.2.2.2.1.1 hfit.2.2.2.1.2 (by omega)
      rw [← hasB_tb4] at hbit
      have HBIT := Lib.hid hbit
      clear hbit hfit
      cases hlife : hasB m 4 with
      | false =>
        have he : hitOf r l1 l2 ⟨s, i, g, m, x, y, vx, vy, hp, pw, lf⟩ = none := by unfold hitOf; simp only; rw [hlife]; rfl
        rw [he] at HST
        have HE := Lib.hid HST.out
        clear he HST
        go_wp2_with (go_at_call 96; refine (HBIT.out _).mono ?_; rintro e w' ⟨rfl, rfl⟩)
        go_roundg (ls.length - (k + 1))
        case measure => omega
        case rel => exact ⟨k + 1, by go_num, by omega, by omega, HW, Lib.hid (by rw [HE.out]; simpa using HN.out), Lib.hid (by rw [HE.out]; simp; omega)⟩
      | true =>
        have hho : hitOf r l1 l2 ⟨s, i, g, m, x, y, vx, vy, hp, pw, lf⟩ = if 0 < takesF r ⟨s, i, g, m, x, y, vx, vy, hp, pw, lf⟩ (takesF r ⟨s, i, g, m, x, y, vx, vy, hp, pw, lf⟩ 0 l1) l2 then some ⟨s, i, g, takesF r ⟨s, i, g, m, x, y, vx, vy, hp, pw, lf⟩ (takesF r ⟨s, i, g, m, x, y, vx, vy, hp, pw, lf⟩ 0 l1) l2⟩ else none := by
          unfold hitOf; simp only; rw [hlife]; rfl
        have HHO := Lib.hid hho
        have hr1 := takesF_rng r ⟨s, i, g, m, x, y, vx, vy, hp, pw, lf⟩ l1 0 (by omega)
        have hww := HS.out.2.1.trans (HW.out.mono HS.out.2.1.size)
        have q1 := Lib.hid (T1.out ⟨s, i, g, m, x, y, vx, vy, hp, pw, lf⟩ 0 wr hww (by omega) (by omega))
        have q2 := Lib.hid (fun W (hW : Below wr.heap.size wr W) => T2.out ⟨s, i, g, m, x, y, vx, vy, hp, pw, lf⟩ (takesF r ⟨s, i, g, m, x, y, vx, vy, hp, pw, lf⟩ 0 l1) W (hww.trans (hW.mono hww.size)) hr1.1 hr1.2)
        clear hho hww
        generalize takesF r ⟨s, i, g, m, x, y, vx, vy, hp, pw, lf⟩ 0 l1 = n1 at *
        generalize takesF r ⟨s, i, g, m, x, y, vx, vy, hp, pw, lf⟩ n1 l2 = n at *
        go_wp2_with (go_at_call 96; refine (HBIT.out _).mono ?_; rintro e w' ⟨rfl, rfl⟩)
        refine q1.out.mono ?_; rintro e w' ⟨rfl, hb⟩; obtain ⟨d1, os1, rfl⟩ := more_of hb; clear hb
        go_wp2_with fail
        refine (q2.out _ (by repeat' (first | (with_reducible exact Below.refl _ _) | (with_reducible assumption) | (with_reducible refine below_drewN ?_ _) | (with_reducible refine below_more _ _ _ ?_ ?_) | (with_reducible refine Below.alloc ?_ ?_ _) | (with_reducible refine Below.drew ?_) | (with_reducible refine Below.setCell ?_ ?_ _) | go_size))).mono ?_; rintro e w' ⟨rfl, hb⟩; obtain ⟨d2, os2, rfl⟩ := more_of hb; clear hb
        by_cases hn : 0 < n
        · have hho := HHO.out
          rw [if_pos hn] at hho
          rw [hho] at HST
          have HST2 := Lib.hid HST.out
          clear hho HST HHO
          go_wp2_with (at_builtin; refine wpList_append_sl _ (by rfl) _ _ 121 (by rfl) 137 i0 _ 4 32 Try.underlying121 hi0 hz0 hz1 hz2 rfl (by omega) _ acc.length (cellsR hitL acc) (by rfl) (HN.out.grow (by repeat' (first | (with_reducible exact Below.refl _ _) | (with_reducible assumption) | (with_reducible refine below_drewN ?_ _) | (with_reducible refine below_more _ _ _ ?_ ?_) | (with_reducible refine Below.alloc ?_ ?_ _) | (with_reducible refine Below.drew ?_) | (with_reducible refine Below.setCell ?_ ?_ _) | go_size))).1 ⟨_, 0, none⟩ 1 1 (hitL ⟨s, i, g, n⟩) (by rfl) (by rfl) (new_cellsN _ _ _ _ (by simp)) (hitL_one _) (by omega) (by unfold maxLen; omega) (by omega) ?_; intro v' w4 hs4 ht4 ho4)
          have hm := (HN.out.grow (by repeat' (first | (with_reducible exact Below.refl _ _) | (with_reducible assumption) | (with_reducible refine below_drewN ?_ _) | (with_reducible refine below_more _ _ _ ?_ ?_) | (with_reducible refine Below.alloc ?_ ?_ _) | (with_reducible refine Below.drew ?_) | (with_reducible refine Below.setCell ?_ ?_ _) | go_size))).snoc hs4 ht4 ho4
          have HM := Lib.hid hm
          clear hs4 ht4 ho4 hm
          go_roundg (ls.length - (k + 1))
          case measure => omega
          case rel => exact ⟨k + 1, by go_num, by omega, by omega, Lib.hid HM.out.2.1, Lib.hid (by rw [HST2.out]; simpa using HM.out), Lib.hid (by rw [HST2.out]; simp; omega)⟩
        · have hho := HHO.out
          rw [if_neg hn] at hho
          rw [hho] at HST
          have HST2 := Lib.hid HST.out
          clear hho HST HHO
          go_wp2_with fail
          go_roundg (ls.length - (k + 1))
          case measure => omega
          case rel => exact ⟨k + 1, by go_num, by omega, by omega, Lib.hid (HW.out.trans (Below.mono (B := wr.heap.size) (by repeat' (first | (with_reducible exact Below.refl _ _) | (with_reducible assumption) | (with_reducible refine below_drewN ?_ _) | (with_reducible refine below_more _ _ _ ?_ ?_) | (with_reducible refine Below.alloc ?_ ?_ _) | (with_reducible refine Below.drew ?_) | (with_reducible refine Below.setCell ?_ ?_ _) | go_size)) HW.out.size)), Lib.hid (by rw [HST2.out]; simpa using HN.out.grow (by repeat' (first | (with_reducible exact Below.refl _ _) | (with_reducible assumption) | (with_reducible refine below_drewN ?_ _) | (with_reducible refine below_more _ _ _ ?_ ?_) | (with_reducible refine Below.alloc ?_ ?_ _) | (with_reducible refine Below.drew ?_) | (with_reducible refine Below.setCell ?_ ?_ _) | go_size))), Lib.hid (by rw [HST2.out]; simp; omega)⟩
    · have t1 : ¬ (k : Int) < (ls.length : Int) := by omega
      obtain rfl : k = ls.length := by omega
      rw [List.take_length] at HN
      go_wp2_with fail
      go_ret
      exact ⟨_, rfl, HN.out.since HS.out.2.1⟩
end Go.Proofs.Ytcnclcfipabimaa
