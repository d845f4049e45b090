/-
  SystemsSplits: the law's helpers unlike and sum. Condition: the entities' numbers fit.
-/
import Derived.Test.YtloampfkjldmnaaShF
namespace Go.Proofs.Ytloampfkjldmnaa
open Go.RowKit Go.Sort

set_option maxRecDepth 100000 in
set_option maxHeartbeats 1000000 in
theorem sum_any (v : Value) (l : List Hit) (s i g : Int) (w : World) (h : RIn hitL w v l) (hl : l.length ≤ 60) (ho : ∀ h ∈ l, HnOk h) :
    Calls Try.prog 27 #[v, .agg #[.int .i64 s, .int .i64 i, .int .i64 g]] w fun e w' => e = .returned (.int .i64 (sumH s i g l)) ∧ Below w.heap.size w w' := by
  have H := Lib.hid h
  have HO := Lib.hid ho
  obtain ⟨p, c, rfl, _⟩ := h
  clear ho
  go_enter Try.func27, Try.ntmps27
  go_wp2_with fail
  go_loopg [6, 5] l.length (fun kx sx sn wr => ∃ (k : Nat) (q : Int), sx = .int .i64 k ∧ sn = .int .i64 q ∧ k ≤ l.length ∧ l.length - k ≤ kx ∧ 0 ≤ q ∧ q ≤ 1073741824 * k ∧ Hid (q + sumH s i g (l.drop k) = sumH s i g l) ∧ Hid (Below w.heap.size w wr) ∧ w.heap.size < wr.heap.size ∧ Hid (∀ u, wr.cell? ⟨w.heap.size, u, none⟩ = (#[.int .i64 s, .int .i64 i, .int .i64 g] : Array Value)[u]?))
  case atStart => exact ⟨0, 0, by go_num, by go_num, by omega, by omega, by omega, by omega, Lib.hid (by rw [List.drop_zero, Int.zero_add]), Lib.hid (by repeat' (first | (with_reducible exact Below.refl _ _) | (with_reducible assumption) | (with_reducible refine below_drewN ?_ _) | (with_reducible refine below_more _ _ _ ?_ ?_) | (with_reducible refine Below.alloc ?_ ?_ _) | (with_reducible refine Below.drew ?_) | (with_reducible refine Below.setCell ?_ ?_ _) | go_size)), by simp, Lib.hid (fun u => by simp)⟩
  case round =>
    obtain ⟨k, q, rfl, rfl, hk, hkx, hq0, hq1, HF, HW, hsz, HB⟩ := hrel
    by_cases hlt : k < l.length
    · have t1 : (k : Int) < (l.length : Int) := by omega
      obtain ⟨b, hb⟩ : ∃ b, l[k]? = some b := ⟨_, List.getElem?_eq_getElem hlt⟩
      obtain ⟨g1, o1, c1, hv1, lg1, qc⟩ := (H.out.keep HW.out).cells hitL_len hb
      simp only [Value.slice.injEq, true_and] at hv1
      obtain ⟨rfl, rfl⟩ := hv1
      have u0 := qc 0 _ rfl
      have u1 := qc 1 _ rfl
      have u2 := qc 2 _ rfl
      have u3 := qc 3 _ rfl
      simp only [Nat.add_zero] at u0
      have y0 := HB.out 0; simp at y0
      have y1 := HB.out 1; simp at y1
      have y2 := HB.out 2; simp at y2
      obtain ⟨z0, z1, z2⟩ := ltw lg1
      obtain ⟨x0, x1, x2⟩ := ltw hsz
      have hq := HF.out
      rw [List.drop_eq_getElem_cons hlt, show l[k] = b from by have := List.getElem?_eq_getElem hlt; rw [hb] at this; exact (Option.some.inj this).symm] at hq
      simp only [sumH] at hq
      obtain ⟨hn0, hn1⟩ := HO.out b (List.mem_of_getElem? hb)
      have HQ := Lib.hid hq
      clear qc hb hq HF
      obtain ⟨s', i', g', n'⟩ := b
      simp only at hn0 hn1
      cases he : idEq s' i' g' s i g with
      | true =>
        have HE := Lib.hid he
        have r1 := (more_cell wr · · ⟨g1, o1 + k * 4 + 3, none⟩ lg1)
        go_wp2_with fail
        refine wp_region_more (by kernel_rfl) (by kernel_rfl) ?_
        repeat (go_big_quiet_step (fail))
        refine wpQuiet_nil ?_
        rintro _ ⟨pn, rfl⟩
        go_wp2_with fail
        go_roundg (l.length - (k + 1))
        case measure => omega
        case rel => exact ⟨k + 1, q + n', by go_num, rfl, by omega, by omega, by omega, by omega, Lib.hid (by have h := HQ.out; rw [HE.out] at h; simp only [if_true] at h; omega), Lib.hid (HW.out.trans (Below.mono (B := wr.heap.size) (by repeat' (first | (with_reducible exact Below.refl _ _) | (with_reducible assumption) | (with_reducible refine below_drewN ?_ _) | (with_reducible refine below_more _ _ _ ?_ ?_) | (with_reducible refine Below.alloc ?_ ?_ _) | (with_reducible refine Below.drew ?_) | (with_reducible refine Below.setCell ?_ ?_ _) | go_size)) HW.out.size)), by simp; omega, Lib.hid (fun u => by rw [← HB.out u]; exact Below.cell (B := wr.heap.size) (by repeat' (first | (with_reducible exact Below.refl _ _) | (with_reducible assumption) | (with_reducible refine below_drewN ?_ _) | (with_reducible refine below_more _ _ _ ?_ ?_) | (with_reducible refine Below.alloc ?_ ?_ _) | (with_reducible refine Below.drew ?_) | (with_reducible refine Below.setCell ?_ ?_ _) | go_size)) (by simpa using hsz))⟩
      | false =>
        have HE := Lib.hid he
        go_wp2_with fail
        refine wp_region_more (by kernel_rfl) (by kernel_rfl) ?_
        repeat (go_big_quiet_step (fail))
        refine wpQuiet_nil ?_
        rintro _ ⟨pn, rfl⟩
        go_wp2_with fail
        go_roundg (l.length - (k + 1))
        case measure => omega
        case rel => exact ⟨k + 1, q, by go_num, rfl, by omega, by omega, by omega, by omega, Lib.hid (by have h := HQ.out; rw [HE.out] at h; simp only [Bool.false_eq_true, if_false] at h; omega), Lib.hid (HW.out.trans (Below.mono (B := wr.heap.size) (by repeat' (first | (with_reducible exact Below.refl _ _) | (with_reducible assumption) | (with_reducible refine below_drewN ?_ _) | (with_reducible refine below_more _ _ _ ?_ ?_) | (with_reducible refine Below.alloc ?_ ?_ _) | (with_reducible refine Below.drew ?_) | (with_reducible refine Below.setCell ?_ ?_ _) | go_size)) HW.out.size)), by simp; omega, Lib.hid (fun u => by rw [← HB.out u]; exact Below.cell (B := wr.heap.size) (by repeat' (first | (with_reducible exact Below.refl _ _) | (with_reducible assumption) | (with_reducible refine below_drewN ?_ _) | (with_reducible refine below_more _ _ _ ?_ ?_) | (with_reducible refine Below.alloc ?_ ?_ _) | (with_reducible refine Below.drew ?_) | (with_reducible refine Below.setCell ?_ ?_ _) | go_size)) (by simpa using hsz))⟩
    · have t1 : ¬ (k : Int) < (l.length : Int) := by omega
      obtain rfl : k = l.length := by omega
      have hq := HF.out
      rw [List.drop_length] at hq
      simp only [sumH] at hq
      have HQ := Lib.hid hq
      clear hq HF
      go_wp2_with fail
      go_ret
      exact ⟨by rw [← HQ.out, Int.add_zero]; rfl, HW.out⟩

/-- What unlike leaves. -/
def Unl (w : World) (e : Ending) (w' : World) : Prop := ∃ v' l, e = .returned v' ∧ BNew w w' v' l ∧ l.length ≤ 60 ∧ ∀ c ∈ l, PwOk c

set_option maxRecDepth 100000 in
set_option maxHeartbeats 1000000 in
theorem unlike_any (v : Value) (m : List Bun) (w : World) (h : BIn w v m) (hf : ∀ c ∈ m, BFit c) :
    Calls Try.prog 26 #[v] w (Unl w) := by
  obtain ⟨i0, hi0, hz0, hz1, hz2⟩ := info_parts info_bunJ
  have F1 := few_any v m w h
  have n1 : (m.take 60).length ≤ 60 := by simp; omega
  have g1 : ∀ c ∈ m.take 60, BFit c := fun c hc => hf c (List.mem_of_mem_take hc)
  generalize m.take 60 = l1 at *
  have HF1 := Lib.hid F1
  have HG1 := Lib.hid g1
  clear F1 h hf g1
  go_enter Try.func26, Try.ntmps26
  go_wp2_with fail
  refine HF1.out.mono ?_; rintro e w' ⟨⟨va, rfl, hb1⟩, rfl⟩
  have HB1 := Lib.hid hb1
  obtain ⟨pa, ca, rfl, _⟩ := hb1
  go_wp2_with fail
  go_loopg [4, 3] l1.length (fun kx sx so wr => ∃ (k : Nat) (l : List Bun), sx = .int .i64 k ∧ k ≤ l1.length ∧ l1.length - k ≤ kx ∧ l.length ≤ k ∧ Hid (BNew w wr so l) ∧ Hid (∀ c ∈ l, PwOk c))
  case atStart => exact ⟨0, [], by go_num, by omega, by omega, by simp, Lib.hid (BNew.nil w), Lib.hid (by simp)⟩
  case round =>
    obtain ⟨k, l, rfl, hk, hkx, hlk, HN, HP⟩ := hrel
    obtain ⟨wa, rfl⟩ : ∃ wa : World, wa = wr := ⟨_, rfl⟩
    by_cases hlt : k < l1.length
    · have t1 : (k : Int) < (l1.length : Int) := by omega
      obtain ⟨b, hb⟩ : ∃ b, l1[k]? = some b := ⟨_, List.getElem?_eq_getElem hlt⟩
      obtain ⟨gb, ob, cb', hv, hgb, hcb⟩ := (HB1.out.keep HN.out.2.1).cells hb
      simp only [Value.slice.injEq, true_and] at hv
      obtain ⟨rfl, rfl⟩ := hv
      have hfit := HG1.out b (List.mem_of_getElem? hb)
      have KB := Lib.hid (fun W (hW : Below wa.heap.size wa W) j u hj => (hW.cell (p := ⟨gb, ob + k * 11 + j, none⟩) hgb).trans (hcb j u hj))
      have c0 := hcb 0 _ rfl
      have c1 := hcb 1 _ rfl
      have c2 := hcb 2 _ rfl
      have c3 := hcb 3 _ rfl
      have c4 := hcb 4 _ rfl
      have c5 := hcb 5 _ rfl
      have c6 := hcb 6 _ rfl
      have c7 := hcb 7 _ rfl
      have c8 := hcb 8 _ rfl
      have c9 := hcb 9 _ rfl
      have c10 := hcb 10 _ rfl
      simp only [Nat.add_zero] at c0
      obtain ⟨po, co, rfl⟩ := sl_frm HN.out.1
      clear hcb hb
      have hmay := Lib.hid (rMay_pw b)
      obtain ⟨s, i, g, m, x, y, vx, vy, hp, pw, lf⟩ := b
      have hr := fun W => rMay_any s i g m x y vx vy hp pw lf W hfit.2.2.2.1.1 hfit.2.2.2.1.2
      generalize rMayB ⟨s, i, g, m, x, y, vx, vy, hp, pw, lf⟩ = mb at *
      have HR := Lib.hid hr
      clear hr hfit
      go_wp2_with fail
      refine (HR.out _).mono ?_; rintro e w' ⟨rfl, hb⟩; obtain ⟨d1, os1, rfl⟩ := more_of hb; clear hb
      go_wp2_with fail
      go_loopg [6, 5] l.length (fun kx sx sb wr => ∃ (t : Nat) (fb : Bool), sx = .int .i64 t ∧ sb = .bool fb ∧ t ≤ l.length ∧ l.length - t ≤ kx ∧ Hid (fb = true → mb = true) ∧ Hid (Below wa.heap.size wa wr))
      case atStart => exact ⟨0, mb, by go_num, rfl, by omega, by omega, Lib.hid id, Lib.hid (by repeat' (first | (with_reducible exact Below.refl _ _) | (with_reducible assumption) | (with_reducible refine below_drewN ?_ _) | (with_reducible refine below_more _ _ _ ?_ ?_) | (with_reducible refine Below.alloc ?_ ?_ _) | (with_reducible refine Below.drew ?_) | (with_reducible refine Below.setCell ?_ ?_ _) | go_size))⟩
      case round =>
        clear c0 c1 c2 c3 c4 c5 c6 c7 c8 c9 c10
        obtain ⟨t, fb, rfl, rfl, ht, hkx2, HFB, HW2⟩ := hrel
        have hN := HN.out.grow HW2.out
        have c0 := KB.out wr HW2.out 0 _ rfl
        have c1 := KB.out wr HW2.out 1 _ rfl
        have c2 := KB.out wr HW2.out 2 _ rfl
        have c3 := KB.out wr HW2.out 3 _ rfl
        have c4 := KB.out wr HW2.out 4 _ rfl
        have c5 := KB.out wr HW2.out 5 _ rfl
        have c6 := KB.out wr HW2.out 6 _ rfl
        have c7 := KB.out wr HW2.out 7 _ rfl
        have c8 := KB.out wr HW2.out 8 _ rfl
        have c9 := KB.out wr HW2.out 9 _ rfl
        have c10 := KB.out wr HW2.out 10 _ rfl
        simp only [Nat.add_zero] at c0
        have lgb : gb < wr.heap.size := Nat.lt_of_lt_of_le hgb HW2.out.size
        obtain ⟨z0, z1, z2⟩ := ltw lgb
        have HN2 := Lib.hid hN
        clear hN
        by_cases hlt2 : t < l.length
        · have t2 : (t : Int) < (l.length : Int) := by omega
          cases fb with
          | false =>
            go_wp2_with fail
            refine wp_region_more (by kernel_rfl) (by kernel_rfl) ?_
            repeat (go_big_quiet_step (fail))
            refine wpQuiet_nil ?_
            rintro _ ⟨pn, rfl⟩
            go_wp2_with fail
            go_roundg (l.length - (t + 1))
            case measure => omega
            case rel => exact ⟨t + 1, false, by go_num, rfl, by omega, by omega, Lib.hid (fun h => by cases h), Lib.hid (HW2.out.trans (Below.mono (B := wr.heap.size) (by repeat' (first | (with_reducible exact Below.refl _ _) | (with_reducible assumption) | (with_reducible refine below_drewN ?_ _) | (with_reducible refine below_more _ _ _ ?_ ?_) | (with_reducible refine Below.alloc ?_ ?_ _) | (with_reducible refine Below.drew ?_) | (with_reducible refine Below.setCell ?_ ?_ _) | go_size)) HW2.out.size))⟩
          | true =>
            obtain ⟨c, hc⟩ : ∃ c, l[t]? = some c := ⟨_, List.getElem?_eq_getElem hlt2⟩
            obtain ⟨g2, o2, k2, hv2, lg2, y0, y1, y2⟩ := HN2.out.bin.cell3 hc
            simp only [Value.slice.injEq, true_and] at hv2
            obtain ⟨rfl, rfl⟩ := hv2
            obtain ⟨x0, x1, x2⟩ := ltw lg2
            clear hc
            go_wp2_with fail
            refine wp_region_more (by kernel_rfl) (by kernel_rfl) ?_
            repeat (go_big_quiet_step (fail))
            refine wpQuiet_nil ?_
            rintro _ ⟨pn, rfl⟩
            go_wp2_with fail
            go_roundg (l.length - (t + 1))
            case measure => omega
            case rel => exact ⟨t + 1, _, by go_num, rfl, by omega, by omega, Lib.hid (fun _ => by simpa using HFB.out), Lib.hid (HW2.out.trans (Below.mono (B := wr.heap.size) (by repeat' (first | (with_reducible exact Below.refl _ _) | (with_reducible assumption) | (with_reducible refine below_drewN ?_ _) | (with_reducible refine below_more _ _ _ ?_ ?_) | (with_reducible refine Below.alloc ?_ ?_ _) | (with_reducible refine Below.drew ?_) | (with_reducible refine Below.setCell ?_ ?_ _) | go_size)) HW2.out.size))⟩
        · have t2 : ¬ (t : Int) < (l.length : Int) := by omega
          cases fb with
          | false =>
            go_wp2_with fail
            go_roundg (l1.length - (k + 1))
            case measure => omega
            case rel => exact ⟨k + 1, l, by go_num, by omega, by omega, by omega, HN2, HP⟩
          | true =>
            have hpw := hmay.out (by simpa using HFB.out)
            have HPW := Lib.hid hpw
            clear hpw
            go_wp2_with (at_builtin; refine wpList_append_sl _ (by rfl) _ _ 22 (by rfl) 34 i0 _ 11 88 Try.underlying22 hi0 hz0 hz1 hz2 rfl (by omega) _ l.length (bunCells l) (by rfl) (HN2.out.grow (by repeat' (first | (with_reducible exact Below.refl _ _) | (with_reducible assumption) | (with_reducible refine below_drewN ?_ _) | (with_reducible refine below_more _ _ _ ?_ ?_) | (with_reducible refine Below.alloc ?_ ?_ _) | (with_reducible refine Below.drew ?_) | (with_reducible refine Below.setCell ?_ ?_ _) | go_size))).1 ⟨_, 0, none⟩ 1 1 (bunL ⟨s, i, g, m, x, y, vx, vy, hp, pw, lf⟩) (by rfl) (by rfl) (new_cellsN _ _ _ _ (by simp)) (bunL_one _) (by omega) (by unfold maxLen; omega) (by omega) ?_; intro v' w4 hs4 ht4 ho4)
            have hm := (HN2.out.grow (by repeat' (first | (with_reducible exact Below.refl _ _) | (with_reducible assumption) | (with_reducible refine below_drewN ?_ _) | (with_reducible refine below_more _ _ _ ?_ ?_) | (with_reducible refine Below.alloc ?_ ?_ _) | (with_reducible refine Below.drew ?_) | (with_reducible refine Below.setCell ?_ ?_ _) | go_size))).snoc hs4 ht4 ho4
            have HM := Lib.hid hm
            clear hs4 ht4 ho4 hm
            go_roundg (l1.length - (k + 1))
            case measure => omega
            case rel => exact ⟨k + 1, l ++ [⟨s, i, g, m, x, y, vx, vy, hp, pw, lf⟩], by go_num, by omega, by omega, by simp; omega, HM, Lib.hid (fun c hc => by
              rcases List.mem_append.1 hc with h | h
              · exact HP.out c h
              · obtain rfl : c = ⟨s, i, g, m, x, y, vx, vy, hp, pw, lf⟩ := by simpa using h
                exact HPW.out)⟩
    · have t1 : ¬ (k : Int) < (l1.length : Int) := by omega
      go_wp2_with fail
      go_ret
      exact ⟨_, l, rfl, HN.out, by omega, HP.out⟩
end Go.Proofs.Ytloampfkjldmnaa
