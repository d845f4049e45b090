/-
  Chapter texts SoP QmK QmM: what the claim reaches of them. Conditions stand at each theorem.
-/
import Derived.Deep.Slices
import Derived.ChangeSlices
import Derived.Test.YtmkfjelpekkmmaaQ01
import Derived.Test.YtmkfjelpekkmmaaQ22
import Derived.Test.YtmkfjelpekkmmaaQ12
import Derived.Test.YtmkfjelpekkmmaaQ21
import Derived.Test.YtmkfjelpekkmmaaQ05
namespace Go.Proofs.Ytmkfjelpekkmmaa
open Go.RowKit Go.Sort
theorem bunCells_split : ∀ (l : List Bun) (t : Nat) (u : Value), (bunCells l)[t]? = some u → ∃ b, l[t / 11]? = some b ∧ (bunL b)[t % 11]? = some u := fun l t u h => by
  have ht : t < l.length * 11 := by have := (List.getElem?_eq_some_iff.1 h).1; rwa [bunCells_len] at this
  have hk : t / 11 < l.length := by omega
  refine ⟨l[t / 11], List.getElem?_eq_getElem hk, ?_⟩
  have e := bunCells_get l (t / 11) (t % 11) l[t / 11] (List.getElem?_eq_getElem hk) (Nat.mod_lt _ (by omega))
  rw [show t / 11 * 11 + t % 11 = t by omega] at e
  rw [← e]; exact h

set_option maxRecDepth 100000 in
theorem buns_in {H : Type} {enc : TypeId × Value → H} {W : World} {base b0 : Nat} {spare : Nat → Bool} {held : Bool} {r : Reach} {v : Value} {d : DataW H} {p : List MemPlace} (hv : Value.okWide Try.prog W r b0 29 v) (h : DataW.Trod enc Try.prog W base spare held 29 v d p) : ∃ l, BIn W v l ∧ ∀ b ∈ l, BFit b := by
  obtain ⟨a, len, cap, rfl⟩ := Go.WideShapes.okWide_slice Try.underlying29 hv
  obtain ⟨fuel, hf⟩ := h
  have hf' : DataW.trod enc Try.prog W base spare held fuel 29 [.slice a len cap] = some (d, p) := by simpa [Value.cells] using hf
  rcases Go.Deep.open_slice Try.underlying29 hf' with ⟨h0, _⟩ | ⟨⟨b, off, sp⟩, len', cap', m, n, D, Pl, h0, _, hl, hm, hmm, _, hi⟩
  · simp at h0
    obtain ⟨rfl, rfl, rfl⟩ := h0
    exact ⟨[], ⟨none, 0, rfl, by simp [maxLen], fun _ => rfl, Nat.le_refl _, fun h => absurd rfl h⟩, by simp⟩
  · simp only [List.cons.injEq, and_true, Value.slice.injEq] at h0
    obtain ⟨rfl, rfl, rfl⟩ := h0
    have hle : len ≤ m := by rw [hmm]; split <;> omega
    rw [cells_bun] at hi
    by_cases hz : len = 0
    · subst hz
      exact ⟨[], ⟨_, cap, rfl, by simp [maxLen], (fun h => by cases h), Nat.zero_le _, fun h => absurd rfl h⟩, by simp⟩
    have hsp : sp = none := by
      obtain ⟨cs', hc, ht⟩ := hi 0 (by omega)
      obtain ⟨_, hlen, hcell⟩ := World.cells?_some hc
      have hc0 := hcell 0 (by omega)
      rw [List.getElem?_eq_getElem (by omega)] at hc0
      simp only [Addr.add, Nat.zero_mul, if_true] at hc0
      cases sp with
      | none => rfl
      | some q =>
        simp only [World.cell?, Option.isSome_some, if_true] at hc0
        split at hc0 <;> cases hc0
    subst hsp
    have hq : ∀ q, q < len → ∃ c : Bun, (∀ j, j < 11 → W.cell? ⟨b, off + q * 11 + j, none⟩ = (bunL c)[j]?) ∧ BFit c := by
      intro q hql
      obtain ⟨cs', hc, ht⟩ := hi q (by omega)
      obtain ⟨_, hlen, hcell⟩ := World.cells?_some hc
      obtain ⟨s', i', g', m', x', y', vx', vy', hp', pw', lf', rfl, hfit⟩ := read_bun ht
      refine ⟨⟨s', i', g', m', x', y', vx', vy', hp', pw', lf'⟩, fun j hj => ?_, hfit⟩
      have e : (⟨b, off + q * 11 + j, none⟩ : Addr) = ((⟨b, off, none⟩ : Addr).add (q * 11)).add j := by
        unfold Addr.add
        by_cases h1 : q * 11 = 0
        · by_cases h2 : j = 0 <;> simp [h1, h2]
        · by_cases h2 : j = 0 <;> simp [h1, h2]
      rw [e]
      exact hcell j hj
    obtain ⟨l, hll, hlp⟩ := list_of len hq
    refine ⟨l, ⟨some ⟨b, off, none⟩, cap, by rw [hll], by omega, (fun h => by cases h), by omega, fun hn => ⟨b, off, rfl, ?_, fun t u hu => ?_⟩⟩, fun c hc => ?_⟩
    · have h1 : 0 < l.length := List.length_pos_iff.2 hn
      have h0 := (hlp 0 l[0] (List.getElem?_eq_getElem h1)).1 0 (by omega)
      exact World.block_lt_of_cell? W _ (h0.trans rfl)
    · obtain ⟨c, hc, hcu⟩ := bunCells_split l t u hu
      have h1 := (hlp _ c hc).1 (t % 11) (Nat.mod_lt _ (by omega))
      rw [show off + t = off + t / 11 * 11 + t % 11 by omega, h1, hcu]
    · obtain ⟨q, hi', e⟩ := List.getElem_of_mem hc
      exact (hlp q c (by rw [← e]; exact List.getElem?_eq_getElem hi')).2

end Go.Proofs.Ytmkfjelpekkmmaa
namespace Go.Proofs.Ytmkfjelpekkmmaa
open Go.RowKit

theorem sput_o {w0 W : World} {p : Nat} {L : List Bun} {F : Ob} (h : Own w0 W ((stoO p L).and F)) (hl : L.length ≤ 1000000) (b : Bun) :
    Calls Try.prog 35 #[.pointer (some ⟨p, 0, none⟩), .agg b.arr] W fun e w' => e = .returned (.int .i64 (if checkB b then (if putOk L b then 0 else 7) else 1)) ∧ Own w0 w' ((stoO p (putL L b)).and F) :=
  h.call fun a ha => sput_any W p L b a ha hl
set_option maxRecDepth 100000 in
set_option maxHeartbeats 2000000 in
theorem smade_any (w : World) (v : Value) (l : List Bun) (h : BIn w v l) :
    Calls Try.prog 19 #[v] w fun e w' => ∃ p v', e = .returned (.tuple #[.pointer (some ⟨p, 0, none⟩), v']) ∧ Own w w' ((stoO p (madeF l)).and ((slO 51 11 v' (madeF l).length (cellsR bunL (madeF l))).and .nil)) := by
  obtain ⟨i0, hi0, hz0, hz1, hz2⟩ := info_parts info_bunJ
  have H := Lib.hid h
  obtain ⟨pl, cl, rfl, _⟩ := h
  go_enter Try.func19, Try.ntmps19
  go_wp2_with fail
  refine (snew_any w).mono ?_
  rintro e w1 ⟨rfl, hm⟩
  generalize w.heap.size + 1 = p at *
  have hnil : Made w1 w1 (slO 51 11 (.slice none 0 0) (([] : List Bun)).length (cellsR bunL (([] : List Bun)))) := made_sl ⟨by simp [cellsR], .inl ⟨rfl, rfl⟩⟩ (Below.refl _ _) (fun g hg => by cases hg)
  have H1 : Hid (Own w w1 ((stoO p []).and ((slO 51 11 (.slice none 0 0) (([] : List Bun)).length (cellsR bunL (([] : List Bun)))).and .nil))) := Lib.hid (((Own.nil w).made hm).made hnil).swap
  clear hm hnil
  go_wp2_with fail
  go_loopw [5, 6] (fun so x wr => ∃ j : Nat, x = .int .i64 j ∧ j ≤ l.length ∧ j ≤ 60 ∧ Hid (Own w wr ((stoO p ((l.take j).foldl putL [])).and ((slO 51 11 so ((l.take j).foldl putL []).length (cellsR bunL ((l.take j).foldl putL []))).and .nil)))) (fun _ x _ => l.length - (intOf x).toNat)
  case atStart => exact ⟨0, rfl, Nat.zero_le _, by omega, H1⟩
  case round =>
    obtain ⟨j, rfl, hj, hj60, hh⟩ := hrel
    obtain ⟨wo, rfl⟩ : ∃ wo : World, wo = wr := ⟨_, rfl⟩
    have hI : 0 ≤ (j : Int) := Int.natCast_nonneg j
    by_cases hlt : j < l.length ∧ j < 60
    · obtain ⟨hlt, hlt60⟩ := hlt
      have t1 : (j : Int) < (l.length : Int) := by omega
      have t2 : (j : Int) < 60 := by omega
      obtain ⟨b, hb⟩ : ∃ b, l[j]? = some b := ⟨_, List.getElem?_eq_getElem hlt⟩
      obtain ⟨gb, ob, cb, hv, hgb, hcb⟩ := (H.out.keep hh.out.below).cells hb
      simp only [Value.slice.injEq, true_and] at hv
      obtain ⟨rfl, rfl⟩ := hv
      have c0 := hcb 0 _ rfl
      have c1 := hcb 1 _ rfl
      have c2 := hcb 2 _ rfl
      have c3 := hcb 3 _ rfl
      have c4 := hcb 4 _ rfl
      have c5 := hcb 5 _ rfl
      have c6 := hcb 6 _ rfl
      have c7 := hcb 7 _ rfl
      have c8 := hcb 8 _ rfl
      have c9 := hcb 9 _ rfl
      have c10 := hcb 10 _ rfl
      simp only [Nat.add_zero] at c0
      have hst := made_step l j b hb
      have hln : ((l.take j).foldl putL []).length ≤ 60 := by
        have := fold_len (l.take j) []
        simp only [List.length_nil, List.length_take] at this
        omega
      generalize (l.take j).foldl putL [] = L at *
      have HP := Lib.hid (sput_o hh.out (by omega) b)
      have hpt : putL L b = if putOk L b then L ++ [b] else L := rfl
      have hpk : putOk L b = true → checkB b = true := fun e => by unfold putOk at e; rw [Bool.and_eq_true] at e; exact e.1
      rw [hpt] at HP
      cases hk : putOk L b with
      | true =>
        rw [hk, hpk hk] at HP
        rw [hpt, hk] at hst
        simp only [if_true] at HP hst
        have HST := Lib.hid hst
        obtain ⟨s, i, g, m, x, y, vx, vy, hp, pw, lf⟩ := b
        have HB := Lib.hid hb
        clear hst hpt hpk hk hcb hb hh
        go_wp2_with fail
        refine (HP.out).mono ?_
        rintro e W2 ⟨rfl, hO⟩
        obtain ⟨gb', ob', cb', hv, hgb2, hcb⟩ := (H.out.keep hO.below).cells HB.out
        simp only [Value.slice.injEq, true_and] at hv
        obtain ⟨hv, rfl⟩ := hv
        obtain ⟨rfl, rfl⟩ : gb = gb' ∧ ob = ob' := by simpa using hv
        clear hv c0 c1 c2 c3 c4 c5 c6 c7 c8 c9 c10 HP
        have d0 := hcb 0 _ rfl; have d1 := hcb 1 _ rfl; have d2 := hcb 2 _ rfl; have d3 := hcb 3 _ rfl; have d4 := hcb 4 _ rfl; have d5 := hcb 5 _ rfl; have d6 := hcb 6 _ rfl; have d7 := hcb 7 _ rfl; have d8 := hcb 8 _ rfl; have d9 := hcb 9 _ rfl; have d10 := hcb 10 _ rfl
        simp only [Nat.add_zero] at d0
        have HO := Lib.hid hO.swap
        clear hcb hO
        go_wp2_with (at_builtin; refine wpList_append_sl _ (by rfl) _ _ 29 (by rfl) 51 i0 _ 11 88 Try.underlying29 hi0 hz0 hz1 hz2 rfl (by omega) _ L.length (cellsR bunL L) (by rfl) ((HO.out.grow (W' := _) ((Below.refl _ _).alloc (Nat.le_refl _) _)).sl.1) ⟨_, 0, none⟩ 1 1 [.int .i64 s, .int .i64 i, .int .i64 g, .int .i64 m, .int .i64 x, .int .i64 y, .int .i64 vx, .int .i64 vy, .int .i64 hp, .int .i64 pw, .int .i64 lf] (by rfl) (by rfl) (new_cellsN _ _ _ _ (by simp)) (by simp [Value.oneCell']) (by omega) (by unfold maxLen; omega) (by omega) ?_; intro v' w4 hs4 ht4 ho4)
        have HF := Lib.hid (((HO.out.grow (W' := _) ((Below.refl _ _).alloc (Nat.le_refl _) _)).app (n' := L.length + 1) (xs' := cellsR bunL (L ++ [⟨s, i, g, m, x, y, vx, vy, hp, pw, lf⟩])) (by rw [cellsR_app, cellsR_one]; exact hs4) ht4 ho4).swap)
        clear hs4 ht4 ho4 HO d0 d1 d2 d3 d4 d5 d6 d7 d8 d9 d10
        go_wp2_with fail
        go_roundw
        case rel => exact ⟨j + 1, by go_num, by omega, by omega, by rw [HST.out, List.length_append]; exact HF⟩
        case measure => simp [intOf]; omega
      | false =>
        rw [hk] at HP
        rw [hpt, hk] at hst
        simp only [Bool.false_eq_true, if_false] at HP hst
        have h0 : ((if checkB b = true then (7 : Int) else 1) == 0) = false := by split <;> rfl
        generalize (if checkB b = true then (7 : Int) else 1) = kk at HP h0
        have HST := Lib.hid hst
        obtain ⟨s, i, g, m, x, y, vx, vy, hp, pw, lf⟩ := b
        clear hst hpt hpk hk hcb hb hh
        go_wp2_with fail
        refine (HP.out).mono ?_
        rintro e W2 ⟨rfl, hO⟩
        have HF := Lib.hid hO
        clear hO HP c0 c1 c2 c3 c4 c5 c6 c7 c8 c9 c10
        go_wp2_with fail
        go_roundw
        case rel => exact ⟨j + 1, by go_num, by omega, by omega, by rw [HST.out]; exact HF⟩
        case measure => simp [intOf]; omega
    · have he : l.take j = l.take 60 := by
        rcases (by omega : j = 60 ∨ j = l.length) with rfl | rfl
        · rfl
        · rw [List.take_of_length_le (Nat.le_refl _), List.take_of_length_le hj60]
      have HF := Lib.hid hh.out
      rw [he] at HF
      by_cases h1 : j < l.length
      · have t1 : (j : Int) < (l.length : Int) := by omega
        have t2 : ¬ (j : Int) < 60 := by omega
        clear hh H hlt he
        go_wp2_with fail
        go_ret2
        exact ⟨p, _, rfl, HF.out⟩
      · have t1 : ¬ (j : Int) < (l.length : Int) := by omega
        clear hh H hlt he
        go_wp2_with fail
        go_ret2
        exact ⟨p, _, rfl, HF.out⟩
end Go.Proofs.Ytmkfjelpekkmmaa
namespace Go.Proofs.Ytmkfjelpekkmmaa
open Go.RowKit

theorem qmatch_any (a n m : Int) (w : World) : Calls Try.prog 13 #[.agg #[.int .i64 a, .int .i64 n], .int .i64 m] w fun e w' => e = .returned (.bool (matchB a n m)) ∧ Below w.heap.size w w' := by
  have hd : matchB a n m = ((bits .and .i64 m a == a) && (bits .and .i64 m n == 0)) := rfl
  cases h1 : (bits .and .i64 m a == a) with
  | false =>
    rw [hd, h1]
    clear hd
    go_enter Try.func13, Try.ntmps13
    go_wp2_with fail
    go_ret
    exact ⟨rfl, (by repeat' (first | (with_reducible exact Below.refl _ _) | (with_reducible assumption) | (with_reducible refine below_drewN ?_ _) | (with_reducible refine below_more _ _ _ ?_ ?_) | (with_reducible refine Below.alloc ?_ ?_ _) | (with_reducible refine Below.drew ?_) | (with_reducible refine Below.setCell ?_ ?_ _) | go_size))⟩
  | true =>
    rw [hd, h1]
    clear hd
    go_enter Try.func13, Try.ntmps13
    go_wp2_with fail
    go_ret
    exact ⟨rfl, (by repeat' (first | (with_reducible exact Below.refl _ _) | (with_reducible assumption) | (with_reducible refine below_drewN ?_ _) | (with_reducible refine below_more _ _ _ ?_ ?_) | (with_reducible refine Below.alloc ?_ ?_ _) | (with_reducible refine Below.drew ?_) | (with_reducible refine Below.setCell ?_ ?_ _) | go_size))⟩
theorem rmatch_any (a n m : Int) (w : World) (ha : I64 a) (hm : I64 m) : Calls Try.prog 14 #[.agg #[.int .i64 a, .int .i64 n], .int .i64 m] w fun e w' => e = .returned (.bool (matchB a n m)) ∧ Below w.heap.size w w' := by
  rw [← rmatch_eq n ha hm]
  have hd : rmatchB a n m = ((bits .or .i64 m a == m) && (bits .and .i64 m n == 0)) := rfl
  clear ha hm
  cases h1 : (bits .or .i64 m a == m) with
  | false =>
    rw [hd, h1]
    clear hd
    go_enter Try.func14, Try.ntmps14
    go_wp2_with fail
    go_ret
    exact ⟨rfl, (by repeat' (first | (with_reducible exact Below.refl _ _) | (with_reducible assumption) | (with_reducible refine below_drewN ?_ _) | (with_reducible refine below_more _ _ _ ?_ ?_) | (with_reducible refine Below.alloc ?_ ?_ _) | (with_reducible refine Below.drew ?_) | (with_reducible refine Below.setCell ?_ ?_ _) | go_size))⟩
  | true =>
    rw [hd, h1]
    clear hd
    go_enter Try.func14, Try.ntmps14
    go_wp2_with fail
    go_ret
    exact ⟨rfl, (by repeat' (first | (with_reducible exact Below.refl _ _) | (with_reducible assumption) | (with_reducible refine below_drewN ?_ _) | (with_reducible refine below_more _ _ _ ?_ ?_) | (with_reducible refine Below.alloc ?_ ?_ _) | (with_reducible refine Below.drew ?_) | (with_reducible refine Below.setCell ?_ ?_ _) | go_size))⟩
end Go.Proofs.Ytmkfjelpekkmmaa
