/-
  Chapter texts QmY: what the claim reaches of them. Conditions stand at each theorem.
-/
import Derived.Test.YtmkfjelpekkmmaaQ28
namespace Go.Proofs.Ytmkfjelpekkmmaa
open Go.RowKit Go.Shelf Go.Sort

attribute [local go_sem] Oper.semAt_some
def Owns (W : World) (bG k : Nat) : Prop := ∃ off n c, W.cell? ⟨bG, 0, none⟩ = some (.slice (some ⟨k, off, none⟩) n c)
structure KpE (B bG : Nat) (W W' : World) : Prop where
  size : W.heap.size ≤ W'.heap.size
  same : ∀ k o, B ≤ k → W.heap[k]? = some o → o.isCells = true → ¬ Owns W bG k → W'.heap[k]? = some o
  own : ∀ k, Owns W' bG k → Owns W bG k ∨ W.heap.size ≤ k
theorem KpE.trans {B bG : Nat} {X Y Z : World} (h : KpE B bG X Y) (k : KpE B bG Y Z) : KpE B bG X Z :=
  ⟨Nat.le_trans h.size k.size, fun i o hB hi hc hn => k.same i o hB (h.same i o hB hi hc hn) hc fun e => (h.own i e).elim hn fun e => by have := lt_of_heap hi; omega,
    fun i hi => (k.own i hi).elim (h.own i) fun e => .inr (Nat.le_trans h.size e)⟩
theorem kpE_b {B bG : Nat} {w : World} (hG : bG < w.heap.size) (W : World) (l : Nat) (o o' : Obj) (hl : w.heap.size ≤ l) (h : W.heap[l]? = some o) (hc : o.isCells = false) (_ : o.isWalk = false) : KpE B bG W (W.putObj l o') := by
  have hne : ∀ k, k ≠ l → (W.putObj l o').heap[k]? = W.heap[k]? := fun k hk => World.putObj_heap_other hk
  refine ⟨by simp, fun k x _ hk hx _ => ?_, fun k ⟨off, n, c, e⟩ => .inl ⟨off, n, c, ?_⟩⟩
  · rw [hne k fun e => ?_]
    · exact hk
    · subst e
      rw [h] at hk; cases hk; rw [hc] at hx; cases hx
  · rwa [World.cell?_of_block (w := W) (a := ⟨bG, 0, none⟩) (hne bG (by omega))] at e
theorem owns_nil {W : World} {bG k : Nat} (h : W.cell? ⟨bG, 0, none⟩ = some (.slice none 0 0)) : ¬ Owns W bG k := fun ⟨_, _, _, e⟩ => by rw [h] at e; cases e
theorem owns_grow {W W' : World} {bG k : Nat} (hb : Below W.heap.size W W') (hG : bG < W.heap.size) (h : Owns W' bG k) : Owns W bG k := by
  obtain ⟨off, n, c, e⟩ := h
  exact ⟨off, n, c, by rwa [hb.cell (p := ⟨bG, 0, none⟩) hG] at e⟩
def EKept (p1 : Option Addr) (w1 : World) (bG : Nat) (wr : World) : Prop := ∀ g off, p1 = some ⟨g, off, none⟩ → wr.heap[g]? = w1.heap[g]? ∧ ¬ Owns wr bG g
theorem each_any (w : World) (q : Option Addr) (qa qn : Int) : Calls Try.prog 37 #[.pointer q, .agg #[.int .i64 qa, .int .i64 qn]] w fun e w' => e = .returned (.func (.func 58) #[] #[.pointer (some ⟨w.heap.size, 0, none⟩), .pointer (some ⟨w.heap.size + 1, 0, none⟩)]) ∧
    w' = (w.alloc (.cells #[.pointer q] 32)).alloc (.cells #[.int .i64 qa, .int .i64 qn] 23) := by
  go_enter Try.func37, Try.ntmps37
  go_wp2_with fail
  go_ret
  exact ⟨rfl, rfl⟩
set_option maxRecDepth 100000 in
set_option maxHeartbeats 4000000 in
theorem each1_in (n : Nat) (hn : 2 ≤ n) (l bs bq bG B : Nat) (v : Value) (L : List Bun) (qa qn : Int) (J Jx : List Bun → World → Prop) (W : World) (hJ : AbidesFrom W.heap.size J) (ls : List Bun) (hls : ls = foundF qa qn (fun _ => true) L) (hl : ls.length ≤ 1000000)
    (hY : ∀ pre x W, J pre W → pre.length < ls.length → YieldAt Fence.wide (n - 1) Try.prog l #[.agg x.arr] W fun e W' =>
      (e = .returned (.bool true) ∧ J (pre ++ [x]) W' ∧ KpE B bG W W') ∨ (e = .returned (.bool false) ∧ Jx (pre ++ [x]) W'))
    (h : FoundAt W v L) (hv : ∃ q, v = .pointer q) (hbs : W.cell? ⟨bs, 0, none⟩ = some v) (hbq : W.cell? ⟨bq, 0, none⟩ = some (.int .i64 qa) ∧ W.cell? ⟨bq, 1, none⟩ = some (.int .i64 qn)) (hB : B ≤ W.heap.size) (hG : W.cell? ⟨bG, 0, none⟩ = some (.slice none 0 0)) (h0 : J [] W) :
    CallsIn Fence.wide n Try.prog 58 #[.func (.yield l) #[] #[], .pointer (some ⟨bs, 0, none⟩), .pointer (some ⟨bq, 0, none⟩)] W fun e W' => (∃ v, e = .returned v) ∧
      ((∃ ys, ys = ls ∧ J ys W') ∨ (∃ pre, pre <+: ls ∧ Jx pre W')) := by
  obtain ⟨q, rfl⟩ := hv
  have HF := Lib.hid (h.2 W (Below.refl _ _) qa qn 49 #[] (fun _ _ => by kernel_rfl) (fun _ => true) (fun W2 _ x => always_any x W2))
  rw [← hls] at HF
  obtain ⟨hq0, hq1⟩ := hbq
  have HY := Lib.hid hY
  have HJ := Lib.hid hJ
  have HG := Lib.hid hG
  have lG := World.block_lt_of_cell? W _ hG
  clear h hls hY hJ hG
  refine callsIn_of_wp Try.func58 rfl trivial ?_ rfl
  simp only [Try.ntmps58, List.size_toArray, List.length_cons, List.length_nil, Nat.reduceAdd, Nat.reduceSub, Array.replicate_succ, Array.replicate_zero, List.push_toArray, List.append_toArray, List.nil_append, List.cons_append]
  gi_wp2
  refine ⟨trivial, fun _ => by omega, (callsIn_wide.2 HF.out).mono ?_⟩
  rintro e w1 ⟨v1, rfl, hN⟩
  obtain ⟨p1, c1, rfl⟩ := sl_frm hN.1
  have hJ1 := HJ.out _ _ _ none h0 (grown_of_below hN.2.1) (fun r e => by cases e)
  have hG1 := (hN.2.1.cell (p := ⟨bG, 0, none⟩) lG).trans HG.out
  have hp : p1 = none ∨ ∃ g off cur, p1 = some ⟨g, off, none⟩ ∧ w1.heap[g]? = some (.cells cur 51 (0, 0)) := by
    rcases hN.1.2 with ⟨h1, _⟩ | ⟨g', off, cap, cur, h1, hb, _⟩
    · simp only [Value.slice.injEq] at h1
      exact .inl h1.1
    · simp only [Value.slice.injEq] at h1
      exact .inr ⟨g', off, cur, h1.1, hb⟩
  have HP : Hid (∀ g off, p1 = some ⟨g, off, none⟩ → (∃ cur, w1.heap[g]? = some (.cells cur 51 (0, 0))) ∧ B ≤ g) := Lib.hid (fun g off e => by
    rcases hp with h1 | ⟨g', off', cur, h1, hb⟩
    · rw [h1] at e; cases e
    · rw [h1] at e; cases e
      exact ⟨⟨cur, hb⟩, Nat.le_trans hB (hN.2.2 g (by rw [h1]; rfl))⟩)
  have HIN : Hid (∀ wr : World, (∀ g off, p1 = some ⟨g, off, none⟩ → wr.heap[g]? = w1.heap[g]?) → BIn wr (.slice p1 ls.length c1) ls) := Lib.hid (fun wr hk => BIn.of_sl (hN.1.keep fun g hg => by
    rcases hp with h1 | ⟨g', off', cur, h1, hb⟩
    · rw [h1] at hg; cases hg
    · rw [h1] at hg
      have e : g' = g := by simpa [Value.ownBlock] using hg
      subst e
      exact hk g' off' h1))
  have HJ1 := Lib.hid hJ1
  have HK1 : Hid (EKept p1 w1 bG w1) := Lib.hid (fun g off _ => ⟨rfl, owns_nil hG1⟩)
  have lG1 := World.block_lt_of_cell? w1 _ hG1
  have s1 := hN.2.1.size
  clear hN hp hJ1 HF h0 hG1
  gi_wp2
  gi_loopw [10] (fun i wr => ∃ t : Nat, t ≤ ls.length ∧ i = .int .i64 t ∧ Hid (J (ls.take t) wr) ∧ Hid (EKept p1 w1 bG wr) ∧ w1.heap.size ≤ wr.heap.size) (fun i _ => ls.length - (intOf i).toNat)
  case atStart => exact ⟨0, Nat.zero_le _, rfl, by simpa using HJ1, HK1, Nat.le_refl _⟩
  case round =>
    obtain ⟨t, ht, rfl, hJt, hKt, hst⟩ := hrel
    have t0 : (0 : Int) ≤ (t : Int) := by omega
    by_cases htl : t < ls.length
    · have t1 : (t : Int) < (ls.length : Int) := by omega
      obtain ⟨x, hx⟩ : ∃ x, ls[t]? = some x := ⟨_, List.getElem?_eq_getElem htl⟩
      have hst2 : ls.take (t + 1) = ls.take t ++ [x] := by
        rw [List.take_succ_eq_append_getElem htl, show ls[t] = x from by have := List.getElem?_eq_getElem htl; rw [hx] at this; exact (Option.some.inj this).symm]
      obtain ⟨gb, ob, cb, hv, hgb, hcb⟩ := (HIN.out wr fun g off e => (hKt.out g off e).1).cells hx
      simp only [Value.slice.injEq, true_and] at hv
      obtain ⟨hp1, rfl⟩ := hv
      have hk1 := hKt.out gb ob hp1
      obtain ⟨⟨cur, hcur⟩, hBg⟩ := HP.out gb ob hp1
      subst hp1
      have e0 := hcb 0 _ rfl; have e1 := hcb 1 _ rfl; have e2 := hcb 2 _ rfl; have e3 := hcb 3 _ rfl; have e4 := hcb 4 _ rfl; have e5 := hcb 5 _ rfl; have e6 := hcb 6 _ rfl; have e7 := hcb 7 _ rfl; have e8 := hcb 8 _ rfl; have e9 := hcb 9 _ rfl; have e10 := hcb 10 _ rfl
      simp only [Nat.add_zero] at e0
      have lGr : bG < wr.heap.size := by omega
      have HST := Lib.hid hst2
      have hJ2 := HJ.out _ _ _ none hJt.out (World.grownBy_alloc wr (.cells x.arr 51) none) (fun r e => by cases e)
      have hlt2 : (ls.take t).length < ls.length := by rw [List.length_take]; omega
      obtain ⟨fn, tmps, assign, body, hy, hR⟩ := HY.out _ x _ hJ2 hlt2
      have HK2 := Lib.hid hk1
      have HCU := Lib.hid hcur
      clear hcb hx hst2 hJ2 hlt2 hk1 hcur hKt hJt
      gi_wp2
      refine ⟨fun _ => by omega, hR.mono ?_⟩
      rintro e W3 (⟨rfl, hJ3, hk3⟩ | ⟨rfl, hJx3⟩)
      · have hh : (wr.alloc (.cells x.arr 51)).heap[gb]? = some (.cells cur 51 (0, 0)) := ((World.grownBy_alloc wr _ none).block gb hgb (by simp)).trans (HK2.out.1.trans HCU.out)
        have hno : ¬ Owns (wr.alloc (.cells x.arr 51)) bG gb := fun e => HK2.out.2 (owns_grow ((Below.refl _ _).alloc (Nat.le_refl _) _) lGr e)
        have HKN : Hid (EKept (some ⟨gb, ob, none⟩) w1 bG W3) := Lib.hid (fun g off e => by
          cases e
          exact ⟨(hk3.same gb _ hBg hh rfl hno).trans HCU.out.symm, fun e => (hk3.own gb e).elim hno fun e => by simp at e; omega⟩)
        have hF := Lib.hid hJ3
        rw [← HST.out] at hF
        have hsz : w1.heap.size ≤ W3.heap.size := by have := hk3.size; simp at this; omega
        clear hJ3 hk3 hR hy hh hno
        gi_wp2
        go_roundw
        case rel => exact ⟨t + 1, by omega, by go_num, hF, HKN, hsz⟩
        case measure => simp [intOf]; omega
      · have hF := Lib.hid hJx3
        rw [← HST.out] at hF
        clear hJx3 hR hy
        gi_wp2
        refine bodyPost_ret (results_none rfl _ _ _) rfl ?_
        exact ⟨⟨_, rfl⟩, .inr ⟨_, List.take_prefix _ _, hF.out⟩⟩
    · obtain rfl : t = ls.length := by omega
      have hF := Lib.hid hJt.out
      rw [List.take_length] at hF
      clear hJt
      gi_wp2
      go_end0
      exact ⟨⟨_, rfl⟩, .inl ⟨_, rfl, hF.out⟩⟩
theorem each_stops (n : Nat) (hn : 2 ≤ n) (bs bq bG : Nat) (v : Value) (L : List Bun) (qa qn : Int) (w : World) (h : FoundAt w v L) (hv : ∃ q, v = .pointer q) (hbs : w.cell? ⟨bs, 0, none⟩ = some v) (hbq : w.cell? ⟨bq, 0, none⟩ = some (.int .i64 qa) ∧ w.cell? ⟨bq, 1, none⟩ = some (.int .i64 qn)) (hG : w.cell? ⟨bG, 0, none⟩ = some (.slice none 0 0)) :
    SeqStopsK Fence.wide n Try.prog 58 #[.pointer (some ⟨bs, 0, none⟩), .pointer (some ⟨bq, 0, none⟩)] (fun x : Bun => #[.agg x.arr]) (KpE w.heap.size bG) (fun ys => ys = foundF qa qn (fun _ => true) L) (fun pre => pre <+: foundF qa qn (fun _ => true) L) (foundF qa qn (fun _ => true) L).length w := fun l J Jx W hW hJ _ hY h0 =>
  each1_in n hn l bs bq bG w.heap.size v L qa qn J Jx W hJ _ rfl (Nat.le_trans (foundF_len _ _ _ _) h.1) hY (h.grow hW) hv (cell_keep hW hbs) ⟨cell_keep hW hbq.1, cell_keep hW hbq.2⟩ hW.size (cell_keep hW hG) h0
end Go.Proofs.Ytmkfjelpekkmmaa
