/-
  Chapter texts QmL GhP QmS: what the claim reaches of them. Conditions stand at each theorem.
-/
import Derived.RangeFuncNested
import Derived.RangeFuncBound
import Derived.RangeFuncCalls
import Derived.RangeFuncLeaves
import Derived.Shelf.Abstract
import Derived.Shelf.RegionOpen
import Derived.OwnWalkIn
import Derived.TacticsInMore
import Derived.LoopNIn
import Derived.LoopIn
import Derived.Test.YtmkfjelpekkmmaaQ12
import Derived.Test.YtmkfjelpekkmmaaQ21
import Derived.Test.YtmkfjelpekkmmaaQ01
namespace Go.Proofs.Ytmkfjelpekkmmaa
open Go.RowKit Go.Shelf

attribute [local go_sem] Oper.semAt_some
def KpA (n₀ Bs : Nat) (W W' : World) : Prop := Below n₀ W W' ∧ W'.heap[Bs]? = W.heap[Bs]?
theorem KpA.refl (n₀ Bs : Nat) (W : World) : KpA n₀ Bs W W := ⟨Below.refl _ _, rfl⟩
theorem KpA.trans {n₀ Bs : Nat} {A B C : World} (h : KpA n₀ Bs A B) (k : KpA n₀ Bs B C) : KpA n₀ Bs A C := ⟨h.1.trans k.1, k.2.trans h.2⟩
theorem KpA.grow {n₀ Bs : Nat} {A B : World} (h : Below A.heap.size A B) (h1 : n₀ ≤ A.heap.size) (h2 : Bs < A.heap.size) : KpA n₀ Bs A B := ⟨h.mono h1, h.block Bs h2⟩
theorem kpA_b {n₀ Bs : Nat} {w : World} (h1 : n₀ ≤ w.heap.size) (h2 : Bs < w.heap.size) (W : World) (l : Nat) (o o' : Obj) (hl : w.heap.size ≤ l) (h : W.heap[l]? = some o) (_ : o.isCells = false) (_ : o.isWalk = false) : KpA n₀ Bs W (W.putObj l o') :=
  ⟨belowK_b h1 W l o o' hl h ‹_› ‹_›, World.putObj_heap_other (by omega)⟩
theorem grown_of_below {w w' : World} (h : Below w.heap.size w w') : w.grownBy w' none := ⟨h.os, h.tape, h.output, h.size, fun k hk _ => h.block k hk⟩
theorem flat_step (T : Nat → List Bun) (k : Nat) : (List.range (k + 1)).flatMap T = (List.range k).flatMap T ++ T k := by rw [List.range_succ, List.flatMap_append]; simp
theorem flat_pre (T : Nat → List Bun) {k : Nat} (hk : k < 32) (t : Nat) : (List.range k).flatMap T ++ (T k).take t <+: allT T := by
  have h1 : (List.range k).flatMap T ++ (T k).take t <+: (List.range (k + 1)).flatMap T := by
    rw [flat_step]
    exact (List.prefix_append_right_inj _).2 (List.take_prefix _ _)
  refine h1.trans ?_
  unfold allT
  obtain ⟨d, hd⟩ : ∃ d, 32 = k + 1 + d := ⟨31 - k, by omega⟩
  rw [hd, List.range_add (n := k + 1), List.flatMap_append]
  exact List.prefix_append _ _
set_option maxRecDepth 100000 in
set_option maxHeartbeats 4000000 in
theorem all1_in (n : Nat) (hn : 2 ≤ n) (l Bs n₀ p mb : Nat) (o : Obj) (V : Nat → Value) (T : Nat → List Bun) (P : List Pl) (J Jx : List Bun → World → Prop) (W : World) (hJ : AbidesFrom W.heap.size J)
    (hY : ∀ pre x W, J pre W → pre.length < (allT T).length → YieldAt Fence.wide (n - 1) Try.prog l #[.agg x.arr] W fun e W' =>
      (e = .returned (.bool true) ∧ J (pre ++ [x]) W' ∧ KpA n₀ Bs W W') ∨ (e = .returned (.bool false) ∧ Jx (pre ++ [x]) W'))
    (hBs : W.heap[Bs]? = some (.cells #[.pointer (some ⟨p, 0, none⟩)] 32 (0, 0))) (hC : StoC W p mb o V (fun j => T (j / 8))) (hi : SInv T P) (hlo : ∀ b, StoOwn p mb V b → b < n₀) (hn₀ : n₀ ≤ W.heap.size) (hl : ∀ m, m < 32 → (T m).length ≤ 1000000) (h0 : J [] W) :
    CallsIn Fence.wide n Try.prog 71 #[.func (.yield l) #[] #[], .pointer (some ⟨Bs, 0, none⟩)] W fun e W' => (∃ v, e = .returned v) ∧
      ((∃ ys, ys = allT T ∧ J ys W') ∨ (∃ pre, pre <+: allT T ∧ Jx pre W')) := by
  have hB : Bs < W.heap.size := lt_of_heap hBs
  have cB : ∀ wr, KpA n₀ Bs W wr → wr.cell? ⟨Bs, 0, none⟩ = some (.pointer (some ⟨p, 0, none⟩)) := fun wr h => by simp [World.cell?, h.2.trans hBs]
  have HCB := Lib.hid cB
  have c0 := cB W (KpA.refl _ _ _)
  have HC := Lib.hid (fun wr (h : KpA n₀ Bs W wr) => hC.keep (w' := wr) fun b hb => h.1.block b (hlo b hb))
  have HY := Lib.hid hY
  have HJ := Lib.hid hJ
  have HI := Lib.hid hi
  clear cB hBs hC hY hJ hlo
  refine callsIn_of_wp Try.func71 rfl trivial ?_ rfl
  simp only [Try.ntmps71, List.size_toArray, List.length_cons, List.length_nil, Nat.reduceAdd, Nat.reduceSub, Array.replicate_succ, Array.replicate_zero, List.push_toArray, List.append_toArray, List.nil_append, List.cons_append]
  gi_wp2
  gi_loopw [7] (fun i wr => ∃ k : Nat, k ≤ 32 ∧ i = .int .i64 k ∧ Hid (J ((List.range k).flatMap T) wr) ∧ Hid (KpA n₀ Bs W wr)) (fun i _ => 32 - (intOf i).toNat)
  case atStart => exact ⟨0, Nat.zero_le _, rfl, Lib.hid h0, Lib.hid (KpA.refl _ _ _)⟩
  case round =>
    obtain ⟨k, hk, rfl, hJs, hkp⟩ := hrel
    obtain ⟨wo, rfl⟩ : ∃ wo : World, wo = wr := ⟨_, rfl⟩
    have c1 := HCB.out _ hkp.out
    have k0 : (0 : Int) ≤ (k : Int) := by omega
    by_cases hlt : k < 32
    · have hk1 : (k : Int) < 32 := by omega
      have hCk := HC.out _ hkp.out
      have cv := hCk.cell (j := k * 8) (by omega)
      obtain ⟨pv, cv', hv⟩ := sl_frm ((StoG.refl hCk).sl0 hlt)
      simp only [show k * 8 / 8 = k by omega] at hv
      rw [hv] at cv
      have hlk := hl k hlt
      clear hCk hv
      gi_wp2
      gi_loopw [18] (fun i wr => ∃ t : Nat, t ≤ (T k).length ∧ i = .int .i64 t ∧ Hid (J ((List.range k).flatMap T ++ (T k).take t) wr) ∧ Hid (KpA n₀ Bs W wr)) (fun i _ => (T k).length - (intOf i).toNat)
      case atStart => exact ⟨0, Nat.zero_le _, rfl, by simpa using hJs, hkp⟩
      case round =>
        obtain ⟨t, ht, rfl, hJt, hkt⟩ := hrel
        have t0 : (0 : Int) ≤ (t : Int) := by omega
        have c2 := HCB.out _ hkt.out
        by_cases htl : t < (T k).length
        · have t1 : (t : Int) < ((T k).length : Int) := by omega
          obtain ⟨x, hx⟩ : ∃ x, (T k)[t]? = some x := ⟨_, List.getElem?_eq_getElem htl⟩
          have hst : (List.range k).flatMap T ++ (T k).take (t + 1) = ((List.range k).flatMap T ++ (T k).take t) ++ [x] := by
            rw [List.append_assoc, List.take_succ_eq_append_getElem htl, show (T k)[t] = x from by have := List.getElem?_eq_getElem htl; rw [hx] at this; exact (Option.some.inj this).symm]
          have hlen := (flat_pre T hlt (t + 1)).length_le
          rw [hst, List.length_append (bs := [x]), List.length_singleton] at hlen
          have HAT := Lib.hid (sat_any wr p mb o V T k t x (HC.out _ hkt.out) hlt hx (HI.out.ent k hlt t x hx).1)
          have HST := Lib.hid hst
          have HLN := Lib.hid hlen
          clear hst hlen hx cv
          gi_wp2
          refine ⟨trivial, fun _ => by omega, (callsIn_wide.2 HAT.out).mono ?_⟩
          rintro e w' ⟨rfl, hb⟩
          have hJ2 := HJ.out _ _ _ none hJt.out (grown_of_below hb) (fun r e => by cases e)
          have hk2 : KpA n₀ Bs W w' := hkt.out.trans (KpA.grow hb (Nat.le_trans hn₀ hkt.out.1.size) (Nat.lt_of_lt_of_le hB hkt.out.1.size))
          obtain ⟨fn, tmps, assign, body, hy, hR⟩ := HY.out _ x w' hJ2 (by have := HLN.out; omega)
          clear hb
          gi_wp2
          refine ⟨fun _ => by omega, hR.mono ?_⟩
          rintro e W3 (⟨rfl, hJ3, hk3⟩ | ⟨rfl, hJx3⟩)
          · have hF := Lib.hid hJ3
            rw [← HST.out] at hF
            have hK := Lib.hid (hk2.trans hk3)
            clear hJ3 hk3 hk2 hJ2 hR hy
            gi_wp2
            go_roundw
            case rel => exact ⟨t + 1, by omega, by go_num, hF, hK⟩
            case measure => simp [intOf]; omega
          · have hF := Lib.hid hJx3
            rw [← HST.out] at hF
            clear hJx3 hk2 hJ2 hR hy
            gi_wp2
            refine bodyPost_ret (results_none rfl _ _ _) rfl ?_
            exact ⟨⟨_, rfl⟩, .inr ⟨_, flat_pre T hlt (t + 1), hF.out⟩⟩
        · obtain rfl : t = (T k).length := by omega
          have hF := Lib.hid hJt.out
          rw [List.take_length, ← flat_step] at hF
          clear hJt
          gi_wp2
          go_roundw
          case rel => exact ⟨k + 1, by omega, by go_num, hF, hkt⟩
          case measure => simp [intOf]; omega
    · obtain rfl : k = 32 := by omega
      gi_wp2
      go_end0
      exact ⟨⟨_, rfl⟩, .inl ⟨_, rfl, hJs.out⟩⟩
theorem all_stops (n : Nat) (hn : 2 ≤ n) (Bs n₀ p mb : Nat) (o : Obj) (V : Nat → Value) (T : Nat → List Bun) (P : List Pl) (w : World)
    (hBs : w.heap[Bs]? = some (.cells #[.pointer (some ⟨p, 0, none⟩)] 32 (0, 0))) (hC : StoC w p mb o V (fun j => T (j / 8))) (hi : SInv T P) (hlo : ∀ b, StoOwn p mb V b → b < n₀) (hn₀ : n₀ ≤ w.heap.size) (hl : ∀ m, m < 32 → (T m).length ≤ 1000000) :
    SeqStopsK Fence.wide n Try.prog 71 #[.pointer (some ⟨Bs, 0, none⟩)] (fun x : Bun => #[.agg x.arr]) (KpA n₀ Bs) (fun ys => ys = allT T) (fun pre => pre <+: allT T) (allT T).length w := fun l J Jx W hW hJ _ hY h0 =>
  all1_in n hn l Bs n₀ p mb o V T P J Jx W hJ hY ((hW.block Bs (lt_of_heap hBs)).trans hBs) (hC.grow hW) hi hlo (Nat.le_trans hn₀ hW.size) hl h0
theorem all_fn (v : Option Addr) (w : World) : Calls Try.prog 59 #[.pointer v] w fun e w' => e = .returned (.func (.func 71) #[] #[.pointer (some ⟨w.heap.size, 0, none⟩)]) ∧ w' = w.alloc (.cells #[.pointer v] 32) := by
  go_enter Try.func59, Try.ntmps59
  go_wp2_with fail
  go_ret
  exact ⟨rfl, rfl⟩
theorem all_none (n : Nat) (Bs : Nat) (w : World) (hBs : w.heap[Bs]? = some (.cells #[.pointer none] 32 (0, 0))) (n₀ : Nat) :
    SeqStopsK Fence.wide n Try.prog 71 #[.pointer (some ⟨Bs, 0, none⟩)] (fun x : Bun => #[.agg x.arr]) (KpA n₀ Bs) (fun ys => ys = []) (fun pre => pre <+: []) 0 w := fun l J Jx W hW hJ _ hY h0 => by
  have c0 : W.cell? ⟨Bs, 0, none⟩ = some (.pointer none) := by simp [World.cell?, (hW.block Bs (lt_of_heap hBs)).trans hBs]
  refine callsIn_of_wp Try.func71 rfl trivial ?_ rfl
  simp only [Try.ntmps71, List.size_toArray, List.length_cons, List.length_nil, Nat.reduceAdd, Nat.reduceSub, Array.replicate_succ, Array.replicate_zero, List.push_toArray, List.append_toArray, List.nil_append, List.cons_append]
  gi_wp2
  refine bodyPost_ret (results_none rfl _ _ _) rfl ?_
  exact ⟨⟨_, rfl⟩, .inl h0⟩
end Go.Proofs.Ytmkfjelpekkmmaa
namespace Go.Proofs.Ytmkfjelpekkmmaa
open Go.RowKit
theorem rSort_pair (l : List Bun) : (rSort l).Pairwise fun a b => bef b a = false := by
  obtain ⟨T, h1, h2, h3⟩ := rSort_tag l l.length (Nat.le_refl _)
  rw [List.take_length] at h1
  rw [← h1, List.pairwise_map]
  refine h3.imp fun {a b} h => ?_
  rw [bef_cmp]
  have hn := cmpBun_ok.neg b.1 a.1
  have hz := cmpBun_ok.zero b.1 a.1
  rcases (ltT_iff a b).1 h with h | ⟨h, _⟩
  · exact decide_eq_false (by have := cmpBun_ok.neg a.1 b.1; omega)
  · exact decide_eq_false (by omega)

theorem rIns_parts (x : Bun) (l : List Bun) (h : l.Pairwise fun a b => bef b a = false) : ∃ n, rIns x l = l.take n ++ x :: l.drop n ∧ l.filter (fun y => !bef x y) = l.take n ∧ l.filter (fun y => bef x y) = l.drop n := by
  have hle := rPos_le x l l.length
  have hlo := rPos_lo x l l.length
  have hhi := rPos_hi x l l.length
  unfold rIns
  generalize rPos x l l.length = n at *
  have h1 : ∀ y ∈ l.take n, bef x y = false := fun y hy => by
    obtain ⟨t, ht, rfl⟩ := List.mem_iff_getElem.1 hy
    rw [List.length_take] at ht
    rw [List.getElem_take]
    rcases hlo with rfl | hlo
    · omega
    have e1 : l.getD (n - 1) default = l[n - 1]'(by omega) := by simp [List.getD, show n - 1 < l.length by omega]
    rw [e1] at hlo
    by_cases he : t = n - 1
    · subst he; exact hlo
    have hp := List.pairwise_iff_getElem.1 h t (n - 1) (by omega) (by omega) (by omega)
    rw [bef_cmp, decide_eq_false_iff_not] at hp hlo ⊢
    intro hc
    have hn := cmpBun_ok.neg (l[n - 1]'(by omega)) (l[t]'(by omega))
    exact hlo (cmpBun_ok.transl _ _ _ hc (by omega))
  have h2 : ∀ y ∈ l.drop n, bef x y = true := fun y hy => by
    obtain ⟨t, ht, rfl⟩ := List.mem_iff_getElem.1 hy
    rw [List.length_drop] at ht
    rw [List.getElem_drop]
    have := hhi (n + t) (by omega) (by omega)
    have e1 : l.getD (n + t) default = l[n + t]'(by omega) := by simp [List.getD, show n + t < l.length by omega]
    rw [e1] at this
    exact this
  have hl : l = l.take n ++ l.drop n := (List.take_append_drop n l).symm
  have f1 : l.filter (fun y => !bef x y) = l.take n := by
    conv => lhs; rw [hl]
    rw [List.filter_append, List.filter_eq_self.2 fun y hy => by simp [h1 y hy], List.filter_eq_nil_iff.2 fun y hy => by simp [h2 y hy], List.append_nil]
  have f2 : l.filter (fun y => bef x y) = l.drop n := by
    conv => lhs; rw [hl]
    rw [List.filter_append, List.filter_eq_nil_iff.2 fun y hy => by simp [h1 y hy], List.filter_eq_self.2 fun y hy => by simp [h2 y hy], List.nil_append]
  exact ⟨n, rfl, f1, f2⟩

theorem rIns_filter (x : Bun) (l : List Bun) (h : l.Pairwise fun a b => bef b a = false) : rIns x l = l.filter (fun y => !bef x y) ++ x :: l.filter (fun y => bef x y) ∧ l.filter (fun y => !bef x y) ++ l.filter (fun y => bef x y) = l := by
  obtain ⟨n, h1, h2, h3⟩ := rIns_parts x l h
  exact ⟨by rw [h1, h2, h3], by rw [h2, h3]; exact List.take_append_drop n l⟩

theorem rSort_filter (p : Bun → Bool) (l : List Bun) : rSort (l.filter p) = (rSort l).filter p := by
  have key : ∀ r : List Bun, rSort (r.reverse.filter p) = (rSort r.reverse).filter p := by
    intro r
    induction r with
    | nil => rfl
    | cons x r ih =>
      rw [List.reverse_cons, List.filter_append, rSort_snoc, (rIns_filter x _ (rSort_pair _)).1]
      have hs := rSort_pair r.reverse
      generalize r.reverse = m at *
      cases hx : p x with
      | false =>
        have hw := (rIns_filter x _ hs).2
        have h2 : (rSort m).filter p = ((rSort m).filter (fun y => !bef x y)).filter p ++ ((rSort m).filter (fun y => bef x y)).filter p := by
          conv => lhs; rw [← hw]
          rw [List.filter_append]
        have h3 : (x :: (rSort m).filter (fun y => bef x y)).filter p = ((rSort m).filter (fun y => bef x y)).filter p := by simp [hx]
        have h4 : [x].filter p = [] := by simp [hx]
        rw [List.filter_append, h3, ← h2, ← ih, h4, List.append_nil]
      | true =>
        simp only [List.filter_cons, hx, if_true, List.filter_nil]
        rw [rSort_snoc, ih, (rIns_filter x _ (hs.filter _)).1]
        simp [List.filter_append, hx, List.filter_filter, Bool.and_comm]
  have := key l.reverse
  simpa using this

theorem stableF_filter (p : Bun → Bool) (l : List Bun) : stableF cmpBun (l.filter p) = (stableF cmpBun l).filter p := by
  rw [← rSort_stable, ← rSort_stable, rSort_filter]
end Go.Proofs.Ytmkfjelpekkmmaa
namespace Go.Proofs.Ytmkfjelpekkmmaa
open Go.RowKit Go.Sort
theorem stF_perm (l : List Bun) : (stableF cmpBun l).Perm l := by
  unfold stableF
  have h := (List.mergeSort_perm l.zipIdx fun x y => !ltT cmpBun y x).map fun x => x.1
  have e : l.zipIdx.map (fun x => x.1) = l := by simp
  exact h.trans (List.Perm.of_eq e)
theorem stF_pair (l : List Bun) : (stableF cmpBun l).Pairwise fun a b => bef b a = false := by rw [← rSort_stable]; exact rSort_pair l
theorem bef_anti {a b : Bun} (h1 : bef b a = false) (h2 : bef a b = false) : sameId a b := by
  rw [bef_cmp, decide_eq_false_iff_not] at h1 h2
  have hn := cmpBun_ok.neg b a
  exact (cmpId_zero _ _ _ _ _ _).1 (by unfold cmpBun at *; omega)
theorem stF_eq {l l' : List Bun} (hp : l.Perm l') (hu : UnId l) : stableF cmpBun l = stableF cmpBun l' := by
  refine List.Perm.eq_of_pairwise (le := fun a b => bef b a = false) (fun a b ha hb h1 h2 => ?_) (stF_pair l) (stF_pair l') ((stF_perm l).trans (hp.trans (stF_perm l').symm))
  have ha' := (stF_perm l).mem_iff.1 ha
  have hb' := hp.mem_iff.2 ((stF_perm l').mem_iff.1 hb)
  exact hu.one ha' hb' (bef_anti h1 h2)
def askF (a n : Int) (l : List Bun) : List Bun := stableF cmpBun (l.filter fun b => matchB a n b.m)
end Go.Proofs.Ytmkfjelpekkmmaa
