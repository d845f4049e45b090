/-
  The reference's pool of names: List, as the program's. No condition.
-/
import Derived.Test.YtjkbenghgbigdaaRefH
namespace Go.Proofs.Ytjkbenghgbigdaa
open Go.RowKit

theorem s_turned {W1 W w' : World} {o : Option Nat} (h : W1.heap.size ≤ W.heap.size ∧ ∀ b o, b < W1.heap.size → W.cell? ⟨b, o, none⟩ = W1.cell? ⟨b, o, none⟩) (ht : Turned W w' o) (ho : ∀ g, o = some g → W1.heap.size ≤ g) :
    W1.heap.size ≤ w'.heap.size ∧ ∀ b o, b < W1.heap.size → w'.cell? ⟨b, o, none⟩ = W1.cell? ⟨b, o, none⟩ :=
  ⟨Nat.le_trans h.1 ht.size, fun b j hb => (ht.cell (a := ⟨b, j, none⟩) (Nat.lt_of_lt_of_le hb h.1) fun e => by have := ho b e; omega).trans (h.2 b j hb)⟩
def rlL (l : List Slot) : List Id3 := l.flatMap fun s => if s.alive then [(s.k, s.i, s.gen)] else []
theorem rlL_succ {l : List Slot} {n : Nat} {s : Slot} (hs : l[n]? = some s) : rlL (l.take (n + 1)) = rlL (l.take n) ++ if s.alive then [(s.k, s.i, s.gen)] else [] := by
  have hn := (List.getElem?_eq_some_iff.1 hs).1
  rw [List.take_succ_eq_append_getElem hn, (List.getElem?_eq_some_iff.1 hs).2]
  simp [rlL]
theorem rlL_le : ∀ l : List Slot, (rlL l).length ≤ l.length
  | [] => by simp [rlL]
  | s :: l => by
    have := rlL_le l
    have e : rlL (s :: l) = (if s.alive then [(s.k, s.i, s.gen)] else []) ++ rlL l := by simp [rlL]
    rw [e, List.length_append, List.length_cons]
    split <;> simp <;> omega
theorem ixSlots_list (rw : Int → Int → Int) : ∀ (l : List Ix) (k i : Int), rlL (ixSlots rw k i l) = ixList k i l
  | [], _, _ => rfl
  | x :: l, k, i => by
    have := ixSlots_list rw l k (i + 1)
    simp only [rlL] at this
    simp [ixSlots, rlL, ixList, this]
theorem mSlots_list (rw : Int → Int → Int) : ∀ (M : List Sh) (k : Int), rlL (mSlots rw k M) = shList k M
  | [], _ => rfl
  | m :: M, k => by
    have h1 := ixSlots_list rw m.all k 0
    have h2 := mSlots_list rw M (k + 1)
    simp only [rlL] at h1 h2
    simp [mSlots, rlL, shList, h1, h2]

set_option maxRecDepth 100000 in
set_option maxHeartbeats 4000000 in
theorem rlist_any (w : World) (R : RLay) (ids : Nat) {c : Int} (M : List Sh) (h : RPool w R ids c M) : Calls Try.prog 75 #[.pointer (some ⟨R.p, 0, none⟩)] w fun e w' => ∃ v, e = .returned v ∧ ListAt w w' v (listF M) := by
  obtain ⟨i0, hi0, hz0, hz1, hz2⟩ := info_parts info_id
  obtain ⟨rw, put, h1, h2, hpc⟩ := h
  have hle : (mSlots rw 0 M).length ≤ 256 := by rw [mSlots_len M 0 h2.len]; exact Nat.mul_le_mul h2.pos.2.2 h2.pos.2.1
  have hres : listF M = rlL (mSlots rw 0 M) := (mSlots_list rw M 0).symm
  rw [hres]
  obtain ⟨c0, _, fp, fb, b0, b1⟩ := h1.tops
  obtain ⟨z1, z2⟩ := h1.bnd
  unfold maxLen at z2
  have HSL := Lib.hid fun n s => h1.slot (n := n) (s := s)
  clear h1 h2 hpc hres
  generalize mSlots rw 0 M = l at *
  go_enter Try.func75, Try.ntmps75
  go_wp2_with fail
  go_loopw [3, 4] (fun v x wr => ∃ n : Nat, n ≤ l.length ∧ x = .int .i64 n ∧ Hid (ListAt w wr v (rlL (l.take n)))) (fun _ x _ => l.length - (intOf x).toNat)
  case atStart => exact ⟨0, Nat.zero_le _, rfl, Lib.hid ⟨⟨by simp [rlL, idCells], .inl ⟨rfl, by simp [rlL]⟩⟩, Below.refl _ _, fun g hg => by cases hg⟩⟩
  case round =>
    obtain ⟨n, hn, rfl, hh⟩ := hrel
    obtain ⟨wo, rfl⟩ : ∃ wo : World, wo = wr := ⟨_, rfl⟩
    have hI : 0 ≤ (n : Int) := Int.natCast_nonneg n
    have hS : w.heap.size ≤ wo.heap.size ∧ ∀ b o, b < w.heap.size → wo.cell? ⟨b, o, none⟩ = w.cell? ⟨b, o, none⟩ := ⟨hh.out.2.1.size, (bcell hh.out.2.1).1⟩
    have hS2 := hS.2
    have hll := rlL_le (l.take n)
    rw [List.length_take, Nat.min_eq_left hn] at hll
    by_cases hlt : n < l.length
    · obtain ⟨s, hs⟩ : ∃ s, l[n]? = some s := ⟨_, List.getElem?_eq_getElem hlt⟩
      obtain ⟨s0, s1, s2, s3, s4, s5⟩ := HSL.out n s hs
      have hsn := rlL_succ hs
      have HSN := Lib.hid hsn
      clear hs hsn
      generalize rlL (l.take n) = ll at *
      obtain ⟨sk, si, sg, sb, srow, sa⟩ := s
      simp only at s0 s1 s2 s3 s4 s5
      cases sa with
      | false =>
        simp only [Bool.false_eq_true, if_false, List.append_nil] at HSN
        go_wp2_with fail
        go_roundw
        case rel => exact ⟨n + 1, hlt, by go_num, by rw [HSN.out]; exact Lib.hid (hh.out.later (by repeat' (first | (with_reducible exact Below.refl _ _) | (with_reducible assumption) | (with_reducible refine below_drewN ?_ _) | (with_reducible refine below_more _ _ _ ?_ ?_) | (with_reducible refine Below.alloc ?_ ?_ _) | (with_reducible refine Below.drew ?_) | (with_reducible refine Below.setCell ?_ ?_ _) | go_size)))⟩
        case measure => simp [intOf]; omega
      | true =>
        simp only [if_true] at HSN
        have HO := Lib.hid hh.out.2.2
        go_wp2_with fail
        go_region_held3 (fun W => w.heap.size ≤ W.heap.size ∧ ∀ b o, b < w.heap.size → W.cell? ⟨b, o, none⟩ = w.cell? ⟨b, o, none⟩) (with_reducible (repeat (first | assumption | exact hS | refine s_turned ?_ ht4 HO.out | refine s_alloc _ ?_ | refine s_drew ?_))) ((refine step_append_sl _ (by rfl) (.tmp 22) (.tmp 48) 27 (by rfl) 30 i0 _ 3 24 Try.underlying27 hi0 hz0 hz1 hz2 rfl (by omega) _ ll.length (idCells ll) (by rfl) (hh.out.later (by repeat' (first | (with_reducible exact Below.refl _ _) | (with_reducible assumption) | (with_reducible refine below_drewN ?_ _) | (with_reducible refine below_more _ _ _ ?_ ?_) | (with_reducible refine Below.alloc ?_ ?_ _) | (with_reducible refine Below.drew ?_) | (with_reducible refine Below.setCell ?_ ?_ _) | go_size))).1 ⟨_, 0, none⟩ 1 1 [.int .i64 sk, .int .i64 si, .int .i64 sg] (by rfl) (by rfl) (by intro j u hj; rcases j with _ | _ | _ | j <;> simp at hj <;> subst hj <;> simp [Addr.add, go_sem]) (by simp [Value.oneCell']) (by omega) (by unfold maxLen; omega) (by omega) ?_; intro g off cap w4 hs4 ht4 ho4))
        go_wp2_with fail
        go_roundw
        case rel => exact ⟨n + 1, hlt, by go_num, by rw [HSN.out]; exact Lib.hid ((hh.out.later (by repeat' (first | (with_reducible exact Below.refl _ _) | (with_reducible assumption) | (with_reducible refine below_drewN ?_ _) | (with_reducible refine below_more _ _ _ ?_ ?_) | (with_reducible refine Below.alloc ?_ ?_ _) | (with_reducible refine Below.drew ?_) | (with_reducible refine Below.setCell ?_ ?_ _) | go_size))).snoc hs4 ht4 (ho4.elim (fun h => .inl h.symm) fun h => .inr ⟨g, rfl, h⟩))⟩
        case measure => simp [intOf]; omega
    · obtain rfl : n = l.length := by omega
      rw [List.take_length] at hh
      clear hS
      go_wp2_with fail
      go_ret
      exact ⟨_, rfl, hh.out⟩
end Go.Proofs.Ytjkbenghgbigdaa
