/-
  The reference's pool of names: New, walked. No condition.
-/
import Derived.Test.YtjkbenghgbigdaaRefJ
namespace Go.Proofs.Ytjkbenghgbigdaa
open Go.RowKit

theorem info_slot : (Try.prog.info? 105).map (fun i => (i.zero, i.size, i.bytes)) = some (some (.agg #[.int .i64 0, .int .i64 0, .int .i64 0, .int .i64 0, .int .i64 0, .bool false]), 6, 48) := by kernel_rfl
theorem NewR.done {w wr : World} {ids shards : Nat} {v : Value} (h : NewR w wr ids (shards * ids) v) (h1 : 1 ≤ shards) (h2 : shards ≤ 16) (h3 : 1 ≤ ids) (h4 : ids ≤ 16) :
    ∃ R : RLay, R.p = w.heap.size ∧ RPool wr R ids ((shards * ids : Nat) : Int) (List.replicate shards (fresh ids ids)) ∧ ∀ b, R.own b → w.heap.size ≤ b := by
  have hpos : 0 < shards * ids := Nat.mul_pos h1 h3
  obtain ⟨hl, ⟨_, h0⟩ | ⟨g, off, cap, cur, rfl, hb, hn, hc, hsz, hr⟩⟩ := h.sl
  · omega
  · have hg := h.ap g rfl
    refine ⟨⟨w.heap.size, g, off, cap⟩, rfl, ⟨_, _, ⟨?_, ⟨cur, hb, ?_, hc, hsz, fun n j s hs hj => ?_⟩, hg.2.symm⟩, fresh_sim shards ids h2 h3 h4, Int.le_refl _⟩, fun b hb => ?_⟩
    · rw [← newL_eq h3, newL_len]; exact h.top
    · rw [← newL_eq h3, newL_len]; exact hn
    · rw [← newL_eq h3] at hs
      have e := slCells_get _ n j s hs hj
      have hjl : j < s.cells.length := by simpa [Slot.cells] using hj
      rw [List.getElem?_eq_getElem hjl] at e ⊢
      have := hr _ _ e
      rw [← Nat.add_assoc] at this
      exact this
    · rcases hb with rfl | rfl
      · exact Nat.le_refl _
      · exact hg.1

theorem NewR.after {w wo W w4 : World} {ids n : Nat} {v : Value} (h : NewR w wo ids n v) (hW : Below wo.heap.size wo W) (ht : Turned W w4 v.ownBlock) :
    w4.cell? ⟨w.heap.size, 0, none⟩ = some v ∧ w4.cell? ⟨w.heap.size, 1, none⟩ = some (.int .i64 n) ∧ (∀ o, w4.frozen? ⟨w.heap.size, o, none⟩ = false) ∧ w.heap.size < w4.heap.size := by
  obtain ⟨_, _, _, h4, h5⟩ := h.facts
  obtain ⟨h1, h2, h3, h4, _⟩ := (h.later hW).facts
  exact ⟨(ht.cell (a := ⟨w.heap.size, 0, none⟩) h4 h5).trans h1, (ht.cell (a := ⟨w.heap.size, 1, none⟩) h4 h5).trans h2, fun o => (ht.frozen (a := ⟨w.heap.size, o, none⟩) h4 h5).trans (h3 o), Nat.lt_of_lt_of_le h4 ht.size⟩

set_option maxRecDepth 100000 in
set_option maxHeartbeats 4000000 in
theorem rnew_ok (shards ids : Nat) (w : World) (h1 : 1 ≤ shards) (h2 : shards ≤ 16) (h3 : 1 ≤ ids) (h4 : ids ≤ 16) : Calls Try.prog 45 #[.int .i64 shards, .int .i64 ids] w fun e w' =>
    e = .returned (.tuple #[.pointer (some ⟨w.heap.size, 0, none⟩), .bool true]) ∧ Below w.heap.size w w' ∧ ∃ R : RLay, R.p = w.heap.size ∧ RPool w' R ids ((shards * ids : Nat) : Int) (List.replicate shards (fresh ids ids)) ∧ ∀ b, R.own b → w.heap.size ≤ b := by
  obtain ⟨i0, hi0, hz0, hz1, hz2⟩ := info_parts info_slot
  have hsi : 0 ≤ (shards : Int) := by omega
  have hii : 0 ≤ (ids : Int) := by omega
  have b1 : (1 : Int) ≤ (shards : Int) := by omega
  have b2 : (shards : Int) ≤ 16 := by omega
  have b3 : (1 : Int) ≤ (ids : Int) := by omega
  have b4 : (ids : Int) ≤ 16 := by omega
  have h0 : ∀ W, W = w.alloc (.cells #[.slice none 0 0, .int .i64 0] 103) → NewR w W ids 0 (.slice none 0 0) := by
    rintro W rfl
    exact ⟨heap_alloc_new _ _, ⟨by simp [newL, slCells], .inl ⟨rfl, rfl⟩⟩, (fun g hg => by cases hg), (Below.refl _ _).alloc (Nat.le_refl _) _⟩
  have H0 := Lib.hid h0
  clear h0
  go_enter Try.func45, Try.ntmps45
  go_wp2_with fail
  go_loopw [7] (fun x wr => ∃ (k : Nat) (v : Value), k ≤ shards ∧ x = .int .i64 k ∧ Hid (NewR w wr ids (k * ids) v)) (fun x _ => shards - (intOf x).toNat)
  case atStart => exact ⟨0, _, Nat.zero_le _, rfl, Lib.hid (by rw [Nat.zero_mul]; exact H0.out _ rfl)⟩
  case round =>
    obtain ⟨k, v, hk, rfl, hh⟩ := hrel
    obtain ⟨wo, rfl⟩ : ∃ wo : World, wo = wr := ⟨_, rfl⟩
    have hkI : 0 ≤ (k : Int) := Int.natCast_nonneg k
    by_cases hlt : k < shards
    · go_wp2_with fail
      go_loopw [8] (fun x wr => ∃ (i : Nat) (v : Value), i ≤ ids ∧ x = .int .i64 i ∧ Hid (NewR w wr ids (k * ids + i) v)) (fun x _ => ids - (intOf x).toNat)
      case atStart => exact ⟨0, v, Nat.zero_le _, rfl, hh⟩
      case round =>
        clear hh
        obtain ⟨i, v, hi, rfl, hh⟩ := hrel
        obtain ⟨wi, rfl⟩ : ∃ wi : World, wi = wr := ⟨_, rfl⟩
        have hiI : 0 ≤ (i : Int) := Int.natCast_nonneg i
        by_cases hil : i < ids
        · obtain ⟨c0, c1, fp, bp, hne⟩ := hh.out.facts
          have hap := fun (W w4 : World) (g off cap : Nat) => NewR.app (W := W) (w4 := w4) (g := g) (off := off) (cap := cap) hh.out rfl hil
          have hn : k * ids + i ≤ 256 := by
            have : k * ids ≤ 15 * 16 := Nat.mul_le_mul (by omega) h4
            omega
          generalize hn0 : k * ids + i = n at *
          have HN := Lib.hid hn0
          clear hn0
          have HAP := Lib.hid hap
          have HNE := Lib.hid hne
          obtain ⟨y0, y1, y2, y3⟩ := lts bp
          clear hap hne
          go_wp2_with fail
          go_region_law ((refine step_append_sl _ (by rfl) (.tmp 39) (.tmp 47) 101 (by rfl) 105 i0 _ 6 48 Try.underlying101 hi0 hz0 hz1 hz2 rfl (by omega) _ n (slCells (newL ids n)) (by rfl) (hh.out.later (by repeat' (first | (with_reducible exact Below.refl _ _) | (with_reducible assumption) | (with_reducible refine below_drewN ?_ _) | (with_reducible refine below_more _ _ _ ?_ ?_) | (with_reducible refine Below.alloc ?_ ?_ _) | (with_reducible refine Below.drew ?_) | (with_reducible refine Below.setCell ?_ ?_ _) | go_size))).sl ⟨_, 0, none⟩ 1 1 [.int .i64 k, .int .i64 i, .int .i64 0, .int .i64 0, .int .i64 n, .bool false] (by rfl) (by rfl) (by intro j u hj; rcases j with _ | _ | _ | _ | _ | _ | j <;> simp at hj <;> subst hj <;> simp [Addr.add, go_sem]) (by simp [Value.oneCell']) (by omega) (by unfold maxLen; omega) (by omega) ?_; intro g off cap w4 hs4 ht4 ho4; obtain ⟨k0, k1, k2, k3⟩ := NewR.after hh.out (by repeat' (first | (with_reducible exact Below.refl _ _) | (with_reducible assumption) | (with_reducible refine below_drewN ?_ _) | (with_reducible refine below_more _ _ _ ?_ ?_) | (with_reducible refine Below.alloc ?_ ?_ _) | (with_reducible refine Below.drew ?_) | (with_reducible refine Below.setCell ?_ ?_ _) | go_size)) ht4))
          all_goals
            go_wp2_with fail
            go_roundw
            case rel => exact ⟨i + 1, _, hil, by go_num, by rw [show k * ids + (i + 1) = n + 1 by have := HN.out; omega]; exact Lib.hid ((HAP.out _ _ _ _ _ (by repeat' (first | (with_reducible exact Below.refl _ _) | (with_reducible assumption) | (with_reducible refine below_drewN ?_ _) | (with_reducible refine below_more _ _ _ ?_ ?_) | (with_reducible refine Below.alloc ?_ ?_ _) | (with_reducible refine Below.drew ?_) | (with_reducible refine Below.setCell ?_ ?_ _) | go_size)) hs4 ht4 ho4).later (by repeat' (first | (with_reducible exact Below.refl _ _) | (with_reducible assumption) | (with_reducible refine below_drewN ?_ _) | (with_reducible refine below_more _ _ _ ?_ ?_) | (with_reducible refine Below.alloc ?_ ?_ _) | (with_reducible refine Below.drew ?_) | (with_reducible refine Below.setCell ?_ ?_ _) | go_size)))⟩
            case measure => simp [intOf]; omega
        · obtain rfl : i = ids := by omega
          go_wp2_with fail
          go_roundw
          case rel => exact ⟨k + 1, v, hlt, by go_num, by rw [Nat.add_mul, Nat.one_mul]; exact hh⟩
          case measure => simp [intOf]; omega
    · obtain rfl : k = shards := by omega
      have hdone := hh.out.done h1 h2 h3 h4
      have HD := Lib.hid hdone
      have HB := Lib.hid hh.out.hb
      clear hdone
      go_wp2_with fail
      go_ret2
      exact ⟨rfl, HB.out, HD.out⟩

theorem rnew_bad (n ids : Int) (w : World) (h : n < 1 ∨ 16 < n ∨ ids < 1 ∨ 16 < ids) : Calls Try.prog 45 #[.int .i64 n, .int .i64 ids] w fun e w' => e = .returned (.tuple #[.pointer none, .bool false]) ∧ w = w' := by
  by_cases h1 : n < 1
  · clear h
    go_enter Try.func45, Try.ntmps45
    go_wp2
    go_ret2
    exact ⟨rfl, rfl⟩
  · by_cases h2 : 16 < n
    · clear h
      go_enter Try.func45, Try.ntmps45
      go_wp2
      go_ret2
      exact ⟨rfl, rfl⟩
    · by_cases h3 : ids < 1
      · clear h
        go_enter Try.func45, Try.ntmps45
        go_wp2
        go_ret2
        exact ⟨rfl, rfl⟩
      · have h4 : 16 < ids := by omega
        clear h
        go_enter Try.func45, Try.ntmps45
        go_wp2
        go_ret2
        exact ⟨rfl, rfl⟩
end Go.Proofs.Ytjkbenghgbigdaa
