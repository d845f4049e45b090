/-
  Chapter 16's laws: Alike: both desks stand the same. Condition: the world may be.
-/
import Derived.Test.YtbghjklnlhoklaaMk20
import Derived.Test.YtbghjklnlhoklaaCmL
import Derived.Test.YtbghjklnlhoklaaMk21
namespace Go.Proofs.Ytbghjklnlhoklaa
open Go.RowKit

theorem Own.slset {w0 W : World} {F : Ob} {v : Value} {n : Nat} {l : List Cm} (h : Own w0 W ((slO 37 16 v n (cellsR cmC l)).and F)) (hn : n = l.length) {k : Nat} (hk : k < l.length) (b : Cm) :
    ∃ blk off cap W', v = .slice (some ⟨blk, off, none⟩) l.length cap ∧ (stM ⟨blk, off + k * 16, none⟩ (.agg (cmC b).toArray)).run Try.prog W = .ok () W' ∧ Own w0 W' ((slO 37 16 v n (cellsR cmC (l.set k b))).and F) := by
  subst hn
  obtain ⟨hs, ho⟩ := h.sl
  have hr : RNew cmC 37 16 { W with heap := #[] } W v l := ⟨hs, ⟨rfl, rfl, rfl, Nat.zero_le _, fun k hk => by simp at hk⟩, fun g _ => Nat.zero_le _⟩
  have hs' := hs
  obtain ⟨_, ⟨_, h0⟩ | ⟨blk, off, cap, cur, rfl, _⟩⟩ := hs'
  · omega
  · obtain ⟨h1, h2⟩ := RNew.store cmC_len cmC_one hr hk b
    refine ⟨blk, off, cap, _, rfl, stM_of b h1, ?_⟩
    have h3 := h2.1
    rw [List.length_set] at h3
    exact h.app h3 (setCells_turned blk (cmC b) (off + k * 16) W) (.inl rfl)
attribute [local go_sem ↓] loadVar_ldM storeVar_stM
set_option maxRecDepth 100000 in
set_option maxHeartbeats 4000000 in
theorem alike16_any (w0 w : World) (F : Ob) (p q R : Nat) (c : Cfg) (kk : Int) (D : Dk) (h : Own w0 w ((deskO p c D).and ((rdeskO q R c kk D).and F))) (ho : CfgOk c) :
    Calls Try.prog 30 #[.pointer (some ⟨p, 0, none⟩), .pointer (some ⟨q, 0, none⟩)] w fun e w' => e = .returned (.bool true) ∧ Own w0 w' ((deskO p c D).and ((rdeskO q R c kk D).and F)) := by
  have HP := Lib.hid h
  have HTK := Lib.hid (fun W E (hW : Own w0 W ((deskO p c D).and E)) => tick_o hW)
  have HWT := Lib.hid (fun W E (hW : Own w0 W ((deskO p c D).and E)) => waiting_o hW ho)
  have HAL := Lib.hid (fun W E (hW : Own w0 W ((deskO p c D).and E)) => alive_o hW)
  have HLI := Lib.hid (fun W E (hW : Own w0 W ((rdeskO q R c kk D).and E)) => rlist_o hW)
  have hq64 : D.q.length ≤ 64 := by have := h.dbounds.1; have := ho.q1; omega
  clear h ho
  generalize (listF D.M).map toNid = li at *
  go_enter Try.func30, Try.ntmps30
  go_wp2_with fail
  refine (HTK.out _ _ HP.out).mono ?_
  rintro e w1 ⟨rfl, hb1⟩
  go_wp2_with fail
  refine (HWT.out _ _ (HP.out.grow hb1)).mono ?_
  rintro e w2 ⟨v1, rfl, hn1⟩
  have H2 := Lib.hid (((HP.out.grow hb1).made hn1.made).new3)
  obtain ⟨p1, cap1, rfl⟩ := sl_frm hn1.1
  clear hn1 hb1
  obtain ⟨c7, ⟨v8, c8, hs8⟩, c9, c10, hlt⟩ := H2.out.snd.rcells
  have HS8 := Lib.hid hs8
  obtain ⟨p8, cap8, rfl⟩ := sl_frm hs8
  obtain ⟨z0, z1, z2⟩ := ltz hlt
  have HSC := Lib.hid (fun W (hW : Below w2.heap.size w2 W) => sameCm_self _ _ D.q W (RIn.of_sl ((H2.out.grow hW).third.sl.1)) (RIn.of_sl (HS8.out.keep fun g hg => hW.block g (sl_lt HS8.out hg))))
  clear hs8
  generalize hT : D.t = T at *
  generalize hO : D.op = op at *
  go_wp2_with fail
  go_region_held3 (fun W => (w2).heap.size ≤ W.heap.size ∧ ∀ b o, b < (w2).heap.size → W.cell? ⟨b, o, none⟩ = (w2).cell? ⟨b, o, none⟩) (with_reducible (repeat (first | assumption | exact s_refl _ | exact s_id _ | refine s_more _ _ ?_ | refine s_alloc _ ?_ | refine s_drew ?_))) (first | (go_at_call 19; refine (HSC.out _ (by repeat' (first | (with_reducible exact Below.refl _ _) | (with_reducible assumption) | (with_reducible refine below_drewN ?_ _) | (with_reducible refine below_more _ _ _ ?_ ?_) | (with_reducible refine Below.alloc ?_ ?_ _) | (with_reducible refine Below.drew ?_) | (with_reducible refine Below.setCell ?_ ?_ _) | go_size))).mono ?_; rintro e w' ⟨rfl, hb⟩; obtain ⟨d1, os1, rfl⟩ := more_of hb; clear hb) | (go_at_call 26; refine (HAL.out _ _ (H2.out.grow (by repeat' (first | (with_reducible exact Below.refl _ _) | (with_reducible assumption) | (with_reducible refine below_drewN ?_ _) | (with_reducible refine below_more _ _ _ ?_ ?_) | (with_reducible refine Below.alloc ?_ ?_ _) | (with_reducible refine Below.drew ?_) | (with_reducible refine Below.setCell ?_ ?_ _) | go_size)))).mono ?_; rintro e w' ⟨va, rfl, ha⟩; obtain ⟨d2, os2, rfl⟩ := more_of ha.2.1; have HA := Lib.hid ha.rin; clear ha) | (go_at_call 62; refine (HLI.out _ _ (H2.out.swap.grow (by repeat' (first | (with_reducible exact Below.refl _ _) | (with_reducible assumption) | (with_reducible refine below_drewN ?_ _) | (with_reducible refine below_more _ _ _ ?_ ?_) | (with_reducible refine Below.alloc ?_ ?_ _) | (with_reducible refine Below.drew ?_) | (with_reducible refine Below.setCell ?_ ?_ _) | go_size)))).mono ?_; rintro e w' ⟨vb, rfl, hb⟩; obtain ⟨d3, os3, rfl⟩ := more_of hb.2.1; have HB := Lib.hid hb.rin; clear hb) | (go_at_call 25; refine (sameNid_self _ _ li _ (HA.out.keep (by repeat' (first | (with_reducible exact Below.refl _ _) | (with_reducible assumption) | (with_reducible refine below_drewN ?_ _) | (with_reducible refine below_more _ _ _ ?_ ?_) | (with_reducible refine Below.alloc ?_ ?_ _) | (with_reducible refine Below.drew ?_) | (with_reducible refine Below.setCell ?_ ?_ _) | go_size))) (HB.out.keep (by repeat' (first | (with_reducible exact Below.refl _ _) | (with_reducible assumption) | (with_reducible refine below_drewN ?_ _) | (with_reducible refine below_more _ _ _ ?_ ?_) | (with_reducible refine Below.alloc ?_ ?_ _) | (with_reducible refine Below.drew ?_) | (with_reducible refine Below.setCell ?_ ?_ _) | go_size)))).mono ?_; rintro e w' ⟨rfl, hb⟩; obtain ⟨d4, os4, rfl⟩ := more_of hb; clear hb))
  go_wp2_with fail
  go_loopw [8] (fun x wr => ∃ (k : Nat) (l' : List Cm), x = .int .i64 k ∧ k ≤ D.q.length ∧ l'.length = D.q.length ∧ Hid (Own w0 wr ((deskO p c D).and ((rdeskO q R c kk D).and ((slO 37 16 (.slice p1 D.q.length cap1) D.q.length (cellsR cmC l')).and F))))) (fun x _ => D.q.length - (intOf x).toNat)
  case atStart => exact ⟨0, D.q, rfl, Nat.zero_le _, rfl, Lib.hid (H2.out.grow (by repeat' (first | (with_reducible exact Below.refl _ _) | (with_reducible assumption) | (with_reducible refine below_drewN ?_ _) | (with_reducible refine below_more _ _ _ ?_ ?_) | (with_reducible refine Below.alloc ?_ ?_ _) | (with_reducible refine Below.drew ?_) | (with_reducible refine Below.setCell ?_ ?_ _) | go_size)))⟩
  case round =>
    clear HSC c7 c8 c9 c10 hlt z0 z1 z2 H2 HS8 HP HTK
    obtain ⟨k, l', rfl, hk, hll, hh⟩ := hrel
    obtain ⟨wo, rfl⟩ : ∃ wo : World, wo = wr := ⟨_, rfl⟩
    have hI : 0 ≤ (k : Int) := Int.natCast_nonneg k
    by_cases hlt : k < D.q.length
    · have t1 : (k : Int) < (D.q.length : Int) := by omega
      obtain ⟨blk, off, cap, W', hv, hst, hO2⟩ := hh.out.third.slset hll.symm (k := k) (by omega) ⟨(-1), 0, 0, 0, ⟨0, 0, 0, 0, 0, 0, 0, 0, 0, 0, 0⟩, 0⟩
      simp only [Value.slice.injEq] at hv
      obtain ⟨rfl, _, rfl⟩ := hv
      have hst' : (stM ⟨blk, off + k * 16, none⟩ (.agg #[.int .i64 (-1), .int .i64 0, .int .i64 0, .int .i64 0, .int .i64 0, .int .i64 0, .int .i64 0, .int .i64 0, .int .i64 0, .int .i64 0, .int .i64 0, .int .i64 0, .int .i64 0, .int .i64 0, .int .i64 0, .int .i64 0])).run Try.prog wo = .ok () W' := hst
      have HO2 := Lib.hid hO2.new3
      have HL := Lib.hid (show (l'.set k ⟨(-1), 0, 0, 0, ⟨0, 0, 0, 0, 0, 0, 0, 0, 0, 0, 0⟩, 0⟩).length = D.q.length from by rw [List.length_set]; exact hll)
      clear hst hO2 hh hll
      go_wp2_with fail
      go_roundw
      case rel => exact ⟨k + 1, _, by go_num, hlt, HL.out, HO2⟩
      case measure => simp [intOf]; omega
    · obtain rfl : k = D.q.length := by omega
      obtain ⟨c7, ⟨v8, c8, hs8⟩, c9, c10, hlt2⟩ := hh.out.snd.rcells
      have HS8 := Lib.hid hs8
      obtain ⟨p8, cap8, rfl⟩ := sl_frm hs8
      obtain ⟨z0, z1, z2⟩ := ltz hlt2
      clear hs8 hll c7 c9 c10 hlt hk
      go_wp2_with fail
      go_region_held3 (fun W => (wo).heap.size ≤ W.heap.size ∧ ∀ b o, b < (wo).heap.size → W.cell? ⟨b, o, none⟩ = (wo).cell? ⟨b, o, none⟩) (with_reducible (repeat (first | assumption | exact s_refl _ | exact s_id _ | refine s_more _ _ ?_ | refine s_alloc _ ?_ | refine s_drew ?_))) (first | (go_at_call 18; refine (HWT.out _ _ (hh.out.grow (by repeat' (first | (with_reducible exact Below.refl _ _) | (with_reducible assumption) | (with_reducible refine below_drewN ?_ _) | (with_reducible refine below_more _ _ _ ?_ ?_) | (with_reducible refine Below.alloc ?_ ?_ _) | (with_reducible refine Below.drew ?_) | (with_reducible refine Below.setCell ?_ ?_ _) | go_size)))).mono ?_; rintro e w' ⟨va, rfl, ha⟩; obtain ⟨d2, os2, rfl⟩ := more_of ha.2.1; have HA := Lib.hid ha.rin; clear ha) | (go_at_call 19; refine (sameCm_self _ _ D.q _ (HA.out.keep (by repeat' (first | (with_reducible exact Below.refl _ _) | (with_reducible assumption) | (with_reducible refine below_drewN ?_ _) | (with_reducible refine below_more _ _ _ ?_ ?_) | (with_reducible refine Below.alloc ?_ ?_ _) | (with_reducible refine Below.drew ?_) | (with_reducible refine Below.setCell ?_ ?_ _) | go_size))) (RIn.of_sl (HS8.out.keep fun g hg => Below.block (B := wo.heap.size) (by repeat' (first | (with_reducible exact Below.refl _ _) | (with_reducible assumption) | (with_reducible refine below_drewN ?_ _) | (with_reducible refine below_more _ _ _ ?_ ?_) | (with_reducible refine Below.alloc ?_ ?_ _) | (with_reducible refine Below.drew ?_) | (with_reducible refine Below.setCell ?_ ?_ _) | go_size)) g (sl_lt HS8.out hg)))).mono ?_; rintro e w' ⟨rfl, hb⟩; obtain ⟨d4, os4, rfl⟩ := more_of hb; clear hb))
      go_wp2_with fail
      go_ret
      exact ⟨rfl, hh.out.drop3.grow (by repeat' (first | (with_reducible exact Below.refl _ _) | (with_reducible assumption) | (with_reducible refine below_drewN ?_ _) | (with_reducible refine below_more _ _ _ ?_ ?_) | (with_reducible refine Below.alloc ?_ ?_ _) | (with_reducible refine Below.drew ?_) | (with_reducible refine Below.setCell ?_ ?_ _) | go_size))⟩
end Go.Proofs.Ytbghjklnlhoklaa
