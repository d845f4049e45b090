/-
  Chapter texts WoK: what the claim reaches of them. Conditions stand at each theorem.
-/
import Derived.Test.YtoimjjhopljdmaaGreatQ39
namespace Go.Proofs.YtoimjjhopljdmaaGreat
open Go.RowKit

def wo17 : Cfg := ⟨1, 1, 256, 0, 0, 2, 2⟩
def wm17 : Cm := ⟨1, 0, 0, 0, ⟨0, 0, 0, 17, 3, 4, 0, 0, 0, 0, 2⟩, 0⟩
def wo17x1 : Wo := ⟨⟨[⟨[⟨0, 8, true⟩, ⟨0, 0, false⟩], [1]⟩], [wm17], 0, false⟩, []⟩
def wo17x2 : Wo := ⟨⟨[⟨[⟨0, 8, true⟩, ⟨0, 0, false⟩], [1]⟩], [], 1, false⟩, [⟨0, 0, 0, 17, 3, 4, 0, 0, 0, 0, 1⟩]⟩
def wo17x3 : Wo := ⟨⟨[⟨[⟨1, 8, false⟩, ⟨0, 0, false⟩], [1, 0]⟩], [], 2, false⟩, []⟩
theorem wo17ok : CfgOk wo17 := by constructor <;> decide
theorem wo17e1 : callW wo17 (newW wo17) wm17 = ((wm17, 0), wo17x1) := by kernel_rfl
theorem wo17e2 : stepW wo17 wo17x1 = (([], 0), wo17x2) := by kernel_rfl
theorem wo17e3 : stepW wo17 wo17x2 = (([⟨0, 0, 0⟩], 0), wo17x3) := by kernel_rfl
theorem wo17d1 : deadW wo17 wo17x1 = [] := by kernel_rfl
theorem wo17d2 : deadW wo17 wo17x2 = [⟨0, 0, 0⟩] := by kernel_rfl
theorem check_fit {b : Bun} (h : rightB b = true) (hi : idOk b.s b.i b.g = true ∨ idZero b.s b.i b.g = true) : BFit b := by
  have hw : ∀ {hh : Bool} {n lo hi : Int}, withinB hh n lo hi = true → -1073741824 ≤ lo → hi ≤ 1073741824 → -1073741824 ≤ n ∧ n ≤ 1073741824 := by
    intro hh n lo hi h h1 h2
    unfold withinB at h
    cases hh with
    | true => simp [inR] at h; omega
    | false => simp at h; omega
  unfold rightB at h
  simp only [Bool.and_eq_true] at h
  obtain ⟨⟨⟨⟨⟨⟨⟨h0, h1⟩, h2⟩, h3⟩, h4⟩, h5⟩, h6⟩, h7⟩ := h
  have e1 := hw h1 (by omega) (by omega)
  have e2 := hw h2 (by omega) (by omega)
  have e3 := hw h3 (by omega) (by omega)
  have e4 := hw h4 (by omega) (by omega)
  have e5 := hw h5 (by omega) (by omega)
  have e6 := hw h6 (by omega) (by omega)
  have e7 := hw h7 (by omega) (by omega)
  have e0 : 0 ≤ b.m ∧ b.m ≤ 31 := by simpa [inR] using h0
  have ei : (0 ≤ b.s ∧ b.s ≤ 15) ∧ (0 ≤ b.i ∧ b.i ≤ 15) ∧ (0 ≤ b.g ∧ b.g ≤ 1048575) := by
    rcases hi with hi | hi
    · simp [idOk, inR] at hi; omega
    · simp [idZero, idEq] at hi; omega
  unfold BFit
  omega
theorem good_fit {b : Bun} (h : checkB b = true) : BFit b := by
  unfold checkB at h
  simp only [Bool.and_eq_true] at h
  exact check_fit h.1.1 (.inl h.2)
theorem cmd_fit {m : Cm} (h : cmdB m = true) : CmFit m := by
  have hz : ∀ {b : Bun}, bunZero b = true → BFit b := by
    intro b hb
    unfold bunZero bunEq at hb
    have := of_decide_eq_true hb
    rw [this]
    unfold BFit; simp
  unfold cmdB at h
  split at h
  · simp only [Bool.and_eq_true] at h
    exact ⟨good_fit h.2, by have := h.1.2; simp at this; omega⟩
  split at h
  · simp only [Bool.and_eq_true] at h
    exact ⟨check_fit h.1.2 (.inr h.1.1.1.2), by have := h.1.1.1.1; simp at this; omega⟩
  split at h
  · simp only [Bool.and_eq_true] at h
    refine ⟨hz h.1.2, ?_⟩
    have h2 := h.1.1
    unfold someB at h2
    simp at h2
    omega
  split at h
  · simp only [Bool.and_eq_true] at h
    exact ⟨hz h.1.2, by have := h.1.1; simp at this; omega⟩
  · cases h
attribute [local go_sem ↓] loadVar_ldM storeVar_stM
set_option maxRecDepth 100000 in
set_option maxHeartbeats 4000000 in
theorem awake17 (w : World) : Calls Tryz.prog 11 #[] w fun e w' => e = .returned (.bool true) ∧ Below w.heap.size w w' := by
  have HNEW := Lib.hid (fun W => wnew_ok 1 1 256 0 0 2 2 W wo17ok)
  go_enter Tryz.func11, Tryz.ntmps11
  go_wp2_with fail
  refine (HNEW.out _).mono ?_
  rintro e w1 ⟨p, rfl, hm1⟩
  have H1 : Hid (Own w w1 ((worldO p wo17 (newW wo17)).and .nil)) := Lib.hid ((Own.nil w).made hm1)
  clear hm1 HNEW
  have HC : Hid (∀ W E, Own w W ((worldO p wo17 (newW wo17)).and E) → Calls Tryz.prog 19 #[.pointer (some ⟨p, 0, none⟩), .agg #[.int .i64 1, .int .i64 0, .int .i64 0, .int .i64 0, .int .i64 0, .int .i64 0, .int .i64 0, .int .i64 17, .int .i64 3, .int .i64 4, .int .i64 0, .int .i64 0, .int .i64 0, .int .i64 0, .int .i64 2, .int .i64 0]] W fun e w' => e = .returned (.tuple #[.agg #[.int .i64 1, .int .i64 0, .int .i64 0, .int .i64 0, .int .i64 0, .int .i64 0, .int .i64 0, .int .i64 17, .int .i64 3, .int .i64 4, .int .i64 0, .int .i64 0, .int .i64 0, .int .i64 0, .int .i64 2, .int .i64 0], .int .i64 0]) ∧ Own w w' ((worldO p wo17 wo17x1).and E)) := Lib.hid (fun W E hW => by have := wcall_o hW wo17ok wm17; rw [wo17e1] at this; exact this)
  have HS1 : Hid (∀ W E, Own w W ((worldO p wo17 wo17x1).and E) → Calls Tryz.prog 25 #[.pointer (some ⟨p, 0, none⟩)] W fun e w' => ∃ v, e = .returned (.tuple #[v, .int .i64 0]) ∧ Own w w' ((worldO p wo17 wo17x2).and ((slO 30 3 v 0 []).and E))) := Lib.hid (fun W E hW => by
    have := wstep_ok hW wo17ok rfl (fun b hb => by cases hb) (fun m hm => by obtain rfl : m = wm17 := by simpa [wo17x1] using hm
                                                                             exact cmd_fit (by decide)) (by decide) (by rw [wo17d1]; decide)
    rw [wo17e2, wo17d1] at this; exact this)
  have HS2 : Hid (∀ W E, Own w W ((worldO p wo17 wo17x2).and E) → Calls Tryz.prog 25 #[.pointer (some ⟨p, 0, none⟩)] W fun e w' => ∃ v, e = .returned (.tuple #[v, .int .i64 0]) ∧ Own w w' ((worldO p wo17 wo17x3).and ((slO 30 3 v 1 (cellsR nidL [⟨0, 0, 0⟩])).and E))) := Lib.hid (fun W E hW => by
    have := wstep_ok hW wo17ok rfl (fun b hb => by obtain rfl : b = ⟨0, 0, 0, 17, 3, 4, 0, 0, 0, 0, 1⟩ := by simpa [wo17x2] using hb
                                                   exact good_fit (by decide)) (fun m hm => by cases hm) (by decide) (by rw [wo17d2]; decide)
    rw [wo17e3, wo17d2] at this; exact this)
  have HL2 : Hid (∀ W E, Own w W ((worldO p wo17 wo17x2).and E) → Calls Tryz.prog 12 #[.pointer (some ⟨p, 0, none⟩)] W fun e w' => ∃ v, e = .returned v ∧ RNew bunL 32 11 W w' v [⟨0, 0, 0, 17, 3, 4, 0, 0, 0, 0, 1⟩]) := Lib.hid (fun W E hW => wlist_o hW (by decide))
  have HL3 : Hid (∀ W E, Own w W ((worldO p wo17 wo17x3).and E) → Calls Tryz.prog 12 #[.pointer (some ⟨p, 0, none⟩)] W fun e w' => ∃ v, e = .returned v ∧ RNew bunL 32 11 W w' v []) := Lib.hid (fun W E hW => wlist_o hW (by decide))
  have HT3 : Hid (∀ W E, Own w W ((worldO p wo17 wo17x3).and E) → Calls Tryz.prog 36 #[.pointer (some ⟨p, 0, none⟩)] W fun e w' => e = .returned (.int .i64 2) ∧ Below W.heap.size W w') := Lib.hid (fun W E hW => wt_o hW)
  go_wp2_with fail
  refine (HC.out _ _ H1.out).mono ?_
  rintro e w2 ⟨rfl, h2⟩
  obtain ⟨w3, hs3, hm3⟩ := new_cmO w2 wm17
  have H3 := Lib.hid (h2.made hm3).swap
  have hs3' : (stM ⟨w2.heap.size, 0, none⟩ (.agg #[.int .i64 1, .int .i64 0, .int .i64 0, .int .i64 0, .int .i64 0, .int .i64 0, .int .i64 0, .int .i64 17, .int .i64 3, .int .i64 4, .int .i64 0, .int .i64 0, .int .i64 0, .int .i64 0, .int .i64 2, .int .i64 0])).run Tryz.prog (w2.alloc (.cells #[.int .i64 0, .int .i64 0, .int .i64 0, .int .i64 0, .int .i64 0, .int .i64 0, .int .i64 0, .int .i64 0, .int .i64 0, .int .i64 0, .int .i64 0, .int .i64 0, .int .i64 0, .int .i64 0, .int .i64 0, .int .i64 0] 34)) = .ok () w3 := hs3
  clear hs3 hm3 h2 HC H1
  go_wp2_with fail
  refine (HS1.out _ _ H3.out).mono ?_
  rintro e w4 ⟨v4, rfl, h4⟩
  obtain ⟨p4, c4, rfl⟩ := sl_frm h4.swap.sl.1
  have H4 := Lib.hid h4.drop
  clear h4 H3 hs3' HS1
  go_wp2_with fail
  refine (HL2.out _ _ H4.out).mono ?_
  rintro e w5 ⟨v5, rfl, hn5⟩
  obtain ⟨p5, c5, rfl⟩ := sl_frm hn5.1
  have H5 := Lib.hid ((H4.out.made hn5.made).swap)
  clear hn5 H4 HL2
  go_wp2_with fail
  refine (HS2.out _ _ H5.out).mono ?_
  rintro e w6 ⟨v6, rfl, h6⟩
  obtain ⟨p6, c6, rfl⟩ := sl_frm h6.swap.sl.1
  have H6 := Lib.hid h6.drop
  have hbx := h6.drop.third.box.1
  have y4 := hbx 4
  have y5 := hbx 5
  have y6 := hbx 6
  simp [wm17, cmC, bunL] at y4 y5 y6
  obtain ⟨blk, off, cap, hve, hb, hcx⟩ := (RIn.of_sl (enc := bunL) (l := [⟨0, 0, 0, 17, 3, 4, 0, 0, 0, 0, 1⟩]) h6.drop.swap.sl.1).cells (fun _ => rfl) (k := 0) rfl
  simp only [Value.slice.injEq] at hve
  obtain ⟨rfl, _, rfl⟩ := hve
  have y10 := hcx 10 _ rfl
  simp at y10
  have lb := h6.drop.third.box.2.2.1
  obtain ⟨z0, z1, z2⟩ := ltz lb
  obtain ⟨z3, z4, z5⟩ := ltz hb
  clear h6 hbx hcx HS2 H5
  have hz : idEq 0 0 0 0 0 0 = true := rfl
  go_wp2_with (first | (go_at_call 12; refine (HL3.out _ _ (H6.out.grow (by repeat' (first | (with_reducible exact Below.refl _ _) | (with_reducible assumption) | (with_reducible refine below_drewN ?_ _) | (with_reducible refine below_more _ _ _ ?_ ?_) | (with_reducible refine Below.alloc ?_ ?_ _) | (with_reducible refine Below.drew ?_) | (with_reducible refine Below.setCell ?_ ?_ _) | go_size)))).mono ?_; rintro e w' ⟨v7, rfl, hn⟩; obtain ⟨p7, c7, rfl⟩ := sl_frm hn.1; obtain ⟨d7, os7, rfl⟩ := more_of hn.2.1; clear hn) | (go_at_call 36; refine (HT3.out _ _ (H6.out.grow (by repeat' (first | (with_reducible exact Below.refl _ _) | (with_reducible assumption) | (with_reducible refine below_drewN ?_ _) | (with_reducible refine below_more _ _ _ ?_ ?_) | (with_reducible refine Below.alloc ?_ ?_ _) | (with_reducible refine Below.drew ?_) | (with_reducible refine Below.setCell ?_ ?_ _) | go_size)))).mono ?_; rintro e w' ⟨rfl, hb⟩; obtain ⟨d8, os8, rfl⟩ := more_of hb; clear hb))
  go_ret
  exact ⟨rfl, H6.out.below.trans (Below.mono (B := w6.heap.size) (by repeat' (first | (with_reducible exact Below.refl _ _) | (with_reducible assumption) | (with_reducible refine below_drewN ?_ _) | (with_reducible refine below_more _ _ _ ?_ ?_) | (with_reducible refine Below.alloc ?_ ?_ _) | (with_reducible refine Below.drew ?_) | (with_reducible refine Below.setCell ?_ ?_ _) | go_size)) H6.out.below.size)⟩
end Go.Proofs.YtoimjjhopljdmaaGreat
