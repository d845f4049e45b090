/-
  Chapter 16: the document's example (awake). No condition.
-/
import Derived.Test.YtbghjklnlhoklaaDkW
import Derived.Test.YtbghjklnlhoklaaDkN
namespace Go.Proofs.Ytbghjklnlhoklaa
open Go.RowKit

def awc : Cfg := ⟨1, 1, 256, 0, 0, 2, 9⟩
def am0 : Cm := ⟨1, 0, 0, 0, ⟨0, 0, 0, 1, 0, 0, 0, 0, 0, 0, 0⟩, 0⟩
def am1 : Cm := ⟨2, 0, 0, 0, ⟨0, 0, 0, 0, 0, 0, 0, 0, 0, 0, 0⟩, 0⟩
def am2 : Cm := ⟨4, 0, 0, 0, ⟨0, 0, 0, 0, 0, 0, 0, 0, 0, 0, 0⟩, 2⟩
def awD0 : Dk := ⟨[⟨[⟨0, 0, false⟩, ⟨0, 0, false⟩], [0, 1]⟩], [], 0, false⟩
def awD1 : Dk := ⟨[⟨[⟨0, 8, false⟩, ⟨0, 0, false⟩], [0, 1]⟩], [], 0, false⟩
def awD2 : Dk := ⟨[⟨[⟨0, 8, true⟩, ⟨0, 0, false⟩], [1]⟩], [am0], 0, false⟩
def awD3 : Dk := ⟨[⟨[⟨0, 8, true⟩, ⟨0, 0, false⟩], [1]⟩], [am0, am1], 0, false⟩
def awD4 : Dk := ⟨[⟨[⟨0, 8, true⟩, ⟨0, 0, false⟩], [1]⟩], [], 1, true⟩
def awD5 : Dk := ⟨[⟨[⟨1, 8, false⟩, ⟨0, 0, false⟩], [1, 0]⟩], [], 1, false⟩
theorem awok : CfgOk awc := by constructor <;> decide
theorem awd0 : newD awc = awD0 := by kernel_rfl
theorem awd1 : lookF awc awD0 am0 = (am0, true, 0) := by kernel_rfl
theorem awd2 : reservedF awD0 0 0 = (0, awD1) := by kernel_rfl
theorem awd3 : admitF awc awD1 am0 = (0, awD2) := by kernel_rfl
theorem awd4 : admitF awc awD2 am1 = (0, awD3) := by kernel_rfl
theorem awd5 : lookF awc awD3 am2 = (zeroCm, false, 10) := by kernel_rfl
theorem awd6 : beginF awD3 = ((1, [am0, am1], 0), awD4) := by kernel_rfl
theorem awd7 : closeF awD4 [⟨0, 0, 0⟩] = ((1, 0), awD5) := by kernel_rfl
theorem results_cm1 {fn : Func} {a : Tmp} {tmps : Array Value} {W : World} {ad : Addr} {v : Value} (h : fn.results = #[.cell a 37]) (ha : tmps.getD a undef = .pointer (some ad)) (hl : (ldM ad).run Try.prog W = .ok v W) : (results fn tmps).run Try.prog W = .ok v W := by
  unfold results
  rw [h]
  simp only [List.mapM_toArray, List.mapM_cons, List.mapM_nil, ha, loadVar_ldM]
  simp [asAddr, hl, go_sem]
attribute [local go_sem ↓] loadVar_ldM storeVar_stM
theorem spawn_any (x y : Int) (w : World) : Calls Try.prog 47 #[.int .i64 x, .int .i64 y] w fun e w' => e = .returned (.agg #[.int .i64 1, .int .i64 0, .int .i64 0, .int .i64 0, .int .i64 0, .int .i64 0, .int .i64 0, .int .i64 1, .int .i64 x, .int .i64 y, .int .i64 0, .int .i64 0, .int .i64 0, .int .i64 0, .int .i64 0, .int .i64 0]) ∧ Below w.heap.size w w' := by
  obtain ⟨w5, hs, hm⟩ := new_cmO w ⟨1, 0, 0, 0, ⟨0, 0, 0, 1, x, y, 0, 0, 0, 0, 0⟩, 0⟩
  have hs' : (stM ⟨w.heap.size, 0, none⟩ (.agg #[.int .i64 1, .int .i64 0, .int .i64 0, .int .i64 0, .int .i64 0, .int .i64 0, .int .i64 0, .int .i64 1, .int .i64 x, .int .i64 y, .int .i64 0, .int .i64 0, .int .i64 0, .int .i64 0, .int .i64 0, .int .i64 0])).run Try.prog (w.alloc (.cells #[.int .i64 0, .int .i64 0, .int .i64 0, .int .i64 0, .int .i64 0, .int .i64 0, .int .i64 0, .int .i64 0, .int .i64 0, .int .i64 0, .int .i64 0, .int .i64 0, .int .i64 0, .int .i64 0, .int .i64 0, .int .i64 0] 37)) = .ok () w5 := hs
  have hbx := (((Own.nil w).made hm)).box
  have HB : Hid (Below w.heap.size w w5) := Lib.hid (by obtain ⟨_, _, h, _⟩ := hm; exact h)
  have HBX := Lib.hid hbx.1
  clear hs hm hbx
  go_enter Try.func47, Try.ntmps47
  go_wp2_with fail
  exact bodyPost_ret (results_cm1 Try.results47 rfl (ldM_of ⟨1, 0, 0, 0, ⟨0, 0, 0, 1, x, y, 0, 0, 0, 0, 0⟩, 0⟩ fun j v hj => by rw [Nat.zero_add, HBX.out, List.getElem?_toArray]; exact hj)) rfl ⟨rfl, HB.out⟩
/-- Close, of names in a box beside the desk. -/
theorem close_b {w0 W : World} {F : Ob} {p n : Nat} {c : Cfg} {D : Dk} {s i g : Int} (h : Own w0 W ((deskO p c D).and ((boxO n #[.int .i64 s, .int .i64 i, .int .i64 g] 33).and F))) :
    Calls Try.prog 17 #[.pointer (some ⟨p, 0, none⟩), .slice (some ⟨n, 0, none⟩) 1 1] W fun e w' => e = .returned (.tuple #[.int .i64 (closeF D [⟨s, i, g⟩]).1.1, .int .i64 (closeF D [⟨s, i, g⟩]).1.2]) ∧ Own w0 w' ((deskO p c (closeF D [⟨s, i, g⟩]).2).and ((boxO n #[.int .i64 s, .int .i64 i, .int .i64 g] 33).and F)) := by
  have hbx := h.swap.box
  have hv : RIn nidL W (.slice (some ⟨n, 0, none⟩) 1 1) [⟨s, i, g⟩] := ⟨_, 1, rfl, by simp [maxLen], (fun h => by cases h), Nat.le_refl _, fun _ => ⟨n, 0, rfl, hbx.2.2.1, fun t u hu => by
    rw [Nat.zero_add, hbx.1 t]
    rw [show cellsR nidL [⟨s, i, g⟩] = [.int .i64 s, .int .i64 i, .int .i64 g] from rfl] at hu
    rw [List.getElem?_toArray]; exact hu⟩⟩
  have hna : ∀ a, (deskO p c D).holds W a → (∀ x, a x → x ≠ n) → Calls Try.prog 17 #[.pointer (some ⟨p, 0, none⟩), .slice (some ⟨n, 0, none⟩) 1 1] W fun e w' => e = .returned (.tuple #[.int .i64 (closeF D [⟨s, i, g⟩]).1.1, .int .i64 (closeF D [⟨s, i, g⟩]).1.2]) ∧ Gone a W w' (deskO p c (closeF D [⟨s, i, g⟩]).2) := by
    rintro a ⟨d, hp, hd, ha⟩ hn
    subst hp
    unfold closeF
    cases hop : D.op with
    | false =>
      rw [if_pos rfl]
      exact (close_shut W d c D hd _ hop ⟨_, _, _, rfl⟩).mono fun _ _ ⟨h1, h2⟩ => ⟨h1, (DStp.of_grown hd h2).gone ha⟩
    | true =>
      rw [if_neg (by simp)]
      exact (close_ok W d c D hd _ [⟨s, i, g⟩] hop hv (fun _ g' hg e => by cases hg; exact hn n ((ha n).2 (.inl e)) rfl) (by simp)).mono fun _ _ ⟨h1, h2⟩ => ⟨h1, h2.gone ha⟩
  have h' := h
  obtain ⟨o, ⟨a, b, h1, ⟨bx, f, ⟨q1, q2⟩, q3, q4, q5⟩, h3, h4⟩, h5, h6⟩ := h
  refine (hna a h1 fun x hx e => h3 x hx (by subst e; exact (q5 x).2 (.inl ((q2 x).2 rfl)))).mono fun e w' ⟨hr, hg⟩ => ⟨hr, ?_⟩
  have hgo : Gone o W w' ((deskO p c (closeF D [⟨s, i, g⟩]).2).and ((boxO n #[.int .i64 s, .int .i64 i, .int .i64 g] 33).and F)) := by
    obtain ⟨b', g1, g2, g3⟩ := hg
    have hB : ((boxO n #[.int .i64 s, .int .i64 i, .int .i64 g] 33).and F).holds W b := ⟨bx, f, ⟨q1, q2⟩, q3, q4, q5⟩
    have hlt := ((boxO n #[.int .i64 s, .int .i64 i, .int .i64 g] 33).and F).lt W b hB
    refine ⟨fun x => b' x ∨ b x, ⟨b', b, g1, Ob.keep _ _ _ _ hB fun x hx => g2.block x (hlt x hx) fun e => h3 x e hx, fun x hx hf => ?_, fun _ => Iff.rfl⟩, g2.mono fun x _ hx => (h4 x).2 (.inl hx), fun x hx => ?_⟩
    · rcases g3 x hx with e | e
      · exact h3 x e hf
      · have := hlt x hf; omega
    · rcases hx with e | e
      · exact (g3 x e).imp (fun h => (h4 x).2 (.inl h)) id
      · exact .inl ((h4 x).2 (.inr e))
  obtain ⟨b2, r1, r2, r3⟩ := hgo
  refine ⟨b2, r1, fun x hx => ?_, h6.trans (r2.below h6.size h5)⟩
  rcases r3 x hx with e | e
  · exact h5 x e
  · exact Nat.le_trans h6.size e

set_option maxRecDepth 100000 in
set_option maxHeartbeats 4000000 in
theorem awake16 (w : World) : Calls Try.prog 20 #[] w fun e w' => e = .returned (.bool true) ∧ Below w.heap.size w w' := by
  have HNEW := Lib.hid (fun W => dnew_ok 1 1 256 0 0 2 9 W awok)
  go_enter Try.func20, Try.ntmps20
  go_wp2_with fail
  refine (HNEW.out _).mono ?_
  rintro e w1 ⟨p, rfl, hm1⟩
  have H1 : Hid (Own w w1 ((deskO p awc awD0).and .nil)) := Lib.hid (by rw [← awd0]; exact (Own.nil w).made hm1)
  clear hm1 HNEW
  have HL1 : Hid (∀ W, Own w W ((deskO p awc awD0).and .nil) → Calls Try.prog 13 #[.pointer (some ⟨p, 0, none⟩), .agg #[.int .i64 1, .int .i64 0, .int .i64 0, .int .i64 0, .int .i64 0, .int .i64 0, .int .i64 0, .int .i64 1, .int .i64 0, .int .i64 0, .int .i64 0, .int .i64 0, .int .i64 0, .int .i64 0, .int .i64 0, .int .i64 0]] W fun e w' => e = .returned (.tuple #[.agg #[.int .i64 1, .int .i64 0, .int .i64 0, .int .i64 0, .int .i64 0, .int .i64 0, .int .i64 0, .int .i64 1, .int .i64 0, .int .i64 0, .int .i64 0, .int .i64 0, .int .i64 0, .int .i64 0, .int .i64 0, .int .i64 0], .bool true, .int .i64 0]) ∧ Below W.heap.size W w') := Lib.hid (fun W hW => by have := look_o hW awok am0; rw [awd1] at this; exact this)
  go_wp2_with fail
  refine (spawn_any 0 0 _).mono ?_
  rintro e w2 ⟨rfl, hb2⟩
  go_wp2_with fail
  refine (HL1.out _ (H1.out.grow hb2)).mono ?_
  rintro e w3 ⟨rfl, hb3⟩
  obtain ⟨w4, hs4, hm4⟩ := new_cmO w3 am0
  have H4 := Lib.hid (((H1.out.grow hb2).grow hb3).made hm4).swap
  have hbx := H4.out.swap.box
  have hst4 : (stM ⟨w3.heap.size, 0, none⟩ (.agg #[.int .i64 1, .int .i64 0, .int .i64 0, .int .i64 0, .int .i64 0, .int .i64 0, .int .i64 0, .int .i64 1, .int .i64 0, .int .i64 0, .int .i64 0, .int .i64 0, .int .i64 0, .int .i64 0, .int .i64 0, .int .i64 0])).run Try.prog (w3.alloc (.cells #[.int .i64 0, .int .i64 0, .int .i64 0, .int .i64 0, .int .i64 0, .int .i64 0, .int .i64 0, .int .i64 0, .int .i64 0, .int .i64 0, .int .i64 0, .int .i64 0, .int .i64 0, .int .i64 0, .int .i64 0, .int .i64 0] 37)) = .ok () w4 := hs4
  have x4 := hbx.1 4; have x5 := hbx.1 5; have x6 := hbx.1 6
  simp [am0, cmC, bunL] at x4 x5 x6
  clear hbx hs4 hm4 hb2 hb3 H1 HL1
  have HR : Hid (∀ W E, Own w W ((deskO p awc awD0).and E) → Calls Try.prog 14 #[.pointer (some ⟨p, 0, none⟩), .int .i64 0, .int .i64 0] W fun e w' => e = .returned (.int .i64 0) ∧ Own w w' ((deskO p awc awD1).and E)) := Lib.hid (fun W E hW => by have := reserve_o hW 0 0; rw [awd2] at this; exact this)
  have HA0 : Hid (∀ W E, Own w W ((deskO p awc awD1).and E) → Calls Try.prog 15 #[.pointer (some ⟨p, 0, none⟩), .agg #[.int .i64 1, .int .i64 0, .int .i64 0, .int .i64 0, .int .i64 0, .int .i64 0, .int .i64 0, .int .i64 1, .int .i64 0, .int .i64 0, .int .i64 0, .int .i64 0, .int .i64 0, .int .i64 0, .int .i64 0, .int .i64 0]] W fun e w' => e = .returned (.int .i64 0) ∧ Own w w' ((deskO p awc awD2).and E)) := Lib.hid (fun W E hW => by have := admit_o hW awok am0; rw [awd3] at this; exact this)
  have HA1 : Hid (∀ W E, Own w W ((deskO p awc awD2).and E) → Calls Try.prog 15 #[.pointer (some ⟨p, 0, none⟩), .agg #[.int .i64 2, .int .i64 0, .int .i64 0, .int .i64 0, .int .i64 0, .int .i64 0, .int .i64 0, .int .i64 0, .int .i64 0, .int .i64 0, .int .i64 0, .int .i64 0, .int .i64 0, .int .i64 0, .int .i64 0, .int .i64 0]] W fun e w' => e = .returned (.int .i64 0) ∧ Own w w' ((deskO p awc awD3).and E)) := Lib.hid (fun W E hW => by have := admit_o hW awok am1; rw [awd4] at this; exact this)
  have HL2 : Hid (∀ W E, Own w W ((deskO p awc awD3).and E) → Calls Try.prog 13 #[.pointer (some ⟨p, 0, none⟩), .agg #[.int .i64 4, .int .i64 0, .int .i64 0, .int .i64 0, .int .i64 0, .int .i64 0, .int .i64 0, .int .i64 0, .int .i64 0, .int .i64 0, .int .i64 0, .int .i64 0, .int .i64 0, .int .i64 0, .int .i64 0, .int .i64 2]] W fun e w' => e = .returned (.tuple #[.agg #[.int .i64 0, .int .i64 0, .int .i64 0, .int .i64 0, .int .i64 0, .int .i64 0, .int .i64 0, .int .i64 0, .int .i64 0, .int .i64 0, .int .i64 0, .int .i64 0, .int .i64 0, .int .i64 0, .int .i64 0, .int .i64 0], .bool false, .int .i64 10]) ∧ Below W.heap.size W w') := Lib.hid (fun W E hW => by have := look_o hW awok am2; rw [awd5] at this; exact this)
  have HOP : Hid (∀ W E, Own w W ((deskO p awc awD3).and E) → Calls Try.prog 16 #[.pointer (some ⟨p, 0, none⟩)] W fun e w' => ∃ v, e = .returned (.tuple #[.int .i64 1, v, .int .i64 0]) ∧ Own w w' (((deskO p awc awD4).and (slO 37 16 v 2 (cellsR cmC [am0, am1]))).and E)) := Lib.hid (fun W E hW => by have := open_o hW; rw [awd6] at this; exact this)
  have HCL : Hid (∀ W E n, Own w W ((deskO p awc awD4).and ((boxO n #[.int .i64 0, .int .i64 0, .int .i64 0] 33).and E)) → Calls Try.prog 17 #[.pointer (some ⟨p, 0, none⟩), .slice (some ⟨n, 0, none⟩) 1 1] W fun e w' => e = .returned (.tuple #[.int .i64 1, .int .i64 0]) ∧ Own w w' ((deskO p awc awD5).and ((boxO n #[.int .i64 0, .int .i64 0, .int .i64 0] 33).and E))) := Lib.hid (fun W E n hW => by have := close_b hW; rw [awd7] at this; exact this)
  have hz : idEq 0 0 0 0 0 0 = true := rfl
  go_wp2_with fail
  refine (HR.out _ _ H4.out).mono ?_
  rintro e w5 ⟨rfl, h5⟩
  have H5 := Lib.hid h5
  have hbx := h5.swap.box
  have hld5 : (ldM ⟨w3.heap.size, 0, none⟩).run Try.prog w5 = .ok (.agg #[.int .i64 1, .int .i64 0, .int .i64 0, .int .i64 0, .int .i64 0, .int .i64 0, .int .i64 0, .int .i64 1, .int .i64 0, .int .i64 0, .int .i64 0, .int .i64 0, .int .i64 0, .int .i64 0, .int .i64 0, .int .i64 0]) w5 := ldM_of am0 fun j v hj => by rw [Nat.zero_add, hbx.1, List.getElem?_toArray]; exact hj
  clear h5 hbx H4 hst4 x4 x5 x6
  go_wp2_with fail
  refine (HA0.out _ _ H5.out).mono ?_
  rintro e w6 ⟨rfl, h6⟩
  have H6 := Lib.hid h6
  clear h6 H5 hld5
  go_wp2_with fail
  refine (HA1.out _ _ H6.out).mono ?_
  rintro e w7 ⟨rfl, h7⟩
  have H7 := Lib.hid h7
  clear h7 H6
  go_wp2_with fail
  refine (HL2.out _ _ H7.out).mono ?_
  rintro e w8 ⟨rfl, hb8⟩
  obtain ⟨w9, hs9, hm9⟩ := new_cmO w8 zeroCm
  have H9 := Lib.hid (((H7.out.grow hb8).made hm9).swap)
  have hst9 : (stM ⟨w8.heap.size, 0, none⟩ (.agg #[.int .i64 0, .int .i64 0, .int .i64 0, .int .i64 0, .int .i64 0, .int .i64 0, .int .i64 0, .int .i64 0, .int .i64 0, .int .i64 0, .int .i64 0, .int .i64 0, .int .i64 0, .int .i64 0, .int .i64 0, .int .i64 0])).run Try.prog (w8.alloc (.cells #[.int .i64 0, .int .i64 0, .int .i64 0, .int .i64 0, .int .i64 0, .int .i64 0, .int .i64 0, .int .i64 0, .int .i64 0, .int .i64 0, .int .i64 0, .int .i64 0, .int .i64 0, .int .i64 0, .int .i64 0, .int .i64 0] 37)) = .ok () w9 := hs9
  clear hs9 hm9 hb8 H7
  go_wp2_with fail
  refine (HOP.out _ _ H9.out).mono ?_
  rintro e w10 ⟨v, rfl, h10⟩
  obtain ⟨pv, cv, rfl⟩ := sl_frm h10.assoc.swap.sl.1
  have H10 := Lib.hid h10.assoc
  clear h10 H9 hst9
  go_upto_region 9 with fail
  go_wp2_with fail
  refine (HCL.out _ _ _ ((H10.out.made (made_box w10 _ _)).swap)).mono ?_
  rintro e w11 ⟨rfl, h11⟩
  have H11 := Lib.hid h11.below
  clear h11
  go_wp2_with fail
  go_ret
  exact ⟨rfl, H11.out⟩
end Go.Proofs.Ytbghjklnlhoklaa
