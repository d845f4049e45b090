/-
  Chapter 16's laws: Step: a deed is done to both desks alike. Condition: the world may be.
-/
import Derived.Test.YtbghjklnlhoklaaMk20
import Derived.Test.YtbghjklnlhoklaaCmL
namespace Go.Proofs.Ytbghjklnlhoklaa
open Go.RowKit

def lookedF (c : Cfg) (D : Dk) (m : Cm) : Dk := if (lookF c D m).2.1 = true then (reservedF D (lookF c D m).1.b.s (lookF c D m).1.b.i).2 else D
def stepF (c : Cfg) (D : Dk) (kd : Int) (m : Cm) (l : List Nid) : Dk :=
  if kd = 0 ∨ kd = 1 ∨ kd = 2 then (if (lookF c D m).2.2 ≠ 0 then lookedF c D m else (admitF c (lookedF c D m) (lookF c D m).1).2)
  else if kd = 3 then (admitF c D m).2
  else if kd = 4 then (reservedF D m.s m.i).2
  else if kd = 5 ∨ kd = 6 then (beginF D).2
  else if kd = 7 ∨ kd = 8 then (closeF D l).2
  else if kd = 9 then (lapsedF D).2
  else D

theorem rmore40 {w0 W : World} {A F : Ob} {q R : Nat} {c : Cfg} {kk : Int} {D : Dk} (h : Own w0 W (A.and ((rdeskO q R c kk D).and F))) : Own w0 W (A.and ((rdeskO q R c (kk + 40) D).and F)) :=
  h.inner fun _ ⟨a, b, ⟨r, h1, h2, h3, h4⟩, h5⟩ => ⟨a, b, ⟨r, h1, h2, h3.more (by omega), h4⟩, h5⟩
section
variable (w0 w : World) (F : Ob) (p q R : Nat) (c : Cfg) (kk : Int) (D : Dk)
set_option maxRecDepth 100000 in
set_option maxHeartbeats 4000000 in
theorem step_other (h : Own w0 w ((deskO p c D).and ((rdeskO q R c kk D).and F))) (kd k s i g es ei eg m x y vx vy hp pw lf mask : Int) (pv : Option Addr) (cv : Nat) (l : List Nid)  (hk : ¬ (0 ≤ kd ∧ kd ≤ 9)) :
    Calls Try.prog 29 #[.pointer (some ⟨p, 0, none⟩), .pointer (some ⟨q, 0, none⟩), .agg #[.int .i64 kd, .int .i64 k, .int .i64 s, .int .i64 i, .int .i64 g, .int .i64 es, .int .i64 ei, .int .i64 eg, .int .i64 m, .int .i64 x, .int .i64 y, .int .i64 vx, .int .i64 vy, .int .i64 hp, .int .i64 pw, .int .i64 lf, .int .i64 mask, .slice pv l.length cv]] w fun e w' => e = .returned (.bool true) ∧ Own w0 w' ((deskO p c (stepF c D kd ⟨k, s, i, g, ⟨es, ei, eg, m, x, y, vx, vy, hp, pw, lf⟩, mask⟩ l)).and ((rdeskO q R c (kk + 40) (stepF c D kd ⟨k, s, i, g, ⟨es, ei, eg, m, x, y, vx, vy, hp, pw, lf⟩, mask⟩ l)).and F)) := by
  have hb := h.made (made_box w #[.int .i64 kd, .int .i64 k, .int .i64 s, .int .i64 i, .int .i64 g, .int .i64 es, .int .i64 ei, .int .i64 eg, .int .i64 m, .int .i64 x, .int .i64 y, .int .i64 vx, .int .i64 vy, .int .i64 hp, .int .i64 pw, .int .i64 lf, .int .i64 mask, .slice pv l.length cv] 40)
  have hb3 := hb.new3
  have HP := Lib.hid hb3
  have HMORE := Lib.hid (fun W E (hW : Own w0 W ((deskO p c E).and ((rdeskO q R c kk E).and F))) => rmore40 hW)
  clear h hb hb3
  have HN : stepF c D kd ⟨k, s, i, g, ⟨es, ei, eg, m, x, y, vx, vy, hp, pw, lf⟩, mask⟩ l = D := by
    unfold stepF
    rw [if_neg (by omega), if_neg (by omega), if_neg (by omega), if_neg (by omega), if_neg (by omega), if_neg (by omega)]
  rw [HN]
  have k0 : (kd == 0) = false := (by rw [beq_eq_false_iff_ne]; omega); have k1 : (kd == 1) = false := (by rw [beq_eq_false_iff_ne]; omega); have k2 : (kd == 2) = false := (by rw [beq_eq_false_iff_ne]; omega); have k3 : (kd == 3) = false := (by rw [beq_eq_false_iff_ne]; omega); have k4 : (kd == 4) = false := (by rw [beq_eq_false_iff_ne]; omega); have k5 : (kd == 5) = false := (by rw [beq_eq_false_iff_ne]; omega); have k6 : (kd == 6) = false := (by rw [beq_eq_false_iff_ne]; omega); have k7 : (kd == 7) = false := (by rw [beq_eq_false_iff_ne]; omega); have k8 : (kd == 8) = false := (by rw [beq_eq_false_iff_ne]; omega); have k9 : (kd == 9) = false := (by rw [beq_eq_false_iff_ne]; omega)
  have HF := Lib.hid (HMORE.out _ D HP.out.drop3)
  clear HN hk HMORE HP
  go_enter Try.func29, Try.ntmps29
  go_wp2_with fail
  go_ret
  exact ⟨rfl, HF.out.grow (by repeat' (first | (with_reducible exact Below.refl _ _) | (with_reducible assumption) | (with_reducible refine below_drewN ?_ _) | (with_reducible refine below_more _ _ _ ?_ ?_) | (with_reducible refine Below.alloc ?_ ?_ _) | (with_reducible refine Below.drew ?_) | (with_reducible refine Below.setCell ?_ ?_ _) | go_size))⟩

set_option maxRecDepth 100000 in
set_option maxHeartbeats 4000000 in
theorem step_lapse (h : Own w0 w ((deskO p c D).and ((rdeskO q R c kk D).and F))) (kd k s i g es ei eg m x y vx vy hp pw lf mask : Int) (pv : Option Addr) (cv : Nat) (l : List Nid)  (hk : kd = 9) :
    Calls Try.prog 29 #[.pointer (some ⟨p, 0, none⟩), .pointer (some ⟨q, 0, none⟩), .agg #[.int .i64 kd, .int .i64 k, .int .i64 s, .int .i64 i, .int .i64 g, .int .i64 es, .int .i64 ei, .int .i64 eg, .int .i64 m, .int .i64 x, .int .i64 y, .int .i64 vx, .int .i64 vy, .int .i64 hp, .int .i64 pw, .int .i64 lf, .int .i64 mask, .slice pv l.length cv]] w fun e w' => e = .returned (.bool true) ∧ Own w0 w' ((deskO p c (stepF c D kd ⟨k, s, i, g, ⟨es, ei, eg, m, x, y, vx, vy, hp, pw, lf⟩, mask⟩ l)).and ((rdeskO q R c (kk + 40) (stepF c D kd ⟨k, s, i, g, ⟨es, ei, eg, m, x, y, vx, vy, hp, pw, lf⟩, mask⟩ l)).and F)) := by
  have hb := h.made (made_box w #[.int .i64 kd, .int .i64 k, .int .i64 s, .int .i64 i, .int .i64 g, .int .i64 es, .int .i64 ei, .int .i64 eg, .int .i64 m, .int .i64 x, .int .i64 y, .int .i64 vx, .int .i64 vy, .int .i64 hp, .int .i64 pw, .int .i64 lf, .int .i64 mask, .slice pv l.length cv] 40)
  have hb3 := hb.new3
  have HP := Lib.hid hb3
  have HMORE := Lib.hid (fun W E (hW : Own w0 W ((deskO p c E).and ((rdeskO q R c kk E).and F))) => rmore40 hW)
  clear h hb hb3
  subst hk
  have HN : stepF c D 9 ⟨k, s, i, g, ⟨es, ei, eg, m, x, y, vx, vy, hp, pw, lf⟩, mask⟩ l = (lapsedF D).2 := rfl
  rw [HN]
  have HL := Lib.hid (fun W (hW : Own w0 W ((deskO p c D).and ((rdeskO q R c kk D).and ((boxO w.heap.size #[.int .i64 9, .int .i64 k, .int .i64 s, .int .i64 i, .int .i64 g, .int .i64 es, .int .i64 ei, .int .i64 eg, .int .i64 m, .int .i64 x, .int .i64 y, .int .i64 vx, .int .i64 vy, .int .i64 hp, .int .i64 pw, .int .i64 lf, .int .i64 mask, .slice pv l.length cv] 40).and F)))) => lapse_o hW)
  have HR := Lib.hid (fun W E (hW : Own w0 W ((rdeskO q R c kk D).and E)) => rlapse_o hW)
  have c7 := HP.out.snd.rcells.1
  clear HN
  generalize lapsedF D = lp at *
  obtain ⟨n, E⟩ := lp
  simp only at HL HR ⊢
  go_enter Try.func29, Try.ntmps29
  go_wp2_with fail
  go_region_held3 (fun W => W.cell? ⟨q, 7, none⟩ = some (.pointer (some ⟨R, 0, none⟩))) (first | assumption | (simp [go_sem]; done)) (first | (go_at_call 32; refine (HL.out _ (HP.out.grow (by repeat' (first | (with_reducible exact Below.refl _ _) | (with_reducible assumption) | (with_reducible refine below_drewN ?_ _) | (with_reducible refine below_more _ _ _ ?_ ?_) | (with_reducible refine Below.alloc ?_ ?_ _) | (with_reducible refine Below.drew ?_) | (with_reducible refine Below.setCell ?_ ?_ _) | go_size)))).mono ?_; rintro e w2 ⟨rfl, h2⟩; have H2 := Lib.hid h2; have c72 := h2.snd.rcells.1; clear h2) | (go_at_call 61; refine (HR.out _ _ (H2.out.swap.grow (by repeat' (first | (with_reducible exact Below.refl _ _) | (with_reducible assumption) | (with_reducible refine below_drewN ?_ _) | (with_reducible refine below_more _ _ _ ?_ ?_) | (with_reducible refine Below.alloc ?_ ?_ _) | (with_reducible refine Below.drew ?_) | (with_reducible refine Below.setCell ?_ ?_ _) | go_size)))).mono ?_; rintro e w3 ⟨rfl, h3⟩; have H3 := Lib.hid h3; have c73 := h3.rcells.1; clear h3))
  go_wp2_with fail
  go_ret
  exact ⟨by simp, (HMORE.out _ _ H3.out.swap.drop3).grow (by repeat' (first | (with_reducible exact Below.refl _ _) | (with_reducible assumption) | (with_reducible refine below_drewN ?_ _) | (with_reducible refine below_more _ _ _ ?_ ?_) | (with_reducible refine Below.alloc ?_ ?_ _) | (with_reducible refine Below.drew ?_) | (with_reducible refine Below.setCell ?_ ?_ _) | go_size))⟩



set_option maxRecDepth 100000 in
set_option maxHeartbeats 4000000 in
theorem step_admit (h : Own w0 w ((deskO p c D).and ((rdeskO q R c kk D).and F))) (kd k s i g es ei eg m x y vx vy hp pw lf mask : Int) (pv : Option Addr) (cv : Nat) (l : List Nid) (ho : CfgOk c) (him : (-9223372036854775808 ≤ m ∧ m ≤ 9223372036854775807)) (hk : kd = 3) :
    Calls Try.prog 29 #[.pointer (some ⟨p, 0, none⟩), .pointer (some ⟨q, 0, none⟩), .agg #[.int .i64 kd, .int .i64 k, .int .i64 s, .int .i64 i, .int .i64 g, .int .i64 es, .int .i64 ei, .int .i64 eg, .int .i64 m, .int .i64 x, .int .i64 y, .int .i64 vx, .int .i64 vy, .int .i64 hp, .int .i64 pw, .int .i64 lf, .int .i64 mask, .slice pv l.length cv]] w fun e w' => e = .returned (.bool true) ∧ Own w0 w' ((deskO p c (stepF c D kd ⟨k, s, i, g, ⟨es, ei, eg, m, x, y, vx, vy, hp, pw, lf⟩, mask⟩ l)).and ((rdeskO q R c (kk + 40) (stepF c D kd ⟨k, s, i, g, ⟨es, ei, eg, m, x, y, vx, vy, hp, pw, lf⟩, mask⟩ l)).and F)) := by
  have hb := h.made (made_box w #[.int .i64 kd, .int .i64 k, .int .i64 s, .int .i64 i, .int .i64 g, .int .i64 es, .int .i64 ei, .int .i64 eg, .int .i64 m, .int .i64 x, .int .i64 y, .int .i64 vx, .int .i64 vy, .int .i64 hp, .int .i64 pw, .int .i64 lf, .int .i64 mask, .slice pv l.length cv] 40)
  have hb3 := hb.new3
  have HP := Lib.hid hb3
  have HMORE := Lib.hid (fun W E (hW : Own w0 W ((deskO p c E).and ((rdeskO q R c kk E).and F))) => rmore40 hW)
  clear h hb hb3
  subst hk
  have HN : stepF c D 3 ⟨k, s, i, g, ⟨es, ei, eg, m, x, y, vx, vy, hp, pw, lf⟩, mask⟩ l = (admitF c D ⟨k, s, i, g, ⟨es, ei, eg, m, x, y, vx, vy, hp, pw, lf⟩, mask⟩).2 := rfl
  rw [HN]
  have HL : Hid (∀ W, Own w0 W ((deskO p c D).and ((rdeskO q R c kk D).and ((boxO w.heap.size #[.int .i64 3, .int .i64 k, .int .i64 s, .int .i64 i, .int .i64 g, .int .i64 es, .int .i64 ei, .int .i64 eg, .int .i64 m, .int .i64 x, .int .i64 y, .int .i64 vx, .int .i64 vy, .int .i64 hp, .int .i64 pw, .int .i64 lf, .int .i64 mask, .slice pv l.length cv] 40).and F))) → Calls Try.prog 15 #[.pointer (some ⟨p, 0, none⟩), .agg #[.int .i64 k, .int .i64 s, .int .i64 i, .int .i64 g, .int .i64 es, .int .i64 ei, .int .i64 eg, .int .i64 m, .int .i64 x, .int .i64 y, .int .i64 vx, .int .i64 vy, .int .i64 hp, .int .i64 pw, .int .i64 lf, .int .i64 mask]] W fun e w' => e = .returned (.int .i64 (admitF c D ⟨k, s, i, g, ⟨es, ei, eg, m, x, y, vx, vy, hp, pw, lf⟩, mask⟩).1) ∧ Own w0 w' ((deskO p c (admitF c D ⟨k, s, i, g, ⟨es, ei, eg, m, x, y, vx, vy, hp, pw, lf⟩, mask⟩).2).and ((rdeskO q R c kk D).and ((boxO w.heap.size #[.int .i64 3, .int .i64 k, .int .i64 s, .int .i64 i, .int .i64 g, .int .i64 es, .int .i64 ei, .int .i64 eg, .int .i64 m, .int .i64 x, .int .i64 y, .int .i64 vx, .int .i64 vy, .int .i64 hp, .int .i64 pw, .int .i64 lf, .int .i64 mask, .slice pv l.length cv] 40).and F)))) := Lib.hid (fun W hW => admit_o hW ho ⟨k, s, i, g, ⟨es, ei, eg, m, x, y, vx, vy, hp, pw, lf⟩, mask⟩)
  have HR : Hid (∀ W E, Own w0 W ((rdeskO q R c kk D).and E) → Calls Try.prog 58 #[.pointer (some ⟨q, 0, none⟩), .agg #[.int .i64 k, .int .i64 s, .int .i64 i, .int .i64 g, .int .i64 es, .int .i64 ei, .int .i64 eg, .int .i64 m, .int .i64 x, .int .i64 y, .int .i64 vx, .int .i64 vy, .int .i64 hp, .int .i64 pw, .int .i64 lf, .int .i64 mask]] W fun e w' => e = .returned (.int .i64 (admitF c D ⟨k, s, i, g, ⟨es, ei, eg, m, x, y, vx, vy, hp, pw, lf⟩, mask⟩).1) ∧ Own w0 w' ((rdeskO q R c kk (admitF c D ⟨k, s, i, g, ⟨es, ei, eg, m, x, y, vx, vy, hp, pw, lf⟩, mask⟩).2).and E)) := Lib.hid (fun W E hW => radmit_o hW ho ⟨k, s, i, g, ⟨es, ei, eg, m, x, y, vx, vy, hp, pw, lf⟩, mask⟩ him)
  have c7 := HP.out.snd.rcells.1
  have x5 := HP.out.third.box.1
  clear HN
  generalize admitF c D ⟨k, s, i, g, ⟨es, ei, eg, m, x, y, vx, vy, hp, pw, lf⟩, mask⟩ = lp at *
  obtain ⟨n, E⟩ := lp
  simp only at HL HR ⊢
  go_enter Try.func29, Try.ntmps29
  go_wp2_with fail
  go_region_held3 (fun W => W.cell? ⟨q, 7, none⟩ = some (.pointer (some ⟨R, 0, none⟩)) ∧ ∀ j, W.cell? ⟨w.heap.size, j, none⟩ = (#[.int .i64 3, .int .i64 k, .int .i64 s, .int .i64 i, .int .i64 g, .int .i64 es, .int .i64 ei, .int .i64 eg, .int .i64 m, .int .i64 x, .int .i64 y, .int .i64 vx, .int .i64 vy, .int .i64 hp, .int .i64 pw, .int .i64 lf, .int .i64 mask, .slice pv l.length cv] : Array Value)[j]?) (first | (exact And.intro (by assumption) (by assumption)) | (exact And.intro (by simp [go_sem]; done) (by simp [go_sem]; done)) | (refine And.intro ?_ ?_ <;> first | assumption | (simp [go_sem, *]; done))) (first | (go_at_call 15; refine (HL.out _ (HP.out.grow (by repeat' (first | (with_reducible exact Below.refl _ _) | (with_reducible assumption) | (with_reducible refine below_drewN ?_ _) | (with_reducible refine below_more _ _ _ ?_ ?_) | (with_reducible refine Below.alloc ?_ ?_ _) | (with_reducible refine Below.drew ?_) | (with_reducible refine Below.setCell ?_ ?_ _) | go_size)))).mono ?_; rintro e w2 ⟨rfl, h2⟩; have H2 := Lib.hid h2; have c72 := h2.snd.rcells.1; have x52 := h2.third.box.1; clear h2) | (go_at_call 58; refine (HR.out _ _ (H2.out.swap.grow (by repeat' (first | (with_reducible exact Below.refl _ _) | (with_reducible assumption) | (with_reducible refine below_drewN ?_ _) | (with_reducible refine below_more _ _ _ ?_ ?_) | (with_reducible refine Below.alloc ?_ ?_ _) | (with_reducible refine Below.drew ?_) | (with_reducible refine Below.setCell ?_ ?_ _) | go_size)))).mono ?_; rintro e w3 ⟨rfl, h3⟩; have H3 := Lib.hid h3; have c73 := h3.rcells.1; have x53 := h3.third.box.1; clear h3))
  go_wp2_with fail
  go_ret
  exact ⟨by simp, (HMORE.out _ _ H3.out.swap.drop3).grow (by repeat' (first | (with_reducible exact Below.refl _ _) | (with_reducible assumption) | (with_reducible refine below_drewN ?_ _) | (with_reducible refine below_more _ _ _ ?_ ?_) | (with_reducible refine Below.alloc ?_ ?_ _) | (with_reducible refine Below.drew ?_) | (with_reducible refine Below.setCell ?_ ?_ _) | go_size))⟩


set_option maxRecDepth 100000 in
set_option maxHeartbeats 4000000 in
theorem step_reserve (h : Own w0 w ((deskO p c D).and ((rdeskO q R c kk D).and F))) (kd k s i g es ei eg m x y vx vy hp pw lf mask : Int) (pv : Option Addr) (cv : Nat) (l : List Nid)  (hk : kd = 4) :
    Calls Try.prog 29 #[.pointer (some ⟨p, 0, none⟩), .pointer (some ⟨q, 0, none⟩), .agg #[.int .i64 kd, .int .i64 k, .int .i64 s, .int .i64 i, .int .i64 g, .int .i64 es, .int .i64 ei, .int .i64 eg, .int .i64 m, .int .i64 x, .int .i64 y, .int .i64 vx, .int .i64 vy, .int .i64 hp, .int .i64 pw, .int .i64 lf, .int .i64 mask, .slice pv l.length cv]] w fun e w' => e = .returned (.bool true) ∧ Own w0 w' ((deskO p c (stepF c D kd ⟨k, s, i, g, ⟨es, ei, eg, m, x, y, vx, vy, hp, pw, lf⟩, mask⟩ l)).and ((rdeskO q R c (kk + 40) (stepF c D kd ⟨k, s, i, g, ⟨es, ei, eg, m, x, y, vx, vy, hp, pw, lf⟩, mask⟩ l)).and F)) := by
  have hb := h.made (made_box w #[.int .i64 kd, .int .i64 k, .int .i64 s, .int .i64 i, .int .i64 g, .int .i64 es, .int .i64 ei, .int .i64 eg, .int .i64 m, .int .i64 x, .int .i64 y, .int .i64 vx, .int .i64 vy, .int .i64 hp, .int .i64 pw, .int .i64 lf, .int .i64 mask, .slice pv l.length cv] 40)
  have hb3 := hb.new3
  have HP := Lib.hid hb3
  have HMORE := Lib.hid (fun W E (hW : Own w0 W ((deskO p c E).and ((rdeskO q R c kk E).and F))) => rmore40 hW)
  clear h hb hb3
  subst hk
  have HN : stepF c D 4 ⟨k, s, i, g, ⟨es, ei, eg, m, x, y, vx, vy, hp, pw, lf⟩, mask⟩ l = (reservedF D s i).2 := rfl
  rw [HN]
  have HL : Hid (∀ W, Own w0 W ((deskO p c D).and ((rdeskO q R c kk D).and ((boxO w.heap.size #[.int .i64 4, .int .i64 k, .int .i64 s, .int .i64 i, .int .i64 g, .int .i64 es, .int .i64 ei, .int .i64 eg, .int .i64 m, .int .i64 x, .int .i64 y, .int .i64 vx, .int .i64 vy, .int .i64 hp, .int .i64 pw, .int .i64 lf, .int .i64 mask, .slice pv l.length cv] 40).and F))) → Calls Try.prog 14 #[.pointer (some ⟨p, 0, none⟩), .int .i64 s, .int .i64 i] W fun e w' => e = .returned (.int .i64 (reservedF D s i).1) ∧ Own w0 w' ((deskO p c (reservedF D s i).2).and ((rdeskO q R c kk D).and ((boxO w.heap.size #[.int .i64 4, .int .i64 k, .int .i64 s, .int .i64 i, .int .i64 g, .int .i64 es, .int .i64 ei, .int .i64 eg, .int .i64 m, .int .i64 x, .int .i64 y, .int .i64 vx, .int .i64 vy, .int .i64 hp, .int .i64 pw, .int .i64 lf, .int .i64 mask, .slice pv l.length cv] 40).and F)))) := Lib.hid (fun W hW => reserve_o hW s i)
  have HR : Hid (∀ W E, Own w0 W ((rdeskO q R c kk D).and E) → Calls Try.prog 57 #[.pointer (some ⟨R, 0, none⟩), .int .i64 s, .int .i64 i] W fun e w' => e = .returned (.int .i64 (reservedF D s i).1) ∧ Own w0 w' ((rdeskO q R c kk (reservedF D s i).2).and E)) := Lib.hid (fun W E hW => rreserve_o hW s i)
  have c7 := HP.out.snd.rcells.1
  have x5 := HP.out.third.box.1
  clear HN
  generalize reservedF D s i = lp at *
  obtain ⟨n, E⟩ := lp
  simp only at HL HR ⊢
  go_enter Try.func29, Try.ntmps29
  go_wp2_with fail
  go_region_held3 (fun W => W.cell? ⟨q, 7, none⟩ = some (.pointer (some ⟨R, 0, none⟩)) ∧ ∀ j, W.cell? ⟨w.heap.size, j, none⟩ = (#[.int .i64 4, .int .i64 k, .int .i64 s, .int .i64 i, .int .i64 g, .int .i64 es, .int .i64 ei, .int .i64 eg, .int .i64 m, .int .i64 x, .int .i64 y, .int .i64 vx, .int .i64 vy, .int .i64 hp, .int .i64 pw, .int .i64 lf, .int .i64 mask, .slice pv l.length cv] : Array Value)[j]?) (first | (exact And.intro (by assumption) (by assumption)) | (exact And.intro (by simp [go_sem]; done) (by simp [go_sem]; done)) | (refine And.intro ?_ ?_ <;> first | assumption | (simp [go_sem, *]; done))) (first | (go_at_call 14; refine (HL.out _ (HP.out.grow (by repeat' (first | (with_reducible exact Below.refl _ _) | (with_reducible assumption) | (with_reducible refine below_drewN ?_ _) | (with_reducible refine below_more _ _ _ ?_ ?_) | (with_reducible refine Below.alloc ?_ ?_ _) | (with_reducible refine Below.drew ?_) | (with_reducible refine Below.setCell ?_ ?_ _) | go_size)))).mono ?_; rintro e w2 ⟨rfl, h2⟩; have H2 := Lib.hid h2; have c72 := h2.snd.rcells.1; have x52 := h2.third.box.1; clear h2) | (go_at_call 57; refine (HR.out _ _ (H2.out.swap.grow (by repeat' (first | (with_reducible exact Below.refl _ _) | (with_reducible assumption) | (with_reducible refine below_drewN ?_ _) | (with_reducible refine below_more _ _ _ ?_ ?_) | (with_reducible refine Below.alloc ?_ ?_ _) | (with_reducible refine Below.drew ?_) | (with_reducible refine Below.setCell ?_ ?_ _) | go_size)))).mono ?_; rintro e w3 ⟨rfl, h3⟩; have H3 := Lib.hid h3; have c73 := h3.rcells.1; have x53 := h3.third.box.1; clear h3))
  go_wp2_with fail
  go_ret
  exact ⟨by simp, (HMORE.out _ _ H3.out.swap.drop3).grow (by repeat' (first | (with_reducible exact Below.refl _ _) | (with_reducible assumption) | (with_reducible refine below_drewN ?_ _) | (with_reducible refine below_more _ _ _ ?_ ?_) | (with_reducible refine Below.alloc ?_ ?_ _) | (with_reducible refine Below.drew ?_) | (with_reducible refine Below.setCell ?_ ?_ _) | go_size))⟩


set_option maxRecDepth 100000 in
set_option maxHeartbeats 4000000 in
theorem step_open (h : Own w0 w ((deskO p c D).and ((rdeskO q R c kk D).and F))) (kd k s i g es ei eg m x y vx vy hp pw lf mask : Int) (pv : Option Addr) (cv : Nat) (l : List Nid)  (hk : kd = 5 ∨ kd = 6) :
    Calls Try.prog 29 #[.pointer (some ⟨p, 0, none⟩), .pointer (some ⟨q, 0, none⟩), .agg #[.int .i64 kd, .int .i64 k, .int .i64 s, .int .i64 i, .int .i64 g, .int .i64 es, .int .i64 ei, .int .i64 eg, .int .i64 m, .int .i64 x, .int .i64 y, .int .i64 vx, .int .i64 vy, .int .i64 hp, .int .i64 pw, .int .i64 lf, .int .i64 mask, .slice pv l.length cv]] w fun e w' => e = .returned (.bool true) ∧ Own w0 w' ((deskO p c (stepF c D kd ⟨k, s, i, g, ⟨es, ei, eg, m, x, y, vx, vy, hp, pw, lf⟩, mask⟩ l)).and ((rdeskO q R c (kk + 40) (stepF c D kd ⟨k, s, i, g, ⟨es, ei, eg, m, x, y, vx, vy, hp, pw, lf⟩, mask⟩ l)).and F)) := by
  have hb := h.made (made_box w #[.int .i64 kd, .int .i64 k, .int .i64 s, .int .i64 i, .int .i64 g, .int .i64 es, .int .i64 ei, .int .i64 eg, .int .i64 m, .int .i64 x, .int .i64 y, .int .i64 vx, .int .i64 vy, .int .i64 hp, .int .i64 pw, .int .i64 lf, .int .i64 mask, .slice pv l.length cv] 40)
  have hb3 := hb.new3
  have HP := Lib.hid hb3
  have HMORE := Lib.hid (fun W E (hW : Own w0 W ((deskO p c E).and ((rdeskO q R c kk E).and F))) => rmore40 hW)
  clear h hb hb3
  rcases hk with rfl | rfl
  all_goals
    have HN : ∀ j : Int, j = 5 ∨ j = 6 → stepF c D j ⟨k, s, i, g, ⟨es, ei, eg, m, x, y, vx, vy, hp, pw, lf⟩, mask⟩ l = (beginF D).2 := by rintro j (rfl | rfl) <;> rfl
    rw [HN _ (by simp)]
    have hbd := HP.out.snd.bounds
    have HL := Lib.hid (fun W E (hW : Own w0 W ((deskO p c D).and E)) => open_o hW)
    have HR := Lib.hid (fun W E (hW : Own w0 W ((rdeskO q R c kk D).and E)) => rbegin_o hW)
    clear HN hbd
    generalize beginF D = lp at *
    obtain ⟨⟨n, ql, er⟩, E⟩ := lp
    simp only at HL HR ⊢
    go_enter Try.func29, Try.ntmps29
    go_wp2_with fail
    refine (HL.out _ _ (HP.out.grow (by repeat' (first | (with_reducible exact Below.refl _ _) | (with_reducible assumption) | (with_reducible refine below_drewN ?_ _) | (with_reducible refine below_more _ _ _ ?_ ?_) | (with_reducible refine Below.alloc ?_ ?_ _) | (with_reducible refine Below.drew ?_) | (with_reducible refine Below.setCell ?_ ?_ _) | go_size)))).mono ?_
    rintro e w2 ⟨v1, rfl, h2⟩
    have H2 := Lib.hid h2.assoc
    clear h2
    go_wp2_with fail
    refine (HR.out _ _ (H2.out.third.grow (by repeat' (first | (with_reducible exact Below.refl _ _) | (with_reducible assumption) | (with_reducible refine below_drewN ?_ _) | (with_reducible refine below_more _ _ _ ?_ ?_) | (with_reducible refine Below.alloc ?_ ?_ _) | (with_reducible refine Below.drew ?_) | (with_reducible refine Below.setCell ?_ ?_ _) | go_size)))).mono ?_
    rintro e w3 ⟨v2, rfl, h3⟩
    have H3 := Lib.hid h3.assoc
    clear h3
    have HSC := Lib.hid (fun W (hW : Below w3.heap.size w3 W) => sameCm_self v1 v2 ql W (RIn.of_sl (H3.out.fourth.grow hW).sl.1) (RIn.of_sl (H3.out.swap.grow hW).sl.1))
    go_wp2_with (go_at_call 19; refine (HSC.out _ (by repeat' (first | (with_reducible exact Below.refl _ _) | (with_reducible assumption) | (with_reducible refine below_drewN ?_ _) | (with_reducible refine below_more _ _ _ ?_ ?_) | (with_reducible refine Below.alloc ?_ ?_ _) | (with_reducible refine Below.drew ?_) | (with_reducible refine Below.setCell ?_ ?_ _) | go_size))).mono ?_; rintro e w' ⟨rfl, hb⟩; obtain ⟨d, os, rfl⟩ := more_of hb; clear hb)
    go_ret
    exact ⟨by simp, (HMORE.out _ _ H3.out.drop.swap.drop3.drop3).grow (by repeat' (first | (with_reducible exact Below.refl _ _) | (with_reducible assumption) | (with_reducible refine below_drewN ?_ _) | (with_reducible refine below_more _ _ _ ?_ ?_) | (with_reducible refine Below.alloc ?_ ?_ _) | (with_reducible refine Below.drew ?_) | (with_reducible refine Below.setCell ?_ ?_ _) | go_size))⟩


set_option maxRecDepth 100000 in
set_option maxHeartbeats 4000000 in
theorem step_close (h : Own w0 w ((deskO p c D).and ((rdeskO q R c kk D).and F))) (kd k s i g es ei eg m x y vx vy hp pw lf mask : Int) (pv : Option Addr) (cv : Nat) (l : List Nid) (hkk : kk ≤ 100000) (hv : RIn nidL w0 (.slice pv l.length cv) l) (hl : l.length ≤ 40) (hk : kd = 7 ∨ kd = 8) :
    Calls Try.prog 29 #[.pointer (some ⟨p, 0, none⟩), .pointer (some ⟨q, 0, none⟩), .agg #[.int .i64 kd, .int .i64 k, .int .i64 s, .int .i64 i, .int .i64 g, .int .i64 es, .int .i64 ei, .int .i64 eg, .int .i64 m, .int .i64 x, .int .i64 y, .int .i64 vx, .int .i64 vy, .int .i64 hp, .int .i64 pw, .int .i64 lf, .int .i64 mask, .slice pv l.length cv]] w fun e w' => e = .returned (.bool true) ∧ Own w0 w' ((deskO p c (stepF c D kd ⟨k, s, i, g, ⟨es, ei, eg, m, x, y, vx, vy, hp, pw, lf⟩, mask⟩ l)).and ((rdeskO q R c (kk + 40) (stepF c D kd ⟨k, s, i, g, ⟨es, ei, eg, m, x, y, vx, vy, hp, pw, lf⟩, mask⟩ l)).and F)) := by
  have hb := h.made (made_box w #[.int .i64 kd, .int .i64 k, .int .i64 s, .int .i64 i, .int .i64 g, .int .i64 es, .int .i64 ei, .int .i64 eg, .int .i64 m, .int .i64 x, .int .i64 y, .int .i64 vx, .int .i64 vy, .int .i64 hp, .int .i64 pw, .int .i64 lf, .int .i64 mask, .slice pv l.length cv] 40)
  have hb3 := hb.new3
  have HP := Lib.hid hb3
  have HMORE := Lib.hid (fun W E (hW : Own w0 W ((deskO p c E).and ((rdeskO q R c kk E).and F))) => rmore40 hW)
  clear h hb hb3
  rcases hk with rfl | rfl
  all_goals
    have HN : ∀ j : Int, j = 7 ∨ j = 8 → stepF c D j ⟨k, s, i, g, ⟨es, ei, eg, m, x, y, vx, vy, hp, pw, lf⟩, mask⟩ l = (closeF D l).2 := by rintro j (rfl | rfl) <;> rfl
    rw [HN _ (by simp)]
    have HL := Lib.hid (fun W E (hW : Own w0 W ((deskO p c D).and E)) => close_o hW _ l (hv.keep hW.below) (rin_old hv) (by omega))
    have HR := Lib.hid (fun W E (hW : Own w0 W ((rdeskO q R c kk D).and E)) => rclose_o hW (by omega) _ l (hv.keep hW.below) (rin_old hv) hl)
    clear HN hv hl hkk
    generalize closeF D l = lp at *
    obtain ⟨⟨n, er⟩, E⟩ := lp
    simp only at HL HR ⊢
    go_enter Try.func29, Try.ntmps29
    go_wp2_with fail
    refine (HL.out _ _ (HP.out.grow (by repeat' (first | (with_reducible exact Below.refl _ _) | (with_reducible assumption) | (with_reducible refine below_drewN ?_ _) | (with_reducible refine below_more _ _ _ ?_ ?_) | (with_reducible refine Below.alloc ?_ ?_ _) | (with_reducible refine Below.drew ?_) | (with_reducible refine Below.setCell ?_ ?_ _) | go_size)))).mono ?_
    rintro e w2 ⟨rfl, h2⟩
    have x5 := h2.third.box.1
    have y17 := x5 17
    simp at y17
    have H2 := Lib.hid h2
    clear h2 x5
    go_wp2_with fail
    refine (HR.out _ _ (H2.out.swap.grow (by repeat' (first | (with_reducible exact Below.refl _ _) | (with_reducible assumption) | (with_reducible refine below_drewN ?_ _) | (with_reducible refine below_more _ _ _ ?_ ?_) | (with_reducible refine Below.alloc ?_ ?_ _) | (with_reducible refine Below.drew ?_) | (with_reducible refine Below.setCell ?_ ?_ _) | go_size)))).mono ?_
    rintro e w3 ⟨rfl, h3⟩
    have H3 := Lib.hid h3
    clear h3
    go_wp2_with fail
    go_ret
    exact ⟨by simp, H3.out.swap.drop3.grow (by repeat' (first | (with_reducible exact Below.refl _ _) | (with_reducible assumption) | (with_reducible refine below_drewN ?_ _) | (with_reducible refine below_more _ _ _ ?_ ?_) | (with_reducible refine Below.alloc ?_ ?_ _) | (with_reducible refine Below.drew ?_) | (with_reducible refine Below.setCell ?_ ?_ _) | go_size))⟩


end
end Go.Proofs.Ytbghjklnlhoklaa
