/-
  DeskLooks: for any config, every list of deeds and every command the law returns true, and the arguments stay as they were. No condition.
-/
import Derived.Test.YtbghjklnlhoklaaMk23
import Derived.Test.YtbghjklnlhoklaaRdC
import Derived.Test.YtbghjklnlhoklaaMk3
import Derived.Test.YtbghjklnlhoklaaDkK
import Derived.Test.YtbghjklnlhoklaaDkM
import Derived.Test.YtbghjklnlhoklaaDkX
namespace Go.Proofs.Ytbghjklnlhoklaa.deskLooks
open Go.ChangeShapes Go.WideShapes Go.ChangeAt Go.RowKit

theorem look_zero {c : Cfg} {D : Dk} {m a : Cm} {must : Bool} {er : Int} (h : lookF c D m = (a, must, er)) (he : er ≠ 0) : a = zeroCm ∧ must = false := by
  rcases look_cases c D m with ⟨e, _, h2⟩ | ⟨_, _, h2⟩ | ⟨_, h2⟩
  · rw [h2] at h; simp only [Prod.mk.injEq] at h; exact ⟨h.1.symm, h.2.1.symm⟩
  · rw [h2] at h; simp only [Prod.mk.injEq] at h; exact absurd h.2.2.symm he
  · rw [h2] at h; simp only [Prod.mk.injEq] at h; exact absurd h.2.2.symm he
theorem keep3 {W : World} {a b c : Nat} {A B C : Array Value} (h : (a < W.heap.size ∧ b < W.heap.size ∧ c < W.heap.size) ∧ (∀ j, W.cell? ⟨a, j, none⟩ = A[j]?) ∧ (∀ j, W.cell? ⟨b, j, none⟩ = B[j]?) ∧ (∀ j, W.cell? ⟨c, j, none⟩ = C[j]?)) (d : Nat) (os : Array Obj) :
    (a < (more W d os).heap.size ∧ b < (more W d os).heap.size ∧ c < (more W d os).heap.size) ∧ (∀ j, (more W d os).cell? ⟨a, j, none⟩ = A[j]?) ∧ (∀ j, (more W d os).cell? ⟨b, j, none⟩ = B[j]?) ∧ (∀ j, (more W d os).cell? ⟨c, j, none⟩ = C[j]?) := by
  obtain ⟨⟨h1, h2, h3⟩, h4, h5, h6⟩ := h
  have e : W.heap.size ≤ (more W d os).heap.size := by simp
  exact ⟨⟨by omega, by omega, by omega⟩, fun j => (more_cell _ _ _ _ h1).trans (h4 j), fun j => (more_cell _ _ _ _ h2).trans (h5 j), fun j => (more_cell _ _ _ _ h3).trans (h6 j)⟩
theorem keep3d {W : World} {a b c : Nat} {A B C : Array Value} (h : (a < W.heap.size ∧ b < W.heap.size ∧ c < W.heap.size) ∧ (∀ j, W.cell? ⟨a, j, none⟩ = A[j]?) ∧ (∀ j, W.cell? ⟨b, j, none⟩ = B[j]?) ∧ (∀ j, W.cell? ⟨c, j, none⟩ = C[j]?)) :
    (a < W.drew.heap.size ∧ b < W.drew.heap.size ∧ c < W.drew.heap.size) ∧ (∀ j, W.drew.cell? ⟨a, j, none⟩ = A[j]?) ∧ (∀ j, W.drew.cell? ⟨b, j, none⟩ = B[j]?) ∧ (∀ j, W.drew.cell? ⟨c, j, none⟩ = C[j]?) := h
def stN (a : Addr) (v : Value) : Sem Unit := storeVar 33 a v
theorem storeVar_stN (a : Addr) (v : Value) : storeVar 33 a v = stN a v := rfl
theorem st_id {W : World} {b o : Nat} (h : ∀ j, j < 3 → (W.cell? ⟨b, o + j, none⟩).isSome = true) (hf : ∀ j, W.frozen? ⟨b, j, none⟩ = false) :
    (stN ⟨b, o, none⟩ (.agg #[.int .i64 0, .int .i64 0, .int .i64 0])).run Try.prog W = .ok () (((W.setCell ⟨b, o, none⟩ (.int .i64 0)).setCell ⟨b, o + 1, none⟩ (.int .i64 0)).setCell ⟨b, o + 2, none⟩ (.int .i64 0)) := by
  have h := Go.run_storeCells_cells (P := Try.prog) b o [.int .i64 0, .int .i64 0, .int .i64 0] 0 W (fun j hj => by rw [show o + 0 + j = o + j by omega]; exact h j hj) (fun j _ => hf _) (fun u hu => by simp at hu; subst hu; rfl)
  have h' : Sem.run Try.prog (storeCells ⟨b, o, none⟩ [.int .i64 0, .int .i64 0, .int .i64 0] 0) W = .ok () (((W.setCell ⟨b, o, none⟩ (.int .i64 0)).setCell ⟨b, o + 1, none⟩ (.int .i64 0)).setCell ⟨b, o + 2, none⟩ (.int .i64 0)) := h
  simp [stN, storeVar, Value.cells, h']
attribute [local go_sem ↓] loadVar_ldM storeVar_stM storeVar_stN

set_option maxRecDepth 100000 in
set_option maxHeartbeats 4000000 in
theorem way_no (cols rows side radius speed ids queue k s i g es ei eg m x y vx vy hp pw lf mask : Int) (v : Value) (w w1 : World) (cm : Cfg) (D : Dk) (er : Int) (her : er ≠ 0)
    (hw1 : (w.alloc (.cells #[.int .i64 cols, .int .i64 rows, .int .i64 side, .int .i64 radius, .int .i64 speed, .int .i64 ids, .int .i64 queue] 23)).alloc (.cells #[.int .i64 k, .int .i64 s, .int .i64 i, .int .i64 g, .int .i64 es, .int .i64 ei, .int .i64 eg, .int .i64 m, .int .i64 x, .int .i64 y, .int .i64 vx, .int .i64 vy, .int .i64 hp, .int .i64 pw, .int .i64 lf, .int .i64 mask] 37) = w1) (hb1 : Below w.heap.size w w1) (k0 : ∀ j, w1.cell? ⟨w.heap.size, j, none⟩ = (#[.int .i64 cols, .int .i64 rows, .int .i64 side, .int .i64 radius, .int .i64 speed, .int .i64 ids, .int .i64 queue] : Array Value)[j]?) (k1 : ∀ j, w1.cell? ⟨w.heap.size + 1, j, none⟩ = (#[.int .i64 k, .int .i64 s, .int .i64 i, .int .i64 g, .int .i64 es, .int .i64 ei, .int .i64 eg, .int .i64 m, .int .i64 x, .int .i64 y, .int .i64 vx, .int .i64 vy, .int .i64 hp, .int .i64 pw, .int .i64 lf, .int .i64 mask] : Array Value)[j]?) (hsz : w1.heap.size = w.heap.size + 2)
    (ho : CfgOk cm)
    (HMA : Hid (Calls Try.prog 21 #[.agg #[.int .i64 cols, .int .i64 rows, .int .i64 side, .int .i64 radius, .int .i64 speed, .int .i64 ids, .int .i64 queue], v] w1 fun e w' => ∃ p q R kk, e = .returned (.tuple #[.pointer (some ⟨p, 0, none⟩), .pointer (some ⟨q, 0, none⟩)]) ∧ kk ≤ 3000 ∧ Own w1 w' ((deskO p cm D).and ((rdeskO q R cm kk D).and .nil))))
    (hla : lookF cm D ⟨k, s, i, g, ⟨es, ei, eg, m, x, y, vx, vy, hp, pw, lf⟩, mask⟩ = (⟨0, 0, 0, 0, ⟨0, 0, 0, 0, 0, 0, 0, 0, 0, 0, 0⟩, 0⟩, false, er)) :
    Calls Try.prog 8 #[.agg #[.int .i64 cols, .int .i64 rows, .int .i64 side, .int .i64 radius, .int .i64 speed, .int .i64 ids, .int .i64 queue], v, .agg #[.int .i64 k, .int .i64 s, .int .i64 i, .int .i64 g, .int .i64 es, .int .i64 ei, .int .i64 eg, .int .i64 m, .int .i64 x, .int .i64 y, .int .i64 vx, .int .i64 vy, .int .i64 hp, .int .i64 pw, .int .i64 lf, .int .i64 mask]] w fun e w' => e = .returned (.bool true) ∧ Below w.heap.size w w' := by
  have HO := Lib.hid ho
  have HW1 := Lib.hid hw1
  have HB1 := Lib.hid hb1
  have HLA := Lib.hid hla
  have s6 : w.heap.size < w1.heap.size := by omega
  have s7 : w.heap.size + 1 < w1.heap.size := by omega
  have HC : Hid (∀ W, Below w1.heap.size w1 W → ∀ j, W.cell? ⟨w.heap.size, j, none⟩ = (#[.int .i64 cols, .int .i64 rows, .int .i64 side, .int .i64 radius, .int .i64 speed, .int .i64 ids, .int .i64 queue] : Array Value)[j]?) := Lib.hid (fun W hW j => (hW.cell (p := ⟨w.heap.size, j, none⟩) s6).trans (k0 j))
  have HM : Hid (∀ W, Below w1.heap.size w1 W → ∀ j, W.cell? ⟨w.heap.size + 1, j, none⟩ = (#[.int .i64 k, .int .i64 s, .int .i64 i, .int .i64 g, .int .i64 es, .int .i64 ei, .int .i64 eg, .int .i64 m, .int .i64 x, .int .i64 y, .int .i64 vx, .int .i64 vy, .int .i64 hp, .int .i64 pw, .int .i64 lf, .int .i64 mask] : Array Value)[j]?) := Lib.hid (fun W hW j => (hW.cell (p := ⟨w.heap.size + 1, j, none⟩) s7).trans (k1 j))
  have q5 := HM.out w1 (Below.refl _ _)
  have hL5 : (ldM ⟨w.heap.size + 1, 0, none⟩).run Try.prog w1 = .ok (.agg #[.int .i64 k, .int .i64 s, .int .i64 i, .int .i64 g, .int .i64 es, .int .i64 ei, .int .i64 eg, .int .i64 m, .int .i64 x, .int .i64 y, .int .i64 vx, .int .i64 vy, .int .i64 hp, .int .i64 pw, .int .i64 lf, .int .i64 mask]) w1 := ldM_of ⟨k, s, i, g, ⟨es, ei, eg, m, x, y, vx, vy, hp, pw, lf⟩, mask⟩ fun j v hj => by rw [Nat.zero_add, q5 j, List.getElem?_toArray]; exact hj
  have y0 := HC.out w1 (Below.refl _ _) 0; simp at y0; have y1 := HC.out w1 (Below.refl _ _) 1; simp at y1; have y2 := HC.out w1 (Below.refl _ _) 2; simp at y2; have y3 := HC.out w1 (Below.refl _ _) 3; simp at y3; have y4 := HC.out w1 (Below.refl _ _) 4; simp at y4; have y5 := HC.out w1 (Below.refl _ _) 5; simp at y5; have y6 := HC.out w1 (Below.refl _ _) 6; simp at y6
  have HS := Lib.hid (show w.heap.size + 2 ≤ w1.heap.size by omega)
  clear hw1 hb1 k0 k1 hsz ho hla q5 s6 s7
  go_enter Try.func8, Try.ntmps8
  go_upto_region 1 with fail
  rw [HW1.out]
  go_wp2_with fail
  refine HMA.out.mono ?_
  rintro e w2 ⟨p, q, R, kk, rfl, hkk, h2⟩
  have H2 := Lib.hid h2
  have HLK : Hid (∀ W E, Own w1 W ((deskO p cm D).and E) → Calls Try.prog 13 #[.pointer (some ⟨p, 0, none⟩), .agg #[.int .i64 k, .int .i64 s, .int .i64 i, .int .i64 g, .int .i64 es, .int .i64 ei, .int .i64 eg, .int .i64 m, .int .i64 x, .int .i64 y, .int .i64 vx, .int .i64 vy, .int .i64 hp, .int .i64 pw, .int .i64 lf, .int .i64 mask]] W fun e w' => e = .returned (.tuple #[.agg #[.int .i64 0, .int .i64 0, .int .i64 0, .int .i64 0, .int .i64 0, .int .i64 0, .int .i64 0, .int .i64 0, .int .i64 0, .int .i64 0, .int .i64 0, .int .i64 0, .int .i64 0, .int .i64 0, .int .i64 0, .int .i64 0], .bool false, .int .i64 er]) ∧ Below W.heap.size W w') := Lib.hid (fun W E hW => by have := look_o hW HO.out ⟨k, s, i, g, ⟨es, ei, eg, m, x, y, vx, vy, hp, pw, lf⟩, mask⟩; rw [HLA.out] at this; exact this)
  have q5 := HM.out w2 h2.below
  clear hL5 y0 y1 y2 y3 y4 y5 y6
  have hL5 : (ldM ⟨w.heap.size + 1, 0, none⟩).run Try.prog w2 = .ok (.agg #[.int .i64 k, .int .i64 s, .int .i64 i, .int .i64 g, .int .i64 es, .int .i64 ei, .int .i64 eg, .int .i64 m, .int .i64 x, .int .i64 y, .int .i64 vx, .int .i64 vy, .int .i64 hp, .int .i64 pw, .int .i64 lf, .int .i64 mask]) w2 := ldM_of ⟨k, s, i, g, ⟨es, ei, eg, m, x, y, vx, vy, hp, pw, lf⟩, mask⟩ fun j v hj => by rw [Nat.zero_add, q5 j, List.getElem?_toArray]; exact hj
  clear h2 HMA HW1 q5 hkk
  go_wp2_with fail
  refine (HLK.out _ _ H2.out).mono ?_
  rintro e V1 ⟨rfl, hb3⟩
  obtain ⟨w3, hs3, hm3⟩ := new_cmO V1 ⟨0, 0, 0, 0, ⟨0, 0, 0, 0, 0, 0, 0, 0, 0, 0, 0⟩, 0⟩
  have H3 := Lib.hid (((H2.out.grow hb3).made hm3).new3)
  have hs3' : (stM ⟨V1.heap.size, 0, none⟩ (.agg #[.int .i64 0, .int .i64 0, .int .i64 0, .int .i64 0, .int .i64 0, .int .i64 0, .int .i64 0, .int .i64 0, .int .i64 0, .int .i64 0, .int .i64 0, .int .i64 0, .int .i64 0, .int .i64 0, .int .i64 0, .int .i64 0])).run Try.prog (V1.alloc (.cells #[.int .i64 0, .int .i64 0, .int .i64 0, .int .i64 0, .int .i64 0, .int .i64 0, .int .i64 0, .int .i64 0, .int .i64 0, .int .i64 0, .int .i64 0, .int .i64 0, .int .i64 0, .int .i64 0, .int .i64 0, .int .i64 0] 37)) = .ok () w3 := hs3
  have q5 := HM.out w3 H3.out.below
  clear hL5
  have hL5 : (ldM ⟨w.heap.size + 1, 0, none⟩).run Try.prog w3 = .ok (.agg #[.int .i64 k, .int .i64 s, .int .i64 i, .int .i64 g, .int .i64 es, .int .i64 ei, .int .i64 eg, .int .i64 m, .int .i64 x, .int .i64 y, .int .i64 vx, .int .i64 vy, .int .i64 hp, .int .i64 pw, .int .i64 lf, .int .i64 mask]) w3 := ldM_of ⟨k, s, i, g, ⟨es, ei, eg, m, x, y, vx, vy, hp, pw, lf⟩, mask⟩ fun j v hj => by rw [Nat.zero_add, q5 j, List.getElem?_toArray]; exact hj
  clear hs3 hm3 hb3 q5 H2
  go_wp2_with fail
  refine (HLK.out _ _ H3.out).mono ?_
  rintro e V2 ⟨rfl, hb4⟩
  obtain ⟨w4, hs4, hm4⟩ := new_cmO V2 ⟨0, 0, 0, 0, ⟨0, 0, 0, 0, 0, 0, 0, 0, 0, 0, 0⟩, 0⟩
  have H4 := Lib.hid (((H3.out.grow hb4).made hm4).new3)
  have hs4' : (stM ⟨V2.heap.size, 0, none⟩ (.agg #[.int .i64 0, .int .i64 0, .int .i64 0, .int .i64 0, .int .i64 0, .int .i64 0, .int .i64 0, .int .i64 0, .int .i64 0, .int .i64 0, .int .i64 0, .int .i64 0, .int .i64 0, .int .i64 0, .int .i64 0, .int .i64 0])).run Try.prog (V2.alloc (.cells #[.int .i64 0, .int .i64 0, .int .i64 0, .int .i64 0, .int .i64 0, .int .i64 0, .int .i64 0, .int .i64 0, .int .i64 0, .int .i64 0, .int .i64 0, .int .i64 0, .int .i64 0, .int .i64 0, .int .i64 0, .int .i64 0] 37)) = .ok () w4 := hs4
  clear hs4 hm4 hb4 hL5 hs3' H3 HLK
  go_wp2_with fail
  refine (alike16_any _ _ _ p q R cm kk D H4.out HO.out).mono ?_
  rintro e w5 ⟨rfl, h5⟩
  have H5 := Lib.hid h5
  have b12 := h5.third.box.1
  have b9 := h5.fourth.box.1
  have q5 := HM.out w5 h5.below
  have hL9 : (ldM ⟨V1.heap.size, 0, none⟩).run Try.prog w5 = .ok (.agg #[.int .i64 0, .int .i64 0, .int .i64 0, .int .i64 0, .int .i64 0, .int .i64 0, .int .i64 0, .int .i64 0, .int .i64 0, .int .i64 0, .int .i64 0, .int .i64 0, .int .i64 0, .int .i64 0, .int .i64 0, .int .i64 0]) w5 := ldM_of ⟨0, 0, 0, 0, ⟨0, 0, 0, 0, 0, 0, 0, 0, 0, 0, 0⟩, 0⟩ fun j v hj => by rw [Nat.zero_add, b9, List.getElem?_toArray]; exact hj
  have hL12 : (ldM ⟨V2.heap.size, 0, none⟩).run Try.prog w5 = .ok (.agg #[.int .i64 0, .int .i64 0, .int .i64 0, .int .i64 0, .int .i64 0, .int .i64 0, .int .i64 0, .int .i64 0, .int .i64 0, .int .i64 0, .int .i64 0, .int .i64 0, .int .i64 0, .int .i64 0, .int .i64 0, .int .i64 0]) w5 := ldM_of ⟨0, 0, 0, 0, ⟨0, 0, 0, 0, 0, 0, 0, 0, 0, 0, 0⟩, 0⟩ fun j v hj => by rw [Nat.zero_add, b12, List.getElem?_toArray]; exact hj
  have hL5 : (ldM ⟨w.heap.size + 1, 0, none⟩).run Try.prog w5 = .ok (.agg #[.int .i64 k, .int .i64 s, .int .i64 i, .int .i64 g, .int .i64 es, .int .i64 ei, .int .i64 eg, .int .i64 m, .int .i64 x, .int .i64 y, .int .i64 vx, .int .i64 vy, .int .i64 hp, .int .i64 pw, .int .i64 lf, .int .i64 mask]) w5 := ldM_of ⟨k, s, i, g, ⟨es, ei, eg, m, x, y, vx, vy, hp, pw, lf⟩, mask⟩ fun j v hj => by rw [Nat.zero_add, q5 j, List.getElem?_toArray]; exact hj
  have heq : cmEq ⟨0, 0, 0, 0, ⟨0, 0, 0, 0, 0, 0, 0, 0, 0, 0, 0⟩, 0⟩ ⟨0, 0, 0, 0, ⟨0, 0, 0, 0, 0, 0, 0, 0, 0, 0, 0⟩, 0⟩ = true := cmEq_self _
  have x0 := q5 0
  simp at x0
  clear h5 b12 b9 H4 hs4' q5
  have her' : (er == 0) = false := by simpa using her
  go_wp2_with (go_at_call 20; refine (awake16 _).mono ?_; rintro e w' ⟨rfl, hb⟩; obtain ⟨d, os, rfl⟩ := more_of hb; clear hb)
  go_ret
  exact ⟨rfl, HB1.out.trans (Below.mono (B := w1.heap.size) (H5.out.below.trans (Below.mono (B := w5.heap.size) (by repeat' (first | (with_reducible exact Below.refl _ _) | (with_reducible assumption) | (with_reducible refine below_drewN ?_ _) | (with_reducible refine below_more _ _ _ ?_ ?_) | (with_reducible refine Below.alloc ?_ ?_ _) | (with_reducible refine Below.drew ?_) | (with_reducible refine Below.setCell ?_ ?_ _) | go_size)) H5.out.below.size)) HB1.out.size)⟩

set_option maxRecDepth 100000 in
set_option maxHeartbeats 4000000 in
theorem way_old (cols rows side radius speed ids queue k s i g es ei eg m x y vx vy hp pw lf mask : Int) (v : Value) (w w1 : World) (cm : Cfg) (D : Dk) (hk : k ≠ 1)
    (hw1 : (w.alloc (.cells #[.int .i64 cols, .int .i64 rows, .int .i64 side, .int .i64 radius, .int .i64 speed, .int .i64 ids, .int .i64 queue] 23)).alloc (.cells #[.int .i64 k, .int .i64 s, .int .i64 i, .int .i64 g, .int .i64 es, .int .i64 ei, .int .i64 eg, .int .i64 m, .int .i64 x, .int .i64 y, .int .i64 vx, .int .i64 vy, .int .i64 hp, .int .i64 pw, .int .i64 lf, .int .i64 mask] 37) = w1) (hb1 : Below w.heap.size w w1) (k0 : ∀ j, w1.cell? ⟨w.heap.size, j, none⟩ = (#[.int .i64 cols, .int .i64 rows, .int .i64 side, .int .i64 radius, .int .i64 speed, .int .i64 ids, .int .i64 queue] : Array Value)[j]?) (k1 : ∀ j, w1.cell? ⟨w.heap.size + 1, j, none⟩ = (#[.int .i64 k, .int .i64 s, .int .i64 i, .int .i64 g, .int .i64 es, .int .i64 ei, .int .i64 eg, .int .i64 m, .int .i64 x, .int .i64 y, .int .i64 vx, .int .i64 vy, .int .i64 hp, .int .i64 pw, .int .i64 lf, .int .i64 mask] : Array Value)[j]?) (hsz : w1.heap.size = w.heap.size + 2)
    (ho : CfgOk cm)
    (HMA : Hid (Calls Try.prog 21 #[.agg #[.int .i64 cols, .int .i64 rows, .int .i64 side, .int .i64 radius, .int .i64 speed, .int .i64 ids, .int .i64 queue], v] w1 fun e w' => ∃ p q R kk, e = .returned (.tuple #[.pointer (some ⟨p, 0, none⟩), .pointer (some ⟨q, 0, none⟩)]) ∧ kk ≤ 3000 ∧ Own w1 w' ((deskO p cm D).and ((rdeskO q R cm kk D).and .nil))))
    (hla : lookF cm D ⟨k, s, i, g, ⟨es, ei, eg, m, x, y, vx, vy, hp, pw, lf⟩, mask⟩ = (⟨k, s, i, g, ⟨es, ei, eg, m, x, y, vx, vy, hp, pw, lf⟩, mask⟩, false, 0)) :
    Calls Try.prog 8 #[.agg #[.int .i64 cols, .int .i64 rows, .int .i64 side, .int .i64 radius, .int .i64 speed, .int .i64 ids, .int .i64 queue], v, .agg #[.int .i64 k, .int .i64 s, .int .i64 i, .int .i64 g, .int .i64 es, .int .i64 ei, .int .i64 eg, .int .i64 m, .int .i64 x, .int .i64 y, .int .i64 vx, .int .i64 vy, .int .i64 hp, .int .i64 pw, .int .i64 lf, .int .i64 mask]] w fun e w' => e = .returned (.bool true) ∧ Below w.heap.size w w' := by
  have HO := Lib.hid ho
  have HW1 := Lib.hid hw1
  have HB1 := Lib.hid hb1
  have HLA := Lib.hid hla
  have s6 : w.heap.size < w1.heap.size := by omega
  have s7 : w.heap.size + 1 < w1.heap.size := by omega
  have HC : Hid (∀ W, Below w1.heap.size w1 W → ∀ j, W.cell? ⟨w.heap.size, j, none⟩ = (#[.int .i64 cols, .int .i64 rows, .int .i64 side, .int .i64 radius, .int .i64 speed, .int .i64 ids, .int .i64 queue] : Array Value)[j]?) := Lib.hid (fun W hW j => (hW.cell (p := ⟨w.heap.size, j, none⟩) s6).trans (k0 j))
  have HM : Hid (∀ W, Below w1.heap.size w1 W → ∀ j, W.cell? ⟨w.heap.size + 1, j, none⟩ = (#[.int .i64 k, .int .i64 s, .int .i64 i, .int .i64 g, .int .i64 es, .int .i64 ei, .int .i64 eg, .int .i64 m, .int .i64 x, .int .i64 y, .int .i64 vx, .int .i64 vy, .int .i64 hp, .int .i64 pw, .int .i64 lf, .int .i64 mask] : Array Value)[j]?) := Lib.hid (fun W hW j => (hW.cell (p := ⟨w.heap.size + 1, j, none⟩) s7).trans (k1 j))
  have q5 := HM.out w1 (Below.refl _ _)
  have hL5 : (ldM ⟨w.heap.size + 1, 0, none⟩).run Try.prog w1 = .ok (.agg #[.int .i64 k, .int .i64 s, .int .i64 i, .int .i64 g, .int .i64 es, .int .i64 ei, .int .i64 eg, .int .i64 m, .int .i64 x, .int .i64 y, .int .i64 vx, .int .i64 vy, .int .i64 hp, .int .i64 pw, .int .i64 lf, .int .i64 mask]) w1 := ldM_of ⟨k, s, i, g, ⟨es, ei, eg, m, x, y, vx, vy, hp, pw, lf⟩, mask⟩ fun j v hj => by rw [Nat.zero_add, q5 j, List.getElem?_toArray]; exact hj
  have y0 := HC.out w1 (Below.refl _ _) 0; simp at y0; have y1 := HC.out w1 (Below.refl _ _) 1; simp at y1; have y2 := HC.out w1 (Below.refl _ _) 2; simp at y2; have y3 := HC.out w1 (Below.refl _ _) 3; simp at y3; have y4 := HC.out w1 (Below.refl _ _) 4; simp at y4; have y5 := HC.out w1 (Below.refl _ _) 5; simp at y5; have y6 := HC.out w1 (Below.refl _ _) 6; simp at y6
  have HS := Lib.hid (show w.heap.size + 2 ≤ w1.heap.size by omega)
  clear hw1 hb1 k0 k1 hsz ho hla q5 s6 s7
  go_enter Try.func8, Try.ntmps8
  go_upto_region 1 with fail
  rw [HW1.out]
  go_wp2_with fail
  refine HMA.out.mono ?_
  rintro e w2 ⟨p, q, R, kk, rfl, hkk, h2⟩
  have H2 := Lib.hid h2
  have HLK : Hid (∀ W E, Own w1 W ((deskO p cm D).and E) → Calls Try.prog 13 #[.pointer (some ⟨p, 0, none⟩), .agg #[.int .i64 k, .int .i64 s, .int .i64 i, .int .i64 g, .int .i64 es, .int .i64 ei, .int .i64 eg, .int .i64 m, .int .i64 x, .int .i64 y, .int .i64 vx, .int .i64 vy, .int .i64 hp, .int .i64 pw, .int .i64 lf, .int .i64 mask]] W fun e w' => e = .returned (.tuple #[.agg #[.int .i64 k, .int .i64 s, .int .i64 i, .int .i64 g, .int .i64 es, .int .i64 ei, .int .i64 eg, .int .i64 m, .int .i64 x, .int .i64 y, .int .i64 vx, .int .i64 vy, .int .i64 hp, .int .i64 pw, .int .i64 lf, .int .i64 mask], .bool false, .int .i64 0]) ∧ Below W.heap.size W w') := Lib.hid (fun W E hW => by have := look_o hW HO.out ⟨k, s, i, g, ⟨es, ei, eg, m, x, y, vx, vy, hp, pw, lf⟩, mask⟩; rw [HLA.out] at this; exact this)
  have q5 := HM.out w2 h2.below
  clear hL5 y0 y1 y2 y3 y4 y5 y6
  have hL5 : (ldM ⟨w.heap.size + 1, 0, none⟩).run Try.prog w2 = .ok (.agg #[.int .i64 k, .int .i64 s, .int .i64 i, .int .i64 g, .int .i64 es, .int .i64 ei, .int .i64 eg, .int .i64 m, .int .i64 x, .int .i64 y, .int .i64 vx, .int .i64 vy, .int .i64 hp, .int .i64 pw, .int .i64 lf, .int .i64 mask]) w2 := ldM_of ⟨k, s, i, g, ⟨es, ei, eg, m, x, y, vx, vy, hp, pw, lf⟩, mask⟩ fun j v hj => by rw [Nat.zero_add, q5 j, List.getElem?_toArray]; exact hj
  clear h2 HMA HW1 q5 hkk
  go_wp2_with fail
  refine (HLK.out _ _ H2.out).mono ?_
  rintro e V1 ⟨rfl, hb3⟩
  obtain ⟨w3, hs3, hm3⟩ := new_cmO V1 ⟨k, s, i, g, ⟨es, ei, eg, m, x, y, vx, vy, hp, pw, lf⟩, mask⟩
  have H3 := Lib.hid (((H2.out.grow hb3).made hm3).new3)
  have hs3' : (stM ⟨V1.heap.size, 0, none⟩ (.agg #[.int .i64 k, .int .i64 s, .int .i64 i, .int .i64 g, .int .i64 es, .int .i64 ei, .int .i64 eg, .int .i64 m, .int .i64 x, .int .i64 y, .int .i64 vx, .int .i64 vy, .int .i64 hp, .int .i64 pw, .int .i64 lf, .int .i64 mask])).run Try.prog (V1.alloc (.cells #[.int .i64 0, .int .i64 0, .int .i64 0, .int .i64 0, .int .i64 0, .int .i64 0, .int .i64 0, .int .i64 0, .int .i64 0, .int .i64 0, .int .i64 0, .int .i64 0, .int .i64 0, .int .i64 0, .int .i64 0, .int .i64 0] 37)) = .ok () w3 := hs3
  have q5 := HM.out w3 H3.out.below
  clear hL5
  have hL5 : (ldM ⟨w.heap.size + 1, 0, none⟩).run Try.prog w3 = .ok (.agg #[.int .i64 k, .int .i64 s, .int .i64 i, .int .i64 g, .int .i64 es, .int .i64 ei, .int .i64 eg, .int .i64 m, .int .i64 x, .int .i64 y, .int .i64 vx, .int .i64 vy, .int .i64 hp, .int .i64 pw, .int .i64 lf, .int .i64 mask]) w3 := ldM_of ⟨k, s, i, g, ⟨es, ei, eg, m, x, y, vx, vy, hp, pw, lf⟩, mask⟩ fun j v hj => by rw [Nat.zero_add, q5 j, List.getElem?_toArray]; exact hj
  clear hs3 hm3 hb3 q5 H2
  go_wp2_with fail
  refine (HLK.out _ _ H3.out).mono ?_
  rintro e V2 ⟨rfl, hb4⟩
  obtain ⟨w4, hs4, hm4⟩ := new_cmO V2 ⟨k, s, i, g, ⟨es, ei, eg, m, x, y, vx, vy, hp, pw, lf⟩, mask⟩
  have H4 := Lib.hid (((H3.out.grow hb4).made hm4).new3)
  have hs4' : (stM ⟨V2.heap.size, 0, none⟩ (.agg #[.int .i64 k, .int .i64 s, .int .i64 i, .int .i64 g, .int .i64 es, .int .i64 ei, .int .i64 eg, .int .i64 m, .int .i64 x, .int .i64 y, .int .i64 vx, .int .i64 vy, .int .i64 hp, .int .i64 pw, .int .i64 lf, .int .i64 mask])).run Try.prog (V2.alloc (.cells #[.int .i64 0, .int .i64 0, .int .i64 0, .int .i64 0, .int .i64 0, .int .i64 0, .int .i64 0, .int .i64 0, .int .i64 0, .int .i64 0, .int .i64 0, .int .i64 0, .int .i64 0, .int .i64 0, .int .i64 0, .int .i64 0] 37)) = .ok () w4 := hs4
  clear hs4 hm4 hb4 hL5 hs3' H3 HLK
  go_wp2_with fail
  refine (alike16_any _ _ _ p q R cm kk D H4.out HO.out).mono ?_
  rintro e w5 ⟨rfl, h5⟩
  have H5 := Lib.hid h5
  have b12 := h5.third.box.1
  have b9 := h5.fourth.box.1
  have q5 := HM.out w5 h5.below
  have hL9 : (ldM ⟨V1.heap.size, 0, none⟩).run Try.prog w5 = .ok (.agg #[.int .i64 k, .int .i64 s, .int .i64 i, .int .i64 g, .int .i64 es, .int .i64 ei, .int .i64 eg, .int .i64 m, .int .i64 x, .int .i64 y, .int .i64 vx, .int .i64 vy, .int .i64 hp, .int .i64 pw, .int .i64 lf, .int .i64 mask]) w5 := ldM_of ⟨k, s, i, g, ⟨es, ei, eg, m, x, y, vx, vy, hp, pw, lf⟩, mask⟩ fun j v hj => by rw [Nat.zero_add, b9, List.getElem?_toArray]; exact hj
  have hL12 : (ldM ⟨V2.heap.size, 0, none⟩).run Try.prog w5 = .ok (.agg #[.int .i64 k, .int .i64 s, .int .i64 i, .int .i64 g, .int .i64 es, .int .i64 ei, .int .i64 eg, .int .i64 m, .int .i64 x, .int .i64 y, .int .i64 vx, .int .i64 vy, .int .i64 hp, .int .i64 pw, .int .i64 lf, .int .i64 mask]) w5 := ldM_of ⟨k, s, i, g, ⟨es, ei, eg, m, x, y, vx, vy, hp, pw, lf⟩, mask⟩ fun j v hj => by rw [Nat.zero_add, b12, List.getElem?_toArray]; exact hj
  have hL5 : (ldM ⟨w.heap.size + 1, 0, none⟩).run Try.prog w5 = .ok (.agg #[.int .i64 k, .int .i64 s, .int .i64 i, .int .i64 g, .int .i64 es, .int .i64 ei, .int .i64 eg, .int .i64 m, .int .i64 x, .int .i64 y, .int .i64 vx, .int .i64 vy, .int .i64 hp, .int .i64 pw, .int .i64 lf, .int .i64 mask]) w5 := ldM_of ⟨k, s, i, g, ⟨es, ei, eg, m, x, y, vx, vy, hp, pw, lf⟩, mask⟩ fun j v hj => by rw [Nat.zero_add, q5 j, List.getElem?_toArray]; exact hj
  have heq : cmEq ⟨k, s, i, g, ⟨es, ei, eg, m, x, y, vx, vy, hp, pw, lf⟩, mask⟩ ⟨k, s, i, g, ⟨es, ei, eg, m, x, y, vx, vy, hp, pw, lf⟩, mask⟩ = true := cmEq_self _
  have x0 := q5 0
  simp at x0
  clear h5 b12 b9 H4 hs4' q5
  have hk' : (k == 1) = false := by simpa using hk
  obtain ⟨⟨rw, put, hsim⟩, _⟩ := H5.out.swap.bounds
  have hadm := ((look_adm cm D _ _ _ hsim.good hsim.pos.2.2 HLA.out).2 hk).2.2
  have HAD : Hid (∀ W E, Own w1 W ((deskO p cm D).and E) → Calls Try.prog 15 #[.pointer (some ⟨p, 0, none⟩), .agg #[.int .i64 k, .int .i64 s, .int .i64 i, .int .i64 g, .int .i64 es, .int .i64 ei, .int .i64 eg, .int .i64 m, .int .i64 x, .int .i64 y, .int .i64 vx, .int .i64 vy, .int .i64 hp, .int .i64 pw, .int .i64 lf, .int .i64 mask]] W fun e w' => e = .returned (.int .i64 0) ∧ Own w1 w' ((deskO p cm (admitF cm D ⟨k, s, i, g, ⟨es, ei, eg, m, x, y, vx, vy, hp, pw, lf⟩, mask⟩).2).and E)) := Lib.hid (fun W E hW => by have := admit_o hW HO.out ⟨k, s, i, g, ⟨es, ei, eg, m, x, y, vx, vy, hp, pw, lf⟩, mask⟩; rw [hadm] at this; exact this)
  clear hsim hadm
  go_wp2_with (first | (go_at_call 15; have hq := HAD.out _ _ (H5.out.grow (by repeat' (first | (with_reducible exact Below.refl _ _) | (with_reducible assumption) | (with_reducible refine below_drewN ?_ _) | (with_reducible refine below_more _ _ _ ?_ ?_) | (with_reducible refine Below.alloc ?_ ?_ _) | (with_reducible refine Below.drew ?_) | (with_reducible refine Below.setCell ?_ ?_ _) | go_size))); (with_reducible refine hq.mono ?_); clear hq; rintro e w6 ⟨rfl, h6⟩; have H6 := Lib.hid h6; clear h6) | (go_at_call 20; refine (awake16 _).mono ?_; rintro e w' ⟨rfl, hb⟩; obtain ⟨d, os, rfl⟩ := more_of hb; clear hb))
  go_ret
  exact ⟨rfl, HB1.out.trans (Below.mono (B := w1.heap.size) (H6.out.below.trans (Below.mono (B := w6.heap.size) (by repeat' (first | (with_reducible exact Below.refl _ _) | (with_reducible assumption) | (with_reducible refine below_drewN ?_ _) | (with_reducible refine below_more _ _ _ ?_ ?_) | (with_reducible refine Below.alloc ?_ ?_ _) | (with_reducible refine Below.drew ?_) | (with_reducible refine Below.setCell ?_ ?_ _) | go_size)) H6.out.below.size)) HB1.out.size)⟩

set_option maxRecDepth 100000 in
set_option maxHeartbeats 4000000 in
theorem way_new (cols rows side radius speed ids queue k s i g es ei eg m x y vx vy hp pw lf mask : Int) (v : Value) (w w1 : World) (cm : Cfg) (D : Dk) (s' i' g' : Int) (HK : Hid (k = 1)) (HMY : Hid (∀ W, Calls Try.prog 11 #[.agg #[.int .i64 cols, .int .i64 rows, .int .i64 side, .int .i64 radius, .int .i64 speed, .int .i64 ids, .int .i64 queue]] W fun e w' => e = .returned (.agg #[.int .i64 cm.cols, .int .i64 cm.rows, .int .i64 cm.side, .int .i64 cm.radius, .int .i64 cm.speed, .int .i64 cm.ids, .int .i64 cm.queue]) ∧ Below W.heap.size W w'))
    (hw1 : (w.alloc (.cells #[.int .i64 cols, .int .i64 rows, .int .i64 side, .int .i64 radius, .int .i64 speed, .int .i64 ids, .int .i64 queue] 23)).alloc (.cells #[.int .i64 k, .int .i64 s, .int .i64 i, .int .i64 g, .int .i64 es, .int .i64 ei, .int .i64 eg, .int .i64 m, .int .i64 x, .int .i64 y, .int .i64 vx, .int .i64 vy, .int .i64 hp, .int .i64 pw, .int .i64 lf, .int .i64 mask] 37) = w1) (hb1 : Below w.heap.size w w1) (k0 : ∀ j, w1.cell? ⟨w.heap.size, j, none⟩ = (#[.int .i64 cols, .int .i64 rows, .int .i64 side, .int .i64 radius, .int .i64 speed, .int .i64 ids, .int .i64 queue] : Array Value)[j]?) (k1 : ∀ j, w1.cell? ⟨w.heap.size + 1, j, none⟩ = (#[.int .i64 k, .int .i64 s, .int .i64 i, .int .i64 g, .int .i64 es, .int .i64 ei, .int .i64 eg, .int .i64 m, .int .i64 x, .int .i64 y, .int .i64 vx, .int .i64 vy, .int .i64 hp, .int .i64 pw, .int .i64 lf, .int .i64 mask] : Array Value)[j]?) (hsz : w1.heap.size = w.heap.size + 2)
    (ho : CfgOk cm)
    (HMA : Hid (Calls Try.prog 21 #[.agg #[.int .i64 cols, .int .i64 rows, .int .i64 side, .int .i64 radius, .int .i64 speed, .int .i64 ids, .int .i64 queue], v] w1 fun e w' => ∃ p q R kk, e = .returned (.tuple #[.pointer (some ⟨p, 0, none⟩), .pointer (some ⟨q, 0, none⟩)]) ∧ kk ≤ 3000 ∧ Own w1 w' ((deskO p cm D).and ((rdeskO q R cm kk D).and .nil))))
    (hla : lookF cm D ⟨k, s, i, g, ⟨es, ei, eg, m, x, y, vx, vy, hp, pw, lf⟩, mask⟩ = (⟨k, s, i, g, ⟨s', i', g', m, x, y, vx, vy, hp, pw, lf⟩, mask⟩, false, 0)) :
    Calls Try.prog 8 #[.agg #[.int .i64 cols, .int .i64 rows, .int .i64 side, .int .i64 radius, .int .i64 speed, .int .i64 ids, .int .i64 queue], v, .agg #[.int .i64 k, .int .i64 s, .int .i64 i, .int .i64 g, .int .i64 es, .int .i64 ei, .int .i64 eg, .int .i64 m, .int .i64 x, .int .i64 y, .int .i64 vx, .int .i64 vy, .int .i64 hp, .int .i64 pw, .int .i64 lf, .int .i64 mask]] w fun e w' => e = .returned (.bool true) ∧ Below w.heap.size w w' := by
  have HO := Lib.hid ho
  have HW1 := Lib.hid hw1
  have HB1 := Lib.hid hb1
  have HLA := Lib.hid hla
  have s6 : w.heap.size < w1.heap.size := by omega
  have s7 : w.heap.size + 1 < w1.heap.size := by omega
  have HC : Hid (∀ W, Below w1.heap.size w1 W → ∀ j, W.cell? ⟨w.heap.size, j, none⟩ = (#[.int .i64 cols, .int .i64 rows, .int .i64 side, .int .i64 radius, .int .i64 speed, .int .i64 ids, .int .i64 queue] : Array Value)[j]?) := Lib.hid (fun W hW j => (hW.cell (p := ⟨w.heap.size, j, none⟩) s6).trans (k0 j))
  have HM : Hid (∀ W, Below w1.heap.size w1 W → ∀ j, W.cell? ⟨w.heap.size + 1, j, none⟩ = (#[.int .i64 k, .int .i64 s, .int .i64 i, .int .i64 g, .int .i64 es, .int .i64 ei, .int .i64 eg, .int .i64 m, .int .i64 x, .int .i64 y, .int .i64 vx, .int .i64 vy, .int .i64 hp, .int .i64 pw, .int .i64 lf, .int .i64 mask] : Array Value)[j]?) := Lib.hid (fun W hW j => (hW.cell (p := ⟨w.heap.size + 1, j, none⟩) s7).trans (k1 j))
  have q5 := HM.out w1 (Below.refl _ _)
  have hL5 : (ldM ⟨w.heap.size + 1, 0, none⟩).run Try.prog w1 = .ok (.agg #[.int .i64 k, .int .i64 s, .int .i64 i, .int .i64 g, .int .i64 es, .int .i64 ei, .int .i64 eg, .int .i64 m, .int .i64 x, .int .i64 y, .int .i64 vx, .int .i64 vy, .int .i64 hp, .int .i64 pw, .int .i64 lf, .int .i64 mask]) w1 := ldM_of ⟨k, s, i, g, ⟨es, ei, eg, m, x, y, vx, vy, hp, pw, lf⟩, mask⟩ fun j v hj => by rw [Nat.zero_add, q5 j, List.getElem?_toArray]; exact hj
  have y0 := HC.out w1 (Below.refl _ _) 0; simp at y0; have y1 := HC.out w1 (Below.refl _ _) 1; simp at y1; have y2 := HC.out w1 (Below.refl _ _) 2; simp at y2; have y3 := HC.out w1 (Below.refl _ _) 3; simp at y3; have y4 := HC.out w1 (Below.refl _ _) 4; simp at y4; have y5 := HC.out w1 (Below.refl _ _) 5; simp at y5; have y6 := HC.out w1 (Below.refl _ _) 6; simp at y6
  have HS := Lib.hid (show w.heap.size + 2 ≤ w1.heap.size by omega)
  clear hw1 hb1 k0 k1 hsz ho hla q5 s6 s7
  go_enter Try.func8, Try.ntmps8
  go_upto_region 1 with fail
  rw [HW1.out]
  go_wp2_with fail
  refine HMA.out.mono ?_
  rintro e w2 ⟨p, q, R, kk, rfl, hkk, h2⟩
  have H2 := Lib.hid h2
  have HLK : Hid (∀ W E, Own w1 W ((deskO p cm D).and E) → Calls Try.prog 13 #[.pointer (some ⟨p, 0, none⟩), .agg #[.int .i64 k, .int .i64 s, .int .i64 i, .int .i64 g, .int .i64 es, .int .i64 ei, .int .i64 eg, .int .i64 m, .int .i64 x, .int .i64 y, .int .i64 vx, .int .i64 vy, .int .i64 hp, .int .i64 pw, .int .i64 lf, .int .i64 mask]] W fun e w' => e = .returned (.tuple #[.agg #[.int .i64 k, .int .i64 s, .int .i64 i, .int .i64 g, .int .i64 s', .int .i64 i', .int .i64 g', .int .i64 m, .int .i64 x, .int .i64 y, .int .i64 vx, .int .i64 vy, .int .i64 hp, .int .i64 pw, .int .i64 lf, .int .i64 mask], .bool false, .int .i64 0]) ∧ Below W.heap.size W w') := Lib.hid (fun W E hW => by have := look_o hW HO.out ⟨k, s, i, g, ⟨es, ei, eg, m, x, y, vx, vy, hp, pw, lf⟩, mask⟩; rw [HLA.out] at this; exact this)
  have q5 := HM.out w2 h2.below
  clear hL5 y0 y1 y2 y3 y4 y5 y6
  have hL5 : (ldM ⟨w.heap.size + 1, 0, none⟩).run Try.prog w2 = .ok (.agg #[.int .i64 k, .int .i64 s, .int .i64 i, .int .i64 g, .int .i64 es, .int .i64 ei, .int .i64 eg, .int .i64 m, .int .i64 x, .int .i64 y, .int .i64 vx, .int .i64 vy, .int .i64 hp, .int .i64 pw, .int .i64 lf, .int .i64 mask]) w2 := ldM_of ⟨k, s, i, g, ⟨es, ei, eg, m, x, y, vx, vy, hp, pw, lf⟩, mask⟩ fun j v hj => by rw [Nat.zero_add, q5 j, List.getElem?_toArray]; exact hj
  clear h2 HMA HW1 q5 hkk
  go_wp2_with fail
  refine (HLK.out _ _ H2.out).mono ?_
  rintro e V1 ⟨rfl, hb3⟩
  obtain ⟨w3, hs3, hm3⟩ := new_cmO V1 ⟨k, s, i, g, ⟨s', i', g', m, x, y, vx, vy, hp, pw, lf⟩, mask⟩
  have H3 := Lib.hid (((H2.out.grow hb3).made hm3).new3)
  have hs3' : (stM ⟨V1.heap.size, 0, none⟩ (.agg #[.int .i64 k, .int .i64 s, .int .i64 i, .int .i64 g, .int .i64 s', .int .i64 i', .int .i64 g', .int .i64 m, .int .i64 x, .int .i64 y, .int .i64 vx, .int .i64 vy, .int .i64 hp, .int .i64 pw, .int .i64 lf, .int .i64 mask])).run Try.prog (V1.alloc (.cells #[.int .i64 0, .int .i64 0, .int .i64 0, .int .i64 0, .int .i64 0, .int .i64 0, .int .i64 0, .int .i64 0, .int .i64 0, .int .i64 0, .int .i64 0, .int .i64 0, .int .i64 0, .int .i64 0, .int .i64 0, .int .i64 0] 37)) = .ok () w3 := hs3
  have q5 := HM.out w3 H3.out.below
  clear hL5
  have hL5 : (ldM ⟨w.heap.size + 1, 0, none⟩).run Try.prog w3 = .ok (.agg #[.int .i64 k, .int .i64 s, .int .i64 i, .int .i64 g, .int .i64 es, .int .i64 ei, .int .i64 eg, .int .i64 m, .int .i64 x, .int .i64 y, .int .i64 vx, .int .i64 vy, .int .i64 hp, .int .i64 pw, .int .i64 lf, .int .i64 mask]) w3 := ldM_of ⟨k, s, i, g, ⟨es, ei, eg, m, x, y, vx, vy, hp, pw, lf⟩, mask⟩ fun j v hj => by rw [Nat.zero_add, q5 j, List.getElem?_toArray]; exact hj
  clear hs3 hm3 hb3 q5 H2
  go_wp2_with fail
  refine (HLK.out _ _ H3.out).mono ?_
  rintro e V2 ⟨rfl, hb4⟩
  obtain ⟨w4, hs4, hm4⟩ := new_cmO V2 ⟨k, s, i, g, ⟨s', i', g', m, x, y, vx, vy, hp, pw, lf⟩, mask⟩
  have H4 := Lib.hid (((H3.out.grow hb4).made hm4).new3)
  have hs4' : (stM ⟨V2.heap.size, 0, none⟩ (.agg #[.int .i64 k, .int .i64 s, .int .i64 i, .int .i64 g, .int .i64 s', .int .i64 i', .int .i64 g', .int .i64 m, .int .i64 x, .int .i64 y, .int .i64 vx, .int .i64 vy, .int .i64 hp, .int .i64 pw, .int .i64 lf, .int .i64 mask])).run Try.prog (V2.alloc (.cells #[.int .i64 0, .int .i64 0, .int .i64 0, .int .i64 0, .int .i64 0, .int .i64 0, .int .i64 0, .int .i64 0, .int .i64 0, .int .i64 0, .int .i64 0, .int .i64 0, .int .i64 0, .int .i64 0, .int .i64 0, .int .i64 0] 37)) = .ok () w4 := hs4
  clear hs4 hm4 hb4 hL5 hs3' H3 HLK
  go_wp2_with fail
  refine (alike16_any _ _ _ p q R cm kk D H4.out HO.out).mono ?_
  rintro e w5 ⟨rfl, h5⟩
  have H5 := Lib.hid h5
  have b12 := h5.third.box.1
  have b9 := h5.fourth.box.1
  have q5 := HM.out w5 h5.below
  have hL9 : (ldM ⟨V1.heap.size, 0, none⟩).run Try.prog w5 = .ok (.agg #[.int .i64 k, .int .i64 s, .int .i64 i, .int .i64 g, .int .i64 s', .int .i64 i', .int .i64 g', .int .i64 m, .int .i64 x, .int .i64 y, .int .i64 vx, .int .i64 vy, .int .i64 hp, .int .i64 pw, .int .i64 lf, .int .i64 mask]) w5 := ldM_of ⟨k, s, i, g, ⟨s', i', g', m, x, y, vx, vy, hp, pw, lf⟩, mask⟩ fun j v hj => by rw [Nat.zero_add, b9, List.getElem?_toArray]; exact hj
  have hL12 : (ldM ⟨V2.heap.size, 0, none⟩).run Try.prog w5 = .ok (.agg #[.int .i64 k, .int .i64 s, .int .i64 i, .int .i64 g, .int .i64 s', .int .i64 i', .int .i64 g', .int .i64 m, .int .i64 x, .int .i64 y, .int .i64 vx, .int .i64 vy, .int .i64 hp, .int .i64 pw, .int .i64 lf, .int .i64 mask]) w5 := ldM_of ⟨k, s, i, g, ⟨s', i', g', m, x, y, vx, vy, hp, pw, lf⟩, mask⟩ fun j v hj => by rw [Nat.zero_add, b12, List.getElem?_toArray]; exact hj
  have hL5 : (ldM ⟨w.heap.size + 1, 0, none⟩).run Try.prog w5 = .ok (.agg #[.int .i64 k, .int .i64 s, .int .i64 i, .int .i64 g, .int .i64 es, .int .i64 ei, .int .i64 eg, .int .i64 m, .int .i64 x, .int .i64 y, .int .i64 vx, .int .i64 vy, .int .i64 hp, .int .i64 pw, .int .i64 lf, .int .i64 mask]) w5 := ldM_of ⟨k, s, i, g, ⟨es, ei, eg, m, x, y, vx, vy, hp, pw, lf⟩, mask⟩ fun j v hj => by rw [Nat.zero_add, q5 j, List.getElem?_toArray]; exact hj
  have heq : cmEq ⟨k, s, i, g, ⟨s', i', g', m, x, y, vx, vy, hp, pw, lf⟩, mask⟩ ⟨k, s, i, g, ⟨s', i', g', m, x, y, vx, vy, hp, pw, lf⟩, mask⟩ = true := cmEq_self _
  have x0 := q5 0
  simp at x0
  clear h5 b12 b9 H4 hs4' q5
  have hk := HK.out
  clear HK
  subst hk
  obtain ⟨⟨rw, put, hsim⟩, _⟩ := H5.out.swap.bounds
  obtain ⟨s2, i2, g2, ha, hnew, hof, hadm, hadm2⟩ := (look_adm cm D _ _ _ hsim.good hsim.pos.2.2 HLA.out).1 rfl
  simp only [nameCm, Cm.mk.injEq, Bun.mk.injEq, true_and, and_true] at ha
  obtain ⟨rfl, rfl, rfl⟩ := ha
  have hz : es = 0 ∧ ei = 0 ∧ eg = 0 := by simpa [newB, idEq, and_assoc] using hnew
  obtain ⟨rfl, rfl, rfl⟩ := hz
  have hadm := hadm rfl
  simp only at hof
  have HOF : Hid (∀ W, Calls Try.prog 31 #[.agg #[.int .i64 cm.cols, .int .i64 cm.rows, .int .i64 cm.side, .int .i64 cm.radius, .int .i64 cm.speed, .int .i64 cm.ids, .int .i64 cm.queue], .int .i64 x, .int .i64 y] W fun e w' => e = .returned (.int .i64 s') ∧ Below W.heap.size W w') := Lib.hid (fun W => by have := rof_any _ _ _ _ _ _ _ x y W HO.out; rw [hof] at this; exact this)
  have HAD : Hid (∀ W E, Own w1 W ((deskO p cm D).and E) → Calls Try.prog 15 #[.pointer (some ⟨p, 0, none⟩), .agg #[.int .i64 1, .int .i64 s, .int .i64 i, .int .i64 g, .int .i64 s', .int .i64 i', .int .i64 g', .int .i64 m, .int .i64 x, .int .i64 y, .int .i64 vx, .int .i64 vy, .int .i64 hp, .int .i64 pw, .int .i64 lf, .int .i64 mask]] W fun e w' => e = .returned (.int .i64 0) ∧ Own w1 w' ((deskO p cm (admitF cm D ⟨1, s, i, g, ⟨s', i', g', m, x, y, vx, vy, hp, pw, lf⟩, mask⟩).2).and E)) := Lib.hid (fun W E hW => by have := admit_o hW HO.out ⟨1, s, i, g, ⟨s', i', g', m, x, y, vx, vy, hp, pw, lf⟩, mask⟩; rw [hadm] at this; exact this)
  
  clear hsim hadm hnew hof hadm2
  go_upto_region 11 with fail
  have hS5 : (w.heap.size < w5.heap.size ∧ w.heap.size + 1 < w5.heap.size ∧ V1.heap.size < w5.heap.size) ∧ (∀ j, w5.cell? ⟨w.heap.size, j, none⟩ = (#[.int .i64 cols, .int .i64 rows, .int .i64 side, .int .i64 radius, .int .i64 speed, .int .i64 ids, .int .i64 queue] : Array Value)[j]?) ∧ (∀ j, w5.cell? ⟨w.heap.size + 1, j, none⟩ = (#[.int .i64 1, .int .i64 s, .int .i64 i, .int .i64 g, .int .i64 0, .int .i64 0, .int .i64 0, .int .i64 m, .int .i64 x, .int .i64 y, .int .i64 vx, .int .i64 vy, .int .i64 hp, .int .i64 pw, .int .i64 lf, .int .i64 mask] : Array Value)[j]?) ∧ (∀ j, w5.cell? ⟨V1.heap.size, j, none⟩ = (#[.int .i64 1, .int .i64 s, .int .i64 i, .int .i64 g, .int .i64 s', .int .i64 i', .int .i64 g', .int .i64 m, .int .i64 x, .int .i64 y, .int .i64 vx, .int .i64 vy, .int .i64 hp, .int .i64 pw, .int .i64 lf, .int .i64 mask] : Array Value)[j]?) := ⟨⟨by have := H5.out.below.size; have := HS.out; omega, by have := H5.out.below.size; have := HS.out; omega, H5.out.fourth.box.2.2.1⟩, HC.out w5 H5.out.below, HM.out w5 H5.out.below, H5.out.fourth.box.1⟩
  clear hL9 hL12 hL5 x0
  have hL9 : ∀ W : World, (∀ j, W.cell? ⟨V1.heap.size, j, none⟩ = (#[.int .i64 1, .int .i64 s, .int .i64 i, .int .i64 g, .int .i64 s', .int .i64 i', .int .i64 g', .int .i64 m, .int .i64 x, .int .i64 y, .int .i64 vx, .int .i64 vy, .int .i64 hp, .int .i64 pw, .int .i64 lf, .int .i64 mask] : Array Value)[j]?) → (ldM ⟨V1.heap.size, 0, none⟩).run Try.prog W = .ok (.agg #[.int .i64 1, .int .i64 s, .int .i64 i, .int .i64 g, .int .i64 s', .int .i64 i', .int .i64 g', .int .i64 m, .int .i64 x, .int .i64 y, .int .i64 vx, .int .i64 vy, .int .i64 hp, .int .i64 pw, .int .i64 lf, .int .i64 mask]) W := fun W hW => ldM_of ⟨1, s, i, g, ⟨s', i', g', m, x, y, vx, vy, hp, pw, lf⟩, mask⟩ fun j v hj => by rw [Nat.zero_add, hW j, List.getElem?_toArray]; exact hj
  go_region_held3 (fun W => (w.heap.size < W.heap.size ∧ w.heap.size + 1 < W.heap.size ∧ V1.heap.size < W.heap.size) ∧ (∀ j, W.cell? ⟨w.heap.size, j, none⟩ = (#[.int .i64 cols, .int .i64 rows, .int .i64 side, .int .i64 radius, .int .i64 speed, .int .i64 ids, .int .i64 queue] : Array Value)[j]?) ∧ (∀ j, W.cell? ⟨w.heap.size + 1, j, none⟩ = (#[.int .i64 1, .int .i64 s, .int .i64 i, .int .i64 g, .int .i64 0, .int .i64 0, .int .i64 0, .int .i64 m, .int .i64 x, .int .i64 y, .int .i64 vx, .int .i64 vy, .int .i64 hp, .int .i64 pw, .int .i64 lf, .int .i64 mask] : Array Value)[j]?) ∧ (∀ j, W.cell? ⟨V1.heap.size, j, none⟩ = (#[.int .i64 1, .int .i64 s, .int .i64 i, .int .i64 g, .int .i64 s', .int .i64 i', .int .i64 g', .int .i64 m, .int .i64 x, .int .i64 y, .int .i64 vx, .int .i64 vy, .int .i64 hp, .int .i64 pw, .int .i64 lf, .int .i64 mask] : Array Value)[j]?)) (with_reducible (repeat (first | assumption | refine keep3 ?_ _ _ | refine keep3d ?_))) (first | (go_at_call 15; have hq := HAD.out _ _ (H5.out.grow (show Below w5.heap.size w5 w5.drew from (by repeat' (first | (with_reducible exact Below.refl _ _) | (with_reducible assumption) | (with_reducible refine below_drewN ?_ _) | (with_reducible refine below_more _ _ _ ?_ ?_) | (with_reducible refine Below.alloc ?_ ?_ _) | (with_reducible refine Below.drew ?_) | (with_reducible refine Below.setCell ?_ ?_ _) | go_size)))); (with_reducible refine hq.mono ?_); clear hq; rintro e w6 ⟨rfl, h6⟩; have H6 := Lib.hid h6; have hS6 : (w.heap.size < w6.heap.size ∧ w.heap.size + 1 < w6.heap.size ∧ V1.heap.size < w6.heap.size) ∧ (∀ j, w6.cell? ⟨w.heap.size, j, none⟩ = (#[.int .i64 cols, .int .i64 rows, .int .i64 side, .int .i64 radius, .int .i64 speed, .int .i64 ids, .int .i64 queue] : Array Value)[j]?) ∧ (∀ j, w6.cell? ⟨w.heap.size + 1, j, none⟩ = (#[.int .i64 1, .int .i64 s, .int .i64 i, .int .i64 g, .int .i64 0, .int .i64 0, .int .i64 0, .int .i64 m, .int .i64 x, .int .i64 y, .int .i64 vx, .int .i64 vy, .int .i64 hp, .int .i64 pw, .int .i64 lf, .int .i64 mask] : Array Value)[j]?) ∧ (∀ j, w6.cell? ⟨V1.heap.size, j, none⟩ = (#[.int .i64 1, .int .i64 s, .int .i64 i, .int .i64 g, .int .i64 s', .int .i64 i', .int .i64 g', .int .i64 m, .int .i64 x, .int .i64 y, .int .i64 vx, .int .i64 vy, .int .i64 hp, .int .i64 pw, .int .i64 lf, .int .i64 mask] : Array Value)[j]?) := ⟨⟨by have := h6.below.size; have := HS.out; omega, by have := h6.below.size; have := HS.out; omega, h6.fourth.box.2.2.1⟩, HC.out w6 h6.below, HM.out w6 h6.below, h6.fourth.box.1⟩; clear h6) | (go_at_call 11; refine (HMY.out _).mono ?_; rintro e w' ⟨rfl, hb⟩; obtain ⟨d, os, rfl⟩ := more_of hb; clear hb) | (go_at_call 31; refine (HOF.out _).mono ?_; rintro e w' ⟨rfl, hb⟩; obtain ⟨d, os, rfl⟩ := more_of hb; clear hb))
  go_upto_region 13 with fail
  generalize hW7 : more _ _ _ = W7
  have h7 := H6.out.grow (show Below w6.heap.size w6 W7 from by rw [← hW7]; exact (by repeat' (first | (with_reducible exact Below.refl _ _) | (with_reducible assumption) | (with_reducible refine below_drewN ?_ _) | (with_reducible refine below_more _ _ _ ?_ ?_) | (with_reducible refine Below.alloc ?_ ?_ _) | (with_reducible refine Below.drew ?_) | (with_reducible refine Below.setCell ?_ ?_ _) | go_size)))
  have hbx := h7.fourth.box
  have hst := st_id (W := W7) (b := V1.heap.size) (o := 4) (fun j hj => by rw [hbx.1]; rcases (by omega : j = 0 ∨ j = 1 ∨ j = 2) with rfl | rfl | rfl <;> rfl) (fun j => hbx.2.1 j)
  have h8 := ((h7.fourth.set 4 (.int .i64 0)).set 5 (.int .i64 0)).set 6 (.int .i64 0)
  obtain ⟨W8, hW8⟩ : ∃ W8, W8 = ((W7.setCell ⟨V1.heap.size, 4, none⟩ (.int .i64 0)).setCell ⟨V1.heap.size, 5, none⟩ (.int .i64 0)).setCell ⟨V1.heap.size, 6, none⟩ (.int .i64 0) := ⟨_, rfl⟩
  rw [← hW8] at h8 hst
  have b8 := h8.box.1
  have q8 := HM.out W8 h8.below
  have H8 := Lib.hid h8
  have hL9 : (ldM ⟨V1.heap.size, 0, none⟩).run Try.prog W8 = .ok (.agg #[.int .i64 1, .int .i64 s, .int .i64 i, .int .i64 g, .int .i64 0, .int .i64 0, .int .i64 0, .int .i64 m, .int .i64 x, .int .i64 y, .int .i64 vx, .int .i64 vy, .int .i64 hp, .int .i64 pw, .int .i64 lf, .int .i64 mask]) W8 := ldM_of ⟨1, s, i, g, ⟨0, 0, 0, m, x, y, vx, vy, hp, pw, lf⟩, mask⟩ fun j v hj => by rw [Nat.zero_add, b8, List.getElem?_toArray]; exact hj
  have hL5 : (ldM ⟨w.heap.size + 1, 0, none⟩).run Try.prog W8 = .ok (.agg #[.int .i64 1, .int .i64 s, .int .i64 i, .int .i64 g, .int .i64 0, .int .i64 0, .int .i64 0, .int .i64 m, .int .i64 x, .int .i64 y, .int .i64 vx, .int .i64 vy, .int .i64 hp, .int .i64 pw, .int .i64 lf, .int .i64 mask]) W8 := ldM_of ⟨1, s, i, g, ⟨0, 0, 0, m, x, y, vx, vy, hp, pw, lf⟩, mask⟩ fun j v hj => by rw [Nat.zero_add, q8, List.getElem?_toArray]; exact hj
  have heq : cmEq ⟨1, s, i, g, ⟨0, 0, 0, m, x, y, vx, vy, hp, pw, lf⟩, mask⟩ ⟨1, s, i, g, ⟨0, 0, 0, m, x, y, vx, vy, hp, pw, lf⟩, mask⟩ = true := cmEq_self _
  clear hbx h8 hW8 h7 b8 q8 hW7 hS5 hS6
  go_wp2_with (go_at_call 20; refine (awake16 _).mono ?_; rintro e w' ⟨rfl, hb⟩; obtain ⟨d, os, rfl⟩ := more_of hb; clear hb)
  go_ret
  exact ⟨rfl, HB1.out.trans (Below.mono (B := w1.heap.size) (H8.out.below.trans (Below.mono (B := W8.heap.size) (by repeat' (first | (with_reducible exact Below.refl _ _) | (with_reducible assumption) | (with_reducible refine below_drewN ?_ _) | (with_reducible refine below_more _ _ _ ?_ ?_) | (with_reducible refine Below.alloc ?_ ?_ _) | (with_reducible refine Below.drew ?_) | (with_reducible refine Below.setCell ?_ ?_ _) | go_size)) H8.out.below.size)) HB1.out.size)⟩

set_option maxRecDepth 100000 in
set_option maxHeartbeats 4000000 in
theorem way_must (cols rows side radius speed ids queue k s i g es ei eg m x y vx vy hp pw lf mask : Int) (v : Value) (w w1 : World) (cm : Cfg) (D : Dk) (s' i' g' : Int) (HK : Hid (k = 1)) (HMY : Hid (∀ W, Calls Try.prog 11 #[.agg #[.int .i64 cols, .int .i64 rows, .int .i64 side, .int .i64 radius, .int .i64 speed, .int .i64 ids, .int .i64 queue]] W fun e w' => e = .returned (.agg #[.int .i64 cm.cols, .int .i64 cm.rows, .int .i64 cm.side, .int .i64 cm.radius, .int .i64 cm.speed, .int .i64 cm.ids, .int .i64 cm.queue]) ∧ Below W.heap.size W w'))
    (hw1 : (w.alloc (.cells #[.int .i64 cols, .int .i64 rows, .int .i64 side, .int .i64 radius, .int .i64 speed, .int .i64 ids, .int .i64 queue] 23)).alloc (.cells #[.int .i64 k, .int .i64 s, .int .i64 i, .int .i64 g, .int .i64 es, .int .i64 ei, .int .i64 eg, .int .i64 m, .int .i64 x, .int .i64 y, .int .i64 vx, .int .i64 vy, .int .i64 hp, .int .i64 pw, .int .i64 lf, .int .i64 mask] 37) = w1) (hb1 : Below w.heap.size w w1) (k0 : ∀ j, w1.cell? ⟨w.heap.size, j, none⟩ = (#[.int .i64 cols, .int .i64 rows, .int .i64 side, .int .i64 radius, .int .i64 speed, .int .i64 ids, .int .i64 queue] : Array Value)[j]?) (k1 : ∀ j, w1.cell? ⟨w.heap.size + 1, j, none⟩ = (#[.int .i64 k, .int .i64 s, .int .i64 i, .int .i64 g, .int .i64 es, .int .i64 ei, .int .i64 eg, .int .i64 m, .int .i64 x, .int .i64 y, .int .i64 vx, .int .i64 vy, .int .i64 hp, .int .i64 pw, .int .i64 lf, .int .i64 mask] : Array Value)[j]?) (hsz : w1.heap.size = w.heap.size + 2)
    (ho : CfgOk cm)
    (HMA : Hid (Calls Try.prog 21 #[.agg #[.int .i64 cols, .int .i64 rows, .int .i64 side, .int .i64 radius, .int .i64 speed, .int .i64 ids, .int .i64 queue], v] w1 fun e w' => ∃ p q R kk, e = .returned (.tuple #[.pointer (some ⟨p, 0, none⟩), .pointer (some ⟨q, 0, none⟩)]) ∧ kk ≤ 3000 ∧ Own w1 w' ((deskO p cm D).and ((rdeskO q R cm kk D).and .nil))))
    (hla : lookF cm D ⟨k, s, i, g, ⟨es, ei, eg, m, x, y, vx, vy, hp, pw, lf⟩, mask⟩ = (⟨k, s, i, g, ⟨s', i', g', m, x, y, vx, vy, hp, pw, lf⟩, mask⟩, true, 0)) :
    Calls Try.prog 8 #[.agg #[.int .i64 cols, .int .i64 rows, .int .i64 side, .int .i64 radius, .int .i64 speed, .int .i64 ids, .int .i64 queue], v, .agg #[.int .i64 k, .int .i64 s, .int .i64 i, .int .i64 g, .int .i64 es, .int .i64 ei, .int .i64 eg, .int .i64 m, .int .i64 x, .int .i64 y, .int .i64 vx, .int .i64 vy, .int .i64 hp, .int .i64 pw, .int .i64 lf, .int .i64 mask]] w fun e w' => e = .returned (.bool true) ∧ Below w.heap.size w w' := by
  have HO := Lib.hid ho
  have HW1 := Lib.hid hw1
  have HB1 := Lib.hid hb1
  have HLA := Lib.hid hla
  have s6 : w.heap.size < w1.heap.size := by omega
  have s7 : w.heap.size + 1 < w1.heap.size := by omega
  have HC : Hid (∀ W, Below w1.heap.size w1 W → ∀ j, W.cell? ⟨w.heap.size, j, none⟩ = (#[.int .i64 cols, .int .i64 rows, .int .i64 side, .int .i64 radius, .int .i64 speed, .int .i64 ids, .int .i64 queue] : Array Value)[j]?) := Lib.hid (fun W hW j => (hW.cell (p := ⟨w.heap.size, j, none⟩) s6).trans (k0 j))
  have HM : Hid (∀ W, Below w1.heap.size w1 W → ∀ j, W.cell? ⟨w.heap.size + 1, j, none⟩ = (#[.int .i64 k, .int .i64 s, .int .i64 i, .int .i64 g, .int .i64 es, .int .i64 ei, .int .i64 eg, .int .i64 m, .int .i64 x, .int .i64 y, .int .i64 vx, .int .i64 vy, .int .i64 hp, .int .i64 pw, .int .i64 lf, .int .i64 mask] : Array Value)[j]?) := Lib.hid (fun W hW j => (hW.cell (p := ⟨w.heap.size + 1, j, none⟩) s7).trans (k1 j))
  have q5 := HM.out w1 (Below.refl _ _)
  have hL5 : (ldM ⟨w.heap.size + 1, 0, none⟩).run Try.prog w1 = .ok (.agg #[.int .i64 k, .int .i64 s, .int .i64 i, .int .i64 g, .int .i64 es, .int .i64 ei, .int .i64 eg, .int .i64 m, .int .i64 x, .int .i64 y, .int .i64 vx, .int .i64 vy, .int .i64 hp, .int .i64 pw, .int .i64 lf, .int .i64 mask]) w1 := ldM_of ⟨k, s, i, g, ⟨es, ei, eg, m, x, y, vx, vy, hp, pw, lf⟩, mask⟩ fun j v hj => by rw [Nat.zero_add, q5 j, List.getElem?_toArray]; exact hj
  have y0 := HC.out w1 (Below.refl _ _) 0; simp at y0; have y1 := HC.out w1 (Below.refl _ _) 1; simp at y1; have y2 := HC.out w1 (Below.refl _ _) 2; simp at y2; have y3 := HC.out w1 (Below.refl _ _) 3; simp at y3; have y4 := HC.out w1 (Below.refl _ _) 4; simp at y4; have y5 := HC.out w1 (Below.refl _ _) 5; simp at y5; have y6 := HC.out w1 (Below.refl _ _) 6; simp at y6
  have HS := Lib.hid (show w.heap.size + 2 ≤ w1.heap.size by omega)
  clear hw1 hb1 k0 k1 hsz ho hla q5 s6 s7
  go_enter Try.func8, Try.ntmps8
  go_upto_region 1 with fail
  rw [HW1.out]
  go_wp2_with fail
  refine HMA.out.mono ?_
  rintro e w2 ⟨p, q, R, kk, rfl, hkk, h2⟩
  have H2 := Lib.hid h2
  have HLK : Hid (∀ W E, Own w1 W ((deskO p cm D).and E) → Calls Try.prog 13 #[.pointer (some ⟨p, 0, none⟩), .agg #[.int .i64 k, .int .i64 s, .int .i64 i, .int .i64 g, .int .i64 es, .int .i64 ei, .int .i64 eg, .int .i64 m, .int .i64 x, .int .i64 y, .int .i64 vx, .int .i64 vy, .int .i64 hp, .int .i64 pw, .int .i64 lf, .int .i64 mask]] W fun e w' => e = .returned (.tuple #[.agg #[.int .i64 k, .int .i64 s, .int .i64 i, .int .i64 g, .int .i64 s', .int .i64 i', .int .i64 g', .int .i64 m, .int .i64 x, .int .i64 y, .int .i64 vx, .int .i64 vy, .int .i64 hp, .int .i64 pw, .int .i64 lf, .int .i64 mask], .bool true, .int .i64 0]) ∧ Below W.heap.size W w') := Lib.hid (fun W E hW => by have := look_o hW HO.out ⟨k, s, i, g, ⟨es, ei, eg, m, x, y, vx, vy, hp, pw, lf⟩, mask⟩; rw [HLA.out] at this; exact this)
  have q5 := HM.out w2 h2.below
  clear hL5 y0 y1 y2 y3 y4 y5 y6
  have hL5 : (ldM ⟨w.heap.size + 1, 0, none⟩).run Try.prog w2 = .ok (.agg #[.int .i64 k, .int .i64 s, .int .i64 i, .int .i64 g, .int .i64 es, .int .i64 ei, .int .i64 eg, .int .i64 m, .int .i64 x, .int .i64 y, .int .i64 vx, .int .i64 vy, .int .i64 hp, .int .i64 pw, .int .i64 lf, .int .i64 mask]) w2 := ldM_of ⟨k, s, i, g, ⟨es, ei, eg, m, x, y, vx, vy, hp, pw, lf⟩, mask⟩ fun j v hj => by rw [Nat.zero_add, q5 j, List.getElem?_toArray]; exact hj
  clear h2 HMA HW1 q5 hkk
  go_wp2_with fail
  refine (HLK.out _ _ H2.out).mono ?_
  rintro e V1 ⟨rfl, hb3⟩
  obtain ⟨w3, hs3, hm3⟩ := new_cmO V1 ⟨k, s, i, g, ⟨s', i', g', m, x, y, vx, vy, hp, pw, lf⟩, mask⟩
  have H3 := Lib.hid (((H2.out.grow hb3).made hm3).new3)
  have hs3' : (stM ⟨V1.heap.size, 0, none⟩ (.agg #[.int .i64 k, .int .i64 s, .int .i64 i, .int .i64 g, .int .i64 s', .int .i64 i', .int .i64 g', .int .i64 m, .int .i64 x, .int .i64 y, .int .i64 vx, .int .i64 vy, .int .i64 hp, .int .i64 pw, .int .i64 lf, .int .i64 mask])).run Try.prog (V1.alloc (.cells #[.int .i64 0, .int .i64 0, .int .i64 0, .int .i64 0, .int .i64 0, .int .i64 0, .int .i64 0, .int .i64 0, .int .i64 0, .int .i64 0, .int .i64 0, .int .i64 0, .int .i64 0, .int .i64 0, .int .i64 0, .int .i64 0] 37)) = .ok () w3 := hs3
  have q5 := HM.out w3 H3.out.below
  clear hL5
  have hL5 : (ldM ⟨w.heap.size + 1, 0, none⟩).run Try.prog w3 = .ok (.agg #[.int .i64 k, .int .i64 s, .int .i64 i, .int .i64 g, .int .i64 es, .int .i64 ei, .int .i64 eg, .int .i64 m, .int .i64 x, .int .i64 y, .int .i64 vx, .int .i64 vy, .int .i64 hp, .int .i64 pw, .int .i64 lf, .int .i64 mask]) w3 := ldM_of ⟨k, s, i, g, ⟨es, ei, eg, m, x, y, vx, vy, hp, pw, lf⟩, mask⟩ fun j v hj => by rw [Nat.zero_add, q5 j, List.getElem?_toArray]; exact hj
  clear hs3 hm3 hb3 q5 H2
  go_wp2_with fail
  refine (HLK.out _ _ H3.out).mono ?_
  rintro e V2 ⟨rfl, hb4⟩
  obtain ⟨w4, hs4, hm4⟩ := new_cmO V2 ⟨k, s, i, g, ⟨s', i', g', m, x, y, vx, vy, hp, pw, lf⟩, mask⟩
  have H4 := Lib.hid (((H3.out.grow hb4).made hm4).new3)
  have hs4' : (stM ⟨V2.heap.size, 0, none⟩ (.agg #[.int .i64 k, .int .i64 s, .int .i64 i, .int .i64 g, .int .i64 s', .int .i64 i', .int .i64 g', .int .i64 m, .int .i64 x, .int .i64 y, .int .i64 vx, .int .i64 vy, .int .i64 hp, .int .i64 pw, .int .i64 lf, .int .i64 mask])).run Try.prog (V2.alloc (.cells #[.int .i64 0, .int .i64 0, .int .i64 0, .int .i64 0, .int .i64 0, .int .i64 0, .int .i64 0, .int .i64 0, .int .i64 0, .int .i64 0, .int .i64 0, .int .i64 0, .int .i64 0, .int .i64 0, .int .i64 0, .int .i64 0] 37)) = .ok () w4 := hs4
  clear hs4 hm4 hb4 hL5 hs3' H3 HLK
  go_wp2_with fail
  refine (alike16_any _ _ _ p q R cm kk D H4.out HO.out).mono ?_
  rintro e w5 ⟨rfl, h5⟩
  have H5 := Lib.hid h5
  have b12 := h5.third.box.1
  have b9 := h5.fourth.box.1
  have q5 := HM.out w5 h5.below
  have hL9 : (ldM ⟨V1.heap.size, 0, none⟩).run Try.prog w5 = .ok (.agg #[.int .i64 k, .int .i64 s, .int .i64 i, .int .i64 g, .int .i64 s', .int .i64 i', .int .i64 g', .int .i64 m, .int .i64 x, .int .i64 y, .int .i64 vx, .int .i64 vy, .int .i64 hp, .int .i64 pw, .int .i64 lf, .int .i64 mask]) w5 := ldM_of ⟨k, s, i, g, ⟨s', i', g', m, x, y, vx, vy, hp, pw, lf⟩, mask⟩ fun j v hj => by rw [Nat.zero_add, b9, List.getElem?_toArray]; exact hj
  have hL12 : (ldM ⟨V2.heap.size, 0, none⟩).run Try.prog w5 = .ok (.agg #[.int .i64 k, .int .i64 s, .int .i64 i, .int .i64 g, .int .i64 s', .int .i64 i', .int .i64 g', .int .i64 m, .int .i64 x, .int .i64 y, .int .i64 vx, .int .i64 vy, .int .i64 hp, .int .i64 pw, .int .i64 lf, .int .i64 mask]) w5 := ldM_of ⟨k, s, i, g, ⟨s', i', g', m, x, y, vx, vy, hp, pw, lf⟩, mask⟩ fun j v hj => by rw [Nat.zero_add, b12, List.getElem?_toArray]; exact hj
  have hL5 : (ldM ⟨w.heap.size + 1, 0, none⟩).run Try.prog w5 = .ok (.agg #[.int .i64 k, .int .i64 s, .int .i64 i, .int .i64 g, .int .i64 es, .int .i64 ei, .int .i64 eg, .int .i64 m, .int .i64 x, .int .i64 y, .int .i64 vx, .int .i64 vy, .int .i64 hp, .int .i64 pw, .int .i64 lf, .int .i64 mask]) w5 := ldM_of ⟨k, s, i, g, ⟨es, ei, eg, m, x, y, vx, vy, hp, pw, lf⟩, mask⟩ fun j v hj => by rw [Nat.zero_add, q5 j, List.getElem?_toArray]; exact hj
  have heq : cmEq ⟨k, s, i, g, ⟨s', i', g', m, x, y, vx, vy, hp, pw, lf⟩, mask⟩ ⟨k, s, i, g, ⟨s', i', g', m, x, y, vx, vy, hp, pw, lf⟩, mask⟩ = true := cmEq_self _
  have x0 := q5 0
  simp at x0
  clear h5 b12 b9 H4 hs4' q5
  have hk := HK.out
  clear HK
  subst hk
  obtain ⟨⟨rw, put, hsim⟩, _⟩ := H5.out.swap.bounds
  obtain ⟨s2, i2, g2, ha, hnew, hof, hadm, hadm2⟩ := (look_adm cm D _ _ _ hsim.good hsim.pos.2.2 HLA.out).1 rfl
  simp only [nameCm, Cm.mk.injEq, Bun.mk.injEq, true_and, and_true] at ha
  obtain ⟨rfl, rfl, rfl⟩ := ha
  have hz : es = 0 ∧ ei = 0 ∧ eg = 0 := by simpa [newB, idEq, and_assoc] using hnew
  obtain ⟨rfl, rfl, rfl⟩ := hz
  obtain ⟨had9, hadD, hres, hadm⟩ := hadm2 rfl
  simp only at hof
  have HOF : Hid (∀ W, Calls Try.prog 31 #[.agg #[.int .i64 cm.cols, .int .i64 cm.rows, .int .i64 cm.side, .int .i64 cm.radius, .int .i64 cm.speed, .int .i64 cm.ids, .int .i64 cm.queue], .int .i64 x, .int .i64 y] W fun e w' => e = .returned (.int .i64 s') ∧ Below W.heap.size W w') := Lib.hid (fun W => by have := rof_any _ _ _ _ _ _ _ x y W HO.out; rw [hof] at this; exact this)
  have HAD : Hid (∀ W E, Own w1 W ((deskO p cm (reservedF D s' i').2).and E) → Calls Try.prog 15 #[.pointer (some ⟨p, 0, none⟩), .agg #[.int .i64 1, .int .i64 s, .int .i64 i, .int .i64 g, .int .i64 s', .int .i64 i', .int .i64 g', .int .i64 m, .int .i64 x, .int .i64 y, .int .i64 vx, .int .i64 vy, .int .i64 hp, .int .i64 pw, .int .i64 lf, .int .i64 mask]] W fun e w' => e = .returned (.int .i64 0) ∧ Own w1 w' ((deskO p cm (admitF cm (reservedF D s' i').2 ⟨1, s, i, g, ⟨s', i', g', m, x, y, vx, vy, hp, pw, lf⟩, mask⟩).2).and E)) := Lib.hid (fun W E hW => by have := admit_o hW HO.out ⟨1, s, i, g, ⟨s', i', g', m, x, y, vx, vy, hp, pw, lf⟩, mask⟩; rw [hadm] at this; exact this)
  have HA9 : Hid (∀ W E, Own w1 W ((deskO p cm D).and E) → Calls Try.prog 15 #[.pointer (some ⟨p, 0, none⟩), .agg #[.int .i64 1, .int .i64 s, .int .i64 i, .int .i64 g, .int .i64 s', .int .i64 i', .int .i64 g', .int .i64 m, .int .i64 x, .int .i64 y, .int .i64 vx, .int .i64 vy, .int .i64 hp, .int .i64 pw, .int .i64 lf, .int .i64 mask]] W fun e w' => e = .returned (.int .i64 9) ∧ Own w1 w' ((deskO p cm D).and E)) := Lib.hid (fun W E hW => by have := admit_o hW HO.out ⟨1, s, i, g, ⟨s', i', g', m, x, y, vx, vy, hp, pw, lf⟩, mask⟩; rw [had9, hadD] at this; exact this)
  have HRS : Hid (∀ W E, Own w1 W ((deskO p cm D).and E) → Calls Try.prog 14 #[.pointer (some ⟨p, 0, none⟩), .int .i64 s', .int .i64 i'] W fun e w' => e = .returned (.int .i64 0) ∧ Own w1 w' ((deskO p cm (reservedF D s' i').2).and E)) := Lib.hid (fun W E hW => by have := reserve_o hW s' i'; rw [hres] at this; exact this)
  clear had9 hadD hres
  go_wp2_with fail
  refine (HA9.out _ _ H5.out).mono ?_
  rintro e wa ⟨rfl, ha⟩
  have Ha := Lib.hid ha
  have b9 := ha.fourth.box.1
  have c4 := b9 4
  have c5 := b9 5
  simp [cmC, bunL] at c4 c5
  clear ha b9 hL9 hL12 hL5 x0 HA9
  go_wp2_with fail
  refine (HRS.out _ _ Ha.out).mono ?_
  rintro e wb ⟨rfl, hb⟩
  have Hb := Lib.hid hb
  have b9 := hb.fourth.box.1
  have q5 := HM.out wb hb.below
  have x0 := q5 0
  simp at x0
  have hL9 : (ldM ⟨V1.heap.size, 0, none⟩).run Try.prog wb = .ok (.agg #[.int .i64 1, .int .i64 s, .int .i64 i, .int .i64 g, .int .i64 s', .int .i64 i', .int .i64 g', .int .i64 m, .int .i64 x, .int .i64 y, .int .i64 vx, .int .i64 vy, .int .i64 hp, .int .i64 pw, .int .i64 lf, .int .i64 mask]) wb := ldM_of ⟨1, s, i, g, ⟨s', i', g', m, x, y, vx, vy, hp, pw, lf⟩, mask⟩ fun j v hj => by rw [Nat.zero_add, b9, List.getElem?_toArray]; exact hj
  clear hb b9 q5 c4 c5 HRS Ha
  clear hsim hadm hnew hof 
  go_upto_region 11 with fail
  have hS5 : (w.heap.size < wb.heap.size ∧ w.heap.size + 1 < wb.heap.size ∧ V1.heap.size < wb.heap.size) ∧ (∀ j, wb.cell? ⟨w.heap.size, j, none⟩ = (#[.int .i64 cols, .int .i64 rows, .int .i64 side, .int .i64 radius, .int .i64 speed, .int .i64 ids, .int .i64 queue] : Array Value)[j]?) ∧ (∀ j, wb.cell? ⟨w.heap.size + 1, j, none⟩ = (#[.int .i64 1, .int .i64 s, .int .i64 i, .int .i64 g, .int .i64 0, .int .i64 0, .int .i64 0, .int .i64 m, .int .i64 x, .int .i64 y, .int .i64 vx, .int .i64 vy, .int .i64 hp, .int .i64 pw, .int .i64 lf, .int .i64 mask] : Array Value)[j]?) ∧ (∀ j, wb.cell? ⟨V1.heap.size, j, none⟩ = (#[.int .i64 1, .int .i64 s, .int .i64 i, .int .i64 g, .int .i64 s', .int .i64 i', .int .i64 g', .int .i64 m, .int .i64 x, .int .i64 y, .int .i64 vx, .int .i64 vy, .int .i64 hp, .int .i64 pw, .int .i64 lf, .int .i64 mask] : Array Value)[j]?) := ⟨⟨by have := Hb.out.below.size; have := HS.out; omega, by have := Hb.out.below.size; have := HS.out; omega, Hb.out.fourth.box.2.2.1⟩, HC.out wb Hb.out.below, HM.out wb Hb.out.below, Hb.out.fourth.box.1⟩
  clear hL9 x0
  have hL9 : ∀ W : World, (∀ j, W.cell? ⟨V1.heap.size, j, none⟩ = (#[.int .i64 1, .int .i64 s, .int .i64 i, .int .i64 g, .int .i64 s', .int .i64 i', .int .i64 g', .int .i64 m, .int .i64 x, .int .i64 y, .int .i64 vx, .int .i64 vy, .int .i64 hp, .int .i64 pw, .int .i64 lf, .int .i64 mask] : Array Value)[j]?) → (ldM ⟨V1.heap.size, 0, none⟩).run Try.prog W = .ok (.agg #[.int .i64 1, .int .i64 s, .int .i64 i, .int .i64 g, .int .i64 s', .int .i64 i', .int .i64 g', .int .i64 m, .int .i64 x, .int .i64 y, .int .i64 vx, .int .i64 vy, .int .i64 hp, .int .i64 pw, .int .i64 lf, .int .i64 mask]) W := fun W hW => ldM_of ⟨1, s, i, g, ⟨s', i', g', m, x, y, vx, vy, hp, pw, lf⟩, mask⟩ fun j v hj => by rw [Nat.zero_add, hW j, List.getElem?_toArray]; exact hj
  go_region_held3 (fun W => (w.heap.size < W.heap.size ∧ w.heap.size + 1 < W.heap.size ∧ V1.heap.size < W.heap.size) ∧ (∀ j, W.cell? ⟨w.heap.size, j, none⟩ = (#[.int .i64 cols, .int .i64 rows, .int .i64 side, .int .i64 radius, .int .i64 speed, .int .i64 ids, .int .i64 queue] : Array Value)[j]?) ∧ (∀ j, W.cell? ⟨w.heap.size + 1, j, none⟩ = (#[.int .i64 1, .int .i64 s, .int .i64 i, .int .i64 g, .int .i64 0, .int .i64 0, .int .i64 0, .int .i64 m, .int .i64 x, .int .i64 y, .int .i64 vx, .int .i64 vy, .int .i64 hp, .int .i64 pw, .int .i64 lf, .int .i64 mask] : Array Value)[j]?) ∧ (∀ j, W.cell? ⟨V1.heap.size, j, none⟩ = (#[.int .i64 1, .int .i64 s, .int .i64 i, .int .i64 g, .int .i64 s', .int .i64 i', .int .i64 g', .int .i64 m, .int .i64 x, .int .i64 y, .int .i64 vx, .int .i64 vy, .int .i64 hp, .int .i64 pw, .int .i64 lf, .int .i64 mask] : Array Value)[j]?)) (with_reducible (repeat (first | assumption | refine keep3 ?_ _ _ | refine keep3d ?_))) (first | (go_at_call 15; have hq := HAD.out _ _ (Hb.out.grow (show Below wb.heap.size wb wb.drew from (by repeat' (first | (with_reducible exact Below.refl _ _) | (with_reducible assumption) | (with_reducible refine below_drewN ?_ _) | (with_reducible refine below_more _ _ _ ?_ ?_) | (with_reducible refine Below.alloc ?_ ?_ _) | (with_reducible refine Below.drew ?_) | (with_reducible refine Below.setCell ?_ ?_ _) | go_size)))); (with_reducible refine hq.mono ?_); clear hq; rintro e w6 ⟨rfl, h6⟩; have H6 := Lib.hid h6; have hS6 : (w.heap.size < w6.heap.size ∧ w.heap.size + 1 < w6.heap.size ∧ V1.heap.size < w6.heap.size) ∧ (∀ j, w6.cell? ⟨w.heap.size, j, none⟩ = (#[.int .i64 cols, .int .i64 rows, .int .i64 side, .int .i64 radius, .int .i64 speed, .int .i64 ids, .int .i64 queue] : Array Value)[j]?) ∧ (∀ j, w6.cell? ⟨w.heap.size + 1, j, none⟩ = (#[.int .i64 1, .int .i64 s, .int .i64 i, .int .i64 g, .int .i64 0, .int .i64 0, .int .i64 0, .int .i64 m, .int .i64 x, .int .i64 y, .int .i64 vx, .int .i64 vy, .int .i64 hp, .int .i64 pw, .int .i64 lf, .int .i64 mask] : Array Value)[j]?) ∧ (∀ j, w6.cell? ⟨V1.heap.size, j, none⟩ = (#[.int .i64 1, .int .i64 s, .int .i64 i, .int .i64 g, .int .i64 s', .int .i64 i', .int .i64 g', .int .i64 m, .int .i64 x, .int .i64 y, .int .i64 vx, .int .i64 vy, .int .i64 hp, .int .i64 pw, .int .i64 lf, .int .i64 mask] : Array Value)[j]?) := ⟨⟨by have := h6.below.size; have := HS.out; omega, by have := h6.below.size; have := HS.out; omega, h6.fourth.box.2.2.1⟩, HC.out w6 h6.below, HM.out w6 h6.below, h6.fourth.box.1⟩; clear h6) | (go_at_call 11; refine (HMY.out _).mono ?_; rintro e w' ⟨rfl, hb⟩; obtain ⟨d, os, rfl⟩ := more_of hb; clear hb) | (go_at_call 31; refine (HOF.out _).mono ?_; rintro e w' ⟨rfl, hb⟩; obtain ⟨d, os, rfl⟩ := more_of hb; clear hb))
  go_upto_region 13 with fail
  generalize hW7 : more _ _ _ = W7
  have h7 := H6.out.grow (show Below w6.heap.size w6 W7 from by rw [← hW7]; exact (by repeat' (first | (with_reducible exact Below.refl _ _) | (with_reducible assumption) | (with_reducible refine below_drewN ?_ _) | (with_reducible refine below_more _ _ _ ?_ ?_) | (with_reducible refine Below.alloc ?_ ?_ _) | (with_reducible refine Below.drew ?_) | (with_reducible refine Below.setCell ?_ ?_ _) | go_size)))
  have hbx := h7.fourth.box
  have hst := st_id (W := W7) (b := V1.heap.size) (o := 4) (fun j hj => by rw [hbx.1]; rcases (by omega : j = 0 ∨ j = 1 ∨ j = 2) with rfl | rfl | rfl <;> rfl) (fun j => hbx.2.1 j)
  have h8 := ((h7.fourth.set 4 (.int .i64 0)).set 5 (.int .i64 0)).set 6 (.int .i64 0)
  obtain ⟨W8, hW8⟩ : ∃ W8, W8 = ((W7.setCell ⟨V1.heap.size, 4, none⟩ (.int .i64 0)).setCell ⟨V1.heap.size, 5, none⟩ (.int .i64 0)).setCell ⟨V1.heap.size, 6, none⟩ (.int .i64 0) := ⟨_, rfl⟩
  rw [← hW8] at h8 hst
  have b8 := h8.box.1
  have q8 := HM.out W8 h8.below
  have H8 := Lib.hid h8
  have hL9 : (ldM ⟨V1.heap.size, 0, none⟩).run Try.prog W8 = .ok (.agg #[.int .i64 1, .int .i64 s, .int .i64 i, .int .i64 g, .int .i64 0, .int .i64 0, .int .i64 0, .int .i64 m, .int .i64 x, .int .i64 y, .int .i64 vx, .int .i64 vy, .int .i64 hp, .int .i64 pw, .int .i64 lf, .int .i64 mask]) W8 := ldM_of ⟨1, s, i, g, ⟨0, 0, 0, m, x, y, vx, vy, hp, pw, lf⟩, mask⟩ fun j v hj => by rw [Nat.zero_add, b8, List.getElem?_toArray]; exact hj
  have hL5 : (ldM ⟨w.heap.size + 1, 0, none⟩).run Try.prog W8 = .ok (.agg #[.int .i64 1, .int .i64 s, .int .i64 i, .int .i64 g, .int .i64 0, .int .i64 0, .int .i64 0, .int .i64 m, .int .i64 x, .int .i64 y, .int .i64 vx, .int .i64 vy, .int .i64 hp, .int .i64 pw, .int .i64 lf, .int .i64 mask]) W8 := ldM_of ⟨1, s, i, g, ⟨0, 0, 0, m, x, y, vx, vy, hp, pw, lf⟩, mask⟩ fun j v hj => by rw [Nat.zero_add, q8, List.getElem?_toArray]; exact hj
  have heq : cmEq ⟨1, s, i, g, ⟨0, 0, 0, m, x, y, vx, vy, hp, pw, lf⟩, mask⟩ ⟨1, s, i, g, ⟨0, 0, 0, m, x, y, vx, vy, hp, pw, lf⟩, mask⟩ = true := cmEq_self _
  clear hbx h8 hW8 h7 b8 q8 hW7 hS5 hS6
  go_wp2_with (go_at_call 20; refine (awake16 _).mono ?_; rintro e w' ⟨rfl, hb⟩; obtain ⟨d, os, rfl⟩ := more_of hb; clear hb)
  go_ret
  exact ⟨rfl, HB1.out.trans (Below.mono (B := w1.heap.size) (H8.out.below.trans (Below.mono (B := W8.heap.size) (by repeat' (first | (with_reducible exact Below.refl _ _) | (with_reducible assumption) | (with_reducible refine below_drewN ?_ _) | (with_reducible refine below_more _ _ _ ?_ ?_) | (with_reducible refine Below.alloc ?_ ?_ _) | (with_reducible refine Below.drew ?_) | (with_reducible refine Below.setCell ?_ ?_ _) | go_size)) H8.out.below.size)) HB1.out.size)⟩

theorem walk (cols rows side radius speed ids queue k s i g es ei eg m x y vx vy hp pw lf mask : Int) (v : Value) (zs : List Ded) (w : World) (hz : RIn dedL w v zs) (hd : ∀ d ∈ zs, ∃ l, DOk w d l) :
    Calls Try.prog 8 #[.agg #[.int .i64 cols, .int .i64 rows, .int .i64 side, .int .i64 radius, .int .i64 speed, .int .i64 ids, .int .i64 queue], v, .agg #[.int .i64 k, .int .i64 s, .int .i64 i, .int .i64 g, .int .i64 es, .int .i64 ei, .int .i64 eg, .int .i64 m, .int .i64 x, .int .i64 y, .int .i64 vx, .int .i64 vy, .int .i64 hp, .int .i64 pw, .int .i64 lf, .int .i64 mask]] w fun e w' => e = .returned (.bool true) ∧ Below w.heap.size w w' := by
  obtain ⟨w1, hw1, hb1, k0, k1, g0, g1, hsz⟩ := two_boxes w #[.int .i64 cols, .int .i64 rows, .int .i64 side, .int .i64 radius, .int .i64 speed, .int .i64 ids, .int .i64 queue] #[.int .i64 k, .int .i64 s, .int .i64 i, .int .i64 g, .int .i64 es, .int .i64 ei, .int .i64 eg, .int .i64 m, .int .i64 x, .int .i64 y, .int .i64 vx, .int .i64 vy, .int .i64 hp, .int .i64 pw, .int .i64 lf, .int .i64 mask] 23 37
  have HMA := Lib.hid (made_any cols rows side radius speed ids queue v zs w1 (hz.keep hb1) (fun d hdm => by obtain ⟨l, q1, q2, q3⟩ := hd d hdm; exact ⟨l, q1, q2.keep hb1, q3⟩))
  have HMY := Lib.hid (fun W => may_any cols rows side radius speed ids queue W)
  have ho := mayF_ok ⟨cols, rows, side, radius, speed, ids, queue⟩
  generalize mayF ⟨cols, rows, side, radius, speed, ids, queue⟩ = cm at *
  generalize playF cm _ _ _ = D at *
  have hla : ∃ a must er, lookF cm D ⟨k, s, i, g, ⟨es, ei, eg, m, x, y, vx, vy, hp, pw, lf⟩, mask⟩ = (a, must, er) := ⟨_, _, _, rfl⟩
  obtain ⟨a, must, er, hla⟩ := hla
  by_cases her : er = 0
  · subst her
    rcases look_cases cm D ⟨k, s, i, g, ⟨es, ei, eg, m, x, y, vx, vy, hp, pw, lf⟩, mask⟩ with ⟨e, he, h2⟩ | ⟨hk, _, h2⟩ | ⟨hk, h2⟩
    · rw [h2] at hla; simp only [Prod.mk.injEq] at hla; exact absurd hla.2.2 he
    · cases hm : (headF D.M (ofF cm (⟨k, s, i, g, ⟨es, ei, eg, m, x, y, vx, vy, hp, pw, lf⟩, mask⟩ : Cm).b.x (⟨k, s, i, g, ⟨es, ei, eg, m, x, y, vx, vy, hp, pw, lf⟩, mask⟩ : Cm).b.y)).2.1 with
      | true => rw [hm] at h2; exact way_new _ _ _ _ _ _ _ _ _ _ _ _ _ _ _ _ _ _ _ _ _ _ _ v w w1 cm D _ _ _ (Lib.hid hk) HMY hw1.symm hb1 k0 k1 hsz ho HMA h2
      | false => rw [hm] at h2; exact way_must _ _ _ _ _ _ _ _ _ _ _ _ _ _ _ _ _ _ _ _ _ _ _ v w w1 cm D _ _ _ (Lib.hid hk) HMY hw1.symm hb1 k0 k1 hsz ho HMA h2
    · exact way_old _ _ _ _ _ _ _ _ _ _ _ _ _ _ _ _ _ _ _ _ _ _ _ v w w1 cm D hk hw1.symm hb1 k0 k1 hsz ho HMA h2
  · obtain ⟨rfl, rfl⟩ := look_zero hla her
    exact way_no _ _ _ _ _ _ _ _ _ _ _ _ _ _ _ _ _ _ _ _ _ _ _ v w w1 cm D er her hw1.symm hb1 k0 k1 hsz ho HMA hla
set_option maxRecDepth 100000 in
theorem lifted (os : Os) (started : os.Started) (H : Type) (enc : TypeId × Value → H) :
    ReturnsInHanded {} Try.checked os 8 .any (Rows.deskLooksSpec.pre6 enc Try.prog Try.f8 Rows.deskLooksRow.domain false) (Rows.deskLooksSpec.post enc Try.prog Try.f8 false true false false) := by
  refine returnsInHanded_of_change (C := Try.checked) ownKnob0 started (by kernel_rfl) Try.func8
    (ChangeSpec.witness6 (enc := enc) (C := Try.checked) false ⟨#[], #[.agg #[.int .i64 0, .int .i64 0, .int .i64 0, .int .i64 0, .int .i64 0, .int .i64 0, .int .i64 0], .slice none 0 0, .agg #[.int .i64 0, .int .i64 0, .int .i64 0, .int .i64 0, .int .i64 0, .int .i64 0, .int .i64 0, .int .i64 0, .int .i64 0, .int .i64 0, .int .i64 0, .int .i64 0, .int .i64 0, .int .i64 0, .int .i64 0, .int .i64 0]], []⟩ 8 (by kernel_rfl) (by kernel_rfl) (by kernel_rfl) (by kernel_rfl)) ?_
  intro W base args ds gs before hval0 hW _ _
  have hval : ∀ (j : Nat) t v, Try.f8.params[j]? = some t → args[j]? = some v → Value.okWide Try.prog W .any base t v := hval0
  have hread : ∀ t ∈ Try.f8.params.toList, Try.prog.readableRec t = true ∧ t < Try.prog.types.size := by
    rw [Try.params8]
    intro t ht
    simp only [List.mem_cons, List.not_mem_nil, or_false] at ht
    rcases ht with rfl | rfl | rfl
    all_goals exact ⟨by kernel_rfl, of_decide_eq_true (by kernel_rfl)⟩
  have hW' := hW
  obtain ⟨p, q, hA0, hV, -, -⟩ := hW'
  have hA : DataW.TrodAll enc Try.prog W 0 (fun _ => true) true Try.f8.params.toList args.toList ds p := hA0
  rw [Try.params8] at hA hval
  obtain ⟨v0, vs0, d0, ds0, p0, q0, hargs, rfl, rfl, h0, r0⟩ := trodAll_cons hA
  obtain ⟨v1, vs1, d1, ds1, p1, q1, rfl, rfl, rfl, h1, r1⟩ := trodAll_cons r0
  obtain ⟨v2, vs2, d2, ds2, p2, q2, rfl, rfl, rfl, h2, r2⟩ := trodAll_cons r1
  obtain ⟨rfl, rfl, rfl⟩ := trodAll_nil r2
  obtain rfl : args = #[v0, v1, v2] := by cases args; simp_all
  obtain ⟨rfl, rfl⟩ := trodVars_none hV
  have k0 := hval 0 23 v0 rfl rfl
  have k1 := hval 1 24 v1 rfl rfl
  have k2 := hval 2 37 v2 rfl rfl
  clear hval hval0 hA0 hV hA
  obtain ⟨c0, fuel0, rfl, g0⟩ := agg_of Try.underlying23 k0 h0
  obtain ⟨acols, arows, aside, aradius, aspeed, aids, aqueue, rfl⟩ := read_cfg g0
  obtain ⟨zs, hz, hd⟩ := deeds_in k1 h1
  obtain ⟨c2, fuel2, rfl, g2⟩ := agg_of Try.underlying37 k2 h2
  obtain ⟨qk, qs, qi, qg, qes, qei, qeg, qm, qx, qy, qvx, qvy, qhp, qpw, qlf, qmask, rfl, _⟩ := read_cmd g2
  exact (walk _ _ _ _ _ _ _ _ _ _ _ _ _ _ _ _ _ _ _ _ _ _ _ _ zs W hz hd).mono fun e W' ⟨he, hb⟩ => ⟨_, he, post_true rfl rfl hread rfl hW hb⟩

/-- DeskLooks: true for every input; the arguments stay. -/
theorem proved : Rows.DeskLooksSaid :=
  OpenClaim.holds_of_wide 8 Try.f8 rfl rfl rfl rfl rfl rfl rfl ⟨rfl, rfl, rfl, rfl, rfl⟩ rfl rfl rfl rfl rfl (by kernel_rfl) Try.func8 (by kernel_rfl)
    (of_decide_eq_true (by kernel_rfl)) (by unfold Func.isWrapper; first | (rw [if_pos (by decide +kernel)]; kernel_rfl) | (rw [if_neg (by decide +kernel)]; exact ⟨rfl, rfl⟩))
    (fun os started H enc _ => lifted os started H enc)
end Go.Proofs.Ytbghjklnlhoklaa.deskLooks
