/-
  Chapter 16's laws: Step: a command is looked at, and let in as that says. Condition: the world may be.
-/
import Derived.Test.YtbghjklnlhoklaaDkV
namespace Go.Proofs.Ytbghjklnlhoklaa
open Go.RowKit

theorem look_cases (c : Cfg) (D : Dk) (m : Cm) : (∃ e : Int, e ≠ 0 ∧ lookF c D m = (zeroCm, false, e)) ∨ (m.k = 1 ∧ (headF D.M (ofF c m.b.x m.b.y)).2.2 = 0 ∧ lookF c D m = (nameCm m (ofF c m.b.x m.b.y) (headF D.M (ofF c m.b.x m.b.y)).1 (genF D.M (ofF c m.b.x m.b.y) (headF D.M (ofF c m.b.x m.b.y)).1), !(headF D.M (ofF c m.b.x m.b.y)).2.1, 0)) ∨ (m.k ≠ 1 ∧ lookF c D m = (m, false, 0)) := by
  unfold lookF
  split
  · exact .inl ⟨1, by omega, rfl⟩
  split
  · rename_i hk
    split
    · exact .inl ⟨5, by omega, rfl⟩
    split
    · exact .inl ⟨8, by omega, rfl⟩
    split
    · exact .inl ⟨13, by omega, rfl⟩
    rename_i hh
    exact .inr (.inl ⟨hk, Decidable.not_not.1 hh, rfl⟩)
  · rename_i hk
    split
    · exact .inl ⟨9, by omega, rfl⟩
    split
    · exact .inl ⟨10, by omega, rfl⟩
    split
    · exact .inl ⟨8, by omega, rfl⟩
    exact .inr (.inr ⟨hk, rfl⟩)
theorem look_mask (c : Cfg) (D : Dk) (m : Cm) : (lookF c D m).1.b.m = m.b.m ∨ (lookF c D m).1.b.m = 0 := by
  rcases look_cases c D m with ⟨e, _, h⟩ | ⟨_, _, h⟩ | ⟨_, h⟩
  · rw [h]; exact .inr rfl
  · rw [h]; exact .inl rfl
  · rw [h]; exact .inl rfl
theorem look_must (c : Cfg) (D : Dk) (m : Cm) (h : (lookF c D m).2.2 ≠ 0) : (lookF c D m).2.1 = false := by
  rcases look_cases c D m with ⟨e, _, h2⟩ | ⟨_, _, h2⟩ | ⟨_, h2⟩
  · rw [h2]
  · rw [h2] at h; exact absurd rfl h
  · rw [h2]
theorem st_at (V : World) (b : Nat) (h16 : ∀ j, j < 16 → (V.cell? ⟨b, j, none⟩).isSome = true) (hf : ∀ j, V.frozen? ⟨b, j, none⟩ = false) (m : Cm) : (stM ⟨b, 0, none⟩ (.agg (cmC m).toArray)).run Try.prog V = .ok () (V.setCells b 0 (cmC m)) := by
  have h := Go.run_storeCells_cells (P := Try.prog) b 0 (cmC m) 0 V (fun j hj => by rw [show 0 + 0 + j = j by omega]; exact h16 j hj) (fun j _ => hf _) (cmC_one m)
  exact stM_of m (by simpa using h)
theorem arr16 {cur : Array Value} {m : Cm} (hs : cur.size = 16) (hin : ∀ (j : Nat) (u : Value), (cmC m)[j]? = some u → cur[j]? = some u) : cur = (cmC m).toArray := by
  apply Array.ext_getElem?
  intro j
  have e : (cmC m).toArray[j]? = (cmC m)[j]? := List.getElem?_toArray ..
  rw [e]
  cases h : (cmC m)[j]? with
  | some u => exact hin j u h
  | none =>
    have := List.getElem?_eq_none_iff.1 h
    rw [cmC_len] at this
    exact Array.getElem?_eq_none (by omega)
theorem cells_box (V : World) (b : Nat) (a : Array Value) (T : TypeId) (ha : a.size = 16) (hh : V.heap[b]? = some (.cells a T (0, 0))) (m : Cm) : (V.setCells b 0 (cmC m)).heap[b]? = some (.cells (cmC m).toArray T (0, 0)) := by
  obtain ⟨cur', hg', hs', _, hin, _⟩ := setCells_heap b T (0, 0) (cmC m) 0 V a hh (by rw [cmC_len]; omega)
  have e := arr16 (cur := cur') (m := m) (by omega) fun j u hj => by have := hin j u hj; rwa [Nat.zero_add] at this
  rw [hg', e]
/-- A new box that holds a command. -/
theorem new_cmO (W : World) (m : Cm) : ∃ w5, (stM ⟨W.heap.size, 0, none⟩ (.agg (cmC m).toArray)).run Try.prog (W.alloc (.cells #[.int .i64 0, .int .i64 0, .int .i64 0, .int .i64 0, .int .i64 0, .int .i64 0, .int .i64 0, .int .i64 0, .int .i64 0, .int .i64 0, .int .i64 0, .int .i64 0, .int .i64 0, .int .i64 0, .int .i64 0, .int .i64 0] 37)) = .ok () w5 ∧ Made W w5 (boxO W.heap.size (cmC m).toArray 37) := by
  obtain ⟨k5, g5, s5, b5⟩ := new_box W #[.int .i64 0, .int .i64 0, .int .i64 0, .int .i64 0, .int .i64 0, .int .i64 0, .int .i64 0, .int .i64 0, .int .i64 0, .int .i64 0, .int .i64 0, .int .i64 0, .int .i64 0, .int .i64 0, .int .i64 0, .int .i64 0] 37 W.heap.size rfl
  have hh := heap_alloc_new W (.cells #[.int .i64 0, .int .i64 0, .int .i64 0, .int .i64 0, .int .i64 0, .int .i64 0, .int .i64 0, .int .i64 0, .int .i64 0, .int .i64 0, .int .i64 0, .int .i64 0, .int .i64 0, .int .i64 0, .int .i64 0, .int .i64 0] 37)
  generalize W.alloc (.cells #[.int .i64 0, .int .i64 0, .int .i64 0, .int .i64 0, .int .i64 0, .int .i64 0, .int .i64 0, .int .i64 0, .int .i64 0, .int .i64 0, .int .i64 0, .int .i64 0, .int .i64 0, .int .i64 0, .int .i64 0, .int .i64 0] 37) = V at *
  have hx := cells_box V W.heap.size _ _ rfl hh m
  have h0 := st_at V W.heap.size (fun j hj => by rw [k5 j, Array.getElem?_eq_getElem (by simpa using hj)]; rfl) g5 m
  have ht := setCells_turned W.heap.size (cmC m) 0 V
  exact ⟨_, h0, fun x => x = W.heap.size, ⟨hx, fun _ => Iff.rfl⟩, Turned.below_new ht (fun q hq => by cases hq; exact Nat.le_refl _) b5 b5.size, fun x hx => Nat.le_of_eq hx.symm⟩
theorem deed_get (kd : Value) (m : Cm) (sl : Value) {j : Nat} {u : Value} (hj : (cmC m)[j]? = some u) : ((kd :: (cmC m ++ [sl])).toArray)[1 + j]? = some u := by
  rw [List.getElem?_toArray, Nat.add_comm, List.getElem?_cons_succ, List.getElem?_append_left (List.getElem?_eq_some_iff.1 hj).1]; exact hj

attribute [local go_sem ↓] loadVar_ldM storeVar_stM
section
variable (w0 w : World) (F : Ob) (p q R : Nat) (c : Cfg) (kk : Int) (D : Dk)
set_option maxRecDepth 100000 in
set_option maxHeartbeats 4000000 in
theorem step_look1 (h : Own w0 w ((deskO p c D).and ((rdeskO q R c kk D).and F))) (kd k s i g es ei eg m x y vx vy hp pw lf mask : Int) (pv : Option Addr) (cv : Nat) (l : List Nid) (ho : CfgOk c) (him : (-9223372036854775808 ≤ m ∧ m ≤ 9223372036854775807)) (her : (lookF c D ⟨k, s, i, g, ⟨es, ei, eg, m, x, y, vx, vy, hp, pw, lf⟩, mask⟩).2.2 ≠ 0) (hk : kd = 0 ∨ kd = 1 ∨ kd = 2) :
    Calls Try.prog 29 #[.pointer (some ⟨p, 0, none⟩), .pointer (some ⟨q, 0, none⟩), .agg #[.int .i64 kd, .int .i64 k, .int .i64 s, .int .i64 i, .int .i64 g, .int .i64 es, .int .i64 ei, .int .i64 eg, .int .i64 m, .int .i64 x, .int .i64 y, .int .i64 vx, .int .i64 vy, .int .i64 hp, .int .i64 pw, .int .i64 lf, .int .i64 mask, .slice pv l.length cv]] w fun e w' => e = .returned (.bool true) ∧ Own w0 w' ((deskO p c (stepF c D kd ⟨k, s, i, g, ⟨es, ei, eg, m, x, y, vx, vy, hp, pw, lf⟩, mask⟩ l)).and ((rdeskO q R c (kk + 40) (stepF c D kd ⟨k, s, i, g, ⟨es, ei, eg, m, x, y, vx, vy, hp, pw, lf⟩, mask⟩ l)).and F)) := by
  have hb := h.made (made_box w #[.int .i64 kd, .int .i64 k, .int .i64 s, .int .i64 i, .int .i64 g, .int .i64 es, .int .i64 ei, .int .i64 eg, .int .i64 m, .int .i64 x, .int .i64 y, .int .i64 vx, .int .i64 vy, .int .i64 hp, .int .i64 pw, .int .i64 lf, .int .i64 mask, .slice pv l.length cv] 40)
  have hb3 := hb.new3
  have HP := Lib.hid hb3
  have HMORE := Lib.hid (fun W E (hW : Own w0 W ((deskO p c E).and ((rdeskO q R c kk E).and F))) => rmore40 hW)
  clear h hb hb3
  have hmk := look_mask c D ⟨k, s, i, g, ⟨es, ei, eg, m, x, y, vx, vy, hp, pw, lf⟩, mask⟩
  have hla : ∃ a must er, lookF c D ⟨k, s, i, g, ⟨es, ei, eg, m, x, y, vx, vy, hp, pw, lf⟩, mask⟩ = (a, must, er) := ⟨_, _, _, rfl⟩
  obtain ⟨⟨uk, us, ui, ug, ⟨ues, uei, ueg, um, ux, uy, uvx, uvy, uhp, upw, ulf⟩, umask⟩, must, er, hla⟩ := hla
  have HLK : Hid (∀ W E, Own w0 W ((deskO p c D).and E) → Calls Try.prog 13 #[.pointer (some ⟨p, 0, none⟩), .agg #[.int .i64 k, .int .i64 s, .int .i64 i, .int .i64 g, .int .i64 es, .int .i64 ei, .int .i64 eg, .int .i64 m, .int .i64 x, .int .i64 y, .int .i64 vx, .int .i64 vy, .int .i64 hp, .int .i64 pw, .int .i64 lf, .int .i64 mask]] W fun e w' => e = .returned (.tuple #[.agg #[.int .i64 uk, .int .i64 us, .int .i64 ui, .int .i64 ug, .int .i64 ues, .int .i64 uei, .int .i64 ueg, .int .i64 um, .int .i64 ux, .int .i64 uy, .int .i64 uvx, .int .i64 uvy, .int .i64 uhp, .int .i64 upw, .int .i64 ulf, .int .i64 umask], .bool must, .int .i64 er]) ∧ Below W.heap.size W w') := Lib.hid (fun W E hW => by have := look_o hW ho ⟨k, s, i, g, ⟨es, ei, eg, m, x, y, vx, vy, hp, pw, lf⟩, mask⟩; rw [hla] at this; exact this)
  have HRK : Hid (∀ W E, Own w0 W ((rdeskO q R c kk D).and E) → Calls Try.prog 56 #[.pointer (some ⟨q, 0, none⟩), .agg #[.int .i64 k, .int .i64 s, .int .i64 i, .int .i64 g, .int .i64 es, .int .i64 ei, .int .i64 eg, .int .i64 m, .int .i64 x, .int .i64 y, .int .i64 vx, .int .i64 vy, .int .i64 hp, .int .i64 pw, .int .i64 lf, .int .i64 mask]] W fun e w' => e = .returned (.tuple #[.agg #[.int .i64 uk, .int .i64 us, .int .i64 ui, .int .i64 ug, .int .i64 ues, .int .i64 uei, .int .i64 ueg, .int .i64 um, .int .i64 ux, .int .i64 uy, .int .i64 uvx, .int .i64 uvy, .int .i64 uhp, .int .i64 upw, .int .i64 ulf, .int .i64 umask], .bool must, .int .i64 er]) ∧ Below W.heap.size W w') := Lib.hid (fun W E hW => by have := rlook_o hW ho ⟨k, s, i, g, ⟨es, ei, eg, m, x, y, vx, vy, hp, pw, lf⟩, mask⟩ him; rw [hla] at this; exact this)
  rw [hla] at her
  simp only at her
  have hmu : must = false := by have := look_must c D ⟨k, s, i, g, ⟨es, ei, eg, m, x, y, vx, vy, hp, pw, lf⟩, mask⟩ (by rw [hla]; exact her); rw [hla] at this; exact this
  have HN : ∀ j : Int, j = 0 ∨ j = 1 ∨ j = 2 → stepF c D j ⟨k, s, i, g, ⟨es, ei, eg, m, x, y, vx, vy, hp, pw, lf⟩, mask⟩ l = D := by
    intro j hj
    unfold stepF lookedF
    rw [if_pos hj, hla]
    simp only [hmu]
    rw [if_pos her]; rfl
  rw [HN _ hk]
  subst hmu
  have her' : (er != 0) = true := by simpa using her
  clear HN hla her hmk
  rcases hk with rfl | rfl | rfl
  all_goals
    go_enter Try.func29, Try.ntmps29
    go_upto_region 1 with fail
    generalize World.alloc w _ = w1 at *
    have hbx := HP.out.third.box
    have hL5 : (ldM ⟨w.heap.size, 1, none⟩).run Try.prog w1 = .ok (.agg #[.int .i64 k, .int .i64 s, .int .i64 i, .int .i64 g, .int .i64 es, .int .i64 ei, .int .i64 eg, .int .i64 m, .int .i64 x, .int .i64 y, .int .i64 vx, .int .i64 vy, .int .i64 hp, .int .i64 pw, .int .i64 lf, .int .i64 mask]) w1 := ldM_of ⟨k, s, i, g, ⟨es, ei, eg, m, x, y, vx, vy, hp, pw, lf⟩, mask⟩ fun j v hj => (hbx.1 _).trans (deed_get _ ⟨k, s, i, g, ⟨es, ei, eg, m, x, y, vx, vy, hp, pw, lf⟩, mask⟩ _ hj)
    have x50 := hbx.1 0
    simp at x50
    clear hbx
    go_wp2_with fail
    refine (HLK.out _ _ HP.out).mono ?_
    rintro e V1 ⟨rfl, hb1⟩
    obtain ⟨w2, hs2, hm2⟩ := new_cmO V1 ⟨uk, us, ui, ug, ⟨ues, uei, ueg, um, ux, uy, uvx, uvy, uhp, upw, ulf⟩, umask⟩
    have H2 := Lib.hid (((HP.out.grow hb1).made hm2).new3)
    have hbx := H2.out.fourth.box
    have hL5' : (ldM ⟨w.heap.size, 1, none⟩).run Try.prog w2 = .ok (.agg #[.int .i64 k, .int .i64 s, .int .i64 i, .int .i64 g, .int .i64 es, .int .i64 ei, .int .i64 eg, .int .i64 m, .int .i64 x, .int .i64 y, .int .i64 vx, .int .i64 vy, .int .i64 hp, .int .i64 pw, .int .i64 lf, .int .i64 mask]) w2 := ldM_of ⟨k, s, i, g, ⟨es, ei, eg, m, x, y, vx, vy, hp, pw, lf⟩, mask⟩ fun j v hj => (hbx.1 _).trans (deed_get _ ⟨k, s, i, g, ⟨es, ei, eg, m, x, y, vx, vy, hp, pw, lf⟩, mask⟩ _ hj)
    have hs2' : (stM ⟨V1.heap.size, 0, none⟩ (.agg #[.int .i64 uk, .int .i64 us, .int .i64 ui, .int .i64 ug, .int .i64 ues, .int .i64 uei, .int .i64 ueg, .int .i64 um, .int .i64 ux, .int .i64 uy, .int .i64 uvx, .int .i64 uvy, .int .i64 uhp, .int .i64 upw, .int .i64 ulf, .int .i64 umask])).run Try.prog (V1.alloc (.cells #[.int .i64 0, .int .i64 0, .int .i64 0, .int .i64 0, .int .i64 0, .int .i64 0, .int .i64 0, .int .i64 0, .int .i64 0, .int .i64 0, .int .i64 0, .int .i64 0, .int .i64 0, .int .i64 0, .int .i64 0, .int .i64 0] 37)) = .ok () w2 := hs2
    clear hbx hb1 hs2 hm2 HP
    go_wp2_with fail
    refine (HRK.out _ _ H2.out.swap).mono ?_
    rintro e V2 ⟨rfl, hb2⟩
    obtain ⟨w3, hs3, hm3⟩ := new_cmO V2 ⟨uk, us, ui, ug, ⟨ues, uei, ueg, um, ux, uy, uvx, uvy, uhp, upw, ulf⟩, umask⟩
    have H3 := Lib.hid (((H2.out.grow hb2).made hm3).new3)
    have hb7 := H3.out.fourth.box
    have hb10 := H3.out.third.box
    have hL7 : (ldM ⟨V1.heap.size, 0, none⟩).run Try.prog w3 = .ok (.agg #[.int .i64 uk, .int .i64 us, .int .i64 ui, .int .i64 ug, .int .i64 ues, .int .i64 uei, .int .i64 ueg, .int .i64 um, .int .i64 ux, .int .i64 uy, .int .i64 uvx, .int .i64 uvy, .int .i64 uhp, .int .i64 upw, .int .i64 ulf, .int .i64 umask]) w3 := ldM_of ⟨uk, us, ui, ug, ⟨ues, uei, ueg, um, ux, uy, uvx, uvy, uhp, upw, ulf⟩, umask⟩ fun j v hj => by rw [Nat.zero_add, hb7.1, List.getElem?_toArray]; exact hj
    have hL10 : (ldM ⟨V2.heap.size, 0, none⟩).run Try.prog w3 = .ok (.agg #[.int .i64 uk, .int .i64 us, .int .i64 ui, .int .i64 ug, .int .i64 ues, .int .i64 uei, .int .i64 ueg, .int .i64 um, .int .i64 ux, .int .i64 uy, .int .i64 uvx, .int .i64 uvy, .int .i64 uhp, .int .i64 upw, .int .i64 ulf, .int .i64 umask]) w3 := ldM_of ⟨uk, us, ui, ug, ⟨ues, uei, ueg, um, ux, uy, uvx, uvy, uhp, upw, ulf⟩, umask⟩ fun j v hj => by rw [Nat.zero_add, hb10.1, List.getElem?_toArray]; exact hj
    have hs3' : (stM ⟨V2.heap.size, 0, none⟩ (.agg #[.int .i64 uk, .int .i64 us, .int .i64 ui, .int .i64 ug, .int .i64 ues, .int .i64 uei, .int .i64 ueg, .int .i64 um, .int .i64 ux, .int .i64 uy, .int .i64 uvx, .int .i64 uvy, .int .i64 uhp, .int .i64 upw, .int .i64 ulf, .int .i64 umask])).run Try.prog (V2.alloc (.cells #[.int .i64 0, .int .i64 0, .int .i64 0, .int .i64 0, .int .i64 0, .int .i64 0, .int .i64 0, .int .i64 0, .int .i64 0, .int .i64 0, .int .i64 0, .int .i64 0, .int .i64 0, .int .i64 0, .int .i64 0, .int .i64 0] 37)) = .ok () w3 := hs3
    have heq : cmEq ⟨uk, us, ui, ug, ⟨ues, uei, ueg, um, ux, uy, uvx, uvy, uhp, upw, ulf⟩, umask⟩ ⟨uk, us, ui, ug, ⟨ues, uei, ueg, um, ux, uy, uvx, uvy, uhp, upw, ulf⟩, umask⟩ = true := cmEq_self _
    have HB7 := Lib.hid hb7
    have HB10 := Lib.hid hb10
    clear hb7 hb10 hs3 hm3 hb2 H2 hs2' hL5 hL5' x50
    go_wp2_with fail
    refine wp_region_more (by kernel_rfl) (by kernel_rfl) ?_
    repeat (go_big_quiet_step (fail))
    refine wpQuiet_nil ?_
    rintro _ ⟨pm, rfl⟩
    go_wp2_with fail
    refine wp_region_more (by kernel_rfl) (by kernel_rfl) ?_
    repeat (go_big_quiet_step (fail))
    refine wpQuiet_nil ?_
    rintro _ ⟨pn, rfl⟩
    go_wp2_with fail
    go_ret
    exact ⟨rfl, (HMORE.out _ _ H3.out.drop3.drop3.drop3).grow (by repeat' (first | (with_reducible exact Below.refl _ _) | (with_reducible assumption) | (with_reducible refine below_drewN ?_ _) | (with_reducible refine below_more _ _ _ ?_ ?_) | (with_reducible refine Below.alloc ?_ ?_ _) | (with_reducible refine Below.drew ?_) | (with_reducible refine Below.setCell ?_ ?_ _) | go_size))⟩


set_option maxRecDepth 100000 in
set_option maxHeartbeats 4000000 in
theorem step_look2 (h : Own w0 w ((deskO p c D).and ((rdeskO q R c kk D).and F))) (kd k s i g es ei eg m x y vx vy hp pw lf mask : Int) (pv : Option Addr) (cv : Nat) (l : List Nid) (ho : CfgOk c) (him : (-9223372036854775808 ≤ m ∧ m ≤ 9223372036854775807)) (her : (lookF c D ⟨k, s, i, g, ⟨es, ei, eg, m, x, y, vx, vy, hp, pw, lf⟩, mask⟩).2.2 = 0) (hmu : (lookF c D ⟨k, s, i, g, ⟨es, ei, eg, m, x, y, vx, vy, hp, pw, lf⟩, mask⟩).2.1 = false) (hk : kd = 0 ∨ kd = 1 ∨ kd = 2) :
    Calls Try.prog 29 #[.pointer (some ⟨p, 0, none⟩), .pointer (some ⟨q, 0, none⟩), .agg #[.int .i64 kd, .int .i64 k, .int .i64 s, .int .i64 i, .int .i64 g, .int .i64 es, .int .i64 ei, .int .i64 eg, .int .i64 m, .int .i64 x, .int .i64 y, .int .i64 vx, .int .i64 vy, .int .i64 hp, .int .i64 pw, .int .i64 lf, .int .i64 mask, .slice pv l.length cv]] w fun e w' => e = .returned (.bool true) ∧ Own w0 w' ((deskO p c (stepF c D kd ⟨k, s, i, g, ⟨es, ei, eg, m, x, y, vx, vy, hp, pw, lf⟩, mask⟩ l)).and ((rdeskO q R c (kk + 40) (stepF c D kd ⟨k, s, i, g, ⟨es, ei, eg, m, x, y, vx, vy, hp, pw, lf⟩, mask⟩ l)).and F)) := by
  have hb := h.made (made_box w #[.int .i64 kd, .int .i64 k, .int .i64 s, .int .i64 i, .int .i64 g, .int .i64 es, .int .i64 ei, .int .i64 eg, .int .i64 m, .int .i64 x, .int .i64 y, .int .i64 vx, .int .i64 vy, .int .i64 hp, .int .i64 pw, .int .i64 lf, .int .i64 mask, .slice pv l.length cv] 40)
  have hb3 := hb.new3
  have HP := Lib.hid hb3
  have HMORE := Lib.hid (fun W E (hW : Own w0 W ((deskO p c E).and ((rdeskO q R c kk E).and F))) => rmore40 hW)
  clear h hb hb3
  have hmk := look_mask c D ⟨k, s, i, g, ⟨es, ei, eg, m, x, y, vx, vy, hp, pw, lf⟩, mask⟩
  have hla : ∃ a must er, lookF c D ⟨k, s, i, g, ⟨es, ei, eg, m, x, y, vx, vy, hp, pw, lf⟩, mask⟩ = (a, must, er) := ⟨_, _, _, rfl⟩
  obtain ⟨⟨uk, us, ui, ug, ⟨ues, uei, ueg, um, ux, uy, uvx, uvy, uhp, upw, ulf⟩, umask⟩, must, er, hla⟩ := hla
  have HLK : Hid (∀ W E, Own w0 W ((deskO p c D).and E) → Calls Try.prog 13 #[.pointer (some ⟨p, 0, none⟩), .agg #[.int .i64 k, .int .i64 s, .int .i64 i, .int .i64 g, .int .i64 es, .int .i64 ei, .int .i64 eg, .int .i64 m, .int .i64 x, .int .i64 y, .int .i64 vx, .int .i64 vy, .int .i64 hp, .int .i64 pw, .int .i64 lf, .int .i64 mask]] W fun e w' => e = .returned (.tuple #[.agg #[.int .i64 uk, .int .i64 us, .int .i64 ui, .int .i64 ug, .int .i64 ues, .int .i64 uei, .int .i64 ueg, .int .i64 um, .int .i64 ux, .int .i64 uy, .int .i64 uvx, .int .i64 uvy, .int .i64 uhp, .int .i64 upw, .int .i64 ulf, .int .i64 umask], .bool must, .int .i64 er]) ∧ Below W.heap.size W w') := Lib.hid (fun W E hW => by have := look_o hW ho ⟨k, s, i, g, ⟨es, ei, eg, m, x, y, vx, vy, hp, pw, lf⟩, mask⟩; rw [hla] at this; exact this)
  have HRK : Hid (∀ W E, Own w0 W ((rdeskO q R c kk D).and E) → Calls Try.prog 56 #[.pointer (some ⟨q, 0, none⟩), .agg #[.int .i64 k, .int .i64 s, .int .i64 i, .int .i64 g, .int .i64 es, .int .i64 ei, .int .i64 eg, .int .i64 m, .int .i64 x, .int .i64 y, .int .i64 vx, .int .i64 vy, .int .i64 hp, .int .i64 pw, .int .i64 lf, .int .i64 mask]] W fun e w' => e = .returned (.tuple #[.agg #[.int .i64 uk, .int .i64 us, .int .i64 ui, .int .i64 ug, .int .i64 ues, .int .i64 uei, .int .i64 ueg, .int .i64 um, .int .i64 ux, .int .i64 uy, .int .i64 uvx, .int .i64 uvy, .int .i64 uhp, .int .i64 upw, .int .i64 ulf, .int .i64 umask], .bool must, .int .i64 er]) ∧ Below W.heap.size W w') := Lib.hid (fun W E hW => by have := rlook_o hW ho ⟨k, s, i, g, ⟨es, ei, eg, m, x, y, vx, vy, hp, pw, lf⟩, mask⟩ him; rw [hla] at this; exact this)
  rw [hla] at her
  simp only at her
  rw [hla] at hmu
  simp only at hmu
  subst hmu her
  have him2 : (-9223372036854775808 ≤ um ∧ um ≤ 9223372036854775807) := by rcases (by rw [hla] at hmk; exact hmk : um = m ∨ um = 0) with e | e <;> rw [e] <;> first | exact him | omega
  have HN : ∀ j : Int, j = 0 ∨ j = 1 ∨ j = 2 → stepF c D j ⟨k, s, i, g, ⟨es, ei, eg, m, x, y, vx, vy, hp, pw, lf⟩, mask⟩ l = (admitF c D ⟨uk, us, ui, ug, ⟨ues, uei, ueg, um, ux, uy, uvx, uvy, uhp, upw, ulf⟩, umask⟩).2 := by
    intro j hj
    unfold stepF lookedF
    rw [if_pos hj, hla]
    rfl
  rw [HN _ hk]
  have HAD : Hid (∀ W E, Own w0 W ((deskO p c D).and E) → Calls Try.prog 15 #[.pointer (some ⟨p, 0, none⟩), .agg #[.int .i64 uk, .int .i64 us, .int .i64 ui, .int .i64 ug, .int .i64 ues, .int .i64 uei, .int .i64 ueg, .int .i64 um, .int .i64 ux, .int .i64 uy, .int .i64 uvx, .int .i64 uvy, .int .i64 uhp, .int .i64 upw, .int .i64 ulf, .int .i64 umask]] W fun e w' => e = .returned (.int .i64 (admitF c D ⟨uk, us, ui, ug, ⟨ues, uei, ueg, um, ux, uy, uvx, uvy, uhp, upw, ulf⟩, umask⟩).1) ∧ Own w0 w' ((deskO p c (admitF c D ⟨uk, us, ui, ug, ⟨ues, uei, ueg, um, ux, uy, uvx, uvy, uhp, upw, ulf⟩, umask⟩).2).and E)) := Lib.hid (fun W E hW => admit_o hW ho ⟨uk, us, ui, ug, ⟨ues, uei, ueg, um, ux, uy, uvx, uvy, uhp, upw, ulf⟩, umask⟩)
  have HRA : Hid (∀ W E, Own w0 W ((rdeskO q R c kk D).and E) → Calls Try.prog 58 #[.pointer (some ⟨q, 0, none⟩), .agg #[.int .i64 uk, .int .i64 us, .int .i64 ui, .int .i64 ug, .int .i64 ues, .int .i64 uei, .int .i64 ueg, .int .i64 um, .int .i64 ux, .int .i64 uy, .int .i64 uvx, .int .i64 uvy, .int .i64 uhp, .int .i64 upw, .int .i64 ulf, .int .i64 umask]] W fun e w' => e = .returned (.int .i64 (admitF c D ⟨uk, us, ui, ug, ⟨ues, uei, ueg, um, ux, uy, uvx, uvy, uhp, upw, ulf⟩, umask⟩).1) ∧ Own w0 w' ((rdeskO q R c kk (admitF c D ⟨uk, us, ui, ug, ⟨ues, uei, ueg, um, ux, uy, uvx, uvy, uhp, upw, ulf⟩, umask⟩).2).and E)) := Lib.hid (fun W E hW => radmit_o hW ho ⟨uk, us, ui, ug, ⟨ues, uei, ueg, um, ux, uy, uvx, uvy, uhp, upw, ulf⟩, umask⟩ him2)
  clear HN hla hmk
  generalize admitF c D ⟨uk, us, ui, ug, ⟨ues, uei, ueg, um, ux, uy, uvx, uvy, uhp, upw, ulf⟩, umask⟩ = ad at *
  obtain ⟨an, D2⟩ := ad
  simp only at HAD HRA ⊢
  rcases hk with rfl | rfl | rfl
  all_goals
    go_enter Try.func29, Try.ntmps29
    go_upto_region 1 with fail
    generalize World.alloc w _ = w1 at *
    have hbx := HP.out.third.box
    have hL5 : (ldM ⟨w.heap.size, 1, none⟩).run Try.prog w1 = .ok (.agg #[.int .i64 k, .int .i64 s, .int .i64 i, .int .i64 g, .int .i64 es, .int .i64 ei, .int .i64 eg, .int .i64 m, .int .i64 x, .int .i64 y, .int .i64 vx, .int .i64 vy, .int .i64 hp, .int .i64 pw, .int .i64 lf, .int .i64 mask]) w1 := ldM_of ⟨k, s, i, g, ⟨es, ei, eg, m, x, y, vx, vy, hp, pw, lf⟩, mask⟩ fun j v hj => (hbx.1 _).trans (deed_get _ ⟨k, s, i, g, ⟨es, ei, eg, m, x, y, vx, vy, hp, pw, lf⟩, mask⟩ _ hj)
    have x50 := hbx.1 0
    simp at x50
    clear hbx
    go_wp2_with fail
    refine (HLK.out _ _ HP.out).mono ?_
    rintro e V1 ⟨rfl, hb1⟩
    obtain ⟨w2, hs2, hm2⟩ := new_cmO V1 ⟨uk, us, ui, ug, ⟨ues, uei, ueg, um, ux, uy, uvx, uvy, uhp, upw, ulf⟩, umask⟩
    have H2 := Lib.hid (((HP.out.grow hb1).made hm2).new3)
    have hbx := H2.out.fourth.box
    have hL5' : (ldM ⟨w.heap.size, 1, none⟩).run Try.prog w2 = .ok (.agg #[.int .i64 k, .int .i64 s, .int .i64 i, .int .i64 g, .int .i64 es, .int .i64 ei, .int .i64 eg, .int .i64 m, .int .i64 x, .int .i64 y, .int .i64 vx, .int .i64 vy, .int .i64 hp, .int .i64 pw, .int .i64 lf, .int .i64 mask]) w2 := ldM_of ⟨k, s, i, g, ⟨es, ei, eg, m, x, y, vx, vy, hp, pw, lf⟩, mask⟩ fun j v hj => (hbx.1 _).trans (deed_get _ ⟨k, s, i, g, ⟨es, ei, eg, m, x, y, vx, vy, hp, pw, lf⟩, mask⟩ _ hj)
    have hs2' : (stM ⟨V1.heap.size, 0, none⟩ (.agg #[.int .i64 uk, .int .i64 us, .int .i64 ui, .int .i64 ug, .int .i64 ues, .int .i64 uei, .int .i64 ueg, .int .i64 um, .int .i64 ux, .int .i64 uy, .int .i64 uvx, .int .i64 uvy, .int .i64 uhp, .int .i64 upw, .int .i64 ulf, .int .i64 umask])).run Try.prog (V1.alloc (.cells #[.int .i64 0, .int .i64 0, .int .i64 0, .int .i64 0, .int .i64 0, .int .i64 0, .int .i64 0, .int .i64 0, .int .i64 0, .int .i64 0, .int .i64 0, .int .i64 0, .int .i64 0, .int .i64 0, .int .i64 0, .int .i64 0] 37)) = .ok () w2 := hs2
    clear hbx hb1 hs2 hm2 HP
    go_wp2_with fail
    refine (HRK.out _ _ H2.out.swap).mono ?_
    rintro e V2 ⟨rfl, hb2⟩
    obtain ⟨w3, hs3, hm3⟩ := new_cmO V2 ⟨uk, us, ui, ug, ⟨ues, uei, ueg, um, ux, uy, uvx, uvy, uhp, upw, ulf⟩, umask⟩
    have H3 := Lib.hid (((H2.out.grow hb2).made hm3).new3)
    have hb7 := H3.out.fourth.box
    have hb10 := H3.out.third.box
    have hL7 : (ldM ⟨V1.heap.size, 0, none⟩).run Try.prog w3 = .ok (.agg #[.int .i64 uk, .int .i64 us, .int .i64 ui, .int .i64 ug, .int .i64 ues, .int .i64 uei, .int .i64 ueg, .int .i64 um, .int .i64 ux, .int .i64 uy, .int .i64 uvx, .int .i64 uvy, .int .i64 uhp, .int .i64 upw, .int .i64 ulf, .int .i64 umask]) w3 := ldM_of ⟨uk, us, ui, ug, ⟨ues, uei, ueg, um, ux, uy, uvx, uvy, uhp, upw, ulf⟩, umask⟩ fun j v hj => by rw [Nat.zero_add, hb7.1, List.getElem?_toArray]; exact hj
    have hL10 : (ldM ⟨V2.heap.size, 0, none⟩).run Try.prog w3 = .ok (.agg #[.int .i64 uk, .int .i64 us, .int .i64 ui, .int .i64 ug, .int .i64 ues, .int .i64 uei, .int .i64 ueg, .int .i64 um, .int .i64 ux, .int .i64 uy, .int .i64 uvx, .int .i64 uvy, .int .i64 uhp, .int .i64 upw, .int .i64 ulf, .int .i64 umask]) w3 := ldM_of ⟨uk, us, ui, ug, ⟨ues, uei, ueg, um, ux, uy, uvx, uvy, uhp, upw, ulf⟩, umask⟩ fun j v hj => by rw [Nat.zero_add, hb10.1, List.getElem?_toArray]; exact hj
    have hs3' : (stM ⟨V2.heap.size, 0, none⟩ (.agg #[.int .i64 uk, .int .i64 us, .int .i64 ui, .int .i64 ug, .int .i64 ues, .int .i64 uei, .int .i64 ueg, .int .i64 um, .int .i64 ux, .int .i64 uy, .int .i64 uvx, .int .i64 uvy, .int .i64 uhp, .int .i64 upw, .int .i64 ulf, .int .i64 umask])).run Try.prog (V2.alloc (.cells #[.int .i64 0, .int .i64 0, .int .i64 0, .int .i64 0, .int .i64 0, .int .i64 0, .int .i64 0, .int .i64 0, .int .i64 0, .int .i64 0, .int .i64 0, .int .i64 0, .int .i64 0, .int .i64 0, .int .i64 0, .int .i64 0] 37)) = .ok () w3 := hs3
    have heq : cmEq ⟨uk, us, ui, ug, ⟨ues, uei, ueg, um, ux, uy, uvx, uvy, uhp, upw, ulf⟩, umask⟩ ⟨uk, us, ui, ug, ⟨ues, uei, ueg, um, ux, uy, uvx, uvy, uhp, upw, ulf⟩, umask⟩ = true := cmEq_self _
    have HB7 := Lib.hid hb7
    have HB10 := Lib.hid hb10
    clear hb7 hb10 hs3 hm3 hb2 H2 hs2' hL5 hL5' x50
    go_wp2_with fail
    refine wp_region_more (by kernel_rfl) (by kernel_rfl) ?_
    repeat (go_big_quiet_step (fail))
    refine wpQuiet_nil ?_
    rintro _ ⟨pm, rfl⟩
    go_upto_region 11 with fail
    generalize hw4 : more w3 _ _ = W4
    have hb4 : Below w3.heap.size w3 W4 := by rw [← hw4]; exact (by repeat' (first | (with_reducible exact Below.refl _ _) | (with_reducible assumption) | (with_reducible refine below_drewN ?_ _) | (with_reducible refine below_more _ _ _ ?_ ?_) | (with_reducible refine Below.alloc ?_ ?_ _) | (with_reducible refine Below.drew ?_) | (with_reducible refine Below.setCell ?_ ?_ _) | go_size))
    have H4 := Lib.hid (H3.out.grow hb4)
    clear hw4 hb4 H3 HB7 HB10 hL7 hL10
    have hS4 : ∀ j, W4.cell? ⟨V1.heap.size, j, none⟩ = (#[.int .i64 uk, .int .i64 us, .int .i64 ui, .int .i64 ug, .int .i64 ues, .int .i64 uei, .int .i64 ueg, .int .i64 um, .int .i64 ux, .int .i64 uy, .int .i64 uvx, .int .i64 uvy, .int .i64 uhp, .int .i64 upw, .int .i64 ulf, .int .i64 umask] : Array Value)[j]? ∧ W4.cell? ⟨V2.heap.size, j, none⟩ = (#[.int .i64 uk, .int .i64 us, .int .i64 ui, .int .i64 ug, .int .i64 ues, .int .i64 uei, .int .i64 ueg, .int .i64 um, .int .i64 ux, .int .i64 uy, .int .i64 uvx, .int .i64 uvy, .int .i64 uhp, .int .i64 upw, .int .i64 ulf, .int .i64 umask] : Array Value)[j]? := fun j => ⟨H4.out.fourth.box.1 j, H4.out.third.box.1 j⟩
    have hLD7 : ∀ W : World, (∀ j, W.cell? ⟨V1.heap.size, j, none⟩ = (#[.int .i64 uk, .int .i64 us, .int .i64 ui, .int .i64 ug, .int .i64 ues, .int .i64 uei, .int .i64 ueg, .int .i64 um, .int .i64 ux, .int .i64 uy, .int .i64 uvx, .int .i64 uvy, .int .i64 uhp, .int .i64 upw, .int .i64 ulf, .int .i64 umask] : Array Value)[j]? ∧ W.cell? ⟨V2.heap.size, j, none⟩ = (#[.int .i64 uk, .int .i64 us, .int .i64 ui, .int .i64 ug, .int .i64 ues, .int .i64 uei, .int .i64 ueg, .int .i64 um, .int .i64 ux, .int .i64 uy, .int .i64 uvx, .int .i64 uvy, .int .i64 uhp, .int .i64 upw, .int .i64 ulf, .int .i64 umask] : Array Value)[j]?) → (ldM ⟨V1.heap.size, 0, none⟩).run Try.prog W = .ok (.agg #[.int .i64 uk, .int .i64 us, .int .i64 ui, .int .i64 ug, .int .i64 ues, .int .i64 uei, .int .i64 ueg, .int .i64 um, .int .i64 ux, .int .i64 uy, .int .i64 uvx, .int .i64 uvy, .int .i64 uhp, .int .i64 upw, .int .i64 ulf, .int .i64 umask]) W := fun W hW => ldM_of ⟨uk, us, ui, ug, ⟨ues, uei, ueg, um, ux, uy, uvx, uvy, uhp, upw, ulf⟩, umask⟩ fun j v hj => by rw [Nat.zero_add, (hW j).1, List.getElem?_toArray]; exact hj
    have hLD10 : ∀ W : World, (∀ j, W.cell? ⟨V1.heap.size, j, none⟩ = (#[.int .i64 uk, .int .i64 us, .int .i64 ui, .int .i64 ug, .int .i64 ues, .int .i64 uei, .int .i64 ueg, .int .i64 um, .int .i64 ux, .int .i64 uy, .int .i64 uvx, .int .i64 uvy, .int .i64 uhp, .int .i64 upw, .int .i64 ulf, .int .i64 umask] : Array Value)[j]? ∧ W.cell? ⟨V2.heap.size, j, none⟩ = (#[.int .i64 uk, .int .i64 us, .int .i64 ui, .int .i64 ug, .int .i64 ues, .int .i64 uei, .int .i64 ueg, .int .i64 um, .int .i64 ux, .int .i64 uy, .int .i64 uvx, .int .i64 uvy, .int .i64 uhp, .int .i64 upw, .int .i64 ulf, .int .i64 umask] : Array Value)[j]?) → (ldM ⟨V2.heap.size, 0, none⟩).run Try.prog W = .ok (.agg #[.int .i64 uk, .int .i64 us, .int .i64 ui, .int .i64 ug, .int .i64 ues, .int .i64 uei, .int .i64 ueg, .int .i64 um, .int .i64 ux, .int .i64 uy, .int .i64 uvx, .int .i64 uvy, .int .i64 uhp, .int .i64 upw, .int .i64 ulf, .int .i64 umask]) W := fun W hW => ldM_of ⟨uk, us, ui, ug, ⟨ues, uei, ueg, um, ux, uy, uvx, uvy, uhp, upw, ulf⟩, umask⟩ fun j v hj => by rw [Nat.zero_add, (hW j).2, List.getElem?_toArray]; exact hj
    go_region_held3 (fun W => ∀ j, W.cell? ⟨V1.heap.size, j, none⟩ = (#[.int .i64 uk, .int .i64 us, .int .i64 ui, .int .i64 ug, .int .i64 ues, .int .i64 uei, .int .i64 ueg, .int .i64 um, .int .i64 ux, .int .i64 uy, .int .i64 uvx, .int .i64 uvy, .int .i64 uhp, .int .i64 upw, .int .i64 ulf, .int .i64 umask] : Array Value)[j]? ∧ W.cell? ⟨V2.heap.size, j, none⟩ = (#[.int .i64 uk, .int .i64 us, .int .i64 ui, .int .i64 ug, .int .i64 ues, .int .i64 uei, .int .i64 ueg, .int .i64 um, .int .i64 ux, .int .i64 uy, .int .i64 uvx, .int .i64 uvy, .int .i64 uhp, .int .i64 upw, .int .i64 ulf, .int .i64 umask] : Array Value)[j]?) (first | exact hS4 | exact hS5 | exact hS6) (first | (go_at_call 15; refine (HAD.out _ _ (H4.out.grow (by repeat' (first | (with_reducible exact Below.refl _ _) | (with_reducible assumption) | (with_reducible refine below_drewN ?_ _) | (with_reducible refine below_more _ _ _ ?_ ?_) | (with_reducible refine Below.alloc ?_ ?_ _) | (with_reducible refine Below.drew ?_) | (with_reducible refine Below.setCell ?_ ?_ _) | go_size)))).mono ?_; rintro e W5 ⟨rfl, h5⟩; have H5 := Lib.hid h5; have hS5 : ∀ j, W5.cell? ⟨V1.heap.size, j, none⟩ = (#[.int .i64 uk, .int .i64 us, .int .i64 ui, .int .i64 ug, .int .i64 ues, .int .i64 uei, .int .i64 ueg, .int .i64 um, .int .i64 ux, .int .i64 uy, .int .i64 uvx, .int .i64 uvy, .int .i64 uhp, .int .i64 upw, .int .i64 ulf, .int .i64 umask] : Array Value)[j]? ∧ W5.cell? ⟨V2.heap.size, j, none⟩ = (#[.int .i64 uk, .int .i64 us, .int .i64 ui, .int .i64 ug, .int .i64 ues, .int .i64 uei, .int .i64 ueg, .int .i64 um, .int .i64 ux, .int .i64 uy, .int .i64 uvx, .int .i64 uvy, .int .i64 uhp, .int .i64 upw, .int .i64 ulf, .int .i64 umask] : Array Value)[j]? := fun j => ⟨h5.fourth.box.1 j, h5.third.box.1 j⟩; clear h5) | (go_at_call 58; refine (HRA.out _ _ (H5.out.swap.grow (by repeat' (first | (with_reducible exact Below.refl _ _) | (with_reducible assumption) | (with_reducible refine below_drewN ?_ _) | (with_reducible refine below_more _ _ _ ?_ ?_) | (with_reducible refine Below.alloc ?_ ?_ _) | (with_reducible refine Below.drew ?_) | (with_reducible refine Below.setCell ?_ ?_ _) | go_size)))).mono ?_; rintro e W6 ⟨rfl, h6⟩; have H6 := Lib.hid h6.swap; have hS6 : ∀ j, W6.cell? ⟨V1.heap.size, j, none⟩ = (#[.int .i64 uk, .int .i64 us, .int .i64 ui, .int .i64 ug, .int .i64 ues, .int .i64 uei, .int .i64 ueg, .int .i64 um, .int .i64 ux, .int .i64 uy, .int .i64 uvx, .int .i64 uvy, .int .i64 uhp, .int .i64 upw, .int .i64 ulf, .int .i64 umask] : Array Value)[j]? ∧ W6.cell? ⟨V2.heap.size, j, none⟩ = (#[.int .i64 uk, .int .i64 us, .int .i64 ui, .int .i64 ug, .int .i64 ues, .int .i64 uei, .int .i64 ueg, .int .i64 um, .int .i64 ux, .int .i64 uy, .int .i64 uvx, .int .i64 uvy, .int .i64 uhp, .int .i64 upw, .int .i64 ulf, .int .i64 umask] : Array Value)[j]? := fun j => ⟨h6.fourth.box.1 j, h6.third.box.1 j⟩; clear h6))
    go_wp2_with fail
    go_ret
    exact ⟨by simp, (HMORE.out _ _ H6.out.drop3.drop3.drop3).grow (by repeat' (first | (with_reducible exact Below.refl _ _) | (with_reducible assumption) | (with_reducible refine below_drewN ?_ _) | (with_reducible refine below_more _ _ _ ?_ ?_) | (with_reducible refine Below.alloc ?_ ?_ _) | (with_reducible refine Below.drew ?_) | (with_reducible refine Below.setCell ?_ ?_ _) | go_size))⟩


set_option maxRecDepth 100000 in
set_option maxHeartbeats 4000000 in
theorem step_look3 (h : Own w0 w ((deskO p c D).and ((rdeskO q R c kk D).and F))) (kd k s i g es ei eg m x y vx vy hp pw lf mask : Int) (pv : Option Addr) (cv : Nat) (l : List Nid) (ho : CfgOk c) (him : (-9223372036854775808 ≤ m ∧ m ≤ 9223372036854775807)) (her : (lookF c D ⟨k, s, i, g, ⟨es, ei, eg, m, x, y, vx, vy, hp, pw, lf⟩, mask⟩).2.2 = 0) (hmu : (lookF c D ⟨k, s, i, g, ⟨es, ei, eg, m, x, y, vx, vy, hp, pw, lf⟩, mask⟩).2.1 = true) (hk : kd = 0 ∨ kd = 1 ∨ kd = 2) :
    Calls Try.prog 29 #[.pointer (some ⟨p, 0, none⟩), .pointer (some ⟨q, 0, none⟩), .agg #[.int .i64 kd, .int .i64 k, .int .i64 s, .int .i64 i, .int .i64 g, .int .i64 es, .int .i64 ei, .int .i64 eg, .int .i64 m, .int .i64 x, .int .i64 y, .int .i64 vx, .int .i64 vy, .int .i64 hp, .int .i64 pw, .int .i64 lf, .int .i64 mask, .slice pv l.length cv]] w fun e w' => e = .returned (.bool true) ∧ Own w0 w' ((deskO p c (stepF c D kd ⟨k, s, i, g, ⟨es, ei, eg, m, x, y, vx, vy, hp, pw, lf⟩, mask⟩ l)).and ((rdeskO q R c (kk + 40) (stepF c D kd ⟨k, s, i, g, ⟨es, ei, eg, m, x, y, vx, vy, hp, pw, lf⟩, mask⟩ l)).and F)) := by
  have hb := h.made (made_box w #[.int .i64 kd, .int .i64 k, .int .i64 s, .int .i64 i, .int .i64 g, .int .i64 es, .int .i64 ei, .int .i64 eg, .int .i64 m, .int .i64 x, .int .i64 y, .int .i64 vx, .int .i64 vy, .int .i64 hp, .int .i64 pw, .int .i64 lf, .int .i64 mask, .slice pv l.length cv] 40)
  have hb3 := hb.new3
  have HP := Lib.hid hb3
  have HMORE := Lib.hid (fun W E (hW : Own w0 W ((deskO p c E).and ((rdeskO q R c kk E).and F))) => rmore40 hW)
  clear h hb hb3
  have hmk := look_mask c D ⟨k, s, i, g, ⟨es, ei, eg, m, x, y, vx, vy, hp, pw, lf⟩, mask⟩
  have hla : ∃ a must er, lookF c D ⟨k, s, i, g, ⟨es, ei, eg, m, x, y, vx, vy, hp, pw, lf⟩, mask⟩ = (a, must, er) := ⟨_, _, _, rfl⟩
  obtain ⟨⟨uk, us, ui, ug, ⟨ues, uei, ueg, um, ux, uy, uvx, uvy, uhp, upw, ulf⟩, umask⟩, must, er, hla⟩ := hla
  have HLK : Hid (∀ W E, Own w0 W ((deskO p c D).and E) → Calls Try.prog 13 #[.pointer (some ⟨p, 0, none⟩), .agg #[.int .i64 k, .int .i64 s, .int .i64 i, .int .i64 g, .int .i64 es, .int .i64 ei, .int .i64 eg, .int .i64 m, .int .i64 x, .int .i64 y, .int .i64 vx, .int .i64 vy, .int .i64 hp, .int .i64 pw, .int .i64 lf, .int .i64 mask]] W fun e w' => e = .returned (.tuple #[.agg #[.int .i64 uk, .int .i64 us, .int .i64 ui, .int .i64 ug, .int .i64 ues, .int .i64 uei, .int .i64 ueg, .int .i64 um, .int .i64 ux, .int .i64 uy, .int .i64 uvx, .int .i64 uvy, .int .i64 uhp, .int .i64 upw, .int .i64 ulf, .int .i64 umask], .bool must, .int .i64 er]) ∧ Below W.heap.size W w') := Lib.hid (fun W E hW => by have := look_o hW ho ⟨k, s, i, g, ⟨es, ei, eg, m, x, y, vx, vy, hp, pw, lf⟩, mask⟩; rw [hla] at this; exact this)
  have HRK : Hid (∀ W E, Own w0 W ((rdeskO q R c kk D).and E) → Calls Try.prog 56 #[.pointer (some ⟨q, 0, none⟩), .agg #[.int .i64 k, .int .i64 s, .int .i64 i, .int .i64 g, .int .i64 es, .int .i64 ei, .int .i64 eg, .int .i64 m, .int .i64 x, .int .i64 y, .int .i64 vx, .int .i64 vy, .int .i64 hp, .int .i64 pw, .int .i64 lf, .int .i64 mask]] W fun e w' => e = .returned (.tuple #[.agg #[.int .i64 uk, .int .i64 us, .int .i64 ui, .int .i64 ug, .int .i64 ues, .int .i64 uei, .int .i64 ueg, .int .i64 um, .int .i64 ux, .int .i64 uy, .int .i64 uvx, .int .i64 uvy, .int .i64 uhp, .int .i64 upw, .int .i64 ulf, .int .i64 umask], .bool must, .int .i64 er]) ∧ Below W.heap.size W w') := Lib.hid (fun W E hW => by have := rlook_o hW ho ⟨k, s, i, g, ⟨es, ei, eg, m, x, y, vx, vy, hp, pw, lf⟩, mask⟩ him; rw [hla] at this; exact this)
  rw [hla] at her
  simp only at her
  rw [hla] at hmu
  simp only at hmu
  subst hmu her
  have him2 : (-9223372036854775808 ≤ um ∧ um ≤ 9223372036854775807) := by rcases (by rw [hla] at hmk; exact hmk : um = m ∨ um = 0) with e | e <;> rw [e] <;> first | exact him | omega
  have HN : ∀ j : Int, j = 0 ∨ j = 1 ∨ j = 2 → stepF c D j ⟨k, s, i, g, ⟨es, ei, eg, m, x, y, vx, vy, hp, pw, lf⟩, mask⟩ l = (admitF c (reservedF D ues uei).2 ⟨uk, us, ui, ug, ⟨ues, uei, ueg, um, ux, uy, uvx, uvy, uhp, upw, ulf⟩, umask⟩).2 := by
    intro j hj
    unfold stepF lookedF
    rw [if_pos hj, hla]
    rfl
  rw [HN _ hk]
  have HRV := Lib.hid (fun W E (hW : Own w0 W ((deskO p c D).and E)) => reserve_o hW ues uei)
  have HRR := Lib.hid (fun W E (hW : Own w0 W ((rdeskO q R c kk D).and E)) => rreserve_o hW ues uei)
  generalize reservedF D ues uei = rv at *
  obtain ⟨rn, D1⟩ := rv
  simp only at HRV HRR HN ⊢
  have HAD : Hid (∀ W E, Own w0 W ((deskO p c D1).and E) → Calls Try.prog 15 #[.pointer (some ⟨p, 0, none⟩), .agg #[.int .i64 uk, .int .i64 us, .int .i64 ui, .int .i64 ug, .int .i64 ues, .int .i64 uei, .int .i64 ueg, .int .i64 um, .int .i64 ux, .int .i64 uy, .int .i64 uvx, .int .i64 uvy, .int .i64 uhp, .int .i64 upw, .int .i64 ulf, .int .i64 umask]] W fun e w' => e = .returned (.int .i64 (admitF c D1 ⟨uk, us, ui, ug, ⟨ues, uei, ueg, um, ux, uy, uvx, uvy, uhp, upw, ulf⟩, umask⟩).1) ∧ Own w0 w' ((deskO p c (admitF c D1 ⟨uk, us, ui, ug, ⟨ues, uei, ueg, um, ux, uy, uvx, uvy, uhp, upw, ulf⟩, umask⟩).2).and E)) := Lib.hid (fun W E hW => admit_o hW ho ⟨uk, us, ui, ug, ⟨ues, uei, ueg, um, ux, uy, uvx, uvy, uhp, upw, ulf⟩, umask⟩)
  have HRA : Hid (∀ W E, Own w0 W ((rdeskO q R c kk D1).and E) → Calls Try.prog 58 #[.pointer (some ⟨q, 0, none⟩), .agg #[.int .i64 uk, .int .i64 us, .int .i64 ui, .int .i64 ug, .int .i64 ues, .int .i64 uei, .int .i64 ueg, .int .i64 um, .int .i64 ux, .int .i64 uy, .int .i64 uvx, .int .i64 uvy, .int .i64 uhp, .int .i64 upw, .int .i64 ulf, .int .i64 umask]] W fun e w' => e = .returned (.int .i64 (admitF c D1 ⟨uk, us, ui, ug, ⟨ues, uei, ueg, um, ux, uy, uvx, uvy, uhp, upw, ulf⟩, umask⟩).1) ∧ Own w0 w' ((rdeskO q R c kk (admitF c D1 ⟨uk, us, ui, ug, ⟨ues, uei, ueg, um, ux, uy, uvx, uvy, uhp, upw, ulf⟩, umask⟩).2).and E)) := Lib.hid (fun W E hW => radmit_o hW ho ⟨uk, us, ui, ug, ⟨ues, uei, ueg, um, ux, uy, uvx, uvy, uhp, upw, ulf⟩, umask⟩ him2)
  clear HN hla hmk
  generalize admitF c D1 ⟨uk, us, ui, ug, ⟨ues, uei, ueg, um, ux, uy, uvx, uvy, uhp, upw, ulf⟩, umask⟩ = ad at *
  obtain ⟨an, D2⟩ := ad
  simp only at HAD HRA ⊢
  rcases hk with rfl | rfl | rfl
  all_goals
    go_enter Try.func29, Try.ntmps29
    go_upto_region 1 with fail
    generalize World.alloc w _ = w1 at *
    have hbx := HP.out.third.box
    have hL5 : (ldM ⟨w.heap.size, 1, none⟩).run Try.prog w1 = .ok (.agg #[.int .i64 k, .int .i64 s, .int .i64 i, .int .i64 g, .int .i64 es, .int .i64 ei, .int .i64 eg, .int .i64 m, .int .i64 x, .int .i64 y, .int .i64 vx, .int .i64 vy, .int .i64 hp, .int .i64 pw, .int .i64 lf, .int .i64 mask]) w1 := ldM_of ⟨k, s, i, g, ⟨es, ei, eg, m, x, y, vx, vy, hp, pw, lf⟩, mask⟩ fun j v hj => (hbx.1 _).trans (deed_get _ ⟨k, s, i, g, ⟨es, ei, eg, m, x, y, vx, vy, hp, pw, lf⟩, mask⟩ _ hj)
    have x50 := hbx.1 0
    simp at x50
    clear hbx
    go_wp2_with fail
    refine (HLK.out _ _ HP.out).mono ?_
    rintro e V1 ⟨rfl, hb1⟩
    obtain ⟨w2, hs2, hm2⟩ := new_cmO V1 ⟨uk, us, ui, ug, ⟨ues, uei, ueg, um, ux, uy, uvx, uvy, uhp, upw, ulf⟩, umask⟩
    have H2 := Lib.hid (((HP.out.grow hb1).made hm2).new3)
    have hbx := H2.out.fourth.box
    have hL5' : (ldM ⟨w.heap.size, 1, none⟩).run Try.prog w2 = .ok (.agg #[.int .i64 k, .int .i64 s, .int .i64 i, .int .i64 g, .int .i64 es, .int .i64 ei, .int .i64 eg, .int .i64 m, .int .i64 x, .int .i64 y, .int .i64 vx, .int .i64 vy, .int .i64 hp, .int .i64 pw, .int .i64 lf, .int .i64 mask]) w2 := ldM_of ⟨k, s, i, g, ⟨es, ei, eg, m, x, y, vx, vy, hp, pw, lf⟩, mask⟩ fun j v hj => (hbx.1 _).trans (deed_get _ ⟨k, s, i, g, ⟨es, ei, eg, m, x, y, vx, vy, hp, pw, lf⟩, mask⟩ _ hj)
    have hs2' : (stM ⟨V1.heap.size, 0, none⟩ (.agg #[.int .i64 uk, .int .i64 us, .int .i64 ui, .int .i64 ug, .int .i64 ues, .int .i64 uei, .int .i64 ueg, .int .i64 um, .int .i64 ux, .int .i64 uy, .int .i64 uvx, .int .i64 uvy, .int .i64 uhp, .int .i64 upw, .int .i64 ulf, .int .i64 umask])).run Try.prog (V1.alloc (.cells #[.int .i64 0, .int .i64 0, .int .i64 0, .int .i64 0, .int .i64 0, .int .i64 0, .int .i64 0, .int .i64 0, .int .i64 0, .int .i64 0, .int .i64 0, .int .i64 0, .int .i64 0, .int .i64 0, .int .i64 0, .int .i64 0] 37)) = .ok () w2 := hs2
    clear hbx hb1 hs2 hm2 HP
    go_wp2_with fail
    refine (HRK.out _ _ H2.out.swap).mono ?_
    rintro e V2 ⟨rfl, hb2⟩
    obtain ⟨w3, hs3, hm3⟩ := new_cmO V2 ⟨uk, us, ui, ug, ⟨ues, uei, ueg, um, ux, uy, uvx, uvy, uhp, upw, ulf⟩, umask⟩
    have H3 := Lib.hid (((H2.out.grow hb2).made hm3).new3)
    have hb7 := H3.out.fourth.box
    have hb10 := H3.out.third.box
    have hL7 : (ldM ⟨V1.heap.size, 0, none⟩).run Try.prog w3 = .ok (.agg #[.int .i64 uk, .int .i64 us, .int .i64 ui, .int .i64 ug, .int .i64 ues, .int .i64 uei, .int .i64 ueg, .int .i64 um, .int .i64 ux, .int .i64 uy, .int .i64 uvx, .int .i64 uvy, .int .i64 uhp, .int .i64 upw, .int .i64 ulf, .int .i64 umask]) w3 := ldM_of ⟨uk, us, ui, ug, ⟨ues, uei, ueg, um, ux, uy, uvx, uvy, uhp, upw, ulf⟩, umask⟩ fun j v hj => by rw [Nat.zero_add, hb7.1, List.getElem?_toArray]; exact hj
    have hL10 : (ldM ⟨V2.heap.size, 0, none⟩).run Try.prog w3 = .ok (.agg #[.int .i64 uk, .int .i64 us, .int .i64 ui, .int .i64 ug, .int .i64 ues, .int .i64 uei, .int .i64 ueg, .int .i64 um, .int .i64 ux, .int .i64 uy, .int .i64 uvx, .int .i64 uvy, .int .i64 uhp, .int .i64 upw, .int .i64 ulf, .int .i64 umask]) w3 := ldM_of ⟨uk, us, ui, ug, ⟨ues, uei, ueg, um, ux, uy, uvx, uvy, uhp, upw, ulf⟩, umask⟩ fun j v hj => by rw [Nat.zero_add, hb10.1, List.getElem?_toArray]; exact hj
    have hs3' : (stM ⟨V2.heap.size, 0, none⟩ (.agg #[.int .i64 uk, .int .i64 us, .int .i64 ui, .int .i64 ug, .int .i64 ues, .int .i64 uei, .int .i64 ueg, .int .i64 um, .int .i64 ux, .int .i64 uy, .int .i64 uvx, .int .i64 uvy, .int .i64 uhp, .int .i64 upw, .int .i64 ulf, .int .i64 umask])).run Try.prog (V2.alloc (.cells #[.int .i64 0, .int .i64 0, .int .i64 0, .int .i64 0, .int .i64 0, .int .i64 0, .int .i64 0, .int .i64 0, .int .i64 0, .int .i64 0, .int .i64 0, .int .i64 0, .int .i64 0, .int .i64 0, .int .i64 0, .int .i64 0] 37)) = .ok () w3 := hs3
    have heq : cmEq ⟨uk, us, ui, ug, ⟨ues, uei, ueg, um, ux, uy, uvx, uvy, uhp, upw, ulf⟩, umask⟩ ⟨uk, us, ui, ug, ⟨ues, uei, ueg, um, ux, uy, uvx, uvy, uhp, upw, ulf⟩, umask⟩ = true := cmEq_self _
    have HB7 := Lib.hid hb7
    have HB10 := Lib.hid hb10
    clear hb7 hb10 hs3 hm3 hb2 H2 hs2' hL5 hL5' x50
    go_wp2_with fail
    have c7 := H3.out.snd.rcells.1
    have hS3 : ∀ j, w3.cell? ⟨V1.heap.size, j, none⟩ = (#[.int .i64 uk, .int .i64 us, .int .i64 ui, .int .i64 ug, .int .i64 ues, .int .i64 uei, .int .i64 ueg, .int .i64 um, .int .i64 ux, .int .i64 uy, .int .i64 uvx, .int .i64 uvy, .int .i64 uhp, .int .i64 upw, .int .i64 ulf, .int .i64 umask] : Array Value)[j]? ∧ w3.cell? ⟨V2.heap.size, j, none⟩ = (#[.int .i64 uk, .int .i64 us, .int .i64 ui, .int .i64 ug, .int .i64 ues, .int .i64 uei, .int .i64 ueg, .int .i64 um, .int .i64 ux, .int .i64 uy, .int .i64 uvx, .int .i64 uvy, .int .i64 uhp, .int .i64 upw, .int .i64 ulf, .int .i64 umask] : Array Value)[j]? := fun j => ⟨HB7.out.1 j, HB10.out.1 j⟩
    clear HB7 HB10 hL7 hL10
    go_region_held3 (fun W => W.cell? ⟨q, 7, none⟩ = some (.pointer (some ⟨R, 0, none⟩)) ∧ ∀ j, W.cell? ⟨V1.heap.size, j, none⟩ = (#[.int .i64 uk, .int .i64 us, .int .i64 ui, .int .i64 ug, .int .i64 ues, .int .i64 uei, .int .i64 ueg, .int .i64 um, .int .i64 ux, .int .i64 uy, .int .i64 uvx, .int .i64 uvy, .int .i64 uhp, .int .i64 upw, .int .i64 ulf, .int .i64 umask] : Array Value)[j]? ∧ W.cell? ⟨V2.heap.size, j, none⟩ = (#[.int .i64 uk, .int .i64 us, .int .i64 ui, .int .i64 ug, .int .i64 ues, .int .i64 uei, .int .i64 ueg, .int .i64 um, .int .i64 ux, .int .i64 uy, .int .i64 uvx, .int .i64 uvy, .int .i64 uhp, .int .i64 upw, .int .i64 ulf, .int .i64 umask] : Array Value)[j]?) (first | exact ⟨c7, hS3⟩ | exact ⟨c74, hS4⟩ | exact ⟨c75, hS5⟩) (first | (go_at_call 14; refine (HRV.out _ _ (H3.out.grow (by repeat' (first | (with_reducible exact Below.refl _ _) | (with_reducible assumption) | (with_reducible refine below_drewN ?_ _) | (with_reducible refine below_more _ _ _ ?_ ?_) | (with_reducible refine Below.alloc ?_ ?_ _) | (with_reducible refine Below.drew ?_) | (with_reducible refine Below.setCell ?_ ?_ _) | go_size)))).mono ?_; rintro e W4 ⟨rfl, h4⟩; have H4 := Lib.hid h4; have c74 := h4.snd.rcells.1; have hS4 : ∀ j, W4.cell? ⟨V1.heap.size, j, none⟩ = (#[.int .i64 uk, .int .i64 us, .int .i64 ui, .int .i64 ug, .int .i64 ues, .int .i64 uei, .int .i64 ueg, .int .i64 um, .int .i64 ux, .int .i64 uy, .int .i64 uvx, .int .i64 uvy, .int .i64 uhp, .int .i64 upw, .int .i64 ulf, .int .i64 umask] : Array Value)[j]? ∧ W4.cell? ⟨V2.heap.size, j, none⟩ = (#[.int .i64 uk, .int .i64 us, .int .i64 ui, .int .i64 ug, .int .i64 ues, .int .i64 uei, .int .i64 ueg, .int .i64 um, .int .i64 ux, .int .i64 uy, .int .i64 uvx, .int .i64 uvy, .int .i64 uhp, .int .i64 upw, .int .i64 ulf, .int .i64 umask] : Array Value)[j]? := fun j => ⟨h4.fourth.box.1 j, h4.third.box.1 j⟩; clear h4) | (go_at_call 57; refine (HRR.out _ _ (H4.out.swap.grow (by repeat' (first | (with_reducible exact Below.refl _ _) | (with_reducible assumption) | (with_reducible refine below_drewN ?_ _) | (with_reducible refine below_more _ _ _ ?_ ?_) | (with_reducible refine Below.alloc ?_ ?_ _) | (with_reducible refine Below.drew ?_) | (with_reducible refine Below.setCell ?_ ?_ _) | go_size)))).mono ?_; rintro e W5 ⟨rfl, h5⟩; have H5 := Lib.hid h5.swap; have c75 := h5.rcells.1; have hS5 : ∀ j, W5.cell? ⟨V1.heap.size, j, none⟩ = (#[.int .i64 uk, .int .i64 us, .int .i64 ui, .int .i64 ug, .int .i64 ues, .int .i64 uei, .int .i64 ueg, .int .i64 um, .int .i64 ux, .int .i64 uy, .int .i64 uvx, .int .i64 uvy, .int .i64 uhp, .int .i64 upw, .int .i64 ulf, .int .i64 umask] : Array Value)[j]? ∧ W5.cell? ⟨V2.heap.size, j, none⟩ = (#[.int .i64 uk, .int .i64 us, .int .i64 ui, .int .i64 ug, .int .i64 ues, .int .i64 uei, .int .i64 ueg, .int .i64 um, .int .i64 ux, .int .i64 uy, .int .i64 uvx, .int .i64 uvy, .int .i64 uhp, .int .i64 upw, .int .i64 ulf, .int .i64 umask] : Array Value)[j]? := fun j => ⟨h5.fourth.box.1 j, h5.third.box.1 j⟩; clear h5))
    go_upto_region 11 with fail
    clear hS3 hS4 hS5 c7 c74 c75 H3 H4
    obtain ⟨W4, rfl⟩ : ∃ W4 : World, W4 = W5 := ⟨_, rfl⟩
    have H4 := H5
    clear H5
    have hS4 : ∀ j, W4.cell? ⟨V1.heap.size, j, none⟩ = (#[.int .i64 uk, .int .i64 us, .int .i64 ui, .int .i64 ug, .int .i64 ues, .int .i64 uei, .int .i64 ueg, .int .i64 um, .int .i64 ux, .int .i64 uy, .int .i64 uvx, .int .i64 uvy, .int .i64 uhp, .int .i64 upw, .int .i64 ulf, .int .i64 umask] : Array Value)[j]? ∧ W4.cell? ⟨V2.heap.size, j, none⟩ = (#[.int .i64 uk, .int .i64 us, .int .i64 ui, .int .i64 ug, .int .i64 ues, .int .i64 uei, .int .i64 ueg, .int .i64 um, .int .i64 ux, .int .i64 uy, .int .i64 uvx, .int .i64 uvy, .int .i64 uhp, .int .i64 upw, .int .i64 ulf, .int .i64 umask] : Array Value)[j]? := fun j => ⟨H4.out.fourth.box.1 j, H4.out.third.box.1 j⟩
    have hLD7 : ∀ W : World, (∀ j, W.cell? ⟨V1.heap.size, j, none⟩ = (#[.int .i64 uk, .int .i64 us, .int .i64 ui, .int .i64 ug, .int .i64 ues, .int .i64 uei, .int .i64 ueg, .int .i64 um, .int .i64 ux, .int .i64 uy, .int .i64 uvx, .int .i64 uvy, .int .i64 uhp, .int .i64 upw, .int .i64 ulf, .int .i64 umask] : Array Value)[j]? ∧ W.cell? ⟨V2.heap.size, j, none⟩ = (#[.int .i64 uk, .int .i64 us, .int .i64 ui, .int .i64 ug, .int .i64 ues, .int .i64 uei, .int .i64 ueg, .int .i64 um, .int .i64 ux, .int .i64 uy, .int .i64 uvx, .int .i64 uvy, .int .i64 uhp, .int .i64 upw, .int .i64 ulf, .int .i64 umask] : Array Value)[j]?) → (ldM ⟨V1.heap.size, 0, none⟩).run Try.prog W = .ok (.agg #[.int .i64 uk, .int .i64 us, .int .i64 ui, .int .i64 ug, .int .i64 ues, .int .i64 uei, .int .i64 ueg, .int .i64 um, .int .i64 ux, .int .i64 uy, .int .i64 uvx, .int .i64 uvy, .int .i64 uhp, .int .i64 upw, .int .i64 ulf, .int .i64 umask]) W := fun W hW => ldM_of ⟨uk, us, ui, ug, ⟨ues, uei, ueg, um, ux, uy, uvx, uvy, uhp, upw, ulf⟩, umask⟩ fun j v hj => by rw [Nat.zero_add, (hW j).1, List.getElem?_toArray]; exact hj
    have hLD10 : ∀ W : World, (∀ j, W.cell? ⟨V1.heap.size, j, none⟩ = (#[.int .i64 uk, .int .i64 us, .int .i64 ui, .int .i64 ug, .int .i64 ues, .int .i64 uei, .int .i64 ueg, .int .i64 um, .int .i64 ux, .int .i64 uy, .int .i64 uvx, .int .i64 uvy, .int .i64 uhp, .int .i64 upw, .int .i64 ulf, .int .i64 umask] : Array Value)[j]? ∧ W.cell? ⟨V2.heap.size, j, none⟩ = (#[.int .i64 uk, .int .i64 us, .int .i64 ui, .int .i64 ug, .int .i64 ues, .int .i64 uei, .int .i64 ueg, .int .i64 um, .int .i64 ux, .int .i64 uy, .int .i64 uvx, .int .i64 uvy, .int .i64 uhp, .int .i64 upw, .int .i64 ulf, .int .i64 umask] : Array Value)[j]?) → (ldM ⟨V2.heap.size, 0, none⟩).run Try.prog W = .ok (.agg #[.int .i64 uk, .int .i64 us, .int .i64 ui, .int .i64 ug, .int .i64 ues, .int .i64 uei, .int .i64 ueg, .int .i64 um, .int .i64 ux, .int .i64 uy, .int .i64 uvx, .int .i64 uvy, .int .i64 uhp, .int .i64 upw, .int .i64 ulf, .int .i64 umask]) W := fun W hW => ldM_of ⟨uk, us, ui, ug, ⟨ues, uei, ueg, um, ux, uy, uvx, uvy, uhp, upw, ulf⟩, umask⟩ fun j v hj => by rw [Nat.zero_add, (hW j).2, List.getElem?_toArray]; exact hj
    go_region_held3 (fun W => ∀ j, W.cell? ⟨V1.heap.size, j, none⟩ = (#[.int .i64 uk, .int .i64 us, .int .i64 ui, .int .i64 ug, .int .i64 ues, .int .i64 uei, .int .i64 ueg, .int .i64 um, .int .i64 ux, .int .i64 uy, .int .i64 uvx, .int .i64 uvy, .int .i64 uhp, .int .i64 upw, .int .i64 ulf, .int .i64 umask] : Array Value)[j]? ∧ W.cell? ⟨V2.heap.size, j, none⟩ = (#[.int .i64 uk, .int .i64 us, .int .i64 ui, .int .i64 ug, .int .i64 ues, .int .i64 uei, .int .i64 ueg, .int .i64 um, .int .i64 ux, .int .i64 uy, .int .i64 uvx, .int .i64 uvy, .int .i64 uhp, .int .i64 upw, .int .i64 ulf, .int .i64 umask] : Array Value)[j]?) (first | exact hS4 | exact hS5 | exact hS6) (first | (go_at_call 15; refine (HAD.out _ _ (H4.out.grow (by repeat' (first | (with_reducible exact Below.refl _ _) | (with_reducible assumption) | (with_reducible refine below_drewN ?_ _) | (with_reducible refine below_more _ _ _ ?_ ?_) | (with_reducible refine Below.alloc ?_ ?_ _) | (with_reducible refine Below.drew ?_) | (with_reducible refine Below.setCell ?_ ?_ _) | go_size)))).mono ?_; rintro e W5 ⟨rfl, h5⟩; have H5 := Lib.hid h5; have hS5 : ∀ j, W5.cell? ⟨V1.heap.size, j, none⟩ = (#[.int .i64 uk, .int .i64 us, .int .i64 ui, .int .i64 ug, .int .i64 ues, .int .i64 uei, .int .i64 ueg, .int .i64 um, .int .i64 ux, .int .i64 uy, .int .i64 uvx, .int .i64 uvy, .int .i64 uhp, .int .i64 upw, .int .i64 ulf, .int .i64 umask] : Array Value)[j]? ∧ W5.cell? ⟨V2.heap.size, j, none⟩ = (#[.int .i64 uk, .int .i64 us, .int .i64 ui, .int .i64 ug, .int .i64 ues, .int .i64 uei, .int .i64 ueg, .int .i64 um, .int .i64 ux, .int .i64 uy, .int .i64 uvx, .int .i64 uvy, .int .i64 uhp, .int .i64 upw, .int .i64 ulf, .int .i64 umask] : Array Value)[j]? := fun j => ⟨h5.fourth.box.1 j, h5.third.box.1 j⟩; clear h5) | (go_at_call 58; refine (HRA.out _ _ (H5.out.swap.grow (by repeat' (first | (with_reducible exact Below.refl _ _) | (with_reducible assumption) | (with_reducible refine below_drewN ?_ _) | (with_reducible refine below_more _ _ _ ?_ ?_) | (with_reducible refine Below.alloc ?_ ?_ _) | (with_reducible refine Below.drew ?_) | (with_reducible refine Below.setCell ?_ ?_ _) | go_size)))).mono ?_; rintro e W6 ⟨rfl, h6⟩; have H6 := Lib.hid h6.swap; have hS6 : ∀ j, W6.cell? ⟨V1.heap.size, j, none⟩ = (#[.int .i64 uk, .int .i64 us, .int .i64 ui, .int .i64 ug, .int .i64 ues, .int .i64 uei, .int .i64 ueg, .int .i64 um, .int .i64 ux, .int .i64 uy, .int .i64 uvx, .int .i64 uvy, .int .i64 uhp, .int .i64 upw, .int .i64 ulf, .int .i64 umask] : Array Value)[j]? ∧ W6.cell? ⟨V2.heap.size, j, none⟩ = (#[.int .i64 uk, .int .i64 us, .int .i64 ui, .int .i64 ug, .int .i64 ues, .int .i64 uei, .int .i64 ueg, .int .i64 um, .int .i64 ux, .int .i64 uy, .int .i64 uvx, .int .i64 uvy, .int .i64 uhp, .int .i64 upw, .int .i64 ulf, .int .i64 umask] : Array Value)[j]? := fun j => ⟨h6.fourth.box.1 j, h6.third.box.1 j⟩; clear h6))
    go_wp2_with fail
    go_ret
    exact ⟨by simp, (HMORE.out _ _ H6.out.drop3.drop3.drop3).grow (by repeat' (first | (with_reducible exact Below.refl _ _) | (with_reducible assumption) | (with_reducible refine below_drewN ?_ _) | (with_reducible refine below_more _ _ _ ?_ ?_) | (with_reducible refine Below.alloc ?_ ?_ _) | (with_reducible refine Below.drew ?_) | (with_reducible refine Below.setCell ?_ ?_ _) | go_size))⟩


end
end Go.Proofs.Ytbghjklnlhoklaa
