/- Texts WoD: what the claim reaches of them. Conditions stand at each theorem. -/
import Derived.Test.YtoimjjhopljdmaaGreatP22
set_option maxRecDepth 100000
set_option maxHeartbeats 8000000
namespace Go.Proofs.YtoimjjhopljdmaaGreat
open Go.RowKit
open Go.Proofs.Tryz (prog)
open Go.Value (int)
open Go.IntKind (i64)
open Go.Lib (hid)
section
structure Rd (p d b : Nat) (m : Cm) (V : World) : Prop where
 x : V.cell? ⟨p, 0, none⟩ = some (.pointer (some ⟨d, 0, none⟩))
 c : ∀ j, V.cell? ⟨b, j, none⟩ = (cmC m).toArray[j]?
theorem Rd.ld {p d b : Nat} {m : Cm} {V : World} (h : Rd p d b m V) : (ldM ⟨b, 0, none⟩).run prog V = .ok (.agg (cmC m).toArray) V := ldM_of m fun j v hj => by rw [Nat.zero_add, h.c j, List.getElem?_toArray]; exact hj
theorem own_twoC {w0 W : World} {X : Ob} (h : Own w0 W X) (k s i g es ei eg m x y vx vy hp pw lf mask : Int) : Own w0 ((W.alloc (.cells #[int i64 k, int i64 s, int i64 i, int i64 g, int i64 es, int i64 ei, int i64 eg, int i64 m, int i64 x, int i64 y, int i64 vx, int i64 vy, int i64 hp, int i64 pw, int i64 lf, int i64 mask] 34)).alloc (.cells #[int i64 0, int i64 0, int i64 0, int i64 0, int i64 0, int i64 0, int i64 0, int i64 0, int i64 0, int i64 0, int i64 0, int i64 0, int i64 0, int i64 0, int i64 0, int i64 0] 34)) ((boxO (W.heap.size + 1) #[int i64 0, int i64 0, int i64 0, int i64 0, int i64 0, int i64 0, int i64 0, int i64 0, int i64 0, int i64 0, int i64 0, int i64 0, int i64 0, int i64 0, int i64 0, int i64 0] 34).and ((boxO W.heap.size #[int i64 k, int i64 s, int i64 i, int i64 g, int i64 es, int i64 ei, int i64 eg, int i64 m, int i64 x, int i64 y, int i64 vx, int i64 vy, int i64 hp, int i64 pw, int i64 lf, int i64 mask] 34).and X)) := by
 have h1 := (h.made (made_box W #[int i64 k, int i64 s, int i64 i, int i64 g, int i64 es, int i64 ei, int i64 eg, int i64 m, int i64 x, int i64 y, int i64 vx, int i64 vy, int i64 hp, int i64 pw, int i64 lf, int i64 mask] 34)).made (made_box (W.alloc (.cells #[int i64 k, int i64 s, int i64 i, int i64 g, int i64 es, int i64 ei, int i64 eg, int i64 m, int i64 x, int i64 y, int i64 vx, int i64 vy, int i64 hp, int i64 pw, int i64 lf, int i64 mask] 34)) #[int i64 0, int i64 0, int i64 0, int i64 0, int i64 0, int i64 0, int i64 0, int i64 0, int i64 0, int i64 0, int i64 0, int i64 0, int i64 0, int i64 0, int i64 0, int i64 0] 34)
 rw [World.size_alloc] at h1
 exact h1
theorem own_stM {w0 W : World} {F : Ob} {b : Nat} {a : Array Value} {T : TypeId} (h : Own w0 W ((boxO b a T).and F)) (ha : a.size = 16) (m : Cm) :
 ∃ W', (stM ⟨b, 0, none⟩ (.agg (cmC m).toArray)).run prog W = .ok () W' ∧ Own w0 W' ((boxO b (cmC m).toArray T).and F) := by
 have hb := h.box
 refine ⟨_, st_at W b (fun j hj => by rw [hb.1, Array.getElem?_eq_getElem (by omega)]; rfl) hb.2.1 m, h.step fun x hx => ?_⟩
 obtain ⟨hx1, hx2⟩ := hx
 exact ⟨x, ⟨cells_box W b a T ha hx1 m, hx2⟩, Chg.of_turned (setCells_turned b (cmC m) 0 W) fun k hk _ => (hx2 k).2 (by cases hk; rfl), fun _ h => .inl h⟩
theorem results_cme {fn : Func} {a b : Tmp} {tmps : Array Value} {W : World} {ad : Addr} {v vb : Value} (h : fn.results = #[.cell a 34, .tmp b]) (ha : tmps.getD a undef = .pointer (some ad)) (hb : tmps.getD b undef = vb) (hl : (ldM ad).run prog W = .ok v W) :
 (results fn tmps).run prog W = .ok (.tuple #[v, vb]) W := by
 unfold results
 rw [h]
 simp only [List.mapM_toArray, List.mapM_cons, List.mapM_nil, ha, hb, loadVar_ldM]
 simp [asAddr, hl, go_sem]
theorem Own.fourthB {w0 W : World} {A B C E F : Ob} (h : Own w0 W (E.and (A.and (B.and (C.and F))))) : Own w0 W (A.and (B.and (C.and (E.and F)))) := (h.swap.inner fun _ h => and_swap' h).inner fun _ h => and_in' (fun _ h => and_swap' h) h
attribute [local go_sem ↓] loadVar_ldM storeVar_stM
theorem call_no {w0 W : World} {F : Ob} {p : Nat} {c : Cfg} {X : Wo} (h : Own w0 W ((worldO p c X).and F)) (ho : CfgOk c) (k s i g es ei eg m x y vx vy hp pw lf mask : Int) (er : Int) (her : er ≠ 0) (hla : lookF c X.D ⟨k, s, i, g, ⟨es, ei, eg, m, x, y, vx, vy, hp, pw, lf⟩, mask⟩ = (⟨0, 0, 0, 0, ⟨0, 0, 0, 0, 0, 0, 0, 0, 0, 0, 0⟩, 0⟩, false, er)) :
 Calls prog 19 #[.pointer (some ⟨p, 0, none⟩), .agg #[int i64 k, int i64 s, int i64 i, int i64 g, int i64 es, int i64 ei, int i64 eg, int i64 m, int i64 x, int i64 y, int i64 vx, int i64 vy, int i64 hp, int i64 pw, int i64 lf, int i64 mask]] W fun e w' => e = .returned (.tuple #[.agg #[int i64 0, int i64 0, int i64 0, int i64 0, int i64 0, int i64 0, int i64 0, int i64 0, int i64 0, int i64 0, int i64 0, int i64 0, int i64 0, int i64 0, int i64 0, int i64 0], int i64 er]) ∧ Own w0 w' ((worldO p c X).and F) := by
 obtain ⟨d, v, h⟩ := wopen h
 have h1 := own_twoC h k s i g es ei eg m x y vx vy hp pw lf mask
 have hn34 : W.heap.size + 1 ≠ W.heap.size := by omega
 have HO := hid ho
 have HLA := hid hla
 clear h ho hla
 have HLK : Hid (∀ V E, Own w0 V ((deskO d c X.D).and E) → Calls prog 44 #[.pointer (some ⟨d, 0, none⟩), .agg #[int i64 k, int i64 s, int i64 i, int i64 g, int i64 es, int i64 ei, int i64 eg, int i64 m, int i64 x, int i64 y, int i64 vx, int i64 vy, int i64 hp, int i64 pw, int i64 lf, int i64 mask]] V fun e w' => e = .returned (.tuple #[.agg #[int i64 0, int i64 0, int i64 0, int i64 0, int i64 0, int i64 0, int i64 0, int i64 0, int i64 0, int i64 0, int i64 0, int i64 0, int i64 0, int i64 0, int i64 0, int i64 0], .bool false, int i64 er]) ∧ Below V.heap.size V w') := hid (fun V E hV => by have := look_o hV HO.out ⟨k, s, i, g, ⟨es, ei, eg, m, x, y, vx, vy, hp, pw, lf⟩, mask⟩; rw [HLA.out] at this; exact this)
 go_enter Tryz.func19, Tryz.ntmps19
 go_upto_region 1 with fail
 generalize (W.alloc _).alloc _ = w1 at *
 generalize W.heap.size + 1 = b4 at *
 generalize W.heap.size = b3 at *
 have q3 := h1.swap.box
 have x0 := h1.third.box.1 0
 simp at x0
 have lp := h1.third.box.2.2.1
 obtain ⟨z0, z1, z2⟩ := ltz lp
 have q3d : ∀ j, (w1.drew : World).cell? ⟨b3, j, none⟩ = (#[int i64 k, int i64 s, int i64 i, int i64 g, int i64 es, int i64 ei, int i64 eg, int i64 m, int i64 x, int i64 y, int i64 vx, int i64 vy, int i64 hp, int i64 pw, int i64 lf, int i64 mask] : Array Value)[j]? := fun j => q3.1 j
 have H1 := hid h1
 clear h1 q3
 go_upto_region 3 with fail
 have hLD : ∀ V : World, Rd p d b3 ⟨k, s, i, g, ⟨es, ei, eg, m, x, y, vx, vy, hp, pw, lf⟩, mask⟩ V → (ldM ⟨b3, 0, none⟩).run prog V = .ok (.agg #[int i64 k, int i64 s, int i64 i, int i64 g, int i64 es, int i64 ei, int i64 eg, int i64 m, int i64 x, int i64 y, int i64 vx, int i64 vy, int i64 hp, int i64 pw, int i64 lf, int i64 mask]) V := fun V hV => hV.ld
 have hLX : ∀ V : World, Rd p d b3 ⟨k, s, i, g, ⟨es, ei, eg, m, x, y, vx, vy, hp, pw, lf⟩, mask⟩ V → V.cell? ⟨p, 0, none⟩ = some (.pointer (some ⟨d, 0, none⟩)) := fun V hV => hV.x
 refine wp_region_x (S := Rd p d b3 ⟨k, s, i, g, ⟨es, ei, eg, m, x, y, vx, vy, hp, pw, lf⟩, mask⟩) 5 (by kernel_rfl) ⟨x0, q3d⟩ (fun hHeld => ?_)
 refine anyX_tkW 0 (v := ?_) rfl ?_ (by assumption) ?_
 rotate_left 1
 · (intro w hSw; (try dsimp only at hSw); go_simp; (try with_reducible rfl))
 simp [Act.put]
 refine anyX_tkW 1 (v := ?_) rfl ?_ (by assumption) ?_
 rotate_left 1
 · (intro w hSw; (try dsimp only at hSw); go_simp; (try with_reducible rfl))
 simp [Act.put]
 refine anyX_tkW 2 (v := ?_) rfl ?_ (by assumption) ?_
 rotate_left 1
 · (intro w hSw; (try dsimp only at hSw); go_simp; (try with_reducible rfl))
 simp [Act.put]
 refine anyX_tkW 3 (v := ?_) rfl ?_ (by assumption) ?_
 rotate_left 1
 · (intro w hSw; (try dsimp only at hSw); go_simp; (try with_reducible rfl))
 simp [Act.put]
 refine anyX_tkW 4 (v := ?_) rfl ?_ (by assumption) ?_
 rotate_left 1
 · (intro w hSw; (try dsimp only at hSw); go_simp; (try with_reducible rfl))
 simp [Act.put]
 refine anyX_r1 5 fun K hK => ?_
 go_simp
 go_at_call 44
 refine (HLK.out _ _ (H1.out.fourth.grow bg)).mono ?_
 rintro e w2 ⟨rfl, hb2⟩
 obtain ⟨w3, hs3, h3⟩ := own_stM ((H1.out.grow (Below.trans (Below.mono (B := w1.heap.size) bg (Nat.le_refl _)) (hb2.mono (by simp)))).swap) rfl ⟨0, 0, 0, 0, ⟨0, 0, 0, 0, 0, 0, 0, 0, 0, 0, 0⟩, 0⟩
 have hs3' : (stM ⟨b3, 0, none⟩ (.agg #[int i64 0, int i64 0, int i64 0, int i64 0, int i64 0, int i64 0, int i64 0, int i64 0, int i64 0, int i64 0, int i64 0, int i64 0, int i64 0, int i64 0, int i64 0, int i64 0])).run prog w2 = .ok () w3 := hs3
 have H3 := hid h3.swap
 clear h3 hs3 hb2 HLK HLA
 refine hK.out _ _ (fun hlt => absurd hlt (by omega)) (fun hHeld => ?_)
 clear hK hHeld
 try simp [Act.put]
 refine anyX_turn (n := 5) (n' := 12) _ _ _ _ (fun i hi => by rcases (by omega : i = 0 ∨ i = 1 ∨ i = 2 ∨ i = 3 ∨ i = 4) with rfl | rfl | rfl | rfl | rfl <;> rfl) ?_
 refine anyX_tkW 6 (v := ?_) rfl ?_ trivial ?_
 rotate_left 1
 · (intro w hSw; (try dsimp only at hSw); go_simp; (try with_reducible rfl))
 simp [Act.put]
 refine anyX_tkW 7 (v := ?_) rfl ?_ trivial ?_
 rotate_left 1
 · (intro w hSw; (try dsimp only at hSw); go_simp; (try with_reducible rfl))
 simp [Act.put]
 refine anyX_tkW 8 (v := ?_) rfl ?_ trivial ?_
 rotate_left 1
 · (intro w hSw; (try dsimp only at hSw); go_simp; (try with_reducible rfl))
 simp [Act.put]
 refine anyX_tkW 9 (v := ?_) rfl ?_ trivial ?_
 rotate_left 1
 · (intro w hSw; (try dsimp only at hSw); go_simp; (try with_reducible rfl))
 simp [Act.put]
 refine anyX_r1 10 fun K hK => ?_
 go_simp
 refine hK.out _ _ (fun hlt => trivial) (fun hHeld => ?_)
 clear hK hHeld
 try simp [Act.put]
 refine anyX_tkW 11 (v := ?_) rfl ?_ trivial ?_
 rotate_left 1
 · (intro w hSw; (try dsimp only at hSw); go_simp; (try with_reducible rfl))
 simp [Act.put]
 refine anyX_r1 12 fun K hK => ?_
 go_simp
 refine hK.out _ _ (fun hlt => trivial) (fun hHeld => ?_)
 clear hK hHeld
 try simp [Act.put]
 refine anyX_done (by kernel_rfl) ?_ _
 clear hLD hLX x0 lp z0 z1 z2 H1 hs3'
 have her' : (er == 0) = false := by simpa using her
 obtain ⟨w4, hs4, h4⟩ := own_stM H3.out rfl zeroCm
 have hs4' : (stM ⟨b4, 0, none⟩ (.agg #[int i64 0, int i64 0, int i64 0, int i64 0, int i64 0, int i64 0, int i64 0, int i64 0, int i64 0, int i64 0, int i64 0, int i64 0, int i64 0, int i64 0, int i64 0, int i64 0])).run prog w3 = .ok () w4 := hs4
 have q4 := h4.box.1
 have H4 := hid h4
 clear hs4 h4 H3
 go_wp2_with fail
 exact bodyPost_ret (results_cme Tryz.results19 rfl rfl (ldM_of zeroCm fun j v hj => by rw [Nat.zero_add, q4, List.getElem?_toArray]; exact hj)) rfl ⟨rfl, wshut (X := X) H4.out.snd.snd⟩
theorem call_yes {w0 W : World} {F : Ob} {p : Nat} {c : Cfg} {X : Wo} (h : Own w0 W ((worldO p c X).and F)) (ho : CfgOk c) (k s i g es ei eg m x y vx vy hp pw lf mask : Int) (uk us ui ug ues uei ueg um ux uy uvx uvy uhp upw ulf umask : Int) (hla : lookF c X.D ⟨k, s, i, g, ⟨es, ei, eg, m, x, y, vx, vy, hp, pw, lf⟩, mask⟩ = (⟨uk, us, ui, ug, ⟨ues, uei, ueg, um, ux, uy, uvx, uvy, uhp, upw, ulf⟩, umask⟩, false, 0)) :
 Calls prog 19 #[.pointer (some ⟨p, 0, none⟩), .agg #[int i64 k, int i64 s, int i64 i, int i64 g, int i64 es, int i64 ei, int i64 eg, int i64 m, int i64 x, int i64 y, int i64 vx, int i64 vy, int i64 hp, int i64 pw, int i64 lf, int i64 mask]] W fun e w' => e = .returned (.tuple #[.agg #[int i64 uk, int i64 us, int i64 ui, int i64 ug, int i64 ues, int i64 uei, int i64 ueg, int i64 um, int i64 ux, int i64 uy, int i64 uvx, int i64 uvy, int i64 uhp, int i64 upw, int i64 ulf, int i64 umask], int i64 (admitF c X.D ⟨uk, us, ui, ug, ⟨ues, uei, ueg, um, ux, uy, uvx, uvy, uhp, upw, ulf⟩, umask⟩).1]) ∧ Own w0 w' ((worldO p c ⟨(admitF c X.D ⟨uk, us, ui, ug, ⟨ues, uei, ueg, um, ux, uy, uvx, uvy, uhp, upw, ulf⟩, umask⟩).2, X.L⟩).and F) := by
 obtain ⟨d, v, h⟩ := wopen h
 have h1 := own_twoC h k s i g es ei eg m x y vx vy hp pw lf mask
 have hn34 : W.heap.size + 1 ≠ W.heap.size := by omega
 have HO := hid ho
 have HLA := hid hla
 clear h ho hla
 have HLK : Hid (∀ V E, Own w0 V ((deskO d c X.D).and E) → Calls prog 44 #[.pointer (some ⟨d, 0, none⟩), .agg #[int i64 k, int i64 s, int i64 i, int i64 g, int i64 es, int i64 ei, int i64 eg, int i64 m, int i64 x, int i64 y, int i64 vx, int i64 vy, int i64 hp, int i64 pw, int i64 lf, int i64 mask]] V fun e w' => e = .returned (.tuple #[.agg #[int i64 uk, int i64 us, int i64 ui, int i64 ug, int i64 ues, int i64 uei, int i64 ueg, int i64 um, int i64 ux, int i64 uy, int i64 uvx, int i64 uvy, int i64 uhp, int i64 upw, int i64 ulf, int i64 umask], .bool false, int i64 0]) ∧ Below V.heap.size V w') := hid (fun V E hV => by have := look_o hV HO.out ⟨k, s, i, g, ⟨es, ei, eg, m, x, y, vx, vy, hp, pw, lf⟩, mask⟩; rw [HLA.out] at this; exact this)
 go_enter Tryz.func19, Tryz.ntmps19
 go_upto_region 1 with fail
 generalize (W.alloc _).alloc _ = w1 at *
 generalize W.heap.size + 1 = b4 at *
 generalize W.heap.size = b3 at *
 have q3 := h1.swap.box
 have x0 := h1.third.box.1 0
 simp at x0
 have lp := h1.third.box.2.2.1
 obtain ⟨z0, z1, z2⟩ := ltz lp
 have q3d : ∀ j, (w1.drew : World).cell? ⟨b3, j, none⟩ = (#[int i64 k, int i64 s, int i64 i, int i64 g, int i64 es, int i64 ei, int i64 eg, int i64 m, int i64 x, int i64 y, int i64 vx, int i64 vy, int i64 hp, int i64 pw, int i64 lf, int i64 mask] : Array Value)[j]? := fun j => q3.1 j
 have H1 := hid h1
 clear h1 q3
 go_upto_region 3 with fail
 have hLD : ∀ V : World, Rd p d b3 ⟨k, s, i, g, ⟨es, ei, eg, m, x, y, vx, vy, hp, pw, lf⟩, mask⟩ V → (ldM ⟨b3, 0, none⟩).run prog V = .ok (.agg #[int i64 k, int i64 s, int i64 i, int i64 g, int i64 es, int i64 ei, int i64 eg, int i64 m, int i64 x, int i64 y, int i64 vx, int i64 vy, int i64 hp, int i64 pw, int i64 lf, int i64 mask]) V := fun V hV => hV.ld
 have hLX : ∀ V : World, Rd p d b3 ⟨k, s, i, g, ⟨es, ei, eg, m, x, y, vx, vy, hp, pw, lf⟩, mask⟩ V → V.cell? ⟨p, 0, none⟩ = some (.pointer (some ⟨d, 0, none⟩)) := fun V hV => hV.x
 refine wp_region_x (S := Rd p d b3 ⟨k, s, i, g, ⟨es, ei, eg, m, x, y, vx, vy, hp, pw, lf⟩, mask⟩) 5 (by kernel_rfl) ⟨x0, q3d⟩ (fun hHeld => ?_)
 refine anyX_tkW 0 (v := ?_) rfl ?_ (by assumption) ?_
 rotate_left 1
 · (intro w hSw; (try dsimp only at hSw); go_simp; (try with_reducible rfl))
 simp [Act.put]
 refine anyX_tkW 1 (v := ?_) rfl ?_ (by assumption) ?_
 rotate_left 1
 · (intro w hSw; (try dsimp only at hSw); go_simp; (try with_reducible rfl))
 simp [Act.put]
 refine anyX_tkW 2 (v := ?_) rfl ?_ (by assumption) ?_
 rotate_left 1
 · (intro w hSw; (try dsimp only at hSw); go_simp; (try with_reducible rfl))
 simp [Act.put]
 refine anyX_tkW 3 (v := ?_) rfl ?_ (by assumption) ?_
 rotate_left 1
 · (intro w hSw; (try dsimp only at hSw); go_simp; (try with_reducible rfl))
 simp [Act.put]
 refine anyX_tkW 4 (v := ?_) rfl ?_ (by assumption) ?_
 rotate_left 1
 · (intro w hSw; (try dsimp only at hSw); go_simp; (try with_reducible rfl))
 simp [Act.put]
 refine anyX_r1 5 fun K hK => ?_
 go_simp
 go_at_call 44
 refine (HLK.out _ _ (H1.out.fourth.grow bg)).mono ?_
 rintro e w2 ⟨rfl, hb2⟩
 obtain ⟨w3, hs3, h3⟩ := own_stM ((H1.out.grow (Below.trans (Below.mono (B := w1.heap.size) bg (Nat.le_refl _)) (hb2.mono (by simp)))).swap) rfl ⟨uk, us, ui, ug, ⟨ues, uei, ueg, um, ux, uy, uvx, uvy, uhp, upw, ulf⟩, umask⟩
 have hs3' : (stM ⟨b3, 0, none⟩ (.agg #[int i64 uk, int i64 us, int i64 ui, int i64 ug, int i64 ues, int i64 uei, int i64 ueg, int i64 um, int i64 ux, int i64 uy, int i64 uvx, int i64 uvy, int i64 uhp, int i64 upw, int i64 ulf, int i64 umask])).run prog w2 = .ok () w3 := hs3
 have H3 := hid h3.swap
 clear h3 hs3 hb2 HLK HLA
 refine hK.out _ _ (fun hlt => absurd hlt (by omega)) (fun hHeld => ?_)
 clear hK hHeld
 try simp [Act.put]
 refine anyX_turn (n := 5) (n' := 12) _ _ _ _ (fun i hi => by rcases (by omega : i = 0 ∨ i = 1 ∨ i = 2 ∨ i = 3 ∨ i = 4) with rfl | rfl | rfl | rfl | rfl <;> rfl) ?_
 refine anyX_tkW 6 (v := ?_) rfl ?_ trivial ?_
 rotate_left 1
 · (intro w hSw; (try dsimp only at hSw); go_simp; (try with_reducible rfl))
 simp [Act.put]
 refine anyX_tkW 7 (v := ?_) rfl ?_ trivial ?_
 rotate_left 1
 · (intro w hSw; (try dsimp only at hSw); go_simp; (try with_reducible rfl))
 simp [Act.put]
 refine anyX_tkW 8 (v := ?_) rfl ?_ trivial ?_
 rotate_left 1
 · (intro w hSw; (try dsimp only at hSw); go_simp; (try with_reducible rfl))
 simp [Act.put]
 refine anyX_tkW 9 (v := ?_) rfl ?_ trivial ?_
 rotate_left 1
 · (intro w hSw; (try dsimp only at hSw); go_simp; (try with_reducible rfl))
 simp [Act.put]
 refine anyX_r1 10 fun K hK => ?_
 go_simp
 refine hK.out _ _ (fun hlt => trivial) (fun hHeld => ?_)
 clear hK hHeld
 try simp [Act.put]
 refine anyX_tkW 11 (v := ?_) rfl ?_ trivial ?_
 rotate_left 1
 · (intro w hSw; (try dsimp only at hSw); go_simp; (try with_reducible rfl))
 simp [Act.put]
 refine anyX_r1 12 fun K hK => ?_
 go_simp
 refine hK.out _ _ (fun hlt => trivial) (fun hHeld => ?_)
 clear hK hHeld
 try simp [Act.put]
 refine anyX_done (by kernel_rfl) ?_ _
 clear hLD hLX x0 lp z0 z1 z2 H1 hs3'
 go_upto_region 8 with fail
 have H5 := H3
 obtain ⟨w5, rfl⟩ : ∃ w5 : World, w5 = w3 := ⟨_, rfl⟩
 clear H3
 have HAD : Hid (∀ V E, Own w0 V ((deskO d c X.D).and E) → Calls prog 46 #[.pointer (some ⟨d, 0, none⟩), .agg #[int i64 uk, int i64 us, int i64 ui, int i64 ug, int i64 ues, int i64 uei, int i64 ueg, int i64 um, int i64 ux, int i64 uy, int i64 uvx, int i64 uvy, int i64 uhp, int i64 upw, int i64 ulf, int i64 umask]] V fun e w' => e = .returned (int i64 (admitF c X.D ⟨uk, us, ui, ug, ⟨ues, uei, ueg, um, ux, uy, uvx, uvy, uhp, upw, ulf⟩, umask⟩).1) ∧ Own w0 w' ((deskO d c (admitF c X.D ⟨uk, us, ui, ug, ⟨ues, uei, ueg, um, ux, uy, uvx, uvy, uhp, upw, ulf⟩, umask⟩).2).and E)) := hid (fun V E hV => admit_o hV HO.out ⟨uk, us, ui, ug, ⟨ues, uei, ueg, um, ux, uy, uvx, uvy, uhp, upw, ulf⟩, umask⟩)
 have hS5 : Rd p d b3 ⟨uk, us, ui, ug, ⟨ues, uei, ueg, um, ux, uy, uvx, uvy, uhp, upw, ulf⟩, umask⟩ w5 := ⟨by simpa using H5.out.third.box.1 0, H5.out.swap.box.1⟩
 have hS5d : Rd p d b3 ⟨uk, us, ui, ug, ⟨ues, uei, ueg, um, ux, uy, uvx, uvy, uhp, upw, ulf⟩, umask⟩ w5.drew := ⟨hS5.x, hS5.c⟩
 have hLD : ∀ V : World, Rd p d b3 ⟨uk, us, ui, ug, ⟨ues, uei, ueg, um, ux, uy, uvx, uvy, uhp, upw, ulf⟩, umask⟩ V → (ldM ⟨b3, 0, none⟩).run prog V = .ok (.agg #[int i64 uk, int i64 us, int i64 ui, int i64 ug, int i64 ues, int i64 uei, int i64 ueg, int i64 um, int i64 ux, int i64 uy, int i64 uvx, int i64 uvy, int i64 uhp, int i64 upw, int i64 ulf, int i64 umask]) V := fun V hV => hV.ld
 have hLX : ∀ V : World, Rd p d b3 ⟨uk, us, ui, ug, ⟨ues, uei, ueg, um, ux, uy, uvx, uvy, uhp, upw, ulf⟩, umask⟩ V → V.cell? ⟨p, 0, none⟩ = some (.pointer (some ⟨d, 0, none⟩)) := fun V hV => hV.x
 go_region_held3 (fun V => Rd p d b3 ⟨uk, us, ui, ug, ⟨ues, uei, ueg, um, ux, uy, uvx, uvy, uhp, upw, ulf⟩, umask⟩ V) (first | exact hS5d | exact hS6 | exact hS7) (first | (go_at_call 46; have hq := HAD.out _ _ (H5.out.fourth.grow (show Below w5.heap.size w5 w5.drew from bg)); (with_reducible refine hq.mono ?_); clear hq; rintro e w6 ⟨rfl, h6⟩; have hS6 : Rd p d b3 ⟨uk, us, ui, ug, ⟨ues, uei, ueg, um, ux, uy, uvx, uvy, uhp, upw, ulf⟩, umask⟩ w6 := ⟨by simpa using h6.fourth.box.1 0, h6.third.box.1⟩; obtain ⟨w7, hs7, h7⟩ := own_stM h6.swap rfl ⟨uk, us, ui, ug, ⟨ues, uei, ueg, um, ux, uy, uvx, uvy, uhp, upw, ulf⟩, umask⟩; have hs7' : (stM ⟨b4, 0, none⟩ (.agg #[int i64 uk, int i64 us, int i64 ui, int i64 ug, int i64 ues, int i64 uei, int i64 ueg, int i64 um, int i64 ux, int i64 uy, int i64 uvx, int i64 uvy, int i64 uhp, int i64 upw, int i64 ulf, int i64 umask])).run prog w6 = .ok () w7 := hs7; have hS7 : Rd p d b3 ⟨uk, us, ui, ug, ⟨ues, uei, ueg, um, ux, uy, uvx, uvy, uhp, upw, ulf⟩, umask⟩ w7 := ⟨by simpa using h7.fourth.box.1 0, h7.third.box.1⟩; have H7 := hid h7; clear h6 h7 hs7))
 have q4 := H7.out.box.1
 clear hS5 hS5d hS6 hS7 hLD hLX H5 hs7'
 go_wp2_with fail
 exact bodyPost_ret (results_cme Tryz.results19 rfl rfl (ldM_of ⟨uk, us, ui, ug, ⟨ues, uei, ueg, um, ux, uy, uvx, uvy, uhp, upw, ulf⟩, umask⟩ fun j v hj => by rw [Nat.zero_add, q4, List.getElem?_toArray]; exact hj)) rfl ⟨rfl, wshut (X := ⟨(admitF c X.D ⟨uk, us, ui, ug, ⟨ues, uei, ueg, um, ux, uy, uvx, uvy, uhp, upw, ulf⟩, umask⟩).2, X.L⟩) H7.out.snd.drop.swap⟩
theorem call_must {w0 W : World} {F : Ob} {p : Nat} {c : Cfg} {X : Wo} (h : Own w0 W ((worldO p c X).and F)) (ho : CfgOk c) (k s i g es ei eg m x y vx vy hp pw lf mask : Int) (uk us ui ug ues uei ueg um ux uy uvx uvy uhp upw ulf umask : Int) (hla : lookF c X.D ⟨k, s, i, g, ⟨es, ei, eg, m, x, y, vx, vy, hp, pw, lf⟩, mask⟩ = (⟨uk, us, ui, ug, ⟨ues, uei, ueg, um, ux, uy, uvx, uvy, uhp, upw, ulf⟩, umask⟩, true, 0)) :
 Calls prog 19 #[.pointer (some ⟨p, 0, none⟩), .agg #[int i64 k, int i64 s, int i64 i, int i64 g, int i64 es, int i64 ei, int i64 eg, int i64 m, int i64 x, int i64 y, int i64 vx, int i64 vy, int i64 hp, int i64 pw, int i64 lf, int i64 mask]] W fun e w' => e = .returned (.tuple #[.agg #[int i64 uk, int i64 us, int i64 ui, int i64 ug, int i64 ues, int i64 uei, int i64 ueg, int i64 um, int i64 ux, int i64 uy, int i64 uvx, int i64 uvy, int i64 uhp, int i64 upw, int i64 ulf, int i64 umask], int i64 (admitF c (reservedF X.D ues uei).2 ⟨uk, us, ui, ug, ⟨ues, uei, ueg, um, ux, uy, uvx, uvy, uhp, upw, ulf⟩, umask⟩).1]) ∧ Own w0 w' ((worldO p c ⟨(admitF c (reservedF X.D ues uei).2 ⟨uk, us, ui, ug, ⟨ues, uei, ueg, um, ux, uy, uvx, uvy, uhp, upw, ulf⟩, umask⟩).2, X.L⟩).and F) := by
 obtain ⟨d, v, h⟩ := wopen h
 have h1 := own_twoC h k s i g es ei eg m x y vx vy hp pw lf mask
 have hn34 : W.heap.size + 1 ≠ W.heap.size := by omega
 have HO := hid ho
 have HLA := hid hla
 clear h ho hla
 have HLK : Hid (∀ V E, Own w0 V ((deskO d c X.D).and E) → Calls prog 44 #[.pointer (some ⟨d, 0, none⟩), .agg #[int i64 k, int i64 s, int i64 i, int i64 g, int i64 es, int i64 ei, int i64 eg, int i64 m, int i64 x, int i64 y, int i64 vx, int i64 vy, int i64 hp, int i64 pw, int i64 lf, int i64 mask]] V fun e w' => e = .returned (.tuple #[.agg #[int i64 uk, int i64 us, int i64 ui, int i64 ug, int i64 ues, int i64 uei, int i64 ueg, int i64 um, int i64 ux, int i64 uy, int i64 uvx, int i64 uvy, int i64 uhp, int i64 upw, int i64 ulf, int i64 umask], .bool true, int i64 0]) ∧ Below V.heap.size V w') := hid (fun V E hV => by have := look_o hV HO.out ⟨k, s, i, g, ⟨es, ei, eg, m, x, y, vx, vy, hp, pw, lf⟩, mask⟩; rw [HLA.out] at this; exact this)
 go_enter Tryz.func19, Tryz.ntmps19
 go_upto_region 1 with fail
 generalize (W.alloc _).alloc _ = w1 at *
 generalize W.heap.size + 1 = b4 at *
 generalize W.heap.size = b3 at *
 have q3 := h1.swap.box
 have x0 := h1.third.box.1 0
 simp at x0
 have lp := h1.third.box.2.2.1
 obtain ⟨z0, z1, z2⟩ := ltz lp
 have q3d : ∀ j, (w1.drew : World).cell? ⟨b3, j, none⟩ = (#[int i64 k, int i64 s, int i64 i, int i64 g, int i64 es, int i64 ei, int i64 eg, int i64 m, int i64 x, int i64 y, int i64 vx, int i64 vy, int i64 hp, int i64 pw, int i64 lf, int i64 mask] : Array Value)[j]? := fun j => q3.1 j
 have H1 := hid h1
 clear h1 q3
 go_upto_region 3 with fail
 have hLD : ∀ V : World, Rd p d b3 ⟨k, s, i, g, ⟨es, ei, eg, m, x, y, vx, vy, hp, pw, lf⟩, mask⟩ V → (ldM ⟨b3, 0, none⟩).run prog V = .ok (.agg #[int i64 k, int i64 s, int i64 i, int i64 g, int i64 es, int i64 ei, int i64 eg, int i64 m, int i64 x, int i64 y, int i64 vx, int i64 vy, int i64 hp, int i64 pw, int i64 lf, int i64 mask]) V := fun V hV => hV.ld
 have hLX : ∀ V : World, Rd p d b3 ⟨k, s, i, g, ⟨es, ei, eg, m, x, y, vx, vy, hp, pw, lf⟩, mask⟩ V → V.cell? ⟨p, 0, none⟩ = some (.pointer (some ⟨d, 0, none⟩)) := fun V hV => hV.x
 refine wp_region_x (S := Rd p d b3 ⟨k, s, i, g, ⟨es, ei, eg, m, x, y, vx, vy, hp, pw, lf⟩, mask⟩) 5 (by kernel_rfl) ⟨x0, q3d⟩ (fun hHeld => ?_)
 refine anyX_tkW 0 (v := ?_) rfl ?_ (by assumption) ?_
 rotate_left 1
 · (intro w hSw; (try dsimp only at hSw); go_simp; (try with_reducible rfl))
 simp [Act.put]
 refine anyX_tkW 1 (v := ?_) rfl ?_ (by assumption) ?_
 rotate_left 1
 · (intro w hSw; (try dsimp only at hSw); go_simp; (try with_reducible rfl))
 simp [Act.put]
 refine anyX_tkW 2 (v := ?_) rfl ?_ (by assumption) ?_
 rotate_left 1
 · (intro w hSw; (try dsimp only at hSw); go_simp; (try with_reducible rfl))
 simp [Act.put]
 refine anyX_tkW 3 (v := ?_) rfl ?_ (by assumption) ?_
 rotate_left 1
 · (intro w hSw; (try dsimp only at hSw); go_simp; (try with_reducible rfl))
 simp [Act.put]
 refine anyX_tkW 4 (v := ?_) rfl ?_ (by assumption) ?_
 rotate_left 1
 · (intro w hSw; (try dsimp only at hSw); go_simp; (try with_reducible rfl))
 simp [Act.put]
 refine anyX_r1 5 fun K hK => ?_
 go_simp
 go_at_call 44
 refine (HLK.out _ _ (H1.out.fourth.grow bg)).mono ?_
 rintro e w2 ⟨rfl, hb2⟩
 obtain ⟨w3, hs3, h3⟩ := own_stM ((H1.out.grow (Below.trans (Below.mono (B := w1.heap.size) bg (Nat.le_refl _)) (hb2.mono (by simp)))).swap) rfl ⟨uk, us, ui, ug, ⟨ues, uei, ueg, um, ux, uy, uvx, uvy, uhp, upw, ulf⟩, umask⟩
 have hs3' : (stM ⟨b3, 0, none⟩ (.agg #[int i64 uk, int i64 us, int i64 ui, int i64 ug, int i64 ues, int i64 uei, int i64 ueg, int i64 um, int i64 ux, int i64 uy, int i64 uvx, int i64 uvy, int i64 uhp, int i64 upw, int i64 ulf, int i64 umask])).run prog w2 = .ok () w3 := hs3
 have H3 := hid h3.swap
 clear h3 hs3 hb2 HLK HLA
 refine hK.out _ _ (fun hlt => absurd hlt (by omega)) (fun hHeld => ?_)
 clear hK hHeld
 try simp [Act.put]
 refine anyX_turn (n := 5) (n' := 12) _ _ _ _ (fun i hi => by rcases (by omega : i = 0 ∨ i = 1 ∨ i = 2 ∨ i = 3 ∨ i = 4) with rfl | rfl | rfl | rfl | rfl <;> rfl) ?_
 refine anyX_tkW 6 (v := ?_) rfl ?_ trivial ?_
 rotate_left 1
 · (intro w hSw; (try dsimp only at hSw); go_simp; (try with_reducible rfl))
 simp [Act.put]
 refine anyX_tkW 7 (v := ?_) rfl ?_ trivial ?_
 rotate_left 1
 · (intro w hSw; (try dsimp only at hSw); go_simp; (try with_reducible rfl))
 simp [Act.put]
 refine anyX_tkW 8 (v := ?_) rfl ?_ trivial ?_
 rotate_left 1
 · (intro w hSw; (try dsimp only at hSw); go_simp; (try with_reducible rfl))
 simp [Act.put]
 refine anyX_tkW 9 (v := ?_) rfl ?_ trivial ?_
 rotate_left 1
 · (intro w hSw; (try dsimp only at hSw); go_simp; (try with_reducible rfl))
 simp [Act.put]
 refine anyX_r1 10 fun K hK => ?_
 go_simp
 refine hK.out _ _ (fun hlt => trivial) (fun hHeld => ?_)
 clear hK hHeld
 try simp [Act.put]
 refine anyX_tkW 11 (v := ?_) rfl ?_ trivial ?_
 rotate_left 1
 · (intro w hSw; (try dsimp only at hSw); go_simp; (try with_reducible rfl))
 simp [Act.put]
 refine anyX_r1 12 fun K hK => ?_
 go_simp
 refine hK.out _ _ (fun hlt => trivial) (fun hHeld => ?_)
 clear hK hHeld
 try simp [Act.put]
 refine anyX_done (by kernel_rfl) ?_ _
 clear hLD hLX x0 lp z0 z1 z2 H1 hs3'
 have q3 := H3.out.swap.box.1
 have c4 := q3 4
 have c5 := q3 5
 simp [cmC, bunL] at c4 c5
 have x0 := H3.out.third.box.1 0
 simp at x0
 have lp := H3.out.third.box.2.2.1
 have lb := H3.out.swap.box.2.2.1
 obtain ⟨z0, z1, z2⟩ := ltz lp
 obtain ⟨z3, z4, z5⟩ := ltz lb
 clear q3
 go_upto_region 7 with fail
 refine wp_region_still_tail 12 (by kernel_rfl) (by kernel_rfl) ?_
 simp only [List.take_succ_cons, List.take_zero, List.drop_succ_cons, List.drop_zero]
 repeat (first | still_step)
 refine wpStill_nil ?_
 go_wp2_with fail
 refine (reserve_o (H3.out.fourth.grow bg) ues uei).mono ?_
 rintro e wr ⟨rfl, hr⟩
 have H5 : Hid (Own w0 wr ((boxO b4 #[int i64 0, int i64 0, int i64 0, int i64 0, int i64 0, int i64 0, int i64 0, int i64 0, int i64 0, int i64 0, int i64 0, int i64 0, int i64 0, int i64 0, int i64 0, int i64 0] 34).and ((boxO b3 (cmC ⟨uk, us, ui, ug, ⟨ues, uei, ueg, um, ux, uy, uvx, uvy, uhp, upw, ulf⟩, umask⟩).toArray 34).and ((boxO p #[.pointer (some ⟨d, 0, none⟩), v] 83).and ((deskO d c (reservedF X.D ues uei).2).and ((slO 32 11 v X.L.length (cellsR bunL X.L)).and F)))))) := hid (hr.inner fun _ h => h).fourthB
 clear hr H3 c4 c5 x0 lp lb z0 z1 z2 z3 z4 z5
 obtain ⟨w5, rfl⟩ : ∃ w5 : World, w5 = wr := ⟨_, rfl⟩
 go_upto_region 8 with fail
 have HAD : Hid (∀ V E, Own w0 V ((deskO d c (reservedF X.D ues uei).2).and E) → Calls prog 46 #[.pointer (some ⟨d, 0, none⟩), .agg #[int i64 uk, int i64 us, int i64 ui, int i64 ug, int i64 ues, int i64 uei, int i64 ueg, int i64 um, int i64 ux, int i64 uy, int i64 uvx, int i64 uvy, int i64 uhp, int i64 upw, int i64 ulf, int i64 umask]] V fun e w' => e = .returned (int i64 (admitF c (reservedF X.D ues uei).2 ⟨uk, us, ui, ug, ⟨ues, uei, ueg, um, ux, uy, uvx, uvy, uhp, upw, ulf⟩, umask⟩).1) ∧ Own w0 w' ((deskO d c (admitF c (reservedF X.D ues uei).2 ⟨uk, us, ui, ug, ⟨ues, uei, ueg, um, ux, uy, uvx, uvy, uhp, upw, ulf⟩, umask⟩).2).and E)) := hid (fun V E hV => admit_o hV HO.out ⟨uk, us, ui, ug, ⟨ues, uei, ueg, um, ux, uy, uvx, uvy, uhp, upw, ulf⟩, umask⟩)
 have hS5 : Rd p d b3 ⟨uk, us, ui, ug, ⟨ues, uei, ueg, um, ux, uy, uvx, uvy, uhp, upw, ulf⟩, umask⟩ w5 := ⟨by simpa using H5.out.third.box.1 0, H5.out.swap.box.1⟩
 have hS5d : Rd p d b3 ⟨uk, us, ui, ug, ⟨ues, uei, ueg, um, ux, uy, uvx, uvy, uhp, upw, ulf⟩, umask⟩ w5.drew := ⟨hS5.x, hS5.c⟩
 have hLD : ∀ V : World, Rd p d b3 ⟨uk, us, ui, ug, ⟨ues, uei, ueg, um, ux, uy, uvx, uvy, uhp, upw, ulf⟩, umask⟩ V → (ldM ⟨b3, 0, none⟩).run prog V = .ok (.agg #[int i64 uk, int i64 us, int i64 ui, int i64 ug, int i64 ues, int i64 uei, int i64 ueg, int i64 um, int i64 ux, int i64 uy, int i64 uvx, int i64 uvy, int i64 uhp, int i64 upw, int i64 ulf, int i64 umask]) V := fun V hV => hV.ld
 have hLX : ∀ V : World, Rd p d b3 ⟨uk, us, ui, ug, ⟨ues, uei, ueg, um, ux, uy, uvx, uvy, uhp, upw, ulf⟩, umask⟩ V → V.cell? ⟨p, 0, none⟩ = some (.pointer (some ⟨d, 0, none⟩)) := fun V hV => hV.x
 go_region_held3 (fun V => Rd p d b3 ⟨uk, us, ui, ug, ⟨ues, uei, ueg, um, ux, uy, uvx, uvy, uhp, upw, ulf⟩, umask⟩ V) (first | exact hS5d | exact hS6 | exact hS7) (first | (go_at_call 46; have hq := HAD.out _ _ (H5.out.fourth.grow (show Below w5.heap.size w5 w5.drew from bg)); (with_reducible refine hq.mono ?_); clear hq; rintro e w6 ⟨rfl, h6⟩; have hS6 : Rd p d b3 ⟨uk, us, ui, ug, ⟨ues, uei, ueg, um, ux, uy, uvx, uvy, uhp, upw, ulf⟩, umask⟩ w6 := ⟨by simpa using h6.fourth.box.1 0, h6.third.box.1⟩; obtain ⟨w7, hs7, h7⟩ := own_stM h6.swap rfl ⟨uk, us, ui, ug, ⟨ues, uei, ueg, um, ux, uy, uvx, uvy, uhp, upw, ulf⟩, umask⟩; have hs7' : (stM ⟨b4, 0, none⟩ (.agg #[int i64 uk, int i64 us, int i64 ui, int i64 ug, int i64 ues, int i64 uei, int i64 ueg, int i64 um, int i64 ux, int i64 uy, int i64 uvx, int i64 uvy, int i64 uhp, int i64 upw, int i64 ulf, int i64 umask])).run prog w6 = .ok () w7 := hs7; have hS7 : Rd p d b3 ⟨uk, us, ui, ug, ⟨ues, uei, ueg, um, ux, uy, uvx, uvy, uhp, upw, ulf⟩, umask⟩ w7 := ⟨by simpa using h7.fourth.box.1 0, h7.third.box.1⟩; have H7 := hid h7; clear h6 h7 hs7))
 have q4 := H7.out.box.1
 clear hS5 hS5d hS6 hS7 hLD hLX H5 hs7'
 go_wp2_with fail
 exact bodyPost_ret (results_cme Tryz.results19 rfl rfl (ldM_of ⟨uk, us, ui, ug, ⟨ues, uei, ueg, um, ux, uy, uvx, uvy, uhp, upw, ulf⟩, umask⟩ fun j v hj => by rw [Nat.zero_add, q4, List.getElem?_toArray]; exact hj)) rfl ⟨rfl, wshut (X := ⟨(admitF c (reservedF X.D ues uei).2 ⟨uk, us, ui, ug, ⟨ues, uei, ueg, um, ux, uy, uvx, uvy, uhp, upw, ulf⟩, umask⟩).2, X.L⟩) H7.out.snd.drop.swap⟩
theorem wcall_o {w0 W : World} {F : Ob} {p : Nat} {c : Cfg} {X : Wo} (h : Own w0 W ((worldO p c X).and F)) (ho : CfgOk c) (m : Cm) :
 Calls prog 19 #[.pointer (some ⟨p, 0, none⟩), .agg (cmC m).toArray] W fun e w' => e = .returned (.tuple #[.agg (cmC (callW c X m).1.1).toArray, int i64 (callW c X m).1.2]) ∧ Own w0 w' ((worldO p c (callW c X m).2).and F) := by
 obtain ⟨k, s, i, g, ⟨es, ei, eg, m, x, y, vx, vy, hp, pw, lf⟩, mask⟩ := m
 have hla : ∃ a must er, lookF c X.D ⟨k, s, i, g, ⟨es, ei, eg, m, x, y, vx, vy, hp, pw, lf⟩, mask⟩ = (a, must, er) := ⟨_, _, _, rfl⟩
 obtain ⟨a, must, er, hla⟩ := hla
 by_cases her : er = 0
 · subst her
   obtain ⟨uk, us, ui, ug, ⟨ues, uei, ueg, um, ux, uy, uvx, uvy, uhp, upw, ulf⟩, umask⟩ := a
   cases must with
   | false =>
     have hc : callW c X ⟨k, s, i, g, ⟨es, ei, eg, m, x, y, vx, vy, hp, pw, lf⟩, mask⟩ = ((⟨uk, us, ui, ug, ⟨ues, uei, ueg, um, ux, uy, uvx, uvy, uhp, upw, ulf⟩, umask⟩, (admitF c X.D ⟨uk, us, ui, ug, ⟨ues, uei, ueg, um, ux, uy, uvx, uvy, uhp, upw, ulf⟩, umask⟩).1), ⟨(admitF c X.D ⟨uk, us, ui, ug, ⟨ues, uei, ueg, um, ux, uy, uvx, uvy, uhp, upw, ulf⟩, umask⟩).2, X.L⟩) := by
      unfold callW lookedF
      rw [hla]
      rfl
     rw [hc]
     exact call_yes h ho _ _ _ _ _ _ _ _ _ _ _ _ _ _ _ _ _ _ _ _ _ _ _ _ _ _ _ _ _ _ _ _ hla
   | true =>
     have hc : callW c X ⟨k, s, i, g, ⟨es, ei, eg, m, x, y, vx, vy, hp, pw, lf⟩, mask⟩ = ((⟨uk, us, ui, ug, ⟨ues, uei, ueg, um, ux, uy, uvx, uvy, uhp, upw, ulf⟩, umask⟩, (admitF c (reservedF X.D ues uei).2 ⟨uk, us, ui, ug, ⟨ues, uei, ueg, um, ux, uy, uvx, uvy, uhp, upw, ulf⟩, umask⟩).1), ⟨(admitF c (reservedF X.D ues uei).2 ⟨uk, us, ui, ug, ⟨ues, uei, ueg, um, ux, uy, uvx, uvy, uhp, upw, ulf⟩, umask⟩).2, X.L⟩) := by
      unfold callW lookedF
      rw [hla]
      rfl
     rw [hc]
     exact call_must h ho _ _ _ _ _ _ _ _ _ _ _ _ _ _ _ _ _ _ _ _ _ _ _ _ _ _ _ _ _ _ _ _ hla
 · have hz : a = zeroCm ∧ must = false := by
    rcases look_cases c X.D ⟨k, s, i, g, ⟨es, ei, eg, m, x, y, vx, vy, hp, pw, lf⟩, mask⟩ with ⟨e, _, h2⟩ | ⟨_, _, h2⟩ | ⟨_, h2⟩
    · rw [h2] at hla; simp only [Prod.mk.injEq] at hla; exact ⟨hla.1.symm, hla.2.1.symm⟩
    · rw [h2] at hla; simp only [Prod.mk.injEq] at hla; exact absurd hla.2.2.symm her
    · rw [h2] at hla; simp only [Prod.mk.injEq] at hla; exact absurd hla.2.2.symm her
   obtain ⟨rfl, rfl⟩ := hz
   have hc : callW c X ⟨k, s, i, g, ⟨es, ei, eg, m, x, y, vx, vy, hp, pw, lf⟩, mask⟩ = ((zeroCm, er), X) := by
    unfold callW
    rw [hla]
    simp only
    rw [if_pos her]
   rw [hc]
   exact call_no h ho _ _ _ _ _ _ _ _ _ _ _ _ _ _ _ _ er her hla
end
end Go.Proofs.YtoimjjhopljdmaaGreat
