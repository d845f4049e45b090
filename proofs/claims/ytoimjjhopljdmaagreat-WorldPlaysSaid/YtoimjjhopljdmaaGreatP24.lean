/- Texts WoS TkD: what the claim reaches of them. Conditions stand at each theorem. -/
import Derived.Lib.Overlaps
import Derived.Lib.AppendZerosOnto
import Derived.Laws.Externs
import Derived.Laws.IdiomCopy
import Derived.Laws.NewBlocks
import Derived.Test.YtoimjjhopljdmaaGreatP23
set_option maxRecDepth 100000
set_option maxHeartbeats 8000000
namespace Go.Proofs.YtoimjjhopljdmaaGreat
open Go.RowKit
open Go.Proofs.Tryz (prog)
open Go.Value (int)
open Go.IntKind (i64)
open Go.Lib (hid)
section
theorem rd_of {w0 V : World} {F B : Ob} {r q b3 : Nat} {T T' : TypeId} {v : Value} {k s i g es ei eg m x y vx vy hp pw lf mask : Int} (h : Own w0 V (B.and ((boxO b3 #[int i64 k, int i64 s, int i64 i, int i64 g, int i64 es, int i64 ei, int i64 eg, int i64 m, int i64 x, int i64 y, int i64 vx, int i64 vy, int i64 hp, int i64 pw, int i64 lf, int i64 mask] T).and ((boxO r #[.pointer (some ⟨q, 0, none⟩), v] T').and F)))) : Rd r q b3 ⟨k, s, i, g, ⟨es, ei, eg, m, x, y, vx, vy, hp, pw, lf⟩, mask⟩ V := ⟨by simpa using h.third.box.1 0, h.swap.box.1⟩
theorem rd_of3 {w0 V : World} {F B C : Ob} {r q b3 : Nat} {T T' : TypeId} {v : Value} {k s i g es ei eg m x y vx vy hp pw lf mask : Int} (h : Own w0 V (C.and (B.and ((boxO b3 #[int i64 k, int i64 s, int i64 i, int i64 g, int i64 es, int i64 ei, int i64 eg, int i64 m, int i64 x, int i64 y, int i64 vx, int i64 vy, int i64 hp, int i64 pw, int i64 lf, int i64 mask] T).and ((boxO r #[.pointer (some ⟨q, 0, none⟩), v] T').and F))))) : Rd r q b3 ⟨k, s, i, g, ⟨es, ei, eg, m, x, y, vx, vy, hp, pw, lf⟩, mask⟩ V := rd_of h.snd
theorem own_drewS {w0 W : World} {F : Ob} (h : Own w0 W F) : Own w0 W.drew F := h.grow (show Below W.heap.size W W.drew from bg)
theorem Own.fifthB {w0 W : World} {A B C D E F : Ob} (h : Own w0 W (E.and (A.and (B.and (C.and (D.and F)))))) : Own w0 W (A.and (B.and (C.and (D.and (E.and F))))) := ((h.swap.inner fun _ h => and_swap' h).inner fun _ h => and_in' (fun _ h => and_swap' h) h).inner fun _ h => and_in' (fun _ h => and_in' (fun _ h => and_swap' h) h) h
attribute [local go_sem ↓] loadVar_ldM storeVar_stM
theorem rcall_no {w0 W : World} {F : Ob} {r q R : Nat} {c : Cfg} {kk : Int} {X : Wo} (h : Own w0 W ((rworldO r q R c kk X).and F)) (ho : CfgOk c) (k s i g es ei eg m x y vx vy hp pw lf mask : Int) (him : (-9223372036854775808 ≤ m ∧ m ≤ 9223372036854775807)) (er : Int) (her : er ≠ 0) (hla : lookF c X.D ⟨k, s, i, g, ⟨es, ei, eg, m, x, y, vx, vy, hp, pw, lf⟩, mask⟩ = (⟨0, 0, 0, 0, ⟨0, 0, 0, 0, 0, 0, 0, 0, 0, 0, 0⟩, 0⟩, false, er)) :
 Calls prog 34 #[.pointer (some ⟨r, 0, none⟩), .agg #[int i64 k, int i64 s, int i64 i, int i64 g, int i64 es, int i64 ei, int i64 eg, int i64 m, int i64 x, int i64 y, int i64 vx, int i64 vy, int i64 hp, int i64 pw, int i64 lf, int i64 mask]] W fun e w' => e = .returned (.tuple #[.agg #[int i64 0, int i64 0, int i64 0, int i64 0, int i64 0, int i64 0, int i64 0, int i64 0, int i64 0, int i64 0, int i64 0, int i64 0, int i64 0, int i64 0, int i64 0, int i64 0], int i64 er]) ∧ Own w0 w' ((rworldO r q R c kk X).and F) := by
 obtain ⟨v, h⟩ := ropen h
 have h1 := own_twoC h k s i g es ei eg m x y vx vy hp pw lf mask
 have hn34 : W.heap.size + 1 ≠ W.heap.size := by omega
 have hmk := look_mask c X.D ⟨k, s, i, g, ⟨es, ei, eg, m, x, y, vx, vy, hp, pw, lf⟩, mask⟩
 have HO := hid ho
 have HLA := hid hla
 rw [hla] at hmk
 simp only at hmk
 clear h ho hla
 have HLK : Hid (∀ V E, Own w0 V ((rdeskO q R c kk X.D).and E) → Calls prog 69 #[.pointer (some ⟨q, 0, none⟩), .agg #[int i64 k, int i64 s, int i64 i, int i64 g, int i64 es, int i64 ei, int i64 eg, int i64 m, int i64 x, int i64 y, int i64 vx, int i64 vy, int i64 hp, int i64 pw, int i64 lf, int i64 mask]] V fun e w' => e = .returned (.tuple #[.agg #[int i64 0, int i64 0, int i64 0, int i64 0, int i64 0, int i64 0, int i64 0, int i64 0, int i64 0, int i64 0, int i64 0, int i64 0, int i64 0, int i64 0, int i64 0, int i64 0], .bool false, int i64 er]) ∧ Below V.heap.size V w') := hid (fun V E hV => by have := rlook_o hV HO.out ⟨k, s, i, g, ⟨es, ei, eg, m, x, y, vx, vy, hp, pw, lf⟩, mask⟩ him; rw [HLA.out] at this; exact this)
 go_enter Tryz.func34, Tryz.ntmps34
 go_upto_region 1 with fail
 generalize (W.alloc _).alloc _ = w1 at *
 generalize W.heap.size + 1 = b4 at *
 generalize W.heap.size = b3 at *
 have q3 := h1.swap.box
 have x0 := h1.third.box.1 0
 simp at x0
 have lp := h1.third.box.2.2.1
 obtain ⟨z0, z1, z2⟩ := ltz lp
 have H1 := hid h1
 have hS1d : Rd r q b3 ⟨k, s, i, g, ⟨es, ei, eg, m, x, y, vx, vy, hp, pw, lf⟩, mask⟩ w1.drew := ⟨x0, q3.1⟩
 have hz := own_drewS (h1.made (made_box w1 #[int i64 0, int i64 0, int i64 0, int i64 0, int i64 0, int i64 0, int i64 0, int i64 0, int i64 0, int i64 0, int i64 0, int i64 0, int i64 0, int i64 0, int i64 0, int i64 0] 34))
 have hSz := rd_of3 hz
 have HZ := hid hz
 clear h1 q3 hz
 have hLD : ∀ V : World, Rd r q b3 ⟨k, s, i, g, ⟨es, ei, eg, m, x, y, vx, vy, hp, pw, lf⟩, mask⟩ V → (ldM ⟨b3, 0, none⟩).run prog V = .ok (.agg #[int i64 k, int i64 s, int i64 i, int i64 g, int i64 es, int i64 ei, int i64 eg, int i64 m, int i64 x, int i64 y, int i64 vx, int i64 vy, int i64 hp, int i64 pw, int i64 lf, int i64 mask]) V := fun V hV => hV.ld
 have hLX : ∀ V : World, Rd r q b3 ⟨k, s, i, g, ⟨es, ei, eg, m, x, y, vx, vy, hp, pw, lf⟩, mask⟩ V → V.cell? ⟨r, 0, none⟩ = some (.pointer (some ⟨q, 0, none⟩)) := fun V hV => hV.x
 go_cut [6, 7, 8] (fun s6 s7 s8 wx => ∃ n, s6 = .pointer (some ⟨n, 0, none⟩) ∧ s7 = .bool false ∧ s8 = int i64 er ∧ Own w0 wx ((boxO n (cmC ⟨0, 0, 0, 0, ⟨0, 0, 0, 0, 0, 0, 0, 0, 0, 0, 0⟩, 0⟩).toArray 34).and ((boxO b4 #[int i64 0, int i64 0, int i64 0, int i64 0, int i64 0, int i64 0, int i64 0, int i64 0, int i64 0, int i64 0, int i64 0, int i64 0, int i64 0, int i64 0, int i64 0, int i64 0] 34).and ((boxO b3 #[int i64 k, int i64 s, int i64 i, int i64 g, int i64 es, int i64 ei, int i64 eg, int i64 m, int i64 x, int i64 y, int i64 vx, int i64 vy, int i64 hp, int i64 pw, int i64 lf, int i64 mask] 34).and ((boxO r #[.pointer (some ⟨q, 0, none⟩), v] 123).and ((rdeskO q R c kk X.D).and ((slO 32 11 v X.L.length (cellsR bunL X.L)).and F)))))))
 case first =>
  go_region_held3 (fun V => Rd r q b3 ⟨k, s, i, g, ⟨es, ei, eg, m, x, y, vx, vy, hp, pw, lf⟩, mask⟩ V) (first | exact hS1d | exact hSz | exact hS2 | exact hS2z | exact hS3) (first | (go_at_call 69; have hq := HLK.out _ _ (H1.out.fourth.grow (show Below w1.heap.size w1 w1.drew from bg)); (with_reducible refine hq.mono ?_); clear hq; rintro e w2 ⟨rfl, hb2⟩; have h2 := (H1.out.grow (show Below w1.heap.size w1 w1.drew from bg)).grow hb2; have hS2 := rd_of h2; have hS2z := rd_of3 (h2.made (made_box w2 #[int i64 0, int i64 0, int i64 0, int i64 0, int i64 0, int i64 0, int i64 0, int i64 0, int i64 0, int i64 0, int i64 0, int i64 0, int i64 0, int i64 0, int i64 0, int i64 0] 34)); obtain ⟨w3, hs3, hm3⟩ := new_cmO w2 ⟨0, 0, 0, 0, ⟨0, 0, 0, 0, 0, 0, 0, 0, 0, 0, 0⟩, 0⟩; have h3 := h2.made hm3; have hS3 := rd_of3 h3; have hs3' : (stM ⟨w2.heap.size, 0, none⟩ (.agg #[int i64 0, int i64 0, int i64 0, int i64 0, int i64 0, int i64 0, int i64 0, int i64 0, int i64 0, int i64 0, int i64 0, int i64 0, int i64 0, int i64 0, int i64 0, int i64 0])).run prog (w2.alloc (.cells #[int i64 0, int i64 0, int i64 0, int i64 0, int i64 0, int i64 0, int i64 0, int i64 0, int i64 0, int i64 0, int i64 0, int i64 0, int i64 0, int i64 0, int i64 0, int i64 0] 34)) = .ok () w3 := hs3; have H3 : Hid (Own w0 w3 ((boxO w2.heap.size (cmC ⟨0, 0, 0, 0, ⟨0, 0, 0, 0, 0, 0, 0, 0, 0, 0, 0⟩, 0⟩).toArray 34).and ((boxO b4 #[int i64 0, int i64 0, int i64 0, int i64 0, int i64 0, int i64 0, int i64 0, int i64 0, int i64 0, int i64 0, int i64 0, int i64 0, int i64 0, int i64 0, int i64 0, int i64 0] 34).and ((boxO b3 #[int i64 k, int i64 s, int i64 i, int i64 g, int i64 es, int i64 ei, int i64 eg, int i64 m, int i64 x, int i64 y, int i64 vx, int i64 vy, int i64 hp, int i64 pw, int i64 lf, int i64 mask] 34).and ((boxO r #[.pointer (some ⟨q, 0, none⟩), v] 123).and ((rdeskO q R c kk X.D).and ((slO 32 11 v X.L.length (cellsR bunL X.L)).and F))))))) := hid h3; clear h2 h3 hb2 hs3 hm3) | (go_at_call 69; have hq := HLK.out _ _ HZ.out.fifth; (with_reducible refine hq.mono ?_); clear hq; rintro e w2 ⟨rfl, hb2⟩; have h2 := HZ.out.grow hb2; have hS2 := rd_of3 h2; obtain ⟨w3, hs3, h3⟩ := own_stM h2 rfl ⟨0, 0, 0, 0, ⟨0, 0, 0, 0, 0, 0, 0, 0, 0, 0, 0⟩, 0⟩; have hS3 := rd_of3 h3; have hs3' : (stM ⟨w1.heap.size, 0, none⟩ (.agg #[int i64 0, int i64 0, int i64 0, int i64 0, int i64 0, int i64 0, int i64 0, int i64 0, int i64 0, int i64 0, int i64 0, int i64 0, int i64 0, int i64 0, int i64 0, int i64 0])).run prog w2 = .ok () w3 := hs3; have H3 := hid h3; clear h2 h3 hb2 hs3))
  all_goals (go_wp2_with fail; go_meet; exact ⟨_, rfl, rfl, rfl, H3.out⟩)
 obtain ⟨n, rfl, rfl, rfl, h3⟩ := hcut
 obtain ⟨w3, rfl⟩ : ∃ w3 : World, w3 = wc := ⟨_, rfl⟩
 have H3 := hid h3
 clear hLD hLX hS1d hSz HZ x0 lp z0 z1 z2 H1 HLK HLA
 have her' : (er != 0) = true := by simpa using her
 obtain ⟨w4, hs4, h4⟩ := own_stM h3.swap rfl zeroCm
 have hs4' : (stM ⟨b4, 0, none⟩ (.agg #[int i64 0, int i64 0, int i64 0, int i64 0, int i64 0, int i64 0, int i64 0, int i64 0, int i64 0, int i64 0, int i64 0, int i64 0, int i64 0, int i64 0, int i64 0, int i64 0])).run prog w3 = .ok () w4 := hs4
 have q4 := h4.box.1
 have H4 := hid h4
 clear hs4 h4 h3 H3
 go_wp2_with fail
 exact bodyPost_ret (results_cme Tryz.results34 rfl rfl (ldM_of zeroCm fun j v hj => by rw [Nat.zero_add, q4, List.getElem?_toArray]; exact hj)) rfl ⟨rfl, rshut (X := X) H4.out.snd.snd.snd⟩
theorem rcall_yes {w0 W : World} {F : Ob} {r q R : Nat} {c : Cfg} {kk : Int} {X : Wo} (h : Own w0 W ((rworldO r q R c kk X).and F)) (ho : CfgOk c) (k s i g es ei eg m x y vx vy hp pw lf mask : Int) (him : (-9223372036854775808 ≤ m ∧ m ≤ 9223372036854775807)) (uk us ui ug ues uei ueg um ux uy uvx uvy uhp upw ulf umask : Int) (hla : lookF c X.D ⟨k, s, i, g, ⟨es, ei, eg, m, x, y, vx, vy, hp, pw, lf⟩, mask⟩ = (⟨uk, us, ui, ug, ⟨ues, uei, ueg, um, ux, uy, uvx, uvy, uhp, upw, ulf⟩, umask⟩, false, 0)) :
 Calls prog 34 #[.pointer (some ⟨r, 0, none⟩), .agg #[int i64 k, int i64 s, int i64 i, int i64 g, int i64 es, int i64 ei, int i64 eg, int i64 m, int i64 x, int i64 y, int i64 vx, int i64 vy, int i64 hp, int i64 pw, int i64 lf, int i64 mask]] W fun e w' => e = .returned (.tuple #[.agg #[int i64 uk, int i64 us, int i64 ui, int i64 ug, int i64 ues, int i64 uei, int i64 ueg, int i64 um, int i64 ux, int i64 uy, int i64 uvx, int i64 uvy, int i64 uhp, int i64 upw, int i64 ulf, int i64 umask], int i64 0]) ∧ Own w0 w' ((rworldO r q R c kk ⟨(admitF c X.D ⟨uk, us, ui, ug, ⟨ues, uei, ueg, um, ux, uy, uvx, uvy, uhp, upw, ulf⟩, umask⟩).2, X.L⟩).and F) := by
 obtain ⟨v, h⟩ := ropen h
 have h1 := own_twoC h k s i g es ei eg m x y vx vy hp pw lf mask
 have hn34 : W.heap.size + 1 ≠ W.heap.size := by omega
 have hmk := look_mask c X.D ⟨k, s, i, g, ⟨es, ei, eg, m, x, y, vx, vy, hp, pw, lf⟩, mask⟩
 have HO := hid ho
 have HLA := hid hla
 rw [hla] at hmk
 simp only at hmk
 clear h ho hla
 have HLK : Hid (∀ V E, Own w0 V ((rdeskO q R c kk X.D).and E) → Calls prog 69 #[.pointer (some ⟨q, 0, none⟩), .agg #[int i64 k, int i64 s, int i64 i, int i64 g, int i64 es, int i64 ei, int i64 eg, int i64 m, int i64 x, int i64 y, int i64 vx, int i64 vy, int i64 hp, int i64 pw, int i64 lf, int i64 mask]] V fun e w' => e = .returned (.tuple #[.agg #[int i64 uk, int i64 us, int i64 ui, int i64 ug, int i64 ues, int i64 uei, int i64 ueg, int i64 um, int i64 ux, int i64 uy, int i64 uvx, int i64 uvy, int i64 uhp, int i64 upw, int i64 ulf, int i64 umask], .bool false, int i64 0]) ∧ Below V.heap.size V w') := hid (fun V E hV => by have := rlook_o hV HO.out ⟨k, s, i, g, ⟨es, ei, eg, m, x, y, vx, vy, hp, pw, lf⟩, mask⟩ him; rw [HLA.out] at this; exact this)
 go_enter Tryz.func34, Tryz.ntmps34
 go_upto_region 1 with fail
 generalize (W.alloc _).alloc _ = w1 at *
 generalize W.heap.size + 1 = b4 at *
 generalize W.heap.size = b3 at *
 have q3 := h1.swap.box
 have x0 := h1.third.box.1 0
 simp at x0
 have lp := h1.third.box.2.2.1
 obtain ⟨z0, z1, z2⟩ := ltz lp
 have H1 := hid h1
 have hS1d : Rd r q b3 ⟨k, s, i, g, ⟨es, ei, eg, m, x, y, vx, vy, hp, pw, lf⟩, mask⟩ w1.drew := ⟨x0, q3.1⟩
 have hz := own_drewS (h1.made (made_box w1 #[int i64 0, int i64 0, int i64 0, int i64 0, int i64 0, int i64 0, int i64 0, int i64 0, int i64 0, int i64 0, int i64 0, int i64 0, int i64 0, int i64 0, int i64 0, int i64 0] 34))
 have hSz := rd_of3 hz
 have HZ := hid hz
 clear h1 q3 hz
 have hLD : ∀ V : World, Rd r q b3 ⟨k, s, i, g, ⟨es, ei, eg, m, x, y, vx, vy, hp, pw, lf⟩, mask⟩ V → (ldM ⟨b3, 0, none⟩).run prog V = .ok (.agg #[int i64 k, int i64 s, int i64 i, int i64 g, int i64 es, int i64 ei, int i64 eg, int i64 m, int i64 x, int i64 y, int i64 vx, int i64 vy, int i64 hp, int i64 pw, int i64 lf, int i64 mask]) V := fun V hV => hV.ld
 have hLX : ∀ V : World, Rd r q b3 ⟨k, s, i, g, ⟨es, ei, eg, m, x, y, vx, vy, hp, pw, lf⟩, mask⟩ V → V.cell? ⟨r, 0, none⟩ = some (.pointer (some ⟨q, 0, none⟩)) := fun V hV => hV.x
 go_cut [6, 7, 8] (fun s6 s7 s8 wx => ∃ n, s6 = .pointer (some ⟨n, 0, none⟩) ∧ s7 = .bool false ∧ s8 = int i64 0 ∧ Own w0 wx ((boxO n (cmC ⟨uk, us, ui, ug, ⟨ues, uei, ueg, um, ux, uy, uvx, uvy, uhp, upw, ulf⟩, umask⟩).toArray 34).and ((boxO b4 #[int i64 0, int i64 0, int i64 0, int i64 0, int i64 0, int i64 0, int i64 0, int i64 0, int i64 0, int i64 0, int i64 0, int i64 0, int i64 0, int i64 0, int i64 0, int i64 0] 34).and ((boxO b3 #[int i64 k, int i64 s, int i64 i, int i64 g, int i64 es, int i64 ei, int i64 eg, int i64 m, int i64 x, int i64 y, int i64 vx, int i64 vy, int i64 hp, int i64 pw, int i64 lf, int i64 mask] 34).and ((boxO r #[.pointer (some ⟨q, 0, none⟩), v] 123).and ((rdeskO q R c kk X.D).and ((slO 32 11 v X.L.length (cellsR bunL X.L)).and F)))))))
 case first =>
  go_region_held3 (fun V => Rd r q b3 ⟨k, s, i, g, ⟨es, ei, eg, m, x, y, vx, vy, hp, pw, lf⟩, mask⟩ V) (first | exact hS1d | exact hSz | exact hS2 | exact hS2z | exact hS3) (first | (go_at_call 69; have hq := HLK.out _ _ (H1.out.fourth.grow (show Below w1.heap.size w1 w1.drew from bg)); (with_reducible refine hq.mono ?_); clear hq; rintro e w2 ⟨rfl, hb2⟩; have h2 := (H1.out.grow (show Below w1.heap.size w1 w1.drew from bg)).grow hb2; have hS2 := rd_of h2; have hS2z := rd_of3 (h2.made (made_box w2 #[int i64 0, int i64 0, int i64 0, int i64 0, int i64 0, int i64 0, int i64 0, int i64 0, int i64 0, int i64 0, int i64 0, int i64 0, int i64 0, int i64 0, int i64 0, int i64 0] 34)); obtain ⟨w3, hs3, hm3⟩ := new_cmO w2 ⟨uk, us, ui, ug, ⟨ues, uei, ueg, um, ux, uy, uvx, uvy, uhp, upw, ulf⟩, umask⟩; have h3 := h2.made hm3; have hS3 := rd_of3 h3; have hs3' : (stM ⟨w2.heap.size, 0, none⟩ (.agg #[int i64 uk, int i64 us, int i64 ui, int i64 ug, int i64 ues, int i64 uei, int i64 ueg, int i64 um, int i64 ux, int i64 uy, int i64 uvx, int i64 uvy, int i64 uhp, int i64 upw, int i64 ulf, int i64 umask])).run prog (w2.alloc (.cells #[int i64 0, int i64 0, int i64 0, int i64 0, int i64 0, int i64 0, int i64 0, int i64 0, int i64 0, int i64 0, int i64 0, int i64 0, int i64 0, int i64 0, int i64 0, int i64 0] 34)) = .ok () w3 := hs3; have H3 : Hid (Own w0 w3 ((boxO w2.heap.size (cmC ⟨uk, us, ui, ug, ⟨ues, uei, ueg, um, ux, uy, uvx, uvy, uhp, upw, ulf⟩, umask⟩).toArray 34).and ((boxO b4 #[int i64 0, int i64 0, int i64 0, int i64 0, int i64 0, int i64 0, int i64 0, int i64 0, int i64 0, int i64 0, int i64 0, int i64 0, int i64 0, int i64 0, int i64 0, int i64 0] 34).and ((boxO b3 #[int i64 k, int i64 s, int i64 i, int i64 g, int i64 es, int i64 ei, int i64 eg, int i64 m, int i64 x, int i64 y, int i64 vx, int i64 vy, int i64 hp, int i64 pw, int i64 lf, int i64 mask] 34).and ((boxO r #[.pointer (some ⟨q, 0, none⟩), v] 123).and ((rdeskO q R c kk X.D).and ((slO 32 11 v X.L.length (cellsR bunL X.L)).and F))))))) := hid h3; clear h2 h3 hb2 hs3 hm3) | (go_at_call 69; have hq := HLK.out _ _ HZ.out.fifth; (with_reducible refine hq.mono ?_); clear hq; rintro e w2 ⟨rfl, hb2⟩; have h2 := HZ.out.grow hb2; have hS2 := rd_of3 h2; obtain ⟨w3, hs3, h3⟩ := own_stM h2 rfl ⟨uk, us, ui, ug, ⟨ues, uei, ueg, um, ux, uy, uvx, uvy, uhp, upw, ulf⟩, umask⟩; have hS3 := rd_of3 h3; have hs3' : (stM ⟨w1.heap.size, 0, none⟩ (.agg #[int i64 uk, int i64 us, int i64 ui, int i64 ug, int i64 ues, int i64 uei, int i64 ueg, int i64 um, int i64 ux, int i64 uy, int i64 uvx, int i64 uvy, int i64 uhp, int i64 upw, int i64 ulf, int i64 umask])).run prog w2 = .ok () w3 := hs3; have H3 := hid h3; clear h2 h3 hb2 hs3))
  all_goals (go_wp2_with fail; go_meet; exact ⟨_, rfl, rfl, rfl, H3.out⟩)
 obtain ⟨n, rfl, rfl, rfl, h3⟩ := hcut
 obtain ⟨w3, rfl⟩ : ∃ w3 : World, w3 = wc := ⟨_, rfl⟩
 have H3 := hid h3
 clear hLD hLX hS1d hSz HZ x0 lp z0 z1 z2 H1 HLK HLA
 go_upto_region 6 with fail
 have H5 := H3
 obtain ⟨w5, rfl⟩ : ∃ w5 : World, w5 = w3 := ⟨_, rfl⟩
 clear H3 h3
 have HAD : Hid (∀ V E, Own w0 V ((rdeskO q R c kk X.D).and E) → Calls prog 71 #[.pointer (some ⟨q, 0, none⟩), .agg #[int i64 uk, int i64 us, int i64 ui, int i64 ug, int i64 ues, int i64 uei, int i64 ueg, int i64 um, int i64 ux, int i64 uy, int i64 uvx, int i64 uvy, int i64 uhp, int i64 upw, int i64 ulf, int i64 umask]] V fun e w' => e = .returned (int i64 (admitF c X.D ⟨uk, us, ui, ug, ⟨ues, uei, ueg, um, ux, uy, uvx, uvy, uhp, upw, ulf⟩, umask⟩).1) ∧ Own w0 w' ((rdeskO q R c kk (admitF c X.D ⟨uk, us, ui, ug, ⟨ues, uei, ueg, um, ux, uy, uvx, uvy, uhp, upw, ulf⟩, umask⟩).2).and E)) := hid (fun V E hV => radmit_o hV HO.out ⟨uk, us, ui, ug, ⟨ues, uei, ueg, um, ux, uy, uvx, uvy, uhp, upw, ulf⟩, umask⟩ (by rcases hmk with e | e <;> (simp only; rw [e]; first | exact him | omega)))
 have hS5 : Rd r q n ⟨uk, us, ui, ug, ⟨ues, uei, ueg, um, ux, uy, uvx, uvy, uhp, upw, ulf⟩, umask⟩ w5 := ⟨by simpa using H5.out.fourth.box.1 0, H5.out.box.1⟩
 have hS5d : Rd r q n ⟨uk, us, ui, ug, ⟨ues, uei, ueg, um, ux, uy, uvx, uvy, uhp, upw, ulf⟩, umask⟩ w5.drew := ⟨hS5.x, hS5.c⟩
 have hLD : ∀ V : World, Rd r q n ⟨uk, us, ui, ug, ⟨ues, uei, ueg, um, ux, uy, uvx, uvy, uhp, upw, ulf⟩, umask⟩ V → (ldM ⟨n, 0, none⟩).run prog V = .ok (.agg #[int i64 uk, int i64 us, int i64 ui, int i64 ug, int i64 ues, int i64 uei, int i64 ueg, int i64 um, int i64 ux, int i64 uy, int i64 uvx, int i64 uvy, int i64 uhp, int i64 upw, int i64 ulf, int i64 umask]) V := fun V hV => hV.ld
 have hLX : ∀ V : World, Rd r q n ⟨uk, us, ui, ug, ⟨ues, uei, ueg, um, ux, uy, uvx, uvy, uhp, upw, ulf⟩, umask⟩ V → V.cell? ⟨r, 0, none⟩ = some (.pointer (some ⟨q, 0, none⟩)) := fun V hV => hV.x
 have lp := H5.out.fourth.box.2.2.1
 obtain ⟨z0, z1, z2⟩ := ltz lp
 go_region_held3 (fun V => Rd r q n ⟨uk, us, ui, ug, ⟨ues, uei, ueg, um, ux, uy, uvx, uvy, uhp, upw, ulf⟩, umask⟩ V) (first | exact hS5d | exact hS6) (first | (go_at_call 71; have hq := HAD.out _ _ (H5.out.fifth.grow (show Below w5.heap.size w5 w5.drew from bg)); (with_reducible refine hq.mono ?_); clear hq; rintro e w6 ⟨rfl, h6⟩; have h6b := h6.fifthB; have hS6 : Rd r q n ⟨uk, us, ui, ug, ⟨ues, uei, ueg, um, ux, uy, uvx, uvy, uhp, upw, ulf⟩, umask⟩ w6 := ⟨by simpa using h6b.fourth.box.1 0, h6b.box.1⟩; have H6 := hid h6b; clear h6 h6b))
 have hL6 := hLD w6 hS6
 obtain ⟨w7, hs7, h7⟩ := own_stM H6.out.swap rfl ⟨uk, us, ui, ug, ⟨ues, uei, ueg, um, ux, uy, uvx, uvy, uhp, upw, ulf⟩, umask⟩
 have hs7' : (stM ⟨b4, 0, none⟩ (.agg #[int i64 uk, int i64 us, int i64 ui, int i64 ug, int i64 ues, int i64 uei, int i64 ueg, int i64 um, int i64 ux, int i64 uy, int i64 uvx, int i64 uvy, int i64 uhp, int i64 upw, int i64 ulf, int i64 umask])).run prog w6 = .ok () w7 := hs7
 have q4 := h7.box.1
 have H7 := hid h7
 clear hS5 hS5d hS6 hLD hLX H5 hs7 h7 H6
 go_wp2_with fail
 exact bodyPost_ret (results_cme Tryz.results34 rfl rfl (ldM_of ⟨uk, us, ui, ug, ⟨ues, uei, ueg, um, ux, uy, uvx, uvy, uhp, upw, ulf⟩, umask⟩ fun j v hj => by rw [Nat.zero_add, q4, List.getElem?_toArray]; exact hj)) rfl ⟨rfl, rshut (X := ⟨(admitF c X.D ⟨uk, us, ui, ug, ⟨ues, uei, ueg, um, ux, uy, uvx, uvy, uhp, upw, ulf⟩, umask⟩).2, X.L⟩) H7.out.snd.snd.snd⟩
theorem rcall_must {w0 W : World} {F : Ob} {r q R : Nat} {c : Cfg} {kk : Int} {X : Wo} (h : Own w0 W ((rworldO r q R c kk X).and F)) (ho : CfgOk c) (k s i g es ei eg m x y vx vy hp pw lf mask : Int) (him : (-9223372036854775808 ≤ m ∧ m ≤ 9223372036854775807)) (uk us ui ug ues uei ueg um ux uy uvx uvy uhp upw ulf umask : Int) (hla : lookF c X.D ⟨k, s, i, g, ⟨es, ei, eg, m, x, y, vx, vy, hp, pw, lf⟩, mask⟩ = (⟨uk, us, ui, ug, ⟨ues, uei, ueg, um, ux, uy, uvx, uvy, uhp, upw, ulf⟩, umask⟩, true, 0)) :
 Calls prog 34 #[.pointer (some ⟨r, 0, none⟩), .agg #[int i64 k, int i64 s, int i64 i, int i64 g, int i64 es, int i64 ei, int i64 eg, int i64 m, int i64 x, int i64 y, int i64 vx, int i64 vy, int i64 hp, int i64 pw, int i64 lf, int i64 mask]] W fun e w' => e = .returned (.tuple #[.agg #[int i64 uk, int i64 us, int i64 ui, int i64 ug, int i64 ues, int i64 uei, int i64 ueg, int i64 um, int i64 ux, int i64 uy, int i64 uvx, int i64 uvy, int i64 uhp, int i64 upw, int i64 ulf, int i64 umask], int i64 0]) ∧ Own w0 w' ((rworldO r q R c kk ⟨(admitF c (reservedF X.D ues uei).2 ⟨uk, us, ui, ug, ⟨ues, uei, ueg, um, ux, uy, uvx, uvy, uhp, upw, ulf⟩, umask⟩).2, X.L⟩).and F) := by
 obtain ⟨v, h⟩ := ropen h
 have h1 := own_twoC h k s i g es ei eg m x y vx vy hp pw lf mask
 have hn34 : W.heap.size + 1 ≠ W.heap.size := by omega
 have hmk := look_mask c X.D ⟨k, s, i, g, ⟨es, ei, eg, m, x, y, vx, vy, hp, pw, lf⟩, mask⟩
 have HO := hid ho
 have HLA := hid hla
 rw [hla] at hmk
 simp only at hmk
 clear h ho hla
 have HLK : Hid (∀ V E, Own w0 V ((rdeskO q R c kk X.D).and E) → Calls prog 69 #[.pointer (some ⟨q, 0, none⟩), .agg #[int i64 k, int i64 s, int i64 i, int i64 g, int i64 es, int i64 ei, int i64 eg, int i64 m, int i64 x, int i64 y, int i64 vx, int i64 vy, int i64 hp, int i64 pw, int i64 lf, int i64 mask]] V fun e w' => e = .returned (.tuple #[.agg #[int i64 uk, int i64 us, int i64 ui, int i64 ug, int i64 ues, int i64 uei, int i64 ueg, int i64 um, int i64 ux, int i64 uy, int i64 uvx, int i64 uvy, int i64 uhp, int i64 upw, int i64 ulf, int i64 umask], .bool true, int i64 0]) ∧ Below V.heap.size V w') := hid (fun V E hV => by have := rlook_o hV HO.out ⟨k, s, i, g, ⟨es, ei, eg, m, x, y, vx, vy, hp, pw, lf⟩, mask⟩ him; rw [HLA.out] at this; exact this)
 go_enter Tryz.func34, Tryz.ntmps34
 go_upto_region 1 with fail
 generalize (W.alloc _).alloc _ = w1 at *
 generalize W.heap.size + 1 = b4 at *
 generalize W.heap.size = b3 at *
 have q3 := h1.swap.box
 have x0 := h1.third.box.1 0
 simp at x0
 have lp := h1.third.box.2.2.1
 obtain ⟨z0, z1, z2⟩ := ltz lp
 have H1 := hid h1
 have hS1d : Rd r q b3 ⟨k, s, i, g, ⟨es, ei, eg, m, x, y, vx, vy, hp, pw, lf⟩, mask⟩ w1.drew := ⟨x0, q3.1⟩
 have hz := own_drewS (h1.made (made_box w1 #[int i64 0, int i64 0, int i64 0, int i64 0, int i64 0, int i64 0, int i64 0, int i64 0, int i64 0, int i64 0, int i64 0, int i64 0, int i64 0, int i64 0, int i64 0, int i64 0] 34))
 have hSz := rd_of3 hz
 have HZ := hid hz
 clear h1 q3 hz
 have hLD : ∀ V : World, Rd r q b3 ⟨k, s, i, g, ⟨es, ei, eg, m, x, y, vx, vy, hp, pw, lf⟩, mask⟩ V → (ldM ⟨b3, 0, none⟩).run prog V = .ok (.agg #[int i64 k, int i64 s, int i64 i, int i64 g, int i64 es, int i64 ei, int i64 eg, int i64 m, int i64 x, int i64 y, int i64 vx, int i64 vy, int i64 hp, int i64 pw, int i64 lf, int i64 mask]) V := fun V hV => hV.ld
 have hLX : ∀ V : World, Rd r q b3 ⟨k, s, i, g, ⟨es, ei, eg, m, x, y, vx, vy, hp, pw, lf⟩, mask⟩ V → V.cell? ⟨r, 0, none⟩ = some (.pointer (some ⟨q, 0, none⟩)) := fun V hV => hV.x
 go_cut [6, 7, 8] (fun s6 s7 s8 wx => ∃ n, s6 = .pointer (some ⟨n, 0, none⟩) ∧ s7 = .bool true ∧ s8 = int i64 0 ∧ Own w0 wx ((boxO n (cmC ⟨uk, us, ui, ug, ⟨ues, uei, ueg, um, ux, uy, uvx, uvy, uhp, upw, ulf⟩, umask⟩).toArray 34).and ((boxO b4 #[int i64 0, int i64 0, int i64 0, int i64 0, int i64 0, int i64 0, int i64 0, int i64 0, int i64 0, int i64 0, int i64 0, int i64 0, int i64 0, int i64 0, int i64 0, int i64 0] 34).and ((boxO b3 #[int i64 k, int i64 s, int i64 i, int i64 g, int i64 es, int i64 ei, int i64 eg, int i64 m, int i64 x, int i64 y, int i64 vx, int i64 vy, int i64 hp, int i64 pw, int i64 lf, int i64 mask] 34).and ((boxO r #[.pointer (some ⟨q, 0, none⟩), v] 123).and ((rdeskO q R c kk X.D).and ((slO 32 11 v X.L.length (cellsR bunL X.L)).and F)))))))
 case first =>
  go_region_held3 (fun V => Rd r q b3 ⟨k, s, i, g, ⟨es, ei, eg, m, x, y, vx, vy, hp, pw, lf⟩, mask⟩ V) (first | exact hS1d | exact hSz | exact hS2 | exact hS2z | exact hS3) (first | (go_at_call 69; have hq := HLK.out _ _ (H1.out.fourth.grow (show Below w1.heap.size w1 w1.drew from bg)); (with_reducible refine hq.mono ?_); clear hq; rintro e w2 ⟨rfl, hb2⟩; have h2 := (H1.out.grow (show Below w1.heap.size w1 w1.drew from bg)).grow hb2; have hS2 := rd_of h2; have hS2z := rd_of3 (h2.made (made_box w2 #[int i64 0, int i64 0, int i64 0, int i64 0, int i64 0, int i64 0, int i64 0, int i64 0, int i64 0, int i64 0, int i64 0, int i64 0, int i64 0, int i64 0, int i64 0, int i64 0] 34)); obtain ⟨w3, hs3, hm3⟩ := new_cmO w2 ⟨uk, us, ui, ug, ⟨ues, uei, ueg, um, ux, uy, uvx, uvy, uhp, upw, ulf⟩, umask⟩; have h3 := h2.made hm3; have hS3 := rd_of3 h3; have hs3' : (stM ⟨w2.heap.size, 0, none⟩ (.agg #[int i64 uk, int i64 us, int i64 ui, int i64 ug, int i64 ues, int i64 uei, int i64 ueg, int i64 um, int i64 ux, int i64 uy, int i64 uvx, int i64 uvy, int i64 uhp, int i64 upw, int i64 ulf, int i64 umask])).run prog (w2.alloc (.cells #[int i64 0, int i64 0, int i64 0, int i64 0, int i64 0, int i64 0, int i64 0, int i64 0, int i64 0, int i64 0, int i64 0, int i64 0, int i64 0, int i64 0, int i64 0, int i64 0] 34)) = .ok () w3 := hs3; have H3 : Hid (Own w0 w3 ((boxO w2.heap.size (cmC ⟨uk, us, ui, ug, ⟨ues, uei, ueg, um, ux, uy, uvx, uvy, uhp, upw, ulf⟩, umask⟩).toArray 34).and ((boxO b4 #[int i64 0, int i64 0, int i64 0, int i64 0, int i64 0, int i64 0, int i64 0, int i64 0, int i64 0, int i64 0, int i64 0, int i64 0, int i64 0, int i64 0, int i64 0, int i64 0] 34).and ((boxO b3 #[int i64 k, int i64 s, int i64 i, int i64 g, int i64 es, int i64 ei, int i64 eg, int i64 m, int i64 x, int i64 y, int i64 vx, int i64 vy, int i64 hp, int i64 pw, int i64 lf, int i64 mask] 34).and ((boxO r #[.pointer (some ⟨q, 0, none⟩), v] 123).and ((rdeskO q R c kk X.D).and ((slO 32 11 v X.L.length (cellsR bunL X.L)).and F))))))) := hid h3; clear h2 h3 hb2 hs3 hm3) | (go_at_call 69; have hq := HLK.out _ _ HZ.out.fifth; (with_reducible refine hq.mono ?_); clear hq; rintro e w2 ⟨rfl, hb2⟩; have h2 := HZ.out.grow hb2; have hS2 := rd_of3 h2; obtain ⟨w3, hs3, h3⟩ := own_stM h2 rfl ⟨uk, us, ui, ug, ⟨ues, uei, ueg, um, ux, uy, uvx, uvy, uhp, upw, ulf⟩, umask⟩; have hS3 := rd_of3 h3; have hs3' : (stM ⟨w1.heap.size, 0, none⟩ (.agg #[int i64 uk, int i64 us, int i64 ui, int i64 ug, int i64 ues, int i64 uei, int i64 ueg, int i64 um, int i64 ux, int i64 uy, int i64 uvx, int i64 uvy, int i64 uhp, int i64 upw, int i64 ulf, int i64 umask])).run prog w2 = .ok () w3 := hs3; have H3 := hid h3; clear h2 h3 hb2 hs3))
  all_goals (go_wp2_with fail; go_meet; exact ⟨_, rfl, rfl, rfl, H3.out⟩)
 obtain ⟨n, rfl, rfl, rfl, h3⟩ := hcut
 obtain ⟨w3, rfl⟩ : ∃ w3 : World, w3 = wc := ⟨_, rfl⟩
 have H3 := hid h3
 clear hLD hLX hS1d hSz HZ x0 lp z0 z1 z2 H1 HLK HLA
 have q3 := h3.box.1
 have c4 := q3 4
 have c5 := q3 5
 simp [cmC, bunL] at c4 c5
 have x0 := h3.fourth.box.1 0
 simp at x0
 have lp := h3.fourth.box.2.2.1
 have lb := h3.box.2.2.1
 obtain ⟨y7, _, _, _, lq⟩ := h3.fifth.rcells
 obtain ⟨z0, z1, z2⟩ := ltz lp
 obtain ⟨z3, z4, z5⟩ := ltz lb
 obtain ⟨z6, z7, z8⟩ := ltz lq
 clear q3 h3
 go_upto_region 5 with fail
 refine wp_region_still_tail 15 (by kernel_rfl) (by kernel_rfl) ?_
 simp only [List.take_succ_cons, List.take_zero, List.drop_succ_cons, List.drop_zero]
 repeat (first | still_step)
 refine wpStill_nil ?_
 go_wp2_with fail
 refine (rreserve_o (H3.out.fifth.grow bg) ues uei).mono ?_
 rintro e wr ⟨rfl, hr⟩
 have H5 : Hid (Own w0 wr ((boxO n (cmC ⟨uk, us, ui, ug, ⟨ues, uei, ueg, um, ux, uy, uvx, uvy, uhp, upw, ulf⟩, umask⟩).toArray 34).and ((boxO b4 #[int i64 0, int i64 0, int i64 0, int i64 0, int i64 0, int i64 0, int i64 0, int i64 0, int i64 0, int i64 0, int i64 0, int i64 0, int i64 0, int i64 0, int i64 0, int i64 0] 34).and ((boxO b3 #[int i64 k, int i64 s, int i64 i, int i64 g, int i64 es, int i64 ei, int i64 eg, int i64 m, int i64 x, int i64 y, int i64 vx, int i64 vy, int i64 hp, int i64 pw, int i64 lf, int i64 mask] 34).and ((boxO r #[.pointer (some ⟨q, 0, none⟩), v] 123).and ((rdeskO q R c kk (reservedF X.D ues uei).2).and ((slO 32 11 v X.L.length (cellsR bunL X.L)).and F))))))) := hid hr.fifthB
 clear hr H3 c4 c5 x0 lp lb z0 z1 z2 z3 z4 z5 y7 lq z6 z7 z8
 obtain ⟨w5, rfl⟩ : ∃ w5 : World, w5 = wr := ⟨_, rfl⟩
 go_upto_region 6 with fail
 have HAD : Hid (∀ V E, Own w0 V ((rdeskO q R c kk (reservedF X.D ues uei).2).and E) → Calls prog 71 #[.pointer (some ⟨q, 0, none⟩), .agg #[int i64 uk, int i64 us, int i64 ui, int i64 ug, int i64 ues, int i64 uei, int i64 ueg, int i64 um, int i64 ux, int i64 uy, int i64 uvx, int i64 uvy, int i64 uhp, int i64 upw, int i64 ulf, int i64 umask]] V fun e w' => e = .returned (int i64 (admitF c (reservedF X.D ues uei).2 ⟨uk, us, ui, ug, ⟨ues, uei, ueg, um, ux, uy, uvx, uvy, uhp, upw, ulf⟩, umask⟩).1) ∧ Own w0 w' ((rdeskO q R c kk (admitF c (reservedF X.D ues uei).2 ⟨uk, us, ui, ug, ⟨ues, uei, ueg, um, ux, uy, uvx, uvy, uhp, upw, ulf⟩, umask⟩).2).and E)) := hid (fun V E hV => radmit_o hV HO.out ⟨uk, us, ui, ug, ⟨ues, uei, ueg, um, ux, uy, uvx, uvy, uhp, upw, ulf⟩, umask⟩ (by rcases hmk with e | e <;> (simp only; rw [e]; first | exact him | omega)))
 have hS5 : Rd r q n ⟨uk, us, ui, ug, ⟨ues, uei, ueg, um, ux, uy, uvx, uvy, uhp, upw, ulf⟩, umask⟩ w5 := ⟨by simpa using H5.out.fourth.box.1 0, H5.out.box.1⟩
 have hS5d : Rd r q n ⟨uk, us, ui, ug, ⟨ues, uei, ueg, um, ux, uy, uvx, uvy, uhp, upw, ulf⟩, umask⟩ w5.drew := ⟨hS5.x, hS5.c⟩
 have hLD : ∀ V : World, Rd r q n ⟨uk, us, ui, ug, ⟨ues, uei, ueg, um, ux, uy, uvx, uvy, uhp, upw, ulf⟩, umask⟩ V → (ldM ⟨n, 0, none⟩).run prog V = .ok (.agg #[int i64 uk, int i64 us, int i64 ui, int i64 ug, int i64 ues, int i64 uei, int i64 ueg, int i64 um, int i64 ux, int i64 uy, int i64 uvx, int i64 uvy, int i64 uhp, int i64 upw, int i64 ulf, int i64 umask]) V := fun V hV => hV.ld
 have hLX : ∀ V : World, Rd r q n ⟨uk, us, ui, ug, ⟨ues, uei, ueg, um, ux, uy, uvx, uvy, uhp, upw, ulf⟩, umask⟩ V → V.cell? ⟨r, 0, none⟩ = some (.pointer (some ⟨q, 0, none⟩)) := fun V hV => hV.x
 have lp := H5.out.fourth.box.2.2.1
 obtain ⟨z0, z1, z2⟩ := ltz lp
 go_region_held3 (fun V => Rd r q n ⟨uk, us, ui, ug, ⟨ues, uei, ueg, um, ux, uy, uvx, uvy, uhp, upw, ulf⟩, umask⟩ V) (first | exact hS5d | exact hS6) (first | (go_at_call 71; have hq := HAD.out _ _ (H5.out.fifth.grow (show Below w5.heap.size w5 w5.drew from bg)); (with_reducible refine hq.mono ?_); clear hq; rintro e w6 ⟨rfl, h6⟩; have h6b := h6.fifthB; have hS6 : Rd r q n ⟨uk, us, ui, ug, ⟨ues, uei, ueg, um, ux, uy, uvx, uvy, uhp, upw, ulf⟩, umask⟩ w6 := ⟨by simpa using h6b.fourth.box.1 0, h6b.box.1⟩; have H6 := hid h6b; clear h6 h6b))
 have hL6 := hLD w6 hS6
 obtain ⟨w7, hs7, h7⟩ := own_stM H6.out.swap rfl ⟨uk, us, ui, ug, ⟨ues, uei, ueg, um, ux, uy, uvx, uvy, uhp, upw, ulf⟩, umask⟩
 have hs7' : (stM ⟨b4, 0, none⟩ (.agg #[int i64 uk, int i64 us, int i64 ui, int i64 ug, int i64 ues, int i64 uei, int i64 ueg, int i64 um, int i64 ux, int i64 uy, int i64 uvx, int i64 uvy, int i64 uhp, int i64 upw, int i64 ulf, int i64 umask])).run prog w6 = .ok () w7 := hs7
 have q4 := h7.box.1
 have H7 := hid h7
 clear hS5 hS5d hS6 hLD hLX H5 hs7 h7 H6
 go_wp2_with fail
 exact bodyPost_ret (results_cme Tryz.results34 rfl rfl (ldM_of ⟨uk, us, ui, ug, ⟨ues, uei, ueg, um, ux, uy, uvx, uvy, uhp, upw, ulf⟩, umask⟩ fun j v hj => by rw [Nat.zero_add, q4, List.getElem?_toArray]; exact hj)) rfl ⟨rfl, rshut (X := ⟨(admitF c (reservedF X.D ues uei).2 ⟨uk, us, ui, ug, ⟨ues, uei, ueg, um, ux, uy, uvx, uvy, uhp, upw, ulf⟩, umask⟩).2, X.L⟩) H7.out.snd.snd.snd⟩
theorem rwcall_o {w0 W : World} {F : Ob} {r q R : Nat} {c : Cfg} {kk : Int} {X : Wo} (h : Own w0 W ((rworldO r q R c kk X).and F)) (ho : CfgOk c) (m : Cm) (him : (-9223372036854775808 ≤ m.b.m ∧ m.b.m ≤ 9223372036854775807)) (hadm : (lookF c X.D m).2.2 = 0 → (admitF c (lookedF c X.D m) (lookF c X.D m).1).1 = 0) :
 Calls prog 34 #[.pointer (some ⟨r, 0, none⟩), .agg (cmC m).toArray] W fun e w' => e = .returned (.tuple #[.agg (cmC (callW c X m).1.1).toArray, int i64 (callW c X m).1.2]) ∧ Own w0 w' ((rworldO r q R c kk (callW c X m).2).and F) := by
 obtain ⟨k, s, i, g, ⟨es, ei, eg, m, x, y, vx, vy, hp, pw, lf⟩, mask⟩ := m
 have hla : ∃ a must er, lookF c X.D ⟨k, s, i, g, ⟨es, ei, eg, m, x, y, vx, vy, hp, pw, lf⟩, mask⟩ = (a, must, er) := ⟨_, _, _, rfl⟩
 obtain ⟨a, must, er, hla⟩ := hla
 by_cases her : er = 0
 · subst her
   obtain ⟨uk, us, ui, ug, ⟨ues, uei, ueg, um, ux, uy, uvx, uvy, uhp, upw, ulf⟩, umask⟩ := a
   cases must with
   | false =>
     have hc : callW c X ⟨k, s, i, g, ⟨es, ei, eg, m, x, y, vx, vy, hp, pw, lf⟩, mask⟩ = ((⟨uk, us, ui, ug, ⟨ues, uei, ueg, um, ux, uy, uvx, uvy, uhp, upw, ulf⟩, umask⟩, 0), ⟨(admitF c X.D ⟨uk, us, ui, ug, ⟨ues, uei, ueg, um, ux, uy, uvx, uvy, uhp, upw, ulf⟩, umask⟩).2, X.L⟩) := by
      unfold callW lookedF at *
      rw [hla] at hadm ⊢
      simp only [Bool.false_eq_true, if_false] at hadm ⊢
      rw [if_neg (by simp), hadm trivial]
     rw [hc]
     exact rcall_yes h ho _ _ _ _ _ _ _ _ _ _ _ _ _ _ _ _ him _ _ _ _ _ _ _ _ _ _ _ _ _ _ _ _ hla
   | true =>
     have hc : callW c X ⟨k, s, i, g, ⟨es, ei, eg, m, x, y, vx, vy, hp, pw, lf⟩, mask⟩ = ((⟨uk, us, ui, ug, ⟨ues, uei, ueg, um, ux, uy, uvx, uvy, uhp, upw, ulf⟩, umask⟩, 0), ⟨(admitF c (reservedF X.D ues uei).2 ⟨uk, us, ui, ug, ⟨ues, uei, ueg, um, ux, uy, uvx, uvy, uhp, upw, ulf⟩, umask⟩).2, X.L⟩) := by
      unfold callW lookedF at *
      rw [hla] at hadm ⊢
      simp only [if_true] at hadm ⊢
      rw [if_neg (by simp), hadm trivial]
     rw [hc]
     exact rcall_must h ho _ _ _ _ _ _ _ _ _ _ _ _ _ _ _ _ him _ _ _ _ _ _ _ _ _ _ _ _ _ _ _ _ hla
 · have hz : a = zeroCm ∧ must = false := by
    rcases look_cases c X.D ⟨k, s, i, g, ⟨es, ei, eg, m, x, y, vx, vy, hp, pw, lf⟩, mask⟩ with ⟨e, _, h2⟩ | ⟨_, _, h2⟩ | ⟨_, h2⟩
    · rw [h2] at hla; simp only [Prod.mk.injEq] at hla; exact ⟨hla.1.symm, hla.2.1.symm⟩
    · rw [h2] at hla; simp only [Prod.mk.injEq] at hla; exact absurd hla.2.2.symm her
    · rw [h2] at hla; simp only [Prod.mk.injEq] at hla; exact absurd hla.2.2.symm her
   obtain ⟨rfl, rfl⟩ := hz
   have hc : callW c X ⟨k, s, i, g, ⟨es, ei, eg, m, x, y, vx, vy, hp, pw, lf⟩, mask⟩ = ((zeroCm, er), X) := by
    unfold callW
    rw [hla]
    simp only
    rw [if_pos her]
   rw [hc]
   exact rcall_no h ho _ _ _ _ _ _ _ _ _ _ _ _ _ _ _ _ him er her hla
end
theorem run_copyK {P : Program} (w : World) (dT sT ty e : TypeId) (size g o dLen dCap : Nat) (a : Addr) (sLen sCap : Nat) (cs : List Value) (hu : P.underlying dT = some (.slice e)) (hs : (P.info? e).map (·.size) = some size)
 (hn : cs.length = Nat.min sLen dLen * size) (hsrc : ∀ j v, cs[j]? = some v → w.cell? (a.add j) = some v)
 (hin : ∀ j, j < cs.length → (w.cell? ⟨g, o + j, none⟩).isSome = true) (hfz : ∀ j, j < cs.length → w.frozen? ⟨g, o + j, none⟩ = false) (h1 : ∀ v ∈ cs, v.oneCell' = true) :
 (Builtin.copy_ #[dT, sT] ty #[.slice (some ⟨g, o, none⟩) dLen dCap, .slice (some a) sLen sCap]).run P w = .ok (goInt (Nat.min sLen dLen)) (w.setCells g o cs) := by
 have hl := run_loadCells_list (P := P) w a cs hsrc
 have hst := Go.run_storeCells_cells (P := P) g o cs 0 w (fun j hj => by simpa using hin j hj) (fun j hj => hfz j hj) h1
 rw [hn] at hl
 cases hq : P.info? e with
 | none => simp [hq] at hs
 | some i =>
   have hi : i.size = size := by simpa [hq] using hs
   simp only [Nat.add_zero] at hst
   simp [Builtin.copy_, run_underlying hu, Builtin.lenOf, Builtin.firstCells, sizeOf, typeInfo, hq, hi, hl, hst]
theorem wpList_copy_runK {P : Program} (w : World) {ops : Array Oper} {rest : List Oper} {o : Oper} {a : Act} {Q : Exit → Act → World → Prop} (hgd : o.guard = none) (d s : Operand) (t t' : TypeId)
 (ho : o.op = .call { callee := .builtin .copy, args := #[d, s], argTypes := #[t, t'] }) (v u : Value) (hd : a.eval d = v) (hs : a.eval s = u) {v' : Value} {w' : World}
 (hr : (Builtin.copy_ #[t, t'] o.type #[v, u]).run P w = .ok v' w') (h : wpList P ops Q rest (a.put o.dst v') w') : wpList P ops Q (o :: rest) a w := by
 refine wpList_plain hgd fun K hK => ?_
 unfold Oper.wp
 simp [execOp, ho, resolve, invoke, builtin, hd, hs, hr, Result.andThen]
 exact hK _ _ h
theorem step_copy_runK {P : Program} {ops : Array Oper} {o : Oper} {a : Act} {w : World} {K : Act → World → Prop} {Q : Exit → Act → World → Prop} {E : Prop}
 (hg : o.guard = none) (d x : Operand) (dT sT : TypeId) (hop : o.op = Op.call { callee := Callee.builtin Builtin.copy, args := #[d, x], argTypes := #[dT, sT] })
 (v u : Value) (hd : a.eval d = v) (hx : a.eval x = u) {v' : Value} {w' : World} (hr : (Builtin.copy_ #[dT, sT] o.type #[v, u]).run P w = .ok v' w') (hK : K (a.put o.dst v') w') :
 if Region.wanted o (yielded ops a.tmps) = true then Oper.wp P o a w K Q else E := by
 have hw : Region.wanted o (yielded ops a.tmps) = true := by simp [Region.wanted, hg]
 rw [if_pos hw]
 unfold Oper.wp
 simp [execOp, hop, resolve, invoke, builtin, hd, hx, hr, Result.andThen]
 exact hK
def InsQ (w w' : World) (v v' : Value) (l' : List Bun) : Prop := Sl w' 32 11 v' l'.length (bunCells l') ∧ Turned w w' v.ownBlock ∧ (v'.ownBlock = v.ownBlock ∨ ∃ g, v'.ownBlock = some g ∧ w.heap.size ≤ g)
theorem insert_end (v : Value) (l : List Bun) (x : Bun) (xb c : Nat) (w : World) (h : Sl w 32 11 v l.length (bunCells l)) (hl : l.length ≤ 1000) (hx : ∀ j u, (bunL x)[j]? = some u → w.cell? ⟨xb, j, none⟩ = some u) :
 Calls prog 141 #[v, int i64 (l.length : Nat), .slice (some ⟨xb, 0, none⟩) 1 c] w fun e w' => ∃ v', e = .returned v' ∧ InsQ w w' v v' (l ++ [x]) := by
 obtain ⟨i0, hi0, hz0, hz1, hz2⟩ := info_parts info_bunJ
 obtain ⟨p, cp, rfl⟩ := sl_frm h
 have hle : l.length ≤ cp := by
  obtain ⟨_, ⟨h1, h2⟩ | ⟨g, off, cap, cur, hv, hb, hn, _⟩⟩ := h
  · omega
  · simp only [Value.slice.injEq] at hv; omega
 have H := hid h
 have HX := hid hx
 clear h hx
 rcases Nat.lt_or_eq_of_le hle with hlt | heq
 case' inr => obtain rfl := heq.symm
 all_goals
  go_enter Tryz.func141, Tryz.ntmps141
  go_wp2_with (at_builtin; refine wpList_append_sl _ (by rfl) _ _ 37 (by rfl) 32 i0 _ 11 88 Tryz.underlying37 hi0 hz0 hz1 hz2 rfl (by omega) _ l.length (bunCells l) (by rfl) H.out ⟨xb, 0, none⟩ 1 c (bunL x) (by rfl) (by rfl) (fun j u hj => by have := HX.out j u hj; rw [show Addr.add ⟨xb, 0, none⟩ j = ⟨xb, j, none⟩ from by unfold Addr.add; split <;> simp_all]; exact this) (bunL_one _) (by omega) (by unfold maxLen; omega) (by omega) ?_; intro v' w1 hs1 ht ho)
  go_ret
  refine ⟨_, rfl, ?_, ht, ho⟩
  rw [bunCells_app, List.length_append, show bunCells [x] = bunL x by simp [bunCells]]
  exact hs1
theorem isSome_setCells (b : Nat) (vs : List Value) (o : Nat) (w : World) (h : ∀ j, j < vs.length → (w.cell? ⟨b, o + j, none⟩).isSome = true) (k : Nat) (hk : (w.cell? ⟨b, k, none⟩).isSome = true) : ((w.setCells b o vs).cell? ⟨b, k, none⟩).isSome = true := by
 by_cases hin : o ≤ k ∧ k < o + vs.length
 · have := World.cell?_setCells_in b vs o w h (k - o) (by omega)
   rw [show o + (k - o) = k by omega] at this
   rw [this]; rfl
 · rw [World.cell?_setCells_out b vs o w ⟨b, k, none⟩ (fun _ _ => by show k < o ∨ o + vs.length ≤ k; omega)]
   exact hk
theorem bun_drop (l : List Bun) (i : Nat) : bunCells (l.drop i) = (bunCells l).drop (i * 11) := by
 induction l generalizing i with
 | nil => simp [bunCells]
 | cons x l ih =>
   cases i with
   | zero => simp
   | succ i =>
     have := ih i
     simp only [bunCells, List.drop_succ_cons, List.flatMap_cons] at this ⊢
     rw [this, show (i + 1) * 11 = (bunL x).length + i * 11 by rw [bunL_len]; omega, List.drop_length_add_append]
theorem bun_take (l : List Bun) (i : Nat) : bunCells (l.take i) = (bunCells l).take (i * 11) := by
 induction l generalizing i with
 | nil => simp [bunCells]
 | cons x l ih =>
   cases i with
   | zero => simp [bunCells]
   | succ i =>
     have := ih i
     simp only [bunCells, List.take_succ_cons, List.flatMap_cons] at this ⊢
     rw [this, show (i + 1) * 11 = (bunL x).length + i * 11 by rw [bunL_len]; omega, List.take_length_add_append]
theorem bun_one (l : List Bun) : ∀ v ∈ bunCells l, v.oneCell' = true := fun v hv => by
 obtain ⟨b, _, hb⟩ := List.mem_flatMap.1 hv
 exact bunL_one b v hb
theorem size_bun : (prog.info? 32).map (·.size) = some 11 := by kernel_rfl
theorem bun_ins (l : List Bun) (i : Nat) (x : Bun) : bunCells (insF l i x) = (bunCells l).take (i * 11) ++ bunL x ++ (bunCells l).drop (i * 11) := by
 unfold insF
 rw [bunCells_app, show bunCells (x :: l.drop i) = bunL x ++ bunCells (l.drop i) by simp [bunCells], bun_take, bun_drop, List.append_assoc]
theorem insert_room (g off cap : Nat) (l : List Bun) (i : Nat) (x : Bun) (xb c : Nat) (tx : TypeId) (w : World) (h : Sl w 32 11 (.slice (some ⟨g, off, none⟩) l.length cap) l.length (bunCells l)) (hl : l.length ≤ 1000000) (hi : i < l.length) (hroom : l.length + 1 ≤ cap)
 (hx : w.heap[xb]? = some (.cells (bunL x).toArray tx (0, 0))) (hxb : xb ≠ g) :
 Calls prog 141 #[.slice (some ⟨g, off, none⟩) l.length cap, int i64 (i : Nat), .slice (some ⟨xb, 0, none⟩) 1 c] w fun e w' => e = .returned (.slice (some ⟨g, off, none⟩) (l.length + 1) cap) ∧ w' = (w.drew.setCells g (off + (i + 1) * 11) (bunCells (l.drop i))).setCells g (off + i * 11) (bunL x) := by
 obtain ⟨hlen, ⟨h0, _⟩ | ⟨g', off', cap', cur, hv, hb, hn, hc, hsz, hr⟩⟩ := h
 · cases h0
 simp only [Value.slice.injEq, Option.some.injEq, Addr.mk.injEq, and_true, true_and] at hv
 obtain ⟨⟨rfl, rfl⟩, rfl⟩ := hv
 unfold maxLen at hc
 have hcs : ∀ j v, (bunCells l)[j]? = some v → w.cell? ⟨g, off + j, none⟩ = some v := fun j v hj => by simp [World.cell?, hb, hr j v hj]
 have hsp : ∀ j, j < (l.length + 1) * 11 → (w.cell? ⟨g, off + j, none⟩).isSome = true := fun j hj => by
  have h1 : (l.length + 1) * 11 ≤ cap * 11 := Nat.mul_le_mul_right _ hroom
  simp only [World.cell?, hb, Option.isSome_none, Bool.false_eq_true, if_false]
  rw [Array.getElem?_eq_getElem (by omega)]; rfl
 have hfz : ∀ j, w.frozen? ⟨g, j, none⟩ = false := fun j => by simp [World.frozen?, hb]
 have hvs : ∀ j v, (bunL x)[j]? = some v → w.cell? ⟨xb, 0 + j, none⟩ = some v := fun j v hj => by simp [World.cell?, hx]; exact hj
 have hkc : cur.size ≠ 0 := by have : (l.length + 1) * 11 ≤ cap * 11 := Nat.mul_le_mul_right _ hroom; omega
 have hov : ∀ lb cb, (callFunc 158 #[.slice (some ⟨xb, 0, none⟩) 1 c, .slice (some ⟨g, off + (i + 1) * 11, none⟩) lb cb]).run prog w = .ok (.value (.bool false)) w := fun lb cb => by
  rw [run_callFunc_extern Tryz.func158 (by kernel_rfl) (by kernel_rfl) (by kernel_rfl) (e := Extern.SlicesOverlaps.overlaps #[37, 37] #[4]) (by kernel_rfl),
   Lib.run_overlaps_apart w 37 4 32 Tryz.underlying37 11 (fun _ => by kernel_rfl) ⟨xb, 0, none⟩ ⟨g, off + (i + 1) * 11, none⟩ 1 c lb cb hxb tx 32 11 cur.size (by simp [World.shape?, hx, bunL]) (by simp [World.shape?, hb]) hkc (by simp [World.frozen?, hx]) (by simp [World.frozen?, hx])]
  rfl
 have hdl : (bunCells (l.drop i)).length = (l.length - i) * 11 := by rw [bunCells_len, List.length_drop]
 have hw1 : IntKind.i64.wrap ((i : Int) + 1) = (i : Int) + 1 := by rw [IntKind.wrap_i64]; omega
 have hw2 : IntKind.i64.wrap ((l.length : Int) + 1) = (l.length : Int) + 1 := by rw [IntKind.wrap_i64]; omega
 have hz2 : ¬ ((i : Int) = (l.length : Int)) := by omega
 have hb1 : (0 : Int) ≤ (i : Int) + 1 := by omega
 have htn : ((i : Int) + 1).toNat = i + 1 := by omega
 have htn2 : ((l.length : Int) + 1).toNat = l.length + 1 := by omega
 have hb2 : ¬ (cap = i + 1) := by omega
 have hb3 : (i : Int) ≤ (l.length : Int) + 1 := by omega
 have hb4 : ¬ (cap = i) := by omega
 have hb5 : ¬ (cap : Int) < (l.length : Int) + 1 := by omega
 have hb6 : (l.length : Int) + 1 ≤ (cap : Int) := by omega
 have hb7 : (i : Int) + 1 ≤ (l.length : Int) + 1 := by omega
 have hcp1 : ∀ ty dc sc, (Builtin.copy_ #[37, 37] ty #[.slice (some ⟨g, off + (i + 1) * 11, none⟩) (l.length - i) dc, .slice (some ⟨g, off + i * 11, none⟩) (l.length + 1 - i) sc]).run prog w.drew = .ok (goInt ((l.length - i : Nat) : Int)) (w.drew.setCells g (off + (i + 1) * 11) (bunCells (l.drop i))) := fun ty dc sc => by
  have := run_copyK (P := prog) w.drew 37 37 ty 32 11 g (off + (i + 1) * 11) (l.length - i) dc ⟨g, off + i * 11, none⟩ (l.length + 1 - i) sc (bunCells (l.drop i)) Tryz.underlying37 size_bun
   (by rw [hdl]; congr 1; simp only [Nat.min_def]; split <;> omega)
   (fun j v hj => by rw [Addr.add_lit, Nat.add_assoc]; exact hcs (i * 11 + j) v (by rwa [bun_drop, List.getElem?_drop] at hj))
   (fun j hj => by rw [hdl] at hj; rw [Nat.add_assoc]; exact hsp _ (by omega)) (fun j hj => hfz _) (bun_one _)
  rwa [show Nat.min (l.length + 1 - i) (l.length - i) = l.length - i by simp only [Nat.min_def]; split <;> omega] at this
 obtain ⟨W1, hW1⟩ : ∃ W1, W1 = w.drew.setCells g (off + (i + 1) * 11) (bunCells (l.drop i)) := ⟨_, rfl⟩
 have hsp1 : ∀ k, k < (l.length + 1) * 11 → (W1.cell? ⟨g, off + k, none⟩).isSome = true := fun k hk => by
  rw [hW1]
  exact isSome_setCells g _ _ _ (fun j hj => by rw [hdl] at hj; rw [Nat.add_assoc]; exact hsp _ (by omega)) _ (hsp k hk)
 have hcp2 : ∀ (W : World), (∀ x, W.cell? x = W1.cell? x) → (∀ x, W.frozen? x = W1.frozen? x) → ∀ ty dc, (Builtin.copy_ #[37, 37] ty #[.slice (some ⟨g, off + i * 11, none⟩) (l.length + 1 - i) dc, .slice (some ⟨xb, 0, none⟩) 1 c]).run prog W = .ok (goInt 1) (W.setCells g (off + i * 11) (bunL x)) := fun W hWc hWf ty dc => by
  have := run_copyK (P := prog) W 37 37 ty 32 11 g (off + i * 11) (l.length + 1 - i) dc ⟨xb, 0, none⟩ 1 c (bunL x) Tryz.underlying37 size_bun
   (by rw [bunL_len, show Nat.min 1 (l.length + 1 - i) = 1 by simp only [Nat.min_def]; split <;> omega])
   (fun j v hj => by
     rw [Addr.add_lit, hWc, hW1, World.cell?_setCells_out g _ _ _ _ (fun h _ => absurd h hxb)]
     exact hvs j v hj)
   (fun j hj => by rw [bunL_len] at hj; rw [hWc, Nat.add_assoc]; exact hsp1 _ (by omega)) (fun j hj => by rw [hWf, hW1, World.frozen?_setCells]; exact hfz _) (bunL_one x)
  rwa [show Nat.min 1 (l.length + 1 - i) = 1 by simp only [Nat.min_def]; split <;> omega] at this
 rw [← hW1] at hcp1
 have HW1 := hid hW1
 clear hb hsz hr hcs hsp hfz hvs hkc hx hdl hsp1 hW1 hlen
 have mixed : prog.follows .mixedOrders = true := by kernel_rfl
 go_enter Tryz.func141, Tryz.ntmps141
 go_wp2_with (simp only [hov])
 go_region_law_o (refine step_copy_runK rfl _ _ 37 37 rfl _ _ (by simp [Act.eval, Act.put]) (by simp [Act.eval, Act.put]) (hcp1 _ _ _) ?_)
 go_wp2_with (at_builtin; refine wpList_copy_runK _ rfl _ _ 37 37 rfl _ _ rfl rfl (hcp2 _ (fun _ => rfl) (fun _ => rfl) _ _) ?_)
 go_ret
 exact ⟨rfl, by rw [HW1.out]⟩
theorem insert_grow (g off cap : Nat) (l : List Bun) (i : Nat) (x : Bun) (xb c : Nat) (tx : TypeId) (w : World) (h : Sl w 32 11 (.slice (some ⟨g, off, none⟩) l.length cap) l.length (bunCells l)) (hl : l.length ≤ 1000000) (hi : i < l.length) (hroom : cap < l.length + 1)
 (hx : w.heap[xb]? = some (.cells (bunL x).toArray tx (0, 0))) :
 Calls prog 141 #[.slice (some ⟨g, off, none⟩) l.length cap, int i64 (i : Nat), .slice (some ⟨xb, 0, none⟩) 1 c] w fun e w' => ∃ (G : Nat) (ROW : Array Value), e = .returned (.slice (some ⟨w.heap.size, 0, none⟩) (l.length + 1) G) ∧ l.length + 1 ≤ G ∧ G ≤ maxLen ∧ G * 11 = ROW.size ∧ (∀ (j : Nat) (u : Value), ((bunCells l).take (i * 11))[j]? = some u → ROW[j]? = some u) ∧
  w' = (((w.alloc (.cells ROW 32)).drew.setCells w.heap.size (i * 11) (bunL x)).drew).setCells w.heap.size ((i + 1) * 11) (bunCells (l.drop i)) := by
 obtain ⟨i0, hi0, hz0, hzs, hzb⟩ := info_parts info_bunJ
 obtain ⟨hlen, ⟨h0, _⟩ | ⟨g', off', cap', cur, hv, hb, hn, hc, hsz, hr⟩⟩ := h
 · cases h0
 simp only [Value.slice.injEq, Option.some.injEq, Addr.mk.injEq, and_true, true_and] at hv
 obtain ⟨⟨rfl, rfl⟩, rfl⟩ := hv
 have hcs : ∀ j v, (bunCells l)[j]? = some v → w.cell? ⟨g, off + j, none⟩ = some v := fun j v hj => by simp [World.cell?, hb, hr j v hj]
 have hvs : ∀ j v, (bunL x)[j]? = some v → w.cell? ⟨xb, 0 + j, none⟩ = some v := fun j v hj => by simp [World.cell?, hx]; exact hj
 have hbw : g < w.heap.size := (Array.getElem?_eq_some_iff.1 hb).1
 have hvw : xb < w.heap.size := (Array.getElem?_eq_some_iff.1 hx).1
 have hbl : (bunCells l).length = l.length * 11 := bunCells_len l
 have hle : (i * 11) ≤ l.length * 11 := Nat.mul_le_mul_right _ (by omega)
 have hold : (Builtin.firstCells i0.size i (.slice (some ⟨g, off, none⟩) i cap)).run prog w.drew = .ok ((bunCells l).take (i * 11)).toArray w.drew := by
  rw [hzs]
  exact run_firstCells_some w.drew 11 i ⟨g, off, none⟩ i cap ((bunCells l).take (i * 11)) (by rw [List.length_take]; omega) (fun j v hj => by
   rw [Addr.add_lit]
   rw [List.getElem?_take] at hj
   split at hj
   · exact hcs j v hj
   · cases hj)
 have hkk : (l.length : Int) + 1 - (i : Int) = ((l.length + 1 - i : Nat) : Int) := by omega
 have hik : i + (l.length + 1 - i) = l.length + 1 := by omega
 have hrz : ∀ ty, (Builtin.append_ #[37, 3] ty #[.slice (some ⟨g, off, none⟩) i cap, int i64 ((l.length : Int) + 1 - (i : Int))]).run prog w =
  .ok (.slice (some ⟨w.heap.size, 0, none⟩) (l.length + 1) (grownCap w (l.length + 1) cap 32)) (w.drew.alloc (.cells (((bunCells l).take (i * 11)).toArray ++ Builtin.zeroCells (Value.agg #[int i64 0, int i64 0, int i64 0, int i64 0, int i64 0, int i64 0, int i64 0, int i64 0, int i64 0, int i64 0, int i64 0]).cells (l.length + 1 - i) ++ Builtin.zeroCells (Value.agg #[int i64 0, int i64 0, int i64 0, int i64 0, int i64 0, int i64 0, int i64 0, int i64 0, int i64 0, int i64 0, int i64 0]).cells (grownCap w (l.length + 1) cap 32 - (l.length + 1))) 32)) := fun ty => by
  have h := Lib.run_append_grow_zeros w 37 3 ty 32 i0 _ .i64 .i64 Tryz.underlying37 Tryz.underlying3 hi0 hz0 (some ⟨g, off, none⟩) i cap ((bunCells l).take (i * 11)) hold (l.length + 1 - i) (by omega) (by omega) (by omega) (by omega) (by rw [hzb]; omega) (by rw [hzb, hik]; exact growslice_fits hroom (by omega))
  rw [hik] at h
  rw [hkk]
  exact h
 obtain ⟨G, hG⟩ : ∃ G, G = grownCap w (l.length + 1) cap 32 := ⟨_, rfl⟩
 obtain ⟨ROW, hROW⟩ : ∃ ROW : Array Value, ROW = ((bunCells l).take (i * 11)).toArray ++ Builtin.zeroCells (Value.agg #[int i64 0, int i64 0, int i64 0, int i64 0, int i64 0, int i64 0, int i64 0, int i64 0, int i64 0, int i64 0, int i64 0]).cells (l.length + 1 - i) ++ Builtin.zeroCells (Value.agg #[int i64 0, int i64 0, int i64 0, int i64 0, int i64 0, int i64 0, int i64 0, int i64 0, int i64 0, int i64 0, int i64 0]).cells (G - (l.length + 1)) := ⟨_, rfl⟩
 rw [← hG] at hrz
 rw [← hROW] at hrz
 have hGn : l.length + 1 ≤ G := by rw [hG]; exact grownCap_ge w _ _ _
 have hGm : G ≤ maxLen := by rw [hG]; exact grownCap_le_maxLen w _ _ _ (by unfold maxLen; omega)
 have hz11 : (Value.agg #[int i64 0, int i64 0, int i64 0, int i64 0, int i64 0, int i64 0, int i64 0, int i64 0, int i64 0, int i64 0, int i64 0]).cells.size = 11 := rfl
 have hRs : G * 11 = ROW.size := by
  rw [hROW, Array.size_append, Array.size_append, size_zeroCells, size_zeroCells, hz11, List.size_toArray, List.length_take, hbl]
  omega
 have hRl : (l.length + 1) * 11 ≤ ROW.size := by rw [← hRs]; exact Nat.mul_le_mul_right _ hGn
 have hRt : ∀ (j : Nat) (u : Value), ((bunCells l).take (i * 11))[j]? = some u → ROW[j]? = some u := fun j u hj => by
  have hlt := (List.getElem?_eq_some_iff.1 hj).1
  rw [hROW, Array.getElem?_append_left (by rw [Array.size_append, List.size_toArray]; omega), Array.getElem?_append_left (by rw [List.size_toArray]; exact hlt)]
  simpa using hj
 obtain ⟨W1, hW1⟩ : ∃ W1, W1 = w.drew.alloc (.cells ROW 32) := ⟨_, rfl⟩
 rw [← hW1] at hrz
 have hN : ∀ j, j < (l.length + 1) * 11 → (W1.cell? ⟨w.heap.size, j, none⟩).isSome = true := fun j hj => by
  rw [hW1, World.cell?_alloc_at (w := w.drew) ROW _ w.heap.size j rfl, Array.getElem?_eq_getElem (by omega)]; rfl
 have hNf : ∀ j, W1.frozen? ⟨w.heap.size, j, none⟩ = false := fun j => by rw [hW1]; exact World.frozen?_alloc_at (w := w.drew) ROW _ w.heap.size j rfl
 have hOb : ∀ j v, w.cell? ⟨g, j, none⟩ = some v → W1.cell? ⟨g, j, none⟩ = some v := fun j v h => by rw [hW1, World.cell?_alloc_past (w := w.drew) _ g j hbw]; exact h
 have hOv : ∀ j v, w.cell? ⟨xb, j, none⟩ = some v → W1.cell? ⟨xb, j, none⟩ = some v := fun j v h => by rw [hW1, World.cell?_alloc_past (w := w.drew) _ xb j hvw]; exact h
 have hcpA : ∀ (W : World), (∀ x, W.cell? x = W1.cell? x) → (∀ x, W.frozen? x = W1.frozen? x) → ∀ ty dc, (Builtin.copy_ #[37, 37] ty #[.slice (some ⟨w.heap.size, i * 11, none⟩) (l.length + 1 - i) dc, .slice (some ⟨xb, 0, none⟩) 1 c]).run prog W = .ok (goInt 1) (W.setCells w.heap.size (i * 11) (bunL x)) := fun W hWc hWf ty dc => by
  have := run_copyK (P := prog) W 37 37 ty 32 11 w.heap.size (i * 11) (l.length + 1 - i) dc ⟨xb, 0, none⟩ 1 c (bunL x) Tryz.underlying37 size_bun
   (by rw [bunL_len, show Nat.min 1 (l.length + 1 - i) = 1 by simp only [Nat.min_def]; split <;> omega])
   (fun j v hj => by rw [Addr.add_lit, hWc]; exact hOv _ v (hvs j v hj))
   (fun j hj => by rw [bunL_len] at hj; rw [hWc]; exact hN _ (by omega)) (fun j hj => by rw [hWf]; exact hNf _) (bunL_one x)
  rwa [show Nat.min 1 (l.length + 1 - i) = 1 by simp only [Nat.min_def]; split <;> omega] at this
 have hG63 : G ≤ 9223372036854775807 := by unfold maxLen at hGm; omega
 have hGi : ¬ (G = i) := by omega
 have hGim : ¬ (G = i + 1) := by omega
 have hci : ¬ (cap = i) := by omega
 have hbN : g ≠ w.heap.size := by omega
 have hdl : (bunCells (l.drop i)).length = (l.length - i) * 11 := by rw [bunCells_len, List.length_drop]
 have hcpB : ∀ (W : World), (∀ y, W.cell? y = (W1.setCells w.heap.size (i * 11) (bunL x)).cell? y) → (∀ y, W.frozen? y = (W1.setCells w.heap.size (i * 11) (bunL x)).frozen? y) → ∀ ty dc sc, (Builtin.copy_ #[37, 37] ty #[.slice (some ⟨w.heap.size, (i + 1) * 11, none⟩) (l.length - i) dc, .slice (some ⟨g, off + i * 11, none⟩) (l.length - i) sc]).run prog W = .ok (goInt ((l.length - i : Nat) : Int)) (W.setCells w.heap.size ((i + 1) * 11) (bunCells (l.drop i))) := fun W hWc hWf ty dc sc => by
  have := run_copyK (P := prog) W 37 37 ty 32 11 w.heap.size ((i + 1) * 11) (l.length - i) dc ⟨g, off + i * 11, none⟩ (l.length - i) sc (bunCells (l.drop i)) Tryz.underlying37 size_bun
   (by rw [hdl]; congr 1; simp only [Nat.min_def]; split <;> omega)
   (fun j v hj => by
     rw [Addr.add_lit, hWc, World.cell?_setCells_out _ _ _ _ _ (fun h _ => absurd h hbN), Nat.add_assoc]
     exact hOb _ v (hcs (i * 11 + j) v (by rwa [bun_drop, List.getElem?_drop] at hj)))
   (fun j hj => by rw [hdl] at hj; rw [hWc]; exact isSome_setCells _ _ _ _ (fun t ht => by rw [bunL_len] at ht; exact hN _ (by omega)) _ (hN _ (by omega)))
   (fun j hj => by rw [hWf, World.frozen?_setCells]; exact hNf _) (bun_one _)
  rwa [show Nat.min (l.length - i) (l.length - i) = l.length - i by simp only [Nat.min_def]; split <;> omega] at this
 subst hW1
 have hA : (w.alloc (.cells ROW 32)).drew = w.drew.alloc (.cells ROW 32) := rfl
 have hdc : ∀ (W : World) y, W.drew.cell? y = W.cell? y := fun _ _ => rfl
 have hdf : ∀ (W : World) y, W.drew.frozen? y = W.frozen? y := fun _ _ => rfl
 have hE1 : ∀ y, ((w.alloc (.cells ROW 32)).drew).cell? y = (w.drew.alloc (.cells ROW 32)).cell? y := fun y => by rw [hA]
 have hE2 : ∀ y, ((w.alloc (.cells ROW 32)).drew).frozen? y = (w.drew.alloc (.cells ROW 32)).frozen? y := fun y => by rw [hA]
 have hF1 : ∀ y, (((w.alloc (.cells ROW 32)).drew.setCells w.heap.size (i * 11) (bunL x)).drew).cell? y = ((w.drew.alloc (.cells ROW 32)).setCells w.heap.size (i * 11) (bunL x)).cell? y := fun y => by rw [hdc, hA]
 have hF2 : ∀ y, (((w.alloc (.cells ROW 32)).drew.setCells w.heap.size (i * 11) (bunL x)).drew).frozen? y = ((w.drew.alloc (.cells ROW 32)).setCells w.heap.size (i * 11) (bunL x)).frozen? y := fun y => by rw [hdf, hA]
 have hw1 : IntKind.i64.wrap ((i : Int) + 1) = (i : Int) + 1 := by rw [IntKind.wrap_i64]; omega
 have hw2 : IntKind.i64.wrap ((l.length : Int) + 1) = (l.length : Int) + 1 := by rw [IntKind.wrap_i64]; omega
 have hw3 : IntKind.i64.wrap ((l.length : Int) + 1 - (i : Int)) = (l.length : Int) + 1 - (i : Int) := by rw [IntKind.wrap_i64]; omega
 have hz2 : ¬ ((i : Int) = (l.length : Int)) := by omega
 have hb1 : (0 : Int) ≤ (i : Int) + 1 := by omega
 have hb3 : (i : Int) ≤ (l.length : Int) + 1 := by omega
 have hb5 : (cap : Int) < (l.length : Int) + 1 := by omega
 have hb6 : (i : Int) + 1 ≤ (l.length : Int) + 1 := by omega
 have hb7 : (i : Int) ≤ (cap : Int) := by omega
 have hb8 : i ≤ l.length := by omega
 have htn : ((i : Int) + 1).toNat = i + 1 := by omega
 have HF := hid (And.intro hGn (And.intro hGm (And.intro hRs hRt)))
 clear hA hdc hdf hkk hik hold hROW hG hRl hb hn hc hsz hr hcs hvs hx hlen hle hbl hGn hGm hRs hRt hz11 hN hNf hOb hOv hdl
 have mixed : prog.follows .mixedOrders = true := by kernel_rfl
 go_enter Tryz.func141, Tryz.ntmps141
 go_wp2_with (first
  | (at_builtin; refine Lib.wpList_append_run _ rfl _ _ _ _ rfl _ _ rfl rfl _ _ (hrz _) ?_)
  | (at_builtin; refine wpList_copy_runK _ rfl _ _ 37 37 rfl _ _ rfl rfl (hcpA _ hE1 hE2 _ _) ?_))
 go_region_law_o (refine step_copy_runK rfl _ _ 37 37 rfl (.slice (some ⟨w.heap.size, (i + 1) * 11, none⟩) (l.length - i) (G - (i + 1))) (.slice (some ⟨g, off + i * 11, none⟩) (l.length - i) (cap - i)) (by simp [Act.eval, Act.put]) (by simp [Act.eval, Act.put]) (hcpB _ hF1 hF2 3 (G - (i + 1)) (cap - i)) ?_)
 go_wp2_with fail
 go_ret
 exact ⟨G, ROW, rfl, HF.out.1, HF.out.2.1, HF.out.2.2.1, HF.out.2.2.2, rfl⟩
theorem sl_ins {W : World} {g off cap : Nat} {l : List Bun} {i : Nat} {x : Bun} {fin : Array Value} (hi : i ≤ l.length) (hb : W.heap[g]? = some (.cells fin 32 (0, 0))) (hn : l.length + 1 ≤ cap) (hc : cap ≤ maxLen) (hsz : off + cap * 11 ≤ fin.size)
 (h1 : ∀ (j : Nat) (u : Value), ((bunCells l).take (i * 11))[j]? = some u → fin[off + j]? = some u) (h2 : ∀ (j : Nat) (u : Value), (bunL x)[j]? = some u → fin[off + i * 11 + j]? = some u) (h3 : ∀ (j : Nat) (u : Value), (bunCells (l.drop i))[j]? = some u → fin[off + (i + 1) * 11 + j]? = some u) :
 Sl W 32 11 (.slice (some ⟨g, off, none⟩) (insF l i x).length cap) (insF l i x).length (bunCells (insF l i x)) := by
 have hln : (insF l i x).length = l.length + 1 := by unfold insF; simp; omega
 refine ⟨bunCells_len _, .inr ⟨g, off, cap, fin, rfl, hb, by omega, hc, hsz, fun j u hj => ?_⟩⟩
 have hbl : ((bunCells l).take (i * 11)).length = i * 11 := by
  have := Nat.mul_le_mul_right 11 hi
  rw [List.length_take, bunCells_len]; omega
 rw [bun_ins, List.append_assoc] at hj
 by_cases a1 : j < i * 11
 · rw [List.getElem?_append_left (by omega)] at hj
   exact h1 j u hj
 · rw [List.getElem?_append_right (by omega), hbl] at hj
   by_cases a2 : j < i * 11 + 11
   · rw [List.getElem?_append_left (by rw [bunL_len]; omega)] at hj
     have := h2 _ u hj
     rwa [show off + i * 11 + (j - i * 11) = off + j by omega] at this
   · rw [List.getElem?_append_right (by rw [bunL_len]; omega), bunL_len, ← bun_drop] at hj
     have := h3 _ u hj
     rwa [show off + (i + 1) * 11 + (j - i * 11 - 11) = off + j by omega] at this
theorem insert_any (v : Value) (l : List Bun) (i : Nat) (x : Bun) (xb c : Nat) (tx : TypeId) (w : World) (h : Sl w 32 11 v l.length (bunCells l)) (hl : l.length ≤ 1000) (hi : i ≤ l.length) (hx : w.heap[xb]? = some (.cells (bunL x).toArray tx (0, 0))) (hxb : ∀ g, v.ownBlock = some g → xb ≠ g) :
 Calls prog 141 #[v, int i64 (i : Nat), .slice (some ⟨xb, 0, none⟩) 1 c] w fun e w' => ∃ v', e = .returned v' ∧ InsQ w w' v v' (insF l i x) := by
 by_cases he : i = l.length
 · subst he
   have e : insF l l.length x = l ++ [x] := by unfold insF; simp
   rw [e]
   exact insert_end v l x xb c w h hl (fun j u hj => by simp [World.cell?, hx]; exact hj)
 have hi' : i < l.length := by omega
 obtain ⟨hlen, ⟨rfl, h0⟩ | ⟨g, off, cap, cur, rfl, hb, hn, hc, hsz, hr⟩⟩ := id h
 · omega
 have hln : (insF l i x).length = l.length + 1 := by unfold insF; simp; omega
 have hdl : (bunCells (l.drop i)).length = (l.length - i) * 11 := by rw [bunCells_len, List.length_drop]
 have hle : i * 11 ≤ l.length * 11 := Nat.mul_le_mul_right _ hi
 by_cases hroom : l.length + 1 ≤ cap
 · refine (insert_room g off cap l i x xb c tx w h (by omega) hi' hroom hx (hxb g rfl)).mono ?_
   rintro e w' ⟨rfl, rfl⟩
   have h1 : (l.length + 1) * 11 ≤ cap * 11 := Nat.mul_le_mul_right _ hroom
   obtain ⟨cur1, p1, p2, p3, p4, p5⟩ := setCells_heap g 32 (0, 0) (bunCells (l.drop i)) (off + (i + 1) * 11) w.drew cur hb (by omega)
   obtain ⟨cur2, q1, q2, q3, q4, q5⟩ := setCells_heap g 32 (0, 0) (bunL x) (off + i * 11) _ cur1 p1 (by rw [bunL_len]; omega)
   refine ⟨_, rfl, ?_, ?_, .inl rfl⟩
   · rw [← hln]
     refine sl_ins hi q1 hroom hc (by omega) (fun j u hj => ?_) q4 (fun j u hj => ?_)
     · have hj1 := (List.getElem?_eq_some_iff.1 hj).1
       rw [List.length_take] at hj1
       rw [q3 _ (by omega), p3 _ (by omega)]
       rw [List.getElem?_take, if_pos (by omega)] at hj
       exact hr j u hj
     · rw [q5 _ (by rw [bunL_len]; omega)]
       exact p4 j u hj
   · exact (Turned.of_bel (b := some g) (w := w) (w' := w.drew) (Below.drew (Below.refl _ _))).then ((setCells_turned g _ _ w.drew).then (setCells_turned g _ _ _))
 · refine (insert_grow g off cap l i x xb c tx w h (by omega) hi' (by omega) hx).mono ?_
   rintro e w' ⟨G, ROW, rfl, hG1, hG2, hRs, hRt, rfl⟩
   have h1 : (l.length + 1) * 11 ≤ G * 11 := Nat.mul_le_mul_right _ hG1
   have e1 : ((w.alloc (.cells ROW 32)).drew).heap[w.heap.size]? = some (.cells ROW 32 (0, 0)) := heap_alloc_new_at w _ _ rfl
   obtain ⟨cur1, p1, p2, p3, p4, p5⟩ := setCells_heap w.heap.size 32 (0, 0) (bunL x) (i * 11) _ ROW e1 (by rw [bunL_len]; omega)
   have t1 := setCells_turned w.heap.size (bunL x) (i * 11) ((w.alloc (.cells ROW 32)).drew)
   generalize ((w.alloc (.cells ROW 32)).drew.setCells w.heap.size (i * 11) (bunL x)) = wA at *
   have p1' : wA.drew.heap[w.heap.size]? = some (.cells cur1 32 (0, 0)) := p1
   obtain ⟨cur2, q1, q2, q3, q4, q5⟩ := setCells_heap w.heap.size 32 (0, 0) (bunCells (l.drop i)) ((i + 1) * 11) wA.drew cur1 p1' (by omega)
   refine ⟨_, rfl, ?_, ?_, .inr ⟨_, rfl, Nat.le_refl _⟩⟩
   · rw [← hln]
     refine sl_ins (off := 0) hi q1 hG1 hG2 (by omega) (fun j u hj => ?_) (fun j u hj => ?_) (fun j u hj => ?_)
     · have hj1 := (List.getElem?_eq_some_iff.1 hj).1
       rw [List.length_take] at hj1
       rw [q3 _ (by omega), p3 _ (by omega), Nat.zero_add]
       exact hRt j u hj
     · have hj1 := (List.getElem?_eq_some_iff.1 hj).1
       rw [bunL_len] at hj1
       rw [q3 _ (by omega), Nat.zero_add]
       exact p4 j u hj
     · rw [Nat.zero_add]
       exact q4 j u hj
   · have t2 := setCells_turned w.heap.size (bunCells (l.drop i)) ((i + 1) * 11) wA.drew
     have hb1 : Below w.heap.size w ((w.alloc (.cells ROW 32)).drew) := bg
     have hb2 : Below w.heap.size w wA := Turned.below_new t1 (fun q hq => by cases hq; exact Nat.le_refl _) hb1 hb1.size
     have hb3 : Below w.heap.size w wA.drew := Below.drew hb2
     generalize wA.drew = wB at *
     have hb4 := Turned.below_new t2 (fun q hq => by cases hq; exact Nat.le_refl _) hb3 hb3.size
     exact Turned.of_bel hb4
end Go.Proofs.YtoimjjhopljdmaaGreat
