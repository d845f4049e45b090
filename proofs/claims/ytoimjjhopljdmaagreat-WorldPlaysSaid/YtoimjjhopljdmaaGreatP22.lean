/- Texts WoR WoF WoU WoV RegW: what the claim reaches of them. Conditions stand at each theorem. -/
import Derived.Test.YtoimjjhopljdmaaGreatP19
import Derived.Test.YtoimjjhopljdmaaGreatP21
set_option maxRecDepth 100000
set_option maxHeartbeats 8000000
namespace Go.Proofs.YtoimjjhopljdmaaGreat
open Go.RowKit
open Go.Proofs.Tryz (prog)
open Go.Value (int)
open Go.IntKind (i64)
open Go.Lib (hid)
section
def rdO {β : Type} (enc : β → List Value) (v : Value) (l : List β) : Ob where
 holds W o := RIb enc W v l ∧ ∀ x, o x ↔ v.ownBlock = some x
 lt := by
  rintro w o ⟨h1, h2⟩ b hb
  exact h1.2.1 b ((h2 b).1 hb)
 keep := by
  rintro w w' o ⟨⟨⟨p, cap, rfl, h1, h2, h3, h4⟩, h5, h6⟩, h0⟩ hk
  have hs : ∀ g, Value.ownBlock (.slice p l.length cap) = some g → g < w'.heap.size := fun g hg => by
   have h7 := hk g ((h0 g).2 hg)
   have h8 := h5 g hg
   rw [Array.getElem?_eq_getElem h8] at h7
   exact (Array.getElem?_eq_some_iff.1 h7).1
  refine ⟨⟨⟨p, cap, rfl, h1, h2, h3, fun hn => ?_⟩, hs, h6⟩, h0⟩
  obtain ⟨blk, off, rfl, h7, h8⟩ := h4 hn
  exact ⟨blk, off, rfl, hs blk rfl, fun t u hu => (World.cell?_of_block (w := w) (a := ⟨blk, off + t, none⟩) (hk blk ((h0 blk).2 rfl))).trans (h8 t u hu)⟩
def rworldO (r q R : Nat) (c : Cfg) (kk : Int) (X : Wo) : Ob where
 holds W o := ∃ v, ((boxO r #[.pointer (some ⟨q, 0, none⟩), v] 123).and ((rdeskO q R c kk X.D).and (slO 32 11 v X.L.length (cellsR bunL X.L)))).holds W o
 lt := by rintro w o ⟨v, h⟩; exact Ob.lt _ w o h
 keep := by rintro w w' o ⟨v, h⟩ hk; exact ⟨v, Ob.keep _ w w' o h hk⟩
section
variable {w0 W : World} {F : Ob} {r q R : Nat} {c : Cfg} {kk : Int} {X : Wo}
theorem ropen (h : Own w0 W ((rworldO r q R c kk X).and F)) : ∃ v, Own w0 W ((boxO r #[.pointer (some ⟨q, 0, none⟩), v] 123).and ((rdeskO q R c kk X.D).and ((slO 32 11 v X.L.length (cellsR bunL X.L)).and F))) := by
 obtain ⟨o, ⟨a, f, ⟨v, h1⟩, h2, h3, h4⟩, h5⟩ := h
 have h' : Own w0 W (((boxO r #[.pointer (some ⟨q, 0, none⟩), v] 123).and ((rdeskO q R c kk X.D).and (slO 32 11 v X.L.length (cellsR bunL X.L)))).and F) := ⟨o, ⟨a, f, h1, h2, h3, h4⟩, h5⟩
 exact ⟨v, h'.assoc.inner fun _ h => and_assoc' h⟩
theorem rshut {v : Value} (h : Own w0 W ((boxO r #[.pointer (some ⟨q, 0, none⟩), v] 123).and ((rdeskO q R c kk X.D).and ((slO 32 11 v X.L.length (cellsR bunL X.L)).and F)))) : Own w0 W ((rworldO r q R c kk X).and F) := by
 have h' := (h.inner (G := ((rdeskO q R c kk X.D).and (slO 32 11 v X.L.length (cellsR bunL X.L))).and F) fun _ h => and_shut' h).assoc'
 obtain ⟨o, ⟨a, f, h1, h2, h3, h4⟩, h5⟩ := h'
 exact ⟨o, ⟨a, f, ⟨v, h1⟩, h2, h3, h4⟩, h5⟩
theorem Own.rd {β : Type} {enc : β → List Value} {v : Value} {l : List β} (h : Own w0 W ((rdO enc v l).and F)) : RIb enc W v l := by
 obtain ⟨o, ⟨a, f, ⟨h1, _⟩, _⟩, _⟩ := h; exact h1
theorem RunM.made {own gone : List Bun} {dead : List Nid} {e : Ending} {W' : World} (h : RunM W own gone dead e W') : ∃ pa ca pb cb pd cd, e = .returned (.agg #[.slice pa own.length ca, .slice pb gone.length cb, .slice pd dead.length cd]) ∧ Below W.heap.size W W' ∧ Made W W' ((slO 32 11 (.slice pa own.length ca) own.length (cellsR bunL own)).and (rdO nidL (.slice pd dead.length cd) dead)) := by
 obtain ⟨va, vb, vd, h1, h2, h3, h4, h5, h6⟩ := h
 obtain ⟨pa, ca, rfl⟩ := sl_frm h2.1
 obtain ⟨pb, cb, rfl⟩ := sl_frm h3.1
 have h4' := h4
 obtain ⟨⟨pd, cd, rfl, _⟩, _⟩ := h4'
 refine ⟨pa, ca, pb, cb, pd, cd, h1, h2.2.1, fun x => Value.ownBlock (.slice pa own.length ca) = some x ∨ Value.ownBlock (.slice pd dead.length cd) = some x, ⟨fun x => Value.ownBlock (.slice pa own.length ca) = some x, fun x => Value.ownBlock (.slice pd dead.length cd) = some x, ⟨h2.1, fun _ => Iff.rfl⟩, ⟨h4, fun _ => Iff.rfl⟩, h6, fun _ => Iff.rfl⟩, h2.2.1, fun x hx => hx.elim (h2.2.2 x) (h5 x)⟩
theorem Own.rcfg {D : Dk} (h : Own w0 W ((rdeskO q R c kk D).and F)) : W.cell? ⟨q, 0, none⟩ = some (int i64 c.cols) ∧ W.cell? ⟨q, 1, none⟩ = some (int i64 c.rows) ∧ W.cell? ⟨q, 2, none⟩ = some (int i64 c.side) ∧ W.cell? ⟨q, 3, none⟩ = some (int i64 c.radius) ∧ W.cell? ⟨q, 4, none⟩ = some (int i64 c.speed) ∧ W.cell? ⟨q, 5, none⟩ = some (int i64 c.ids) ∧ W.cell? ⟨q, 6, none⟩ = some (int i64 c.queue) := by
 obtain ⟨o, ⟨a, f, ⟨r, hp, hR, hd, ha⟩, _⟩, _⟩ := h
 subst hp hR
 have c0 := hd.cell 0; have c1 := hd.cell 1; have c2 := hd.cell 2; have c3 := hd.cell 3; have c4 := hd.cell 4; have c5 := hd.cell 5; have c6 := hd.cell 6
 simp [rdeskC] at c0 c1 c2 c3 c4 c5 c6
 exact ⟨c0, c1, c2, c3, c4, c5, c6⟩
theorem Own.sixth {A B C D E G : Ob} (h : Own w0 W (A.and (B.and (C.and (D.and (E.and (G.and F))))))) : Own w0 W (G.and (A.and (B.and (C.and (D.and (E.and F)))))) := (h.inner fun _ => and_in' fun _ => and_in' fun _ => and_in' fun _ => and_swap').fifth
theorem rclose_g {D : Dk} (h : Own w0 W ((rdeskO q R c kk D).and F)) (hkk : kk ≤ 1000000) (v : Value) (ln : List Nid) (hv : RIn nidL W v ln) (hav : ∀ f, F.holds W f → ∀ g, v.ownBlock = some g → f g) (hl : ln.length ≤ 1000) :
 Calls prog 68 #[.pointer (some ⟨q, 0, none⟩), v] W fun e w' => e = .returned (.tuple #[int i64 (closeF D ln).1.1, int i64 (closeF D ln).1.2]) ∧ Own w0 w' ((rdeskO q R c (kk + ln.length) (closeF D ln).2).and F) := by
 have h' := h
 obtain ⟨o, ⟨a, f, h1, h2, h3, h4⟩, h5, h6⟩ := h
 have hna : Calls prog 68 #[.pointer (some ⟨q, 0, none⟩), v] W fun e w' => e = .returned (.tuple #[int i64 (closeF D ln).1.1, int i64 (closeF D ln).1.2]) ∧ Gone a W w' (rdeskO q R c (kk + ln.length) (closeF D ln).2) := by
  obtain ⟨dl, hp, hR, hd, ha⟩ := h1
  subst hp hR
  unfold closeF
  cases hop : D.op with
  | false =>
    rw [if_pos rfl]
    obtain ⟨p', cap, rfl, _⟩ := hv
    exact (rclose_shut W dl c kk D hd _ hop ⟨_, _, _, rfl⟩).mono fun _ _ ⟨g1, g2⟩ => ⟨g1, (RDStp.of_grown (hd.more (by omega)) g2).gone ha⟩
  | true =>
    rw [if_neg (by simp)]
    refine (rclose_ok W dl c kk D hd hkk v ln hop hv (fun hne g hg e => h3 g ((ha g).2 e) (hav f h2 g hg)) (by omega)).mono fun _ _ ⟨g1, g2⟩ => ⟨g1, ?_⟩
    obtain ⟨r', f1, f2, f3, f4⟩ := g2
    exact RDStp.gone ⟨r', f1, f2, f3, f4⟩ ha
 refine hna.mono fun e w' ⟨hr, b, q1, q2, q3⟩ => ⟨hr, ?_⟩
 refine ⟨fun x => b x ∨ f x, ⟨b, f, q1, F.keep _ _ _ h2 fun x hx => q2.block x (F.lt _ _ h2 x hx) fun e => h3 x e hx, fun x hb hf => ?_, fun x => Iff.rfl⟩, fun x hx => ?_, h6.trans (q2.below h6.size fun x hx => h5 x ((h4 x).2 (.inl hx)))⟩
 · rcases q3 x hb with e | e
   · exact h3 x e hf
   · have := F.lt _ _ h2 x hf; omega
 · rcases hx with e | e
   · exact (q3 x e).elim (fun h => h5 x ((h4 x).2 (.inl h))) fun h => Nat.le_trans h6.size h
   · exact h5 x ((h4 x).2 (.inr e))
end
theorem rwnew_ok (cols rows side radius speed ids queue : Int) (w : World) (ho : CfgOk ⟨cols, rows, side, radius, speed, ids, queue⟩) :
 Calls prog 32 #[.agg #[int i64 cols, int i64 rows, int i64 side, int i64 radius, int i64 speed, int i64 ids, int i64 queue]] w fun e w' => ∃ r q R, e = .returned (.pointer (some ⟨r, 0, none⟩)) ∧ Made w w' (rworldO r q R ⟨cols, rows, side, radius, speed, ids, queue⟩ 256 (newW ⟨cols, rows, side, radius, speed, ids, queue⟩)) := by
 have HN := hid (fun V => rdnew_ok cols rows side radius speed ids queue V ho)
 clear ho
 obtain ⟨w1, hw1, k0, hb1, g0, hsz⟩ := one_box w #[int i64 cols, int i64 rows, int i64 side, int i64 radius, int i64 speed, int i64 ids, int i64 queue] 23
 have s1 : w.heap.size < w1.heap.size := by omega
 have x0 := k0 0; simp at x0; have x1 := k0 1; simp at x1; have x2 := k0 2; simp at x2; have x3 := k0 3; simp at x3; have x4 := k0 4; simp at x4; have x5 := k0 5; simp at x5; have x6 := k0 6; simp at x6
 have HW1 := hid hw1
 have HB1 := hid hb1
 obtain ⟨z0, z1, z2⟩ := ltz s1
 clear hw1 k0 g0 hsz hb1
 go_enter Tryz.func32, Tryz.ntmps32
 go_upto_region 1 with fail
 rw [← HW1.out]
 clear HW1
 go_wp2_with fail
 refine (HN.out _).mono ?_
 rintro e w2 ⟨q, R, rfl, hm⟩
 have h2 := ((Own.nil w).grow HB1.out).made hm
 have H2 := hid h2
 clear hm h2 HN HB1
 go_wp2_with fail
 go_ret
 have hnil : Made w2 w2 (slO 32 11 (.slice none 0 0) ([] : List Bun).length (cellsR bunL [])) := made_sl ⟨rfl, .inl ⟨rfl, rfl⟩⟩ (Below.refl _ _) (fun g hg => by cases hg)
 have h3 := ((H2.out.made hnil).made (made_box w2 #[.pointer (some ⟨q, 0, none⟩), .slice none 0 0] 123)).inner fun _ h => and_swap' h
 exact ⟨_, q, R, rfl, own_made (rshut (X := newW ⟨cols, rows, side, radius, speed, ids, queue⟩) h3).fst⟩
end
section
theorem st_boxB (V : World) (b : Nat) (h11 : ∀ j, j < 11 → (V.cell? ⟨b, j, none⟩).isSome = true) (hf : ∀ j, V.frozen? ⟨b, j, none⟩ = false) (hb : b < V.heap.size) (x : Bun) :
 ∃ V2, (∀ d os, (stB ⟨b, 0, none⟩ (.agg (bunL x).toArray)).run prog (more V d os) = .ok () (more V2 d os)) ∧ (∀ j v, (bunL x)[j]? = some v → V2.cell? ⟨b, j, none⟩ = some v) ∧ V2.heap.size = V.heap.size ∧ Turned V V2 (some b) := by
 have key : ∀ W : World, (∀ j, j < 11 → (W.cell? ⟨b, j, none⟩).isSome = true) → (∀ j, W.frozen? ⟨b, j, none⟩ = false) → (stB ⟨b, 0, none⟩ (.agg (bunL x).toArray)).run prog W = .ok () (W.setCells b 0 (bunL x)) := fun W hw hv => by
  have h := Go.run_storeCells_cells (P := prog) b 0 (bunL x) 0 W (fun j hj => by rw [show 0 + 0 + j = j by omega]; exact hw j hj) (fun j _ => hv _) (bunL_one x)
  exact stB_of rfl (by simpa using h)
 have hin := World.cell?_setCells_in b (bunL x) 0 V fun j hj => by rw [Nat.zero_add]; exact h11 j hj
 refine ⟨V.setCells b 0 (bunL x), fun d os => ?_, fun j v hj => ?_, size_setCells _ _ _ _, setCells_turned _ _ _ _⟩
 · rw [key _ (fun j hj => by rw [more_cell _ _ _ _ hb]; exact h11 j hj) (fun j => by rw [more_frozen _ _ _ _ hb]; exact hf j), more_setCells _ _ _ _ _ _ hb]
 · have hlt := (List.getElem?_eq_some_iff.1 hj).1
   have := hin j hlt
   rw [Nat.zero_add] at this
   rw [this, ← hj, List.getElem?_eq_getElem hlt]
theorem ldB_at {W : World} {b o : Nat} {x : Bun} (h : ∀ j v, (bunL x)[j]? = some v → W.cell? ⟨b, o + j, none⟩ = some v) : (ldB ⟨b, o, none⟩).run prog W = .ok (.agg (bunL x).toArray) W :=
 ldB_of (Go.Proofs.run_loadCellsFrom_list prog W ⟨b, o, none⟩ (bunL x) 11 rfl (fun j v hj => by rw [Addr.add_lit]; exact h j v hj))
theorem results_bb {fn : Func} {a b : Tmp} {tmps : Array Value} {W : World} {ad : Addr} {v vb : Value} (h : fn.results = #[.cell a 32, .tmp b]) (ha : tmps.getD a undef = .pointer (some ad)) (hb : tmps.getD b undef = vb) (hl : (ldB ad).run prog W = .ok v W) :
 (results fn tmps).run prog W = .ok (.tuple #[v, vb]) W := by
 unfold results
 rw [h]
 simp only [List.mapM_toArray, List.mapM_cons, List.mapM_nil, ha, hb, loadVar_ldB]
 simp [asAddr, hl, go_sem]
attribute [local go_sem ↓] loadVar_ldB storeVar_stB
theorem wfind_no {w0 W : World} {F : Ob} {p : Nat} {c : Cfg} {X : Wo} (h : Own w0 W ((worldO p c X).and F)) (s i g : Int) (hl : X.L.length ≤ 1000000) {x : Int} (hfb : findB s i g X.L 0 = (x, false)) :
 Calls prog 28 #[.pointer (some ⟨p, 0, none⟩), .agg #[int i64 s, int i64 i, int i64 g]] W fun e w' => e = .returned (.tuple #[.agg #[int i64 0, int i64 0, int i64 0, int i64 0, int i64 0, int i64 0, int i64 0, int i64 0, int i64 0, int i64 0, int i64 0], .bool false]) ∧ Below W.heap.size W w' := by
 obtain ⟨d, v, h⟩ := wopen h
 have hb := h.box
 have x1 := hb.1 1
 simp at x1
 have lp := hb.2.2.1
 obtain ⟨hs, _⟩ := h.third.sl
 have hin := BIn.of_sl hs
 obtain ⟨pv, cv, rfl⟩ := sl_frm hs
 obtain ⟨w1, hw1, hb1, k0, k1, g0, g1, hsz⟩ := two_boxes W #[int i64 s, int i64 i, int i64 g] #[int i64 0, int i64 0, int i64 0, int i64 0, int i64 0, int i64 0, int i64 0, int i64 0, int i64 0, int i64 0, int i64 0] 30 32
 have HFI := hid (fun V (hV : Below w1.heap.size w1 V) => find_any (.slice pv X.L.length cv) X.L s i g V ((hin.keep hb1).keep hV) hl)
 rw [hfb] at HFI
 simp only at HFI
 have x1' := (hb1.cell (p := ⟨p, 1, none⟩) lp).trans x1
 have lp1 := Nat.lt_of_lt_of_le lp hb1.size
 have s6 : W.heap.size < w1.heap.size := by omega
 have s7 : W.heap.size + 1 < w1.heap.size := by omega
 obtain ⟨w2, hS, hq, hsz2, ht2⟩ := st_boxB w1.drew (W.heap.size + 1) (fun j hj => by rw [show w1.drew.cell? ⟨W.heap.size + 1, j, none⟩ = w1.cell? ⟨W.heap.size + 1, j, none⟩ from rfl, k1 j, Array.getElem?_eq_getElem (by simpa using hj)]; rfl) (fun j => g1 j) s7 ⟨0, 0, 0, 0, 0, 0, 0, 0, 0, 0, 0⟩
 have hS' : ∀ d os, (stB ⟨W.heap.size + 1, 0, none⟩ (.agg #[int i64 0, int i64 0, int i64 0, int i64 0, int i64 0, int i64 0, int i64 0, int i64 0, int i64 0, int i64 0, int i64 0])).run prog (more w1.drew d os) = .ok () (more w2 d os) := hS
 have hb2 : Below W.heap.size W w2 := Turned.below_new ht2 (fun q hq => by cases hq; omega) (hb1.trans (show Below W.heap.size w1 w1.drew from bg)) (by simp; omega)
 have hld : ∀ d os, (ldB ⟨W.heap.size + 1, 0, none⟩).run prog (more w2 d os) = .ok (.agg #[int i64 0, int i64 0, int i64 0, int i64 0, int i64 0, int i64 0, int i64 0, int i64 0, int i64 0, int i64 0, int i64 0]) (more w2 d os) := fun d os => ldB_at (x := ⟨0, 0, 0, 0, 0, 0, 0, 0, 0, 0, 0⟩) fun j v hj => by rw [Nat.zero_add, more_cell _ _ _ _ (by simp only; rw [hsz2]; exact s7)]; exact hq j v hj
 have HW1 := hid hw1
 have y0 := k0 0; simp at y0; have y1 := k0 1; simp at y1; have y2 := k0 2; simp at y2
 obtain ⟨z0, z1, z2⟩ := ltz lp1
 obtain ⟨z3, z4, z5⟩ := ltz s6
 clear h hb x1 lp hs hin hw1 hb1 k0 k1 g0 g1 hsz hfb hS hq hsz2 ht2
 go_enter Tryz.func28, Tryz.ntmps28
 go_upto_region 1 with fail
 rw [← HW1.out]
 go_upto_region 3 with fail
 go_region_held3 (fun W => (w1).heap.size ≤ W.heap.size ∧ ∀ b o, b < (w1).heap.size → W.cell? ⟨b, o, none⟩ = (w1).cell? ⟨b, o, none⟩) (with_reducible (repeat (first | assumption | exact s_refl _ | exact s_id _ | refine s_more _ _ ?_ | refine s_alloc _ ?_ | refine s_drew ?_))) (first | (go_at_call 63; refine belA (HFI.out _ bg) fun d2 os2 => ?_))
 go_wp2_with fail
 exact bodyPost_ret (results_bb Tryz.results28 rfl rfl (hld _ _)) rfl ⟨rfl, hb2.trans (Below.mono (B := w2.heap.size) bg hb2.size)⟩
theorem wfind_yes {w0 W : World} {F : Ob} {p : Nat} {c : Cfg} {X : Wo} (h : Own w0 W ((worldO p c X).and F)) (s i g : Int) (hl : X.L.length ≤ 1000000) {q : Nat} (us ui ug um ux uy uvx uvy uhp upw ulf : Int) (hfb : findB s i g X.L 0 = ((q : Int), true)) (hgq : X.L[q]? = some ⟨us, ui, ug, um, ux, uy, uvx, uvy, uhp, upw, ulf⟩) :
 Calls prog 28 #[.pointer (some ⟨p, 0, none⟩), .agg #[int i64 s, int i64 i, int i64 g]] W fun e w' => e = .returned (.tuple #[.agg #[int i64 us, int i64 ui, int i64 ug, int i64 um, int i64 ux, int i64 uy, int i64 uvx, int i64 uvy, int i64 uhp, int i64 upw, int i64 ulf], .bool true]) ∧ Below W.heap.size W w' := by
 obtain ⟨d, v, h⟩ := wopen h
 have hb := h.box
 have x1 := hb.1 1
 simp at x1
 have lp := hb.2.2.1
 obtain ⟨hs, _⟩ := h.third.sl
 have hin := BIn.of_sl hs
 obtain ⟨pv, cv, rfl⟩ := sl_frm hs
 obtain ⟨w1, hw1, hb1, k0, k1, g0, g1, hsz⟩ := two_boxes W #[int i64 s, int i64 i, int i64 g] #[int i64 0, int i64 0, int i64 0, int i64 0, int i64 0, int i64 0, int i64 0, int i64 0, int i64 0, int i64 0, int i64 0] 30 32
 have HFI := hid (fun V (hV : Below w1.heap.size w1 V) => find_any (.slice pv X.L.length cv) X.L s i g V ((hin.keep hb1).keep hV) hl)
 rw [hfb] at HFI
 simp only at HFI
 have x1' := (hb1.cell (p := ⟨p, 1, none⟩) lp).trans x1
 have lp1 := Nat.lt_of_lt_of_le lp hb1.size
 have s6 : W.heap.size < w1.heap.size := by omega
 have s7 : W.heap.size + 1 < w1.heap.size := by omega
 obtain ⟨w2, hS, hq, hsz2, ht2⟩ := st_boxB w1.drew (W.heap.size + 1) (fun j hj => by rw [show w1.drew.cell? ⟨W.heap.size + 1, j, none⟩ = w1.cell? ⟨W.heap.size + 1, j, none⟩ from rfl, k1 j, Array.getElem?_eq_getElem (by simpa using hj)]; rfl) (fun j => g1 j) s7 ⟨us, ui, ug, um, ux, uy, uvx, uvy, uhp, upw, ulf⟩
 have hS' : ∀ d os, (stB ⟨W.heap.size + 1, 0, none⟩ (.agg #[int i64 us, int i64 ui, int i64 ug, int i64 um, int i64 ux, int i64 uy, int i64 uvx, int i64 uvy, int i64 uhp, int i64 upw, int i64 ulf])).run prog (more w1.drew d os) = .ok () (more w2 d os) := hS
 have hb2 : Below W.heap.size W w2 := Turned.below_new ht2 (fun q hq => by cases hq; omega) (hb1.trans (show Below W.heap.size w1 w1.drew from bg)) (by simp; omega)
 have hld : ∀ d os, (ldB ⟨W.heap.size + 1, 0, none⟩).run prog (more w2 d os) = .ok (.agg #[int i64 us, int i64 ui, int i64 ug, int i64 um, int i64 ux, int i64 uy, int i64 uvx, int i64 uvy, int i64 uhp, int i64 upw, int i64 ulf]) (more w2 d os) := fun d os => ldB_at (x := ⟨us, ui, ug, um, ux, uy, uvx, uvy, uhp, upw, ulf⟩) fun j v hj => by rw [Nat.zero_add, more_cell _ _ _ _ (by simp only; rw [hsz2]; exact s7)]; exact hq j v hj
 obtain ⟨blk, off, cap', hve, hLQ⟩ := BIn.ldm (show BIn w1.drew _ _ from (hin.keep hb1).keep (show Below w1.heap.size w1 w1.drew from bg)) hgq
 simp only [Value.slice.injEq, true_and] at hve
 obtain ⟨rfl, rfl⟩ := hve
 have hLQ' : ∀ d os, (ldB ⟨blk, off + q * 11, none⟩).run prog (more w1.drew d os) = .ok (.agg #[int i64 us, int i64 ui, int i64 ug, int i64 um, int i64 ux, int i64 uy, int i64 uvx, int i64 uvy, int i64 uhp, int i64 upw, int i64 ulf]) (more w1.drew d os) := hLQ
 have hqi : (q : Int) < (X.L.length : Int) := by have := (List.getElem?_eq_some_iff.1 hgq).1; omega
 have hq0 : 0 ≤ (q : Int) := by omega
 clear hLQ hgq
 have HW1 := hid hw1
 have y0 := k0 0; simp at y0; have y1 := k0 1; simp at y1; have y2 := k0 2; simp at y2
 obtain ⟨z0, z1, z2⟩ := ltz lp1
 obtain ⟨z3, z4, z5⟩ := ltz s6
 clear h hb x1 lp hs hin hw1 hb1 k0 k1 g0 g1 hsz hfb hS hq hsz2 ht2
 go_enter Tryz.func28, Tryz.ntmps28
 go_upto_region 1 with fail
 rw [← HW1.out]
 go_upto_region 3 with fail
 go_region_held3 (fun W => (w1).heap.size ≤ W.heap.size ∧ ∀ b o, b < (w1).heap.size → W.cell? ⟨b, o, none⟩ = (w1).cell? ⟨b, o, none⟩) (with_reducible (repeat (first | assumption | exact s_refl _ | exact s_id _ | refine s_more _ _ ?_ | refine s_alloc _ ?_ | refine s_drew ?_))) (first | (go_at_call 63; refine belA (HFI.out _ bg) fun d2 os2 => ?_))
 go_wp2_with fail
 exact bodyPost_ret (results_bb Tryz.results28 rfl rfl (hld _ _)) rfl ⟨rfl, hb2.trans (Below.mono (B := w2.heap.size) bg hb2.size)⟩
end
section
attribute [local go_sem ↓] loadVar_ldB storeVar_stB
theorem rwfind_no {w0 W : World} {F : Ob} {r q0 R : Nat} {c : Cfg} {kk : Int} {X : Wo} (h : Own w0 W ((rworldO r q0 R c kk X).and F)) (s i g : Int) (hl : X.L.length ≤ 1000000) {x : Int} (hfb : findB s i g X.L 0 = (x, false)) :
 Calls prog 72 #[.pointer (some ⟨r, 0, none⟩), .agg #[int i64 s, int i64 i, int i64 g]] W fun e w' => e = .returned (.tuple #[.agg #[int i64 0, int i64 0, int i64 0, int i64 0, int i64 0, int i64 0, int i64 0, int i64 0, int i64 0, int i64 0, int i64 0], .bool false]) ∧ Below W.heap.size W w' := by
 obtain ⟨v, h⟩ := ropen h
 have hb := h.box
 have x1 := hb.1 1
 simp at x1
 have lp := hb.2.2.1
 obtain ⟨hs, _⟩ := h.third.sl
 have hin := BIn.of_sl hs
 obtain ⟨pv, cv, rfl⟩ := sl_frm hs
 obtain ⟨w1, hw1, hb1, k0, k1, g0, g1, hsz⟩ := two_boxes W #[int i64 s, int i64 i, int i64 g] #[int i64 0, int i64 0, int i64 0, int i64 0, int i64 0, int i64 0, int i64 0, int i64 0, int i64 0, int i64 0, int i64 0] 30 32
 have HFI := hid (fun V (hV : Below w1.heap.size w1 V) => rfind_any (.slice pv X.L.length cv) X.L s i g V ((hin.keep hb1).keep hV) hl)
 rw [hfb] at HFI
 simp only at HFI
 have x1' := (hb1.cell (p := ⟨r, 1, none⟩) lp).trans x1
 have lp1 := Nat.lt_of_lt_of_le lp hb1.size
 have s6 : W.heap.size < w1.heap.size := by omega
 have s7 : W.heap.size + 1 < w1.heap.size := by omega
 obtain ⟨w2, hS, hq, hsz2, ht2⟩ := st_boxB w1.drew (W.heap.size + 1) (fun j hj => by rw [show w1.drew.cell? ⟨W.heap.size + 1, j, none⟩ = w1.cell? ⟨W.heap.size + 1, j, none⟩ from rfl, k1 j, Array.getElem?_eq_getElem (by simpa using hj)]; rfl) (fun j => g1 j) s7 ⟨0, 0, 0, 0, 0, 0, 0, 0, 0, 0, 0⟩
 have hS' : ∀ d os, (stB ⟨W.heap.size + 1, 0, none⟩ (.agg #[int i64 0, int i64 0, int i64 0, int i64 0, int i64 0, int i64 0, int i64 0, int i64 0, int i64 0, int i64 0, int i64 0])).run prog (more w1.drew d os) = .ok () (more w2 d os) := hS
 have hb2 : Below W.heap.size W w2 := Turned.below_new ht2 (fun q hq => by cases hq; omega) (hb1.trans (show Below W.heap.size w1 w1.drew from bg)) (by simp; omega)
 have hld : ∀ d os, (ldB ⟨W.heap.size + 1, 0, none⟩).run prog (more w2 d os) = .ok (.agg #[int i64 0, int i64 0, int i64 0, int i64 0, int i64 0, int i64 0, int i64 0, int i64 0, int i64 0, int i64 0, int i64 0]) (more w2 d os) := fun d os => ldB_at (x := ⟨0, 0, 0, 0, 0, 0, 0, 0, 0, 0, 0⟩) fun j v hj => by rw [Nat.zero_add, more_cell _ _ _ _ (by simp only; rw [hsz2]; exact s7)]; exact hq j v hj
 have HW1 := hid hw1
 have y0 := k0 0; simp at y0; have y1 := k0 1; simp at y1; have y2 := k0 2; simp at y2
 obtain ⟨z0, z1, z2⟩ := ltz lp1
 obtain ⟨z3, z4, z5⟩ := ltz s6
 clear h hb x1 lp hs hin hw1 hb1 k0 k1 g0 g1 hsz hfb hS hq hsz2 ht2
 go_enter Tryz.func72, Tryz.ntmps72
 go_upto_region 1 with fail
 rw [← HW1.out]
 go_region_held3 (fun W => (w1).heap.size ≤ W.heap.size ∧ ∀ b o, b < (w1).heap.size → W.cell? ⟨b, o, none⟩ = (w1).cell? ⟨b, o, none⟩) (with_reducible (repeat (first | assumption | exact s_refl _ | exact s_id _ | refine s_more _ _ ?_ | refine s_alloc _ ?_ | refine s_drew ?_))) (first | (go_at_call 93; refine belA (HFI.out _ bg) fun d2 os2 => ?_))
 go_wp2_with fail
 exact bodyPost_ret (results_bb Tryz.results72 rfl rfl (hld _ _)) rfl ⟨rfl, hb2.trans (Below.mono (B := w2.heap.size) bg hb2.size)⟩
theorem rwfind_yes {w0 W : World} {F : Ob} {r q0 R : Nat} {c : Cfg} {kk : Int} {X : Wo} (h : Own w0 W ((rworldO r q0 R c kk X).and F)) (s i g : Int) (hl : X.L.length ≤ 1000000) {q : Nat} (us ui ug um ux uy uvx uvy uhp upw ulf : Int) (hfb : findB s i g X.L 0 = ((q : Int), true)) (hgq : X.L[q]? = some ⟨us, ui, ug, um, ux, uy, uvx, uvy, uhp, upw, ulf⟩) :
 Calls prog 72 #[.pointer (some ⟨r, 0, none⟩), .agg #[int i64 s, int i64 i, int i64 g]] W fun e w' => e = .returned (.tuple #[.agg #[int i64 us, int i64 ui, int i64 ug, int i64 um, int i64 ux, int i64 uy, int i64 uvx, int i64 uvy, int i64 uhp, int i64 upw, int i64 ulf], .bool true]) ∧ Below W.heap.size W w' := by
 obtain ⟨v, h⟩ := ropen h
 have hb := h.box
 have x1 := hb.1 1
 simp at x1
 have lp := hb.2.2.1
 obtain ⟨hs, _⟩ := h.third.sl
 have hin := BIn.of_sl hs
 obtain ⟨pv, cv, rfl⟩ := sl_frm hs
 obtain ⟨w1, hw1, hb1, k0, k1, g0, g1, hsz⟩ := two_boxes W #[int i64 s, int i64 i, int i64 g] #[int i64 0, int i64 0, int i64 0, int i64 0, int i64 0, int i64 0, int i64 0, int i64 0, int i64 0, int i64 0, int i64 0] 30 32
 have HFI := hid (fun V (hV : Below w1.heap.size w1 V) => rfind_any (.slice pv X.L.length cv) X.L s i g V ((hin.keep hb1).keep hV) hl)
 rw [hfb] at HFI
 simp only at HFI
 have x1' := (hb1.cell (p := ⟨r, 1, none⟩) lp).trans x1
 have lp1 := Nat.lt_of_lt_of_le lp hb1.size
 have s6 : W.heap.size < w1.heap.size := by omega
 have s7 : W.heap.size + 1 < w1.heap.size := by omega
 obtain ⟨w2, hS, hq, hsz2, ht2⟩ := st_boxB w1.drew (W.heap.size + 1) (fun j hj => by rw [show w1.drew.cell? ⟨W.heap.size + 1, j, none⟩ = w1.cell? ⟨W.heap.size + 1, j, none⟩ from rfl, k1 j, Array.getElem?_eq_getElem (by simpa using hj)]; rfl) (fun j => g1 j) s7 ⟨us, ui, ug, um, ux, uy, uvx, uvy, uhp, upw, ulf⟩
 have hS' : ∀ d os, (stB ⟨W.heap.size + 1, 0, none⟩ (.agg #[int i64 us, int i64 ui, int i64 ug, int i64 um, int i64 ux, int i64 uy, int i64 uvx, int i64 uvy, int i64 uhp, int i64 upw, int i64 ulf])).run prog (more w1.drew d os) = .ok () (more w2 d os) := hS
 have hb2 : Below W.heap.size W w2 := Turned.below_new ht2 (fun q hq => by cases hq; omega) (hb1.trans (show Below W.heap.size w1 w1.drew from bg)) (by simp; omega)
 have hld : ∀ d os, (ldB ⟨W.heap.size + 1, 0, none⟩).run prog (more w2 d os) = .ok (.agg #[int i64 us, int i64 ui, int i64 ug, int i64 um, int i64 ux, int i64 uy, int i64 uvx, int i64 uvy, int i64 uhp, int i64 upw, int i64 ulf]) (more w2 d os) := fun d os => ldB_at (x := ⟨us, ui, ug, um, ux, uy, uvx, uvy, uhp, upw, ulf⟩) fun j v hj => by rw [Nat.zero_add, more_cell _ _ _ _ (by simp only; rw [hsz2]; exact s7)]; exact hq j v hj
 obtain ⟨blk, off, cap', hve, hLQ⟩ := BIn.ldm (show BIn w1.drew _ _ from (hin.keep hb1).keep (show Below w1.heap.size w1 w1.drew from bg)) hgq
 simp only [Value.slice.injEq, true_and] at hve
 obtain ⟨rfl, rfl⟩ := hve
 have hLQ' : ∀ d os, (ldB ⟨blk, off + q * 11, none⟩).run prog (more w1.drew d os) = .ok (.agg #[int i64 us, int i64 ui, int i64 ug, int i64 um, int i64 ux, int i64 uy, int i64 uvx, int i64 uvy, int i64 uhp, int i64 upw, int i64 ulf]) (more w1.drew d os) := hLQ
 have hqi : (q : Int) < (X.L.length : Int) := by have := (List.getElem?_eq_some_iff.1 hgq).1; omega
 have hq0 : 0 ≤ (q : Int) := by omega
 clear hLQ hgq
 have HW1 := hid hw1
 have y0 := k0 0; simp at y0; have y1 := k0 1; simp at y1; have y2 := k0 2; simp at y2
 obtain ⟨z0, z1, z2⟩ := ltz lp1
 obtain ⟨z3, z4, z5⟩ := ltz s6
 clear h hb x1 lp hs hin hw1 hb1 k0 k1 g0 g1 hsz hfb hS hq hsz2 ht2
 go_enter Tryz.func72, Tryz.ntmps72
 go_upto_region 1 with fail
 rw [← HW1.out]
 go_region_held3 (fun W => (w1).heap.size ≤ W.heap.size ∧ ∀ b o, b < (w1).heap.size → W.cell? ⟨b, o, none⟩ = (w1).cell? ⟨b, o, none⟩) (with_reducible (repeat (first | assumption | exact s_refl _ | exact s_id _ | refine s_more _ _ ?_ | refine s_alloc _ ?_ | refine s_drew ?_))) (first | (go_at_call 93; refine belA (HFI.out _ bg) fun d2 os2 => ?_))
 go_wp2_with fail
 exact bodyPost_ret (results_bb Tryz.results72 rfl rfl (hld _ _)) rfl ⟨rfl, hb2.trans (Below.mono (B := w2.heap.size) bg hb2.size)⟩
def gotB (s i g : Int) : List Bun → Bun × Bool
 | [] => (zeroB, false)
 | b :: l => if 0 ≤ cmpId b.s b.i b.g s i g then (if cmpId b.s b.i b.g s i g == 0 then (b, true) else (zeroB, false)) else gotB s i g l
theorem gotB_of (s i g : Int) : ∀ (l : List Bun) (k : Nat), (∃ x, findB s i g l k = (x, false) ∧ gotB s i g l = (zeroB, false)) ∨ ∃ q b, findB s i g l k = (((k + q : Nat) : Int), true) ∧ l[q]? = some b ∧ gotB s i g l = (b, true)
 | [], k => .inl ⟨_, rfl, rfl⟩
 | b :: l, k => by
   unfold findB gotB
   by_cases h : 0 ≤ cmpId b.s b.i b.g s i g
   · rw [if_pos h, if_pos h]
     by_cases h2 : (cmpId b.s b.i b.g s i g == 0) = true
     · rw [if_pos h2, h2]; exact .inr ⟨0, b, rfl, rfl, rfl⟩
     · rw [if_neg h2]
       have h3 : (cmpId b.s b.i b.g s i g == 0) = false := by simpa using h2
       rw [h3]; exact .inl ⟨_, rfl, rfl⟩
   · rw [if_neg h, if_neg h]
     rcases gotB_of s i g l (k + 1) with h1 | ⟨q, b', h1, h2, h3⟩
     · exact .inl h1
     · exact .inr ⟨q + 1, b', by rw [h1, show k + 1 + q = k + (q + 1) by omega], by simpa using h2, h3⟩
theorem wfind_o {w0 W : World} {F : Ob} {p : Nat} {c : Cfg} {X : Wo} (h : Own w0 W ((worldO p c X).and F)) (s i g : Int) (hl : X.L.length ≤ 1000000) :
 Calls prog 28 #[.pointer (some ⟨p, 0, none⟩), .agg #[int i64 s, int i64 i, int i64 g]] W fun e w' => e = .returned (.tuple #[.agg (bunL (gotB s i g X.L).1).toArray, .bool (gotB s i g X.L).2]) ∧ Below W.heap.size W w' := by
 rcases gotB_of s i g X.L 0 with ⟨x, h1, h2⟩ | ⟨q, ⟨su, iu, gu, mu, xu, yu, vxu, vyu, hpu, pwu, lfu⟩, h1, h2, h3⟩
 · rw [h2]; exact wfind_no h s i g hl h1
 · rw [h3]; rw [Nat.zero_add] at h1; exact wfind_yes h s i g hl su iu gu mu xu yu vxu vyu hpu pwu lfu h1 h2
theorem rwfind_o {w0 W : World} {F : Ob} {r q0 R : Nat} {c : Cfg} {kk : Int} {X : Wo} (h : Own w0 W ((rworldO r q0 R c kk X).and F)) (s i g : Int) (hl : X.L.length ≤ 1000000) :
 Calls prog 72 #[.pointer (some ⟨r, 0, none⟩), .agg #[int i64 s, int i64 i, int i64 g]] W fun e w' => e = .returned (.tuple #[.agg (bunL (gotB s i g X.L).1).toArray, .bool (gotB s i g X.L).2]) ∧ Below W.heap.size W w' := by
 rcases gotB_of s i g X.L 0 with ⟨x, h1, h2⟩ | ⟨q, ⟨su, iu, gu, mu, xu, yu, vxu, vyu, hpu, pwu, lfu⟩, h1, h2, h3⟩
 · rw [h2]; exact rwfind_no h s i g hl h1
 · rw [h3]; rw [Nat.zero_add] at h1; exact rwfind_yes h s i g hl su iu gu mu xu yu vxu vyu hpu pwu lfu h1 h2
end
theorem Own.slone {w0 W : World} {F : Ob} {T : TypeId} {size n : Nat} {v : Value} {xs : List Value} (h : Own w0 W ((slO T size v n xs).and F)) {t : Nat} (ht : t < n * size) (u : Value) :
 ∃ blk off cap, v = .slice (some ⟨blk, off, none⟩) n cap ∧ blk < W.heap.size ∧ (∃ u', W.cell? ⟨blk, off + t, none⟩ = some u') ∧ W.frozen? ⟨blk, off + t, none⟩ = false ∧ Own w0 (W.setCell ⟨blk, off + t, none⟩ u) ((slO T size v n (xs.set t u)).and F) := by
 obtain ⟨hs, ho⟩ := h.sl
 have hs' := hs
 obtain ⟨_, ⟨_, h0⟩ | ⟨blk, off, cap, cur, rfl, hb, _⟩⟩ := hs'
 · subst h0; rw [Nat.zero_mul] at ht; omega
 · obtain ⟨h1, h2, h3, h4⟩ := sl_store1 hs ht u
   exact ⟨blk, off, cap, rfl, (Array.getElem?_eq_some_iff.1 hb).1, h1, h2, h.app h3 h4 (.inl rfl)⟩
theorem alike17_any (w0 w : World) (F : Ob) (p r q R : Nat) (c : Cfg) (kk : Int) (X : Wo) (h : Own w0 w ((worldO p c X).and ((rworldO r q R c kk X).and F))) (ho : CfgOk c) (hl : X.L.length ≤ 1000000) (s i g : Int) :
 Calls prog 35 #[.pointer (some ⟨p, 0, none⟩), .pointer (some ⟨r, 0, none⟩), .agg #[int i64 s, int i64 i, int i64 g]] w fun e w' => e = .returned (.bool true) ∧ Own w0 w' ((worldO p c X).and ((rworldO r q R c kk X).and F)) := by
 have h1 := (h.made (made_box w #[int i64 s, int i64 i, int i64 g] 30)).new3
 have HP := hid h1
 have HFI := hid (fun W E (hW : Own w0 W ((worldO p c X).and E)) => wfind_o hW s i g hl)
 have HRF := hid (fun W E (hW : Own w0 W ((rworldO r q R c kk X).and E)) => rwfind_o hW s i g hl)
 have HLS := hid (fun W E (hW : Own w0 W ((worldO p c X).and E)) => wlist_o hW hl)
 have HTK := hid (fun W E (hW : Own w0 W ((worldO p c X).and E)) => wt_o hW)
 have HWT := hid (fun W E (hW : Own w0 W ((worldO p c X).and E)) => wwaits_o hW ho)
 have HNM := hid (fun W E (hW : Own w0 W ((worldO p c X).and E)) => wnames_o hW _ rfl)
 have HLI := hid (fun W E (hW : Own w0 W ((rdeskO q R c kk X.D).and E)) => rlist_o hW)
 clear h ho
 generalize (listF X.D.M).map toNid = li at *
 generalize gotB s i g X.L = gb at *
 obtain ⟨⟨us, ui, ug, um, ux, uy, uvx, uvy, uhp, upw, ulf⟩, ok⟩ := gb
 have hbe : bunEq ⟨us, ui, ug, um, ux, uy, uvx, uvy, uhp, upw, ulf⟩ ⟨us, ui, ug, um, ux, uy, uvx, uvy, uhp, upw, ulf⟩ = true := by simp [bunEq]
 have HFI2 : Hid (∀ W E, Own w0 W ((worldO p c X).and E) → Calls prog 28 #[.pointer (some ⟨p, 0, none⟩), .agg #[int i64 s, int i64 i, int i64 g]] W fun e w' => e = .returned (.tuple #[.agg #[int i64 us, int i64 ui, int i64 ug, int i64 um, int i64 ux, int i64 uy, int i64 uvx, int i64 uvy, int i64 uhp, int i64 upw, int i64 ulf], .bool ok]) ∧ Below W.heap.size W w') := hid HFI.out
 have HRF2 : Hid (∀ W E, Own w0 W ((rworldO r q R c kk X).and E) → Calls prog 72 #[.pointer (some ⟨r, 0, none⟩), .agg #[int i64 s, int i64 i, int i64 g]] W fun e w' => e = .returned (.tuple #[.agg #[int i64 us, int i64 ui, int i64 ug, int i64 um, int i64 ux, int i64 uy, int i64 uvx, int i64 uvy, int i64 uhp, int i64 upw, int i64 ulf], .bool ok]) ∧ Below W.heap.size W w') := hid HRF.out
 clear HFI HRF
 go_enter Tryz.func35, Tryz.ntmps35
 go_upto_region 1 with fail
 generalize w.alloc _ = w1 at *
 generalize w.heap.size = n5 at *
 have hbx := h1.third.box
 have y0 := hbx.1 0
 have y1 := hbx.1 1
 have y2 := hbx.1 2
 simp at y0 y1 y2
 have l5 := hbx.2.2.1
 obtain ⟨z0, z1, z2⟩ := ltz l5
 clear h1 hbx
 go_wp2_with fail
 refine (HFI2.out _ _ HP.out).mono ?_
 rintro e V1 ⟨rfl, hb1⟩
 have h2 := (HP.out.grow hb1)
 have H2 := hid (h2.made (made_box V1 #[int i64 us, int i64 ui, int i64 ug, int i64 um, int i64 ux, int i64 uy, int i64 uvx, int i64 uvy, int i64 uhp, int i64 upw, int i64 ulf] 32)).new3
 have hbx := h2.third.box
 have y0 := hbx.1 0
 have y1 := hbx.1 1
 have y2 := hbx.1 2
 simp at y0 y1 y2
 have l5 := hbx.2.2.1
 obtain ⟨z0, z1, z2⟩ := ltz l5
 clear hb1 h2 hbx HFI2 HP
 go_wp2_with fail
 refine (HRF2.out _ _ H2.out.swap).mono ?_
 rintro e V2 ⟨rfl, hb2⟩
 have H3 := hid ((H2.out.grow hb2).made (made_box V2 #[int i64 us, int i64 ui, int i64 ug, int i64 um, int i64 ux, int i64 uy, int i64 uvx, int i64 uvy, int i64 uhp, int i64 upw, int i64 ulf] 32)).new3
 clear hb2 HRF2 H2 y0 y1 y2 l5 z0 z1 z2
 go_wp2_with fail
 refine (HLS.out _ _ H3.out).mono ?_
 rintro e w4 ⟨vl, rfl, hn⟩
 generalize V1.heap.size = n7 at *
 generalize V2.heap.size = n9 at *
 obtain ⟨pl, cl, rfl⟩ := sl_frm hn.1
 have H4 : Hid (Own w0 w4 ((worldO p c X).and ((rworldO r q R c kk X).and ((slO 32 11 (.slice pl X.L.length cl) X.L.length (cellsR bunL X.L)).and _)))) := hid (H3.out.made hn.made).new3
 have h4 := H4.out
 have hb9 := h4.fourth.box
 have hb7 := h4.fifth.box
 have f0 := hb9.1 0; simp at f0; have f1 := hb9.1 1; simp at f1; have f2 := hb9.1 2; simp at f2; have f3 := hb9.1 3; simp at f3; have f4 := hb9.1 4; simp at f4; have f5 := hb9.1 5; simp at f5; have f6 := hb9.1 6; simp at f6; have f7 := hb9.1 7; simp at f7; have f8 := hb9.1 8; simp at f8; have f9 := hb9.1 9; simp at f9; have f10 := hb9.1 10; simp at f10
 have g0 := hb7.1 0; simp at g0; have g1 := hb7.1 1; simp at g1; have g2 := hb7.1 2; simp at g2; have g3 := hb7.1 3; simp at g3; have g4 := hb7.1 4; simp at g4; have g5 := hb7.1 5; simp at g5; have g6 := hb7.1 6; simp at g6; have g7 := hb7.1 7; simp at g7; have g8 := hb7.1 8; simp at g8; have g9 := hb7.1 9; simp at g9; have g10 := hb7.1 10; simp at g10
 have l9 := hb9.2.2.1
 have l7 := hb7.2.2.1
 obtain ⟨v, h5⟩ := ropen h4.swap
 have x0 := h5.box.1 0
 have x1 := h5.box.1 1
 simp at x0 x1
 have lr := h5.box.2.2.1
 obtain ⟨c7, ⟨v8, c8, hs8⟩, c9, c10, lq⟩ := h5.swap.rcells
 have HS8 := hid hs8
 obtain ⟨p8, cap8, rfl⟩ := sl_frm hs8
 obtain ⟨pv, cv, rfl⟩ := sl_frm h5.third.sl.1
 have HD := hid h5.swap
 have HSM := hid (fun W (hW : Below w4.heap.size w4 W) => (show Calls prog 26 #[.slice pl X.L.length cl, .slice pv X.L.length cv] W (fun e w' => e = .returned (.bool true) ∧ Below W.heap.size W w') from by have := same_any (.slice pl X.L.length cl) (.slice pv X.L.length cv) X.L X.L W ((BIn.of_sl h4.third.sl.1).keep hW) ((BIn.of_sl h5.third.sl.1).keep hW); rw [decide_eq_true rfl] at this; exact this))
 obtain ⟨z0, z1, z2⟩ := ltz lr
 obtain ⟨z3, z4, z5⟩ := ltz lq
 obtain ⟨z6, z7, z8⟩ := ltz l9
 obtain ⟨z9, z10, z11⟩ := ltz l7
 clear hn H3 h4 h5 hb9 hb7 hs8
 generalize hT : X.D.t = T at *
 go_wp2_with fail
 go_region_held3 (fun W => (w4).heap.size ≤ W.heap.size ∧ ∀ b o, b < (w4).heap.size → W.cell? ⟨b, o, none⟩ = (w4).cell? ⟨b, o, none⟩) (with_reducible (repeat (first | assumption | exact s_refl _ | exact s_id _ | refine s_more _ _ ?_ | refine s_alloc _ ?_ | refine s_drew ?_))) (first | (go_at_call 26; refine belA (HSM.out _ bg) fun d1 os1 => ?_) | (go_at_call 36; refine belA (HTK.out _ _ (H4.out.grow bg)) fun d5 os5 => ?_) | (go_at_call 20; refine (HWT.out _ _ (H4.out.grow bg)).mono ?_; rintro e w' ⟨va, rfl, ha⟩; obtain ⟨d6, os6, rfl⟩ := more_of ha.2.1; have HWA := hid ha.rin; clear ha) | (go_at_call 73; refine (sameCm_self _ _ X.D.q _ (HWA.out.keep bg) (RIn.of_sl (HS8.out.keep fun g hg => Below.block (B := w4.heap.size) bg g (sl_lt HS8.out hg)))).mono ?_; rintro e w' ⟨rfl, hb⟩; obtain ⟨d7, os7, rfl⟩ := more_of hb; clear hb) | (go_at_call 29; refine (HNM.out _ _ (H4.out.grow bg)).mono ?_; rintro e w' ⟨va, rfl, ha⟩; obtain ⟨d2, os2, rfl⟩ := more_of ha.2.1; have HA := hid ha.rin; clear ha) | (go_at_call 74; refine (HLI.out _ _ (HD.out.grow bg)).mono ?_; rintro e w' ⟨vb, rfl, hb⟩; obtain ⟨d3, os3, rfl⟩ := more_of hb.2.1; have HB := hid hb.rin; clear hb) | (go_at_call 30; refine belA (sameNid_self _ _ li _ (HA.out.keep bg) (HB.out.keep bg)) fun d4 os4 => ?_))
 clear c7 c8 c9 c10 lq lr l9 l7 x0 x1 z0 z1 z2 z3 z4 z5 z6 z7 z8 z9 z10 z11 f0 g0 f1 g1 f2 g2 f3 g3 f4 g4 f5 g5 f6 g6 f7 g7 f8 g8 f9 g9 f10 g10
 go_wp2_with fail
 go_loopw [12] (fun x wr => ∃ (k : Nat) (xs : List Value), x = int i64 k ∧ k ≤ X.L.length ∧ Hid (Own w0 wr ((worldO p c X).and ((rworldO r q R c kk X).and ((slO 32 11 (.slice pl X.L.length cl) X.L.length xs).and ((boxO n9 #[int i64 us, int i64 ui, int i64 ug, int i64 um, int i64 ux, int i64 uy, int i64 uvx, int i64 uvy, int i64 uhp, int i64 upw, int i64 ulf] 32).and ((boxO n7 #[int i64 us, int i64 ui, int i64 ug, int i64 um, int i64 ux, int i64 uy, int i64 uvx, int i64 uvy, int i64 uhp, int i64 upw, int i64 ulf] 32).and ((boxO n5 #[int i64 s, int i64 i, int i64 g] 30).and F)))))))) (fun x _ => X.L.length - (intOf x).toNat)
 case atStart => exact ⟨0, _, rfl, Nat.zero_le _, hid (H4.out.grow bg)⟩
 case round =>
  clear HSM H4 HS8 HD HTK
  obtain ⟨k, xs, rfl, hk, hh⟩ := hrel
  obtain ⟨wo, rfl⟩ : ∃ wo : World, wo = wr := ⟨_, rfl⟩
  have hI : 0 ≤ (k : Int) := Int.natCast_nonneg k
  by_cases hlt : k < X.L.length
  · have t1 : (k : Int) < (X.L.length : Int) := by omega
    obtain ⟨blk, off, cap, hv, hbl, ⟨u', hu⟩, hf, hO2⟩ := hh.out.third.slone (t := k * 11 + 3) (by omega) (int i64 (-1))
    rw [← Nat.add_assoc] at hu hf hO2
    simp only [Value.slice.injEq, true_and] at hv
    obtain ⟨rfl, rfl⟩ := hv
    have HO2 := hid hO2.new3
    obtain ⟨z0, z1, z2⟩ := ltz hbl
    clear hO2 hh
    go_wp2_with fail
    go_roundw
    case rel => exact ⟨k + 1, _, by go_num, hlt, HO2⟩
    case measure => simp [intOf]; omega
  · obtain rfl : k = X.L.length := by omega
    obtain ⟨v, h5⟩ := ropen hh.out.swap
    have x1 := h5.box.1 1
    simp at x1
    have lr := h5.box.2.2.1
    obtain ⟨pv, cv, rfl⟩ := sl_frm h5.third.sl.1
    have HV := hid (BIn.of_sl h5.third.sl.1)
    have HSM := hid (fun vl W (hl : BIn W vl X.L) (hW : Below wo.heap.size wo W) => (show Calls prog 26 #[vl, .slice pv X.L.length cv] W (fun e w' => e = .returned (.bool true) ∧ Below W.heap.size W w') from by have := same_any vl (.slice pv X.L.length cv) X.L X.L W hl (HV.out.keep hW); rw [decide_eq_true rfl] at this; exact this))
    obtain ⟨z0, z1, z2⟩ := ltz lr
    clear hk h5
    go_wp2_with fail
    go_region_held3 (fun W => (wo).heap.size ≤ W.heap.size ∧ ∀ b o, b < (wo).heap.size → W.cell? ⟨b, o, none⟩ = (wo).cell? ⟨b, o, none⟩) (with_reducible (repeat (first | assumption | exact s_refl _ | exact s_id _ | refine s_more _ _ ?_ | refine s_alloc _ ?_ | refine s_drew ?_))) (first | (go_at_call 12; refine (HLS.out _ _ (hh.out.grow bg)).mono ?_; rintro e w' ⟨va, rfl, ha⟩; obtain ⟨d2, os2, rfl⟩ := more_of ha.2.1; have HA := hid (BIn.of_sl ha.1); clear ha) | (go_at_call 26; refine belA (HSM.out _ _ (HA.out.keep bg) bg) fun d4 os4 => ?_))
    go_wp2_with fail
    go_ret
    exact ⟨rfl, hh.out.drop3.drop3.drop3.drop3.grow bg⟩
section
open Go
section
variable {P : Program} {ops : Array Oper} {Q : Exit → Act → World → Prop} {md : Region.Mode} {S : World → Prop} {n : Nat}
def chainW (md : Region.Mode) (ops : Array Oper) (n : Nat) : Bool := (List.range ops.size).all fun t => decide (t ≤ n) || (List.range t).any fun u => decide (n ≤ u) && Region.waitsFor md ops t u
theorem tail_waitsW {listed : Array Bool} (hs : Region.sinkB md ops n = true) (hc : chainW md ops n = true) (hn : n < ops.size) (inv : HeadInv md ops n listed) :
 ∀ (d i : Nat), n - i = d → i < n → listed.getD i true = false → ∀ t, n ≤ t → t ∉ Region.ready md ops listed := by
 intro d
 induction d using Nat.strongRecOn with
 | _ d ih =>
   intro i hd hi hun t ht hr
   obtain ⟨_, ot, hot, hall⟩ := mem_ready.1 hr
   have htlt : t < ops.size := (Array.getElem?_eq_some_iff.1 hot).1
   by_cases htn : t = n
   · subst htn
     have h1 := List.all_eq_true.1 hs i (List.mem_range.2 hi)
     obtain ⟨j, hj, hj2⟩ := List.any_eq_true.1 h1
     simp only [Bool.and_eq_true, decide_eq_true_eq] at hj2
     obtain ⟨oj, hoj, e, he, hb, hon⟩ := Region.waitsFor_spec hj2.2
     have hjle : j ≤ t := by have := List.mem_range.1 hj; omega
     by_cases hjt : j = t
     · subst hjt
       have : oj = ot := Option.some.inj (hoj.symm.trans hot)
       subst this
       have h2 := hall e he hb
       rw [hon, getD_both hun] at h2
       cases h2
     · cases hl : listed.getD j false with
       | true =>
         have h2 := inv.closed j oj hoj hl e he hb
         rw [hon, getD_both hun] at h2
         cases h2
       | false =>
         have hjs : j < listed.size := by rw [inv.size]; omega
         exact ih (t - j) (by omega) j rfl (by omega) (getD_in hjs hl) t (Nat.le_refl _) hr
   · have h1 := List.all_eq_true.1 hc t (List.mem_range.2 htlt)
     simp only [Bool.or_eq_true, decide_eq_true_eq] at h1
     rcases h1 with h1 | h1
     · omega
     · obtain ⟨u, hu, hu2⟩ := List.any_eq_true.1 h1
       simp only [Bool.and_eq_true, decide_eq_true_eq] at hu2
       obtain ⟨o', ho', e, he, hb, hon⟩ := Region.waitsFor_spec hu2.2
       have : o' = ot := Option.some.inj (ho'.symm.trans hot)
       subst this
       have h2 := hall e he hb
       have hul : u < t := List.mem_range.1 hu
       rw [hon, getD_both (inv.tail u hu2.1 (by omega))] at h2
       cases h2
theorem anyX_firstW {i : Nat} {oi : Oper} {v : Value} (hi : ops[i]? = some oi) (hsel : Region.noSelect ops = true) (hs : Region.sinkB md ops n = true) (hc : chainW md ops n = true) (hn : n < ops.size) (hin : i < n)
 (hQ : ∀ c a w, Q (.panic c) (a.put oi.dst v) w → Q (.panic c) a w) : ∀ (fuel : Nat) (listed : Array Bool) (a : Act) (w : World), HeadInv md ops n listed →
   (∀ j oj, ops[j]? = some oj → j ≠ i → listed.getD j true = false → (∀ e ∈ oj.after, Region.binds md e = true → e.on ≠ i) → oi.apart ops oj = true) →
   i ∈ Region.ready md ops listed → YieldsIf P ops S oi v a → S w →
   AnyX P md ops Q S n fuel (listed.setIfInBounds i true) (a.put oi.dst v) w → AnyX P md ops Q S n (fuel + 1) listed a w
 | fuel, listed, a, w, inv, hfree, hr, hy, hS, H => by
   have hun := (mem_ready.1 hr).1
   refine ⟨fun h => (by rw [h] at hr; cases hr), fun j hj => ?_⟩
   have hjn : j < n := Nat.lt_of_not_le fun h => tail_waitsW hs hc hn inv _ i rfl hin hun j h hj
   by_cases hji : j = i
   · rw [hji]; exact hy.wpOp hi hS ⟨fun _ => hS, H⟩
   · cases fuel with
     | zero =>
       have := ready_mono hj hji
       rw [H.1] at this
       cases this
     | succ fuel =>
       have h1 := H.2 j (ready_mono hj hji)
       obtain ⟨hjun, oj, hoj, hall⟩ := mem_ready.1 hj
       have hnot : ∀ e ∈ oj.after, Region.binds md e = true → e.on ≠ i := fun e he hb heq => by
        have h2 := hall e he hb
        rw [heq, getD_both hun] at h2
        cases h2
       have h2 := wpOp_putIf hoj (hfree j oj hoj hji hjun hnot) (fun cs b => Region.noSelect_spec hsel i oi cs b hi) (fun cs b => Region.noSelect_spec hsel j oj cs b hoj) hQ hy h1
       refine wpOp_mono (fun a' w' h3 => ⟨h3.2.1, anyX_firstW hi hsel hs hc hn hin hQ fuel (listed.setIfInBounds j true) a' w' (inv.set hj hjn) (fun k ok hk hki hku hno => ?_) (ready_mono hr (Ne.symm hji)) h3.1 (h3.2.1 hjn) ?_⟩) h2
       · refine hfree k ok hk hki ?_ hno
         by_cases hjk : j = k
         · rw [← hjk]; exact hjun
         · rwa [getD_set_ne true hjk] at hku
       · rw [Array.setIfInBounds_comm _ _ hji]
         exact h3.2.2
theorem anyX_takeW {i : Nat} {oi : Oper} {v : Value} {fuel : Nat} {listed : Array Bool} {a : Act} {w : World} (hi : ops[i]? = some oi)
 (hB : (Region.noSelect ops && Region.sinkB md ops n && chainW md ops n && decide (n < ops.size) && decide (i < n) && headB md ops n listed && Region.free md ops listed i && (Region.ready md ops listed).contains i) = true)
 (hQ : ∀ c a w, Q (.panic c) (a.put oi.dst v) w → Q (.panic c) a w) (hy : YieldsIf P ops S oi v a) (hS : S w)
 (h : AnyX P md ops Q S n fuel (listed.setIfInBounds i true) (a.put oi.dst v) w) : AnyX P md ops Q S n (fuel + 1) listed a w := by
 simp only [Bool.and_eq_true, decide_eq_true_eq] at hB
 obtain ⟨⟨⟨⟨⟨⟨⟨b1, b2⟩, b3⟩, b4⟩, b5⟩, b6⟩, b7⟩, b8⟩ := hB
 exact anyX_firstW hi b1 b2 b3 b4 b5 hQ fuel listed a w (headB_inv b6) (Region.free_spec hi b7) (by simpa using b8) hy hS h
theorem anyX_turn {n' : Nat} : ∀ (fuel : Nat) (listed : Array Bool) (a : Act) (w : World), (∀ i, i < n → listed.getD i true = true) → AnyX P md ops Q (fun _ => True) n' fuel listed a w → AnyX P md ops Q S n fuel listed a w
 | 0, _, _, _, _, h => h
 | fuel + 1, listed, a, w, hl, h => ⟨h.1, fun i hi => wpOp_mono (fun a' w' h' => ⟨fun hin => (by
  have h1 := (mem_ready.1 hi).1
  rw [hl i hin] at h1; cases h1), anyX_turn fuel _ a' w' (fun j hj => by
  by_cases e : i = j
  · subst e
    have h1 := (mem_ready.1 hi).1
    rw [hl i hj] at h1; cases h1
  · rw [getD_set_ne true e]; exact hl j hj) h'.2⟩) (h.2 i hi)⟩
end
theorem anyX_tkW {P : Program} {ops : Array Oper} {Q : Exit → Act → World → Prop} {md : Region.Mode} {S : World → Prop} {n : Nat} (i : Nat) {oi : Oper} {v : Value} {fuel : Nat} {listed : Array Bool} {a : Act} {w : World} (hi : ops[i]? = some oi)
 (hy : ∀ w, S w → (execOp a.eval oi).run P w = .ok (.value v) w) (hS : S w) (h : AnyX P md ops Q S n fuel (listed.setIfInBounds i true) (a.put oi.dst v) w)
 (hB : (Region.noSelect ops && Region.sinkB md ops n && chainW md ops n && decide (n < ops.size) && decide (i < n) && headB md ops n listed && Region.free md ops listed i && (Region.ready md ops listed).contains i) = true := by kernel_rfl)
 (hw : Region.wanted oi (yielded ops a.tmps) = true := by rfl) (hQ : ∀ c a w, Q (.panic c) (a.put oi.dst v) w → Q (.panic c) a w := by exact fun _ _ _ h => h) : AnyX P md ops Q S n (fuel + 1) listed a w := anyX_takeW hi hB hQ (Or.inl ⟨hw, hy⟩) hS h
end
end Go.Proofs.YtoimjjhopljdmaaGreat
