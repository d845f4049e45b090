/- Texts WoE WoK WoT RnS RdC RdG WoL: what the claim reaches of them. Conditions stand at each theorem. -/
import Derived.Test.YtoimjjhopljdmaaGreatP26
set_option maxRecDepth 100000
set_option maxHeartbeats 8000000
namespace Go.Proofs.YtoimjjhopljdmaaGreat
open Go.RowKit
open Go.Proofs.Tryz (prog)
open Go.Value (int)
open Go.IntKind (i64)
open Go.Lib (hid)
section
def twoS (va : Value) (l : List Bun) (vd : Value) (dn : List Nid) : Ob where
 holds w o := Sl w 32 11 va l.length (cellsR bunL l) ∧ Sl w 30 3 vd dn.length (cellsR nidL dn) ∧ ∀ x, o x ↔ va.ownBlock = some x ∨ vd.ownBlock = some x
 lt := by
  rintro w o ⟨h1, h2, h3⟩ b hb
  rcases (h3 b).1 hb with e | e
  · exact sl_lt h1 e
  · exact sl_lt h2 e
 keep := by
  rintro w w' o ⟨h1, h2, h3⟩ hk
  exact ⟨h1.keep fun g hg => hk g ((h3 g).2 (.inl hg)), h2.keep fun g hg => hk g ((h3 g).2 (.inr hg)), h3⟩
section
variable {w0 W W' : World} {F G X A : Ob} {va vd : Value} {l : List Bun} {dn : List Nid}
theorem made_two (h1 : BNew W W' va l) (h2 : RNew nidL 30 3 W W' vd dn) : Made W W' (twoS va l vd dn) :=
 ⟨fun x => va.ownBlock = some x ∨ vd.ownBlock = some x, ⟨h1.1, h2.1, fun _ => Iff.rfl⟩, h1.2.1, fun x hx => hx.elim (h1.2.2 x) (h2.2.2 x)⟩
theorem own_two (h : Own w0 W ((twoS va l vd dn).and F)) : Own w0 W ((slO 32 11 va l.length (cellsR bunL l)).and F) := by
 obtain ⟨o, ⟨a, f, ⟨h1, h2, h0⟩, h3, h4, h5⟩, h6, h7⟩ := h
 exact ⟨fun x => va.ownBlock = some x ∨ f x, ⟨fun x => va.ownBlock = some x, f, ⟨h1, fun _ => Iff.rfl⟩, h3, fun x hx => h4 x ((h0 x).2 (.inl hx)), fun _ => Iff.rfl⟩, fun x hx => h6 x ((h5 x).2 (hx.imp (fun e => (h0 x).2 (.inl e)) id)), h7⟩
theorem two_sl (h : Own w0 W ((twoS va l vd dn).and F)) : Sl W 32 11 va l.length (cellsR bunL l) ∧ Sl W 30 3 vd dn.length (cellsR nidL dn) := by
 obtain ⟨o, ⟨a, f, ⟨h1, h2, h0⟩, _⟩, _⟩ := h
 exact ⟨h1, h2⟩
theorem own_drew (h : Own w0 W F) : Own w0 W.drew F := h.grow (show Below W.heap.size W W.drew from bg)
theorem own_fromB (arr : Array Value) (T : TypeId) (h : Own w0 W F) (hm : Made W.drew W' X) : Own w0 (W'.alloc (.cells arr T)) ((boxO W'.heap.size arr T).and (X.and F)) := ((own_drew h).made hm).made (made_box W' arr T)
theorem own_fromA (arr0 arr : Array Value) (T T' : TypeId) {d : Nat} {os : Array Obj} (h : Own w0 W F) (hm : Made (W.drew.alloc (.cells arr0 T')) (more (W.drew.alloc (.cells arr0 T')) d os) X) :
 Own w0 (more (W.drew.alloc (.cells arr T)) d os) ((boxO W.heap.size arr T).and (X.and F)) := by
 obtain ⟨b, h1, h2, h3⟩ := hm
 have e0 : (W.drew.alloc (.cells arr0 T')).heap.size = W.heap.size + 1 := by simp
 have e1 : (W.drew.alloc (.cells arr T)).heap.size = W.heap.size + 1 := by simp
 have hX : X.holds (more (W.drew.alloc (.cells arr T)) d os) b := X.keep _ _ _ h1 fun x hx => by
  have := h3 x hx
  simp only [more]
  rw [Array.getElem?_append_right (by omega), Array.getElem?_append_right (by omega), e0, e1]
 exact (((own_drew h).made (made_box W.drew arr T)).made ⟨b, hX, more_below _ _ _, fun x hx => by have := h3 x hx; omega⟩).swap
theorem close_g {d : Nat} {c : Cfg} {D : Dk} (h : Own w0 W ((deskO d c D).and F)) (v : Value) (ln : List Nid) (hv : RIn nidL W v ln) (hav : ∀ f, F.holds W f → ∀ g, v.ownBlock = some g → f g) (hl : ln.length ≤ 1000) :
 Calls prog 60 #[.pointer (some ⟨d, 0, none⟩), v] W fun e w' => e = .returned (.tuple #[int i64 (closeF D ln).1.1, int i64 (closeF D ln).1.2]) ∧ Own w0 w' ((deskO d c (closeF D ln).2).and F) := by
 have h' := h
 obtain ⟨o, ⟨a, f, h1, h2, h3, h4⟩, h5, h6⟩ := h
 have hna : Calls prog 60 #[.pointer (some ⟨d, 0, none⟩), v] W fun e w' => e = .returned (.tuple #[int i64 (closeF D ln).1.1, int i64 (closeF D ln).1.2]) ∧ Gone a W w' (deskO d c (closeF D ln).2) := by
  obtain ⟨dl, hp, hd, ha⟩ := h1
  subst hp
  unfold closeF
  cases hop : D.op with
  | false =>
    rw [if_pos rfl]
    obtain ⟨p', cap, rfl, _⟩ := hv
    exact (close_shut W dl c D hd _ hop ⟨_, _, _, rfl⟩).mono fun _ _ ⟨g1, g2⟩ => ⟨g1, (DStp.of_grown hd g2).gone ha⟩
  | true =>
    rw [if_neg (by simp)]
    exact (close_ok W dl c D hd v ln hop hv (fun hne g hg e => h3 g ((ha g).2 (.inl e)) (hav f h2 g hg)) (by omega)).mono fun _ _ ⟨g1, g2⟩ => ⟨g1, g2.gone ha⟩
 refine hna.mono fun e w' ⟨hr, b, q1, q2, q3⟩ => ⟨hr, ?_⟩
 refine ⟨fun x => b x ∨ f x, ⟨b, f, q1, F.keep _ _ _ h2 fun x hx => q2.block x (F.lt _ _ h2 x hx) fun e => h3 x e hx, fun x hb hf => ?_, fun x => Iff.rfl⟩, fun x hx => ?_, h6.trans (q2.below h6.size fun x hx => h5 x ((h4 x).2 (.inl hx)))⟩
 · rcases q3 x hb with e | e
   · exact h3 x e hf
   · have := F.lt _ _ h2 x hf; omega
 · rcases hx with e | e
   · exact (q3 x e).elim (fun h => h5 x ((h4 x).2 (.inl h))) fun h => Nat.le_trans h6.size h
   · exact h5 x ((h4 x).2 (.inr e))
theorem hav_r {g : Nat} (h : ∀ f, G.holds W f → f g) : ∀ f, (A.and G).holds W f → f g := by
 rintro f ⟨a, b, _, h2, _, h4⟩
 exact (h4 g).2 (.inr (h b h2))
theorem hav_l {g : Nat} (h : ∀ f, A.holds W f → f g) : ∀ f, (A.and G).holds W f → f g := by
 rintro f ⟨a, b, h1, _, _, h4⟩
 exact (h4 g).2 (.inl (h a h1))
theorem own_ne {n m : Nat} {a b : Array Value} {T T' : TypeId} (h : Own w0 W ((boxO n a T).and ((boxO m b T').and F))) : n ≠ m := by
 obtain ⟨o, ⟨x, f, ⟨_, hx⟩, ⟨y, f2, ⟨_, hy⟩, _, _, h5⟩, h3, _⟩, _⟩ := h
 intro e
 exact h3 n ((hx n).2 rfl) ((h5 n).2 (.inl ((hy n).2 e)))
theorem desk_map {d : Nat} {c : Cfg} {D : Dk} (h : Own w0 W ((deskO d c D).and F)) : ∃ bm, W.cell? ⟨d, 0, none⟩ = some (.pointer (some ⟨bm, 0, none⟩)) ∧ MapAt W bm c ∧ d < W.heap.size := by
 obtain ⟨o, ⟨a, f, ⟨dl, hp, hd, ha⟩, _⟩, _⟩ := h
 subst hp
 have c0 := hd.cell 0
 simp [deskC] at c0
 exact ⟨dl.bm, c0, hd.map, lt_of_heap hd.box⟩
end
theorem wstep_ok {w0 W : World} {F : Ob} {p : Nat} {c : Cfg} {X : Wo} (h : Own w0 W ((worldO p c X).and F)) (ho : CfgOk c) (hb : beginB X.D = false) (hf1 : ∀ b ∈ X.L, BFit b) (hf3 : ∀ m ∈ X.D.q, CmFit m) (hl : X.L.length ≤ 400) (hdl : (deadW c X).length ≤ 1000) :
 Calls prog 25 #[.pointer (some ⟨p, 0, none⟩)] W fun e w' => ∃ v, e = .returned (.tuple #[v, int i64 0]) ∧ Own w0 w' ((worldO p c (stepW c X).2).and ((slO 30 3 v (deadW c X).length (cellsR nidL (deadW c X))).and F)) := by
 have hbg : beginF X.D = ((X.D.t + 1, X.D.q, 0), { X.D with q := [], t := X.D.t + 1, op := true }) := by unfold beginF; rw [hb]; rfl
 have hsw : (stepW c X).2 = ⟨(closeF { X.D with q := [], t := X.D.t + 1, op := true } (deadW c X)).2, (ownL c (-1) X.L [] X.D.q)⟩ := by
  unfold stepW
  rw [hbg]
  rfl
 rw [hsw]
 clear hsw
 obtain ⟨d, v, h⟩ := wopen h
 have hq64 : X.D.q.length ≤ 64 := by have := h.swap.dbounds.1; have := ho.q1; omega
 have hc2 := ho.cnt
 have hbx := h.box
 have x0 := hbx.1 0
 have x1 := hbx.1 1
 simp at x0 x1
 have lp := hbx.2.2.1
 obtain ⟨z0, z1, z2⟩ := ltz lp
 have HOP := hid (open_o h.swap)
 rw [hbg] at HOP
 simp only at HOP
 have HRUN : Hid (∀ V bm vo vq, MapAt V bm c → BIn V vo X.L → RIn cmC V vq X.D.q → Calls prog 59 #[.pointer (some ⟨bm, 0, none⟩), int i64 (-1), vo, .slice none 0 0, vq] V (RunN V (ownL c (-1) X.L [] X.D.q) (goneL c (-1) X.L [] X.D.q) (deadW c X))) := hid (fun V bm vo vq hm h1 h3 => prun_new bm c (-1) vo (.slice none 0 0) vq X.L [] X.D.q V hm ho (by omega) (by omega) h1 (BNew.nil V).bin h3 hf1 hf3 hl (by simp) (by omega))
 generalize hol : (ownL c (-1) X.L [] X.D.q) = oL at *
 generalize hgl : goneL c (-1) X.L [] X.D.q = gL at *
 generalize hdn : deadW c X = dN at *
 generalize hD1 : ({ X.D with q := [], t := X.D.t + 1, op := true } : Dk) = D1 at *
 generalize hcl : closeF D1 dN = cl at *
 have HCL := hid hcl
 obtain ⟨⟨cl1, cl2⟩, D2⟩ := cl
 clear hb hbg hf1 hf3 hl hol hgl hdn hD1 hcl hbx h hc2
 go_enter Tryz.func25, Tryz.ntmps25
 go_wp2_with fail
 refine HOP.out.mono ?_
 rintro e w2 ⟨vq, rfl, h2⟩
 obtain ⟨pq, cq, rfl⟩ := sl_frm h2.assoc.swap.sl.1
 have H2 := hid h2.assoc
 obtain ⟨bm, m0, hm0, ld0⟩ := desk_map h2.assoc
 have HM0 := hid hm0
 have hbx := h2.assoc.third.box
 have y0 := hbx.1 0
 have y1 := hbx.1 1
 simp at y0 y1
 have lp2 := hbx.2.2.1
 have hsl := h2.assoc.fourth.sl.1
 obtain ⟨pv, cv, rfl⟩ := sl_frm hsl
 have HSL := hid (BIn.of_sl hsl)
 have HSQ := hid (RIn.of_sl h2.assoc.swap.sl.1)
 clear hbx h2 hm0 hsl HOP x0 x1 lp z0 z1 z2
 obtain ⟨z0, z1, z2⟩ := ltz lp2
 obtain ⟨z3, z4, z5⟩ := ltz ld0
 go_upto_region 6 with fail
 go_cut [7] (fun s7 wx => ∃ n pa ca vb pd cd, s7 = .pointer (some ⟨n, 0, none⟩) ∧ Own w0 wx ((boxO n #[.slice pa oL.length ca, vb, .slice pd dN.length cd] 108).and ((twoS (.slice pa oL.length ca) oL (.slice pd dN.length cd) dN).and ((deskO d c D1).and ((slO 34 16 (.slice pq X.D.q.length cq) X.D.q.length (cellsR cmC X.D.q)).and ((boxO p #[.pointer (some ⟨d, 0, none⟩), (.slice pv X.L.length cv)] 83).and ((slO 32 11 (.slice pv X.L.length cv) X.L.length (cellsR bunL X.L)).and F)))))))
 case first =>
  go_region_held3 (fun W => (w2).heap.size ≤ W.heap.size ∧ ∀ b o, b < (w2).heap.size → W.cell? ⟨b, o, none⟩ = (w2).cell? ⟨b, o, none⟩) (with_reducible (repeat (first | assumption | exact s_refl _ | exact s_id _ | refine s_more _ _ ?_ | refine s_alloc _ ?_ | refine s_drew ?_))) (first | (go_at_call 59; refine (HRUN.out _ bm _ _ (HM0.out.grow bg) (HSL.out.keep bg) (HSQ.out.keep bg)).mono ?_; rintro e w' ⟨va, vb, vd, rfl, hbb, g1, g2, g3⟩; obtain ⟨pa, ca, rfl⟩ := sl_frm g1.1; obtain ⟨pd, cd, rfl⟩ := sl_frm g3.1; obtain ⟨pb, cb, rfl⟩ := sl_frm g2.1; have HT := hid (made_two g1 g3); clear g1 g2 g3; obtain ⟨d4, os4, rfl⟩ := more_of hbb; clear hbb))
  all_goals (go_wp2_with fail; go_meet)
  all_goals first
   | (have hq := own_fromB #[.slice pa oL.length ca, .slice pb gL.length cb, .slice pd dN.length cd] 108 H2.out HT.out
      rw [show (more w2.drew d4 os4).heap.size = w2.heap.size + os4.size by simp] at hq
      exact ⟨_, _, _, _, _, _, rfl, hq⟩)
   | (have hq := own_fromA #[.slice none 0 0, .slice none 0 0, .slice none 0 0] #[.slice pa oL.length ca, .slice pb gL.length cb, .slice pd dN.length cd] 108 108 H2.out HT.out
      exact ⟨_, _, _, _, _, _, rfl, hq⟩)
 obtain ⟨n, pa, ca, vb, pd, cd, rfl, h7⟩ := hcut
 obtain ⟨wx, rfl⟩ : ∃ wx : World, wx = wc := ⟨_, rfl⟩
 have b0 := h7.box.1 0
 have b2 := h7.box.1 2
 simp at b0 b2
 have ln := h7.box.2.2.1
 have h8 := h7.fifth
 have lw := h8.box.2.2.1
 have y0 := h8.box.1 0
 have y1 := h8.box.1 1
 simp at y0 y1
 have fw := h8.box.2.1 1
 have hnp : n ≠ p := own_ne h8.swap
 have h9 := (h8.set 1 (.slice pa oL.length ca)).fourth
 simp only [List.setIfInBounds_toArray, List.set_cons_zero, List.set_cons_succ] at h9
 clear h7 h8
 go_upto_region 8 with fail
 generalize wx.setCell _ _ = w9 at *
 have H9 := hid h9
 have u0 := h9.swap.box.1 0
 have u2 := h9.third.box.1 2
 simp at u0 u2
 have lw := h9.swap.box.2.2.1
 have ln := h9.third.box.2.2.1
 have htw := two_sl h9.fourth
 have HCG := hid (fun V (hV : Below w9.heap.size w9 V) => close_g (h9.grow hV) (.slice pd dN.length cd) dN (RIn.of_sl (two_sl (h9.grow hV).fourth).2) (fun f hf g hg => hav_r (hav_r (hav_l fun f hf => by obtain ⟨_, _, h0⟩ := hf; exact (h0 g).2 (.inr hg))) f hf) hdl)
 rw [HCL.out] at HCG
 obtain ⟨z0, z1, z2⟩ := ltz lw
 obtain ⟨z3, z4, z5⟩ := ltz ln
 clear h9 b0 b2 y0 y1 fw htw HCL H2 HM0 HSL HSQ HRUN m0 lp2 ld0 hnp
 refine wp_region_still_tail 6 (by kernel_rfl) (by kernel_rfl) ?_
 simp only [List.take_succ_cons, List.take_zero, List.drop_succ_cons, List.drop_zero]
 repeat (first | still_step)
 refine wpStill_nil ?_
 go_wp2_with fail
 refine (HCG.out _ bg).mono ?_
 rintro e w10 ⟨rfl, h10⟩
 have H10 := hid h10
 have u2 := h10.third.box.1 2
 simp at u2
 have ln := h10.third.box.2.2.1
 have HCN := hid (cloneN_any (.slice pd dN.length cd) dN w10 (RIn.of_sl (two_sl h10.fourth).2) (by omega))
 clear h10 HCG H9 u0 lw z0 z1 z2 z3 z4 z5
 go_wp2_with fail
 refine HCN.out.mono ?_
 rintro e w11 ⟨v9, rfl, hn9⟩
 obtain ⟨p9, c9, rfl⟩ := sl_frm hn9.1
 have h11 := H10.out.made hn9.made
 have h12 := (h11.fourth.snd.fifth.snd).fifth.snd
 have h13 := (own_two (((h12.third.inner fun _ h => and_in' (fun _ => and_swap') (and_swap' h))).third)).new3
 have H13 := hid (wshut (X := ⟨D2, oL⟩) h13)
 clear hn9 h11 h12 h13 HCN H10
 go_wp2_with fail
 go_ret2
 exact ⟨_, rfl, H13.out⟩
end
section
def wo17 : Cfg := ⟨1, 1, 256, 0, 0, 2, 2⟩
def wm17 : Cm := ⟨1, 0, 0, 0, ⟨0, 0, 0, 17, 3, 4, 0, 0, 0, 0, 2⟩, 0⟩
def wo17x1 : Wo := ⟨⟨[⟨[⟨0, 8, true⟩, ⟨0, 0, false⟩], [1]⟩], [wm17], 0, false⟩, []⟩
def wo17x2 : Wo := ⟨⟨[⟨[⟨0, 8, true⟩, ⟨0, 0, false⟩], [1]⟩], [], 1, false⟩, [⟨0, 0, 0, 17, 3, 4, 0, 0, 0, 0, 1⟩]⟩
def wo17x3 : Wo := ⟨⟨[⟨[⟨1, 8, false⟩, ⟨0, 0, false⟩], [1, 0]⟩], [], 2, false⟩, []⟩
theorem wo17ok : CfgOk wo17 := by constructor <;> decide
theorem wo17e1 : callW wo17 (newW wo17) wm17 = ((wm17, 0), wo17x1) := by kernel_rfl
theorem wo17e2 : stepW wo17 wo17x1 = (([], 0), wo17x2) := by kernel_rfl
theorem wo17e3 : stepW wo17 wo17x2 = (([⟨0, 0, 0⟩], 0), wo17x3) := by kernel_rfl
theorem wo17d1 : deadW wo17 wo17x1 = [] := by kernel_rfl
theorem wo17d2 : deadW wo17 wo17x2 = [⟨0, 0, 0⟩] := by kernel_rfl
theorem check_fit {b : Bun} (h : rightB b = true) (hi : idOk b.s b.i b.g = true ∨ idZero b.s b.i b.g = true) : BFit b := by
 have hw : ∀ {hh : Bool} {n lo hi : Int}, withinB hh n lo hi = true → -1073741824 ≤ lo → hi ≤ 1073741824 → -1073741824 ≤ n ∧ n ≤ 1073741824 := by
  intro hh n lo hi h h1 h2
  unfold withinB at h
  cases hh with
  | true => simp [inR] at h; omega
  | false => simp at h; omega
 unfold rightB at h
 simp only [Bool.and_eq_true] at h
 obtain ⟨⟨⟨⟨⟨⟨⟨h0, h1⟩, h2⟩, h3⟩, h4⟩, h5⟩, h6⟩, h7⟩ := h
 have e1 := hw h1 (by omega) (by omega)
 have e2 := hw h2 (by omega) (by omega)
 have e3 := hw h3 (by omega) (by omega)
 have e4 := hw h4 (by omega) (by omega)
 have e5 := hw h5 (by omega) (by omega)
 have e6 := hw h6 (by omega) (by omega)
 have e7 := hw h7 (by omega) (by omega)
 have e0 : 0 ≤ b.m ∧ b.m ≤ 31 := by simpa [inR] using h0
 have ei : (0 ≤ b.s ∧ b.s ≤ 15) ∧ (0 ≤ b.i ∧ b.i ≤ 15) ∧ (0 ≤ b.g ∧ b.g ≤ 1048575) := by
  rcases hi with hi | hi
  · simp [idOk, inR] at hi; omega
  · simp [idZero, idEq] at hi; omega
 unfold BFit
 omega
theorem good_fit {b : Bun} (h : checkB b = true) : BFit b := by
 unfold checkB at h
 simp only [Bool.and_eq_true] at h
 exact check_fit h.1.1 (.inl h.2)
theorem cmd_fit {m : Cm} (h : cmdB m = true) : CmFit m := by
 have hz : ∀ {b : Bun}, bunZero b = true → BFit b := by
  intro b hb
  unfold bunZero bunEq at hb
  have := of_decide_eq_true hb
  rw [this]
  unfold BFit; simp
 unfold cmdB at h
 split at h
 · simp only [Bool.and_eq_true] at h
   exact ⟨good_fit h.2, by have := h.1.2; simp at this; omega⟩
 split at h
 · simp only [Bool.and_eq_true] at h
   exact ⟨check_fit h.1.2 (.inr h.1.1.1.2), by have := h.1.1.1.1; simp at this; omega⟩
 split at h
 · simp only [Bool.and_eq_true] at h
   refine ⟨hz h.1.2, ?_⟩
   have h2 := h.1.1
   unfold someB at h2
   simp at h2
   omega
 split at h
 · simp only [Bool.and_eq_true] at h
   exact ⟨hz h.1.2, by have := h.1.1; simp at this; omega⟩
 · cases h
theorem dead_few {c : Cfg} {n : Nat} {X : Wo} (h : WInv c n X) : (deadW c X).length ≤ n := by
 have hnd := List.nodup_append.1 h.nd
 have := dead_len c (-1) (near := []) (rise_un h.rise) (fun a ha hb => hnd.2.2 a hb a ha rfl) hnd.2.1
 have := h.len
 unfold deadW
 omega
theorem wstep_i {w0 W : World} {F : Ob} {p : Nat} {c : Cfg} {n : Nat} {X : Wo} (h : Own w0 W ((worldO p c X).and F)) (ho : CfgOk c) (hi : WInv c n X) (hn : n ≤ 400) :
 Calls prog 25 #[.pointer (some ⟨p, 0, none⟩)] W fun e w' => ∃ v, e = .returned (.tuple #[v, int i64 0]) ∧ Own w0 w' ((worldO p c (stepW c X).2).and ((slO 30 3 v (deadW c X).length (cellsR nidL (deadW c X))).and F)) :=
 wstep_ok h ho (by unfold beginB; rw [hi.op]; have := hi.t1; simp; omega) (fun b hb => good_fit (hi.good b hb).1.1) (fun m hm => cmd_fit (hi.qok m hm).1) (by have := hi.len; omega) (by have := dead_few hi; omega)
attribute [local go_sem ↓] loadVar_ldM storeVar_stM
theorem awake17 (w : World) : Calls prog 11 #[] w fun e w' => e = .returned (.bool true) ∧ Below w.heap.size w w' := by
 have HNEW := hid (fun W => wnew_ok 1 1 256 0 0 2 2 W wo17ok)
 go_enter Tryz.func11, Tryz.ntmps11
 go_wp2_with fail
 refine (HNEW.out _).mono ?_
 rintro e w1 ⟨p, rfl, hm1⟩
 have H1 : Hid (Own w w1 ((worldO p wo17 (newW wo17)).and .nil)) := hid ((Own.nil w).made hm1)
 clear hm1 HNEW
 have HC : Hid (∀ W E, Own w W ((worldO p wo17 (newW wo17)).and E) → Calls prog 19 #[.pointer (some ⟨p, 0, none⟩), .agg #[int i64 1, int i64 0, int i64 0, int i64 0, int i64 0, int i64 0, int i64 0, int i64 17, int i64 3, int i64 4, int i64 0, int i64 0, int i64 0, int i64 0, int i64 2, int i64 0]] W fun e w' => e = .returned (.tuple #[.agg #[int i64 1, int i64 0, int i64 0, int i64 0, int i64 0, int i64 0, int i64 0, int i64 17, int i64 3, int i64 4, int i64 0, int i64 0, int i64 0, int i64 0, int i64 2, int i64 0], int i64 0]) ∧ Own w w' ((worldO p wo17 wo17x1).and E)) := hid (fun W E hW => by have := wcall_o hW wo17ok wm17; rw [wo17e1] at this; exact this)
 have HS1 : Hid (∀ W E, Own w W ((worldO p wo17 wo17x1).and E) → Calls prog 25 #[.pointer (some ⟨p, 0, none⟩)] W fun e w' => ∃ v, e = .returned (.tuple #[v, int i64 0]) ∧ Own w w' ((worldO p wo17 wo17x2).and ((slO 30 3 v 0 []).and E))) := hid (fun W E hW => by
  have := wstep_ok hW wo17ok rfl (fun b hb => by cases hb) (fun m hm => by obtain rfl : m = wm17 := by simpa [wo17x1] using hm
                                                                           exact cmd_fit (by decide)) (by decide) (by rw [wo17d1]; decide)
  rw [wo17e2, wo17d1] at this; exact this)
 have HS2 : Hid (∀ W E, Own w W ((worldO p wo17 wo17x2).and E) → Calls prog 25 #[.pointer (some ⟨p, 0, none⟩)] W fun e w' => ∃ v, e = .returned (.tuple #[v, int i64 0]) ∧ Own w w' ((worldO p wo17 wo17x3).and ((slO 30 3 v 1 (cellsR nidL [⟨0, 0, 0⟩])).and E))) := hid (fun W E hW => by
  have := wstep_ok hW wo17ok rfl (fun b hb => by obtain rfl : b = ⟨0, 0, 0, 17, 3, 4, 0, 0, 0, 0, 1⟩ := by simpa [wo17x2] using hb
                                                 exact good_fit (by decide)) (fun m hm => by cases hm) (by decide) (by rw [wo17d2]; decide)
  rw [wo17e3, wo17d2] at this; exact this)
 have HL2 : Hid (∀ W E, Own w W ((worldO p wo17 wo17x2).and E) → Calls prog 12 #[.pointer (some ⟨p, 0, none⟩)] W fun e w' => ∃ v, e = .returned v ∧ RNew bunL 32 11 W w' v [⟨0, 0, 0, 17, 3, 4, 0, 0, 0, 0, 1⟩]) := hid (fun W E hW => wlist_o hW (by decide))
 have HL3 : Hid (∀ W E, Own w W ((worldO p wo17 wo17x3).and E) → Calls prog 12 #[.pointer (some ⟨p, 0, none⟩)] W fun e w' => ∃ v, e = .returned v ∧ RNew bunL 32 11 W w' v []) := hid (fun W E hW => wlist_o hW (by decide))
 have HT3 : Hid (∀ W E, Own w W ((worldO p wo17 wo17x3).and E) → Calls prog 36 #[.pointer (some ⟨p, 0, none⟩)] W fun e w' => e = .returned (int i64 2) ∧ Below W.heap.size W w') := hid (fun W E hW => wt_o hW)
 go_wp2_with fail
 refine (HC.out _ _ H1.out).mono ?_
 rintro e w2 ⟨rfl, h2⟩
 obtain ⟨w3, hs3, hm3⟩ := new_cmO w2 wm17
 have H3 := hid (h2.made hm3).swap
 have hs3' : (stM ⟨w2.heap.size, 0, none⟩ (.agg #[int i64 1, int i64 0, int i64 0, int i64 0, int i64 0, int i64 0, int i64 0, int i64 17, int i64 3, int i64 4, int i64 0, int i64 0, int i64 0, int i64 0, int i64 2, int i64 0])).run prog (w2.alloc (.cells #[int i64 0, int i64 0, int i64 0, int i64 0, int i64 0, int i64 0, int i64 0, int i64 0, int i64 0, int i64 0, int i64 0, int i64 0, int i64 0, int i64 0, int i64 0, int i64 0] 34)) = .ok () w3 := hs3
 clear hs3 hm3 h2 HC H1
 go_wp2_with fail
 refine (HS1.out _ _ H3.out).mono ?_
 rintro e w4 ⟨v4, rfl, h4⟩
 obtain ⟨p4, c4, rfl⟩ := sl_frm h4.swap.sl.1
 have H4 := hid h4.drop
 clear h4 H3 hs3' HS1
 go_wp2_with fail
 refine (HL2.out _ _ H4.out).mono ?_
 rintro e w5 ⟨v5, rfl, hn5⟩
 obtain ⟨p5, c5, rfl⟩ := sl_frm hn5.1
 have H5 := hid ((H4.out.made hn5.made).swap)
 clear hn5 H4 HL2
 go_wp2_with fail
 refine (HS2.out _ _ H5.out).mono ?_
 rintro e w6 ⟨v6, rfl, h6⟩
 obtain ⟨p6, c6, rfl⟩ := sl_frm h6.swap.sl.1
 have H6 := hid h6.drop
 have hbx := h6.drop.third.box.1
 have y4 := hbx 4
 have y5 := hbx 5
 have y6 := hbx 6
 simp [wm17, cmC, bunL] at y4 y5 y6
 obtain ⟨blk, off, cap, hve, hb, hcx⟩ := (RIn.of_sl (enc := bunL) (l := [⟨0, 0, 0, 17, 3, 4, 0, 0, 0, 0, 1⟩]) h6.drop.swap.sl.1).cells (fun _ => rfl) (k := 0) rfl
 simp only [Value.slice.injEq] at hve
 obtain ⟨rfl, _, rfl⟩ := hve
 have y10 := hcx 10 _ rfl
 simp at y10
 have lb := h6.drop.third.box.2.2.1
 obtain ⟨z0, z1, z2⟩ := ltz lb
 obtain ⟨z3, z4, z5⟩ := ltz hb
 clear h6 hbx hcx HS2 H5
 have hz : idEq 0 0 0 0 0 0 = true := rfl
 go_wp2_with (first | (go_at_call 12; refine (HL3.out _ _ (H6.out.grow bg)).mono ?_; rintro e w' ⟨v7, rfl, hn⟩; obtain ⟨p7, c7, rfl⟩ := sl_frm hn.1; obtain ⟨d7, os7, rfl⟩ := more_of hn.2.1; clear hn) | (go_at_call 36; refine belA (HT3.out _ _ (H6.out.grow bg)) fun d8 os8 => ?_))
 go_ret
 exact ⟨rfl, H6.out.below.trans (Below.mono (B := w6.heap.size) bg H6.out.below.size)⟩
end
theorem rwstep_ok {w0 W : World} {F : Ob} {r q R : Nat} {c : Cfg} {kk : Int} {X : Wo} (h : Own w0 W ((rworldO r q R c kk X).and F)) (ho : CfgOk c) (hb : beginB X.D = false) (hf1 : ∀ b ∈ X.L, BFit b) (hf3 : ∀ m ∈ X.D.q, CmFit m) (hl : X.L.length ≤ 400) (hdl : (deadW c X).length ≤ 1000) (hkk : kk ≤ 1000000) :
 Calls prog 33 #[.pointer (some ⟨r, 0, none⟩)] W fun e w' => ∃ pd cd, e = .returned (.tuple #[.slice pd (deadW c X).length cd, int i64 0]) ∧ Own w0 w' ((rworldO r q R c (kk + (deadW c X).length) (stepW c X).2).and ((rdO nidL (.slice pd (deadW c X).length cd) (deadW c X)).and F)) := by
 obtain ⟨cols, rows, side, radius, speed, ids, queue⟩ := c
 have hbg : beginF X.D = ((X.D.t + 1, X.D.q, 0), { X.D with q := [], t := X.D.t + 1, op := true }) := by unfold beginF; rw [hb]; rfl
 have hsw : (stepW ⟨cols, rows, side, radius, speed, ids, queue⟩ X).2 = ⟨(closeF { X.D with q := [], t := X.D.t + 1, op := true } (deadW ⟨cols, rows, side, radius, speed, ids, queue⟩ X)).2, (ownL ⟨cols, rows, side, radius, speed, ids, queue⟩ (-1) X.L [] X.D.q)⟩ := by
  unfold stepW
  rw [hbg]
  rfl
 rw [hsw]
 clear hsw
 obtain ⟨v, h⟩ := ropen h
 have hq64 : X.D.q.length ≤ 64 := by have := h.swap.bounds.2.1; have := ho.q1; simp only at *; omega
 have hc2 := ho.cnt
 simp only at hc2
 have hbx := h.box
 have x0 := hbx.1 0
 simp at x0
 have lp := hbx.2.2.1
 obtain ⟨z0, z1, z2⟩ := ltz lp
 have HOP := hid (rbegin_o h.swap)
 rw [hbg] at HOP
 simp only at HOP
 have HRUN : Hid (∀ V vo vq, BIn V vo X.L → RIn cmC V vq X.D.q → Calls prog 23 #[.agg #[int i64 cols, int i64 rows, int i64 side, int i64 radius, int i64 speed, int i64 ids, int i64 queue], int i64 (-1), vo, .slice none 0 0, vq] V (RunM V (ownL ⟨cols, rows, side, radius, speed, ids, queue⟩ (-1) X.L [] X.D.q) (goneL ⟨cols, rows, side, radius, speed, ids, queue⟩ (-1) X.L [] X.D.q) (deadW ⟨cols, rows, side, radius, speed, ids, queue⟩ X))) := hid (fun V vo vq h1 h3 => run15_new cols rows side radius speed ids queue (-1) vo (.slice none 0 0) vq X.L [] X.D.q V ho (by omega) (by omega) h1 (BNew.nil V).bin h3 hf1 (fun b hb => by cases hb) hf3 (by omega) (by simp) (by omega))
 generalize hol : (ownL ⟨cols, rows, side, radius, speed, ids, queue⟩ (-1) X.L [] X.D.q) = oL at *
 generalize hgl : goneL ⟨cols, rows, side, radius, speed, ids, queue⟩ (-1) X.L [] X.D.q = gL at *
 generalize hdn : deadW ⟨cols, rows, side, radius, speed, ids, queue⟩ X = dN at *
 generalize hD1 : ({ X.D with q := [], t := X.D.t + 1, op := true } : Dk) = D1 at *
 generalize hcl : closeF D1 dN = cl at *
 have HCL := hid hcl
 obtain ⟨⟨cl1, cl2⟩, D2⟩ := cl
 clear hb hbg hf1 hf3 hl hol hgl hdn hD1 hcl hbx h hc2 ho hq64
 go_enter Tryz.func33, Tryz.ntmps33
 go_wp2_with fail
 refine HOP.out.mono ?_
 rintro e w2 ⟨vq, rfl, h2⟩
 obtain ⟨pq, cq, rfl⟩ := sl_frm h2.assoc.swap.sl.1
 obtain ⟨pv, cv, rfl⟩ := sl_frm h2.assoc.fourth.sl.1
 have H2 := hid h2.assoc
 obtain ⟨y0, y1, y2, y3, y4, y5, y6⟩ := h2.assoc.rcfg
 obtain ⟨_, _, _, _, ld0⟩ := h2.assoc.rcells
 have hbx := h2.assoc.third.box
 have x0 := hbx.1 0
 have x1 := hbx.1 1
 simp at x0 x1
 have lp2 := hbx.2.2.1
 have HSL := hid (BIn.of_sl h2.assoc.fourth.sl.1)
 have HSQ := hid (RIn.of_sl h2.assoc.swap.sl.1)
 clear hbx h2 HOP lp z0 z1 z2
 obtain ⟨z0, z1, z2⟩ := ltz lp2
 obtain ⟨z3, z4, z5⟩ := ltz ld0
 go_upto_region 4 with fail
 go_cut [7] (fun s7 wx => ∃ n pa ca vb pd cd, s7 = .pointer (some ⟨n, 0, none⟩) ∧ Own w0 wx ((boxO n #[.slice pa oL.length ca, vb, .slice pd dN.length cd] 58).and ((slO 32 11 (.slice pa oL.length ca) oL.length (cellsR bunL oL)).and ((rdO nidL (.slice pd dN.length cd) dN).and ((rdeskO q R ⟨cols, rows, side, radius, speed, ids, queue⟩ kk D1).and ((slO 34 16 (.slice pq X.D.q.length cq) X.D.q.length (cellsR cmC X.D.q)).and ((boxO r #[.pointer (some ⟨q, 0, none⟩), (.slice pv X.L.length cv)] 123).and ((slO 32 11 (.slice pv X.L.length cv) X.L.length (cellsR bunL X.L)).and F))))))))
 case first =>
  go_region_held3 (fun W => (w2).heap.size ≤ W.heap.size ∧ ∀ b o, b < (w2).heap.size → W.cell? ⟨b, o, none⟩ = (w2).cell? ⟨b, o, none⟩) (with_reducible (repeat (first | assumption | exact s_refl _ | exact s_id _ | refine s_more _ _ ?_ | refine s_alloc _ ?_ | refine s_drew ?_))) (first | (go_at_call 23; refine (HRUN.out _ _ _ (HSL.out.keep bg) (HSQ.out.keep bg)).mono ?_; rintro e w' hq; obtain ⟨pa, ca, pb, cb, pd, cd, rfl, hbb, hm⟩ := hq.made; have HT := hid hm; clear hm; obtain ⟨d4, os4, rfl⟩ := more_of hbb; clear hbb hq))
  all_goals (go_wp2_with fail; go_meet)
  all_goals first
   | (have hq := own_fromB #[.slice pa oL.length ca, .slice pb gL.length cb, .slice pd dN.length cd] 58 H2.out HT.out
      rw [show (more w2.drew d4 os4).heap.size = w2.heap.size + os4.size by simp] at hq
      exact ⟨_, _, _, _, _, _, rfl, hq.inner fun _ h => and_assoc' h⟩)
   | (have hq := own_fromA #[.slice none 0 0, .slice none 0 0, .slice none 0 0] #[.slice pa oL.length ca, .slice pb gL.length cb, .slice pd dN.length cd] 58 58 H2.out HT.out
      exact ⟨_, _, _, _, _, _, rfl, hq.inner fun _ h => and_assoc' h⟩)
 obtain ⟨n, pa, ca, vb, pd, cd, rfl, h7⟩ := hcut
 obtain ⟨wx, rfl⟩ : ∃ wx : World, wx = wc := ⟨_, rfl⟩
 have b0 := h7.box.1 0
 simp at b0
 have ln := h7.box.2.2.1
 have h8 : Own w0 wx ((boxO r #[.pointer (some ⟨q, 0, none⟩), (.slice pv X.L.length cv)] 123).and _) := h7.sixth
 have lw := h8.box.2.2.1
 have x1 := h8.box.1 1
 simp at x1
 have fw := h8.box.2.1 1
 have hnp : r ≠ n := own_ne h8
 have h9 := (h8.set 1 (.slice pa oL.length ca)).fifth
 simp only [List.setIfInBounds_toArray, List.set_cons_zero, List.set_cons_succ] at h9
 obtain ⟨z6, z7, z8⟩ := ltz lw
 obtain ⟨w6, w7, w8⟩ := ltz ln
 clear h7 h8
 go_upto_region 6 with fail
 generalize wx.setCell _ _ = w9 at *
 have H9 := hid h9
 have u0 := h9.swap.box.1 0
 have u2 := h9.third.box.1 2
 simp at u0 u2
 have lw := h9.swap.box.2.2.1
 have ln := h9.third.box.2.2.1
 have HCG := hid (fun V (hV : Below w9.heap.size w9 V) => rclose_g (h9.grow hV) hkk (.slice pd dN.length cd) dN (h9.fifth.rd.keep hV).1 (fun f hf g hg => hav_r (hav_r (hav_r (hav_l fun f hf => by obtain ⟨_, h0⟩ := hf; exact (h0 g).2 hg))) f hf) hdl)
 rw [HCL.out] at HCG
 obtain ⟨z0, z1, z2⟩ := ltz lw
 obtain ⟨z3, z4, z5⟩ := ltz ln
 clear h9 b0 x0 x1 fw HCL H2 HSL HSQ HRUN y0 y1 y2 y3 y4 y5 y6 lp2 ld0 hnp z6 z7 z8 w6 w7 w8
 refine wp_region_still_tail 6 (by kernel_rfl) (by kernel_rfl) ?_
 simp only [List.take_succ_cons, List.take_zero, List.drop_succ_cons, List.drop_zero]
 repeat (first | still_step)
 refine wpStill_nil ?_
 go_wp2_with fail
 refine (HCG.out _ bg).mono ?_
 rintro e w10 ⟨rfl, h10⟩
 have u2 := h10.third.box.1 2
 simp at u2
 have ln := h10.third.box.2.2.1
 have h11 := (((h10.third.snd).fifth.snd).fifth.snd).swap
 have H11 := hid (rshut (X := ⟨D2, oL⟩) h11)
 obtain ⟨z3, z4, z5⟩ := ltz ln
 clear h10 h11 HCG H9 u0 lw z0 z1 z2
 go_wp2_with fail
 go_ret2
 exact ⟨_, _, rfl, H11.out⟩
theorem rwstep_i {w0 W : World} {F : Ob} {r q R : Nat} {c : Cfg} {kk : Int} {n : Nat} {X : Wo} (h : Own w0 W ((rworldO r q R c kk X).and F)) (ho : CfgOk c) (hi : WInv c n X) (hn : n ≤ 400) (hkk : kk ≤ 1000000) :
 Calls prog 33 #[.pointer (some ⟨r, 0, none⟩)] W fun e w' => ∃ pd cd, e = .returned (.tuple #[.slice pd (deadW c X).length cd, int i64 0]) ∧ Own w0 w' ((rworldO r q R c (kk + (deadW c X).length) (stepW c X).2).and ((rdO nidL (.slice pd (deadW c X).length cd) (deadW c X)).and F)) :=
 rwstep_ok h ho (by unfold beginB; rw [hi.op]; have := hi.t1; simp; omega) (fun b hb => good_fit (hi.good b hb).1.1) (fun m hm => cmd_fit (hi.qok m hm).1) (by have := hi.len; omega) (by have := dead_few hi; omega) hkk
theorem rin_cut {β : Type} {enc : β → List Value} {w : World} {p : Option Addr} {cap : Nat} {l : List β} (k : Nat) (h : RIn enc w (.slice p l.length cap) l) : RIn enc w (.slice p (l.take k).length cap) (l.take k) := by
 obtain ⟨p', cap', hv, h1, h2, h3, h4⟩ := h
 simp only [Value.slice.injEq, true_and] at hv
 obtain ⟨rfl, rfl⟩ := hv
 have hle : (l.take k).length ≤ l.length := by rw [List.length_take]; omega
 refine ⟨p, cap, rfl, by omega, h2, by omega, fun hn => ?_⟩
 obtain ⟨blk, off, rfl, h5, h6⟩ := h4 (fun e => hn (by rw [e]; simp))
 refine ⟨blk, off, rfl, h5, fun t u hu => h6 t u ?_⟩
 have e : cellsR enc l = cellsR enc (l.take k) ++ cellsR enc (l.drop k) := by rw [← cellsR_app, List.take_append_drop]
 rw [e, List.getElem?_append_left (List.getElem?_eq_some_iff.1 hu).1]
 exact hu
section
open Go.ChangeShapes Go.WideShapes Go.ChangeAt
theorem cells_cfg : prog.cellsOf 23 = 7 := by kernel_rfl
theorem read_cfg {H : Type} {enc : TypeId × Value → H} {w : World} {base : Nat} {spare : Nat → Bool} {held : Bool} {fuel : Nat} {c : List Value} {x : DataW H × List MemPlace} (h : DataW.trod enc prog w base spare held fuel 23 c = some x) :
 ∃ cols rows side radius speed ids queue : Int, c = [int i64 cols, int i64 rows, int i64 side, int i64 radius, int i64 speed, int i64 ids, int i64 queue] := by
 obtain ⟨xs, n, _, _, hc, hl, hf⟩ := DataW.trod_struct Tryz.underlying23 h
 rw [cells_cfg] at hc
 match c, hc with
 | [c0, c1, c2, c3, c4, c5, c6], _ =>
   match xs, hl with
   | [x0, x1, x2, x3, x4, x5, x6], _ =>
     have h0 := hf 0 _ rfl
     have h1 := hf 1 _ rfl
     have h2 := hf 2 _ rfl
     have h3 := hf 3 _ rfl
     have h4 := hf 4 _ rfl
     have h5 := hf 5 _ rfl
     have h6 := hf 6 _ rfl
     simp [cells_int] at h0 h1 h2 h3 h4 h5 h6
     obtain ⟨cols, e0, _⟩ := read_int h0
     obtain ⟨rows, e1, _⟩ := read_int h1
     obtain ⟨side, e2, _⟩ := read_int h2
     obtain ⟨radius, e3, _⟩ := read_int h3
     obtain ⟨speed, e4, _⟩ := read_int h4
     obtain ⟨ids, e5, _⟩ := read_int h5
     obtain ⟨queue, e6, _⟩ := read_int h6
     simp at e0 e1 e2 e3 e4 e5 e6
     subst e0 e1 e2 e3 e4 e5 e6
     exact ⟨cols, rows, side, radius, speed, ids, queue, rfl⟩
end
section
open Go.ChangeShapes Go.WideShapes Go.ChangeAt
theorem cellsR_split {β : Type} {enc : β → List Value} {size : Nat} (hk : ∀ x, (enc x).length = size) : ∀ (l : List β) (t : Nat) (u : Value), (cellsR enc l)[t]? = some u → ∃ b, l[t / size]? = some b ∧ (enc b)[t % size]? = some u := fun l t u h => by
 have hlt := (List.getElem?_eq_some_iff.1 h).1
 rw [cellsR_len enc size hk] at hlt
 have hs : 0 < size := by rcases Nat.eq_zero_or_pos size with h | h; · subst h; omega
                          · exact h
 have hd : t / size < l.length := (Nat.div_lt_iff_lt_mul hs).2 hlt
 refine ⟨l[t / size], List.getElem?_eq_getElem hd, ?_⟩
 have e := cellsR_get enc size hk l (t / size) (t % size) _ (List.getElem?_eq_getElem hd) (Nat.mod_lt _ hs)
 rw [← e, Nat.mul_comm, Nat.div_add_mod]
 exact h
section
variable {H : Type} {enc : TypeId × Value → H} {W : World} {base : Nat} {spare : Nat → Bool} {held : Bool} {fuel : Nat}
theorem slice_cells {β : Type} {en : β → List Value} {size : Nat} (hk : ∀ x, (en x).length = size) (hs : 0 < size) {Good : β → Prop} {TS T : TypeId} (hT : prog.underlying TS = some (.slice T)) (hz : prog.cellsOf T = size)
 (rd : ∀ {fuel : Nat} {c : List Value} {x : DataW H × List MemPlace}, DataW.trod enc prog W base spare held fuel T c = some x → ∃ b, c = en b ∧ Good b)
 {c : List Value} {x : DataW H × List MemPlace} (h : DataW.trod enc prog W base spare held fuel TS c = some x) : ∃ p cap l, c = [.slice p l.length cap] ∧ RIn en W (.slice p l.length cap) l ∧ ∀ b ∈ l, Good b := by
 rcases Go.Deep.open_slice hT h with ⟨h0, _⟩ | ⟨⟨b, off, sp⟩, len, cap, m, n, D, Pl, h0, _, hl, hm, hmm, _, hi⟩
 · exact ⟨none, 0, [], h0, ⟨none, 0, rfl, by simp [maxLen], fun _ => rfl, Nat.le_refl _, fun h => absurd rfl h⟩, by simp⟩
 · subst h0
   have hle : len ≤ m := by rw [hmm]; split <;> omega
   rw [hz] at hi
   by_cases hz0 : len = 0
   · subst hz0
     exact ⟨_, cap, [], rfl, ⟨_, cap, rfl, by simp [maxLen], (fun h => by cases h), Nat.zero_le _, fun h => absurd rfl h⟩, by simp⟩
   have hsp : sp = none := by
    obtain ⟨cs', hc, ht⟩ := hi 0 (by omega)
    obtain ⟨_, hlen, hcell⟩ := World.cells?_some hc
    have hc0 := hcell 0 (by omega)
    rw [List.getElem?_eq_getElem (by omega)] at hc0
    simp only [Addr.add, Nat.zero_mul, if_true] at hc0
    cases sp with
    | none => rfl
    | some q =>
      simp only [World.cell?, Option.isSome_some, if_true] at hc0
      split at hc0 <;> cases hc0
   subst hsp
   have hq : ∀ q, q < len → ∃ c : β, (∀ j, j < size → W.cell? ⟨b, off + q * size + j, none⟩ = (en c)[j]?) ∧ Good c := by
    intro q hql
    obtain ⟨cs', hc, ht⟩ := hi q (by omega)
    obtain ⟨_, hlen, hcell⟩ := World.cells?_some hc
    obtain ⟨y, rfl, hfit⟩ := rd ht
    refine ⟨y, fun j hj => ?_, hfit⟩
    have e : (⟨b, off + q * size + j, none⟩ : Addr) = ((⟨b, off, none⟩ : Addr).add (q * size)).add j := by
     unfold Addr.add
     by_cases h1 : q * size = 0
     · by_cases h2 : j = 0 <;> simp [h1, h2]
     · by_cases h2 : j = 0 <;> simp [h1, h2]
    rw [e]
    exact hcell j hj
   obtain ⟨l, hll, hlp⟩ := list_of len hq
   subst hll
   refine ⟨_, cap, l, rfl, ⟨some ⟨b, off, none⟩, cap, rfl, by omega, (fun h => by cases h), by omega, fun hn => ⟨b, off, rfl, ?_, fun t u hu => ?_⟩⟩, fun c hc => ?_⟩
   · have h1 : 0 < l.length := List.length_pos_iff.2 hn
     have h0 := (hlp 0 l[0] (List.getElem?_eq_getElem h1)).1 0 hs
     have h2 : 0 < (en l[0]).length := by rw [hk]; exact hs
     rw [List.getElem?_eq_getElem h2] at h0
     exact World.block_lt_of_cell? W _ h0
   · obtain ⟨c, hc, hcu⟩ := cellsR_split hk l t u hu
     have h1 := (hlp _ c hc).1 (t % size) (Nat.mod_lt _ hs)
     rw [show off + t = off + t / size * size + t % size by rw [Nat.add_assoc, Nat.mul_comm, Nat.div_add_mod], h1, hcu]
   · obtain ⟨q, hi', e⟩ := List.getElem_of_mem hc
     exact (hlp q c (by rw [← e]; exact List.getElem?_eq_getElem hi')).2
end
theorem read_cmdF {H : Type} {enc : TypeId × Value → H} {w : World} {base : Nat} {spare : Nat → Bool} {held : Bool} {fuel : Nat} {c : List Value} {x : DataW H × List MemPlace} (h : DataW.trod enc prog w base spare held fuel 34 c = some x) : ∃ m : Cm, c = cmC m ∧ CmFit m := by
 obtain ⟨xs, n, _, _, hc, hl, hf⟩ := DataW.trod_struct Tryz.underlying34 h
 rw [cells_cmd] at hc
 match c, hc with
 | [c0, c1, c2, c3, c4, c5, c6, c7, c8, c9, c10, c11, c12, c13, c14, c15], _ =>
   match xs, hl with
   | [x0, x1, x2, x3], _ =>
     have h0 := hf 0 _ rfl
     have h1 := hf 1 _ rfl
     have h2 := hf 2 _ rfl
     have h3 := hf 3 _ rfl
     simp [cells_int, cells_id, cells_bun] at h0 h1 h2 h3
     obtain ⟨k, e0, _⟩ := read_int h0
     obtain ⟨s, i, g, e1, _⟩ := read_id h1
     obtain ⟨es, ei, eg, m, x, y, vx, vy, hp, pw, lf, e2, hb⟩ := read_bun h2
     obtain ⟨mask, e3, hk⟩ := read_int h3
     simp at e0 e1 e2 e3
     obtain ⟨e10, e11, e12⟩ := e1
     obtain ⟨f0, f1, f2, f3, f4, f5, f6, f7, f8, f9, f10⟩ := e2
     subst e0 e10 e11 e12 f0 f1 f2 f3 f4 f5 f6 f7 f8 f9 f10 e3
     exact ⟨⟨k, s, i, g, ⟨es, ei, eg, m, x, y, vx, vy, hp, pw, lf⟩, mask⟩, rfl, hb, hk⟩
end
section
open Go.ChangeShapes Go.WideShapes Go.ChangeAt
structure Tn where
 (st : Bool) (m : Cm)
def tnL (t : Tn) : List Value := .bool t.st :: cmC t.m
theorem tnL_len (t : Tn) : (tnL t).length = 17 := rfl
theorem cells_turn : prog.cellsOf 48 = 17 := by kernel_rfl
theorem cells_bool17 : prog.cellsOf 4 = 1 := by kernel_rfl
section
variable {H : Type} {enc : TypeId × Value → H} {W : World} {base : Nat} {spare : Nat → Bool} {held : Bool} {fuel : Nat}
theorem read_turn {c : List Value} {x : DataW H × List MemPlace} (h : DataW.trod enc prog W base spare held fuel 48 c = some x) : ∃ t : Tn, c = tnL t ∧ CmFit t.m := by
 obtain ⟨xs, n, _, _, hc, hl, hf⟩ := DataW.trod_struct Tryz.underlying48 h
 rw [cells_turn] at hc
 match c, hc with
 | [c0, c1, c2, c3, c4, c5, c6, c7, c8, c9, c10, c11, c12, c13, c14, c15, c16], _ =>
   match xs, hl with
   | [x0, x1], _ =>
     have h0 := hf 0 _ rfl
     have h1 := hf 1 _ rfl
     simp [cells_bool17, cells_cmd] at h0 h1
     obtain ⟨st, e0, _⟩ := DataW.trod_bool Tryz.underlying4 h0
     obtain ⟨m, e1, hm⟩ := read_cmdF h1
     obtain ⟨k, s, i, g, ⟨es, ei, eg, mk, x, y, vx, vy, hp, pw, lf⟩, mask⟩ := m
     simp [cmC, bunL] at e0 e1
     obtain ⟨f0, f1, f2, f3, f4, f5, f6, f7, f8, f9, f10, f11, f12, f13, f14, f15⟩ := e1
     subst e0 f0 f1 f2 f3 f4 f5 f6 f7 f8 f9 f10 f11 f12 f13 f14 f15
     exact ⟨⟨st, ⟨k, s, i, g, ⟨es, ei, eg, mk, x, y, vx, vy, hp, pw, lf⟩, mask⟩⟩, rfl, hm⟩
end
theorem turns_in {H : Type} {enc : TypeId × Value → H} {W : World} {base b0 : Nat} {spare : Nat → Bool} {held : Bool} {r : Reach} {v : Value} {d : DataW H} {p : List MemPlace} (hv : Value.okWide prog W r b0 24 v) (h : DataW.Trod enc prog W base spare held 24 v d p) : ∃ zs, RIn tnL W v zs ∧ ∀ t ∈ zs, CmFit t.m := by
 obtain ⟨a, len, cap, rfl⟩ := Go.WideShapes.okWide_slice Tryz.underlying24 hv
 obtain ⟨fuel, hf⟩ := h
 have hf' : DataW.trod enc prog W base spare held fuel 24 [.slice a len cap] = some (d, p) := by simpa [Value.cells] using hf
 obtain ⟨p', cap', l, e, hr, hg⟩ := slice_cells (en := tnL) (size := 17) (Good := fun t => CmFit t.m) tnL_len (by omega) Tryz.underlying24 cells_turn (fun ht => read_turn ht) hf'
 simp only [List.cons.injEq, and_true] at e
 rw [e]
 exact ⟨l, hr, hg⟩
theorem few17_any (pt : Option Addr) (ct : Nat) (zs : List Tn) (w : World) (h : RIn tnL w (.slice pt zs.length ct) zs) : Calls prog 18 #[.slice pt zs.length ct] w fun e w' => e = .returned (.slice pt (zs.take 60).length ct) ∧ Below w.heap.size w w' := by
 obtain ⟨p, cap, he, h1, h2, h3, h4⟩ := h
 simp only [Value.slice.injEq, true_and] at he
 obtain ⟨rfl, rfl⟩ := he
 clear h4
 by_cases hn : (zs.length : Int) > 60
 · have e : (zs.take 60).length = 60 := by rw [List.length_take]; omega
   rw [e]
   go_enter Tryz.func18, Tryz.ntmps18
   go_wp2_with fail
   go_ret
   exact ⟨rfl, bg⟩
 · have e : zs.take 60 = zs := List.take_of_length_le (by omega)
   rw [e]
   go_enter Tryz.func18, Tryz.ntmps18
   go_wp2_with fail
   go_ret
   exact ⟨rfl, bg⟩
attribute [local go_sem ↓] loadVar_ldM storeVar_stM
end
end Go.Proofs.YtoimjjhopljdmaaGreat
