/-
  Chapter texts ClN WoE: what the claim reaches of them. Conditions stand at each theorem.
-/
import Derived.Test.YtoimjjhopljdmaaGreatQ07
import Derived.Test.YtoimjjhopljdmaaGreatQ08
import Derived.Test.YtoimjjhopljdmaaGreatQ32
import Derived.Test.YtoimjjhopljdmaaGreatQ38
namespace Go.Proofs.YtoimjjhopljdmaaGreat
open Go.RowKit Go.Shelf

theorem sl_emptyN (W : World) : Sl (W.alloc (.cells #[] 30)) 30 3 (.slice (some ⟨W.heap.size, 0, none⟩) 0 0) 0 [] := ⟨rfl, .inr ⟨W.heap.size, 0, 0, #[], rfl, heap_alloc_new W _, Nat.le_refl _, by simp [maxLen], by simp, fun j u hj => by cases hj⟩⟩
theorem rnew_ofN {w w1 : World} {l : List Nid} {v v' : Value} (o : Obj) (hv : v.ownBlock = some w.heap.size) (hs : Sl w1 30 3 v' (0 + l.length) ([] ++ cellsR nidL l)) (ht : Turned (w.alloc o) w1 v.ownBlock)
    (ho : v'.ownBlock = v.ownBlock ∨ ∃ g, v'.ownBlock = some g ∧ (w.alloc o).heap.size ≤ g) : RNew nidL 30 3 w w1 v' l := by
  rw [Nat.zero_add, List.nil_append] at hs
  have hsz := ht.size
  rw [World.size_alloc] at hsz
  refine ⟨hs, ((Below.refl w.heap.size w).alloc (Nat.le_refl _) o).trans ⟨ht.os, ht.tape, ht.output, ht.size, fun k hk => ht.block k (by rw [World.size_alloc]; omega) (fun e => by rw [hv] at e; simp at e; omega)⟩, fun g hg => ?_⟩
  rcases ho with e | ⟨g', e, hg'⟩
  · rw [e, hv] at hg; simp at hg; omega
  · rw [e] at hg; simp at hg; rw [World.size_alloc] at hg'; omega

set_option maxRecDepth 100000 in
theorem cloneN_any (v : Value) (l : List Nid) (w : World) (h : RIn nidL w v l) (hl : l.length ≤ 1000000) :
    Calls Tryz.prog 61 #[v] w fun e w' => ∃ v', e = .returned v' ∧ RNew nidL 30 3 w w' v' l := by
  obtain ⟨i0, hi0, hz0, hz1, hz2⟩ := info_partsG info_nid
  obtain ⟨p, cap, rfl, h1, h2, h3, h4⟩ := h
  have HS := Lib.hid sl_emptyN
  by_cases hn : l = []
  · subst hn
    clear h4 h1
    cases p with
    | none =>
      obtain rfl := h2 rfl
      clear h2 h3
      have hnil := fun W : World => Lib.run_eql_slice_nil (P := Tryz.prog) W 56 30 none 0 0 0 0 Tryz.underlying56
      go_enter Tryz.func61, Tryz.ntmps61
      go_wp2_with fail
      go_ret
      exact ⟨_, rfl, ⟨rfl, .inl ⟨rfl, rfl⟩⟩, (by repeat' (first | (with_reducible exact Below.refl _ _) | (with_reducible assumption) | (with_reducible refine below_drewN ?_ _) | (with_reducible refine below_more _ _ _ ?_ ?_) | (with_reducible refine Below.alloc ?_ ?_ _) | (with_reducible refine Below.drew ?_) | (with_reducible refine Below.setCell ?_ ?_ _) | go_size)), fun g hg => by cases hg⟩
    | some a =>
      clear h2
      have hnil := fun W : World => Lib.run_eql_slice_nil (P := Tryz.prog) W 56 30 (some a) 0 cap 0 0 Tryz.underlying56
      go_enter Tryz.func61, Tryz.ntmps61
      go_wp2_with (at_builtin; refine wpList_append_zero (by rfl) _ _ 56 (by rfl) 30 i0 Tryz.underlying56 hi0 _ _ 0 0 _ (by rfl) (by rfl) (Nat.le_refl _) ?_)
      go_ret
      exact ⟨_, rfl, HS.out w, (by repeat' (first | (with_reducible exact Below.refl _ _) | (with_reducible assumption) | (with_reducible refine below_drewN ?_ _) | (with_reducible refine below_more _ _ _ ?_ ?_) | (with_reducible refine Below.alloc ?_ ?_ _) | (with_reducible refine Below.drew ?_) | (with_reducible refine Below.setCell ?_ ?_ _) | go_size)), fun g hg => by simp [Value.ownBlock] at hg; omega⟩
  · obtain ⟨blk, off, rfl, h5, h6⟩ := h4 hn
    have hn0 : 0 < l.length := List.length_pos_iff.2 hn
    have hcw : ∀ j u, (cellsR nidL l)[j]? = some u → (w.alloc (.cells #[] 30)).cell? (Addr.add ⟨blk, off, none⟩ j) = some u := fun j u hj => by
      have h := h6 j u hj
      rw [show Addr.add ⟨blk, off, none⟩ j = ⟨blk, off + j, none⟩ from by unfold Addr.add; split <;> simp_all]
      exact cell_keep ((Below.refl _ _).alloc (Nat.le_refl _) _) h
    have HW := Lib.hid hcw
    have H1 := Lib.hid (cellsR_mem nidL (l := l) nidL_one)
    have HX := Lib.hid (cellsR_len nidL 3 nidL_len l)
    clear hcw h4 h6 h2 hn h1
    have hnil := fun W : World => Lib.run_eql_slice_nil (P := Tryz.prog) W 56 30 (some ⟨blk, off, none⟩) l.length cap 0 0 Tryz.underlying56
    go_enter Tryz.func61, Tryz.ntmps61
    go_wp2_with (at_builtin; refine wpList_append_sl _ (by rfl) _ _ 56 (by rfl) 30 i0 _ 3 24 Tryz.underlying56 hi0 hz0 hz1 hz2 rfl (by omega) _ 0 [] (by rfl) (HS.out _) ⟨blk, off, none⟩ l.length cap (cellsR nidL l) (by rfl) HX.out HW.out H1.out hn0 (by unfold maxLen; omega) (by omega) ?_; intro v' w1 hs1 ht ho)
    go_ret
    exact ⟨_, rfl, rnew_ofN _ rfl hs1 ht ho⟩
end Go.Proofs.YtoimjjhopljdmaaGreat
namespace Go.Proofs.YtoimjjhopljdmaaGreat
open Go.RowKit

def twoS (va : Value) (l : List Bun) (vd : Value) (dn : List Nid) : Ob where
  holds w o := Sl w 32 11 va l.length (cellsR bunL l) ∧ Sl w 30 3 vd dn.length (cellsR nidL dn) ∧ ∀ x, o x ↔ va.ownBlock = some x ∨ vd.ownBlock = some x
  lt := by
    rintro w o ⟨h1, h2, h3⟩ b hb
    rcases (h3 b).1 hb with e | e
    · exact sl_lt h1 e
    · exact sl_lt h2 e
  keep := by
    rintro w w' o ⟨h1, h2, h3⟩ hk
    exact ⟨h1.keep fun g hg => hk g ((h3 g).2 (.inl hg)), h2.keep fun g hg => hk g ((h3 g).2 (.inr hg)), h3⟩
section
variable {w0 W W' : World} {F G X A : Ob} {va vd : Value} {l : List Bun} {dn : List Nid}
theorem made_two (h1 : BNew W W' va l) (h2 : RNew nidL 30 3 W W' vd dn) : Made W W' (twoS va l vd dn) :=
  ⟨fun x => va.ownBlock = some x ∨ vd.ownBlock = some x, ⟨h1.1, h2.1, fun _ => Iff.rfl⟩, h1.2.1, fun x hx => hx.elim (h1.2.2 x) (h2.2.2 x)⟩
theorem own_two (h : Own w0 W ((twoS va l vd dn).and F)) : Own w0 W ((slO 32 11 va l.length (cellsR bunL l)).and F) := by
  obtain ⟨o, ⟨a, f, ⟨h1, h2, h0⟩, h3, h4, h5⟩, h6, h7⟩ := h
  exact ⟨fun x => va.ownBlock = some x ∨ f x, ⟨fun x => va.ownBlock = some x, f, ⟨h1, fun _ => Iff.rfl⟩, h3, fun x hx => h4 x ((h0 x).2 (.inl hx)), fun _ => Iff.rfl⟩, fun x hx => h6 x ((h5 x).2 (hx.imp (fun e => (h0 x).2 (.inl e)) id)), h7⟩
theorem two_sl (h : Own w0 W ((twoS va l vd dn).and F)) : Sl W 32 11 va l.length (cellsR bunL l) ∧ Sl W 30 3 vd dn.length (cellsR nidL dn) := by
  obtain ⟨o, ⟨a, f, ⟨h1, h2, h0⟩, _⟩, _⟩ := h
  exact ⟨h1, h2⟩
theorem own_drew (h : Own w0 W F) : Own w0 W.drew F := h.grow (show Below W.heap.size W W.drew from (by repeat' (first | (with_reducible exact Below.refl _ _) | (with_reducible assumption) | (with_reducible refine below_drewN ?_ _) | (with_reducible refine below_more _ _ _ ?_ ?_) | (with_reducible refine Below.alloc ?_ ?_ _) | (with_reducible refine Below.drew ?_) | (with_reducible refine Below.setCell ?_ ?_ _) | go_size)))
theorem own_fromB (arr : Array Value) (T : TypeId) (h : Own w0 W F) (hm : Made W.drew W' X) : Own w0 (W'.alloc (.cells arr T)) ((boxO W'.heap.size arr T).and (X.and F)) := ((own_drew h).made hm).made (made_box W' arr T)
theorem own_fromA (arr0 arr : Array Value) (T T' : TypeId) {d : Nat} {os : Array Obj} (h : Own w0 W F) (hm : Made (W.drew.alloc (.cells arr0 T')) (more (W.drew.alloc (.cells arr0 T')) d os) X) :
    Own w0 (more (W.drew.alloc (.cells arr T)) d os) ((boxO W.heap.size arr T).and (X.and F)) := by
  obtain ⟨b, h1, h2, h3⟩ := hm
  have e0 : (W.drew.alloc (.cells arr0 T')).heap.size = W.heap.size + 1 := by simp
  have e1 : (W.drew.alloc (.cells arr T)).heap.size = W.heap.size + 1 := by simp
  have hX : X.holds (more (W.drew.alloc (.cells arr T)) d os) b := X.keep _ _ _ h1 fun x hx => by
    have := h3 x hx
    simp only [more]
    rw [Array.getElem?_append_right (by omega), Array.getElem?_append_right (by omega), e0, e1]
  exact (((own_drew h).made (made_box W.drew arr T)).made ⟨b, hX, more_below _ _ _, fun x hx => by have := h3 x hx; omega⟩).swap
theorem close_g {d : Nat} {c : Cfg} {D : Dk} (h : Own w0 W ((deskO d c D).and F)) (v : Value) (ln : List Nid) (hv : RIn nidL W v ln) (hav : ∀ f, F.holds W f → ∀ g, v.ownBlock = some g → f g) (hl : ln.length ≤ 1000) :
    Calls Tryz.prog 60 #[.pointer (some ⟨d, 0, none⟩), v] W fun e w' => e = .returned (.tuple #[.int .i64 (closeF D ln).1.1, .int .i64 (closeF D ln).1.2]) ∧ Own w0 w' ((deskO d c (closeF D ln).2).and F) := by
  have h' := h
  obtain ⟨o, ⟨a, f, h1, h2, h3, h4⟩, h5, h6⟩ := h
  have hna : Calls Tryz.prog 60 #[.pointer (some ⟨d, 0, none⟩), v] W fun e w' => e = .returned (.tuple #[.int .i64 (closeF D ln).1.1, .int .i64 (closeF D ln).1.2]) ∧ Gone a W w' (deskO d c (closeF D ln).2) := by
    obtain ⟨dl, hp, hd, ha⟩ := h1
    subst hp
    unfold closeF
    cases hop : D.op with
    | false =>
      rw [if_pos rfl]
      obtain ⟨p', cap, rfl, _⟩ := hv
      exact (close_shut W dl c D hd _ hop ⟨_, _, _, rfl⟩).mono fun _ _ ⟨g1, g2⟩ => ⟨g1, (DStp.of_grown hd g2).gone ha⟩
    | true =>
      rw [if_neg (by simp)]
      exact (close_ok W dl c D hd v ln hop hv (fun hne g hg e => h3 g ((ha g).2 (.inl e)) (hav f h2 g hg)) (by omega)).mono fun _ _ ⟨g1, g2⟩ => ⟨g1, g2.gone ha⟩
  refine hna.mono fun e w' ⟨hr, b, q1, q2, q3⟩ => ⟨hr, ?_⟩
  refine ⟨fun x => b x ∨ f x, ⟨b, f, q1, F.keep _ _ _ h2 fun x hx => q2.block x (F.lt _ _ h2 x hx) fun e => h3 x e hx, fun x hb hf => ?_, fun x => Iff.rfl⟩, fun x hx => ?_, h6.trans (q2.below h6.size fun x hx => h5 x ((h4 x).2 (.inl hx)))⟩
  · rcases q3 x hb with e | e
    · exact h3 x e hf
    · have := F.lt _ _ h2 x hf; omega
  · rcases hx with e | e
    · exact (q3 x e).elim (fun h => h5 x ((h4 x).2 (.inl h))) fun h => Nat.le_trans h6.size h
    · exact h5 x ((h4 x).2 (.inr e))
theorem hav_r {g : Nat} (h : ∀ f, G.holds W f → f g) : ∀ f, (A.and G).holds W f → f g := by
  rintro f ⟨a, b, _, h2, _, h4⟩
  exact (h4 g).2 (.inr (h b h2))
theorem hav_l {g : Nat} (h : ∀ f, A.holds W f → f g) : ∀ f, (A.and G).holds W f → f g := by
  rintro f ⟨a, b, h1, _, _, h4⟩
  exact (h4 g).2 (.inl (h a h1))
theorem own_ne {n m : Nat} {a b : Array Value} {T T' : TypeId} (h : Own w0 W ((boxO n a T).and ((boxO m b T').and F))) : n ≠ m := by
  obtain ⟨o, ⟨x, f, ⟨_, hx⟩, ⟨y, f2, ⟨_, hy⟩, _, _, h5⟩, h3, _⟩, _⟩ := h
  intro e
  exact h3 n ((hx n).2 rfl) ((h5 n).2 (.inl ((hy n).2 e)))
theorem desk_map {d : Nat} {c : Cfg} {D : Dk} (h : Own w0 W ((deskO d c D).and F)) : ∃ bm, W.cell? ⟨d, 0, none⟩ = some (.pointer (some ⟨bm, 0, none⟩)) ∧ MapAt W bm c ∧ d < W.heap.size := by
  obtain ⟨o, ⟨a, f, ⟨dl, hp, hd, ha⟩, _⟩, _⟩ := h
  subst hp
  have c0 := hd.cell 0
  simp [deskC] at c0
  exact ⟨dl.bm, c0, hd.map, lt_of_heap hd.box⟩
end
set_option maxRecDepth 100000 in
set_option maxHeartbeats 8000000 in
theorem wstep_ok {w0 W : World} {F : Ob} {p : Nat} {c : Cfg} {X : Wo} (h : Own w0 W ((worldO p c X).and F)) (ho : CfgOk c) (hb : beginB X.D = false) (hf1 : ∀ b ∈ X.L, BFit b) (hf3 : ∀ m ∈ X.D.q, CmFit m) (hl : X.L.length ≤ 400) (hdl : (deadW c X).length ≤ 1000) :
    Calls Tryz.prog 25 #[.pointer (some ⟨p, 0, none⟩)] W fun e w' => ∃ v, e = .returned (.tuple #[v, .int .i64 0]) ∧ Own w0 w' ((worldO p c (stepW c X).2).and ((slO 30 3 v (deadW c X).length (cellsR nidL (deadW c X))).and F)) := by
  have hbg : beginF X.D = ((X.D.t + 1, X.D.q, 0), { X.D with q := [], t := X.D.t + 1, op := true }) := by unfold beginF; rw [hb]; rfl
  have hsw : (stepW c X).2 = ⟨(closeF { X.D with q := [], t := X.D.t + 1, op := true } (deadW c X)).2, (ownL c (-1) X.L [] X.D.q)⟩ := by
    unfold stepW
    rw [hbg]
    rfl
  rw [hsw]
  clear hsw
  obtain ⟨d, v, h⟩ := wopen h
  have hq64 : X.D.q.length ≤ 64 := by have := h.swap.dbounds.1; have := ho.q1; omega
  have hc2 := ho.cnt
  have hbx := h.box
  have x0 := hbx.1 0
  have x1 := hbx.1 1
  simp at x0 x1
  have lp := hbx.2.2.1
  obtain ⟨z0, z1, z2⟩ := ltz lp
  have HOP := Lib.hid (open_o h.swap)
  rw [hbg] at HOP
  simp only at HOP
  have HRUN : Hid (∀ V bm vo vq, MapAt V bm c → BIn V vo X.L → RIn cmC V vq X.D.q → Calls Tryz.prog 59 #[.pointer (some ⟨bm, 0, none⟩), .int .i64 (-1), vo, .slice none 0 0, vq] V (RunN V (ownL c (-1) X.L [] X.D.q) (goneL c (-1) X.L [] X.D.q) (deadW c X))) := Lib.hid (fun V bm vo vq hm h1 h3 => prun_new bm c (-1) vo (.slice none 0 0) vq X.L [] X.D.q V hm ho (by omega) (by omega) h1 (BNew.nil V).bin h3 hf1 hf3 hl (by simp) (by omega))
  generalize hol : (ownL c (-1) X.L [] X.D.q) = oL at *
  generalize hgl : goneL c (-1) X.L [] X.D.q = gL at *
  generalize hdn : deadW c X = dN at *
  generalize hD1 : ({ X.D with q := [], t := X.D.t + 1, op := true } : Dk) = D1 at *
  generalize hcl : closeF D1 dN = cl at *
  have HCL := Lib.hid hcl
  obtain ⟨⟨cl1, cl2⟩, D2⟩ := cl
  clear hb hbg hf1 hf3 hl hol hgl hdn hD1 hcl hbx h hc2
  go_enter Tryz.func25, Tryz.ntmps25
  go_wp2_with fail
  refine HOP.out.mono ?_
  rintro e w2 ⟨vq, rfl, h2⟩
  obtain ⟨pq, cq, rfl⟩ := sl_frm h2.assoc.swap.sl.1
  have H2 := Lib.hid h2.assoc
  obtain ⟨bm, m0, hm0, ld0⟩ := desk_map h2.assoc
  have HM0 := Lib.hid hm0
  have hbx := h2.assoc.third.box
  have y0 := hbx.1 0
  have y1 := hbx.1 1
  simp at y0 y1
  have lp2 := hbx.2.2.1
  have hsl := h2.assoc.fourth.sl.1
  obtain ⟨pv, cv, rfl⟩ := sl_frm hsl
  have HSL := Lib.hid (BIn.of_sl hsl)
  have HSQ := Lib.hid (RIn.of_sl h2.assoc.swap.sl.1)
  clear hbx h2 hm0 hsl HOP x0 x1 lp z0 z1 z2
  obtain ⟨z0, z1, z2⟩ := ltz lp2
  obtain ⟨z3, z4, z5⟩ := ltz ld0
  go_upto_region 6 with fail
  go_cut [7] (fun s7 wx => ∃ n pa ca vb pd cd, s7 = .pointer (some ⟨n, 0, none⟩) ∧ Own w0 wx ((boxO n #[.slice pa oL.length ca, vb, .slice pd dN.length cd] 108).and ((twoS (.slice pa oL.length ca) oL (.slice pd dN.length cd) dN).and ((deskO d c D1).and ((slO 34 16 (.slice pq X.D.q.length cq) X.D.q.length (cellsR cmC X.D.q)).and ((boxO p #[.pointer (some ⟨d, 0, none⟩), (.slice pv X.L.length cv)] 83).and ((slO 32 11 (.slice pv X.L.length cv) X.L.length (cellsR bunL X.L)).and F)))))))
  case first =>
    go_region_held3 (fun W => (w2).heap.size ≤ W.heap.size ∧ ∀ b o, b < (w2).heap.size → W.cell? ⟨b, o, none⟩ = (w2).cell? ⟨b, o, none⟩) (with_reducible (repeat (first | assumption | exact s_refl _ | exact s_id _ | refine s_more _ _ ?_ | refine s_alloc _ ?_ | refine s_drew ?_))) (first | (go_at_call 59; refine (HRUN.out _ bm _ _ (HM0.out.grow (by repeat' (first | (with_reducible exact Below.refl _ _) | (with_reducible assumption) | (with_reducible refine below_drewN ?_ _) | (with_reducible refine below_more _ _ _ ?_ ?_) | (with_reducible refine Below.alloc ?_ ?_ _) | (with_reducible refine Below.drew ?_) | (with_reducible refine Below.setCell ?_ ?_ _) | go_size))) (HSL.out.keep (by repeat' (first | (with_reducible exact Below.refl _ _) | (with_reducible assumption) | (with_reducible refine below_drewN ?_ _) | (with_reducible refine below_more _ _ _ ?_ ?_) | (with_reducible refine Below.alloc ?_ ?_ _) | (with_reducible refine Below.drew ?_) | (with_reducible refine Below.setCell ?_ ?_ _) | go_size))) (HSQ.out.keep (by repeat' (first | (with_reducible exact Below.refl _ _) | (with_reducible assumption) | (with_reducible refine below_drewN ?_ _) | (with_reducible refine below_more _ _ _ ?_ ?_) | (with_reducible refine Below.alloc ?_ ?_ _) | (with_reducible refine Below.drew ?_) | (with_reducible refine Below.setCell ?_ ?_ _) | go_size)))).mono ?_; rintro e w' ⟨va, vb, vd, rfl, hbb, g1, g2, g3⟩; obtain ⟨pa, ca, rfl⟩ := sl_frm g1.1; obtain ⟨pd, cd, rfl⟩ := sl_frm g3.1; obtain ⟨pb, cb, rfl⟩ := sl_frm g2.1; have HT := Lib.hid (made_two g1 g3); clear g1 g2 g3; obtain ⟨d4, os4, rfl⟩ := more_of hbb; clear hbb))
    all_goals (go_wp2_with fail; go_meet)
    all_goals first
      | (have hq := own_fromB #[.slice pa oL.length ca, .slice pb gL.length cb, .slice pd dN.length cd] 108 H2.out HT.out
         rw [show (more w2.drew d4 os4).heap.size = w2.heap.size + os4.size by simp] at hq
         exact ⟨_, _, _, _, _, _, rfl, hq⟩)
      | (have hq := own_fromA #[.slice none 0 0, .slice none 0 0, .slice none 0 0] #[.slice pa oL.length ca, .slice pb gL.length cb, .slice pd dN.length cd] 108 108 H2.out HT.out
         exact ⟨_, _, _, _, _, _, rfl, hq⟩)
  obtain ⟨n, pa, ca, vb, pd, cd, rfl, h7⟩ := hcut
  obtain ⟨wx, rfl⟩ : ∃ wx : World, wx = wc := ⟨_, rfl⟩
  have b0 := h7.box.1 0
  have b2 := h7.box.1 2
  simp at b0 b2
  have ln := h7.box.2.2.1
  have h8 := h7.fifth
  have lw := h8.box.2.2.1
  have y0 := h8.box.1 0
  have y1 := h8.box.1 1
  simp at y0 y1
  have fw := h8.box.2.1 1
  have hnp : n ≠ p := own_ne h8.swap
  have h9 := (h8.set 1 (.slice pa oL.length ca)).fourth
  simp only [List.setIfInBounds_toArray, List.set_cons_zero, List.set_cons_succ] at h9
  clear h7 h8
  go_upto_region 8 with fail
  generalize wx.setCell _ _ = w9 at *
  have H9 := Lib.hid h9
  have u0 := h9.swap.box.1 0
  have u2 := h9.third.box.1 2
  simp at u0 u2
  have lw := h9.swap.box.2.2.1
  have ln := h9.third.box.2.2.1
  have htw := two_sl h9.fourth
  have HCG := Lib.hid (fun V (hV : Below w9.heap.size w9 V) => close_g (h9.grow hV) (.slice pd dN.length cd) dN (RIn.of_sl (two_sl (h9.grow hV).fourth).2) (fun f hf g hg => hav_r (hav_r (hav_l fun f hf => by obtain ⟨_, _, h0⟩ := hf; exact (h0 g).2 (.inr hg))) f hf) hdl)
  rw [HCL.out] at HCG
  obtain ⟨z0, z1, z2⟩ := ltz lw
  obtain ⟨z3, z4, z5⟩ := ltz ln
  clear h9 b0 b2 y0 y1 fw htw HCL H2 HM0 HSL HSQ HRUN m0 lp2 ld0 hnp
  refine wp_region_still_tail 6 (by kernel_rfl) (by kernel_rfl) ?_
  simp only [List.take_succ_cons, List.take_zero, List.drop_succ_cons, List.drop_zero]
  repeat (first | still_step)
  refine wpStill_nil ?_
  go_wp2_with fail
  refine (HCG.out _ (by repeat' (first | (with_reducible exact Below.refl _ _) | (with_reducible assumption) | (with_reducible refine below_drewN ?_ _) | (with_reducible refine below_more _ _ _ ?_ ?_) | (with_reducible refine Below.alloc ?_ ?_ _) | (with_reducible refine Below.drew ?_) | (with_reducible refine Below.setCell ?_ ?_ _) | go_size))).mono ?_
  rintro e w10 ⟨rfl, h10⟩
  have H10 := Lib.hid h10
  have u2 := h10.third.box.1 2
  simp at u2
  have ln := h10.third.box.2.2.1
  have HCN := Lib.hid (cloneN_any (.slice pd dN.length cd) dN w10 (RIn.of_sl (two_sl h10.fourth).2) (by omega))
  clear h10 HCG H9 u0 lw z0 z1 z2 z3 z4 z5
  go_wp2_with fail
  refine HCN.out.mono ?_
  rintro e w11 ⟨v9, rfl, hn9⟩
  obtain ⟨p9, c9, rfl⟩ := sl_frm hn9.1
  have h11 := H10.out.made hn9.made
  have h12 := (h11.fourth.snd.fifth.snd).fifth.snd
  have h13 := (own_two (((h12.third.inner fun _ h => and_in' (fun _ => and_swap') (and_swap' h))).third)).new3
  have H13 := Lib.hid (wshut (X := ⟨D2, oL⟩) h13)
  clear hn9 h11 h12 h13 HCN H10
  go_wp2_with fail
  go_ret2
  exact ⟨_, rfl, H13.out⟩
end Go.Proofs.YtoimjjhopljdmaaGreat
