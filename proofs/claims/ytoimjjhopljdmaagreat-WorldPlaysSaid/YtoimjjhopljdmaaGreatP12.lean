/- Texts DkU DkO DkN Cmp SoA SoB: what the claim reaches of them. Conditions stand at each theorem. -/
import Derived.Shelf.SlSortCmp.KitK
import Derived.Sort.WalkB2
import Derived.Sort.WalkB12
import Derived.Sort.LotA
import Derived.Test.YtoimjjhopljdmaaGreatP11
set_option maxRecDepth 100000
set_option maxHeartbeats 8000000
namespace Go.Proofs.YtoimjjhopljdmaaGreat
open Go.RowKit
open Go.Proofs.Tryz (prog)
open Go.Value (int)
open Go.IntKind (i64)
open Go.Lib (hid)
section
section
variable (w : World) (r : RDLay) (c : Cfg) (kk : Int) (D : Dk)
def BeginQ (w : World) (r : RDLay) (c : Cfg) (kk : Int) (D : Dk) (e : Ending) (w' : World) : Prop := ∃ v, e = .returned (.tuple #[int i64 (beginF D).1.1, v, int i64 (beginF D).1.2.2]) ∧ Sl w' 34 16 v (beginF D).1.2.1.length (cellsR cmC (beginF D).1.2.1) ∧ (v.ownBlock = none ∨ v.ownBlock = r.qv.ownBlock) ∧
 ∃ r', r'.p = r.p ∧ r'.R = r.R ∧ RDeskAt w' r' c kk (beginF D).2 ∧ Chg w w' r.own ∧ (∀ b, r'.own b → r.own b ∨ w.heap.size ≤ b) ∧ ∀ g, v.ownBlock = some g → ¬ r'.own g
theorem begin_ok (h : RDeskAt w r c kk D) (hop : D.op = false) (ht : D.t < 1099511627776) : Calls prog 67 #[.pointer (some ⟨r.p, 0, none⟩)] w (BeginQ w r c kk D) := by
 have c2 := h.cell 8
 have c3 := h.cell 9
 have c4 := h.cell 10
 have f2 := h.frozen 8
 have f3 := h.frozen 9
 have f4 := h.frozen 10
 have hlt := lt_of_heap h.box
 have htt := h.t0
 simp [rdeskC, hop] at c2 c3 c4
 have hbe : beginF D = ((D.t + 1, D.q, 0), { D with q := [], t := D.t + 1, op := true }) := by
  have : ¬ (beginB D = true) := by simp [beginB, hop]; omega
  unfold beginF; rw [if_neg this]
 have hdt : decide (1099511627776 ≤ D.t) = false := by simpa using ht
 have wr : IntKind.i64.wrap (D.t + 1) = D.t + 1 := by rw [IntKind.wrap_i64]; omega
 obtain ⟨p, cap, hv⟩ := sl_frm h.q
 have FIN : BeginQ w r c kk D (.returned (.tuple #[int i64 (D.t + 1), r.qv, int i64 0])) (((w.setCell ⟨r.p, 8, none⟩ (.slice none 0 0)).setCell ⟨r.p, 10, none⟩ (.bool true)).setCell ⟨r.p, 9, none⟩ (int i64 (D.t + 1))) := by
  unfold BeginQ
  rw [hbe]
  have hx : ∀ (W : World) (o : Nat) (u : Value) (b : Nat), b ≠ r.p → (W.setCell ⟨r.p, o, none⟩ u).heap[b]? = W.heap[b]? := fun W o u b hb => Below.heap_setCell _ _ _ _ (by simpa using hb)
  have hnp : ∀ g, r.qv.ownBlock = some g → g ≠ r.p := fun g hg => (h.aq g hg).1
  refine ⟨_, rfl, h.q.keep fun g hg => by rw [hx _ _ _ _ (hnp g hg), hx _ _ _ _ (hnp g hg), hx _ _ _ _ (hnp g hg)], .inr rfl, ⟨r.p, r.R, .slice none 0 0⟩, rfl, rfl, ⟨?_, ?_, ⟨rfl, .inl ⟨rfl, rfl⟩⟩, ?_, ?_, h.ap, fun g hg => (by cases hg)⟩, ?_, ?_, ?_⟩
  · rw [heap_setCell_same _ _ _ _ _ _ _ (heap_setCell_same _ _ _ _ _ _ _ (heap_setCell_same _ _ _ _ _ _ _ h.box))]
    simp [rdeskC]
  · exact h.pool.keep fun b hb => by
     have : b ≠ r.p := fun e => h.ap (e ▸ hb)
     rw [hx _ _ _ _ this, hx _ _ _ _ this, hx _ _ _ _ this]
  · have := h.qn; simp only [List.length_nil]; omega
  · simp only; omega
  · exact ((Chg.refl w r.own).setCell _ _ (.inl (.inl rfl))).setCell _ _ (.inl (.inl rfl)) |>.setCell _ _ (.inl (.inl rfl))
  · rintro b (e | e | e)
    · exact .inl (.inl e)
    · exact .inl (.inr (.inl e))
    · cases e
  · intro g hg
    rintro (e | e | e)
    · exact (h.aq g hg).1 e
    · exact (h.aq g hg).2 e
    · cases e
 rw [hv] at c2 FIN
 have HF := hid FIN
 generalize D.t = T at *
 clear h FIN hv hbe htt hop
 generalize hQ : BeginQ w r c kk D = Q at *
 clear hQ
 go_enter Tryz.func67, Tryz.ntmps67
 go_wp2_with fail
 exact HF.out
theorem begin_bad (h : RDeskAt w r c kk D) (hb : beginB D = true) : Calls prog 67 #[.pointer (some ⟨r.p, 0, none⟩)] w (BeginQ w r c kk D) := by
 have c3 := h.cell 9
 have c4 := h.cell 10
 have hlt := lt_of_heap h.box
 simp [rdeskC] at c3 c4
 have FIN : ∀ w', Below w.heap.size w w' → BeginQ w r c kk D (.returned (.tuple #[int i64 0, .slice none 0 0, int i64 14])) w' := fun w' hw => by
  unfold BeginQ beginF
  rw [if_pos hb]
  exact ⟨_, rfl, ⟨rfl, .inl ⟨rfl, rfl⟩⟩, .inl rfl, r, rfl, rfl, h.grown hw, Chg.of_below hw, fun b hb => .inl hb, fun g hg => by cases hg⟩
 have HF := hid FIN
 unfold beginB at hb
 generalize D.t = T at *
 generalize D.op = op at *
 generalize hQ : BeginQ w r c kk D = Q at *
 clear h FIN hQ
 cases op with
 | true =>
   go_enter Tryz.func67, Tryz.ntmps67
   go_wp2_with fail
   exact HF.out _ bg
 | false =>
   have hdt : decide (1099511627776 ≤ T) = true := by simpa using hb
   go_enter Tryz.func67, Tryz.ntmps67
   go_wp2_with fail
   exact HF.out _ bg
theorem rbegin_any (h : RDeskAt w r c kk D) : Calls prog 67 #[.pointer (some ⟨r.p, 0, none⟩)] w (BeginQ w r c kk D) := by
 cases hb : beginB D with
 | true => exact begin_bad w r c kk D h hb
 | false =>
   simp [beginB] at hb
   exact begin_ok w r c kk D h hb.1 (by omega)
theorem RDStp.shut {w w' : World} {r : RDLay} {c : Cfg} {kk : Int} {D : Dk} (h : RDStp w r c kk w' D) : w'.frozen? ⟨r.p, 10, none⟩ = false ∧ (∃ u, w'.cell? ⟨r.p, 10, none⟩ = some u) ∧ r.p < w'.heap.size ∧ RDStp w r c kk (w'.setCell ⟨r.p, 10, none⟩ (.bool false)) { D with op := false } := by
 have h' := h
 obtain ⟨d', e1, e2, hd, hc, ho⟩ := h
 have hf := hd.frozen 10
 have hc4 := hd.cell 10
 have hlt := lt_of_heap hd.box
 rw [e1] at hf hc4 hlt
 refine ⟨hf, ⟨_, by rw [hc4]; rfl⟩, hlt, h'.trans fun d2 f1 f2 hd2 => ?_⟩
 refine hd2.boxed (v' := d2.qv) ?_ rfl ?_ hd2.qn hd2.t0 (fun g hg => .inl hg) ((Chg.refl _ _).setCell _ _ (.inl (.inl f1.symm)))
 · rw [← f1, heap_setCell_same _ _ _ _ _ _ _ hd2.box]
   simp [rdeskC]
 · exact hd2.q.keep fun g hg => Below.heap_setCell _ _ _ _ fun e => (hd2.aq g hg).1 ((show g = r.p from e).trans f1.symm)
theorem rclose_shut (h : RDeskAt w r c kk D) (v : Value) (hop : D.op = false) (hv : ∃ p n cap, v = .slice p n cap) : Calls prog 68 #[.pointer (some ⟨r.p, 0, none⟩), v] w fun e w' => e = .returned (.tuple #[int i64 0, int i64 14]) ∧ Below w.heap.size w w' := by
 have c4 := h.cell 10
 have hlt := lt_of_heap h.box
 obtain ⟨p, n, cap, rfl⟩ := hv
 simp [rdeskC, hop] at c4
 clear h hop
 go_enter Tryz.func68, Tryz.ntmps68
 go_wp2_with fail
 go_ret2
 exact ⟨rfl, bg⟩
theorem rclose_ok (h : RDeskAt w r c kk D) (hkk : kk ≤ 1000000) (v : Value) (l : List Nid) (hop : D.op = true) (hv : RIn nidL w v l) (ha : l ≠ [] → ∀ g, v.ownBlock = some g → ¬ r.own g) (hl : l.length ≤ 1000) :
 Calls prog 68 #[.pointer (some ⟨r.p, 0, none⟩), v] w fun e w' => e = .returned (.tuple #[int i64 ((freesF D.M 0 l).1 : Nat), int i64 0]) ∧ RDStp w r c (kk + l.length) w' { D with M := (freesF D.M 0 l).2, op := false } := by
 have c4 := h.cell 10
 simp [rdeskC, hop] at c4
 have hlt := lt_of_heap h.box
 have H0 := hid (RDStp.of_grown h (Below.refl w.heap.size w))
 have HV := hid hv
 have HA := hid ha
 have HFS := hid (fun k x hx => frees_step D.M (l := l) (t := k) (x := x) hx)
 have HLE := hid (fun k => frees_le D.M 0 (l.take k))
 obtain ⟨p, cap, rfl, _, _, _, _⟩ := hv
 clear h ha hop
 go_enter Tryz.func68, Tryz.ntmps68
 go_wp2_with fail
 go_loopw [6, 7] (fun n i wr => ∃ k : Nat, k ≤ l.length ∧ i = int i64 k ∧ n = int i64 ((freesF D.M 0 (l.take k)).1 : Nat) ∧ Hid (RDStp w r c (kk + k) wr { D with M := (freesF D.M 0 (l.take k)).2 })) (fun _ i _ => l.length - (intOf i).toNat)
 case atStart => exact ⟨0, Nat.zero_le _, rfl, rfl, hid (by rw [show kk + ((0 : Nat) : Int) = kk by omega]; exact H0.out)⟩
 case round =>
  obtain ⟨k, hk, rfl, rfl, hh⟩ := hrel
  obtain ⟨wo, rfl⟩ : ∃ wo : World, wo = wr := ⟨_, rfl⟩
  have hle := HLE.out k
  rw [List.length_take, Nat.min_eq_left hk] at hle
  have hI : 0 ≤ (k : Int) := Int.natCast_nonneg k
  by_cases hlt2 : k < l.length
  · obtain ⟨x, hx⟩ : ∃ x, l[k]? = some x := ⟨_, List.getElem?_eq_getElem hlt2⟩
    have hst := HFS.out k x hx
    obtain ⟨d', e1, e2, hd, hc, ho⟩ := hh.out
    obtain ⟨blk, off, cap', hve, hb, hcx⟩ := (HV.out.chg hc HA.out).cells nidL_len hx
    simp only [Value.slice.injEq, true_and] at hve
    obtain ⟨rfl, rfl⟩ := hve
    obtain ⟨s, i, g⟩ := x
    have q0 := hcx 0 _ rfl
    have q1 := hcx 1 _ rfl
    have q2 := hcx 2 _ rfl
    rw [Nat.add_zero] at q0
    simp only at q0 q1 q2
    have d1 := hd.cell 7
    simp [rdeskC] at d1
    rw [e1] at d1
    have hdp := lt_of_heap hd.box
    rw [e1] at hdp
    simp only at hst
    have HST := hid hst
    have HF := hid (fun W (hW : Below wo.heap.size wo W) w' (hs : RStp W d'.R c.ids.toNat (kk + k + 1) w' (freeF (freesF D.M 0 (l.take k)).2 s i g).2) => RDStp.next e1 e2 hc ho ((RDStp.pool (hd.grown hW) hs).from_below hW))
    have HFR := hid (fun W (hW : Below wo.heap.size wo W) => rfree_any W d'.R c.ids.toNat (freesF D.M 0 (l.take k)).2 (hd.grown hW).pool (by omega) s i g)
    generalize d'.R.p = dp at *
    generalize freesF D.M 0 (l.take k) = fk at *
    generalize freeF fk.2 s i g = fr at *
    obtain ⟨n0, M0⟩ := fk
    obtain ⟨er, M1⟩ := fr
    simp only at hle HST HF HFR
    obtain ⟨z0, z1, z2⟩ := ltz hdp
    obtain ⟨y0, y1, y2⟩ := ltz hb
    have t1 : (k : Int) < (l.length : Int) := by omega
    clear hst hcx hd hc ho e1 e2 hh H0 hx
    go_upto_region 7 with fail
    refine wp_region_still_tail 8 (by kernel_rfl) (by kernel_rfl) ?_
    simp only [List.take_succ_cons, List.take_zero, List.drop_succ_cons, List.drop_zero]
    repeat (first | still_step)
    refine wpStill_nil ?_
    go_wp2_with fail
    refine (HFR.out _ bg).mono ?_
    rintro e w2 ⟨rfl, hs⟩
    have HD := hid (HF.out _ bg _ hs)
    clear hs HF HFR
    have hkc : kk + ((k + 1 : Nat) : Int) = kk + k + 1 := by omega
    by_cases he : er = 0
    · subst he
      rw [if_pos rfl] at HST
      go_wp2_with fail
      go_roundw
      case rel => exact ⟨k + 1, hlt2, by go_num, by rw [HST.out]; go_num, by rw [HST.out, hkc]; exact HD⟩
      case measure => simp [intOf]; omega
    · rw [if_neg he] at HST
      have he' : (er == 0) = false := by simpa using he
      clear he
      go_wp2_with fail
      go_roundw
      case rel => exact ⟨k + 1, hlt2, by go_num, by rw [HST.out]; rfl, by rw [HST.out, hkc]; exact HD⟩
      case measure => simp [intOf]; omega
  · obtain rfl : k = l.length := by omega
    rw [List.take_length] at hh ⊢
    obtain ⟨f4, ⟨u4, u5⟩, f6, f7⟩ := hh.out.shut
    have HF := hid f7
    clear f7 hh
    go_wp2_with fail
    go_ret2
    exact ⟨rfl, HF.out⟩
end
theorem rdeskMade {w W : World} {c : Cfg} {R : RLay} {M : List Sh} {P p : Nat} {kk : Int} (hpw : p = W.heap.size) (hw : Below w.heap.size w W) (hp : RPool W R c.ids.toNat kk M) (hP : R.p = P) (ho : ∀ b, R.own b → w.heap.size ≤ b) (hq : (([] : List Cm).length : Int) ≤ c.queue) :
 Made w (W.alloc (.cells #[int i64 c.cols, int i64 c.rows, int i64 c.side, int i64 c.radius, int i64 c.speed, int i64 c.ids, int i64 c.queue, .pointer (some ⟨P, 0, none⟩), .slice none 0 0, int i64 0, .bool false] 128)) (rdeskO p P c kk ⟨M, [], 0, false⟩) := by
 subst hP hpw
 have hb := (Below.refl W.heap.size W).alloc (Nat.le_refl _) (.cells #[int i64 c.cols, int i64 c.rows, int i64 c.side, int i64 c.radius, int i64 c.speed, int i64 c.ids, int i64 c.queue, .pointer (some ⟨R.p, 0, none⟩), .slice none 0 0, int i64 0, .bool false] 128)
 have h1 := hw.size
 refine ⟨RDLay.own ⟨W.heap.size, R, .slice none 0 0⟩, ⟨⟨W.heap.size, R, .slice none 0 0⟩, rfl, rfl, ⟨heap_alloc_new W _, hp.grown hb, ⟨rfl, .inl ⟨rfl, rfl⟩⟩, hq, by simp only; omega, fun e => ?_, fun g hg => (by cases hg)⟩, fun _ => Iff.rfl⟩, hw.trans (hb.mono h1), fun x hx => ?_⟩
 · have e' : R.own W.heap.size := e
   have := hp.lt e'; omega
 · rcases hx with e | e | e
   · have e' : x = W.heap.size := e
     omega
   · exact ho x e
   · cases e
theorem rdnew_ok (cols rows side radius speed ids queue : Int) (w : World) (h : CfgOk ⟨cols, rows, side, radius, speed, ids, queue⟩) :
 Calls prog 66 #[.agg #[int i64 cols, int i64 rows, int i64 side, int i64 radius, int i64 speed, int i64 ids, int i64 queue]] w fun e w' => ∃ p R, e = .returned (.pointer (some ⟨p, 0, none⟩)) ∧ Made w w' (rdeskO p R ⟨cols, rows, side, radius, speed, ids, queue⟩ 256 (newD ⟨cols, rows, side, radius, speed, ids, queue⟩)) := by
 obtain ⟨n1, n2⟩ := h.cnt
 simp only at n1 n2
 have i0 := h.i0
 have i1 := h.i1
 have q0 := h.q0
 simp only at i0 i1 q0
 obtain ⟨n, hn⟩ : ∃ n : Nat, cols * rows = (n : Int) := ⟨(cols * rows).toNat, by omega⟩
 obtain ⟨k, rfl⟩ : ∃ k : Nat, ids = (k : Int) := ⟨ids.toNat, by omega⟩
 have wr : IntKind.i64.wrap (cols * rows) = (n : Int) := by rw [hn, IntKind.wrap_i64]; omega
 have hm := hn
 have HNW := hid (fun W => rnew_ok n k W (by omega) (by omega) (by omega) (by omega))
 have hnk : ((n * k : Nat) : Int) ≤ 256 := by
  have : n * k ≤ 16 * 16 := Nat.mul_le_mul (by omega) (by omega)
  omega
 have hnd : newD ⟨cols, rows, side, radius, speed, k, queue⟩ = ⟨List.replicate n (fresh k k), [], 0, false⟩ := by
  unfold newD; simp only [hn, Int.toNat_natCast]
 rw [hnd]
 clear h hnd
 obtain ⟨w1, hw1, k0, hb1, g0, hsz⟩ := one_box w #[int i64 cols, int i64 rows, int i64 side, int i64 radius, int i64 speed, int i64 (k : Int), int i64 queue] 23
 have s1 : w.heap.size < w1.heap.size := by omega
 have x0 := k0 0; simp at x0; have x1 := k0 1; simp at x1; have x2 := k0 2; simp at x2; have x3 := k0 3; simp at x3; have x4 := k0 4; simp at x4; have x5 := k0 5; simp at x5; have x6 := k0 6; simp at x6
 have HW1 := hid hw1
 have HB1 := hid hb1
 obtain ⟨z0, z1, z2⟩ := ltz s1
 clear hw1 k0 g0 hsz hn hm
 go_enter Tryz.func66, Tryz.ntmps66
 go_upto_region 1 with fail
 rw [← HW1.out]
 go_wp2_with fail
 refine (HNW.out _).mono ?_
 rintro e w2 ⟨rfl, hb2, R, hR, hp, ho⟩
 obtain ⟨d, os, rfl⟩ := more_of hb2
 have HP := hid hp
 clear hp
 go_wp2_with fail
 go_ret
 have hw2 : Below w.heap.size w (more w1 d os) := HB1.out.trans (hb2.mono HB1.out.size)
 refine ⟨_, _, rfl, rdeskMade (W := more w1 d os) (c := ⟨cols, rows, side, radius, speed, (k : Int), queue⟩) (by simp) hw2 (HP.out.more hnk) hR (fun b hb => Nat.le_trans HB1.out.size (ho b hb)) (by simp only [List.length_nil]; omega)⟩
end
section
section
variable {A B C F G : Ob} {w0 W W' : World}
theorem and_swap' {o : Nat → Prop} (h : (A.and (B.and C)).holds W o) : (B.and (A.and C)).holds W o := by
 obtain ⟨a, bc, h1, ⟨b, c, h2, h3, h4, h5⟩, h6, h7⟩ := h
 exact ⟨b, fun x => a x ∨ c x, h2, ⟨a, c, h1, h3, fun x ha hc => h6 x ha ((h5 x).2 (.inr hc)), fun _ => Iff.rfl⟩, fun x hb hac => hac.elim (fun ha => h6 x ha ((h5 x).2 (.inl hb))) (h4 x hb), fun x => by rw [h7 x, h5 x, or_left_comm]⟩
theorem and_in' {o : Nat → Prop} (hi : ∀ o, F.holds W o → G.holds W o) (h : (A.and F).holds W o) : (A.and G).holds W o := by
 obtain ⟨a, b, h1, h2, h3, h4⟩ := h
 exact ⟨a, b, h1, hi _ h2, h3, h4⟩
theorem Own.inner (h : Own w0 W (A.and F)) (hi : ∀ o, F.holds W o → G.holds W o) : Own w0 W (A.and G) := by
 obtain ⟨o, h1, h2⟩ := h; exact ⟨o, and_in' hi h1, h2⟩
theorem Own.new3 {N : Ob} (h : Own w0 W (N.and (A.and (B.and F)))) : Own w0 W (A.and (B.and (N.and F))) := h.swap.inner fun _ => and_swap'
theorem Own.third (h : Own w0 W (A.and (B.and (C.and F)))) : Own w0 W (C.and (A.and (B.and F))) := (h.inner fun _ => and_swap').swap
theorem Own.fourth {E : Ob} (h : Own w0 W (A.and (B.and (C.and (E.and F))))) : Own w0 W (E.and (A.and (B.and (C.and F)))) := (h.inner fun _ => and_in' fun _ => and_swap').third
theorem Own.fifth {E H : Ob} (h : Own w0 W (A.and (B.and (C.and (E.and (H.and F)))))) : Own w0 W (H.and (A.and (B.and (C.and (E.and F))))) := (h.inner fun _ => and_in' fun _ => and_in' fun _ => and_swap').fourth
end
section
variable {w0 W : World} {F : Ob} {p q R : Nat} {c : Cfg} {kk : Int} {D : Dk}
theorem look_o (h : Own w0 W ((deskO p c D).and F)) (ho : CfgOk c) (m : Cm) : Calls prog 44 #[.pointer (some ⟨p, 0, none⟩), .agg (cmC m).toArray] W fun e w' => e = .returned (.tuple #[.agg (cmC (lookF c D m).1).toArray, .bool (lookF c D m).2.1, int i64 (lookF c D m).2.2]) ∧ Below W.heap.size W w' :=
 h.reads fun d hp hd => by subst hp; exact dlook_any W d c D hd ho m
theorem admit_o (h : Own w0 W ((deskO p c D).and F)) (ho : CfgOk c) (m : Cm) : Calls prog 46 #[.pointer (some ⟨p, 0, none⟩), .agg (cmC m).toArray] W fun e w' => e = .returned (int i64 (admitF c D m).1) ∧ Own w0 w' ((deskO p c (admitF c D m).2).and F) :=
 h.desk (R := fun e => e = .returned (int i64 (admitF c D m).1)) fun d hp hd => by subst hp; exact dadmit_any W d c D hd ho m
theorem reserve_o (h : Own w0 W ((deskO p c D).and F)) (k i : Int) : Calls prog 45 #[.pointer (some ⟨p, 0, none⟩), int i64 k, int i64 i] W fun e w' => e = .returned (int i64 (reservedF D k i).1) ∧ Own w0 w' ((deskO p c (reservedF D k i).2).and F) :=
 h.desk (R := fun e => e = .returned (int i64 (reservedF D k i).1)) fun d hp hd => by subst hp; exact dreserve_any W d c D hd k i
theorem tick_o (h : Own w0 W ((deskO p c D).and F)) : Calls prog 75 #[.pointer (some ⟨p, 0, none⟩)] W fun e w' => e = .returned (.tuple #[int i64 D.t, .bool D.op]) ∧ Below W.heap.size W w' :=
 h.reads fun d hp hd => by subst hp; exact dtick_any W d c D hd
theorem waiting_o (h : Own w0 W ((deskO p c D).and F)) (ho : CfgOk c) : Calls prog 47 #[.pointer (some ⟨p, 0, none⟩)] W fun e w' => ∃ v, e = .returned v ∧ RNew cmC 34 16 W w' v D.q :=
 h.reads fun d hp hd => by subst hp; exact dwaiting_any W d c D hd ho
theorem nid_list {W w' : World} {v : Value} {l : List Id3} (h : ListAt W w' v l) : RNew nidL 30 3 W w' v (l.map toNid) := by
 obtain ⟨h1, h2, h3⟩ := h
 rw [idCells_nid] at h1
 exact ⟨by rw [List.length_map]; exact h1, h2, h3⟩
theorem alive_o (h : Own w0 W ((deskO p c D).and F)) : Calls prog 64 #[.pointer (some ⟨p, 0, none⟩)] W fun e w' => ∃ v, e = .returned v ∧ RNew nidL 30 3 W w' v ((listF D.M).map toNid) :=
 h.reads fun d hp hd => by subst hp; exact (dalive_any W d c D hd).mono fun _ _ ⟨v, h1, h2⟩ => ⟨v, h1, nid_list h2⟩
theorem open_o (h : Own w0 W ((deskO p c D).and F)) : Calls prog 58 #[.pointer (some ⟨p, 0, none⟩)] W fun e w' => ∃ v, e = .returned (.tuple #[int i64 (beginF D).1.1, v, int i64 (beginF D).1.2.2]) ∧ Own w0 w' (((deskO p c (beginF D).2).and (slO 34 16 v (beginF D).1.2.1.length (cellsR cmC (beginF D).1.2.1))).and F) := by
 obtain ⟨o, ⟨a, f, h1, h2, h3, h4⟩, h5, h6⟩ := h
 obtain ⟨d, hp, hd, ha⟩ := h1
 subst hp
 refine (dopen_any W d c D hd).mono ?_
 rintro e w' ⟨v, rfl, hsl, hvo, d', e1, e2, hd', hc, ho, hn⟩
 refine ⟨v, rfl, ?_⟩
 have ho' : ∀ x, d'.own x ∨ x = d'.bm → a x ∨ W.heap.size ≤ x := fun x hx => hx.elim (fun h => (ho x h).imp (fun h => (ha x).2 (.inl h)) id) fun h => .inl ((ha x).2 (.inr (h.trans e2)))
 have hvl : ∀ g, v.ownBlock = some g → a g := fun g hg => by
  rcases hvo with e | e
  · rw [e] at hg; cases hg
  · exact (ha g).2 (.inl (.inr (.inr (e.symm.trans hg))))
 have hc' : Chg W w' a := hc.mono fun x _ hx => (ha x).2 (.inl hx)
 refine ⟨fun x => ((d'.own x ∨ x = d'.bm) ∨ v.ownBlock = some x) ∨ f x, ⟨_, f, ⟨fun x => d'.own x ∨ x = d'.bm, fun x => v.ownBlock = some x, ⟨d', e1, hd', fun _ => Iff.rfl⟩, ⟨hsl, fun _ => Iff.rfl⟩, fun x hx hv => ?_, fun _ => Iff.rfl⟩, F.keep _ _ _ h2 fun x hx => hc'.block x (F.lt _ _ h2 x hx) fun e => h3 x e hx, fun x hx hf => ?_, fun _ => Iff.rfl⟩, fun x hx => ?_, h6.trans (hc'.below h6.size fun x hx => h5 x ((h4 x).2 (.inl hx)))⟩
 · rcases hx with e | e
   · exact (hn x hv).1 e
   · exact (hn x hv).2 e
 · rcases hx with e | e
   · rcases ho' x e with e | e
     · exact h3 x e hf
     · have := F.lt _ _ h2 x hf; omega
   · exact h3 x (hvl x e) hf
 · rcases hx with (e | e) | e
   · rcases ho' x e with e | e
     · exact h5 x ((h4 x).2 (.inl e))
     · exact Nat.le_trans h6.size e
   · exact h5 x ((h4 x).2 (.inl (hvl x e)))
   · exact h5 x ((h4 x).2 (.inr e))
theorem Own.rcells (h : Own w0 W ((rdeskO q R c kk D).and F)) : W.cell? ⟨q, 7, none⟩ = some (.pointer (some ⟨R, 0, none⟩)) ∧ (∃ v, W.cell? ⟨q, 8, none⟩ = some v ∧ Sl W 34 16 v D.q.length (cellsR cmC D.q)) ∧ W.cell? ⟨q, 9, none⟩ = some (int i64 D.t) ∧ W.cell? ⟨q, 10, none⟩ = some (.bool D.op) ∧ q < W.heap.size := by
 obtain ⟨o, ⟨a, f, ⟨r, hp, hR, hd, ha⟩, _⟩, _⟩ := h
 subst hp hR
 have c7 := hd.cell 7
 have c8 := hd.cell 8
 have c9 := hd.cell 9
 have c10 := hd.cell 10
 simp [rdeskC] at c7 c8 c9 c10
 exact ⟨c7, ⟨_, c8, hd.q⟩, c9, c10, lt_of_heap hd.box⟩
theorem Own.bounds (h : Own w0 W ((rdeskO q R c kk D).and F)) : (∃ rw put, Sim c.ids.toNat D.M rw put) ∧ (D.q.length : Int) ≤ c.queue ∧ 0 ≤ D.t ∧ D.t ≤ 1099511627776 := by
 obtain ⟨o, ⟨a, f, ⟨r, hp, hR, hd, ha⟩, _⟩, _⟩ := h
 obtain ⟨rw, put, _, h2, _⟩ := hd.pool
 exact ⟨⟨rw, put, h2⟩, hd.qn, hd.t0⟩
theorem Own.dbounds (h : Own w0 W ((deskO p c D).and F)) : (D.q.length : Int) ≤ c.queue ∧ 0 ≤ D.t ∧ D.t ≤ 1099511627776 := by
 obtain ⟨o, ⟨a, f, ⟨d, hp, hd, ha⟩, _⟩, _⟩ := h
 exact ⟨hd.qn, hd.t0⟩
theorem Own.drop {A B : Ob} (h : Own w0 W (A.and (B.and F))) : Own w0 W (A.and F) := h.swap.snd
theorem Own.drop3 {A B C : Ob} (h : Own w0 W (A.and (B.and (C.and F)))) : Own w0 W (A.and (B.and F)) := h.third.snd
/-! The reference's. -/
theorem rlook_o (h : Own w0 W ((rdeskO q R c kk D).and F)) (ho : CfgOk c) (m : Cm) (him : (-9223372036854775808 ≤ m.b.m ∧ m.b.m ≤ 9223372036854775807)) : Calls prog 69 #[.pointer (some ⟨q, 0, none⟩), .agg (cmC m).toArray] W fun e w' => e = .returned (.tuple #[.agg (cmC (lookF c D m).1).toArray, .bool (lookF c D m).2.1, int i64 (lookF c D m).2.2]) ∧ Below W.heap.size W w' :=
 h.rreads fun r hp _ hd => by subst hp; exact rlook_any W r c kk D hd ho m him
theorem radmit_o (h : Own w0 W ((rdeskO q R c kk D).and F)) (ho : CfgOk c) (m : Cm) (him : (-9223372036854775808 ≤ m.b.m ∧ m.b.m ≤ 9223372036854775807)) : Calls prog 71 #[.pointer (some ⟨q, 0, none⟩), .agg (cmC m).toArray] W fun e w' => e = .returned (int i64 (admitF c D m).1) ∧ Own w0 w' ((rdeskO q R c kk (admitF c D m).2).and F) :=
 h.rdesk (Q := fun e => e = .returned (int i64 (admitF c D m).1)) fun r hp _ hd => by subst hp; exact radmit_any W r c kk D hd ho m him
theorem rreserve_o (h : Own w0 W ((rdeskO q R c kk D).and F)) (k i : Int) : Calls prog 70 #[.pointer (some ⟨R, 0, none⟩), int i64 k, int i64 i] W fun e w' => e = .returned (int i64 (reservedF D k i).1) ∧ Own w0 w' ((rdeskO q R c kk (reservedF D k i).2).and F) :=
 h.rdesk (Q := fun e => e = .returned (int i64 (reservedF D k i).1)) fun r hp hR hd => by subst hp hR; exact (rreserve_any W r.R _ D.M hd.pool k i).mono fun _ _ ⟨h1, h2⟩ => ⟨h1, RDStp.pool hd h2⟩
theorem rlist_o (h : Own w0 W ((rdeskO q R c kk D).and F)) : Calls prog 74 #[.pointer (some ⟨R, 0, none⟩)] W fun e w' => ∃ v, e = .returned v ∧ RNew nidL 30 3 W w' v ((listF D.M).map toNid) :=
 h.rreads fun r hp hR hd => by subst hp hR; exact (rlist_any W r.R _ D.M hd.pool).mono fun _ _ ⟨v, h1, h2⟩ => ⟨v, h1, nid_list h2⟩
theorem rbegin_o (h : Own w0 W ((rdeskO q R c kk D).and F)) : Calls prog 67 #[.pointer (some ⟨q, 0, none⟩)] W fun e w' => ∃ v, e = .returned (.tuple #[int i64 (beginF D).1.1, v, int i64 (beginF D).1.2.2]) ∧ Own w0 w' (((rdeskO q R c kk (beginF D).2).and (slO 34 16 v (beginF D).1.2.1.length (cellsR cmC (beginF D).1.2.1))).and F) := by
 obtain ⟨o, ⟨a, f, h1, h2, h3, h4⟩, h5, h6⟩ := h
 obtain ⟨d, hp, hR, hd, ha⟩ := h1
 subst hp hR
 refine (rbegin_any W d c kk D hd).mono ?_
 rintro e w' ⟨v, rfl, hsl, hvo, d', e1, e2, hd', hc, ho, hn⟩
 refine ⟨v, rfl, ?_⟩
 have ho' : ∀ x, d'.own x → a x ∨ W.heap.size ≤ x := fun x hx => (ho x hx).imp (ha x).2 id
 have hvl : ∀ g, v.ownBlock = some g → a g := fun g hg => by
  rcases hvo with e | e
  · rw [e] at hg; cases hg
  · exact (ha g).2 (.inr (.inr (e.symm.trans hg)))
 have hc' : Chg W w' a := hc.mono fun x _ hx => (ha x).2 hx
 refine ⟨fun x => (d'.own x ∨ v.ownBlock = some x) ∨ f x, ⟨_, f, ⟨d'.own, fun x => v.ownBlock = some x, ⟨d', e1, by rw [e2], hd', fun _ => Iff.rfl⟩, ⟨hsl, fun _ => Iff.rfl⟩, fun x hx hv => hn x hv hx, fun _ => Iff.rfl⟩, F.keep _ _ _ h2 fun x hx => hc'.block x (F.lt _ _ h2 x hx) fun e => h3 x e hx, fun x hx hf => ?_, fun _ => Iff.rfl⟩, fun x hx => ?_, h6.trans (hc'.below h6.size fun x hx => h5 x ((h4 x).2 (.inl hx)))⟩
 · rcases hx with e | e
   · rcases ho' x e with e | e
     · exact h3 x e hf
     · have := F.lt _ _ h2 x hf; omega
   · exact h3 x (hvl x e) hf
 · rcases hx with (e | e) | e
   · rcases ho' x e with e | e
     · exact h5 x ((h4 x).2 (.inl e))
     · exact Nat.le_trans h6.size e
   · exact h5 x ((h4 x).2 (.inl (hvl x e)))
   · exact h5 x ((h4 x).2 (.inr e))
end
end
theorem zcheck_bad (cols rows side radius speed ids queue : Int) (w : World) (h : ¬ CfgOk ⟨cols, rows, side, radius, speed, ids, queue⟩) :
 Calls prog 119 #[.agg #[int i64 cols, int i64 rows, int i64 side, int i64 radius, int i64 speed, int i64 ids, int i64 queue]] w fun e w' => e = .returned (int i64 1) ∧ Below w.heap.size w w' := by
 have H := hid (fun a1 a2 a3 a4 a5 a6 a7 a8 a9 b1 b2 b3 b4 b5 => h ⟨a1, a2, a3, a4, a5, a6, a7, a8, a9, b1, b2, b3, b4, b5⟩)
 simp only at H
 clear h
 go_enter Tryz.func119, Tryz.ntmps119
 go_wp2_with fail
 refine wp_loop_rounds 8 ?_
 repeat any_goals (rw [rounds_succ]; go_wp2_with fail)
 all_goals go_ret
 all_goals first
  | exact ⟨rfl, bg⟩
  | exact (H.out (by omega) (by omega) (by omega) (by omega) (by omega) (by omega) (by omega) (by omega) (by omega) (by omega) (by omega) (by omega) (by omega) (by omega)).elim
theorem znew_bad (cols rows side radius speed ids queue : Int) (w : World) (h : ¬ CfgOk ⟨cols, rows, side, radius, speed, ids, queue⟩) :
 Calls prog 79 #[.agg #[int i64 cols, int i64 rows, int i64 side, int i64 radius, int i64 speed, int i64 ids, int i64 queue]] w fun e w' => e = .returned (.tuple #[.pointer none, int i64 1]) ∧ Below w.heap.size w w' := by
 have HC := hid (fun W => zcheck_bad cols rows side radius speed ids queue W h)
 clear h
 go_enter Tryz.func79, Tryz.ntmps79
 go_wp2_with (go_at_call 119; refine belA (HC.out _) fun d os => ?_)
 go_ret2
 exact ⟨rfl, bg⟩
theorem dnew_bad (cols rows side radius speed ids queue : Int) (w : World) (h : ¬ CfgOk ⟨cols, rows, side, radius, speed, ids, queue⟩) :
 Calls prog 43 #[.agg #[int i64 cols, int i64 rows, int i64 side, int i64 radius, int i64 speed, int i64 ids, int i64 queue]] w fun e w' => e = .returned (.tuple #[.pointer none, int i64 1]) ∧ Below w.heap.size w w' := by
 have HC := hid (fun W => znew_bad cols rows side radius speed ids queue W h)
 clear h
 go_enter Tryz.func43, Tryz.ntmps43
 go_wp2_with (go_at_call 79; refine belA (HC.out _) fun d os => ?_)
 go_ret2
 exact ⟨rfl, bg⟩
theorem deskMade {w W : World} {c : Cfg} {bm : Nat} {L : Lay} {M : List Sh} {P p : Nat} (hpw : p = W.heap.size) (hw : Below w.heap.size w W) (hm : MapAt W bm c) (hp : PoolAt W L M) (hP : L.P = P) (hbm : w.heap.size ≤ bm) (ho : ∀ b, L.own b → w.heap.size ≤ b) (hob : ∀ b, L.own b → bm < b) (hq : (([] : List Cm).length : Int) ≤ c.queue) :
 Made w (W.alloc (.cells #[.pointer (some ⟨bm, 0, none⟩), .pointer (some ⟨P, 0, none⟩), .slice none 0 0, int i64 0, .bool false] 113)) (deskO p c ⟨M, [], 0, false⟩) := by
 subst hP hpw
 have hb := (Below.refl W.heap.size W).alloc (Nat.le_refl _) (.cells #[.pointer (some ⟨bm, 0, none⟩), .pointer (some ⟨L.P, 0, none⟩), .slice none 0 0, int i64 0, .bool false] 113)
 have hlm := lt_of_heap hm
 have h1 := hw.size
 refine ⟨fun x => DLay.own ⟨W.heap.size, bm, L, .slice none 0 0⟩ x ∨ x = bm, ⟨⟨W.heap.size, bm, L, .slice none 0 0⟩, rfl, ⟨heap_alloc_new W _, hm.grow hb, hp.grown hb, ⟨rfl, .inl ⟨rfl, rfl⟩⟩, hq, by simp only; omega, fun e => ?_, fun g hg => (by cases hg), ?_⟩, fun _ => Iff.rfl⟩, hw.trans (hb.mono h1), fun x hx => ?_⟩
 · have e' : L.own W.heap.size := e
   have := hp.lt e'; omega
 · rintro (e | e | e)
   · have e' : bm = W.heap.size := e
     omega
   · have := hob _ e; simp only at this; omega
   · cases e
 · rcases hx with (e | e | e) | e
   · have e' : x = W.heap.size := e
     omega
   · exact ho x e
   · cases e
   · omega
theorem dnew_ok (cols rows side radius speed ids queue : Int) (w : World) (h : CfgOk ⟨cols, rows, side, radius, speed, ids, queue⟩) :
 Calls prog 43 #[.agg #[int i64 cols, int i64 rows, int i64 side, int i64 radius, int i64 speed, int i64 ids, int i64 queue]] w fun e w' => ∃ p, e = .returned (.tuple #[.pointer (some ⟨p, 0, none⟩), int i64 0]) ∧ Made w w' (deskO p ⟨cols, rows, side, radius, speed, ids, queue⟩ (newD ⟨cols, rows, side, radius, speed, ids, queue⟩)) := by
 obtain ⟨n1, n2⟩ := h.cnt
 simp only at n1 n2
 have i0 := h.i0
 have i1 := h.i1
 have q0 := h.q0
 simp only at i0 i1 q0
 obtain ⟨n, hn⟩ : ∃ n : Nat, cols * rows = (n : Int) := ⟨(cols * rows).toNat, by omega⟩
 obtain ⟨k, rfl⟩ : ∃ k : Nat, ids = (k : Int) := ⟨ids.toNat, by omega⟩
 have HZ := hid (fun W => znew_ok cols rows side radius speed k queue W h)
 have HCN := hid (fun W b (hm : MapAt W b ⟨cols, rows, side, radius, speed, k, queue⟩) => zcount_any W b _ hm h)
 simp only [hn] at HCN
 have HNW := hid (fun W => new_p n k W (by omega) (by omega) (by omega) (by omega))
 have hnd : newD ⟨cols, rows, side, radius, speed, k, queue⟩ = ⟨List.replicate n (fresh k k), [], 0, false⟩ := by
  unfold newD; simp only [hn, Int.toNat_natCast]
 rw [hnd]
 clear h hnd
 go_enter Tryz.func43, Tryz.ntmps43
 go_wp2_with fail
 generalize hw1 : World.alloc w _ = w1
 have y5 : w1.cell? ⟨w.heap.size, 5, none⟩ = some (int i64 k) := by rw [← hw1]; simp
 have s1 : w.heap.size < w1.heap.size := by rw [← hw1]; simp
 have hb1 : Below w.heap.size w w1 := by rw [← hw1]; exact bg
 have HB1 := hid hb1
 clear hw1 hb1
 refine (HZ.out _).mono ?_
 rintro e w2 ⟨bm, rfl, hb2, hm2, hbm⟩
 replace y5 := (hb2.cell (p := ⟨w.heap.size, 5, none⟩) s1).trans y5
 have s2 : w.heap.size < w2.heap.size := Nat.lt_of_lt_of_le s1 hb2.size
 have HB2 := hid (HB1.out.trans (hb2.mono HB1.out.size))
 have HM2 := hid hm2
 have HBM := hid (Nat.le_trans HB1.out.size hbm)
 have HLM := hid (lt_of_heap hm2)
 clear hb2 hm2 hbm HB1
 go_wp2_with fail
 go_region_held3 (fun W => (w2).heap.size ≤ W.heap.size ∧ ∀ b o, b < (w2).heap.size → W.cell? ⟨b, o, none⟩ = (w2).cell? ⟨b, o, none⟩) (with_reducible (repeat (first | assumption | exact s_refl _ | exact s_id _ | refine s_more _ _ ?_ | refine s_alloc _ ?_ | refine s_drew ?_))) (first | (go_at_call 81; refine belA (HCN.out _ _ (HM2.out.grow bg)) fun d os => ?_) | (go_at_call 80; refine (HNW.out _).mono ?_; rintro e w' ⟨rfl, hbn, L, hP, hp, hown⟩; obtain ⟨d2, os2, rfl⟩ := more_of hbn; have HP := hid hp; have HOW := hid hown; clear hp hown hbn))
 go_wp2_with fail
 go_ret2
 have hb2 := HB2.out
 have hbw : ∀ W, Below w2.heap.size w2 W → Below w.heap.size w W := fun W hW => hb2.trans (hW.mono hb2.size)
 refine ⟨_, rfl, deskMade (W := more (more _ _ _) _ _) (by simp) (hbw _ bg) (HM2.out.grow bg) HP.out (hP.trans (by simp)) HBM.out (fun b hb => ?_) (fun b hb => ?_) (by simp only [List.length_nil]; omega)⟩
 · have := HOW.out b hb; simp at this; have := hb2.size; omega
 · have := HOW.out b hb; simp at this; have := HLM.out; omega
def withinB2 (n lo hi : Int) : Bool := decide (lo ≤ n) && decide (n ≤ hi)
theorem rwithin4_any (n lo hi : Int) (w : World) : Calls prog 65 #[int i64 n, int i64 lo, int i64 hi] w fun e w' => e = .returned (.bool (withinB2 n lo hi)) ∧ w = w' := by
 unfold withinB2
 by_cases h1 : lo ≤ n
 · have d1 : decide (lo ≤ n) = true := decide_eq_true h1
   rw [d1]
   go_enter Tryz.func65, Tryz.ntmps65
   go_wp2
   go_ret
   exact ⟨rfl, rfl⟩
 · have d1 : decide (lo ≤ n) = false := decide_eq_false h1
   rw [d1]
   go_enter Tryz.func65, Tryz.ntmps65
   go_wp2
   go_ret
   exact ⟨rfl, rfl⟩
def cfgB (c : Cfg) : Bool := withinB2 c.cols 1 4 && withinB2 c.rows 1 4 && withinB2 c.side 256 1048576 && withinB2 c.radius 0 c.side && withinB2 c.speed 0 c.side && withinB2 c.ids 1 16 && withinB2 c.queue 1 64
theorem cfgB_iff (c : Cfg) : cfgB c = true ↔ CfgOk c := by
 unfold cfgB withinB2
 simp only [Bool.and_eq_true, decide_eq_true_eq]
 constructor
 · rintro ⟨⟨⟨⟨⟨⟨h1, h2⟩, h3⟩, h4⟩, h5⟩, h6⟩, h7⟩
   exact ⟨h1.1, h1.2, h2.1, h2.2, h3.1, h3.2, h4.1, h4.2, h5.1, h5.2, h6.1, h6.2, h7.1, h7.2⟩
 · rintro ⟨a1, a2, a3, a4, a5, a6, a7, a8, a9, b1, b2, b3, b4, b5⟩
   exact ⟨⟨⟨⟨⟨⟨⟨a1, a2⟩, a3, a4⟩, a5, a6⟩, a7, a8⟩, a9, b1⟩, b2, b3⟩, b4, b5⟩
theorem rcheck_any (cols rows side radius speed ids queue : Int) (w : World) :
 Calls prog 31 #[.agg #[int i64 cols, int i64 rows, int i64 side, int i64 radius, int i64 speed, int i64 ids, int i64 queue]] w fun e w' => e = .returned (int i64 (if cfgB ⟨cols, rows, side, radius, speed, ids, queue⟩ then 0 else 1)) ∧ Below w.heap.size w w' := by
 have H1 := hid (fun W => rwithin4_any cols 1 4 W)
 have H2 := hid (fun W => rwithin4_any rows 1 4 W)
 have H3 := hid (fun W => rwithin4_any side 256 1048576 W)
 have H4 := hid (fun W => rwithin4_any radius 0 side W)
 have H5 := hid (fun W => rwithin4_any speed 0 side W)
 have H6 := hid (fun W => rwithin4_any ids 1 16 W)
 have H7 := hid (fun W => rwithin4_any queue 1 64 W)
 unfold cfgB
 simp only
 generalize withinB2 cols 1 4 = b1 at *
 generalize withinB2 rows 1 4 = b2 at *
 generalize withinB2 side 256 1048576 = b3 at *
 generalize withinB2 radius 0 side = b4 at *
 generalize withinB2 speed 0 side = b5 at *
 generalize withinB2 ids 1 16 = b6 at *
 generalize withinB2 queue 1 64 = b7 at *
 cases b1
 case false =>
  go_enter Tryz.func31, Tryz.ntmps31
  go_wp2_with (go_at_call 65; (first | (with_reducible refine eqA (H1.out _) ?_) | (with_reducible refine eqA (H2.out _) ?_) | (with_reducible refine eqA (H3.out _) ?_) | (with_reducible refine eqA (H4.out _) ?_) | (with_reducible refine eqA (H5.out _) ?_) | (with_reducible refine eqA (H6.out _) ?_) | (with_reducible refine eqA (H7.out _) ?_)))
  go_ret
  exact ⟨rfl, bg⟩
 cases b2
 case false =>
  go_enter Tryz.func31, Tryz.ntmps31
  go_wp2_with (go_at_call 65; (first | (with_reducible refine eqA (H1.out _) ?_) | (with_reducible refine eqA (H2.out _) ?_) | (with_reducible refine eqA (H3.out _) ?_) | (with_reducible refine eqA (H4.out _) ?_) | (with_reducible refine eqA (H5.out _) ?_) | (with_reducible refine eqA (H6.out _) ?_) | (with_reducible refine eqA (H7.out _) ?_)))
  go_ret
  exact ⟨rfl, bg⟩
 cases b3
 case false =>
  go_enter Tryz.func31, Tryz.ntmps31
  go_wp2_with (go_at_call 65; (first | (with_reducible refine eqA (H1.out _) ?_) | (with_reducible refine eqA (H2.out _) ?_) | (with_reducible refine eqA (H3.out _) ?_) | (with_reducible refine eqA (H4.out _) ?_) | (with_reducible refine eqA (H5.out _) ?_) | (with_reducible refine eqA (H6.out _) ?_) | (with_reducible refine eqA (H7.out _) ?_)))
  go_ret
  exact ⟨rfl, bg⟩
 cases b4
 case false =>
  go_enter Tryz.func31, Tryz.ntmps31
  go_wp2_with (go_at_call 65; (first | (with_reducible refine eqA (H1.out _) ?_) | (with_reducible refine eqA (H2.out _) ?_) | (with_reducible refine eqA (H3.out _) ?_) | (with_reducible refine eqA (H4.out _) ?_) | (with_reducible refine eqA (H5.out _) ?_) | (with_reducible refine eqA (H6.out _) ?_) | (with_reducible refine eqA (H7.out _) ?_)))
  go_ret
  exact ⟨rfl, bg⟩
 cases b5
 case false =>
  go_enter Tryz.func31, Tryz.ntmps31
  go_wp2_with (go_at_call 65; (first | (with_reducible refine eqA (H1.out _) ?_) | (with_reducible refine eqA (H2.out _) ?_) | (with_reducible refine eqA (H3.out _) ?_) | (with_reducible refine eqA (H4.out _) ?_) | (with_reducible refine eqA (H5.out _) ?_) | (with_reducible refine eqA (H6.out _) ?_) | (with_reducible refine eqA (H7.out _) ?_)))
  go_ret
  exact ⟨rfl, bg⟩
 cases b6
 case false =>
  go_enter Tryz.func31, Tryz.ntmps31
  go_wp2_with (go_at_call 65; (first | (with_reducible refine eqA (H1.out _) ?_) | (with_reducible refine eqA (H2.out _) ?_) | (with_reducible refine eqA (H3.out _) ?_) | (with_reducible refine eqA (H4.out _) ?_) | (with_reducible refine eqA (H5.out _) ?_) | (with_reducible refine eqA (H6.out _) ?_) | (with_reducible refine eqA (H7.out _) ?_)))
  go_ret
  exact ⟨rfl, bg⟩
 cases b7
 case false =>
  go_enter Tryz.func31, Tryz.ntmps31
  go_wp2_with (go_at_call 65; (first | (with_reducible refine eqA (H1.out _) ?_) | (with_reducible refine eqA (H2.out _) ?_) | (with_reducible refine eqA (H3.out _) ?_) | (with_reducible refine eqA (H4.out _) ?_) | (with_reducible refine eqA (H5.out _) ?_) | (with_reducible refine eqA (H6.out _) ?_) | (with_reducible refine eqA (H7.out _) ?_)))
  go_ret
  exact ⟨rfl, bg⟩
 case true =>
  go_enter Tryz.func31, Tryz.ntmps31
  go_wp2_with (go_at_call 65; (first | (with_reducible refine eqA (H1.out _) ?_) | (with_reducible refine eqA (H2.out _) ?_) | (with_reducible refine eqA (H3.out _) ?_) | (with_reducible refine eqA (H4.out _) ?_) | (with_reducible refine eqA (H5.out _) ?_) | (with_reducible refine eqA (H6.out _) ?_) | (with_reducible refine eqA (H7.out _) ?_)))
  go_ret
  exact ⟨rfl, bg⟩
def cmpI (a b : Int) : Int := if a < b then -1 else if b < a then 1 else 0
def cmpId (s i g s' i' g' : Int) : Int := if cmpI s s' ≠ 0 then cmpI s s' else if cmpI i i' ≠ 0 then cmpI i i' else cmpI g g'
def beforeB (s i g s' i' g' : Int) : Bool := if s ≠ s' then decide (s < s') else if i ≠ i' then decide (i < i') else decide (g < g')
theorem cmpI_spec (a b : Int) : (a < b ∧ cmpI a b = -1) ∨ (a = b ∧ cmpI a b = 0) ∨ (b < a ∧ cmpI a b = 1) := by
 unfold cmpI
 by_cases h : a < b
 · simp [h]
 · by_cases h2 : b < a
   · simp [h, h2]
   · simp [h, h2]; omega
theorem cmpId_neg (s i g s' i' g' : Int) : cmpId s' i' g' s i g = -cmpId s i g s' i' g' := by
 unfold cmpId
 have h1 := cmpI_spec s s'; have h2 := cmpI_spec i i'; have h3 := cmpI_spec g g'
 have k1 := cmpI_spec s' s; have k2 := cmpI_spec i' i; have k3 := cmpI_spec g' g
 repeat' split
 all_goals omega
theorem cmpId_before (s i g s' i' g' : Int) : beforeB s i g s' i' g' = decide (cmpId s i g s' i' g' < 0) := by
 unfold beforeB cmpId
 have h1 := cmpI_spec s s'; have h2 := cmpI_spec i i'; have h3 := cmpI_spec g g'
 repeat' split
 all_goals rw [decide_eq_decide]
 all_goals omega
theorem cmpId_trans (s i g s' i' g' s2 i2 g2 : Int) (h1 : cmpId s i g s' i' g' ≤ 0) (h2 : cmpId s' i' g' s2 i2 g2 ≤ 0) : cmpId s i g s2 i2 g2 = min (cmpId s i g s' i' g') (cmpId s' i' g' s2 i2 g2) := by
 unfold cmpId at *
 have a1 := cmpI_spec s s'; have a2 := cmpI_spec i i'; have a3 := cmpI_spec g g'
 have b1 := cmpI_spec s' s2; have b2 := cmpI_spec i' i2; have b3 := cmpI_spec g' g2
 have c1 := cmpI_spec s s2; have c2 := cmpI_spec i i2; have c3 := cmpI_spec g g2
 generalize cmpI s s' = x1 at *; generalize cmpI i i' = x2 at *; generalize cmpI g g' = x3 at *
 generalize cmpI s' s2 = y1 at *; generalize cmpI i' i2 = y2 at *; generalize cmpI g' g2 = y3 at *
 generalize cmpI s s2 = z1 at *; generalize cmpI i i2 = z2 at *; generalize cmpI g g2 = z3 at *
 repeat' split at h1
 all_goals repeat' split at h2
 all_goals repeat' split
 all_goals omega
theorem cmpC_any (a b : Int) (w : World) : Calls prog 146 #[int i64 a, int i64 b] w fun e w' => e = .returned (int i64 (cmpI a b)) ∧ w = w' := by
 generalize hr : cmpI a b = r
 have HR := hid hr
 clear hr
 go_enter Tryz.func146, Tryz.ntmps146
 go_wp2
 all_goals go_ret
 all_goals (refine ⟨?_, rfl⟩; go_tidy; (have h := HR.out; clear HR; subst h; simp [cmpI, *]))
 all_goals (try omega)
def or3 (x y z : Int) : Int := if x ≠ 0 then x else if y ≠ 0 then y else z
theorem or_any (b : Nat) (x y z : Int) (w : World) (h0 : w.cell? ⟨b, 0, none⟩ = some (int i64 x)) (h1 : w.cell? ⟨b, 1, none⟩ = some (int i64 y)) (h2 : w.cell? ⟨b, 2, none⟩ = some (int i64 z)) :
 Calls prog 145 #[.slice (some ⟨b, 0, none⟩) 3 3] w fun e w' => e = .returned (int i64 (or3 x y z)) ∧ w = w' := by
 generalize hr : or3 x y z = r
 have HR := hid hr
 clear hr
 go_enter Tryz.func145, Tryz.ntmps145
 go_wp2_with fail
 refine wp_loop_rounds 4 ?_
 repeat any_goals (rw [rounds_succ]; go_wp2)
 all_goals go_ret
 all_goals (refine ⟨?_, rfl⟩; go_tidy; (have h := HR.out; clear HR; subst h; simp_all [or3]))
theorem before_any (s i g s' i' g' : Int) (w : World) :
 Calls prog 16 #[.agg #[int i64 s, int i64 i, int i64 g], .agg #[int i64 s', int i64 i', int i64 g']] w fun e w' => e = .returned (.bool (beforeB s i g s' i' g')) ∧ Below w.heap.size w w' := by
 generalize hr : beforeB s i g s' i' g' = r
 have HR := hid hr
 clear hr
 go_enter Tryz.func16, Tryz.ntmps16
 go_wp2
 all_goals go_ret
 all_goals (refine ⟨?_, bg⟩; go_tidy; (have h := HR.out; clear HR; subst h; simp_all [beforeB]))
theorem compare_any (s i g s' i' g' : Int) (w : World) :
 Calls prog 106 #[.agg #[int i64 s, int i64 i, int i64 g], .agg #[int i64 s', int i64 i', int i64 g']] w fun e w' => e = .returned (int i64 (cmpId s i g s' i' g')) ∧ Below w.heap.size w w' := by
 generalize hr : cmpId s i g s' i' g' = r
 have HR := hid hr
 clear hr
 go_enter Tryz.func106, Tryz.ntmps106
 go_wp2_with fail
 go_region_held3 (fun W => ((w.alloc (.cells #[int i64 s, int i64 i, int i64 g] 30)).alloc (.cells #[int i64 s', int i64 i', int i64 g'] 30)).heap.size ≤ W.heap.size ∧ ∀ b o, b < ((w.alloc (.cells #[int i64 s, int i64 i, int i64 g] 30)).alloc (.cells #[int i64 s', int i64 i', int i64 g'] 30)).heap.size → W.cell? ⟨b, o, none⟩ = ((w.alloc (.cells #[int i64 s, int i64 i, int i64 g] 30)).alloc (.cells #[int i64 s', int i64 i', int i64 g'] 30)).cell? ⟨b, o, none⟩) (with_reducible (repeat (first | assumption | exact s_refl _ | exact s_id _ | refine s_more _ _ ?_ | refine s_alloc _ ?_ | refine s_drew ?_))) (first | (go_at_call 146; refine eqA (cmpC_any _ _ _) ?_) | (go_at_call 145; refine eqA (or_any _ (cmpI s s') (cmpI i i') (cmpI g g') _ (by simp [go_sem]) (by simp [go_sem]) (by simp [go_sem])) ?_))
 go_wp2_with fail
 go_ret
 refine ⟨?_, bg⟩
 rw [← HR.out]
 rfl
section
open Go.Shelf Go.Lib Go.Sort Go.Proofs
variable {α : Type} [Inhabited α]
def swapN (a b : Nat) : Nat → Array α → Array α
 | 0, d => d
 | n + 1, d => swp (swapN a b n d) (a + n) (b + n)
theorem size_swapN (a b : Nat) : ∀ (n : Nat) (d : Array α), (swapN a b n d).size = d.size
 | 0, _ => rfl
 | n + 1, d => by rw [swapN, size_swp, size_swapN a b n d]
def ldB (a : Addr) : Sem Value := loadVar 32 a
def stB (a : Addr) (v : Value) : Sem Unit := storeVar 32 a v
theorem loadVar_ldB (a : Addr) : loadVar 32 a = ldB a := rfl
theorem storeVar_stB (a : Addr) (v : Value) : storeVar 32 a v = stB a v := rfl
theorem ldB_of {W : World} {a : Addr} {cs : List Value} (h : Sem.run prog (loadCellsFrom a 0 11 #[]) W = .ok cs.toArray W) : (ldB a).run prog W = .ok (.agg cs.toArray) W := by
 simp [ldB, loadVar, loadCells, h]
theorem stB_of {W W' : World} {a : Addr} {cs : List Value} (hl : cs.length = 11) (h : Sem.run prog (storeCells a cs 0) W = .ok () W') : (stB a (.agg cs.toArray)).run prog W = .ok () W' := by
 simp [stB, storeVar, Value.cells, hl, h]
attribute [local go_sem ↓] loadVar_ldB storeVar_stB
theorem swapRange (enc : α → List Value) (f : Value) (blk off cap a b n : Nat) (d0 d : Array α) (w0 w : World)
 (R : RowK enc 11 w0 blk off d0) (hs : d0.size = d.size) (S : SWK enc 11 w0 blk off d w) (ha : a + n ≤ d.size) (hb : b + n ≤ d.size) (hsz : d.size < 4611686018427387904) :
 Calls prog 184 #[.slice (some ⟨blk, off, none⟩) d.size cap, int i64 a, int i64 b, int i64 n, f] w fun e w' => e = .returned (.tuple #[]) ∧ SWK enc 11 w0 blk off (swapN a b n d) w' := by
 have mixed : prog.follows .mixedOrders = true := by kernel_rfl
 have S0 : Aside (SWK enc 11 w0 blk off d w) := S
 clear S
 go_enter Tryz.func184, Tryz.ntmps184
 go_wp2_with fail
 go_loopg [10] n (fun kx s wr => ∃ (i : Nat) (dk : Array α), s = int i64 i ∧ i ≤ n ∧ n - i ≤ kx ∧ dk.size = d.size ∧ dk = swapN a b i d ∧ Aside (SWK enc 11 w0 blk off dk wr))
 case atStart => exact ⟨0, d, rfl, by omega, by omega, rfl, rfl, S0⟩
 case round =>
  clear S0
  obtain ⟨i, dk, rfl, hin, hkx, hds, heq, S1⟩ := hrel
  have HEQ := hid heq
  clear heq
  by_cases hlt : i < n
  · have hltz : (i : Int) < (n : Int) := by omega
    go_wp2_with fail
    have ea44 : ((a : Int) + (i : Int)).toNat = a + i := by omega
    have pa44 : (0 : Int) ≤ (a : Int) + (i : Int) := by omega
    have ba44 : (a : Int) + (i : Int) < (d.size : Int) := by omega
    have ra44 : IntKind.i64.wrap ((a : Int) + (i : Int)) = (a : Int) + (i : Int) := by rw [IntKind.wrap_i64]; omega
    have ec44 : ((b : Int) + (i : Int)).toNat = b + i := by omega
    have pc44 : (0 : Int) ≤ (b : Int) + (i : Int) := by omega
    have bc44 : (b : Int) + (i : Int) < (d.size : Int) := by omega
    have rc44 : IntKind.i64.wrap ((b : Int) + (i : Int)) = (b : Int) + (i : Int) := by rw [IntKind.wrap_i64]; omega
    have S2 : Aside (SWK enc 11 w0 blk off (swp dk (a + i) (b + i)) ((wr.drew.setCells blk (off + (a + i) * 11) (enc dk[b + i]!)).setCells blk (off + (b + i) * 11) (enc dk[a + i]!))) := S1.out.swapped R (a + i) (b + i) (by omega) (by omega)
    have l44a := ldB_of (S1.out.ld1 R (by omega) prog (a + i) (by omega))
    have l44b := ldB_of (S1.out.ld1 R (by omega) prog (b + i) (by omega))
    have s44a := stB_of (R.hk _) (S1.out.st1 R (by omega) prog (a + i) (by omega) dk[b + i]!)
    have s44b := stB_of (R.hk _) (S1.out.st2 R (by omega) prog (a + i) (b + i) (by omega) (by omega) dk[b + i]! dk[a + i]!)
    generalize enc dk[a + i]! = cI44 at S2 l44a s44b
    generalize enc dk[b + i]! = cJ44 at S2 l44b s44a s44b
    clear S1
    go_wp2_with fail
    go_big_region_o
    clear l44a l44b s44a s44b
    generalize (wr.drew.setCells blk (off + (a + i) * 11) cJ44).setCells blk (off + (b + i) * 11) cI44 = w2 at S2 ⊢
    go_wp2
    go_roundg (n - (i + 1))
    case measure => omega
    case rel =>
     exact ⟨i + 1, swp dk (a + i) (b + i), by simp, by omega, by omega, by rw [size_swp]; exact hds, by rw [HEQ.out]; rfl, S2⟩
  · have hnot : ¬ (i : Int) < (n : Int) := by omega
    go_wp2
    go_returns
    refine ⟨rfl, ?_⟩
    obtain rfl : i = n := by omega
    rw [← HEQ.out]
    exact S1.out
end
section
open Go.Sort
variable {α : Type} [Inhabited α]
theorem swapN_get (a b : Nat) : ∀ (n : Nat) (d : Array α), a + n ≤ b → b + n ≤ d.size → ∀ t, (swapN a b n d)[t]! = if a ≤ t ∧ t < a + n then d[t - a + b]! else if b ≤ t ∧ t < b + n then d[t - b + a]! else d[t]!
 | 0, d, _, _, t => by
   rw [if_neg (by omega), if_neg (by omega)]; rfl
 | n + 1, d, h1, h2, t => by
   have ih := swapN_get a b n d (by omega) (by omega)
   have hs := size_swapN a b n d
   rw [swapN, swp_get _ (by omega) (by omega)]
   rw [ih, ih, ih]
   repeat' split
   all_goals first | (exfalso; omega) | (congr 1; omega) | rfl
def rotG (d : Array α) (a m b t : Nat) : α := if a ≤ t ∧ t < a + (b - m) then d[t + (m - a)]! else if a + (b - m) ≤ t ∧ t < b then d[t - (b - m)]! else d[t]!
theorem rot_left (d : Array α) (m i j : Nat) (hi : i ≤ m) (hij : j < i) (hs : m + j ≤ d.size) (t : Nat) : rotG (swapN (m - i) m j d) (m - (i - j)) m (m + j) t = rotG d (m - i) m (m + j) t := by
 unfold rotG
 simp only [swapN_get (m - i) m j d (by omega) (by omega)]
 repeat' split
 all_goals first | (exfalso; omega) | (congr 1; omega) | rfl
theorem rot_right (d : Array α) (m i j : Nat) (hi : i ≤ m) (hij : i < j) (hs : m + j ≤ d.size) (t : Nat) : rotG (swapN (m - i) (m + j - i) i d) (m - i) m (m + (j - i)) t = rotG d (m - i) m (m + j) t := by
 unfold rotG
 simp only [swapN_get (m - i) (m + j - i) i d (by omega) (by omega)]
 repeat' split
 all_goals first | (exfalso; omega) | (congr 1; omega) | rfl
theorem rot_end (d : Array α) (m i : Nat) (hi : i ≤ m) (hs : m + i ≤ d.size) (t : Nat) : (swapN (m - i) m i d)[t]! = rotG d (m - i) m (m + i) t := by
 unfold rotG
 rw [swapN_get (m - i) m i d (by omega) (by omega)]
 repeat' split
 all_goals first | (exfalso; omega) | (congr 1; omega) | rfl
theorem rot_none (d : Array α) (a t : Nat) : rotG d a (a + 1) (a + 1) t = d[t]! := by
 unfold rotG
 repeat' split
 all_goals first | (exfalso; omega) | (congr 1; omega) | rfl
theorem rot_none' (d : Array α) (m t : Nat) : rotG d m m (m + 1) t = d[t]! := by
 unfold rotG
 repeat' split
 all_goals first | (exfalso; omega) | (congr 1; omega) | rfl
theorem rot_skip (d : Array α) (a b t : Nat) : rotG d a a b t = d[t]! := by
 unfold rotG
 repeat' split
 all_goals first | (exfalso; omega) | (congr 1; omega) | rfl
theorem rot_skip' (d : Array α) (a m t : Nat) : rotG d a m m t = d[t]! := by
 unfold rotG
 repeat' split
 all_goals first | (exfalso; omega) | (congr 1; omega) | rfl
theorem rot_up (d dk : Array α) (a k : Nat) (hk : a ≤ k) (hs : k + 1 < dk.size) (h : ∀ t, dk[t]! = rotG d a (a + 1) (k + 1) t) (t : Nat) : (swp dk k (k + 1))[t]! = rotG d a (a + 1) (k + 2) t := by
 rw [swp_get _ (by omega) (by omega)]
 simp only [h]
 unfold rotG
 repeat' split
 all_goals first | (exfalso; omega) | (congr 1; omega) | rfl
theorem rot_down (d dk : Array α) (m k : Nat) (hk : k + 1 ≤ m) (hs : m < dk.size) (h : ∀ t, dk[t]! = rotG d (k + 1) m (m + 1) t) (t : Nat) : (swp dk (k + 1) k)[t]! = rotG d k m (m + 1) t := by
 rw [swp_get _ (by omega) (by omega)]
 simp only [h]
 unfold rotG
 repeat' split
 all_goals first | (exfalso; omega) | (congr 1; omega) | rfl
theorem rg_app (a n b k : Nat) (hb : b = a + n) : List.range' a n ++ List.range' b k = List.range' a (n + k) := by subst hb; exact List.range'_append_1
theorem rot_perm {d d' : Array α} {a s m e b : Nat} (h0 : a ≤ s) (h1 : s ≤ m) (h2 : m ≤ e) (h3 : e ≤ b) (hb : b ≤ d.size) (hs : d'.size = d.size) (h : ∀ t, d'[t]! = rotG d s m e t) : PermIn a b d d' := by
 refine ⟨hs, fun i hi => ?_, ?_⟩
 · rw [h]; unfold rotG; rw [if_neg (by omega), if_neg (by omega)]
 · rw [extract_toList d' a b (by omega), extract_toList d a b hb]
   have e1 : List.range' a (b - a) = List.range' a (s - a) ++ (List.range' s (e - m) ++ (List.range' (s + (e - m)) (m - s) ++ List.range' e (b - e))) := by
    rw [rg_app (s + (e - m)) (m - s) e _ (by omega), rg_app s (e - m) (s + (e - m)) _ rfl, rg_app a (s - a) s _ (by omega)]
    congr 1; omega
   have e2 : List.range' a (b - a) = List.range' a (s - a) ++ (List.range' s (m - s) ++ (List.range' m (e - m) ++ List.range' e (b - e))) := by
    rw [rg_app m (e - m) e _ (by omega), rg_app s (m - s) m _ (by omega), rg_app a (s - a) s _ (by omega)]
    congr 1; omega
   conv => lhs; rw [e1]
   conv => rhs; rw [e2]
   simp only [List.map_append]
   have p1 : (List.range' a (s - a)).map (fun i => d'[i]!) = (List.range' a (s - a)).map (fun i => d[i]!) := List.map_congr_left fun t ht => by
    have := List.mem_range'_1.1 ht
    rw [h]; unfold rotG; rw [if_neg (by omega), if_neg (by omega)]
   have p4 : (List.range' e (b - e)).map (fun i => d'[i]!) = (List.range' e (b - e)).map (fun i => d[i]!) := List.map_congr_left fun t ht => by
    have := List.mem_range'_1.1 ht
    rw [h]; unfold rotG; rw [if_neg (by omega), if_neg (by omega)]
   have p2 : (List.range' s (e - m)).map (fun i => d'[i]!) = (List.range' m (e - m)).map (fun i => d[i]!) := by
    apply List.ext_getElem
    · simp
    · intro k hk1 hk2
      simp at hk1
      simp [h]
      unfold rotG; rw [if_pos (by omega)]; congr 1; omega
   have p3 : (List.range' (s + (e - m)) (m - s)).map (fun i => d'[i]!) = (List.range' s (m - s)).map (fun i => d[i]!) := by
    apply List.ext_getElem
    · simp
    · intro k hk1 hk2
      simp at hk1
      simp [h]
      unfold rotG; rw [if_neg (by omega), if_pos (by omega)]; congr 1; omega
   rw [p1, p2, p3, p4]
   refine List.Perm.append_left _ ?_
   rw [← List.append_assoc, ← List.append_assoc]
   exact List.Perm.append_right _ List.perm_append_comm
def Asc (lt : α → α → Bool) (a b : Nat) (d : Array α) : Prop := ∀ i j, a ≤ i → i < j → j < b → lt d[i]! d[j]! = true
structure MPre (cf : α → α → Int) (lt : α → α → Bool) (d : Array α) (a m b : Nat) : Prop where
 am : a ≤ m
 mb : m ≤ b
 bs : b ≤ d.size
 s1 : Asc lt a m d
 s2 : Asc lt m b d
 c1 : ∀ i j, a ≤ i → i < m → m ≤ j → j < b → lt d[j]! d[i]! = decide (cf d[j]! d[i]! < 0)
 c2 : ∀ i j, a ≤ i → i < m → m ≤ j → j < b → lt d[i]! d[j]! = !decide (cf d[j]! d[i]! < 0)
def MPost (lt : α → α → Bool) (d : Array α) (a b : Nat) (d' : Array α) : Prop := PermIn a b d d' ∧ Asc lt a b d'
section
variable {cf : α → α → Int} {lt : α → α → Bool} {d d' : Array α} {a m b : Nat}
theorem Asc.le (hS : SWO lt) (h : Asc lt a b d) {i j : Nat} (h1 : a ≤ i) (h2 : i ≤ j) (h3 : j < b) {x : α} (hx : lt d[j]! x = true) : lt d[i]! x = true := by
 by_cases e : i = j
 · subst e; exact hx
 · exact hS.trans _ _ _ (h i j h1 (by omega) h3) hx
theorem Asc.ge (hS : SWO lt) (h : Asc lt a b d) {i j : Nat} (h1 : a ≤ i) (h2 : i ≤ j) (h3 : j < b) {x : α} (hx : lt x d[i]! = true) : lt x d[j]! = true := by
 by_cases e : i = j
 · subst e; exact hx
 · exact hS.trans _ _ _ hx (h i j h1 (by omega) h3)
theorem MPre.split (h : MPre cf lt d a m b) {s e : Nat} (h1 : a ≤ s) (h2 : s ≤ m) (h3 : m ≤ e) (h4 : e ≤ b) (k1 : ∀ i j, s ≤ i → i < m → m ≤ j → j < e → lt d[j]! d[i]! = true) (k2 : ∀ i j, a ≤ i → i < s → e ≤ j → j < b → lt d[i]! d[j]! = true)
 (hs : d'.size = d.size) (hr : ∀ t, d'[t]! = rotG d s m e t) :
 PermIn a b d d' ∧ MPre cf lt d' a s (s + (e - m)) ∧ MPre cf lt d' (s + (e - m)) e b ∧ ∀ i j, a ≤ i → i < s + (e - m) → s + (e - m) ≤ j → j < b → lt d'[i]! d'[j]! = true := by
 have g1 : ∀ t, t < s ∨ e ≤ t → d'[t]! = d[t]! := fun t ht => by rw [hr]; unfold rotG; rw [if_neg (by omega), if_neg (by omega)]
 have g2 : ∀ t, s ≤ t → t < s + (e - m) → d'[t]! = d[t + (m - s)]! := fun t ht ht2 => by rw [hr]; unfold rotG; rw [if_pos (by omega)]
 have g3 : ∀ t, s + (e - m) ≤ t → t < e → d'[t]! = d[t - (e - m)]! := fun t ht ht2 => by rw [hr]; unfold rotG; rw [if_neg (by omega), if_pos (by omega)]
 have hbs := h.bs
 refine ⟨rot_perm h1 h2 h3 h4 hbs hs hr, ⟨by omega, by omega, by omega, ?_, ?_, ?_, ?_⟩, ⟨by omega, by omega, by omega, ?_, ?_, ?_, ?_⟩, ?_⟩
 · intro i j q1 q2 q3
   rw [g1 i (by omega), g1 j (by omega)]; exact h.s1 i j q1 q2 (by omega)
 · intro i j q1 q2 q3
   rw [g2 i (by omega) (by omega), g2 j (by omega) (by omega)]; exact h.s2 _ _ (by omega) (by omega) (by omega)
 · intro i j q1 q2 q3 q4
   rw [g1 i (by omega), g2 j (by omega) (by omega)]; exact h.c1 _ _ (by omega) (by omega) (by omega) (by omega)
 · intro i j q1 q2 q3 q4
   rw [g1 i (by omega), g2 j (by omega) (by omega)]; exact h.c2 _ _ (by omega) (by omega) (by omega) (by omega)
 · intro i j q1 q2 q3
   rw [g3 i (by omega) (by omega), g3 j (by omega) (by omega)]; exact h.s1 _ _ (by omega) (by omega) (by omega)
 · intro i j q1 q2 q3
   rw [g1 i (by omega), g1 j (by omega)]; exact h.s2 _ _ (by omega) (by omega) (by omega)
 · intro i j q1 q2 q3 q4
   rw [g3 i (by omega) (by omega), g1 j (by omega)]; exact h.c1 _ _ (by omega) (by omega) (by omega) (by omega)
 · intro i j q1 q2 q3 q4
   rw [g3 i (by omega) (by omega), g1 j (by omega)]; exact h.c2 _ _ (by omega) (by omega) (by omega) (by omega)
 · intro i j q1 q2 q3 q4
   by_cases u1 : i < s
   · rw [g1 i (by omega)]
     by_cases u2 : j < e
     · rw [g3 j (by omega) (by omega)]; exact h.s1 _ _ (by omega) (by omega) (by omega)
     · rw [g1 j (by omega)]; exact k2 _ _ (by omega) (by omega) (by omega) (by omega)
   · rw [g2 i (by omega) (by omega)]
     by_cases u2 : j < e
     · rw [g3 j (by omega) (by omega)]; exact k1 _ _ (by omega) (by omega) (by omega) (by omega)
     · rw [g1 j (by omega)]; exact h.s2 _ _ (by omega) (by omega) (by omega)
theorem asc_join {q : Nat} {d1 d2 : Array α} (h1 : a ≤ q) (h2 : q ≤ b) (hb : b ≤ d.size) (hx : ∀ i j, a ≤ i → i < q → q ≤ j → j < b → lt d[i]! d[j]! = true) (p1 : PermIn a q d d1) (p2 : PermIn q b d1 d2) (a1 : Asc lt a q d1) (a2 : Asc lt q b d2) : PermIn a b d d2 ∧ Asc lt a b d2 := by
 have s1 := p1.1
 have s2 := p2.1
 refine ⟨permIn_trans _ _ _ _ _ (permIn_mono _ _ _ _ _ _ (Nat.le_refl a) h2 hb p1) (permIn_mono _ _ _ _ _ _ h1 (Nat.le_refl b) (by omega) p2), fun i j q1 q2 q3 => ?_⟩
 by_cases u1 : j < q
 · rw [p2.2.1 i (by omega), p2.2.1 j (by omega)]; exact a1 i j q1 q2 u1
 · by_cases u2 : i < q
   · rw [p2.2.1 i (by omega)]
     refine permIn_all _ _ q b (fun y => lt d1[i]! y = true) (by omega) p2 (fun t t1 t2 => ?_) j (by omega) q3
     rw [p1.2.1 t (by omega)]
     refine permIn_all _ _ a q (fun y => lt y d[t]! = true) (by omega) p1 (fun u v1 v2 => ?_) i q1 u2
     exact hx u t v1 v2 t1 t2
   · exact a2 i j (by omega) q2 q3
theorem merge_one_left (hS : SWO lt) (h : MPre cf lt d a (a + 1) b) {i : Nat} (h1 : a + 1 ≤ i) (h2 : i ≤ b) (k1 : i = a + 1 ∨ cf d[i - 1]! d[a]! < 0) (k2 : i = b ∨ ¬ cf d[i]! d[a]! < 0) (hs : d'.size = d.size) (hr : ∀ t, d'[t]! = rotG d a (a + 1) i t) : MPost lt d a b d' := by
 obtain ⟨p, m1, m2, hx⟩ := h.split (Nat.le_refl a) (by omega) h1 h2 (fun u v u1 u2 v1 v2 => by
  obtain rfl : u = a := by omega
  rcases k1 with k1 | k1
  · omega
  · refine h.s2.le hS (j := i - 1) (by omega) (by omega) (by omega) ?_
    rw [h.c1 _ _ (by omega) (by omega) (by omega) (by omega)]; simpa using k1) (fun u v u1 u2 => by omega) hs hr
 have e1 : ∀ u v, a + (i - (a + 1)) ≤ u → u < v → v < b → lt d'[u]! d'[v]! = true := by
  intro u v u1 u2 v2
  by_cases hu : i ≤ u
  · exact m2.s2 u v hu u2 v2
  · obtain rfl : u = a + (i - (a + 1)) := by omega
    have c0 : ∀ v, i ≤ v → v < b → lt d'[a + (i - (a + 1))]! d'[v]! = !decide (cf d'[v]! d'[a + (i - (a + 1))]! < 0) := fun v w1 w2 => m2.c2 _ _ (by omega) (by omega) w1 w2
    have g0 : d'[a + (i - (a + 1))]! = d[a]! := by rw [hr]; unfold rotG; rw [if_neg (by omega), if_pos (by omega)]; congr 1; omega
    have gi : d'[i]! = d[i]! := by rw [hr]; unfold rotG; rw [if_neg (by omega), if_neg (by omega)]
    have ci : lt d'[a + (i - (a + 1))]! d'[i]! = true := by
     rw [c0 i (Nat.le_refl i) (by omega), g0, gi]
     rcases k2 with k2 | k2
     · omega
     · simpa using k2
    exact m2.s2.ge hS (i := i) (Nat.le_refl i) (by omega) v2 ci
 refine ⟨p, fun u v u1 u2 v2 => ?_⟩
 by_cases hv : v < a + (i - (a + 1))
 · exact m1.s2 u v u1 u2 hv
 · by_cases hu : u < a + (i - (a + 1))
   · exact hx u v u1 hu (by omega) v2
   · exact e1 u v (by omega) u2 v2
theorem merge_one_right (hS : SWO lt) (h : MPre cf lt d a m (m + 1)) {i : Nat} (h1 : a ≤ i) (h2 : i ≤ m) (k1 : i = a ∨ ¬ cf d[m]! d[i - 1]! < 0) (k2 : i = m ∨ cf d[m]! d[i]! < 0) (hs : d'.size = d.size) (hr : ∀ t, d'[t]! = rotG d i m (m + 1) t) : MPost lt d a (m + 1) d' := by
 obtain ⟨p, m1, m2, hx⟩ := h.split h1 h2 (Nat.le_succ m) (Nat.le_refl _) (fun u v u1 u2 v1 v2 => by
  obtain rfl : v = m := by omega
  rcases k2 with k2 | k2
  · omega
  · refine h.s1.ge hS (i := i) (by omega) u1 u2 ?_
    rw [h.c1 _ _ (by omega) (by omega) (by omega) (by omega)]; simpa using k2) (fun u v u1 u2 v1 v2 => by omega) hs hr
 have gi : d'[i]! = d[m]! := by rw [hr]; unfold rotG; rw [if_pos (by omega)]; congr 1; omega
 have gp : ∀ u, u < i → d'[u]! = d[u]! := fun u hu => by rw [hr]; unfold rotG; rw [if_neg (by omega), if_neg (by omega)]
 refine ⟨p, fun u v u1 u2 v2 => ?_⟩
 by_cases hv : i < v
 · by_cases hu : u ≤ i
   · exact hx u v u1 (by omega) (by omega) v2
   · exact m2.s1 u v (by omega) u2 v2
 · by_cases hvi : v = i
   · subst hvi
     have ci : lt d[v - 1]! d[m]! = true := by
      rw [h.c2 _ _ (by omega) (by omega) (by omega) (by omega)]
      rcases k1 with k1 | k1
      · omega
      · simpa using k1
     rw [gi, gp u u2]
     exact h.s1.le hS u1 (by omega : u ≤ v - 1) (by omega) ci
   · exact m1.s1 u v u1 u2 (by omega)
theorem merge_split (hS : SWO lt) (h : MPre cf lt d a m b) {mid s e s0 r0 : Nat} (hmid : mid = (a + b) / 2) (ha2 : a + 2 ≤ m) (hb2 : m + 2 ≤ b) (hse : e = mid + m - s) (h0 : s0 = if mid < m then mid + m - b else a) (hr0 : r0 = if mid < m then mid else m) (q1 : s0 ≤ s) (q2 : s ≤ r0)
 (k1 : s = s0 ∨ ¬ cf d[mid + m - s]! d[s - 1]! < 0) (k2 : s = r0 ∨ cf d[mid + m - 1 - s]! d[s]! < 0) (hs : d'.size = d.size) (hr : ∀ t, d'[t]! = rotG d s m e t) :
 s ≤ m ∧ m ≤ e ∧ e ≤ b ∧ a ≤ s ∧ s ≤ mid ∧ mid ≤ e ∧ PermIn a b d d' ∧ MPre cf lt d' a s mid ∧ MPre cf lt d' mid e b ∧ ∀ i j, a ≤ i → i < mid → mid ≤ j → j < b → lt d'[i]! d'[j]! = true := by
 have z1 : s ≤ m ∧ m ≤ e ∧ e ≤ b ∧ a ≤ s ∧ s ≤ mid ∧ mid ≤ e := by
  by_cases hc : mid < m
  · rw [if_pos hc] at h0 hr0; refine ⟨?_, ?_, ?_, ?_, ?_, ?_⟩ <;> omega
  · rw [if_neg hc] at h0 hr0; refine ⟨?_, ?_, ?_, ?_, ?_, ?_⟩ <;> omega
 obtain ⟨y1, y2, y3, y4, y5, y6⟩ := z1
 have hmm : s + (e - m) = mid := by omega
 obtain ⟨p, m1, m2, hx⟩ := h.split y4 y1 y2 y3 (fun u v u1 u2 v1 v2 => by
  rcases k2 with k2 | k2
  · exfalso
    split at hr0 <;> omega
  · have c0 : lt d[e - 1]! d[s]! = true := by
     rw [h.c1 _ _ (by omega) (by omega) (by omega) (by omega), show e - 1 = mid + m - 1 - s by omega]; simpa using k2
    exact h.s2.le hS v1 (by omega : v ≤ e - 1) (by omega) (h.s1.ge hS y4 u1 u2 c0)) (fun u v u1 u2 v1 v2 => by
  rcases k1 with k1 | k1
  · exfalso
    split at h0 <;> omega
  · have c0 : lt d[s - 1]! d[e]! = true := by
     rw [h.c2 _ _ (by omega) (by omega) (by omega) (by omega), hse]; simpa using k1
    exact h.s1.le hS u1 (by omega : u ≤ s - 1) (by omega) (h.s2.ge hS y2 v1 v2 c0)) hs hr
 rw [hmm] at m1 m2 hx
 exact ⟨y1, y2, y3, y4, y5, y6, p, m1, m2, hx⟩
theorem MPre.nil_left (h : MPre cf lt d a a b) : MPost lt d a b d := ⟨permIn_refl _ _ _, h.s2⟩
theorem MPre.nil_right (h : MPre cf lt d a b b) : MPost lt d a b d := ⟨permIn_refl _ _ _, h.s1⟩
theorem MPre.elsewhere (h : MPre cf lt d a m b) (hs : d'.size = d.size) (he : ∀ t, a ≤ t → t < b → d'[t]! = d[t]!) : MPre cf lt d' a m b := by
 have am := h.am
 have mb := h.mb
 have bs := h.bs
 refine ⟨h.am, h.mb, by omega, ?_, ?_, ?_, ?_⟩
 · intro i j q1 q2 q3
   rw [he i (by omega) (by omega), he j (by omega) (by omega)]; exact h.s1 i j q1 q2 q3
 · intro i j q1 q2 q3
   rw [he i (by omega) (by omega), he j (by omega) (by omega)]; exact h.s2 i j q1 q2 q3
 · intro i j q1 q2 q3 q4
   rw [he i (by omega) (by omega), he j (by omega) (by omega)]; exact h.c1 i j q1 q2 q3 q4
 · intro i j q1 q2 q3 q4
   rw [he i (by omega) (by omega), he j (by omega) (by omega)]; exact h.c2 i j q1 q2 q3 q4
end
end
end Go.Proofs.YtoimjjhopljdmaaGreat
