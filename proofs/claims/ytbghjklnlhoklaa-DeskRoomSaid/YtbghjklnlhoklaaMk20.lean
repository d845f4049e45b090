/-
  Chapter 16: the reference's desk: Begin, Close, New. Condition: the names lie apart from the desk; they are a thousand at most.
  Chapter 16: both desks' contracts, said of things that lie in memory beside others. Condition: the world may be; names lie ahead of all that the call made.
-/
import Derived.Test.YtbghjklnlhoklaaMk15
import Derived.Test.YtbghjklnlhoklaaMk14
import Derived.Test.YtbghjklnlhoklaaDkT
import Derived.Test.YtbghjklnlhoklaaMk19
import Derived.Test.YtbghjklnlhoklaaDkD
import Derived.Test.YtbghjklnlhoklaaDkG
import Derived.Test.YtbghjklnlhoklaaDkL
import Derived.Test.YtbghjklnlhoklaaMk18
namespace Go.Proofs.Ytbghjklnlhoklaa
open Go.RowKit

section
variable (w : World) (r : RDLay) (c : Cfg) (kk : Int) (D : Dk)
/-- What Begin leaves. -/
def BeginQ (w : World) (r : RDLay) (c : Cfg) (kk : Int) (D : Dk) (e : Ending) (w' : World) : Prop := ∃ v, e = .returned (.tuple #[.int .i64 (beginF D).1.1, v, .int .i64 (beginF D).1.2.2]) ∧ Sl w' 37 16 v (beginF D).1.2.1.length (cellsR cmC (beginF D).1.2.1) ∧ (v.ownBlock = none ∨ v.ownBlock = r.qv.ownBlock) ∧
  ∃ r', r'.p = r.p ∧ r'.R = r.R ∧ RDeskAt w' r' c kk (beginF D).2 ∧ Chg w w' r.own ∧ (∀ b, r'.own b → r.own b ∨ w.heap.size ≤ b) ∧ ∀ g, v.ownBlock = some g → ¬ r'.own g
theorem begin_ok (h : RDeskAt w r c kk D) (hop : D.op = false) (ht : D.t < 1099511627776) : Calls Try.prog 59 #[.pointer (some ⟨r.p, 0, none⟩)] w (BeginQ w r c kk D) := by
  have c2 := h.cell 8
  have c3 := h.cell 9
  have c4 := h.cell 10
  have f2 := h.frozen 8
  have f3 := h.frozen 9
  have f4 := h.frozen 10
  have hlt := lt_of_heap h.box
  have htt := h.t0
  simp [rdeskC, hop] at c2 c3 c4
  have hbe : beginF D = ((D.t + 1, D.q, 0), { D with q := [], t := D.t + 1, op := true }) := by
    have : ¬ (beginB D = true) := by simp [beginB, hop]; omega
    unfold beginF; rw [if_neg this]
  have hdt : decide (1099511627776 ≤ D.t) = false := by simpa using ht
  have wr : IntKind.i64.wrap (D.t + 1) = D.t + 1 := by rw [IntKind.wrap_i64]; omega
  obtain ⟨p, cap, hv⟩ := sl_frm h.q
  have FIN : BeginQ w r c kk D (.returned (.tuple #[.int .i64 (D.t + 1), r.qv, .int .i64 0])) (((w.setCell ⟨r.p, 8, none⟩ (.slice none 0 0)).setCell ⟨r.p, 10, none⟩ (.bool true)).setCell ⟨r.p, 9, none⟩ (.int .i64 (D.t + 1))) := by
    unfold BeginQ
    rw [hbe]
    have hx : ∀ (W : World) (o : Nat) (u : Value) (b : Nat), b ≠ r.p → (W.setCell ⟨r.p, o, none⟩ u).heap[b]? = W.heap[b]? := fun W o u b hb => Below.heap_setCell _ _ _ _ (by simpa using hb)
    have hnp : ∀ g, r.qv.ownBlock = some g → g ≠ r.p := fun g hg => (h.aq g hg).1
    refine ⟨_, rfl, h.q.keep fun g hg => by rw [hx _ _ _ _ (hnp g hg), hx _ _ _ _ (hnp g hg), hx _ _ _ _ (hnp g hg)], .inr rfl, ⟨r.p, r.R, .slice none 0 0⟩, rfl, rfl, ⟨?_, ?_, ⟨rfl, .inl ⟨rfl, rfl⟩⟩, ?_, ?_, h.ap, fun g hg => (by cases hg)⟩, ?_, ?_, ?_⟩
    · rw [heap_setCell_same _ _ _ _ _ _ _ (heap_setCell_same _ _ _ _ _ _ _ (heap_setCell_same _ _ _ _ _ _ _ h.box))]
      simp [rdeskC]
    · exact h.pool.keep fun b hb => by
        have : b ≠ r.p := fun e => h.ap (e ▸ hb)
        rw [hx _ _ _ _ this, hx _ _ _ _ this, hx _ _ _ _ this]
    · have := h.qn; simp only [List.length_nil]; omega
    · simp only; omega
    · exact ((Chg.refl w r.own).setCell _ _ (.inl (.inl rfl))).setCell _ _ (.inl (.inl rfl)) |>.setCell _ _ (.inl (.inl rfl))
    · rintro b (e | e | e)
      · exact .inl (.inl e)
      · exact .inl (.inr (.inl e))
      · cases e
    · intro g hg
      rintro (e | e | e)
      · exact (h.aq g hg).1 e
      · exact (h.aq g hg).2 e
      · cases e
  rw [hv] at c2 FIN
  have HF := Lib.hid FIN
  generalize D.t = T at *
  clear h FIN hv hbe htt hop
  generalize hQ : BeginQ w r c kk D = Q at *
  clear hQ
  go_enter Try.func59, Try.ntmps59
  go_wp2_with fail
  exact HF.out
theorem begin_bad (h : RDeskAt w r c kk D) (hb : beginB D = true) : Calls Try.prog 59 #[.pointer (some ⟨r.p, 0, none⟩)] w (BeginQ w r c kk D) := by
  have c3 := h.cell 9
  have c4 := h.cell 10
  have hlt := lt_of_heap h.box
  simp [rdeskC] at c3 c4
  have FIN : ∀ w', Below w.heap.size w w' → BeginQ w r c kk D (.returned (.tuple #[.int .i64 0, .slice none 0 0, .int .i64 14])) w' := fun w' hw => by
    unfold BeginQ beginF
    rw [if_pos hb]
    exact ⟨_, rfl, ⟨rfl, .inl ⟨rfl, rfl⟩⟩, .inl rfl, r, rfl, rfl, h.grown hw, Chg.of_below hw, fun b hb => .inl hb, fun g hg => by cases hg⟩
  have HF := Lib.hid FIN
  unfold beginB at hb
  generalize D.t = T at *
  generalize D.op = op at *
  generalize hQ : BeginQ w r c kk D = Q at *
  clear h FIN hQ
  cases op with
  | true =>
    go_enter Try.func59, Try.ntmps59
    go_wp2_with fail
    exact HF.out _ (by repeat' (first | (with_reducible exact Below.refl _ _) | (with_reducible assumption) | (with_reducible refine below_drewN ?_ _) | (with_reducible refine below_more _ _ _ ?_ ?_) | (with_reducible refine Below.alloc ?_ ?_ _) | (with_reducible refine Below.drew ?_) | (with_reducible refine Below.setCell ?_ ?_ _) | go_size))
  | false =>
    have hdt : decide (1099511627776 ≤ T) = true := by simpa using hb
    go_enter Try.func59, Try.ntmps59
    go_wp2_with fail
    exact HF.out _ (by repeat' (first | (with_reducible exact Below.refl _ _) | (with_reducible assumption) | (with_reducible refine below_drewN ?_ _) | (with_reducible refine below_more _ _ _ ?_ ?_) | (with_reducible refine Below.alloc ?_ ?_ _) | (with_reducible refine Below.drew ?_) | (with_reducible refine Below.setCell ?_ ?_ _) | go_size))
theorem rbegin_any (h : RDeskAt w r c kk D) : Calls Try.prog 59 #[.pointer (some ⟨r.p, 0, none⟩)] w (BeginQ w r c kk D) := by
  cases hb : beginB D with
  | true => exact begin_bad w r c kk D h hb
  | false =>
    simp [beginB] at hb
    exact begin_ok w r c kk D h hb.1 (by omega)
theorem RDStp.shut {w w' : World} {r : RDLay} {c : Cfg} {kk : Int} {D : Dk} (h : RDStp w r c kk w' D) : w'.frozen? ⟨r.p, 10, none⟩ = false ∧ (∃ u, w'.cell? ⟨r.p, 10, none⟩ = some u) ∧ r.p < w'.heap.size ∧ RDStp w r c kk (w'.setCell ⟨r.p, 10, none⟩ (.bool false)) { D with op := false } := by
  have h' := h
  obtain ⟨d', e1, e2, hd, hc, ho⟩ := h
  have hf := hd.frozen 10
  have hc4 := hd.cell 10
  have hlt := lt_of_heap hd.box
  rw [e1] at hf hc4 hlt
  refine ⟨hf, ⟨_, by rw [hc4]; rfl⟩, hlt, h'.trans fun d2 f1 f2 hd2 => ?_⟩
  refine hd2.boxed (v' := d2.qv) ?_ rfl ?_ hd2.qn hd2.t0 (fun g hg => .inl hg) ((Chg.refl _ _).setCell _ _ (.inl (.inl f1.symm)))
  · rw [← f1, heap_setCell_same _ _ _ _ _ _ _ hd2.box]
    simp [rdeskC]
  · exact hd2.q.keep fun g hg => Below.heap_setCell _ _ _ _ fun e => (hd2.aq g hg).1 ((show g = r.p from e).trans f1.symm)
theorem rclose_shut (h : RDeskAt w r c kk D) (v : Value) (hop : D.op = false) (hv : ∃ p n cap, v = .slice p n cap) : Calls Try.prog 60 #[.pointer (some ⟨r.p, 0, none⟩), v] w fun e w' => e = .returned (.tuple #[.int .i64 0, .int .i64 14]) ∧ Below w.heap.size w w' := by
  have c4 := h.cell 10
  have hlt := lt_of_heap h.box
  obtain ⟨p, n, cap, rfl⟩ := hv
  simp [rdeskC, hop] at c4
  clear h hop
  go_enter Try.func60, Try.ntmps60
  go_wp2_with fail
  go_ret2
  exact ⟨rfl, (by repeat' (first | (with_reducible exact Below.refl _ _) | (with_reducible assumption) | (with_reducible refine below_drewN ?_ _) | (with_reducible refine below_more _ _ _ ?_ ?_) | (with_reducible refine Below.alloc ?_ ?_ _) | (with_reducible refine Below.drew ?_) | (with_reducible refine Below.setCell ?_ ?_ _) | go_size))⟩
set_option maxRecDepth 100000 in
set_option maxHeartbeats 2000000 in
theorem rclose_ok (h : RDeskAt w r c kk D) (hkk : kk ≤ 1000000) (v : Value) (l : List Nid) (hop : D.op = true) (hv : RIn nidL w v l) (ha : l ≠ [] → ∀ g, v.ownBlock = some g → ¬ r.own g) (hl : l.length ≤ 1000) :
    Calls Try.prog 60 #[.pointer (some ⟨r.p, 0, none⟩), v] w fun e w' => e = .returned (.tuple #[.int .i64 ((freesF D.M 0 l).1 : Nat), .int .i64 0]) ∧ RDStp w r c (kk + l.length) w' { D with M := (freesF D.M 0 l).2, op := false } := by
  have c4 := h.cell 10
  simp [rdeskC, hop] at c4
  have hlt := lt_of_heap h.box
  have H0 := Lib.hid (RDStp.of_grown h (Below.refl w.heap.size w))
  have HV := Lib.hid hv
  have HA := Lib.hid ha
  have HFS := Lib.hid (fun k x hx => frees_step D.M (l := l) (t := k) (x := x) hx)
  have HLE := Lib.hid (fun k => frees_le D.M 0 (l.take k))
  obtain ⟨p, cap, rfl, _, _, _, _⟩ := hv
  clear h ha hop
  go_enter Try.func60, Try.ntmps60
  go_wp2_with fail
  go_loopw [6, 7] (fun n i wr => ∃ k : Nat, k ≤ l.length ∧ i = .int .i64 k ∧ n = .int .i64 ((freesF D.M 0 (l.take k)).1 : Nat) ∧ Hid (RDStp w r c (kk + k) wr { D with M := (freesF D.M 0 (l.take k)).2 })) (fun _ i _ => l.length - (intOf i).toNat)
  case atStart => exact ⟨0, Nat.zero_le _, rfl, rfl, Lib.hid (by rw [show kk + ((0 : Nat) : Int) = kk by omega]; exact H0.out)⟩
  case round =>
    obtain ⟨k, hk, rfl, rfl, hh⟩ := hrel
    obtain ⟨wo, rfl⟩ : ∃ wo : World, wo = wr := ⟨_, rfl⟩
    have hle := HLE.out k
    rw [List.length_take, Nat.min_eq_left hk] at hle
    have hI : 0 ≤ (k : Int) := Int.natCast_nonneg k
    by_cases hlt2 : k < l.length
    · obtain ⟨x, hx⟩ : ∃ x, l[k]? = some x := ⟨_, List.getElem?_eq_getElem hlt2⟩
      have hst := HFS.out k x hx
      obtain ⟨d', e1, e2, hd, hc, ho⟩ := hh.out
      obtain ⟨blk, off, cap', hve, hb, hcx⟩ := (HV.out.chg hc HA.out).cells nidL_len hx
      simp only [Value.slice.injEq, true_and] at hve
      obtain ⟨rfl, rfl⟩ := hve
      obtain ⟨s, i, g⟩ := x
      have q0 := hcx 0 _ rfl
      have q1 := hcx 1 _ rfl
      have q2 := hcx 2 _ rfl
      rw [Nat.add_zero] at q0
      simp only at q0 q1 q2
      have d1 := hd.cell 7
      simp [rdeskC] at d1
      rw [e1] at d1
      have hdp := lt_of_heap hd.box
      rw [e1] at hdp
      simp only at hst
      have HST := Lib.hid hst
      have HF := Lib.hid (fun W (hW : Below wo.heap.size wo W) w' (hs : RStp W d'.R c.ids.toNat (kk + k + 1) w' (freeF (freesF D.M 0 (l.take k)).2 s i g).2) => RDStp.next e1 e2 hc ho ((RDStp.pool (hd.grown hW) hs).from_below hW))
      have HFR := Lib.hid (fun W (hW : Below wo.heap.size wo W) => rfree_any W d'.R c.ids.toNat (freesF D.M 0 (l.take k)).2 (hd.grown hW).pool (by omega) s i g)
      generalize d'.R.p = dp at *
      generalize freesF D.M 0 (l.take k) = fk at *
      generalize freeF fk.2 s i g = fr at *
      obtain ⟨n0, M0⟩ := fk
      obtain ⟨er, M1⟩ := fr
      simp only at hle HST HF HFR
      obtain ⟨z0, z1, z2⟩ := ltz hdp
      obtain ⟨y0, y1, y2⟩ := ltz hb
      have t1 : (k : Int) < (l.length : Int) := by omega
      clear hst hcx hd hc ho e1 e2 hh H0 hx
      go_upto_region 7 with fail
      refine wp_region_still_tail 8 (by kernel_rfl) (by kernel_rfl) ?_
      simp only [List.take_succ_cons, List.take_zero, List.drop_succ_cons, List.drop_zero]
      repeat (first | still_step)
      refine wpStill_nil ?_
      go_wp2_with fail
      refine (HFR.out _ (by repeat' (first | (with_reducible exact Below.refl _ _) | (with_reducible assumption) | (with_reducible refine below_drewN ?_ _) | (with_reducible refine below_more _ _ _ ?_ ?_) | (with_reducible refine Below.alloc ?_ ?_ _) | (with_reducible refine Below.drew ?_) | (with_reducible refine Below.setCell ?_ ?_ _) | go_size))).mono ?_
      rintro e w2 ⟨rfl, hs⟩
      have HD := Lib.hid (HF.out _ (by repeat' (first | (with_reducible exact Below.refl _ _) | (with_reducible assumption) | (with_reducible refine below_drewN ?_ _) | (with_reducible refine below_more _ _ _ ?_ ?_) | (with_reducible refine Below.alloc ?_ ?_ _) | (with_reducible refine Below.drew ?_) | (with_reducible refine Below.setCell ?_ ?_ _) | go_size)) _ hs)
      clear hs HF HFR
      have hkc : kk + ((k + 1 : Nat) : Int) = kk + k + 1 := by omega
      by_cases he : er = 0
      · subst he
        rw [if_pos rfl] at HST
        go_wp2_with fail
        go_roundw
        case rel => exact ⟨k + 1, hlt2, by go_num, by rw [HST.out]; go_num, by rw [HST.out, hkc]; exact HD⟩
        case measure => simp [intOf]; omega
      · rw [if_neg he] at HST
        have he' : (er == 0) = false := by simpa using he
        clear he
        go_wp2_with fail
        go_roundw
        case rel => exact ⟨k + 1, hlt2, by go_num, by rw [HST.out]; rfl, by rw [HST.out, hkc]; exact HD⟩
        case measure => simp [intOf]; omega
    · obtain rfl : k = l.length := by omega
      rw [List.take_length] at hh ⊢
      obtain ⟨f4, ⟨u4, u5⟩, f6, f7⟩ := hh.out.shut
      have HF := Lib.hid f7
      clear f7 hh
      go_wp2_with fail
      go_ret2
      exact ⟨rfl, HF.out⟩
end
theorem rdeskMade {w W : World} {c : Cfg} {R : RLay} {M : List Sh} {P p : Nat} {kk : Int} (hpw : p = W.heap.size) (hw : Below w.heap.size w W) (hp : RPool W R c.ids.toNat kk M) (hP : R.p = P) (ho : ∀ b, R.own b → w.heap.size ≤ b) (hq : (([] : List Cm).length : Int) ≤ c.queue) :
    Made w (W.alloc (.cells #[.int .i64 c.cols, .int .i64 c.rows, .int .i64 c.side, .int .i64 c.radius, .int .i64 c.speed, .int .i64 c.ids, .int .i64 c.queue, .pointer (some ⟨P, 0, none⟩), .slice none 0 0, .int .i64 0, .bool false] 58)) (rdeskO p P c kk ⟨M, [], 0, false⟩) := by
  subst hP hpw
  have hb := (Below.refl W.heap.size W).alloc (Nat.le_refl _) (.cells #[.int .i64 c.cols, .int .i64 c.rows, .int .i64 c.side, .int .i64 c.radius, .int .i64 c.speed, .int .i64 c.ids, .int .i64 c.queue, .pointer (some ⟨R.p, 0, none⟩), .slice none 0 0, .int .i64 0, .bool false] 58)
  have h1 := hw.size
  refine ⟨RDLay.own ⟨W.heap.size, R, .slice none 0 0⟩, ⟨⟨W.heap.size, R, .slice none 0 0⟩, rfl, rfl, ⟨heap_alloc_new W _, hp.grown hb, ⟨rfl, .inl ⟨rfl, rfl⟩⟩, hq, by simp only; omega, fun e => ?_, fun g hg => (by cases hg)⟩, fun _ => Iff.rfl⟩, hw.trans (hb.mono h1), fun x hx => ?_⟩
  · have e' : R.own W.heap.size := e
    have := hp.lt e'; omega
  · rcases hx with e | e | e
    · have e' : x = W.heap.size := e
      omega
    · exact ho x e
    · cases e
set_option maxRecDepth 100000 in
set_option maxHeartbeats 2000000 in
theorem rdnew_ok (cols rows side radius speed ids queue : Int) (w : World) (h : CfgOk ⟨cols, rows, side, radius, speed, ids, queue⟩) :
    Calls Try.prog 28 #[.agg #[.int .i64 cols, .int .i64 rows, .int .i64 side, .int .i64 radius, .int .i64 speed, .int .i64 ids, .int .i64 queue]] w fun e w' => ∃ p R, e = .returned (.pointer (some ⟨p, 0, none⟩)) ∧ Made w w' (rdeskO p R ⟨cols, rows, side, radius, speed, ids, queue⟩ 256 (newD ⟨cols, rows, side, radius, speed, ids, queue⟩)) := by
  obtain ⟨n1, n2⟩ := h.cnt
  simp only at n1 n2
  have i0 := h.i0
  have i1 := h.i1
  have q0 := h.q0
  simp only at i0 i1 q0
  obtain ⟨n, hn⟩ : ∃ n : Nat, cols * rows = (n : Int) := ⟨(cols * rows).toNat, by omega⟩
  obtain ⟨k, rfl⟩ : ∃ k : Nat, ids = (k : Int) := ⟨ids.toNat, by omega⟩
  have wr : IntKind.i64.wrap (cols * rows) = (n : Int) := by rw [hn, IntKind.wrap_i64]; omega
  have hm := hn
  have HNW := Lib.hid (fun W => rnew_ok n k W (by omega) (by omega) (by omega) (by omega))
  have hnk : ((n * k : Nat) : Int) ≤ 256 := by
    have : n * k ≤ 16 * 16 := Nat.mul_le_mul (by omega) (by omega)
    omega
  have hnd : newD ⟨cols, rows, side, radius, speed, k, queue⟩ = ⟨List.replicate n (fresh k k), [], 0, false⟩ := by
    unfold newD; simp only [hn, Int.toNat_natCast]
  rw [hnd]
  clear h hnd
  obtain ⟨w1, hw1, k0, hb1, g0, hsz⟩ := one_box w #[.int .i64 cols, .int .i64 rows, .int .i64 side, .int .i64 radius, .int .i64 speed, .int .i64 (k : Int), .int .i64 queue] 23
  have s1 : w.heap.size < w1.heap.size := by omega
  have x0 := k0 0; simp at x0; have x1 := k0 1; simp at x1; have x2 := k0 2; simp at x2; have x3 := k0 3; simp at x3; have x4 := k0 4; simp at x4; have x5 := k0 5; simp at x5; have x6 := k0 6; simp at x6
  have HW1 := Lib.hid hw1
  have HB1 := Lib.hid hb1
  obtain ⟨z0, z1, z2⟩ := ltz s1
  clear hw1 k0 g0 hsz hn hm
  go_enter Try.func28, Try.ntmps28
  go_upto_region 1 with fail
  rw [← HW1.out]
  go_wp2_with fail
  refine (HNW.out _).mono ?_
  rintro e w2 ⟨rfl, hb2, R, hR, hp, ho⟩
  obtain ⟨d, os, rfl⟩ := more_of hb2
  have HP := Lib.hid hp
  clear hp
  go_wp2_with fail
  go_ret
  have hw2 : Below w.heap.size w (more w1 d os) := HB1.out.trans (hb2.mono HB1.out.size)
  refine ⟨_, _, rfl, rdeskMade (W := more w1 d os) (c := ⟨cols, rows, side, radius, speed, (k : Int), queue⟩) (by simp) hw2 (HP.out.more hnk) hR (fun b hb => Nat.le_trans HB1.out.size (ho b hb)) (by simp only [List.length_nil]; omega)⟩
end Go.Proofs.Ytbghjklnlhoklaa
namespace Go.Proofs.Ytbghjklnlhoklaa
open Go.RowKit

section
variable {A B C F G : Ob} {w0 W W' : World}
theorem and_swap' {o : Nat → Prop} (h : (A.and (B.and C)).holds W o) : (B.and (A.and C)).holds W o := by
  obtain ⟨a, bc, h1, ⟨b, c, h2, h3, h4, h5⟩, h6, h7⟩ := h
  exact ⟨b, fun x => a x ∨ c x, h2, ⟨a, c, h1, h3, fun x ha hc => h6 x ha ((h5 x).2 (.inr hc)), fun _ => Iff.rfl⟩, fun x hb hac => hac.elim (fun ha => h6 x ha ((h5 x).2 (.inl hb))) (h4 x hb), fun x => by rw [h7 x, h5 x, or_left_comm]⟩
theorem and_in' {o : Nat → Prop} (hi : ∀ o, F.holds W o → G.holds W o) (h : (A.and F).holds W o) : (A.and G).holds W o := by
  obtain ⟨a, b, h1, h2, h3, h4⟩ := h
  exact ⟨a, b, h1, hi _ h2, h3, h4⟩
theorem Own.inner (h : Own w0 W (A.and F)) (hi : ∀ o, F.holds W o → G.holds W o) : Own w0 W (A.and G) := by
  obtain ⟨o, h1, h2⟩ := h; exact ⟨o, and_in' hi h1, h2⟩
/-- What is new, behind two others. -/
theorem Own.new3 {N : Ob} (h : Own w0 W (N.and (A.and (B.and F)))) : Own w0 W (A.and (B.and (N.and F))) := h.swap.inner fun _ => and_swap'
theorem Own.third (h : Own w0 W (A.and (B.and (C.and F)))) : Own w0 W (C.and (A.and (B.and F))) := (h.inner fun _ => and_swap').swap
theorem Own.fourth {E : Ob} (h : Own w0 W (A.and (B.and (C.and (E.and F))))) : Own w0 W (E.and (A.and (B.and (C.and F)))) := (h.inner fun _ => and_in' fun _ => and_swap').third
theorem Own.fifth {E H : Ob} (h : Own w0 W (A.and (B.and (C.and (E.and (H.and F)))))) : Own w0 W (H.and (A.and (B.and (C.and (E.and F))))) := (h.inner fun _ => and_in' fun _ => and_in' fun _ => and_swap').fourth
end
section
variable {w0 W : World} {F : Ob} {p q R : Nat} {c : Cfg} {kk : Int} {D : Dk}
theorem look_o (h : Own w0 W ((deskO p c D).and F)) (ho : CfgOk c) (m : Cm) : Calls Try.prog 13 #[.pointer (some ⟨p, 0, none⟩), .agg (cmC m).toArray] W fun e w' => e = .returned (.tuple #[.agg (cmC (lookF c D m).1).toArray, .bool (lookF c D m).2.1, .int .i64 (lookF c D m).2.2]) ∧ Below W.heap.size W w' :=
  h.reads fun d hp hd => by subst hp; exact dlook_any W d c D hd ho m
theorem admit_o (h : Own w0 W ((deskO p c D).and F)) (ho : CfgOk c) (m : Cm) : Calls Try.prog 15 #[.pointer (some ⟨p, 0, none⟩), .agg (cmC m).toArray] W fun e w' => e = .returned (.int .i64 (admitF c D m).1) ∧ Own w0 w' ((deskO p c (admitF c D m).2).and F) :=
  h.desk (R := fun e => e = .returned (.int .i64 (admitF c D m).1)) fun d hp hd => by subst hp; exact dadmit_any W d c D hd ho m
theorem reserve_o (h : Own w0 W ((deskO p c D).and F)) (k i : Int) : Calls Try.prog 14 #[.pointer (some ⟨p, 0, none⟩), .int .i64 k, .int .i64 i] W fun e w' => e = .returned (.int .i64 (reservedF D k i).1) ∧ Own w0 w' ((deskO p c (reservedF D k i).2).and F) :=
  h.desk (R := fun e => e = .returned (.int .i64 (reservedF D k i).1)) fun d hp hd => by subst hp; exact dreserve_any W d c D hd k i
theorem lapse_o (h : Own w0 W ((deskO p c D).and F)) : Calls Try.prog 32 #[.pointer (some ⟨p, 0, none⟩)] W fun e w' => e = .returned (.int .i64 (lapsedF D).1) ∧ Own w0 w' ((deskO p c (lapsedF D).2).and F) :=
  h.desk (R := fun e => e = .returned (.int .i64 (lapsedF D).1)) fun d hp hd => by subst hp; exact dlapse_any W d c D hd
theorem tick_o (h : Own w0 W ((deskO p c D).and F)) : Calls Try.prog 24 #[.pointer (some ⟨p, 0, none⟩)] W fun e w' => e = .returned (.tuple #[.int .i64 D.t, .bool D.op]) ∧ Below W.heap.size W w' :=
  h.reads fun d hp hd => by subst hp; exact dtick_any W d c D hd
theorem waiting_o (h : Own w0 W ((deskO p c D).and F)) (ho : CfgOk c) : Calls Try.prog 18 #[.pointer (some ⟨p, 0, none⟩)] W fun e w' => ∃ v, e = .returned v ∧ RNew cmC 37 16 W w' v D.q :=
  h.reads fun d hp hd => by subst hp; exact dwaiting_any W d c D hd ho
theorem nid_list {W w' : World} {v : Value} {l : List Id3} (h : ListAt W w' v l) : RNew nidL 33 3 W w' v (l.map toNid) := by
  obtain ⟨h1, h2, h3⟩ := h
  rw [idCells_nid] at h1
  exact ⟨by rw [List.length_map]; exact h1, h2, h3⟩
theorem alive_o (h : Own w0 W ((deskO p c D).and F)) : Calls Try.prog 26 #[.pointer (some ⟨p, 0, none⟩)] W fun e w' => ∃ v, e = .returned v ∧ RNew nidL 33 3 W w' v ((listF D.M).map toNid) :=
  h.reads fun d hp hd => by subst hp; exact (dalive_any W d c D hd).mono fun _ _ ⟨v, h1, h2⟩ => ⟨v, h1, nid_list h2⟩
/-- A slice that lies ahead of all that the call made. -/
def Old (w0 : World) (v : Value) : Prop := ∀ g, v.ownBlock = some g → g < w0.heap.size
theorem rin_old {β : Type} {enc : β → List Value} {v : Value} {l : List β} (h : RIn enc w0 v l) : l ≠ [] → Old w0 v := fun hn g hg => by
  obtain ⟨p, cap, rfl, _, _, _, h4⟩ := h
  obtain ⟨blk, off, rfl, h5, _⟩ := h4 hn
  cases hg; exact h5
theorem Own.callA {X X' : Ob} {P : Program} {f : FuncId} {args : Array Value} {Q : Ending → Prop} (h : Own w0 W (X.and F)) (hc : ∀ a, X.holds W a → (∀ x, a x → w0.heap.size ≤ x) → Calls P f args W fun e w' => Q e ∧ Gone a W w' X') : Calls P f args W fun e w' => Q e ∧ Own w0 w' (X'.and F) := by
  have h' := h
  obtain ⟨o, ⟨a, b, h1, h2, h3, h4⟩, h5, h6⟩ := h
  refine (hc a h1 fun x hx => h5 x ((h4 x).2 (.inl hx))).mono fun e w' ⟨hr, b', q1, q2, q3⟩ => ⟨hr, ?_⟩
  refine ⟨fun x => b' x ∨ b x, ⟨b', b, q1, F.keep _ _ _ h2 fun x hx => q2.block x (F.lt _ _ h2 x hx) fun e => h3 x e hx, fun x hb hf => ?_, fun x => Iff.rfl⟩, fun x hx => ?_, h6.trans (q2.below h6.size fun x hx => h5 x ((h4 x).2 (.inl hx)))⟩
  · rcases q3 x hb with e | e
    · exact h3 x e hf
    · have := F.lt _ _ h2 x hf; omega
  · rcases hx with e | e
    · exact (q3 x e).elim (fun h => h5 x ((h4 x).2 (.inl h))) fun h => Nat.le_trans h6.size h
    · exact h5 x ((h4 x).2 (.inr e))
theorem close_o (h : Own w0 W ((deskO p c D).and F)) (v : Value) (l : List Nid) (hv : RIn nidL W v l) (hold : l ≠ [] → Old w0 v) (hl : l.length ≤ 1000) : Calls Try.prog 17 #[.pointer (some ⟨p, 0, none⟩), v] W fun e w' => e = .returned (.tuple #[.int .i64 (closeF D l).1.1, .int .i64 (closeF D l).1.2]) ∧ Own w0 w' ((deskO p c (closeF D l).2).and F) := by
  refine h.callA (Q := fun e => e = .returned (.tuple #[.int .i64 (closeF D l).1.1, .int .i64 (closeF D l).1.2])) fun a ⟨d, hp, hd, ha⟩ hlow => ?_
  subst hp
  unfold closeF
  cases hop : D.op with
  | false =>
    rw [if_pos rfl]
    obtain ⟨p', cap, rfl, _⟩ := hv
    exact (close_shut W d c D hd _ hop ⟨_, _, _, rfl⟩).mono fun _ _ ⟨h1, h2⟩ => ⟨h1, (DStp.of_grown hd h2).gone ha⟩
  | true =>
    rw [if_neg (by simp)]
    exact (close_ok W d c D hd v l hop hv (fun hne g hg e => by have := hlow g ((ha g).2 (.inl e)); have := hold hne g hg; omega) (by omega)).mono fun _ _ ⟨h1, h2⟩ => ⟨h1, h2.gone ha⟩
/-- The queue that Open hands out. -/
theorem open_o (h : Own w0 W ((deskO p c D).and F)) : Calls Try.prog 16 #[.pointer (some ⟨p, 0, none⟩)] W fun e w' => ∃ v, e = .returned (.tuple #[.int .i64 (beginF D).1.1, v, .int .i64 (beginF D).1.2.2]) ∧ Own w0 w' (((deskO p c (beginF D).2).and (slO 37 16 v (beginF D).1.2.1.length (cellsR cmC (beginF D).1.2.1))).and F) := by
  obtain ⟨o, ⟨a, f, h1, h2, h3, h4⟩, h5, h6⟩ := h
  obtain ⟨d, hp, hd, ha⟩ := h1
  subst hp
  refine (dopen_any W d c D hd).mono ?_
  rintro e w' ⟨v, rfl, hsl, hvo, d', e1, e2, hd', hc, ho, hn⟩
  refine ⟨v, rfl, ?_⟩
  have ho' : ∀ x, d'.own x ∨ x = d'.bm → a x ∨ W.heap.size ≤ x := fun x hx => hx.elim (fun h => (ho x h).imp (fun h => (ha x).2 (.inl h)) id) fun h => .inl ((ha x).2 (.inr (h.trans e2)))
  have hvl : ∀ g, v.ownBlock = some g → a g := fun g hg => by
    rcases hvo with e | e
    · rw [e] at hg; cases hg
    · exact (ha g).2 (.inl (.inr (.inr (e.symm.trans hg))))
  have hc' : Chg W w' a := hc.mono fun x _ hx => (ha x).2 (.inl hx)
  refine ⟨fun x => ((d'.own x ∨ x = d'.bm) ∨ v.ownBlock = some x) ∨ f x, ⟨_, f, ⟨fun x => d'.own x ∨ x = d'.bm, fun x => v.ownBlock = some x, ⟨d', e1, hd', fun _ => Iff.rfl⟩, ⟨hsl, fun _ => Iff.rfl⟩, fun x hx hv => ?_, fun _ => Iff.rfl⟩, F.keep _ _ _ h2 fun x hx => hc'.block x (F.lt _ _ h2 x hx) fun e => h3 x e hx, fun x hx hf => ?_, fun _ => Iff.rfl⟩, fun x hx => ?_, h6.trans (hc'.below h6.size fun x hx => h5 x ((h4 x).2 (.inl hx)))⟩
  · rcases hx with e | e
    · exact (hn x hv).1 e
    · exact (hn x hv).2 e
  · rcases hx with e | e
    · rcases ho' x e with e | e
      · exact h3 x e hf
      · have := F.lt _ _ h2 x hf; omega
    · exact h3 x (hvl x e) hf
  · rcases hx with (e | e) | e
    · rcases ho' x e with e | e
      · exact h5 x ((h4 x).2 (.inl e))
      · exact Nat.le_trans h6.size e
    · exact h5 x ((h4 x).2 (.inl (hvl x e)))
    · exact h5 x ((h4 x).2 (.inr e))
/-- What the law reads of the reference's desk. -/
theorem Own.rcells (h : Own w0 W ((rdeskO q R c kk D).and F)) : W.cell? ⟨q, 7, none⟩ = some (.pointer (some ⟨R, 0, none⟩)) ∧ (∃ v, W.cell? ⟨q, 8, none⟩ = some v ∧ Sl W 37 16 v D.q.length (cellsR cmC D.q)) ∧ W.cell? ⟨q, 9, none⟩ = some (.int .i64 D.t) ∧ W.cell? ⟨q, 10, none⟩ = some (.bool D.op) ∧ q < W.heap.size := by
  obtain ⟨o, ⟨a, f, ⟨r, hp, hR, hd, ha⟩, _⟩, _⟩ := h
  subst hp hR
  have c7 := hd.cell 7
  have c8 := hd.cell 8
  have c9 := hd.cell 9
  have c10 := hd.cell 10
  simp [rdeskC] at c7 c8 c9 c10
  exact ⟨c7, ⟨_, c8, hd.q⟩, c9, c10, lt_of_heap hd.box⟩
theorem Own.bounds (h : Own w0 W ((rdeskO q R c kk D).and F)) : (∃ rw put, Sim c.ids.toNat D.M rw put) ∧ (D.q.length : Int) ≤ c.queue ∧ 0 ≤ D.t ∧ D.t ≤ 1099511627776 := by
  obtain ⟨o, ⟨a, f, ⟨r, hp, hR, hd, ha⟩, _⟩, _⟩ := h
  obtain ⟨rw, put, _, h2, _⟩ := hd.pool
  exact ⟨⟨rw, put, h2⟩, hd.qn, hd.t0⟩
theorem Own.dbounds (h : Own w0 W ((deskO p c D).and F)) : (D.q.length : Int) ≤ c.queue ∧ 0 ≤ D.t ∧ D.t ≤ 1099511627776 := by
  obtain ⟨o, ⟨a, f, ⟨d, hp, hd, ha⟩, _⟩, _⟩ := h
  exact ⟨hd.qn, hd.t0⟩
theorem Own.drop {A B : Ob} (h : Own w0 W (A.and (B.and F))) : Own w0 W (A.and F) := h.swap.snd
theorem Own.drop3 {A B C : Ob} (h : Own w0 W (A.and (B.and (C.and F)))) : Own w0 W (A.and (B.and F)) := h.third.snd
/-! The reference's. -/
theorem rlook_o (h : Own w0 W ((rdeskO q R c kk D).and F)) (ho : CfgOk c) (m : Cm) (him : (-9223372036854775808 ≤ m.b.m ∧ m.b.m ≤ 9223372036854775807)) : Calls Try.prog 56 #[.pointer (some ⟨q, 0, none⟩), .agg (cmC m).toArray] W fun e w' => e = .returned (.tuple #[.agg (cmC (lookF c D m).1).toArray, .bool (lookF c D m).2.1, .int .i64 (lookF c D m).2.2]) ∧ Below W.heap.size W w' :=
  h.rreads fun r hp _ hd => by subst hp; exact rlook_any W r c kk D hd ho m him
theorem radmit_o (h : Own w0 W ((rdeskO q R c kk D).and F)) (ho : CfgOk c) (m : Cm) (him : (-9223372036854775808 ≤ m.b.m ∧ m.b.m ≤ 9223372036854775807)) : Calls Try.prog 58 #[.pointer (some ⟨q, 0, none⟩), .agg (cmC m).toArray] W fun e w' => e = .returned (.int .i64 (admitF c D m).1) ∧ Own w0 w' ((rdeskO q R c kk (admitF c D m).2).and F) :=
  h.rdesk (Q := fun e => e = .returned (.int .i64 (admitF c D m).1)) fun r hp _ hd => by subst hp; exact radmit_any W r c kk D hd ho m him
theorem rreserve_o (h : Own w0 W ((rdeskO q R c kk D).and F)) (k i : Int) : Calls Try.prog 57 #[.pointer (some ⟨R, 0, none⟩), .int .i64 k, .int .i64 i] W fun e w' => e = .returned (.int .i64 (reservedF D k i).1) ∧ Own w0 w' ((rdeskO q R c kk (reservedF D k i).2).and F) :=
  h.rdesk (Q := fun e => e = .returned (.int .i64 (reservedF D k i).1)) fun r hp hR hd => by subst hp hR; exact (rreserve_any W r.R _ D.M hd.pool k i).mono fun _ _ ⟨h1, h2⟩ => ⟨h1, RDStp.pool hd h2⟩
theorem rlapse_o (h : Own w0 W ((rdeskO q R c kk D).and F)) : Calls Try.prog 61 #[.pointer (some ⟨R, 0, none⟩)] W fun e w' => e = .returned (.int .i64 (lapsedF D).1) ∧ Own w0 w' ((rdeskO q R c kk (lapsedF D).2).and F) :=
  h.rdesk (Q := fun e => e = .returned (.int .i64 (lapsedF D).1)) fun r hp hR hd => by subst hp hR; exact (rlapse_any W r.R _ D.M hd.pool).mono fun _ _ ⟨h1, h2⟩ => ⟨h1, RDStp.pool hd h2⟩
theorem rlist_o (h : Own w0 W ((rdeskO q R c kk D).and F)) : Calls Try.prog 62 #[.pointer (some ⟨R, 0, none⟩)] W fun e w' => ∃ v, e = .returned v ∧ RNew nidL 33 3 W w' v ((listF D.M).map toNid) :=
  h.rreads fun r hp hR hd => by subst hp hR; exact (rlist_any W r.R _ D.M hd.pool).mono fun _ _ ⟨v, h1, h2⟩ => ⟨v, h1, nid_list h2⟩
theorem ralive_o (h : Own w0 W ((rdeskO q R c kk D).and F)) (s i g : Int) : Calls Try.prog 22 #[.pointer (some ⟨R, 0, none⟩), .agg #[.int .i64 s, .int .i64 i, .int .i64 g]] W fun e w' => e = .returned (.bool (aliveF D.M s i g)) ∧ Below W.heap.size W w' :=
  h.rreads fun r hp hR hd => by subst hp hR; exact ralive_any W r.R _ D.M hd.pool s i g
theorem rclose_o (h : Own w0 W ((rdeskO q R c kk D).and F)) (hkk : kk ≤ 1000000) (v : Value) (l : List Nid) (hv : RIn nidL W v l) (hold : l ≠ [] → Old w0 v) (hl : l.length ≤ 40) : Calls Try.prog 60 #[.pointer (some ⟨q, 0, none⟩), v] W fun e w' => e = .returned (.tuple #[.int .i64 (closeF D l).1.1, .int .i64 (closeF D l).1.2]) ∧ Own w0 w' ((rdeskO q R c (kk + 40) (closeF D l).2).and F) := by
  refine h.callA (Q := fun e => e = .returned (.tuple #[.int .i64 (closeF D l).1.1, .int .i64 (closeF D l).1.2])) fun a ⟨r, hp, hR, hd, ha⟩ hlow => ?_
  subst hp hR
  unfold closeF
  cases hop : D.op with
  | false =>
    rw [if_pos rfl]
    obtain ⟨p', cap, rfl, _⟩ := hv
    exact (rclose_shut W r c kk D hd _ hop ⟨_, _, _, rfl⟩).mono fun _ _ ⟨h1, h2⟩ => ⟨h1, (RDStp.of_grown (hd.more (by omega)) h2).gone ha⟩
  | true =>
    rw [if_neg (by simp)]
    refine (rclose_ok W r c kk D hd hkk v l hop hv (fun hne g hg e => by have := hlow g ((ha g).2 e); have := hold hne g hg; omega) (by omega)).mono fun _ _ ⟨h1, h2⟩ => ⟨h1, ?_⟩
    obtain ⟨r', f1, f2, f3, f4⟩ := h2
    exact RDStp.gone ⟨r', f1, f2, f3.more (by omega), f4⟩ ha
theorem rbegin_o (h : Own w0 W ((rdeskO q R c kk D).and F)) : Calls Try.prog 59 #[.pointer (some ⟨q, 0, none⟩)] W fun e w' => ∃ v, e = .returned (.tuple #[.int .i64 (beginF D).1.1, v, .int .i64 (beginF D).1.2.2]) ∧ Own w0 w' (((rdeskO q R c kk (beginF D).2).and (slO 37 16 v (beginF D).1.2.1.length (cellsR cmC (beginF D).1.2.1))).and F) := by
  obtain ⟨o, ⟨a, f, h1, h2, h3, h4⟩, h5, h6⟩ := h
  obtain ⟨d, hp, hR, hd, ha⟩ := h1
  subst hp hR
  refine (rbegin_any W d c kk D hd).mono ?_
  rintro e w' ⟨v, rfl, hsl, hvo, d', e1, e2, hd', hc, ho, hn⟩
  refine ⟨v, rfl, ?_⟩
  have ho' : ∀ x, d'.own x → a x ∨ W.heap.size ≤ x := fun x hx => (ho x hx).imp (ha x).2 id
  have hvl : ∀ g, v.ownBlock = some g → a g := fun g hg => by
    rcases hvo with e | e
    · rw [e] at hg; cases hg
    · exact (ha g).2 (.inr (.inr (e.symm.trans hg)))
  have hc' : Chg W w' a := hc.mono fun x _ hx => (ha x).2 hx
  refine ⟨fun x => (d'.own x ∨ v.ownBlock = some x) ∨ f x, ⟨_, f, ⟨d'.own, fun x => v.ownBlock = some x, ⟨d', e1, by rw [e2], hd', fun _ => Iff.rfl⟩, ⟨hsl, fun _ => Iff.rfl⟩, fun x hx hv => hn x hv hx, fun _ => Iff.rfl⟩, F.keep _ _ _ h2 fun x hx => hc'.block x (F.lt _ _ h2 x hx) fun e => h3 x e hx, fun x hx hf => ?_, fun _ => Iff.rfl⟩, fun x hx => ?_, h6.trans (hc'.below h6.size fun x hx => h5 x ((h4 x).2 (.inl hx)))⟩
  · rcases hx with e | e
    · rcases ho' x e with e | e
      · exact h3 x e hf
      · have := F.lt _ _ h2 x hf; omega
    · exact h3 x (hvl x e) hf
  · rcases hx with (e | e) | e
    · rcases ho' x e with e | e
      · exact h5 x ((h4 x).2 (.inl e))
      · exact Nat.le_trans h6.size e
    · exact h5 x ((h4 x).2 (.inl (hvl x e)))
    · exact h5 x ((h4 x).2 (.inr e))
end
end Go.Proofs.Ytbghjklnlhoklaa
