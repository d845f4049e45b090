/-
  Chapter texts DkE DkF TwoC: what the claim reaches of them. Conditions stand at each theorem.
-/
import Derived.Test.YtoimjjhopljdmaaGreatY29
import Derived.Test.YtoimjjhopljdmaaGreatY26
namespace Go.Proofs.YtoimjjhopljdmaaGreat
open Go.RowKit

section
variable (w : World) (d : DLay) (c : Cfg) (D : Dk)
def OpenQ (w : World) (d : DLay) (c : Cfg) (D : Dk) (e : Ending) (w' : World) : Prop := ∃ v, e = .returned (.tuple #[.int .i64 (beginF D).1.1, v, .int .i64 (beginF D).1.2.2]) ∧ Sl w' 34 16 v (beginF D).1.2.1.length (cellsR cmC (beginF D).1.2.1) ∧ (v.ownBlock = none ∨ v.ownBlock = d.qv.ownBlock) ∧
  ∃ d', d'.p = d.p ∧ d'.bm = d.bm ∧ DeskAt w' d' c (beginF D).2 ∧ Chg w w' d.own ∧ (∀ b, d'.own b → d.own b ∨ w.heap.size ≤ b) ∧ ∀ g, v.ownBlock = some g → ¬ d'.own g ∧ g ≠ d'.bm
theorem open_ok (h : DeskAt w d c D) (hop : D.op = false) (ht : D.t < 1099511627776) : Calls Tryz.prog 58 #[.pointer (some ⟨d.p, 0, none⟩)] w (OpenQ w d c D) := by
  have c2 := h.cell 2
  have c3 := h.cell 3
  have c4 := h.cell 4
  have f2 := h.frozen 2
  have f3 := h.frozen 3
  have f4 := h.frozen 4
  have hlt := lt_of_heap h.box
  have htt := h.t0
  simp [deskC, hop] at c2 c3 c4
  have hbe : beginF D = ((D.t + 1, D.q, 0), { D with q := [], t := D.t + 1, op := true }) := by
    have : ¬ (beginB D = true) := by simp [beginB, hop]; omega
    unfold beginF; rw [if_neg this]
  have hdt : decide (1099511627776 ≤ D.t) = false := by simpa using ht
  have wr : IntKind.i64.wrap (D.t + 1) = D.t + 1 := by rw [IntKind.wrap_i64]; omega
  obtain ⟨p, cap, hv⟩ := sl_frm h.q
  have FIN : OpenQ w d c D (.returned (.tuple #[.int .i64 (D.t + 1), d.qv, .int .i64 0])) (((w.setCell ⟨d.p, 2, none⟩ (.slice none 0 0)).setCell ⟨d.p, 4, none⟩ (.bool true)).setCell ⟨d.p, 3, none⟩ (.int .i64 (D.t + 1))) := by
    unfold OpenQ
    rw [hbe]
    have hx : ∀ (W : World) (o : Nat) (u : Value) (b : Nat), b ≠ d.p → (W.setCell ⟨d.p, o, none⟩ u).heap[b]? = W.heap[b]? := fun W o u b hb => Below.heap_setCell _ _ _ _ (by simpa using hb)
    have hnp : ∀ g, d.qv.ownBlock = some g → g ≠ d.p := fun g hg => (h.aq g hg).1
    refine ⟨_, rfl, h.q.keep fun g hg => by rw [hx _ _ _ _ (hnp g hg), hx _ _ _ _ (hnp g hg), hx _ _ _ _ (hnp g hg)], .inr rfl, ⟨d.p, d.bm, d.L, .slice none 0 0⟩, rfl, rfl, ⟨?_, ?_, ?_, ⟨rfl, .inl ⟨rfl, rfl⟩⟩, ?_, ?_, h.ap, fun g hg => (by cases hg), ?_⟩, ?_, ?_, ?_⟩
    · rw [heap_setCell_same _ _ _ _ _ _ _ (heap_setCell_same _ _ _ _ _ _ _ (heap_setCell_same _ _ _ _ _ _ _ h.box))]
      simp [deskC]
    · have hm : d.bm ≠ d.p := fun e => h.am (.inl e)
      show (_ : World).heap[d.bm]? = _
      rw [hx _ _ _ _ hm, hx _ _ _ _ hm, hx _ _ _ _ hm]; exact h.map
    · exact h.pool.keep fun b hb => by
        have : b ≠ d.p := fun e => h.ap (e ▸ hb)
        rw [hx _ _ _ _ this, hx _ _ _ _ this, hx _ _ _ _ this]
    · have := h.qn; simp only [List.length_nil]; omega
    · simp only; omega
    · rintro (e | e | e)
      · exact h.am (.inl e)
      · exact h.am (.inr (.inl e))
      · cases e
    · exact ((Chg.refl w d.own).setCell _ _ (.inl (.inl rfl))).setCell _ _ (.inl (.inl rfl)) |>.setCell _ _ (.inl (.inl rfl))
    · rintro b (e | e | e)
      · exact .inl (.inl e)
      · exact .inl (.inr (.inl e))
      · cases e
    · intro g hg
      refine ⟨?_, fun e => h.am (.inr (.inr (by rw [hg, e])))⟩
      rintro (e | e | e)
      · exact (h.aq g hg).1 e
      · exact (h.aq g hg).2 e
      · cases e
  rw [hv] at c2 FIN
  have HF := Lib.hid FIN
  generalize D.t = T at *
  clear h FIN hv hbe htt hop
  generalize hQ : OpenQ w d c D = Q at *
  clear hQ
  go_enter Tryz.func58, Tryz.ntmps58
  go_wp2_with fail
  exact HF.out
theorem open_bad (h : DeskAt w d c D) (hb : beginB D = true) : Calls Tryz.prog 58 #[.pointer (some ⟨d.p, 0, none⟩)] w (OpenQ w d c D) := by
  have c3 := h.cell 3
  have c4 := h.cell 4
  have hlt := lt_of_heap h.box
  simp [deskC] at c3 c4
  have FIN : ∀ w', Below w.heap.size w w' → OpenQ w d c D (.returned (.tuple #[.int .i64 0, .slice none 0 0, .int .i64 14])) w' := fun w' hw => by
    unfold OpenQ beginF
    rw [if_pos hb]
    exact ⟨_, rfl, ⟨rfl, .inl ⟨rfl, rfl⟩⟩, .inl rfl, d, rfl, rfl, h.grown hw, Chg.of_below hw, fun b hb => .inl hb, fun g hg => by cases hg⟩
  have HF := Lib.hid FIN
  unfold beginB at hb
  generalize D.t = T at *
  generalize D.op = op at *
  generalize hQ : OpenQ w d c D = Q at *
  clear h FIN hQ
  cases op with
  | true =>
    go_enter Tryz.func58, Tryz.ntmps58
    go_wp2_with fail
    exact HF.out _ bg
  | false =>
    have hdt : decide (1099511627776 ≤ T) = true := by simpa using hb
    go_enter Tryz.func58, Tryz.ntmps58
    go_wp2_with fail
    exact HF.out _ bg
theorem dopen_any (h : DeskAt w d c D) : Calls Tryz.prog 58 #[.pointer (some ⟨d.p, 0, none⟩)] w (OpenQ w d c D) := by
  cases hb : beginB D with
  | true => exact open_bad w d c D h hb
  | false =>
    simp [beginB] at hb
    exact open_ok w d c D h hb.1 (by omega)
end
end Go.Proofs.YtoimjjhopljdmaaGreat
namespace Go.Proofs.YtoimjjhopljdmaaGreat
open Go.RowKit

theorem RIn.chg {β : Type} {enc : β → List Value} {w w' : World} {v : Value} {l : List β} {F : Nat → Prop} (h : RIn enc w v l) (hc : Chg w w' F) (hF : l ≠ [] → ∀ g, v.ownBlock = some g → ¬ F g) : RIn enc w' v l := by
  obtain ⟨p, cap, rfl, h1, h2, h3, h4⟩ := h
  refine ⟨p, cap, rfl, h1, h2, h3, fun hn => ?_⟩
  obtain ⟨blk, off, rfl, h5, h6⟩ := h4 hn
  exact ⟨blk, off, rfl, Nat.lt_of_lt_of_le h5 hc.size, fun t u hu => (hc.cell (a := ⟨blk, off + t, none⟩) h5 (hF hn blk rfl)).trans (h6 t u hu)⟩
theorem DStp.shut {w w' : World} {d : DLay} {c : Cfg} {D : Dk} (h : DStp w d c w' D) : w'.frozen? ⟨d.p, 4, none⟩ = false ∧ (∃ u, w'.cell? ⟨d.p, 4, none⟩ = some u) ∧ d.p < w'.heap.size ∧ DStp w d c (w'.setCell ⟨d.p, 4, none⟩ (.bool false)) { D with op := false } := by
  have h' := h
  obtain ⟨d', e1, e2, hd, hc, ho⟩ := h
  have hf := hd.frozen 4
  have hc4 := hd.cell 4
  have hlt := lt_of_heap hd.box
  rw [e1] at hf hc4 hlt
  refine ⟨hf, ⟨_, by rw [hc4]; rfl⟩, hlt, h'.trans fun d2 f1 f2 hd2 => ?_⟩
  refine hd2.boxed (v' := d2.qv) ?_ rfl ?_ hd2.qn hd2.t0 (fun g hg => .inl hg) ((Chg.refl _ _).setCell _ _ (.inl (.inl f1.symm)))
  · rw [← f1, heap_setCell_same _ _ _ _ _ _ _ hd2.box]
    simp [deskC]
  · exact hd2.q.keep fun g hg => Below.heap_setCell _ _ _ _ fun e => (hd2.aq g hg).1 ((show g = d.p from e).trans f1.symm)
theorem DStp.next {w w' w'' : World} {d d1 : DLay} {c : Cfg} {D'' : Dk} (e1 : d1.p = d.p) (e2 : d1.bm = d.bm) (hc : Chg w w' d.own) (ho : ∀ b, d1.own b → d.own b ∨ w.heap.size ≤ b) (h2 : DStp w' d1 c w'' D'') : DStp w d c w'' D'' := by
  obtain ⟨d2, f1, f2, hd2, hc2, ho2⟩ := h2
  refine ⟨d2, f1.trans e1, f2.trans e2, hd2, hc.trans hc2 fun b hb h1 => (ho b h1).elim id fun h => by omega, fun b hb => ?_⟩
  rcases ho2 b hb with h | h
  · exact ho b h
  · exact .inr (Nat.le_trans hc.size h)
section
variable (w : World) (d : DLay) (c : Cfg) (D : Dk)
theorem close_shut (h : DeskAt w d c D) (v : Value) (hop : D.op = false) (hv : ∃ p n cap, v = .slice p n cap) : Calls Tryz.prog 60 #[.pointer (some ⟨d.p, 0, none⟩), v] w fun e w' => e = .returned (.tuple #[.int .i64 0, .int .i64 14]) ∧ Below w.heap.size w w' := by
  have c4 := h.cell 4
  have hlt := lt_of_heap h.box
  obtain ⟨p, n, cap, rfl⟩ := hv
  simp [deskC, hop] at c4
  clear h hop
  go_enter Tryz.func60, Tryz.ntmps60
  go_wp2_with fail
  go_ret2
  exact ⟨rfl, bg⟩
set_option maxRecDepth 100000 in
set_option maxHeartbeats 2000000 in
theorem close_ok (h : DeskAt w d c D) (v : Value) (l : List Nid) (hop : D.op = true) (hv : RIn nidL w v l) (ha : l ≠ [] → ∀ g, v.ownBlock = some g → ¬ d.own g) (hl : l.length ≤ 1000000) :
    Calls Tryz.prog 60 #[.pointer (some ⟨d.p, 0, none⟩), v] w fun e w' => e = .returned (.tuple #[.int .i64 ((freesF D.M 0 l).1 : Nat), .int .i64 0]) ∧ DStp w d c w' { D with M := (freesF D.M 0 l).2, op := false } := by
  have c4 := h.cell 4
  simp [deskC, hop] at c4
  have hlt := lt_of_heap h.box
  have H0 := Lib.hid (DStp.of_grown h (Below.refl w.heap.size w))
  have HV := Lib.hid hv
  have HA := Lib.hid ha
  have HFS := Lib.hid (fun k x hx => frees_step D.M (l := l) (t := k) (x := x) hx)
  have HLE := Lib.hid (fun k => frees_le D.M 0 (l.take k))
  obtain ⟨p, cap, rfl, _, _, _, _⟩ := hv
  have hDe : ({ D with M := (freesF D.M 0 []).2 } : Dk) = D := rfl
  clear h ha hop
  go_enter Tryz.func60, Tryz.ntmps60
  go_wp2_with fail
  go_loopw [6, 18] (fun n i wr => ∃ k : Nat, k ≤ l.length ∧ i = .int .i64 k ∧ n = .int .i64 ((freesF D.M 0 (l.take k)).1 : Nat) ∧ Hid (DStp w d c wr { D with M := (freesF D.M 0 (l.take k)).2 })) (fun _ i _ => l.length - (intOf i).toNat)
  case atStart => exact ⟨0, Nat.zero_le _, rfl, rfl, H0⟩
  case round =>
    obtain ⟨k, hk, rfl, rfl, hh⟩ := hrel
    obtain ⟨wo, rfl⟩ : ∃ wo : World, wo = wr := ⟨_, rfl⟩
    have hle := HLE.out k
    rw [List.length_take, Nat.min_eq_left hk] at hle
    have hI : 0 ≤ (k : Int) := Int.natCast_nonneg k
    by_cases hlt2 : k < l.length
    · obtain ⟨x, hx⟩ : ∃ x, l[k]? = some x := ⟨_, List.getElem?_eq_getElem hlt2⟩
      have hst := HFS.out k x hx
      obtain ⟨d', e1, e2, hd, hc, ho⟩ := hh.out
      obtain ⟨blk, off, cap', hve, hb, hcx⟩ := (HV.out.chg hc HA.out).cells nidL_len hx
      simp only [Value.slice.injEq, true_and] at hve
      obtain ⟨rfl, rfl⟩ := hve
      obtain ⟨s, i, g⟩ := x
      have q0 := hcx 0 _ rfl
      have q1 := hcx 1 _ rfl
      have q2 := hcx 2 _ rfl
      rw [Nat.add_zero] at q0
      simp only at q0 q1 q2
      have d1 := hd.cell 1
      simp [deskC] at d1
      rw [e1] at d1
      have hdp := lt_of_heap hd.box
      rw [e1] at hdp
      simp only at hst
      have HST := Lib.hid hst
      have HF := Lib.hid (fun W (hW : Below wo.heap.size wo W) w' (hs : Stp W d'.L w' (freeF (freesF D.M 0 (l.take k)).2 s i g).2) => DStp.next e1 e2 hc ho ((DStp.pool (hd.grown hW) hs).from_below hW))
      have HFR := Lib.hid (fun W (hW : Below wo.heap.size wo W) => free_any W d'.L (freesF D.M 0 (l.take k)).2 s i g ((hd.grown hW).pool))
      generalize d'.L.P = dp at *
      generalize freesF D.M 0 (l.take k) = fk at *
      generalize freeF fk.2 s i g = fr at *
      obtain ⟨n0, M0⟩ := fk
      obtain ⟨er, M1⟩ := fr
      simp only at hle HST HF HFR
      obtain ⟨z0, z1, z2⟩ := ltz hdp
      obtain ⟨y0, y1, y2⟩ := ltz hb
      have t1 : (k : Int) < (l.length : Int) := by omega
      clear hst hcx hd hc ho e1 e2 hh H0 hx
      go_upto_region 9 with fail
      generalize hW1 : World.alloc wo _ = W1
      have hb1 : Below wo.heap.size wo W1 := by rw [← hW1]; exact bg
      have p0 : W1.cell? ⟨wo.heap.size, 0, none⟩ = some (.int .i64 s) := by rw [← hW1]; simp
      have p1 : W1.cell? ⟨wo.heap.size, 1, none⟩ = some (.int .i64 i) := by rw [← hW1]; simp
      have p2 : W1.cell? ⟨wo.heap.size, 2, none⟩ = some (.int .i64 g) := by rw [← hW1]; simp
      have d1' := (hb1.cell (p := ⟨d.p, 1, none⟩) hdp).trans d1
      clear hW1
      refine wp_region_still_tail 5 (by kernel_rfl) (by kernel_rfl) ?_
      simp only [List.take_succ_cons, List.take_zero, List.drop_succ_cons, List.drop_zero]
      repeat (first | still_step)
      refine wpStill_nil ?_
      go_wp2_with fail
      refine (HFR.out _ bg).mono ?_
      rintro e w2 ⟨rfl, hs⟩
      have HD := Lib.hid (HF.out _ bg _ hs)
      clear hs HF HFR
      by_cases he : er = 0
      · subst he
        rw [if_pos rfl] at HST
        go_wp2_with fail
        go_roundw
        case rel => exact ⟨k + 1, hlt2, by go_num, by rw [HST.out]; go_num, by rw [HST.out]; exact HD⟩
        case measure => simp [intOf]; omega
      · rw [if_neg he] at HST
        have he' : (er == 0) = false := by simpa using he
        clear he
        go_wp2_with fail
        go_roundw
        case rel => exact ⟨k + 1, hlt2, by go_num, by rw [HST.out]; rfl, by rw [HST.out]; exact HD⟩
        case measure => simp [intOf]; omega
    · obtain rfl : k = l.length := by omega
      rw [List.take_length] at hh ⊢
      obtain ⟨f4, ⟨u4, u5⟩, f6, f7⟩ := hh.out.shut
      have HF := Lib.hid f7
      clear f7 hh
      go_wp2_with fail
      go_ret2
      exact ⟨rfl, HF.out⟩
end
end Go.Proofs.YtoimjjhopljdmaaGreat
namespace Go.Proofs.YtoimjjhopljdmaaGreat
open Go.RowKit
def TwoD (V : World) (a b : Nat) (W : World) : Prop := (V.heap.size ≤ W.heap.size ∧ a < V.heap.size ∧ b < V.heap.size) ∧ ∀ o, W.cell? ⟨a, o, none⟩ = V.cell? ⟨a, o, none⟩ ∧ W.cell? ⟨b, o, none⟩ = V.cell? ⟨b, o, none⟩
theorem TwoD.alloc {V W : World} {a b : Nat} (h : TwoD V a b W) (x : Obj) : TwoD V a b (W.alloc x) := by
  have hs := h.1
  exact ⟨⟨by rw [World.size_alloc]; omega, hs.2⟩, fun o => ⟨(((Below.refl _ W).alloc (Nat.le_refl _) x).cell (p := ⟨a, o, none⟩) (by simp only; omega)).trans (h.2 o).1, (((Below.refl _ W).alloc (Nat.le_refl _) x).cell (p := ⟨b, o, none⟩) (by simp only; omega)).trans (h.2 o).2⟩⟩
theorem TwoD.turned {V W W' : World} {a b : Nat} {q : Option Nat} (h : TwoD V a b W) (ht : Turned W W' q) (ha : q ≠ some a) (hb : q ≠ some b) : TwoD V a b W' := by
  have hs := h.1
  have hs2 := ht.size
  exact ⟨⟨by omega, hs.2⟩, fun o => ⟨(ht.cell (a := ⟨a, o, none⟩) (by simp only; omega) ha).trans (h.2 o).1, (ht.cell (a := ⟨b, o, none⟩) (by simp only; omega) hb).trans (h.2 o).2⟩⟩
end Go.Proofs.YtoimjjhopljdmaaGreat
