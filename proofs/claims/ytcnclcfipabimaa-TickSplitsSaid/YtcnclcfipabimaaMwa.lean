/-
  Chapter 15: count: how often a name is among entities, and among names. Condition: a million of each at most.
  An append as a step of a region that draws its order, of a source that may be empty. No condition but the sizes that an append owes.
  Entities behind others as a step of a region that draws its order. Condition: a million of each at most.
-/
import Derived.Test.YtcnclcfipabimaaMpa
import Derived.Test.YtcnclcfipabimaaTkG
import Derived.Test.YtcnclcfipabimaaMtl
import Derived.Test.YtcnclcfipabimaaMsl
import Derived.Test.YtcnclcfipabimaaShE
import Derived.Test.YtcnclcfipabimaaMge
namespace Go.Proofs.Ytcnclcfipabimaa
open Go.RowKit

theorem count_step {α : Type} [DecidableEq α] {l : List α} {t : Nat} {x n : α} (h : l[t]? = some x) : (l.take (t + 1)).count n = (l.take t).count n + if x = n then 1 else 0 := by
  have hlt := (List.getElem?_eq_some_iff.1 h).1
  rw [List.take_succ_eq_append_getElem hlt, (List.getElem?_eq_some_iff.1 h).2, List.count_append, List.count_singleton]
  by_cases e : x = n <;> simp [e]
theorem idEq_iff (a b : Nid) : idEq a.s a.i a.g b.s b.i b.g = decide (a = b) := by
  by_cases e : a = b
  · subst e; simp [idEq]
  · rw [nid_ne e]; simp [e]
theorem count_stepB {l : List Nid} {t : Nat} {x n : Nid} (h : l[t]? = some x) : (l.take (t + 1)).count n = (l.take t).count n + (idEq x.s x.i x.g n.s n.i n.g).toNat := by
  rw [count_step h, idEq_iff]
  by_cases e : x = n <;> simp [e]
set_option maxRecDepth 100000 in
set_option maxHeartbeats 2000000 in
theorem count15 (vl vd : Value) (l : List Bun) (ids : List Nid) (s i g : Int) (w : World) (h1 : BIn w vl l) (h2 : RIn nidL w vd ids) (hl : l.length ≤ 1000000) (hd : ids.length ≤ 1000000) :
    Calls Try.prog 50 #[vl, vd, .agg #[.int .i64 s, .int .i64 i, .int .i64 g]] w fun e w' => e = .returned (.int .i64 (cntF l ids ⟨s, i, g⟩ : Nat)) ∧ Below w.heap.size w w' := by
  obtain ⟨k5, g5, s5, b5⟩ := new_box w #[.int .i64 s, .int .i64 i, .int .i64 g] 39 w.heap.size rfl
  have H1 := Lib.hid (h1.keep b5); have H2 := Lib.hid (h2.keep b5)
  have hcl : ∀ t, ((l.map idOf).take t).count ⟨s, i, g⟩ ≤ t := fun t => Nat.le_trans List.count_le_length (by simp; omega)
  have HCL := Lib.hid hcl
  have hcd : ∀ t, (ids.take t).count ⟨s, i, g⟩ ≤ t := fun t => Nat.le_trans List.count_le_length (by simp; omega)
  have HCD := Lib.hid hcd
  have HSL : Hid (∀ (t : Nat) (x : Bun), l[t]? = some x → ((l.map idOf).take (t + 1)).count ⟨s, i, g⟩ = ((l.map idOf).take t).count ⟨s, i, g⟩ + (idEq x.s x.i x.g s i g).toNat) := Lib.hid (fun t x h => by
    exact count_stepB (n := (⟨s, i, g⟩ : Nid)) (l := l.map idOf) (t := t) (x := idOf x) (by rw [List.getElem?_map, h]; rfl))
  have HSD : Hid (∀ (t : Nat) (x : Nid), ids[t]? = some x → (ids.take (t + 1)).count ⟨s, i, g⟩ = (ids.take t).count ⟨s, i, g⟩ + (idEq x.s x.i x.g s i g).toNat) := Lib.hid (fun t x h => count_stepB h)
  unfold cntF
  generalize hnl : l.map idOf = nl at *
  have HNL := Lib.hid (show nl.take l.length = nl from List.take_of_length_le (by rw [← hnl, List.length_map]; exact Nat.le_refl _))
  clear hnl
  have K5 := Lib.hid k5; have B5 := Lib.hid b5
  obtain ⟨p1, c1, rfl, _⟩ := h1
  obtain ⟨p2, c2, rfl, _⟩ := h2
  have HCW := Lib.hid b5
  clear k5 g5 b5 hcl hcd
  go_enter Try.func50, Try.ntmps50
  go_upto_region 1 with fail
  generalize hw1 : World.alloc w _ = w1 at *
  generalize hn5 : w.heap.size = n5 at *
  have HN5 := Lib.hid hn5
  clear hn5
  clear hw1
  go_wp2_with fail
  go_loopg [7, 8] l.length (fun kx sc sx wr => ∃ t : Nat, sx = .int .i64 t ∧ t ≤ l.length ∧ l.length - t ≤ kx ∧ sc = .int .i64 (((nl.take t).count ⟨s, i, g⟩ : Nat) : Int) ∧ Hid (Below w1.heap.size w1 wr))
  case atStart => exact ⟨0, by go_num, by omega, by omega, by simp, Lib.hid (by repeat' (first | (with_reducible exact Below.refl _ _) | (with_reducible assumption) | (with_reducible refine below_drewN ?_ _) | (with_reducible refine below_more _ _ _ ?_ ?_) | (with_reducible refine Below.alloc ?_ ?_ _) | (with_reducible refine Below.drew ?_) | (with_reducible refine Below.setCell ?_ ?_ _) | go_size))⟩
  case round =>
    obtain ⟨t, rfl, ht, hkx, rfl, HB⟩ := hrel
    obtain ⟨wa, rfl⟩ : ∃ wa : World, wa = wr := ⟨_, rfl⟩
    have s5a := Nat.lt_of_lt_of_le s5 HB.out.size
    obtain ⟨f0, f1, f2⟩ := ltz s5a
    have ka := box_on HB.out s5 K5.out
    have x0 := ka 0; have x1 := ka 1; have x2 := ka 2
    simp at x0 x1 x2
    have hcn := HCL.out t
    clear ka
    by_cases hlt : t < l.length
    · have t1 : (t : Int) < (l.length : Int) := by omega
      obtain ⟨b0, hb0⟩ : ∃ b0, l[t]? = some b0 := ⟨_, List.getElem?_eq_getElem hlt⟩
      obtain ⟨gb, ob, cb, hv, hgb, hcb⟩ := (H1.out.keep HB.out).cells hb0
      simp only [Value.slice.injEq, true_and] at hv
      obtain ⟨rfl, rfl⟩ := hv
      have v0 := hcb 0 _ rfl; have v1 := hcb 1 _ rfl; have v2 := hcb 2 _ rfl
      simp only [Nat.add_zero] at v0
      obtain ⟨e0, e1, e2⟩ := ltz hgb
      have hst := HSL.out t b0 hb0
      clear hcb hb0
      generalize (nl.take t).count ⟨s, i, g⟩ = q at *
      cases hh : idEq b0.s b0.i b0.g s i g with
      | true =>
        rw [hh] at hst
        have HST := Lib.hid (show _ = q + 1 from hst); clear hst
        go_wp2_with fail
        refine wp_region_more (by kernel_rfl) (by kernel_rfl) ?_
        repeat (go_big_quiet_step (fail))
        refine wpQuiet_nil ?_
        rintro _ ⟨pq5, rfl⟩
        go_wp2_with fail
        go_roundg (l.length - (t + 1))
        case measure => omega
        case rel => exact ⟨t + 1, by go_num, by omega, by omega, by rw [HST.out]; go_num, Lib.hid (HB.out.trans (Below.mono (B := wa.heap.size) (by repeat' (first | (with_reducible exact Below.refl _ _) | (with_reducible assumption) | (with_reducible refine below_drewN ?_ _) | (with_reducible refine below_more _ _ _ ?_ ?_) | (with_reducible refine Below.alloc ?_ ?_ _) | (with_reducible refine Below.drew ?_) | (with_reducible refine Below.setCell ?_ ?_ _) | go_size)) HB.out.size))⟩
      | false =>
        rw [hh] at hst
        have HST := Lib.hid (show _ = q from hst); clear hst
        go_wp2_with fail
        refine wp_region_more (by kernel_rfl) (by kernel_rfl) ?_
        repeat (go_big_quiet_step (fail))
        refine wpQuiet_nil ?_
        rintro _ ⟨pq5, rfl⟩
        go_wp2_with fail
        go_roundg (l.length - (t + 1))
        case measure => omega
        case rel => exact ⟨t + 1, by go_num, by omega, by omega, by rw [HST.out], Lib.hid (HB.out.trans (Below.mono (B := wa.heap.size) (by repeat' (first | (with_reducible exact Below.refl _ _) | (with_reducible assumption) | (with_reducible refine below_drewN ?_ _) | (with_reducible refine below_more _ _ _ ?_ ?_) | (with_reducible refine Below.alloc ?_ ?_ _) | (with_reducible refine Below.drew ?_) | (with_reducible refine Below.setCell ?_ ?_ _) | go_size)) HB.out.size))⟩
    · have t1 : ¬ (t : Int) < (l.length : Int) := by omega
      obtain rfl : t = l.length := by omega
      rw [HNL.out] at hcn ⊢
      have HBW := Lib.hid HB.out
      clear x0 x1 x2 f0 f1 f2
      generalize hq0 : nl.count ⟨s, i, g⟩ = q at *
      have HQN := Lib.hid hq0
      clear hq0
      have hq : q ≤ 1000000 := by omega
      clear hcn
      go_wp2_with fail
      go_loopg [7, 9] ids.length (fun kx sc sx wr => ∃ t : Nat, sx = .int .i64 t ∧ t ≤ ids.length ∧ ids.length - t ≤ kx ∧ sc = .int .i64 ((q + (ids.take t).count ⟨s, i, g⟩ : Nat) : Int) ∧ Hid (Below wa.heap.size wa wr))
      case atStart => exact ⟨0, by go_num, by omega, by omega, by simp, Lib.hid (Below.refl _ _)⟩
      case round =>
        obtain ⟨t, rfl, ht, hkx, rfl, HC⟩ := hrel
        obtain ⟨wb, rfl⟩ : ∃ wb : World, wb = wr := ⟨_, rfl⟩
        have hbb := HBW.out.trans (HC.out.mono HBW.out.size)
        have s5b := Nat.lt_of_lt_of_le s5 hbb.size
        obtain ⟨f0, f1, f2⟩ := ltz s5b
        have ka := box_on hbb s5 K5.out
        have x0 := ka 0; have x1 := ka 1; have x2 := ka 2
        simp at x0 x1 x2
        have hcn := HCD.out t
        clear ka
        by_cases hlt : t < ids.length
        · have t1 : (t : Int) < (ids.length : Int) := by omega
          obtain ⟨b0, hb0⟩ : ∃ b0, ids[t]? = some b0 := ⟨_, List.getElem?_eq_getElem hlt⟩
          obtain ⟨gb, ob, cb, hv, hgb, hcb⟩ := (H2.out.keep hbb).cells nidL_len hb0
          simp only [Value.slice.injEq, true_and] at hv
          obtain ⟨rfl, rfl⟩ := hv
          have v0 := hcb 0 _ rfl; have v1 := hcb 1 _ rfl; have v2 := hcb 2 _ rfl
          simp only [Nat.add_zero] at v0
          obtain ⟨e0, e1, e2⟩ := ltz hgb
          have hst := HSD.out t b0 hb0
          clear hcb hb0 hbb
          generalize (ids.take t).count ⟨s, i, g⟩ = qd at *
          cases hh : idEq b0.s b0.i b0.g s i g with
          | true =>
            rw [hh] at hst
            have HST := Lib.hid (show _ = qd + 1 from hst); clear hst
            go_wp2_with fail
            refine wp_region_more (by kernel_rfl) (by kernel_rfl) ?_
            repeat (go_big_quiet_step (fail))
            refine wpQuiet_nil ?_
            rintro _ ⟨pq6, rfl⟩
            go_wp2_with fail
            go_roundg (ids.length - (t + 1))
            case measure => omega
            case rel => exact ⟨t + 1, by go_num, by omega, by omega, by rw [HST.out]; go_num, Lib.hid (HC.out.trans (Below.mono (B := wb.heap.size) (by repeat' (first | (with_reducible exact Below.refl _ _) | (with_reducible assumption) | (with_reducible refine below_drewN ?_ _) | (with_reducible refine below_more _ _ _ ?_ ?_) | (with_reducible refine Below.alloc ?_ ?_ _) | (with_reducible refine Below.drew ?_) | (with_reducible refine Below.setCell ?_ ?_ _) | go_size)) HC.out.size))⟩
          | false =>
            rw [hh] at hst
            have HST := Lib.hid (show _ = qd from hst); clear hst
            go_wp2_with fail
            refine wp_region_more (by kernel_rfl) (by kernel_rfl) ?_
            repeat (go_big_quiet_step (fail))
            refine wpQuiet_nil ?_
            rintro _ ⟨pq6, rfl⟩
            go_wp2_with fail
            go_roundg (ids.length - (t + 1))
            case measure => omega
            case rel => exact ⟨t + 1, by go_num, by omega, by omega, by rw [HST.out], Lib.hid (HC.out.trans (Below.mono (B := wb.heap.size) (by repeat' (first | (with_reducible exact Below.refl _ _) | (with_reducible assumption) | (with_reducible refine below_drewN ?_ _) | (with_reducible refine below_more _ _ _ ?_ ?_) | (with_reducible refine Below.alloc ?_ ?_ _) | (with_reducible refine Below.drew ?_) | (with_reducible refine Below.setCell ?_ ?_ _) | go_size)) HC.out.size))⟩
        · have t1 : ¬ (t : Int) < (ids.length : Int) := by omega
          obtain rfl : t = ids.length := by omega
          rw [List.take_length] at hcn ⊢
          have hbf := HCW.out.trans (hbb.mono (by rw [← HN5.out]; exact HCW.out.size))
          go_wp2_with fail
          go_ret
          obtain rfl := HN5.out
          exact ⟨by rw [HQN.out]; rfl, hbf.trans (Below.mono (B := wb.heap.size) (by repeat' (first | (with_reducible exact Below.refl _ _) | (with_reducible assumption) | (with_reducible refine below_drewN ?_ _) | (with_reducible refine below_more _ _ _ ?_ ?_) | (with_reducible refine Below.alloc ?_ ?_ _) | (with_reducible refine Below.drew ?_) | (with_reducible refine Below.setCell ?_ ?_ _) | go_size)) hbf.size)⟩
end Go.Proofs.Ytcnclcfipabimaa
namespace Go.Proofs.Ytcnclcfipabimaa
open Go.RowKit
theorem run_append_none {P : Program} {w : World} (t ty e : TypeId) (i : TypeInfo) (ht : P.underlying t = some (.slice e)) (hi : P.info? e = some i) (p q : Option Addr) (n cap c : Nat) (hn : n ≤ cap) :
    (Builtin.append_ #[t, t] ty #[.slice p n cap, .slice q 0 c]).run P w = .ok (.slice p n cap) w := by
  cases p <;> cases q <;> simp [Builtin.append_, run_underlying ht, sizeOf, typeInfo, hi, Builtin.lenOf, Builtin.firstCells, hn, storeCells, loadCells, loadCellsFrom]

theorem step_append_zero {P : Program} {ops : Array Oper} {o : Oper} {a : Act} {w : World} {K : Act → World → Prop} {Q : Exit → Act → World → Prop} {E : Prop}
    (hg : o.guard = none) (s x : Operand) (t : TypeId) (hop : o.op = Op.call { callee := Callee.builtin Builtin.append, args := #[s, x], argTypes := #[t, t] })
    (e : TypeId) (i : TypeInfo) (h1 : P.underlying t = some (.slice e)) (h2 : P.info? e = some i) (p q : Option Addr) (n cap c : Nat) (hs : a.eval s = .slice p n cap) (hx : a.eval x = .slice q 0 c) (hn : n ≤ cap)
    (hK : K (a.put o.dst (.slice p n cap)) w) :
    if Region.wanted o (yielded ops a.tmps) = true then Oper.wp P o a w K Q else E := by
  have hw : Region.wanted o (yielded ops a.tmps) = true := by simp [Region.wanted, hg]
  rw [if_pos hw]
  have hrun := run_append_none (P := P) (w := w) t o.type e i h1 h2 p q n cap c hn
  unfold Oper.wp
  simp [execOp, hop, resolve, invoke, builtin, hs, hx, hrun, Result.andThen]
  exact hK

/-- What a source of an append reads as: m elements, none or more. -/
def Src (w : World) (size : Nat) (v : Value) (m : Nat) (news : List Value) : Prop :=
  news.length = m * size ∧ (∀ u ∈ news, u.oneCell' = true) ∧ ∃ q c, v = .slice q m c ∧ (0 < m → ∃ ad, q = some ad ∧ ∀ j u, news[j]? = some u → w.cell? (ad.add j) = some u)

/-- An append of none or more. -/
theorem step_append_src {P : Program} (w : World) {ops : Array Oper} {o : Oper} {a : Act} {K : Act → World → Prop} {Q : Exit → Act → World → Prop} {E : Prop}
    (hg : o.guard = none) (s x : Operand) (t : TypeId) (hop : o.op = Op.call { callee := Callee.builtin Builtin.append, args := #[s, x], argTypes := #[t, t] })
    (e : TypeId) (i : TypeInfo) (z : Value) (size bytes : Nat) (h1 : P.underlying t = some (.slice e)) (h2 : P.info? e = some i) (h3 : i.zero = some z) (h4 : i.size = size) (h5 : i.bytes = bytes) (h6 : z.cells.size = size) (h7 : 0 < size)
    (v : Value) (n : Nat) (xs : List Value) (hv : a.eval s = v) (hsl : Sl w e size v n xs)
    (vx : Value) (m : Nat) (news : List Value) (hx : a.eval x = vx) (hsrc : Src w size vx m news)
    (b1 : n + m ≤ maxLen) (b2 : (n + m) * bytes ≤ 140737488355328)
    (hK : ∀ p cap w', Sl w' e size (.slice p (n + m) cap) (n + m) (xs ++ news) → Turned w w' v.ownBlock → ((Value.slice p (n + m) cap).ownBlock = v.ownBlock ∨ ∃ g, (Value.slice p (n + m) cap).ownBlock = some g ∧ w.heap.size ≤ g) → K (a.put o.dst (.slice p (n + m) cap)) w') :
    if Region.wanted o (yielded ops a.tmps) = true then Oper.wp P o a w K Q else E := by
  obtain ⟨hn, h1c, q, c, rfl, hq⟩ := hsrc
  by_cases hm : m = 0
  · subst hm
    have hn0 : news = [] := List.eq_nil_of_length_eq_zero (by simpa using hn)
    subst hn0
    have hfrm : ∃ p cap, v = .slice p n cap ∧ n ≤ cap := by
      obtain ⟨_, ⟨rfl, rfl⟩ | ⟨g, off, cap, cur, rfl, _, hc, _⟩⟩ := hsl
      · exact ⟨none, 0, rfl, Nat.le_refl _⟩
      · exact ⟨_, cap, rfl, hc⟩
    obtain ⟨p, cap, rfl, hc⟩ := hfrm
    refine step_append_zero hg s x t hop e i h1 h2 p q n cap c hv hx hc ?_
    exact hK p cap w (by simpa using hsl) (Turned.of_grown ⟨rfl, rfl, rfl, Nat.le_refl _, fun k hk _ => rfl⟩) (.inl rfl)
  · obtain ⟨ad, rfl, hc⟩ := hq (by omega)
    refine step_append_sl w hg s x t hop e i z size bytes h1 h2 h3 h4 h5 h6 h7 v n xs hv hsl ad m c news hx hn hc h1c (by omega) b1 b2 fun g off cap w' hs ht ho => hK _ cap w' hs ht ?_
    rcases ho with h | h
    · exact .inl h.symm
    · exact .inr ⟨g, rfl, h⟩
end Go.Proofs.Ytcnclcfipabimaa
namespace Go.Proofs.Ytcnclcfipabimaa
open Go.RowKit
theorem bnew_empty {w0 W : World} (hb : Below w0.heap.size w0 W) : BNew w0 (W.alloc (.cells #[] 41)) (.slice (some ⟨W.heap.size, 0, none⟩) 0 0) [] :=
  ⟨⟨rfl, .inr ⟨W.heap.size, 0, 0, #[], rfl, heap_alloc_new _ _, Nat.le_refl _, Nat.zero_le _, by simp, by simp [bunCells]⟩⟩, hb.trans ((Below.refl _ _).alloc hb.size _), fun g hg => by
    simp [Value.ownBlock] at hg; rw [← hg]; exact hb.size⟩
theorem bnew_drew {w0 w : World} {v : Value} {l : List Bun} (h : BNew w0 w v l) : BNew w0 w.drew v l := ⟨h.1, h.2.1.drew, h.2.2⟩
/-- Entities behind others, as a step. -/
theorem step_append_bins (w0 w : World) {ops : Array Oper} {o : Oper} {a : Act} {K : Act → World → Prop} {Q : Exit → Act → World → Prop} {E : Prop}
    (hg : o.guard = none) (s x : Operand) (hop : o.op = Op.call { callee := Callee.builtin Builtin.append, args := #[s, x], argTypes := #[24, 24] })
    (v vx : Value) (l0 l : List Bun) (hv : a.eval s = v) (hsl : BNew w0 w v l0) (hx : a.eval x = vx) (hb : BIn w vx l) (h0 : l0.length ≤ 1000000) (hl : l.length ≤ 1000000)
    (hK : ∀ p c w', BNew w0 w' (.slice p (l0 ++ l).length c) (l0 ++ l) → K (a.put o.dst (.slice p (l0 ++ l).length c)) w') :
    if Region.wanted o (yielded ops a.tmps) = true then Oper.wp Try.prog o a w K Q else E := by
  obtain ⟨i0, hi0, hz0, hz1, hz2⟩ := info_parts info_bunJ
  obtain ⟨p, cap, rfl, h1, h2, h3, h4⟩ := hb
  refine step_append_src w hg s x 24 hop 41 i0 _ 11 88 Try.underlying24 hi0 hz0 hz1 hz2 rfl (by omega) v l0.length (bunCells l0) hv hsl.1 (.slice p l.length cap) l.length (bunCells l) hx ⟨bunCells_len l, bunCells_one l, p, cap, rfl, fun hm => ?_⟩ (by unfold maxLen; omega) (by omega) (fun p2 c2 w' hs ht ho => ?_)
  · obtain ⟨blk, off, rfl, h5, h6⟩ := h4 (List.length_pos_iff.1 hm)
    refine ⟨_, rfl, fun j u hj => ?_⟩
    rw [show Addr.add ⟨blk, off, none⟩ j = ⟨blk, off + j, none⟩ from by unfold Addr.add; split <;> simp_all]
    exact h6 j u hj
  · have h := hK p2 c2 w' ⟨?_, ?_, ?_⟩
    · rwa [List.length_append] at h
    · rw [bunCells_app, List.length_append]; exact hs
    · exact hsl.2.1.trans ⟨ht.os, ht.tape, ht.output, ht.size, fun k hk => ht.block k (by have := hsl.2.1.size; omega) fun e => by have := hsl.2.2 k e.symm; omega⟩
    · intro q hq
      rw [List.length_append] at hq
      rcases ho with e | ⟨g', e, hg'⟩
      · exact hsl.2.2 q (by rw [← e]; exact hq)
      · rw [e] at hq
        cases hq
        exact Nat.le_trans hsl.2.1.size hg'
theorem s_bnew {W1 W : World} {v : Value} {l : List Bun} (h : BNew W1 W v l) : W1.heap.size ≤ W.heap.size ∧ ∀ b o, b < W1.heap.size → W.cell? ⟨b, o, none⟩ = W1.cell? ⟨b, o, none⟩ :=
  ⟨h.2.1.size, fun b o hlt => h.2.1.cell (p := ⟨b, o, none⟩) hlt⟩
end Go.Proofs.Ytcnclcfipabimaa
