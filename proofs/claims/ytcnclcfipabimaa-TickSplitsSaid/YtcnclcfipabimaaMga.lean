/-
  Chapter 22: the reference's For of a zone that there is not; few; ints; an append of entities behind others. Condition: the world may be.
  slices.IndexFunc and slices.DeleteFunc over a slice of ints that owns its array, the predicate may make memory. Condition: the predicate turns nothing.
  slices.DeleteFunc over a slice of ints that owns its array. Condition: the predicate turns nothing (it may make memory).
-/
import Derived.Test.YtcnclcfipabimaaMge
import Derived.Test.YtcnclcfipabimaaShE
import Derived.Lib.SliceRun
namespace Go.Proofs.Ytcnclcfipabimaa
open Go.RowKit

set_option maxHeartbeats 2000000 in
theorem rfor_out (cols rows side radius speed ids queue : Int) (k : Int) (v : Value) (w : World) (ho : CfgOk ⟨cols, rows, side, radius, speed, ids, queue⟩) (hk : ¬ (0 ≤ k ∧ k < cols * rows)) :
    Calls Try.prog 22 #[.agg #[.int .i64 cols, .int .i64 rows, .int .i64 side, .int .i64 radius, .int .i64 speed, .int .i64 ids, .int .i64 queue], .int .i64 k, v] w fun e w' => ∃ v', e = .returned v' ∧ BNew w w' v' [] := by
  obtain ⟨n1, n2⟩ := ho.cnt
  simp only at n1 n2
  clear ho
  generalize hcnt : cols * rows = cnt at *
  have v1 : IntKind.i64.wrap (cols * rows) = cnt := by rw [hcnt, IntKind.wrap_i64]; omega
  clear hcnt
  by_cases h0 : k < 0
  · go_enter Try.func22, Try.ntmps22
    go_wp2_with fail
    go_ret
    exact ⟨_, rfl, BNew.none (by repeat' (first | (with_reducible exact Below.refl _ _) | (with_reducible assumption) | (with_reducible refine below_drewN ?_ _) | (with_reducible refine below_more _ _ _ ?_ ?_) | (with_reducible refine Below.alloc ?_ ?_ _) | (with_reducible refine Below.drew ?_) | (with_reducible refine Below.setCell ?_ ?_ _) | go_size))⟩
  · have h1 : cnt ≤ k := by omega
    go_enter Try.func22, Try.ntmps22
    go_wp2_with fail
    go_ret
    exact ⟨_, rfl, BNew.none (by repeat' (first | (with_reducible exact Below.refl _ _) | (with_reducible assumption) | (with_reducible refine below_drewN ?_ _) | (with_reducible refine below_more _ _ _ ?_ ?_) | (with_reducible refine Below.alloc ?_ ?_ _) | (with_reducible refine Below.drew ?_) | (with_reducible refine Below.setCell ?_ ?_ _) | go_size))⟩

theorem few22_any (v : Value) (l : List Bun) (w : World) (h : BIn w v l) :
    Calls Try.prog 19 #[v] w fun e w' => (∃ v', e = .returned v' ∧ BIn w v' (l.take 50)) ∧ w = w' := by
  have H := Lib.hid h
  obtain ⟨p, cap, rfl, hm, _, hc, _⟩ := h
  unfold maxLen at hm
  by_cases h6 : 50 < l.length
  · have t : (50 : Int) < (l.length : Int) := by omega
    have hc6 : 50 ≤ cap := by omega
    go_enter Try.func19, Try.ntmps19
    go_wp2
    go_ret
    exact ⟨⟨_, rfl, H.out.take 50 (by omega)⟩, rfl⟩
  · have t : ¬ (50 : Int) < (l.length : Int) := by omega
    go_enter Try.func19, Try.ntmps19
    go_wp2
    go_ret
    exact ⟨⟨_, rfl, by rw [List.take_of_length_le (by omega)]; exact H.out⟩, rfl⟩

/-- Entities behind others. -/
theorem wpList_append_bins (w0 w : World) {ops : Array Oper} {rest : List Oper} {o : Oper} {a : Act} {Q : Exit → Act → World → Prop}
    (hg : o.guard = none) (s x : Operand) (hop : o.op = Op.call { callee := Callee.builtin Builtin.append, args := #[s, x], argTypes := #[24, 24] })
    (v vx : Value) (l0 l : List Bun) (hv : a.eval s = v) (hsl : BNew w0 w v l0) (hx : a.eval x = vx) (hb : BIn w vx l) (h0 : l0.length ≤ 1000000) (hl : l.length ≤ 1000000)
    (hK : ∀ v' w', BNew w0 w' v' (l0 ++ l) → wpList Try.prog ops Q rest (a.put o.dst v') w') :
    wpList Try.prog ops Q (o :: rest) a w := by
  obtain ⟨i0, hi0, hz0, hz1, hz2⟩ := info_parts info_bunJ
  obtain ⟨p, cap, rfl, h1, h2, h3, h4⟩ := hb
  by_cases hn : l = []
  · subst hn
    obtain ⟨q, c, rfl⟩ := sl_frm hsl.1
    refine wpList_append_zero hg s x 24 hop 41 i0 Try.underlying24 hi0 _ _ _ _ _ hv hx ?_ (hK _ _ (by simpa using hsl))
    obtain ⟨_, ⟨h, h0⟩ | ⟨g, off, cap', cur, h, hb, hn, hc, hsz, hr⟩⟩ := hsl.1
    · simp only [Value.slice.injEq] at h; omega
    · simp only [Value.slice.injEq] at h; omega
  · obtain ⟨blk, off, rfl, h5, h6⟩ := h4 hn
    have hn0 : 0 < l.length := List.length_pos_iff.2 hn
    refine wpList_append_sl w hg s x 24 hop 41 i0 _ 11 88 Try.underlying24 hi0 hz0 hz1 hz2 rfl (by omega) v l0.length (bunCells l0) hv hsl.1 ⟨blk, off, none⟩ l.length cap (bunCells l) hx (bunCells_len l) (fun j u hj => ?_) (bunCells_one l) hn0 (by unfold maxLen; omega) (by omega) (fun v' w' hs ht ho => hK v' w' ⟨?_, ?_, ?_⟩)
    · rw [show Addr.add ⟨blk, off, none⟩ j = ⟨blk, off + j, none⟩ from by unfold Addr.add; split <;> simp_all]
      exact h6 j u hj
    · rw [bunCells_app, List.length_append]; exact hs
    · exact hsl.2.1.trans ⟨ht.os, ht.tape, ht.output, ht.size, fun k hk => ht.block k (by have := hsl.2.1.size; omega) fun e => by have := hsl.2.2 k e.symm; omega⟩
    · intro q hq
      rcases ho with e | ⟨g', e, hg'⟩
      · exact hsl.2.2 q (by rw [← e]; exact hq)
      · rw [e] at hq
        cases hq
        exact Nat.le_trans hsl.2.1.size hg'

set_option maxHeartbeats 2000000 in
/-- Two slices of the same ints. -/
theorem ints22_any (va vb : Value) (l : List Int) (w : World) (ha : RIn intL w va l) (hb : RIn intL w vb l) :
    Calls Try.prog 25 #[va, vb] w fun e w' => e = .returned (.bool true) ∧ Below w.heap.size w w' := by
  have HA := Lib.hid ha
  have HB := Lib.hid hb
  obtain ⟨pa, ca, rfl, ma, _⟩ := ha
  obtain ⟨pb, cb, rfl, mb, _⟩ := hb
  unfold maxLen at ma mb
  go_enter Try.func25, Try.ntmps25
  go_wp2_with fail
  go_loopg [5] l.length (fun kx sx wr => ∃ k : Nat, sx = .int .i64 k ∧ k ≤ l.length ∧ l.length - k ≤ kx ∧ Hid (Below w.heap.size w wr))
  case atStart => exact ⟨0, by go_num, by omega, by omega, Lib.hid (Below.refl _ _)⟩
  case round =>
    obtain ⟨k, rfl, hk, hkx, HW⟩ := hrel
    by_cases hlt : k < l.length
    · have t1 : (k : Int) < (l.length : Int) := by omega
      obtain ⟨b, hb⟩ : ∃ b, l[k]? = some b := ⟨_, List.getElem?_eq_getElem hlt⟩
      obtain ⟨g1, o1, c1, hv1, lg1, q1⟩ := (HA.out.keep HW.out).cells intL_len hb
      obtain ⟨g2, o2, c2, hv2, lg2, q2⟩ := (HB.out.keep HW.out).cells intL_len hb
      simp only [Value.slice.injEq, true_and] at hv1 hv2
      obtain ⟨rfl, rfl⟩ := hv1
      obtain ⟨rfl, rfl⟩ := hv2
      have u0 := q1 0 _ rfl
      have y0 := q2 0 _ rfl
      simp only [Nat.add_zero, Nat.mul_one] at u0 y0
      clear q1 q2 hb
      obtain ⟨z0, z1, z2⟩ := ltw lg1
      obtain ⟨x0, x1, x2⟩ := ltw lg2
      go_wp2_with fail
      refine wp_region_more (by kernel_rfl) (by kernel_rfl) ?_
      repeat (go_big_quiet_step (fail))
      refine wpQuiet_nil ?_
      rintro _ ⟨pn, rfl⟩
      go_wp2_with fail
      go_roundg (l.length - (k + 1))
      case measure => omega
      case rel => exact ⟨k + 1, by go_num, by omega, by omega, Lib.hid (HW.out.trans (Below.mono (B := wr.heap.size) (by repeat' (first | (with_reducible exact Below.refl _ _) | (with_reducible assumption) | (with_reducible refine below_drewN ?_ _) | (with_reducible refine below_more _ _ _ ?_ ?_) | (with_reducible refine Below.alloc ?_ ?_ _) | (with_reducible refine Below.drew ?_) | (with_reducible refine Below.setCell ?_ ?_ _) | go_size)) HW.out.size))⟩
    · have t1 : ¬ (k : Int) < (l.length : Int) := by omega
      go_wp2_with fail
      go_ret
      exact ⟨rfl, HW.out⟩
end Go.Proofs.Ytcnclcfipabimaa
namespace Go.Proofs.Ytcnclcfipabimaa
open Go.RowKit

/-- What a predicate on ints gives, whatever is new. -/
def PredI (g : Nat) (lb : Array Value) (p : Int → Bool) (zs : List Int) (W : World) : Prop := ∀ x, x ∈ zs → Calls Try.prog g (#[.int .i64 x] ++ lb) W fun e w' => e = .returned (.bool (p x)) ∧ Below W.heap.size W w'

set_option maxHeartbeats 2000000 in
theorem idxf_none (g : Nat) (lb : Array Value) (eg : ∀ args w, (callFunc g args).run Try.prog w = .ok (.enter g args) w) (p : Int → Bool) (v : Value) (zs : List Int) (w : World) (hs : RIn intL w v zs)
    (HC : ∀ W, Below w.heap.size w W → PredI g lb p zs W) (hall : ∀ x ∈ zs, p x = false) :
    Calls Try.prog 105 #[v, .func (.func g) #[] lb] w fun e w' => e = .returned (.int .i64 (-1)) ∧ Below w.heap.size w w' := by
  have HS := Lib.hid hs
  have HCC := Lib.hid HC
  have HALL := Lib.hid hall
  obtain ⟨pp, cap, rfl, hm, _⟩ := hs
  unfold maxLen at hm
  clear HC hall
  go_enter Try.func105, Try.ntmps105
  go_wp2_with fail
  go_loopg [8] zs.length (fun kx sx wr => ∃ k : Nat, sx = .int .i64 k ∧ k ≤ zs.length ∧ zs.length - k ≤ kx ∧ Hid (Below w.heap.size w wr))
  case atStart => exact ⟨0, by go_num, by omega, by omega, Lib.hid (Below.refl _ _)⟩
  case round =>
    obtain ⟨k, rfl, hk, hkx, HW⟩ := hrel
    by_cases hlt : k < zs.length
    · have t1 : (k : Int) < (zs.length : Int) := by omega
      obtain ⟨b, hb⟩ : ∃ b, zs[k]? = some b := ⟨_, List.getElem?_eq_getElem hlt⟩
      obtain ⟨g1, o1, c1, hv1, lg1, q1⟩ := (HS.out.keep HW.out).cells intL_len hb
      simp only [Value.slice.injEq, true_and] at hv1
      obtain ⟨rfl, rfl⟩ := hv1
      have u0 := q1 0 _ rfl
      simp only [Nat.add_zero, Nat.mul_one] at u0
      have hcall := HCC.out wr HW.out b (List.mem_of_getElem? hb)
      rw [HALL.out b (List.mem_of_getElem? hb)] at hcall
      clear q1 hb
      go_wp2_with (go_at_fn g; refine hcall.mono ?_; rintro e w' ⟨rfl, hb'⟩)
      go_roundg (zs.length - (k + 1))
      case measure => omega
      case rel => exact ⟨k + 1, by go_num, by omega, by omega, Lib.hid (HW.out.trans (Below.mono (B := wr.heap.size) hb' HW.out.size))⟩
    · have t1 : ¬ (k : Int) < (zs.length : Int) := by omega
      go_wp2_with fail
      go_ret
      exact ⟨rfl, HW.out⟩

set_option maxHeartbeats 2000000 in
theorem idxf_some (g : Nat) (lb : Array Value) (eg : ∀ args w, (callFunc g args).run Try.prog w = .ok (.enter g args) w) (p : Int → Bool) (v : Value) (zs : List Int) (w : World) (hs : RIn intL w v zs)
    (HC : ∀ W, Below w.heap.size w W → PredI g lb p zs W) (k0 : Nat) (x0 : Int) (hx0 : zs[k0]? = some x0) (hp0 : p x0 = true) (hlo : ∀ t x, t < k0 → zs[t]? = some x → p x = false) :
    Calls Try.prog 105 #[v, .func (.func g) #[] lb] w fun e w' => e = .returned (.int .i64 k0) ∧ Below w.heap.size w w' := by
  have HS := Lib.hid hs
  have HCC := Lib.hid HC
  have HLO := Lib.hid hlo
  have HX0 := Lib.hid hx0
  have hk0 : k0 < zs.length := (List.getElem?_eq_some_iff.1 hx0).1
  obtain ⟨pp, cap, rfl, hm, _⟩ := hs
  unfold maxLen at hm
  clear HC hlo hx0
  go_enter Try.func105, Try.ntmps105
  go_wp2_with fail
  go_loopg [8] zs.length (fun kx sx wr => ∃ k : Nat, sx = .int .i64 k ∧ k ≤ k0 ∧ zs.length - k ≤ kx ∧ Hid (Below w.heap.size w wr))
  case atStart => exact ⟨0, by go_num, by omega, by omega, Lib.hid (Below.refl _ _)⟩
  case round =>
    obtain ⟨k, rfl, hk, hkx, HW⟩ := hrel
    have hlt : k < zs.length := by omega
    have t1 : (k : Int) < (zs.length : Int) := by omega
    obtain ⟨b, hb⟩ : ∃ b, zs[k]? = some b := ⟨_, List.getElem?_eq_getElem hlt⟩
    obtain ⟨g1, o1, c1, hv1, lg1, q1⟩ := (HS.out.keep HW.out).cells intL_len hb
    simp only [Value.slice.injEq, true_and] at hv1
    obtain ⟨rfl, rfl⟩ := hv1
    have u0 := q1 0 _ rfl
    simp only [Nat.add_zero, Nat.mul_one] at u0
    have hcall := HCC.out wr HW.out b (List.mem_of_getElem? hb)
    by_cases he : k = k0
    · subst he
      have e1 : b = x0 := by have := HX0.out; rw [hb] at this; exact Option.some.inj this
      rw [e1, hp0] at hcall
      rw [e1] at u0
      clear q1 hb e1
      go_wp2_with (go_at_fn g; refine hcall.mono ?_; rintro e w' ⟨rfl, hb'⟩)
      go_ret
      exact ⟨rfl, HW.out.trans (Below.mono (B := wr.heap.size) hb' HW.out.size)⟩
    · rw [HLO.out k b (by omega) hb] at hcall
      clear q1 hb
      go_wp2_with (go_at_fn g; refine hcall.mono ?_; rintro e w' ⟨rfl, hb'⟩)
      go_roundg (zs.length - (k + 1))
      case measure => omega
      case rel => exact ⟨k + 1, by go_num, by omega, by omega, Lib.hid (HW.out.trans (Below.mono (B := wr.heap.size) hb' HW.out.size))⟩

/-- The row as it is kept: i are kept of the first j, behind j nothing has changed. -/
def KeepRow (p : Int → Bool) (zs r : List Int) (i j : Nat) : Prop := r.length = zs.length ∧ i < j ∧ r.take i = (zs.take j).filter (fun x => !p x) ∧ r.drop j = zs.drop j
theorem KeepRow.get {p : Int → Bool} {zs r : List Int} {i j : Nat} (h : KeepRow p zs r i j) : r[j]? = zs[j]? := by
  have := congrArg (fun l => l[0]?) h.2.2.2
  simpa using this
theorem KeepRow.skip {p : Int → Bool} {zs r : List Int} {i j : Nat} {x : Int} (h : KeepRow p zs r i j) (hx : zs[j]? = some x) (hp : p x = true) : KeepRow p zs r i (j + 1) := by
  obtain ⟨h1, h2, h3, h4⟩ := h
  have hj := (List.getElem?_eq_some_iff.1 hx).1
  refine ⟨h1, by omega, ?_, ?_⟩
  · rw [List.take_succ_eq_append_getElem hj, List.filter_append, (List.getElem?_eq_some_iff.1 hx).2]
    simp [hp, h3]
  · have := congrArg (List.drop 1) h4
    simpa [List.drop_drop, Nat.add_comm] using this
theorem KeepRow.put {p : Int → Bool} {zs r : List Int} {i j : Nat} {x : Int} (h : KeepRow p zs r i j) (hx : zs[j]? = some x) (hp : p x = false) : KeepRow p zs (r.set i x) (i + 1) (j + 1) := by
  obtain ⟨h1, h2, h3, h4⟩ := h
  have hj := (List.getElem?_eq_some_iff.1 hx).1
  have hi : i < r.length := by omega
  refine ⟨by simpa using h1, by omega, ?_, ?_⟩
  · rw [List.take_succ_eq_append_getElem hj, List.filter_append, (List.getElem?_eq_some_iff.1 hx).2, ← h3]
    rw [List.take_succ_eq_append_getElem (by simpa using hi)]
    simp [hp, List.take_set_of_le]
  · rw [List.drop_set_of_lt (by omega)]
    have := congrArg (List.drop 1) h4
    simpa [List.drop_drop, Nat.add_comm] using this
theorem KeepRow.begin {p : Int → Bool} {zs : List Int} {k : Nat} {x : Int} (hx : zs[k]? = some x) (hp : p x = true) (hlo : ∀ t x, t < k → zs[t]? = some x → p x = false) : KeepRow p zs zs k (k + 1) := by
  have hk := (List.getElem?_eq_some_iff.1 hx).1
  refine ⟨rfl, by omega, ?_, rfl⟩
  rw [List.take_succ_eq_append_getElem hk, List.filter_append, (List.getElem?_eq_some_iff.1 hx).2]
  simp only [List.filter_cons, hp, Bool.not_true, Bool.false_eq_true, if_false, List.filter_nil, List.append_nil]
  refine (List.filter_eq_self.2 fun y hy => ?_).symm
  obtain ⟨t, ht, e⟩ := List.getElem_of_mem hy
  simp only [List.length_take] at ht
  rw [List.getElem_take] at e
  simp [hlo t y (by omega) (by rw [← e]; exact List.getElem?_eq_getElem (by omega))]

theorem first_hit {p : Int → Bool} : ∀ {zs : List Int}, (∀ x ∈ zs, p x = false) ∨ ∃ (k : Nat) (x : Int), zs[k]? = some x ∧ p x = true ∧ ∀ t x, t < k → zs[t]? = some x → p x = false
  | [] => .inl (by simp)
  | y :: l => by
    cases h : p y with
    | true => exact .inr ⟨0, y, rfl, h, fun t x ht => by omega⟩
    | false =>
      rcases first_hit (p := p) (zs := l) with ha | ⟨k, x, h1, h2, h3⟩
      · exact .inl fun x hx => by rcases List.mem_cons.1 hx with rfl | hx; exact h; exact ha x hx
      · refine .inr ⟨k + 1, x, by simpa using h1, h2, fun t x ht hx => ?_⟩
        cases t with
        | zero => simp at hx; rw [← hx]; exact h
        | succ t => exact h3 t x (by omega) (by simpa using hx)
end Go.Proofs.Ytcnclcfipabimaa
namespace Go.Proofs.Ytcnclcfipabimaa
open Go.RowKit

theorem cellsR_int : ∀ l : List Int, cellsR intL l = l.map (Value.int .i64)
  | [] => rfl
  | x :: l => by have := cellsR_int l; simp only [cellsR, List.flatMap_cons, intL] at *; rw [this]; rfl
theorem Turned.of_bel {w w' : World} {b : Option Nat} (h : Below w.heap.size w w') : Turned w w' b := ⟨h.os, h.tape, h.output, h.size, fun k hk _ => h.block k hk⟩
theorem Turned.then {w w1 w2 : World} {b : Option Nat} (h : Turned w w1 b) (h2 : Turned w1 w2 b) : Turned w w2 b :=
  ⟨h2.os.trans h.os, h2.tape.trans h.tape, h2.output.trans h.output, Nat.le_trans h.size h2.size, fun k hk hne => (h2.block k (Nat.lt_of_lt_of_le hk h.size) hne).trans (h.block k hk hne)⟩
/-- The first cells of one that owns its array, all behind overwritten. -/
theorem Sl.cutSet {w : World} {e : TypeId} {g off cap n i : Nat} {xs ys vs : List Value} (h : Sl w e 1 (.slice (some ⟨g, off, none⟩) n cap) n xs) (hi : i ≤ n) (hy : ys = xs.take i) (hv : vs.length = n - i) :
    Sl (w.setCells g (off + i) vs) e 1 (.slice (some ⟨g, off, none⟩) i cap) i ys := by
  obtain ⟨hl, ⟨h0, _⟩ | ⟨g', off', cap', cur, hv', hb, hn, hc, hsz, hr⟩⟩ := h
  · cases h0
  simp only [Value.slice.injEq, Option.some.injEq, Addr.mk.injEq, and_true, true_and] at hv'
  obtain ⟨⟨rfl, rfl⟩, rfl⟩ := hv'
  obtain ⟨cur', q1, q2, q3, _, _⟩ := setCells_heap g e (0, 0) vs (off + i) w cur hb (by omega)
  subst hy
  refine ⟨by simp; omega, .inr ⟨g, off, cap, cur', rfl, q1, by omega, hc, by omega, fun j u hj => ?_⟩⟩
  rw [List.getElem?_take] at hj
  split at hj
  · rename_i hji
    rw [q3 _ (by omega)]
    exact hr j u hj
  · cases hj

set_option maxRecDepth 100000 in
set_option maxHeartbeats 2000000 in
theorem del_any (g : Nat) (lb : Array Value) (eg : ∀ args w, (callFunc g args).run Try.prog w = .ok (.enter g args) w) (p : Int → Bool) (v : Value) (zs : List Int) (w : World) (hs : Sl w 3 1 v zs.length (cellsR intL zs))
    (HC : ∀ W, Turned w W v.ownBlock → PredI g lb p zs W) :
    Calls Try.prog 60 #[v, .func (.func g) #[] lb] w fun e w' => ∃ v', e = .returned v' ∧ Sl w' 3 1 v' (zs.filter fun x => !p x).length (cellsR intL (zs.filter fun x => !p x)) ∧ Turned w w' v.ownBlock ∧ v'.ownBlock = v.ownBlock := by
  have hrin : RIn intL w v zs := RIn.of_sl hs
  have HS := Lib.hid hs
  rcases first_hit (p := p) (zs := zs) with hall | ⟨k, x, hx, hp, hlo⟩
  · have hI := idxf_none g lb eg p v zs w hrin (fun W hW => HC W (Turned.of_bel hW)) hall
    have hf : (zs.filter fun x => !p x) = zs := List.filter_eq_self.2 fun x hx => by simp [hall x hx]
    rw [hf]
    obtain ⟨pp, cap, rfl, hm, _⟩ := hrin
    clear hall hf hs HC
    go_enter Try.func60, Try.ntmps60
    go_wp2_with (go_at_call 105; refine hI.mono ?_; rintro e w' ⟨rfl, hb⟩)
    go_ret
    exact ⟨_, rfl, HS.out.keep fun g hg => hb.block g (sl_lt HS.out hg), Turned.of_bel hb, rfl⟩
  · have hI := idxf_some g lb eg p v zs w hrin (fun W hW => HC W (Turned.of_bel hW)) k x hx hp hlo
    have hk := (List.getElem?_eq_some_iff.1 hx).1
    have HB := Lib.hid (KeepRow.begin hx hp hlo)
    have HCC := Lib.hid HC
    obtain ⟨g0, off, cap, rfl, lg, hnc⟩ : ∃ g0 off cap, v = .slice (some ⟨g0, off, none⟩) zs.length cap ∧ g0 < w.heap.size ∧ zs.length ≤ cap := by
      obtain ⟨_, ⟨rfl, h0⟩ | ⟨g, off, cap, cur, rfl, hb, hn, _⟩⟩ := hs
      · omega
      · exact ⟨g, off, cap, rfl, (Array.getElem?_eq_some_iff.1 hb).1, hn⟩
    obtain ⟨_, _, hv0, hm, _⟩ := hrin
    clear hv0
    unfold maxLen at hm
    clear hs HC hx hp hlo
    have hne1 : ((k : Int) == -1) = false := beq_eq_false_iff_ne.2 (by omega)
    go_enter Try.func60, Try.ntmps60
    go_wp2_with (go_at_call 105; refine hI.mono ?_; rintro e w1 ⟨rfl, hb⟩)
    have HS1 := Lib.hid (HS.out.keep (w' := w1) fun g hg => hb.block g (sl_lt HS.out hg))
    have HT1 := Lib.hid (Turned.of_bel (b := some g0) hb)
    clear hb hI
    go_loopg [5, 6] zs.length (fun kx si sj wr => ∃ (i j : Nat) (r : List Int), si = .int .i64 i ∧ sj = .int .i64 j ∧ j ≤ zs.length ∧ zs.length - j ≤ kx ∧ Hid (KeepRow p zs r i j) ∧ Hid (Sl wr 3 1 (.slice (some ⟨g0, off, none⟩) zs.length cap) zs.length (cellsR intL r)) ∧ Hid (Turned w wr (some g0)))
    case atStart => exact ⟨k, k + 1, zs, by go_num, by go_num, by omega, by omega, HB, HS1, HT1⟩
    case round =>
      clear HB HS1 HT1
      obtain ⟨i, j, r, rfl, rfl, hj, hkx, HR, HSR, HT⟩ := hrel
      have hij := HR.out.2.1
      have hrl := HR.out.1
      by_cases hlt : j < zs.length
      · have t1 : (j : Int) < (zs.length : Int) := by omega
        obtain ⟨y, hy⟩ : ∃ y, zs[j]? = some y := ⟨_, List.getElem?_eq_getElem hlt⟩
        have hry : r[j]? = some y := HR.out.get.trans hy
        have hri : RIn intL wr (.slice (some ⟨g0, off, none⟩) r.length cap) r := RIn.of_sl (by rw [hrl]; exact HSR.out)
        obtain ⟨g1, o1, c1, hv1, lg1, q1⟩ := hri.cells intL_len hry
        simp only [Value.slice.injEq, Option.some.injEq, Addr.mk.injEq, and_true, true_and] at hv1
        obtain ⟨⟨rfl, rfl⟩, rfl⟩ := hv1
        have u0 := q1 0 _ rfl
        simp only [Nat.add_zero, Nat.mul_one] at u0
        have hcall := HCC.out wr HT.out y (List.mem_of_getElem? hy)
        have HY := Lib.hid hy
        clear q1 hri hry hy
        cases hp : p y with
        | true =>
          rw [hp] at hcall
          have HP := Lib.hid hp
          clear hp
          go_wp2_with (go_at_fn g; refine hcall.mono ?_; rintro e w' ⟨rfl, hb'⟩)
          have hs' := HSR.out.keep (w' := w') fun g hg => hb'.block g (sl_lt HSR.out hg)
          go_roundg (zs.length - (j + 1))
          case measure => omega
          case rel => exact ⟨i, j + 1, r, by go_num, by go_num, by omega, by omega, Lib.hid (HR.out.skip HY.out HP.out), Lib.hid hs', Lib.hid (HT.out.then (Turned.of_bel hb'))⟩
        | false =>
          rw [hp] at hcall
          have HP := Lib.hid hp
          clear hp
          have hcall2 : Calls Try.prog g (#[.int .i64 y] ++ lb) wr fun e w' => (e = .returned (.bool false)) ∧ Below wr.heap.size wr w' ∧ (∃ u', w'.cell? ⟨g0, off + i, none⟩ = some u') ∧ w'.frozen? ⟨g0, off + i, none⟩ = false := hcall.mono fun e w' ⟨h1, h2⟩ => by
            have hs' := HSR.out.keep (w' := w') fun g hg => h2.block g (sl_lt HSR.out hg)
            obtain ⟨q1, q2, _⟩ := sl_store1 hs' (t := i) (by omega) (.int .i64 y)
            exact ⟨h1, h2, q1, q2⟩
          clear hcall
          go_wp2_with (go_at_fn g; refine hcall2.mono ?_; rintro e w' ⟨rfl, hb', ⟨uo, huo⟩, hfz⟩)
          have hs' := HSR.out.keep (w' := w') fun g hg => hb'.block g (sl_lt HSR.out hg)
          obtain ⟨_, _, q3, q4⟩ := sl_store1 hs' (t := i) (by omega) (.int .i64 y)
          have hset : (cellsR intL r).set i (.int .i64 y) = cellsR intL (r.set i y) := by rw [cellsR_int, cellsR_int, List.map_set]
          rw [hset] at q3
          go_roundg (zs.length - (j + 1))
          case measure => omega
          case rel => exact ⟨i + 1, j + 1, r.set i y, by go_num, by go_num, by omega, by omega, Lib.hid (HR.out.put HY.out HP.out), Lib.hid q3, Lib.hid ((HT.out.then (Turned.of_bel hb')).then q4)⟩
      · have t1 : ¬ (j : Int) < (zs.length : Int) := by omega
        obtain rfl : j = zs.length := by omega
        have hfin : r.take i = zs.filter fun x => !p x := by rw [HR.out.2.2.1, List.take_length]
        have hfl : (zs.filter fun x => !p x).length = i := by rw [← hfin, List.length_take]; omega
        have hcl : ∀ ty, (Builtin.clear_ #[53] ty #[.slice (some ⟨g0, off + i, none⟩) (zs.length - i) (cap - i)]).run Try.prog wr = .ok (.tuple #[]) (wr.setCells g0 (off + i) (List.replicate (zs.length - i) (.int .i64 0))) := fun ty => by
          refine Lib.run_clear_slice wr 53 3 ty _ (by kernel_rfl) (fun _ => by kernel_rfl) rfl rfl g0 (off + i) _ _ (by omega) (fun t ht => ?_) (fun t ht => ?_)
          · obtain ⟨⟨u, q1⟩, _⟩ := sl_store1 HSR.out (t := i + t) (by omega) (.int .i64 0)
            rw [show off + i + t = off + (i + t) by omega, q1]; rfl
          · rw [show off + i + t = off + (i + t) by omega]
            exact (sl_store1 HSR.out (t := i + t) (by omega) (.int .i64 0)).2.1
        have HFN := Lib.hid hfin
        have HFL := Lib.hid hfl
        clear hfin hfl
        go_wp2_with fail
        go_ret
        rw [HFL.out]
        refine ⟨_, rfl, HSR.out.cutSet (by omega) ?_ (by simp), HT.out.then (setCells_turned _ _ _ _), rfl⟩
        rw [← HFN.out, cellsR_int, cellsR_int, List.map_take]
end Go.Proofs.Ytcnclcfipabimaa
