/-
  Same of hits; few; a copy of entities by append to a new empty slice. No condition but the sizes that an append owes.
-/
import Derived.Test.YtloampfkjldmnaaShD
import Derived.Test.YtloampfkjldmnaaSoO
namespace Go.Proofs.Ytloampfkjldmnaa
open Go.RowKit

def hitEq (a b : Hit) : Bool := decide (a = b)
@[go_sem high] theorem run_eql_hit (s i g n s' i' g' n' : Int) (W : World) :
    (binOp .eql 67 (.agg #[.int .i64 s, .int .i64 i, .int .i64 g, .int .i64 n]) (.agg #[.int .i64 s', .int .i64 i', .int .i64 g', .int .i64 n'])).run Try.prog W = .ok (.bool (hitEq ⟨s, i, g, n⟩ ⟨s', i', g', n'⟩)) W := by
  rw [run_eql_struct]
  by_cases h1 : s = s'
  · by_cases h2 : i = i'
    · by_cases h3 : g = g'
      · by_cases h4 : n = n' <;> simp [go_sem, hitEq, h1, h2, h3, h4]
      · simp [go_sem, hitEq, h1, h2, h3]
    · simp [go_sem, hitEq, h1, h2]
  · simp [go_sem, hitEq, h1]
@[go_sem high] theorem run_neq_hit (s i g n s' i' g' n' : Int) (W : World) :
    (binOp .neq 67 (.agg #[.int .i64 s, .int .i64 i, .int .i64 g, .int .i64 n]) (.agg #[.int .i64 s', .int .i64 i', .int .i64 g', .int .i64 n'])).run Try.prog W = .ok (.bool (!(hitEq ⟨s, i, g, n⟩ ⟨s', i', g', n'⟩))) W := by
  have h := run_eql_hit s i g n s' i' g' n' W
  rw [run_eql_struct] at h
  rw [run_neq_struct]
  generalize (Op.equalIn _ _ _ _).run Try.prog W = r at *
  cases r with
  | ok b w => simp only [Result.andThen_ok] at *; cases b <;> simp_all
  | halt x w => simp [Result.andThen] at h

set_option maxRecDepth 100000 in
set_option maxHeartbeats 2000000 in
/-- Same of two equal lists of hits. -/
theorem sameH_self (va vb : Value) (l : List Hit) (w : World) (ha : RIn hitL w va l) (hb : RIn hitL w vb l) :
    Calls Try.prog 13 #[va, vb] w fun e w' => e = .returned (.bool true) ∧ Below w.heap.size w w' := by
  have mixed : Try.prog.follows .mixedOrders = true := by kernel_rfl
  have HA := Lib.hid ha
  have HB := Lib.hid hb
  obtain ⟨pa, ca, rfl, ma, _⟩ := ha
  obtain ⟨pb, cb, rfl, mb, _⟩ := hb
  unfold maxLen at ma mb
  go_enter Try.func13, Try.ntmps13
  go_wp2_with fail
  go_loopg [5] l.length (fun kx sx wr => ∃ k : Nat, sx = .int .i64 k ∧ k ≤ l.length ∧ l.length - k ≤ kx ∧ Hid (Below w.heap.size w wr))
  case atStart => exact ⟨0, by go_num, by omega, by omega, Lib.hid (Below.refl _ _)⟩
  case round =>
    obtain ⟨k, rfl, hk, hkx, HW⟩ := hrel
    by_cases hlt : k < l.length
    · have t1 : (k : Int) < (l.length : Int) := by omega
      obtain ⟨b, hb⟩ : ∃ b, l[k]? = some b := ⟨_, List.getElem?_eq_getElem hlt⟩
      obtain ⟨g1, o1, c1, hv1, lg1, q1⟩ := (HA.out.keep HW.out).cells hitL_len hb
      obtain ⟨g2, o2, c2, hv2, lg2, q2⟩ := (HB.out.keep HW.out).cells hitL_len hb
      simp only [Value.slice.injEq, true_and] at hv1 hv2
      obtain ⟨rfl, rfl⟩ := hv1
      obtain ⟨rfl, rfl⟩ := hv2
      have u0 := q1 0 _ rfl; have y0 := q2 0 _ rfl
      have u1 := q1 1 _ rfl; have y1 := q2 1 _ rfl
      have u2 := q1 2 _ rfl; have y2 := q2 2 _ rfl
      have u3 := q1 3 _ rfl; have y3 := q2 3 _ rfl
      simp only [Nat.add_zero] at u0 y0
      obtain ⟨z0, z1, z2⟩ := ltw lg1
      obtain ⟨x0, x1, x2⟩ := ltw lg2
      clear q1 q2 hb
      obtain ⟨s, i, g, n⟩ := b
      have hbe : hitEq ⟨s, i, g, n⟩ ⟨s, i, g, n⟩ = true := by simp [hitEq]
      go_wp2_with fail
      refine wp_region_more (by kernel_rfl) (by kernel_rfl) ?_
      repeat (go_big_quiet_step (fail))
      refine wpQuiet_nil ?_
      rintro _ ⟨pn, rfl⟩
      go_wp2_with fail
      go_roundg (l.length - (k + 1))
      case measure => omega
      case rel => exact ⟨k + 1, by go_num, by omega, by omega, Lib.hid (HW.out.trans (Below.mono (B := wr.heap.size) (by repeat' (first | (with_reducible exact Below.refl _ _) | (with_reducible assumption) | (with_reducible refine below_drewN ?_ _) | (with_reducible refine below_more _ _ _ ?_ ?_) | (with_reducible refine Below.alloc ?_ ?_ _) | (with_reducible refine Below.drew ?_) | (with_reducible refine Below.setCell ?_ ?_ _) | go_size)) HW.out.size))⟩
    · have t1 : ¬ (k : Int) < (l.length : Int) := by omega
      go_wp2_with fail
      go_ret
      exact ⟨rfl, HW.out⟩

/-- Its first ones. -/
theorem BIn.take {w : World} {p : Option Addr} {n cap : Nat} {l : List Bun} (h : BIn w (.slice p n cap) l) (k : Nat) (hk : k ≤ n) : BIn w (.slice p k cap) (l.take k) := by
  obtain ⟨p', cap', hv, h1, h2, h3, h4⟩ := h
  simp only [Value.slice.injEq] at hv
  obtain ⟨rfl, rfl, rfl⟩ := hv
  have e : (l.take k).length = k := by simp; omega
  refine ⟨p, cap, by rw [e], by rw [e]; omega, h2, by rw [e]; omega, fun hn => ?_⟩
  obtain ⟨blk, off, rfl, h5, h6⟩ := h4 (fun e => hn (by rw [e]; simp))
  refine ⟨blk, off, rfl, h5, fun t u hu => ?_⟩
  obtain ⟨b, hb, hbu⟩ := bunCells_split _ t u hu
  have ht : t / 11 < k := by have := (List.getElem?_eq_some_iff.1 hb).1; omega
  rw [List.getElem?_take_of_lt ht] at hb
  have e2 := bunCells_get l (t / 11) (t % 11) b hb (Nat.mod_lt _ (by omega))
  rw [show t / 11 * 11 + t % 11 = t by omega] at e2
  exact h6 t u (e2.trans hbu)

theorem few_any (v : Value) (l : List Bun) (w : World) (h : BIn w v l) :
    Calls Try.prog 12 #[v] w fun e w' => (∃ v', e = .returned v' ∧ BIn w v' (l.take 60)) ∧ w = w' := by
  have H := Lib.hid h
  obtain ⟨p, cap, rfl, hm, _, hc, _⟩ := h
  unfold maxLen at hm
  by_cases h6 : 60 < l.length
  · have t : (60 : Int) < (l.length : Int) := by omega
    have hc6 : 60 ≤ cap := by omega
    go_enter Try.func12, Try.ntmps12
    go_wp2
    go_ret
    exact ⟨⟨_, rfl, H.out.take 60 (by omega)⟩, rfl⟩
  · have t : ¬ (60 : Int) < (l.length : Int) := by omega
    go_enter Try.func12, Try.ntmps12
    go_wp2
    go_ret
    exact ⟨⟨_, rfl, by rw [List.take_of_length_le (by omega)]; exact H.out⟩, rfl⟩

/-- A copy by append to an empty slice. -/
theorem wpList_append_bin (w : World) {ops : Array Oper} {rest : List Oper} {o : Oper} {a : Act} {Q : Exit → Act → World → Prop}
    (hg : o.guard = none) (s x : Operand) (hop : o.op = Op.call { callee := Callee.builtin Builtin.append, args := #[s, x], argTypes := #[22, 22] })
    (v vx : Value) (l : List Bun) (hv : a.eval s = v) (hsl : Sl w 34 11 v 0 []) (hx : a.eval x = vx) (hb : BIn w vx l) (hl : l.length ≤ 1000000)
    (hK : ∀ v' w', Sl w' 34 11 v' l.length (bunCells l) → Turned w w' v.ownBlock → (v'.ownBlock = v.ownBlock ∨ ∃ g, v'.ownBlock = some g ∧ w.heap.size ≤ g) → wpList Try.prog ops Q rest (a.put o.dst v') w') :
    wpList Try.prog ops Q (o :: rest) a w := by
  obtain ⟨i0, hi0, hz0, hz1, hz2⟩ := info_parts info_bunJ
  obtain ⟨p, cap, rfl, h1, h2, h3, h4⟩ := hb
  by_cases hn : l = []
  · subst hn
    obtain ⟨q, c, rfl⟩ := sl_frm hsl
    exact wpList_append_zero hg s x 22 hop 34 i0 Try.underlying22 hi0 _ _ 0 _ _ hv hx (Nat.zero_le _) (hK _ _ hsl (Turned.of_grown ⟨rfl, rfl, rfl, Nat.le_refl _, fun k hk _ => rfl⟩) (.inl rfl))
  · obtain ⟨blk, off, rfl, h5, h6⟩ := h4 hn
    have hn0 : 0 < l.length := List.length_pos_iff.2 hn
    refine wpList_append_sl w hg s x 22 hop 34 i0 _ 11 88 Try.underlying22 hi0 hz0 hz1 hz2 rfl (by omega) v 0 [] hv hsl ⟨blk, off, none⟩ l.length cap (bunCells l) hx (bunCells_len l) (fun j u hj => ?_) (bunCells_one l) hn0 (by unfold maxLen; omega) (by omega) (fun v' w' hs ht ho => hK v' w' (by simpa using hs) ht ho)
    rw [show Addr.add ⟨blk, off, none⟩ j = ⟨blk, off + j, none⟩ from by unfold Addr.add; split <;> simp_all]
    exact h6 j u hj
end Go.Proofs.Ytloampfkjldmnaa
