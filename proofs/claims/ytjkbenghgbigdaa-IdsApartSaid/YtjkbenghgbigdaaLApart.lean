/-
  IdsApart: for every list of ints the law returns true, and the argument stays as it was. No condition.
-/
import Derived.Test.YtjkbenghgbigdaaPoolM
import Derived.Test.YtjkbenghgbigdaaPoolN
namespace Go.Proofs.Ytjkbenghgbigdaa.idsApart
open Go.ChangeShapes Go.WideShapes Go.ChangeAt Go.RowKit

/-- Both pools: the second shards alike; the names of the first one's first shard. -/
def Ap (w wr : World) (P Q : Nat) (zs : List Int) (other : Value) (k : Nat) : Prop :=
  ∃ (Lp Lq : Lay) (a b c : Sh) (l : List Id3), Good a ∧ Good b ∧ Good c ∧ St2 w wr Lp [a, c] P Lq [b, c] Q ∧ Lst w wr (fun x => Lp.own x ∨ Lq.own x) other l ∧ (∀ x ∈ l, x.1 = 0) ∧ l.length ≤ k ∧ k ≤ 60 ∧ k ≤ zs.length

/-- Behind the first half of an odd round: the list of names. -/
def OddRel (w wx : World) (Lp Lq : Lay) (a b c : Sh) (Q : Nat) (o : Value) (k : Nat) : Prop :=
  ∃ l : List Id3, St2 w wx Lp [a, c] (w.heap.size + 1) Lq [b, c] Q ∧ Lst w wx (fun x => Lp.own x ∨ Lq.own x) o l ∧ (∀ x ∈ l, x.1 = 0) ∧ l.length ≤ k + 1

theorem sl_form {w : World} {e : TypeId} {size : Nat} {v : Value} {n : Nat} {xs : List Value} (h : Sl w e size v n xs) : ∃ p cap, v = .slice p n cap ∧ n ≤ maxLen := by
  obtain ⟨_, ⟨rfl, rfl⟩ | ⟨g, off, cap, cur, rfl, _, h1, h2, _⟩⟩ := h
  · exact ⟨none, 0, rfl, by omega⟩
  · exact ⟨_, cap, rfl, by omega⟩

theorem st_turned {w0 W w4 : World} {F : Nat → Prop} {L : Lay} {M : List Sh} {p : Nat} {v : Value} {l : List Id3} (h : St w0 W L M p) (hl : Lst w0 W F v l) (hF : ∀ b, L.own b → F b) (ht : Turned W w4 v.ownBlock) : St w0 w4 L M p :=
  ⟨h.hP, h.hp.chg (Chg.of_turned ht (F := fun b => v.ownBlock = some b) fun _ e _ => e) fun b hb e => (hl.ap b e).2 (hF b hb), h.hb.trans ⟨ht.os, ht.tape, ht.output, ht.size, fun k hk => ht.block k (by have := h.hb.size; omega) fun e => by have := (hl.ap k e.symm).1; omega⟩, h.ho⟩

theorem next1_nil (a c : Sh) (h : c.free = []) : nextF [a, c] 1 = (((0, 0, 0), -1, false), [a, c]) := by
  have := nextF_nil (M := [a, c]) (k := 1) rfl h
  simpa using this
theorem next1_cons (c : Sh) (f : Int) (fs : List Int) (h : c.free = f :: fs) (hg : Good c) : ∃ (x : Ix) (c' : Sh), (∀ a : Sh, nextF [a, c] 1 = (((1, f, x.gen), nxtAt x f, true), [a, c'])) ∧ Good c' ∧ 0 ≤ f ∧ c'.all[f.toNat]? = some (nxtIx x) := by
  obtain ⟨x, hx, hf, _, g⟩ := nextF_cons (M := [c, c]) (k := 1) rfl h hg
  refine ⟨x, _, fun a => ?_, g, hf, List.getElem?_set_self (List.getElem?_eq_some_iff.1 hx).1⟩
  obtain ⟨y, hy, _, e, _⟩ := nextF_cons (M := [a, c]) (k := 1) rfl h hg
  rw [hx] at hy
  cases hy
  simpa using e
theorem next0 (a c : Sh) (hg : Good a) : ∃ (r : Id3 × Int × Bool) (a' : Sh), nextF [a, c] 0 = (r, [a', c]) ∧ Good a' ∧ r.1.1 = 0 := by
  cases h : a.free with
  | nil =>
    have e := nextF_nil (M := [a, c]) (k := 0) rfl h
    exact ⟨_, a, by simpa using e, hg, rfl⟩
  | cons f fs =>
    obtain ⟨x, hx, hf, e, g⟩ := nextF_cons (M := [a, c]) (k := 0) rfl h hg
    exact ⟨_, _, by simpa using e, g, rfl⟩
theorem alive1 (a c' : Sh) (f : Int) (x : Ix) (hf : 0 ≤ f) (hx : c'.all[f.toNat]? = some (nxtIx x)) : aliveF [a, c'] 1 f x.gen = true := by
  simp [aliveF, ixOf, shOf, hf, hx, nxtIx]
theorem free1 (a c' : Sh) (f : Int) (x : Ix) (hf : 0 ≤ f) (hx : c'.all[f.toNat]? = some (nxtIx x)) (hg : Good c') : ∃ c'', (∀ a : Sh, freeF [a, c'] 1 f x.gen = (0, [a, c''])) ∧ Good c'' := by
  obtain ⟨i, rfl⟩ := Int.eq_ofNat_of_zero_le hf
  rw [Int.toNat_natCast] at hx
  refine ⟨freedSh c' i (nxtIx x), fun a => ?_, ?_⟩
  · obtain ⟨e, g⟩ := freeF_alive (M := [a, c']) (k := 1) rfl hx rfl hg
    simpa [nxtIx] using e
  · exact (freeF_alive (M := [a, c']) (k := 1) rfl hx rfl hg).2
theorem free0 (a c : Sh) (i g : Int) (hg : Good a) : ∃ (e : Int) (a' : Sh), freeF [a, c] 0 i g = (e, [a', c]) ∧ Good a' := by
  obtain ⟨a', h, e⟩ := freeF_any (M := [a, c]) (k := 0) i g rfl hg
  refine ⟨(freeF [a, c] 0 i g).1, a', ?_, h⟩
  have e' : (freeF [a, c] 0 i g).2 = [a', c] := by simpa using e
  rw [← e']

set_option maxRecDepth 100000 in
set_option maxHeartbeats 4000000 in
theorem walk (v : Value) (zs : List Int) (w : World) (hz : IntsIn w v zs) :
    Calls Try.prog 3 #[v] w fun e w' => e = .returned (.bool true) ∧ Below w.heap.size w w' := by
  obtain ⟨pz, capz, rfl, hlen, hzr, hzc⟩ := hz
  unfold maxLen at hlen
  have HZR := Lib.hid hzr
  have HZC := Lib.hid hzc
  clear hzr hzc
  have hnew := fun W => new_p 2 3 W (by omega) (by omega) (by omega) (by omega)
  simp only [Int.cast_ofNat_Int] at hnew
  have HNEW := Lib.hid hnew
  clear hnew
  go_enter Try.func3, Try.ntmps3
  go_wp2_with fail
  refine (HNEW.out _).mono ?_
  rintro e w1 ⟨rfl, hb1, L1, hP1, hp1, ho1⟩
  go_wp2_with fail
  refine (HNEW.out _).mono ?_
  rintro e w2 ⟨rfl, hb2, L2, hP2, hp2, ho2⟩
  have st0 : St2 w w2 L1 [fresh 3 3, fresh 3 3] (w.heap.size + 1) L2 [fresh 3 3, fresh 3 3] (w1.heap.size + 1) :=
    ⟨⟨hP1, hp1.grown hb2, hb1.trans (hb2.mono hb1.size), ho1⟩, ⟨hP2, hp2, hb1.trans (hb2.mono hb1.size), fun b h => Nat.le_trans hb1.size (ho2 b h)⟩, fun b h1 h2 => by have := hp1.lt h1; have := ho2 b h2; omega⟩
  have ST0 := Lib.hid st0
  have L1w := Lib.hid hb1.size
  generalize hQ : w1.heap.size + 1 = Q at *
  have HQ := Lib.hid hQ
  clear hb1 hP1 hp1 ho1 hb2 hP2 hp2 ho2 st0 hQ
  go_wp2_with fail
  go_loopw [7, 8] (fun o i wr => ∃ k : Nat, i = .int .i64 k ∧ Ap w wr (w.heap.size + 1) Q zs o k) (fun _ i _ => 61 - (intOf i).toNat)
  case atStart => exact ⟨0, rfl, _, _, _, _, _, [], fresh_good 3 (by omega), fresh_good 3 (by omega), fresh_good 3 (by omega), ST0.out, Lst.nil _ _ _, fun x hx => by (cases hx), Nat.le_refl _, by omega, by omega⟩
  case round =>
    obtain ⟨k, rfl, Lp, Lq, a, b, c, l, ga, gb, gc, st, hl, hl0, hlk, hk60, hkz⟩ := hrel
    obtain ⟨wo, rfl⟩ : ∃ wo : World, wo = wr := ⟨_, rfl⟩
    by_cases hlt : k < zs.length ∧ k < 60
    · obtain ⟨h1, h2⟩ := hlt
      obtain ⟨bz, oz, rfl, hcap, hbz, hcz⟩ := HZC.out k h1
      have hcz' := (st.a.hb.cell (p := ⟨bz, oz + k, none⟩) hbz).trans hcz
      have hzi := HZR.out (zs.getD k 0) (by simp [List.getD, h1])
      generalize zs.getD k 0 = z at *
      have HCZ := Lib.hid hcz
      clear hcz
      have ST := Lib.hid st
      have HL := Lib.hid hl
      have HL0 := Lib.hid hl0
      clear st hl hl0
      have hI : 0 ≤ (k : Int) := Int.natCast_nonneg _
      by_cases hpar : z % 2 = 0
      · have hp2 : (z % 2 == 0) = true := by simpa using hpar
        clear hpar
        cases hf : c.free with
        | nil =>
          have e1 := Lib.hid (next1_nil a c hf)
          have e2 := Lib.hid (next1_nil b c hf)
          clear hf
          go_wp2_with fail
          refine (mod_any z 2 _ (by omega) (by omega)).mono ?_
          rintro e w' ⟨rfl, rfl⟩
          go_wp2_with fail
          refine (next_p _ Lp _ _ ST.out.a.hP ST.out.a.hp 1).mono ?_
          rw [e1.out]
          rintro e w3 ⟨rfl, hs⟩
          obtain ⟨Lp1, st1, c1, o1⟩ := ST.out.went hs
          have HL1 := Lib.hid (HL.out.went (F' := fun x => Lp1.own x ∨ Lq.own x) c1 (fun _ h => .inl h) (fun b h => h.elim (fun h => (o1 b h).imp_left .inl) (fun h => .inl (.inr h))))
          have st1' := st1.grow (W' := w3.alloc (.cells #[.int .i64 0, .int .i64 0, .int .i64 0] 30)) ((Below.refl _ _).alloc (Nat.le_refl _) _)
          have HL1' := Lib.hid (HL1.out.grow (W' := w3.alloc (.cells #[.int .i64 0, .int .i64 0, .int .i64 0] 30)) ((Below.refl _ _).alloc (Nat.le_refl _) _))
          have ST1 := Lib.hid st1'
          clear hs st1 st1' c1 o1 HL1
          go_wp2_with fail
          refine (next_p _ Lq _ _ ST1.out.b.hP ST1.out.b.hp 1).mono ?_
          rw [e2.out]
          rintro e w4 ⟨rfl, hs⟩
          obtain ⟨Lq1, st2, c2, o2⟩ := ST1.out.swap.went hs
          have HL2 := Lib.hid (HL1'.out.went (F' := fun x => Lp1.own x ∨ Lq1.own x) c2 (fun _ h => .inr h) (fun b h => h.elim (fun h => .inl (.inl h)) (fun h => (o2 b h).imp_left .inr)))
          have ST2 := Lib.hid st2.swap
          clear hs st2 c2 o2
          go_wp2_with fail
          go_roundw
          case rel => exact ⟨k + 1, by go_num, Lp1, Lq1, a, b, c, l, ga, gb, gc, ST2.out.grow (by repeat' (first | (with_reducible exact Below.refl _ _) | (with_reducible assumption) | (with_reducible refine below_drewN ?_ _) | (with_reducible refine below_more _ _ _ ?_ ?_) | (with_reducible refine Below.alloc ?_ ?_ _) | (with_reducible refine Below.drew ?_) | (with_reducible refine Below.setCell ?_ ?_ _) | go_size)), HL2.out.grow (by repeat' (first | (with_reducible exact Below.refl _ _) | (with_reducible assumption) | (with_reducible refine below_drewN ?_ _) | (with_reducible refine below_more _ _ _ ?_ ?_) | (with_reducible refine Below.alloc ?_ ?_ _) | (with_reducible refine Below.drew ?_) | (with_reducible refine Below.setCell ?_ ?_ _) | go_size)), HL0.out, by omega, by omega, by omega⟩
          case measure => simp [intOf]; omega
        | cons f fs =>
          obtain ⟨x, c', e1, gc', hf0, hxx⟩ := next1_cons c f fs hf gc
          have E1 := Lib.hid e1
          have hal := Lib.hid (fun a => alive1 a c' f x hf0 hxx)
          obtain ⟨c'', e3, gc''⟩ := free1 a c' f x hf0 hxx gc'
          have E3 := Lib.hid e3
          clear e1 e3 hf hxx
          go_wp2_with fail
          refine (mod_any z 2 _ (by omega) (by omega)).mono ?_
          rintro e w' ⟨rfl, rfl⟩
          go_wp2_with fail
          refine (next_p _ Lp _ _ ST.out.a.hP ST.out.a.hp 1).mono ?_
          rw [E1.out]
          rintro e w3 ⟨rfl, hs⟩
          obtain ⟨Lp1, st1, c1, o1⟩ := ST.out.went hs
          have HL1 := Lib.hid (HL.out.went (F' := fun x => Lp1.own x ∨ Lq.own x) c1 (fun _ h => .inl h) (fun b h => h.elim (fun h => (o1 b h).imp_left .inl) (fun h => .inl (.inr h))))
          have bA := Box.new st1.a.hp #[.int .i64 1, .int .i64 f, .int .i64 x.gen] 30
          have bA' : ¬ Lq.own w3.heap.size := fun h => by have := st1.b.hp.lt h; omega
          have st1' := st1.grow (W' := w3.alloc (.cells #[.int .i64 1, .int .i64 f, .int .i64 x.gen] 30)) ((Below.refl _ _).alloc (Nat.le_refl _) _)
          have HL1' := Lib.hid (HL1.out.grow (W' := w3.alloc (.cells #[.int .i64 1, .int .i64 f, .int .i64 x.gen] 30)) ((Below.refl _ _).alloc (Nat.le_refl _) _))
          have ST1 := Lib.hid st1'
          clear hs st1 st1' c1 o1 HL1
          go_wp2_with fail
          refine (next_p _ Lq _ _ ST1.out.b.hP ST1.out.b.hp 1).mono ?_
          rw [E1.out]
          rintro e w4 ⟨rfl, hs⟩
          obtain ⟨Lq1, st2, c2, o2⟩ := ST1.out.swap.went hs
          have HL2 := Lib.hid (HL1'.out.went (F' := fun x => Lp1.own x ∨ Lq1.own x) c2 (fun _ h => .inr h) (fun b h => h.elim (fun h => .inl (.inl h)) (fun h => (o2 b h).imp_left .inr)))
          have qA : ∀ j, w4.cell? ⟨w3.heap.size, j, none⟩ = (#[.int .i64 1, .int .i64 f, .int .i64 x.gen] : Array Value)[j]? := fun j => (c2.cell (a := ⟨w3.heap.size, j, none⟩) bA.1 bA').trans (bA.2.2 j)
          have lA : w3.heap.size < w4.heap.size := Nat.lt_of_lt_of_le bA.1 c2.size
          have nA : ¬ Lp1.own w3.heap.size := bA.2.1
          have nA' : ¬ Lq1.own w3.heap.size := fun h => (o2 _ h).elim bA' (fun h => by have := bA.1; omega)
          have ST2 := Lib.hid st2.swap
          have NA := Lib.hid nA
          have NA' := Lib.hid nA'
          obtain ⟨y0, y1, y2, y3⟩ := lts lA
          have HAL := Lib.hid (fun W (hW : Below w4.heap.size w4 W) => by have h := alive_p W Lp1 _ _ ST2.out.a.hP (ST2.out.grow hW).a.hp 1 f x.gen; rw [hal.out] at h; exact h)
          clear hs st2 c2 o2 bA bA' nA nA'
          have hc4 := (ST2.out.a.hb.cell (p := ⟨bz, oz + k, none⟩) hbz).trans HCZ.out
          have lz4 : bz < w4.heap.size := Nat.lt_of_lt_of_le hbz ST2.out.a.hb.size
          obtain ⟨v0, v1, v2, v3⟩ := lts lz4
          
          by_cases h4 : z % 4 = 0
          · have h4' : (z % 4 == 0) = true := by simpa using h4
            clear h4
            go_wp2_with (first | (go_at_call 20; refine (HAL.out _ (by repeat' (first | (with_reducible exact Below.refl _ _) | (with_reducible assumption) | (with_reducible refine below_drewN ?_ _) | (with_reducible refine below_more _ _ _ ?_ ?_) | (with_reducible refine Below.alloc ?_ ?_ _) | (with_reducible refine Below.drew ?_) | (with_reducible refine Below.setCell ?_ ?_ _) | go_size))).mono ?_; rintro e w' ⟨rfl, hb⟩; obtain ⟨d, os, rfl⟩ := more_of hb; clear hb) | (go_at_call 18; refine (mod_any z 4 _ (by omega) (by omega)).mono ?_; rintro e w' ⟨rfl, rfl⟩))
            refine (free_p _ Lp1 _ _ ST2.out.a.hP (ST2.out.grow (by repeat' (first | (with_reducible exact Below.refl _ _) | (with_reducible assumption) | (with_reducible refine below_drewN ?_ _) | (with_reducible refine below_more _ _ _ ?_ ?_) | (with_reducible refine Below.alloc ?_ ?_ _) | (with_reducible refine Below.drew ?_) | (with_reducible refine Below.setCell ?_ ?_ _) | go_size))).a.hp 1 f x.gen).mono ?_
            rw [E3.out]
            rintro e w5 ⟨rfl, hs⟩
            obtain ⟨Lp2, st3, c3, o3⟩ := (ST2.out.grow (by repeat' (first | (with_reducible exact Below.refl _ _) | (with_reducible assumption) | (with_reducible refine below_drewN ?_ _) | (with_reducible refine below_more _ _ _ ?_ ?_) | (with_reducible refine Below.alloc ?_ ?_ _) | (with_reducible refine Below.drew ?_) | (with_reducible refine Below.setCell ?_ ?_ _) | go_size))).went hs
            have HL3 := Lib.hid ((HL2.out.grow (by repeat' (first | (with_reducible exact Below.refl _ _) | (with_reducible assumption) | (with_reducible refine below_drewN ?_ _) | (with_reducible refine below_more _ _ _ ?_ ?_) | (with_reducible refine Below.alloc ?_ ?_ _) | (with_reducible refine Below.drew ?_) | (with_reducible refine Below.setCell ?_ ?_ _) | go_size))).went (F' := fun x => Lp2.own x ∨ Lq1.own x) c3 (fun _ h => .inl h) (fun b h => h.elim (fun h => (o3 b h).imp_left .inl) (fun h => .inl (.inr h))))
            have qB : ∀ j, w5.cell? ⟨w4.heap.size, j, none⟩ = (#[.int .i64 1, .int .i64 f, .int .i64 x.gen] : Array Value)[j]? := fun j => by
              rw [c3.cell (a := ⟨w4.heap.size, j, none⟩) (by simp; omega) (fun h => by have := ST2.out.a.hp.lt h; simp only at this; omega)]
              simp [go_sem]
            have lB : w4.heap.size < w5.heap.size := by have := c3.size; simp at this; omega
            have ST3 := Lib.hid st3
            obtain ⟨u0, u1, u3, u4⟩ := lts lB
            clear hs st3 c3 o3
            go_wp2_with fail
            refine (free_p _ Lq1 _ _ ST3.out.b.hP ST3.out.b.hp 1 f x.gen).mono ?_
            rw [E3.out]
            rintro e w6 ⟨rfl, hs⟩
            obtain ⟨Lq2, st4, c4, o4⟩ := ST3.out.swap.went hs
            have HL4 := Lib.hid (HL3.out.went (F' := fun x => Lp2.own x ∨ Lq2.own x) c4 (fun _ h => .inr h) (fun b h => h.elim (fun h => .inl (.inl h)) (fun h => (o4 b h).imp_left .inr)))
            have ST4 := Lib.hid st4.swap
            clear hs st4 c4 o4
            go_wp2_with fail
            go_roundw
            case rel => exact ⟨k + 1, by go_num, Lp2, Lq2, a, b, c'', l, ga, gb, gc'', ST4.out.grow (by repeat' (first | (with_reducible exact Below.refl _ _) | (with_reducible assumption) | (with_reducible refine below_drewN ?_ _) | (with_reducible refine below_more _ _ _ ?_ ?_) | (with_reducible refine Below.alloc ?_ ?_ _) | (with_reducible refine Below.drew ?_) | (with_reducible refine Below.setCell ?_ ?_ _) | go_size)), HL4.out.grow (by repeat' (first | (with_reducible exact Below.refl _ _) | (with_reducible assumption) | (with_reducible refine below_drewN ?_ _) | (with_reducible refine below_more _ _ _ ?_ ?_) | (with_reducible refine Below.alloc ?_ ?_ _) | (with_reducible refine Below.drew ?_) | (with_reducible refine Below.setCell ?_ ?_ _) | go_size)), HL0.out, by omega, by omega, by omega⟩
            case measure => simp [intOf]; omega
          · have h4' : (z % 4 == 0) = false := by simpa using h4
            clear h4
            go_wp2_with (first | (go_at_call 20; refine (HAL.out _ (by repeat' (first | (with_reducible exact Below.refl _ _) | (with_reducible assumption) | (with_reducible refine below_drewN ?_ _) | (with_reducible refine below_more _ _ _ ?_ ?_) | (with_reducible refine Below.alloc ?_ ?_ _) | (with_reducible refine Below.drew ?_) | (with_reducible refine Below.setCell ?_ ?_ _) | go_size))).mono ?_; rintro e w' ⟨rfl, hb⟩; obtain ⟨d, os, rfl⟩ := more_of hb; clear hb) | (go_at_call 18; refine (mod_any z 4 _ (by omega) (by omega)).mono ?_; rintro e w' ⟨rfl, rfl⟩))
            go_roundw
            case rel => exact ⟨k + 1, by go_num, Lp1, Lq1, a, b, c', l, ga, gb, gc', ST2.out.grow (by repeat' (first | (with_reducible exact Below.refl _ _) | (with_reducible assumption) | (with_reducible refine below_drewN ?_ _) | (with_reducible refine below_more _ _ _ ?_ ?_) | (with_reducible refine Below.alloc ?_ ?_ _) | (with_reducible refine Below.drew ?_) | (with_reducible refine Below.setCell ?_ ?_ _) | go_size)), HL2.out.grow (by repeat' (first | (with_reducible exact Below.refl _ _) | (with_reducible assumption) | (with_reducible refine below_drewN ?_ _) | (with_reducible refine below_more _ _ _ ?_ ?_) | (with_reducible refine Below.alloc ?_ ?_ _) | (with_reducible refine Below.drew ?_) | (with_reducible refine Below.setCell ?_ ?_ _) | go_size)), HL0.out, by omega, by omega, by omega⟩
            case measure => simp [intOf]; omega
      · have hp2 : (z % 2 == 0) = false := by simpa using hpar
        clear hpar
        obtain ⟨r, a', e1, ga', hr0⟩ := next0 a c ga
        obtain ⟨⟨rs, ri, rg⟩, rat, rok⟩ := r
        simp only at hr0
        subst hr0
        have E1 := Lib.hid e1
        clear e1
        obtain ⟨i0, hi0, hz0, hz1, hz2⟩ := info_parts info_id
        go_wp2_with fail
        refine (mod_any z 2 _ (by omega) (by omega)).mono ?_
        rintro e w' ⟨rfl, rfl⟩
        go_wp2_with fail
        refine (next_p _ Lp _ _ ST.out.a.hP ST.out.a.hp 0).mono ?_
        rw [E1.out]
        rintro e w3 ⟨rfl, hs⟩
        obtain ⟨Lp1, st1, c1, o1⟩ := ST.out.went hs
        have HL1 := Lib.hid (HL.out.went (F' := fun x => Lp1.own x ∨ Lq.own x) c1 (fun _ h => .inl h) (fun b h => h.elim (fun h => (o1 b h).imp_left .inl) (fun h => .inl (.inr h))))
        have ST1 := Lib.hid st1
        clear hs st1 c1 o1
        go_upto_if 126 with fail
        go_cut [7] (fun o wx => OddRel w wx Lp1 Lq a' b c Q o k)
        case first =>
          cases rok with
          | false =>
            go_wp2_with fail
            go_meet
            exact ⟨l, ST1.out.grow (by repeat' (first | (with_reducible exact Below.refl _ _) | (with_reducible assumption) | (with_reducible refine below_drewN ?_ _) | (with_reducible refine below_more _ _ _ ?_ ?_) | (with_reducible refine Below.alloc ?_ ?_ _) | (with_reducible refine Below.drew ?_) | (with_reducible refine Below.setCell ?_ ?_ _) | go_size)), HL1.out.grow (by repeat' (first | (with_reducible exact Below.refl _ _) | (with_reducible assumption) | (with_reducible refine below_drewN ?_ _) | (with_reducible refine below_more _ _ _ ?_ ?_) | (with_reducible refine Below.alloc ?_ ?_ _) | (with_reducible refine Below.drew ?_) | (with_reducible refine Below.setCell ?_ ?_ _) | go_size)), HL0.out, by omega⟩
          | true =>
            go_wp2_with (at_builtin; refine wpList_append_sl _ (by rfl) _ _ 27 (by rfl) 30 i0 _ 3 24 Try.underlying27 hi0 hz0 hz1 hz2 rfl (by omega) _ l.length (idCells l) (by rfl) (HL1.out.grow (by repeat' (first | (with_reducible exact Below.refl _ _) | (with_reducible assumption) | (with_reducible refine below_drewN ?_ _) | (with_reducible refine below_more _ _ _ ?_ ?_) | (with_reducible refine Below.alloc ?_ ?_ _) | (with_reducible refine Below.drew ?_) | (with_reducible refine Below.setCell ?_ ?_ _) | go_size))).sl ⟨_, 0, none⟩ 1 1 [.int .i64 0, .int .i64 ri, .int .i64 rg] (by rfl) (by rfl) (by intro j u hj; rcases j with _ | _ | _ | j <;> simp at hj <;> subst hj <;> simp [Addr.add, go_sem]) (by simp [Value.oneCell']) (by omega) (by unfold maxLen; omega) (by omega) ?_; intro v' w4 hs4 ht4 ho4)
            go_meet
            have st4 := st_turned (ST1.out.grow (by repeat' (first | (with_reducible exact Below.refl _ _) | (with_reducible assumption) | (with_reducible refine below_drewN ?_ _) | (with_reducible refine below_more _ _ _ ?_ ?_) | (with_reducible refine Below.alloc ?_ ?_ _) | (with_reducible refine Below.drew ?_) | (with_reducible refine Below.setCell ?_ ?_ _) | go_size))).a (HL1.out.grow (by repeat' (first | (with_reducible exact Below.refl _ _) | (with_reducible assumption) | (with_reducible refine below_drewN ?_ _) | (with_reducible refine below_more _ _ _ ?_ ?_) | (with_reducible refine Below.alloc ?_ ?_ _) | (with_reducible refine Below.drew ?_) | (with_reducible refine Below.setCell ?_ ?_ _) | go_size))) (fun _ h => .inl h) ht4
            have st5 := st_turned (ST1.out.grow (by repeat' (first | (with_reducible exact Below.refl _ _) | (with_reducible assumption) | (with_reducible refine below_drewN ?_ _) | (with_reducible refine below_more _ _ _ ?_ ?_) | (with_reducible refine Below.alloc ?_ ?_ _) | (with_reducible refine Below.drew ?_) | (with_reducible refine Below.setCell ?_ ?_ _) | go_size))).b (HL1.out.grow (by repeat' (first | (with_reducible exact Below.refl _ _) | (with_reducible assumption) | (with_reducible refine below_drewN ?_ _) | (with_reducible refine below_more _ _ _ ?_ ?_) | (with_reducible refine Below.alloc ?_ ?_ _) | (with_reducible refine Below.drew ?_) | (with_reducible refine Below.setCell ?_ ?_ _) | go_size))) (fun _ h => .inr h) ht4
            have HL2 := (HL1.out.grow (by repeat' (first | (with_reducible exact Below.refl _ _) | (with_reducible assumption) | (with_reducible refine below_drewN ?_ _) | (with_reducible refine below_more _ _ _ ?_ ?_) | (with_reducible refine Below.alloc ?_ ?_ _) | (with_reducible refine Below.drew ?_) | (with_reducible refine Below.setCell ?_ ?_ _) | go_size))).snoc (Nat.le_trans ST1.out.a.hb.size (by simp; omega)) (fun b h => h.elim (fun h => Nat.lt_of_lt_of_le (ST1.out.a.hp.lt h) (by simp; omega)) (fun h => Nat.lt_of_lt_of_le (ST1.out.b.hp.lt h) (by simp; omega))) hs4 ho4
            exact ⟨l ++ [(0, ri, rg)], ⟨st4, st5, ST1.out.ap⟩, HL2, fun x hx => (by rcases List.mem_append.1 hx with h | h; exact HL0.out x h; simp at h; rw [h]), by simp; omega⟩
        clear HL1 ST1 HL ST HL0 hlk E1
        obtain ⟨l2, st2, hl2, hl20, hl2k⟩ := hcut
        have ST2 := Lib.hid st2
        have HL2 := Lib.hid hl2
        have HL20 := Lib.hid hl20
        have hc4 := (st2.a.hb.cell (p := ⟨bz, oz + k, none⟩) hbz).trans HCZ.out
        obtain ⟨p2, cap2, hv2, hm2, hcells⟩ := hl2.cells
        unfold maxLen at hm2
        have HCL := Lib.hid hcells
        clear st2 hl2 hl20 hcells
        subst hv2
        by_cases hn : 0 < l2.length
        · by_cases h3 : z % 3 = 0
          · have h3' : (z % 3 == 0) = true := by simpa using h3
            clear h3
            have hj0 : (z.tdiv 6) % (l2.length : Int) = ((((z.tdiv 6) % (l2.length : Int)).toNat : Nat) : Int) := (Int.toNat_of_nonneg (Int.emod_nonneg _ (by omega))).symm
            have hj1 : ((z.tdiv 6) % (l2.length : Int)).toNat < l2.length := by have := Int.emod_lt_of_pos (z.tdiv 6) (by omega : (0 : Int) < l2.length); omega
            generalize ((z.tdiv 6) % (l2.length : Int)).toNat = j at hj0 hj1
            have HJ := Lib.hid hj0
            clear hj0
            obtain ⟨x, hx⟩ : ∃ x, l2[j]? = some x := ⟨_, List.getElem?_eq_getElem hj1⟩
            obtain ⟨bb, oo, hpp, hcap2, q0, q1, q2⟩ := HCL.out j x hx
            subst hpp
            have hx0 := HL20.out x (List.mem_of_getElem? hx)
            obtain ⟨xs, xi, xg⟩ := x
            simp only at hx0 q0 q1 q2
            subst hx0
            have hjI : 0 ≤ (j : Int) := Int.natCast_nonneg j
            have hjL : (j : Int) < (l2.length : Int) := by omega
            go_wp2_with fail
            refine (mod_any z 3 _ (by omega) (by omega)).mono ?_
            rintro e w' ⟨rfl, rfl⟩
            go_wp2_with fail
            refine (mod_any _ _ _ (by omega) (by omega)).mono ?_
            rw [HJ.out]
            rintro e w' ⟨rfl, rfl⟩
            go_wp2_with fail
            obtain ⟨er, a2, ef, ga2⟩ := free0 a' c xi xg ga'
            refine (free_p _ Lp1 _ _ ST2.out.a.hP ST2.out.a.hp 0 xi xg).mono ?_
            rw [ef]
            rintro e w6 ⟨rfl, hs⟩
            obtain ⟨Lp2, st3, c3, o3⟩ := ST2.out.went hs
            have HL3 := Lib.hid (HL2.out.went (F' := fun x => Lp2.own x ∨ Lq.own x) c3 (fun _ h => .inl h) (fun b h => h.elim (fun h => (o3 b h).imp_left .inl) (fun h => .inl (.inr h))))
            have ST3 := Lib.hid st3
            clear hs st3 c3 o3 ef
            go_wp2_with fail
            go_roundw
            case rel => exact ⟨k + 1, by go_num, Lp2, Lq, a2, b, c, l2, ga2, gb, gc, ST3.out.grow (by repeat' (first | (with_reducible exact Below.refl _ _) | (with_reducible assumption) | (with_reducible refine below_drewN ?_ _) | (with_reducible refine below_more _ _ _ ?_ ?_) | (with_reducible refine Below.alloc ?_ ?_ _) | (with_reducible refine Below.drew ?_) | (with_reducible refine Below.setCell ?_ ?_ _) | go_size)), HL3.out.grow (by repeat' (first | (with_reducible exact Below.refl _ _) | (with_reducible assumption) | (with_reducible refine below_drewN ?_ _) | (with_reducible refine below_more _ _ _ ?_ ?_) | (with_reducible refine Below.alloc ?_ ?_ _) | (with_reducible refine Below.drew ?_) | (with_reducible refine Below.setCell ?_ ?_ _) | go_size)), HL20.out, by omega, by omega, by omega⟩
            case measure => simp [intOf]; omega
          · have h3' : (z % 3 == 0) = false := by simpa using h3
            clear h3
            go_wp2_with (go_at_call 18; refine (mod_any _ _ _ (by omega) (by omega)).mono ?_; rintro e w' ⟨rfl, rfl⟩)
            go_roundw
            case rel => exact ⟨k + 1, by go_num, Lp1, Lq, a', b, c, l2, ga', gb, gc, ST2.out.grow (by repeat' (first | (with_reducible exact Below.refl _ _) | (with_reducible assumption) | (with_reducible refine below_drewN ?_ _) | (with_reducible refine below_more _ _ _ ?_ ?_) | (with_reducible refine Below.alloc ?_ ?_ _) | (with_reducible refine Below.drew ?_) | (with_reducible refine Below.setCell ?_ ?_ _) | go_size)), HL2.out.grow (by repeat' (first | (with_reducible exact Below.refl _ _) | (with_reducible assumption) | (with_reducible refine below_drewN ?_ _) | (with_reducible refine below_more _ _ _ ?_ ?_) | (with_reducible refine Below.alloc ?_ ?_ _) | (with_reducible refine Below.drew ?_) | (with_reducible refine Below.setCell ?_ ?_ _) | go_size)), HL20.out, by omega, by omega, by omega⟩
            case measure => simp [intOf]; omega
        · go_wp2_with fail
          go_roundw
          case rel => exact ⟨k + 1, by go_num, Lp1, Lq, a', b, c, l2, ga', gb, gc, ST2.out.grow (by repeat' (first | (with_reducible exact Below.refl _ _) | (with_reducible assumption) | (with_reducible refine below_drewN ?_ _) | (with_reducible refine below_more _ _ _ ?_ ?_) | (with_reducible refine Below.alloc ?_ ?_ _) | (with_reducible refine Below.drew ?_) | (with_reducible refine Below.setCell ?_ ?_ _) | go_size)), HL2.out.grow (by repeat' (first | (with_reducible exact Below.refl _ _) | (with_reducible assumption) | (with_reducible refine below_drewN ?_ _) | (with_reducible refine below_more _ _ _ ?_ ?_) | (with_reducible refine Below.alloc ?_ ?_ _) | (with_reducible refine Below.drew ?_) | (with_reducible refine Below.setCell ?_ ?_ _) | go_size)), HL20.out, by omega, by omega, by omega⟩
          case measure => simp [intOf]; omega
    · by_cases h1 : k < zs.length
      · have h2 : 60 ≤ k := by omega
        clear hlt
        have HB := Lib.hid st.a.hb
        clear st hl hl0
        go_wp2_with (go_at_call 22; refine (awake8 _).mono ?_; rintro e w' ⟨rfl, hb⟩; obtain ⟨d, os, rfl⟩ := more_of hb; clear hb)
        go_ret
        exact ⟨rfl, HB.out.trans (Below.mono (B := wo.heap.size) (by repeat' (first | (with_reducible exact Below.refl _ _) | (with_reducible assumption) | (with_reducible refine below_drewN ?_ _) | (with_reducible refine below_more _ _ _ ?_ ?_) | (with_reducible refine Below.alloc ?_ ?_ _) | (with_reducible refine Below.drew ?_) | (with_reducible refine Below.setCell ?_ ?_ _) | go_size)) HB.out.size)⟩
      · have h2 : zs.length ≤ k := by omega
        clear hlt
        have HB := Lib.hid st.a.hb
        clear st hl hl0
        go_wp2_with (go_at_call 22; refine (awake8 _).mono ?_; rintro e w' ⟨rfl, hb⟩; obtain ⟨d, os, rfl⟩ := more_of hb; clear hb)
        go_ret
        exact ⟨rfl, HB.out.trans (Below.mono (B := wo.heap.size) (by repeat' (first | (with_reducible exact Below.refl _ _) | (with_reducible assumption) | (with_reducible refine below_drewN ?_ _) | (with_reducible refine below_more _ _ _ ?_ ?_) | (with_reducible refine Below.alloc ?_ ?_ _) | (with_reducible refine Below.drew ?_) | (with_reducible refine Below.setCell ?_ ?_ _) | go_size)) HB.out.size)⟩
set_option maxRecDepth 100000 in
theorem lifted (os : Os) (started : os.Started) (H : Type) (enc : TypeId × Value → H) :
    ReturnsInHanded {} Try.checked os 3 .any (Rows.idsApartSpec.pre6 enc Try.prog Try.f3 Rows.idsApartRow.domain false) (Rows.idsApartSpec.post enc Try.prog Try.f3 false true false false) := by
  refine returnsInHanded_of_change (C := Try.checked) ownKnob0 started (by kernel_rfl) Try.func3
    (ChangeSpec.witness6 (enc := enc) (C := Try.checked) false ⟨#[], #[.slice none 0 0], []⟩ 8 (by kernel_rfl) (by kernel_rfl) (by kernel_rfl) (by kernel_rfl)) ?_
  intro W base args ds gs before hval0 hW _ _
  have hval : ∀ (j : Nat) t v, Try.f3.params[j]? = some t → args[j]? = some v → Value.okWide Try.prog W .any base t v := hval0
  have hread : ∀ t ∈ Try.f3.params.toList, Try.prog.readableRec t = true ∧ t < Try.prog.types.size := by
    rw [Try.params3]
    intro t ht
    simp only [List.mem_cons, List.not_mem_nil, or_false] at ht
    rcases ht with rfl
    all_goals exact ⟨by kernel_rfl, of_decide_eq_true (by kernel_rfl)⟩
  have hW' := hW
  obtain ⟨p, q, hA0, hV, -, -⟩ := hW'
  have hA : DataW.TrodAll enc Try.prog W 0 (fun _ => true) true Try.f3.params.toList args.toList ds p := hA0
  rw [Try.params3] at hA hval
  obtain ⟨v0, vs0, d0, ds0, p0, q0, hargs, rfl, rfl, h0, r0⟩ := trodAll_cons hA
  obtain ⟨rfl, rfl, rfl⟩ := trodAll_nil r0
  obtain rfl : args = #[v0] := by cases args; simp_all
  obtain ⟨rfl, rfl⟩ := trodVars_none hV
  have k0 := hval 0 22 v0 rfl rfl
  clear hval hval0 hA0 hV hA
  obtain ⟨zs, hz⟩ := ints_in k0 h0
  exact (walk _ zs W hz).mono fun e W' ⟨he, hb⟩ => ⟨_, he, post_true rfl rfl hread rfl hW hb⟩

/-- IdsApart: true for every input; the arguments stay. -/
theorem proved : Rows.IdsApartSaid :=
  OpenClaim.holds_of_wide 3 Try.f3 rfl rfl rfl rfl rfl rfl rfl ⟨rfl, rfl, rfl, rfl, rfl⟩ rfl rfl rfl rfl rfl (by kernel_rfl) Try.func3 (by kernel_rfl)
    (of_decide_eq_true (by kernel_rfl)) (by unfold Func.isWrapper; first | (rw [if_pos (by decide +kernel)]; kernel_rfl) | (rw [if_neg (by decide +kernel)]; exact ⟨rfl, rfl⟩))
    (fun os started H enc _ => lifted os started H enc)
end Go.Proofs.Ytjkbenghgbigdaa.idsApart
