/-
  Two pools beside each other, and lists of names beside them; a slice of ints that came in. No condition.
  Chapter 16: the program's desk: Reserve, Lapse, Tick, Alive, Waiting, waits. No condition.
-/
import Derived.Test.YtbghjklnlhoklaaMk8
import Derived.Test.YtbghjklnlhoklaaMk3
import Derived.ChangeSlices
import Derived.Test.YtbghjklnlhoklaaMk11
import Derived.Test.YtbghjklnlhoklaaLapB
namespace Go.Proofs.Ytbghjklnlhoklaa
open Go.RowKit
structure St2 (w0 W : World) (L : Lay) (M : List Sh) (p : Nat) (L' : Lay) (M' : List Sh) (p' : Nat) : Prop where
  a : St w0 W L M p
  b : St w0 W L' M' p'
  ap : ∀ b, L.own b → ¬ L'.own b

theorem St2.swap {w0 W : World} {L L' : Lay} {M M' : List Sh} {p p' : Nat} (h : St2 w0 W L M p L' M' p') : St2 w0 W L' M' p' L M p := ⟨h.b, h.a, fun b h1 h2 => h.ap b h2 h1⟩
theorem St2.grow {w0 W W' : World} {L L' : Lay} {M M' : List Sh} {p p' : Nat} (h : St2 w0 W L M p L' M' p') (hb : Below W.heap.size W W') : St2 w0 W' L M p L' M' p' := ⟨h.a.grow hb, h.b.grow hb, h.ap⟩
theorem St2.went {w0 W w' : World} {L L' : Lay} {M M' Mn : List Sh} {p p' : Nat} (h : St2 w0 W L M p L' M' p') (hs : Stp W L w' Mn) : ∃ Ln, St2 w0 w' Ln Mn p L' M' p' ∧ Chg W w' L.own ∧ ∀ b, Ln.own b → L.own b ∨ W.heap.size ≤ b := by
  obtain ⟨Ln, s, c, o⟩ := h.a.went hs
  refine ⟨Ln, ⟨s, ⟨h.b.hP, h.b.hp.chg c fun b h1 h2 => h.ap b h2 h1, s.hb, h.b.ho⟩, fun b h1 h2 => ?_⟩, c, o⟩
  rcases o b h1 with h3 | h3
  · exact h.ap b h3 h2
  · have := h.b.hp.lt h2; omega

/-- A list of names of the call's own, beside whatever blocks F. -/
structure Lst (w0 W : World) (F : Nat → Prop) (v : Value) (l : List Id3) : Prop where
  sl : Sl W 33 3 v l.length (idCells l)
  ap : ∀ g, v.ownBlock = some g → w0.heap.size ≤ g ∧ ¬ F g

theorem Lst.nil (w0 W : World) (F : Nat → Prop) : Lst w0 W F (.slice none 0 0) [] := ⟨⟨by simp [idCells], .inl ⟨rfl, rfl⟩⟩, fun g hg => by cases hg⟩
theorem Lst.grow {w0 W W' : World} {F : Nat → Prop} {v : Value} {l : List Id3} (h : Lst w0 W F v l) (hb : Below W.heap.size W W') : Lst w0 W' F v l := ⟨h.sl.keep fun g hg => hb.block g (h.sl.lt hg), h.ap⟩
theorem Lst.went {w0 W w' : World} {F F' : Nat → Prop} {G : Nat → Prop} {v : Value} {l : List Id3} (h : Lst w0 W F v l) (hc : Chg W w' G) (hG : ∀ b, G b → F b) (ho : ∀ b, F' b → F b ∨ W.heap.size ≤ b) : Lst w0 w' F' v l :=
  ⟨h.sl.keep fun g hg => hc.block g (h.sl.lt hg) fun e => (h.ap g hg).2 (hG g e), fun g hg => ⟨(h.ap g hg).1, fun e => (ho g e).elim (h.ap g hg).2 fun h' => absurd (h.sl.lt hg) (by omega)⟩⟩
theorem Lst.snoc {w0 W w1 : World} {F : Nat → Prop} {v v' : Value} {l : List Id3} {s i g : Int} (h : Lst w0 W F v l) (h0 : w0.heap.size ≤ W.heap.size) (hF : ∀ b, F b → b < W.heap.size) (hs : Sl w1 33 3 v' (l.length + 1) (idCells l ++ [.int .i64 s, .int .i64 i, .int .i64 g]))
    (ho : v'.ownBlock = v.ownBlock ∨ ∃ g, v'.ownBlock = some g ∧ W.heap.size ≤ g) : Lst w0 w1 F v' (l ++ [(s, i, g)]) := by
  refine ⟨by rw [idCells_app, idCells_one]; simpa using hs, fun q hq => ?_⟩
  rcases ho with e | ⟨g', e, hg'⟩
  · exact h.ap q (by rw [← e]; exact hq)
  · rw [e] at hq
    cases hq
    exact ⟨by omega, fun h => by have := hF q h; omega⟩

/-- The names' cells. -/
theorem Lst.cells {w0 W : World} {F : Nat → Prop} {v : Value} {l : List Id3} (h : Lst w0 W F v l) : ∃ p cap, v = .slice p l.length cap ∧ l.length ≤ maxLen ∧ ∀ k (x : Id3), l[k]? = some x → ∃ b off, p = some ⟨b, off, none⟩ ∧ l.length ≤ cap ∧
    W.cell? ⟨b, off + k * 3, none⟩ = some (.int .i64 x.1) ∧ W.cell? ⟨b, off + k * 3 + 1, none⟩ = some (.int .i64 x.2.1) ∧ W.cell? ⟨b, off + k * 3 + 2, none⟩ = some (.int .i64 x.2.2) := by
  have key : ∀ (l : List Id3) (k : Nat) (x : Id3), l[k]? = some x → (idCells l)[k * 3]? = some (.int .i64 x.1) ∧ (idCells l)[k * 3 + 1]? = some (.int .i64 x.2.1) ∧ (idCells l)[k * 3 + 2]? = some (.int .i64 x.2.2) := by
    intro l
    induction l with
    | nil => intro k x hx; cases hx
    | cons y l ih =>
      intro k x hx
      cases k with
      | zero => simp at hx; subst hx; simp [idCells]
      | succ k =>
        obtain ⟨h1, h2, h3⟩ := ih k x (by simpa using hx)
        have e : idCells (y :: l) = .int .i64 y.1 :: .int .i64 y.2.1 :: .int .i64 y.2.2 :: idCells l := by simp [idCells]
        rw [e, show (k + 1) * 3 = k * 3 + 1 + 1 + 1 by omega]
        exact ⟨by simpa using h1, by simpa using h2, by simpa using h3⟩
  obtain ⟨_, ⟨hv, h0⟩ | ⟨blk, off, cap, cur, rfl, hb, hn, hc, hsz, hr⟩⟩ := h.sl
  · exact ⟨none, 0, by rw [hv, h0], by omega, fun k x hx => by have := (List.getElem?_eq_some_iff.1 hx).1; omega⟩
  · refine ⟨_, cap, rfl, by omega, fun k x hx => ⟨blk, off, rfl, hn, ?_⟩⟩
    obtain ⟨h1, h2, h3⟩ := key l k x hx
    have r1 := hr _ _ h1
    have r2 := hr _ _ h2
    have r3 := hr _ _ h3
    rw [show off + (k * 3 + 1) = off + k * 3 + 1 by omega] at r2
    rw [show off + (k * 3 + 2) = off + k * 3 + 2 by omega] at r3
    exact ⟨by simp [World.cell?, hb, r1], by simp [World.cell?, hb, r2], by simp [World.cell?, hb, r3]⟩

/-- A slice of ints that came in: so many, and its cells. -/
def IntsIn (w : World) (v : Value) (zs : List Int) : Prop := ∃ p cap, v = .slice p zs.length cap ∧ zs.length ≤ maxLen ∧ (∀ z ∈ zs, (-9223372036854775808 ≤ z ∧ z ≤ 9223372036854775807)) ∧ ∀ k, k < zs.length → ∃ b off, p = some ⟨b, off, none⟩ ∧ zs.length ≤ cap ∧ b < w.heap.size ∧ w.cell? ⟨b, off + k, none⟩ = some (.int .i64 (zs.getD k 0))

set_option maxRecDepth 100000 in
theorem ints_in {H : Type} {enc : TypeId × Value → H} {W : World} {base b0 : Nat} {spare : Nat → Bool} {held : Bool} {r : Reach} {v : Value} {d : DataW H} {p : List MemPlace} (hv : Value.okWide Try.prog W r b0 67 v) (h : DataW.Trod enc Try.prog W base spare held 67 v d p) : ∃ zs, IntsIn W v zs := by
  obtain ⟨a, len, cap, rfl⟩ := Go.WideShapes.okWide_slice Try.underlying67 hv
  obtain ⟨fuel, hf⟩ := h
  have hf' : DataW.trod enc Try.prog W base spare held fuel 67 [.slice a len cap] = some (d, p) := by simpa [Value.cells] using hf
  rcases Go.ChangeShapes.open_ints Try.underlying67 Try.underlying3 cells_int hf' with ⟨h0, _⟩ | ⟨⟨b, off, sp⟩, len', cap', zs, h0, _, hl, hm, hz, _, hc, hw⟩
  · simp at h0
    obtain ⟨rfl, rfl, rfl⟩ := h0
    exact ⟨[], none, 0, rfl, by simp [maxLen], by simp, fun k hk => by simp at hk⟩
  · simp only [List.cons.injEq, and_true, Value.slice.injEq] at h0
    obtain ⟨rfl, rfl, rfl⟩ := h0
    have hle : len ≤ zs.length := by rw [hz]; split <;> omega
    have e1 : (zs.take len).length = len := by simp [hle]
    refine ⟨zs.take len, some ⟨b, off, sp⟩, cap, by rw [e1], by rw [e1]; omega, fun z hz => i64_of_wf (hw z (List.mem_of_mem_take hz)), fun k hk => ?_⟩
    rw [e1] at hk
    have hck := hc k (by omega)
    have hc0 := hc 0 (by omega)
    have hsp : sp = none := by
      simp only [Addr.add, if_true] at hc0
      cases sp with
      | none => rfl
      | some q =>
        simp only [World.cell?, Option.isSome_some, if_true] at hc0
        split at hc0 <;> cases hc0
    subst hsp
    have ea : Addr.add ⟨b, off, none⟩ k = ⟨b, off + k, none⟩ := by unfold Addr.add; split <;> simp_all
    rw [ea] at hck
    refine ⟨b, off, rfl, by rw [e1]; exact hl, World.block_lt_of_cell? W _ hck, ?_⟩
    rw [hck]
    simp [List.getD, hk]
end Go.Proofs.Ytbghjklnlhoklaa
namespace Go.Proofs.Ytbghjklnlhoklaa
open Go.RowKit

section
variable (w : World) (d : DLay) (c : Cfg) (D : Dk) (h : DeskAt w d c D)
include h
theorem dreserve_any (k i : Int) : Calls Try.prog 14 #[.pointer (some ⟨d.p, 0, none⟩), .int .i64 k, .int .i64 i] w fun e w' => e = .returned (.int .i64 (reservedF D k i).1) ∧ DStp w d c w' (reservedF D k i).2 := by
  have c1 := h.cell 1
  simp [deskC] at c1
  have HR := Lib.hid (reserve_any w d.L D.M k i h.pool)
  have HP := Lib.hid (fun w' (hs : Stp w d.L w' (reserveF D.M k i).2) => DStp.pool h hs)
  clear h
  go_enter Try.func14, Try.ntmps14
  go_wp2_with (go_at_call 43; refine HR.out.mono ?_; rintro e w' ⟨rfl, hs⟩)
  go_ret
  exact ⟨rfl, HP.out _ hs⟩
theorem dlapse_any : Calls Try.prog 32 #[.pointer (some ⟨d.p, 0, none⟩)] w fun e w' => e = .returned (.int .i64 (lapsedF D).1) ∧ DStp w d c w' (lapsedF D).2 := by
  have c1 := h.cell 1
  simp [deskC] at c1
  have HR := Lib.hid (lapse_any w d.L D.M h.pool)
  have HP := Lib.hid (fun w' (hs : Stp w d.L w' (lapseF D.M).2) => DStp.pool h hs)
  clear h
  go_enter Try.func32, Try.ntmps32
  go_wp2_with (go_at_call 65; refine HR.out.mono ?_; rintro e w' ⟨rfl, hs⟩)
  go_ret
  exact ⟨rfl, HP.out _ hs⟩
theorem dtick_any : Calls Try.prog 24 #[.pointer (some ⟨d.p, 0, none⟩)] w fun e w' => e = .returned (.tuple #[.int .i64 D.t, .bool D.op]) ∧ Below w.heap.size w w' := by
  have c3 := h.cell 3
  have c4 := h.cell 4
  simp [deskC] at c3 c4
  have hlt := lt_of_heap h.box
  clear h
  go_enter Try.func24, Try.ntmps24
  go_wp2_with fail
  refine wp_region_more (by kernel_rfl) (by kernel_rfl) ?_
  repeat (go_big_quiet_step (fail))
  refine wpQuiet_nil ?_
  rintro _ ⟨pn, rfl⟩
  go_wp2_with fail
  go_ret2
  exact ⟨rfl, (by repeat' (first | (with_reducible exact Below.refl _ _) | (with_reducible assumption) | (with_reducible refine below_drewN ?_ _) | (with_reducible refine below_more _ _ _ ?_ ?_) | (with_reducible refine Below.alloc ?_ ?_ _) | (with_reducible refine Below.drew ?_) | (with_reducible refine Below.setCell ?_ ?_ _) | go_size))⟩
theorem dalive_any : Calls Try.prog 26 #[.pointer (some ⟨d.p, 0, none⟩)] w fun e w' => ∃ v, e = .returned v ∧ ListAt w w' v (listF D.M) := by
  have c1 := h.cell 1
  simp [deskC] at c1
  have HR := Lib.hid (list_any w d.L D.M h.pool)
  clear h
  go_enter Try.func26, Try.ntmps26
  go_wp2_with (go_at_call 53; refine HR.out.mono ?_; rintro e w' ⟨v, rfl, hl⟩)
  go_ret
  exact ⟨_, rfl, hl⟩
theorem DeskAt.qc (ho : CfgOk c) : D.q.length ≤ 64 := by have := h.qn; have := ho.q1; omega
theorem dwaiting_any (ho : CfgOk c) : Calls Try.prog 18 #[.pointer (some ⟨d.p, 0, none⟩)] w fun e w' => ∃ v, e = .returned v ∧ RNew cmC 37 16 w w' v D.q := by
  have c2 := h.cell 2
  simp [deskC] at c2
  have HR := Lib.hid (cloneCm_any d.qv D.q w (RIn.of_sl h.q) (by have := h.qc _ _ _ _ ho; omega))
  obtain ⟨p, cap, hv⟩ := sl_frm h.q
  rw [hv] at c2 HR
  clear h hv
  go_enter Try.func18, Try.ntmps18
  go_wp2_with fail
  refine HR.out.mono ?_
  rintro e w' ⟨v, rfl, hl⟩
  go_wp2_with fail
  go_ret
  exact ⟨_, rfl, hl⟩
theorem dwaits_any (s i g : Int) : Calls Try.prog 40 #[.pointer (some ⟨d.p, 0, none⟩), .agg #[.int .i64 s, .int .i64 i, .int .i64 g]] w fun e w' => e = .returned (.bool (endsF D.q s i g)) ∧ Below w.heap.size w w' := by
  have c2 := h.cell 2
  simp [deskC] at c2
  have hlt := lt_of_heap h.box
  have HR := Lib.hid (fun W (hW : Below w.heap.size w W) B a1 a2 a3 a4 => contCm_any s i g D.q d.qv B W (RIn.of_sl (h.q.keep fun g hg => hW.block g (sl_lt h.q hg))) a1 a2 a3 a4)
  obtain ⟨p, cap, hv⟩ := sl_frm h.q
  rw [hv] at c2 HR
  obtain ⟨z0, z1, z2⟩ := ltz hlt
  clear h hv
  go_enter Try.func40, Try.ntmps40
  go_wp2_with fail
  refine (HR.out _ (by repeat' (first | (with_reducible exact Below.refl _ _) | (with_reducible assumption) | (with_reducible refine below_drewN ?_ _) | (with_reducible refine below_more _ _ _ ?_ ?_) | (with_reducible refine Below.alloc ?_ ?_ _) | (with_reducible refine Below.drew ?_) | (with_reducible refine Below.setCell ?_ ?_ _) | go_size)) _ (by first | (simp; done) | (simp; omega)) (by simp [go_sem]) (by simp [go_sem]) (by simp [go_sem])).mono ?_
  rintro e w' ⟨rfl, hb⟩
  obtain ⟨d, os, rfl⟩ := more_of hb; clear hb
  go_wp2_with fail
  go_ret
  exact ⟨rfl, (by repeat' (first | (with_reducible exact Below.refl _ _) | (with_reducible assumption) | (with_reducible refine below_drewN ?_ _) | (with_reducible refine below_more _ _ _ ?_ ?_) | (with_reducible refine Below.alloc ?_ ?_ _) | (with_reducible refine Below.drew ?_) | (with_reducible refine Below.setCell ?_ ?_ _) | go_size))⟩
end
end Go.Proofs.Ytbghjklnlhoklaa
