/-
  Chapter texts Boxed RfC GhP GhA GhB GhC ShE GhD GhE GhF GhG GhI RegX GhM GhU TkA: what the claim reaches of them. Conditions stand at each theorem.
-/
import Derived.Lib.SliceRun
import Derived.Shelf.SlicesQ.IndexFunc
import Derived.StillTail
import Derived.Deep.RegionHeld3
import Derived.Test.YtoimjjhopljdmaaGreatY01
import Derived.Test.YtoimjjhopljdmaaGreatY10
import Derived.Test.YtoimjjhopljdmaaGreatY13
import Derived.Test.YtoimjjhopljdmaaGreatY12
import Derived.Test.YtoimjjhopljdmaaGreatY02
import Derived.Test.YtoimjjhopljdmaaGreatY07
namespace Go.Proofs.YtoimjjhopljdmaaGreat
open Go.RowKit

def Boxed (W0 : World) (n : Nat) (arr : Array Value) (T : TypeId) (s : Value) (wc : World) : Prop :=
  ∃ d1 os1 d2 os2, s = .pointer (some ⟨n + Array.size os1, 0, none⟩) ∧ wc = more ((more W0 d1 os1).alloc (.cells arr T)) d2 os2

def Grew (W0 X : World) : Prop := ∃ d os, X = more W0 d os

theorem grew_refl (W0 : World) : Grew W0 W0 := ⟨W0.drawn, #[], by simp [more]⟩
theorem grew_redrawn (X : World) (d d' : Nat) (os : Array Obj) : Grew (more X d os) (more X d' os) := ⟨d', #[], by rw [more_more]; simp⟩
theorem grew_drew {W0 X : World} (h : Grew W0 X) : Grew W0 X.drew := by
  obtain ⟨d, os, rfl⟩ := h
  exact ⟨d + 1, os, rfl⟩
theorem grew_more {W0 X : World} (d : Nat) (os : Array Obj) (h : Grew W0 X) : Grew W0 (more X d os) := by
  obtain ⟨d1, os1, rfl⟩ := h
  exact ⟨d, os1 ++ os, more_more _ _ _ _ _⟩

theorem boxed_end {W0 X : World} {arr : Array Value} {T : TypeId} {s : Value} {n : Nat} (h : Grew W0 X) (hs : s = .pointer (some ⟨X.heap.size, 0, none⟩)) (hn : W0.heap.size = n) : Boxed W0 n arr T s (X.alloc (.cells arr T)) := by
  obtain ⟨d, os, rfl⟩ := h
  refine ⟨d, os, d, #[], by rw [hs, more_size, hn], ?_⟩
  simp [more, World.alloc]
theorem boxed_drew {W0 wc : World} {arr : Array Value} {T : TypeId} {s : Value} {n : Nat} (h : Boxed W0 n arr T s wc) : Boxed W0 n arr T s wc.drew := by
  obtain ⟨d1, os1, d2, os2, rfl, rfl⟩ := h
  exact ⟨d1, os1, d2 + 1, os2, rfl, rfl⟩
theorem boxed_more {W0 wc : World} {arr : Array Value} {T : TypeId} {s : Value} {n : Nat} (d : Nat) (os : Array Obj) (h : Boxed W0 n arr T s wc) : Boxed W0 n arr T s (more wc d os) := by
  obtain ⟨d1, os1, d2, os2, rfl, rfl⟩ := h
  exact ⟨d1, os1, d, os2 ++ os, rfl, more_more _ _ _ _ _⟩

end Go.Proofs.YtoimjjhopljdmaaGreat
namespace Go.Proofs.YtoimjjhopljdmaaGreat
open Go.RowKit

theorem heap_more (w : World) (d : Nat) (os : Array Obj) (b : Nat) (h : b < w.heap.size) : (more w d os).heap[b]? = w.heap[b]? := by simp [more, Array.getElem?_append, h]
def TwoW (w : World) (n : Nat) (q0 q1 q2 q3 a b c d : Int) (wx : World) : Prop :=
  Below w.heap.size w wx ∧ w.heap.size + 2 < n ∧ wx.heap[w.heap.size + 1]? = some (.cells #[.int .i64 q0, .int .i64 q1, .int .i64 q2, .int .i64 q3] 54) ∧ wx.heap[w.heap.size + 2]? = some (.cells #[.int .i64 0, .int .i64 0, .int .i64 0, .int .i64 0] 54) ∧ wx.heap[n]? = some (.cells #[.int .i64 a, .int .i64 b, .int .i64 c, .int .i64 d] 54)

theorem TwoW.more {w wx : World} {n : Nat} {q0 q1 q2 q3 a b c d : Int} (k : Nat) (os : Array Obj) (h : TwoW w n q0 q1 q2 q3 a b c d wx) : TwoW w n q0 q1 q2 q3 a b c d (more wx k os) := by
  obtain ⟨hb, h2, hq, hz, hn⟩ := h
  have hn' := (Array.getElem?_eq_some_iff.1 hn).1
  exact ⟨bg, h2, (heap_more _ _ _ _ (by omega)).trans hq, (heap_more _ _ _ _ (by omega)).trans hz, (heap_more _ _ _ _ hn').trans hn⟩

theorem TwoW.set0 {w wx : World} {n : Nat} {q0 q1 q2 q3 a b c d : Int} (v : Int) (h : TwoW w n q0 q1 q2 q3 a b c d wx) : TwoW w n q0 q1 q2 q3 v b c d (wx.setCell ⟨n, 0, none⟩ (.int .i64 v)) := by
  obtain ⟨hb, h2, hq, hz, hn⟩ := h
  refine ⟨hb.setCell (by simp; omega) _, h2, ?_, ?_, ?_⟩
  · rw [Below.heap_setCell _ _ _ _ (by simp; omega)]; exact hq
  · rw [Below.heap_setCell _ _ _ _ (by simp; omega)]; exact hz
  · simp [World.setCell, Array.getElem?_modify, hn]
theorem TwoW.set2 {w wx : World} {n : Nat} {q0 q1 q2 q3 a b c d : Int} (v : Int) (h : TwoW w n q0 q1 q2 q3 a b c d wx) : TwoW w n q0 q1 q2 q3 a b v d (wx.setCell ⟨n, 2, none⟩ (.int .i64 v)) := by
  obtain ⟨hb, h2, hq, hz, hn⟩ := h
  refine ⟨hb.setCell (by simp; omega) _, h2, ?_, ?_, ?_⟩
  · rw [Below.heap_setCell _ _ _ _ (by simp; omega)]; exact hq
  · rw [Below.heap_setCell _ _ _ _ (by simp; omega)]; exact hz
  · simp [World.setCell, Array.getElem?_modify, hn]
theorem TwoW.set3 {w wx : World} {n : Nat} {q0 q1 q2 q3 a b c d : Int} (v : Int) (h : TwoW w n q0 q1 q2 q3 a b c d wx) : TwoW w n q0 q1 q2 q3 a b c v (wx.setCell ⟨n, 3, none⟩ (.int .i64 v)) := by
  obtain ⟨hb, h2, hq, hz, hn⟩ := h
  refine ⟨hb.setCell (by simp; omega) _, h2, ?_, ?_, ?_⟩
  · rw [Below.heap_setCell _ _ _ _ (by simp; omega)]; exact hq
  · rw [Below.heap_setCell _ _ _ _ (by simp; omega)]; exact hz
  · simp [World.setCell, Array.getElem?_modify, hn]

theorem TwoW.cells {w wx : World} {n : Nat} {q0 q1 q2 q3 a b c d : Int} (h : TwoW w n q0 q1 q2 q3 a b c d wx) :
    (∀ j, wx.cell? ⟨w.heap.size + 1, j, none⟩ = (#[.int .i64 q0, .int .i64 q1, .int .i64 q2, .int .i64 q3] : Array Value)[j]?) ∧ (∀ j, wx.cell? ⟨w.heap.size + 1 + 1, j, none⟩ = (#[.int .i64 0, .int .i64 0, .int .i64 0, .int .i64 0] : Array Value)[j]?) ∧ (∀ j, wx.cell? ⟨n, j, none⟩ = (#[.int .i64 a, .int .i64 b, .int .i64 c, .int .i64 d] : Array Value)[j]?) ∧ n < wx.heap.size ∧ w.heap.size + 1 + 1 < wx.heap.size ∧ w.heap.size + 1 < wx.heap.size ∧ (∀ o, wx.frozen? ⟨n, o, none⟩ = false) ∧ (∀ o, wx.frozen? ⟨w.heap.size + 1 + 1, o, none⟩ = false) := by
  obtain ⟨hb, h2, hq, hz, hn⟩ := h
  have := (Array.getElem?_eq_some_iff.1 hn).1
  exact ⟨fun j => by simp [World.cell?, hq], fun j => by simp [World.cell?, hz], fun j => by simp [World.cell?, hn], this, by omega, by omega, fun o => by simp [World.frozen?, hn], fun o => by simp [World.frozen?, hz]⟩


end Go.Proofs.YtoimjjhopljdmaaGreat
namespace Go.Proofs.YtoimjjhopljdmaaGreat
open Go.RowKit
theorem rSort_pair (l : List Bun) : (rSort l).Pairwise fun a b => bef b a = false := by
  obtain ⟨T, h1, h2, h3⟩ := rSort_tag l l.length (Nat.le_refl _)
  rw [List.take_length] at h1
  rw [← h1, List.pairwise_map]
  refine h3.imp fun {a b} h => ?_
  rw [bef_cmp]
  have hn := cmpBun_ok.neg b.1 a.1
  have hz := cmpBun_ok.zero b.1 a.1
  rcases (ltT_iff a b).1 h with h | ⟨h, _⟩
  · exact decide_eq_false (by have := cmpBun_ok.neg a.1 b.1; omega)
  · exact decide_eq_false (by omega)

end Go.Proofs.YtoimjjhopljdmaaGreat
namespace Go.Proofs.YtoimjjhopljdmaaGreat
open Go.RowKit

def gapZ (c : Cfg) (z x y : Int) : Int := gapF (zoneF c z).1 (zoneF c z).2.1 (zoneF c z).2.2.1 (zoneF c z).2.2.2 x y
def forB (c : Cfg) (z : Int) (b : Bun) : Bool := !(ofF c b.x b.y == z) && decide (gapZ c z b.x b.y ≤ c.radius)
end Go.Proofs.YtoimjjhopljdmaaGreat
namespace Go.Proofs.YtoimjjhopljdmaaGreat
open Go.RowKit

theorem BNew.none {w w' : World} (h : Below w.heap.size w w') : BNew w w' (.slice Option.none 0 0) [] := ⟨(BNew.nil w').1, h, fun g hg => by cases hg⟩

end Go.Proofs.YtoimjjhopljdmaaGreat
namespace Go.Proofs.YtoimjjhopljdmaaGreat
open Go.RowKit

theorem BNew.since {w0 w w' : World} {v : Value} {l : List Bun} (h : BNew w w' v l) (hb : Below w0.heap.size w0 w) : BNew w0 w' v l :=
  ⟨h.1, hb.trans (h.2.1.mono hb.size), fun g hg => Nat.le_trans hb.size (h.2.2 g hg)⟩
end Go.Proofs.YtoimjjhopljdmaaGreat
namespace Go.Proofs.YtoimjjhopljdmaaGreat
open Go.RowKit

def hitEq (a b : Hit) : Bool := decide (a = b)
@[go_sem high] theorem run_eql_hit (s i g n s' i' g' n' : Int) (W : World) :
    (binOp .eql 149 (.agg #[.int .i64 s, .int .i64 i, .int .i64 g, .int .i64 n]) (.agg #[.int .i64 s', .int .i64 i', .int .i64 g', .int .i64 n'])).run Tryz.prog W = .ok (.bool (hitEq ⟨s, i, g, n⟩ ⟨s', i', g', n'⟩)) W := by
  rw [run_eql_struct]
  by_cases h1 : s = s'
  · by_cases h2 : i = i'
    · by_cases h3 : g = g'
      · by_cases h4 : n = n' <;> simp [go_sem, hitEq, h1, h2, h3, h4]
      · simp [go_sem, hitEq, h1, h2, h3]
    · simp [go_sem, hitEq, h1, h2]
  · simp [go_sem, hitEq, h1]
@[go_sem high] theorem run_neq_hit (s i g n s' i' g' n' : Int) (W : World) :
    (binOp .neq 149 (.agg #[.int .i64 s, .int .i64 i, .int .i64 g, .int .i64 n]) (.agg #[.int .i64 s', .int .i64 i', .int .i64 g', .int .i64 n'])).run Tryz.prog W = .ok (.bool (!(hitEq ⟨s, i, g, n⟩ ⟨s', i', g', n'⟩))) W := by
  have h := run_eql_hit s i g n s' i' g' n' W
  rw [run_eql_struct] at h
  rw [run_neq_struct]
  generalize (Op.equalIn _ _ _ _).run Tryz.prog W = r at *
  cases r with
  | ok b w => simp only [Result.andThen_ok] at *; cases b <;> simp_all
  | halt x w => simp [Result.andThen] at h


theorem BIn.take {w : World} {p : Option Addr} {n cap : Nat} {l : List Bun} (h : BIn w (.slice p n cap) l) (k : Nat) (hk : k ≤ n) : BIn w (.slice p k cap) (l.take k) := by
  obtain ⟨p', cap', hv, h1, h2, h3, h4⟩ := h
  simp only [Value.slice.injEq] at hv
  obtain ⟨rfl, rfl, rfl⟩ := hv
  have e : (l.take k).length = k := by simp; omega
  refine ⟨p, cap, by rw [e], by rw [e]; omega, h2, by rw [e]; omega, fun hn => ?_⟩
  obtain ⟨blk, off, rfl, h5, h6⟩ := h4 (fun e => hn (by rw [e]; simp))
  refine ⟨blk, off, rfl, h5, fun t u hu => ?_⟩
  obtain ⟨b, hb, hbu⟩ := bunCells_split _ t u hu
  have ht : t / 11 < k := by have := (List.getElem?_eq_some_iff.1 hb).1; omega
  rw [List.getElem?_take_of_lt ht] at hb
  have e2 := bunCells_get l (t / 11) (t % 11) b hb (Nat.mod_lt _ (by omega))
  rw [show t / 11 * 11 + t % 11 = t by omega] at e2
  exact h6 t u (e2.trans hbu)


end Go.Proofs.YtoimjjhopljdmaaGreat
namespace Go.Proofs.YtoimjjhopljdmaaGreat
open Go.RowKit

theorem wpList_append_bins (w0 w : World) {ops : Array Oper} {rest : List Oper} {o : Oper} {a : Act} {Q : Exit → Act → World → Prop}
    (hg : o.guard = none) (s x : Operand) (hop : o.op = Op.call { callee := Callee.builtin Builtin.append, args := #[s, x], argTypes := #[37, 37] })
    (v vx : Value) (l0 l : List Bun) (hv : a.eval s = v) (hsl : BNew w0 w v l0) (hx : a.eval x = vx) (hb : BIn w vx l) (h0 : l0.length ≤ 1000000) (hl : l.length ≤ 1000000)
    (hK : ∀ v' w', BNew w0 w' v' (l0 ++ l) → wpList Tryz.prog ops Q rest (a.put o.dst v') w') :
    wpList Tryz.prog ops Q (o :: rest) a w := by
  obtain ⟨i0, hi0, hz0, hz1, hz2⟩ := info_parts info_bunJ
  obtain ⟨p, cap, rfl, h1, h2, h3, h4⟩ := hb
  by_cases hn : l = []
  · subst hn
    obtain ⟨q, c, rfl⟩ := sl_frm hsl.1
    refine wpList_append_zero hg s x 37 hop 32 i0 Tryz.underlying37 hi0 _ _ _ _ _ hv hx ?_ (hK _ _ (by simpa using hsl))
    obtain ⟨_, ⟨h, h0⟩ | ⟨g, off, cap', cur, h, hb, hn, hc, hsz, hr⟩⟩ := hsl.1
    · simp only [Value.slice.injEq] at h; omega
    · simp only [Value.slice.injEq] at h; omega
  · obtain ⟨blk, off, rfl, h5, h6⟩ := h4 hn
    have hn0 : 0 < l.length := List.length_pos_iff.2 hn
    refine wpList_append_sl w hg s x 37 hop 32 i0 _ 11 88 Tryz.underlying37 hi0 hz0 hz1 hz2 rfl (by omega) v l0.length (bunCells l0) hv hsl.1 ⟨blk, off, none⟩ l.length cap (bunCells l) hx (bunCells_len l) (fun j u hj => ?_) (bunCells_one l) hn0 (by unfold maxLen; omega) (by omega) (fun v' w' hs ht ho => hK v' w' ⟨?_, ?_, ?_⟩)
    · rw [show Addr.add ⟨blk, off, none⟩ j = ⟨blk, off + j, none⟩ from by unfold Addr.add; split <;> simp_all]
      exact h6 j u hj
    · rw [bunCells_app, List.length_append]; exact hs
    · exact hsl.2.1.trans ⟨ht.os, ht.tape, ht.output, ht.size, fun k hk => ht.block k (by have := hsl.2.1.size; omega) fun e => by have := hsl.2.2 k e.symm; omega⟩
    · intro q hq
      rcases ho with e | ⟨g', e, hg'⟩
      · exact hsl.2.2 q (by rw [← e]; exact hq)
      · rw [e] at hq
        cases hq
        exact Nat.le_trans hsl.2.1.size hg'

end Go.Proofs.YtoimjjhopljdmaaGreat
namespace Go.Proofs.YtoimjjhopljdmaaGreat
open Go.RowKit

def KeepRow (p : Int → Bool) (zs r : List Int) (i j : Nat) : Prop := r.length = zs.length ∧ i < j ∧ r.take i = (zs.take j).filter (fun x => !p x) ∧ r.drop j = zs.drop j
theorem KeepRow.skip {p : Int → Bool} {zs r : List Int} {i j : Nat} {x : Int} (h : KeepRow p zs r i j) (hx : zs[j]? = some x) (hp : p x = true) : KeepRow p zs r i (j + 1) := by
  obtain ⟨h1, h2, h3, h4⟩ := h
  have hj := (List.getElem?_eq_some_iff.1 hx).1
  refine ⟨h1, by omega, ?_, ?_⟩
  · rw [List.take_succ_eq_append_getElem hj, List.filter_append, (List.getElem?_eq_some_iff.1 hx).2]
    simp [hp, h3]
  · have := congrArg (List.drop 1) h4
    simpa [List.drop_drop, Nat.add_comm] using this
theorem KeepRow.put {p : Int → Bool} {zs r : List Int} {i j : Nat} {x : Int} (h : KeepRow p zs r i j) (hx : zs[j]? = some x) (hp : p x = false) : KeepRow p zs (r.set i x) (i + 1) (j + 1) := by
  obtain ⟨h1, h2, h3, h4⟩ := h
  have hj := (List.getElem?_eq_some_iff.1 hx).1
  have hi : i < r.length := by omega
  refine ⟨by simpa using h1, by omega, ?_, ?_⟩
  · rw [List.take_succ_eq_append_getElem hj, List.filter_append, (List.getElem?_eq_some_iff.1 hx).2, ← h3]
    rw [List.take_succ_eq_append_getElem (by simpa using hi)]
    simp [hp, List.take_set_of_le]
  · rw [List.drop_set_of_lt (by omega)]
    have := congrArg (List.drop 1) h4
    simpa [List.drop_drop, Nat.add_comm] using this
end Go.Proofs.YtoimjjhopljdmaaGreat
namespace Go.Proofs.YtoimjjhopljdmaaGreat
open Go.RowKit

theorem Turned.of_bel {w w' : World} {b : Option Nat} (h : Below w.heap.size w w') : Turned w w' b := ⟨h.os, h.tape, h.output, h.size, fun k hk _ => h.block k hk⟩
theorem Turned.then {w w1 w2 : World} {b : Option Nat} (h : Turned w w1 b) (h2 : Turned w1 w2 b) : Turned w w2 b :=
  ⟨h2.os.trans h.os, h2.tape.trans h.tape, h2.output.trans h.output, Nat.le_trans h.size h2.size, fun k hk hne => (h2.block k (Nat.lt_of_lt_of_le hk h.size) hne).trans (h.block k hk hne)⟩
end Go.Proofs.YtoimjjhopljdmaaGreat
namespace Go.Proofs.YtoimjjhopljdmaaGreat
open Go.RowKit Go.Shelf

structure Gh where
  f : Int
  t : Int
  p : Option Addr
  n : Nat
  c : Nat
deriving Inhabited
structure Sta where
  ep : Int
  t : Int
  po : Option Addr
  no : Nat
  co : Nat
  pd : Option Addr
  nd : Nat
  cd : Nat
  pu : Option Addr
  nu : Nat
  cu : Nat
  pi : Option Addr
  ni : Nat
  ci : Nat
  pg : Option Addr
  ng : Nat
  cg : Nat
  nx : Int
def Sta.arr (s : Sta) : Array Value := #[.int .i64 s.ep, .int .i64 s.t, .slice s.po s.no s.co, .slice s.pd s.nd s.cd, .slice s.pu s.nu s.cu, .slice s.pi s.ni s.ci, .slice s.pg s.ng s.cg, .int .i64 s.nx]
end Go.Proofs.YtoimjjhopljdmaaGreat
namespace Go.Proofs.YtoimjjhopljdmaaGreat
open Go.RowKit Go.Shelf

def GhOk (W : World) (L : List Gh) (bl : Gh → List Bun) : Prop := ∀ g ∈ L, BIn W (.slice g.p g.n g.c) (bl g) ∧ (bl g).length ≤ 1000
theorem GhOk.keep {W W' : World} {L : List Gh} {bl : Gh → List Bun} (h : GhOk W L bl) (hb : Below W.heap.size W W') : GhOk W' L bl := fun g hg => ⟨(h g hg).1.keep hb, (h g hg).2⟩
end Go.Proofs.YtoimjjhopljdmaaGreat
namespace Go.Proofs.YtoimjjhopljdmaaGreat
open Go
section
variable {P : Program} {ops : Array Oper} {Q : Exit → Act → World → Prop} {md : Region.Mode} {S : World → Prop} {n : Nat}

def AnyX (P : Program) (md : Region.Mode) (ops : Array Oper) (Q : Exit → Act → World → Prop) (S : World → Prop) (n : Nat) : Nat → Array Bool → Act → World → Prop
  | 0, listed, a, w => Region.ready md ops listed = [] ∧ Q .normal a w
  | fuel + 1, listed, a, w =>
    (Region.ready md ops listed = [] → Q .normal a w) ∧
    ∀ i ∈ Region.ready md ops listed, wpOp P ops Q i (fun a' w' => (i < n → S w') ∧ AnyX P md ops Q S n fuel (listed.setIfInBounds i true) a' w') a w

theorem any_of_x : ∀ (fuel : Nat) (listed : Array Bool) (a : Act) (w : World), AnyX P md ops Q S n fuel listed a w → wpAny P md ops Q fuel listed a w
  | 0, _, _, _, h => h
  | fuel + 1, _, _, _, h => ⟨h.1, fun i hi => wpOp_mono (fun a' w' h' => any_of_x fuel _ a' w' h'.2) (h.2 i hi)⟩

theorem anyX_first {i : Nat} {oi : Oper} {v : Value} (hi : ops[i]? = some oi) (hsel : Region.noSelect ops = true) (hs : Region.sinkB md ops n = true) (hc : Region.chainB md ops n = true) (hn : n < ops.size) (hin : i < n)
    (hQ : ∀ c a w, Q (.panic c) (a.put oi.dst v) w → Q (.panic c) a w) : ∀ (fuel : Nat) (listed : Array Bool) (a : Act) (w : World), HeadInv md ops n listed →
      (∀ j oj, ops[j]? = some oj → j ≠ i → listed.getD j true = false → (∀ e ∈ oj.after, Region.binds md e = true → e.on ≠ i) → oi.apart ops oj = true) →
      i ∈ Region.ready md ops listed → YieldsIf P ops S oi v a → S w →
      AnyX P md ops Q S n fuel (listed.setIfInBounds i true) (a.put oi.dst v) w → AnyX P md ops Q S n (fuel + 1) listed a w
  | fuel, listed, a, w, inv, hfree, hr, hy, hS, H => by
    have hun := (mem_ready.1 hr).1
    refine ⟨fun h => (by rw [h] at hr; cases hr), fun j hj => ?_⟩
    have hjn : j < n := Nat.lt_of_not_le fun h => tail_waits hs hc hn inv _ i rfl hin hun j h hj
    by_cases hji : j = i
    · rw [hji]; exact hy.wpOp hi hS ⟨fun _ => hS, H⟩
    · cases fuel with
      | zero =>
        have := ready_mono hj hji
        rw [H.1] at this
        cases this
      | succ fuel =>
        have h1 := H.2 j (ready_mono hj hji)
        obtain ⟨hjun, oj, hoj, hall⟩ := mem_ready.1 hj
        have hnot : ∀ e ∈ oj.after, Region.binds md e = true → e.on ≠ i := fun e he hb heq => by
          have h2 := hall e he hb
          rw [heq, getD_both hun] at h2
          cases h2
        have h2 := wpOp_putIf hoj (hfree j oj hoj hji hjun hnot) (fun cs b => Region.noSelect_spec hsel i oi cs b hi) (fun cs b => Region.noSelect_spec hsel j oj cs b hoj) hQ hy h1
        refine wpOp_mono (fun a' w' h3 => ⟨h3.2.1, anyX_first hi hsel hs hc hn hin hQ fuel (listed.setIfInBounds j true) a' w' (inv.set hj hjn) (fun k ok hk hki hku hno => ?_) (ready_mono hr (Ne.symm hji)) h3.1 (h3.2.1 hjn) ?_⟩) h2
        · refine hfree k ok hk hki ?_ hno
          by_cases hjk : j = k
          · rw [← hjk]; exact hjun
          · rwa [getD_set_ne true hjk] at hku
        · rw [Array.setIfInBounds_comm _ _ hji]
          exact h3.2.2

def headB (md : Region.Mode) (ops : Array Oper) (n : Nat) (listed : Array Bool) : Bool :=
  listed.size == ops.size && ((List.range ops.size).all fun j => match ops[j]? with
    | some oj => !listed.getD j false || oj.after.all fun e => !Region.binds md e || listed.getD e.on false
    | none => true) && ((List.range ops.size).all fun t => decide (t < n) || !listed.getD t true)
theorem headB_inv {listed : Array Bool} (h : headB md ops n listed = true) : HeadInv md ops n listed := by
  unfold headB at h
  simp only [Bool.and_eq_true, beq_iff_eq] at h
  obtain ⟨⟨h1, h2⟩, h3⟩ := h
  refine ⟨h1, fun j oj hj hl e he hb => ?_, fun t ht hlt => ?_⟩
  · have := List.all_eq_true.1 h2 j (List.mem_range.2 (Array.getElem?_eq_some_iff.1 hj).1)
    rw [hj] at this
    simp only [hl, Bool.not_true, Bool.false_or] at this
    have h4 := Array.all_eq_true_iff_forall_mem.1 this e he
    simpa [hb] using h4
  · have := List.all_eq_true.1 h3 t (List.mem_range.2 hlt)
    simpa [show ¬ t < n by omega] using this

theorem anyX_take {i : Nat} {oi : Oper} {v : Value} {fuel : Nat} {listed : Array Bool} {a : Act} {w : World} (hi : ops[i]? = some oi)
    (hB : (Region.noSelect ops && Region.sinkB md ops n && Region.chainB md ops n && decide (n < ops.size) && decide (i < n) && headB md ops n listed && Region.free md ops listed i && (Region.ready md ops listed).contains i) = true)
    (hQ : ∀ c a w, Q (.panic c) (a.put oi.dst v) w → Q (.panic c) a w) (hy : YieldsIf P ops S oi v a) (hS : S w)
    (h : AnyX P md ops Q S n fuel (listed.setIfInBounds i true) (a.put oi.dst v) w) : AnyX P md ops Q S n (fuel + 1) listed a w := by
  simp only [Bool.and_eq_true, decide_eq_true_eq] at hB
  obtain ⟨⟨⟨⟨⟨⟨⟨b1, b2⟩, b3⟩, b4⟩, b5⟩, b6⟩, b7⟩, b8⟩ := hB
  exact anyX_first hi b1 b2 b3 b4 b5 hQ fuel listed a w (headB_inv b6) (Region.free_spec hi b7) (by simpa using b8) hy hS h

def ReadyX (P : Program) (md : Region.Mode) (ops : Array Oper) (Q : Exit → Act → World → Prop) (S : World → Prop) (n fuel : Nat) (listed : Array Bool) (a : Act) (w : World) (rs : List Nat) : Prop :=
  ∀ i ∈ rs, wpOp P ops Q i (fun a' w' => (i < n → S w') ∧ AnyX P md ops Q S n fuel (listed.setIfInBounds i true) a' w') a w
theorem ReadyX.nil {fuel : Nat} {listed : Array Bool} {a : Act} {w : World} : ReadyX P md ops Q S n fuel listed a w [] := fun _ h => by cases h
theorem ReadyX.cons {fuel : Nat} {listed : Array Bool} {a : Act} {w : World} {i : Nat} {o : Oper} {rs : List Nat} (ho : ops[i]? = some o)
    (h : ∀ K' : Act → World → Prop, Shut (∀ a w, (i < n → S w) → ((i < n → S w) → AnyX P md ops Q S n fuel (listed.setIfInBounds i true) a w) → K' a w) → if Region.wanted o (yielded ops a.tmps) = true then Oper.wp P o a w K' Q else K' (a.put o.dst undef) w)
    (hs : ReadyX P md ops Q S n fuel listed a w rs) : ReadyX P md ops Q S n fuel listed a w (i :: rs) := fun j hj => by
  rcases List.mem_cons.1 hj with rfl | hj
  · exact wpOp_step ho (fun K' hK => h K' (fun a w hS hW => hK a w ⟨hS, hW hS⟩))
  · exact hs j hj
theorem anyX_ready {rs : List Nat} {fuel : Nat} {listed : Array Bool} {a : Act} {w : World} (hr : Region.ready md ops listed = rs) (hne : rs ≠ [])
    (h : ReadyX P md ops Q S n fuel listed a w rs) : AnyX P md ops Q S n (fuel + 1) listed a w := ⟨fun h0 => absurd (hr ▸ h0) hne, hr ▸ h⟩
theorem anyX_done {listed : Array Bool} {a : Act} {w : World} (hr : Region.ready md ops listed = []) (h : Q .normal a w) : ∀ fuel, AnyX P md ops Q S n fuel listed a w
  | 0 => ⟨hr, h⟩
  | _ + 1 => ⟨fun _ => h, by rw [hr]; simp⟩
theorem wp_region_x {id : Nat} {a : Act} {w : World} (n : Nat) (hm : P.follows .mixedOrders = true) (hS : S w.drew)
    (h : S w.drew → AnyX P .any ops Q S n ops.size (Array.replicate ops.size false) a w.drew) : (Code.region id ops true).wp P Q a w := wp_region_any hm (any_of_x _ _ _ _ (h hS))
end
end Go.Proofs.YtoimjjhopljdmaaGreat
namespace Go.Proofs.YtoimjjhopljdmaaGreat
open Go.RowKit Go.Shelf

theorem more_of_drew (w : World) (d : Nat) (os : Array Obj) : more w.drew d os = more w d os := rfl
end Go.Proofs.YtoimjjhopljdmaaGreat
namespace Go.Proofs.YtoimjjhopljdmaaGreat
open Go.RowKit

structure BoxSt (w3 w : World) (B : Nat) (v : Value) : Prop where
  t : Turned w3 w (some B)
  c6 : w.cell? ⟨B, 6, none⟩ = some v
  cs : ∀ u, u ≠ 6 → w.cell? ⟨B, u, none⟩ = w3.cell? ⟨B, u, none⟩
  fz : ∀ u, w.frozen? ⟨B, u, none⟩ = w3.frozen? ⟨B, u, none⟩
theorem BoxSt.cell {w3 w : World} {B : Nat} {v : Value} (h : BoxSt w3 w B v) {b o : Nat} (hb : b < w3.heap.size) (hne : b ≠ B) : w.cell? ⟨b, o, none⟩ = w3.cell? ⟨b, o, none⟩ :=
  World.cell?_of_block (w := w3) (a := ⟨b, o, none⟩) (h.t.block b hb (by intro e; exact hne (Option.some.inj e)))
theorem BoxSt.grow {w3 w w' : World} {B : Nat} {v : Value} (h : BoxSt w3 w B v) (hB : B < w3.heap.size) (hb : Below w.heap.size w w') : BoxSt w3 w' B v := by
  have hBw : B < w.heap.size := Nat.lt_of_lt_of_le hB h.t.size
  refine ⟨h.t.then (Turned.of_bel hb), (hb.cell (p := ⟨B, 6, none⟩) hBw).trans h.c6, fun u hu => (hb.cell (p := ⟨B, u, none⟩) hBw).trans (h.cs u hu), fun u => ?_⟩
  rw [← h.fz u]
  exact World.frozen?_of_block (w := w) (a := ⟨B, u, none⟩) (hb.block B hBw)
theorem BoxSt.app {w3 w w' : World} {B : Nat} {v : Value} {own : Option Nat} (h : BoxSt w3 w B v) (hB : B < w3.heap.size) (ht : Turned w w' own) (ho : ∀ g, own = some g → w3.heap.size ≤ g) : BoxSt w3 w' B v := by
  have hBw : B < w.heap.size := Nat.lt_of_lt_of_le hB h.t.size
  have hk : w'.heap[B]? = w.heap[B]? := ht.block B hBw (fun e => by have := ho B e.symm; omega)
  refine ⟨⟨ht.os.trans h.t.os, ht.tape.trans h.t.tape, ht.output.trans h.t.output, Nat.le_trans h.t.size ht.size, fun k hk hne => (ht.block k (Nat.lt_of_lt_of_le hk h.t.size) (fun e => by have := ho k e.symm; omega)).trans (h.t.block k hk hne)⟩, (World.cell?_of_block (w := w) (a := ⟨B, 6, none⟩) hk).trans h.c6, fun u hu => (World.cell?_of_block (w := w) (a := ⟨B, u, none⟩) hk).trans (h.cs u hu), fun u => ?_⟩
  rw [← h.fz u]
  exact World.frozen?_of_block (w := w) (a := ⟨B, u, none⟩) hk
theorem BoxSt.frozen {w3 w : World} {B : Nat} {v : Value} (h : BoxSt w3 w B v) {b o : Nat} (hb : b < w3.heap.size) (hne : b ≠ B) : w.frozen? ⟨b, o, none⟩ = w3.frozen? ⟨b, o, none⟩ :=
  World.frozen?_of_block (w := w3) (a := ⟨b, o, none⟩) (h.t.block b hb (by intro e; exact hne (Option.some.inj e)))
theorem Sl.grow {w w' : World} {e : TypeId} {size : Nat} {v : Value} {n : Nat} {xs : List Value} (h : Sl w e size v n xs) (hb : Below w.heap.size w w') : Sl w' e size v n xs := h.keep fun g hg => hb.block g (sl_lt h hg)

end Go.Proofs.YtoimjjhopljdmaaGreat
namespace Go.Proofs.YtoimjjhopljdmaaGreat
open Go.RowKit
theorem filter_step2 {α : Type} (f : α → Bool) {l : List α} {t : Nat} {x : α} (h : l[t]? = some x) : (l.take (t + 1)).filter f = (l.take t).filter f ++ (if f x then [x] else []) := by
  have hlt := (List.getElem?_eq_some_iff.1 h).1
  rw [List.take_succ_eq_append_getElem hlt, List.filter_append, (List.getElem?_eq_some_iff.1 h).2]
  cases hh : f x <;> simp [hh]
structure StB (w : World) (b : Nat) (m lv ov gv dv : Value) : Prop where
  c : ∀ j, w.cell? ⟨b, j, none⟩ = (#[m, lv, ov, gv, dv] : Array Value)[j]?
  f : ∀ j, w.frozen? ⟨b, j, none⟩ = false
theorem StB.keep {w w' : World} {b : Nat} {m lv ov gv dv : Value} (h : StB w b m lv ov gv dv) (hb : w'.heap[b]? = w.heap[b]?) : StB w' b m lv ov gv dv :=
  ⟨fun j => (World.cell?_of_block (w := w) (a := ⟨b, j, none⟩) hb).trans (h.c j), fun j => (World.frozen?_of_block (w := w) (a := ⟨b, j, none⟩) hb).trans (h.f j)⟩
theorem StB.lt {w : World} {b : Nat} {m lv ov gv dv : Value} (h : StB w b m lv ov gv dv) : b < w.heap.size := World.block_lt_of_cell? w ⟨b, 0, none⟩ (h.c 0)
theorem StB.block {w : World} {b : Nat} {m lv ov gv dv : Value} (h : StB w b m lv ov gv dv) : ∃ c e fr, w.heap[b]? = some (.cells c e fr) ∧ 4 < c.size := by
  have h6 := h.c 4
  simp only [World.cell?] at h6
  split at h6
  · rename_i c e fr hb
    refine ⟨c, e, fr, hb, ?_⟩
    simp at h6
    exact (Array.getElem?_eq_some_iff.1 h6).1
  · simp at h6
theorem StB.store {w : World} {b : Nat} {vs : Array Value} {u : Nat} (hu : u < 5) (hs : vs.size = 5) (v' : Value) (hc : ∀ j, w.cell? ⟨b, j, none⟩ = vs[j]?) (hf : ∀ j, w.frozen? ⟨b, j, none⟩ = false) :
    (∀ j, (w.setCell ⟨b, u, none⟩ v').cell? ⟨b, j, none⟩ = (vs.setIfInBounds u v')[j]?) ∧ (∀ j, (w.setCell ⟨b, u, none⟩ v').frozen? ⟨b, j, none⟩ = false) := by
  have h6 := hc u
  rw [Array.getElem?_eq_getElem (by omega)] at h6
  simp only [World.cell?] at h6
  split at h6
  · rename_i c e fr hb
    simp at h6
    have hcs := (Array.getElem?_eq_some_iff.1 h6).1
    have hs' : (w.setCell ⟨b, u, none⟩ v').heap[b]? = some (.cells (c.setIfInBounds u v') e fr) := by simp [World.setCell, Array.getElem?_modify, hb]
    have hcc : ∀ j, c[j]? = vs[j]? := fun j => by have := hc j; simpa [World.cell?, hb] using this
    refine ⟨fun j => ?_, fun j => ?_⟩
    · have e1 : (w.setCell ⟨b, u, none⟩ v').cell? ⟨b, j, none⟩ = (c.setIfInBounds u v')[j]? := by unfold World.cell?; rw [hs']; simp
      rw [e1]
      simp only [Array.getElem?_setIfInBounds, hcc]
      split
      · rw [if_pos (by omega)]
      · rfl
    · rw [← hf j]
      simp only [World.frozen?, hs', hb]
  · simp at h6
structure Tu2 (w w' : World) (b : Nat) (o : Option Nat) : Prop where
  os : w'.os = w.os
  tape : w'.tape = w.tape
  output : w'.output = w.output
  size : w.heap.size ≤ w'.heap.size
  block : ∀ k, k < w.heap.size → k ≠ b → some k ≠ o → w'.heap[k]? = w.heap[k]?
theorem Tu2.refl (w : World) (b : Nat) (o : Option Nat) : Tu2 w w b o := ⟨rfl, rfl, rfl, Nat.le_refl _, fun _ _ _ _ => rfl⟩
theorem Tu2.bel {w w1 w2 : World} {b : Nat} {o : Option Nat} (h : Tu2 w w1 b o) (hb : Below w1.heap.size w1 w2) : Tu2 w w2 b o :=
  ⟨hb.os.trans h.os, hb.tape.trans h.tape, hb.output.trans h.output, Nat.le_trans h.size hb.size, fun k hk h1 h2 => (hb.block k (Nat.lt_of_lt_of_le hk h.size)).trans (h.block k hk h1 h2)⟩
theorem Tu2.tur {w w1 w2 : World} {b : Nat} {o o' : Option Nat} (h : Tu2 w w1 b o) (ht : Turned w1 w2 o') (ho : ∀ g, o' = some g → some g = o ∨ g = b ∨ w.heap.size ≤ g) : Tu2 w w2 b o :=
  ⟨ht.os.trans h.os, ht.tape.trans h.tape, ht.output.trans h.output, Nat.le_trans h.size ht.size, fun k hk h1 h2 => (ht.block k (Nat.lt_of_lt_of_le hk h.size) (fun e => by
    rcases ho k e.symm with h3 | h3 | h3
    · exact h2 h3
    · exact h1 h3
    · omega)).trans (h.block k hk h1 h2)⟩
theorem Tu2.trans {w w1 w2 : World} {b : Nat} {o o' : Option Nat} (h : Tu2 w w1 b o) (h2 : Tu2 w1 w2 b o') (ho : ∀ g, o' = some g → some g = o ∨ g = b ∨ w.heap.size ≤ g) : Tu2 w w2 b o :=
  ⟨h2.os.trans h.os, h2.tape.trans h.tape, h2.output.trans h.output, Nat.le_trans h.size h2.size, fun k hk h3 h4 => (h2.block k (Nat.lt_of_lt_of_le hk h.size) h3 (fun e => by
    rcases ho k e.symm with h5 | h5 | h5
    · exact h4 h5
    · exact h3 h5
    · omega)).trans (h.block k hk h3 h4)⟩
theorem Tu2.below {W w w' : World} {b : Nat} {o : Option Nat} (h : Tu2 w w' b o) (hb : Below W.heap.size W w) (h1 : W.heap.size ≤ b) (h2 : ∀ g, o = some g → W.heap.size ≤ g) : Below W.heap.size W w' :=
  hb.trans ⟨h.os, h.tape, h.output, h.size, fun k hk => h.block k (Nat.lt_of_lt_of_le hk hb.size) (by omega) (fun e => by have := h2 k e.symm; omega)⟩
structure Two (w1 : World) (b n : Nat) (W : World) : Prop where
  sz : w1.heap.size ≤ W.heap.size
  cb : ∀ o, W.cell? ⟨b, o, none⟩ = w1.cell? ⟨b, o, none⟩
  fb : ∀ o, W.frozen? ⟨b, o, none⟩ = w1.frozen? ⟨b, o, none⟩
  cn : ∀ o, W.cell? ⟨n, o, none⟩ = w1.cell? ⟨n, o, none⟩
theorem Two.refl (w1 : World) (b n : Nat) : Two w1 b n w1 := ⟨Nat.le_refl _, fun _ => rfl, fun _ => rfl, fun _ => rfl⟩
theorem Two.step {w1 W W' : World} {b n : Nat} (h : Two w1 b n W) (hs : W.heap.size ≤ W'.heap.size) (hb : W'.heap[b]? = W.heap[b]?) (hn : W'.heap[n]? = W.heap[n]?) : Two w1 b n W' :=
  ⟨Nat.le_trans h.sz hs, fun o => (World.cell?_of_block (w := W) (a := ⟨b, o, none⟩) hb).trans (h.cb o), fun o => (World.frozen?_of_block (w := W) (a := ⟨b, o, none⟩) hb).trans (h.fb o), fun o => (World.cell?_of_block (w := W) (a := ⟨n, o, none⟩) hn).trans (h.cn o)⟩
theorem Two.bel {w1 W W' : World} {b n : Nat} (hb : b < w1.heap.size) (hn : n < w1.heap.size) (h : Two w1 b n W) (hB : Below W.heap.size W W') : Two w1 b n W' :=
  h.step hB.size (hB.block b (Nat.lt_of_lt_of_le hb h.sz)) (hB.block n (Nat.lt_of_lt_of_le hn h.sz))
theorem Two.drew {w1 W : World} {b n : Nat} (h : Two w1 b n W) : Two w1 b n W.drew := h.step (Nat.le_refl _) rfl rfl
theorem Two.alloc {w1 W : World} {b n : Nat} (hb : b < w1.heap.size) (hn : n < w1.heap.size) (o : Obj) (h : Two w1 b n W) : Two w1 b n (W.alloc o) :=
  h.bel hb hn ((Below.refl _ _).alloc (Nat.le_refl _) o)
theorem Two.tur {w1 W W' : World} {b n : Nat} {o : Option Nat} (hb : b < w1.heap.size) (hn : n < w1.heap.size) (h1 : some b ≠ o) (h2 : some n ≠ o) (h : Two w1 b n W) (ht : Turned W W' o) : Two w1 b n W' :=
  h.step ht.size (ht.block b (Nat.lt_of_lt_of_le hb h.sz) h1) (ht.block n (Nat.lt_of_lt_of_le hn h.sz) h2)
end Go.Proofs.YtoimjjhopljdmaaGreat
