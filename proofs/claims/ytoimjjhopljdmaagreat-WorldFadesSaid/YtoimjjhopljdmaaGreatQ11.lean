/-
  Chapter texts Fr PoolM DkC PaB CmE: what the claim reaches of them. Conditions stand at each theorem.
-/
import Derived.Test.YtoimjjhopljdmaaGreatRows
import Derived.WalkKit
import Derived.ProofKit
import Derived.OpenShut
import Derived.Carry
import Derived.ChangeSlices
import Derived.Test.YtoimjjhopljdmaaGreatQ07
import Derived.Test.YtoimjjhopljdmaaGreatQ08
import Derived.Test.YtoimjjhopljdmaaGreatQ10
import Derived.Test.YtoimjjhopljdmaaGreatQ06
import Derived.Test.YtoimjjhopljdmaaGreatQ09
namespace Go.Proofs.YtoimjjhopljdmaaGreat
open Go.ChangeShapes Go.WideShapes Go.ChangeAt Go.RowKit

theorem ownKnob0 : ownKnob Tryz.prog.godebug = none := by kernel_rfl
theorem laidOut : laidOutB Tryz.prog = true := by kernel_rfl

theorem trodAll_stays {H : Type} {enc : TypeId × Value → H} {W W' : World} {sp : Nat → Bool} : ∀ {ts : List TypeId} {vs : List Value} {ds : List (DataW H)} {ps : List MemPlace},
    DataW.TrodAll enc Tryz.prog W 0 (fun _ => true) true ts vs ds ps → (∀ t ∈ ts, Tryz.prog.readableRec t = true ∧ t < Tryz.prog.types.size) → (∀ p ∈ ps, W.sameAt W' p) → (∀ p ∈ ps, sp p.block = true) →
    DataW.TrodAll enc Tryz.prog W' 0 sp true ts vs ds ps
  | [], [], [], _, h, _, _, _ => h
  | t :: ts, v :: vs, d :: ds, _, h, hr, hs, hp => by
    obtain ⟨p, q, h1, h2, rfl⟩ := h
    obtain ⟨r1, r2⟩ := hr t List.mem_cons_self
    exact ⟨p, q, WideElems.Trod_stays laidOut r1 r2 h1 (fun x hx => hs x (List.mem_append_left _ hx)) (fun x hx => hp x (List.mem_append_left _ hx)),
      trodAll_stays h2 (fun t ht => hr t (List.mem_cons_of_mem _ ht)) (fun x hx => hs x (List.mem_append_right _ hx)) (fun x hx => hp x (List.mem_append_right _ hx)), rfl⟩

theorem post_true {H : Type} {enc : TypeId × Value → H} {f : Func} {s : ChangeSpec} {W W' : World} {args : Array Value} {ds gs : List (DataW H)} {before : List MemPlace}
    (hv : s.vars = []) (hr : f.resultTypes = #[4]) (hread : ∀ t ∈ f.params.toList, Tryz.prog.readableRec t = true ∧ t < Tryz.prog.types.size)
    (hs : s.fn H (ds ++ gs) = { results := [.lit (.bool true)], args := ds })
    (hW : DataW.Whole enc Tryz.prog f.params.toList s.vars false W args.toList ds gs before) (hb : Below W.heap.size W W') :
    s.post enc Tryz.prog f false true false false W args (.bool true) W' := by
  have hlt := hW.lt
  have hW' := hW
  obtain ⟨p, q, hA, hV, rfl, _⟩ := hW'
  refine ⟨ds, gs, p ++ q, [], p, [], hW, ?_, ?_, ?_, hb.frame _, fun h => by cases h⟩
  · rw [hs, hr]
    exact trodAll_cons_mk (shut_bool Tryz.underlying4 true) trodAll_mk0
  · rw [hs]
    exact trodAll_stays hA hread (fun x hx => hb.same (hlt x (List.mem_append_left _ hx))) (fun x hx => by simpa using hlt x (List.mem_append_left _ hx))
  · rw [hs, hv]
    rfl

theorem cells_id : Tryz.prog.cellsOf 30 = 3 := by kernel_rfl
theorem cells_int : Tryz.prog.cellsOf 3 = 1 := by kernel_rfl
theorem cells_bun : Tryz.prog.cellsOf 32 = 11 := by kernel_rfl
theorem cells_cmd : Tryz.prog.cellsOf 34 = 16 := by kernel_rfl

theorem i64_of_wf {n : Int} (h : (Lit.int .i64 n).wf = true) : -9223372036854775808 ≤ n ∧ n ≤ 9223372036854775807 := by
  simpa [Lit.wf, IntKind.min, IntKind.max, IntKind.bits, IntKind.signed] using h

section
variable {H : Type} {enc : TypeId × Value → H} {w : World} {base : Nat} {spare : Nat → Bool} {held : Bool} {fuel : Nat}

theorem read_int {c : List Value} {x : DataW H × List MemPlace} (h : DataW.trod enc Tryz.prog w base spare held fuel 3 c = some x) : ∃ n, c = [.int .i64 n] ∧ -9223372036854775808 ≤ n ∧ n ≤ 9223372036854775807 := by
  obtain ⟨n, h1, _, h3⟩ := DataW.trod_int Tryz.underlying3 h
  exact ⟨n, h1, i64_of_wf h3⟩

set_option maxRecDepth 100000 in
theorem read_id {c : List Value} {x : DataW H × List MemPlace} (h : DataW.trod enc Tryz.prog w base spare held fuel 30 c = some x) :
    ∃ s i g : Int, c = [.int .i64 s, .int .i64 i, .int .i64 g] ∧ (-9223372036854775808 ≤ s ∧ s ≤ 9223372036854775807) ∧ (-9223372036854775808 ≤ i ∧ i ≤ 9223372036854775807) ∧ (-9223372036854775808 ≤ g ∧ g ≤ 9223372036854775807) := by
  obtain ⟨xs, n, _, _, hc, hl, hf⟩ := DataW.trod_struct Tryz.underlying30 h
  rw [cells_id] at hc
  match c, hc with
  | [c0, c1, c2], _ =>
    match xs, hl with
    | [x0, x1, x2], _ =>
      have h0 := hf 0 _ rfl
      have h1 := hf 1 _ rfl
      have h2 := hf 2 _ rfl
      simp [cells_int] at h0 h1 h2
      obtain ⟨s, e0, b0⟩ := read_int h0
      obtain ⟨i, e1, b1⟩ := read_int h1
      obtain ⟨g, e2, b2⟩ := read_int h2
      simp at e0 e1 e2
      subst e0 e1 e2
      exact ⟨s, i, g, rfl, b0, b1, b2⟩

set_option maxRecDepth 100000 in
theorem read_bun {c : List Value} {x : DataW H × List MemPlace} (h : DataW.trod enc Tryz.prog w base spare held fuel 32 c = some x) :
    ∃ s i g m x y vx vy hp pw lf : Int, c = [.int .i64 s, .int .i64 i, .int .i64 g, .int .i64 m, .int .i64 x, .int .i64 y, .int .i64 vx, .int .i64 vy, .int .i64 hp, .int .i64 pw, .int .i64 lf] ∧ (-9223372036854775808 ≤ s ∧ s ≤ 9223372036854775807) ∧ (-9223372036854775808 ≤ i ∧ i ≤ 9223372036854775807) ∧ (-9223372036854775808 ≤ g ∧ g ≤ 9223372036854775807) ∧ (-9223372036854775808 ≤ m ∧ m ≤ 9223372036854775807) ∧ (-9223372036854775808 ≤ x ∧ x ≤ 9223372036854775807) ∧ (-9223372036854775808 ≤ y ∧ y ≤ 9223372036854775807) ∧ (-9223372036854775808 ≤ vx ∧ vx ≤ 9223372036854775807) ∧ (-9223372036854775808 ≤ vy ∧ vy ≤ 9223372036854775807) ∧ (-9223372036854775808 ≤ hp ∧ hp ≤ 9223372036854775807) ∧ (-9223372036854775808 ≤ pw ∧ pw ≤ 9223372036854775807) ∧ (-9223372036854775808 ≤ lf ∧ lf ≤ 9223372036854775807) := by
  obtain ⟨xs, n, _, _, hc, hl, hf⟩ := DataW.trod_struct Tryz.underlying32 h
  rw [cells_bun] at hc
  match c, hc with
  | [c0, c1, c2, c3, c4, c5, c6, c7, c8, c9, c10], _ =>
    match xs, hl with
    | [x0, x1, x2, x3, x4, x5, x6, x7, x8], _ =>
      have h0 := hf 0 _ rfl
      have h1 := hf 1 _ rfl
      have h2 := hf 2 _ rfl
      have h3 := hf 3 _ rfl
      have h4 := hf 4 _ rfl
      have h5 := hf 5 _ rfl
      have h6 := hf 6 _ rfl
      have h7 := hf 7 _ rfl
      have h8 := hf 8 _ rfl
      simp [cells_int, cells_id] at h0 h1 h2 h3 h4 h5 h6 h7 h8
      obtain ⟨s, i, g, e0, b0, b1, b2⟩ := read_id h0
      obtain ⟨m, e1, d1⟩ := read_int h1
      obtain ⟨x, e2, d2⟩ := read_int h2
      obtain ⟨y, e3, d3⟩ := read_int h3
      obtain ⟨vx, e4, d4⟩ := read_int h4
      obtain ⟨vy, e5, d5⟩ := read_int h5
      obtain ⟨hp, e6, d6⟩ := read_int h6
      obtain ⟨pw, e7, d7⟩ := read_int h7
      obtain ⟨lf, e8, d8⟩ := read_int h8
      simp at e0 e1 e2 e3 e4 e5 e6 e7 e8
      obtain ⟨e0, e00, e01⟩ := e0
      subst e0 e00 e01 e1 e2 e3 e4 e5 e6 e7 e8
      exact ⟨s, i, g, m, x, y, vx, vy, hp, pw, lf, rfl, b0, b1, b2, d1, d2, d3, d4, d5, d6, d7, d8⟩

set_option maxRecDepth 100000 in
theorem read_cmd {c : List Value} {x : DataW H × List MemPlace} (h : DataW.trod enc Tryz.prog w base spare held fuel 34 c = some x) :
    ∃ k s i g es ei eg m x y vx vy hp pw lf mask : Int, c = [.int .i64 k, .int .i64 s, .int .i64 i, .int .i64 g, .int .i64 es, .int .i64 ei, .int .i64 eg, .int .i64 m, .int .i64 x, .int .i64 y, .int .i64 vx, .int .i64 vy, .int .i64 hp, .int .i64 pw, .int .i64 lf, .int .i64 mask] ∧ (-9223372036854775808 ≤ m ∧ m ≤ 9223372036854775807) ∧ (-9223372036854775808 ≤ mask ∧ mask ≤ 9223372036854775807) := by
  obtain ⟨xs, n, _, _, hc, hl, hf⟩ := DataW.trod_struct Tryz.underlying34 h
  rw [cells_cmd] at hc
  match c, hc with
  | [c0, c1, c2, c3, c4, c5, c6, c7, c8, c9, c10, c11, c12, c13, c14, c15], _ =>
    match xs, hl with
    | [x0, x1, x2, x3], _ =>
      have h0 := hf 0 _ rfl
      have h1 := hf 1 _ rfl
      have h2 := hf 2 _ rfl
      have h3 := hf 3 _ rfl
      simp [cells_int, cells_id, cells_bun] at h0 h1 h2 h3
      obtain ⟨k, e0, _⟩ := read_int h0
      obtain ⟨s, i, g, e1, _⟩ := read_id h1
      obtain ⟨es, ei, eg, m, x, y, vx, vy, hp, pw, lf, e2, _, _, _, hm, _⟩ := read_bun h2
      obtain ⟨mask, e3, hk⟩ := read_int h3
      simp at e0 e1 e2 e3
      obtain ⟨e10, e11, e12⟩ := e1
      obtain ⟨f0, f1, f2, f3, f4, f5, f6, f7, f8, f9, f10⟩ := e2
      subst e0 e10 e11 e12 f0 f1 f2 f3 f4 f5 f6 f7 f8 f9 f10 e3
      exact ⟨k, s, i, g, es, ei, eg, m, x, y, vx, vy, hp, pw, lf, mask, rfl, hm, hk⟩
end

set_option maxRecDepth 100000 in
theorem agg_of {H : Type} {enc : TypeId × Value → H} {W : World} {base b0 : Nat} {spare : Nat → Bool} {held : Bool} {r : Reach} {t : TypeId} {fs : Array Field} {v : Value} {d : DataW H} {p : List MemPlace} (hs : Tryz.prog.underlying t = some (.struct fs))
    (hv : Value.okWide Tryz.prog W r b0 t v) (h : DataW.Trod enc Tryz.prog W base spare held t v d p) : ∃ (c : List Value) (fuel : Nat), v = .agg c.toArray ∧ DataW.trod enc Tryz.prog W base spare held fuel t c = some (d, p) := by
  obtain ⟨⟨c⟩, rfl, _⟩ := okWide_struct hs hv
  obtain ⟨fuel, hf⟩ := h
  exact ⟨c, fuel, rfl, by simpa [Value.cells] using hf⟩

end Go.Proofs.YtoimjjhopljdmaaGreat
namespace Go.Proofs.YtoimjjhopljdmaaGreat
open Go.RowKit
structure St2 (w0 W : World) (L : Lay) (M : List Sh) (p : Nat) (L' : Lay) (M' : List Sh) (p' : Nat) : Prop where
  a : St w0 W L M p
  b : St w0 W L' M' p'
  ap : ∀ b, L.own b → ¬ L'.own b

theorem St2.swap {w0 W : World} {L L' : Lay} {M M' : List Sh} {p p' : Nat} (h : St2 w0 W L M p L' M' p') : St2 w0 W L' M' p' L M p := ⟨h.b, h.a, fun b h1 h2 => h.ap b h2 h1⟩
theorem St2.grow {w0 W W' : World} {L L' : Lay} {M M' : List Sh} {p p' : Nat} (h : St2 w0 W L M p L' M' p') (hb : Below W.heap.size W W') : St2 w0 W' L M p L' M' p' := ⟨h.a.grow hb, h.b.grow hb, h.ap⟩
structure Lst (w0 W : World) (F : Nat → Prop) (v : Value) (l : List Id3) : Prop where
  sl : Sl W 30 3 v l.length (idCells l)
  ap : ∀ g, v.ownBlock = some g → w0.heap.size ≤ g ∧ ¬ F g

theorem Lst.nil (w0 W : World) (F : Nat → Prop) : Lst w0 W F (.slice none 0 0) [] := ⟨⟨by simp [idCells], .inl ⟨rfl, rfl⟩⟩, fun g hg => by cases hg⟩
theorem Lst.grow {w0 W W' : World} {F : Nat → Prop} {v : Value} {l : List Id3} (h : Lst w0 W F v l) (hb : Below W.heap.size W W') : Lst w0 W' F v l := ⟨h.sl.keep fun g hg => hb.block g (h.sl.lt hg), h.ap⟩
theorem Lst.snoc {w0 W w1 : World} {F : Nat → Prop} {v v' : Value} {l : List Id3} {s i g : Int} (h : Lst w0 W F v l) (h0 : w0.heap.size ≤ W.heap.size) (hF : ∀ b, F b → b < W.heap.size) (hs : Sl w1 30 3 v' (l.length + 1) (idCells l ++ [.int .i64 s, .int .i64 i, .int .i64 g]))
    (ho : v'.ownBlock = v.ownBlock ∨ ∃ g, v'.ownBlock = some g ∧ W.heap.size ≤ g) : Lst w0 w1 F v' (l ++ [(s, i, g)]) := by
  refine ⟨by rw [idCells_app, idCells_one]; simpa using hs, fun q hq => ?_⟩
  rcases ho with e | ⟨g', e, hg'⟩
  · exact h.ap q (by rw [← e]; exact hq)
  · rw [e] at hq
    cases hq
    exact ⟨by omega, fun h => by have := hF q h; omega⟩

theorem Lst.cells {w0 W : World} {F : Nat → Prop} {v : Value} {l : List Id3} (h : Lst w0 W F v l) : ∃ p cap, v = .slice p l.length cap ∧ l.length ≤ maxLen ∧ ∀ k (x : Id3), l[k]? = some x → ∃ b off, p = some ⟨b, off, none⟩ ∧ l.length ≤ cap ∧
    W.cell? ⟨b, off + k * 3, none⟩ = some (.int .i64 x.1) ∧ W.cell? ⟨b, off + k * 3 + 1, none⟩ = some (.int .i64 x.2.1) ∧ W.cell? ⟨b, off + k * 3 + 2, none⟩ = some (.int .i64 x.2.2) := by
  have key : ∀ (l : List Id3) (k : Nat) (x : Id3), l[k]? = some x → (idCells l)[k * 3]? = some (.int .i64 x.1) ∧ (idCells l)[k * 3 + 1]? = some (.int .i64 x.2.1) ∧ (idCells l)[k * 3 + 2]? = some (.int .i64 x.2.2) := by
    intro l
    induction l with
    | nil => intro k x hx; cases hx
    | cons y l ih =>
      intro k x hx
      cases k with
      | zero => simp at hx; subst hx; simp [idCells]
      | succ k =>
        obtain ⟨h1, h2, h3⟩ := ih k x (by simpa using hx)
        have e : idCells (y :: l) = .int .i64 y.1 :: .int .i64 y.2.1 :: .int .i64 y.2.2 :: idCells l := by simp [idCells]
        rw [e, show (k + 1) * 3 = k * 3 + 1 + 1 + 1 by omega]
        exact ⟨by simpa using h1, by simpa using h2, by simpa using h3⟩
  obtain ⟨_, ⟨hv, h0⟩ | ⟨blk, off, cap, cur, rfl, hb, hn, hc, hsz, hr⟩⟩ := h.sl
  · exact ⟨none, 0, by rw [hv, h0], by omega, fun k x hx => by have := (List.getElem?_eq_some_iff.1 hx).1; omega⟩
  · refine ⟨_, cap, rfl, by omega, fun k x hx => ⟨blk, off, rfl, hn, ?_⟩⟩
    obtain ⟨h1, h2, h3⟩ := key l k x hx
    have r1 := hr _ _ h1
    have r2 := hr _ _ h2
    have r3 := hr _ _ h3
    rw [show off + (k * 3 + 1) = off + k * 3 + 1 by omega] at r2
    rw [show off + (k * 3 + 2) = off + k * 3 + 2 by omega] at r3
    exact ⟨by simp [World.cell?, hb, r1], by simp [World.cell?, hb, r2], by simp [World.cell?, hb, r3]⟩

end Go.Proofs.YtoimjjhopljdmaaGreat
namespace Go.Proofs.YtoimjjhopljdmaaGreat
open Go.RowKit

section
variable (w : World) (d : DLay) (c : Cfg) (D : Dk) (h : DeskAt w d c D)
include h
theorem dreserve_any (k i : Int) : Calls Tryz.prog 45 #[.pointer (some ⟨d.p, 0, none⟩), .int .i64 k, .int .i64 i] w fun e w' => e = .returned (.int .i64 (reservedF D k i).1) ∧ DStp w d c w' (reservedF D k i).2 := by
  have c1 := h.cell 1
  simp [deskC] at c1
  have HR := Lib.hid (reserve_any w d.L D.M k i h.pool)
  have HP := Lib.hid (fun w' (hs : Stp w d.L w' (reserveF D.M k i).2) => DStp.pool h hs)
  clear h
  go_enter Tryz.func45, Tryz.ntmps45
  go_wp2_with (go_at_call 88; refine HR.out.mono ?_; rintro e w' ⟨rfl, hs⟩)
  go_ret
  exact ⟨rfl, HP.out _ hs⟩
theorem dtick_any : Calls Tryz.prog 75 #[.pointer (some ⟨d.p, 0, none⟩)] w fun e w' => e = .returned (.tuple #[.int .i64 D.t, .bool D.op]) ∧ Below w.heap.size w w' := by
  have c3 := h.cell 3
  have c4 := h.cell 4
  simp [deskC] at c3 c4
  have hlt := lt_of_heap h.box
  clear h
  go_enter Tryz.func75, Tryz.ntmps75
  go_wp2_with fail
  refine wp_region_more (by kernel_rfl) (by kernel_rfl) ?_
  repeat (go_big_quiet_step (fail))
  refine wpQuiet_nil ?_
  rintro _ ⟨pn, rfl⟩
  go_wp2_with fail
  go_ret2
  exact ⟨rfl, (by repeat' (first | (with_reducible exact Below.refl _ _) | (with_reducible assumption) | (with_reducible refine below_drewN ?_ _) | (with_reducible refine below_more _ _ _ ?_ ?_) | (with_reducible refine Below.alloc ?_ ?_ _) | (with_reducible refine Below.drew ?_) | (with_reducible refine Below.setCell ?_ ?_ _) | go_size))⟩
theorem dwaits_any (s i g : Int) : Calls Tryz.prog 85 #[.pointer (some ⟨d.p, 0, none⟩), .agg #[.int .i64 s, .int .i64 i, .int .i64 g]] w fun e w' => e = .returned (.bool (endsF D.q s i g)) ∧ Below w.heap.size w w' := by
  have c2 := h.cell 2
  simp [deskC] at c2
  have hlt := lt_of_heap h.box
  have HR := Lib.hid (fun W (hW : Below w.heap.size w W) B a1 a2 a3 a4 => contCm_any s i g D.q d.qv B W (RIn.of_sl (h.q.keep fun g hg => hW.block g (sl_lt h.q hg))) a1 a2 a3 a4)
  obtain ⟨p, cap, hv⟩ := sl_frm h.q
  rw [hv] at c2 HR
  obtain ⟨z0, z1, z2⟩ := ltz hlt
  clear h hv
  go_enter Tryz.func85, Tryz.ntmps85
  go_wp2_with fail
  refine (HR.out _ (by repeat' (first | (with_reducible exact Below.refl _ _) | (with_reducible assumption) | (with_reducible refine below_drewN ?_ _) | (with_reducible refine below_more _ _ _ ?_ ?_) | (with_reducible refine Below.alloc ?_ ?_ _) | (with_reducible refine Below.drew ?_) | (with_reducible refine Below.setCell ?_ ?_ _) | go_size)) _ (by first | (simp; done) | (simp; omega)) (by simp [go_sem]) (by simp [go_sem]) (by simp [go_sem])).mono ?_
  rintro e w' ⟨rfl, hb⟩
  obtain ⟨d, os, rfl⟩ := more_of hb; clear hb
  go_wp2_with fail
  go_ret
  exact ⟨rfl, (by repeat' (first | (with_reducible exact Below.refl _ _) | (with_reducible assumption) | (with_reducible refine below_drewN ?_ _) | (with_reducible refine below_more _ _ _ ?_ ?_) | (with_reducible refine Below.alloc ?_ ?_ _) | (with_reducible refine Below.drew ?_) | (with_reducible refine Below.setCell ?_ ?_ _) | go_size))⟩
end
end Go.Proofs.YtoimjjhopljdmaaGreat
namespace Go.Proofs.YtoimjjhopljdmaaGreat
open Go.RowKit

set_option maxHeartbeats 1000000 in
theorem check_any (s i g m x y vx vy hp pw lf : Int) (w : World) :
    Calls Tryz.prog 121 #[.agg #[.int .i64 s, .int .i64 i, .int .i64 g, .int .i64 m, .int .i64 x, .int .i64 y, .int .i64 vx, .int .i64 vy, .int .i64 hp, .int .i64 pw, .int .i64 lf]] w fun e w' => e = .returned (.int .i64 (errB (checkB ⟨s, i, g, m, x, y, vx, vy, hp, pw, lf⟩))) ∧ Below w.heap.size w w' := by
  generalize hr : errB _ = r
  unfold checkB at hr
  have HR := Lib.hid hr
  clear hr
  go_enter Tryz.func121, Tryz.ntmps121
  go_wp2_with (first
    | (go_at_call 123; refine (right_any _ _ _ _ _ _ _ _ _ _ _ _).mono ?_; rintro e w1 ⟨rfl, hb⟩; obtain ⟨⟨hB1, hs1, hl1⟩, hc1⟩ := box_keep hb (box_new0 w _ _); clear hb)
    | (go_at_call 136; refine (has_any _ _ _ _ _ _ _ _ _ _ _ _ _).mono ?_; rintro e w2 ⟨rfl, hb⟩; obtain ⟨⟨hB2, hs2, hl2⟩, hc2⟩ := box_keep hb ⟨⟨hB1, hs1, hl1⟩, hc1⟩; clear hb hB1 hs1 hl1 hc1)
    | (go_at_call 120; refine (checkID_any _ _ _ _).mono ?_; rintro e w3 ⟨rfl, hb⟩; obtain ⟨⟨hB3, hs3, hl3⟩, hc3⟩ := box_keep hb ⟨⟨hB2, hs2, hl2⟩, hc2⟩; clear hb hB2 hs2 hl2 hc2))
  all_goals go_ret
  all_goals refine ⟨?_, by assumption⟩
  all_goals go_tidy
  all_goals (have h := HR.out; rw [← h]; simp_all [errB])

set_option maxHeartbeats 2000000 in
theorem checkCmd_any (k s i g es ei eg m x y vx vy hp pw lf mask : Int) (w : World) :
    Calls Tryz.prog 82 #[.agg #[.int .i64 k, .int .i64 s, .int .i64 i, .int .i64 g, .int .i64 es, .int .i64 ei, .int .i64 eg, .int .i64 m, .int .i64 x, .int .i64 y, .int .i64 vx, .int .i64 vy, .int .i64 hp, .int .i64 pw, .int .i64 lf, .int .i64 mask]] w fun e w' => e = .returned (.int .i64 (errB (cmdB ⟨k, s, i, g, ⟨es, ei, eg, m, x, y, vx, vy, hp, pw, lf⟩, mask⟩))) ∧ Below w.heap.size w w' := by
  generalize hr : errB _ = r
  unfold cmdB at hr
  dsimp only at hr
  have HR := Lib.hid hr
  clear hr
  go_enter Tryz.func82, Tryz.ntmps82
  go_wp2_with (first
    | (go_at_call 120; refine (checkID_any _ _ _ _).mono ?_; rintro e w1 ⟨rfl, hb⟩; obtain ⟨⟨hB1, hs1, hl1⟩, hc1⟩ := box_keep hb (box_new0 w _ _); clear hb)
    | (go_at_call 123; refine (right_any _ _ _ _ _ _ _ _ _ _ _ _).mono ?_; rintro e w2 ⟨rfl, hb⟩; obtain ⟨⟨hB2, hs2, hl2⟩, hc2⟩ := box_keep hb ⟨⟨hB1, hs1, hl1⟩, hc1⟩; clear hb hB1 hs1 hl1 hc1)
    | (go_at_call 121; refine (check_any _ _ _ _ _ _ _ _ _ _ _ _).mono ?_; rintro e w2 ⟨rfl, hb⟩; obtain ⟨⟨hB2, hs2, hl2⟩, hc2⟩ := box_keep hb ⟨⟨hB1, hs1, hl1⟩, hc1⟩; clear hb hB1 hs1 hl1 hc1)
    | (go_at_call 122; refine (some_any _ _).mono ?_; rintro e w' ⟨rfl, rfl⟩))
  all_goals go_ret
  all_goals refine ⟨?_, by assumption⟩
  all_goals go_tidy
  all_goals (have h := HR.out; rw [← h]; simp_all [errB, idZero, bunZero])

end Go.Proofs.YtoimjjhopljdmaaGreat
namespace Go.Proofs.YtoimjjhopljdmaaGreat
open Go.RowKit

def cmEq (a b : Cm) : Bool := a.k == b.k && idEq a.s a.i a.g b.s b.i b.g && bunEq a.b b.b && a.mask == b.mask
theorem cmEq_iff (a a2 : Cm) : cmEq a a2 = true ↔ a = a2 := by
  obtain ⟨k, s, i, g, b, mask⟩ := a
  obtain ⟨k', s', i', g', b', mask'⟩ := a2
  simp [cmEq, idEq, bunEq, and_assoc]
theorem cmEq_self (a : Cm) : cmEq a a = true := (cmEq_iff a a).2 rfl
set_option maxRecDepth 10000 in
set_option maxHeartbeats 2000000 in
@[go_sem high] theorem run_eql_cm (k s i g es ei eg m x y vx vy hp pw lf mask k' s' i' g' es' ei' eg' m' x' y' vx' vy' hp' pw' lf' mask' : Int) (W : World) :
    (binOp .eql 34 (.agg #[.int .i64 k, .int .i64 s, .int .i64 i, .int .i64 g, .int .i64 es, .int .i64 ei, .int .i64 eg, .int .i64 m, .int .i64 x, .int .i64 y, .int .i64 vx, .int .i64 vy, .int .i64 hp, .int .i64 pw, .int .i64 lf, .int .i64 mask]) (.agg #[.int .i64 k', .int .i64 s', .int .i64 i', .int .i64 g', .int .i64 es', .int .i64 ei', .int .i64 eg', .int .i64 m', .int .i64 x', .int .i64 y', .int .i64 vx', .int .i64 vy', .int .i64 hp', .int .i64 pw', .int .i64 lf', .int .i64 mask'])).run Tryz.prog W = .ok (.bool (cmEq ⟨k, s, i, g, ⟨es, ei, eg, m, x, y, vx, vy, hp, pw, lf⟩, mask⟩ ⟨k', s', i', g', ⟨es', ei', eg', m', x', y', vx', vy', hp', pw', lf'⟩, mask'⟩)) W := by
  rw [run_eql_struct]
  by_cases h0 : k = k'
  · by_cases h1 : s = s'
    · by_cases h2 : i = i'
      · by_cases h3 : g = g'
        · by_cases h4 : es = es'
          · by_cases h5 : ei = ei'
            · by_cases h6 : eg = eg'
              · by_cases h7 : m = m'
                · by_cases h8 : x = x'
                  · by_cases h9 : y = y'
                    · by_cases h10 : vx = vx'
                      · by_cases h11 : vy = vy'
                        · by_cases h12 : hp = hp'
                          · by_cases h13 : pw = pw'
                            · by_cases h14 : lf = lf'
                              · by_cases h15 : mask = mask'
                                · simp [go_sem, cmEq, idEq, bunEq, h0, h1, h2, h3, h4, h5, h6, h7, h8, h9, h10, h11, h12, h13, h14, h15]
                                · simp [go_sem, cmEq, idEq, bunEq, h0, h1, h2, h3, h4, h5, h6, h7, h8, h9, h10, h11, h12, h13, h14, h15]
                              · simp [go_sem, cmEq, idEq, bunEq, h0, h1, h2, h3, h4, h5, h6, h7, h8, h9, h10, h11, h12, h13, h14]
                            · simp [go_sem, cmEq, idEq, bunEq, h0, h1, h2, h3, h4, h5, h6, h7, h8, h9, h10, h11, h12, h13]
                          · simp [go_sem, cmEq, idEq, bunEq, h0, h1, h2, h3, h4, h5, h6, h7, h8, h9, h10, h11, h12]
                        · simp [go_sem, cmEq, idEq, bunEq, h0, h1, h2, h3, h4, h5, h6, h7, h8, h9, h10, h11]
                      · simp [go_sem, cmEq, idEq, bunEq, h0, h1, h2, h3, h4, h5, h6, h7, h8, h9, h10]
                    · simp [go_sem, cmEq, idEq, bunEq, h0, h1, h2, h3, h4, h5, h6, h7, h8, h9]
                  · simp [go_sem, cmEq, idEq, bunEq, h0, h1, h2, h3, h4, h5, h6, h7, h8]
                · simp [go_sem, cmEq, idEq, bunEq, h0, h1, h2, h3, h4, h5, h6, h7]
              · simp [go_sem, cmEq, idEq, bunEq, h0, h1, h2, h3, h4, h5, h6]
            · simp [go_sem, cmEq, idEq, bunEq, h0, h1, h2, h3, h4, h5]
          · simp [go_sem, cmEq, idEq, bunEq, h0, h1, h2, h3, h4]
        · simp [go_sem, cmEq, idEq, bunEq, h0, h1, h2, h3]
      · simp [go_sem, cmEq, idEq, bunEq, h0, h1, h2]
    · simp [go_sem, cmEq, idEq, bunEq, h0, h1]
  · simp [go_sem, cmEq, idEq, bunEq, h0]

@[go_sem high] theorem run_neq_cm (k s i g es ei eg m x y vx vy hp pw lf mask k' s' i' g' es' ei' eg' m' x' y' vx' vy' hp' pw' lf' mask' : Int) (W : World) :
    (binOp .neq 34 (.agg #[.int .i64 k, .int .i64 s, .int .i64 i, .int .i64 g, .int .i64 es, .int .i64 ei, .int .i64 eg, .int .i64 m, .int .i64 x, .int .i64 y, .int .i64 vx, .int .i64 vy, .int .i64 hp, .int .i64 pw, .int .i64 lf, .int .i64 mask]) (.agg #[.int .i64 k', .int .i64 s', .int .i64 i', .int .i64 g', .int .i64 es', .int .i64 ei', .int .i64 eg', .int .i64 m', .int .i64 x', .int .i64 y', .int .i64 vx', .int .i64 vy', .int .i64 hp', .int .i64 pw', .int .i64 lf', .int .i64 mask'])).run Tryz.prog W = .ok (.bool (!(cmEq ⟨k, s, i, g, ⟨es, ei, eg, m, x, y, vx, vy, hp, pw, lf⟩, mask⟩ ⟨k', s', i', g', ⟨es', ei', eg', m', x', y', vx', vy', hp', pw', lf'⟩, mask'⟩))) W := by
  have h := run_eql_cm k s i g es ei eg m x y vx vy hp pw lf mask k' s' i' g' es' ei' eg' m' x' y' vx' vy' hp' pw' lf' mask' W
  rw [run_eql_struct] at h
  rw [run_neq_struct]
  generalize (Op.equalIn _ _ _ _).run Tryz.prog W = r at *
  cases r with
  | ok b w => simp only [Result.andThen_ok] at *; cases b <;> simp_all
  | halt x w => simp [Result.andThen] at h
end Go.Proofs.YtoimjjhopljdmaaGreat
