/-
  How a config that came in reads: seven ints. No condition.
  How a slice that came in reads, of structs of any kind; a state, a record, what was told. No condition.
  How a state, a record and a case of chapter 22 that came in read. No condition.
  How a slice of commands that came in reads. No condition.
  How a tick's case that came in reads. No condition.
-/
import Derived.Test.YtcnclcfipabimaaMpr
import Derived.Test.YtcnclcfipabimaaMsn
import Derived.Test.YtcnclcfipabimaaMsl
import Derived.Test.YtcnclcfipabimaaMgc
import Derived.Test.YtcnclcfipabimaaMra
namespace Go.Proofs.Ytcnclcfipabimaa
open Go.ChangeShapes Go.WideShapes Go.ChangeAt Go.RowKit

theorem cells_cfg : Try.prog.cellsOf 23 = 7 := by kernel_rfl
set_option maxRecDepth 100000 in
theorem read_cfg {H : Type} {enc : TypeId × Value → H} {w : World} {base : Nat} {spare : Nat → Bool} {held : Bool} {fuel : Nat} {c : List Value} {x : DataW H × List MemPlace} (h : DataW.trod enc Try.prog w base spare held fuel 23 c = some x) :
    ∃ cols rows side radius speed ids queue : Int, c = [.int .i64 cols, .int .i64 rows, .int .i64 side, .int .i64 radius, .int .i64 speed, .int .i64 ids, .int .i64 queue] := by
  obtain ⟨xs, n, _, _, hc, hl, hf⟩ := DataW.trod_struct Try.underlying23 h
  rw [cells_cfg] at hc
  match c, hc with
  | [c0, c1, c2, c3, c4, c5, c6], _ =>
    match xs, hl with
    | [x0, x1, x2, x3, x4, x5, x6], _ =>
      have h0 := hf 0 _ rfl
      have h1 := hf 1 _ rfl
      have h2 := hf 2 _ rfl
      have h3 := hf 3 _ rfl
      have h4 := hf 4 _ rfl
      have h5 := hf 5 _ rfl
      have h6 := hf 6 _ rfl
      simp [cells_int] at h0 h1 h2 h3 h4 h5 h6
      obtain ⟨cols, e0, _⟩ := read_int h0
      obtain ⟨rows, e1, _⟩ := read_int h1
      obtain ⟨side, e2, _⟩ := read_int h2
      obtain ⟨radius, e3, _⟩ := read_int h3
      obtain ⟨speed, e4, _⟩ := read_int h4
      obtain ⟨ids, e5, _⟩ := read_int h5
      obtain ⟨queue, e6, _⟩ := read_int h6
      simp at e0 e1 e2 e3 e4 e5 e6
      subst e0 e1 e2 e3 e4 e5 e6
      exact ⟨cols, rows, side, radius, speed, ids, queue, rfl⟩
end Go.Proofs.Ytcnclcfipabimaa
namespace Go.Proofs.Ytcnclcfipabimaa
open Go.ChangeShapes Go.WideShapes Go.ChangeAt Go.RowKit
theorem cellsR_split {β : Type} {enc : β → List Value} {size : Nat} (hk : ∀ x, (enc x).length = size) : ∀ (l : List β) (t : Nat) (u : Value), (cellsR enc l)[t]? = some u → ∃ b, l[t / size]? = some b ∧ (enc b)[t % size]? = some u := fun l t u h => by
  have hlt := (List.getElem?_eq_some_iff.1 h).1
  rw [cellsR_len enc size hk] at hlt
  have hs : 0 < size := by rcases Nat.eq_zero_or_pos size with h | h; · subst h; omega
                           · exact h
  have hd : t / size < l.length := (Nat.div_lt_iff_lt_mul hs).2 hlt
  refine ⟨l[t / size], List.getElem?_eq_getElem hd, ?_⟩
  have e := cellsR_get enc size hk l (t / size) (t % size) _ (List.getElem?_eq_getElem hd) (Nat.mod_lt _ hs)
  rw [← e, Nat.mul_comm, Nat.div_add_mod]
  exact h
section
variable {H : Type} {enc : TypeId × Value → H} {W : World} {base : Nat} {spare : Nat → Bool} {held : Bool} {fuel : Nat}
/-- Its form alone. -/
theorem slice_form {TS T : TypeId} (hT : Try.prog.underlying TS = some (.slice T)) {c : List Value} {x : DataW H × List MemPlace} (h : DataW.trod enc Try.prog W base spare held fuel TS c = some x) : ∃ p n cap, c = [.slice p n cap] := by
  rcases Go.Deep.open_slice hT h with ⟨h0, _⟩ | ⟨a, len', cap', m, n, D, Pl, h0, _⟩
  · exact ⟨_, _, _, h0⟩
  · exact ⟨_, _, _, h0⟩
/-- What it holds. -/
theorem slice_cells {β : Type} {en : β → List Value} {size : Nat} (hk : ∀ x, (en x).length = size) (hs : 0 < size) {Good : β → Prop} {TS T : TypeId} (hT : Try.prog.underlying TS = some (.slice T)) (hz : Try.prog.cellsOf T = size)
    (rd : ∀ {fuel : Nat} {c : List Value} {x : DataW H × List MemPlace}, DataW.trod enc Try.prog W base spare held fuel T c = some x → ∃ b, c = en b ∧ Good b)
    {c : List Value} {x : DataW H × List MemPlace} (h : DataW.trod enc Try.prog W base spare held fuel TS c = some x) : ∃ p cap l, c = [.slice p l.length cap] ∧ RIn en W (.slice p l.length cap) l ∧ ∀ b ∈ l, Good b := by
  rcases Go.Deep.open_slice hT h with ⟨h0, _⟩ | ⟨⟨b, off, sp⟩, len, cap, m, n, D, Pl, h0, _, hl, hm, hmm, _, hi⟩
  · exact ⟨none, 0, [], h0, ⟨none, 0, rfl, by simp [maxLen], fun _ => rfl, Nat.le_refl _, fun h => absurd rfl h⟩, by simp⟩
  · subst h0
    have hle : len ≤ m := by rw [hmm]; split <;> omega
    rw [hz] at hi
    by_cases hz0 : len = 0
    · subst hz0
      exact ⟨_, cap, [], rfl, ⟨_, cap, rfl, by simp [maxLen], (fun h => by cases h), Nat.zero_le _, fun h => absurd rfl h⟩, by simp⟩
    have hsp : sp = none := by
      obtain ⟨cs', hc, ht⟩ := hi 0 (by omega)
      obtain ⟨_, hlen, hcell⟩ := World.cells?_some hc
      have hc0 := hcell 0 (by omega)
      rw [List.getElem?_eq_getElem (by omega)] at hc0
      simp only [Addr.add, Nat.zero_mul, if_true] at hc0
      cases sp with
      | none => rfl
      | some q =>
        simp only [World.cell?, Option.isSome_some, if_true] at hc0
        split at hc0 <;> cases hc0
    subst hsp
    have hq : ∀ q, q < len → ∃ c : β, (∀ j, j < size → W.cell? ⟨b, off + q * size + j, none⟩ = (en c)[j]?) ∧ Good c := by
      intro q hql
      obtain ⟨cs', hc, ht⟩ := hi q (by omega)
      obtain ⟨_, hlen, hcell⟩ := World.cells?_some hc
      obtain ⟨y, rfl, hfit⟩ := rd ht
      refine ⟨y, fun j hj => ?_, hfit⟩
      have e : (⟨b, off + q * size + j, none⟩ : Addr) = ((⟨b, off, none⟩ : Addr).add (q * size)).add j := by
        unfold Addr.add
        by_cases h1 : q * size = 0
        · by_cases h2 : j = 0 <;> simp [h1, h2]
        · by_cases h2 : j = 0 <;> simp [h1, h2]
      rw [e]
      exact hcell j hj
    obtain ⟨l, hll, hlp⟩ := list_of len hq
    subst hll
    refine ⟨_, cap, l, rfl, ⟨some ⟨b, off, none⟩, cap, rfl, by omega, (fun h => by cases h), by omega, fun hn => ⟨b, off, rfl, ?_, fun t u hu => ?_⟩⟩, fun c hc => ?_⟩
    · have h1 : 0 < l.length := List.length_pos_iff.2 hn
      have h0 := (hlp 0 l[0] (List.getElem?_eq_getElem h1)).1 0 hs
      have h2 : 0 < (en l[0]).length := by rw [hk]; exact hs
      rw [List.getElem?_eq_getElem h2] at h0
      exact World.block_lt_of_cell? W _ h0
    · obtain ⟨c, hc, hcu⟩ := cellsR_split hk l t u hu
      have h1 := (hlp _ c hc).1 (t % size) (Nat.mod_lt _ hs)
      rw [show off + t = off + t / size * size + t % size by rw [Nat.add_assoc, Nat.mul_comm, Nat.div_add_mod], h1, hcu]
    · obtain ⟨q, hi', e⟩ := List.getElem_of_mem hc
      exact (hlp q c (by rw [← e]; exact List.getElem?_eq_getElem hi')).2

theorem buns_cells {c : List Value} {x : DataW H × List MemPlace} (h : DataW.trod enc Try.prog W base spare held fuel 24 c = some x) : ∃ p cap l, c = [.slice p l.length cap] ∧ BIn W (.slice p l.length cap) l :=
  let ⟨p, cap, l, h1, h2, _⟩ := slice_cells (en := bunL) (Good := fun _ => True) (fun _ => rfl) (by omega) Try.underlying24 cells_bun (fun ht => by obtain ⟨s', i', g', m', x', y', vx', vy', hp', pw', lf', rfl, _⟩ := read_bun ht; exact ⟨⟨s', i', g', m', x', y', vx', vy', hp', pw', lf'⟩, rfl, trivial⟩) h
  ⟨p, cap, l, h1, h2⟩

theorem cells_gh : Try.prog.cellsOf 64 = 3 := by kernel_rfl
theorem cells_bs : Try.prog.cellsOf 24 = 1 := by kernel_rfl
set_option maxRecDepth 100000 in
theorem read_gh {c : List Value} {x : DataW H × List MemPlace} (h : DataW.trod enc Try.prog W base spare held fuel 64 c = some x) :
    ∃ g : Gh, c = ghL g ∧ ∃ l, BIn W (.slice g.p g.n g.c) l := by
  obtain ⟨xs, n, _, _, hc, hl, hf⟩ := DataW.trod_struct Try.underlying64 h
  rw [cells_gh] at hc
  match c, hc with
  | [c0, c1, c2], _ =>
    match xs, hl with
    | [x0, x1, x2], _ =>
      have h0 := hf 0 _ rfl
      have h1 := hf 1 _ rfl
      have h2 := hf 2 _ rfl
      simp [cells_int, cells_bs] at h0 h1 h2
      obtain ⟨f, e0, _⟩ := read_int h0
      obtain ⟨t, e1, _⟩ := read_int h1
      obtain ⟨p, cap, l, e2, hb⟩ := buns_cells h2
      simp at e0 e1 e2
      subst e0 e1 e2
      exact ⟨⟨f, t, p, l.length, cap⟩, rfl, l, hb⟩
theorem ghosts_cells {c : List Value} {x : DataW H × List MemPlace} (h : DataW.trod enc Try.prog W base spare held fuel 36 c = some x) : ∃ p cap L, c = [.slice p L.length cap] ∧ RIn ghL W (.slice p L.length cap) L ∧ ∀ g ∈ L, ∃ l, BIn W (.slice g.p g.n g.c) l :=
  slice_cells (Good := fun g : Gh => ∃ l, BIn W (.slice g.p g.n g.c) l) ghL_len (by omega) Try.underlying36 cells_gh (fun ht => read_gh ht) h
end
end Go.Proofs.Ytcnclcfipabimaa
namespace Go.Proofs.Ytcnclcfipabimaa
open Go.ChangeShapes Go.WideShapes Go.ChangeAt Go.RowKit

theorem cells_state : Try.prog.cellsOf 46 = 8 := by kernel_rfl
theorem cells_rec : Try.prog.cellsOf 48 = 24 := by kernel_rfl
theorem cells_case : Try.prog.cellsOf 50 = 34 := by kernel_rfl
theorem cells_sl0 : Try.prog.cellsOf 24 = 1 := by kernel_rfl
theorem cells_sl1 : Try.prog.cellsOf 42 = 1 := by kernel_rfl
theorem cells_sl2 : Try.prog.cellsOf 43 = 1 := by kernel_rfl
theorem cells_sl3 : Try.prog.cellsOf 44 = 1 := by kernel_rfl
theorem cells_sl4 : Try.prog.cellsOf 36 = 1 := by kernel_rfl
theorem cells_sl5 : Try.prog.cellsOf 37 = 1 := by kernel_rfl
section
variable {H : Type} {enc : TypeId × Value → H} {W : World} {base : Nat} {spare : Nat → Bool} {held : Bool} {fuel : Nat}
set_option maxRecDepth 100000 in
theorem read_state {c : List Value} {x : DataW H × List MemPlace} (h : DataW.trod enc Try.prog W base spare held fuel 46 c = some x) : ∃ s : Sta, c = [.int .i64 s.ep, .int .i64 s.t, .slice s.po s.no s.co, .slice s.pd s.nd s.cd, .slice s.pu s.nu s.cu, .slice s.pi s.ni s.ci, .slice s.pg s.ng s.cg, .int .i64 s.nx] := by
  obtain ⟨xs, n, _, _, hc, hl, hf⟩ := DataW.trod_struct Try.underlying46 h
  rw [cells_state] at hc
  match c, hc with
  | [c0, c1, c2, c3, c4, c5, c6, c7], _ =>
    match xs, hl with
    | [x0, x1, x2, x3, x4, x5, x6, x7], _ =>
      have h0 := hf 0 _ rfl
      have h1 := hf 1 _ rfl
      have h2 := hf 2 _ rfl
      have h3 := hf 3 _ rfl
      have h4 := hf 4 _ rfl
      have h5 := hf 5 _ rfl
      have h6 := hf 6 _ rfl
      have h7 := hf 7 _ rfl
      simp [cells_int, cells_sl0, cells_sl1, cells_sl2, cells_sl3, cells_sl4] at h0 h1 h2 h3 h4 h5 h6 h7
      obtain ⟨ep, e0, _⟩ := read_int h0
      obtain ⟨t, e1, _⟩ := read_int h1
      obtain ⟨po, no, co, e2⟩ := slice_form Try.underlying24 h2
      obtain ⟨pd, nd, cd, e3⟩ := slice_form Try.underlying42 h3
      obtain ⟨pu, nu, cu, e4⟩ := slice_form Try.underlying43 h4
      obtain ⟨pi, ni, ci, e5⟩ := slice_form Try.underlying44 h5
      obtain ⟨pg, ng, cg, e6⟩ := slice_form Try.underlying36 h6
      obtain ⟨nx, e7, _⟩ := read_int h7
      simp at e0 e1 e2 e3 e4 e5 e6 e7
      subst e0 e1 e2 e3 e4 e5 e6 e7
      exact ⟨⟨ep, t, po, no, co, pd, nd, cd, pu, nu, cu, pi, ni, ci, pg, ng, cg, nx⟩, rfl⟩
set_option maxRecDepth 100000 in
theorem read_rec {c : List Value} {x : DataW H × List MemPlace} (h : DataW.trod enc Try.prog W base spare held fuel 48 c = some x) : ∃ r : Rcd, c = [.int .i64 r.k, .int .i64 r.n, .int .i64 r.f, .slice r.pc r.nc r.cc, .int .i64 (r.b).s, .int .i64 (r.b).i, .int .i64 (r.b).g, .int .i64 (r.b).m, .int .i64 (r.b).x, .int .i64 (r.b).y, .int .i64 (r.b).vx, .int .i64 (r.b).vy, .int .i64 (r.b).hp, .int .i64 (r.b).pw, .int .i64 (r.b).lf, .slice r.pl r.nl r.cl, .int .i64 r.s.ep, .int .i64 r.s.t, .slice r.s.po r.s.no r.s.co, .slice r.s.pd r.s.nd r.s.cd, .slice r.s.pu r.s.nu r.s.cu, .slice r.s.pi r.s.ni r.s.ci, .slice r.s.pg r.s.ng r.s.cg, .int .i64 r.s.nx] ∧ ∃ l, BIn W (.slice r.pl r.nl r.cl) l := by
  obtain ⟨xs, n, _, _, hc, hl, hf⟩ := DataW.trod_struct Try.underlying48 h
  rw [cells_rec] at hc
  match c, hc with
  | [c0, c1, c2, c3, c4, c5, c6, c7, c8, c9, c10, c11, c12, c13, c14, c15, c16, c17, c18, c19, c20, c21, c22, c23], _ =>
    match xs, hl with
    | [x0, x1, x2, x3, x4, x5, x6], _ =>
      have h0 := hf 0 _ rfl
      have h1 := hf 1 _ rfl
      have h2 := hf 2 _ rfl
      have h3 := hf 3 _ rfl
      have h4 := hf 4 _ rfl
      have h5 := hf 5 _ rfl
      have h6 := hf 6 _ rfl
      simp [cells_int, cells_sl0, cells_sl5, cells_bun, cells_state] at h0 h1 h2 h3 h4 h5 h6
      obtain ⟨k, e0, _⟩ := read_int h0
      obtain ⟨n, e1, _⟩ := read_int h1
      obtain ⟨f, e2, _⟩ := read_int h2
      obtain ⟨pc, nc, cc, e3⟩ := slice_form Try.underlying37 h3
      obtain ⟨s', i', g', m', x', y', vx', vy', hp', pw', lf', e4, _⟩ := read_bun h4
      obtain ⟨pl, cl, l, e5, hb⟩ := buns_cells h5
      obtain ⟨s, e6⟩ := read_state h6
      simp at e0 e1 e2 e3 e4 e5 e6
      obtain ⟨y0, y1, y2, y3, y4, y5, y6, y7, y8, y9, y10⟩ := e4
      obtain ⟨z0, z1, z2, z3, z4, z5, z6, z7⟩ := e6
      subst e0 e1 e2 e3 e5 y0 y1 y2 y3 y4 y5 y6 y7 y8 y9 y10 z0 z1 z2 z3 z4 z5 z6 z7
      exact ⟨⟨k, n, f, pc, nc, cc, ⟨s', i', g', m', x', y', vx', vy', hp', pw', lf'⟩, pl, l.length, cl, s⟩, rfl, l, hb⟩
omit enc W base spare held fuel in
theorem cut34 (c : List Value) (h : c.length = 34) : c = (c.drop 0).take 7 ++ ((c.drop 7).take 1 ++ ((c.drop 8).take 1 ++ ((c.drop 9).take 1 ++ (c.drop 10).take 24))) := by
  have e4 : (c.drop 10).take 24 = c.drop 10 := List.take_of_length_le (by simp; omega)
  have s : ∀ k n, (c.drop k).take n ++ c.drop (k + n) = c.drop k := fun k n => by
    have := List.take_append_drop n (c.drop k)
    rwa [List.drop_drop] at this
  rw [e4, s 9 1, s 8 1, s 7 1, s 0 7]
  rfl
set_option maxRecDepth 100000 in
theorem read_case {c : List Value} {x : DataW H × List MemPlace} (h : DataW.trod enc Try.prog W base spare held fuel 50 c = some x) :
    ∃ (cols rows side radius speed ids queue z t : Int) (p : Option Addr) (cap : Nat) (L : List Gh) (r : Rcd), c = [.int .i64 cols, .int .i64 rows, .int .i64 side, .int .i64 radius, .int .i64 speed, .int .i64 ids, .int .i64 queue, .int .i64 z, .int .i64 t, .slice p L.length cap, .int .i64 r.k, .int .i64 r.n, .int .i64 r.f, .slice r.pc r.nc r.cc, .int .i64 (r.b).s, .int .i64 (r.b).i, .int .i64 (r.b).g, .int .i64 (r.b).m, .int .i64 (r.b).x, .int .i64 (r.b).y, .int .i64 (r.b).vx, .int .i64 (r.b).vy, .int .i64 (r.b).hp, .int .i64 (r.b).pw, .int .i64 (r.b).lf, .slice r.pl r.nl r.cl, .int .i64 r.s.ep, .int .i64 r.s.t, .slice r.s.po r.s.no r.s.co, .slice r.s.pd r.s.nd r.s.cd, .slice r.s.pu r.s.nu r.s.cu, .slice r.s.pi r.s.ni r.s.ci, .slice r.s.pg r.s.ng r.s.cg, .int .i64 r.s.nx] ∧ RIn ghL W (.slice p L.length cap) L ∧ (∀ g ∈ L, ∃ l, BIn W (.slice g.p g.n g.c) l) ∧ ∃ l, BIn W (.slice r.pl r.nl r.cl) l := by
  obtain ⟨xs, n, _, _, hc, hl, hf⟩ := DataW.trod_struct Try.underlying50 h
  rw [cells_case] at hc
  match xs, hl with
  | [x0, x1, x2, x3, x4], _ =>
    have h0 := hf 0 _ rfl
    have h1 := hf 1 _ rfl
    have h2 := hf 2 _ rfl
    have h3 := hf 3 _ rfl
    have h4 := hf 4 _ rfl
    simp only [List.getElem_toArray, List.getElem_cons_zero, List.getElem_cons_succ, cells_int, cells_cfg, cells_sl4, cells_rec] at h0 h1 h2 h3 h4
    obtain ⟨cols, rows, side, radius, speed, ids, queue, e0⟩ := read_cfg h0
    obtain ⟨z, e1, _⟩ := read_int h1
    obtain ⟨t, e2, _⟩ := read_int h2
    obtain ⟨p, cap, L, e3, hL, hg⟩ := ghosts_cells h3
    obtain ⟨r, e4, hr⟩ := read_rec h4
    refine ⟨cols, rows, side, radius, speed, ids, queue, z, t, p, cap, L, r, ?_, hL, hg, hr⟩
    rw [cut34 c hc, e0, e1, e2, e3, e4]
    rfl
end
end Go.Proofs.Ytcnclcfipabimaa
namespace Go.Proofs.Ytcnclcfipabimaa
open Go.ChangeShapes Go.WideShapes Go.ChangeAt Go.RowKit
set_option maxRecDepth 100000 in
theorem read_cmdF {H : Type} {enc : TypeId × Value → H} {w : World} {base : Nat} {spare : Nat → Bool} {held : Bool} {fuel : Nat} {c : List Value} {x : DataW H × List MemPlace} (h : DataW.trod enc Try.prog w base spare held fuel 93 c = some x) : ∃ m : Cm, c = cmC m ∧ CmFit m := by
  obtain ⟨xs, n, _, _, hc, hl, hf⟩ := DataW.trod_struct Try.underlying93 h
  rw [cells_cmd] at hc
  match c, hc with
  | [c0, c1, c2, c3, c4, c5, c6, c7, c8, c9, c10, c11, c12, c13, c14, c15], _ =>
    match xs, hl with
    | [x0, x1, x2, x3], _ =>
      have h0 := hf 0 _ rfl
      have h1 := hf 1 _ rfl
      have h2 := hf 2 _ rfl
      have h3 := hf 3 _ rfl
      simp [cells_int, cells_id, cells_bun] at h0 h1 h2 h3
      obtain ⟨k, e0, _⟩ := read_int h0
      obtain ⟨s, i, g, e1, _⟩ := read_id h1
      obtain ⟨es, ei, eg, m, x, y, vx, vy, hp, pw, lf, e2, hb⟩ := read_bun h2
      obtain ⟨mask, e3, hk⟩ := read_int h3
      simp at e0 e1 e2 e3
      obtain ⟨e10, e11, e12⟩ := e1
      obtain ⟨f0, f1, f2, f3, f4, f5, f6, f7, f8, f9, f10⟩ := e2
      subst e0 e10 e11 e12 f0 f1 f2 f3 f4 f5 f6 f7 f8 f9 f10 e3
      exact ⟨⟨k, s, i, g, ⟨es, ei, eg, m, x, y, vx, vy, hp, pw, lf⟩, mask⟩, rfl, hb, hk⟩
set_option maxRecDepth 100000 in
theorem cmds_in {H : Type} {enc : TypeId × Value → H} {W : World} {base b0 : Nat} {spare : Nat → Bool} {held : Bool} {r : Reach} {v : Value} {d : DataW H} {p : List MemPlace} (hv : Value.okWide Try.prog W r b0 37 v) (h : DataW.Trod enc Try.prog W base spare held 37 v d p) : ∃ l, RIn cmC W v l ∧ ∀ m ∈ l, CmFit m := by
  obtain ⟨a, len, cap, rfl⟩ := Go.WideShapes.okWide_slice Try.underlying37 hv
  obtain ⟨fuel, hf⟩ := h
  have hf' : DataW.trod enc Try.prog W base spare held fuel 37 [.slice a len cap] = some (d, p) := by simpa [Value.cells] using hf
  obtain ⟨p', cap', l, e, hr, hg⟩ := slice_cells (en := cmC) (size := 16) (Good := CmFit) cmC_len (by omega) Try.underlying37 cells_cmd (fun ht => read_cmdF ht) hf'
  simp only [List.cons.injEq, and_true] at e
  rw [e]
  exact ⟨l, hr, hg⟩
end Go.Proofs.Ytcnclcfipabimaa
namespace Go.Proofs.Ytcnclcfipabimaa
open Go.ChangeShapes Go.WideShapes Go.ChangeAt Go.RowKit

theorem cells_case15 : Try.prog.cellsOf 87 = 11 := by kernel_rfl
theorem cells_cs15 : Try.prog.cellsOf 37 = 1 := by kernel_rfl
set_option maxRecDepth 100000 in
theorem bunsF_cells {H : Type} {enc : TypeId × Value → H} {W : World} {base : Nat} {spare : Nat → Bool} {held : Bool} {fuel : Nat} {c : List Value} {x : DataW H × List MemPlace} (h : DataW.trod enc Try.prog W base spare held fuel 24 c = some x) : ∃ p cap l, c = [.slice p l.length cap] ∧ RIn bunL W (.slice p l.length cap) l ∧ ∀ b ∈ l, BFit b :=
  slice_cells (en := bunL) (size := 11) (Good := BFit) bunL_len (by omega) Try.underlying24 cells_bun (fun ht => by obtain ⟨s', i', g', m', x', y', vx', vy', hp', pw', lf', rfl, hfit⟩ := read_bun ht; exact ⟨⟨s', i', g', m', x', y', vx', vy', hp', pw', lf'⟩, rfl, hfit⟩) h
set_option maxRecDepth 100000 in
theorem cmdsF_cells {H : Type} {enc : TypeId × Value → H} {W : World} {base : Nat} {spare : Nat → Bool} {held : Bool} {fuel : Nat} {c : List Value} {x : DataW H × List MemPlace} (h : DataW.trod enc Try.prog W base spare held fuel 37 c = some x) : ∃ p cap l, c = [.slice p l.length cap] ∧ RIn cmC W (.slice p l.length cap) l ∧ ∀ m ∈ l, CmFit m :=
  slice_cells (en := cmC) (size := 16) (Good := CmFit) cmC_len (by omega) Try.underlying37 cells_cmd (fun ht => read_cmdF ht) h
set_option maxRecDepth 100000 in
theorem read_case15 {H : Type} {enc : TypeId × Value → H} {W : World} {base : Nat} {spare : Nat → Bool} {held : Bool} {fuel : Nat} {c : List Value} {x : DataW H × List MemPlace} (h : DataW.trod enc Try.prog W base spare held fuel 87 c = some x) :
    ∃ (cols rows side radius speed ids queue z : Int) (po pn pc : Option Addr) (eo en ec : Nat) (own near : List Bun) (ms : List Cm), c = [.int .i64 cols, .int .i64 rows, .int .i64 side, .int .i64 radius, .int .i64 speed, .int .i64 ids, .int .i64 queue, .int .i64 z, .slice po own.length eo, .slice pn near.length en, .slice pc ms.length ec] ∧
      BIn W (.slice po own.length eo) own ∧ BIn W (.slice pn near.length en) near ∧ RIn cmC W (.slice pc ms.length ec) ms ∧ (∀ b ∈ own, BFit b) ∧ (∀ b ∈ near, BFit b) ∧ (∀ m ∈ ms, CmFit m) ∧ (-9223372036854775808 ≤ z ∧ z ≤ 9223372036854775807) := by
  obtain ⟨xs, n, _, _, hc, hl, hf⟩ := DataW.trod_struct Try.underlying87 h
  rw [cells_case15] at hc
  match c, hc with
  | [c0, c1, c2, c3, c4, c5, c6, c7, c8, c9, c10], _ =>
    match xs, hl with
    | [x0, x1, x2, x3, x4], _ =>
      have h0 := hf 0 _ rfl
      have h1 := hf 1 _ rfl
      have h2 := hf 2 _ rfl
      have h3 := hf 3 _ rfl
      have h4 := hf 4 _ rfl
      simp [cells_int, cells_cfg, cells_bs, cells_cs15] at h0 h1 h2 h3 h4
      obtain ⟨cols, rows, side, radius, speed, ids, queue, e0⟩ := read_cfg h0
      obtain ⟨z, e1, hz⟩ := read_int h1
      obtain ⟨po, eo, own, e2, b2, f2⟩ := bunsF_cells h2
      obtain ⟨pn, en, near, e3, b3, f3⟩ := bunsF_cells h3
      obtain ⟨pc, ec, ms, e4, b4, f4⟩ := cmdsF_cells h4
      simp at e0 e1 e2 e3 e4
      obtain ⟨g0, g1, g2, g3, g4, g5, g6⟩ := e0
      subst g0 g1 g2 g3 g4 g5 g6 e1 e2 e3 e4
      exact ⟨cols, rows, side, radius, speed, ids, queue, z, po, pn, pc, eo, en, ec, own, near, ms, rfl, b2, b3, b4, f2, f3, f4, hz⟩
end Go.Proofs.Ytcnclcfipabimaa
