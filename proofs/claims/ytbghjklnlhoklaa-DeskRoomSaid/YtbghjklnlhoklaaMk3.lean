/-
  The frame of a statement 'returns true, and each argument reads as it did': from a walk whose end says that of what was there nothing has turned. And how a name, an entity, a command reads: so many integers. No condition.
  How a slice that came in reads, of structs of any kind; a command. No condition.
-/
import Derived.Test.YtbghjklnlhoklaaRows
import Derived.Test.YtbghjklnlhoklaaMk2
import Derived.WalkKit
import Derived.ProofKit
import Derived.OpenShut
import Derived.Carry
import Derived.Test.YtbghjklnlhoklaaMk1
import Derived.Deep.Slices
namespace Go.Proofs.Ytbghjklnlhoklaa
open Go.ChangeShapes Go.WideShapes Go.ChangeAt Go.RowKit

theorem ownKnob0 : ownKnob Try.prog.godebug = none := by kernel_rfl
theorem laidOut : laidOutB Try.prog = true := by kernel_rfl

theorem trodAll_stays {H : Type} {enc : TypeId × Value → H} {W W' : World} {sp : Nat → Bool} : ∀ {ts : List TypeId} {vs : List Value} {ds : List (DataW H)} {ps : List MemPlace},
    DataW.TrodAll enc Try.prog W 0 (fun _ => true) true ts vs ds ps → (∀ t ∈ ts, Try.prog.readableRec t = true ∧ t < Try.prog.types.size) → (∀ p ∈ ps, W.sameAt W' p) → (∀ p ∈ ps, sp p.block = true) →
    DataW.TrodAll enc Try.prog W' 0 sp true ts vs ds ps
  | [], [], [], _, h, _, _, _ => h
  | t :: ts, v :: vs, d :: ds, _, h, hr, hs, hp => by
    obtain ⟨p, q, h1, h2, rfl⟩ := h
    obtain ⟨r1, r2⟩ := hr t List.mem_cons_self
    exact ⟨p, q, WideElems.Trod_stays laidOut r1 r2 h1 (fun x hx => hs x (List.mem_append_left _ hx)) (fun x hx => hp x (List.mem_append_left _ hx)),
      trodAll_stays h2 (fun t ht => hr t (List.mem_cons_of_mem _ ht)) (fun x hx => hs x (List.mem_append_right _ hx)) (fun x hx => hp x (List.mem_append_right _ hx)), rfl⟩

/-- The statement's end, of any law. -/
theorem post_true {H : Type} {enc : TypeId × Value → H} {f : Func} {s : ChangeSpec} {W W' : World} {args : Array Value} {ds gs : List (DataW H)} {before : List MemPlace}
    (hv : s.vars = []) (hr : f.resultTypes = #[4]) (hread : ∀ t ∈ f.params.toList, Try.prog.readableRec t = true ∧ t < Try.prog.types.size)
    (hs : s.fn H (ds ++ gs) = { results := [.lit (.bool true)], args := ds })
    (hW : DataW.Whole enc Try.prog f.params.toList s.vars false W args.toList ds gs before) (hb : Below W.heap.size W W') :
    s.post enc Try.prog f false true false false W args (.bool true) W' := by
  have hlt := hW.lt
  have hW' := hW
  obtain ⟨p, q, hA, hV, rfl, _⟩ := hW'
  refine ⟨ds, gs, p ++ q, [], p, [], hW, ?_, ?_, ?_, hb.frame _, fun h => by cases h⟩
  · rw [hs, hr]
    exact trodAll_cons_mk (shut_bool Try.underlying4 true) trodAll_mk0
  · rw [hs]
    exact trodAll_stays hA hread (fun x hx => hb.same (hlt x (List.mem_append_left _ hx))) (fun x hx => by simpa using hlt x (List.mem_append_left _ hx))
  · rw [hs, hv]
    rfl

theorem cells_id : Try.prog.cellsOf 33 = 3 := by kernel_rfl
theorem cells_int : Try.prog.cellsOf 3 = 1 := by kernel_rfl
theorem cells_bun : Try.prog.cellsOf 35 = 11 := by kernel_rfl
theorem cells_cmd : Try.prog.cellsOf 37 = 16 := by kernel_rfl

theorem i64_of_wf {n : Int} (h : (Lit.int .i64 n).wf = true) : -9223372036854775808 ≤ n ∧ n ≤ 9223372036854775807 := by
  simpa [Lit.wf, IntKind.min, IntKind.max, IntKind.bits, IntKind.signed] using h

section
variable {H : Type} {enc : TypeId × Value → H} {w : World} {base : Nat} {spare : Nat → Bool} {held : Bool} {fuel : Nat}

theorem read_int {c : List Value} {x : DataW H × List MemPlace} (h : DataW.trod enc Try.prog w base spare held fuel 3 c = some x) : ∃ n, c = [.int .i64 n] ∧ -9223372036854775808 ≤ n ∧ n ≤ 9223372036854775807 := by
  obtain ⟨n, h1, _, h3⟩ := DataW.trod_int Try.underlying3 h
  exact ⟨n, h1, i64_of_wf h3⟩

set_option maxRecDepth 100000 in
theorem read_id {c : List Value} {x : DataW H × List MemPlace} (h : DataW.trod enc Try.prog w base spare held fuel 33 c = some x) :
    ∃ s i g : Int, c = [.int .i64 s, .int .i64 i, .int .i64 g] ∧ (-9223372036854775808 ≤ s ∧ s ≤ 9223372036854775807) ∧ (-9223372036854775808 ≤ i ∧ i ≤ 9223372036854775807) ∧ (-9223372036854775808 ≤ g ∧ g ≤ 9223372036854775807) := by
  obtain ⟨xs, n, _, _, hc, hl, hf⟩ := DataW.trod_struct Try.underlying33 h
  rw [cells_id] at hc
  match c, hc with
  | [c0, c1, c2], _ =>
    match xs, hl with
    | [x0, x1, x2], _ =>
      have h0 := hf 0 _ rfl
      have h1 := hf 1 _ rfl
      have h2 := hf 2 _ rfl
      simp [cells_int] at h0 h1 h2
      obtain ⟨s, e0, b0⟩ := read_int h0
      obtain ⟨i, e1, b1⟩ := read_int h1
      obtain ⟨g, e2, b2⟩ := read_int h2
      simp at e0 e1 e2
      subst e0 e1 e2
      exact ⟨s, i, g, rfl, b0, b1, b2⟩

set_option maxRecDepth 100000 in
theorem read_bun {c : List Value} {x : DataW H × List MemPlace} (h : DataW.trod enc Try.prog w base spare held fuel 35 c = some x) :
    ∃ s i g m x y vx vy hp pw lf : Int, c = [.int .i64 s, .int .i64 i, .int .i64 g, .int .i64 m, .int .i64 x, .int .i64 y, .int .i64 vx, .int .i64 vy, .int .i64 hp, .int .i64 pw, .int .i64 lf] ∧ (-9223372036854775808 ≤ s ∧ s ≤ 9223372036854775807) ∧ (-9223372036854775808 ≤ i ∧ i ≤ 9223372036854775807) ∧ (-9223372036854775808 ≤ g ∧ g ≤ 9223372036854775807) ∧ (-9223372036854775808 ≤ m ∧ m ≤ 9223372036854775807) ∧ (-9223372036854775808 ≤ x ∧ x ≤ 9223372036854775807) ∧ (-9223372036854775808 ≤ y ∧ y ≤ 9223372036854775807) ∧ (-9223372036854775808 ≤ vx ∧ vx ≤ 9223372036854775807) ∧ (-9223372036854775808 ≤ vy ∧ vy ≤ 9223372036854775807) ∧ (-9223372036854775808 ≤ hp ∧ hp ≤ 9223372036854775807) ∧ (-9223372036854775808 ≤ pw ∧ pw ≤ 9223372036854775807) ∧ (-9223372036854775808 ≤ lf ∧ lf ≤ 9223372036854775807) := by
  obtain ⟨xs, n, _, _, hc, hl, hf⟩ := DataW.trod_struct Try.underlying35 h
  rw [cells_bun] at hc
  match c, hc with
  | [c0, c1, c2, c3, c4, c5, c6, c7, c8, c9, c10], _ =>
    match xs, hl with
    | [x0, x1, x2, x3, x4, x5, x6, x7, x8], _ =>
      have h0 := hf 0 _ rfl
      have h1 := hf 1 _ rfl
      have h2 := hf 2 _ rfl
      have h3 := hf 3 _ rfl
      have h4 := hf 4 _ rfl
      have h5 := hf 5 _ rfl
      have h6 := hf 6 _ rfl
      have h7 := hf 7 _ rfl
      have h8 := hf 8 _ rfl
      simp [cells_int, cells_id] at h0 h1 h2 h3 h4 h5 h6 h7 h8
      obtain ⟨s, i, g, e0, b0, b1, b2⟩ := read_id h0
      obtain ⟨m, e1, d1⟩ := read_int h1
      obtain ⟨x, e2, d2⟩ := read_int h2
      obtain ⟨y, e3, d3⟩ := read_int h3
      obtain ⟨vx, e4, d4⟩ := read_int h4
      obtain ⟨vy, e5, d5⟩ := read_int h5
      obtain ⟨hp, e6, d6⟩ := read_int h6
      obtain ⟨pw, e7, d7⟩ := read_int h7
      obtain ⟨lf, e8, d8⟩ := read_int h8
      simp at e0 e1 e2 e3 e4 e5 e6 e7 e8
      obtain ⟨e0, e00, e01⟩ := e0
      subst e0 e00 e01 e1 e2 e3 e4 e5 e6 e7 e8
      exact ⟨s, i, g, m, x, y, vx, vy, hp, pw, lf, rfl, b0, b1, b2, d1, d2, d3, d4, d5, d6, d7, d8⟩

set_option maxRecDepth 100000 in
theorem read_cmd {c : List Value} {x : DataW H × List MemPlace} (h : DataW.trod enc Try.prog w base spare held fuel 37 c = some x) :
    ∃ k s i g es ei eg m x y vx vy hp pw lf mask : Int, c = [.int .i64 k, .int .i64 s, .int .i64 i, .int .i64 g, .int .i64 es, .int .i64 ei, .int .i64 eg, .int .i64 m, .int .i64 x, .int .i64 y, .int .i64 vx, .int .i64 vy, .int .i64 hp, .int .i64 pw, .int .i64 lf, .int .i64 mask] ∧ (-9223372036854775808 ≤ m ∧ m ≤ 9223372036854775807) ∧ (-9223372036854775808 ≤ mask ∧ mask ≤ 9223372036854775807) := by
  obtain ⟨xs, n, _, _, hc, hl, hf⟩ := DataW.trod_struct Try.underlying37 h
  rw [cells_cmd] at hc
  match c, hc with
  | [c0, c1, c2, c3, c4, c5, c6, c7, c8, c9, c10, c11, c12, c13, c14, c15], _ =>
    match xs, hl with
    | [x0, x1, x2, x3], _ =>
      have h0 := hf 0 _ rfl
      have h1 := hf 1 _ rfl
      have h2 := hf 2 _ rfl
      have h3 := hf 3 _ rfl
      simp [cells_int, cells_id, cells_bun] at h0 h1 h2 h3
      obtain ⟨k, e0, _⟩ := read_int h0
      obtain ⟨s, i, g, e1, _⟩ := read_id h1
      obtain ⟨es, ei, eg, m, x, y, vx, vy, hp, pw, lf, e2, _, _, _, hm, _⟩ := read_bun h2
      obtain ⟨mask, e3, hk⟩ := read_int h3
      simp at e0 e1 e2 e3
      obtain ⟨e10, e11, e12⟩ := e1
      obtain ⟨f0, f1, f2, f3, f4, f5, f6, f7, f8, f9, f10⟩ := e2
      subst e0 e10 e11 e12 f0 f1 f2 f3 f4 f5 f6 f7 f8 f9 f10 e3
      exact ⟨k, s, i, g, es, ei, eg, m, x, y, vx, vy, hp, pw, lf, mask, rfl, hm, hk⟩
end

set_option maxRecDepth 100000 in
/-- An argument that is a struct: its cells. -/
theorem agg_of {H : Type} {enc : TypeId × Value → H} {W : World} {base b0 : Nat} {spare : Nat → Bool} {held : Bool} {r : Reach} {t : TypeId} {fs : Array Field} {v : Value} {d : DataW H} {p : List MemPlace} (hs : Try.prog.underlying t = some (.struct fs))
    (hv : Value.okWide Try.prog W r b0 t v) (h : DataW.Trod enc Try.prog W base spare held t v d p) : ∃ (c : List Value) (fuel : Nat), v = .agg c.toArray ∧ DataW.trod enc Try.prog W base spare held fuel t c = some (d, p) := by
  obtain ⟨⟨c⟩, rfl, _⟩ := okWide_struct hs hv
  obtain ⟨fuel, hf⟩ := h
  exact ⟨c, fuel, rfl, by simpa [Value.cells] using hf⟩

end Go.Proofs.Ytbghjklnlhoklaa
namespace Go.Proofs.Ytbghjklnlhoklaa
open Go.ChangeShapes Go.WideShapes Go.ChangeAt Go.RowKit
theorem cellsR_split {β : Type} {enc : β → List Value} {size : Nat} (hk : ∀ x, (enc x).length = size) : ∀ (l : List β) (t : Nat) (u : Value), (cellsR enc l)[t]? = some u → ∃ b, l[t / size]? = some b ∧ (enc b)[t % size]? = some u := fun l t u h => by
  have hlt := (List.getElem?_eq_some_iff.1 h).1
  rw [cellsR_len enc size hk] at hlt
  have hs : 0 < size := by rcases Nat.eq_zero_or_pos size with h | h; · subst h; omega
                           · exact h
  have hd : t / size < l.length := (Nat.div_lt_iff_lt_mul hs).2 hlt
  refine ⟨l[t / size], List.getElem?_eq_getElem hd, ?_⟩
  have e := cellsR_get enc size hk l (t / size) (t % size) _ (List.getElem?_eq_getElem hd) (Nat.mod_lt _ hs)
  rw [← e, Nat.mul_comm, Nat.div_add_mod]
  exact h
section
variable {H : Type} {enc : TypeId × Value → H} {W : World} {base : Nat} {spare : Nat → Bool} {held : Bool} {fuel : Nat}
/-- Its form alone. -/
theorem slice_form {TS T : TypeId} (hT : Try.prog.underlying TS = some (.slice T)) {c : List Value} {x : DataW H × List MemPlace} (h : DataW.trod enc Try.prog W base spare held fuel TS c = some x) : ∃ p n cap, c = [.slice p n cap] := by
  rcases Go.Deep.open_slice hT h with ⟨h0, _⟩ | ⟨a, len', cap', m, n, D, Pl, h0, _⟩
  · exact ⟨_, _, _, h0⟩
  · exact ⟨_, _, _, h0⟩
/-- What it holds. -/
theorem slice_cells {β : Type} {en : β → List Value} {size : Nat} (hk : ∀ x, (en x).length = size) (hs : 0 < size) {Good : β → Prop} {TS T : TypeId} (hT : Try.prog.underlying TS = some (.slice T)) (hz : Try.prog.cellsOf T = size)
    (rd : ∀ {fuel : Nat} {c : List Value} {x : DataW H × List MemPlace}, DataW.trod enc Try.prog W base spare held fuel T c = some x → ∃ b, c = en b ∧ Good b)
    {c : List Value} {x : DataW H × List MemPlace} (h : DataW.trod enc Try.prog W base spare held fuel TS c = some x) : ∃ p cap l, c = [.slice p l.length cap] ∧ RIn en W (.slice p l.length cap) l ∧ ∀ b ∈ l, Good b := by
  rcases Go.Deep.open_slice hT h with ⟨h0, _⟩ | ⟨⟨b, off, sp⟩, len, cap, m, n, D, Pl, h0, _, hl, hm, hmm, _, hi⟩
  · exact ⟨none, 0, [], h0, ⟨none, 0, rfl, by simp [maxLen], fun _ => rfl, Nat.le_refl _, fun h => absurd rfl h⟩, by simp⟩
  · subst h0
    have hle : len ≤ m := by rw [hmm]; split <;> omega
    rw [hz] at hi
    by_cases hz0 : len = 0
    · subst hz0
      exact ⟨_, cap, [], rfl, ⟨_, cap, rfl, by simp [maxLen], (fun h => by cases h), Nat.zero_le _, fun h => absurd rfl h⟩, by simp⟩
    have hsp : sp = none := by
      obtain ⟨cs', hc, ht⟩ := hi 0 (by omega)
      obtain ⟨_, hlen, hcell⟩ := World.cells?_some hc
      have hc0 := hcell 0 (by omega)
      rw [List.getElem?_eq_getElem (by omega)] at hc0
      simp only [Addr.add, Nat.zero_mul, if_true] at hc0
      cases sp with
      | none => rfl
      | some q =>
        simp only [World.cell?, Option.isSome_some, if_true] at hc0
        split at hc0 <;> cases hc0
    subst hsp
    have hq : ∀ q, q < len → ∃ c : β, (∀ j, j < size → W.cell? ⟨b, off + q * size + j, none⟩ = (en c)[j]?) ∧ Good c := by
      intro q hql
      obtain ⟨cs', hc, ht⟩ := hi q (by omega)
      obtain ⟨_, hlen, hcell⟩ := World.cells?_some hc
      obtain ⟨y, rfl, hfit⟩ := rd ht
      refine ⟨y, fun j hj => ?_, hfit⟩
      have e : (⟨b, off + q * size + j, none⟩ : Addr) = ((⟨b, off, none⟩ : Addr).add (q * size)).add j := by
        unfold Addr.add
        by_cases h1 : q * size = 0
        · by_cases h2 : j = 0 <;> simp [h1, h2]
        · by_cases h2 : j = 0 <;> simp [h1, h2]
      rw [e]
      exact hcell j hj
    obtain ⟨l, hll, hlp⟩ := list_of len hq
    subst hll
    refine ⟨_, cap, l, rfl, ⟨some ⟨b, off, none⟩, cap, rfl, by omega, (fun h => by cases h), by omega, fun hn => ⟨b, off, rfl, ?_, fun t u hu => ?_⟩⟩, fun c hc => ?_⟩
    · have h1 : 0 < l.length := List.length_pos_iff.2 hn
      have h0 := (hlp 0 l[0] (List.getElem?_eq_getElem h1)).1 0 hs
      have h2 : 0 < (en l[0]).length := by rw [hk]; exact hs
      rw [List.getElem?_eq_getElem h2] at h0
      exact World.block_lt_of_cell? W _ h0
    · obtain ⟨c, hc, hcu⟩ := cellsR_split hk l t u hu
      have h1 := (hlp _ c hc).1 (t % size) (Nat.mod_lt _ hs)
      rw [show off + t = off + t / size * size + t % size by rw [Nat.add_assoc, Nat.mul_comm, Nat.div_add_mod], h1, hcu]
    · obtain ⟨q, hi', e⟩ := List.getElem_of_mem hc
      exact (hlp q c (by rw [← e]; exact List.getElem?_eq_getElem hi')).2
end
set_option maxRecDepth 100000 in
theorem read_cmdF {H : Type} {enc : TypeId × Value → H} {w : World} {base : Nat} {spare : Nat → Bool} {held : Bool} {fuel : Nat} {c : List Value} {x : DataW H × List MemPlace} (h : DataW.trod enc Try.prog w base spare held fuel 37 c = some x) : ∃ m : Cm, c = cmC m ∧ CmFit m := by
  obtain ⟨xs, n, _, _, hc, hl, hf⟩ := DataW.trod_struct Try.underlying37 h
  rw [cells_cmd] at hc
  match c, hc with
  | [c0, c1, c2, c3, c4, c5, c6, c7, c8, c9, c10, c11, c12, c13, c14, c15], _ =>
    match xs, hl with
    | [x0, x1, x2, x3], _ =>
      have h0 := hf 0 _ rfl
      have h1 := hf 1 _ rfl
      have h2 := hf 2 _ rfl
      have h3 := hf 3 _ rfl
      simp [cells_int, cells_id, cells_bun] at h0 h1 h2 h3
      obtain ⟨k, e0, _⟩ := read_int h0
      obtain ⟨s, i, g, e1, _⟩ := read_id h1
      obtain ⟨es, ei, eg, m, x, y, vx, vy, hp, pw, lf, e2, hb⟩ := read_bun h2
      obtain ⟨mask, e3, hk⟩ := read_int h3
      simp at e0 e1 e2 e3
      obtain ⟨e10, e11, e12⟩ := e1
      obtain ⟨f0, f1, f2, f3, f4, f5, f6, f7, f8, f9, f10⟩ := e2
      subst e0 e10 e11 e12 f0 f1 f2 f3 f4 f5 f6 f7 f8 f9 f10 e3
      exact ⟨⟨k, s, i, g, ⟨es, ei, eg, m, x, y, vx, vy, hp, pw, lf⟩, mask⟩, rfl, hb, hk⟩
end Go.Proofs.Ytbghjklnlhoklaa
