/-
  How a slice that came in reads, of structs of any kind; a state, a record, what was told. No condition.
-/
import Derived.Test.YtcnclcfipabimaaRdC
import Derived.Test.YtcnclcfipabimaaSoP
import Derived.Test.YtcnclcfipabimaaSoQ
import Derived.Test.YtcnclcfipabimaaMgc
namespace Go.Proofs.Ytcnclcfipabimaa
open Go.ChangeShapes Go.WideShapes Go.ChangeAt Go.RowKit
theorem cellsR_split {β : Type} {enc : β → List Value} {size : Nat} (hk : ∀ x, (enc x).length = size) : ∀ (l : List β) (t : Nat) (u : Value), (cellsR enc l)[t]? = some u → ∃ b, l[t / size]? = some b ∧ (enc b)[t % size]? = some u := fun l t u h => by
  have hlt := (List.getElem?_eq_some_iff.1 h).1
  rw [cellsR_len enc size hk] at hlt
  have hs : 0 < size := by rcases Nat.eq_zero_or_pos size with h | h; · subst h; omega
                           · exact h
  have hd : t / size < l.length := (Nat.div_lt_iff_lt_mul hs).2 hlt
  refine ⟨l[t / size], List.getElem?_eq_getElem hd, ?_⟩
  have e := cellsR_get enc size hk l (t / size) (t % size) _ (List.getElem?_eq_getElem hd) (Nat.mod_lt _ hs)
  rw [← e, Nat.mul_comm, Nat.div_add_mod]
  exact h
section
variable {H : Type} {enc : TypeId × Value → H} {W : World} {base : Nat} {spare : Nat → Bool} {held : Bool} {fuel : Nat}
/-- Its form alone. -/
theorem slice_form {TS T : TypeId} (hT : Try.prog.underlying TS = some (.slice T)) {c : List Value} {x : DataW H × List MemPlace} (h : DataW.trod enc Try.prog W base spare held fuel TS c = some x) : ∃ p n cap, c = [.slice p n cap] := by
  rcases Go.Deep.open_slice hT h with ⟨h0, _⟩ | ⟨a, len', cap', m, n, D, Pl, h0, _⟩
  · exact ⟨_, _, _, h0⟩
  · exact ⟨_, _, _, h0⟩
/-- What it holds. -/
theorem slice_cells {β : Type} {en : β → List Value} {size : Nat} (hk : ∀ x, (en x).length = size) (hs : 0 < size) {Good : β → Prop} {TS T : TypeId} (hT : Try.prog.underlying TS = some (.slice T)) (hz : Try.prog.cellsOf T = size)
    (rd : ∀ {fuel : Nat} {c : List Value} {x : DataW H × List MemPlace}, DataW.trod enc Try.prog W base spare held fuel T c = some x → ∃ b, c = en b ∧ Good b)
    {c : List Value} {x : DataW H × List MemPlace} (h : DataW.trod enc Try.prog W base spare held fuel TS c = some x) : ∃ p cap l, c = [.slice p l.length cap] ∧ RIn en W (.slice p l.length cap) l ∧ ∀ b ∈ l, Good b := by
  rcases Go.Deep.open_slice hT h with ⟨h0, _⟩ | ⟨⟨b, off, sp⟩, len, cap, m, n, D, Pl, h0, _, hl, hm, hmm, _, hi⟩
  · exact ⟨none, 0, [], h0, ⟨none, 0, rfl, by simp [maxLen], fun _ => rfl, Nat.le_refl _, fun h => absurd rfl h⟩, by simp⟩
  · subst h0
    have hle : len ≤ m := by rw [hmm]; split <;> omega
    rw [hz] at hi
    by_cases hz0 : len = 0
    · subst hz0
      exact ⟨_, cap, [], rfl, ⟨_, cap, rfl, by simp [maxLen], (fun h => by cases h), Nat.zero_le _, fun h => absurd rfl h⟩, by simp⟩
    have hsp : sp = none := by
      obtain ⟨cs', hc, ht⟩ := hi 0 (by omega)
      obtain ⟨_, hlen, hcell⟩ := World.cells?_some hc
      have hc0 := hcell 0 (by omega)
      rw [List.getElem?_eq_getElem (by omega)] at hc0
      simp only [Addr.add, Nat.zero_mul, if_true] at hc0
      cases sp with
      | none => rfl
      | some q =>
        simp only [World.cell?, Option.isSome_some, if_true] at hc0
        split at hc0 <;> cases hc0
    subst hsp
    have hq : ∀ q, q < len → ∃ c : β, (∀ j, j < size → W.cell? ⟨b, off + q * size + j, none⟩ = (en c)[j]?) ∧ Good c := by
      intro q hql
      obtain ⟨cs', hc, ht⟩ := hi q (by omega)
      obtain ⟨_, hlen, hcell⟩ := World.cells?_some hc
      obtain ⟨y, rfl, hfit⟩ := rd ht
      refine ⟨y, fun j hj => ?_, hfit⟩
      have e : (⟨b, off + q * size + j, none⟩ : Addr) = ((⟨b, off, none⟩ : Addr).add (q * size)).add j := by
        unfold Addr.add
        by_cases h1 : q * size = 0
        · by_cases h2 : j = 0 <;> simp [h1, h2]
        · by_cases h2 : j = 0 <;> simp [h1, h2]
      rw [e]
      exact hcell j hj
    obtain ⟨l, hll, hlp⟩ := list_of len hq
    subst hll
    refine ⟨_, cap, l, rfl, ⟨some ⟨b, off, none⟩, cap, rfl, by omega, (fun h => by cases h), by omega, fun hn => ⟨b, off, rfl, ?_, fun t u hu => ?_⟩⟩, fun c hc => ?_⟩
    · have h1 : 0 < l.length := List.length_pos_iff.2 hn
      have h0 := (hlp 0 l[0] (List.getElem?_eq_getElem h1)).1 0 hs
      have h2 : 0 < (en l[0]).length := by rw [hk]; exact hs
      rw [List.getElem?_eq_getElem h2] at h0
      exact World.block_lt_of_cell? W _ h0
    · obtain ⟨c, hc, hcu⟩ := cellsR_split hk l t u hu
      have h1 := (hlp _ c hc).1 (t % size) (Nat.mod_lt _ hs)
      rw [show off + t = off + t / size * size + t % size by rw [Nat.add_assoc, Nat.mul_comm, Nat.div_add_mod], h1, hcu]
    · obtain ⟨q, hi', e⟩ := List.getElem_of_mem hc
      exact (hlp q c (by rw [← e]; exact List.getElem?_eq_getElem hi')).2

theorem buns_cells {c : List Value} {x : DataW H × List MemPlace} (h : DataW.trod enc Try.prog W base spare held fuel 24 c = some x) : ∃ p cap l, c = [.slice p l.length cap] ∧ BIn W (.slice p l.length cap) l :=
  let ⟨p, cap, l, h1, h2, _⟩ := slice_cells (en := bunL) (Good := fun _ => True) (fun _ => rfl) (by omega) Try.underlying24 cells_bun (fun ht => by obtain ⟨s', i', g', m', x', y', vx', vy', hp', pw', lf', rfl, _⟩ := read_bun ht; exact ⟨⟨s', i', g', m', x', y', vx', vy', hp', pw', lf'⟩, rfl, trivial⟩) h
  ⟨p, cap, l, h1, h2⟩

theorem cells_gh : Try.prog.cellsOf 64 = 3 := by kernel_rfl
theorem cells_bs : Try.prog.cellsOf 24 = 1 := by kernel_rfl
set_option maxRecDepth 100000 in
theorem read_gh {c : List Value} {x : DataW H × List MemPlace} (h : DataW.trod enc Try.prog W base spare held fuel 64 c = some x) :
    ∃ g : Gh, c = ghL g ∧ ∃ l, BIn W (.slice g.p g.n g.c) l := by
  obtain ⟨xs, n, _, _, hc, hl, hf⟩ := DataW.trod_struct Try.underlying64 h
  rw [cells_gh] at hc
  match c, hc with
  | [c0, c1, c2], _ =>
    match xs, hl with
    | [x0, x1, x2], _ =>
      have h0 := hf 0 _ rfl
      have h1 := hf 1 _ rfl
      have h2 := hf 2 _ rfl
      simp [cells_int, cells_bs] at h0 h1 h2
      obtain ⟨f, e0, _⟩ := read_int h0
      obtain ⟨t, e1, _⟩ := read_int h1
      obtain ⟨p, cap, l, e2, hb⟩ := buns_cells h2
      simp at e0 e1 e2
      subst e0 e1 e2
      exact ⟨⟨f, t, p, l.length, cap⟩, rfl, l, hb⟩
theorem ghosts_cells {c : List Value} {x : DataW H × List MemPlace} (h : DataW.trod enc Try.prog W base spare held fuel 36 c = some x) : ∃ p cap L, c = [.slice p L.length cap] ∧ RIn ghL W (.slice p L.length cap) L ∧ ∀ g ∈ L, ∃ l, BIn W (.slice g.p g.n g.c) l :=
  slice_cells (Good := fun g : Gh => ∃ l, BIn W (.slice g.p g.n g.c) l) ghL_len (by omega) Try.underlying36 cells_gh (fun ht => read_gh ht) h
end
end Go.Proofs.Ytcnclcfipabimaa
