/-
  Chapter texts Eq PoolL RefB RefC CmS SyA: what the claim reaches of them. Conditions stand at each theorem.
-/
import Derived.Shelf.SlicesQ.IndexFunc
import Derived.Lib.MinMax
import Derived.Test.YtoimjjhopljdmaaGreatQ01
import Derived.Test.YtoimjjhopljdmaaGreatQ07
import Derived.Test.YtoimjjhopljdmaaGreatQ06
namespace Go.Proofs.YtoimjjhopljdmaaGreat
open Go.RowKit

@[go_sem] theorem alloc_drewN (w : World) (n : Nat) (o : Obj) : (w.drewN n).alloc o = (w.alloc o).drewN n := rfl
@[go_sem] theorem setCell_drewN (w : World) (n : Nat) (a : Addr) (v : Value) : (w.drewN n).setCell a v = (w.setCell a v).drewN n := rfl

@[go_sem high] theorem run_eql_id (s i g s' i' g' : Int) (W : World) :
    (binOp .eql 30 (.agg #[.int .i64 s, .int .i64 i, .int .i64 g]) (.agg #[.int .i64 s', .int .i64 i', .int .i64 g'])).run Tryz.prog W = .ok (.bool (idEq s i g s' i' g')) W := by
  rw [run_eql_struct]
  by_cases h1 : s = s'
  · by_cases h2 : i = i'
    · by_cases h3 : g = g' <;> simp [go_sem, idEq, h1, h2, h3]
    · simp [go_sem, idEq, h1, h2]
  · simp [go_sem, idEq, h1]

@[go_sem high] theorem run_neq_id (s i g s' i' g' : Int) (W : World) :
    (binOp .neq 30 (.agg #[.int .i64 s, .int .i64 i, .int .i64 g]) (.agg #[.int .i64 s', .int .i64 i', .int .i64 g'])).run Tryz.prog W = .ok (.bool (!(idEq s i g s' i' g'))) W := by
  have h := run_eql_id s i g s' i' g' W
  rw [run_eql_struct] at h
  rw [run_neq_struct]
  generalize (Op.equalIn _ _ _ _).run Tryz.prog W = r at *
  cases r with
  | ok b w => simp only [Result.andThen_ok] at *; cases b <;> simp_all
  | halt x w => simp [Result.andThen] at h


set_option maxHeartbeats 1000000 in
@[go_sem high] theorem run_eql_bun (s i g m x y vx vy hp pw lf s' i' g' m' x' y' vx' vy' hp' pw' lf' : Int) (W : World) :
    (binOp .eql 32 (.agg #[.int .i64 s, .int .i64 i, .int .i64 g, .int .i64 m, .int .i64 x, .int .i64 y, .int .i64 vx, .int .i64 vy, .int .i64 hp, .int .i64 pw, .int .i64 lf]) (.agg #[.int .i64 s', .int .i64 i', .int .i64 g', .int .i64 m', .int .i64 x', .int .i64 y', .int .i64 vx', .int .i64 vy', .int .i64 hp', .int .i64 pw', .int .i64 lf'])).run Tryz.prog W = .ok (.bool (bunEq ⟨s, i, g, m, x, y, vx, vy, hp, pw, lf⟩ ⟨s', i', g', m', x', y', vx', vy', hp', pw', lf'⟩)) W := by
  rw [run_eql_struct]
  by_cases h0 : s = s'
  · by_cases h1 : i = i'
    · by_cases h2 : g = g'
      · by_cases h3 : m = m'
        · by_cases h4 : x = x'
          · by_cases h5 : y = y'
            · by_cases h6 : vx = vx'
              · by_cases h7 : vy = vy'
                · by_cases h8 : hp = hp'
                  · by_cases h9 : pw = pw'
                    · by_cases h10 : lf = lf'
                      · simp [go_sem, bunEq, h0, h1, h2, h3, h4, h5, h6, h7, h8, h9, h10]
                      · simp [go_sem, bunEq, h0, h1, h2, h3, h4, h5, h6, h7, h8, h9, h10]
                    · simp [go_sem, bunEq, h0, h1, h2, h3, h4, h5, h6, h7, h8, h9]
                  · simp [go_sem, bunEq, h0, h1, h2, h3, h4, h5, h6, h7, h8]
                · simp [go_sem, bunEq, h0, h1, h2, h3, h4, h5, h6, h7]
              · simp [go_sem, bunEq, h0, h1, h2, h3, h4, h5, h6]
            · simp [go_sem, bunEq, h0, h1, h2, h3, h4, h5]
          · simp [go_sem, bunEq, h0, h1, h2, h3, h4]
        · simp [go_sem, bunEq, h0, h1, h2, h3]
      · simp [go_sem, bunEq, h0, h1, h2]
    · simp [go_sem, bunEq, h0, h1]
  · simp [go_sem, bunEq, h0]

@[go_sem high] theorem run_neq_bun (s i g m x y vx vy hp pw lf s' i' g' m' x' y' vx' vy' hp' pw' lf' : Int) (W : World) :
    (binOp .neq 32 (.agg #[.int .i64 s, .int .i64 i, .int .i64 g, .int .i64 m, .int .i64 x, .int .i64 y, .int .i64 vx, .int .i64 vy, .int .i64 hp, .int .i64 pw, .int .i64 lf]) (.agg #[.int .i64 s', .int .i64 i', .int .i64 g', .int .i64 m', .int .i64 x', .int .i64 y', .int .i64 vx', .int .i64 vy', .int .i64 hp', .int .i64 pw', .int .i64 lf'])).run Tryz.prog W = .ok (.bool (!(bunEq ⟨s, i, g, m, x, y, vx, vy, hp, pw, lf⟩ ⟨s', i', g', m', x', y', vx', vy', hp', pw', lf'⟩))) W := by
  have h := run_eql_bun s i g m x y vx vy hp pw lf s' i' g' m' x' y' vx' vy' hp' pw' lf' W
  rw [run_eql_struct] at h
  rw [run_neq_struct]
  generalize (Op.equalIn _ _ _ _).run Tryz.prog W = r at *
  cases r with
  | ok b w => simp only [Result.andThen_ok] at *; cases b <;> simp_all
  | halt x w => simp [Result.andThen] at h

end Go.Proofs.YtoimjjhopljdmaaGreat
namespace Go.Proofs.YtoimjjhopljdmaaGreat
open Go.RowKit

def Box (W : World) (L : Lay) (b : Nat) (cs : Array Value) : Prop := b < W.heap.size ∧ ¬ L.own b ∧ ∀ j, W.cell? ⟨b, j, none⟩ = cs[j]?

theorem Box.grow {W W' : World} {L : Lay} {b : Nat} {cs : Array Value} (h : Box W L b cs) (hb : Below W.heap.size W W') : Box W' L b cs :=
  ⟨Nat.lt_of_lt_of_le h.1 hb.size, h.2.1, fun j => (hb.cell (p := ⟨b, j, none⟩) h.1).trans (h.2.2 j)⟩

theorem Stp.open {w w' : World} {L : Lay} {M' : List Sh} {p : Nat} (h : Stp w L w' M') (hP : L.P = p) : ∃ L', L'.P = p ∧ PoolAt w' L' M' ∧ w.heap.size ≤ w'.heap.size ∧ (∀ B, B ≤ w.heap.size → (∀ b, L.own b → B ≤ b) → Below B w w') ∧ (∀ b, L'.own b → L.own b ∨ w.heap.size ≤ b) ∧ ∀ b cs, Box w L b cs → Box w' L' b cs := by
  obtain ⟨L', hP', hp, hc, ho⟩ := h
  refine ⟨L', hP'.trans hP, hp, hc.size, fun B hB hB' => hc.below hB hB', ho, fun b cs hb => ⟨Nat.lt_of_lt_of_le hb.1 hc.size, fun h => ?_, fun j => (hc.cell (a := ⟨b, j, none⟩) hb.1 hb.2.1).trans (hb.2.2 j)⟩⟩
  rcases ho b h with h | h
  · exact hb.2.1 h
  · exact absurd hb.1 (by omega)

theorem new_p (n ids : Nat) (w : World) (h1 : 1 ≤ n) (h2 : n ≤ 16) (h3 : 1 ≤ ids) (h4 : ids ≤ 16) :
    Calls Tryz.prog 80 #[.int .i64 n, .int .i64 ids] w fun e w' => e = .returned (.tuple #[.pointer (some ⟨w.heap.size + 1, 0, none⟩), .int .i64 0]) ∧ Below w.heap.size w w' ∧ ∃ L, L.P = w.heap.size + 1 ∧ PoolAt w' L (List.replicate n (fresh ids ids)) ∧ ∀ b, L.own b → w.heap.size ≤ b := by
  refine (new_ok n ids w h1 h2 h3 h4).mono ?_
  rintro e w' ⟨rfl, L, hP, _, hp, hb, ho⟩
  rw [List.append_nil] at hp
  exact ⟨rfl, hb, L, hP, hp.toAt (by simp), ho⟩

structure St (w0 W : World) (L : Lay) (M : List Sh) (p : Nat) : Prop where
  hP : L.P = p
  hp : PoolAt W L M
  hb : Below w0.heap.size w0 W
  ho : ∀ b, L.own b → w0.heap.size ≤ b

theorem St.grow {w0 W W' : World} {L : Lay} {M : List Sh} {p : Nat} (h : St w0 W L M p) (hb : Below W.heap.size W W') : St w0 W' L M p :=
  ⟨h.hP, h.hp.grown hb, h.hb.trans (hb.mono h.hb.size), h.ho⟩
end Go.Proofs.YtoimjjhopljdmaaGreat
namespace Go.Proofs.YtoimjjhopljdmaaGreat
open Go.RowKit

def AtR (l : List Slot) (k i r : Int) : Prop := (r = -1 ∧ ∀ (n : Nat) (s : Slot), l[n]? = some s → ¬ (s.k = k ∧ s.i = i)) ∨ ∃ (n : Nat) (s : Slot), r = n ∧ l[n]? = some s ∧ s.k = k ∧ s.i = i
def FirstP (l : List Slot) (k : Int) (n : Nat) (m : Int) : Prop := (m = -1 ∧ ∀ (j : Nat) (s : Slot), j < n → l[j]? = some s → s.k = k → s.row < 0) ∨
  ∃ (j : Nat) (s : Slot), m = j ∧ j < n ∧ l[j]? = some s ∧ s.k = k ∧ 0 ≤ s.row ∧ ∀ (j' : Nat) (s' : Slot), j' < n → l[j']? = some s' → s'.k = k → 0 ≤ s'.row → s.row ≤ s'.row

theorem FirstP.take {l : List Slot} {k m : Int} {n : Nat} {s : Slot} (h : FirstP l k n m) (hs : l[n]? = some s) (hk : s.k = k) (hr : 0 ≤ s.row) (hm : m < 0 ∨ ∃ (j : Nat) (t : Slot), m = j ∧ l[j]? = some t ∧ s.row < t.row) : FirstP l k (n + 1) n := by
  refine .inr ⟨n, s, rfl, by omega, hs, hk, hr, fun j' t' hj ht hk' hr' => ?_⟩
  by_cases hjn : j' = n
  · subst hjn; rw [hs] at ht; obtain rfl := Option.some.inj ht; exact Int.le_refl _
  · rcases h with ⟨h1, h2⟩ | ⟨j, t, h1, h2, h3, h4, h5, h6⟩
    · exact absurd (h2 j' t' (by omega) ht hk') (by omega)
    · rcases hm with hm | ⟨j2, t2, hm, ht2, hlt⟩
      · omega
      · have e : j2 = j := by omega
        subst e
        rw [h3] at ht2
        obtain rfl := Option.some.inj ht2
        have := h6 j' t' (by omega) ht hk' hr'
        omega
theorem FirstP.keep {l : List Slot} {k m : Int} {n j : Nat} {s t : Slot} (h : FirstP l k n m) (hs : l[n]? = some s) (hm : m = j) (ht : l[j]? = some t) (hr : t.row ≤ s.row) : FirstP l k (n + 1) m := by
  rcases h with ⟨h1, h2⟩ | ⟨j2, t2, h1, h2, h3, h4, h5, h6⟩
  · omega
  · have e : j2 = j := by omega
    subst e
    rw [h3] at ht
    obtain rfl := Option.some.inj ht
    refine .inr ⟨j2, t2, h1, by omega, h3, h4, h5, fun j' t' hj ht hk hr' => ?_⟩
    by_cases hjn : j' = n
    · subst hjn; rw [hs] at ht; obtain rfl := Option.some.inj ht; exact hr
    · exact h6 j' t' (by omega) ht hk hr'

end Go.Proofs.YtoimjjhopljdmaaGreat
namespace Go.Proofs.YtoimjjhopljdmaaGreat
open Go.RowKit

def RPool (w : World) (R : RLay) (ids : Nat) (c : Int) (M : List Sh) : Prop := ∃ (rw : Int → Int → Int) (put : Int), RefAt w R (mSlots rw 0 M) put ∧ Sim ids M rw put ∧ put ≤ c
theorem RPool.lt {w : World} {R : RLay} {ids : Nat} {c : Int} {M : List Sh} (h : RPool w R ids c M) {x : Nat} (hx : R.own x) : x < w.heap.size := by
  obtain ⟨rw, put, h1, h2, h3⟩ := h; exact h1.lt hx

theorem Sim.at {ids : Nat} {M : List Sh} {rw : Int → Int → Int} {put k i r : Int} (h : Sim ids M rw put) (ha : AtR (mSlots rw 0 M) k i r) :
    (ixOf M k i = none ∧ r = -1) ∨ ∃ (k' i' : Nat) (m : Sh) (x : Ix), k = k' ∧ i = i' ∧ M[k']? = some m ∧ m.all[i']? = some x ∧ i' < ids ∧ r = ((k' * ids + i' : Nat) : Int) ∧ ixOf M k i = some x := by
  rcases ha with ⟨rfl, hn⟩ | ⟨n, s, rfl, hs, hk, hi⟩
  · left
    refine ⟨?_, rfl⟩
    cases hx : ixOf M k i with
    | none => rfl
    | some x =>
      unfold ixOf at hx
      obtain ⟨m, hm, hx'⟩ := Option.bind_eq_some_iff.1 hx
      unfold shOf at hm
      split at hm
      · rename_i hk0
        split at hx'
        · rename_i hi0
          have := mSlots_get (rw := rw) M 0 k.toNat i.toNat m x h.len hm hx'
          exact absurd ⟨by simp; omega, by simp; omega⟩ (hn _ _ this)
        · cases hx'
      · cases hm
  · right
    obtain ⟨a, b, m, x, rfl, hb, hm, hx, rfl⟩ := mSlots_split h.len hs
    simp only at hk hi
    subst hk hi
    exact ⟨a, b, m, x, rfl, rfl, hm, hx, hb, rfl, by simp [ixOf, shOf, hm, hx]⟩

theorem Sim.first {ids : Nat} {M : List Sh} {rw : Int → Int → Int} {put k r : Int} (h : Sim ids M rw put) (ha : FirstP (mSlots rw 0 M) k (mSlots rw 0 M).length r) {m : Sh} (hm : shOf M k = some m) :
    (m.free = [] ∧ r = -1) ∨ ∃ (k' f : Nat) (fs : List Int) (x : Ix), k = k' ∧ M[k']? = some m ∧ m.free = (f : Int) :: fs ∧ m.all[f]? = some x ∧ f < ids ∧ r = ((k' * ids + f : Nat) : Int) := by
  unfold shOf at hm
  split at hm
  case isFalse => cases hm
  rename_i hk0
  obtain ⟨k, rfl⟩ := Int.eq_ofNat_of_zero_le hk0
  rw [Int.toNat_natCast] at hm
  have hg := h.good m (List.mem_of_getElem? hm)
  have hal := h.len m (List.mem_of_getElem? hm)
  have hgt : ∀ f ∈ m.free, ∃ (i : Nat) (x : Ix), f = i ∧ i < ids ∧ m.all[i]? = some x ∧ 0 ≤ rw k i := by
    intro f hf
    obtain ⟨h0, h1⟩ := hg.inv.fr f hf
    obtain ⟨i, rfl⟩ := Int.eq_ofNat_of_zero_le h0
    have hi : i < m.all.length := by omega
    exact ⟨i, _, rfl, by omega, List.getElem?_eq_getElem hi, (h.row k m hm i (by omega)).1.2 hf⟩
  cases hf : m.free with
  | nil =>
    left
    refine ⟨rfl, ?_⟩
    rcases ha with ⟨rfl, _⟩ | ⟨j, s, rfl, hj, hs, hk, hr, _⟩
    · rfl
    · obtain ⟨a, b, m2, x, rfl, hb, hm2, hx, rfl⟩ := mSlots_split h.len hs
      simp only at hk hr
      obtain rfl : a = k := by omega
      rw [hm] at hm2
      obtain rfl := Option.some.inj hm2
      have := (h.row a m hm b hb).1.1 hr
      rw [hf] at this
      cases this
  | cons f fs =>
    right
    obtain ⟨i, x, rfl, hi, hx, hr0⟩ := hgt f (by rw [hf]; simp)
    refine ⟨k, i, fs, x, rfl, hm, rfl, hx, hi, ?_⟩
    have hsl := mSlots_get (rw := rw) M 0 k i m x h.len hm hx
    have hlt := (List.getElem?_eq_some_iff.1 hsl).1
    rcases ha with ⟨rfl, hn⟩ | ⟨j, s, rfl, hj, hs, hk, hr, hmin⟩
    · have := hn _ _ hlt hsl (by simp)
      simp at this
      omega
    · obtain ⟨a, b, m2, y, rfl, hb, hm2, hy, rfl⟩ := mSlots_split h.len hs
      simp only at hk hr hmin
      obtain rfl : a = k := by omega
      rw [hm] at hm2
      obtain rfl := Option.some.inj hm2
      have hbf := (h.row a m hm b hb).1.1 hr
      have hle := hmin _ _ hlt hsl (by simp) (by simpa using hr0)
      simp at hle
      rw [hf] at hbf
      rcases List.mem_cons.1 hbf with e | hbs
      · obtain rfl : b = i := by omega
        rfl
      · have ho := h.ord a m hm
        rw [hf, List.map_cons, List.pairwise_cons] at ho
        have := ho.1 _ (List.mem_map_of_mem hbs)
        omega

theorem Sim.none {ids : Nat} {M : List Sh} {rw : Int → Int → Int} {put k : Int} (h : Sim ids M rw put) : ixOf M k 0 = none ↔ shOf M k = none := by
  unfold ixOf
  cases hm : shOf M k with
  | none => simp
  | some m =>
    have hal : m.all.length = ids := by
      unfold shOf at hm
      split at hm
      · exact h.len m (List.mem_of_getElem? hm)
      · cases hm
    have := h.pos.1
    simp
    intro e
    rw [e] at hal
    simp at hal
    omega

def genF (M : List Sh) (k i : Int) : Int := match ixOf M k i with | none => 0 | some x => x.gen
end Go.Proofs.YtoimjjhopljdmaaGreat
namespace Go.Proofs.YtoimjjhopljdmaaGreat
open Go.RowKit Go.Shelf

def renCm : Ren := ⟨fun n => if n = 6 then 151 else if n = 8 then 126 else 0, fun n => if n = 0 then 0 else if n = 3 then 3 else if n = 4 then 4 else if n = 22 then 26 else if n = 23 then 34 else if n = 25 then 80 else 0, fun _ => 0⟩
theorem laysCm : SlLaysH0.n8 Tryz.prog renCm := {
  mixed := by kernel_rfl
  f6 := ⟨Tryz.f151.name, by decide, by kernel_rfl⟩
  f8 := ⟨Tryz.f126.name, by decide, by kernel_rfl⟩
  t0 := by kernel_rfl
  a0 := fun _ => by kernel_rfl
  z0 := fun _ => by kernel_rfl
  v0 := fun _ => by kernel_rfl
  t3 := by kernel_rfl
  a3 := fun _ => by kernel_rfl
  z3 := fun _ => by kernel_rfl
  v3 := fun _ => by kernel_rfl
  t4 := by kernel_rfl
  a4 := fun _ => by kernel_rfl
  z4 := fun _ => by kernel_rfl
  v4 := fun _ => by kernel_rfl
  t22 := by kernel_rfl
  a22 := fun _ => by kernel_rfl
  z22 := fun _ => by kernel_rfl
  v22 := fun _ => by kernel_rfl
  t25 := by kernel_rfl
  a25 := fun _ => by kernel_rfl
  z25 := fun _ => by kernel_rfl
  v25 := fun _ => by kernel_rfl }

instance inhCm : Inhabited Cm := ⟨⟨0, 0, 0, 0, zeroB, 0⟩⟩
def endsF (q : List Cm) (s i g : Int) : Bool := q.any fun c => c.k == 2 && idEq c.s c.i c.g s i g
theorem waits1_any (x : Cm) (s i g : Int) (B : Nat) (W : World) (hB : B < W.heap.size) (h0 : W.cell? ⟨B, 0, none⟩ = some (.int .i64 s)) (h1 : W.cell? ⟨B, 1, none⟩ = some (.int .i64 i)) (h2 : W.cell? ⟨B, 2, none⟩ = some (.int .i64 g)) :
    Calls Tryz.prog 127 (#[.agg (cmC x).toArray] ++ #[.pointer (some ⟨B, 0, none⟩)]) W fun e w' => e = .returned (.bool (x.k == 2 && idEq x.s x.i x.g s i g)) ∧ Below W.heap.size W w' := by
  show Calls Tryz.prog 127 #[.agg #[.int .i64 x.k, .int .i64 x.s, .int .i64 x.i, .int .i64 x.g, .int .i64 (x.b).s, .int .i64 (x.b).i, .int .i64 (x.b).g, .int .i64 (x.b).m, .int .i64 (x.b).x, .int .i64 (x.b).y, .int .i64 (x.b).vx, .int .i64 (x.b).vy, .int .i64 (x.b).hp, .int .i64 (x.b).pw, .int .i64 (x.b).lf, .int .i64 x.mask], .pointer (some ⟨B, 0, none⟩)] W _
  obtain ⟨n1, n2, n3⟩ := ltz hB
  cases e1 : (x.k == 2) with
  | true =>
    go_enter Tryz.func127, Tryz.ntmps127
    go_wp2_with fail
    go_ret
    exact ⟨by simp, (by repeat' (first | (with_reducible exact Below.refl _ _) | (with_reducible assumption) | (with_reducible refine below_drewN ?_ _) | (with_reducible refine below_more _ _ _ ?_ ?_) | (with_reducible refine Below.alloc ?_ ?_ _) | (with_reducible refine Below.drew ?_) | (with_reducible refine Below.setCell ?_ ?_ _) | go_size))⟩
  | false =>
    go_enter Tryz.func127, Tryz.ntmps127
    go_wp2_with fail
    go_ret
    exact ⟨rfl, (by repeat' (first | (with_reducible exact Below.refl _ _) | (with_reducible assumption) | (with_reducible refine below_drewN ?_ _) | (with_reducible refine below_more _ _ _ ?_ ?_) | (with_reducible refine Below.alloc ?_ ?_ _) | (with_reducible refine Below.drew ?_) | (with_reducible refine Below.setCell ?_ ?_ _) | go_size))⟩
theorem eg_waits1 : ∀ args w, (callFunc 127 args).run Tryz.prog w = .ok (.enter 127 args) w := enters_of Tryz.func127 (by kernel_rfl) rfl

theorem cf_emptyCm (g : Nat) (lb : Array Value) (p : Option Addr) (c : Nat) (w : World) :
    Calls Tryz.prog 126 #[.slice p 0 c, .func (.func g) #[] lb] w fun e w' => e = .returned (.bool false) ∧ w = w' := by
  have hI : Calls Tryz.prog 151 #[.slice p 0 c, .func (.func g) #[] lb] w fun e w' => e = .returned (.int .i64 (-1)) ∧ w = w' := by
    go_enter Tryz.func151, Tryz.ntmps151
    go_wp2_with fail
    refine wp_loop_rounds 1 ?_
    rw [rounds_succ]
    go_wp2
    go_ret
    exact ⟨rfl, rfl⟩
  go_enter Tryz.func126, Tryz.ntmps126
  go_wp2_with (go_at_call 151; refine hI.mono ?_; rintro e w' ⟨rfl, rfl⟩)
  go_ret
  exact ⟨rfl, rfl⟩

theorem contCm_any (s i g : Int) (L : List Cm) (v : Value) (B : Nat) (W : World) (hL : RIn cmC W v L) (hB : B < W.heap.size) (h0' : W.cell? ⟨B, 0, none⟩ = some (.int .i64 s)) (h1' : W.cell? ⟨B, 1, none⟩ = some (.int .i64 i)) (h2' : W.cell? ⟨B, 2, none⟩ = some (.int .i64 g)) :
    Calls Tryz.prog 126 #[v, .func (.func 127) #[] #[.pointer (some ⟨B, 0, none⟩)]] W fun e w' => e = .returned (.bool (endsF L s i g)) ∧ Below W.heap.size W w' := by
  obtain ⟨p, cap, rfl, hm, _, hc, h4⟩ := hL
  by_cases h0 : L = []
  · subst h0
    refine (cf_emptyCm _ _ p cap W).mono ?_
    rintro e w' ⟨rfl, rfl⟩
    exact ⟨rfl, Below.refl _ _⟩
  · obtain ⟨blk, off, rfl, h5, h6⟩ := h4 h0
    have hcon := AnyQ.slices_ContainsFunc laysCm 16 (fun _ => by kernel_rfl) (fun _ => by kernel_rfl) cmC cmC_len (fun x => x.k == 2 && idEq x.s x.i x.g s i g) 127 #[.pointer (some ⟨B, 0, none⟩)] eg_waits1 blk off L.length cap L W
      (fun W' x hb => ?_) (Nat.le_refl _) (by unfold maxLen at hm; omega) h5 (fun j hj i v hi => ?_)
    · rw [List.take_length] at hcon
      exact hcon
    · have hz := hb.size
      refine (waits1_any x s i g B W' (by omega) ((hb.cell (p := ⟨B, 0, none⟩) hB).trans h0') ((hb.cell (p := ⟨B, 1, none⟩) hB).trans h1') ((hb.cell (p := ⟨B, 2, none⟩) hB).trans h2')).mono ?_
      rintro e w' ⟨he, hb'⟩
      exact ⟨he, hb.trans (hb'.mono hz)⟩
    · rw [getElem!_pos L j hj] at hi
      have hi' : i < 16 := by have := (List.getElem?_eq_some_iff.1 hi).1; rwa [cmC_len] at this
      have := cellsR_get cmC 16 cmC_len L j i L[j] (List.getElem?_eq_getElem hj) hi'
      rw [Nat.add_assoc]
      exact h6 _ v (this.trans hi)
end Go.Proofs.YtoimjjhopljdmaaGreat
namespace Go.Proofs.YtoimjjhopljdmaaGreat
open Go.RowKit

theorem ltb {a W : Nat} (h : a < W) : a < W + 1 ∧ (∀ n, a < W + 1 + n) ∧ (∀ n m, a < W + 1 + n + m) ∧ (∀ n m q, a < W + 1 + n + m + q) := ⟨by omega, fun _ => by omega, fun _ _ => by omega, fun _ _ _ => by omega⟩

theorem max_if (x y : Int) : (if y > x then y else x) = max x y := by rw [Int.max_def]; split <;> split <;> omega
@[go_sem high] theorem run_max_ints4 {P : Program} (w : World) (ts : Array TypeId) (t : TypeId) (k : IntKind) (x y u v : Int) :
    (Builtin.max_ ts t #[.int k x, .int k y, .int k u, .int k v]).run P w = .ok (.int k (max (max (max x y) u) v)) w := by
  simp [Builtin.max_, Builtin.max2, max_if]
@[go_sem high] theorem run_max_ints3 {P : Program} (w : World) (ts : Array TypeId) (t : TypeId) (k : IntKind) (x y u : Int) :
    (Builtin.max_ ts t #[.int k x, .int k y, .int k u]).run P w = .ok (.int k (max (max x y) u)) w := by
  simp [Builtin.max_, Builtin.max2, max_if]

def clampF (n : Int) : Int := max (-1073741824) (min 1073741824 n)
theorem clampF_lo (n : Int) : -1073741824 ≤ clampF n := by unfold clampF; omega
theorem clampF_hi (n : Int) : clampF n ≤ 1073741824 := by unfold clampF; omega
theorem clampF_id (n : Int) (h0 : -1073741824 ≤ n) (h1 : n ≤ 1073741824) : clampF n = n := by unfold clampF; omega
def addF (a b : Int) : Int := clampF (clampF a + clampF b)
def farF (x y u v : Int) : Int := max (clampF x - clampF u) (max (-(clampF x - clampF u)) (max (clampF y - clampF v) (-(clampF y - clampF v))))
theorem ret_int {k : IntKind} {a b : Int} (h : a = b) : Ending.returned (.int k a) = .returned (.int k b) := by rw [h]

theorem clamp_any (n : Int) (w : World) : Calls Tryz.prog 155 #[.int .i64 n] w fun e w' => e = .returned (.int .i64 (clampF n)) ∧ w = w' := by
  by_cases h1 : n < -1073741824
  · rw [show clampF n = -1073741824 from by unfold clampF; omega]
    have h2 : n ≤ 1073741824 := by omega
    go_enter Tryz.func155, Tryz.ntmps155
    go_wp2
    all_goals go_ret
    all_goals (refine ⟨ret_int ?_, rfl⟩; first | omega | ((repeat' split at *) <;> omega))
  · by_cases h2 : 1073741824 < n
    · rw [show clampF n = 1073741824 from by unfold clampF; omega]
      have h3 : -1073741824 ≤ n := by omega
      clear h1
      go_enter Tryz.func155, Tryz.ntmps155
      go_wp2
      all_goals go_ret
      all_goals (refine ⟨ret_int ?_, rfl⟩; first | omega | ((repeat' split at *) <;> omega))
    · rw [show clampF n = n from by unfold clampF; omega]
      have h3 : -1073741824 ≤ n := by omega
      have h4 : n ≤ 1073741824 := by omega
      clear h1 h2
      go_enter Tryz.func155, Tryz.ntmps155
      go_wp2
      all_goals go_ret
      all_goals (refine ⟨ret_int ?_, rfl⟩; first | omega | ((repeat' split at *) <;> omega))

theorem add_any (b : Nat) (x y : Int) (w : World) (h0 : w.cell? ⟨b, 0, none⟩ = some (.int .i64 x)) (h1 : w.cell? ⟨b, 1, none⟩ = some (.int .i64 y)) :
    Calls Tryz.prog 138 #[.slice (some ⟨b, 0, none⟩) 2 2] w fun e w' => e = .returned (.int .i64 (addF x y)) ∧ w = w' := by
  have l1 := clampF_lo x; have l2 := clampF_hi x; have l3 := clampF_lo y; have l4 := clampF_hi y
  have e0 := clampF_id (clampF x) l1 l2
  unfold addF
  generalize hcx : clampF x = cx at *
  generalize hcy : clampF y = cy at *
  go_enter Tryz.func138, Tryz.ntmps138
  go_wp2_with fail
  refine wp_loop_rounds 3 ?_
  repeat any_goals (rw [rounds_succ]; go_wp2_with (go_at_call 155; refine (clamp_any _ _).mono ?_; rintro e w' ⟨rfl, rfl⟩))
  all_goals go_ret
  all_goals exact ⟨rfl, rfl⟩

theorem far_any (x y u v : Int) (w : World) : Calls Tryz.prog 137 #[.int .i64 x, .int .i64 y, .int .i64 u, .int .i64 v] w fun e w' => e = .returned (.int .i64 (farF x y u v)) ∧ w = w' := by
  have h1 := clampF_lo x; have h2 := clampF_hi x; have h3 := clampF_lo u; have h4 := clampF_hi u
  have h5 := clampF_lo y; have h6 := clampF_hi y; have h7 := clampF_lo v; have h8 := clampF_hi v
  generalize hr : farF x y u v = r
  unfold farF at hr
  have HR := Lib.hid hr
  clear hr
  go_enter Tryz.func137, Tryz.ntmps137
  go_wp2_with (go_at_call 155; refine (clamp_any _ _).mono ?_; rintro e w' ⟨rfl, rfl⟩)
  go_ret
  exact ⟨ret_int HR.out, rfl⟩
end Go.Proofs.YtoimjjhopljdmaaGreat
