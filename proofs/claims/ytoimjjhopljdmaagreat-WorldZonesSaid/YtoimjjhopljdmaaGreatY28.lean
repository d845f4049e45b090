/-
  Chapter texts PoolN LapA RefA PoolL RefB RefC CmS: what the claim reaches of them. Conditions stand at each theorem.
-/
import Derived.Shelf.SlicesQ.IndexFunc
import Derived.Test.YtoimjjhopljdmaaGreatY27
import Derived.Test.YtoimjjhopljdmaaGreatY02
import Derived.Test.YtoimjjhopljdmaaGreatY07
import Derived.Test.YtoimjjhopljdmaaGreatY01
namespace Go.Proofs.YtoimjjhopljdmaaGreat
open Go.RowKit
structure Good (m : Sh) : Prop where
  inv : ShInv m
  le : ∀ (i : Nat) (x : Ix), m.all[i]? = some x → x.gen ≤ x.bound
  lv : ∀ (i : Nat) (x : Ix), m.all[i]? = some x → x.alive = true → x.gen < x.bound
  fg : ∀ f ∈ m.free, ∀ (x : Ix), m.all[f.toNat]? = some x → x.gen < 1048576

theorem fresh_good (ids : Nat) (h : ids ≤ 16) : Good (fresh ids ids) := by
  have hx0 : ∀ (i : Nat) (x : Ix), (fresh ids ids).all[i]? = some x → x = ⟨0, 0, false⟩ := by
    intro i x hx
    simp only [fresh, freshIx, List.getElem?_replicate] at hx
    split at hx
    · cases hx; rfl
    · cases hx
  refine ⟨fresh_inv ids ids h (Nat.le_refl _), fun i x hx => ?_, fun i x hx ha => ?_, fun f _ x hx => ?_⟩
  · rw [hx0 i x hx]; simp
  · rw [hx0 i x hx] at ha; cases ha
  · rw [hx0 _ x hx]; simp

def nxtIx (x : Ix) : Ix := ⟨x.gen, if x.gen < x.bound then x.bound else min (x.bound + 8) 1048576, true⟩
def nxtAt (x : Ix) (f : Int) : Int := if x.gen < x.bound then -1 else f

theorem set_good {m : Sh} (h : Good m) {i : Nat} (x' : Ix) (hi : ShInv { m with all := m.all.set i x' }) (h1 : x'.gen ≤ x'.bound) (h2 : x'.alive = true → x'.gen < x'.bound) (h3 : (i : Int) ∈ m.free → x'.gen < 1048576) : Good { m with all := m.all.set i x' } := by
  refine ⟨hi, fun j y hy => ?_, fun j y hy => ?_, fun f hf y hy => ?_⟩
  · simp only [List.getElem?_set] at hy
    split at hy
    · split at hy
      · cases hy; exact h1
      · cases hy
    · exact h.le j y hy
  · simp only [List.getElem?_set] at hy
    split at hy
    · split at hy
      · cases hy; exact h2
      · cases hy
    · exact h.lv j y hy
  · simp only [List.getElem?_set] at hy
    have h0 := (h.inv.fr f hf).1
    split at hy
    · rename_i he
      split at hy
      · cases hy; exact h3 (by rw [show (i : Int) = f by omega]; exact hf)
      · cases hy
    · exact h.fg f hf y hy

theorem free_drop_good {m : Sh} (h : Good m) (fr : List Int) (hi : ShInv { m with free := fr }) (hs : ∀ f ∈ fr, f ∈ m.free) : Good { m with free := fr } :=
  ⟨hi, h.le, h.lv, fun f hf => h.fg f (hs f hf)⟩

theorem nextF_cons {M : List Sh} {k : Nat} {m : Sh} {f : Int} {fs : List Int} (hm : M[k]? = some m) (hf : m.free = f :: fs) (hg : Good m) :
    ∃ x, m.all[f.toNat]? = some x ∧ 0 ≤ f ∧ nextF M k = ((((k : Int), f, x.gen), nxtAt x f, true), M.set k ⟨m.all.set f.toNat (nxtIx x), fs⟩) ∧ Good ⟨m.all.set f.toNat (nxtIx x), fs⟩ := by
  have hfr := hg.inv.fr f (by rw [hf]; simp)
  obtain ⟨i, rfl⟩ := Int.eq_ofNat_of_zero_le hfr.1
  have hil : i < m.all.length := by omega
  have hx : m.all[i]? = some m.all[i] := List.getElem?_eq_getElem hil
  generalize m.all[i] = x at hx
  have hkl : k < M.length := (List.getElem?_eq_some_iff.1 hm).1
  have hle := hg.le i x hx
  have hgm := hg.fg i (by rw [hf]; simp) x (by simpa using hx)
  have hrr := hg.inv.rng i x hx
  have hnd := hg.inv.nd
  rw [hf] at hnd
  have hni := (List.nodup_cons.1 hnd).1
  have hhead : headF M k = ((i : Int), decide (x.gen < x.bound), 0) := by simp [headF, shOf, hm, hf, hx]
  refine ⟨x, by simpa using hx, hfr.1, ?_, ?_⟩
  · rw [Int.toNat_natCast]
    by_cases hlt : x.gen < x.bound
    · have hi : issueF M k = (((k : Int), (i : Int), x.gen), 0, M.set k ⟨m.all.set i ⟨x.gen, x.bound, true⟩, fs⟩) := by
        simp only [issueF, shOf, if_pos (Int.natCast_nonneg k), Int.toNat_natCast, hm, hf, hx, if_pos hlt]
        rw [setIx_nat _ hm, setFr_nat (m := { m with all := m.all.set i ⟨x.gen, x.bound, true⟩ }) _ (List.getElem?_set_self hkl), List.set_set]
      simp [nextF, hhead, hlt, hi, nxtIx, nxtAt]
    · have hb : ¬ x.bound = 1048576 := by omega
      have hr : reserveF M k i = (0, M.set k ⟨m.all.set i ⟨x.gen, min (x.bound + 8) 1048576, x.alive⟩, i :: fs⟩) := by
        simp only [reserveF, ixOf, shOf, if_pos (Int.natCast_nonneg k), if_pos (Int.natCast_nonneg i), Int.toNat_natCast, hm, Option.bind_some, hx, if_neg hb]
        rw [setIx_nat _ hm, hf]
      have hm1 : (M.set k ⟨m.all.set i ⟨x.gen, min (x.bound + 8) 1048576, x.alive⟩, i :: fs⟩)[k]? = some ⟨m.all.set i ⟨x.gen, min (x.bound + 8) 1048576, x.alive⟩, i :: fs⟩ := List.getElem?_set_self hkl
      have hi : issueF (M.set k ⟨m.all.set i ⟨x.gen, min (x.bound + 8) 1048576, x.alive⟩, i :: fs⟩) k = (((k : Int), (i : Int), x.gen), 0, M.set k ⟨m.all.set i ⟨x.gen, min (x.bound + 8) 1048576, true⟩, fs⟩) := by
        simp only [issueF, shOf, if_pos (Int.natCast_nonneg k), Int.toNat_natCast, hm1, List.getElem?_set_self hil, if_pos (show x.gen < min (x.bound + 8) 1048576 by omega)]
        rw [setIx_nat _ hm1, List.set_set]
        rw [setFr_nat (m := ⟨(m.all.set i ⟨x.gen, min (x.bound + 8) 1048576, x.alive⟩).set i ⟨x.gen, min (x.bound + 8) 1048576, true⟩, i :: fs⟩) _ (List.getElem?_set_self hkl), List.set_set, List.set_set]
      simp [nextF, hhead, hlt, hr, hi, nxtIx, nxtAt]
  · rw [Int.toNat_natCast]
    have h1 := free_drop_good hg fs (hg.inv.tail hf) (fun a ha => by rw [hf]; exact List.mem_cons_of_mem _ ha)
    refine set_good h1 (nxtIx x) (h1.inv.set_ix i _ ⟨hrr.1, hrr.2.1, ?_, ?_, fun _ => hgm⟩ (fun hm => absurd hm hni)) ?_ (fun _ => ?_) (fun hm => absurd hm hni)
    all_goals simp only [nxtIx]
    all_goals split <;> omega

def freedSh (m : Sh) (i : Nat) (x : Ix) : Sh := if x.gen + 1 < 1048576 then ⟨m.all.set i ⟨x.gen + 1, x.bound, false⟩, m.free ++ [(i : Int)]⟩ else ⟨m.all.set i ⟨x.gen + 1, x.bound, false⟩, m.free⟩

theorem freeF_alive {M : List Sh} {k i : Nat} {m : Sh} {x : Ix} (hm : M[k]? = some m) (hx : m.all[i]? = some x) (ha : x.alive = true) (hg : Good m) :
    freeF M k i x.gen = (0, M.set k (freedSh m i x)) ∧ Good (freedSh m i x) := by
  have hkl : k < M.length := (List.getElem?_eq_some_iff.1 hm).1
  have hil : i < m.all.length := (List.getElem?_eq_some_iff.1 hx).1
  have hrr := hg.inv.rng i x hx
  have hlv := hg.lv i x hx ha
  have hni : (i : Int) ∉ m.free := fun hf => by have := hg.inv.dead i hf x (by simpa using hx); rw [ha] at this; cases this
  have hix : ixOf M k i = some x := by simp [ixOf, shOf, hm, hx]
  have hr' : 0 ≤ x.gen + 1 ∧ x.gen + 1 ≤ 1048576 ∧ 0 ≤ x.bound ∧ x.bound ≤ 1048576 ∧ (false = true → x.gen + 1 < 1048576) := ⟨by omega, by have := hrr.2.2.2.2 ha; omega, hrr.2.2.1, hrr.2.2.2.1, fun h => by cases h⟩
  have g1 : Good ⟨m.all.set i ⟨x.gen + 1, x.bound, false⟩, m.free⟩ := set_good hg ⟨x.gen + 1, x.bound, false⟩ (hg.inv.set_ix i _ hr' fun _ => rfl) (by simp only; omega) (fun h => by cases h) (fun h => absurd h hni)
  refine ⟨?_, ?_⟩
  · simp only [freeF, hix, if_neg (show ¬ x.gen < 0 by omega), ha, Bool.true_and, BEq.rfl, Bool.true_eq_false, if_false, freedSh]
    congr 1
    split
    · rw [setIx_nat _ hm, addFr]
      simp [shOf, List.getElem?_set_self hkl]
    · rw [setIx_nat _ hm]
  · unfold freedSh
    split
    · rename_i hlt
      refine ⟨hg.inv.add hx ha _ hr' rfl, g1.le, g1.lv, fun f hf y hy => ?_⟩
      rcases List.mem_append.1 hf with hf | hf
      · exact g1.fg f hf y hy
      · obtain rfl : f = i := by simpa using hf
        simp only [Int.toNat_natCast] at hy
        rw [List.getElem?_set_self hil] at hy
        cases hy
        exact hlt
    · exact g1

end Go.Proofs.YtoimjjhopljdmaaGreat
namespace Go.Proofs.YtoimjjhopljdmaaGreat
open Go.RowKit
def lapIx (x : Ix) : Ix := if x.gen < x.bound then ⟨x.bound, x.bound, x.alive⟩ else x
def lapAll (all : List Ix) (fr : List Int) : List Ix := fr.foldl (fun a f => match a[f.toNat]? with | none => a | some x => a.set f.toNat (lapIx x)) all
def lapses (all : List Ix) (f : Int) : Bool := match all[f.toNat]? with | none => false | some x => decide (x.gen < x.bound)
def lapCnt (all : List Ix) (fr : List Int) : Nat := (fr.filter (lapses all)).length
def lapN (m : Sh) : Nat := lapCnt m.all m.free
end Go.Proofs.YtoimjjhopljdmaaGreat
namespace Go.Proofs.YtoimjjhopljdmaaGreat
open Go.RowKit
structure Slot where
  (k i gen bound row : Int) (alive : Bool)
def Slot.cells (s : Slot) : List Value := [.int .i64 s.k, .int .i64 s.i, .int .i64 s.gen, .int .i64 s.bound, .int .i64 s.row, .bool s.alive]
structure RLay where
  (p b off cap : Nat)
def RLay.own (R : RLay) (x : Nat) : Prop := x = R.p ∨ x = R.b

structure RefAt (w : World) (R : RLay) (l : List Slot) (put : Int) : Prop where
  top : w.heap[R.p]? = some (.cells #[.slice (some ⟨R.b, R.off, none⟩) l.length R.cap, .int .i64 put] 170 (0, 0))
  rows : ∃ cur : Array Value, w.heap[R.b]? = some (.cells cur 167 (0, 0)) ∧ l.length ≤ R.cap ∧ R.cap ≤ maxLen ∧ R.off + R.cap * 6 ≤ cur.size ∧ ∀ (n j : Nat) (s : Slot), l[n]? = some s → j < 6 → cur[R.off + n * 6 + j]? = s.cells[j]?
  ne : R.p ≠ R.b

variable {w w' : World} {R : RLay} {l : List Slot} {put : Int}
theorem RefAt.lt (h : RefAt w R l put) {x : Nat} (hx : R.own x) : x < w.heap.size := by
  rcases hx with rfl | rfl
  · exact lt_of_heap h.top
  · obtain ⟨cur, hc, _⟩ := h.rows; exact lt_of_heap hc
theorem RefAt.keep (h : RefAt w R l put) (hk : ∀ b, R.own b → w'.heap[b]? = w.heap[b]?) : RefAt w' R l put := by
  obtain ⟨cur, hc, r⟩ := h.rows
  exact ⟨by rw [hk _ (.inl rfl)]; exact h.top, ⟨cur, by rw [hk _ (.inr rfl)]; exact hc, r⟩, h.ne⟩
theorem RefAt.grown (h : RefAt w R l put) (hb : Below w.heap.size w w') : RefAt w' R l put := h.keep fun b ho => hb.block b (h.lt ho)
theorem RefAt.set (h : RefAt w R l put) {n : Nat} {s s' : Slot} (hs : l[n]? = some s) (q : Nat) (v : Value) (hq : q < 6) (hv : s'.cells[q]? = some v) (ho : ∀ j, j ≠ q → s'.cells[j]? = s.cells[j]?) :
    RefAt (w.setCell ⟨R.b, R.off + n * 6 + q, none⟩ v) R (l.set n s') put := by
  obtain ⟨cur, hc, h1, h2, h3, hr⟩ := h.rows
  have hn : n < l.length := (List.getElem?_eq_some_iff.1 hs).1
  refine ⟨?_, ⟨cur.setIfInBounds (R.off + n * 6 + q) v, heap_setCell_same _ _ _ _ _ _ _ hc, by simpa using h1, h2, by simpa using h3, fun m j t ht hj => ?_⟩, h.ne⟩
  · rw [Below.heap_setCell _ _ _ _ h.ne, List.length_set]; exact h.top
  · rw [List.getElem?_set] at ht
    by_cases hm : n = m
    · subst hm
      rw [if_pos rfl, if_pos hn] at ht
      obtain rfl : s' = t := by simpa using ht
      by_cases hjq : j = q
      · subst hjq
        rw [set_self _ _ _ (by omega), hv]
      · rw [Array.getElem?_setIfInBounds_ne (by omega), hr n j s hs hj, ho j hjq]
    · rw [if_neg hm] at ht
      rw [Array.getElem?_setIfInBounds_ne (by omega)]
      exact hr m j t ht hj
def ixSlots (rw : Int → Int → Int) (k : Int) : Int → List Ix → List Slot
  | _, [] => []
  | i, x :: xs => ⟨k, i, x.gen, x.bound, rw k i, x.alive⟩ :: ixSlots rw k (i + 1) xs
def mSlots (rw : Int → Int → Int) : Int → List Sh → List Slot
  | _, [] => []
  | k, m :: ms => ixSlots rw k 0 m.all ++ mSlots rw (k + 1) ms
variable {rw : Int → Int → Int}
theorem ixSlots_len : ∀ (l : List Ix) (k i : Int), (ixSlots rw k i l).length = l.length
  | [], _, _ => rfl
  | x :: l, k, i => by simp [ixSlots, ixSlots_len l k (i + 1)]
theorem ixSlots_get : ∀ (l : List Ix) (k i : Int) (j : Nat), (ixSlots rw k i l)[j]? = (l[j]?).map fun x => ⟨k, i + j, x.gen, x.bound, rw k (i + j), x.alive⟩
  | [], _, _, _ => by simp [ixSlots]
  | x :: l, k, i, 0 => by simp [ixSlots]
  | x :: l, k, i, j + 1 => by
    simp only [ixSlots, List.getElem?_cons_succ, ixSlots_get l k (i + 1) j]
    rw [show i + 1 + (j : Int) = i + ((j + 1 : Nat) : Int) by omega]
theorem mSlots_len {ids : Nat} : ∀ (M : List Sh) (k : Int), (∀ m ∈ M, m.all.length = ids) → (mSlots rw k M).length = M.length * ids
  | [], _, _ => by simp [mSlots]
  | m :: M, k, h => by
    rw [mSlots, List.length_append, ixSlots_len, h m (by simp), mSlots_len M (k + 1) fun m hm => h m (List.mem_cons_of_mem _ hm), List.length_cons, Nat.add_mul, Nat.one_mul, Nat.add_comm]
theorem mSlots_get {ids : Nat} : ∀ (M : List Sh) (k0 : Int) (k i : Nat) (m : Sh) (x : Ix), (∀ m ∈ M, m.all.length = ids) → M[k]? = some m → m.all[i]? = some x → (mSlots rw k0 M)[k * ids + i]? = some ⟨k0 + k, i, x.gen, x.bound, rw (k0 + k) i, x.alive⟩
  | [], _, _, _, _, _, _, h, _ => by simp at h
  | a :: M, k0, 0, i, m, x, hl, hm, hx => by
    obtain rfl : a = m := by simpa using hm
    have hil := (List.getElem?_eq_some_iff.1 hx).1
    rw [mSlots, Nat.zero_mul, Nat.zero_add, List.getElem?_append_left (by rw [ixSlots_len]; exact hil), ixSlots_get, hx]
    simp
  | a :: M, k0, k + 1, i, m, x, hl, hm, hx => by
    have h1 := mSlots_get (ids := ids) M (k0 + 1) k i m x (fun m hm => hl m (List.mem_cons_of_mem _ hm)) (by simpa using hm) hx
    have ha := hl a (by simp)
    have e : (k + 1) * ids + i = ids + (k * ids + i) := by rw [Nat.add_mul, Nat.one_mul]; omega
    rw [mSlots, e, List.getElem?_append_right (by rw [ixSlots_len, ha]; omega), ixSlots_len, ha, Nat.add_sub_cancel_left, h1]
    rw [show k0 + 1 + (k : Int) = k0 + ((k + 1 : Nat) : Int) by omega]

theorem mSlots_split {ids : Nat} {M : List Sh} (hl : ∀ m ∈ M, m.all.length = ids) {n : Nat} {s : Slot} (hs : (mSlots rw 0 M)[n]? = some s) : ∃ (k i : Nat) (m : Sh) (x : Ix), n = k * ids + i ∧ i < ids ∧ M[k]? = some m ∧ m.all[i]? = some x ∧ s = ⟨k, i, x.gen, x.bound, rw k i, x.alive⟩ := by
  have hn : n < M.length * ids := by rw [← mSlots_len M 0 hl]; exact (List.getElem?_eq_some_iff.1 hs).1
  have h0 : 0 < ids := by
    rcases Nat.eq_zero_or_pos ids with h | h
    · rw [h] at hn; omega
    · exact h
  have hk : n / ids < M.length := by rw [Nat.div_lt_iff_lt_mul h0]; exact hn
  have hi := Nat.mod_lt n h0
  have hm := List.getElem?_eq_getElem hk
  have hal := hl _ (List.getElem_mem hk)
  have hx : M[n / ids].all[n % ids]? = some (M[n / ids].all[n % ids]'(by omega)) := List.getElem?_eq_getElem (by omega)
  have hd : n = n / ids * ids + n % ids := by have := Nat.div_add_mod n ids; rw [Nat.mul_comm] at this; omega
  have hg := mSlots_get (rw := rw) M 0 (n / ids) (n % ids) _ _ hl hm hx
  rw [← hd, hs] at hg
  refine ⟨n / ids, n % ids, _, _, hd, hi, hm, hx, ?_⟩
  have := Option.some.inj hg
  rw [this]
  simp

structure Sim (ids : Nat) (M : List Sh) (rw : Int → Int → Int) (put : Int) : Prop where
  pos : 1 ≤ ids ∧ ids ≤ 16 ∧ M.length ≤ 16
  len : ∀ m ∈ M, m.all.length = ids
  good : ∀ m ∈ M, Good m
  row : ∀ (k : Nat) (m : Sh), M[k]? = some m → ∀ i : Nat, i < ids → (0 ≤ rw k i ↔ (i : Int) ∈ m.free) ∧ rw k i < put
  ord : ∀ (k : Nat) (m : Sh), M[k]? = some m → (m.free.map (rw k)).Pairwise (· < ·)
  put : 0 ≤ put

end Go.Proofs.YtoimjjhopljdmaaGreat
namespace Go.Proofs.YtoimjjhopljdmaaGreat
open Go.RowKit

def Box (W : World) (L : Lay) (b : Nat) (cs : Array Value) : Prop := b < W.heap.size ∧ ¬ L.own b ∧ ∀ j, W.cell? ⟨b, j, none⟩ = cs[j]?

theorem Box.grow {W W' : World} {L : Lay} {b : Nat} {cs : Array Value} (h : Box W L b cs) (hb : Below W.heap.size W W') : Box W' L b cs :=
  ⟨Nat.lt_of_lt_of_le h.1 hb.size, h.2.1, fun j => (hb.cell (p := ⟨b, j, none⟩) h.1).trans (h.2.2 j)⟩

theorem Stp.open {w w' : World} {L : Lay} {M' : List Sh} {p : Nat} (h : Stp w L w' M') (hP : L.P = p) : ∃ L', L'.P = p ∧ PoolAt w' L' M' ∧ w.heap.size ≤ w'.heap.size ∧ (∀ B, B ≤ w.heap.size → (∀ b, L.own b → B ≤ b) → Below B w w') ∧ (∀ b, L'.own b → L.own b ∨ w.heap.size ≤ b) ∧ ∀ b cs, Box w L b cs → Box w' L' b cs := by
  obtain ⟨L', hP', hp, hc, ho⟩ := h
  refine ⟨L', hP'.trans hP, hp, hc.size, fun B hB hB' => hc.below hB hB', ho, fun b cs hb => ⟨Nat.lt_of_lt_of_le hb.1 hc.size, fun h => ?_, fun j => (hc.cell (a := ⟨b, j, none⟩) hb.1 hb.2.1).trans (hb.2.2 j)⟩⟩
  rcases ho b h with h | h
  · exact hb.2.1 h
  · exact absurd hb.1 (by omega)

theorem new_p (n ids : Nat) (w : World) (h1 : 1 ≤ n) (h2 : n ≤ 16) (h3 : 1 ≤ ids) (h4 : ids ≤ 16) :
    Calls Tryz.prog 80 #[.int .i64 n, .int .i64 ids] w fun e w' => e = .returned (.tuple #[.pointer (some ⟨w.heap.size + 1, 0, none⟩), .int .i64 0]) ∧ Below w.heap.size w w' ∧ ∃ L, L.P = w.heap.size + 1 ∧ PoolAt w' L (List.replicate n (fresh ids ids)) ∧ ∀ b, L.own b → w.heap.size ≤ b := by
  refine (new_ok n ids w h1 h2 h3 h4).mono ?_
  rintro e w' ⟨rfl, L, hP, _, hp, hb, ho⟩
  rw [List.append_nil] at hp
  exact ⟨rfl, hb, L, hP, hp.toAt (by simp), ho⟩

structure St (w0 W : World) (L : Lay) (M : List Sh) (p : Nat) : Prop where
  hP : L.P = p
  hp : PoolAt W L M
  hb : Below w0.heap.size w0 W
  ho : ∀ b, L.own b → w0.heap.size ≤ b

theorem St.grow {w0 W W' : World} {L : Lay} {M : List Sh} {p : Nat} (h : St w0 W L M p) (hb : Below W.heap.size W W') : St w0 W' L M p :=
  ⟨h.hP, h.hp.grown hb, h.hb.trans (hb.mono h.hb.size), h.ho⟩
end Go.Proofs.YtoimjjhopljdmaaGreat
namespace Go.Proofs.YtoimjjhopljdmaaGreat
open Go.RowKit

def AtR (l : List Slot) (k i r : Int) : Prop := (r = -1 ∧ ∀ (n : Nat) (s : Slot), l[n]? = some s → ¬ (s.k = k ∧ s.i = i)) ∨ ∃ (n : Nat) (s : Slot), r = n ∧ l[n]? = some s ∧ s.k = k ∧ s.i = i
def FirstP (l : List Slot) (k : Int) (n : Nat) (m : Int) : Prop := (m = -1 ∧ ∀ (j : Nat) (s : Slot), j < n → l[j]? = some s → s.k = k → s.row < 0) ∨
  ∃ (j : Nat) (s : Slot), m = j ∧ j < n ∧ l[j]? = some s ∧ s.k = k ∧ 0 ≤ s.row ∧ ∀ (j' : Nat) (s' : Slot), j' < n → l[j']? = some s' → s'.k = k → 0 ≤ s'.row → s.row ≤ s'.row

theorem FirstP.take {l : List Slot} {k m : Int} {n : Nat} {s : Slot} (h : FirstP l k n m) (hs : l[n]? = some s) (hk : s.k = k) (hr : 0 ≤ s.row) (hm : m < 0 ∨ ∃ (j : Nat) (t : Slot), m = j ∧ l[j]? = some t ∧ s.row < t.row) : FirstP l k (n + 1) n := by
  refine .inr ⟨n, s, rfl, by omega, hs, hk, hr, fun j' t' hj ht hk' hr' => ?_⟩
  by_cases hjn : j' = n
  · subst hjn; rw [hs] at ht; obtain rfl := Option.some.inj ht; exact Int.le_refl _
  · rcases h with ⟨h1, h2⟩ | ⟨j, t, h1, h2, h3, h4, h5, h6⟩
    · exact absurd (h2 j' t' (by omega) ht hk') (by omega)
    · rcases hm with hm | ⟨j2, t2, hm, ht2, hlt⟩
      · omega
      · have e : j2 = j := by omega
        subst e
        rw [h3] at ht2
        obtain rfl := Option.some.inj ht2
        have := h6 j' t' (by omega) ht hk' hr'
        omega
theorem FirstP.keep {l : List Slot} {k m : Int} {n j : Nat} {s t : Slot} (h : FirstP l k n m) (hs : l[n]? = some s) (hm : m = j) (ht : l[j]? = some t) (hr : t.row ≤ s.row) : FirstP l k (n + 1) m := by
  rcases h with ⟨h1, h2⟩ | ⟨j2, t2, h1, h2, h3, h4, h5, h6⟩
  · omega
  · have e : j2 = j := by omega
    subst e
    rw [h3] at ht
    obtain rfl := Option.some.inj ht
    refine .inr ⟨j2, t2, h1, by omega, h3, h4, h5, fun j' t' hj ht hk hr' => ?_⟩
    by_cases hjn : j' = n
    · subst hjn; rw [hs] at ht; obtain rfl := Option.some.inj ht; exact hr
    · exact h6 j' t' (by omega) ht hk hr'

end Go.Proofs.YtoimjjhopljdmaaGreat
namespace Go.Proofs.YtoimjjhopljdmaaGreat
open Go.RowKit

def RPool (w : World) (R : RLay) (ids : Nat) (c : Int) (M : List Sh) : Prop := ∃ (rw : Int → Int → Int) (put : Int), RefAt w R (mSlots rw 0 M) put ∧ Sim ids M rw put ∧ put ≤ c
theorem RPool.grown {w w' : World} {R : RLay} {ids : Nat} {c : Int} {M : List Sh} (h : RPool w R ids c M) (hb : Below w.heap.size w w') : RPool w' R ids c M := by
  obtain ⟨rw, put, h1, h2, h3⟩ := h; exact ⟨rw, put, h1.grown hb, h2, h3⟩
theorem RPool.lt {w : World} {R : RLay} {ids : Nat} {c : Int} {M : List Sh} (h : RPool w R ids c M) {x : Nat} (hx : R.own x) : x < w.heap.size := by
  obtain ⟨rw, put, h1, h2, h3⟩ := h; exact h1.lt hx

theorem Sim.at {ids : Nat} {M : List Sh} {rw : Int → Int → Int} {put k i r : Int} (h : Sim ids M rw put) (ha : AtR (mSlots rw 0 M) k i r) :
    (ixOf M k i = Option.none ∧ r = -1) ∨ ∃ (k' i' : Nat) (m : Sh) (x : Ix), k = k' ∧ i = i' ∧ M[k']? = some m ∧ m.all[i']? = some x ∧ i' < ids ∧ r = ((k' * ids + i' : Nat) : Int) ∧ ixOf M k i = some x := by
  rcases ha with ⟨rfl, hn⟩ | ⟨n, s, rfl, hs, hk, hi⟩
  · left
    refine ⟨?_, rfl⟩
    cases hx : ixOf M k i with
    | none => rfl
    | some x =>
      unfold ixOf at hx
      obtain ⟨m, hm, hx'⟩ := Option.bind_eq_some_iff.1 hx
      unfold shOf at hm
      split at hm
      · rename_i hk0
        split at hx'
        · rename_i hi0
          have := mSlots_get (rw := rw) M 0 k.toNat i.toNat m x h.len hm hx'
          exact absurd ⟨by simp; omega, by simp; omega⟩ (hn _ _ this)
        · cases hx'
      · cases hm
  · right
    obtain ⟨a, b, m, x, rfl, hb, hm, hx, rfl⟩ := mSlots_split h.len hs
    simp only at hk hi
    subst hk hi
    exact ⟨a, b, m, x, rfl, rfl, hm, hx, hb, rfl, by simp [ixOf, shOf, hm, hx]⟩

theorem Sim.first {ids : Nat} {M : List Sh} {rw : Int → Int → Int} {put k r : Int} (h : Sim ids M rw put) (ha : FirstP (mSlots rw 0 M) k (mSlots rw 0 M).length r) {m : Sh} (hm : shOf M k = some m) :
    (m.free = [] ∧ r = -1) ∨ ∃ (k' f : Nat) (fs : List Int) (x : Ix), k = k' ∧ M[k']? = some m ∧ m.free = (f : Int) :: fs ∧ m.all[f]? = some x ∧ f < ids ∧ r = ((k' * ids + f : Nat) : Int) := by
  unfold shOf at hm
  split at hm
  case isFalse => cases hm
  rename_i hk0
  obtain ⟨k, rfl⟩ := Int.eq_ofNat_of_zero_le hk0
  rw [Int.toNat_natCast] at hm
  have hg := h.good m (List.mem_of_getElem? hm)
  have hal := h.len m (List.mem_of_getElem? hm)
  have hgt : ∀ f ∈ m.free, ∃ (i : Nat) (x : Ix), f = i ∧ i < ids ∧ m.all[i]? = some x ∧ 0 ≤ rw k i := by
    intro f hf
    obtain ⟨h0, h1⟩ := hg.inv.fr f hf
    obtain ⟨i, rfl⟩ := Int.eq_ofNat_of_zero_le h0
    have hi : i < m.all.length := by omega
    exact ⟨i, _, rfl, by omega, List.getElem?_eq_getElem hi, (h.row k m hm i (by omega)).1.2 hf⟩
  cases hf : m.free with
  | nil =>
    left
    refine ⟨rfl, ?_⟩
    rcases ha with ⟨rfl, _⟩ | ⟨j, s, rfl, hj, hs, hk, hr, _⟩
    · rfl
    · obtain ⟨a, b, m2, x, rfl, hb, hm2, hx, rfl⟩ := mSlots_split h.len hs
      simp only at hk hr
      obtain rfl : a = k := by omega
      rw [hm] at hm2
      obtain rfl := Option.some.inj hm2
      have := (h.row a m hm b hb).1.1 hr
      rw [hf] at this
      cases this
  | cons f fs =>
    right
    obtain ⟨i, x, rfl, hi, hx, hr0⟩ := hgt f (by rw [hf]; simp)
    refine ⟨k, i, fs, x, rfl, hm, rfl, hx, hi, ?_⟩
    have hsl := mSlots_get (rw := rw) M 0 k i m x h.len hm hx
    have hlt := (List.getElem?_eq_some_iff.1 hsl).1
    rcases ha with ⟨rfl, hn⟩ | ⟨j, s, rfl, hj, hs, hk, hr, hmin⟩
    · have := hn _ _ hlt hsl (by simp)
      simp at this
      omega
    · obtain ⟨a, b, m2, y, rfl, hb, hm2, hy, rfl⟩ := mSlots_split h.len hs
      simp only at hk hr hmin
      obtain rfl : a = k := by omega
      rw [hm] at hm2
      obtain rfl := Option.some.inj hm2
      have hbf := (h.row a m hm b hb).1.1 hr
      have hle := hmin _ _ hlt hsl (by simp) (by simpa using hr0)
      simp at hle
      rw [hf] at hbf
      rcases List.mem_cons.1 hbf with e | hbs
      · obtain rfl : b = i := by omega
        rfl
      · have ho := h.ord a m hm
        rw [hf, List.map_cons, List.pairwise_cons] at ho
        have := ho.1 _ (List.mem_map_of_mem hbs)
        omega

theorem Sim.none {ids : Nat} {M : List Sh} {rw : Int → Int → Int} {put k : Int} (h : Sim ids M rw put) : ixOf M k 0 = Option.none ↔ shOf M k = Option.none := by
  unfold ixOf
  cases hm : shOf M k with
  | none => simp
  | some m =>
    have hal : m.all.length = ids := by
      unfold shOf at hm
      split at hm
      · exact h.len m (List.mem_of_getElem? hm)
      · cases hm
    have := h.pos.1
    simp
    intro e
    rw [e] at hal
    simp at hal
    omega

def genF (M : List Sh) (k i : Int) : Int := match ixOf M k i with | none => 0 | some x => x.gen
end Go.Proofs.YtoimjjhopljdmaaGreat
namespace Go.Proofs.YtoimjjhopljdmaaGreat
open Go.RowKit Go.Shelf

theorem sl_emptyCm (W : World) : Sl (W.alloc (.cells #[] 34)) 34 16 (.slice (some ⟨W.heap.size, 0, none⟩) 0 0) 0 [] := ⟨rfl, .inr ⟨W.heap.size, 0, 0, #[], rfl, heap_alloc_new W _, Nat.le_refl _, by simp [maxLen], by simp, fun j u hj => by cases hj⟩⟩
theorem rnew_ofCm {w w1 : World} {l : List Cm} {v v' : Value} (o : Obj) (hv : v.ownBlock = some w.heap.size) (hs : Sl w1 34 16 v' (0 + l.length) ([] ++ cellsR cmC l)) (ht : Turned (w.alloc o) w1 v.ownBlock)
    (ho : v'.ownBlock = v.ownBlock ∨ ∃ g, v'.ownBlock = some g ∧ (w.alloc o).heap.size ≤ g) : RNew cmC 34 16 w w1 v' l := by
  rw [Nat.zero_add, List.nil_append] at hs
  have hsz := ht.size
  rw [World.size_alloc] at hsz
  refine ⟨hs, ((Below.refl w.heap.size w).alloc (Nat.le_refl _) o).trans ⟨ht.os, ht.tape, ht.output, ht.size, fun k hk => ht.block k (by rw [World.size_alloc]; omega) (fun e => by rw [hv] at e; simp at e; omega)⟩, fun g hg => ?_⟩
  rcases ho with e | ⟨g', e, hg'⟩
  · rw [e, hv] at hg; simp at hg; omega
  · rw [e] at hg; simp at hg; rw [World.size_alloc] at hg'; omega

set_option maxRecDepth 100000 in
theorem cloneCm_any (v : Value) (l : List Cm) (w : World) (h : RIn cmC w v l) (hl : l.length ≤ 1000000) :
    Calls Tryz.prog 90 #[v] w fun e w' => ∃ v', e = .returned v' ∧ RNew cmC 34 16 w w' v' l := by
  obtain ⟨i0, hi0, hz0, hz1, hz2⟩ := info_partsG info_cm
  obtain ⟨p, cap, rfl, h1, h2, h3, h4⟩ := h
  have HS := Lib.hid sl_emptyCm
  by_cases hn : l = []
  · subst hn
    clear h4 h1
    cases p with
    | none =>
      obtain rfl := h2 rfl
      clear h2 h3
      have hnil := fun W : World => Lib.run_eql_slice_nil (P := Tryz.prog) W 26 34 none 0 0 0 0 Tryz.underlying26
      go_enter Tryz.func90, Tryz.ntmps90
      go_wp2_with fail
      go_ret
      exact ⟨_, rfl, ⟨rfl, .inl ⟨rfl, rfl⟩⟩, bg, fun g hg => by cases hg⟩
    | some a =>
      clear h2
      have hnil := fun W : World => Lib.run_eql_slice_nil (P := Tryz.prog) W 26 34 (some a) 0 cap 0 0 Tryz.underlying26
      go_enter Tryz.func90, Tryz.ntmps90
      go_wp2_with (at_builtin; refine wpList_append_zero (by rfl) _ _ 26 (by rfl) 34 i0 Tryz.underlying26 hi0 _ _ 0 0 _ (by rfl) (by rfl) (Nat.le_refl _) ?_)
      go_ret
      exact ⟨_, rfl, HS.out w, bg, fun g hg => by simp [Value.ownBlock] at hg; omega⟩
  · obtain ⟨blk, off, rfl, h5, h6⟩ := h4 hn
    have hn0 : 0 < l.length := List.length_pos_iff.2 hn
    have hcw : ∀ j u, (cellsR cmC l)[j]? = some u → (w.alloc (.cells #[] 34)).cell? (Addr.add ⟨blk, off, none⟩ j) = some u := fun j u hj => by
      have h := h6 j u hj
      rw [show Addr.add ⟨blk, off, none⟩ j = ⟨blk, off + j, none⟩ from by unfold Addr.add; split <;> simp_all]
      exact cell_keep ((Below.refl _ _).alloc (Nat.le_refl _) _) h
    have HW := Lib.hid hcw
    have H1 := Lib.hid (cellsR_mem cmC (l := l) cmC_one)
    have HX := Lib.hid (cellsR_len cmC 16 cmC_len l)
    clear hcw h4 h6 h2 hn h1
    have hnil := fun W : World => Lib.run_eql_slice_nil (P := Tryz.prog) W 26 34 (some ⟨blk, off, none⟩) l.length cap 0 0 Tryz.underlying26
    go_enter Tryz.func90, Tryz.ntmps90
    go_wp2_with (at_builtin; refine wpList_append_sl _ (by rfl) _ _ 26 (by rfl) 34 i0 _ 16 128 Tryz.underlying26 hi0 hz0 hz1 hz2 rfl (by omega) _ 0 [] (by rfl) (HS.out _) ⟨blk, off, none⟩ l.length cap (cellsR cmC l) (by rfl) HX.out HW.out H1.out hn0 (by unfold maxLen; omega) (by omega) ?_; intro v' w1 hs1 ht ho)
    go_ret
    exact ⟨_, rfl, rnew_ofCm _ rfl hs1 ht ho⟩

def renCm : Ren := ⟨fun n => if n = 6 then 151 else if n = 8 then 126 else 0, fun n => if n = 0 then 0 else if n = 3 then 3 else if n = 4 then 4 else if n = 22 then 26 else if n = 23 then 34 else if n = 25 then 80 else 0, fun _ => 0⟩
theorem laysCm : SlLaysH0.n8 Tryz.prog renCm := {
  mixed := by kernel_rfl
  f6 := ⟨Tryz.f151.name, by decide, by kernel_rfl⟩
  f8 := ⟨Tryz.f126.name, by decide, by kernel_rfl⟩
  t0 := by kernel_rfl
  a0 := fun _ => by kernel_rfl
  z0 := fun _ => by kernel_rfl
  v0 := fun _ => by kernel_rfl
  t3 := by kernel_rfl
  a3 := fun _ => by kernel_rfl
  z3 := fun _ => by kernel_rfl
  v3 := fun _ => by kernel_rfl
  t4 := by kernel_rfl
  a4 := fun _ => by kernel_rfl
  z4 := fun _ => by kernel_rfl
  v4 := fun _ => by kernel_rfl
  t22 := by kernel_rfl
  a22 := fun _ => by kernel_rfl
  z22 := fun _ => by kernel_rfl
  v22 := fun _ => by kernel_rfl
  t25 := by kernel_rfl
  a25 := fun _ => by kernel_rfl
  z25 := fun _ => by kernel_rfl
  v25 := fun _ => by kernel_rfl }

instance inhCm : Inhabited Cm := ⟨⟨0, 0, 0, 0, zeroB, 0⟩⟩
def endsF (q : List Cm) (s i g : Int) : Bool := q.any fun c => c.k == 2 && idEq c.s c.i c.g s i g
theorem waits1_any (x : Cm) (s i g : Int) (B : Nat) (W : World) (hB : B < W.heap.size) (h0 : W.cell? ⟨B, 0, none⟩ = some (.int .i64 s)) (h1 : W.cell? ⟨B, 1, none⟩ = some (.int .i64 i)) (h2 : W.cell? ⟨B, 2, none⟩ = some (.int .i64 g)) :
    Calls Tryz.prog 127 (#[.agg (cmC x).toArray] ++ #[.pointer (some ⟨B, 0, none⟩)]) W fun e w' => e = .returned (.bool (x.k == 2 && idEq x.s x.i x.g s i g)) ∧ Below W.heap.size W w' := by
  show Calls Tryz.prog 127 #[.agg #[.int .i64 x.k, .int .i64 x.s, .int .i64 x.i, .int .i64 x.g, .int .i64 (x.b).s, .int .i64 (x.b).i, .int .i64 (x.b).g, .int .i64 (x.b).m, .int .i64 (x.b).x, .int .i64 (x.b).y, .int .i64 (x.b).vx, .int .i64 (x.b).vy, .int .i64 (x.b).hp, .int .i64 (x.b).pw, .int .i64 (x.b).lf, .int .i64 x.mask], .pointer (some ⟨B, 0, none⟩)] W _
  obtain ⟨n1, n2, n3⟩ := ltz hB
  cases e1 : (x.k == 2) with
  | true =>
    go_enter Tryz.func127, Tryz.ntmps127
    go_wp2_with fail
    go_ret
    exact ⟨by simp, bg⟩
  | false =>
    go_enter Tryz.func127, Tryz.ntmps127
    go_wp2_with fail
    go_ret
    exact ⟨rfl, bg⟩
theorem eg_waits1 : ∀ args w, (callFunc 127 args).run Tryz.prog w = .ok (.enter 127 args) w := enters_of Tryz.func127 (by kernel_rfl) rfl

theorem cf_emptyCm (g : Nat) (lb : Array Value) (p : Option Addr) (c : Nat) (w : World) :
    Calls Tryz.prog 126 #[.slice p 0 c, .func (.func g) #[] lb] w fun e w' => e = .returned (.bool false) ∧ w = w' := by
  have hI : Calls Tryz.prog 151 #[.slice p 0 c, .func (.func g) #[] lb] w fun e w' => e = .returned (.int .i64 (-1)) ∧ w = w' := by
    go_enter Tryz.func151, Tryz.ntmps151
    go_wp2_with fail
    refine wp_loop_rounds 1 ?_
    rw [rounds_succ]
    go_wp2
    go_ret
    exact ⟨rfl, rfl⟩
  go_enter Tryz.func126, Tryz.ntmps126
  go_wp2_with (go_at_call 151; refine hI.mono ?_; rintro e w' ⟨rfl, rfl⟩)
  go_ret
  exact ⟨rfl, rfl⟩

theorem contCm_any (s i g : Int) (L : List Cm) (v : Value) (B : Nat) (W : World) (hL : RIn cmC W v L) (hB : B < W.heap.size) (h0' : W.cell? ⟨B, 0, none⟩ = some (.int .i64 s)) (h1' : W.cell? ⟨B, 1, none⟩ = some (.int .i64 i)) (h2' : W.cell? ⟨B, 2, none⟩ = some (.int .i64 g)) :
    Calls Tryz.prog 126 #[v, .func (.func 127) #[] #[.pointer (some ⟨B, 0, none⟩)]] W fun e w' => e = .returned (.bool (endsF L s i g)) ∧ Below W.heap.size W w' := by
  obtain ⟨p, cap, rfl, hm, _, hc, h4⟩ := hL
  by_cases h0 : L = []
  · subst h0
    refine (cf_emptyCm _ _ p cap W).mono ?_
    rintro e w' ⟨rfl, rfl⟩
    exact ⟨rfl, Below.refl _ _⟩
  · obtain ⟨blk, off, rfl, h5, h6⟩ := h4 h0
    have hcon := AnyQ.slices_ContainsFunc laysCm 16 (fun _ => by kernel_rfl) (fun _ => by kernel_rfl) cmC cmC_len (fun x => x.k == 2 && idEq x.s x.i x.g s i g) 127 #[.pointer (some ⟨B, 0, none⟩)] eg_waits1 blk off L.length cap L W
      (fun W' x hb => ?_) (Nat.le_refl _) (by unfold maxLen at hm; omega) h5 (fun j hj i v hi => ?_)
    · rw [List.take_length] at hcon
      exact hcon
    · have hz := hb.size
      refine (waits1_any x s i g B W' (by omega) ((hb.cell (p := ⟨B, 0, none⟩) hB).trans h0') ((hb.cell (p := ⟨B, 1, none⟩) hB).trans h1') ((hb.cell (p := ⟨B, 2, none⟩) hB).trans h2')).mono ?_
      rintro e w' ⟨he, hb'⟩
      exact ⟨he, hb.trans (hb'.mono hz)⟩
    · rw [getElem!_pos L j hj] at hi
      have hi' : i < 16 := by have := (List.getElem?_eq_some_iff.1 hi).1; rwa [cmC_len] at this
      have := cellsR_get cmC 16 cmC_len L j i L[j] (List.getElem?_eq_getElem hj) hi'
      rw [Nat.add_assoc]
      exact h6 _ v (this.trans hi)
end Go.Proofs.YtoimjjhopljdmaaGreat
