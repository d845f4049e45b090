/-
  The program's pool beside the reference's; two lists of the same names; whose names are told live. No condition.
-/
import Derived.Test.YtjkbenghgbigdaaRefK
import Derived.Test.YtjkbenghgbigdaaRowC
import Derived.Test.YtjkbenghgbigdaaLapB
namespace Go.Proofs.Ytjkbenghgbigdaa
open Go.RowKit
structure Pl (w0 W : World) (L : Lay) (M : List Sh) (P : Nat) (R : RLay) (ids : Nat) (c : Int) (N : List Sh) : Prop where
  st : St w0 W L M P
  r : RPool W R ids c N
  ap : ∀ b, L.own b → ¬ R.own b
  ro : ∀ b, R.own b → w0.heap.size ≤ b
variable {w0 W : World} {L : Lay} {M : List Sh} {P : Nat} {R : RLay} {ids : Nat} {c : Int} {N : List Sh}
theorem Pl.grow {W' : World} (h : Pl w0 W L M P R ids c N) (hb : Below W.heap.size W W') : Pl w0 W' L M P R ids c N := ⟨h.st.grow hb, h.r.grown hb, h.ap, h.ro⟩
theorem Pl.wentP {w' : World} {M' : List Sh} (h : Pl w0 W L M P R ids c N) (hs : Stp W L w' M') : ∃ L', Pl w0 w' L' M' P R ids c N ∧ Chg W w' L.own ∧ ∀ b, L'.own b → L.own b ∨ W.heap.size ≤ b := by
  obtain ⟨L', s, k, o⟩ := h.st.went hs
  refine ⟨L', ⟨s, h.r.chg k fun b h1 h2 => h.ap b h2 h1, fun b h1 h2 => ?_, h.ro⟩, k, o⟩
  rcases o b h1 with h3 | h3
  · exact h.ap b h3 h2
  · have := h.r.lt h2; omega
theorem Pl.wentR {w' : World} {c' : Int} {N' : List Sh} (h : Pl w0 W L M P R ids c N) (hs : RStp W R ids c' w' N') : Pl w0 w' L M P R ids c' N' ∧ Chg W w' R.own :=
  ⟨⟨⟨h.st.hP, h.st.hp.chg hs.2 h.ap, h.st.hb.trans (hs.2.below h.st.hb.size h.ro), h.st.ho⟩, hs.1, h.ap, h.ro⟩, hs.2⟩
/-- Whatever else has turned that is neither pool's. -/
theorem Pl.chg {w' : World} {F : Nat → Prop} (h : Pl w0 W L M P R ids c N) (hc : Chg W w' F) (h1 : ∀ b, L.own b → ¬ F b) (h2 : ∀ b, R.own b → ¬ F b) (h3 : ∀ b, F b → w0.heap.size ≤ b) : Pl w0 w' L M P R ids c N :=
  ⟨⟨h.st.hP, h.st.hp.chg hc h1, h.st.hb.trans (hc.below h.st.hb.size h3), h.st.ho⟩, h.r.chg hc h2, h.ap, h.ro⟩

/-- A box of the caller's beside both. -/
def Box2 (W : World) (L : Lay) (R : RLay) (b : Nat) (cs : Array Value) : Prop := b < W.heap.size ∧ ¬ L.own b ∧ ¬ R.own b ∧ ∀ j, W.cell? ⟨b, j, none⟩ = cs[j]?
theorem Box2.new (h : Pl w0 W L M P R ids c N) (cs : Array Value) (t : TypeId) : Box2 (W.alloc (.cells cs t)) L R W.heap.size cs :=
  ⟨by simp, fun e => by have := h.st.hp.lt e; omega, fun e => by have := h.r.lt e; omega, fun j => by simp⟩
theorem Box2.grow {W' : World} {b : Nat} {cs : Array Value} (h : Box2 W L R b cs) (hb : Below W.heap.size W W') : Box2 W' L R b cs :=
  ⟨Nat.lt_of_lt_of_le h.1 hb.size, h.2.1, h.2.2.1, fun j => (hb.cell (p := ⟨b, j, none⟩) h.1).trans (h.2.2.2 j)⟩
theorem Box2.wentP {w' : World} {L' : Lay} {b : Nat} {cs : Array Value} (h : Box2 W L R b cs) (hc : Chg W w' L.own) (ho : ∀ b, L'.own b → L.own b ∨ W.heap.size ≤ b) : Box2 w' L' R b cs :=
  ⟨Nat.lt_of_lt_of_le h.1 hc.size, fun e => (ho b e).elim h.2.1 fun e => by have := h.1; omega, h.2.2.1, fun j => (hc.cell (a := ⟨b, j, none⟩) h.1 h.2.1).trans (h.2.2.2 j)⟩
theorem Box2.wentR {w' : World} {b : Nat} {cs : Array Value} (h : Box2 W L R b cs) (hc : Chg W w' R.own) : Box2 w' L R b cs :=
  ⟨Nat.lt_of_lt_of_le h.1 hc.size, h.2.1, h.2.2.1, fun j => (hc.cell (a := ⟨b, j, none⟩) h.1 h.2.2.1).trans (h.2.2.2 j)⟩

theorem ixList_mem (k : Int) : ∀ (l : List Ix) (i : Int) (x : Id3), x ∈ ixList k i l → ∃ (j : Nat) (y : Ix), l[j]? = some y ∧ y.alive = true ∧ x = (k, i + j, y.gen)
  | [], _, _, h => by cases h
  | y :: l, i, x, h => by
    simp only [ixList, List.mem_append] at h
    rcases h with h | h
    · by_cases ha : y.alive = true
      · rw [if_pos ha] at h
        obtain rfl : x = (k, i, y.gen) := by simpa using h
        exact ⟨0, y, rfl, ha, by simp⟩
      · rw [if_neg ha] at h; cases h
    · obtain ⟨j, z, h1, h2, h3⟩ := ixList_mem k l (i + 1) x h
      exact ⟨j + 1, z, by simpa using h1, h2, by rw [h3]; congr 2; omega⟩
theorem shList_mem : ∀ (M : List Sh) (k : Int) (x : Id3), x ∈ shList k M → ∃ (j i : Nat) (m : Sh) (y : Ix), M[j]? = some m ∧ m.all[i]? = some y ∧ y.alive = true ∧ x = (k + j, (i : Int), y.gen)
  | [], _, _, h => by cases h
  | m :: M, k, x, h => by
    simp only [shList, List.mem_append] at h
    rcases h with h | h
    · obtain ⟨i, y, h1, h2, h3⟩ := ixList_mem k m.all 0 x h
      exact ⟨0, i, m, y, rfl, h1, h2, by rw [h3]; simp⟩
    · obtain ⟨j, i, m', y, h0, h1, h2, h3⟩ := shList_mem M (k + 1) x h
      exact ⟨j + 1, i, m', y, by simpa using h0, h1, h2, by rw [h3]; congr 1; omega⟩
theorem list_alive (M : List Sh) (x : Id3) (h : x ∈ listF M) : aliveF M x.1 x.2.1 x.2.2 = true := by
  obtain ⟨j, i, m, y, h0, h1, h2, rfl⟩ := shList_mem M 0 x h
  simp [aliveF, ixOf, shOf, h0, h1, h2]


theorem idAt {w : World} {v : Value} {l : List Id3} (h : Sl w 30 3 v l.length (idCells l)) : ∃ p cap, v = .slice p l.length cap ∧ l.length ≤ maxLen ∧ ∀ k (x : Id3), l[k]? = some x → ∃ b off, p = some ⟨b, off, none⟩ ∧ l.length ≤ cap ∧
    w.cell? ⟨b, off + k * 3, none⟩ = some (.int .i64 x.1) ∧ w.cell? ⟨b, off + k * 3 + 1, none⟩ = some (.int .i64 x.2.1) ∧ w.cell? ⟨b, off + k * 3 + 2, none⟩ = some (.int .i64 x.2.2) :=
  Lst.cells (w0 := { w with heap := #[] }) (F := fun _ => False) ⟨h, fun g _ => ⟨Nat.zero_le g, id⟩⟩

set_option maxRecDepth 100000 in
set_option maxHeartbeats 2000000 in
/-- Two lists of the same names are the same. -/
theorem same_any (va vb : Value) (l : List Id3) (w : World) (ha : Sl w 30 3 va l.length (idCells l)) (hb : Sl w 30 3 vb l.length (idCells l)) :
    Calls Try.prog 74 #[va, vb] w fun e w' => e = .returned (.bool true) ∧ Below w.heap.size w w' := by
  obtain ⟨pa, ca, rfl, hl, hca⟩ := idAt ha
  obtain ⟨pb, cb, rfl, _, hcb⟩ := idAt hb
  have HA := Lib.hid hca
  have HB := Lib.hid hcb
  unfold maxLen at hl
  clear ha hb hca hcb
  go_enter Try.func74, Try.ntmps74
  go_wp2_with fail
  go_loopw [5] (fun x wr => ∃ n : Nat, n ≤ l.length ∧ x = .int .i64 n ∧ Hid (Below w.heap.size w wr)) (fun x _ => l.length - (intOf x).toNat)
  case atStart => exact ⟨0, Nat.zero_le _, rfl, Lib.hid (by repeat' (first | (with_reducible exact Below.refl _ _) | (with_reducible assumption) | (with_reducible refine below_drewN ?_ _) | (with_reducible refine below_more _ _ _ ?_ ?_) | (with_reducible refine Below.alloc ?_ ?_ _) | (with_reducible refine Below.drew ?_) | (with_reducible refine Below.setCell ?_ ?_ _) | go_size))⟩
  case round =>
    obtain ⟨n, hn, rfl, hh⟩ := hrel
    obtain ⟨wo, rfl⟩ : ∃ wo : World, wo = wr := ⟨_, rfl⟩
    have hI : 0 ≤ (n : Int) := Int.natCast_nonneg n
    by_cases hlt : n < l.length
    · obtain ⟨x, hx⟩ : ∃ x, l[n]? = some x := ⟨_, List.getElem?_eq_getElem hlt⟩
      obtain ⟨ba, oa, rfl, hcap, a0, a1, a2⟩ := HA.out n x hx
      obtain ⟨bb, ob, rfl, hcapb, b0, b1, b2⟩ := HB.out n x hx
      have la := World.block_lt_of_cell? w _ a0
      have lb := World.block_lt_of_cell? w _ b0
      obtain ⟨hc, _⟩ := bcell hh.out
      have A0 := (hc _ _ la).trans a0
      have A1 := (hc _ _ la).trans a1
      have A2 := (hc _ _ la).trans a2
      have B0 := (hc _ _ lb).trans b0
      have B1 := (hc _ _ lb).trans b1
      have B2 := (hc _ _ lb).trans b2
      have la2 := World.block_lt_of_cell? wo _ A0
      have lb2 := World.block_lt_of_cell? wo _ B0
      simp only at la2 lb2
      obtain ⟨s, i, g⟩ := x
      simp only at A0 A1 A2 B0 B1 B2
      have heq : idEq s i g s i g = true := by simp [idEq]
      have hL : (n : Int) < (l.length : Int) := by omega
      clear hc a0 a1 a2 b0 b1 b2 la lb hx
      go_wp2_with fail
      refine wp_region_more (by kernel_rfl) (by kernel_rfl) ?_
      repeat (go_big_quiet_step (fail))
      refine wpQuiet_nil ?_
      rintro _ ⟨pn, rfl⟩
      go_wp2_with fail
      go_roundw
      case rel => exact ⟨n + 1, hlt, by go_num, Lib.hid (Below.trans hh.out (Below.mono (B := wo.heap.size) (by repeat' (first | (with_reducible exact Below.refl _ _) | (with_reducible assumption) | (with_reducible refine below_drewN ?_ _) | (with_reducible refine below_more _ _ _ ?_ ?_) | (with_reducible refine Below.alloc ?_ ?_ _) | (with_reducible refine Below.drew ?_) | (with_reducible refine Below.setCell ?_ ?_ _) | go_size)) hh.out.size))⟩
      case measure => simp [intOf]; omega
    · obtain rfl : n = l.length := by omega
      go_wp2_with fail
      go_ret
      exact ⟨rfl, hh.out⟩
end Go.Proofs.Ytjkbenghgbigdaa
