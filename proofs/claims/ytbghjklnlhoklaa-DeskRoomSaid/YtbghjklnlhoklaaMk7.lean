/-
  The program's pool of names: List. No condition.
  Chapter 8's laws: mod, next, and the document's example (awake). No condition.
  The pool of names, plain: what next and Free make of a shard. No program here. No condition.
  Lapse, plain: what it makes of a shard. No program here. No condition.
  The reference's pool of names in memory, and how it stands to the program's. Plain: no program walked. No condition.
-/
import Derived.Test.YtbghjklnlhoklaaPoolG
import Derived.Test.YtbghjklnlhoklaaPoolH
namespace Go.Proofs.Ytbghjklnlhoklaa
open Go.RowKit

abbrev Id3 := Int × Int × Int
def idCells (l : List Id3) : List Value := l.flatMap fun x => [.int .i64 x.1, .int .i64 x.2.1, .int .i64 x.2.2]
def ixList (k : Int) : Int → List Ix → List Id3
  | _, [] => []
  | i, x :: xs => (if x.alive then [(k, i, x.gen)] else []) ++ ixList k (i + 1) xs
def shList : Int → List Sh → List Id3
  | _, [] => []
  | k, m :: ms => ixList k 0 m.all ++ shList (k + 1) ms
def listF (M : List Sh) : List Id3 := shList 0 M

theorem ixList_snoc (k : Int) (x : Ix) : ∀ (l : List Ix) (i : Int), ixList k i (l ++ [x]) = ixList k i l ++ (if x.alive then [(k, i + l.length, x.gen)] else [])
  | [], i => by simp [ixList]
  | y :: l, i => by
    simp only [List.cons_append, ixList, ixList_snoc k x l (i + 1), List.append_assoc, List.length_cons]
    rw [show i + 1 + (l.length : Int) = i + ((l.length + 1 : Nat) : Int) by omega]
theorem shList_snoc (m : Sh) : ∀ (l : List Sh) (k : Int), shList k (l ++ [m]) = shList k l ++ ixList (k + l.length) 0 m.all
  | [], k => by simp [shList]
  | y :: l, k => by
    simp only [List.cons_append, shList, shList_snoc m l (k + 1), List.append_assoc, List.length_cons]
    rw [show k + 1 + (l.length : Int) = k + ((l.length + 1 : Nat) : Int) by omega]
theorem ixList_le (k : Int) : ∀ (l : List Ix) (i : Int), (ixList k i l).length ≤ l.length
  | [], _ => by simp [ixList]
  | x :: l, i => by
    have := ixList_le k l (i + 1)
    simp only [ixList, List.length_append, List.length_cons]
    split <;> simp <;> omega
theorem shList_le : ∀ (l : List Sh) (k : Int), (∀ m ∈ l, m.all.length ≤ 16) → (shList k l).length ≤ 16 * l.length
  | [], _, _ => by simp [shList]
  | m :: l, k, h => by
    have h1 := shList_le l (k + 1) fun m hm => h m (List.mem_cons_of_mem _ hm)
    have h2 := ixList_le k m.all 0
    have h3 := h m (by simp)
    simp only [shList, List.length_append, List.length_cons]
    omega
theorem idCells_app (l l' : List Id3) : idCells (l ++ l') = idCells l ++ idCells l' := by simp [idCells]
theorem idCells_one (s i g : Int) : idCells [(s, i, g)] = [.int .i64 s, .int .i64 i, .int .i64 g] := by simp [idCells]

/-- v reads as the names l, in memory of the call's own. -/
def ListAt (w wr : World) (v : Value) (l : List Id3) : Prop := Sl wr 33 3 v l.length (idCells l) ∧ Below w.heap.size w wr ∧ ∀ g, v.ownBlock = some g → w.heap.size ≤ g

theorem ListAt.later {w wr W : World} {v : Value} {l : List Id3} (h : ListAt w wr v l) (hb : Below wr.heap.size wr W) : ListAt w W v l :=
  ⟨h.1.keep fun g hg => hb.block g (h.1.lt hg), h.2.1.trans (hb.mono h.2.1.size), h.2.2⟩

theorem ListAt.snoc {w W w1 : World} {v v' : Value} {l : List Id3} {s i g : Int} (h : ListAt w W v l) (hs : Sl w1 33 3 v' (l.length + 1) (idCells l ++ [.int .i64 s, .int .i64 i, .int .i64 g])) (ht : Turned W w1 v.ownBlock)
    (ho : v'.ownBlock = v.ownBlock ∨ ∃ g, v'.ownBlock = some g ∧ W.heap.size ≤ g) : ListAt w w1 v' (l ++ [(s, i, g)]) := by
  refine ⟨?_, h.2.1.trans ⟨ht.os, ht.tape, ht.output, ht.size, fun k hk => ht.block k (by have := h.2.1.size; omega) fun e => by have := h.2.2 k e.symm; omega⟩, fun q hq => ?_⟩
  · rw [idCells_app, idCells_one]; simpa using hs
  · rcases ho with e | ⟨g', e, hg'⟩
    · exact h.2.2 q (by rw [← e]; exact hq)
    · rw [e] at hq
      cases hq
      exact Nat.le_trans h.2.1.size hg'

theorem info_id : (Try.prog.info? 33).map (fun i => (i.zero, i.size, i.bytes)) = some (some (.agg #[.int .i64 0, .int .i64 0, .int .i64 0]), 3, 24) := by kernel_rfl

theorem list_none (w : World) : Calls Try.prog 53 #[.pointer none] w fun e w' => e = .returned (.slice none 0 0) ∧ w = w' := by
  go_enter Try.func53, Try.ntmps53
  go_wp2
  go_ret
  exact ⟨rfl, rfl⟩

set_option maxRecDepth 100000 in
set_option maxHeartbeats 4000000 in
theorem list_any (w : World) (L : Lay) (M : List Sh) (h : PoolAt w L M) :
    Calls Try.prog 53 #[.pointer (some ⟨L.P, 0, none⟩)] w fun e w' => ∃ v, e = .returned v ∧ ListAt w w' v (listF M) := by
  obtain ⟨i0, hi0, hz0, hz1, hz2⟩ := info_parts info_id
  have hfew := h.few
  have hc : w.cell? ⟨L.P, 0, none⟩ = some (.slice (some ⟨L.S, 0, none⟩) M.length M.length) := by simp [World.cell?, h.top]
  have HP := Lib.hid h
  have hm16 : ∀ m ∈ M, m.all.length ≤ 16 := by
    intro m hm
    obtain ⟨k, hk, rfl⟩ := List.getElem_of_mem hm
    have hkl : k < L.sh.length := by rw [h.len]; exact hk
    exact (h.sh (List.getElem?_eq_getElem hk) (List.getElem?_eq_getElem hkl)).2.2.2.2.1.few
  have HM := Lib.hid hm16
  clear h hm16
  go_enter Try.func53, Try.ntmps53
  go_wp2_with fail
  go_loopw [3, 16] (fun v i wr => ∃ k : Nat, k ≤ M.length ∧ i = .int .i64 k ∧ ListAt w wr v (shList 0 (M.take k))) (fun _ i _ => M.length - (intOf i).toNat)
  case atStart => exact ⟨0, Nat.zero_le _, rfl, ⟨by simp [shList, idCells], .inl ⟨rfl, by simp [shList]⟩⟩, Below.refl _ _, fun g hg => by cases hg⟩
  case round =>
    obtain ⟨k, hk, rfl, hl⟩ := hrel
    obtain ⟨wo, rfl⟩ : ∃ wo : World, wo = wr := ⟨_, rfl⟩
    by_cases hlt : k < M.length
    · have hkl : k < L.sh.length := by rw [HP.out.len]; exact hlt
      have hmk : M[k]? = some M[k] := List.getElem?_eq_getElem hlt
      have hlk : L.sh[k]? = some L.sh[k] := List.getElem?_eq_getElem hkl
      have hll := shList_le (M.take k) 0 (fun m hm => HM.out m (List.mem_of_mem_take hm))
      rw [List.length_take] at hll
      have hsn := shList_snoc M[k] (M.take k) 0
      rw [List.take_append_getElem hlt, List.length_take, Nat.min_eq_left hk] at hsn
      generalize M[k] = m at *
      generalize L.sh[k] = l at *
      have PW := HP.out.grown hl.2.1
      obtain ⟨d0, d1, _, _, hinv, _, hsl⟩ := PW.sh hmk hlk
      obtain ⟨pf, cf, hfv, hfl, _⟩ := Sl.cells hsl
      rw [hfv] at d1
      have HSN := Lib.hid hsn
      have HL := Lib.hid hl
      have hfw := hinv.few
      have b2 : L.S < wo.heap.size := World.block_lt_of_cell? wo _ d0
      have HPW := Lib.hid PW
      have HMK := Lib.hid hmk
      have HLK := Lib.hid hlk
      unfold maxLen at hfl
      clear hsn hl hsl hfv PW hmk hlk
      generalize m.free.length = fl at *
      go_wp2_with fail
      go_loopw [3, 24] (fun v i wr => ∃ q : Nat, q ≤ m.all.length ∧ i = .int .i64 q ∧ ListAt w wr v (shList 0 (M.take k) ++ ixList k 0 (m.all.take q))) (fun _ i _ => m.all.length - (intOf i).toNat)
      case atStart => exact ⟨0, Nat.zero_le _, rfl, by simpa [ixList] using HL.out.later (by repeat' (first | (with_reducible exact Below.refl _ _) | (with_reducible assumption) | (with_reducible refine below_drewN ?_ _) | (with_reducible refine below_more _ _ _ ?_ ?_) | (with_reducible refine Below.alloc ?_ ?_ _) | (with_reducible refine Below.drew ?_) | (with_reducible refine Below.setCell ?_ ?_ _) | go_size))⟩
      case round =>
        obtain ⟨q, hq, rfl, hl⟩ := hrel
        obtain ⟨wi, rfl⟩ : ∃ wi : World, wi = wr := ⟨_, rfl⟩
        by_cases hqi : q < m.all.length
        · have hxq : m.all[q]? = some m.all[q] := List.getElem?_eq_getElem hqi
          have PI := HP.out.grown hl.2.1
          have hsn := ixList_snoc k m.all[q] (m.all.take q) 0
          rw [List.take_append_getElem hqi, List.length_take, Nat.min_eq_left hq] at hsn
          have hle := ixList_le k (m.all.take q) 0
          rw [List.length_take] at hle
          generalize m.all[q] = x at *
          obtain ⟨c0, c1, c2⟩ := PI.ix HMK.out HLK.out hxq
          have b1 : l.A < wi.heap.size := World.block_lt_of_cell? wi _ c0
          have HL2 := Lib.hid hl
          have HS2 := Lib.hid hsn
          have HXQ := Lib.hid hxq
          have hlen : (shList 0 (M.take k) ++ ixList k 0 (m.all.take q)).length ≤ 1000 := by rw [List.length_append]; omega
          generalize hll2 : shList 0 (M.take k) ++ ixList k 0 (m.all.take q) = ll at *
          have HLL := Lib.hid hll2
          clear hl hsn hxq PI hle hll hll2
          obtain ⟨gen, bound, alive⟩ := x
          simp only at c0 c1 c2
          cases alive with
          | false =>
            have e2 : shList 0 (M.take k) ++ ixList k 0 (m.all.take (q + 1)) = ll := by rw [HS2.out]; simpa using HLL.out
            have E2 := Lib.hid e2
            clear e2
            go_wp2_with fail
            go_roundw
            case rel => exact ⟨q + 1, by omega, by go_num, by rw [E2.out]; exact HL2.out.later (by repeat' (first | (with_reducible exact Below.refl _ _) | (with_reducible assumption) | (with_reducible refine below_drewN ?_ _) | (with_reducible refine below_more _ _ _ ?_ ?_) | (with_reducible refine Below.alloc ?_ ?_ _) | (with_reducible refine Below.drew ?_) | (with_reducible refine Below.setCell ?_ ?_ _) | go_size))⟩
            case measure => simp [intOf]; omega
          | true =>
            have e2 : shList 0 (M.take k) ++ ixList k 0 (m.all.take (q + 1)) = ll ++ [((k : Int), (q : Int), gen)] := by rw [HS2.out, ← List.append_assoc, HLL.out]; simp
            have E2 := Lib.hid e2
            clear e2
            go_wp2_with (at_builtin; refine wpList_append_sl _ (by rfl) _ _ 38 (by rfl) 33 i0 _ 3 24 Try.underlying38 hi0 hz0 hz1 hz2 rfl (by omega) u3 ll.length (idCells ll) (by rfl) (HL2.out.later (by repeat' (first | (with_reducible exact Below.refl _ _) | (with_reducible assumption) | (with_reducible refine below_drewN ?_ _) | (with_reducible refine below_more _ _ _ ?_ ?_) | (with_reducible refine Below.alloc ?_ ?_ _) | (with_reducible refine Below.drew ?_) | (with_reducible refine Below.setCell ?_ ?_ _) | go_size))).1 ⟨_, 0, none⟩ 1 1 [.int .i64 k, .int .i64 q, .int .i64 gen] (by rfl) (by rfl) (World.news_of_block (cs := #[.int .i64 k, .int .i64 q, .int .i64 gen]) (t := 33) (fr := (0, 0)) (by have h := heap_alloc_new (wi.alloc (.cells #[.int .i64 gen, .int .i64 bound, .bool true] 126)) (.cells #[.int .i64 k, .int .i64 q, .int .i64 gen] 33); rw [World.size_alloc] at h; exact h)) (by simp [Value.oneCell']) (by omega) (by unfold maxLen; omega) (by omega) ?_; intro v' w1 hs1 ht ho)
            go_roundw
            case rel => exact ⟨q + 1, by omega, by go_num, by rw [E2.out]; exact (HL2.out.later (by repeat' (first | (with_reducible exact Below.refl _ _) | (with_reducible assumption) | (with_reducible refine below_drewN ?_ _) | (with_reducible refine below_more _ _ _ ?_ ?_) | (with_reducible refine Below.alloc ?_ ?_ _) | (with_reducible refine Below.drew ?_) | (with_reducible refine Below.setCell ?_ ?_ _) | go_size))).snoc hs1 ht ho⟩
            case measure => simp [intOf]; omega
        · obtain rfl : q = m.all.length := by omega
          have e1 : shList 0 (M.take k) ++ ixList k 0 (m.all.take m.all.length) = shList 0 (M.take (k + 1)) := by rw [HSN.out, List.take_length]; simp
          rw [e1] at hl
          have HL2 := Lib.hid hl
          clear hl e1
          go_wp2_with fail
          go_roundw
          case rel => exact ⟨k + 1, by omega, by go_num, HL2.out⟩
          case measure => simp [intOf]; omega
    · obtain rfl : k = M.length := by omega
      rw [List.take_length] at hl
      have HL := Lib.hid hl
      clear hl
      go_wp2_with fail
      go_ret
      exact ⟨_, rfl, HL.out⟩
end Go.Proofs.Ytbghjklnlhoklaa
namespace Go.Proofs.Ytbghjklnlhoklaa
open Go.RowKit

theorem Chg.then_alloc {w w' : World} {F : Nat → Prop} (h : Chg w w' F) (o : Obj) : Chg w (w'.alloc o) F := h.then_below ((Below.refl _ _).alloc h.size o)
theorem Chg.then_drew {w w' : World} {F : Nat → Prop} (h : Chg w w' F) : Chg w w'.drew F := h.then_below (Below.refl _ _).drew
theorem Chg.then_more {w w' : World} {F : Nat → Prop} (h : Chg w w' F) (d : Nat) (os : Array Obj) : Chg w (more w' d os) F := h.then_below ((more_below _ _ _).mono h.size)

/-- Behind a step that was made from W on, some of the blocks between w and W turned. -/
theorem Stp.finish {w W w1 w2 : World} {L : Lay} {M M' : List Sh} (hp : PoolAt w L M) (hW : Below w.heap.size w W) (h : Stp W L w1 M') (hc : Chg w1 w2 (fun b => w.heap.size ≤ b ∧ b < W.heap.size)) : Stp w L w2 M' := by
  obtain ⟨L', hP, hp', hc', ho⟩ := h
  refine ⟨L', hP, hp'.chg hc fun b hb h => ?_, ((Chg.of_below hW).trans hc' fun _ _ h => h).trans hc fun b hb h => ?_, fun b hb => (ho b hb).imp_right fun h => Nat.le_trans hW.size h⟩
  · rcases ho b hb with h1 | h1
    · have := hp.lt h1; omega
    · omega
  · omega

/-- A step, and one more. -/
theorem Stp.step {w w' : World} {L : Lay} {M' : List Sh} (h : Stp w L w' M') : ∃ L', L'.P = L.P ∧ PoolAt w' L' M' ∧ ∀ w'' M'', Stp w' L' w'' M'' → Stp w L w'' M'' := by
  obtain ⟨L', hP, hp, hc, ho⟩ := h
  refine ⟨L', hP, hp, fun w'' M'' h2 => ?_⟩
  obtain ⟨L2, hP2, hp2, hc2, ho2⟩ := h2
  refine ⟨L2, hP2.trans hP, hp2, hc.trans hc2 fun b hb h1 => ?_, fun b hb => ?_⟩
  · rcases ho b h1 with h | h
    · exact h
    · omega
  · rcases ho2 b hb with h | h
    · exact ho b h
    · exact .inr (Nat.le_trans hc.size h)

/-- The caller's boxes, behind a step. -/
theorem Stp.boxes {w W w1 : World} {L : Lay} {M M' : List Sh} (hp : PoolAt w L M) (hW : Below w.heap.size w W) (h : Stp W L w1 M') : W.heap.size ≤ w1.heap.size ∧ ∀ b o, w.heap.size ≤ b → b < W.heap.size → w1.cell? ⟨b, o, none⟩ = W.cell? ⟨b, o, none⟩ ∧ w1.frozen? ⟨b, o, none⟩ = W.frozen? ⟨b, o, none⟩ := by
  obtain ⟨L', _, _, hc', _⟩ := h
  have hs := hW.size
  exact ⟨hc'.size, fun b o h1 h2 => ⟨hc'.cell (a := ⟨b, o, none⟩) h2 fun h => by have := hp.lt h; simp only at this; omega, hc'.frozen (a := ⟨b, o, none⟩) h2 fun h => by have := hp.lt h; simp only at this; omega⟩⟩

/-- A number from 0 on, below n. -/
def modF (k n : Int) : Int := k % n

def nextF (M : List Sh) (k : Int) : (Id3 × Int × Bool) × List Sh :=
  if (headF M k).2.2 ≠ 0 then (((0, 0, 0), -1, false), M) else
  if (headF M k).2.1 = true then (((issueF M k).1, -1, (issueF M k).2.1 == 0), (issueF M k).2.2) else
  if (reserveF M k (headF M k).1).1 ≠ 0 then (((0, 0, 0), -1, false), (reserveF M k (headF M k).1).2) else
  (((issueF (reserveF M k (headF M k).1).2 k).1, (headF M k).1, (issueF (reserveF M k (headF M k).1).2 k).2.1 == 0), (issueF (reserveF M k (headF M k).1).2 k).2.2)


end Go.Proofs.Ytbghjklnlhoklaa
namespace Go.Proofs.Ytbghjklnlhoklaa
open Go.RowKit
/-- A shard as it is in every pool. -/
structure Good (m : Sh) : Prop where
  inv : ShInv m
  le : ∀ (i : Nat) (x : Ix), m.all[i]? = some x → x.gen ≤ x.bound
  lv : ∀ (i : Nat) (x : Ix), m.all[i]? = some x → x.alive = true → x.gen < x.bound
  fg : ∀ f ∈ m.free, ∀ (x : Ix), m.all[f.toNat]? = some x → x.gen < 1048576

theorem fresh_good (ids : Nat) (h : ids ≤ 16) : Good (fresh ids ids) := by
  have hx0 : ∀ (i : Nat) (x : Ix), (fresh ids ids).all[i]? = some x → x = ⟨0, 0, false⟩ := by
    intro i x hx
    simp only [fresh, freshIx, List.getElem?_replicate] at hx
    split at hx
    · cases hx; rfl
    · cases hx
  refine ⟨fresh_inv ids ids h (Nat.le_refl _), fun i x hx => ?_, fun i x hx ha => ?_, fun f _ x hx => ?_⟩
  · rw [hx0 i x hx]; simp
  · rw [hx0 i x hx] at ha; cases ha
  · rw [hx0 _ x hx]; simp

def nxtIx (x : Ix) : Ix := ⟨x.gen, if x.gen < x.bound then x.bound else min (x.bound + 8) 1048576, true⟩
def nxtAt (x : Ix) (f : Int) : Int := if x.gen < x.bound then -1 else f

theorem set_good {m : Sh} (h : Good m) {i : Nat} (x' : Ix) (hi : ShInv { m with all := m.all.set i x' }) (h1 : x'.gen ≤ x'.bound) (h2 : x'.alive = true → x'.gen < x'.bound) (h3 : (i : Int) ∈ m.free → x'.gen < 1048576) : Good { m with all := m.all.set i x' } := by
  refine ⟨hi, fun j y hy => ?_, fun j y hy => ?_, fun f hf y hy => ?_⟩
  · simp only [List.getElem?_set] at hy
    split at hy
    · split at hy
      · cases hy; exact h1
      · cases hy
    · exact h.le j y hy
  · simp only [List.getElem?_set] at hy
    split at hy
    · split at hy
      · cases hy; exact h2
      · cases hy
    · exact h.lv j y hy
  · simp only [List.getElem?_set] at hy
    have h0 := (h.inv.fr f hf).1
    split at hy
    · rename_i he
      split at hy
      · cases hy; exact h3 (by rw [show (i : Int) = f by omega]; exact hf)
      · cases hy
    · exact h.fg f hf y hy

theorem free_drop_good {m : Sh} (h : Good m) (fr : List Int) (hi : ShInv { m with free := fr }) (hs : ∀ f ∈ fr, f ∈ m.free) : Good { m with free := fr } :=
  ⟨hi, h.le, h.lv, fun f hf => h.fg f (hs f hf)⟩

theorem nextF_nil {M : List Sh} {k : Nat} {m : Sh} (hm : M[k]? = some m) (hf : m.free = []) : nextF M k = (((0, 0, 0), -1, false), M) := by
  have h1 : headF M k = (0, false, 8) := by simp [headF, shOf, hm, hf]
  simp [nextF, h1]

theorem nextF_cons {M : List Sh} {k : Nat} {m : Sh} {f : Int} {fs : List Int} (hm : M[k]? = some m) (hf : m.free = f :: fs) (hg : Good m) :
    ∃ x, m.all[f.toNat]? = some x ∧ 0 ≤ f ∧ nextF M k = ((((k : Int), f, x.gen), nxtAt x f, true), M.set k ⟨m.all.set f.toNat (nxtIx x), fs⟩) ∧ Good ⟨m.all.set f.toNat (nxtIx x), fs⟩ := by
  have hfr := hg.inv.fr f (by rw [hf]; simp)
  obtain ⟨i, rfl⟩ := Int.eq_ofNat_of_zero_le hfr.1
  have hil : i < m.all.length := by omega
  have hx : m.all[i]? = some m.all[i] := List.getElem?_eq_getElem hil
  generalize m.all[i] = x at hx
  have hkl : k < M.length := (List.getElem?_eq_some_iff.1 hm).1
  have hle := hg.le i x hx
  have hgm := hg.fg i (by rw [hf]; simp) x (by simpa using hx)
  have hrr := hg.inv.rng i x hx
  have hnd := hg.inv.nd
  rw [hf] at hnd
  have hni := (List.nodup_cons.1 hnd).1
  have hhead : headF M k = ((i : Int), decide (x.gen < x.bound), 0) := by simp [headF, shOf, hm, hf, hx]
  refine ⟨x, by simpa using hx, hfr.1, ?_, ?_⟩
  · rw [Int.toNat_natCast]
    by_cases hlt : x.gen < x.bound
    · have hi : issueF M k = (((k : Int), (i : Int), x.gen), 0, M.set k ⟨m.all.set i ⟨x.gen, x.bound, true⟩, fs⟩) := by
        simp only [issueF, shOf, if_pos (Int.natCast_nonneg k), Int.toNat_natCast, hm, hf, hx, if_pos hlt]
        rw [setIx_nat _ hm, setFr_nat (m := { m with all := m.all.set i ⟨x.gen, x.bound, true⟩ }) _ (List.getElem?_set_self hkl), List.set_set]
      simp [nextF, hhead, hlt, hi, nxtIx, nxtAt]
    · have hb : ¬ x.bound = 1048576 := by omega
      have hr : reserveF M k i = (0, M.set k ⟨m.all.set i ⟨x.gen, min (x.bound + 8) 1048576, x.alive⟩, i :: fs⟩) := by
        simp only [reserveF, ixOf, shOf, if_pos (Int.natCast_nonneg k), if_pos (Int.natCast_nonneg i), Int.toNat_natCast, hm, Option.bind_some, hx, if_neg hb]
        rw [setIx_nat _ hm, hf]
      have hm1 : (M.set k ⟨m.all.set i ⟨x.gen, min (x.bound + 8) 1048576, x.alive⟩, i :: fs⟩)[k]? = some ⟨m.all.set i ⟨x.gen, min (x.bound + 8) 1048576, x.alive⟩, i :: fs⟩ := List.getElem?_set_self hkl
      have hi : issueF (M.set k ⟨m.all.set i ⟨x.gen, min (x.bound + 8) 1048576, x.alive⟩, i :: fs⟩) k = (((k : Int), (i : Int), x.gen), 0, M.set k ⟨m.all.set i ⟨x.gen, min (x.bound + 8) 1048576, true⟩, fs⟩) := by
        simp only [issueF, shOf, if_pos (Int.natCast_nonneg k), Int.toNat_natCast, hm1, List.getElem?_set_self hil, if_pos (show x.gen < min (x.bound + 8) 1048576 by omega)]
        rw [setIx_nat _ hm1, List.set_set]
        rw [setFr_nat (m := ⟨(m.all.set i ⟨x.gen, min (x.bound + 8) 1048576, x.alive⟩).set i ⟨x.gen, min (x.bound + 8) 1048576, true⟩, i :: fs⟩) _ (List.getElem?_set_self hkl), List.set_set, List.set_set]
      simp [nextF, hhead, hlt, hr, hi, nxtIx, nxtAt]
  · rw [Int.toNat_natCast]
    have h1 := free_drop_good hg fs (hg.inv.tail hf) (fun a ha => by rw [hf]; exact List.mem_cons_of_mem _ ha)
    refine set_good h1 (nxtIx x) (h1.inv.set_ix i _ ⟨hrr.1, hrr.2.1, ?_, ?_, fun _ => hgm⟩ (fun hm => absurd hm hni)) ?_ (fun _ => ?_) (fun hm => absurd hm hni)
    all_goals simp only [nxtIx]
    all_goals split <;> omega

def freedSh (m : Sh) (i : Nat) (x : Ix) : Sh := if x.gen + 1 < 1048576 then ⟨m.all.set i ⟨x.gen + 1, x.bound, false⟩, m.free ++ [(i : Int)]⟩ else ⟨m.all.set i ⟨x.gen + 1, x.bound, false⟩, m.free⟩

theorem freeF_alive {M : List Sh} {k i : Nat} {m : Sh} {x : Ix} (hm : M[k]? = some m) (hx : m.all[i]? = some x) (ha : x.alive = true) (hg : Good m) :
    freeF M k i x.gen = (0, M.set k (freedSh m i x)) ∧ Good (freedSh m i x) := by
  have hkl : k < M.length := (List.getElem?_eq_some_iff.1 hm).1
  have hil : i < m.all.length := (List.getElem?_eq_some_iff.1 hx).1
  have hrr := hg.inv.rng i x hx
  have hlv := hg.lv i x hx ha
  have hni : (i : Int) ∉ m.free := fun hf => by have := hg.inv.dead i hf x (by simpa using hx); rw [ha] at this; cases this
  have hix : ixOf M k i = some x := by simp [ixOf, shOf, hm, hx]
  have hr' : 0 ≤ x.gen + 1 ∧ x.gen + 1 ≤ 1048576 ∧ 0 ≤ x.bound ∧ x.bound ≤ 1048576 ∧ (false = true → x.gen + 1 < 1048576) := ⟨by omega, by have := hrr.2.2.2.2 ha; omega, hrr.2.2.1, hrr.2.2.2.1, fun h => by cases h⟩
  have g1 : Good ⟨m.all.set i ⟨x.gen + 1, x.bound, false⟩, m.free⟩ := set_good hg ⟨x.gen + 1, x.bound, false⟩ (hg.inv.set_ix i _ hr' fun _ => rfl) (by simp only; omega) (fun h => by cases h) (fun h => absurd h hni)
  refine ⟨?_, ?_⟩
  · simp only [freeF, hix, if_neg (show ¬ x.gen < 0 by omega), ha, Bool.true_and, BEq.rfl, Bool.true_eq_false, if_false, freedSh]
    congr 1
    split
    · rw [setIx_nat _ hm, addFr]
      simp [shOf, List.getElem?_set_self hkl]
    · rw [setIx_nat _ hm]
  · unfold freedSh
    split
    · rename_i hlt
      refine ⟨hg.inv.add hx ha _ hr' rfl, g1.le, g1.lv, fun f hf y hy => ?_⟩
      rcases List.mem_append.1 hf with hf | hf
      · exact g1.fg f hf y hy
      · obtain rfl : f = i := by simpa using hf
        simp only [Int.toNat_natCast] at hy
        rw [List.getElem?_set_self hil] at hy
        cases hy
        exact hlt
    · exact g1

/-- Whatever is taken back of a shard: it is one as before. -/
theorem freeF_any {M : List Sh} {k : Nat} {m : Sh} (i g : Int) (hm : M[k]? = some m) (hg : Good m) : ∃ m', Good m' ∧ (freeF M k i g).2 = M.set k m' := by
  have hkl : k < M.length := (List.getElem?_eq_some_iff.1 hm).1
  have hself : M = M.set k m := by
    obtain ⟨_, e⟩ := List.getElem?_eq_some_iff.1 hm
    rw [← e]; simp
  cases hx : ixOf M k i with
  | none => exact ⟨m, hg, by simp only [freeF, hx]; exact hself⟩
  | some x =>
    by_cases h0 : g < 0
    · exact ⟨m, hg, by simp only [freeF, hx, if_pos h0]; exact hself⟩
    · cases ha : (x.alive && x.gen == g) with
      | false => exact ⟨m, hg, by simp only [freeF, hx, if_neg h0, ha, if_true]; exact hself⟩
      | true =>
        simp only [Bool.and_eq_true, beq_iff_eq] at ha
        obtain ⟨ha, rfl⟩ := ha
        simp only [ixOf, shOf, if_pos (Int.natCast_nonneg k), Int.toNat_natCast, hm, Option.bind_some] at hx
        split at hx
        · rename_i hi
          obtain ⟨j, rfl⟩ := Int.eq_ofNat_of_zero_le hi
          obtain ⟨e1, e2⟩ := freeF_alive hm (by simpa using hx) ha hg
          exact ⟨_, e2, by rw [e1]⟩
        · cases hx
end Go.Proofs.Ytbghjklnlhoklaa
namespace Go.Proofs.Ytbghjklnlhoklaa
open Go.RowKit
def lapIx (x : Ix) : Ix := if x.gen < x.bound then ⟨x.bound, x.bound, x.alive⟩ else x
def lapAll (all : List Ix) (fr : List Int) : List Ix := fr.foldl (fun a f => match a[f.toNat]? with | none => a | some x => a.set f.toNat (lapIx x)) all
def lapses (all : List Ix) (f : Int) : Bool := match all[f.toNat]? with | none => false | some x => decide (x.gen < x.bound)
def lapCnt (all : List Ix) (fr : List Int) : Nat := (fr.filter (lapses all)).length
def genAt (all : List Ix) (f : Int) : Int := match all[f.toNat]? with | none => 0 | some x => x.gen
def lapSh (m : Sh) : Sh := ⟨lapAll m.all m.free, m.free.filter fun f => !(genAt (lapAll m.all m.free) f == 1048576)⟩
def lapN (m : Sh) : Nat := lapCnt m.all m.free
def lapseF (M : List Sh) : Int × List Sh := (((M.map lapN).sum : Nat), M.map lapSh)

theorem lapAll_snoc (all : List Ix) (l : List Int) (f : Int) : lapAll all (l ++ [f]) = match (lapAll all l)[f.toNat]? with | none => lapAll all l | some x => (lapAll all l).set f.toNat (lapIx x) := by
  simp [lapAll, List.foldl_append]
theorem lapAll_len : ∀ (l : List Int) (all : List Ix), (lapAll all l).length = all.length
  | [], _ => rfl
  | f :: l, all => by
    simp only [lapAll, List.foldl_cons]
    have := lapAll_len l (match all[f.toNat]? with | none => all | some x => all.set f.toNat (lapIx x))
    simp only [lapAll] at this
    rw [this]
    split <;> simp
theorem lapAll_ne : ∀ (l : List Int) (all : List Ix) (i : Nat), (∀ f ∈ l, 0 ≤ f) → (i : Int) ∉ l → (lapAll all l)[i]? = all[i]?
  | [], _, _, _, _ => rfl
  | f :: l, all, i, h0, hi => by
    simp only [lapAll, List.foldl_cons]
    have := lapAll_ne l (match all[f.toNat]? with | none => all | some x => all.set f.toNat (lapIx x)) i (fun g hg => h0 g (List.mem_cons_of_mem _ hg)) fun h => hi (List.mem_cons_of_mem _ h)
    simp only [lapAll] at this
    rw [this]
    split
    · rfl
    · have hf := h0 f (by simp)
      rw [List.getElem?_set_ne]
      intro e
      exact hi (by rw [show (i : Int) = f by omega]; simp)
theorem lapAll_mem : ∀ (l : List Int) (all : List Ix) (i : Nat), (∀ f ∈ l, 0 ≤ f) → l.Nodup → (i : Int) ∈ l → (lapAll all l)[i]? = (all[i]?).map lapIx
  | f :: l, all, i, h0, hn, hi => by
    have hf := h0 f (by simp)
    simp only [lapAll, List.foldl_cons]
    have hl0 : ∀ g ∈ l, 0 ≤ g := fun g hg => h0 g (List.mem_cons_of_mem _ hg)
    rcases List.mem_cons.1 hi with e | hi'
    · subst e
      have := lapAll_ne l (match all[(i : Int).toNat]? with | none => all | some x => all.set (i : Int).toNat (lapIx x)) i hl0 (List.nodup_cons.1 hn).1
      simp only [lapAll] at this
      rw [this, Int.toNat_natCast]
      cases hx : all[i]? with
      | none => simp [hx]
      | some x => simp [List.getElem?_set_self (List.getElem?_eq_some_iff.1 hx).1]
    · have hne : f.toNat ≠ i := fun e => (List.nodup_cons.1 hn).1 (by rw [show f = (i : Int) by omega]; exact hi')
      have := lapAll_mem l (match all[f.toNat]? with | none => all | some x => all.set f.toNat (lapIx x)) i hl0 (List.nodup_cons.1 hn).2 hi'
      simp only [lapAll] at this
      rw [this]
      split
      · rfl
      · rw [List.getElem?_set_ne hne]
theorem lapCnt_snoc (all : List Ix) (l : List Int) (f : Int) : lapCnt all (l ++ [f]) = lapCnt all l + if lapses all f then 1 else 0 := by
  simp only [lapCnt, List.filter_append, List.length_append]
  cases h : lapses all f <;> simp [h]
theorem lapCnt_le (all : List Ix) (l : List Int) : lapCnt all l ≤ l.length := List.length_filter_le _ _
theorem lapIx_range {x : Ix} (h : 0 ≤ x.gen ∧ x.gen ≤ 1048576 ∧ 0 ≤ x.bound ∧ x.bound ≤ 1048576 ∧ (x.alive = true → x.gen < 1048576)) (ha : x.alive = false) :
    0 ≤ (lapIx x).gen ∧ (lapIx x).gen ≤ 1048576 ∧ 0 ≤ (lapIx x).bound ∧ (lapIx x).bound ≤ 1048576 ∧ ((lapIx x).alive = true → (lapIx x).gen < 1048576) := by
  unfold lapIx
  split
  · exact ⟨h.2.2.1, h.2.2.2.1, h.2.2.1, h.2.2.2.1, fun e => by rw [ha] at e; cases e⟩
  · exact h
theorem lapIx_alive (x : Ix) : (lapIx x).alive = x.alive := by unfold lapIx; split <;> rfl

theorem lap_take {m : Sh} (h : ShInv m) : ∀ q, q ≤ m.free.length → ShInv ⟨lapAll m.all (m.free.take q), m.free⟩
  | 0, _ => by simpa [lapAll] using h
  | q + 1, hq => by
    have ih := lap_take h q (by omega)
    have hlt : q < m.free.length := hq
    rw [show m.free.take (q + 1) = m.free.take q ++ [m.free[q]] by rw [List.take_succ_eq_append_getElem hlt], lapAll_snoc]
    split
    · exact ih
    · rename_i x hx
      have hfr := h.fr m.free[q] (List.getElem_mem hlt)
      have hmem : m.free[q] ∈ m.free := List.getElem_mem hlt
      generalize m.free[q] = f at *
      have hd := ih.dead f hmem x hx
      have := ih.set_ix f.toNat (lapIx x) (lapIx_range (ih.rng _ x hx) hd) fun _ => by rw [lapIx_alive]; exact hd
      exact this
theorem lap_inv {m : Sh} (h : ShInv m) : ShInv (lapSh m) := by
  have h1 := lap_take h m.free.length (Nat.le_refl _)
  rw [List.take_length] at h1
  exact ⟨h1.few, h1.rng, fun f hf => h1.fr f (List.mem_filter.1 hf).1, h1.nd.filter _, fun f hf => h1.dead f (List.mem_filter.1 hf).1⟩
/-- The element that comes up is as it was at the start. -/
theorem lap_at {m : Sh} (h : ShInv m) {q : Nat} {f : Int} (hf : m.free[q]? = some f) : 0 ≤ f ∧ ∃ x, m.all[f.toNat]? = some x ∧ (lapAll m.all (m.free.take q))[f.toNat]? = some x ∧ x.alive = false := by
  have hmem := List.mem_of_getElem? hf
  obtain ⟨h0, h1⟩ := h.fr f hmem
  have hil : f.toNat < m.all.length := by omega
  refine ⟨h0, _, List.getElem?_eq_getElem hil, ?_, h.dead f hmem _ (List.getElem?_eq_getElem hil)⟩
  rw [lapAll_ne _ _ _ (fun g hg => (h.fr g (List.mem_of_mem_take hg)).1)]
  · exact List.getElem?_eq_getElem hil
  · intro hin
    rw [Int.toNat_of_nonneg h0] at hin
    obtain ⟨j, hj, e⟩ := List.getElem_of_mem hin
    rw [List.getElem_take] at e
    rw [List.length_take] at hj
    have hq : q < m.free.length := (List.getElem?_eq_some_iff.1 hf).1
    have e2 := (List.getElem?_eq_some_iff.1 hf).2
    exact (List.pairwise_iff_getElem.1 h.nd) j q (by omega) hq (by omega) (e.trans e2.symm)
end Go.Proofs.Ytbghjklnlhoklaa
namespace Go.Proofs.Ytbghjklnlhoklaa
open Go.RowKit
structure Slot where
  (k i gen bound row : Int) (alive : Bool)
def Slot.cells (s : Slot) : List Value := [.int .i64 s.k, .int .i64 s.i, .int .i64 s.gen, .int .i64 s.bound, .int .i64 s.row, .bool s.alive]
/-- Where the pool lies, and its slots. -/
structure RLay where
  (p b off cap : Nat)
def RLay.own (R : RLay) (x : Nat) : Prop := x = R.p ∨ x = R.b

structure RefAt (w : World) (R : RLay) (l : List Slot) (put : Int) : Prop where
  top : w.heap[R.p]? = some (.cells #[.slice (some ⟨R.b, R.off, none⟩) l.length R.cap, .int .i64 put] 98 (0, 0))
  rows : ∃ cur : Array Value, w.heap[R.b]? = some (.cells cur 95 (0, 0)) ∧ l.length ≤ R.cap ∧ R.cap ≤ maxLen ∧ R.off + R.cap * 6 ≤ cur.size ∧ ∀ (n j : Nat) (s : Slot), l[n]? = some s → j < 6 → cur[R.off + n * 6 + j]? = s.cells[j]?
  ne : R.p ≠ R.b

variable {w w' : World} {R : RLay} {l : List Slot} {put : Int}
theorem RefAt.lt (h : RefAt w R l put) {x : Nat} (hx : R.own x) : x < w.heap.size := by
  rcases hx with rfl | rfl
  · exact lt_of_heap h.top
  · obtain ⟨cur, hc, _⟩ := h.rows; exact lt_of_heap hc
theorem RefAt.keep (h : RefAt w R l put) (hk : ∀ b, R.own b → w'.heap[b]? = w.heap[b]?) : RefAt w' R l put := by
  obtain ⟨cur, hc, r⟩ := h.rows
  exact ⟨by rw [hk _ (.inl rfl)]; exact h.top, ⟨cur, by rw [hk _ (.inr rfl)]; exact hc, r⟩, h.ne⟩
theorem RefAt.grown (h : RefAt w R l put) (hb : Below w.heap.size w w') : RefAt w' R l put := h.keep fun b ho => hb.block b (h.lt ho)
theorem RefAt.chg (h : RefAt w R l put) {F : Nat → Prop} (hc : Chg w w' F) (hF : ∀ b, R.own b → ¬ F b) : RefAt w' R l put := h.keep fun b ho => hc.block b (h.lt ho) (hF b ho)

/-- What the walk reads. -/
theorem RefAt.tops (h : RefAt w R l put) : w.cell? ⟨R.p, 0, none⟩ = some (.slice (some ⟨R.b, R.off, none⟩) l.length R.cap) ∧ w.cell? ⟨R.p, 1, none⟩ = some (.int .i64 put) ∧ (∀ o, w.frozen? ⟨R.p, o, none⟩ = false) ∧ (∀ o, w.frozen? ⟨R.b, o, none⟩ = false) ∧ R.p < w.heap.size ∧ R.b < w.heap.size := by
  obtain ⟨cur, hc, r⟩ := h.rows
  exact ⟨by simp [World.cell?, h.top], by simp [World.cell?, h.top], fun o => by simp [World.frozen?, h.top], fun o => by simp [World.frozen?, hc], lt_of_heap h.top, lt_of_heap hc⟩
theorem RefAt.bnd (h : RefAt w R l put) : l.length ≤ R.cap ∧ R.cap ≤ maxLen := by obtain ⟨cur, hc, h1, h2, _⟩ := h.rows; exact ⟨h1, h2⟩
theorem RefAt.slot (h : RefAt w R l put) {n : Nat} {s : Slot} (hs : l[n]? = some s) :
    w.cell? ⟨R.b, R.off + n * 6, none⟩ = some (.int .i64 s.k) ∧ w.cell? ⟨R.b, R.off + n * 6 + 1, none⟩ = some (.int .i64 s.i) ∧ w.cell? ⟨R.b, R.off + n * 6 + 2, none⟩ = some (.int .i64 s.gen) ∧ w.cell? ⟨R.b, R.off + n * 6 + 3, none⟩ = some (.int .i64 s.bound) ∧ w.cell? ⟨R.b, R.off + n * 6 + 4, none⟩ = some (.int .i64 s.row) ∧ w.cell? ⟨R.b, R.off + n * 6 + 5, none⟩ = some (.bool s.alive) := by
  obtain ⟨cur, hc, _, _, _, hr⟩ := h.rows
  have r0 := hr n 0 s hs (by omega)
  have r1 := hr n 1 s hs (by omega)
  have r2 := hr n 2 s hs (by omega)
  have r3 := hr n 3 s hs (by omega)
  have r4 := hr n 4 s hs (by omega)
  have r5 := hr n 5 s hs (by omega)
  rw [Nat.add_zero] at r0
  simp [Slot.cells] at r0 r1 r2 r3 r4 r5
  exact ⟨by simp [World.cell?, hc, r0], by simp [World.cell?, hc, r1], by simp [World.cell?, hc, r2], by simp [World.cell?, hc, r3], by simp [World.cell?, hc, r4], by simp [World.cell?, hc, r5]⟩

/-- A cell of a slot is stored into. -/
theorem RefAt.set (h : RefAt w R l put) {n : Nat} {s s' : Slot} (hs : l[n]? = some s) (q : Nat) (v : Value) (hq : q < 6) (hv : s'.cells[q]? = some v) (ho : ∀ j, j ≠ q → s'.cells[j]? = s.cells[j]?) :
    RefAt (w.setCell ⟨R.b, R.off + n * 6 + q, none⟩ v) R (l.set n s') put := by
  obtain ⟨cur, hc, h1, h2, h3, hr⟩ := h.rows
  have hn : n < l.length := (List.getElem?_eq_some_iff.1 hs).1
  refine ⟨?_, ⟨cur.setIfInBounds (R.off + n * 6 + q) v, heap_setCell_same _ _ _ _ _ _ _ hc, by simpa using h1, h2, by simpa using h3, fun m j t ht hj => ?_⟩, h.ne⟩
  · rw [Below.heap_setCell _ _ _ _ h.ne, List.length_set]; exact h.top
  · rw [List.getElem?_set] at ht
    by_cases hm : n = m
    · subst hm
      rw [if_pos rfl, if_pos hn] at ht
      obtain rfl : s' = t := by simpa using ht
      by_cases hjq : j = q
      · subst hjq
        rw [set_self _ _ _ (by omega), hv]
      · rw [Array.getElem?_setIfInBounds_ne (by omega), hr n j s hs hj, ho j hjq]
    · rw [if_neg hm] at ht
      rw [Array.getElem?_setIfInBounds_ne (by omega)]
      exact hr m j t ht hj
/-- The count is stored into. -/
theorem RefAt.setPut (h : RefAt w R l put) (p' : Int) : RefAt (w.setCell ⟨R.p, 1, none⟩ (.int .i64 p')) R l p' := by
  obtain ⟨cur, hc, r⟩ := h.rows
  refine ⟨?_, ⟨cur, ?_, r⟩, h.ne⟩
  · rw [heap_setCell_same _ _ _ _ _ _ _ h.top]; simp
  · rw [Below.heap_setCell _ _ _ _ h.ne.symm]; exact hc

/-! The program's shards, as slots. -/
def ixSlots (rw : Int → Int → Int) (k : Int) : Int → List Ix → List Slot
  | _, [] => []
  | i, x :: xs => ⟨k, i, x.gen, x.bound, rw k i, x.alive⟩ :: ixSlots rw k (i + 1) xs
def mSlots (rw : Int → Int → Int) : Int → List Sh → List Slot
  | _, [] => []
  | k, m :: ms => ixSlots rw k 0 m.all ++ mSlots rw (k + 1) ms
variable {rw : Int → Int → Int}
theorem ixSlots_len : ∀ (l : List Ix) (k i : Int), (ixSlots rw k i l).length = l.length
  | [], _, _ => rfl
  | x :: l, k, i => by simp [ixSlots, ixSlots_len l k (i + 1)]
theorem ixSlots_get : ∀ (l : List Ix) (k i : Int) (j : Nat), (ixSlots rw k i l)[j]? = (l[j]?).map fun x => ⟨k, i + j, x.gen, x.bound, rw k (i + j), x.alive⟩
  | [], _, _, _ => by simp [ixSlots]
  | x :: l, k, i, 0 => by simp [ixSlots]
  | x :: l, k, i, j + 1 => by
    simp only [ixSlots, List.getElem?_cons_succ, ixSlots_get l k (i + 1) j]
    rw [show i + 1 + (j : Int) = i + ((j + 1 : Nat) : Int) by omega]
theorem mSlots_len {ids : Nat} : ∀ (M : List Sh) (k : Int), (∀ m ∈ M, m.all.length = ids) → (mSlots rw k M).length = M.length * ids
  | [], _, _ => by simp [mSlots]
  | m :: M, k, h => by
    rw [mSlots, List.length_append, ixSlots_len, h m (by simp), mSlots_len M (k + 1) fun m hm => h m (List.mem_cons_of_mem _ hm), List.length_cons, Nat.add_mul, Nat.one_mul, Nat.add_comm]
theorem mSlots_get {ids : Nat} : ∀ (M : List Sh) (k0 : Int) (k i : Nat) (m : Sh) (x : Ix), (∀ m ∈ M, m.all.length = ids) → M[k]? = some m → m.all[i]? = some x → (mSlots rw k0 M)[k * ids + i]? = some ⟨k0 + k, i, x.gen, x.bound, rw (k0 + k) i, x.alive⟩
  | [], _, _, _, _, _, _, h, _ => by simp at h
  | a :: M, k0, 0, i, m, x, hl, hm, hx => by
    obtain rfl : a = m := by simpa using hm
    have hil := (List.getElem?_eq_some_iff.1 hx).1
    rw [mSlots, Nat.zero_mul, Nat.zero_add, List.getElem?_append_left (by rw [ixSlots_len]; exact hil), ixSlots_get, hx]
    simp
  | a :: M, k0, k + 1, i, m, x, hl, hm, hx => by
    have h1 := mSlots_get (ids := ids) M (k0 + 1) k i m x (fun m hm => hl m (List.mem_cons_of_mem _ hm)) (by simpa using hm) hx
    have ha := hl a (by simp)
    have e : (k + 1) * ids + i = ids + (k * ids + i) := by rw [Nat.add_mul, Nat.one_mul]; omega
    rw [mSlots, e, List.getElem?_append_right (by rw [ixSlots_len, ha]; omega), ixSlots_len, ha, Nat.add_sub_cancel_left, h1]
    rw [show k0 + 1 + (k : Int) = k0 + ((k + 1 : Nat) : Int) by omega]

/-- Every slot is one of a shard's indices. -/
theorem mSlots_split {ids : Nat} {M : List Sh} (hl : ∀ m ∈ M, m.all.length = ids) {n : Nat} {s : Slot} (hs : (mSlots rw 0 M)[n]? = some s) : ∃ (k i : Nat) (m : Sh) (x : Ix), n = k * ids + i ∧ i < ids ∧ M[k]? = some m ∧ m.all[i]? = some x ∧ s = ⟨k, i, x.gen, x.bound, rw k i, x.alive⟩ := by
  have hn : n < M.length * ids := by rw [← mSlots_len M 0 hl]; exact (List.getElem?_eq_some_iff.1 hs).1
  have h0 : 0 < ids := by
    rcases Nat.eq_zero_or_pos ids with h | h
    · rw [h] at hn; omega
    · exact h
  have hk : n / ids < M.length := by rw [Nat.div_lt_iff_lt_mul h0]; exact hn
  have hi := Nat.mod_lt n h0
  have hm := List.getElem?_eq_getElem hk
  have hal := hl _ (List.getElem_mem hk)
  have hx : M[n / ids].all[n % ids]? = some (M[n / ids].all[n % ids]'(by omega)) := List.getElem?_eq_getElem (by omega)
  have hd : n = n / ids * ids + n % ids := by have := Nat.div_add_mod n ids; rw [Nat.mul_comm] at this; omega
  have hg := mSlots_get (rw := rw) M 0 (n / ids) (n % ids) _ _ hl hm hx
  rw [← hd, hs] at hg
  refine ⟨n / ids, n % ids, _, _, hd, hi, hm, hx, ?_⟩
  have := Option.some.inj hg
  rw [this]
  simp

/-- How the reference stands to the shards. -/
structure Sim (ids : Nat) (M : List Sh) (rw : Int → Int → Int) (put : Int) : Prop where
  pos : 1 ≤ ids ∧ ids ≤ 16 ∧ M.length ≤ 16
  len : ∀ m ∈ M, m.all.length = ids
  good : ∀ m ∈ M, Good m
  row : ∀ (k : Nat) (m : Sh), M[k]? = some m → ∀ i : Nat, i < ids → (0 ≤ rw k i ↔ (i : Int) ∈ m.free) ∧ rw k i < put
  ord : ∀ (k : Nat) (m : Sh), M[k]? = some m → (m.free.map (rw k)).Pairwise (· < ·)
  put : 0 ≤ put

/-- One index, and its row, have turned. -/
theorem mSlots_set {ids : Nat} {M : List Sh} {rw' : Int → Int → Int} {k i : Nat} {m m' : Sh} {x x' : Ix} (hl : ∀ m ∈ M, m.all.length = ids) (hm : M[k]? = some m) (hx : m.all[i]? = some x) (ha : m'.all = m.all.set i x')
    (hrw : ∀ (a b : Nat), ¬ (a = k ∧ b = i) → rw' a b = rw a b) : mSlots rw' 0 (M.set k m') = (mSlots rw 0 M).set (k * ids + i) ⟨k, i, x'.gen, x'.bound, rw' k i, x'.alive⟩ := by
  have hkl : k < M.length := (List.getElem?_eq_some_iff.1 hm).1
  have hil : i < m.all.length := (List.getElem?_eq_some_iff.1 hx).1
  have him : i < ids := by rw [← hl m (List.mem_of_getElem? hm)]; exact hil
  have hl' : ∀ a ∈ M.set k m', a.all.length = ids := by
    intro a h
    rcases List.mem_or_eq_of_mem_set h with h | rfl
    · exact hl a h
    · rw [ha, List.length_set]; exact hl m (List.mem_of_getElem? hm)
  apply List.ext_getElem?
  intro n
  by_cases hn : n < M.length * ids
  · obtain ⟨s, hs⟩ : ∃ s, (mSlots rw 0 M)[n]? = some s := ⟨_, List.getElem?_eq_getElem (by rw [mSlots_len M 0 hl]; exact hn)⟩
    obtain ⟨a, b, ma, y, rfl, hb, hma, hy, rfl⟩ := mSlots_split hl hs
    by_cases hab : a = k ∧ b = i
    · obtain ⟨rfl, rfl⟩ := hab
      rw [hm] at hma
      obtain rfl := Option.some.inj hma
      rw [List.getElem?_set_self (by rw [mSlots_len M 0 hl]; exact hn)]
      have := mSlots_get (rw := rw') (M.set a m') 0 a b m' x' hl' (List.getElem?_set_self hkl) (by rw [ha]; exact List.getElem?_set_self hil)
      rw [this]
      simp
    · have hne : k * ids + i ≠ a * ids + b := by
        intro e
        apply hab
        have h1 : (a * ids + b) % ids = b := by rw [Nat.mul_comm, Nat.mul_add_mod]; exact Nat.mod_eq_of_lt hb
        have h2 : (k * ids + i) % ids = i := by rw [Nat.mul_comm, Nat.mul_add_mod]; exact Nat.mod_eq_of_lt him
        have h3 : b = i := by rw [← h1, ← h2, e]
        subst h3
        have h4 : a * ids = k * ids := by omega
        exact ⟨Nat.eq_of_mul_eq_mul_right (by omega) h4, rfl⟩
      rw [List.getElem?_set_ne hne, hs]
      by_cases hk : a = k
      · subst hk
        rw [hm] at hma
        obtain rfl := Option.some.inj hma
        have hbi : b ≠ i := fun e => hab ⟨rfl, e⟩
        have := mSlots_get (rw := rw') (M.set a m') 0 a b m' y hl' (List.getElem?_set_self hkl) (by rw [ha, List.getElem?_set_ne (fun e => hbi e.symm)]; exact hy)
        rw [this]
        simp [hrw a b hab]
      · have := mSlots_get (rw := rw') (M.set k m') 0 a b ma y hl' (by rw [List.getElem?_set_ne (fun e => hk e.symm)]; exact hma) hy
        rw [this]
        simp [hrw a b hab]
  · rw [List.getElem?_eq_none (by rw [mSlots_len _ 0 hl', List.length_set]; omega), List.getElem?_eq_none (by rw [List.length_set, mSlots_len M 0 hl]; omega)]
end Go.Proofs.Ytbghjklnlhoklaa
