/-
  Chapter texts PoolG PoolH PoolI PoolK: what the claim reaches of them. Conditions stand at each theorem.
-/
import Derived.Laws.MakeOwn
import Derived.Test.YtoimjjhopljdmaaGreatY26
namespace Go.Proofs.YtoimjjhopljdmaaGreat
open Go.RowKit

theorem take1_any (b : Nat) (x i : Int) (W : World) (hc : W.cell? ⟨b, 1, none⟩ = some (.int .i64 i)) :
    Calls Tryz.prog 131 (#[.int .i64 x] ++ #[.pointer (some ⟨b, 0, none⟩)]) W fun e w' => e = .returned (.bool (x == i)) ∧ ∃ q, w' = W.drewN q := by
  show Calls Tryz.prog 131 #[.int .i64 x, .pointer (some ⟨b, 0, none⟩)] W _
  go_enter Tryz.func131, Tryz.ntmps131
  go_wp2
  go_ret
  exact ⟨rfl, 0, rfl⟩

theorem ShInv.drop {m : Sh} {i : Nat} (h : ShInv m) (x' : Ix) (hr : 0 ≤ x'.gen ∧ x'.gen ≤ 1048576 ∧ 0 ≤ x'.bound ∧ x'.bound ≤ 1048576 ∧ (x'.alive = true → x'.gen < 1048576)) :
    ShInv { m with free := m.free.filter fun j => !(j == (i : Int)) } ∧ ShInv { m with all := m.all.set i x', free := m.free.filter fun j => !(j == (i : Int)) } := by
  have h1 : ShInv { m with free := m.free.filter fun j => !(j == (i : Int)) } :=
    ⟨h.few, h.rng, fun f hf => h.fr f ((List.mem_filter.1 hf).1), h.nd.filter _, fun f hf => h.dead f ((List.mem_filter.1 hf).1)⟩
  exact ⟨h1, h1.set_ix i x' hr fun hf => by simp [List.mem_filter] at hf⟩

set_option maxRecDepth 100000 in
set_option maxHeartbeats 2000000 in
theorem take_in (w : World) (L : Lay) (M : List Sh) (s i g : Int) (x : Ix) (h : PoolAt w L M) (hx : ixOf M s i = some x) (hg : 0 ≤ g) (hn : i ∈ frOf M s) (h1 : x.gen ≤ g) (h2 : g < x.bound) :
    Calls Tryz.prog 89 #[.pointer (some ⟨L.P, 0, none⟩), .agg #[.int .i64 s, .int .i64 i, .int .i64 g]] w fun e w' => e = .returned (.int .i64 0) ∧ Stp w L w' (setFr (setIx M s i ⟨g, x.bound, true⟩) s ((frOf M s).filter fun j => !(j == i))) := by
  obtain ⟨s, i, m, l, rfl, rfl, hm, hl, hx'⟩ := ixOf_nat h hx
  have HAT := Lib.hid (at_in _ L M s i m l (h.grown ((Below.refl _ _).alloc (Nat.le_refl _) (.cells #[.int .i64 s, .int .i64 i, .int .i64 g] 30))) hm hl (List.getElem?_eq_some_iff.1 hx').1)
  rw [frOf_nat hm] at hn ⊢
  obtain ⟨hcA, hcF, fS, hfr, hinv, hk, hsl⟩ := h.sh hm hl
  obtain ⟨c0, c1, c2⟩ := h.ix hm hl hx'
  have f0 := hfr (i * 3)
  have f2 := hfr (i * 3 + 2)
  have f3 := fS (s * 2 + 1)
  have b1 : l.A < w.heap.size := World.block_lt_of_cell? w _ c1
  obtain ⟨b10, b11, b12, b13⟩ := lts b1
  have b2 : L.S < w.heap.size := World.block_lt_of_cell? w _ hcA
  obtain ⟨b20, b21, b22, b23⟩ := lts b2
  have b3 := h.S_ne_A hl
  have hr := hinv.rng i x hx'
  have HCT := fun w' (hb : Below w.heap.size w w') => contains_any l.fv m.free i w' ((h.grown hb).sh hm hl).2.2.2.2.2.2
  rw [decide_eq_true hn] at HCT
  have HCT := Lib.hid HCT
  obtain ⟨i1, i2⟩ := hinv.drop (i := i) ⟨g, x.bound, true⟩ ⟨hg, by simp only; omega, hr.2.2.1, hr.2.2.2.1, fun _ => by simp only; omega⟩
  have fin : ∀ (W : World), Below w.heap.size w W → Sl W 3 1 l.fv m.free.length (m.free.map (Value.int .i64)) ∧ ∀ (v' : Value) (w1 : World), Kept W w1 l.fv v' (m.free.filter fun j => !(j == (i : Int))) →
      Stp w L (((w1.setCell ⟨L.S, s * 2 + 1, none⟩ v').setCell ⟨l.A, i * 3, none⟩ (.int .i64 g)).setCell ⟨l.A, i * 3 + 2, none⟩ (.bool true)) (setFr (setIx M s i ⟨g, x.bound, true⟩) s (m.free.filter fun j => !(j == (i : Int)))) := by
    intro W hW
    have PW : PoolAt W L M := h.grown hW
    refine ⟨(PW.sh hm hl).2.2.2.2.2.2, fun v' w1 hk1 => ?_⟩
    obtain ⟨hs1, ht, ho, _⟩ := hk1
    obtain ⟨p2, o2⟩ := PW.set_free hm hl (w1 := w1) (Chg.of_turned ht fun k e _ => e) (v := v') (fr := m.free.filter fun j => !(j == (i : Int))) hs1 (fun g' hg' => .inl (by rw [← ho]; exact hg')) i1
    have hk2 : s < L.sh.length := (List.getElem?_eq_some_iff.1 hl).1
    have p3 := p2.set_ga (k := s) (i := i) (m := { m with free := m.free.filter fun j => !(j == (i : Int)) }) (l := { l with fv := v' }) (x := x) (x' := ⟨g, x.bound, true⟩) (List.getElem?_set_self hk) (List.getElem?_set_self hk2) hx' rfl i2
    refine ⟨L.put s { l with fv := v' }, rfl, ?_, ?_, fun b hb => (o2 b hb).imp_right fun h => Nat.le_trans hW.size h⟩
    · rw [setIx_nat _ hm, setFr_nat (m := { m with all := m.all.set i ⟨g, x.bound, true⟩ }) _ (List.getElem?_set_self hk)]
      rw [List.set_set] at p3 ⊢
      exact p3
    · exact ((((Chg.of_below hW (F := L.own)).trans (Chg.of_turned ht (F := L.own) fun k e _ => Lay.own_at hl (.inr (.inr e))) fun _ _ h => h).setCell ⟨L.S, s * 2 + 1, none⟩ _ (.inl ⟨1, rfl⟩)).setCell ⟨l.A, i * 3, none⟩ _ (.inl (Lay.own_at hl (.inr (.inl rfl))))).setCell ⟨l.A, i * 3 + 2, none⟩ _ (.inl (Lay.own_at hl (.inr (.inl rfl))))
  have FIN := Lib.hid fin
  have HN := Lib.hid (fun e => h.S_ne_F hl e rfl : l.fv.ownBlock ≠ some L.S)
  have HN2 := Lib.hid (fun e => by have := hsl.lt e; omega : l.fv.ownBlock ≠ some w.heap.size)
  have HN3 := Lib.hid (fun e => h.A_ne_F hl hl e rfl : l.fv.ownBlock ≠ some l.A)
  obtain ⟨gen, bound, alive⟩ := x
  simp only at h1 h2 c0 c1 c2
  have hd1 : decide (g < gen) = false := by simp; omega
  have hd2 : decide (bound ≤ g) = false := by simp; omega
  generalize l.fv = fv at *
  generalize l.A = A at *
  have HX := Lib.hid hx
  clear hx hx' hm hl hn hinv hfr fS hsl fin i1 i2 hr
  go_enter Tryz.func89, Tryz.ntmps89
  go_wp2_with (go_at_call 125; refine (HAT.out).mono ?_; rintro e w' ⟨rfl, hb⟩; obtain ⟨d, os, rfl⟩ := more_of hb; clear hb)
  refine wp_region_more (by kernel_rfl) (by kernel_rfl) ?_
  repeat (go_big_quiet_step ((first | (go_at_call 129; exact more_same (HCT.out _ bg)))))
  refine wpQuiet_nil ?_
  rintro _ ⟨pm, rfl⟩
  go_wp2_with fail
  refine wp_region_more (by kernel_rfl) (by kernel_rfl) ?_
  repeat (go_big_quiet_step (fail))
  refine wpQuiet_nil ?_
  rintro _ ⟨pn, rfl⟩
  go_wp2_with fail
  have eg : ∀ args w, (callFunc 131 args).run Tryz.prog w = .ok (.enter 131 args) w := enters_of Tryz.func131 (by kernel_rfl) rfl
  refine (del_sl 131 _ eg (fun j => j == (i : Int)) fv m.free _ (FIN.out _ bg).1 ?_).mono ?_
  · intro W' ht x _
    exact take1_any _ _ _ _ (by rw [ht.cell (by simp; omega) HN2.out]; simp [go_sem])
  rintro e w1 ⟨v', rfl, hs1, ht, ho, p, n, c, rfl⟩
  have k1 : w1.cell? ⟨L.S, s * 2 + 1, none⟩ = some fv := by rw [ht.cell (by simp; omega) HN.out]; simp [go_sem, hcF, b20, b21, b22, b2]
  have k2 : w1.frozen? ⟨L.S, s * 2 + 1, none⟩ = false := by rw [ht.frozen (by simp; omega) HN.out]; simp [go_sem, f3, b20, b21, b22, b2]
  have k3 : w1.cell? ⟨A, i * 3, none⟩ = some (.int .i64 gen) := by rw [ht.cell (by simp; omega) HN3.out]; simp [go_sem, c0, b10, b11, b12, b1]
  have k4 : w1.frozen? ⟨A, i * 3, none⟩ = false := by rw [ht.frozen (by simp; omega) HN3.out]; simp [go_sem, f0, b10, b11, b12, b1]
  have k5 : w1.cell? ⟨A, i * 3 + 2, none⟩ = some (.bool alive) := by rw [ht.cell (by simp; omega) HN3.out]; simp [go_sem, c2, b10, b11, b12, b1]
  have k6 : w1.frozen? ⟨A, i * 3 + 2, none⟩ = false := by rw [ht.frozen (by simp; omega) HN3.out]; simp [go_sem, f2, b10, b11, b12, b1]
  have k7 : w1.cell? ⟨w.heap.size, 2, none⟩ = some (.int .i64 g) := by rw [ht.cell (by simp; omega) HN2.out]; simp [go_sem]
  have k8 : w.heap.size ≠ L.S := by omega
  have HO := Lib.hid ho
  clear ho eg
  go_wp2
  go_ret
  exact ⟨rfl, (FIN.out _ bg).2 _ w1 ⟨hs1, ht, HO.out, _, _, _, rfl⟩⟩

theorem free_ix {w : World} {L : Lay} {M : List Sh} (h : PoolAt w L M) {k : Int} {m : Sh} {f : Int} {fs : List Int} (hm : shOf M k = some m) (hf : m.free = f :: fs) : ∃ x, m.all[f.toNat]? = some x := by
  obtain ⟨k, l, rfl, hm', hl⟩ := shOf_nat h hm
  have hi := (h.sh hm' hl).2.2.2.2.1.fr f (by rw [hf]; simp)
  exact ⟨m.all[f.toNat]'(by omega), List.getElem?_eq_getElem _⟩

def headF (M : List Sh) (k : Int) : Int × Bool × Int := match shOf M k with
  | none => (0, false, 1)
  | some m => match m.free with
    | [] => (0, false, 8)
    | f :: _ => match m.all[f.toNat]? with
      | none => (0, false, 8)
      | some x => (f, decide (x.gen < x.bound), 0)

theorem head_any (w : World) (L : Lay) (M : List Sh) (k : Int) (h : PoolAt w L M) :
    Calls Tryz.prog 86 #[.pointer (some ⟨L.P, 0, none⟩), .int .i64 k] w fun e w' =>
      e = .returned (.tuple #[.int .i64 (headF M k).1, .bool (headF M k).2.1, .int .i64 (headF M k).2.2]) ∧ Below w.heap.size w w' := by
  cases hm : shOf M k with
  | none => simp only [headF, hm]; exact head_out w L M k h hm
  | some m =>
    cases hf : m.free with
    | nil => simp only [headF, hm, hf]; exact head_full w L M k m h hm hf
    | cons f fs =>
      obtain ⟨x, hx⟩ := free_ix h hm hf
      simp only [headF, hm, hf, hx]
      exact head_in w L M k m f fs x h hm hf hx

theorem free_any (w : World) (L : Lay) (M : List Sh) (s i g : Int) (h : PoolAt w L M) :
    Calls Tryz.prog 108 #[.pointer (some ⟨L.P, 0, none⟩), .agg #[.int .i64 s, .int .i64 i, .int .i64 g]] w fun e w' => e = .returned (.int .i64 (freeF M s i g).1) ∧ Stp w L w' (freeF M s i g).2 := by
  have HE := fun w' (hb : Below w.heap.size w w') => Stp.of_grown h hb
  cases hx : ixOf M s i with
  | none => simp only [freeF, hx]; exact (free_out w L M s i g h hx).mono fun e w' ⟨he, hb⟩ => ⟨he, HE w' hb⟩
  | some x =>
    by_cases hg : g < 0
    · simp only [freeF, hx, if_pos hg]; exact (free_neg w L M s i g x h hx hg).mono fun e w' ⟨he, hb⟩ => ⟨he, HE w' hb⟩
    · cases ha : (x.alive && x.gen == g) with
      | false => simp only [freeF, hx, if_neg hg, ha, if_true]; exact (free_stale w L M s i g x h hx (by omega) ha).mono fun e w' ⟨he, hb⟩ => ⟨he, HE w' hb⟩
      | true =>
        have ha' := ha
        simp only [Bool.and_eq_true, beq_iff_eq] at ha'
        by_cases hw : x.gen + 1 < 1048576
        · simp only [freeF, hx, if_neg hg, ha, if_pos hw, Bool.true_eq_false, if_false]
          exact free_in w L M s i g x h hx ha'.1 ha'.2 hw
        · simp only [freeF, hx, if_neg hg, ha, if_neg hw, Bool.true_eq_false, if_false]
          exact free_worn w L M s i g x h hx ha'.1 ha'.2 hw

theorem take_any (w : World) (L : Lay) (M : List Sh) (s i g : Int) (h : PoolAt w L M) :
    Calls Tryz.prog 89 #[.pointer (some ⟨L.P, 0, none⟩), .agg #[.int .i64 s, .int .i64 i, .int .i64 g]] w fun e w' => e = .returned (.int .i64 (takeF M s i g).1) ∧ Stp w L w' (takeF M s i g).2 := by
  have HE := fun w' (hb : Below w.heap.size w w') => Stp.of_grown h hb
  cases hx : ixOf M s i with
  | none => simp only [takeF, hx]; exact (take_out w L M s i g h hx).mono fun e w' ⟨he, hb⟩ => ⟨he, HE w' hb⟩
  | some x =>
    by_cases hg : g < 0
    · simp only [takeF, hx, if_pos hg]; exact (take_neg w L M s i g x h hx hg).mono fun e w' ⟨he, hb⟩ => ⟨he, HE w' hb⟩
    · by_cases hn : i ∈ frOf M s
      · by_cases hst : g < x.gen ∨ x.bound ≤ g
        · simp only [takeF, hx, if_neg hg, hn, not_true, if_false, if_pos hst]
          exact (take_stale w L M s i g x h hx (by omega) hn hst).mono fun e w' ⟨he, hb⟩ => ⟨he, HE w' hb⟩
        · simp only [takeF, hx, if_neg hg, hn, not_true, if_false, if_neg hst]
          exact take_in w L M s i g x h hx (by omega) hn (by omega) (by omega)
      · simp only [takeF, hx, if_neg hg, hn, not_false_eq_true, if_true]
        exact (take_state w L M s i g x h hx (by omega) hn).mono fun e w' ⟨he, hb⟩ => ⟨he, HE w' hb⟩
end Go.Proofs.YtoimjjhopljdmaaGreat
namespace Go.Proofs.YtoimjjhopljdmaaGreat
open Go.RowKit

def freshIx (ids : Nat) : List Ix := List.replicate ids ⟨0, 0, false⟩
def fresh (ids j : Nat) : Sh := ⟨freshIx ids, (List.range j).map Int.ofNat⟩

theorem fresh_inv (ids j : Nat) (h : ids ≤ 16) (hj : j ≤ ids) : ShInv (fresh ids j) := by
  refine ⟨by simp [fresh, freshIx, h], fun i x hx => ?_, fun f hf => ?_, ?_, fun f hf x hx => ?_⟩
  · simp only [fresh, freshIx, List.getElem?_replicate] at hx
    split at hx
    · cases hx; simp
    · cases hx
  · simp only [fresh, List.mem_map, List.mem_range] at hf
    obtain ⟨a, ha, rfl⟩ := hf
    simp [fresh, freshIx]
    omega
  · show ((List.range j).map Int.ofNat).Nodup
    rw [List.nodup_iff_pairwise_ne] at *
    rw [List.pairwise_map]
    exact List.nodup_range.imp fun h e => h (Int.ofNat.inj e)
  · simp only [fresh, freshIx, List.getElem?_replicate] at hx
    split at hx
    · cases hx; rfl
    · cases hx

theorem made_get (z : Array Value) (n j : Nat) (h : j < n) : (madeCells z n)[j]? = some (z[j % z.size]!) := by
  simp [madeCells, h]

theorem set_self' (ca : Array Value) (j : Nat) (v : Value) (h : j < ca.size) : (ca.setIfInBounds j v)[j]? = some v := by simp [h]

def Lay.snoc (L : Lay) (l : ShL) : Lay := { L with sh := L.sh ++ [l] }

theorem PoolN.add {w w' : World} {L : Lay} {M : List Sh} {n ids : Nat} (h : PoolN w L M n) (hlt : M.length < n) (hids : ids ≤ 16)
    (hc : Chg w w' (fun b => b = L.S)) (hA : w'.heap[w.heap.size]? = some (.cells (madeCells #[.int .i64 0, .int .i64 0, .bool false] (ids * 3)) 186 (0, 0)))
    (hS : ∀ cur, w.heap[L.S]? = some (.cells cur 178 (0, 0)) → w'.heap[L.S]? = some (.cells (cur.setIfInBounds (M.length * 2) (.slice (some ⟨w.heap.size, 0, none⟩) ids ids)) 178 (0, 0))) :
    PoolN w' (L.snoc ⟨w.heap.size, .slice none 0 0⟩) (M ++ [fresh ids 0]) n ∧ ∀ b, (L.snoc ⟨w.heap.size, .slice none 0 0⟩).own b → L.own b ∨ w.heap.size ≤ b := by
  obtain ⟨cur, hcur, hsz, hrest, hsh⟩ := h.shards
  have hlen := h.len
  have hhas : ∀ t b, (L.snoc ⟨w.heap.size, .slice none 0 0⟩).has t b → L.has t b ∨ (t = 2 * M.length + 2 ∧ b = w.heap.size) := by
    intro t b ht
    match t, ht with
    | 0, ht => exact .inl ht
    | 1, ht => exact .inl ht
    | t + 2, ht =>
      obtain ⟨x, hx, hor⟩ := ht
      simp only [Lay.snoc, List.getElem?_append] at hx
      split at hx
      · exact .inl ⟨x, hx, hor⟩
      · have hlt2 := (List.getElem?_eq_some_iff.1 hx).1
        simp only [List.length_singleton] at hlt2
        rw [show t / 2 - L.sh.length = 0 by omega] at hx
        obtain rfl : (⟨w.heap.size, .slice none 0 0⟩ : ShL) = x := by simpa using hx
        rcases hor with ⟨h0, h1⟩ | ⟨h0, h1⟩
        · exact .inr ⟨by omega, h1.symm⟩
        · cases h1
  have hPn : L.P ≠ L.S := fun e => by have := h.apart 0 1 L.P rfl e.symm; omega
  refine ⟨⟨by simp [Lay.snoc, hlen], by simp; omega, h.few, (hc.block _ (lt_of_heap h.top) hPn).trans h.top, ⟨_, hS cur hcur, by simp [hsz], fun j hj hjn => ?_, fun k m l hm hl => ?_⟩, ?_⟩, ?_⟩
  · simp only [List.length_append, List.length_singleton] at hj
    rw [Array.getElem?_setIfInBounds_ne (by omega), Array.getElem?_setIfInBounds_ne (by omega)]
    exact hrest j (by omega) hjn
  · simp only [Lay.snoc, List.getElem?_append] at hm hl
    by_cases hk : k < M.length
    · rw [if_pos hk] at hm
      rw [if_pos (by omega)] at hl
      have hs := hsh k m l hm hl
      refine hs.keep (Array.getElem?_setIfInBounds_ne (by omega)) (Array.getElem?_setIfInBounds_ne (by omega)) (hc.block _ ?_ (fun e => h.S_ne_A hl e.symm)) fun g hg => hc.block _ (hs.free.lt hg) (fun e => h.S_ne_F hl hg e.symm)
      obtain ⟨ca, hca, _⟩ := hs.rows; exact lt_of_heap hca
    · rw [if_neg hk] at hm
      rw [if_neg (by omega)] at hl
      have hk0 : k - M.length = 0 := by
        have := (List.getElem?_eq_some_iff.1 hm).1
        simp only [List.length_singleton] at this
        omega
      rw [hk0] at hm
      rw [show k - L.sh.length = 0 by omega] at hl
      obtain rfl : fresh ids 0 = m := by simpa using hm
      obtain rfl : (⟨w.heap.size, .slice none 0 0⟩ : ShL) = l := by simpa using hl
      have hkM : k = M.length := by omega
      subst hkM
      refine ⟨?_, ?_, ⟨_, hA, ?_, fun i x hx => ?_⟩, ⟨by simp [fresh], .inl ⟨rfl, by simp [fresh]⟩⟩, fresh_inv ids 0 hids (Nat.zero_le _)⟩
      · rw [set_self' _ _ _ (by omega)]; simp [fresh, freshIx]
      · rw [Array.getElem?_setIfInBounds_ne (by omega)]
        exact (hrest M.length (Nat.le_refl _) hlt).2
      · rw [size_madeCells]; simp [fresh, freshIx, Nat.mul_comm]
      · simp only [fresh, freshIx, List.getElem?_replicate] at hx
        split at hx
        · rename_i hi
          cases hx
          refine ⟨?_, ?_, ?_⟩
          · rw [made_get _ _ _ (by omega), show (i * 3) % (#[Value.int .i64 0, .int .i64 0, .bool false] : Array Value).size = 0 by simp]; rfl
          · rw [made_get _ _ _ (by omega), show (i * 3 + 1) % (#[Value.int .i64 0, .int .i64 0, .bool false] : Array Value).size = 1 by simp]; rfl
          · rw [made_get _ _ _ (by omega), show (i * 3 + 2) % (#[Value.int .i64 0, .int .i64 0, .bool false] : Array Value).size = 2 by simp]; rfl
        · cases hx
  · intro t t' b ht ht'
    rcases hhas t b ht with a | ⟨a, hb⟩ <;> rcases hhas t' b ht' with a' | ⟨a', hb'⟩
    · exact h.apart t t' b a a'
    · have := h.lt ⟨t, a⟩; omega
    · have := h.lt ⟨t', a'⟩; omega
    · omega
  · rintro b ⟨t, ht⟩
    rcases hhas t b ht with a | ⟨_, hb⟩
    · exact .inl ⟨t, a⟩
    · exact .inr (by omega)

theorem info_ix : (Tryz.prog.info? 186).map (fun i => (i.zero, i.size, i.bytes)) = some (some (.agg #[.int .i64 0, .int .i64 0, .bool false]), 3, 24) := by kernel_rfl
theorem info_sh : (Tryz.prog.info? 178).map (fun i => (i.zero, i.size, i.bytes)) = some (some (.agg #[.slice none 0 0, .slice none 0 0]), 2, 48) := by kernel_rfl

def NewAt (w0 wr : World) (n ids k : Nat) (part : Option Nat) : Prop := ∃ L : Lay, L.P = w0.heap.size + 1 ∧ L.S = w0.heap.size ∧ PoolN wr L (List.replicate k (fresh ids ids) ++ (match part with | none => [] | some j => [fresh ids j])) n ∧ Below w0.heap.size w0 wr ∧ ∀ b, L.own b → w0.heap.size ≤ b

theorem newAt_zero (w : World) (n ids : Nat) (h2 : n ≤ 16) : NewAt w ((w.alloc (.cells (madeCells #[.slice none 0 0, .slice none 0 0] (n * 2)) 178)).alloc (.cells #[.slice (some ⟨w.heap.size, 0, none⟩) n n] 174)) n ids 0 none := by
  refine ⟨⟨w.heap.size + 1, w.heap.size, []⟩, rfl, rfl, ⟨rfl, by simp, h2, ?_, ⟨madeCells #[.slice none 0 0, .slice none 0 0] (n * 2), ?_, by rw [size_madeCells]; omega, fun j _ hjn => ?_, fun k m l hm _ => by simp at hm⟩, ?_⟩, ((Below.refl _ _).alloc (Nat.le_refl _) _).alloc (by simp) _, ?_⟩
  · have := heap_alloc_new (w.alloc (.cells (madeCells #[.slice none 0 0, .slice none 0 0] (n * 2)) 178)) (.cells #[.slice (some ⟨w.heap.size, 0, none⟩) n n] 174)
    simpa using this
  · exact (Below.heap_alloc _ _ _ (by simp)).trans (heap_alloc_new w _)
  · refine ⟨?_, ?_⟩
    · rw [made_get _ _ _ (by omega), show (j * 2) % (#[Value.slice none 0 0, .slice none 0 0] : Array Value).size = 0 by simp]; rfl
    · rw [made_get _ _ _ (by omega), show (j * 2 + 1) % (#[Value.slice none 0 0, .slice none 0 0] : Array Value).size = 1 by simp]; rfl
  · intro t t' b ht ht'
    match t, t', ht, ht' with
    | 0, 0, _, _ => rfl
    | 1, 1, _, _ => rfl
    | 0, 1, h, h' => cases h; simp [Lay.has] at h'
    | 1, 0, h, h' => cases h; simp [Lay.has] at h'
    | t + 2, _, h, _ => obtain ⟨l, hl, _⟩ := h; simp at hl
    | _, t' + 2, _, h => obtain ⟨l, hl, _⟩ := h; simp at hl
  · rintro b ⟨t, ht⟩
    match t, ht with
    | 0, h => cases h; simp
    | 1, h => cases h; simp
    | t + 2, h => obtain ⟨l, hl, _⟩ := h; simp at hl

theorem newAt_facts {w0 wr : World} {n ids k : Nat} {part : Option Nat} (h : NewAt w0 wr n ids k part) :
    wr.cell? ⟨w0.heap.size + 1, 0, none⟩ = some (.slice (some ⟨w0.heap.size, 0, none⟩) n n) ∧ w0.heap.size < wr.heap.size ∧ w0.heap.size + 1 < wr.heap.size ∧ (∀ j, j < 2 * n → (wr.cell? ⟨w0.heap.size, j, none⟩).isSome = true) ∧ (∀ j, wr.frozen? ⟨w0.heap.size, j, none⟩ = false) := by
  obtain ⟨L, hP, hS, hp, _, _⟩ := h
  have ht := hp.top
  obtain ⟨cur, hcur, hsz, _⟩ := hp.shards
  rw [hP, hS] at ht
  rw [hS] at hcur
  exact ⟨by simp [World.cell?, ht], lt_of_heap hcur, lt_of_heap ht, fun j hj => by simp [World.cell?, hcur, hsz]; exact hj, fun j => by simp [World.frozen?, hcur]⟩

theorem size_setCell' (w : World) (a : Addr) (v : Value) : (w.setCell a v).heap.size = w.heap.size := by simp [World.setCell]

theorem newAt_add {w0 wr : World} {n ids k : Nat} (h : NewAt w0 wr n ids k none) (hk : k < n) (hids : ids ≤ 16) : NewAt w0 (((wr.setCell ⟨w0.heap.size, k * 2, none⟩ (.slice (some ⟨wr.heap.size, 0, none⟩) ids ids)).alloc (.cells (madeCells #[.int .i64 0, .int .i64 0, .bool false] (ids * 3)) 186)).drew) n ids k (some 0) := by
  obtain ⟨L, hP, hS, hp, hb, hown⟩ := h
  simp only [List.append_nil] at hp
  have hb0 := hb.size
  have hlt := lt_of_heap (hp.shards.choose_spec.1)
  have hsz : (wr.setCell ⟨w0.heap.size, k * 2, none⟩ (.slice (some ⟨wr.heap.size, 0, none⟩) ids ids)).heap.size = wr.heap.size := by simp [World.setCell]
  have hc : Chg wr (((wr.setCell ⟨w0.heap.size, k * 2, none⟩ (.slice (some ⟨wr.heap.size, 0, none⟩) ids ids)).alloc (.cells (madeCells #[.int .i64 0, .int .i64 0, .bool false] (ids * 3)) 186)).drew) (fun b => b = L.S) :=
    (((Chg.refl wr (fun b => b = L.S)).setCell _ _ (.inl hS.symm)).then_below ((Below.refl _ _).alloc (Nat.le_of_eq hsz.symm) _)).then_below ((Below.refl _ _).drew)
  obtain ⟨p2, o2⟩ := hp.add (ids := ids) (w' := ((wr.setCell ⟨w0.heap.size, k * 2, none⟩ (.slice (some ⟨wr.heap.size, 0, none⟩) ids ids)).alloc (.cells (madeCells #[.int .i64 0, .int .i64 0, .bool false] (ids * 3)) 186)).drew) (by simpa using hk) hids hc
    (by
      show ((wr.setCell _ _).alloc _).heap[wr.heap.size]? = _
      have := heap_alloc_new (wr.setCell ⟨w0.heap.size, k * 2, none⟩ (.slice (some ⟨wr.heap.size, 0, none⟩) ids ids)) (.cells (madeCells #[.int .i64 0, .int .i64 0, .bool false] (ids * 3)) 186)
      rwa [hsz] at this)
    (fun cur hcur => by
      rw [List.length_replicate]
      rw [← hS]
      show ((wr.setCell _ _).alloc _).heap[L.S]? = _
      rw [Below.heap_alloc _ _ _ (by rw [size_setCell']; exact hlt)]
      exact heap_setCell_same _ _ _ _ _ _ _ hcur)
  refine ⟨L.snoc ⟨wr.heap.size, .slice none 0 0⟩, hP, hS, p2, (((hb.setCell (Nat.le_refl _) _).alloc (by rw [size_setCell']; exact hb0) _).drew), fun b hb' => ?_⟩
  rcases o2 b hb' with h | h
  · exact hown b h
  · omega

theorem newAt_next {w0 wr : World} {n ids k : Nat} (h : NewAt w0 wr n ids k (some ids)) : NewAt w0 wr n ids (k + 1) none := by
  obtain ⟨L, hP, hS, hp, hb, hown⟩ := h
  refine ⟨L, hP, hS, ?_, hb, hown⟩
  rw [List.replicate_succ', List.append_nil]
  exact hp

theorem newAt_app {w0 wr : World} {n ids k j : Nat} (h : NewAt w0 wr n ids k (some j)) (hj : j < ids) (hids : ids ≤ 16) : ∃ v, wr.cell? ⟨w0.heap.size, k * 2 + 1, none⟩ = some v ∧ v.ownBlock ≠ some w0.heap.size ∧ v.ownBlock ≠ some (w0.heap.size + 1) ∧
    ∀ W, Below wr.heap.size wr W → Sl W 3 1 v j ((List.range j).map fun q => Value.int .i64 (Int.ofNat q)) ∧
      ∀ (g off cap : Nat) (w1 : World), Sl w1 3 1 (.slice (some ⟨g, off, none⟩) (j + 1) cap) (j + 1) (((List.range j).map fun q => Value.int .i64 (Int.ofNat q)) ++ [.int .i64 j]) → Turned W w1 v.ownBlock → (v.ownBlock = some g ∨ W.heap.size ≤ g) →
      NewAt w0 (w1.setCell ⟨w0.heap.size, k * 2 + 1, none⟩ (.slice (some ⟨g, off, none⟩) (j + 1) cap)) n ids k (some (j + 1)) := by
  obtain ⟨L, hP, hS, hp, hb, hown⟩ := h
  have hm : (List.replicate k (fresh ids ids) ++ [fresh ids j])[k]? = some (fresh ids j) := by simp
  have hkl : k < L.sh.length := by rw [hp.len]; simp
  have hl : L.sh[k]? = some L.sh[k] := List.getElem?_eq_getElem hkl
  generalize L.sh[k] = l at hl
  obtain ⟨_, hcF, _, _, _, _, _⟩ := hp.sh hm hl
  rw [hS] at hcF
  refine ⟨l.fv, hcF, fun e => hp.S_ne_F hl (hS ▸ e) hS, fun e => ?_, fun W hW => ?_⟩
  · have := hp.apart 0 _ _ hP (Lay.has_F hl e); omega
  have pW := hp.grown hW
  have hsl := (pW.sh hm hl).2.2.2.2.2.2
  have e1 : (fresh ids j).free.length = j := by simp [fresh]
  have e2 : (fresh ids j).free.map (Value.int .i64) = (List.range j).map fun q => Value.int .i64 (Int.ofNat q) := by simp [fresh, List.map_map, Function.comp_def]
  rw [e1, e2] at hsl
  refine ⟨hsl, fun g off cap w1 hs1 ht hor => ?_⟩
  have e3 : (fresh ids (j + 1)).free.map (Value.int .i64) = ((List.range j).map fun q => Value.int .i64 (Int.ofNat q)) ++ [.int .i64 j] := by simp [fresh, List.map_map, Function.comp_def, List.range_succ]
  have e4 : (fresh ids (j + 1)).free.length = j + 1 := by simp [fresh]
  rw [← e3] at hs1
  obtain ⟨p2, o2⟩ := pW.set_freeN hm hl (w1 := w1) (Chg.of_turned ht fun k e _ => e) (v := .slice (some ⟨g, off, none⟩) (j + 1) cap) (fr := (fresh ids (j + 1)).free) (by rw [e4]; exact hs1) (fun g' hg' => by simp [Value.ownBlock] at hg'; subst hg'; exact hor) (fresh_inv ids (j + 1) hids hj)
  have hbW : Below w0.heap.size w0 W := hb.trans (hW.mono hb.size)
  have hgw : ∀ b, l.fv.ownBlock = some b → w0.heap.size ≤ b := fun b e => hown b (Lay.own_at hl (.inr (.inr e)))
  have hb1 : Below w0.heap.size w0 w1 := hbW.trans ⟨ht.os, ht.tape, ht.output, ht.size, fun q hq => ht.block q (by have := hbW.size; omega) (fun e => by have := hgw q e.symm; omega)⟩
  refine ⟨L.put k { l with fv := .slice (some ⟨g, off, none⟩) (j + 1) cap }, hP, hS, ?_, hb1.setCell (Nat.le_refl _) _, fun b hb' => ?_⟩
  · rw [← hS]
    have e5 : (List.replicate k (fresh ids ids) ++ [fresh ids j]).set k ⟨(fresh ids j).all, (fresh ids (j + 1)).free⟩ = List.replicate k (fresh ids ids) ++ [fresh ids (j + 1)] := by
      rw [List.set_append_right _ _ (by simp)]
      simp [fresh]
    rw [e5] at p2
    exact p2
  · rcases o2 b hb' with h | h
    · exact hown b h
    · have := hbW.size; omega

set_option maxRecDepth 100000 in
set_option maxHeartbeats 2000000 in
theorem new_ok (n ids : Nat) (w : World) (h1 : 1 ≤ n) (h2 : n ≤ 16) (h3 : 1 ≤ ids) (h4 : ids ≤ 16) :
    Calls Tryz.prog 80 #[.int .i64 n, .int .i64 ids] w fun e w' => e = .returned (.tuple #[.pointer (some ⟨w.heap.size + 1, 0, none⟩), .int .i64 0]) ∧ NewAt w w' n ids n none := by
  obtain ⟨j0, hj0, hj1, hj2, hj3⟩ := info_parts info_ix
  obtain ⟨s0, hs0, hs1, hs2, hs3⟩ := info_parts info_sh
  have hmk1 : ∀ W, (Instr.makeSlice 172 (.int .i64 n) (.int .i64 n)).run Tryz.prog W = .ok (.slice (some ⟨W.heap.size, 0, none⟩) n n) (W.alloc (.cells (madeCells #[.slice none 0 0, .slice none 0 0] (n * 2)) 178)) := by
    intro W
    have := run_make (P := Tryz.prog) W 172 178 s0 _ Tryz.underlying172 hs0 hs1 .i64 .i64 n n (by omega) (by omega) (by rw [hs3]; omega) (by omega)
    rw [hs2, Int.toNat_natCast] at this
    exact this
  have hmk2 : ∀ W, (Instr.makeSlice 175 (.int .i64 ids) (.int .i64 ids)).run Tryz.prog W = .ok (.slice (some ⟨W.heap.size, 0, none⟩) ids ids) (W.alloc (.cells (madeCells #[.int .i64 0, .int .i64 0, .bool false] (ids * 3)) 186)) := by
    intro W
    have := run_make (P := Tryz.prog) W 175 186 j0 _ Tryz.underlying175 hj0 hj1 .i64 .i64 ids ids (by omega) (by omega) (by rw [hj3]; omega) (by omega)
    rw [hj2, Int.toNat_natCast] at this
    exact this
  clear hj0 hj1 hj2 hj3 hs0 hs1 hs2 hs3
  have d1 : decide ((n : Int) < 1) = false := by simp; omega
  have d2 : decide (16 < (n : Int)) = false := by simp; omega
  have d3 : decide ((ids : Int) < 1) = false := by simp; omega
  have d4 : decide (16 < (ids : Int)) = false := by simp; omega
  go_enter Tryz.func80, Tryz.ntmps80
  go_wp2_with fail
  go_loopw [32] (fun i wr => ∃ k : Nat, k ≤ n ∧ i = .int .i64 k ∧ NewAt w wr n ids k none) (fun i _ => n - (intOf i).toNat)
  case atStart => exact ⟨0, Nat.zero_le _, rfl, newAt_zero w n ids h2⟩
  case round =>
    obtain ⟨k, hk, rfl, hn⟩ := hrel
    obtain ⟨n1, n2, n3, n4, n5⟩ := newAt_facts hn
    obtain ⟨wo, rfl⟩ : ∃ wo : World, wo = wr := ⟨_, rfl⟩
    by_cases hlt : k < n
    · have n4' := n4 (k * 2) (by omega)
      have n5' := n5 (k * 2)
      obtain ⟨y, hy⟩ := Option.isSome_iff_exists.1 n4'
      have HN := Lib.hid hn
      clear n4 n5 n4' hn
      go_wp2_with fail
      go_region_held3 (fun W => W.cell? ⟨w.heap.size + 1, 0, none⟩ = some (.slice (some ⟨w.heap.size, 0, none⟩) n n)) (go_keep) (fail)
      go_wp2_with fail
      go_loopw [45] (fun j wr => ∃ q : Nat, q ≤ ids ∧ j = .int .i64 q ∧ NewAt w wr n ids k (some q)) (fun j _ => ids - (intOf j).toNat)
      case atStart => exact ⟨0, Nat.zero_le _, rfl, newAt_add HN.out hlt h4⟩
      case round =>
        clear HN n1 n2 n3 n5' hy
        obtain ⟨q, hq, rfl, hn⟩ := hrel
        obtain ⟨n1, n2, n3, n4, n5⟩ := newAt_facts hn
        obtain ⟨wi, rfl⟩ : ∃ wi : World, wi = wr := ⟨_, rfl⟩
        by_cases hqi : q < ids
        · obtain ⟨v, hv, v1, v2, hfin⟩ := newAt_app hn hqi h4
          have FIN := Lib.hid hfin
          have V1 := Lib.hid v1
          have V2 := Lib.hid v2
          have n5' := n5 (k * 2 + 1)
          clear n4 n5 hn hfin v1 v2
          obtain ⟨i0, hi0, hz0, hz1, hz2⟩ := info_parts info_int
          go_wp2_with fail
          go_region_law
            ((refine step_append_sl _ (by rfl) _ _ _ (by rfl) 3 i0 _ 1 8 Tryz.underlying176 hi0 hz0 hz1 hz2 rfl (by omega) v q _ (by rfl) (FIN.out _ bg).1
                ⟨_, 0, none⟩ 1 1 [.int .i64 q] (by rfl) (by rfl) (World.news_of_block (cs := #[.int .i64 q]) (t := 3) (fr := (0, 0)) (heap_alloc_new _ _)) (by simp [Value.oneCell'])
                (by omega) (by unfold maxLen; omega) (by omega) ?_; intro g off cap w1 hs1 ht hor; have k6 : w1.frozen? ⟨w.heap.size, k * 2 + 1, none⟩ = false := (by rw [ht.frozen (by simp; omega) V1.out]; simp [n5', n2, go_sem]); have k7 : w1.cell? ⟨w.heap.size, k * 2 + 1, none⟩ = some v := (by rw [ht.cell (by simp; omega) V1.out]; simp [hv, n2, go_sem]); have k8 : w1.cell? ⟨w.heap.size + 1, 0, none⟩ = some (.slice (some ⟨w.heap.size, 0, none⟩) n n) := (by rw [ht.cell (by simp; omega) V2.out]; simp [n1, n3, go_sem])))
          all_goals go_wp2_with fail
          all_goals go_roundw
          all_goals first
            | exact ⟨q + 1, by omega, by go_num, (FIN.out _ bg).2 g off cap w1 hs1 ht hor⟩
            | (simp [intOf]; omega)
        · obtain rfl : q = ids := by omega
          clear n4 n5
          have HN := Lib.hid (newAt_next hn)
          clear hn
          go_wp2_with fail
          go_roundw
          case rel => exact ⟨k + 1, by omega, by go_num, HN.out⟩
          case measure => simp [intOf]; omega
    · obtain rfl : k = n := by omega
      have HN := Lib.hid hn
      clear hn n4 n5
      go_wp2_with fail
      go_ret2
      exact ⟨rfl, HN.out⟩
end Go.Proofs.YtoimjjhopljdmaaGreat
namespace Go.Proofs.YtoimjjhopljdmaaGreat
open Go.RowKit

abbrev Id3 := Int × Int × Int
def idCells (l : List Id3) : List Value := l.flatMap fun x => [.int .i64 x.1, .int .i64 x.2.1, .int .i64 x.2.2]
theorem idCells_app (l l' : List Id3) : idCells (l ++ l') = idCells l ++ idCells l' := by simp [idCells]
theorem idCells_one (s i g : Int) : idCells [(s, i, g)] = [.int .i64 s, .int .i64 i, .int .i64 g] := by simp [idCells]

def ListAt (w wr : World) (v : Value) (l : List Id3) : Prop := Sl wr 30 3 v l.length (idCells l) ∧ Below w.heap.size w wr ∧ ∀ g, v.ownBlock = some g → w.heap.size ≤ g

theorem ListAt.snoc {w W w1 : World} {v v' : Value} {l : List Id3} {s i g : Int} (h : ListAt w W v l) (hs : Sl w1 30 3 v' (l.length + 1) (idCells l ++ [.int .i64 s, .int .i64 i, .int .i64 g])) (ht : Turned W w1 v.ownBlock)
    (ho : v'.ownBlock = v.ownBlock ∨ ∃ g, v'.ownBlock = some g ∧ W.heap.size ≤ g) : ListAt w w1 v' (l ++ [(s, i, g)]) := by
  refine ⟨?_, h.2.1.trans ⟨ht.os, ht.tape, ht.output, ht.size, fun k hk => ht.block k (by have := h.2.1.size; omega) fun e => by have := h.2.2 k e.symm; omega⟩, fun q hq => ?_⟩
  · rw [idCells_app, idCells_one]; simpa using hs
  · rcases ho with e | ⟨g', e, hg'⟩
    · exact h.2.2 q (by rw [← e]; exact hq)
    · rw [e] at hq
      cases hq
      exact Nat.le_trans h.2.1.size hg'

end Go.Proofs.YtoimjjhopljdmaaGreat
namespace Go.Proofs.YtoimjjhopljdmaaGreat
open Go.RowKit

def nextF (M : List Sh) (k : Int) : (Id3 × Int × Bool) × List Sh :=
  if (headF M k).2.2 ≠ 0 then (((0, 0, 0), -1, false), M) else
  if (headF M k).2.1 = true then (((issueF M k).1, -1, (issueF M k).2.1 == 0), (issueF M k).2.2) else
  if (reserveF M k (headF M k).1).1 ≠ 0 then (((0, 0, 0), -1, false), (reserveF M k (headF M k).1).2) else
  (((issueF (reserveF M k (headF M k).1).2 k).1, (headF M k).1, (issueF (reserveF M k (headF M k).1).2 k).2.1 == 0), (issueF (reserveF M k (headF M k).1).2 k).2.2)


end Go.Proofs.YtoimjjhopljdmaaGreat
