/-
  Chapter texts QmG2 QmAw QmRd: what the claim reaches of them. Conditions stand at each theorem.
-/
import Derived.Test.YtmkfjelpekkmmaaQ19
import Derived.Test.YtmkfjelpekkmmaaQ23
import Derived.Test.YtmkfjelpekkmmaaQ24
import Derived.Test.YtmkfjelpekkmmaaQ29
import Derived.Test.YtmkfjelpekkmmaaQ04
namespace Go.Proofs.Ytmkfjelpekkmmaa
open Go.Sort
def befG (cf : Bun → Bun → Int) (x y : Bun) : Bool := decide (cf x y < 0)
theorem befG_cmp {cf : Bun → Bun → Int} (x y : Bun) : befG cf x y = decide (cf x y < 0) := rfl
def gPos (cf : Bun → Bun → Int) (x : Bun) (l : List Bun) : Nat → Nat
  | 0 => 0
  | k + 1 => if befG cf x (l.getD k default) then gPos cf x l k else k + 1
theorem gPos_le (cf : Bun → Bun → Int) (x : Bun) (l : List Bun) : ∀ k, gPos cf x l k ≤ k
  | 0 => Nat.le_refl _
  | k + 1 => by
    have := gPos_le cf x l k
    unfold gPos
    split <;> omega
theorem gPos_lo (cf : Bun → Bun → Int) (x : Bun) (l : List Bun) : ∀ k, gPos cf x l k = 0 ∨ befG cf x (l.getD (gPos cf x l k - 1) default) = false
  | 0 => .inl rfl
  | k + 1 => by
    unfold gPos
    split
    · exact gPos_lo cf x l k
    · rename_i h
      right
      rw [Nat.add_sub_cancel]
      simpa using h
theorem gPos_hi (cf : Bun → Bun → Int) (x : Bun) (l : List Bun) : ∀ k t, gPos cf x l k ≤ t → t < k → befG cf x (l.getD t default) = true
  | 0, t, _, h => absurd h (Nat.not_lt_zero _)
  | k + 1, t, h1, h2 => by
    unfold gPos at h1
    split at h1
    · rename_i hb
      by_cases ht : t = k
      · subst ht; exact hb
      · exact gPos_hi cf x l k t h1 (by omega)
    · omega
def gIns (cf : Bun → Bun → Int) (x : Bun) (l : List Bun) : List Bun := l.take (gPos cf x l l.length) ++ x :: l.drop (gPos cf x l l.length)
def gSort (cf : Bun → Bun → Int) (l : List Bun) : List Bun := l.foldl (fun out x => gIns cf x out) []
theorem gSort_snoc (cf : Bun → Bun → Int) (l : List Bun) (x : Bun) : gSort cf (l ++ [x]) = gIns cf x (gSort cf l) := by simp [gSort]
theorem gIns_tag {cf : Bun → Bun → Int} (hcf : CmpOk cf) {n : Nat} (x : Bun) (T : List (Bun × Nat)) (hp : T.Pairwise fun a b => ltT cf a b = true) (ht : ∀ y ∈ T, y.2 < n) :
    ∃ T' : List (Bun × Nat), T'.map (fun y => y.1) = gIns cf x (T.map fun y => y.1) ∧ T'.Perm ((x, n) :: T) ∧ T'.Pairwise fun a b => ltT cf a b = true := by
  have hS := ltT_swo hcf
  generalize hk : gPos cf x (T.map fun y => y.1) (T.map fun y => y.1).length = k
  have h1 := gPos_le cf x (T.map fun y => y.1) (T.map fun y => y.1).length
  have h2 := gPos_lo cf x (T.map fun y => y.1) (T.map fun y => y.1).length
  have h3 := gPos_hi cf x (T.map fun y => y.1) (T.map fun y => y.1).length
  rw [hk] at h1 h2 h3
  simp only [List.length_map] at h1 h3
  refine ⟨T.take k ++ (x, n) :: T.drop k, ?_, ?_, ?_⟩
  · unfold gIns
    rw [hk]
    simp [List.map_take, List.map_drop]
  · refine List.perm_middle.trans ?_
    rw [List.take_append_drop]
  · have hlo : ∀ y ∈ T.take k, ltT cf y (x, n) = true := by
      intro y hy
      rcases h2 with h2 | h2
      · subst h2; simp at hy
      · by_cases hk0 : k = 0
        · subst hk0; simp at hy
        obtain ⟨j, hj, e⟩ := List.getElem_of_mem hy
        have hj' : j < k := by simp at hj; omega
        have hkl : k - 1 < T.length := by omega
        have e2 : (T.map fun y => y.1).getD (k - 1) default = T[k - 1].1 := by simp [List.getD, hkl]
        rw [e2, befG_cmp] at h2
        have hl : ltT cf T[k - 1] (x, n) = true := by
          rw [(ltT_total hcf (x := T[k - 1]) (y := (x, n)) (ht _ (List.getElem_mem hkl))).2, h2]; rfl
        have e3 : y = T[j] := by rw [← e]; simp
        rw [e3]
        by_cases hjk : j = k - 1
        · subst hjk; exact hl
        · exact hS.trans _ _ _ (List.pairwise_iff_getElem.1 hp j (k - 1) (by omega) hkl (by omega)) hl
    have hhi : ∀ y ∈ T.drop k, ltT cf (x, n) y = true := by
      intro y hy
      obtain ⟨j, hj, e⟩ := List.getElem_of_mem hy
      have hj' : k + j < T.length := by simp at hj; omega
      have h4 := h3 (k + j) (by omega) hj'
      have e2 : (T.map fun y => y.1).getD (k + j) default = T[k + j].1 := by simp [List.getD, hj']
      rw [e2, befG_cmp] at h4
      have e3 : y = T[k + j] := by rw [← e]; simp
      rw [e3, (ltT_total hcf (x := T[k + j]) (y := (x, n)) (ht _ (List.getElem_mem hj'))).1, h4]
    rw [List.pairwise_append]
    refine ⟨hp.sublist (List.take_sublist _ _), List.pairwise_cons.2 ⟨hhi, hp.sublist (List.drop_sublist _ _)⟩, fun y hy z hz => ?_⟩
    rcases List.mem_cons.1 hz with rfl | hz
    · exact hlo y hy
    · exact hS.trans _ _ _ (hlo y hy) (hhi z hz)

theorem gSort_tag {cf : Bun → Bun → Int} (hcf : CmpOk cf) (l : List Bun) : ∀ n, n ≤ l.length → ∃ T : List (Bun × Nat), T.map (fun y => y.1) = gSort cf (l.take n) ∧ T.Perm (l.take n).zipIdx ∧ T.Pairwise fun a b => ltT cf a b = true
  | 0, _ => ⟨[], rfl, by simp, List.Pairwise.nil⟩
  | n + 1, h => by
    obtain ⟨T, h1, h2, h3⟩ := gSort_tag hcf l n (by omega)
    have e : l.take (n + 1) = l.take n ++ [l[n]] := by rw [List.take_succ_eq_append_getElem (by omega)]
    obtain ⟨T', g1, g2, g3⟩ := gIns_tag hcf (n := n) l[n] T h3 (fun y hy => by
      have := h2.mem_iff.1 hy
      have := List.mem_zipIdx this
      simp at this
      omega)
    refine ⟨T', by rw [g1, h1, e, gSort_snoc], ?_, g3⟩
    rw [e, List.zipIdx_append]
    refine g2.trans ((List.Perm.cons _ h2).trans ?_)
    have : (l.take n).length = n := by simp; omega
    simp [this]
    exact List.perm_append_comm (l₁ := [_])

theorem gSort_stable {cf : Bun → Bun → Int} (hcf : CmpOk cf) (l : List Bun) : gSort cf l = stableF cf l := by
  obtain ⟨T, h1, h2, h3⟩ := gSort_tag hcf l l.length (Nat.le_refl _)
  rw [List.take_length] at h1 h2
  have hl : T.length = l.length := by rw [h2.length_eq]; simp
  rw [← h1, ← stable_of hcf (d := T.toArray) ?_ ?_]
  · refine ⟨by rw [size_tagd]; simpa using hl, fun i hi => ?_, ?_⟩
    · have h0 : l.length ≤ i := by omega
      rw [getElem!_neg _ _ (by simp; omega), getElem!_neg _ _ (by rw [size_tagd]; omega)]
    · have e1 : T.toArray.extract 0 l.length = T.toArray := by rw [← hl, ← List.size_toArray]; exact Array.extract_size
      have e2 : (tagd l).extract 0 l.length = tagd l := by
        have h := Array.extract_size (xs := tagd l)
        rwa [size_tagd] at h
      rw [e1, e2]
      simpa [tagd] using h2
  · intro i j _ hij hj
    rw [getElem!_pos _ i (by simp; omega), getElem!_pos _ j (by simp; omega)]
    simpa using List.pairwise_iff_getElem.1 h3 i j (by omega) (by omega) hij

end Go.Proofs.Ytmkfjelpekkmmaa
namespace Go.Proofs.Ytmkfjelpekkmmaa
open Go.RowKit

theorem aw12_made : madeF [(⟨0, 1, 0, 1, 3, 0, 0, 0, 0, 0, 0⟩ : Bun), (⟨0, 0, 0, 5, 0, 0, 0, 0, 1, 0, 0⟩ : Bun)] = [(⟨0, 1, 0, 1, 3, 0, 0, 0, 0, 0, 0⟩ : Bun), (⟨0, 0, 0, 5, 0, 0, 0, 0, 1, 0, 0⟩ : Bun)] := by kernel_rfl
theorem aw12_masks : masksF 5 26 = [5] := by kernel_rfl
theorem aw12_near : (nearF 1 0 2 0 2 [(⟨0, 1, 0, 1, 3, 0, 0, 0, 0, 0, 0⟩ : Bun), (⟨0, 0, 0, 5, 0, 0, 0, 0, 1, 0, 0⟩ : Bun)]).map idOf = [⟨0, 1, 0⟩, ⟨0, 0, 0⟩] := by
  unfold nearF foundF
  rw [← gSort_stable (cmpFar_ok 2 0), ← gSort_stable cmpBun_ok]
  kernel_rfl
theorem aw12_in : (foundF 0 0 (fun b => gapF 1 0 9 9 b.x b.y == 0) [(⟨0, 1, 0, 1, 3, 0, 0, 0, 0, 0, 0⟩ : Bun), (⟨0, 0, 0, 5, 0, 0, 0, 0, 1, 0, 0⟩ : Bun)]).map idOf = [⟨0, 1, 0⟩] := by kernel_rfl
theorem aw12_ids : ((foundF 1 0 (fun _ => true) [(⟨0, 1, 0, 1, 3, 0, 0, 0, 0, 0, 0⟩ : Bun), (⟨0, 0, 0, 5, 0, 0, 0, 0, 1, 0, 0⟩ : Bun)]).map idOf).length = 2 := by
  unfold foundF
  rw [← gSort_stable cmpBun_ok]
  kernel_rfl
theorem bin_box12 (W : World) (arr : Array Value) (l : List Bun) (n : Nat) (h : arr.toList = bunCells l) (hn : n = W.heap.size) (hl : l.length ≤ 1000) (k : Nat) (hk : k = l.length) (c : Nat) (hc : k ≤ c) : BIn (W.alloc (.cells arr 51)) (.slice (some ⟨n, 0, none⟩) k c) l := by
  subst hn
  subst hk
  refine ⟨_, c, rfl, by unfold maxLen; omega, (fun h => by cases h), hc, fun _ => ⟨W.heap.size, 0, rfl, by simp, fun t u hu => ?_⟩⟩
  rw [← h, Array.getElem?_toList] at hu
  simp [hu]
theorem rnew_first {β : Type} {enc : β → List Value} {t : TypeId} {k : Nat} (hk : ∀ b, (enc b).length = k) {w w' : World} {v : Value} {x : β} {xs : List β} (h : RNew enc t k w w' v (x :: xs)) :
    ∃ g off c, v = .slice (some ⟨g, off, none⟩) (xs.length + 1) c ∧ g < w'.heap.size ∧ ∀ j u, (enc x)[j]? = some u → w'.cell? ⟨g, off + j, none⟩ = some u := by
  obtain ⟨g, off, c, rfl, lg, _⟩ := sl_some (n := xs.length) h.1
  refine ⟨g, off, c, rfl, lg, ?_⟩
  obtain ⟨gb, ob, cb, hv, hgb, hcb⟩ := h.rin.cells hk (k := 0) rfl
  simp only [Value.slice.injEq, Option.some.injEq, Addr.mk.injEq, and_true] at hv
  obtain ⟨⟨rfl, rfl⟩, _, rfl⟩ := hv
  simpa using hcb
set_option maxRecDepth 100000 in
set_option maxHeartbeats 2000000 in
theorem awake12 (w : World) : Calls Try.prog 18 #[] w fun e w' => e = .returned (.bool true) ∧ Below w.heap.size w w' := by
  go_enter Try.func18, Try.ntmps18
  go_wp2_with fail
  refine (smade_any _ _ [(⟨0, 1, 0, 1, 3, 0, 0, 0, 0, 0, 0⟩ : Bun), (⟨0, 0, 0, 5, 0, 0, 0, 0, 1, 0, 0⟩ : Bun)] (bin_box12 (w.alloc (.cells #[.int .i64 0, .int .i64 1, .int .i64 0, .int .i64 1, .int .i64 3, .int .i64 0, .int .i64 0, .int .i64 0, .int .i64 0, .int .i64 0, .int .i64 0] 51)) #[.int .i64 0, .int .i64 1, .int .i64 0, .int .i64 1, .int .i64 3, .int .i64 0, .int .i64 0, .int .i64 0, .int .i64 0, .int .i64 0, .int .i64 0, .int .i64 0, .int .i64 0, .int .i64 0, .int .i64 5, .int .i64 0, .int .i64 0, .int .i64 0, .int .i64 0, .int .i64 1, .int .i64 0, .int .i64 0] [(⟨0, 1, 0, 1, 3, 0, 0, 0, 0, 0, 0⟩ : Bun), (⟨0, 0, 0, 5, 0, 0, 0, 0, 1, 0, 0⟩ : Bun)] _ rfl (by simp) (by simp) 2 rfl 2 (Nat.le_refl _))).mono ?_
  rintro e w1 ⟨p, v', rfl, hO⟩
  rw [aw12_made] at hO
  have hb1 : Below w.heap.size w w1 := Below.trans (b := ((w.alloc (.cells #[.int .i64 0, .int .i64 1, .int .i64 0, .int .i64 1, .int .i64 3, .int .i64 0, .int .i64 0, .int .i64 0, .int .i64 0, .int .i64 0, .int .i64 0] 51)).alloc (.cells #[.int .i64 0, .int .i64 1, .int .i64 0, .int .i64 1, .int .i64 3, .int .i64 0, .int .i64 0, .int .i64 0, .int .i64 0, .int .i64 0, .int .i64 0, .int .i64 0, .int .i64 0, .int .i64 0, .int .i64 5, .int .i64 0, .int .i64 0, .int .i64 0, .int .i64 0, .int .i64 1, .int .i64 0, .int .i64 0] 51))) (by repeat' (first | (with_reducible exact Below.refl _ _) | (with_reducible assumption) | (with_reducible refine below_drewN ?_ _) | (with_reducible refine below_more _ _ _ ?_ ?_) | (with_reducible refine Below.alloc ?_ ?_ _) | (with_reducible refine Below.drew ?_) | (with_reducible refine Below.setCell ?_ ?_ _) | go_size)) (hO.below.mono (by simp; omega))
  have kA : ∀ j, w1.cell? ⟨w.heap.size, j, none⟩ = (#[.int .i64 0, .int .i64 1, .int .i64 0, .int .i64 1, .int .i64 3, .int .i64 0, .int .i64 0, .int .i64 0, .int .i64 0, .int .i64 0, .int .i64 0] : Array Value)[j]? := fun j => (hO.below.cell (p := ⟨w.heap.size, j, none⟩) (by simp; omega)).trans (by simp [go_sem])
  have sA : w.heap.size < w1.heap.size := by have := hO.below.size; simp at this; omega
  obtain ⟨p9, c9, rfl⟩ := sl_frm hO.comm.assoc.sl.1
  obtain ⟨o9, ho9, _, _⟩ := hO.fst
  have HF := Lib.hid (foundAt_sto ho9 (by simp))
  have HB1 := Lib.hid hb1
  have HKA := Lib.hid kA
  clear hO kA hb1 ho9
  go_wp2_with fail
  refine (qmasks_any 5 26 _).mono ?_
  rintro e w2 ⟨v1, rfl, hN⟩
  rw [aw12_masks] at hN
  obtain ⟨g1, o1, c1, rfl, l1, k1⟩ := rnew_first (k := 1) (fun _ => rfl) hN
  have k1' := k1 0 _ rfl
  simp only [Nat.add_zero] at k1'
  have s2 := hN.2.1.size
  have HF2 := Lib.hid (HF.out.grow hN.2.1)
  have HB2 := Lib.hid (HB1.out.trans (hN.2.1.mono HB1.out.size))
  have HKA2 := Lib.hid (fun j => (hN.2.1.cell (p := ⟨w.heap.size, j, none⟩) sA).trans (HKA.out j))
  clear hN HF HKA HB1 k1
  go_wp2_with fail
  refine (qnear_any _ _ [(⟨0, 1, 0, 1, 3, 0, 0, 0, 0, 0, 0⟩ : Bun), (⟨0, 0, 0, 5, 0, 0, 0, 0, 1, 0, 0⟩ : Bun)] HF2.out ⟨_, rfl⟩ 1 0 2 0 2).mono ?_
  rintro e w3 ⟨v2, rfl, hN⟩
  rw [aw12_near] at hN
  obtain ⟨g2, o2, c2, rfl, l2, k2⟩ := rnew_first nidL_len hN
  have s3 := hN.2.1.size
  have HF3 := Lib.hid (HF2.out.grow hN.2.1)
  have HB3 := Lib.hid (HB2.out.trans (hN.2.1.mono HB2.out.size))
  have HKA3 := Lib.hid (fun j => (hN.2.1.cell (p := ⟨w.heap.size, j, none⟩) (Nat.lt_of_lt_of_le sA s2)).trans (HKA2.out j))
  have K13 := Lib.hid ((hN.2.1.cell (p := ⟨g1, o1, none⟩) l1).trans k1')
  have K23 := Lib.hid k2
  clear hN HF2 HKA2 HB2 k1' k2
  go_wp2_with fail
  refine (qwithin_any _ _ [(⟨0, 1, 0, 1, 3, 0, 0, 0, 0, 0, 0⟩ : Bun), (⟨0, 0, 0, 5, 0, 0, 0, 0, 1, 0, 0⟩ : Bun)] HF3.out ⟨_, rfl⟩ 0 0 1 0 9 9).mono ?_
  rintro e w4 ⟨v3, rfl, hN⟩
  rw [aw12_in] at hN
  obtain ⟨g3, o3, c3, rfl, l3, k3⟩ := rnew_first nidL_len hN
  have s4 := hN.2.1.size
  have HF4 := Lib.hid (HF3.out.grow hN.2.1)
  have HB4 := Lib.hid (HB3.out.trans (hN.2.1.mono HB3.out.size))
  have sA3 : w.heap.size < w3.heap.size := by omega
  have l13 : g1 < w3.heap.size := by omega
  have kA := fun j => (hN.2.1.cell (p := ⟨w.heap.size, j, none⟩) sA3).trans (HKA3.out j)
  have k1 := (hN.2.1.cell (p := ⟨g1, o1, none⟩) l13).trans K13.out
  have k2 := fun j u hu => (hN.2.1.cell (p := ⟨g2, o2 + j, none⟩) l2).trans (K23.out j u hu)
  have sA4 : w.heap.size < w4.heap.size := by omega
  have l14 : g1 < w4.heap.size := by omega
  have l24 : g2 < w4.heap.size := by omega
  have a0 := kA 0; simp at a0; have a1 := kA 1; simp at a1; have a2 := kA 2; simp at a2
  have m0 := k2 0 _ rfl; simp at m0; have m1 := k2 1 _ rfl; simp at m1; have m2 := k2 2 _ rfl; simp at m2
  have y0 := k3 0 _ rfl; simp at y0; have y1 := k3 1 _ rfl; simp at y1; have y2 := k3 2 _ rfl; simp at y2
  have HI := Lib.hid (fun W (hW : Below w4.heap.size w4 W) => ids_any W _ [(⟨0, 1, 0, 1, 3, 0, 0, 0, 0, 0, 0⟩ : Bun), (⟨0, 0, 0, 5, 0, 0, 0, 0, 1, 0, 0⟩ : Bun)] (HF4.out.grow hW) ⟨_, rfl⟩ 1 0)
  clear hN HF3 HKA3 HB3 kA k2 k3 K13 K23 HF4
  go_upto_region 6 with fail
  go_region_held3 (fun W => (w4).heap.size ≤ W.heap.size ∧ ∀ b o, b < (w4).heap.size → W.cell? ⟨b, o, none⟩ = (w4).cell? ⟨b, o, none⟩) (with_reducible (repeat (first | assumption | exact s_refl _ | exact s_id _ | refine s_more _ _ ?_ | refine s_alloc _ ?_ | refine s_drew ?_))) (first | (go_at_call 26; refine (HI.out _ (by repeat' (first | (with_reducible exact Below.refl _ _) | (with_reducible assumption) | (with_reducible refine below_drewN ?_ _) | (with_reducible refine below_more _ _ _ ?_ ?_) | (with_reducible refine Below.alloc ?_ ?_ _) | (with_reducible refine Below.drew ?_) | (with_reducible refine Below.setCell ?_ ?_ _) | go_size))).mono ?_; rintro e w' ⟨v', rfl, hN⟩; obtain ⟨p9, c9, rfl⟩ := sl_frm hN.1; rw [aw12_ids]; obtain ⟨d9, os9, rfl⟩ := more_of hN.2.1))
  all_goals
    go_wp2_with fail
    go_ret
  exact ⟨rfl, HB4.out.trans (Below.mono (B := w4.heap.size) (by repeat' (first | (with_reducible exact Below.refl _ _) | (with_reducible assumption) | (with_reducible refine below_drewN ?_ _) | (with_reducible refine below_more _ _ _ ?_ ?_) | (with_reducible refine Below.alloc ?_ ?_ _) | (with_reducible refine Below.drew ?_) | (with_reducible refine Below.setCell ?_ ?_ _) | go_size)) HB4.out.size)⟩
end Go.Proofs.Ytmkfjelpekkmmaa
namespace Go.Proofs.Ytmkfjelpekkmmaa
open Go.ChangeShapes Go.WideShapes Go.ChangeAt Go.RowKit

theorem cells_query : Try.prog.cellsOf 23 = 2 := by kernel_rfl
set_option maxRecDepth 100000 in
theorem read_query {H : Type} {enc : TypeId × Value → H} {w : World} {base : Nat} {spare : Nat → Bool} {held : Bool} {fuel : Nat} {c : List Value} {x : DataW H × List MemPlace} (h : DataW.trod enc Try.prog w base spare held fuel 23 c = some x) :
    ∃ z0 z1 : Int, c = [.int .i64 z0, .int .i64 z1] ∧ I64 z0 ∧ I64 z1 := by
  obtain ⟨xs, n, _, _, hc, hl, hf⟩ := DataW.trod_struct Try.underlying23 h
  rw [cells_query] at hc
  match c, hc with
  | [c0, c1], _ =>
    match xs, hl with
    | [x0, x1], _ =>
      have h0 := hf 0 _ rfl
      have h1 := hf 1 _ rfl
      simp [cells_int] at h0 h1
      obtain ⟨z0, e0, i0⟩ := read_int h0
      obtain ⟨z1, e1, i1⟩ := read_int h1
      simp at e0 e1
      subst e0 e1
      exact ⟨z0, z1, rfl, ⟨i0.1, i0.2⟩, ⟨i1.1, i1.2⟩⟩
theorem cells_rect12 : Try.prog.cellsOf 31 = 4 := by kernel_rfl
set_option maxRecDepth 100000 in
theorem read_rect12 {H : Type} {enc : TypeId × Value → H} {w : World} {base : Nat} {spare : Nat → Bool} {held : Bool} {fuel : Nat} {c : List Value} {x : DataW H × List MemPlace} (h : DataW.trod enc Try.prog w base spare held fuel 31 c = some x) :
    ∃ z0 z1 z2 z3 : Int, c = [.int .i64 z0, .int .i64 z1, .int .i64 z2, .int .i64 z3] ∧ I64 z0 ∧ I64 z1 ∧ I64 z2 ∧ I64 z3 := by
  obtain ⟨xs, n, _, _, hc, hl, hf⟩ := DataW.trod_struct Try.underlying31 h
  rw [cells_rect12] at hc
  match c, hc with
  | [c0, c1, c2, c3], _ =>
    match xs, hl with
    | [x0, x1, x2, x3], _ =>
      have h0 := hf 0 _ rfl
      have h1 := hf 1 _ rfl
      have h2 := hf 2 _ rfl
      have h3 := hf 3 _ rfl
      simp [cells_int] at h0 h1 h2 h3
      obtain ⟨z0, e0, i0⟩ := read_int h0
      obtain ⟨z1, e1, i1⟩ := read_int h1
      obtain ⟨z2, e2, i2⟩ := read_int h2
      obtain ⟨z3, e3, i3⟩ := read_int h3
      simp at e0 e1 e2 e3
      subst e0 e1 e2 e3
      exact ⟨z0, z1, z2, z3, rfl, ⟨i0.1, i0.2⟩, ⟨i1.1, i1.2⟩, ⟨i2.1, i2.2⟩, ⟨i3.1, i3.2⟩⟩
theorem cells_place : Try.prog.cellsOf 42 = 3 := by kernel_rfl
set_option maxRecDepth 100000 in
theorem read_place {H : Type} {enc : TypeId × Value → H} {w : World} {base : Nat} {spare : Nat → Bool} {held : Bool} {fuel : Nat} {c : List Value} {x : DataW H × List MemPlace} (h : DataW.trod enc Try.prog w base spare held fuel 42 c = some x) :
    ∃ z0 z1 z2 : Int, c = [.int .i64 z0, .int .i64 z1, .int .i64 z2] ∧ I64 z0 ∧ I64 z1 ∧ I64 z2 := by
  obtain ⟨xs, n, _, _, hc, hl, hf⟩ := DataW.trod_struct Try.underlying42 h
  rw [cells_place] at hc
  match c, hc with
  | [c0, c1, c2], _ =>
    match xs, hl with
    | [x0, x1, x2], _ =>
      have h0 := hf 0 _ rfl
      have h1 := hf 1 _ rfl
      have h2 := hf 2 _ rfl
      simp [cells_int] at h0 h1 h2
      obtain ⟨z0, e0, i0⟩ := read_int h0
      obtain ⟨z1, e1, i1⟩ := read_int h1
      obtain ⟨z2, e2, i2⟩ := read_int h2
      simp at e0 e1 e2
      subst e0 e1 e2
      exact ⟨z0, z1, z2, rfl, ⟨i0.1, i0.2⟩, ⟨i1.1, i1.2⟩, ⟨i2.1, i2.2⟩⟩
theorem check_i64 {b : Bun} (h : checkB b = true) : I64 b.m := by
  unfold checkB rightB at h
  simp only [Bool.and_eq_true] at h
  have h1 := h.1.1.1.1.1.1.1.1.1
  unfold inR at h1
  simp only [Bool.and_eq_true, decide_eq_true_eq] at h1
  unfold I64; omega
theorem made_i64 (l : List Bun) : ∀ b ∈ madeF l, I64 b.m := fun b hb => check_i64 ((good_made l).2 b hb)
theorem made_open (w : World) (v : Value) (l : List Bun) (h : BIn w v l) :
    Calls Try.prog 19 #[v] w fun e w' => ∃ p pp cc, e = .returned (.tuple #[.pointer (some ⟨p, 0, none⟩), .slice pp (madeF l).length cc]) ∧ FoundAt w' (.pointer (some ⟨p, 0, none⟩)) (madeF l) ∧ (∃ a, (stoO p (madeF l)).holds w' a) ∧ BIn w' (.slice pp (madeF l).length cc) (madeF l) ∧ Below w.heap.size w w' :=
  (smade_any w v l h).mono fun e w' h => by
    obtain ⟨p, v', rfl, hO⟩ := h
    have hs := hO.comm.assoc.sl.1
    have hb := hO.below
    obtain ⟨p9, c9, rfl⟩ := sl_frm hs
    obtain ⟨o9, ho9, _, _⟩ := hO.fst
    exact ⟨p, p9, c9, rfl, foundAt_sto ho9 (by have := made_len l; omega), ⟨o9, ho9⟩, BIn.of_sl hs, hb⟩
theorem sto_keep {w w' : World} {p : Nat} {L : List Bun} (h : ∃ a, (stoO p L).holds w a) (hb : Below w.heap.size w w') : ∃ a, (stoO p L).holds w' a := by
  obtain ⟨a, h⟩ := h
  exact ⟨a, (stoO p L).keep _ _ _ h fun b hb' => hb.block b ((stoO p L).lt _ _ h b hb')⟩
end Go.Proofs.Ytmkfjelpekkmmaa
