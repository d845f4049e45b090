/-
  Chapter texts SoK SoL: what the claim reaches of them. Conditions stand at each theorem.
-/
import Derived.Test.YtmkfjelpekkmmaaQ05
import Derived.Test.YtmkfjelpekkmmaaQ20
import Derived.Test.YtmkfjelpekkmmaaQ19
namespace Go.Proofs.Ytmkfjelpekkmmaa
open Go.RowKit Go.Sort
theorem BIn.cells {w : World} {v : Value} {l : List Bun} (h : BIn w v l) {k : Nat} {b : Bun} (hk : l[k]? = some b) : ∃ blk off cap, v = .slice (some ⟨blk, off, none⟩) l.length cap ∧ blk < w.heap.size ∧ ∀ j u, (bunL b)[j]? = some u → w.cell? ⟨blk, off + k * 11 + j, none⟩ = some u := by
  obtain ⟨p, cap, rfl, _, _, _, h4⟩ := h
  obtain ⟨blk, off, rfl, h5, h6⟩ := h4 (fun e => by subst e; cases hk)
  refine ⟨blk, off, cap, rfl, h5, fun j u hj => ?_⟩
  have hj' : j < 11 := by have := (List.getElem?_eq_some_iff.1 hj).1; rwa [bunL_len] at this
  have e := bunCells_get l k j b hk hj'
  rw [Nat.add_assoc]
  exact h6 _ u (e.trans hj)
theorem ld_of {w : World} {blk o : Nat} {b : Bun} (h : ∀ j u, (bunL b)[j]? = some u → w.cell? ⟨blk, o + j, none⟩ = some u) : (ldB ⟨blk, o, none⟩).run Try.prog w = .ok (.agg b.arr) w := by
  have := ldB_of (cs := bunL b) (Go.Proofs.run_loadCellsFrom_list Try.prog w ⟨blk, o, none⟩ (bunL b) 11 rfl (fun j v hj => by
    rw [show Addr.add ⟨blk, o, none⟩ j = ⟨blk, o + j, none⟩ from by unfold Addr.add; split <;> simp_all]
    exact h j v hj))
  exact this
theorem BNew.bin {w0 w : World} {v : Value} {l : List Bun} (h : BNew w0 w v l) : BIn w v l := BIn.of_sl h.1
theorem BNew.grow {w0 w w' : World} {v : Value} {l : List Bun} (h : BNew w0 w v l) (hb : Below w.heap.size w w') : BNew w0 w' v l :=
  ⟨h.1.keep fun g hg => hb.block g (sl_lt h.1 hg), h.2.1.trans (hb.mono h.2.1.size), h.2.2⟩
theorem BNew.nil (w : World) : BNew w w (.slice none 0 0) [] := ⟨⟨rfl, .inl ⟨rfl, rfl⟩⟩, Below.refl _ _, fun g hg => by cases hg⟩
theorem BNew.snoc {w0 w w1 : World} {v v' : Value} {l : List Bun} {b : Bun} (h : BNew w0 w v l) (hs : Sl w1 51 11 v' (l.length + 1) (bunCells l ++ bunL b)) (ht : Turned w w1 v.ownBlock)
    (ho : v'.ownBlock = v.ownBlock ∨ ∃ g, v'.ownBlock = some g ∧ w.heap.size ≤ g) : BNew w0 w1 v' (l ++ [b]) := by
  refine ⟨?_, h.2.1.trans ⟨ht.os, ht.tape, ht.output, ht.size, fun k hk => ht.block k (by have := h.2.1.size; omega) fun e => by have := h.2.2 k e.symm; omega⟩, fun q hq => ?_⟩
  · rw [bunCells_app, show bunCells [b] = bunL b by simp [bunCells]]; simpa using hs
  · rcases ho with e | ⟨g', e, hg'⟩
    · exact h.2.2 q (by rw [← e]; exact hq)
    · rw [e] at hq
      cases hq
      exact Nat.le_trans h.2.1.size hg'

theorem bunCells_set : ∀ (l : List Bun) (k : Nat) (b : Bun) (t : Nat), k < l.length → (bunCells (l.set k b))[t]? = if k * 11 ≤ t ∧ t < k * 11 + 11 then (bunL b)[t - k * 11]? else (bunCells l)[t]?
  | [], k, b, t, h => by simp at h
  | c :: l, 0, b, t, h => by
    have e1 : bunCells (b :: l) = bunL b ++ bunCells l := by simp [bunCells]
    have e2 : bunCells (c :: l) = bunL c ++ bunCells l := by simp [bunCells]
    rw [List.set_cons_zero, e1, e2]
    by_cases ht : t < 11
    · rw [if_pos (by omega), List.getElem?_append_left (by rw [bunL_len]; exact ht)]; rfl
    · rw [if_neg (by omega), List.getElem?_append_right (by rw [bunL_len]; omega), List.getElem?_append_right (by rw [bunL_len]; omega), bunL_len, bunL_len]
  | c :: l, k + 1, b, t, h => by
    have e1 : bunCells (c :: l.set k b) = bunL c ++ bunCells (l.set k b) := by simp [bunCells]
    have e2 : bunCells (c :: l) = bunL c ++ bunCells l := by simp [bunCells]
    rw [List.set_cons_succ, e1, e2]
    by_cases ht : t < 11
    · rw [if_neg (by omega), List.getElem?_append_left (by rw [bunL_len]; exact ht), List.getElem?_append_left (by rw [bunL_len]; exact ht)]
    · have ih := bunCells_set l k b (t - 11) (by simpa using h)
      rw [List.getElem?_append_right (by rw [bunL_len]; omega), List.getElem?_append_right (by rw [bunL_len]; omega), bunL_len, ih]
      by_cases h1 : (k + 1) * 11 ≤ t ∧ t < (k + 1) * 11 + 11
      · rw [if_pos h1, if_pos (by omega)]; congr 1; omega
      · rw [if_neg h1, if_neg (by omega)]

theorem BNew.store {w0 w : World} {blk off cap : Nat} {l : List Bun} (h : BNew w0 w (.slice (some ⟨blk, off, none⟩) l.length cap) l) {k : Nat} (hk : k < l.length) (b : Bun) :
    (stB ⟨blk, off + k * 11, none⟩ b.v).run Try.prog w = .ok () (w.setCells blk (off + k * 11) (bunL b)) ∧ BNew w0 (w.setCells blk (off + k * 11) (bunL b)) (.slice (some ⟨blk, off, none⟩) l.length cap) (l.set k b) := by
  obtain ⟨⟨hlen, ⟨h0, _⟩ | ⟨g, off', cap', cur, hv, hb, hn, hc, hsz, hr⟩⟩, h2, h3⟩ := h
  · cases h0
  simp only [Value.slice.injEq, Option.some.injEq, Addr.mk.injEq, and_true, true_and] at hv
  obtain ⟨⟨rfl, rfl⟩, rfl⟩ := hv
  have hle : off + k * 11 + (bunL b).length ≤ cur.size := by
    have : l.length * 11 ≤ cap * 11 := Nat.mul_le_mul_right _ hn
    rw [bunL_len]; omega
  obtain ⟨cur', hg', hs', hlo, hin, hhi⟩ := setCells_heap blk 51 (0, 0) (bunL b) (off + k * 11) w cur hb hle
  have ht := setCells_turned blk (bunL b) (off + k * 11) w
  have hblk := h3 blk rfl
  refine ⟨?_, ⟨by rw [bunCells_len, List.length_set], .inr ⟨blk, off, cap, cur', by rw [List.length_set], hg', by rw [List.length_set]; exact hn, hc, by omega, fun j u hj => ?_⟩⟩, Turned.below_new ht (fun q hq => by cases hq; exact hblk) h2 h2.size, h3⟩
  · have := stB_of (W := w) (W' := w.setCells blk (off + k * 11) (bunL b)) (a := ⟨blk, off + k * 11, none⟩) (cs := bunL b) rfl (by
      have := Go.run_storeCells_cells (P := Try.prog) blk (off + k * 11) (bunL b) 0 w (fun j hj => by
        have hj2 : off + k * 11 + j < cur.size := by rw [bunL_len] at hj hle; omega
        simp [World.cell?, hb]; exact hj2) (fun j hj => by simp [World.frozen?, hb]) (bunL_one b)
      simpa using this)
    exact this
  · rw [bunCells_set l k b j hk] at hj
    split at hj
    · rename_i h1
      have := hin (j - k * 11) u hj
      rwa [show off + k * 11 + (j - k * 11) = off + j by omega] at this
    · rename_i h1
      by_cases h4 : j < k * 11
      · rw [hlo _ (by omega)]; exact hr j u hj
      · rw [hhi _ (by rw [bunL_len]; omega)]; exact hr j u hj
end Go.Proofs.Ytmkfjelpekkmmaa
namespace Go.Proofs.Ytmkfjelpekkmmaa
open Go.Sort
def bef (x y : Bun) : Bool := beforeB x.s x.i x.g y.s y.i y.g
theorem bef_cmp (x y : Bun) : bef x y = decide (cmpBun x y < 0) := cmpId_before _ _ _ _ _ _

def rPos (x : Bun) (l : List Bun) : Nat → Nat
  | 0 => 0
  | k + 1 => if bef x (l.getD k default) then rPos x l k else k + 1
theorem rPos_le (x : Bun) (l : List Bun) : ∀ k, rPos x l k ≤ k
  | 0 => Nat.le_refl _
  | k + 1 => by
    have := rPos_le x l k
    unfold rPos
    split <;> omega
theorem rPos_lo (x : Bun) (l : List Bun) : ∀ k, rPos x l k = 0 ∨ bef x (l.getD (rPos x l k - 1) default) = false
  | 0 => .inl rfl
  | k + 1 => by
    unfold rPos
    split
    · exact rPos_lo x l k
    · rename_i h
      right
      rw [Nat.add_sub_cancel]
      simpa using h
theorem rPos_hi (x : Bun) (l : List Bun) : ∀ k t, rPos x l k ≤ t → t < k → bef x (l.getD t default) = true
  | 0, t, _, h => absurd h (Nat.not_lt_zero _)
  | k + 1, t, h1, h2 => by
    unfold rPos at h1
    split at h1
    · rename_i hb
      by_cases ht : t = k
      · subst ht; exact hb
      · exact rPos_hi x l k t h1 (by omega)
    · omega
def rIns (x : Bun) (l : List Bun) : List Bun := l.take (rPos x l l.length) ++ x :: l.drop (rPos x l l.length)
def rSort (l : List Bun) : List Bun := l.foldl (fun out x => rIns x out) []
theorem rSort_snoc (l : List Bun) (x : Bun) : rSort (l ++ [x]) = rIns x (rSort l) := by simp [rSort]
theorem rIns_tag {n : Nat} (x : Bun) (T : List (Bun × Nat)) (hp : T.Pairwise fun a b => ltT cmpBun a b = true) (ht : ∀ y ∈ T, y.2 < n) :
    ∃ T' : List (Bun × Nat), T'.map (fun y => y.1) = rIns x (T.map fun y => y.1) ∧ T'.Perm ((x, n) :: T) ∧ T'.Pairwise fun a b => ltT cmpBun a b = true := by
  have hS := ltT_swo cmpBun_ok
  generalize hk : rPos x (T.map fun y => y.1) (T.map fun y => y.1).length = k
  have h1 := rPos_le x (T.map fun y => y.1) (T.map fun y => y.1).length
  have h2 := rPos_lo x (T.map fun y => y.1) (T.map fun y => y.1).length
  have h3 := rPos_hi x (T.map fun y => y.1) (T.map fun y => y.1).length
  rw [hk] at h1 h2 h3
  simp only [List.length_map] at h1 h3
  refine ⟨T.take k ++ (x, n) :: T.drop k, ?_, ?_, ?_⟩
  · unfold rIns
    rw [hk]
    simp [List.map_take, List.map_drop]
  · refine List.perm_middle.trans ?_
    rw [List.take_append_drop]
  · have hlo : ∀ y ∈ T.take k, ltT cmpBun y (x, n) = true := by
      intro y hy
      rcases h2 with h2 | h2
      · subst h2; simp at hy
      · by_cases hk0 : k = 0
        · subst hk0; simp at hy
        obtain ⟨j, hj, e⟩ := List.getElem_of_mem hy
        have hj' : j < k := by simp at hj; omega
        have hkl : k - 1 < T.length := by omega
        have e2 : (T.map fun y => y.1).getD (k - 1) default = T[k - 1].1 := by simp [List.getD, hkl]
        rw [e2, bef_cmp] at h2
        have hl : ltT cmpBun T[k - 1] (x, n) = true := by
          rw [(ltT_total cmpBun_ok (x := T[k - 1]) (y := (x, n)) (ht _ (List.getElem_mem hkl))).2, h2]; rfl
        have e3 : y = T[j] := by rw [← e]; simp
        rw [e3]
        by_cases hjk : j = k - 1
        · subst hjk; exact hl
        · exact hS.trans _ _ _ (List.pairwise_iff_getElem.1 hp j (k - 1) (by omega) hkl (by omega)) hl
    have hhi : ∀ y ∈ T.drop k, ltT cmpBun (x, n) y = true := by
      intro y hy
      obtain ⟨j, hj, e⟩ := List.getElem_of_mem hy
      have hj' : k + j < T.length := by simp at hj; omega
      have h4 := h3 (k + j) (by omega) hj'
      have e2 : (T.map fun y => y.1).getD (k + j) default = T[k + j].1 := by simp [List.getD, hj']
      rw [e2, bef_cmp] at h4
      have e3 : y = T[k + j] := by rw [← e]; simp
      rw [e3, (ltT_total cmpBun_ok (x := T[k + j]) (y := (x, n)) (ht _ (List.getElem_mem hj'))).1, h4]
    rw [List.pairwise_append]
    refine ⟨hp.sublist (List.take_sublist _ _), List.pairwise_cons.2 ⟨hhi, hp.sublist (List.drop_sublist _ _)⟩, fun y hy z hz => ?_⟩
    rcases List.mem_cons.1 hz with rfl | hz
    · exact hlo y hy
    · exact hS.trans _ _ _ (hlo y hy) (hhi z hz)

theorem rSort_tag (l : List Bun) : ∀ n, n ≤ l.length → ∃ T : List (Bun × Nat), T.map (fun y => y.1) = rSort (l.take n) ∧ T.Perm (l.take n).zipIdx ∧ T.Pairwise fun a b => ltT cmpBun a b = true
  | 0, _ => ⟨[], rfl, by simp, List.Pairwise.nil⟩
  | n + 1, h => by
    obtain ⟨T, h1, h2, h3⟩ := rSort_tag l n (by omega)
    have e : l.take (n + 1) = l.take n ++ [l[n]] := by rw [List.take_succ_eq_append_getElem (by omega)]
    obtain ⟨T', g1, g2, g3⟩ := rIns_tag (n := n) l[n] T h3 (fun y hy => by
      have := h2.mem_iff.1 hy
      have := List.mem_zipIdx this
      simp at this
      omega)
    refine ⟨T', by rw [g1, h1, e, rSort_snoc], ?_, g3⟩
    rw [e, List.zipIdx_append]
    refine g2.trans ((List.Perm.cons _ h2).trans ?_)
    have : (l.take n).length = n := by simp; omega
    simp [this]
    exact List.perm_append_comm (l₁ := [_])

theorem rSort_stable (l : List Bun) : rSort l = stableF cmpBun l := by
  obtain ⟨T, h1, h2, h3⟩ := rSort_tag l l.length (Nat.le_refl _)
  rw [List.take_length] at h1 h2
  have hl : T.length = l.length := by rw [h2.length_eq]; simp
  rw [← h1, ← stable_of cmpBun_ok (d := T.toArray) ?_ ?_]
  · refine ⟨by rw [size_tagd]; simpa using hl, fun i hi => ?_, ?_⟩
    · have h0 : l.length ≤ i := by omega
      rw [getElem!_neg _ _ (by simp; omega), getElem!_neg _ _ (by rw [size_tagd]; omega)]
    · have e1 : T.toArray.extract 0 l.length = T.toArray := by rw [← hl, ← List.size_toArray]; exact Array.extract_size
      have e2 : (tagd l).extract 0 l.length = tagd l := by
        have h := Array.extract_size (xs := tagd l)
        rwa [size_tagd] at h
      rw [e1, e2]
      simpa [tagd] using h2
  · intro i j _ hij hj
    rw [getElem!_pos _ i (by simp; omega), getElem!_pos _ j (by simp; omega)]
    simpa using List.pairwise_iff_getElem.1 h3 i j (by omega) (by omega) hij

theorem cmpId_zero (s i g s' i' g' : Int) : cmpId s i g s' i' g' = 0 ↔ s = s' ∧ i = i' ∧ g = g' := by
  unfold cmpId
  have h1 := cmpI_spec s s'; have h2 := cmpI_spec i i'; have h3 := cmpI_spec g g'
  repeat' split
  all_goals omega
end Go.Proofs.Ytmkfjelpekkmmaa
