/-
  Chapter texts RnS QmH Eq PaA PaB: what the claim reaches of them. Conditions stand at each theorem.
-/
import Derived.Test.YtmkfjelpekkmmaaQ05
import Derived.Test.YtmkfjelpekkmmaaQ10
import Derived.Test.YtmkfjelpekkmmaaQ03
import Derived.Test.YtmkfjelpekkmmaaQ01
namespace Go.Proofs.Ytmkfjelpekkmmaa
open Go.RowKit
theorem cellsR_set {β : Type} (enc : β → List Value) (size : Nat) (hk : ∀ x, (enc x).length = size) : ∀ (l : List β) (k : Nat) (b : β) (t : Nat), k < l.length → (cellsR enc (l.set k b))[t]? = if k * size ≤ t ∧ t < k * size + size then (enc b)[t - k * size]? else (cellsR enc l)[t]?
  | [], k, b, t, h => by simp at h
  | c :: l, 0, b, t, h => by
    have e1 : cellsR enc (b :: l) = enc b ++ cellsR enc l := by simp [cellsR]
    have e2 : cellsR enc (c :: l) = enc c ++ cellsR enc l := by simp [cellsR]
    rw [List.set_cons_zero, e1, e2, Nat.zero_mul]
    by_cases ht : t < size
    · rw [if_pos (by omega), List.getElem?_append_left (by rw [hk]; exact ht)]; rfl
    · rw [if_neg (by omega), List.getElem?_append_right (by rw [hk]; omega), List.getElem?_append_right (by rw [hk]; omega), hk, hk]
  | c :: l, k + 1, b, t, h => by
    have e1 : cellsR enc (c :: l.set k b) = enc c ++ cellsR enc (l.set k b) := by simp [cellsR]
    have e2 : cellsR enc (c :: l) = enc c ++ cellsR enc l := by simp [cellsR]
    have e3 : (k + 1) * size = k * size + size := by rw [Nat.add_mul, Nat.one_mul]
    rw [List.set_cons_succ, e1, e2, e3]
    by_cases ht : t < size
    · rw [if_neg (by omega), List.getElem?_append_left (by rw [hk]; exact ht), List.getElem?_append_left (by rw [hk]; exact ht)]
    · have ih := cellsR_set enc size hk l k b (t - size) (by simpa using h)
      rw [List.getElem?_append_right (by rw [hk]; omega), List.getElem?_append_right (by rw [hk]; omega), hk, ih]
      generalize k * size = ks at *
      by_cases h1 : ks + size ≤ t ∧ t < ks + size + size
      · rw [if_pos h1, if_pos (by omega)]; congr 1; omega
      · rw [if_neg h1, if_neg (by omega)]
theorem RNew.store {β : Type} {enc : β → List Value} {T : TypeId} {size : Nat} (he : ∀ x, (enc x).length = size) (h1c : ∀ x, ∀ u ∈ enc x, u.oneCell' = true) {w0 w : World} {blk off n cap : Nat} {l : List β} (h : RNew enc T size w0 w (.slice (some ⟨blk, off, none⟩) n cap) l) {k : Nat} (hk : k < l.length) (b : β) :
    Sem.run Try.prog (storeCells ⟨blk, off + k * size, none⟩ (enc b) 0) w = .ok () (w.setCells blk (off + k * size) (enc b)) ∧ RNew enc T size w0 (w.setCells blk (off + k * size) (enc b)) (.slice (some ⟨blk, off, none⟩) n cap) (l.set k b) := by
  obtain ⟨⟨hlen, ⟨h0, _⟩ | ⟨g, off', cap', cur, hv, hb, hn, hc, hsz, hr⟩⟩, h2, h3⟩ := h
  · cases h0
  simp only [Value.slice.injEq, Option.some.injEq, Addr.mk.injEq, and_true] at hv
  obtain ⟨⟨rfl, rfl⟩, rfl, rfl⟩ := hv
  have hks : k * size + size ≤ l.length * size := by rw [show k * size + size = (k + 1) * size by rw [Nat.add_mul, Nat.one_mul]]; exact Nat.mul_le_mul_right _ hk
  have hle : off + k * size + (enc b).length ≤ cur.size := by
    have : l.length * size ≤ cap * size := Nat.mul_le_mul_right _ hn
    rw [he]; omega
  obtain ⟨cur', hg', hs', hlo, hin, hhi⟩ := setCells_heap blk T (0, 0) (enc b) (off + k * size) w cur hb hle
  have ht := setCells_turned blk (enc b) (off + k * size) w
  have hblk := h3 blk rfl
  refine ⟨?_, ⟨by rw [cellsR_len enc size he, List.length_set], .inr ⟨blk, off, cap, cur', by rw [List.length_set], hg', by rw [List.length_set]; exact hn, hc, by omega, fun j u hj => ?_⟩⟩, Turned.below_new ht (fun q hq => by cases hq; exact hblk) h2 h2.size, h3⟩
  · have := Go.run_storeCells_cells (P := Try.prog) blk (off + k * size) (enc b) 0 w (fun j hj => by
        have hj2 : off + k * size + j < cur.size := by omega
        simp [World.cell?, hb]; exact hj2) (fun j hj => by simp [World.frozen?, hb]) (h1c b)
    simpa using this
  · rw [cellsR_set enc size he l k b j hk] at hj
    split at hj
    · rename_i h1
      have := hin (j - k * size) u hj
      rwa [show off + k * size + (j - k * size) = off + j by omega] at this
    · rename_i h1
      by_cases h4 : j < k * size
      · rw [hlo _ (by omega)]; exact hr j u hj
      · rw [hhi _ (by rw [he]; omega)]; exact hr j u hj
end Go.Proofs.Ytmkfjelpekkmmaa
namespace Go.Proofs.Ytmkfjelpekkmmaa
open Go.RowKit

theorem Sl.store {β : Type} {enc : β → List Value} {T : TypeId} {size : Nat} (he : ∀ x, (enc x).length = size) (h1c : ∀ x, ∀ u ∈ enc x, u.oneCell' = true) {w : World} {blk off n cap : Nat} {l : List β} (hn : n = l.length) (h : Sl w T size (.slice (some ⟨blk, off, none⟩) n cap) n (cellsR enc l)) {k : Nat} (hk : k < l.length) (b : β) :
    Sl (w.setCells blk (off + k * size) (enc b)) T size (.slice (some ⟨blk, off, none⟩) n cap) n (cellsR enc (l.set k b)) := by
  have h0 : RNew enc T size { w with heap := #[] } w (.slice (some ⟨blk, off, none⟩) n cap) l := ⟨by rw [← hn]; exact h, ⟨rfl, rfl, rfl, Nat.zero_le _, fun k hk => by cases hk⟩, fun g _ => Nat.zero_le _⟩
  have h2 := (RNew.store he h1c h0 hk b).2.1
  rw [List.length_set, ← hn] at h2
  exact h2
theorem cells_take {β : Type} (enc : β → List Value) (size : Nat) (he : ∀ x, (enc x).length = size) : ∀ (l : List β) (k : Nat), cellsR enc (l.take k) = (cellsR enc l).take (k * size)
  | [], k => by simp [cellsR]
  | c :: l, 0 => by simp [cellsR]
  | c :: l, k + 1 => by
    have ih := cells_take enc size he l k
    simp only [cellsR, List.take_succ_cons, List.flatMap_cons] at *
    rw [ih, Nat.add_mul, Nat.one_mul, List.take_append, he, Nat.add_sub_cancel, List.take_of_length_le (show (enc c).length ≤ k * size + size by rw [he]; omega)]
theorem Sl.first {β : Type} {enc : β → List Value} {T : TypeId} {size : Nat} (he : ∀ x, (enc x).length = size) {w : World} {blk off n cap : Nat} {l : List β} (h : Sl w T size (.slice (some ⟨blk, off, none⟩) n cap) n (cellsR enc l)) {k : Nat} (hk : k ≤ n) :
    Sl w T size (.slice (some ⟨blk, off, none⟩) k cap) k (cellsR enc (l.take k)) := by
  obtain ⟨h1, ⟨h0, _⟩ | ⟨g, off', cap', cur, hv, hb, hn, hc, hsz, hr⟩⟩ := h
  · cases h0
  simp only [Value.slice.injEq, Option.some.injEq, Addr.mk.injEq, and_true, true_and] at hv
  obtain ⟨⟨rfl, rfl⟩, rfl⟩ := hv
  rw [cells_take enc size he]
  refine ⟨?_, .inr ⟨blk, off, cap, cur, rfl, hb, by omega, hc, hsz, fun j u hj => ?_⟩⟩
  · rw [List.length_take, h1]
    exact Nat.min_eq_left (Nat.mul_le_mul_right _ hk)
  · rw [List.getElem?_take] at hj
    split at hj
    · exact hr j u hj
    · cases hj
section
variable {w1 W W' : World} {A : Nat → Prop} {p mb : Nat} {o : Obj} {V : Nat → Value} {C : Nat → List Bun}
theorem StoG.set (h : StoG w1 A W p mb o V C) {j r g off cap : Nat} (hj : j < 256) {l : List Bun} (hC : C j = l) (hv : V j = .slice (some ⟨g, off, none⟩) l.length cap) (hr : r < l.length) (b : Bun) :
    StoG w1 A (W.setCells g (off + r * colS (j % 8)) (colL (j % 8) b)) p mb o V (updV C j (l.set r b)) := by
  subst hC
  have hs := h.at_.col j hj
  rw [hv] at hs
  refine h.turn hj (by rw [hv]; exact setCells_turned g _ _ _) ?_
  rw [hv, List.length_set]
  exact Sl.store (colL_len _) (colL_one _) rfl hs hr b
theorem StoG.first (h : StoG w1 A W p mb o V C) {j k g off cap : Nat} (hj : j < 256) {l : List Bun} (hC : C j = l) {n : Nat} (hn : l.length = n) (hv : V j = .slice (some ⟨g, off, none⟩) n cap) (hk : k ≤ n) :
    StoG w1 A (W.setCell ⟨p, j, none⟩ (.slice (some ⟨g, off, none⟩) k cap)) p mb o (updV V j (.slice (some ⟨g, off, none⟩) k cap)) (updV C j (l.take k)) := by
  subst hC
  subst hn
  have hs := h.at_.col j hj
  rw [hv] at hs
  refine h.put hj ⟨rfl, rfl, rfl, Nat.le_refl _, fun _ _ _ => rfl⟩ ?_ fun g' hg' => .inl (by rw [hv]; exact hg')
  rw [List.length_take, Nat.min_eq_left hk]
  exact Sl.first (colL_len _) hs hk
theorem StoG.drew (h : StoG w1 A W p mb o V C) : StoG w1 A W.drew p mb o V C := h.grow (Below.refl _ _).drew
end
end Go.Proofs.Ytmkfjelpekkmmaa
namespace Go.Proofs.Ytmkfjelpekkmmaa
open Go.RowKit

@[go_sem] theorem alloc_drewN (w : World) (n : Nat) (o : Obj) : (w.drewN n).alloc o = (w.alloc o).drewN n := rfl
@[go_sem] theorem setCell_drewN (w : World) (n : Nat) (a : Addr) (v : Value) : (w.drewN n).setCell a v = (w.setCell a v).drewN n := rfl

@[go_sem high] theorem run_eql_id (s i g s' i' g' : Int) (W : World) :
    (binOp .eql 48 (.agg #[.int .i64 s, .int .i64 i, .int .i64 g]) (.agg #[.int .i64 s', .int .i64 i', .int .i64 g'])).run Try.prog W = .ok (.bool (idEq s i g s' i' g')) W := by
  rw [run_eql_struct]
  by_cases h1 : s = s'
  · by_cases h2 : i = i'
    · by_cases h3 : g = g' <;> simp [go_sem, idEq, h1, h2, h3]
    · simp [go_sem, idEq, h1, h2]
  · simp [go_sem, idEq, h1]

@[go_sem high] theorem run_neq_id (s i g s' i' g' : Int) (W : World) :
    (binOp .neq 48 (.agg #[.int .i64 s, .int .i64 i, .int .i64 g]) (.agg #[.int .i64 s', .int .i64 i', .int .i64 g'])).run Try.prog W = .ok (.bool (!(idEq s i g s' i' g'))) W := by
  have h := run_eql_id s i g s' i' g' W
  rw [run_eql_struct] at h
  rw [run_neq_struct]
  generalize (Op.equalIn _ _ _ _).run Try.prog W = r at *
  cases r with
  | ok b w => simp only [Result.andThen_ok] at *; cases b <;> simp_all
  | halt x w => simp [Result.andThen] at h


set_option maxHeartbeats 1000000 in
@[go_sem high] theorem run_eql_bun (s i g m x y vx vy hp pw lf s' i' g' m' x' y' vx' vy' hp' pw' lf' : Int) (W : World) :
    (binOp .eql 51 (.agg #[.int .i64 s, .int .i64 i, .int .i64 g, .int .i64 m, .int .i64 x, .int .i64 y, .int .i64 vx, .int .i64 vy, .int .i64 hp, .int .i64 pw, .int .i64 lf]) (.agg #[.int .i64 s', .int .i64 i', .int .i64 g', .int .i64 m', .int .i64 x', .int .i64 y', .int .i64 vx', .int .i64 vy', .int .i64 hp', .int .i64 pw', .int .i64 lf'])).run Try.prog W = .ok (.bool (bunEq ⟨s, i, g, m, x, y, vx, vy, hp, pw, lf⟩ ⟨s', i', g', m', x', y', vx', vy', hp', pw', lf'⟩)) W := by
  rw [run_eql_struct]
  by_cases h0 : s = s'
  · by_cases h1 : i = i'
    · by_cases h2 : g = g'
      · by_cases h3 : m = m'
        · by_cases h4 : x = x'
          · by_cases h5 : y = y'
            · by_cases h6 : vx = vx'
              · by_cases h7 : vy = vy'
                · by_cases h8 : hp = hp'
                  · by_cases h9 : pw = pw'
                    · by_cases h10 : lf = lf'
                      · simp [go_sem, bunEq, h0, h1, h2, h3, h4, h5, h6, h7, h8, h9, h10]
                      · simp [go_sem, bunEq, h0, h1, h2, h3, h4, h5, h6, h7, h8, h9, h10]
                    · simp [go_sem, bunEq, h0, h1, h2, h3, h4, h5, h6, h7, h8, h9]
                  · simp [go_sem, bunEq, h0, h1, h2, h3, h4, h5, h6, h7, h8]
                · simp [go_sem, bunEq, h0, h1, h2, h3, h4, h5, h6, h7]
              · simp [go_sem, bunEq, h0, h1, h2, h3, h4, h5, h6]
            · simp [go_sem, bunEq, h0, h1, h2, h3, h4, h5]
          · simp [go_sem, bunEq, h0, h1, h2, h3, h4]
        · simp [go_sem, bunEq, h0, h1, h2, h3]
      · simp [go_sem, bunEq, h0, h1, h2]
    · simp [go_sem, bunEq, h0, h1]
  · simp [go_sem, bunEq, h0]

@[go_sem high] theorem run_neq_bun (s i g m x y vx vy hp pw lf s' i' g' m' x' y' vx' vy' hp' pw' lf' : Int) (W : World) :
    (binOp .neq 51 (.agg #[.int .i64 s, .int .i64 i, .int .i64 g, .int .i64 m, .int .i64 x, .int .i64 y, .int .i64 vx, .int .i64 vy, .int .i64 hp, .int .i64 pw, .int .i64 lf]) (.agg #[.int .i64 s', .int .i64 i', .int .i64 g', .int .i64 m', .int .i64 x', .int .i64 y', .int .i64 vx', .int .i64 vy', .int .i64 hp', .int .i64 pw', .int .i64 lf'])).run Try.prog W = .ok (.bool (!(bunEq ⟨s, i, g, m, x, y, vx, vy, hp, pw, lf⟩ ⟨s', i', g', m', x', y', vx', vy', hp', pw', lf'⟩))) W := by
  have h := run_eql_bun s i g m x y vx vy hp pw lf s' i' g' m' x' y' vx' vy' hp' pw' lf' W
  rw [run_eql_struct] at h
  rw [run_neq_struct]
  generalize (Op.equalIn _ _ _ _).run Try.prog W = r at *
  cases r with
  | ok b w => simp only [Result.andThen_ok] at *; cases b <;> simp_all
  | halt x w => simp [Result.andThen] at h

end Go.Proofs.Ytmkfjelpekkmmaa
namespace Go.Proofs.Ytmkfjelpekkmmaa
open Go.RowKit

theorem within_any (h : Bool) (n lo hi : Int) (w : World) :
    Calls Try.prog 79 #[.bool h, .int .i64 n, .int .i64 lo, .int .i64 hi] w fun e w' => e = .returned (.bool (withinB h n lo hi)) ∧ w = w' := by
  cases h
  · go_enter Try.func79, Try.ntmps79
    go_wp2
    go_ret
    exact ⟨rfl, rfl⟩
  · by_cases h1 : lo ≤ n
    · go_enter Try.func79, Try.ntmps79
      go_wp2
      go_ret
      exact ⟨by simp [withinB, inR]; omega, rfl⟩
    · go_enter Try.func79, Try.ntmps79
      go_wp2
      go_ret
      exact ⟨by simp [withinB, inR]; omega, rfl⟩

theorem has_any (s i g m x y vx vy hp pw lf k : Int) (w : World) :
    Calls Try.prog 67 #[.agg #[.int .i64 s, .int .i64 i, .int .i64 g, .int .i64 m, .int .i64 x, .int .i64 y, .int .i64 vx, .int .i64 vy, .int .i64 hp, .int .i64 pw, .int .i64 lf], .int .i64 k] w fun e w' => e = .returned (.bool (hasB m k)) ∧ Below w.heap.size w w' := by
  go_enter Try.func67, Try.ntmps67
  go_wp2
  go_ret
  exact ⟨rfl, (Below.refl _ _).alloc (Nat.le_refl _) _⟩

set_option maxHeartbeats 400000 in
theorem checkID_any (s i g : Int) (w : World) :
    Calls Try.prog 68 #[.agg #[.int .i64 s, .int .i64 i, .int .i64 g]] w fun e w' => e = .returned (.int .i64 (errB (idOk s i g))) ∧ Below w.heap.size w w' := by
  generalize hr : errB _ = r
  have HR := Lib.hid hr
  clear hr
  go_enter Try.func68, Try.ntmps68
  go_wp2_with (go_at_call 79; refine (within_any _ _ _ _ _).mono ?_; rintro e w' ⟨rfl, rfl⟩)
  all_goals go_ret
  all_goals refine ⟨?_, by go_grown⟩
  all_goals go_tidy
  all_goals (have h := HR.out; rw [← h]; simp_all [errB, idOk, withinB])


set_option maxHeartbeats 4000000 in
theorem right_any (s i g m x y vx vy hp pw lf : Int) (w : World) :
    Calls Try.prog 66 #[.agg #[.int .i64 s, .int .i64 i, .int .i64 g, .int .i64 m, .int .i64 x, .int .i64 y, .int .i64 vx, .int .i64 vy, .int .i64 hp, .int .i64 pw, .int .i64 lf]] w fun e w' => e = .returned (.bool (rightB ⟨s, i, g, m, x, y, vx, vy, hp, pw, lf⟩)) ∧ Below w.heap.size w w' := by
  generalize hr : rightB _ = r
  unfold rightB at hr
  have HR := Lib.hid hr
  clear hr
  by_cases hm : 0 ≤ m ∧ m ≤ 31
  · obtain ⟨hm0, hm1⟩ := hm
    go_enter Try.func66, Try.ntmps66
    go_wp2_with fail
    go_region_held3 (fun W => (Below w.heap.size w W ∧ w.heap.size ≤ W.heap.size ∧ w.heap.size < W.heap.size) ∧ ∀ j, W.cell? ⟨w.heap.size, j, none⟩ = (#[.int .i64 s, .int .i64 i, .int .i64 g, .int .i64 m, .int .i64 x, .int .i64 y, .int .i64 vx, .int .i64 vy, .int .i64 hp, .int .i64 pw, .int .i64 lf] : Array Value)[j]?) (first | exact box_new _ _ _ | exact box_keep hb (by assumption))
      (first | (go_at_call 67; refine (has_any _ _ _ _ _ _ _ _ _ _ _ _ _).mono ?_; rintro e w' ⟨rfl, hb⟩))
    go_wp2_with fail
    go_region_held3 (fun W => (Below w.heap.size w W ∧ w.heap.size ≤ W.heap.size ∧ w.heap.size < W.heap.size) ∧ ∀ j, W.cell? ⟨w.heap.size, j, none⟩ = (#[.int .i64 s, .int .i64 i, .int .i64 g, .int .i64 m, .int .i64 x, .int .i64 y, .int .i64 vx, .int .i64 vy, .int .i64 hp, .int .i64 pw, .int .i64 lf] : Array Value)[j]?) (first | exact box_keep hb (by assumption) | exact box_alloc _ (by assumption) | exact box_drew (by assumption))
      (first | (go_at_call 67; refine (has_any _ _ _ _ _ _ _ _ _ _ _ _ _).mono ?_; rintro e w' ⟨rfl, hb⟩))
    go_wp2_with fail
    rename_i hH
    obtain ⟨⟨hB, hsz, -⟩, -⟩ := hH
    simp only [World.size_alloc] at hsz
    refine wp_loop_rounds 8 ?_
    repeat any_goals (rw [rounds_succ]; go_wp2_with (go_at_call 79; refine (within_any _ _ _ _ _).mono ?_; rintro e w' ⟨rfl, rfl⟩))
    all_goals go_ret
    all_goals refine ⟨?_, by go_grown⟩
    all_goals clear hB hsz
    all_goals go_tidy
    all_goals (have h := HR.out; rw [← h]; simp only [Bool.not_eq_true', Bool.not_eq_false'] at *; simp [*, inR])
  · go_enter Try.func66, Try.ntmps66
    go_wp2_with fail
    all_goals go_ret
    all_goals refine ⟨?_, by go_grown⟩
    all_goals go_tidy
    all_goals (have h := HR.out; rw [← h]; simp [inR]; omega)

end Go.Proofs.Ytmkfjelpekkmmaa
namespace Go.Proofs.Ytmkfjelpekkmmaa
open Go.RowKit

set_option maxHeartbeats 1000000 in
theorem check_any (s i g m x y vx vy hp pw lf : Int) (w : World) :
    Calls Try.prog 55 #[.agg #[.int .i64 s, .int .i64 i, .int .i64 g, .int .i64 m, .int .i64 x, .int .i64 y, .int .i64 vx, .int .i64 vy, .int .i64 hp, .int .i64 pw, .int .i64 lf]] w fun e w' => e = .returned (.int .i64 (errB (checkB ⟨s, i, g, m, x, y, vx, vy, hp, pw, lf⟩))) ∧ Below w.heap.size w w' := by
  generalize hr : errB _ = r
  unfold checkB at hr
  have HR := Lib.hid hr
  clear hr
  go_enter Try.func55, Try.ntmps55
  go_wp2_with (first
    | (go_at_call 66; refine (right_any _ _ _ _ _ _ _ _ _ _ _ _).mono ?_; rintro e w1 ⟨rfl, hb⟩; obtain ⟨⟨hB1, hs1, hl1⟩, hc1⟩ := box_keep hb (box_new0 w _ _); clear hb)
    | (go_at_call 67; refine (has_any _ _ _ _ _ _ _ _ _ _ _ _ _).mono ?_; rintro e w2 ⟨rfl, hb⟩; obtain ⟨⟨hB2, hs2, hl2⟩, hc2⟩ := box_keep hb ⟨⟨hB1, hs1, hl1⟩, hc1⟩; clear hb hB1 hs1 hl1 hc1)
    | (go_at_call 68; refine (checkID_any _ _ _ _).mono ?_; rintro e w3 ⟨rfl, hb⟩; obtain ⟨⟨hB3, hs3, hl3⟩, hc3⟩ := box_keep hb ⟨⟨hB2, hs2, hl2⟩, hc2⟩; clear hb hB2 hs2 hl2 hc2))
  all_goals go_ret
  all_goals refine ⟨?_, by assumption⟩
  all_goals go_tidy
  all_goals (have h := HR.out; rw [← h]; simp_all [errB])

end Go.Proofs.Ytmkfjelpekkmmaa
