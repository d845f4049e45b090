/-
  Chapter texts SoJ: what the claim reaches of them. Conditions stand at each theorem.
-/
import Derived.Test.YtmkfjelpekkmmaaQ19
import Derived.Test.YtmkfjelpekkmmaaQ05
namespace Go.Proofs.Ytmkfjelpekkmmaa
open Go.RowKit Go.Sort

def bunCells (l : List Bun) : List Value := l.flatMap bunL
theorem bunCells_len : ∀ l : List Bun, (bunCells l).length = l.length * 11
  | [] => rfl
  | b :: l => by
    have h := bunCells_len l
    simp only [bunCells, List.flatMap_cons, List.length_append, bunL_len, List.length_cons] at *
    omega
theorem bunCells_app (l l' : List Bun) : bunCells (l ++ l') = bunCells l ++ bunCells l' := by simp [bunCells]
theorem bunCells_get : ∀ (l : List Bun) (k j : Nat) (b : Bun), l[k]? = some b → j < 11 → (bunCells l)[k * 11 + j]? = (bunL b)[j]?
  | c :: l, 0, j, b, h, hj => by
    obtain rfl : c = b := by simpa using h
    simp only [bunCells, List.flatMap_cons, Nat.zero_mul, Nat.zero_add]
    rw [List.getElem?_append_left (by rw [bunL_len]; exact hj)]
  | c :: l, k + 1, j, b, h, hj => by
    have ih := bunCells_get l k j b (by simpa using h) hj
    simp only [bunCells, List.flatMap_cons] at *
    rw [List.getElem?_append_right (by rw [bunL_len]; omega), bunL_len, show (k + 1) * 11 + j - 11 = k * 11 + j by omega, ih]
theorem bunCells_one (l : List Bun) : ∀ u ∈ bunCells l, u.oneCell' = true := fun u hu => by
  obtain ⟨b, _, hb⟩ := List.mem_flatMap.1 hu
  exact bunL_one b u hb

def BIn (w : World) (v : Value) (l : List Bun) : Prop :=
  ∃ p cap, v = .slice p l.length cap ∧ l.length ≤ maxLen ∧ (p = none → cap = 0) ∧ l.length ≤ cap ∧ (l ≠ [] → ∃ blk off, p = some ⟨blk, off, none⟩ ∧ blk < w.heap.size ∧ ∀ t u, (bunCells l)[t]? = some u → w.cell? ⟨blk, off + t, none⟩ = some u)

theorem BIn.of_sl {w : World} {v : Value} {l : List Bun} (h : Sl w 51 11 v l.length (bunCells l)) : BIn w v l := by
  obtain ⟨_, ⟨rfl, h0⟩ | ⟨g, off, cap, cur, rfl, hb, hn, hc, hsz, hr⟩⟩ := h
  · obtain rfl := List.eq_nil_of_length_eq_zero h0
    exact ⟨none, 0, rfl, by simp [maxLen], fun _ => rfl, Nat.le_refl _, fun h => absurd rfl h⟩
  · exact ⟨_, cap, rfl, by omega, (fun h => by cases h), hn, fun _ => ⟨g, off, rfl, (Array.getElem?_eq_some_iff.1 hb).1, fun t u hu => by simp [World.cell?, hb, hr t u hu]⟩⟩
theorem BIn.keep {w w' : World} {v : Value} {l : List Bun} (h : BIn w v l) (hb : Below w.heap.size w w') : BIn w' v l := by
  obtain ⟨p, cap, rfl, h1, h2, h3, h4⟩ := h
  refine ⟨p, cap, rfl, h1, h2, h3, fun hn => ?_⟩
  obtain ⟨blk, off, rfl, h5, h6⟩ := h4 hn
  exact ⟨blk, off, rfl, Nat.lt_of_lt_of_le h5 hb.size, fun t u hu => (hb.cell (p := ⟨blk, off + t, none⟩) h5).trans (h6 t u hu)⟩

theorem run_append_zero {P : Program} {w : World} (t ty e : TypeId) (i : TypeInfo) (ht : P.underlying t = some (.slice e)) (hi : P.info? e = some i) (p q : Option Addr) (n cap c : Nat) (hn : n ≤ cap) :
    (Builtin.append_ #[t, t] ty #[.slice p n cap, .slice q 0 c]).run P w = .ok (.slice p n cap) w := by
  cases p <;> cases q <;> simp [Builtin.append_, run_underlying ht, sizeOf, typeInfo, hi, Builtin.lenOf, Builtin.firstCells, hn, storeCells, loadCells, loadCellsFrom]

theorem wpList_append_zero {P : Program} {w : World} {ops : Array Oper} {rest : List Oper} {o : Oper} {a : Act} {Q : Exit → Act → World → Prop} (hgd : o.guard = none) (s x : Operand) (t : TypeId)
    (ho : o.op = .call { callee := .builtin .append, args := #[s, x], argTypes := #[t, t] })
    (e : TypeId) (i : TypeInfo) (ht : P.underlying t = some (.slice e)) (hi : P.info? e = some i) (p q : Option Addr) (n cap c : Nat) (hs : a.eval s = .slice p n cap) (hx : a.eval x = .slice q 0 c) (hn : n ≤ cap)
    (h : wpList P ops Q rest (a.put o.dst (.slice p n cap)) w) : wpList P ops Q (o :: rest) a w := by
  refine wpList_plain hgd fun K hK => ?_
  have hrun := run_append_zero (P := P) (w := w) t o.type e i ht hi p q n cap c hn
  unfold Oper.wp
  simp [execOp, ho, resolve, invoke, builtin, hs, hx, hrun, Result.andThen]
  exact hK _ _ h

def BNew (w w' : World) (v : Value) (l : List Bun) : Prop := Sl w' 51 11 v l.length (bunCells l) ∧ Below w.heap.size w w' ∧ ∀ g, v.ownBlock = some g → w.heap.size ≤ g

theorem info_bunJ : (Try.prog.info? 51).map (fun i => (i.zero, i.size, i.bytes)) = some (some (.agg #[.int .i64 0, .int .i64 0, .int .i64 0, .int .i64 0, .int .i64 0, .int .i64 0, .int .i64 0, .int .i64 0, .int .i64 0, .int .i64 0, .int .i64 0]), 11, 88) := by kernel_rfl

theorem bnew_of {w w1 : World} {l : List Bun} {v v' : Value} (o : Obj) (hv : v.ownBlock = some w.heap.size) (hs : Sl w1 51 11 v' (0 + l.length) ([] ++ bunCells l)) (ht : Turned (w.alloc o) w1 v.ownBlock)
    (ho : v'.ownBlock = v.ownBlock ∨ ∃ g, v'.ownBlock = some g ∧ (w.alloc o).heap.size ≤ g) : BNew w w1 v' l := by
  rw [Nat.zero_add, List.nil_append] at hs
  have hsz := ht.size
  rw [World.size_alloc] at hsz
  refine ⟨hs, ((Below.refl w.heap.size w).alloc (Nat.le_refl _) o).trans ⟨ht.os, ht.tape, ht.output, ht.size, fun k hk => ht.block k (by rw [World.size_alloc]; omega) (fun e => by rw [hv] at e; simp at e; omega)⟩, fun g hg => ?_⟩
  rcases ho with e | ⟨g', e, hg'⟩
  · rw [e, hv] at hg; simp at hg; omega
  · rw [e] at hg; simp at hg; rw [World.size_alloc] at hg'; omega

theorem sl_empty (W : World) : Sl (W.alloc (.cells #[] 51)) 51 11 (.slice (some ⟨W.heap.size, 0, none⟩) 0 0) 0 [] := ⟨rfl, .inr ⟨W.heap.size, 0, 0, #[], rfl, heap_alloc_new W _, Nat.le_refl _, by simp [maxLen], by simp, fun j u hj => by cases hj⟩⟩

set_option maxRecDepth 100000 in
theorem clone_bin (v : Value) (l : List Bun) (w : World) (h : BIn w v l) (hl : l.length ≤ 1000000) :
    Calls Try.prog 72 #[v] w fun e w' => ∃ v', e = .returned v' ∧ BNew w w' v' l := by
  obtain ⟨i0, hi0, hz0, hz1, hz2⟩ := info_parts info_bunJ
  obtain ⟨p, cap, rfl, h1, h2, h3, h4⟩ := h
  have HS := Lib.hid sl_empty
  by_cases hn : l = []
  · subst hn
    clear h4 h1
    cases p with
    | none =>
      obtain rfl := h2 rfl
      clear h2 h3
      have hnil := fun W : World => Lib.run_eql_slice_nil (P := Try.prog) W 29 51 none 0 0 0 0 Try.underlying29
      go_enter Try.func72, Try.ntmps72
      go_wp2_with fail
      go_ret
      exact ⟨_, rfl, ⟨rfl, .inl ⟨rfl, rfl⟩⟩, (by repeat' (first | (with_reducible exact Below.refl _ _) | (with_reducible assumption) | (with_reducible refine below_drewN ?_ _) | (with_reducible refine below_more _ _ _ ?_ ?_) | (with_reducible refine Below.alloc ?_ ?_ _) | (with_reducible refine Below.drew ?_) | (with_reducible refine Below.setCell ?_ ?_ _) | go_size)), fun g hg => by cases hg⟩
    | some a =>
      clear h2
      have hnil := fun W : World => Lib.run_eql_slice_nil (P := Try.prog) W 29 51 (some a) 0 cap 0 0 Try.underlying29
      go_enter Try.func72, Try.ntmps72
      go_wp2_with (at_builtin; refine wpList_append_zero (by rfl) _ _ 29 (by rfl) 51 i0 Try.underlying29 hi0 _ _ 0 0 _ (by rfl) (by rfl) (Nat.le_refl _) ?_)
      go_ret
      exact ⟨_, rfl, HS.out w, (by repeat' (first | (with_reducible exact Below.refl _ _) | (with_reducible assumption) | (with_reducible refine below_drewN ?_ _) | (with_reducible refine below_more _ _ _ ?_ ?_) | (with_reducible refine Below.alloc ?_ ?_ _) | (with_reducible refine Below.drew ?_) | (with_reducible refine Below.setCell ?_ ?_ _) | go_size)), fun g hg => by simp [Value.ownBlock] at hg; omega⟩
  · obtain ⟨blk, off, rfl, h5, h6⟩ := h4 hn
    have hn0 : 0 < l.length := List.length_pos_iff.2 hn
    have hcw : ∀ j u, (bunCells l)[j]? = some u → (w.alloc (.cells #[] 51)).cell? (Addr.add ⟨blk, off, none⟩ j) = some u := fun j u hj => by
      have h := h6 j u hj
      rw [show Addr.add ⟨blk, off, none⟩ j = ⟨blk, off + j, none⟩ from by unfold Addr.add; split <;> simp_all]
      exact cell_keep ((Below.refl _ _).alloc (Nat.le_refl _) _) h
    have HW := Lib.hid hcw
    have H1 := Lib.hid (bunCells_one l)
    have HX := Lib.hid (bunCells_len l)
    clear hcw h4 h6 h2 hn h1
    have hnil := fun W : World => Lib.run_eql_slice_nil (P := Try.prog) W 29 51 (some ⟨blk, off, none⟩) l.length cap 0 0 Try.underlying29
    go_enter Try.func72, Try.ntmps72
    go_wp2_with (at_builtin; refine wpList_append_sl _ (by rfl) _ _ 29 (by rfl) 51 i0 _ 11 88 Try.underlying29 hi0 hz0 hz1 hz2 rfl (by omega) _ 0 [] (by rfl) (HS.out _) ⟨blk, off, none⟩ l.length cap (bunCells l) (by rfl) HX.out HW.out H1.out hn0 (by unfold maxLen; omega) (by omega) ?_; intro v' w1 hs1 ht ho)
    go_ret
    exact ⟨_, rfl, bnew_of _ rfl hs1 ht ho⟩

theorem holds_of_sl {w : World} {l : List Bun} {blk off cap : Nat} (h : Sl w 51 11 (.slice (some ⟨blk, off, none⟩) l.length cap) l.length (bunCells l)) : blk < w.heap.size ∧ HoldsK (fun x : Bun × Nat => bunL x.1) 11 w blk off (tagd l) := by
  obtain ⟨_, ⟨h0, _⟩ | ⟨g, off', cap', cur, hv, hb, hn, hc, hsz, hr⟩⟩ := h
  · cases h0
  · simp only [Value.slice.injEq, Option.some.injEq, Addr.mk.injEq, and_true, true_and] at hv
    obtain ⟨⟨rfl, rfl⟩, rfl⟩ := hv
    refine ⟨(Array.getElem?_eq_some_iff.1 hb).1, fun t ht => ?_⟩
    rw [size_flatK, size_tagd] at ht
    rw [get_flatK _ _ _ _ (by rw [size_tagd]; exact ht), tagd_get l (by omega)]
    have hk : t / 11 < l.length := by omega
    have e1 := bunCells_get l (t / 11) (t % 11) l[t / 11] (List.getElem?_eq_getElem hk) (Nat.mod_lt _ (by omega))
    rw [show t / 11 * 11 + t % 11 = t by omega] at e1
    have e2 : (bunL l[t / 11])[t % 11]? = some ((bunL l[t / 11])[t % 11]!) := by
      rw [List.getElem!_eq_getElem?_getD]
      have : t % 11 < (bunL l[t / 11]).length := by rw [bunL_len]; exact Nat.mod_lt _ (by omega)
      rw [List.getElem?_eq_getElem this]; rfl
    have h3 := hr t _ (e1.trans e2)
    refine ⟨?_, by simp [World.frozen?, hb]⟩
    show w.cell? ⟨blk, off + t, none⟩ = some ((bunL l[t / 11])[t % 11]!)
    simp [World.cell?, hb, h3]

theorem sl_of_sorted {w w' : World} {l : List Bun} {blk off cap : Nat} {d' : Array (Bun × Nat)} (h : Sl w 51 11 (.slice (some ⟨blk, off, none⟩) l.length cap) l.length (bunCells l)) (hd : d'.size = l.length)
    (hw : SWK (fun x : Bun × Nat => bunL x.1) 11 w blk off d' w') : Sl w' 51 11 (.slice (some ⟨blk, off, none⟩) l.length cap) l.length (bunCells (d'.toList.map fun x => x.1)) ∧ Turned w w' (some blk) := by
  obtain ⟨_, hH⟩ := holds_of_sl h
  obtain ⟨_, ⟨h0, _⟩ | ⟨g, off', cap', cur, hv, hb, hn, hc, hsz, hr⟩⟩ := h
  · cases h0
  · simp only [Value.slice.injEq, Option.some.injEq, Addr.mk.injEq, and_true, true_and] at hv
    obtain ⟨⟨rfl, rfl⟩, rfl⟩ := hv
    have hlt := (Array.getElem?_eq_some_iff.1 hb).1
    obtain ⟨n, os, rfl⟩ := hw
    have hheap : (sortWorldK (fun x : Bun × Nat => bunL x.1) 11 w blk off n d' os).heap[blk]? = some (.cells (putCells id off (flatK (fun x : Bun × Nat => bunL x.1) 11 d') cur) 51 (0, 0)) := by
      unfold sortWorldK putRowK
      simp only [grow]
      rw [Array.getElem?_append_left (by simp [putRow, mapBlock, Sort.ahead]; exact hlt)]
      simp [putRow, mapBlock, Sort.ahead, Array.getElem?_modify, hb, onCells]
    have hF : ∀ j, j < l.length * 11 → (flatK (fun x : Bun × Nat => bunL x.1) 11 d')[j]! = (bunL (d'[j / 11]!).1)[j % 11]! := fun j hj => get_flatK _ _ _ _ (by rw [hd]; exact hj)
    have hlen : (d'.toList.map fun x => x.1).length = l.length := by simp [hd]
    refine ⟨⟨by rw [bunCells_len, hlen], .inr ⟨blk, off, cap, _, rfl, hheap, hn, hc, by simp [putCells]; omega, fun j u hj => ?_⟩⟩, ?_⟩
    · have hj' : j < l.length * 11 := by
        have := (List.getElem?_eq_some_iff.1 hj).1; rw [bunCells_len, hlen] at this; exact this
      have hk : j / 11 < d'.size := by omega
      have e1 := bunCells_get (d'.toList.map fun x => x.1) (j / 11) (j % 11) (d'[j / 11]!).1 (by
        rw [List.getElem?_map, List.getElem?_eq_getElem (by simpa using hk), getElem!_pos d' _ hk]; simp) (Nat.mod_lt _ (by omega))
      rw [show j / 11 * 11 + j % 11 = j by omega] at e1
      rw [e1] at hj
      have hcj : (cur[off + j]?).isSome = true := by
        have : l.length * 11 ≤ cap * 11 := Nat.mul_le_mul_right _ hn
        rw [Array.getElem?_eq_getElem (by omega)]; rfl
      obtain ⟨y, hy⟩ := Option.isSome_iff_exists.1 hcj
      simp only [putCells, Array.getElem?_mapIdx, hy, Option.map_some]
      rw [if_pos ⟨by omega, by rw [size_flatK, hd]; omega⟩, show off + j - off = j by omega]
      show some ((flatK (fun x : Bun × Nat => bunL x.1) 11 d')[j]!) = some u
      rw [hF j hj', List.getElem!_eq_getElem?_getD, hj]; rfl
    · unfold sortWorldK putRowK
      refine ⟨rfl, rfl, rfl, ?_, fun k hk hne => ?_⟩
      · simp [grow, Sort.ahead]
      · have hgk : blk ≠ k := fun e => hne (by rw [e])
        show ((putRow id (Sort.ahead w n) blk off (flatK (fun x : Bun × Nat => bunL x.1) 11 d')).heap ++ os)[k]? = _
        rw [Array.getElem?_append_left (by simpa [Sort.ahead] using hk)]
        simp [putRow, mapBlock, Array.getElem?_modify, Sort.ahead, hgk]

theorem stableF_len (l : List Bun) : (stableF cmpBun l).length = l.length := by simp [stableF]

theorem ssf_nil (f : Value) (p : Option Addr) (cap : Nat) (w : World) : Calls Try.prog 46 #[.slice p 0 cap, f] w fun e w' => e = .returned (.tuple #[]) ∧ w = w' := by
  have hi : Calls Try.prog 77 #[.slice p 0 cap, .int .i64 0, .int .i64 0, f] w fun e w' => e = .returned (.tuple #[]) ∧ w = w' := by
    go_enter Try.func77, Try.ntmps77
    go_wp2_with fail
    refine wp_loop_rounds 1 ?_
    rw [rounds_succ]
    go_wp2
    go_returns
    exact ⟨rfl, rfl⟩
  have hc : Calls Try.prog 63 #[.slice p 0 cap, .int .i64 0, f] w fun e w' => e = .returned (.tuple #[]) ∧ w = w' := by
    go_enter Try.func63, Try.ntmps63
    go_wp2_with fail
    refine wp_loop_rounds 1 ?_
    rw [rounds_succ]
    go_wp2_with (go_at_call 77; refine hi.mono ?_; rintro e w' ⟨rfl, rfl⟩)
    refine wp_loop_rounds 1 ?_
    rw [rounds_succ]
    go_wp2
    go_returns
    exact ⟨rfl, rfl⟩
  go_enter Try.func46, Try.ntmps46
  go_wp2_with (go_at_call 63; refine hc.mono ?_; rintro e w' ⟨rfl, rfl⟩)
  go_returns
  exact ⟨rfl, rfl⟩

set_option maxRecDepth 100000 in
theorem sorted_any (v : Value) (l : List Bun) (w : World) (h : BIn w v l) (hl : l.length ≤ 1000000) :
    Calls Try.prog 60 #[v] w fun e w' => ∃ v', e = .returned v' ∧ BNew w w' v' (stableF cmpBun l) := by
  have HC := Lib.hid (clone_bin v l w h hl)
  clear h
  go_enter Try.func60, Try.ntmps60
  go_wp2_with fail
  refine HC.out.mono ?_
  rintro e w1 ⟨v1, rfl, hs, hb, hg⟩
  have HS := Lib.hid hs
  have HB := Lib.hid hb
  have HG := Lib.hid hg
  by_cases h0 : l = []
  · subst h0
    obtain ⟨p, cap, rfl⟩ : ∃ p cap, v1 = .slice p 0 cap := by
      obtain ⟨_, ⟨rfl, _⟩ | ⟨g, off, cap, cur, rfl, _⟩⟩ := hs
      · exact ⟨none, 0, rfl⟩
      · exact ⟨_, cap, rfl⟩
    clear hs hb hg
    go_wp2_with (go_at_call 46; refine (ssf_nil _ _ _ _).mono ?_; rintro e w' ⟨rfl, rfl⟩)
    go_ret
    have e0 : stableF cmpBun [] = [] := by simp [stableF]
    exact ⟨.slice p 0 cap, rfl, by rw [e0]; exact HS.out, HB.out, HG.out⟩
  · obtain ⟨blk, off, cap, rfl⟩ : ∃ blk off cap, v1 = .slice (some ⟨blk, off, none⟩) l.length cap := by
      obtain ⟨_, ⟨rfl, h1⟩ | ⟨g, off, cap, cur, rfl, _⟩⟩ := hs
      · exact absurd (List.eq_nil_of_length_eq_zero h1) h0
      · exact ⟨g, off, cap, rfl⟩
    obtain ⟨hblk, hH⟩ := holds_of_sl hs
    have hss := ssf_any bunL cmpBun cmpBun_ok 73 #[] blk off cap l w1 (cmpr_bun blk off l w1 hl hblk hH)
    have HSS := Lib.hid hss
    clear hs hb hg hss hH h0
    go_wp2_with fail
    refine HSS.out.mono ?_
    rintro e w2 ⟨rfl, d', hd, hsz, hw⟩
    have hq := sl_of_sorted HS.out hsz hw
    rw [hd] at hq
    have HQ := Lib.hid hq
    clear hd hw hq
    go_wp2_with fail
    go_ret
    have hgb := HG.out blk rfl
    refine ⟨.slice (some ⟨blk, off, none⟩) l.length cap, rfl, ?_, HQ.out.2.below_new (fun k hk => by cases hk; exact hgb) HB.out HB.out.size, fun g hg => HG.out g hg⟩
    rw [stableF_len l]
    exact HQ.out.1
end Go.Proofs.Ytmkfjelpekkmmaa
