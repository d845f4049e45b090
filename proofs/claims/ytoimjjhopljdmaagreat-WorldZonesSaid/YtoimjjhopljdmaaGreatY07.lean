/-
  Chapter texts SoJ SoK Rin SyA: what the claim reaches of them. Conditions stand at each theorem.
-/
import Derived.Lib.MinMax
import Derived.Test.YtoimjjhopljdmaaGreatY06
import Derived.Test.YtoimjjhopljdmaaGreatY02
namespace Go.Proofs.YtoimjjhopljdmaaGreat
open Go.RowKit Go.Sort

def bunCells (l : List Bun) : List Value := l.flatMap bunL
theorem bunCells_len : ∀ l : List Bun, (bunCells l).length = l.length * 11
  | [] => rfl
  | b :: l => by
    have h := bunCells_len l
    simp only [bunCells, List.flatMap_cons, List.length_append, bunL_len, List.length_cons] at *
    omega
theorem bunCells_app (l l' : List Bun) : bunCells (l ++ l') = bunCells l ++ bunCells l' := by simp [bunCells]
theorem bunCells_get : ∀ (l : List Bun) (k j : Nat) (b : Bun), l[k]? = some b → j < 11 → (bunCells l)[k * 11 + j]? = (bunL b)[j]?
  | c :: l, 0, j, b, h, hj => by
    obtain rfl : c = b := by simpa using h
    simp only [bunCells, List.flatMap_cons, Nat.zero_mul, Nat.zero_add]
    rw [List.getElem?_append_left (by rw [bunL_len]; exact hj)]
  | c :: l, k + 1, j, b, h, hj => by
    have ih := bunCells_get l k j b (by simpa using h) hj
    simp only [bunCells, List.flatMap_cons] at *
    rw [List.getElem?_append_right (by rw [bunL_len]; omega), bunL_len, show (k + 1) * 11 + j - 11 = k * 11 + j by omega, ih]
theorem bunCells_one (l : List Bun) : ∀ u ∈ bunCells l, u.oneCell' = true := fun u hu => by
  obtain ⟨b, _, hb⟩ := List.mem_flatMap.1 hu
  exact bunL_one b u hb

def BIn (w : World) (v : Value) (l : List Bun) : Prop :=
  ∃ p cap, v = .slice p l.length cap ∧ l.length ≤ maxLen ∧ (p = none → cap = 0) ∧ l.length ≤ cap ∧ (l ≠ [] → ∃ blk off, p = some ⟨blk, off, none⟩ ∧ blk < w.heap.size ∧ ∀ t u, (bunCells l)[t]? = some u → w.cell? ⟨blk, off + t, none⟩ = some u)

theorem BIn.of_sl {w : World} {v : Value} {l : List Bun} (h : Sl w 32 11 v l.length (bunCells l)) : BIn w v l := by
  obtain ⟨_, ⟨rfl, h0⟩ | ⟨g, off, cap, cur, rfl, hb, hn, hc, hsz, hr⟩⟩ := h
  · obtain rfl := List.eq_nil_of_length_eq_zero h0
    exact ⟨none, 0, rfl, by simp [maxLen], fun _ => rfl, Nat.le_refl _, fun h => absurd rfl h⟩
  · exact ⟨_, cap, rfl, by omega, (fun h => by cases h), hn, fun _ => ⟨g, off, rfl, (Array.getElem?_eq_some_iff.1 hb).1, fun t u hu => by simp [World.cell?, hb, hr t u hu]⟩⟩
theorem BIn.keep {w w' : World} {v : Value} {l : List Bun} (h : BIn w v l) (hb : Below w.heap.size w w') : BIn w' v l := by
  obtain ⟨p, cap, rfl, h1, h2, h3, h4⟩ := h
  refine ⟨p, cap, rfl, h1, h2, h3, fun hn => ?_⟩
  obtain ⟨blk, off, rfl, h5, h6⟩ := h4 hn
  exact ⟨blk, off, rfl, Nat.lt_of_lt_of_le h5 hb.size, fun t u hu => (hb.cell (p := ⟨blk, off + t, none⟩) h5).trans (h6 t u hu)⟩

theorem run_append_zero {P : Program} {w : World} (t ty e : TypeId) (i : TypeInfo) (ht : P.underlying t = some (.slice e)) (hi : P.info? e = some i) (p q : Option Addr) (n cap c : Nat) (hn : n ≤ cap) :
    (Builtin.append_ #[t, t] ty #[.slice p n cap, .slice q 0 c]).run P w = .ok (.slice p n cap) w := by
  cases p <;> cases q <;> simp [Builtin.append_, run_underlying ht, sizeOf, typeInfo, hi, Builtin.lenOf, Builtin.firstCells, hn, storeCells, loadCells, loadCellsFrom]

theorem wpList_append_zero {P : Program} {w : World} {ops : Array Oper} {rest : List Oper} {o : Oper} {a : Act} {Q : Exit → Act → World → Prop} (hgd : o.guard = none) (s x : Operand) (t : TypeId)
    (ho : o.op = .call { callee := .builtin .append, args := #[s, x], argTypes := #[t, t] })
    (e : TypeId) (i : TypeInfo) (ht : P.underlying t = some (.slice e)) (hi : P.info? e = some i) (p q : Option Addr) (n cap c : Nat) (hs : a.eval s = .slice p n cap) (hx : a.eval x = .slice q 0 c) (hn : n ≤ cap)
    (h : wpList P ops Q rest (a.put o.dst (.slice p n cap)) w) : wpList P ops Q (o :: rest) a w := by
  refine wpList_plain hgd fun K hK => ?_
  have hrun := run_append_zero (P := P) (w := w) t o.type e i ht hi p q n cap c hn
  unfold Oper.wp
  simp [execOp, ho, resolve, invoke, builtin, hs, hx, hrun, Result.andThen]
  exact hK _ _ h

def BNew (w w' : World) (v : Value) (l : List Bun) : Prop := Sl w' 32 11 v l.length (bunCells l) ∧ Below w.heap.size w w' ∧ ∀ g, v.ownBlock = some g → w.heap.size ≤ g

theorem info_bunJ : (Tryz.prog.info? 32).map (fun i => (i.zero, i.size, i.bytes)) = some (some (.agg #[.int .i64 0, .int .i64 0, .int .i64 0, .int .i64 0, .int .i64 0, .int .i64 0, .int .i64 0, .int .i64 0, .int .i64 0, .int .i64 0, .int .i64 0]), 11, 88) := by kernel_rfl

theorem bnew_of {w w1 : World} {l : List Bun} {v v' : Value} (o : Obj) (hv : v.ownBlock = some w.heap.size) (hs : Sl w1 32 11 v' (0 + l.length) ([] ++ bunCells l)) (ht : Turned (w.alloc o) w1 v.ownBlock)
    (ho : v'.ownBlock = v.ownBlock ∨ ∃ g, v'.ownBlock = some g ∧ (w.alloc o).heap.size ≤ g) : BNew w w1 v' l := by
  rw [Nat.zero_add, List.nil_append] at hs
  have hsz := ht.size
  rw [World.size_alloc] at hsz
  refine ⟨hs, ((Below.refl w.heap.size w).alloc (Nat.le_refl _) o).trans ⟨ht.os, ht.tape, ht.output, ht.size, fun k hk => ht.block k (by rw [World.size_alloc]; omega) (fun e => by rw [hv] at e; simp at e; omega)⟩, fun g hg => ?_⟩
  rcases ho with e | ⟨g', e, hg'⟩
  · rw [e, hv] at hg; simp at hg; omega
  · rw [e] at hg; simp at hg; rw [World.size_alloc] at hg'; omega

theorem sl_empty (W : World) : Sl (W.alloc (.cells #[] 32)) 32 11 (.slice (some ⟨W.heap.size, 0, none⟩) 0 0) 0 [] := ⟨rfl, .inr ⟨W.heap.size, 0, 0, #[], rfl, heap_alloc_new W _, Nat.le_refl _, by simp [maxLen], by simp, fun j u hj => by cases hj⟩⟩

set_option maxRecDepth 100000 in
theorem clone_bin (v : Value) (l : List Bun) (w : World) (h : BIn w v l) (hl : l.length ≤ 1000000) :
    Calls Tryz.prog 37 #[v] w fun e w' => ∃ v', e = .returned v' ∧ BNew w w' v' l := by
  obtain ⟨i0, hi0, hz0, hz1, hz2⟩ := info_parts info_bunJ
  obtain ⟨p, cap, rfl, h1, h2, h3, h4⟩ := h
  have HS := Lib.hid sl_empty
  by_cases hn : l = []
  · subst hn
    clear h4 h1
    cases p with
    | none =>
      obtain rfl := h2 rfl
      clear h2 h3
      have hnil := fun W : World => Lib.run_eql_slice_nil (P := Tryz.prog) W 37 32 none 0 0 0 0 Tryz.underlying37
      go_enter Tryz.func37, Tryz.ntmps37
      go_wp2_with fail
      go_ret
      exact ⟨_, rfl, ⟨rfl, .inl ⟨rfl, rfl⟩⟩, bg, fun g hg => by cases hg⟩
    | some a =>
      clear h2
      have hnil := fun W : World => Lib.run_eql_slice_nil (P := Tryz.prog) W 37 32 (some a) 0 cap 0 0 Tryz.underlying37
      go_enter Tryz.func37, Tryz.ntmps37
      go_wp2_with (at_builtin; refine wpList_append_zero (by rfl) _ _ 37 (by rfl) 32 i0 Tryz.underlying37 hi0 _ _ 0 0 _ (by rfl) (by rfl) (Nat.le_refl _) ?_)
      go_ret
      exact ⟨_, rfl, HS.out w, bg, fun g hg => by simp [Value.ownBlock] at hg; omega⟩
  · obtain ⟨blk, off, rfl, h5, h6⟩ := h4 hn
    have hn0 : 0 < l.length := List.length_pos_iff.2 hn
    have hcw : ∀ j u, (bunCells l)[j]? = some u → (w.alloc (.cells #[] 32)).cell? (Addr.add ⟨blk, off, none⟩ j) = some u := fun j u hj => by
      have h := h6 j u hj
      rw [show Addr.add ⟨blk, off, none⟩ j = ⟨blk, off + j, none⟩ from by unfold Addr.add; split <;> simp_all]
      exact cell_keep ((Below.refl _ _).alloc (Nat.le_refl _) _) h
    have HW := Lib.hid hcw
    have H1 := Lib.hid (bunCells_one l)
    have HX := Lib.hid (bunCells_len l)
    clear hcw h4 h6 h2 hn h1
    have hnil := fun W : World => Lib.run_eql_slice_nil (P := Tryz.prog) W 37 32 (some ⟨blk, off, none⟩) l.length cap 0 0 Tryz.underlying37
    go_enter Tryz.func37, Tryz.ntmps37
    go_wp2_with (at_builtin; refine wpList_append_sl _ (by rfl) _ _ 37 (by rfl) 32 i0 _ 11 88 Tryz.underlying37 hi0 hz0 hz1 hz2 rfl (by omega) _ 0 [] (by rfl) (HS.out _) ⟨blk, off, none⟩ l.length cap (bunCells l) (by rfl) HX.out HW.out H1.out hn0 (by unfold maxLen; omega) (by omega) ?_; intro v' w1 hs1 ht ho)
    go_ret
    exact ⟨_, rfl, bnew_of _ rfl hs1 ht ho⟩

theorem holds_of_sl {w : World} {l : List Bun} {blk off cap : Nat} (h : Sl w 32 11 (.slice (some ⟨blk, off, none⟩) l.length cap) l.length (bunCells l)) : blk < w.heap.size ∧ HoldsK (fun x : Bun × Nat => bunL x.1) 11 w blk off (tagd l) := by
  obtain ⟨_, ⟨h0, _⟩ | ⟨g, off', cap', cur, hv, hb, hn, hc, hsz, hr⟩⟩ := h
  · cases h0
  · simp only [Value.slice.injEq, Option.some.injEq, Addr.mk.injEq, and_true, true_and] at hv
    obtain ⟨⟨rfl, rfl⟩, rfl⟩ := hv
    refine ⟨(Array.getElem?_eq_some_iff.1 hb).1, fun t ht => ?_⟩
    rw [size_flatK, size_tagd] at ht
    rw [get_flatK _ _ _ _ (by rw [size_tagd]; exact ht), tagd_get l (by omega)]
    have hk : t / 11 < l.length := by omega
    have e1 := bunCells_get l (t / 11) (t % 11) l[t / 11] (List.getElem?_eq_getElem hk) (Nat.mod_lt _ (by omega))
    rw [show t / 11 * 11 + t % 11 = t by omega] at e1
    have e2 : (bunL l[t / 11])[t % 11]? = some ((bunL l[t / 11])[t % 11]!) := by
      rw [List.getElem!_eq_getElem?_getD]
      have : t % 11 < (bunL l[t / 11]).length := by rw [bunL_len]; exact Nat.mod_lt _ (by omega)
      rw [List.getElem?_eq_getElem this]; rfl
    have h3 := hr t _ (e1.trans e2)
    refine ⟨?_, by simp [World.frozen?, hb]⟩
    show w.cell? ⟨blk, off + t, none⟩ = some ((bunL l[t / 11])[t % 11]!)
    simp [World.cell?, hb, h3]

theorem sl_of_sorted {w w' : World} {l : List Bun} {blk off cap : Nat} {d' : Array (Bun × Nat)} (h : Sl w 32 11 (.slice (some ⟨blk, off, none⟩) l.length cap) l.length (bunCells l)) (hd : d'.size = l.length)
    (hw : SWK (fun x : Bun × Nat => bunL x.1) 11 w blk off d' w') : Sl w' 32 11 (.slice (some ⟨blk, off, none⟩) l.length cap) l.length (bunCells (d'.toList.map fun x => x.1)) ∧ Turned w w' (some blk) := by
  obtain ⟨_, hH⟩ := holds_of_sl h
  obtain ⟨_, ⟨h0, _⟩ | ⟨g, off', cap', cur, hv, hb, hn, hc, hsz, hr⟩⟩ := h
  · cases h0
  · simp only [Value.slice.injEq, Option.some.injEq, Addr.mk.injEq, and_true, true_and] at hv
    obtain ⟨⟨rfl, rfl⟩, rfl⟩ := hv
    have hlt := (Array.getElem?_eq_some_iff.1 hb).1
    obtain ⟨n, os, rfl⟩ := hw
    have hheap : (sortWorldK (fun x : Bun × Nat => bunL x.1) 11 w blk off n d' os).heap[blk]? = some (.cells (putCells id off (flatK (fun x : Bun × Nat => bunL x.1) 11 d') cur) 32 (0, 0)) := by
      unfold sortWorldK putRowK
      simp only [grow]
      rw [Array.getElem?_append_left (by simp [putRow, mapBlock, Sort.ahead]; exact hlt)]
      simp [putRow, mapBlock, Sort.ahead, Array.getElem?_modify, hb, onCells]
    have hF : ∀ j, j < l.length * 11 → (flatK (fun x : Bun × Nat => bunL x.1) 11 d')[j]! = (bunL (d'[j / 11]!).1)[j % 11]! := fun j hj => get_flatK _ _ _ _ (by rw [hd]; exact hj)
    have hlen : (d'.toList.map fun x => x.1).length = l.length := by simp [hd]
    refine ⟨⟨by rw [bunCells_len, hlen], .inr ⟨blk, off, cap, _, rfl, hheap, hn, hc, by simp [putCells]; omega, fun j u hj => ?_⟩⟩, ?_⟩
    · have hj' : j < l.length * 11 := by
        have := (List.getElem?_eq_some_iff.1 hj).1; rw [bunCells_len, hlen] at this; exact this
      have hk : j / 11 < d'.size := by omega
      have e1 := bunCells_get (d'.toList.map fun x => x.1) (j / 11) (j % 11) (d'[j / 11]!).1 (by
        rw [List.getElem?_map, List.getElem?_eq_getElem (by simpa using hk), getElem!_pos d' _ hk]; simp) (Nat.mod_lt _ (by omega))
      rw [show j / 11 * 11 + j % 11 = j by omega] at e1
      rw [e1] at hj
      have hcj : (cur[off + j]?).isSome = true := by
        have : l.length * 11 ≤ cap * 11 := Nat.mul_le_mul_right _ hn
        rw [Array.getElem?_eq_getElem (by omega)]; rfl
      obtain ⟨y, hy⟩ := Option.isSome_iff_exists.1 hcj
      simp only [putCells, Array.getElem?_mapIdx, hy, Option.map_some]
      rw [if_pos ⟨by omega, by rw [size_flatK, hd]; omega⟩, show off + j - off = j by omega]
      show some ((flatK (fun x : Bun × Nat => bunL x.1) 11 d')[j]!) = some u
      rw [hF j hj', List.getElem!_eq_getElem?_getD, hj]; rfl
    · unfold sortWorldK putRowK
      refine ⟨rfl, rfl, rfl, ?_, fun k hk hne => ?_⟩
      · simp [grow, Sort.ahead]
      · have hgk : blk ≠ k := fun e => hne (by rw [e])
        show ((putRow id (Sort.ahead w n) blk off (flatK (fun x : Bun × Nat => bunL x.1) 11 d')).heap ++ os)[k]? = _
        rw [Array.getElem?_append_left (by simpa [Sort.ahead] using hk)]
        simp [putRow, mapBlock, Array.getElem?_modify, Sort.ahead, hgk]

theorem stableF_len (l : List Bun) : (stableF cmpBun l).length = l.length := by simp [stableF]

theorem ssf_nil (f : Value) (p : Option Addr) (cap : Nat) (w : World) : Calls Tryz.prog 134 #[.slice p 0 cap, f] w fun e w' => e = .returned (.tuple #[]) ∧ w = w' := by
  have hi : Calls Tryz.prog 173 #[.slice p 0 cap, .int .i64 0, .int .i64 0, f] w fun e w' => e = .returned (.tuple #[]) ∧ w = w' := by
    go_enter Tryz.func173, Tryz.ntmps173
    go_wp2_with fail
    refine wp_loop_rounds 1 ?_
    rw [rounds_succ]
    go_wp2
    go_returns
    exact ⟨rfl, rfl⟩
  have hc : Calls Tryz.prog 154 #[.slice p 0 cap, .int .i64 0, f] w fun e w' => e = .returned (.tuple #[]) ∧ w = w' := by
    go_enter Tryz.func154, Tryz.ntmps154
    go_wp2_with fail
    refine wp_loop_rounds 1 ?_
    rw [rounds_succ]
    go_wp2_with (go_at_call 173; refine hi.mono ?_; rintro e w' ⟨rfl, rfl⟩)
    refine wp_loop_rounds 1 ?_
    rw [rounds_succ]
    go_wp2
    go_returns
    exact ⟨rfl, rfl⟩
  go_enter Tryz.func134, Tryz.ntmps134
  go_wp2_with (go_at_call 154; refine hc.mono ?_; rintro e w' ⟨rfl, rfl⟩)
  go_returns
  exact ⟨rfl, rfl⟩

set_option maxRecDepth 100000 in
theorem sorted_any (v : Value) (l : List Bun) (w : World) (h : BIn w v l) (hl : l.length ≤ 1000000) :
    Calls Tryz.prog 96 #[v] w fun e w' => ∃ v', e = .returned v' ∧ BNew w w' v' (stableF cmpBun l) := by
  have HC := Lib.hid (clone_bin v l w h hl)
  clear h
  go_enter Tryz.func96, Tryz.ntmps96
  go_wp2_with fail
  refine HC.out.mono ?_
  rintro e w1 ⟨v1, rfl, hs, hb, hg⟩
  have HS := Lib.hid hs
  have HB := Lib.hid hb
  have HG := Lib.hid hg
  by_cases h0 : l = []
  · subst h0
    obtain ⟨p, cap, rfl⟩ : ∃ p cap, v1 = .slice p 0 cap := by
      obtain ⟨_, ⟨rfl, _⟩ | ⟨g, off, cap, cur, rfl, _⟩⟩ := hs
      · exact ⟨none, 0, rfl⟩
      · exact ⟨_, cap, rfl⟩
    clear hs hb hg
    go_wp2_with (go_at_call 134; refine (ssf_nil _ _ _ _).mono ?_; rintro e w' ⟨rfl, rfl⟩)
    go_ret
    have e0 : stableF cmpBun [] = [] := by simp [stableF]
    exact ⟨.slice p 0 cap, rfl, by rw [e0]; exact HS.out, HB.out, HG.out⟩
  · obtain ⟨blk, off, cap, rfl⟩ : ∃ blk off cap, v1 = .slice (some ⟨blk, off, none⟩) l.length cap := by
      obtain ⟨_, ⟨rfl, h1⟩ | ⟨g, off, cap, cur, rfl, _⟩⟩ := hs
      · exact absurd (List.eq_nil_of_length_eq_zero h1) h0
      · exact ⟨g, off, cap, rfl⟩
    obtain ⟨hblk, hH⟩ := holds_of_sl hs
    have hss := ssf_any bunL cmpBun cmpBun_ok 135 #[] blk off cap l w1 (cmpr_bun blk off l w1 hl hblk hH)
    have HSS := Lib.hid hss
    clear hs hb hg hss hH h0
    go_wp2_with fail
    refine HSS.out.mono ?_
    rintro e w2 ⟨rfl, d', hd, hsz, hw⟩
    have hq := sl_of_sorted HS.out hsz hw
    rw [hd] at hq
    have HQ := Lib.hid hq
    clear hd hw hq
    go_wp2_with fail
    go_ret
    have hgb := HG.out blk rfl
    refine ⟨.slice (some ⟨blk, off, none⟩) l.length cap, rfl, ?_, HQ.out.2.below_new (fun k hk => by cases hk; exact hgb) HB.out HB.out.size, fun g hg => HG.out g hg⟩
    rw [stableF_len l]
    exact HQ.out.1
end Go.Proofs.YtoimjjhopljdmaaGreat
namespace Go.Proofs.YtoimjjhopljdmaaGreat
open Go.RowKit Go.Sort
theorem BIn.cells {w : World} {v : Value} {l : List Bun} (h : BIn w v l) {k : Nat} {b : Bun} (hk : l[k]? = some b) : ∃ blk off cap, v = .slice (some ⟨blk, off, none⟩) l.length cap ∧ blk < w.heap.size ∧ ∀ j u, (bunL b)[j]? = some u → w.cell? ⟨blk, off + k * 11 + j, none⟩ = some u := by
  obtain ⟨p, cap, rfl, _, _, _, h4⟩ := h
  obtain ⟨blk, off, rfl, h5, h6⟩ := h4 (fun e => by subst e; cases hk)
  refine ⟨blk, off, cap, rfl, h5, fun j u hj => ?_⟩
  have hj' : j < 11 := by have := (List.getElem?_eq_some_iff.1 hj).1; rwa [bunL_len] at this
  have e := bunCells_get l k j b hk hj'
  rw [Nat.add_assoc]
  exact h6 _ u (e.trans hj)
theorem ld_of {w : World} {blk o : Nat} {b : Bun} (h : ∀ j u, (bunL b)[j]? = some u → w.cell? ⟨blk, o + j, none⟩ = some u) : (ldB ⟨blk, o, none⟩).run Tryz.prog w = .ok (.agg b.arr) w := by
  have := ldB_of (cs := bunL b) (Go.Proofs.run_loadCellsFrom_list Tryz.prog w ⟨blk, o, none⟩ (bunL b) 11 rfl (fun j v hj => by
    rw [show Addr.add ⟨blk, o, none⟩ j = ⟨blk, o + j, none⟩ from by unfold Addr.add; split <;> simp_all]
    exact h j v hj))
  exact this
theorem BNew.bin {w0 w : World} {v : Value} {l : List Bun} (h : BNew w0 w v l) : BIn w v l := BIn.of_sl h.1
theorem BNew.grow {w0 w w' : World} {v : Value} {l : List Bun} (h : BNew w0 w v l) (hb : Below w.heap.size w w') : BNew w0 w' v l :=
  ⟨h.1.keep fun g hg => hb.block g (sl_lt h.1 hg), h.2.1.trans (hb.mono h.2.1.size), h.2.2⟩
theorem BNew.nil (w : World) : BNew w w (.slice Option.none 0 0) [] := ⟨⟨rfl, .inl ⟨rfl, rfl⟩⟩, Below.refl _ _, fun g hg => by cases hg⟩
theorem BNew.snoc {w0 w w1 : World} {v v' : Value} {l : List Bun} {b : Bun} (h : BNew w0 w v l) (hs : Sl w1 32 11 v' (l.length + 1) (bunCells l ++ bunL b)) (ht : Turned w w1 v.ownBlock)
    (ho : v'.ownBlock = v.ownBlock ∨ ∃ g, v'.ownBlock = some g ∧ w.heap.size ≤ g) : BNew w0 w1 v' (l ++ [b]) := by
  refine ⟨?_, h.2.1.trans ⟨ht.os, ht.tape, ht.output, ht.size, fun k hk => ht.block k (by have := h.2.1.size; omega) fun e => by have := h.2.2 k e.symm; omega⟩, fun q hq => ?_⟩
  · rw [bunCells_app, show bunCells [b] = bunL b by simp [bunCells]]; simpa using hs
  · rcases ho with e | ⟨g', e, hg'⟩
    · exact h.2.2 q (by rw [← e]; exact hq)
    · rw [e] at hq
      cases hq
      exact Nat.le_trans h.2.1.size hg'

theorem bunCells_set : ∀ (l : List Bun) (k : Nat) (b : Bun) (t : Nat), k < l.length → (bunCells (l.set k b))[t]? = if k * 11 ≤ t ∧ t < k * 11 + 11 then (bunL b)[t - k * 11]? else (bunCells l)[t]?
  | [], k, b, t, h => by simp at h
  | c :: l, 0, b, t, h => by
    have e1 : bunCells (b :: l) = bunL b ++ bunCells l := by simp [bunCells]
    have e2 : bunCells (c :: l) = bunL c ++ bunCells l := by simp [bunCells]
    rw [List.set_cons_zero, e1, e2]
    by_cases ht : t < 11
    · rw [if_pos (by omega), List.getElem?_append_left (by rw [bunL_len]; exact ht)]; rfl
    · rw [if_neg (by omega), List.getElem?_append_right (by rw [bunL_len]; omega), List.getElem?_append_right (by rw [bunL_len]; omega), bunL_len, bunL_len]
  | c :: l, k + 1, b, t, h => by
    have e1 : bunCells (c :: l.set k b) = bunL c ++ bunCells (l.set k b) := by simp [bunCells]
    have e2 : bunCells (c :: l) = bunL c ++ bunCells l := by simp [bunCells]
    rw [List.set_cons_succ, e1, e2]
    by_cases ht : t < 11
    · rw [if_neg (by omega), List.getElem?_append_left (by rw [bunL_len]; exact ht), List.getElem?_append_left (by rw [bunL_len]; exact ht)]
    · have ih := bunCells_set l k b (t - 11) (by simpa using h)
      rw [List.getElem?_append_right (by rw [bunL_len]; omega), List.getElem?_append_right (by rw [bunL_len]; omega), bunL_len, ih]
      by_cases h1 : (k + 1) * 11 ≤ t ∧ t < (k + 1) * 11 + 11
      · rw [if_pos h1, if_pos (by omega)]; congr 1; omega
      · rw [if_neg h1, if_neg (by omega)]

theorem BNew.store {w0 w : World} {blk off cap : Nat} {l : List Bun} (h : BNew w0 w (.slice (some ⟨blk, off, Option.none⟩) l.length cap) l) {k : Nat} (hk : k < l.length) (b : Bun) :
    (stB ⟨blk, off + k * 11, Option.none⟩ b.v).run Tryz.prog w = .ok () (w.setCells blk (off + k * 11) (bunL b)) ∧ BNew w0 (w.setCells blk (off + k * 11) (bunL b)) (.slice (some ⟨blk, off, Option.none⟩) l.length cap) (l.set k b) := by
  obtain ⟨⟨hlen, ⟨h0, _⟩ | ⟨g, off', cap', cur, hv, hb, hn, hc, hsz, hr⟩⟩, h2, h3⟩ := h
  · cases h0
  simp only [Value.slice.injEq, Option.some.injEq, Addr.mk.injEq, and_true, true_and] at hv
  obtain ⟨⟨rfl, rfl⟩, rfl⟩ := hv
  have hle : off + k * 11 + (bunL b).length ≤ cur.size := by
    have : l.length * 11 ≤ cap * 11 := Nat.mul_le_mul_right _ hn
    rw [bunL_len]; omega
  obtain ⟨cur', hg', hs', hlo, hin, hhi⟩ := setCells_heap blk 32 (0, 0) (bunL b) (off + k * 11) w cur hb hle
  have ht := setCells_turned blk (bunL b) (off + k * 11) w
  have hblk := h3 blk rfl
  refine ⟨?_, ⟨by rw [bunCells_len, List.length_set], .inr ⟨blk, off, cap, cur', by rw [List.length_set], hg', by rw [List.length_set]; exact hn, hc, by omega, fun j u hj => ?_⟩⟩, Turned.below_new ht (fun q hq => by cases hq; exact hblk) h2 h2.size, h3⟩
  · have := stB_of (W := w) (W' := w.setCells blk (off + k * 11) (bunL b)) (a := ⟨blk, off + k * 11, Option.none⟩) (cs := bunL b) rfl (by
      have := Go.run_storeCells_cells (P := Tryz.prog) blk (off + k * 11) (bunL b) 0 w (fun j hj => by
        have hj2 : off + k * 11 + j < cur.size := by rw [bunL_len] at hj hle; omega
        simp [World.cell?, hb]; exact hj2) (fun j hj => by simp [World.frozen?, hb]) (bunL_one b)
      simpa using this)
    exact this
  · rw [bunCells_set l k b j hk] at hj
    split at hj
    · rename_i h1
      have := hin (j - k * 11) u hj
      rwa [show off + k * 11 + (j - k * 11) = off + j by omega] at this
    · rename_i h1
      by_cases h4 : j < k * 11
      · rw [hlo _ (by omega)]; exact hr j u hj
      · rw [hhi _ (by rw [bunL_len]; omega)]; exact hr j u hj
end Go.Proofs.YtoimjjhopljdmaaGreat
namespace Go.Proofs.YtoimjjhopljdmaaGreat
open Go.RowKit
section
variable {β : Type} (enc : β → List Value) (T : TypeId) (size : Nat) (hk : ∀ x, (enc x).length = size)
def cellsR (l : List β) : List Value := l.flatMap enc
theorem cellsR_app (l l' : List β) : cellsR enc (l ++ l') = cellsR enc l ++ cellsR enc l' := by simp [cellsR]
theorem cellsR_one (x : β) : cellsR enc [x] = enc x := by simp [cellsR]
theorem cellsR_mem {l : List β} (h1 : ∀ x, ∀ v ∈ enc x, v.oneCell' = true) : ∀ u ∈ cellsR enc l, u.oneCell' = true := fun u hu => by
  obtain ⟨b, _, hb⟩ := List.mem_flatMap.1 hu
  exact h1 b u hb
include hk in
theorem cellsR_len : ∀ l : List β, (cellsR enc l).length = l.length * size
  | [] => by simp [cellsR]
  | b :: l => by
    have h := cellsR_len l
    simp only [cellsR, List.flatMap_cons, List.length_append, hk, List.length_cons] at *
    rw [h, Nat.add_mul, Nat.one_mul, Nat.add_comm]
include hk in
theorem cellsR_get : ∀ (l : List β) (k j : Nat) (b : β), l[k]? = some b → j < size → (cellsR enc l)[k * size + j]? = (enc b)[j]?
  | c :: l, 0, j, b, h, hj => by
    obtain rfl : c = b := by simpa using h
    simp only [cellsR, List.flatMap_cons, Nat.zero_mul, Nat.zero_add]
    rw [List.getElem?_append_left (by rw [hk]; exact hj)]
  | c :: l, k + 1, j, b, h, hj => by
    have ih := cellsR_get l k j b (by simpa using h) hj
    simp only [cellsR, List.flatMap_cons] at *
    rw [List.getElem?_append_right (by rw [hk, Nat.add_mul]; omega), hk, show (k + 1) * size + j - size = k * size + j by rw [Nat.add_mul]; omega, ih]

def RIn (w : World) (v : Value) (l : List β) : Prop :=
  ∃ p cap, v = .slice p l.length cap ∧ l.length ≤ maxLen ∧ (p = none → cap = 0) ∧ l.length ≤ cap ∧ (l ≠ [] → ∃ blk off, p = some ⟨blk, off, none⟩ ∧ blk < w.heap.size ∧ ∀ t u, (cellsR enc l)[t]? = some u → w.cell? ⟨blk, off + t, none⟩ = some u)
def RNew (w w' : World) (v : Value) (l : List β) : Prop := Sl w' T size v l.length (cellsR enc l) ∧ Below w.heap.size w w' ∧ ∀ g, v.ownBlock = some g → w.heap.size ≤ g
variable {enc T size}

theorem RIn.of_sl {w : World} {v : Value} {l : List β} (h : Sl w T size v l.length (cellsR enc l)) : RIn enc w v l := by
  obtain ⟨_, ⟨rfl, h0⟩ | ⟨g, off, cap, cur, rfl, hb, hn, hc, hsz, hr⟩⟩ := h
  · obtain rfl := List.eq_nil_of_length_eq_zero h0
    exact ⟨none, 0, rfl, by simp [maxLen], fun _ => rfl, Nat.le_refl _, fun h => absurd rfl h⟩
  · exact ⟨_, cap, rfl, by omega, (fun h => by cases h), hn, fun _ => ⟨g, off, rfl, (Array.getElem?_eq_some_iff.1 hb).1, fun t u hu => by simp [World.cell?, hb, hr t u hu]⟩⟩
theorem RIn.keep {w w' : World} {v : Value} {l : List β} (h : RIn enc w v l) (hb : Below w.heap.size w w') : RIn enc w' v l := by
  obtain ⟨p, cap, rfl, h1, h2, h3, h4⟩ := h
  refine ⟨p, cap, rfl, h1, h2, h3, fun hn => ?_⟩
  obtain ⟨blk, off, rfl, h5, h6⟩ := h4 hn
  exact ⟨blk, off, rfl, Nat.lt_of_lt_of_le h5 hb.size, fun t u hu => (hb.cell (p := ⟨blk, off + t, none⟩) h5).trans (h6 t u hu)⟩
include hk in
theorem RIn.cells {w : World} {v : Value} {l : List β} (h : RIn enc w v l) {k : Nat} {b : β} (hb : l[k]? = some b) : ∃ blk off cap, v = .slice (some ⟨blk, off, none⟩) l.length cap ∧ blk < w.heap.size ∧ ∀ j u, (enc b)[j]? = some u → w.cell? ⟨blk, off + k * size + j, none⟩ = some u := by
  obtain ⟨p, cap, rfl, _, _, _, h4⟩ := h
  obtain ⟨blk, off, rfl, h5, h6⟩ := h4 (fun e => by subst e; cases hb)
  refine ⟨blk, off, cap, rfl, h5, fun j u hj => ?_⟩
  have hj' : j < size := by have := (List.getElem?_eq_some_iff.1 hj).1; rwa [hk] at this
  have e := cellsR_get enc size hk l k j b hb hj'
  rw [Nat.add_assoc]
  exact h6 _ u (e.trans hj)
theorem RNew.rin {w0 w : World} {v : Value} {l : List β} (h : RNew enc T size w0 w v l) : RIn enc w v l := RIn.of_sl h.1
theorem RNew.grow {w0 w w' : World} {v : Value} {l : List β} (h : RNew enc T size w0 w v l) (hb : Below w.heap.size w w') : RNew enc T size w0 w' v l :=
  ⟨h.1.keep fun g hg => hb.block g (sl_lt h.1 hg), h.2.1.trans (hb.mono h.2.1.size), h.2.2⟩
theorem RNew.nil (w : World) : RNew enc T size w w (.slice none 0 0) ([] : List β) := ⟨⟨by simp [cellsR], .inl ⟨rfl, rfl⟩⟩, Below.refl _ _, fun g hg => by cases hg⟩
theorem RNew.since {w0 w1 w : World} {v : Value} {l : List β} (h : RNew enc T size w1 w v l) (hb : Below w0.heap.size w0 w1) : RNew enc T size w0 w v l :=
  ⟨h.1, hb.trans (h.2.1.mono hb.size), fun g hg => Nat.le_trans hb.size (h.2.2 g hg)⟩
theorem RNew.snoc {w0 w w1 : World} {v v' : Value} {l : List β} {b : β} (h : RNew enc T size w0 w v l) (hs : Sl w1 T size v' (l.length + 1) (cellsR enc l ++ enc b)) (ht : Turned w w1 v.ownBlock)
    (ho : v'.ownBlock = v.ownBlock ∨ ∃ g, v'.ownBlock = some g ∧ w.heap.size ≤ g) : RNew enc T size w0 w1 v' (l ++ [b]) := by
  refine ⟨?_, h.2.1.trans ⟨ht.os, ht.tape, ht.output, ht.size, fun k hk => ht.block k (by have := h.2.1.size; omega) fun e => by have := h.2.2 k e.symm; omega⟩, fun q hq => ?_⟩
  · rw [cellsR_app, cellsR_one]; simpa using hs
  · rcases ho with e | ⟨g', e, hg'⟩
    · exact h.2.2 q (by rw [← e]; exact hq)
    · rw [e] at hq
      cases hq
      exact Nat.le_trans h.2.1.size hg'
end
end Go.Proofs.YtoimjjhopljdmaaGreat
namespace Go.Proofs.YtoimjjhopljdmaaGreat
open Go.RowKit

theorem ltb {a W : Nat} (h : a < W) : a < W + 1 ∧ (∀ n, a < W + 1 + n) ∧ (∀ n m, a < W + 1 + n + m) ∧ (∀ n m q, a < W + 1 + n + m + q) := ⟨by omega, fun _ => by omega, fun _ _ => by omega, fun _ _ _ => by omega⟩

theorem max_if (x y : Int) : (if y > x then y else x) = max x y := by rw [Int.max_def]; split <;> split <;> omega
@[go_sem high] theorem run_max_ints4 {P : Program} (w : World) (ts : Array TypeId) (t : TypeId) (k : IntKind) (x y u v : Int) :
    (Builtin.max_ ts t #[.int k x, .int k y, .int k u, .int k v]).run P w = .ok (.int k (max (max (max x y) u) v)) w := by
  simp [Builtin.max_, Builtin.max2, max_if]
@[go_sem high] theorem run_max_ints3 {P : Program} (w : World) (ts : Array TypeId) (t : TypeId) (k : IntKind) (x y u : Int) :
    (Builtin.max_ ts t #[.int k x, .int k y, .int k u]).run P w = .ok (.int k (max (max x y) u)) w := by
  simp [Builtin.max_, Builtin.max2, max_if]

def clampF (n : Int) : Int := max (-1073741824) (min 1073741824 n)
theorem clampF_lo (n : Int) : -1073741824 ≤ clampF n := by unfold clampF; omega
theorem clampF_hi (n : Int) : clampF n ≤ 1073741824 := by unfold clampF; omega
theorem clampF_id (n : Int) (h0 : -1073741824 ≤ n) (h1 : n ≤ 1073741824) : clampF n = n := by unfold clampF; omega
def addF (a b : Int) : Int := clampF (clampF a + clampF b)
def farF (x y u v : Int) : Int := max (clampF x - clampF u) (max (-(clampF x - clampF u)) (max (clampF y - clampF v) (-(clampF y - clampF v))))
theorem ret_int {k : IntKind} {a b : Int} (h : a = b) : Ending.returned (.int k a) = .returned (.int k b) := by rw [h]

theorem clamp_any (n : Int) (w : World) : Calls Tryz.prog 155 #[.int .i64 n] w fun e w' => e = .returned (.int .i64 (clampF n)) ∧ w = w' := by
  by_cases h1 : n < -1073741824
  · rw [show clampF n = -1073741824 from by unfold clampF; omega]
    have h2 : n ≤ 1073741824 := by omega
    go_enter Tryz.func155, Tryz.ntmps155
    go_wp2
    all_goals go_ret
    all_goals (refine ⟨ret_int ?_, rfl⟩; first | omega | ((repeat' split at *) <;> omega))
  · by_cases h2 : 1073741824 < n
    · rw [show clampF n = 1073741824 from by unfold clampF; omega]
      have h3 : -1073741824 ≤ n := by omega
      clear h1
      go_enter Tryz.func155, Tryz.ntmps155
      go_wp2
      all_goals go_ret
      all_goals (refine ⟨ret_int ?_, rfl⟩; first | omega | ((repeat' split at *) <;> omega))
    · rw [show clampF n = n from by unfold clampF; omega]
      have h3 : -1073741824 ≤ n := by omega
      have h4 : n ≤ 1073741824 := by omega
      clear h1 h2
      go_enter Tryz.func155, Tryz.ntmps155
      go_wp2
      all_goals go_ret
      all_goals (refine ⟨ret_int ?_, rfl⟩; first | omega | ((repeat' split at *) <;> omega))

theorem rClamp_any (n : Int) (w : World) : Calls Tryz.prog 78 #[.int .i64 n] w fun e w' => e = .returned (.int .i64 (clampF n)) ∧ w = w' := by
  by_cases h1 : n < -1073741824
  · rw [show clampF n = -1073741824 from by unfold clampF; omega]
    have h2 : n ≤ 1073741824 := by omega
    go_enter Tryz.func78, Tryz.ntmps78
    go_wp2
    all_goals go_ret
    all_goals (refine ⟨ret_int ?_, rfl⟩; first | omega | ((repeat' split at *) <;> omega))
  · by_cases h2 : 1073741824 < n
    · rw [show clampF n = 1073741824 from by unfold clampF; omega]
      have h3 : -1073741824 ≤ n := by omega
      clear h1
      go_enter Tryz.func78, Tryz.ntmps78
      go_wp2
      all_goals go_ret
      all_goals (refine ⟨ret_int ?_, rfl⟩; first | omega | ((repeat' split at *) <;> omega))
    · rw [show clampF n = n from by unfold clampF; omega]
      have h3 : -1073741824 ≤ n := by omega
      have h4 : n ≤ 1073741824 := by omega
      clear h1 h2
      go_enter Tryz.func78, Tryz.ntmps78
      go_wp2
      all_goals go_ret
      all_goals (refine ⟨ret_int ?_, rfl⟩; first | omega | ((repeat' split at *) <;> omega))

theorem add_any (b : Nat) (x y : Int) (w : World) (h0 : w.cell? ⟨b, 0, none⟩ = some (.int .i64 x)) (h1 : w.cell? ⟨b, 1, none⟩ = some (.int .i64 y)) :
    Calls Tryz.prog 138 #[.slice (some ⟨b, 0, none⟩) 2 2] w fun e w' => e = .returned (.int .i64 (addF x y)) ∧ w = w' := by
  have l1 := clampF_lo x; have l2 := clampF_hi x; have l3 := clampF_lo y; have l4 := clampF_hi y
  have e0 := clampF_id (clampF x) l1 l2
  unfold addF
  generalize hcx : clampF x = cx at *
  generalize hcy : clampF y = cy at *
  go_enter Tryz.func138, Tryz.ntmps138
  go_wp2_with fail
  refine wp_loop_rounds 3 ?_
  repeat any_goals (rw [rounds_succ]; go_wp2_with (go_at_call 155; refine (clamp_any _ _).mono ?_; rintro e w' ⟨rfl, rfl⟩))
  all_goals go_ret
  all_goals exact ⟨rfl, rfl⟩

theorem far_any (x y u v : Int) (w : World) : Calls Tryz.prog 137 #[.int .i64 x, .int .i64 y, .int .i64 u, .int .i64 v] w fun e w' => e = .returned (.int .i64 (farF x y u v)) ∧ w = w' := by
  have h1 := clampF_lo x; have h2 := clampF_hi x; have h3 := clampF_lo u; have h4 := clampF_hi u
  have h5 := clampF_lo y; have h6 := clampF_hi y; have h7 := clampF_lo v; have h8 := clampF_hi v
  generalize hr : farF x y u v = r
  unfold farF at hr
  have HR := Lib.hid hr
  clear hr
  go_enter Tryz.func137, Tryz.ntmps137
  go_wp2_with (go_at_call 155; refine (clamp_any _ _).mono ?_; rintro e w' ⟨rfl, rfl⟩)
  go_ret
  exact ⟨ret_int HR.out, rfl⟩
end Go.Proofs.YtoimjjhopljdmaaGreat
