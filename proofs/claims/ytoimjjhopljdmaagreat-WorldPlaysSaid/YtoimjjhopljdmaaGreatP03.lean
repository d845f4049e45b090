/- Texts Del PoolF PoolG PoolH PoolI PoolK PoolN LapA: what the claim reaches of them. Conditions stand at each theorem. -/
import Derived.Shelf.SlicesE.DeleteFunc
import Derived.Laws.MakeOwn
import Derived.Test.YtoimjjhopljdmaaGreatP02
set_option maxRecDepth 100000
set_option maxHeartbeats 8000000
namespace Go.Proofs.YtoimjjhopljdmaaGreat
open Go.RowKit
open Go.Proofs.Tryz (prog)
open Go.Value (int)
open Go.IntKind (i64)
open Go.Lib (hid)
section
open Go.Shelf Go.Sort Go.Lib
def ren10 : Ren := ⟨fun n => if n = 6 then 153 else if n = 10 then 130 else 0, fun n => if n = 0 then 0 else if n = 3 then 3 else if n = 4 then 4 else if n = 22 then 176 else if n = 23 then 3 else if n = 25 then 180 else 0, fun _ => 0⟩
theorem lays10 : SlLaysH.n10 prog ren10 := {
 mixed := by kernel_rfl
 f6 := ⟨Tryz.f153.name, by decide, by kernel_rfl⟩
 f10 := ⟨Tryz.f130.name, by decide, by kernel_rfl⟩
 t0 := by kernel_rfl
 a0 := fun _ => by kernel_rfl
 z0 := fun _ => by kernel_rfl
 v0 := fun _ => by kernel_rfl
 t3 := by kernel_rfl
 a3 := fun _ => by kernel_rfl
 z3 := fun _ => by kernel_rfl
 v3 := fun _ => by kernel_rfl
 t4 := by kernel_rfl
 a4 := fun _ => by kernel_rfl
 z4 := fun _ => by kernel_rfl
 v4 := fun _ => by kernel_rfl
 t22 := by kernel_rfl
 a22 := fun _ => by kernel_rfl
 z22 := fun _ => by kernel_rfl
 v22 := fun _ => by kernel_rfl
 a23 := fun _ => by kernel_rfl
 z23 := fun _ => by kernel_rfl
 t25 := by kernel_rfl
 a25 := fun _ => by kernel_rfl
 z25 := fun _ => by kernel_rfl
 v25 := fun _ => by kernel_rfl }
theorem Turned.of_below {w w' : World} {b : Option Nat} (h : Below w.heap.size w w') : Turned w w' b := ⟨h.os, h.tape, h.output, h.size, fun k hk _ => h.block k hk⟩
theorem putRow_turned {α : Type} [Inhabited α] (enc : α → Value) (w : World) (g off q : Nat) (d : Array α) (os : Array Obj) : Turned w (grow (putRow enc (Sort.ahead w q) g off d) os) (some g) := by
 refine ⟨rfl, rfl, rfl, ?_, fun k hk hne => ?_⟩
 · simp [grow, Sort.ahead]
 · have hgk : g ≠ k := fun e => hne (by rw [e])
   show ((putRow enc (Sort.ahead w q) g off d).heap ++ os)[k]? = _
   rw [Array.getElem?_append_left (by simpa [Sort.ahead] using hk)]
   simp [putRow, mapBlock, Array.getElem?_modify, Sort.ahead, hgk]
theorem putRow_heap {α : Type} [Inhabited α] (enc : α → Value) (w : World) (g off q : Nat) (d : Array α) (cur : Array Value) (e : TypeId) (fr : Nat × Nat) (h : w.heap[g]? = some (.cells cur e fr)) :
 (putRow enc (Sort.ahead w q) g off d).heap[g]? = some (.cells (putCells enc off d cur) e fr) := by
 simp [putRow, mapBlock, Sort.ahead, Array.getElem?_modify, h, onCells]
def Kept (w w' : World) (v v' : Value) (zs : List Int) : Prop := Sl w' 3 1 v' zs.length (zs.map (Value.int .i64)) ∧ Turned w w' v.ownBlock ∧ v'.ownBlock = v.ownBlock ∧ ∃ p n c, v' = .slice p n c
theorem del_nil (g : Nat) (lb : Array Value) (w : World) :
 Calls prog 130 #[.slice none 0 0, .func (.func g) #[] lb] w fun e w' => e = .returned (.slice none 0 0) ∧ w = w' := by
 have hI : Calls prog 153 #[.slice none 0 0, .func (.func g) #[] lb] w fun e w' => e = .returned (int i64 (-1)) ∧ w = w' := by
  go_enter Tryz.func153, Tryz.ntmps153
  go_wp2_with fail
  refine wp_loop_rounds 1 ?_
  rw [rounds_succ]
  go_wp2
  go_ret
  exact ⟨rfl, rfl⟩
 go_enter Tryz.func130, Tryz.ntmps130
 go_wp2_with (go_at_call 153; refine hI.mono ?_; rintro e w' ⟨rfl, rfl⟩)
 go_ret
 exact ⟨rfl, rfl⟩
theorem del_sl (g : Nat) (lb : Array Value) (eg : ∀ args w, (callFunc g args).run prog w = .ok (.enter g args) w) (p : Int → Bool) (v : Value) (zs : List Int) (w : World) (hs : Sl w 3 1 v zs.length (zs.map (Value.int .i64)))
 (HC : ∀ W, Turned w W v.ownBlock → ∀ x, x ∈ zs ∨ x = 0 → Calls prog g (#[int i64 x] ++ lb) W fun e w' => e = .returned (.bool (p x)) ∧ ∃ q, w' = W.drewN q) :
 Calls prog 130 #[v, .func (.func g) #[] lb] w fun e w' => ∃ v', e = .returned v' ∧ Kept w w' v v' (zs.filter fun x => !p x) := by
 obtain ⟨_, ⟨rfl, h0⟩ | ⟨blk, off, cap, cur, rfl, hb, hn, hc, hsz, hr⟩⟩ := hs
 · obtain rfl : zs = [] := List.eq_nil_of_length_eq_zero h0
   refine (del_nil g lb w).mono ?_
   rintro e w' ⟨rfl, rfl⟩
   exact ⟨_, rfl, ⟨by simp, .inl ⟨rfl, rfl⟩⟩, Turned.of_below (Below.refl _ _), rfl, _, _, _, rfl⟩
 · let α := { x : Int // x ∈ zs ∨ x = 0 }
   let enc : α → Value := fun x => int i64 x.1
   let l : List α := zs.attach.map fun x => ⟨x.1, .inl x.2⟩
   have hin : Inhabited α := ⟨⟨0, .inr rfl⟩⟩
   have hlen : l.length = zs.length := by simp [l]
   have hlm : l.map (fun x => x.1) = zs := by simp [l, List.map_map, Function.comp_def]
   have hH : Holds enc w blk off l.toArray := by
    intro j hj
    have hj' : j < zs.length := by simpa [hlen] using hj
    have e1 : (l.toArray[j]!).1 = zs[j] := by
     rw [getElem!_pos l.toArray j hj]
     simp [l]
    refine ⟨?_, by simp [World.frozen?, hb]⟩
    show w.cell? _ = some (int i64 (l.toArray[j]!).1)
    rw [e1]
    simp [World.cell?, hb, hr j (int i64 zs[j]) (by simp [hj'])]
   clear_value l
   have hcon := AnyE.slices_DeleteFunc lays10 enc (fun _ => rfl) (fun x => p x.1) g lb eg ⟨0, .inr rfl⟩ (fun _ => by kernel_rfl) blk off cap l.toArray w
    (fun W x hbW => HC W (Turned.of_below hbW) x.1 x.2) (fun n os dk x _ => HC _ (putRow_turned enc w blk off n dk os) x.1 x.2) hH (by simp [hlen]; unfold maxLen at hc; omega) (by simp [hlen]; omega)
   have hfl : (l.filter fun x : α => !p x.1).map (fun x => x.1) = zs.filter fun x => !p x := by
    refine Eq.trans ?_ (congrArg (List.filter fun x => !p x) hlm)
    rw [List.filter_map]
    rfl
   have hfe : (l.filter fun x : α => !p x.1).length = (zs.filter fun x => !p x).length := by rw [← hfl, List.length_map]
   have hle : (zs.filter fun x => !p x).length ≤ zs.length := List.length_filter_le _ _
   have e0 : l.toArray.size = zs.length := by simp [hlen]
   rw [e0] at hcon
   refine hcon.mono ?_
   rintro e w' ⟨rfl, q, rfl⟩
   have hheap := putRow_heap enc w blk off q ((l.filter fun x : α => !p x.1) ++ List.replicate (zs.length - (l.filter fun x : α => !p x.1).length) (⟨0, .inr rfl⟩ : α)).toArray cur _ _ hb
   refine ⟨_, rfl, ⟨by simp, .inr ⟨blk, off, cap, _, ?_, hheap, by omega, hc, ?_, fun j u hj => ?_⟩⟩, ?_, rfl, _, _, _, rfl⟩
   · rw [hfe]
   · simp [putCells]; omega
   · have hj' : j < (zs.filter fun x => !p x).length := by
      have := (List.getElem?_eq_some_iff.1 hj).1; simpa using this
     have hjl : j < (l.filter fun x : α => !p x.1).length := by omega
     have hcj : (cur[off + j]?).isSome = true := by simp; omega
     obtain ⟨y, hy⟩ := Option.isSome_iff_exists.1 hcj
     simp only [putCells, Array.getElem?_mapIdx, hy, Option.map_some]
     rw [if_pos ⟨by omega, by simp; omega⟩, show off + j - off = j by omega, getElem!_pos _ j (by simp; omega)]
     simp only [List.getElem_toArray]
     rw [List.getElem_append_left hjl]
     rw [← hfl] at hj
     simp only [List.getElem?_map, List.getElem?_eq_getElem hjl, Option.map_some, Option.some.injEq] at hj
     rw [← hj]
   · have := putRow_turned enc w blk off q ((l.filter fun x : α => !p x.1) ++ List.replicate (zs.length - (l.filter fun x : α => !p x.1).length) (⟨0, .inr rfl⟩ : α)).toArray #[]
     rw [grow_empty] at this
     exact this
end
theorem Sl.cells {w : World} {v : Value} {zs : List Int} (hs : Sl w 3 1 v zs.length (zs.map (Value.int .i64))) : ∃ p cap, v = .slice p zs.length cap ∧ zs.length ≤ maxLen ∧ ∀ k, k < zs.length → ∃ b off, p = some ⟨b, off, none⟩ ∧ zs.length ≤ cap ∧ w.cell? ⟨b, off + k, none⟩ = some (int i64 (zs.getD k 0)) := by
 obtain ⟨_, ⟨rfl, h0⟩ | ⟨blk, off, cap, cur, rfl, hb, hn, hc, hsz, hr⟩⟩ := hs
 · exact ⟨none, 0, by rw [h0], by omega, fun k hk => by omega⟩
 · refine ⟨_, cap, rfl, by omega, fun k hk => ⟨blk, off, rfl, hn, ?_⟩⟩
   simp [World.cell?, hb, hr k (int i64 (zs.getD k 0)) (by simp [List.getD, hk])]
theorem index_any (v : Value) (zs : List Int) (x : Int) (w : World) (hs : Sl w 3 1 v zs.length (zs.map (Value.int .i64))) :
 Calls prog 152 #[v, int i64 x] w fun e w' => (∃ r : Int, e = .returned (int i64 r) ∧ decide (0 ≤ r) = decide (x ∈ zs)) ∧ w = w' := by
 obtain ⟨p, cap, rfl, hlen, hc⟩ := hs.cells
 unfold maxLen at hlen
 have HC := hid hc
 clear hs hc
 go_enter Tryz.func152, Tryz.ntmps152
 go_wp2
 go_loop [8] (fun i => ∃ k : Nat, k ≤ zs.length ∧ i = int i64 k ∧ Hid (∀ j, j < k → zs.getD j 0 ≠ x)) (fun i => zs.length - (intOf i).toNat)
 case atStart => exact ⟨0, Nat.zero_le _, rfl, fun j hj => by omega⟩
 case round =>
  obtain ⟨k, hk, rfl, hno⟩ := hrel
  by_cases hlt : k < zs.length
  · obtain ⟨b, off, rfl, hcap, hcell⟩ := HC.out k hlt
    by_cases he : zs.getD k 0 = x
    · have hin : decide (x ∈ zs) = true := by
       rw [← he]; simp [List.getD, hlt]
      have HIN := hid hin
      clear hin
      have hb : (x == zs.getD k 0) = true := by rw [he]; simp
      have HE := hid he
      clear he
      generalize zs.getD k 0 = z at *
      go_wp2
      go_ret
      exact ⟨⟨k, rfl, by have h := HIN.out; simpa using h⟩, rfl⟩
    · have hb : (x == zs.getD k 0) = false := by simp; exact fun h => he h.symm
      have hno' : Hid (∀ j, j < k + 1 → zs.getD j 0 ≠ x) := fun j hj => by
       by_cases hjk : j = k
       · rw [hjk]; exact he
       · exact hno.out j (by omega)
      clear he
      generalize zs.getD k 0 = z at *
      go_wp2
      go_round
      case rel => exact ⟨k + 1, by omega, by go_num, hno'⟩
      case measure => simp [intOf]; omega
  · have hin : decide (x ∈ zs) = false := by
     rw [decide_eq_false_iff_not]
     intro hm
     obtain ⟨j, hj, e⟩ := List.getElem_of_mem hm
     exact hno.out j (by omega) (by simp [List.getD, hj, e])
    have HIN := hid hin
    clear hin
    go_wp2
    go_ret
    exact ⟨⟨-1, rfl, by have h := HIN.out; simpa using h⟩, rfl⟩
theorem contains_any (v : Value) (zs : List Int) (x : Int) (w : World) (hs : Sl w 3 1 v zs.length (zs.map (Value.int .i64))) :
 Calls prog 129 #[v, int i64 x] w fun e w' => e = .returned (.bool (decide (x ∈ zs))) ∧ w = w' := by
 have hi := hid (index_any v zs x w hs)
 clear hs
 generalize decide (x ∈ zs) = B at *
 go_enter Tryz.func129, Tryz.ntmps129
 go_wp2_with (go_at_call 152; refine hi.out.mono ?_; rintro e w' ⟨⟨r, rfl, hr⟩, rfl⟩)
 go_ret
 exact ⟨by simp, rfl⟩
def frOf (M : List Sh) (k : Int) : List Int := match shOf M k with
 | none => []
 | some m => m.free
def takeF (M : List Sh) (s i g : Int) : Int × List Sh := match ixOf M s i with
 | none => (1, M)
 | some x => if g < 0 then (1, M) else if i ∉ frOf M s then (14, M) else if g < x.gen ∨ x.bound ≤ g then (9, M) else
   (0, setFr (setIx M s i ⟨g, x.bound, true⟩) s ((frOf M s).filter fun j => !(j == i)))
theorem frOf_nat {M : List Sh} {k : Nat} {m : Sh} (hm : M[k]? = some m) : frOf M k = m.free := by simp [frOf, shOf, hm]
theorem take_none (w : World) (s i g : Int) :
 Calls prog 89 #[.pointer none, .agg #[int i64 s, int i64 i, int i64 g]] w fun e w' => e = .returned (int i64 1) ∧ Below w.heap.size w w' := by
 go_enter Tryz.func89, Tryz.ntmps89
 go_wp2_with (go_at_call 125; refine belA (at_none _ _ _) fun d os => ?_)
 go_ret
 exact ⟨rfl, bg⟩
theorem take_out (w : World) (L : Lay) (M : List Sh) (s i g : Int) (h : PoolAt w L M) (ho : ixOf M s i = none) :
 Calls prog 89 #[.pointer (some ⟨L.P, 0, none⟩), .agg #[int i64 s, int i64 i, int i64 g]] w fun e w' => e = .returned (int i64 1) ∧ Below w.heap.size w w' := by
 have HAT := hid (at_out _ L M s i (h.grown ((Below.refl _ _).alloc (Nat.le_refl _) (.cells #[int i64 s, int i64 i, int i64 g] 30))) ho)
 clear ho
 go_enter Tryz.func89, Tryz.ntmps89
 go_wp2_with (go_at_call 125; refine belA (HAT.out) fun d os => ?_)
 go_ret
 exact ⟨rfl, bg⟩
theorem take_neg (w : World) (L : Lay) (M : List Sh) (s i g : Int) (x : Ix) (h : PoolAt w L M) (hx : ixOf M s i = some x) (hg : g < 0) :
 Calls prog 89 #[.pointer (some ⟨L.P, 0, none⟩), .agg #[int i64 s, int i64 i, int i64 g]] w fun e w' => e = .returned (int i64 1) ∧ Below w.heap.size w w' := by
 obtain ⟨s, i, m, l, rfl, rfl, hm, hl, hx'⟩ := ixOf_nat h hx
 have HAT := hid (at_in _ L M s i m l (h.grown ((Below.refl _ _).alloc (Nat.le_refl _) (.cells #[int i64 s, int i64 i, int i64 g] 30))) hm hl (List.getElem?_eq_some_iff.1 hx').1)
 clear hx hx' hm hl
 go_enter Tryz.func89, Tryz.ntmps89
 go_wp2_with (go_at_call 125; refine belA (HAT.out) fun d os => ?_)
 go_ret
 exact ⟨rfl, bg⟩
theorem take_state (w : World) (L : Lay) (M : List Sh) (s i g : Int) (x : Ix) (h : PoolAt w L M) (hx : ixOf M s i = some x) (hg : 0 ≤ g) (hn : i ∉ frOf M s) :
 Calls prog 89 #[.pointer (some ⟨L.P, 0, none⟩), .agg #[int i64 s, int i64 i, int i64 g]] w fun e w' => e = .returned (int i64 14) ∧ Below w.heap.size w w' := by
 obtain ⟨s, i, m, l, rfl, rfl, hm, hl, hx'⟩ := ixOf_nat h hx
 have HAT := hid (at_in _ L M s i m l (h.grown ((Below.refl _ _).alloc (Nat.le_refl _) (.cells #[int i64 s, int i64 i, int i64 g] 30))) hm hl (List.getElem?_eq_some_iff.1 hx').1)
 rw [frOf_nat hm] at hn
 obtain ⟨hcA, hcF, fS, hfr, hinv, hk, hsl⟩ := h.sh hm hl
 have b2 : L.S < w.heap.size := World.block_lt_of_cell? w _ hcA
 obtain ⟨b20, b21, b22, b23⟩ := lts b2
 have HCT := fun w' (hb : Below w.heap.size w w') => contains_any l.fv m.free i w' ((h.grown hb).sh hm hl).2.2.2.2.2.2
 rw [decide_eq_false hn] at HCT
 have HCT := hid HCT
 clear hx hx' hm hl hn hinv hfr fS hsl
 generalize l.fv = fv at *
 go_enter Tryz.func89, Tryz.ntmps89
 go_wp2_with (go_at_call 125; refine belA (HAT.out) fun d os => ?_)
 refine wpm ?_
 repeat (go_big_quiet_step ((first | (go_at_call 129; exact more_same (HCT.out _ bg)))))
 refine wpQuiet_nil ?_
 rintro _ ⟨pm, rfl⟩
 go_wp2
 go_ret
 exact ⟨rfl, bg⟩
theorem take_stale (w : World) (L : Lay) (M : List Sh) (s i g : Int) (x : Ix) (h : PoolAt w L M) (hx : ixOf M s i = some x) (hg : 0 ≤ g) (hn : i ∈ frOf M s) (hst : g < x.gen ∨ x.bound ≤ g) :
 Calls prog 89 #[.pointer (some ⟨L.P, 0, none⟩), .agg #[int i64 s, int i64 i, int i64 g]] w fun e w' => e = .returned (int i64 9) ∧ Below w.heap.size w w' := by
 obtain ⟨s, i, m, l, rfl, rfl, hm, hl, hx'⟩ := ixOf_nat h hx
 have HAT := hid (at_in _ L M s i m l (h.grown ((Below.refl _ _).alloc (Nat.le_refl _) (.cells #[int i64 s, int i64 i, int i64 g] 30))) hm hl (List.getElem?_eq_some_iff.1 hx').1)
 rw [frOf_nat hm] at hn
 obtain ⟨hcA, hcF, fS, hfr, hinv, hk, hsl⟩ := h.sh hm hl
 obtain ⟨c0, c1, c2⟩ := h.ix hm hl hx'
 have b1 : l.A < w.heap.size := World.block_lt_of_cell? w _ c1
 obtain ⟨b10, b11, b12, b13⟩ := lts b1
 have b2 : L.S < w.heap.size := World.block_lt_of_cell? w _ hcA
 obtain ⟨b20, b21, b22, b23⟩ := lts b2
 have HCT := fun w' (hb : Below w.heap.size w w') => contains_any l.fv m.free i w' ((h.grown hb).sh hm hl).2.2.2.2.2.2
 rw [decide_eq_true hn] at HCT
 have HCT := hid HCT
 clear hx hx' hm hl hn hinv hfr fS hsl
 generalize l.fv = fv at *
 generalize l.A = A at *
 obtain ⟨gen, bound, alive⟩ := x
 simp only at hst c0 c1 c2
 by_cases h1 : g < gen
 · go_enter Tryz.func89, Tryz.ntmps89
   go_wp2_with (go_at_call 125; refine belA (HAT.out) fun d os => ?_)
   refine wpm ?_
   repeat (go_big_quiet_step ((first | (go_at_call 129; exact more_same (HCT.out _ bg)))))
   refine wpQuiet_nil ?_
   rintro _ ⟨pm, rfl⟩
   go_wp2_with fail
   refine wpm ?_
   repeat (go_big_quiet_step (fail))
   refine wpQuiet_nil ?_
   rintro _ ⟨pn, rfl⟩
   go_wp2
   go_ret
   exact ⟨rfl, bg⟩
 · have h2 : bound ≤ g := by omega
   have h3 : gen ≤ g := by omega
   have hd1 : decide (g < gen) = false := by simp; omega
   clear hst h1
   go_enter Tryz.func89, Tryz.ntmps89
   go_wp2_with (go_at_call 125; refine belA (HAT.out) fun d os => ?_)
   refine wpm ?_
   repeat (go_big_quiet_step ((first | (go_at_call 129; exact more_same (HCT.out _ bg)))))
   refine wpQuiet_nil ?_
   rintro _ ⟨pm, rfl⟩
   go_wp2_with fail
   refine wpm ?_
   repeat (go_big_quiet_step (fail))
   refine wpQuiet_nil ?_
   rintro _ ⟨pn, rfl⟩
   go_wp2
   go_ret
   exact ⟨rfl, bg⟩
theorem take1_any (b : Nat) (x i : Int) (W : World) (hc : W.cell? ⟨b, 1, none⟩ = some (int i64 i)) :
 Calls prog 131 (#[int i64 x] ++ #[.pointer (some ⟨b, 0, none⟩)]) W fun e w' => e = .returned (.bool (x == i)) ∧ ∃ q, w' = W.drewN q := by
 show Calls prog 131 #[int i64 x, .pointer (some ⟨b, 0, none⟩)] W _
 go_enter Tryz.func131, Tryz.ntmps131
 go_wp2
 go_ret
 exact ⟨rfl, 0, rfl⟩
theorem ShInv.drop {m : Sh} {i : Nat} (h : ShInv m) (x' : Ix) (hr : 0 ≤ x'.gen ∧ x'.gen ≤ 1048576 ∧ 0 ≤ x'.bound ∧ x'.bound ≤ 1048576 ∧ (x'.alive = true → x'.gen < 1048576)) :
 ShInv { m with free := m.free.filter fun j => !(j == (i : Int)) } ∧ ShInv { m with all := m.all.set i x', free := m.free.filter fun j => !(j == (i : Int)) } := by
 have h1 : ShInv { m with free := m.free.filter fun j => !(j == (i : Int)) } :=
  ⟨h.few, h.rng, fun f hf => h.fr f ((List.mem_filter.1 hf).1), h.nd.filter _, fun f hf => h.dead f ((List.mem_filter.1 hf).1)⟩
 exact ⟨h1, h1.set_ix i x' hr fun hf => by simp [List.mem_filter] at hf⟩
theorem take_in (w : World) (L : Lay) (M : List Sh) (s i g : Int) (x : Ix) (h : PoolAt w L M) (hx : ixOf M s i = some x) (hg : 0 ≤ g) (hn : i ∈ frOf M s) (h1 : x.gen ≤ g) (h2 : g < x.bound) :
 Calls prog 89 #[.pointer (some ⟨L.P, 0, none⟩), .agg #[int i64 s, int i64 i, int i64 g]] w fun e w' => e = .returned (int i64 0) ∧ Stp w L w' (setFr (setIx M s i ⟨g, x.bound, true⟩) s ((frOf M s).filter fun j => !(j == i))) := by
 obtain ⟨s, i, m, l, rfl, rfl, hm, hl, hx'⟩ := ixOf_nat h hx
 have HAT := hid (at_in _ L M s i m l (h.grown ((Below.refl _ _).alloc (Nat.le_refl _) (.cells #[int i64 s, int i64 i, int i64 g] 30))) hm hl (List.getElem?_eq_some_iff.1 hx').1)
 rw [frOf_nat hm] at hn ⊢
 obtain ⟨hcA, hcF, fS, hfr, hinv, hk, hsl⟩ := h.sh hm hl
 obtain ⟨c0, c1, c2⟩ := h.ix hm hl hx'
 have f0 := hfr (i * 3)
 have f2 := hfr (i * 3 + 2)
 have f3 := fS (s * 2 + 1)
 have b1 : l.A < w.heap.size := World.block_lt_of_cell? w _ c1
 obtain ⟨b10, b11, b12, b13⟩ := lts b1
 have b2 : L.S < w.heap.size := World.block_lt_of_cell? w _ hcA
 obtain ⟨b20, b21, b22, b23⟩ := lts b2
 have b3 := h.S_ne_A hl
 have hr := hinv.rng i x hx'
 have HCT := fun w' (hb : Below w.heap.size w w') => contains_any l.fv m.free i w' ((h.grown hb).sh hm hl).2.2.2.2.2.2
 rw [decide_eq_true hn] at HCT
 have HCT := hid HCT
 obtain ⟨i1, i2⟩ := hinv.drop (i := i) ⟨g, x.bound, true⟩ ⟨hg, by simp only; omega, hr.2.2.1, hr.2.2.2.1, fun _ => by simp only; omega⟩
 have fin : ∀ (W : World), Below w.heap.size w W → Sl W 3 1 l.fv m.free.length (m.free.map (Value.int .i64)) ∧ ∀ (v' : Value) (w1 : World), Kept W w1 l.fv v' (m.free.filter fun j => !(j == (i : Int))) →
  Stp w L (((w1.setCell ⟨L.S, s * 2 + 1, none⟩ v').setCell ⟨l.A, i * 3, none⟩ (int i64 g)).setCell ⟨l.A, i * 3 + 2, none⟩ (.bool true)) (setFr (setIx M s i ⟨g, x.bound, true⟩) s (m.free.filter fun j => !(j == (i : Int)))) := by
  intro W hW
  have PW : PoolAt W L M := h.grown hW
  refine ⟨(PW.sh hm hl).2.2.2.2.2.2, fun v' w1 hk1 => ?_⟩
  obtain ⟨hs1, ht, ho, _⟩ := hk1
  obtain ⟨p2, o2⟩ := PW.set_free hm hl (w1 := w1) (Chg.of_turned ht fun k e _ => e) (v := v') (fr := m.free.filter fun j => !(j == (i : Int))) hs1 (fun g' hg' => .inl (by rw [← ho]; exact hg')) i1
  have hk2 : s < L.sh.length := (List.getElem?_eq_some_iff.1 hl).1
  have p3 := p2.set_ga (k := s) (i := i) (m := { m with free := m.free.filter fun j => !(j == (i : Int)) }) (l := { l with fv := v' }) (x := x) (x' := ⟨g, x.bound, true⟩) (List.getElem?_set_self hk) (List.getElem?_set_self hk2) hx' rfl i2
  refine ⟨L.put s { l with fv := v' }, rfl, ?_, ?_, fun b hb => (o2 b hb).imp_right fun h => Nat.le_trans hW.size h⟩
  · rw [setIx_nat _ hm, setFr_nat (m := { m with all := m.all.set i ⟨g, x.bound, true⟩ }) _ (List.getElem?_set_self hk)]
    rw [List.set_set] at p3 ⊢
    exact p3
  · exact ((((Chg.of_below hW (F := L.own)).trans (Chg.of_turned ht (F := L.own) fun k e _ => Lay.own_at hl (.inr (.inr e))) fun _ _ h => h).setCell ⟨L.S, s * 2 + 1, none⟩ _ (.inl ⟨1, rfl⟩)).setCell ⟨l.A, i * 3, none⟩ _ (.inl (Lay.own_at hl (.inr (.inl rfl))))).setCell ⟨l.A, i * 3 + 2, none⟩ _ (.inl (Lay.own_at hl (.inr (.inl rfl))))
 have FIN := hid fin
 have HN := hid (fun e => h.S_ne_F hl e rfl : l.fv.ownBlock ≠ some L.S)
 have HN2 := hid (fun e => by have := hsl.lt e; omega : l.fv.ownBlock ≠ some w.heap.size)
 have HN3 := hid (fun e => h.A_ne_F hl hl e rfl : l.fv.ownBlock ≠ some l.A)
 obtain ⟨gen, bound, alive⟩ := x
 simp only at h1 h2 c0 c1 c2
 have hd1 : decide (g < gen) = false := by simp; omega
 have hd2 : decide (bound ≤ g) = false := by simp; omega
 generalize l.fv = fv at *
 generalize l.A = A at *
 have HX := hid hx
 clear hx hx' hm hl hn hinv hfr fS hsl fin i1 i2 hr
 go_enter Tryz.func89, Tryz.ntmps89
 go_wp2_with (go_at_call 125; refine belA (HAT.out) fun d os => ?_)
 refine wpm ?_
 repeat (go_big_quiet_step ((first | (go_at_call 129; exact more_same (HCT.out _ bg)))))
 refine wpQuiet_nil ?_
 rintro _ ⟨pm, rfl⟩
 go_wp2_with fail
 refine wpm ?_
 repeat (go_big_quiet_step (fail))
 refine wpQuiet_nil ?_
 rintro _ ⟨pn, rfl⟩
 go_wp2_with fail
 have eg : ∀ args w, (callFunc 131 args).run prog w = .ok (.enter 131 args) w := enters_of Tryz.func131 (by kernel_rfl) rfl
 refine (del_sl 131 _ eg (fun j => j == (i : Int)) fv m.free _ (FIN.out _ bg).1 ?_).mono ?_
 · intro W' ht x _
   exact take1_any _ _ _ _ (by rw [ht.cell (by simp; omega) HN2.out]; simp [go_sem])
 rintro e w1 ⟨v', rfl, hs1, ht, ho, p, n, c, rfl⟩
 have k1 : w1.cell? ⟨L.S, s * 2 + 1, none⟩ = some fv := by rw [ht.cell (by simp; omega) HN.out]; simp [go_sem, hcF, b20, b21, b22, b2]
 have k2 : w1.frozen? ⟨L.S, s * 2 + 1, none⟩ = false := by rw [ht.frozen (by simp; omega) HN.out]; simp [go_sem, f3, b20, b21, b22, b2]
 have k3 : w1.cell? ⟨A, i * 3, none⟩ = some (int i64 gen) := by rw [ht.cell (by simp; omega) HN3.out]; simp [go_sem, c0, b10, b11, b12, b1]
 have k4 : w1.frozen? ⟨A, i * 3, none⟩ = false := by rw [ht.frozen (by simp; omega) HN3.out]; simp [go_sem, f0, b10, b11, b12, b1]
 have k5 : w1.cell? ⟨A, i * 3 + 2, none⟩ = some (.bool alive) := by rw [ht.cell (by simp; omega) HN3.out]; simp [go_sem, c2, b10, b11, b12, b1]
 have k6 : w1.frozen? ⟨A, i * 3 + 2, none⟩ = false := by rw [ht.frozen (by simp; omega) HN3.out]; simp [go_sem, f2, b10, b11, b12, b1]
 have k7 : w1.cell? ⟨w.heap.size, 2, none⟩ = some (int i64 g) := by rw [ht.cell (by simp; omega) HN2.out]; simp [go_sem]
 have k8 : w.heap.size ≠ L.S := by omega
 have HO := hid ho
 clear ho eg
 go_wp2
 go_ret
 exact ⟨rfl, (FIN.out _ bg).2 _ w1 ⟨hs1, ht, HO.out, _, _, _, rfl⟩⟩
theorem free_ix {w : World} {L : Lay} {M : List Sh} (h : PoolAt w L M) {k : Int} {m : Sh} {f : Int} {fs : List Int} (hm : shOf M k = some m) (hf : m.free = f :: fs) : ∃ x, m.all[f.toNat]? = some x := by
 obtain ⟨k, l, rfl, hm', hl⟩ := shOf_nat h hm
 have hi := (h.sh hm' hl).2.2.2.2.1.fr f (by rw [hf]; simp)
 exact ⟨m.all[f.toNat]'(by omega), List.getElem?_eq_getElem _⟩
def headF (M : List Sh) (k : Int) : Int × Bool × Int := match shOf M k with
 | none => (0, false, 1)
 | some m => match m.free with
   | [] => (0, false, 8)
   | f :: _ => match m.all[f.toNat]? with
     | none => (0, false, 8)
     | some x => (f, decide (x.gen < x.bound), 0)
theorem head_any (w : World) (L : Lay) (M : List Sh) (k : Int) (h : PoolAt w L M) :
 Calls prog 86 #[.pointer (some ⟨L.P, 0, none⟩), int i64 k] w fun e w' =>
  e = .returned (.tuple #[int i64 (headF M k).1, .bool (headF M k).2.1, int i64 (headF M k).2.2]) ∧ Below w.heap.size w w' := by
 cases hm : shOf M k with
 | none => simp only [headF, hm]; exact head_out w L M k h hm
 | some m =>
   cases hf : m.free with
   | nil => simp only [headF, hm, hf]; exact head_full w L M k m h hm hf
   | cons f fs =>
     obtain ⟨x, hx⟩ := free_ix h hm hf
     simp only [headF, hm, hf, hx]
     exact head_in w L M k m f fs x h hm hf hx
theorem free_any (w : World) (L : Lay) (M : List Sh) (s i g : Int) (h : PoolAt w L M) :
 Calls prog 108 #[.pointer (some ⟨L.P, 0, none⟩), .agg #[int i64 s, int i64 i, int i64 g]] w fun e w' => e = .returned (int i64 (freeF M s i g).1) ∧ Stp w L w' (freeF M s i g).2 := by
 have HE := fun w' (hb : Below w.heap.size w w') => Stp.of_grown h hb
 cases hx : ixOf M s i with
 | none => simp only [freeF, hx]; exact (free_out w L M s i g h hx).mono fun e w' ⟨he, hb⟩ => ⟨he, HE w' hb⟩
 | some x =>
   by_cases hg : g < 0
   · simp only [freeF, hx, if_pos hg]; exact (free_neg w L M s i g x h hx hg).mono fun e w' ⟨he, hb⟩ => ⟨he, HE w' hb⟩
   · cases ha : (x.alive && x.gen == g) with
     | false => simp only [freeF, hx, if_neg hg, ha, if_true]; exact (free_stale w L M s i g x h hx (by omega) ha).mono fun e w' ⟨he, hb⟩ => ⟨he, HE w' hb⟩
     | true =>
       have ha' := ha
       simp only [Bool.and_eq_true, beq_iff_eq] at ha'
       by_cases hw : x.gen + 1 < 1048576
       · simp only [freeF, hx, if_neg hg, ha, if_pos hw, Bool.true_eq_false, if_false]
         exact free_in w L M s i g x h hx ha'.1 ha'.2 hw
       · simp only [freeF, hx, if_neg hg, ha, if_neg hw, Bool.true_eq_false, if_false]
         exact free_worn w L M s i g x h hx ha'.1 ha'.2 hw
theorem take_any (w : World) (L : Lay) (M : List Sh) (s i g : Int) (h : PoolAt w L M) :
 Calls prog 89 #[.pointer (some ⟨L.P, 0, none⟩), .agg #[int i64 s, int i64 i, int i64 g]] w fun e w' => e = .returned (int i64 (takeF M s i g).1) ∧ Stp w L w' (takeF M s i g).2 := by
 have HE := fun w' (hb : Below w.heap.size w w') => Stp.of_grown h hb
 cases hx : ixOf M s i with
 | none => simp only [takeF, hx]; exact (take_out w L M s i g h hx).mono fun e w' ⟨he, hb⟩ => ⟨he, HE w' hb⟩
 | some x =>
   by_cases hg : g < 0
   · simp only [takeF, hx, if_pos hg]; exact (take_neg w L M s i g x h hx hg).mono fun e w' ⟨he, hb⟩ => ⟨he, HE w' hb⟩
   · by_cases hn : i ∈ frOf M s
     · by_cases hst : g < x.gen ∨ x.bound ≤ g
       · simp only [takeF, hx, if_neg hg, hn, not_true, if_false, if_pos hst]
         exact (take_stale w L M s i g x h hx (by omega) hn hst).mono fun e w' ⟨he, hb⟩ => ⟨he, HE w' hb⟩
       · simp only [takeF, hx, if_neg hg, hn, not_true, if_false, if_neg hst]
         exact take_in w L M s i g x h hx (by omega) hn (by omega) (by omega)
     · simp only [takeF, hx, if_neg hg, hn, not_false_eq_true, if_true]
       exact (take_state w L M s i g x h hx (by omega) hn).mono fun e w' ⟨he, hb⟩ => ⟨he, HE w' hb⟩
def freshIx (ids : Nat) : List Ix := List.replicate ids ⟨0, 0, false⟩
def fresh (ids j : Nat) : Sh := ⟨freshIx ids, (List.range j).map Int.ofNat⟩
theorem fresh_inv (ids j : Nat) (h : ids ≤ 16) (hj : j ≤ ids) : ShInv (fresh ids j) := by
 refine ⟨by simp [fresh, freshIx, h], fun i x hx => ?_, fun f hf => ?_, ?_, fun f hf x hx => ?_⟩
 · simp only [fresh, freshIx, List.getElem?_replicate] at hx
   split at hx
   · cases hx; simp
   · cases hx
 · simp only [fresh, List.mem_map, List.mem_range] at hf
   obtain ⟨a, ha, rfl⟩ := hf
   simp [fresh, freshIx]
   omega
 · show ((List.range j).map Int.ofNat).Nodup
   rw [List.nodup_iff_pairwise_ne] at *
   rw [List.pairwise_map]
   exact List.nodup_range.imp fun h e => h (Int.ofNat.inj e)
 · simp only [fresh, freshIx, List.getElem?_replicate] at hx
   split at hx
   · cases hx; rfl
   · cases hx
theorem made_get (z : Array Value) (n j : Nat) (h : j < n) : (madeCells z n)[j]? = some (z[j % z.size]!) := by
 simp [madeCells, h]
theorem set_self' (ca : Array Value) (j : Nat) (v : Value) (h : j < ca.size) : (ca.setIfInBounds j v)[j]? = some v := by simp [h]
def Lay.snoc (L : Lay) (l : ShL) : Lay := { L with sh := L.sh ++ [l] }
theorem PoolN.add {w w' : World} {L : Lay} {M : List Sh} {n ids : Nat} (h : PoolN w L M n) (hlt : M.length < n) (hids : ids ≤ 16)
 (hc : Chg w w' (fun b => b = L.S)) (hA : w'.heap[w.heap.size]? = some (.cells (madeCells #[int i64 0, int i64 0, .bool false] (ids * 3)) 186 (0, 0)))
 (hS : ∀ cur, w.heap[L.S]? = some (.cells cur 178 (0, 0)) → w'.heap[L.S]? = some (.cells (cur.setIfInBounds (M.length * 2) (.slice (some ⟨w.heap.size, 0, none⟩) ids ids)) 178 (0, 0))) :
 PoolN w' (L.snoc ⟨w.heap.size, .slice none 0 0⟩) (M ++ [fresh ids 0]) n ∧ ∀ b, (L.snoc ⟨w.heap.size, .slice none 0 0⟩).own b → L.own b ∨ w.heap.size ≤ b := by
 obtain ⟨cur, hcur, hsz, hrest, hsh⟩ := h.shards
 have hlen := h.len
 have hhas : ∀ t b, (L.snoc ⟨w.heap.size, .slice none 0 0⟩).has t b → L.has t b ∨ (t = 2 * M.length + 2 ∧ b = w.heap.size) := by
  intro t b ht
  match t, ht with
  | 0, ht => exact .inl ht
  | 1, ht => exact .inl ht
  | t + 2, ht =>
    obtain ⟨x, hx, hor⟩ := ht
    simp only [Lay.snoc, List.getElem?_append] at hx
    split at hx
    · exact .inl ⟨x, hx, hor⟩
    · have hlt2 := (List.getElem?_eq_some_iff.1 hx).1
      simp only [List.length_singleton] at hlt2
      rw [show t / 2 - L.sh.length = 0 by omega] at hx
      obtain rfl : (⟨w.heap.size, .slice none 0 0⟩ : ShL) = x := by simpa using hx
      rcases hor with ⟨h0, h1⟩ | ⟨h0, h1⟩
      · exact .inr ⟨by omega, h1.symm⟩
      · cases h1
 have hPn : L.P ≠ L.S := fun e => by have := h.apart 0 1 L.P rfl e.symm; omega
 refine ⟨⟨by simp [Lay.snoc, hlen], by simp; omega, h.few, (hc.block _ (lt_of_heap h.top) hPn).trans h.top, ⟨_, hS cur hcur, by simp [hsz], fun j hj hjn => ?_, fun k m l hm hl => ?_⟩, ?_⟩, ?_⟩
 · simp only [List.length_append, List.length_singleton] at hj
   rw [Array.getElem?_setIfInBounds_ne (by omega), Array.getElem?_setIfInBounds_ne (by omega)]
   exact hrest j (by omega) hjn
 · simp only [Lay.snoc, List.getElem?_append] at hm hl
   by_cases hk : k < M.length
   · rw [if_pos hk] at hm
     rw [if_pos (by omega)] at hl
     have hs := hsh k m l hm hl
     refine hs.keep (Array.getElem?_setIfInBounds_ne (by omega)) (Array.getElem?_setIfInBounds_ne (by omega)) (hc.block _ ?_ (fun e => h.S_ne_A hl e.symm)) fun g hg => hc.block _ (hs.free.lt hg) (fun e => h.S_ne_F hl hg e.symm)
     obtain ⟨ca, hca, _⟩ := hs.rows; exact lt_of_heap hca
   · rw [if_neg hk] at hm
     rw [if_neg (by omega)] at hl
     have hk0 : k - M.length = 0 := by
      have := (List.getElem?_eq_some_iff.1 hm).1
      simp only [List.length_singleton] at this
      omega
     rw [hk0] at hm
     rw [show k - L.sh.length = 0 by omega] at hl
     obtain rfl : fresh ids 0 = m := by simpa using hm
     obtain rfl : (⟨w.heap.size, .slice none 0 0⟩ : ShL) = l := by simpa using hl
     have hkM : k = M.length := by omega
     subst hkM
     refine ⟨?_, ?_, ⟨_, hA, ?_, fun i x hx => ?_⟩, ⟨by simp [fresh], .inl ⟨rfl, by simp [fresh]⟩⟩, fresh_inv ids 0 hids (Nat.zero_le _)⟩
     · rw [set_self' _ _ _ (by omega)]; simp [fresh, freshIx]
     · rw [Array.getElem?_setIfInBounds_ne (by omega)]
       exact (hrest M.length (Nat.le_refl _) hlt).2
     · rw [size_madeCells]; simp [fresh, freshIx, Nat.mul_comm]
     · simp only [fresh, freshIx, List.getElem?_replicate] at hx
       split at hx
       · rename_i hi
         cases hx
         refine ⟨?_, ?_, ?_⟩
         · rw [made_get _ _ _ (by omega), show (i * 3) % (#[Value.int .i64 0, int i64 0, .bool false] : Array Value).size = 0 by simp]; rfl
         · rw [made_get _ _ _ (by omega), show (i * 3 + 1) % (#[Value.int .i64 0, int i64 0, .bool false] : Array Value).size = 1 by simp]; rfl
         · rw [made_get _ _ _ (by omega), show (i * 3 + 2) % (#[Value.int .i64 0, int i64 0, .bool false] : Array Value).size = 2 by simp]; rfl
       · cases hx
 · intro t t' b ht ht'
   rcases hhas t b ht with a | ⟨a, hb⟩ <;> rcases hhas t' b ht' with a' | ⟨a', hb'⟩
   · exact h.apart t t' b a a'
   · have := h.lt ⟨t, a⟩; omega
   · have := h.lt ⟨t', a'⟩; omega
   · omega
 · rintro b ⟨t, ht⟩
   rcases hhas t b ht with a | ⟨_, hb⟩
   · exact .inl ⟨t, a⟩
   · exact .inr (by omega)
theorem info_ix : (prog.info? 186).map (fun i => (i.zero, i.size, i.bytes)) = some (some (.agg #[int i64 0, int i64 0, .bool false]), 3, 24) := by kernel_rfl
theorem info_sh : (prog.info? 178).map (fun i => (i.zero, i.size, i.bytes)) = some (some (.agg #[.slice none 0 0, .slice none 0 0]), 2, 48) := by kernel_rfl
def NewAt (w0 wr : World) (n ids k : Nat) (part : Option Nat) : Prop := ∃ L : Lay, L.P = w0.heap.size + 1 ∧ L.S = w0.heap.size ∧ PoolN wr L (List.replicate k (fresh ids ids) ++ (match part with | none => [] | some j => [fresh ids j])) n ∧ Below w0.heap.size w0 wr ∧ ∀ b, L.own b → w0.heap.size ≤ b
theorem newAt_zero (w : World) (n ids : Nat) (h2 : n ≤ 16) : NewAt w ((w.alloc (.cells (madeCells #[.slice none 0 0, .slice none 0 0] (n * 2)) 178)).alloc (.cells #[.slice (some ⟨w.heap.size, 0, none⟩) n n] 174)) n ids 0 none := by
 refine ⟨⟨w.heap.size + 1, w.heap.size, []⟩, rfl, rfl, ⟨rfl, by simp, h2, ?_, ⟨madeCells #[.slice none 0 0, .slice none 0 0] (n * 2), ?_, by rw [size_madeCells]; omega, fun j _ hjn => ?_, fun k m l hm _ => by simp at hm⟩, ?_⟩, ((Below.refl _ _).alloc (Nat.le_refl _) _).alloc (by simp) _, ?_⟩
 · have := heap_alloc_new (w.alloc (.cells (madeCells #[.slice none 0 0, .slice none 0 0] (n * 2)) 178)) (.cells #[.slice (some ⟨w.heap.size, 0, none⟩) n n] 174)
   simpa using this
 · exact (Below.heap_alloc _ _ _ (by simp)).trans (heap_alloc_new w _)
 · refine ⟨?_, ?_⟩
   · rw [made_get _ _ _ (by omega), show (j * 2) % (#[Value.slice none 0 0, .slice none 0 0] : Array Value).size = 0 by simp]; rfl
   · rw [made_get _ _ _ (by omega), show (j * 2 + 1) % (#[Value.slice none 0 0, .slice none 0 0] : Array Value).size = 1 by simp]; rfl
 · intro t t' b ht ht'
   match t, t', ht, ht' with
   | 0, 0, _, _ => rfl
   | 1, 1, _, _ => rfl
   | 0, 1, h, h' => cases h; simp [Lay.has] at h'
   | 1, 0, h, h' => cases h; simp [Lay.has] at h'
   | t + 2, _, h, _ => obtain ⟨l, hl, _⟩ := h; simp at hl
   | _, t' + 2, _, h => obtain ⟨l, hl, _⟩ := h; simp at hl
 · rintro b ⟨t, ht⟩
   match t, ht with
   | 0, h => cases h; simp
   | 1, h => cases h; simp
   | t + 2, h => obtain ⟨l, hl, _⟩ := h; simp at hl
theorem newAt_facts {w0 wr : World} {n ids k : Nat} {part : Option Nat} (h : NewAt w0 wr n ids k part) :
 wr.cell? ⟨w0.heap.size + 1, 0, none⟩ = some (.slice (some ⟨w0.heap.size, 0, none⟩) n n) ∧ w0.heap.size < wr.heap.size ∧ w0.heap.size + 1 < wr.heap.size ∧ (∀ j, j < 2 * n → (wr.cell? ⟨w0.heap.size, j, none⟩).isSome = true) ∧ (∀ j, wr.frozen? ⟨w0.heap.size, j, none⟩ = false) := by
 obtain ⟨L, hP, hS, hp, _, _⟩ := h
 have ht := hp.top
 obtain ⟨cur, hcur, hsz, _⟩ := hp.shards
 rw [hP, hS] at ht
 rw [hS] at hcur
 exact ⟨by simp [World.cell?, ht], lt_of_heap hcur, lt_of_heap ht, fun j hj => by simp [World.cell?, hcur, hsz]; exact hj, fun j => by simp [World.frozen?, hcur]⟩
theorem size_setCell' (w : World) (a : Addr) (v : Value) : (w.setCell a v).heap.size = w.heap.size := by simp [World.setCell]
theorem newAt_add {w0 wr : World} {n ids k : Nat} (h : NewAt w0 wr n ids k none) (hk : k < n) (hids : ids ≤ 16) : NewAt w0 (((wr.setCell ⟨w0.heap.size, k * 2, none⟩ (.slice (some ⟨wr.heap.size, 0, none⟩) ids ids)).alloc (.cells (madeCells #[int i64 0, int i64 0, .bool false] (ids * 3)) 186)).drew) n ids k (some 0) := by
 obtain ⟨L, hP, hS, hp, hb, hown⟩ := h
 simp only [List.append_nil] at hp
 have hb0 := hb.size
 have hlt := lt_of_heap (hp.shards.choose_spec.1)
 have hsz : (wr.setCell ⟨w0.heap.size, k * 2, none⟩ (.slice (some ⟨wr.heap.size, 0, none⟩) ids ids)).heap.size = wr.heap.size := by simp [World.setCell]
 have hc : Chg wr (((wr.setCell ⟨w0.heap.size, k * 2, none⟩ (.slice (some ⟨wr.heap.size, 0, none⟩) ids ids)).alloc (.cells (madeCells #[int i64 0, int i64 0, .bool false] (ids * 3)) 186)).drew) (fun b => b = L.S) :=
  (((Chg.refl wr (fun b => b = L.S)).setCell _ _ (.inl hS.symm)).then_below ((Below.refl _ _).alloc (Nat.le_of_eq hsz.symm) _)).then_below ((Below.refl _ _).drew)
 obtain ⟨p2, o2⟩ := hp.add (ids := ids) (w' := ((wr.setCell ⟨w0.heap.size, k * 2, none⟩ (.slice (some ⟨wr.heap.size, 0, none⟩) ids ids)).alloc (.cells (madeCells #[int i64 0, int i64 0, .bool false] (ids * 3)) 186)).drew) (by simpa using hk) hids hc
  (by
    show ((wr.setCell _ _).alloc _).heap[wr.heap.size]? = _
    have := heap_alloc_new (wr.setCell ⟨w0.heap.size, k * 2, none⟩ (.slice (some ⟨wr.heap.size, 0, none⟩) ids ids)) (.cells (madeCells #[int i64 0, int i64 0, .bool false] (ids * 3)) 186)
    rwa [hsz] at this)
  (fun cur hcur => by
    rw [List.length_replicate]
    rw [← hS]
    show ((wr.setCell _ _).alloc _).heap[L.S]? = _
    rw [Below.heap_alloc _ _ _ (by rw [size_setCell']; exact hlt)]
    exact heap_setCell_same _ _ _ _ _ _ _ hcur)
 refine ⟨L.snoc ⟨wr.heap.size, .slice none 0 0⟩, hP, hS, p2, (((hb.setCell (Nat.le_refl _) _).alloc (by rw [size_setCell']; exact hb0) _).drew), fun b hb' => ?_⟩
 rcases o2 b hb' with h | h
 · exact hown b h
 · omega
theorem newAt_next {w0 wr : World} {n ids k : Nat} (h : NewAt w0 wr n ids k (some ids)) : NewAt w0 wr n ids (k + 1) none := by
 obtain ⟨L, hP, hS, hp, hb, hown⟩ := h
 refine ⟨L, hP, hS, ?_, hb, hown⟩
 rw [List.replicate_succ', List.append_nil]
 exact hp
theorem newAt_app {w0 wr : World} {n ids k j : Nat} (h : NewAt w0 wr n ids k (some j)) (hj : j < ids) (hids : ids ≤ 16) : ∃ v, wr.cell? ⟨w0.heap.size, k * 2 + 1, none⟩ = some v ∧ v.ownBlock ≠ some w0.heap.size ∧ v.ownBlock ≠ some (w0.heap.size + 1) ∧
 ∀ W, Below wr.heap.size wr W → Sl W 3 1 v j ((List.range j).map fun q => Value.int .i64 (Int.ofNat q)) ∧
   ∀ (g off cap : Nat) (w1 : World), Sl w1 3 1 (.slice (some ⟨g, off, none⟩) (j + 1) cap) (j + 1) (((List.range j).map fun q => Value.int .i64 (Int.ofNat q)) ++ [int i64 j]) → Turned W w1 v.ownBlock → (v.ownBlock = some g ∨ W.heap.size ≤ g) →
   NewAt w0 (w1.setCell ⟨w0.heap.size, k * 2 + 1, none⟩ (.slice (some ⟨g, off, none⟩) (j + 1) cap)) n ids k (some (j + 1)) := by
 obtain ⟨L, hP, hS, hp, hb, hown⟩ := h
 have hm : (List.replicate k (fresh ids ids) ++ [fresh ids j])[k]? = some (fresh ids j) := by simp
 have hkl : k < L.sh.length := by rw [hp.len]; simp
 have hl : L.sh[k]? = some L.sh[k] := List.getElem?_eq_getElem hkl
 generalize L.sh[k] = l at hl
 obtain ⟨_, hcF, _, _, _, _, _⟩ := hp.sh hm hl
 rw [hS] at hcF
 refine ⟨l.fv, hcF, fun e => hp.S_ne_F hl (hS ▸ e) hS, fun e => ?_, fun W hW => ?_⟩
 · have := hp.apart 0 _ _ hP (Lay.has_F hl e); omega
 have pW := hp.grown hW
 have hsl := (pW.sh hm hl).2.2.2.2.2.2
 have e1 : (fresh ids j).free.length = j := by simp [fresh]
 have e2 : (fresh ids j).free.map (Value.int .i64) = (List.range j).map fun q => Value.int .i64 (Int.ofNat q) := by simp [fresh, List.map_map, Function.comp_def]
 rw [e1, e2] at hsl
 refine ⟨hsl, fun g off cap w1 hs1 ht hor => ?_⟩
 have e3 : (fresh ids (j + 1)).free.map (Value.int .i64) = ((List.range j).map fun q => Value.int .i64 (Int.ofNat q)) ++ [int i64 j] := by simp [fresh, List.map_map, Function.comp_def, List.range_succ]
 have e4 : (fresh ids (j + 1)).free.length = j + 1 := by simp [fresh]
 rw [← e3] at hs1
 obtain ⟨p2, o2⟩ := pW.set_freeN hm hl (w1 := w1) (Chg.of_turned ht fun k e _ => e) (v := .slice (some ⟨g, off, none⟩) (j + 1) cap) (fr := (fresh ids (j + 1)).free) (by rw [e4]; exact hs1) (fun g' hg' => by simp [Value.ownBlock] at hg'; subst hg'; exact hor) (fresh_inv ids (j + 1) hids hj)
 have hbW : Below w0.heap.size w0 W := hb.trans (hW.mono hb.size)
 have hgw : ∀ b, l.fv.ownBlock = some b → w0.heap.size ≤ b := fun b e => hown b (Lay.own_at hl (.inr (.inr e)))
 have hb1 : Below w0.heap.size w0 w1 := hbW.trans ⟨ht.os, ht.tape, ht.output, ht.size, fun q hq => ht.block q (by have := hbW.size; omega) (fun e => by have := hgw q e.symm; omega)⟩
 refine ⟨L.put k { l with fv := .slice (some ⟨g, off, none⟩) (j + 1) cap }, hP, hS, ?_, hb1.setCell (Nat.le_refl _) _, fun b hb' => ?_⟩
 · rw [← hS]
   have e5 : (List.replicate k (fresh ids ids) ++ [fresh ids j]).set k ⟨(fresh ids j).all, (fresh ids (j + 1)).free⟩ = List.replicate k (fresh ids ids) ++ [fresh ids (j + 1)] := by
    rw [List.set_append_right _ _ (by simp)]
    simp [fresh]
   rw [e5] at p2
   exact p2
 · rcases o2 b hb' with h | h
   · exact hown b h
   · have := hbW.size; omega
theorem new_ok (n ids : Nat) (w : World) (h1 : 1 ≤ n) (h2 : n ≤ 16) (h3 : 1 ≤ ids) (h4 : ids ≤ 16) :
 Calls prog 80 #[int i64 n, int i64 ids] w fun e w' => e = .returned (.tuple #[.pointer (some ⟨w.heap.size + 1, 0, none⟩), int i64 0]) ∧ NewAt w w' n ids n none := by
 obtain ⟨j0, hj0, hj1, hj2, hj3⟩ := info_parts info_ix
 obtain ⟨s0, hs0, hs1, hs2, hs3⟩ := info_parts info_sh
 have hmk1 : ∀ W, (Instr.makeSlice 172 (int i64 n) (int i64 n)).run prog W = .ok (.slice (some ⟨W.heap.size, 0, none⟩) n n) (W.alloc (.cells (madeCells #[.slice none 0 0, .slice none 0 0] (n * 2)) 178)) := by
  intro W
  have := run_make (P := prog) W 172 178 s0 _ Tryz.underlying172 hs0 hs1 .i64 .i64 n n (by omega) (by omega) (by rw [hs3]; omega) (by omega)
  rw [hs2, Int.toNat_natCast] at this
  exact this
 have hmk2 : ∀ W, (Instr.makeSlice 175 (int i64 ids) (int i64 ids)).run prog W = .ok (.slice (some ⟨W.heap.size, 0, none⟩) ids ids) (W.alloc (.cells (madeCells #[int i64 0, int i64 0, .bool false] (ids * 3)) 186)) := by
  intro W
  have := run_make (P := prog) W 175 186 j0 _ Tryz.underlying175 hj0 hj1 .i64 .i64 ids ids (by omega) (by omega) (by rw [hj3]; omega) (by omega)
  rw [hj2, Int.toNat_natCast] at this
  exact this
 clear hj0 hj1 hj2 hj3 hs0 hs1 hs2 hs3
 have d1 : decide ((n : Int) < 1) = false := by simp; omega
 have d2 : decide (16 < (n : Int)) = false := by simp; omega
 have d3 : decide ((ids : Int) < 1) = false := by simp; omega
 have d4 : decide (16 < (ids : Int)) = false := by simp; omega
 go_enter Tryz.func80, Tryz.ntmps80
 go_wp2_with fail
 go_loopw [32] (fun i wr => ∃ k : Nat, k ≤ n ∧ i = int i64 k ∧ NewAt w wr n ids k none) (fun i _ => n - (intOf i).toNat)
 case atStart => exact ⟨0, Nat.zero_le _, rfl, newAt_zero w n ids h2⟩
 case round =>
  obtain ⟨k, hk, rfl, hn⟩ := hrel
  obtain ⟨n1, n2, n3, n4, n5⟩ := newAt_facts hn
  obtain ⟨wo, rfl⟩ : ∃ wo : World, wo = wr := ⟨_, rfl⟩
  by_cases hlt : k < n
  · have n4' := n4 (k * 2) (by omega)
    have n5' := n5 (k * 2)
    obtain ⟨y, hy⟩ := Option.isSome_iff_exists.1 n4'
    have HN := hid hn
    clear n4 n5 n4' hn
    go_wp2_with fail
    go_region_held3 (fun W => W.cell? ⟨w.heap.size + 1, 0, none⟩ = some (.slice (some ⟨w.heap.size, 0, none⟩) n n)) (go_keep) (fail)
    go_wp2_with fail
    go_loopw [45] (fun j wr => ∃ q : Nat, q ≤ ids ∧ j = int i64 q ∧ NewAt w wr n ids k (some q)) (fun j _ => ids - (intOf j).toNat)
    case atStart => exact ⟨0, Nat.zero_le _, rfl, newAt_add HN.out hlt h4⟩
    case round =>
     clear HN n1 n2 n3 n5' hy
     obtain ⟨q, hq, rfl, hn⟩ := hrel
     obtain ⟨n1, n2, n3, n4, n5⟩ := newAt_facts hn
     obtain ⟨wi, rfl⟩ : ∃ wi : World, wi = wr := ⟨_, rfl⟩
     by_cases hqi : q < ids
     · obtain ⟨v, hv, v1, v2, hfin⟩ := newAt_app hn hqi h4
       have FIN := hid hfin
       have V1 := hid v1
       have V2 := hid v2
       have n5' := n5 (k * 2 + 1)
       clear n4 n5 hn hfin v1 v2
       obtain ⟨i0, hi0, hz0, hz1, hz2⟩ := info_parts info_int
       go_wp2_with fail
       go_region_law
        ((refine step_append_sl _ (by rfl) _ _ _ (by rfl) 3 i0 _ 1 8 Tryz.underlying176 hi0 hz0 hz1 hz2 rfl (by omega) v q _ (by rfl) (FIN.out _ bg).1
            ⟨_, 0, none⟩ 1 1 [int i64 q] (by rfl) (by rfl) (World.news_of_block (cs := #[int i64 q]) (t := 3) (fr := (0, 0)) (heap_alloc_new _ _)) (by simp [Value.oneCell'])
            (by omega) (by unfold maxLen; omega) (by omega) ?_; intro g off cap w1 hs1 ht hor; have k6 : w1.frozen? ⟨w.heap.size, k * 2 + 1, none⟩ = false := (by rw [ht.frozen (by simp; omega) V1.out]; simp [n5', n2, go_sem]); have k7 : w1.cell? ⟨w.heap.size, k * 2 + 1, none⟩ = some v := (by rw [ht.cell (by simp; omega) V1.out]; simp [hv, n2, go_sem]); have k8 : w1.cell? ⟨w.heap.size + 1, 0, none⟩ = some (.slice (some ⟨w.heap.size, 0, none⟩) n n) := (by rw [ht.cell (by simp; omega) V2.out]; simp [n1, n3, go_sem])))
       all_goals go_wp2_with fail
       all_goals go_roundw
       all_goals first
        | exact ⟨q + 1, by omega, by go_num, (FIN.out _ bg).2 g off cap w1 hs1 ht hor⟩
        | (simp [intOf]; omega)
     · obtain rfl : q = ids := by omega
       clear n4 n5
       have HN := hid (newAt_next hn)
       clear hn
       go_wp2_with fail
       go_roundw
       case rel => exact ⟨k + 1, by omega, by go_num, HN.out⟩
       case measure => simp [intOf]; omega
  · obtain rfl : k = n := by omega
    have HN := hid hn
    clear hn n4 n5
    go_wp2_with fail
    go_ret2
    exact ⟨rfl, HN.out⟩
abbrev Id3 := Int × Int × Int
def idCells (l : List Id3) : List Value := l.flatMap fun x => [int i64 x.1, int i64 x.2.1, int i64 x.2.2]
def ixList (k : Int) : Int → List Ix → List Id3
 | _, [] => []
 | i, x :: xs => (if x.alive then [(k, i, x.gen)] else []) ++ ixList k (i + 1) xs
def shList : Int → List Sh → List Id3
 | _, [] => []
 | k, m :: ms => ixList k 0 m.all ++ shList (k + 1) ms
def listF (M : List Sh) : List Id3 := shList 0 M
theorem ixList_snoc (k : Int) (x : Ix) : ∀ (l : List Ix) (i : Int), ixList k i (l ++ [x]) = ixList k i l ++ (if x.alive then [(k, i + l.length, x.gen)] else [])
 | [], i => by simp [ixList]
 | y :: l, i => by
   simp only [List.cons_append, ixList, ixList_snoc k x l (i + 1), List.append_assoc, List.length_cons]
   rw [show i + 1 + (l.length : Int) = i + ((l.length + 1 : Nat) : Int) by omega]
theorem shList_snoc (m : Sh) : ∀ (l : List Sh) (k : Int), shList k (l ++ [m]) = shList k l ++ ixList (k + l.length) 0 m.all
 | [], k => by simp [shList]
 | y :: l, k => by
   simp only [List.cons_append, shList, shList_snoc m l (k + 1), List.append_assoc, List.length_cons]
   rw [show k + 1 + (l.length : Int) = k + ((l.length + 1 : Nat) : Int) by omega]
theorem ixList_le (k : Int) : ∀ (l : List Ix) (i : Int), (ixList k i l).length ≤ l.length
 | [], _ => by simp [ixList]
 | x :: l, i => by
   have := ixList_le k l (i + 1)
   simp only [ixList, List.length_append, List.length_cons]
   split <;> simp <;> omega
theorem shList_le : ∀ (l : List Sh) (k : Int), (∀ m ∈ l, m.all.length ≤ 16) → (shList k l).length ≤ 16 * l.length
 | [], _, _ => by simp [shList]
 | m :: l, k, h => by
   have h1 := shList_le l (k + 1) fun m hm => h m (List.mem_cons_of_mem _ hm)
   have h2 := ixList_le k m.all 0
   have h3 := h m (by simp)
   simp only [shList, List.length_append, List.length_cons]
   omega
theorem idCells_app (l l' : List Id3) : idCells (l ++ l') = idCells l ++ idCells l' := by simp [idCells]
theorem idCells_one (s i g : Int) : idCells [(s, i, g)] = [int i64 s, int i64 i, int i64 g] := by simp [idCells]
def ListAt (w wr : World) (v : Value) (l : List Id3) : Prop := Sl wr 30 3 v l.length (idCells l) ∧ Below w.heap.size w wr ∧ ∀ g, v.ownBlock = some g → w.heap.size ≤ g
theorem ListAt.later {w wr W : World} {v : Value} {l : List Id3} (h : ListAt w wr v l) (hb : Below wr.heap.size wr W) : ListAt w W v l :=
 ⟨h.1.keep fun g hg => hb.block g (h.1.lt hg), h.2.1.trans (hb.mono h.2.1.size), h.2.2⟩
theorem ListAt.snoc {w W w1 : World} {v v' : Value} {l : List Id3} {s i g : Int} (h : ListAt w W v l) (hs : Sl w1 30 3 v' (l.length + 1) (idCells l ++ [int i64 s, int i64 i, int i64 g])) (ht : Turned W w1 v.ownBlock)
 (ho : v'.ownBlock = v.ownBlock ∨ ∃ g, v'.ownBlock = some g ∧ W.heap.size ≤ g) : ListAt w w1 v' (l ++ [(s, i, g)]) := by
 refine ⟨?_, h.2.1.trans ⟨ht.os, ht.tape, ht.output, ht.size, fun k hk => ht.block k (by have := h.2.1.size; omega) fun e => by have := h.2.2 k e.symm; omega⟩, fun q hq => ?_⟩
 · rw [idCells_app, idCells_one]; simpa using hs
 · rcases ho with e | ⟨g', e, hg'⟩
   · exact h.2.2 q (by rw [← e]; exact hq)
   · rw [e] at hq
     cases hq
     exact Nat.le_trans h.2.1.size hg'
theorem info_id : (prog.info? 30).map (fun i => (i.zero, i.size, i.bytes)) = some (some (.agg #[int i64 0, int i64 0, int i64 0]), 3, 24) := by kernel_rfl
theorem list_any (w : World) (L : Lay) (M : List Sh) (h : PoolAt w L M) :
 Calls prog 109 #[.pointer (some ⟨L.P, 0, none⟩)] w fun e w' => ∃ v, e = .returned v ∧ ListAt w w' v (listF M) := by
 obtain ⟨i0, hi0, hz0, hz1, hz2⟩ := info_parts info_id
 have hfew := h.few
 have hc : w.cell? ⟨L.P, 0, none⟩ = some (.slice (some ⟨L.S, 0, none⟩) M.length M.length) := by simp [World.cell?, h.top]
 have HP := hid h
 have hm16 : ∀ m ∈ M, m.all.length ≤ 16 := by
  intro m hm
  obtain ⟨k, hk, rfl⟩ := List.getElem_of_mem hm
  have hkl : k < L.sh.length := by rw [h.len]; exact hk
  exact (h.sh (List.getElem?_eq_getElem hk) (List.getElem?_eq_getElem hkl)).2.2.2.2.1.few
 have HM := hid hm16
 clear h hm16
 go_enter Tryz.func109, Tryz.ntmps109
 go_wp2_with fail
 go_loopw [3, 16] (fun v i wr => ∃ k : Nat, k ≤ M.length ∧ i = int i64 k ∧ ListAt w wr v (shList 0 (M.take k))) (fun _ i _ => M.length - (intOf i).toNat)
 case atStart => exact ⟨0, Nat.zero_le _, rfl, ⟨by simp [shList, idCells], .inl ⟨rfl, by simp [shList]⟩⟩, Below.refl _ _, fun g hg => by cases hg⟩
 case round =>
  obtain ⟨k, hk, rfl, hl⟩ := hrel
  obtain ⟨wo, rfl⟩ : ∃ wo : World, wo = wr := ⟨_, rfl⟩
  by_cases hlt : k < M.length
  · have hkl : k < L.sh.length := by rw [HP.out.len]; exact hlt
    have hmk : M[k]? = some M[k] := List.getElem?_eq_getElem hlt
    have hlk : L.sh[k]? = some L.sh[k] := List.getElem?_eq_getElem hkl
    have hll := shList_le (M.take k) 0 (fun m hm => HM.out m (List.mem_of_mem_take hm))
    rw [List.length_take] at hll
    have hsn := shList_snoc M[k] (M.take k) 0
    rw [List.take_append_getElem hlt, List.length_take, Nat.min_eq_left hk] at hsn
    generalize M[k] = m at *
    generalize L.sh[k] = l at *
    have PW := HP.out.grown hl.2.1
    obtain ⟨d0, d1, _, _, hinv, _, hsl⟩ := PW.sh hmk hlk
    obtain ⟨pf, cf, hfv, hfl, _⟩ := Sl.cells hsl
    rw [hfv] at d1
    have HSN := hid hsn
    have HL := hid hl
    have hfw := hinv.few
    have b2 : L.S < wo.heap.size := World.block_lt_of_cell? wo _ d0
    have HPW := hid PW
    have HMK := hid hmk
    have HLK := hid hlk
    unfold maxLen at hfl
    clear hsn hl hsl hfv PW hmk hlk
    generalize m.free.length = fl at *
    go_wp2_with fail
    go_loopw [3, 24] (fun v i wr => ∃ q : Nat, q ≤ m.all.length ∧ i = int i64 q ∧ ListAt w wr v (shList 0 (M.take k) ++ ixList k 0 (m.all.take q))) (fun _ i _ => m.all.length - (intOf i).toNat)
    case atStart => exact ⟨0, Nat.zero_le _, rfl, by simpa [ixList] using HL.out.later bg⟩
    case round =>
     obtain ⟨q, hq, rfl, hl⟩ := hrel
     obtain ⟨wi, rfl⟩ : ∃ wi : World, wi = wr := ⟨_, rfl⟩
     by_cases hqi : q < m.all.length
     · have hxq : m.all[q]? = some m.all[q] := List.getElem?_eq_getElem hqi
       have PI := HP.out.grown hl.2.1
       have hsn := ixList_snoc k m.all[q] (m.all.take q) 0
       rw [List.take_append_getElem hqi, List.length_take, Nat.min_eq_left hq] at hsn
       have hle := ixList_le k (m.all.take q) 0
       rw [List.length_take] at hle
       generalize m.all[q] = x at *
       obtain ⟨c0, c1, c2⟩ := PI.ix HMK.out HLK.out hxq
       have b1 : l.A < wi.heap.size := World.block_lt_of_cell? wi _ c0
       have HL2 := hid hl
       have HS2 := hid hsn
       have HXQ := hid hxq
       have hlen : (shList 0 (M.take k) ++ ixList k 0 (m.all.take q)).length ≤ 1000 := by rw [List.length_append]; omega
       generalize hll2 : shList 0 (M.take k) ++ ixList k 0 (m.all.take q) = ll at *
       have HLL := hid hll2
       clear hl hsn hxq PI hle hll hll2
       obtain ⟨gen, bound, alive⟩ := x
       simp only at c0 c1 c2
       cases alive with
       | false =>
         have e2 : shList 0 (M.take k) ++ ixList k 0 (m.all.take (q + 1)) = ll := by rw [HS2.out]; simpa using HLL.out
         have E2 := hid e2
         clear e2
         go_wp2_with fail
         go_roundw
         case rel => exact ⟨q + 1, by omega, by go_num, by rw [E2.out]; exact HL2.out.later bg⟩
         case measure => simp [intOf]; omega
       | true =>
         have e2 : shList 0 (M.take k) ++ ixList k 0 (m.all.take (q + 1)) = ll ++ [((k : Int), (q : Int), gen)] := by rw [HS2.out, ← List.append_assoc, HLL.out]; simp
         have E2 := hid e2
         clear e2
         go_wp2_with (at_builtin; refine wpList_append_sl _ (by rfl) _ _ 56 (by rfl) 30 i0 _ 3 24 Tryz.underlying56 hi0 hz0 hz1 hz2 rfl (by omega) u3 ll.length (idCells ll) (by rfl) (HL2.out.later bg).1 ⟨_, 0, none⟩ 1 1 [int i64 k, int i64 q, int i64 gen] (by rfl) (by rfl) (World.news_of_block (cs := #[int i64 k, int i64 q, int i64 gen]) (t := 30) (fr := (0, 0)) (by have h := heap_alloc_new (wi.alloc (.cells #[int i64 gen, int i64 bound, .bool true] 186)) (.cells #[int i64 k, int i64 q, int i64 gen] 30); rw [World.size_alloc] at h; exact h)) (by simp [Value.oneCell']) (by omega) (by unfold maxLen; omega) (by omega) ?_; intro v' w1 hs1 ht ho)
         go_roundw
         case rel => exact ⟨q + 1, by omega, by go_num, by rw [E2.out]; exact (HL2.out.later bg).snoc hs1 ht ho⟩
         case measure => simp [intOf]; omega
     · obtain rfl : q = m.all.length := by omega
       have e1 : shList 0 (M.take k) ++ ixList k 0 (m.all.take m.all.length) = shList 0 (M.take (k + 1)) := by rw [HSN.out, List.take_length]; simp
       rw [e1] at hl
       have HL2 := hid hl
       clear hl e1
       go_wp2_with fail
       go_roundw
       case rel => exact ⟨k + 1, by omega, by go_num, HL2.out⟩
       case measure => simp [intOf]; omega
  · obtain rfl : k = M.length := by omega
    rw [List.take_length] at hl
    have HL := hid hl
    clear hl
    go_wp2_with fail
    go_ret
    exact ⟨_, rfl, HL.out⟩
def nextF (M : List Sh) (k : Int) : (Id3 × Int × Bool) × List Sh :=
 if (headF M k).2.2 ≠ 0 then (((0, 0, 0), -1, false), M) else
 if (headF M k).2.1 = true then (((issueF M k).1, -1, (issueF M k).2.1 == 0), (issueF M k).2.2) else
 if (reserveF M k (headF M k).1).1 ≠ 0 then (((0, 0, 0), -1, false), (reserveF M k (headF M k).1).2) else
 (((issueF (reserveF M k (headF M k).1).2 k).1, (headF M k).1, (issueF (reserveF M k (headF M k).1).2 k).2.1 == 0), (issueF (reserveF M k (headF M k).1).2 k).2.2)
structure Good (m : Sh) : Prop where
 inv : ShInv m
 le : ∀ (i : Nat) (x : Ix), m.all[i]? = some x → x.gen ≤ x.bound
 lv : ∀ (i : Nat) (x : Ix), m.all[i]? = some x → x.alive = true → x.gen < x.bound
 fg : ∀ f ∈ m.free, ∀ (x : Ix), m.all[f.toNat]? = some x → x.gen < 1048576
theorem fresh_good (ids : Nat) (h : ids ≤ 16) : Good (fresh ids ids) := by
 have hx0 : ∀ (i : Nat) (x : Ix), (fresh ids ids).all[i]? = some x → x = ⟨0, 0, false⟩ := by
  intro i x hx
  simp only [fresh, freshIx, List.getElem?_replicate] at hx
  split at hx
  · cases hx; rfl
  · cases hx
 refine ⟨fresh_inv ids ids h (Nat.le_refl _), fun i x hx => ?_, fun i x hx ha => ?_, fun f _ x hx => ?_⟩
 · rw [hx0 i x hx]; simp
 · rw [hx0 i x hx] at ha; cases ha
 · rw [hx0 _ x hx]; simp
def nxtIx (x : Ix) : Ix := ⟨x.gen, if x.gen < x.bound then x.bound else min (x.bound + 8) 1048576, true⟩
def nxtAt (x : Ix) (f : Int) : Int := if x.gen < x.bound then -1 else f
theorem set_good {m : Sh} (h : Good m) {i : Nat} (x' : Ix) (hi : ShInv { m with all := m.all.set i x' }) (h1 : x'.gen ≤ x'.bound) (h2 : x'.alive = true → x'.gen < x'.bound) (h3 : (i : Int) ∈ m.free → x'.gen < 1048576) : Good { m with all := m.all.set i x' } := by
 refine ⟨hi, fun j y hy => ?_, fun j y hy => ?_, fun f hf y hy => ?_⟩
 · simp only [List.getElem?_set] at hy
   split at hy
   · split at hy
     · cases hy; exact h1
     · cases hy
   · exact h.le j y hy
 · simp only [List.getElem?_set] at hy
   split at hy
   · split at hy
     · cases hy; exact h2
     · cases hy
   · exact h.lv j y hy
 · simp only [List.getElem?_set] at hy
   have h0 := (h.inv.fr f hf).1
   split at hy
   · rename_i he
     split at hy
     · cases hy; exact h3 (by rw [show (i : Int) = f by omega]; exact hf)
     · cases hy
   · exact h.fg f hf y hy
theorem free_drop_good {m : Sh} (h : Good m) (fr : List Int) (hi : ShInv { m with free := fr }) (hs : ∀ f ∈ fr, f ∈ m.free) : Good { m with free := fr } :=
 ⟨hi, h.le, h.lv, fun f hf => h.fg f (hs f hf)⟩
theorem nextF_cons {M : List Sh} {k : Nat} {m : Sh} {f : Int} {fs : List Int} (hm : M[k]? = some m) (hf : m.free = f :: fs) (hg : Good m) :
 ∃ x, m.all[f.toNat]? = some x ∧ 0 ≤ f ∧ nextF M k = ((((k : Int), f, x.gen), nxtAt x f, true), M.set k ⟨m.all.set f.toNat (nxtIx x), fs⟩) ∧ Good ⟨m.all.set f.toNat (nxtIx x), fs⟩ := by
 have hfr := hg.inv.fr f (by rw [hf]; simp)
 obtain ⟨i, rfl⟩ := Int.eq_ofNat_of_zero_le hfr.1
 have hil : i < m.all.length := by omega
 have hx : m.all[i]? = some m.all[i] := List.getElem?_eq_getElem hil
 generalize m.all[i] = x at hx
 have hkl : k < M.length := (List.getElem?_eq_some_iff.1 hm).1
 have hle := hg.le i x hx
 have hgm := hg.fg i (by rw [hf]; simp) x (by simpa using hx)
 have hrr := hg.inv.rng i x hx
 have hnd := hg.inv.nd
 rw [hf] at hnd
 have hni := (List.nodup_cons.1 hnd).1
 have hhead : headF M k = ((i : Int), decide (x.gen < x.bound), 0) := by simp [headF, shOf, hm, hf, hx]
 refine ⟨x, by simpa using hx, hfr.1, ?_, ?_⟩
 · rw [Int.toNat_natCast]
   by_cases hlt : x.gen < x.bound
   · have hi : issueF M k = (((k : Int), (i : Int), x.gen), 0, M.set k ⟨m.all.set i ⟨x.gen, x.bound, true⟩, fs⟩) := by
      simp only [issueF, shOf, if_pos (Int.natCast_nonneg k), Int.toNat_natCast, hm, hf, hx, if_pos hlt]
      rw [setIx_nat _ hm, setFr_nat (m := { m with all := m.all.set i ⟨x.gen, x.bound, true⟩ }) _ (List.getElem?_set_self hkl), List.set_set]
     simp [nextF, hhead, hlt, hi, nxtIx, nxtAt]
   · have hb : ¬ x.bound = 1048576 := by omega
     have hr : reserveF M k i = (0, M.set k ⟨m.all.set i ⟨x.gen, min (x.bound + 8) 1048576, x.alive⟩, i :: fs⟩) := by
      simp only [reserveF, ixOf, shOf, if_pos (Int.natCast_nonneg k), if_pos (Int.natCast_nonneg i), Int.toNat_natCast, hm, Option.bind_some, hx, if_neg hb]
      rw [setIx_nat _ hm, hf]
     have hm1 : (M.set k ⟨m.all.set i ⟨x.gen, min (x.bound + 8) 1048576, x.alive⟩, i :: fs⟩)[k]? = some ⟨m.all.set i ⟨x.gen, min (x.bound + 8) 1048576, x.alive⟩, i :: fs⟩ := List.getElem?_set_self hkl
     have hi : issueF (M.set k ⟨m.all.set i ⟨x.gen, min (x.bound + 8) 1048576, x.alive⟩, i :: fs⟩) k = (((k : Int), (i : Int), x.gen), 0, M.set k ⟨m.all.set i ⟨x.gen, min (x.bound + 8) 1048576, true⟩, fs⟩) := by
      simp only [issueF, shOf, if_pos (Int.natCast_nonneg k), Int.toNat_natCast, hm1, List.getElem?_set_self hil, if_pos (show x.gen < min (x.bound + 8) 1048576 by omega)]
      rw [setIx_nat _ hm1, List.set_set]
      rw [setFr_nat (m := ⟨(m.all.set i ⟨x.gen, min (x.bound + 8) 1048576, x.alive⟩).set i ⟨x.gen, min (x.bound + 8) 1048576, true⟩, i :: fs⟩) _ (List.getElem?_set_self hkl), List.set_set, List.set_set]
     simp [nextF, hhead, hlt, hr, hi, nxtIx, nxtAt]
 · rw [Int.toNat_natCast]
   have h1 := free_drop_good hg fs (hg.inv.tail hf) (fun a ha => by rw [hf]; exact List.mem_cons_of_mem _ ha)
   refine set_good h1 (nxtIx x) (h1.inv.set_ix i _ ⟨hrr.1, hrr.2.1, ?_, ?_, fun _ => hgm⟩ (fun hm => absurd hm hni)) ?_ (fun _ => ?_) (fun hm => absurd hm hni)
   all_goals simp only [nxtIx]
   all_goals split <;> omega
def freedSh (m : Sh) (i : Nat) (x : Ix) : Sh := if x.gen + 1 < 1048576 then ⟨m.all.set i ⟨x.gen + 1, x.bound, false⟩, m.free ++ [(i : Int)]⟩ else ⟨m.all.set i ⟨x.gen + 1, x.bound, false⟩, m.free⟩
theorem freeF_alive {M : List Sh} {k i : Nat} {m : Sh} {x : Ix} (hm : M[k]? = some m) (hx : m.all[i]? = some x) (ha : x.alive = true) (hg : Good m) :
 freeF M k i x.gen = (0, M.set k (freedSh m i x)) ∧ Good (freedSh m i x) := by
 have hkl : k < M.length := (List.getElem?_eq_some_iff.1 hm).1
 have hil : i < m.all.length := (List.getElem?_eq_some_iff.1 hx).1
 have hrr := hg.inv.rng i x hx
 have hlv := hg.lv i x hx ha
 have hni : (i : Int) ∉ m.free := fun hf => by have := hg.inv.dead i hf x (by simpa using hx); rw [ha] at this; cases this
 have hix : ixOf M k i = some x := by simp [ixOf, shOf, hm, hx]
 have hr' : 0 ≤ x.gen + 1 ∧ x.gen + 1 ≤ 1048576 ∧ 0 ≤ x.bound ∧ x.bound ≤ 1048576 ∧ (false = true → x.gen + 1 < 1048576) := ⟨by omega, by have := hrr.2.2.2.2 ha; omega, hrr.2.2.1, hrr.2.2.2.1, fun h => by cases h⟩
 have g1 : Good ⟨m.all.set i ⟨x.gen + 1, x.bound, false⟩, m.free⟩ := set_good hg ⟨x.gen + 1, x.bound, false⟩ (hg.inv.set_ix i _ hr' fun _ => rfl) (by simp only; omega) (fun h => by cases h) (fun h => absurd h hni)
 refine ⟨?_, ?_⟩
 · simp only [freeF, hix, if_neg (show ¬ x.gen < 0 by omega), ha, Bool.true_and, BEq.rfl, Bool.true_eq_false, if_false, freedSh]
   congr 1
   split
   · rw [setIx_nat _ hm, addFr]
     simp [shOf, List.getElem?_set_self hkl]
   · rw [setIx_nat _ hm]
 · unfold freedSh
   split
   · rename_i hlt
     refine ⟨hg.inv.add hx ha _ hr' rfl, g1.le, g1.lv, fun f hf y hy => ?_⟩
     rcases List.mem_append.1 hf with hf | hf
     · exact g1.fg f hf y hy
     · obtain rfl : f = i := by simpa using hf
       simp only [Int.toNat_natCast] at hy
       rw [List.getElem?_set_self hil] at hy
       cases hy
       exact hlt
   · exact g1
def lapIx (x : Ix) : Ix := if x.gen < x.bound then ⟨x.bound, x.bound, x.alive⟩ else x
def lapAll (all : List Ix) (fr : List Int) : List Ix := fr.foldl (fun a f => match a[f.toNat]? with | none => a | some x => a.set f.toNat (lapIx x)) all
def lapses (all : List Ix) (f : Int) : Bool := match all[f.toNat]? with | none => false | some x => decide (x.gen < x.bound)
def lapCnt (all : List Ix) (fr : List Int) : Nat := (fr.filter (lapses all)).length
def lapN (m : Sh) : Nat := lapCnt m.all m.free
end Go.Proofs.YtoimjjhopljdmaaGreat
