/-
  slices.DeleteFunc and slices.Contains over a slice of ints that owns its array. Condition: the predicate reads alone.
-/
import Derived.Test.YtjkbenghgbigdaaPoolE
import Derived.Shelf.SlicesE.DeleteFunc
namespace Go.Proofs.Ytjkbenghgbigdaa
open Go.RowKit Go.Shelf Go.Sort Go.Lib

def ren10 : Ren := ⟨fun n => if n = 6 then 84 else if n = 10 then 65 else 0, fun n => if n = 0 then 0 else if n = 3 then 3 else if n = 4 then 4 else if n = 22 then 22 else if n = 23 then 3 else if n = 25 then 95 else 0, fun _ => 0⟩

theorem lays10 : SlLaysH.n10 Try.prog ren10 := {
  mixed := by kernel_rfl
  f6 := ⟨Try.f84.name, by decide, by kernel_rfl⟩
  f10 := ⟨Try.f65.name, by decide, by kernel_rfl⟩
  t0 := by kernel_rfl
  a0 := fun _ => by kernel_rfl
  z0 := fun _ => by kernel_rfl
  v0 := fun _ => by kernel_rfl
  t3 := by kernel_rfl
  a3 := fun _ => by kernel_rfl
  z3 := fun _ => by kernel_rfl
  v3 := fun _ => by kernel_rfl
  t4 := by kernel_rfl
  a4 := fun _ => by kernel_rfl
  z4 := fun _ => by kernel_rfl
  v4 := fun _ => by kernel_rfl
  t22 := by kernel_rfl
  a22 := fun _ => by kernel_rfl
  z22 := fun _ => by kernel_rfl
  v22 := fun _ => by kernel_rfl
  a23 := fun _ => by kernel_rfl
  z23 := fun _ => by kernel_rfl
  t25 := by kernel_rfl
  a25 := fun _ => by kernel_rfl
  z25 := fun _ => by kernel_rfl
  v25 := fun _ => by kernel_rfl }

theorem Turned.of_below {w w' : World} {b : Option Nat} (h : Below w.heap.size w w') : Turned w w' b := ⟨h.os, h.tape, h.output, h.size, fun k hk _ => h.block k hk⟩

theorem putRow_turned {α : Type} [Inhabited α] (enc : α → Value) (w : World) (g off q : Nat) (d : Array α) (os : Array Obj) : Turned w (grow (putRow enc (Sort.ahead w q) g off d) os) (some g) := by
  refine ⟨rfl, rfl, rfl, ?_, fun k hk hne => ?_⟩
  · simp [grow, Sort.ahead]
  · have hgk : g ≠ k := fun e => hne (by rw [e])
    show ((putRow enc (Sort.ahead w q) g off d).heap ++ os)[k]? = _
    rw [Array.getElem?_append_left (by simpa [Sort.ahead] using hk)]
    simp [putRow, mapBlock, Array.getElem?_modify, Sort.ahead, hgk]

theorem putRow_heap {α : Type} [Inhabited α] (enc : α → Value) (w : World) (g off q : Nat) (d : Array α) (cur : Array Value) (e : TypeId) (fr : Nat × Nat) (h : w.heap[g]? = some (.cells cur e fr)) :
    (putRow enc (Sort.ahead w q) g off d).heap[g]? = some (.cells (putCells enc off d cur) e fr) := by
  simp [putRow, mapBlock, Sort.ahead, Array.getElem?_modify, h, onCells]

/-- What a filtered slice of ints is. -/
def Kept (w w' : World) (v v' : Value) (zs : List Int) : Prop := Sl w' 3 1 v' zs.length (zs.map (Value.int .i64)) ∧ Turned w w' v.ownBlock ∧ v'.ownBlock = v.ownBlock ∧ ∃ p n c, v' = .slice p n c

set_option maxHeartbeats 1000000 in
theorem del_nil (g : Nat) (lb : Array Value) (w : World) :
    Calls Try.prog 65 #[.slice none 0 0, .func (.func g) #[] lb] w fun e w' => e = .returned (.slice none 0 0) ∧ w = w' := by
  have hI : Calls Try.prog 84 #[.slice none 0 0, .func (.func g) #[] lb] w fun e w' => e = .returned (.int .i64 (-1)) ∧ w = w' := by
    go_enter Try.func84, Try.ntmps84
    go_wp2_with fail
    refine wp_loop_rounds 1 ?_
    rw [rounds_succ]
    go_wp2
    go_ret
    exact ⟨rfl, rfl⟩
  go_enter Try.func65, Try.ntmps65
  go_wp2_with (go_at_call 84; refine hI.mono ?_; rintro e w' ⟨rfl, rfl⟩)
  go_ret
  exact ⟨rfl, rfl⟩

theorem del_sl (g : Nat) (lb : Array Value) (eg : ∀ args w, (callFunc g args).run Try.prog w = .ok (.enter g args) w) (p : Int → Bool) (v : Value) (zs : List Int) (w : World) (hs : Sl w 3 1 v zs.length (zs.map (Value.int .i64)))
    (HC : ∀ W, Turned w W v.ownBlock → ∀ x, x ∈ zs ∨ x = 0 → Calls Try.prog g (#[.int .i64 x] ++ lb) W fun e w' => e = .returned (.bool (p x)) ∧ ∃ q, w' = W.drewN q) :
    Calls Try.prog 65 #[v, .func (.func g) #[] lb] w fun e w' => ∃ v', e = .returned v' ∧ Kept w w' v v' (zs.filter fun x => !p x) := by
  obtain ⟨_, ⟨rfl, h0⟩ | ⟨blk, off, cap, cur, rfl, hb, hn, hc, hsz, hr⟩⟩ := hs
  · obtain rfl : zs = [] := List.eq_nil_of_length_eq_zero h0
    refine (del_nil g lb w).mono ?_
    rintro e w' ⟨rfl, rfl⟩
    exact ⟨_, rfl, ⟨by simp, .inl ⟨rfl, rfl⟩⟩, Turned.of_below (Below.refl _ _), rfl, _, _, _, rfl⟩
  · let α := { x : Int // x ∈ zs ∨ x = 0 }
    let enc : α → Value := fun x => .int .i64 x.1
    let l : List α := zs.attach.map fun x => ⟨x.1, .inl x.2⟩
    have hin : Inhabited α := ⟨⟨0, .inr rfl⟩⟩
    have hlen : l.length = zs.length := by simp [l]
    have hlm : l.map (fun x => x.1) = zs := by simp [l, List.map_map, Function.comp_def]
    have hH : Holds enc w blk off l.toArray := by
      intro j hj
      have hj' : j < zs.length := by simpa [hlen] using hj
      have e1 : (l.toArray[j]!).1 = zs[j] := by
        rw [getElem!_pos l.toArray j hj]
        simp [l]
      refine ⟨?_, by simp [World.frozen?, hb]⟩
      show w.cell? _ = some (.int .i64 (l.toArray[j]!).1)
      rw [e1]
      simp [World.cell?, hb, hr j (.int .i64 zs[j]) (by simp [hj'])]
    clear_value l
    have hcon := AnyE.slices_DeleteFunc lays10 enc (fun _ => rfl) (fun x => p x.1) g lb eg ⟨0, .inr rfl⟩ (fun _ => by kernel_rfl) blk off cap l.toArray w
      (fun W x hbW => HC W (Turned.of_below hbW) x.1 x.2) (fun n os dk x _ => HC _ (putRow_turned enc w blk off n dk os) x.1 x.2) hH (by simp [hlen]; unfold maxLen at hc; omega) (by simp [hlen]; omega)
    have hfl : (l.filter fun x : α => !p x.1).map (fun x => x.1) = zs.filter fun x => !p x := by
      refine Eq.trans ?_ (congrArg (List.filter fun x => !p x) hlm)
      rw [List.filter_map]
      rfl
    have hfe : (l.filter fun x : α => !p x.1).length = (zs.filter fun x => !p x).length := by rw [← hfl, List.length_map]
    have hle : (zs.filter fun x => !p x).length ≤ zs.length := List.length_filter_le _ _
    have e0 : l.toArray.size = zs.length := by simp [hlen]
    rw [e0] at hcon
    refine hcon.mono ?_
    rintro e w' ⟨rfl, q, rfl⟩
    have hheap := putRow_heap enc w blk off q ((l.filter fun x : α => !p x.1) ++ List.replicate (zs.length - (l.filter fun x : α => !p x.1).length) (⟨0, .inr rfl⟩ : α)).toArray cur _ _ hb
    refine ⟨_, rfl, ⟨by simp, .inr ⟨blk, off, cap, _, ?_, hheap, by omega, hc, ?_, fun j u hj => ?_⟩⟩, ?_, rfl, _, _, _, rfl⟩
    · rw [hfe]
    · simp [putCells]; omega
    · have hj' : j < (zs.filter fun x => !p x).length := by
        have := (List.getElem?_eq_some_iff.1 hj).1; simpa using this
      have hjl : j < (l.filter fun x : α => !p x.1).length := by omega
      have hcj : (cur[off + j]?).isSome = true := by simp; omega
      obtain ⟨y, hy⟩ := Option.isSome_iff_exists.1 hcj
      simp only [putCells, Array.getElem?_mapIdx, hy, Option.map_some]
      rw [if_pos ⟨by omega, by simp; omega⟩, show off + j - off = j by omega, getElem!_pos _ j (by simp; omega)]
      simp only [List.getElem_toArray]
      rw [List.getElem_append_left hjl]
      rw [← hfl] at hj
      simp only [List.getElem?_map, List.getElem?_eq_getElem hjl, Option.map_some, Option.some.injEq] at hj
      rw [← hj]
    · have := putRow_turned enc w blk off q ((l.filter fun x : α => !p x.1) ++ List.replicate (zs.length - (l.filter fun x : α => !p x.1).length) (⟨0, .inr rfl⟩ : α)).toArray #[]
      rw [grow_empty] at this
      exact this

end Go.Proofs.Ytjkbenghgbigdaa
