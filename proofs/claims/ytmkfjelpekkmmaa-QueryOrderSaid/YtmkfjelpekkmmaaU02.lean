/-
  Chapter texts QmC Ob Boxed: what the claim reaches of them. Conditions stand at each theorem.
-/
import Derived.Test.YtmkfjelpekkmmaaProg
import Derived.WalkKit
import Derived.WalkSpells
import Derived.WalkLawsBesides
import Derived.Handy
import Derived.Lib.Hide
import Derived.Lib.QuietBelow
import Derived.BigQuiet
import Derived.Deep.RegionHeld3
import Derived.Deep.RegionWith
import Derived.Deep.DeepFit
import Derived.Deep.DeepCutAuto
import Derived.Deep.LoopGhost
import Derived.Deep.Light
import Derived.Deep.RegionLaw
import Derived.Deep.RegionLawGrows
import Derived.Test.YtmkfjelpekkmmaaRows
import Derived.ProofKit
import Derived.OpenShut
import Derived.Carry
import Derived.Maps.OwnSet
import Derived.DeepKeys4
import Derived.Test.YtmkfjelpekkmmaaQ01
import Derived.Test.YtmkfjelpekkmmaaQ02
import Derived.Test.YtmkfjelpekkmmaaQ03
import Derived.Test.YtmkfjelpekkmmaaQ04
import Derived.Test.YtmkfjelpekkmmaaQ05
import Derived.Test.YtmkfjelpekkmmaaQ06
import Derived.Test.YtmkfjelpekkmmaaQ07
import Derived.Test.YtmkfjelpekkmmaaQ08
import Derived.Test.YtmkfjelpekkmmaaQ09
import Derived.Test.YtmkfjelpekkmmaaQ10
import Derived.Test.YtmkfjelpekkmmaaQ11
import Derived.Test.YtmkfjelpekkmmaaQ12
import Derived.Test.YtmkfjelpekkmmaaQ13
import Derived.Test.YtmkfjelpekkmmaaQ14
import Derived.Test.YtmkfjelpekkmmaaQ15
import Derived.Test.YtmkfjelpekkmmaaQ16
import Derived.Test.YtmkfjelpekkmmaaQ17
import Derived.Test.YtmkfjelpekkmmaaQ18
import Derived.Test.YtmkfjelpekkmmaaQ19
import Derived.Test.YtmkfjelpekkmmaaQ20
import Derived.Test.YtmkfjelpekkmmaaQ21
import Derived.Test.YtmkfjelpekkmmaaQ22
import Derived.Test.YtmkfjelpekkmmaaQ23
import Derived.Test.YtmkfjelpekkmmaaQ24
import Derived.Test.YtmkfjelpekkmmaaQ25
import Derived.Test.YtmkfjelpekkmmaaQ26
import Derived.Test.YtmkfjelpekkmmaaQ27
import Derived.Test.YtmkfjelpekkmmaaQ28
import Derived.Test.YtmkfjelpekkmmaaQ29
import Derived.Test.YtmkfjelpekkmmaaQ30
import Derived.Test.YtmkfjelpekkmmaaQ31
import Derived.Test.YtmkfjelpekkmmaaQ32
import Derived.Test.YtmkfjelpekkmmaaQ33
import Derived.Test.YtmkfjelpekkmmaaQ34
import Derived.Test.YtmkfjelpekkmmaaQ35
import Derived.Test.YtmkfjelpekkmmaaU01
namespace Go.Proofs.Ytmkfjelpekkmmaa
open Go.RowKit Go.Maps Go.MapKept Go.ChangeMaps

theorem MpO.store_old {o : Obj} {P : List Pl} (h : MpO o P) (n : Nid) (m r : Nat) (hn : NFit n) {v' : Nat × Nat} (hk : (n, v') ∈ P) (hd : (P.map fun x => x.1).Nodup) :
    ∃ o', MpO o' (mputP P n (m, r)) ∧ ∀ (W : World) (b : Nat), W.heap[b]? = some o → (Instr.mapUpdate 85 (.map (some b)) (.agg #[.int .i64 n.s, .int .i64 n.i, .int .i64 n.g]) (.agg #[.int .i64 m, .int .i64 r])).run Try.prog W = .ok () (setB W b o') := by
  obtain ⟨es, clock, rfl, he, hf⟩ := h
  obtain ⟨l, hl⟩ := key_nid n hn
  obtain ⟨j, h2⟩ := List.mem_iff_getElem?.1 hk
  obtain ⟨e, hej⟩ : ∃ e, es.toList[j]? = some e := by
    have hlen := congrArg List.length he
    simp only [List.length_map] at hlen
    exact ⟨_, List.getElem?_eq_getElem (by rw [hlen]; exact (List.getElem?_eq_some_iff.1 h2).1)⟩
  obtain ⟨x, hx, hek, hev⟩ := ents_get he hej
  rw [h2] at hx
  cases hx
  have hj : es[j]? = some e := by simpa using hej
  obtain ⟨hj1, hj2⟩ := List.getElem?_eq_some_iff.1 h2
  have hd' := hd
  unfold List.Nodup at hd'
  rw [List.pairwise_map] at hd'
  have hone : ∀ i y, P[i]? = some y → y.1 = n → i = j := fun i y hi e2 => by
    obtain ⟨hi1, hi2⟩ := List.getElem?_eq_some_iff.1 hi
    rcases Nat.lt_trichotomy i j with hlt | e1 | hlt
    · exact absurd (by rw [hi2, hj2, e2]) (List.pairwise_iff_getElem.1 hd' i j hi1 hj1 hlt)
    · exact e1
    · exact absurd (by rw [hi2, hj2, e2]) (List.pairwise_iff_getElem.1 hd' j i hj1 hi1 hlt)
  refine ⟨.map (es.modify j (fun e' => { e' with key := nidV n, val := plV (m, r) })) clock, ⟨_, _, rfl, ?_, fun x hx => ?_⟩, fun W b hb => ?_⟩
  · apply List.ext_getElem?
    intro i
    have hi := congrArg (fun l => l[i]?) he
    simp only [List.getElem?_map] at hi
    unfold mputP
    rw [List.map_map]
    simp only [List.getElem?_map, Array.getElem?_toList, Array.getElem?_modify] at hi ⊢
    by_cases e1 : j = i
    · subst e1
      rw [if_pos rfl, hj, h2]
      simp
    · rw [if_neg e1, hi]
      cases hp : P[i]? with
      | none => rfl
      | some y =>
        simp only [Option.map_some, Function.comp, Option.some.injEq]
        rw [if_neg fun e2 => e1 (hone i y hp e2).symm]
  · obtain ⟨y, hy, rfl⟩ := List.mem_map.1 hx
    split
    · exact hn
    · exact hf y hy
  · rcases find_mp (w := W) he hf n hn with ⟨h1, h3⟩ | ⟨j', v2, h1, h3⟩
    · exact absurd (List.mem_map.2 ⟨_, hk, rfl⟩) h3
    · obtain rfl := hone j' _ h3 rfl
      unfold nidV at hl h1 hek
      have hst := mapLaw.stays W hl
      simp [Instr.mapUpdate, run_underlying Try.underlying85, MapKept.run_getObj_map hb, mapLaw.check W false hl, h1, hj, hek, hst, MapKept.run_setObj_map _ hb, Result.andThen, setB, nidV, plV]
theorem erase_filter {P : List Pl} {j : Nat} {n : Nid} {v : Nat × Nat} (h : P[j]? = some (n, v)) (hd : (P.map fun x => x.1).Nodup) : P.eraseIdx j = mdelP P n := by
  unfold mdelP
  obtain ⟨hj, e⟩ := List.getElem?_eq_some_iff.1 h
  unfold List.Nodup at hd
  rw [List.pairwise_map] at hd
  rw [List.eraseIdx_eq_take_drop_succ]
  conv => rhs; rw [← List.take_append_drop j P, List.filter_append, List.drop_eq_getElem_cons hj, e]
  rw [List.filter_cons_of_neg (by simp), List.filter_eq_self.2, List.filter_eq_self.2]
  · intro x hx
    obtain ⟨t, ht, rfl⟩ := List.mem_iff_getElem.1 hx
    rw [List.length_drop] at ht
    rw [List.getElem_drop]
    have := List.pairwise_iff_getElem.1 hd j (j + 1 + t) hj (by omega) (by omega)
    rw [e] at this
    simpa using fun hh => this hh.symm
  · intro x hx
    obtain ⟨t, ht, rfl⟩ := List.mem_iff_getElem.1 hx
    rw [List.length_take] at ht
    rw [List.getElem_take]
    have := List.pairwise_iff_getElem.1 hd t j (by omega) hj (by omega)
    rw [e] at this
    simpa using this
theorem MpO.del {o : Obj} {P : List Pl} (h : MpO o P) (n : Nid) (hn : NFit n) {v : Nat × Nat} (hk : (n, v) ∈ P) (hd : (P.map fun x => x.1).Nodup) :
    ∃ o', MpO o' (mdelP P n) ∧ ∀ (W : World) (b : Nat) (ty : TypeId), W.heap[b]? = some o → (Builtin.delete_ #[85, 48] ty #[.map (some b), .agg #[.int .i64 n.s, .int .i64 n.i, .int .i64 n.g]]).run Try.prog W = .ok (.tuple #[]) (setB W b o') := by
  obtain ⟨es, clock, rfl, he, hf⟩ := h
  obtain ⟨l, hl⟩ := key_nid n hn
  obtain ⟨j, h2⟩ := List.mem_iff_getElem?.1 hk
  have hlen := congrArg List.length he
  simp only [List.length_map, Array.length_toList] at hlen
  have hjs : j < es.size := by rw [hlen]; exact (List.getElem?_eq_some_iff.1 h2).1
  obtain ⟨hj1, hj2⟩ := List.getElem?_eq_some_iff.1 h2
  have hsub : (es.eraseIdxIfInBounds j).toList = es.toList.eraseIdx j := by
    unfold Array.eraseIdxIfInBounds
    rw [dif_pos hjs]
    simp
  refine ⟨.map (es.eraseIdxIfInBounds j) clock, ⟨_, _, rfl, ?_, fun x hx => hf x (List.mem_filter.1 hx).1⟩, fun W b ty hb => ?_⟩
  · rw [hsub, map_eraseIdx, he, ← map_eraseIdx, erase_filter h2 hd]
  · rcases find_mp (w := W) he hf n hn with ⟨h1, h3⟩ | ⟨j', v2, h1, h3⟩
    · exact absurd (List.mem_map.2 ⟨_, hk, rfl⟩) h3
    · have hd' := hd
      unfold List.Nodup at hd'
      rw [List.pairwise_map] at hd'
      obtain ⟨hi1, hi2⟩ := List.getElem?_eq_some_iff.1 h3
      obtain rfl : j' = j := by
        rcases Nat.lt_trichotomy j' j with hlt | e1 | hlt
        · exact absurd (by rw [hi2, hj2]) (List.pairwise_iff_getElem.1 hd' j' j hi1 hj1 hlt)
        · exact e1
        · exact absurd (by rw [hi2, hj2]) (List.pairwise_iff_getElem.1 hd' j j' hj1 hi1 hlt)
      unfold nidV at hl h1
      simp [Builtin.delete_, run_underlying Try.underlying85, MapKept.run_getObj_map hb, mapLaw.check W _ hl, h1, MapKept.run_setObj_map _ hb, Result.andThen, setB]
end Go.Proofs.Ytmkfjelpekkmmaa
namespace Go.Proofs.Ytmkfjelpekkmmaa
open Go.RowKit
variable {w0 W W' : World} {A A' B C F : Ob}
theorem Own.snd (h : Own w0 W (A.and B)) : Own w0 W B := h.comm.fst
theorem made_box (W : World) (cs : Array Value) (T : TypeId) : Made W (W.alloc (.cells cs T)) (boxO W.heap.size cs T) :=
  ⟨fun x => x = W.heap.size, ⟨heap_alloc_new W _, fun _ => Iff.rfl⟩, (Below.refl _ _).alloc (Nat.le_refl _) _, fun x hx => by omega⟩
theorem Own.box {n : Nat} {cs : Array Value} {T : TypeId} (h : Own w0 W ((boxO n cs T).and F)) : (∀ j, W.cell? ⟨n, j, none⟩ = cs[j]?) ∧ (∀ j, W.frozen? ⟨n, j, none⟩ = false) ∧ n < W.heap.size ∧ w0.heap.size ≤ n := by
  obtain ⟨o, ⟨a, f, ⟨h1, h0⟩, h2, h3, h4⟩, h5, h6⟩ := h
  exact ⟨fun j => by simp [World.cell?, h1], fun j => by simp [World.frozen?, h1], lt_of_heap h1, h5 n ((h4 n).2 (.inl ((h0 n).2 rfl)))⟩
end Go.Proofs.Ytmkfjelpekkmmaa
namespace Go.Proofs.Ytmkfjelpekkmmaa
open Go.RowKit

def Boxed (W0 : World) (n : Nat) (arr : Array Value) (T : TypeId) (s : Value) (wc : World) : Prop :=
  ∃ d1 os1 d2 os2, s = .pointer (some ⟨n + Array.size os1, 0, none⟩) ∧ wc = more ((more W0 d1 os1).alloc (.cells arr T)) d2 os2

def Grew (W0 X : World) : Prop := ∃ d os, X = more W0 d os

theorem grew_refl (W0 : World) : Grew W0 W0 := ⟨W0.drawn, #[], by simp [more]⟩
theorem grew_redrawn (X : World) (d d' : Nat) (os : Array Obj) : Grew (more X d os) (more X d' os) := ⟨d', #[], by rw [more_more]; simp⟩
theorem grew_drew {W0 X : World} (h : Grew W0 X) : Grew W0 X.drew := by
  obtain ⟨d, os, rfl⟩ := h
  exact ⟨d + 1, os, rfl⟩
theorem grew_more {W0 X : World} (d : Nat) (os : Array Obj) (h : Grew W0 X) : Grew W0 (more X d os) := by
  obtain ⟨d1, os1, rfl⟩ := h
  exact ⟨d, os1 ++ os, more_more _ _ _ _ _⟩

theorem boxed_end {W0 X : World} {arr : Array Value} {T : TypeId} {s : Value} {n : Nat} (h : Grew W0 X) (hs : s = .pointer (some ⟨X.heap.size, 0, none⟩)) (hn : W0.heap.size = n) : Boxed W0 n arr T s (X.alloc (.cells arr T)) := by
  obtain ⟨d, os, rfl⟩ := h
  refine ⟨d, os, d, #[], by rw [hs, more_size, hn], ?_⟩
  simp [more, World.alloc]
theorem boxed_drew {W0 wc : World} {arr : Array Value} {T : TypeId} {s : Value} {n : Nat} (h : Boxed W0 n arr T s wc) : Boxed W0 n arr T s wc.drew := by
  obtain ⟨d1, os1, d2, os2, rfl, rfl⟩ := h
  exact ⟨d1, os1, d2 + 1, os2, rfl, rfl⟩
theorem boxed_more {W0 wc : World} {arr : Array Value} {T : TypeId} {s : Value} {n : Nat} (d : Nat) (os : Array Obj) (h : Boxed W0 n arr T s wc) : Boxed W0 n arr T s (more wc d os) := by
  obtain ⟨d1, os1, d2, os2, rfl, rfl⟩ := h
  exact ⟨d1, os1, d, os2 ++ os, rfl, more_more _ _ _ _ _⟩

end Go.Proofs.Ytmkfjelpekkmmaa
