/-
  Chapter texts Boxed: what the claim reaches of them. Conditions stand at each theorem.
-/
import Derived.Test.YtmkfjelpekkmmaaProg
import Derived.WalkKit
import Derived.WalkSpells
import Derived.WalkLawsBesides
import Derived.Handy
import Derived.Lib.Hide
import Derived.Lib.QuietBelow
import Derived.BigQuiet
import Derived.Deep.RegionHeld3
import Derived.Deep.RegionWith
import Derived.Deep.DeepFit
import Derived.Deep.DeepCutAuto
import Derived.Deep.LoopGhost
import Derived.Deep.Light
import Derived.Test.YtmkfjelpekkmmaaQ01
import Derived.Test.YtmkfjelpekkmmaaQ02
import Derived.Test.YtmkfjelpekkmmaaQ03
import Derived.Test.YtmkfjelpekkmmaaQ04
import Derived.Test.YtmkfjelpekkmmaaQ05
import Derived.Test.YtmkfjelpekkmmaaQ06
import Derived.Test.YtmkfjelpekkmmaaQ07
import Derived.Test.YtmkfjelpekkmmaaQ08
import Derived.Test.YtmkfjelpekkmmaaQ09
import Derived.Test.YtmkfjelpekkmmaaQ10
import Derived.Test.YtmkfjelpekkmmaaQ11
import Derived.Test.YtmkfjelpekkmmaaQ12
import Derived.Test.YtmkfjelpekkmmaaQ13
import Derived.Test.YtmkfjelpekkmmaaQ14
import Derived.Test.YtmkfjelpekkmmaaQ15
import Derived.Test.YtmkfjelpekkmmaaQ16
import Derived.Test.YtmkfjelpekkmmaaQ17
import Derived.Test.YtmkfjelpekkmmaaQ18
import Derived.Test.YtmkfjelpekkmmaaQ19
import Derived.Test.YtmkfjelpekkmmaaQ20
import Derived.Test.YtmkfjelpekkmmaaQ21
import Derived.Test.YtmkfjelpekkmmaaQ22
import Derived.Test.YtmkfjelpekkmmaaQ23
import Derived.Test.YtmkfjelpekkmmaaQ24
import Derived.Test.YtmkfjelpekkmmaaQ25
import Derived.Test.YtmkfjelpekkmmaaQ26
import Derived.Test.YtmkfjelpekkmmaaQ27
import Derived.Test.YtmkfjelpekkmmaaQ28
import Derived.Test.YtmkfjelpekkmmaaQ29
import Derived.Test.YtmkfjelpekkmmaaQ30
import Derived.Test.YtmkfjelpekkmmaaQ31
import Derived.Test.YtmkfjelpekkmmaaQ32
import Derived.Test.YtmkfjelpekkmmaaQ33
import Derived.Test.YtmkfjelpekkmmaaQ34
import Derived.Test.YtmkfjelpekkmmaaQ35
namespace Go.Proofs.Ytmkfjelpekkmmaa
open Go.RowKit

def Boxed (W0 : World) (n : Nat) (arr : Array Value) (T : TypeId) (s : Value) (wc : World) : Prop :=
  ∃ d1 os1 d2 os2, s = .pointer (some ⟨n + Array.size os1, 0, none⟩) ∧ wc = more ((more W0 d1 os1).alloc (.cells arr T)) d2 os2

def Grew (W0 X : World) : Prop := ∃ d os, X = more W0 d os

theorem grew_refl (W0 : World) : Grew W0 W0 := ⟨W0.drawn, #[], by simp [more]⟩
theorem grew_redrawn (X : World) (d d' : Nat) (os : Array Obj) : Grew (more X d os) (more X d' os) := ⟨d', #[], by rw [more_more]; simp⟩
theorem grew_drew {W0 X : World} (h : Grew W0 X) : Grew W0 X.drew := by
  obtain ⟨d, os, rfl⟩ := h
  exact ⟨d + 1, os, rfl⟩
theorem grew_more {W0 X : World} (d : Nat) (os : Array Obj) (h : Grew W0 X) : Grew W0 (more X d os) := by
  obtain ⟨d1, os1, rfl⟩ := h
  exact ⟨d, os1 ++ os, more_more _ _ _ _ _⟩

theorem boxed_end {W0 X : World} {arr : Array Value} {T : TypeId} {s : Value} {n : Nat} (h : Grew W0 X) (hs : s = .pointer (some ⟨X.heap.size, 0, none⟩)) (hn : W0.heap.size = n) : Boxed W0 n arr T s (X.alloc (.cells arr T)) := by
  obtain ⟨d, os, rfl⟩ := h
  refine ⟨d, os, d, #[], by rw [hs, more_size, hn], ?_⟩
  simp [more, World.alloc]
theorem boxed_drew {W0 wc : World} {arr : Array Value} {T : TypeId} {s : Value} {n : Nat} (h : Boxed W0 n arr T s wc) : Boxed W0 n arr T s wc.drew := by
  obtain ⟨d1, os1, d2, os2, rfl, rfl⟩ := h
  exact ⟨d1, os1, d2 + 1, os2, rfl, rfl⟩
theorem boxed_more {W0 wc : World} {arr : Array Value} {T : TypeId} {s : Value} {n : Nat} (d : Nat) (os : Array Obj) (h : Boxed W0 n arr T s wc) : Boxed W0 n arr T s (more wc d os) := by
  obtain ⟨d1, os1, d2, os2, rfl, rfl⟩ := h
  exact ⟨d1, os1, d, os2 ++ os, rfl, more_more _ _ _ _ _⟩

end Go.Proofs.Ytmkfjelpekkmmaa
