/-
  A variable laid by a region that draws its order, before, between or behind the region's calls: wherever it lies, the world is of one form. No condition.
-/
import Derived.Test.YtcnclcfipabimaaBase
namespace Go.Proofs.Ytcnclcfipabimaa
open Go.RowKit

/-- The slot s points to a new block that reads as arr; before and behind it blocks may have been laid. -/
def Boxed (W0 : World) (n : Nat) (arr : Array Value) (T : TypeId) (s : Value) (wc : World) : Prop :=
  ∃ d1 os1 d2 os2, s = .pointer (some ⟨n + Array.size os1, 0, none⟩) ∧ wc = more ((more W0 d1 os1).alloc (.cells arr T)) d2 os2

def Grew (W0 X : World) : Prop := ∃ d os, X = more W0 d os

theorem grew_refl (W0 : World) : Grew W0 W0 := ⟨W0.drawn, #[], by simp [more]⟩
theorem grew_redrawn (X : World) (d d' : Nat) (os : Array Obj) : Grew (more X d os) (more X d' os) := ⟨d', #[], by rw [more_more]; simp⟩
/-- A region's state at a world behind a callee: the draw has gone into it. -/
theorem s_redrawn (X : World) (d d' : Nat) (os : Array Obj) : (more X d os).heap.size ≤ (more X d' os).heap.size ∧ ∀ b o, b < (more X d os).heap.size → (more X d' os).cell? ⟨b, o, none⟩ = (more X d os).cell? ⟨b, o, none⟩ := ⟨Nat.le_refl _, fun _ _ _ => rfl⟩
theorem grew_drew {W0 X : World} (h : Grew W0 X) : Grew W0 X.drew := by
  obtain ⟨d, os, rfl⟩ := h
  exact ⟨d + 1, os, rfl⟩
theorem grew_more {W0 X : World} (d : Nat) (os : Array Obj) (h : Grew W0 X) : Grew W0 (more X d os) := by
  obtain ⟨d1, os1, rfl⟩ := h
  exact ⟨d, os1 ++ os, more_more _ _ _ _ _⟩

theorem boxed_end {W0 X : World} {arr : Array Value} {T : TypeId} {s : Value} {n : Nat} (h : Grew W0 X) (hs : s = .pointer (some ⟨X.heap.size, 0, none⟩)) (hn : W0.heap.size = n) : Boxed W0 n arr T s (X.alloc (.cells arr T)) := by
  obtain ⟨d, os, rfl⟩ := h
  refine ⟨d, os, d, #[], by rw [hs, more_size, hn], ?_⟩
  simp [more, World.alloc]
theorem boxed_drew {W0 wc : World} {arr : Array Value} {T : TypeId} {s : Value} {n : Nat} (h : Boxed W0 n arr T s wc) : Boxed W0 n arr T s wc.drew := by
  obtain ⟨d1, os1, d2, os2, rfl, rfl⟩ := h
  exact ⟨d1, os1, d2 + 1, os2, rfl, rfl⟩
theorem boxed_more {W0 wc : World} {arr : Array Value} {T : TypeId} {s : Value} {n : Nat} (d : Nat) (os : Array Obj) (h : Boxed W0 n arr T s wc) : Boxed W0 n arr T s (more wc d os) := by
  obtain ⟨d1, os1, d2, os2, rfl, rfl⟩ := h
  exact ⟨d1, os1, d, os2 ++ os, rfl, more_more _ _ _ _ _⟩

end Go.Proofs.Ytcnclcfipabimaa
