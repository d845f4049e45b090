/-
  No cell of these rows narrows 'for every input' (looked for: loops, veiled, ifaces, maps, wideKeys, modest, calm, conditions, laid).
  DERIVED. THE GIVEN ROWS OF THIS SEAT. 14 by the template 'for every input the law returns true; each argument reads behind the call as it read before'; 0 by the template 'total and deterministic' (their statements: YtcnclcfipabimaaTotals.lean).
  GIVEN WITH THE SEED: the statements are not yours to turn. If you find one false, say at which input.
  Laid BY PROGRAM, IN A SANDBOX (cutbox-rows.mjs): the forced cells as the released guide's own fill.sh prints them over the translation 6843d173192daba9… (all of the seat's roots in one cut). By AI agents, Wed Nov 11 2026. No macro, syntax, notation, axiom, sorry.
-/
import Derived.Test.YtcnclcfipabimaaChecked
import GoSem.Claim
import GoSem.ClaimJoined
import GoSem.ClaimMapViews
import Derived.JoinedTies
import Derived.KernelRfl
namespace Go.Proofs.Ytcnclcfipabimaa
/- THE CELL 'sum', in the pinned program and in every row, IS THE sha256 OF THE DUMP (.gsa) THAT YtcnclcfipabimaaProg.lean LOADS. Nothing in Lean hashes anything: it is a label: what it is worth is what the hold of that sum in a sandbox is worth. -/
noncomputable def Try.pinned : Pinned := { name := "ytcnclcfipabimaa", sum := "6843d173192daba9392da8c7d8a7355266947efa6c9e6fbd0e6e1f9162a77032", checked := Try.checked }
namespace Rows
def none {H : Type} : Left H := { results := [], args := [] }

/-- 'hedgerowlaw22.GhostsFor': WHATEVER THE INPUT: true; the input reads as it did. -/
def ghostsForSpec : ChangeSpec := { name := "ghostsFor", fn := fun _ => fun
  | [d1, d2, d3] => { results := [.lit (.bool true)], args := [d1, d2, d3] }
  | _ => none }
def ghostsForRow : OpenClaim := { program := "ytcnclcfipabimaa", sum := "6843d173192daba9392da8c7d8a7355266947efa6c9e6fbd0e6e1f9162a77032", func := "hedgerow/hedgerowlaw22.GhostsFor", spec := "ghostsFor", unfollowed := true, recurses := true, apart := false }
def GhostsForSaid : Prop := ghostsForRow.holds Try.pinned (OpenSpec.ofChange ghostsForSpec)

/-- ITS FALSE NEIGHBOUR: 'it returns false'. Refute it at one input. -/
def ghostsForWrong : ChangeSpec := { name := "ghostsFor", fn := fun _ => fun
  | [d1, d2, d3] => { results := [.lit (.bool false)], args := [d1, d2, d3] }
  | _ => none }
def GhostsForWrongFalsely : Prop := ghostsForRow.holds Try.pinned (OpenSpec.ofChange ghostsForWrong)

/-- 'hedgerowlaw22.GhostsFold': WHATEVER THE INPUT: true; the input reads as it did. -/
def ghostsFoldSpec : ChangeSpec := { name := "ghostsFold", fn := fun _ => fun
  | [d] => { results := [.lit (.bool true)], args := [d] }
  | _ => none }
def ghostsFoldRow : OpenClaim := { program := "ytcnclcfipabimaa", sum := "6843d173192daba9392da8c7d8a7355266947efa6c9e6fbd0e6e1f9162a77032", func := "hedgerow/hedgerowlaw22.GhostsFold", spec := "ghostsFold", unfollowed := true, recurses := true, apart := false }
def GhostsFoldSaid : Prop := ghostsFoldRow.holds Try.pinned (OpenSpec.ofChange ghostsFoldSpec)

/-- ITS FALSE NEIGHBOUR: 'it returns false'. Refute it at one input. -/
def ghostsFoldWrong : ChangeSpec := { name := "ghostsFold", fn := fun _ => fun
  | [d] => { results := [.lit (.bool false)], args := [d] }
  | _ => none }
def GhostsFoldWrongFalsely : Prop := ghostsFoldRow.holds Try.pinned (OpenSpec.ofChange ghostsFoldWrong)

/-- 'hedgerowlaw22.GhostsEnough': WHATEVER THE INPUT: true; the input reads as it did. -/
def ghostsEnoughSpec : ChangeSpec := { name := "ghostsEnough", fn := fun _ => fun
  | [d1, d2] => { results := [.lit (.bool true)], args := [d1, d2] }
  | _ => none }
def ghostsEnoughRow : OpenClaim := { program := "ytcnclcfipabimaa", sum := "6843d173192daba9392da8c7d8a7355266947efa6c9e6fbd0e6e1f9162a77032", func := "hedgerow/hedgerowlaw22.GhostsEnough", spec := "ghostsEnough", unfollowed := true, recurses := true, apart := false }
def GhostsEnoughSaid : Prop := ghostsEnoughRow.holds Try.pinned (OpenSpec.ofChange ghostsEnoughSpec)

/-- ITS FALSE NEIGHBOUR: 'it returns false'. Refute it at one input. -/
def ghostsEnoughWrong : ChangeSpec := { name := "ghostsEnough", fn := fun _ => fun
  | [d1, d2] => { results := [.lit (.bool false)], args := [d1, d2] }
  | _ => none }
def GhostsEnoughWrongFalsely : Prop := ghostsEnoughRow.holds Try.pinned (OpenSpec.ofChange ghostsEnoughWrong)

/-- 'hedgerowlaw22.GhostsTick': WHATEVER THE INPUT: true; the input reads as it did. -/
def ghostsTickSpec : ChangeSpec := { name := "ghostsTick", fn := fun _ => fun
  | [d1, d2, d3] => { results := [.lit (.bool true)], args := [d1, d2, d3] }
  | _ => none }
def ghostsTickRow : OpenClaim := { program := "ytcnclcfipabimaa", sum := "6843d173192daba9392da8c7d8a7355266947efa6c9e6fbd0e6e1f9162a77032", func := "hedgerow/hedgerowlaw22.GhostsTick", spec := "ghostsTick", unfollowed := true, recurses := true, apart := false }
def GhostsTickSaid : Prop := ghostsTickRow.holds Try.pinned (OpenSpec.ofChange ghostsTickSpec)

/-- ITS FALSE NEIGHBOUR: 'it returns false'. Refute it at one input. -/
def ghostsTickWrong : ChangeSpec := { name := "ghostsTick", fn := fun _ => fun
  | [d1, d2, d3] => { results := [.lit (.bool false)], args := [d1, d2, d3] }
  | _ => none }
def GhostsTickWrongFalsely : Prop := ghostsTickRow.holds Try.pinned (OpenSpec.ofChange ghostsTickWrong)

/-- 'hedgerowlaw22.GhostsOwn': WHATEVER THE INPUT: true; the input reads as it did. -/
def ghostsOwnSpec : ChangeSpec := { name := "ghostsOwn", fn := fun _ => fun
  | [d1, d2] => { results := [.lit (.bool true)], args := [d1, d2] }
  | _ => none }
def ghostsOwnRow : OpenClaim := { program := "ytcnclcfipabimaa", sum := "6843d173192daba9392da8c7d8a7355266947efa6c9e6fbd0e6e1f9162a77032", func := "hedgerow/hedgerowlaw22.GhostsOwn", spec := "ghostsOwn", unfollowed := true, recurses := true, apart := false }
def GhostsOwnSaid : Prop := ghostsOwnRow.holds Try.pinned (OpenSpec.ofChange ghostsOwnSpec)

/-- ITS FALSE NEIGHBOUR: 'it returns false'. Refute it at one input. -/
def ghostsOwnWrong : ChangeSpec := { name := "ghostsOwn", fn := fun _ => fun
  | [d1, d2] => { results := [.lit (.bool false)], args := [d1, d2] }
  | _ => none }
def GhostsOwnWrongFalsely : Prop := ghostsOwnRow.holds Try.pinned (OpenSpec.ofChange ghostsOwnWrong)

/-- 'hedgerowlaw22.GhostsOld': WHATEVER THE INPUT: true; the input reads as it did. -/
def ghostsOldSpec : ChangeSpec := { name := "ghostsOld", fn := fun _ => fun
  | [d] => { results := [.lit (.bool true)], args := [d] }
  | _ => none }
def ghostsOldRow : OpenClaim := { program := "ytcnclcfipabimaa", sum := "6843d173192daba9392da8c7d8a7355266947efa6c9e6fbd0e6e1f9162a77032", func := "hedgerow/hedgerowlaw22.GhostsOld", spec := "ghostsOld", unfollowed := true, recurses := true, apart := false }
def GhostsOldSaid : Prop := ghostsOldRow.holds Try.pinned (OpenSpec.ofChange ghostsOldSpec)

/-- ITS FALSE NEIGHBOUR: 'it returns false'. Refute it at one input. -/
def ghostsOldWrong : ChangeSpec := { name := "ghostsOld", fn := fun _ => fun
  | [d] => { results := [.lit (.bool false)], args := [d] }
  | _ => none }
def GhostsOldWrongFalsely : Prop := ghostsOldRow.holds Try.pinned (OpenSpec.ofChange ghostsOldWrong)

/-- 'hedgerowlaw22.GhostsNone': WHATEVER THE INPUT: true; the input reads as it did. -/
def ghostsNoneSpec : ChangeSpec := { name := "ghostsNone", fn := fun _ => fun
  | [d1, d2] => { results := [.lit (.bool true)], args := [d1, d2] }
  | _ => none }
def ghostsNoneRow : OpenClaim := { program := "ytcnclcfipabimaa", sum := "6843d173192daba9392da8c7d8a7355266947efa6c9e6fbd0e6e1f9162a77032", func := "hedgerow/hedgerowlaw22.GhostsNone", spec := "ghostsNone", unfollowed := true, recurses := true, apart := false }
def GhostsNoneSaid : Prop := ghostsNoneRow.holds Try.pinned (OpenSpec.ofChange ghostsNoneSpec)

/-- ITS FALSE NEIGHBOUR: 'it returns false'. Refute it at one input. -/
def ghostsNoneWrong : ChangeSpec := { name := "ghostsNone", fn := fun _ => fun
  | [d1, d2] => { results := [.lit (.bool false)], args := [d1, d2] }
  | _ => none }
def GhostsNoneWrongFalsely : Prop := ghostsNoneRow.holds Try.pinned (OpenSpec.ofChange ghostsNoneWrong)

/-- 'hedgerowlaw15.TickSplits': WHATEVER THE INPUT: true; the input reads as it did. -/
def tickSplitsSpec : ChangeSpec := { name := "tickSplits", fn := fun _ => fun
  | [d1, d2, d3] => { results := [.lit (.bool true)], args := [d1, d2, d3] }
  | _ => none }
def tickSplitsRow : OpenClaim := { program := "ytcnclcfipabimaa", sum := "6843d173192daba9392da8c7d8a7355266947efa6c9e6fbd0e6e1f9162a77032", func := "hedgerow/hedgerowlaw15.TickSplits", spec := "tickSplits", inPlace := ["slices.overlaps[hedgerow/api.Bundle]"], unfollowed := true, recurses := true, apart := false }
def TickSplitsSaid : Prop := tickSplitsRow.holds Try.pinned (OpenSpec.ofChange tickSplitsSpec)

/-- ITS FALSE NEIGHBOUR: 'it returns false'. Refute it at one input. -/
def tickSplitsWrong : ChangeSpec := { name := "tickSplits", fn := fun _ => fun
  | [d1, d2, d3] => { results := [.lit (.bool false)], args := [d1, d2, d3] }
  | _ => none }
def TickSplitsWrongFalsely : Prop := tickSplitsRow.holds Try.pinned (OpenSpec.ofChange tickSplitsWrong)

/-- 'hedgerowlaw15.TickOrder': WHATEVER THE INPUT: true; the input reads as it did. -/
def tickOrderSpec : ChangeSpec := { name := "tickOrder", fn := fun _ => fun
  | [d] => { results := [.lit (.bool true)], args := [d] }
  | _ => none }
def tickOrderRow : OpenClaim := { program := "ytcnclcfipabimaa", sum := "6843d173192daba9392da8c7d8a7355266947efa6c9e6fbd0e6e1f9162a77032", func := "hedgerow/hedgerowlaw15.TickOrder", spec := "tickOrder", inPlace := ["slices.overlaps[hedgerow/api.Bundle]"], unfollowed := true, recurses := true, apart := false }
def TickOrderSaid : Prop := tickOrderRow.holds Try.pinned (OpenSpec.ofChange tickOrderSpec)

/-- ITS FALSE NEIGHBOUR: 'it returns false'. Refute it at one input. -/
def tickOrderWrong : ChangeSpec := { name := "tickOrder", fn := fun _ => fun
  | [d] => { results := [.lit (.bool false)], args := [d] }
  | _ => none }
def TickOrderWrongFalsely : Prop := tickOrderRow.holds Try.pinned (OpenSpec.ofChange tickOrderWrong)

/-- 'hedgerowlaw15.TickTurns': WHATEVER THE INPUT: true; the input reads as it did. -/
def tickTurnsSpec : ChangeSpec := { name := "tickTurns", fn := fun _ => fun
  | [d1, d2] => { results := [.lit (.bool true)], args := [d1, d2] }
  | _ => none }
def tickTurnsRow : OpenClaim := { program := "ytcnclcfipabimaa", sum := "6843d173192daba9392da8c7d8a7355266947efa6c9e6fbd0e6e1f9162a77032", func := "hedgerow/hedgerowlaw15.TickTurns", spec := "tickTurns", inPlace := ["slices.overlaps[hedgerow/api.Bundle]"], unfollowed := true, recurses := true, apart := false }
def TickTurnsSaid : Prop := tickTurnsRow.holds Try.pinned (OpenSpec.ofChange tickTurnsSpec)

/-- ITS FALSE NEIGHBOUR: 'it returns false'. Refute it at one input. -/
def tickTurnsWrong : ChangeSpec := { name := "tickTurns", fn := fun _ => fun
  | [d1, d2] => { results := [.lit (.bool false)], args := [d1, d2] }
  | _ => none }
def TickTurnsWrongFalsely : Prop := tickTurnsRow.holds Try.pinned (OpenSpec.ofChange tickTurnsWrong)

/-- 'hedgerowlaw15.TickCounts': WHATEVER THE INPUT: true; the input reads as it did. -/
def tickCountsSpec : ChangeSpec := { name := "tickCounts", fn := fun _ => fun
  | [d] => { results := [.lit (.bool true)], args := [d] }
  | _ => none }
def tickCountsRow : OpenClaim := { program := "ytcnclcfipabimaa", sum := "6843d173192daba9392da8c7d8a7355266947efa6c9e6fbd0e6e1f9162a77032", func := "hedgerow/hedgerowlaw15.TickCounts", spec := "tickCounts", inPlace := ["slices.overlaps[hedgerow/api.Bundle]"], unfollowed := true, recurses := true, apart := false }
def TickCountsSaid : Prop := tickCountsRow.holds Try.pinned (OpenSpec.ofChange tickCountsSpec)

/-- ITS FALSE NEIGHBOUR: 'it returns false'. Refute it at one input. -/
def tickCountsWrong : ChangeSpec := { name := "tickCounts", fn := fun _ => fun
  | [d] => { results := [.lit (.bool false)], args := [d] }
  | _ => none }
def TickCountsWrongFalsely : Prop := tickCountsRow.holds Try.pinned (OpenSpec.ofChange tickCountsWrong)

/-- 'hedgerowlaw15.TickQuiet': WHATEVER THE INPUT: true; the input reads as it did. -/
def tickQuietSpec : ChangeSpec := { name := "tickQuiet", fn := fun _ => fun
  | [d1, d2] => { results := [.lit (.bool true)], args := [d1, d2] }
  | _ => none }
def tickQuietRow : OpenClaim := { program := "ytcnclcfipabimaa", sum := "6843d173192daba9392da8c7d8a7355266947efa6c9e6fbd0e6e1f9162a77032", func := "hedgerow/hedgerowlaw15.TickQuiet", spec := "tickQuiet", inPlace := ["slices.overlaps[hedgerow/api.Bundle]"], unfollowed := true, recurses := true, apart := false }
def TickQuietSaid : Prop := tickQuietRow.holds Try.pinned (OpenSpec.ofChange tickQuietSpec)

/-- ITS FALSE NEIGHBOUR: 'it returns false'. Refute it at one input. -/
def tickQuietWrong : ChangeSpec := { name := "tickQuiet", fn := fun _ => fun
  | [d1, d2] => { results := [.lit (.bool false)], args := [d1, d2] }
  | _ => none }
def TickQuietWrongFalsely : Prop := tickQuietRow.holds Try.pinned (OpenSpec.ofChange tickQuietWrong)

/-- 'hedgerowlaw15.TickNone': WHATEVER THE INPUT: true; the input reads as it did. -/
def tickNoneSpec : ChangeSpec := { name := "tickNone", fn := fun _ => fun
  | [d] => { results := [.lit (.bool true)], args := [d] }
  | _ => none }
def tickNoneRow : OpenClaim := { program := "ytcnclcfipabimaa", sum := "6843d173192daba9392da8c7d8a7355266947efa6c9e6fbd0e6e1f9162a77032", func := "hedgerow/hedgerowlaw15.TickNone", spec := "tickNone", inPlace := ["slices.overlaps[hedgerow/api.Bundle]"], unfollowed := true, recurses := true, apart := false }
def TickNoneSaid : Prop := tickNoneRow.holds Try.pinned (OpenSpec.ofChange tickNoneSpec)

/-- ITS FALSE NEIGHBOUR: 'it returns false'. Refute it at one input. -/
def tickNoneWrong : ChangeSpec := { name := "tickNone", fn := fun _ => fun
  | [d] => { results := [.lit (.bool false)], args := [d] }
  | _ => none }
def TickNoneWrongFalsely : Prop := tickNoneRow.holds Try.pinned (OpenSpec.ofChange tickNoneWrong)

/-- 'hedgerowlaw15.TickGoes': WHATEVER THE INPUT: true; the input reads as it did. -/
def tickGoesSpec : ChangeSpec := { name := "tickGoes", fn := fun _ => fun
  | [d] => { results := [.lit (.bool true)], args := [d] }
  | _ => none }
def tickGoesRow : OpenClaim := { program := "ytcnclcfipabimaa", sum := "6843d173192daba9392da8c7d8a7355266947efa6c9e6fbd0e6e1f9162a77032", func := "hedgerow/hedgerowlaw15.TickGoes", spec := "tickGoes", inPlace := ["slices.overlaps[hedgerow/api.Bundle]"], unfollowed := true, recurses := true, apart := false }
def TickGoesSaid : Prop := tickGoesRow.holds Try.pinned (OpenSpec.ofChange tickGoesSpec)

/-- ITS FALSE NEIGHBOUR: 'it returns false'. Refute it at one input. -/
def tickGoesWrong : ChangeSpec := { name := "tickGoes", fn := fun _ => fun
  | [d] => { results := [.lit (.bool false)], args := [d] }
  | _ => none }
def TickGoesWrongFalsely : Prop := tickGoesRow.holds Try.pinned (OpenSpec.ofChange tickGoesWrong)

/- THE SECOND FORM. 'bulk': how many values and letters a reading holds, each counted each time it is reached (what is shared counts as often as it is met; a slice's spare places count too). A statement '..UptoSaid' is the law's where the arguments, and the package variables that the reading takes, are together of bulk at most 1048576: NARROWER than '..Said'. Prove '..Said' where nothing that the law and all that it calls make is longer than what came in: it says more and counts as full. Else prove '..UptoSaid'. A law counts once. -/
mutual
def uptoBulk {H : Type} : DataW H → Nat
  | .lit (.string bytes) => bytes.length + 1
  | .lit _ => 1
  | .nil => 1
  | .ptr d => uptoBulk d + 1
  | .slice elems spare => uptoBulkAll elems + uptoBulkAll spare + 1
  | .agg parts => uptoBulkAll parts + 1
  | .iface _ d => uptoBulk d + 1
  | .map entries => uptoBulkEntries entries + 1
  | .held _ => 1
def uptoBulkAll {H : Type} : List (DataW H) → Nat
  | [] => 0
  | d :: r => uptoBulk d + uptoBulkAll r
def uptoBulkEntries {H : Type} : List (Lit × DataW H) → Nat
  | [] => 0
  | x :: r => uptoBulkEntry x + uptoBulkEntries r
def uptoBulkEntry {H : Type} : Lit × DataW H → Nat
  | (.string bytes, d) => bytes.length + uptoBulk d + 1
  | (_, d) => uptoBulk d + 1
 end
def uptoSmall : (H : Type) → List (DataW H) → Bool := fun _ ds => decide (uptoBulkAll ds ≤ 1048576)
def OpenSpec.upto (s : _root_.Go.ChangeSpec) : _root_.Go.OpenSpec := { _root_.Go.OpenSpec.ofChange s with cond := some uptoSmall }

/-- 'hedgerowlaw22.GhostsFor', WHERE WHAT IT READS IS OF BULK AT MOST 1048576: true; the input reads as it did. -/
def ghostsForUptoRow : OpenClaim := { program := "ytcnclcfipabimaa", sum := "6843d173192daba9392da8c7d8a7355266947efa6c9e6fbd0e6e1f9162a77032", func := "hedgerow/hedgerowlaw22.GhostsFor", spec := "ghostsFor", unfollowed := true, recurses := true, apart := false, narrowed := true }
def GhostsForUptoSaid : Prop := ghostsForUptoRow.holds Try.pinned (OpenSpec.upto ghostsForSpec)

/-- 'hedgerowlaw22.GhostsFold', WHERE WHAT IT READS IS OF BULK AT MOST 1048576: true; the input reads as it did. -/
def ghostsFoldUptoRow : OpenClaim := { program := "ytcnclcfipabimaa", sum := "6843d173192daba9392da8c7d8a7355266947efa6c9e6fbd0e6e1f9162a77032", func := "hedgerow/hedgerowlaw22.GhostsFold", spec := "ghostsFold", unfollowed := true, recurses := true, apart := false, narrowed := true }
def GhostsFoldUptoSaid : Prop := ghostsFoldUptoRow.holds Try.pinned (OpenSpec.upto ghostsFoldSpec)

/-- 'hedgerowlaw22.GhostsEnough', WHERE WHAT IT READS IS OF BULK AT MOST 1048576: true; the input reads as it did. -/
def ghostsEnoughUptoRow : OpenClaim := { program := "ytcnclcfipabimaa", sum := "6843d173192daba9392da8c7d8a7355266947efa6c9e6fbd0e6e1f9162a77032", func := "hedgerow/hedgerowlaw22.GhostsEnough", spec := "ghostsEnough", unfollowed := true, recurses := true, apart := false, narrowed := true }
def GhostsEnoughUptoSaid : Prop := ghostsEnoughUptoRow.holds Try.pinned (OpenSpec.upto ghostsEnoughSpec)

/-- 'hedgerowlaw22.GhostsTick', WHERE WHAT IT READS IS OF BULK AT MOST 1048576: true; the input reads as it did. -/
def ghostsTickUptoRow : OpenClaim := { program := "ytcnclcfipabimaa", sum := "6843d173192daba9392da8c7d8a7355266947efa6c9e6fbd0e6e1f9162a77032", func := "hedgerow/hedgerowlaw22.GhostsTick", spec := "ghostsTick", unfollowed := true, recurses := true, apart := false, narrowed := true }
def GhostsTickUptoSaid : Prop := ghostsTickUptoRow.holds Try.pinned (OpenSpec.upto ghostsTickSpec)

/-- 'hedgerowlaw22.GhostsOwn', WHERE WHAT IT READS IS OF BULK AT MOST 1048576: true; the input reads as it did. -/
def ghostsOwnUptoRow : OpenClaim := { program := "ytcnclcfipabimaa", sum := "6843d173192daba9392da8c7d8a7355266947efa6c9e6fbd0e6e1f9162a77032", func := "hedgerow/hedgerowlaw22.GhostsOwn", spec := "ghostsOwn", unfollowed := true, recurses := true, apart := false, narrowed := true }
def GhostsOwnUptoSaid : Prop := ghostsOwnUptoRow.holds Try.pinned (OpenSpec.upto ghostsOwnSpec)

/-- 'hedgerowlaw22.GhostsOld', WHERE WHAT IT READS IS OF BULK AT MOST 1048576: true; the input reads as it did. -/
def ghostsOldUptoRow : OpenClaim := { program := "ytcnclcfipabimaa", sum := "6843d173192daba9392da8c7d8a7355266947efa6c9e6fbd0e6e1f9162a77032", func := "hedgerow/hedgerowlaw22.GhostsOld", spec := "ghostsOld", unfollowed := true, recurses := true, apart := false, narrowed := true }
def GhostsOldUptoSaid : Prop := ghostsOldUptoRow.holds Try.pinned (OpenSpec.upto ghostsOldSpec)

/-- 'hedgerowlaw22.GhostsNone', WHERE WHAT IT READS IS OF BULK AT MOST 1048576: true; the input reads as it did. -/
def ghostsNoneUptoRow : OpenClaim := { program := "ytcnclcfipabimaa", sum := "6843d173192daba9392da8c7d8a7355266947efa6c9e6fbd0e6e1f9162a77032", func := "hedgerow/hedgerowlaw22.GhostsNone", spec := "ghostsNone", unfollowed := true, recurses := true, apart := false, narrowed := true }
def GhostsNoneUptoSaid : Prop := ghostsNoneUptoRow.holds Try.pinned (OpenSpec.upto ghostsNoneSpec)

/-- 'hedgerowlaw15.TickSplits', WHERE WHAT IT READS IS OF BULK AT MOST 1048576: true; the input reads as it did. -/
def tickSplitsUptoRow : OpenClaim := { program := "ytcnclcfipabimaa", sum := "6843d173192daba9392da8c7d8a7355266947efa6c9e6fbd0e6e1f9162a77032", func := "hedgerow/hedgerowlaw15.TickSplits", spec := "tickSplits", inPlace := ["slices.overlaps[hedgerow/api.Bundle]"], unfollowed := true, recurses := true, apart := false, narrowed := true }
def TickSplitsUptoSaid : Prop := tickSplitsUptoRow.holds Try.pinned (OpenSpec.upto tickSplitsSpec)

/-- 'hedgerowlaw15.TickOrder', WHERE WHAT IT READS IS OF BULK AT MOST 1048576: true; the input reads as it did. -/
def tickOrderUptoRow : OpenClaim := { program := "ytcnclcfipabimaa", sum := "6843d173192daba9392da8c7d8a7355266947efa6c9e6fbd0e6e1f9162a77032", func := "hedgerow/hedgerowlaw15.TickOrder", spec := "tickOrder", inPlace := ["slices.overlaps[hedgerow/api.Bundle]"], unfollowed := true, recurses := true, apart := false, narrowed := true }
def TickOrderUptoSaid : Prop := tickOrderUptoRow.holds Try.pinned (OpenSpec.upto tickOrderSpec)

/-- 'hedgerowlaw15.TickTurns', WHERE WHAT IT READS IS OF BULK AT MOST 1048576: true; the input reads as it did. -/
def tickTurnsUptoRow : OpenClaim := { program := "ytcnclcfipabimaa", sum := "6843d173192daba9392da8c7d8a7355266947efa6c9e6fbd0e6e1f9162a77032", func := "hedgerow/hedgerowlaw15.TickTurns", spec := "tickTurns", inPlace := ["slices.overlaps[hedgerow/api.Bundle]"], unfollowed := true, recurses := true, apart := false, narrowed := true }
def TickTurnsUptoSaid : Prop := tickTurnsUptoRow.holds Try.pinned (OpenSpec.upto tickTurnsSpec)

/-- 'hedgerowlaw15.TickCounts', WHERE WHAT IT READS IS OF BULK AT MOST 1048576: true; the input reads as it did. -/
def tickCountsUptoRow : OpenClaim := { program := "ytcnclcfipabimaa", sum := "6843d173192daba9392da8c7d8a7355266947efa6c9e6fbd0e6e1f9162a77032", func := "hedgerow/hedgerowlaw15.TickCounts", spec := "tickCounts", inPlace := ["slices.overlaps[hedgerow/api.Bundle]"], unfollowed := true, recurses := true, apart := false, narrowed := true }
def TickCountsUptoSaid : Prop := tickCountsUptoRow.holds Try.pinned (OpenSpec.upto tickCountsSpec)

/-- 'hedgerowlaw15.TickQuiet', WHERE WHAT IT READS IS OF BULK AT MOST 1048576: true; the input reads as it did. -/
def tickQuietUptoRow : OpenClaim := { program := "ytcnclcfipabimaa", sum := "6843d173192daba9392da8c7d8a7355266947efa6c9e6fbd0e6e1f9162a77032", func := "hedgerow/hedgerowlaw15.TickQuiet", spec := "tickQuiet", inPlace := ["slices.overlaps[hedgerow/api.Bundle]"], unfollowed := true, recurses := true, apart := false, narrowed := true }
def TickQuietUptoSaid : Prop := tickQuietUptoRow.holds Try.pinned (OpenSpec.upto tickQuietSpec)

/-- 'hedgerowlaw15.TickNone', WHERE WHAT IT READS IS OF BULK AT MOST 1048576: true; the input reads as it did. -/
def tickNoneUptoRow : OpenClaim := { program := "ytcnclcfipabimaa", sum := "6843d173192daba9392da8c7d8a7355266947efa6c9e6fbd0e6e1f9162a77032", func := "hedgerow/hedgerowlaw15.TickNone", spec := "tickNone", inPlace := ["slices.overlaps[hedgerow/api.Bundle]"], unfollowed := true, recurses := true, apart := false, narrowed := true }
def TickNoneUptoSaid : Prop := tickNoneUptoRow.holds Try.pinned (OpenSpec.upto tickNoneSpec)

/-- 'hedgerowlaw15.TickGoes', WHERE WHAT IT READS IS OF BULK AT MOST 1048576: true; the input reads as it did. -/
def tickGoesUptoRow : OpenClaim := { program := "ytcnclcfipabimaa", sum := "6843d173192daba9392da8c7d8a7355266947efa6c9e6fbd0e6e1f9162a77032", func := "hedgerow/hedgerowlaw15.TickGoes", spec := "tickGoes", inPlace := ["slices.overlaps[hedgerow/api.Bundle]"], unfollowed := true, recurses := true, apart := false, narrowed := true }
def TickGoesUptoSaid : Prop := tickGoesUptoRow.holds Try.pinned (OpenSpec.upto tickGoesSpec)

end Rows
end Go.Proofs.Ytcnclcfipabimaa
