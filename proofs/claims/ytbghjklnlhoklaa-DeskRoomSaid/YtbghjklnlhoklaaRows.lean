/-
  No cell of these rows narrows 'for every input' (looked for: loops, veiled, ifaces, maps, wideKeys, modest, calm, conditions, laid).
  DERIVED. THE GIVEN ROWS OF THIS SEAT. 7 by the template 'for every input the law returns true; each argument reads behind the call as it read before'; 0 by the template 'total and deterministic' (their statements: YtbghjklnlhoklaaTotals.lean).
  GIVEN WITH THE SEED: the statements are not yours to turn. If you find one false, say at which input.
  Laid BY PROGRAM, IN A SANDBOX (cutbox-rows.mjs): the forced cells as the released guide's own fill.sh prints them over the translation f2cffed46c86c5d6… (all of the seat's roots in one cut). By AI agents, Wed Nov 11 2026. No macro, syntax, notation, axiom, sorry.
-/
import Derived.Test.YtbghjklnlhoklaaChecked
import GoSem.Claim
import GoSem.ClaimJoined
import GoSem.ClaimMapViews
import Derived.JoinedTies
import Derived.KernelRfl
namespace Go.Proofs.Ytbghjklnlhoklaa
/- THE CELL 'sum', in the pinned program and in every row, IS THE sha256 OF THE DUMP (.gsa) THAT YtbghjklnlhoklaaProg.lean LOADS. Nothing in Lean hashes anything: it is a label: what it is worth is what the hold of that sum in a sandbox is worth. -/
noncomputable def Try.pinned : Pinned := { name := "ytbghjklnlhoklaa", sum := "f2cffed46c86c5d6c7a11f3f9a065c6d1eb365f34cfb15e81ea7bc5e07b5b164", checked := Try.checked }
namespace Rows
def none {H : Type} : Left H := { results := [], args := [] }

/-- 'hedgerowlaw16.DeskTicks': WHATEVER THE INPUT: true; the input reads as it did. -/
def deskTicksSpec : ChangeSpec := { name := "deskTicks", fn := fun _ => fun
  | [d1, d2] => { results := [.lit (.bool true)], args := [d1, d2] }
  | _ => none }
def deskTicksRow : OpenClaim := { program := "ytbghjklnlhoklaa", sum := "f2cffed46c86c5d6c7a11f3f9a065c6d1eb365f34cfb15e81ea7bc5e07b5b164", func := "hedgerow/hedgerowlaw16.DeskTicks", spec := "deskTicks", unfollowed := true, recurses := true, apart := false }
def DeskTicksSaid : Prop := deskTicksRow.holds Try.pinned (OpenSpec.ofChange deskTicksSpec)

/-- ITS FALSE NEIGHBOUR: 'it returns false'. Refute it at one input. -/
def deskTicksWrong : ChangeSpec := { name := "deskTicks", fn := fun _ => fun
  | [d1, d2] => { results := [.lit (.bool false)], args := [d1, d2] }
  | _ => none }
def DeskTicksWrongFalsely : Prop := deskTicksRow.holds Try.pinned (OpenSpec.ofChange deskTicksWrong)

/-- 'hedgerowlaw16.DeskStale': WHATEVER THE INPUT: true; the input reads as it did. -/
def deskStaleSpec : ChangeSpec := { name := "deskStale", fn := fun _ => fun
  | [d1, d2, d3] => { results := [.lit (.bool true)], args := [d1, d2, d3] }
  | _ => none }
def deskStaleRow : OpenClaim := { program := "ytbghjklnlhoklaa", sum := "f2cffed46c86c5d6c7a11f3f9a065c6d1eb365f34cfb15e81ea7bc5e07b5b164", func := "hedgerow/hedgerowlaw16.DeskStale", spec := "deskStale", unfollowed := true, recurses := true, apart := false }
def DeskStaleSaid : Prop := deskStaleRow.holds Try.pinned (OpenSpec.ofChange deskStaleSpec)

/-- ITS FALSE NEIGHBOUR: 'it returns false'. Refute it at one input. -/
def deskStaleWrong : ChangeSpec := { name := "deskStale", fn := fun _ => fun
  | [d1, d2, d3] => { results := [.lit (.bool false)], args := [d1, d2, d3] }
  | _ => none }
def DeskStaleWrongFalsely : Prop := deskStaleRow.holds Try.pinned (OpenSpec.ofChange deskStaleWrong)

/-- 'hedgerowlaw16.DeskAgain': WHATEVER THE INPUT: true; the input reads as it did. -/
def deskAgainSpec : ChangeSpec := { name := "deskAgain", fn := fun _ => fun
  | [d1, d2, d3] => { results := [.lit (.bool true)], args := [d1, d2, d3] }
  | _ => none }
def deskAgainRow : OpenClaim := { program := "ytbghjklnlhoklaa", sum := "f2cffed46c86c5d6c7a11f3f9a065c6d1eb365f34cfb15e81ea7bc5e07b5b164", func := "hedgerow/hedgerowlaw16.DeskAgain", spec := "deskAgain", unfollowed := true, recurses := true, apart := false }
def DeskAgainSaid : Prop := deskAgainRow.holds Try.pinned (OpenSpec.ofChange deskAgainSpec)

/-- ITS FALSE NEIGHBOUR: 'it returns false'. Refute it at one input. -/
def deskAgainWrong : ChangeSpec := { name := "deskAgain", fn := fun _ => fun
  | [d1, d2, d3] => { results := [.lit (.bool false)], args := [d1, d2, d3] }
  | _ => none }
def DeskAgainWrongFalsely : Prop := deskAgainRow.holds Try.pinned (OpenSpec.ofChange deskAgainWrong)

/-- 'hedgerowlaw16.DeskRoom': WHATEVER THE INPUT: true; the input reads as it did. -/
def deskRoomSpec : ChangeSpec := { name := "deskRoom", fn := fun _ => fun
  | [d1, d2] => { results := [.lit (.bool true)], args := [d1, d2] }
  | _ => none }
def deskRoomRow : OpenClaim := { program := "ytbghjklnlhoklaa", sum := "f2cffed46c86c5d6c7a11f3f9a065c6d1eb365f34cfb15e81ea7bc5e07b5b164", func := "hedgerow/hedgerowlaw16.DeskRoom", spec := "deskRoom", unfollowed := true, recurses := true, apart := false }
def DeskRoomSaid : Prop := deskRoomRow.holds Try.pinned (OpenSpec.ofChange deskRoomSpec)

/-- ITS FALSE NEIGHBOUR: 'it returns false'. Refute it at one input. -/
def deskRoomWrong : ChangeSpec := { name := "deskRoom", fn := fun _ => fun
  | [d1, d2] => { results := [.lit (.bool false)], args := [d1, d2] }
  | _ => none }
def DeskRoomWrongFalsely : Prop := deskRoomRow.holds Try.pinned (OpenSpec.ofChange deskRoomWrong)

/-- 'hedgerowlaw16.DeskPlays': WHATEVER THE INPUT: true; the input reads as it did. -/
def deskPlaysSpec : ChangeSpec := { name := "deskPlays", fn := fun _ => fun
  | [d1, d2] => { results := [.lit (.bool true)], args := [d1, d2] }
  | _ => none }
def deskPlaysRow : OpenClaim := { program := "ytbghjklnlhoklaa", sum := "f2cffed46c86c5d6c7a11f3f9a065c6d1eb365f34cfb15e81ea7bc5e07b5b164", func := "hedgerow/hedgerowlaw16.DeskPlays", spec := "deskPlays", unfollowed := true, recurses := true, apart := false }
def DeskPlaysSaid : Prop := deskPlaysRow.holds Try.pinned (OpenSpec.ofChange deskPlaysSpec)

/-- ITS FALSE NEIGHBOUR: 'it returns false'. Refute it at one input. -/
def deskPlaysWrong : ChangeSpec := { name := "deskPlays", fn := fun _ => fun
  | [d1, d2] => { results := [.lit (.bool false)], args := [d1, d2] }
  | _ => none }
def DeskPlaysWrongFalsely : Prop := deskPlaysRow.holds Try.pinned (OpenSpec.ofChange deskPlaysWrong)

/-- 'hedgerowlaw16.DeskLooks': WHATEVER THE INPUT: true; the input reads as it did. -/
def deskLooksSpec : ChangeSpec := { name := "deskLooks", fn := fun _ => fun
  | [d1, d2, d3] => { results := [.lit (.bool true)], args := [d1, d2, d3] }
  | _ => none }
def deskLooksRow : OpenClaim := { program := "ytbghjklnlhoklaa", sum := "f2cffed46c86c5d6c7a11f3f9a065c6d1eb365f34cfb15e81ea7bc5e07b5b164", func := "hedgerow/hedgerowlaw16.DeskLooks", spec := "deskLooks", unfollowed := true, recurses := true, apart := false }
def DeskLooksSaid : Prop := deskLooksRow.holds Try.pinned (OpenSpec.ofChange deskLooksSpec)

/-- ITS FALSE NEIGHBOUR: 'it returns false'. Refute it at one input. -/
def deskLooksWrong : ChangeSpec := { name := "deskLooks", fn := fun _ => fun
  | [d1, d2, d3] => { results := [.lit (.bool false)], args := [d1, d2, d3] }
  | _ => none }
def DeskLooksWrongFalsely : Prop := deskLooksRow.holds Try.pinned (OpenSpec.ofChange deskLooksWrong)

/-- 'hedgerowlaw16.DeskNone': WHATEVER THE INPUT: true; the input reads as it did. -/
def deskNoneSpec : ChangeSpec := { name := "deskNone", fn := fun _ => fun
  | [d1, d2] => { results := [.lit (.bool true)], args := [d1, d2] }
  | _ => none }
def deskNoneRow : OpenClaim := { program := "ytbghjklnlhoklaa", sum := "f2cffed46c86c5d6c7a11f3f9a065c6d1eb365f34cfb15e81ea7bc5e07b5b164", func := "hedgerow/hedgerowlaw16.DeskNone", spec := "deskNone", unfollowed := true, recurses := true, apart := false }
def DeskNoneSaid : Prop := deskNoneRow.holds Try.pinned (OpenSpec.ofChange deskNoneSpec)

/-- ITS FALSE NEIGHBOUR: 'it returns false'. Refute it at one input. -/
def deskNoneWrong : ChangeSpec := { name := "deskNone", fn := fun _ => fun
  | [d1, d2] => { results := [.lit (.bool false)], args := [d1, d2] }
  | _ => none }
def DeskNoneWrongFalsely : Prop := deskNoneRow.holds Try.pinned (OpenSpec.ofChange deskNoneWrong)

/- THE SECOND FORM. 'bulk': how many values and letters a reading holds, each counted each time it is reached (what is shared counts as often as it is met; a slice's spare places count too). A statement '..UptoSaid' is the law's where the arguments, and the package variables that the reading takes, are together of bulk at most 1048576: NARROWER than '..Said'. Prove '..Said' where nothing that the law and all that it calls make is longer than what came in: it says more and counts as full. Else prove '..UptoSaid'. A law counts once. -/
mutual
def uptoBulk {H : Type} : DataW H → Nat
  | .lit (.string bytes) => bytes.length + 1
  | .lit _ => 1
  | .nil => 1
  | .ptr d => uptoBulk d + 1
  | .slice elems spare => uptoBulkAll elems + uptoBulkAll spare + 1
  | .agg parts => uptoBulkAll parts + 1
  | .iface _ d => uptoBulk d + 1
  | .map entries => uptoBulkEntries entries + 1
  | .held _ => 1
def uptoBulkAll {H : Type} : List (DataW H) → Nat
  | [] => 0
  | d :: r => uptoBulk d + uptoBulkAll r
def uptoBulkEntries {H : Type} : List (Lit × DataW H) → Nat
  | [] => 0
  | x :: r => uptoBulkEntry x + uptoBulkEntries r
def uptoBulkEntry {H : Type} : Lit × DataW H → Nat
  | (.string bytes, d) => bytes.length + uptoBulk d + 1
  | (_, d) => uptoBulk d + 1
 end
def uptoSmall : (H : Type) → List (DataW H) → Bool := fun _ ds => decide (uptoBulkAll ds ≤ 1048576)
def OpenSpec.upto (s : _root_.Go.ChangeSpec) : _root_.Go.OpenSpec := { _root_.Go.OpenSpec.ofChange s with cond := some uptoSmall }

/-- 'hedgerowlaw16.DeskTicks', WHERE WHAT IT READS IS OF BULK AT MOST 1048576: true; the input reads as it did. -/
def deskTicksUptoRow : OpenClaim := { program := "ytbghjklnlhoklaa", sum := "f2cffed46c86c5d6c7a11f3f9a065c6d1eb365f34cfb15e81ea7bc5e07b5b164", func := "hedgerow/hedgerowlaw16.DeskTicks", spec := "deskTicks", unfollowed := true, recurses := true, apart := false, narrowed := true }
def DeskTicksUptoSaid : Prop := deskTicksUptoRow.holds Try.pinned (OpenSpec.upto deskTicksSpec)

/-- 'hedgerowlaw16.DeskStale', WHERE WHAT IT READS IS OF BULK AT MOST 1048576: true; the input reads as it did. -/
def deskStaleUptoRow : OpenClaim := { program := "ytbghjklnlhoklaa", sum := "f2cffed46c86c5d6c7a11f3f9a065c6d1eb365f34cfb15e81ea7bc5e07b5b164", func := "hedgerow/hedgerowlaw16.DeskStale", spec := "deskStale", unfollowed := true, recurses := true, apart := false, narrowed := true }
def DeskStaleUptoSaid : Prop := deskStaleUptoRow.holds Try.pinned (OpenSpec.upto deskStaleSpec)

/-- 'hedgerowlaw16.DeskAgain', WHERE WHAT IT READS IS OF BULK AT MOST 1048576: true; the input reads as it did. -/
def deskAgainUptoRow : OpenClaim := { program := "ytbghjklnlhoklaa", sum := "f2cffed46c86c5d6c7a11f3f9a065c6d1eb365f34cfb15e81ea7bc5e07b5b164", func := "hedgerow/hedgerowlaw16.DeskAgain", spec := "deskAgain", unfollowed := true, recurses := true, apart := false, narrowed := true }
def DeskAgainUptoSaid : Prop := deskAgainUptoRow.holds Try.pinned (OpenSpec.upto deskAgainSpec)

/-- 'hedgerowlaw16.DeskRoom', WHERE WHAT IT READS IS OF BULK AT MOST 1048576: true; the input reads as it did. -/
def deskRoomUptoRow : OpenClaim := { program := "ytbghjklnlhoklaa", sum := "f2cffed46c86c5d6c7a11f3f9a065c6d1eb365f34cfb15e81ea7bc5e07b5b164", func := "hedgerow/hedgerowlaw16.DeskRoom", spec := "deskRoom", unfollowed := true, recurses := true, apart := false, narrowed := true }
def DeskRoomUptoSaid : Prop := deskRoomUptoRow.holds Try.pinned (OpenSpec.upto deskRoomSpec)

/-- 'hedgerowlaw16.DeskPlays', WHERE WHAT IT READS IS OF BULK AT MOST 1048576: true; the input reads as it did. -/
def deskPlaysUptoRow : OpenClaim := { program := "ytbghjklnlhoklaa", sum := "f2cffed46c86c5d6c7a11f3f9a065c6d1eb365f34cfb15e81ea7bc5e07b5b164", func := "hedgerow/hedgerowlaw16.DeskPlays", spec := "deskPlays", unfollowed := true, recurses := true, apart := false, narrowed := true }
def DeskPlaysUptoSaid : Prop := deskPlaysUptoRow.holds Try.pinned (OpenSpec.upto deskPlaysSpec)

/-- 'hedgerowlaw16.DeskLooks', WHERE WHAT IT READS IS OF BULK AT MOST 1048576: true; the input reads as it did. -/
def deskLooksUptoRow : OpenClaim := { program := "ytbghjklnlhoklaa", sum := "f2cffed46c86c5d6c7a11f3f9a065c6d1eb365f34cfb15e81ea7bc5e07b5b164", func := "hedgerow/hedgerowlaw16.DeskLooks", spec := "deskLooks", unfollowed := true, recurses := true, apart := false, narrowed := true }
def DeskLooksUptoSaid : Prop := deskLooksUptoRow.holds Try.pinned (OpenSpec.upto deskLooksSpec)

/-- 'hedgerowlaw16.DeskNone', WHERE WHAT IT READS IS OF BULK AT MOST 1048576: true; the input reads as it did. -/
def deskNoneUptoRow : OpenClaim := { program := "ytbghjklnlhoklaa", sum := "f2cffed46c86c5d6c7a11f3f9a065c6d1eb365f34cfb15e81ea7bc5e07b5b164", func := "hedgerow/hedgerowlaw16.DeskNone", spec := "deskNone", unfollowed := true, recurses := true, apart := false, narrowed := true }
def DeskNoneUptoSaid : Prop := deskNoneUptoRow.holds Try.pinned (OpenSpec.upto deskNoneSpec)

end Rows
end Go.Proofs.Ytbghjklnlhoklaa
