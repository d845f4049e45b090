/-
  No cell of these rows narrows 'for every input' (looked for: loops, veiled, ifaces, maps, wideKeys, modest, calm, conditions, laid).
  DERIVED. THE GIVEN ROWS OF THIS SEAT. 7 by the template 'for every input the law returns true; each argument reads behind the call as it read before'; 0 by the template 'total and deterministic' (their statements: YtoimjjhopljdmaaGreatTotals.lean).
  GIVEN WITH THE SEED: the statements are not yours to turn. If you find one false, say at which input.
  Laid BY PROGRAM, IN A SANDBOX (cutbox-rows.mjs): the forced cells as the released guide's own fill.sh prints them over the translation 45d66e46da39ad1f… (all of the seat's roots in one cut). By AI agents, Wed Nov 11 2026. No macro, syntax, notation, axiom, sorry.
-/
import Derived.Test.YtoimjjhopljdmaaGreatChecked
import GoSem.Claim
import GoSem.ClaimJoined
import GoSem.ClaimMapViews
import Derived.JoinedTies
import Derived.KernelRfl
namespace Go.Proofs.YtoimjjhopljdmaaGreat
/- THE CELL 'sum', in the pinned program and in every row, IS THE sha256 OF THE DUMP (.gsa) THAT YtoimjjhopljdmaaGreatProg.lean LOADS. Nothing in Lean hashes anything: it is a label: what it is worth is what the hold of that sum in a sandbox is worth. -/
noncomputable def Tryz.pinned : Pinned := { name := "ytoimjjhopljdmaagreat", sum := "45d66e46da39ad1f004a2fbbcfd8ea096d67ab50f2404b98f1ec2f06946ae79f", checked := Tryz.checked }
namespace Rows
def none {H : Type} : Left H := { results := [], args := [] }

/-- 'hedgerowlaw17.WorldOnce': WHATEVER THE INPUT: true; the input reads as it did. -/
def worldOnceSpec : ChangeSpec := { name := "worldOnce", fn := fun _ => fun
  | [d1, d2] => { results := [.lit (.bool true)], args := [d1, d2] }
  | _ => none }
def worldOnceRow : OpenClaim := { program := "ytoimjjhopljdmaagreat", sum := "45d66e46da39ad1f004a2fbbcfd8ea096d67ab50f2404b98f1ec2f06946ae79f", func := "hedgerow/hedgerowlaw17.WorldOnce", spec := "worldOnce", inPlace := ["slices.overlaps[hedgerow/api.Bundle]"], unfollowed := true, recurses := true, apart := false }
def WorldOnceSaid : Prop := worldOnceRow.holds Tryz.pinned (OpenSpec.ofChange worldOnceSpec)

/-- ITS FALSE NEIGHBOUR: 'it returns false'. Refute it at one input. -/
def worldOnceWrong : ChangeSpec := { name := "worldOnce", fn := fun _ => fun
  | [d1, d2] => { results := [.lit (.bool false)], args := [d1, d2] }
  | _ => none }
def WorldOnceWrongFalsely : Prop := worldOnceRow.holds Tryz.pinned (OpenSpec.ofChange worldOnceWrong)

/-- 'hedgerowlaw17.WorldMay': WHATEVER THE INPUT: true; the input reads as it did. -/
def worldMaySpec : ChangeSpec := { name := "worldMay", fn := fun _ => fun
  | [d1, d2] => { results := [.lit (.bool true)], args := [d1, d2] }
  | _ => none }
def worldMayRow : OpenClaim := { program := "ytoimjjhopljdmaagreat", sum := "45d66e46da39ad1f004a2fbbcfd8ea096d67ab50f2404b98f1ec2f06946ae79f", func := "hedgerow/hedgerowlaw17.WorldMay", spec := "worldMay", inPlace := ["slices.overlaps[hedgerow/api.Bundle]"], unfollowed := true, recurses := true, apart := false }
def WorldMaySaid : Prop := worldMayRow.holds Tryz.pinned (OpenSpec.ofChange worldMaySpec)

/-- ITS FALSE NEIGHBOUR: 'it returns false'. Refute it at one input. -/
def worldMayWrong : ChangeSpec := { name := "worldMay", fn := fun _ => fun
  | [d1, d2] => { results := [.lit (.bool false)], args := [d1, d2] }
  | _ => none }
def WorldMayWrongFalsely : Prop := worldMayRow.holds Tryz.pinned (OpenSpec.ofChange worldMayWrong)

/-- 'hedgerowlaw17.WorldZones': WHATEVER THE INPUT: true; the input reads as it did. -/
def worldZonesSpec : ChangeSpec := { name := "worldZones", fn := fun _ => fun
  | [d1, d2] => { results := [.lit (.bool true)], args := [d1, d2] }
  | _ => none }
def worldZonesRow : OpenClaim := { program := "ytoimjjhopljdmaagreat", sum := "45d66e46da39ad1f004a2fbbcfd8ea096d67ab50f2404b98f1ec2f06946ae79f", func := "hedgerow/hedgerowlaw17.WorldZones", spec := "worldZones", inPlace := ["slices.overlaps[hedgerow/api.Bundle]"], unfollowed := true, recurses := true, apart := false }
def WorldZonesSaid : Prop := worldZonesRow.holds Tryz.pinned (OpenSpec.ofChange worldZonesSpec)

/-- ITS FALSE NEIGHBOUR: 'it returns false'. Refute it at one input. -/
def worldZonesWrong : ChangeSpec := { name := "worldZones", fn := fun _ => fun
  | [d1, d2] => { results := [.lit (.bool false)], args := [d1, d2] }
  | _ => none }
def WorldZonesWrongFalsely : Prop := worldZonesRow.holds Tryz.pinned (OpenSpec.ofChange worldZonesWrong)

/-- 'hedgerowlaw17.WorldFades': WHATEVER THE INPUT: true; the input reads as it did. -/
def worldFadesSpec : ChangeSpec := { name := "worldFades", fn := fun _ => fun
  | [d1, d2, d3, d4] => { results := [.lit (.bool true)], args := [d1, d2, d3, d4] }
  | _ => none }
def worldFadesRow : OpenClaim := { program := "ytoimjjhopljdmaagreat", sum := "45d66e46da39ad1f004a2fbbcfd8ea096d67ab50f2404b98f1ec2f06946ae79f", func := "hedgerow/hedgerowlaw17.WorldFades", spec := "worldFades", inPlace := ["slices.overlaps[hedgerow/api.Bundle]"], unfollowed := true, recurses := true, apart := false }
def WorldFadesSaid : Prop := worldFadesRow.holds Tryz.pinned (OpenSpec.ofChange worldFadesSpec)

/-- ITS FALSE NEIGHBOUR: 'it returns false'. Refute it at one input. -/
def worldFadesWrong : ChangeSpec := { name := "worldFades", fn := fun _ => fun
  | [d1, d2, d3, d4] => { results := [.lit (.bool false)], args := [d1, d2, d3, d4] }
  | _ => none }
def WorldFadesWrongFalsely : Prop := worldFadesRow.holds Tryz.pinned (OpenSpec.ofChange worldFadesWrong)

/-- 'hedgerowlaw17.WorldNames': WHATEVER THE INPUT: true; the input reads as it did. -/
def worldNamesSpec : ChangeSpec := { name := "worldNames", fn := fun _ => fun
  | [d1, d2] => { results := [.lit (.bool true)], args := [d1, d2] }
  | _ => none }
def worldNamesRow : OpenClaim := { program := "ytoimjjhopljdmaagreat", sum := "45d66e46da39ad1f004a2fbbcfd8ea096d67ab50f2404b98f1ec2f06946ae79f", func := "hedgerow/hedgerowlaw17.WorldNames", spec := "worldNames", inPlace := ["slices.overlaps[hedgerow/api.Bundle]"], unfollowed := true, recurses := true, apart := false }
def WorldNamesSaid : Prop := worldNamesRow.holds Tryz.pinned (OpenSpec.ofChange worldNamesSpec)

/-- ITS FALSE NEIGHBOUR: 'it returns false'. Refute it at one input. -/
def worldNamesWrong : ChangeSpec := { name := "worldNames", fn := fun _ => fun
  | [d1, d2] => { results := [.lit (.bool false)], args := [d1, d2] }
  | _ => none }
def WorldNamesWrongFalsely : Prop := worldNamesRow.holds Tryz.pinned (OpenSpec.ofChange worldNamesWrong)

/-- 'hedgerowlaw17.WorldPlays': WHATEVER THE INPUT: true; the input reads as it did. -/
def worldPlaysSpec : ChangeSpec := { name := "worldPlays", fn := fun _ => fun
  | [d1, d2] => { results := [.lit (.bool true)], args := [d1, d2] }
  | _ => none }
def worldPlaysRow : OpenClaim := { program := "ytoimjjhopljdmaagreat", sum := "45d66e46da39ad1f004a2fbbcfd8ea096d67ab50f2404b98f1ec2f06946ae79f", func := "hedgerow/hedgerowlaw17.WorldPlays", spec := "worldPlays", inPlace := ["slices.overlaps[hedgerow/api.Bundle]"], unfollowed := true, recurses := true, apart := false }
def WorldPlaysSaid : Prop := worldPlaysRow.holds Tryz.pinned (OpenSpec.ofChange worldPlaysSpec)

/-- ITS FALSE NEIGHBOUR: 'it returns false'. Refute it at one input. -/
def worldPlaysWrong : ChangeSpec := { name := "worldPlays", fn := fun _ => fun
  | [d1, d2] => { results := [.lit (.bool false)], args := [d1, d2] }
  | _ => none }
def WorldPlaysWrongFalsely : Prop := worldPlaysRow.holds Tryz.pinned (OpenSpec.ofChange worldPlaysWrong)

/-- 'hedgerowlaw17.WorldNone': WHATEVER THE INPUT: true; the input reads as it did. -/
def worldNoneSpec : ChangeSpec := { name := "worldNone", fn := fun _ => fun
  | [d] => { results := [.lit (.bool true)], args := [d] }
  | _ => none }
def worldNoneRow : OpenClaim := { program := "ytoimjjhopljdmaagreat", sum := "45d66e46da39ad1f004a2fbbcfd8ea096d67ab50f2404b98f1ec2f06946ae79f", func := "hedgerow/hedgerowlaw17.WorldNone", spec := "worldNone", inPlace := ["slices.overlaps[hedgerow/api.Bundle]"], unfollowed := true, recurses := true, apart := false }
def WorldNoneSaid : Prop := worldNoneRow.holds Tryz.pinned (OpenSpec.ofChange worldNoneSpec)

/-- ITS FALSE NEIGHBOUR: 'it returns false'. Refute it at one input. -/
def worldNoneWrong : ChangeSpec := { name := "worldNone", fn := fun _ => fun
  | [d] => { results := [.lit (.bool false)], args := [d] }
  | _ => none }
def WorldNoneWrongFalsely : Prop := worldNoneRow.holds Tryz.pinned (OpenSpec.ofChange worldNoneWrong)

/- THE SECOND FORM. 'bulk': how many values and letters a reading holds, each counted each time it is reached (what is shared counts as often as it is met; a slice's spare places count too). A statement '..UptoSaid' is the law's where the arguments, and the package variables that the reading takes, are together of bulk at most 1048576: NARROWER than '..Said'. Prove '..Said' where nothing that the law and all that it calls make is longer than what came in: it says more and counts as full. Else prove '..UptoSaid'. A law counts once. -/
mutual
def uptoBulk {H : Type} : DataW H → Nat
  | .lit (.string bytes) => bytes.length + 1
  | .lit _ => 1
  | .nil => 1
  | .ptr d => uptoBulk d + 1
  | .slice elems spare => uptoBulkAll elems + uptoBulkAll spare + 1
  | .agg parts => uptoBulkAll parts + 1
  | .iface _ d => uptoBulk d + 1
  | .map entries => uptoBulkEntries entries + 1
  | .held _ => 1
def uptoBulkAll {H : Type} : List (DataW H) → Nat
  | [] => 0
  | d :: r => uptoBulk d + uptoBulkAll r
def uptoBulkEntries {H : Type} : List (Lit × DataW H) → Nat
  | [] => 0
  | x :: r => uptoBulkEntry x + uptoBulkEntries r
def uptoBulkEntry {H : Type} : Lit × DataW H → Nat
  | (.string bytes, d) => bytes.length + uptoBulk d + 1
  | (_, d) => uptoBulk d + 1
 end
def uptoSmall : (H : Type) → List (DataW H) → Bool := fun _ ds => decide (uptoBulkAll ds ≤ 1048576)
def OpenSpec.upto (s : _root_.Go.ChangeSpec) : _root_.Go.OpenSpec := { _root_.Go.OpenSpec.ofChange s with cond := some uptoSmall }

/-- 'hedgerowlaw17.WorldOnce', WHERE WHAT IT READS IS OF BULK AT MOST 1048576: true; the input reads as it did. -/
def worldOnceUptoRow : OpenClaim := { program := "ytoimjjhopljdmaagreat", sum := "45d66e46da39ad1f004a2fbbcfd8ea096d67ab50f2404b98f1ec2f06946ae79f", func := "hedgerow/hedgerowlaw17.WorldOnce", spec := "worldOnce", inPlace := ["slices.overlaps[hedgerow/api.Bundle]"], unfollowed := true, recurses := true, apart := false, narrowed := true }
def WorldOnceUptoSaid : Prop := worldOnceUptoRow.holds Tryz.pinned (OpenSpec.upto worldOnceSpec)

/-- 'hedgerowlaw17.WorldMay', WHERE WHAT IT READS IS OF BULK AT MOST 1048576: true; the input reads as it did. -/
def worldMayUptoRow : OpenClaim := { program := "ytoimjjhopljdmaagreat", sum := "45d66e46da39ad1f004a2fbbcfd8ea096d67ab50f2404b98f1ec2f06946ae79f", func := "hedgerow/hedgerowlaw17.WorldMay", spec := "worldMay", inPlace := ["slices.overlaps[hedgerow/api.Bundle]"], unfollowed := true, recurses := true, apart := false, narrowed := true }
def WorldMayUptoSaid : Prop := worldMayUptoRow.holds Tryz.pinned (OpenSpec.upto worldMaySpec)

/-- 'hedgerowlaw17.WorldZones', WHERE WHAT IT READS IS OF BULK AT MOST 1048576: true; the input reads as it did. -/
def worldZonesUptoRow : OpenClaim := { program := "ytoimjjhopljdmaagreat", sum := "45d66e46da39ad1f004a2fbbcfd8ea096d67ab50f2404b98f1ec2f06946ae79f", func := "hedgerow/hedgerowlaw17.WorldZones", spec := "worldZones", inPlace := ["slices.overlaps[hedgerow/api.Bundle]"], unfollowed := true, recurses := true, apart := false, narrowed := true }
def WorldZonesUptoSaid : Prop := worldZonesUptoRow.holds Tryz.pinned (OpenSpec.upto worldZonesSpec)

/-- 'hedgerowlaw17.WorldFades', WHERE WHAT IT READS IS OF BULK AT MOST 1048576: true; the input reads as it did. -/
def worldFadesUptoRow : OpenClaim := { program := "ytoimjjhopljdmaagreat", sum := "45d66e46da39ad1f004a2fbbcfd8ea096d67ab50f2404b98f1ec2f06946ae79f", func := "hedgerow/hedgerowlaw17.WorldFades", spec := "worldFades", inPlace := ["slices.overlaps[hedgerow/api.Bundle]"], unfollowed := true, recurses := true, apart := false, narrowed := true }
def WorldFadesUptoSaid : Prop := worldFadesUptoRow.holds Tryz.pinned (OpenSpec.upto worldFadesSpec)

/-- 'hedgerowlaw17.WorldNames', WHERE WHAT IT READS IS OF BULK AT MOST 1048576: true; the input reads as it did. -/
def worldNamesUptoRow : OpenClaim := { program := "ytoimjjhopljdmaagreat", sum := "45d66e46da39ad1f004a2fbbcfd8ea096d67ab50f2404b98f1ec2f06946ae79f", func := "hedgerow/hedgerowlaw17.WorldNames", spec := "worldNames", inPlace := ["slices.overlaps[hedgerow/api.Bundle]"], unfollowed := true, recurses := true, apart := false, narrowed := true }
def WorldNamesUptoSaid : Prop := worldNamesUptoRow.holds Tryz.pinned (OpenSpec.upto worldNamesSpec)

/-- 'hedgerowlaw17.WorldPlays', WHERE WHAT IT READS IS OF BULK AT MOST 1048576: true; the input reads as it did. -/
def worldPlaysUptoRow : OpenClaim := { program := "ytoimjjhopljdmaagreat", sum := "45d66e46da39ad1f004a2fbbcfd8ea096d67ab50f2404b98f1ec2f06946ae79f", func := "hedgerow/hedgerowlaw17.WorldPlays", spec := "worldPlays", inPlace := ["slices.overlaps[hedgerow/api.Bundle]"], unfollowed := true, recurses := true, apart := false, narrowed := true }
def WorldPlaysUptoSaid : Prop := worldPlaysUptoRow.holds Tryz.pinned (OpenSpec.upto worldPlaysSpec)

/-- 'hedgerowlaw17.WorldNone', WHERE WHAT IT READS IS OF BULK AT MOST 1048576: true; the input reads as it did. -/
def worldNoneUptoRow : OpenClaim := { program := "ytoimjjhopljdmaagreat", sum := "45d66e46da39ad1f004a2fbbcfd8ea096d67ab50f2404b98f1ec2f06946ae79f", func := "hedgerow/hedgerowlaw17.WorldNone", spec := "worldNone", inPlace := ["slices.overlaps[hedgerow/api.Bundle]"], unfollowed := true, recurses := true, apart := false, narrowed := true }
def WorldNoneUptoSaid : Prop := worldNoneUptoRow.holds Tryz.pinned (OpenSpec.upto worldNoneSpec)

end Rows
end Go.Proofs.YtoimjjhopljdmaaGreat
