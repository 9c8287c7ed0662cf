/-
  No cell of these rows narrows 'for every input' (looked for: loops, veiled, ifaces, maps, wideKeys, modest, calm, conditions, laid).
  DERIVED. THE GIVEN ROWS OF THIS SEAT. 8 by the template 'for every input the law returns true; each argument reads behind the call as it read before'; 0 by the template 'total and deterministic' (their statements: YthgeacnemojjgaaTotals.lean).
  GIVEN WITH THE SEED: the statements are not yours to turn. If you find one false, say at which input.
  Laid BY PROGRAM, IN A SANDBOX (cutbox-rows.mjs): the forced cells as the released guide's own fill.sh prints them over the translation 2424d99ec559b0f3… (all of the seat's roots in one cut). By AI agents, Wed Nov 11 2026. No macro, syntax, notation, axiom, sorry.
-/
import Derived.Test.YthgeacnemojjgaaChecked
import GoSem.Claim
import GoSem.ClaimJoined
import GoSem.ClaimMapViews
import Derived.JoinedTies
import Derived.KernelRfl
namespace Go.Proofs.Ythgeacnemojjgaa
/- THE CELL 'sum', in the pinned program and in every row, IS THE sha256 OF THE DUMP (.gsa) THAT YthgeacnemojjgaaProg.lean LOADS. Nothing in Lean hashes anything: it is a label: what it is worth is what the hold of that sum in a sandbox is worth. -/
noncomputable def Try.pinned : Pinned := { name := "ythgeacnemojjgaa", sum := "2424d99ec559b0f3fe7c68f8aa12f278616593aee3ba1b3fc1f7580fd0269f16", checked := Try.checked }
namespace Rows
def none {H : Type} : Left H := { results := [], args := [] }

/-- 'bastionlaw24.StrideNames': WHATEVER THE INPUT: true; the input reads as it did. -/
def strideNamesSpec : ChangeSpec := { name := "strideNames", fn := fun _ => fun
  | [] => { results := [.lit (.bool true)], args := [] }
  | _ => none }
def strideNamesRow : OpenClaim := { program := "ythgeacnemojjgaa", sum := "2424d99ec559b0f3fe7c68f8aa12f278616593aee3ba1b3fc1f7580fd0269f16", func := "bastion/bastionlaw24.StrideNames", spec := "strideNames", inPlace := ["slices.overlaps[*bastion/stride.project]"], unfollowed := true, recurses := true, apart := false }
def StrideNamesSaid : Prop := strideNamesRow.holds Try.pinned (OpenSpec.ofChange strideNamesSpec)

/-- ITS FALSE NEIGHBOUR: 'it returns false'. Refute it at one input. -/
def strideNamesWrong : ChangeSpec := { name := "strideNames", fn := fun _ => fun
  | [] => { results := [.lit (.bool false)], args := [] }
  | _ => none }
def StrideNamesWrongFalsely : Prop := strideNamesRow.holds Try.pinned (OpenSpec.ofChange strideNamesWrong)

/-- 'bastionlaw24.StridePlays': WHATEVER THE INPUT: true; the input reads as it did. -/
def stridePlaysSpec : ChangeSpec := { name := "stridePlays", fn := fun _ => fun
  | [d] => { results := [.lit (.bool true)], args := [d] }
  | _ => none }
def stridePlaysRow : OpenClaim := { program := "ythgeacnemojjgaa", sum := "2424d99ec559b0f3fe7c68f8aa12f278616593aee3ba1b3fc1f7580fd0269f16", func := "bastion/bastionlaw24.StridePlays", spec := "stridePlays", inPlace := ["slices.overlaps[*bastion/stride.project]"], unfollowed := true, recurses := true, apart := false }
def StridePlaysSaid : Prop := stridePlaysRow.holds Try.pinned (OpenSpec.ofChange stridePlaysSpec)

/-- ITS FALSE NEIGHBOUR: 'it returns false'. Refute it at one input. -/
def stridePlaysWrong : ChangeSpec := { name := "stridePlays", fn := fun _ => fun
  | [d] => { results := [.lit (.bool false)], args := [d] }
  | _ => none }
def StridePlaysWrongFalsely : Prop := stridePlaysRow.holds Try.pinned (OpenSpec.ofChange stridePlaysWrong)

/-- 'bastionlaw24.StrideLoads': WHATEVER THE INPUT: true; the input reads as it did. -/
def strideLoadsSpec : ChangeSpec := { name := "strideLoads", fn := fun _ => fun
  | [d] => { results := [.lit (.bool true)], args := [d] }
  | _ => none }
def strideLoadsRow : OpenClaim := { program := "ythgeacnemojjgaa", sum := "2424d99ec559b0f3fe7c68f8aa12f278616593aee3ba1b3fc1f7580fd0269f16", func := "bastion/bastionlaw24.StrideLoads", spec := "strideLoads", unfollowed := true, recurses := true, apart := false }
def StrideLoadsSaid : Prop := strideLoadsRow.holds Try.pinned (OpenSpec.ofChange strideLoadsSpec)

/-- ITS FALSE NEIGHBOUR: 'it returns false'. Refute it at one input. -/
def strideLoadsWrong : ChangeSpec := { name := "strideLoads", fn := fun _ => fun
  | [d] => { results := [.lit (.bool false)], args := [d] }
  | _ => none }
def StrideLoadsWrongFalsely : Prop := strideLoadsRow.holds Try.pinned (OpenSpec.ofChange strideLoadsWrong)

/-- 'bastionlaw24.StrideFair': WHATEVER THE INPUT: true; the input reads as it did. -/
def strideFairSpec : ChangeSpec := { name := "strideFair", fn := fun _ => fun
  | [d1, d2, d3] => { results := [.lit (.bool true)], args := [d1, d2, d3] }
  | _ => none }
def strideFairRow : OpenClaim := { program := "ythgeacnemojjgaa", sum := "2424d99ec559b0f3fe7c68f8aa12f278616593aee3ba1b3fc1f7580fd0269f16", func := "bastion/bastionlaw24.StrideFair", spec := "strideFair", inPlace := ["slices.overlaps[*bastion/stride.project]"], unfollowed := true, recurses := true, apart := false }
def StrideFairSaid : Prop := strideFairRow.holds Try.pinned (OpenSpec.ofChange strideFairSpec)

/-- ITS FALSE NEIGHBOUR: 'it returns false'. Refute it at one input. -/
def strideFairWrong : ChangeSpec := { name := "strideFair", fn := fun _ => fun
  | [d1, d2, d3] => { results := [.lit (.bool false)], args := [d1, d2, d3] }
  | _ => none }
def StrideFairWrongFalsely : Prop := strideFairRow.holds Try.pinned (OpenSpec.ofChange strideFairWrong)

/-- 'bastionlaw24.StrideTurns': WHATEVER THE INPUT: true; the input reads as it did. -/
def strideTurnsSpec : ChangeSpec := { name := "strideTurns", fn := fun _ => fun
  | [d1, d2] => { results := [.lit (.bool true)], args := [d1, d2] }
  | _ => none }
def strideTurnsRow : OpenClaim := { program := "ythgeacnemojjgaa", sum := "2424d99ec559b0f3fe7c68f8aa12f278616593aee3ba1b3fc1f7580fd0269f16", func := "bastion/bastionlaw24.StrideTurns", spec := "strideTurns", inPlace := ["slices.overlaps[*bastion/stride.project]"], unfollowed := true, recurses := true, apart := false }
def StrideTurnsSaid : Prop := strideTurnsRow.holds Try.pinned (OpenSpec.ofChange strideTurnsSpec)

/-- ITS FALSE NEIGHBOUR: 'it returns false'. Refute it at one input. -/
def strideTurnsWrong : ChangeSpec := { name := "strideTurns", fn := fun _ => fun
  | [d1, d2] => { results := [.lit (.bool false)], args := [d1, d2] }
  | _ => none }
def StrideTurnsWrongFalsely : Prop := strideTurnsRow.holds Try.pinned (OpenSpec.ofChange strideTurnsWrong)

/-- 'bastionlaw24.StrideReturns': WHATEVER THE INPUT: true; the input reads as it did. -/
def strideReturnsSpec : ChangeSpec := { name := "strideReturns", fn := fun _ => fun
  | [d] => { results := [.lit (.bool true)], args := [d] }
  | _ => none }
def strideReturnsRow : OpenClaim := { program := "ythgeacnemojjgaa", sum := "2424d99ec559b0f3fe7c68f8aa12f278616593aee3ba1b3fc1f7580fd0269f16", func := "bastion/bastionlaw24.StrideReturns", spec := "strideReturns", inPlace := ["slices.overlaps[*bastion/stride.project]"], unfollowed := true, recurses := true, apart := false }
def StrideReturnsSaid : Prop := strideReturnsRow.holds Try.pinned (OpenSpec.ofChange strideReturnsSpec)

/-- ITS FALSE NEIGHBOUR: 'it returns false'. Refute it at one input. -/
def strideReturnsWrong : ChangeSpec := { name := "strideReturns", fn := fun _ => fun
  | [d] => { results := [.lit (.bool false)], args := [d] }
  | _ => none }
def StrideReturnsWrongFalsely : Prop := strideReturnsRow.holds Try.pinned (OpenSpec.ofChange strideReturnsWrong)

/-- 'bastionlaw24.StrideBack': WHATEVER THE INPUT: true; the input reads as it did. -/
def strideBackSpec : ChangeSpec := { name := "strideBack", fn := fun _ => fun
  | [d1, d2] => { results := [.lit (.bool true)], args := [d1, d2] }
  | _ => none }
def strideBackRow : OpenClaim := { program := "ythgeacnemojjgaa", sum := "2424d99ec559b0f3fe7c68f8aa12f278616593aee3ba1b3fc1f7580fd0269f16", func := "bastion/bastionlaw24.StrideBack", spec := "strideBack", inPlace := ["slices.overlaps[*bastion/stride.project]"], unfollowed := true, recurses := true, apart := false }
def StrideBackSaid : Prop := strideBackRow.holds Try.pinned (OpenSpec.ofChange strideBackSpec)

/-- ITS FALSE NEIGHBOUR: 'it returns false'. Refute it at one input. -/
def strideBackWrong : ChangeSpec := { name := "strideBack", fn := fun _ => fun
  | [d1, d2] => { results := [.lit (.bool false)], args := [d1, d2] }
  | _ => none }
def StrideBackWrongFalsely : Prop := strideBackRow.holds Try.pinned (OpenSpec.ofChange strideBackWrong)

/-- 'bastionlaw24.StrideOrder': WHATEVER THE INPUT: true; the input reads as it did. -/
def strideOrderSpec : ChangeSpec := { name := "strideOrder", fn := fun _ => fun
  | [d1, d2, d3] => { results := [.lit (.bool true)], args := [d1, d2, d3] }
  | _ => none }
def strideOrderRow : OpenClaim := { program := "ythgeacnemojjgaa", sum := "2424d99ec559b0f3fe7c68f8aa12f278616593aee3ba1b3fc1f7580fd0269f16", func := "bastion/bastionlaw24.StrideOrder", spec := "strideOrder", inPlace := ["slices.overlaps[*bastion/stride.project]"], unfollowed := true, recurses := true, apart := false }
def StrideOrderSaid : Prop := strideOrderRow.holds Try.pinned (OpenSpec.ofChange strideOrderSpec)

/-- ITS FALSE NEIGHBOUR: 'it returns false'. Refute it at one input. -/
def strideOrderWrong : ChangeSpec := { name := "strideOrder", fn := fun _ => fun
  | [d1, d2, d3] => { results := [.lit (.bool false)], args := [d1, d2, d3] }
  | _ => none }
def StrideOrderWrongFalsely : Prop := strideOrderRow.holds Try.pinned (OpenSpec.ofChange strideOrderWrong)

/- THE SECOND FORM. 'bulk': how many values and letters a reading holds, each counted each time it is reached (what is shared counts as often as it is met; a slice's spare places count too). A statement '..UptoSaid' is the law's where the arguments, and the package variables that the reading takes, are together of bulk at most 1048576: NARROWER than '..Said'. Prove '..Said' where nothing that the law and all that it calls make is longer than what came in: it says more and counts as full. Else prove '..UptoSaid'. A law counts once. -/
mutual
def uptoBulk {H : Type} : DataW H → Nat
  | .lit (.string bytes) => bytes.length + 1
  | .lit _ => 1
  | .nil => 1
  | .ptr d => uptoBulk d + 1
  | .slice elems spare => uptoBulkAll elems + uptoBulkAll spare + 1
  | .agg parts => uptoBulkAll parts + 1
  | .iface _ d => uptoBulk d + 1
  | .map entries => uptoBulkEntries entries + 1
  | .held _ => 1
def uptoBulkAll {H : Type} : List (DataW H) → Nat
  | [] => 0
  | d :: r => uptoBulk d + uptoBulkAll r
def uptoBulkEntries {H : Type} : List (Lit × DataW H) → Nat
  | [] => 0
  | x :: r => uptoBulkEntry x + uptoBulkEntries r
def uptoBulkEntry {H : Type} : Lit × DataW H → Nat
  | (.string bytes, d) => bytes.length + uptoBulk d + 1
  | (_, d) => uptoBulk d + 1
 end
def uptoSmall : (H : Type) → List (DataW H) → Bool := fun _ ds => decide (uptoBulkAll ds ≤ 1048576)
def OpenSpec.upto (s : _root_.Go.ChangeSpec) : _root_.Go.OpenSpec := { _root_.Go.OpenSpec.ofChange s with cond := some uptoSmall }

/-- 'bastionlaw24.StrideNames', WHERE WHAT IT READS IS OF BULK AT MOST 1048576: true; the input reads as it did. -/
def strideNamesUptoRow : OpenClaim := { program := "ythgeacnemojjgaa", sum := "2424d99ec559b0f3fe7c68f8aa12f278616593aee3ba1b3fc1f7580fd0269f16", func := "bastion/bastionlaw24.StrideNames", spec := "strideNames", inPlace := ["slices.overlaps[*bastion/stride.project]"], unfollowed := true, recurses := true, apart := false, narrowed := true }
def StrideNamesUptoSaid : Prop := strideNamesUptoRow.holds Try.pinned (OpenSpec.upto strideNamesSpec)

/-- 'bastionlaw24.StridePlays', WHERE WHAT IT READS IS OF BULK AT MOST 1048576: true; the input reads as it did. -/
def stridePlaysUptoRow : OpenClaim := { program := "ythgeacnemojjgaa", sum := "2424d99ec559b0f3fe7c68f8aa12f278616593aee3ba1b3fc1f7580fd0269f16", func := "bastion/bastionlaw24.StridePlays", spec := "stridePlays", inPlace := ["slices.overlaps[*bastion/stride.project]"], unfollowed := true, recurses := true, apart := false, narrowed := true }
def StridePlaysUptoSaid : Prop := stridePlaysUptoRow.holds Try.pinned (OpenSpec.upto stridePlaysSpec)

/-- 'bastionlaw24.StrideLoads', WHERE WHAT IT READS IS OF BULK AT MOST 1048576: true; the input reads as it did. -/
def strideLoadsUptoRow : OpenClaim := { program := "ythgeacnemojjgaa", sum := "2424d99ec559b0f3fe7c68f8aa12f278616593aee3ba1b3fc1f7580fd0269f16", func := "bastion/bastionlaw24.StrideLoads", spec := "strideLoads", unfollowed := true, recurses := true, apart := false, narrowed := true }
def StrideLoadsUptoSaid : Prop := strideLoadsUptoRow.holds Try.pinned (OpenSpec.upto strideLoadsSpec)

/-- 'bastionlaw24.StrideFair', WHERE WHAT IT READS IS OF BULK AT MOST 1048576: true; the input reads as it did. -/
def strideFairUptoRow : OpenClaim := { program := "ythgeacnemojjgaa", sum := "2424d99ec559b0f3fe7c68f8aa12f278616593aee3ba1b3fc1f7580fd0269f16", func := "bastion/bastionlaw24.StrideFair", spec := "strideFair", inPlace := ["slices.overlaps[*bastion/stride.project]"], unfollowed := true, recurses := true, apart := false, narrowed := true }
def StrideFairUptoSaid : Prop := strideFairUptoRow.holds Try.pinned (OpenSpec.upto strideFairSpec)

/-- 'bastionlaw24.StrideTurns', WHERE WHAT IT READS IS OF BULK AT MOST 1048576: true; the input reads as it did. -/
def strideTurnsUptoRow : OpenClaim := { program := "ythgeacnemojjgaa", sum := "2424d99ec559b0f3fe7c68f8aa12f278616593aee3ba1b3fc1f7580fd0269f16", func := "bastion/bastionlaw24.StrideTurns", spec := "strideTurns", inPlace := ["slices.overlaps[*bastion/stride.project]"], unfollowed := true, recurses := true, apart := false, narrowed := true }
def StrideTurnsUptoSaid : Prop := strideTurnsUptoRow.holds Try.pinned (OpenSpec.upto strideTurnsSpec)

/-- 'bastionlaw24.StrideReturns', WHERE WHAT IT READS IS OF BULK AT MOST 1048576: true; the input reads as it did. -/
def strideReturnsUptoRow : OpenClaim := { program := "ythgeacnemojjgaa", sum := "2424d99ec559b0f3fe7c68f8aa12f278616593aee3ba1b3fc1f7580fd0269f16", func := "bastion/bastionlaw24.StrideReturns", spec := "strideReturns", inPlace := ["slices.overlaps[*bastion/stride.project]"], unfollowed := true, recurses := true, apart := false, narrowed := true }
def StrideReturnsUptoSaid : Prop := strideReturnsUptoRow.holds Try.pinned (OpenSpec.upto strideReturnsSpec)

/-- 'bastionlaw24.StrideBack', WHERE WHAT IT READS IS OF BULK AT MOST 1048576: true; the input reads as it did. -/
def strideBackUptoRow : OpenClaim := { program := "ythgeacnemojjgaa", sum := "2424d99ec559b0f3fe7c68f8aa12f278616593aee3ba1b3fc1f7580fd0269f16", func := "bastion/bastionlaw24.StrideBack", spec := "strideBack", inPlace := ["slices.overlaps[*bastion/stride.project]"], unfollowed := true, recurses := true, apart := false, narrowed := true }
def StrideBackUptoSaid : Prop := strideBackUptoRow.holds Try.pinned (OpenSpec.upto strideBackSpec)

/-- 'bastionlaw24.StrideOrder', WHERE WHAT IT READS IS OF BULK AT MOST 1048576: true; the input reads as it did. -/
def strideOrderUptoRow : OpenClaim := { program := "ythgeacnemojjgaa", sum := "2424d99ec559b0f3fe7c68f8aa12f278616593aee3ba1b3fc1f7580fd0269f16", func := "bastion/bastionlaw24.StrideOrder", spec := "strideOrder", inPlace := ["slices.overlaps[*bastion/stride.project]"], unfollowed := true, recurses := true, apart := false, narrowed := true }
def StrideOrderUptoSaid : Prop := strideOrderUptoRow.holds Try.pinned (OpenSpec.upto strideOrderSpec)

end Rows
end Go.Proofs.Ythgeacnemojjgaa
