/-
  No cell of these rows narrows 'for every input' (looked for: loops, veiled, ifaces, maps, wideKeys, modest, calm, conditions, laid).
  DERIVED. THE GIVEN ROWS OF THIS SEAT. 6 by the template 'for every input the law returns true; each argument reads behind the call as it read before'; 0 by the template 'total and deterministic' (their statements: YtjpcbggodhfabaaTotals.lean).
  GIVEN WITH THE SEED: the statements are not yours to turn. If you find one false, say at which input.
  Laid BY PROGRAM, IN A SANDBOX (cutbox-rows.mjs): the forced cells as the released guide's own fill.sh prints them over the translation 3773ab13b20d2140… (all of the seat's roots in one cut). By AI agents, Wed Nov 11 2026. No macro, syntax, notation, axiom, sorry.
-/
import Derived.Test.YtjpcbggodhfabaaChecked
import GoSem.Claim
import GoSem.ClaimJoined
import GoSem.ClaimMapViews
import Derived.JoinedTies
import Derived.KernelRfl
namespace Go.Proofs.Ytjpcbggodhfabaa
/- THE CELL 'sum', in the pinned program and in every row, IS THE sha256 OF THE DUMP (.gsa) THAT YtjpcbggodhfabaaProg.lean LOADS. Nothing in Lean hashes anything: it is a label: what it is worth is what the hold of that sum in a sandbox is worth. -/
noncomputable def Try.pinned : Pinned := { name := "ytjpcbggodhfabaa", sum := "3773ab13b20d214015ade5af44143855946c5b8687f48f0b39d764a25e26299d", checked := Try.checked }
namespace Rows
def none {H : Type} : Left H := { results := [], args := [] }

/-- 'bastionlaw15.GraphRests': WHATEVER THE INPUT: true; the input reads as it did. -/
def graphRestsSpec : ChangeSpec := { name := "graphRests", fn := fun _ => fun
  | [d1, d2] => { results := [.lit (.bool true)], args := [d1, d2] }
  | _ => none }
def graphRestsRow : OpenClaim := { program := "ytjpcbggodhfabaa", sum := "3773ab13b20d214015ade5af44143855946c5b8687f48f0b39d764a25e26299d", func := "bastion/bastionlaw15.GraphRests", spec := "graphRests", unfollowed := true, recurses := true, apart := false }
def GraphRestsSaid : Prop := graphRestsRow.holds Try.pinned (OpenSpec.ofChange graphRestsSpec)

/-- ITS FALSE NEIGHBOUR: 'it returns false'. Refute it at one input. -/
def graphRestsWrong : ChangeSpec := { name := "graphRests", fn := fun _ => fun
  | [d1, d2] => { results := [.lit (.bool false)], args := [d1, d2] }
  | _ => none }
def GraphRestsWrongFalsely : Prop := graphRestsRow.holds Try.pinned (OpenSpec.ofChange graphRestsWrong)

/-- 'bastionlaw15.GraphSorts': WHATEVER THE INPUT: true; the input reads as it did. -/
def graphSortsSpec : ChangeSpec := { name := "graphSorts", fn := fun _ => fun
  | [d] => { results := [.lit (.bool true)], args := [d] }
  | _ => none }
def graphSortsRow : OpenClaim := { program := "ytjpcbggodhfabaa", sum := "3773ab13b20d214015ade5af44143855946c5b8687f48f0b39d764a25e26299d", func := "bastion/bastionlaw15.GraphSorts", spec := "graphSorts", unfollowed := true, recurses := true, apart := false }
def GraphSortsSaid : Prop := graphSortsRow.holds Try.pinned (OpenSpec.ofChange graphSortsSpec)

/-- ITS FALSE NEIGHBOUR: 'it returns false'. Refute it at one input. -/
def graphSortsWrong : ChangeSpec := { name := "graphSorts", fn := fun _ => fun
  | [d] => { results := [.lit (.bool false)], args := [d] }
  | _ => none }
def GraphSortsWrongFalsely : Prop := graphSortsRow.holds Try.pinned (OpenSpec.ofChange graphSortsWrong)

/-- 'bastionlaw15.GraphNames': WHATEVER THE INPUT: true; the input reads as it did. -/
def graphNamesSpec : ChangeSpec := { name := "graphNames", fn := fun _ => fun
  | [] => { results := [.lit (.bool true)], args := [] }
  | _ => none }
def graphNamesRow : OpenClaim := { program := "ytjpcbggodhfabaa", sum := "3773ab13b20d214015ade5af44143855946c5b8687f48f0b39d764a25e26299d", func := "bastion/bastionlaw15.GraphNames", spec := "graphNames", unfollowed := true, recurses := true, apart := false }
def GraphNamesSaid : Prop := graphNamesRow.holds Try.pinned (OpenSpec.ofChange graphNamesSpec)

/-- ITS FALSE NEIGHBOUR: 'it returns false'. Refute it at one input. -/
def graphNamesWrong : ChangeSpec := { name := "graphNames", fn := fun _ => fun
  | [] => { results := [.lit (.bool false)], args := [] }
  | _ => none }
def GraphNamesWrongFalsely : Prop := graphNamesRow.holds Try.pinned (OpenSpec.ofChange graphNamesWrong)

/-- 'bastionlaw15.GraphRow': WHATEVER THE INPUT: true; the input reads as it did. -/
def graphRowSpec : ChangeSpec := { name := "graphRow", fn := fun _ => fun
  | [d] => { results := [.lit (.bool true)], args := [d] }
  | _ => none }
def graphRowRow : OpenClaim := { program := "ytjpcbggodhfabaa", sum := "3773ab13b20d214015ade5af44143855946c5b8687f48f0b39d764a25e26299d", func := "bastion/bastionlaw15.GraphRow", spec := "graphRow", unfollowed := true, recurses := true, apart := false }
def GraphRowSaid : Prop := graphRowRow.holds Try.pinned (OpenSpec.ofChange graphRowSpec)

/-- ITS FALSE NEIGHBOUR: 'it returns false'. Refute it at one input. -/
def graphRowWrong : ChangeSpec := { name := "graphRow", fn := fun _ => fun
  | [d] => { results := [.lit (.bool false)], args := [d] }
  | _ => none }
def GraphRowWrongFalsely : Prop := graphRowRow.holds Try.pinned (OpenSpec.ofChange graphRowWrong)

/-- 'bastionlaw15.GraphCycles': WHATEVER THE INPUT: true; the input reads as it did. -/
def graphCyclesSpec : ChangeSpec := { name := "graphCycles", fn := fun _ => fun
  | [d] => { results := [.lit (.bool true)], args := [d] }
  | _ => none }
def graphCyclesRow : OpenClaim := { program := "ytjpcbggodhfabaa", sum := "3773ab13b20d214015ade5af44143855946c5b8687f48f0b39d764a25e26299d", func := "bastion/bastionlaw15.GraphCycles", spec := "graphCycles", unfollowed := true, recurses := true, apart := false }
def GraphCyclesSaid : Prop := graphCyclesRow.holds Try.pinned (OpenSpec.ofChange graphCyclesSpec)

/-- ITS FALSE NEIGHBOUR: 'it returns false'. Refute it at one input. -/
def graphCyclesWrong : ChangeSpec := { name := "graphCycles", fn := fun _ => fun
  | [d] => { results := [.lit (.bool false)], args := [d] }
  | _ => none }
def GraphCyclesWrongFalsely : Prop := graphCyclesRow.holds Try.pinned (OpenSpec.ofChange graphCyclesWrong)

/-- 'bastionlaw15.GraphBoth': WHATEVER THE INPUT: true; the input reads as it did. -/
def graphBothSpec : ChangeSpec := { name := "graphBoth", fn := fun _ => fun
  | [d] => { results := [.lit (.bool true)], args := [d] }
  | _ => none }
def graphBothRow : OpenClaim := { program := "ytjpcbggodhfabaa", sum := "3773ab13b20d214015ade5af44143855946c5b8687f48f0b39d764a25e26299d", func := "bastion/bastionlaw15.GraphBoth", spec := "graphBoth", unfollowed := true, recurses := true, apart := false }
def GraphBothSaid : Prop := graphBothRow.holds Try.pinned (OpenSpec.ofChange graphBothSpec)

/-- ITS FALSE NEIGHBOUR: 'it returns false'. Refute it at one input. -/
def graphBothWrong : ChangeSpec := { name := "graphBoth", fn := fun _ => fun
  | [d] => { results := [.lit (.bool false)], args := [d] }
  | _ => none }
def GraphBothWrongFalsely : Prop := graphBothRow.holds Try.pinned (OpenSpec.ofChange graphBothWrong)

/- THE SECOND FORM. 'bulk': how many values and letters a reading holds, each counted each time it is reached (what is shared counts as often as it is met; a slice's spare places count too). A statement '..UptoSaid' is the law's where the arguments, and the package variables that the reading takes, are together of bulk at most 1048576: NARROWER than '..Said'. Prove '..Said' where nothing that the law and all that it calls make is longer than what came in: it says more and counts as full. Else prove '..UptoSaid'. A law counts once. -/
mutual
def uptoBulk {H : Type} : DataW H → Nat
  | .lit (.string bytes) => bytes.length + 1
  | .lit _ => 1
  | .nil => 1
  | .ptr d => uptoBulk d + 1
  | .slice elems spare => uptoBulkAll elems + uptoBulkAll spare + 1
  | .agg parts => uptoBulkAll parts + 1
  | .iface _ d => uptoBulk d + 1
  | .map entries => uptoBulkEntries entries + 1
  | .held _ => 1
def uptoBulkAll {H : Type} : List (DataW H) → Nat
  | [] => 0
  | d :: r => uptoBulk d + uptoBulkAll r
def uptoBulkEntries {H : Type} : List (Lit × DataW H) → Nat
  | [] => 0
  | x :: r => uptoBulkEntry x + uptoBulkEntries r
def uptoBulkEntry {H : Type} : Lit × DataW H → Nat
  | (.string bytes, d) => bytes.length + uptoBulk d + 1
  | (_, d) => uptoBulk d + 1
 end
def uptoSmall : (H : Type) → List (DataW H) → Bool := fun _ ds => decide (uptoBulkAll ds ≤ 1048576)
def OpenSpec.upto (s : _root_.Go.ChangeSpec) : _root_.Go.OpenSpec := { _root_.Go.OpenSpec.ofChange s with cond := some uptoSmall }

/-- 'bastionlaw15.GraphRests', WHERE WHAT IT READS IS OF BULK AT MOST 1048576: true; the input reads as it did. -/
def graphRestsUptoRow : OpenClaim := { program := "ytjpcbggodhfabaa", sum := "3773ab13b20d214015ade5af44143855946c5b8687f48f0b39d764a25e26299d", func := "bastion/bastionlaw15.GraphRests", spec := "graphRests", unfollowed := true, recurses := true, apart := false, narrowed := true }
def GraphRestsUptoSaid : Prop := graphRestsUptoRow.holds Try.pinned (OpenSpec.upto graphRestsSpec)

/-- 'bastionlaw15.GraphSorts', WHERE WHAT IT READS IS OF BULK AT MOST 1048576: true; the input reads as it did. -/
def graphSortsUptoRow : OpenClaim := { program := "ytjpcbggodhfabaa", sum := "3773ab13b20d214015ade5af44143855946c5b8687f48f0b39d764a25e26299d", func := "bastion/bastionlaw15.GraphSorts", spec := "graphSorts", unfollowed := true, recurses := true, apart := false, narrowed := true }
def GraphSortsUptoSaid : Prop := graphSortsUptoRow.holds Try.pinned (OpenSpec.upto graphSortsSpec)

/-- 'bastionlaw15.GraphNames', WHERE WHAT IT READS IS OF BULK AT MOST 1048576: true; the input reads as it did. -/
def graphNamesUptoRow : OpenClaim := { program := "ytjpcbggodhfabaa", sum := "3773ab13b20d214015ade5af44143855946c5b8687f48f0b39d764a25e26299d", func := "bastion/bastionlaw15.GraphNames", spec := "graphNames", unfollowed := true, recurses := true, apart := false, narrowed := true }
def GraphNamesUptoSaid : Prop := graphNamesUptoRow.holds Try.pinned (OpenSpec.upto graphNamesSpec)

/-- 'bastionlaw15.GraphRow', WHERE WHAT IT READS IS OF BULK AT MOST 1048576: true; the input reads as it did. -/
def graphRowUptoRow : OpenClaim := { program := "ytjpcbggodhfabaa", sum := "3773ab13b20d214015ade5af44143855946c5b8687f48f0b39d764a25e26299d", func := "bastion/bastionlaw15.GraphRow", spec := "graphRow", unfollowed := true, recurses := true, apart := false, narrowed := true }
def GraphRowUptoSaid : Prop := graphRowUptoRow.holds Try.pinned (OpenSpec.upto graphRowSpec)

/-- 'bastionlaw15.GraphCycles', WHERE WHAT IT READS IS OF BULK AT MOST 1048576: true; the input reads as it did. -/
def graphCyclesUptoRow : OpenClaim := { program := "ytjpcbggodhfabaa", sum := "3773ab13b20d214015ade5af44143855946c5b8687f48f0b39d764a25e26299d", func := "bastion/bastionlaw15.GraphCycles", spec := "graphCycles", unfollowed := true, recurses := true, apart := false, narrowed := true }
def GraphCyclesUptoSaid : Prop := graphCyclesUptoRow.holds Try.pinned (OpenSpec.upto graphCyclesSpec)

/-- 'bastionlaw15.GraphBoth', WHERE WHAT IT READS IS OF BULK AT MOST 1048576: true; the input reads as it did. -/
def graphBothUptoRow : OpenClaim := { program := "ytjpcbggodhfabaa", sum := "3773ab13b20d214015ade5af44143855946c5b8687f48f0b39d764a25e26299d", func := "bastion/bastionlaw15.GraphBoth", spec := "graphBoth", unfollowed := true, recurses := true, apart := false, narrowed := true }
def GraphBothUptoSaid : Prop := graphBothUptoRow.holds Try.pinned (OpenSpec.upto graphBothSpec)

end Rows
end Go.Proofs.Ytjpcbggodhfabaa
