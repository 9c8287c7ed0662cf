/-
  No cell of these rows narrows 'for every input' (looked for: loops, veiled, ifaces, maps, wideKeys, modest, calm, conditions, laid).
  DERIVED. THE GIVEN ROWS OF THIS SEAT. 4 by the template 'for every input the law returns true; each argument reads behind the call as it read before'; 0 by the template 'total and deterministic' (their statements: YtcnjopheoeeggaaTotals.lean).
  GIVEN WITH THE SEED: the statements are not yours to turn. If you find one false, say at which input.
  Laid BY PROGRAM, IN A SANDBOX (cutbox-rows.mjs): the forced cells as the released guide's own fill.sh prints them over the translation 7fc3e0dfb15934ca… (all of the seat's roots in one cut). By AI agents, Wed Nov 11 2026. No macro, syntax, notation, axiom, sorry.
-/
import Derived.Test.YtcnjopheoeeggaaChecked
import GoSem.Claim
import GoSem.ClaimJoined
import GoSem.ClaimMapViews
import Derived.JoinedTies
import Derived.KernelRfl
namespace Go.Proofs.Ytcnjopheoeeggaa
/- THE CELL 'sum', in the pinned program and in every row, IS THE sha256 OF THE DUMP (.gsa) THAT YtcnjopheoeeggaaProg.lean LOADS. Nothing in Lean hashes anything: it is a label: what it is worth is what the hold of that sum in a sandbox is worth. -/
noncomputable def Try.pinned : Pinned := { name := "ytcnjopheoeeggaa", sum := "7fc3e0dfb15934ca5bd0d663bcc0f6a555f758a1b5e791b9807f0ffc0a27588b", checked := Try.checked }
namespace Rows
def none {H : Type} : Left H := { results := [], args := [] }

/-- 'bastionlaw21.MaskHides': WHATEVER THE INPUT: true; the input reads as it did. -/
def maskHidesSpec : ChangeSpec := { name := "maskHides", fn := fun _ => fun
  | [d1, d2] => { results := [.lit (.bool true)], args := [d1, d2] }
  | _ => none }
def maskHidesRow : OpenClaim := { program := "ytcnjopheoeeggaa", sum := "7fc3e0dfb15934ca5bd0d663bcc0f6a555f758a1b5e791b9807f0ffc0a27588b", func := "bastion/bastionlaw21.MaskHides", spec := "maskHides", inPlace := ["internal/abi.NoEscape"], unfollowed := true, recurses := true, apart := false }
def MaskHidesSaid : Prop := maskHidesRow.holds Try.pinned (OpenSpec.ofChange maskHidesSpec)

/-- ITS FALSE NEIGHBOUR: 'it returns false'. Refute it at one input. -/
def maskHidesWrong : ChangeSpec := { name := "maskHides", fn := fun _ => fun
  | [d1, d2] => { results := [.lit (.bool false)], args := [d1, d2] }
  | _ => none }
def MaskHidesWrongFalsely : Prop := maskHidesRow.holds Try.pinned (OpenSpec.ofChange maskHidesWrong)

/-- 'bastionlaw21.MaskNames': WHATEVER THE INPUT: true; the input reads as it did. -/
def maskNamesSpec : ChangeSpec := { name := "maskNames", fn := fun _ => fun
  | [] => { results := [.lit (.bool true)], args := [] }
  | _ => none }
def maskNamesRow : OpenClaim := { program := "ytcnjopheoeeggaa", sum := "7fc3e0dfb15934ca5bd0d663bcc0f6a555f758a1b5e791b9807f0ffc0a27588b", func := "bastion/bastionlaw21.MaskNames", spec := "maskNames", inPlace := ["internal/abi.NoEscape"], unfollowed := true, recurses := true, apart := false }
def MaskNamesSaid : Prop := maskNamesRow.holds Try.pinned (OpenSpec.ofChange maskNamesSpec)

/-- ITS FALSE NEIGHBOUR: 'it returns false'. Refute it at one input. -/
def maskNamesWrong : ChangeSpec := { name := "maskNames", fn := fun _ => fun
  | [] => { results := [.lit (.bool false)], args := [] }
  | _ => none }
def MaskNamesWrongFalsely : Prop := maskNamesRow.holds Try.pinned (OpenSpec.ofChange maskNamesWrong)

/-- 'bastionlaw21.MaskWrites': WHATEVER THE INPUT: true; the input reads as it did. -/
def maskWritesSpec : ChangeSpec := { name := "maskWrites", fn := fun _ => fun
  | [d1, d2] => { results := [.lit (.bool true)], args := [d1, d2] }
  | _ => none }
def maskWritesRow : OpenClaim := { program := "ytcnjopheoeeggaa", sum := "7fc3e0dfb15934ca5bd0d663bcc0f6a555f758a1b5e791b9807f0ffc0a27588b", func := "bastion/bastionlaw21.MaskWrites", spec := "maskWrites", inPlace := ["internal/abi.NoEscape"], unfollowed := true, recurses := true, apart := false }
def MaskWritesSaid : Prop := maskWritesRow.holds Try.pinned (OpenSpec.ofChange maskWritesSpec)

/-- ITS FALSE NEIGHBOUR: 'it returns false'. Refute it at one input. -/
def maskWritesWrong : ChangeSpec := { name := "maskWrites", fn := fun _ => fun
  | [d1, d2] => { results := [.lit (.bool false)], args := [d1, d2] }
  | _ => none }
def MaskWritesWrongFalsely : Prop := maskWritesRow.holds Try.pinned (OpenSpec.ofChange maskWritesWrong)

/-- 'bastionlaw21.MaskCuts': WHATEVER THE INPUT: true; the input reads as it did. -/
def maskCutsSpec : ChangeSpec := { name := "maskCuts", fn := fun _ => fun
  | [d1, d2, d3] => { results := [.lit (.bool true)], args := [d1, d2, d3] }
  | _ => none }
def maskCutsRow : OpenClaim := { program := "ytcnjopheoeeggaa", sum := "7fc3e0dfb15934ca5bd0d663bcc0f6a555f758a1b5e791b9807f0ffc0a27588b", func := "bastion/bastionlaw21.MaskCuts", spec := "maskCuts", inPlace := ["internal/abi.NoEscape"], unfollowed := true, recurses := true, apart := false }
def MaskCutsSaid : Prop := maskCutsRow.holds Try.pinned (OpenSpec.ofChange maskCutsSpec)

/-- ITS FALSE NEIGHBOUR: 'it returns false'. Refute it at one input. -/
def maskCutsWrong : ChangeSpec := { name := "maskCuts", fn := fun _ => fun
  | [d1, d2, d3] => { results := [.lit (.bool false)], args := [d1, d2, d3] }
  | _ => none }
def MaskCutsWrongFalsely : Prop := maskCutsRow.holds Try.pinned (OpenSpec.ofChange maskCutsWrong)

/- THE SECOND FORM. 'bulk': how many values and letters a reading holds, each counted each time it is reached (what is shared counts as often as it is met; a slice's spare places count too). A statement '..UptoSaid' is the law's where the arguments, and the package variables that the reading takes, are together of bulk at most 1048576: NARROWER than '..Said'. Prove '..Said' where nothing that the law and all that it calls make is longer than what came in: it says more and counts as full. Else prove '..UptoSaid'. A law counts once. -/
mutual
def uptoBulk {H : Type} : DataW H → Nat
  | .lit (.string bytes) => bytes.length + 1
  | .lit _ => 1
  | .nil => 1
  | .ptr d => uptoBulk d + 1
  | .slice elems spare => uptoBulkAll elems + uptoBulkAll spare + 1
  | .agg parts => uptoBulkAll parts + 1
  | .iface _ d => uptoBulk d + 1
  | .map entries => uptoBulkEntries entries + 1
  | .held _ => 1
def uptoBulkAll {H : Type} : List (DataW H) → Nat
  | [] => 0
  | d :: r => uptoBulk d + uptoBulkAll r
def uptoBulkEntries {H : Type} : List (Lit × DataW H) → Nat
  | [] => 0
  | x :: r => uptoBulkEntry x + uptoBulkEntries r
def uptoBulkEntry {H : Type} : Lit × DataW H → Nat
  | (.string bytes, d) => bytes.length + uptoBulk d + 1
  | (_, d) => uptoBulk d + 1
 end
def uptoSmall : (H : Type) → List (DataW H) → Bool := fun _ ds => decide (uptoBulkAll ds ≤ 1048576)
def OpenSpec.upto (s : _root_.Go.ChangeSpec) : _root_.Go.OpenSpec := { _root_.Go.OpenSpec.ofChange s with cond := some uptoSmall }

/-- 'bastionlaw21.MaskHides', WHERE WHAT IT READS IS OF BULK AT MOST 1048576: true; the input reads as it did. -/
def maskHidesUptoRow : OpenClaim := { program := "ytcnjopheoeeggaa", sum := "7fc3e0dfb15934ca5bd0d663bcc0f6a555f758a1b5e791b9807f0ffc0a27588b", func := "bastion/bastionlaw21.MaskHides", spec := "maskHides", inPlace := ["internal/abi.NoEscape"], unfollowed := true, recurses := true, apart := false, narrowed := true }
def MaskHidesUptoSaid : Prop := maskHidesUptoRow.holds Try.pinned (OpenSpec.upto maskHidesSpec)

/-- 'bastionlaw21.MaskNames', WHERE WHAT IT READS IS OF BULK AT MOST 1048576: true; the input reads as it did. -/
def maskNamesUptoRow : OpenClaim := { program := "ytcnjopheoeeggaa", sum := "7fc3e0dfb15934ca5bd0d663bcc0f6a555f758a1b5e791b9807f0ffc0a27588b", func := "bastion/bastionlaw21.MaskNames", spec := "maskNames", inPlace := ["internal/abi.NoEscape"], unfollowed := true, recurses := true, apart := false, narrowed := true }
def MaskNamesUptoSaid : Prop := maskNamesUptoRow.holds Try.pinned (OpenSpec.upto maskNamesSpec)

/-- 'bastionlaw21.MaskWrites', WHERE WHAT IT READS IS OF BULK AT MOST 1048576: true; the input reads as it did. -/
def maskWritesUptoRow : OpenClaim := { program := "ytcnjopheoeeggaa", sum := "7fc3e0dfb15934ca5bd0d663bcc0f6a555f758a1b5e791b9807f0ffc0a27588b", func := "bastion/bastionlaw21.MaskWrites", spec := "maskWrites", inPlace := ["internal/abi.NoEscape"], unfollowed := true, recurses := true, apart := false, narrowed := true }
def MaskWritesUptoSaid : Prop := maskWritesUptoRow.holds Try.pinned (OpenSpec.upto maskWritesSpec)

/-- 'bastionlaw21.MaskCuts', WHERE WHAT IT READS IS OF BULK AT MOST 1048576: true; the input reads as it did. -/
def maskCutsUptoRow : OpenClaim := { program := "ytcnjopheoeeggaa", sum := "7fc3e0dfb15934ca5bd0d663bcc0f6a555f758a1b5e791b9807f0ffc0a27588b", func := "bastion/bastionlaw21.MaskCuts", spec := "maskCuts", inPlace := ["internal/abi.NoEscape"], unfollowed := true, recurses := true, apart := false, narrowed := true }
def MaskCutsUptoSaid : Prop := maskCutsUptoRow.holds Try.pinned (OpenSpec.upto maskCutsSpec)

end Rows
end Go.Proofs.Ytcnjopheoeeggaa
