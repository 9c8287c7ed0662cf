/-
  No cell of these rows narrows 'for every input' (looked for: loops, veiled, ifaces, maps, wideKeys, modest, calm, conditions, laid).
  DERIVED. THE GIVEN ROWS OF THIS SEAT. 8 by the template 'for every input the law returns true; each argument reads behind the call as it read before'; 0 by the template 'total and deterministic' (their statements: YtmcdeldjgfapbaaTotals.lean).
  GIVEN WITH THE SEED: the statements are not yours to turn. If you find one false, say at which input.
  Laid BY PROGRAM, IN A SANDBOX (cutbox-rows.mjs): the forced cells as the released guide's own fill.sh prints them over the translation a6af5b7fceb8d114… (all of the seat's roots in one cut). By AI agents, Wed Nov 11 2026. No macro, syntax, notation, axiom, sorry.
-/
import Derived.Test.YtmcdeldjgfapbaaChecked
import GoSem.Claim
import GoSem.ClaimJoined
import GoSem.ClaimMapViews
import Derived.JoinedTies
import Derived.KernelRfl
namespace Go.Proofs.Ytmcdeldjgfapbaa
/- THE CELL 'sum', in the pinned program and in every row, IS THE sha256 OF THE DUMP (.gsa) THAT YtmcdeldjgfapbaaProg.lean LOADS. Nothing in Lean hashes anything: it is a label: what it is worth is what the hold of that sum in a sandbox is worth. -/
noncomputable def Try.pinned : Pinned := { name := "ytmcdeldjgfapbaa", sum := "a6af5b7fceb8d11448515bf573dbdf36d90623c72098026de17743d9c1b5f74b", checked := Try.checked }
namespace Rows
def none {H : Type} : Left H := { results := [], args := [] }

/-- 'bastionlaw22.LogsLoads': WHATEVER THE INPUT: true; the input reads as it did. -/
def logsLoadsSpec : ChangeSpec := { name := "logsLoads", fn := fun _ => fun
  | [d] => { results := [.lit (.bool true)], args := [d] }
  | _ => none }
def logsLoadsRow : OpenClaim := { program := "ytmcdeldjgfapbaa", sum := "a6af5b7fceb8d11448515bf573dbdf36d90623c72098026de17743d9c1b5f74b", func := "bastion/bastionlaw22.LogsLoads", spec := "logsLoads", unfollowed := true, recurses := true, apart := false }
def LogsLoadsSaid : Prop := logsLoadsRow.holds Try.pinned (OpenSpec.ofChange logsLoadsSpec)

/-- ITS FALSE NEIGHBOUR: 'it returns false'. Refute it at one input. -/
def logsLoadsWrong : ChangeSpec := { name := "logsLoads", fn := fun _ => fun
  | [d] => { results := [.lit (.bool false)], args := [d] }
  | _ => none }
def LogsLoadsWrongFalsely : Prop := logsLoadsRow.holds Try.pinned (OpenSpec.ofChange logsLoadsWrong)

/-- 'bastionlaw22.LogsOrder': WHATEVER THE INPUT: true; the input reads as it did. -/
def logsOrderSpec : ChangeSpec := { name := "logsOrder", fn := fun _ => fun
  | [d1, d2] => { results := [.lit (.bool true)], args := [d1, d2] }
  | _ => none }
def logsOrderRow : OpenClaim := { program := "ytmcdeldjgfapbaa", sum := "a6af5b7fceb8d11448515bf573dbdf36d90623c72098026de17743d9c1b5f74b", func := "bastion/bastionlaw22.LogsOrder", spec := "logsOrder", inPlace := ["internal/bytealg.IndexByteString", "internal/abi.NoEscape", "internal/bytealg.MakeNoZero"], unfollowed := true, recurses := true, apart := false }
def LogsOrderSaid : Prop := logsOrderRow.holds Try.pinned (OpenSpec.ofChange logsOrderSpec)

/-- ITS FALSE NEIGHBOUR: 'it returns false'. Refute it at one input. -/
def logsOrderWrong : ChangeSpec := { name := "logsOrder", fn := fun _ => fun
  | [d1, d2] => { results := [.lit (.bool false)], args := [d1, d2] }
  | _ => none }
def LogsOrderWrongFalsely : Prop := logsOrderRow.holds Try.pinned (OpenSpec.ofChange logsOrderWrong)

/-- 'bastionlaw22.LogsStays': WHATEVER THE INPUT: true; the input reads as it did. -/
def logsStaysSpec : ChangeSpec := { name := "logsStays", fn := fun _ => fun
  | [d] => { results := [.lit (.bool true)], args := [d] }
  | _ => none }
def logsStaysRow : OpenClaim := { program := "ytmcdeldjgfapbaa", sum := "a6af5b7fceb8d11448515bf573dbdf36d90623c72098026de17743d9c1b5f74b", func := "bastion/bastionlaw22.LogsStays", spec := "logsStays", inPlace := ["internal/bytealg.IndexByteString", "internal/abi.NoEscape", "internal/bytealg.MakeNoZero"], unfollowed := true, recurses := true, apart := false }
def LogsStaysSaid : Prop := logsStaysRow.holds Try.pinned (OpenSpec.ofChange logsStaysSpec)

/-- ITS FALSE NEIGHBOUR: 'it returns false'. Refute it at one input. -/
def logsStaysWrong : ChangeSpec := { name := "logsStays", fn := fun _ => fun
  | [d] => { results := [.lit (.bool false)], args := [d] }
  | _ => none }
def LogsStaysWrongFalsely : Prop := logsStaysRow.holds Try.pinned (OpenSpec.ofChange logsStaysWrong)

/-- 'bastionlaw22.LogsLines': WHATEVER THE INPUT: true; the input reads as it did. -/
def logsLinesSpec : ChangeSpec := { name := "logsLines", fn := fun _ => fun
  | [d1, d2, d3] => { results := [.lit (.bool true)], args := [d1, d2, d3] }
  | _ => none }
def logsLinesRow : OpenClaim := { program := "ytmcdeldjgfapbaa", sum := "a6af5b7fceb8d11448515bf573dbdf36d90623c72098026de17743d9c1b5f74b", func := "bastion/bastionlaw22.LogsLines", spec := "logsLines", inPlace := ["internal/bytealg.IndexByteString", "internal/abi.NoEscape", "internal/bytealg.MakeNoZero"], unfollowed := true, recurses := true, apart := false }
def LogsLinesSaid : Prop := logsLinesRow.holds Try.pinned (OpenSpec.ofChange logsLinesSpec)

/-- ITS FALSE NEIGHBOUR: 'it returns false'. Refute it at one input. -/
def logsLinesWrong : ChangeSpec := { name := "logsLines", fn := fun _ => fun
  | [d1, d2, d3] => { results := [.lit (.bool false)], args := [d1, d2, d3] }
  | _ => none }
def LogsLinesWrongFalsely : Prop := logsLinesRow.holds Try.pinned (OpenSpec.ofChange logsLinesWrong)

/-- 'bastionlaw22.LogsTails': WHATEVER THE INPUT: true; the input reads as it did. -/
def logsTailsSpec : ChangeSpec := { name := "logsTails", fn := fun _ => fun
  | [d1, d2, d3] => { results := [.lit (.bool true)], args := [d1, d2, d3] }
  | _ => none }
def logsTailsRow : OpenClaim := { program := "ytmcdeldjgfapbaa", sum := "a6af5b7fceb8d11448515bf573dbdf36d90623c72098026de17743d9c1b5f74b", func := "bastion/bastionlaw22.LogsTails", spec := "logsTails", inPlace := ["internal/bytealg.IndexByteString", "internal/abi.NoEscape", "internal/bytealg.MakeNoZero"], unfollowed := true, recurses := true, apart := false }
def LogsTailsSaid : Prop := logsTailsRow.holds Try.pinned (OpenSpec.ofChange logsTailsSpec)

/-- ITS FALSE NEIGHBOUR: 'it returns false'. Refute it at one input. -/
def logsTailsWrong : ChangeSpec := { name := "logsTails", fn := fun _ => fun
  | [d1, d2, d3] => { results := [.lit (.bool false)], args := [d1, d2, d3] }
  | _ => none }
def LogsTailsWrongFalsely : Prop := logsTailsRow.holds Try.pinned (OpenSpec.ofChange logsTailsWrong)

/-- 'bastionlaw22.LogsBack': WHATEVER THE INPUT: true; the input reads as it did. -/
def logsBackSpec : ChangeSpec := { name := "logsBack", fn := fun _ => fun
  | [d1, d2] => { results := [.lit (.bool true)], args := [d1, d2] }
  | _ => none }
def logsBackRow : OpenClaim := { program := "ytmcdeldjgfapbaa", sum := "a6af5b7fceb8d11448515bf573dbdf36d90623c72098026de17743d9c1b5f74b", func := "bastion/bastionlaw22.LogsBack", spec := "logsBack", inPlace := ["internal/bytealg.IndexByteString", "internal/abi.NoEscape", "internal/bytealg.MakeNoZero"], unfollowed := true, recurses := true, apart := false }
def LogsBackSaid : Prop := logsBackRow.holds Try.pinned (OpenSpec.ofChange logsBackSpec)

/-- ITS FALSE NEIGHBOUR: 'it returns false'. Refute it at one input. -/
def logsBackWrong : ChangeSpec := { name := "logsBack", fn := fun _ => fun
  | [d1, d2] => { results := [.lit (.bool false)], args := [d1, d2] }
  | _ => none }
def LogsBackWrongFalsely : Prop := logsBackRow.holds Try.pinned (OpenSpec.ofChange logsBackWrong)

/-- 'bastionlaw22.LogsNames': WHATEVER THE INPUT: true; the input reads as it did. -/
def logsNamesSpec : ChangeSpec := { name := "logsNames", fn := fun _ => fun
  | [] => { results := [.lit (.bool true)], args := [] }
  | _ => none }
def logsNamesRow : OpenClaim := { program := "ytmcdeldjgfapbaa", sum := "a6af5b7fceb8d11448515bf573dbdf36d90623c72098026de17743d9c1b5f74b", func := "bastion/bastionlaw22.LogsNames", spec := "logsNames", inPlace := ["internal/bytealg.IndexByteString", "internal/abi.NoEscape", "internal/bytealg.MakeNoZero"], unfollowed := true, recurses := true, apart := false }
def LogsNamesSaid : Prop := logsNamesRow.holds Try.pinned (OpenSpec.ofChange logsNamesSpec)

/-- ITS FALSE NEIGHBOUR: 'it returns false'. Refute it at one input. -/
def logsNamesWrong : ChangeSpec := { name := "logsNames", fn := fun _ => fun
  | [] => { results := [.lit (.bool false)], args := [] }
  | _ => none }
def LogsNamesWrongFalsely : Prop := logsNamesRow.holds Try.pinned (OpenSpec.ofChange logsNamesWrong)

/-- 'bastionlaw22.LogsPlays': WHATEVER THE INPUT: true; the input reads as it did. -/
def logsPlaysSpec : ChangeSpec := { name := "logsPlays", fn := fun _ => fun
  | [d] => { results := [.lit (.bool true)], args := [d] }
  | _ => none }
def logsPlaysRow : OpenClaim := { program := "ytmcdeldjgfapbaa", sum := "a6af5b7fceb8d11448515bf573dbdf36d90623c72098026de17743d9c1b5f74b", func := "bastion/bastionlaw22.LogsPlays", spec := "logsPlays", inPlace := ["internal/bytealg.IndexByteString", "internal/abi.NoEscape", "internal/bytealg.MakeNoZero"], unfollowed := true, recurses := true, apart := false }
def LogsPlaysSaid : Prop := logsPlaysRow.holds Try.pinned (OpenSpec.ofChange logsPlaysSpec)

/-- ITS FALSE NEIGHBOUR: 'it returns false'. Refute it at one input. -/
def logsPlaysWrong : ChangeSpec := { name := "logsPlays", fn := fun _ => fun
  | [d] => { results := [.lit (.bool false)], args := [d] }
  | _ => none }
def LogsPlaysWrongFalsely : Prop := logsPlaysRow.holds Try.pinned (OpenSpec.ofChange logsPlaysWrong)

/- THE SECOND FORM. 'bulk': how many values and letters a reading holds, each counted each time it is reached (what is shared counts as often as it is met; a slice's spare places count too). A statement '..UptoSaid' is the law's where the arguments, and the package variables that the reading takes, are together of bulk at most 1048576: NARROWER than '..Said'. Prove '..Said' where nothing that the law and all that it calls make is longer than what came in: it says more and counts as full. Else prove '..UptoSaid'. A law counts once. -/
mutual
def uptoBulk {H : Type} : DataW H → Nat
  | .lit (.string bytes) => bytes.length + 1
  | .lit _ => 1
  | .nil => 1
  | .ptr d => uptoBulk d + 1
  | .slice elems spare => uptoBulkAll elems + uptoBulkAll spare + 1
  | .agg parts => uptoBulkAll parts + 1
  | .iface _ d => uptoBulk d + 1
  | .map entries => uptoBulkEntries entries + 1
  | .held _ => 1
def uptoBulkAll {H : Type} : List (DataW H) → Nat
  | [] => 0
  | d :: r => uptoBulk d + uptoBulkAll r
def uptoBulkEntries {H : Type} : List (Lit × DataW H) → Nat
  | [] => 0
  | x :: r => uptoBulkEntry x + uptoBulkEntries r
def uptoBulkEntry {H : Type} : Lit × DataW H → Nat
  | (.string bytes, d) => bytes.length + uptoBulk d + 1
  | (_, d) => uptoBulk d + 1
 end
def uptoSmall : (H : Type) → List (DataW H) → Bool := fun _ ds => decide (uptoBulkAll ds ≤ 1048576)
def OpenSpec.upto (s : _root_.Go.ChangeSpec) : _root_.Go.OpenSpec := { _root_.Go.OpenSpec.ofChange s with cond := some uptoSmall }

/-- 'bastionlaw22.LogsLoads', WHERE WHAT IT READS IS OF BULK AT MOST 1048576: true; the input reads as it did. -/
def logsLoadsUptoRow : OpenClaim := { program := "ytmcdeldjgfapbaa", sum := "a6af5b7fceb8d11448515bf573dbdf36d90623c72098026de17743d9c1b5f74b", func := "bastion/bastionlaw22.LogsLoads", spec := "logsLoads", unfollowed := true, recurses := true, apart := false, narrowed := true }
def LogsLoadsUptoSaid : Prop := logsLoadsUptoRow.holds Try.pinned (OpenSpec.upto logsLoadsSpec)

/-- 'bastionlaw22.LogsOrder', WHERE WHAT IT READS IS OF BULK AT MOST 1048576: true; the input reads as it did. -/
def logsOrderUptoRow : OpenClaim := { program := "ytmcdeldjgfapbaa", sum := "a6af5b7fceb8d11448515bf573dbdf36d90623c72098026de17743d9c1b5f74b", func := "bastion/bastionlaw22.LogsOrder", spec := "logsOrder", inPlace := ["internal/bytealg.IndexByteString", "internal/abi.NoEscape", "internal/bytealg.MakeNoZero"], unfollowed := true, recurses := true, apart := false, narrowed := true }
def LogsOrderUptoSaid : Prop := logsOrderUptoRow.holds Try.pinned (OpenSpec.upto logsOrderSpec)

/-- 'bastionlaw22.LogsStays', WHERE WHAT IT READS IS OF BULK AT MOST 1048576: true; the input reads as it did. -/
def logsStaysUptoRow : OpenClaim := { program := "ytmcdeldjgfapbaa", sum := "a6af5b7fceb8d11448515bf573dbdf36d90623c72098026de17743d9c1b5f74b", func := "bastion/bastionlaw22.LogsStays", spec := "logsStays", inPlace := ["internal/bytealg.IndexByteString", "internal/abi.NoEscape", "internal/bytealg.MakeNoZero"], unfollowed := true, recurses := true, apart := false, narrowed := true }
def LogsStaysUptoSaid : Prop := logsStaysUptoRow.holds Try.pinned (OpenSpec.upto logsStaysSpec)

/-- 'bastionlaw22.LogsLines', WHERE WHAT IT READS IS OF BULK AT MOST 1048576: true; the input reads as it did. -/
def logsLinesUptoRow : OpenClaim := { program := "ytmcdeldjgfapbaa", sum := "a6af5b7fceb8d11448515bf573dbdf36d90623c72098026de17743d9c1b5f74b", func := "bastion/bastionlaw22.LogsLines", spec := "logsLines", inPlace := ["internal/bytealg.IndexByteString", "internal/abi.NoEscape", "internal/bytealg.MakeNoZero"], unfollowed := true, recurses := true, apart := false, narrowed := true }
def LogsLinesUptoSaid : Prop := logsLinesUptoRow.holds Try.pinned (OpenSpec.upto logsLinesSpec)

/-- 'bastionlaw22.LogsTails', WHERE WHAT IT READS IS OF BULK AT MOST 1048576: true; the input reads as it did. -/
def logsTailsUptoRow : OpenClaim := { program := "ytmcdeldjgfapbaa", sum := "a6af5b7fceb8d11448515bf573dbdf36d90623c72098026de17743d9c1b5f74b", func := "bastion/bastionlaw22.LogsTails", spec := "logsTails", inPlace := ["internal/bytealg.IndexByteString", "internal/abi.NoEscape", "internal/bytealg.MakeNoZero"], unfollowed := true, recurses := true, apart := false, narrowed := true }
def LogsTailsUptoSaid : Prop := logsTailsUptoRow.holds Try.pinned (OpenSpec.upto logsTailsSpec)

/-- 'bastionlaw22.LogsBack', WHERE WHAT IT READS IS OF BULK AT MOST 1048576: true; the input reads as it did. -/
def logsBackUptoRow : OpenClaim := { program := "ytmcdeldjgfapbaa", sum := "a6af5b7fceb8d11448515bf573dbdf36d90623c72098026de17743d9c1b5f74b", func := "bastion/bastionlaw22.LogsBack", spec := "logsBack", inPlace := ["internal/bytealg.IndexByteString", "internal/abi.NoEscape", "internal/bytealg.MakeNoZero"], unfollowed := true, recurses := true, apart := false, narrowed := true }
def LogsBackUptoSaid : Prop := logsBackUptoRow.holds Try.pinned (OpenSpec.upto logsBackSpec)

/-- 'bastionlaw22.LogsNames', WHERE WHAT IT READS IS OF BULK AT MOST 1048576: true; the input reads as it did. -/
def logsNamesUptoRow : OpenClaim := { program := "ytmcdeldjgfapbaa", sum := "a6af5b7fceb8d11448515bf573dbdf36d90623c72098026de17743d9c1b5f74b", func := "bastion/bastionlaw22.LogsNames", spec := "logsNames", inPlace := ["internal/bytealg.IndexByteString", "internal/abi.NoEscape", "internal/bytealg.MakeNoZero"], unfollowed := true, recurses := true, apart := false, narrowed := true }
def LogsNamesUptoSaid : Prop := logsNamesUptoRow.holds Try.pinned (OpenSpec.upto logsNamesSpec)

/-- 'bastionlaw22.LogsPlays', WHERE WHAT IT READS IS OF BULK AT MOST 1048576: true; the input reads as it did. -/
def logsPlaysUptoRow : OpenClaim := { program := "ytmcdeldjgfapbaa", sum := "a6af5b7fceb8d11448515bf573dbdf36d90623c72098026de17743d9c1b5f74b", func := "bastion/bastionlaw22.LogsPlays", spec := "logsPlays", inPlace := ["internal/bytealg.IndexByteString", "internal/abi.NoEscape", "internal/bytealg.MakeNoZero"], unfollowed := true, recurses := true, apart := false, narrowed := true }
def LogsPlaysUptoSaid : Prop := logsPlaysUptoRow.holds Try.pinned (OpenSpec.upto logsPlaysSpec)

end Rows
end Go.Proofs.Ytmcdeldjgfapbaa
