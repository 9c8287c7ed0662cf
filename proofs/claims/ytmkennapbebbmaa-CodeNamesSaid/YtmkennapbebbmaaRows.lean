/-
  No cell of these rows narrows 'for every input' (looked for: loops, veiled, ifaces, maps, wideKeys, modest, calm, conditions, laid).
  DERIVED. THE GIVEN ROWS OF THIS SEAT. 8 by the template 'for every input the law returns true; each argument reads behind the call as it read before'; 0 by the template 'total and deterministic' (their statements: YtmkennapbebbmaaTotals.lean).
  GIVEN WITH THE SEED: the statements are not yours to turn. If you find one false, say at which input.
  Laid BY PROGRAM, IN A SANDBOX (cutbox-rows.mjs): the forced cells as the released guide's own fill.sh prints them over the translation becbea340b964a90… (all of the seat's roots in one cut). By AI agents, Wed Nov 11 2026. No macro, syntax, notation, axiom, sorry.
-/
import Derived.Test.YtmkennapbebbmaaChecked
import GoSem.Claim
import GoSem.ClaimJoined
import GoSem.ClaimMapViews
import Derived.JoinedTies
import Derived.KernelRfl
namespace Go.Proofs.Ytmkennapbebbmaa
/- THE CELL 'sum', in the pinned program and in every row, IS THE sha256 OF THE DUMP (.gsa) THAT YtmkennapbebbmaaProg.lean LOADS. Nothing in Lean hashes anything: it is a label: what it is worth is what the hold of that sum in a sandbox is worth. -/
noncomputable def Try.pinned : Pinned := { name := "ytmkennapbebbmaa", sum := "becbea340b964a902b15b92d29289965b92815718732ad20a1b2f580f10dfd09", checked := Try.checked }
namespace Rows
def none {H : Type} : Left H := { results := [], args := [] }

/-- 'bastionlaw01.CodeLays': WHATEVER THE INPUT: true; the input reads as it did. -/
def codeLaysSpec : ChangeSpec := { name := "codeLays", fn := fun _ => fun
  | [d1, d2] => { results := [.lit (.bool true)], args := [d1, d2] }
  | _ => none }
def codeLaysRow : OpenClaim := { program := "ytmkennapbebbmaa", sum := "becbea340b964a902b15b92d29289965b92815718732ad20a1b2f580f10dfd09", func := "bastion/bastionlaw01.CodeLays", spec := "codeLays", recurses := true, apart := false }
def CodeLaysSaid : Prop := codeLaysRow.holds Try.pinned (OpenSpec.ofChange codeLaysSpec)

/-- ITS FALSE NEIGHBOUR: 'it returns false'. Refute it at one input. -/
def codeLaysWrong : ChangeSpec := { name := "codeLays", fn := fun _ => fun
  | [d1, d2] => { results := [.lit (.bool false)], args := [d1, d2] }
  | _ => none }
def CodeLaysWrongFalsely : Prop := codeLaysRow.holds Try.pinned (OpenSpec.ofChange codeLaysWrong)

/-- 'bastionlaw01.CodeTurns': WHATEVER THE INPUT: true; the input reads as it did. -/
def codeTurnsSpec : ChangeSpec := { name := "codeTurns", fn := fun _ => fun
  | [d1, d2, d3] => { results := [.lit (.bool true)], args := [d1, d2, d3] }
  | _ => none }
def codeTurnsRow : OpenClaim := { program := "ytmkennapbebbmaa", sum := "becbea340b964a902b15b92d29289965b92815718732ad20a1b2f580f10dfd09", func := "bastion/bastionlaw01.CodeTurns", spec := "codeTurns", unfollowed := true, recurses := true, apart := false }
def CodeTurnsSaid : Prop := codeTurnsRow.holds Try.pinned (OpenSpec.ofChange codeTurnsSpec)

/-- ITS FALSE NEIGHBOUR: 'it returns false'. Refute it at one input. -/
def codeTurnsWrong : ChangeSpec := { name := "codeTurns", fn := fun _ => fun
  | [d1, d2, d3] => { results := [.lit (.bool false)], args := [d1, d2, d3] }
  | _ => none }
def CodeTurnsWrongFalsely : Prop := codeTurnsRow.holds Try.pinned (OpenSpec.ofChange codeTurnsWrong)

/-- 'bastionlaw01.CodeNames': WHATEVER THE INPUT: true; the input reads as it did. -/
def codeNamesSpec : ChangeSpec := { name := "codeNames", fn := fun _ => fun
  | [] => { results := [.lit (.bool true)], args := [] }
  | _ => none }
def codeNamesRow : OpenClaim := { program := "ytmkennapbebbmaa", sum := "becbea340b964a902b15b92d29289965b92815718732ad20a1b2f580f10dfd09", func := "bastion/bastionlaw01.CodeNames", spec := "codeNames", unfollowed := true, recurses := true, apart := false }
def CodeNamesSaid : Prop := codeNamesRow.holds Try.pinned (OpenSpec.ofChange codeNamesSpec)

/-- ITS FALSE NEIGHBOUR: 'it returns false'. Refute it at one input. -/
def codeNamesWrong : ChangeSpec := { name := "codeNames", fn := fun _ => fun
  | [] => { results := [.lit (.bool false)], args := [] }
  | _ => none }
def CodeNamesWrongFalsely : Prop := codeNamesRow.holds Try.pinned (OpenSpec.ofChange codeNamesWrong)

/-- 'bastionlaw01.CodeApart': WHATEVER THE INPUT: true; the input reads as it did. -/
def codeApartSpec : ChangeSpec := { name := "codeApart", fn := fun _ => fun
  | [d1, d2] => { results := [.lit (.bool true)], args := [d1, d2] }
  | _ => none }
def codeApartRow : OpenClaim := { program := "ytmkennapbebbmaa", sum := "becbea340b964a902b15b92d29289965b92815718732ad20a1b2f580f10dfd09", func := "bastion/bastionlaw01.CodeApart", spec := "codeApart", unfollowed := true, recurses := true, apart := false }
def CodeApartSaid : Prop := codeApartRow.holds Try.pinned (OpenSpec.ofChange codeApartSpec)

/-- ITS FALSE NEIGHBOUR: 'it returns false'. Refute it at one input. -/
def codeApartWrong : ChangeSpec := { name := "codeApart", fn := fun _ => fun
  | [d1, d2] => { results := [.lit (.bool false)], args := [d1, d2] }
  | _ => none }
def CodeApartWrongFalsely : Prop := codeApartRow.holds Try.pinned (OpenSpec.ofChange codeApartWrong)

/-- 'bastionlaw01.CodeSizes': WHATEVER THE INPUT: true; the input reads as it did. -/
def codeSizesSpec : ChangeSpec := { name := "codeSizes", fn := fun _ => fun
  | [d1, d2, d3] => { results := [.lit (.bool true)], args := [d1, d2, d3] }
  | _ => none }
def codeSizesRow : OpenClaim := { program := "ytmkennapbebbmaa", sum := "becbea340b964a902b15b92d29289965b92815718732ad20a1b2f580f10dfd09", func := "bastion/bastionlaw01.CodeSizes", spec := "codeSizes", unfollowed := true, recurses := true, apart := false }
def CodeSizesSaid : Prop := codeSizesRow.holds Try.pinned (OpenSpec.ofChange codeSizesSpec)

/-- ITS FALSE NEIGHBOUR: 'it returns false'. Refute it at one input. -/
def codeSizesWrong : ChangeSpec := { name := "codeSizes", fn := fun _ => fun
  | [d1, d2, d3] => { results := [.lit (.bool false)], args := [d1, d2, d3] }
  | _ => none }
def CodeSizesWrongFalsely : Prop := codeSizesRow.holds Try.pinned (OpenSpec.ofChange codeSizesWrong)

/-- 'bastionlaw01.CodeOnward': WHATEVER THE INPUT: true; the input reads as it did. -/
def codeOnwardSpec : ChangeSpec := { name := "codeOnward", fn := fun _ => fun
  | [d1, d2] => { results := [.lit (.bool true)], args := [d1, d2] }
  | _ => none }
def codeOnwardRow : OpenClaim := { program := "ytmkennapbebbmaa", sum := "becbea340b964a902b15b92d29289965b92815718732ad20a1b2f580f10dfd09", func := "bastion/bastionlaw01.CodeOnward", spec := "codeOnward", unfollowed := true, recurses := true, apart := false }
def CodeOnwardSaid : Prop := codeOnwardRow.holds Try.pinned (OpenSpec.ofChange codeOnwardSpec)

/-- ITS FALSE NEIGHBOUR: 'it returns false'. Refute it at one input. -/
def codeOnwardWrong : ChangeSpec := { name := "codeOnward", fn := fun _ => fun
  | [d1, d2] => { results := [.lit (.bool false)], args := [d1, d2] }
  | _ => none }
def CodeOnwardWrongFalsely : Prop := codeOnwardRow.holds Try.pinned (OpenSpec.ofChange codeOnwardWrong)

/-- 'bastionlaw01.CodeBehind': WHATEVER THE INPUT: true; the input reads as it did. -/
def codeBehindSpec : ChangeSpec := { name := "codeBehind", fn := fun _ => fun
  | [d1, d2, d3] => { results := [.lit (.bool true)], args := [d1, d2, d3] }
  | _ => none }
def codeBehindRow : OpenClaim := { program := "ytmkennapbebbmaa", sum := "becbea340b964a902b15b92d29289965b92815718732ad20a1b2f580f10dfd09", func := "bastion/bastionlaw01.CodeBehind", spec := "codeBehind", unfollowed := true, recurses := true, apart := false }
def CodeBehindSaid : Prop := codeBehindRow.holds Try.pinned (OpenSpec.ofChange codeBehindSpec)

/-- ITS FALSE NEIGHBOUR: 'it returns false'. Refute it at one input. -/
def codeBehindWrong : ChangeSpec := { name := "codeBehind", fn := fun _ => fun
  | [d1, d2, d3] => { results := [.lit (.bool false)], args := [d1, d2, d3] }
  | _ => none }
def CodeBehindWrongFalsely : Prop := codeBehindRow.holds Try.pinned (OpenSpec.ofChange codeBehindWrong)

/-- 'bastionlaw01.CodeCuts': WHATEVER THE INPUT: true; the input reads as it did. -/
def codeCutsSpec : ChangeSpec := { name := "codeCuts", fn := fun _ => fun
  | [d1, d2] => { results := [.lit (.bool true)], args := [d1, d2] }
  | _ => none }
def codeCutsRow : OpenClaim := { program := "ytmkennapbebbmaa", sum := "becbea340b964a902b15b92d29289965b92815718732ad20a1b2f580f10dfd09", func := "bastion/bastionlaw01.CodeCuts", spec := "codeCuts", unfollowed := true, recurses := true, apart := false }
def CodeCutsSaid : Prop := codeCutsRow.holds Try.pinned (OpenSpec.ofChange codeCutsSpec)

/-- ITS FALSE NEIGHBOUR: 'it returns false'. Refute it at one input. -/
def codeCutsWrong : ChangeSpec := { name := "codeCuts", fn := fun _ => fun
  | [d1, d2] => { results := [.lit (.bool false)], args := [d1, d2] }
  | _ => none }
def CodeCutsWrongFalsely : Prop := codeCutsRow.holds Try.pinned (OpenSpec.ofChange codeCutsWrong)

/- THE SECOND FORM. 'bulk': how many values and letters a reading holds, each counted each time it is reached (what is shared counts as often as it is met; a slice's spare places count too). A statement '..UptoSaid' is the law's where the arguments, and the package variables that the reading takes, are together of bulk at most 1048576: NARROWER than '..Said'. Prove '..Said' where nothing that the law and all that it calls make is longer than what came in: it says more and counts as full. Else prove '..UptoSaid'. A law counts once. -/
mutual
def uptoBulk {H : Type} : DataW H → Nat
  | .lit (.string bytes) => bytes.length + 1
  | .lit _ => 1
  | .nil => 1
  | .ptr d => uptoBulk d + 1
  | .slice elems spare => uptoBulkAll elems + uptoBulkAll spare + 1
  | .agg parts => uptoBulkAll parts + 1
  | .iface _ d => uptoBulk d + 1
  | .map entries => uptoBulkEntries entries + 1
  | .held _ => 1
def uptoBulkAll {H : Type} : List (DataW H) → Nat
  | [] => 0
  | d :: r => uptoBulk d + uptoBulkAll r
def uptoBulkEntries {H : Type} : List (Lit × DataW H) → Nat
  | [] => 0
  | x :: r => uptoBulkEntry x + uptoBulkEntries r
def uptoBulkEntry {H : Type} : Lit × DataW H → Nat
  | (.string bytes, d) => bytes.length + uptoBulk d + 1
  | (_, d) => uptoBulk d + 1
 end
def uptoSmall : (H : Type) → List (DataW H) → Bool := fun _ ds => decide (uptoBulkAll ds ≤ 1048576)
def OpenSpec.upto (s : _root_.Go.ChangeSpec) : _root_.Go.OpenSpec := { _root_.Go.OpenSpec.ofChange s with cond := some uptoSmall }

/-- 'bastionlaw01.CodeLays', WHERE WHAT IT READS IS OF BULK AT MOST 1048576: true; the input reads as it did. -/
def codeLaysUptoRow : OpenClaim := { program := "ytmkennapbebbmaa", sum := "becbea340b964a902b15b92d29289965b92815718732ad20a1b2f580f10dfd09", func := "bastion/bastionlaw01.CodeLays", spec := "codeLays", recurses := true, apart := false, narrowed := true }
def CodeLaysUptoSaid : Prop := codeLaysUptoRow.holds Try.pinned (OpenSpec.upto codeLaysSpec)

/-- 'bastionlaw01.CodeTurns', WHERE WHAT IT READS IS OF BULK AT MOST 1048576: true; the input reads as it did. -/
def codeTurnsUptoRow : OpenClaim := { program := "ytmkennapbebbmaa", sum := "becbea340b964a902b15b92d29289965b92815718732ad20a1b2f580f10dfd09", func := "bastion/bastionlaw01.CodeTurns", spec := "codeTurns", unfollowed := true, recurses := true, apart := false, narrowed := true }
def CodeTurnsUptoSaid : Prop := codeTurnsUptoRow.holds Try.pinned (OpenSpec.upto codeTurnsSpec)

/-- 'bastionlaw01.CodeNames', WHERE WHAT IT READS IS OF BULK AT MOST 1048576: true; the input reads as it did. -/
def codeNamesUptoRow : OpenClaim := { program := "ytmkennapbebbmaa", sum := "becbea340b964a902b15b92d29289965b92815718732ad20a1b2f580f10dfd09", func := "bastion/bastionlaw01.CodeNames", spec := "codeNames", unfollowed := true, recurses := true, apart := false, narrowed := true }
def CodeNamesUptoSaid : Prop := codeNamesUptoRow.holds Try.pinned (OpenSpec.upto codeNamesSpec)

/-- 'bastionlaw01.CodeApart', WHERE WHAT IT READS IS OF BULK AT MOST 1048576: true; the input reads as it did. -/
def codeApartUptoRow : OpenClaim := { program := "ytmkennapbebbmaa", sum := "becbea340b964a902b15b92d29289965b92815718732ad20a1b2f580f10dfd09", func := "bastion/bastionlaw01.CodeApart", spec := "codeApart", unfollowed := true, recurses := true, apart := false, narrowed := true }
def CodeApartUptoSaid : Prop := codeApartUptoRow.holds Try.pinned (OpenSpec.upto codeApartSpec)

/-- 'bastionlaw01.CodeSizes', WHERE WHAT IT READS IS OF BULK AT MOST 1048576: true; the input reads as it did. -/
def codeSizesUptoRow : OpenClaim := { program := "ytmkennapbebbmaa", sum := "becbea340b964a902b15b92d29289965b92815718732ad20a1b2f580f10dfd09", func := "bastion/bastionlaw01.CodeSizes", spec := "codeSizes", unfollowed := true, recurses := true, apart := false, narrowed := true }
def CodeSizesUptoSaid : Prop := codeSizesUptoRow.holds Try.pinned (OpenSpec.upto codeSizesSpec)

/-- 'bastionlaw01.CodeOnward', WHERE WHAT IT READS IS OF BULK AT MOST 1048576: true; the input reads as it did. -/
def codeOnwardUptoRow : OpenClaim := { program := "ytmkennapbebbmaa", sum := "becbea340b964a902b15b92d29289965b92815718732ad20a1b2f580f10dfd09", func := "bastion/bastionlaw01.CodeOnward", spec := "codeOnward", unfollowed := true, recurses := true, apart := false, narrowed := true }
def CodeOnwardUptoSaid : Prop := codeOnwardUptoRow.holds Try.pinned (OpenSpec.upto codeOnwardSpec)

/-- 'bastionlaw01.CodeBehind', WHERE WHAT IT READS IS OF BULK AT MOST 1048576: true; the input reads as it did. -/
def codeBehindUptoRow : OpenClaim := { program := "ytmkennapbebbmaa", sum := "becbea340b964a902b15b92d29289965b92815718732ad20a1b2f580f10dfd09", func := "bastion/bastionlaw01.CodeBehind", spec := "codeBehind", unfollowed := true, recurses := true, apart := false, narrowed := true }
def CodeBehindUptoSaid : Prop := codeBehindUptoRow.holds Try.pinned (OpenSpec.upto codeBehindSpec)

/-- 'bastionlaw01.CodeCuts', WHERE WHAT IT READS IS OF BULK AT MOST 1048576: true; the input reads as it did. -/
def codeCutsUptoRow : OpenClaim := { program := "ytmkennapbebbmaa", sum := "becbea340b964a902b15b92d29289965b92815718732ad20a1b2f580f10dfd09", func := "bastion/bastionlaw01.CodeCuts", spec := "codeCuts", unfollowed := true, recurses := true, apart := false, narrowed := true }
def CodeCutsUptoSaid : Prop := codeCutsUptoRow.holds Try.pinned (OpenSpec.upto codeCutsSpec)

end Rows
end Go.Proofs.Ytmkennapbebbmaa
