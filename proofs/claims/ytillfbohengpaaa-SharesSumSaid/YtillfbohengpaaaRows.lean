/-
  No cell of these rows narrows 'for every input' (looked for: loops, veiled, ifaces, maps, wideKeys, modest, calm, conditions, laid).
  DERIVED. THE GIVEN ROWS OF THIS SEAT. 12 by the template 'for every input the law returns true; each argument reads behind the call as it read before'; 0 by the template 'total and deterministic' (their statements: YtillfbohengpaaaTotals.lean).
  GIVEN WITH THE SEED: the statements are not yours to turn. If you find one false, say at which input.
  Laid BY PROGRAM, IN A SANDBOX (cutbox-rows.mjs): the forced cells as the released guide's own fill.sh prints them over the translation dc29f9f5d7fc4d3f… (all of the seat's roots in one cut). By AI agents, Wed Nov 11 2026. No macro, syntax, notation, axiom, sorry.
-/
import Derived.Test.YtillfbohengpaaaChecked
import GoSem.Claim
import GoSem.ClaimJoined
import GoSem.ClaimMapViews
import Derived.JoinedTies
import Derived.KernelRfl
namespace Go.Proofs.Ytillfbohengpaaa
/- THE CELL 'sum', in the pinned program and in every row, IS THE sha256 OF THE DUMP (.gsa) THAT YtillfbohengpaaaProg.lean LOADS. Nothing in Lean hashes anything: it is a label: what it is worth is what the hold of that sum in a sandbox is worth. -/
noncomputable def Try.pinned : Pinned := { name := "ytillfbohengpaaa", sum := "dc29f9f5d7fc4d3f9e8fb049d675a1867785a9240d962a355cbe6dadd703709f", checked := Try.checked }
namespace Rows
def none {H : Type} : Left H := { results := [], args := [] }

/-- 'testamurlaw07.FieldMulSpec': WHATEVER THE INPUT: true; the input reads as it did. -/
def fieldMulSpecSpec : ChangeSpec := { name := "fieldMulSpec", fn := fun _ => fun
  | [d1, d2] => { results := [.lit (.bool true)], args := [d1, d2] }
  | _ => none }
def fieldMulSpecRow : OpenClaim := { program := "ytillfbohengpaaa", sum := "dc29f9f5d7fc4d3f9e8fb049d675a1867785a9240d962a355cbe6dadd703709f", func := "testamur/testamurlaw07.FieldMulSpec", spec := "fieldMulSpec", unfollowed := true, recurses := true, apart := false }
def FieldMulSpecSaid : Prop := fieldMulSpecRow.holds Try.pinned (OpenSpec.ofChange fieldMulSpecSpec)

/-- ITS FALSE NEIGHBOUR: 'it returns false'. Refute it at one input. -/
def fieldMulSpecWrong : ChangeSpec := { name := "fieldMulSpec", fn := fun _ => fun
  | [d1, d2] => { results := [.lit (.bool false)], args := [d1, d2] }
  | _ => none }
def FieldMulSpecWrongFalsely : Prop := fieldMulSpecRow.holds Try.pinned (OpenSpec.ofChange fieldMulSpecWrong)

/-- 'testamurlaw07.FieldAxioms': WHATEVER THE INPUT: true; the input reads as it did. -/
def fieldAxiomsSpec : ChangeSpec := { name := "fieldAxioms", fn := fun _ => fun
  | [d1, d2, d3] => { results := [.lit (.bool true)], args := [d1, d2, d3] }
  | _ => none }
def fieldAxiomsRow : OpenClaim := { program := "ytillfbohengpaaa", sum := "dc29f9f5d7fc4d3f9e8fb049d675a1867785a9240d962a355cbe6dadd703709f", func := "testamur/testamurlaw07.FieldAxioms", spec := "fieldAxioms", unfollowed := true, recurses := true, apart := false }
def FieldAxiomsSaid : Prop := fieldAxiomsRow.holds Try.pinned (OpenSpec.ofChange fieldAxiomsSpec)

/-- ITS FALSE NEIGHBOUR: 'it returns false'. Refute it at one input. -/
def fieldAxiomsWrong : ChangeSpec := { name := "fieldAxioms", fn := fun _ => fun
  | [d1, d2, d3] => { results := [.lit (.bool false)], args := [d1, d2, d3] }
  | _ => none }
def FieldAxiomsWrongFalsely : Prop := fieldAxiomsRow.holds Try.pinned (OpenSpec.ofChange fieldAxiomsWrong)

/-- 'testamurlaw07.FieldTwo': WHATEVER THE INPUT: true; the input reads as it did. -/
def fieldTwoSpec : ChangeSpec := { name := "fieldTwo", fn := fun _ => fun
  | [d1, d2] => { results := [.lit (.bool true)], args := [d1, d2] }
  | _ => none }
def fieldTwoRow : OpenClaim := { program := "ytillfbohengpaaa", sum := "dc29f9f5d7fc4d3f9e8fb049d675a1867785a9240d962a355cbe6dadd703709f", func := "testamur/testamurlaw07.FieldTwo", spec := "fieldTwo", unfollowed := true, recurses := true, apart := false }
def FieldTwoSaid : Prop := fieldTwoRow.holds Try.pinned (OpenSpec.ofChange fieldTwoSpec)

/-- ITS FALSE NEIGHBOUR: 'it returns false'. Refute it at one input. -/
def fieldTwoWrong : ChangeSpec := { name := "fieldTwo", fn := fun _ => fun
  | [d1, d2] => { results := [.lit (.bool false)], args := [d1, d2] }
  | _ => none }
def FieldTwoWrongFalsely : Prop := fieldTwoRow.holds Try.pinned (OpenSpec.ofChange fieldTwoWrong)

/-- 'testamurlaw07.FieldUnique': WHATEVER THE INPUT: true; the input reads as it did. -/
def fieldUniqueSpec : ChangeSpec := { name := "fieldUnique", fn := fun _ => fun
  | [d1, d2, d3, d4] => { results := [.lit (.bool true)], args := [d1, d2, d3, d4] }
  | _ => none }
def fieldUniqueRow : OpenClaim := { program := "ytillfbohengpaaa", sum := "dc29f9f5d7fc4d3f9e8fb049d675a1867785a9240d962a355cbe6dadd703709f", func := "testamur/testamurlaw07.FieldUnique", spec := "fieldUnique", unfollowed := true, recurses := true, apart := false }
def FieldUniqueSaid : Prop := fieldUniqueRow.holds Try.pinned (OpenSpec.ofChange fieldUniqueSpec)

/-- ITS FALSE NEIGHBOUR: 'it returns false'. Refute it at one input. -/
def fieldUniqueWrong : ChangeSpec := { name := "fieldUnique", fn := fun _ => fun
  | [d1, d2, d3, d4] => { results := [.lit (.bool false)], args := [d1, d2, d3, d4] }
  | _ => none }
def FieldUniqueWrongFalsely : Prop := fieldUniqueRow.holds Try.pinned (OpenSpec.ofChange fieldUniqueWrong)

/-- 'testamurlaw07.FieldValues': WHATEVER THE INPUT: true; the input reads as it did. -/
def fieldValuesSpec : ChangeSpec := { name := "fieldValues", fn := fun _ => fun
  | [d1, d2, d3] => { results := [.lit (.bool true)], args := [d1, d2, d3] }
  | _ => none }
def fieldValuesRow : OpenClaim := { program := "ytillfbohengpaaa", sum := "dc29f9f5d7fc4d3f9e8fb049d675a1867785a9240d962a355cbe6dadd703709f", func := "testamur/testamurlaw07.FieldValues", spec := "fieldValues", unfollowed := true, recurses := true, apart := false }
def FieldValuesSaid : Prop := fieldValuesRow.holds Try.pinned (OpenSpec.ofChange fieldValuesSpec)

/-- ITS FALSE NEIGHBOUR: 'it returns false'. Refute it at one input. -/
def fieldValuesWrong : ChangeSpec := { name := "fieldValues", fn := fun _ => fun
  | [d1, d2, d3] => { results := [.lit (.bool false)], args := [d1, d2, d3] }
  | _ => none }
def FieldValuesWrongFalsely : Prop := fieldValuesRow.holds Try.pinned (OpenSpec.ofChange fieldValuesWrong)

/-- 'testamurlaw08.SharesSplitSpec': WHATEVER THE INPUT: true; the input reads as it did. -/
def sharesSplitSpecSpec : ChangeSpec := { name := "sharesSplitSpec", fn := fun _ => fun
  | [d1, d2, d3, d4, d5, d6] => { results := [.lit (.bool true)], args := [d1, d2, d3, d4, d5, d6] }
  | _ => none }
def sharesSplitSpecRow : OpenClaim := { program := "ytillfbohengpaaa", sum := "dc29f9f5d7fc4d3f9e8fb049d675a1867785a9240d962a355cbe6dadd703709f", func := "testamur/testamurlaw08.SharesSplitSpec", spec := "sharesSplitSpec", unfollowed := true, recurses := true, apart := false }
def SharesSplitSpecSaid : Prop := sharesSplitSpecRow.holds Try.pinned (OpenSpec.ofChange sharesSplitSpecSpec)

/-- ITS FALSE NEIGHBOUR: 'it returns false'. Refute it at one input. -/
def sharesSplitSpecWrong : ChangeSpec := { name := "sharesSplitSpec", fn := fun _ => fun
  | [d1, d2, d3, d4, d5, d6] => { results := [.lit (.bool false)], args := [d1, d2, d3, d4, d5, d6] }
  | _ => none }
def SharesSplitSpecWrongFalsely : Prop := sharesSplitSpecRow.holds Try.pinned (OpenSpec.ofChange sharesSplitSpecWrong)

/-- 'testamurlaw08.SharesJoinSpec': WHATEVER THE INPUT: true; the input reads as it did. -/
def sharesJoinSpecSpec : ChangeSpec := { name := "sharesJoinSpec", fn := fun _ => fun
  | [d] => { results := [.lit (.bool true)], args := [d] }
  | _ => none }
def sharesJoinSpecRow : OpenClaim := { program := "ytillfbohengpaaa", sum := "dc29f9f5d7fc4d3f9e8fb049d675a1867785a9240d962a355cbe6dadd703709f", func := "testamur/testamurlaw08.SharesJoinSpec", spec := "sharesJoinSpec", unfollowed := true, recurses := true, apart := false }
def SharesJoinSpecSaid : Prop := sharesJoinSpecRow.holds Try.pinned (OpenSpec.ofChange sharesJoinSpecSpec)

/-- ITS FALSE NEIGHBOUR: 'it returns false'. Refute it at one input. -/
def sharesJoinSpecWrong : ChangeSpec := { name := "sharesJoinSpec", fn := fun _ => fun
  | [d] => { results := [.lit (.bool false)], args := [d] }
  | _ => none }
def SharesJoinSpecWrongFalsely : Prop := sharesJoinSpecRow.holds Try.pinned (OpenSpec.ofChange sharesJoinSpecWrong)

/-- 'testamurlaw08.SharesExplainSpec': WHATEVER THE INPUT: true; the input reads as it did. -/
def sharesExplainSpecSpec : ChangeSpec := { name := "sharesExplainSpec", fn := fun _ => fun
  | [d1, d2, d3] => { results := [.lit (.bool true)], args := [d1, d2, d3] }
  | _ => none }
def sharesExplainSpecRow : OpenClaim := { program := "ytillfbohengpaaa", sum := "dc29f9f5d7fc4d3f9e8fb049d675a1867785a9240d962a355cbe6dadd703709f", func := "testamur/testamurlaw08.SharesExplainSpec", spec := "sharesExplainSpec", unfollowed := true, recurses := true, apart := false }
def SharesExplainSpecSaid : Prop := sharesExplainSpecRow.holds Try.pinned (OpenSpec.ofChange sharesExplainSpecSpec)

/-- ITS FALSE NEIGHBOUR: 'it returns false'. Refute it at one input. -/
def sharesExplainSpecWrong : ChangeSpec := { name := "sharesExplainSpec", fn := fun _ => fun
  | [d1, d2, d3] => { results := [.lit (.bool false)], args := [d1, d2, d3] }
  | _ => none }
def SharesExplainSpecWrongFalsely : Prop := sharesExplainSpecRow.holds Try.pinned (OpenSpec.ofChange sharesExplainSpecWrong)

/-- 'testamurlaw08.SharesHide': WHATEVER THE INPUT: true; the input reads as it did. -/
def sharesHideSpec : ChangeSpec := { name := "sharesHide", fn := fun _ => fun
  | [d1, d2, d3, d4, d5, d6, d7] => { results := [.lit (.bool true)], args := [d1, d2, d3, d4, d5, d6, d7] }
  | _ => none }
def sharesHideRow : OpenClaim := { program := "ytillfbohengpaaa", sum := "dc29f9f5d7fc4d3f9e8fb049d675a1867785a9240d962a355cbe6dadd703709f", func := "testamur/testamurlaw08.SharesHide", spec := "sharesHide", unfollowed := true, recurses := true, apart := false }
def SharesHideSaid : Prop := sharesHideRow.holds Try.pinned (OpenSpec.ofChange sharesHideSpec)

/-- ITS FALSE NEIGHBOUR: 'it returns false'. Refute it at one input. -/
def sharesHideWrong : ChangeSpec := { name := "sharesHide", fn := fun _ => fun
  | [d1, d2, d3, d4, d5, d6, d7] => { results := [.lit (.bool false)], args := [d1, d2, d3, d4, d5, d6, d7] }
  | _ => none }
def SharesHideWrongFalsely : Prop := sharesHideRow.holds Try.pinned (OpenSpec.ofChange sharesHideWrong)

/-- 'testamurlaw08.SharesRefresh': WHATEVER THE INPUT: true; the input reads as it did. -/
def sharesRefreshSpec : ChangeSpec := { name := "sharesRefresh", fn := fun _ => fun
  | [d1, d2, d3, d4, d5, d6, d7, d8] => { results := [.lit (.bool true)], args := [d1, d2, d3, d4, d5, d6, d7, d8] }
  | _ => none }
def sharesRefreshRow : OpenClaim := { program := "ytillfbohengpaaa", sum := "dc29f9f5d7fc4d3f9e8fb049d675a1867785a9240d962a355cbe6dadd703709f", func := "testamur/testamurlaw08.SharesRefresh", spec := "sharesRefresh", unfollowed := true, recurses := true, apart := false }
def SharesRefreshSaid : Prop := sharesRefreshRow.holds Try.pinned (OpenSpec.ofChange sharesRefreshSpec)

/-- ITS FALSE NEIGHBOUR: 'it returns false'. Refute it at one input. -/
def sharesRefreshWrong : ChangeSpec := { name := "sharesRefresh", fn := fun _ => fun
  | [d1, d2, d3, d4, d5, d6, d7, d8] => { results := [.lit (.bool false)], args := [d1, d2, d3, d4, d5, d6, d7, d8] }
  | _ => none }
def SharesRefreshWrongFalsely : Prop := sharesRefreshRow.holds Try.pinned (OpenSpec.ofChange sharesRefreshWrong)

/-- 'testamurlaw08.SharesAny': WHATEVER THE INPUT: true; the input reads as it did. -/
def sharesAnySpec : ChangeSpec := { name := "sharesAny", fn := fun _ => fun
  | [d1, d2, d3, d4, d5, d6] => { results := [.lit (.bool true)], args := [d1, d2, d3, d4, d5, d6] }
  | _ => none }
def sharesAnyRow : OpenClaim := { program := "ytillfbohengpaaa", sum := "dc29f9f5d7fc4d3f9e8fb049d675a1867785a9240d962a355cbe6dadd703709f", func := "testamur/testamurlaw08.SharesAny", spec := "sharesAny", unfollowed := true, recurses := true, apart := false }
def SharesAnySaid : Prop := sharesAnyRow.holds Try.pinned (OpenSpec.ofChange sharesAnySpec)

/-- ITS FALSE NEIGHBOUR: 'it returns false'. Refute it at one input. -/
def sharesAnyWrong : ChangeSpec := { name := "sharesAny", fn := fun _ => fun
  | [d1, d2, d3, d4, d5, d6] => { results := [.lit (.bool false)], args := [d1, d2, d3, d4, d5, d6] }
  | _ => none }
def SharesAnyWrongFalsely : Prop := sharesAnyRow.holds Try.pinned (OpenSpec.ofChange sharesAnyWrong)

/-- 'testamurlaw08.SharesSum': WHATEVER THE INPUT: true; the input reads as it did. -/
def sharesSumSpec : ChangeSpec := { name := "sharesSum", fn := fun _ => fun
  | [d1, d2, d3, d4, d5, d6] => { results := [.lit (.bool true)], args := [d1, d2, d3, d4, d5, d6] }
  | _ => none }
def sharesSumRow : OpenClaim := { program := "ytillfbohengpaaa", sum := "dc29f9f5d7fc4d3f9e8fb049d675a1867785a9240d962a355cbe6dadd703709f", func := "testamur/testamurlaw08.SharesSum", spec := "sharesSum", unfollowed := true, recurses := true, apart := false }
def SharesSumSaid : Prop := sharesSumRow.holds Try.pinned (OpenSpec.ofChange sharesSumSpec)

/-- ITS FALSE NEIGHBOUR: 'it returns false'. Refute it at one input. -/
def sharesSumWrong : ChangeSpec := { name := "sharesSum", fn := fun _ => fun
  | [d1, d2, d3, d4, d5, d6] => { results := [.lit (.bool false)], args := [d1, d2, d3, d4, d5, d6] }
  | _ => none }
def SharesSumWrongFalsely : Prop := sharesSumRow.holds Try.pinned (OpenSpec.ofChange sharesSumWrong)

/- THE SECOND FORM. 'bulk': how many values and letters a reading holds, each counted each time it is reached (what is shared counts as often as it is met; a slice's spare places count too). A statement '..UptoSaid' is the law's where the arguments, and the package variables that the reading takes, are together of bulk at most 1048576: NARROWER than '..Said'. Prove '..Said' where nothing that the law and all that it calls make is longer than what came in: it says more and counts as full. Else prove '..UptoSaid'. A law counts once. -/
mutual
def uptoBulk {H : Type} : DataW H → Nat
  | .lit (.string bytes) => bytes.length + 1
  | .lit _ => 1
  | .nil => 1
  | .ptr d => uptoBulk d + 1
  | .slice elems spare => uptoBulkAll elems + uptoBulkAll spare + 1
  | .agg parts => uptoBulkAll parts + 1
  | .iface _ d => uptoBulk d + 1
  | .map entries => uptoBulkEntries entries + 1
  | .held _ => 1
def uptoBulkAll {H : Type} : List (DataW H) → Nat
  | [] => 0
  | d :: r => uptoBulk d + uptoBulkAll r
def uptoBulkEntries {H : Type} : List (Lit × DataW H) → Nat
  | [] => 0
  | x :: r => uptoBulkEntry x + uptoBulkEntries r
def uptoBulkEntry {H : Type} : Lit × DataW H → Nat
  | (.string bytes, d) => bytes.length + uptoBulk d + 1
  | (_, d) => uptoBulk d + 1
 end
def uptoSmall : (H : Type) → List (DataW H) → Bool := fun _ ds => decide (uptoBulkAll ds ≤ 1048576)
def OpenSpec.upto (s : _root_.Go.ChangeSpec) : _root_.Go.OpenSpec := { _root_.Go.OpenSpec.ofChange s with cond := some uptoSmall }

/-- 'testamurlaw07.FieldMulSpec', WHERE WHAT IT READS IS OF BULK AT MOST 1048576: true; the input reads as it did. -/
def fieldMulSpecUptoRow : OpenClaim := { program := "ytillfbohengpaaa", sum := "dc29f9f5d7fc4d3f9e8fb049d675a1867785a9240d962a355cbe6dadd703709f", func := "testamur/testamurlaw07.FieldMulSpec", spec := "fieldMulSpec", unfollowed := true, recurses := true, apart := false, narrowed := true }
def FieldMulSpecUptoSaid : Prop := fieldMulSpecUptoRow.holds Try.pinned (OpenSpec.upto fieldMulSpecSpec)

/-- 'testamurlaw07.FieldAxioms', WHERE WHAT IT READS IS OF BULK AT MOST 1048576: true; the input reads as it did. -/
def fieldAxiomsUptoRow : OpenClaim := { program := "ytillfbohengpaaa", sum := "dc29f9f5d7fc4d3f9e8fb049d675a1867785a9240d962a355cbe6dadd703709f", func := "testamur/testamurlaw07.FieldAxioms", spec := "fieldAxioms", unfollowed := true, recurses := true, apart := false, narrowed := true }
def FieldAxiomsUptoSaid : Prop := fieldAxiomsUptoRow.holds Try.pinned (OpenSpec.upto fieldAxiomsSpec)

/-- 'testamurlaw07.FieldTwo', WHERE WHAT IT READS IS OF BULK AT MOST 1048576: true; the input reads as it did. -/
def fieldTwoUptoRow : OpenClaim := { program := "ytillfbohengpaaa", sum := "dc29f9f5d7fc4d3f9e8fb049d675a1867785a9240d962a355cbe6dadd703709f", func := "testamur/testamurlaw07.FieldTwo", spec := "fieldTwo", unfollowed := true, recurses := true, apart := false, narrowed := true }
def FieldTwoUptoSaid : Prop := fieldTwoUptoRow.holds Try.pinned (OpenSpec.upto fieldTwoSpec)

/-- 'testamurlaw07.FieldUnique', WHERE WHAT IT READS IS OF BULK AT MOST 1048576: true; the input reads as it did. -/
def fieldUniqueUptoRow : OpenClaim := { program := "ytillfbohengpaaa", sum := "dc29f9f5d7fc4d3f9e8fb049d675a1867785a9240d962a355cbe6dadd703709f", func := "testamur/testamurlaw07.FieldUnique", spec := "fieldUnique", unfollowed := true, recurses := true, apart := false, narrowed := true }
def FieldUniqueUptoSaid : Prop := fieldUniqueUptoRow.holds Try.pinned (OpenSpec.upto fieldUniqueSpec)

/-- 'testamurlaw07.FieldValues', WHERE WHAT IT READS IS OF BULK AT MOST 1048576: true; the input reads as it did. -/
def fieldValuesUptoRow : OpenClaim := { program := "ytillfbohengpaaa", sum := "dc29f9f5d7fc4d3f9e8fb049d675a1867785a9240d962a355cbe6dadd703709f", func := "testamur/testamurlaw07.FieldValues", spec := "fieldValues", unfollowed := true, recurses := true, apart := false, narrowed := true }
def FieldValuesUptoSaid : Prop := fieldValuesUptoRow.holds Try.pinned (OpenSpec.upto fieldValuesSpec)

/-- 'testamurlaw08.SharesSplitSpec', WHERE WHAT IT READS IS OF BULK AT MOST 1048576: true; the input reads as it did. -/
def sharesSplitSpecUptoRow : OpenClaim := { program := "ytillfbohengpaaa", sum := "dc29f9f5d7fc4d3f9e8fb049d675a1867785a9240d962a355cbe6dadd703709f", func := "testamur/testamurlaw08.SharesSplitSpec", spec := "sharesSplitSpec", unfollowed := true, recurses := true, apart := false, narrowed := true }
def SharesSplitSpecUptoSaid : Prop := sharesSplitSpecUptoRow.holds Try.pinned (OpenSpec.upto sharesSplitSpecSpec)

/-- 'testamurlaw08.SharesJoinSpec', WHERE WHAT IT READS IS OF BULK AT MOST 1048576: true; the input reads as it did. -/
def sharesJoinSpecUptoRow : OpenClaim := { program := "ytillfbohengpaaa", sum := "dc29f9f5d7fc4d3f9e8fb049d675a1867785a9240d962a355cbe6dadd703709f", func := "testamur/testamurlaw08.SharesJoinSpec", spec := "sharesJoinSpec", unfollowed := true, recurses := true, apart := false, narrowed := true }
def SharesJoinSpecUptoSaid : Prop := sharesJoinSpecUptoRow.holds Try.pinned (OpenSpec.upto sharesJoinSpecSpec)

/-- 'testamurlaw08.SharesExplainSpec', WHERE WHAT IT READS IS OF BULK AT MOST 1048576: true; the input reads as it did. -/
def sharesExplainSpecUptoRow : OpenClaim := { program := "ytillfbohengpaaa", sum := "dc29f9f5d7fc4d3f9e8fb049d675a1867785a9240d962a355cbe6dadd703709f", func := "testamur/testamurlaw08.SharesExplainSpec", spec := "sharesExplainSpec", unfollowed := true, recurses := true, apart := false, narrowed := true }
def SharesExplainSpecUptoSaid : Prop := sharesExplainSpecUptoRow.holds Try.pinned (OpenSpec.upto sharesExplainSpecSpec)

/-- 'testamurlaw08.SharesHide', WHERE WHAT IT READS IS OF BULK AT MOST 1048576: true; the input reads as it did. -/
def sharesHideUptoRow : OpenClaim := { program := "ytillfbohengpaaa", sum := "dc29f9f5d7fc4d3f9e8fb049d675a1867785a9240d962a355cbe6dadd703709f", func := "testamur/testamurlaw08.SharesHide", spec := "sharesHide", unfollowed := true, recurses := true, apart := false, narrowed := true }
def SharesHideUptoSaid : Prop := sharesHideUptoRow.holds Try.pinned (OpenSpec.upto sharesHideSpec)

/-- 'testamurlaw08.SharesRefresh', WHERE WHAT IT READS IS OF BULK AT MOST 1048576: true; the input reads as it did. -/
def sharesRefreshUptoRow : OpenClaim := { program := "ytillfbohengpaaa", sum := "dc29f9f5d7fc4d3f9e8fb049d675a1867785a9240d962a355cbe6dadd703709f", func := "testamur/testamurlaw08.SharesRefresh", spec := "sharesRefresh", unfollowed := true, recurses := true, apart := false, narrowed := true }
def SharesRefreshUptoSaid : Prop := sharesRefreshUptoRow.holds Try.pinned (OpenSpec.upto sharesRefreshSpec)

/-- 'testamurlaw08.SharesAny', WHERE WHAT IT READS IS OF BULK AT MOST 1048576: true; the input reads as it did. -/
def sharesAnyUptoRow : OpenClaim := { program := "ytillfbohengpaaa", sum := "dc29f9f5d7fc4d3f9e8fb049d675a1867785a9240d962a355cbe6dadd703709f", func := "testamur/testamurlaw08.SharesAny", spec := "sharesAny", unfollowed := true, recurses := true, apart := false, narrowed := true }
def SharesAnyUptoSaid : Prop := sharesAnyUptoRow.holds Try.pinned (OpenSpec.upto sharesAnySpec)

/-- 'testamurlaw08.SharesSum', WHERE WHAT IT READS IS OF BULK AT MOST 1048576: true; the input reads as it did. -/
def sharesSumUptoRow : OpenClaim := { program := "ytillfbohengpaaa", sum := "dc29f9f5d7fc4d3f9e8fb049d675a1867785a9240d962a355cbe6dadd703709f", func := "testamur/testamurlaw08.SharesSum", spec := "sharesSum", unfollowed := true, recurses := true, apart := false, narrowed := true }
def SharesSumUptoSaid : Prop := sharesSumUptoRow.holds Try.pinned (OpenSpec.upto sharesSumSpec)

end Rows
end Go.Proofs.Ytillfbohengpaaa
