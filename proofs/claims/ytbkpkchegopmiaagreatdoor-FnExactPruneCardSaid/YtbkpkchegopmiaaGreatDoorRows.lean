/-
  NARROWER THAN 'FOR EVERY INPUT', by the rows' own cells (each row's printed sentence says how): FnExactMayRaise: laid · FnExactKindsOf: laid · FnExactRaisePoints: laid · FnExactSeenNodes: laid · FnExactSolve: laid · FnExactCaught: laid · FnExactDeadNodes: laid · FnExactDeadFuns: laid · FnExactPrune: laid · FnExactCallGraph: laid · FnExactTargets: laid · FnExactFunGraph: laid.
  DERIVED. THE GIVEN ROWS OF THIS SEAT. 12 by the template 'for every input the law returns true; each argument reads behind the call as it read before'; 0 by the template 'total and deterministic' (their statements: YtbkpkchegopmiaaGreatDoorTotals.lean).
  GIVEN WITH THE SEED: the statements are not yours to turn. If you find one false, say at which input.
  Laid BY PROGRAM, IN A SANDBOX (cutbox-rows.mjs): the forced cells as the released guide's own fill.sh prints them over the translation 802a0d7d472f7aa4… (all of the seat's roots in one cut). By AI agents, Wed Nov 11 2026. No macro, syntax, notation, axiom, sorry.
-/
import Derived.Test.YtbkpkchegopmiaaGreatDoorChecked
import GoSem.PinnedTables
import GoSem.Claim
import GoSem.ClaimJoined
import GoSem.ClaimMapViews
import Derived.JoinedTies
import Derived.KernelRfl
namespace Go.Proofs.YtbkpkchegopmiaaGreatDoor
/- THE CELL 'sum', in the pinned program and in every row, IS THE sha256 OF THE DUMP (.gsa) THAT YtbkpkchegopmiaaGreatDoorProg.lean LOADS. Nothing in Lean hashes anything: it is a label: what it is worth is what the hold of that sum in a sandbox is worth. -/
noncomputable def Tryz.pinned : Pinned := { name := "ytbkpkchegopmiaagreatdoor", sum := "802a0d7d472f7aa4d982d774c34d04cb3dcc19dcca125ceab27dffaa32e75307", checked := Tryz.checked }
namespace Rows
def none {H : Type} : Left H := { results := [], args := [] }

/- WHAT THE LISTED PACKAGE-LEVEL VARIABLES READ AS WHEN THE CALL BEGINS. Each datum BY PROGRAM (the guide's laid-datum.mjs) off the statement by which the dump's own 'gosem.cut.vars' lays the variable. In a bare row this is a premise. The card (YtbkpkchegopmiaaGreatDoorCards.lean) ties it to the program's text. -/
def laid_unicode_utf8_acceptRanges {H : Type} : DataW H := .agg [.agg [.lit (.int .u8 128), .lit (.int .u8 191)], .agg [.lit (.int .u8 160), .lit (.int .u8 191)], .agg [.lit (.int .u8 128), .lit (.int .u8 159)], .agg [.lit (.int .u8 144), .lit (.int .u8 191)], .agg [.lit (.int .u8 128), .lit (.int .u8 143)], .agg [.lit (.int .u8 0), .lit (.int .u8 0)], .agg [.lit (.int .u8 0), .lit (.int .u8 0)], .agg [.lit (.int .u8 0), .lit (.int .u8 0)], .agg [.lit (.int .u8 0), .lit (.int .u8 0)], .agg [.lit (.int .u8 0), .lit (.int .u8 0)], .agg [.lit (.int .u8 0), .lit (.int .u8 0)], .agg [.lit (.int .u8 0), .lit (.int .u8 0)], .agg [.lit (.int .u8 0), .lit (.int .u8 0)], .agg [.lit (.int .u8 0), .lit (.int .u8 0)], .agg [.lit (.int .u8 0), .lit (.int .u8 0)], .agg [.lit (.int .u8 0), .lit (.int .u8 0)]]
/-- One of Go's own tables, pinned by name: the form's constant. -/
def laid_unicode_utf8_first : DataW Unit := Go.Pinned.utf8First

/-- 'laws.FnExactMayRaise': WHATEVER THE INPUT: true; the input reads as it did. -/
def fnExactMayRaiseSpec : ChangeSpec := { name := "fnExactMayRaise", fn := fun _ => fun
  | [d1, d2] => { results := [.lit (.bool true)], args := [d1, d2] }
  | _ => none }
def fnExactMayRaiseRow : OpenClaim := { program := "ytbkpkchegopmiaagreatdoor", sum := "802a0d7d472f7aa4d982d774c34d04cb3dcc19dcca125ceab27dffaa32e75307", func := "loop.example/g01292/laws.FnExactMayRaise", spec := "fnExactMayRaise", inPlace := ["internal/bytealg.CountString", "internal/bytealg.IndexByteString", "internal/bytealg.IndexString"], unfollowed := true, recurses := true, named := ["unicode/utf8.first", "unicode/utf8.acceptRanges", "internal/bytealg.MaxLen"], apart := false, laid := [("unicode/utf8.acceptRanges", laid_unicode_utf8_acceptRanges), ("unicode/utf8.first", laid_unicode_utf8_first)] }
def FnExactMayRaiseSaid : Prop := fnExactMayRaiseRow.holds Tryz.pinned (OpenSpec.ofChange fnExactMayRaiseSpec)

/-- ITS FALSE NEIGHBOUR: 'it returns false'. Refute it at one input. -/
def fnExactMayRaiseWrong : ChangeSpec := { name := "fnExactMayRaise", fn := fun _ => fun
  | [d1, d2] => { results := [.lit (.bool false)], args := [d1, d2] }
  | _ => none }
def FnExactMayRaiseWrongFalsely : Prop := fnExactMayRaiseRow.holds Tryz.pinned (OpenSpec.ofChange fnExactMayRaiseWrong)

/-- 'laws.FnExactKindsOf': WHATEVER THE INPUT: true; the input reads as it did. -/
def fnExactKindsOfSpec : ChangeSpec := { name := "fnExactKindsOf", fn := fun _ => fun
  | [d1, d2, d3] => { results := [.lit (.bool true)], args := [d1, d2, d3] }
  | _ => none }
def fnExactKindsOfRow : OpenClaim := { program := "ytbkpkchegopmiaagreatdoor", sum := "802a0d7d472f7aa4d982d774c34d04cb3dcc19dcca125ceab27dffaa32e75307", func := "loop.example/g01292/laws.FnExactKindsOf", spec := "fnExactKindsOf", inPlace := ["internal/bytealg.CountString", "internal/bytealg.IndexByteString", "internal/bytealg.IndexString"], unfollowed := true, recurses := true, named := ["unicode/utf8.first", "unicode/utf8.acceptRanges", "internal/bytealg.MaxLen"], apart := false, laid := [("unicode/utf8.acceptRanges", laid_unicode_utf8_acceptRanges), ("unicode/utf8.first", laid_unicode_utf8_first)] }
def FnExactKindsOfSaid : Prop := fnExactKindsOfRow.holds Tryz.pinned (OpenSpec.ofChange fnExactKindsOfSpec)

/-- ITS FALSE NEIGHBOUR: 'it returns false'. Refute it at one input. -/
def fnExactKindsOfWrong : ChangeSpec := { name := "fnExactKindsOf", fn := fun _ => fun
  | [d1, d2, d3] => { results := [.lit (.bool false)], args := [d1, d2, d3] }
  | _ => none }
def FnExactKindsOfWrongFalsely : Prop := fnExactKindsOfRow.holds Tryz.pinned (OpenSpec.ofChange fnExactKindsOfWrong)

/-- 'laws.FnExactRaisePoints': WHATEVER THE INPUT: true; the input reads as it did. -/
def fnExactRaisePointsSpec : ChangeSpec := { name := "fnExactRaisePoints", fn := fun _ => fun
  | [d1, d2] => { results := [.lit (.bool true)], args := [d1, d2] }
  | _ => none }
def fnExactRaisePointsRow : OpenClaim := { program := "ytbkpkchegopmiaagreatdoor", sum := "802a0d7d472f7aa4d982d774c34d04cb3dcc19dcca125ceab27dffaa32e75307", func := "loop.example/g01292/laws.FnExactRaisePoints", spec := "fnExactRaisePoints", inPlace := ["internal/bytealg.CountString", "internal/bytealg.IndexByteString", "internal/bytealg.IndexString"], unfollowed := true, recurses := true, named := ["unicode/utf8.first", "unicode/utf8.acceptRanges", "internal/bytealg.MaxLen"], apart := false, laid := [("unicode/utf8.acceptRanges", laid_unicode_utf8_acceptRanges), ("unicode/utf8.first", laid_unicode_utf8_first)] }
def FnExactRaisePointsSaid : Prop := fnExactRaisePointsRow.holds Tryz.pinned (OpenSpec.ofChange fnExactRaisePointsSpec)

/-- ITS FALSE NEIGHBOUR: 'it returns false'. Refute it at one input. -/
def fnExactRaisePointsWrong : ChangeSpec := { name := "fnExactRaisePoints", fn := fun _ => fun
  | [d1, d2] => { results := [.lit (.bool false)], args := [d1, d2] }
  | _ => none }
def FnExactRaisePointsWrongFalsely : Prop := fnExactRaisePointsRow.holds Tryz.pinned (OpenSpec.ofChange fnExactRaisePointsWrong)

/-- 'laws.FnExactSeenNodes': WHATEVER THE INPUT: true; the input reads as it did. -/
def fnExactSeenNodesSpec : ChangeSpec := { name := "fnExactSeenNodes", fn := fun _ => fun
  | [d1, d2] => { results := [.lit (.bool true)], args := [d1, d2] }
  | _ => none }
def fnExactSeenNodesRow : OpenClaim := { program := "ytbkpkchegopmiaagreatdoor", sum := "802a0d7d472f7aa4d982d774c34d04cb3dcc19dcca125ceab27dffaa32e75307", func := "loop.example/g01292/laws.FnExactSeenNodes", spec := "fnExactSeenNodes", inPlace := ["internal/bytealg.CountString", "internal/bytealg.IndexByteString", "internal/bytealg.IndexString"], unfollowed := true, recurses := true, named := ["unicode/utf8.first", "unicode/utf8.acceptRanges", "internal/bytealg.MaxLen"], apart := false, laid := [("unicode/utf8.acceptRanges", laid_unicode_utf8_acceptRanges), ("unicode/utf8.first", laid_unicode_utf8_first)] }
def FnExactSeenNodesSaid : Prop := fnExactSeenNodesRow.holds Tryz.pinned (OpenSpec.ofChange fnExactSeenNodesSpec)

/-- ITS FALSE NEIGHBOUR: 'it returns false'. Refute it at one input. -/
def fnExactSeenNodesWrong : ChangeSpec := { name := "fnExactSeenNodes", fn := fun _ => fun
  | [d1, d2] => { results := [.lit (.bool false)], args := [d1, d2] }
  | _ => none }
def FnExactSeenNodesWrongFalsely : Prop := fnExactSeenNodesRow.holds Tryz.pinned (OpenSpec.ofChange fnExactSeenNodesWrong)

/-- 'laws.FnExactSolve': WHATEVER THE INPUT: true; the input reads as it did. -/
def fnExactSolveSpec : ChangeSpec := { name := "fnExactSolve", fn := fun _ => fun
  | [d1, d2] => { results := [.lit (.bool true)], args := [d1, d2] }
  | _ => none }
def fnExactSolveRow : OpenClaim := { program := "ytbkpkchegopmiaagreatdoor", sum := "802a0d7d472f7aa4d982d774c34d04cb3dcc19dcca125ceab27dffaa32e75307", func := "loop.example/g01292/laws.FnExactSolve", spec := "fnExactSolve", inPlace := ["internal/bytealg.CountString", "internal/bytealg.IndexByteString", "internal/bytealg.IndexString"], unfollowed := true, recurses := true, named := ["unicode/utf8.first", "unicode/utf8.acceptRanges", "internal/bytealg.MaxLen"], apart := false, laid := [("unicode/utf8.acceptRanges", laid_unicode_utf8_acceptRanges), ("unicode/utf8.first", laid_unicode_utf8_first)] }
def FnExactSolveSaid : Prop := fnExactSolveRow.holds Tryz.pinned (OpenSpec.ofChange fnExactSolveSpec)

/-- ITS FALSE NEIGHBOUR: 'it returns false'. Refute it at one input. -/
def fnExactSolveWrong : ChangeSpec := { name := "fnExactSolve", fn := fun _ => fun
  | [d1, d2] => { results := [.lit (.bool false)], args := [d1, d2] }
  | _ => none }
def FnExactSolveWrongFalsely : Prop := fnExactSolveRow.holds Tryz.pinned (OpenSpec.ofChange fnExactSolveWrong)

/-- 'laws.FnExactCaught': WHATEVER THE INPUT: true; the input reads as it did. -/
def fnExactCaughtSpec : ChangeSpec := { name := "fnExactCaught", fn := fun _ => fun
  | [d1, d2] => { results := [.lit (.bool true)], args := [d1, d2] }
  | _ => none }
def fnExactCaughtRow : OpenClaim := { program := "ytbkpkchegopmiaagreatdoor", sum := "802a0d7d472f7aa4d982d774c34d04cb3dcc19dcca125ceab27dffaa32e75307", func := "loop.example/g01292/laws.FnExactCaught", spec := "fnExactCaught", inPlace := ["internal/bytealg.CountString", "internal/bytealg.IndexByteString", "internal/bytealg.IndexString"], unfollowed := true, recurses := true, named := ["unicode/utf8.first", "unicode/utf8.acceptRanges", "internal/bytealg.MaxLen"], apart := false, laid := [("unicode/utf8.acceptRanges", laid_unicode_utf8_acceptRanges), ("unicode/utf8.first", laid_unicode_utf8_first)] }
def FnExactCaughtSaid : Prop := fnExactCaughtRow.holds Tryz.pinned (OpenSpec.ofChange fnExactCaughtSpec)

/-- ITS FALSE NEIGHBOUR: 'it returns false'. Refute it at one input. -/
def fnExactCaughtWrong : ChangeSpec := { name := "fnExactCaught", fn := fun _ => fun
  | [d1, d2] => { results := [.lit (.bool false)], args := [d1, d2] }
  | _ => none }
def FnExactCaughtWrongFalsely : Prop := fnExactCaughtRow.holds Tryz.pinned (OpenSpec.ofChange fnExactCaughtWrong)

/-- 'laws.FnExactDeadNodes': WHATEVER THE INPUT: true; the input reads as it did. -/
def fnExactDeadNodesSpec : ChangeSpec := { name := "fnExactDeadNodes", fn := fun _ => fun
  | [d1, d2] => { results := [.lit (.bool true)], args := [d1, d2] }
  | _ => none }
def fnExactDeadNodesRow : OpenClaim := { program := "ytbkpkchegopmiaagreatdoor", sum := "802a0d7d472f7aa4d982d774c34d04cb3dcc19dcca125ceab27dffaa32e75307", func := "loop.example/g01292/laws.FnExactDeadNodes", spec := "fnExactDeadNodes", inPlace := ["internal/bytealg.CountString", "internal/bytealg.IndexByteString", "internal/bytealg.IndexString"], unfollowed := true, recurses := true, named := ["unicode/utf8.first", "unicode/utf8.acceptRanges", "internal/bytealg.MaxLen"], apart := false, laid := [("unicode/utf8.acceptRanges", laid_unicode_utf8_acceptRanges), ("unicode/utf8.first", laid_unicode_utf8_first)] }
def FnExactDeadNodesSaid : Prop := fnExactDeadNodesRow.holds Tryz.pinned (OpenSpec.ofChange fnExactDeadNodesSpec)

/-- ITS FALSE NEIGHBOUR: 'it returns false'. Refute it at one input. -/
def fnExactDeadNodesWrong : ChangeSpec := { name := "fnExactDeadNodes", fn := fun _ => fun
  | [d1, d2] => { results := [.lit (.bool false)], args := [d1, d2] }
  | _ => none }
def FnExactDeadNodesWrongFalsely : Prop := fnExactDeadNodesRow.holds Tryz.pinned (OpenSpec.ofChange fnExactDeadNodesWrong)

/-- 'laws.FnExactDeadFuns': WHATEVER THE INPUT: true; the input reads as it did. -/
def fnExactDeadFunsSpec : ChangeSpec := { name := "fnExactDeadFuns", fn := fun _ => fun
  | [d1, d2] => { results := [.lit (.bool true)], args := [d1, d2] }
  | _ => none }
def fnExactDeadFunsRow : OpenClaim := { program := "ytbkpkchegopmiaagreatdoor", sum := "802a0d7d472f7aa4d982d774c34d04cb3dcc19dcca125ceab27dffaa32e75307", func := "loop.example/g01292/laws.FnExactDeadFuns", spec := "fnExactDeadFuns", inPlace := ["internal/bytealg.CountString", "internal/bytealg.IndexByteString", "internal/bytealg.IndexString"], unfollowed := true, recurses := true, named := ["unicode/utf8.first", "unicode/utf8.acceptRanges", "internal/bytealg.MaxLen"], apart := false, laid := [("unicode/utf8.acceptRanges", laid_unicode_utf8_acceptRanges), ("unicode/utf8.first", laid_unicode_utf8_first)] }
def FnExactDeadFunsSaid : Prop := fnExactDeadFunsRow.holds Tryz.pinned (OpenSpec.ofChange fnExactDeadFunsSpec)

/-- ITS FALSE NEIGHBOUR: 'it returns false'. Refute it at one input. -/
def fnExactDeadFunsWrong : ChangeSpec := { name := "fnExactDeadFuns", fn := fun _ => fun
  | [d1, d2] => { results := [.lit (.bool false)], args := [d1, d2] }
  | _ => none }
def FnExactDeadFunsWrongFalsely : Prop := fnExactDeadFunsRow.holds Tryz.pinned (OpenSpec.ofChange fnExactDeadFunsWrong)

/-- 'laws.FnExactPrune': WHATEVER THE INPUT: true; the input reads as it did. -/
def fnExactPruneSpec : ChangeSpec := { name := "fnExactPrune", fn := fun _ => fun
  | [d1, d2] => { results := [.lit (.bool true)], args := [d1, d2] }
  | _ => none }
def fnExactPruneRow : OpenClaim := { program := "ytbkpkchegopmiaagreatdoor", sum := "802a0d7d472f7aa4d982d774c34d04cb3dcc19dcca125ceab27dffaa32e75307", func := "loop.example/g01292/laws.FnExactPrune", spec := "fnExactPrune", inPlace := ["internal/bytealg.CountString", "internal/bytealg.IndexByteString", "internal/bytealg.IndexString"], unfollowed := true, recurses := true, named := ["unicode/utf8.first", "unicode/utf8.acceptRanges", "internal/bytealg.MaxLen"], apart := false, laid := [("unicode/utf8.acceptRanges", laid_unicode_utf8_acceptRanges), ("unicode/utf8.first", laid_unicode_utf8_first)] }
def FnExactPruneSaid : Prop := fnExactPruneRow.holds Tryz.pinned (OpenSpec.ofChange fnExactPruneSpec)

/-- ITS FALSE NEIGHBOUR: 'it returns false'. Refute it at one input. -/
def fnExactPruneWrong : ChangeSpec := { name := "fnExactPrune", fn := fun _ => fun
  | [d1, d2] => { results := [.lit (.bool false)], args := [d1, d2] }
  | _ => none }
def FnExactPruneWrongFalsely : Prop := fnExactPruneRow.holds Tryz.pinned (OpenSpec.ofChange fnExactPruneWrong)

/-- 'laws.FnExactCallGraph': WHATEVER THE INPUT: true; the input reads as it did. -/
def fnExactCallGraphSpec : ChangeSpec := { name := "fnExactCallGraph", fn := fun _ => fun
  | [d1, d2] => { results := [.lit (.bool true)], args := [d1, d2] }
  | _ => none }
def fnExactCallGraphRow : OpenClaim := { program := "ytbkpkchegopmiaagreatdoor", sum := "802a0d7d472f7aa4d982d774c34d04cb3dcc19dcca125ceab27dffaa32e75307", func := "loop.example/g01292/laws.FnExactCallGraph", spec := "fnExactCallGraph", inPlace := ["internal/bytealg.CountString", "internal/bytealg.IndexByteString", "internal/bytealg.IndexString", "internal/reflectlite.ValueOf", "internal/reflectlite.Swapper", "(internal/reflectlite.Value).Len"], unfollowed := true, recurses := true, named := ["unicode/utf8.first", "unicode/utf8.acceptRanges", "internal/bytealg.MaxLen"], apart := false, laid := [("unicode/utf8.acceptRanges", laid_unicode_utf8_acceptRanges), ("unicode/utf8.first", laid_unicode_utf8_first)] }
def FnExactCallGraphSaid : Prop := fnExactCallGraphRow.holds Tryz.pinned (OpenSpec.ofChange fnExactCallGraphSpec)

/-- ITS FALSE NEIGHBOUR: 'it returns false'. Refute it at one input. -/
def fnExactCallGraphWrong : ChangeSpec := { name := "fnExactCallGraph", fn := fun _ => fun
  | [d1, d2] => { results := [.lit (.bool false)], args := [d1, d2] }
  | _ => none }
def FnExactCallGraphWrongFalsely : Prop := fnExactCallGraphRow.holds Tryz.pinned (OpenSpec.ofChange fnExactCallGraphWrong)

/-- 'laws.FnExactTargets': WHATEVER THE INPUT: true; the input reads as it did. -/
def fnExactTargetsSpec : ChangeSpec := { name := "fnExactTargets", fn := fun _ => fun
  | [d1, d2, d3] => { results := [.lit (.bool true)], args := [d1, d2, d3] }
  | _ => none }
def fnExactTargetsRow : OpenClaim := { program := "ytbkpkchegopmiaagreatdoor", sum := "802a0d7d472f7aa4d982d774c34d04cb3dcc19dcca125ceab27dffaa32e75307", func := "loop.example/g01292/laws.FnExactTargets", spec := "fnExactTargets", inPlace := ["internal/bytealg.CountString", "internal/bytealg.IndexByteString", "internal/bytealg.IndexString", "internal/reflectlite.ValueOf", "internal/reflectlite.Swapper", "(internal/reflectlite.Value).Len"], unfollowed := true, recurses := true, named := ["unicode/utf8.first", "unicode/utf8.acceptRanges", "internal/bytealg.MaxLen"], apart := false, laid := [("unicode/utf8.acceptRanges", laid_unicode_utf8_acceptRanges), ("unicode/utf8.first", laid_unicode_utf8_first)] }
def FnExactTargetsSaid : Prop := fnExactTargetsRow.holds Tryz.pinned (OpenSpec.ofChange fnExactTargetsSpec)

/-- ITS FALSE NEIGHBOUR: 'it returns false'. Refute it at one input. -/
def fnExactTargetsWrong : ChangeSpec := { name := "fnExactTargets", fn := fun _ => fun
  | [d1, d2, d3] => { results := [.lit (.bool false)], args := [d1, d2, d3] }
  | _ => none }
def FnExactTargetsWrongFalsely : Prop := fnExactTargetsRow.holds Tryz.pinned (OpenSpec.ofChange fnExactTargetsWrong)

/-- 'laws.FnExactFunGraph': WHATEVER THE INPUT: true; the input reads as it did. -/
def fnExactFunGraphSpec : ChangeSpec := { name := "fnExactFunGraph", fn := fun _ => fun
  | [d1, d2] => { results := [.lit (.bool true)], args := [d1, d2] }
  | _ => none }
def fnExactFunGraphRow : OpenClaim := { program := "ytbkpkchegopmiaagreatdoor", sum := "802a0d7d472f7aa4d982d774c34d04cb3dcc19dcca125ceab27dffaa32e75307", func := "loop.example/g01292/laws.FnExactFunGraph", spec := "fnExactFunGraph", inPlace := ["internal/bytealg.CountString", "internal/bytealg.IndexByteString", "internal/bytealg.IndexString", "internal/reflectlite.ValueOf", "internal/reflectlite.Swapper", "(internal/reflectlite.Value).Len"], unfollowed := true, recurses := true, named := ["unicode/utf8.first", "unicode/utf8.acceptRanges", "internal/bytealg.MaxLen"], apart := false, laid := [("unicode/utf8.acceptRanges", laid_unicode_utf8_acceptRanges), ("unicode/utf8.first", laid_unicode_utf8_first)] }
def FnExactFunGraphSaid : Prop := fnExactFunGraphRow.holds Tryz.pinned (OpenSpec.ofChange fnExactFunGraphSpec)

/-- ITS FALSE NEIGHBOUR: 'it returns false'. Refute it at one input. -/
def fnExactFunGraphWrong : ChangeSpec := { name := "fnExactFunGraph", fn := fun _ => fun
  | [d1, d2] => { results := [.lit (.bool false)], args := [d1, d2] }
  | _ => none }
def FnExactFunGraphWrongFalsely : Prop := fnExactFunGraphRow.holds Tryz.pinned (OpenSpec.ofChange fnExactFunGraphWrong)

/- THE SECOND FORM. 'bulk': how many values and letters a reading holds, each counted each time it is reached (what is shared counts as often as it is met; a slice's spare places count too). A statement '..UptoSaid' is the law's where the arguments, and the package variables that the reading takes, are together of bulk at most 1048576: NARROWER than '..Said'. Prove '..Said' where nothing that the law and all that it calls make is longer than what came in: it says more and counts as full. Else prove '..UptoSaid'. A law counts once. -/
mutual
def uptoBulk {H : Type} : DataW H → Nat
  | .lit (.string bytes) => bytes.length + 1
  | .lit _ => 1
  | .nil => 1
  | .ptr d => uptoBulk d + 1
  | .slice elems spare => uptoBulkAll elems + uptoBulkAll spare + 1
  | .agg parts => uptoBulkAll parts + 1
  | .iface _ d => uptoBulk d + 1
  | .map entries => uptoBulkEntries entries + 1
  | .held _ => 1
def uptoBulkAll {H : Type} : List (DataW H) → Nat
  | [] => 0
  | d :: r => uptoBulk d + uptoBulkAll r
def uptoBulkEntries {H : Type} : List (Lit × DataW H) → Nat
  | [] => 0
  | x :: r => uptoBulkEntry x + uptoBulkEntries r
def uptoBulkEntry {H : Type} : Lit × DataW H → Nat
  | (.string bytes, d) => bytes.length + uptoBulk d + 1
  | (_, d) => uptoBulk d + 1
 end
def uptoSmall : (H : Type) → List (DataW H) → Bool := fun _ ds => decide (uptoBulkAll ds ≤ 1048576)
def OpenSpec.upto (s : _root_.Go.ChangeSpec) : _root_.Go.OpenSpec := { _root_.Go.OpenSpec.ofChange s with cond := some uptoSmall }

/-- 'laws.FnExactMayRaise', WHERE WHAT IT READS IS OF BULK AT MOST 1048576: true; the input reads as it did. -/
def fnExactMayRaiseUptoRow : OpenClaim := { program := "ytbkpkchegopmiaagreatdoor", sum := "802a0d7d472f7aa4d982d774c34d04cb3dcc19dcca125ceab27dffaa32e75307", func := "loop.example/g01292/laws.FnExactMayRaise", spec := "fnExactMayRaise", inPlace := ["internal/bytealg.CountString", "internal/bytealg.IndexByteString", "internal/bytealg.IndexString"], unfollowed := true, recurses := true, named := ["unicode/utf8.first", "unicode/utf8.acceptRanges", "internal/bytealg.MaxLen"], apart := false, laid := [("unicode/utf8.acceptRanges", laid_unicode_utf8_acceptRanges), ("unicode/utf8.first", laid_unicode_utf8_first)], narrowed := true }
def FnExactMayRaiseUptoSaid : Prop := fnExactMayRaiseUptoRow.holds Tryz.pinned (OpenSpec.upto fnExactMayRaiseSpec)

/-- 'laws.FnExactKindsOf', WHERE WHAT IT READS IS OF BULK AT MOST 1048576: true; the input reads as it did. -/
def fnExactKindsOfUptoRow : OpenClaim := { program := "ytbkpkchegopmiaagreatdoor", sum := "802a0d7d472f7aa4d982d774c34d04cb3dcc19dcca125ceab27dffaa32e75307", func := "loop.example/g01292/laws.FnExactKindsOf", spec := "fnExactKindsOf", inPlace := ["internal/bytealg.CountString", "internal/bytealg.IndexByteString", "internal/bytealg.IndexString"], unfollowed := true, recurses := true, named := ["unicode/utf8.first", "unicode/utf8.acceptRanges", "internal/bytealg.MaxLen"], apart := false, laid := [("unicode/utf8.acceptRanges", laid_unicode_utf8_acceptRanges), ("unicode/utf8.first", laid_unicode_utf8_first)], narrowed := true }
def FnExactKindsOfUptoSaid : Prop := fnExactKindsOfUptoRow.holds Tryz.pinned (OpenSpec.upto fnExactKindsOfSpec)

/-- 'laws.FnExactRaisePoints', WHERE WHAT IT READS IS OF BULK AT MOST 1048576: true; the input reads as it did. -/
def fnExactRaisePointsUptoRow : OpenClaim := { program := "ytbkpkchegopmiaagreatdoor", sum := "802a0d7d472f7aa4d982d774c34d04cb3dcc19dcca125ceab27dffaa32e75307", func := "loop.example/g01292/laws.FnExactRaisePoints", spec := "fnExactRaisePoints", inPlace := ["internal/bytealg.CountString", "internal/bytealg.IndexByteString", "internal/bytealg.IndexString"], unfollowed := true, recurses := true, named := ["unicode/utf8.first", "unicode/utf8.acceptRanges", "internal/bytealg.MaxLen"], apart := false, laid := [("unicode/utf8.acceptRanges", laid_unicode_utf8_acceptRanges), ("unicode/utf8.first", laid_unicode_utf8_first)], narrowed := true }
def FnExactRaisePointsUptoSaid : Prop := fnExactRaisePointsUptoRow.holds Tryz.pinned (OpenSpec.upto fnExactRaisePointsSpec)

/-- 'laws.FnExactSeenNodes', WHERE WHAT IT READS IS OF BULK AT MOST 1048576: true; the input reads as it did. -/
def fnExactSeenNodesUptoRow : OpenClaim := { program := "ytbkpkchegopmiaagreatdoor", sum := "802a0d7d472f7aa4d982d774c34d04cb3dcc19dcca125ceab27dffaa32e75307", func := "loop.example/g01292/laws.FnExactSeenNodes", spec := "fnExactSeenNodes", inPlace := ["internal/bytealg.CountString", "internal/bytealg.IndexByteString", "internal/bytealg.IndexString"], unfollowed := true, recurses := true, named := ["unicode/utf8.first", "unicode/utf8.acceptRanges", "internal/bytealg.MaxLen"], apart := false, laid := [("unicode/utf8.acceptRanges", laid_unicode_utf8_acceptRanges), ("unicode/utf8.first", laid_unicode_utf8_first)], narrowed := true }
def FnExactSeenNodesUptoSaid : Prop := fnExactSeenNodesUptoRow.holds Tryz.pinned (OpenSpec.upto fnExactSeenNodesSpec)

/-- 'laws.FnExactSolve', WHERE WHAT IT READS IS OF BULK AT MOST 1048576: true; the input reads as it did. -/
def fnExactSolveUptoRow : OpenClaim := { program := "ytbkpkchegopmiaagreatdoor", sum := "802a0d7d472f7aa4d982d774c34d04cb3dcc19dcca125ceab27dffaa32e75307", func := "loop.example/g01292/laws.FnExactSolve", spec := "fnExactSolve", inPlace := ["internal/bytealg.CountString", "internal/bytealg.IndexByteString", "internal/bytealg.IndexString"], unfollowed := true, recurses := true, named := ["unicode/utf8.first", "unicode/utf8.acceptRanges", "internal/bytealg.MaxLen"], apart := false, laid := [("unicode/utf8.acceptRanges", laid_unicode_utf8_acceptRanges), ("unicode/utf8.first", laid_unicode_utf8_first)], narrowed := true }
def FnExactSolveUptoSaid : Prop := fnExactSolveUptoRow.holds Tryz.pinned (OpenSpec.upto fnExactSolveSpec)

/-- 'laws.FnExactCaught', WHERE WHAT IT READS IS OF BULK AT MOST 1048576: true; the input reads as it did. -/
def fnExactCaughtUptoRow : OpenClaim := { program := "ytbkpkchegopmiaagreatdoor", sum := "802a0d7d472f7aa4d982d774c34d04cb3dcc19dcca125ceab27dffaa32e75307", func := "loop.example/g01292/laws.FnExactCaught", spec := "fnExactCaught", inPlace := ["internal/bytealg.CountString", "internal/bytealg.IndexByteString", "internal/bytealg.IndexString"], unfollowed := true, recurses := true, named := ["unicode/utf8.first", "unicode/utf8.acceptRanges", "internal/bytealg.MaxLen"], apart := false, laid := [("unicode/utf8.acceptRanges", laid_unicode_utf8_acceptRanges), ("unicode/utf8.first", laid_unicode_utf8_first)], narrowed := true }
def FnExactCaughtUptoSaid : Prop := fnExactCaughtUptoRow.holds Tryz.pinned (OpenSpec.upto fnExactCaughtSpec)

/-- 'laws.FnExactDeadNodes', WHERE WHAT IT READS IS OF BULK AT MOST 1048576: true; the input reads as it did. -/
def fnExactDeadNodesUptoRow : OpenClaim := { program := "ytbkpkchegopmiaagreatdoor", sum := "802a0d7d472f7aa4d982d774c34d04cb3dcc19dcca125ceab27dffaa32e75307", func := "loop.example/g01292/laws.FnExactDeadNodes", spec := "fnExactDeadNodes", inPlace := ["internal/bytealg.CountString", "internal/bytealg.IndexByteString", "internal/bytealg.IndexString"], unfollowed := true, recurses := true, named := ["unicode/utf8.first", "unicode/utf8.acceptRanges", "internal/bytealg.MaxLen"], apart := false, laid := [("unicode/utf8.acceptRanges", laid_unicode_utf8_acceptRanges), ("unicode/utf8.first", laid_unicode_utf8_first)], narrowed := true }
def FnExactDeadNodesUptoSaid : Prop := fnExactDeadNodesUptoRow.holds Tryz.pinned (OpenSpec.upto fnExactDeadNodesSpec)

/-- 'laws.FnExactDeadFuns', WHERE WHAT IT READS IS OF BULK AT MOST 1048576: true; the input reads as it did. -/
def fnExactDeadFunsUptoRow : OpenClaim := { program := "ytbkpkchegopmiaagreatdoor", sum := "802a0d7d472f7aa4d982d774c34d04cb3dcc19dcca125ceab27dffaa32e75307", func := "loop.example/g01292/laws.FnExactDeadFuns", spec := "fnExactDeadFuns", inPlace := ["internal/bytealg.CountString", "internal/bytealg.IndexByteString", "internal/bytealg.IndexString"], unfollowed := true, recurses := true, named := ["unicode/utf8.first", "unicode/utf8.acceptRanges", "internal/bytealg.MaxLen"], apart := false, laid := [("unicode/utf8.acceptRanges", laid_unicode_utf8_acceptRanges), ("unicode/utf8.first", laid_unicode_utf8_first)], narrowed := true }
def FnExactDeadFunsUptoSaid : Prop := fnExactDeadFunsUptoRow.holds Tryz.pinned (OpenSpec.upto fnExactDeadFunsSpec)

/-- 'laws.FnExactPrune', WHERE WHAT IT READS IS OF BULK AT MOST 1048576: true; the input reads as it did. -/
def fnExactPruneUptoRow : OpenClaim := { program := "ytbkpkchegopmiaagreatdoor", sum := "802a0d7d472f7aa4d982d774c34d04cb3dcc19dcca125ceab27dffaa32e75307", func := "loop.example/g01292/laws.FnExactPrune", spec := "fnExactPrune", inPlace := ["internal/bytealg.CountString", "internal/bytealg.IndexByteString", "internal/bytealg.IndexString"], unfollowed := true, recurses := true, named := ["unicode/utf8.first", "unicode/utf8.acceptRanges", "internal/bytealg.MaxLen"], apart := false, laid := [("unicode/utf8.acceptRanges", laid_unicode_utf8_acceptRanges), ("unicode/utf8.first", laid_unicode_utf8_first)], narrowed := true }
def FnExactPruneUptoSaid : Prop := fnExactPruneUptoRow.holds Tryz.pinned (OpenSpec.upto fnExactPruneSpec)

/-- 'laws.FnExactCallGraph', WHERE WHAT IT READS IS OF BULK AT MOST 1048576: true; the input reads as it did. -/
def fnExactCallGraphUptoRow : OpenClaim := { program := "ytbkpkchegopmiaagreatdoor", sum := "802a0d7d472f7aa4d982d774c34d04cb3dcc19dcca125ceab27dffaa32e75307", func := "loop.example/g01292/laws.FnExactCallGraph", spec := "fnExactCallGraph", inPlace := ["internal/bytealg.CountString", "internal/bytealg.IndexByteString", "internal/bytealg.IndexString", "internal/reflectlite.ValueOf", "internal/reflectlite.Swapper", "(internal/reflectlite.Value).Len"], unfollowed := true, recurses := true, named := ["unicode/utf8.first", "unicode/utf8.acceptRanges", "internal/bytealg.MaxLen"], apart := false, laid := [("unicode/utf8.acceptRanges", laid_unicode_utf8_acceptRanges), ("unicode/utf8.first", laid_unicode_utf8_first)], narrowed := true }
def FnExactCallGraphUptoSaid : Prop := fnExactCallGraphUptoRow.holds Tryz.pinned (OpenSpec.upto fnExactCallGraphSpec)

/-- 'laws.FnExactTargets', WHERE WHAT IT READS IS OF BULK AT MOST 1048576: true; the input reads as it did. -/
def fnExactTargetsUptoRow : OpenClaim := { program := "ytbkpkchegopmiaagreatdoor", sum := "802a0d7d472f7aa4d982d774c34d04cb3dcc19dcca125ceab27dffaa32e75307", func := "loop.example/g01292/laws.FnExactTargets", spec := "fnExactTargets", inPlace := ["internal/bytealg.CountString", "internal/bytealg.IndexByteString", "internal/bytealg.IndexString", "internal/reflectlite.ValueOf", "internal/reflectlite.Swapper", "(internal/reflectlite.Value).Len"], unfollowed := true, recurses := true, named := ["unicode/utf8.first", "unicode/utf8.acceptRanges", "internal/bytealg.MaxLen"], apart := false, laid := [("unicode/utf8.acceptRanges", laid_unicode_utf8_acceptRanges), ("unicode/utf8.first", laid_unicode_utf8_first)], narrowed := true }
def FnExactTargetsUptoSaid : Prop := fnExactTargetsUptoRow.holds Tryz.pinned (OpenSpec.upto fnExactTargetsSpec)

/-- 'laws.FnExactFunGraph', WHERE WHAT IT READS IS OF BULK AT MOST 1048576: true; the input reads as it did. -/
def fnExactFunGraphUptoRow : OpenClaim := { program := "ytbkpkchegopmiaagreatdoor", sum := "802a0d7d472f7aa4d982d774c34d04cb3dcc19dcca125ceab27dffaa32e75307", func := "loop.example/g01292/laws.FnExactFunGraph", spec := "fnExactFunGraph", inPlace := ["internal/bytealg.CountString", "internal/bytealg.IndexByteString", "internal/bytealg.IndexString", "internal/reflectlite.ValueOf", "internal/reflectlite.Swapper", "(internal/reflectlite.Value).Len"], unfollowed := true, recurses := true, named := ["unicode/utf8.first", "unicode/utf8.acceptRanges", "internal/bytealg.MaxLen"], apart := false, laid := [("unicode/utf8.acceptRanges", laid_unicode_utf8_acceptRanges), ("unicode/utf8.first", laid_unicode_utf8_first)], narrowed := true }
def FnExactFunGraphUptoSaid : Prop := fnExactFunGraphUptoRow.holds Tryz.pinned (OpenSpec.upto fnExactFunGraphSpec)

end Rows
end Go.Proofs.YtbkpkchegopmiaaGreatDoor
