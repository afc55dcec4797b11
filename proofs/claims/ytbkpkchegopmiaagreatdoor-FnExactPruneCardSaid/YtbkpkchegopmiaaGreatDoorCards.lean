/-
  DERIVED. GIVEN WITH THE SEED: THE CARDS: each row of YtbkpkchegopmiaaGreatDoorRows.lean that lists a variable, with what it lists TIED to the program's text (the seventh form; the later family's looks); each row that meets fmt, with fmt's text TOLD by the authors' own Lean function (tested against real Go, not proved from fmt's source: count such statements apart). THE CARD IS WHAT COUNTS. Prove the row's statement (the work); the ties are given (YtbkpkchegopmiaaGreatDoorTie.lean); close each card by the builder's one call (the guide's Derived/Test/ToyasCard.lean, 'card_holds'). Laid BY PROGRAM, IN A SANDBOX (cutbox-door.mjs). By AI agents, Wed Nov 11 2026. No macro, syntax, notation, axiom, sorry.
-/
import Derived.Test.YtbkpkchegopmiaaGreatDoorRows
import GoSem.ClaimSeven
namespace Go.Proofs.YtbkpkchegopmiaaGreatDoor
namespace Rows

/-- THE TIED CARD OF 'laws.FnExactMayRaise'. -/
def fnExactMayRaiseCard : Claim7 := { stood := { row := fnExactMayRaiseRow, standIns := [], harness := (true, "e139a48c3abf203f2b98110e2b3f2745cb2b3dc6c7f469a717ab23a8e8400d84"), looks := false }, kinds := [], alts := [], laidByText := true, laidKinds := [.data, .pinned], laidTests := true, laidLooks := .later }
def FnExactMayRaiseCardSaid : Prop := Claim7.holds Tryz.pinned (.plain (OpenSpec.ofChange fnExactMayRaiseSpec)) fnExactMayRaiseCard

/-- THE TIED CARD OF 'laws.FnExactKindsOf'. -/
def fnExactKindsOfCard : Claim7 := { stood := { row := fnExactKindsOfRow, standIns := [], harness := (true, "e139a48c3abf203f2b98110e2b3f2745cb2b3dc6c7f469a717ab23a8e8400d84"), looks := false }, kinds := [], alts := [], laidByText := true, laidKinds := [.data, .pinned], laidTests := true, laidLooks := .later }
def FnExactKindsOfCardSaid : Prop := Claim7.holds Tryz.pinned (.plain (OpenSpec.ofChange fnExactKindsOfSpec)) fnExactKindsOfCard

/-- THE TIED CARD OF 'laws.FnExactRaisePoints'. -/
def fnExactRaisePointsCard : Claim7 := { stood := { row := fnExactRaisePointsRow, standIns := [], harness := (true, "e139a48c3abf203f2b98110e2b3f2745cb2b3dc6c7f469a717ab23a8e8400d84"), looks := false }, kinds := [], alts := [], laidByText := true, laidKinds := [.data, .pinned], laidTests := true, laidLooks := .later }
def FnExactRaisePointsCardSaid : Prop := Claim7.holds Tryz.pinned (.plain (OpenSpec.ofChange fnExactRaisePointsSpec)) fnExactRaisePointsCard

/-- THE TIED CARD OF 'laws.FnExactSeenNodes'. -/
def fnExactSeenNodesCard : Claim7 := { stood := { row := fnExactSeenNodesRow, standIns := [], harness := (true, "e139a48c3abf203f2b98110e2b3f2745cb2b3dc6c7f469a717ab23a8e8400d84"), looks := false }, kinds := [], alts := [], laidByText := true, laidKinds := [.data, .pinned], laidTests := true, laidLooks := .later }
def FnExactSeenNodesCardSaid : Prop := Claim7.holds Tryz.pinned (.plain (OpenSpec.ofChange fnExactSeenNodesSpec)) fnExactSeenNodesCard

/-- THE TIED CARD OF 'laws.FnExactSolve'. -/
def fnExactSolveCard : Claim7 := { stood := { row := fnExactSolveRow, standIns := [], harness := (true, "e139a48c3abf203f2b98110e2b3f2745cb2b3dc6c7f469a717ab23a8e8400d84"), looks := false }, kinds := [], alts := [], laidByText := true, laidKinds := [.data, .pinned], laidTests := true, laidLooks := .later }
def FnExactSolveCardSaid : Prop := Claim7.holds Tryz.pinned (.plain (OpenSpec.ofChange fnExactSolveSpec)) fnExactSolveCard

/-- THE TIED CARD OF 'laws.FnExactCaught'. -/
def fnExactCaughtCard : Claim7 := { stood := { row := fnExactCaughtRow, standIns := [], harness := (true, "e139a48c3abf203f2b98110e2b3f2745cb2b3dc6c7f469a717ab23a8e8400d84"), looks := false }, kinds := [], alts := [], laidByText := true, laidKinds := [.data, .pinned], laidTests := true, laidLooks := .later }
def FnExactCaughtCardSaid : Prop := Claim7.holds Tryz.pinned (.plain (OpenSpec.ofChange fnExactCaughtSpec)) fnExactCaughtCard

/-- THE TIED CARD OF 'laws.FnExactDeadNodes'. -/
def fnExactDeadNodesCard : Claim7 := { stood := { row := fnExactDeadNodesRow, standIns := [], harness := (true, "e139a48c3abf203f2b98110e2b3f2745cb2b3dc6c7f469a717ab23a8e8400d84"), looks := false }, kinds := [], alts := [], laidByText := true, laidKinds := [.data, .pinned], laidTests := true, laidLooks := .later }
def FnExactDeadNodesCardSaid : Prop := Claim7.holds Tryz.pinned (.plain (OpenSpec.ofChange fnExactDeadNodesSpec)) fnExactDeadNodesCard

/-- THE TIED CARD OF 'laws.FnExactDeadFuns'. -/
def fnExactDeadFunsCard : Claim7 := { stood := { row := fnExactDeadFunsRow, standIns := [], harness := (true, "e139a48c3abf203f2b98110e2b3f2745cb2b3dc6c7f469a717ab23a8e8400d84"), looks := false }, kinds := [], alts := [], laidByText := true, laidKinds := [.data, .pinned], laidTests := true, laidLooks := .later }
def FnExactDeadFunsCardSaid : Prop := Claim7.holds Tryz.pinned (.plain (OpenSpec.ofChange fnExactDeadFunsSpec)) fnExactDeadFunsCard

/-- THE TIED CARD OF 'laws.FnExactPrune'. -/
def fnExactPruneCard : Claim7 := { stood := { row := fnExactPruneRow, standIns := [], harness := (true, "e139a48c3abf203f2b98110e2b3f2745cb2b3dc6c7f469a717ab23a8e8400d84"), looks := false }, kinds := [], alts := [], laidByText := true, laidKinds := [.data, .pinned], laidTests := true, laidLooks := .later }
def FnExactPruneCardSaid : Prop := Claim7.holds Tryz.pinned (.plain (OpenSpec.ofChange fnExactPruneSpec)) fnExactPruneCard

/-- THE TIED CARD OF 'laws.FnExactCallGraph'. -/
def fnExactCallGraphCard : Claim7 := { stood := { row := fnExactCallGraphRow, standIns := [], harness := (true, "e139a48c3abf203f2b98110e2b3f2745cb2b3dc6c7f469a717ab23a8e8400d84"), looks := false }, kinds := [], alts := [], laidByText := true, laidKinds := [.data, .pinned], laidTests := true, laidLooks := .later }
def FnExactCallGraphCardSaid : Prop := Claim7.holds Tryz.pinned (.plain (OpenSpec.ofChange fnExactCallGraphSpec)) fnExactCallGraphCard

/-- THE TIED CARD OF 'laws.FnExactTargets'. -/
def fnExactTargetsCard : Claim7 := { stood := { row := fnExactTargetsRow, standIns := [], harness := (true, "e139a48c3abf203f2b98110e2b3f2745cb2b3dc6c7f469a717ab23a8e8400d84"), looks := false }, kinds := [], alts := [], laidByText := true, laidKinds := [.data, .pinned], laidTests := true, laidLooks := .later }
def FnExactTargetsCardSaid : Prop := Claim7.holds Tryz.pinned (.plain (OpenSpec.ofChange fnExactTargetsSpec)) fnExactTargetsCard

/-- THE TIED CARD OF 'laws.FnExactFunGraph'. -/
def fnExactFunGraphCard : Claim7 := { stood := { row := fnExactFunGraphRow, standIns := [], harness := (true, "e139a48c3abf203f2b98110e2b3f2745cb2b3dc6c7f469a717ab23a8e8400d84"), looks := false }, kinds := [], alts := [], laidByText := true, laidKinds := [.data, .pinned], laidTests := true, laidLooks := .later }
def FnExactFunGraphCardSaid : Prop := Claim7.holds Tryz.pinned (.plain (OpenSpec.ofChange fnExactFunGraphSpec)) fnExactFunGraphCard

/-- THE SECOND FORM's CARD OF 'laws.FnExactMayRaise'. -/
def fnExactMayRaiseUptoCard : Claim7 := { stood := { row := fnExactMayRaiseUptoRow, standIns := [], harness := (true, "e139a48c3abf203f2b98110e2b3f2745cb2b3dc6c7f469a717ab23a8e8400d84"), looks := false }, kinds := [], alts := [], laidByText := true, laidKinds := [.data, .pinned], laidTests := true, laidLooks := .later }
def FnExactMayRaiseUptoCardSaid : Prop := Claim7.holds Tryz.pinned (.plain (OpenSpec.upto fnExactMayRaiseSpec)) fnExactMayRaiseUptoCard

/-- THE SECOND FORM's CARD OF 'laws.FnExactKindsOf'. -/
def fnExactKindsOfUptoCard : Claim7 := { stood := { row := fnExactKindsOfUptoRow, standIns := [], harness := (true, "e139a48c3abf203f2b98110e2b3f2745cb2b3dc6c7f469a717ab23a8e8400d84"), looks := false }, kinds := [], alts := [], laidByText := true, laidKinds := [.data, .pinned], laidTests := true, laidLooks := .later }
def FnExactKindsOfUptoCardSaid : Prop := Claim7.holds Tryz.pinned (.plain (OpenSpec.upto fnExactKindsOfSpec)) fnExactKindsOfUptoCard

/-- THE SECOND FORM's CARD OF 'laws.FnExactRaisePoints'. -/
def fnExactRaisePointsUptoCard : Claim7 := { stood := { row := fnExactRaisePointsUptoRow, standIns := [], harness := (true, "e139a48c3abf203f2b98110e2b3f2745cb2b3dc6c7f469a717ab23a8e8400d84"), looks := false }, kinds := [], alts := [], laidByText := true, laidKinds := [.data, .pinned], laidTests := true, laidLooks := .later }
def FnExactRaisePointsUptoCardSaid : Prop := Claim7.holds Tryz.pinned (.plain (OpenSpec.upto fnExactRaisePointsSpec)) fnExactRaisePointsUptoCard

/-- THE SECOND FORM's CARD OF 'laws.FnExactSeenNodes'. -/
def fnExactSeenNodesUptoCard : Claim7 := { stood := { row := fnExactSeenNodesUptoRow, standIns := [], harness := (true, "e139a48c3abf203f2b98110e2b3f2745cb2b3dc6c7f469a717ab23a8e8400d84"), looks := false }, kinds := [], alts := [], laidByText := true, laidKinds := [.data, .pinned], laidTests := true, laidLooks := .later }
def FnExactSeenNodesUptoCardSaid : Prop := Claim7.holds Tryz.pinned (.plain (OpenSpec.upto fnExactSeenNodesSpec)) fnExactSeenNodesUptoCard

/-- THE SECOND FORM's CARD OF 'laws.FnExactSolve'. -/
def fnExactSolveUptoCard : Claim7 := { stood := { row := fnExactSolveUptoRow, standIns := [], harness := (true, "e139a48c3abf203f2b98110e2b3f2745cb2b3dc6c7f469a717ab23a8e8400d84"), looks := false }, kinds := [], alts := [], laidByText := true, laidKinds := [.data, .pinned], laidTests := true, laidLooks := .later }
def FnExactSolveUptoCardSaid : Prop := Claim7.holds Tryz.pinned (.plain (OpenSpec.upto fnExactSolveSpec)) fnExactSolveUptoCard

/-- THE SECOND FORM's CARD OF 'laws.FnExactCaught'. -/
def fnExactCaughtUptoCard : Claim7 := { stood := { row := fnExactCaughtUptoRow, standIns := [], harness := (true, "e139a48c3abf203f2b98110e2b3f2745cb2b3dc6c7f469a717ab23a8e8400d84"), looks := false }, kinds := [], alts := [], laidByText := true, laidKinds := [.data, .pinned], laidTests := true, laidLooks := .later }
def FnExactCaughtUptoCardSaid : Prop := Claim7.holds Tryz.pinned (.plain (OpenSpec.upto fnExactCaughtSpec)) fnExactCaughtUptoCard

/-- THE SECOND FORM's CARD OF 'laws.FnExactDeadNodes'. -/
def fnExactDeadNodesUptoCard : Claim7 := { stood := { row := fnExactDeadNodesUptoRow, standIns := [], harness := (true, "e139a48c3abf203f2b98110e2b3f2745cb2b3dc6c7f469a717ab23a8e8400d84"), looks := false }, kinds := [], alts := [], laidByText := true, laidKinds := [.data, .pinned], laidTests := true, laidLooks := .later }
def FnExactDeadNodesUptoCardSaid : Prop := Claim7.holds Tryz.pinned (.plain (OpenSpec.upto fnExactDeadNodesSpec)) fnExactDeadNodesUptoCard

/-- THE SECOND FORM's CARD OF 'laws.FnExactDeadFuns'. -/
def fnExactDeadFunsUptoCard : Claim7 := { stood := { row := fnExactDeadFunsUptoRow, standIns := [], harness := (true, "e139a48c3abf203f2b98110e2b3f2745cb2b3dc6c7f469a717ab23a8e8400d84"), looks := false }, kinds := [], alts := [], laidByText := true, laidKinds := [.data, .pinned], laidTests := true, laidLooks := .later }
def FnExactDeadFunsUptoCardSaid : Prop := Claim7.holds Tryz.pinned (.plain (OpenSpec.upto fnExactDeadFunsSpec)) fnExactDeadFunsUptoCard

/-- THE SECOND FORM's CARD OF 'laws.FnExactPrune'. -/
def fnExactPruneUptoCard : Claim7 := { stood := { row := fnExactPruneUptoRow, standIns := [], harness := (true, "e139a48c3abf203f2b98110e2b3f2745cb2b3dc6c7f469a717ab23a8e8400d84"), looks := false }, kinds := [], alts := [], laidByText := true, laidKinds := [.data, .pinned], laidTests := true, laidLooks := .later }
def FnExactPruneUptoCardSaid : Prop := Claim7.holds Tryz.pinned (.plain (OpenSpec.upto fnExactPruneSpec)) fnExactPruneUptoCard

/-- THE SECOND FORM's CARD OF 'laws.FnExactCallGraph'. -/
def fnExactCallGraphUptoCard : Claim7 := { stood := { row := fnExactCallGraphUptoRow, standIns := [], harness := (true, "e139a48c3abf203f2b98110e2b3f2745cb2b3dc6c7f469a717ab23a8e8400d84"), looks := false }, kinds := [], alts := [], laidByText := true, laidKinds := [.data, .pinned], laidTests := true, laidLooks := .later }
def FnExactCallGraphUptoCardSaid : Prop := Claim7.holds Tryz.pinned (.plain (OpenSpec.upto fnExactCallGraphSpec)) fnExactCallGraphUptoCard

/-- THE SECOND FORM's CARD OF 'laws.FnExactTargets'. -/
def fnExactTargetsUptoCard : Claim7 := { stood := { row := fnExactTargetsUptoRow, standIns := [], harness := (true, "e139a48c3abf203f2b98110e2b3f2745cb2b3dc6c7f469a717ab23a8e8400d84"), looks := false }, kinds := [], alts := [], laidByText := true, laidKinds := [.data, .pinned], laidTests := true, laidLooks := .later }
def FnExactTargetsUptoCardSaid : Prop := Claim7.holds Tryz.pinned (.plain (OpenSpec.upto fnExactTargetsSpec)) fnExactTargetsUptoCard

/-- THE SECOND FORM's CARD OF 'laws.FnExactFunGraph'. -/
def fnExactFunGraphUptoCard : Claim7 := { stood := { row := fnExactFunGraphUptoRow, standIns := [], harness := (true, "e139a48c3abf203f2b98110e2b3f2745cb2b3dc6c7f469a717ab23a8e8400d84"), looks := false }, kinds := [], alts := [], laidByText := true, laidKinds := [.data, .pinned], laidTests := true, laidLooks := .later }
def FnExactFunGraphUptoCardSaid : Prop := Claim7.holds Tryz.pinned (.plain (OpenSpec.upto fnExactFunGraphSpec)) fnExactFunGraphUptoCard
end Rows
end Go.Proofs.YtbkpkchegopmiaaGreatDoor
