/-
  DERIVED. GIVEN WITH THE SEED: THE CARDS: each row of YthalbnikkhaobaaDoorRows.lean that lists a variable, with what it lists TIED to the program's text (the seventh form; the later family's looks); each row that meets fmt, with fmt's text TOLD by the authors' own Lean function (tested against real Go, not proved from fmt's source: count such statements apart). THE CARD IS WHAT COUNTS. Prove the row's statement (the work); the ties are given (YthalbnikkhaobaaDoorTie.lean); close each card by the builder's one call (the guide's Derived/Test/ToyasCard.lean, 'card_holds'). Laid BY PROGRAM, IN A SANDBOX (cutbox-door.mjs). By AI agents, Wed Nov 11 2026. No macro, syntax, notation, axiom, sorry.
-/
import Derived.Test.YthalbnikkhaobaaDoorRows
import GoSem.ClaimSeven
namespace Go.Proofs.YthalbnikkhaobaaDoor
namespace Rows

/-- THE TIED CARD OF 'laws.FnExactShowInts'. -/
def fnExactShowIntsCard : Claim7 := { stood := { row := fnExactShowIntsRow, standIns := [], harness := (true, "c6078e2968099f2af7ec5bb9099d4e85c9bf9a4a35c774a9cb8e48e4c93b8c37"), looks := false }, kinds := [], alts := [], laidByText := true, laidKinds := [.data, .data, .data], laidTests := true, laidLooks := .later }
def FnExactShowIntsCardSaid : Prop := Claim7.holds Tryd.pinned (.plain (OpenSpec.ofChange fnExactShowIntsSpec)) fnExactShowIntsCard

/-- THE TIED CARD OF 'laws.FnExactShowEdges'. -/
def fnExactShowEdgesCard : Claim7 := { stood := { row := fnExactShowEdgesRow, standIns := [], harness := (true, "c6078e2968099f2af7ec5bb9099d4e85c9bf9a4a35c774a9cb8e48e4c93b8c37"), looks := false }, kinds := [], alts := [], laidByText := true, laidKinds := [.data, .data, .data], laidTests := true, laidLooks := .later }
def FnExactShowEdgesCardSaid : Prop := Claim7.holds Tryd.pinned (.plain (OpenSpec.ofChange fnExactShowEdgesSpec)) fnExactShowEdgesCard

/-- THE SECOND FORM's CARD OF 'laws.FnExactShowInts'. -/
def fnExactShowIntsUptoCard : Claim7 := { stood := { row := fnExactShowIntsUptoRow, standIns := [], harness := (true, "c6078e2968099f2af7ec5bb9099d4e85c9bf9a4a35c774a9cb8e48e4c93b8c37"), looks := false }, kinds := [], alts := [], laidByText := true, laidKinds := [.data, .data, .data], laidTests := true, laidLooks := .later }
def FnExactShowIntsUptoCardSaid : Prop := Claim7.holds Tryd.pinned (.plain (OpenSpec.upto fnExactShowIntsSpec)) fnExactShowIntsUptoCard

/-- THE SECOND FORM's CARD OF 'laws.FnExactShowEdges'. -/
def fnExactShowEdgesUptoCard : Claim7 := { stood := { row := fnExactShowEdgesUptoRow, standIns := [], harness := (true, "c6078e2968099f2af7ec5bb9099d4e85c9bf9a4a35c774a9cb8e48e4c93b8c37"), looks := false }, kinds := [], alts := [], laidByText := true, laidKinds := [.data, .data, .data], laidTests := true, laidLooks := .later }
def FnExactShowEdgesUptoCardSaid : Prop := Claim7.holds Tryd.pinned (.plain (OpenSpec.upto fnExactShowEdgesSpec)) fnExactShowEdgesUptoCard
end Rows
end Go.Proofs.YthalbnikkhaobaaDoor
