/-
  DERIVED. GIVEN WITH THE SEED: THE CARDS: each row of YtljpfhpcbfpooaaGreatDoorRows.lean that lists a variable, with what it lists TIED to the program's text (the seventh form; the later family's looks); each row that meets fmt, with fmt's text TOLD by the authors' own Lean function (tested against real Go, not proved from fmt's source: count such statements apart). THE CARD IS WHAT COUNTS. Prove the row's statement (the work); the ties are given (YtljpfhpcbfpooaaGreatDoorTie.lean); close each card by the builder's one call (the guide's Derived/Test/ToyasCard.lean, 'card_holds'). Laid BY PROGRAM, IN A SANDBOX (cutbox-door.mjs). By AI agents, Wed Nov 11 2026. No macro, syntax, notation, axiom, sorry.
-/
import Derived.Test.YtljpfhpcbfpooaaGreatDoorRows
import GoSem.ClaimSeven
namespace Go.Proofs.YtljpfhpcbfpooaaGreatDoor
namespace Rows

/-- THE TIED CARD OF 'laws.FnDeeper'. -/
def fnDeeperCard : Claim7 := { stood := { row := fnDeeperRow, standIns := [], harness := (true, "468f3d7f9370a352ca3ae130d79dd449522069b7053337184d2031fb235baa75"), looks := false }, kinds := [], alts := [], laidByText := true, laidKinds := [.data, .pinned], laidTests := true, laidLooks := .later }
def FnDeeperCardSaid : Prop := Claim7.holds Tryz.pinned (.plain (OpenSpec.ofChange fnDeeperSpec)) fnDeeperCard

/-- THE TIED CARD OF 'laws.FnScopes'. -/
def fnScopesCard : Claim7 := { stood := { row := fnScopesRow, standIns := [], harness := (true, "468f3d7f9370a352ca3ae130d79dd449522069b7053337184d2031fb235baa75"), looks := false }, kinds := [], alts := [], laidByText := true, laidKinds := [.data, .pinned], laidTests := true, laidLooks := .later }
def FnScopesCardSaid : Prop := Claim7.holds Tryz.pinned (.plain (OpenSpec.ofChange fnScopesSpec)) fnScopesCard

/-- THE TIED CARD OF 'laws.FnKinds'. -/
def fnKindsCard : Claim7 := { stood := { row := fnKindsRow, standIns := [], harness := (true, "468f3d7f9370a352ca3ae130d79dd449522069b7053337184d2031fb235baa75"), looks := false }, kinds := [], alts := [], laidByText := true, laidKinds := [.data, .pinned], laidTests := true, laidLooks := .later }
def FnKindsCardSaid : Prop := Claim7.holds Tryz.pinned (.plain (OpenSpec.ofChange fnKindsSpec)) fnKindsCard

/-- THE TIED CARD OF 'laws.FnSeen'. -/
def fnSeenCard : Claim7 := { stood := { row := fnSeenRow, standIns := [], harness := (true, "468f3d7f9370a352ca3ae130d79dd449522069b7053337184d2031fb235baa75"), looks := false }, kinds := [], alts := [], laidByText := true, laidKinds := [.data, .pinned], laidTests := true, laidLooks := .later }
def FnSeenCardSaid : Prop := Claim7.holds Tryz.pinned (.plain (OpenSpec.ofChange fnSeenSpec)) fnSeenCard

/-- THE TIED CARD OF 'laws.FnExactRecursive'. -/
def fnExactRecursiveCard : Claim7 := { stood := { row := fnExactRecursiveRow, standIns := [], harness := (true, "468f3d7f9370a352ca3ae130d79dd449522069b7053337184d2031fb235baa75"), looks := false }, kinds := [], alts := [], laidByText := true, laidKinds := [.data, .pinned], laidTests := true, laidLooks := .later }
def FnExactRecursiveCardSaid : Prop := Claim7.holds Tryz.pinned (.plain (OpenSpec.ofChange fnExactRecursiveSpec)) fnExactRecursiveCard

/-- THE TIED CARD OF 'laws.FnGraph'. -/
def fnGraphCard : Claim7 := { stood := { row := fnGraphRow, standIns := [], harness := (true, "468f3d7f9370a352ca3ae130d79dd449522069b7053337184d2031fb235baa75"), looks := false }, kinds := [], alts := [], laidByText := true, laidKinds := [.data, .pinned], laidTests := true, laidLooks := .later }
def FnGraphCardSaid : Prop := Claim7.holds Tryz.pinned (.plain (OpenSpec.ofChange fnGraphSpec)) fnGraphCard

/-- THE SECOND FORM's CARD OF 'laws.FnDeeper'. -/
def fnDeeperUptoCard : Claim7 := { stood := { row := fnDeeperUptoRow, standIns := [], harness := (true, "468f3d7f9370a352ca3ae130d79dd449522069b7053337184d2031fb235baa75"), looks := false }, kinds := [], alts := [], laidByText := true, laidKinds := [.data, .pinned], laidTests := true, laidLooks := .later }
def FnDeeperUptoCardSaid : Prop := Claim7.holds Tryz.pinned (.plain (OpenSpec.upto fnDeeperSpec)) fnDeeperUptoCard

/-- THE SECOND FORM's CARD OF 'laws.FnScopes'. -/
def fnScopesUptoCard : Claim7 := { stood := { row := fnScopesUptoRow, standIns := [], harness := (true, "468f3d7f9370a352ca3ae130d79dd449522069b7053337184d2031fb235baa75"), looks := false }, kinds := [], alts := [], laidByText := true, laidKinds := [.data, .pinned], laidTests := true, laidLooks := .later }
def FnScopesUptoCardSaid : Prop := Claim7.holds Tryz.pinned (.plain (OpenSpec.upto fnScopesSpec)) fnScopesUptoCard

/-- THE SECOND FORM's CARD OF 'laws.FnKinds'. -/
def fnKindsUptoCard : Claim7 := { stood := { row := fnKindsUptoRow, standIns := [], harness := (true, "468f3d7f9370a352ca3ae130d79dd449522069b7053337184d2031fb235baa75"), looks := false }, kinds := [], alts := [], laidByText := true, laidKinds := [.data, .pinned], laidTests := true, laidLooks := .later }
def FnKindsUptoCardSaid : Prop := Claim7.holds Tryz.pinned (.plain (OpenSpec.upto fnKindsSpec)) fnKindsUptoCard

/-- THE SECOND FORM's CARD OF 'laws.FnSeen'. -/
def fnSeenUptoCard : Claim7 := { stood := { row := fnSeenUptoRow, standIns := [], harness := (true, "468f3d7f9370a352ca3ae130d79dd449522069b7053337184d2031fb235baa75"), looks := false }, kinds := [], alts := [], laidByText := true, laidKinds := [.data, .pinned], laidTests := true, laidLooks := .later }
def FnSeenUptoCardSaid : Prop := Claim7.holds Tryz.pinned (.plain (OpenSpec.upto fnSeenSpec)) fnSeenUptoCard

/-- THE SECOND FORM's CARD OF 'laws.FnExactRecursive'. -/
def fnExactRecursiveUptoCard : Claim7 := { stood := { row := fnExactRecursiveUptoRow, standIns := [], harness := (true, "468f3d7f9370a352ca3ae130d79dd449522069b7053337184d2031fb235baa75"), looks := false }, kinds := [], alts := [], laidByText := true, laidKinds := [.data, .pinned], laidTests := true, laidLooks := .later }
def FnExactRecursiveUptoCardSaid : Prop := Claim7.holds Tryz.pinned (.plain (OpenSpec.upto fnExactRecursiveSpec)) fnExactRecursiveUptoCard

/-- THE SECOND FORM's CARD OF 'laws.FnGraph'. -/
def fnGraphUptoCard : Claim7 := { stood := { row := fnGraphUptoRow, standIns := [], harness := (true, "468f3d7f9370a352ca3ae130d79dd449522069b7053337184d2031fb235baa75"), looks := false }, kinds := [], alts := [], laidByText := true, laidKinds := [.data, .pinned], laidTests := true, laidLooks := .later }
def FnGraphUptoCardSaid : Prop := Claim7.holds Tryz.pinned (.plain (OpenSpec.upto fnGraphSpec)) fnGraphUptoCard
end Rows
end Go.Proofs.YtljpfhpcbfpooaaGreatDoor
