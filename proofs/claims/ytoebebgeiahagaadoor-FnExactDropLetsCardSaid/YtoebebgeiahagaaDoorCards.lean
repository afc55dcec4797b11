/-
  DERIVED. GIVEN WITH THE SEED: THE CARDS: each row of YtoebebgeiahagaaDoorRows.lean that lists a variable, with what it lists TIED to the program's text (the seventh form; the later family's looks); each row that meets fmt, with fmt's text TOLD by the authors' own Lean function (tested against real Go, not proved from fmt's source: count such statements apart). THE CARD IS WHAT COUNTS. Prove the row's statement (the work); the ties are given (YtoebebgeiahagaaDoorTie.lean); close each card by the builder's one call (the guide's Derived/Test/ToyasCard.lean, 'card_holds'). Laid BY PROGRAM, IN A SANDBOX (cutbox-door.mjs). By AI agents, Wed Nov 11 2026. No macro, syntax, notation, axiom, sorry.
-/
import Derived.Test.YtoebebgeiahagaaDoorRows
import GoSem.ClaimSeven
namespace Go.Proofs.YtoebebgeiahagaaDoor
namespace Rows

/-- THE TIED CARD OF 'laws.FnExactEffectOf'. -/
def fnExactEffectOfCard : Claim7 := { stood := { row := fnExactEffectOfRow, standIns := [], harness := (true, "7d8a82d317d81235beff44bd5a941658b6f68b33eafe5b0c33eb294dba4590a9"), looks := false }, kinds := [], alts := [], laidByText := true, laidKinds := [.data, .pinned], laidTests := true, laidLooks := .later }
def FnExactEffectOfCardSaid : Prop := Claim7.holds Tryd.pinned (.plain (OpenSpec.ofChange fnExactEffectOfSpec)) fnExactEffectOfCard

/-- THE TIED CARD OF 'laws.FnExactUsedName'. -/
def fnExactUsedNameCard : Claim7 := { stood := { row := fnExactUsedNameRow, standIns := [], harness := (true, "7d8a82d317d81235beff44bd5a941658b6f68b33eafe5b0c33eb294dba4590a9"), looks := false }, kinds := [], alts := [], laidByText := true, laidKinds := [.data, .pinned], laidTests := true, laidLooks := .later }
def FnExactUsedNameCardSaid : Prop := Claim7.holds Tryd.pinned (.plain (OpenSpec.ofChange fnExactUsedNameSpec)) fnExactUsedNameCard

/-- THE TIED CARD OF 'laws.FnExactPruneTo'. -/
def fnExactPruneToCard : Claim7 := { stood := { row := fnExactPruneToRow, standIns := [], harness := (true, "7d8a82d317d81235beff44bd5a941658b6f68b33eafe5b0c33eb294dba4590a9"), looks := false }, kinds := [], alts := [], laidByText := true, laidKinds := [.data, .pinned], laidTests := true, laidLooks := .later }
def FnExactPruneToCardSaid : Prop := Claim7.holds Tryd.pinned (.plain (OpenSpec.ofChange fnExactPruneToSpec)) fnExactPruneToCard

/-- THE TIED CARD OF 'laws.FnExactDropLets'. -/
def fnExactDropLetsCard : Claim7 := { stood := { row := fnExactDropLetsRow, standIns := [], harness := (true, "7d8a82d317d81235beff44bd5a941658b6f68b33eafe5b0c33eb294dba4590a9"), looks := false }, kinds := [], alts := [], laidByText := true, laidKinds := [.data, .pinned], laidTests := true, laidLooks := .later }
def FnExactDropLetsCardSaid : Prop := Claim7.holds Tryd.pinned (.plain (OpenSpec.ofChange fnExactDropLetsSpec)) fnExactDropLetsCard

/-- THE SECOND FORM's CARD OF 'laws.FnExactEffectOf'. -/
def fnExactEffectOfUptoCard : Claim7 := { stood := { row := fnExactEffectOfUptoRow, standIns := [], harness := (true, "7d8a82d317d81235beff44bd5a941658b6f68b33eafe5b0c33eb294dba4590a9"), looks := false }, kinds := [], alts := [], laidByText := true, laidKinds := [.data, .pinned], laidTests := true, laidLooks := .later }
def FnExactEffectOfUptoCardSaid : Prop := Claim7.holds Tryd.pinned (.plain (OpenSpec.upto fnExactEffectOfSpec)) fnExactEffectOfUptoCard

/-- THE SECOND FORM's CARD OF 'laws.FnExactUsedName'. -/
def fnExactUsedNameUptoCard : Claim7 := { stood := { row := fnExactUsedNameUptoRow, standIns := [], harness := (true, "7d8a82d317d81235beff44bd5a941658b6f68b33eafe5b0c33eb294dba4590a9"), looks := false }, kinds := [], alts := [], laidByText := true, laidKinds := [.data, .pinned], laidTests := true, laidLooks := .later }
def FnExactUsedNameUptoCardSaid : Prop := Claim7.holds Tryd.pinned (.plain (OpenSpec.upto fnExactUsedNameSpec)) fnExactUsedNameUptoCard

/-- THE SECOND FORM's CARD OF 'laws.FnExactPruneTo'. -/
def fnExactPruneToUptoCard : Claim7 := { stood := { row := fnExactPruneToUptoRow, standIns := [], harness := (true, "7d8a82d317d81235beff44bd5a941658b6f68b33eafe5b0c33eb294dba4590a9"), looks := false }, kinds := [], alts := [], laidByText := true, laidKinds := [.data, .pinned], laidTests := true, laidLooks := .later }
def FnExactPruneToUptoCardSaid : Prop := Claim7.holds Tryd.pinned (.plain (OpenSpec.upto fnExactPruneToSpec)) fnExactPruneToUptoCard

/-- THE SECOND FORM's CARD OF 'laws.FnExactDropLets'. -/
def fnExactDropLetsUptoCard : Claim7 := { stood := { row := fnExactDropLetsUptoRow, standIns := [], harness := (true, "7d8a82d317d81235beff44bd5a941658b6f68b33eafe5b0c33eb294dba4590a9"), looks := false }, kinds := [], alts := [], laidByText := true, laidKinds := [.data, .pinned], laidTests := true, laidLooks := .later }
def FnExactDropLetsUptoCardSaid : Prop := Claim7.holds Tryd.pinned (.plain (OpenSpec.upto fnExactDropLetsSpec)) fnExactDropLetsUptoCard
end Rows
end Go.Proofs.YtoebebgeiahagaaDoor
