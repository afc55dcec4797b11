/-
  NARROWER THAN 'FOR EVERY INPUT', by the rows' own cells (each row's printed sentence says how): FnExactEffectOf: laid · FnExactUsedName: laid · FnExactPruneTo: laid · FnExactDropLets: laid.
  DERIVED. THE GIVEN ROWS OF THIS SEAT. 4 by the template 'for every input the law returns true; each argument reads behind the call as it read before'; 0 by the template 'total and deterministic' (their statements: YtoebebgeiahagaaDoorTotals.lean).
  GIVEN WITH THE SEED: the statements are not yours to turn. If you find one false, say at which input.
  Laid BY PROGRAM, IN A SANDBOX (cutbox-rows.mjs): the forced cells as the released guide's own fill.sh prints them over the translation bb38e7ff7de378ed… (all of the seat's roots in one cut). By AI agents, Wed Nov 11 2026. No macro, syntax, notation, axiom, sorry.
-/
import Derived.Test.YtoebebgeiahagaaDoorChecked
import GoSem.PinnedTables
import GoSem.Claim
import GoSem.ClaimJoined
import GoSem.ClaimMapViews
import Derived.JoinedTies
import Derived.KernelRfl
namespace Go.Proofs.YtoebebgeiahagaaDoor
/- THE CELL 'sum', in the pinned program and in every row, IS THE sha256 OF THE DUMP (.gsa) THAT YtoebebgeiahagaaDoorProg.lean LOADS. Nothing in Lean hashes anything: it is a label: what it is worth is what the hold of that sum in a sandbox is worth. -/
noncomputable def Tryd.pinned : Pinned := { name := "ytoebebgeiahagaadoor", sum := "bb38e7ff7de378ed5625fcbd2ca224edd62722fdf24cee079d8c6d297bef1d10", checked := Tryd.checked }
namespace Rows
def none {H : Type} : Left H := { results := [], args := [] }

/- WHAT THE LISTED PACKAGE-LEVEL VARIABLES READ AS WHEN THE CALL BEGINS. Each datum BY PROGRAM (the guide's laid-datum.mjs) off the statement by which the dump's own 'gosem.cut.vars' lays the variable. In a bare row this is a premise. The card (YtoebebgeiahagaaDoorCards.lean) ties it to the program's text. -/
def laid_unicode_utf8_acceptRanges {H : Type} : DataW H := .agg [.agg [.lit (.int .u8 128), .lit (.int .u8 191)], .agg [.lit (.int .u8 160), .lit (.int .u8 191)], .agg [.lit (.int .u8 128), .lit (.int .u8 159)], .agg [.lit (.int .u8 144), .lit (.int .u8 191)], .agg [.lit (.int .u8 128), .lit (.int .u8 143)], .agg [.lit (.int .u8 0), .lit (.int .u8 0)], .agg [.lit (.int .u8 0), .lit (.int .u8 0)], .agg [.lit (.int .u8 0), .lit (.int .u8 0)], .agg [.lit (.int .u8 0), .lit (.int .u8 0)], .agg [.lit (.int .u8 0), .lit (.int .u8 0)], .agg [.lit (.int .u8 0), .lit (.int .u8 0)], .agg [.lit (.int .u8 0), .lit (.int .u8 0)], .agg [.lit (.int .u8 0), .lit (.int .u8 0)], .agg [.lit (.int .u8 0), .lit (.int .u8 0)], .agg [.lit (.int .u8 0), .lit (.int .u8 0)], .agg [.lit (.int .u8 0), .lit (.int .u8 0)]]
/-- One of Go's own tables, pinned by name: the form's constant. -/
def laid_unicode_utf8_first : DataW Unit := Go.Pinned.utf8First

/-- 'laws.FnExactEffectOf': WHATEVER THE INPUT: true; the input reads as it did. -/
def fnExactEffectOfSpec : ChangeSpec := { name := "fnExactEffectOf", fn := fun _ => fun
  | [d1, d2] => { results := [.lit (.bool true)], args := [d1, d2] }
  | _ => none }
def fnExactEffectOfRow : OpenClaim := { program := "ytoebebgeiahagaadoor", sum := "bb38e7ff7de378ed5625fcbd2ca224edd62722fdf24cee079d8c6d297bef1d10", func := "loop.example/g01292/laws.FnExactEffectOf", spec := "fnExactEffectOf", inPlace := ["internal/bytealg.CountString", "internal/bytealg.IndexByteString", "internal/bytealg.IndexString"], recurses := true, named := ["unicode/utf8.first", "unicode/utf8.acceptRanges", "internal/bytealg.MaxLen"], apart := false, laid := [("unicode/utf8.acceptRanges", laid_unicode_utf8_acceptRanges), ("unicode/utf8.first", laid_unicode_utf8_first)] }
def FnExactEffectOfSaid : Prop := fnExactEffectOfRow.holds Tryd.pinned (OpenSpec.ofChange fnExactEffectOfSpec)

/-- ITS FALSE NEIGHBOUR: 'it returns false'. Refute it at one input. -/
def fnExactEffectOfWrong : ChangeSpec := { name := "fnExactEffectOf", fn := fun _ => fun
  | [d1, d2] => { results := [.lit (.bool false)], args := [d1, d2] }
  | _ => none }
def FnExactEffectOfWrongFalsely : Prop := fnExactEffectOfRow.holds Tryd.pinned (OpenSpec.ofChange fnExactEffectOfWrong)

/-- 'laws.FnExactUsedName': WHATEVER THE INPUT: true; the input reads as it did. -/
def fnExactUsedNameSpec : ChangeSpec := { name := "fnExactUsedName", fn := fun _ => fun
  | [d1, d2] => { results := [.lit (.bool true)], args := [d1, d2] }
  | _ => none }
def fnExactUsedNameRow : OpenClaim := { program := "ytoebebgeiahagaadoor", sum := "bb38e7ff7de378ed5625fcbd2ca224edd62722fdf24cee079d8c6d297bef1d10", func := "loop.example/g01292/laws.FnExactUsedName", spec := "fnExactUsedName", inPlace := ["internal/bytealg.CountString", "internal/bytealg.IndexByteString", "internal/bytealg.IndexString"], named := ["unicode/utf8.first", "unicode/utf8.acceptRanges", "internal/bytealg.MaxLen"], apart := false, laid := [("unicode/utf8.acceptRanges", laid_unicode_utf8_acceptRanges), ("unicode/utf8.first", laid_unicode_utf8_first)] }
def FnExactUsedNameSaid : Prop := fnExactUsedNameRow.holds Tryd.pinned (OpenSpec.ofChange fnExactUsedNameSpec)

/-- ITS FALSE NEIGHBOUR: 'it returns false'. Refute it at one input. -/
def fnExactUsedNameWrong : ChangeSpec := { name := "fnExactUsedName", fn := fun _ => fun
  | [d1, d2] => { results := [.lit (.bool false)], args := [d1, d2] }
  | _ => none }
def FnExactUsedNameWrongFalsely : Prop := fnExactUsedNameRow.holds Tryd.pinned (OpenSpec.ofChange fnExactUsedNameWrong)

/-- 'laws.FnExactPruneTo': WHATEVER THE INPUT: true; the input reads as it did. -/
def fnExactPruneToSpec : ChangeSpec := { name := "fnExactPruneTo", fn := fun _ => fun
  | [d1, d2] => { results := [.lit (.bool true)], args := [d1, d2] }
  | _ => none }
def fnExactPruneToRow : OpenClaim := { program := "ytoebebgeiahagaadoor", sum := "bb38e7ff7de378ed5625fcbd2ca224edd62722fdf24cee079d8c6d297bef1d10", func := "loop.example/g01292/laws.FnExactPruneTo", spec := "fnExactPruneTo", inPlace := ["internal/bytealg.CountString", "internal/bytealg.IndexByteString", "internal/bytealg.IndexString"], recurses := true, named := ["unicode/utf8.first", "unicode/utf8.acceptRanges", "internal/bytealg.MaxLen"], apart := false, laid := [("unicode/utf8.acceptRanges", laid_unicode_utf8_acceptRanges), ("unicode/utf8.first", laid_unicode_utf8_first)] }
def FnExactPruneToSaid : Prop := fnExactPruneToRow.holds Tryd.pinned (OpenSpec.ofChange fnExactPruneToSpec)

/-- ITS FALSE NEIGHBOUR: 'it returns false'. Refute it at one input. -/
def fnExactPruneToWrong : ChangeSpec := { name := "fnExactPruneTo", fn := fun _ => fun
  | [d1, d2] => { results := [.lit (.bool false)], args := [d1, d2] }
  | _ => none }
def FnExactPruneToWrongFalsely : Prop := fnExactPruneToRow.holds Tryd.pinned (OpenSpec.ofChange fnExactPruneToWrong)

/-- 'laws.FnExactDropLets': WHATEVER THE INPUT: true; the input reads as it did. -/
def fnExactDropLetsSpec : ChangeSpec := { name := "fnExactDropLets", fn := fun _ => fun
  | [d] => { results := [.lit (.bool true)], args := [d] }
  | _ => none }
def fnExactDropLetsRow : OpenClaim := { program := "ytoebebgeiahagaadoor", sum := "bb38e7ff7de378ed5625fcbd2ca224edd62722fdf24cee079d8c6d297bef1d10", func := "loop.example/g01292/laws.FnExactDropLets", spec := "fnExactDropLets", inPlace := ["internal/bytealg.CountString", "internal/bytealg.IndexByteString", "internal/bytealg.IndexString"], recurses := true, named := ["unicode/utf8.first", "unicode/utf8.acceptRanges", "internal/bytealg.MaxLen"], apart := false, laid := [("unicode/utf8.acceptRanges", laid_unicode_utf8_acceptRanges), ("unicode/utf8.first", laid_unicode_utf8_first)] }
def FnExactDropLetsSaid : Prop := fnExactDropLetsRow.holds Tryd.pinned (OpenSpec.ofChange fnExactDropLetsSpec)

/-- ITS FALSE NEIGHBOUR: 'it returns false'. Refute it at one input. -/
def fnExactDropLetsWrong : ChangeSpec := { name := "fnExactDropLets", fn := fun _ => fun
  | [d] => { results := [.lit (.bool false)], args := [d] }
  | _ => none }
def FnExactDropLetsWrongFalsely : Prop := fnExactDropLetsRow.holds Tryd.pinned (OpenSpec.ofChange fnExactDropLetsWrong)

/- THE SECOND FORM. 'bulk': how many values and letters a reading holds, each counted each time it is reached (what is shared counts as often as it is met; a slice's spare places count too). A statement '..UptoSaid' is the law's where the arguments, and the package variables that the reading takes, are together of bulk at most 1048576: NARROWER than '..Said'. Prove '..Said' where nothing that the law and all that it calls make is longer than what came in: it says more and counts as full. Else prove '..UptoSaid'. A law counts once. -/
mutual
def uptoBulk {H : Type} : DataW H → Nat
  | .lit (.string bytes) => bytes.length + 1
  | .lit _ => 1
  | .nil => 1
  | .ptr d => uptoBulk d + 1
  | .slice elems spare => uptoBulkAll elems + uptoBulkAll spare + 1
  | .agg parts => uptoBulkAll parts + 1
  | .iface _ d => uptoBulk d + 1
  | .map entries => uptoBulkEntries entries + 1
  | .held _ => 1
def uptoBulkAll {H : Type} : List (DataW H) → Nat
  | [] => 0
  | d :: r => uptoBulk d + uptoBulkAll r
def uptoBulkEntries {H : Type} : List (Lit × DataW H) → Nat
  | [] => 0
  | x :: r => uptoBulkEntry x + uptoBulkEntries r
def uptoBulkEntry {H : Type} : Lit × DataW H → Nat
  | (.string bytes, d) => bytes.length + uptoBulk d + 1
  | (_, d) => uptoBulk d + 1
 end
def uptoSmall : (H : Type) → List (DataW H) → Bool := fun _ ds => decide (uptoBulkAll ds ≤ 1048576)
def OpenSpec.upto (s : _root_.Go.ChangeSpec) : _root_.Go.OpenSpec := { _root_.Go.OpenSpec.ofChange s with cond := some uptoSmall }

/-- 'laws.FnExactEffectOf', WHERE WHAT IT READS IS OF BULK AT MOST 1048576: true; the input reads as it did. -/
def fnExactEffectOfUptoRow : OpenClaim := { program := "ytoebebgeiahagaadoor", sum := "bb38e7ff7de378ed5625fcbd2ca224edd62722fdf24cee079d8c6d297bef1d10", func := "loop.example/g01292/laws.FnExactEffectOf", spec := "fnExactEffectOf", inPlace := ["internal/bytealg.CountString", "internal/bytealg.IndexByteString", "internal/bytealg.IndexString"], recurses := true, named := ["unicode/utf8.first", "unicode/utf8.acceptRanges", "internal/bytealg.MaxLen"], apart := false, laid := [("unicode/utf8.acceptRanges", laid_unicode_utf8_acceptRanges), ("unicode/utf8.first", laid_unicode_utf8_first)], narrowed := true }
def FnExactEffectOfUptoSaid : Prop := fnExactEffectOfUptoRow.holds Tryd.pinned (OpenSpec.upto fnExactEffectOfSpec)

/-- 'laws.FnExactUsedName', WHERE WHAT IT READS IS OF BULK AT MOST 1048576: true; the input reads as it did. -/
def fnExactUsedNameUptoRow : OpenClaim := { program := "ytoebebgeiahagaadoor", sum := "bb38e7ff7de378ed5625fcbd2ca224edd62722fdf24cee079d8c6d297bef1d10", func := "loop.example/g01292/laws.FnExactUsedName", spec := "fnExactUsedName", inPlace := ["internal/bytealg.CountString", "internal/bytealg.IndexByteString", "internal/bytealg.IndexString"], named := ["unicode/utf8.first", "unicode/utf8.acceptRanges", "internal/bytealg.MaxLen"], apart := false, laid := [("unicode/utf8.acceptRanges", laid_unicode_utf8_acceptRanges), ("unicode/utf8.first", laid_unicode_utf8_first)], narrowed := true }
def FnExactUsedNameUptoSaid : Prop := fnExactUsedNameUptoRow.holds Tryd.pinned (OpenSpec.upto fnExactUsedNameSpec)

/-- 'laws.FnExactPruneTo', WHERE WHAT IT READS IS OF BULK AT MOST 1048576: true; the input reads as it did. -/
def fnExactPruneToUptoRow : OpenClaim := { program := "ytoebebgeiahagaadoor", sum := "bb38e7ff7de378ed5625fcbd2ca224edd62722fdf24cee079d8c6d297bef1d10", func := "loop.example/g01292/laws.FnExactPruneTo", spec := "fnExactPruneTo", inPlace := ["internal/bytealg.CountString", "internal/bytealg.IndexByteString", "internal/bytealg.IndexString"], recurses := true, named := ["unicode/utf8.first", "unicode/utf8.acceptRanges", "internal/bytealg.MaxLen"], apart := false, laid := [("unicode/utf8.acceptRanges", laid_unicode_utf8_acceptRanges), ("unicode/utf8.first", laid_unicode_utf8_first)], narrowed := true }
def FnExactPruneToUptoSaid : Prop := fnExactPruneToUptoRow.holds Tryd.pinned (OpenSpec.upto fnExactPruneToSpec)

/-- 'laws.FnExactDropLets', WHERE WHAT IT READS IS OF BULK AT MOST 1048576: true; the input reads as it did. -/
def fnExactDropLetsUptoRow : OpenClaim := { program := "ytoebebgeiahagaadoor", sum := "bb38e7ff7de378ed5625fcbd2ca224edd62722fdf24cee079d8c6d297bef1d10", func := "loop.example/g01292/laws.FnExactDropLets", spec := "fnExactDropLets", inPlace := ["internal/bytealg.CountString", "internal/bytealg.IndexByteString", "internal/bytealg.IndexString"], recurses := true, named := ["unicode/utf8.first", "unicode/utf8.acceptRanges", "internal/bytealg.MaxLen"], apart := false, laid := [("unicode/utf8.acceptRanges", laid_unicode_utf8_acceptRanges), ("unicode/utf8.first", laid_unicode_utf8_first)], narrowed := true }
def FnExactDropLetsUptoSaid : Prop := fnExactDropLetsUptoRow.holds Tryd.pinned (OpenSpec.upto fnExactDropLetsSpec)

end Rows
end Go.Proofs.YtoebebgeiahagaaDoor
