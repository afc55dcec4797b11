/-
  No cell of these rows narrows 'for every input' (looked for: loops, veiled, ifaces, maps, wideKeys, modest, calm, conditions, laid).
  DERIVED. THE GIVEN ROWS OF THIS SEAT. 8 by the template 'for every input the law returns true; each argument reads behind the call as it read before'; 0 by the template 'total and deterministic' (their statements: YtcakbhpmhekmcaaTotals.lean).
  GIVEN WITH THE SEED: the statements are not yours to turn. If you find one false, say at which input.
  Laid BY PROGRAM, IN A SANDBOX (cutbox-rows.mjs): the forced cells as the released guide's own fill.sh prints them over the translation 952bb274befbe6c7… (all of the seat's roots in one cut). By AI agents, Wed Nov 11 2026. No macro, syntax, notation, axiom, sorry.
-/
import Derived.Test.YtcakbhpmhekmcaaChecked
import GoSem.Claim
import GoSem.ClaimJoined
import GoSem.ClaimMapViews
import Derived.JoinedTies
import Derived.KernelRfl
namespace Go.Proofs.Ytcakbhpmhekmcaa
/- THE CELL 'sum', in the pinned program and in every row, IS THE sha256 OF THE DUMP (.gsa) THAT YtcakbhpmhekmcaaProg.lean LOADS. Nothing in Lean hashes anything: it is a label: what it is worth is what the hold of that sum in a sandbox is worth. -/
noncomputable def Try.pinned : Pinned := { name := "ytcakbhpmhekmcaa", sum := "952bb274befbe6c74aceb0814e2c9855eb51df1fbe157351b19e5290938c5923", checked := Try.checked }
namespace Rows
def none {H : Type} : Left H := { results := [], args := [] }

/-- 'laws.FnExactUnionOk': WHATEVER THE INPUT: true; the input reads as it did. -/
def fnExactUnionOkSpec : ChangeSpec := { name := "fnExactUnionOk", fn := fun _ => fun
  | [d] => { results := [.lit (.bool true)], args := [d] }
  | _ => none }
def fnExactUnionOkRow : OpenClaim := { program := "ytcakbhpmhekmcaa", sum := "952bb274befbe6c74aceb0814e2c9855eb51df1fbe157351b19e5290938c5923", func := "loop.example/g01292/laws.FnExactUnionOk", spec := "fnExactUnionOk", apart := false }
def FnExactUnionOkSaid : Prop := fnExactUnionOkRow.holds Try.pinned (OpenSpec.ofChange fnExactUnionOkSpec)

/-- ITS FALSE NEIGHBOUR: 'it returns false'. Refute it at one input. -/
def fnExactUnionOkWrong : ChangeSpec := { name := "fnExactUnionOk", fn := fun _ => fun
  | [d] => { results := [.lit (.bool false)], args := [d] }
  | _ => none }
def FnExactUnionOkWrongFalsely : Prop := fnExactUnionOkRow.holds Try.pinned (OpenSpec.ofChange fnExactUnionOkWrong)

/-- 'laws.FnExactUnionNew': WHATEVER THE INPUT: true; the input reads as it did. -/
def fnExactUnionNewSpec : ChangeSpec := { name := "fnExactUnionNew", fn := fun _ => fun
  | [d] => { results := [.lit (.bool true)], args := [d] }
  | _ => none }
def fnExactUnionNewRow : OpenClaim := { program := "ytcakbhpmhekmcaa", sum := "952bb274befbe6c74aceb0814e2c9855eb51df1fbe157351b19e5290938c5923", func := "loop.example/g01292/laws.FnExactUnionNew", spec := "fnExactUnionNew", apart := false }
def FnExactUnionNewSaid : Prop := fnExactUnionNewRow.holds Try.pinned (OpenSpec.ofChange fnExactUnionNewSpec)

/-- ITS FALSE NEIGHBOUR: 'it returns false'. Refute it at one input. -/
def fnExactUnionNewWrong : ChangeSpec := { name := "fnExactUnionNew", fn := fun _ => fun
  | [d] => { results := [.lit (.bool false)], args := [d] }
  | _ => none }
def FnExactUnionNewWrongFalsely : Prop := fnExactUnionNewRow.holds Try.pinned (OpenSpec.ofChange fnExactUnionNewWrong)

/-- 'laws.FnExactUnionFind': WHATEVER THE INPUT: true; the input reads as it did. -/
def fnExactUnionFindSpec : ChangeSpec := { name := "fnExactUnionFind", fn := fun _ => fun
  | [d1, d2] => { results := [.lit (.bool true)], args := [d1, d2] }
  | _ => none }
def fnExactUnionFindRow : OpenClaim := { program := "ytcakbhpmhekmcaa", sum := "952bb274befbe6c74aceb0814e2c9855eb51df1fbe157351b19e5290938c5923", func := "loop.example/g01292/laws.FnExactUnionFind", spec := "fnExactUnionFind", apart := false }
def FnExactUnionFindSaid : Prop := fnExactUnionFindRow.holds Try.pinned (OpenSpec.ofChange fnExactUnionFindSpec)

/-- ITS FALSE NEIGHBOUR: 'it returns false'. Refute it at one input. -/
def fnExactUnionFindWrong : ChangeSpec := { name := "fnExactUnionFind", fn := fun _ => fun
  | [d1, d2] => { results := [.lit (.bool false)], args := [d1, d2] }
  | _ => none }
def FnExactUnionFindWrongFalsely : Prop := fnExactUnionFindRow.holds Try.pinned (OpenSpec.ofChange fnExactUnionFindWrong)

/-- 'laws.FnExactUnionClasses': WHATEVER THE INPUT: true; the input reads as it did. -/
def fnExactUnionClassesSpec : ChangeSpec := { name := "fnExactUnionClasses", fn := fun _ => fun
  | [d] => { results := [.lit (.bool true)], args := [d] }
  | _ => none }
def fnExactUnionClassesRow : OpenClaim := { program := "ytcakbhpmhekmcaa", sum := "952bb274befbe6c74aceb0814e2c9855eb51df1fbe157351b19e5290938c5923", func := "loop.example/g01292/laws.FnExactUnionClasses", spec := "fnExactUnionClasses", apart := false }
def FnExactUnionClassesSaid : Prop := fnExactUnionClassesRow.holds Try.pinned (OpenSpec.ofChange fnExactUnionClassesSpec)

/-- ITS FALSE NEIGHBOUR: 'it returns false'. Refute it at one input. -/
def fnExactUnionClassesWrong : ChangeSpec := { name := "fnExactUnionClasses", fn := fun _ => fun
  | [d] => { results := [.lit (.bool false)], args := [d] }
  | _ => none }
def FnExactUnionClassesWrongFalsely : Prop := fnExactUnionClassesRow.holds Try.pinned (OpenSpec.ofChange fnExactUnionClassesWrong)

/-- 'laws.FnExactUnionJoin': WHATEVER THE INPUT: true; the input reads as it did. -/
def fnExactUnionJoinSpec : ChangeSpec := { name := "fnExactUnionJoin", fn := fun _ => fun
  | [d1, d2, d3] => { results := [.lit (.bool true)], args := [d1, d2, d3] }
  | _ => none }
def fnExactUnionJoinRow : OpenClaim := { program := "ytcakbhpmhekmcaa", sum := "952bb274befbe6c74aceb0814e2c9855eb51df1fbe157351b19e5290938c5923", func := "loop.example/g01292/laws.FnExactUnionJoin", spec := "fnExactUnionJoin", apart := false }
def FnExactUnionJoinSaid : Prop := fnExactUnionJoinRow.holds Try.pinned (OpenSpec.ofChange fnExactUnionJoinSpec)

/-- ITS FALSE NEIGHBOUR: 'it returns false'. Refute it at one input. -/
def fnExactUnionJoinWrong : ChangeSpec := { name := "fnExactUnionJoin", fn := fun _ => fun
  | [d1, d2, d3] => { results := [.lit (.bool false)], args := [d1, d2, d3] }
  | _ => none }
def FnExactUnionJoinWrongFalsely : Prop := fnExactUnionJoinRow.holds Try.pinned (OpenSpec.ofChange fnExactUnionJoinWrong)

/-- 'laws.FnOnward': WHATEVER THE INPUT: true; the input reads as it did. -/
def fnOnwardSpec : ChangeSpec := { name := "fnOnward", fn := fun _ => fun
  | [d] => { results := [.lit (.bool true)], args := [d] }
  | _ => none }
def fnOnwardRow : OpenClaim := { program := "ytcakbhpmhekmcaa", sum := "952bb274befbe6c74aceb0814e2c9855eb51df1fbe157351b19e5290938c5923", func := "loop.example/g01292/laws.FnOnward", spec := "fnOnward", apart := false }
def FnOnwardSaid : Prop := fnOnwardRow.holds Try.pinned (OpenSpec.ofChange fnOnwardSpec)

/-- ITS FALSE NEIGHBOUR: 'it returns false'. Refute it at one input. -/
def fnOnwardWrong : ChangeSpec := { name := "fnOnward", fn := fun _ => fun
  | [d] => { results := [.lit (.bool false)], args := [d] }
  | _ => none }
def FnOnwardWrongFalsely : Prop := fnOnwardRow.holds Try.pinned (OpenSpec.ofChange fnOnwardWrong)

/-- 'laws.FnUnions': WHATEVER THE INPUT: true; the input reads as it did. -/
def fnUnionsSpec : ChangeSpec := { name := "fnUnions", fn := fun _ => fun
  | [d] => { results := [.lit (.bool true)], args := [d] }
  | _ => none }
def fnUnionsRow : OpenClaim := { program := "ytcakbhpmhekmcaa", sum := "952bb274befbe6c74aceb0814e2c9855eb51df1fbe157351b19e5290938c5923", func := "loop.example/g01292/laws.FnUnions", spec := "fnUnions", apart := false }
def FnUnionsSaid : Prop := fnUnionsRow.holds Try.pinned (OpenSpec.ofChange fnUnionsSpec)

/-- ITS FALSE NEIGHBOUR: 'it returns false'. Refute it at one input. -/
def fnUnionsWrong : ChangeSpec := { name := "fnUnions", fn := fun _ => fun
  | [d] => { results := [.lit (.bool false)], args := [d] }
  | _ => none }
def FnUnionsWrongFalsely : Prop := fnUnionsRow.holds Try.pinned (OpenSpec.ofChange fnUnionsWrong)

/-- 'laws.FnExactOnward': WHATEVER THE INPUT: true; the input reads as it did. -/
def fnExactOnwardSpec : ChangeSpec := { name := "fnExactOnward", fn := fun _ => fun
  | [d1, d2] => { results := [.lit (.bool true)], args := [d1, d2] }
  | _ => none }
def fnExactOnwardRow : OpenClaim := { program := "ytcakbhpmhekmcaa", sum := "952bb274befbe6c74aceb0814e2c9855eb51df1fbe157351b19e5290938c5923", func := "loop.example/g01292/laws.FnExactOnward", spec := "fnExactOnward", apart := false }
def FnExactOnwardSaid : Prop := fnExactOnwardRow.holds Try.pinned (OpenSpec.ofChange fnExactOnwardSpec)

/-- ITS FALSE NEIGHBOUR: 'it returns false'. Refute it at one input. -/
def fnExactOnwardWrong : ChangeSpec := { name := "fnExactOnward", fn := fun _ => fun
  | [d1, d2] => { results := [.lit (.bool false)], args := [d1, d2] }
  | _ => none }
def FnExactOnwardWrongFalsely : Prop := fnExactOnwardRow.holds Try.pinned (OpenSpec.ofChange fnExactOnwardWrong)

/- THE SECOND FORM. 'bulk': how many values and letters a reading holds, each counted each time it is reached (what is shared counts as often as it is met; a slice's spare places count too). A statement '..UptoSaid' is the law's where the arguments, and the package variables that the reading takes, are together of bulk at most 1048576: NARROWER than '..Said'. Prove '..Said' where nothing that the law and all that it calls make is longer than what came in: it says more and counts as full. Else prove '..UptoSaid'. A law counts once. -/
mutual
def uptoBulk {H : Type} : DataW H → Nat
  | .lit (.string bytes) => bytes.length + 1
  | .lit _ => 1
  | .nil => 1
  | .ptr d => uptoBulk d + 1
  | .slice elems spare => uptoBulkAll elems + uptoBulkAll spare + 1
  | .agg parts => uptoBulkAll parts + 1
  | .iface _ d => uptoBulk d + 1
  | .map entries => uptoBulkEntries entries + 1
  | .held _ => 1
def uptoBulkAll {H : Type} : List (DataW H) → Nat
  | [] => 0
  | d :: r => uptoBulk d + uptoBulkAll r
def uptoBulkEntries {H : Type} : List (Lit × DataW H) → Nat
  | [] => 0
  | x :: r => uptoBulkEntry x + uptoBulkEntries r
def uptoBulkEntry {H : Type} : Lit × DataW H → Nat
  | (.string bytes, d) => bytes.length + uptoBulk d + 1
  | (_, d) => uptoBulk d + 1
 end
def uptoSmall : (H : Type) → List (DataW H) → Bool := fun _ ds => decide (uptoBulkAll ds ≤ 1048576)
def OpenSpec.upto (s : _root_.Go.ChangeSpec) : _root_.Go.OpenSpec := { _root_.Go.OpenSpec.ofChange s with cond := some uptoSmall }

/-- 'laws.FnExactUnionOk', WHERE WHAT IT READS IS OF BULK AT MOST 1048576: true; the input reads as it did. -/
def fnExactUnionOkUptoRow : OpenClaim := { program := "ytcakbhpmhekmcaa", sum := "952bb274befbe6c74aceb0814e2c9855eb51df1fbe157351b19e5290938c5923", func := "loop.example/g01292/laws.FnExactUnionOk", spec := "fnExactUnionOk", apart := false, narrowed := true }
def FnExactUnionOkUptoSaid : Prop := fnExactUnionOkUptoRow.holds Try.pinned (OpenSpec.upto fnExactUnionOkSpec)

/-- 'laws.FnExactUnionNew', WHERE WHAT IT READS IS OF BULK AT MOST 1048576: true; the input reads as it did. -/
def fnExactUnionNewUptoRow : OpenClaim := { program := "ytcakbhpmhekmcaa", sum := "952bb274befbe6c74aceb0814e2c9855eb51df1fbe157351b19e5290938c5923", func := "loop.example/g01292/laws.FnExactUnionNew", spec := "fnExactUnionNew", apart := false, narrowed := true }
def FnExactUnionNewUptoSaid : Prop := fnExactUnionNewUptoRow.holds Try.pinned (OpenSpec.upto fnExactUnionNewSpec)

/-- 'laws.FnExactUnionFind', WHERE WHAT IT READS IS OF BULK AT MOST 1048576: true; the input reads as it did. -/
def fnExactUnionFindUptoRow : OpenClaim := { program := "ytcakbhpmhekmcaa", sum := "952bb274befbe6c74aceb0814e2c9855eb51df1fbe157351b19e5290938c5923", func := "loop.example/g01292/laws.FnExactUnionFind", spec := "fnExactUnionFind", apart := false, narrowed := true }
def FnExactUnionFindUptoSaid : Prop := fnExactUnionFindUptoRow.holds Try.pinned (OpenSpec.upto fnExactUnionFindSpec)

/-- 'laws.FnExactUnionClasses', WHERE WHAT IT READS IS OF BULK AT MOST 1048576: true; the input reads as it did. -/
def fnExactUnionClassesUptoRow : OpenClaim := { program := "ytcakbhpmhekmcaa", sum := "952bb274befbe6c74aceb0814e2c9855eb51df1fbe157351b19e5290938c5923", func := "loop.example/g01292/laws.FnExactUnionClasses", spec := "fnExactUnionClasses", apart := false, narrowed := true }
def FnExactUnionClassesUptoSaid : Prop := fnExactUnionClassesUptoRow.holds Try.pinned (OpenSpec.upto fnExactUnionClassesSpec)

/-- 'laws.FnExactUnionJoin', WHERE WHAT IT READS IS OF BULK AT MOST 1048576: true; the input reads as it did. -/
def fnExactUnionJoinUptoRow : OpenClaim := { program := "ytcakbhpmhekmcaa", sum := "952bb274befbe6c74aceb0814e2c9855eb51df1fbe157351b19e5290938c5923", func := "loop.example/g01292/laws.FnExactUnionJoin", spec := "fnExactUnionJoin", apart := false, narrowed := true }
def FnExactUnionJoinUptoSaid : Prop := fnExactUnionJoinUptoRow.holds Try.pinned (OpenSpec.upto fnExactUnionJoinSpec)

/-- 'laws.FnOnward', WHERE WHAT IT READS IS OF BULK AT MOST 1048576: true; the input reads as it did. -/
def fnOnwardUptoRow : OpenClaim := { program := "ytcakbhpmhekmcaa", sum := "952bb274befbe6c74aceb0814e2c9855eb51df1fbe157351b19e5290938c5923", func := "loop.example/g01292/laws.FnOnward", spec := "fnOnward", apart := false, narrowed := true }
def FnOnwardUptoSaid : Prop := fnOnwardUptoRow.holds Try.pinned (OpenSpec.upto fnOnwardSpec)

/-- 'laws.FnUnions', WHERE WHAT IT READS IS OF BULK AT MOST 1048576: true; the input reads as it did. -/
def fnUnionsUptoRow : OpenClaim := { program := "ytcakbhpmhekmcaa", sum := "952bb274befbe6c74aceb0814e2c9855eb51df1fbe157351b19e5290938c5923", func := "loop.example/g01292/laws.FnUnions", spec := "fnUnions", apart := false, narrowed := true }
def FnUnionsUptoSaid : Prop := fnUnionsUptoRow.holds Try.pinned (OpenSpec.upto fnUnionsSpec)

/-- 'laws.FnExactOnward', WHERE WHAT IT READS IS OF BULK AT MOST 1048576: true; the input reads as it did. -/
def fnExactOnwardUptoRow : OpenClaim := { program := "ytcakbhpmhekmcaa", sum := "952bb274befbe6c74aceb0814e2c9855eb51df1fbe157351b19e5290938c5923", func := "loop.example/g01292/laws.FnExactOnward", spec := "fnExactOnward", apart := false, narrowed := true }
def FnExactOnwardUptoSaid : Prop := fnExactOnwardUptoRow.holds Try.pinned (OpenSpec.upto fnExactOnwardSpec)

end Rows
end Go.Proofs.Ytcakbhpmhekmcaa
