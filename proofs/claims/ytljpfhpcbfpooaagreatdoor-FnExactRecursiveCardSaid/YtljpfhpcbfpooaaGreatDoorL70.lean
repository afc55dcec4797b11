/- The program's Recursive returns what the reference's returns, for all arguments.: part 31 of a proof by an executable machine over the program's code. -/
import Derived.Test.YtljpfhpcbfpooaaGreatDoorRows
import Derived.JoinedOf
import Derived.KernelRfl
set_option linter.unusedVariables false
set_option linter.unusedSimpArgs false
set_option maxRecDepth 100000
namespace Go.Proofs.YtljpfhpcbfpooaaGreatDoor.fnExactRecursive
open Go Go.Proofs
theorem j1 : (Rows.fnExactRecursiveRow.inPlace == Tryz.pinned.checked.prog.inPlace 7) = true := by kernel_rfl
theorem j2 : (Rows.fnExactRecursiveRow.unfollowed == Tryz.pinned.checked.prog.unfollowed 7) = true := by kernel_rfl
theorem j3 : (Rows.fnExactRecursiveRow.recurses == Tryz.pinned.checked.prog.recurses 7) = true := by kernel_rfl
theorem j4 : (Rows.fnExactRecursiveRow.named == Tryz.pinned.checked.prog.varsNamed 7) = true := by kernel_rfl
theorem j5 : (Rows.fnExactRecursiveRow.lifted == Tryz.pinned.checked.prog.liftsFinal) = true := by kernel_rfl
theorem j6 : Tryz.pinned.checked.prog.stopsHeard = true := by kernel_rfl
theorem j7 : Tryz.pinned.checked.prog.mayEnter = true := by kernel_rfl
theorem j8 : (Tryz.pinned.checked.prog.stops == []) = true := by kernel_rfl
theorem j9 : (Tryz.pinned.checked.prog.stopKnobs == []) = true := by kernel_rfl
theorem j10 : (Rows.fnExactRecursiveRow.plainKeys == Tryz.pinned.checked.prog.plainKeys) = true := by kernel_rfl
theorem j11 : namedTie Tryz.pinned.checked.prog Rows.fnExactRecursiveRow.named Rows.fnExactRecursiveSpec.vars = true := by kernel_rfl
theorem j12 : mapsRowed Tryz.pinned.checked.prog = true := by kernel_rfl
theorem j13 : laidOutB Tryz.pinned.checked.prog = true := by kernel_rfl
theorem joined : joinedFacts Tryz.pinned.checked.prog 7 Tryz.f7 Rows.fnExactRecursiveSpec Rows.fnExactRecursiveRow = true := by
 simp only [joinedFacts, Bool.and_eq_true]
 repeat' apply And.intro
 all_goals with_reducible first | exact j1 | exact j2 | exact j3 | exact j4 | exact j5 | exact j6 | exact j7 | exact j8 | exact j9 | exact j10 | exact j11 | exact j12 | exact j13 | kernel_rfl
end Go.Proofs.YtljpfhpcbfpooaaGreatDoor.fnExactRecursive
