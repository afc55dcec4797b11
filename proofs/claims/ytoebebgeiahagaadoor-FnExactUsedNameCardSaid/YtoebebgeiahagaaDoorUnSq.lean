import Derived.Test.YtoebebgeiahagaaDoorUnWMore
/-! Short names for what the printed proofs say most often. -/
namespace Go.Proofs.YtoebebgeiahagaaDoorW.PrintWords
open Go.RowKit
set_option linter.unusedVariables false
theorem bb0 {P : Prop} (h : P := by repeat (first | (with_reducible first | exact HB.out | apply below_alloc | apply pw_below_drewN | apply below_drew1) | exact HB.out)) : P := h
theorem mm0 {P : Prop} (h : P := by (try simp only [List.map_toArray, List.map_cons, List.map_nil]); first | done | rfl | (simp only [List.length_drop, List.length_take]; rfl)) : P := h
theorem as0 {P : Prop} (h : P := by first | (with_reducible assumption) | assumption) : P := h
theorem rs0 {P : Prop} (h : P := by first | rfl | (simp; done) | (simp [*]; done)) : P := h
theorem bk0 {P Q : Prop} (q : Q) (h : Q → P := by intro q_; (with_reducible repeat (first | refine blk_drewN ?_ _ | refine blk_drew ?_ | refine blk_alloc ?_ _)); exact q_) : P := h q
theorem ra0 {P Q : Prop} (q : Q) (h : Q → P := by intro q_; (with_reducible repeat (first | apply Kd.R_alloc | apply Kd.R_drewN | apply Kd.R_drew)); exact q_) : P := h q
end Go.Proofs.YtoebebgeiahagaaDoorW.PrintWords
