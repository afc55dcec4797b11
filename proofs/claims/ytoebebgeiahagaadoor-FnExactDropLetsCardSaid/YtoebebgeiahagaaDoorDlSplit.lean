/-
 DERIVED: THE SHELF's CONTRACTS AT THIS DUMP, IN PLAIN WORDS (tools/lay-plain.mjs out of 'YtoebebgeiahagaaDoorSplitS.lean', which tools/lay-shelf.mjs wrote): THE SAME DECLARATIONS UNDER THE SAME NAMES: 'import', 'namespace', 'open', 'def', 'theorem' AND NOTHING ELSE: no command of the shelf's: FOR A HAND-IN. Each laying: the table of numbers ('.._ren') and one theorem, a field a fact of the dump's own or the kernel's comparison; each contract: ONE APPLICATION.
-/
import Derived.Shelf.Strings.Split
import Derived.Test.YtoebebgeiahagaaDoorProg
namespace Go.Proofs
open Go.Shelf
def Tryd.lays146_ren : Go.Shelf.Ren := ⟨fun | 146 => 72 | 221 => 73 | 268 => 74 | 138 => 75 | 143 => 76 | 195 => 77 | 197 => 78 | 218 => 79 | 219 => 80 | 260 => 81 | 217 => 82 | 225 => 83 | 224 => 84 | 267 => 85 | 266 => 86 | 314 => 87 | n => n, fun | 9 => 9 | 31 => 78 | 3 => 3 | 4 => 4 | 0 => 0 | 105 => 89 | 21 => 21 | 5 => 5 | 46 => 92 | 119 => 93 | 139 => 96 | 138 => 95 | 146 => 98 | 51 => 97 | n => n, fun | 1 => 0 | 3 => 1 | 4 => 2 | n => n⟩
theorem Tryd.lays146 : Go.Proofs.Lays.n146 Tryd.prog Tryd.lays146_ren := {
 mixed := by kernel_rfl
 f138 := Tryd.func75.trans (congrArg some (by kernel_rfl))
 f143 := Tryd.func76.trans (congrArg some (by kernel_rfl))
 f146 := Tryd.func72.trans (congrArg some (by kernel_rfl))
 f195 := Tryd.func77.trans (congrArg some (by kernel_rfl))
 f197 := Tryd.func78.trans (congrArg some (by kernel_rfl))
 f217 := Tryd.func82.trans (congrArg some (by kernel_rfl))
 f218 := Tryd.func79.trans (congrArg some (by kernel_rfl))
 f219 := Tryd.func80.trans (congrArg some (by kernel_rfl))
 f221 := Tryd.func73.trans (congrArg some (by kernel_rfl))
 f224 := Tryd.func84.trans (congrArg some (by kernel_rfl))
 f225 := Tryd.func83.trans (congrArg some (by kernel_rfl))
 f260 := Tryd.func81.trans (congrArg some (by kernel_rfl))
 f266 := Tryd.func86.trans (congrArg some (by kernel_rfl))
 f267 := Tryd.func85.trans (congrArg some (by kernel_rfl))
 f268 := Tryd.func74.trans (congrArg some (by kernel_rfl))
 f314 := Tryd.func87.trans (congrArg some (by kernel_rfl))
 t0 := Tryd.underlying0
 a0 := Tryd.isAgg0
 z0 := Tryd.sizeOf0
 v0 := Tryd.zeroValue0
 t3 := Tryd.underlying3
 a3 := Tryd.isAgg3
 z3 := Tryd.sizeOf3
 v3 := Tryd.zeroValue3
 t4 := Tryd.underlying4
 a4 := Tryd.isAgg4
 z4 := Tryd.sizeOf4
 v4 := Tryd.zeroValue4
 t5 := Tryd.underlying5
 a5 := Tryd.isAgg5
 z5 := Tryd.sizeOf5
 v5 := Tryd.zeroValue5
 t9 := Tryd.underlying9
 a9 := Tryd.isAgg9
 z9 := Tryd.sizeOf9
 v9 := Tryd.zeroValue9
 t21 := Tryd.underlying21
 a21 := Tryd.isAgg21
 z21 := Tryd.sizeOf21
 v21 := Tryd.zeroValue21
 t31 := Tryd.underlying78
 a31 := Tryd.isAgg78
 z31 := Tryd.sizeOf78
 v31 := Tryd.zeroValue78
 t46 := Tryd.underlying92
 a46 := Tryd.isAgg92
 z46 := Tryd.sizeOf92
 v46 := Tryd.zeroValue92
 t51 := Tryd.underlying97
 a51 := Tryd.isAgg97
 z51 := Tryd.sizeOf97
 v51 := Tryd.zeroValue97
 t105 := Tryd.underlying89
 a105 := Tryd.isAgg89
 z105 := Tryd.sizeOf89
 v105 := Tryd.zeroValue89
 t119 := Tryd.underlying93
 a119 := Tryd.isAgg93
 z119 := Tryd.sizeOf93
 t138 := Tryd.underlying95
 a138 := Tryd.isAgg95
 z138 := Tryd.sizeOf95
 v138 := Tryd.zeroValue95
 t139 := Tryd.underlying96
 a139 := Tryd.isAgg96
 z139 := Tryd.sizeOf96
 v139 := Tryd.zeroValue96
 t146 := Tryd.underlying98
 a146 := Tryd.isAgg98
 z146 := Tryd.sizeOf98
 v146 := Tryd.zeroValue98
 g1 := by kernel_rfl
 g3 := by kernel_rfl
 g4 := by kernel_rfl }
end Go.Proofs
