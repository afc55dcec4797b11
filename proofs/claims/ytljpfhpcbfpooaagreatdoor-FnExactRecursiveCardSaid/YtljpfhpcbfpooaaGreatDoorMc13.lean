/- What the statements share: part 13 of a proof by an executable machine over the program's code. -/
import Derived.Test.YtljpfhpcbfpooaaGreatDoorMc12
import Derived.Test.YtljpfhpcbfpooaaGreatDoorProg
set_option linter.unusedVariables false
set_option linter.unusedSimpArgs false
namespace Go.Mach
open Go Go.RowKit Go.Proofs
def ty : TypeId → TyI
 | 2 => ⟨(.int .i64), 1, 8, [.int .i64 0], false⟩
 | 3 => ⟨(.int .i64), 1, 8, [.int .i64 0], false⟩
 | 4 => ⟨.bool, 1, 1, [.bool false], false⟩
 | 5 => ⟨(.int .u8), 1, 1, [.int .u8 0], false⟩
 | 6 => ⟨(.int .u8), 1, 1, [.int .u8 0], false⟩
 | 7 => ⟨(.st [(0, 1, false), (1, 1, false), (2, 1, false), (3, 1, false)]), 4, 24, [.int .i64 0, .int .i64 0, .bool false, .int .u8 0], false⟩
 | 9 => ⟨.str, 1, 16, [.str ⟨#[]⟩], false⟩
 | 12 => ⟨(.int .u64), 1, 8, [.int .u64 0], false⟩
 | 22 => ⟨(.sl 5 1 1), 1, 24, [.sl .nil 1 []], false⟩
 | 24 => ⟨(.sl 47 7 72), 1, 24, [.sl .nil 7 []], false⟩
 | 28 => ⟨(.sl 34 6 48), 1, 24, [.sl .nil 6 []], false⟩
 | 32 => ⟨(.st [(0, 1, false), (1, 1, false), (2, 1, false)]), 3, 24, [.int .i64 0, .int .i64 0, .int .i64 0], true⟩
 | 34 => ⟨(.st [(0, 1, false), (1, 1, false), (2, 1, false), (3, 3, true)]), 6, 48, [.int .i64 0, .int .i64 0, .int .i64 0, .int .i64 0, .int .i64 0, .int .i64 0], true⟩
 | 36 => ⟨(.sl 41 2 16), 1, 24, [.sl .nil 2 []], false⟩
 | 41 => ⟨(.st [(0, 1, false), (1, 1, false)]), 2, 16, [.int .i64 0, .int .i64 0], true⟩
 | 44 => ⟨(.sl 9 1 16), 1, 24, [.sl .nil 1 []], false⟩
 | 47 => ⟨(.st [(0, 1, false), (1, 1, false), (2, 1, false), (3, 1, false), (4, 1, false), (5, 1, false), (6, 1, false)]), 7, 72, [.int .i64 0, .int .i64 0, .int .i64 0, .int .i64 0, .int .i64 0, .str ⟨#[]⟩, .str ⟨#[]⟩], false⟩
 | 49 => ⟨(.st [(0, 1, false), (1, 1, false)]), 2, 16, [.int .i64 0, .int .i64 0], true⟩
 | 55 => ⟨(.sl 3 1 8), 1, 24, [.sl .nil 1 []], false⟩
 | 57 => ⟨(.sl 49 2 16), 1, 24, [.sl .nil 2 []], false⟩
 | 63 => ⟨(.sl 97 7 72), 1, 24, [.sl .nil 7 []], false⟩
 | 73 => ⟨(.ptr 105), 1, 8, [.pnil], false⟩
 | 82 => ⟨(.sl 32 3 24), 1, 24, [.sl .nil 3 []], false⟩
 | 97 => ⟨(.st [(0, 1, false), (1, 1, false), (2, 1, false), (3, 1, false), (4, 1, false), (5, 1, false), (6, 1, false)]), 7, 72, [.int .i64 0, .int .i64 0, .int .i64 0, .int .i64 0, .int .i64 0, .str ⟨#[]⟩, .str ⟨#[]⟩], false⟩
 | 105 => ⟨(.st [(0, 1, false), (1, 1, false), (2, 1, false)]), 3, 40, [.sl .nil 1 [], .int .i64 0, .int .i64 0], false⟩
 | 110 => ⟨(.sl 57 1 24), 1, 24, [.sl .nil 1 []], false⟩
 | 112 => ⟨(.st [(0, 1, false), (1, 1, false), (2, 1, false), (3, 1, false)]), 4, 80, [.sl .nil 7 [], .sl .nil 2 [], .sl .nil 1 [], .int .i64 0], false⟩
 | 139 => ⟨(.int .u64), 1, 8, [.int .u64 0], false⟩
 | 146 => ⟨(.sl 155 4 40), 1, 24, [.sl .nil 4 []], false⟩
 | 150 => ⟨(.st [(0, 1, false), (1, 1, false), (2, 1, false), (3, 1, false), (4, 1, false)]), 5, 56, [.sl .nil 4 [], .int .i64 0, .int .i64 0, .int .i64 0, .int .i64 0], false⟩
 | 155 => ⟨(.st [(0, 1, false), (1, 1, false), (2, 1, false), (3, 1, false)]), 4, 40, [.int .i64 0, .str ⟨#[]⟩, .int .i64 0, .int .i64 0], false⟩
 | 156 => ⟨(.sl 24 1 24), 1, 24, [.sl .nil 1 []], false⟩
 | 160 => ⟨(.ptr 162), 1, 8, [.pnil], false⟩
 | 162 => ⟨(.st [(0, 1, false), (1, 1, false), (2, 1, false), (3, 1, false), (4, 1, false)]), 5, 104, [.sl .nil 7 [], .sl .nil 2 [], .int .i64 0, .sl .nil 6 [], .sl .nil 6 []], false⟩
 | 199 => ⟨(.st [(0, 1, false), (1, 1, false), (2, 1, false)]), 3, 24, [.int .i64 0, .int .i64 0, .int .i64 0], false⟩
 | _ => ⟨.other, 0, 0, [], false⟩
noncomputable def bodyOf (f : Func) : Code := f.body.getD .skip
noncomputable def fni (f : Func) (keep : Nat → List Nat) (ptr : Bool) (nw : Bool := false) (own : Bool := false) : FnI := ⟨bodyOf f, f.ntmps, f.params.toList, f.results.toList, keep, ptr, nw, own⟩
noncomputable def fnT0 : FuncId → Option FnI
 | 3 => some (fni Tryz.f3 (fun | 13 => [3, 5, 6, 8, 12] | 26 => [14, 16, 18] | _ => []) false)
 | 4 => some (fni Tryz.f4 (fun | 9 => [3, 4, 5, 6] | 28 => [3, 4, 5, 10, 11] | _ => []) false)
 | 5 => some (fni Tryz.f5 (fun | 6 => [0, 3, 4, 5, 6] | 31 => [0, 3, 4, 5, 7, 9, 12] | 40 => [5, 9, 13, 14, 15] | _ => []) false)
 | 6 => some (fni Tryz.f6 (fun | 10 => [3, 4, 5, 6, 9] | 20 => [3, 4, 5, 11, 12, 13] | 25 => [3, 4, 5, 11, 12, 14] | _ => []) false)
 | 7 => some (fni Tryz.f7 (fun _ => []) false)
 | 8 => some (fni Tryz.f8 (fun | 14 => [3, 4, 5, 9, 10, 11, 12] | 23 => [9, 11, 13, 14, 15, 16] | _ => []) false)
 | 9 => some (fni Tryz.f9 (fun _ => []) false)
 | 10 => some (fni Tryz.f10 (fun _ => []) false)
 | 11 => some (fni Tryz.f11 (fun _ => []) false)
 | 12 => some (fni Tryz.f12 (fun _ => []) false true)
 | 13 => some (fni Tryz.f13 (fun _ => []) false)
 | 14 => some (fni Tryz.f14 (fun _ => []) false)
 | 15 => some (fni Tryz.f15 (fun | 6 => [0, 6, 8, 22, 23, 24] | 12 => [0, 6, 8, 10, 22, 23, 24, 58, 59, 60] | _ => []) false true)
 | 16 => some (fni Tryz.f16 (fun | 2 => [0, 3, 5] | _ => []) false)
 | 17 => some (fni Tryz.f17 (fun _ => []) false)
 | 18 => some (fni Tryz.f18 (fun _ => []) false)
 | 20 => some (fni Tryz.f20 (fun _ => []) false)
 | 21 => some (fni Tryz.f21 (fun _ => []) false)
 | 22 => some (fni Tryz.f22 (fun | 5 => [0, 1, 5, 6] | _ => []) false)
 | 23 => some (fni Tryz.f23 (fun | 2 => [0, 1, 5] | _ => []) false)
 | _ => none
noncomputable def fnT1 : FuncId → Option FnI
 | 24 => some (fni Tryz.f24 (fun _ => []) false)
 | 25 => some (fni Tryz.f25 (fun | 2 => [0, 1, 5] | _ => []) false)
 | 26 => some (fni Tryz.f26 (fun | 5 => [3, 5, 17, 18, 19] | _ => []) false)
 | 27 => some (fni Tryz.f27 (fun | 5 => [3, 10, 11, 12] | 9 => [3, 4, 10, 11, 12, 22, 23] | _ => []) false)
 | 28 => some (fni Tryz.f28 (fun _ => []) false)
 | 29 => some (fni Tryz.f29 (fun | 3 => [0, 3, 5, 6] | _ => []) false)
 | 30 => some (fni Tryz.f30 (fun _ => []) false true)
 | 31 => some (fni Tryz.f31 (fun | 4 => [2, 9, 18, 19, 20] | _ => []) false true)
 | 32 => some (fni Tryz.f32 (fun _ => []) false)
 | 33 => some (fni Tryz.f33 (fun | 6 => [5, 6, 15, 16] | _ => []) false true)
 | 34 => some (fni Tryz.f34 (fun _ => []) false)
 | 35 => some (fni Tryz.f35 (fun | 4 => [5, 6, 12, 13, 14] | _ => []) false true)
 | 36 => some (fni Tryz.f36 (fun | 4 => [0, 1, 5] | _ => []) false)
 | 37 => some (fni Tryz.f37 (fun _ => []) false true)
 | 38 => some (fni Tryz.f38 (fun | 5 => [0, 1, 5] | _ => []) false)
 | 39 => some (fni Tryz.f39 (fun | 5 => [5, 6, 7, 8] | _ => []) false)
 | 40 => some (fni Tryz.f40 (fun | 3 => [0, 3, 4] | _ => []) false true)
 | 41 => some (fni Tryz.f41 (fun | 4 => [5, 6, 13, 14, 15] | _ => []) false true)
 | 42 => some (fni Tryz.f42 (fun | 4 => [0, 1, 5] | _ => []) false)
 | 43 => some (fni Tryz.f43 (fun | 4 => [0, 1, 5] | _ => []) false)
 | 44 => some (fni Tryz.f44 (fun | 2 => [0, 1, 5] | _ => []) false)
 | 45 => some (fni Tryz.f45 (fun | 2 => [0, 1, 5] | _ => []) false)
 | 46 => some (fni Tryz.f46 (fun | 2 => [0, 1, 5] | _ => []) false)
 | 47 => some (fni Tryz.f47 (fun _ => []) false)
 | _ => none
noncomputable def fnT2 : FuncId → Option FnI
 | 48 => some (fni Tryz.f48 (fun | 4 => [0, 6, 7, 8, 9] | 10 => [0, 6, 7, 8, 9, 10, 11, 12] | _ => []) false)
 | 49 => some (fni Tryz.f49 (fun | 4 => [0, 5, 6, 13, 14, 15] | _ => []) false true)
 | 50 => some (fni Tryz.f50 (fun _ => []) false)
 | 51 => some (fni Tryz.f51 (fun _ => []) false)
 | 52 => some (fni Tryz.f52 (fun | 4 => [2, 9, 18, 19, 20] | _ => []) false true)
 | 53 => some (fni Tryz.f53 (fun | 4 => [0, 7, 16, 17, 18] | _ => []) false true)
 | 54 => some (fni Tryz.f54 (fun | 3 => [0, 1, 5, 6] | 6 => [0, 1, 5, 6, 7] | _ => []) false)
 | 55 => some (fni Tryz.f55 (fun | 3 => [0, 3, 4] | _ => []) true)
 | 56 => some (fni Tryz.f56 (fun _ => []) true)
 | 57 => some (fni Tryz.f57 (fun _ => []) false true)
 | 58 => some (fni Tryz.f58 (fun | 5 => [2, 9, 10] | _ => []) false)
 | 59 => some (fni Tryz.f59 (fun _ => []) false)
 | 60 => some (fni Tryz.f60 (fun | 2 => [0, 3] | _ => []) false)
 | 61 => some (fni Tryz.f61 (fun | 3 => [0, 3, 5, 6] | _ => []) false)
 | 62 => some (fni Tryz.f62 (fun | 3 => [0, 1, 2, 3, 9, 10] | _ => []) false)
 | 63 => some (fni Tryz.f63 (fun | 4 => [1, 3, 10, 11, 12] | _ => []) false true)
 | 64 => some (fni Tryz.f64 (fun | 5 => [0, 4, 5] | _ => []) true)
 | 65 => some (fni Tryz.f65 (fun _ => []) false)
 | 66 => some (fni Tryz.f66 (fun | 3 => [0, 4, 5] | 10 => [0, 4, 5, 6, 7, 8] | _ => []) false)
 | 67 => some (fni Tryz.f67 (fun | 5 => [0, 3, 16, 17, 18] | 12 => [0, 3, 4, 6, 7, 8, 16, 17, 18] | _ => []) false)
 | 68 => some (fni Tryz.f68 (fun | 4 => [0, 3, 4, 10, 11, 12] | _ => []) false)
 | 69 => some (fni Tryz.f69 (fun | 4 => [0, 3, 8, 9, 10] | _ => []) false)
 | 70 => some (fni Tryz.f70 (fun _ => []) false)
 | 71 => some (fni Tryz.f71 (fun | 3 => [0, 3, 13, 14] | 8 => [3, 21, 22, 23] | 11 => [3, 5, 21, 22, 23, 29, 30, 31] | _ => []) false)
 | _ => none
noncomputable def fnT3 : FuncId → Option FnI
 | 72 => some (fni Tryz.f72 (fun _ => []) false)
 | 73 => some (fni Tryz.f73 (fun | 1 => [0, 1] | _ => []) false)
 | 74 => some (fni Tryz.f74 (fun _ => []) false)
 | 75 => some (fni Tryz.f75 (fun | 6 => [0, 1, 4, 5, 6, 7] | 10 => [0, 1, 4, 5, 7, 8, 9, 10] | _ => []) false)
 | 76 => some (fni Tryz.f76 (fun | 4 => [2, 9, 18, 19, 20] | _ => []) false true)
 | 77 => some (fni Tryz.f77 (fun _ => []) false)
 | 78 => some (fni Tryz.f78 (fun | 2 => [0, 1, 5] | _ => []) false true)
 | 79 => some (fni Tryz.f79 (fun | 2 => [1, 7, 8, 9] | _ => []) false)
 | 80 => some (fni Tryz.f80 (fun _ => []) false)
 | 81 => some (fni Tryz.f81 (fun | 2 => [0, 1, 5] | _ => []) false)
 | 82 => some (fni Tryz.f82 (fun _ => []) false)
 | 83 => some (fni Tryz.f83 (fun _ => []) false)
 | 84 => some (fni Tryz.f84 (fun _ => []) false)
 | 85 => some (fni Tryz.f85 (fun | 4 => [0, 5, 6, 8] | _ => []) false)
 | 86 => some (fni Tryz.f86 (fun | 3 => [0, 3, 4] | _ => []) false)
 | 87 => some (fni Tryz.f87 (fun _ => []) false)
 | 88 => some (fni Tryz.f88 (fun | 3 => [0, 5, 6] | 7 => [0, 5, 6, 7, 20, 21, 22] | _ => []) false true)
 | 89 => some (fni Tryz.f89 (fun _ => []) false)
 | 90 => some (fni Tryz.f90 (fun | 4 => [0, 3] | _ => []) false)
 | 91 => some (fni Tryz.f91 (fun | 3 => [0, 1, 2, 3, 9, 10] | _ => []) false)
 | 92 => some (fni Tryz.f92 (fun | 4 => [0, 3, 5, 6, 7] | _ => []) false)
 | 93 => some (fni Tryz.f93 (fun | 5 => [1, 5, 11, 12, 13] | _ => []) false)
 | 94 => some (fni Tryz.f94 (fun _ => []) false)
 | 95 => some (fni Tryz.f95 (fun _ => []) false)
 | _ => none
noncomputable def fnT4 : FuncId → Option FnI
 | 96 => some (fni Tryz.f96 (fun _ => []) false)
 | 97 => some (fni Tryz.f97 (fun | 4 => [0, 1, 5, 6, 7] | _ => []) false)
 | 98 => some (fni Tryz.f98 (fun _ => []) true)
 | 99 => some (fni Tryz.f99 (fun _ => []) true)
 | 100 => some (fni Tryz.f100 (fun _ => []) true)
 | 101 => some (fni Tryz.f101 (fun | 5 => [0, 1, 9, 28, 29, 30] | 13 => [0, 1, 9, 12, 44] | _ => []) false true)
 | 102 => some (fni Tryz.f102 (fun _ => []) false)
 | 103 => some (fni Tryz.f103 (fun | 2 => [0, 1, 5] | _ => []) false)
 | 104 => some (fni Tryz.f104 (fun | 3 => [0, 4, 5, 6] | _ => []) false)
 | 105 => some (fni Tryz.f105 (fun | 3 => [1, 2, 5, 6] | _ => []) false)
 | 106 => some (fni Tryz.f106 (fun _ => []) false)
 | 107 => some (fni Tryz.f107 (fun | 2 => [0, 3, 5, 6] | _ => []) false)
 | 109 => some (fni Tryz.f109 (fun _ => []) false)
 | 110 => some (fni Tryz.f110 (fun _ => []) true)
 | 111 => some (fni Tryz.f111 (fun | 17 => [0, 3] | _ => []) true)
 | 112 => some (fni Tryz.f112 (fun _ => []) true)
 | 113 => some (fni Tryz.f113 (fun _ => []) false)
 | 114 => some (fni Tryz.f114 (fun | 4 => [1, 35, 36, 37] | _ => []) false)
 | 115 => some (fni Tryz.f115 (fun _ => []) false)
 | 116 => some (fni Tryz.f116 (fun | 1 => [0, 1, 2, 3, 8] | 4 => [0, 1, 2, 3, 8, 10, 30, 31, 32] | _ => []) false)
 | 118 => some (fni Tryz.f118 (fun _ => []) false)
 | 119 => some (fni Tryz.f119 (fun _ => []) false)
 | _ => none
noncomputable def fnT5 : FuncId → Option FnI
 | 120 => some (fni Tryz.f120 (fun _ => []) false)
 | 121 => some (fni Tryz.f121 (fun | 5 => [0, 5, 6] | _ => []) false)
 | 122 => some (fni Tryz.f122 (fun _ => []) false)
 | 123 => some (fni Tryz.f123 (fun | 1 => [0, 1, 2] | _ => []) false)
 | 124 => some (fni Tryz.f124 (fun _ => []) false)
 | 125 => some (fni Tryz.f125 (fun _ => []) true)
 | 126 => some (fni Tryz.f126 (fun | 15 => [0, 1, 5, 6, 7, 8] | _ => []) true)
 | 127 => some (fni Tryz.f127 (fun | 2 => [0, 3] | _ => []) true)
 | 128 => some (fni Tryz.f128 (fun _ => []) false)
 | 129 => some (fni Tryz.f129 (fun | 2 => [0, 3] | _ => []) false)
 | 130 => some (fni Tryz.f130 (fun _ => []) false)
 | 131 => some (fni Tryz.f131 (fun _ => []) false)
 | 132 => some (fni Tryz.f132 (fun | 3 => [0, 1, 5, 12, 13, 14] | _ => []) false)
 | 134 => some (fni Tryz.f134 (fun _ => []) false)
 | 135 => some (fni Tryz.f135 (fun | 5 => [0, 1, 5, 6] | 12 => [0, 1, 5, 6, 7, 8, 9] | _ => []) false)
 | 136 => some (fni Tryz.f136 (fun | 25 => [1, 2, 3, 4, 5, 11, 14, 15] | _ => []) false)
 | 137 => some (fni Tryz.f137 (fun _ => []) false)
 | 143 => some (fni Tryz.f143 (fun _ => []) true)
 | _ => none
noncomputable def fnT6 : FuncId → Option FnI
 | 144 => some (fni Tryz.f144 (fun _ => []) false)
 | 145 => some (fni Tryz.f145 (fun _ => []) false)
 | 146 => some (fni Tryz.f146 (fun _ => []) false)
 | 148 => some (fni Tryz.f148 (fun _ => []) false)
 | 149 => some (fni Tryz.f149 (fun | 5 => [0, 4, 5] | 11 => [0, 4, 5] | _ => []) false)
 | 150 => some (fni Tryz.f150 (fun | 28 => [1, 2, 4, 13, 14, 15, 16] | 44 => [1, 2, 4, 14, 15, 21] | _ => []) false)
 | 151 => some (fni Tryz.f151 (fun _ => []) false)
 | 152 => some (fni Tryz.f152 (fun | 3 => [1, 2, 5, 6] | _ => []) false)
 | 153 => some (fni Tryz.f153 (fun | 3 => [0, 1, 2, 3, 4, 11, 12] | 7 => [0, 1, 2, 3, 4, 11, 12, 13, 14] | _ => []) true)
 | 154 => some (fni Tryz.f154 (fun _ => []) false)
 | 155 => some (fni Tryz.f155 (fun _ => []) true)
 | 157 => some (fni Tryz.f157 (fun _ => []) false)
 | 159 => some (fni Tryz.f159 (fun | 3 => [0, 3, 4] | _ => []) false)
 | 160 => some (fni Tryz.f160 (fun _ => []) false)
 | 161 => some (fni Tryz.f161 (fun _ => []) false)
 | 162 => some (fni Tryz.f162 (fun | 3 => [0, 5, 6, 7, 17, 18] | _ => []) false)
 | 163 => some (fni Tryz.f163 (fun _ => []) false)
 | 164 => some (fni Tryz.f164 (fun _ => []) false)
 | 165 => some (fni Tryz.f165 (fun _ => []) false)
 | 166 => some (fni Tryz.f166 (fun _ => []) false)
 | 167 => some (fni Tryz.f167 (fun | 18 => [1, 2, 3, 4, 11, 12, 13, 14] | _ => []) false)
 | _ => none
noncomputable def fnT7 : FuncId → Option FnI
 | 168 => some (fni Tryz.f168 (fun _ => []) false)
 | 188 => some (fni Tryz.f188 (fun | 2 => [0, 3] | _ => []) false)
 | 189 => some (fni Tryz.f189 (fun | 3 => [0, 3, 4] | _ => []) false)
 | 190 => some (fni Tryz.f190 (fun _ => []) false)
 | _ => none
noncomputable def fnT8 : FuncId → Option FnI
 | 192 => some (fni Tryz.f192 (fun _ => []) false)
 | 193 => some (fni Tryz.f193 (fun | 1 => [0, 1, 2] | _ => []) false)
 | 194 => some (fni Tryz.f194 (fun _ => []) false)
 | 195 => some (fni Tryz.f195 (fun | 4 => [0, 4, 5, 6] | _ => []) false)
 | 196 => some (fni Tryz.f196 (fun _ => []) false)
 | 197 => some (fni Tryz.f197 (fun _ => []) false)
 | 198 => some (fni Tryz.f198 (fun _ => []) false)
 | 199 => some (fni Tryz.f199 (fun | 3 => [0, 1, 5, 6] | _ => []) false)
 | 200 => some (fni Tryz.f200 (fun _ => []) false)
 | 201 => some (fni Tryz.f201 (fun _ => []) true)
 | 202 => some (fni Tryz.f202 (fun _ => []) true)
 | 203 => some (fni Tryz.f203 (fun | 2 => [0, 5, 10, 11, 12] | _ => []) true)
 | 204 => some (fni Tryz.f204 (fun _ => []) false)
 | 205 => some (fni Tryz.f205 (fun _ => []) true)
 | 206 => some (fni Tryz.f206 (fun _ => []) true)
 | 207 => some (fni Tryz.f207 (fun _ => []) true)
 | 208 => some (fni Tryz.f208 (fun | 3 => [0, 1, 2, 7, 20, 21, 22] | _ => []) true)
 | 210 => some (fni Tryz.f210 (fun | 3 => [3, 6, 7, 8] | _ => []) false)
 | 211 => some (fni Tryz.f211 (fun _ => []) false)
 | 212 => some (fni Tryz.f212 (fun | 4 => [0, 1, 5, 6, 7] | _ => []) false)
 | 213 => some (fni Tryz.f213 (fun _ => []) false)
 | 214 => some (fni Tryz.f214 (fun | 4 => [1, 2, 3, 4, 5, 11, 12, 13] | 11 => [1, 2, 3, 4, 5, 11, 12, 13, 14, 15, 16] | _ => []) false)
 | 215 => some (fni Tryz.f215 (fun | 3 => [3, 9, 10] | _ => []) false)
 | _ => none
noncomputable def fnT9 : FuncId → Option FnI
 | 216 => some (fni Tryz.f216 (fun | 3 => [1, 2, 4, 5, 6, 7, 8, 19, 20] | _ => []) false)
 | 222 => some (fni Tryz.f222 (fun _ => []) false)
 | 223 => some (fni Tryz.f223 (fun | 2 => [0, 3] | _ => []) false)
 | 224 => some (fni Tryz.f224 (fun | 2 => [0, 5, 6, 7] | _ => []) false)
 | 234 => some (fni Tryz.f234 (fun | 5 => [0, 3, 4] | _ => []) false)
 | 235 => some (fni Tryz.f235 (fun _ => []) true)
 | 236 => some (fni Tryz.f236 (fun | 7 => [0, 1, 2, 11, 46, 47, 48] | 20 => [0, 11, 104, 105, 106] | _ => []) true)
 | 237 => some (fni Tryz.f237 (fun | 3 => [2, 7, 12, 13, 14] | _ => []) true)
 | 238 => some (fni Tryz.f238 (fun | 5 => [0, 1, 2, 8, 10, 28, 29, 30] | _ => []) true)
 | 239 => some (fni Tryz.f239 (fun _ => []) true)
 | _ => none
noncomputable def fnT10 : FuncId → Option FnI
 | 248 => some (fni Tryz.f248 (fun _ => []) false)
 | 249 => some (fni Tryz.f249 (fun _ => []) false)
 | 258 => some (fni Tryz.f258 (fun | 5 => [0, 1, 2, 8, 10, 11, 52, 53, 54] | _ => []) true)
 | 259 => some (fni Tryz.f259 (fun | 2 => [0, 3, 9, 15, 16, 17] | _ => []) true)
 | _ => none
noncomputable def fnT11 : FuncId → Option FnI
 | 265 => some (fni Tryz.f265 (fun _ => []) false)
 | 266 => some (fni Tryz.f266 (fun _ => []) false)
 | 267 => some (fni Tryz.f267 (fun | 4 => [0, 1, 2, 7, 8, 9, 10] | 9 => [0, 1, 2, 7, 8, 9, 10, 11, 12, 48, 49, 50] | _ => []) false)
 | 272 => some (fni Tryz.f272 (fun _ => []) false)
 | _ => none
noncomputable def fnT (f : FuncId) : Option FnI :=
 match Nat.ble f 23 with
 | true => fnT0 f
 | false =>
  match Nat.ble f 47 with
  | true => fnT1 f
  | false =>
   match Nat.ble f 71 with
   | true => fnT2 f
   | false =>
    match Nat.ble f 95 with
    | true => fnT3 f
    | false =>
     match Nat.ble f 119 with
     | true => fnT4 f
     | false =>
      match Nat.ble f 143 with
      | true => fnT5 f
      | false =>
       match Nat.ble f 167 with
       | true => fnT6 f
       | false =>
        match Nat.ble f 191 with
        | true => fnT7 f
        | false =>
         match Nat.ble f 215 with
         | true => fnT8 f
         | false =>
          match Nat.ble f 239 with
          | true => fnT9 f
          | false =>
           match Nat.ble f 263 with
           | true => fnT10 f
           | false =>
            fnT11 f
def keyS : ByteArray := ⟨#[102, 117, 110, 32, 97, 112, 112, 32, 108, 101, 116, 32, 114, 101, 99, 32, 105, 102, 32, 97, 100, 100, 32, 115, 117, 98, 32, 108, 101, 115, 115, 32, 115, 97, 109, 101, 32, 112, 97, 105, 114, 32, 102, 115, 116, 32, 115, 110, 100, 32, 110, 105, 108, 32, 99, 111, 110, 115, 32, 109, 97, 116, 99, 104, 32, 114, 101, 102, 32, 103, 101, 116, 32, 115, 101, 116, 32, 114, 97, 105, 115, 101, 32, 116, 114, 121]⟩
def spaceS : ByteArray := ⟨#[32]⟩
def keyL : List ByteArray := [⟨#[102, 117, 110]⟩, ⟨#[97, 112, 112]⟩, ⟨#[108, 101, 116]⟩, ⟨#[114, 101, 99]⟩, ⟨#[105, 102]⟩, ⟨#[97, 100, 100]⟩, ⟨#[115, 117, 98]⟩, ⟨#[108, 101, 115, 115]⟩, ⟨#[115, 97, 109, 101]⟩, ⟨#[112, 97, 105, 114]⟩, ⟨#[102, 115, 116]⟩, ⟨#[115, 110, 100]⟩, ⟨#[110, 105, 108]⟩, ⟨#[99, 111, 110, 115]⟩, ⟨#[109, 97, 116, 99, 104]⟩, ⟨#[114, 101, 102]⟩, ⟨#[103, 101, 116]⟩, ⟨#[115, 101, 116]⟩, ⟨#[114, 97, 105, 115, 101]⟩, ⟨#[116, 114, 121]⟩]
def splitX : List D → Option D
 | [.str a, .str b] => if a.toList == keyS.toList && b.toList == spaceS.toList then some (.sl .ro 1 (eB keyL)) else none
 | _ => none
def exT (xa xb : Option (List D → Option D)) (f : FuncId) : Option (List D → Option D) :=
 match Nat.beq f 133 with
 | true => xa
 | false => match Nat.beq f 19 with
   | true => xb
   | false => match Nat.beq f 251 with
     | true => some splitX
     | false => none
noncomputable def exC (f : FuncId) : Option (List D → List Box → List Nat → Option (List D × List Box × List Nat × List Box)) :=
 match Nat.beq f 111 with
 | true => some (choC Tryz.prog 111 79 CurNd)
 | false => none
noncomputable def env (xa xb : Option (List D → Option D)) : Env := ⟨ty, fnT, exT xa xb, exC⟩
theorem exC_ok {xa xb : Option (List D → Option D)} : ∀ f g fi, (env xa xb).extc f = some g → (env xa xb).fn f = some fi → ExtCOk Tryz.prog f fi.ntmps g := fun f g fi h hf => by
 replace h : exC f = some g := h
 unfold exC at h
 split at h
 · rename_i h1
   obtain rfl := Nat.eq_of_beq_eq_true h1
   injection h with h
   subst h
   replace hf : fnT 111 = some fi := hf
   have hn : (fnT 111).map (·.ntmps) = some 79 := by rfl
   rw [hf] at hn
   injection hn with hn
   dsimp only at hn
   rw [hn]
   exact choC_ok _ _ _ _
 · cases h
end Go.Mach
section
namespace Go.Mach
open Go Go.RowKit
set_option linter.unusedVariables false
structure Ab where
 k : Int
 n : Int
 c : Int
 deriving DecidableEq
structure Fc where
 k : Int
 n : Int
 c : Int
 v : Ab
 deriving DecidableEq
def zF : Fc := ⟨0, 0, 0, ⟨0, 0, 0⟩⟩
def zA : Ab := ⟨0, 0, 0⟩
def cAb (x : Ab) : List D := [.int .i64 x.k, .int .i64 x.n, .int .i64 x.c]
def eAb (l : List Ab) : Box := l.map cAb
def cFc (x : Fc) : List D := [.int .i64 x.k, .int .i64 x.n, .int .i64 x.c, .int .i64 x.v.k, .int .i64 x.v.n, .int .i64 x.v.c]
def eFc (l : List Fc) : Box := l.map cFc
theorem len_eAb (l : List Ab) : (eAb l).length = l.length := by simp [eAb]
theorem len_eFc (l : List Fc) : (eFc l).length = l.length := by simp [eFc]
def rF (l : List Fc) (i : Int) : Fc := rdG zF l i
def rA (l : List Ab) (i : Int) : Ab := rdG zA l i
def ltF (a b : Fc) : Prop := a.k < b.k ∨ (a.k = b.k ∧ (a.n < b.n ∨ (a.n = b.n ∧ (a.c < b.c ∨ (a.c = b.c ∧ (a.v.k < b.v.k ∨ (a.v.k = b.v.k ∧ (a.v.n < b.v.n ∨ (a.v.n = b.v.n ∧ a.v.c < b.v.c)))))))))
instance (a b : Fc) : Decidable (ltF a b) := by unfold ltF; infer_instance
def ltB (a b : Fc) : Bool := decide (ltF a b)
theorem ltB_iff {a b : Fc} : ltB a b = true ↔ ltF a b := by simp [ltB]
theorem ltF_irrefl (a : Fc) : ¬ ltF a a := by unfold ltF; omega
theorem ltF_trans {a b c : Fc} (h : ltF a b) (k : ltF b c) : ltF a c := by unfold ltF at *; omega
theorem Fc.ext' {a b : Fc} (h1 : a.k = b.k) (h2 : a.n = b.n) (h3 : a.c = b.c) (h4 : a.v.k = b.v.k) (h5 : a.v.n = b.v.n) (h6 : a.v.c = b.v.c) : a = b := by
 rcases a with ⟨_, _, _, _, _, _⟩; rcases b with ⟨_, _, _, _, _, _⟩; simp_all
theorem ltF_total {a b : Fc} (h : ¬ ltF a b) (k : ¬ ltF b a) : a = b := by
 unfold ltF at *; apply Fc.ext' <;> omega
def Up (l : List Fc) : Prop := l.Pairwise ltF
def posF (l : List Fc) (f : Fc) : Nat := (l.takeWhile fun x => ltB x f).length
def ins (l : List Fc) (f : Fc) : List Fc := match l with
 | [] => [f]
 | x :: r => if ltF x f then x :: ins r f else if x = f then x :: r else f :: x :: r
def insAll (l : List Fc) (m : List Fc) : List Fc := m.foldl ins l
theorem posF_le (l : List Fc) (f : Fc) : posF l f ≤ l.length := by
 induction l with
 | nil => simp [posF]
 | cons x r ih =>
   simp only [posF, List.takeWhile_cons] at ih ⊢
   split <;> simp at ih ⊢; omega
theorem posF_cons (x : Fc) (r : List Fc) (f : Fc) : posF (x :: r) f = if ltF x f then posF r f + 1 else 0 := by
 simp only [posF, List.takeWhile_cons, ltB]
 by_cases h : ltF x f <;> simp [h]
theorem posF_lt {l : List Fc} {f : Fc} : ∀ {j : Nat}, (hj : j < posF l f) → ltF (l.getD j zF) f := by
 induction l with
 | nil => intro j hj; simp [posF] at hj
 | cons x r ih =>
   intro j hj
   rw [posF_cons] at hj
   by_cases h : ltF x f
   · cases j with
     | zero => simpa using h
     | succ j => rw [if_pos h] at hj; simpa using ih (by omega)
   · rw [if_neg h] at hj; omega
theorem posF_at {l : List Fc} {f : Fc} : posF l f < l.length → ¬ ltF (l.getD (posF l f) zF) f := by
 induction l with
 | nil => intro h; simp at h
 | cons x r ih =>
   rw [posF_cons]
   by_cases h : ltF x f
   · rw [if_pos h]; intro h2; simpa using ih (by simpa using h2)
   · rw [if_neg h]; intro _; simpa using h
theorem posF_eq {l : List Fc} {f : Fc} {k : Nat} (h0 : k ≤ l.length) (h1 : ∀ j, j < k → ltF (l.getD j zF) f) (h2 : k < l.length → ¬ ltF (l.getD k zF) f) : posF l f = k := by
 have a := posF_le l f
 rcases Nat.lt_trichotomy (posF l f) k with h | h | h
 · exact absurd (h1 _ h) (posF_at (by omega))
 · exact h
 · exact absurd (posF_lt h) (h2 (by omega))
theorem Up.get {l : List Fc} (h : Up l) {i j : Nat} (hij : i < j) (hj : j < l.length) : ltF (l.getD i zF) (l.getD j zF) := by
 have := (List.pairwise_iff_getElem.1 h) i j (by omega) hj hij
 simpa [List.getD_eq_getElem?_getD, List.getElem?_eq_getElem hj, List.getElem?_eq_getElem (show i < l.length by omega)] using this
theorem ins_eq (l : List Fc) (f : Fc) : ins l f = if posF l f < l.length ∧ l.getD (posF l f) zF = f then l else l.take (posF l f) ++ f :: l.drop (posF l f) := by
 induction l with
 | nil => simp [ins, posF]
 | cons x r ih =>
   rw [ins, posF_cons]
   by_cases h : ltF x f
   · rw [if_pos h, if_pos h, ih]
     simp only [List.length_cons, List.getD_cons_succ, List.take_succ_cons, List.drop_succ_cons, List.cons_append, Nat.add_lt_add_iff_right]
     split <;> rfl
   · rw [if_neg h, if_neg h]
     simp
theorem mem_ins {l : List Fc} {f x : Fc} : x ∈ ins l f ↔ x ∈ l ∨ x = f := by
 induction l with
 | nil => simp [ins]
 | cons y r ih =>
   rw [ins]
   split
   · simp only [List.mem_cons, ih, or_assoc]
   · split
     · rename_i h; subst h; simp only [List.mem_cons]; constructor
       · exact .inl
       · rintro (h | h); exact h; exact .inl h
     · simp only [List.mem_cons]; constructor
       · rintro (h | h | h); exact .inr h; exact .inl (.inl h); exact .inl (.inr h)
       · rintro ((h | h) | h); exact .inr (.inl h); exact .inr (.inr h); exact .inl h
theorem Up.ins {l : List Fc} (h : Up l) (f : Fc) : Up (ins l f) := by
 induction l with
 | nil => simp [Mach.ins, Up]
 | cons y r ih =>
   have h' := List.pairwise_cons.1 h
   rw [Mach.ins]
   split
   · rename_i hy
     refine List.pairwise_cons.2 ⟨fun x hx => ?_, ih h'.2⟩
     rcases mem_ins.1 hx with hx | rfl
     · exact h'.1 x hx
     · exact hy
   · split
     · exact h
     · rename_i h1 h2
       have hf : ltF f y := Classical.byContradiction fun hn => h2 (ltF_total h1 hn)
       refine List.pairwise_cons.2 ⟨fun x hx => ?_, h⟩
       rcases List.mem_cons.1 hx with rfl | hx
       · exact hf
       · exact ltF_trans hf (h'.1 x hx)
theorem len_ins (l : List Fc) (f : Fc) : l.length ≤ (ins l f).length ∧ (ins l f).length ≤ l.length + 1 := by
 induction l with
 | nil => simp [ins]
 | cons y r ih => rw [ins]; repeat' split
                  all_goals simp only [List.length_cons]; omega
theorem mem_insAll {l m : List Fc} {x : Fc} : x ∈ insAll l m ↔ x ∈ l ∨ x ∈ m := by
 induction m generalizing l with
 | nil => simp [insAll]
 | cons y m ih => rw [insAll, List.foldl_cons, ← insAll, ih, mem_ins, List.mem_cons, or_assoc]
theorem Up.insAll {l : List Fc} (h : Up l) (m : List Fc) : Up (insAll l m) := by
 induction m generalizing l with
 | nil => exact h
 | cons y m ih => rw [Mach.insAll, List.foldl_cons, ← Mach.insAll]; exact ih (h.ins y)
theorem len_insAll (l m : List Fc) : l.length ≤ (insAll l m).length ∧ (insAll l m).length ≤ l.length + m.length := by
 induction m generalizing l with
 | nil => simp [insAll]
 | cons y m ih => rw [insAll, List.foldl_cons, ← insAll]; have := ih (ins l y); have := len_ins l y; simp; omega
theorem insAll_append (l m n : List Fc) : insAll l (m ++ n) = insAll (insAll l m) n := by simp [insAll]
theorem insAll_one (l : List Fc) (f : Fc) : insAll l [f] = ins l f := rfl
theorem insAll_nil (l : List Fc) : insAll l [] = l := rfl
theorem Up.ext {l m : List Fc} (hl : Up l) (hm : Up m) (h : ∀ x, x ∈ l ↔ x ∈ m) : l = m := by
 induction l generalizing m with
 | nil => cases m with
   | nil => rfl
   | cons y m => exact absurd ((h y).2 List.mem_cons_self) (by simp)
 | cons x l ih => cases m with
   | nil => exact absurd ((h x).1 List.mem_cons_self) (by simp)
   | cons y m =>
     have hl' := List.pairwise_cons.1 hl
     have hm' := List.pairwise_cons.1 hm
     have e : x = y := by
      rcases List.mem_cons.1 ((h x).1 List.mem_cons_self) with e | e
      · exact e
      · rcases List.mem_cons.1 ((h y).2 List.mem_cons_self) with e2 | e2
        · exact e2.symm
        · exact absurd (ltF_trans (hl'.1 y e2) (hm'.1 x e)) (ltF_irrefl _)
     subst e
     congr 1
     refine ih hl'.2 hm'.2 fun z => ⟨fun hz => ?_, fun hz => ?_⟩
     · rcases List.mem_cons.1 ((h z).1 (List.mem_cons_of_mem _ hz)) with e | e
       · subst e; exact absurd (hl'.1 z hz) (ltF_irrefl _)
       · exact e
     · rcases List.mem_cons.1 ((h z).2 (List.mem_cons_of_mem _ hz)) with e | e
       · subst e; exact absurd (hm'.1 z hz) (ltF_irrefl _)
       · exact e
def hasKey (k n c : Int) (f : Fc) : Bool := f.k == k && (f.n == n && f.c == c)
def vals (l : List Fc) (k n c : Int) : List Ab := (l.filter (hasKey k n c)).map (·.v)
def mapF (vs : List Ab) (tk tn tc : Int) : List Fc := vs.map fun v => ⟨tk, tn, tc, v⟩
def flowL (l : List Fc) (fk fn fc tk tn tc : Int) : List Fc := mapF (vals l fk fn fc) tk tn tc
theorem mem_vals {l : List Fc} {k n c : Int} {v : Ab} : v ∈ vals l k n c ↔ (⟨k, n, c, v⟩ : Fc) ∈ l := by
 simp only [vals, List.mem_map, List.mem_filter, hasKey, Bool.and_eq_true, beq_iff_eq]
 constructor
 · rintro ⟨f, ⟨hf, h1, h2, h3⟩, rfl⟩
   rcases f with ⟨a, b, d, w⟩
   simp only at h1 h2 h3
   subst h1 h2 h3
   exact hf
 · intro h
   exact ⟨_, ⟨h, rfl, rfl, rfl⟩, rfl⟩
theorem len_vals (l : List Fc) (k n c : Int) : (vals l k n c).length ≤ l.length := by
 simp only [vals, List.length_map]; exact List.length_filter_le _ _
end Go.Mach
namespace Go.Mach
theorem tdiv2 {a : Int} (h : 0 ≤ a) : a.tdiv 2 = a / 2 := Int.tdiv_eq_ediv_of_nonneg h
theorem rF_eq (l : List Fc) (i : Int) (h : 0 ≤ i) : rF l i = l.getD i.toNat zF := rfl
theorem bs_lo {l : List Fc} {f : Fc} (hu : Up l) {m : Int} (h0 : 0 ≤ m) (hm : m < l.length) (h : ltF (rF l m) f) : ∀ j : Nat, (j : Int) < m + 1 → ltF (l.getD j zF) f := fun j hj => by
 by_cases e : (j : Int) = m
 · have : j = m.toNat := by omega
   subst this; exact h
 · exact ltF_trans (hu.get (j := m.toNat) (by omega) (by omega)) h
theorem bs_hi {l : List Fc} {f : Fc} (hu : Up l) {m : Int} (h0 : 0 ≤ m) (hm : m < l.length) (h : ¬ ltF (rF l m) f) : ∀ j : Nat, m ≤ j → j < l.length → ¬ ltF (l.getD j zF) f := fun j hj hl hlt => by
 by_cases e : (j : Int) = m
 · have : j = m.toNat := by omega
   subst this; exact h hlt
 · exact h (ltF_trans (hu.get (i := m.toNat) (by omega) hl) hlt)
theorem bs_end {l : List Fc} {f : Fc} {a b : Int} (h0 : 0 ≤ a) (hab : b ≤ a) (hba : a ≤ b) (hb : b ≤ l.length) (h1 : ∀ j : Nat, (j : Int) < a → ltF (l.getD j zF) f) (h2 : ∀ j : Nat, b ≤ j → j < l.length → ¬ ltF (l.getD j zF) f) : a = (posF l f : Int) := by
 have : posF l f = a.toNat := posF_eq (by omega) (fun j hj => h1 j (by omega)) (fun h => h2 _ (by omega) h)
 omega
end Go.Mach
namespace Go.Mach
theorem ins_found {l : List Fc} {f y : Fc} {v : Int} (hv : ((posF l f : Nat) : Int) = v) (hlt : v < l.length) (hy : rF l v = y) (e : y = f) : ins l f = l := by
 rw [ins_eq, if_pos]
 subst hv
 exact ⟨by omega, hy.trans e⟩
theorem ins_put {l : List Fc} {f : Fc} {v : Int} (hv : ((posF l f : Nat) : Int) = v) (h : v < l.length → rF l v ≠ f) : ins l f = l.take v.toNat ++ f :: l.drop v.toNat := by
 subst hv
 rw [ins_eq, if_neg]
 · rw [Int.toNat_natCast]
 · rintro ⟨h1, h2⟩
   exact h (by omega) h2
end Go.Mach
namespace Go.Mach
theorem vals_start {l : List Fc} (hu : Up l) (hp : ∀ f ∈ l, 0 ≤ f.v.k) {k n c : Int} : (0 : Int) ≤ ((posF l ⟨k, n, c, ⟨-1, 0, 0⟩⟩ : Nat) : Int) ∧ ((posF l ⟨k, n, c, ⟨-1, 0, 0⟩⟩ : Nat) : Int) ≤ l.length ∧
  ([] : List Ab) = vals (l.take ((posF l ⟨k, n, c, ⟨-1, 0, 0⟩⟩ : Nat) : Int).toNat) k n c ∧ (∀ j : Nat, j < l.length → ((posF l ⟨k, n, c, ⟨-1, 0, 0⟩⟩ : Nat) : Int) ≤ j → ltF ⟨k, n, c, ⟨-1, 0, 0⟩⟩ (l.getD j zF)) := by
 have hm : ∀ j : Nat, j < l.length → l.getD j zF ∈ l := fun j hj => by rw [List.getD_eq_getElem?_getD, List.getElem?_eq_getElem hj]; exact List.getElem_mem hj
 refine ⟨by omega, by have := posF_le l ⟨k, n, c, ⟨-1, 0, 0⟩⟩; omega, ?_, fun j hj hk => ?_⟩
 · rw [Int.toNat_natCast]
   symm
   rw [vals, List.map_eq_nil_iff, List.filter_eq_nil_iff]
   intro f hf
   obtain ⟨j, hj, rfl⟩ := List.mem_take_iff_getElem.1 hf
   have h1 := posF_lt (l := l) (f := ⟨k, n, c, ⟨-1, 0, 0⟩⟩) (j := j) (by omega)
   have h2 := hm j (by omega)
   have h3 := hp _ h2
   rw [List.getD_eq_getElem?_getD, List.getElem?_eq_getElem (show j < l.length by omega), Option.getD_some] at h1 h3
   simp only [hasKey, Bool.and_eq_true, beq_iff_eq]
   rintro ⟨e1, e2, e3⟩
   unfold ltF at h1
   simp only [e1, e2, e3] at h1
   omega
 · have hl : posF l ⟨k, n, c, ⟨-1, 0, 0⟩⟩ < l.length := by omega
   have h2 := posF_at (l := l) (f := ⟨k, n, c, ⟨-1, 0, 0⟩⟩) hl
   have h3 := hp _ (hm _ hl)
   have h4 : ltF ⟨k, n, c, ⟨-1, 0, 0⟩⟩ (l.getD (posF l ⟨k, n, c, ⟨-1, 0, 0⟩⟩) zF) := Classical.byContradiction fun h => by
    have e := ltF_total h2 h
    rw [e] at h3
    exact absurd h3 (by show ¬ (0 : Int) ≤ -1; omega)
   by_cases e : posF l ⟨k, n, c, ⟨-1, 0, 0⟩⟩ = j
   · rw [e] at h4; exact h4
   · exact ltF_trans h4 (hu.get (by omega) hj)
theorem vals_take_succ {l : List Fc} {i : Int} (h0 : 0 ≤ i) (hi : i < l.length) (k n c : Int) : vals (l.take (i + 1).toNat) k n c = vals (l.take i.toNat) k n c ++ if hasKey k n c (rF l i) then [(rF l i).v] else [] := by
 have h : i.toNat < l.length := by omega
 rw [show (i + 1).toNat = i.toNat + 1 by omega, List.take_succ_eq_append_getElem h]
 simp only [vals, List.filter_append, List.map_append]
 congr 1
 have : rF l i = l[i.toNat] := by simp [rF, rdG, List.getD_eq_getElem?_getD, List.getElem?_eq_getElem h]
 rw [this]
 by_cases hk : hasKey k n c l[i.toNat] <;> simp [hk]
theorem vals_end {l : List Fc} {k n c i : Int} (h0 : 0 ≤ i) (hi : i ≤ l.length) (hu : Up l) (h : ∀ j : Nat, j < l.length → i ≤ j → ltF ⟨k, n, c, ⟨-1, 0, 0⟩⟩ (l.getD j zF)) (he : i = l.length ∨ (i < l.length ∧ ¬ ((rF l i).k = k ∧ (rF l i).n = n ∧ (rF l i).c = c))) : vals (l.take i.toNat) k n c = vals l k n c := by
 rcases he with rfl | ⟨he, hn⟩
 · rw [Int.toNat_natCast, List.take_length]
 · conv => rhs; rw [← List.take_append_drop i.toNat l]
   simp only [vals, List.filter_append, List.map_append]
   symm
   rw [List.append_right_eq_self, List.map_eq_nil_iff, List.filter_eq_nil_iff]
   intro f hf
   obtain ⟨j, hj, rfl⟩ := List.mem_drop_iff_getElem.1 hf
   have h1 := h i.toNat (by omega) (by omega)
   have h2 : ltF (l.getD i.toNat zF) (l.getD (i.toNat + j) zF) ∨ l.getD i.toNat zF = l.getD (i.toNat + j) zF := by
    by_cases e : j = 0
    · subst e; exact .inr rfl
    · exact .inl (hu.get (by omega) (by omega))
   have e3 : l.getD (i.toNat + j) zF = l[i.toNat + j] := by rw [List.getD_eq_getElem?_getD, List.getElem?_eq_getElem (show i.toNat + j < l.length by omega), Option.getD_some]
   rw [← e3]
   have e4 : rF l i = l.getD i.toNat zF := rfl
   rw [e4] at hn
   generalize l.getD i.toNat zF = x at *
   generalize l.getD (i.toNat + j) zF = y at *
   simp only [hasKey, Bool.and_eq_true, beq_iff_eq]
   rintro ⟨a1, a2, a3⟩
   rcases h2 with h2 | rfl
   · unfold ltF at h1 h2
     dsimp only at h1
     omega
   · exact hn ⟨a1, a2, a3⟩
end Go.Mach
namespace Go.Mach
theorem rF_mem {l : List Fc} {i : Int} (h0 : 0 ≤ i) (h1 : i < l.length) : rF l i ∈ l := rdG_mem h0 h1
end Go.Mach
namespace Go.Mach
theorem take_succG {α : Type} (z : α) {l : List α} {i : Int} (h0 : 0 ≤ i) (hi : i < l.length) : l.take (i + 1).toNat = l.take i.toNat ++ [rdG z l i] := by
 have h : i.toNat < l.length := by omega
 rw [show (i + 1).toNat = i.toNat + 1 by omega, List.take_succ_eq_append_getElem h]
 simp [rdG, List.getD_eq_getElem?_getD, List.getElem?_eq_getElem h]
theorem take_allG {α : Type} {l : List α} {i : Int} (h : l.length ≤ i) : l.take i.toNat = l := List.take_of_length_le (by omega)
theorem len_mapF (vs : List Ab) (a b c : Int) : (mapF vs a b c).length = vs.length := by simp [mapF]
theorem mapF_succ {vs : List Ab} {i : Int} (h0 : 0 ≤ i) (hi : i < vs.length) (a b c : Int) : mapF (vs.take (i + 1).toNat) a b c = mapF (vs.take i.toNat) a b c ++ [⟨a, b, c, rA vs i⟩] := by
 rw [take_succG zA h0 hi]; simp [mapF, rA]
theorem len_flowL (l : List Fc) (a b c d e f : Int) : (flowL l a b c d e f).length = (vals l a b c).length := by simp [flowL, mapF]
theorem anyB_iff {b : Bool} {vs : List Ab} (h : decide (0 < (vs.length : Int)) = b) : (!vs.isEmpty) = b := by
 subst h; cases vs <;> simp <;> omega
end Go.Mach
namespace Go.Mach
theorem flatMap_succ {α : Type} (g : α → List Fc) (z : α) {l : List α} {i : Int} (h0 : 0 ≤ i) (hi : i < l.length) : (l.take (i + 1).toNat).flatMap g = (l.take i.toNat).flatMap g ++ g (rdG z l i) := by
 rw [take_succG z h0 hi, List.flatMap_append]; simp
theorem len_flatMap_take {α : Type} (g : α → List Fc) (l : List α) (n : Nat) : ((l.take n).flatMap g).length ≤ (l.flatMap g).length := by
 conv => rhs; rw [← List.take_append_drop n l, List.flatMap_append, List.length_append]
 omega
theorem len_flatMap_succ {α : Type} (g : α → List Fc) (z : α) {l : List α} {i : Int} (h0 : 0 ≤ i) (hi : i < l.length) : ((l.take i.toNat).flatMap g).length + (g (rdG z l i)).length ≤ (l.flatMap g).length := by
 have h := len_flatMap_take g l (i + 1).toNat
 rw [flatMap_succ g z h0 hi, List.length_append] at h
 omega
end Go.Mach
end
