/- FnExactMayRaise: the program's MayRaise answers what the reference's answers, for all arguments (a tied card): part 12 of a proof by an executable machine over the program's code. -/
import Derived.Test.YtbkpkchegopmiaaGreatDoorMr11
import Derived.Shelf.SlGeneric
import Derived.Shelf.SlSortCmp.NoneTotal
import Derived.Ground.SlsfProg
import Derived.Test.YtbkpkchegopmiaaGreatDoorProg
import Derived.Laws.StructEq
section
set_option linter.unusedVariables false
set_option linter.unusedSimpArgs false
namespace Go.Mach
open Go Go.RowKit
def takeC : Nat → Code → Code
  | 0, .seq a _ => a
  | n + 1, .seq a b => .seq a (takeC n b)
  | _, _ => .exit 0
def dropC : Nat → Code → Code
  | 0, .seq _ b => b
  | n + 1, .seq _ b => dropC n b
  | _, _ => .skip
def AnsI (E : Env) (fi : FnI) (x0 : X) (out : S → Option D) (as_ : List D) (P : D → List Nat → Prop) : Prop :=
  Nat.ble as_.length fi.ntmps = true ∧ Den E (tree E fi.keep fi.body (enterS fi as_ [] []) .done) fun x s => x = x0 ∧ ∃ d, out s = some d ∧ P d s.tk
section
variable {P : Program} {E : Env} {F : Fx} {G : Gh} {s : S} {a : Act} {w : World} {o : Std}
theorem AnsI.mkA (ho : o = std) {fi : FnI} {x0 : X} {out : S → Option D} {xs : List D} {P : D → List Nat → Prop} (hn : Nat.ble xs.length fi.ntmps = true)
    (h : Den E (treeA o E fi.keep fi.body (enterS fi xs [] []) .done) fun x s => x = x0 ∧ ∃ d, out s = some d ∧ P d s.tk) : AnsI E fi x0 out xs P :=
  ⟨hn, by subst ho; rwa [treeA_std] at h⟩
theorem wp_take (hE : EnvOk P E) {m : Nat} {Q : Exit → Act → World → Prop} {kp : Nat → List Nat} {s1 : S} : ∀ (n : Nat) (c : Code) (s : S) (F : Fx) (G : Gh) (a : Act) (w : World),
    run E m (tree E kp (takeC n c) s .done) = some (.normal, s1) → Sim F G s a w → (∀ G' a' w', Sim F G' s1 a' w' → (dropC n c).wp P Q a' w') → c.wp P Q a w
  | n, c, s, F, G, a, w, h, hs, hk => by
    induction n generalizing c s F G a w with
    | zero =>
      cases c
      case seq x y =>
        refine wp_seq (wp_mono (sound hE m x kp s .done _ F G a w h hs) ?_)
        rintro e a' w' ⟨x0, hm, G', s', hs', hsim'⟩
        have hs'' := run_done _ _ _ _ hs'
        injection hs'' with q1 q2
        subst q1 q2
        cases e <;> first | exact hm.elim | exact hk _ _ _ hsim'
      all_goals
        have := run_done _ _ _ _ h
        injection this with q1 q2
        cases q1
    | succ n ih =>
      cases c
      case seq x y =>
        refine wp_seq (wp_mono (sound hE m x kp s _ _ F G a w h hs) ?_)
        rintro e a' w' ⟨x0, hm, G', s', hs', hsim'⟩
        cases x0
        case normal => cases e <;> first | exact hm.elim | exact ih y s' F G' a' w' hs' hsim' hk
        all_goals
          have hs'' := run_done _ _ _ _ hs'
          injection hs'' with q1 q2
          cases q1
      all_goals
        have := run_done _ _ _ _ h
        injection this with q1 q2
        cases q1
theorem calls_pre (hE : EnvOk P E) {f : FuncId} {fn : Func} {c : Code} {n : Nat} {fi : FnI} {out : S → Option D} {as_ : List D} {PP : D → List Nat → Prop} (h : AnsI E fi .normal out as_ PP) (hb : fi.body = takeC n c) (hf : P.funcs[f]? = some fn) (hbody : fn.body = some c) (hnt : fn.ntmps = fi.ntmps)
    {σ : Nat → Nat} {vs : Array Value} (hl : vs.size = as_.length) (hr : ∀ i, i < as_.length → ArgR σ w (as_.getD i .junk) (vs.getD i undef)) (hbig : ∀ b, w.heap.size ≤ b → σ b = 0) {R : Ending → World → Prop}
    (hk : ∀ d s1 G' a' w', out s1 = some d → PP d s1.tk → Sim ⟨w, [], [], [], σ, fun _ => 0, w.heap.size⟩ G' s1 a' w' → (dropC n c).wp P (bodyPost P fn R) a' w') : Calls P f vs w R := by
  obtain ⟨hn, hd⟩ := h
  obtain ⟨m, x, s1, hrun, rfl, d, ho, hp⟩ := hd
  have hsim := sim_enter (lm := w.heap.size) (fi := fi) (G := ⟨[], [], σ⟩) hl (fun i hi => .inl (hr i hi)) (Nat.le_of_ble_eq_true hn) hbig
  refine calls_of_wp hf hbody ?_
  rw [hnt]
  rw [hb] at hrun
  exact wp_take hE n c _ _ _ _ _ hrun hsim fun G' a' w' h => hk d s1 G' a' w' ho hp h
theorem sim_at {fi : FnI} {as_ : List D} {σ : Nat → Nat} (hd : a.defers = []) (hsz : a.tmps.size = fi.ntmps) (hr : ∀ i, i < as_.length → as_.getD i .junk = .junk ∨ ArgR σ w (as_.getD i .junk) (a.tmps.getD i undef)) (hn : as_.length ≤ fi.ntmps) (hbig : ∀ b, w.heap.size ≤ b → σ b = 0) :
    Sim ⟨w, [], [], [], σ, fun _ => 0, w.heap.size⟩ ⟨[], [], σ⟩ (enterS fi as_ [] []) a w := by
  refine ⟨⟨rfl, rfl, fun i es p h => by simp [enterS] at h, fun i es p h => by simp [enterS] at h, by simp [blocks], fun b hb => by simp [blocks] at hb, fun p hp => by simp at hp, rfl, fun i b _ h => by simp at h, fun i b _ h => by simp at h, fun p hp => by simp at hp, hbig,
    ⟨rfl, rfl, ⟨rfl, Nat.le_refl _⟩, Nat.le_refl _, fun _ _ _ _ => rfl, Ext.refl _ _ _, fun _ _ _ => rfl⟩⟩, ⟨by simp [enterS, hsz]; omega, fun i hi => ?_⟩, hd⟩
  by_cases hia : i < as_.length
  · have h1 : (as_ ++ List.replicate (fi.ntmps - as_.length) D.junk).getD i .junk = as_.getD i .junk := by
      simp only [List.getD_eq_getElem?_getD]; rw [List.getElem?_append_left hia]
    simp only [enterS]
    rw [h1]
    rcases hr i hia with h | h
    · rw [h]; exact .junk _
    · exact ArgR.rep (G := ⟨[], [], σ⟩) h
  · have h1 : (as_ ++ List.replicate (fi.ntmps - as_.length) D.junk).getD i .junk = .junk := by
      simp only [List.getD_eq_getElem?_getD]; rw [List.getElem?_append_right (by omega)]
      simp only [List.getElem?_replicate]; split <;> rfl
    simp only [enterS]; rw [h1]; exact .junk _
theorem wp_rest (hE : EnvOk P E) {fn : Func} {fi : FnI} {as_ : List D} {d0 : D → List Nat → Prop} {x0 : X} (hx : x0 = .normal ∨ x0 = .ret) (h : AnsI E fi x0 (fun s => outD E fi.nw s fi.res) as_ d0) (hres : fn.results = fi.res.toArray) {σ : Nat → Nat}
    (hd : a.defers = []) (hsz : a.tmps.size = fi.ntmps) (hr : ∀ i, i < as_.length → as_.getD i .junk = .junk ∨ ArgR σ w (as_.getD i .junk) (a.tmps.getD i undef)) (hbig : ∀ b, w.heap.size ≤ b → σ b = 0) {R : Ending → World → Prop}
    (hk : ∀ v d tk σ' w', d0 d tk → RD σ' w' d v → NwD w.heap.size σ' w' d v → Below w.heap.size w w' → w.drawn ≤ w'.drawn → (∀ b, b < w.heap.size → σ' b = σ b) → (∀ b, w'.heap.size ≤ b → σ' b = 0) → R (.returned v) w') : fi.body.wp P (bodyPost P fn R) a w := by
  obtain ⟨hn, hden⟩ := h
  obtain ⟨m, x, s1, hrun, rfl, d, hout, hp⟩ := hden
  have hsim := sim_at (fi := fi) (as_ := as_) (σ := σ) hd hsz hr (Nat.le_of_ble_eq_true hn) hbig
  refine wp_mono (sound hE m fi.body fi.keep _ _ _ _ _ _ w hrun hsim) ?_
  rintro e a' w' ⟨x', hm, G', s', hs', hsim'⟩
  have hs'' := run_done _ _ _ _ hs'
  injection hs'' with q1 q2
  subst q1 q2
  obtain ⟨vs', e1, hrd, hfin, hnw⟩ := out_calls hE hsim' hres hout
  obtain ⟨_, hz2, hz3⟩ := hsim'.freeze
  have hlim : (⟨w, [], [], [], σ, fun _ => 0, w.heap.size⟩ : Fx).lim = w.heap.size := Nat.min_self _
  rw [hlim] at hnw
  have hfr := hz2 rfl
  have hpost : R (.returned (if h : vs'.toArray.size = 1 then vs'.toArray[0] else .tuple vs'.toArray)) w' :=
    hk _ d s1.tk G'.freeze.ice w' hp hrd hnw ⟨hfr.os, hfr.tape, hfr.output.1, hfr.size, fun b hb => hfr.same b hb (fun p hp => by cases hp) (fun hh => by cases hh)⟩ hfr.output.2 (fun b hb => hfr.ice b hb (fun hh => by cases hh)) hz3
  rcases hx with rfl | rfl <;> cases e <;> first | exact hm.elim | exact ⟨hsim'.def0, _, e1, hpost⟩
end
end Go.Mach
end
section
set_option linter.unusedVariables false
set_option linter.unusedSimpArgs false
namespace Go.Proofs
open Go.Shelf
def Tryz.sortFc_ren : Go.Shelf.Ren := ⟨fun | 6 => 146 | 15 => 127 | 14 => 189 | 28 => 162 | 29 => 163 | 20 => 206 | 21 => 207 | 22 => 208 | 23 => 209 | 24 => 210 | 25 => 211 | 26 => 212 | 27 => 213 | 46 => 222 | 47 => 223 | 48 => 224 | 49 => 225 | 50 => 226 | 57 => 232 | n => n, fun | 22 => 36 | 24 => 55 | 25 => 129 | 3 => 3 | 39 => 125 | 0 => 0 | 53 => 150 | 55 => 152 | 4 => 4 | 46 => 190 | 45 => 189 | 50 => 159 | 5 => 5 | 9 => 9 | 66 => 203 | 70 => 179 | 76 => 208 | 77 => 196 | n => n, fun | n => n⟩
theorem Tryz.sortFc : Go.Proofs.SlLaysF0.n6 Tryz.prog Tryz.sortFc_ren := {
  mixed := by kernel_rfl
  f6 := ⟨Tryz.f146.name, by decide, Tryz.func146.trans (congrArg some (by kernel_rfl))⟩
  f14 := ⟨Tryz.f189.name, by decide, Tryz.func189.trans (congrArg some (by kernel_rfl))⟩
  f15 := Tryz.func127.trans (congrArg some (by kernel_rfl))
  f20 := ⟨Tryz.f206.name, by decide, Tryz.func206.trans (congrArg some (by kernel_rfl))⟩
  f21 := ⟨Tryz.f207.name, by decide, Tryz.func207.trans (congrArg some (by kernel_rfl))⟩
  f22 := ⟨Tryz.f208.name, by decide, Tryz.func208.trans (congrArg some (by kernel_rfl))⟩
  f23 := ⟨Tryz.f209.name, by decide, Tryz.func209.trans (congrArg some (by kernel_rfl))⟩
  f24 := ⟨Tryz.f210.name, by decide, Tryz.func210.trans (congrArg some (by kernel_rfl))⟩
  f25 := ⟨Tryz.f211.name, by decide, Tryz.func211.trans (congrArg some (by kernel_rfl))⟩
  f26 := ⟨Tryz.f212.name, by decide, Tryz.func212.trans (congrArg some (by kernel_rfl))⟩
  f27 := ⟨Tryz.f213.name, by decide, Tryz.func213.trans (congrArg some (by kernel_rfl))⟩
  f28 := Tryz.func162.trans (congrArg some (by kernel_rfl))
  f29 := Tryz.func163.trans (congrArg some (by kernel_rfl))
  f46 := ⟨Tryz.f222.name, by decide, Tryz.func222.trans (congrArg some (by kernel_rfl))⟩
  f47 := Tryz.func223.trans (congrArg some (by kernel_rfl))
  f48 := Tryz.func224.trans (congrArg some (by kernel_rfl))
  f49 := ⟨Tryz.f225.name, by decide, Tryz.func225.trans (congrArg some (by kernel_rfl))⟩
  f50 := ⟨Tryz.f226.name, by decide, Tryz.func226.trans (congrArg some (by kernel_rfl))⟩
  f57 := ⟨Tryz.f232.name, by decide, Tryz.func232.trans (congrArg some (by kernel_rfl))⟩
  t0 := Tryz.underlying0
  a0 := Tryz.isAgg0
  z0 := Tryz.sizeOf0
  v0 := Tryz.zeroValue0
  t3 := Tryz.underlying3
  a3 := Tryz.isAgg3
  z3 := Tryz.sizeOf3
  v3 := Tryz.zeroValue3
  t4 := Tryz.underlying4
  a4 := Tryz.isAgg4
  z4 := Tryz.sizeOf4
  v4 := Tryz.zeroValue4
  t5 := Tryz.underlying5
  a5 := Tryz.isAgg5
  z5 := Tryz.sizeOf5
  v5 := Tryz.zeroValue5
  t9 := Tryz.underlying9
  a9 := Tryz.isAgg9
  z9 := Tryz.sizeOf9
  v9 := Tryz.zeroValue9
  t22 := Tryz.underlying36
  a22 := Tryz.isAgg36
  z22 := Tryz.sizeOf36
  v22 := Tryz.zeroValue36
  t25 := Tryz.underlying129
  a25 := Tryz.isAgg129
  z25 := Tryz.sizeOf129
  v25 := Tryz.zeroValue129
  t39 := Tryz.underlying125
  a39 := Tryz.isAgg125
  z39 := Tryz.sizeOf125
  v39 := Tryz.zeroValue125
  t45 := Tryz.underlying189
  a45 := Tryz.isAgg189
  z45 := Tryz.sizeOf189
  v45 := Tryz.zeroValue189
  t46 := Tryz.underlying190
  a46 := Tryz.isAgg190
  z46 := Tryz.sizeOf190
  v46 := Tryz.zeroValue190
  t50 := Tryz.underlying159
  a50 := Tryz.isAgg159
  z50 := Tryz.sizeOf159
  v50 := Tryz.zeroValue159
  t53 := Tryz.underlying150
  a53 := Tryz.isAgg150
  z53 := Tryz.sizeOf150
  v53 := Tryz.zeroValue150
  t55 := Tryz.underlying152
  a55 := Tryz.isAgg152
  z55 := Tryz.sizeOf152
  v55 := Tryz.zeroValue152
  t66 := Tryz.underlying203
  a66 := Tryz.isAgg203
  z66 := Tryz.sizeOf203
  v66 := Tryz.zeroValue203
  t70 := Tryz.underlying179
  a70 := Tryz.isAgg179
  z70 := Tryz.sizeOf179
  v70 := Tryz.zeroValue179
  t76 := Tryz.underlying208
  a76 := Tryz.isAgg208
  z76 := Tryz.sizeOf208
  v76 := Tryz.zeroValue208
  t77 := Tryz.underlying196
  a77 := Tryz.isAgg196
  z77 := Tryz.sizeOf196
  v77 := Tryz.zeroValue196 }
end Go.Proofs
end
section
set_option linter.unusedVariables false
set_option linter.unusedSimpArgs false
namespace Go.Mach
open Go Go.RowKit Go.Proofs
def ty : TypeId → TyI
  | 2 => ⟨(.int .i64), 1, 8, [.int .i64 0], false⟩
  | 3 => ⟨(.int .i64), 1, 8, [.int .i64 0], false⟩
  | 4 => ⟨.bool, 1, 1, [.bool false], false⟩
  | 5 => ⟨(.int .u8), 1, 1, [.int .u8 0], false⟩
  | 6 => ⟨(.int .u8), 1, 1, [.int .u8 0], false⟩
  | 9 => ⟨.str, 1, 16, [.str ⟨#[]⟩], false⟩
  | 22 => ⟨(.sl 50 7 72), 1, 24, [.sl .nil 7 []], false⟩
  | 25 => ⟨(.sl 56 7 72), 1, 24, [.sl .nil 7 []], false⟩
  | 29 => ⟨(.sl 3 1 8), 1, 24, [.sl .nil 1 []], false⟩
  | 36 => ⟨(.sl 55 6 48), 1, 24, [.sl .nil 6 []], false⟩
  | 42 => ⟨(.sl 75 2 16), 1, 24, [.sl .nil 2 []], false⟩
  | 50 => ⟨(.st [(0, 1, false), (1, 1, false), (2, 1, false), (3, 1, false), (4, 1, false), (5, 1, false), (6, 1, false)]), 7, 72, [.int .i64 0, .int .i64 0, .int .i64 0, .int .i64 0, .int .i64 0, .str ⟨#[]⟩, .str ⟨#[]⟩], false⟩
  | 53 => ⟨(.st [(0, 1, false), (1, 1, false), (2, 1, false)]), 3, 24, [.int .i64 0, .int .i64 0, .int .i64 0], true⟩
  | 55 => ⟨(.st [(0, 1, false), (1, 1, false), (2, 1, false), (3, 3, true)]), 6, 48, [.int .i64 0, .int .i64 0, .int .i64 0, .int .i64 0, .int .i64 0, .int .i64 0], true⟩
  | 56 => ⟨(.st [(0, 1, false), (1, 1, false), (2, 1, false), (3, 1, false), (4, 1, false), (5, 1, false), (6, 1, false)]), 7, 72, [.int .i64 0, .int .i64 0, .int .i64 0, .int .i64 0, .int .i64 0, .str ⟨#[]⟩, .str ⟨#[]⟩], false⟩
  | 71 => ⟨(.sl 53 3 24), 1, 24, [.sl .nil 3 []], false⟩
  | 75 => ⟨(.st [(0, 1, false), (1, 1, false)]), 2, 16, [.int .i64 0, .int .i64 0], true⟩
  | 80 => ⟨(.sl 5 1 1), 1, 24, [.sl .nil 1 []], false⟩
  | 82 => ⟨(.sl 103 2 16), 1, 24, [.sl .nil 2 []], false⟩
  | 83 => ⟨(.sl 82 1 24), 1, 24, [.sl .nil 1 []], false⟩
  | 85 => ⟨(.st [(0, 1, false), (1, 1, false), (2, 1, false), (3, 1, false)]), 4, 80, [.sl .nil 7 [], .sl .nil 2 [], .sl .nil 1 [], .int .i64 0], false⟩
  | 94 => ⟨(.sl 96 8 96), 1, 24, [.sl .nil 8 []], false⟩
  | 96 => ⟨(.st [(0, 7, true), (7, 1, false)]), 8, 96, [.int .i64 0, .int .i64 0, .int .i64 0, .int .i64 0, .int .i64 0, .str ⟨#[]⟩, .str ⟨#[]⟩, .sl .nil 8 []], false⟩
  | 103 => ⟨(.st [(0, 1, false), (1, 1, false)]), 2, 16, [.int .i64 0, .int .i64 0], true⟩
  | 114 => ⟨(.sl 25 1 24), 1, 24, [.sl .nil 1 []], false⟩
  | 130 => ⟨(.sl 9 1 16), 1, 24, [.sl .nil 1 []], false⟩
  | 140 => ⟨(.ptr 142), 1, 8, [.pnil], false⟩
  | 142 => ⟨(.st [(0, 1, false), (1, 1, false), (2, 1, false), (3, 1, false), (4, 1, false)]), 5, 104, [.sl .nil 7 [], .sl .nil 2 [], .int .i64 0, .sl .nil 6 [], .sl .nil 6 []], false⟩
  | 168 => ⟨(.st [(0, 1, false), (1, 1, false), (2, 1, false)]), 3, 24, [.int .i64 0, .int .i64 0, .int .i64 0], false⟩
  | _ => ⟨.other, 0, 0, [], false⟩
noncomputable def bodyOf (f : Func) : Code := f.body.getD .skip
noncomputable def fni (f : Func) (keep : Nat → List Nat) (ptr : Bool) (nw : Bool := false) : FnI := ⟨bodyOf f, f.ntmps, f.params.toList, f.results.toList, keep, ptr, nw⟩
noncomputable def fnT0 : FuncId → Option FnI
  | 3 => some (fni Tryz.f3 (fun _ => []) false)
  | 4 => some (fni Tryz.f4 (fun _ => []) false)
  | 5 => some (fni Tryz.f5 (fun _ => []) false)
  | 6 => some (fni Tryz.f6 (fun _ => []) false)
  | 7 => some (fni Tryz.f7 (fun _ => []) false)
  | 8 => some (fni Tryz.f8 (fun _ => []) false)
  | 9 => some (fni Tryz.f9 (fun _ => []) false)
  | 10 => some (fni Tryz.f10 (fun _ => []) false)
  | 11 => some (fni Tryz.f11 (fun _ => []) false)
  | 12 => some (fni Tryz.f12 (fun _ => []) false)
  | 13 => some (fni Tryz.f13 (fun _ => []) false)
  | 14 => some (fni Tryz.f14 (fun _ => []) false)
  | 15 => some (fni Tryz.f15 (fun | 5 => [0, 1, 5] | _ => []) false)
  | 16 => some (fni Tryz.f16 (fun _ => []) false)
  | 17 => some (fni Tryz.f17 (fun | 3 => [0, 3, 4] | _ => []) false true)
  | 18 => some (fni Tryz.f18 (fun _ => []) false)
  | 19 => some (fni Tryz.f19 (fun | 4 => [0, 1, 5] | _ => []) false)
  | 20 => some (fni Tryz.f20 (fun | 4 => [2, 7, 8, 10] | _ => []) false)
  | 21 => some (fni Tryz.f21 (fun | 4 => [2, 9, 18, 19, 20] | _ => []) false true)
  | 22 => some (fni Tryz.f22 (fun | 4 => [0, 1, 5] | _ => []) false)
  | 23 => some (fni Tryz.f23 (fun | 2 => [0, 1, 5] | _ => []) false)
  | _ => none
noncomputable def fnT1 : FuncId → Option FnI
  | 24 => some (fni Tryz.f24 (fun | 2 => [0, 1, 5] | _ => []) false)
  | 25 => some (fni Tryz.f25 (fun | 2 => [0, 1, 5] | _ => []) false)
  | 26 => some (fni Tryz.f26 (fun | 4 => [0, 5, 6, 8] | _ => []) false)
  | 27 => some (fni Tryz.f27 (fun _ => []) false true)
  | 28 => some (fni Tryz.f28 (fun | 4 => [5, 6, 8] | _ => []) false)
  | 29 => some (fni Tryz.f29 (fun _ => []) false true)
  | 30 => some (fni Tryz.f30 (fun _ => []) false)
  | 31 => some (fni Tryz.f31 (fun _ => []) false true)
  | 32 => some (fni Tryz.f32 (fun | 4 => [0, 1, 5] | _ => []) false)
  | 33 => some (fni Tryz.f33 (fun | 2 => [0, 1, 5] | _ => []) false)
  | 34 => some (fni Tryz.f34 (fun | 2 => [0, 1, 5] | _ => []) false)
  | 35 => some (fni Tryz.f35 (fun | 4 => [0, 5, 6, 7] | _ => []) false)
  | 36 => some (fni Tryz.f36 (fun | 4 => [5, 6, 12, 13, 14] | _ => []) false true)
  | 37 => some (fni Tryz.f37 (fun | 4 => [0, 5, 6, 7] | _ => []) false)
  | 38 => some (fni Tryz.f38 (fun | 6 => [5, 6, 15, 16] | _ => []) false true)
  | 39 => some (fni Tryz.f39 (fun | 5 => [0, 5, 6, 7, 8] | _ => []) false)
  | 40 => some (fni Tryz.f40 (fun | 4 => [0, 5, 6, 13, 14, 15] | _ => []) false true)
  | 41 => some (fni Tryz.f41 (fun _ => []) false)
  | 42 => some (fni Tryz.f42 (fun _ => []) false true)
  | 43 => some (fni Tryz.f43 (fun | 2 => [0, 1, 5] | _ => []) false)
  | 44 => some (fni Tryz.f44 (fun | 4 => [0, 6, 7, 8, 9] | 10 => [0, 6, 7, 8, 9, 10, 11, 12] | _ => []) false)
  | 45 => some (fni Tryz.f45 (fun | 6 => [0, 6, 8, 22, 23, 24] | 12 => [0, 6, 8, 10, 22, 23, 24, 58, 59, 60] | _ => []) false true)
  | 46 => some (fni Tryz.f46 (fun | 4 => [0, 1, 5] | _ => []) false)
  | 47 => some (fni Tryz.f47 (fun | 2 => [0, 1, 5] | _ => []) false)
  | _ => none
noncomputable def fnT2 : FuncId → Option FnI
  | 48 => some (fni Tryz.f48 (fun | 2 => [0, 1, 5] | _ => []) false)
  | 49 => some (fni Tryz.f49 (fun | 4 => [2, 7, 8, 10] | _ => []) false)
  | 50 => some (fni Tryz.f50 (fun | 4 => [2, 9, 18, 19, 20] | _ => []) false true)
  | 51 => some (fni Tryz.f51 (fun | 4 => [0, 5, 6, 8] | _ => []) false)
  | 52 => some (fni Tryz.f52 (fun | 4 => [0, 7, 16, 17, 18] | _ => []) false true)
  | 53 => some (fni Tryz.f53 (fun _ => []) false)
  | 54 => some (fni Tryz.f54 (fun _ => []) false)
  | 55 => some (fni Tryz.f55 (fun _ => []) false)
  | 56 => some (fni Tryz.f56 (fun _ => []) false)
  | 57 => some (fni Tryz.f57 (fun _ => []) false)
  | 58 => some (fni Tryz.f58 (fun | 4 => [0, 1, 5, 6, 7] | _ => []) false)
  | 59 => some (fni Tryz.f59 (fun | 2 => [0, 1, 5] | _ => []) false true)
  | 60 => some (fni Tryz.f60 (fun | 4 => [0, 3] | _ => []) false)
  | 61 => some (fni Tryz.f61 (fun | 4 => [2, 9, 18, 19, 20] | _ => []) false true)
  | 62 => some (fni Tryz.f62 (fun _ => []) false)
  | 63 => some (fni Tryz.f63 (fun _ => []) false)
  | 64 => some (fni Tryz.f64 (fun | 5 => [2, 9, 10] | _ => []) false)
  | 65 => some (fni Tryz.f65 (fun _ => []) false)
  | 66 => some (fni Tryz.f66 (fun _ => []) false true)
  | 67 => some (fni Tryz.f67 (fun _ => []) false)
  | 68 => some (fni Tryz.f68 (fun | 2 => [0, 1, 5] | _ => []) false)
  | 69 => some (fni Tryz.f69 (fun | 2 => [1, 7, 8, 9] | _ => []) false)
  | 70 => some (fni Tryz.f70 (fun | 3 => [0, 3, 4] | _ => []) false)
  | 71 => some (fni Tryz.f71 (fun _ => []) false)
  | _ => none
noncomputable def fnT3 : FuncId → Option FnI
  | 72 => some (fni Tryz.f72 (fun _ => []) false)
  | 73 => some (fni Tryz.f73 (fun _ => []) false true)
  | 74 => some (fni Tryz.f74 (fun | 3 => [0, 1, 2, 3, 9, 10] | _ => []) false)
  | 75 => some (fni Tryz.f75 (fun | 4 => [0, 3, 5, 6, 7] | _ => []) false)
  | 76 => some (fni Tryz.f76 (fun | 3 => [0, 1, 2, 3, 9, 10] | _ => []) false)
  | 77 => some (fni Tryz.f77 (fun | 4 => [1, 3, 10, 11, 12] | _ => []) false true)
  | 78 => some (fni Tryz.f78 (fun _ => []) false)
  | 79 => some (fni Tryz.f79 (fun | 5 => [0, 5, 6] | _ => []) false)
  | 80 => some (fni Tryz.f80 (fun _ => []) false)
  | 81 => some (fni Tryz.f81 (fun | 2 => [0, 3] | _ => []) false)
  | 82 => some (fni Tryz.f82 (fun | 3 => [0, 3, 5, 6] | _ => []) false)
  | 83 => some (fni Tryz.f83 (fun | 2 => [0, 3, 5, 6] | _ => []) false)
  | 84 => some (fni Tryz.f84 (fun _ => []) false)
  | 85 => some (fni Tryz.f85 (fun | 2 => [0, 1, 5] | _ => []) false)
  | 86 => some (fni Tryz.f86 (fun | 3 => [0, 4, 5, 6] | _ => []) false)
  | 87 => some (fni Tryz.f87 (fun | 3 => [1, 2, 5, 6] | _ => []) false)
  | 88 => some (fni Tryz.f88 (fun _ => []) false)
  | 89 => some (fni Tryz.f89 (fun | 5 => [0, 1, 9, 28, 29, 30] | 13 => [0, 1, 9, 12, 44] | _ => []) false true)
  | 90 => some (fni Tryz.f90 (fun _ => []) false)
  | 91 => some (fni Tryz.f91 (fun _ => []) false)
  | 92 => some (fni Tryz.f92 (fun | 5 => [1, 5, 11, 12, 13] | _ => []) false)
  | 93 => some (fni Tryz.f93 (fun _ => []) false)
  | 94 => some (fni Tryz.f94 (fun | 7 => [0, 2, 7, 8, 9, 10] | _ => []) false)
  | 95 => some (fni Tryz.f95 (fun | 5 => [0, 3, 16, 17, 18] | 12 => [0, 3, 4, 6, 7, 8, 16, 17, 18] | _ => []) false)
  | _ => none
noncomputable def fnT4 : FuncId → Option FnI
  | 96 => some (fni Tryz.f96 (fun | 3 => [0, 5, 11, 12, 13] | _ => []) false true)
  | 97 => some (fni Tryz.f97 (fun | 5 => [0, 1, 6, 7, 24, 25, 26] | _ => []) false)
  | 99 => some (fni Tryz.f99 (fun _ => []) false)
  | 100 => some (fni Tryz.f100 (fun _ => []) false)
  | 101 => some (fni Tryz.f101 (fun | 4 => [0, 1, 5] | _ => []) false)
  | 102 => some (fni Tryz.f102 (fun _ => []) false)
  | 103 => some (fni Tryz.f103 (fun | 1 => [0, 1, 2] | _ => []) false)
  | 104 => some (fni Tryz.f104 (fun | 3 => [0, 3, 13, 14] | 8 => [3, 21, 22, 23] | 11 => [3, 5, 21, 22, 23, 29, 30, 31] | _ => []) false)
  | 105 => some (fni Tryz.f105 (fun _ => []) false)
  | 106 => some (fni Tryz.f106 (fun _ => []) false)
  | 107 => some (fni Tryz.f107 (fun _ => []) false)
  | 108 => some (fni Tryz.f108 (fun | 6 => [0, 1, 4, 5, 6, 7] | 10 => [0, 1, 4, 5, 7, 8, 9, 10] | _ => []) false)
  | 109 => some (fni Tryz.f109 (fun | 5 => [0, 1, 5, 6] | 12 => [0, 1, 5, 6, 7, 8, 9] | _ => []) false)
  | 110 => some (fni Tryz.f110 (fun | 25 => [1, 2, 3, 4, 5, 11, 14, 15] | _ => []) false)
  | 111 => some (fni Tryz.f111 (fun | 3 => [0, 4, 5] | 10 => [0, 4, 5, 6, 7, 8] | _ => []) false)
  | 112 => some (fni Tryz.f112 (fun _ => []) false)
  | 113 => some (fni Tryz.f113 (fun | 2 => [0, 3] | _ => []) false)
  | 114 => some (fni Tryz.f114 (fun _ => []) false)
  | 115 => some (fni Tryz.f115 (fun _ => []) false)
  | 116 => some (fni Tryz.f116 (fun | 3 => [0, 1, 5, 12, 13, 14] | _ => []) false)
  | 117 => some (fni Tryz.f117 (fun | 4 => [0, 3, 4, 10, 11, 12] | _ => []) false)
  | 119 => some (fni Tryz.f119 (fun _ => []) false)
  | _ => none
noncomputable def fnT5 : FuncId → Option FnI
  | 120 => some (fni Tryz.f120 (fun _ => []) false)
  | 121 => some (fni Tryz.f121 (fun | 3 => [1, 2, 5, 6] | _ => []) false)
  | 122 => some (fni Tryz.f122 (fun | 4 => [1, 35, 36, 37] | _ => []) false)
  | 123 => some (fni Tryz.f123 (fun _ => []) false)
  | 129 => some (fni Tryz.f129 (fun _ => []) false)
  | 130 => some (fni Tryz.f130 (fun _ => []) false)
  | 131 => some (fni Tryz.f131 (fun | 3 => [0, 3, 4] | _ => []) false)
  | 132 => some (fni Tryz.f132 (fun _ => []) false)
  | 133 => some (fni Tryz.f133 (fun _ => []) false)
  | 134 => some (fni Tryz.f134 (fun _ => []) false)
  | 135 => some (fni Tryz.f135 (fun | 3 => [0, 5, 6, 7, 17, 18] | _ => []) false)
  | 136 => some (fni Tryz.f136 (fun _ => []) false)
  | 137 => some (fni Tryz.f137 (fun _ => []) false)
  | 138 => some (fni Tryz.f138 (fun _ => []) false)
  | 139 => some (fni Tryz.f139 (fun _ => []) false)
  | 140 => some (fni Tryz.f140 (fun | 18 => [1, 2, 3, 4, 11, 12, 13, 14] | _ => []) false)
  | 141 => some (fni Tryz.f141 (fun _ => []) false)
  | 142 => some (fni Tryz.f142 (fun _ => []) false)
  | 143 => some (fni Tryz.f143 (fun _ => []) false)
  | _ => none
noncomputable def fnT6 : FuncId → Option FnI
  | 144 => some (fni Tryz.f144 (fun | 1 => [0, 1, 2, 3, 8] | 4 => [0, 1, 2, 3, 8, 10, 30, 31, 32] | _ => []) false)
  | 145 => some (fni Tryz.f145 (fun _ => []) true)
  | 148 => some (fni Tryz.f148 (fun _ => []) false)
  | 149 => some (fni Tryz.f149 (fun | 3 => [0, 1, 5, 6] | _ => []) false)
  | 150 => some (fni Tryz.f150 (fun _ => []) false)
  | 151 => some (fni Tryz.f151 (fun _ => []) false)
  | 152 => some (fni Tryz.f152 (fun _ => []) false)
  | _ => none
noncomputable def fnT7 : FuncId → Option FnI
  | 172 => some (fni Tryz.f172 (fun | 3 => [3, 6, 7, 8] | _ => []) false)
  | 173 => some (fni Tryz.f173 (fun _ => []) false)
  | 174 => some (fni Tryz.f174 (fun | 4 => [0, 1, 5, 6, 7] | _ => []) false)
  | 175 => some (fni Tryz.f175 (fun _ => []) false)
  | 176 => some (fni Tryz.f176 (fun | 4 => [1, 2, 3, 4, 5, 11, 12, 13] | 11 => [1, 2, 3, 4, 5, 11, 12, 13, 14, 15, 16] | _ => []) false)
  | 177 => some (fni Tryz.f177 (fun | 3 => [3, 9, 10] | _ => []) false)
  | 178 => some (fni Tryz.f178 (fun | 3 => [1, 2, 4, 5, 6, 7, 8, 19, 20] | _ => []) false)
  | 179 => some (fni Tryz.f179 (fun _ => []) false)
  | 180 => some (fni Tryz.f180 (fun _ => []) false)
  | 182 => some (fni Tryz.f182 (fun _ => []) false)
  | 183 => some (fni Tryz.f183 (fun | 2 => [0, 5, 10, 11, 12] | _ => []) true)
  | 184 => some (fni Tryz.f184 (fun _ => []) false)
  | 185 => some (fni Tryz.f185 (fun _ => []) true)
  | 186 => some (fni Tryz.f186 (fun _ => []) true)
  | 187 => some (fni Tryz.f187 (fun _ => []) true)
  | 188 => some (fni Tryz.f188 (fun | 3 => [0, 1, 2, 7, 20, 21, 22] | _ => []) true)
  | 190 => some (fni Tryz.f190 (fun _ => []) false)
  | _ => none
noncomputable def fnT8 : FuncId → Option FnI
  | 196 => some (fni Tryz.f196 (fun _ => []) false)
  | 197 => some (fni Tryz.f197 (fun _ => []) false)
  | 198 => some (fni Tryz.f198 (fun | 2 => [0, 3] | _ => []) false)
  | 199 => some (fni Tryz.f199 (fun | 3 => [0, 3, 4] | _ => []) false)
  | 200 => some (fni Tryz.f200 (fun | 4 => [0, 3, 8, 9, 10] | _ => []) false)
  | 201 => some (fni Tryz.f201 (fun _ => []) true)
  | 202 => some (fni Tryz.f202 (fun | 7 => [0, 1, 2, 11, 46, 47, 48] | 20 => [0, 11, 104, 105, 106] | _ => []) true)
  | 203 => some (fni Tryz.f203 (fun | 3 => [2, 7, 12, 13, 14] | _ => []) true)
  | 204 => some (fni Tryz.f204 (fun | 5 => [0, 1, 2, 8, 10, 28, 29, 30] | _ => []) true)
  | 205 => some (fni Tryz.f205 (fun _ => []) true)
  | 214 => some (fni Tryz.f214 (fun | 2 => [0, 3] | _ => []) false)
  | 215 => some (fni Tryz.f215 (fun | 2 => [0, 5, 6, 7] | _ => []) false)
  | _ => none
noncomputable def fnT9 : FuncId → Option FnI
  | 217 => some (fni Tryz.f217 (fun _ => []) false)
  | 218 => some (fni Tryz.f218 (fun _ => []) false)
  | 220 => some (fni Tryz.f220 (fun | 5 => [0, 1, 2, 8, 10, 11, 52, 53, 54] | _ => []) true)
  | 221 => some (fni Tryz.f221 (fun | 2 => [0, 3, 9, 15, 16, 17] | _ => []) true)
  | 229 => some (fni Tryz.f229 (fun _ => []) false)
  | 230 => some (fni Tryz.f230 (fun _ => []) false)
  | 231 => some (fni Tryz.f231 (fun | 4 => [0, 1, 2, 7, 8, 9, 10] | 9 => [0, 1, 2, 7, 8, 9, 10, 11, 12, 48, 49, 50] | _ => []) false)
  | 235 => some (fni Tryz.f235 (fun _ => []) false)
  | _ => none
noncomputable def fnT10 : FuncId → Option FnI
  | 248 => some (fni Tryz.f248 (fun | 1 => [0, 1] | _ => []) false)
  | _ => none
noncomputable def fnT (f : FuncId) : Option FnI :=
  match Nat.ble f 23 with
  | true => fnT0 f
  | false =>
   match Nat.ble f 47 with
   | true => fnT1 f
   | false =>
    match Nat.ble f 71 with
    | true => fnT2 f
    | false =>
     match Nat.ble f 95 with
     | true => fnT3 f
     | false =>
      match Nat.ble f 119 with
      | true => fnT4 f
      | false =>
       match Nat.ble f 143 with
       | true => fnT5 f
       | false =>
        match Nat.ble f 167 with
        | true => fnT6 f
        | false =>
         match Nat.ble f 191 with
         | true => fnT7 f
         | false =>
          match Nat.ble f 215 with
          | true => fnT8 f
          | false =>
           match Nat.ble f 239 with
           | true => fnT9 f
           | false =>
            fnT10 f
def keyS : ByteArray := ⟨#[102, 117, 110, 32, 97, 112, 112, 32, 108, 101, 116, 32, 114, 101, 99, 32, 105, 102, 32, 97, 100, 100, 32, 115, 117, 98, 32, 108, 101, 115, 115, 32, 115, 97, 109, 101, 32, 112, 97, 105, 114, 32, 102, 115, 116, 32, 115, 110, 100, 32, 110, 105, 108, 32, 99, 111, 110, 115, 32, 109, 97, 116, 99, 104, 32, 114, 101, 102, 32, 103, 101, 116, 32, 115, 101, 116, 32, 114, 97, 105, 115, 101, 32, 116, 114, 121]⟩
def spaceS : ByteArray := ⟨#[32]⟩
def keyL : List ByteArray := [⟨#[102, 117, 110]⟩, ⟨#[97, 112, 112]⟩, ⟨#[108, 101, 116]⟩, ⟨#[114, 101, 99]⟩, ⟨#[105, 102]⟩, ⟨#[97, 100, 100]⟩, ⟨#[115, 117, 98]⟩, ⟨#[108, 101, 115, 115]⟩, ⟨#[115, 97, 109, 101]⟩, ⟨#[112, 97, 105, 114]⟩, ⟨#[102, 115, 116]⟩, ⟨#[115, 110, 100]⟩, ⟨#[110, 105, 108]⟩, ⟨#[99, 111, 110, 115]⟩, ⟨#[109, 97, 116, 99, 104]⟩, ⟨#[114, 101, 102]⟩, ⟨#[103, 101, 116]⟩, ⟨#[115, 101, 116]⟩, ⟨#[114, 97, 105, 115, 101]⟩, ⟨#[116, 114, 121]⟩]
def splitX : List D → Option D
  | [.str a, .str b] => if a.toList == keyS.toList && b.toList == spaceS.toList then some (.sl .ro 1 (eB keyL)) else none
  | _ => none
def exT (xa xb : Option (List D → Option D)) (f : FuncId) : Option (List D → Option D) :=
  match Nat.beq f 118 with
  | true => xa
  | false => match Nat.beq f 181 with
    | true => xb
    | false => match Nat.beq f 227 with
      | true => some splitX
      | false => none
noncomputable def env (xa xb : Option (List D → Option D)) : Env := ⟨ty, fnT, exT xa xb⟩
end Go.Mach
end
section
set_option linter.unusedVariables false
set_option linter.unusedSimpArgs false
namespace Go.Mach
open Go Go.RowKit Go.Proofs
set_option maxRecDepth 100000
def zeroChk : List D → List Value → Bool
  | [], [] => true
  | .int k n :: l, .int k' n' :: m => decide (k = k') && (decide (n = n') && zeroChk l m)
  | .bool a :: l, .bool b :: m => (a == b) && zeroChk l m
  | .str a :: l, .string b :: m => a.data.toList.isEmpty && (b.data.toList.isEmpty && zeroChk l m)
  | .sl .nil _ [] :: l, .slice none 0 0 :: m => zeroChk l m
  | .pnil :: l, .pointer none :: m => zeroChk l m
  | _, _ => false
theorem empty_ba {a : ByteArray} (h : a.data.toList.isEmpty = true) : a = ⟨#[]⟩ := by
  obtain ⟨⟨l⟩⟩ := a
  cases l with
  | nil => rfl
  | cons x l => cases h
theorem zero_cons {d : D} {v : Value} {l : List D} {m : List Value} (hd : d.cell = true) (hr : ∀ σ w, RD σ w d v) (h : m.length = l.length ∧ ∀ i, i < l.length → (l.getD i .junk).cell = true ∧ ∀ σ w, RD σ w (l.getD i .junk) (m.getD i undef)) :
    (v :: m).length = (d :: l).length ∧ ∀ i, i < (d :: l).length → ((d :: l).getD i .junk).cell = true ∧ ∀ σ w, RD σ w ((d :: l).getD i .junk) ((v :: m).getD i undef) := by
  refine ⟨by simp [h.1], fun i hi => ?_⟩
  cases i with
  | zero => exact ⟨hd, hr⟩
  | succ i => exact h.2 i (by simpa using hi)
theorem zeroChk_ok : ∀ (l : List D) (m : List Value), zeroChk l m = true → m.length = l.length ∧ ∀ i, i < l.length → (l.getD i .junk).cell = true ∧ ∀ σ w, RD σ w (l.getD i .junk) (m.getD i undef) := by
  intro l m h
  induction l, m using zeroChk.induct with
  | case1 => exact ⟨rfl, fun i hi => by simp at hi⟩
  | case2 k n l k' n' m ih =>
    simp only [zeroChk, Bool.and_eq_true, decide_eq_true_eq] at h
    obtain ⟨rfl, rfl, h⟩ := h
    exact zero_cons rfl (fun σ w => .int _ _) (ih h)
  | case3 a l b m ih =>
    simp only [zeroChk, Bool.and_eq_true, beq_iff_eq] at h
    obtain ⟨rfl, h⟩ := h
    exact zero_cons rfl (fun σ w => .bool _) (ih h)
  | case4 a l b m ih =>
    simp only [zeroChk, Bool.and_eq_true] at h
    obtain ⟨h1, h2, h⟩ := h
    rw [empty_ba h1, empty_ba h2]
    exact zero_cons rfl (fun σ w => .str _) (ih h)
  | case5 z l m ih => exact zero_cons rfl (fun σ w => .slN _ _) (ih (by simpa [zeroChk] using h))
  | case6 l m ih => exact zero_cons rfl (fun σ w => .pnil) (ih (by simpa [zeroChk] using h))
  | case7 l m => simp [zeroChk] at h
def kChk (P : Program) (t : TypeId) (k : Mach.K) : Bool :=
  match k, P.underlying t with
  | .bool, some .bool => true
  | .int k, some (.int k') => decide (k = k')
  | .str, some .string => true
  | .ptr e, some (.pointer e') => decide (e' = e)
  | .sl e z b, some (.slice e') => decide (e' = e) && (decide (0 < z) && (match P.info? e with
    | some ie => match ie.zero with
      | some zv => decide (ie.size = z) && (decide (ie.bytes = b) && decide (zv.cells.size = z))
      | none => false
    | none => false))
  | .st fs, some (.struct gs) => decide (gs.size = fs.length) && (List.range fs.length).all fun n => match fs[n]?, gs[n]? with
    | some (o, z, ag), some f => match P.underlying f.type, P.info? f.type with
      | some d, some fi => decide (f.offset = o) && ((d.isRow == ag) && decide (fi.size = z))
      | _, _ => false
    | _, _ => false
  | .other, _ => true
  | _, _ => false
def iChk (P : Program) (t : TypeId) (i : TyI) : Bool :=
  match P.info? t with
  | some ie => match ie.zero with
    | some zv => decide (ie.size = i.size) && zeroChk i.zero zv.cells.toList
    | none => false
  | none => false
theorem tyChk_ok {P : Program} {t : TypeId} {i : TyI} (hk : kChk P t i.k = true) (hi : iChk P t i = true) : TyOk P t i := by
  unfold kChk at hk
  refine ⟨fun e => ?_, fun k e => ?_, fun e => ?_, fun x e => ?_, fun x z b e => ?_, fun fs e => ?_, fun _ => ?_⟩
  · rw [e] at hk
    split at hk <;> first | contradiction | assumption
  · rw [e] at hk
    split at hk <;> first | contradiction | (rename_i h1 h2; cases h1; simp only [decide_eq_true_eq] at hk; rw [hk]; assumption)
  · rw [e] at hk
    split at hk <;> first | contradiction | assumption
  · rw [e] at hk
    split at hk <;> first | contradiction | (rename_i h1 h2; cases h1; simp only [decide_eq_true_eq] at hk; rw [← hk]; assumption)
  · rw [e] at hk
    split at hk <;> first
      | contradiction
      | (rename_i h1 h2
         cases h1
         simp only [Bool.and_eq_true, decide_eq_true_eq] at hk
         obtain ⟨q1, q2, q3⟩ := hk
         split at q3
         · rename_i ie hie
           split at q3
           · rename_i zv hzv
             simp only [Bool.and_eq_true, decide_eq_true_eq] at q3
             exact ⟨by rw [← q1]; assumption, q2, ie, zv, hie, q3.1, q3.2.1, hzv, q3.2.2⟩
           · cases q3
         · cases q3)
  · rw [e] at hk
    split at hk <;> first
      | contradiction
      | (rename_i gs h1 h2
         cases h1
         simp only [Bool.and_eq_true, decide_eq_true_eq] at hk
         refine ⟨gs, by assumption, hk.1, fun n o z ag hf => ?_⟩
         have hn := (List.getElem?_eq_some_iff.1 hf).1
         have := List.all_eq_true.1 hk.2 n (List.mem_range.2 hn)
         rw [hf] at this
         split at this
         · rename_i o' z' ag' f q1 q2
           cases q1
           split at this
           · rename_i d fi q3 q4
             simp only [Bool.and_eq_true, decide_eq_true_eq, beq_iff_eq] at this
             exact ⟨f, d, q2, this.1, q3, by rw [this.2.1], fi, q4, this.2.2⟩
           · cases this
         · cases this)
  · unfold iChk at hi
    split at hi
    · rename_i ie hie
      split at hi
      · rename_i zv hzv
        simp only [Bool.and_eq_true, decide_eq_true_eq] at hi
        have hz := zeroChk_ok _ _ hi.2
        refine ⟨ie, zv, hie, hi.1, hzv, by rw [← hz.1, Array.length_toList], fun j hj => ?_⟩
        have := hz.2 j hj
        refine ⟨this.1, fun σ w => ?_⟩
        have h2 := this.2 σ w
        have e : zv.cells.toList.getD j undef = zv.cells.getD j undef := by simp [List.getD_eq_getElem?_getD, Array.getD_eq_getD_getElem?]
        rw [e] at h2; exact h2
      · cases hi
    · cases hi
theorem tyOther {P : Program} {t : TypeId} : TyOk P t ⟨.other, 0, 0, [], false⟩ :=
  ⟨fun e => (by cases e), fun k e => (by cases e), fun e => (by cases e), fun x e => (by cases e), fun x z b e => (by cases e), fun fs e => (by cases e), fun h => absurd rfl h⟩
theorem ty_ok : ∀ t, TyOk Tryz.prog t (ty t) := by
  intro t
  unfold ty
  split <;> first | exact tyOther | exact tyChk_ok (by kernel_rfl) (by kernel_rfl)
end Go.Mach
end
