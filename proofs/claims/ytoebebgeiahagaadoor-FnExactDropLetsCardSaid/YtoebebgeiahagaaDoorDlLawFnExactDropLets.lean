/- The row of the law FnExactDropLets: for every input it returns true; each argument reads behind the call as it read before. No condition beyond the statement's own. -/
import Derived.Test.YtoebebgeiahagaaDoorRows
import Derived.Test.YtoebebgeiahagaaDoorDlPFnExactDropLetsx24
import Derived.Test.YtoebebgeiahagaaDoorDlPureFnExactDropLets
import Derived.Test.YtoebebgeiahagaaDoorDlOpen
import Derived.Test.YtoebebgeiahagaaDoorDlWSized
import Derived.WalkKit
import Derived.ProofKit
import Derived.OpenShut
import Derived.ShutString
import Derived.ChangeOld
import Derived.Below
import Derived.SizedLaws
import Derived.Lib.SmallJoins
import Derived.Test.YtoebebgeiahagaaDoorTie
import Derived.Test.YtoebebgeiahagaaDoorCards
import Derived.LaidMore
import Derived.Lay
import Derived.SevenTiedAt
import Derived.Stop.Joined
namespace Go.Proofs.YtoebebgeiahagaaDoor.fnExactDropLets
open Go.ChangeShapes Go.WideShapes Go.ChangeAt Go.RowKit Go.Proofs.YtoebebgeiahagaaDoor.PFnExactDropLets Go.Proofs.YtoebebgeiahagaaDoorW.PrintWords
open Go.ChangeMaps (open_string shut_string)
set_option linter.unusedVariables false
theorem own : ownKnob Tryd.prog.godebug = none := by kernel_rfl
theorem laidOut : laidOutB Tryd.prog = true := by kernel_rfl
theorem fits45 {H : Type} {enc : TypeId × Value → H} {w : World} {base : Nat} {spare : Nat → Bool} {held : Bool} {fs : Array Field} (he : Tryd.prog.underlying 45 = some (.struct fs)) :
  Open.Fits enc Tryd.prog w base spare held k45 fs (fun x : S45 => (Lit.int .i64 x.f0).wf = true ∧ (Lit.int .i64 x.f1).wf = true ∧ (Lit.int .i64 x.f2).wf = true ∧ (Lit.int .i64 x.f3).wf = true ∧ (Lit.int .i64 x.f4).wf = true ∧ x.f5.size ≤ maxLen ∧ x.f6.size ≤ maxLen) := by
 intro ys n cell hj
 rw [Tryd.underlying45] at he
 obtain rfl := (TypeDesc.struct.inj (Option.some.inj he)).symm
 obtain ⟨v0, y0, c0, _, t0⟩ := hj 0 _ rfl
 obtain ⟨x0, e0, _, w0⟩ := DataW.trod_int Tryd.underlying3 t0
 obtain rfl := (List.cons.inj e0).1
 obtain ⟨v1, y1, c1, _, t1⟩ := hj 1 _ rfl
 obtain ⟨x1, e1, _, w1⟩ := DataW.trod_int Tryd.underlying3 t1
 obtain rfl := (List.cons.inj e1).1
 obtain ⟨v2, y2, c2, _, t2⟩ := hj 2 _ rfl
 obtain ⟨x2, e2, _, w2⟩ := DataW.trod_int Tryd.underlying3 t2
 obtain rfl := (List.cons.inj e2).1
 obtain ⟨v3, y3, c3, _, t3⟩ := hj 3 _ rfl
 obtain ⟨x3, e3, _, w3⟩ := DataW.trod_int Tryd.underlying3 t3
 obtain rfl := (List.cons.inj e3).1
 obtain ⟨v4, y4, c4, _, t4⟩ := hj 4 _ rfl
 obtain ⟨x4, e4, _, w4⟩ := DataW.trod_int Tryd.underlying3 t4
 obtain rfl := (List.cons.inj e4).1
 obtain ⟨v5, y5, c5, _, t5⟩ := hj 5 _ rfl
 obtain ⟨x5, e5, _, w5⟩ := DataW.trod_string Tryd.underlying9 t5
 obtain rfl := (List.cons.inj e5).1
 obtain ⟨v6, y6, c6, _, t6⟩ := hj 6 _ rfl
 obtain ⟨x6, e6, _, w6⟩ := DataW.trod_string Tryd.underlying9 t6
 obtain rfl := (List.cons.inj e6).1
 refine ⟨⟨x0, x1, x2, x3, x4, x5, x6⟩, [.int .i64 x0, .int .i64 x1, .int .i64 x2, .int .i64 x3, .int .i64 x4, .string x5, .string x6], rfl, k45_mk w _, ⟨w0, w1, w2, w3, w4, w5, w6⟩, fun j u hu => ?_⟩
 cases j with
 | zero => obtain rfl := Option.some.inj hu; exact c0
 | succ j =>
  cases j with
  | zero => obtain rfl := Option.some.inj hu; exact c1
  | succ j =>
   cases j with
   | zero => obtain rfl := Option.some.inj hu; exact c2
   | succ j =>
    cases j with
    | zero => obtain rfl := Option.some.inj hu; exact c3
    | succ j =>
     cases j with
     | zero => obtain rfl := Option.some.inj hu; exact c4
     | succ j =>
      cases j with
      | zero => obtain rfl := Option.some.inj hu; exact c5
      | succ j =>
       cases j with
       | zero => obtain rfl := Option.some.inj hu; exact c6
       | succ j =>
        simp at hu
noncomputable def laid : List (String × DataW Unit) := [("unicode/utf8.acceptRanges", Rows.laid_unicode_utf8_acceptRanges), ("unicode/utf8.first", Rows.laid_unicode_utf8_first)]
set_option maxRecDepth 100000 in
theorem lifted (os : Os) (started : os.Started) (H : Type) (enc : TypeId × Value → H) :
  ReturnsInHanded {} Tryd.checked os 6 .any (fun w args => (Rows.fnExactDropLetsSpec.pre enc Tryd.prog Tryd.f6 Rows.fnExactDropLetsRow.domain false w args ∧ laidMetH Tryd.prog laid w) ∧ sizedMet enc Tryd.prog Tryd.f6 (OpenSpec.ofChange Rows.fnExactDropLetsSpec) false w args)
   (Rows.fnExactDropLetsSpec.post enc Tryd.prog Tryd.f6 false true false false) := by
 refine returnsInHanded_of_change_and (C := Tryd.checked) (X := fun w _ => laidMetH Tryd.prog laid w) (fun _ _ _ hh h => h.of_heap hh) own started (by kernel_rfl) Tryd.func6
  (ChangeSpec.witness_shaped (enc := enc) (C := Tryd.checked) (os := os) (X := fun w _ => laidMetH Tryd.prog laid w) false (World.laidAll Tryd.prog os laid) #[.slice none 0 0] 8 (World.laidAll_os _ _ _)
   (World.shaped_of_ZipB (by kernel_rfl) (by kernel_rfl)) (by kernel_rfl) (by kernel_rfl) (by kernel_rfl)
   (by rw [MakeChecks.laidMetH_plain _ _ _ (by kernel_rfl)]; exact laidMet_laidAll _ (by kernel_rfl) (by kernel_rfl))) ?_
 intro W base args ds gs before hval0 hW hcnd hsz0 hL _
 have hsz : (DataW.weightsEach Tryd.prog (Tryd.f6.params.toList ++ Rows.fnExactDropLetsSpec.plain.varTypes Tryd.prog) (ds ++ gs)).all (· ≤ reachBytes) = true := hsz0
 have hval : ∀ (j : Nat) t v, Tryd.f6.params[j]? = some t → args[j]? = some v → Value.okWide Tryd.prog W .any base t v := hval0
 have hW' := hW
 obtain ⟨p, q, hA0, hV, rfl, hfz, hnd⟩ := hW
 have hA : DataW.TrodAll enc Tryd.prog W 0 (fun _ => true) true Tryd.f6.params.toList args.toList ds p := hA0
 rw [Tryd.params6] at hA hval hsz
 obtain ⟨v0, vs0, d0, ds0, p0, q0, hargs, rfl, rfl, h0, r0⟩ := trodAll_cons hA
 obtain ⟨rfl, rfl, rfl⟩ := trodAll_nil r0
 obtain rfl : args = #[v0] := by cases args; simp_all
 obtain ⟨rfl, rfl⟩ := trodVars_none hV
 obtain ⟨a0, len0, cap0, rfl⟩ := okWide_slice Tryd.underlying22 (hval 0 22 v0 rfl rfl)
 have k0 := h0
 have lt0 : ∀ x ∈ p0, x.block < W.heap.size := by obtain ⟨m, hm⟩ := k0; exact DataW.trod_lt m _ _ _ hm
 obtain ⟨l0, rfl, hc0, hr0, hm0, hw0, hd0⟩ := Open.open_structs Tryd.underlying22 Tryd.underlying45 (by kernel_rfl) (by kernel_rfl) rfl (fits45 Tryd.underlying45) h0
 have y0 : l0.length * 72 ≤ 140737488351232 := by
  rcases hd0 with z | ⟨es, sp, z, z2⟩
  ·rw [z]; decide
  ·have z3 := sized_slice hsz (j := 0) (t := 22) rfl (show _ = some (DataW.slice es sp) from congrArg some z) Tryd.underlying22
   rw [show Tryd.prog.bytesOf 45 = 72 from by kernel_rfl, z2] at z3
   exact Nat.le_trans (Nat.mul_le_mul_right _ (Nat.le_add_right _ _)) z3
 clear hA0 hval0 hsz0 hsz
 obtain ⟨k, hk⟩ := Pure.FnExactDropLets l0 y0 hw0
 refine (laws_FnExactDropLets.calls k _ _ l0 true W hr0 hc0 hk).mono fun e W' ⟨he, bel⟩ => ?_
 subst he
 exact ⟨_, rfl, _, _, _, [], _, [], hW', trodAll_mk1 (shut_bool Tryd.underlying4 _), (trodAll_cons_mk (Below.trod laidOut (by kernel_rfl) (of_decide_eq_true (by kernel_rfl)) k0 bel lt0) trodAll_mk0), rfl, bel.frame _, fun h => by cases h⟩
theorem over : Rows.fnExactDropLetsRow.holds Tryd.pinned (OpenSpec.ofChange Rows.fnExactDropLetsSpec) :=
 OpenClaim.holds_of_wide 6 Tryd.f6 rfl rfl rfl rfl rfl rfl rfl ⟨rfl, rfl, rfl, rfl, rfl⟩ rfl rfl rfl rfl rfl (by kernel_rfl) Tryd.func6 (by kernel_rfl)
  (of_decide_eq_true (by kernel_rfl)) (by unfold Func.isWrapper; first | (rw [if_pos (by decide +kernel)]; kernel_rfl) | (rw [if_neg (by decide +kernel)]; exact ⟨rfl, rfl⟩))
  (fun os started H enc _ => lifted os started H enc)
theorem proved : Rows.FnExactDropLetsSaid := over
theorem card : Rows.FnExactDropLetsCardSaid :=
 Claim7.holds_tied_plain_at .later [] [.data, .pinned] true (true, "7d8a82d317d81235beff44bd5a941658b6f68b33eafe5b0c33eb294dba4590a9") false over (fun _ h => by cases h) (by kernel_rfl) (fun _ h => by cases h) fnExactDropLets_row_tie rfl ⟨rfl, rfl⟩ (by kernel_rfl) rfl
  (fun f fn hf hfn => by
   obtain rfl : f = 6 := Option.some.inj ((show Tryd.prog.funcNamed "loop.example/g01292/laws.FnExactDropLets" = some 6 by kernel_rfl).symm.trans hf) |>.symm
   obtain rfl : fn = Tryd.f6 := (Option.some.inj (Tryd.func6.symm.trans hfn)).symm
   exact ⟨by kernel_rfl, fun j t ht => by
    rw [Tryd.params6] at ht
    have hm : t ∈ [22] := by simpa using Array.mem_of_getElem? ht
    have hall : ([22].all fun u => !Tryd.prog.wantsStandIn u) = true := by kernel_rfl
    exact (show Tryd.prog.wantsStandIn t = false by simpa using List.all_eq_true.1 hall t hm)⟩)
  (by kernel_rfl)
#print axioms card
#print axioms proved
end Go.Proofs.YtoebebgeiahagaaDoor.fnExactDropLets
namespace Go.Proofs.YtoebebgeiahagaaDoor
/-- The row, under a short name, for the claim. -/
theorem fnExactDropLets_card : Rows.FnExactDropLetsCardSaid := fnExactDropLets.card
end Go.Proofs.YtoebebgeiahagaaDoor
