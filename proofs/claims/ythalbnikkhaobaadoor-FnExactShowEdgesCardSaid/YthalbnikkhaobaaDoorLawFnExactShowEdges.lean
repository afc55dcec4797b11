/- The row of the law FnExactShowEdges: for every input it returns true; each argument reads behind the call as it read before. No condition beyond the statement's own. -/
import Derived.Test.YthalbnikkhaobaaDoorRows
import Derived.Test.YthalbnikkhaobaaDoorPFnExactShowEdgesx2
import Derived.Test.YthalbnikkhaobaaDoorPureFnExactShowEdges
import Derived.Test.YthalbnikkhaobaaDoorOpen
import Derived.Test.YthalbnikkhaobaaDoorWSized
import Derived.WalkKit
import Derived.ProofKit
import Derived.OpenShut
import Derived.ShutString
import Derived.ChangeOld
import Derived.Below
import Derived.SizedLaws
import Derived.Lib.SmallJoins
import Derived.Test.YthalbnikkhaobaaDoorTie
import Derived.Test.YthalbnikkhaobaaDoorCards
import Derived.LaidMore
import Derived.Lay
import Derived.SevenTiedAt
import Derived.Stop.Joined
import Derived.Stop.LaidErr
import Derived.Lib.LaidTab
import Derived.Lib.ItoaNum
namespace Go.Proofs.YthalbnikkhaobaaDoor.fnExactShowEdges
open Go.ChangeShapes Go.WideShapes Go.ChangeAt Go.RowKit Go.Proofs.YthalbnikkhaobaaDoor.PFnExactShowEdges Go.Proofs.YthalbnikkhaobaaDoorW.PrintWords
open Go.ChangeMaps (open_string shut_string)
set_option linter.unusedVariables false
theorem own : ownKnob Tryd.prog.godebug = none := by kernel_rfl
theorem laidOut : laidOutB Tryd.prog = true := by kernel_rfl
theorem fits38 {H : Type} {enc : TypeId × Value → H} {w : World} {base : Nat} {spare : Nat → Bool} {held : Bool} {fs : Array Field} (he : Tryd.prog.underlying 38 = some (.struct fs)) :
    Open.Fits enc Tryd.prog w base spare held k38 fs (fun x : S38 => (Lit.int .i64 x.f0).wf = true ∧ (Lit.int .i64 x.f1).wf = true) := by
  intro ys n cell hj
  rw [Tryd.underlying38] at he
  obtain rfl := (TypeDesc.struct.inj (Option.some.inj he)).symm
  obtain ⟨v0, y0, c0, _, t0⟩ := hj 0 _ rfl
  obtain ⟨x0, e0, _, w0⟩ := DataW.trod_int Tryd.underlying3 t0
  obtain rfl := (List.cons.inj e0).1
  obtain ⟨v1, y1, c1, _, t1⟩ := hj 1 _ rfl
  obtain ⟨x1, e1, _, w1⟩ := DataW.trod_int Tryd.underlying3 t1
  obtain rfl := (List.cons.inj e1).1
  refine ⟨⟨x0, x1⟩, [.int .i64 x0, .int .i64 x1], rfl, k38_mk w _, ⟨w0, w1⟩, fun j u hu => ?_⟩
  cases j with
  | zero => obtain rfl := Option.some.inj hu; exact c0
  | succ j =>
    cases j with
    | zero => obtain rfl := Option.some.inj hu; exact c1
    | succ j =>
      simp at hu
noncomputable def laid : List (String × DataW Unit) := [("math/bits.deBruijn32tab", Rows.laid_math_bits_deBruijn32tab), ("math/bits.deBruijn64tab", Rows.laid_math_bits_deBruijn64tab), ("internal/strconv.uint64pow10", Rows.laid_internal_strconv_uint64pow10)]
set_option maxRecDepth 100000 in
theorem lifted (os : Os) (started : os.Started) (H : Type) (enc : TypeId × Value → H) :
    ReturnsInHanded {} Tryd.checked os 4 .any (fun w args => (Rows.fnExactShowEdgesSpec.pre enc Tryd.prog Tryd.f4 Rows.fnExactShowEdgesRow.domain false w args ∧ laidMetH Tryd.prog laid w) ∧ sizedMet enc Tryd.prog Tryd.f4 (OpenSpec.ofChange Rows.fnExactShowEdgesSpec) false w args)
      (Rows.fnExactShowEdgesSpec.post enc Tryd.prog Tryd.f4 false true false false) := by
  refine returnsInHanded_of_change_and (C := Tryd.checked) (X := fun w _ => laidMetH Tryd.prog laid w) (fun _ _ _ hh h => h.of_heap hh) own started (by kernel_rfl) Tryd.func4
    (ChangeSpec.witness_shaped (enc := enc) (C := Tryd.checked) (os := os) (X := fun w _ => laidMetH Tryd.prog laid w) false (World.laidAll Tryd.prog os laid) #[.slice none 0 0] 8 (World.laidAll_os _ _ _)
      (World.shaped_of_ZipB (by kernel_rfl) (by kernel_rfl)) (by kernel_rfl) (by kernel_rfl) (by kernel_rfl)
      (by rw [MakeChecks.laidMetH_plain _ _ _ (by kernel_rfl)]; exact laidMet_laidAll _ (by kernel_rfl) (by kernel_rfl))) ?_
  intro W base args ds gs before hval0 hW hcnd hsz0 hL _
  have hsz : (DataW.weightsEach Tryd.prog (Tryd.f4.params.toList ++ Rows.fnExactShowEdgesSpec.plain.varTypes Tryd.prog) (ds ++ gs)).all (· ≤ reachBytes) = true := hsz0
  have hval : ∀ (j : Nat) t v, Tryd.f4.params[j]? = some t → args[j]? = some v → Value.okWide Tryd.prog W .any base t v := hval0
  have hW' := hW
  obtain ⟨p, q, hA0, hV, rfl, hfz, hnd⟩ := hW
  have hA : DataW.TrodAll enc Tryd.prog W 0 (fun _ => true) true Tryd.f4.params.toList args.toList ds p := hA0
  rw [Tryd.params4] at hA hval hsz
  obtain ⟨v0, vs0, d0, ds0, p0, q0, hargs, rfl, rfl, h0, r0⟩ := trodAll_cons hA
  obtain ⟨rfl, rfl, rfl⟩ := trodAll_nil r0
  obtain rfl : args = #[v0] := by cases args; simp_all
  obtain ⟨rfl, rfl⟩ := trodVars_none hV
  obtain ⟨a0, len0, cap0, rfl⟩ := okWide_slice Tryd.underlying27 (hval 0 27 v0 rfl rfl)
  have k0 := h0
  have lt0 : ∀ x ∈ p0, x.block < W.heap.size := by obtain ⟨m, hm⟩ := k0; exact DataW.trod_lt m _ _ _ hm
  obtain ⟨l0, rfl, hc0, hr0, hm0, hw0, hd0⟩ := Open.open_structs Tryd.underlying27 Tryd.underlying38 (by kernel_rfl) (by kernel_rfl) rfl (fits38 Tryd.underlying38) h0
  have y0 : l0.length * 16 ≤ 140737488351232 := by
    rcases hd0 with z | ⟨es, sp, z, z2⟩
    · rw [z]; decide
    · have z3 := sized_slice hsz (j := 0) (t := 27) rfl (show _ = some (DataW.slice es sp) from congrArg some z) Tryd.underlying27
      rw [show Tryd.prog.bytesOf 38 = 16 from by kernel_rfl, z2] at z3
      exact Nat.le_trans (Nat.mul_le_mul_right _ (Nat.le_add_right _ _)) z3
  have hT : Go.Lib.TabIs Tryd.prog W "internal/strconv.uint64pow10" .u64 Go.Lib.pow10Tab := by
    rw [MakeChecks.laidMetH_plain _ _ _ (by kernel_rfl)] at hL
    have hD : (Rows.laid_internal_strconv_uint64pow10 : DataW Unit) = Go.Lib.tabData .u64 Go.Lib.pow10Tab := by kernel_rfl
    unfold laid at hL
    rw [hD] at hL
    exact Go.Lib.tabIs_of_head (g := 0) (t := 50) (by kernel_rfl) (by kernel_rfl) Tryd.underlying50 Tryd.underlying43 (by kernel_rfl) (by kernel_rfl) hL.tail.tail
  clear hA0 hval0 hsz0 hsz
  obtain ⟨k, hk⟩ := Pure.FnExactShowEdges l0 y0 hw0
  refine (laws_FnExactShowEdges.calls k _ _ l0 true W hr0 hc0 hk).mono fun e W' ⟨he, bel⟩ => ?_
  subst he
  exact ⟨_, rfl, _, _, _, [], _, [], hW', trodAll_mk1 (shut_bool Tryd.underlying4 _), (trodAll_cons_mk (Below.trod laidOut (by kernel_rfl) (of_decide_eq_true (by kernel_rfl)) k0 bel lt0) trodAll_mk0), rfl, bel.frame _, fun h => by cases h⟩
theorem over : Rows.fnExactShowEdgesRow.holds Tryd.pinned (OpenSpec.ofChange Rows.fnExactShowEdgesSpec) :=
  OpenClaim.holds_of_wide 4 Tryd.f4 rfl rfl rfl rfl rfl rfl rfl ⟨rfl, rfl, rfl, rfl, rfl⟩ rfl rfl rfl rfl rfl (by kernel_rfl) Tryd.func4 (by kernel_rfl)
    (of_decide_eq_true (by kernel_rfl)) (by unfold Func.isWrapper; first | (rw [if_pos (by decide +kernel)]; kernel_rfl) | (rw [if_neg (by decide +kernel)]; exact ⟨rfl, rfl⟩))
    (fun os started H enc _ => lifted os started H enc)
theorem proved : Rows.FnExactShowEdgesSaid := over
theorem card : Rows.FnExactShowEdgesCardSaid :=
  Claim7.holds_tied_plain_at .later [] [.data, .data, .data] true (true, "c6078e2968099f2af7ec5bb9099d4e85c9bf9a4a35c774a9cb8e48e4c93b8c37") false over (fun _ h => by cases h) (by kernel_rfl) (fun _ h => by cases h) fnExactShowEdges_row_tie rfl ⟨rfl, rfl⟩ (by kernel_rfl) rfl
    (fun f fn hf hfn => by
      obtain rfl : f = 4 := Option.some.inj ((show Tryd.prog.funcNamed "loop.example/g01292/laws.FnExactShowEdges" = some 4 by kernel_rfl).symm.trans hf) |>.symm
      obtain rfl : fn = Tryd.f4 := (Option.some.inj (Tryd.func4.symm.trans hfn)).symm
      exact ⟨by kernel_rfl, fun j t ht => by
        rw [Tryd.params4] at ht
        have hm : t ∈ [27] := by simpa using Array.mem_of_getElem? ht
        have hall : ([27].all fun u => !Tryd.prog.wantsStandIn u) = true := by kernel_rfl
        exact (show Tryd.prog.wantsStandIn t = false by simpa using List.all_eq_true.1 hall t hm)⟩)
    (by kernel_rfl)
#print axioms card
#print axioms proved
end Go.Proofs.YthalbnikkhaobaaDoor.fnExactShowEdges
namespace Go.Proofs.YthalbnikkhaobaaDoor
/-- The row, under a short name, for the claim. -/
theorem fnExactShowEdges_card : Rows.FnExactShowEdgesCardSaid := fnExactShowEdges.card
end Go.Proofs.YthalbnikkhaobaaDoor
