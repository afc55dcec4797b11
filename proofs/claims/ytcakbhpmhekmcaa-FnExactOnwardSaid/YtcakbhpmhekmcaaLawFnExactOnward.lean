/- The row of the law FnExactOnward: for every input it returns true; each argument reads behind the call as it read before. No condition beyond the statement's own. -/
import Derived.Test.YtcakbhpmhekmcaaRows
import Derived.Test.YtcakbhpmhekmcaaPFnExactOnwardx5
import Derived.Test.YtcakbhpmhekmcaaPureFnExactOnward
import Derived.Test.YtcakbhpmhekmcaaOpen
import Derived.Test.YtcakbhpmhekmcaaWSized
import Derived.WalkKit
import Derived.ProofKit
import Derived.OpenShut
import Derived.ShutString
import Derived.ChangeOld
import Derived.Below
import Derived.SizedLaws
import Derived.Lib.SmallJoins
namespace Go.Proofs.Ytcakbhpmhekmcaa.fnExactOnward
open Go.ChangeShapes Go.WideShapes Go.ChangeAt Go.RowKit Go.Proofs.Ytcakbhpmhekmcaa.PFnExactOnward Go.Proofs.YtcakbhpmhekmcaaW.PrintWords
open Go.ChangeMaps (open_string shut_string)
set_option linter.unusedVariables false
theorem own : ownKnob Try.prog.godebug = none := by kernel_rfl
theorem laidOut : laidOutB Try.prog = true := by kernel_rfl
theorem fits56 {H : Type} {enc : TypeId × Value → H} {w : World} {base : Nat} {spare : Nat → Bool} {held : Bool} {fs : Array Field} (he : Try.prog.underlying 56 = some (.struct fs)) :
    Open.Fits enc Try.prog w base spare held k56 fs (fun x : S56 => (Lit.int .i64 x.f0).wf = true ∧ (Lit.int .i64 x.f1).wf = true) := by
  intro ys n cell hj
  rw [Try.underlying56] at he
  obtain rfl := (TypeDesc.struct.inj (Option.some.inj he)).symm
  obtain ⟨v0, y0, c0, _, t0⟩ := hj 0 _ rfl
  obtain ⟨x0, e0, _, w0⟩ := DataW.trod_int Try.underlying3 t0
  obtain rfl := (List.cons.inj e0).1
  obtain ⟨v1, y1, c1, _, t1⟩ := hj 1 _ rfl
  obtain ⟨x1, e1, _, w1⟩ := DataW.trod_int Try.underlying3 t1
  obtain rfl := (List.cons.inj e1).1
  refine ⟨⟨x0, x1⟩, [.int .i64 x0, .int .i64 x1], rfl, k56_mk w _, ⟨w0, w1⟩, fun j u hu => ?_⟩
  cases j with
  | zero => obtain rfl := Option.some.inj hu; exact c0
  | succ j =>
    cases j with
    | zero => obtain rfl := Option.some.inj hu; exact c1
    | succ j =>
      simp at hu
set_option maxRecDepth 100000 in
theorem lifted (os : Os) (started : os.Started) (H : Type) (enc : TypeId × Value → H) :
    ReturnsInHanded {} Try.checked os 10 .any (Rows.fnExactOnwardSpec.pre6 enc Try.prog Try.f10 Rows.fnExactOnwardRow.domain false) (Rows.fnExactOnwardSpec.post enc Try.prog Try.f10 false true false false) := by
  refine returnsInHanded_of_change_sized (C := Try.checked) own started (by kernel_rfl) Try.func10
    (ChangeSpec.witness6 (enc := enc) (C := Try.checked) false ⟨#[], #[.slice none 0 0, .int .i64 0], []⟩ 8 (by kernel_rfl) (by kernel_rfl) (by kernel_rfl) (by kernel_rfl)) ?_
  intro W base args ds gs before hval0 hW hcnd hsz0 _
  have hsz : (DataW.weightsEach Try.prog (Try.f10.params.toList ++ Rows.fnExactOnwardSpec.plain.varTypes Try.prog) (ds ++ gs)).all (· ≤ reachBytes) = true := hsz0
  have hval : ∀ (j : Nat) t v, Try.f10.params[j]? = some t → args[j]? = some v → Value.okWide Try.prog W .any base t v := hval0
  have hW' := hW
  obtain ⟨p, q, hA0, hV, rfl, hfz, hnd⟩ := hW
  have hA : DataW.TrodAll enc Try.prog W 0 (fun _ => true) true Try.f10.params.toList args.toList ds p := hA0
  rw [Try.params10] at hA hval hsz
  obtain ⟨v0, vs0, d0, ds0, p0, q0, hargs, rfl, rfl, h0, r0⟩ := trodAll_cons hA
  obtain ⟨v1, vs1, d1, ds1, p1, q1, rfl, rfl, rfl, h1, r1⟩ := trodAll_cons r0
  obtain ⟨rfl, rfl, rfl⟩ := trodAll_nil r1
  obtain rfl : args = #[v0, v1] := by cases args; simp_all
  obtain ⟨rfl, rfl⟩ := trodVars_none hV
  obtain ⟨a0, len0, cap0, rfl⟩ := okWide_slice Try.underlying43 (hval 0 43 v0 rfl rfl)
  have k0 := h0
  have lt0 : ∀ x ∈ p0, x.block < W.heap.size := by obtain ⟨m, hm⟩ := k0; exact DataW.trod_lt m _ _ _ hm
  obtain ⟨l0, rfl, hc0, hr0, hm0, hw0, hd0⟩ := Open.open_structs Try.underlying43 Try.underlying56 (by kernel_rfl) (by kernel_rfl) rfl (fits56 Try.underlying56) h0
  have y0 : l0.length * 16 ≤ 140737488351232 := by
    rcases hd0 with z | ⟨es, sp, z, z2⟩
    · rw [z]; decide
    · have z3 := sized_slice hsz (j := 0) (t := 43) rfl (show _ = some (DataW.slice es sp) from congrArg some z) Try.underlying43
      rw [show Try.prog.bytesOf 56 = 16 from by kernel_rfl, z2] at z3
      exact Nat.le_trans (Nat.mul_le_mul_right _ (Nat.le_add_right _ _)) z3
  obtain ⟨a1, rfl, rfl, rfl, w1⟩ := open_int Try.underlying3 (hval 1 3 v1 rfl rfl) h1
  clear hA0 hval0 hsz0 hsz
  obtain ⟨k, hk⟩ := Pure.FnExactOnward l0 a1 y0 hw0 w1
  refine (laws_FnExactOnward.calls k _ _ l0 a1 true W hr0 hc0 hk).mono fun e W' ⟨he, bel⟩ => ?_
  subst he
  exact ⟨_, rfl, _, _, _, [], _, [], hW', trodAll_mk1 (shut_bool Try.underlying4 _), (trodAll_cons_mk (Below.trod laidOut (by kernel_rfl) (of_decide_eq_true (by kernel_rfl)) k0 bel lt0) (trodAll_cons_mk (shut_int Try.underlying3 w1) trodAll_mk0)), rfl, bel.frame _, fun h => by cases h⟩
theorem over : Rows.fnExactOnwardRow.holds Try.pinned (OpenSpec.ofChange Rows.fnExactOnwardSpec) :=
  OpenClaim.holds_of_wide 10 Try.f10 rfl rfl rfl rfl rfl rfl rfl ⟨rfl, rfl, rfl, rfl, rfl⟩ rfl rfl rfl rfl rfl (by kernel_rfl) Try.func10 (by kernel_rfl)
    (of_decide_eq_true (by kernel_rfl)) (by unfold Func.isWrapper; first | (rw [if_pos (by decide +kernel)]; kernel_rfl) | (rw [if_neg (by decide +kernel)]; exact ⟨rfl, rfl⟩))
    (fun os started H enc _ => lifted os started H enc)
theorem proved : Rows.FnExactOnwardSaid := over
#print axioms proved
end Go.Proofs.Ytcakbhpmhekmcaa.fnExactOnward
namespace Go.Proofs.Ytcakbhpmhekmcaa
/-- The row, under a short name, for the claim. -/
theorem fnExactOnward_holds : Rows.FnExactOnwardSaid := fnExactOnward.proved
end Go.Proofs.Ytcakbhpmhekmcaa
