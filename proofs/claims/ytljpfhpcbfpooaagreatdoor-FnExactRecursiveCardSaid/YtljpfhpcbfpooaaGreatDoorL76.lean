/- The program's Recursive returns what the reference's returns, for all arguments.: part 37 of a proof by an executable machine over the program's code. -/
import Derived.Test.YtljpfhpcbfpooaaGreatDoorL70
import Derived.Test.YtljpfhpcbfpooaaGreatDoorL75
set_option linter.unusedVariables false
set_option linter.unusedSimpArgs false
section
namespace Go.Proofs.YtljpfhpcbfpooaaGreatDoor.fnExactRecursive
open Go Go.RowKit Go.Proofs Go.ChangeShapes Go.WideShapes Go.ChangeAt Go.Deep Go.Mach
set_option linter.unusedVariables false
theorem own : ownKnob Tryz.prog.godebug = none := by kernel_rfl
theorem laidOut : laidOutB Tryz.prog = true := by kernel_rfl
noncomputable def laid : List (String × DataW Unit) := [("unicode/utf8.acceptRanges", Rows.laid_unicode_utf8_acceptRanges), ("unicode/utf8.first", Rows.laid_unicode_utf8_first)]
set_option maxRecDepth 100000 in
theorem lifted (os : Os) (started : os.Started) (H : Type) (enc : TypeId × Value → H) :
  ReturnsInHanded {} Tryz.checked os 7 .any (fun w args => (Rows.fnExactRecursiveSpec.pre enc Tryz.prog Tryz.f7 Rows.fnExactRecursiveRow.domain false w args ∧ laidMetH Tryz.prog laid w) ∧ sizedMet enc Tryz.prog Tryz.f7 (OpenSpec.ofChange Rows.fnExactRecursiveSpec) false w args)
   (Rows.fnExactRecursiveSpec.post enc Tryz.prog Tryz.f7 false true false false) := by
 refine returnsInHanded_of_change_and (C := Tryz.checked) (X := fun w _ => laidMetH Tryz.prog laid w) (fun _ _ _ hh h => h.of_heap hh) own started (by kernel_rfl) Tryz.func7
  (ChangeSpec.witness_shaped (enc := enc) (C := Tryz.checked) (os := os) (X := fun w _ => laidMetH Tryz.prog laid w) false (World.laidAll Tryz.prog os laid) #[.slice none 0 0, .int .i64 0] 8 (World.laidAll_os _ _ _)
   (World.shaped_of_ZipB (by kernel_rfl) (by kernel_rfl)) (by kernel_rfl) (by kernel_rfl) (by kernel_rfl)
   (by rw [MakeChecks.laidMetH_plain _ _ _ (by kernel_rfl)]; exact laidMet_laidAll _ (by kernel_rfl) (by kernel_rfl))) ?_
 intro W base args ds gs before hval0 hW hcnd hsz0 hL _
 have hval : ∀ (j : Nat) t v, Tryz.f7.params[j]? = some t → args[j]? = some v → Value.okWide Tryz.prog W .any base t v := hval0
 have hW' := hW
 obtain ⟨p, q, hA0, hV, rfl, hfz, hnd⟩ := hW
 have hA : DataW.TrodAll enc Tryz.prog W 0 (fun _ => true) true Tryz.f7.params.toList args.toList ds p := hA0
 rw [Tryz.params7] at hA hval
 obtain ⟨v0, vs0, d0, ds0, p0, q0, hargs, rfl, rfl, h0, r0⟩ := trodAll_cons hA
 obtain ⟨v1, vs1, d1, ds1, p1, q1, rfl, rfl, rfl, h1, r1⟩ := trodAll_cons r0
 obtain ⟨rfl, rfl, rfl⟩ := trodAll_nil r1
 obtain rfl : args = #[v0, v1] := by cases args; simp_all
 obtain ⟨rfl, rfl⟩ := trodVars_none hV
 have hv0 := hval 0 63 v0 rfl rfl
 obtain ⟨a0, len0, cap0, rfl⟩ := okWide_slice Tryz.underlying63 hv0
 have hsp : ∀ A, a0 = some A → A.spot = none := by
  rintro A rfl
  simp only [Value.okWide, Tryz.underlying63, Cell.okWide, Cell.ok, World.has] at hv0
  exact hv0.2.2.2.1
 have k0 := h0
 have lt0 : ∀ x ∈ p0, x.block < W.heap.size := by obtain ⟨m, hm⟩ := k0; exact DataW.trod_lt m _ _ _ hm
 obtain ⟨l, rfl, hm0, hs0, hcase⟩ := open_nodes h0
 obtain ⟨σ, hrd, hbig⟩ := rd_nodes hsp hcase
 obtain ⟨a1, rfl, rfl, rfl, w1⟩ := open_int Tryz.underlying3 (hval 1 3 v1 rfl rfl) h1
 have hB : Bg l := by
  refine ⟨?_, fun x hx => ?_⟩
  · unfold maxLen at hm0; omega
  · have := hs0 x hx; unfold maxLen at this; omega
 clear hA0 hval0 hsz0
 refine (law7_calls hB (Row.of_rd hrd (flt_eNd l) hbig (fun _ _ _ _ _ => Nat.zero_le _))).mono fun e W' ⟨he, bel⟩ => ?_
 subst he
 exact ⟨_, rfl, _, _, _, [], _, [], hW', trodAll_mk1 (shut_bool Tryz.underlying4 _), (trodAll_cons_mk (Below.trod laidOut (by kernel_rfl) (of_decide_eq_true (by kernel_rfl)) k0 bel lt0) (trodAll_cons_mk (shut_int Tryz.underlying3 w1) trodAll_mk0)), rfl, bel.frame _, fun h => by cases h⟩
theorem over : Rows.fnExactRecursiveRow.holds Tryz.pinned (OpenSpec.ofChange Rows.fnExactRecursiveSpec) :=
 OpenClaim.holds_of_wide 7 Tryz.f7 rfl rfl rfl rfl rfl rfl rfl ⟨rfl, rfl, rfl, rfl, rfl⟩ rfl rfl rfl rfl rfl (by kernel_rfl) Tryz.func7 joined
  (of_decide_eq_true (by kernel_rfl)) (by unfold Func.isWrapper; first | (rw [if_pos (by decide +kernel)]; kernel_rfl) | (rw [if_neg (by decide +kernel)]; exact ⟨rfl, rfl⟩))
  (fun os started H enc _ => lifted os started H enc)
theorem proved : Rows.FnExactRecursiveSaid := over
theorem g1 : false = Tryz.pinned.checked.prog.looks [] := by kernel_rfl
theorem g2 : false = Rows.fnExactRecursiveRow.goesBy Tryz.pinned.checked.prog := by kernel_rfl
theorem g3 : Tryz.prog.funcNamed "loop.example/g01292/laws.FnExactRecursive" = some 7 := by kernel_rfl
theorem g4 : Rows.fnExactRecursiveRow.wfByText (OpenSpec.ofChange Rows.fnExactRecursiveSpec) = true := by kernel_rfl
theorem g5 : ([63, 3].all fun u => !Tryz.prog.wantsStandIn u) = true := by kernel_rfl
theorem g6 : Tryz.pinned.checked.prog.mainIs = some (true, "468f3d7f9370a352ca3ae130d79dd449522069b7053337184d2031fb235baa75".toList) := by kernel_rfl
theorem card : Rows.FnExactRecursiveCardSaid :=
 Claim7.holds_tied_plain_at .later [] [.data, .pinned] true (true, "468f3d7f9370a352ca3ae130d79dd449522069b7053337184d2031fb235baa75") false over (fun _ h => by cases h) g4 (fun _ h => by cases h) fnExactRecursive_row_tie rfl ⟨rfl, rfl⟩ g6 rfl
  (fun f fn hf hfn => by
   obtain rfl : f = 7 := Option.some.inj (g3.symm.trans hf) |>.symm
   obtain rfl : fn = Tryz.f7 := (Option.some.inj (Tryz.func7.symm.trans hfn)).symm
   exact ⟨g1, fun j t ht => by
    rw [Tryz.params7] at ht
    have hm : t ∈ [63, 3] := by simpa using Array.mem_of_getElem? ht
    exact (show Tryz.prog.wantsStandIn t = false by simpa using List.all_eq_true.1 g5 t hm)⟩)
  g2
#print axioms card
end Go.Proofs.YtljpfhpcbfpooaaGreatDoor.fnExactRecursive
namespace Go.Proofs.YtljpfhpcbfpooaaGreatDoor
theorem fnExactRecursive_card : Rows.FnExactRecursiveCardSaid := fnExactRecursive.card
end Go.Proofs.YtljpfhpcbfpooaaGreatDoor
end
