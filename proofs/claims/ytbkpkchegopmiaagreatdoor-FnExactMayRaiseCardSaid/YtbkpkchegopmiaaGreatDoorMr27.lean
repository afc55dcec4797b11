/- FnExactMayRaise: the program's MayRaise answers what the reference's answers, for all arguments (a tied card): part 27 of a proof by an executable machine over the program's code. -/
import Derived.Test.YtbkpkchegopmiaaGreatDoorMr18
import Derived.Test.YtbkpkchegopmiaaGreatDoorMr25
import Derived.Test.YtbkpkchegopmiaaGreatDoorMr26
section
set_option linter.unusedVariables false
set_option linter.unusedSimpArgs false
namespace Go.Mach
open Go Go.RowKit Go.Proofs
set_option maxRecDepth 100000
set_option maxHeartbeats 1000000
theorem spec_StartOf.ans {xa xb : Option (List D → Option D)} (o : Std) (ho : o = std) (l : List Nd) (i : Int) (h0 : Sz l) (h1 : l.length ≤ 1048576) : Ans (env xa xb) 133 [.sl .ro 7 (o.bx fun _ => eNd l), .int .i64 i] (.int .i64 (startOfR l i)) := by
  refine Ans.mkA ho _ rfl rfl ?_
  repeat' (first
    | (refine Den.id ?_
       (try (conv => arg 2; cbv))
       first
         | refine Den.testT ?_
         | refine Den.test1 (by with_reducible assumption) ?_
         | refine Den.test0 (by with_reducible assumption) ?_
         | refine Den.testN1 ho (by first | with_reducible assumption | with_reducible rfl) ?_
         | refine Den.testN0 ho (by first | with_reducible assumption | with_reducible rfl) ?_
         | (refine Den.test (fun hr => ?_) (fun hr => ?_) <;> (have hb := hr) <;> (try simp (disch := omega) only [ho, std, wI, len_eK, len_eB, len_eNd, len_eLNd, len_eFc, len_eAb, len_eBd, len_eEd, len_eLBd, Classical.not_not, decide_eq_true_eq, decide_eq_false_iff_not, beq_iff_eq, beq_eq_false_iff_ne, ne_eq, Bool.not_eq_true', Bool.not_eq_false', Bool.not_eq_true, Bool.not_eq_false, gt_iff_lt, ge_iff_le, Int.not_lt, Int.not_le] at hb) <;> (try (exfalso; first | contradiction | omega | exact hb rfl)))
         | (refine Den.pcallE (β := Bool) (fun v => .bool v) (as' := [.sl .ro 7 (o.bx fun _ => eNd _)]) (by first | with_reducible rfl | (subst ho; rfl)) (spec_NodesOk.ans o ho _ ?_ ?_) ?_; rotate_left 2; rintro (_ | _) hv <;> (try simp only [decide_eq_true_eq, decide_eq_false_iff_not] at hv) <;> (try first | contradiction | exact absurd (hv.symm.trans (show _ = false by assumption)) (by decide) | exact absurd (hv.symm.trans (show _ = true by assumption)) (by decide)))
         | (refine Den.pcallE (β := Bool) (fun v => .bool v) (as' := [.int .i64 _, .int .i64 _, .int .i64 _]) (by first | with_reducible rfl | (subst ho; rfl)) (spec_l1In.ans o ho _ _ _) ?_; rotate_left 0; rintro (_ | _) hv <;> (try simp only [decide_eq_true_eq, decide_eq_false_iff_not] at hv) <;> (try first | contradiction | exact absurd (hv.symm.trans (show _ = false by assumption)) (by decide) | exact absurd (hv.symm.trans (show _ = true by assumption)) (by decide)))
         | (refine Den.pcallE (β := (List Int) × Bool) (fun v => .tup [.sl .ro 1 (o.bx fun _ => eK .i64 v.1), .bool v.2]) (as' := [.sl .ro 7 (o.bx fun _ => eNd _)]) (by first | with_reducible rfl | (subst ho; rfl)) (spec_l3Starts.ans o ho _ ?_ ?_) ?_; rotate_left 2; rintro ⟨v0, (_ | _)⟩ hv <;> (try simp only [decide_eq_true_eq, decide_eq_false_iff_not] at hv) <;> (try first | contradiction | exact absurd (hv.symm.trans (show _ = false by assumption)) (by decide) | exact absurd (hv.symm.trans (show _ = true by assumption)) (by decide)))
         | (refine Den.fetchXK ho ?_ ?_ (fun y hy => ?_); rotate_left 2)
         | (refine Den.done ⟨by first | exact Or.inl rfl | exact Or.inr rfl, ?_⟩; (conv => lhs; cbv); refine congrArg some ?_))
    | ((fail_if_success (refine Den.id ?_))
       first
         | (subst ho; refine dI ?_; simp (disch := omega) only [std, wI, len_eNd] at *; first | exact startOfR_no (.inl (by assumption)) | exact startOfR_no (.inr (by assumption)))
         | (subst ho; simp (disch := omega) only [std, wI, len_eNd] at *; have hq := (okT_startsR (by assumption) (by assumption)).1; omega)
         | (have hq := (okM_iff.1 (by assumption)).size; omega)
         | (subst ho; refine dI ?_; simp (disch := omega) only [std, wI, len_eNd] at *; exact startOfR_yes (by assumption) (by assumption) (by assumption) hy)
         | assumption))
theorem spec_ParentOf.ans {xa xb : Option (List D → Option D)} (o : Std) (ho : o = std) (l : List Nd) (i : Int) (h0 : Sz l) (h1 : l.length ≤ 1048576) : Ans (env xa xb) 101 [.sl .ro 7 (o.bx fun _ => eNd l), .int .i64 i] (.int .i64 (parS l i)) := by
  refine Ans.mkA ho _ rfl rfl ?_
  repeat' (first
    | (refine Den.id ?_
       (try (conv => arg 2; cbv))
       first
         | refine Den.testN1 ho (by first | with_reducible assumption | with_reducible rfl) ?_
         | refine Den.testN0 ho (by first | with_reducible assumption | with_reducible rfl) ?_
         | (refine Den.pcallE (β := Bool) (fun v => .bool v) (as' := [.sl .ro 7 (o.bx fun _ => eNd _)]) (by first | with_reducible rfl | (subst ho; rfl)) (spec_NodesOk.ans o ho _ ?_ ?_) ?_; rotate_left 2; rintro (_ | _) hv <;> (try simp only [decide_eq_true_eq, decide_eq_false_iff_not] at hv) <;> (try first | contradiction | exact absurd (hv.symm.trans (show _ = false by assumption)) (by decide) | exact absurd (hv.symm.trans (show _ = true by assumption)) (by decide)))
         | (refine Den.indF (fun m_ s_ => ∃ (a5 : Int) (tk : List Nat), s_ = ⟨[.sl .ro 7 (o.bx fun _ => eNd l), .int .i64 i, .junk, .junk, .junk, .int .i64 a5] ++ List.replicate 17 .junk, [], [], tk⟩ ∧ (0 ≤ a5 ∧ a5 ≤ l.length ∧ (∀ j : Nat, (j : Int) < a5 → i ∉ kidsM (rN l j))) ∧ (l.length - a5).toNat ≤ m_) _ _ ⟨_, _, by subst ho; rfl, ?_, Nat.le_refl _⟩ ?_
            rotate_right
            rintro m_ _ ⟨a5, tk, rfl, hIa, hka⟩ iha
            obtain ⟨i1, i2, i3⟩ := hIa; refine Den.unloopA ho ?_
            repeat' (first
              | (refine Den.id ?_
                 (try (conv => arg 2; cbv))
                 first
                   | refine Den.testT ?_
                   | refine Den.testF ?_
                   | (refine Den.test (fun hr => ?_) (fun hr => ?_) <;> (have hb := hr) <;> (try simp (disch := omega) only [ho, std, wI, len_eK, len_eB, len_eNd, len_eLNd, len_eFc, len_eAb, len_eBd, len_eEd, len_eLBd, Classical.not_not, decide_eq_true_eq, decide_eq_false_iff_not, beq_iff_eq, beq_eq_false_iff_ne, ne_eq, Bool.not_eq_true', Bool.not_eq_false', Bool.not_eq_true, Bool.not_eq_false, gt_iff_lt, ge_iff_le, Int.not_lt, Int.not_le] at hb) <;> (try (exfalso; first | contradiction | omega | exact hb rfl)))
                   | (refine Den.pcallE (β := List Int) (fun v => .sl .ro 1 (o.bx fun _ => eK .i64 v)) (as' := [.agg [.int .i64 _, .int .i64 _, .int .i64 _, .int .i64 _, .int .i64 _, .str _, .str _]]) (by first | with_reducible rfl | (subst ho; rfl)) (spec_Kids.ans o ho _ _ _ _ _ _ _) ?_; rotate_left 0; rintro v hv)
                   | (refine Den.pcallE (β := Bool) (fun v => .bool v) (as' := [.sl .ro 1 (o.bx fun _ => eK .i64 _), .int .i64 _]) (by first | with_reducible rfl | (subst ho; rfl)) (spec_l4Has.ans o ho _ _ ?_) ?_; rotate_left 1; rintro (_ | _) hv <;> (try simp only [decide_eq_true_eq, decide_eq_false_iff_not] at hv) <;> (try first | contradiction | exact absurd (hv.symm.trans (show _ = false by assumption)) (by decide) | exact absurd (hv.symm.trans (show _ = true by assumption)) (by decide)))
                   | (refine Den.fetchXNd ho ?_ ?_ (fun y hy => ?_); rotate_left 2; rcases y with ⟨y0, y1, y2, y3, y4, y5, y6⟩)
                   | (refine iha _ _ ?_ ⟨_, _, by subst ho; rfl, ?_, Nat.le_refl _⟩)
                   | (refine Den.done ⟨by first | exact Or.inl rfl | exact Or.inr rfl, ?_⟩; (conv => lhs; cbv); refine congrArg some ?_))
              | ((fail_if_success (refine Den.id ?_))
                 first
                   | (subst ho; exact ⟨Int.le_refl _, by omega, fun j hj => absurd hj (by omega)⟩)
                   | (have hq := len_kidsM ⟨y0, y1, y2, y3, y4, y5, y6⟩; have hq2 := arityM_le y0; dsimp only at hq; rw [show kidsM _ = _ by assumption] at hq; omega)
                   | (refine dI ?_; exact (parS_none (fun j hj => i3 j (by omega))).symm)
                   | (refine dI ?_; exact (parS_hit (by assumption) i1 (by omega) i3 (at_nd (P := fun x => i ∈ kidsM x) hy (by rw [show kidsM _ = _ by assumption]; assumption))).symm)
                   | (simp (disch := omega) only [ho, std, wI]; exact ⟨by omega, by omega, par_step i1 i3 (at_nd (P := fun x => i ∉ kidsM x) hy (by rw [show kidsM _ = _ by assumption]; assumption))⟩)
                   | assumption
                   | (subst ho; simp (disch := omega) only [std, wI, tdiv2, tdivN, len_eFc, len_eNd, len_eBd, len_eAb, len_eLBd, len_eK, len_eB] <;> first | done | rfl | omega))))
         | (refine Den.done ⟨by first | exact Or.inl rfl | exact Or.inr rfl, ?_⟩; (conv => lhs; cbv); refine congrArg some ?_))
    | ((fail_if_success (refine Den.id ?_))
       first
         | (refine dI ?_; exact parS_no (by assumption))
         | assumption))
theorem spec_l6Bound.ans {xa xb : Option (List D → Option D)} (o : Std) (ho : o = std) (n_f0 : Int) (n_f1 : Int) (n_f2 : Int) (n_f3 : Int) (n_f4 : Int) (n_f5 : ByteArray) (n_f6 : ByteArray) (kid : Int) : Ans (env xa xb) 132 [.agg [.int .i64 n_f0, .int .i64 n_f1, .int .i64 n_f2, .int .i64 n_f3, .int .i64 n_f4, .str n_f5, .str n_f6], .int .i64 kid] (.tup [.sl .ro 1 (o.bx fun _ => eB (bindM (⟨n_f0, n_f1, n_f2, n_f3, n_f4, n_f5, n_f6⟩ : Nd) kid).1), .sl .ro 1 (o.bx fun _ => eK .i64 (bindM (⟨n_f0, n_f1, n_f2, n_f3, n_f4, n_f5, n_f6⟩ : Nd) kid).2)]) := by
  refine Ans.mkA ho _ rfl rfl ?_
  repeat' (first
    | (refine Den.id ?_
       (try (conv => arg 2; cbv))
       first
         | refine Den.test1 (by with_reducible assumption) ?_
         | (refine Den.test (fun hr => ?_) (fun hr => ?_) <;> (have hb := hr) <;> (try simp (disch := omega) only [ho, std, wI, len_eK, len_eB, len_eNd, len_eLNd, len_eFc, len_eAb, len_eBd, len_eEd, len_eLBd, Classical.not_not, decide_eq_true_eq, decide_eq_false_iff_not, beq_iff_eq, beq_eq_false_iff_ne, ne_eq, Bool.not_eq_true', Bool.not_eq_false', Bool.not_eq_true, Bool.not_eq_false, gt_iff_lt, ge_iff_le, Int.not_lt, Int.not_le] at hb) <;> (try (exfalso; first | contradiction | omega | exact hb rfl)))
         | (refine Den.done ⟨by first | exact Or.inl rfl | exact Or.inr rfl, ?_⟩; (conv => lhs; cbv); refine congrArg some ?_))
    | ((fail_if_success (refine Den.id ?_))
       first
         | (subst ho; unfold bindM; simp only [*, true_or, or_true, true_and, and_true, if_true, if_false, false_or, or_false, false_and, and_false, or_self, and_self]; rfl)))
end Go.Mach
end
section
set_option linter.unusedVariables false
set_option linter.unusedSimpArgs false
namespace Go.Mach
open Go Go.RowKit Go.Proofs
set_option maxRecDepth 100000
set_option maxHeartbeats 6000000
theorem spec_BinderOf.ans {xa xb : Option (List D → Option D)} (o : Std) (ho : o = std) (l : List Nd) (i : Int) (h0 : Sz l) (h1 : l.length ≤ 1048576) : Ans (env xa xb) 108 [.sl .ro 7 (o.bx fun _ => eNd l), .int .i64 i] (.agg ([.int .i64 (binderR l i).f0, .int .i64 (binderR l i).f1])) := by
  refine Ans.mkA ho _ rfl rfl ?_
  repeat' (first
    | (refine Den.id ?_
       (try (conv => arg 2; cbv))
       first
         | refine Den.testT ?_
         | refine Den.test1 (by with_reducible assumption) ?_
         | refine Den.test0 (by with_reducible assumption) ?_
         | refine Den.testN1 ho (by first | with_reducible assumption | with_reducible rfl) ?_
         | refine Den.testN0 ho (by first | with_reducible assumption | with_reducible rfl) ?_
         | (refine Den.test (fun hr => ?_) (fun hr => ?_) <;> (have hb := hr) <;> (try simp (disch := omega) only [ho, std, wI, len_eK, len_eB, len_eNd, len_eLNd, len_eFc, len_eAb, len_eBd, len_eEd, len_eLBd, Classical.not_not, decide_eq_true_eq, decide_eq_false_iff_not, beq_iff_eq, beq_eq_false_iff_ne, ne_eq, Bool.not_eq_true', Bool.not_eq_false', Bool.not_eq_true, Bool.not_eq_false, gt_iff_lt, ge_iff_le, Int.not_lt, Int.not_le] at hb) <;> (try (exfalso; first | contradiction | omega | exact hb rfl)))
         | (refine Den.pcallE (β := Bool) (fun v => .bool v) (as' := [.sl .ro 7 (o.bx fun _ => eNd _)]) (by first | with_reducible rfl | (subst ho; rfl)) (spec_NodesOk.ans o ho _ ?_ ?_) ?_; rotate_left 2; rintro (_ | _) hv <;> (try simp only [decide_eq_true_eq, decide_eq_false_iff_not] at hv) <;> (try first | contradiction | exact absurd (hv.symm.trans (show _ = false by assumption)) (by decide) | exact absurd (hv.symm.trans (show _ = true by assumption)) (by decide)))
         | (refine Den.pcallE (β := Bool) (fun v => .bool v) (as' := [.int .i64 _, .int .i64 _, .int .i64 _]) (by first | with_reducible rfl | (subst ho; rfl)) (spec_l1In.ans o ho _ _ _) ?_; rotate_left 0; rintro (_ | _) hv <;> (try simp only [decide_eq_true_eq, decide_eq_false_iff_not] at hv) <;> (try first | contradiction | exact absurd (hv.symm.trans (show _ = false by assumption)) (by decide) | exact absurd (hv.symm.trans (show _ = true by assumption)) (by decide)) <;> (try (have hir : 0 ≤ i ∧ i < l.length := (by subst ho; simp (disch := omega) only [std, wI, len_eNd] at hv; omega))))
         | (refine Den.pcallE (β := Int) (fun v => .int .i64 v) (as' := [.sl .ro 7 (o.bx fun _ => eNd _), .int .i64 _]) (by first | with_reducible rfl | (subst ho; rfl)) (spec_ParentOf.ans o ho _ _ ?_ ?_) ?_; rotate_left 2; rintro v hv)
         | (refine Den.fetchXNd ho ?_ ?_ (fun y hy => ?_); rotate_left 2; rcases y with ⟨y0, y1, y2, y3, y4, y5, y6⟩; (first | (have _hyi := hyi; have hyp := hy) | (obtain ⟨nm, en⟩ : ∃ q, q = y5 := ⟨_, rfl⟩; subst en; have hyi := hy)))
         | (refine Den.indF (fun m_ s_ => ∃ (a6 : Int) (a7 : Int) (tk : List Nat), s_ = ⟨[.sl .ro 7 (o.bx fun _ => eNd l), .int .i64 i, .junk, .junk, .pbx (.loc 0) 0, .pbx (.loc 1) 0, .int .i64 a6, .int .i64 a7] ++ List.replicate 66 .junk, [[[.int .i64 0, .int .i64 0]], [[.int .i64 (-1), .int .i64 (-1)]]], [], tk⟩ ∧ (a7 = parS l a6 ∧ climbM l nm i = climbM l nm a6 ∧ 0 ≤ a6 ∧ a6 < l.length) ∧ (l.length - a6).toNat ≤ m_) _ _ ⟨_, _, _, by subst ho; rfl, ?_, Nat.le_refl _⟩ ?_
            rotate_right
            rintro m_ _ ⟨a6, a7, tk, rfl, hIa, hka⟩ iha
            obtain ⟨i1, i2, i3, i4⟩ := hIa; have hT := okM_iff.1 (show okM l = true by assumption); have hpl := hT.par_lt (n := a6); rw [← i1] at hpl; refine Den.unloopA ho ?_
            repeat' (first
              | (refine Den.id ?_
                 (try (conv => arg 2; cbv))
                 first
                   | (refine Den.test (fun hr => ?_) (fun hr => ?_) <;> (have hb := hr) <;> (try simp (disch := omega) only [ho, std, wI, len_eK, len_eB, len_eNd, len_eLNd, len_eFc, len_eAb, len_eBd, len_eEd, len_eLBd, Classical.not_not, decide_eq_true_eq, decide_eq_false_iff_not, beq_iff_eq, beq_eq_false_iff_ne, ne_eq, Bool.not_eq_true', Bool.not_eq_false', Bool.not_eq_true, Bool.not_eq_false, gt_iff_lt, ge_iff_le, Int.not_lt, Int.not_le] at hb) <;> (try (exfalso; first | contradiction | omega | exact hb rfl)))
                   | (refine Den.pcallE (β := (List ByteArray) × (List Int)) (fun v => .tup [.sl .ro 1 (o.bx fun _ => eB v.1), .sl .ro 1 (o.bx fun _ => eK .i64 v.2)]) (as' := [.agg [.int .i64 _, .int .i64 _, .int .i64 _, .int .i64 _, .int .i64 _, .str _, .str _], .int .i64 _]) (by first | with_reducible rfl | (subst ho; rfl)) (spec_l6Bound.ans o ho _ _ _ _ _ _ _ _) ?_; rotate_left 0; rintro ⟨v0, v1⟩ hv; (have hst := hit_start (nm := nm) i1 hyp hv; have hbl := bind_len hv))
                   | (refine Den.fetchXNd ho ?_ ?_ (fun y hy => ?_); rotate_left 2; rcases y with ⟨y0, y1, y2, y3, y4, y5, y6⟩; (first | (have _hyi := hyi; have hyp := hy) | (obtain ⟨nm, en⟩ : ∃ q, q = y5 := ⟨_, rfl⟩; subst en; have hyi := hy)))
                   | (refine Den.indF (fun m_ s_ => ∃ (b8 : List ByteArray) (b9 : List Int) (b10 : Int) (tb8 tb9 : Tok) (tk : List Nat), s_ = ⟨[.sl .ro 7 (o.bx fun _ => eNd l), .int .i64 i, .junk, .junk, .pbx (.loc 0) 0, .pbx (.loc 1) 0, .junk, .int .i64 a7, .sl tb8 1 (o.bx fun _ => eB b8), .sl tb9 1 (o.bx fun _ => eK .i64 b9), .int .i64 b10] ++ List.replicate 63 .junk, [[[.int .i64 0, .int .i64 0]], [[.int .i64 (-1), .int .i64 (-1)]]], [], tk⟩ ∧ (b8.length ≤ 2 ∧ b9.length = b8.length ∧ 0 ≤ b10 ∧ b10 ≤ b8.length ∧ hitN l nm a6 = hitM a7 nm (b8.drop b10.toNat) (b9.drop b10.toNat)) ∧ (b8.length - b10).toNat ≤ m_) _ _ ⟨_, _, _, _, _, _, by subst ho; rfl, ?_, Nat.le_refl _⟩ ?_
                      rotate_right
                      rintro m_ _ ⟨b8, b9, b10, tb8, tb9, tk, rfl, hIb, hkb⟩ ihb
                      obtain ⟨j0, j1, j2, j3, j4⟩ := hIb; refine Den.unloopA ho ?_
                      repeat' (first
                        | (refine Den.id ?_
                           (try (conv => arg 2; cbv))
                           first
                             | (refine Den.test (fun hr => ?_) (fun hr => ?_) <;> (have hb := hr) <;> (try simp (disch := omega) only [ho, std, wI, len_eK, len_eB, len_eNd, len_eLNd, len_eFc, len_eAb, len_eBd, len_eEd, len_eLBd, Classical.not_not, decide_eq_true_eq, decide_eq_false_iff_not, beq_iff_eq, beq_eq_false_iff_ne, ne_eq, Bool.not_eq_true', Bool.not_eq_false', Bool.not_eq_true, Bool.not_eq_false, gt_iff_lt, ge_iff_le, Int.not_lt, Int.not_le] at hb) <;> (try (exfalso; first | contradiction | omega | exact hb rfl)))
                             | (refine Den.pcallE (β := Int) (fun v => .int .i64 v) (as' := [.sl .ro 7 (o.bx fun _ => eNd _), .int .i64 _]) (by first | with_reducible rfl | (subst ho; rfl)) (spec_ParentOf.ans o ho _ _ ?_ ?_) ?_; rotate_left 2; rintro v hv)
                             | (refine Den.fetchYNd ho ?_ ?_ (by with_reducible assumption) ?_)
                             | (refine Den.fetchXK ho ?_ ?_ (fun y hy => ?_); rotate_left 2)
                             | (refine Den.fetchXB ho ?_ ?_ (fun y hy => ?_); rotate_left 2; (have hyn := hy))
                             | (refine Den.needD ho (by kernel_rfl) ?_)
                             | (refine ihb _ _ ?_ ⟨_, _, _, _, _, _, by subst ho; rfl, ?_, Nat.le_refl _⟩)
                             | (refine iha _ _ ?_ ⟨_, _, _, by subst ho; rfl, ?_, Nat.le_refl _⟩)
                             | (refine Den.done ⟨by first | exact Or.inl rfl | exact Or.inr rfl, ?_⟩; (conv => lhs; cbv); refine congrArg some ?_))
                        | ((fail_if_success (refine Den.id ?_))
                           first
                             | (exact hir.2)
                             | (exact ⟨hbl, hst.2, Int.le_refl _, by omega, hst.1⟩)
                             | (have hq := hpl (by omega); omega)
                             | (rw [← binderR_yes (show okM l = true by assumption) ⟨hir.1, by omega⟩ hyi (by assumption) (i2.trans (climb_hit hT (by omega) (hit_yes j1 j2 (by omega) hyn (by assumption) hy j4)))] <;> rfl)
                             | ((try clear iha); (try clear ihb); simp (disch := omega) only [ho, std, wI]; first | omega | exact ⟨j0, j1, by omega, by omega, hit_next j1 j2 (by omega) hyn (by assumption) j4⟩)
                             | (have hq := hpl (by omega); exact ⟨hv.symm, i2.trans ((climb_on hT (by omega) (hit_none (by omega) j4)).trans (by rw [← i1])), by omega, by omega⟩))))
                   | (refine Den.done ⟨by first | exact Or.inl rfl | exact Or.inr rfl, ?_⟩; (conv => lhs; cbv); refine congrArg some ?_))
              | ((fail_if_success (refine Den.id ?_))
                 first
                   | (exact ⟨hv.symm, rfl, hir.1, hir.2⟩)
                   | (have hq := hpl (by omega); omega)
                   | (rw [← binderR_yes (show okM l = true by assumption) ⟨hir.1, by omega⟩ hyi (by assumption) (i2.trans (climbM_top (by rw [← i1]; omega)))] <;> rfl))))
         | (refine Den.done ⟨by first | exact Or.inl rfl | exact Or.inr rfl, ?_⟩; (conv => lhs; cbv); refine congrArg some ?_))
    | ((fail_if_success (refine Den.id ?_))
       first
         | (exact hir.2)
         | ((first | rw [← binderR_no (.inl (by assumption))] | rw [← binderR_no (.inr (.inr ⟨_, hyi, by assumption⟩))] | rw [← binderR_no (.inr (.inl (by subst ho; simp (disch := omega) only [std, wI, len_eNd] at hv; exact hv)))]) <;> rfl)
         | assumption
         | omega))
end Go.Mach
end
section
set_option linter.unusedVariables false
set_option linter.unusedSimpArgs false
namespace Go.Mach
open Go Go.RowKit Go.Proofs
set_option maxRecDepth 100000
set_option maxHeartbeats 6000000
theorem spec_FreeNames.ans {xa xb : Option (List D → Option D)} (o : Std) (ho : o = std) (l : List Nd) (h0 : Sz l) (h1 : l.length ≤ 1048576) : Ans (env xa xb) 131 [.sl .ro 7 (o.bx fun _ => eNd l)] (.sl .ro 1 (o.bx fun _ => eB (freeR l))) := by
  refine Ans.mkA ho _ rfl rfl ?_
  repeat' (first
    | (refine Den.id ?_
       (try (conv => arg 2; cbv))
       first
         | (refine Den.indF (fun m_ s_ => ∃ (a4 : Int) (tk : List Nat) (tq : Tok) (bq : Box), s_ = ⟨[.sl .ro 7 (o.bx fun _ => eNd l), .junk, .junk, .sl tq 1 bq, .int .i64 a4] ++ List.replicate 32 .junk, [], [], tk⟩ ∧ (bq = (o.bx fun _ => eB (freeN l a4.toNat)) ∧ 0 ≤ a4 ∧ a4 ≤ l.length ∧ (0 < a4 → okM l = true)) ∧ (l.length - a4).toNat ≤ m_) _ _ ⟨_, _, _, _, by subst ho; rfl, ?_, Nat.le_refl _⟩ ?_
            rotate_right
            rintro m_ _ ⟨a4, tk, tq, bq, rfl, hIa, hka⟩ iha
            obtain ⟨rfl, i1, i2, i3⟩ := hIa; have hfl := (len_freeN l a4.toNat).1; refine Den.unloopA ho ?_
            repeat' (first
              | (refine Den.id ?_
                 (try (conv => arg 2; cbv))
                 first
                   | refine Den.testT ?_
                   | refine Den.testF ?_
                   | refine Den.test1 (by with_reducible assumption) ?_
                   | refine Den.test0 (by with_reducible assumption) ?_
                   | (refine Den.test (fun hr => ?_) (fun hr => ?_) <;> (have hb := hr) <;> (try simp (disch := omega) only [ho, std, wI, len_eK, len_eB, len_eNd, len_eLNd, len_eFc, len_eAb, len_eBd, len_eEd, len_eLBd, Classical.not_not, decide_eq_true_eq, decide_eq_false_iff_not, beq_iff_eq, beq_eq_false_iff_ne, ne_eq, Bool.not_eq_true', Bool.not_eq_false', Bool.not_eq_true, Bool.not_eq_false, gt_iff_lt, ge_iff_le, Int.not_lt, Int.not_le] at hb) <;> (try (exfalso; first | contradiction | omega | exact hb rfl)))
                   | (refine Den.pcallE (β := Bool) (fun v => .bool v) (as' := [.sl .ro 7 (o.bx fun _ => eNd _)]) (by first | with_reducible rfl | (subst ho; rfl)) (spec_NodesOk.ans o ho _ ?_ ?_) ?_; rotate_left 2; rintro (_ | _) hv <;> (try simp only [decide_eq_true_eq, decide_eq_false_iff_not] at hv) <;> (try first | contradiction | exact absurd (hv.symm.trans (show _ = false by assumption)) (by decide) | exact absurd (hv.symm.trans (show _ = true by assumption)) (by decide)))
                   | (refine Den.pcallE (β := Bd) (fun v => .agg ([.int .i64 v.f0, .int .i64 v.f1])) (as' := [.sl .ro 7 (o.bx fun _ => eNd _), .int .i64 _]) (by first | with_reducible rfl | (subst ho; rfl)) (spec_BinderOf.ans o ho _ _ ?_ ?_) ?_; rotate_left 2; rintro ⟨v0, v1⟩ hv)
                   | (refine Den.pcallE (β := List ByteArray) (fun v => .sl .ro 1 (o.bx fun _ => eB v)) (as' := [.sl .ro 1 (o.bx fun _ => eB _), .str _]) (by first | with_reducible rfl | (subst ho; rfl)) (spec_l6Sort.ans o ho _ _ ?_) ?_; rotate_left 1; rintro v hv)
                   | (refine Den.fetchYNd ho ?_ ?_ (by with_reducible assumption) ?_)
                   | (refine Den.fetchXNd ho ?_ ?_ (fun y hy => ?_); rotate_left 2; rcases y with ⟨y0, y1, y2, y3, y4, y5, y6⟩; (have hyp := hy))
                   | (refine iha _ _ ?_ ⟨_, _, _, _, by subst ho; rfl, ?_, Nat.le_refl _⟩)
                   | (refine Den.done ⟨by first | exact Or.inl rfl | exact Or.inr rfl, ?_⟩; (conv => lhs; cbv); refine congrArg some ?_))
              | ((fail_if_success (refine Den.id ?_))
                 first
                   | (subst ho; exact ⟨rfl, Int.le_refl _, by omega, fun h => absurd h (by omega)⟩)
                   | (subst ho; refine congrArg (D.sl Tok.ro 1) (congrArg eB ?_); first | exact freeR_fin (by omega) i3 | exact freeR_z (fun hq => by have := i3 hq; simp_all) i1 (.inl (by assumption)) rfl | exact freeR_z (by omega) i1 (.inr (by omega)) rfl)
                   | (subst ho; simp (disch := omega) only [std, wI]; refine ⟨?_, by omega, by omega, fun _ => by assumption⟩; refine congrArg eB ?_; first | exact freeN_yes (by assumption) i1 (by omega) hyp (by assumption) (by assumption) (by assumption) (by assumption) | exact freeN_no1 i1 hyp (by assumption) | exact freeN_no2 (by assumption) i1 (by omega) (by assumption) (by dsimp only; omega))
                   | assumption
                   | omega
                   | (subst ho; simp (disch := omega) only [std, wI, tdiv2, tdivN, len_eFc, len_eNd, len_eBd, len_eAb, len_eLBd, len_eK, len_eB] <;> first | done | rfl | omega)))))
    | ((fail_if_success (refine Den.id ?_))
       first
         | fail))
end Go.Mach
end
section
set_option linter.unusedVariables false
set_option linter.unusedSimpArgs false
namespace Go.Mach
open Go Go.RowKit Go.Proofs
set_option maxRecDepth 100000
set_option maxHeartbeats 6000000
theorem spec_Closed.ans {xa xb : Option (List D → Option D)} (o : Std) (ho : o = std) (l : List Nd) (h0 : Sz l) (h1 : l.length ≤ 1048576) : Ans (env xa xb) 107 [.sl .ro 7 (o.bx fun _ => eNd l)] (.bool (cloB l)) := by
  refine Ans.mkA ho _ rfl rfl ?_
  repeat' (first
    | (refine Den.id ?_
       (try (conv => arg 2; cbv))
       first
         | refine Den.testT ?_
         | refine Den.testF ?_
         | (refine Den.pcallE (β := Bool) (fun v => .bool v) (as' := [.sl .ro 7 (o.bx fun _ => eNd _)]) (by first | with_reducible rfl | (subst ho; rfl)) (spec_NodesOk.ans o ho _ ?_ ?_) ?_; rotate_left 2; rintro (_ | _) hv <;> (try simp only [decide_eq_true_eq, decide_eq_false_iff_not] at hv) <;> (try first | contradiction | exact absurd (hv.symm.trans (show _ = false by assumption)) (by decide) | exact absurd (hv.symm.trans (show _ = true by assumption)) (by decide)))
         | (refine Den.pcallE (β := List ByteArray) (fun v => .sl .ro 1 (o.bx fun _ => eB v)) (as' := [.sl .ro 7 (o.bx fun _ => eNd _)]) (by first | with_reducible rfl | (subst ho; rfl)) (spec_FreeNames.ans o ho _ ?_ ?_) ?_; rotate_left 2; rintro v hv)
         | (refine Den.done ⟨by first | exact Or.inl rfl | exact Or.inr rfl, ?_⟩; (conv => lhs; cbv); refine congrArg some ?_))
    | ((fail_if_success (refine Den.id ?_))
       first
         | (subst ho; refine dB ?_; exact clo_no (by assumption))
         | (subst ho; refine dB ?_; exact clo_len (n := v.length) (by assumption) (by rw [hv]) (by simp only [std, len_eB]; rfl))
         | assumption))
theorem spec_FlowOk.ans {xa xb : Option (List D → Option D)} (o : Std) (ho : o = std) (l : List Nd) (dp : Int) (h0 : Sz l) (h1 : l.length ≤ 1048576) : Ans (env xa xb) 84 [.sl .ro 7 (o.bx fun _ => eNd l), .int .i64 dp] (.bool (flowB l dp)) := by
  refine Ans.mkA ho _ rfl rfl ?_
  repeat' (first
    | (refine Den.id ?_
       (try (conv => arg 2; cbv))
       first
         | refine Den.testT ?_
         | refine Den.testF ?_
         | (refine Den.pcallE (β := Bool) (fun v => .bool v) (as' := [.sl .ro 7 (o.bx fun _ => eNd _)]) (by first | with_reducible rfl | (subst ho; rfl)) (spec_NodesOk.ans o ho _ ?_ ?_) ?_; rotate_left 2; rintro (_ | _) hv <;> (try simp only [decide_eq_true_eq, decide_eq_false_iff_not] at hv) <;> (try first | contradiction | exact absurd (hv.symm.trans (show _ = false by assumption)) (by decide) | exact absurd (hv.symm.trans (show _ = true by assumption)) (by decide)))
         | (refine Den.pcallE (β := Bool) (fun v => .bool v) (as' := [.sl .ro 7 (o.bx fun _ => eNd _)]) (by first | with_reducible rfl | (subst ho; rfl)) (spec_Closed.ans o ho _ ?_ ?_) ?_; rotate_left 2; rintro (_ | _) hv <;> (try simp only [decide_eq_true_eq, decide_eq_false_iff_not] at hv) <;> (try first | contradiction | exact absurd (hv.symm.trans (show _ = false by assumption)) (by decide) | exact absurd (hv.symm.trans (show _ = true by assumption)) (by decide)))
         | (refine Den.pcallE (β := Bool) (fun v => .bool v) (as' := [.int .i64 _, .int .i64 _, .int .i64 _]) (by first | with_reducible rfl | (subst ho; rfl)) (spec_l1In.ans o ho _ _ _) ?_; rotate_left 0; rintro (_ | _) hv <;> (try simp only [decide_eq_true_eq, decide_eq_false_iff_not] at hv) <;> (try first | contradiction | exact absurd (hv.symm.trans (show _ = false by assumption)) (by decide) | exact absurd (hv.symm.trans (show _ = true by assumption)) (by decide)))
         | (refine Den.done ⟨by first | exact Or.inl rfl | exact Or.inr rfl, ?_⟩; (conv => lhs; cbv); refine congrArg some ?_))
    | ((fail_if_success (refine Den.id ?_))
       first
         | (refine dB ?_; exact flow_no (by assumption))
         | (refine dB ?_; exact flow_no (clo_no (by assumption)).symm)
         | (refine dB ?_; first | exact flow_eq (by assumption) (decide_eq_true (by assumption)).symm | exact flow_eq (by assumption) (decide_eq_false (by assumption)).symm)
         | assumption))
end Go.Mach
end
section
set_option linter.unusedVariables false
set_option linter.unusedSimpArgs false
namespace Go.Mach
open Go Go.RowKit Go.Proofs
set_option maxRecDepth 100000
set_option maxHeartbeats 6000000
theorem spec_OuterOf.ans {xa xb : Option (List D → Option D)} (o : Std) (ho : o = std) (l : List Nd) (f : Int) (h0 : Sz l) (h1 : l.length ≤ 1048576) : Ans (env xa xb) 109 [.sl .ro 7 (o.bx fun _ => eNd l), .int .i64 f] (.sl .ro 2 (o.bx fun _ => eBd (outR l f))) := by
  refine Ans.mkA ho _ rfl rfl ?_
  repeat' (first
    | (refine Den.id ?_
       (try (conv => arg 2; cbv))
       first
         | refine Den.testT ?_
         | refine Den.test1 (by with_reducible assumption) ?_
         | refine Den.test0 (by with_reducible assumption) ?_
         | refine Den.testN1 ho (by first | with_reducible assumption | with_reducible rfl) ?_
         | refine Den.testN0 ho (by first | with_reducible assumption | with_reducible rfl) ?_
         | (refine Den.test (fun hr => ?_) (fun hr => ?_) <;> (have hb := hr) <;> (try simp (disch := omega) only [ho, std, wI, len_eK, len_eB, len_eNd, len_eLNd, len_eFc, len_eAb, len_eBd, len_eEd, len_eLBd, Classical.not_not, decide_eq_true_eq, decide_eq_false_iff_not, beq_iff_eq, beq_eq_false_iff_ne, ne_eq, Bool.not_eq_true', Bool.not_eq_false', Bool.not_eq_true, Bool.not_eq_false, gt_iff_lt, ge_iff_le, Int.not_lt, Int.not_le] at hb) <;> (try (exfalso; first | contradiction | omega | exact hb rfl)))
         | (refine Den.pcallE (β := Bool) (fun v => .bool v) (as' := [.sl .ro 7 (o.bx fun _ => eNd _)]) (by first | with_reducible rfl | (subst ho; rfl)) (spec_NodesOk.ans o ho _ ?_ ?_) ?_; rotate_left 2; rintro (_ | _) hv <;> (try simp only [decide_eq_true_eq, decide_eq_false_iff_not] at hv) <;> (try first | contradiction | exact absurd (hv.symm.trans (show _ = false by assumption)) (by decide) | exact absurd (hv.symm.trans (show _ = true by assumption)) (by decide)))
         | (refine Den.pcallE (β := Bool) (fun v => .bool v) (as' := [.int .i64 _, .int .i64 _, .int .i64 _]) (by first | with_reducible rfl | (subst ho; rfl)) (spec_l1In.ans o ho _ _ _) ?_; rotate_left 0; rintro (_ | _) hv <;> (try simp only [decide_eq_true_eq, decide_eq_false_iff_not] at hv) <;> (try first | contradiction | exact absurd (hv.symm.trans (show _ = false by assumption)) (by decide) | exact absurd (hv.symm.trans (show _ = true by assumption)) (by decide)) <;> (try have hir : 0 ≤ f ∧ f < l.length := (by subst ho; simp (disch := omega) only [std, wI, len_eNd] at hv; omega)))
         | (refine Den.pcallE (β := Bool) (fun v => .bool v) (as' := [.agg [.int .i64 _, .int .i64 _, .int .i64 _, .int .i64 _, .int .i64 _, .str _, .str _]]) (by first | with_reducible rfl | (subst ho; rfl)) (spec_l16Lambda.ans o ho _ _ _ _ _ _ _) ?_; rotate_left 0; rintro (_ | _) hv <;> (try simp only [decide_eq_true_eq, decide_eq_false_iff_not] at hv) <;> (try first | contradiction | exact absurd (hv.symm.trans (show _ = false by assumption)) (by decide) | exact absurd (hv.symm.trans (show _ = true by assumption)) (by decide)) <;> (try (have hT := okM_iff.1 (show okM l = true by assumption); have hdn := hT.downs f hir.1 hir.2 (by rw [hyf]; exact lam_ar hv); rw [hyf] at hdn; dsimp only at hdn; have hst := startM_le hT.downs hdn.1 (by omega); have hlam := hv; have hA : 0 ≤ A ∧ A < l.length := ⟨hdn.1, by omega⟩)))
         | (refine Den.pcallE (β := Int) (fun v => .int .i64 v) (as' := [.sl .ro 7 (o.bx fun _ => eNd _), .int .i64 _]) (by first | with_reducible rfl | (subst ho; rfl)) (spec_StartOf.ans o ho _ _ ?_ ?_) ?_; rotate_left 2; rintro v hv; (rw [startOfR_in (by assumption) hA] at hv))
         | (refine Den.fetchYNd ho ?_ ?_ (by with_reducible assumption) ?_)
         | (refine Den.fetchXNd ho ?_ ?_ (fun y hy => ?_); rotate_left 2; rcases y with ⟨y0, y1, y2, y3, y4, y5, y6⟩; (first | (have _h := hyf; have hyi := hy) | (obtain ⟨A, eA⟩ : ∃ q, q = y1 := ⟨_, rfl⟩; subst eA; have hyf := hy)))
         | (refine Den.indF (fun m_ s_ => ∃ (ea5 : Box) (a6 : Int) (ta5 : Tok) (tk : List Nat), s_ = ⟨[.sl .ro 7 (o.bx fun _ => eNd l), .int .i64 f, .junk, .junk, .junk, .sl ta5 2 ea5, .int .i64 a6] ++ List.replicate 113 .junk, [], [], tk⟩ ∧ Lv tk ta5 ea5.length ∧ ea5 = (o.bx fun _ => eBd (outerN l (bindsM l) f (a6 - startM l A).toNat)) ∧ (startM l A ≤ a6 ∧ a6 ≤ A + 1) ∧ (A + 1 - a6).toNat ≤ m_) _ _ ⟨_, _, _, _, by subst ho; rfl, ?_, ?_, ?_, Nat.le_refl _⟩ ?_
            rotate_right
            rintro m_ _ ⟨ea5, a6, ta5, tk, rfl, hla0, rfl, hIa, hka⟩ iha
            obtain ⟨i1, i2⟩ := hIa; have hz := len_outerN l (bindsM l) f (a6 - startM l A).toNat; have hs150 := hT.size; refine Den.unloopA ho ?_
            repeat' (first
              | (refine Den.id ?_
                 (try (conv => arg 2; cbv))
                 first
                   | refine Den.testT ?_
                   | refine Den.testF ?_
                   | refine Den.test1 (by with_reducible assumption) ?_
                   | refine Den.test0 (by with_reducible assumption) ?_
                   | refine Den.testN1 ho (by first | with_reducible assumption | with_reducible rfl) ?_
                   | refine Den.testN0 ho (by first | with_reducible assumption | with_reducible rfl) ?_
                   | (refine Den.test (fun hr => ?_) (fun hr => ?_) <;> (have hb := hr) <;> (try simp (disch := omega) only [ho, std, wI, len_eK, len_eB, len_eNd, len_eLNd, len_eFc, len_eAb, len_eBd, len_eEd, len_eLBd, Classical.not_not, decide_eq_true_eq, decide_eq_false_iff_not, beq_iff_eq, beq_eq_false_iff_ne, ne_eq, Bool.not_eq_true', Bool.not_eq_false', Bool.not_eq_true, Bool.not_eq_false, gt_iff_lt, ge_iff_le, Int.not_lt, Int.not_le] at hb) <;> (try (exfalso; first | contradiction | omega | exact hb rfl)))
                   | (refine Den.pcallE (β := Int) (fun v => .int .i64 v) (as' := [.sl .ro 7 (o.bx fun _ => eNd _), .int .i64 _]) (by first | with_reducible rfl | (subst ho; rfl)) (spec_StartOf.ans o ho _ _ ?_ ?_) ?_; rotate_left 2; rintro v hv; (rw [startOfR_in (by assumption) hA] at hv))
                   | (refine Den.pcallE (β := Bd) (fun v => .agg ([.int .i64 v.f0, .int .i64 v.f1])) (as' := [.sl .ro 7 (o.bx fun _ => eNd _), .int .i64 _]) (by first | with_reducible rfl | (subst ho; rfl)) (spec_BinderOf.ans o ho _ _ ?_ ?_) ?_; rotate_left 2; rintro ⟨v0, v1⟩ hv; (obtain ⟨q0, e0⟩ : ∃ q, q = v0 := ⟨_, rfl⟩; obtain ⟨q1, e1⟩ : ∃ q, q = v1 := ⟨_, rfl⟩; subst e0; subst e1; rw [binderR_in (by assumption) (by omega) (by omega)] at hv; have hbq := hv))
                   | (refine Den.pcallE (β := Int) (fun v => .int .i64 v) (as' := [.agg [.int .i64 _, .int .i64 _, .int .i64 _, .int .i64 _, .int .i64 _, .str _, .str _]]) (by first | with_reducible rfl | (subst ho; rfl)) (spec_l16Param.ans o ho _ _ _ _ _ _ _) ?_; rotate_left 0; rintro v hv)
                   | (refine Den.fetchYNd ho ?_ ?_ (by with_reducible assumption) ?_)
                   | (refine Den.fetchXNd ho ?_ ?_ (fun y hy => ?_); rotate_left 2; rcases y with ⟨y0, y1, y2, y3, y4, y5, y6⟩; (first | (have _h := hyf; have hyi := hy) | (obtain ⟨A, eA⟩ : ∃ q, q = y1 := ⟨_, rfl⟩; subst eA; have hyf := hy)))
                   | (refine Den.needD ho (by kernel_rfl) ?_)
                   | (refine Den.indF (fun m_ s_ => ∃ (b8 : Bool) (b9 : Int) (tk : List Nat), s_ = ⟨[.sl .ro 7 (o.bx fun _ => eNd l), .int .i64 f, .junk, .junk, .junk, .sl ta5 2 (o.bx fun _ => eBd (outerN l (bindsM l) f (a6 - startM l A).toNat)), .int .i64 a6, .pbx (.loc 0) 0, .bool b8, .int .i64 b9] ++ List.replicate 110 .junk, [[[.int .i64 q0, .int .i64 q1]]], [], tk⟩ ∧ (Lv tk ta5 (o.bx fun _ => eBd (outerN l (bindsM l) f (a6 - startM l A).toNat)).length ∧ 0 ≤ b9 ∧ b9 ≤ (outerN l (bindsM l) f (a6 - startM l A).toNat).length ∧ b8 = ((outerN l (bindsM l) f (a6 - startM l A).toNat).take b9.toNat).any (fun x => decide (x = ⟨q0, q1⟩))) ∧ ((outerN l (bindsM l) f (a6 - startM l A).toNat).length - b9).toNat ≤ m_) _ _ ⟨_, _, _, by subst ho; rfl, ?_, Nat.le_refl _⟩ ?_
                      rotate_right
                      rintro m_ _ ⟨b8, b9, tk, rfl, hIb, hkb⟩ ihb
                      obtain ⟨j0, j2, j3, j4⟩ := hIb; refine Den.unloopA ho ?_
                      repeat' (first
                        | (refine Den.id ?_
                           (try (conv => arg 2; cbv))
                           first
                             | refine Den.test1 (by with_reducible assumption) ?_
                             | refine Den.test0 (by with_reducible assumption) ?_
                             | (refine Den.test (fun hr => ?_) (fun hr => ?_) <;> (have hb := hr) <;> (try simp (disch := omega) only [ho, std, wI, len_eK, len_eB, len_eNd, len_eLNd, len_eFc, len_eAb, len_eBd, len_eEd, len_eLBd, Classical.not_not, decide_eq_true_eq, decide_eq_false_iff_not, beq_iff_eq, beq_eq_false_iff_ne, ne_eq, Bool.not_eq_true', Bool.not_eq_false', Bool.not_eq_true, Bool.not_eq_false, gt_iff_lt, ge_iff_le, Int.not_lt, Int.not_le] at hb) <;> (try (exfalso; first | contradiction | omega | exact hb rfl)))
                             | (refine Den.fetchXBd ho ?_ ?_ (fun y hy => ?_); rotate_left 2; rcases y with ⟨y0, y1⟩)
                             | (refine Den.needD ho (by kernel_rfl) ?_)
                             | (refine Den.need ?_ ?_)
                             | (refine Den.app1 ?_ (fun t' tk' hl' => ?_))
                             | (refine ihb _ _ ?_ ⟨_, _, _, by subst ho; rfl, ?_, Nat.le_refl _⟩)
                             | (refine iha _ _ ?_ ⟨_, _, _, _, by subst ho; rfl, ?_, ?_, ?_, Nat.le_refl _⟩))
                        | ((fail_if_success (refine Den.id ?_))
                           first
                             | (subst ho; exact j0)
                             | (subst ho; exact ⟨hla0, Int.le_refl _, by omega, rfl⟩)
                             | ((try clear iha); (try clear ihb); subst ho; simp (disch := omega) only [std, wI]; refine congrArg eBd ?_; first | exact (out_keep hT hir hyf hlam i1 (by dsimp only; omega) hbq (.inl (by unfold skipP; dsimp only; omega))).symm | exact (out_keep hT hir hyf hlam i1 (by dsimp only; omega) (bindS_non hyi (by assumption)) (.inl (by unfold skipP; dsimp only; omega))).symm | exact (out_keep hT hir hyf hlam i1 (by dsimp only; omega) hbq (.inr (by rw [take_allG (by omega)] at j4; rw [← j4]; assumption))).symm)
                             | ((try clear iha); (try clear ihb); simp (disch := omega) only [ho, std, wI]; refine ⟨by subst ho; exact j0, by omega, by omega, ?_⟩; rw [any_succ j2 (by omega), ← j4]; first | (rw [show b8 = true by assumption]; rfl) | (rw [show b8 = false by assumption, hy, Bool.false_or]; exact eqBd _ _ _ _))
                             | ((try clear iha); (try clear ihb); subst ho; refine push_eBd (x := ⟨q0, q1⟩) ?_; simp (disch := omega) only [std, wI]; exact out_push hT hir hyf hlam i1 (by dsimp only; omega) hbq (by unfold skipP; dsimp only; omega) (by rw [take_allG (by omega)] at j4; rw [← j4]; assumption))
                             | assumption
                             | (subst ho; simpa [std, len_eFc, len_eNd, len_eBd, len_eAb, len_eLBd, len_eK, len_eB] using hl')
                             | (subst ho; simp [std, len_eFc, len_eNd, len_eBd, len_eAb, len_eLBd, len_eK, len_eB]; omega)
                             | (subst ho; simp (disch := omega) only [std, wI, tdiv2, tdivN, len_eFc, len_eNd, len_eBd, len_eAb, len_eLBd, len_eK, len_eB] <;> first | done | rfl | omega))))
                   | (refine iha _ _ ?_ ⟨_, _, _, _, by subst ho; rfl, ?_, ?_, ?_, Nat.le_refl _⟩)
                   | (refine Den.done ⟨by first | exact Or.inl rfl | exact Or.inr rfl, ?_⟩; (conv => lhs; cbv); refine congrArg some ?_))
              | ((fail_if_success (refine Den.id ?_))
                 first
                   | (exact Lv.cap _)
                   | (subst ho; exact hla0)
                   | (subst ho; rw [show v - startM l A = 0 by omega]; rfl)
                   | (subst ho; refine congrArg (D.sl Tok.ro 2) (congrArg eBd ?_); exact outR_yes (by assumption) hir hyf hlam (by dsimp only; omega))
                   | ((try clear iha); (try clear ihb); subst ho; simp (disch := omega) only [std, wI]; refine congrArg eBd ?_; first | exact (out_keep hT hir hyf hlam i1 (by dsimp only; omega) hbq (.inl (by unfold skipP; dsimp only; omega))).symm | exact (out_keep hT hir hyf hlam i1 (by dsimp only; omega) (bindS_non hyi (by assumption)) (.inl (by unfold skipP; dsimp only; omega))).symm | exact (out_keep hT hir hyf hlam i1 (by dsimp only; omega) hbq (.inr (by rw [take_allG (by omega)] at j4; rw [← j4]; assumption))).symm)
                   | assumption
                   | omega
                   | (subst ho; simp (disch := omega) only [std, wI, tdiv2, tdivN, len_eFc, len_eNd, len_eBd, len_eAb, len_eLBd, len_eK, len_eB] <;> first | done | rfl | omega))))
         | (refine Den.done ⟨by first | exact Or.inl rfl | exact Or.inr rfl, ?_⟩; (conv => lhs; cbv); refine congrArg some ?_))
    | ((fail_if_success (refine Den.id ?_))
       first
         | (rw [outR_no (.inl (by assumption))]; subst ho; rfl)
         | (rw [outR_no (.inr (.inr ⟨_, hyf, by assumption⟩))]; subst ho; rfl)
         | (rw [outR_no (.inr (.inl (by subst ho; simp (disch := omega) only [std, wI, len_eNd] at hv; exact hv)))]; subst ho; rfl)
         | assumption
         | omega))
end Go.Mach
end
