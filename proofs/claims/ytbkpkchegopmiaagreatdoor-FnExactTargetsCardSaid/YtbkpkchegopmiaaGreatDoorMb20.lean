/- What the statements over Solve share: part 20 of a proof by an executable machine over the program's code. -/
import Derived.Test.YtbkpkchegopmiaaGreatDoorMb15
import Derived.Test.YtbkpkchegopmiaaGreatDoorMb17
import Derived.Test.YtbkpkchegopmiaaGreatDoorMb19
section
set_option linter.unusedVariables false
set_option linter.unusedSimpArgs false
namespace Go.Mach
open Go Go.RowKit Go.Proofs
set_option maxRecDepth 100000
set_option maxHeartbeats 1000000
theorem spec_l3Starts.ans {xa xb : Option (List D → Option D)} (o : Std) (ho : o = std) (l : List Nd) (h0 : Sz l) (h1 : l.length ≤ 150) : Ans (env xa xb) 111 [.sl .ro 7 (o.bx fun _ => eNd l)] (.tup [.sl .ro 1 (o.bx fun _ => eK .i64 (startsR l).1), .bool (startsR l).2]) := by
  refine Ans.mkA ho _ rfl rfl ?_
  repeat' (first
    | (refine Den.id ?_
       (try (conv => arg 2; cbv))
       first
         | (refine Den.indF (fun m_ s_ => ∃ (ea4 : Box) (a5 : Int) (ta4 : Tok) (tk : List Nat), s_ = ⟨[.sl .ro 7 (o.bx fun _ => eNd l), .junk, .junk, .junk, .sl ta4 1 ea4, .int .i64 a5] ++ List.replicate 57 .junk, [], [], tk⟩ ∧ Lv tk ta4 ea4.length ∧ ea4 = (o.bx fun _ => eK .i64 (stS l a5)) ∧ (0 ≤ a5 ∧ a5 ≤ l.length ∧ (startsO l a5.toNat).isSome = true) ∧ (l.length - a5).toNat ≤ m_) _ _ ⟨_, _, _, _, by subst ho; rfl, ?_, ?_, ?_, Nat.le_refl _⟩ ?_
            rotate_right
            rintro m_ _ ⟨ea4, a5, ta4, tk, rfl, hla0, rfl, hIa, hka⟩ iha
            obtain ⟨i1, i2, i3⟩ := hIa; have hb1 := stS_bnd i1 i3; refine Den.unloopA ho ?_
            repeat' (first
              | (refine Den.id ?_
                 (try (conv => arg 2; cbv))
                 first
                   | refine Den.testN1 ho (by first | with_reducible assumption | with_reducible rfl) ?_
                   | refine Den.testN0 ho (by first | with_reducible assumption | with_reducible rfl) ?_
                   | (refine Den.test (fun hr => ?_) (fun hr => ?_) <;> (have hb := hr) <;> (try simp (disch := omega) only [ho, std, wI, len_eK, len_eB, len_eNd, len_eLNd, len_eFc, len_eAb, len_eBd, len_eEd, len_eLBd, Classical.not_not, decide_eq_true_eq, decide_eq_false_iff_not, beq_iff_eq, beq_eq_false_iff_ne, ne_eq, Bool.not_eq_true', Bool.not_eq_false', Bool.not_eq_true, Bool.not_eq_false, gt_iff_lt, ge_iff_le, Int.not_lt, Int.not_le] at hb) <;> (try (exfalso; first | contradiction | omega | exact hb rfl)))
                   | (refine Den.pcallE (β := Bool) (fun v => .bool v) (as' := [.agg [.int .i64 _, .int .i64 _, .int .i64 _, .int .i64 _, .int .i64 _, .str _, .str _]]) (by first | with_reducible rfl | (subst ho; rfl)) (spec_l3Fields.ans o ho _ _ _ _ _ _ _ ?_) ?_; rotate_left 1; rintro (_ | _) hv <;> (try simp only [decide_eq_true_eq, decide_eq_false_iff_not] at hv) <;> (try first | contradiction | exact absurd (hv.symm.trans (show _ = false by assumption)) (by decide) | exact absurd (hv.symm.trans (show _ = true by assumption)) (by decide)))
                   | (refine Den.pcallE (β := List Int) (fun v => .sl .ro 1 (o.bx fun _ => eK .i64 v)) (as' := [.agg [.int .i64 _, .int .i64 _, .int .i64 _, .int .i64 _, .int .i64 _, .str _, .str _]]) (by first | with_reducible rfl | (subst ho; rfl)) (spec_Kids.ans o ho _ _ _ _ _ _ _) ?_; rotate_left 0; rintro v hv)
                   | (refine Den.fetchYNd ho ?_ ?_ (by with_reducible assumption) ?_)
                   | (refine Den.fetchXNd ho ?_ ?_ (fun y hy => ?_); rotate_left 2; rcases y with ⟨y0, y1, y2, y3, y4, y5, y6⟩; (have hsz := h0.at i1 (by omega) hy); dsimp only at hsz)
                   | (refine Den.indF (fun m_ s_ => ∃ (b6 : Int) (b7 : List Int) (b8 : Int) (tb7 : Tok) (tk : List Nat), s_ = ⟨[.sl .ro 7 (o.bx fun _ => eNd l), .junk, .junk, .junk, .sl ta4 1 (o.bx fun _ => eK .i64 (stS l a5)), .int .i64 a5, .int .i64 b6, .sl tb7 1 (o.bx fun _ => eK .i64 b7), .int .i64 b8] ++ List.replicate 54 .junk, [], [], tk⟩ ∧ (Lv tk ta4 (o.bx fun _ => eK .i64 (stS l a5)).length ∧ b7 = kidsM (rN l a5) ∧ -1 ≤ b8 ∧ b8 < b7.length ∧ 0 ≤ b6 ∧ b6 ≤ a5 ∧ fldB (rN l a5) = true ∧ walkK (stS l a5) (kidsM (rN l a5)) (kidsM (rN l a5)).length a5 = walkK (stS l a5) (kidsM (rN l a5)) (b8 + 1).toNat b6) ∧ (b8 + 1).toNat ≤ m_) _ _ ⟨_, _, _, _, _, by subst ho; rfl, ?_, Nat.le_refl _⟩ ?_
                      rotate_right
                      rintro m_ _ ⟨b6, b7, b8, tb7, tk, rfl, hIb, hkb⟩ ihb
                      obtain ⟨j0, j1, j2, j3, j4, j5, j6, j7⟩ := hIb; have hkl := len_kidsM (rN l a5); have hka2 := arityM_le (rN l a5).f0; rw [← j1] at hkl; refine Den.unloopA ho ?_
                      repeat' (first
                        | (refine Den.id ?_
                           (try (conv => arg 2; cbv))
                           first
                             | refine Den.testT ?_
                             | refine Den.test1 (by with_reducible assumption) ?_
                             | refine Den.test0 (by with_reducible assumption) ?_
                             | (refine Den.test (fun hr => ?_) (fun hr => ?_) <;> (have hb := hr) <;> (try simp (disch := omega) only [ho, std, wI, len_eK, len_eB, len_eNd, len_eLNd, len_eFc, len_eAb, len_eBd, len_eEd, len_eLBd, Classical.not_not, decide_eq_true_eq, decide_eq_false_iff_not, beq_iff_eq, beq_eq_false_iff_ne, ne_eq, Bool.not_eq_true', Bool.not_eq_false', Bool.not_eq_true, Bool.not_eq_false, gt_iff_lt, ge_iff_le, Int.not_lt, Int.not_le] at hb) <;> (try (exfalso; first | contradiction | omega | exact hb rfl)))
                             | (refine Den.fetchYK ho ?_ ?_ (by with_reducible assumption) ?_)
                             | (refine Den.fetchXK ho ?_ ?_ (fun y hy => ?_); rotate_left 2; (first | (have _hkk := hkk; have hbq := bnd_at hb1.2 (by omega) (by omega) hy) | (have hkk := hy)))
                             | (refine Den.need ?_ ?_)
                             | (refine Den.app1 ?_ (fun t' tk' hl' => ?_))
                             | (refine ihb _ _ ?_ ⟨_, _, _, _, _, by subst ho; rfl, ?_, Nat.le_refl _⟩)
                             | (refine iha _ _ ?_ ⟨_, _, _, _, by subst ho; rfl, ?_, ?_, ?_, Nat.le_refl _⟩)
                             | (refine Den.done ⟨by first | exact Or.inl rfl | exact Or.inr rfl, ?_⟩; (conv => lhs; cbv); refine congrArg some ?_))
                        | ((fail_if_success (refine Den.id ?_))
                           first
                             | (subst ho; exact j0)
                             | (subst ho; rw [startsR_no (st_fail i1 (by omega) i3 (.inr (by rw [j7]; exact walkK_no (by assumption) (by rw [← j1, hkk]; omega))))]; rfl)
                             | ((try clear iha); subst ho; have e1 : v = kidsM (rN l a5) := (at_nd (P := fun x => v = kidsM x) (by assumption) hv.symm); have e2 := len_kidsM (rN l a5); have e3 := arityM_le (rN l a5).f0; rw [← e1] at e2; simp (disch := omega) only [std, wI, len_eK]; refine ⟨by simpa [std, len_eK] using hla0, e1, by omega, by omega, i1, Int.le_refl _, at_nd (P := fun x => fldB x = true) (by assumption) (by assumption), ?_⟩; rw [← e1, Int.sub_add_cancel, Int.toNat_natCast])
                             | ((try clear iha); (try clear ihb); simp (disch := omega) only [ho, std, wI]; exact ⟨by subst ho; exact j0, j1, by omega, by omega, by omega, by omega, j6, j7.trans (walkK_yes (by assumption) (by rw [← j1]; exact hkk) (by assumption) (by assumption) hy)⟩)
                             | ((try clear iha); (try clear ihb); subst ho; refine push_eK ?_; simp (disch := omega) only [std, wI]; exact stS_next i1 i3 j6 (j7.trans (walkK_zero (by omega))))
                             | ((try clear iha); (try clear ihb); simp (disch := omega) only [ho, std, wI]; exact ⟨by omega, by omega, by rw [st_next i1 i3 j6 (j7.trans (walkK_zero (by omega)))]; rfl⟩)
                             | assumption
                             | omega
                             | (subst ho; simpa [std, len_eFc, len_eNd, len_eBd, len_eAb, len_eLBd, len_eK, len_eB] using hl')
                             | (subst ho; simp [std, len_eFc, len_eNd, len_eBd, len_eAb, len_eLBd, len_eK, len_eB]; omega)
                             | (subst ho; simp (disch := omega) only [std, wI, tdiv2, tdivN, len_eFc, len_eNd, len_eBd, len_eAb, len_eLBd, len_eK, len_eB] <;> first | done | rfl | omega))))
                   | (refine Den.done ⟨by first | exact Or.inl rfl | exact Or.inr rfl, ?_⟩; (conv => lhs; cbv); refine congrArg some ?_))
              | ((fail_if_success (refine Den.id ?_))
                 first
                   | (exact Lv.cap _)
                   | (subst ho; exact ⟨Int.le_refl _, by omega, rfl⟩)
                   | (subst ho; rw [startsR_no (st_fail i1 (by omega) i3 (.inl (at_nd (P := fun x => fldB x = false) (by assumption) (by assumption))))]; rfl)
                   | (subst ho; rw [startsR_yes (by omega) i3] <;> rfl)
                   | assumption
                   | (subst ho; rfl)))))
    | ((fail_if_success (refine Den.id ?_))
       first
         | fail))
end Go.Mach
end
section
set_option linter.unusedVariables false
set_option linter.unusedSimpArgs false
namespace Go.Mach
open Go Go.RowKit Go.Proofs
set_option maxRecDepth 100000
set_option maxHeartbeats 1000000
theorem spec_NodesOk.ans {xa xb : Option (List D → Option D)} (o : Std) (ho : o = std) (l : List Nd) (h0 : Sz l) (h1 : l.length ≤ 1048576) : Ans (env xa xb) 88 [.sl .ro 7 (o.bx fun _ => eNd l)] (.bool (okM l)) := by
  refine Ans.mkA ho _ rfl rfl ?_
  repeat' (first
    | (refine Den.id ?_
       (try (conv => arg 2; cbv))
       first
         | refine Den.testT ?_
         | refine Den.testF ?_
         | refine Den.testN1 ho (by first | with_reducible assumption | with_reducible rfl) ?_
         | refine Den.testN0 ho (by first | with_reducible assumption | with_reducible rfl) ?_
         | (refine Den.pcallE (β := Bool) (fun v => .bool v) (as' := [.int .i64 _, .int .i64 _, .int .i64 _]) (by first | with_reducible rfl | (subst ho; rfl)) (spec_l1In.ans o ho _ _ _) ?_; rotate_left 0; rintro (_ | _) hv <;> (try simp only [decide_eq_true_eq, decide_eq_false_iff_not] at hv) <;> (try first | contradiction | exact absurd (hv.symm.trans (show _ = false by assumption)) (by decide) | exact absurd (hv.symm.trans (show _ = true by assumption)) (by decide)))
         | (refine Den.pcallE (β := (List Int) × Bool) (fun v => .tup [.sl .ro 1 (o.bx fun _ => eK .i64 v.1), .bool v.2]) (as' := [.sl .ro 7 (o.bx fun _ => eNd _)]) (by first | with_reducible rfl | (subst ho; rfl)) (spec_l3Starts.ans o ho _ ?_ ?_) ?_; rotate_left 2; rintro ⟨v0, (_ | _)⟩ hv <;> (try simp only [decide_eq_true_eq, decide_eq_false_iff_not] at hv) <;> (try first | contradiction | exact absurd (hv.symm.trans (show _ = false by assumption)) (by decide) | exact absurd (hv.symm.trans (show _ = true by assumption)) (by decide)) <;> (try have hsl := startsR_len hv))
         | (refine Den.fetchXK ho ?_ ?_ (fun y hy => ?_); rotate_left 2)
         | (refine Den.done ⟨by first | exact Or.inl rfl | exact Or.inr rfl, ?_⟩; (conv => lhs; cbv); refine congrArg some ?_))
    | ((fail_if_success (refine Den.id ?_))
       first
         | (subst ho; refine dB ?_; simp only [std, len_eNd] at *; exact okM_len (by assumption))
         | (refine dB ?_; exact okM_no hv)
         | (subst ho; simp (disch := omega) only [std, wI, len_eNd] at *; refine dB ?_; exact okM_end (by assumption) (by assumption) hy rfl)
         | (subst ho; simp only [std, len_eNd] at *; omega)
         | (subst ho; simp (disch := omega) only [std, wI, len_eNd] at *; omega)))
end Go.Mach
end
section
set_option linter.unusedVariables false
set_option linter.unusedSimpArgs false
namespace Go.Mach
open Go Go.RowKit Go.Proofs
set_option maxRecDepth 100000
set_option maxHeartbeats 1000000
theorem spec_StartOf.ans {xa xb : Option (List D → Option D)} (o : Std) (ho : o = std) (l : List Nd) (i : Int) (h0 : Sz l) (h1 : l.length ≤ 1048576) : Ans (env xa xb) 133 [.sl .ro 7 (o.bx fun _ => eNd l), .int .i64 i] (.int .i64 (startOfR l i)) := by
  refine Ans.mkA ho _ rfl rfl ?_
  repeat' (first
    | (refine Den.id ?_
       (try (conv => arg 2; cbv))
       first
         | refine Den.testT ?_
         | refine Den.test1 (by with_reducible assumption) ?_
         | refine Den.test0 (by with_reducible assumption) ?_
         | refine Den.testN1 ho (by first | with_reducible assumption | with_reducible rfl) ?_
         | refine Den.testN0 ho (by first | with_reducible assumption | with_reducible rfl) ?_
         | (refine Den.test (fun hr => ?_) (fun hr => ?_) <;> (have hb := hr) <;> (try simp (disch := omega) only [ho, std, wI, len_eK, len_eB, len_eNd, len_eLNd, len_eFc, len_eAb, len_eBd, len_eEd, len_eLBd, Classical.not_not, decide_eq_true_eq, decide_eq_false_iff_not, beq_iff_eq, beq_eq_false_iff_ne, ne_eq, Bool.not_eq_true', Bool.not_eq_false', Bool.not_eq_true, Bool.not_eq_false, gt_iff_lt, ge_iff_le, Int.not_lt, Int.not_le] at hb) <;> (try (exfalso; first | contradiction | omega | exact hb rfl)))
         | (refine Den.pcallE (β := Bool) (fun v => .bool v) (as' := [.sl .ro 7 (o.bx fun _ => eNd _)]) (by first | with_reducible rfl | (subst ho; rfl)) (spec_NodesOk.ans o ho _ ?_ ?_) ?_; rotate_left 2; rintro (_ | _) hv <;> (try simp only [decide_eq_true_eq, decide_eq_false_iff_not] at hv) <;> (try first | contradiction | exact absurd (hv.symm.trans (show _ = false by assumption)) (by decide) | exact absurd (hv.symm.trans (show _ = true by assumption)) (by decide)))
         | (refine Den.pcallE (β := Bool) (fun v => .bool v) (as' := [.int .i64 _, .int .i64 _, .int .i64 _]) (by first | with_reducible rfl | (subst ho; rfl)) (spec_l1In.ans o ho _ _ _) ?_; rotate_left 0; rintro (_ | _) hv <;> (try simp only [decide_eq_true_eq, decide_eq_false_iff_not] at hv) <;> (try first | contradiction | exact absurd (hv.symm.trans (show _ = false by assumption)) (by decide) | exact absurd (hv.symm.trans (show _ = true by assumption)) (by decide)))
         | (refine Den.pcallE (β := (List Int) × Bool) (fun v => .tup [.sl .ro 1 (o.bx fun _ => eK .i64 v.1), .bool v.2]) (as' := [.sl .ro 7 (o.bx fun _ => eNd _)]) (by first | with_reducible rfl | (subst ho; rfl)) (spec_l3Starts.ans o ho _ ?_ ?_) ?_; rotate_left 2; rintro ⟨v0, (_ | _)⟩ hv <;> (try simp only [decide_eq_true_eq, decide_eq_false_iff_not] at hv) <;> (try first | contradiction | exact absurd (hv.symm.trans (show _ = false by assumption)) (by decide) | exact absurd (hv.symm.trans (show _ = true by assumption)) (by decide)))
         | (refine Den.fetchXK ho ?_ ?_ (fun y hy => ?_); rotate_left 2)
         | (refine Den.done ⟨by first | exact Or.inl rfl | exact Or.inr rfl, ?_⟩; (conv => lhs; cbv); refine congrArg some ?_))
    | ((fail_if_success (refine Den.id ?_))
       first
         | (subst ho; refine dI ?_; simp (disch := omega) only [std, wI, len_eNd] at *; first | exact startOfR_no (.inl (by assumption)) | exact startOfR_no (.inr (by assumption)))
         | (subst ho; simp (disch := omega) only [std, wI, len_eNd] at *; have hq := (okT_startsR (by assumption) (by assumption)).1; omega)
         | (have hq := (okM_iff.1 (by assumption)).size; omega)
         | (subst ho; refine dI ?_; simp (disch := omega) only [std, wI, len_eNd] at *; exact startOfR_yes (by assumption) (by assumption) (by assumption) hy)
         | assumption))
theorem spec_ParentOf.ans {xa xb : Option (List D → Option D)} (o : Std) (ho : o = std) (l : List Nd) (i : Int) (h0 : Sz l) (h1 : l.length ≤ 1048576) : Ans (env xa xb) 101 [.sl .ro 7 (o.bx fun _ => eNd l), .int .i64 i] (.int .i64 (parS l i)) := by
  refine Ans.mkA ho _ rfl rfl ?_
  repeat' (first
    | (refine Den.id ?_
       (try (conv => arg 2; cbv))
       first
         | refine Den.testN1 ho (by first | with_reducible assumption | with_reducible rfl) ?_
         | refine Den.testN0 ho (by first | with_reducible assumption | with_reducible rfl) ?_
         | (refine Den.pcallE (β := Bool) (fun v => .bool v) (as' := [.sl .ro 7 (o.bx fun _ => eNd _)]) (by first | with_reducible rfl | (subst ho; rfl)) (spec_NodesOk.ans o ho _ ?_ ?_) ?_; rotate_left 2; rintro (_ | _) hv <;> (try simp only [decide_eq_true_eq, decide_eq_false_iff_not] at hv) <;> (try first | contradiction | exact absurd (hv.symm.trans (show _ = false by assumption)) (by decide) | exact absurd (hv.symm.trans (show _ = true by assumption)) (by decide)))
         | (refine Den.indF (fun m_ s_ => ∃ (a5 : Int) (tk : List Nat), s_ = ⟨[.sl .ro 7 (o.bx fun _ => eNd l), .int .i64 i, .junk, .junk, .junk, .int .i64 a5] ++ List.replicate 17 .junk, [], [], tk⟩ ∧ (0 ≤ a5 ∧ a5 ≤ l.length ∧ (∀ j : Nat, (j : Int) < a5 → i ∉ kidsM (rN l j))) ∧ (l.length - a5).toNat ≤ m_) _ _ ⟨_, _, by subst ho; rfl, ?_, Nat.le_refl _⟩ ?_
            rotate_right
            rintro m_ _ ⟨a5, tk, rfl, hIa, hka⟩ iha
            obtain ⟨i1, i2, i3⟩ := hIa; refine Den.unloopA ho ?_
            repeat' (first
              | (refine Den.id ?_
                 (try (conv => arg 2; cbv))
                 first
                   | refine Den.testT ?_
                   | refine Den.testF ?_
                   | (refine Den.test (fun hr => ?_) (fun hr => ?_) <;> (have hb := hr) <;> (try simp (disch := omega) only [ho, std, wI, len_eK, len_eB, len_eNd, len_eLNd, len_eFc, len_eAb, len_eBd, len_eEd, len_eLBd, Classical.not_not, decide_eq_true_eq, decide_eq_false_iff_not, beq_iff_eq, beq_eq_false_iff_ne, ne_eq, Bool.not_eq_true', Bool.not_eq_false', Bool.not_eq_true, Bool.not_eq_false, gt_iff_lt, ge_iff_le, Int.not_lt, Int.not_le] at hb) <;> (try (exfalso; first | contradiction | omega | exact hb rfl)))
                   | (refine Den.pcallE (β := List Int) (fun v => .sl .ro 1 (o.bx fun _ => eK .i64 v)) (as' := [.agg [.int .i64 _, .int .i64 _, .int .i64 _, .int .i64 _, .int .i64 _, .str _, .str _]]) (by first | with_reducible rfl | (subst ho; rfl)) (spec_Kids.ans o ho _ _ _ _ _ _ _) ?_; rotate_left 0; rintro v hv)
                   | (refine Den.pcallE (β := Bool) (fun v => .bool v) (as' := [.sl .ro 1 (o.bx fun _ => eK .i64 _), .int .i64 _]) (by first | with_reducible rfl | (subst ho; rfl)) (spec_l4Has.ans o ho _ _ ?_) ?_; rotate_left 1; rintro (_ | _) hv <;> (try simp only [decide_eq_true_eq, decide_eq_false_iff_not] at hv) <;> (try first | contradiction | exact absurd (hv.symm.trans (show _ = false by assumption)) (by decide) | exact absurd (hv.symm.trans (show _ = true by assumption)) (by decide)))
                   | (refine Den.fetchXNd ho ?_ ?_ (fun y hy => ?_); rotate_left 2; rcases y with ⟨y0, y1, y2, y3, y4, y5, y6⟩)
                   | (refine iha _ _ ?_ ⟨_, _, by subst ho; rfl, ?_, Nat.le_refl _⟩)
                   | (refine Den.done ⟨by first | exact Or.inl rfl | exact Or.inr rfl, ?_⟩; (conv => lhs; cbv); refine congrArg some ?_))
              | ((fail_if_success (refine Den.id ?_))
                 first
                   | (subst ho; exact ⟨Int.le_refl _, by omega, fun j hj => absurd hj (by omega)⟩)
                   | (have hq := len_kidsM ⟨y0, y1, y2, y3, y4, y5, y6⟩; have hq2 := arityM_le y0; dsimp only at hq; rw [show kidsM _ = _ by assumption] at hq; omega)
                   | (refine dI ?_; exact (parS_none (fun j hj => i3 j (by omega))).symm)
                   | (refine dI ?_; exact (parS_hit (by assumption) i1 (by omega) i3 (at_nd (P := fun x => i ∈ kidsM x) hy (by rw [show kidsM _ = _ by assumption]; assumption))).symm)
                   | (simp (disch := omega) only [ho, std, wI]; exact ⟨by omega, by omega, par_step i1 i3 (at_nd (P := fun x => i ∉ kidsM x) hy (by rw [show kidsM _ = _ by assumption]; assumption))⟩)
                   | assumption
                   | (subst ho; simp (disch := omega) only [std, wI, tdiv2, tdivN, len_eFc, len_eNd, len_eBd, len_eAb, len_eLBd, len_eK, len_eB] <;> first | done | rfl | omega))))
         | (refine Den.done ⟨by first | exact Or.inl rfl | exact Or.inr rfl, ?_⟩; (conv => lhs; cbv); refine congrArg some ?_))
    | ((fail_if_success (refine Den.id ?_))
       first
         | (refine dI ?_; exact parS_no (by assumption))
         | assumption))
theorem spec_l6Bound.ans {xa xb : Option (List D → Option D)} (o : Std) (ho : o = std) (n_f0 : Int) (n_f1 : Int) (n_f2 : Int) (n_f3 : Int) (n_f4 : Int) (n_f5 : ByteArray) (n_f6 : ByteArray) (kid : Int) : Ans (env xa xb) 132 [.agg [.int .i64 n_f0, .int .i64 n_f1, .int .i64 n_f2, .int .i64 n_f3, .int .i64 n_f4, .str n_f5, .str n_f6], .int .i64 kid] (.tup [.sl .ro 1 (o.bx fun _ => eB (bindM (⟨n_f0, n_f1, n_f2, n_f3, n_f4, n_f5, n_f6⟩ : Nd) kid).1), .sl .ro 1 (o.bx fun _ => eK .i64 (bindM (⟨n_f0, n_f1, n_f2, n_f3, n_f4, n_f5, n_f6⟩ : Nd) kid).2)]) := by
  refine Ans.mkA ho _ rfl rfl ?_
  repeat' (first
    | (refine Den.id ?_
       (try (conv => arg 2; cbv))
       first
         | refine Den.test1 (by with_reducible assumption) ?_
         | (refine Den.test (fun hr => ?_) (fun hr => ?_) <;> (have hb := hr) <;> (try simp (disch := omega) only [ho, std, wI, len_eK, len_eB, len_eNd, len_eLNd, len_eFc, len_eAb, len_eBd, len_eEd, len_eLBd, Classical.not_not, decide_eq_true_eq, decide_eq_false_iff_not, beq_iff_eq, beq_eq_false_iff_ne, ne_eq, Bool.not_eq_true', Bool.not_eq_false', Bool.not_eq_true, Bool.not_eq_false, gt_iff_lt, ge_iff_le, Int.not_lt, Int.not_le] at hb) <;> (try (exfalso; first | contradiction | omega | exact hb rfl)))
         | (refine Den.done ⟨by first | exact Or.inl rfl | exact Or.inr rfl, ?_⟩; (conv => lhs; cbv); refine congrArg some ?_))
    | ((fail_if_success (refine Den.id ?_))
       first
         | (subst ho; unfold bindM; simp only [*, true_or, or_true, true_and, and_true, if_true, if_false, false_or, or_false, false_and, and_false, or_self, and_self]; rfl)))
end Go.Mach
end
section
set_option linter.unusedVariables false
set_option linter.unusedSimpArgs false
namespace Go.Mach
open Go Go.RowKit Go.Proofs
set_option maxRecDepth 100000
set_option maxHeartbeats 6000000
theorem spec_BinderOf.ans {xa xb : Option (List D → Option D)} (o : Std) (ho : o = std) (l : List Nd) (i : Int) (h0 : Sz l) (h1 : l.length ≤ 1048576) : Ans (env xa xb) 108 [.sl .ro 7 (o.bx fun _ => eNd l), .int .i64 i] (.agg ([.int .i64 (binderR l i).f0, .int .i64 (binderR l i).f1])) := by
  refine Ans.mkA ho _ rfl rfl ?_
  repeat' (first
    | (refine Den.id ?_
       (try (conv => arg 2; cbv))
       first
         | refine Den.testT ?_
         | refine Den.test1 (by with_reducible assumption) ?_
         | refine Den.test0 (by with_reducible assumption) ?_
         | refine Den.testN1 ho (by first | with_reducible assumption | with_reducible rfl) ?_
         | refine Den.testN0 ho (by first | with_reducible assumption | with_reducible rfl) ?_
         | (refine Den.test (fun hr => ?_) (fun hr => ?_) <;> (have hb := hr) <;> (try simp (disch := omega) only [ho, std, wI, len_eK, len_eB, len_eNd, len_eLNd, len_eFc, len_eAb, len_eBd, len_eEd, len_eLBd, Classical.not_not, decide_eq_true_eq, decide_eq_false_iff_not, beq_iff_eq, beq_eq_false_iff_ne, ne_eq, Bool.not_eq_true', Bool.not_eq_false', Bool.not_eq_true, Bool.not_eq_false, gt_iff_lt, ge_iff_le, Int.not_lt, Int.not_le] at hb) <;> (try (exfalso; first | contradiction | omega | exact hb rfl)))
         | (refine Den.pcallE (β := Bool) (fun v => .bool v) (as' := [.sl .ro 7 (o.bx fun _ => eNd _)]) (by first | with_reducible rfl | (subst ho; rfl)) (spec_NodesOk.ans o ho _ ?_ ?_) ?_; rotate_left 2; rintro (_ | _) hv <;> (try simp only [decide_eq_true_eq, decide_eq_false_iff_not] at hv) <;> (try first | contradiction | exact absurd (hv.symm.trans (show _ = false by assumption)) (by decide) | exact absurd (hv.symm.trans (show _ = true by assumption)) (by decide)))
         | (refine Den.pcallE (β := Bool) (fun v => .bool v) (as' := [.int .i64 _, .int .i64 _, .int .i64 _]) (by first | with_reducible rfl | (subst ho; rfl)) (spec_l1In.ans o ho _ _ _) ?_; rotate_left 0; rintro (_ | _) hv <;> (try simp only [decide_eq_true_eq, decide_eq_false_iff_not] at hv) <;> (try first | contradiction | exact absurd (hv.symm.trans (show _ = false by assumption)) (by decide) | exact absurd (hv.symm.trans (show _ = true by assumption)) (by decide)) <;> (try (have hir : 0 ≤ i ∧ i < l.length := (by subst ho; simp (disch := omega) only [std, wI, len_eNd] at hv; omega))))
         | (refine Den.pcallE (β := Int) (fun v => .int .i64 v) (as' := [.sl .ro 7 (o.bx fun _ => eNd _), .int .i64 _]) (by first | with_reducible rfl | (subst ho; rfl)) (spec_ParentOf.ans o ho _ _ ?_ ?_) ?_; rotate_left 2; rintro v hv)
         | (refine Den.fetchXNd ho ?_ ?_ (fun y hy => ?_); rotate_left 2; rcases y with ⟨y0, y1, y2, y3, y4, y5, y6⟩; (first | (have _hyi := hyi; have hyp := hy) | (obtain ⟨nm, en⟩ : ∃ q, q = y5 := ⟨_, rfl⟩; subst en; have hyi := hy)))
         | (refine Den.indF (fun m_ s_ => ∃ (a6 : Int) (a7 : Int) (tk : List Nat), s_ = ⟨[.sl .ro 7 (o.bx fun _ => eNd l), .int .i64 i, .junk, .junk, .pbx (.loc 0) 0, .pbx (.loc 1) 0, .int .i64 a6, .int .i64 a7] ++ List.replicate 66 .junk, [[[.int .i64 0, .int .i64 0]], [[.int .i64 (-1), .int .i64 (-1)]]], [], tk⟩ ∧ (a7 = parS l a6 ∧ climbM l nm i = climbM l nm a6 ∧ 0 ≤ a6 ∧ a6 < l.length) ∧ (l.length - a6).toNat ≤ m_) _ _ ⟨_, _, _, by subst ho; rfl, ?_, Nat.le_refl _⟩ ?_
            rotate_right
            rintro m_ _ ⟨a6, a7, tk, rfl, hIa, hka⟩ iha
            obtain ⟨i1, i2, i3, i4⟩ := hIa; have hT := okM_iff.1 (show okM l = true by assumption); have hpl := hT.par_lt (n := a6); rw [← i1] at hpl; refine Den.unloopA ho ?_
            repeat' (first
              | (refine Den.id ?_
                 (try (conv => arg 2; cbv))
                 first
                   | (refine Den.test (fun hr => ?_) (fun hr => ?_) <;> (have hb := hr) <;> (try simp (disch := omega) only [ho, std, wI, len_eK, len_eB, len_eNd, len_eLNd, len_eFc, len_eAb, len_eBd, len_eEd, len_eLBd, Classical.not_not, decide_eq_true_eq, decide_eq_false_iff_not, beq_iff_eq, beq_eq_false_iff_ne, ne_eq, Bool.not_eq_true', Bool.not_eq_false', Bool.not_eq_true, Bool.not_eq_false, gt_iff_lt, ge_iff_le, Int.not_lt, Int.not_le] at hb) <;> (try (exfalso; first | contradiction | omega | exact hb rfl)))
                   | (refine Den.pcallE (β := (List ByteArray) × (List Int)) (fun v => .tup [.sl .ro 1 (o.bx fun _ => eB v.1), .sl .ro 1 (o.bx fun _ => eK .i64 v.2)]) (as' := [.agg [.int .i64 _, .int .i64 _, .int .i64 _, .int .i64 _, .int .i64 _, .str _, .str _], .int .i64 _]) (by first | with_reducible rfl | (subst ho; rfl)) (spec_l6Bound.ans o ho _ _ _ _ _ _ _ _) ?_; rotate_left 0; rintro ⟨v0, v1⟩ hv; (have hst := hit_start (nm := nm) i1 hyp hv; have hbl := bind_len hv))
                   | (refine Den.fetchXNd ho ?_ ?_ (fun y hy => ?_); rotate_left 2; rcases y with ⟨y0, y1, y2, y3, y4, y5, y6⟩; (first | (have _hyi := hyi; have hyp := hy) | (obtain ⟨nm, en⟩ : ∃ q, q = y5 := ⟨_, rfl⟩; subst en; have hyi := hy)))
                   | (refine Den.indF (fun m_ s_ => ∃ (b8 : List ByteArray) (b9 : List Int) (b10 : Int) (tb8 tb9 : Tok) (tk : List Nat), s_ = ⟨[.sl .ro 7 (o.bx fun _ => eNd l), .int .i64 i, .junk, .junk, .pbx (.loc 0) 0, .pbx (.loc 1) 0, .junk, .int .i64 a7, .sl tb8 1 (o.bx fun _ => eB b8), .sl tb9 1 (o.bx fun _ => eK .i64 b9), .int .i64 b10] ++ List.replicate 63 .junk, [[[.int .i64 0, .int .i64 0]], [[.int .i64 (-1), .int .i64 (-1)]]], [], tk⟩ ∧ (b8.length ≤ 2 ∧ b9.length = b8.length ∧ 0 ≤ b10 ∧ b10 ≤ b8.length ∧ hitN l nm a6 = hitM a7 nm (b8.drop b10.toNat) (b9.drop b10.toNat)) ∧ (b8.length - b10).toNat ≤ m_) _ _ ⟨_, _, _, _, _, _, by subst ho; rfl, ?_, Nat.le_refl _⟩ ?_
                      rotate_right
                      rintro m_ _ ⟨b8, b9, b10, tb8, tb9, tk, rfl, hIb, hkb⟩ ihb
                      obtain ⟨j0, j1, j2, j3, j4⟩ := hIb; refine Den.unloopA ho ?_
                      repeat' (first
                        | (refine Den.id ?_
                           (try (conv => arg 2; cbv))
                           first
                             | (refine Den.test (fun hr => ?_) (fun hr => ?_) <;> (have hb := hr) <;> (try simp (disch := omega) only [ho, std, wI, len_eK, len_eB, len_eNd, len_eLNd, len_eFc, len_eAb, len_eBd, len_eEd, len_eLBd, Classical.not_not, decide_eq_true_eq, decide_eq_false_iff_not, beq_iff_eq, beq_eq_false_iff_ne, ne_eq, Bool.not_eq_true', Bool.not_eq_false', Bool.not_eq_true, Bool.not_eq_false, gt_iff_lt, ge_iff_le, Int.not_lt, Int.not_le] at hb) <;> (try (exfalso; first | contradiction | omega | exact hb rfl)))
                             | (refine Den.pcallE (β := Int) (fun v => .int .i64 v) (as' := [.sl .ro 7 (o.bx fun _ => eNd _), .int .i64 _]) (by first | with_reducible rfl | (subst ho; rfl)) (spec_ParentOf.ans o ho _ _ ?_ ?_) ?_; rotate_left 2; rintro v hv)
                             | (refine Den.fetchYNd ho ?_ ?_ (by with_reducible assumption) ?_)
                             | (refine Den.fetchXK ho ?_ ?_ (fun y hy => ?_); rotate_left 2)
                             | (refine Den.fetchXB ho ?_ ?_ (fun y hy => ?_); rotate_left 2; (have hyn := hy))
                             | (refine Den.needD ho (by kernel_rfl) ?_)
                             | (refine ihb _ _ ?_ ⟨_, _, _, _, _, _, by subst ho; rfl, ?_, Nat.le_refl _⟩)
                             | (refine iha _ _ ?_ ⟨_, _, _, by subst ho; rfl, ?_, Nat.le_refl _⟩)
                             | (refine Den.done ⟨by first | exact Or.inl rfl | exact Or.inr rfl, ?_⟩; (conv => lhs; cbv); refine congrArg some ?_))
                        | ((fail_if_success (refine Den.id ?_))
                           first
                             | (exact hir.2)
                             | (exact ⟨hbl, hst.2, Int.le_refl _, by omega, hst.1⟩)
                             | (have hq := hpl (by omega); omega)
                             | (rw [← binderR_yes (show okM l = true by assumption) ⟨hir.1, by omega⟩ hyi (by assumption) (i2.trans (climb_hit hT (by omega) (hit_yes j1 j2 (by omega) hyn (by assumption) hy j4)))] <;> rfl)
                             | ((try clear iha); (try clear ihb); simp (disch := omega) only [ho, std, wI]; first | omega | exact ⟨j0, j1, by omega, by omega, hit_next j1 j2 (by omega) hyn (by assumption) j4⟩)
                             | (have hq := hpl (by omega); exact ⟨hv.symm, i2.trans ((climb_on hT (by omega) (hit_none (by omega) j4)).trans (by rw [← i1])), by omega, by omega⟩))))
                   | (refine Den.done ⟨by first | exact Or.inl rfl | exact Or.inr rfl, ?_⟩; (conv => lhs; cbv); refine congrArg some ?_))
              | ((fail_if_success (refine Den.id ?_))
                 first
                   | (exact ⟨hv.symm, rfl, hir.1, hir.2⟩)
                   | (have hq := hpl (by omega); omega)
                   | (rw [← binderR_yes (show okM l = true by assumption) ⟨hir.1, by omega⟩ hyi (by assumption) (i2.trans (climbM_top (by rw [← i1]; omega)))] <;> rfl))))
         | (refine Den.done ⟨by first | exact Or.inl rfl | exact Or.inr rfl, ?_⟩; (conv => lhs; cbv); refine congrArg some ?_))
    | ((fail_if_success (refine Den.id ?_))
       first
         | (exact hir.2)
         | ((first | rw [← binderR_no (.inl (by assumption))] | rw [← binderR_no (.inr (.inr ⟨_, hyi, by assumption⟩))] | rw [← binderR_no (.inr (.inl (by subst ho; simp (disch := omega) only [std, wI, len_eNd] at hv; exact hv)))]) <;> rfl)
         | assumption
         | omega))
end Go.Mach
end
section
set_option linter.unusedVariables false
set_option linter.unusedSimpArgs false
namespace Go.Mach
open Go Go.RowKit Go.Proofs
set_option maxRecDepth 100000
set_option maxHeartbeats 6000000
theorem spec_FreeNames.ans {xa xb : Option (List D → Option D)} (o : Std) (ho : o = std) (l : List Nd) (h0 : Sz l) (h1 : l.length ≤ 1048576) : Ans (env xa xb) 131 [.sl .ro 7 (o.bx fun _ => eNd l)] (.sl .ro 1 (o.bx fun _ => eB (freeR l))) := by
  refine Ans.mkA ho _ rfl rfl ?_
  repeat' (first
    | (refine Den.id ?_
       (try (conv => arg 2; cbv))
       first
         | (refine Den.indF (fun m_ s_ => ∃ (a4 : Int) (tk : List Nat) (tq : Tok) (bq : Box), s_ = ⟨[.sl .ro 7 (o.bx fun _ => eNd l), .junk, .junk, .sl tq 1 bq, .int .i64 a4] ++ List.replicate 32 .junk, [], [], tk⟩ ∧ (bq = (o.bx fun _ => eB (freeN l a4.toNat)) ∧ 0 ≤ a4 ∧ a4 ≤ l.length ∧ (0 < a4 → okM l = true)) ∧ (l.length - a4).toNat ≤ m_) _ _ ⟨_, _, _, _, by subst ho; rfl, ?_, Nat.le_refl _⟩ ?_
            rotate_right
            rintro m_ _ ⟨a4, tk, tq, bq, rfl, hIa, hka⟩ iha
            obtain ⟨rfl, i1, i2, i3⟩ := hIa; have hfl := (len_freeN l a4.toNat).1; refine Den.unloopA ho ?_
            repeat' (first
              | (refine Den.id ?_
                 (try (conv => arg 2; cbv))
                 first
                   | refine Den.testT ?_
                   | refine Den.testF ?_
                   | refine Den.test1 (by with_reducible assumption) ?_
                   | refine Den.test0 (by with_reducible assumption) ?_
                   | (refine Den.test (fun hr => ?_) (fun hr => ?_) <;> (have hb := hr) <;> (try simp (disch := omega) only [ho, std, wI, len_eK, len_eB, len_eNd, len_eLNd, len_eFc, len_eAb, len_eBd, len_eEd, len_eLBd, Classical.not_not, decide_eq_true_eq, decide_eq_false_iff_not, beq_iff_eq, beq_eq_false_iff_ne, ne_eq, Bool.not_eq_true', Bool.not_eq_false', Bool.not_eq_true, Bool.not_eq_false, gt_iff_lt, ge_iff_le, Int.not_lt, Int.not_le] at hb) <;> (try (exfalso; first | contradiction | omega | exact hb rfl)))
                   | (refine Den.pcallE (β := Bool) (fun v => .bool v) (as' := [.sl .ro 7 (o.bx fun _ => eNd _)]) (by first | with_reducible rfl | (subst ho; rfl)) (spec_NodesOk.ans o ho _ ?_ ?_) ?_; rotate_left 2; rintro (_ | _) hv <;> (try simp only [decide_eq_true_eq, decide_eq_false_iff_not] at hv) <;> (try first | contradiction | exact absurd (hv.symm.trans (show _ = false by assumption)) (by decide) | exact absurd (hv.symm.trans (show _ = true by assumption)) (by decide)))
                   | (refine Den.pcallE (β := Bd) (fun v => .agg ([.int .i64 v.f0, .int .i64 v.f1])) (as' := [.sl .ro 7 (o.bx fun _ => eNd _), .int .i64 _]) (by first | with_reducible rfl | (subst ho; rfl)) (spec_BinderOf.ans o ho _ _ ?_ ?_) ?_; rotate_left 2; rintro ⟨v0, v1⟩ hv)
                   | (refine Den.pcallE (β := List ByteArray) (fun v => .sl .ro 1 (o.bx fun _ => eB v)) (as' := [.sl .ro 1 (o.bx fun _ => eB _), .str _]) (by first | with_reducible rfl | (subst ho; rfl)) (spec_l6Sort.ans o ho _ _ ?_) ?_; rotate_left 1; rintro v hv)
                   | (refine Den.fetchYNd ho ?_ ?_ (by with_reducible assumption) ?_)
                   | (refine Den.fetchXNd ho ?_ ?_ (fun y hy => ?_); rotate_left 2; rcases y with ⟨y0, y1, y2, y3, y4, y5, y6⟩; (have hyp := hy))
                   | (refine iha _ _ ?_ ⟨_, _, _, _, by subst ho; rfl, ?_, Nat.le_refl _⟩)
                   | (refine Den.done ⟨by first | exact Or.inl rfl | exact Or.inr rfl, ?_⟩; (conv => lhs; cbv); refine congrArg some ?_))
              | ((fail_if_success (refine Den.id ?_))
                 first
                   | (subst ho; exact ⟨rfl, Int.le_refl _, by omega, fun h => absurd h (by omega)⟩)
                   | (subst ho; refine congrArg (D.sl Tok.ro 1) (congrArg eB ?_); first | exact freeR_fin (by omega) i3 | exact freeR_z (fun hq => by have := i3 hq; simp_all) i1 (.inl (by assumption)) rfl | exact freeR_z (by omega) i1 (.inr (by omega)) rfl)
                   | (subst ho; simp (disch := omega) only [std, wI]; refine ⟨?_, by omega, by omega, fun _ => by assumption⟩; refine congrArg eB ?_; first | exact freeN_yes (by assumption) i1 (by omega) hyp (by assumption) (by assumption) (by assumption) (by assumption) | exact freeN_no1 i1 hyp (by assumption) | exact freeN_no2 (by assumption) i1 (by omega) (by assumption) (by dsimp only; omega))
                   | assumption
                   | omega
                   | (subst ho; simp (disch := omega) only [std, wI, tdiv2, tdivN, len_eFc, len_eNd, len_eBd, len_eAb, len_eLBd, len_eK, len_eB] <;> first | done | rfl | omega)))))
    | ((fail_if_success (refine Den.id ?_))
       first
         | fail))
end Go.Mach
end
section
set_option linter.unusedVariables false
set_option linter.unusedSimpArgs false
namespace Go.Mach
open Go Go.RowKit Go.Proofs
set_option maxRecDepth 100000
set_option maxHeartbeats 6000000
theorem spec_Closed.ans {xa xb : Option (List D → Option D)} (o : Std) (ho : o = std) (l : List Nd) (h0 : Sz l) (h1 : l.length ≤ 1048576) : Ans (env xa xb) 107 [.sl .ro 7 (o.bx fun _ => eNd l)] (.bool (cloB l)) := by
  refine Ans.mkA ho _ rfl rfl ?_
  repeat' (first
    | (refine Den.id ?_
       (try (conv => arg 2; cbv))
       first
         | refine Den.testT ?_
         | refine Den.testF ?_
         | (refine Den.pcallE (β := Bool) (fun v => .bool v) (as' := [.sl .ro 7 (o.bx fun _ => eNd _)]) (by first | with_reducible rfl | (subst ho; rfl)) (spec_NodesOk.ans o ho _ ?_ ?_) ?_; rotate_left 2; rintro (_ | _) hv <;> (try simp only [decide_eq_true_eq, decide_eq_false_iff_not] at hv) <;> (try first | contradiction | exact absurd (hv.symm.trans (show _ = false by assumption)) (by decide) | exact absurd (hv.symm.trans (show _ = true by assumption)) (by decide)))
         | (refine Den.pcallE (β := List ByteArray) (fun v => .sl .ro 1 (o.bx fun _ => eB v)) (as' := [.sl .ro 7 (o.bx fun _ => eNd _)]) (by first | with_reducible rfl | (subst ho; rfl)) (spec_FreeNames.ans o ho _ ?_ ?_) ?_; rotate_left 2; rintro v hv)
         | (refine Den.done ⟨by first | exact Or.inl rfl | exact Or.inr rfl, ?_⟩; (conv => lhs; cbv); refine congrArg some ?_))
    | ((fail_if_success (refine Den.id ?_))
       first
         | (subst ho; refine dB ?_; exact clo_no (by assumption))
         | (subst ho; refine dB ?_; exact clo_len (n := v.length) (by assumption) (by rw [hv]) (by simp only [std, len_eB]; rfl))
         | assumption))
theorem spec_FlowOk.ans {xa xb : Option (List D → Option D)} (o : Std) (ho : o = std) (l : List Nd) (dp : Int) (h0 : Sz l) (h1 : l.length ≤ 1048576) : Ans (env xa xb) 84 [.sl .ro 7 (o.bx fun _ => eNd l), .int .i64 dp] (.bool (flowB l dp)) := by
  refine Ans.mkA ho _ rfl rfl ?_
  repeat' (first
    | (refine Den.id ?_
       (try (conv => arg 2; cbv))
       first
         | refine Den.testT ?_
         | refine Den.testF ?_
         | (refine Den.pcallE (β := Bool) (fun v => .bool v) (as' := [.sl .ro 7 (o.bx fun _ => eNd _)]) (by first | with_reducible rfl | (subst ho; rfl)) (spec_NodesOk.ans o ho _ ?_ ?_) ?_; rotate_left 2; rintro (_ | _) hv <;> (try simp only [decide_eq_true_eq, decide_eq_false_iff_not] at hv) <;> (try first | contradiction | exact absurd (hv.symm.trans (show _ = false by assumption)) (by decide) | exact absurd (hv.symm.trans (show _ = true by assumption)) (by decide)))
         | (refine Den.pcallE (β := Bool) (fun v => .bool v) (as' := [.sl .ro 7 (o.bx fun _ => eNd _)]) (by first | with_reducible rfl | (subst ho; rfl)) (spec_Closed.ans o ho _ ?_ ?_) ?_; rotate_left 2; rintro (_ | _) hv <;> (try simp only [decide_eq_true_eq, decide_eq_false_iff_not] at hv) <;> (try first | contradiction | exact absurd (hv.symm.trans (show _ = false by assumption)) (by decide) | exact absurd (hv.symm.trans (show _ = true by assumption)) (by decide)))
         | (refine Den.pcallE (β := Bool) (fun v => .bool v) (as' := [.int .i64 _, .int .i64 _, .int .i64 _]) (by first | with_reducible rfl | (subst ho; rfl)) (spec_l1In.ans o ho _ _ _) ?_; rotate_left 0; rintro (_ | _) hv <;> (try simp only [decide_eq_true_eq, decide_eq_false_iff_not] at hv) <;> (try first | contradiction | exact absurd (hv.symm.trans (show _ = false by assumption)) (by decide) | exact absurd (hv.symm.trans (show _ = true by assumption)) (by decide)))
         | (refine Den.done ⟨by first | exact Or.inl rfl | exact Or.inr rfl, ?_⟩; (conv => lhs; cbv); refine congrArg some ?_))
    | ((fail_if_success (refine Den.id ?_))
       first
         | (refine dB ?_; exact flow_no (by assumption))
         | (refine dB ?_; exact flow_no (clo_no (by assumption)).symm)
         | (refine dB ?_; first | exact flow_eq (by assumption) (decide_eq_true (by assumption)).symm | exact flow_eq (by assumption) (decide_eq_false (by assumption)).symm)
         | assumption))
end Go.Mach
end
