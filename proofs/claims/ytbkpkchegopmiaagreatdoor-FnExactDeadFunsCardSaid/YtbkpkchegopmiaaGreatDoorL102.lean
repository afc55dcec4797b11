/- FnExactDeadFuns: the law: part 35 of a proof by an executable machine over the program's code. -/
import Derived.Test.YtbkpkchegopmiaaGreatDoorMb32
import Derived.Test.YtbkpkchegopmiaaGreatDoorL101
import Derived.WalkKit
import Derived.ProofKit
section
set_option linter.unusedVariables false
set_option linter.unusedSimpArgs false
namespace Go.Mach
open Go Go.RowKit Go.Proofs
set_option maxRecDepth 100000
set_option maxHeartbeats 6000000
theorem spec_LambdasOf.ans {xa xb : Option (List D → Option D)} (o : Std) (ho : o = std) (l : List Nd) (h0 : Sz l) (h1 : l.length ≤ 1048576) : Ans (env xa xb) 70 [.sl .ro 7 (o.bx fun _ => eNd l)] (.sl .ro 1 (o.bx fun _ => eK .i64 (lamsM l))) := by
  refine Ans.mkA ho _ rfl rfl ?_
  repeat' (first
    | (refine Den.id ?_
       (try (conv => arg 2; cbv))
       first
         | (refine Den.indF (fun m_ s_ => ∃ (ea3 : Box) (a4 : Int) (ta3 : Tok) (tk : List Nat), s_ = ⟨[.sl .ro 7 (o.bx fun _ => eNd l), .junk, .junk, .sl ta3 1 ea3, .int .i64 a4] ++ List.replicate 21 .junk, [], [], tk⟩ ∧ Lv tk ta3 ea3.length ∧ ea3 = (o.bx fun _ => eK .i64 (filtN (fun i => lamB (rN l i)) a4.toNat)) ∧ (0 ≤ a4 ∧ a4 ≤ l.length ∧ (0 < a4 → okM l = true)) ∧ (l.length - a4).toNat ≤ m_) _ _ ⟨_, _, _, _, by subst ho; rfl, ?_, ?_, ?_, Nat.le_refl _⟩ ?_
            rotate_right
            rintro m_ _ ⟨ea3, a4, ta3, tk, rfl, hla0, rfl, hIa, hka⟩ iha
            obtain ⟨i1, i2, i3⟩ := hIa; have hfl := filtN_lenI (fun i => lamB (rN l i)) i2; refine Den.unloopA ho ?_
            repeat' (first
              | (refine Den.id ?_
                 (try (conv => arg 2; cbv))
                 first
                   | refine Den.testT ?_
                   | refine Den.testF ?_
                   | refine Den.test1 (by with_reducible assumption) ?_
                   | refine Den.test0 (by with_reducible assumption) ?_
                   | (refine Den.test (fun hr => ?_) (fun hr => ?_) <;> (have hb := hr) <;> (try simp (disch := omega) only [ho, std, wI, len_eK, len_eB, len_eNd, len_eLNd, len_eFc, len_eAb, len_eBd, len_eEd, len_eLBd, Classical.not_not, decide_eq_true_eq, decide_eq_false_iff_not, beq_iff_eq, beq_eq_false_iff_ne, ne_eq, Bool.not_eq_true', Bool.not_eq_false', Bool.not_eq_true, Bool.not_eq_false, gt_iff_lt, ge_iff_le, Int.not_lt, Int.not_le] at hb) <;> (try (exfalso; first | contradiction | omega | exact hb rfl)))
                   | (refine Den.pcallE (β := Bool) (fun v => .bool v) (as' := [.sl .ro 7 (o.bx fun _ => eNd _)]) (by first | with_reducible rfl | (subst ho; rfl)) (spec_NodesOk.ans o ho _ ?_ ?_) ?_; rotate_left 2; rintro (_ | _) hv <;> (try simp only [decide_eq_true_eq, decide_eq_false_iff_not] at hv) <;> (try first | contradiction | exact absurd (hv.symm.trans (show _ = false by assumption)) (by decide) | exact absurd (hv.symm.trans (show _ = true by assumption)) (by decide)))
                   | (refine Den.pcallE (β := Bool) (fun v => .bool v) (as' := [.agg [.int .i64 _, .int .i64 _, .int .i64 _, .int .i64 _, .int .i64 _, .str _, .str _]]) (by first | with_reducible rfl | (subst ho; rfl)) (spec_l16Lambda.ans o ho _ _ _ _ _ _ _) ?_; rotate_left 0; rintro (_ | _) hv <;> (try simp only [decide_eq_true_eq, decide_eq_false_iff_not] at hv) <;> (try first | contradiction | exact absurd (hv.symm.trans (show _ = false by assumption)) (by decide) | exact absurd (hv.symm.trans (show _ = true by assumption)) (by decide)))
                   | (refine Den.fetchXNd ho ?_ ?_ (fun y hy => ?_); rotate_left 2; rcases y with ⟨y0, y1, y2, y3, y4, y5, y6⟩; (first | (have _h := hyn) | (have hyn := hy)))
                   | (refine Den.need ?_ ?_)
                   | (refine Den.app1 ?_ (fun t' tk' hl' => ?_))
                   | (refine iha _ _ ?_ ⟨_, _, _, _, by subst ho; rfl, ?_, ?_, ?_, Nat.le_refl _⟩)
                   | (refine Den.done ⟨by first | exact Or.inl rfl | exact Or.inr rfl, ?_⟩; (conv => lhs; cbv) <;> refine congrArg some ?_))
              | ((fail_if_success (refine Den.id ?_))
                 first
                   | (exact Lv.cap _)
                   | (subst ho; exact hla0)
                   | (subst ho; exact ⟨Int.le_refl _, by omega, fun h => absurd h (by omega)⟩)
                   | (subst ho; simp (disch := omega) only [std, wI]; exact pushI (filtN_yes i1 (by rw [hyn]; assumption)))
                   | (subst ho; simp (disch := omega) only [std, wI]; exact congrArg (eK .i64) (filtN_no i1 (by rw [hyn]; assumption)).symm)
                   | ((try clear iha); subst ho; simp (disch := omega) only [std, wI]; exact ⟨by omega, by omega, fun _ => by assumption⟩)
                   | (refine congrArg (D.sl Tok.ro 1) ?_; subst ho; refine congrArg (eK .i64) ?_; first | exact lam_fin i1 i2 i3 (.inl (by omega)) | exact lam_fin i1 i2 i3 (.inr (by assumption)))
                   | assumption
                   | (subst ho; rfl)
                   | (subst ho; simpa [std, len_eFc, len_eNd, len_eBd, len_eAb, len_eLBd, len_eK, len_eB] using hl')
                   | (subst ho; simp [std, len_eFc, len_eNd, len_eBd, len_eAb, len_eLBd, len_eK, len_eB]; omega)
                   | (subst ho; simp (disch := omega) only [std, wI, tdiv2, tdivN, len_eFc, len_eNd, len_eBd, len_eAb, len_eLBd, len_eK, len_eB] <;> first | done | rfl | omega)))))
    | ((fail_if_success (refine Den.id ?_))
       first
         | fail))
theorem impl_LambdasOf_1.ans {xa xb : Option (List D → Option D)} (o : Std) (ho : o = std) (n_f0 : Int) (n_f1 : Int) (n_f2 : Int) (n_f3 : Int) (n_f4 : Int) (n_f5 : ByteArray) (n_f6 : ByteArray) : Ans (env xa xb) 93 [.agg [.int .i64 n_f0, .int .i64 n_f1, .int .i64 n_f2, .int .i64 n_f3, .int .i64 n_f4, .str n_f5, .str n_f6]] (.bool (lamB (⟨n_f0, n_f1, n_f2, n_f3, n_f4, n_f5, n_f6⟩ : Nd))) := by
  refine Ans.mkA ho _ rfl rfl ?_
  repeat' (first
    | (refine Den.id ?_
       (try (conv => arg 2; cbv))
       first
         | refine Den.test1 (by with_reducible assumption) ?_
         | refine Den.test0 (by with_reducible assumption) ?_
         | (refine Den.test (fun hr => ?_) (fun hr => ?_) <;> (have hb := hr) <;> (try simp (disch := omega) only [ho, std, wI, len_eK, len_eB, len_eNd, len_eLNd, len_eFc, len_eAb, len_eBd, len_eEd, len_eLBd, Classical.not_not, decide_eq_true_eq, decide_eq_false_iff_not, beq_iff_eq, beq_eq_false_iff_ne, ne_eq, Bool.not_eq_true', Bool.not_eq_false', Bool.not_eq_true, Bool.not_eq_false, gt_iff_lt, ge_iff_le, Int.not_lt, Int.not_le] at hb) <;> (try (exfalso; first | contradiction | omega | exact hb rfl)))
         | (refine Den.done ⟨by first | exact Or.inl rfl | exact Or.inr rfl, ?_⟩; (conv => lhs; cbv) <;> refine congrArg some ?_))
    | ((fail_if_success (refine Den.id ?_))
       first
         | (subst ho; simp [std, lamB, *]; done)))
theorem impl_nodesOf_l.ans {xa xb : Option (List D → Option D)} (o : Std) (ho : o = std) (l : List Nd) (h0 : Sz l) (h1 : l.length ≤ 1048576) : Ans (env xa xb) 92 [.sl .ro 7 (o.bx fun _ => eNd l), .fn 93 []] (.sl .ro 1 (o.bx fun _ => eK .i64 (lamsM l))) := by
  refine Ans.mkA ho _ rfl rfl ?_
  repeat' (first
    | (refine Den.id ?_
       (try (conv => arg 2; cbv))
       first
         | refine Den.testN1 ho (by first | with_reducible assumption | with_reducible rfl) ?_
         | refine Den.testN0 ho (by first | with_reducible assumption | with_reducible rfl) ?_
         | (refine Den.pcallE (β := Bool) (fun v => .bool v) (as' := [.sl .ro 7 (o.bx fun _ => eNd _)]) (by first | with_reducible rfl | (subst ho; rfl)) (impl_NodesOk.ans o ho _ ?_ ?_) ?_; rotate_left 2; rintro (_ | _) hv <;> (try simp only [decide_eq_true_eq, decide_eq_false_iff_not] at hv) <;> (try first | contradiction | exact absurd (hv.symm.trans (show _ = false by assumption)) (by decide) | exact absurd (hv.symm.trans (show _ = true by assumption)) (by decide)))
         | (refine Den.indF (fun m_ s_ => ∃ (ea5 : Box) (a12 : Int) (a13 : Int) (ta5 : Tok) (tk : List Nat), s_ = ⟨[.junk, .fn 93 [], .junk, .junk, .junk, .sl ta5 1 ea5, .junk, .junk, .junk, .junk, .junk, .sl .ro 7 (o.bx fun _ => eNd l), .int .i64 a12, .int .i64 a13] ++ List.replicate 13 .junk, [], [], tk⟩ ∧ Lv tk ta5 ea5.length ∧ ea5 = (o.bx fun _ => eK .i64 (filtN (fun i => lamB (rN l i)) a13.toNat)) ∧ (a12 = l.length ∧ 0 ≤ a13 ∧ a13 ≤ l.length) ∧ (l.length - a13).toNat ≤ m_) _ _ ⟨_, _, _, _, _, by subst ho; rfl, ?_, ?_, ?_, Nat.le_refl _⟩ ?_
            rotate_right
            rintro m_ _ ⟨ea5, a12, a13, ta5, tk, rfl, hla0, rfl, hIa, hka⟩ iha
            obtain ⟨i0, i1, i2⟩ := hIa; have hfl := filtN_lenI (fun i => lamB (rN l i)) i2; refine Den.unloopA ho ?_
            repeat' (first
              | (refine Den.id ?_
                 (try (conv => arg 2; cbv))
                 first
                   | refine Den.testT ?_
                   | refine Den.testF ?_
                   | (refine Den.test (fun hr => ?_) (fun hr => ?_) <;> (have hb := hr) <;> (try simp (disch := omega) only [ho, std, wI, len_eK, len_eB, len_eNd, len_eLNd, len_eFc, len_eAb, len_eBd, len_eEd, len_eLBd, Classical.not_not, decide_eq_true_eq, decide_eq_false_iff_not, beq_iff_eq, beq_eq_false_iff_ne, ne_eq, Bool.not_eq_true', Bool.not_eq_false', Bool.not_eq_true, Bool.not_eq_false, gt_iff_lt, ge_iff_le, Int.not_lt, Int.not_le] at hb) <;> (try (exfalso; first | contradiction | omega | exact hb rfl)))
                   | (refine Den.pcallE (β := Bool) (fun v => .bool v) (as' := [.agg [.int .i64 _, .int .i64 _, .int .i64 _, .int .i64 _, .int .i64 _, .str _, .str _]]) (by first | with_reducible rfl | (subst ho; rfl)) (impl_LambdasOf_1.ans o ho _ _ _ _ _ _ _) ?_; rotate_left 0; rintro (_ | _) hv <;> (try simp only [decide_eq_true_eq, decide_eq_false_iff_not] at hv) <;> (try first | contradiction | exact absurd (hv.symm.trans (show _ = false by assumption)) (by decide) | exact absurd (hv.symm.trans (show _ = true by assumption)) (by decide)))
                   | (refine Den.fetchXNd ho ?_ ?_ (fun y hy => ?_); rotate_left 2; rcases y with ⟨y0, y1, y2, y3, y4, y5, y6⟩; (first | (have _h := hyn) | (have hyn := hy)))
                   | (refine Den.need ?_ ?_)
                   | (refine Den.app1 ?_ (fun t' tk' hl' => ?_))
                   | (refine iha _ _ ?_ ⟨_, _, _, _, _, by subst ho; rfl, ?_, ?_, ?_, Nat.le_refl _⟩)
                   | (refine Den.done ⟨by first | exact Or.inl rfl | exact Or.inr rfl, ?_⟩; (conv => lhs; cbv) <;> refine congrArg some ?_))
              | ((fail_if_success (refine Den.id ?_))
                 first
                   | (exact Lv.nil)
                   | (subst ho; exact hla0)
                   | (subst ho; exact ⟨by simp [std, len_eNd], Int.le_refl _, by omega⟩)
                   | (subst ho; simp (disch := omega) only [std, wI]; exact pushI (filtN_yes i1 (by rw [hyn]; assumption)))
                   | (subst ho; simp (disch := omega) only [std, wI]; exact congrArg (eK .i64) (filtN_no i1 (by rw [hyn]; assumption)).symm)
                   | ((try clear iha); subst ho; simp (disch := omega) only [std, wI]; exact ⟨i0, by omega, by omega⟩)
                   | (refine congrArg (D.sl Tok.ro 1) ?_; subst ho; refine congrArg (eK .i64) ?_; rw [filtN_all (by omega) i2, lams_yes (by assumption)])
                   | assumption
                   | omega
                   | (subst ho; rfl)
                   | (subst ho; simpa [std, len_eFc, len_eNd, len_eBd, len_eAb, len_eLBd, len_eK, len_eB] using hl')
                   | (subst ho; simp [std, len_eFc, len_eNd, len_eBd, len_eAb, len_eLBd, len_eK, len_eB]; omega)
                   | (subst ho; simp (disch := omega) only [std, wI, tdiv2, tdivN, len_eFc, len_eNd, len_eBd, len_eAb, len_eLBd, len_eK, len_eB] <;> first | done | rfl | omega))))
         | (refine Den.done ⟨by first | exact Or.inl rfl | exact Or.inr rfl, ?_⟩; (conv => lhs; cbv) <;> refine congrArg some ?_))
    | ((fail_if_success (refine Den.id ?_))
       first
         | (subst ho; rw [lams_no (by assumption)]; rfl)
         | assumption))
theorem impl_LambdasOf.ans {xa xb : Option (List D → Option D)} (o : Std) (ho : o = std) (l : List Nd) (h0 : Sz l) (h1 : l.length ≤ 1048576) : Ans (env xa xb) 71 [.sl .ro 7 (o.bx fun _ => eNd l)] (.sl .ro 1 (o.bx fun _ => eK .i64 (lamsM l))) := by
  refine Ans.mkA ho _ rfl rfl ?_
  repeat' (first
    | (refine Den.id ?_
       (try (conv => arg 2; cbv))
       first
         | (refine Den.pcallE (β := List Int) (fun v => .sl .ro 1 (o.bx fun _ => eK .i64 v)) (as' := [.sl .ro 7 (o.bx fun _ => eNd _), .fn 93 []]) (by first | with_reducible rfl | (subst ho; rfl)) (impl_nodesOf_l.ans o ho _ ?_ ?_) ?_; rotate_left 2; rintro v hv)
         | (refine Den.done ⟨by first | exact Or.inl rfl | exact Or.inr rfl, ?_⟩; (conv => lhs; cbv) <;> refine congrArg some ?_))
    | ((fail_if_success (refine Den.id ?_))
       first
         | (rw [hv])
         | assumption))
theorem spec_DeadFuns.ans {xa xb : Option (List D → Option D)} (o : Std) (ho : o = std) (l : List Nd) (dp : Int) (h0 : Sz l) (h1 : l.length ≤ 1048576) : Ans (env xa xb) 39 [.sl .ro 7 (o.bx fun _ => eNd l), .int .i64 dp] (.sl .ro 1 (o.bx fun _ => eK .i64 (dfunsM l dp))) := by
  refine Ans.mkA ho _ rfl rfl ?_
  have hdl := dead_len l dp; have hll := lams_len l
  repeat' (first
    | (refine Den.id ?_
       (try (conv => arg 2; cbv))
       first
         | (refine Den.pcallE (β := List Int) (fun v => .sl .ro 1 (o.bx fun _ => eK .i64 v)) (as' := [.sl .ro 7 (o.bx fun _ => eNd _), .int .i64 _]) (by first | with_reducible rfl | (subst ho; rfl)) (spec_DeadNodes.ans o ho _ _ ?_ ?_) ?_; rotate_left 2; rintro v hv)
         | (refine Den.pcallE (β := List Int) (fun v => .sl .ro 1 (o.bx fun _ => eK .i64 v)) (as' := [.sl .ro 7 (o.bx fun _ => eNd _)]) (by first | with_reducible rfl | (subst ho; rfl)) (spec_LambdasOf.ans o ho _ ?_ ?_) ?_; rotate_left 2; rintro v hv)
         | (refine Den.indF (fun m_ s_ => ∃ (ea5 : Box) (a6 : List Int) (a7 : List Int) (a8 : Int) (ta5 ta6 ta7 : Tok) (tk : List Nat), s_ = ⟨[.sl .ro 7 (o.bx fun _ => eNd l), .junk, .junk, .junk, .junk, .sl ta5 1 ea5, .sl ta6 1 (o.bx fun _ => eK .i64 a6), .sl ta7 1 (o.bx fun _ => eK .i64 a7), .int .i64 a8] ++ List.replicate 30 .junk, [], [], tk⟩ ∧ Lv tk ta5 ea5.length ∧ ea5 = (o.bx fun _ => eK .i64 ((a7.take a8.toNat).filter (dfP l dp))) ∧ (a6 = deadM l dp ∧ a7 = lamsM l ∧ 0 ≤ a8 ∧ a8 ≤ (lamsM l).length) ∧ ((lamsM l).length - a8).toNat ≤ m_) _ _ ⟨_, _, _, _, _, _, _, _, by subst ho; rfl, ?_, ?_, ?_, Nat.le_refl _⟩ ?_
            rotate_right
            rintro m_ _ ⟨ea5, a6, a7, a8, ta5, ta6, ta7, tk, rfl, hla0, rfl, hIa, hka⟩ iha
            obtain ⟨rfl, rfl, i1, i2⟩ := hIa; have hfl := filt_len (dfP l dp) (lamsM l) a8.toNat; refine Den.unloopA ho ?_
            repeat' (first
              | (refine Den.id ?_
                 (try (conv => arg 2; cbv))
                 first
                   | refine Den.testT ?_
                   | refine Den.testF ?_
                   | (refine Den.test (fun hr => ?_) (fun hr => ?_) <;> (have hb := hr) <;> (try simp (disch := omega) only [ho, std, wI, len_eK, len_eB, len_eNd, len_eLNd, len_eFc, len_eAb, len_eBd, len_eEd, len_eLBd, Classical.not_not, decide_eq_true_eq, decide_eq_false_iff_not, beq_iff_eq, beq_eq_false_iff_ne, ne_eq, Bool.not_eq_true', Bool.not_eq_false', Bool.not_eq_true, Bool.not_eq_false, gt_iff_lt, ge_iff_le, Int.not_lt, Int.not_le] at hb) <;> (try (exfalso; first | contradiction | omega | exact hb rfl)))
                   | (refine Den.pcallE (β := Bool) (fun v => .bool v) (as' := [.sl .ro 1 (o.bx fun _ => eK .i64 _), .int .i64 _]) (by first | with_reducible rfl | (subst ho; rfl)) (spec_l4Has.ans o ho _ _ ?_) ?_; rotate_left 1; rintro (_ | _) hv <;> (try simp only [decide_eq_true_eq, decide_eq_false_iff_not] at hv) <;> (try first | contradiction | exact absurd (hv.symm.trans (show _ = false by assumption)) (by decide) | exact absurd (hv.symm.trans (show _ = true by assumption)) (by decide)))
                   | (refine Den.fetchYK ho ?_ ?_ (by with_reducible assumption) ?_)
                   | (refine Den.fetchXK ho ?_ ?_ (fun y hy => ?_); rotate_left 2; (first | (have _h := hyk) | (have hyk := hy; have hat := dfun_at i1 (by omega) hyk)))
                   | (refine Den.fetchXNd ho ?_ ?_ (fun y hy => ?_); rotate_left 2; rcases y with ⟨y0, y1, y2, y3, y4, y5, y6⟩; (first | (have _h := hyn) | (have hyn := hy)))
                   | (refine Den.need ?_ ?_)
                   | (refine Den.app1 ?_ (fun t' tk' hl' => ?_))
                   | (refine iha _ _ ?_ ⟨_, _, _, _, _, _, _, _, by subst ho; rfl, ?_, ?_, ?_, Nat.le_refl _⟩)
                   | (refine Den.done ⟨by first | exact Or.inl rfl | exact Or.inr rfl, ?_⟩; (conv => lhs; cbv) <;> refine congrArg some ?_))
              | ((fail_if_success (refine Den.id ?_))
                 first
                   | (exact Lv.cap _)
                   | (subst ho; exact hla0)
                   | (subst ho; exact ⟨(by first | (symm; assumption) | rfl), (by first | (symm; assumption) | rfl), Int.le_refl _, by omega⟩)
                   | (exact hat.1)
                   | (exact hat.2)
                   | (subst ho; simp (disch := omega) only [std, wI]; exact pushI (filt_yes i1 (by omega) hyk (dfun_hit hyn (by dsimp only; assumption))))
                   | (subst ho; simp (disch := omega) only [std, wI]; exact congrArg (eK .i64) (filt_no i1 (by omega) hyk (dfun_no hyn (by dsimp only; assumption))).symm)
                   | ((try clear iha); subst ho; simp (disch := omega) only [std, wI]; exact ⟨by trivial, by trivial, by omega, by omega⟩)
                   | (refine congrArg (D.sl Tok.ro 1) ?_; subst ho; exact congrArg (eK .i64) (dfun_all (by omega)))
                   | assumption
                   | omega
                   | (subst ho; rfl)
                   | (subst ho; simpa [std, len_eFc, len_eNd, len_eBd, len_eAb, len_eLBd, len_eK, len_eB] using hl')
                   | (subst ho; simp [std, len_eFc, len_eNd, len_eBd, len_eAb, len_eLBd, len_eK, len_eB]; omega)
                   | (subst ho; simp (disch := omega) only [std, wI, tdiv2, tdivN, len_eFc, len_eNd, len_eBd, len_eAb, len_eLBd, len_eK, len_eB] <;> first | done | rfl | omega)))))
    | ((fail_if_success (refine Den.id ?_))
       first
         | assumption))
theorem impl_DeadFuns.ans {ga gb : List D → Option D} (o : Std) (ho : o = std) (l : List Nd) (dp : Int) (h0 : PassSpec ga) (h1 : FreeSpec gb) (h2 : Sz l) (h3 : l.length ≤ 1048576) : Ans (env (some ga) (some gb)) 40 [.sl .ro 7 (o.bx fun _ => eNd l), .int .i64 dp] (.sl .nw 1 (o.bx fun _ => eK .i64 (dfunsM l dp))) := by
  refine Ans.mkA ho _ rfl rfl ?_
  have hdl := dead_len l dp; have hll := lams_len l
  repeat' (first
    | (refine Den.id ?_
       (try (conv => arg 2; cbv))
       first
         | (refine Den.pcallE (β := List Int) (fun v => .sl .nw 1 (o.bx fun _ => eK .i64 v)) (as' := [.sl .ro 7 (o.bx fun _ => eNd _), .int .i64 _]) (by first | with_reducible rfl | (subst ho; rfl)) (impl_DeadNodes.ans o ho _ _ ?_ ?_ ?_ ?_) ?_; rotate_left 4; rintro v hv)
         | (refine Den.pcallE (β := List Int) (fun v => .sl .ro 1 (o.bx fun _ => eK .i64 v)) (as' := [.sl .ro 7 (o.bx fun _ => eNd _)]) (by first | with_reducible rfl | (subst ho; rfl)) (impl_LambdasOf.ans o ho _ ?_ ?_) ?_; rotate_left 2; rintro v hv)
         | (refine Den.indF (fun m_ s_ => ∃ (a5 : List Int) (ea6 : Box) (a13 : List Int) (a14 : Int) (a15 : Int) (ta5 ta6 ta13 : Tok) (tk : List Nat), s_ = ⟨[.sl .ro 7 (o.bx fun _ => eNd l), .junk, .junk, .junk, .junk, .sl ta5 1 (o.bx fun _ => eK .i64 a5), .sl ta6 1 ea6, .junk, .junk, .junk, .junk, .junk, .junk, .sl ta13 1 (o.bx fun _ => eK .i64 a13), .int .i64 a14, .int .i64 a15] ++ List.replicate 16 .junk, [], [], tk⟩ ∧ Lw tk ta6 ea6.length ∧ ea6 = (o.bx fun _ => eK .i64 ((a13.take a15.toNat).filter (dfP l dp))) ∧ (a5 = deadM l dp ∧ a13 = lamsM l ∧ a14 = (lamsM l).length ∧ 0 ≤ a15 ∧ a15 ≤ (lamsM l).length) ∧ ((lamsM l).length - a15).toNat ≤ m_) _ _ ⟨_, _, _, _, _, _, _, _, _, by subst ho; rfl, ?_, ?_, ?_, Nat.le_refl _⟩ ?_
            rotate_right
            rintro m_ _ ⟨a5, ea6, a13, a14, a15, ta5, ta6, ta13, tk, rfl, hla0, rfl, hIa, hka⟩ iha
            obtain ⟨rfl, rfl, i0, i1, i2⟩ := hIa; have hfl := filt_len (dfP l dp) (lamsM l) a15.toNat; refine Den.unloopA ho ?_
            repeat' (first
              | (refine Den.id ?_
                 (try (conv => arg 2; cbv))
                 first
                   | refine Den.testT ?_
                   | refine Den.testF ?_
                   | (refine Den.test (fun hr => ?_) (fun hr => ?_) <;> (have hb := hr) <;> (try simp (disch := omega) only [ho, std, wI, len_eK, len_eB, len_eNd, len_eLNd, len_eFc, len_eAb, len_eBd, len_eEd, len_eLBd, Classical.not_not, decide_eq_true_eq, decide_eq_false_iff_not, beq_iff_eq, beq_eq_false_iff_ne, ne_eq, Bool.not_eq_true', Bool.not_eq_false', Bool.not_eq_true, Bool.not_eq_false, gt_iff_lt, ge_iff_le, Int.not_lt, Int.not_le] at hb) <;> (try (exfalso; first | contradiction | omega | exact hb rfl)))
                   | (refine Den.pcallE (β := Bool) (fun v => .bool v) (as' := [.sl .ro 1 (o.bx fun _ => eK .i64 _), .int .i64 _]) (by first | with_reducible rfl | (subst ho; rfl)) (impl_hasInt.ans o ho _ _ ?_) ?_; rotate_left 1; rintro (_ | _) hv <;> (try simp only [decide_eq_true_eq, decide_eq_false_iff_not] at hv) <;> (try first | contradiction | exact absurd (hv.symm.trans (show _ = false by assumption)) (by decide) | exact absurd (hv.symm.trans (show _ = true by assumption)) (by decide)))
                   | (refine Den.fetchXK ho ?_ ?_ (fun y hy => ?_); rotate_left 2; (first | (have _h := hyk) | (have hyk := hy; have hat := dfun_at i1 (by omega) hyk)))
                   | (refine Den.fetchXNd ho ?_ ?_ (fun y hy => ?_); rotate_left 2; rcases y with ⟨y0, y1, y2, y3, y4, y5, y6⟩; (first | (have _h := hyn) | (have hyn := hy)))
                   | (refine Den.need ?_ ?_)
                   | (refine Den.app1w ?_ (fun t' tk' hl' => ?_))
                   | (refine iha _ _ ?_ ⟨_, _, _, _, _, _, _, _, _, by subst ho; rfl, ?_, ?_, ?_, Nat.le_refl _⟩)
                   | (refine Den.done ⟨by first | exact Or.inl rfl | exact Or.inr rfl, ?_⟩; (conv => lhs; cbv) <;> refine congrArg some ?_))
              | ((fail_if_success (refine Den.id ?_))
                 first
                   | (exact Lw.nil)
                   | (subst ho; exact hla0)
                   | (subst ho; exact ⟨(by first | (symm; assumption) | rfl), (by first | (symm; assumption) | rfl), by rw [hv]; simp [std, len_eK], Int.le_refl _, by omega⟩)
                   | (exact hat.1)
                   | (exact hat.2)
                   | (subst ho; simp (disch := omega) only [std, wI]; exact pushI (filt_yes i1 (by omega) hyk (dfun_hit hyn (by dsimp only; assumption))))
                   | (subst ho; simp (disch := omega) only [std, wI]; exact congrArg (eK .i64) (filt_no i1 (by omega) hyk (dfun_no hyn (by dsimp only; assumption))).symm)
                   | ((try clear iha); subst ho; simp (disch := omega) only [std, wI]; exact ⟨by trivial, by trivial, i0, by omega, by omega⟩)
                   | (subst ho; rcases Lw.kind hla0 with rfl | ⟨_, rfl⟩ <;> exact congrArg (D.sl Tok.nw 1) (congrArg (eK .i64) (dfun_all (by omega))))
                   | assumption
                   | omega
                   | (subst ho; rfl)
                   | (subst ho; simpa [std, len_eFc, len_eNd, len_eBd, len_eAb, len_eLBd, len_eK, len_eB] using hl')
                   | (subst ho; simp [std, len_eFc, len_eNd, len_eBd, len_eAb, len_eLBd, len_eK, len_eB]; omega)
                   | (subst ho; simp (disch := omega) only [std, wI, tdiv2, tdivN, len_eFc, len_eNd, len_eBd, len_eAb, len_eLBd, len_eK, len_eB] <;> first | done | rfl | omega)))))
    | ((fail_if_success (refine Den.id ?_))
       first
         | assumption))
end Go.Mach
end
section
set_option linter.unusedVariables false
set_option linter.unusedSimpArgs false
namespace Go.Mach
open Go Go.RowKit Go.Proofs
set_option maxRecDepth 100000
set_option maxHeartbeats 4000000
theorem k10_spec {w : World} {lo hi : Nat} {v : Value} {a : List Nd} {dp : Int} (hz : SzL a) (hh : hi ≤ w.heap.size) (hv : Row lo hi w 7 (eNd a) v) : Calls Tryz.prog 39 #[v, .int .i64 dp] w fun e w' => ∃ v', e = .returned v' ∧ Row 0 w'.heap.size w' 1 (eK .i64 (dfunsM a dp)) v' ∧ Stay w w' :=
  row_calls env_okA (spec_DeadFuns.ans (xa := some gPass) (xb := some gFree) std rfl a dp hz.sz (by have := hz.1; omega)) (flt_eK _) rfl (args2 (.row hv hh (flt_eNd a)) .int)
theorem k10_impl {w : World} {lo hi : Nat} {v : Value} {a : List Nd} {dp : Int} (hz : SzL a) (hh : hi ≤ w.heap.size) (hv : Row lo hi w 7 (eNd a) v) : Calls Tryz.prog 40 #[v, .int .i64 dp] w fun e w' => ∃ v', e = .returned v' ∧ Row w.heap.size w'.heap.size w' 1 (eK .i64 (dfunsM a dp)) v' ∧ Unf w' 1 (eK .i64 (dfunsM a dp)) v' ∧ Stay w w' :=
  new_calls env_okA (impl_DeadFuns.ans std rfl a dp pass_spec free_spec hz.sz (by have := hz.1; omega)) (flt_eK _) rfl (args2 (.row hv hh (flt_eNd a)) .int)
theorem law10_calls {W : World} {a : List Nd} {dp : Int} {v : Value} (hB : Bg a) (h0 : Row 0 W.heap.size W 7 (eNd a) v) : Calls Tryz.prog 10 #[v, .int .i64 dp] W fun e w => e = .returned (.bool true) ∧ Below W.heap.size W w := by
  have hn : Tryz.f10.ntmps = 74 := by kernel_rfl
  have e15 : ∀ args w, (callFunc 15 args).run Tryz.prog w = .ok (.enter 15 args) w := enters_of Tryz.func15 (by kernel_rfl) rfl
  have e17 : ∀ args w, (callFunc 17 args).run Tryz.prog w = .ok (.enter 17 args) w := enters_of Tryz.func17 (by kernel_rfl) rfl
  have e19 : ∀ args w, (callFunc 19 args).run Tryz.prog w = .ok (.enter 19 args) w := enters_of Tryz.func19 (by kernel_rfl) rfl
  have e22 : ∀ args w, (callFunc 22 args).run Tryz.prog w = .ok (.enter 22 args) w := enters_of Tryz.func22 (by kernel_rfl) rfl
  have e23 : ∀ args w, (callFunc 23 args).run Tryz.prog w = .ok (.enter 23 args) w := enters_of Tryz.func23 (by kernel_rfl) rfl
  have e24 : ∀ args w, (callFunc 24 args).run Tryz.prog w = .ok (.enter 24 args) w := enters_of Tryz.func24 (by kernel_rfl) rfl
  have e25 : ∀ args w, (callFunc 25 args).run Tryz.prog w = .ok (.enter 25 args) w := enters_of Tryz.func25 (by kernel_rfl) rfl
  have e39 : ∀ args w, (callFunc 39 args).run Tryz.prog w = .ok (.enter 39 args) w := enters_of Tryz.func39 (by kernel_rfl) rfl
  have e40 : ∀ args w, (callFunc 40 args).run Tryz.prog w = .ok (.enter 40 args) w := enters_of Tryz.func40 (by kernel_rfl) rfl
  have t3 := Tryz.underlying3; have t4 := Tryz.underlying4
  go_enter Tryz.func10, hn
  go_wp2_with (go_at_fn 15; refine (k_sz hB h0 (Nat.le_refl _)).mono ?_; rintro e w1 ⟨r, rfl, hsz, s1⟩)
  · go_ret
    exact ⟨rfl, s1.1⟩
  have hz : SzL a := hsz (by omega)
  have hlen : (dfunsM a dp).length ≤ 1048576 := Nat.le_trans (List.length_filter_le _ _) (Nat.le_trans (lams_len a) (by have := hz.1; omega))
  have b1 : Below W.heap.size W w1 := s1.1
  have h1 := h0.stay (Nat.le_refl _) s1
  go_wp2_with (go_at_fn 17; refine (k_to hz h1 b1.size).mono ?_; rintro e w2 ⟨u1, rfl, hu1, _, s2⟩)
  have h2 := h1.stay b1.size s2; have b2 := b1.trans (s2.1.mono b1.size)
  go_wp2_with (go_at_fn 39; refine (k10_spec hz (Nat.le_refl _) hu1).mono ?_; rintro e w3 ⟨u2, rfl, hw3, s3⟩)
  have h3 := h2.stay b2.size s3; have b3 := b2.trans (s3.1.mono b2.size)
  go_wp2_with (go_at_fn 17; refine (k_to hz h3 b3.size).mono ?_; rintro e w4 ⟨u3, rfl, hx4, ux4, s4⟩)
  have q4 := s4.1.size; have h4 := h3.stay b3.size s4; have b4 := b3.trans (s4.1.mono b3.size); have hw4 := hw3.stay (Nat.le_refl _) s4
  go_wp2_with (go_at_fn 40; refine (k10_impl hz (Nat.le_refl _) hx4).mono ?_; rintro e w5 ⟨u4, rfl, hg5, ug5, s5⟩)
  have q5 := s5.1.size; have h5 := h4.stay b4.size s5; have b5 := b4.trans (s5.1.mono b4.size); have hw5 := hw4.stay q4 s5; have hx5 := hx4.stay (Nat.le_refl _) s5; have ux5 := ux4.stay hx4 (Nat.le_refl _) s5
  go_wp2_with (go_at_fn 22; refine (k_eqI hlen hg5 (Nat.le_refl _) hw5 (by omega)).mono ?_; rintro e w6 ⟨rfl, s6⟩)
  have q6 := s6.1.size; have h6 := h5.stay b5.size s6; have b6 := b5.trans (s6.1.mono b5.size); have hw6 := hw5.stay (by omega) s6; have hx6 := hx5.stay q5 s6; have ux6 := ux5.stay hx5 q5 s6; have hg6 := hg5.stay (Nat.le_refl _) s6; have ug6 := ug5.stay hg5 (Nat.le_refl _) s6
  go_wp2_with (go_at_fn 17; refine (k_to hz h6 b6.size).mono ?_; rintro e w7 ⟨u5, rfl, hy7, _, s7⟩)
  have q7 := s7.1.size; have h7 := h6.stay b6.size s7; have b7 := b6.trans (s7.1.mono b6.size); have hw7 := hw6.stay (by omega) s7; have hx7 := hx6.stay (by omega) s7; have ux7 := ux6.stay hx6 (by omega) s7; have hg7 := hg6.stay (by omega) s7; have ug7 := ug6.stay hg6 (by omega) s7
  go_wp2_with (go_at_fn 19; refine (k_eqN hz hx7 (by omega) hy7 (Nat.le_refl _)).mono ?_; rintro e w8 ⟨rfl, s8⟩)
  have q8 := s8.1.size; have h8 := h7.stay b7.size s8; have b8 := b7.trans (s8.1.mono b7.size); have hw8 := hw7.stay (by omega) s8; have hx8 := hx7.stay (by omega) s8; have ux8 := ux7.stay hx7 (by omega) s8; have hg8 := hg7.stay (by omega) s8; have ug8 := ug7.stay hg7 (by omega) s8
  have b3s := b3.size; have b8s := b8.size
  go_wp2_with (go_at_fn 23; refine (k_markN hz hx8 ux8 (by omega)).mono ?_; rintro e w9 ⟨k1, rfl, hk1, m9⟩)
  have q9 := m9.2.2.2.1; have h9 := h8.mark b8s m9 (.inl b3s); have b9 := b8.trans (m9.below b3s b8s); have hw9 := hw8.mark (by omega) m9 (.inl (Nat.le_refl _)); have hg9 := hg8.mark (by omega) m9 (.inr (Nat.le_refl _)); have ug9 := ug8.mark hg8 (by omega) m9 (.inr (Nat.le_refl _))
  have hk1n : ¬ k1 < 0 := by omega
  have hk1d : decide (k1 < 0) = false := decide_eq_false hk1n
  go_wp2_with (go_at_fn 22; refine (k_eqI hlen hg9 (by omega) hw9 (by omega)).mono ?_; rintro e w10 ⟨rfl, s10⟩)
  have q10 := s10.1.size; have h10 := h9.stay b9.size s10; have b10 := b9.trans (s10.1.mono b9.size); have hw10 := hw9.stay (by omega) s10; have hg10 := hg9.stay (by omega) s10; have ug10 := ug9.stay hg9 (by omega) s10; have b10s := b10.size
  go_wp2_with (go_at_fn 24; refine (k_markI hlen hg10 ug10 (by omega)).mono ?_; rintro e w11 ⟨k2, rfl, hk2, hg11, m11⟩)
  have q11 := m11.2.2.2.1; have h11 := h10.mark b10s m11 (.inl (by omega)); have b11 := b10.trans (m11.below (by omega) b10s); have hw11 := hw10.mark (by omega) m11 (.inl (by omega))
  have hk2n : ¬ k2 < 0 := by omega
  have hk2d : decide (k2 < 0) = false := decide_eq_false hk2n
  go_wp2_with (go_at_fn 25; refine (k_heldI hlen hg11 (by omega)).mono ?_; rintro e w12 ⟨k3, rfl, hk3, s12⟩)
  obtain rfl : k3 = k2 := hk3.trans hk2.symm
  have q12 := s12.1.size; have h12 := h11.stay b11.size s12; have b12 := b11.trans (s12.1.mono b11.size); have hw12 := hw11.stay (by omega) s12; have hg12 := hg11.stay (by omega) s12
  go_wp2_with (go_at_fn 17; refine (k_to hz h12 b12.size).mono ?_; rintro e w13 ⟨u6, rfl, hu13, _, s13⟩)
  have q13 := s13.1.size; have b13 := b12.trans (s13.1.mono b12.size); have hw13 := hw12.stay (by omega) s13; have hg13 := hg12.stay (by omega) s13
  go_wp2_with (go_at_fn 40; refine (k10_impl hz (Nat.le_refl _) hu13).mono ?_; rintro e w14 ⟨u7, rfl, hh14, _, s14⟩)
  have q14 := s14.1.size; have b14 := b13.trans (s14.1.mono b13.size); have hw14 := hw13.stay (by omega) s14; have hg14 := hg13.stay (by omega) s14
  go_wp2_with (go_at_fn 22; refine (k_eqI hlen hh14 (Nat.le_refl _) hw14 (by omega)).mono ?_; rintro e w15 ⟨rfl, s15⟩)
  have q15 := s15.1.size; have b15 := b14.trans (s15.1.mono b14.size); have hg15 := hg14.stay (by omega) s15
  go_wp2_with (go_at_fn 25; refine (k_heldI hlen hg15 (by omega)).mono ?_; rintro e w16 ⟨k4, rfl, hk4, s16⟩)
  obtain rfl : k4 = k3 := hk4.trans hk2.symm
  have b16 := b15.trans (s16.1.mono b15.size)
  go_ret
  exact ⟨rfl, b16⟩
end Go.Mach
end
