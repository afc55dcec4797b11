/- What the statements over Solve share: part 18 of a proof by an executable machine over the program's code. -/
import Derived.Test.YtbkpkchegopmiaaGreatDoorMb13
import Derived.Test.YtbkpkchegopmiaaGreatDoorMb15
section
set_option linter.unusedVariables false
set_option linter.unusedSimpArgs false
namespace Go.Mach
open Go Go.RowKit Go.Proofs
set_option maxRecDepth 100000
set_option maxHeartbeats 2000000
theorem cmp_isNaN_int.ans {xa xb : Option (List D → Option D)} (o : Std) (ho : o = std) (x : Int) : Ans (env xa xb) 196 [.int .i64 x] (.bool (false)) := by
  refine Ans.mkA ho _ rfl rfl ?_
  repeat' (first
    | (refine Den.id ?_
       (try (conv => arg 2; cbv))
       first
         | (refine Den.done ⟨by first | exact Or.inl rfl | exact Or.inr rfl, ?_⟩; (conv => lhs; cbv); refine congrArg some ?_))
    | ((fail_if_success (refine Den.id ?_))
       first
         | (subst ho; simp [std]; done)))
theorem cmp_Compare_int.ans {xa xb : Option (List D → Option D)} (o : Std) (ho : o = std) (x : Int) (y : Int) : Ans (env xa xb) 173 [.int .i64 x, .int .i64 y] (.int .i64 (cmpI x y)) := by
  refine Ans.mkA ho _ rfl rfl ?_
  repeat' (first
    | (refine Den.id ?_
       (try (conv => arg 2; cbv))
       first
         | refine Den.testF ?_
         | (refine Den.test (fun hr => ?_) (fun hr => ?_) <;> (have hb := hr) <;> (try simp (disch := omega) only [ho, std, wI, len_eK, len_eB, len_eNd, len_eLNd, len_eFc, len_eAb, len_eBd, len_eEd, len_eLBd, Classical.not_not, decide_eq_true_eq, decide_eq_false_iff_not, beq_iff_eq, beq_eq_false_iff_ne, ne_eq, Bool.not_eq_true', Bool.not_eq_false', gt_iff_lt, ge_iff_le, Int.not_lt, Int.not_le] at hb) <;> (try (exfalso; first | contradiction | omega | exact hb rfl)))
         | (refine Den.pcallE (β := Bool) (fun v => .bool v) (as' := [.int .i64 _]) (by first | with_reducible rfl | (subst ho; rfl)) (cmp_isNaN_int.ans o ho _) ?_; rotate_left 0; rintro (_ | _) hv <;> (try simp only [decide_eq_true_eq, decide_eq_false_iff_not] at hv) <;> (try first | contradiction | exact absurd (hv.symm.trans (show _ = false by assumption)) (by decide) | exact absurd (hv.symm.trans (show _ = true by assumption)) (by decide)))
         | (refine Den.done ⟨by first | exact Or.inl rfl | exact Or.inr rfl, ?_⟩; (conv => lhs; cbv); refine congrArg some ?_))
    | ((fail_if_success (refine Den.id ?_))
       first
         | (refine dI ?_; unfold cmpI; simp [*]; done)
         | (refine dI ?_; unfold cmpI; rw [if_neg (by omega), if_neg (by omega)])))
theorem cmp_Or_int.ans {xa xb : Option (List D → Option D)} (o : Std) (ho : o = std) (l : List Int) (h0 : l.length ≤ 100) : Ans (env xa xb) 172 [.sl .ro 1 (o.bx fun _ => eK .i64 l)] (.int .i64 (orI l)) := by
  refine Ans.mkA ho _ rfl rfl ?_
  repeat' (first
    | (refine Den.id ?_
       (try (conv => arg 2; cbv))
       first
         | (refine Den.indF (fun m_ s_ => ∃ (a7 : Int) (a8 : Int) (tk : List Nat), s_ = ⟨[.junk, .junk, .junk, .int .i64 0, .junk, .junk, .sl .ro 1 (o.bx fun _ => eK .i64 l), .int .i64 a7, .int .i64 a8] ++ List.replicate 9 .junk, [], [], tk⟩ ∧ (a7 = l.length ∧ 0 ≤ a8 ∧ a8 ≤ l.length ∧ orI (l.take a8.toNat) = 0) ∧ (l.length - a8).toNat ≤ m_) _ _ ⟨_, _, _, by subst ho; rfl, ?_, Nat.le_refl _⟩ ?_
            rotate_right
            rintro m_ _ ⟨a7, a8, tk, rfl, hIa, hka⟩ iha
            obtain ⟨i1, i2, i3, i4⟩ := hIa; refine Den.unloopA ho ?_
            repeat' (first
              | (refine Den.id ?_
                 (try (conv => arg 2; cbv))
                 first
                   | (refine Den.test (fun hr => ?_) (fun hr => ?_) <;> (have hb := hr) <;> (try simp (disch := omega) only [ho, std, wI, len_eK, len_eB, len_eNd, len_eLNd, len_eFc, len_eAb, len_eBd, len_eEd, len_eLBd, Classical.not_not, decide_eq_true_eq, decide_eq_false_iff_not, beq_iff_eq, beq_eq_false_iff_ne, ne_eq, Bool.not_eq_true', Bool.not_eq_false', gt_iff_lt, ge_iff_le, Int.not_lt, Int.not_le] at hb) <;> (try (exfalso; first | contradiction | omega | exact hb rfl)))
                   | (refine Den.fetchXK ho ?_ ?_ (fun y hy => ?_); rotate_left 2)
                   | (refine iha _ _ ?_ ⟨_, _, _, by subst ho; rfl, ?_, Nat.le_refl _⟩)
                   | (refine Den.done ⟨by first | exact Or.inl rfl | exact Or.inr rfl, ?_⟩; (conv => lhs; cbv); refine congrArg some ?_))
              | ((fail_if_success (refine Den.id ?_))
                 first
                   | (subst ho; refine dI ?_; rw [← take_allG (l := l) (i := a8) (by omega), i4])
                   | (refine dI ?_; exact (orI_hit i2 (by omega) i4 hy hb).symm)
                   | (subst ho; exact ⟨by simp [std, len_eK], Int.le_refl _, by omega, rfl⟩)
                   | (subst ho; simp (disch := omega) only [std, wI]; exact ⟨i1, by omega, by omega, orI_skip i2 (by omega) i4 hy hb⟩)
                   | assumption
                   | omega
                   | (subst ho; simp (disch := omega) only [std, wI, tdiv2, tdivN, len_eFc, len_eNd, len_eBd, len_eAb, len_eLBd, len_eK, len_eB] <;> first | done | rfl | omega)))))
    | ((fail_if_success (refine Den.id ?_))
       first
         | fail))
theorem impl_order.ans {xa xb : Option (List D → Option D)} (o : Std) (ho : o = std) (a_k : Int) (a_n : Int) (a_c : Int) (a_v_k : Int) (a_v_n : Int) (a_v_c : Int) (b_k : Int) (b_n : Int) (b_c : Int) (b_v_k : Int) (b_v_n : Int) (b_v_c : Int) : Ans (env xa xb) 130 [.agg [.int .i64 a_k, .int .i64 a_n, .int .i64 a_c, .int .i64 a_v_k, .int .i64 a_v_n, .int .i64 a_v_c], .agg [.int .i64 b_k, .int .i64 b_n, .int .i64 b_c, .int .i64 b_v_k, .int .i64 b_v_n, .int .i64 b_v_c]] (.int .i64 (ordF (⟨a_k, a_n, a_c, ⟨a_v_k, a_v_n, a_v_c⟩⟩ : Fc) (⟨b_k, b_n, b_c, ⟨b_v_k, b_v_n, b_v_c⟩⟩ : Fc))) := by
  refine Ans.mkA ho _ rfl rfl ?_
  repeat' (first
    | (refine Den.id ?_
       (try (conv => arg 2; cbv))
       first
         | (refine Den.pcallE (β := Int) (fun v => .int .i64 v) (as' := [.sl .ro 1 (o.bx fun _ => eK .i64 [_, _, _, _, _, _])]) (by subst ho; rfl) (cmp_Or_int.ans o ho _ (by simp)) ?_; rintro v hv)
         | (refine Den.pcallE (β := Int) (fun v => .int .i64 v) (as' := [.int .i64 _, .int .i64 _]) (by first | with_reducible rfl | (subst ho; rfl)) (cmp_Compare_int.ans o ho _ _) ?_; rotate_left 0; rintro v hv)
         | (refine Den.needD ho (by kernel_rfl) ?_)
         | (refine Den.done ⟨by first | exact Or.inl rfl | exact Or.inr rfl, ?_⟩; (conv => lhs; cbv); refine congrArg some ?_))
    | ((fail_if_success (refine Den.id ?_))
       first
         | (refine dI ?_; subst_vars; rfl)))
theorem impl_FactLess.ans {xa xb : Option (List D → Option D)} (o : Std) (ho : o = std) (a_k : Int) (a_n : Int) (a_c : Int) (a_v_k : Int) (a_v_n : Int) (a_v_c : Int) (b_k : Int) (b_n : Int) (b_c : Int) (b_v_k : Int) (b_v_n : Int) (b_v_c : Int) : Ans (env xa xb) 106 [.agg [.int .i64 a_k, .int .i64 a_n, .int .i64 a_c, .int .i64 a_v_k, .int .i64 a_v_n, .int .i64 a_v_c], .agg [.int .i64 b_k, .int .i64 b_n, .int .i64 b_c, .int .i64 b_v_k, .int .i64 b_v_n, .int .i64 b_v_c]] (.bool (ltB (⟨a_k, a_n, a_c, ⟨a_v_k, a_v_n, a_v_c⟩⟩ : Fc) (⟨b_k, b_n, b_c, ⟨b_v_k, b_v_n, b_v_c⟩⟩ : Fc))) := by
  refine Ans.mkA ho _ rfl rfl ?_
  repeat' (first
    | (refine Den.id ?_
       (try (conv => arg 2; cbv))
       first
         | (refine Den.pcallE (β := Int) (fun v => .int .i64 v) (as' := [.agg [.int .i64 _, .int .i64 _, .int .i64 _, .int .i64 _, .int .i64 _, .int .i64 _], .agg [.int .i64 _, .int .i64 _, .int .i64 _, .int .i64 _, .int .i64 _, .int .i64 _]]) (by first | with_reducible rfl | (subst ho; rfl)) (impl_order.ans o ho _ _ _ _ _ _ _ _ _ _ _ _) ?_; rotate_left 0; rintro v hv)
         | (refine Den.done ⟨by first | exact Or.inl rfl | exact Or.inr rfl, ?_⟩; (conv => lhs; cbv); refine congrArg some ?_))
    | ((fail_if_success (refine Den.id ?_))
       first
         | (subst ho; refine dBi ?_; rw [← hv]; exact ordF_lt _ _)))
theorem impl_in.ans {xa xb : Option (List D → Option D)} (o : Std) (ho : o = std) (a : Int) (b : Int) (c : Int) : Ans (env xa xb) 102 [.int .i64 a, .int .i64 b, .int .i64 c] (.bool (decide (b ≤ a ∧ a ≤ c))) := by
  refine Ans.mkA ho _ rfl rfl ?_
  repeat' (first
    | (refine Den.id ?_
       (try (conv => arg 2; cbv))
       first
         | refine Den.test1 (by with_reducible assumption) ?_
         | refine Den.test0 (by with_reducible assumption) ?_
         | (refine Den.test (fun hr => ?_) (fun hr => ?_) <;> (have hb := hr) <;> (try simp (disch := omega) only [ho, std, wI, len_eK, len_eB, len_eNd, len_eLNd, len_eFc, len_eAb, len_eBd, len_eEd, len_eLBd, Classical.not_not, decide_eq_true_eq, decide_eq_false_iff_not, beq_iff_eq, beq_eq_false_iff_ne, ne_eq, Bool.not_eq_true', Bool.not_eq_false', gt_iff_lt, ge_iff_le, Int.not_lt, Int.not_le] at hb) <;> (try (exfalso; first | contradiction | omega | exact hb rfl)))
         | (refine Den.done ⟨by first | exact Or.inl rfl | exact Or.inr rfl, ?_⟩; (conv => lhs; cbv); refine congrArg some ?_))
    | ((fail_if_success (refine Den.id ?_))
       first
         | (subst ho; first | exact dBi (by omega) | exact dB (decide_eq_false (by omega)).symm)))
theorem impl_CtxPush.ans {xa xb : Option (List D → Option D)} (o : Std) (ho : o = std) (ctx : Int) (site : Int) (depth : Int) : Ans (env xa xb) 229 [.int .i64 ctx, .int .i64 site, .int .i64 depth] (.int .i64 (ctxPush ctx site depth)) := by
  refine Ans.mkA ho _ rfl rfl ?_
  repeat' (first
    | (refine Den.id ?_
       (try (conv => arg 2; cbv))
       first
         | refine Den.testT ?_
         | refine Den.test1 (by with_reducible assumption) ?_
         | refine Den.test0 (by with_reducible assumption) ?_
         | (refine Den.test (fun hr => ?_) (fun hr => ?_) <;> (have hb := hr) <;> (try simp (disch := omega) only [ho, std, wI, len_eK, len_eB, len_eNd, len_eLNd, len_eFc, len_eAb, len_eBd, len_eEd, len_eLBd, Classical.not_not, decide_eq_true_eq, decide_eq_false_iff_not, beq_iff_eq, beq_eq_false_iff_ne, ne_eq, Bool.not_eq_true', Bool.not_eq_false', gt_iff_lt, ge_iff_le, Int.not_lt, Int.not_le] at hb) <;> (try (exfalso; first | contradiction | omega | exact hb rfl)))
         | (refine Den.pcallE (β := Bool) (fun v => .bool v) (as' := [.int .i64 _, .int .i64 _, .int .i64 _]) (by first | with_reducible rfl | (subst ho; rfl)) (impl_in.ans o ho _ _ _) ?_; rotate_left 0; rintro (_ | _) hv <;> (try simp only [decide_eq_true_eq, decide_eq_false_iff_not] at hv) <;> (try first | contradiction | exact absurd (hv.symm.trans (show _ = false by assumption)) (by decide) | exact absurd (hv.symm.trans (show _ = true by assumption)) (by decide)))
         | (refine Den.need ?_ ?_)
         | (refine Den.done ⟨by first | exact Or.inl rfl | exact Or.inr rfl, ?_⟩; (conv => lhs; cbv); refine congrArg some ?_))
    | ((fail_if_success (refine Den.id ?_))
       first
         | (subst ho; refine dI ?_; simp only [ctxPush]; (repeat' split) <;> first | omega | (simp (disch := omega) only [std, wI, tdivN] <;> omega))
         | (subst ho; rfl)))
theorem impl_isFun.ans {xa xb : Option (List D → Option D)} (o : Std) (ho : o = std) (l : List Nd) (i : Int) (h0 : 0 ≤ i ∧ i < l.length) : Ans (env xa xb) 129 [.sl .ro 7 (o.bx fun _ => eNd l), .int .i64 i] (.bool (lamB (rN l i))) := by
  refine Ans.mkA ho _ rfl rfl ?_
  repeat' (first
    | (refine Den.id ?_
       (try (conv => arg 2; cbv))
       first
         | refine Den.test1 (by with_reducible assumption) ?_
         | refine Den.test0 (by with_reducible assumption) ?_
         | (refine Den.test (fun hr => ?_) (fun hr => ?_) <;> (have hb := hr) <;> (try simp (disch := omega) only [ho, std, wI, len_eK, len_eB, len_eNd, len_eLNd, len_eFc, len_eAb, len_eBd, len_eEd, len_eLBd, Classical.not_not, decide_eq_true_eq, decide_eq_false_iff_not, beq_iff_eq, beq_eq_false_iff_ne, ne_eq, Bool.not_eq_true', Bool.not_eq_false', gt_iff_lt, ge_iff_le, Int.not_lt, Int.not_le] at hb) <;> (try (exfalso; first | contradiction | omega | exact hb rfl)))
         | (refine Den.fetchYNd ho ?_ ?_ (by with_reducible assumption) ?_)
         | (refine Den.fetchXNd ho ?_ ?_ (fun y hy => ?_); rotate_left 2; rcases y with ⟨y0, y1, y2, y3, y4, y5, y6⟩)
         | (refine Den.done ⟨by first | exact Or.inl rfl | exact Or.inr rfl, ?_⟩; (conv => lhs; cbv); refine congrArg some ?_))
    | ((fail_if_success (refine Den.id ?_))
       first
         | (subst ho; rw [hy]; simp [std, lamB, *]; done)
         | omega))
theorem impl_nameAt.ans {xa xb : Option (List D → Option D)} (o : Std) (ho : o = std) (b_f0 : Int) (b_f1 : Int) (c : Int) : Ans (env xa xb) 184 [.agg [.int .i64 b_f0, .int .i64 b_f1], .int .i64 c] (.agg ([.int .i64 (nameAt (⟨b_f0, b_f1⟩ : Bd) c).k, .int .i64 (nameAt (⟨b_f0, b_f1⟩ : Bd) c).n, .int .i64 (nameAt (⟨b_f0, b_f1⟩ : Bd) c).c])) := by
  refine Ans.mkA ho _ rfl rfl ?_
  repeat' (first
    | (refine Den.id ?_
       (try (conv => arg 2; cbv))
       first
         | (refine Den.test (fun hr => ?_) (fun hr => ?_) <;> (have hb := hr) <;> (try simp (disch := omega) only [ho, std, wI, len_eK, len_eB, len_eNd, len_eLNd, len_eFc, len_eAb, len_eBd, len_eEd, len_eLBd, Classical.not_not, decide_eq_true_eq, decide_eq_false_iff_not, beq_iff_eq, beq_eq_false_iff_ne, ne_eq, Bool.not_eq_true', Bool.not_eq_false', gt_iff_lt, ge_iff_le, Int.not_lt, Int.not_le] at hb) <;> (try (exfalso; first | contradiction | omega | exact hb rfl)))
         | (refine Den.done ⟨by first | exact Or.inl rfl | exact Or.inr rfl, ?_⟩; (conv => lhs; cbv); refine congrArg some ?_))
    | ((fail_if_success (refine Den.id ?_))
       first
         | (unfold nameAt; simp [*]; done)))
theorem impl_given.ans {xa xb : Option (List D → Option D)} (o : Std) (ho : o = std) (l : List Nd) (f : Int) (h0 : 0 ≤ f ∧ f < l.length) : Ans (env xa xb) 230 [.sl .ro 7 (o.bx fun _ => eNd l), .int .i64 f] (.agg ([.int .i64 (givenM l f).f0, .int .i64 (givenM l f).f1])) := by
  refine Ans.mkA ho _ rfl rfl ?_
  repeat' (first
    | (refine Den.id ?_
       (try (conv => arg 2; cbv))
       first
         | (refine Den.test (fun hr => ?_) (fun hr => ?_) <;> (have hb := hr) <;> (try simp (disch := omega) only [ho, std, wI, len_eK, len_eB, len_eNd, len_eLNd, len_eFc, len_eAb, len_eBd, len_eEd, len_eLBd, Classical.not_not, decide_eq_true_eq, decide_eq_false_iff_not, beq_iff_eq, beq_eq_false_iff_ne, ne_eq, Bool.not_eq_true', Bool.not_eq_false', gt_iff_lt, ge_iff_le, Int.not_lt, Int.not_le] at hb) <;> (try (exfalso; first | contradiction | omega | exact hb rfl)))
         | (refine Den.fetchXNd ho ?_ ?_ (fun y hy => ?_); rotate_left 2; rcases y with ⟨y0, y1, y2, y3, y4, y5, y6⟩)
         | (refine Den.done ⟨by first | exact Or.inl rfl | exact Or.inr rfl, ?_⟩; (conv => lhs; cbv); refine congrArg some ?_))
    | ((fail_if_success (refine Den.id ?_))
       first
         | (unfold givenM; rw [hy]; simp [*]; done)
         | omega))
theorem impl_Arity.ans {xa xb : Option (List D → Option D)} (o : Std) (ho : o = std) (k : Int) : Ans (env xa xb) 152 [.int .i64 k] (.int .i64 (((arityM k : Nat) : Int))) := by
  refine Ans.mkA ho _ rfl rfl ?_
  repeat' (first
    | (refine Den.id ?_
       (try (conv => arg 2; cbv))
       first
         | refine Den.test1 (by with_reducible assumption) ?_
         | (refine Den.test (fun hr => ?_) (fun hr => ?_) <;> (have hb := hr) <;> (try simp (disch := omega) only [ho, std, wI, len_eK, len_eB, len_eNd, len_eLNd, len_eFc, len_eAb, len_eBd, len_eEd, len_eLBd, Classical.not_not, decide_eq_true_eq, decide_eq_false_iff_not, beq_iff_eq, beq_eq_false_iff_ne, ne_eq, Bool.not_eq_true', Bool.not_eq_false', gt_iff_lt, ge_iff_le, Int.not_lt, Int.not_le] at hb) <;> (try (exfalso; first | contradiction | omega | exact hb rfl)))
         | (refine Den.done ⟨by first | exact Or.inl rfl | exact Or.inr rfl, ?_⟩; (conv => lhs; cbv); refine congrArg some ?_))
    | ((fail_if_success (refine Den.id ?_))
       first
         | (subst ho; refine dI ?_; simp [arityM, *]; done)))
theorem impl_flower_add.gns {xa xb : Option (List D → Option D)} (o : Std) (ho : o = std) (l : List Nd) (us : List Bd) (dp : Int) (fs m : List Fc) (t : Tok) (tk : List Nat) (hl : Lw tk t (o.bx fun _ => eFc m).length) (a_k : Int) (a_n : Int) (a_c : Int) (v_k : Int) (v_n : Int) (v_c : Int) (h0 : m.length + 1 ≤ 2900000000000) : Gns (env xa xb) 185 [.pbx (.out 0) 0, .agg [.int .i64 a_k, .int .i64 a_n, .int .i64 a_c], .agg [.int .i64 v_k, .int .i64 v_n, .int .i64 v_c]] [[cells5 (o.bx fun _ => eNd l) (o.bx fun _ => eBd us) dp (o.bx fun _ => eFc fs) t (o.bx fun _ => eFc m)]] tk (FR o l us dp fs (m ++ ([⟨a_k, a_n, a_c, ⟨v_k, v_n, v_c⟩⟩])) (.tup [])) := by
  refine Gns.mkA (E := env xa xb) (f := 185) ho _ (by rfl) (by rfl) ?_
  repeat' (first
    | (refine Den.id ?_
       (try (conv => arg 2; cbv))
       first
         | (refine Den.needD ho (by kernel_rfl) ?_)
         | (refine Den.need ?_ ?_)
         | (refine Den.app1w ?_ (fun t' tk' hl' => ?_))
         | (refine Den.done ⟨by first | exact Or.inl rfl | exact Or.inr rfl, ?_⟩; refine ⟨_, by (conv => lhs; cbv) <;> rfl, ?_, _, _, by rfl, ?_, ?_⟩; first | (focus ((conv => lhs; cbv); done)) | ((conv => lhs; cbv); refine congrArg some ?_)))
    | ((fail_if_success (refine Den.id ?_))
       first
         | (subst ho; exact hl)
         | (subst ho; exact (push_eFc (x := ⟨a_k, a_n, a_c, ⟨v_k, v_n, v_c⟩⟩) rfl))
         | (subst ho; simpa [std, len_eFc] using hl')
         | (subst ho; simp [std, len_eFc, len_eNd, len_eBd, len_eAb, len_eLBd, len_eK, len_eB]; omega)))
end Go.Mach
end
section
set_option linter.unusedVariables false
set_option linter.unusedSimpArgs false
namespace Go.Mach
open Go Go.RowKit Go.Proofs
set_option maxRecDepth 100000
set_option maxHeartbeats 1000000
theorem impl_namesOf.ans {xa xb : Option (List D → Option D)} (o : Std) (ho : o = std) (k : Int) : Ans (env xa xb) 151 [.int .i64 k] (.int .i64 (((namesM k : Nat) : Int))) := by
  refine Ans.mkA ho _ rfl rfl ?_
  repeat' (first
    | (refine Den.id ?_
       (try (conv => arg 2; cbv))
       first
         | refine Den.test1 (by with_reducible assumption) ?_
         | (refine Den.test (fun hr => ?_) (fun hr => ?_) <;> (have hb := hr) <;> (try simp (disch := omega) only [ho, std, wI, len_eK, len_eB, len_eNd, len_eLNd, len_eFc, len_eAb, len_eBd, len_eEd, len_eLBd, Classical.not_not, decide_eq_true_eq, decide_eq_false_iff_not, beq_iff_eq, beq_eq_false_iff_ne, ne_eq, Bool.not_eq_true', Bool.not_eq_false', gt_iff_lt, ge_iff_le, Int.not_lt, Int.not_le] at hb) <;> (try (exfalso; first | contradiction | omega | exact hb rfl)))
         | (refine Den.done ⟨by first | exact Or.inl rfl | exact Or.inr rfl, ?_⟩; (conv => lhs; cbv); refine congrArg some ?_))
    | ((fail_if_success (refine Den.id ?_))
       first
         | (subst ho; refine dI ?_; simp [namesM, *]; done)))
theorem impl_IsWord.ans {xa xb : Option (List D → Option D)} (o : Std) (ho : o = std) (s : ByteArray) (h0 : s.size ≤ 1048576) : Ans (env xa xb) 214 [.str s] (.bool (wordB s)) := by
  refine Ans.mkA ho _ rfl rfl ?_
  repeat' (first
    | (refine Den.id ?_
       (try (conv => arg 2; cbv))
       first
         | (refine Den.indF (fun m_ s_ => ∃ (a3 : Int) (tk : List Nat), s_ = ⟨[.str s, .junk, .junk, .int .i64 a3] ++ List.replicate 19 .junk, [], [], tk⟩ ∧ (0 ≤ a3 ∧ a3 ≤ s.size ∧ (∀ i : Nat, (i : Int) < a3 → 97 ≤ std.byte s i ∧ std.byte s i ≤ 122)) ∧ (s.size - a3).toNat ≤ m_) _ _ ⟨_, _, by subst ho; rfl, ?_, Nat.le_refl _⟩ ?_
            rotate_right
            rintro m_ _ ⟨a3, tk, rfl, hIa, hka⟩ iha
            obtain ⟨i1, i2, i3⟩ := hIa; refine Den.unloopA ho ?_
            repeat' (first
              | (refine Den.id ?_
                 (try (conv => arg 2; cbv))
                 first
                   | refine Den.testT ?_
                   | refine Den.test1 (by with_reducible assumption) ?_
                   | refine Den.test0 (by with_reducible assumption) ?_
                   | (refine Den.test (fun hr => ?_) (fun hr => ?_) <;> (have hb := hr) <;> (try simp (disch := omega) only [ho, std, wI, len_eK, len_eB, len_eNd, len_eLNd, len_eFc, len_eAb, len_eBd, len_eEd, len_eLBd, Classical.not_not, decide_eq_true_eq, decide_eq_false_iff_not, beq_iff_eq, beq_eq_false_iff_ne, ne_eq, Bool.not_eq_true', Bool.not_eq_false', gt_iff_lt, ge_iff_le, Int.not_lt, Int.not_le] at hb) <;> (try (exfalso; first | contradiction | omega | exact hb rfl)))
                   | (refine Den.pcallE (β := Bool) (fun v => .bool v) (as' := [.int .i64 _, .int .i64 _, .int .i64 _]) (by first | with_reducible rfl | (subst ho; rfl)) (impl_in.ans o ho _ _ _) ?_; rotate_left 0; rintro (_ | _) hv <;> (try simp only [decide_eq_true_eq, decide_eq_false_iff_not] at hv) <;> (try first | contradiction | exact absurd (hv.symm.trans (show _ = false by assumption)) (by decide) | exact absurd (hv.symm.trans (show _ = true by assumption)) (by decide)))
                   | (refine Den.need ?_ ?_)
                   | (refine iha _ _ ?_ ⟨_, _, by subst ho; rfl, ?_, Nat.le_refl _⟩)
                   | (refine Den.done ⟨by first | exact Or.inl rfl | exact Or.inr rfl, ?_⟩; (conv => lhs; cbv); refine congrArg some ?_))
              | ((fail_if_success (refine Den.id ?_))
                 first
                   | (subst ho; exact ⟨Int.le_refl 0, by omega, fun i hi => absurd hi (by omega)⟩)
                   | (subst ho; refine dB ?_; exact wordB_no i1 (by omega) (by first | exact hv | (simp only [std]; omega)))
                   | (subst ho; refine dB ?_; first | exact wordB_end (by omega) i3 (decide_eq_true hv).symm | exact wordB_end (by omega) i3 (decide_eq_false hv).symm)
                   | (subst ho; simp (disch := omega) only [std, wI]; exact ⟨by omega, by omega, word_step i1 i3 (by first | exact hv | (simp only [std]; omega))⟩)
                   | (subst ho; simp (disch := omega) only [std, wI]; omega)
                   | (subst ho; simp [std, len_eFc, len_eNd, len_eBd, len_eAb, len_eLBd, len_eK, len_eB]; omega)))))
    | ((fail_if_success (refine Den.id ?_))
       first
         | fail))
theorem impl_IsKey.ans {xa xb : Option (List D → Option D)} (o : Std) (ho : o = std) (s : ByteArray) : Ans (env xa xb) 215 [.str s] (.bool (keyB s)) := by
  refine Ans.mkA ho _ rfl rfl ?_
  have hkl : keyL.length = 20 := rfl
  repeat' (first
    | (refine Den.id ?_
       (try (conv => arg 2; cbv))
       first
         | (refine Den.extE (r := keyL) (fun v => .sl .ro 1 (o.bx fun _ => eB v)) (g := splitX) (as' := [.str keyS, .str spaceS]) (by rfl) (by rfl) (by subst ho; simp [splitX, std]) ?_; rintro v hv)
         | (refine Den.indF (fun m_ s_ => ∃ (a5 : List ByteArray) (a6 : Int) (a7 : Int) (ta5 : Tok) (tk : List Nat), s_ = ⟨[.str s, .junk, .junk, .junk, .junk, .sl ta5 1 (o.bx fun _ => eB a5), .int .i64 a6, .int .i64 a7] ++ List.replicate 7 .junk, [], [], tk⟩ ∧ (a5 = keyL ∧ a6 = a5.length ∧ 0 ≤ a7 ∧ a7 ≤ 20 ∧ (keyL.take a7.toNat).any (fun k => eqS k s) = false) ∧ (20 - a7).toNat ≤ m_) _ _ ⟨_, _, _, _, _, by subst ho; rfl, ?_, Nat.le_refl _⟩ ?_
            rotate_right
            rintro m_ _ ⟨a5, a6, a7, ta5, tk, rfl, hIa, hka⟩ iha
            obtain ⟨i0, i4, i1, i2, i3⟩ := hIa; have hal : a5.length = 20 := (by rw [i0]; exact hkl); refine Den.unloopA ho ?_
            repeat' (first
              | (refine Den.id ?_
                 (try (conv => arg 2; cbv))
                 first
                   | (refine Den.test (fun hr => ?_) (fun hr => ?_) <;> (have hb := hr) <;> (try simp (disch := omega) only [ho, std, wI, len_eK, len_eB, len_eNd, len_eLNd, len_eFc, len_eAb, len_eBd, len_eEd, len_eLBd, Classical.not_not, decide_eq_true_eq, decide_eq_false_iff_not, beq_iff_eq, beq_eq_false_iff_ne, ne_eq, Bool.not_eq_true', Bool.not_eq_false', gt_iff_lt, ge_iff_le, Int.not_lt, Int.not_le] at hb) <;> (try (exfalso; first | contradiction | omega | exact hb rfl)))
                   | (refine Den.fetchXB ho ?_ ?_ (fun y hy => ?_); rotate_left 2)
                   | (refine iha _ _ ?_ ⟨_, _, _, _, _, by subst ho; rfl, ?_, Nat.le_refl _⟩)
                   | (refine Den.done ⟨by first | exact Or.inl rfl | exact Or.inr rfl, ?_⟩; (conv => lhs; cbv); refine congrArg some ?_))
              | ((fail_if_success (refine Den.id ?_))
                 first
                   | (subst ho; exact ⟨Eq.symm hv, by simp [std, len_eB], Int.le_refl _, by omega, rfl⟩)
                   | (refine dB ?_; rw [i0] at hy; exact keyB_hit i1 (by omega) hy (by assumption))
                   | (refine dB ?_; exact keyB_end (by omega) i3)
                   | (simp (disch := omega) only [ho, std, wI]; rw [i0] at hy; exact ⟨i0, i4, by omega, by omega, key_step i1 (by omega) i3 hy (by assumption)⟩)
                   | assumption
                   | omega
                   | (subst ho; simp (disch := omega) only [std, wI, tdiv2, tdivN, len_eFc, len_eNd, len_eBd, len_eAb, len_eLBd, len_eK, len_eB] <;> first | done | rfl | omega)))))
    | ((fail_if_success (refine Den.id ?_))
       first
         | fail))
theorem impl_isName.ans {xa xb : Option (List D → Option D)} (o : Std) (ho : o = std) (s : ByteArray) (h0 : s.size ≤ 1048576) : Ans (env xa xb) 190 [.str s] (.bool (nameB s)) := by
  refine Ans.mkA ho _ rfl rfl ?_
  repeat' (first
    | (refine Den.id ?_
       (try (conv => arg 2; cbv))
       first
         | refine Den.testT ?_
         | refine Den.testF ?_
         | (refine Den.pcallE (β := Bool) (fun v => .bool v) (as' := [.str _]) (by first | with_reducible rfl | (subst ho; rfl)) (impl_IsWord.ans o ho _ ?_) ?_; rotate_left 1; rintro (_ | _) hv <;> (try simp only [decide_eq_true_eq, decide_eq_false_iff_not] at hv) <;> (try first | contradiction | exact absurd (hv.symm.trans (show _ = false by assumption)) (by decide) | exact absurd (hv.symm.trans (show _ = true by assumption)) (by decide)))
         | (refine Den.pcallE (β := Bool) (fun v => .bool v) (as' := [.str _]) (by first | with_reducible rfl | (subst ho; rfl)) (impl_IsKey.ans o ho _) ?_; rotate_left 0; rintro (_ | _) hv <;> (try simp only [decide_eq_true_eq, decide_eq_false_iff_not] at hv) <;> (try first | contradiction | exact absurd (hv.symm.trans (show _ = false by assumption)) (by decide) | exact absurd (hv.symm.trans (show _ = true by assumption)) (by decide)))
         | (refine Den.done ⟨by first | exact Or.inl rfl | exact Or.inr rfl, ?_⟩; (conv => lhs; cbv); refine congrArg some ?_))
    | ((fail_if_success (refine Den.id ?_))
       first
         | (subst ho; refine dB ?_; unfold nameB; simp [*, std]; done)
         | assumption))
theorem impl_nameFits.ans {xa xb : Option (List D → Option D)} (o : Std) (ho : o = std) (s : ByteArray) (b : Bool) (h0 : s.size ≤ 1048576) : Ans (env xa xb) 150 [.str s, .bool b] (.bool (nfitB s b)) := by
  refine Ans.mkA ho _ rfl rfl ?_
  repeat' (first
    | (refine Den.id ?_
       (try (conv => arg 2; cbv))
       first
         | (refine Den.test (fun hr => ?_) (fun hr => ?_) <;> (have hb := hr) <;> (try simp (disch := omega) only [ho, std, wI, len_eK, len_eB, len_eNd, len_eLNd, len_eFc, len_eAb, len_eBd, len_eEd, len_eLBd, Classical.not_not, decide_eq_true_eq, decide_eq_false_iff_not, beq_iff_eq, beq_eq_false_iff_ne, ne_eq, Bool.not_eq_true', Bool.not_eq_false', gt_iff_lt, ge_iff_le, Int.not_lt, Int.not_le] at hb) <;> (try (exfalso; first | contradiction | omega | exact hb rfl)))
         | (refine Den.pcallE (β := Bool) (fun v => .bool v) (as' := [.str _]) (by first | with_reducible rfl | (subst ho; rfl)) (impl_isName.ans o ho _ ?_) ?_; rotate_left 1; rintro (_ | _) hv <;> (try simp only [decide_eq_true_eq, decide_eq_false_iff_not] at hv) <;> (try first | contradiction | exact absurd (hv.symm.trans (show _ = false by assumption)) (by decide) | exact absurd (hv.symm.trans (show _ = true by assumption)) (by decide)))
         | (refine Den.done ⟨by first | exact Or.inl rfl | exact Or.inr rfl, ?_⟩; (conv => lhs; cbv); refine congrArg some ?_))
    | ((fail_if_success (refine Den.id ?_))
       first
         | (subst ho; refine dB ?_; unfold nfitB; simp [*, std, eqS]; done)
         | assumption))
end Go.Mach
end
section
set_option linter.unusedVariables false
set_option linter.unusedSimpArgs false
namespace Go.Mach
open Go Go.RowKit Go.Proofs
set_option maxRecDepth 100000
set_option maxHeartbeats 1000000
theorem spec_FactLess.ans {xa xb : Option (List D → Option D)} (o : Std) (ho : o = std) (a_k : Int) (a_n : Int) (a_c : Int) (a_v_k : Int) (a_v_n : Int) (a_v_c : Int) (b_k : Int) (b_n : Int) (b_c : Int) (b_v_k : Int) (b_v_n : Int) (b_v_c : Int) : Ans (env xa xb) 105 [.agg [.int .i64 a_k, .int .i64 a_n, .int .i64 a_c, .int .i64 a_v_k, .int .i64 a_v_n, .int .i64 a_v_c], .agg [.int .i64 b_k, .int .i64 b_n, .int .i64 b_c, .int .i64 b_v_k, .int .i64 b_v_n, .int .i64 b_v_c]] (.bool (ltB (⟨a_k, a_n, a_c, ⟨a_v_k, a_v_n, a_v_c⟩⟩ : Fc) (⟨b_k, b_n, b_c, ⟨b_v_k, b_v_n, b_v_c⟩⟩ : Fc))) := by
  refine Ans.mkA ho _ rfl rfl ?_
  repeat' (first
    | (refine Den.id ?_
       (try (conv => arg 2; cbv))
       first
         | (refine Den.test (fun hr => ?_) (fun hr => ?_) <;> (have hb := hr) <;> (try simp (disch := omega) only [ho, std, wI, len_eK, len_eB, len_eNd, len_eLNd, len_eFc, len_eAb, len_eBd, len_eEd, len_eLBd, Classical.not_not, decide_eq_true_eq, decide_eq_false_iff_not, beq_iff_eq, beq_eq_false_iff_ne, ne_eq, Bool.not_eq_true', Bool.not_eq_false', gt_iff_lt, ge_iff_le, Int.not_lt, Int.not_le] at hb) <;> (try (exfalso; first | contradiction | omega | exact hb rfl)))
         | (refine Den.done ⟨by first | exact Or.inl rfl | exact Or.inr rfl, ?_⟩; (conv => lhs; cbv); refine congrArg some ?_))
    | ((fail_if_success (refine Den.id ?_))
       first
         | (subst ho; refine dBi ?_; simp only [ltF]; omega)))
theorem spec_l15Place.ans {xa xb : Option (List D → Option D)} (o : Std) (ho : o = std) (l : List Fc) (f_k : Int) (f_n : Int) (f_c : Int) (f_v_k : Int) (f_v_n : Int) (f_v_c : Int) (h0 : Up l) (h1 : l.length ≤ 2900000000000) : Ans (env xa xb) 82 [.sl .ro 6 (o.bx fun _ => eFc l), .agg [.int .i64 f_k, .int .i64 f_n, .int .i64 f_c, .int .i64 f_v_k, .int .i64 f_v_n, .int .i64 f_v_c]] (.int .i64 (((posF l (⟨f_k, f_n, f_c, ⟨f_v_k, f_v_n, f_v_c⟩⟩ : Fc) : Nat) : Int))) := by
  refine Ans.mkA ho _ rfl rfl ?_
  repeat' (first
    | (refine Den.id ?_
       (try (conv => arg 2; cbv))
       first
         | (refine Den.indF (fun m_ s_ => ∃ (a5 : Int) (a6 : Int) (tk : List Nat), s_ = ⟨[.sl .ro 6 (o.bx fun _ => eFc l), .junk, .junk, .pbx (.loc 0) 0, .junk, .int .i64 a5, .int .i64 a6] ++ List.replicate 20 .junk, [[[.int .i64 f_k, .int .i64 f_n, .int .i64 f_c, .int .i64 f_v_k, .int .i64 f_v_n, .int .i64 f_v_c]]], [], tk⟩ ∧ (0 ≤ a5 ∧ a5 ≤ a6 ∧ a6 ≤ l.length ∧ (∀ j : Nat, (j : Int) < a5 → ltF (l.getD j zF) (⟨f_k, f_n, f_c, ⟨f_v_k, f_v_n, f_v_c⟩⟩ : Fc)) ∧ (∀ j : Nat, a6 ≤ j → j < l.length → ¬ ltF (l.getD j zF) (⟨f_k, f_n, f_c, ⟨f_v_k, f_v_n, f_v_c⟩⟩ : Fc))) ∧ (a6 - a5).toNat ≤ m_) _ _ ⟨_, _, _, by subst ho; rfl, ?_, Nat.le_refl _⟩ ?_
            rotate_right
            rintro m_ _ ⟨a5, a6, tk, rfl, hIa, hka⟩ iha
            obtain ⟨i1, i2, i3, i4, i5⟩ := hIa; refine Den.unloopA ho ?_
            repeat' (first
              | (refine Den.id ?_
                 (try (conv => arg 2; cbv))
                 first
                   | refine Den.testT ?_
                   | refine Den.testF ?_
                   | (refine Den.test (fun hr => ?_) (fun hr => ?_) <;> (have hb := hr) <;> (try simp (disch := omega) only [ho, std, wI, len_eK, len_eB, len_eNd, len_eLNd, len_eFc, len_eAb, len_eBd, len_eEd, len_eLBd, Classical.not_not, decide_eq_true_eq, decide_eq_false_iff_not, beq_iff_eq, beq_eq_false_iff_ne, ne_eq, Bool.not_eq_true', Bool.not_eq_false', gt_iff_lt, ge_iff_le, Int.not_lt, Int.not_le] at hb) <;> (try (exfalso; first | contradiction | omega | exact hb rfl)))
                   | (refine Den.pcallE (β := Bool) (fun v => .bool v) (as' := [.agg [.int .i64 _, .int .i64 _, .int .i64 _, .int .i64 _, .int .i64 _, .int .i64 _], .agg [.int .i64 _, .int .i64 _, .int .i64 _, .int .i64 _, .int .i64 _, .int .i64 _]]) (by first | with_reducible rfl | (subst ho; rfl)) (spec_FactLess.ans o ho _ _ _ _ _ _ _ _ _ _ _ _) ?_; rotate_left 0; rintro (_ | _) hv <;> (try simp only [decide_eq_true_eq, decide_eq_false_iff_not] at hv) <;> (try first | exact absurd (hv.symm.trans (show _ = false by assumption)) (by decide) | exact absurd (hv.symm.trans (show _ = true by assumption)) (by decide)))
                   | (refine Den.fetchXFc ho ?_ ?_ (fun y hy => ?_); rotate_left 2; rcases y with ⟨yk, yn, yc, yvk, yvn, yvc⟩)
                   | (refine Den.needD ho (by kernel_rfl) ?_)
                   | (refine Den.need ?_ ?_)
                   | (refine iha _ _ ?_ ⟨_, _, _, by subst ho; rfl, ?_, Nat.le_refl _⟩)
                   | (refine Den.done ⟨by first | exact Or.inl rfl | exact Or.inr rfl, ?_⟩; (conv => lhs; cbv); refine congrArg some ?_))
              | ((fail_if_success (refine Den.id ?_))
                 first
                   | (refine dI (bs_end (by assumption) (by assumption) (by assumption) (by assumption) (by assumption) (by assumption)))
                   | (refine ⟨Int.le_refl 0, ?_, ?_, fun j hj => absurd hj (by omega), fun j hj hl => absurd hj ?_⟩ <;> subst ho <;> simp only [std, len_eFc] <;> omega)
                   | (clear iha; subst ho; simp (disch := omega) only [std, wI, tdiv2] at *; refine ⟨by omega, by omega, by omega, ?_, by assumption⟩; exact bs_lo h0 (by omega) (by omega) (by rw [hy]; exact ltB_iff.1 hv))
                   | (clear iha; subst ho; simp (disch := omega) only [std, wI, tdiv2] at *; refine ⟨by omega, by omega, by omega, by assumption, ?_⟩; exact bs_hi h0 (by omega) (by omega) (fun h => by rw [hy] at h; rw [ltB_iff.2 h] at hv; cases hv))
                   | (subst ho; rfl)
                   | (subst ho; simp (disch := omega) only [std, wI, tdiv2, tdivN, len_eFc, len_eNd, len_eBd, len_eAb, len_eLBd, len_eK, len_eB] <;> first | done | rfl | omega)))))
    | ((fail_if_success (refine Den.id ?_))
       first
         | fail))
end Go.Mach
end
section
set_option linter.unusedVariables false
set_option linter.unusedSimpArgs false
namespace Go.Mach
open Go Go.RowKit Go.Proofs
set_option maxRecDepth 100000
set_option maxHeartbeats 1000000
theorem spec_l15Add.ans {xa xb : Option (List D → Option D)} (o : Std) (ho : o = std) (l : List Fc) (f_k : Int) (f_n : Int) (f_c : Int) (f_v_k : Int) (f_v_n : Int) (f_v_c : Int) (h0 : Up l) (h1 : l.length ≤ 2900000000000) : Ans (env xa xb) 137 [.sl .ro 6 (o.bx fun _ => eFc l), .agg [.int .i64 f_k, .int .i64 f_n, .int .i64 f_c, .int .i64 f_v_k, .int .i64 f_v_n, .int .i64 f_v_c]] (.sl .ro 6 (o.bx fun _ => eFc (ins l (⟨f_k, f_n, f_c, ⟨f_v_k, f_v_n, f_v_c⟩⟩ : Fc)))) := by
  refine Ans.mkA ho _ rfl rfl ?_
  have hp := posF_le l (⟨f_k, f_n, f_c, ⟨f_v_k, f_v_n, f_v_c⟩⟩ : Fc)
  repeat' (first
    | (refine Den.id ?_
       (try (conv => arg 2; cbv))
       first
         | refine Den.testF ?_
         | refine Den.test1 (by with_reducible assumption) ?_
         | refine Den.test0 (by with_reducible assumption) ?_
         | (refine Den.test (fun hr => ?_) (fun hr => ?_) <;> (have hb := hr) <;> (try simp (disch := omega) only [ho, std, wI, len_eK, len_eB, len_eNd, len_eLNd, len_eFc, len_eAb, len_eBd, len_eEd, len_eLBd, Classical.not_not, decide_eq_true_eq, decide_eq_false_iff_not, beq_iff_eq, beq_eq_false_iff_ne, ne_eq, Bool.not_eq_true', Bool.not_eq_false', gt_iff_lt, ge_iff_le, Int.not_lt, Int.not_le] at hb) <;> (try (exfalso; first | contradiction | omega | exact hb rfl)))
         | (refine Den.pcallE (β := Int) (fun v => .int .i64 v) (as' := [.sl .ro 6 (o.bx fun _ => eFc _), .agg [.int .i64 _, .int .i64 _, .int .i64 _, .int .i64 _, .int .i64 _, .int .i64 _]]) (by first | with_reducible rfl | (subst ho; rfl)) (spec_l15Place.ans o ho _ _ _ _ _ _ _ ?_ ?_) ?_; rotate_left 2; rintro v hv)
         | (refine Den.fetchXFc ho ?_ ?_ (fun y hy => ?_); rotate_left 2; rcases y with ⟨yk, yn, yc, yvk, yvn, yvc⟩)
         | (refine Den.needD ho (by kernel_rfl) ?_)
         | (refine Den.need ?_ ?_)
         | (refine Den.app1 ?_ (fun t' tk' hl' => ?_))
         | (refine Den.done ⟨by first | exact Or.inl rfl | exact Or.inr rfl, ?_⟩; (conv => lhs; cbv); refine congrArg some ?_))
    | ((fail_if_success (refine Den.id ?_))
       first
         | (exact Lv.cap _)
         | (refine congrArg (D.sl Tok.ro 6) ?_; subst ho; simp only [Bool.and_eq_true, beq_iff_eq, and_true] at hb; obtain ⟨a1, a2, a3, a4, a5, a6⟩ := hb; exact congrArg eFc (ins_found hv (by assumption) hy (Fc.ext' a1 a2 a3 a4 a5 a6)).symm)
         | (refine congrArg (D.sl Tok.ro 6) ?_; subst ho; simp only [std]; rw [ins_put hv (fun h e => by first | omega | (rw [hy] at e; cases e; simp at hb))]; simp [eFc, cFc, List.map_take, List.map_drop, List.take_of_length_le])
         | assumption
         | omega
         | (subst ho; simpa [std, len_eFc, len_eNd, len_eBd, len_eAb, len_eLBd, len_eK, len_eB] using hl')
         | (subst ho; simp [std, len_eFc, len_eNd, len_eBd, len_eAb, len_eLBd, len_eK, len_eB]; omega)))
theorem spec_l1In.ans {xa xb : Option (List D → Option D)} (o : Std) (ho : o = std) (a : Int) (b : Int) (c : Int) : Ans (env xa xb) 100 [.int .i64 a, .int .i64 b, .int .i64 c] (.bool (decide (b ≤ a ∧ a ≤ c))) := by
  refine Ans.mkA ho _ rfl rfl ?_
  repeat' (first
    | (refine Den.id ?_
       (try (conv => arg 2; cbv))
       first
         | refine Den.test1 (by with_reducible assumption) ?_
         | refine Den.test0 (by with_reducible assumption) ?_
         | (refine Den.test (fun hr => ?_) (fun hr => ?_) <;> (have hb := hr) <;> (try simp (disch := omega) only [ho, std, wI, len_eK, len_eB, len_eNd, len_eLNd, len_eFc, len_eAb, len_eBd, len_eEd, len_eLBd, Classical.not_not, decide_eq_true_eq, decide_eq_false_iff_not, beq_iff_eq, beq_eq_false_iff_ne, ne_eq, Bool.not_eq_true', Bool.not_eq_false', gt_iff_lt, ge_iff_le, Int.not_lt, Int.not_le] at hb) <;> (try (exfalso; first | contradiction | omega | exact hb rfl)))
         | (refine Den.done ⟨by first | exact Or.inl rfl | exact Or.inr rfl, ?_⟩; (conv => lhs; cbv); refine congrArg some ?_))
    | ((fail_if_success (refine Den.id ?_))
       first
         | (subst ho; first | exact dBi (by omega) | exact dB (decide_eq_false (by omega)).symm)))
theorem spec_l17See.ans {xa xb : Option (List D → Option D)} (o : Std) (ho : o = std) (l : List Fc) (i : Int) (c : Int) (h0 : Up l) (h1 : l.length ≤ 2900000000000) : Ans (env xa xb) 138 [.sl .ro 6 (o.bx fun _ => eFc l), .int .i64 i, .int .i64 c] (.sl .ro 6 (o.bx fun _ => eFc (insAll l (seeL i c)))) := by
  refine Ans.mkA ho _ rfl rfl ?_
  repeat' (first
    | (refine Den.id ?_
       (try (conv => arg 2; cbv))
       first
         | (refine Den.pcallE (β := List Fc) (fun v => .sl .ro 6 (o.bx fun _ => eFc v)) (as' := [.sl .ro 6 (o.bx fun _ => eFc _), .agg [.int .i64 _, .int .i64 _, .int .i64 _, .int .i64 _, .int .i64 _, .int .i64 _]]) (by first | with_reducible rfl | (subst ho; rfl)) (spec_l15Add.ans o ho _ _ _ _ _ _ _ ?_ ?_) ?_; rotate_left 2; rintro v hv)
         | (refine Den.done ⟨by first | exact Or.inl rfl | exact Or.inr rfl, ?_⟩; (conv => lhs; cbv); refine congrArg some ?_))
    | ((fail_if_success (refine Den.id ?_))
       first
         | (refine congrArg _ ?_; subst hv; subst ho; rfl)
         | assumption))
theorem spec_l17Name.ans {xa xb : Option (List D → Option D)} (o : Std) (ho : o = std) (r : Int) (h0 : -100000 ≤ r ∧ r ≤ 100000) : Ans (env xa xb) 136 [.int .i64 r] (.int .i64 (1 + r)) := by
  refine Ans.mkA ho _ rfl rfl ?_
  repeat' (first
    | (refine Den.id ?_
       (try (conv => arg 2; cbv))
       first
         | (refine Den.done ⟨by first | exact Or.inl rfl | exact Or.inr rfl, ?_⟩; (conv => lhs; cbv); refine congrArg some ?_))
    | ((fail_if_success (refine Den.id ?_))
       first
         | (subst ho; simp (disch := omega) only [std, wI, tdiv2, tdivN, len_eFc, len_eNd, len_eBd, len_eAb, len_eLBd, len_eK, len_eB] <;> first | done | rfl | omega)))
theorem spec_l16Param.ans {xa xb : Option (List D → Option D)} (o : Std) (ho : o = std) (n_f0 : Int) (n_f1 : Int) (n_f2 : Int) (n_f3 : Int) (n_f4 : Int) (n_f5 : ByteArray) (n_f6 : ByteArray) : Ans (env xa xb) 134 [.agg [.int .i64 n_f0, .int .i64 n_f1, .int .i64 n_f2, .int .i64 n_f3, .int .i64 n_f4, .str n_f5, .str n_f6]] (.int .i64 (parm (⟨n_f0, n_f1, n_f2, n_f3, n_f4, n_f5, n_f6⟩ : Nd))) := by
  refine Ans.mkA ho _ rfl rfl ?_
  repeat' (first
    | (refine Den.id ?_
       (try (conv => arg 2; cbv))
       first
         | (refine Den.test (fun hr => ?_) (fun hr => ?_) <;> (have hb := hr) <;> (try simp (disch := omega) only [ho, std, wI, len_eK, len_eB, len_eNd, len_eLNd, len_eFc, len_eAb, len_eBd, len_eEd, len_eLBd, Classical.not_not, decide_eq_true_eq, decide_eq_false_iff_not, beq_iff_eq, beq_eq_false_iff_ne, ne_eq, Bool.not_eq_true', Bool.not_eq_false', gt_iff_lt, ge_iff_le, Int.not_lt, Int.not_le] at hb) <;> (try (exfalso; first | contradiction | omega | exact hb rfl)))
         | (refine Den.done ⟨by first | exact Or.inl rfl | exact Or.inr rfl, ?_⟩; (conv => lhs; cbv); refine congrArg some ?_))
    | ((fail_if_success (refine Den.id ?_))
       first
         | (subst ho; simp [parm, *]; done)))
theorem spec_l16Lambda.ans {xa xb : Option (List D → Option D)} (o : Std) (ho : o = std) (n_f0 : Int) (n_f1 : Int) (n_f2 : Int) (n_f3 : Int) (n_f4 : Int) (n_f5 : ByteArray) (n_f6 : ByteArray) : Ans (env xa xb) 91 [.agg [.int .i64 n_f0, .int .i64 n_f1, .int .i64 n_f2, .int .i64 n_f3, .int .i64 n_f4, .str n_f5, .str n_f6]] (.bool (lamB (⟨n_f0, n_f1, n_f2, n_f3, n_f4, n_f5, n_f6⟩ : Nd))) := by
  refine Ans.mkA ho _ rfl rfl ?_
  repeat' (first
    | (refine Den.id ?_
       (try (conv => arg 2; cbv))
       first
         | refine Den.test1 (by with_reducible assumption) ?_
         | refine Den.test0 (by with_reducible assumption) ?_
         | (refine Den.test (fun hr => ?_) (fun hr => ?_) <;> (have hb := hr) <;> (try simp (disch := omega) only [ho, std, wI, len_eK, len_eB, len_eNd, len_eLNd, len_eFc, len_eAb, len_eBd, len_eEd, len_eLBd, Classical.not_not, decide_eq_true_eq, decide_eq_false_iff_not, beq_iff_eq, beq_eq_false_iff_ne, ne_eq, Bool.not_eq_true', Bool.not_eq_false', gt_iff_lt, ge_iff_le, Int.not_lt, Int.not_le] at hb) <;> (try (exfalso; first | contradiction | omega | exact hb rfl)))
         | (refine Den.done ⟨by first | exact Or.inl rfl | exact Or.inr rfl, ?_⟩; (conv => lhs; cbv); refine congrArg some ?_))
    | ((fail_if_success (refine Den.id ?_))
       first
         | (subst ho; simp [std, lamB, *]; done)))
theorem spec_CtxPush.ans {xa xb : Option (List D → Option D)} (o : Std) (ho : o = std) (ctx : Int) (site : Int) (depth : Int) : Ans (env xa xb) 197 [.int .i64 ctx, .int .i64 site, .int .i64 depth] (.int .i64 (ctxPush ctx site depth)) := by
  refine Ans.mkA ho _ rfl rfl ?_
  repeat' (first
    | (refine Den.id ?_
       (try (conv => arg 2; cbv))
       first
         | refine Den.testT ?_
         | refine Den.test1 (by with_reducible assumption) ?_
         | refine Den.test0 (by with_reducible assumption) ?_
         | (refine Den.test (fun hr => ?_) (fun hr => ?_) <;> (have hb := hr) <;> (try simp (disch := omega) only [ho, std, wI, len_eK, len_eB, len_eNd, len_eLNd, len_eFc, len_eAb, len_eBd, len_eEd, len_eLBd, Classical.not_not, decide_eq_true_eq, decide_eq_false_iff_not, beq_iff_eq, beq_eq_false_iff_ne, ne_eq, Bool.not_eq_true', Bool.not_eq_false', gt_iff_lt, ge_iff_le, Int.not_lt, Int.not_le] at hb) <;> (try (exfalso; first | contradiction | omega | exact hb rfl)))
         | (refine Den.pcallE (β := Bool) (fun v => .bool v) (as' := [.int .i64 _, .int .i64 _, .int .i64 _]) (by first | with_reducible rfl | (subst ho; rfl)) (spec_l1In.ans o ho _ _ _) ?_; rotate_left 0; rintro (_ | _) hv <;> (try simp only [decide_eq_true_eq, decide_eq_false_iff_not] at hv) <;> (try first | exact absurd (hv.symm.trans (show _ = false by assumption)) (by decide) | exact absurd (hv.symm.trans (show _ = true by assumption)) (by decide)))
         | (refine Den.need ?_ ?_)
         | (refine Den.done ⟨by first | exact Or.inl rfl | exact Or.inr rfl, ?_⟩; (conv => lhs; cbv); refine congrArg some ?_))
    | ((fail_if_success (refine Den.id ?_))
       first
         | (subst ho; refine dI ?_; simp only [ctxPush]; (repeat' split) <;> first | omega | (simp (disch := omega) only [std, wI, tdivN] <;> omega))
         | (subst ho; rfl)))
end Go.Mach
end
