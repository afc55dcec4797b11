/- What the statements over Solve share: part 23 of a proof by an executable machine over the program's code. -/
import Derived.Test.YtbkpkchegopmiaaGreatDoorMb12
import Derived.Test.YtbkpkchegopmiaaGreatDoorMb13
import Derived.Test.YtbkpkchegopmiaaGreatDoorMb17
import Derived.Test.YtbkpkchegopmiaaGreatDoorMb22
import Derived.Shelf.SlGeneric
import Derived.Shelf.SlSortCmp.NoneTotal
import Derived.Ground.SlsfProg
import Derived.Test.YtbkpkchegopmiaaGreatDoorProg
import Derived.Laws.StructEq
section
set_option linter.unusedVariables false
set_option linter.unusedSimpArgs false
namespace Go.Mach
open Go Go.RowKit Go.Proofs
set_option maxRecDepth 100000
set_option maxHeartbeats 6000000
theorem spec_FactHas.ans {xa xb : Option (List D → Option D)} (o : Std) (ho : o = std) (l : List Fc) (f_k : Int) (f_n : Int) (f_c : Int) (f_v_k : Int) (f_v_n : Int) (f_v_c : Int) (h0 : l.length ≤ 2900000000000) : Ans (env xa xb) 54 [.sl .ro 6 (o.bx fun _ => eFc l), .agg [.int .i64 f_k, .int .i64 f_n, .int .i64 f_c, .int .i64 f_v_k, .int .i64 f_v_n, .int .i64 f_v_c]] (.bool (okF l && decide ((⟨f_k, f_n, f_c, ⟨f_v_k, f_v_n, f_v_c⟩⟩ : Fc) ∈ l))) := by
  refine Ans.mkA ho _ rfl rfl ?_
  repeat' (first
    | (refine Den.id ?_
       (try (conv => arg 2; cbv))
       first
         | refine Den.test1 (by with_reducible assumption) ?_
         | refine Den.test0 (by with_reducible assumption) ?_
         | refine Den.testN1 ho (by first | with_reducible assumption | with_reducible rfl) ?_
         | refine Den.testN0 ho (by first | with_reducible assumption | with_reducible rfl) ?_
         | (refine Den.test (fun hr => ?_) (fun hr => ?_) <;> (have hb := hr) <;> (try simp (disch := omega) only [ho, std, wI, len_eK, len_eB, len_eNd, len_eLNd, len_eFc, len_eAb, len_eBd, len_eEd, len_eLBd, Classical.not_not, decide_eq_true_eq, decide_eq_false_iff_not, beq_iff_eq, beq_eq_false_iff_ne, ne_eq, Bool.not_eq_true', Bool.not_eq_false', Bool.not_eq_true, Bool.not_eq_false, gt_iff_lt, ge_iff_le, Int.not_lt, Int.not_le] at hb) <;> (try (exfalso; first | contradiction | omega | exact hb rfl)))
         | (refine Den.pcallE (β := Bool) (fun v => .bool v) (as' := [.sl .ro 6 (o.bx fun _ => eFc _)]) (by first | with_reducible rfl | (subst ho; rfl)) (spec_FactsOk.ans o ho _ ?_) ?_; rotate_left 1; rintro (_ | _) hv <;> (try simp only [decide_eq_true_eq, decide_eq_false_iff_not] at hv) <;> (try first | contradiction | exact absurd (hv.symm.trans (show _ = false by assumption)) (by decide) | exact absurd (hv.symm.trans (show _ = true by assumption)) (by decide)) <;> (try have hu : Up l := (of_decide_eq_true hv).1))
         | (refine Den.pcallE (β := Int) (fun v => .int .i64 v) (as' := [.sl .ro 6 (o.bx fun _ => eFc _), .agg [.int .i64 _, .int .i64 _, .int .i64 _, .int .i64 _, .int .i64 _, .int .i64 _]]) (by first | with_reducible rfl | (subst ho; rfl)) (spec_l15Place.ans o ho _ _ _ _ _ _ _ ?_ ?_) ?_; rotate_left 2; rintro v hv)
         | (refine Den.fetchXFc ho ?_ ?_ (fun y hy => ?_); rotate_left 2; rcases y with ⟨yk, yn, yc, yvk, yvn, yvc⟩)
         | (refine Den.needD ho (by kernel_rfl) ?_)
         | (refine Den.done ⟨by first | exact Or.inl rfl | exact Or.inr rfl, ?_⟩; (conv => lhs; cbv) <;> refine congrArg some ?_))
    | ((fail_if_success (refine Den.id ?_))
       first
         | (rw [show okF l = true by assumption]; subst ho; rw [Bool.true_and]; refine dBt ?_; simp only [std, Bool.and_eq_true, beq_iff_eq, and_true]; rw [has_iff hu hv (by assumption) hy]; simp only [Fc.mk.injEq, Ab.mk.injEq]; done)
         | (rw [show okF l = true by assumption, Bool.true_and]; refine (congrArg D.bool (decide_eq_false ?_)).symm; rw [mem_posF hu]; omega)
         | (rw [hv]; rfl)
         | assumption
         | omega))
theorem spec_Solve.ans {xa xb : Option (List D → Option D)} (o : Std) (ho : o = std) (l : List Nd) (dp : Int) (h0 : Sz l) (h1 : l.length ≤ 1048576) : Ans (env xa xb) 30 [.sl .ro 7 (o.bx fun _ => eNd l), .int .i64 dp] (.tup [.sl .ro 6 (o.bx fun _ => eFc (solveR l dp).1), .bool (solveR l dp).2]) := by
  refine Ans.mkA ho _ rfl rfl ?_
  repeat' (first
    | (refine Den.id ?_
       (try (conv => arg 2; cbv))
       first
         | (refine Den.pcallE (β := List Fc) (fun v => .sl .ro 6 (o.bx fun _ => eFc v)) (as' := [.sl .ro 7 (o.bx fun _ => eNd _)]) (by first | with_reducible rfl | (subst ho; rfl)) (spec_Seed.ans o ho _ ?_ ?_) ?_; rotate_left 2; rintro v hv)
         | (refine Den.pcallP (as' := [.sl .ro 7 (o.bx fun _ => eNd _), .int .i64 _, .sl .ro 6 (o.bx fun _ => eFc _)]) (by first | with_reducible rfl | (subst ho; rfl)) (spec_l18Solve.ans o ho _ _ _ ?_ ?_ ?_) ?_; rotate_left 3; rintro _ ⟨rq, nq, rfl, hv⟩)
         | (refine Den.done ⟨by first | exact Or.inl rfl | exact Or.inr rfl, ?_⟩; (conv => lhs; cbv) <;> refine congrArg some ?_))
    | ((fail_if_success (refine Den.id ?_))
       first
         | (rw [hv])
         | assumption))
theorem spec_MayRaise.ans {xa xb : Option (List D → Option D)} (o : Std) (ho : o = std) (l : List Nd) (dp : Int) (h0 : Sz l) (h1 : l.length ≤ 1048576) : Ans (env xa xb) 16 [.sl .ro 7 (o.bx fun _ => eNd l), .int .i64 dp] (.bool (mayM l dp)) := by
  refine Ans.mkA ho _ rfl rfl ?_
  repeat' (first
    | (refine Den.id ?_
       (try (conv => arg 2; cbv))
       first
         | refine Den.test1 (by with_reducible assumption) ?_
         | refine Den.test0 (by with_reducible assumption) ?_
         | refine Den.testN1 ho (by first | with_reducible assumption | with_reducible rfl) ?_
         | refine Den.testN0 ho (by first | with_reducible assumption | with_reducible rfl) ?_
         | (refine Den.test (fun hr => ?_) (fun hr => ?_) <;> (have hb := hr) <;> (try simp (disch := omega) only [ho, std, wI, len_eK, len_eB, len_eNd, len_eLNd, len_eFc, len_eAb, len_eBd, len_eEd, len_eLBd, Classical.not_not, decide_eq_true_eq, decide_eq_false_iff_not, beq_iff_eq, beq_eq_false_iff_ne, ne_eq, Bool.not_eq_true', Bool.not_eq_false', Bool.not_eq_true, Bool.not_eq_false, gt_iff_lt, ge_iff_le, Int.not_lt, Int.not_le] at hb) <;> (try (exfalso; first | contradiction | omega | exact hb rfl)))
         | (refine Den.pcallE (β := (List Fc) × Bool) (fun v => .tup [.sl .ro 6 (o.bx fun _ => eFc v.1), .bool v.2]) (as' := [.sl .ro 7 (o.bx fun _ => eNd _), .int .i64 _]) (by first | with_reducible rfl | (subst ho; rfl)) (spec_Solve.ans o ho _ _ ?_ ?_) ?_; rotate_left 2; rintro ⟨v0, (_ | _)⟩ hv <;> (try simp only [decide_eq_true_eq, decide_eq_false_iff_not] at hv) <;> (try first | contradiction | exact absurd (hv.symm.trans (show _ = false by assumption)) (by decide) | exact absurd (hv.symm.trans (show _ = true by assumption)) (by decide)) <;> (try have hsf := solveR_fit hv))
         | (refine Den.pcallE (β := Bool) (fun v => .bool v) (as' := [.sl .ro 6 (o.bx fun _ => eFc _), .agg [.int .i64 _, .int .i64 _, .int .i64 _, .int .i64 _, .int .i64 _, .int .i64 _]]) (by first | with_reducible rfl | (subst ho; rfl)) (spec_FactHas.ans o ho _ _ _ _ _ _ _ ?_) ?_; rotate_left 1; rintro (_ | _) hv <;> (try simp only [decide_eq_true_eq, decide_eq_false_iff_not] at hv) <;> (try first | contradiction | exact absurd (hv.symm.trans (show _ = false by assumption)) (by decide) | exact absurd (hv.symm.trans (show _ = true by assumption)) (by decide)))
         | (refine Den.done ⟨by first | exact Or.inl rfl | exact Or.inr rfl, ?_⟩; (conv => lhs; cbv) <;> refine congrArg some ?_))
    | ((fail_if_success (refine Den.id ?_))
       first
         | (refine dB ?_; exact may_no (by assumption))
         | (refine dB ?_; exact may_yes (by assumption) (by subst ho; simp (disch := omega) only [std, wI, len_eNd] at hv; exact hv))
         | assumption
         | (subst ho; simp [std, len_eFc, len_eNd, len_eBd, len_eAb, len_eLBd, len_eK, len_eB]; omega)))
end Go.Mach
end
section
set_option linter.unusedVariables false
set_option linter.unusedSimpArgs false
namespace Go.Mach
open Go Go.RowKit Go.Proofs
set_option maxRecDepth 100000
set_option maxHeartbeats 6000000
theorem laws_eqIntS.ans {xa xb : Option (List D → Option D)} (o : Std) (ho : o = std) (a : List Int) (b : List Int) (h0 : a = b) (h1 : a.length ≤ 1048576) : Ans (env xa xb) 22 [.sl .ro 1 (o.bx fun _ => eK .i64 a), .sl .ro 1 (o.bx fun _ => eK .i64 b)] (.bool (true)) := by
  refine Ans.mkA ho _ rfl rfl ?_
  subst h0
  repeat' (first
    | (refine Den.id ?_
       (try (conv => arg 2; cbv))
       first
         | (refine Den.test (fun hr => ?_) (fun hr => ?_) <;> (have hb := hr) <;> (try simp (disch := omega) only [ho, std, wI, len_eK, len_eB, len_eNd, len_eLNd, len_eFc, len_eAb, len_eBd, len_eEd, len_eLBd, Int.ofNat_eq_natCast, Classical.not_not, decide_eq_true_eq, decide_eq_false_iff_not, beq_iff_eq, beq_eq_false_iff_ne, ne_eq, Bool.not_eq_true', Bool.not_eq_false', Bool.not_eq_true, Bool.not_eq_false, gt_iff_lt, ge_iff_le, Int.not_lt, Int.not_le] at hb) <;> (try (exfalso; first | contradiction | omega | exact hb rfl)))
         | (refine Den.indF (fun m_ s_ => ∃ (a5 : Int) (tk : List Nat), s_ = ⟨[.sl .ro 1 (o.bx fun _ => eK .i64 a), .sl .ro 1 (o.bx fun _ => eK .i64 a), .junk, .junk, .junk, .int .i64 a5] ++ List.replicate 20 .junk, [], [], tk⟩ ∧ (0 ≤ a5 ∧ a5 ≤ a.length) ∧ (a.length - a5).toNat ≤ m_) _ _ ⟨_, _, by subst ho; rfl, ?_, Nat.le_refl _⟩ ?_
            rotate_right
            rintro m_ _ ⟨a5, tk, rfl, hIa, hka⟩ iha
            obtain ⟨i1, i2⟩ := hIa; refine Den.unloopA ho ?_
            repeat' (first
              | (refine Den.id ?_
                 (try (conv => arg 2; cbv))
                 first
                   | (refine Den.test (fun hr => ?_) (fun hr => ?_) <;> (have hb := hr) <;> (try simp (disch := omega) only [ho, std, wI, len_eK, len_eB, len_eNd, len_eLNd, len_eFc, len_eAb, len_eBd, len_eEd, len_eLBd, Int.ofNat_eq_natCast, Classical.not_not, decide_eq_true_eq, decide_eq_false_iff_not, beq_iff_eq, beq_eq_false_iff_ne, ne_eq, Bool.not_eq_true', Bool.not_eq_false', Bool.not_eq_true, Bool.not_eq_false, gt_iff_lt, ge_iff_le, Int.not_lt, Int.not_le] at hb) <;> (try (exfalso; first | contradiction | omega | exact hb rfl)))
                   | (refine Den.fetchYK ho ?_ ?_ (by with_reducible assumption) ?_)
                   | (refine Den.fetchXK ho ?_ ?_ (fun y hy => ?_); rotate_left 2)
                   | (refine Den.needD ho (by kernel_rfl) ?_)
                   | (refine iha _ _ ?_ ⟨_, _, by subst ho; rfl, ?_, Nat.le_refl _⟩)
                   | (refine Den.done ⟨by first | exact Or.inl rfl | exact Or.inr rfl, ?_⟩; (conv => lhs; cbv) <;> refine congrArg some ?_))
              | ((fail_if_success (refine Den.id ?_))
                 first
                   | assumption
                   | omega
                   | (subst ho; simp (disch := omega) only [std, wI, tdiv2, tdivN, len_eFc, len_eNd, len_eBd, len_eAb, len_eLBd, len_eK, len_eB] <;> first | done | rfl | omega)))))
    | ((fail_if_success (refine Den.id ?_))
       first
         | fail))
theorem laws_heldIntS.ans {xa xb : Option (List D → Option D)} (o : Std) (ho : o = std) (a : List Int) (k : Int) (h0 : a = rowI k a.length) (h1 : a.length ≤ 1048576) (h2 : 0 ≤ k ∧ k ≤ 1) : Ans (env xa xb) 25 [.sl .ro 1 (o.bx fun _ => eK .i64 a), .int .i64 k] (.int .i64 (k + a.length)) := by
  refine Ans.mkA ho _ rfl rfl ?_
  repeat' (first
    | (refine Den.id ?_
       (try (conv => arg 2; cbv))
       first
         | (refine Den.indF (fun m_ s_ => ∃ (a1 : Int) (a5 : Int) (tk : List Nat), s_ = ⟨[.sl .ro 1 (o.bx fun _ => eK .i64 a), .int .i64 a1, .junk, .junk, .junk, .int .i64 a5] ++ List.replicate 15 .junk, [], [], tk⟩ ∧ (0 ≤ a5 ∧ a5 ≤ a.length ∧ a1 = k + a5) ∧ (a.length - a5).toNat ≤ m_) _ _ ⟨_, _, _, by subst ho; rfl, ?_, Nat.le_refl _⟩ ?_
            rotate_right
            rintro m_ _ ⟨a1, a5, tk, rfl, hIa, hka⟩ iha
            obtain ⟨i1, i2, i3⟩ := hIa; refine Den.unloopA ho ?_
            repeat' (first
              | (refine Den.id ?_
                 (try (conv => arg 2; cbv))
                 first
                   | (refine Den.test (fun hr => ?_) (fun hr => ?_) <;> (have hb := hr) <;> (try simp (disch := omega) only [ho, std, wI, len_eK, len_eB, len_eNd, len_eLNd, len_eFc, len_eAb, len_eBd, len_eEd, len_eLBd, Int.ofNat_eq_natCast, Classical.not_not, decide_eq_true_eq, decide_eq_false_iff_not, beq_iff_eq, beq_eq_false_iff_ne, ne_eq, Bool.not_eq_true', Bool.not_eq_false', Bool.not_eq_true, Bool.not_eq_false, gt_iff_lt, ge_iff_le, Int.not_lt, Int.not_le] at hb) <;> (try (exfalso; first | contradiction | omega | exact hb rfl)))
                   | (refine Den.fetchXK ho ?_ ?_ (fun y hy => ?_); rotate_left 2; (rw [h0, rowI_at i1 (by omega)] at hy))
                   | (refine iha _ _ ?_ ⟨_, _, _, by subst ho; rfl, ?_, Nat.le_refl _⟩)
                   | (refine Den.done ⟨by first | exact Or.inl rfl | exact Or.inr rfl, ?_⟩; (conv => lhs; cbv) <;> refine congrArg some ?_))
              | ((fail_if_success (refine Den.id ?_))
                 first
                   | (subst ho; exact ⟨Int.le_refl _, by omega, by omega⟩)
                   | ((try clear iha); simp (disch := omega) only [ho, std, wI]; exact ⟨by omega, by omega, by omega⟩)
                   | (refine dI ?_; omega)
                   | assumption
                   | (subst ho; simp (disch := omega) only [std, wI, tdiv2, tdivN, len_eFc, len_eNd, len_eBd, len_eAb, len_eLBd, len_eK, len_eB] <;> first | done | rfl | omega)))))
    | ((fail_if_success (refine Den.id ?_))
       first
         | fail))
theorem laws_markText.ans {xa xb : Option (List D → Option D)} (o : Std) (ho : o = std) (k : Int) (h0 : 0 ≤ k ∧ k ≤ 100000000) : AnsP (env xa xb) 60 [.int .i64 k] (fun d_ => ∃ (r : ByteArray), d_ = .str (r) ∧ (True)) := by
  refine AnsP.mkA ho _ rfl rfl ?_
  repeat' (first
    | (refine Den.id ?_
       (try (conv => arg 2; cbv))
       first
         | (refine Den.test (fun hr => ?_) (fun hr => ?_) <;> (have hb := hr) <;> (try simp (disch := omega) only [ho, std, wI, len_eK, len_eB, len_eNd, len_eLNd, len_eFc, len_eAb, len_eBd, len_eEd, len_eLBd, Int.ofNat_eq_natCast, Classical.not_not, decide_eq_true_eq, decide_eq_false_iff_not, beq_iff_eq, beq_eq_false_iff_ne, ne_eq, Bool.not_eq_true', Bool.not_eq_false', Bool.not_eq_true, Bool.not_eq_false, gt_iff_lt, ge_iff_le, Int.not_lt, Int.not_le] at hb) <;> (try (exfalso; first | contradiction | omega | exact hb rfl)))
         | (refine Den.indF (fun m_ s_ => ∃ (a0 : Int) (a3 : ByteArray) (tk : List Nat), s_ = ⟨[.int .i64 a0, .junk, .junk, .str a3] ++ List.replicate 16 .junk, [], [], tk⟩ ∧ (0 ≤ a0 ∧ (a3.size : Int) + a0 ≤ k) ∧ a0.toNat ≤ m_) _ _ ⟨_, _, _, by subst ho; rfl, ?_, Nat.le_refl _⟩ ?_
            rotate_right
            rintro m_ _ ⟨a0, a3, tk, rfl, hIa, hka⟩ iha
            obtain ⟨i1, i2⟩ := hIa; refine Den.unloopA ho ?_
            repeat' (first
              | (refine Den.id ?_
                 (try (conv => arg 2; cbv))
                 first
                   | (refine Den.test (fun hr => ?_) (fun hr => ?_) <;> (have hb := hr) <;> (try simp (disch := omega) only [ho, std, wI, len_eK, len_eB, len_eNd, len_eLNd, len_eFc, len_eAb, len_eBd, len_eEd, len_eLBd, Int.ofNat_eq_natCast, Classical.not_not, decide_eq_true_eq, decide_eq_false_iff_not, beq_iff_eq, beq_eq_false_iff_ne, ne_eq, Bool.not_eq_true', Bool.not_eq_false', Bool.not_eq_true, Bool.not_eq_false, gt_iff_lt, ge_iff_le, Int.not_lt, Int.not_le] at hb) <;> (try (exfalso; first | contradiction | omega | exact hb rfl)))
                   | (refine Den.need ?_ ?_)
                   | (refine iha _ _ ?_ ⟨_, _, _, by subst ho; rfl, ?_, Nat.le_refl _⟩)
                   | (refine Den.done ⟨by first | exact Or.inl rfl | exact Or.inr rfl, ?_⟩; refine ⟨_, by (conv => lhs; cbv) <;> rfl, ?_⟩))
              | ((fail_if_success (refine Den.id ?_))
                 first
                   | (exact ⟨_, rfl, trivial⟩)
                   | (exact mt_ok ho (n := 100000000) (by omega) (by omega))
                   | (exact mt_ok1 ho (n := 100000000) (by omega) (by omega))
                   | (subst ho; exact ⟨(mt_step (x := 0) (show 0 < a0 by omega) i2 h0.2).1, (mt_step (show 0 < a0 by omega) i2 h0.2).2.1⟩)
                   | (exact ⟨h0.1, by have : (⟨⟨[]⟩⟩ : ByteArray).size = 0 := rfl; omega⟩)
                   | (subst ho; rfl)
                   | (subst ho; simp (disch := omega) only [std, wI, tdiv2, tdivN, len_eFc, len_eNd, len_eBd, len_eAb, len_eLBd, len_eK, len_eB] <;> first | done | rfl | omega))))
         | (refine Den.done ⟨by first | exact Or.inl rfl | exact Or.inr rfl, ?_⟩; refine ⟨_, by (conv => lhs; cbv) <;> rfl, ?_⟩))
    | ((fail_if_success (refine Den.id ?_))
       first
         | (exact ⟨_, rfl, trivial⟩)))
theorem laws_markIntS_0.ans {xa xb : Option (List D → Option D)} (o : Std) (ho : o = std) (a : List Int) (k : Int) (h0 : a.length = 0) : Ans (env xa xb) 24 [.sl .ro 1 (o.bx fun _ => eK .i64 a), .int .i64 k] (.int .i64 (k)) := by
  refine Ans.mkA ho _ rfl rfl ?_
  repeat' (first
    | (refine Den.id ?_
       (try (conv => arg 2; cbv))
       first
         | (refine Den.indF (fun m_ s_ => ∃ (a1 : Int) (a5 : Int) (tk : List Nat), s_ = ⟨[.sl .ro 1 (o.bx fun _ => eK .i64 a), .int .i64 a1, .junk, .junk, .junk, .int .i64 a5] ++ List.replicate 13 .junk, [], [], tk⟩ ∧ (a1 = k ∧ a5 = 0) ∧ (0 : Nat) ≤ m_) _ _ ⟨_, _, _, by subst ho; rfl, ?_, Nat.le_refl _⟩ ?_
            rotate_right
            rintro m_ _ ⟨a1, a5, tk, rfl, hIa, hka⟩ iha
            obtain ⟨i1, i2⟩ := hIa; refine Den.unloopA ho ?_
            repeat' (first
              | (refine Den.id ?_
                 (try (conv => arg 2; cbv))
                 first
                   | (refine Den.test (fun hr => ?_) (fun hr => ?_) <;> (have hb := hr) <;> (try simp (disch := omega) only [ho, std, wI, len_eK, len_eB, len_eNd, len_eLNd, len_eFc, len_eAb, len_eBd, len_eEd, len_eLBd, Int.ofNat_eq_natCast, Classical.not_not, decide_eq_true_eq, decide_eq_false_iff_not, beq_iff_eq, beq_eq_false_iff_ne, ne_eq, Bool.not_eq_true', Bool.not_eq_false', Bool.not_eq_true, Bool.not_eq_false, gt_iff_lt, ge_iff_le, Int.not_lt, Int.not_le] at hb) <;> (try (exfalso; first | contradiction | omega | exact hb rfl)))
                   | (refine Den.done ⟨by first | exact Or.inl rfl | exact Or.inr rfl, ?_⟩; (conv => lhs; cbv) <;> refine congrArg some ?_))
              | ((fail_if_success (refine Den.id ?_))
                 first
                   | omega
                   | (subst ho; simp [std, len_eFc, len_eNd, len_eBd, len_eAb, len_eLBd, len_eK, len_eB]; omega)))))
    | ((fail_if_success (refine Den.id ?_))
       first
         | fail))
theorem laws_markIntS.mark {xa xb : Option (List D → Option D)} (o : Std) (ho : o = std) (k : Int) (l : List Int) (n : Nat) (h0 : n = l.length) (h1 : l.length ≤ 1048576) (h2 : 0 ≤ k ∧ k ≤ 1) : Gns (env xa xb) 24 [.asl (.out 0) 1 n, .int .i64 k] [(o.bx fun _ => eK .i64 l)] [] (fun ds_ out_ _ _ => ds_ = [.int .i64 (k + n)] ∧ ∃ bx_, out_ = [bx_] ∧ (bx_ = (o.bx fun _ => eK .i64 (rowI k n)))) := by
  refine Gns.mkA (E := env xa xb) (f := 24) ho _ (by rfl) (by rfl) ?_
  repeat' (first
    | (refine Den.id ?_
       (try (conv => arg 2; cbv))
       first
         | (refine Den.indF (fun m_ s_ => ∃ (a1 : Int) (a5 : Int) (tk : List Nat) (bq : Box), s_ = ⟨[.asl (.out 0) 1 n, .int .i64 a1, .junk, .junk, .junk, .int .i64 a5] ++ List.replicate 13 .junk, [], [bq], tk⟩ ∧ (bq = (o.bx fun _ => eK .i64 (markO l k a5)) ∧ 0 ≤ a5 ∧ a5 ≤ n ∧ a1 = k + a5) ∧ (n - a5).toNat ≤ m_) _ _ ⟨_, _, _, _, by subst ho; rfl, ?_, Nat.le_refl _⟩ ?_
            rotate_right
            rintro m_ _ ⟨a1, a5, tk, bq, rfl, hIa, hka⟩ iha
            obtain ⟨rfl, i1, i2, i3⟩ := hIa; have hml := markO_len (l := l) (k := k) i1 (by omega); refine Den.unloopA ho ?_
            repeat' (first
              | (refine Den.id ?_
                 (try (conv => arg 2; cbv))
                 first
                   | (refine Den.test (fun hr => ?_) (fun hr => ?_) <;> (have hb := hr) <;> (try simp (disch := omega) only [ho, std, wI, len_eK, len_eB, len_eNd, len_eLNd, len_eFc, len_eAb, len_eBd, len_eEd, len_eLBd, Int.ofNat_eq_natCast, Classical.not_not, decide_eq_true_eq, decide_eq_false_iff_not, beq_iff_eq, beq_eq_false_iff_ne, ne_eq, Bool.not_eq_true', Bool.not_eq_false', Bool.not_eq_true, Bool.not_eq_false, gt_iff_lt, ge_iff_le, Int.not_lt, Int.not_le] at hb) <;> (try (exfalso; first | contradiction | omega | exact hb rfl)))
                   | (refine Den.fetchYK ho ?_ ?_ (by with_reducible assumption) ?_)
                   | (refine Den.fetchXK ho ?_ ?_ (fun y hy => ?_); rotate_left 2)
                   | (refine iha _ _ ?_ ⟨_, _, _, _, by subst ho; rfl, ?_, Nat.le_refl _⟩)
                   | (refine Den.done ⟨by first | exact Or.inl rfl | exact Or.inr rfl, ?_⟩; refine ⟨_, by (conv => lhs; cbv) <;> rfl, ?_, _, by rfl, ?_⟩))
              | ((fail_if_success (refine Den.id ?_))
                 first
                   | (subst ho; exact ⟨congrArg (eK .i64) (markO_zero l k).symm, Int.le_refl _, by omega, by omega⟩)
                   | (refine congrArg (fun x => [D.int .i64 x]) ?_; omega)
                   | (subst ho; refine congrArg (eK .i64) ?_; rw [h0]; exact markO_end (by omega) (by omega))
                   | ((try clear iha); subst ho; simp (disch := omega) only [std, wI]; exact ⟨markO_set i1 (by omega) i3, by omega, by omega, by omega⟩)
                   | assumption
                   | omega
                   | (subst ho; simp (disch := omega) only [std, wI, tdiv2, tdivN, len_eFc, len_eNd, len_eBd, len_eAb, len_eLBd, len_eK, len_eB] <;> first | done | rfl | omega)))))
    | ((fail_if_success (refine Den.id ?_))
       first
         | fail))
theorem laws_markNodeS_0.ans {xa xb : Option (List D → Option D)} (o : Std) (ho : o = std) (a : List Nd) (k : Int) (h0 : a.length = 0) : Ans (env xa xb) 23 [.sl .ro 7 (o.bx fun _ => eNd a), .int .i64 k] (.int .i64 (k)) := by
  refine Ans.mkA ho _ rfl rfl ?_
  repeat' (first
    | (refine Den.id ?_
       (try (conv => arg 2; cbv))
       first
         | (refine Den.indF (fun m_ s_ => ∃ (a1 : Int) (a5 : Int) (tk : List Nat), s_ = ⟨[.sl .ro 7 (o.bx fun _ => eNd a), .int .i64 a1, .junk, .junk, .junk, .int .i64 a5] ++ List.replicate 58 .junk, [], [], tk⟩ ∧ (a1 = k ∧ a5 = 0) ∧ (0 : Nat) ≤ m_) _ _ ⟨_, _, _, by subst ho; rfl, ?_, Nat.le_refl _⟩ ?_
            rotate_right
            rintro m_ _ ⟨a1, a5, tk, rfl, hIa, hka⟩ iha
            obtain ⟨i1, i2⟩ := hIa; refine Den.unloopA ho ?_
            repeat' (first
              | (refine Den.id ?_
                 (try (conv => arg 2; cbv))
                 first
                   | (refine Den.test (fun hr => ?_) (fun hr => ?_) <;> (have hb := hr) <;> (try simp (disch := omega) only [ho, std, wI, len_eK, len_eB, len_eNd, len_eLNd, len_eFc, len_eAb, len_eBd, len_eEd, len_eLBd, Int.ofNat_eq_natCast, Classical.not_not, decide_eq_true_eq, decide_eq_false_iff_not, beq_iff_eq, beq_eq_false_iff_ne, ne_eq, Bool.not_eq_true', Bool.not_eq_false', Bool.not_eq_true, Bool.not_eq_false, gt_iff_lt, ge_iff_le, Int.not_lt, Int.not_le] at hb) <;> (try (exfalso; first | contradiction | omega | exact hb rfl)))
                   | (refine Den.done ⟨by first | exact Or.inl rfl | exact Or.inr rfl, ?_⟩; (conv => lhs; cbv) <;> refine congrArg some ?_))
              | ((fail_if_success (refine Den.id ?_))
                 first
                   | omega
                   | (subst ho; simp [std, len_eFc, len_eNd, len_eBd, len_eAb, len_eLBd, len_eK, len_eB]; omega)))))
    | ((fail_if_success (refine Den.id ?_))
       first
         | fail))
theorem laws_markNodeS.mark {xa xb : Option (List D → Option D)} (o : Std) (ho : o = std) (k : Int) (l : List Nd) (n : Nat) (h0 : n = l.length) (h1 : l.length ≤ 1048576) (h2 : 0 ≤ k ∧ k ≤ 1) : Gns (env xa xb) 23 [.asl (.out 0) 7 n, .int .i64 k] [(o.bx fun _ => eNd l)] [] (fun ds_ out_ _ _ => ds_ = [.int .i64 (k + 7 * n)] ∧ ∃ bx_, out_ = [bx_] ∧ (∃ m : List Nd, bx_ = (o.bx fun _ => eNd m) ∧ m.length = n)) := by
  refine Gns.mkA (E := env xa xb) (f := 23) ho _ (by rfl) (by rfl) ?_
  repeat' (first
    | (refine Den.id ?_
       (try (conv => arg 2; cbv))
       first
         | (refine Den.indF (fun m_ s_ => ∃ (a1 : Int) (a5 : Int) (tk : List Nat) (bq : Box), s_ = ⟨[.asl (.out 0) 7 n, .int .i64 a1, .junk, .junk, .junk, .int .i64 a5] ++ List.replicate 58 .junk, [], [bq], tk⟩ ∧ ((∃ mm : List Nd, bq = (o.bx fun _ => eNd mm) ∧ mm.length = n) ∧ 0 ≤ a5 ∧ a5 ≤ n ∧ a1 = k + 7 * a5) ∧ (n - a5).toNat ≤ m_) _ _ ⟨_, _, _, _, by subst ho; rfl, ?_, Nat.le_refl _⟩ ?_
            rotate_right
            rintro m_ _ ⟨a1, a5, tk, bq, rfl, hIa, hka⟩ iha
            obtain ⟨⟨mm, rfl, hml⟩, i1, i2, i3⟩ := hIa; refine Den.unloopA ho ?_
            repeat' (first
              | (refine Den.id ?_
                 (try (conv => arg 2; cbv))
                 first
                   | (refine Den.test (fun hr => ?_) (fun hr => ?_) <;> (have hb := hr) <;> (try simp (disch := omega) only [ho, std, wI, len_eK, len_eB, len_eNd, len_eLNd, len_eFc, len_eAb, len_eBd, len_eEd, len_eLBd, Int.ofNat_eq_natCast, Classical.not_not, decide_eq_true_eq, decide_eq_false_iff_not, beq_iff_eq, beq_eq_false_iff_ne, ne_eq, Bool.not_eq_true', Bool.not_eq_false', Bool.not_eq_true, Bool.not_eq_false, gt_iff_lt, ge_iff_le, Int.not_lt, Int.not_le] at hb) <;> (try (exfalso; first | contradiction | omega | exact hb rfl)))
                   | (refine Den.fetchS ho ?_ ?_ ?_)
                   | (refine Den.pcallP (as' := [.int .i64 _]) (by first | with_reducible rfl | (subst ho; rfl)) (laws_markText.ans o ho _ ?_) ?_; rotate_left 1; rintro _ ⟨r, rfl, hv⟩)
                   | (refine Den.fetchYNd ho ?_ ?_ (by with_reducible assumption) ?_)
                   | (refine Den.fetchXNd ho ?_ ?_ (fun y hy => ?_); rotate_left 2; rcases y with ⟨y0, y1, y2, y3, y4, y5, y6⟩)
                   | (refine iha _ _ ?_ ⟨_, _, _, _, by subst ho; rfl, ?_, Nat.le_refl _⟩)
                   | (refine Den.done ⟨by first | exact Or.inl rfl | exact Or.inr rfl, ?_⟩; refine ⟨_, by (conv => lhs; cbv) <;> rfl, ?_, _, by rfl, ?_⟩))
              | ((fail_if_success (refine Den.id ?_))
                 first
                   | (subst ho; exact ⟨⟨l, rfl, h0.symm⟩, Int.le_refl _, by omega, by omega⟩)
                   | (refine congrArg (fun x => [D.int .i64 x]) ?_; omega)
                   | (exact ⟨mm, rfl, hml⟩)
                   | (subst ho; simp only [len_setAt]; simp only [std, len_eNd]; omega)
                   | ((try clear iha); subst ho; simp (disch := omega) only [std, wI, List.set_set, setNd]; exact ⟨⟨_, rfl, by rw [List.length_set]; exact hml⟩, by omega, by omega, by omega⟩)
                   | assumption
                   | omega
                   | (subst ho; simp [std, len_eFc, len_eNd, len_eBd, len_eAb, len_eLBd, len_eK, len_eB]; omega)
                   | (subst ho; simp (disch := omega) only [std, wI, tdiv2, tdivN, len_eFc, len_eNd, len_eBd, len_eAb, len_eLBd, len_eK, len_eB] <;> first | done | rfl | omega)))))
    | ((fail_if_success (refine Den.id ?_))
       first
         | fail))
end Go.Mach
end
section
set_option linter.unusedVariables false
set_option linter.unusedSimpArgs false
namespace Go.Proofs
open Go.Shelf
def Tryz.sortFc_ren : Go.Shelf.Ren := ⟨fun | 6 => 146 | 15 => 127 | 14 => 189 | 28 => 162 | 29 => 163 | 20 => 206 | 21 => 207 | 22 => 208 | 23 => 209 | 24 => 210 | 25 => 211 | 26 => 212 | 27 => 213 | 46 => 222 | 47 => 223 | 48 => 224 | 49 => 225 | 50 => 226 | 57 => 232 | n => n, fun | 22 => 36 | 24 => 55 | 25 => 129 | 3 => 3 | 39 => 125 | 0 => 0 | 53 => 150 | 55 => 152 | 4 => 4 | 46 => 190 | 45 => 189 | 50 => 159 | 5 => 5 | 9 => 9 | 66 => 203 | 70 => 179 | 76 => 208 | 77 => 196 | n => n, fun | n => n⟩
theorem Tryz.sortFc : Go.Proofs.SlLaysF0.n6 Tryz.prog Tryz.sortFc_ren := {
  mixed := by kernel_rfl
  f6 := ⟨Tryz.f146.name, by decide, Tryz.func146.trans (congrArg some (by kernel_rfl))⟩
  f14 := ⟨Tryz.f189.name, by decide, Tryz.func189.trans (congrArg some (by kernel_rfl))⟩
  f15 := Tryz.func127.trans (congrArg some (by kernel_rfl))
  f20 := ⟨Tryz.f206.name, by decide, Tryz.func206.trans (congrArg some (by kernel_rfl))⟩
  f21 := ⟨Tryz.f207.name, by decide, Tryz.func207.trans (congrArg some (by kernel_rfl))⟩
  f22 := ⟨Tryz.f208.name, by decide, Tryz.func208.trans (congrArg some (by kernel_rfl))⟩
  f23 := ⟨Tryz.f209.name, by decide, Tryz.func209.trans (congrArg some (by kernel_rfl))⟩
  f24 := ⟨Tryz.f210.name, by decide, Tryz.func210.trans (congrArg some (by kernel_rfl))⟩
  f25 := ⟨Tryz.f211.name, by decide, Tryz.func211.trans (congrArg some (by kernel_rfl))⟩
  f26 := ⟨Tryz.f212.name, by decide, Tryz.func212.trans (congrArg some (by kernel_rfl))⟩
  f27 := ⟨Tryz.f213.name, by decide, Tryz.func213.trans (congrArg some (by kernel_rfl))⟩
  f28 := Tryz.func162.trans (congrArg some (by kernel_rfl))
  f29 := Tryz.func163.trans (congrArg some (by kernel_rfl))
  f46 := ⟨Tryz.f222.name, by decide, Tryz.func222.trans (congrArg some (by kernel_rfl))⟩
  f47 := Tryz.func223.trans (congrArg some (by kernel_rfl))
  f48 := Tryz.func224.trans (congrArg some (by kernel_rfl))
  f49 := ⟨Tryz.f225.name, by decide, Tryz.func225.trans (congrArg some (by kernel_rfl))⟩
  f50 := ⟨Tryz.f226.name, by decide, Tryz.func226.trans (congrArg some (by kernel_rfl))⟩
  f57 := ⟨Tryz.f232.name, by decide, Tryz.func232.trans (congrArg some (by kernel_rfl))⟩
  t0 := Tryz.underlying0
  a0 := Tryz.isAgg0
  z0 := Tryz.sizeOf0
  v0 := Tryz.zeroValue0
  t3 := Tryz.underlying3
  a3 := Tryz.isAgg3
  z3 := Tryz.sizeOf3
  v3 := Tryz.zeroValue3
  t4 := Tryz.underlying4
  a4 := Tryz.isAgg4
  z4 := Tryz.sizeOf4
  v4 := Tryz.zeroValue4
  t5 := Tryz.underlying5
  a5 := Tryz.isAgg5
  z5 := Tryz.sizeOf5
  v5 := Tryz.zeroValue5
  t9 := Tryz.underlying9
  a9 := Tryz.isAgg9
  z9 := Tryz.sizeOf9
  v9 := Tryz.zeroValue9
  t22 := Tryz.underlying36
  a22 := Tryz.isAgg36
  z22 := Tryz.sizeOf36
  v22 := Tryz.zeroValue36
  t25 := Tryz.underlying129
  a25 := Tryz.isAgg129
  z25 := Tryz.sizeOf129
  v25 := Tryz.zeroValue129
  t39 := Tryz.underlying125
  a39 := Tryz.isAgg125
  z39 := Tryz.sizeOf125
  v39 := Tryz.zeroValue125
  t45 := Tryz.underlying189
  a45 := Tryz.isAgg189
  z45 := Tryz.sizeOf189
  v45 := Tryz.zeroValue189
  t46 := Tryz.underlying190
  a46 := Tryz.isAgg190
  z46 := Tryz.sizeOf190
  v46 := Tryz.zeroValue190
  t50 := Tryz.underlying159
  a50 := Tryz.isAgg159
  z50 := Tryz.sizeOf159
  v50 := Tryz.zeroValue159
  t53 := Tryz.underlying150
  a53 := Tryz.isAgg150
  z53 := Tryz.sizeOf150
  v53 := Tryz.zeroValue150
  t55 := Tryz.underlying152
  a55 := Tryz.isAgg152
  z55 := Tryz.sizeOf152
  v55 := Tryz.zeroValue152
  t66 := Tryz.underlying203
  a66 := Tryz.isAgg203
  z66 := Tryz.sizeOf203
  v66 := Tryz.zeroValue203
  t70 := Tryz.underlying179
  a70 := Tryz.isAgg179
  z70 := Tryz.sizeOf179
  v70 := Tryz.zeroValue179
  t76 := Tryz.underlying208
  a76 := Tryz.isAgg208
  z76 := Tryz.sizeOf208
  v76 := Tryz.zeroValue208
  t77 := Tryz.underlying196
  a77 := Tryz.isAgg196
  z77 := Tryz.sizeOf196
  v77 := Tryz.zeroValue196 }
end Go.Proofs
end
section
set_option linter.unusedVariables false
set_option linter.unusedSimpArgs false
namespace Go.Mach
open Go Go.RowKit Go.Proofs
set_option maxRecDepth 100000
def zeroChk : List D → List Value → Bool
  | [], [] => true
  | .int k n :: l, .int k' n' :: m => decide (k = k') && (decide (n = n') && zeroChk l m)
  | .bool a :: l, .bool b :: m => (a == b) && zeroChk l m
  | .str a :: l, .string b :: m => a.data.toList.isEmpty && (b.data.toList.isEmpty && zeroChk l m)
  | .sl .nil _ [] :: l, .slice none 0 0 :: m => zeroChk l m
  | .pnil :: l, .pointer none :: m => zeroChk l m
  | _, _ => false
theorem empty_ba {a : ByteArray} (h : a.data.toList.isEmpty = true) : a = ⟨#[]⟩ := by
  obtain ⟨⟨l⟩⟩ := a
  cases l with
  | nil => rfl
  | cons x l => cases h
theorem zero_cons {d : D} {v : Value} {l : List D} {m : List Value} (hd : d.cell = true) (hr : ∀ σ w, RD σ w d v) (h : m.length = l.length ∧ ∀ i, i < l.length → (l.getD i .junk).cell = true ∧ ∀ σ w, RD σ w (l.getD i .junk) (m.getD i undef)) :
    (v :: m).length = (d :: l).length ∧ ∀ i, i < (d :: l).length → ((d :: l).getD i .junk).cell = true ∧ ∀ σ w, RD σ w ((d :: l).getD i .junk) ((v :: m).getD i undef) := by
  refine ⟨by simp [h.1], fun i hi => ?_⟩
  cases i with
  | zero => exact ⟨hd, hr⟩
  | succ i => exact h.2 i (by simpa using hi)
theorem zeroChk_ok : ∀ (l : List D) (m : List Value), zeroChk l m = true → m.length = l.length ∧ ∀ i, i < l.length → (l.getD i .junk).cell = true ∧ ∀ σ w, RD σ w (l.getD i .junk) (m.getD i undef) := by
  intro l m h
  induction l, m using zeroChk.induct with
  | case1 => exact ⟨rfl, fun i hi => by simp at hi⟩
  | case2 k n l k' n' m ih =>
    simp only [zeroChk, Bool.and_eq_true, decide_eq_true_eq] at h
    obtain ⟨rfl, rfl, h⟩ := h
    exact zero_cons rfl (fun σ w => .int _ _) (ih h)
  | case3 a l b m ih =>
    simp only [zeroChk, Bool.and_eq_true, beq_iff_eq] at h
    obtain ⟨rfl, h⟩ := h
    exact zero_cons rfl (fun σ w => .bool _) (ih h)
  | case4 a l b m ih =>
    simp only [zeroChk, Bool.and_eq_true] at h
    obtain ⟨h1, h2, h⟩ := h
    rw [empty_ba h1, empty_ba h2]
    exact zero_cons rfl (fun σ w => .str _) (ih h)
  | case5 z l m ih => exact zero_cons rfl (fun σ w => .slN _ _) (ih (by simpa [zeroChk] using h))
  | case6 l m ih => exact zero_cons rfl (fun σ w => .pnil) (ih (by simpa [zeroChk] using h))
  | case7 l m => simp [zeroChk] at h
def kChk (P : Program) (t : TypeId) (k : Mach.K) : Bool :=
  match k, P.underlying t with
  | .bool, some .bool => true
  | .int k, some (.int k') => decide (k = k')
  | .str, some .string => true
  | .ptr e, some (.pointer e') => decide (e' = e)
  | .sl e z b, some (.slice e') => decide (e' = e) && (decide (0 < z) && (match P.info? e with
    | some ie => match ie.zero with
      | some zv => decide (ie.size = z) && (decide (ie.bytes = b) && decide (zv.cells.size = z))
      | none => false
    | none => false))
  | .st fs, some (.struct gs) => decide (gs.size = fs.length) && (List.range fs.length).all fun n => match fs[n]?, gs[n]? with
    | some (o, z, ag), some f => match P.underlying f.type, P.info? f.type with
      | some d, some fi => decide (f.offset = o) && ((d.isRow == ag) && decide (fi.size = z))
      | _, _ => false
    | _, _ => false
  | .other, _ => true
  | _, _ => false
def iChk (P : Program) (t : TypeId) (i : TyI) : Bool :=
  match P.info? t with
  | some ie => match ie.zero with
    | some zv => decide (ie.size = i.size) && zeroChk i.zero zv.cells.toList
    | none => false
  | none => false
theorem tyChk_ok {P : Program} {t : TypeId} {i : TyI} (hk : kChk P t i.k = true) (hi : iChk P t i = true) : TyOk P t i := by
  unfold kChk at hk
  refine ⟨fun e => ?_, fun k e => ?_, fun e => ?_, fun x e => ?_, fun x z b e => ?_, fun fs e => ?_, fun _ => ?_⟩
  · rw [e] at hk
    split at hk <;> first | contradiction | assumption
  · rw [e] at hk
    split at hk <;> first | contradiction | (rename_i h1 h2; cases h1; simp only [decide_eq_true_eq] at hk; rw [hk]; assumption)
  · rw [e] at hk
    split at hk <;> first | contradiction | assumption
  · rw [e] at hk
    split at hk <;> first | contradiction | (rename_i h1 h2; cases h1; simp only [decide_eq_true_eq] at hk; rw [← hk]; assumption)
  · rw [e] at hk
    split at hk <;> first
      | contradiction
      | (rename_i h1 h2
         cases h1
         simp only [Bool.and_eq_true, decide_eq_true_eq] at hk
         obtain ⟨q1, q2, q3⟩ := hk
         split at q3
         · rename_i ie hie
           split at q3
           · rename_i zv hzv
             simp only [Bool.and_eq_true, decide_eq_true_eq] at q3
             exact ⟨by rw [← q1]; assumption, q2, ie, zv, hie, q3.1, q3.2.1, hzv, q3.2.2⟩
           · cases q3
         · cases q3)
  · rw [e] at hk
    split at hk <;> first
      | contradiction
      | (rename_i gs h1 h2
         cases h1
         simp only [Bool.and_eq_true, decide_eq_true_eq] at hk
         refine ⟨gs, by assumption, hk.1, fun n o z ag hf => ?_⟩
         have hn := (List.getElem?_eq_some_iff.1 hf).1
         have := List.all_eq_true.1 hk.2 n (List.mem_range.2 hn)
         rw [hf] at this
         split at this
         · rename_i o' z' ag' f q1 q2
           cases q1
           split at this
           · rename_i d fi q3 q4
             simp only [Bool.and_eq_true, decide_eq_true_eq, beq_iff_eq] at this
             exact ⟨f, d, q2, this.1, q3, by rw [this.2.1], fi, q4, this.2.2⟩
           · cases this
         · cases this)
  · unfold iChk at hi
    split at hi
    · rename_i ie hie
      split at hi
      · rename_i zv hzv
        simp only [Bool.and_eq_true, decide_eq_true_eq] at hi
        have hz := zeroChk_ok _ _ hi.2
        refine ⟨ie, zv, hie, hi.1, hzv, by rw [← hz.1, Array.length_toList], fun j hj => ?_⟩
        have := hz.2 j hj
        refine ⟨this.1, fun σ w => ?_⟩
        have h2 := this.2 σ w
        have e : zv.cells.toList.getD j undef = zv.cells.getD j undef := by simp [List.getD_eq_getElem?_getD, Array.getD_eq_getD_getElem?]
        rw [e] at h2; exact h2
      · cases hi
    · cases hi
theorem tyOther {P : Program} {t : TypeId} : TyOk P t ⟨.other, 0, 0, [], false⟩ :=
  ⟨fun e => (by cases e), fun k e => (by cases e), fun e => (by cases e), fun x e => (by cases e), fun x z b e => (by cases e), fun fs e => (by cases e), fun h => absurd rfl h⟩
theorem ty_ok : ∀ t, TyOk Tryz.prog t (ty t) := by
  intro t
  unfold ty
  split <;> first | exact tyOther | exact tyChk_ok (by kernel_rfl) (by kernel_rfl)
end Go.Mach
end
