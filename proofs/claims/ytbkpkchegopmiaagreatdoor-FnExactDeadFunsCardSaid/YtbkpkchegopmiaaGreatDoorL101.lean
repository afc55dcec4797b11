/- FnExactDeadFuns: the law: part 34 of a proof by an executable machine over the program's code. -/
import Derived.Test.YtbkpkchegopmiaaGreatDoorMb13
import Derived.Test.YtbkpkchegopmiaaGreatDoorMb16
import Derived.Test.YtbkpkchegopmiaaGreatDoorMb17
import Derived.Test.YtbkpkchegopmiaaGreatDoorMb23
import Derived.Test.YtbkpkchegopmiaaGreatDoorMb31
import Derived.Test.YtbkpkchegopmiaaGreatDoorMb32
section
set_option linter.unusedVariables false
set_option linter.unusedSimpArgs false
namespace Go.Mach
open Go Go.RowKit Go.Proofs
set_option maxRecDepth 100000
set_option maxHeartbeats 6000000
theorem impl_withInt.ans {xa xb : Option (List D → Option D)} (o : Std) (ho : o = std) (l : List Int) (n : Int) (h0 : l.length ≤ 1048576) : Ans (env xa xb) 59 [.sl .nw 1 (o.bx fun _ => eK .i64 l), .int .i64 n] (.sl .nw 1 (o.bx fun _ => eK .i64 (insI n l))) := by
  refine Ans.mkA ho _ rfl rfl ?_
  repeat' (first
    | (refine Den.id ?_
       (try (conv => arg 2; cbv))
       first
         | (refine Den.indF (fun m_ s_ => ∃ (a5 : Int) (tk : List Nat), s_ = ⟨[.sl .nw 1 (o.bx fun _ => eK .i64 l), .int .i64 n, .junk, .junk, .junk, .int .i64 a5] ++ List.replicate 38 .junk, [], [], tk⟩ ∧ (0 ≤ a5 ∧ a5 ≤ l.length ∧ (∀ y ∈ l.take a5.toNat, y < n)) ∧ (l.length - a5).toNat ≤ m_) _ _ ⟨_, _, by subst ho; rfl, ?_, Nat.le_refl _⟩ ?_
            rotate_right
            rintro m_ _ ⟨a5, tk, rfl, hIa, hka⟩ iha
            obtain ⟨i1, i2, i3⟩ := hIa; refine Den.unloopA ho ?_
            repeat' (first
              | (refine Den.id ?_
                 (try (conv => arg 2; cbv))
                 first
                   | refine Den.testF ?_
                   | refine Den.test1 (by with_reducible assumption) ?_
                   | refine Den.test0 (by with_reducible assumption) ?_
                   | (refine Den.test (fun hr => ?_) (fun hr => ?_) <;> (have hb := hr) <;> (try simp (disch := omega) only [ho, std, wI, len_eK, len_eB, len_eNd, len_eLNd, len_eFc, len_eAb, len_eBd, len_eEd, len_eLBd, Classical.not_not, decide_eq_true_eq, decide_eq_false_iff_not, beq_iff_eq, beq_eq_false_iff_ne, ne_eq, Bool.not_eq_true', Bool.not_eq_false', Bool.not_eq_true, Bool.not_eq_false, gt_iff_lt, ge_iff_le, Int.not_lt, Int.not_le] at hb) <;> (try (exfalso; first | contradiction | omega | exact hb rfl)))
                   | (refine Den.fetchYK ho ?_ ?_ (by with_reducible assumption) ?_)
                   | (refine Den.fetchXK ho ?_ ?_ (fun y hy => ?_); rotate_left 2; (have hyk := hy))
                   | (refine Den.needD ho (by kernel_rfl) ?_)
                   | (refine Den.need ?_ ?_)
                   | (refine Den.app1w ?_ (fun t' tk' hl' => ?_))
                   | (refine iha _ _ ?_ ⟨_, _, by subst ho; rfl, ?_, Nat.le_refl _⟩)
                   | (refine Den.done ⟨by first | exact Or.inl rfl | exact Or.inr rfl, ?_⟩; (conv => lhs; cbv) <;> refine congrArg some ?_))
              | ((fail_if_success (refine Den.id ?_))
                 first
                   | (subst ho; exact ⟨Int.le_refl _, by omega, fun y h => by simp at h⟩)
                   | (simp (disch := omega) only [ho, std, wI]; exact ⟨by omega, by omega, lt_step i1 (by omega) i3 hyk (by assumption)⟩)
                   | (refine congrArg (D.sl Tok.nw 1) ?_; subst ho; exact congrArg (eK .i64) (insI_hit i1 i3 (by omega) (by rw [hyk]; assumption)).symm)
                   | (subst ho; exact Lw.nil)
                   | (subst ho; rcases Lw.kind hl' with rfl | ⟨_, rfl⟩ <;> (refine congrArg (D.sl Tok.nw 1) ?_; simp only [std]; rw [insI_put i1 i3 (fun h => by first | omega | (rw [hyk]; omega))]; simp [eK, List.map_take, List.map_drop, List.take_of_length_le]))
                   | assumption
                   | (subst ho; simpa [std, len_eFc, len_eNd, len_eBd, len_eAb, len_eLBd, len_eK, len_eB] using hl')
                   | (subst ho; simp [std, len_eFc, len_eNd, len_eBd, len_eAb, len_eLBd, len_eK, len_eB]; omega)
                   | (subst ho; simp (disch := omega) only [std, wI, tdiv2, tdivN, len_eFc, len_eNd, len_eBd, len_eAb, len_eLBd, len_eK, len_eB] <;> first | done | rfl | omega)))))
    | ((fail_if_success (refine Den.id ?_))
       first
         | fail))
theorem spec_l12Int.ans {xa xb : Option (List D → Option D)} (o : Std) (ho : o = std) (l : List Int) (x : Int) (h0 : RisI l) (h1 : l.length ≤ 1048576) : Ans (env xa xb) 58 [.sl .ro 1 (o.bx fun _ => eK .i64 l), .int .i64 x] (.sl .ro 1 (o.bx fun _ => eK .i64 (insI x l))) := by
  refine Ans.mkA ho _ rfl rfl ?_
  repeat' (first
    | (refine Den.id ?_
       (try (conv => arg 2; cbv))
       first
         | (refine Den.indF (fun m_ s_ => ∃ (ea5 : Box) (a6 : Bool) (a7 : Int) (ta5 : Tok) (tk : List Nat), s_ = ⟨[.sl .ro 1 (o.bx fun _ => eK .i64 l), .int .i64 x, .junk, .junk, .junk, .sl ta5 1 ea5, .bool a6, .int .i64 a7] ++ List.replicate 42 .junk, [], [], tk⟩ ∧ Lv tk ta5 ea5.length ∧ ea5 = (o.bx fun _ => eK .i64 (l12O x l a7 a6)) ∧ (0 ≤ a7 ∧ a7 ≤ l.length ∧ (a6 = false → ∀ y ∈ l.take a7.toNat, y < x) ∧ (a6 = true → ∀ y ∈ l.drop a7.toNat, x < y)) ∧ (l.length - a7).toNat ≤ m_) _ _ ⟨_, _, _, _, _, by subst ho; rfl, ?_, ?_, ?_, Nat.le_refl _⟩ ?_
            rotate_right
            rintro m_ _ ⟨ea5, a6, a7, ta5, tk, rfl, hla0, rfl, hIa, hka⟩ iha
            obtain ⟨i1, i2, i3, i4⟩ := hIa; have hol := len_l12O x l a7 a6; refine Den.unloopA ho ?_
            repeat' (first
              | (refine Den.id ?_
                 (try (conv => arg 2; cbv))
                 first
                   | refine Den.testF ?_
                   | refine Den.test1 (by with_reducible assumption) ?_
                   | refine Den.test0 (by with_reducible assumption) ?_
                   | (refine Den.test (fun hr => ?_) (fun hr => ?_) <;> (have hb := hr) <;> (try simp (disch := omega) only [ho, std, wI, len_eK, len_eB, len_eNd, len_eLNd, len_eFc, len_eAb, len_eBd, len_eEd, len_eLBd, Classical.not_not, decide_eq_true_eq, decide_eq_false_iff_not, beq_iff_eq, beq_eq_false_iff_ne, ne_eq, Bool.not_eq_true', Bool.not_eq_false', Bool.not_eq_true, Bool.not_eq_false, gt_iff_lt, ge_iff_le, Int.not_lt, Int.not_le] at hb) <;> (try (exfalso; first | contradiction | omega | exact hb rfl)))
                   | (refine Den.fetchYK ho ?_ ?_ (by with_reducible assumption) ?_)
                   | (refine Den.fetchXK ho ?_ ?_ (fun y hy => ?_); rotate_left 2; (have hyk := hy))
                   | (refine Den.need ?_ ?_)
                   | (refine Den.app1 ?_ (fun t' tk' hl' => ?_))
                   | (refine iha _ _ ?_ ⟨_, _, _, _, _, by subst ho; rfl, ?_, ?_, ?_, Nat.le_refl _⟩)
                   | (refine Den.done ⟨by first | exact Or.inl rfl | exact Or.inr rfl, ?_⟩; (conv => lhs; cbv) <;> refine congrArg some ?_))
              | ((fail_if_success (refine Den.id ?_))
                 first
                   | (exact Lv.cap _)
                   | (subst ho; exact hla0)
                   | (subst ho; exact ⟨Int.le_refl _, by omega, fun _ y h => by simp at h, fun h => by cases h⟩)
                   | (refine congrArg (D.sl Tok.ro 1) ?_; subst ho; exact congrArg (eK .i64) (insI_mem h0 (by have := rdG_mem (z := 0) i1 (show a7 < l.length by omega); rw [show rdG 0 l a7 = _ from hyk] at this; simp_all)).symm)
                   | ((try clear iha); subst ho; simp (disch := omega) only [std, wI]; first | exact push2I (l12_putD (by assumption) i1 (by omega) i3 hyk (by assumption)) | exact pushI (l12_go i1 (by omega) a6 hyk (fun h => gt_at i1 (by omega) (i4 h) hyk)))
                   | ((try clear iha); subst ho; simp (disch := omega) only [std, wI]; exact ⟨by omega, by omega, fun h => by first | exact absurd h (by decide) | exact lt_step i1 (by omega) (i3 h) hyk (by omega) | exact absurd (h.symm.trans (show _ = true by assumption)) (by decide), fun h => by first | exact gt_ris h0 i1 (by omega) hyk (by assumption) | exact gt_step i1 (by omega) (i4 h)⟩)
                   | (refine congrArg (D.sl Tok.ro 1) ?_; subst ho; first | exact pushI (l12_fin (by assumption) (by omega) i3) | exact congrArg (eK .i64) (l12_finT (by assumption) (by omega)).symm)
                   | assumption
                   | (subst ho; rfl)
                   | (subst ho; simpa [std, len_eFc, len_eNd, len_eBd, len_eAb, len_eLBd, len_eK, len_eB] using hl')
                   | (subst ho; simp [std, len_eFc, len_eNd, len_eBd, len_eAb, len_eLBd, len_eK, len_eB]; omega)
                   | (subst ho; simp (disch := omega) only [std, wI, tdiv2, tdivN, len_eFc, len_eNd, len_eBd, len_eAb, len_eLBd, len_eK, len_eB] <;> first | done | rfl | omega)))))
    | ((fail_if_success (refine Den.id ?_))
       first
         | fail))
end Go.Mach
end
section
set_option linter.unusedVariables false
set_option linter.unusedSimpArgs false
namespace Go.Mach
open Go Go.RowKit Go.Proofs
set_option maxRecDepth 100000
set_option maxHeartbeats 6000000
theorem spec_SeenNodes.ans {xa xb : Option (List D → Option D)} (o : Std) (ho : o = std) (l : List Nd) (dp : Int) (h0 : Sz l) (h1 : l.length ≤ 1048576) : Ans (env xa xb) 28 [.sl .ro 7 (o.bx fun _ => eNd l), .int .i64 dp] (.sl .ro 1 (o.bx fun _ => eK .i64 (seenM l dp))) := by
  refine Ans.mkA ho _ rfl rfl ?_
  have hall := solveR_all l dp
  repeat' (first
    | (refine Den.id ?_
       (try (conv => arg 2; cbv))
       first
         | (refine Den.pcallE (β := (List Fc) × Bool) (fun v => .tup [.sl .ro 6 (o.bx fun _ => eFc v.1), .bool v.2]) (as' := [.sl .ro 7 (o.bx fun _ => eNd _), .int .i64 _]) (by first | with_reducible rfl | (subst ho; rfl)) (spec_Solve.ans o ho _ _ ?_ ?_) ?_; rotate_left 2; rintro ⟨v0, (_ | _)⟩ hv <;> (try simp only [decide_eq_true_eq, decide_eq_false_iff_not] at hv) <;> (try first | contradiction | exact absurd (hv.symm.trans (show _ = false by assumption)) (by decide) | exact absurd (hv.symm.trans (show _ = true by assumption)) (by decide)))
         | (refine Den.indF (fun m_ s_ => ∃ (a6 : List Fc) (a8 : Int) (ta6 : Tok) (tk : List Nat) (tq : Tok) (bq : Box), s_ = ⟨[.junk, .junk, .junk, .junk, .junk, .sl tq 1 bq, .sl ta6 6 (o.bx fun _ => eFc a6), .junk, .int .i64 a8] ++ List.replicate 27 .junk, [], [], tk⟩ ∧ (bq = (o.bx fun _ => eK .i64 (collI seenP Fc.n (a6.take a8.toNat))) ∧ a6 = (solveR l dp).1 ∧ 0 ≤ a8 ∧ a8 ≤ a6.length) ∧ (a6.length - a8).toNat ≤ m_) _ _ ⟨_, _, _, _, _, _, by subst ho; rfl, ?_, Nat.le_refl _⟩ ?_
            rotate_right
            rintro m_ _ ⟨a6, a8, ta6, tk, tq, bq, rfl, hIa, hka⟩ iha
            obtain ⟨rfl, rfl, i1, i2⟩ := hIa; have hcl := coll_lenT seenP Fc.n hall.1 a8.toNat; refine Den.unloopA ho ?_
            repeat' (first
              | (refine Den.id ?_
                 (try (conv => arg 2; cbv))
                 first
                   | (refine Den.test (fun hr => ?_) (fun hr => ?_) <;> (have hb := hr) <;> (try simp (disch := omega) only [ho, std, wI, len_eK, len_eB, len_eNd, len_eLNd, len_eFc, len_eAb, len_eBd, len_eEd, len_eLBd, Classical.not_not, decide_eq_true_eq, decide_eq_false_iff_not, beq_iff_eq, beq_eq_false_iff_ne, ne_eq, Bool.not_eq_true', Bool.not_eq_false', Bool.not_eq_true, Bool.not_eq_false, gt_iff_lt, ge_iff_le, Int.not_lt, Int.not_le] at hb) <;> (try (exfalso; first | contradiction | omega | exact hb rfl)))
                   | (refine Den.pcallE (β := List Int) (fun v => .sl .ro 1 (o.bx fun _ => eK .i64 v)) (as' := [.sl .ro 1 (o.bx fun _ => eK .i64 _), .int .i64 _]) (by first | with_reducible rfl | (subst ho; rfl)) (spec_l12Int.ans o ho _ _ ?_ ?_) ?_; rotate_left 2; rintro v hv)
                   | (refine Den.fetchYFc ho ?_ ?_ (by with_reducible assumption) ?_)
                   | (refine Den.fetchXFc ho ?_ ?_ (fun y hy => ?_); rotate_left 2; rcases y with ⟨yk, yn, yc, yvk, yvn, yvc⟩; (have hyf := hy))
                   | (refine iha _ _ ?_ ⟨_, _, _, _, _, _, by subst ho; rfl, ?_, Nat.le_refl _⟩)
                   | (refine Den.done ⟨by first | exact Or.inl rfl | exact Or.inr rfl, ?_⟩; (conv => lhs; cbv) <;> refine congrArg some ?_))
              | ((fail_if_success (refine Den.id ?_))
                 first
                   | (subst ho; exact ⟨rfl, by rw [hv], Int.le_refl _, by omega⟩)
                   | (exact coll_ris _ _ _)
                   | (refine congrArg (D.sl Tok.ro 1) ?_; subst ho; refine congrArg (eK .i64) ?_; unfold seenM; rw [take_allG (by omega)])
                   | (simp (disch := omega) only [ho, std, wI]; exact ⟨congrArg (eK .i64) (hv.symm.trans (coll_hit (p := seenP) (g := Fc.n) i1 (by omega) hyf (decide_eq_true (by assumption))).symm), by trivial, by omega, by omega⟩)
                   | (simp (disch := omega) only [ho, std, wI]; exact ⟨congrArg (eK .i64) (coll_miss (p := seenP) (g := Fc.n) i1 (by omega) hyf (decide_eq_false (by assumption))).symm, by trivial, by omega, by omega⟩)
                   | assumption
                   | omega
                   | (subst ho; simp (disch := omega) only [std, wI, tdiv2, tdivN, len_eFc, len_eNd, len_eBd, len_eAb, len_eLBd, len_eK, len_eB] <;> first | done | rfl | omega)))))
    | ((fail_if_success (refine Den.id ?_))
       first
         | assumption))
theorem impl_SeenNodes_1.ans {xa xb : Option (List D → Option D)} (o : Std) (ho : o = std) (f_k : Int) (f_n : Int) (f_c : Int) (f_v_k : Int) (f_v_n : Int) (f_v_c : Int) : Ans (env xa xb) 63 [.agg [.int .i64 f_k, .int .i64 f_n, .int .i64 f_c, .int .i64 f_v_k, .int .i64 f_v_n, .int .i64 f_v_c]] (.bool (seenP (⟨f_k, f_n, f_c, ⟨f_v_k, f_v_n, f_v_c⟩⟩ : Fc))) := by
  refine Ans.mkA ho _ rfl rfl ?_
  repeat' (first
    | (refine Den.id ?_
       (try (conv => arg 2; cbv))
       first
         | (refine Den.done ⟨by first | exact Or.inl rfl | exact Or.inr rfl, ?_⟩; (conv => lhs; cbv) <;> refine congrArg some ?_))
    | ((fail_if_success (refine Den.id ?_))
       first
         | (subst ho; refine dB ?_; rfl)))
theorem impl_nodesIn_s.ans {ga gb : List D → Option D} (o : Std) (ho : o = std) (l : List Nd) (dp : Int) (h0 : PassSpec ga) (h1 : FreeSpec gb) (h2 : Sz l) (h3 : l.length ≤ 1048576) : Ans (env (some ga) (some gb)) 61 [.sl .ro 7 (o.bx fun _ => eNd l), .int .i64 dp, .fn 63 []] (.sl .nw 1 (o.bx fun _ => eK .i64 (seenM l dp))) := by
  refine Ans.mkA ho _ rfl rfl ?_
  have hall := solveR_all l dp
  repeat' (first
    | (refine Den.id ?_
       (try (conv => arg 2; cbv))
       first
         | (refine Den.pcallE (β := (List Fc) × Bool) (fun v => .tup [.sl .nw 6 (o.bx fun _ => eFc v.1), .bool v.2]) (as' := [.sl .ro 7 (o.bx fun _ => eNd _), .int .i64 _]) (by first | with_reducible rfl | (subst ho; rfl)) (impl_Solve.ans o ho _ _ ?_ ?_ ?_ ?_) ?_; rotate_left 4; rintro ⟨v0, (_ | _)⟩ hv <;> (try simp only [decide_eq_true_eq, decide_eq_false_iff_not] at hv) <;> (try first | contradiction | exact absurd (hv.symm.trans (show _ = false by assumption)) (by decide) | exact absurd (hv.symm.trans (show _ = true by assumption)) (by decide)))
         | (refine Den.indF (fun m_ s_ => ∃ (a18 : List Fc) (a19 : Int) (a20 : Int) (ta18 : Tok) (tk : List Nat) (tq : Tok) (bq : Box), s_ = ⟨[.junk, .junk, .fn 63 [], .junk, .junk, .junk, .junk, .junk, .junk, .sl tq 1 bq, .junk, .junk, .junk, .junk, .junk, .junk, .junk, .junk, .sl ta18 6 (o.bx fun _ => eFc a18), .int .i64 a19, .int .i64 a20] ++ List.replicate 12 .junk, [], [], tk⟩ ∧ ((tq = .nil ∨ tq = .nw) ∧ bq = (o.bx fun _ => eK .i64 (collI seenP Fc.n (a18.take a20.toNat))) ∧ a18 = (solveR l dp).1 ∧ a19 = a18.length ∧ 0 ≤ a20 ∧ a20 ≤ a18.length) ∧ (a18.length - a20).toNat ≤ m_) _ _ ⟨_, _, _, _, _, _, _, by subst ho; rfl, ?_, Nat.le_refl _⟩ ?_
            rotate_right
            rintro m_ _ ⟨a18, a19, a20, ta18, tk, tq, bq, rfl, hIa, hka⟩ iha
            obtain ⟨ht, rfl, rfl, i0, i1, i2⟩ := hIa; have hcl := coll_lenT (seenP) Fc.n hall.1 a20.toNat; refine Den.unloopA ho ?_
            repeat' (first
              | (refine Den.id ?_
                 (try (conv => arg 2; cbv))
                 first
                   | refine Den.testT ?_
                   | refine Den.testF ?_
                   | (refine Den.test (fun hr => ?_) (fun hr => ?_) <;> (have hb := hr) <;> (try simp (disch := omega) only [ho, std, wI, len_eK, len_eB, len_eNd, len_eLNd, len_eFc, len_eAb, len_eBd, len_eEd, len_eLBd, Classical.not_not, decide_eq_true_eq, decide_eq_false_iff_not, beq_iff_eq, beq_eq_false_iff_ne, ne_eq, Bool.not_eq_true', Bool.not_eq_false', Bool.not_eq_true, Bool.not_eq_false, gt_iff_lt, ge_iff_le, Int.not_lt, Int.not_le] at hb) <;> (try (exfalso; first | contradiction | omega | exact hb rfl)))
                   | (refine Den.pcallE (β := List Int) (fun v => .sl .nw 1 (o.bx fun _ => eK .i64 v)) (as' := [.sl .nw 1 (o.bx fun _ => eK .i64 _), .int .i64 _]) (by first | with_reducible rfl | (subst ho; rcases ht with rfl | rfl <;> rfl)) (impl_withInt.ans o ho _ _ ?_) ?_; rotate_left 1; rintro v hv)
                   | (refine Den.pcallE (β := Bool) (fun v => .bool v) (as' := [.agg [.int .i64 _, .int .i64 _, .int .i64 _, .int .i64 _, .int .i64 _, .int .i64 _]]) (by first | with_reducible rfl | (subst ho; rfl)) (impl_SeenNodes_1.ans o ho _ _ _ _ _ _) ?_; rotate_left 0; rintro (_ | _) hv <;> (try simp only [decide_eq_true_eq, decide_eq_false_iff_not] at hv) <;> (try first | contradiction | exact absurd (hv.symm.trans (show _ = false by assumption)) (by decide) | exact absurd (hv.symm.trans (show _ = true by assumption)) (by decide)) <;> (have hp := hv))
                   | (refine Den.fetchXFc ho ?_ ?_ (fun y hy => ?_); rotate_left 2; rcases y with ⟨yk, yn, yc, yvk, yvn, yvc⟩; (have hyf := hy))
                   | (refine iha _ _ ?_ ⟨_, _, _, _, _, _, _, by subst ho; rfl, ?_, Nat.le_refl _⟩)
                   | (refine Den.done ⟨by first | exact Or.inl rfl | exact Or.inr rfl, ?_⟩; (conv => lhs; cbv) <;> refine congrArg some ?_))
              | ((fail_if_success (refine Den.id ?_))
                 first
                   | (subst ho; exact ⟨.inl rfl, rfl, by rw [hv], by simp [std, len_eFc], Int.le_refl _, by omega⟩)
                   | (refine ?_; subst ho; rcases ht with rfl | rfl <;> (refine congrArg (D.sl Tok.nw 1) (congrArg (eK .i64) ?_); unfold seenM; rw [take_allG (by omega)]))
                   | (simp (disch := omega) only [ho, std, wI]; exact ⟨.inr (by trivial), congrArg (eK .i64) (hv.symm.trans (coll_hit (p := seenP) (g := Fc.n) i1 (by omega) hyf hp).symm), by trivial, i0, by omega, by omega⟩)
                   | (simp (disch := omega) only [ho, std, wI]; exact ⟨ht, congrArg (eK .i64) (coll_miss (p := seenP) (g := Fc.n) i1 (by omega) hyf hp).symm, by trivial, i0, by omega, by omega⟩)
                   | assumption
                   | omega
                   | (subst ho; simp (disch := omega) only [std, wI, tdiv2, tdivN, len_eFc, len_eNd, len_eBd, len_eAb, len_eLBd, len_eK, len_eB] <;> first | done | rfl | omega)))))
    | ((fail_if_success (refine Den.id ?_))
       first
         | assumption))
theorem impl_SeenNodes.ans {ga gb : List D → Option D} (o : Std) (ho : o = std) (l : List Nd) (dp : Int) (h0 : PassSpec ga) (h1 : FreeSpec gb) (h2 : Sz l) (h3 : l.length ≤ 1048576) : Ans (env (some ga) (some gb)) 29 [.sl .ro 7 (o.bx fun _ => eNd l), .int .i64 dp] (.sl .nw 1 (o.bx fun _ => eK .i64 (seenM l dp))) := by
  refine Ans.mkA ho _ rfl rfl ?_
  repeat' (first
    | (refine Den.id ?_
       (try (conv => arg 2; cbv))
       first
         | (refine Den.pcallE (β := List Int) (fun v => .sl .nw 1 (o.bx fun _ => eK .i64 v)) (as' := [.sl .ro 7 (o.bx fun _ => eNd _), .int .i64 _, .fn 63 []]) (by first | with_reducible rfl | (subst ho; rfl)) (impl_nodesIn_s.ans o ho _ _ ?_ ?_ ?_ ?_) ?_; rotate_left 4; rintro v hv)
         | (refine Den.done ⟨by first | exact Or.inl rfl | exact Or.inr rfl, ?_⟩; (conv => lhs; cbv) <;> refine congrArg some ?_))
    | ((fail_if_success (refine Den.id ?_))
       first
         | (rw [hv])
         | assumption))
end Go.Mach
end
section
set_option linter.unusedVariables false
set_option linter.unusedSimpArgs false
namespace Go.Mach
open Go Go.RowKit Go.Proofs
set_option maxRecDepth 100000
set_option maxHeartbeats 6000000
theorem spec_Caught.ans {xa xb : Option (List D → Option D)} (o : Std) (ho : o = std) (l : List Nd) (dp : Int) (h0 : Sz l) (h1 : l.length ≤ 1048576) : Ans (env xa xb) 35 [.sl .ro 7 (o.bx fun _ => eNd l), .int .i64 dp] (.sl .ro 1 (o.bx fun _ => eK .i64 (caughtM l dp))) := by
  refine Ans.mkA ho _ rfl rfl ?_
  have hsl := seen_len l dp
  repeat' (first
    | (refine Den.id ?_
       (try (conv => arg 2; cbv))
       first
         | (refine Den.pcallE (β := List Int) (fun v => .sl .ro 1 (o.bx fun _ => eK .i64 v)) (as' := [.sl .ro 7 (o.bx fun _ => eNd _), .int .i64 _]) (by first | with_reducible rfl | (subst ho; rfl)) (spec_SeenNodes.ans o ho _ _ ?_ ?_) ?_; rotate_left 2; rintro v hv)
         | (refine Den.indF (fun m_ s_ => ∃ (ea5 : Box) (a6 : List Int) (a7 : Int) (ta5 ta6 : Tok) (tk : List Nat), s_ = ⟨[.sl .ro 7 (o.bx fun _ => eNd l), .junk, .junk, .junk, .junk, .sl ta5 1 ea5, .sl ta6 1 (o.bx fun _ => eK .i64 a6), .int .i64 a7] ++ List.replicate 30 .junk, [], [], tk⟩ ∧ Lv tk ta5 ea5.length ∧ ea5 = (o.bx fun _ => eK .i64 (filtN (caughtP l (seenM l dp)) a7.toNat)) ∧ (a6 = seenM l dp ∧ 0 ≤ a7 ∧ a7 ≤ l.length) ∧ (l.length - a7).toNat ≤ m_) _ _ ⟨_, _, _, _, _, _, by subst ho; rfl, ?_, ?_, ?_, Nat.le_refl _⟩ ?_
            rotate_right
            rintro m_ _ ⟨ea5, a6, a7, ta5, ta6, tk, rfl, hla0, rfl, hIa, hka⟩ iha
            obtain ⟨rfl, i1, i2⟩ := hIa; have hfl := filtN_lenI (caughtP l (seenM l dp)) i2; refine Den.unloopA ho ?_
            repeat' (first
              | (refine Den.id ?_
                 (try (conv => arg 2; cbv))
                 first
                   | refine Den.testT ?_
                   | refine Den.testF ?_
                   | refine Den.test1 (by with_reducible assumption) ?_
                   | refine Den.test0 (by with_reducible assumption) ?_
                   | (refine Den.test (fun hr => ?_) (fun hr => ?_) <;> (have hb := hr) <;> (try simp (disch := omega) only [ho, std, wI, len_eK, len_eB, len_eNd, len_eLNd, len_eFc, len_eAb, len_eBd, len_eEd, len_eLBd, Int.ofNat_eq_natCast, Classical.not_not, decide_eq_true_eq, decide_eq_false_iff_not, beq_iff_eq, beq_eq_false_iff_ne, ne_eq, Bool.not_eq_true', Bool.not_eq_false', Bool.not_eq_true, Bool.not_eq_false, gt_iff_lt, ge_iff_le, Int.not_lt, Int.not_le] at hb) <;> (try (exfalso; first | contradiction | omega | exact hb rfl)))
                   | (refine Den.pcallE (β := Bool) (fun v => .bool v) (as' := [.sl .ro 1 (o.bx fun _ => eK .i64 _), .int .i64 _]) (by first | with_reducible rfl | (subst ho; rfl)) (spec_l4Has.ans o ho _ _ ?_) ?_; rotate_left 1; rintro (_ | _) hv <;> (try simp only [decide_eq_true_eq, decide_eq_false_iff_not] at hv) <;> (try first | contradiction | exact absurd (hv.symm.trans (show _ = false by assumption)) (by decide) | exact absurd (hv.symm.trans (show _ = true by assumption)) (by decide)))
                   | (refine Den.fetchYNd ho ?_ ?_ (by with_reducible assumption) ?_)
                   | (refine Den.fetchXNd ho ?_ ?_ (fun y hy => ?_); rotate_left 2; rcases y with ⟨y0, y1, y2, y3, y4, y5, y6⟩; (first | (have _h := hyn) | (have hyn := hy)))
                   | (refine Den.need ?_ ?_)
                   | (refine Den.app1 ?_ (fun t' tk' hl' => ?_))
                   | (refine iha _ _ ?_ ⟨_, _, _, _, _, _, by subst ho; rfl, ?_, ?_, ?_, Nat.le_refl _⟩)
                   | (refine Den.done ⟨by first | exact Or.inl rfl | exact Or.inr rfl, ?_⟩; (conv => lhs; cbv) <;> refine congrArg some ?_))
              | ((fail_if_success (refine Den.id ?_))
                 first
                   | (exact Lv.cap _)
                   | (subst ho; exact hla0)
                   | (subst ho; exact ⟨(by first | exact hv.symm | rfl), Int.le_refl _, by omega⟩)
                   | (subst ho; simp (disch := omega) only [std, wI]; exact pushI (filtN_yes i1 (caught_hit hyn (by dsimp only; assumption) (decide_eq_true (by dsimp only; assumption)))))
                   | (subst ho; simp (disch := omega) only [std, wI]; exact congrArg (eK .i64) (filtN_no i1 (by first | exact caught_no1 hyn (by dsimp only; assumption) | exact caught_no2 hyn (decide_eq_false (by dsimp only; assumption)))).symm)
                   | ((try clear iha); subst ho; simp (disch := omega) only [std, wI]; exact ⟨by trivial, by omega, by omega⟩)
                   | (refine congrArg (D.sl Tok.ro 1) ?_; subst ho; refine congrArg (eK .i64) ?_; rw [filtN_all (by omega) i2]; rfl)
                   | assumption
                   | omega
                   | (subst ho; rfl)
                   | (subst ho; simpa [std, len_eFc, len_eNd, len_eBd, len_eAb, len_eLBd, len_eK, len_eB] using hl')
                   | (subst ho; simp [std, len_eFc, len_eNd, len_eBd, len_eAb, len_eLBd, len_eK, len_eB]; omega)
                   | (subst ho; simp (disch := omega) only [std, wI, tdiv2, tdivN, len_eFc, len_eNd, len_eBd, len_eAb, len_eLBd, len_eK, len_eB] <;> first | done | rfl | omega)))))
    | ((fail_if_success (refine Den.id ?_))
       first
         | assumption))
theorem impl_hasInt.ans {xa xb : Option (List D → Option D)} (o : Std) (ho : o = std) (l : List Int) (x : Int) (h0 : l.length ≤ 1048576) : Ans (env xa xb) 69 [.sl .ro 1 (o.bx fun _ => eK .i64 l), .int .i64 x] (.bool (decide (x ∈ l))) := by
  refine Ans.mkA ho _ rfl rfl ?_
  repeat' (first
    | (refine Den.id ?_
       (try (conv => arg 2; cbv))
       first
         | (refine Den.indF (fun m_ s_ => ∃ (a8 : Int) (a9 : Int) (tk : List Nat), s_ = ⟨[.junk, .int .i64 x, .junk, .junk, .junk, .junk, .junk, .sl .ro 1 (o.bx fun _ => eK .i64 l), .int .i64 a8, .int .i64 a9] ++ List.replicate 7 .junk, [], [], tk⟩ ∧ (a8 = l.length ∧ 0 ≤ a9 ∧ a9 ≤ l.length ∧ x ∉ l.take a9.toNat) ∧ (l.length - a9).toNat ≤ m_) _ _ ⟨_, _, _, by subst ho; rfl, ?_, Nat.le_refl _⟩ ?_
            rotate_right
            rintro m_ _ ⟨a8, a9, tk, rfl, hIa, hka⟩ iha
            obtain ⟨i0, i1, i2, i3⟩ := hIa; refine Den.unloopA ho ?_
            repeat' (first
              | (refine Den.id ?_
                 (try (conv => arg 2; cbv))
                 first
                   | (refine Den.test (fun hr => ?_) (fun hr => ?_) <;> (have hb := hr) <;> (try simp (disch := omega) only [ho, std, wI, len_eK, len_eB, len_eNd, len_eLNd, len_eFc, len_eAb, len_eBd, len_eEd, len_eLBd, Int.ofNat_eq_natCast, Classical.not_not, decide_eq_true_eq, decide_eq_false_iff_not, beq_iff_eq, beq_eq_false_iff_ne, ne_eq, Bool.not_eq_true', Bool.not_eq_false', Bool.not_eq_true, Bool.not_eq_false, gt_iff_lt, ge_iff_le, Int.not_lt, Int.not_le] at hb) <;> (try (exfalso; first | contradiction | omega | exact hb rfl)))
                   | (refine Den.fetchXK ho ?_ ?_ (fun y hy => ?_); rotate_left 2)
                   | (refine iha _ _ ?_ ⟨_, _, _, by subst ho; rfl, ?_, Nat.le_refl _⟩)
                   | (refine Den.done ⟨by first | exact Or.inl rfl | exact Or.inr rfl, ?_⟩; (conv => lhs; cbv) <;> refine congrArg some ?_))
              | ((fail_if_success (refine Den.id ?_))
                 first
                   | (subst ho; exact ⟨by simp [std, len_eK], Int.le_refl 0, by omega, by simp⟩)
                   | (refine dB ?_; exact has4_hit i1 (by omega) hy (by assumption))
                   | (refine dB ?_; exact has4_end (by omega) i3)
                   | (simp (disch := omega) only [ho, std, wI]; exact ⟨i0, by omega, by omega, has4_step i1 (by omega) i3 hy (by assumption)⟩)
                   | assumption
                   | omega
                   | (subst ho; simp (disch := omega) only [std, wI, tdiv2, tdivN, len_eFc, len_eNd, len_eBd, len_eAb, len_eLBd, len_eK, len_eB] <;> first | done | rfl | omega)))))
    | ((fail_if_success (refine Den.id ?_))
       first
         | fail))
theorem impl_Caught.ans {ga gb : List D → Option D} (o : Std) (ho : o = std) (l : List Nd) (dp : Int) (h0 : PassSpec ga) (h1 : FreeSpec gb) (h2 : Sz l) (h3 : l.length ≤ 1048576) : Ans (env (some ga) (some gb)) 36 [.sl .ro 7 (o.bx fun _ => eNd l), .int .i64 dp] (.sl .nw 1 (o.bx fun _ => eK .i64 (caughtM l dp))) := by
  refine Ans.mkA ho _ rfl rfl ?_
  have hsl := seen_len l dp
  repeat' (first
    | (refine Den.id ?_
       (try (conv => arg 2; cbv))
       first
         | (refine Den.pcallE (β := List Int) (fun v => .sl .nw 1 (o.bx fun _ => eK .i64 v)) (as' := [.sl .ro 7 (o.bx fun _ => eNd _), .int .i64 _]) (by first | with_reducible rfl | (subst ho; rfl)) (impl_SeenNodes.ans o ho _ _ ?_ ?_ ?_ ?_) ?_; rotate_left 4; rintro v hv)
         | (refine Den.indF (fun m_ s_ => ∃ (a5 : List Int) (ea6 : Box) (a13 : Int) (a14 : Int) (ta5 ta6 : Tok) (tk : List Nat), s_ = ⟨[.junk, .junk, .junk, .junk, .junk, .sl ta5 1 (o.bx fun _ => eK .i64 a5), .sl ta6 1 ea6, .junk, .junk, .junk, .junk, .junk, .sl .ro 7 (o.bx fun _ => eNd l), .int .i64 a13, .int .i64 a14] ++ List.replicate 19 .junk, [], [], tk⟩ ∧ Lw tk ta6 ea6.length ∧ ea6 = (o.bx fun _ => eK .i64 (filtN (caughtP l (seenM l dp)) a14.toNat)) ∧ (a5 = seenM l dp ∧ a13 = l.length ∧ 0 ≤ a14 ∧ a14 ≤ l.length) ∧ (l.length - a14).toNat ≤ m_) _ _ ⟨_, _, _, _, _, _, _, by subst ho; rfl, ?_, ?_, ?_, Nat.le_refl _⟩ ?_
            rotate_right
            rintro m_ _ ⟨a5, ea6, a13, a14, ta5, ta6, tk, rfl, hla0, rfl, hIa, hka⟩ iha
            obtain ⟨rfl, i0, i1, i2⟩ := hIa; have hfl := filtN_lenI (caughtP l (seenM l dp)) i2; refine Den.unloopA ho ?_
            repeat' (first
              | (refine Den.id ?_
                 (try (conv => arg 2; cbv))
                 first
                   | refine Den.testT ?_
                   | refine Den.testF ?_
                   | refine Den.test1 (by with_reducible assumption) ?_
                   | refine Den.test0 (by with_reducible assumption) ?_
                   | (refine Den.test (fun hr => ?_) (fun hr => ?_) <;> (have hb := hr) <;> (try simp (disch := omega) only [ho, std, wI, len_eK, len_eB, len_eNd, len_eLNd, len_eFc, len_eAb, len_eBd, len_eEd, len_eLBd, Int.ofNat_eq_natCast, Classical.not_not, decide_eq_true_eq, decide_eq_false_iff_not, beq_iff_eq, beq_eq_false_iff_ne, ne_eq, Bool.not_eq_true', Bool.not_eq_false', Bool.not_eq_true, Bool.not_eq_false, gt_iff_lt, ge_iff_le, Int.not_lt, Int.not_le] at hb) <;> (try (exfalso; first | contradiction | omega | exact hb rfl)))
                   | (refine Den.pcallE (β := Bool) (fun v => .bool v) (as' := [.sl .ro 1 (o.bx fun _ => eK .i64 _), .int .i64 _]) (by first | with_reducible rfl | (subst ho; rfl)) (impl_hasInt.ans o ho _ _ ?_) ?_; rotate_left 1; rintro (_ | _) hv <;> (try simp only [decide_eq_true_eq, decide_eq_false_iff_not] at hv) <;> (try first | contradiction | exact absurd (hv.symm.trans (show _ = false by assumption)) (by decide) | exact absurd (hv.symm.trans (show _ = true by assumption)) (by decide)))
                   | (refine Den.fetchXNd ho ?_ ?_ (fun y hy => ?_); rotate_left 2; rcases y with ⟨y0, y1, y2, y3, y4, y5, y6⟩; (first | (have _h := hyn) | (have hyn := hy)))
                   | (refine Den.need ?_ ?_)
                   | (refine Den.app1w ?_ (fun t' tk' hl' => ?_))
                   | (refine iha _ _ ?_ ⟨_, _, _, _, _, _, _, by subst ho; rfl, ?_, ?_, ?_, Nat.le_refl _⟩)
                   | (refine Den.done ⟨by first | exact Or.inl rfl | exact Or.inr rfl, ?_⟩; (conv => lhs; cbv) <;> refine congrArg some ?_))
              | ((fail_if_success (refine Den.id ?_))
                 first
                   | (exact Lw.nil)
                   | (subst ho; exact hla0)
                   | (subst ho; exact ⟨(by first | exact hv.symm | rfl), by simp [std, len_eNd], Int.le_refl _, by omega⟩)
                   | (subst ho; simp (disch := omega) only [std, wI]; exact pushI (filtN_yes i1 (caught_hit hyn (by dsimp only; assumption) (decide_eq_true (by dsimp only; assumption)))))
                   | (subst ho; simp (disch := omega) only [std, wI]; exact congrArg (eK .i64) (filtN_no i1 (by first | exact caught_no1 hyn (by dsimp only; assumption) | exact caught_no2 hyn (decide_eq_false (by dsimp only; assumption)))).symm)
                   | ((try clear iha); subst ho; simp (disch := omega) only [std, wI]; exact ⟨by trivial, i0, by omega, by omega⟩)
                   | (subst ho; rcases Lw.kind hla0 with rfl | ⟨_, rfl⟩ <;> (refine congrArg (D.sl Tok.nw 1) (congrArg (eK .i64) ?_); rw [filtN_all (by omega) i2]; rfl))
                   | assumption
                   | omega
                   | (subst ho; rfl)
                   | (subst ho; simpa [std, len_eFc, len_eNd, len_eBd, len_eAb, len_eLBd, len_eK, len_eB] using hl')
                   | (subst ho; simp [std, len_eFc, len_eNd, len_eBd, len_eAb, len_eLBd, len_eK, len_eB]; omega)
                   | (subst ho; simp (disch := omega) only [std, wI, tdiv2, tdivN, len_eFc, len_eNd, len_eBd, len_eAb, len_eLBd, len_eK, len_eB] <;> first | done | rfl | omega)))))
    | ((fail_if_success (refine Den.id ?_))
       first
         | assumption))
theorem spec_DeadNodes.ans {xa xb : Option (List D → Option D)} (o : Std) (ho : o = std) (l : List Nd) (dp : Int) (h0 : Sz l) (h1 : l.length ≤ 1048576) : Ans (env xa xb) 37 [.sl .ro 7 (o.bx fun _ => eNd l), .int .i64 dp] (.sl .ro 1 (o.bx fun _ => eK .i64 (deadM l dp))) := by
  refine Ans.mkA ho _ rfl rfl ?_
  have hsl := seen_len l dp
  repeat' (first
    | (refine Den.id ?_
       (try (conv => arg 2; cbv))
       first
         | (refine Den.pcallE (β := List Int) (fun v => .sl .ro 1 (o.bx fun _ => eK .i64 v)) (as' := [.sl .ro 7 (o.bx fun _ => eNd _), .int .i64 _]) (by first | with_reducible rfl | (subst ho; rfl)) (spec_SeenNodes.ans o ho _ _ ?_ ?_) ?_; rotate_left 2; rintro v hv)
         | (refine Den.indF (fun m_ s_ => ∃ (ea5 : Box) (a6 : List Int) (a7 : Int) (ta5 ta6 : Tok) (tk : List Nat), s_ = ⟨[.sl .ro 7 (o.bx fun _ => eNd l), .junk, .junk, .junk, .junk, .sl ta5 1 ea5, .sl ta6 1 (o.bx fun _ => eK .i64 a6), .int .i64 a7] ++ List.replicate 24 .junk, [], [], tk⟩ ∧ Lv tk ta5 ea5.length ∧ ea5 = (o.bx fun _ => eK .i64 (filtN (deadP (seenM l dp)) a7.toNat)) ∧ (a6 = seenM l dp ∧ 0 ≤ a7 ∧ a7 ≤ l.length ∧ (0 < a7 → 0 < ((seenM l dp).length : Int))) ∧ (l.length - a7).toNat ≤ m_) _ _ ⟨_, _, _, _, _, _, by subst ho; rfl, ?_, ?_, ?_, Nat.le_refl _⟩ ?_
            rotate_right
            rintro m_ _ ⟨ea5, a6, a7, ta5, ta6, tk, rfl, hla0, rfl, hIa, hka⟩ iha
            obtain ⟨rfl, i1, i2, i3⟩ := hIa; have hfl := filtN_lenI (deadP (seenM l dp)) i2; refine Den.unloopA ho ?_
            repeat' (first
              | (refine Den.id ?_
                 (try (conv => arg 2; cbv))
                 first
                   | refine Den.testF ?_
                   | refine Den.test1 (by with_reducible assumption) ?_
                   | refine Den.test0 (by with_reducible assumption) ?_
                   | refine Den.testN1 ho (by first | with_reducible assumption | with_reducible rfl) ?_
                   | refine Den.testN0 ho (by first | with_reducible assumption | with_reducible rfl) ?_
                   | (refine Den.test (fun hr => ?_) (fun hr => ?_) <;> (have hb := hr) <;> (try simp (disch := omega) only [ho, std, wI, len_eK, len_eB, len_eNd, len_eLNd, len_eFc, len_eAb, len_eBd, len_eEd, len_eLBd, Int.ofNat_eq_natCast, Classical.not_not, decide_eq_true_eq, decide_eq_false_iff_not, beq_iff_eq, beq_eq_false_iff_ne, ne_eq, Bool.not_eq_true', Bool.not_eq_false', Bool.not_eq_true, Bool.not_eq_false, gt_iff_lt, ge_iff_le, Int.not_lt, Int.not_le] at hb) <;> (try (exfalso; first | contradiction | omega | exact hb rfl)))
                   | (refine Den.pcallE (β := Bool) (fun v => .bool v) (as' := [.sl .ro 1 (o.bx fun _ => eK .i64 _), .int .i64 _]) (by first | with_reducible rfl | (subst ho; rfl)) (spec_l4Has.ans o ho _ _ ?_) ?_; rotate_left 1; rintro (_ | _) hv <;> (try simp only [decide_eq_true_eq, decide_eq_false_iff_not] at hv) <;> (try first | contradiction | exact absurd (hv.symm.trans (show _ = false by assumption)) (by decide) | exact absurd (hv.symm.trans (show _ = true by assumption)) (by decide)))
                   | (refine Den.need ?_ ?_)
                   | (refine Den.app1 ?_ (fun t' tk' hl' => ?_))
                   | (refine iha _ _ ?_ ⟨_, _, _, _, _, _, by subst ho; rfl, ?_, ?_, ?_, Nat.le_refl _⟩)
                   | (refine Den.done ⟨by first | exact Or.inl rfl | exact Or.inr rfl, ?_⟩; (conv => lhs; cbv) <;> refine congrArg some ?_))
              | ((fail_if_success (refine Den.id ?_))
                 first
                   | (exact Lv.cap _)
                   | (subst ho; exact hla0)
                   | (subst ho; exact ⟨(by first | exact hv.symm | rfl), Int.le_refl _, by omega, fun h => absurd h (by omega)⟩)
                   | (subst ho; simp (disch := omega) only [std, wI]; exact pushI (filtN_yes i1 (dead_hit (decide_eq_false (by assumption)))))
                   | (subst ho; simp (disch := omega) only [std, wI]; exact congrArg (eK .i64) (filtN_no i1 (dead_no (decide_eq_true (by assumption)))).symm)
                   | ((try clear iha); subst ho; simp (disch := omega) only [std, wI]; exact ⟨by trivial, by omega, by omega, fun _ => by omega⟩)
                   | (refine congrArg (D.sl Tok.ro 1) ?_; subst ho; refine congrArg (eK .i64) ?_; first | exact dead_fin i1 i2 i3 (.inl (by omega)) | exact dead_fin i1 i2 i3 (.inr (by omega)))
                   | omega
                   | (subst ho; rfl)
                   | (subst ho; simpa [std, len_eFc, len_eNd, len_eBd, len_eAb, len_eLBd, len_eK, len_eB] using hl')
                   | (subst ho; simp [std, len_eFc, len_eNd, len_eBd, len_eAb, len_eLBd, len_eK, len_eB]; omega)
                   | (subst ho; simp (disch := omega) only [std, wI, tdiv2, tdivN, len_eFc, len_eNd, len_eBd, len_eAb, len_eLBd, len_eK, len_eB] <;> first | done | rfl | omega)))))
    | ((fail_if_success (refine Den.id ?_))
       first
         | assumption))
theorem impl_DeadNodes.ans {ga gb : List D → Option D} (o : Std) (ho : o = std) (l : List Nd) (dp : Int) (h0 : PassSpec ga) (h1 : FreeSpec gb) (h2 : Sz l) (h3 : l.length ≤ 1048576) : Ans (env (some ga) (some gb)) 38 [.sl .ro 7 (o.bx fun _ => eNd l), .int .i64 dp] (.sl .nw 1 (o.bx fun _ => eK .i64 (deadM l dp))) := by
  refine Ans.mkA ho _ rfl rfl ?_
  have hsl := seen_len l dp
  repeat' (first
    | (refine Den.id ?_
       (try (conv => arg 2; cbv))
       first
         | (refine Den.test (fun hr => ?_) (fun hr => ?_) <;> (have hb := hr) <;> (try simp (disch := omega) only [ho, std, wI, len_eK, len_eB, len_eNd, len_eLNd, len_eFc, len_eAb, len_eBd, len_eEd, len_eLBd, Int.ofNat_eq_natCast, Classical.not_not, decide_eq_true_eq, decide_eq_false_iff_not, beq_iff_eq, beq_eq_false_iff_ne, ne_eq, Bool.not_eq_true', Bool.not_eq_false', Bool.not_eq_true, Bool.not_eq_false, gt_iff_lt, ge_iff_le, Int.not_lt, Int.not_le] at hb) <;> (try (exfalso; first | contradiction | omega | exact hb rfl)))
         | (refine Den.pcallE (β := List Int) (fun v => .sl .nw 1 (o.bx fun _ => eK .i64 v)) (as' := [.sl .ro 7 (o.bx fun _ => eNd _), .int .i64 _]) (by first | with_reducible rfl | (subst ho; rfl)) (impl_SeenNodes.ans o ho _ _ ?_ ?_ ?_ ?_) ?_; rotate_left 4; rintro v hv)
         | (refine Den.indF (fun m_ s_ => ∃ (a5 : List Int) (ea6 : Box) (a15 : Int) (a16 : Int) (ta5 ta6 : Tok) (tk : List Nat), s_ = ⟨[.junk, .junk, .junk, .junk, .junk, .sl ta5 1 (o.bx fun _ => eK .i64 a5), .sl ta6 1 ea6, .junk, .junk, .junk, .junk, .junk, .junk, .junk, .junk, .int .i64 a15, .int .i64 a16] ++ List.replicate 12 .junk, [], [], tk⟩ ∧ Lw tk ta6 ea6.length ∧ ea6 = (o.bx fun _ => eK .i64 (filtN (deadP (seenM l dp)) a16.toNat)) ∧ (a5 = seenM l dp ∧ a15 = l.length ∧ 0 ≤ a16 ∧ a16 ≤ l.length) ∧ (l.length - a16).toNat ≤ m_) _ _ ⟨_, _, _, _, _, _, _, by subst ho; rfl, ?_, ?_, ?_, Nat.le_refl _⟩ ?_
            rotate_right
            rintro m_ _ ⟨a5, ea6, a15, a16, ta5, ta6, tk, rfl, hla0, rfl, hIa, hka⟩ iha
            obtain ⟨rfl, i0, i1, i2⟩ := hIa; have hfl := filtN_lenI (deadP (seenM l dp)) i2; refine Den.unloopA ho ?_
            repeat' (first
              | (refine Den.id ?_
                 (try (conv => arg 2; cbv))
                 first
                   | refine Den.testN1 ho (by first | with_reducible assumption | with_reducible rfl) ?_
                   | refine Den.testN0 ho (by first | with_reducible assumption | with_reducible rfl) ?_
                   | (refine Den.test (fun hr => ?_) (fun hr => ?_) <;> (have hb := hr) <;> (try simp (disch := omega) only [ho, std, wI, len_eK, len_eB, len_eNd, len_eLNd, len_eFc, len_eAb, len_eBd, len_eEd, len_eLBd, Int.ofNat_eq_natCast, Classical.not_not, decide_eq_true_eq, decide_eq_false_iff_not, beq_iff_eq, beq_eq_false_iff_ne, ne_eq, Bool.not_eq_true', Bool.not_eq_false', Bool.not_eq_true, Bool.not_eq_false, gt_iff_lt, ge_iff_le, Int.not_lt, Int.not_le] at hb) <;> (try (exfalso; first | contradiction | omega | exact hb rfl)))
                   | (refine Den.pcallE (β := Bool) (fun v => .bool v) (as' := [.sl .ro 1 (o.bx fun _ => eK .i64 _), .int .i64 _]) (by first | with_reducible rfl | (subst ho; rfl)) (impl_hasInt.ans o ho _ _ ?_) ?_; rotate_left 1; rintro (_ | _) hv <;> (try simp only [decide_eq_true_eq, decide_eq_false_iff_not] at hv) <;> (try first | contradiction | exact absurd (hv.symm.trans (show _ = false by assumption)) (by decide) | exact absurd (hv.symm.trans (show _ = true by assumption)) (by decide)))
                   | (refine Den.need ?_ ?_)
                   | (refine Den.app1w ?_ (fun t' tk' hl' => ?_))
                   | (refine iha _ _ ?_ ⟨_, _, _, _, _, _, _, by subst ho; rfl, ?_, ?_, ?_, Nat.le_refl _⟩)
                   | (refine Den.done ⟨by first | exact Or.inl rfl | exact Or.inr rfl, ?_⟩; (conv => lhs; cbv) <;> refine congrArg some ?_))
              | ((fail_if_success (refine Den.id ?_))
                 first
                   | (exact Lw.nil)
                   | (subst ho; exact hla0)
                   | (subst ho; exact ⟨(by first | exact hv.symm | rfl), by simp [std, len_eNd], Int.le_refl _, by omega⟩)
                   | (subst ho; simp (disch := omega) only [std, wI]; exact pushI (filtN_yes i1 (dead_hit (decide_eq_false (by assumption)))))
                   | (subst ho; simp (disch := omega) only [std, wI]; exact congrArg (eK .i64) (filtN_no i1 (dead_no (decide_eq_true (by assumption)))).symm)
                   | ((try clear iha); subst ho; simp (disch := omega) only [std, wI]; exact ⟨by trivial, i0, by omega, by omega⟩)
                   | (subst ho; rcases Lw.kind hla0 with rfl | ⟨_, rfl⟩ <;> (refine congrArg (D.sl Tok.nw 1) (congrArg (eK .i64) ?_); rw [filtN_all (by omega) i2, deadM_yes (by rw [hv]; omega)]))
                   | omega
                   | (subst ho; rfl)
                   | (subst ho; simpa [std, len_eFc, len_eNd, len_eBd, len_eAb, len_eLBd, len_eK, len_eB] using hl')
                   | (subst ho; simp [std, len_eFc, len_eNd, len_eBd, len_eAb, len_eLBd, len_eK, len_eB]; omega)
                   | (subst ho; simp (disch := omega) only [std, wI, tdiv2, tdivN, len_eFc, len_eNd, len_eBd, len_eAb, len_eLBd, len_eK, len_eB] <;> first | done | rfl | omega))))
         | (refine Den.done ⟨by first | exact Or.inl rfl | exact Or.inr rfl, ?_⟩; (conv => lhs; cbv) <;> refine congrArg some ?_))
    | ((fail_if_success (refine Den.id ?_))
       first
         | (subst ho; rw [deadM_no (by rw [hv]; assumption)]; rfl)
         | assumption))
end Go.Mach
end
