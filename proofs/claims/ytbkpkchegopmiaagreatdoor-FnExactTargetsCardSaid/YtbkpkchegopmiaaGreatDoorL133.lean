/- FnExactTargets: the law: part 36 of a proof by an executable machine over the program's code. -/
import Derived.Test.YtbkpkchegopmiaaGreatDoorMb32
import Derived.Test.YtbkpkchegopmiaaGreatDoorL131
import Derived.Test.YtbkpkchegopmiaaGreatDoorL132
import Derived.WalkKit
import Derived.ProofKit
set_option linter.unusedVariables false
set_option linter.unusedSimpArgs false
namespace Go.Mach
open Go Go.RowKit Go.Proofs
set_option maxRecDepth 100000
set_option maxHeartbeats 6000000
theorem spec_l12Edge.ans {xa xb : Option (List D → Option D)} (o : Std) (ho : o = std) (l : List Ed) (x_f0 : Int) (x_f1 : Int) (h0 : RisE l) (h1 : l.length ≤ 6300000) : Ans (env xa xb) 75 [.sl .ro 2 (o.bx fun _ => eEd l), .agg [.int .i64 x_f0, .int .i64 x_f1]] (.sl .ro 2 (o.bx fun _ => eEd (insE (⟨x_f0, x_f1⟩ : Ed) l))) := by
  refine Ans.mkA ho _ rfl rfl ?_
  repeat' (first
    | (refine Den.id ?_
       (try (conv => arg 2; cbv))
       first
         | (refine Den.indF (fun m_ s_ => ∃ (ea5 : Box) (a6 : Bool) (a7 : Int) (ta5 : Tok) (tk : List Nat), s_ = ⟨[.sl .ro 2 (o.bx fun _ => eEd l), .junk, .junk, .pbx (.loc 0) 0, .junk, .sl ta5 2 ea5, .bool a6, .int .i64 a7] ++ List.replicate 64 .junk, [[[.int .i64 x_f0, .int .i64 x_f1]]], [], tk⟩ ∧ Lv tk ta5 ea5.length ∧ ea5 = (o.bx fun _ => eEd (lEO (⟨x_f0, x_f1⟩ : Ed) l a7 a6)) ∧ (0 ≤ a7 ∧ a7 ≤ l.length ∧ (a6 = false → ∀ y ∈ l.take a7.toNat, ltE y (⟨x_f0, x_f1⟩ : Ed) = true) ∧ (a6 = true → ∀ y ∈ l.drop a7.toNat, ltE (⟨x_f0, x_f1⟩ : Ed) y = true)) ∧ (l.length - a7).toNat ≤ m_) _ _ ⟨_, _, _, _, _, by subst ho; rfl, ?_, ?_, ?_, Nat.le_refl _⟩ ?_
            rotate_right
            rintro m_ _ ⟨ea5, a6, a7, ta5, tk, rfl, hla0, rfl, hIa, hka⟩ iha
            obtain ⟨i1, i2, i3, i4⟩ := hIa; have hol := len_lEO (⟨x_f0, x_f1⟩ : Ed) l a7 a6; refine Den.unloopA ho ?_
            repeat' (first
              | (refine Den.id ?_
                 (try (conv => arg 2; cbv))
                 first
                   | refine Den.testT ?_
                   | refine Den.testF ?_
                   | refine Den.test1 (by with_reducible assumption) ?_
                   | refine Den.test0 (by with_reducible assumption) ?_
                   | (refine Den.test (fun hr => ?_) (fun hr => ?_) <;> (have hb := hr) <;> (try simp (disch := omega) only [ho, std, wI, len_eK, len_eB, len_eNd, len_eLNd, len_eFc, len_eAb, len_eBd, len_eEd, len_eLBd, Int.ofNat_eq_natCast, Classical.not_not, decide_eq_true_eq, decide_eq_false_iff_not, beq_iff_eq, beq_eq_false_iff_ne, ne_eq, Bool.not_eq_true', Bool.not_eq_false', Bool.not_eq_true, Bool.not_eq_false, gt_iff_lt, ge_iff_le, Int.not_lt, Int.not_le] at hb) <;> (try (exfalso; first | contradiction | omega | exact hb rfl)))
                   | (refine Den.fetchYEd ho ?_ ?_ (by with_reducible assumption) ?_)
                   | (refine Den.fetchXEd ho ?_ ?_ (fun y hy => ?_); rotate_left 2; rcases y with ⟨y0, y1⟩; (first | (have _h := hyk) | (have hyk := hy)))
                   | (refine Den.needD ho (by kernel_rfl) ?_)
                   | (refine Den.need ?_ ?_)
                   | (refine Den.app1 ?_ (fun t' tk' hl' => ?_))
                   | (refine iha _ _ ?_ ⟨_, _, _, _, _, by subst ho; rfl, ?_, ?_, ?_, Nat.le_refl _⟩)
                   | (refine Den.done ⟨by first | exact Or.inl rfl | exact Or.inr rfl, ?_⟩; (conv => lhs; cbv) <;> refine congrArg some ?_))
              | ((fail_if_success (refine Den.id ?_))
                 first
                   | (exact Lv.cap _)
                   | (subst ho; exact hla0)
                   | (subst ho; exact ⟨Int.le_refl _, by omega, fun _ y h => by simp at h, fun h => by cases h⟩)
                   | (refine congrArg (D.sl Tok.ro 2) ?_; subst ho; exact congrArg eEd (insE_mem h0 (by have := rdG_mem (z := zEd) i1 (show a7 < l.length by omega); rw [show rdG zEd l a7 = _ from hyk] at this; simp_all)).symm)
                   | ((try clear iha); subst ho; simp (disch := omega) only [std, wI]; first | exact push2Ed (lE_putD (by assumption) i1 (by omega) i3 hyk (ltE_iff.2 (by dsimp only; omega))) | exact push1Ed (lE_go i1 (by omega) a6 hyk (fun h => gtE_at i1 (by omega) (i4 h) hyk)))
                   | ((try clear iha); subst ho; simp (disch := omega) only [std, wI]; exact ⟨by omega, by omega, fun h => by first | exact absurd h (by decide) | exact ltE_step i1 (by omega) (i3 h) hyk (ltE_iff.2 (by dsimp only; first | omega | (have hne := beq2_no (by assumption); omega))) | exact absurd (h.symm.trans (show _ = true by assumption)) (by decide), fun h => by first | exact gtE_ris h0 i1 (by omega) hyk (ltE_iff.2 (by dsimp only; omega)) | exact gtE_step i1 (by omega) (i4 h)⟩)
                   | (refine congrArg (D.sl Tok.ro 2) ?_; subst ho; first | exact push1Ed (lE_fin (by assumption) (by omega) i3) | exact congrArg eEd (lE_finT (by assumption) (by omega)).symm)
                   | assumption
                   | (subst ho; rfl)
                   | (subst ho; simpa [std, len_eFc, len_eNd, len_eBd, len_eAb, len_eLBd, len_eK, len_eB] using hl')
                   | (subst ho; simp (disch := omega) only [std, wI, tdiv2, tdivN, len_eFc, len_eNd, len_eBd, len_eAb, len_eLBd, len_eK, len_eB] <;> first | done | rfl | omega)
                   | (subst ho; simp [std, len_eFc, len_eNd, len_eBd, len_eAb, len_eLBd, len_eK, len_eB, len_eEd]; omega)))))
    | ((fail_if_success (refine Den.id ?_))
       first
         | fail))
end Go.Mach
namespace Go.Mach
open Go Go.RowKit Go.Proofs
set_option maxRecDepth 100000
set_option maxHeartbeats 3000000
theorem spec_CallGraph.ans {xa xb : Option (List D → Option D)} (o : Std) (ho : o = std) (l : List Nd) (dp : Int) (h0 : Sz l) (h1 : l.length ≤ 1048576) : Ans (env xa xb) 44 [.sl .ro 7 (o.bx fun _ => eNd l), .int .i64 dp] (.tup [.sl .ro 2 (o.bx fun _ => eEd ((graphM l dp, (solveR l dp).2)).1), .bool ((graphM l dp, (solveR l dp).2)).2]) := by
  refine Ans.mkA ho _ rfl rfl ?_
  have hall := solveR_all l dp; have hfr := solveR_fr l dp
  repeat' (first
    | (refine Den.id ?_
       (try (conv => arg 2; cbv))
       first
         | (refine Den.pcallE (β := (List Fc) × Bool) (fun v => .tup [.sl .ro 6 (o.bx fun _ => eFc v.1), .bool v.2]) (as' := [.sl .ro 7 (o.bx fun _ => eNd _), .int .i64 _]) (by first | with_reducible rfl | (subst ho; rfl)) (spec_Solve.ans o ho _ _ ?_ ?_) ?_; rotate_left 2; rintro ⟨v0, (_ | _)⟩ hv <;> (try simp only [decide_eq_true_eq, decide_eq_false_iff_not] at hv) <;> (try first | contradiction | exact absurd (hv.symm.trans (show _ = false by assumption)) (by decide) | exact absurd (hv.symm.trans (show _ = true by assumption)) (by decide)))
         | (refine Den.indF (fun m_ s_ => ∃ (a6 : List Fc) (a7 : Bool) (a9 : Int) (ta6 : Tok) (tk : List Nat) (tq : Tok) (bq : Box), s_ = ⟨[.sl .ro 7 (o.bx fun _ => eNd l), .junk, .junk, .junk, .junk, .junk, .sl ta6 6 (o.bx fun _ => eFc a6), .bool a7, .sl tq 2 bq, .int .i64 a9] ++ List.replicate 80 .junk, [], [], tk⟩ ∧ (bq = (o.bx fun _ => eEd (canE (rawG l a6 (a6.take a9.toNat)))) ∧ a6 = (solveR l dp).1 ∧ a7 = (solveR l dp).2 ∧ 0 ≤ a9 ∧ a9 ≤ a6.length) ∧ (a6.length - a9).toNat ≤ m_) _ _ ⟨_, _, _, _, _, _, _, by subst ho; rfl, ?_, Nat.le_refl _⟩ ?_
            rotate_right
            rintro m_ _ ⟨a6, a7, a9, ta6, tk, tq, bq, rfl, hIa, hka⟩ iha
            obtain ⟨rfl, rfl, i7, i1, i2⟩ := hIa; have hcl := can_lenT (rawG_lenT (l := l) hall.1 a9.toNat); refine Den.unloopA ho ?_
            repeat' (first
              | (refine Den.id ?_
                 (try (conv => arg 2; cbv))
                 first
                   | refine Den.testT ?_
                   | refine Den.test1 (by with_reducible assumption) ?_
                   | refine Den.test0 (by with_reducible assumption) ?_
                   | refine Den.testN0 ho (by first | with_reducible assumption | with_reducible rfl) ?_
                   | (refine Den.test (fun hr => ?_) (fun hr => ?_) <;> (have hb := hr) <;> (try simp (disch := omega) only [ho, std, wI, len_eK, len_eB, len_eNd, len_eLNd, len_eFc, len_eAb, len_eBd, len_eEd, len_eLBd, Int.ofNat_eq_natCast, Classical.not_not, decide_eq_true_eq, decide_eq_false_iff_not, beq_iff_eq, beq_eq_false_iff_ne, ne_eq, Bool.not_eq_true', Bool.not_eq_false', Bool.not_eq_true, Bool.not_eq_false, gt_iff_lt, ge_iff_le, Int.not_lt, Int.not_le] at hb) <;> (try (exfalso; first | contradiction | omega | exact hb rfl)))
                   | (refine Den.pcallE (β := List Ab) (fun v => .sl .ro 3 (o.bx fun _ => eAb v)) (as' := [.sl .ro 6 (o.bx fun _ => eFc _), .int .i64 _, .int .i64 _, .int .i64 _]) (by first | with_reducible rfl | (subst ho; rfl)) (spec_l15At.ans o ho _ _ _ _ ?_ ?_ ?_) ?_; rotate_left 3; rintro v hv; (first | (have _h := hv2) | (have _h := hv1; have hv2 := hv; obtain ⟨v2, e_v2⟩ : ∃ z, z = v := ⟨_, rfl⟩; subst e_v2) | (have hv1 := hv)))
                   | (refine Den.fetchYNd ho ?_ ?_ (by with_reducible assumption) ?_)
                   | (refine Den.fetchXNd ho ?_ ?_ (fun y hy => ?_); rotate_left 2; rcases y with ⟨y0, y1, y2, y3, y4, y5, y6⟩; (first | (have _h := hyn) | (have hyn := hy)))
                   | (refine Den.fetchXFc ho ?_ ?_ (fun y hy => ?_); rotate_left 2; rcases y with ⟨yk, yn, yc, yvk, yvn, yvc⟩; (first | (have _h := hyf) | (have hyf := hy; have hnr := hall.2 _ (rdG_mem (z := zF) i1 (by omega)); rw [show rdG zF _ _ = _ from hyf] at hnr; dsimp only at hnr; obtain ⟨fk, e_fk⟩ : ∃ z, z = yk := ⟨_, rfl⟩; subst e_fk; obtain ⟨fn, e_fn⟩ : ∃ z, z = yn := ⟨_, rfl⟩; subst e_fn; obtain ⟨fc, e_fc⟩ : ∃ z, z = yc := ⟨_, rfl⟩; subst e_fc; obtain ⟨gk, e_gk⟩ : ∃ z, z = yvk := ⟨_, rfl⟩; subst e_gk; obtain ⟨gn, e_gn⟩ : ∃ z, z = yvn := ⟨_, rfl⟩; subst e_gn; obtain ⟨gc, e_gc⟩ : ∃ z, z = yvc := ⟨_, rfl⟩; subst e_gc)))
                   | (refine Den.needD ho (by kernel_rfl) ?_)
                   | (refine Den.indF (fun m_ s_ => ∃ (b12 : Int) (tk : List Nat) (tq : Tok) (bq : Box), s_ = ⟨[.sl .ro 7 (o.bx fun _ => eNd l), .junk, .junk, .junk, .junk, .junk, .sl ta6 6 (o.bx fun _ => eFc (solveR l dp).1), .bool a7, .sl tq 2 bq, .int .i64 a9, .pbx (.loc 0) 0, .sl .ro 3 (o.bx fun _ => eAb v2), .int .i64 b12] ++ List.replicate 77 .junk, [[[.int .i64 fk, .int .i64 fn, .int .i64 fc, .int .i64 gk, .int .i64 gn, .int .i64 gc]]], [], tk⟩ ∧ (bq = (o.bx fun _ => eEd (canE (rawG l (solveR l dp).1 ((solveR l dp).1.take a9.toNat) ++ edgesV fn (v2.take b12.toNat)))) ∧ 0 ≤ b12 ∧ b12 ≤ v2.length) ∧ (v2.length - b12).toNat ≤ m_) _ _ ⟨_, _, _, _, by subst ho; rfl, ?_, Nat.le_refl _⟩ ?_
                      rotate_right
                      rintro m_ _ ⟨b12, tk, tq, bq, rfl, hIb, hkb⟩ ihb
                      obtain ⟨rfl, j1, j2⟩ := hIb; have hvl := vals_lenE hall.1 hv2; have hci := can_lenT (edges_inn (l := l) hall.1 hv2 a9.toNat fn b12.toNat); refine Den.unloopA ho ?_
                      repeat' (first
                        | (refine Den.id ?_
                           (try (conv => arg 2; cbv))
                           first
                             | (refine Den.test (fun hr => ?_) (fun hr => ?_) <;> (have hb := hr) <;> (try simp (disch := omega) only [ho, std, wI, len_eK, len_eB, len_eNd, len_eLNd, len_eFc, len_eAb, len_eBd, len_eEd, len_eLBd, Int.ofNat_eq_natCast, Classical.not_not, decide_eq_true_eq, decide_eq_false_iff_not, beq_iff_eq, beq_eq_false_iff_ne, ne_eq, Bool.not_eq_true', Bool.not_eq_false', Bool.not_eq_true, Bool.not_eq_false, gt_iff_lt, ge_iff_le, Int.not_lt, Int.not_le] at hb) <;> (try (exfalso; first | contradiction | omega | exact hb rfl)))
                             | (refine Den.pcallE (β := List Ed) (fun v => .sl .ro 2 (o.bx fun _ => eEd v)) (as' := [.sl .ro 2 (o.bx fun _ => eEd _), .agg [.int .i64 _, .int .i64 _]]) (by first | with_reducible rfl | (subst ho; rfl)) (spec_l12Edge.ans o ho _ _ _ ?_ ?_) ?_; rotate_left 2; rintro v hv)
                             | (refine Den.fetchYAb ho ?_ ?_ (by with_reducible assumption) ?_)
                             | (refine Den.fetchXAb ho ?_ ?_ (fun y hy => ?_); rotate_left 2; rcases y with ⟨yk, yn, yc⟩; (first | (have _h := hya) | (have hya := hy)))
                             | (refine Den.needD ho (by kernel_rfl) ?_)
                             | (refine ihb _ _ ?_ ⟨_, _, _, _, by subst ho; rfl, ?_, Nat.le_refl _⟩)
                             | (refine iha _ _ ?_ ⟨_, _, _, _, _, _, _, by subst ho; rfl, ?_, Nat.le_refl _⟩))
                        | ((fail_if_success (refine Den.id ?_))
                           first
                             | (exact can_ris _)
                             | (subst ho; exact ⟨congrArg eEd (congrArg canE (inn_zero _ _ _).symm), Int.le_refl _, by omega⟩)
                             | ((try clear iha); (try clear ihb); simp (disch := omega) only [ho, std, wI]; first | exact ⟨congrArg eEd (hv.symm.trans (inn_hitC j1 (by omega) hya (by dsimp only; omega)).symm), by omega, by omega⟩ | exact ⟨congrArg eEd (congrArg canE (inn_miss j1 (by omega) hya (by dsimp only; omega)).symm), by omega, by omega⟩)
                             | ((try clear iha); (try clear ihb); simp (disch := omega) only [ho, std, wI]; first | exact ⟨congrArg eEd (congrArg canE (inn_end i1 (by omega) hyf (edgeP_yes (by dsimp only; omega) hyn (by dsimp only; omega) hv1 (by omega)) hyn hv2 (by omega)).symm), by trivial, i7, by omega, by omega⟩ | exact ⟨congrArg eEd (congrArg canE (rawG_miss i1 (by omega) hyf (by first | exact edgeP_no1 (by dsimp only; omega) | exact edgeP_no2 hyn (by dsimp only; omega) | exact edgeP_no3 hyn hv1 (by omega))).symm), by trivial, i7, by omega, by omega⟩)
                             | assumption
                             | omega
                             | (subst ho; simp (disch := omega) only [std, wI, tdiv2, tdivN, len_eFc, len_eNd, len_eBd, len_eAb, len_eLBd, len_eK, len_eB] <;> first | done | rfl | omega))))
                   | (refine iha _ _ ?_ ⟨_, _, _, _, _, _, _, by subst ho; rfl, ?_, Nat.le_refl _⟩)
                   | (refine Den.done ⟨by first | exact Or.inl rfl | exact Or.inr rfl, ?_⟩; (conv => lhs; cbv) <;> refine congrArg some ?_))
              | ((fail_if_success (refine Den.id ?_))
                 first
                   | (exact hfr.1)
                   | (exact hfr.2.1)
                   | (subst ho; exact ⟨rfl, by rw [hv], by rw [hv], Int.le_refl _, by omega⟩)
                   | ((try clear iha); (try clear ihb); simp (disch := omega) only [ho, std, wI]; first | exact ⟨congrArg eEd (congrArg canE (inn_end i1 (by omega) hyf (edgeP_yes (by dsimp only; omega) hyn (by dsimp only; omega) hv1 (by omega)) hyn hv2 (by omega)).symm), by trivial, i7, by omega, by omega⟩ | exact ⟨congrArg eEd (congrArg canE (rawG_miss i1 (by omega) hyf (by first | exact edgeP_no1 (by dsimp only; omega) | exact edgeP_no2 hyn (by dsimp only; omega) | exact edgeP_no3 hyn hv1 (by omega))).symm), by trivial, i7, by omega, by omega⟩)
                   | (subst ho; rw [i7, graph_fin (by omega)] <;> rfl)
                   | assumption
                   | omega
                   | (subst ho; simp (disch := omega) only [std, wI, tdiv2, tdivN, len_eFc, len_eNd, len_eBd, len_eAb, len_eLBd, len_eK, len_eB] <;> first | done | rfl | omega)))))
    | ((fail_if_success (refine Den.id ?_))
       first
         | assumption))
end Go.Mach
namespace Go.Mach
open Go Go.RowKit Go.Proofs
set_option maxRecDepth 100000
set_option maxHeartbeats 6000000
theorem spec_Targets.ans {xa xb : Option (List D → Option D)} (o : Std) (ho : o = std) (l : List Nd) (dp : Int) (s : Int) (h0 : Sz l) (h1 : l.length ≤ 1048576) : Ans (env xa xb) 49 [.sl .ro 7 (o.bx fun _ => eNd l), .int .i64 dp, .int .i64 s] (.sl .ro 1 (o.bx fun _ => eK .i64 (tgtM l dp s))) := by
  refine Ans.mkA ho _ rfl rfl ?_
  have hgl := graphM_len l dp
  repeat' (first
    | (refine Den.id ?_
       (try (conv => arg 2; cbv))
       first
         | (refine Den.pcallE (β := (List Ed) × Bool) (fun v => .tup [.sl .ro 2 (o.bx fun _ => eEd v.1), .bool v.2]) (as' := [.sl .ro 7 (o.bx fun _ => eNd _), .int .i64 _]) (by first | with_reducible rfl | (subst ho; rfl)) (spec_CallGraph.ans o ho _ _ ?_ ?_) ?_; rotate_left 2; rintro ⟨v0, (_ | _)⟩ hv <;> (try simp only [decide_eq_true_eq, decide_eq_false_iff_not] at hv) <;> (try first | contradiction | exact absurd (hv.symm.trans (show _ = false by assumption)) (by decide) | exact absurd (hv.symm.trans (show _ = true by assumption)) (by decide)))
         | (refine Den.indF (fun m_ s_ => ∃ (ea7 : Box) (a8 : List Ed) (a10 : Int) (ta7 ta8 : Tok) (tk : List Nat), s_ = ⟨[.junk, .junk, .int .i64 s, .junk, .junk, .junk, .junk, .sl ta7 1 ea7, .sl ta8 2 (o.bx fun _ => eEd a8), .junk, .int .i64 a10] ++ List.replicate 29 .junk, [], [], tk⟩ ∧ Lv tk ta7 ea7.length ∧ ea7 = (o.bx fun _ => eK .i64 (tgtL s ((graphM l dp).take a10.toNat))) ∧ (a8 = graphM l dp ∧ 0 ≤ a10 ∧ a10 ≤ (graphM l dp).length) ∧ ((graphM l dp).length - a10).toNat ≤ m_) _ _ ⟨_, _, _, _, _, _, by subst ho; rfl, ?_, ?_, ?_, Nat.le_refl _⟩ ?_
            rotate_right
            rintro m_ _ ⟨ea7, a8, a10, ta7, ta8, tk, rfl, hla0, rfl, hIa, hka⟩ iha
            obtain ⟨rfl, i1, i2⟩ := hIa; have htl := tgt_lenT l dp s a10.toNat h1; refine Den.unloopA ho ?_
            repeat' (first
              | (refine Den.id ?_
                 (try (conv => arg 2; cbv))
                 first
                   | (refine Den.test (fun hr => ?_) (fun hr => ?_) <;> (have hb := hr) <;> (try simp (disch := omega) only [ho, std, wI, len_eK, len_eB, len_eNd, len_eLNd, len_eFc, len_eAb, len_eBd, len_eEd, len_eLBd, Int.ofNat_eq_natCast, Classical.not_not, decide_eq_true_eq, decide_eq_false_iff_not, beq_iff_eq, beq_eq_false_iff_ne, ne_eq, Bool.not_eq_true', Bool.not_eq_false', Bool.not_eq_true, Bool.not_eq_false, gt_iff_lt, ge_iff_le, Int.not_lt, Int.not_le] at hb) <;> (try (exfalso; first | contradiction | omega | exact hb rfl)))
                   | (refine Den.fetchYEd ho ?_ ?_ (by with_reducible assumption) ?_)
                   | (refine Den.fetchXEd ho ?_ ?_ (fun y hy => ?_); rotate_left 2; rcases y with ⟨y0, y1⟩; (first | (have _h := hyk) | (have hyk := hy)))
                   | (refine Den.need ?_ ?_)
                   | (refine Den.app1 ?_ (fun t' tk' hl' => ?_))
                   | (refine iha _ _ ?_ ⟨_, _, _, _, _, _, by subst ho; rfl, ?_, ?_, ?_, Nat.le_refl _⟩)
                   | (refine Den.done ⟨by first | exact Or.inl rfl | exact Or.inr rfl, ?_⟩; (conv => lhs; cbv) <;> refine congrArg some ?_))
              | ((fail_if_success (refine Den.id ?_))
                 first
                   | (exact Lv.cap _)
                   | (subst ho; exact hla0)
                   | (subst ho; exact ⟨(Prod.mk.inj hv).1.symm, Int.le_refl _, by omega⟩)
                   | (subst ho; simp (disch := omega) only [std, wI]; exact pushI (tgt_hit i1 (by omega) hyk (by dsimp only; omega)))
                   | (subst ho; simp (disch := omega) only [std, wI]; exact congrArg (eK .i64) (tgt_miss i1 (by omega) hyk (by dsimp only; omega)).symm)
                   | ((try clear iha); subst ho; simp (disch := omega) only [std, wI]; exact ⟨by trivial, by omega, by omega⟩)
                   | (refine congrArg (D.sl Tok.ro 1) ?_; subst ho; exact congrArg (eK .i64) (tgt_fin (by omega)))
                   | assumption
                   | (subst ho; rfl)
                   | (subst ho; simpa [std, len_eFc, len_eNd, len_eBd, len_eAb, len_eLBd, len_eK, len_eB] using hl')
                   | (subst ho; simp [std, len_eFc, len_eNd, len_eBd, len_eAb, len_eLBd, len_eK, len_eB]; omega)
                   | (subst ho; simp (disch := omega) only [std, wI, tdiv2, tdivN, len_eFc, len_eNd, len_eBd, len_eAb, len_eLBd, len_eK, len_eB] <;> first | done | rfl | omega)))))
    | ((fail_if_success (refine Den.id ?_))
       first
         | assumption))
end Go.Mach
namespace Go.Mach
open Go Go.RowKit Go.Proofs
theorem k13_impl {w : World} {lo hi : Nat} {v : Value} {a : List Nd} {dp st : Int} (hz : SzL a) (hh : hi ≤ w.heap.size) (hv : Row lo hi w 7 (eNd a) v) : Calls Tryz.prog 50 #[v, .int .i64 dp, .int .i64 st] w fun e w' => ∃ v', e = .returned v' ∧ Row w.heap.size w'.heap.size w' 1 (eK .i64 (tgtM a dp st)) v' ∧ Unf w' 1 (eK .i64 (tgtM a dp st)) v' ∧ Stay w w' := targets_calls hz hh hv
end Go.Mach
namespace Go.Mach
open Go Go.RowKit Go.Proofs
set_option maxRecDepth 100000
set_option maxHeartbeats 4000000
theorem k13_spec {w : World} {lo hi : Nat} {v : Value} {a : List Nd} {dp st : Int} (hz : SzL a) (hh : hi ≤ w.heap.size) (hv : Row lo hi w 7 (eNd a) v) : Calls Tryz.prog 49 #[v, .int .i64 dp, .int .i64 st] w fun e w' => ∃ v', e = .returned v' ∧ Row 0 w'.heap.size w' 1 (eK .i64 (tgtM a dp st)) v' ∧ Stay w w' :=
 row_calls env_okA (spec_Targets.ans (xa := some gPass) (xb := some gFree) std rfl a dp st hz.sz (by have := hz.1; omega)) (flt_eK _) rfl (args3 (.row hv hh (flt_eNd a)) .int .int)
theorem law13_calls {W : World} {a : List Nd} {dp st : Int} {v : Value} (hB : Bg a) (h0 : Row 0 W.heap.size W 7 (eNd a) v) : Calls Tryz.prog 13 #[v, .int .i64 dp, .int .i64 st] W fun e w => e = .returned (.bool true) ∧ Below W.heap.size W w := by
 have hn : Tryz.f13.ntmps = 79 := by kernel_rfl
 have e15 : ∀ args w, (callFunc 15 args).run Tryz.prog w = .ok (.enter 15 args) w := enters_of Tryz.func15 (by kernel_rfl) rfl
 have e17 : ∀ args w, (callFunc 17 args).run Tryz.prog w = .ok (.enter 17 args) w := enters_of Tryz.func17 (by kernel_rfl) rfl
 have e19 : ∀ args w, (callFunc 19 args).run Tryz.prog w = .ok (.enter 19 args) w := enters_of Tryz.func19 (by kernel_rfl) rfl
 have e22 : ∀ args w, (callFunc 22 args).run Tryz.prog w = .ok (.enter 22 args) w := enters_of Tryz.func22 (by kernel_rfl) rfl
 have e23 : ∀ args w, (callFunc 23 args).run Tryz.prog w = .ok (.enter 23 args) w := enters_of Tryz.func23 (by kernel_rfl) rfl
 have e24 : ∀ args w, (callFunc 24 args).run Tryz.prog w = .ok (.enter 24 args) w := enters_of Tryz.func24 (by kernel_rfl) rfl
 have e25 : ∀ args w, (callFunc 25 args).run Tryz.prog w = .ok (.enter 25 args) w := enters_of Tryz.func25 (by kernel_rfl) rfl
 have e49 : ∀ args w, (callFunc 49 args).run Tryz.prog w = .ok (.enter 49 args) w := enters_of Tryz.func49 (by kernel_rfl) rfl
 have e50 : ∀ args w, (callFunc 50 args).run Tryz.prog w = .ok (.enter 50 args) w := enters_of Tryz.func50 (by kernel_rfl) rfl
 have t3 := Tryz.underlying3; have t4 := Tryz.underlying4
 go_enter Tryz.func13, hn
 go_wp2_with (go_at_fn 15; refine (k_sz hB h0 (Nat.le_refl _)).mono ?_; rintro e w1 ⟨r, rfl, hsz, s1⟩)
 ·go_ret
  exact ⟨rfl, s1.1⟩
 have hz : SzL a := hsz (by omega)
 have hlen : (tgtM a dp st).length ≤ 1048576 := tgtM_len a dp st (by have := hz.1; omega)
 have b1 : Below W.heap.size W w1 := s1.1
 have h1 := h0.stay (Nat.le_refl _) s1
 go_wp2_with (go_at_fn 17; refine (k_to hz h1 b1.size).mono ?_; rintro e w2 ⟨u1, rfl, hu1, _, s2⟩)
 have h2 := h1.stay b1.size s2; have b2 := b1.trans (s2.1.mono b1.size)
 go_wp2_with (go_at_fn 49; refine (k13_spec hz (Nat.le_refl _) hu1).mono ?_; rintro e w3 ⟨u2, rfl, hw3, s3⟩)
 have h3 := h2.stay b2.size s3; have b3 := b2.trans (s3.1.mono b2.size)
 go_wp2_with (go_at_fn 17; refine (k_to hz h3 b3.size).mono ?_; rintro e w4 ⟨u3, rfl, hx4, ux4, s4⟩)
 have q4 := s4.1.size; have h4 := h3.stay b3.size s4; have b4 := b3.trans (s4.1.mono b3.size); have hw4 := hw3.stay (Nat.le_refl _) s4
 go_wp2_with (go_at_fn 50; refine (k13_impl hz (Nat.le_refl _) hx4).mono ?_; rintro e w5 ⟨u4, rfl, hg5, ug5, s5⟩)
 have q5 := s5.1.size; have h5 := h4.stay b4.size s5; have b5 := b4.trans (s5.1.mono b4.size); have hw5 := hw4.stay q4 s5; have hx5 := hx4.stay (Nat.le_refl _) s5; have ux5 := ux4.stay hx4 (Nat.le_refl _) s5
 go_wp2_with (go_at_fn 22; refine (k_eqI hlen hg5 (Nat.le_refl _) hw5 (by omega)).mono ?_; rintro e w6 ⟨rfl, s6⟩)
 have q6 := s6.1.size; have h6 := h5.stay b5.size s6; have b6 := b5.trans (s6.1.mono b5.size); have hw6 := hw5.stay (by omega) s6; have hx6 := hx5.stay q5 s6; have ux6 := ux5.stay hx5 q5 s6; have hg6 := hg5.stay (Nat.le_refl _) s6; have ug6 := ug5.stay hg5 (Nat.le_refl _) s6
 go_wp2_with (go_at_fn 17; refine (k_to hz h6 b6.size).mono ?_; rintro e w7 ⟨u5, rfl, hy7, _, s7⟩)
 have q7 := s7.1.size; have h7 := h6.stay b6.size s7; have b7 := b6.trans (s7.1.mono b6.size); have hw7 := hw6.stay (by omega) s7; have hx7 := hx6.stay (by omega) s7; have ux7 := ux6.stay hx6 (by omega) s7; have hg7 := hg6.stay (by omega) s7; have ug7 := ug6.stay hg6 (by omega) s7
 go_wp2_with (go_at_fn 19; refine (k_eqN hz hx7 (by omega) hy7 (Nat.le_refl _)).mono ?_; rintro e w8 ⟨rfl, s8⟩)
 have q8 := s8.1.size; have h8 := h7.stay b7.size s8; have b8 := b7.trans (s8.1.mono b7.size); have hw8 := hw7.stay (by omega) s8; have hx8 := hx7.stay (by omega) s8; have ux8 := ux7.stay hx7 (by omega) s8; have hg8 := hg7.stay (by omega) s8; have ug8 := ug7.stay hg7 (by omega) s8
 have b3s := b3.size; have b8s := b8.size
 go_wp2_with (go_at_fn 23; refine (k_markN hz hx8 ux8 (by omega)).mono ?_; rintro e w9 ⟨k1, rfl, hk1, m9⟩)
 have q9 := m9.2.2.2.1; have h9 := h8.mark b8s m9 (.inl b3s); have b9 := b8.trans (m9.below b3s b8s); have hw9 := hw8.mark (by omega) m9 (.inl (Nat.le_refl _)); have hg9 := hg8.mark (by omega) m9 (.inr (Nat.le_refl _)); have ug9 := ug8.mark hg8 (by omega) m9 (.inr (Nat.le_refl _))
 have hk1n : ¬ k1 < 0 := by omega
 have hk1d : decide (k1 < 0) = false := decide_eq_false hk1n
 go_wp2_with (go_at_fn 22; refine (k_eqI hlen hg9 (by omega) hw9 (by omega)).mono ?_; rintro e w10 ⟨rfl, s10⟩)
 have q10 := s10.1.size; have h10 := h9.stay b9.size s10; have b10 := b9.trans (s10.1.mono b9.size); have hw10 := hw9.stay (by omega) s10; have hg10 := hg9.stay (by omega) s10; have ug10 := ug9.stay hg9 (by omega) s10; have b10s := b10.size
 go_wp2_with (go_at_fn 24; refine (k_markI hlen hg10 ug10 (by omega)).mono ?_; rintro e w11 ⟨k2, rfl, hk2, hg11, m11⟩)
 have q11 := m11.2.2.2.1; have h11 := h10.mark b10s m11 (.inl (by omega)); have b11 := b10.trans (m11.below (by omega) b10s); have hw11 := hw10.mark (by omega) m11 (.inl (by omega))
 have hk2n : ¬ k2 < 0 := by omega
 have hk2d : decide (k2 < 0) = false := decide_eq_false hk2n
 go_wp2_with (go_at_fn 25; refine (k_heldI hlen hg11 (by omega)).mono ?_; rintro e w12 ⟨k3, rfl, hk3, s12⟩)
 obtain rfl : k3 = k2 := hk3.trans hk2.symm
 have q12 := s12.1.size; have h12 := h11.stay b11.size s12; have b12 := b11.trans (s12.1.mono b11.size); have hw12 := hw11.stay (by omega) s12; have hg12 := hg11.stay (by omega) s12
 go_wp2_with (go_at_fn 17; refine (k_to hz h12 b12.size).mono ?_; rintro e w13 ⟨u6, rfl, hu13, _, s13⟩)
 have q13 := s13.1.size; have b13 := b12.trans (s13.1.mono b12.size); have hw13 := hw12.stay (by omega) s13; have hg13 := hg12.stay (by omega) s13
 go_wp2_with (go_at_fn 50; refine (k13_impl hz (Nat.le_refl _) hu13).mono ?_; rintro e w14 ⟨u7, rfl, hh14, _, s14⟩)
 have q14 := s14.1.size; have b14 := b13.trans (s14.1.mono b13.size); have hw14 := hw13.stay (by omega) s14; have hg14 := hg13.stay (by omega) s14
 go_wp2_with (go_at_fn 22; refine (k_eqI hlen hh14 (Nat.le_refl _) hw14 (by omega)).mono ?_; rintro e w15 ⟨rfl, s15⟩)
 have q15 := s15.1.size; have b15 := b14.trans (s15.1.mono b14.size); have hg15 := hg14.stay (by omega) s15
 go_wp2_with (go_at_fn 25; refine (k_heldI hlen hg15 (by omega)).mono ?_; rintro e w16 ⟨k4, rfl, hk4, s16⟩)
 obtain rfl : k4 = k3 := hk4.trans hk2.symm
 have b16 := b15.trans (s16.1.mono b15.size)
 go_ret
 exact ⟨rfl, b16⟩
end Go.Mach
