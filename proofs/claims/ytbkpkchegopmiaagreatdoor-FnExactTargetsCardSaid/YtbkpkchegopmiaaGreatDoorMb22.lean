/- What the statements over Solve share: part 22 of a proof by an executable machine over the program's code. -/
import Derived.Test.YtbkpkchegopmiaaGreatDoorMb13
import Derived.Test.YtbkpkchegopmiaaGreatDoorMb16
import Derived.Test.YtbkpkchegopmiaaGreatDoorMb18
import Derived.Test.YtbkpkchegopmiaaGreatDoorMb19
import Derived.Test.YtbkpkchegopmiaaGreatDoorMb21
section
set_option linter.unusedVariables false
set_option linter.unusedSimpArgs false
namespace Go.Mach
open Go Go.RowKit Go.Proofs
set_option maxRecDepth 100000
set_option maxHeartbeats 4000000
theorem spec_l17One.ans {xa xb : Option (List D → Option D)} (o : Std) (ho : o = std) (p_l : List Nd) (p_bind : List Bd) (p_outer : List (List Bd)) (p_depth : Int) (out : List Fc) (old : List Fc) (i : Int) (c : Int) (h0 : PrOk (⟨p_l, p_bind, p_outer, p_depth⟩ : Pr)) (h1 : Old (⟨p_l, p_bind, p_outer, p_depth⟩ : Pr) old) (h2 : Up out) (h3 : 0 ≤ i ∧ i < p_l.length) (h4 : out.length + 20000000 ≤ 2900000000000) : Ans (env xa xb) 141 [.agg [.sl .ro 7 (o.bx fun _ => eNd p_l), .sl .ro 2 (o.bx fun _ => eBd p_bind), .sl .ro 1 (o.bx fun _ => eLBd p_outer), .int .i64 p_depth], .sl .ro 6 (o.bx fun _ => eFc out), .sl .ro 6 (o.bx fun _ => eFc old), .int .i64 i, .int .i64 c] (.sl .ro 6 (o.bx fun _ => eFc (insAll out (oneS (⟨p_l, p_bind, p_outer, p_depth⟩ : Pr) old i c)))) := by
  refine Ans.mkA ho _ rfl rfl ?_
  have hP := h0; have hO := h1; have hu := h1.up; have hp := h1.pos; have hL := h1.len; have hL2 : old.length ≤ 2900000000000 := (by omega); have hpo := h0.outer; have hpb := h0.bind; dsimp only at hpo hpb
  repeat' (first
    | (refine Den.id ?_
       (try (conv => arg 2; cbv))
       first
         | refine Den.testT ?_
         | refine Den.testF ?_
         | (refine Den.test (fun hr => ?_) (fun hr => ?_) <;> (have hb := hr) <;> (try simp (disch := omega) only [ho, std, wI, len_eK, len_eB, len_eNd, len_eLNd, len_eFc, len_eAb, len_eBd, len_eEd, len_eLBd, Classical.not_not, decide_eq_true_eq, decide_eq_false_iff_not, beq_iff_eq, beq_eq_false_iff_ne, ne_eq, Bool.not_eq_true', Bool.not_eq_false', gt_iff_lt, ge_iff_le, Int.not_lt, Int.not_le] at hb) <;> (try (exfalso; first | contradiction | omega | exact hb rfl)))
         | (refine Den.pcallE (β := Bool) (fun v => .bool v) (as' := [.sl .ro 6 (o.bx fun _ => eFc _), .int .i64 _, .int .i64 _]) (by first | with_reducible rfl | (subst ho; rfl)) (spec_l17Has.ans o ho _ _ _ ?_ ?_ ?_) ?_; rotate_left 3; rintro (_ | _) hv <;> (try simp only [decide_eq_true_eq, decide_eq_false_iff_not] at hv) <;> (try first | exact absurd (hv.symm.trans (show _ = false by assumption)) (by decide) | exact absurd (hv.symm.trans (show _ = true by assumption)) (by decide)))
         | (refine Den.pcallE (β := List Fc) (fun v => .sl .ro 6 (o.bx fun _ => eFc v)) (as' := [.sl .ro 6 (o.bx fun _ => eFc _), .int .i64 _, .int .i64 _]) (by first | with_reducible rfl | (subst ho; rfl)) (spec_l17See.ans o ho _ _ _ ?_ ?_) ?_; rotate_left 2; rintro v hv; (try have hUp := Up.adds (by assumption) hv); (try have hLn := adds_see hv))
         | (refine Den.pcallE (β := List Fc) (fun v => .sl .ro 6 (o.bx fun _ => eFc v)) (as' := [.sl .ro 6 (o.bx fun _ => eFc _), .sl .ro 6 (o.bx fun _ => eFc _), .int .i64 _, .int .i64 _, .int .i64 _, .int .i64 _, .int .i64 _, .int .i64 _]) (by first | with_reducible rfl | (subst ho; rfl)) (spec_l17Flow.ans o ho _ _ _ _ _ _ _ _ ?_ ?_ ?_ ?_ ?_) ?_; rotate_left 5; rintro v hv; (try have hUp := Up.adds (by assumption) hv); (try have hLn := adds_flow hO hv))
         | (refine Den.pcallE (β := Bool) (fun v => .bool v) (as' := [.sl .ro 6 (o.bx fun _ => eFc _), .int .i64 _, .int .i64 _, .int .i64 _]) (by first | with_reducible rfl | (subst ho; rfl)) (spec_l17Kind.ans o ho _ _ _ _ ?_ ?_ ?_) ?_; rotate_left 3; rintro (_ | _) hv <;> (try simp only [decide_eq_true_eq, decide_eq_false_iff_not] at hv) <;> (try first | exact absurd (hv.symm.trans (show _ = false by assumption)) (by decide) | exact absurd (hv.symm.trans (show _ = true by assumption)) (by decide)))
         | (refine Den.pcallE (β := List Fc) (fun v => .sl .ro 6 (o.bx fun _ => eFc v)) (as' := [.agg [.sl .ro 7 (o.bx fun _ => eNd _), .sl .ro 2 (o.bx fun _ => eBd _), .sl .ro 1 (o.bx fun _ => eLBd _), .int .i64 _], .sl .ro 6 (o.bx fun _ => eFc _), .sl .ro 6 (o.bx fun _ => eFc _), .int .i64 _, .int .i64 _, .int .i64 _, .int .i64 _, .int .i64 _, .int .i64 _]) (by first | with_reducible rfl | (subst ho; rfl)) (spec_l17Parts.ans o ho _ _ _ _ _ _ _ _ _ _ _ _ ?_ ?_ ?_ ?_ ?_) ?_; rotate_left 5; rintro v hv; (try have hUp := Up.adds (by assumption) hv); (try have hLn := adds_parts hO hv))
         | (refine Den.pcallE (β := List Fc) (fun v => .sl .ro 6 (o.bx fun _ => eFc v)) (as' := [.sl .ro 6 (o.bx fun _ => eFc _), .agg [.int .i64 _, .int .i64 _, .int .i64 _, .int .i64 _, .int .i64 _, .int .i64 _]]) (by first | with_reducible rfl | (subst ho; rfl)) (spec_l15Add.ans o ho _ _ _ _ _ _ _ ?_ ?_) ?_; rotate_left 2; rintro v hv; (try have hUp := Up.add1 (by assumption) hv); (try have hLn := adds_one hv))
         | (refine Den.pcallE (β := Bool) (fun v => .bool v) (as' := [.sl .ro 6 (o.bx fun _ => eFc _), .int .i64 _, .int .i64 _]) (by first | with_reducible rfl | (subst ho; rfl)) (spec_l17Raises.ans o ho _ _ _ ?_ ?_ ?_) ?_; rotate_left 3; rintro (_ | _) hv <;> (try simp only [decide_eq_true_eq, decide_eq_false_iff_not] at hv) <;> (try first | exact absurd (hv.symm.trans (show _ = false by assumption)) (by decide) | exact absurd (hv.symm.trans (show _ = true by assumption)) (by decide)))
         | (refine Den.fetchXNd ho ?_ ?_ (fun y hy => ?_); rotate_left 2; rcases y with ⟨y0, y1, y2, y3, y4, y5, y6⟩)
         | (refine Den.needD ho (by kernel_rfl) ?_)
         | (refine Den.done ⟨by first | exact Or.inl rfl | exact Or.inr rfl, ?_⟩; (conv => lhs; cbv); refine congrArg some ?_))
    | ((fail_if_success (refine Den.id ?_))
       first
         | (refine Nat.le_trans (Nat.add_le_add_left (len_valsO hO _ _ _) _) ?_; omega)
         | (refine Nat.le_trans (Nat.add_le_add_left (len_parts hO _ _ _ _ _ _) _) ?_; omega)
         | ((try clear iha); subst ho; refine congrArg (D.sl Tok.ro 6) (congrArg eFc ?_); unfold oneS; simp [*, insAll_append, insAll_one, insAll_nil, insAll_cons, riseL]; done)
         | assumption
         | omega))
end Go.Mach
end
section
set_option linter.unusedVariables false
set_option linter.unusedSimpArgs false
namespace Go.Mach
open Go Go.RowKit Go.Proofs
set_option maxRecDepth 100000
set_option maxHeartbeats 4000000
theorem spec_l17Node.ans {xa xb : Option (List D → Option D)} (o : Std) (ho : o = std) (p_l : List Nd) (p_bind : List Bd) (p_outer : List (List Bd)) (p_depth : Int) (out : List Fc) (old : List Fc) (i : Int) (c : Int) (h0 : PrOk (⟨p_l, p_bind, p_outer, p_depth⟩ : Pr)) (h1 : Old (⟨p_l, p_bind, p_outer, p_depth⟩ : Pr) old) (h2 : Up out) (h3 : 0 ≤ i ∧ i < p_l.length) (h4 : out.length + 970000000 ≤ 2900000000000) : Ans (env xa xb) 110 [.agg [.sl .ro 7 (o.bx fun _ => eNd p_l), .sl .ro 2 (o.bx fun _ => eBd p_bind), .sl .ro 1 (o.bx fun _ => eLBd p_outer), .int .i64 p_depth], .sl .ro 6 (o.bx fun _ => eFc out), .sl .ro 6 (o.bx fun _ => eFc old), .int .i64 i, .int .i64 c] (.sl .ro 6 (o.bx fun _ => eFc (insAll out (nodeS (⟨p_l, p_bind, p_outer, p_depth⟩ : Pr) old i c)))) := by
  refine Ans.mkA ho _ rfl rfl ?_
  have hP := h0; have hO := h1; have hu := h1.up; have hp := h1.pos; have hL := h1.len; have hL2 : old.length ≤ 2900000000000 := (by omega); have hpo := h0.outer; have hpb := h0.bind; dsimp only at hpo hpb
  repeat' (first
    | (refine Den.id ?_
       (try (conv => arg 2; cbv))
       first
         | refine Den.testT ?_
         | refine Den.testF ?_
         | (refine Den.test (fun hr => ?_) (fun hr => ?_) <;> (have hb := hr) <;> (try simp (disch := omega) only [ho, std, wI, len_eK, len_eB, len_eNd, len_eLNd, len_eFc, len_eAb, len_eBd, len_eEd, len_eLBd, Classical.not_not, decide_eq_true_eq, decide_eq_false_iff_not, beq_iff_eq, beq_eq_false_iff_ne, ne_eq, Bool.not_eq_true', Bool.not_eq_false', gt_iff_lt, ge_iff_le, Int.not_lt, Int.not_le] at hb) <;> (try (exfalso; first | contradiction | omega | exact hb rfl)))
         | (refine Den.pcallE (β := Int) (fun v => .int .i64 v) (as' := [.int .i64 _]) (by first | with_reducible rfl | (subst ho; rfl)) (spec_l17Name.ans o ho _ ?_) ?_; rotate_left 1; rintro v hv)
         | (refine Den.pcallE (β := List Fc) (fun v => .sl .ro 6 (o.bx fun _ => eFc v)) (as' := [.sl .ro 6 (o.bx fun _ => eFc _), .sl .ro 6 (o.bx fun _ => eFc _), .int .i64 _, .int .i64 _, .int .i64 _, .int .i64 _, .int .i64 _, .int .i64 _]) (by first | with_reducible rfl | (subst ho; rfl)) (spec_l17Flow.ans o ho _ _ _ _ _ _ _ _ ?_ ?_ ?_ ?_ ?_) ?_; rotate_left 5; rintro v hv; (try have hUp := Up.adds (by assumption) hv); (try have hLn := adds_flow hO hv))
         | (refine Den.pcallE (β := List Fc) (fun v => .sl .ro 6 (o.bx fun _ => eFc v)) (as' := [.sl .ro 6 (o.bx fun _ => eFc _), .agg [.int .i64 _, .int .i64 _, .int .i64 _, .int .i64 _, .int .i64 _, .int .i64 _]]) (by first | with_reducible rfl | (subst ho; rfl)) (spec_l15Add.ans o ho _ _ _ _ _ _ _ ?_ ?_) ?_; rotate_left 2; rintro v hv; (try have hUp := Up.add1 (by assumption) hv); (try have hLn := adds_one hv))
         | (refine Den.pcallE (β := List Fc) (fun v => .sl .ro 6 (o.bx fun _ => eFc v)) (as' := [.sl .ro 6 (o.bx fun _ => eFc _), .int .i64 _, .int .i64 _]) (by first | with_reducible rfl | (subst ho; rfl)) (spec_l17See.ans o ho _ _ _ ?_ ?_) ?_; rotate_left 2; rintro v hv; (try have hUp := Up.adds (by assumption) hv); (try have hLn := adds_see hv))
         | (refine Den.pcallE (β := Bool) (fun v => .bool v) (as' := [.sl .ro 6 (o.bx fun _ => eFc _), .int .i64 _, .int .i64 _]) (by first | with_reducible rfl | (subst ho; rfl)) (spec_l17Raises.ans o ho _ _ _ ?_ ?_ ?_) ?_; rotate_left 3; rintro (_ | _) hv <;> (try simp only [decide_eq_true_eq, decide_eq_false_iff_not] at hv) <;> (try first | exact absurd (hv.symm.trans (show _ = false by assumption)) (by decide) | exact absurd (hv.symm.trans (show _ = true by assumption)) (by decide)))
         | (refine Den.pcallE (β := List Int) (fun v => .sl .ro 1 (o.bx fun _ => eK .i64 v)) (as' := [.agg [.int .i64 _, .int .i64 _, .int .i64 _, .int .i64 _, .int .i64 _, .str _, .str _]]) (by first | with_reducible rfl | (subst ho; rfl)) (spec_Kids.ans o ho _ _ _ _ _ _ _) ?_; rotate_left 0; rintro v hv)
         | (refine Den.fetchXNd ho ?_ ?_ (fun y hy => ?_); rotate_left 2; rcases y with ⟨y0, y1, y2, y3, y4, y5, y6⟩)
         | (refine Den.fetchXBd ho ?_ ?_ (fun y hy => ?_); rotate_left 2; rcases y with ⟨y0, y1⟩; (have hrl := role_bind hP h3 hy); dsimp only at hrl)
         | (refine Den.needD ho (by kernel_rfl) ?_)
         | (refine Den.indF (fun m_ s_ => ∃ (a1 : List Fc) (a14 : List Int) (a15 : Int) (ta1 ta14 : Tok) (tk : List Nat), s_ = ⟨[.junk, .sl ta1 6 (o.bx fun _ => eFc a1), .sl .ro 6 (o.bx fun _ => eFc old), .int .i64 i, .int .i64 c, .pbx (.loc 0) 0, .junk, .junk, .junk, .junk, .junk, .pbx (.loc 1) 0, .junk, .junk, .sl ta14 1 (o.bx fun _ => eK .i64 a14), .int .i64 a15] ++ List.replicate 138 .junk, [[[.sl .ro 7 (o.bx fun _ => eNd p_l), .sl .ro 2 (o.bx fun _ => eBd p_bind), .sl .ro 1 (o.bx fun _ => eLBd p_outer), .int .i64 p_depth]], [[.int .i64 y0, .int .i64 y1, .int .i64 y2, .int .i64 y3, .int .i64 y4, .str y5, .str y6]], [[.int .i64 0, .int .i64 i, .int .i64 c, .int .i64 0, .int .i64 0, .int .i64 0]]], [], tk⟩ ∧ (a14 = kidsM ⟨y0, y1, y2, y3, y4, y5, y6⟩ ∧ 0 ≤ a15 ∧ a15 ≤ a14.length ∧ a1 = insAll (insAll out (seeL y1 c)) ((a14.zipIdx.take a15.toNat).flatMap (kidR1 old y0 i c))) ∧ (a14.length - a15).toNat ≤ m_) _ _ ⟨_, _, _, _, _, _, by subst ho; rfl, ?_, Nat.le_refl _⟩ ?_
            rotate_right
            rintro m_ _ ⟨a1, a14, a15, ta1, ta14, tk, rfl, hIa, hka⟩ iha
            obtain ⟨i1, i2, i3, i4⟩ := hIa; have hz := len_kidsM ⟨y0, y1, y2, y3, y4, y5, y6⟩; rw [← i1] at hz; have hz2 := arityM_le y0; dsimp only at hz; have hw := len_insAll (insAll out (seeL y1 c)) ((a14.zipIdx.take a15.toNat).flatMap (kidR1 old y0 i c)); rw [← i4] at hw; have hw1 := len_insAll out (seeL y1 c); have hw2 := len_flatMap_le _ 1 (fun v => len_kidR1 old y0 i c v) (a14.zipIdx.take a15.toNat); have hw3 := List.length_take_le a15.toNat a14.zipIdx; have hU := (h2.insAll (seeL y1 c)).adds i4.symm; have hsl : (seeL y1 c).length = 1 := rfl; refine Den.unloopA ho ?_
            repeat' (first
              | (refine Den.id ?_
                 (try (conv => arg 2; cbv))
                 first
                   | refine Den.testT ?_
                   | refine Den.testF ?_
                   | refine Den.test1 (by with_reducible assumption) ?_
                   | refine Den.test0 (by with_reducible assumption) ?_
                   | (refine Den.test (fun hr => ?_) (fun hr => ?_) <;> (have hb := hr) <;> (try simp (disch := omega) only [ho, std, wI, len_eK, len_eB, len_eNd, len_eLNd, len_eFc, len_eAb, len_eBd, len_eEd, len_eLBd, Classical.not_not, decide_eq_true_eq, decide_eq_false_iff_not, beq_iff_eq, beq_eq_false_iff_ne, ne_eq, Bool.not_eq_true', Bool.not_eq_false', gt_iff_lt, ge_iff_le, Int.not_lt, Int.not_le] at hb) <;> (try (exfalso; first | contradiction | omega | exact hb rfl)))
                   | (refine Den.pcallE (β := List Fc) (fun v => .sl .ro 6 (o.bx fun _ => eFc v)) (as' := [.sl .ro 6 (o.bx fun _ => eFc _), .agg [.int .i64 _, .int .i64 _, .int .i64 _, .int .i64 _, .int .i64 _, .int .i64 _]]) (by first | with_reducible rfl | (subst ho; rfl)) (spec_l15Add.ans o ho _ _ _ _ _ _ _ ?_ ?_) ?_; rotate_left 2; rintro v hv; (try have hUp := Up.add1 (by assumption) hv); (try have hLn := adds_one hv))
                   | (refine Den.pcallE (β := Bool) (fun v => .bool v) (as' := [.sl .ro 6 (o.bx fun _ => eFc _), .int .i64 _, .int .i64 _]) (by first | with_reducible rfl | (subst ho; rfl)) (spec_l17Raises.ans o ho _ _ _ ?_ ?_ ?_) ?_; rotate_left 3; rintro (_ | _) hv <;> (try simp only [decide_eq_true_eq, decide_eq_false_iff_not] at hv) <;> (try first | exact absurd (hv.symm.trans (show _ = false by assumption)) (by decide) | exact absurd (hv.symm.trans (show _ = true by assumption)) (by decide)))
                   | (refine Den.pcallE (β := List Fc) (fun v => .sl .ro 6 (o.bx fun _ => eFc v)) (as' := [.agg [.sl .ro 7 (o.bx fun _ => eNd _), .sl .ro 2 (o.bx fun _ => eBd _), .sl .ro 1 (o.bx fun _ => eLBd _), .int .i64 _], .sl .ro 6 (o.bx fun _ => eFc _), .sl .ro 6 (o.bx fun _ => eFc _), .int .i64 _, .int .i64 _]) (by first | with_reducible rfl | (subst ho; rfl)) (spec_l17Two.ans o ho _ _ _ _ _ _ _ _ ?_ ?_ ?_ ?_ ?_) ?_; rotate_left 5; rintro v hv; (try have hUp := Up.adds (by assumption) hv); (try have hLn := adds_two hP hO hv))
                   | (refine Den.pcallE (β := List Fc) (fun v => .sl .ro 6 (o.bx fun _ => eFc v)) (as' := [.agg [.sl .ro 7 (o.bx fun _ => eNd _), .sl .ro 2 (o.bx fun _ => eBd _), .sl .ro 1 (o.bx fun _ => eLBd _), .int .i64 _], .sl .ro 6 (o.bx fun _ => eFc _), .sl .ro 6 (o.bx fun _ => eFc _), .int .i64 _, .int .i64 _]) (by first | with_reducible rfl | (subst ho; rfl)) (spec_l17One.ans o ho _ _ _ _ _ _ _ _ ?_ ?_ ?_ ?_ ?_) ?_; rotate_left 5; rintro v hv; (try have hUp := Up.adds (by assumption) hv); (try have hLn := adds_oneS hP hO hv))
                   | (refine Den.fetchXK ho ?_ ?_ (fun y hy => ?_); rotate_left 2)
                   | (refine iha _ _ ?_ ⟨_, _, _, _, _, _, by subst ho; rfl, ?_, Nat.le_refl _⟩)
                   | (refine Den.done ⟨by first | exact Or.inl rfl | exact Or.inr rfl, ?_⟩; (conv => lhs; cbv); refine congrArg some ?_))
              | ((fail_if_success (refine Den.id ?_))
                 first
                   | (subst ho; refine ⟨Eq.symm (by assumption), Int.le_refl _, by omega, ?_⟩; simp [*, insAll_nil]; done)
                   | ((try clear iha); subst ho; refine congrArg (D.sl Tok.ro 6) (congrArg eFc ?_); rw [take_allG (by simp; omega), i1] at i4; unfold nodeS; refine hv.symm.trans ?_; rw [i4]; clear i4 i1; simp [*, insAll_append, kidRiseS]; done)
                   | ((try clear iha); subst ho; refine ⟨i1, ?_, ?_, ?_⟩ <;> simp (disch := omega) only [std, wI] <;> first | omega | (rw [flatMap_succ _ (0, 0) i2 (by simp; omega), insAll_append, ← i4, rd_zipIdx i2 (by omega), hy, kidR1]; first | exact kidR_t (by assumption) (by omega) hv | exact kidR_f (by first | (left; assumption) | (right; omega))))
                   | assumption
                   | omega
                   | (subst ho; simp (disch := omega) only [std, wI, tdiv2, tdivN, len_eFc, len_eNd, len_eBd, len_eAb, len_eLBd, len_eK, len_eB] <;> first | done | rfl | omega))))
         | (refine Den.done ⟨by first | exact Or.inl rfl | exact Or.inr rfl, ?_⟩; (conv => lhs; cbv); refine congrArg some ?_))
    | ((fail_if_success (refine Den.id ?_))
       first
         | (refine Nat.le_trans (Nat.add_le_add_left (len_valsO hO _ _ _) _) ?_; omega)
         | ((try clear iha); subst ho; refine congrArg (D.sl Tok.ro 6) (congrArg eFc ?_); unfold nodeS; simp [*, insAll_append, insAll_one, insAll_nil, insAll_cons, riseL]; done)
         | assumption
         | omega))
end Go.Mach
end
section
set_option linter.unusedVariables false
set_option linter.unusedSimpArgs false
namespace Go.Mach
open Go Go.RowKit
theorem len_twoS {p : Pr} {old : List Fc} (hp : PrOk p) (ho : Old p old) (i c : Int) : (twoS p old i c).length ≤ 957000000 := by
  unfold twoS
  have h1 := len_callS hp ho i c
  have h2 := len_flow ho 0 (rN p.l i).f1 c 3 i c
  have h3 := len_flow ho 0 (rN p.l i).f2 c 4 i c
  have h4 := len_flatMap_le _ 2500 (fun v => len_set1 ho (rN p.l i).f2 c v) (vals old 0 (rN p.l i).f1 c)
  have h5 := len_valsO ho 0 (rN p.l i).f1 c
  have h6 : (vals old 0 (rN p.l i).f1 c).length * 2500 ≤ 2500 * 2500 := Nat.mul_le_mul_right _ h5
  have h7 : (seeL (rN p.l i).f2 c).length = 1 := rfl
  dsimp only; rw [List.length_append]
  (repeat' split) <;> (try simp only [List.length_append, List.length_nil, List.length_cons]) <;> omega
theorem len_oneS {p : Pr} {old : List Fc} (ho : Old p old) (i c : Int) : (oneS p old i c).length ≤ 20000000 := by
  unfold oneS
  have hf := fun a b d e => len_flow ho a b c d e c
  have h1 := hf 0 (rN p.l i).f1 1 i
  have h2 := hf 0 (rN p.l i).f2 0 i
  have h3 := hf 0 (rN p.l i).f3 0 i
  have h4 := hf 0 (rN p.l i).f1 5 i
  have h5 := hf 0 (rN p.l i).f1 0 i
  have hq := fun a b d e => len_parts ho (rN p.l i).f1 c a b d e
  have q1 := hq 4 3 1 i
  have q2 := hq 4 4 2 i
  have q3 := hq 3 3 0 i
  have q4 := hq 3 4 0 i
  have q5 := hq 5 5 0 i
  have h7 : ∀ a b, (seeL a b).length = 1 := fun _ _ => rfl
  have h8 := fun b => len_rise b i c
  have h9 := h8 (kindB old (rN p.l i).f1 c 0)
  dsimp only
  (repeat' split) <;> (try simp only [List.length_append, List.length_nil, List.length_cons, h7]) <;> omega
theorem len_nodeS {p : Pr} {old : List Fc} (hp : PrOk p) (ho : Old p old) (i c : Int) : (nodeS p old i c).length ≤ 960000000 := by
  unfold nodeS
  have h1 := len_twoS hp ho i c
  have h2 := len_oneS ho i c
  have h3 := len_flow ho (1 + (rB p.bind i).f1) (rB p.bind i).f0 c 0 i c
  have h4 := len_flow ho 0 (rN p.l i).f2 c 0 i c
  have h5 := len_rise (anyB old 7 (rN p.l i).f2 c) i c
  have h7 : ∀ a b, (seeL a b).length = 1 := fun _ _ => rfl
  have h8 := len_flatMap_le _ 1 (fun v => len_kidR1 old (rN p.l i).f0 i c v) (kidsM (rN p.l i)).zipIdx
  have h9 := len_kidsM (rN p.l i)
  have h10 := arityM_le (rN p.l i).f0
  have h11 : (kidRiseS old (rN p.l i) i c).length ≤ 3 := by
    unfold kidRiseS
    rw [List.length_zipIdx] at h8
    omega
  dsimp only
  (repeat' split) <;> (try simp only [List.length_append, List.length_nil, List.length_cons, h7]) <;> omega
theorem len_pass1S {p : Pr} {old : List Fc} (hp : PrOk p) (ho : Old p old) (f : Fc) : (pass1S p old f).length ≤ 960000000 := by
  unfold pass1S; split
  · exact len_nodeS hp ho _ _
  · simp
end Go.Mach
end
section
set_option linter.unusedVariables false
set_option linter.unusedSimpArgs false
namespace Go.Mach
open Go Go.RowKit Go.Proofs
set_option maxRecDepth 100000
set_option maxHeartbeats 4000000
theorem spec_l17Pass.ans {xa xb : Option (List D → Option D)} (o : Std) (ho : o = std) (p_l : List Nd) (p_bind : List Bd) (p_outer : List (List Bd)) (p_depth : Int) (old : List Fc) (h0 : PrOk (⟨p_l, p_bind, p_outer, p_depth⟩ : Pr)) (h1 : Old (⟨p_l, p_bind, p_outer, p_depth⟩ : Pr) old) : Ans (env xa xb) 87 [.agg [.sl .ro 7 (o.bx fun _ => eNd p_l), .sl .ro 2 (o.bx fun _ => eBd p_bind), .sl .ro 1 (o.bx fun _ => eLBd p_outer), .int .i64 p_depth], .sl .ro 6 (o.bx fun _ => eFc old)] (.sl .ro 6 (o.bx fun _ => eFc (passS (⟨p_l, p_bind, p_outer, p_depth⟩ : Pr) old))) := by
  refine Ans.mkA ho _ rfl rfl ?_
  have hP := h0; have hO := h1; have hu := h1.up; have hp := h1.pos; have hL := h1.len; have hL2 : old.length ≤ 2900000000000 := (by omega); have hpo := h0.outer; have hpb := h0.bind; dsimp only at hpo hpb
  repeat' (first
    | (refine Den.id ?_
       (try (conv => arg 2; cbv))
       first
         | (refine Den.indF (fun m_ s_ => ∃ (a5 : List Fc) (a6 : Int) (ta5 : Tok) (tk : List Nat), s_ = ⟨[.junk, .sl .ro 6 (o.bx fun _ => eFc old), .pbx (.loc 0) 0, .junk, .junk, .sl ta5 6 (o.bx fun _ => eFc a5), .int .i64 a6] ++ List.replicate 28 .junk, [[[.sl .ro 7 (o.bx fun _ => eNd p_l), .sl .ro 2 (o.bx fun _ => eBd p_bind), .sl .ro 1 (o.bx fun _ => eLBd p_outer), .int .i64 p_depth]]], [], tk⟩ ∧ (0 ≤ a6 ∧ a6 ≤ old.length ∧ a5 = insAll old ((old.take a6.toNat).flatMap (pass1S (⟨p_l, p_bind, p_outer, p_depth⟩ : Pr) old))) ∧ (old.length - a6).toNat ≤ m_) _ _ ⟨_, _, _, _, by subst ho; rfl, ?_, Nat.le_refl _⟩ ?_
            rotate_right
            rintro m_ _ ⟨a5, a6, ta5, tk, rfl, hIa, hka⟩ iha
            obtain ⟨i2, i3, i4⟩ := hIa; have hw := len_insAll old ((old.take a6.toNat).flatMap (pass1S (⟨p_l, p_bind, p_outer, p_depth⟩ : Pr) old)); rw [← i4] at hw; have hw2 := len_flatMap_le _ 960000000 (fun f => len_pass1S hP hO f) (old.take a6.toNat); have hw3 := List.length_take_le a6.toNat old; have hU := hu.adds i4.symm; refine Den.unloopA ho ?_
            repeat' (first
              | (refine Den.id ?_
                 (try (conv => arg 2; cbv))
                 first
                   | (refine Den.test (fun hr => ?_) (fun hr => ?_) <;> (have hb := hr) <;> (try simp (disch := omega) only [ho, std, wI, len_eK, len_eB, len_eNd, len_eLNd, len_eFc, len_eAb, len_eBd, len_eEd, len_eLBd, Classical.not_not, decide_eq_true_eq, decide_eq_false_iff_not, beq_iff_eq, beq_eq_false_iff_ne, ne_eq, Bool.not_eq_true', Bool.not_eq_false', gt_iff_lt, ge_iff_le, Int.not_lt, Int.not_le] at hb) <;> (try (exfalso; first | contradiction | omega | exact hb rfl)))
                   | (refine Den.pcallE (β := List Fc) (fun v => .sl .ro 6 (o.bx fun _ => eFc v)) (as' := [.agg [.sl .ro 7 (o.bx fun _ => eNd _), .sl .ro 2 (o.bx fun _ => eBd _), .sl .ro 1 (o.bx fun _ => eLBd _), .int .i64 _], .sl .ro 6 (o.bx fun _ => eFc _), .sl .ro 6 (o.bx fun _ => eFc _), .int .i64 _, .int .i64 _]) (by first | with_reducible rfl | (subst ho; rfl)) (spec_l17Node.ans o ho _ _ _ _ _ _ _ _ ?_ ?_ ?_ ?_ ?_) ?_; rotate_left 5; rintro v hv)
                   | (refine Den.fetchYFc ho ?_ ?_ (by with_reducible assumption) ?_)
                   | (refine Den.fetchXFc ho ?_ ?_ (fun y hy => ?_); rotate_left 2; rcases y with ⟨yk, yn, yc, yvk, yvn, yvc⟩; (have hn := hO.node _ (rF_mem i2 (by omega) : rF old a6 ∈ old)); rw [hy] at hn; dsimp only at hn)
                   | (refine Den.needD ho (by kernel_rfl) ?_)
                   | (refine iha _ _ ?_ ⟨_, _, _, _, by subst ho; rfl, ?_, Nat.le_refl _⟩)
                   | (refine Den.done ⟨by first | exact Or.inl rfl | exact Or.inr rfl, ?_⟩; (conv => lhs; cbv); refine congrArg some ?_))
              | ((fail_if_success (refine Den.id ?_))
                 first
                   | (subst ho; exact ⟨Int.le_refl _, by omega, rfl⟩)
                   | (subst ho; refine congrArg (D.sl Tok.ro 6) (congrArg eFc ?_); rw [i4, take_allG (by omega)]; rfl)
                   | (simp (disch := omega) only [ho, std, wI]; refine ⟨by omega, by omega, ?_⟩; rw [flatMap_succ _ zF i2 (by omega), insAll_append, ← i4, show rdG zF old a6 = _ from hy, pass1S]; first | (rw [if_pos (by assumption)]; exact hv.symm) | (rw [if_neg (by assumption)]; rfl))
                   | assumption
                   | omega
                   | (subst ho; simp (disch := omega) only [std, wI, tdiv2, tdivN, len_eFc, len_eNd, len_eBd, len_eAb, len_eLBd, len_eK, len_eB] <;> first | done | rfl | omega)))))
    | ((fail_if_success (refine Den.id ?_))
       first
         | fail))
end Go.Mach
end
section
set_option linter.unusedVariables false
set_option linter.unusedSimpArgs false
namespace Go.Mach
open Go Go.RowKit Go.Proofs
set_option maxRecDepth 100000
set_option maxHeartbeats 1000000
theorem spec_FactsOk.ans {xa xb : Option (List D → Option D)} (o : Std) (ho : o = std) (l : List Fc) (h0 : l.length ≤ 2900000000000) : Ans (env xa xb) 81 [.sl .ro 6 (o.bx fun _ => eFc l)] (.bool (okF l)) := by
  refine Ans.mkA ho _ rfl rfl ?_
  repeat' (first
    | (refine Den.id ?_
       (try (conv => arg 2; cbv))
       first
         | (refine Den.indF (fun m_ s_ => ∃ (a3 : Int) (tk : List Nat), s_ = ⟨[.sl .ro 6 (o.bx fun _ => eFc l), .junk, .junk, .int .i64 a3] ++ List.replicate 20 .junk, [], [], tk⟩ ∧ (1 ≤ a3 ∧ (a3 ≤ l.length ∨ a3 = 1) ∧ (∀ j : Nat, 1 ≤ j → (j : Int) < a3 → ltF (l.getD (j - 1) zF) (l.getD j zF))) ∧ (l.length - a3).toNat ≤ m_) _ _ ⟨_, _, by subst ho; rfl, ?_, Nat.le_refl _⟩ ?_
            rotate_right
            rintro m_ _ ⟨a3, tk, rfl, hIa, hka⟩ iha
            obtain ⟨i1, i2, i3⟩ := hIa; refine Den.unloopA ho ?_
            repeat' (first
              | (refine Den.id ?_
                 (try (conv => arg 2; cbv))
                 first
                   | (refine Den.test (fun hr => ?_) (fun hr => ?_) <;> (have hb := hr) <;> (try simp (disch := omega) only [ho, std, wI, len_eK, len_eB, len_eNd, len_eLNd, len_eFc, len_eAb, len_eBd, len_eEd, len_eLBd, Classical.not_not, decide_eq_true_eq, decide_eq_false_iff_not, beq_iff_eq, beq_eq_false_iff_ne, ne_eq, Bool.not_eq_true', Bool.not_eq_false', gt_iff_lt, ge_iff_le, Int.not_lt, Int.not_le] at hb) <;> (try (exfalso; first | contradiction | omega | exact hb rfl)))
                   | (refine Den.pcallE (β := Bool) (fun v => .bool v) (as' := [.agg [.int .i64 _, .int .i64 _, .int .i64 _, .int .i64 _, .int .i64 _, .int .i64 _], .agg [.int .i64 _, .int .i64 _, .int .i64 _, .int .i64 _, .int .i64 _, .int .i64 _]]) (by first | with_reducible rfl | (subst ho; rfl)) (spec_FactLess.ans o ho _ _ _ _ _ _ _ _ _ _ _ _) ?_; rotate_left 0; rintro (_ | _) hv <;> (try simp only [decide_eq_true_eq, decide_eq_false_iff_not] at hv) <;> (try first | contradiction | exact absurd (hv.symm.trans (show _ = false by assumption)) (by decide) | exact absurd (hv.symm.trans (show _ = true by assumption)) (by decide)))
                   | (refine Den.fetchXFc ho ?_ ?_ (fun y hy => ?_); rotate_left 2; rcases y with ⟨yk, yn, yc, yvk, yvn, yvc⟩)
                   | (refine Den.needD ho (by kernel_rfl) ?_)
                   | (refine iha _ _ ?_ ⟨_, _, by subst ho; rfl, ?_, Nat.le_refl _⟩)
                   | (refine Den.done ⟨by first | exact Or.inl rfl | exact Or.inr rfl, ?_⟩; (conv => lhs; cbv); refine congrArg some ?_))
              | ((fail_if_success (refine Den.id ?_))
                 first
                   | (subst ho; refine ⟨Int.le_refl 1, .inr rfl, fun j hj hk => absurd hk (by omega)⟩)
                   | (subst ho; refine dB ?_; exact okF_end (by omega) i1 i3 (by simp [std, len_eFc]; omega))
                   | (refine dB ?_; exact okF_no2 i1 (by omega) (by assumption) (by simp (disch := omega) only [ho, std, wI]) hy hv)
                   | (simp (disch := omega) only [ho, std, wI]; refine ⟨by omega, .inl (by omega), okF_step2 i1 (by omega) i3 (by assumption) (by simp (disch := omega) only [ho, std, wI]) hy hv⟩)
                   | assumption
                   | omega
                   | (subst ho; simp (disch := omega) only [std, wI, tdiv2, tdivN, len_eFc, len_eNd, len_eBd, len_eAb, len_eLBd, len_eK, len_eB] <;> first | done | rfl | omega)))))
    | ((fail_if_success (refine Den.id ?_))
       first
         | fail))
theorem impl_FactsOk.ans {xa xb : Option (List D → Option D)} (o : Std) (ho : o = std) (l : List Fc) (h0 : l.length ≤ 2900000000000) : Ans (env xa xb) 113 [.sl .ro 6 (o.bx fun _ => eFc l)] (.bool (okF l)) := by
  refine Ans.mkA ho _ rfl rfl ?_
  repeat' (first
    | (refine Den.id ?_
       (try (conv => arg 2; cbv))
       first
         | (refine Den.indF (fun m_ s_ => ∃ (a3 : Int) (tk : List Nat), s_ = ⟨[.sl .ro 6 (o.bx fun _ => eFc l), .junk, .junk, .int .i64 a3] ++ List.replicate 20 .junk, [], [], tk⟩ ∧ (1 ≤ a3 ∧ (a3 ≤ l.length ∨ a3 = 1) ∧ (∀ j : Nat, 1 ≤ j → (j : Int) < a3 → ltF (l.getD (j - 1) zF) (l.getD j zF))) ∧ (l.length - a3).toNat ≤ m_) _ _ ⟨_, _, by subst ho; rfl, ?_, Nat.le_refl _⟩ ?_
            rotate_right
            rintro m_ _ ⟨a3, tk, rfl, hIa, hka⟩ iha
            obtain ⟨i1, i2, i3⟩ := hIa; refine Den.unloopA ho ?_
            repeat' (first
              | (refine Den.id ?_
                 (try (conv => arg 2; cbv))
                 first
                   | (refine Den.test (fun hr => ?_) (fun hr => ?_) <;> (have hb := hr) <;> (try simp (disch := omega) only [ho, std, wI, len_eK, len_eB, len_eNd, len_eLNd, len_eFc, len_eAb, len_eBd, len_eEd, len_eLBd, Classical.not_not, decide_eq_true_eq, decide_eq_false_iff_not, beq_iff_eq, beq_eq_false_iff_ne, ne_eq, Bool.not_eq_true', Bool.not_eq_false', gt_iff_lt, ge_iff_le, Int.not_lt, Int.not_le] at hb) <;> (try (exfalso; first | contradiction | omega | exact hb rfl)))
                   | (refine Den.pcallE (β := Bool) (fun v => .bool v) (as' := [.agg [.int .i64 _, .int .i64 _, .int .i64 _, .int .i64 _, .int .i64 _, .int .i64 _], .agg [.int .i64 _, .int .i64 _, .int .i64 _, .int .i64 _, .int .i64 _, .int .i64 _]]) (by first | with_reducible rfl | (subst ho; rfl)) (impl_FactLess.ans o ho _ _ _ _ _ _ _ _ _ _ _ _) ?_; rotate_left 0; rintro (_ | _) hv <;> (try simp only [decide_eq_true_eq, decide_eq_false_iff_not] at hv) <;> (try first | contradiction | exact absurd (hv.symm.trans (show _ = false by assumption)) (by decide) | exact absurd (hv.symm.trans (show _ = true by assumption)) (by decide)))
                   | (refine Den.fetchXFc ho ?_ ?_ (fun y hy => ?_); rotate_left 2; rcases y with ⟨yk, yn, yc, yvk, yvn, yvc⟩)
                   | (refine Den.needD ho (by kernel_rfl) ?_)
                   | (refine iha _ _ ?_ ⟨_, _, by subst ho; rfl, ?_, Nat.le_refl _⟩)
                   | (refine Den.done ⟨by first | exact Or.inl rfl | exact Or.inr rfl, ?_⟩; (conv => lhs; cbv); refine congrArg some ?_))
              | ((fail_if_success (refine Den.id ?_))
                 first
                   | (subst ho; refine ⟨Int.le_refl 1, .inr rfl, fun j hj hk => absurd hk (by omega)⟩)
                   | (subst ho; refine dB ?_; exact okF_end (by omega) i1 i3 (by simp [std, len_eFc]; omega))
                   | (refine dB ?_; exact okF_no2 i1 (by omega) (by assumption) (by simp (disch := omega) only [ho, std, wI]) hy hv)
                   | (simp (disch := omega) only [ho, std, wI]; refine ⟨by omega, .inl (by omega), okF_step2 i1 (by omega) i3 (by assumption) (by simp (disch := omega) only [ho, std, wI]) hy hv⟩)
                   | assumption
                   | omega
                   | (subst ho; simp (disch := omega) only [std, wI, tdiv2, tdivN, len_eFc, len_eNd, len_eBd, len_eAb, len_eLBd, len_eK, len_eB] <;> first | done | rfl | omega)))))
    | ((fail_if_success (refine Den.id ?_))
       first
         | fail))
end Go.Mach
end
section
set_option linter.unusedVariables false
set_option linter.unusedSimpArgs false
namespace Go.Mach
open Go Go.RowKit Go.Proofs
set_option maxRecDepth 100000
set_option maxHeartbeats 6000000
theorem spec_Seed.ans {xa xb : Option (List D → Option D)} (o : Std) (ho : o = std) (l : List Nd) (h0 : Sz l) (h1 : l.length ≤ 1048576) : Ans (env xa xb) 65 [.sl .ro 7 (o.bx fun _ => eNd l)] (.sl .ro 6 (o.bx fun _ => eFc (seedR l))) := by
  refine Ans.mkA ho _ rfl rfl ?_
  repeat' (first
    | (refine Den.id ?_
       (try (conv => arg 2; cbv))
       first
         | refine Den.testN1 ho (by first | with_reducible assumption | with_reducible rfl) ?_
         | refine Den.testN0 ho (by first | with_reducible assumption | with_reducible rfl) ?_
         | (refine Den.pcallE (β := Bool) (fun v => .bool v) (as' := [.sl .ro 7 (o.bx fun _ => eNd _)]) (by first | with_reducible rfl | (subst ho; rfl)) (spec_NodesOk.ans o ho _ ?_ ?_) ?_; rotate_left 2; rintro (_ | _) hv <;> (try simp only [decide_eq_true_eq, decide_eq_false_iff_not] at hv) <;> (try first | contradiction | exact absurd (hv.symm.trans (show _ = false by assumption)) (by decide) | exact absurd (hv.symm.trans (show _ = true by assumption)) (by decide)))
         | (refine Den.done ⟨by first | exact Or.inl rfl | exact Or.inr rfl, ?_⟩; (conv => lhs; cbv) <;> refine congrArg some ?_))
    | ((fail_if_success (refine Den.id ?_))
       first
         | (rw [seedR_no (by assumption)]; subst ho; rfl)
         | (rw [seedR_yes (by assumption)]; subst ho; simp (disch := omega) only [std, wI, len_eNd]; rfl)
         | assumption))
theorem spec_l17Of.ans {xa xb : Option (List D → Option D)} (o : Std) (ho : o = std) (l : List Nd) (fs : List Fc) (h0 : okM l = true) (h1 : fs = seedM l) : Ans (env xa xb) 85 [.sl .ro 7 (o.bx fun _ => eNd l), .sl .ro 6 (o.bx fun _ => eFc fs)] (.bool (true)) := by
  refine Ans.mkA ho _ rfl rfl ?_
  have hs := (okM_iff.1 h0).size; have hfl : fs.length = 1 := (by rw [h1]; rfl)
  repeat' (first
    | (refine Den.id ?_
       (try (conv => arg 2; cbv))
       first
         | (refine Den.indF (fun m_ s_ => ∃ (a5 : Int) (tk : List Nat), s_ = ⟨[.sl .ro 7 (o.bx fun _ => eNd l), .sl .ro 6 (o.bx fun _ => eFc fs), .junk, .junk, .junk, .int .i64 a5] ++ List.replicate 70 .junk, [], [], tk⟩ ∧ (0 ≤ a5 ∧ a5 ≤ 1) ∧ (1 - a5).toNat ≤ m_) _ _ ⟨_, _, by subst ho; rfl, ?_, Nat.le_refl _⟩ ?_
            rotate_right
            rintro m_ _ ⟨a5, tk, rfl, hIa, hka⟩ iha
            obtain ⟨i1, i2⟩ := hIa; refine Den.unloopA ho ?_
            repeat' (first
              | (refine Den.id ?_
                 (try (conv => arg 2; cbv))
                 first
                   | refine Den.testF ?_
                   | refine Den.test1 (by with_reducible assumption) ?_
                   | refine Den.test0 (by with_reducible assumption) ?_
                   | refine Den.testN1 ho (by first | with_reducible assumption | with_reducible rfl) ?_
                   | refine Den.testN0 ho (by first | with_reducible assumption | with_reducible rfl) ?_
                   | (refine Den.test (fun hr => ?_) (fun hr => ?_) <;> (have hb := hr) <;> (try simp (disch := omega) only [ho, std, wI, len_eK, len_eB, len_eNd, len_eLNd, len_eFc, len_eAb, len_eBd, len_eEd, len_eLBd, Classical.not_not, decide_eq_true_eq, decide_eq_false_iff_not, beq_iff_eq, beq_eq_false_iff_ne, ne_eq, Bool.not_eq_true', Bool.not_eq_false', Bool.not_eq_true, Bool.not_eq_false, gt_iff_lt, ge_iff_le, Int.not_lt, Int.not_le] at hb) <;> (try (exfalso; first | contradiction | omega | exact hb rfl)))
                   | (refine Den.pcallE (β := Bool) (fun v => .bool v) (as' := [.int .i64 _, .int .i64 _, .int .i64 _]) (by first | with_reducible rfl | (subst ho; rfl)) (spec_l1In.ans o ho _ _ _) ?_; rotate_left 0; rintro (_ | _) hv <;> (try simp only [decide_eq_true_eq, decide_eq_false_iff_not] at hv) <;> (try first | contradiction | exact absurd (hv.symm.trans (show _ = false by assumption)) (by decide) | exact absurd (hv.symm.trans (show _ = true by assumption)) (by decide)) <;> (try (exfalso; simp (disch := omega) only [ho, std, wI, len_eNd] at hv; omega)))
                   | (refine Den.pcallE (β := Bool) (fun v => .bool v) (as' := [.sl .ro 6 (o.bx fun _ => eFc _)]) (by first | with_reducible rfl | (subst ho; rfl)) (spec_FactsOk.ans o ho _ ?_) ?_; rotate_left 1; rintro (_ | _) hv <;> (try simp only [decide_eq_true_eq, decide_eq_false_iff_not] at hv) <;> (try first | contradiction | exact absurd (hv.symm.trans (show _ = false by assumption)) (by decide) | exact absurd (hv.symm.trans (show _ = true by assumption)) (by decide)) <;> (try exact absurd (hv.symm.trans (by rw [h1, seed_ok])) Bool.false_ne_true))
                   | (refine Den.fetchXFc ho ?_ ?_ (fun y hy => ?_); rotate_left 2; rcases y with ⟨yk, yn, yc, yvk, yvn, yvc⟩; have hsd := seed_at h1 i1 (by omega) hy)
                   | (refine iha _ _ ?_ ⟨_, _, by subst ho; rfl, ?_, Nat.le_refl _⟩)
                   | (refine Den.done ⟨by first | exact Or.inl rfl | exact Or.inr rfl, ?_⟩; (conv => lhs; cbv) <;> refine congrArg some ?_))
              | ((fail_if_success (refine Den.id ?_))
                 first
                   | (simp (disch := omega) only [ho, std, wI]; exact ⟨by omega, by omega⟩)
                   | assumption
                   | omega
                   | (subst ho; simp (disch := omega) only [std, wI, tdiv2, tdivN, len_eFc, len_eNd, len_eBd, len_eAb, len_eLBd, len_eK, len_eB] <;> first | done | rfl | omega)))))
    | ((fail_if_success (refine Den.id ?_))
       first
         | fail))
end Go.Mach
end
section
set_option linter.unusedVariables false
set_option linter.unusedSimpArgs false
namespace Go.Mach
open Go Go.RowKit Go.Proofs
set_option maxRecDepth 100000
set_option maxHeartbeats 6000000
theorem spec_l18Solve.ans {xa xb : Option (List D → Option D)} (o : Std) (ho : o = std) (l : List Nd) (dp : Int) (fs : List Fc) (h0 : Sz l) (h1 : l.length ≤ 1048576) (h2 : fs = seedR l) : AnsP (env xa xb) 64 [.sl .ro 7 (o.bx fun _ => eNd l), .int .i64 dp, .sl .ro 6 (o.bx fun _ => eFc fs)] (fun d_ => ∃ (rq : List Fc × Bool) (nq : Int), d_ = .tup [.sl .ro 6 (o.bx fun _ => eFc ((rq.1, nq, rq.2)).1), .int .i64 ((rq.1, nq, rq.2)).2.1, .bool ((rq.1, nq, rq.2)).2.2] ∧ (rq = solveR l dp)) := by
  refine AnsP.mkA ho _ rfl rfl ?_
  repeat' (first
    | (refine Den.id ?_
       (try (conv => arg 2; cbv))
       first
         | refine Den.testT ?_
         | refine Den.test1 (by with_reducible assumption) ?_
         | refine Den.test0 (by with_reducible assumption) ?_
         | refine Den.testN1 ho (by first | with_reducible assumption | with_reducible rfl) ?_
         | refine Den.testN0 ho (by first | with_reducible assumption | with_reducible rfl) ?_
         | (refine Den.test (fun hr => ?_) (fun hr => ?_) <;> (have hb := hr) <;> (try simp (disch := omega) only [ho, std, wI, len_eK, len_eB, len_eNd, len_eLNd, len_eFc, len_eAb, len_eBd, len_eEd, len_eLBd, Classical.not_not, decide_eq_true_eq, decide_eq_false_iff_not, beq_iff_eq, beq_eq_false_iff_ne, ne_eq, Bool.not_eq_true', Bool.not_eq_false', Bool.not_eq_true, Bool.not_eq_false, gt_iff_lt, ge_iff_le, Int.not_lt, Int.not_le] at hb) <;> (try (exfalso; first | contradiction | omega | exact hb rfl)))
         | (refine Den.pcallE (β := Bool) (fun v => .bool v) (as' := [.sl .ro 7 (o.bx fun _ => eNd _), .int .i64 _]) (by first | with_reducible rfl | (subst ho; rfl)) (spec_FlowOk.ans o ho _ _ ?_ ?_) ?_; rotate_left 2; rintro (_ | _) hv <;> (try simp only [decide_eq_true_eq, decide_eq_false_iff_not] at hv) <;> (try first | contradiction | exact absurd (hv.symm.trans (show _ = false by assumption)) (by decide) | exact absurd (hv.symm.trans (show _ = true by assumption)) (by decide)) <;> (try have hst := solve_start hv; try have hC := flowB_clo hv; try have hk := okM_iff.2 hC.ok; try rw [seedR_yes hk] at h2))
         | (refine Den.pcallE (β := Bool) (fun v => .bool v) (as' := [.sl .ro 7 (o.bx fun _ => eNd _), .sl .ro 6 (o.bx fun _ => eFc _)]) (by first | with_reducible rfl | (subst ho; rfl)) (spec_l17Of.ans o ho _ _ ?_ ?_) ?_; rotate_left 2; rintro (_ | _) hv <;> (try simp only [decide_eq_true_eq, decide_eq_false_iff_not] at hv) <;> (try first | contradiction | exact absurd (hv.symm.trans (show _ = false by assumption)) (by decide) | exact absurd (hv.symm.trans (show _ = true by assumption)) (by decide)))
         | (refine Den.pcallE (β := Pr) (fun v => .agg ([.sl .ro 7 (o.bx fun _ => eNd v.l), .sl .ro 2 (o.bx fun _ => eBd v.bind), .sl .ro 1 (o.bx fun _ => eLBd v.outer), .int .i64 v.depth])) (as' := [.sl .ro 7 (o.bx fun _ => eNd _), .int .i64 _]) (by first | with_reducible rfl | (subst ho; rfl)) (spec_l17New.ans o ho _ _ ?_ ?_ ?_) ?_; rotate_left 3; rintro v hv; (obtain ⟨pr, ep⟩ : ∃ q, q = v := ⟨_, rfl⟩; subst ep; have hpr := hv))
         | (refine Den.indF (fun m_ s_ => ∃ (a2 : List Fc) (a10 : Int) (ta2 : Tok) (tk : List Nat), s_ = ⟨[.junk, .junk, .sl ta2 6 (o.bx fun _ => eFc a2), .junk, .junk, .junk, .junk, .junk, .junk, .pbx (.loc 0) 0, .int .i64 a10] ++ List.replicate 38 .junk, [[[.sl .ro 7 (o.bx fun _ => eNd pr.l), .sl .ro 2 (o.bx fun _ => eBd pr.bind), .sl .ro 1 (o.bx fun _ => eLBd pr.outer), .int .i64 pr.depth]]], [], tk⟩ ∧ (0 ≤ a10 ∧ a10 ≤ 400 ∧ Fit l a2 ∧ a2.length ≤ 2500 ∧ solveN l dp (400 - a10).toNat a2 = solveO l dp) ∧ (400 - a10).toNat ≤ m_) _ _ ⟨_, _, _, _, by subst ho; rfl, ?_, Nat.le_refl _⟩ ?_
            rotate_right
            rintro m_ _ ⟨a2, a10, ta2, tk, rfl, hIa, hka⟩ iha
            obtain ⟨i1, i2, i3, i4, i5⟩ := hIa; refine Den.unloopA ho ?_
            repeat' (first
              | (refine Den.id ?_
                 (try (conv => arg 2; cbv))
                 first
                   | (refine Den.test (fun hr => ?_) (fun hr => ?_) <;> (have hb := hr) <;> (try simp (disch := omega) only [ho, std, wI, len_eK, len_eB, len_eNd, len_eLNd, len_eFc, len_eAb, len_eBd, len_eEd, len_eLBd, Classical.not_not, decide_eq_true_eq, decide_eq_false_iff_not, beq_iff_eq, beq_eq_false_iff_ne, ne_eq, Bool.not_eq_true', Bool.not_eq_false', Bool.not_eq_true, Bool.not_eq_false, gt_iff_lt, ge_iff_le, Int.not_lt, Int.not_le] at hb) <;> (try (exfalso; first | contradiction | omega | exact hb rfl)))
                   | (refine Den.pcallE (β := List Fc) (fun v => .sl .ro 6 (o.bx fun _ => eFc v)) (as' := [.agg [.sl .ro 7 (o.bx fun _ => eNd _), .sl .ro 2 (o.bx fun _ => eBd _), .sl .ro 1 (o.bx fun _ => eLBd _), .int .i64 _], .sl .ro 6 (o.bx fun _ => eFc _)]) (by first | with_reducible rfl | (subst ho; rfl)) (spec_l17Pass.ans o ho _ _ _ _ _ ?_ ?_) ?_; rotate_left 2; rintro v hv; (have hpv : passM l dp a2 = v := (by rw [← hv, ← hpr]; rfl); have hFv : Fit l v := (by rw [← hpv]; exact passM_fit hC i3 dp)))
                   | (refine Den.need ?_ ?_)
                   | (refine Den.app1 ?_ (fun t' tk' hl' => ?_))
                   | (refine iha _ _ ?_ ⟨_, _, _, _, by subst ho; rfl, ?_, Nat.le_refl _⟩)
                   | (refine Den.done ⟨by first | exact Or.inl rfl | exact Or.inr rfl, ?_⟩; refine ⟨_, by (conv => lhs; cbv) <;> rfl, ?_⟩))
              | ((fail_if_success (refine Den.id ?_))
                 first
                   | (exact Lv.cap _)
                   | (exact ⟨Int.le_refl _, by omega, by rw [h2]; exact hst.1, by rw [h2]; exact hst.2.1, by rw [h2]; exact hst.2.2⟩)
                   | (show PrOk pr; rw [← hpr]; exact prM_ok hC.ok dp)
                   | (show Old pr a2; rw [← hpr]; exact i3.old i4 dp)
                   | (exact ⟨([], false), _, by subst ho; rfl, (solveR_no (solve_many (by omega) i5 hpv (by omega))).symm⟩)
                   | (exact ⟨(v, true), _, by subst ho; rfl, (solveR_yes (solve_same (by omega) i5 hpv (by omega) (by omega))).symm⟩)
                   | (exact ⟨([], false), _, by subst ho; rfl, (solveR_no (solve_end (by omega) i5)).symm⟩)
                   | (simp (disch := omega) only [ho, std, wI]; exact ⟨by omega, by omega, hFv, by omega, solve_next (by omega) i5 hpv (by omega) (by omega)⟩)
                   | (subst ho; simp [std, len_eFc, len_eNd, len_eBd, len_eAb, len_eLBd, len_eK, len_eB]; omega)
                   | (subst ho; simp (disch := omega) only [std, wI, tdiv2, tdivN, len_eFc, len_eNd, len_eBd, len_eAb, len_eLBd, len_eK, len_eB] <;> first | done | rfl | omega))))
         | (refine Den.done ⟨by first | exact Or.inl rfl | exact Or.inr rfl, ?_⟩; refine ⟨_, by (conv => lhs; cbv) <;> rfl, ?_⟩))
    | ((fail_if_success (refine Den.id ?_))
       first
         | (exact ⟨([], false), _, by subst ho; rfl, (solveR_no (solveO_flow (by assumption))).symm⟩)
         | assumption))
end Go.Mach
end
