/- What the statements share: part 21 of a proof by an executable machine over the program's code. -/
import Derived.Test.YtbkpkchegopmiaaGreatDoorMc20
import Derived.Shelf.SlGeneric
import Derived.Shelf.SlSortCmp.NoneTotal
import Derived.Ground.SlsfProg
import Derived.Test.YtbkpkchegopmiaaGreatDoorProg
set_option linter.unusedVariables false
set_option linter.unusedSimpArgs false
set_option maxRecDepth 100000
set_option maxHeartbeats 6000000
namespace Go.Mach
open Go Go.RowKit
theorem len_twoS {p : Pr} {old : List Fc} (hp : PrOk p) (ho : Old p old) (i c : Int) : (twoS p old i c).length ≤ 957000000 := by
 unfold twoS
 have h1 := len_callS hp ho i c
 have h2 := len_flow ho 0 (rN p.l i).f1 c 3 i c
 have h3 := len_flow ho 0 (rN p.l i).f2 c 4 i c
 have h4 := len_flatMap_le _ 2500 (fun v => len_set1 ho (rN p.l i).f2 c v) (vals old 0 (rN p.l i).f1 c)
 have h5 := len_valsO ho 0 (rN p.l i).f1 c
 have h6 : (vals old 0 (rN p.l i).f1 c).length * 2500 ≤ 2500 * 2500 := Nat.mul_le_mul_right _ h5
 have h7 : (seeL (rN p.l i).f2 c).length = 1 := rfl
 dsimp only; rw [List.length_append]
 (repeat' split) <;> (try simp only [List.length_append, List.length_nil, List.length_cons]) <;> omega
theorem len_oneS {p : Pr} {old : List Fc} (ho : Old p old) (i c : Int) : (oneS p old i c).length ≤ 20000000 := by
 unfold oneS
 have hf := fun a b d e => len_flow ho a b c d e c
 have h1 := hf 0 (rN p.l i).f1 1 i
 have h2 := hf 0 (rN p.l i).f2 0 i
 have h3 := hf 0 (rN p.l i).f3 0 i
 have h4 := hf 0 (rN p.l i).f1 5 i
 have h5 := hf 0 (rN p.l i).f1 0 i
 have hq := fun a b d e => len_parts ho (rN p.l i).f1 c a b d e
 have q1 := hq 4 3 1 i
 have q2 := hq 4 4 2 i
 have q3 := hq 3 3 0 i
 have q4 := hq 3 4 0 i
 have q5 := hq 5 5 0 i
 have h7 : ∀ a b, (seeL a b).length = 1 := fun _ _ => rfl
 have h8 := fun b => len_rise b i c
 have h9 := h8 (kindB old (rN p.l i).f1 c 0)
 dsimp only
 (repeat' split) <;> (try simp only [List.length_append, List.length_nil, List.length_cons, h7]) <;> omega
theorem len_nodeS {p : Pr} {old : List Fc} (hp : PrOk p) (ho : Old p old) (i c : Int) : (nodeS p old i c).length ≤ 960000000 := by
 unfold nodeS
 have h1 := len_twoS hp ho i c
 have h2 := len_oneS ho i c
 have h3 := len_flow ho (1 + (rB p.bind i).f1) (rB p.bind i).f0 c 0 i c
 have h4 := len_flow ho 0 (rN p.l i).f2 c 0 i c
 have h5 := len_rise (anyB old 7 (rN p.l i).f2 c) i c
 have h7 : ∀ a b, (seeL a b).length = 1 := fun _ _ => rfl
 have h8 := len_flatMap_le _ 1 (fun v => len_kidR1 old (rN p.l i).f0 i c v) (kidsM (rN p.l i)).zipIdx
 have h9 := len_kidsM (rN p.l i)
 have h10 := arityM_le (rN p.l i).f0
 have h11 : (kidRiseS old (rN p.l i) i c).length ≤ 3 := by
  unfold kidRiseS
  rw [List.length_zipIdx] at h8
  omega
 dsimp only
 (repeat' split) <;> (try simp only [List.length_append, List.length_nil, List.length_cons, h7]) <;> omega
theorem len_pass1S {p : Pr} {old : List Fc} (hp : PrOk p) (ho : Old p old) (f : Fc) : (pass1S p old f).length ≤ 960000000 := by
 unfold pass1S; split
 · exact len_nodeS hp ho _ _
 · simp
end Go.Mach
namespace Go.Mach
open Go Go.RowKit Go.Proofs
theorem spec_l17Pass.ans {xa xb : Option (List D → Option D)} (o : Std) (ho : o = std) (p_l : List Nd) (p_bind : List Bd) (p_outer : List (List Bd)) (p_depth : Int) (old : List Fc) (h0 : PrOk (⟨p_l, p_bind, p_outer, p_depth⟩ : Pr)) (h1 : Old (⟨p_l, p_bind, p_outer, p_depth⟩ : Pr) old) : Ans (env xa xb) 87 [.agg [rNd o p_l, rBd o p_bind, .sl .ro 1 (o.bx fun _ => eLBd p_outer), iX p_depth], rFc o old] (rFc o (passS (⟨p_l, p_bind, p_outer, p_depth⟩ : Pr) old)) := by
 refine Ans.mkA ho _ rfl rfl ?_
 have hP := h0; have hO := h1; have hu := h1.up; have hp := h1.pos; have hL := h1.len; have hL2 : old.length ≤ 2900000000000 := (by omega); have hpo := h0.outer; have hpb := h0.bind; dsimp only at hpo hpb
 repeat' (first
  | (refine .id ?_
     (try (conv => arg 2; cbv))
     first
      | (refine .indF (fun m_ s_ => ∃ (a5 : List Fc) (a6 : Int) (ta5 : Tok) (tk : List Nat), s_ = ⟨[Jk, rFc o old, .pbx (.loc 0) 0, Jk, Jk, .sl ta5 6 (o.bx fun _ => eFc a5), iX a6] ++ List.replicate 28 Jk, [[[rNd o p_l, rBd o p_bind, .sl .ro 1 (o.bx fun _ => eLBd p_outer), iX p_depth]]], [], tk⟩ ∧ (0 ≤ a6 ∧ a6 ≤ old.length ∧ a5 = insAll old ((old.take a6.toNat).flatMap (pass1S (⟨p_l, p_bind, p_outer, p_depth⟩ : Pr) old))) ∧ (old.length - a6).toNat ≤ m_) _ _ ⟨_, _, _, _, by subst ho; rfl, ?_, Nat.le_refl _⟩ ?_
         rotate_right
         rintro m_ _ ⟨a5, a6, ta5, tk, rfl, hIa, hka⟩ iha
         obtain ⟨i2, i3, i4⟩ := hIa; have hw := len_insAll old ((old.take a6.toNat).flatMap (pass1S (⟨p_l, p_bind, p_outer, p_depth⟩ : Pr) old)); rw [← i4] at hw; have hw2 := len_flatMap_le _ 960000000 (fun f => len_pass1S hP hO f) (old.take a6.toNat); have hw3 := List.length_take_le a6.toNat old; have hU := hu.adds i4.symm; refine .unloopA ho ?_
         repeat' (first
          | (refine .id ?_
             (try (conv => arg 2; cbv))
             first
              | (refine .test (fun hr => ?_) (fun hr => ?_) <;> (have hb := hr) <;> (try simp (disch := omega) only [ho, std, wI, lenE, nrm] at hb) <;> (try (exfalso; first | contradiction | omega | exact hb rfl)))
              | (refine .pE (β := List Fc) (rFc o) (as' := [.agg [rNd o _, rBd o _, .sl .ro 1 (o.bx fun _ => eLBd _), iX _], rFc o _, rFc o _, iX _, iX _]) (spec_l17Node.ans o ho _ _ _ _ _ _ _ _ ?_ ?_ ?_ ?_ ?_) ?_; rotate_left 5; rintro v hv)
              | (refine .fetchYFc ho ?_ ?_ (by with_reducible assumption) ?_)
              | (refine .fetchXFc ho ?_ ?_ (fun y hy => ?_); rotate_left 2; rcases y with ⟨yk, yn, yc, yvk, yvn, yvc⟩; (have hn := hO.node _ (rF_mem i2 (by omega) : rF old a6 ∈ old)); rw [hy] at hn; dsimp only at hn)
              | (refine .needD ho (by kernel_rfl) ?_)
              | (refine iha _ _ ?_ ⟨_, _, _, _, by subst ho; rfl, ?_, Nat.le_refl _⟩)
              | (refine .fin ?_; (conv => lhs; cbv); refine congrArg some ?_))
          | ((fail_if_success (refine .id ?_))
             first
              | (subst ho; exact ⟨Int.le_refl _, by omega, rfl⟩)
              | (subst ho; refine congrArg (D.sl Tok.ro 6) (congrArg eFc ?_); rw [i4, take_allG (by omega)]; rfl)
              | (simp (disch := omega) only [ho, std, wI]; refine ⟨by omega, by omega, ?_⟩; rw [flatMap_succ _ zF i2 (by omega), insAll_append, ← i4, show rdG zF old a6 = _ from hy, pass1S]; first | (rw [if_pos (by assumption)]; exact hv.symm) | (rw [if_neg (by assumption)]; rfl))
              | assumption
              | omega
              | (subst ho; simp (disch := omega) only [std, wI, tdiv2, tdivN, lenE] <;> first | done | rfl | omega)))))
  | ((fail_if_success (refine .id ?_))
     first
      | fail))
theorem spec_FactsOk.ans {xa xb : Option (List D → Option D)} (o : Std) (ho : o = std) (l : List Fc) (h0 : l.length ≤ 2900000000000) : Ans (env xa xb) 81 [rFc o l] (.bool (okF l)) := by
 refine Ans.mkA ho _ rfl rfl ?_
 repeat' (first
  | (refine .id ?_
     (try (conv => arg 2; cbv))
     first
      | (refine .indF (fun m_ s_ => ∃ (a3 : Int) (tk : List Nat), s_ = ⟨[rFc o l, Jk, Jk, iX a3] ++ List.replicate 20 Jk, [], [], tk⟩ ∧ (1 ≤ a3 ∧ (a3 ≤ l.length ∨ a3 = 1) ∧ (∀ j : Nat, 1 ≤ j → (j : Int) < a3 → ltF (l.getD (j - 1) zF) (l.getD j zF))) ∧ (l.length - a3).toNat ≤ m_) _ _ ⟨_, _, by subst ho; rfl, ?_, Nat.le_refl _⟩ ?_
         rotate_right
         rintro m_ _ ⟨a3, tk, rfl, hIa, hka⟩ iha
         obtain ⟨i1, i2, i3⟩ := hIa; refine .unloopA ho ?_
         repeat' (first
          | (refine .id ?_
             (try (conv => arg 2; cbv))
             first
              | (refine .test (fun hr => ?_) (fun hr => ?_) <;> (have hb := hr) <;> (try simp (disch := omega) only [ho, std, wI, lenE, nrm] at hb) <;> (try (exfalso; first | contradiction | omega | exact hb rfl)))
              | (refine .pE (β := Bool) .bool (as' := [.agg [iX _, iX _, iX _, iX _, iX _, iX _], .agg [iX _, iX _, iX _, iX _, iX _, iX _]]) (spec_FactLess.ans o ho _ _ _ _ _ _ _ _ _ _ _ _) ?_; rintro (_ | _) hv <;> (try simp only [dE] at hv) <;> (try first | contradiction | exact bX hv))
              | (refine .fetchXFc ho ?_ ?_ (fun y hy => ?_); rotate_left 2; rcases y with ⟨yk, yn, yc, yvk, yvn, yvc⟩)
              | (refine .needD ho (by kernel_rfl) ?_)
              | (refine iha _ _ ?_ ⟨_, _, by subst ho; rfl, ?_, Nat.le_refl _⟩)
              | (refine .fin ?_; (conv => lhs; cbv); refine congrArg some ?_))
          | ((fail_if_success (refine .id ?_))
             first
              | (subst ho; refine ⟨Int.le_refl 1, .inr rfl, fun j hj hk => absurd hk (by omega)⟩)
              | (subst ho; refine dB ?_; exact okF_end (by omega) i1 i3 (by simp [std, len_eFc]; omega))
              | (refine dB ?_; exact okF_no2 i1 (by omega) (by assumption) (by simp (disch := omega) only [ho, std, wI]) hy hv)
              | (simp (disch := omega) only [ho, std, wI]; refine ⟨by omega, .inl (by omega), okF_step2 i1 (by omega) i3 (by assumption) (by simp (disch := omega) only [ho, std, wI]) hy hv⟩)
              | assumption
              | omega
              | (subst ho; simp (disch := omega) only [std, wI, tdiv2, tdivN, lenE] <;> first | done | rfl | omega)))))
  | ((fail_if_success (refine .id ?_))
     first
      | fail))
theorem impl_FactsOk.ans {xa xb : Option (List D → Option D)} (o : Std) (ho : o = std) (l : List Fc) (h0 : l.length ≤ 2900000000000) : Ans (env xa xb) 113 [rFc o l] (.bool (okF l)) := by
 refine Ans.mkA ho _ rfl rfl ?_
 repeat' (first
  | (refine .id ?_
     (try (conv => arg 2; cbv))
     first
      | (refine .indF (fun m_ s_ => ∃ (a3 : Int) (tk : List Nat), s_ = ⟨[rFc o l, Jk, Jk, iX a3] ++ List.replicate 20 Jk, [], [], tk⟩ ∧ (1 ≤ a3 ∧ (a3 ≤ l.length ∨ a3 = 1) ∧ (∀ j : Nat, 1 ≤ j → (j : Int) < a3 → ltF (l.getD (j - 1) zF) (l.getD j zF))) ∧ (l.length - a3).toNat ≤ m_) _ _ ⟨_, _, by subst ho; rfl, ?_, Nat.le_refl _⟩ ?_
         rotate_right
         rintro m_ _ ⟨a3, tk, rfl, hIa, hka⟩ iha
         obtain ⟨i1, i2, i3⟩ := hIa; refine .unloopA ho ?_
         repeat' (first
          | (refine .id ?_
             (try (conv => arg 2; cbv))
             first
              | (refine .test (fun hr => ?_) (fun hr => ?_) <;> (have hb := hr) <;> (try simp (disch := omega) only [ho, std, wI, lenE, nrm] at hb) <;> (try (exfalso; first | contradiction | omega | exact hb rfl)))
              | (refine .pE (β := Bool) .bool (as' := [.agg [iX _, iX _, iX _, iX _, iX _, iX _], .agg [iX _, iX _, iX _, iX _, iX _, iX _]]) (impl_FactLess.ans o ho _ _ _ _ _ _ _ _ _ _ _ _) ?_; rintro (_ | _) hv <;> (try simp only [dE] at hv) <;> (try first | contradiction | exact bX hv))
              | (refine .fetchXFc ho ?_ ?_ (fun y hy => ?_); rotate_left 2; rcases y with ⟨yk, yn, yc, yvk, yvn, yvc⟩)
              | (refine .needD ho (by kernel_rfl) ?_)
              | (refine iha _ _ ?_ ⟨_, _, by subst ho; rfl, ?_, Nat.le_refl _⟩)
              | (refine .fin ?_; (conv => lhs; cbv); refine congrArg some ?_))
          | ((fail_if_success (refine .id ?_))
             first
              | (subst ho; refine ⟨Int.le_refl 1, .inr rfl, fun j hj hk => absurd hk (by omega)⟩)
              | (subst ho; refine dB ?_; exact okF_end (by omega) i1 i3 (by simp [std, len_eFc]; omega))
              | (refine dB ?_; exact okF_no2 i1 (by omega) (by assumption) (by simp (disch := omega) only [ho, std, wI]) hy hv)
              | (simp (disch := omega) only [ho, std, wI]; refine ⟨by omega, .inl (by omega), okF_step2 i1 (by omega) i3 (by assumption) (by simp (disch := omega) only [ho, std, wI]) hy hv⟩)
              | assumption
              | omega
              | (subst ho; simp (disch := omega) only [std, wI, tdiv2, tdivN, lenE] <;> first | done | rfl | omega)))))
  | ((fail_if_success (refine .id ?_))
     first
      | fail))
theorem spec_Seed.ans {xa xb : Option (List D → Option D)} (o : Std) (ho : o = std) (l : List Nd) (h0 : Sz l) (h1 : l.length ≤ 1048576) : Ans (env xa xb) 65 [rNd o l] (rFc o (seedR l)) := by
 refine Ans.mkA ho _ rfl rfl ?_
 repeat' (first
  | (refine .id ?_
     (try (conv => arg 2; cbv))
     first
      | refine .tN1 ho ?_
      | refine .tN0 ho ?_
      | (refine .pE (β := Bool) .bool (as' := [rNd o _]) (spec_NodesOk.ans o ho _ ?_ ?_) ?_; rotate_left 2; rintro (_ | _) hv <;> (try simp only [dE] at hv) <;> (try first | contradiction | exact bX hv))
      | (refine .fin ?_; (conv => lhs; cbv) <;> refine congrArg some ?_))
  | ((fail_if_success (refine .id ?_))
     first
      | (rw [seedR_no (by assumption)]; subst ho; rfl)
      | (rw [seedR_yes (by assumption)]; subst ho; simp (disch := omega) only [std, wI, len_eNd]; rfl)
      | assumption))
theorem spec_l17Of.ans {xa xb : Option (List D → Option D)} (o : Std) (ho : o = std) (l : List Nd) (fs : List Fc) (h0 : okM l = true) (h1 : fs = seedM l) : Ans (env xa xb) 85 [rNd o l, rFc o fs] (.bool (true)) := by
 refine Ans.mkA ho _ rfl rfl ?_
 have hs := (okM_iff.1 h0).size; have hfl : fs.length = 1 := (by rw [h1]; rfl)
 repeat' (first
  | (refine .id ?_
     (try (conv => arg 2; cbv))
     first
      | (refine .indF (fun m_ s_ => ∃ (a5 : Int) (tk : List Nat), s_ = ⟨[rNd o l, rFc o fs, Jk, Jk, Jk, iX a5] ++ List.replicate 70 Jk, [], [], tk⟩ ∧ (0 ≤ a5 ∧ a5 ≤ 1) ∧ (1 - a5).toNat ≤ m_) _ _ ⟨_, _, by subst ho; rfl, ?_, Nat.le_refl _⟩ ?_
         rotate_right
         rintro m_ _ ⟨a5, tk, rfl, hIa, hka⟩ iha
         obtain ⟨i1, i2⟩ := hIa; refine .unloopA ho ?_
         repeat' (first
          | (refine .id ?_
             (try (conv => arg 2; cbv))
             first
              | refine .testF ?_
              | refine .t1 ?_
              | refine .t0 ?_
              | refine .tN1 ho ?_
              | refine .tN0 ho ?_
              | (refine .test (fun hr => ?_) (fun hr => ?_) <;> (have hb := hr) <;> (try simp (disch := omega) only [ho, std, wI, lenE, nrm] at hb) <;> (try (exfalso; first | contradiction | omega | exact hb rfl)))
              | (refine .pE (β := Bool) .bool (as' := [iX _, iX _, iX _]) (spec_l1In.ans o ho _ _ _) ?_; rintro (_ | _) hv <;> (try simp only [dE] at hv) <;> (try first | contradiction | exact bX hv) <;> (try (exfalso; simp (disch := omega) only [ho, std, wI, len_eNd] at hv; omega)))
              | (refine .pE (β := Bool) .bool (as' := [rFc o _]) (spec_FactsOk.ans o ho _ ?_) ?_; rotate_left 1; rintro (_ | _) hv <;> (try simp only [dE] at hv) <;> (try first | contradiction | exact bX hv) <;> (try exact absurd (hv.symm.trans (by rw [h1, seed_ok])) Bool.false_ne_true))
              | (refine .fetchXFc ho ?_ ?_ (fun y hy => ?_); rotate_left 2; rcases y with ⟨yk, yn, yc, yvk, yvn, yvc⟩; have hsd := seed_at h1 i1 (by omega) hy)
              | (refine iha _ _ ?_ ⟨_, _, by subst ho; rfl, ?_, Nat.le_refl _⟩)
              | (refine .fin ?_; (conv => lhs; cbv) <;> refine congrArg some ?_))
          | ((fail_if_success (refine .id ?_))
             first
              | (simp (disch := omega) only [ho, std, wI]; exact ⟨by omega, by omega⟩)
              | assumption
              | omega
              | (subst ho; simp (disch := omega) only [std, wI, tdiv2, tdivN, lenE] <;> first | done | rfl | omega)))))
  | ((fail_if_success (refine .id ?_))
     first
      | fail))
theorem spec_l18Solve.ans {xa xb : Option (List D → Option D)} (o : Std) (ho : o = std) (l : List Nd) (dp : Int) (fs : List Fc) (h0 : Sz l) (h1 : l.length ≤ 1048576) (h2 : fs = seedR l) : AnsP (env xa xb) 64 [rNd o l, iX dp, rFc o fs] (fun d_ => ∃ (rq : List Fc × Bool) (nq : Int), d_ = .tup [rFc o (((rq.1, nq, rq.2)).1), iX ((rq.1, nq, rq.2)).2.1, .bool ((rq.1, nq, rq.2)).2.2] ∧ (rq = solveR l dp)) := by
 refine AnsP.mkA ho _ rfl rfl ?_
 repeat' (first
  | (refine .id ?_
     (try (conv => arg 2; cbv))
     first
      | refine .testT ?_
      | refine .t1 ?_
      | refine .t0 ?_
      | refine .tN1 ho ?_
      | refine .tN0 ho ?_
      | (refine .test (fun hr => ?_) (fun hr => ?_) <;> (have hb := hr) <;> (try simp (disch := omega) only [ho, std, wI, lenE, nrm] at hb) <;> (try (exfalso; first | contradiction | omega | exact hb rfl)))
      | (refine .pE (β := Bool) .bool (as' := [rNd o _, iX _]) (spec_FlowOk.ans o ho _ _ ?_ ?_) ?_; rotate_left 2; rintro (_ | _) hv <;> (try simp only [dE] at hv) <;> (try first | contradiction | exact bX hv) <;> (try have hst := solve_start hv; try have hC := flowB_clo hv; try have hk := okM_iff.2 hC.ok; try rw [seedR_yes hk] at h2))
      | (refine .pE (β := Bool) .bool (as' := [rNd o _, rFc o _]) (spec_l17Of.ans o ho _ _ ?_ ?_) ?_; rotate_left 2; rintro (_ | _) hv <;> (try simp only [dE] at hv) <;> (try first | contradiction | exact bX hv))
      | (refine .pE (β := Pr) (fun v => .agg ([rNd o v.l, rBd o v.bind, .sl .ro 1 (o.bx fun _ => eLBd v.outer), iX v.depth])) (as' := [rNd o _, iX _]) (spec_l17New.ans o ho _ _ ?_ ?_ ?_) ?_; rotate_left 3; rintro v hv; (obtain ⟨pr, ep⟩ : ∃ q, q = v := ⟨_, rfl⟩; subst ep; have hpr := hv))
      | (refine .indF (fun m_ s_ => ∃ (a2 : List Fc) (a10 : Int) (ta2 : Tok) (tk : List Nat), s_ = ⟨[Jk, Jk, .sl ta2 6 (o.bx fun _ => eFc a2), Jk, Jk, Jk, Jk, Jk, Jk, .pbx (.loc 0) 0, iX a10] ++ List.replicate 38 Jk, [[[rNd o pr.l, rBd o pr.bind, .sl .ro 1 (o.bx fun _ => eLBd pr.outer), iX pr.depth]]], [], tk⟩ ∧ (0 ≤ a10 ∧ a10 ≤ 400 ∧ Fit l a2 ∧ a2.length ≤ 2500 ∧ solveN l dp (400 - a10).toNat a2 = solveO l dp) ∧ (400 - a10).toNat ≤ m_) _ _ ⟨_, _, _, _, by subst ho; rfl, ?_, Nat.le_refl _⟩ ?_
         rotate_right
         rintro m_ _ ⟨a2, a10, ta2, tk, rfl, hIa, hka⟩ iha
         obtain ⟨i1, i2, i3, i4, i5⟩ := hIa; refine .unloopA ho ?_
         repeat' (first
          | (refine .id ?_
             (try (conv => arg 2; cbv))
             first
              | (refine .test (fun hr => ?_) (fun hr => ?_) <;> (have hb := hr) <;> (try simp (disch := omega) only [ho, std, wI, lenE, nrm] at hb) <;> (try (exfalso; first | contradiction | omega | exact hb rfl)))
              | (refine .pE (β := List Fc) (rFc o) (as' := [.agg [rNd o _, rBd o _, .sl .ro 1 (o.bx fun _ => eLBd _), iX _], rFc o _]) (spec_l17Pass.ans o ho _ _ _ _ _ ?_ ?_) ?_; rotate_left 2; rintro v hv; (have hpv : passM l dp a2 = v := (by rw [← hv, ← hpr]; rfl); have hFv : Fit l v := (by rw [← hpv]; exact passM_fit hC i3 dp)))
              | (refine .need ?_ ?_)
              | (refine .app1 ?_ (fun t' tk' hl' => ?_))
              | (refine iha _ _ ?_ ⟨_, _, _, _, by subst ho; rfl, ?_, Nat.le_refl _⟩)
              | (refine .fin ?_; refine ⟨_, by (conv => lhs; cbv) <;> rfl, ?_⟩))
          | ((fail_if_success (refine .id ?_))
             first
              | (exact Lv.cap _)
              | (exact ⟨Int.le_refl _, by omega, by rw [h2]; exact hst.1, by rw [h2]; exact hst.2.1, by rw [h2]; exact hst.2.2⟩)
              | (show PrOk pr; rw [← hpr]; exact prM_ok hC.ok dp)
              | (show Old pr a2; rw [← hpr]; exact i3.old i4 dp)
              | (exact ⟨([], false), _, by subst ho; rfl, (solveR_no (solve_many (by omega) i5 hpv (by omega))).symm⟩)
              | (exact ⟨(v, true), _, by subst ho; rfl, (solveR_yes (solve_same (by omega) i5 hpv (by omega) (by omega))).symm⟩)
              | (exact ⟨([], false), _, by subst ho; rfl, (solveR_no (solve_end (by omega) i5)).symm⟩)
              | (simp (disch := omega) only [ho, std, wI]; exact ⟨by omega, by omega, hFv, by omega, solve_next (by omega) i5 hpv (by omega) (by omega)⟩)
              | (subst ho; simp [std, lenE]; omega)
              | (subst ho; simp (disch := omega) only [std, wI, tdiv2, tdivN, lenE] <;> first | done | rfl | omega))))
      | (refine .fin ?_; refine ⟨_, by (conv => lhs; cbv) <;> rfl, ?_⟩))
  | ((fail_if_success (refine .id ?_))
     first
      | (exact ⟨([], false), _, by subst ho; rfl, (solveR_no (solveO_flow (by assumption))).symm⟩)
      | assumption))
theorem spec_FactHas.ans {xa xb : Option (List D → Option D)} (o : Std) (ho : o = std) (l : List Fc) (f_k : Int) (f_n : Int) (f_c : Int) (f_v_k : Int) (f_v_n : Int) (f_v_c : Int) (h0 : l.length ≤ 2900000000000) : Ans (env xa xb) 54 [rFc o l, .agg [iX f_k, iX f_n, iX f_c, iX f_v_k, iX f_v_n, iX f_v_c]] (.bool (okF l && decide ((⟨f_k, f_n, f_c, ⟨f_v_k, f_v_n, f_v_c⟩⟩ : Fc) ∈ l))) := by
 refine Ans.mkA ho _ rfl rfl ?_
 repeat' (first
  | (refine .id ?_
     (try (conv => arg 2; cbv))
     first
      | refine .t1 ?_
      | refine .t0 ?_
      | refine .tN1 ho ?_
      | refine .tN0 ho ?_
      | (refine .test (fun hr => ?_) (fun hr => ?_) <;> (have hb := hr) <;> (try simp (disch := omega) only [ho, std, wI, lenE, nrm] at hb) <;> (try (exfalso; first | contradiction | omega | exact hb rfl)))
      | (refine .pE (β := Bool) .bool (as' := [rFc o _]) (spec_FactsOk.ans o ho _ ?_) ?_; rotate_left 1; rintro (_ | _) hv <;> (try simp only [dE] at hv) <;> (try first | contradiction | exact bX hv) <;> (try have hu : Up l := (of_decide_eq_true hv).1))
      | (refine .pE (β := Int) (fun v => iX v) (as' := [rFc o _, .agg [iX _, iX _, iX _, iX _, iX _, iX _]]) (spec_l15Place.ans o ho _ _ _ _ _ _ _ ?_ ?_) ?_; rotate_left 2; rintro v hv)
      | (refine .fetchXFc ho ?_ ?_ (fun y hy => ?_); rotate_left 2; rcases y with ⟨yk, yn, yc, yvk, yvn, yvc⟩)
      | (refine .needD ho (by kernel_rfl) ?_)
      | (refine .fin ?_; (conv => lhs; cbv) <;> refine congrArg some ?_))
  | ((fail_if_success (refine .id ?_))
     first
      | (rw [show okF l = true by assumption]; subst ho; rw [Bool.true_and]; refine dBt ?_; simp only [std, Bool.and_eq_true, beq_iff_eq, and_true]; rw [has_iff hu hv (by assumption) hy]; simp only [Fc.mk.injEq, Ab.mk.injEq]; done)
      | (rw [show okF l = true by assumption, Bool.true_and]; refine (congrArg D.bool (decide_eq_false ?_)).symm; rw [mem_posF hu]; omega)
      | (rw [hv]; rfl)
      | assumption
      | omega))
theorem spec_Solve.ans {xa xb : Option (List D → Option D)} (o : Std) (ho : o = std) (l : List Nd) (dp : Int) (h0 : Sz l) (h1 : l.length ≤ 1048576) : Ans (env xa xb) 30 [rNd o l, iX dp] (.tup [rFc o ((solveR l dp).1), .bool (solveR l dp).2]) := by
 refine Ans.mkA ho _ rfl rfl ?_
 repeat' (first
  | (refine .id ?_
     (try (conv => arg 2; cbv))
     first
      | (refine .pE (β := List Fc) (rFc o) (as' := [rNd o _]) (spec_Seed.ans o ho _ ?_ ?_) ?_; rotate_left 2; rintro v hv)
      | (refine .pP (as' := [rNd o _, iX _, rFc o _]) (spec_l18Solve.ans o ho _ _ _ ?_ ?_ ?_) ?_; rotate_left 3; rintro _ ⟨rq, nq, rfl, hv⟩)
      | (refine .fin ?_; (conv => lhs; cbv) <;> refine congrArg some ?_))
  | ((fail_if_success (refine .id ?_))
     first
      | (rw [hv])
      | assumption))
theorem spec_MayRaise.ans {xa xb : Option (List D → Option D)} (o : Std) (ho : o = std) (l : List Nd) (dp : Int) (h0 : Sz l) (h1 : l.length ≤ 1048576) : Ans (env xa xb) 16 [rNd o l, iX dp] (.bool (mayM l dp)) := by
 refine Ans.mkA ho _ rfl rfl ?_
 repeat' (first
  | (refine .id ?_
     (try (conv => arg 2; cbv))
     first
      | refine .t1 ?_
      | refine .t0 ?_
      | refine .tN1 ho ?_
      | refine .tN0 ho ?_
      | (refine .test (fun hr => ?_) (fun hr => ?_) <;> (have hb := hr) <;> (try simp (disch := omega) only [ho, std, wI, lenE, nrm] at hb) <;> (try (exfalso; first | contradiction | omega | exact hb rfl)))
      | (refine .pE (β := (List Fc) × Bool) (fun v => .tup [rFc o v.1, .bool v.2]) (as' := [rNd o _, iX _]) (spec_Solve.ans o ho _ _ ?_ ?_) ?_; rotate_left 2; rintro ⟨v0, (_ | _)⟩ hv <;> (try simp only [dE] at hv) <;> (try first | contradiction | exact bX hv) <;> (try have hsf := solveR_fit hv))
      | (refine .pE (β := Bool) .bool (as' := [rFc o _, .agg [iX _, iX _, iX _, iX _, iX _, iX _]]) (spec_FactHas.ans o ho _ _ _ _ _ _ _ ?_) ?_; rotate_left 1; rintro (_ | _) hv <;> (try simp only [dE] at hv) <;> (try first | contradiction | exact bX hv))
      | (refine .fin ?_; (conv => lhs; cbv) <;> refine congrArg some ?_))
  | ((fail_if_success (refine .id ?_))
     first
      | (refine dB ?_; exact may_no (by assumption))
      | (refine dB ?_; exact may_yes (by assumption) (by subst ho; simp (disch := omega) only [std, wI, len_eNd] at hv; exact hv))
      | assumption
      | (subst ho; simp [std, lenE]; omega)))
theorem laws_eqIntS.ans {xa xb : Option (List D → Option D)} (o : Std) (ho : o = std) (a : List Int) (b : List Int) (h0 : a = b) (h1 : a.length ≤ 1048576) : Ans (env xa xb) 22 [rK o a, rK o b] (.bool (true)) := by
 refine Ans.mkA ho _ rfl rfl ?_
 subst h0
 repeat' (first
  | (refine .id ?_
     (try (conv => arg 2; cbv))
     first
      | (refine .test (fun hr => ?_) (fun hr => ?_) <;> (have hb := hr) <;> (try simp (disch := omega) only [ho, std, wI, lenE, Int.ofNat_eq_natCast, nrm] at hb) <;> (try (exfalso; first | contradiction | omega | exact hb rfl)))
      | (refine .indF (fun m_ s_ => ∃ (a5 : Int) (tk : List Nat), s_ = ⟨[rK o a, rK o a, Jk, Jk, Jk, iX a5] ++ List.replicate 20 Jk, [], [], tk⟩ ∧ (0 ≤ a5 ∧ a5 ≤ a.length) ∧ (a.length - a5).toNat ≤ m_) _ _ ⟨_, _, by subst ho; rfl, ?_, Nat.le_refl _⟩ ?_
         rotate_right
         rintro m_ _ ⟨a5, tk, rfl, hIa, hka⟩ iha
         obtain ⟨i1, i2⟩ := hIa; refine .unloopA ho ?_
         repeat' (first
          | (refine .id ?_
             (try (conv => arg 2; cbv))
             first
              | (refine .test (fun hr => ?_) (fun hr => ?_) <;> (have hb := hr) <;> (try simp (disch := omega) only [ho, std, wI, lenE, Int.ofNat_eq_natCast, nrm] at hb) <;> (try (exfalso; first | contradiction | omega | exact hb rfl)))
              | (refine .fetchYK ho ?_ ?_ (by with_reducible assumption) ?_)
              | (refine .fetchXK ho ?_ ?_ (fun y hy => ?_); rotate_left 2)
              | (refine .needD ho (by kernel_rfl) ?_)
              | (refine iha _ _ ?_ ⟨_, _, by subst ho; rfl, ?_, Nat.le_refl _⟩)
              | (refine .fin ?_; (conv => lhs; cbv) <;> refine congrArg some ?_))
          | ((fail_if_success (refine .id ?_))
             first
              | assumption
              | omega
              | (subst ho; simp (disch := omega) only [std, wI, tdiv2, tdivN, lenE] <;> first | done | rfl | omega)))))
  | ((fail_if_success (refine .id ?_))
     first
      | fail))
theorem laws_heldIntS.ans {xa xb : Option (List D → Option D)} (o : Std) (ho : o = std) (a : List Int) (k : Int) (h0 : a = rowI k a.length) (h1 : a.length ≤ 1048576) (h2 : 0 ≤ k ∧ k ≤ 1) : Ans (env xa xb) 25 [rK o a, iX k] (iX (k + a.length)) := by
 refine Ans.mkA ho _ rfl rfl ?_
 repeat' (first
  | (refine .id ?_
     (try (conv => arg 2; cbv))
     first
      | (refine .indF (fun m_ s_ => ∃ (a1 : Int) (a5 : Int) (tk : List Nat), s_ = ⟨[rK o a, iX a1, Jk, Jk, Jk, iX a5] ++ List.replicate 15 Jk, [], [], tk⟩ ∧ (0 ≤ a5 ∧ a5 ≤ a.length ∧ a1 = k + a5) ∧ (a.length - a5).toNat ≤ m_) _ _ ⟨_, _, _, by subst ho; rfl, ?_, Nat.le_refl _⟩ ?_
         rotate_right
         rintro m_ _ ⟨a1, a5, tk, rfl, hIa, hka⟩ iha
         obtain ⟨i1, i2, i3⟩ := hIa; refine .unloopA ho ?_
         repeat' (first
          | (refine .id ?_
             (try (conv => arg 2; cbv))
             first
              | (refine .test (fun hr => ?_) (fun hr => ?_) <;> (have hb := hr) <;> (try simp (disch := omega) only [ho, std, wI, lenE, Int.ofNat_eq_natCast, nrm] at hb) <;> (try (exfalso; first | contradiction | omega | exact hb rfl)))
              | (refine .fetchXK ho ?_ ?_ (fun y hy => ?_); rotate_left 2; (rw [h0, rowI_at i1 (by omega)] at hy))
              | (refine iha _ _ ?_ ⟨_, _, _, by subst ho; rfl, ?_, Nat.le_refl _⟩)
              | (refine .fin ?_; (conv => lhs; cbv) <;> refine congrArg some ?_))
          | ((fail_if_success (refine .id ?_))
             first
              | (subst ho; exact ⟨Int.le_refl _, by omega, by omega⟩)
              | ((try clear iha); simp (disch := omega) only [ho, std, wI]; exact ⟨by omega, by omega, by omega⟩)
              | (refine dI ?_; omega)
              | assumption
              | (subst ho; simp (disch := omega) only [std, wI, tdiv2, tdivN, lenE] <;> first | done | rfl | omega)))))
  | ((fail_if_success (refine .id ?_))
     first
      | fail))
theorem laws_markText.ans {xa xb : Option (List D → Option D)} (o : Std) (ho : o = std) (k : Int) (h0 : 0 ≤ k ∧ k ≤ 100000000) : AnsP (env xa xb) 60 [iX k] (fun d_ => ∃ (r : ByteArray), d_ = .str (r) ∧ (True)) := by
 refine AnsP.mkA ho _ rfl rfl ?_
 repeat' (first
  | (refine .id ?_
     (try (conv => arg 2; cbv))
     first
      | (refine .test (fun hr => ?_) (fun hr => ?_) <;> (have hb := hr) <;> (try simp (disch := omega) only [ho, std, wI, lenE, Int.ofNat_eq_natCast, nrm] at hb) <;> (try (exfalso; first | contradiction | omega | exact hb rfl)))
      | (refine .indF (fun m_ s_ => ∃ (a0 : Int) (a3 : ByteArray) (tk : List Nat), s_ = ⟨[iX a0, Jk, Jk, .str a3] ++ List.replicate 16 Jk, [], [], tk⟩ ∧ (0 ≤ a0 ∧ (a3.size : Int) + a0 ≤ k) ∧ a0.toNat ≤ m_) _ _ ⟨_, _, _, by subst ho; rfl, ?_, Nat.le_refl _⟩ ?_
         rotate_right
         rintro m_ _ ⟨a0, a3, tk, rfl, hIa, hka⟩ iha
         obtain ⟨i1, i2⟩ := hIa; refine .unloopA ho ?_
         repeat' (first
          | (refine .id ?_
             (try (conv => arg 2; cbv))
             first
              | (refine .test (fun hr => ?_) (fun hr => ?_) <;> (have hb := hr) <;> (try simp (disch := omega) only [ho, std, wI, lenE, Int.ofNat_eq_natCast, nrm] at hb) <;> (try (exfalso; first | contradiction | omega | exact hb rfl)))
              | (refine .need ?_ ?_)
              | (refine iha _ _ ?_ ⟨_, _, _, by subst ho; rfl, ?_, Nat.le_refl _⟩)
              | (refine .fin ?_; refine ⟨_, by (conv => lhs; cbv) <;> rfl, ?_⟩))
          | ((fail_if_success (refine .id ?_))
             first
              | (exact ⟨_, rfl, trivial⟩)
              | (exact mt_ok ho (n := 100000000) (by omega) (by omega))
              | (exact mt_ok1 ho (n := 100000000) (by omega) (by omega))
              | (subst ho; exact ⟨(mt_step (x := 0) (show 0 < a0 by omega) i2 h0.2).1, (mt_step (show 0 < a0 by omega) i2 h0.2).2.1⟩)
              | (exact ⟨h0.1, by have : (⟨⟨[]⟩⟩ : ByteArray).size = 0 := rfl; omega⟩)
              | (subst ho; rfl)
              | (subst ho; simp (disch := omega) only [std, wI, tdiv2, tdivN, lenE] <;> first | done | rfl | omega))))
      | (refine .fin ?_; refine ⟨_, by (conv => lhs; cbv) <;> rfl, ?_⟩))
  | ((fail_if_success (refine .id ?_))
     first
      | (exact ⟨_, rfl, trivial⟩)))
theorem laws_markIntS_0.ans {xa xb : Option (List D → Option D)} (o : Std) (ho : o = std) (a : List Int) (k : Int) (h0 : a.length = 0) : Ans (env xa xb) 24 [rK o a, iX k] (iX (k)) := by
 refine Ans.mkA ho _ rfl rfl ?_
 repeat' (first
  | (refine .id ?_
     (try (conv => arg 2; cbv))
     first
      | (refine .indF (fun m_ s_ => ∃ (a1 : Int) (a5 : Int) (tk : List Nat), s_ = ⟨[rK o a, iX a1, Jk, Jk, Jk, iX a5] ++ List.replicate 13 Jk, [], [], tk⟩ ∧ (a1 = k ∧ a5 = 0) ∧ (0 : Nat) ≤ m_) _ _ ⟨_, _, _, by subst ho; rfl, ?_, Nat.le_refl _⟩ ?_
         rotate_right
         rintro m_ _ ⟨a1, a5, tk, rfl, hIa, hka⟩ iha
         obtain ⟨i1, i2⟩ := hIa; refine .unloopA ho ?_
         repeat' (first
          | (refine .id ?_
             (try (conv => arg 2; cbv))
             first
              | (refine .test (fun hr => ?_) (fun hr => ?_) <;> (have hb := hr) <;> (try simp (disch := omega) only [ho, std, wI, lenE, Int.ofNat_eq_natCast, nrm] at hb) <;> (try (exfalso; first | contradiction | omega | exact hb rfl)))
              | (refine .fin ?_; (conv => lhs; cbv) <;> refine congrArg some ?_))
          | ((fail_if_success (refine .id ?_))
             first
              | omega
              | (subst ho; simp [std, lenE]; omega)))))
  | ((fail_if_success (refine .id ?_))
     first
      | fail))
theorem laws_markIntS.mark {xa xb : Option (List D → Option D)} (o : Std) (ho : o = std) (k : Int) (l : List Int) (n : Nat) (h0 : n = l.length) (h1 : l.length ≤ 1048576) (h2 : 0 ≤ k ∧ k ≤ 1) : Gns (env xa xb) 24 [.asl (.out 0) 1 n, iX k] [(o.bx fun _ => eK .i64 l)] [] (fun ds_ out_ _ _ => ds_ = [iX (k + n)] ∧ ∃ bx_, out_ = [bx_] ∧ (bx_ = (o.bx fun _ => eK .i64 (rowI k n)))) := by
 refine Gns.mkA (E := env xa xb) (f := 24) ho _ (by rfl) (by rfl) ?_
 repeat' (first
  | (refine .id ?_
     (try (conv => arg 2; cbv))
     first
      | (refine .indF (fun m_ s_ => ∃ (a1 : Int) (a5 : Int) (tk : List Nat) (bq : Box), s_ = ⟨[.asl (.out 0) 1 n, iX a1, Jk, Jk, Jk, iX a5] ++ List.replicate 13 Jk, [], [bq], tk⟩ ∧ (bq = (o.bx fun _ => eK .i64 (markO l k a5)) ∧ 0 ≤ a5 ∧ a5 ≤ n ∧ a1 = k + a5) ∧ (n - a5).toNat ≤ m_) _ _ ⟨_, _, _, _, by subst ho; rfl, ?_, Nat.le_refl _⟩ ?_
         rotate_right
         rintro m_ _ ⟨a1, a5, tk, bq, rfl, hIa, hka⟩ iha
         obtain ⟨rfl, i1, i2, i3⟩ := hIa; have hml := markO_len (l := l) (k := k) i1 (by omega); refine .unloopA ho ?_
         repeat' (first
          | (refine .id ?_
             (try (conv => arg 2; cbv))
             first
              | (refine .test (fun hr => ?_) (fun hr => ?_) <;> (have hb := hr) <;> (try simp (disch := omega) only [ho, std, wI, lenE, Int.ofNat_eq_natCast, nrm] at hb) <;> (try (exfalso; first | contradiction | omega | exact hb rfl)))
              | (refine .fetchYK ho ?_ ?_ (by with_reducible assumption) ?_)
              | (refine .fetchXK ho ?_ ?_ (fun y hy => ?_); rotate_left 2)
              | (refine iha _ _ ?_ ⟨_, _, _, _, by subst ho; rfl, ?_, Nat.le_refl _⟩)
              | (refine .fin ?_; refine ⟨_, by (conv => lhs; cbv) <;> rfl, ?_, _, by rfl, ?_⟩))
          | ((fail_if_success (refine .id ?_))
             first
              | (subst ho; exact ⟨congrArg (eK .i64) (markO_zero l k).symm, Int.le_refl _, by omega, by omega⟩)
              | (refine congrArg (fun x => [D.int .i64 x]) ?_; omega)
              | (subst ho; refine congrArg (eK .i64) ?_; rw [h0]; exact markO_end (by omega) (by omega))
              | ((try clear iha); subst ho; simp (disch := omega) only [std, wI]; exact ⟨markO_set i1 (by omega) i3, by omega, by omega, by omega⟩)
              | assumption
              | omega
              | (subst ho; simp (disch := omega) only [std, wI, tdiv2, tdivN, lenE] <;> first | done | rfl | omega)))))
  | ((fail_if_success (refine .id ?_))
     first
      | fail))
theorem laws_markNodeS_0.ans {xa xb : Option (List D → Option D)} (o : Std) (ho : o = std) (a : List Nd) (k : Int) (h0 : a.length = 0) : Ans (env xa xb) 23 [rNd o a, iX k] (iX (k)) := by
 refine Ans.mkA ho _ rfl rfl ?_
 repeat' (first
  | (refine .id ?_
     (try (conv => arg 2; cbv))
     first
      | (refine .indF (fun m_ s_ => ∃ (a1 : Int) (a5 : Int) (tk : List Nat), s_ = ⟨[rNd o a, iX a1, Jk, Jk, Jk, iX a5] ++ List.replicate 58 Jk, [], [], tk⟩ ∧ (a1 = k ∧ a5 = 0) ∧ (0 : Nat) ≤ m_) _ _ ⟨_, _, _, by subst ho; rfl, ?_, Nat.le_refl _⟩ ?_
         rotate_right
         rintro m_ _ ⟨a1, a5, tk, rfl, hIa, hka⟩ iha
         obtain ⟨i1, i2⟩ := hIa; refine .unloopA ho ?_
         repeat' (first
          | (refine .id ?_
             (try (conv => arg 2; cbv))
             first
              | (refine .test (fun hr => ?_) (fun hr => ?_) <;> (have hb := hr) <;> (try simp (disch := omega) only [ho, std, wI, lenE, Int.ofNat_eq_natCast, nrm] at hb) <;> (try (exfalso; first | contradiction | omega | exact hb rfl)))
              | (refine .fin ?_; (conv => lhs; cbv) <;> refine congrArg some ?_))
          | ((fail_if_success (refine .id ?_))
             first
              | omega
              | (subst ho; simp [std, lenE]; omega)))))
  | ((fail_if_success (refine .id ?_))
     first
      | fail))
theorem laws_markNodeS.mark {xa xb : Option (List D → Option D)} (o : Std) (ho : o = std) (k : Int) (l : List Nd) (n : Nat) (h0 : n = l.length) (h1 : l.length ≤ 1048576) (h2 : 0 ≤ k ∧ k ≤ 1) : Gns (env xa xb) 23 [.asl (.out 0) 7 n, iX k] [(o.bx fun _ => eNd l)] [] (fun ds_ out_ _ _ => ds_ = [iX (k + 7 * n)] ∧ ∃ bx_, out_ = [bx_] ∧ (∃ m : List Nd, bx_ = (o.bx fun _ => eNd m) ∧ m.length = n)) := by
 refine Gns.mkA (E := env xa xb) (f := 23) ho _ (by rfl) (by rfl) ?_
 repeat' (first
  | (refine .id ?_
     (try (conv => arg 2; cbv))
     first
      | (refine .indF (fun m_ s_ => ∃ (a1 : Int) (a5 : Int) (tk : List Nat) (bq : Box), s_ = ⟨[.asl (.out 0) 7 n, iX a1, Jk, Jk, Jk, iX a5] ++ List.replicate 58 Jk, [], [bq], tk⟩ ∧ ((∃ mm : List Nd, bq = (o.bx fun _ => eNd mm) ∧ mm.length = n) ∧ 0 ≤ a5 ∧ a5 ≤ n ∧ a1 = k + 7 * a5) ∧ (n - a5).toNat ≤ m_) _ _ ⟨_, _, _, _, by subst ho; rfl, ?_, Nat.le_refl _⟩ ?_
         rotate_right
         rintro m_ _ ⟨a1, a5, tk, bq, rfl, hIa, hka⟩ iha
         obtain ⟨⟨mm, rfl, hml⟩, i1, i2, i3⟩ := hIa; refine .unloopA ho ?_
         repeat' (first
          | (refine .id ?_
             (try (conv => arg 2; cbv))
             first
              | (refine .test (fun hr => ?_) (fun hr => ?_) <;> (have hb := hr) <;> (try simp (disch := omega) only [ho, std, wI, lenE, Int.ofNat_eq_natCast, nrm] at hb) <;> (try (exfalso; first | contradiction | omega | exact hb rfl)))
              | (refine .fetchS ho ?_ ?_ ?_)
              | (refine .pP (as' := [iX _]) (laws_markText.ans o ho _ ?_) ?_; rotate_left 1; rintro _ ⟨r, rfl, hv⟩)
              | (refine .fetchYNd ho ?_ ?_ (by with_reducible assumption) ?_)
              | (refine .fetchXNd ho ?_ ?_ (fun y hy => ?_); rotate_left 2; rcases y with ⟨y0, y1, y2, y3, y4, y5, y6⟩)
              | (refine iha _ _ ?_ ⟨_, _, _, _, by subst ho; rfl, ?_, Nat.le_refl _⟩)
              | (refine .fin ?_; refine ⟨_, by (conv => lhs; cbv) <;> rfl, ?_, _, by rfl, ?_⟩))
          | ((fail_if_success (refine .id ?_))
             first
              | (subst ho; exact ⟨⟨l, rfl, h0.symm⟩, Int.le_refl _, by omega, by omega⟩)
              | (refine congrArg (fun x => [D.int .i64 x]) ?_; omega)
              | (exact ⟨mm, rfl, hml⟩)
              | (subst ho; simp only [len_setAt]; simp only [std, len_eNd]; omega)
              | ((try clear iha); subst ho; simp (disch := omega) only [std, wI, List.set_set, setNd]; exact ⟨⟨_, rfl, by rw [List.length_set]; exact hml⟩, by omega, by omega, by omega⟩)
              | assumption
              | omega
              | (subst ho; simp [std, lenE]; omega)
              | (subst ho; simp (disch := omega) only [std, wI, tdiv2, tdivN, lenE] <;> first | done | rfl | omega)))))
  | ((fail_if_success (refine .id ?_))
     first
      | fail))
end Go.Mach
namespace Go.Proofs
open Go.Shelf
def Tryz.sortFc_ren : Go.Shelf.Ren := ⟨fun | 6 => 146 | 15 => 127 | 14 => 189 | 28 => 162 | 29 => 163 | 20 => 206 | 21 => 207 | 22 => 208 | 23 => 209 | 24 => 210 | 25 => 211 | 26 => 212 | 27 => 213 | 46 => 222 | 47 => 223 | 48 => 224 | 49 => 225 | 50 => 226 | 57 => 232 | n => n, fun | 22 => 36 | 24 => 55 | 25 => 129 | 3 => 3 | 39 => 125 | 0 => 0 | 53 => 150 | 55 => 152 | 4 => 4 | 46 => 190 | 45 => 189 | 50 => 159 | 5 => 5 | 9 => 9 | 66 => 203 | 70 => 179 | 76 => 208 | 77 => 196 | n => n, fun | n => n⟩
theorem Tryz.sortFc : Go.Proofs.SlLaysF0.n6 Tryz.prog Tryz.sortFc_ren := {
 mixed := by kernel_rfl
 f6 := ⟨Tryz.f146.name, by decide, Tryz.func146.trans (congrArg some (by kernel_rfl))⟩
 f14 := ⟨Tryz.f189.name, by decide, Tryz.func189.trans (congrArg some (by kernel_rfl))⟩
 f15 := Tryz.func127.trans (congrArg some (by kernel_rfl))
 f20 := ⟨Tryz.f206.name, by decide, Tryz.func206.trans (congrArg some (by kernel_rfl))⟩
 f21 := ⟨Tryz.f207.name, by decide, Tryz.func207.trans (congrArg some (by kernel_rfl))⟩
 f22 := ⟨Tryz.f208.name, by decide, Tryz.func208.trans (congrArg some (by kernel_rfl))⟩
 f23 := ⟨Tryz.f209.name, by decide, Tryz.func209.trans (congrArg some (by kernel_rfl))⟩
 f24 := ⟨Tryz.f210.name, by decide, Tryz.func210.trans (congrArg some (by kernel_rfl))⟩
 f25 := ⟨Tryz.f211.name, by decide, Tryz.func211.trans (congrArg some (by kernel_rfl))⟩
 f26 := ⟨Tryz.f212.name, by decide, Tryz.func212.trans (congrArg some (by kernel_rfl))⟩
 f27 := ⟨Tryz.f213.name, by decide, Tryz.func213.trans (congrArg some (by kernel_rfl))⟩
 f28 := Tryz.func162.trans (congrArg some (by kernel_rfl))
 f29 := Tryz.func163.trans (congrArg some (by kernel_rfl))
 f46 := ⟨Tryz.f222.name, by decide, Tryz.func222.trans (congrArg some (by kernel_rfl))⟩
 f47 := Tryz.func223.trans (congrArg some (by kernel_rfl))
 f48 := Tryz.func224.trans (congrArg some (by kernel_rfl))
 f49 := ⟨Tryz.f225.name, by decide, Tryz.func225.trans (congrArg some (by kernel_rfl))⟩
 f50 := ⟨Tryz.f226.name, by decide, Tryz.func226.trans (congrArg some (by kernel_rfl))⟩
 f57 := ⟨Tryz.f232.name, by decide, Tryz.func232.trans (congrArg some (by kernel_rfl))⟩
 t0 := Tryz.underlying0
 a0 := Tryz.isAgg0
 z0 := Tryz.sizeOf0
 v0 := Tryz.zeroValue0
 t3 := Tryz.underlying3
 a3 := Tryz.isAgg3
 z3 := Tryz.sizeOf3
 v3 := Tryz.zeroValue3
 t4 := Tryz.underlying4
 a4 := Tryz.isAgg4
 z4 := Tryz.sizeOf4
 v4 := Tryz.zeroValue4
 t5 := Tryz.underlying5
 a5 := Tryz.isAgg5
 z5 := Tryz.sizeOf5
 v5 := Tryz.zeroValue5
 t9 := Tryz.underlying9
 a9 := Tryz.isAgg9
 z9 := Tryz.sizeOf9
 v9 := Tryz.zeroValue9
 t22 := Tryz.underlying36
 a22 := Tryz.isAgg36
 z22 := Tryz.sizeOf36
 v22 := Tryz.zeroValue36
 t25 := Tryz.underlying129
 a25 := Tryz.isAgg129
 z25 := Tryz.sizeOf129
 v25 := Tryz.zeroValue129
 t39 := Tryz.underlying125
 a39 := Tryz.isAgg125
 z39 := Tryz.sizeOf125
 v39 := Tryz.zeroValue125
 t45 := Tryz.underlying189
 a45 := Tryz.isAgg189
 z45 := Tryz.sizeOf189
 v45 := Tryz.zeroValue189
 t46 := Tryz.underlying190
 a46 := Tryz.isAgg190
 z46 := Tryz.sizeOf190
 v46 := Tryz.zeroValue190
 t50 := Tryz.underlying159
 a50 := Tryz.isAgg159
 z50 := Tryz.sizeOf159
 v50 := Tryz.zeroValue159
 t53 := Tryz.underlying150
 a53 := Tryz.isAgg150
 z53 := Tryz.sizeOf150
 v53 := Tryz.zeroValue150
 t55 := Tryz.underlying152
 a55 := Tryz.isAgg152
 z55 := Tryz.sizeOf152
 v55 := Tryz.zeroValue152
 t66 := Tryz.underlying203
 a66 := Tryz.isAgg203
 z66 := Tryz.sizeOf203
 v66 := Tryz.zeroValue203
 t70 := Tryz.underlying179
 a70 := Tryz.isAgg179
 z70 := Tryz.sizeOf179
 v70 := Tryz.zeroValue179
 t76 := Tryz.underlying208
 a76 := Tryz.isAgg208
 z76 := Tryz.sizeOf208
 v76 := Tryz.zeroValue208
 t77 := Tryz.underlying196
 a77 := Tryz.isAgg196
 z77 := Tryz.sizeOf196
 v77 := Tryz.zeroValue196 }
end Go.Proofs
