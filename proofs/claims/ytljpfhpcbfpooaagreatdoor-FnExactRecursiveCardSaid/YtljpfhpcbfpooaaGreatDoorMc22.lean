/- What the statements share: part 22 of a proof by an executable machine over the program's code. -/
import Derived.Test.YtljpfhpcbfpooaaGreatDoorMc21
set_option linter.unusedVariables false
set_option linter.unusedSimpArgs false
set_option maxRecDepth 100000
set_option maxHeartbeats 6000000
namespace Go.Mach
open Go Go.RowKit Go.Proofs
theorem spec_l17Two.ans {xa xb : Option (List D → Option D)} (o : Std) (ho : o = std) (p_l : List Nd) (p_bind : List Bd) (p_outer : List (List Bd)) (p_depth : Int) (out : List Fc) (old : List Fc) (i : Int) (c : Int) (h0 : PrOk (⟨p_l, p_bind, p_outer, p_depth⟩ : Pr)) (h1 : Old (⟨p_l, p_bind, p_outer, p_depth⟩ : Pr) old) (h2 : Up out) (h3 : 0 ≤ i ∧ i < p_l.length) (h4 : out.length + 960000000 ≤ 2900000000000) : Ans (env xa xb) 167 [.agg [rNd o p_l, rBd o p_bind, .sl .ro 1 (o.bx fun _ => eLBd p_outer), iX p_depth], rFc o out, rFc o old, iX i, iX c] (rFc o (insAll out (twoS (⟨p_l, p_bind, p_outer, p_depth⟩ : Pr) old i c))) := by
 refine Ans.mkA ho _ rfl rfl ?_
 have hP := h0; have hO := h1; have hu := h1.up; have hp := h1.pos; have hL := h1.len; have hL2 : old.length ≤ 2900000000000 := (by omega); have hpo := h0.outer; have hpb := h0.bind; dsimp only at hpo hpb
 repeat' (first
  | (refine .id ?_
     (try (conv => arg 2; cbv))
     first
      | refine .testT ?_
      | refine .testF ?_
      | refine .t1 ?_
      | refine .t0 ?_
      | (refine .test (fun hr => ?_) (fun hr => ?_) <;> (have hb := hr) <;> (try simp (disch := omega) only [ho, std, wI, lenE, nrm] at hb) <;> (try (exfalso; first | contradiction | omega | exact hb rfl)))
      | (refine .pE (β := Bool) .bool (as' := [rFc o _, iX _, iX _]) (spec_l17Has.ans o ho _ _ _ ?_ ?_ ?_) ?_; rotate_left 3; rintro (_ | _) hv <;> (try simp only [dE] at hv) <;> (try first | exact absurd (hv.symm.trans (show _ = false by assumption)) (by decide) | exact absurd (hv.symm.trans (show _ = true by assumption)) (by decide)))
      | (refine .pE (β := List Fc) (rFc o) (as' := [rFc o _, iX _, iX _]) (spec_l17See.ans o ho _ _ _ ?_ ?_) ?_; rotate_left 2; rintro v hv; (try have hUp := Up.adds (by assumption) hv); (try have hLn := adds_see hv))
      | (refine .pE (β := List Fc) (rFc o) (as' := [.agg [rNd o _, rBd o _, .sl .ro 1 (o.bx fun _ => eLBd _), iX _], rFc o _, rFc o _, iX _, iX _]) (spec_l17Call.ans o ho _ _ _ _ _ _ _ _ ?_ ?_ ?_ ?_ ?_) ?_; rotate_left 5; rintro v hv; (try have hUp := Up.adds (by assumption) hv); (try have hLn := adds_call hP hO hv))
      | (refine .pE (β := List Fc) (rFc o) (as' := [rFc o _, rFc o _, iX _, iX _, iX _, iX _, iX _, iX _]) (spec_l17Flow.ans o ho _ _ _ _ _ _ _ _ ?_ ?_ ?_ ?_ ?_) ?_; rotate_left 5; rintro v hv; (try have hUp := Up.adds (by assumption) hv); (try have hLn := adds_flow hO hv))
      | (refine .pE (β := List Ab) (rAb o) (as' := [rFc o _, iX _, iX _, iX _]) (spec_l15At.ans o ho _ _ _ _ ?_ ?_ ?_) ?_; rotate_left 3; rintro v hv)
      | (refine .pE (β := List Fc) (rFc o) (as' := [rFc o _, .agg [iX _, iX _, iX _, iX _, iX _, iX _]]) (spec_l15Add.ans o ho _ _ _ _ _ _ _ ?_ ?_) ?_; rotate_left 2; rintro v hv; (try have hUp := Up.add1 (by assumption) hv); (try have hLn := adds_one hv))
      | (refine .fetchXNd ho ?_ ?_ (fun y hy => ?_); rotate_left 2; rcases y with ⟨y0, y1, y2, y3, y4, y5, y6⟩)
      | (refine .indF (fun m_ s_ => ∃ (a1 : List Fc) (a13 : List Ab) (a14 : Int) (ta1 ta13 : Tok) (tk : List Nat), s_ = ⟨[Jk, .sl ta1 6 (o.bx fun _ => eFc a1), rFc o old, iX i, iX c, Jk, Jk, Jk, Jk, Jk, Jk, .pbx (.loc 1) 0, .pbx (.loc 2) 0, .sl ta13 3 (o.bx fun _ => eAb a13), iX a14] ++ List.replicate 113 Jk, [[[rNd o p_l, rBd o p_bind, .sl .ro 1 (o.bx fun _ => eLBd p_outer), iX p_depth]], [[iX y0, iX y1, iX y2, iX y3, iX y4, .str y5, .str y6]], [[iX 0, iX 0, iX 0]]], [], tk⟩ ∧ (a13 = vals old 0 y1 c ∧ 0 ≤ a14 ∧ a14 ≤ a13.length ∧ a1 = insAll (insAll out (seeL y2 c)) ((a13.take a14.toNat).flatMap (setS1 old y2 c))) ∧ (a13.length - a14).toNat ≤ m_) _ _ ⟨_, _, _, _, _, _, by subst ho; rfl, ?_, Nat.le_refl _⟩ ?_
         rotate_right
         rintro m_ _ ⟨a1, a13, a14, ta1, ta13, tk, rfl, hIa, hka⟩ iha
         obtain ⟨i1, i2, i3, i4⟩ := hIa; have hz := len_valsO hO 0 y1 c; rw [← i1] at hz; have hw := len_insAll (insAll out (seeL y2 c)) ((a13.take a14.toNat).flatMap (setS1 old y2 c)); rw [← i4] at hw; have hw1 := len_insAll out (seeL y2 c); have hw2 := len_flatMap_le _ 2500 (fun v => len_set1 hO y2 c v) (a13.take a14.toNat); have hw3 := List.length_take_le a14.toNat a13; have hU := (h2.insAll (seeL y2 c)).adds i4.symm; have hsl : (seeL y2 c).length = 1 := rfl; refine .unloopA ho ?_
         repeat' (first
          | (refine .id ?_
             (try (conv => arg 2; cbv))
             first
              | (refine .test (fun hr => ?_) (fun hr => ?_) <;> (have hb := hr) <;> (try simp (disch := omega) only [ho, std, wI, lenE, nrm] at hb) <;> (try (exfalso; first | contradiction | omega | exact hb rfl)))
              | (refine .pE (β := List Fc) (rFc o) (as' := [rFc o _, rFc o _, iX _, iX _, iX _, iX _, iX _, iX _]) (spec_l17Flow.ans o ho _ _ _ _ _ _ _ _ ?_ ?_ ?_ ?_ ?_) ?_; rotate_left 5; rintro v hv; (try have hUp := Up.adds (by assumption) hv); (try have hLn := adds_flow hO hv))
              | (refine .pE (β := List Fc) (rFc o) (as' := [rFc o _, .agg [iX _, iX _, iX _, iX _, iX _, iX _]]) (spec_l15Add.ans o ho _ _ _ _ _ _ _ ?_ ?_) ?_; rotate_left 2; rintro v hv; (try have hUp := Up.add1 (by assumption) hv); (try have hLn := adds_one hv))
              | (refine .fetchYAb ho ?_ ?_ (by with_reducible assumption) ?_)
              | (refine .fetchXAb ho ?_ ?_ (fun y hy => ?_); rotate_left 2; rcases y with ⟨yk, yn, yc⟩)
              | (refine .needD ho (by kernel_rfl) ?_)
              | (refine iha _ _ ?_ ⟨_, _, _, _, _, _, by subst ho; rfl, ?_, Nat.le_refl _⟩)
              | (refine .fin ?_; (conv => lhs; cbv); refine congrArg some ?_))
          | ((fail_if_success (refine .id ?_))
             first
              | (refine Nat.le_trans (Nat.add_le_add_left (len_valsO hO _ _ _) _) ?_; omega)
              | (subst ho; refine ⟨Eq.symm (by assumption), Int.le_refl _, by omega, ?_⟩; simp [*, insAll_nil]; done)
              | (subst ho; refine ⟨i1, ?_, ?_, ?_⟩ <;> simp (disch := omega) only [std, wI] <;> first | omega | (rw [flatMap_succ _ zA i2 (by omega), insAll_append, ← i4, show rdG zA a13 a14 = ⟨yk, yn, yc⟩ from (by assumption : rA a13 a14 = ⟨yk, yn, yc⟩)]; unfold setS1; first | (rw [if_pos (by assumption)]; exact hv.symm) | (rw [if_neg (by assumption)]; rfl)))
              | ((try clear iha); subst ho; rw [take_allG (by omega), i1] at i4; refine congrArg (D.sl Tok.ro 6) (congrArg eFc (hv.symm.trans ?_)); rw [i4]; clear i4 i1; unfold twoS; simp [*, insAll_append, insAll_one, insAll_nil, riseL]; done)
              | assumption
              | omega
              | (subst ho; simp (disch := omega) only [std, wI, tdiv2, tdivN, lenE] <;> first | done | rfl | omega))))
      | (refine .fin ?_; (conv => lhs; cbv); refine congrArg some ?_))
  | ((fail_if_success (refine .id ?_))
     first
      | (refine Nat.le_trans (Nat.add_le_add_left (len_valsO hO _ _ _) _) ?_; omega)
      | ((try clear iha); subst ho; refine congrArg (D.sl Tok.ro 6) (congrArg eFc ?_); unfold twoS; simp [*, insAll_append, insAll_one, insAll_nil, insAll_cons, riseL]; done)
      | assumption
      | omega))
theorem spec_l17One.ans {xa xb : Option (List D → Option D)} (o : Std) (ho : o = std) (p_l : List Nd) (p_bind : List Bd) (p_outer : List (List Bd)) (p_depth : Int) (out : List Fc) (old : List Fc) (i : Int) (c : Int) (h0 : PrOk (⟨p_l, p_bind, p_outer, p_depth⟩ : Pr)) (h1 : Old (⟨p_l, p_bind, p_outer, p_depth⟩ : Pr) old) (h2 : Up out) (h3 : 0 ≤ i ∧ i < p_l.length) (h4 : out.length + 20000000 ≤ 2900000000000) : Ans (env xa xb) 168 [.agg [rNd o p_l, rBd o p_bind, .sl .ro 1 (o.bx fun _ => eLBd p_outer), iX p_depth], rFc o out, rFc o old, iX i, iX c] (rFc o (insAll out (oneS (⟨p_l, p_bind, p_outer, p_depth⟩ : Pr) old i c))) := by
 refine Ans.mkA ho _ rfl rfl ?_
 have hP := h0; have hO := h1; have hu := h1.up; have hp := h1.pos; have hL := h1.len; have hL2 : old.length ≤ 2900000000000 := (by omega); have hpo := h0.outer; have hpb := h0.bind; dsimp only at hpo hpb
 repeat' (first
  | (refine .id ?_
     (try (conv => arg 2; cbv))
     first
      | refine .testT ?_
      | refine .testF ?_
      | (refine .test (fun hr => ?_) (fun hr => ?_) <;> (have hb := hr) <;> (try simp (disch := omega) only [ho, std, wI, lenE, nrm] at hb) <;> (try (exfalso; first | contradiction | omega | exact hb rfl)))
      | (refine .pE (β := Bool) .bool (as' := [rFc o _, iX _, iX _]) (spec_l17Has.ans o ho _ _ _ ?_ ?_ ?_) ?_; rotate_left 3; rintro (_ | _) hv <;> (try simp only [dE] at hv) <;> (try first | exact absurd (hv.symm.trans (show _ = false by assumption)) (by decide) | exact absurd (hv.symm.trans (show _ = true by assumption)) (by decide)))
      | (refine .pE (β := List Fc) (rFc o) (as' := [rFc o _, iX _, iX _]) (spec_l17See.ans o ho _ _ _ ?_ ?_) ?_; rotate_left 2; rintro v hv; (try have hUp := Up.adds (by assumption) hv); (try have hLn := adds_see hv))
      | (refine .pE (β := List Fc) (rFc o) (as' := [rFc o _, rFc o _, iX _, iX _, iX _, iX _, iX _, iX _]) (spec_l17Flow.ans o ho _ _ _ _ _ _ _ _ ?_ ?_ ?_ ?_ ?_) ?_; rotate_left 5; rintro v hv; (try have hUp := Up.adds (by assumption) hv); (try have hLn := adds_flow hO hv))
      | (refine .pE (β := Bool) .bool (as' := [rFc o _, iX _, iX _, iX _]) (spec_l17Kind.ans o ho _ _ _ _ ?_ ?_ ?_) ?_; rotate_left 3; rintro (_ | _) hv <;> (try simp only [dE] at hv) <;> (try first | exact absurd (hv.symm.trans (show _ = false by assumption)) (by decide) | exact absurd (hv.symm.trans (show _ = true by assumption)) (by decide)))
      | (refine .pE (β := List Fc) (rFc o) (as' := [.agg [rNd o _, rBd o _, .sl .ro 1 (o.bx fun _ => eLBd _), iX _], rFc o _, rFc o _, iX _, iX _, iX _, iX _, iX _, iX _]) (spec_l17Parts.ans o ho _ _ _ _ _ _ _ _ _ _ _ _ ?_ ?_ ?_ ?_ ?_) ?_; rotate_left 5; rintro v hv; (try have hUp := Up.adds (by assumption) hv); (try have hLn := adds_parts hO hv))
      | (refine .pE (β := List Fc) (rFc o) (as' := [rFc o _, .agg [iX _, iX _, iX _, iX _, iX _, iX _]]) (spec_l15Add.ans o ho _ _ _ _ _ _ _ ?_ ?_) ?_; rotate_left 2; rintro v hv; (try have hUp := Up.add1 (by assumption) hv); (try have hLn := adds_one hv))
      | (refine .pE (β := Bool) .bool (as' := [rFc o _, iX _, iX _]) (spec_l17Raises.ans o ho _ _ _ ?_ ?_ ?_) ?_; rotate_left 3; rintro (_ | _) hv <;> (try simp only [dE] at hv) <;> (try first | exact absurd (hv.symm.trans (show _ = false by assumption)) (by decide) | exact absurd (hv.symm.trans (show _ = true by assumption)) (by decide)))
      | (refine .fetchXNd ho ?_ ?_ (fun y hy => ?_); rotate_left 2; rcases y with ⟨y0, y1, y2, y3, y4, y5, y6⟩)
      | (refine .needD ho (by kernel_rfl) ?_)
      | (refine .fin ?_; (conv => lhs; cbv); refine congrArg some ?_))
  | ((fail_if_success (refine .id ?_))
     first
      | (refine Nat.le_trans (Nat.add_le_add_left (len_valsO hO _ _ _) _) ?_; omega)
      | (refine Nat.le_trans (Nat.add_le_add_left (len_parts hO _ _ _ _ _ _) _) ?_; omega)
      | ((try clear iha); subst ho; refine congrArg (D.sl Tok.ro 6) (congrArg eFc ?_); unfold oneS; simp [*, insAll_append, insAll_one, insAll_nil, insAll_cons, riseL]; done)
      | assumption
      | omega))
theorem spec_l17Node.ans {xa xb : Option (List D → Option D)} (o : Std) (ho : o = std) (p_l : List Nd) (p_bind : List Bd) (p_outer : List (List Bd)) (p_depth : Int) (out : List Fc) (old : List Fc) (i : Int) (c : Int) (h0 : PrOk (⟨p_l, p_bind, p_outer, p_depth⟩ : Pr)) (h1 : Old (⟨p_l, p_bind, p_outer, p_depth⟩ : Pr) old) (h2 : Up out) (h3 : 0 ≤ i ∧ i < p_l.length) (h4 : out.length + 970000000 ≤ 2900000000000) : Ans (env xa xb) 136 [.agg [rNd o p_l, rBd o p_bind, .sl .ro 1 (o.bx fun _ => eLBd p_outer), iX p_depth], rFc o out, rFc o old, iX i, iX c] (rFc o (insAll out (nodeS (⟨p_l, p_bind, p_outer, p_depth⟩ : Pr) old i c))) := by
 refine Ans.mkA ho _ rfl rfl ?_
 have hP := h0; have hO := h1; have hu := h1.up; have hp := h1.pos; have hL := h1.len; have hL2 : old.length ≤ 2900000000000 := (by omega); have hpo := h0.outer; have hpb := h0.bind; dsimp only at hpo hpb
 repeat' (first
  | (refine .id ?_
     (try (conv => arg 2; cbv))
     first
      | refine .testT ?_
      | refine .testF ?_
      | (refine .test (fun hr => ?_) (fun hr => ?_) <;> (have hb := hr) <;> (try simp (disch := omega) only [ho, std, wI, lenE, nrm] at hb) <;> (try (exfalso; first | contradiction | omega | exact hb rfl)))
      | (refine .pE (β := Int) (fun v => iX v) (as' := [iX _]) (spec_l17Name.ans o ho _ ?_) ?_; rotate_left 1; rintro v hv)
      | (refine .pE (β := List Fc) (rFc o) (as' := [rFc o _, rFc o _, iX _, iX _, iX _, iX _, iX _, iX _]) (spec_l17Flow.ans o ho _ _ _ _ _ _ _ _ ?_ ?_ ?_ ?_ ?_) ?_; rotate_left 5; rintro v hv; (try have hUp := Up.adds (by assumption) hv); (try have hLn := adds_flow hO hv))
      | (refine .pE (β := List Fc) (rFc o) (as' := [rFc o _, .agg [iX _, iX _, iX _, iX _, iX _, iX _]]) (spec_l15Add.ans o ho _ _ _ _ _ _ _ ?_ ?_) ?_; rotate_left 2; rintro v hv; (try have hUp := Up.add1 (by assumption) hv); (try have hLn := adds_one hv))
      | (refine .pE (β := List Fc) (rFc o) (as' := [rFc o _, iX _, iX _]) (spec_l17See.ans o ho _ _ _ ?_ ?_) ?_; rotate_left 2; rintro v hv; (try have hUp := Up.adds (by assumption) hv); (try have hLn := adds_see hv))
      | (refine .pE (β := Bool) .bool (as' := [rFc o _, iX _, iX _]) (spec_l17Raises.ans o ho _ _ _ ?_ ?_ ?_) ?_; rotate_left 3; rintro (_ | _) hv <;> (try simp only [dE] at hv) <;> (try first | exact absurd (hv.symm.trans (show _ = false by assumption)) (by decide) | exact absurd (hv.symm.trans (show _ = true by assumption)) (by decide)))
      | (refine .pE (β := List Int) (rK o) (as' := [.agg [iX _, iX _, iX _, iX _, iX _, .str _, .str _]]) (spec_Kids.ans o ho _ _ _ _ _ _ _) ?_; rintro v hv)
      | (refine .fetchXNd ho ?_ ?_ (fun y hy => ?_); rotate_left 2; rcases y with ⟨y0, y1, y2, y3, y4, y5, y6⟩)
      | (refine .fetchXBd ho ?_ ?_ (fun y hy => ?_); rotate_left 2; rcases y with ⟨y0, y1⟩; (have hrl := role_bind hP h3 hy); dsimp only at hrl)
      | (refine .needD ho (by kernel_rfl) ?_)
      | (refine .indF (fun m_ s_ => ∃ (a1 : List Fc) (a14 : List Int) (a15 : Int) (ta1 ta14 : Tok) (tk : List Nat), s_ = ⟨[Jk, .sl ta1 6 (o.bx fun _ => eFc a1), rFc o old, iX i, iX c, .pbx (.loc 0) 0, Jk, Jk, Jk, Jk, Jk, .pbx (.loc 1) 0, Jk, Jk, .sl ta14 1 (o.bx fun _ => eK .i64 a14), iX a15] ++ List.replicate 138 Jk, [[[rNd o p_l, rBd o p_bind, .sl .ro 1 (o.bx fun _ => eLBd p_outer), iX p_depth]], [[iX y0, iX y1, iX y2, iX y3, iX y4, .str y5, .str y6]], [[iX 0, iX i, iX c, iX 0, iX 0, iX 0]]], [], tk⟩ ∧ (a14 = kidsM ⟨y0, y1, y2, y3, y4, y5, y6⟩ ∧ 0 ≤ a15 ∧ a15 ≤ a14.length ∧ a1 = insAll (insAll out (seeL y1 c)) ((a14.zipIdx.take a15.toNat).flatMap (kidR1 old y0 i c))) ∧ (a14.length - a15).toNat ≤ m_) _ _ ⟨_, _, _, _, _, _, by subst ho; rfl, ?_, Nat.le_refl _⟩ ?_
         rotate_right
         rintro m_ _ ⟨a1, a14, a15, ta1, ta14, tk, rfl, hIa, hka⟩ iha
         obtain ⟨i1, i2, i3, i4⟩ := hIa; have hz := len_kidsM ⟨y0, y1, y2, y3, y4, y5, y6⟩; rw [← i1] at hz; have hz2 := arityM_le y0; dsimp only at hz; have hw := len_insAll (insAll out (seeL y1 c)) ((a14.zipIdx.take a15.toNat).flatMap (kidR1 old y0 i c)); rw [← i4] at hw; have hw1 := len_insAll out (seeL y1 c); have hw2 := len_flatMap_le _ 1 (fun v => len_kidR1 old y0 i c v) (a14.zipIdx.take a15.toNat); have hw3 := List.length_take_le a15.toNat a14.zipIdx; have hU := (h2.insAll (seeL y1 c)).adds i4.symm; have hsl : (seeL y1 c).length = 1 := rfl; refine .unloopA ho ?_
         repeat' (first
          | (refine .id ?_
             (try (conv => arg 2; cbv))
             first
              | refine .testT ?_
              | refine .testF ?_
              | refine .t1 ?_
              | refine .t0 ?_
              | (refine .test (fun hr => ?_) (fun hr => ?_) <;> (have hb := hr) <;> (try simp (disch := omega) only [ho, std, wI, lenE, nrm] at hb) <;> (try (exfalso; first | contradiction | omega | exact hb rfl)))
              | (refine .pE (β := List Fc) (rFc o) (as' := [rFc o _, .agg [iX _, iX _, iX _, iX _, iX _, iX _]]) (spec_l15Add.ans o ho _ _ _ _ _ _ _ ?_ ?_) ?_; rotate_left 2; rintro v hv; (try have hUp := Up.add1 (by assumption) hv); (try have hLn := adds_one hv))
              | (refine .pE (β := Bool) .bool (as' := [rFc o _, iX _, iX _]) (spec_l17Raises.ans o ho _ _ _ ?_ ?_ ?_) ?_; rotate_left 3; rintro (_ | _) hv <;> (try simp only [dE] at hv) <;> (try first | exact absurd (hv.symm.trans (show _ = false by assumption)) (by decide) | exact absurd (hv.symm.trans (show _ = true by assumption)) (by decide)))
              | (refine .pE (β := List Fc) (rFc o) (as' := [.agg [rNd o _, rBd o _, .sl .ro 1 (o.bx fun _ => eLBd _), iX _], rFc o _, rFc o _, iX _, iX _]) (spec_l17Two.ans o ho _ _ _ _ _ _ _ _ ?_ ?_ ?_ ?_ ?_) ?_; rotate_left 5; rintro v hv; (try have hUp := Up.adds (by assumption) hv); (try have hLn := adds_two hP hO hv))
              | (refine .pE (β := List Fc) (rFc o) (as' := [.agg [rNd o _, rBd o _, .sl .ro 1 (o.bx fun _ => eLBd _), iX _], rFc o _, rFc o _, iX _, iX _]) (spec_l17One.ans o ho _ _ _ _ _ _ _ _ ?_ ?_ ?_ ?_ ?_) ?_; rotate_left 5; rintro v hv; (try have hUp := Up.adds (by assumption) hv); (try have hLn := adds_oneS hP hO hv))
              | (refine .fetchXK ho ?_ ?_ (fun y hy => ?_); rotate_left 2)
              | (refine iha _ _ ?_ ⟨_, _, _, _, _, _, by subst ho; rfl, ?_, Nat.le_refl _⟩)
              | (refine .fin ?_; (conv => lhs; cbv); refine congrArg some ?_))
          | ((fail_if_success (refine .id ?_))
             first
              | (subst ho; refine ⟨Eq.symm (by assumption), Int.le_refl _, by omega, ?_⟩; simp [*, insAll_nil]; done)
              | ((try clear iha); subst ho; refine congrArg (D.sl Tok.ro 6) (congrArg eFc ?_); rw [take_allG (by simp; omega), i1] at i4; unfold nodeS; refine hv.symm.trans ?_; rw [i4]; clear i4 i1; simp [*, insAll_append, kidRiseS]; done)
              | ((try clear iha); subst ho; refine ⟨i1, ?_, ?_, ?_⟩ <;> simp (disch := omega) only [std, wI] <;> first | omega | (rw [flatMap_succ _ (0, 0) i2 (by simp; omega), insAll_append, ← i4, rd_zipIdx i2 (by omega), hy, kidR1]; first | exact kidR_t (by assumption) (by omega) hv | exact kidR_f (by first | (left; assumption) | (right; omega))))
              | assumption
              | omega
              | (subst ho; simp (disch := omega) only [std, wI, tdiv2, tdivN, lenE] <;> first | done | rfl | omega))))
      | (refine .fin ?_; (conv => lhs; cbv); refine congrArg some ?_))
  | ((fail_if_success (refine .id ?_))
     first
      | (refine Nat.le_trans (Nat.add_le_add_left (len_valsO hO _ _ _) _) ?_; omega)
      | ((try clear iha); subst ho; refine congrArg (D.sl Tok.ro 6) (congrArg eFc ?_); unfold nodeS; simp [*, insAll_append, insAll_one, insAll_nil, insAll_cons, riseL]; done)
      | assumption
      | omega))
end Go.Mach
namespace Go.Mach
open Go Go.RowKit
theorem len_twoS {p : Pr} {old : List Fc} (hp : PrOk p) (ho : Old p old) (i c : Int) : (twoS p old i c).length ≤ 957000000 := by
 unfold twoS
 have h1 := len_callS hp ho i c
 have h2 := len_flow ho 0 (rN p.l i).f1 c 3 i c
 have h3 := len_flow ho 0 (rN p.l i).f2 c 4 i c
 have h4 := len_flatMap_le _ 2500 (fun v => len_set1 ho (rN p.l i).f2 c v) (vals old 0 (rN p.l i).f1 c)
 have h5 := len_valsO ho 0 (rN p.l i).f1 c
 have h6 : (vals old 0 (rN p.l i).f1 c).length * 2500 ≤ 2500 * 2500 := Nat.mul_le_mul_right _ h5
 have h7 : (seeL (rN p.l i).f2 c).length = 1 := rfl
 dsimp only; rw [List.length_append]
 (repeat' split) <;> (try simp only [List.length_append, List.length_nil, List.length_cons]) <;> omega
theorem len_oneS {p : Pr} {old : List Fc} (ho : Old p old) (i c : Int) : (oneS p old i c).length ≤ 20000000 := by
 unfold oneS
 have hf := fun a b d e => len_flow ho a b c d e c
 have h1 := hf 0 (rN p.l i).f1 1 i
 have h2 := hf 0 (rN p.l i).f2 0 i
 have h3 := hf 0 (rN p.l i).f3 0 i
 have h4 := hf 0 (rN p.l i).f1 5 i
 have h5 := hf 0 (rN p.l i).f1 0 i
 have hq := fun a b d e => len_parts ho (rN p.l i).f1 c a b d e
 have q1 := hq 4 3 1 i
 have q2 := hq 4 4 2 i
 have q3 := hq 3 3 0 i
 have q4 := hq 3 4 0 i
 have q5 := hq 5 5 0 i
 have h7 : ∀ a b, (seeL a b).length = 1 := fun _ _ => rfl
 have h8 := fun b => len_rise b i c
 have h9 := h8 (kindB old (rN p.l i).f1 c 0)
 dsimp only
 (repeat' split) <;> (try simp only [List.length_append, List.length_nil, List.length_cons, h7]) <;> omega
theorem len_nodeS {p : Pr} {old : List Fc} (hp : PrOk p) (ho : Old p old) (i c : Int) : (nodeS p old i c).length ≤ 960000000 := by
 unfold nodeS
 have h1 := len_twoS hp ho i c
 have h2 := len_oneS ho i c
 have h3 := len_flow ho (1 + (rB p.bind i).f1) (rB p.bind i).f0 c 0 i c
 have h4 := len_flow ho 0 (rN p.l i).f2 c 0 i c
 have h5 := len_rise (anyB old 7 (rN p.l i).f2 c) i c
 have h7 : ∀ a b, (seeL a b).length = 1 := fun _ _ => rfl
 have h8 := len_flatMap_le _ 1 (fun v => len_kidR1 old (rN p.l i).f0 i c v) (kidsM (rN p.l i)).zipIdx
 have h9 := len_kidsM (rN p.l i)
 have h10 := arityM_le (rN p.l i).f0
 have h11 : (kidRiseS old (rN p.l i) i c).length ≤ 3 := by
  unfold kidRiseS
  rw [List.length_zipIdx] at h8
  omega
 dsimp only
 (repeat' split) <;> (try simp only [List.length_append, List.length_nil, List.length_cons, h7]) <;> omega
theorem len_pass1S {p : Pr} {old : List Fc} (hp : PrOk p) (ho : Old p old) (f : Fc) : (pass1S p old f).length ≤ 960000000 := by
 unfold pass1S; split
 · exact len_nodeS hp ho _ _
 · simp
end Go.Mach
namespace Go.Mach
open Go Go.RowKit Go.Proofs
theorem spec_l17Pass.ans {xa xb : Option (List D → Option D)} (o : Std) (ho : o = std) (p_l : List Nd) (p_bind : List Bd) (p_outer : List (List Bd)) (p_depth : Int) (old : List Fc) (h0 : PrOk (⟨p_l, p_bind, p_outer, p_depth⟩ : Pr)) (h1 : Old (⟨p_l, p_bind, p_outer, p_depth⟩ : Pr) old) : Ans (env xa xb) 105 [.agg [rNd o p_l, rBd o p_bind, .sl .ro 1 (o.bx fun _ => eLBd p_outer), iX p_depth], rFc o old] (rFc o (passS (⟨p_l, p_bind, p_outer, p_depth⟩ : Pr) old)) := by
 refine Ans.mkA ho _ rfl rfl ?_
 have hP := h0; have hO := h1; have hu := h1.up; have hp := h1.pos; have hL := h1.len; have hL2 : old.length ≤ 2900000000000 := (by omega); have hpo := h0.outer; have hpb := h0.bind; dsimp only at hpo hpb
 repeat' (first
  | (refine .id ?_
     (try (conv => arg 2; cbv))
     first
      | (refine .indF (fun m_ s_ => ∃ (a5 : List Fc) (a6 : Int) (ta5 : Tok) (tk : List Nat), s_ = ⟨[Jk, rFc o old, .pbx (.loc 0) 0, Jk, Jk, .sl ta5 6 (o.bx fun _ => eFc a5), iX a6] ++ List.replicate 28 Jk, [[[rNd o p_l, rBd o p_bind, .sl .ro 1 (o.bx fun _ => eLBd p_outer), iX p_depth]]], [], tk⟩ ∧ (0 ≤ a6 ∧ a6 ≤ old.length ∧ a5 = insAll old ((old.take a6.toNat).flatMap (pass1S (⟨p_l, p_bind, p_outer, p_depth⟩ : Pr) old))) ∧ (old.length - a6).toNat ≤ m_) _ _ ⟨_, _, _, _, by subst ho; rfl, ?_, Nat.le_refl _⟩ ?_
         rotate_right
         rintro m_ _ ⟨a5, a6, ta5, tk, rfl, hIa, hka⟩ iha
         obtain ⟨i2, i3, i4⟩ := hIa; have hw := len_insAll old ((old.take a6.toNat).flatMap (pass1S (⟨p_l, p_bind, p_outer, p_depth⟩ : Pr) old)); rw [← i4] at hw; have hw2 := len_flatMap_le _ 960000000 (fun f => len_pass1S hP hO f) (old.take a6.toNat); have hw3 := List.length_take_le a6.toNat old; have hU := hu.adds i4.symm; refine .unloopA ho ?_
         repeat' (first
          | (refine .id ?_
             (try (conv => arg 2; cbv))
             first
              | (refine .test (fun hr => ?_) (fun hr => ?_) <;> (have hb := hr) <;> (try simp (disch := omega) only [ho, std, wI, lenE, nrm] at hb) <;> (try (exfalso; first | contradiction | omega | exact hb rfl)))
              | (refine .pE (β := List Fc) (rFc o) (as' := [.agg [rNd o _, rBd o _, .sl .ro 1 (o.bx fun _ => eLBd _), iX _], rFc o _, rFc o _, iX _, iX _]) (spec_l17Node.ans o ho _ _ _ _ _ _ _ _ ?_ ?_ ?_ ?_ ?_) ?_; rotate_left 5; rintro v hv)
              | (refine .fetchYFc ho ?_ ?_ (by with_reducible assumption) ?_)
              | (refine .fetchXFc ho ?_ ?_ (fun y hy => ?_); rotate_left 2; rcases y with ⟨yk, yn, yc, yvk, yvn, yvc⟩; (have hn := hO.node _ (rF_mem i2 (by omega) : rF old a6 ∈ old)); rw [hy] at hn; dsimp only at hn)
              | (refine .needD ho (by kernel_rfl) ?_)
              | (refine iha _ _ ?_ ⟨_, _, _, _, by subst ho; rfl, ?_, Nat.le_refl _⟩)
              | (refine .fin ?_; (conv => lhs; cbv); refine congrArg some ?_))
          | ((fail_if_success (refine .id ?_))
             first
              | (subst ho; exact ⟨Int.le_refl _, by omega, rfl⟩)
              | (subst ho; refine congrArg (D.sl Tok.ro 6) (congrArg eFc ?_); rw [i4, take_allG (by omega)]; rfl)
              | (simp (disch := omega) only [ho, std, wI]; refine ⟨by omega, by omega, ?_⟩; rw [flatMap_succ _ zF i2 (by omega), insAll_append, ← i4, show rdG zF old a6 = _ from hy, pass1S]; first | (rw [if_pos (by assumption)]; exact hv.symm) | (rw [if_neg (by assumption)]; rfl))
              | assumption
              | omega
              | (subst ho; simp (disch := omega) only [std, wI, tdiv2, tdivN, lenE] <;> first | done | rfl | omega)))))
  | ((fail_if_success (refine .id ?_))
     first
      | fail))
theorem spec_FactsOk.ans {xa xb : Option (List D → Option D)} (o : Std) (ho : o = std) (l : List Fc) (h0 : l.length ≤ 2900000000000) : Ans (env xa xb) 60 [rFc o l] (.bool (okF l)) := by
 refine Ans.mkA ho _ rfl rfl ?_
 repeat' (first
  | (refine .id ?_
     (try (conv => arg 2; cbv))
     first
      | (refine .indF (fun m_ s_ => ∃ (a3 : Int) (tk : List Nat), s_ = ⟨[rFc o l, Jk, Jk, iX a3] ++ List.replicate 20 Jk, [], [], tk⟩ ∧ (1 ≤ a3 ∧ (a3 ≤ l.length ∨ a3 = 1) ∧ (∀ j : Nat, 1 ≤ j → (j : Int) < a3 → ltF (l.getD (j - 1) zF) (l.getD j zF))) ∧ (l.length - a3).toNat ≤ m_) _ _ ⟨_, _, by subst ho; rfl, ?_, Nat.le_refl _⟩ ?_
         rotate_right
         rintro m_ _ ⟨a3, tk, rfl, hIa, hka⟩ iha
         obtain ⟨i1, i2, i3⟩ := hIa; refine .unloopA ho ?_
         repeat' (first
          | (refine .id ?_
             (try (conv => arg 2; cbv))
             first
              | (refine .test (fun hr => ?_) (fun hr => ?_) <;> (have hb := hr) <;> (try simp (disch := omega) only [ho, std, wI, lenE, nrm] at hb) <;> (try (exfalso; first | contradiction | omega | exact hb rfl)))
              | (refine .pE (β := Bool) .bool (as' := [.agg [iX _, iX _, iX _, iX _, iX _, iX _], .agg [iX _, iX _, iX _, iX _, iX _, iX _]]) (spec_FactLess.ans o ho _ _ _ _ _ _ _ _ _ _ _ _) ?_; rintro (_ | _) hv <;> (try simp only [dE] at hv) <;> (try first | contradiction | exact bX hv))
              | (refine .fetchXFc ho ?_ ?_ (fun y hy => ?_); rotate_left 2; rcases y with ⟨yk, yn, yc, yvk, yvn, yvc⟩)
              | (refine .needD ho (by kernel_rfl) ?_)
              | (refine iha _ _ ?_ ⟨_, _, by subst ho; rfl, ?_, Nat.le_refl _⟩)
              | (refine .fin ?_; (conv => lhs; cbv); refine congrArg some ?_))
          | ((fail_if_success (refine .id ?_))
             first
              | (subst ho; refine ⟨Int.le_refl 1, .inr rfl, fun j hj hk => absurd hk (by omega)⟩)
              | (subst ho; refine dB ?_; exact okF_end (by omega) i1 i3 (by simp [std, len_eFc]; omega))
              | (refine dB ?_; exact okF_no2 i1 (by omega) (by assumption) (by simp (disch := omega) only [ho, std, wI]) hy hv)
              | (simp (disch := omega) only [ho, std, wI]; refine ⟨by omega, .inl (by omega), okF_step2 i1 (by omega) i3 (by assumption) (by simp (disch := omega) only [ho, std, wI]) hy hv⟩)
              | assumption
              | omega
              | (subst ho; simp (disch := omega) only [std, wI, tdiv2, tdivN, lenE] <;> first | done | rfl | omega)))))
  | ((fail_if_success (refine .id ?_))
     first
      | fail))
theorem impl_FactsOk.ans {xa xb : Option (List D → Option D)} (o : Std) (ho : o = std) (l : List Fc) (h0 : l.length ≤ 2900000000000) : Ans (env xa xb) 129 [rFc o l] (.bool (okF l)) := by
 refine Ans.mkA ho _ rfl rfl ?_
 repeat' (first
  | (refine .id ?_
     (try (conv => arg 2; cbv))
     first
      | (refine .indF (fun m_ s_ => ∃ (a3 : Int) (tk : List Nat), s_ = ⟨[rFc o l, Jk, Jk, iX a3] ++ List.replicate 20 Jk, [], [], tk⟩ ∧ (1 ≤ a3 ∧ (a3 ≤ l.length ∨ a3 = 1) ∧ (∀ j : Nat, 1 ≤ j → (j : Int) < a3 → ltF (l.getD (j - 1) zF) (l.getD j zF))) ∧ (l.length - a3).toNat ≤ m_) _ _ ⟨_, _, by subst ho; rfl, ?_, Nat.le_refl _⟩ ?_
         rotate_right
         rintro m_ _ ⟨a3, tk, rfl, hIa, hka⟩ iha
         obtain ⟨i1, i2, i3⟩ := hIa; refine .unloopA ho ?_
         repeat' (first
          | (refine .id ?_
             (try (conv => arg 2; cbv))
             first
              | (refine .test (fun hr => ?_) (fun hr => ?_) <;> (have hb := hr) <;> (try simp (disch := omega) only [ho, std, wI, lenE, nrm] at hb) <;> (try (exfalso; first | contradiction | omega | exact hb rfl)))
              | (refine .pE (β := Bool) .bool (as' := [.agg [iX _, iX _, iX _, iX _, iX _, iX _], .agg [iX _, iX _, iX _, iX _, iX _, iX _]]) (impl_FactLess.ans o ho _ _ _ _ _ _ _ _ _ _ _ _) ?_; rintro (_ | _) hv <;> (try simp only [dE] at hv) <;> (try first | contradiction | exact bX hv))
              | (refine .fetchXFc ho ?_ ?_ (fun y hy => ?_); rotate_left 2; rcases y with ⟨yk, yn, yc, yvk, yvn, yvc⟩)
              | (refine .needD ho (by kernel_rfl) ?_)
              | (refine iha _ _ ?_ ⟨_, _, by subst ho; rfl, ?_, Nat.le_refl _⟩)
              | (refine .fin ?_; (conv => lhs; cbv); refine congrArg some ?_))
          | ((fail_if_success (refine .id ?_))
             first
              | (subst ho; refine ⟨Int.le_refl 1, .inr rfl, fun j hj hk => absurd hk (by omega)⟩)
              | (subst ho; refine dB ?_; exact okF_end (by omega) i1 i3 (by simp [std, len_eFc]; omega))
              | (refine dB ?_; exact okF_no2 i1 (by omega) (by assumption) (by simp (disch := omega) only [ho, std, wI]) hy hv)
              | (simp (disch := omega) only [ho, std, wI]; refine ⟨by omega, .inl (by omega), okF_step2 i1 (by omega) i3 (by assumption) (by simp (disch := omega) only [ho, std, wI]) hy hv⟩)
              | assumption
              | omega
              | (subst ho; simp (disch := omega) only [std, wI, tdiv2, tdivN, lenE] <;> first | done | rfl | omega)))))
  | ((fail_if_success (refine .id ?_))
     first
      | fail))
theorem spec_Seed.ans {xa xb : Option (List D → Option D)} (o : Std) (ho : o = std) (l : List Nd) (h0 : Sz l) (h1 : l.length ≤ 1048576) : Ans (env xa xb) 59 [rNd o l] (rFc o (seedR l)) := by
 refine Ans.mkA ho _ rfl rfl ?_
 repeat' (first
  | (refine .id ?_
     (try (conv => arg 2; cbv))
     first
      | refine .tN1 ho ?_
      | refine .tN0 ho ?_
      | (refine .pE (β := Bool) .bool (as' := [rNd o _]) (spec_NodesOk.ans o ho _ ?_ ?_) ?_; rotate_left 2; rintro (_ | _) hv <;> (try simp only [dE] at hv) <;> (try first | contradiction | exact bX hv))
      | (refine .fin ?_; (conv => lhs; cbv) <;> refine congrArg some ?_))
  | ((fail_if_success (refine .id ?_))
     first
      | (rw [seedR_no (by assumption)]; subst ho; rfl)
      | (rw [seedR_yes (by assumption)]; subst ho; simp (disch := omega) only [std, wI, len_eNd]; rfl)
      | assumption))
theorem spec_l17Of.ans {xa xb : Option (List D → Option D)} (o : Std) (ho : o = std) (l : List Nd) (fs : List Fc) (h0 : okM l = true) (h1 : fs = seedM l) : Ans (env xa xb) 103 [rNd o l, rFc o fs] (.bool (true)) := by
 refine Ans.mkA ho _ rfl rfl ?_
 have hs := (okM_iff.1 h0).size; have hfl : fs.length = 1 := (by rw [h1]; rfl)
 repeat' (first
  | (refine .id ?_
     (try (conv => arg 2; cbv))
     first
      | (refine .indF (fun m_ s_ => ∃ (a5 : Int) (tk : List Nat), s_ = ⟨[rNd o l, rFc o fs, Jk, Jk, Jk, iX a5] ++ List.replicate 70 Jk, [], [], tk⟩ ∧ (0 ≤ a5 ∧ a5 ≤ 1) ∧ (1 - a5).toNat ≤ m_) _ _ ⟨_, _, by subst ho; rfl, ?_, Nat.le_refl _⟩ ?_
         rotate_right
         rintro m_ _ ⟨a5, tk, rfl, hIa, hka⟩ iha
         obtain ⟨i1, i2⟩ := hIa; refine .unloopA ho ?_
         repeat' (first
          | (refine .id ?_
             (try (conv => arg 2; cbv))
             first
              | refine .testF ?_
              | refine .t1 ?_
              | refine .t0 ?_
              | refine .tN1 ho ?_
              | refine .tN0 ho ?_
              | (refine .test (fun hr => ?_) (fun hr => ?_) <;> (have hb := hr) <;> (try simp (disch := omega) only [ho, std, wI, lenE, nrm] at hb) <;> (try (exfalso; first | contradiction | omega | exact hb rfl)))
              | (refine .pE (β := Bool) .bool (as' := [iX _, iX _, iX _]) (spec_l1In.ans o ho _ _ _) ?_; rintro (_ | _) hv <;> (try simp only [dE] at hv) <;> (try first | contradiction | exact bX hv) <;> (try (exfalso; simp (disch := omega) only [ho, std, wI, len_eNd] at hv; omega)))
              | (refine .pE (β := Bool) .bool (as' := [rFc o _]) (spec_FactsOk.ans o ho _ ?_) ?_; rotate_left 1; rintro (_ | _) hv <;> (try simp only [dE] at hv) <;> (try first | contradiction | exact bX hv) <;> (try exact absurd (hv.symm.trans (by rw [h1, seed_ok])) Bool.false_ne_true))
              | (refine .fetchXFc ho ?_ ?_ (fun y hy => ?_); rotate_left 2; rcases y with ⟨yk, yn, yc, yvk, yvn, yvc⟩; have hsd := seed_at h1 i1 (by omega) hy)
              | (refine iha _ _ ?_ ⟨_, _, by subst ho; rfl, ?_, Nat.le_refl _⟩)
              | (refine .fin ?_; (conv => lhs; cbv) <;> refine congrArg some ?_))
          | ((fail_if_success (refine .id ?_))
             first
              | (simp (disch := omega) only [ho, std, wI]; exact ⟨by omega, by omega⟩)
              | assumption
              | omega
              | (subst ho; simp (disch := omega) only [std, wI, tdiv2, tdivN, lenE] <;> first | done | rfl | omega)))))
  | ((fail_if_success (refine .id ?_))
     first
      | fail))
theorem spec_l18Solve.ans {xa xb : Option (List D → Option D)} (o : Std) (ho : o = std) (l : List Nd) (dp : Int) (fs : List Fc) (h0 : Sz l) (h1 : l.length ≤ 1048576) (h2 : fs = seedR l) : AnsP (env xa xb) 58 [rNd o l, iX dp, rFc o fs] (fun d_ => ∃ (rq : List Fc × Bool) (nq : Int), d_ = .tup [rFc o (((rq.1, nq, rq.2)).1), iX ((rq.1, nq, rq.2)).2.1, .bool ((rq.1, nq, rq.2)).2.2] ∧ (rq = solveR l dp)) := by
 refine AnsP.mkA ho _ rfl rfl ?_
 repeat' (first
  | (refine .id ?_
     (try (conv => arg 2; cbv))
     first
      | refine .testT ?_
      | refine .t1 ?_
      | refine .t0 ?_
      | refine .tN1 ho ?_
      | refine .tN0 ho ?_
      | (refine .test (fun hr => ?_) (fun hr => ?_) <;> (have hb := hr) <;> (try simp (disch := omega) only [ho, std, wI, lenE, nrm] at hb) <;> (try (exfalso; first | contradiction | omega | exact hb rfl)))
      | (refine .pE (β := Bool) .bool (as' := [rNd o _, iX _]) (spec_FlowOk.ans o ho _ _ ?_ ?_) ?_; rotate_left 2; rintro (_ | _) hv <;> (try simp only [dE] at hv) <;> (try first | contradiction | exact bX hv) <;> (try have hst := solve_start hv; try have hC := flowB_clo hv; try have hk := okM_iff.2 hC.ok; try rw [seedR_yes hk] at h2))
      | (refine .pE (β := Bool) .bool (as' := [rNd o _, rFc o _]) (spec_l17Of.ans o ho _ _ ?_ ?_) ?_; rotate_left 2; rintro (_ | _) hv <;> (try simp only [dE] at hv) <;> (try first | contradiction | exact bX hv))
      | (refine .pE (β := Pr) (fun v => .agg ([rNd o v.l, rBd o v.bind, .sl .ro 1 (o.bx fun _ => eLBd v.outer), iX v.depth])) (as' := [rNd o _, iX _]) (spec_l17New.ans o ho _ _ ?_ ?_ ?_) ?_; rotate_left 3; rintro v hv; (obtain ⟨pr, ep⟩ : ∃ q, q = v := ⟨_, rfl⟩; subst ep; have hpr := hv))
      | (refine .indF (fun m_ s_ => ∃ (a2 : List Fc) (a10 : Int) (ta2 : Tok) (tk : List Nat), s_ = ⟨[Jk, Jk, .sl ta2 6 (o.bx fun _ => eFc a2), Jk, Jk, Jk, Jk, Jk, Jk, .pbx (.loc 0) 0, iX a10] ++ List.replicate 38 Jk, [[[rNd o pr.l, rBd o pr.bind, .sl .ro 1 (o.bx fun _ => eLBd pr.outer), iX pr.depth]]], [], tk⟩ ∧ (0 ≤ a10 ∧ a10 ≤ 400 ∧ Fit l a2 ∧ a2.length ≤ 2500 ∧ solveN l dp (400 - a10).toNat a2 = solveO l dp) ∧ (400 - a10).toNat ≤ m_) _ _ ⟨_, _, _, _, by subst ho; rfl, ?_, Nat.le_refl _⟩ ?_
         rotate_right
         rintro m_ _ ⟨a2, a10, ta2, tk, rfl, hIa, hka⟩ iha
         obtain ⟨i1, i2, i3, i4, i5⟩ := hIa; refine .unloopA ho ?_
         repeat' (first
          | (refine .id ?_
             (try (conv => arg 2; cbv))
             first
              | (refine .test (fun hr => ?_) (fun hr => ?_) <;> (have hb := hr) <;> (try simp (disch := omega) only [ho, std, wI, lenE, nrm] at hb) <;> (try (exfalso; first | contradiction | omega | exact hb rfl)))
              | (refine .pE (β := List Fc) (rFc o) (as' := [.agg [rNd o _, rBd o _, .sl .ro 1 (o.bx fun _ => eLBd _), iX _], rFc o _]) (spec_l17Pass.ans o ho _ _ _ _ _ ?_ ?_) ?_; rotate_left 2; rintro v hv; (have hpv : passM l dp a2 = v := (by rw [← hv, ← hpr]; rfl); have hFv : Fit l v := (by rw [← hpv]; exact passM_fit hC i3 dp)))
              | (refine .need ?_ ?_)
              | (refine .app1 ?_ (fun t' tk' hl' => ?_))
              | (refine iha _ _ ?_ ⟨_, _, _, _, by subst ho; rfl, ?_, Nat.le_refl _⟩)
              | (refine .fin ?_; refine ⟨_, by (conv => lhs; cbv) <;> rfl, ?_⟩))
          | ((fail_if_success (refine .id ?_))
             first
              | (exact Lv.cap _)
              | (exact ⟨Int.le_refl _, by omega, by rw [h2]; exact hst.1, by rw [h2]; exact hst.2.1, by rw [h2]; exact hst.2.2⟩)
              | (show PrOk pr; rw [← hpr]; exact prM_ok hC.ok dp)
              | (show Old pr a2; rw [← hpr]; exact i3.old i4 dp)
              | (exact ⟨([], false), _, by subst ho; rfl, (solveR_no (solve_many (by omega) i5 hpv (by omega))).symm⟩)
              | (exact ⟨(v, true), _, by subst ho; rfl, (solveR_yes (solve_same (by omega) i5 hpv (by omega) (by omega))).symm⟩)
              | (exact ⟨([], false), _, by subst ho; rfl, (solveR_no (solve_end (by omega) i5)).symm⟩)
              | (simp (disch := omega) only [ho, std, wI]; exact ⟨by omega, by omega, hFv, by omega, solve_next (by omega) i5 hpv (by omega) (by omega)⟩)
              | (subst ho; simp [std, lenE]; omega)
              | (subst ho; simp (disch := omega) only [std, wI, tdiv2, tdivN, lenE] <;> first | done | rfl | omega))))
      | (refine .fin ?_; refine ⟨_, by (conv => lhs; cbv) <;> rfl, ?_⟩))
  | ((fail_if_success (refine .id ?_))
     first
      | (exact ⟨([], false), _, by subst ho; rfl, (solveR_no (solveO_flow (by assumption))).symm⟩)
      | assumption))
theorem spec_FactHas.ans {xa xb : Option (List D → Option D)} (o : Std) (ho : o = std) (l : List Fc) (f_k : Int) (f_n : Int) (f_c : Int) (f_v_k : Int) (f_v_n : Int) (f_v_c : Int) (h0 : l.length ≤ 2900000000000) : Ans (env xa xb) 14 [rFc o l, .agg [iX f_k, iX f_n, iX f_c, iX f_v_k, iX f_v_n, iX f_v_c]] (.bool (okF l && decide ((⟨f_k, f_n, f_c, ⟨f_v_k, f_v_n, f_v_c⟩⟩ : Fc) ∈ l))) := by
 refine Ans.mkA ho _ rfl rfl ?_
 repeat' (first
  | (refine .id ?_
     (try (conv => arg 2; cbv))
     first
      | refine .t1 ?_
      | refine .t0 ?_
      | refine .tN1 ho ?_
      | refine .tN0 ho ?_
      | (refine .test (fun hr => ?_) (fun hr => ?_) <;> (have hb := hr) <;> (try simp (disch := omega) only [ho, std, wI, lenE, nrm] at hb) <;> (try (exfalso; first | contradiction | omega | exact hb rfl)))
      | (refine .pE (β := Bool) .bool (as' := [rFc o _]) (spec_FactsOk.ans o ho _ ?_) ?_; rotate_left 1; rintro (_ | _) hv <;> (try simp only [dE] at hv) <;> (try first | contradiction | exact bX hv) <;> (try have hu : Up l := (of_decide_eq_true hv).1))
      | (refine .pE (β := Int) (fun v => iX v) (as' := [rFc o _, .agg [iX _, iX _, iX _, iX _, iX _, iX _]]) (spec_l15Place.ans o ho _ _ _ _ _ _ _ ?_ ?_) ?_; rotate_left 2; rintro v hv)
      | (refine .fetchXFc ho ?_ ?_ (fun y hy => ?_); rotate_left 2; rcases y with ⟨yk, yn, yc, yvk, yvn, yvc⟩)
      | (refine .needD ho (by kernel_rfl) ?_)
      | (refine .fin ?_; (conv => lhs; cbv) <;> refine congrArg some ?_))
  | ((fail_if_success (refine .id ?_))
     first
      | (rw [show okF l = true by assumption]; subst ho; rw [Bool.true_and]; refine dBt ?_; simp only [std, Bool.and_eq_true, beq_iff_eq, and_true]; rw [has_iff hu hv (by assumption) hy]; simp only [Fc.mk.injEq, Ab.mk.injEq]; done)
      | (rw [show okF l = true by assumption, Bool.true_and]; refine (congrArg D.bool (decide_eq_false ?_)).symm; rw [mem_posF hu]; omega)
      | (rw [hv]; rfl)
      | assumption
      | omega))
theorem spec_Solve.ans {xa xb : Option (List D → Option D)} (o : Std) (ho : o = std) (l : List Nd) (dp : Int) (h0 : Sz l) (h1 : l.length ≤ 1048576) : Ans (env xa xb) 13 [rNd o l, iX dp] (.tup [rFc o ((solveR l dp).1), .bool (solveR l dp).2]) := by
 refine Ans.mkA ho _ rfl rfl ?_
 repeat' (first
  | (refine .id ?_
     (try (conv => arg 2; cbv))
     first
      | (refine .pE (β := List Fc) (rFc o) (as' := [rNd o _]) (spec_Seed.ans o ho _ ?_ ?_) ?_; rotate_left 2; rintro v hv)
      | (refine .pP (as' := [rNd o _, iX _, rFc o _]) (spec_l18Solve.ans o ho _ _ _ ?_ ?_ ?_) ?_; rotate_left 3; rintro _ ⟨rq, nq, rfl, hv⟩)
      | (refine .fin ?_; (conv => lhs; cbv) <;> refine congrArg some ?_))
  | ((fail_if_success (refine .id ?_))
     first
      | (rw [hv])
      | assumption))
end Go.Mach
