/- The program's Recursive returns what the reference's returns, for all arguments.: part 36 of a proof by an executable machine over the program's code. -/
import Derived.Test.YtljpfhpcbfpooaaGreatDoorL74
import Derived.WalkKit
import Derived.ProofKit
set_option linter.unusedVariables false
set_option linter.unusedSimpArgs false
set_option maxRecDepth 100000
set_option maxHeartbeats 6000000
namespace Go.Mach
open Go Go.RowKit Go.Proofs
theorem spec_Recursive.ans {xa xb : Option (List D → Option D)} (o : Std) (ho : o = std) (l : List Nd) (dp : Int) (h0 : Sz l) (h1 : l.length ≤ 1048576) : Ans (env xa xb) 39 [.sl .ro 7 (o.bx fun _ => eNd l), .int .i64 dp] (.sl .ro 1 (o.bx fun _ => eK .i64 (recM l dp))) := by
 refine Ans.mkA ho _ rfl rfl ?_
 have hll := lams_len l; have hful := funM_len l dp; have hfw := funM_few l dp
 repeat' (first
  | (refine Den.id ?_
     (try (conv => arg 2; cbv))
     first
      | (refine Den.pcallE (β := List Ed) (fun v => .sl .ro 2 (o.bx fun _ => eEd v)) (as' := [.sl .ro 7 (o.bx fun _ => eNd _), .int .i64 _]) (by first | with_reducible rfl | (subst ho; rfl)) (spec_FunGraph.ans o ho _ _ ?_ ?_) ?_; rotate_left 2; rintro v hv)
      | (refine Den.pcallE (β := List Int) (fun v => .sl .ro 1 (o.bx fun _ => eK .i64 v)) (as' := [.sl .ro 7 (o.bx fun _ => eNd _)]) (by first | with_reducible rfl | (subst ho; rfl)) (spec_LambdasOf.ans o ho _ ?_ ?_) ?_; rotate_left 2; rintro v hv)
      | (refine Den.indF (fun m_ s_ => ∃ (ea5 : Box) (a6 : List Ed) (a7 : List Int) (a8 : Int) (ta5 ta6 ta7 : Tok) (tk : List Nat), s_ = ⟨[.junk, .junk, .junk, .junk, .junk, .sl ta5 1 ea5, .sl ta6 2 (o.bx fun _ => eEd a6), .sl ta7 1 (o.bx fun _ => eK .i64 a7), .int .i64 a8] ++ List.replicate 31 .junk, [], [], tk⟩ ∧ Lv tk ta5 ea5.length ∧ ea5 = (o.bx fun _ => eK .i64 (((lamsM l).take a8.toNat).filter (recP l dp))) ∧ (a6 = funM l dp ∧ a7 = lamsM l ∧ 0 ≤ a8 ∧ a8 ≤ (lamsM l).length) ∧ ((lamsM l).length - a8).toNat ≤ m_) _ _ ⟨_, _, _, _, _, _, _, _, by subst ho; rfl, ?_, ?_, ?_, Nat.le_refl _⟩ ?_
         rotate_right
         rintro m_ _ ⟨ea5, a6, a7, a8, ta5, ta6, ta7, tk, rfl, hla0, rfl, hIa, hka⟩ iha
         obtain ⟨rfl, rfl, i1, i2⟩ := hIa; have hfl := filt_len (recP l dp) (lamsM l) a8.toNat; refine Den.unloopA ho ?_
         repeat' (first
          | (refine Den.id ?_
             (try (conv => arg 2; cbv))
             first
              | refine Den.testT ?_
              | refine Den.testF ?_
              | (refine Den.test (fun hr => ?_) (fun hr => ?_) <;> (have hb := hr) <;> (try simp (disch := omega) only [ho, std, wI, len_eK, len_eB, len_eNd, len_eLNd, len_eFc, len_eAb, len_eBd, len_eEd, len_eLBd, Int.ofNat_eq_natCast, Classical.not_not, decide_eq_true_eq, decide_eq_false_iff_not, beq_iff_eq, beq_eq_false_iff_ne, ne_eq, Bool.not_eq_true', Bool.not_eq_false', Bool.not_eq_true, Bool.not_eq_false, gt_iff_lt, ge_iff_le, Int.not_lt, Int.not_le] at hb) <;> (try (exfalso; first | contradiction | omega | exact hb rfl)))
              | (refine Den.pcallE (β := List Int) (fun v => .sl .ro 1 (o.bx fun _ => eK .i64 v)) (as' := [.sl .ro 2 (o.bx fun _ => eEd _), .int .i64 _]) (by first | with_reducible rfl | (subst ho; rfl)) (spec_Onward.ans o ho _ _ ?_ ?_) ?_; rotate_left 2; rintro v hv; (have hvo := hv; have hvl := onwM_few hfw y; rw [hvo] at hvl))
              | (refine Den.pcallE (β := Bool) (fun v => .bool v) (as' := [.sl .ro 1 (o.bx fun _ => eK .i64 _), .int .i64 _]) (by first | with_reducible rfl | (subst ho; rfl)) (spec_l4Has.ans o ho _ _ ?_) ?_; rotate_left 1; rintro (_ | _) hv <;> (try simp only [decide_eq_true_eq, decide_eq_false_iff_not] at hv) <;> (try first | contradiction | exact absurd (hv.symm.trans (show _ = false by assumption)) (by decide) | exact absurd (hv.symm.trans (show _ = true by assumption)) (by decide)))
              | (refine Den.fetchYK ho ?_ ?_ (by with_reducible assumption) ?_)
              | (refine Den.fetchXK ho ?_ ?_ (fun y hy => ?_); rotate_left 2; (first | (have _h := hyk) | (have hyk := hy)))
              | (refine Den.needD ho (by kernel_rfl) ?_)
              | (refine Den.need ?_ ?_)
              | (refine Den.app1 ?_ (fun t' tk' hl' => ?_))
              | (refine iha _ _ ?_ ⟨_, _, _, _, _, _, _, _, by subst ho; rfl, ?_, ?_, ?_, Nat.le_refl _⟩)
              | (refine Den.done ⟨by first | exact Or.inl rfl | exact Or.inr rfl, ?_⟩; (conv => lhs; cbv) <;> refine congrArg some ?_))
          | ((fail_if_success (refine Den.id ?_))
             first
              | (exact Lv.cap _)
              | (subst ho; exact hla0)
              | (exact hfw)
              | (subst ho; exact ⟨(by first | (symm; assumption) | rfl), (by first | (symm; assumption) | rfl), Int.le_refl _, by omega⟩)
              | (subst ho; simp (disch := omega) only [std, wI]; exact pushI (filt_yes i1 (by omega) hyk (rec_hit hvo (by assumption))))
              | (subst ho; simp (disch := omega) only [std, wI]; exact congrArg (eK .i64) (filt_no i1 (by omega) hyk (rec_no hvo (by assumption))).symm)
              | ((try clear iha); subst ho; simp (disch := omega) only [std, wI]; exact ⟨by trivial, by trivial, by omega, by omega⟩)
              | (refine congrArg (D.sl Tok.ro 1) ?_; subst ho; exact congrArg (eK .i64) (rec_all (by omega)))
              | assumption
              | omega
              | (subst ho; rfl)
              | (subst ho; simpa [std, len_eFc, len_eNd, len_eBd, len_eAb, len_eLBd, len_eK, len_eB] using hl')
              | (subst ho; simp [std, len_eFc, len_eNd, len_eBd, len_eAb, len_eLBd, len_eK, len_eB]; omega)
              | (subst ho; simp (disch := omega) only [std, wI, tdiv2, tdivN, len_eFc, len_eNd, len_eBd, len_eAb, len_eLBd, len_eK, len_eB] <;> first | done | rfl | omega)))))
  | ((fail_if_success (refine Den.id ?_))
     first
      | assumption))
noncomputable def impl_Recursive_rest.fi : FnI := { fni Tryz.f41 (fun | 4 => [5, 6, 13, 14, 15] | _ => []) false with body := dropC 1 (bodyOf Tryz.f41), nw := true }
theorem impl_Recursive_rest.part {xa xb : Option (List D → Option D)} (o : Std) (ho : o = std) (l : List Nd) (dp : Int) (h0 : Sz l) (h1 : l.length ≤ 1048576) : AnsI (env xa xb) impl_Recursive_rest.fi .ret (fun s => outD (env xa xb) impl_Recursive_rest.fi.nw s impl_Recursive_rest.fi.res) [.sl .ro 7 (o.bx fun _ => eNd l), .junk, .junk, .junk, .junk, .sl .ro 2 (o.bx fun _ => eEd (funM l dp))] (fun d_ tk_ => d_ = .sl .nw 1 (o.bx fun _ => eK .i64 (recM l dp)) ∧ (True)) := by
 refine AnsI.mkA ho (by rfl) ?_
 have hll := lams_len l; have hful := funM_len l dp; have hfw := funM_few l dp
 repeat' (first
  | (refine Den.id ?_
     (try (conv => arg 2; cbv))
     first
      | (refine Den.pcallE (β := List Int) (fun v => .sl .ro 1 (o.bx fun _ => eK .i64 v)) (as' := [.sl .ro 7 (o.bx fun _ => eNd _)]) (by first | with_reducible rfl | (subst ho; rfl)) (impl_LambdasOf.ans o ho _ ?_ ?_) ?_; rotate_left 2; rintro v hv)
      | (refine Den.indF (fun m_ s_ => ∃ (ea6 : Box) (a13 : List Int) (a14 : Int) (a15 : Int) (ta6 ta13 : Tok) (tk : List Nat), s_ = ⟨[.junk, .junk, .junk, .junk, .junk, .sl .ro 2 (o.bx fun _ => eEd (funM l dp)), .sl ta6 1 ea6, .junk, .junk, .junk, .junk, .junk, .junk, .sl ta13 1 (o.bx fun _ => eK .i64 a13), .int .i64 a14, .int .i64 a15] ++ List.replicate 14 .junk, [], [], tk⟩ ∧ Lw tk ta6 ea6.length ∧ ea6 = (o.bx fun _ => eK .i64 (((lamsM l).take a15.toNat).filter (recP l dp))) ∧ (a13 = lamsM l ∧ a14 = (lamsM l).length ∧ 0 ≤ a15 ∧ a15 ≤ (lamsM l).length) ∧ ((lamsM l).length - a15).toNat ≤ m_) _ _ ⟨_, _, _, _, _, _, _, by subst ho; rfl, ?_, ?_, ?_, Nat.le_refl _⟩ ?_
         rotate_right
         rintro m_ _ ⟨ea6, a13, a14, a15, ta6, ta13, tk, rfl, hla0, rfl, hIa, hka⟩ iha
         obtain ⟨rfl, i0, i1, i2⟩ := hIa; have hfl := filt_len (recP l dp) (lamsM l) a15.toNat; refine Den.unloopA ho ?_
         repeat' (first
          | (refine Den.id ?_
             (try (conv => arg 2; cbv))
             first
              | refine Den.testT ?_
              | refine Den.testF ?_
              | (refine Den.test (fun hr => ?_) (fun hr => ?_) <;> (have hb := hr) <;> (try simp (disch := omega) only [ho, std, wI, len_eK, len_eB, len_eNd, len_eLNd, len_eFc, len_eAb, len_eBd, len_eEd, len_eLBd, Int.ofNat_eq_natCast, Classical.not_not, decide_eq_true_eq, decide_eq_false_iff_not, beq_iff_eq, beq_eq_false_iff_ne, ne_eq, Bool.not_eq_true', Bool.not_eq_false', Bool.not_eq_true, Bool.not_eq_false, gt_iff_lt, ge_iff_le, Int.not_lt, Int.not_le] at hb) <;> (try (exfalso; first | contradiction | omega | exact hb rfl)))
              | (refine Den.pcallE (β := List Int) (fun v => .sl .nw 1 (o.bx fun _ => eK .i64 v)) (as' := [.sl .ro 2 (o.bx fun _ => eEd _), .int .i64 _]) (by first | with_reducible rfl | (subst ho; rfl)) (impl_Onward.ans o ho _ _ ?_ ?_) ?_; rotate_left 2; rintro v hv; (have hvo := hv; have hvl := onwM_few hfw y; rw [hvo] at hvl))
              | (refine Den.pcallE (β := Bool) (fun v => .bool v) (as' := [.sl .ro 1 (o.bx fun _ => eK .i64 _), .int .i64 _]) (by first | with_reducible rfl | (subst ho; rfl)) (impl_hasInt.ans o ho _ _ ?_) ?_; rotate_left 1; rintro (_ | _) hv <;> (try simp only [decide_eq_true_eq, decide_eq_false_iff_not] at hv) <;> (try first | contradiction | exact absurd (hv.symm.trans (show _ = false by assumption)) (by decide) | exact absurd (hv.symm.trans (show _ = true by assumption)) (by decide)))
              | (refine Den.fetchXK ho ?_ ?_ (fun y hy => ?_); rotate_left 2; (first | (have _h := hyk) | (have hyk := hy)))
              | (refine Den.need ?_ ?_)
              | (refine Den.app1w ?_ (fun t' tk' hl' => ?_))
              | (refine iha _ _ ?_ ⟨_, _, _, _, _, _, _, by subst ho; rfl, ?_, ?_, ?_, Nat.le_refl _⟩)
              | (refine Den.done ⟨rfl, ?_⟩; refine ⟨_, by (conv => lhs; cbv) <;> rfl, ?_⟩))
          | ((fail_if_success (refine Den.id ?_))
             first
              | (exact Lw.nil)
              | (subst ho; exact hla0)
              | (exact hfw)
              | (subst ho; exact ⟨(by first | (symm; assumption) | rfl), by rw [hv]; simp [std, len_eK], Int.le_refl _, by omega⟩)
              | (subst ho; simp (disch := omega) only [std, wI]; exact pushI (filt_yes i1 (by omega) hyk (rec_hit hvo (by assumption))))
              | (subst ho; simp (disch := omega) only [std, wI]; exact congrArg (eK .i64) (filt_no i1 (by omega) hyk (rec_no hvo (by assumption))).symm)
              | ((try clear iha); subst ho; simp (disch := omega) only [std, wI]; exact ⟨by trivial, i0, by omega, by omega⟩)
              | (subst ho; rcases Lw.kind hla0 with rfl | ⟨_, rfl⟩ <;> exact ⟨congrArg (D.sl _ 1) (congrArg (eK .i64) (rec_all (by omega))), trivial⟩)
              | assumption
              | omega
              | (subst ho; rfl)
              | (subst ho; simpa [std, len_eFc, len_eNd, len_eBd, len_eAb, len_eLBd, len_eK, len_eB] using hl')
              | (subst ho; simp [std, len_eFc, len_eNd, len_eBd, len_eAb, len_eLBd, len_eK, len_eB]; omega)
              | (subst ho; simp (disch := omega) only [std, wI, tdiv2, tdivN, len_eFc, len_eNd, len_eBd, len_eAb, len_eLBd, len_eK, len_eB] <;> first | done | rfl | omega)))))
  | ((fail_if_success (refine Den.id ?_))
     first
      | assumption))
theorem k7_impl {w : World} {lo hi : Nat} {v : Value} {a : List Nd} {dp : Int} (hz : SzL a) (hh : hi ≤ w.heap.size) (hv : Row lo hi w 7 (eNd a) v) :
  Calls Tryz.prog 41 #[v, .int .i64 dp] w fun e w' => ∃ v', e = .returned v' ∧ Row w.heap.size w'.heap.size w' 1 (eK .i64 (recM a dp)) v' ∧ Unf w' 1 (eK .i64 (recM a dp)) v' ∧ Stay w w' := by
 have e53 : ∀ args w, (callFunc 53 args).run Tryz.prog w = .ok (.enter 53 args) w := enters_of Tryz.func53 (by kernel_rfl) rfl
 have hn : Tryz.f41.ntmps = 30 := by kernel_rfl
 have hC := fungraph_calls (dp := dp) hz hh hv
 obtain ⟨x, c0, rfl⟩ := hv.shape
 refine calls_of_wp Tryz.func41 (c := bodyOf Tryz.f41) (by kernel_rfl) ?_
 simp only [hn, List.size_toArray, List.length_cons, List.length_nil, Nat.reduceAdd, Nat.reduceSub, Array.replicate_succ, Array.replicate_zero, List.push_toArray, List.append_toArray, List.nil_append, List.cons_append]
 have hb : bodyOf Tryz.f41 = .seq (headC 0 (bodyOf Tryz.f41)) (.seq (headC 1 (bodyOf Tryz.f41)) impl_Recursive_rest.fi.body) := by kernel_rfl
 rw [hb]
 obtain ⟨c, hc⟩ : ∃ c, c = impl_Recursive_rest.fi.body := ⟨_, rfl⟩
 rw [← hc]
 simp only [headC, bodyOf, Tryz.f41, Option.getD]
 go_wp2_with (go_at_fn 53; refine hC.mono ?_; rintro e w2 ⟨v1, rfl, hr2, hu2, hs2⟩)
 rw [hc]
 have hv2 := hv.stay hh hs2
 have hz2 := hs2.1.size
 have ha1 : Arg w2 (.sl .ro 7 (eNd a)) (.slice x (eNd a).length c0) := .row hv2 (Nat.le_trans hh hz2) (flt_eNd a)
 have ha2 : Arg w2 (.sl .ro 2 (eEd (funM a dp))) v1 := .row hr2 (Nat.le_refl _) (flt_eEd _)
 obtain ⟨_, σ1, r1, z1⟩ := ha1
 obtain ⟨_, σ2, r2, z2⟩ := ha2
 have q1 := r1.mono (σ' := fun b => max (σ1 b) (σ2 b)) (w' := w2) (fun b => Nat.le_max_left _ _) (fun _ _ _ => rfl)
 have q2 := r2.mono (σ' := fun b => max (σ1 b) (σ2 b)) (w' := w2) (fun b => Nat.le_max_right _ _) (fun _ _ _ => rfl)
 have hs : ∀ b, w2.heap.size ≤ b → max (σ1 b) (σ2 b) = 0 := fun b hb => by rw [z1 b hb, z2 b hb]; rfl
 refine wp_rest env_okA (.inr rfl) (impl_Recursive_rest.part std rfl a dp hz.sz (by have := hz.1; omega)) rfl (σ := fun b => max (σ1 b) (σ2 b)) rfl rfl ?_ hs ?_
 · intro i hi'
   match i, hi' with
   | 0, _ => exact .inr (.inl ⟨rfl, q1⟩)
   | 1, _ => exact .inl rfl
   | 2, _ => exact .inl rfl
   | 3, _ => exact .inl rfl
   | 4, _ => exact .inl rfl
   | 5, _ => exact .inr (.inl ⟨rfl, q2⟩)
 · rintro v' d tk σ' w'' ⟨rfl, _⟩ h1 h2 h3 h3d h4 h5
   refine ⟨v', rfl, (Row.of_rd h1 (flt_eK _) h5 (fun b o l c hv => (h2 b o l c hv).1)).wide hs2.1.size (Nat.le_refl _), fun b o l c hv j hj => ((h2 b o l c hv).2 j hj).2, hs2.trans ⟨h3, h3d⟩⟩
theorem k7_spec {w : World} {lo hi : Nat} {v : Value} {a : List Nd} {dp : Int} (hz : SzL a) (hh : hi ≤ w.heap.size) (hv : Row lo hi w 7 (eNd a) v) : Calls Tryz.prog 39 #[v, .int .i64 dp] w fun e w' => ∃ v', e = .returned v' ∧ Row 0 w'.heap.size w' 1 (eK .i64 (recM a dp)) v' ∧ Stay w w' :=
 row_calls env_okA (spec_Recursive.ans (xa := some gPass) (xb := some gFree) std rfl a dp hz.sz (by have := hz.1; omega)) (flt_eK _) rfl (args2 (.row hv hh (flt_eNd a)) .int)
theorem law7_calls {W : World} {a : List Nd} {dp : Int} {v : Value} (hB : Bg a) (h0 : Row 0 W.heap.size W 7 (eNd a) v) : Calls Tryz.prog 7 #[v, .int .i64 dp] W fun e w => e = .returned (.bool true) ∧ Below W.heap.size W w := by
 have hn : Tryz.f7.ntmps = 74 := by kernel_rfl
 have e38 : ∀ args w, (callFunc 38 args).run Tryz.prog w = .ok (.enter 38 args) w := enters_of Tryz.func38 (by kernel_rfl) rfl
 have e39 : ∀ args w, (callFunc 39 args).run Tryz.prog w = .ok (.enter 39 args) w := enters_of Tryz.func39 (by kernel_rfl) rfl
 have e40 : ∀ args w, (callFunc 40 args).run Tryz.prog w = .ok (.enter 40 args) w := enters_of Tryz.func40 (by kernel_rfl) rfl
 have e41 : ∀ args w, (callFunc 41 args).run Tryz.prog w = .ok (.enter 41 args) w := enters_of Tryz.func41 (by kernel_rfl) rfl
 have e42 : ∀ args w, (callFunc 42 args).run Tryz.prog w = .ok (.enter 42 args) w := enters_of Tryz.func42 (by kernel_rfl) rfl
 have e43 : ∀ args w, (callFunc 43 args).run Tryz.prog w = .ok (.enter 43 args) w := enters_of Tryz.func43 (by kernel_rfl) rfl
 have e44 : ∀ args w, (callFunc 44 args).run Tryz.prog w = .ok (.enter 44 args) w := enters_of Tryz.func44 (by kernel_rfl) rfl
 have e45 : ∀ args w, (callFunc 45 args).run Tryz.prog w = .ok (.enter 45 args) w := enters_of Tryz.func45 (by kernel_rfl) rfl
 have e46 : ∀ args w, (callFunc 46 args).run Tryz.prog w = .ok (.enter 46 args) w := enters_of Tryz.func46 (by kernel_rfl) rfl
 have t3 := Tryz.underlying3; have t4 := Tryz.underlying4
 go_enter Tryz.func7, hn
 go_wp2_with (go_at_fn 38; refine (k_sz hB h0 (Nat.le_refl _)).mono ?_; rintro e w1 ⟨r, rfl, hsz, s1⟩)
 · go_ret
   exact ⟨rfl, s1.1⟩
 have hz : SzL a := hsz (by omega)
 have hlen : (recM a dp).length ≤ 1048576 := Nat.le_trans (recM_len a dp) (by have := hz.1; omega)
 have b1 : Below W.heap.size W w1 := s1.1
 have h1 := h0.stay (Nat.le_refl _) s1
 go_wp2_with (go_at_fn 40; refine (k_to hz h1 b1.size).mono ?_; rintro e w2 ⟨u1, rfl, hu1, _, s2⟩)
 have h2 := h1.stay b1.size s2; have b2 := b1.trans (s2.1.mono b1.size)
 go_wp2_with (go_at_fn 39; refine (k7_spec hz (Nat.le_refl _) hu1).mono ?_; rintro e w3 ⟨u2, rfl, hw3, s3⟩)
 have h3 := h2.stay b2.size s3; have b3 := b2.trans (s3.1.mono b2.size)
 go_wp2_with (go_at_fn 40; refine (k_to hz h3 b3.size).mono ?_; rintro e w4 ⟨u3, rfl, hx4, ux4, s4⟩)
 have q4 := s4.1.size; have h4 := h3.stay b3.size s4; have b4 := b3.trans (s4.1.mono b3.size); have hw4 := hw3.stay (Nat.le_refl _) s4
 go_wp2_with (go_at_fn 41; refine (k7_impl hz (Nat.le_refl _) hx4).mono ?_; rintro e w5 ⟨u4, rfl, hg5, ug5, s5⟩)
 have q5 := s5.1.size; have h5 := h4.stay b4.size s5; have b5 := b4.trans (s5.1.mono b4.size); have hw5 := hw4.stay q4 s5; have hx5 := hx4.stay (Nat.le_refl _) s5; have ux5 := ux4.stay hx4 (Nat.le_refl _) s5
 go_wp2_with (go_at_fn 42; refine (k_eqI hlen hg5 (Nat.le_refl _) hw5 (by omega)).mono ?_; rintro e w6 ⟨rfl, s6⟩)
 have q6 := s6.1.size; have h6 := h5.stay b5.size s6; have b6 := b5.trans (s6.1.mono b5.size); have hw6 := hw5.stay (by omega) s6; have hx6 := hx5.stay q5 s6; have ux6 := ux5.stay hx5 q5 s6; have hg6 := hg5.stay (Nat.le_refl _) s6; have ug6 := ug5.stay hg5 (Nat.le_refl _) s6
 go_wp2_with (go_at_fn 40; refine (k_to hz h6 b6.size).mono ?_; rintro e w7 ⟨u5, rfl, hy7, _, s7⟩)
 have q7 := s7.1.size; have h7 := h6.stay b6.size s7; have b7 := b6.trans (s7.1.mono b6.size); have hw7 := hw6.stay (by omega) s7; have hx7 := hx6.stay (by omega) s7; have ux7 := ux6.stay hx6 (by omega) s7; have hg7 := hg6.stay (by omega) s7; have ug7 := ug6.stay hg6 (by omega) s7
 go_wp2_with (go_at_fn 43; refine (k_eqN hz hx7 (by omega) hy7 (Nat.le_refl _)).mono ?_; rintro e w8 ⟨rfl, s8⟩)
 have q8 := s8.1.size; have h8 := h7.stay b7.size s8; have b8 := b7.trans (s8.1.mono b7.size); have hw8 := hw7.stay (by omega) s8; have hx8 := hx7.stay (by omega) s8; have ux8 := ux7.stay hx7 (by omega) s8; have hg8 := hg7.stay (by omega) s8; have ug8 := ug7.stay hg7 (by omega) s8
 have b3s := b3.size; have b8s := b8.size
 go_wp2_with (go_at_fn 44; refine (k_markN hz hx8 ux8 (by omega)).mono ?_; rintro e w9 ⟨k1, rfl, hk1, m9⟩)
 have q9 := m9.2.2.2.1; have h9 := h8.mark b8s m9 (.inl b3s); have b9 := b8.trans (m9.below b3s b8s); have hw9 := hw8.mark (by omega) m9 (.inl (Nat.le_refl _)); have hg9 := hg8.mark (by omega) m9 (.inr (Nat.le_refl _)); have ug9 := ug8.mark hg8 (by omega) m9 (.inr (Nat.le_refl _))
 have hk1n : ¬ k1 < 0 := by omega
 have hk1d : decide (k1 < 0) = false := decide_eq_false hk1n
 go_wp2_with (go_at_fn 42; refine (k_eqI hlen hg9 (by omega) hw9 (by omega)).mono ?_; rintro e w10 ⟨rfl, s10⟩)
 have q10 := s10.1.size; have h10 := h9.stay b9.size s10; have b10 := b9.trans (s10.1.mono b9.size); have hw10 := hw9.stay (by omega) s10; have hg10 := hg9.stay (by omega) s10; have ug10 := ug9.stay hg9 (by omega) s10; have b10s := b10.size
 go_wp2_with (go_at_fn 45; refine (k_markI hlen hg10 ug10 (by omega)).mono ?_; rintro e w11 ⟨k2, rfl, hk2, hg11, m11⟩)
 have q11 := m11.2.2.2.1; have h11 := h10.mark b10s m11 (.inl (by omega)); have b11 := b10.trans (m11.below (by omega) b10s); have hw11 := hw10.mark (by omega) m11 (.inl (by omega))
 have hk2n : ¬ k2 < 0 := by omega
 have hk2d : decide (k2 < 0) = false := decide_eq_false hk2n
 go_wp2_with (go_at_fn 46; refine (k_heldI hlen hg11 (by omega)).mono ?_; rintro e w12 ⟨k3, rfl, hk3, s12⟩)
 obtain rfl : k3 = k2 := hk3.trans hk2.symm
 have q12 := s12.1.size; have h12 := h11.stay b11.size s12; have b12 := b11.trans (s12.1.mono b11.size); have hw12 := hw11.stay (by omega) s12; have hg12 := hg11.stay (by omega) s12
 go_wp2_with (go_at_fn 40; refine (k_to hz h12 b12.size).mono ?_; rintro e w13 ⟨u6, rfl, hu13, _, s13⟩)
 have q13 := s13.1.size; have b13 := b12.trans (s13.1.mono b12.size); have hw13 := hw12.stay (by omega) s13; have hg13 := hg12.stay (by omega) s13
 go_wp2_with (go_at_fn 41; refine (k7_impl hz (Nat.le_refl _) hu13).mono ?_; rintro e w14 ⟨u7, rfl, hh14, _, s14⟩)
 have q14 := s14.1.size; have b14 := b13.trans (s14.1.mono b13.size); have hw14 := hw13.stay (by omega) s14; have hg14 := hg13.stay (by omega) s14
 go_wp2_with (go_at_fn 42; refine (k_eqI hlen hh14 (Nat.le_refl _) hw14 (by omega)).mono ?_; rintro e w15 ⟨rfl, s15⟩)
 have q15 := s15.1.size; have b15 := b14.trans (s15.1.mono b14.size); have hg15 := hg14.stay (by omega) s15
 go_wp2_with (go_at_fn 46; refine (k_heldI hlen hg15 (by omega)).mono ?_; rintro e w16 ⟨k4, rfl, hk4, s16⟩)
 obtain rfl : k4 = k3 := hk4.trans hk2.symm
 have b16 := b15.trans (s16.1.mono b15.size)
 go_ret
 exact ⟨rfl, b16⟩
end Go.Mach
