/- What the statements share: part 19 of a proof by an executable machine over the program's code. -/
import Derived.Test.YtbkpkchegopmiaaGreatDoorMc17
import Derived.Test.YtbkpkchegopmiaaGreatDoorMc18
set_option linter.unusedVariables false
set_option linter.unusedSimpArgs false
set_option maxRecDepth 100000
set_option maxHeartbeats 6000000
namespace Go.Mach
open Go Go.RowKit Go.Proofs
theorem spec_l17Flow.ans {xa xb : Option (List D → Option D)} (o : Std) (ho : o = std) (out : List Fc) (old : List Fc) (fk : Int) (fn : Int) (fc : Int) (pk : Int) (pn : Int) (pc : Int) (h0 : Up out) (h1 : Up old) (h2 : ∀ f ∈ old, 0 ≤ f.v.k) (h3 : old.length ≤ 2900000000000) (h4 : out.length + (vals old fk fn fc).length ≤ 2900000000000) : Ans (env xa xb) 135 [rFc o out, rFc o old, iX fk, iX fn, iX fc, iX pk, iX pn, iX pc] (rFc o (insAll out (flowL old fk fn fc pk pn pc))) := by
 refine Ans.mkA ho _ rfl rfl ?_
 repeat' (first
  | (refine .id ?_
     (try (conv => arg 2; cbv))
     first
      | (refine .pE (β := List Ab) (rAb o) (as' := [rFc o _, iX _, iX _, iX _]) (spec_l15At.ans o ho _ _ _ _ ?_ ?_ ?_) ?_; rotate_left 3; rintro v hv)
      | (refine .indF (fun m_ s_ => ∃ (a0 : List Fc) (a17 : List Ab) (a18 : Int) (ta0 ta17 : Tok) (tk : List Nat), s_ = ⟨[.sl ta0 6 (o.bx fun _ => eFc a0), Jk, Jk, Jk, Jk, iX pk, iX pn, iX pc, Jk, Jk, Jk, Jk, Jk, Jk, Jk, Jk, Jk, .sl ta17 3 (o.bx fun _ => eAb a17), iX a18] ++ List.replicate 22 Jk, [], [], tk⟩ ∧ (a17 = vals old fk fn fc ∧ 0 ≤ a18 ∧ a18 ≤ a17.length ∧ a0 = insAll out (mapF (a17.take a18.toNat) pk pn pc)) ∧ (a17.length - a18).toNat ≤ m_) _ _ ⟨_, _, _, _, _, _, by subst ho; rfl, ?_, Nat.le_refl _⟩ ?_
         rotate_right
         rintro m_ _ ⟨a0, a17, a18, ta0, ta17, tk, rfl, hIa, hka⟩ iha
         obtain ⟨i1, i2, i3, i4⟩ := hIa; have hw := len_insAll out (mapF (a17.take a18.toNat) pk pn pc); rw [← i4, len_mapF] at hw; have hx := List.length_take_le a18.toNat a17; rw [← i1] at h4; refine .unloopA ho ?_
         repeat' (first
          | (refine .id ?_
             (try (conv => arg 2; cbv))
             first
              | (refine .test (fun hr => ?_) (fun hr => ?_) <;> (have hb := hr) <;> (try simp (disch := omega) only [ho, std, wI, lenE, nrm] at hb) <;> (try (exfalso; first | contradiction | omega | exact hb rfl)))
              | (refine .pE (β := List Fc) (rFc o) (as' := [rFc o _, .agg [iX _, iX _, iX _, iX _, iX _, iX _]]) (spec_l15Add.ans o ho _ _ _ _ _ _ _ ?_ ?_) ?_; rotate_left 2; rintro v hv)
              | (refine .fetchXAb ho ?_ ?_ (fun y hy => ?_); rotate_left 2; rcases y with ⟨yk, yn, yc⟩)
              | (refine iha _ _ ?_ ⟨_, _, _, _, _, _, by subst ho; rfl, ?_, Nat.le_refl _⟩)
              | (refine .fin ?_; (conv => lhs; cbv); refine congrArg some ?_))
          | ((fail_if_success (refine .id ?_))
             first
              | (rw [i4]; exact h0.insAll _)
              | (subst ho; refine congrArg (D.sl Tok.ro 6) (congrArg eFc ?_); rw [i4, take_allG (by omega), i1]; rfl)
              | (subst hv; subst ho; exact ⟨rfl, by omega, by simp [std], by simp [mapF, insAll]⟩)
              | (subst ho; refine ⟨i1, ?_, ?_, ?_⟩ <;> simp (disch := omega) only [std, wI] <;> first | omega | (rw [mapF_succ i2 (by omega), insAll_append, ← i4, ← hv, hy]; rfl))
              | assumption
              | omega
              | (subst ho; simp (disch := omega) only [std, wI, tdiv2, tdivN, lenE] <;> first | done | rfl | omega)))))
  | ((fail_if_success (refine .id ?_))
     first
      | assumption))
theorem spec_l17Has.ans {xa xb : Option (List D → Option D)} (o : Std) (ho : o = std) (l : List Fc) (n : Int) (c : Int) (h0 : Up l) (h1 : ∀ f ∈ l, 0 ≤ f.v.k) (h2 : l.length ≤ 2900000000000) : Ans (env xa xb) 175 [rFc o l, iX n, iX c] (.bool (anyB l 0 n c)) := by
 refine Ans.mkA ho _ rfl rfl ?_
 repeat' (first
  | (refine .id ?_
     (try (conv => arg 2; cbv))
     first
      | (refine .pE (β := List Ab) (rAb o) (as' := [rFc o _, iX _, iX _, iX _]) (spec_l15At.ans o ho _ _ _ _ ?_ ?_ ?_) ?_; rotate_left 3; rintro v hv)
      | (refine .fin ?_; (conv => lhs; cbv); refine congrArg some ?_))
  | ((fail_if_success (refine .id ?_))
     first
      | (subst ho; refine dB ?_; subst hv; exact (anyB_iff (by simp [std, len_eAb])).symm)
      | assumption))
theorem spec_l17Raises.ans {xa xb : Option (List D → Option D)} (o : Std) (ho : o = std) (l : List Fc) (n : Int) (c : Int) (h0 : Up l) (h1 : ∀ f ∈ l, 0 ≤ f.v.k) (h2 : l.length ≤ 2900000000000) : Ans (env xa xb) 139 [rFc o l, iX n, iX c] (.bool (anyB l 7 n c)) := by
 refine Ans.mkA ho _ rfl rfl ?_
 repeat' (first
  | (refine .id ?_
     (try (conv => arg 2; cbv))
     first
      | (refine .pE (β := List Ab) (rAb o) (as' := [rFc o _, iX _, iX _, iX _]) (spec_l15At.ans o ho _ _ _ _ ?_ ?_ ?_) ?_; rotate_left 3; rintro v hv)
      | (refine .fin ?_; (conv => lhs; cbv); refine congrArg some ?_))
  | ((fail_if_success (refine .id ?_))
     first
      | (subst ho; refine dB ?_; subst hv; exact (anyB_iff (by simp [std, len_eAb])).symm)
      | assumption))
theorem spec_l17Kind.ans {xa xb : Option (List D → Option D)} (o : Std) (ho : o = std) (l : List Fc) (n : Int) (c : Int) (kd : Int) (h0 : Up l) (h1 : ∀ f ∈ l, 0 ≤ f.v.k) (h2 : l.length ≤ 2900000000000) : Ans (env xa xb) 177 [rFc o l, iX n, iX c, iX kd] (.bool (kindB l n c kd)) := by
 refine Ans.mkA ho _ rfl rfl ?_
 repeat' (first
  | (refine .id ?_
     (try (conv => arg 2; cbv))
     first
      | (refine .pE (β := List Ab) (rAb o) (as' := [rFc o _, iX _, iX _, iX _]) (spec_l15At.ans o ho _ _ _ _ ?_ ?_ ?_) ?_; rotate_left 3; rintro v hv)
      | (refine .indF (fun m_ s_ => ∃ (a9 : List Ab) (a10 : Int) (ta9 : Tok) (tk : List Nat), s_ = ⟨[Jk, Jk, Jk, iX kd, Jk, Jk, Jk, Jk, Jk, .sl ta9 3 (o.bx fun _ => eAb a9), iX a10] ++ List.replicate 17 Jk, [], [], tk⟩ ∧ (a9 = vals l 0 n c ∧ 0 ≤ a10 ∧ a10 ≤ a9.length ∧ (a9.take a10.toNat).any (fun v => v.k == kd) = false) ∧ (a9.length - a10).toNat ≤ m_) _ _ ⟨_, _, _, _, by subst ho; rfl, ?_, Nat.le_refl _⟩ ?_
         rotate_right
         rintro m_ _ ⟨a9, a10, ta9, tk, rfl, hIa, hka⟩ iha
         obtain ⟨i1, i2, i3, i4⟩ := hIa; have hz := len_vals l 0 n c; rw [← i1] at hz; refine .unloopA ho ?_
         repeat' (first
          | (refine .id ?_
             (try (conv => arg 2; cbv))
             first
              | (refine .test (fun hr => ?_) (fun hr => ?_) <;> (have hb := hr) <;> (try simp (disch := omega) only [ho, std, wI, lenE, nrm] at hb) <;> (try (exfalso; first | contradiction | omega | exact hb rfl)))
              | (refine .fetchXAb ho ?_ ?_ (fun y hy => ?_); rotate_left 2; rcases y with ⟨yk, yn, yc⟩)
              | (refine iha _ _ ?_ ⟨_, _, _, _, by subst ho; rfl, ?_, Nat.le_refl _⟩)
              | (refine .fin ?_; (conv => lhs; cbv); refine congrArg some ?_))
          | ((fail_if_success (refine .id ?_))
             first
              | (refine dB ?_; subst ho; unfold kindB; rw [← i1]; exact (List.any_eq_true.2 ⟨rA a9 a10, rdG_mem i2 (by omega), by rw [hy]; simpa using hb⟩).symm)
              | (refine dB ?_; unfold kindB; rw [← i1, ← take_allG (l := a9) (i := a10) (by omega), i4])
              | (subst hv; subst ho; exact ⟨rfl, by omega, by simp [std], by simp⟩)
              | (subst ho; refine ⟨i1, ?_, ?_, ?_⟩ <;> simp (disch := omega) only [std, wI] <;> first | omega | (rw [take_succG zA i2 (by omega), List.any_append, i4, show rdG zA a9 a10 = _ from hy]; simpa using hb))
              | assumption
              | (subst ho; simp (disch := omega) only [std, wI, tdiv2, tdivN, lenE] <;> first | done | rfl | omega)))))
  | ((fail_if_success (refine .id ?_))
     first
      | assumption))
theorem spec_l17Parts.ans {xa xb : Option (List D → Option D)} (o : Std) (ho : o = std) (p_l : List Nd) (p_bind : List Bd) (p_outer : List (List Bd)) (p_depth : Int) (out : List Fc) (old : List Fc) (kid : Int) (c : Int) (kd : Int) (part : Int) (pk : Int) (pn : Int) (h0 : Up out) (h1 : Up old) (h2 : ∀ f ∈ old, 0 ≤ f.v.k) (h3 : old.length ≤ 2900000000000) (h4 : out.length + (partsL old kid c kd part pk pn).length ≤ 2900000000000) : Ans (env xa xb) 178 [.agg [rNd o p_l, rBd o p_bind, .sl .ro 1 (o.bx fun _ => eLBd p_outer), iX p_depth], rFc o out, rFc o old, iX kid, iX c, iX kd, iX part, iX pk, iX pn] (rFc o (insAll out (partsL old kid c kd part pk pn))) := by
 refine Ans.mkA ho _ rfl rfl ?_
 repeat' (first
  | (refine .id ?_
     (try (conv => arg 2; cbv))
     first
      | (refine .pE (β := List Ab) (rAb o) (as' := [rFc o _, iX _, iX _, iX _]) (spec_l15At.ans o ho _ _ _ _ ?_ ?_ ?_) ?_; rotate_left 3; rintro v hv)
      | (refine .indF (fun m_ s_ => ∃ (a1 : List Fc) (a19 : List Ab) (a20 : Int) (ta1 ta19 : Tok) (tk : List Nat), s_ = ⟨[Jk, .sl ta1 6 (o.bx fun _ => eFc a1), rFc o old, Jk, iX c, iX kd, iX part, iX pk, iX pn, Jk, Jk, Jk, Jk, Jk, Jk, Jk, Jk, Jk, Jk, .sl ta19 3 (o.bx fun _ => eAb a19), iX a20] ++ List.replicate 35 Jk, [[[rNd o p_l, rBd o p_bind, .sl .ro 1 (o.bx fun _ => eLBd p_outer), iX p_depth]]], [], tk⟩ ∧ (a19 = vals old 0 kid c ∧ 0 ≤ a20 ∧ a20 ≤ a19.length ∧ a1 = insAll out ((a19.take a20.toNat).flatMap (part1 old c kd part pk pn))) ∧ (a19.length - a20).toNat ≤ m_) _ _ ⟨_, _, _, _, _, _, by subst ho; rfl, ?_, Nat.le_refl _⟩ ?_
         rotate_right
         rintro m_ _ ⟨a1, a19, a20, ta1, ta19, tk, rfl, hIa, hka⟩ iha
         obtain ⟨i1, i2, i3, i4⟩ := hIa; have hz := len_vals old 0 kid c; rw [← i1] at hz; have hw := len_insAll out ((a19.take a20.toNat).flatMap (part1 old c kd part pk pn)); rw [← i4] at hw; rw [partsL, ← i1] at h4; refine .unloopA ho ?_
         repeat' (first
          | (refine .id ?_
             (try (conv => arg 2; cbv))
             first
              | (refine .test (fun hr => ?_) (fun hr => ?_) <;> (have hb := hr) <;> (try simp (disch := omega) only [ho, std, wI, lenE, nrm] at hb) <;> (try (exfalso; first | contradiction | omega | exact hb rfl)))
              | (refine .pE (β := List Fc) (rFc o) (as' := [rFc o _, rFc o _, iX _, iX _, iX _, iX _, iX _, iX _]) (spec_l17Flow.ans o ho _ _ _ _ _ _ _ _ ?_ ?_ ?_ ?_ ?_) ?_; rotate_left 5; rintro v hv)
              | (refine .fetchYAb ho ?_ ?_ (by with_reducible assumption) ?_)
              | (refine .fetchXAb ho ?_ ?_ (fun y hy => ?_); rotate_left 2; rcases y with ⟨yk, yn, yc⟩)
              | (refine .needD ho (by kernel_rfl) ?_)
              | (refine iha _ _ ?_ ⟨_, _, _, _, _, _, by subst ho; rfl, ?_, Nat.le_refl _⟩)
              | (refine .fin ?_; (conv => lhs; cbv); refine congrArg some ?_))
          | ((fail_if_success (refine .id ?_))
             first
              | (rw [i4]; exact h0.insAll _)
              | (have e := len_flatMap_succ (part1 old c kd part pk pn) zA i2 (show a20 < a19.length by omega); rw [show rdG zA a19 a20 = _ from hy, part1, if_pos hb, len_flowL] at e; dsimp only at e; omega)
              | (subst ho; refine congrArg (D.sl Tok.ro 6) (congrArg eFc ?_); rw [i4, take_allG (by omega), i1]; rfl)
              | (subst hv; subst ho; exact ⟨rfl, by omega, by simp [std], by simp [insAll]⟩)
              | (subst ho; refine ⟨i1, ?_, ?_, ?_⟩ <;> simp (disch := omega) only [std, wI] <;> first | omega | (rw [flatMap_succ _ zA i2 (by omega), insAll_append, ← i4, show rdG zA a19 a20 = _ from hy, part1, if_pos hb]; exact hv.symm) | (rw [flatMap_succ _ zA i2 (by omega), insAll_append, ← i4, show rdG zA a19 a20 = _ from hy, part1, if_neg hb]; rfl))
              | assumption
              | (subst ho; simp (disch := omega) only [std, wI, tdiv2, tdivN, lenE] <;> first | done | rfl | omega)))))
  | ((fail_if_success (refine .id ?_))
     first
      | assumption))
theorem spec_Arity.ans {xa xb : Option (List D → Option D)} (o : Std) (ho : o = std) (k : Int) : Ans (env xa xb) 148 [iX k] (iX (((arityM k : Nat) : Int))) := by
 refine Ans.mkA ho _ rfl rfl ?_
 repeat' (first
  | (refine .id ?_
     (try (conv => arg 2; cbv))
     first
      | refine .t1 ?_
      | (refine .test (fun hr => ?_) (fun hr => ?_) <;> (have hb := hr) <;> (try simp (disch := omega) only [ho, std, wI, lenE, nrm] at hb) <;> (try (exfalso; first | contradiction | omega | exact hb rfl)))
      | (refine .fin ?_; (conv => lhs; cbv); refine congrArg some ?_))
  | ((fail_if_success (refine .id ?_))
     first
      | (subst ho; refine dI ?_; simp [arityM, *]; done)))
theorem spec_Kids.ans {xa xb : Option (List D → Option D)} (o : Std) (ho : o = std) (n_f0 : Int) (n_f1 : Int) (n_f2 : Int) (n_f3 : Int) (n_f4 : Int) (n_f5 : ByteArray) (n_f6 : ByteArray) : Ans (env xa xb) 120 [.agg [iX n_f0, iX n_f1, iX n_f2, iX n_f3, iX n_f4, .str n_f5, .str n_f6]] (rK o (kidsM (⟨n_f0, n_f1, n_f2, n_f3, n_f4, n_f5, n_f6⟩ : Nd))) := by
 refine Ans.mkA ho _ rfl rfl ?_
 have har := arityM_le n_f0
 repeat' (first
  | (refine .id ?_
     (try (conv => arg 2; cbv))
     first
      | (refine .pE (β := Int) (fun v => iX v) (as' := [iX _]) (spec_Arity.ans o ho _) ?_; rintro v hv)
      | (refine .needD ho (by kernel_rfl) ?_)
      | (refine .need ?_ ?_)
      | (refine .fin ?_; (conv => lhs; cbv); refine congrArg some ?_))
  | ((fail_if_success (refine .id ?_))
     first
      | (subst ho; refine congrArg (D.sl Tok.ro 1) ?_; subst hv; simp [std, kidsM, eK, List.map_take]; done)
      | (subst ho; simp [std, lenE]; omega)))
theorem spec_l3Fields.ans {xa xb : Option (List D → Option D)} (o : Std) (ho : o = std) (n_f0 : Int) (n_f1 : Int) (n_f2 : Int) (n_f3 : Int) (n_f4 : Int) (n_f5 : ByteArray) (n_f6 : ByteArray) (h0 : n_f5.size ≤ 1048576 ∧ n_f6.size ≤ 1048576) : Ans (env xa xb) 142 [.agg [iX n_f0, iX n_f1, iX n_f2, iX n_f3, iX n_f4, .str n_f5, .str n_f6]] (.bool (fldB (⟨n_f0, n_f1, n_f2, n_f3, n_f4, n_f5, n_f6⟩ : Nd))) := by
 refine Ans.mkA ho _ rfl rfl ?_
 have har := arityM_le n_f0
 repeat' (first
  | (refine .id ?_
     (try (conv => arg 2; cbv))
     first
      | refine .testT ?_
      | refine .testF ?_
      | refine .t1 ?_
      | refine .t0 ?_
      | refine .tN1 ho ?_
      | refine .tN0 ho ?_
      | (refine .test (fun hr => ?_) (fun hr => ?_) <;> (have hb := hr) <;> (try simp (disch := omega) only [ho, std, wI, lenE, nrm] at hb) <;> (try (exfalso; first | contradiction | omega | exact hb rfl)))
      | (refine .pE (β := Bool) .bool (as' := [iX _, iX _, iX _]) (spec_l1In.ans o ho _ _ _) ?_; rintro (_ | _) hv <;> (try simp only [dE] at hv) <;> (try first | contradiction | exact bX hv))
      | (refine .pE (β := Int) (fun v => iX v) (as' := [iX _]) (spec_Arity.ans o ho _) ?_; rintro v hv)
      | (refine .pE (β := Int) (fun v => iX v) (as' := [iX _]) (spec_l3Names.ans o ho _) ?_; rintro v hv)
      | (refine .pE (β := Bool) .bool (as' := [.str _]) (spec_l3Name.ans o ho _ ?_) ?_; rotate_left 1; rintro (_ | _) hv <;> (try simp only [dE] at hv) <;> (try first | contradiction | exact bX hv))
      | (refine .fin ?_; (conv => lhs; cbv); refine congrArg some ?_))
  | ((fail_if_success (refine .id ?_))
     first
      | (refine dB ?_; exact fld_no1 (by assumption))
      | (refine dB (fld_no4 fun hq => ?_); dsimp only at hq; omega)
      | (refine dB ?_; first | exact fld_no2 (nfit_1 (by dsimp only; omega) (by assumption)) | exact fld_no2 (nfit_0n (by dsimp only; omega) (by assumption)) | exact fld_no2 (nfit_0f (by dsimp only; omega) (by assumption)))
      | (refine dB ?_; first | exact fld_no3 (nfit_1 (by dsimp only; omega) (by assumption)) | exact fld_no3 (nfit_0n (by dsimp only; omega) (by assumption)) | exact fld_no3 (nfit_0f (by dsimp only; omega) (by assumption)))
      | (refine dB (fld_end (by assumption) (by first | exact nfit_1 (by dsimp only; omega) (by assumption) | exact nfit_0t (by dsimp only; omega) (by assumption)) (by first | exact nfit_1 (by dsimp only; omega) (by assumption) | exact nfit_0t (by dsimp only; omega) (by assumption)) (by dsimp only; omega) ?_); first | exact numB_2t (by assumption) (by assumption) | exact numB_2f (by assumption) (by assumption) | exact numB_8t (by assumption) (by assumption) | exact numB_8f (by assumption) (by assumption) | (subst ho; exact numB_0 (by assumption) (by assumption) rfl))
      | omega))
theorem spec_l4Has.ans {xa xb : Option (List D → Option D)} (o : Std) (ho : o = std) (l : List Int) (x : Int) (h0 : l.length ≤ 1048576) : Ans (env xa xb) 68 [rK o l, iX x] (.bool (decide (x ∈ l))) := by
 refine Ans.mkA ho _ rfl rfl ?_
 repeat' (first
  | (refine .id ?_
     (try (conv => arg 2; cbv))
     first
      | (refine .indF (fun m_ s_ => ∃ (a5 : Int) (tk : List Nat), s_ = ⟨[rK o l, iX x, Jk, Jk, Jk, iX a5] ++ List.replicate 12 Jk, [], [], tk⟩ ∧ (0 ≤ a5 ∧ a5 ≤ l.length ∧ x ∉ l.take a5.toNat) ∧ (l.length - a5).toNat ≤ m_) _ _ ⟨_, _, by subst ho; rfl, ?_, Nat.le_refl _⟩ ?_
         rotate_right
         rintro m_ _ ⟨a5, tk, rfl, hIa, hka⟩ iha
         obtain ⟨i1, i2, i3⟩ := hIa; refine .unloopA ho ?_
         repeat' (first
          | (refine .id ?_
             (try (conv => arg 2; cbv))
             first
              | (refine .test (fun hr => ?_) (fun hr => ?_) <;> (have hb := hr) <;> (try simp (disch := omega) only [ho, std, wI, lenE, nrm] at hb) <;> (try (exfalso; first | contradiction | omega | exact hb rfl)))
              | (refine .fetchXK ho ?_ ?_ (fun y hy => ?_); rotate_left 2)
              | (refine iha _ _ ?_ ⟨_, _, by subst ho; rfl, ?_, Nat.le_refl _⟩)
              | (refine .fin ?_; (conv => lhs; cbv); refine congrArg some ?_))
          | ((fail_if_success (refine .id ?_))
             first
              | (subst ho; exact ⟨Int.le_refl 0, by omega, by simp⟩)
              | (refine dB ?_; exact has4_hit i1 (by omega) hy (by assumption))
              | (refine dB ?_; exact has4_end (by omega) i3)
              | (simp (disch := omega) only [ho, std, wI]; exact ⟨by omega, by omega, has4_step i1 (by omega) i3 hy (by assumption)⟩)
              | assumption
              | (subst ho; simp (disch := omega) only [std, wI, tdiv2, tdivN, lenE] <;> first | done | rfl | omega)))))
  | ((fail_if_success (refine .id ?_))
     first
      | fail))
theorem spec_l3Starts.ans {xa xb : Option (List D → Option D)} (o : Std) (ho : o = std) (l : List Nd) (h0 : Sz l) (h1 : l.length ≤ 150) : Ans (env xa xb) 111 [rNd o l] (.tup [rK o ((startsR l).1), .bool (startsR l).2]) := by
 refine Ans.mkA ho _ rfl rfl ?_
 repeat' (first
  | (refine .id ?_
     (try (conv => arg 2; cbv))
     first
      | (refine .indF (fun m_ s_ => ∃ (ea4 : Box) (a5 : Int) (ta4 : Tok) (tk : List Nat), s_ = ⟨[rNd o l, Jk, Jk, Jk, .sl ta4 1 ea4, iX a5] ++ List.replicate 57 Jk, [], [], tk⟩ ∧ Lv tk ta4 ea4.length ∧ ea4 = (o.bx fun _ => eK .i64 (stS l a5)) ∧ (0 ≤ a5 ∧ a5 ≤ l.length ∧ (startsO l a5.toNat).isSome = true) ∧ (l.length - a5).toNat ≤ m_) _ _ ⟨_, _, _, _, by subst ho; rfl, ?_, ?_, ?_, Nat.le_refl _⟩ ?_
         rotate_right
         rintro m_ _ ⟨ea4, a5, ta4, tk, rfl, hla0, rfl, hIa, hka⟩ iha
         obtain ⟨i1, i2, i3⟩ := hIa; have hb1 := stS_bnd i1 i3; refine .unloopA ho ?_
         repeat' (first
          | (refine .id ?_
             (try (conv => arg 2; cbv))
             first
              | refine .tN1 ho ?_
              | refine .tN0 ho ?_
              | (refine .test (fun hr => ?_) (fun hr => ?_) <;> (have hb := hr) <;> (try simp (disch := omega) only [ho, std, wI, lenE, nrm] at hb) <;> (try (exfalso; first | contradiction | omega | exact hb rfl)))
              | (refine .pE (β := Bool) .bool (as' := [.agg [iX _, iX _, iX _, iX _, iX _, .str _, .str _]]) (spec_l3Fields.ans o ho _ _ _ _ _ _ _ ?_) ?_; rotate_left 1; rintro (_ | _) hv <;> (try simp only [dE] at hv) <;> (try first | contradiction | exact bX hv))
              | (refine .pE (β := List Int) (rK o) (as' := [.agg [iX _, iX _, iX _, iX _, iX _, .str _, .str _]]) (spec_Kids.ans o ho _ _ _ _ _ _ _) ?_; rintro v hv)
              | (refine .fetchYNd ho ?_ ?_ (by with_reducible assumption) ?_)
              | (refine .fetchXNd ho ?_ ?_ (fun y hy => ?_); rotate_left 2; rcases y with ⟨y0, y1, y2, y3, y4, y5, y6⟩; (have hsz := h0.at i1 (by omega) hy); dsimp only at hsz)
              | (refine .indF (fun m_ s_ => ∃ (b6 : Int) (b7 : List Int) (b8 : Int) (tb7 : Tok) (tk : List Nat), s_ = ⟨[rNd o l, Jk, Jk, Jk, .sl ta4 1 (o.bx fun _ => eK .i64 (stS l a5)), iX a5, iX b6, .sl tb7 1 (o.bx fun _ => eK .i64 b7), iX b8] ++ List.replicate 54 Jk, [], [], tk⟩ ∧ (Lv tk ta4 (o.bx fun _ => eK .i64 (stS l a5)).length ∧ b7 = kidsM (rN l a5) ∧ -1 ≤ b8 ∧ b8 < b7.length ∧ 0 ≤ b6 ∧ b6 ≤ a5 ∧ fldB (rN l a5) = true ∧ walkK (stS l a5) (kidsM (rN l a5)) (kidsM (rN l a5)).length a5 = walkK (stS l a5) (kidsM (rN l a5)) (b8 + 1).toNat b6) ∧ (b8 + 1).toNat ≤ m_) _ _ ⟨_, _, _, _, _, by subst ho; rfl, ?_, Nat.le_refl _⟩ ?_
                 rotate_right
                 rintro m_ _ ⟨b6, b7, b8, tb7, tk, rfl, hIb, hkb⟩ ihb
                 obtain ⟨j0, j1, j2, j3, j4, j5, j6, j7⟩ := hIb; have hkl := len_kidsM (rN l a5); have hka2 := arityM_le (rN l a5).f0; rw [← j1] at hkl; refine .unloopA ho ?_
                 repeat' (first
                  | (refine .id ?_
                     (try (conv => arg 2; cbv))
                     first
                      | refine .testT ?_
                      | refine .t1 ?_
                      | refine .t0 ?_
                      | (refine .test (fun hr => ?_) (fun hr => ?_) <;> (have hb := hr) <;> (try simp (disch := omega) only [ho, std, wI, lenE, nrm] at hb) <;> (try (exfalso; first | contradiction | omega | exact hb rfl)))
                      | (refine .fetchYK ho ?_ ?_ (by with_reducible assumption) ?_)
                      | (refine .fetchXK ho ?_ ?_ (fun y hy => ?_); rotate_left 2; (first | (have _hkk := hkk; have hbq := bnd_at hb1.2 (by omega) (by omega) hy) | (have hkk := hy)))
                      | (refine .need ?_ ?_)
                      | (refine .app1 ?_ (fun t' tk' hl' => ?_))
                      | (refine ihb _ _ ?_ ⟨_, _, _, _, _, by subst ho; rfl, ?_, Nat.le_refl _⟩)
                      | (refine iha _ _ ?_ ⟨_, _, _, _, by subst ho; rfl, ?_, ?_, ?_, Nat.le_refl _⟩)
                      | (refine .fin ?_; (conv => lhs; cbv); refine congrArg some ?_))
                  | ((fail_if_success (refine .id ?_))
                     first
                      | (subst ho; exact j0)
                      | (subst ho; rw [startsR_no (st_fail i1 (by omega) i3 (.inr (by rw [j7]; exact walkK_no (by assumption) (by rw [← j1, hkk]; omega))))]; rfl)
                      | ((try clear iha); subst ho; have e1 : v = kidsM (rN l a5) := (at_nd (P := fun x => v = kidsM x) (by assumption) hv.symm); have e2 := len_kidsM (rN l a5); have e3 := arityM_le (rN l a5).f0; rw [← e1] at e2; simp (disch := omega) only [std, wI, len_eK]; refine ⟨by simpa [std, len_eK] using hla0, e1, by omega, by omega, i1, Int.le_refl _, at_nd (P := fun x => fldB x = true) (by assumption) (by assumption), ?_⟩; rw [← e1, Int.sub_add_cancel, Int.toNat_natCast])
                      | ((try clear iha); (try clear ihb); simp (disch := omega) only [ho, std, wI]; exact ⟨by subst ho; exact j0, j1, by omega, by omega, by omega, by omega, j6, j7.trans (walkK_yes (by assumption) (by rw [← j1]; exact hkk) (by assumption) (by assumption) hy)⟩)
                      | ((try clear iha); (try clear ihb); subst ho; refine push_eK ?_; simp (disch := omega) only [std, wI]; exact stS_next i1 i3 j6 (j7.trans (walkK_zero (by omega))))
                      | ((try clear iha); (try clear ihb); simp (disch := omega) only [ho, std, wI]; exact ⟨by omega, by omega, by rw [st_next i1 i3 j6 (j7.trans (walkK_zero (by omega)))]; rfl⟩)
                      | assumption
                      | omega
                      | (subst ho; simpa [std, lenE] using hl')
                      | (subst ho; simp [std, lenE]; omega)
                      | (subst ho; simp (disch := omega) only [std, wI, tdiv2, tdivN, lenE] <;> first | done | rfl | omega))))
              | (refine .fin ?_; (conv => lhs; cbv); refine congrArg some ?_))
          | ((fail_if_success (refine .id ?_))
             first
              | (exact Lv.cap _)
              | (subst ho; exact ⟨Int.le_refl _, by omega, rfl⟩)
              | (subst ho; rw [startsR_no (st_fail i1 (by omega) i3 (.inl (at_nd (P := fun x => fldB x = false) (by assumption) (by assumption))))]; rfl)
              | (subst ho; rw [startsR_yes (by omega) i3] <;> rfl)
              | assumption
              | (subst ho; rfl)))))
  | ((fail_if_success (refine .id ?_))
     first
      | fail))
theorem spec_NodesOk.ans {xa xb : Option (List D → Option D)} (o : Std) (ho : o = std) (l : List Nd) (h0 : Sz l) (h1 : l.length ≤ 1048576) : Ans (env xa xb) 88 [rNd o l] (.bool (okM l)) := by
 refine Ans.mkA ho _ rfl rfl ?_
 repeat' (first
  | (refine .id ?_
     (try (conv => arg 2; cbv))
     first
      | refine .testT ?_
      | refine .testF ?_
      | refine .tN1 ho ?_
      | refine .tN0 ho ?_
      | (refine .pE (β := Bool) .bool (as' := [iX _, iX _, iX _]) (spec_l1In.ans o ho _ _ _) ?_; rintro (_ | _) hv <;> (try simp only [dE] at hv) <;> (try first | contradiction | exact bX hv))
      | (refine .pE (β := (List Int) × Bool) (fun v => .tup [rK o v.1, .bool v.2]) (as' := [rNd o _]) (spec_l3Starts.ans o ho _ ?_ ?_) ?_; rotate_left 2; rintro ⟨v0, (_ | _)⟩ hv <;> (try simp only [dE] at hv) <;> (try first | contradiction | exact bX hv) <;> (try have hsl := startsR_len hv))
      | (refine .fetchXK ho ?_ ?_ (fun y hy => ?_); rotate_left 2)
      | (refine .fin ?_; (conv => lhs; cbv); refine congrArg some ?_))
  | ((fail_if_success (refine .id ?_))
     first
      | (subst ho; refine dB ?_; simp only [std, len_eNd] at *; exact okM_len (by assumption))
      | (refine dB ?_; exact okM_no hv)
      | (subst ho; simp (disch := omega) only [std, wI, len_eNd] at *; refine dB ?_; exact okM_end (by assumption) (by assumption) hy rfl)
      | (subst ho; simp only [std, len_eNd] at *; omega)
      | (subst ho; simp (disch := omega) only [std, wI, len_eNd] at *; omega)))
theorem spec_StartOf.ans {xa xb : Option (List D → Option D)} (o : Std) (ho : o = std) (l : List Nd) (i : Int) (h0 : Sz l) (h1 : l.length ≤ 1048576) : Ans (env xa xb) 133 [rNd o l, iX i] (iX (startOfR l i)) := by
 refine Ans.mkA ho _ rfl rfl ?_
 repeat' (first
  | (refine .id ?_
     (try (conv => arg 2; cbv))
     first
      | refine .testT ?_
      | refine .t1 ?_
      | refine .t0 ?_
      | refine .tN1 ho ?_
      | refine .tN0 ho ?_
      | (refine .test (fun hr => ?_) (fun hr => ?_) <;> (have hb := hr) <;> (try simp (disch := omega) only [ho, std, wI, lenE, nrm] at hb) <;> (try (exfalso; first | contradiction | omega | exact hb rfl)))
      | (refine .pE (β := Bool) .bool (as' := [rNd o _]) (spec_NodesOk.ans o ho _ ?_ ?_) ?_; rotate_left 2; rintro (_ | _) hv <;> (try simp only [dE] at hv) <;> (try first | contradiction | exact bX hv))
      | (refine .pE (β := Bool) .bool (as' := [iX _, iX _, iX _]) (spec_l1In.ans o ho _ _ _) ?_; rintro (_ | _) hv <;> (try simp only [dE] at hv) <;> (try first | contradiction | exact bX hv))
      | (refine .pE (β := (List Int) × Bool) (fun v => .tup [rK o v.1, .bool v.2]) (as' := [rNd o _]) (spec_l3Starts.ans o ho _ ?_ ?_) ?_; rotate_left 2; rintro ⟨v0, (_ | _)⟩ hv <;> (try simp only [dE] at hv) <;> (try first | contradiction | exact bX hv))
      | (refine .fetchXK ho ?_ ?_ (fun y hy => ?_); rotate_left 2)
      | (refine .fin ?_; (conv => lhs; cbv); refine congrArg some ?_))
  | ((fail_if_success (refine .id ?_))
     first
      | (subst ho; refine dI ?_; simp (disch := omega) only [std, wI, len_eNd] at *; first | exact startOfR_no (.inl (by assumption)) | exact startOfR_no (.inr (by assumption)))
      | (subst ho; simp (disch := omega) only [std, wI, len_eNd] at *; have hq := (okT_startsR (by assumption) (by assumption)).1; omega)
      | (have hq := (okM_iff.1 (by assumption)).size; omega)
      | (subst ho; refine dI ?_; simp (disch := omega) only [std, wI, len_eNd] at *; exact startOfR_yes (by assumption) (by assumption) (by assumption) hy)
      | assumption))
theorem spec_ParentOf.ans {xa xb : Option (List D → Option D)} (o : Std) (ho : o = std) (l : List Nd) (i : Int) (h0 : Sz l) (h1 : l.length ≤ 1048576) : Ans (env xa xb) 101 [rNd o l, iX i] (iX (parS l i)) := by
 refine Ans.mkA ho _ rfl rfl ?_
 repeat' (first
  | (refine .id ?_
     (try (conv => arg 2; cbv))
     first
      | refine .tN1 ho ?_
      | refine .tN0 ho ?_
      | (refine .pE (β := Bool) .bool (as' := [rNd o _]) (spec_NodesOk.ans o ho _ ?_ ?_) ?_; rotate_left 2; rintro (_ | _) hv <;> (try simp only [dE] at hv) <;> (try first | contradiction | exact bX hv))
      | (refine .indF (fun m_ s_ => ∃ (a5 : Int) (tk : List Nat), s_ = ⟨[rNd o l, iX i, Jk, Jk, Jk, iX a5] ++ List.replicate 17 Jk, [], [], tk⟩ ∧ (0 ≤ a5 ∧ a5 ≤ l.length ∧ (∀ j : Nat, (j : Int) < a5 → i ∉ kidsM (rN l j))) ∧ (l.length - a5).toNat ≤ m_) _ _ ⟨_, _, by subst ho; rfl, ?_, Nat.le_refl _⟩ ?_
         rotate_right
         rintro m_ _ ⟨a5, tk, rfl, hIa, hka⟩ iha
         obtain ⟨i1, i2, i3⟩ := hIa; refine .unloopA ho ?_
         repeat' (first
          | (refine .id ?_
             (try (conv => arg 2; cbv))
             first
              | refine .testT ?_
              | refine .testF ?_
              | (refine .test (fun hr => ?_) (fun hr => ?_) <;> (have hb := hr) <;> (try simp (disch := omega) only [ho, std, wI, lenE, nrm] at hb) <;> (try (exfalso; first | contradiction | omega | exact hb rfl)))
              | (refine .pE (β := List Int) (rK o) (as' := [.agg [iX _, iX _, iX _, iX _, iX _, .str _, .str _]]) (spec_Kids.ans o ho _ _ _ _ _ _ _) ?_; rintro v hv)
              | (refine .pE (β := Bool) .bool (as' := [rK o _, iX _]) (spec_l4Has.ans o ho _ _ ?_) ?_; rotate_left 1; rintro (_ | _) hv <;> (try simp only [dE] at hv) <;> (try first | contradiction | exact bX hv))
              | (refine .fetchXNd ho ?_ ?_ (fun y hy => ?_); rotate_left 2; rcases y with ⟨y0, y1, y2, y3, y4, y5, y6⟩)
              | (refine iha _ _ ?_ ⟨_, _, by subst ho; rfl, ?_, Nat.le_refl _⟩)
              | (refine .fin ?_; (conv => lhs; cbv); refine congrArg some ?_))
          | ((fail_if_success (refine .id ?_))
             first
              | (subst ho; exact ⟨Int.le_refl _, by omega, fun j hj => absurd hj (by omega)⟩)
              | (have hq := len_kidsM ⟨y0, y1, y2, y3, y4, y5, y6⟩; have hq2 := arityM_le y0; dsimp only at hq; rw [show kidsM _ = _ by assumption] at hq; omega)
              | (refine dI ?_; exact (parS_none (fun j hj => i3 j (by omega))).symm)
              | (refine dI ?_; exact (parS_hit (by assumption) i1 (by omega) i3 (at_nd (P := fun x => i ∈ kidsM x) hy (by rw [show kidsM _ = _ by assumption]; assumption))).symm)
              | (simp (disch := omega) only [ho, std, wI]; exact ⟨by omega, by omega, par_step i1 i3 (at_nd (P := fun x => i ∉ kidsM x) hy (by rw [show kidsM _ = _ by assumption]; assumption))⟩)
              | assumption
              | (subst ho; simp (disch := omega) only [std, wI, tdiv2, tdivN, lenE] <;> first | done | rfl | omega))))
      | (refine .fin ?_; (conv => lhs; cbv); refine congrArg some ?_))
  | ((fail_if_success (refine .id ?_))
     first
      | (refine dI ?_; exact parS_no (by assumption))
      | assumption))
theorem spec_l6Bound.ans {xa xb : Option (List D → Option D)} (o : Std) (ho : o = std) (n_f0 : Int) (n_f1 : Int) (n_f2 : Int) (n_f3 : Int) (n_f4 : Int) (n_f5 : ByteArray) (n_f6 : ByteArray) (kid : Int) : Ans (env xa xb) 132 [.agg [iX n_f0, iX n_f1, iX n_f2, iX n_f3, iX n_f4, .str n_f5, .str n_f6], iX kid] (.tup [rTx o ((bindM (⟨n_f0, n_f1, n_f2, n_f3, n_f4, n_f5, n_f6⟩ : Nd) kid).1), rK o ((bindM (⟨n_f0, n_f1, n_f2, n_f3, n_f4, n_f5, n_f6⟩ : Nd) kid).2)]) := by
 refine Ans.mkA ho _ rfl rfl ?_
 repeat' (first
  | (refine .id ?_
     (try (conv => arg 2; cbv))
     first
      | refine .t1 ?_
      | (refine .test (fun hr => ?_) (fun hr => ?_) <;> (have hb := hr) <;> (try simp (disch := omega) only [ho, std, wI, lenE, nrm] at hb) <;> (try (exfalso; first | contradiction | omega | exact hb rfl)))
      | (refine .fin ?_; (conv => lhs; cbv); refine congrArg some ?_))
  | ((fail_if_success (refine .id ?_))
     first
      | (subst ho; unfold bindM; simp only [*, true_or, or_true, true_and, and_true, if_true, if_false, false_or, or_false, false_and, and_false, or_self, and_self]; rfl)))
theorem spec_BinderOf.ans {xa xb : Option (List D → Option D)} (o : Std) (ho : o = std) (l : List Nd) (i : Int) (h0 : Sz l) (h1 : l.length ≤ 1048576) : Ans (env xa xb) 108 [rNd o l, iX i] (.agg ([iX (binderR l i).f0, iX (binderR l i).f1])) := by
 refine Ans.mkA ho _ rfl rfl ?_
 repeat' (first
  | (refine .id ?_
     (try (conv => arg 2; cbv))
     first
      | refine .testT ?_
      | refine .t1 ?_
      | refine .t0 ?_
      | refine .tN1 ho ?_
      | refine .tN0 ho ?_
      | (refine .test (fun hr => ?_) (fun hr => ?_) <;> (have hb := hr) <;> (try simp (disch := omega) only [ho, std, wI, lenE, nrm] at hb) <;> (try (exfalso; first | contradiction | omega | exact hb rfl)))
      | (refine .pE (β := Bool) .bool (as' := [rNd o _]) (spec_NodesOk.ans o ho _ ?_ ?_) ?_; rotate_left 2; rintro (_ | _) hv <;> (try simp only [dE] at hv) <;> (try first | contradiction | exact bX hv))
      | (refine .pE (β := Bool) .bool (as' := [iX _, iX _, iX _]) (spec_l1In.ans o ho _ _ _) ?_; rintro (_ | _) hv <;> (try simp only [dE] at hv) <;> (try first | contradiction | exact bX hv) <;> (try (have hir : 0 ≤ i ∧ i < l.length := (by subst ho; simp (disch := omega) only [std, wI, len_eNd] at hv; omega))))
      | (refine .pE (β := Int) (fun v => iX v) (as' := [rNd o _, iX _]) (spec_ParentOf.ans o ho _ _ ?_ ?_) ?_; rotate_left 2; rintro v hv)
      | (refine .fetchXNd ho ?_ ?_ (fun y hy => ?_); rotate_left 2; rcases y with ⟨y0, y1, y2, y3, y4, y5, y6⟩; (first | (have _hyi := hyi; have hyp := hy) | (obtain ⟨nm, en⟩ : ∃ q, q = y5 := ⟨_, rfl⟩; subst en; have hyi := hy)))
      | (refine .indF (fun m_ s_ => ∃ (a6 : Int) (a7 : Int) (tk : List Nat), s_ = ⟨[rNd o l, iX i, Jk, Jk, .pbx (.loc 0) 0, .pbx (.loc 1) 0, iX a6, iX a7] ++ List.replicate 66 Jk, [[[iX 0, iX 0]], [[iX (-1), iX (-1)]]], [], tk⟩ ∧ (a7 = parS l a6 ∧ climbM l nm i = climbM l nm a6 ∧ 0 ≤ a6 ∧ a6 < l.length) ∧ (l.length - a6).toNat ≤ m_) _ _ ⟨_, _, _, by subst ho; rfl, ?_, Nat.le_refl _⟩ ?_
         rotate_right
         rintro m_ _ ⟨a6, a7, tk, rfl, hIa, hka⟩ iha
         obtain ⟨i1, i2, i3, i4⟩ := hIa; have hT := okM_iff.1 (show okM l = true by assumption); have hpl := hT.par_lt (n := a6); rw [← i1] at hpl; refine .unloopA ho ?_
         repeat' (first
          | (refine .id ?_
             (try (conv => arg 2; cbv))
             first
              | (refine .test (fun hr => ?_) (fun hr => ?_) <;> (have hb := hr) <;> (try simp (disch := omega) only [ho, std, wI, lenE, nrm] at hb) <;> (try (exfalso; first | contradiction | omega | exact hb rfl)))
              | (refine .pE (β := (List ByteArray) × (List Int)) (fun v => .tup [rTx o v.1, rK o v.2]) (as' := [.agg [iX _, iX _, iX _, iX _, iX _, .str _, .str _], iX _]) (spec_l6Bound.ans o ho _ _ _ _ _ _ _ _) ?_; rintro ⟨v0, v1⟩ hv; (have hst := hit_start (nm := nm) i1 hyp hv; have hbl := bind_len hv))
              | (refine .fetchXNd ho ?_ ?_ (fun y hy => ?_); rotate_left 2; rcases y with ⟨y0, y1, y2, y3, y4, y5, y6⟩; (first | (have _hyi := hyi; have hyp := hy) | (obtain ⟨nm, en⟩ : ∃ q, q = y5 := ⟨_, rfl⟩; subst en; have hyi := hy)))
              | (refine .indF (fun m_ s_ => ∃ (b8 : List ByteArray) (b9 : List Int) (b10 : Int) (tb8 tb9 : Tok) (tk : List Nat), s_ = ⟨[rNd o l, iX i, Jk, Jk, .pbx (.loc 0) 0, .pbx (.loc 1) 0, Jk, iX a7, .sl tb8 1 (o.bx fun _ => eB b8), .sl tb9 1 (o.bx fun _ => eK .i64 b9), iX b10] ++ List.replicate 63 Jk, [[[iX 0, iX 0]], [[iX (-1), iX (-1)]]], [], tk⟩ ∧ (b8.length ≤ 2 ∧ b9.length = b8.length ∧ 0 ≤ b10 ∧ b10 ≤ b8.length ∧ hitN l nm a6 = hitM a7 nm (b8.drop b10.toNat) (b9.drop b10.toNat)) ∧ (b8.length - b10).toNat ≤ m_) _ _ ⟨_, _, _, _, _, _, by subst ho; rfl, ?_, Nat.le_refl _⟩ ?_
                 rotate_right
                 rintro m_ _ ⟨b8, b9, b10, tb8, tb9, tk, rfl, hIb, hkb⟩ ihb
                 obtain ⟨j0, j1, j2, j3, j4⟩ := hIb; refine .unloopA ho ?_
                 repeat' (first
                  | (refine .id ?_
                     (try (conv => arg 2; cbv))
                     first
                      | (refine .test (fun hr => ?_) (fun hr => ?_) <;> (have hb := hr) <;> (try simp (disch := omega) only [ho, std, wI, lenE, nrm] at hb) <;> (try (exfalso; first | contradiction | omega | exact hb rfl)))
                      | (refine .pE (β := Int) (fun v => iX v) (as' := [rNd o _, iX _]) (spec_ParentOf.ans o ho _ _ ?_ ?_) ?_; rotate_left 2; rintro v hv)
                      | (refine .fetchYNd ho ?_ ?_ (by with_reducible assumption) ?_)
                      | (refine .fetchXK ho ?_ ?_ (fun y hy => ?_); rotate_left 2)
                      | (refine .fetchXB ho ?_ ?_ (fun y hy => ?_); rotate_left 2; (have hyn := hy))
                      | (refine .needD ho (by kernel_rfl) ?_)
                      | (refine ihb _ _ ?_ ⟨_, _, _, _, _, _, by subst ho; rfl, ?_, Nat.le_refl _⟩)
                      | (refine iha _ _ ?_ ⟨_, _, _, by subst ho; rfl, ?_, Nat.le_refl _⟩)
                      | (refine .fin ?_; (conv => lhs; cbv); refine congrArg some ?_))
                  | ((fail_if_success (refine .id ?_))
                     first
                      | (exact hir.2)
                      | (exact ⟨hbl, hst.2, Int.le_refl _, by omega, hst.1⟩)
                      | (have hq := hpl (by omega); omega)
                      | (rw [← binderR_yes (show okM l = true by assumption) ⟨hir.1, by omega⟩ hyi (by assumption) (i2.trans (climb_hit hT (by omega) (hit_yes j1 j2 (by omega) hyn (by assumption) hy j4)))] <;> rfl)
                      | ((try clear iha); (try clear ihb); simp (disch := omega) only [ho, std, wI]; first | omega | exact ⟨j0, j1, by omega, by omega, hit_next j1 j2 (by omega) hyn (by assumption) j4⟩)
                      | (have hq := hpl (by omega); exact ⟨hv.symm, i2.trans ((climb_on hT (by omega) (hit_none (by omega) j4)).trans (by rw [← i1])), by omega, by omega⟩))))
              | (refine .fin ?_; (conv => lhs; cbv); refine congrArg some ?_))
          | ((fail_if_success (refine .id ?_))
             first
              | (exact ⟨hv.symm, rfl, hir.1, hir.2⟩)
              | (have hq := hpl (by omega); omega)
              | (rw [← binderR_yes (show okM l = true by assumption) ⟨hir.1, by omega⟩ hyi (by assumption) (i2.trans (climbM_top (by rw [← i1]; omega)))] <;> rfl))))
      | (refine .fin ?_; (conv => lhs; cbv); refine congrArg some ?_))
  | ((fail_if_success (refine .id ?_))
     first
      | (exact hir.2)
      | ((first | rw [← binderR_no (.inl (by assumption))] | rw [← binderR_no (.inr (.inr ⟨_, hyi, by assumption⟩))] | rw [← binderR_no (.inr (.inl (by subst ho; simp (disch := omega) only [std, wI, len_eNd] at hv; exact hv)))]) <;> rfl)
      | assumption
      | omega))
theorem spec_FreeNames.ans {xa xb : Option (List D → Option D)} (o : Std) (ho : o = std) (l : List Nd) (h0 : Sz l) (h1 : l.length ≤ 1048576) : Ans (env xa xb) 131 [rNd o l] (rTx o (freeR l)) := by
 refine Ans.mkA ho _ rfl rfl ?_
 repeat' (first
  | (refine .id ?_
     (try (conv => arg 2; cbv))
     first
      | (refine .indF (fun m_ s_ => ∃ (a4 : Int) (tk : List Nat) (tq : Tok) (bq : Box), s_ = ⟨[rNd o l, Jk, Jk, .sl tq 1 bq, iX a4] ++ List.replicate 32 Jk, [], [], tk⟩ ∧ (bq = (o.bx fun _ => eB (freeN l a4.toNat)) ∧ 0 ≤ a4 ∧ a4 ≤ l.length ∧ (0 < a4 → okM l = true)) ∧ (l.length - a4).toNat ≤ m_) _ _ ⟨_, _, _, _, by subst ho; rfl, ?_, Nat.le_refl _⟩ ?_
         rotate_right
         rintro m_ _ ⟨a4, tk, tq, bq, rfl, hIa, hka⟩ iha
         obtain ⟨rfl, i1, i2, i3⟩ := hIa; have hfl := (len_freeN l a4.toNat).1; refine .unloopA ho ?_
         repeat' (first
          | (refine .id ?_
             (try (conv => arg 2; cbv))
             first
              | refine .testT ?_
              | refine .testF ?_
              | refine .t1 ?_
              | refine .t0 ?_
              | (refine .test (fun hr => ?_) (fun hr => ?_) <;> (have hb := hr) <;> (try simp (disch := omega) only [ho, std, wI, lenE, nrm] at hb) <;> (try (exfalso; first | contradiction | omega | exact hb rfl)))
              | (refine .pE (β := Bool) .bool (as' := [rNd o _]) (spec_NodesOk.ans o ho _ ?_ ?_) ?_; rotate_left 2; rintro (_ | _) hv <;> (try simp only [dE] at hv) <;> (try first | contradiction | exact bX hv))
              | (refine .pE (β := Bd) (fun v => .agg ([iX v.f0, iX v.f1])) (as' := [rNd o _, iX _]) (spec_BinderOf.ans o ho _ _ ?_ ?_) ?_; rotate_left 2; rintro ⟨v0, v1⟩ hv)
              | (refine .pE (β := List ByteArray) (rTx o) (as' := [rTx o _, .str _]) (spec_l6Sort.ans o ho _ _ ?_) ?_; rotate_left 1; rintro v hv)
              | (refine .fetchYNd ho ?_ ?_ (by with_reducible assumption) ?_)
              | (refine .fetchXNd ho ?_ ?_ (fun y hy => ?_); rotate_left 2; rcases y with ⟨y0, y1, y2, y3, y4, y5, y6⟩; (have hyp := hy))
              | (refine iha _ _ ?_ ⟨_, _, _, _, by subst ho; rfl, ?_, Nat.le_refl _⟩)
              | (refine .fin ?_; (conv => lhs; cbv); refine congrArg some ?_))
          | ((fail_if_success (refine .id ?_))
             first
              | (subst ho; exact ⟨rfl, Int.le_refl _, by omega, fun h => absurd h (by omega)⟩)
              | (subst ho; refine congrArg (D.sl Tok.ro 1) (congrArg eB ?_); first | exact freeR_fin (by omega) i3 | exact freeR_z (fun hq => by have := i3 hq; simp_all) i1 (.inl (by assumption)) rfl | exact freeR_z (by omega) i1 (.inr (by omega)) rfl)
              | (subst ho; simp (disch := omega) only [std, wI]; refine ⟨?_, by omega, by omega, fun _ => by assumption⟩; refine congrArg eB ?_; first | exact freeN_yes (by assumption) i1 (by omega) hyp (by assumption) (by assumption) (by assumption) (by assumption) | exact freeN_no1 i1 hyp (by assumption) | exact freeN_no2 (by assumption) i1 (by omega) (by assumption) (by dsimp only; omega))
              | assumption
              | omega
              | (subst ho; simp (disch := omega) only [std, wI, tdiv2, tdivN, lenE] <;> first | done | rfl | omega)))))
  | ((fail_if_success (refine .id ?_))
     first
      | fail))
theorem spec_Closed.ans {xa xb : Option (List D → Option D)} (o : Std) (ho : o = std) (l : List Nd) (h0 : Sz l) (h1 : l.length ≤ 1048576) : Ans (env xa xb) 107 [rNd o l] (.bool (cloB l)) := by
 refine Ans.mkA ho _ rfl rfl ?_
 repeat' (first
  | (refine .id ?_
     (try (conv => arg 2; cbv))
     first
      | refine .testT ?_
      | refine .testF ?_
      | (refine .pE (β := Bool) .bool (as' := [rNd o _]) (spec_NodesOk.ans o ho _ ?_ ?_) ?_; rotate_left 2; rintro (_ | _) hv <;> (try simp only [dE] at hv) <;> (try first | contradiction | exact bX hv))
      | (refine .pE (β := List ByteArray) (rTx o) (as' := [rNd o _]) (spec_FreeNames.ans o ho _ ?_ ?_) ?_; rotate_left 2; rintro v hv)
      | (refine .fin ?_; (conv => lhs; cbv); refine congrArg some ?_))
  | ((fail_if_success (refine .id ?_))
     first
      | (subst ho; refine dB ?_; exact clo_no (by assumption))
      | (subst ho; refine dB ?_; exact clo_len (n := v.length) (by assumption) (by rw [hv]) (by simp only [std, len_eB]; rfl))
      | assumption))
theorem spec_FlowOk.ans {xa xb : Option (List D → Option D)} (o : Std) (ho : o = std) (l : List Nd) (dp : Int) (h0 : Sz l) (h1 : l.length ≤ 1048576) : Ans (env xa xb) 84 [rNd o l, iX dp] (.bool (flowB l dp)) := by
 refine Ans.mkA ho _ rfl rfl ?_
 repeat' (first
  | (refine .id ?_
     (try (conv => arg 2; cbv))
     first
      | refine .testT ?_
      | refine .testF ?_
      | (refine .pE (β := Bool) .bool (as' := [rNd o _]) (spec_NodesOk.ans o ho _ ?_ ?_) ?_; rotate_left 2; rintro (_ | _) hv <;> (try simp only [dE] at hv) <;> (try first | contradiction | exact bX hv))
      | (refine .pE (β := Bool) .bool (as' := [rNd o _]) (spec_Closed.ans o ho _ ?_ ?_) ?_; rotate_left 2; rintro (_ | _) hv <;> (try simp only [dE] at hv) <;> (try first | contradiction | exact bX hv))
      | (refine .pE (β := Bool) .bool (as' := [iX _, iX _, iX _]) (spec_l1In.ans o ho _ _ _) ?_; rintro (_ | _) hv <;> (try simp only [dE] at hv) <;> (try first | contradiction | exact bX hv))
      | (refine .fin ?_; (conv => lhs; cbv); refine congrArg some ?_))
  | ((fail_if_success (refine .id ?_))
     first
      | (refine dB ?_; exact flow_no (by assumption))
      | (refine dB ?_; exact flow_no (clo_no (by assumption)).symm)
      | (refine dB ?_; first | exact flow_eq (by assumption) (decide_eq_true (by assumption)).symm | exact flow_eq (by assumption) (decide_eq_false (by assumption)).symm)
      | assumption))
end Go.Mach
