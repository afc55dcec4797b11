/- What the statements share: part 21 of a proof by an executable machine over the program's code. -/
import Derived.Test.YtljpfhpcbfpooaaGreatDoorMc20
set_option linter.unusedVariables false
set_option linter.unusedSimpArgs false
set_option maxRecDepth 100000
set_option maxHeartbeats 6000000
namespace Go.Mach
open Go Go.RowKit Go.Proofs
theorem spec_StartOf.ans {xa xb : Option (List D → Option D)} (o : Std) (ho : o = std) (l : List Nd) (i : Int) (h0 : Sz l) (h1 : l.length ≤ 1048576) : Ans (env xa xb) 160 [rNd o l, iX i] (iX (startOfR l i)) := by
 refine Ans.mkA ho _ rfl rfl ?_
 repeat' (first
  | (refine .id ?_
     (try (conv => arg 2; cbv))
     first
      | refine .testT ?_
      | refine .t1 ?_
      | refine .t0 ?_
      | refine .tN1 ho ?_
      | refine .tN0 ho ?_
      | (refine .test (fun hr => ?_) (fun hr => ?_) <;> (have hb := hr) <;> (try simp (disch := omega) only [ho, std, wI, lenE, nrm] at hb) <;> (try (exfalso; first | contradiction | omega | exact hb rfl)))
      | (refine .pE (β := Bool) .bool (as' := [rNd o _]) (spec_NodesOk.ans o ho _ ?_ ?_) ?_; rotate_left 2; rintro (_ | _) hv <;> (try simp only [dE] at hv) <;> (try first | contradiction | exact bX hv))
      | (refine .pE (β := Bool) .bool (as' := [iX _, iX _, iX _]) (spec_l1In.ans o ho _ _ _) ?_; rintro (_ | _) hv <;> (try simp only [dE] at hv) <;> (try first | contradiction | exact bX hv))
      | (refine .pE (β := (List Int) × Bool) (fun v => .tup [rK o v.1, .bool v.2]) (as' := [rNd o _]) (spec_l3Starts.ans o ho _ ?_ ?_) ?_; rotate_left 2; rintro ⟨v0, (_ | _)⟩ hv <;> (try simp only [dE] at hv) <;> (try first | contradiction | exact bX hv))
      | (refine .fetchXK ho ?_ ?_ (fun y hy => ?_); rotate_left 2)
      | (refine .fin ?_; (conv => lhs; cbv); refine congrArg some ?_))
  | ((fail_if_success (refine .id ?_))
     first
      | (subst ho; refine dI ?_; simp (disch := omega) only [std, wI, len_eNd] at *; first | exact startOfR_no (.inl (by assumption)) | exact startOfR_no (.inr (by assumption)))
      | (subst ho; simp (disch := omega) only [std, wI, len_eNd] at *; have hq := (okT_startsR (by assumption) (by assumption)).1; omega)
      | (have hq := (okM_iff.1 (by assumption)).size; omega)
      | (subst ho; refine dI ?_; simp (disch := omega) only [std, wI, len_eNd] at *; exact startOfR_yes (by assumption) (by assumption) (by assumption) hy)
      | assumption))
theorem spec_ParentOf.ans {xa xb : Option (List D → Option D)} (o : Std) (ho : o = std) (l : List Nd) (i : Int) (h0 : Sz l) (h1 : l.length ≤ 1048576) : Ans (env xa xb) 36 [rNd o l, iX i] (iX (parS l i)) := by
 refine Ans.mkA ho _ rfl rfl ?_
 repeat' (first
  | (refine .id ?_
     (try (conv => arg 2; cbv))
     first
      | refine .tN1 ho ?_
      | refine .tN0 ho ?_
      | (refine .pE (β := Bool) .bool (as' := [rNd o _]) (spec_NodesOk.ans o ho _ ?_ ?_) ?_; rotate_left 2; rintro (_ | _) hv <;> (try simp only [dE] at hv) <;> (try first | contradiction | exact bX hv))
      | (refine .indF (fun m_ s_ => ∃ (a5 : Int) (tk : List Nat), s_ = ⟨[rNd o l, iX i, Jk, Jk, Jk, iX a5] ++ List.replicate 17 Jk, [], [], tk⟩ ∧ (0 ≤ a5 ∧ a5 ≤ l.length ∧ (∀ j : Nat, (j : Int) < a5 → i ∉ kidsM (rN l j))) ∧ (l.length - a5).toNat ≤ m_) _ _ ⟨_, _, by subst ho; rfl, ?_, Nat.le_refl _⟩ ?_
         rotate_right
         rintro m_ _ ⟨a5, tk, rfl, hIa, hka⟩ iha
         obtain ⟨i1, i2, i3⟩ := hIa; refine .unloopA ho ?_
         repeat' (first
          | (refine .id ?_
             (try (conv => arg 2; cbv))
             first
              | refine .testT ?_
              | refine .testF ?_
              | (refine .test (fun hr => ?_) (fun hr => ?_) <;> (have hb := hr) <;> (try simp (disch := omega) only [ho, std, wI, lenE, nrm] at hb) <;> (try (exfalso; first | contradiction | omega | exact hb rfl)))
              | (refine .pE (β := List Int) (rK o) (as' := [.agg [iX _, iX _, iX _, iX _, iX _, .str _, .str _]]) (spec_Kids.ans o ho _ _ _ _ _ _ _) ?_; rintro v hv)
              | (refine .pE (β := Bool) .bool (as' := [rK o _, iX _]) (spec_l4Has.ans o ho _ _ ?_) ?_; rotate_left 1; rintro (_ | _) hv <;> (try simp only [dE] at hv) <;> (try first | contradiction | exact bX hv))
              | (refine .fetchXNd ho ?_ ?_ (fun y hy => ?_); rotate_left 2; rcases y with ⟨y0, y1, y2, y3, y4, y5, y6⟩)
              | (refine iha _ _ ?_ ⟨_, _, by subst ho; rfl, ?_, Nat.le_refl _⟩)
              | (refine .fin ?_; (conv => lhs; cbv); refine congrArg some ?_))
          | ((fail_if_success (refine .id ?_))
             first
              | (subst ho; exact ⟨Int.le_refl _, by omega, fun j hj => absurd hj (by omega)⟩)
              | (have hq := len_kidsM ⟨y0, y1, y2, y3, y4, y5, y6⟩; have hq2 := arityM_le y0; dsimp only at hq; rw [show kidsM _ = _ by assumption] at hq; omega)
              | (refine dI ?_; exact (parS_none (fun j hj => i3 j (by omega))).symm)
              | (refine dI ?_; exact (parS_hit (by assumption) i1 (by omega) i3 (at_nd (P := fun x => i ∈ kidsM x) hy (by rw [show kidsM _ = _ by assumption]; assumption))).symm)
              | (simp (disch := omega) only [ho, std, wI]; exact ⟨by omega, by omega, par_step i1 i3 (at_nd (P := fun x => i ∉ kidsM x) hy (by rw [show kidsM _ = _ by assumption]; assumption))⟩)
              | assumption
              | (subst ho; simp (disch := omega) only [std, wI, tdiv2, tdivN, lenE] <;> first | done | rfl | omega))))
      | (refine .fin ?_; (conv => lhs; cbv); refine congrArg some ?_))
  | ((fail_if_success (refine .id ?_))
     first
      | (refine dI ?_; exact parS_no (by assumption))
      | assumption))
theorem spec_l6Bound.ans {xa xb : Option (List D → Option D)} (o : Std) (ho : o = std) (n_f0 : Int) (n_f1 : Int) (n_f2 : Int) (n_f3 : Int) (n_f4 : Int) (n_f5 : ByteArray) (n_f6 : ByteArray) (kid : Int) : Ans (env xa xb) 119 [.agg [iX n_f0, iX n_f1, iX n_f2, iX n_f3, iX n_f4, .str n_f5, .str n_f6], iX kid] (.tup [rTx o ((bindM (⟨n_f0, n_f1, n_f2, n_f3, n_f4, n_f5, n_f6⟩ : Nd) kid).1), rK o ((bindM (⟨n_f0, n_f1, n_f2, n_f3, n_f4, n_f5, n_f6⟩ : Nd) kid).2)]) := by
 refine Ans.mkA ho _ rfl rfl ?_
 repeat' (first
  | (refine .id ?_
     (try (conv => arg 2; cbv))
     first
      | refine .t1 ?_
      | (refine .test (fun hr => ?_) (fun hr => ?_) <;> (have hb := hr) <;> (try simp (disch := omega) only [ho, std, wI, lenE, nrm] at hb) <;> (try (exfalso; first | contradiction | omega | exact hb rfl)))
      | (refine .fin ?_; (conv => lhs; cbv); refine congrArg some ?_))
  | ((fail_if_success (refine .id ?_))
     first
      | (subst ho; unfold bindM; simp only [*, true_or, or_true, true_and, and_true, if_true, if_false, false_or, or_false, false_and, and_false, or_self, and_self]; rfl)))
theorem spec_BinderOf.ans {xa xb : Option (List D → Option D)} (o : Std) (ho : o = std) (l : List Nd) (i : Int) (h0 : Sz l) (h1 : l.length ≤ 1048576) : Ans (env xa xb) 75 [rNd o l, iX i] (.agg ([iX (binderR l i).f0, iX (binderR l i).f1])) := by
 refine Ans.mkA ho _ rfl rfl ?_
 repeat' (first
  | (refine .id ?_
     (try (conv => arg 2; cbv))
     first
      | refine .testT ?_
      | refine .t1 ?_
      | refine .t0 ?_
      | refine .tN1 ho ?_
      | refine .tN0 ho ?_
      | (refine .test (fun hr => ?_) (fun hr => ?_) <;> (have hb := hr) <;> (try simp (disch := omega) only [ho, std, wI, lenE, nrm] at hb) <;> (try (exfalso; first | contradiction | omega | exact hb rfl)))
      | (refine .pE (β := Bool) .bool (as' := [rNd o _]) (spec_NodesOk.ans o ho _ ?_ ?_) ?_; rotate_left 2; rintro (_ | _) hv <;> (try simp only [dE] at hv) <;> (try first | contradiction | exact bX hv))
      | (refine .pE (β := Bool) .bool (as' := [iX _, iX _, iX _]) (spec_l1In.ans o ho _ _ _) ?_; rintro (_ | _) hv <;> (try simp only [dE] at hv) <;> (try first | contradiction | exact bX hv) <;> (try (have hir : 0 ≤ i ∧ i < l.length := (by subst ho; simp (disch := omega) only [std, wI, len_eNd] at hv; omega))))
      | (refine .pE (β := Int) (fun v => iX v) (as' := [rNd o _, iX _]) (spec_ParentOf.ans o ho _ _ ?_ ?_) ?_; rotate_left 2; rintro v hv)
      | (refine .fetchXNd ho ?_ ?_ (fun y hy => ?_); rotate_left 2; rcases y with ⟨y0, y1, y2, y3, y4, y5, y6⟩; (first | (have _hyi := hyi; have hyp := hy) | (obtain ⟨nm, en⟩ : ∃ q, q = y5 := ⟨_, rfl⟩; subst en; have hyi := hy)))
      | (refine .indF (fun m_ s_ => ∃ (a6 : Int) (a7 : Int) (tk : List Nat), s_ = ⟨[rNd o l, iX i, Jk, Jk, .pbx (.loc 0) 0, .pbx (.loc 1) 0, iX a6, iX a7] ++ List.replicate 66 Jk, [[[iX 0, iX 0]], [[iX (-1), iX (-1)]]], [], tk⟩ ∧ (a7 = parS l a6 ∧ climbM l nm i = climbM l nm a6 ∧ 0 ≤ a6 ∧ a6 < l.length) ∧ (l.length - a6).toNat ≤ m_) _ _ ⟨_, _, _, by subst ho; rfl, ?_, Nat.le_refl _⟩ ?_
         rotate_right
         rintro m_ _ ⟨a6, a7, tk, rfl, hIa, hka⟩ iha
         obtain ⟨i1, i2, i3, i4⟩ := hIa; have hT := okM_iff.1 (show okM l = true by assumption); have hpl := hT.par_lt (n := a6); rw [← i1] at hpl; refine .unloopA ho ?_
         repeat' (first
          | (refine .id ?_
             (try (conv => arg 2; cbv))
             first
              | (refine .test (fun hr => ?_) (fun hr => ?_) <;> (have hb := hr) <;> (try simp (disch := omega) only [ho, std, wI, lenE, nrm] at hb) <;> (try (exfalso; first | contradiction | omega | exact hb rfl)))
              | (refine .pE (β := (List ByteArray) × (List Int)) (fun v => .tup [rTx o v.1, rK o v.2]) (as' := [.agg [iX _, iX _, iX _, iX _, iX _, .str _, .str _], iX _]) (spec_l6Bound.ans o ho _ _ _ _ _ _ _ _) ?_; rintro ⟨v0, v1⟩ hv; (have hst := hit_start (nm := nm) i1 hyp hv; have hbl := bind_len hv))
              | (refine .fetchXNd ho ?_ ?_ (fun y hy => ?_); rotate_left 2; rcases y with ⟨y0, y1, y2, y3, y4, y5, y6⟩; (first | (have _hyi := hyi; have hyp := hy) | (obtain ⟨nm, en⟩ : ∃ q, q = y5 := ⟨_, rfl⟩; subst en; have hyi := hy)))
              | (refine .indF (fun m_ s_ => ∃ (b8 : List ByteArray) (b9 : List Int) (b10 : Int) (tb8 tb9 : Tok) (tk : List Nat), s_ = ⟨[rNd o l, iX i, Jk, Jk, .pbx (.loc 0) 0, .pbx (.loc 1) 0, Jk, iX a7, .sl tb8 1 (o.bx fun _ => eB b8), .sl tb9 1 (o.bx fun _ => eK .i64 b9), iX b10] ++ List.replicate 63 Jk, [[[iX 0, iX 0]], [[iX (-1), iX (-1)]]], [], tk⟩ ∧ (b8.length ≤ 2 ∧ b9.length = b8.length ∧ 0 ≤ b10 ∧ b10 ≤ b8.length ∧ hitN l nm a6 = hitM a7 nm (b8.drop b10.toNat) (b9.drop b10.toNat)) ∧ (b8.length - b10).toNat ≤ m_) _ _ ⟨_, _, _, _, _, _, by subst ho; rfl, ?_, Nat.le_refl _⟩ ?_
                 rotate_right
                 rintro m_ _ ⟨b8, b9, b10, tb8, tb9, tk, rfl, hIb, hkb⟩ ihb
                 obtain ⟨j0, j1, j2, j3, j4⟩ := hIb; refine .unloopA ho ?_
                 repeat' (first
                  | (refine .id ?_
                     (try (conv => arg 2; cbv))
                     first
                      | (refine .test (fun hr => ?_) (fun hr => ?_) <;> (have hb := hr) <;> (try simp (disch := omega) only [ho, std, wI, lenE, nrm] at hb) <;> (try (exfalso; first | contradiction | omega | exact hb rfl)))
                      | (refine .pE (β := Int) (fun v => iX v) (as' := [rNd o _, iX _]) (spec_ParentOf.ans o ho _ _ ?_ ?_) ?_; rotate_left 2; rintro v hv)
                      | (refine .fetchYNd ho ?_ ?_ (by with_reducible assumption) ?_)
                      | (refine .fetchXK ho ?_ ?_ (fun y hy => ?_); rotate_left 2)
                      | (refine .fetchXB ho ?_ ?_ (fun y hy => ?_); rotate_left 2; (have hyn := hy))
                      | (refine .needD ho (by kernel_rfl) ?_)
                      | (refine ihb _ _ ?_ ⟨_, _, _, _, _, _, by subst ho; rfl, ?_, Nat.le_refl _⟩)
                      | (refine iha _ _ ?_ ⟨_, _, _, by subst ho; rfl, ?_, Nat.le_refl _⟩)
                      | (refine .fin ?_; (conv => lhs; cbv); refine congrArg some ?_))
                  | ((fail_if_success (refine .id ?_))
                     first
                      | (exact hir.2)
                      | (exact ⟨hbl, hst.2, Int.le_refl _, by omega, hst.1⟩)
                      | (have hq := hpl (by omega); omega)
                      | (rw [← binderR_yes (show okM l = true by assumption) ⟨hir.1, by omega⟩ hyi (by assumption) (i2.trans (climb_hit hT (by omega) (hit_yes j1 j2 (by omega) hyn (by assumption) hy j4)))] <;> rfl)
                      | ((try clear iha); (try clear ihb); simp (disch := omega) only [ho, std, wI]; first | omega | exact ⟨j0, j1, by omega, by omega, hit_next j1 j2 (by omega) hyn (by assumption) j4⟩)
                      | (have hq := hpl (by omega); exact ⟨hv.symm, i2.trans ((climb_on hT (by omega) (hit_none (by omega) j4)).trans (by rw [← i1])), by omega, by omega⟩))))
              | (refine .fin ?_; (conv => lhs; cbv); refine congrArg some ?_))
          | ((fail_if_success (refine .id ?_))
             first
              | (exact ⟨hv.symm, rfl, hir.1, hir.2⟩)
              | (have hq := hpl (by omega); omega)
              | (rw [← binderR_yes (show okM l = true by assumption) ⟨hir.1, by omega⟩ hyi (by assumption) (i2.trans (climbM_top (by rw [← i1]; omega)))] <;> rfl))))
      | (refine .fin ?_; (conv => lhs; cbv); refine congrArg some ?_))
  | ((fail_if_success (refine .id ?_))
     first
      | (exact hir.2)
      | ((first | rw [← binderR_no (.inl (by assumption))] | rw [← binderR_no (.inr (.inr ⟨_, hyi, by assumption⟩))] | rw [← binderR_no (.inr (.inl (by subst ho; simp (disch := omega) only [std, wI, len_eNd] at hv; exact hv)))]) <;> rfl)
      | assumption
      | omega))
theorem spec_FreeNames.ans {xa xb : Option (List D → Option D)} (o : Std) (ho : o = std) (l : List Nd) (h0 : Sz l) (h1 : l.length ≤ 1048576) : Ans (env xa xb) 159 [rNd o l] (rTx o (freeR l)) := by
 refine Ans.mkA ho _ rfl rfl ?_
 repeat' (first
  | (refine .id ?_
     (try (conv => arg 2; cbv))
     first
      | (refine .indF (fun m_ s_ => ∃ (a4 : Int) (tk : List Nat) (tq : Tok) (bq : Box), s_ = ⟨[rNd o l, Jk, Jk, .sl tq 1 bq, iX a4] ++ List.replicate 32 Jk, [], [], tk⟩ ∧ (bq = (o.bx fun _ => eB (freeN l a4.toNat)) ∧ 0 ≤ a4 ∧ a4 ≤ l.length ∧ (0 < a4 → okM l = true)) ∧ (l.length - a4).toNat ≤ m_) _ _ ⟨_, _, _, _, by subst ho; rfl, ?_, Nat.le_refl _⟩ ?_
         rotate_right
         rintro m_ _ ⟨a4, tk, tq, bq, rfl, hIa, hka⟩ iha
         obtain ⟨rfl, i1, i2, i3⟩ := hIa; have hfl := (len_freeN l a4.toNat).1; refine .unloopA ho ?_
         repeat' (first
          | (refine .id ?_
             (try (conv => arg 2; cbv))
             first
              | refine .testT ?_
              | refine .testF ?_
              | refine .t1 ?_
              | refine .t0 ?_
              | (refine .test (fun hr => ?_) (fun hr => ?_) <;> (have hb := hr) <;> (try simp (disch := omega) only [ho, std, wI, lenE, nrm] at hb) <;> (try (exfalso; first | contradiction | omega | exact hb rfl)))
              | (refine .pE (β := Bool) .bool (as' := [rNd o _]) (spec_NodesOk.ans o ho _ ?_ ?_) ?_; rotate_left 2; rintro (_ | _) hv <;> (try simp only [dE] at hv) <;> (try first | contradiction | exact bX hv))
              | (refine .pE (β := Bd) (fun v => .agg ([iX v.f0, iX v.f1])) (as' := [rNd o _, iX _]) (spec_BinderOf.ans o ho _ _ ?_ ?_) ?_; rotate_left 2; rintro ⟨v0, v1⟩ hv)
              | (refine .pE (β := List ByteArray) (rTx o) (as' := [rTx o _, .str _]) (spec_l6Sort.ans o ho _ _ ?_) ?_; rotate_left 1; rintro v hv)
              | (refine .fetchYNd ho ?_ ?_ (by with_reducible assumption) ?_)
              | (refine .fetchXNd ho ?_ ?_ (fun y hy => ?_); rotate_left 2; rcases y with ⟨y0, y1, y2, y3, y4, y5, y6⟩; (have hyp := hy))
              | (refine iha _ _ ?_ ⟨_, _, _, _, by subst ho; rfl, ?_, Nat.le_refl _⟩)
              | (refine .fin ?_; (conv => lhs; cbv); refine congrArg some ?_))
          | ((fail_if_success (refine .id ?_))
             first
              | (subst ho; exact ⟨rfl, Int.le_refl _, by omega, fun h => absurd h (by omega)⟩)
              | (subst ho; refine congrArg (D.sl Tok.ro 1) (congrArg eB ?_); first | exact freeR_fin (by omega) i3 | exact freeR_z (fun hq => by have := i3 hq; simp_all) i1 (.inl (by assumption)) rfl | exact freeR_z (by omega) i1 (.inr (by omega)) rfl)
              | (subst ho; simp (disch := omega) only [std, wI]; refine ⟨?_, by omega, by omega, fun _ => by assumption⟩; refine congrArg eB ?_; first | exact freeN_yes (by assumption) i1 (by omega) hyp (by assumption) (by assumption) (by assumption) (by assumption) | exact freeN_no1 i1 hyp (by assumption) | exact freeN_no2 (by assumption) i1 (by omega) (by assumption) (by dsimp only; omega))
              | assumption
              | omega
              | (subst ho; simp (disch := omega) only [std, wI, tdiv2, tdivN, lenE] <;> first | done | rfl | omega)))))
  | ((fail_if_success (refine .id ?_))
     first
      | fail))
theorem spec_Closed.ans {xa xb : Option (List D → Option D)} (o : Std) (ho : o = std) (l : List Nd) (h0 : Sz l) (h1 : l.length ≤ 1048576) : Ans (env xa xb) 134 [rNd o l] (.bool (cloB l)) := by
 refine Ans.mkA ho _ rfl rfl ?_
 repeat' (first
  | (refine .id ?_
     (try (conv => arg 2; cbv))
     first
      | refine .testT ?_
      | refine .testF ?_
      | (refine .pE (β := Bool) .bool (as' := [rNd o _]) (spec_NodesOk.ans o ho _ ?_ ?_) ?_; rotate_left 2; rintro (_ | _) hv <;> (try simp only [dE] at hv) <;> (try first | contradiction | exact bX hv))
      | (refine .pE (β := List ByteArray) (rTx o) (as' := [rNd o _]) (spec_FreeNames.ans o ho _ ?_ ?_) ?_; rotate_left 2; rintro v hv)
      | (refine .fin ?_; (conv => lhs; cbv); refine congrArg some ?_))
  | ((fail_if_success (refine .id ?_))
     first
      | (subst ho; refine dB ?_; exact clo_no (by assumption))
      | (subst ho; refine dB ?_; exact clo_len (n := v.length) (by assumption) (by rw [hv]) (by simp only [std, len_eB]; rfl))
      | assumption))
theorem spec_FlowOk.ans {xa xb : Option (List D → Option D)} (o : Std) (ho : o = std) (l : List Nd) (dp : Int) (h0 : Sz l) (h1 : l.length ≤ 1048576) : Ans (env xa xb) 102 [rNd o l, iX dp] (.bool (flowB l dp)) := by
 refine Ans.mkA ho _ rfl rfl ?_
 repeat' (first
  | (refine .id ?_
     (try (conv => arg 2; cbv))
     first
      | refine .testT ?_
      | refine .testF ?_
      | (refine .pE (β := Bool) .bool (as' := [rNd o _]) (spec_NodesOk.ans o ho _ ?_ ?_) ?_; rotate_left 2; rintro (_ | _) hv <;> (try simp only [dE] at hv) <;> (try first | contradiction | exact bX hv))
      | (refine .pE (β := Bool) .bool (as' := [rNd o _]) (spec_Closed.ans o ho _ ?_ ?_) ?_; rotate_left 2; rintro (_ | _) hv <;> (try simp only [dE] at hv) <;> (try first | contradiction | exact bX hv))
      | (refine .pE (β := Bool) .bool (as' := [iX _, iX _, iX _]) (spec_l1In.ans o ho _ _ _) ?_; rintro (_ | _) hv <;> (try simp only [dE] at hv) <;> (try first | contradiction | exact bX hv))
      | (refine .fin ?_; (conv => lhs; cbv); refine congrArg some ?_))
  | ((fail_if_success (refine .id ?_))
     first
      | (refine dB ?_; exact flow_no (by assumption))
      | (refine dB ?_; exact flow_no (clo_no (by assumption)).symm)
      | (refine dB ?_; first | exact flow_eq (by assumption) (decide_eq_true (by assumption)).symm | exact flow_eq (by assumption) (decide_eq_false (by assumption)).symm)
      | assumption))
theorem spec_OuterOf.ans {xa xb : Option (List D → Option D)} (o : Std) (ho : o = std) (l : List Nd) (f : Int) (h0 : Sz l) (h1 : l.length ≤ 1048576) : Ans (env xa xb) 135 [rNd o l, iX f] (rBd o (outR l f)) := by
 refine Ans.mkA ho _ rfl rfl ?_
 repeat' (first
  | (refine .id ?_
     (try (conv => arg 2; cbv))
     first
      | refine .testT ?_
      | refine .t1 ?_
      | refine .t0 ?_
      | refine .tN1 ho ?_
      | refine .tN0 ho ?_
      | (refine .test (fun hr => ?_) (fun hr => ?_) <;> (have hb := hr) <;> (try simp (disch := omega) only [ho, std, wI, lenE, nrm] at hb) <;> (try (exfalso; first | contradiction | omega | exact hb rfl)))
      | (refine .pE (β := Bool) .bool (as' := [rNd o _]) (spec_NodesOk.ans o ho _ ?_ ?_) ?_; rotate_left 2; rintro (_ | _) hv <;> (try simp only [dE] at hv) <;> (try first | contradiction | exact bX hv))
      | (refine .pE (β := Bool) .bool (as' := [iX _, iX _, iX _]) (spec_l1In.ans o ho _ _ _) ?_; rintro (_ | _) hv <;> (try simp only [dE] at hv) <;> (try first | contradiction | exact bX hv) <;> (try have hir : 0 ≤ f ∧ f < l.length := (by subst ho; simp (disch := omega) only [std, wI, len_eNd] at hv; omega)))
      | (refine .pE (β := Bool) .bool (as' := [.agg [iX _, iX _, iX _, iX _, iX _, .str _, .str _]]) (spec_l16Lambda.ans o ho _ _ _ _ _ _ _) ?_; rintro (_ | _) hv <;> (try simp only [dE] at hv) <;> (try first | contradiction | exact bX hv) <;> (try (have hT := okM_iff.1 (show okM l = true by assumption); have hdn := hT.downs f hir.1 hir.2 (by rw [hyf]; exact lam_ar hv); rw [hyf] at hdn; dsimp only at hdn; have hst := startM_le hT.downs hdn.1 (by omega); have hlam := hv; have hA : 0 ≤ A ∧ A < l.length := ⟨hdn.1, by omega⟩)))
      | (refine .pE (β := Int) (fun v => iX v) (as' := [rNd o _, iX _]) (spec_StartOf.ans o ho _ _ ?_ ?_) ?_; rotate_left 2; rintro v hv; (rw [startOfR_in (by assumption) hA] at hv))
      | (refine .fetchYNd ho ?_ ?_ (by with_reducible assumption) ?_)
      | (refine .fetchXNd ho ?_ ?_ (fun y hy => ?_); rotate_left 2; rcases y with ⟨y0, y1, y2, y3, y4, y5, y6⟩; (first | (have _h := hyf; have hyi := hy) | (obtain ⟨A, eA⟩ : ∃ q, q = y1 := ⟨_, rfl⟩; subst eA; have hyf := hy)))
      | (refine .indF (fun m_ s_ => ∃ (ea5 : Box) (a6 : Int) (ta5 : Tok) (tk : List Nat), s_ = ⟨[rNd o l, iX f, Jk, Jk, Jk, .sl ta5 2 ea5, iX a6] ++ List.replicate 113 Jk, [], [], tk⟩ ∧ Lv tk ta5 ea5.length ∧ ea5 = (o.bx fun _ => eBd (outerN l (bindsM l) f (a6 - startM l A).toNat)) ∧ (startM l A ≤ a6 ∧ a6 ≤ A + 1) ∧ (A + 1 - a6).toNat ≤ m_) _ _ ⟨_, _, _, _, by subst ho; rfl, ?_, ?_, ?_, Nat.le_refl _⟩ ?_
         rotate_right
         rintro m_ _ ⟨ea5, a6, ta5, tk, rfl, hla0, rfl, hIa, hka⟩ iha
         obtain ⟨i1, i2⟩ := hIa; have hz := len_outerN l (bindsM l) f (a6 - startM l A).toNat; have hs150 := hT.size; refine .unloopA ho ?_
         repeat' (first
          | (refine .id ?_
             (try (conv => arg 2; cbv))
             first
              | refine .testT ?_
              | refine .testF ?_
              | refine .t1 ?_
              | refine .t0 ?_
              | refine .tN1 ho ?_
              | refine .tN0 ho ?_
              | (refine .test (fun hr => ?_) (fun hr => ?_) <;> (have hb := hr) <;> (try simp (disch := omega) only [ho, std, wI, lenE, nrm] at hb) <;> (try (exfalso; first | contradiction | omega | exact hb rfl)))
              | (refine .pE (β := Int) (fun v => iX v) (as' := [rNd o _, iX _]) (spec_StartOf.ans o ho _ _ ?_ ?_) ?_; rotate_left 2; rintro v hv; (rw [startOfR_in (by assumption) hA] at hv))
              | (refine .pE (β := Bd) (fun v => .agg ([iX v.f0, iX v.f1])) (as' := [rNd o _, iX _]) (spec_BinderOf.ans o ho _ _ ?_ ?_) ?_; rotate_left 2; rintro ⟨v0, v1⟩ hv; (obtain ⟨q0, e0⟩ : ∃ q, q = v0 := ⟨_, rfl⟩; obtain ⟨q1, e1⟩ : ∃ q, q = v1 := ⟨_, rfl⟩; subst e0; subst e1; rw [binderR_in (by assumption) (by omega) (by omega)] at hv; have hbq := hv))
              | (refine .pE (β := Int) (fun v => iX v) (as' := [.agg [iX _, iX _, iX _, iX _, iX _, .str _, .str _]]) (spec_l16Param.ans o ho _ _ _ _ _ _ _) ?_; rintro v hv)
              | (refine .fetchYNd ho ?_ ?_ (by with_reducible assumption) ?_)
              | (refine .fetchXNd ho ?_ ?_ (fun y hy => ?_); rotate_left 2; rcases y with ⟨y0, y1, y2, y3, y4, y5, y6⟩; (first | (have _h := hyf; have hyi := hy) | (obtain ⟨A, eA⟩ : ∃ q, q = y1 := ⟨_, rfl⟩; subst eA; have hyf := hy)))
              | (refine .needD ho (by kernel_rfl) ?_)
              | (refine .indF (fun m_ s_ => ∃ (b8 : Bool) (b9 : Int) (tk : List Nat), s_ = ⟨[rNd o l, iX f, Jk, Jk, Jk, .sl ta5 2 (o.bx fun _ => eBd (outerN l (bindsM l) f (a6 - startM l A).toNat)), iX a6, .pbx (.loc 0) 0, .bool b8, iX b9] ++ List.replicate 110 Jk, [[[iX q0, iX q1]]], [], tk⟩ ∧ (Lv tk ta5 (o.bx fun _ => eBd (outerN l (bindsM l) f (a6 - startM l A).toNat)).length ∧ 0 ≤ b9 ∧ b9 ≤ (outerN l (bindsM l) f (a6 - startM l A).toNat).length ∧ b8 = ((outerN l (bindsM l) f (a6 - startM l A).toNat).take b9.toNat).any (fun x => decide (x = ⟨q0, q1⟩))) ∧ ((outerN l (bindsM l) f (a6 - startM l A).toNat).length - b9).toNat ≤ m_) _ _ ⟨_, _, _, by subst ho; rfl, ?_, Nat.le_refl _⟩ ?_
                 rotate_right
                 rintro m_ _ ⟨b8, b9, tk, rfl, hIb, hkb⟩ ihb
                 obtain ⟨j0, j2, j3, j4⟩ := hIb; refine .unloopA ho ?_
                 repeat' (first
                  | (refine .id ?_
                     (try (conv => arg 2; cbv))
                     first
                      | refine .t1 ?_
                      | refine .t0 ?_
                      | (refine .test (fun hr => ?_) (fun hr => ?_) <;> (have hb := hr) <;> (try simp (disch := omega) only [ho, std, wI, lenE, nrm] at hb) <;> (try (exfalso; first | contradiction | omega | exact hb rfl)))
                      | (refine .fetchXBd ho ?_ ?_ (fun y hy => ?_); rotate_left 2; rcases y with ⟨y0, y1⟩)
                      | (refine .needD ho (by kernel_rfl) ?_)
                      | (refine .need ?_ ?_)
                      | (refine .app1 ?_ (fun t' tk' hl' => ?_))
                      | (refine ihb _ _ ?_ ⟨_, _, _, by subst ho; rfl, ?_, Nat.le_refl _⟩)
                      | (refine iha _ _ ?_ ⟨_, _, _, _, by subst ho; rfl, ?_, ?_, ?_, Nat.le_refl _⟩))
                  | ((fail_if_success (refine .id ?_))
                     first
                      | (subst ho; exact j0)
                      | (subst ho; exact ⟨hla0, Int.le_refl _, by omega, rfl⟩)
                      | ((try clear iha); (try clear ihb); subst ho; simp (disch := omega) only [std, wI]; refine congrArg eBd ?_; first | exact (out_keep hT hir hyf hlam i1 (by dsimp only; omega) hbq (.inl (by unfold skipP; dsimp only; omega))).symm | exact (out_keep hT hir hyf hlam i1 (by dsimp only; omega) (bindS_non hyi (by assumption)) (.inl (by unfold skipP; dsimp only; omega))).symm | exact (out_keep hT hir hyf hlam i1 (by dsimp only; omega) hbq (.inr (by rw [take_allG (by omega)] at j4; rw [← j4]; assumption))).symm)
                      | ((try clear iha); (try clear ihb); simp (disch := omega) only [ho, std, wI]; refine ⟨by subst ho; exact j0, by omega, by omega, ?_⟩; rw [any_succ j2 (by omega), ← j4]; first | (rw [show b8 = true by assumption]; rfl) | (rw [show b8 = false by assumption, hy, Bool.false_or]; exact eqBd _ _ _ _))
                      | ((try clear iha); (try clear ihb); subst ho; refine push_eBd (x := ⟨q0, q1⟩) ?_; simp (disch := omega) only [std, wI]; exact out_push hT hir hyf hlam i1 (by dsimp only; omega) hbq (by unfold skipP; dsimp only; omega) (by rw [take_allG (by omega)] at j4; rw [← j4]; assumption))
                      | assumption
                      | (subst ho; simpa [std, lenE] using hl')
                      | (subst ho; simp [std, lenE]; omega)
                      | (subst ho; simp (disch := omega) only [std, wI, tdiv2, tdivN, lenE] <;> first | done | rfl | omega))))
              | (refine iha _ _ ?_ ⟨_, _, _, _, by subst ho; rfl, ?_, ?_, ?_, Nat.le_refl _⟩)
              | (refine .fin ?_; (conv => lhs; cbv); refine congrArg some ?_))
          | ((fail_if_success (refine .id ?_))
             first
              | (exact Lv.cap _)
              | (subst ho; exact hla0)
              | (subst ho; rw [show v - startM l A = 0 by omega]; rfl)
              | (subst ho; refine congrArg (D.sl Tok.ro 2) (congrArg eBd ?_); exact outR_yes (by assumption) hir hyf hlam (by dsimp only; omega))
              | ((try clear iha); (try clear ihb); subst ho; simp (disch := omega) only [std, wI]; refine congrArg eBd ?_; first | exact (out_keep hT hir hyf hlam i1 (by dsimp only; omega) hbq (.inl (by unfold skipP; dsimp only; omega))).symm | exact (out_keep hT hir hyf hlam i1 (by dsimp only; omega) (bindS_non hyi (by assumption)) (.inl (by unfold skipP; dsimp only; omega))).symm | exact (out_keep hT hir hyf hlam i1 (by dsimp only; omega) hbq (.inr (by rw [take_allG (by omega)] at j4; rw [← j4]; assumption))).symm)
              | assumption
              | omega
              | (subst ho; simp (disch := omega) only [std, wI, tdiv2, tdivN, lenE] <;> first | done | rfl | omega))))
      | (refine .fin ?_; (conv => lhs; cbv); refine congrArg some ?_))
  | ((fail_if_success (refine .id ?_))
     first
      | (rw [outR_no (.inl (by assumption))]; subst ho; rfl)
      | (rw [outR_no (.inr (.inr ⟨_, hyf, by assumption⟩))]; subst ho; rfl)
      | (rw [outR_no (.inr (.inl (by subst ho; simp (disch := omega) only [std, wI, len_eNd] at hv; exact hv)))]; subst ho; rfl)
      | assumption
      | omega))
theorem spec_l17New.ans {xa xb : Option (List D → Option D)} (o : Std) (ho : o = std) (l : List Nd) (dp : Int) (h0 : okM l = true) (h1 : Sz l) (h2 : l.length ≤ 1048576) : Ans (env xa xb) 104 [rNd o l, iX dp] (.agg ([rNd o ((prM l dp).l), rBd o ((prM l dp).bind), .sl .ro 1 (o.bx fun _ => eLBd (prM l dp).outer), iX (prM l dp).depth])) := by
 refine Ans.mkA ho _ rfl rfl ?_
 have hs := (okM_iff.1 h0).size
 repeat' (first
  | (refine .id ?_
     (try (conv => arg 2; cbv))
     first
      | (refine .indF (fun m_ s_ => ∃ (a6 : Int) (tk : List Nat) (t1 : Tok) (u1 : Tok) (e1 : Box) (e2 : Box), s_ = ⟨[rNd o l, Jk, Jk, Jk, .pbx (.loc 0) 0, .pbx (.loc 1) 0, iX a6] ++ List.replicate 26 Jk, [[[.sl .nil 7 [], .sl .nil 2 [], .sl .nil 1 [], iX 0]], [[rNd o l, .sl t1 2 e1, .sl u1 1 e2, iX dp]]], [], tk⟩ ∧ (e1 = (o.bx fun _ => eBd ((bindsM l).take a6.toNat)) ∧ e2 = (o.bx fun _ => eLBd ((outersM l).take a6.toNat)) ∧ Lw tk t1 e1.length ∧ Lw tk u1 e2.length ∧ Apart t1 u1 ∧ 0 ≤ a6 ∧ a6 ≤ l.length) ∧ (l.length - a6).toNat ≤ m_) _ _ ⟨_, _, _, _, _, _, by subst ho; rfl, ?_, Nat.le_refl _⟩ ?_
         rotate_right
         rintro m_ _ ⟨a6, tk, t1, u1, e1, e2, rfl, hIa, hka⟩ iha
         obtain ⟨rfl, rfl, hLt, hLu, hAp, i1, i2⟩ := hIa; have hb1 := List.length_take_le a6.toNat (bindsM l); have hb2 := List.length_take_le a6.toNat (outersM l); refine .unloopA ho ?_
         repeat' (first
          | (refine .id ?_
             (try (conv => arg 2; cbv))
             first
              | (refine .test (fun hr => ?_) (fun hr => ?_) <;> (have hb := hr) <;> (try simp (disch := omega) only [ho, std, wI, lenE, nrm] at hb) <;> (try (exfalso; first | contradiction | omega | exact hb rfl)))
              | (rcases hLt.kind with e | ⟨ti, e⟩ <;> subst e)
              | (rcases hLu.kind with e | ⟨ui, e⟩ <;> subst e)
              | (refine .app22 (u := t') hl' hap.symm ?_ (fun t3 tk3 hl3 hlw3 hap3 => ?_))
              | (refine .app22 hLu hAp ?_ (fun t' tk' hl' hlw hap => ?_))
              | (refine .pE (β := Bd) (fun v => .agg ([iX v.f0, iX v.f1])) (as' := [rNd o _, iX _]) (spec_BinderOf.ans o ho _ _ ?_ ?_) ?_; rotate_left 2; rintro ⟨v0, v1⟩ hv; have hbp := bind_pushR h0 i1 (by omega) hv)
              | (refine .pE (β := List Bd) (rBd o) (as' := [rNd o _, iX _]) (spec_OuterOf.ans o ho _ _ ?_ ?_) ?_; rotate_left 2; rintro v hv; have hop := outers_push h0 i1 (by omega) hv)
              | (refine .needD ho (by kernel_rfl) ?_)
              | (refine .need ?_ ?_)
              | (refine iha _ _ ?_ ⟨_, _, _, _, _, _, by subst ho; rfl, ?_, Nat.le_refl _⟩)
              | (refine .fin ?_; (conv => lhs; cbv); refine congrArg some ?_))
          | ((fail_if_success (refine .id ?_))
             first
              | (subst ho; exact ⟨rfl, rfl, .nil, .nil, (fun i h => by cases h), Int.le_refl _, by omega⟩)
              | (subst ho; exact hLt)
              | (subst ho; exact hlw)
              | (subst ho; refine congrArg D.agg ?_; simp only [std, prM]; rw [take_allG (by rw [len_bindsM]; omega), take_allG (by rw [len_outersM]; omega)])
              | (subst ho; refine ⟨push_eBd (x := ⟨v0, v1⟩) ?_, push_eLBd (x := v) ?_, hlw3.len (by simp [std]), hl3.len (by simp [std]), hap3.symm, ?_, ?_⟩ <;> simp (disch := omega) only [std, wI] <;> first | exact hbp | exact hop | omega)
              | assumption
              | (subst ho; simp [std, lenE]; omega)
              | (subst ho; simp (disch := omega) only [std, wI, tdiv2, tdivN, lenE] <;> first | done | rfl | omega)))))
  | ((fail_if_success (refine .id ?_))
     first
      | fail))
theorem spec_l17Call.ans {xa xb : Option (List D → Option D)} (o : Std) (ho : o = std) (p_l : List Nd) (p_bind : List Bd) (p_outer : List (List Bd)) (p_depth : Int) (out : List Fc) (old : List Fc) (i : Int) (c : Int) (h0 : PrOk (⟨p_l, p_bind, p_outer, p_depth⟩ : Pr)) (h1 : Old (⟨p_l, p_bind, p_outer, p_depth⟩ : Pr) old) (h2 : Up out) (h3 : 0 ≤ i ∧ i < p_l.length) (h4 : out.length + 950005000 ≤ 2900000000000) : Ans (env xa xb) 214 [.agg [rNd o p_l, rBd o p_bind, .sl .ro 1 (o.bx fun _ => eLBd p_outer), iX p_depth], rFc o out, rFc o old, iX i, iX c] (rFc o (insAll out (callS (⟨p_l, p_bind, p_outer, p_depth⟩ : Pr) old i c))) := by
 refine Ans.mkA ho _ rfl rfl ?_
 have hP := h0; have hO := h1; have hu := h1.up; have hp := h1.pos; have hL := h1.len; have hL2 : old.length ≤ 2900000000000 := (by omega); have hpo := h0.outer; have hpb := h0.bind; dsimp only at hpo hpb
 repeat' (first
  | (refine .id ?_
     (try (conv => arg 2; cbv))
     first
      | (refine .pE (β := List Ab) (rAb o) (as' := [rFc o _, iX _, iX _, iX _]) (spec_l15At.ans o ho _ _ _ _ ?_ ?_ ?_) ?_; rotate_left 3; rintro v hv)
      | (refine .fetchXNd ho ?_ ?_ (fun y hy => ?_); rotate_left 2; rcases y with ⟨y0, y1, y2, y3, y4, y5, y6⟩)
      | (refine .indF (fun m_ s_ => ∃ (a1 : List Fc) (a12 : List Ab) (a13 : Int) (ta1 ta12 : Tok) (tk : List Nat) (nd : Nd), s_ = ⟨[Jk, .sl ta1 6 (o.bx fun _ => eFc a1), rFc o old, iX i, iX c, .pbx (.loc 0) 0, Jk, Jk, Jk, Jk, Jk, .pbx (.loc 1) 0, .sl ta12 3 (o.bx fun _ => eAb a12), iX a13] ++ List.replicate 132 Jk, [[[rNd o p_l, rBd o p_bind, .sl .ro 1 (o.bx fun _ => eLBd p_outer), iX p_depth]], [cNd nd]], [], tk⟩ ∧ (rN p_l i = nd ∧ a12 = vals old 0 nd.f1 c ∧ 0 ≤ a13 ∧ a13 ≤ a12.length ∧ a1 = insAll out ((a12.take a13.toNat).flatMap (call1S (⟨p_l, p_bind, p_outer, p_depth⟩ : Pr) old i c nd))) ∧ (a12.length - a13).toNat ≤ m_) _ _ ⟨_, _, _, _, _, _, ⟨y0, y1, y2, y3, y4, y5, y6⟩, by subst ho; rfl, ?_, Nat.le_refl _⟩ ?_
         rotate_right
         rintro m_ _ ⟨a1, a12, a13, ta1, ta12, tk, ⟨n0, n1, n2, n3, n4, n5, n6⟩, rfl, hIa, hka⟩ iha
         obtain ⟨i0, i1, i2, i3, i4⟩ := hIa; dsimp only at i1; have hz := len_valsO hO 0 n1 c; rw [← i1] at hz; have hw := len_insAll out ((a12.take a13.toNat).flatMap (call1S (⟨p_l, p_bind, p_outer, p_depth⟩ : Pr) old i c ⟨n0, n1, n2, n3, n4, n5, n6⟩)); rw [← i4] at hw; have hw2 := len_flatMap_le _ 380002 (fun v => len_call1S hP hO i c ⟨n0, n1, n2, n3, n4, n5, n6⟩ v) (a12.take a13.toNat); have hw3 := List.length_take_le a13.toNat a12; have hU := h2.adds i4.symm; refine .unloopA ho ?_
         repeat' (first
          | (refine .id ?_
             (try (conv => arg 2; cbv))
             first
              | refine .testT ?_
              | refine .t1 ?_
              | refine .t0 ?_
              | (refine .test (fun hr => ?_) (fun hr => ?_) <;> (have hb := hr) <;> (try simp (disch := omega) only [ho, std, wI, lenE, nrm] at hb) <;> (try (exfalso; first | contradiction | omega | exact hb rfl)))
              | (refine .pE (β := Bool) .bool (as' := [rFc o _, iX _, iX _]) (spec_l17Has.ans o ho _ _ _ ?_ ?_ ?_) ?_; rotate_left 3; rintro (_ | _) hv <;> (try simp only [dE] at hv) <;> (try first | exact absurd (hv.symm.trans (show _ = false by assumption)) (by decide) | exact absurd (hv.symm.trans (show _ = true by assumption)) (by decide)))
              | (refine .pE (β := Int) (fun v => iX v) (as' := [iX _, iX _, iX _]) (spec_CtxPush.ans o ho _ _ _) ?_; rintro v hv)
              | (refine .pE (β := Int) (fun v => iX v) (as' := [.agg [iX _, iX _, iX _, iX _, iX _, .str _, .str _]]) (spec_l16Param.ans o ho _ _ _ _ _ _ _) ?_; rintro v hv)
              | (refine .pE (β := Int) (fun v => iX v) (as' := [iX _]) (spec_l17Name.ans o ho _ ?_) ?_; rotate_left 1; rintro v hv)
              | (refine .pE (β := List Fc) (rFc o) (as' := [rFc o _, rFc o _, iX _, iX _, iX _, iX _, iX _, iX _]) (spec_l17Flow.ans o ho _ _ _ _ _ _ _ _ ?_ ?_ ?_ ?_ ?_) ?_; rotate_left 5; rintro v hv; (try have hUp := Up.adds (by assumption) hv); (try have hLn := adds_flow hO hv))
              | (refine .fetchYAb ho ?_ ?_ (by with_reducible assumption) ?_)
              | (refine .fetchXNd ho ?_ ?_ (fun y hy => ?_); rotate_left 2; rcases y with ⟨y0, y1, y2, y3, y4, y5, y6⟩)
              | (refine .fetchXAb ho ?_ ?_ (fun y hy => ?_); rotate_left 2; rcases y with ⟨yk, yn, yc⟩; (try have hx := val_in hO i1 i2 (by omega) hy); (try dsimp only at hx))
              | (refine .needD ho (by kernel_rfl) ?_)
              | (refine .indF (fun m_ s_ => ∃ (b1 : List Fc) (b13 : Int) (b14 : Int) (b15 : Int) (b16 : Int) (tb1 : Tok) (tk : List Nat), s_ = ⟨[Jk, .sl tb1 6 (o.bx fun _ => eFc b1), rFc o old, iX i, iX c, .pbx (.loc 0) 0, Jk, Jk, Jk, Jk, Jk, .pbx (.loc 1) 0, .sl ta12 3 (o.bx fun _ => eAb a12), iX b13, iX b14, iX b15, iX b16] ++ List.replicate 129 Jk, [[[rNd o p_l, rBd o p_bind, .sl .ro 1 (o.bx fun _ => eLBd p_outer), iX p_depth]], [[iX n0, iX n1, iX n2, iX n3, iX n4, .str n5, .str n6]]], [], tk⟩ ∧ (a13 = b13 ∧ yn = b14 ∧ b15 = ctxPush c i p_depth ∧ 0 ≤ b16 ∧ b16 ≤ (rLB p_outer yn).length ∧ b1 = insAll a1 (flowL old 0 n2 c (1 + parm (rN p_l yn)) yn b15 ++ ((rLB p_outer yn).take b16.toNat).flatMap (outer1 old yc b15))) ∧ ((rLB p_outer yn).length - b16).toNat ≤ m_) _ _ ⟨_, _, _, _, _, _, _, by subst ho; rfl, ?_, Nat.le_refl _⟩ ?_
                 rotate_right
                 rintro m_ _ ⟨b1, b13, b14, b15, b16, tb1, tk, rfl, hIb, hkb⟩ ihb
                 obtain ⟨j1, j2, j3, j4, j5, j6⟩ := hIb; subst j1 j2; have hU2 := hU.adds j6.symm; have hv2 := len_insAll a1 (flowL old 0 n2 c (1 + parm (rN p_l yn)) yn b15 ++ ((rLB p_outer yn).take b16.toNat).flatMap (outer1 old yc b15)); rw [← j6, List.length_append] at hv2; have hv3 := len_flow hO 0 n2 c (1 + parm (rN p_l yn)) yn b15; have hv4 := len_flatMap_le (outer1 old yc b15) 2500 (fun x => len_flow hO _ _ _ _ _ _) ((rLB p_outer yn).take b16.toNat); have hv5 := List.length_take_le b16.toNat (rLB p_outer yn); have hv6 := len_rLB hP yn; dsimp only at hv6; refine .unloopA ho ?_
                 repeat' (first
                  | (refine .id ?_
                     (try (conv => arg 2; cbv))
                     first
                      | refine .testT ?_
                      | refine .testF ?_
                      | (refine .test (fun hr => ?_) (fun hr => ?_) <;> (have hb := hr) <;> (try simp (disch := omega) only [ho, std, wI, lenE, nrm] at hb) <;> (try (exfalso; first | contradiction | omega | exact hb rfl)))
                      | (refine .pE (β := Int) (fun v => iX v) (as' := [iX _]) (spec_l17Name.ans o ho _ ?_) ?_; rotate_left 1; rintro v hv)
                      | (refine .pE (β := List Fc) (rFc o) (as' := [rFc o _, rFc o _, iX _, iX _, iX _, iX _, iX _, iX _]) (spec_l17Flow.ans o ho _ _ _ _ _ _ _ _ ?_ ?_ ?_ ?_ ?_) ?_; rotate_left 5; rintro v hv; (try have hUp := Up.adds (by assumption) hv); (try have hLn := adds_flow hO hv))
                      | (refine .pE (β := List Fc) (rFc o) (as' := [rFc o _, iX _, iX _]) (spec_l17See.ans o ho _ _ _ ?_ ?_) ?_; rotate_left 2; rintro v hv; (try have hUp := Up.adds (by assumption) hv); (try have hLn := adds_see hv))
                      | (refine .pE (β := Bool) .bool (as' := [rFc o _, iX _, iX _]) (spec_l17Raises.ans o ho _ _ _ ?_ ?_ ?_) ?_; rotate_left 3; rintro (_ | _) hv <;> (try simp only [dE] at hv) <;> (try first | exact absurd (hv.symm.trans (show _ = false by assumption)) (by decide) | exact absurd (hv.symm.trans (show _ = true by assumption)) (by decide)))
                      | (refine .pE (β := List Fc) (rFc o) (as' := [rFc o _, .agg [iX _, iX _, iX _, iX _, iX _, iX _]]) (spec_l15Add.ans o ho _ _ _ _ _ _ _ ?_ ?_) ?_; rotate_left 2; rintro v hv; (try have hUp := Up.add1 (by assumption) hv); (try have hLn := adds_one hv))
                      | (refine .fetchYNd ho ?_ ?_ (by with_reducible assumption) ?_)
                      | (refine .fetchYAb ho ?_ ?_ (by with_reducible assumption) ?_)
                      | (refine .fetchXBd ho ?_ ?_ (fun y hy => ?_); rotate_left 2; rcases y with ⟨y0, y1⟩; (try have hrl := role_in hP hx.1 hx.2 j4 (by dsimp only; omega) hy); (try dsimp only at hrl))
                      | (refine .fetchXLBd ho ?_ ?_ (fun y hy => ?_); rotate_left 2; subst hy)
                      | (refine .needD ho (by kernel_rfl) ?_)
                      | (refine ihb _ _ ?_ ⟨_, _, _, _, _, _, _, by subst ho; rfl, ?_, Nat.le_refl _⟩)
                      | (refine iha _ _ ?_ ⟨_, _, _, _, _, _, ⟨n0, n1, n2, n3, n4, n5, n6⟩, by subst ho; rfl, ?_, Nat.le_refl _⟩))
                  | ((fail_if_success (refine .id ?_))
                     first
                      | (subst ho; refine ⟨rfl, rfl, Eq.symm (by assumption), Int.le_refl _, by omega, ?_⟩; subst_vars; simp [*]; done)
                      | (subst ho; refine ⟨rfl, rfl, j3, ?_, ?_, ?_⟩ <;> simp (disch := omega) only [std, wI] <;> first | omega | (rw [flatMap_succ _ zBd j4 (by omega), ← List.append_assoc, insAll_append, ← j6, show rdG zBd (rLB p_outer yn) b16 = _ from hy]; subst_vars; rfl))
                      | (refine Nat.le_trans (Nat.add_le_add_left (len_valsO hO _ _ _) _) ?_; omega)
                      | (subst ho; refine ⟨i0, i1, ?_, ?_, ?_⟩ <;> simp (disch := omega) only [std, wI] <;> first | omega | (rw [flatMap_succ _ zA i2 (by omega), insAll_append, ← i4, show rdG zA a12 a13 = ⟨yk, yn, yc⟩ from (by assumption : rA a12 a13 = ⟨yk, yn, yc⟩)]; rw [take_allG (i := b16) (by omega)] at j6; refine Eq.trans ?_ (call1S_ok (p := (⟨p_l, p_bind, p_outer, p_depth⟩ : Pr)) (nd := ⟨n0, n1, n2, n3, n4, n5, n6⟩) (v := ⟨yk, yn, yc⟩) (f := ⟨y0, y1, y2, y3, y4, y5, y6⟩) (by assumption) (by assumption) (by assumption) j3 j6 (by assumption) (by assumption)).symm; dsimp only; first | (rw [show anyB old 7 y1 b15 = true by assumption]; exact hv.symm) | (rw [show anyB old 7 y1 b15 = false by assumption]; rfl)))
                      | (have hx := len_valsO hO 0 n2 c; omega)
                      | (subst ho; simp (disch := omega) only [std, wI, tdiv2, tdivN, lenE] <;> first | done | rfl | omega))))
              | (refine iha _ _ ?_ ⟨_, _, _, _, _, _, ⟨n0, n1, n2, n3, n4, n5, n6⟩, by subst ho; rfl, ?_, Nat.le_refl _⟩)
              | (refine .fin ?_; (conv => lhs; cbv); refine congrArg some ?_))
          | ((fail_if_success (refine .id ?_))
             first
              | (subst ho; refine ⟨i0, i1, ?_, ?_, ?_⟩ <;> simp (disch := omega) only [std, wI] <;> first | omega | (rw [flatMap_succ _ zA i2 (by omega), insAll_append, ← i4, show rdG zA a12 a13 = ⟨yk, yn, yc⟩ from (by assumption : rA a12 a13 = ⟨yk, yn, yc⟩)]; unfold call1S; rw [if_neg (by rintro ⟨e1, e2⟩; dsimp only at e1 e2; simp_all)]; rfl))
              | (refine Nat.le_trans (Nat.add_le_add_left (len_valsO hO _ _ _) _) ?_; omega)
              | (have hx := len_valsO hO 0 n2 c; omega)
              | (subst_vars; unfold parm; split <;> omega)
              | (subst hv; exact ⟨by assumption, rfl, Int.le_refl _, by omega, by simp [insAll]⟩)
              | (subst ho; refine congrArg (D.sl Tok.ro 6) (congrArg eFc ?_); rw [i4, take_allG (by omega), i1]; unfold callS; rw [i0])
              | (subst ho; simp (disch := omega) only [std, wI, tdiv2, tdivN, lenE] <;> first | done | rfl | omega)))))
  | ((fail_if_success (refine .id ?_))
     first
      | assumption
      | omega))
end Go.Mach
