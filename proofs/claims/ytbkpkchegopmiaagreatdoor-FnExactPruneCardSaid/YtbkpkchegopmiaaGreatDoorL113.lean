/- FnExactPrune returns what the reference returns: part 32 of a proof by an executable machine over the program's code. -/
import Derived.Test.YtbkpkchegopmiaaGreatDoorL112
set_option linter.unusedVariables false
set_option linter.unusedSimpArgs false
set_option maxRecDepth 100000
set_option maxHeartbeats 8000000
namespace Go.Mach
open Go Go.RowKit Go.Proofs
theorem spec_Caught.ans {xa xb : Option (List D → Option D)} (o : Std) (ho : o = std) (l : List Nd) (dp : Int) (h0 : Sz l) (h1 : l.length ≤ 1048576) : Ans (env xa xb) 35 [rNd o l, iX dp] (rK o (caughtM l dp)) := by
 refine Ans.mkA ho _ rfl rfl ?_
 have hsl := seen_len l dp
 repeat' (first
  | (refine .id ?_
     (try (conv => arg 2; cbv))
     first
      | (refine .pE (β := List Int) (rK o) (as' := [rNd o _, iX _]) (spec_SeenNodes.ans o ho _ _ ?_ ?_) ?_; rotate_left 2; rintro v hv)
      | (refine .indF (fun m_ s_ => ∃ (ea5 : Box) (a6 : List Int) (a7 : Int) (ta5 ta6 : Tok) (tk : List Nat), s_ = ⟨[rNd o l, Jk, Jk, Jk, Jk, .sl ta5 1 ea5, .sl ta6 1 (o.bx fun _ => eK .i64 a6), iX a7] ++ List.replicate 30 Jk, [], [], tk⟩ ∧ Lv tk ta5 ea5.length ∧ ea5 = (o.bx fun _ => eK .i64 (filtN (caughtP l (seenM l dp)) a7.toNat)) ∧ (a6 = seenM l dp ∧ 0 ≤ a7 ∧ a7 ≤ l.length) ∧ (l.length - a7).toNat ≤ m_) _ _ ⟨_, _, _, _, _, _, by subst ho; rfl, ?_, ?_, ?_, Nat.le_refl _⟩ ?_
         rotate_right
         rintro m_ _ ⟨ea5, a6, a7, ta5, ta6, tk, rfl, hla0, rfl, hIa, hka⟩ iha
         obtain ⟨rfl, i1, i2⟩ := hIa; have hfl := filtN_lenI (caughtP l (seenM l dp)) i2; refine .unloopA ho ?_
         repeat' (first
          | (refine .id ?_
             (try (conv => arg 2; cbv))
             first
              | refine .testT ?_
              | refine .testF ?_
              | refine .t1 ?_
              | refine .t0 ?_
              | (refine .test (fun hr => ?_) (fun hr => ?_) <;> (have hb := hr) <;> (try simp (disch := omega) only [ho, std, wI, lenE, Int.ofNat_eq_natCast, nrm] at hb) <;> (try (exfalso; first | contradiction | omega | exact hb rfl)))
              | (refine .pE (β := Bool) .bool (as' := [rK o _, iX _]) (spec_l4Has.ans o ho _ _ ?_) ?_; rotate_left 1; rintro (_ | _) hv <;> (try simp only [dE] at hv) <;> (try first | contradiction | exact bX hv))
              | (refine .fetchYNd ho ?_ ?_ (by with_reducible assumption) ?_)
              | (refine .fetchXNd ho ?_ ?_ (fun y hy => ?_); rotate_left 2; rcases y with ⟨y0, y1, y2, y3, y4, y5, y6⟩; (first | (have _h := hyn) | (have hyn := hy)))
              | (refine .need ?_ ?_)
              | (refine .app1 ?_ (fun t' tk' hl' => ?_))
              | (refine iha _ _ ?_ ⟨_, _, _, _, _, _, by subst ho; rfl, ?_, ?_, ?_, Nat.le_refl _⟩)
              | (refine .fin ?_; (conv => lhs; cbv) <;> refine congrArg some ?_))
          | ((fail_if_success (refine .id ?_))
             first
              | (exact Lv.cap _)
              | (subst ho; exact hla0)
              | (subst ho; exact ⟨(by first | exact hv.symm | rfl), Int.le_refl _, by omega⟩)
              | (subst ho; simp (disch := omega) only [std, wI]; exact pushI (filtN_yes i1 (caught_hit hyn (by dsimp only; assumption) (decide_eq_true (by dsimp only; assumption)))))
              | (subst ho; simp (disch := omega) only [std, wI]; exact congrArg (eK .i64) (filtN_no i1 (by first | exact caught_no1 hyn (by dsimp only; assumption) | exact caught_no2 hyn (decide_eq_false (by dsimp only; assumption)))).symm)
              | ((try clear iha); subst ho; simp (disch := omega) only [std, wI]; exact ⟨by trivial, by omega, by omega⟩)
              | (refine congrArg (D.sl Tok.ro 1) ?_; subst ho; refine congrArg (eK .i64) ?_; rw [filtN_all (by omega) i2]; rfl)
              | assumption
              | omega
              | (subst ho; rfl)
              | (subst ho; simpa [std, lenE] using hl')
              | (subst ho; simp [std, lenE]; omega)
              | (subst ho; simp (disch := omega) only [std, wI, tdiv2, tdivN, lenE] <;> first | done | rfl | omega)))))
  | ((fail_if_success (refine .id ?_))
     first
      | assumption))
theorem impl_hasInt.ans {xa xb : Option (List D → Option D)} (o : Std) (ho : o = std) (l : List Int) (x : Int) (h0 : l.length ≤ 1048576) : Ans (env xa xb) 69 [rK o l, iX x] (.bool (decide (x ∈ l))) := by
 refine Ans.mkA ho _ rfl rfl ?_
 repeat' (first
  | (refine .id ?_
     (try (conv => arg 2; cbv))
     first
      | (refine .indF (fun m_ s_ => ∃ (a8 : Int) (a9 : Int) (tk : List Nat), s_ = ⟨[Jk, iX x, Jk, Jk, Jk, Jk, Jk, rK o l, iX a8, iX a9] ++ List.replicate 7 Jk, [], [], tk⟩ ∧ (a8 = l.length ∧ 0 ≤ a9 ∧ a9 ≤ l.length ∧ x ∉ l.take a9.toNat) ∧ (l.length - a9).toNat ≤ m_) _ _ ⟨_, _, _, by subst ho; rfl, ?_, Nat.le_refl _⟩ ?_
         rotate_right
         rintro m_ _ ⟨a8, a9, tk, rfl, hIa, hka⟩ iha
         obtain ⟨i0, i1, i2, i3⟩ := hIa; refine .unloopA ho ?_
         repeat' (first
          | (refine .id ?_
             (try (conv => arg 2; cbv))
             first
              | (refine .test (fun hr => ?_) (fun hr => ?_) <;> (have hb := hr) <;> (try simp (disch := omega) only [ho, std, wI, lenE, Int.ofNat_eq_natCast, nrm] at hb) <;> (try (exfalso; first | contradiction | omega | exact hb rfl)))
              | (refine .fetchXK ho ?_ ?_ (fun y hy => ?_); rotate_left 2)
              | (refine iha _ _ ?_ ⟨_, _, _, by subst ho; rfl, ?_, Nat.le_refl _⟩)
              | (refine .fin ?_; (conv => lhs; cbv) <;> refine congrArg some ?_))
          | ((fail_if_success (refine .id ?_))
             first
              | (subst ho; exact ⟨by simp [std, len_eK], Int.le_refl 0, by omega, by simp⟩)
              | (refine dB ?_; exact has4_hit i1 (by omega) hy (by assumption))
              | (refine dB ?_; exact has4_end (by omega) i3)
              | (simp (disch := omega) only [ho, std, wI]; exact ⟨i0, by omega, by omega, has4_step i1 (by omega) i3 hy (by assumption)⟩)
              | assumption
              | omega
              | (subst ho; simp (disch := omega) only [std, wI, tdiv2, tdivN, lenE] <;> first | done | rfl | omega)))))
  | ((fail_if_success (refine .id ?_))
     first
      | fail))
theorem impl_Caught.ans {ga gb : List D → Option D} (o : Std) (ho : o = std) (l : List Nd) (dp : Int) (h0 : PassSpec ga) (h1 : FreeSpec gb) (h2 : Sz l) (h3 : l.length ≤ 1048576) : Ans (env (some ga) (some gb)) 36 [rNd o l, iX dp] (.sl .nw 1 (o.bx fun _ => eK .i64 (caughtM l dp))) := by
 refine Ans.mkA ho _ rfl rfl ?_
 have hsl := seen_len l dp
 repeat' (first
  | (refine .id ?_
     (try (conv => arg 2; cbv))
     first
      | (refine .pE (β := List Int) (fun v => .sl .nw 1 (o.bx fun _ => eK .i64 v)) (as' := [rNd o _, iX _]) (impl_SeenNodes.ans o ho _ _ ?_ ?_ ?_ ?_) ?_; rotate_left 4; rintro v hv)
      | (refine .indF (fun m_ s_ => ∃ (a5 : List Int) (ea6 : Box) (a13 : Int) (a14 : Int) (ta5 ta6 : Tok) (tk : List Nat), s_ = ⟨[Jk, Jk, Jk, Jk, Jk, .sl ta5 1 (o.bx fun _ => eK .i64 a5), .sl ta6 1 ea6, Jk, Jk, Jk, Jk, Jk, rNd o l, iX a13, iX a14] ++ List.replicate 19 Jk, [], [], tk⟩ ∧ Lw tk ta6 ea6.length ∧ ea6 = (o.bx fun _ => eK .i64 (filtN (caughtP l (seenM l dp)) a14.toNat)) ∧ (a5 = seenM l dp ∧ a13 = l.length ∧ 0 ≤ a14 ∧ a14 ≤ l.length) ∧ (l.length - a14).toNat ≤ m_) _ _ ⟨_, _, _, _, _, _, _, by subst ho; rfl, ?_, ?_, ?_, Nat.le_refl _⟩ ?_
         rotate_right
         rintro m_ _ ⟨a5, ea6, a13, a14, ta5, ta6, tk, rfl, hla0, rfl, hIa, hka⟩ iha
         obtain ⟨rfl, i0, i1, i2⟩ := hIa; have hfl := filtN_lenI (caughtP l (seenM l dp)) i2; refine .unloopA ho ?_
         repeat' (first
          | (refine .id ?_
             (try (conv => arg 2; cbv))
             first
              | refine .testT ?_
              | refine .testF ?_
              | refine .t1 ?_
              | refine .t0 ?_
              | (refine .test (fun hr => ?_) (fun hr => ?_) <;> (have hb := hr) <;> (try simp (disch := omega) only [ho, std, wI, lenE, Int.ofNat_eq_natCast, nrm] at hb) <;> (try (exfalso; first | contradiction | omega | exact hb rfl)))
              | (refine .pE (β := Bool) .bool (as' := [rK o _, iX _]) (impl_hasInt.ans o ho _ _ ?_) ?_; rotate_left 1; rintro (_ | _) hv <;> (try simp only [dE] at hv) <;> (try first | contradiction | exact bX hv))
              | (refine .fetchXNd ho ?_ ?_ (fun y hy => ?_); rotate_left 2; rcases y with ⟨y0, y1, y2, y3, y4, y5, y6⟩; (first | (have _h := hyn) | (have hyn := hy)))
              | (refine .need ?_ ?_)
              | (refine .app1w ?_ (fun t' tk' hl' => ?_))
              | (refine iha _ _ ?_ ⟨_, _, _, _, _, _, _, by subst ho; rfl, ?_, ?_, ?_, Nat.le_refl _⟩)
              | (refine .fin ?_; (conv => lhs; cbv) <;> refine congrArg some ?_))
          | ((fail_if_success (refine .id ?_))
             first
              | (exact Lw.nil)
              | (subst ho; exact hla0)
              | (subst ho; exact ⟨(by first | exact hv.symm | rfl), by simp [std, len_eNd], Int.le_refl _, by omega⟩)
              | (subst ho; simp (disch := omega) only [std, wI]; exact pushI (filtN_yes i1 (caught_hit hyn (by dsimp only; assumption) (decide_eq_true (by dsimp only; assumption)))))
              | (subst ho; simp (disch := omega) only [std, wI]; exact congrArg (eK .i64) (filtN_no i1 (by first | exact caught_no1 hyn (by dsimp only; assumption) | exact caught_no2 hyn (decide_eq_false (by dsimp only; assumption)))).symm)
              | ((try clear iha); subst ho; simp (disch := omega) only [std, wI]; exact ⟨by trivial, i0, by omega, by omega⟩)
              | (subst ho; rcases Lw.kind hla0 with rfl | ⟨_, rfl⟩ <;> (refine congrArg (D.sl Tok.nw 1) (congrArg (eK .i64) ?_); rw [filtN_all (by omega) i2]; rfl))
              | assumption
              | omega
              | (subst ho; rfl)
              | (subst ho; simpa [std, lenE] using hl')
              | (subst ho; simp [std, lenE]; omega)
              | (subst ho; simp (disch := omega) only [std, wI, tdiv2, tdivN, lenE] <;> first | done | rfl | omega)))))
  | ((fail_if_success (refine .id ?_))
     first
      | assumption))
theorem spec_DeadNodes.ans {xa xb : Option (List D → Option D)} (o : Std) (ho : o = std) (l : List Nd) (dp : Int) (h0 : Sz l) (h1 : l.length ≤ 1048576) : Ans (env xa xb) 37 [rNd o l, iX dp] (rK o (deadM l dp)) := by
 refine Ans.mkA ho _ rfl rfl ?_
 have hsl := seen_len l dp
 repeat' (first
  | (refine .id ?_
     (try (conv => arg 2; cbv))
     first
      | (refine .pE (β := List Int) (rK o) (as' := [rNd o _, iX _]) (spec_SeenNodes.ans o ho _ _ ?_ ?_) ?_; rotate_left 2; rintro v hv)
      | (refine .indF (fun m_ s_ => ∃ (ea5 : Box) (a6 : List Int) (a7 : Int) (ta5 ta6 : Tok) (tk : List Nat), s_ = ⟨[rNd o l, Jk, Jk, Jk, Jk, .sl ta5 1 ea5, .sl ta6 1 (o.bx fun _ => eK .i64 a6), iX a7] ++ List.replicate 24 Jk, [], [], tk⟩ ∧ Lv tk ta5 ea5.length ∧ ea5 = (o.bx fun _ => eK .i64 (filtN (deadP (seenM l dp)) a7.toNat)) ∧ (a6 = seenM l dp ∧ 0 ≤ a7 ∧ a7 ≤ l.length ∧ (0 < a7 → 0 < ((seenM l dp).length : Int))) ∧ (l.length - a7).toNat ≤ m_) _ _ ⟨_, _, _, _, _, _, by subst ho; rfl, ?_, ?_, ?_, Nat.le_refl _⟩ ?_
         rotate_right
         rintro m_ _ ⟨ea5, a6, a7, ta5, ta6, tk, rfl, hla0, rfl, hIa, hka⟩ iha
         obtain ⟨rfl, i1, i2, i3⟩ := hIa; have hfl := filtN_lenI (deadP (seenM l dp)) i2; refine .unloopA ho ?_
         repeat' (first
          | (refine .id ?_
             (try (conv => arg 2; cbv))
             first
              | refine .testF ?_
              | refine .t1 ?_
              | refine .t0 ?_
              | refine .tN1 ho ?_
              | refine .tN0 ho ?_
              | (refine .test (fun hr => ?_) (fun hr => ?_) <;> (have hb := hr) <;> (try simp (disch := omega) only [ho, std, wI, lenE, Int.ofNat_eq_natCast, nrm] at hb) <;> (try (exfalso; first | contradiction | omega | exact hb rfl)))
              | (refine .pE (β := Bool) .bool (as' := [rK o _, iX _]) (spec_l4Has.ans o ho _ _ ?_) ?_; rotate_left 1; rintro (_ | _) hv <;> (try simp only [dE] at hv) <;> (try first | contradiction | exact bX hv))
              | (refine .need ?_ ?_)
              | (refine .app1 ?_ (fun t' tk' hl' => ?_))
              | (refine iha _ _ ?_ ⟨_, _, _, _, _, _, by subst ho; rfl, ?_, ?_, ?_, Nat.le_refl _⟩)
              | (refine .fin ?_; (conv => lhs; cbv) <;> refine congrArg some ?_))
          | ((fail_if_success (refine .id ?_))
             first
              | (exact Lv.cap _)
              | (subst ho; exact hla0)
              | (subst ho; exact ⟨(by first | exact hv.symm | rfl), Int.le_refl _, by omega, fun h => absurd h (by omega)⟩)
              | (subst ho; simp (disch := omega) only [std, wI]; exact pushI (filtN_yes i1 (dead_hit (decide_eq_false (by assumption)))))
              | (subst ho; simp (disch := omega) only [std, wI]; exact congrArg (eK .i64) (filtN_no i1 (dead_no (decide_eq_true (by assumption)))).symm)
              | ((try clear iha); subst ho; simp (disch := omega) only [std, wI]; exact ⟨by trivial, by omega, by omega, fun _ => by omega⟩)
              | (refine congrArg (D.sl Tok.ro 1) ?_; subst ho; refine congrArg (eK .i64) ?_; first | exact dead_fin i1 i2 i3 (.inl (by omega)) | exact dead_fin i1 i2 i3 (.inr (by omega)))
              | omega
              | (subst ho; rfl)
              | (subst ho; simpa [std, lenE] using hl')
              | (subst ho; simp [std, lenE]; omega)
              | (subst ho; simp (disch := omega) only [std, wI, tdiv2, tdivN, lenE] <;> first | done | rfl | omega)))))
  | ((fail_if_success (refine .id ?_))
     first
      | assumption))
theorem impl_DeadNodes.ans {ga gb : List D → Option D} (o : Std) (ho : o = std) (l : List Nd) (dp : Int) (h0 : PassSpec ga) (h1 : FreeSpec gb) (h2 : Sz l) (h3 : l.length ≤ 1048576) : Ans (env (some ga) (some gb)) 38 [rNd o l, iX dp] (.sl .nw 1 (o.bx fun _ => eK .i64 (deadM l dp))) := by
 refine Ans.mkA ho _ rfl rfl ?_
 have hsl := seen_len l dp
 repeat' (first
  | (refine .id ?_
     (try (conv => arg 2; cbv))
     first
      | (refine .test (fun hr => ?_) (fun hr => ?_) <;> (have hb := hr) <;> (try simp (disch := omega) only [ho, std, wI, lenE, Int.ofNat_eq_natCast, nrm] at hb) <;> (try (exfalso; first | contradiction | omega | exact hb rfl)))
      | (refine .pE (β := List Int) (fun v => .sl .nw 1 (o.bx fun _ => eK .i64 v)) (as' := [rNd o _, iX _]) (impl_SeenNodes.ans o ho _ _ ?_ ?_ ?_ ?_) ?_; rotate_left 4; rintro v hv)
      | (refine .indF (fun m_ s_ => ∃ (a5 : List Int) (ea6 : Box) (a15 : Int) (a16 : Int) (ta5 ta6 : Tok) (tk : List Nat), s_ = ⟨[Jk, Jk, Jk, Jk, Jk, .sl ta5 1 (o.bx fun _ => eK .i64 a5), .sl ta6 1 ea6, Jk, Jk, Jk, Jk, Jk, Jk, Jk, Jk, iX a15, iX a16] ++ List.replicate 12 Jk, [], [], tk⟩ ∧ Lw tk ta6 ea6.length ∧ ea6 = (o.bx fun _ => eK .i64 (filtN (deadP (seenM l dp)) a16.toNat)) ∧ (a5 = seenM l dp ∧ a15 = l.length ∧ 0 ≤ a16 ∧ a16 ≤ l.length) ∧ (l.length - a16).toNat ≤ m_) _ _ ⟨_, _, _, _, _, _, _, by subst ho; rfl, ?_, ?_, ?_, Nat.le_refl _⟩ ?_
         rotate_right
         rintro m_ _ ⟨a5, ea6, a15, a16, ta5, ta6, tk, rfl, hla0, rfl, hIa, hka⟩ iha
         obtain ⟨rfl, i0, i1, i2⟩ := hIa; have hfl := filtN_lenI (deadP (seenM l dp)) i2; refine .unloopA ho ?_
         repeat' (first
          | (refine .id ?_
             (try (conv => arg 2; cbv))
             first
              | refine .tN1 ho ?_
              | refine .tN0 ho ?_
              | (refine .test (fun hr => ?_) (fun hr => ?_) <;> (have hb := hr) <;> (try simp (disch := omega) only [ho, std, wI, lenE, Int.ofNat_eq_natCast, nrm] at hb) <;> (try (exfalso; first | contradiction | omega | exact hb rfl)))
              | (refine .pE (β := Bool) .bool (as' := [rK o _, iX _]) (impl_hasInt.ans o ho _ _ ?_) ?_; rotate_left 1; rintro (_ | _) hv <;> (try simp only [dE] at hv) <;> (try first | contradiction | exact bX hv))
              | (refine .need ?_ ?_)
              | (refine .app1w ?_ (fun t' tk' hl' => ?_))
              | (refine iha _ _ ?_ ⟨_, _, _, _, _, _, _, by subst ho; rfl, ?_, ?_, ?_, Nat.le_refl _⟩)
              | (refine .fin ?_; (conv => lhs; cbv) <;> refine congrArg some ?_))
          | ((fail_if_success (refine .id ?_))
             first
              | (exact Lw.nil)
              | (subst ho; exact hla0)
              | (subst ho; exact ⟨(by first | exact hv.symm | rfl), by simp [std, len_eNd], Int.le_refl _, by omega⟩)
              | (subst ho; simp (disch := omega) only [std, wI]; exact pushI (filtN_yes i1 (dead_hit (decide_eq_false (by assumption)))))
              | (subst ho; simp (disch := omega) only [std, wI]; exact congrArg (eK .i64) (filtN_no i1 (dead_no (decide_eq_true (by assumption)))).symm)
              | ((try clear iha); subst ho; simp (disch := omega) only [std, wI]; exact ⟨by trivial, i0, by omega, by omega⟩)
              | (subst ho; rcases Lw.kind hla0 with rfl | ⟨_, rfl⟩ <;> (refine congrArg (D.sl Tok.nw 1) (congrArg (eK .i64) ?_); rw [filtN_all (by omega) i2, deadM_yes (by rw [hv]; omega)]))
              | omega
              | (subst ho; rfl)
              | (subst ho; simpa [std, lenE] using hl')
              | (subst ho; simp [std, lenE]; omega)
              | (subst ho; simp (disch := omega) only [std, wI, tdiv2, tdivN, lenE] <;> first | done | rfl | omega))))
      | (refine .fin ?_; (conv => lhs; cbv) <;> refine congrArg some ?_))
  | ((fail_if_success (refine .id ?_))
     first
      | (subst ho; rw [deadM_no (by rw [hv]; assumption)]; rfl)
      | assumption))
theorem spec_LambdasOf.ans {xa xb : Option (List D → Option D)} (o : Std) (ho : o = std) (l : List Nd) (h0 : Sz l) (h1 : l.length ≤ 1048576) : Ans (env xa xb) 70 [rNd o l] (rK o (lamsM l)) := by
 refine Ans.mkA ho _ rfl rfl ?_
 repeat' (first
  | (refine .id ?_
     (try (conv => arg 2; cbv))
     first
      | (refine .indF (fun m_ s_ => ∃ (ea3 : Box) (a4 : Int) (ta3 : Tok) (tk : List Nat), s_ = ⟨[rNd o l, Jk, Jk, .sl ta3 1 ea3, iX a4] ++ List.replicate 21 Jk, [], [], tk⟩ ∧ Lv tk ta3 ea3.length ∧ ea3 = (o.bx fun _ => eK .i64 (filtN (fun i => lamB (rN l i)) a4.toNat)) ∧ (0 ≤ a4 ∧ a4 ≤ l.length ∧ (0 < a4 → okM l = true)) ∧ (l.length - a4).toNat ≤ m_) _ _ ⟨_, _, _, _, by subst ho; rfl, ?_, ?_, ?_, Nat.le_refl _⟩ ?_
         rotate_right
         rintro m_ _ ⟨ea3, a4, ta3, tk, rfl, hla0, rfl, hIa, hka⟩ iha
         obtain ⟨i1, i2, i3⟩ := hIa; have hfl := filtN_lenI (fun i => lamB (rN l i)) i2; refine .unloopA ho ?_
         repeat' (first
          | (refine .id ?_
             (try (conv => arg 2; cbv))
             first
              | refine .testT ?_
              | refine .testF ?_
              | refine .t1 ?_
              | refine .t0 ?_
              | (refine .test (fun hr => ?_) (fun hr => ?_) <;> (have hb := hr) <;> (try simp (disch := omega) only [ho, std, wI, lenE, nrm] at hb) <;> (try (exfalso; first | contradiction | omega | exact hb rfl)))
              | (refine .pE (β := Bool) .bool (as' := [rNd o _]) (spec_NodesOk.ans o ho _ ?_ ?_) ?_; rotate_left 2; rintro (_ | _) hv <;> (try simp only [dE] at hv) <;> (try first | contradiction | exact bX hv))
              | (refine .pE (β := Bool) .bool (as' := [.agg [iX _, iX _, iX _, iX _, iX _, .str _, .str _]]) (spec_l16Lambda.ans o ho _ _ _ _ _ _ _) ?_; rintro (_ | _) hv <;> (try simp only [dE] at hv) <;> (try first | contradiction | exact bX hv))
              | (refine .fetchXNd ho ?_ ?_ (fun y hy => ?_); rotate_left 2; rcases y with ⟨y0, y1, y2, y3, y4, y5, y6⟩; (first | (have _h := hyn) | (have hyn := hy)))
              | (refine .need ?_ ?_)
              | (refine .app1 ?_ (fun t' tk' hl' => ?_))
              | (refine iha _ _ ?_ ⟨_, _, _, _, by subst ho; rfl, ?_, ?_, ?_, Nat.le_refl _⟩)
              | (refine .fin ?_; (conv => lhs; cbv) <;> refine congrArg some ?_))
          | ((fail_if_success (refine .id ?_))
             first
              | (exact Lv.cap _)
              | (subst ho; exact hla0)
              | (subst ho; exact ⟨Int.le_refl _, by omega, fun h => absurd h (by omega)⟩)
              | (subst ho; simp (disch := omega) only [std, wI]; exact pushI (filtN_yes i1 (by rw [hyn]; assumption)))
              | (subst ho; simp (disch := omega) only [std, wI]; exact congrArg (eK .i64) (filtN_no i1 (by rw [hyn]; assumption)).symm)
              | ((try clear iha); subst ho; simp (disch := omega) only [std, wI]; exact ⟨by omega, by omega, fun _ => by assumption⟩)
              | (refine congrArg (D.sl Tok.ro 1) ?_; subst ho; refine congrArg (eK .i64) ?_; first | exact lam_fin i1 i2 i3 (.inl (by omega)) | exact lam_fin i1 i2 i3 (.inr (by assumption)))
              | assumption
              | (subst ho; rfl)
              | (subst ho; simpa [std, lenE] using hl')
              | (subst ho; simp [std, lenE]; omega)
              | (subst ho; simp (disch := omega) only [std, wI, tdiv2, tdivN, lenE] <;> first | done | rfl | omega)))))
  | ((fail_if_success (refine .id ?_))
     first
      | fail))
theorem impl_LambdasOf_1.ans {xa xb : Option (List D → Option D)} (o : Std) (ho : o = std) (n_f0 : Int) (n_f1 : Int) (n_f2 : Int) (n_f3 : Int) (n_f4 : Int) (n_f5 : ByteArray) (n_f6 : ByteArray) : Ans (env xa xb) 93 [.agg [iX n_f0, iX n_f1, iX n_f2, iX n_f3, iX n_f4, .str n_f5, .str n_f6]] (.bool (lamB (⟨n_f0, n_f1, n_f2, n_f3, n_f4, n_f5, n_f6⟩ : Nd))) := by
 refine Ans.mkA ho _ rfl rfl ?_
 repeat' (first
  | (refine .id ?_
     (try (conv => arg 2; cbv))
     first
      | refine .t1 ?_
      | refine .t0 ?_
      | (refine .test (fun hr => ?_) (fun hr => ?_) <;> (have hb := hr) <;> (try simp (disch := omega) only [ho, std, wI, lenE, nrm] at hb) <;> (try (exfalso; first | contradiction | omega | exact hb rfl)))
      | (refine .fin ?_; (conv => lhs; cbv) <;> refine congrArg some ?_))
  | ((fail_if_success (refine .id ?_))
     first
      | (subst ho; simp [std, lamB, *]; done)))
theorem impl_nodesOf_l.ans {xa xb : Option (List D → Option D)} (o : Std) (ho : o = std) (l : List Nd) (h0 : Sz l) (h1 : l.length ≤ 1048576) : Ans (env xa xb) 92 [rNd o l, .fn 93 []] (rK o (lamsM l)) := by
 refine Ans.mkA ho _ rfl rfl ?_
 repeat' (first
  | (refine .id ?_
     (try (conv => arg 2; cbv))
     first
      | refine .tN1 ho ?_
      | refine .tN0 ho ?_
      | (refine .pE (β := Bool) .bool (as' := [rNd o _]) (impl_NodesOk.ans o ho _ ?_ ?_) ?_; rotate_left 2; rintro (_ | _) hv <;> (try simp only [dE] at hv) <;> (try first | contradiction | exact bX hv))
      | (refine .indF (fun m_ s_ => ∃ (ea5 : Box) (a12 : Int) (a13 : Int) (ta5 : Tok) (tk : List Nat), s_ = ⟨[Jk, .fn 93 [], Jk, Jk, Jk, .sl ta5 1 ea5, Jk, Jk, Jk, Jk, Jk, rNd o l, iX a12, iX a13] ++ List.replicate 13 Jk, [], [], tk⟩ ∧ Lv tk ta5 ea5.length ∧ ea5 = (o.bx fun _ => eK .i64 (filtN (fun i => lamB (rN l i)) a13.toNat)) ∧ (a12 = l.length ∧ 0 ≤ a13 ∧ a13 ≤ l.length) ∧ (l.length - a13).toNat ≤ m_) _ _ ⟨_, _, _, _, _, by subst ho; rfl, ?_, ?_, ?_, Nat.le_refl _⟩ ?_
         rotate_right
         rintro m_ _ ⟨ea5, a12, a13, ta5, tk, rfl, hla0, rfl, hIa, hka⟩ iha
         obtain ⟨i0, i1, i2⟩ := hIa; have hfl := filtN_lenI (fun i => lamB (rN l i)) i2; refine .unloopA ho ?_
         repeat' (first
          | (refine .id ?_
             (try (conv => arg 2; cbv))
             first
              | refine .testT ?_
              | refine .testF ?_
              | (refine .test (fun hr => ?_) (fun hr => ?_) <;> (have hb := hr) <;> (try simp (disch := omega) only [ho, std, wI, lenE, nrm] at hb) <;> (try (exfalso; first | contradiction | omega | exact hb rfl)))
              | (refine .pE (β := Bool) .bool (as' := [.agg [iX _, iX _, iX _, iX _, iX _, .str _, .str _]]) (impl_LambdasOf_1.ans o ho _ _ _ _ _ _ _) ?_; rintro (_ | _) hv <;> (try simp only [dE] at hv) <;> (try first | contradiction | exact bX hv))
              | (refine .fetchXNd ho ?_ ?_ (fun y hy => ?_); rotate_left 2; rcases y with ⟨y0, y1, y2, y3, y4, y5, y6⟩; (first | (have _h := hyn) | (have hyn := hy)))
              | (refine .need ?_ ?_)
              | (refine .app1 ?_ (fun t' tk' hl' => ?_))
              | (refine iha _ _ ?_ ⟨_, _, _, _, _, by subst ho; rfl, ?_, ?_, ?_, Nat.le_refl _⟩)
              | (refine .fin ?_; (conv => lhs; cbv) <;> refine congrArg some ?_))
          | ((fail_if_success (refine .id ?_))
             first
              | (exact Lv.nil)
              | (subst ho; exact hla0)
              | (subst ho; exact ⟨by simp [std, len_eNd], Int.le_refl _, by omega⟩)
              | (subst ho; simp (disch := omega) only [std, wI]; exact pushI (filtN_yes i1 (by rw [hyn]; assumption)))
              | (subst ho; simp (disch := omega) only [std, wI]; exact congrArg (eK .i64) (filtN_no i1 (by rw [hyn]; assumption)).symm)
              | ((try clear iha); subst ho; simp (disch := omega) only [std, wI]; exact ⟨i0, by omega, by omega⟩)
              | (refine congrArg (D.sl Tok.ro 1) ?_; subst ho; refine congrArg (eK .i64) ?_; rw [filtN_all (by omega) i2, lams_yes (by assumption)])
              | assumption
              | omega
              | (subst ho; rfl)
              | (subst ho; simpa [std, lenE] using hl')
              | (subst ho; simp [std, lenE]; omega)
              | (subst ho; simp (disch := omega) only [std, wI, tdiv2, tdivN, lenE] <;> first | done | rfl | omega))))
      | (refine .fin ?_; (conv => lhs; cbv) <;> refine congrArg some ?_))
  | ((fail_if_success (refine .id ?_))
     first
      | (subst ho; rw [lams_no (by assumption)]; rfl)
      | assumption))
theorem impl_LambdasOf.ans {xa xb : Option (List D → Option D)} (o : Std) (ho : o = std) (l : List Nd) (h0 : Sz l) (h1 : l.length ≤ 1048576) : Ans (env xa xb) 71 [rNd o l] (rK o (lamsM l)) := by
 refine Ans.mkA ho _ rfl rfl ?_
 repeat' (first
  | (refine .id ?_
     (try (conv => arg 2; cbv))
     first
      | (refine .pE (β := List Int) (rK o) (as' := [rNd o _, .fn 93 []]) (impl_nodesOf_l.ans o ho _ ?_ ?_) ?_; rotate_left 2; rintro v hv)
      | (refine .fin ?_; (conv => lhs; cbv) <;> refine congrArg some ?_))
  | ((fail_if_success (refine .id ?_))
     first
      | (rw [hv])
      | assumption))
theorem spec_DeadFuns.ans {xa xb : Option (List D → Option D)} (o : Std) (ho : o = std) (l : List Nd) (dp : Int) (h0 : Sz l) (h1 : l.length ≤ 1048576) : Ans (env xa xb) 39 [rNd o l, iX dp] (rK o (dfunsM l dp)) := by
 refine Ans.mkA ho _ rfl rfl ?_
 have hdl := dead_len l dp; have hll := lams_len l
 repeat' (first
  | (refine .id ?_
     (try (conv => arg 2; cbv))
     first
      | (refine .pE (β := List Int) (rK o) (as' := [rNd o _, iX _]) (spec_DeadNodes.ans o ho _ _ ?_ ?_) ?_; rotate_left 2; rintro v hv)
      | (refine .pE (β := List Int) (rK o) (as' := [rNd o _]) (spec_LambdasOf.ans o ho _ ?_ ?_) ?_; rotate_left 2; rintro v hv)
      | (refine .indF (fun m_ s_ => ∃ (ea5 : Box) (a6 : List Int) (a7 : List Int) (a8 : Int) (ta5 ta6 ta7 : Tok) (tk : List Nat), s_ = ⟨[rNd o l, Jk, Jk, Jk, Jk, .sl ta5 1 ea5, .sl ta6 1 (o.bx fun _ => eK .i64 a6), .sl ta7 1 (o.bx fun _ => eK .i64 a7), iX a8] ++ List.replicate 30 Jk, [], [], tk⟩ ∧ Lv tk ta5 ea5.length ∧ ea5 = (o.bx fun _ => eK .i64 ((a7.take a8.toNat).filter (dfP l dp))) ∧ (a6 = deadM l dp ∧ a7 = lamsM l ∧ 0 ≤ a8 ∧ a8 ≤ (lamsM l).length) ∧ ((lamsM l).length - a8).toNat ≤ m_) _ _ ⟨_, _, _, _, _, _, _, _, by subst ho; rfl, ?_, ?_, ?_, Nat.le_refl _⟩ ?_
         rotate_right
         rintro m_ _ ⟨ea5, a6, a7, a8, ta5, ta6, ta7, tk, rfl, hla0, rfl, hIa, hka⟩ iha
         obtain ⟨rfl, rfl, i1, i2⟩ := hIa; have hfl := filt_len (dfP l dp) (lamsM l) a8.toNat; refine .unloopA ho ?_
         repeat' (first
          | (refine .id ?_
             (try (conv => arg 2; cbv))
             first
              | refine .testT ?_
              | refine .testF ?_
              | (refine .test (fun hr => ?_) (fun hr => ?_) <;> (have hb := hr) <;> (try simp (disch := omega) only [ho, std, wI, lenE, nrm] at hb) <;> (try (exfalso; first | contradiction | omega | exact hb rfl)))
              | (refine .pE (β := Bool) .bool (as' := [rK o _, iX _]) (spec_l4Has.ans o ho _ _ ?_) ?_; rotate_left 1; rintro (_ | _) hv <;> (try simp only [dE] at hv) <;> (try first | contradiction | exact bX hv))
              | (refine .fetchYK ho ?_ ?_ (by with_reducible assumption) ?_)
              | (refine .fetchXK ho ?_ ?_ (fun y hy => ?_); rotate_left 2; (first | (have _h := hyk) | (have hyk := hy; have hat := dfun_at i1 (by omega) hyk)))
              | (refine .fetchXNd ho ?_ ?_ (fun y hy => ?_); rotate_left 2; rcases y with ⟨y0, y1, y2, y3, y4, y5, y6⟩; (first | (have _h := hyn) | (have hyn := hy)))
              | (refine .need ?_ ?_)
              | (refine .app1 ?_ (fun t' tk' hl' => ?_))
              | (refine iha _ _ ?_ ⟨_, _, _, _, _, _, _, _, by subst ho; rfl, ?_, ?_, ?_, Nat.le_refl _⟩)
              | (refine .fin ?_; (conv => lhs; cbv) <;> refine congrArg some ?_))
          | ((fail_if_success (refine .id ?_))
             first
              | (exact Lv.cap _)
              | (subst ho; exact hla0)
              | (subst ho; exact ⟨(by first | (symm; assumption) | rfl), (by first | (symm; assumption) | rfl), Int.le_refl _, by omega⟩)
              | (exact hat.1)
              | (exact hat.2)
              | (subst ho; simp (disch := omega) only [std, wI]; exact pushI (filt_yes i1 (by omega) hyk (dfun_hit hyn (by dsimp only; assumption))))
              | (subst ho; simp (disch := omega) only [std, wI]; exact congrArg (eK .i64) (filt_no i1 (by omega) hyk (dfun_no hyn (by dsimp only; assumption))).symm)
              | ((try clear iha); subst ho; simp (disch := omega) only [std, wI]; exact ⟨by trivial, by trivial, by omega, by omega⟩)
              | (refine congrArg (D.sl Tok.ro 1) ?_; subst ho; exact congrArg (eK .i64) (dfun_all (by omega)))
              | assumption
              | omega
              | (subst ho; rfl)
              | (subst ho; simpa [std, lenE] using hl')
              | (subst ho; simp [std, lenE]; omega)
              | (subst ho; simp (disch := omega) only [std, wI, tdiv2, tdivN, lenE] <;> first | done | rfl | omega)))))
  | ((fail_if_success (refine .id ?_))
     first
      | assumption))
theorem impl_DeadFuns.ans {ga gb : List D → Option D} (o : Std) (ho : o = std) (l : List Nd) (dp : Int) (h0 : PassSpec ga) (h1 : FreeSpec gb) (h2 : Sz l) (h3 : l.length ≤ 1048576) : Ans (env (some ga) (some gb)) 40 [rNd o l, iX dp] (.sl .nw 1 (o.bx fun _ => eK .i64 (dfunsM l dp))) := by
 refine Ans.mkA ho _ rfl rfl ?_
 have hdl := dead_len l dp; have hll := lams_len l
 repeat' (first
  | (refine .id ?_
     (try (conv => arg 2; cbv))
     first
      | (refine .pE (β := List Int) (fun v => .sl .nw 1 (o.bx fun _ => eK .i64 v)) (as' := [rNd o _, iX _]) (impl_DeadNodes.ans o ho _ _ ?_ ?_ ?_ ?_) ?_; rotate_left 4; rintro v hv)
      | (refine .pE (β := List Int) (rK o) (as' := [rNd o _]) (impl_LambdasOf.ans o ho _ ?_ ?_) ?_; rotate_left 2; rintro v hv)
      | (refine .indF (fun m_ s_ => ∃ (a5 : List Int) (ea6 : Box) (a13 : List Int) (a14 : Int) (a15 : Int) (ta5 ta6 ta13 : Tok) (tk : List Nat), s_ = ⟨[rNd o l, Jk, Jk, Jk, Jk, .sl ta5 1 (o.bx fun _ => eK .i64 a5), .sl ta6 1 ea6, Jk, Jk, Jk, Jk, Jk, Jk, .sl ta13 1 (o.bx fun _ => eK .i64 a13), iX a14, iX a15] ++ List.replicate 16 Jk, [], [], tk⟩ ∧ Lw tk ta6 ea6.length ∧ ea6 = (o.bx fun _ => eK .i64 ((a13.take a15.toNat).filter (dfP l dp))) ∧ (a5 = deadM l dp ∧ a13 = lamsM l ∧ a14 = (lamsM l).length ∧ 0 ≤ a15 ∧ a15 ≤ (lamsM l).length) ∧ ((lamsM l).length - a15).toNat ≤ m_) _ _ ⟨_, _, _, _, _, _, _, _, _, by subst ho; rfl, ?_, ?_, ?_, Nat.le_refl _⟩ ?_
         rotate_right
         rintro m_ _ ⟨a5, ea6, a13, a14, a15, ta5, ta6, ta13, tk, rfl, hla0, rfl, hIa, hka⟩ iha
         obtain ⟨rfl, rfl, i0, i1, i2⟩ := hIa; have hfl := filt_len (dfP l dp) (lamsM l) a15.toNat; refine .unloopA ho ?_
         repeat' (first
          | (refine .id ?_
             (try (conv => arg 2; cbv))
             first
              | refine .testT ?_
              | refine .testF ?_
              | (refine .test (fun hr => ?_) (fun hr => ?_) <;> (have hb := hr) <;> (try simp (disch := omega) only [ho, std, wI, lenE, nrm] at hb) <;> (try (exfalso; first | contradiction | omega | exact hb rfl)))
              | (refine .pE (β := Bool) .bool (as' := [rK o _, iX _]) (impl_hasInt.ans o ho _ _ ?_) ?_; rotate_left 1; rintro (_ | _) hv <;> (try simp only [dE] at hv) <;> (try first | contradiction | exact bX hv))
              | (refine .fetchXK ho ?_ ?_ (fun y hy => ?_); rotate_left 2; (first | (have _h := hyk) | (have hyk := hy; have hat := dfun_at i1 (by omega) hyk)))
              | (refine .fetchXNd ho ?_ ?_ (fun y hy => ?_); rotate_left 2; rcases y with ⟨y0, y1, y2, y3, y4, y5, y6⟩; (first | (have _h := hyn) | (have hyn := hy)))
              | (refine .need ?_ ?_)
              | (refine .app1w ?_ (fun t' tk' hl' => ?_))
              | (refine iha _ _ ?_ ⟨_, _, _, _, _, _, _, _, _, by subst ho; rfl, ?_, ?_, ?_, Nat.le_refl _⟩)
              | (refine .fin ?_; (conv => lhs; cbv) <;> refine congrArg some ?_))
          | ((fail_if_success (refine .id ?_))
             first
              | (exact Lw.nil)
              | (subst ho; exact hla0)
              | (subst ho; exact ⟨(by first | (symm; assumption) | rfl), (by first | (symm; assumption) | rfl), by rw [hv]; simp [std, len_eK], Int.le_refl _, by omega⟩)
              | (exact hat.1)
              | (exact hat.2)
              | (subst ho; simp (disch := omega) only [std, wI]; exact pushI (filt_yes i1 (by omega) hyk (dfun_hit hyn (by dsimp only; assumption))))
              | (subst ho; simp (disch := omega) only [std, wI]; exact congrArg (eK .i64) (filt_no i1 (by omega) hyk (dfun_no hyn (by dsimp only; assumption))).symm)
              | ((try clear iha); subst ho; simp (disch := omega) only [std, wI]; exact ⟨by trivial, by trivial, i0, by omega, by omega⟩)
              | (subst ho; rcases Lw.kind hla0 with rfl | ⟨_, rfl⟩ <;> exact congrArg (D.sl Tok.nw 1) (congrArg (eK .i64) (dfun_all (by omega))))
              | assumption
              | omega
              | (subst ho; rfl)
              | (subst ho; simpa [std, lenE] using hl')
              | (subst ho; simp [std, lenE]; omega)
              | (subst ho; simp (disch := omega) only [std, wI, tdiv2, tdivN, lenE] <;> first | done | rfl | omega)))))
  | ((fail_if_success (refine .id ?_))
     first
      | assumption))
theorem spec_l22Part_ih.ans {xa xb : Option (List D → Option D)} (o : Std) (ho : o = std) (l : List Nd) (i : Int) (dead : List Int) (h0 : OkT l) (h1 : Sz l) (h2 : 0 ≤ i ∧ i < l.length) (h3 : dead.length ≤ 1048576) (h4 : ∀ x, x ∈ kidsM (rN l i) → Ans (env xa xb) 94 [rNd o l, iX x, rK o dead] (rNd o (partM l dead x))) : Ans (env xa xb) 94 [rNd o l, iX i, rK o dead] (rNd o (partM l dead i)) := by
 refine Ans.mkA ho _ rfl rfl ?_
 have hs := h0.size
 repeat' (first
  | (refine .id ?_
     (try (conv => arg 2; cbv))
     first
      | refine .testT ?_
      | refine .testF ?_
      | (refine .pE2 (β := Bool) .bool (as' := [rK o _, iX _]) (spec_l4Has.ans o ho _ _ ?_) ?_; rotate_left 1; rintro (_ | _) hv <;> (try simp only [dE] at hv) <;> (try first | contradiction | exact bX hv))
      | (refine .pE2 (β := List Nd) (rNd o) (as' := [iX _]) (spec_l3Int.ans o ho _) ?_; rintro v hv)
      | (refine .pE2 (β := List Int) (rK o) (as' := [.agg [iX _, iX _, iX _, iX _, iX _, .str _, .str _]]) (spec_Kids.ans o ho _ _ _ _ _ _ _) ?_; rintro v hv; (obtain ⟨ks, e_ks⟩ : ∃ z, z = v := ⟨_, rfl⟩; subst e_ks; have hks : kidsM (rN l i) = ks := (by rw [hyn]; exact hv); have hkl : ks.length ≤ 3 := (by rw [← hks, len_kidsM]; exact arityM_le _)))
      | (refine .fetchXNd ho ?_ ?_ (fun y hy => ?_); rotate_left 2; rcases y with ⟨y0, y1, y2, y3, y4, y5, y6⟩; (first | (have _h := hyn) | (have hyn := hy)))
      | (refine .indF (fun m_ s_ => ∃ (ea9 : Box) (a10 : Int) (ta9 : Tok) (tk : List Nat), s_ = ⟨[rNd o l, Jk, rK o dead, Jk, Jk, Jk, Jk, .pbx (.loc 0) 0, rK o ks, .sl ta9 1 ea9, iX a10] ++ List.replicate 67 Jk, [[[iX y0, iX y1, iX y2, iX y3, iX y4, .str y5, .str y6]]], [], tk⟩ ∧ Lv tk ta9 ea9.length ∧ ea9 = (o.bx fun _ => eNN ((ks.take a10.toNat).map (partM l dead))) ∧ (0 ≤ a10 ∧ a10 ≤ ks.length) ∧ (ks.length - a10).toNat ≤ m_) _ _ ⟨_, _, _, _, by subst ho; rfl, ?_, ?_, ?_, Nat.le_refl _⟩ ?_
         rotate_right
         rintro m_ _ ⟨ea9, a10, ta9, tk, rfl, hla0, rfl, hIa, hka⟩ iha
         obtain ⟨i1, i2⟩ := hIa; refine .unloopA ho ?_
         repeat' (first
          | (refine .id ?_
             (try (conv => arg 2; cbv))
             first
              | (refine .test (fun hr => ?_) (fun hr => ?_) <;> (have hb := hr) <;> (try simp (disch := omega) only [ho, std, wI, lenE, len_eNN, Int.ofNat_eq_natCast, nrm] at hb) <;> (try (exfalso; first | contradiction | omega | exact hb rfl)))
              | (refine .pE2 (β := List Nd) (rNd o) (as' := [rNd o _, iX _, rK o _]) (h4 _ ?_) ?_; rotate_left 1; rintro v hv)
              | (refine .pE2 (β := List Nd) (rNd o) (as' := [.agg [iX _, iX _, iX _, iX _, iX _, .str _, .str _], .sl .ro 1 (o.bx fun _ => eNN [_])]) (spec_l3Make.ans o ho _ _ _ _ _ _ _ _ ?_ ?_) ?_; rotate_left 2; rintro v hv)
              | (refine .pE2 (β := List Nd) (rNd o) (as' := [.agg [iX _, iX _, iX _, iX _, iX _, .str _, .str _], .sl .ro 1 (o.bx fun _ => eNN [_, _])]) (spec_l3Make.ans o ho _ _ _ _ _ _ _ _ ?_ ?_) ?_; rotate_left 2; rintro v hv)
              | (refine .pE2 (β := List Nd) (rNd o) (as' := [.agg [iX _, iX _, iX _, iX _, iX _, .str _, .str _], .sl .ro 1 (o.bx fun _ => eNN [_, _, _])]) (spec_l3Make.ans o ho _ _ _ _ _ _ _ _ ?_ ?_) ?_; rotate_left 2; rintro v hv)
              | (refine .fetchXK ho ?_ ?_ (fun y hy => ?_); rotate_left 2; (first | (have _h := hyk) | (have hyk := hy; have hmem : rI ks a10 ∈ ks := rdG_mem (z := 0) i1 (by omega))))
              | (refine .fetchXNN ho ?_ ?_ (fun y hy => ?_); rotate_left 2; (first | (have _h := hp3) | (have _h := hp2; have hp3 := hy) | (have _h := hp1; have hp2 := hy) | (have hp1 := hy)))
              | (refine .needD ho (by kernel_rfl) ?_)
              | (refine .need ?_ ?_)
              | (refine .app1 ?_ (fun t' tk' hl' => ?_))
              | (refine iha _ _ ?_ ⟨_, _, _, _, by subst ho; rfl, ?_, ?_, ?_, Nat.le_refl _⟩)
              | (refine .fin ?_; (conv => lhs; cbv) <;> refine congrArg some ?_))
          | ((fail_if_success (refine .id ?_))
             first
              | (exact Lv.cap _)
              | (subst ho; exact hla0)
              | (subst ho; exact ⟨Int.le_refl _, by omega⟩)
              | (rw [hks, ← hyk]; exact hmem)
              | (refine congrArg (D.sl Tok.ro 7) ?_; subst ho; exact part_none h0 h2.1 h2.2 (by assumption) hyn hks (a := a10) (by omega) hb)
              | (rw [list1 (by omega) hp1]; exact parts_bd h0 h2.1 h2.2 hks _)
              | (rw [← hv]; exact congrArg (fun x => D.sl Tok.ro 7 (o.bx fun _ => eNd x)) (part_fin h0 h2.1 h2.2 (by assumption) hyn hks (a := a10) (by omega) (list1 (by omega) hp1)))
              | (rw [list2 (by omega) hp1 hp2]; exact parts_bd h0 h2.1 h2.2 hks _)
              | (rw [← hv]; exact congrArg (fun x => D.sl Tok.ro 7 (o.bx fun _ => eNd x)) (part_fin h0 h2.1 h2.2 (by assumption) hyn hks (a := a10) (by omega) (list2 (by omega) hp1 hp2)))
              | (rw [list3 (by have := List.length_take_le a10.toNat ks; rw [List.length_map] at *; omega) hp1 hp2 hp3]; exact parts_bd h0 h2.1 h2.2 hks _)
              | (rw [← hv]; exact congrArg (fun x => D.sl Tok.ro 7 (o.bx fun _ => eNd x)) (part_fin h0 h2.1 h2.2 (by assumption) hyn hks (a := a10) (by omega) (list3 (by have := List.length_take_le a10.toNat ks; rw [List.length_map] at *; omega) hp1 hp2 hp3)))
              | ((try clear iha); subst ho; simp (disch := omega) only [std, wI]; exact push_eNN (by rw [take_succG 0 i1 (by omega), show rdG 0 ks a10 = y from hyk, List.map_append, ← hv]; rfl))
              | assumption
              | omega
              | (subst ho; rfl)
              | (subst ho; simp [std, lenE]; done)
              | (subst ho; simpa [std, lenE] using hl')
              | (subst ho; simp (disch := omega) only [std, wI, tdiv2, tdivN, lenE] <;> first | done | rfl | omega)
              | (subst ho; simp [std, lenE, len_eNN]; omega))))
      | (refine .fin ?_; (conv => lhs; cbv) <;> refine congrArg some ?_))
  | ((fail_if_success (refine .id ?_))
     first
      | (subst hv; rw [part0 h0 h2.1 h2.2 (by assumption)]; subst ho; rfl)
      | assumption
      | omega))
end Go.Mach
