/- What the statements over Solve share: part 31 of a proof by an executable machine over the program's code. -/
import Derived.Test.YtbkpkchegopmiaaGreatDoorMb16
import Derived.Test.YtbkpkchegopmiaaGreatDoorMb22
import Derived.Test.YtbkpkchegopmiaaGreatDoorMb25
import Derived.Test.YtbkpkchegopmiaaGreatDoorMb27
import Derived.Test.YtbkpkchegopmiaaGreatDoorMb30
section
set_option linter.unusedVariables false
set_option linter.unusedSimpArgs false
namespace Go.Mach
open Go Go.RowKit Go.Proofs
set_option maxRecDepth 100000
set_option maxHeartbeats 6000000
theorem laws_szNodeS.ans {xa xb : Option (List D → Option D)} (o : Std) (ho : o = std) (a : List Nd) (left : Int) (h0 : left = 1048576) (h1 : Bg a) : AnsP (env xa xb) 15 [.sl .ro 7 (o.bx fun _ => eNd a), .int .i64 left] (fun d_ => ∃ (r : Int), d_ = .int .i64 (r) ∧ (0 ≤ r → SzL a)) := by
  refine AnsP.mkA ho _ rfl rfl ?_
  have hbg := h1.1
  repeat' (first
    | (refine Den.id ?_
       (try (conv => arg 2; cbv))
       first
         | (refine Den.test (fun hr => ?_) (fun hr => ?_) <;> (have hb := hr) <;> (try simp (disch := omega) only [ho, std, wI, len_eK, len_eB, len_eNd, len_eLNd, len_eFc, len_eAb, len_eBd, len_eEd, len_eLBd, Classical.not_not, decide_eq_true_eq, decide_eq_false_iff_not, beq_iff_eq, beq_eq_false_iff_ne, ne_eq, Bool.not_eq_true', Bool.not_eq_false', Bool.not_eq_true, Bool.not_eq_false, gt_iff_lt, ge_iff_le, Int.not_lt, Int.not_le] at hb) <;> (try (exfalso; first | contradiction | omega | exact hb rfl)))
         | (refine Den.indF (fun m_ s_ => ∃ (a1 : Int) (a5 : Int) (tk : List Nat), s_ = ⟨[.sl .ro 7 (o.bx fun _ => eNd a), .int .i64 a1, .junk, .junk, .junk, .int .i64 a5] ++ List.replicate 21 .junk, [], [], tk⟩ ∧ ((a.length : Int) ≤ 1048576 ∧ 0 ≤ a1 ∧ a1 ≤ 1048576 ∧ 0 ≤ a5 ∧ a5 ≤ a.length ∧ (∀ x ∈ a.take a5.toNat, x.f5.size ≤ 1048576 ∧ x.f6.size ≤ 1048576)) ∧ (a.length - a5).toNat ≤ m_) _ _ ⟨_, _, _, by subst ho; rfl, ?_, Nat.le_refl _⟩ ?_
            rotate_right
            rintro m_ _ ⟨a1, a5, tk, rfl, hIa, hka⟩ iha
            obtain ⟨i0, i3, i4, i1, i2, i5⟩ := hIa; refine Den.unloopA ho ?_
            repeat' (first
              | (refine Den.id ?_
                 (try (conv => arg 2; cbv))
                 first
                   | (refine Den.test (fun hr => ?_) (fun hr => ?_) <;> (have hb := hr) <;> (try simp (disch := omega) only [ho, std, wI, len_eK, len_eB, len_eNd, len_eLNd, len_eFc, len_eAb, len_eBd, len_eEd, len_eLBd, Classical.not_not, decide_eq_true_eq, decide_eq_false_iff_not, beq_iff_eq, beq_eq_false_iff_ne, ne_eq, Bool.not_eq_true', Bool.not_eq_false', Bool.not_eq_true, Bool.not_eq_false, gt_iff_lt, ge_iff_le, Int.not_lt, Int.not_le] at hb) <;> (try (exfalso; first | contradiction | omega | exact hb rfl)))
                   | (refine Den.pcallP (as' := [.agg [.int .i64 _, .int .i64 _, .int .i64 _, .int .i64 _, .int .i64 _, .str _, .str _], .int .i64 _]) (by first | with_reducible rfl | (subst ho; rfl)) (laws_szNode.ans o ho _ _ _ _ _ _ _ _ ?_ ?_) ?_; rotate_left 2; rintro _ ⟨r, rfl, hv⟩)
                   | (refine Den.fetchXNd ho ?_ ?_ (fun y hy => ?_); rotate_left 2; rcases y with ⟨y0, y1, y2, y3, y4, y5, y6⟩; (have hbs := h1.at i1 (by omega) hy; dsimp only at hbs; have hyl := hy))
                   | (refine iha _ _ ?_ ⟨_, _, _, by subst ho; rfl, ?_, Nat.le_refl _⟩)
                   | (refine Den.done ⟨by first | exact Or.inl rfl | exact Or.inr rfl, ?_⟩; refine ⟨_, by (conv => lhs; cbv) <;> rfl, ?_⟩))
              | ((fail_if_success (refine Den.id ?_))
                 first
                   | (exact ⟨_, rfl, fun h => absurd h (by decide)⟩)
                   | (exact ⟨_, rfl, fun _ => sz_end (r := 0) (by omega) i0 i5⟩)
                   | (subst ho; simp (disch := omega) only [std, wI, len_eNd] at *; exact ⟨by omega, by omega, by omega, Int.le_refl _, by omega, by simp⟩)
                   | (simp (disch := omega) only [ho, std, wI]; exact ⟨i0, by omega, by omega, by omega, by omega, sz_step i1 (by omega) i5 hyl (hv.2.2 (by omega))⟩)
                   | assumption
                   | omega
                   | (subst ho; simp (disch := omega) only [std, wI, tdiv2, tdivN, len_eFc, len_eNd, len_eBd, len_eAb, len_eLBd, len_eK, len_eB] <;> first | done | rfl | omega))))
         | (refine Den.done ⟨by first | exact Or.inl rfl | exact Or.inr rfl, ?_⟩; refine ⟨_, by (conv => lhs; cbv) <;> rfl, ?_⟩))
    | ((fail_if_success (refine Den.id ?_))
       first
         | (exact ⟨_, rfl, fun h => absurd h (by decide)⟩)))
theorem laws_eqNodeS.ans {xa xb : Option (List D → Option D)} (o : Std) (ho : o = std) (a : List Nd) (b : List Nd) (h0 : a = b) (h1 : a.length ≤ 1048576) : Ans (env xa xb) 19 [.sl .ro 7 (o.bx fun _ => eNd a), .sl .ro 7 (o.bx fun _ => eNd b)] (.bool (true)) := by
  refine Ans.mkA ho _ rfl rfl ?_
  subst h0
  repeat' (first
    | (refine Den.id ?_
       (try (conv => arg 2; cbv))
       first
         | (refine Den.test (fun hr => ?_) (fun hr => ?_) <;> (have hb := hr) <;> (try simp (disch := omega) only [ho, std, wI, len_eK, len_eB, len_eNd, len_eLNd, len_eFc, len_eAb, len_eBd, len_eEd, len_eLBd, Classical.not_not, decide_eq_true_eq, decide_eq_false_iff_not, beq_iff_eq, beq_eq_false_iff_ne, ne_eq, Bool.not_eq_true', Bool.not_eq_false', Bool.not_eq_true, Bool.not_eq_false, gt_iff_lt, ge_iff_le, Int.not_lt, Int.not_le] at hb) <;> (try (exfalso; first | contradiction | omega | exact hb rfl)))
         | (refine Den.indF (fun m_ s_ => ∃ (a5 : Int) (tk : List Nat), s_ = ⟨[.sl .ro 7 (o.bx fun _ => eNd a), .sl .ro 7 (o.bx fun _ => eNd a), .junk, .junk, .junk, .int .i64 a5] ++ List.replicate 21 .junk, [], [], tk⟩ ∧ (0 ≤ a5 ∧ a5 ≤ a.length) ∧ (a.length - a5).toNat ≤ m_) _ _ ⟨_, _, by subst ho; rfl, ?_, Nat.le_refl _⟩ ?_
            rotate_right
            rintro m_ _ ⟨a5, tk, rfl, hIa, hka⟩ iha
            obtain ⟨i1, i2⟩ := hIa; refine Den.unloopA ho ?_
            repeat' (first
              | (refine Den.id ?_
                 (try (conv => arg 2; cbv))
                 first
                   | refine Den.testN0 ho (by first | with_reducible assumption | with_reducible rfl) ?_
                   | (refine Den.test (fun hr => ?_) (fun hr => ?_) <;> (have hb := hr) <;> (try simp (disch := omega) only [ho, std, wI, len_eK, len_eB, len_eNd, len_eLNd, len_eFc, len_eAb, len_eBd, len_eEd, len_eLBd, Classical.not_not, decide_eq_true_eq, decide_eq_false_iff_not, beq_iff_eq, beq_eq_false_iff_ne, ne_eq, Bool.not_eq_true', Bool.not_eq_false', Bool.not_eq_true, Bool.not_eq_false, gt_iff_lt, ge_iff_le, Int.not_lt, Int.not_le] at hb) <;> (try (exfalso; first | contradiction | omega | exact hb rfl)))
                   | (refine Den.pcallE (β := Bool) (fun v => .bool v) (as' := [.agg [.int .i64 _, .int .i64 _, .int .i64 _, .int .i64 _, .int .i64 _, .str _, .str _], .agg [.int .i64 _, .int .i64 _, .int .i64 _, .int .i64 _, .int .i64 _, .str _, .str _]]) (by first | with_reducible rfl | (subst ho; rfl)) (laws_eqNode.ans o ho _ _ _ _ _ _ _ _ _ _ _ _ _ _ ?_) ?_; rotate_left 1; rintro (_ | _) hv <;> (try simp only [decide_eq_true_eq, decide_eq_false_iff_not] at hv) <;> (try first | contradiction | exact absurd (hv.symm.trans (show _ = false by assumption)) (by decide) | exact absurd (hv.symm.trans (show _ = true by assumption)) (by decide)))
                   | (refine Den.fetchYNd ho ?_ ?_ (by with_reducible assumption) ?_)
                   | (refine Den.fetchXNd ho ?_ ?_ (fun y hy => ?_); rotate_left 2; rcases y with ⟨y0, y1, y2, y3, y4, y5, y6⟩)
                   | (refine Den.needD ho (by kernel_rfl) ?_)
                   | (refine iha _ _ ?_ ⟨_, _, by subst ho; rfl, ?_, Nat.le_refl _⟩)
                   | (refine Den.done ⟨by first | exact Or.inl rfl | exact Or.inr rfl, ?_⟩; (conv => lhs; cbv) <;> refine congrArg some ?_))
              | ((fail_if_success (refine Den.id ?_))
                 first
                   | (exact ⟨rfl, rfl, rfl, rfl, rfl, rfl, rfl⟩)
                   | (simp (disch := omega) only [ho, std, wI]; exact ⟨by omega, by omega⟩)
                   | assumption
                   | omega
                   | (subst ho; simp (disch := omega) only [std, wI, tdiv2, tdivN, len_eFc, len_eNd, len_eBd, len_eAb, len_eLBd, len_eK, len_eB] <;> first | done | rfl | omega)))))
    | ((fail_if_success (refine Den.id ?_))
       first
         | fail))
theorem laws_toNodeS.ans {xa xb : Option (List D → Option D)} (o : Std) (ho : o = std) (a : List Nd) (h0 : SzL a) : Ans (env xa xb) 17 [.sl .ro 7 (o.bx fun _ => eNd a)] (.sl .nw 7 (o.bx fun _ => eNd (a))) := by
  refine Ans.mkA ho _ rfl rfl ?_
  have hbg := h0.1
  repeat' (first
    | (refine Den.id ?_
       (try (conv => arg 2; cbv))
       first
         | (refine Den.need ?_ ?_)
         | (refine Den.indF (fun m_ s_ => ∃ (a4 : Int) (tk : List Nat) (bx0 : Box) (nn : Nat), s_ = ⟨[.sl .ro 7 (o.bx fun _ => eNd a), .junk, .junk, .asl (.loc 0) 7 nn, .int .i64 a4] ++ List.replicate 18 .junk, [bx0], [], tk⟩ ∧ (bx0 = (o.bx fun _ => eNd (cpB a a4)) ∧ 0 ≤ a4 ∧ a4 ≤ a.length) ∧ (a.length - a4).toNat ≤ m_) _ _ ⟨_, _, _, _, by subst ho; rfl, ?_, Nat.le_refl _⟩ ?_
            rotate_right
            rintro m_ _ ⟨a4, tk, bx0, nn, rfl, hIa, hka⟩ iha
            obtain ⟨rfl, i1, i2⟩ := hIa; have hbl := cpB_len i1 i2; refine Den.unloopA ho ?_
            repeat' (first
              | (refine Den.id ?_
                 (try (conv => arg 2; cbv))
                 first
                   | (refine Den.test (fun hr => ?_) (fun hr => ?_) <;> (have hb := hr) <;> (try simp (disch := omega) only [ho, std, wI, len_eK, len_eB, len_eNd, len_eLNd, len_eFc, len_eAb, len_eBd, len_eEd, len_eLBd, Classical.not_not, decide_eq_true_eq, decide_eq_false_iff_not, beq_iff_eq, beq_eq_false_iff_ne, ne_eq, Bool.not_eq_true', Bool.not_eq_false', Bool.not_eq_true, Bool.not_eq_false, gt_iff_lt, ge_iff_le, Int.not_lt, Int.not_le] at hb) <;> (try (exfalso; first | contradiction | omega | exact hb rfl)))
                   | (refine Den.done ⟨by first | exact Or.inl rfl | exact Or.inr rfl, ?_⟩; refine (outD_aslN (t := 2) (i := 0) (z := 7) (by rfl) (by rfl) ?_).trans ?_)
                   | (refine Den.pcallE (β := Nd) (fun v => .agg ([.int .i64 v.f0, .int .i64 v.f1, .int .i64 v.f2, .int .i64 v.f3, .int .i64 v.f4, .str v.f5, .str v.f6])) (as' := [.agg [.int .i64 _, .int .i64 _, .int .i64 _, .int .i64 _, .int .i64 _, .str _, .str _]]) (by first | with_reducible rfl | (subst ho; rfl)) (laws_toNode.ans o ho _ _ _ _ _ _ _) ?_; rotate_left 0; rintro ⟨v0, v1, v2, v3, v4, v5, v6⟩ hv)
                   | (refine Den.fetchYNd ho ?_ ?_ (by with_reducible assumption) ?_)
                   | (refine Den.fetchXNd ho ?_ ?_ (fun y hy => ?_); rotate_left 2; rcases y with ⟨y0, y1, y2, y3, y4, y5, y6⟩; (first | (have _h := hyl) | (have hyl := hy)))
                   | (refine iha _ _ ?_ ⟨_, _, _, _, by subst ho; rfl, ?_, Nat.le_refl _⟩))
              | ((fail_if_success (refine Den.id ?_))
                 first
                   | (subst ho; exact cells_eNd _)
                   | (rw [cpB_end (by omega)] <;> (subst ho; rfl))
                   | (subst ho; refine ⟨?_, Int.le_refl _, by omega⟩; simp only [std, len_eNd, Int.toNat_natCast]; rw [cpB_zero, ← rep_eNd]; rfl)
                   | (subst ho; refine ⟨?_, ?_⟩ <;> simp (disch := omega) only [std, wI] <;> first | omega | (rw [← cpB_set i1 (by omega) (hyl.trans hv), ← set_eNd]; rfl))
                   | assumption
                   | omega
                   | (subst ho; simp (disch := omega) only [std, wI, tdiv2, tdivN, len_eFc, len_eNd, len_eBd, len_eAb, len_eLBd, len_eK, len_eB] <;> first | done | rfl | omega)))))
    | ((fail_if_success (refine Den.id ?_))
       first
         | (subst ho; simp [std, len_eFc, len_eNd, len_eBd, len_eAb, len_eLBd, len_eK, len_eB]; omega)))
end Go.Mach
end
section
set_option linter.unusedVariables false
set_option linter.unusedSimpArgs false
namespace Go.Mach
open Go Go.RowKit Go.Proofs
set_option maxRecDepth 100000
set_option maxHeartbeats 6000000
theorem impl_factsFit.ans {xa xb : Option (List D → Option D)} (o : Std) (ho : o = std) (l : List Nd) (fs : List Fc) (h0 : okM l = true) (h1 : fs = seedM l) : Ans (env xa xb) 116 [.sl .ro 7 (o.bx fun _ => eNd l), .sl .ro 6 (o.bx fun _ => eFc fs)] (.bool (true)) := by
  refine Ans.mkA ho _ rfl rfl ?_
  have hs := (okM_iff.1 h0).size; have hfl : fs.length = 1 := (by rw [h1]; rfl)
  repeat' (first
    | (refine Den.id ?_
       (try (conv => arg 2; cbv))
       first
         | (refine Den.indF (fun m_ s_ => ∃ (a5 : Int) (a13 : Int) (a14 : Int) (tk : List Nat), s_ = ⟨[.sl .ro 7 (o.bx fun _ => eNd l), .sl .ro 6 (o.bx fun _ => eFc fs), .junk, .junk, .junk, .int .i64 a5, .junk, .junk, .junk, .junk, .junk, .junk, .sl .ro 6 (o.bx fun _ => eFc fs), .int .i64 a13, .int .i64 a14] ++ List.replicate 54 .junk, [], [], tk⟩ ∧ (a5 = l.length - 1 ∧ a13 = fs.length ∧ 0 ≤ a14 ∧ a14 ≤ 1) ∧ (1 - a14).toNat ≤ m_) _ _ ⟨_, _, _, _, by subst ho; rfl, ?_, Nat.le_refl _⟩ ?_
            rotate_right
            rintro m_ _ ⟨a5, a13, a14, tk, rfl, hIa, hka⟩ iha
            obtain ⟨i5, i6, i1, i2⟩ := hIa; refine Den.unloopA ho ?_
            repeat' (first
              | (refine Den.id ?_
                 (try (conv => arg 2; cbv))
                 first
                   | refine Den.testF ?_
                   | refine Den.test1 (by with_reducible assumption) ?_
                   | refine Den.test0 (by with_reducible assumption) ?_
                   | refine Den.testN1 ho (by first | with_reducible assumption | with_reducible rfl) ?_
                   | refine Den.testN0 ho (by first | with_reducible assumption | with_reducible rfl) ?_
                   | (refine Den.test (fun hr => ?_) (fun hr => ?_) <;> (have hb := hr) <;> (try simp (disch := omega) only [ho, std, wI, len_eK, len_eB, len_eNd, len_eLNd, len_eFc, len_eAb, len_eBd, len_eEd, len_eLBd, Classical.not_not, decide_eq_true_eq, decide_eq_false_iff_not, beq_iff_eq, beq_eq_false_iff_ne, ne_eq, Bool.not_eq_true', Bool.not_eq_false', Bool.not_eq_true, Bool.not_eq_false, gt_iff_lt, ge_iff_le, Int.not_lt, Int.not_le] at hb) <;> (try (exfalso; first | contradiction | omega | exact hb rfl)))
                   | (refine Den.pcallE (β := Bool) (fun v => .bool v) (as' := [.int .i64 _, .int .i64 _, .int .i64 _]) (by first | with_reducible rfl | (subst ho; rfl)) (impl_in.ans o ho _ _ _) ?_; rotate_left 0; rintro (_ | _) hv <;> (try simp only [decide_eq_true_eq, decide_eq_false_iff_not] at hv) <;> (try first | contradiction | exact absurd (hv.symm.trans (show _ = false by assumption)) (by decide) | exact absurd (hv.symm.trans (show _ = true by assumption)) (by decide)) <;> (try (exfalso; simp (disch := omega) only [ho, std, wI, len_eNd] at hv; omega)))
                   | (refine Den.pcallE (β := Bool) (fun v => .bool v) (as' := [.sl .ro 6 (o.bx fun _ => eFc _)]) (by first | with_reducible rfl | (subst ho; rfl)) (impl_FactsOk.ans o ho _ ?_) ?_; rotate_left 1; rintro (_ | _) hv <;> (try simp only [decide_eq_true_eq, decide_eq_false_iff_not] at hv) <;> (try first | contradiction | exact absurd (hv.symm.trans (show _ = false by assumption)) (by decide) | exact absurd (hv.symm.trans (show _ = true by assumption)) (by decide)) <;> (try exact absurd (hv.symm.trans (by rw [h1, seed_ok])) Bool.false_ne_true))
                   | (refine Den.fetchXFc ho ?_ ?_ (fun y hy => ?_); rotate_left 2; rcases y with ⟨yk, yn, yc, yvk, yvn, yvc⟩; have hsd := seed_at h1 i1 (by omega) hy)
                   | (refine iha _ _ ?_ ⟨_, _, _, _, by subst ho; rfl, ?_, Nat.le_refl _⟩)
                   | (refine Den.done ⟨by first | exact Or.inl rfl | exact Or.inr rfl, ?_⟩; (conv => lhs; cbv) <;> refine congrArg some ?_))
              | ((fail_if_success (refine Den.id ?_))
                 first
                   | (simp (disch := omega) only [ho, std, wI]; exact ⟨i5, i6, by omega, by omega⟩)
                   | (subst ho; refine ⟨?_, ?_, by omega, by omega⟩ <;> simp (disch := omega) only [std, wI, len_eNd, len_eFc])
                   | assumption
                   | omega
                   | (subst ho; simp (disch := omega) only [std, wI, tdiv2, tdivN, len_eFc, len_eNd, len_eBd, len_eAb, len_eLBd, len_eK, len_eB] <;> first | done | rfl | omega)))))
    | ((fail_if_success (refine Den.id ?_))
       first
         | fail))
end Go.Mach
end
section
set_option linter.unusedVariables false
set_option linter.unusedSimpArgs false
namespace Go.Mach
open Go Go.RowKit Go.Proofs
set_option maxRecDepth 100000
set_option maxHeartbeats 6000000
theorem impl_Closed.ans {ga gb : List D → Option D} (o : Std) (ho : o = std) (l : List Nd) (h0 : FreeSpec gb) (h1 : Sz l) (h2 : l.length ≤ 1048576) : Ans (env (some ga) (some gb)) 143 [.sl .ro 7 (o.bx fun _ => eNd l)] (.bool (cloB l)) := by
  refine Ans.mkA ho _ rfl rfl ?_
  repeat' (first
    | (refine Den.id ?_
       (try (conv => arg 2; cbv))
       first
         | refine Den.testT ?_
         | refine Den.testF ?_
         | (obtain ⟨rf, hr1, hr2⟩ := h0 l (by assumption) h1; refine Den.extE (r := rf) (fun v => .sl .ro 1 (o.bx fun _ => eB v)) (g := gb) (as' := [.sl .ro 7 (eNd l)]) (by rfl) (by subst ho; rfl) (by subst ho; exact hr1) ?_; rintro v hv)
         | (refine Den.pcallE (β := Bool) (fun v => .bool v) (as' := [.sl .ro 7 (o.bx fun _ => eNd _)]) (by first | with_reducible rfl | (subst ho; rfl)) (impl_NodesOk.ans o ho _ ?_ ?_) ?_; rotate_left 2; rintro (_ | _) hv <;> (try simp only [decide_eq_true_eq, decide_eq_false_iff_not] at hv) <;> (try first | contradiction | exact absurd (hv.symm.trans (show _ = false by assumption)) (by decide) | exact absurd (hv.symm.trans (show _ = true by assumption)) (by decide)))
         | (refine Den.done ⟨by first | exact Or.inl rfl | exact Or.inr rfl, ?_⟩; (conv => lhs; cbv) <;> refine congrArg some ?_))
    | ((fail_if_success (refine Den.id ?_))
       first
         | (subst ho; refine dB ?_; exact clo_no (by assumption))
         | (subst ho; refine dB ?_; subst hv; exact clo_len2 (by assumption) hr2 (by simp only [std, len_eB]; rfl))
         | assumption))
theorem impl_FlowOk.ans {ga gb : List D → Option D} (o : Std) (ho : o = std) (l : List Nd) (dp : Int) (h0 : FreeSpec gb) (h1 : Sz l) (h2 : l.length ≤ 1048576) : Ans (env (some ga) (some gb)) 112 [.sl .ro 7 (o.bx fun _ => eNd l), .int .i64 dp] (.bool (flowB l dp)) := by
  refine Ans.mkA ho _ rfl rfl ?_
  repeat' (first
    | (refine Den.id ?_
       (try (conv => arg 2; cbv))
       first
         | refine Den.testT ?_
         | refine Den.testF ?_
         | (refine Den.pcallE (β := Bool) (fun v => .bool v) (as' := [.sl .ro 7 (o.bx fun _ => eNd _)]) (by first | with_reducible rfl | (subst ho; rfl)) (impl_Closed.ans o ho _ ?_ ?_ ?_) ?_; rotate_left 3; rintro (_ | _) hv <;> (try simp only [decide_eq_true_eq, decide_eq_false_iff_not] at hv) <;> (try first | contradiction | exact absurd (hv.symm.trans (show _ = false by assumption)) (by decide) | exact absurd (hv.symm.trans (show _ = true by assumption)) (by decide)))
         | (refine Den.pcallE (β := Bool) (fun v => .bool v) (as' := [.int .i64 _, .int .i64 _, .int .i64 _]) (by first | with_reducible rfl | (subst ho; rfl)) (impl_in.ans o ho _ _ _) ?_; rotate_left 0; rintro (_ | _) hv <;> (try simp only [decide_eq_true_eq, decide_eq_false_iff_not] at hv) <;> (try first | contradiction | exact absurd (hv.symm.trans (show _ = false by assumption)) (by decide) | exact absurd (hv.symm.trans (show _ = true by assumption)) (by decide)))
         | (refine Den.done ⟨by first | exact Or.inl rfl | exact Or.inr rfl, ?_⟩; (conv => lhs; cbv) <;> refine congrArg some ?_))
    | ((fail_if_success (refine Den.id ?_))
       first
         | (refine dB ?_; exact flow_no (by assumption))
         | (refine dB ?_; first | exact flow_eq (by assumption) (decide_eq_true (by assumption)).symm | exact flow_eq (by assumption) (decide_eq_false (by assumption)).symm)
         | assumption))
theorem impl_Seed.ans {xa xb : Option (List D → Option D)} (o : Std) (ho : o = std) (l : List Nd) (h0 : Sz l) (h1 : l.length ≤ 1048576) : Ans (env xa xb) 114 [.sl .ro 7 (o.bx fun _ => eNd l)] (.sl .ro 6 (o.bx fun _ => eFc (seedR l))) := by
  refine Ans.mkA ho _ rfl rfl ?_
  repeat' (first
    | (refine Den.id ?_
       (try (conv => arg 2; cbv))
       first
         | refine Den.testN1 ho (by first | with_reducible assumption | with_reducible rfl) ?_
         | refine Den.testN0 ho (by first | with_reducible assumption | with_reducible rfl) ?_
         | (refine Den.pcallE (β := Bool) (fun v => .bool v) (as' := [.sl .ro 7 (o.bx fun _ => eNd _)]) (by first | with_reducible rfl | (subst ho; rfl)) (impl_NodesOk.ans o ho _ ?_ ?_) ?_; rotate_left 2; rintro (_ | _) hv <;> (try simp only [decide_eq_true_eq, decide_eq_false_iff_not] at hv) <;> (try first | contradiction | exact absurd (hv.symm.trans (show _ = false by assumption)) (by decide) | exact absurd (hv.symm.trans (show _ = true by assumption)) (by decide)))
         | (refine Den.done ⟨by first | exact Or.inl rfl | exact Or.inr rfl, ?_⟩; (conv => lhs; cbv) <;> refine congrArg some ?_))
    | ((fail_if_success (refine Den.id ?_))
       first
         | (rw [seedR_no (by assumption)]; subst ho; rfl)
         | (have hq := (okM_iff.1 (by assumption)).size; subst ho; rw [seedR_yes (by assumption)]; simp (disch := omega) only [std, wI, len_eNd]; rfl)
         | assumption))
end Go.Mach
end
section
set_option linter.unusedVariables false
set_option linter.unusedSimpArgs false
namespace Go.Mach
open Go Go.RowKit Go.Proofs
set_option maxRecDepth 100000
set_option maxHeartbeats 6000000
theorem impl_FactsOk_0.ans {xa xb : Option (List D → Option D)} (o : Std) (ho : o = std) : Ans (env xa xb) 113 [.sl .ro 0 []] (.bool (true)) := by
  refine Ans.mkA ho _ rfl rfl ?_
  repeat' (first
    | (refine Den.id ?_
       (try (conv => arg 2; cbv))
       first
         | (refine Den.indF (fun m_ s_ => ∃ (a3 : Int) (tk : List Nat), s_ = ⟨[.sl .ro 0 [], .junk, .junk, .int .i64 a3] ++ List.replicate 20 .junk, [], [], tk⟩ ∧ (1 ≤ a3) ∧ 0 ≤ m_) _ _ ⟨_, _, by subst ho; rfl, ?_, Nat.le_refl _⟩ ?_
            rotate_right
            rintro m_ _ ⟨a3, tk, rfl, hIa, hka⟩ iha
            refine Den.unloopA ho ?_
            repeat' (first
              | (refine Den.id ?_
                 (try (conv => arg 2; cbv))
                 first
                   | (refine Den.test (fun hr => ?_) (fun hr => ?_) <;> (have hb := hr) <;> (try simp (disch := omega) only [ho, std, wI, len_eK, len_eB, len_eNd, len_eLNd, len_eFc, len_eAb, len_eBd, len_eEd, len_eLBd, Classical.not_not, decide_eq_true_eq, decide_eq_false_iff_not, beq_iff_eq, beq_eq_false_iff_ne, ne_eq, Bool.not_eq_true', Bool.not_eq_false', Bool.not_eq_true, Bool.not_eq_false, gt_iff_lt, ge_iff_le, Int.not_lt, Int.not_le] at hb) <;> (try (exfalso; first | contradiction | omega | exact hb rfl)))
                   | (exfalso; have hz : (([] : Box).length : Int) = 0 := rfl; omega)
                   | (refine Den.done ⟨by first | exact Or.inl rfl | exact Or.inr rfl, ?_⟩; (conv => lhs; cbv) <;> refine congrArg some ?_))
              | ((fail_if_success (refine Den.id ?_))
                 first
                   | omega
                   | (subst ho; rfl)))))
    | ((fail_if_success (refine Den.id ?_))
       first
         | fail))
theorem impl_FactAdd.ans {xa xb : Option (List D → Option D)} (o : Std) (ho : o = std) (l : List Fc) (f_k : Int) (f_n : Int) (f_c : Int) (f_v_k : Int) (f_v_n : Int) (f_v_c : Int) (h0 : l.length ≤ 1048576) : Ans (env xa xb) 115 [.sl .ro 6 (o.bx fun _ => eFc l), .agg [.int .i64 f_k, .int .i64 f_n, .int .i64 f_c, .int .i64 f_v_k, .int .i64 f_v_n, .int .i64 f_v_c]] (.sl .ro 6 (o.bx fun _ => eFc (faM l (⟨f_k, f_n, f_c, ⟨f_v_k, f_v_n, f_v_c⟩⟩ : Fc)))) := by
  refine Ans.mkA ho _ rfl rfl ?_
  have hp := posF_le l (⟨f_k, f_n, f_c, ⟨f_v_k, f_v_n, f_v_c⟩⟩ : Fc)
  repeat' (first
    | (refine Den.id ?_
       (try (conv => arg 2; cbv))
       first
         | refine Den.testT ?_
         | refine Den.testF ?_
         | refine Den.test1 (by with_reducible assumption) ?_
         | refine Den.test0 (by with_reducible assumption) ?_
         | refine Den.testN1 ho (by first | with_reducible assumption | with_reducible rfl) ?_
         | refine Den.testN0 ho (by first | with_reducible assumption | with_reducible rfl) ?_
         | (refine Den.test (fun hr => ?_) (fun hr => ?_) <;> (have hb := hr) <;> (try simp (disch := omega) only [ho, std, wI, len_eK, len_eB, len_eNd, len_eLNd, len_eFc, len_eAb, len_eBd, len_eEd, len_eLBd, Classical.not_not, decide_eq_true_eq, decide_eq_false_iff_not, beq_iff_eq, beq_eq_false_iff_ne, ne_eq, Bool.not_eq_true', Bool.not_eq_false', Bool.not_eq_true, Bool.not_eq_false, gt_iff_lt, ge_iff_le, Int.not_lt, Int.not_le] at hb) <;> (try (exfalso; first | contradiction | omega | exact hb rfl)))
         | (refine Den.pcallE (β := Bool) (fun v => .bool v) (as' := [.sl .ro 6 (o.bx fun _ => eFc _)]) (by first | with_reducible rfl | (subst ho; rfl)) (impl_FactsOk.ans o ho _ ?_) ?_; rotate_left 1; rintro (_ | _) hv <;> (try simp only [decide_eq_true_eq, decide_eq_false_iff_not] at hv) <;> (try first | contradiction | exact absurd (hv.symm.trans (show _ = false by assumption)) (by decide) | exact absurd (hv.symm.trans (show _ = true by assumption)) (by decide)) <;> (try have hu : Up l := (of_decide_eq_true hv).1))
         | (refine Den.pcallE (β := Bool) (fun v => .bool v) (as' := [.sl .ro 6 (o.bx fun _ => eFc _), .agg [.int .i64 _, .int .i64 _, .int .i64 _, .int .i64 _, .int .i64 _, .int .i64 _]]) (by first | with_reducible rfl | (subst ho; rfl)) (impl_has.ans o ho _ _ _ _ _ _ _ ?_ ?_) ?_; rotate_left 2; rintro (_ | _) hv <;> (try simp only [decide_eq_true_eq, decide_eq_false_iff_not] at hv) <;> (try first | contradiction | exact absurd (hv.symm.trans (show _ = false by assumption)) (by decide) | exact absurd (hv.symm.trans (show _ = true by assumption)) (by decide)))
         | (refine Den.pcallE (β := Int) (fun v => .int .i64 v) (as' := [.sl .ro 6 (o.bx fun _ => eFc _), .agg [.int .i64 _, .int .i64 _, .int .i64 _, .int .i64 _, .int .i64 _, .int .i64 _]]) (by first | with_reducible rfl | (subst ho; rfl)) (impl_factAt.ans o ho _ _ _ _ _ _ _ ?_ ?_) ?_; rotate_left 2; rintro v hv)
         | (refine Den.needD ho (by kernel_rfl) ?_)
         | (refine Den.need ?_ ?_)
         | (refine Den.app1 ?_ (fun t' tk' hl' => ?_))
         | (refine Den.done ⟨by first | exact Or.inl rfl | exact Or.inr rfl, ?_⟩; (conv => lhs; cbv) <;> refine congrArg some ?_))
    | ((fail_if_success (refine Den.id ?_))
       first
         | (exact Lv.cap _)
         | (subst ho; exact Lv.nil)
         | (subst ho; refine congrArg (D.sl Tok.ro 6) ?_; rw [fa_no (.inl (by assumption))]; simp [std]; done)
         | (subst ho; refine congrArg (D.sl Tok.ro 6) ?_; rw [fa_no (.inr (by assumption))]; simp [std]; done)
         | (subst ho; refine congrArg (D.sl Tok.ro 6) ?_; rw [fa_has (by assumption) (by assumption)]; simp [std]; done)
         | (subst ho; refine congrArg (D.sl Tok.ro 6) ?_; rw [fa_new (by assumption) (by assumption) (by assumption) hv]; simp [std, eFc, cFc, List.map_take, List.map_drop, List.take_of_length_le]; done)
         | (subst ho; simp [std, len_eFc]; omega)
         | assumption
         | omega
         | (subst ho; simpa [std, len_eFc, len_eNd, len_eBd, len_eAb, len_eLBd, len_eK, len_eB] using hl')))
end Go.Mach
end
section
set_option linter.unusedVariables false
set_option linter.unusedSimpArgs false
namespace Go.Mach
open Go Go.RowKit Go.Proofs
set_option maxRecDepth 100000
set_option maxHeartbeats 6000000
theorem impl_solve.ans {ga gb : List D → Option D} (o : Std) (ho : o = std) (l : List Nd) (dp : Int) (h0 : PassSpec ga) (h1 : FreeSpec gb) (h2 : Sz l) (h3 : l.length ≤ 1048576) : AnsP (env (some ga) (some gb)) 89 [.sl .ro 7 (o.bx fun _ => eNd l), .int .i64 dp, .sl .nw 0 []] (fun d_ => ∃ (rq : List Fc × Bool) (nq : Int), d_ = .tup [.sl .nw 6 (o.bx fun _ => eFc ((rq.1, nq, rq.2)).1), .int .i64 ((rq.1, nq, rq.2)).2.1, .bool ((rq.1, nq, rq.2)).2.2] ∧ (rq = solveR l dp)) := by
  refine AnsP.mkA ho _ rfl rfl ?_
  repeat' (first
    | (refine Den.id ?_
       (try (conv => arg 2; cbv))
       first
         | refine Den.testT ?_
         | refine Den.test1 (by with_reducible assumption) ?_
         | refine Den.test0 (by with_reducible assumption) ?_
         | refine Den.testN1 ho (by first | with_reducible assumption | with_reducible rfl) ?_
         | refine Den.testN0 ho (by first | with_reducible assumption | with_reducible rfl) ?_
         | (refine Den.test (fun hr => ?_) (fun hr => ?_) <;> (have hb := hr) <;> (try simp (disch := omega) only [ho, std, wI, len_eK, len_eB, len_eNd, len_eLNd, len_eFc, len_eAb, len_eBd, len_eEd, len_eLBd, Classical.not_not, decide_eq_true_eq, decide_eq_false_iff_not, beq_iff_eq, beq_eq_false_iff_ne, ne_eq, Bool.not_eq_true', Bool.not_eq_false', Bool.not_eq_true, Bool.not_eq_false, gt_iff_lt, ge_iff_le, Int.not_lt, Int.not_le] at hb) <;> (try (exfalso; first | contradiction | omega | exact hb rfl)))
         | (refine Den.emp ho ?_)
         | (refine Den.pcallE (β := Bool) (fun v => .bool v) (as' := [.sl .ro 7 (o.bx fun _ => eNd _), .int .i64 _]) (by first | with_reducible rfl | (subst ho; rfl)) (impl_FlowOk.ans o ho _ _ ?_ ?_ ?_) ?_; rotate_left 3; rintro (_ | _) hv <;> (try simp only [decide_eq_true_eq, decide_eq_false_iff_not] at hv) <;> (try first | contradiction | exact absurd (hv.symm.trans (show _ = false by assumption)) (by decide) | exact absurd (hv.symm.trans (show _ = true by assumption)) (by decide)) <;> (try have hst := solve_start hv; try have hC := flowB_clo hv; try have hk := okM_iff.2 hC.ok))
         | (refine Den.pcallE (β := Bool) (fun v => .bool v) (as' := [.sl .ro 0 []]) (by first | with_reducible rfl | (subst ho; rfl)) (impl_FactsOk_0.ans o ho) ?_; rotate_left 0; rintro (_ | _) hv <;> (try simp only [decide_eq_true_eq, decide_eq_false_iff_not] at hv) <;> (try first | contradiction | exact absurd (hv.symm.trans (show _ = false by assumption)) (by decide) | exact absurd (hv.symm.trans (show _ = true by assumption)) (by decide)))
         | (refine Den.pcallE (β := List Fc) (fun v => .sl .ro 6 (o.bx fun _ => eFc v)) (as' := [.sl .ro 7 (o.bx fun _ => eNd _)]) (by first | with_reducible rfl | (subst ho; rfl)) (impl_Seed.ans o ho _ ?_ ?_) ?_; rotate_left 2; rintro v hv; (rw [seedR_yes hk] at hv; have hsd := hv; have hsl : v.length = 1 := (by rw [← hv]; rfl)))
         | (refine Den.need ?_ ?_)
         | (refine Den.app1 ?_ (fun t' tk' hl' => ?_))
         | (refine Den.indF (fun m_ s_ => ∃ (a28 : List Fc) (a29 : Int) (a30 : Int) (ta28 : Tok) (tk : List Nat) (tq : Tok) (bq : Box), s_ = ⟨[.sl .ro 7 (o.bx fun _ => eNd l), .int .i64 dp, .junk, .junk, .junk, .junk, .junk, .junk, .junk, .sl tq 6 bq, .junk, .junk, .junk, .junk, .junk, .junk, .junk, .junk, .junk, .junk, .junk, .junk, .junk, .junk, .junk, .junk, .junk, .junk, .sl ta28 6 (o.bx fun _ => eFc a28), .int .i64 a29, .int .i64 a30] ++ List.replicate 35 .junk, [], [], tk⟩ ∧ (bq = (o.bx fun _ => eFc ((seedM l).take a30.toNat)) ∧ a28 = seedM l ∧ a29 = 1 ∧ 0 ≤ a30 ∧ a30 ≤ 1) ∧ (1 - a30).toNat ≤ m_) _ _ ⟨_, _, _, _, _, _, _, by subst ho; rfl, ?_, Nat.le_refl _⟩ ?_
            rotate_right
            rintro m_ _ ⟨a28, a29, a30, ta28, tk, tq, bq, rfl, hIa, hka⟩ iha
            obtain ⟨rfl, i0, i5, i1, i2⟩ := hIa; have hal : a28.length = 1 := (by rw [i0]; rfl); have hts := List.length_take_le a30.toNat (seedM l); have hsm : (seedM l).length = 1 := rfl; refine Den.unloopA ho ?_
            repeat' (first
              | (refine Den.id ?_
                 (try (conv => arg 2; cbv))
                 first
                   | refine Den.testN0 ho (by first | with_reducible assumption | with_reducible rfl) ?_
                   | (refine Den.test (fun hr => ?_) (fun hr => ?_) <;> (have hb := hr) <;> (try simp (disch := omega) only [ho, std, wI, len_eK, len_eB, len_eNd, len_eLNd, len_eFc, len_eAb, len_eBd, len_eEd, len_eLBd, Classical.not_not, decide_eq_true_eq, decide_eq_false_iff_not, beq_iff_eq, beq_eq_false_iff_ne, ne_eq, Bool.not_eq_true', Bool.not_eq_false', Bool.not_eq_true, Bool.not_eq_false, gt_iff_lt, ge_iff_le, Int.not_lt, Int.not_le] at hb) <;> (try (exfalso; first | contradiction | omega | exact hb rfl)))
                   | (refine Den.pcallE (β := List Fc) (fun v => .sl .ro 6 (o.bx fun _ => eFc v)) (as' := [.sl .ro 6 (o.bx fun _ => eFc _), .agg [.int .i64 _, .int .i64 _, .int .i64 _, .int .i64 _, .int .i64 _, .int .i64 _]]) (by first | with_reducible rfl | (subst ho; rfl)) (impl_FactAdd.ans o ho _ _ _ _ _ _ _ ?_) ?_; rotate_left 1; rintro v hv)
                   | (refine Den.pcallE (β := Bool) (fun v => .bool v) (as' := [.sl .ro 7 (o.bx fun _ => eNd _), .sl .ro 6 (o.bx fun _ => eFc _)]) (by first | with_reducible rfl | (subst ho; rfl)) (impl_factsFit.ans o ho _ _ ?_ ?_) ?_; rotate_left 2; rintro (_ | _) hv <;> (try simp only [decide_eq_true_eq, decide_eq_false_iff_not] at hv) <;> (try first | contradiction | exact absurd (hv.symm.trans (show _ = false by assumption)) (by decide) | exact absurd (hv.symm.trans (show _ = true by assumption)) (by decide)))
                   | (refine Den.pcallE (β := List Bd) (fun v => .sl .ro 2 (o.bx fun _ => eBd v)) (as' := [.sl .ro 7 (o.bx fun _ => eNd _)]) (by first | with_reducible rfl | (subst ho; rfl)) (impl_binders.ans o ho _ ?_) ?_; rotate_left 1; rintro v hv)
                   | (refine Den.fetchXFc ho ?_ ?_ (fun y hy => ?_); rotate_left 2; rcases y with ⟨yk, yn, yc, yvk, yvn, yvc⟩; (have hyf := hy; rw [i0] at hyf))
                   | (refine Den.indF (fun m_ s_ => ∃ (b9 : List Fc) (b12 : List Bd) (b44 : Int) (tb9 tb12 : Tok) (tk : List Nat), s_ = ⟨[.sl .ro 7 (o.bx fun _ => eNd l), .int .i64 dp, .junk, .junk, .junk, .junk, .junk, .junk, .junk, .sl tb9 6 (o.bx fun _ => eFc b9), .junk, .junk, .sl tb12 2 (o.bx fun _ => eBd b12), .junk, .junk, .junk, .junk, .junk, .junk, .junk, .junk, .junk, .junk, .junk, .junk, .junk, .junk, .junk, .junk, .junk, .junk, .junk, .junk, .junk, .junk, .junk, .junk, .junk, .junk, .junk, .junk, .junk, .junk, .junk, .int .i64 b44] ++ List.replicate 21 .junk, [], [], tk⟩ ∧ (b12 = bindsM l ∧ 0 ≤ b44 ∧ b44 ≤ 400 ∧ Fit l b9 ∧ b9.length ≤ 2500 ∧ solveN l dp (400 - b44).toNat b9 = solveO l dp) ∧ (400 - b44).toNat ≤ m_) _ _ ⟨_, _, _, _, _, _, by subst ho; rfl, ?_, Nat.le_refl _⟩ ?_
                      rotate_right
                      rintro m_ _ ⟨b9, b12, b44, tb9, tb12, tk, rfl, hIb, hkb⟩ ihb
                      obtain ⟨j0, j1, j2, j3, j4, j5⟩ := hIb; refine Den.unloopA ho ?_
                      repeat' (first
                        | (refine Den.id ?_
                           (try (conv => arg 2; cbv))
                           first
                             | refine Den.testN1 ho (by first | with_reducible assumption | with_reducible rfl) ?_
                             | refine Den.testN0 ho (by first | with_reducible assumption | with_reducible rfl) ?_
                             | (refine Den.test (fun hr => ?_) (fun hr => ?_) <;> (have hb := hr) <;> (try simp (disch := omega) only [ho, std, wI, len_eK, len_eB, len_eNd, len_eLNd, len_eFc, len_eAb, len_eBd, len_eEd, len_eLBd, Classical.not_not, decide_eq_true_eq, decide_eq_false_iff_not, beq_iff_eq, beq_eq_false_iff_ne, ne_eq, Bool.not_eq_true', Bool.not_eq_false', Bool.not_eq_true, Bool.not_eq_false, gt_iff_lt, ge_iff_le, Int.not_lt, Int.not_le] at hb) <;> (try (exfalso; first | contradiction | omega | exact hb rfl)))
                             | (refine Den.extE (r := (passM l dp b9, decide ((passM l dp b9).length ≤ 2500))) (fun v => .tup [.sl .nw 6 (o.bx fun _ => eFc v.1), .bool v.2]) (g := ga) (as' := [.sl .ro 7 (eNd l), .sl .ro 2 (eBd (bindsM l)), .int .i64 dp, .sl .ro 6 (eFc b9)]) (by rfl) (by subst ho; rw [← j0]; rfl) (by subst ho; exact h0 l dp b9 hC j3 j4) ?_; rintro ⟨v, (_ | _)⟩ hv <;> simp only [Prod.mk.injEq, decide_eq_true_eq, decide_eq_false_iff_not] at hv <;> obtain ⟨hv1, hv2⟩ := hv <;> rw [hv1] at hv2 <;> have hFv : Fit l v := (by rw [← hv1]; exact passM_fit hC j3 dp))
                             | (refine ihb _ _ ?_ ⟨_, _, _, _, _, _, by subst ho; rfl, ?_, Nat.le_refl _⟩)
                             | (refine Den.done ⟨by first | exact Or.inl rfl | exact Or.inr rfl, ?_⟩; refine ⟨_, by (conv => lhs; cbv) <;> rfl, ?_⟩))
                        | ((fail_if_success (refine Den.id ?_))
                           first
                             | (exact ⟨([], false), _, by subst ho; rfl, (solveR_no (solve_many (by omega) j5 hv1 (by omega))).symm⟩)
                             | (exact ⟨(v, true), _, by subst ho; rfl, (solveR_yes (solve_same (by omega) j5 hv1 (by omega) (by omega))).symm⟩)
                             | (exact ⟨([], false), _, by subst ho; rfl, (solveR_no (solve_end (by omega) j5)).symm⟩)
                             | (dsimp only; simp (disch := omega) only [ho, std, wI]; exact ⟨j0, by omega, by omega, hFv, by omega, solve_next (by omega) j5 hv1 (by omega) (by omega)⟩)
                             | (have e := take_allG (l := seedM l) (i := a30) (by omega); rw [e]; exact ⟨hv.symm, by omega, by omega, hst.1, hst.2.1, hst.2.2⟩)
                             | (subst ho; simp (disch := omega) only [std, wI, tdiv2, tdivN, len_eFc, len_eNd, len_eBd, len_eAb, len_eLBd, len_eK, len_eB] <;> first | done | rfl | omega))))
                   | (refine iha _ _ ?_ ⟨_, _, _, _, _, _, _, by subst ho; rfl, ?_, Nat.le_refl _⟩))
              | ((fail_if_success (refine Den.id ?_))
                 first
                   | (subst ho; exact ⟨rfl, hsd.symm, by simp [std, len_eFc, hsl], Int.le_refl _, by omega⟩)
                   | (exact hC.ok)
                   | (exact take_allG (by omega))
                   | (have e := fa_seed i1 (by omega) hyf hv; subst ho; refine ⟨?_, i0, i5, ?_⟩ <;> simp (disch := omega) only [std, wI] <;> first | omega | rw [← e])
                   | assumption
                   | omega
                   | (subst ho; simp (disch := omega) only [std, wI, tdiv2, tdivN, len_eFc, len_eNd, len_eBd, len_eAb, len_eLBd, len_eK, len_eB] <;> first | done | rfl | omega))))
         | (refine Den.indF (fun m_ s_ => ∃ (b9 : List Fc) (b12 : List Bd) (b44 : Int) (tb9 tb12 : Tok) (tk : List Nat), s_ = ⟨[.sl .ro 7 (o.bx fun _ => eNd l), .int .i64 dp, .junk, .junk, .junk, .junk, .junk, .junk, .junk, .sl tb9 6 (o.bx fun _ => eFc b9), .junk, .junk, .sl tb12 2 (o.bx fun _ => eBd b12), .junk, .junk, .junk, .junk, .junk, .junk, .junk, .junk, .junk, .junk, .junk, .junk, .junk, .junk, .junk, .junk, .junk, .junk, .junk, .junk, .junk, .junk, .junk, .junk, .junk, .junk, .junk, .junk, .junk, .junk, .junk, .int .i64 b44] ++ List.replicate 21 .junk, [], [], tk⟩ ∧ (b12 = bindsM l ∧ 0 ≤ b44 ∧ b44 ≤ 400 ∧ Fit l b9 ∧ b9.length ≤ 2500 ∧ solveN l dp (400 - b44).toNat b9 = solveO l dp) ∧ (400 - b44).toNat ≤ m_) _ _ ⟨_, _, _, _, _, _, by subst ho; rfl, ?_, Nat.le_refl _⟩ ?_
            rotate_right
            rintro m_ _ ⟨b9, b12, b44, tb9, tb12, tk, rfl, hIb, hkb⟩ ihb
            obtain ⟨j0, j1, j2, j3, j4, j5⟩ := hIb; refine Den.unloopA ho ?_
            repeat' (first
              | (refine Den.id ?_
                 (try (conv => arg 2; cbv))
                 first
                   | (refine Den.indF (fun m_ s_ => ∃ (a28 : List Fc) (a29 : Int) (a30 : Int) (ta28 : Tok) (tk : List Nat) (tq : Tok) (bq : Box), s_ = ⟨[.sl .ro 7 (o.bx fun _ => eNd l), .int .i64 dp, .junk, .junk, .junk, .junk, .junk, .junk, .junk, .sl tq 6 bq, .junk, .junk, .junk, .junk, .junk, .junk, .junk, .junk, .junk, .junk, .junk, .junk, .junk, .junk, .junk, .junk, .junk, .junk, .sl ta28 6 (o.bx fun _ => eFc a28), .int .i64 a29, .int .i64 a30] ++ List.replicate 35 .junk, [], [], tk⟩ ∧ (bq = (o.bx fun _ => eFc ((seedM l).take a30.toNat)) ∧ a28 = seedM l ∧ a29 = 1 ∧ 0 ≤ a30 ∧ a30 ≤ 1) ∧ (1 - a30).toNat ≤ m_) _ _ ⟨_, _, _, _, _, _, _, by subst ho; rfl, ?_, Nat.le_refl _⟩ ?_
                      rotate_right
                      rintro m_ _ ⟨a28, a29, a30, ta28, tk, tq, bq, rfl, hIa, hka⟩ iha
                      obtain ⟨rfl, i0, i5, i1, i2⟩ := hIa; have hal : a28.length = 1 := (by rw [i0]; rfl); have hts := List.length_take_le a30.toNat (seedM l); have hsm : (seedM l).length = 1 := rfl; refine Den.unloopA ho ?_
                      repeat' (first
                        | (refine Den.id ?_
                           (try (conv => arg 2; cbv))
                           first
                             | fail)
                        | ((fail_if_success (refine Den.id ?_))
                           first
                             | fail))))
              | ((fail_if_success (refine Den.id ?_))
                 first
                   | fail)))
         | (refine Den.done ⟨by first | exact Or.inl rfl | exact Or.inr rfl, ?_⟩; refine ⟨_, by (conv => lhs; cbv) <;> rfl, ?_⟩))
    | ((fail_if_success (refine Den.id ?_))
       first
         | (subst ho; exact Lv.nil)
         | (exact ⟨([], false), _, by subst ho; rfl, (solveR_no (solveO_flow (by assumption))).symm⟩)
         | assumption
         | (subst ho; rfl)))
end Go.Mach
end
