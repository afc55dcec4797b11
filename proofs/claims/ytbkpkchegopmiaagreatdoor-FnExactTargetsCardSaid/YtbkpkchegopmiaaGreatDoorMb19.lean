/- What the statements over Solve share: part 19 of a proof by an executable machine over the program's code. -/
import Derived.Test.YtbkpkchegopmiaaGreatDoorMb13
import Derived.Test.YtbkpkchegopmiaaGreatDoorMb15
import Derived.Test.YtbkpkchegopmiaaGreatDoorMb18
section
set_option linter.unusedVariables false
set_option linter.unusedSimpArgs false
namespace Go.Mach
open Go Go.RowKit Go.Proofs
set_option maxRecDepth 100000
set_option maxHeartbeats 1000000
theorem spec_l2Letter.ans {xa xb : Option (List D → Option D)} (o : Std) (ho : o = std) (b : Int) : Ans (env xa xb) 217 [.int .u8 b] (.bool (decide (97 ≤ b ∧ b ≤ 122))) := by
  refine Ans.mkA ho _ rfl rfl ?_
  repeat' (first
    | (refine Den.id ?_
       (try (conv => arg 2; cbv))
       first
         | refine Den.test1 (by with_reducible assumption) ?_
         | refine Den.test0 (by with_reducible assumption) ?_
         | (refine Den.test (fun hr => ?_) (fun hr => ?_) <;> (have hb := hr) <;> (try simp (disch := omega) only [ho, std, wI, len_eK, len_eB, len_eNd, len_eLNd, len_eFc, len_eAb, len_eBd, len_eEd, len_eLBd, Classical.not_not, decide_eq_true_eq, decide_eq_false_iff_not, beq_iff_eq, beq_eq_false_iff_ne, ne_eq, Bool.not_eq_true', Bool.not_eq_false', gt_iff_lt, ge_iff_le, Int.not_lt, Int.not_le] at hb) <;> (try (exfalso; first | contradiction | omega | exact hb rfl)))
         | (refine Den.done ⟨by first | exact Or.inl rfl | exact Or.inr rfl, ?_⟩; (conv => lhs; cbv); refine congrArg some ?_))
    | ((fail_if_success (refine Den.id ?_))
       first
         | (subst ho; first | exact dBi (by omega) | exact dB (decide_eq_false (by omega)).symm)))
theorem spec_l3Names.ans {xa xb : Option (List D → Option D)} (o : Std) (ho : o = std) (k : Int) : Ans (env xa xb) 179 [.int .i64 k] (.int .i64 (((namesM k : Nat) : Int))) := by
  refine Ans.mkA ho _ rfl rfl ?_
  repeat' (first
    | (refine Den.id ?_
       (try (conv => arg 2; cbv))
       first
         | refine Den.test1 (by with_reducible assumption) ?_
         | (refine Den.test (fun hr => ?_) (fun hr => ?_) <;> (have hb := hr) <;> (try simp (disch := omega) only [ho, std, wI, len_eK, len_eB, len_eNd, len_eLNd, len_eFc, len_eAb, len_eBd, len_eEd, len_eLBd, Classical.not_not, decide_eq_true_eq, decide_eq_false_iff_not, beq_iff_eq, beq_eq_false_iff_ne, ne_eq, Bool.not_eq_true', Bool.not_eq_false', gt_iff_lt, ge_iff_le, Int.not_lt, Int.not_le] at hb) <;> (try (exfalso; first | contradiction | omega | exact hb rfl)))
         | (refine Den.done ⟨by first | exact Or.inl rfl | exact Or.inr rfl, ?_⟩; (conv => lhs; cbv); refine congrArg some ?_))
    | ((fail_if_success (refine Den.id ?_))
       first
         | (subst ho; refine dI ?_; simp [namesM, *]; done)))
theorem spec_IsWord.ans {xa xb : Option (List D → Option D)} (o : Std) (ho : o = std) (s : ByteArray) (h0 : s.size ≤ 1048576) : Ans (env xa xb) 198 [.str s] (.bool (wordB s)) := by
  refine Ans.mkA ho _ rfl rfl ?_
  repeat' (first
    | (refine Den.id ?_
       (try (conv => arg 2; cbv))
       first
         | (refine Den.indF (fun m_ s_ => ∃ (a3 : Int) (tk : List Nat), s_ = ⟨[.str s, .junk, .junk, .int .i64 a3] ++ List.replicate 14 .junk, [], [], tk⟩ ∧ (0 ≤ a3 ∧ a3 ≤ s.size ∧ (∀ i : Nat, (i : Int) < a3 → 97 ≤ std.byte s i ∧ std.byte s i ≤ 122)) ∧ (s.size - a3).toNat ≤ m_) _ _ ⟨_, _, by subst ho; rfl, ?_, Nat.le_refl _⟩ ?_
            rotate_right
            rintro m_ _ ⟨a3, tk, rfl, hIa, hka⟩ iha
            obtain ⟨i1, i2, i3⟩ := hIa; refine Den.unloopA ho ?_
            repeat' (first
              | (refine Den.id ?_
                 (try (conv => arg 2; cbv))
                 first
                   | refine Den.testN1 ho (by first | with_reducible assumption | with_reducible rfl) ?_
                   | refine Den.testN0 ho (by first | with_reducible assumption | with_reducible rfl) ?_
                   | (refine Den.test (fun hr => ?_) (fun hr => ?_) <;> (have hb := hr) <;> (try simp (disch := omega) only [ho, std, wI, len_eK, len_eB, len_eNd, len_eLNd, len_eFc, len_eAb, len_eBd, len_eEd, len_eLBd, Classical.not_not, decide_eq_true_eq, decide_eq_false_iff_not, beq_iff_eq, beq_eq_false_iff_ne, ne_eq, Bool.not_eq_true', Bool.not_eq_false', gt_iff_lt, ge_iff_le, Int.not_lt, Int.not_le] at hb) <;> (try (exfalso; first | contradiction | omega | exact hb rfl)))
                   | (refine Den.pcallE (β := Bool) (fun v => .bool v) (as' := [.int .u8 _]) (by first | with_reducible rfl | (subst ho; rfl)) (spec_l2Letter.ans o ho _) ?_; rotate_left 0; rintro (_ | _) hv <;> (try simp only [decide_eq_true_eq, decide_eq_false_iff_not] at hv) <;> (try first | contradiction | exact absurd (hv.symm.trans (show _ = false by assumption)) (by decide) | exact absurd (hv.symm.trans (show _ = true by assumption)) (by decide)))
                   | (refine Den.pcallE (β := Bool) (fun v => .bool v) (as' := [.int .i64 _, .int .i64 _, .int .i64 _]) (by first | with_reducible rfl | (subst ho; rfl)) (spec_l1In.ans o ho _ _ _) ?_; rotate_left 0; rintro (_ | _) hv <;> (try simp only [decide_eq_true_eq, decide_eq_false_iff_not] at hv) <;> (try first | contradiction | exact absurd (hv.symm.trans (show _ = false by assumption)) (by decide) | exact absurd (hv.symm.trans (show _ = true by assumption)) (by decide)))
                   | (refine Den.need ?_ ?_)
                   | (refine iha _ _ ?_ ⟨_, _, by subst ho; rfl, ?_, Nat.le_refl _⟩)
                   | (refine Den.done ⟨by first | exact Or.inl rfl | exact Or.inr rfl, ?_⟩; (conv => lhs; cbv); refine congrArg some ?_))
              | ((fail_if_success (refine Den.id ?_))
                 first
                   | (subst ho; exact ⟨Int.le_refl 0, by omega, fun i hi => absurd hi (by omega)⟩)
                   | (subst ho; refine dB ?_; exact wordB_no i1 (by omega) (by first | exact hv | omega))
                   | (subst ho; refine dB ?_; first | exact wordB_end (by omega) i3 (decide_eq_true hv).symm | exact wordB_end (by omega) i3 (decide_eq_false hv).symm)
                   | (subst ho; simp (disch := omega) only [std, wI]; exact ⟨by omega, by omega, word_step i1 i3 (by first | exact hv | omega)⟩)
                   | (subst ho; simp (disch := omega) only [std, wI]; omega)
                   | (subst ho; simp [std, len_eFc, len_eNd, len_eBd, len_eAb, len_eLBd, len_eK, len_eB]; omega)))))
    | ((fail_if_success (refine Den.id ?_))
       first
         | fail))
theorem spec_l3Keys.ans {xa xb : Option (List D → Option D)} (o : Std) (ho : o = std) : Ans (env xa xb) 218 [] (.sl .ro 1 (o.bx fun _ => eB (keyL))) := by
  refine Ans.mkA ho _ rfl rfl ?_
  repeat' (first
    | (refine Den.id ?_
       (try (conv => arg 2; cbv))
       first
         | (refine Den.done ⟨by first | exact Or.inl rfl | exact Or.inr rfl, ?_⟩; (conv => lhs; cbv); refine congrArg some ?_))
    | ((fail_if_success (refine Den.id ?_))
       first
         | (subst ho; rfl)))
theorem spec_IsKey.ans {xa xb : Option (List D → Option D)} (o : Std) (ho : o = std) (s : ByteArray) : Ans (env xa xb) 199 [.str s] (.bool (keyB s)) := by
  refine Ans.mkA ho _ rfl rfl ?_
  have hkl : keyL.length = 20 := rfl
  repeat' (first
    | (refine Den.id ?_
       (try (conv => arg 2; cbv))
       first
         | (refine Den.pcallE (β := List ByteArray) (fun v => .sl .ro 1 (o.bx fun _ => eB v)) (as' := []) (by first | with_reducible rfl | (subst ho; rfl)) (spec_l3Keys.ans o ho) ?_; rotate_left 0; rintro v hv)
         | (refine Den.indF (fun m_ s_ => ∃ (a3 : List ByteArray) (a4 : Int) (ta3 : Tok) (tk : List Nat), s_ = ⟨[.str s, .junk, .junk, .sl ta3 1 (o.bx fun _ => eB a3), .int .i64 a4] ++ List.replicate 13 .junk, [], [], tk⟩ ∧ (a3 = keyL ∧ 0 ≤ a4 ∧ a4 ≤ 20 ∧ (keyL.take a4.toNat).any (fun k => eqS k s) = false) ∧ (20 - a4).toNat ≤ m_) _ _ ⟨_, _, _, _, by subst ho; rfl, ?_, Nat.le_refl _⟩ ?_
            rotate_right
            rintro m_ _ ⟨a3, a4, ta3, tk, rfl, hIa, hka⟩ iha
            obtain ⟨i0, i1, i2, i3⟩ := hIa; have hal : a3.length = 20 := (by rw [i0]; exact hkl); refine Den.unloopA ho ?_
            repeat' (first
              | (refine Den.id ?_
                 (try (conv => arg 2; cbv))
                 first
                   | (refine Den.test (fun hr => ?_) (fun hr => ?_) <;> (have hb := hr) <;> (try simp (disch := omega) only [ho, std, wI, len_eK, len_eB, len_eNd, len_eLNd, len_eFc, len_eAb, len_eBd, len_eEd, len_eLBd, Classical.not_not, decide_eq_true_eq, decide_eq_false_iff_not, beq_iff_eq, beq_eq_false_iff_ne, ne_eq, Bool.not_eq_true', Bool.not_eq_false', gt_iff_lt, ge_iff_le, Int.not_lt, Int.not_le] at hb) <;> (try (exfalso; first | contradiction | omega | exact hb rfl)))
                   | (refine Den.fetchXB ho ?_ ?_ (fun y hy => ?_); rotate_left 2)
                   | (refine iha _ _ ?_ ⟨_, _, _, _, by subst ho; rfl, ?_, Nat.le_refl _⟩)
                   | (refine Den.done ⟨by first | exact Or.inl rfl | exact Or.inr rfl, ?_⟩; (conv => lhs; cbv); refine congrArg some ?_))
              | ((fail_if_success (refine Den.id ?_))
                 first
                   | (subst ho; exact ⟨Eq.symm (by assumption), Int.le_refl _, by omega, rfl⟩)
                   | (refine dB ?_; rw [i0] at hy; exact keyB_hit i1 (by omega) hy (by assumption))
                   | (refine dB ?_; exact keyB_end (by omega) i3)
                   | (simp (disch := omega) only [ho, std, wI]; rw [i0] at hy; exact ⟨i0, by omega, by omega, key_step i1 (by omega) i3 hy (by assumption)⟩)
                   | assumption
                   | (subst ho; simp (disch := omega) only [std, wI, tdiv2, tdivN, len_eFc, len_eNd, len_eBd, len_eAb, len_eLBd, len_eK, len_eB] <;> first | done | rfl | omega)))))
    | ((fail_if_success (refine Den.id ?_))
       first
         | fail))
theorem spec_l3Name.ans {xa xb : Option (List D → Option D)} (o : Std) (ho : o = std) (s : ByteArray) (h0 : s.size ≤ 1048576) : Ans (env xa xb) 180 [.str s] (.bool (nameB s)) := by
  refine Ans.mkA ho _ rfl rfl ?_
  repeat' (first
    | (refine Den.id ?_
       (try (conv => arg 2; cbv))
       first
         | refine Den.testT ?_
         | refine Den.testF ?_
         | (refine Den.pcallE (β := Bool) (fun v => .bool v) (as' := [.str _]) (by first | with_reducible rfl | (subst ho; rfl)) (spec_IsWord.ans o ho _ ?_) ?_; rotate_left 1; rintro (_ | _) hv <;> (try simp only [decide_eq_true_eq, decide_eq_false_iff_not] at hv) <;> (try first | contradiction | exact absurd (hv.symm.trans (show _ = false by assumption)) (by decide) | exact absurd (hv.symm.trans (show _ = true by assumption)) (by decide)))
         | (refine Den.pcallE (β := Bool) (fun v => .bool v) (as' := [.str _]) (by first | with_reducible rfl | (subst ho; rfl)) (spec_IsKey.ans o ho _) ?_; rotate_left 0; rintro (_ | _) hv <;> (try simp only [decide_eq_true_eq, decide_eq_false_iff_not] at hv) <;> (try first | contradiction | exact absurd (hv.symm.trans (show _ = false by assumption)) (by decide) | exact absurd (hv.symm.trans (show _ = true by assumption)) (by decide)))
         | (refine Den.done ⟨by first | exact Or.inl rfl | exact Or.inr rfl, ?_⟩; (conv => lhs; cbv); refine congrArg some ?_))
    | ((fail_if_success (refine Den.id ?_))
       first
         | (subst ho; refine dB ?_; unfold nameB; simp [*, std]; done)
         | assumption))
end Go.Mach
end
section
set_option linter.unusedVariables false
set_option linter.unusedSimpArgs false
namespace Go.Mach
open Go Go.RowKit Go.Proofs
set_option maxRecDepth 100000
set_option maxHeartbeats 1000000
theorem spec_l15At.ans {xa xb : Option (List D → Option D)} (o : Std) (ho : o = std) (l : List Fc) (k : Int) (n : Int) (c : Int) (h0 : Up l) (h1 : ∀ f ∈ l, 0 ≤ f.v.k) (h2 : l.length ≤ 2900000000000) : Ans (env xa xb) 74 [.sl .ro 6 (o.bx fun _ => eFc l), .int .i64 k, .int .i64 n, .int .i64 c] (.sl .ro 3 (o.bx fun _ => eAb (vals l k n c))) := by
  refine Ans.mkA ho _ rfl rfl ?_
  repeat' (first
    | (refine Den.id ?_
       (try (conv => arg 2; cbv))
       first
         | (refine Den.pcallE (β := Int) (fun v => .int .i64 v) (as' := [.sl .ro 6 (o.bx fun _ => eFc _), .agg [.int .i64 _, .int .i64 _, .int .i64 _, .int .i64 _, .int .i64 _, .int .i64 _]]) (by first | with_reducible rfl | (subst ho; rfl)) (spec_l15Place.ans o ho _ _ _ _ _ _ _ ?_ ?_) ?_; rotate_left 2; rintro v hv)
         | (refine Den.indF (fun m_ s_ => ∃ (ea9 : Box) (a10 : Int) (ta9 : Tok) (tk : List Nat), s_ = ⟨[.sl .ro 6 (o.bx fun _ => eFc l), .int .i64 k, .int .i64 n, .int .i64 c, .junk, .junk, .junk, .junk, .junk, .sl ta9 3 ea9, .int .i64 a10] ++ List.replicate 57 .junk, [], [], tk⟩ ∧ Lv tk ta9 ea9.length ∧ ea9 = (o.bx fun _ => eAb (vals (l.take a10.toNat) k n c)) ∧ (0 ≤ a10 ∧ a10 ≤ l.length ∧ (∀ j : Nat, j < l.length → a10 ≤ j → ltF ⟨k, n, c, ⟨-1, 0, 0⟩⟩ (l.getD j zF))) ∧ (l.length - a10).toNat ≤ m_) _ _ ⟨_, _, _, _, by subst ho; rfl, ?_, ?_, ?_, Nat.le_refl _⟩ ?_
            rotate_right
            rintro m_ _ ⟨ea9, a10, ta9, tk, rfl, hla0, rfl, hIa, hka⟩ iha
            obtain ⟨i1, i2, i3⟩ := hIa; refine Den.unloopA ho ?_
            repeat' (first
              | (refine Den.id ?_
                 (try (conv => arg 2; cbv))
                 first
                   | refine Den.testF ?_
                   | refine Den.test1 (by with_reducible assumption) ?_
                   | refine Den.test0 (by with_reducible assumption) ?_
                   | (refine Den.test (fun hr => ?_) (fun hr => ?_) <;> (have hb := hr) <;> (try simp (disch := omega) only [ho, std, wI, len_eK, len_eB, len_eNd, len_eLNd, len_eFc, len_eAb, len_eBd, len_eEd, len_eLBd, Classical.not_not, decide_eq_true_eq, decide_eq_false_iff_not, beq_iff_eq, beq_eq_false_iff_ne, ne_eq, Bool.not_eq_true', Bool.not_eq_false', gt_iff_lt, ge_iff_le, Int.not_lt, Int.not_le] at hb) <;> (try (exfalso; first | contradiction | omega | exact hb rfl)))
                   | (refine Den.fetchYFc ho ?_ ?_ (by with_reducible assumption) ?_)
                   | (refine Den.fetchXFc ho ?_ ?_ (fun y hy => ?_); rotate_left 2; rcases y with ⟨yk, yn, yc, yvk, yvn, yvc⟩)
                   | (refine Den.need ?_ ?_)
                   | (refine Den.app1 ?_ (fun t' tk' hl' => ?_))
                   | (refine iha _ _ ?_ ⟨_, _, _, _, by subst ho; rfl, ?_, ?_, ?_, Nat.le_refl _⟩)
                   | (refine Den.done ⟨by first | exact Or.inl rfl | exact Or.inr rfl, ?_⟩; (conv => lhs; cbv); refine congrArg some ?_))
              | ((fail_if_success (refine Den.id ?_))
                 first
                   | (exact Lv.cap _)
                   | (subst ho; exact hla0)
                   | (subst ho; refine congrArg (D.sl Tok.ro 3) (congrArg eAb ?_); first | exact vals_end i1 i2 h0 i3 (.inl (by omega)) | exact vals_end i1 i2 h0 i3 (.inr ⟨by omega, fun hh => by rw [hy] at hh; first | exact hb hh.1 | exact hb hh.2.1 | exact hb hh.2.2⟩))
                   | (subst hv; subst ho; exact ⟨(vals_start h0 h1).1, (vals_start h0 h1).2.1, (vals_start h0 h1).2.2.2⟩)
                   | (subst hv; subst ho; exact congrArg eAb (vals_start h0 h1).2.2.1)
                   | (subst ho; have hl := len_vals (l.take a10.toNat) k n c; simp [std, len_eAb]; simp at hl; omega)
                   | (subst ho; refine push_eAb (x := ⟨yvk, yvn, yvc⟩) ?_; simp (disch := omega) only [std, wI]; rw [vals_take_succ i1 (by omega), hy, if_pos (by simp_all [hasKey])])
                   | (subst ho; simp (disch := omega) only [std, wI]; refine ⟨by omega, by omega, fun j hj hk => i3 j hj (by omega)⟩)
                   | (exfalso; have hz := h1 _ (rF_mem i1 (by omega)); rw [hy] at hz; exact absurd hb (Int.not_lt.2 hz))
                   | (subst ho; simpa [std, len_eFc, len_eNd, len_eBd, len_eAb, len_eLBd, len_eK, len_eB] using hl')
                   | (subst ho; simp (disch := omega) only [std, wI, tdiv2, tdivN, len_eFc, len_eNd, len_eBd, len_eAb, len_eLBd, len_eK, len_eB] <;> first | done | rfl | omega)))))
    | ((fail_if_success (refine Den.id ?_))
       first
         | assumption))
end Go.Mach
end
section
set_option linter.unusedVariables false
set_option linter.unusedSimpArgs false
namespace Go.Mach
open Go Go.RowKit Go.Proofs
set_option maxRecDepth 100000
set_option maxHeartbeats 1000000
theorem spec_l17Flow.ans {xa xb : Option (List D → Option D)} (o : Std) (ho : o = std) (out : List Fc) (old : List Fc) (fk : Int) (fn : Int) (fc : Int) (pk : Int) (pn : Int) (pc : Int) (h0 : Up out) (h1 : Up old) (h2 : ∀ f ∈ old, 0 ≤ f.v.k) (h3 : old.length ≤ 2900000000000) (h4 : out.length + (vals old fk fn fc).length ≤ 2900000000000) : Ans (env xa xb) 135 [.sl .ro 6 (o.bx fun _ => eFc out), .sl .ro 6 (o.bx fun _ => eFc old), .int .i64 fk, .int .i64 fn, .int .i64 fc, .int .i64 pk, .int .i64 pn, .int .i64 pc] (.sl .ro 6 (o.bx fun _ => eFc (insAll out (flowL old fk fn fc pk pn pc)))) := by
  refine Ans.mkA ho _ rfl rfl ?_
  repeat' (first
    | (refine Den.id ?_
       (try (conv => arg 2; cbv))
       first
         | (refine Den.pcallE (β := List Ab) (fun v => .sl .ro 3 (o.bx fun _ => eAb v)) (as' := [.sl .ro 6 (o.bx fun _ => eFc _), .int .i64 _, .int .i64 _, .int .i64 _]) (by first | with_reducible rfl | (subst ho; rfl)) (spec_l15At.ans o ho _ _ _ _ ?_ ?_ ?_) ?_; rotate_left 3; rintro v hv)
         | (refine Den.indF (fun m_ s_ => ∃ (a0 : List Fc) (a17 : List Ab) (a18 : Int) (ta0 ta17 : Tok) (tk : List Nat), s_ = ⟨[.sl ta0 6 (o.bx fun _ => eFc a0), .junk, .junk, .junk, .junk, .int .i64 pk, .int .i64 pn, .int .i64 pc, .junk, .junk, .junk, .junk, .junk, .junk, .junk, .junk, .junk, .sl ta17 3 (o.bx fun _ => eAb a17), .int .i64 a18] ++ List.replicate 22 .junk, [], [], tk⟩ ∧ (a17 = vals old fk fn fc ∧ 0 ≤ a18 ∧ a18 ≤ a17.length ∧ a0 = insAll out (mapF (a17.take a18.toNat) pk pn pc)) ∧ (a17.length - a18).toNat ≤ m_) _ _ ⟨_, _, _, _, _, _, by subst ho; rfl, ?_, Nat.le_refl _⟩ ?_
            rotate_right
            rintro m_ _ ⟨a0, a17, a18, ta0, ta17, tk, rfl, hIa, hka⟩ iha
            obtain ⟨i1, i2, i3, i4⟩ := hIa; have hw := len_insAll out (mapF (a17.take a18.toNat) pk pn pc); rw [← i4, len_mapF] at hw; have hx := List.length_take_le a18.toNat a17; rw [← i1] at h4; refine Den.unloopA ho ?_
            repeat' (first
              | (refine Den.id ?_
                 (try (conv => arg 2; cbv))
                 first
                   | (refine Den.test (fun hr => ?_) (fun hr => ?_) <;> (have hb := hr) <;> (try simp (disch := omega) only [ho, std, wI, len_eK, len_eB, len_eNd, len_eLNd, len_eFc, len_eAb, len_eBd, len_eEd, len_eLBd, Classical.not_not, decide_eq_true_eq, decide_eq_false_iff_not, beq_iff_eq, beq_eq_false_iff_ne, ne_eq, Bool.not_eq_true', Bool.not_eq_false', gt_iff_lt, ge_iff_le, Int.not_lt, Int.not_le] at hb) <;> (try (exfalso; first | contradiction | omega | exact hb rfl)))
                   | (refine Den.pcallE (β := List Fc) (fun v => .sl .ro 6 (o.bx fun _ => eFc v)) (as' := [.sl .ro 6 (o.bx fun _ => eFc _), .agg [.int .i64 _, .int .i64 _, .int .i64 _, .int .i64 _, .int .i64 _, .int .i64 _]]) (by first | with_reducible rfl | (subst ho; rfl)) (spec_l15Add.ans o ho _ _ _ _ _ _ _ ?_ ?_) ?_; rotate_left 2; rintro v hv)
                   | (refine Den.fetchXAb ho ?_ ?_ (fun y hy => ?_); rotate_left 2; rcases y with ⟨yk, yn, yc⟩)
                   | (refine iha _ _ ?_ ⟨_, _, _, _, _, _, by subst ho; rfl, ?_, Nat.le_refl _⟩)
                   | (refine Den.done ⟨by first | exact Or.inl rfl | exact Or.inr rfl, ?_⟩; (conv => lhs; cbv); refine congrArg some ?_))
              | ((fail_if_success (refine Den.id ?_))
                 first
                   | (rw [i4]; exact h0.insAll _)
                   | (subst ho; refine congrArg (D.sl Tok.ro 6) (congrArg eFc ?_); rw [i4, take_allG (by omega), i1]; rfl)
                   | (subst hv; subst ho; exact ⟨rfl, by omega, by simp [std], by simp [mapF, insAll]⟩)
                   | (subst ho; refine ⟨i1, ?_, ?_, ?_⟩ <;> simp (disch := omega) only [std, wI] <;> first | omega | (rw [mapF_succ i2 (by omega), insAll_append, ← i4, ← hv, hy]; rfl))
                   | assumption
                   | omega
                   | (subst ho; simp (disch := omega) only [std, wI, tdiv2, tdivN, len_eFc, len_eNd, len_eBd, len_eAb, len_eLBd, len_eK, len_eB] <;> first | done | rfl | omega)))))
    | ((fail_if_success (refine Den.id ?_))
       first
         | assumption))
theorem spec_l17Has.ans {xa xb : Option (List D → Option D)} (o : Std) (ho : o = std) (l : List Fc) (n : Int) (c : Int) (h0 : Up l) (h1 : ∀ f ∈ l, 0 ≤ f.v.k) (h2 : l.length ≤ 2900000000000) : Ans (env xa xb) 175 [.sl .ro 6 (o.bx fun _ => eFc l), .int .i64 n, .int .i64 c] (.bool (anyB l 0 n c)) := by
  refine Ans.mkA ho _ rfl rfl ?_
  repeat' (first
    | (refine Den.id ?_
       (try (conv => arg 2; cbv))
       first
         | (refine Den.pcallE (β := List Ab) (fun v => .sl .ro 3 (o.bx fun _ => eAb v)) (as' := [.sl .ro 6 (o.bx fun _ => eFc _), .int .i64 _, .int .i64 _, .int .i64 _]) (by first | with_reducible rfl | (subst ho; rfl)) (spec_l15At.ans o ho _ _ _ _ ?_ ?_ ?_) ?_; rotate_left 3; rintro v hv)
         | (refine Den.done ⟨by first | exact Or.inl rfl | exact Or.inr rfl, ?_⟩; (conv => lhs; cbv); refine congrArg some ?_))
    | ((fail_if_success (refine Den.id ?_))
       first
         | (subst ho; refine dB ?_; subst hv; exact (anyB_iff (by simp [std, len_eAb])).symm)
         | assumption))
theorem spec_l17Raises.ans {xa xb : Option (List D → Option D)} (o : Std) (ho : o = std) (l : List Fc) (n : Int) (c : Int) (h0 : Up l) (h1 : ∀ f ∈ l, 0 ≤ f.v.k) (h2 : l.length ≤ 2900000000000) : Ans (env xa xb) 139 [.sl .ro 6 (o.bx fun _ => eFc l), .int .i64 n, .int .i64 c] (.bool (anyB l 7 n c)) := by
  refine Ans.mkA ho _ rfl rfl ?_
  repeat' (first
    | (refine Den.id ?_
       (try (conv => arg 2; cbv))
       first
         | (refine Den.pcallE (β := List Ab) (fun v => .sl .ro 3 (o.bx fun _ => eAb v)) (as' := [.sl .ro 6 (o.bx fun _ => eFc _), .int .i64 _, .int .i64 _, .int .i64 _]) (by first | with_reducible rfl | (subst ho; rfl)) (spec_l15At.ans o ho _ _ _ _ ?_ ?_ ?_) ?_; rotate_left 3; rintro v hv)
         | (refine Den.done ⟨by first | exact Or.inl rfl | exact Or.inr rfl, ?_⟩; (conv => lhs; cbv); refine congrArg some ?_))
    | ((fail_if_success (refine Den.id ?_))
       first
         | (subst ho; refine dB ?_; subst hv; exact (anyB_iff (by simp [std, len_eAb])).symm)
         | assumption))
theorem spec_l17Kind.ans {xa xb : Option (List D → Option D)} (o : Std) (ho : o = std) (l : List Fc) (n : Int) (c : Int) (kd : Int) (h0 : Up l) (h1 : ∀ f ∈ l, 0 ≤ f.v.k) (h2 : l.length ≤ 2900000000000) : Ans (env xa xb) 177 [.sl .ro 6 (o.bx fun _ => eFc l), .int .i64 n, .int .i64 c, .int .i64 kd] (.bool (kindB l n c kd)) := by
  refine Ans.mkA ho _ rfl rfl ?_
  repeat' (first
    | (refine Den.id ?_
       (try (conv => arg 2; cbv))
       first
         | (refine Den.pcallE (β := List Ab) (fun v => .sl .ro 3 (o.bx fun _ => eAb v)) (as' := [.sl .ro 6 (o.bx fun _ => eFc _), .int .i64 _, .int .i64 _, .int .i64 _]) (by first | with_reducible rfl | (subst ho; rfl)) (spec_l15At.ans o ho _ _ _ _ ?_ ?_ ?_) ?_; rotate_left 3; rintro v hv)
         | (refine Den.indF (fun m_ s_ => ∃ (a9 : List Ab) (a10 : Int) (ta9 : Tok) (tk : List Nat), s_ = ⟨[.junk, .junk, .junk, .int .i64 kd, .junk, .junk, .junk, .junk, .junk, .sl ta9 3 (o.bx fun _ => eAb a9), .int .i64 a10] ++ List.replicate 17 .junk, [], [], tk⟩ ∧ (a9 = vals l 0 n c ∧ 0 ≤ a10 ∧ a10 ≤ a9.length ∧ (a9.take a10.toNat).any (fun v => v.k == kd) = false) ∧ (a9.length - a10).toNat ≤ m_) _ _ ⟨_, _, _, _, by subst ho; rfl, ?_, Nat.le_refl _⟩ ?_
            rotate_right
            rintro m_ _ ⟨a9, a10, ta9, tk, rfl, hIa, hka⟩ iha
            obtain ⟨i1, i2, i3, i4⟩ := hIa; have hz := len_vals l 0 n c; rw [← i1] at hz; refine Den.unloopA ho ?_
            repeat' (first
              | (refine Den.id ?_
                 (try (conv => arg 2; cbv))
                 first
                   | (refine Den.test (fun hr => ?_) (fun hr => ?_) <;> (have hb := hr) <;> (try simp (disch := omega) only [ho, std, wI, len_eK, len_eB, len_eNd, len_eLNd, len_eFc, len_eAb, len_eBd, len_eEd, len_eLBd, Classical.not_not, decide_eq_true_eq, decide_eq_false_iff_not, beq_iff_eq, beq_eq_false_iff_ne, ne_eq, Bool.not_eq_true', Bool.not_eq_false', gt_iff_lt, ge_iff_le, Int.not_lt, Int.not_le] at hb) <;> (try (exfalso; first | contradiction | omega | exact hb rfl)))
                   | (refine Den.fetchXAb ho ?_ ?_ (fun y hy => ?_); rotate_left 2; rcases y with ⟨yk, yn, yc⟩)
                   | (refine iha _ _ ?_ ⟨_, _, _, _, by subst ho; rfl, ?_, Nat.le_refl _⟩)
                   | (refine Den.done ⟨by first | exact Or.inl rfl | exact Or.inr rfl, ?_⟩; (conv => lhs; cbv); refine congrArg some ?_))
              | ((fail_if_success (refine Den.id ?_))
                 first
                   | (refine dB ?_; subst ho; unfold kindB; rw [← i1]; exact (List.any_eq_true.2 ⟨rA a9 a10, rdG_mem i2 (by omega), by rw [hy]; simpa using hb⟩).symm)
                   | (refine dB ?_; unfold kindB; rw [← i1, ← take_allG (l := a9) (i := a10) (by omega), i4])
                   | (subst hv; subst ho; exact ⟨rfl, by omega, by simp [std], by simp⟩)
                   | (subst ho; refine ⟨i1, ?_, ?_, ?_⟩ <;> simp (disch := omega) only [std, wI] <;> first | omega | (rw [take_succG zA i2 (by omega), List.any_append, i4, show rdG zA a9 a10 = _ from hy]; simpa using hb))
                   | assumption
                   | (subst ho; simp (disch := omega) only [std, wI, tdiv2, tdivN, len_eFc, len_eNd, len_eBd, len_eAb, len_eLBd, len_eK, len_eB] <;> first | done | rfl | omega)))))
    | ((fail_if_success (refine Den.id ?_))
       first
         | assumption))
end Go.Mach
end
section
set_option linter.unusedVariables false
set_option linter.unusedSimpArgs false
namespace Go.Mach
open Go Go.RowKit Go.Proofs
set_option maxRecDepth 100000
set_option maxHeartbeats 1000000
theorem spec_l17Parts.ans {xa xb : Option (List D → Option D)} (o : Std) (ho : o = std) (p_l : List Nd) (p_bind : List Bd) (p_outer : List (List Bd)) (p_depth : Int) (out : List Fc) (old : List Fc) (kid : Int) (c : Int) (kd : Int) (part : Int) (pk : Int) (pn : Int) (h0 : Up out) (h1 : Up old) (h2 : ∀ f ∈ old, 0 ≤ f.v.k) (h3 : old.length ≤ 2900000000000) (h4 : out.length + (partsL old kid c kd part pk pn).length ≤ 2900000000000) : Ans (env xa xb) 178 [.agg [.sl .ro 7 (o.bx fun _ => eNd p_l), .sl .ro 2 (o.bx fun _ => eBd p_bind), .sl .ro 1 (o.bx fun _ => eLBd p_outer), .int .i64 p_depth], .sl .ro 6 (o.bx fun _ => eFc out), .sl .ro 6 (o.bx fun _ => eFc old), .int .i64 kid, .int .i64 c, .int .i64 kd, .int .i64 part, .int .i64 pk, .int .i64 pn] (.sl .ro 6 (o.bx fun _ => eFc (insAll out (partsL old kid c kd part pk pn)))) := by
  refine Ans.mkA ho _ rfl rfl ?_
  repeat' (first
    | (refine Den.id ?_
       (try (conv => arg 2; cbv))
       first
         | (refine Den.pcallE (β := List Ab) (fun v => .sl .ro 3 (o.bx fun _ => eAb v)) (as' := [.sl .ro 6 (o.bx fun _ => eFc _), .int .i64 _, .int .i64 _, .int .i64 _]) (by first | with_reducible rfl | (subst ho; rfl)) (spec_l15At.ans o ho _ _ _ _ ?_ ?_ ?_) ?_; rotate_left 3; rintro v hv)
         | (refine Den.indF (fun m_ s_ => ∃ (a1 : List Fc) (a19 : List Ab) (a20 : Int) (ta1 ta19 : Tok) (tk : List Nat), s_ = ⟨[.junk, .sl ta1 6 (o.bx fun _ => eFc a1), .sl .ro 6 (o.bx fun _ => eFc old), .junk, .int .i64 c, .int .i64 kd, .int .i64 part, .int .i64 pk, .int .i64 pn, .junk, .junk, .junk, .junk, .junk, .junk, .junk, .junk, .junk, .junk, .sl ta19 3 (o.bx fun _ => eAb a19), .int .i64 a20] ++ List.replicate 35 .junk, [[[.sl .ro 7 (o.bx fun _ => eNd p_l), .sl .ro 2 (o.bx fun _ => eBd p_bind), .sl .ro 1 (o.bx fun _ => eLBd p_outer), .int .i64 p_depth]]], [], tk⟩ ∧ (a19 = vals old 0 kid c ∧ 0 ≤ a20 ∧ a20 ≤ a19.length ∧ a1 = insAll out ((a19.take a20.toNat).flatMap (part1 old c kd part pk pn))) ∧ (a19.length - a20).toNat ≤ m_) _ _ ⟨_, _, _, _, _, _, by subst ho; rfl, ?_, Nat.le_refl _⟩ ?_
            rotate_right
            rintro m_ _ ⟨a1, a19, a20, ta1, ta19, tk, rfl, hIa, hka⟩ iha
            obtain ⟨i1, i2, i3, i4⟩ := hIa; have hz := len_vals old 0 kid c; rw [← i1] at hz; have hw := len_insAll out ((a19.take a20.toNat).flatMap (part1 old c kd part pk pn)); rw [← i4] at hw; rw [partsL, ← i1] at h4; refine Den.unloopA ho ?_
            repeat' (first
              | (refine Den.id ?_
                 (try (conv => arg 2; cbv))
                 first
                   | (refine Den.test (fun hr => ?_) (fun hr => ?_) <;> (have hb := hr) <;> (try simp (disch := omega) only [ho, std, wI, len_eK, len_eB, len_eNd, len_eLNd, len_eFc, len_eAb, len_eBd, len_eEd, len_eLBd, Classical.not_not, decide_eq_true_eq, decide_eq_false_iff_not, beq_iff_eq, beq_eq_false_iff_ne, ne_eq, Bool.not_eq_true', Bool.not_eq_false', gt_iff_lt, ge_iff_le, Int.not_lt, Int.not_le] at hb) <;> (try (exfalso; first | contradiction | omega | exact hb rfl)))
                   | (refine Den.pcallE (β := List Fc) (fun v => .sl .ro 6 (o.bx fun _ => eFc v)) (as' := [.sl .ro 6 (o.bx fun _ => eFc _), .sl .ro 6 (o.bx fun _ => eFc _), .int .i64 _, .int .i64 _, .int .i64 _, .int .i64 _, .int .i64 _, .int .i64 _]) (by first | with_reducible rfl | (subst ho; rfl)) (spec_l17Flow.ans o ho _ _ _ _ _ _ _ _ ?_ ?_ ?_ ?_ ?_) ?_; rotate_left 5; rintro v hv)
                   | (refine Den.fetchYAb ho ?_ ?_ (by with_reducible assumption) ?_)
                   | (refine Den.fetchXAb ho ?_ ?_ (fun y hy => ?_); rotate_left 2; rcases y with ⟨yk, yn, yc⟩)
                   | (refine Den.needD ho (by kernel_rfl) ?_)
                   | (refine iha _ _ ?_ ⟨_, _, _, _, _, _, by subst ho; rfl, ?_, Nat.le_refl _⟩)
                   | (refine Den.done ⟨by first | exact Or.inl rfl | exact Or.inr rfl, ?_⟩; (conv => lhs; cbv); refine congrArg some ?_))
              | ((fail_if_success (refine Den.id ?_))
                 first
                   | (rw [i4]; exact h0.insAll _)
                   | (have e := len_flatMap_succ (part1 old c kd part pk pn) zA i2 (show a20 < a19.length by omega); rw [show rdG zA a19 a20 = _ from hy, part1, if_pos hb, len_flowL] at e; dsimp only at e; omega)
                   | (subst ho; refine congrArg (D.sl Tok.ro 6) (congrArg eFc ?_); rw [i4, take_allG (by omega), i1]; rfl)
                   | (subst hv; subst ho; exact ⟨rfl, by omega, by simp [std], by simp [insAll]⟩)
                   | (subst ho; refine ⟨i1, ?_, ?_, ?_⟩ <;> simp (disch := omega) only [std, wI] <;> first | omega | (rw [flatMap_succ _ zA i2 (by omega), insAll_append, ← i4, show rdG zA a19 a20 = _ from hy, part1, if_pos hb]; exact hv.symm) | (rw [flatMap_succ _ zA i2 (by omega), insAll_append, ← i4, show rdG zA a19 a20 = _ from hy, part1, if_neg hb]; rfl))
                   | assumption
                   | (subst ho; simp (disch := omega) only [std, wI, tdiv2, tdivN, len_eFc, len_eNd, len_eBd, len_eAb, len_eLBd, len_eK, len_eB] <;> first | done | rfl | omega)))))
    | ((fail_if_success (refine Den.id ?_))
       first
         | assumption))
end Go.Mach
end
section
set_option linter.unusedVariables false
set_option linter.unusedSimpArgs false
namespace Go.Mach
open Go Go.RowKit Go.Proofs
set_option maxRecDepth 100000
set_option maxHeartbeats 4000000
theorem spec_Arity.ans {xa xb : Option (List D → Option D)} (o : Std) (ho : o = std) (k : Int) : Ans (env xa xb) 148 [.int .i64 k] (.int .i64 (((arityM k : Nat) : Int))) := by
  refine Ans.mkA ho _ rfl rfl ?_
  repeat' (first
    | (refine Den.id ?_
       (try (conv => arg 2; cbv))
       first
         | refine Den.test1 (by with_reducible assumption) ?_
         | (refine Den.test (fun hr => ?_) (fun hr => ?_) <;> (have hb := hr) <;> (try simp (disch := omega) only [ho, std, wI, len_eK, len_eB, len_eNd, len_eLNd, len_eFc, len_eAb, len_eBd, len_eEd, len_eLBd, Classical.not_not, decide_eq_true_eq, decide_eq_false_iff_not, beq_iff_eq, beq_eq_false_iff_ne, ne_eq, Bool.not_eq_true', Bool.not_eq_false', gt_iff_lt, ge_iff_le, Int.not_lt, Int.not_le] at hb) <;> (try (exfalso; first | contradiction | omega | exact hb rfl)))
         | (refine Den.done ⟨by first | exact Or.inl rfl | exact Or.inr rfl, ?_⟩; (conv => lhs; cbv); refine congrArg some ?_))
    | ((fail_if_success (refine Den.id ?_))
       first
         | (subst ho; refine dI ?_; simp [arityM, *]; done)))
theorem spec_Kids.ans {xa xb : Option (List D → Option D)} (o : Std) (ho : o = std) (n_f0 : Int) (n_f1 : Int) (n_f2 : Int) (n_f3 : Int) (n_f4 : Int) (n_f5 : ByteArray) (n_f6 : ByteArray) : Ans (env xa xb) 120 [.agg [.int .i64 n_f0, .int .i64 n_f1, .int .i64 n_f2, .int .i64 n_f3, .int .i64 n_f4, .str n_f5, .str n_f6]] (.sl .ro 1 (o.bx fun _ => eK .i64 (kidsM (⟨n_f0, n_f1, n_f2, n_f3, n_f4, n_f5, n_f6⟩ : Nd)))) := by
  refine Ans.mkA ho _ rfl rfl ?_
  have har := arityM_le n_f0
  repeat' (first
    | (refine Den.id ?_
       (try (conv => arg 2; cbv))
       first
         | (refine Den.pcallE (β := Int) (fun v => .int .i64 v) (as' := [.int .i64 _]) (by first | with_reducible rfl | (subst ho; rfl)) (spec_Arity.ans o ho _) ?_; rotate_left 0; rintro v hv)
         | (refine Den.needD ho (by kernel_rfl) ?_)
         | (refine Den.need ?_ ?_)
         | (refine Den.done ⟨by first | exact Or.inl rfl | exact Or.inr rfl, ?_⟩; (conv => lhs; cbv); refine congrArg some ?_))
    | ((fail_if_success (refine Den.id ?_))
       first
         | (subst ho; refine congrArg (D.sl Tok.ro 1) ?_; subst hv; simp [std, kidsM, eK, List.map_take]; done)
         | (subst ho; simp [std, len_eFc, len_eNd, len_eBd, len_eAb, len_eLBd, len_eK, len_eB]; omega)))
end Go.Mach
end
section
set_option linter.unusedVariables false
set_option linter.unusedSimpArgs false
namespace Go.Mach
open Go Go.RowKit Go.Proofs
set_option maxRecDepth 100000
set_option maxHeartbeats 1000000
theorem spec_l3Fields.ans {xa xb : Option (List D → Option D)} (o : Std) (ho : o = std) (n_f0 : Int) (n_f1 : Int) (n_f2 : Int) (n_f3 : Int) (n_f4 : Int) (n_f5 : ByteArray) (n_f6 : ByteArray) (h0 : n_f5.size ≤ 1048576 ∧ n_f6.size ≤ 1048576) : Ans (env xa xb) 142 [.agg [.int .i64 n_f0, .int .i64 n_f1, .int .i64 n_f2, .int .i64 n_f3, .int .i64 n_f4, .str n_f5, .str n_f6]] (.bool (fldB (⟨n_f0, n_f1, n_f2, n_f3, n_f4, n_f5, n_f6⟩ : Nd))) := by
  refine Ans.mkA ho _ rfl rfl ?_
  have har := arityM_le n_f0
  repeat' (first
    | (refine Den.id ?_
       (try (conv => arg 2; cbv))
       first
         | refine Den.testT ?_
         | refine Den.testF ?_
         | refine Den.test1 (by with_reducible assumption) ?_
         | refine Den.test0 (by with_reducible assumption) ?_
         | refine Den.testN1 ho (by first | with_reducible assumption | with_reducible rfl) ?_
         | refine Den.testN0 ho (by first | with_reducible assumption | with_reducible rfl) ?_
         | (refine Den.test (fun hr => ?_) (fun hr => ?_) <;> (have hb := hr) <;> (try simp (disch := omega) only [ho, std, wI, len_eK, len_eB, len_eNd, len_eLNd, len_eFc, len_eAb, len_eBd, len_eEd, len_eLBd, Classical.not_not, decide_eq_true_eq, decide_eq_false_iff_not, beq_iff_eq, beq_eq_false_iff_ne, ne_eq, Bool.not_eq_true', Bool.not_eq_false', Bool.not_eq_true, Bool.not_eq_false, gt_iff_lt, ge_iff_le, Int.not_lt, Int.not_le] at hb) <;> (try (exfalso; first | contradiction | omega | exact hb rfl)))
         | (refine Den.pcallE (β := Bool) (fun v => .bool v) (as' := [.int .i64 _, .int .i64 _, .int .i64 _]) (by first | with_reducible rfl | (subst ho; rfl)) (spec_l1In.ans o ho _ _ _) ?_; rotate_left 0; rintro (_ | _) hv <;> (try simp only [decide_eq_true_eq, decide_eq_false_iff_not] at hv) <;> (try first | contradiction | exact absurd (hv.symm.trans (show _ = false by assumption)) (by decide) | exact absurd (hv.symm.trans (show _ = true by assumption)) (by decide)))
         | (refine Den.pcallE (β := Int) (fun v => .int .i64 v) (as' := [.int .i64 _]) (by first | with_reducible rfl | (subst ho; rfl)) (spec_Arity.ans o ho _) ?_; rotate_left 0; rintro v hv)
         | (refine Den.pcallE (β := Int) (fun v => .int .i64 v) (as' := [.int .i64 _]) (by first | with_reducible rfl | (subst ho; rfl)) (spec_l3Names.ans o ho _) ?_; rotate_left 0; rintro v hv)
         | (refine Den.pcallE (β := Bool) (fun v => .bool v) (as' := [.str _]) (by first | with_reducible rfl | (subst ho; rfl)) (spec_l3Name.ans o ho _ ?_) ?_; rotate_left 1; rintro (_ | _) hv <;> (try simp only [decide_eq_true_eq, decide_eq_false_iff_not] at hv) <;> (try first | contradiction | exact absurd (hv.symm.trans (show _ = false by assumption)) (by decide) | exact absurd (hv.symm.trans (show _ = true by assumption)) (by decide)))
         | (refine Den.done ⟨by first | exact Or.inl rfl | exact Or.inr rfl, ?_⟩; (conv => lhs; cbv); refine congrArg some ?_))
    | ((fail_if_success (refine Den.id ?_))
       first
         | (refine dB ?_; exact fld_no1 (by assumption))
         | (refine dB (fld_no4 fun hq => ?_); dsimp only at hq; omega)
         | (refine dB ?_; first | exact fld_no2 (nfit_1 (by dsimp only; omega) (by assumption)) | exact fld_no2 (nfit_0n (by dsimp only; omega) (by assumption)) | exact fld_no2 (nfit_0f (by dsimp only; omega) (by assumption)))
         | (refine dB ?_; first | exact fld_no3 (nfit_1 (by dsimp only; omega) (by assumption)) | exact fld_no3 (nfit_0n (by dsimp only; omega) (by assumption)) | exact fld_no3 (nfit_0f (by dsimp only; omega) (by assumption)))
         | (refine dB (fld_end (by assumption) (by first | exact nfit_1 (by dsimp only; omega) (by assumption) | exact nfit_0t (by dsimp only; omega) (by assumption)) (by first | exact nfit_1 (by dsimp only; omega) (by assumption) | exact nfit_0t (by dsimp only; omega) (by assumption)) (by dsimp only; omega) ?_); first | exact numB_2t (by assumption) (by assumption) | exact numB_2f (by assumption) (by assumption) | exact numB_8t (by assumption) (by assumption) | exact numB_8f (by assumption) (by assumption) | (subst ho; exact numB_0 (by assumption) (by assumption) rfl))
         | omega))
end Go.Mach
end
section
set_option linter.unusedVariables false
set_option linter.unusedSimpArgs false
namespace Go.Mach
open Go Go.RowKit Go.Proofs
set_option maxRecDepth 100000
set_option maxHeartbeats 1000000
theorem spec_l4Has.ans {xa xb : Option (List D → Option D)} (o : Std) (ho : o = std) (l : List Int) (x : Int) (h0 : l.length ≤ 1048576) : Ans (env xa xb) 68 [.sl .ro 1 (o.bx fun _ => eK .i64 l), .int .i64 x] (.bool (decide (x ∈ l))) := by
  refine Ans.mkA ho _ rfl rfl ?_
  repeat' (first
    | (refine Den.id ?_
       (try (conv => arg 2; cbv))
       first
         | (refine Den.indF (fun m_ s_ => ∃ (a5 : Int) (tk : List Nat), s_ = ⟨[.sl .ro 1 (o.bx fun _ => eK .i64 l), .int .i64 x, .junk, .junk, .junk, .int .i64 a5] ++ List.replicate 12 .junk, [], [], tk⟩ ∧ (0 ≤ a5 ∧ a5 ≤ l.length ∧ x ∉ l.take a5.toNat) ∧ (l.length - a5).toNat ≤ m_) _ _ ⟨_, _, by subst ho; rfl, ?_, Nat.le_refl _⟩ ?_
            rotate_right
            rintro m_ _ ⟨a5, tk, rfl, hIa, hka⟩ iha
            obtain ⟨i1, i2, i3⟩ := hIa; refine Den.unloopA ho ?_
            repeat' (first
              | (refine Den.id ?_
                 (try (conv => arg 2; cbv))
                 first
                   | (refine Den.test (fun hr => ?_) (fun hr => ?_) <;> (have hb := hr) <;> (try simp (disch := omega) only [ho, std, wI, len_eK, len_eB, len_eNd, len_eLNd, len_eFc, len_eAb, len_eBd, len_eEd, len_eLBd, Classical.not_not, decide_eq_true_eq, decide_eq_false_iff_not, beq_iff_eq, beq_eq_false_iff_ne, ne_eq, Bool.not_eq_true', Bool.not_eq_false', Bool.not_eq_true, Bool.not_eq_false, gt_iff_lt, ge_iff_le, Int.not_lt, Int.not_le] at hb) <;> (try (exfalso; first | contradiction | omega | exact hb rfl)))
                   | (refine Den.fetchXK ho ?_ ?_ (fun y hy => ?_); rotate_left 2)
                   | (refine iha _ _ ?_ ⟨_, _, by subst ho; rfl, ?_, Nat.le_refl _⟩)
                   | (refine Den.done ⟨by first | exact Or.inl rfl | exact Or.inr rfl, ?_⟩; (conv => lhs; cbv); refine congrArg some ?_))
              | ((fail_if_success (refine Den.id ?_))
                 first
                   | (subst ho; exact ⟨Int.le_refl 0, by omega, by simp⟩)
                   | (refine dB ?_; exact has4_hit i1 (by omega) hy (by assumption))
                   | (refine dB ?_; exact has4_end (by omega) i3)
                   | (simp (disch := omega) only [ho, std, wI]; exact ⟨by omega, by omega, has4_step i1 (by omega) i3 hy (by assumption)⟩)
                   | assumption
                   | (subst ho; simp (disch := omega) only [std, wI, tdiv2, tdivN, len_eFc, len_eNd, len_eBd, len_eAb, len_eLBd, len_eK, len_eB] <;> first | done | rfl | omega)))))
    | ((fail_if_success (refine Den.id ?_))
       first
         | fail))
end Go.Mach
end
