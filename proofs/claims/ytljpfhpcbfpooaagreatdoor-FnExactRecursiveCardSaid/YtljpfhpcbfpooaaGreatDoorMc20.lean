/- What the statements share: part 20 of a proof by an executable machine over the program's code. -/
import Derived.Test.YtljpfhpcbfpooaaGreatDoorMc19
set_option linter.unusedVariables false
set_option linter.unusedSimpArgs false
set_option maxRecDepth 100000
set_option maxHeartbeats 4000000
namespace Go.Mach
open Go Go.RowKit Go.Proofs
theorem spec_l15Add.ans {xa xb : Option (List D → Option D)} (o : Std) (ho : o = std) (l : List Fc) (f_k : Int) (f_n : Int) (f_c : Int) (f_v_k : Int) (f_v_n : Int) (f_v_c : Int) (h0 : Up l) (h1 : l.length ≤ 2900000000000) : Ans (env xa xb) 164 [rFc o l, .agg [iX f_k, iX f_n, iX f_c, iX f_v_k, iX f_v_n, iX f_v_c]] (rFc o (ins l (⟨f_k, f_n, f_c, ⟨f_v_k, f_v_n, f_v_c⟩⟩ : Fc))) := by
 refine Ans.mkA ho _ rfl rfl ?_
 have hp := posF_le l (⟨f_k, f_n, f_c, ⟨f_v_k, f_v_n, f_v_c⟩⟩ : Fc)
 repeat' (first
  | (refine .id ?_
     (try (conv => arg 2; cbv))
     first
      | refine .testF ?_
      | refine .t1 ?_
      | refine .t0 ?_
      | (refine .test (fun hr => ?_) (fun hr => ?_) <;> (have hb := hr) <;> (try simp (disch := omega) only [ho, std, wI, lenE, nrm] at hb) <;> (try (exfalso; first | contradiction | omega | exact hb rfl)))
      | (refine .pE (β := Int) (fun v => iX v) (as' := [rFc o _, .agg [iX _, iX _, iX _, iX _, iX _, iX _]]) (spec_l15Place.ans o ho _ _ _ _ _ _ _ ?_ ?_) ?_; rotate_left 2; rintro v hv)
      | (refine .fetchXFc ho ?_ ?_ (fun y hy => ?_); rotate_left 2; rcases y with ⟨yk, yn, yc, yvk, yvn, yvc⟩)
      | (refine .needD ho (by kernel_rfl) ?_)
      | (refine .need ?_ ?_)
      | (refine .app1 ?_ (fun t' tk' hl' => ?_))
      | (refine .fin ?_; (conv => lhs; cbv); refine congrArg some ?_))
  | ((fail_if_success (refine .id ?_))
     first
      | (exact Lv.cap _)
      | (refine congrArg (D.sl Tok.ro 6) ?_; subst ho; simp only [Bool.and_eq_true, beq_iff_eq, and_true] at hb; obtain ⟨a1, a2, a3, a4, a5, a6⟩ := hb; exact congrArg eFc (ins_found hv (by assumption) hy (Fc.ext' a1 a2 a3 a4 a5 a6)).symm)
      | (refine congrArg (D.sl Tok.ro 6) ?_; subst ho; simp only [std]; rw [ins_put hv (fun h e => by first | omega | (rw [hy] at e; cases e; simp at hb))]; simp [eFc, cFc, List.map_take, List.map_drop, List.take_of_length_le])
      | assumption
      | omega
      | (subst ho; simpa [std, lenE] using hl')
      | (subst ho; simp [std, lenE]; omega)))
theorem spec_l1In.ans {xa xb : Option (List D → Option D)} (o : Std) (ho : o = std) (a : Int) (b : Int) (c : Int) : Ans (env xa xb) 65 [iX a, iX b, iX c] (.bool (decide (b ≤ a ∧ a ≤ c))) := by
 refine Ans.mkA ho _ rfl rfl ?_
 repeat' (first
  | (refine .id ?_
     (try (conv => arg 2; cbv))
     first
      | refine .t1 ?_
      | refine .t0 ?_
      | (refine .test (fun hr => ?_) (fun hr => ?_) <;> (have hb := hr) <;> (try simp (disch := omega) only [ho, std, wI, lenE, nrm] at hb) <;> (try (exfalso; first | contradiction | omega | exact hb rfl)))
      | (refine .fin ?_; (conv => lhs; cbv); refine congrArg some ?_))
  | ((fail_if_success (refine .id ?_))
     first
      | (subst ho; first | exact dBi (by omega) | exact dB (decide_eq_false (by omega)).symm)))
theorem spec_l17See.ans {xa xb : Option (List D → Option D)} (o : Std) (ho : o = std) (l : List Fc) (i : Int) (c : Int) (h0 : Up l) (h1 : l.length ≤ 2900000000000) : Ans (env xa xb) 165 [rFc o l, iX i, iX c] (rFc o (insAll l (seeL i c))) := by
 refine Ans.mkA ho _ rfl rfl ?_
 repeat' (first
  | (refine .id ?_
     (try (conv => arg 2; cbv))
     first
      | (refine .pE (β := List Fc) (rFc o) (as' := [rFc o _, .agg [iX _, iX _, iX _, iX _, iX _, iX _]]) (spec_l15Add.ans o ho _ _ _ _ _ _ _ ?_ ?_) ?_; rotate_left 2; rintro v hv)
      | (refine .fin ?_; (conv => lhs; cbv); refine congrArg some ?_))
  | ((fail_if_success (refine .id ?_))
     first
      | (refine congrArg _ ?_; subst hv; subst ho; rfl)
      | assumption))
theorem spec_l17Name.ans {xa xb : Option (List D → Option D)} (o : Std) (ho : o = std) (r : Int) (h0 : -100000 ≤ r ∧ r ≤ 100000) : Ans (env xa xb) 163 [iX r] (iX (1 + r)) := by
 refine Ans.mkA ho _ rfl rfl ?_
 repeat' (first
  | (refine .id ?_
     (try (conv => arg 2; cbv))
     first
      | (refine .fin ?_; (conv => lhs; cbv); refine congrArg some ?_))
  | ((fail_if_success (refine .id ?_))
     first
      | (subst ho; simp (disch := omega) only [std, wI, tdiv2, tdivN, lenE] <;> first | done | rfl | omega)))
theorem spec_l16Param.ans {xa xb : Option (List D → Option D)} (o : Std) (ho : o = std) (n_f0 : Int) (n_f1 : Int) (n_f2 : Int) (n_f3 : Int) (n_f4 : Int) (n_f5 : ByteArray) (n_f6 : ByteArray) : Ans (env xa xb) 161 [.agg [iX n_f0, iX n_f1, iX n_f2, iX n_f3, iX n_f4, .str n_f5, .str n_f6]] (iX (parm (⟨n_f0, n_f1, n_f2, n_f3, n_f4, n_f5, n_f6⟩ : Nd))) := by
 refine Ans.mkA ho _ rfl rfl ?_
 repeat' (first
  | (refine .id ?_
     (try (conv => arg 2; cbv))
     first
      | (refine .test (fun hr => ?_) (fun hr => ?_) <;> (have hb := hr) <;> (try simp (disch := omega) only [ho, std, wI, lenE, nrm] at hb) <;> (try (exfalso; first | contradiction | omega | exact hb rfl)))
      | (refine .fin ?_; (conv => lhs; cbv); refine congrArg some ?_))
  | ((fail_if_success (refine .id ?_))
     first
      | (subst ho; simp [parm, *]; done)))
theorem spec_l16Lambda.ans {xa xb : Option (List D → Option D)} (o : Std) (ho : o = std) (n_f0 : Int) (n_f1 : Int) (n_f2 : Int) (n_f3 : Int) (n_f4 : Int) (n_f5 : ByteArray) (n_f6 : ByteArray) : Ans (env xa xb) 122 [.agg [iX n_f0, iX n_f1, iX n_f2, iX n_f3, iX n_f4, .str n_f5, .str n_f6]] (.bool (lamB (⟨n_f0, n_f1, n_f2, n_f3, n_f4, n_f5, n_f6⟩ : Nd))) := by
 refine Ans.mkA ho _ rfl rfl ?_
 repeat' (first
  | (refine .id ?_
     (try (conv => arg 2; cbv))
     first
      | refine .t1 ?_
      | refine .t0 ?_
      | (refine .test (fun hr => ?_) (fun hr => ?_) <;> (have hb := hr) <;> (try simp (disch := omega) only [ho, std, wI, lenE, nrm] at hb) <;> (try (exfalso; first | contradiction | omega | exact hb rfl)))
      | (refine .fin ?_; (conv => lhs; cbv); refine congrArg some ?_))
  | ((fail_if_success (refine .id ?_))
     first
      | (subst ho; simp [std, lamB, *]; done)))
theorem spec_CtxPush.ans {xa xb : Option (List D → Option D)} (o : Std) (ho : o = std) (ctx : Int) (site : Int) (depth : Int) : Ans (env xa xb) 249 [iX ctx, iX site, iX depth] (iX (ctxPush ctx site depth)) := by
 refine Ans.mkA ho _ rfl rfl ?_
 repeat' (first
  | (refine .id ?_
     (try (conv => arg 2; cbv))
     first
      | refine .testT ?_
      | refine .t1 ?_
      | refine .t0 ?_
      | (refine .test (fun hr => ?_) (fun hr => ?_) <;> (have hb := hr) <;> (try simp (disch := omega) only [ho, std, wI, lenE, nrm] at hb) <;> (try (exfalso; first | contradiction | omega | exact hb rfl)))
      | (refine .pE (β := Bool) .bool (as' := [iX _, iX _, iX _]) (spec_l1In.ans o ho _ _ _) ?_; rintro (_ | _) hv <;> (try simp only [dE] at hv) <;> (try first | exact absurd (hv.symm.trans (show _ = false by assumption)) (by decide) | exact absurd (hv.symm.trans (show _ = true by assumption)) (by decide)))
      | (refine .need ?_ ?_)
      | (refine .fin ?_; (conv => lhs; cbv); refine congrArg some ?_))
  | ((fail_if_success (refine .id ?_))
     first
      | (subst ho; refine dI ?_; simp only [ctxPush]; (repeat' split) <;> first | omega | (simp (disch := omega) only [std, wI, tdivN] <;> omega))
      | (subst ho; rfl)))
theorem spec_l2Letter.ans {xa xb : Option (List D → Option D)} (o : Std) (ho : o = std) (b : Int) : Ans (env xa xb) 192 [.int .u8 b] (.bool (decide (97 ≤ b ∧ b ≤ 122))) := by
 refine Ans.mkA ho _ rfl rfl ?_
 repeat' (first
  | (refine .id ?_
     (try (conv => arg 2; cbv))
     first
      | refine .t1 ?_
      | refine .t0 ?_
      | (refine .test (fun hr => ?_) (fun hr => ?_) <;> (have hb := hr) <;> (try simp (disch := omega) only [ho, std, wI, lenE, nrm] at hb) <;> (try (exfalso; first | contradiction | omega | exact hb rfl)))
      | (refine .fin ?_; (conv => lhs; cbv); refine congrArg some ?_))
  | ((fail_if_success (refine .id ?_))
     first
      | (subst ho; first | exact dBi (by omega) | exact dB (decide_eq_false (by omega)).symm)))
theorem spec_l3Names.ans {xa xb : Option (List D → Option D)} (o : Std) (ho : o = std) (k : Int) : Ans (env xa xb) 144 [iX k] (iX (((namesM k : Nat) : Int))) := by
 refine Ans.mkA ho _ rfl rfl ?_
 repeat' (first
  | (refine .id ?_
     (try (conv => arg 2; cbv))
     first
      | refine .t1 ?_
      | (refine .test (fun hr => ?_) (fun hr => ?_) <;> (have hb := hr) <;> (try simp (disch := omega) only [ho, std, wI, lenE, nrm] at hb) <;> (try (exfalso; first | contradiction | omega | exact hb rfl)))
      | (refine .fin ?_; (conv => lhs; cbv); refine congrArg some ?_))
  | ((fail_if_success (refine .id ?_))
     first
      | (subst ho; refine dI ?_; simp [namesM, *]; done)))
theorem spec_IsWord.ans {xa xb : Option (List D → Option D)} (o : Std) (ho : o = std) (s : ByteArray) (h0 : s.size ≤ 1048576) : Ans (env xa xb) 188 [.str s] (.bool (wordB s)) := by
 refine Ans.mkA ho _ rfl rfl ?_
 repeat' (first
  | (refine .id ?_
     (try (conv => arg 2; cbv))
     first
      | (refine .indF (fun m_ s_ => ∃ (a3 : Int) (tk : List Nat), s_ = ⟨[.str s, Jk, Jk, iX a3] ++ List.replicate 14 Jk, [], [], tk⟩ ∧ (0 ≤ a3 ∧ a3 ≤ s.size ∧ (∀ i : Nat, (i : Int) < a3 → 97 ≤ std.byte s i ∧ std.byte s i ≤ 122)) ∧ (s.size - a3).toNat ≤ m_) _ _ ⟨_, _, by subst ho; rfl, ?_, Nat.le_refl _⟩ ?_
         rotate_right
         rintro m_ _ ⟨a3, tk, rfl, hIa, hka⟩ iha
         obtain ⟨i1, i2, i3⟩ := hIa; refine .unloopA ho ?_
         repeat' (first
          | (refine .id ?_
             (try (conv => arg 2; cbv))
             first
              | refine .tN1 ho ?_
              | refine .tN0 ho ?_
              | (refine .test (fun hr => ?_) (fun hr => ?_) <;> (have hb := hr) <;> (try simp (disch := omega) only [ho, std, wI, lenE, nrm] at hb) <;> (try (exfalso; first | contradiction | omega | exact hb rfl)))
              | (refine .pE (β := Bool) .bool (as' := [.int .u8 _]) (spec_l2Letter.ans o ho _) ?_; rintro (_ | _) hv <;> (try simp only [dE] at hv) <;> (try first | contradiction | exact bX hv))
              | (refine .pE (β := Bool) .bool (as' := [iX _, iX _, iX _]) (spec_l1In.ans o ho _ _ _) ?_; rintro (_ | _) hv <;> (try simp only [dE] at hv) <;> (try first | contradiction | exact bX hv))
              | (refine .need ?_ ?_)
              | (refine iha _ _ ?_ ⟨_, _, by subst ho; rfl, ?_, Nat.le_refl _⟩)
              | (refine .fin ?_; (conv => lhs; cbv); refine congrArg some ?_))
          | ((fail_if_success (refine .id ?_))
             first
              | (subst ho; exact ⟨Int.le_refl 0, by omega, fun i hi => absurd hi (by omega)⟩)
              | (subst ho; refine dB ?_; exact wordB_no i1 (by omega) (by first | exact hv | omega))
              | (subst ho; refine dB ?_; first | exact wordB_end (by omega) i3 (decide_eq_true hv).symm | exact wordB_end (by omega) i3 (decide_eq_false hv).symm)
              | (subst ho; simp (disch := omega) only [std, wI]; exact ⟨by omega, by omega, word_step i1 i3 (by first | exact hv | omega)⟩)
              | (subst ho; simp (disch := omega) only [std, wI]; omega)
              | (subst ho; simp [std, lenE]; omega)))))
  | ((fail_if_success (refine .id ?_))
     first
      | fail))
theorem spec_l3Keys.ans {xa xb : Option (List D → Option D)} (o : Std) (ho : o = std) : Ans (env xa xb) 222 [] (rTx o (keyL)) := by
 refine Ans.mkA ho _ rfl rfl ?_
 repeat' (first
  | (refine .id ?_
     (try (conv => arg 2; cbv))
     first
      | (refine .fin ?_; (conv => lhs; cbv); refine congrArg some ?_))
  | ((fail_if_success (refine .id ?_))
     first
      | (subst ho; rfl)))
theorem spec_IsKey.ans {xa xb : Option (List D → Option D)} (o : Std) (ho : o = std) (s : ByteArray) : Ans (env xa xb) 189 [.str s] (.bool (keyB s)) := by
 refine Ans.mkA ho _ rfl rfl ?_
 have hkl : keyL.length = 20 := rfl
 repeat' (first
  | (refine .id ?_
     (try (conv => arg 2; cbv))
     first
      | (refine .pE (β := List ByteArray) (rTx o) (as' := []) (spec_l3Keys.ans o ho) ?_; rintro v hv)
      | (refine .indF (fun m_ s_ => ∃ (a3 : List ByteArray) (a4 : Int) (ta3 : Tok) (tk : List Nat), s_ = ⟨[.str s, Jk, Jk, .sl ta3 1 (o.bx fun _ => eB a3), iX a4] ++ List.replicate 13 Jk, [], [], tk⟩ ∧ (a3 = keyL ∧ 0 ≤ a4 ∧ a4 ≤ 20 ∧ (keyL.take a4.toNat).any (fun k => eqS k s) = false) ∧ (20 - a4).toNat ≤ m_) _ _ ⟨_, _, _, _, by subst ho; rfl, ?_, Nat.le_refl _⟩ ?_
         rotate_right
         rintro m_ _ ⟨a3, a4, ta3, tk, rfl, hIa, hka⟩ iha
         obtain ⟨i0, i1, i2, i3⟩ := hIa; have hal : a3.length = 20 := (by rw [i0]; exact hkl); refine .unloopA ho ?_
         repeat' (first
          | (refine .id ?_
             (try (conv => arg 2; cbv))
             first
              | (refine .test (fun hr => ?_) (fun hr => ?_) <;> (have hb := hr) <;> (try simp (disch := omega) only [ho, std, wI, lenE, nrm] at hb) <;> (try (exfalso; first | contradiction | omega | exact hb rfl)))
              | (refine .fetchXB ho ?_ ?_ (fun y hy => ?_); rotate_left 2)
              | (refine iha _ _ ?_ ⟨_, _, _, _, by subst ho; rfl, ?_, Nat.le_refl _⟩)
              | (refine .fin ?_; (conv => lhs; cbv); refine congrArg some ?_))
          | ((fail_if_success (refine .id ?_))
             first
              | (subst ho; exact ⟨Eq.symm (by assumption), Int.le_refl _, by omega, rfl⟩)
              | (refine dB ?_; rw [i0] at hy; exact keyB_hit i1 (by omega) hy (by assumption))
              | (refine dB ?_; exact keyB_end (by omega) i3)
              | (simp (disch := omega) only [ho, std, wI]; rw [i0] at hy; exact ⟨i0, by omega, by omega, key_step i1 (by omega) i3 hy (by assumption)⟩)
              | assumption
              | (subst ho; simp (disch := omega) only [std, wI, tdiv2, tdivN, lenE] <;> first | done | rfl | omega)))))
  | ((fail_if_success (refine .id ?_))
     first
      | fail))
theorem spec_l3Name.ans {xa xb : Option (List D → Option D)} (o : Std) (ho : o = std) (s : ByteArray) (h0 : s.size ≤ 1048576) : Ans (env xa xb) 145 [.str s] (.bool (nameB s)) := by
 refine Ans.mkA ho _ rfl rfl ?_
 repeat' (first
  | (refine .id ?_
     (try (conv => arg 2; cbv))
     first
      | refine .testT ?_
      | refine .testF ?_
      | (refine .pE (β := Bool) .bool (as' := [.str _]) (spec_IsWord.ans o ho _ ?_) ?_; rotate_left 1; rintro (_ | _) hv <;> (try simp only [dE] at hv) <;> (try first | contradiction | exact bX hv))
      | (refine .pE (β := Bool) .bool (as' := [.str _]) (spec_IsKey.ans o ho _) ?_; rintro (_ | _) hv <;> (try simp only [dE] at hv) <;> (try first | contradiction | exact bX hv))
      | (refine .fin ?_; (conv => lhs; cbv); refine congrArg some ?_))
  | ((fail_if_success (refine .id ?_))
     first
      | (subst ho; refine dB ?_; unfold nameB; simp [*, std]; done)
      | assumption))
theorem spec_l15At.ans {xa xb : Option (List D → Option D)} (o : Std) (ho : o = std) (l : List Fc) (k : Int) (n : Int) (c : Int) (h0 : Up l) (h1 : ∀ f ∈ l, 0 ≤ f.v.k) (h2 : l.length ≤ 2900000000000) : Ans (env xa xb) 91 [rFc o l, iX k, iX n, iX c] (rAb o (vals l k n c)) := by
 refine Ans.mkA ho _ rfl rfl ?_
 repeat' (first
  | (refine .id ?_
     (try (conv => arg 2; cbv))
     first
      | (refine .pE (β := Int) (fun v => iX v) (as' := [rFc o _, .agg [iX _, iX _, iX _, iX _, iX _, iX _]]) (spec_l15Place.ans o ho _ _ _ _ _ _ _ ?_ ?_) ?_; rotate_left 2; rintro v hv)
      | (refine .indF (fun m_ s_ => ∃ (ea9 : Box) (a10 : Int) (ta9 : Tok) (tk : List Nat), s_ = ⟨[rFc o l, iX k, iX n, iX c, Jk, Jk, Jk, Jk, Jk, .sl ta9 3 ea9, iX a10] ++ List.replicate 57 Jk, [], [], tk⟩ ∧ Lv tk ta9 ea9.length ∧ ea9 = (o.bx fun _ => eAb (vals (l.take a10.toNat) k n c)) ∧ (0 ≤ a10 ∧ a10 ≤ l.length ∧ (∀ j : Nat, j < l.length → a10 ≤ j → ltF ⟨k, n, c, ⟨-1, 0, 0⟩⟩ (l.getD j zF))) ∧ (l.length - a10).toNat ≤ m_) _ _ ⟨_, _, _, _, by subst ho; rfl, ?_, ?_, ?_, Nat.le_refl _⟩ ?_
         rotate_right
         rintro m_ _ ⟨ea9, a10, ta9, tk, rfl, hla0, rfl, hIa, hka⟩ iha
         obtain ⟨i1, i2, i3⟩ := hIa; refine .unloopA ho ?_
         repeat' (first
          | (refine .id ?_
             (try (conv => arg 2; cbv))
             first
              | refine .testF ?_
              | refine .t1 ?_
              | refine .t0 ?_
              | (refine .test (fun hr => ?_) (fun hr => ?_) <;> (have hb := hr) <;> (try simp (disch := omega) only [ho, std, wI, lenE, nrm] at hb) <;> (try (exfalso; first | contradiction | omega | exact hb rfl)))
              | (refine .fetchYFc ho ?_ ?_ (by with_reducible assumption) ?_)
              | (refine .fetchXFc ho ?_ ?_ (fun y hy => ?_); rotate_left 2; rcases y with ⟨yk, yn, yc, yvk, yvn, yvc⟩)
              | (refine .need ?_ ?_)
              | (refine .app1 ?_ (fun t' tk' hl' => ?_))
              | (refine iha _ _ ?_ ⟨_, _, _, _, by subst ho; rfl, ?_, ?_, ?_, Nat.le_refl _⟩)
              | (refine .fin ?_; (conv => lhs; cbv); refine congrArg some ?_))
          | ((fail_if_success (refine .id ?_))
             first
              | (exact Lv.cap _)
              | (subst ho; exact hla0)
              | (subst ho; refine congrArg (D.sl Tok.ro 3) (congrArg eAb ?_); first | exact vals_end i1 i2 h0 i3 (.inl (by omega)) | exact vals_end i1 i2 h0 i3 (.inr ⟨by omega, fun hh => by rw [hy] at hh; first | exact hb hh.1 | exact hb hh.2.1 | exact hb hh.2.2⟩))
              | (subst hv; subst ho; exact ⟨(vals_start h0 h1).1, (vals_start h0 h1).2.1, (vals_start h0 h1).2.2.2⟩)
              | (subst hv; subst ho; exact congrArg eAb (vals_start h0 h1).2.2.1)
              | (subst ho; have hl := len_vals (l.take a10.toNat) k n c; simp [std, len_eAb]; simp at hl; omega)
              | (subst ho; refine push_eAb (x := ⟨yvk, yvn, yvc⟩) ?_; simp (disch := omega) only [std, wI]; rw [vals_take_succ i1 (by omega), hy, if_pos (by simp_all [hasKey])])
              | (subst ho; simp (disch := omega) only [std, wI]; refine ⟨by omega, by omega, fun j hj hk => i3 j hj (by omega)⟩)
              | (exfalso; have hz := h1 _ (rF_mem i1 (by omega)); rw [hy] at hz; exact absurd hb (Int.not_lt.2 hz))
              | (subst ho; simpa [std, lenE] using hl')
              | (subst ho; simp (disch := omega) only [std, wI, tdiv2, tdivN, lenE] <;> first | done | rfl | omega)))))
  | ((fail_if_success (refine .id ?_))
     first
      | assumption))
theorem spec_l17Flow.ans {xa xb : Option (List D → Option D)} (o : Std) (ho : o = std) (out : List Fc) (old : List Fc) (fk : Int) (fn : Int) (fc : Int) (pk : Int) (pn : Int) (pc : Int) (h0 : Up out) (h1 : Up old) (h2 : ∀ f ∈ old, 0 ≤ f.v.k) (h3 : old.length ≤ 2900000000000) (h4 : out.length + (vals old fk fn fc).length ≤ 2900000000000) : Ans (env xa xb) 162 [rFc o out, rFc o old, iX fk, iX fn, iX fc, iX pk, iX pn, iX pc] (rFc o (insAll out (flowL old fk fn fc pk pn pc))) := by
 refine Ans.mkA ho _ rfl rfl ?_
 repeat' (first
  | (refine .id ?_
     (try (conv => arg 2; cbv))
     first
      | (refine .pE (β := List Ab) (rAb o) (as' := [rFc o _, iX _, iX _, iX _]) (spec_l15At.ans o ho _ _ _ _ ?_ ?_ ?_) ?_; rotate_left 3; rintro v hv)
      | (refine .indF (fun m_ s_ => ∃ (a0 : List Fc) (a17 : List Ab) (a18 : Int) (ta0 ta17 : Tok) (tk : List Nat), s_ = ⟨[.sl ta0 6 (o.bx fun _ => eFc a0), Jk, Jk, Jk, Jk, iX pk, iX pn, iX pc, Jk, Jk, Jk, Jk, Jk, Jk, Jk, Jk, Jk, .sl ta17 3 (o.bx fun _ => eAb a17), iX a18] ++ List.replicate 22 Jk, [], [], tk⟩ ∧ (a17 = vals old fk fn fc ∧ 0 ≤ a18 ∧ a18 ≤ a17.length ∧ a0 = insAll out (mapF (a17.take a18.toNat) pk pn pc)) ∧ (a17.length - a18).toNat ≤ m_) _ _ ⟨_, _, _, _, _, _, by subst ho; rfl, ?_, Nat.le_refl _⟩ ?_
         rotate_right
         rintro m_ _ ⟨a0, a17, a18, ta0, ta17, tk, rfl, hIa, hka⟩ iha
         obtain ⟨i1, i2, i3, i4⟩ := hIa; have hw := len_insAll out (mapF (a17.take a18.toNat) pk pn pc); rw [← i4, len_mapF] at hw; have hx := List.length_take_le a18.toNat a17; rw [← i1] at h4; refine .unloopA ho ?_
         repeat' (first
          | (refine .id ?_
             (try (conv => arg 2; cbv))
             first
              | (refine .test (fun hr => ?_) (fun hr => ?_) <;> (have hb := hr) <;> (try simp (disch := omega) only [ho, std, wI, lenE, nrm] at hb) <;> (try (exfalso; first | contradiction | omega | exact hb rfl)))
              | (refine .pE (β := List Fc) (rFc o) (as' := [rFc o _, .agg [iX _, iX _, iX _, iX _, iX _, iX _]]) (spec_l15Add.ans o ho _ _ _ _ _ _ _ ?_ ?_) ?_; rotate_left 2; rintro v hv)
              | (refine .fetchXAb ho ?_ ?_ (fun y hy => ?_); rotate_left 2; rcases y with ⟨yk, yn, yc⟩)
              | (refine iha _ _ ?_ ⟨_, _, _, _, _, _, by subst ho; rfl, ?_, Nat.le_refl _⟩)
              | (refine .fin ?_; (conv => lhs; cbv); refine congrArg some ?_))
          | ((fail_if_success (refine .id ?_))
             first
              | (rw [i4]; exact h0.insAll _)
              | (subst ho; refine congrArg (D.sl Tok.ro 6) (congrArg eFc ?_); rw [i4, take_allG (by omega), i1]; rfl)
              | (subst hv; subst ho; exact ⟨rfl, by omega, by simp [std], by simp [mapF, insAll]⟩)
              | (subst ho; refine ⟨i1, ?_, ?_, ?_⟩ <;> simp (disch := omega) only [std, wI] <;> first | omega | (rw [mapF_succ i2 (by omega), insAll_append, ← i4, ← hv, hy]; rfl))
              | assumption
              | omega
              | (subst ho; simp (disch := omega) only [std, wI, tdiv2, tdivN, lenE] <;> first | done | rfl | omega)))))
  | ((fail_if_success (refine .id ?_))
     first
      | assumption))
theorem spec_l17Has.ans {xa xb : Option (List D → Option D)} (o : Std) (ho : o = std) (l : List Fc) (n : Int) (c : Int) (h0 : Up l) (h1 : ∀ f ∈ l, 0 ≤ f.v.k) (h2 : l.length ≤ 2900000000000) : Ans (env xa xb) 213 [rFc o l, iX n, iX c] (.bool (anyB l 0 n c)) := by
 refine Ans.mkA ho _ rfl rfl ?_
 repeat' (first
  | (refine .id ?_
     (try (conv => arg 2; cbv))
     first
      | (refine .pE (β := List Ab) (rAb o) (as' := [rFc o _, iX _, iX _, iX _]) (spec_l15At.ans o ho _ _ _ _ ?_ ?_ ?_) ?_; rotate_left 3; rintro v hv)
      | (refine .fin ?_; (conv => lhs; cbv); refine congrArg some ?_))
  | ((fail_if_success (refine .id ?_))
     first
      | (subst ho; refine dB ?_; subst hv; exact (anyB_iff (by simp [std, len_eAb])).symm)
      | assumption))
theorem spec_l17Raises.ans {xa xb : Option (List D → Option D)} (o : Std) (ho : o = std) (l : List Fc) (n : Int) (c : Int) (h0 : Up l) (h1 : ∀ f ∈ l, 0 ≤ f.v.k) (h2 : l.length ≤ 2900000000000) : Ans (env xa xb) 166 [rFc o l, iX n, iX c] (.bool (anyB l 7 n c)) := by
 refine Ans.mkA ho _ rfl rfl ?_
 repeat' (first
  | (refine .id ?_
     (try (conv => arg 2; cbv))
     first
      | (refine .pE (β := List Ab) (rAb o) (as' := [rFc o _, iX _, iX _, iX _]) (spec_l15At.ans o ho _ _ _ _ ?_ ?_ ?_) ?_; rotate_left 3; rintro v hv)
      | (refine .fin ?_; (conv => lhs; cbv); refine congrArg some ?_))
  | ((fail_if_success (refine .id ?_))
     first
      | (subst ho; refine dB ?_; subst hv; exact (anyB_iff (by simp [std, len_eAb])).symm)
      | assumption))
theorem spec_l17Kind.ans {xa xb : Option (List D → Option D)} (o : Std) (ho : o = std) (l : List Fc) (n : Int) (c : Int) (kd : Int) (h0 : Up l) (h1 : ∀ f ∈ l, 0 ≤ f.v.k) (h2 : l.length ≤ 2900000000000) : Ans (env xa xb) 215 [rFc o l, iX n, iX c, iX kd] (.bool (kindB l n c kd)) := by
 refine Ans.mkA ho _ rfl rfl ?_
 repeat' (first
  | (refine .id ?_
     (try (conv => arg 2; cbv))
     first
      | (refine .pE (β := List Ab) (rAb o) (as' := [rFc o _, iX _, iX _, iX _]) (spec_l15At.ans o ho _ _ _ _ ?_ ?_ ?_) ?_; rotate_left 3; rintro v hv)
      | (refine .indF (fun m_ s_ => ∃ (a9 : List Ab) (a10 : Int) (ta9 : Tok) (tk : List Nat), s_ = ⟨[Jk, Jk, Jk, iX kd, Jk, Jk, Jk, Jk, Jk, .sl ta9 3 (o.bx fun _ => eAb a9), iX a10] ++ List.replicate 17 Jk, [], [], tk⟩ ∧ (a9 = vals l 0 n c ∧ 0 ≤ a10 ∧ a10 ≤ a9.length ∧ (a9.take a10.toNat).any (fun v => v.k == kd) = false) ∧ (a9.length - a10).toNat ≤ m_) _ _ ⟨_, _, _, _, by subst ho; rfl, ?_, Nat.le_refl _⟩ ?_
         rotate_right
         rintro m_ _ ⟨a9, a10, ta9, tk, rfl, hIa, hka⟩ iha
         obtain ⟨i1, i2, i3, i4⟩ := hIa; have hz := len_vals l 0 n c; rw [← i1] at hz; refine .unloopA ho ?_
         repeat' (first
          | (refine .id ?_
             (try (conv => arg 2; cbv))
             first
              | (refine .test (fun hr => ?_) (fun hr => ?_) <;> (have hb := hr) <;> (try simp (disch := omega) only [ho, std, wI, lenE, nrm] at hb) <;> (try (exfalso; first | contradiction | omega | exact hb rfl)))
              | (refine .fetchXAb ho ?_ ?_ (fun y hy => ?_); rotate_left 2; rcases y with ⟨yk, yn, yc⟩)
              | (refine iha _ _ ?_ ⟨_, _, _, _, by subst ho; rfl, ?_, Nat.le_refl _⟩)
              | (refine .fin ?_; (conv => lhs; cbv); refine congrArg some ?_))
          | ((fail_if_success (refine .id ?_))
             first
              | (refine dB ?_; subst ho; unfold kindB; rw [← i1]; exact (List.any_eq_true.2 ⟨rA a9 a10, rdG_mem i2 (by omega), by rw [hy]; simpa using hb⟩).symm)
              | (refine dB ?_; unfold kindB; rw [← i1, ← take_allG (l := a9) (i := a10) (by omega), i4])
              | (subst hv; subst ho; exact ⟨rfl, by omega, by simp [std], by simp⟩)
              | (subst ho; refine ⟨i1, ?_, ?_, ?_⟩ <;> simp (disch := omega) only [std, wI] <;> first | omega | (rw [take_succG zA i2 (by omega), List.any_append, i4, show rdG zA a9 a10 = _ from hy]; simpa using hb))
              | assumption
              | (subst ho; simp (disch := omega) only [std, wI, tdiv2, tdivN, lenE] <;> first | done | rfl | omega)))))
  | ((fail_if_success (refine .id ?_))
     first
      | assumption))
theorem spec_l17Parts.ans {xa xb : Option (List D → Option D)} (o : Std) (ho : o = std) (p_l : List Nd) (p_bind : List Bd) (p_outer : List (List Bd)) (p_depth : Int) (out : List Fc) (old : List Fc) (kid : Int) (c : Int) (kd : Int) (part : Int) (pk : Int) (pn : Int) (h0 : Up out) (h1 : Up old) (h2 : ∀ f ∈ old, 0 ≤ f.v.k) (h3 : old.length ≤ 2900000000000) (h4 : out.length + (partsL old kid c kd part pk pn).length ≤ 2900000000000) : Ans (env xa xb) 216 [.agg [rNd o p_l, rBd o p_bind, .sl .ro 1 (o.bx fun _ => eLBd p_outer), iX p_depth], rFc o out, rFc o old, iX kid, iX c, iX kd, iX part, iX pk, iX pn] (rFc o (insAll out (partsL old kid c kd part pk pn))) := by
 refine Ans.mkA ho _ rfl rfl ?_
 repeat' (first
  | (refine .id ?_
     (try (conv => arg 2; cbv))
     first
      | (refine .pE (β := List Ab) (rAb o) (as' := [rFc o _, iX _, iX _, iX _]) (spec_l15At.ans o ho _ _ _ _ ?_ ?_ ?_) ?_; rotate_left 3; rintro v hv)
      | (refine .indF (fun m_ s_ => ∃ (a1 : List Fc) (a19 : List Ab) (a20 : Int) (ta1 ta19 : Tok) (tk : List Nat), s_ = ⟨[Jk, .sl ta1 6 (o.bx fun _ => eFc a1), rFc o old, Jk, iX c, iX kd, iX part, iX pk, iX pn, Jk, Jk, Jk, Jk, Jk, Jk, Jk, Jk, Jk, Jk, .sl ta19 3 (o.bx fun _ => eAb a19), iX a20] ++ List.replicate 35 Jk, [[[rNd o p_l, rBd o p_bind, .sl .ro 1 (o.bx fun _ => eLBd p_outer), iX p_depth]]], [], tk⟩ ∧ (a19 = vals old 0 kid c ∧ 0 ≤ a20 ∧ a20 ≤ a19.length ∧ a1 = insAll out ((a19.take a20.toNat).flatMap (part1 old c kd part pk pn))) ∧ (a19.length - a20).toNat ≤ m_) _ _ ⟨_, _, _, _, _, _, by subst ho; rfl, ?_, Nat.le_refl _⟩ ?_
         rotate_right
         rintro m_ _ ⟨a1, a19, a20, ta1, ta19, tk, rfl, hIa, hka⟩ iha
         obtain ⟨i1, i2, i3, i4⟩ := hIa; have hz := len_vals old 0 kid c; rw [← i1] at hz; have hw := len_insAll out ((a19.take a20.toNat).flatMap (part1 old c kd part pk pn)); rw [← i4] at hw; rw [partsL, ← i1] at h4; refine .unloopA ho ?_
         repeat' (first
          | (refine .id ?_
             (try (conv => arg 2; cbv))
             first
              | (refine .test (fun hr => ?_) (fun hr => ?_) <;> (have hb := hr) <;> (try simp (disch := omega) only [ho, std, wI, lenE, nrm] at hb) <;> (try (exfalso; first | contradiction | omega | exact hb rfl)))
              | (refine .pE (β := List Fc) (rFc o) (as' := [rFc o _, rFc o _, iX _, iX _, iX _, iX _, iX _, iX _]) (spec_l17Flow.ans o ho _ _ _ _ _ _ _ _ ?_ ?_ ?_ ?_ ?_) ?_; rotate_left 5; rintro v hv)
              | (refine .fetchYAb ho ?_ ?_ (by with_reducible assumption) ?_)
              | (refine .fetchXAb ho ?_ ?_ (fun y hy => ?_); rotate_left 2; rcases y with ⟨yk, yn, yc⟩)
              | (refine .needD ho (by kernel_rfl) ?_)
              | (refine iha _ _ ?_ ⟨_, _, _, _, _, _, by subst ho; rfl, ?_, Nat.le_refl _⟩)
              | (refine .fin ?_; (conv => lhs; cbv); refine congrArg some ?_))
          | ((fail_if_success (refine .id ?_))
             first
              | (rw [i4]; exact h0.insAll _)
              | (have e := len_flatMap_succ (part1 old c kd part pk pn) zA i2 (show a20 < a19.length by omega); rw [show rdG zA a19 a20 = _ from hy, part1, if_pos hb, len_flowL] at e; dsimp only at e; omega)
              | (subst ho; refine congrArg (D.sl Tok.ro 6) (congrArg eFc ?_); rw [i4, take_allG (by omega), i1]; rfl)
              | (subst hv; subst ho; exact ⟨rfl, by omega, by simp [std], by simp [insAll]⟩)
              | (subst ho; refine ⟨i1, ?_, ?_, ?_⟩ <;> simp (disch := omega) only [std, wI] <;> first | omega | (rw [flatMap_succ _ zA i2 (by omega), insAll_append, ← i4, show rdG zA a19 a20 = _ from hy, part1, if_pos hb]; exact hv.symm) | (rw [flatMap_succ _ zA i2 (by omega), insAll_append, ← i4, show rdG zA a19 a20 = _ from hy, part1, if_neg hb]; rfl))
              | assumption
              | (subst ho; simp (disch := omega) only [std, wI, tdiv2, tdivN, lenE] <;> first | done | rfl | omega)))))
  | ((fail_if_success (refine .id ?_))
     first
      | assumption))
theorem spec_Arity.ans {xa xb : Option (List D → Option D)} (o : Std) (ho : o = std) (k : Int) : Ans (env xa xb) 120 [iX k] (iX (((arityM k : Nat) : Int))) := by
 refine Ans.mkA ho _ rfl rfl ?_
 repeat' (first
  | (refine .id ?_
     (try (conv => arg 2; cbv))
     first
      | refine .t1 ?_
      | (refine .test (fun hr => ?_) (fun hr => ?_) <;> (have hb := hr) <;> (try simp (disch := omega) only [ho, std, wI, lenE, nrm] at hb) <;> (try (exfalso; first | contradiction | omega | exact hb rfl)))
      | (refine .fin ?_; (conv => lhs; cbv); refine congrArg some ?_))
  | ((fail_if_success (refine .id ?_))
     first
      | (subst ho; refine dI ?_; simp [arityM, *]; done)))
theorem spec_Kids.ans {xa xb : Option (List D → Option D)} (o : Std) (ho : o = std) (n_f0 : Int) (n_f1 : Int) (n_f2 : Int) (n_f3 : Int) (n_f4 : Int) (n_f5 : ByteArray) (n_f6 : ByteArray) : Ans (env xa xb) 82 [.agg [iX n_f0, iX n_f1, iX n_f2, iX n_f3, iX n_f4, .str n_f5, .str n_f6]] (rK o (kidsM (⟨n_f0, n_f1, n_f2, n_f3, n_f4, n_f5, n_f6⟩ : Nd))) := by
 refine Ans.mkA ho _ rfl rfl ?_
 have har := arityM_le n_f0
 repeat' (first
  | (refine .id ?_
     (try (conv => arg 2; cbv))
     first
      | (refine .pE (β := Int) (fun v => iX v) (as' := [iX _]) (spec_Arity.ans o ho _) ?_; rintro v hv)
      | (refine .needD ho (by kernel_rfl) ?_)
      | (refine .need ?_ ?_)
      | (refine .fin ?_; (conv => lhs; cbv); refine congrArg some ?_))
  | ((fail_if_success (refine .id ?_))
     first
      | (subst ho; refine congrArg (D.sl Tok.ro 1) ?_; subst hv; simp [std, kidsM, eK, List.map_take]; done)
      | (subst ho; simp [std, lenE]; omega)))
theorem spec_l3Fields.ans {xa xb : Option (List D → Option D)} (o : Std) (ho : o = std) (n_f0 : Int) (n_f1 : Int) (n_f2 : Int) (n_f3 : Int) (n_f4 : Int) (n_f5 : ByteArray) (n_f6 : ByteArray) (h0 : n_f5.size ≤ 1048576 ∧ n_f6.size ≤ 1048576) : Ans (env xa xb) 113 [.agg [iX n_f0, iX n_f1, iX n_f2, iX n_f3, iX n_f4, .str n_f5, .str n_f6]] (.bool (fldB (⟨n_f0, n_f1, n_f2, n_f3, n_f4, n_f5, n_f6⟩ : Nd))) := by
 refine Ans.mkA ho _ rfl rfl ?_
 have har := arityM_le n_f0
 repeat' (first
  | (refine .id ?_
     (try (conv => arg 2; cbv))
     first
      | refine .testT ?_
      | refine .testF ?_
      | refine .t1 ?_
      | refine .t0 ?_
      | refine .tN1 ho ?_
      | refine .tN0 ho ?_
      | (refine .test (fun hr => ?_) (fun hr => ?_) <;> (have hb := hr) <;> (try simp (disch := omega) only [ho, std, wI, lenE, nrm] at hb) <;> (try (exfalso; first | contradiction | omega | exact hb rfl)))
      | (refine .pE (β := Bool) .bool (as' := [iX _, iX _, iX _]) (spec_l1In.ans o ho _ _ _) ?_; rintro (_ | _) hv <;> (try simp only [dE] at hv) <;> (try first | contradiction | exact bX hv))
      | (refine .pE (β := Int) (fun v => iX v) (as' := [iX _]) (spec_Arity.ans o ho _) ?_; rintro v hv)
      | (refine .pE (β := Int) (fun v => iX v) (as' := [iX _]) (spec_l3Names.ans o ho _) ?_; rintro v hv)
      | (refine .pE (β := Bool) .bool (as' := [.str _]) (spec_l3Name.ans o ho _ ?_) ?_; rotate_left 1; rintro (_ | _) hv <;> (try simp only [dE] at hv) <;> (try first | contradiction | exact bX hv))
      | (refine .fin ?_; (conv => lhs; cbv); refine congrArg some ?_))
  | ((fail_if_success (refine .id ?_))
     first
      | (refine dB ?_; exact fld_no1 (by assumption))
      | (refine dB (fld_no4 fun hq => ?_); dsimp only at hq; omega)
      | (refine dB ?_; first | exact fld_no2 (nfit_1 (by dsimp only; omega) (by assumption)) | exact fld_no2 (nfit_0n (by dsimp only; omega) (by assumption)) | exact fld_no2 (nfit_0f (by dsimp only; omega) (by assumption)))
      | (refine dB ?_; first | exact fld_no3 (nfit_1 (by dsimp only; omega) (by assumption)) | exact fld_no3 (nfit_0n (by dsimp only; omega) (by assumption)) | exact fld_no3 (nfit_0f (by dsimp only; omega) (by assumption)))
      | (refine dB (fld_end (by assumption) (by first | exact nfit_1 (by dsimp only; omega) (by assumption) | exact nfit_0t (by dsimp only; omega) (by assumption)) (by first | exact nfit_1 (by dsimp only; omega) (by assumption) | exact nfit_0t (by dsimp only; omega) (by assumption)) (by dsimp only; omega) ?_); first | exact numB_2t (by assumption) (by assumption) | exact numB_2f (by assumption) (by assumption) | exact numB_8t (by assumption) (by assumption) | exact numB_8f (by assumption) (by assumption) | (subst ho; exact numB_0 (by assumption) (by assumption) rfl))
      | omega))
theorem spec_l4Has.ans {xa xb : Option (List D → Option D)} (o : Std) (ho : o = std) (l : List Int) (x : Int) (h0 : l.length ≤ 1048576) : Ans (env xa xb) 81 [rK o l, iX x] (.bool (decide (x ∈ l))) := by
 refine Ans.mkA ho _ rfl rfl ?_
 repeat' (first
  | (refine .id ?_
     (try (conv => arg 2; cbv))
     first
      | (refine .indF (fun m_ s_ => ∃ (a5 : Int) (tk : List Nat), s_ = ⟨[rK o l, iX x, Jk, Jk, Jk, iX a5] ++ List.replicate 12 Jk, [], [], tk⟩ ∧ (0 ≤ a5 ∧ a5 ≤ l.length ∧ x ∉ l.take a5.toNat) ∧ (l.length - a5).toNat ≤ m_) _ _ ⟨_, _, by subst ho; rfl, ?_, Nat.le_refl _⟩ ?_
         rotate_right
         rintro m_ _ ⟨a5, tk, rfl, hIa, hka⟩ iha
         obtain ⟨i1, i2, i3⟩ := hIa; refine .unloopA ho ?_
         repeat' (first
          | (refine .id ?_
             (try (conv => arg 2; cbv))
             first
              | (refine .test (fun hr => ?_) (fun hr => ?_) <;> (have hb := hr) <;> (try simp (disch := omega) only [ho, std, wI, lenE, nrm] at hb) <;> (try (exfalso; first | contradiction | omega | exact hb rfl)))
              | (refine .fetchXK ho ?_ ?_ (fun y hy => ?_); rotate_left 2)
              | (refine iha _ _ ?_ ⟨_, _, by subst ho; rfl, ?_, Nat.le_refl _⟩)
              | (refine .fin ?_; (conv => lhs; cbv); refine congrArg some ?_))
          | ((fail_if_success (refine .id ?_))
             first
              | (subst ho; exact ⟨Int.le_refl 0, by omega, by simp⟩)
              | (refine dB ?_; exact has4_hit i1 (by omega) hy (by assumption))
              | (refine dB ?_; exact has4_end (by omega) i3)
              | (simp (disch := omega) only [ho, std, wI]; exact ⟨by omega, by omega, has4_step i1 (by omega) i3 hy (by assumption)⟩)
              | assumption
              | (subst ho; simp (disch := omega) only [std, wI, tdiv2, tdivN, lenE] <;> first | done | rfl | omega)))))
  | ((fail_if_success (refine .id ?_))
     first
      | fail))
theorem spec_l3Starts.ans {xa xb : Option (List D → Option D)} (o : Std) (ho : o = std) (l : List Nd) (h0 : Sz l) (h1 : l.length ≤ 150) : Ans (env xa xb) 66 [rNd o l] (.tup [rK o ((startsR l).1), .bool (startsR l).2]) := by
 refine Ans.mkA ho _ rfl rfl ?_
 repeat' (first
  | (refine .id ?_
     (try (conv => arg 2; cbv))
     first
      | (refine .indF (fun m_ s_ => ∃ (ea4 : Box) (a5 : Int) (ta4 : Tok) (tk : List Nat), s_ = ⟨[rNd o l, Jk, Jk, Jk, .sl ta4 1 ea4, iX a5] ++ List.replicate 57 Jk, [], [], tk⟩ ∧ Lv tk ta4 ea4.length ∧ ea4 = (o.bx fun _ => eK .i64 (stS l a5)) ∧ (0 ≤ a5 ∧ a5 ≤ l.length ∧ (startsO l a5.toNat).isSome = true) ∧ (l.length - a5).toNat ≤ m_) _ _ ⟨_, _, _, _, by subst ho; rfl, ?_, ?_, ?_, Nat.le_refl _⟩ ?_
         rotate_right
         rintro m_ _ ⟨ea4, a5, ta4, tk, rfl, hla0, rfl, hIa, hka⟩ iha
         obtain ⟨i1, i2, i3⟩ := hIa; have hb1 := stS_bnd i1 i3; refine .unloopA ho ?_
         repeat' (first
          | (refine .id ?_
             (try (conv => arg 2; cbv))
             first
              | refine .tN1 ho ?_
              | refine .tN0 ho ?_
              | (refine .test (fun hr => ?_) (fun hr => ?_) <;> (have hb := hr) <;> (try simp (disch := omega) only [ho, std, wI, lenE, nrm] at hb) <;> (try (exfalso; first | contradiction | omega | exact hb rfl)))
              | (refine .pE (β := Bool) .bool (as' := [.agg [iX _, iX _, iX _, iX _, iX _, .str _, .str _]]) (spec_l3Fields.ans o ho _ _ _ _ _ _ _ ?_) ?_; rotate_left 1; rintro (_ | _) hv <;> (try simp only [dE] at hv) <;> (try first | contradiction | exact bX hv))
              | (refine .pE (β := List Int) (rK o) (as' := [.agg [iX _, iX _, iX _, iX _, iX _, .str _, .str _]]) (spec_Kids.ans o ho _ _ _ _ _ _ _) ?_; rintro v hv)
              | (refine .fetchYNd ho ?_ ?_ (by with_reducible assumption) ?_)
              | (refine .fetchXNd ho ?_ ?_ (fun y hy => ?_); rotate_left 2; rcases y with ⟨y0, y1, y2, y3, y4, y5, y6⟩; (have hsz := h0.at i1 (by omega) hy); dsimp only at hsz)
              | (refine .indF (fun m_ s_ => ∃ (b6 : Int) (b7 : List Int) (b8 : Int) (tb7 : Tok) (tk : List Nat), s_ = ⟨[rNd o l, Jk, Jk, Jk, .sl ta4 1 (o.bx fun _ => eK .i64 (stS l a5)), iX a5, iX b6, .sl tb7 1 (o.bx fun _ => eK .i64 b7), iX b8] ++ List.replicate 54 Jk, [], [], tk⟩ ∧ (Lv tk ta4 (o.bx fun _ => eK .i64 (stS l a5)).length ∧ b7 = kidsM (rN l a5) ∧ -1 ≤ b8 ∧ b8 < b7.length ∧ 0 ≤ b6 ∧ b6 ≤ a5 ∧ fldB (rN l a5) = true ∧ walkK (stS l a5) (kidsM (rN l a5)) (kidsM (rN l a5)).length a5 = walkK (stS l a5) (kidsM (rN l a5)) (b8 + 1).toNat b6) ∧ (b8 + 1).toNat ≤ m_) _ _ ⟨_, _, _, _, _, by subst ho; rfl, ?_, Nat.le_refl _⟩ ?_
                 rotate_right
                 rintro m_ _ ⟨b6, b7, b8, tb7, tk, rfl, hIb, hkb⟩ ihb
                 obtain ⟨j0, j1, j2, j3, j4, j5, j6, j7⟩ := hIb; have hkl := len_kidsM (rN l a5); have hka2 := arityM_le (rN l a5).f0; rw [← j1] at hkl; refine .unloopA ho ?_
                 repeat' (first
                  | (refine .id ?_
                     (try (conv => arg 2; cbv))
                     first
                      | refine .testT ?_
                      | refine .t1 ?_
                      | refine .t0 ?_
                      | (refine .test (fun hr => ?_) (fun hr => ?_) <;> (have hb := hr) <;> (try simp (disch := omega) only [ho, std, wI, lenE, nrm] at hb) <;> (try (exfalso; first | contradiction | omega | exact hb rfl)))
                      | (refine .fetchYK ho ?_ ?_ (by with_reducible assumption) ?_)
                      | (refine .fetchXK ho ?_ ?_ (fun y hy => ?_); rotate_left 2; (first | (have _hkk := hkk; have hbq := bnd_at hb1.2 (by omega) (by omega) hy) | (have hkk := hy)))
                      | (refine .need ?_ ?_)
                      | (refine .app1 ?_ (fun t' tk' hl' => ?_))
                      | (refine ihb _ _ ?_ ⟨_, _, _, _, _, by subst ho; rfl, ?_, Nat.le_refl _⟩)
                      | (refine iha _ _ ?_ ⟨_, _, _, _, by subst ho; rfl, ?_, ?_, ?_, Nat.le_refl _⟩)
                      | (refine .fin ?_; (conv => lhs; cbv); refine congrArg some ?_))
                  | ((fail_if_success (refine .id ?_))
                     first
                      | (subst ho; exact j0)
                      | (subst ho; rw [startsR_no (st_fail i1 (by omega) i3 (.inr (by rw [j7]; exact walkK_no (by assumption) (by rw [← j1, hkk]; omega))))]; rfl)
                      | ((try clear iha); subst ho; have e1 : v = kidsM (rN l a5) := (at_nd (P := fun x => v = kidsM x) (by assumption) hv.symm); have e2 := len_kidsM (rN l a5); have e3 := arityM_le (rN l a5).f0; rw [← e1] at e2; simp (disch := omega) only [std, wI, len_eK]; refine ⟨by simpa [std, len_eK] using hla0, e1, by omega, by omega, i1, Int.le_refl _, at_nd (P := fun x => fldB x = true) (by assumption) (by assumption), ?_⟩; rw [← e1, Int.sub_add_cancel, Int.toNat_natCast])
                      | ((try clear iha); (try clear ihb); simp (disch := omega) only [ho, std, wI]; exact ⟨by subst ho; exact j0, j1, by omega, by omega, by omega, by omega, j6, j7.trans (walkK_yes (by assumption) (by rw [← j1]; exact hkk) (by assumption) (by assumption) hy)⟩)
                      | ((try clear iha); (try clear ihb); subst ho; refine push_eK ?_; simp (disch := omega) only [std, wI]; exact stS_next i1 i3 j6 (j7.trans (walkK_zero (by omega))))
                      | ((try clear iha); (try clear ihb); simp (disch := omega) only [ho, std, wI]; exact ⟨by omega, by omega, by rw [st_next i1 i3 j6 (j7.trans (walkK_zero (by omega)))]; rfl⟩)
                      | assumption
                      | omega
                      | (subst ho; simpa [std, lenE] using hl')
                      | (subst ho; simp [std, lenE]; omega)
                      | (subst ho; simp (disch := omega) only [std, wI, tdiv2, tdivN, lenE] <;> first | done | rfl | omega))))
              | (refine .fin ?_; (conv => lhs; cbv); refine congrArg some ?_))
          | ((fail_if_success (refine .id ?_))
             first
              | (exact Lv.cap _)
              | (subst ho; exact ⟨Int.le_refl _, by omega, rfl⟩)
              | (subst ho; rw [startsR_no (st_fail i1 (by omega) i3 (.inl (at_nd (P := fun x => fldB x = false) (by assumption) (by assumption))))]; rfl)
              | (subst ho; rw [startsR_yes (by omega) i3] <;> rfl)
              | assumption
              | (subst ho; rfl)))))
  | ((fail_if_success (refine .id ?_))
     first
      | fail))
theorem spec_NodesOk.ans {xa xb : Option (List D → Option D)} (o : Std) (ho : o = std) (l : List Nd) (h0 : Sz l) (h1 : l.length ≤ 1048576) : Ans (env xa xb) 18 [rNd o l] (.bool (okM l)) := by
 refine Ans.mkA ho _ rfl rfl ?_
 repeat' (first
  | (refine .id ?_
     (try (conv => arg 2; cbv))
     first
      | refine .testT ?_
      | refine .testF ?_
      | refine .tN1 ho ?_
      | refine .tN0 ho ?_
      | (refine .pE (β := Bool) .bool (as' := [iX _, iX _, iX _]) (spec_l1In.ans o ho _ _ _) ?_; rintro (_ | _) hv <;> (try simp only [dE] at hv) <;> (try first | contradiction | exact bX hv))
      | (refine .pE (β := (List Int) × Bool) (fun v => .tup [rK o v.1, .bool v.2]) (as' := [rNd o _]) (spec_l3Starts.ans o ho _ ?_ ?_) ?_; rotate_left 2; rintro ⟨v0, (_ | _)⟩ hv <;> (try simp only [dE] at hv) <;> (try first | contradiction | exact bX hv) <;> (try have hsl := startsR_len hv))
      | (refine .fetchXK ho ?_ ?_ (fun y hy => ?_); rotate_left 2)
      | (refine .fin ?_; (conv => lhs; cbv); refine congrArg some ?_))
  | ((fail_if_success (refine .id ?_))
     first
      | (subst ho; refine dB ?_; simp only [std, len_eNd] at *; exact okM_len (by assumption))
      | (refine dB ?_; exact okM_no hv)
      | (subst ho; simp (disch := omega) only [std, wI, len_eNd] at *; refine dB ?_; exact okM_end (by assumption) (by assumption) hy rfl)
      | (subst ho; simp only [std, len_eNd] at *; omega)
      | (subst ho; simp (disch := omega) only [std, wI, len_eNd] at *; omega)))
end Go.Mach
