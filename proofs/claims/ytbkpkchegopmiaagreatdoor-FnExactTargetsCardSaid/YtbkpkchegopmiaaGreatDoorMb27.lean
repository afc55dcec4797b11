/- What the statements over Solve share: part 27 of a proof by an executable machine over the program's code. -/
import Derived.Test.YtbkpkchegopmiaaGreatDoorMb13
import Derived.Test.YtbkpkchegopmiaaGreatDoorMb14
import Derived.Test.YtbkpkchegopmiaaGreatDoorMb26
section
set_option linter.unusedVariables false
set_option linter.unusedSimpArgs false
namespace Go.Mach
open Go Go.RowKit Go.Proofs
set_option maxRecDepth 100000
set_option maxHeartbeats 1000000
theorem impl_flower_values.gns {xa xb : Option (List D → Option D)} (o : Std) (ho : o = std) (l : List Nd) (us : List Bd) (dp : Int) (fs m : List Fc) (t : Tok) (tk : List Nat) (hl : Lw tk t (o.bx fun _ => eFc m).length) (a_k : Int) (a_n : Int) (a_c : Int) (h0 : Fok l fs) : Gns (env xa xb) 201 [.pbx (.out 0) 0, .agg [.int .i64 a_k, .int .i64 a_n, .int .i64 a_c]] [[cells5 (o.bx fun _ => eNd l) (o.bx fun _ => eBd us) dp (o.bx fun _ => eFc fs) t (o.bx fun _ => eFc m)]] tk (FR o l us dp fs (m) (.sl .ro 3 (o.bx fun _ => eAb (vals fs a_k a_n a_c)))) := by
  refine Gns.mkA (E := env xa xb) (f := 201) ho _ (by rfl) (by rfl) ?_
  have hF := h0; have hu := h0.up; have hL := h0.len; have hp := h0.pos; have hL2 : fs.length ≤ 2900000000000 := (by omega)
  repeat' (first
    | (refine Den.id ?_
       (try (conv => arg 2; cbv))
       first
         | (refine Den.pcallE (β := List Ab) (fun v => .sl .ro 3 (o.bx fun _ => eAb v)) (as' := [.sl .ro 6 (o.bx fun _ => eFc _), .int .i64 _, .int .i64 _, .int .i64 _]) (by first | with_reducible rfl | (subst ho; rfl)) (impl_absAt.ans o ho _ _ _ _ ?_ ?_ ?_) ?_; rotate_left 3; rintro v hv)
         | (refine Den.needD ho (by kernel_rfl) ?_)
         | (refine Den.done ⟨by first | exact Or.inl rfl | exact Or.inr rfl, ?_⟩; refine ⟨_, by (conv => lhs; cbv) <;> rfl, ?_, _, _, by rfl, ?_, ?_⟩; first | (focus ((conv => lhs; cbv); done)) | ((conv => lhs; cbv); refine congrArg some ?_)))
    | ((fail_if_success (refine Den.id ?_))
       first
         | (subst ho; exact hl)
         | (subst hv; rfl)
         | assumption))
theorem impl_flower_see.gns {xa xb : Option (List D → Option D)} (o : Std) (ho : o = std) (l : List Nd) (us : List Bd) (dp : Int) (fs m : List Fc) (t : Tok) (tk : List Nat) (hl : Lw tk t (o.bx fun _ => eFc m).length) (i : Int) (c : Int) (h0 : m.length + 1 ≤ 2900000000000) : Gns (env xa xb) 186 [.pbx (.out 0) 0, .int .i64 i, .int .i64 c] [[cells5 (o.bx fun _ => eNd l) (o.bx fun _ => eBd us) dp (o.bx fun _ => eFc fs) t (o.bx fun _ => eFc m)]] tk (FR o l us dp fs (m ++ (seeL i c)) (.tup [])) := by
  refine Gns.mkA (E := env xa xb) (f := 186) ho _ (by rfl) (by rfl) ?_
  repeat' (first
    | (refine Den.id ?_
       (try (conv => arg 2; cbv))
       first
         | (refine Den.gcF ho (β := Unit) (r := ()) (fun v => .tup []) (.out 0) (xs := [.pbx (.out 0) 0, .agg [.int .i64 _, .int .i64 _, .int .i64 _], .agg [.int .i64 _, .int .i64 _, .int .i64 _]]) (by rfl) (by rfl) (by rfl) (fun t0 tk0 hl0 => impl_flower_add.gns o ho _ _ _ _ _ t0 tk0 hl0 _ _ _ _ _ _ ?_) ?_ ?_; rotate_left 2; rintro _ t' tk' _ hl')
         | (refine Den.done ⟨by first | exact Or.inl rfl | exact Or.inr rfl, ?_⟩; refine ⟨_, by (conv => lhs; cbv) <;> rfl, ?_, _, _, by rfl, ?_, ?_⟩; first | (focus ((conv => lhs; cbv); done)) | ((conv => lhs; cbv); refine congrArg some ?_)))
    | ((fail_if_success (refine Den.id ?_))
       first
         | (subst ho; exact hl)
         | (subst ho; exact hl')
         | rfl
         | assumption))
theorem impl_flower_flow.gns {xa xb : Option (List D → Option D)} (o : Std) (ho : o = std) (l : List Nd) (us : List Bd) (dp : Int) (fs m : List Fc) (t : Tok) (tk : List Nat) (hl : Lw tk t (o.bx fun _ => eFc m).length) (a_k : Int) (a_n : Int) (a_c : Int) (b_k : Int) (b_n : Int) (b_c : Int) (h0 : Fok l fs) (h1 : m.length + 2500 ≤ 2900000000000) : Gns (env xa xb) 183 [.pbx (.out 0) 0, .agg [.int .i64 a_k, .int .i64 a_n, .int .i64 a_c], .agg [.int .i64 b_k, .int .i64 b_n, .int .i64 b_c]] [[cells5 (o.bx fun _ => eNd l) (o.bx fun _ => eBd us) dp (o.bx fun _ => eFc fs) t (o.bx fun _ => eFc m)]] tk (FR o l us dp fs (m ++ (flowL fs a_k a_n a_c b_k b_n b_c)) (.tup [])) := by
  refine Gns.mkA (E := env xa xb) (f := 183) ho _ (by rfl) (by rfl) ?_
  have hF := h0; have hu := h0.up; have hL := h0.len; have hp := h0.pos; have hL2 : fs.length ≤ 2900000000000 := (by omega)
  repeat' (first
    | (refine Den.id ?_
       (try (conv => arg 2; cbv))
       first
         | (refine Den.gcF ho (β := List Ab) (fun v => .sl .ro 3 (o.bx fun _ => eAb v)) (.out 0) (xs := [.pbx (.out 0) 0, .agg [.int .i64 _, .int .i64 _, .int .i64 _]]) (by rfl) (by rfl) (by rfl) (fun t0 tk0 hl0 => impl_flower_values.gns o ho _ _ _ _ _ t0 tk0 hl0 _ _ _ ?_) ?_ ?_; rotate_left 2; rintro v t' tk' hv hl')
         | (refine Den.indF (fun m_ s_ => ∃ (a10 : List Ab) (a11 : Int) (a12 : Int) (ema : Box) (ta10 ua : Tok) (tk : List Nat), s_ = ⟨[.pbx (.out 0) 0, .junk, .junk, .junk, .junk, .pbx (.loc 1) 0, .junk, .junk, .junk, .junk, .sl ta10 3 (o.bx fun _ => eAb a10), .int .i64 a11, .int .i64 a12] ++ List.replicate 8 .junk, [[[.int .i64 a_k, .int .i64 a_n, .int .i64 a_c]], [[.int .i64 b_k, .int .i64 b_n, .int .i64 b_c]]], [[cells5 (o.bx fun _ => eNd l) (o.bx fun _ => eBd us) dp (o.bx fun _ => eFc fs) ua ema]], tk⟩ ∧ Lw tk ua ema.length ∧ ema = (o.bx fun _ => eFc (m ++ (mapF (a10.take a12.toNat) b_k b_n b_c))) ∧ (a10 = vals fs a_k a_n a_c ∧ a11 = a10.length ∧ 0 ≤ a12 ∧ a12 ≤ a10.length) ∧ (a10.length - a12).toNat ≤ m_) _ _ ⟨_, _, _, _, _, _, _, by subst ho; rfl, ?_, ?_, ?_, Nat.le_refl _⟩ ?_
            rotate_right
            rintro m_ _ ⟨a10, a11, a12, ema, ta10, ua, tk, rfl, hla0, rfl, hIa, hka⟩ iha
            obtain ⟨i1, i2, i3, i4⟩ := hIa; have hz := len_vals fs a_k a_n a_c; rw [← i1] at hz; have hw := List.length_take_le a12.toNat a10; have hx := len_mapF (a10.take a12.toNat) b_k b_n b_c; refine Den.unloopA ho ?_
            repeat' (first
              | (refine Den.id ?_
                 (try (conv => arg 2; cbv))
                 first
                   | (refine Den.test (fun hr => ?_) (fun hr => ?_) <;> (have hb := hr) <;> (try simp (disch := omega) only [ho, std, wI, len_eK, len_eB, len_eNd, len_eLNd, len_eFc, len_eAb, len_eBd, len_eEd, len_eLBd, Classical.not_not, decide_eq_true_eq, decide_eq_false_iff_not, beq_iff_eq, beq_eq_false_iff_ne, ne_eq, Bool.not_eq_true', Bool.not_eq_false', gt_iff_lt, ge_iff_le, Int.not_lt, Int.not_le] at hb) <;> (try (exfalso; first | contradiction | omega | exact hb rfl)))
                   | (refine Den.gcF ho (β := Unit) (r := ()) (fun v => .tup []) (.out 0) (xs := [.pbx (.out 0) 0, .agg [.int .i64 _, .int .i64 _, .int .i64 _], .agg [.int .i64 _, .int .i64 _, .int .i64 _]]) (by rfl) (by rfl) (by rfl) (fun t0 tk0 hl0 => impl_flower_add.gns o ho _ _ _ _ _ t0 tk0 hl0 _ _ _ _ _ _ ?_) ?_ ?_; rotate_left 2; rintro _ t' tk' _ hl')
                   | (refine Den.fetchXAb ho ?_ ?_ (fun y hy => ?_); rotate_left 2; rcases y with ⟨yk, yn, yc⟩)
                   | (refine iha _ _ ?_ ⟨_, _, _, _, _, _, _, by subst ho; rfl, ?_, ?_, ?_, Nat.le_refl _⟩)
                   | (refine Den.done ⟨by first | exact Or.inl rfl | exact Or.inr rfl, ?_⟩; refine ⟨_, by (conv => lhs; cbv) <;> rfl, ?_, _, _, by rfl, ?_, ?_⟩; first | (focus ((conv => lhs; cbv); done)) | ((conv => lhs; cbv); refine congrArg some ?_)))
              | ((fail_if_success (refine Den.id ?_))
                 first
                   | (subst ho; exact hl')
                   | (subst ho; exact hla0)
                   | (subst ho; refine congrArg eFc ?_; rw [take_allG (by omega), i1]; rfl)
                   | (subst ho; refine congrArg eFc ?_; simp [mapF]; done)
                   | (subst hv; subst ho; exact ⟨rfl, by simp [std, len_eAb], Int.le_refl _, by omega⟩)
                   | (rw [List.length_append]; omega)
                   | (subst ho; simp (disch := omega) only [std, wI]; exact ⟨i1, i2, by omega, by omega⟩)
                   | (subst ho; refine congrArg eFc ?_; simp (disch := omega) only [std, wI]; rw [mapF_succ i3 (by omega), hy, List.append_assoc])
                   | assumption
                   | omega
                   | (subst ho; simp (disch := omega) only [std, wI, tdiv2, tdivN, len_eFc, len_eNd, len_eBd, len_eAb, len_eLBd, len_eK, len_eB] <;> first | done | rfl | omega)))))
    | ((fail_if_success (refine Den.id ?_))
       first
         | (subst ho; exact hl)
         | assumption))
theorem impl_flower_raise.gns {xa xb : Option (List D → Option D)} (o : Std) (ho : o = std) (l : List Nd) (us : List Bd) (dp : Int) (fs m : List Fc) (t : Tok) (tk : List Nat) (hl : Lw tk t (o.bx fun _ => eFc m).length) (by1 : Int) (by2 : Int) (i : Int) (c : Int) (h0 : Fok l fs) (h1 : m.length + 1 ≤ 2900000000000) : Gns (env xa xb) 187 [.pbx (.out 0) 0, .int .i64 by1, .int .i64 by2, .int .i64 i, .int .i64 c] [[cells5 (o.bx fun _ => eNd l) (o.bx fun _ => eBd us) dp (o.bx fun _ => eFc fs) t (o.bx fun _ => eFc m)]] tk (FR o l us dp fs (m ++ (riseL (hasR fs by1 by2) i c)) (.tup [])) := by
  refine Gns.mkA (E := env xa xb) (f := 187) ho _ (by rfl) (by rfl) ?_
  have hF := h0; have hu := h0.up; have hL := h0.len; have hp := h0.pos; have hL2 : fs.length ≤ 2900000000000 := (by omega)
  repeat' (first
    | (refine Den.id ?_
       (try (conv => arg 2; cbv))
       first
         | refine Den.testT ?_
         | refine Den.testF ?_
         | (refine Den.pcallE (β := Bool) (fun v => .bool v) (as' := [.sl .ro 6 (o.bx fun _ => eFc _), .agg [.int .i64 _, .int .i64 _, .int .i64 _, .int .i64 _, .int .i64 _, .int .i64 _]]) (by first | with_reducible rfl | (subst ho; rfl)) (impl_has.ans o ho _ _ _ _ _ _ _ ?_ ?_) ?_; rotate_left 2; rintro (_ | _) hv <;> (try simp only [decide_eq_true_eq, decide_eq_false_iff_not] at hv) <;> (try first | contradiction | exact absurd (hv.symm.trans (show _ = false by assumption)) (by decide) | exact absurd (hv.symm.trans (show _ = true by assumption)) (by decide)))
         | (refine Den.gcF ho (β := Unit) (r := ()) (fun v => .tup []) (.out 0) (xs := [.pbx (.out 0) 0, .agg [.int .i64 _, .int .i64 _, .int .i64 _], .agg [.int .i64 _, .int .i64 _, .int .i64 _]]) (by rfl) (by rfl) (by rfl) (fun t0 tk0 hl0 => impl_flower_add.gns o ho _ _ _ _ _ t0 tk0 hl0 _ _ _ _ _ _ ?_) ?_ ?_; rotate_left 2; rintro _ t' tk' _ hl')
         | (refine Den.done ⟨by first | exact Or.inl rfl | exact Or.inr rfl, ?_⟩; refine ⟨_, by (conv => lhs; cbv) <;> rfl, ?_, _, _, by rfl, ?_, ?_⟩; first | (focus ((conv => lhs; cbv); done)) | ((conv => lhs; cbv); refine congrArg some ?_)))
    | ((fail_if_success (refine Den.id ?_))
       first
         | (subst ho; exact hl)
         | (subst ho; exact hl')
         | (subst ho; refine congrArg eFc ?_; unfold hasR; simp [riseL, hv]; done)
         | assumption))
theorem impl_flower_those.gns {xa xb : Option (List D → Option D)} (o : Std) (ho : o = std) (l : List Nd) (us : List Bd) (dp : Int) (fs m : List Fc) (t : Tok) (tk : List Nat) (hl : Lw tk t (o.bx fun _ => eFc m).length) (a_k : Int) (a_n : Int) (a_c : Int) (kd : Int) (h0 : Fok l fs) : Gns (env xa xb) 203 [.pbx (.out 0) 0, .agg [.int .i64 a_k, .int .i64 a_n, .int .i64 a_c], .int .i64 kd] [[cells5 (o.bx fun _ => eNd l) (o.bx fun _ => eBd us) dp (o.bx fun _ => eFc fs) t (o.bx fun _ => eFc m)]] tk (FR o l us dp fs (m) (.sl .ro 3 (o.bx fun _ => eAb (thoseL fs a_k a_n a_c kd)))) := by
  refine Gns.mkA (E := env xa xb) (f := 203) ho _ (by rfl) (by rfl) ?_
  have hF := h0; have hu := h0.up; have hL := h0.len; have hp := h0.pos; have hL2 : fs.length ≤ 2900000000000 := (by omega)
  repeat' (first
    | (refine Den.id ?_
       (try (conv => arg 2; cbv))
       first
         | (refine Den.gcF ho (β := List Ab) (fun v => .sl .ro 3 (o.bx fun _ => eAb v)) (.out 0) (xs := [.pbx (.out 0) 0, .agg [.int .i64 _, .int .i64 _, .int .i64 _]]) (by rfl) (by rfl) (by rfl) (fun t0 tk0 hl0 => impl_flower_values.gns o ho _ _ _ _ _ t0 tk0 hl0 _ _ _ ?_) ?_ ?_; rotate_left 2; rintro v t' tk' hv hl')
         | (refine Den.indF (fun m_ s_ => ∃ (ea7 : Box) (a12 : List Ab) (a13 : Int) (a14 : Int) (ema : Box) (ta7 ta12 ua : Tok) (tk : List Nat), s_ = ⟨[.junk, .junk, .int .i64 kd, .junk, .junk, .junk, .junk, .sl ta7 3 ea7, .junk, .junk, .junk, .junk, .sl ta12 3 (o.bx fun _ => eAb a12), .int .i64 a13, .int .i64 a14] ++ List.replicate 13 .junk, [[[.int .i64 a_k, .int .i64 a_n, .int .i64 a_c]]], [[cells5 (o.bx fun _ => eNd l) (o.bx fun _ => eBd us) dp (o.bx fun _ => eFc fs) ua ema]], tk⟩ ∧ Lv tk ta7 ea7.length ∧ ea7 = (o.bx fun _ => eAb ((a12.take a14.toNat).filter fun v => v.k == kd)) ∧ Lw tk ua ema.length ∧ ema = (o.bx fun _ => eFc m) ∧ (Apart ta7 ua ∧ a12 = vals fs a_k a_n a_c ∧ a13 = a12.length ∧ 0 ≤ a14 ∧ a14 ≤ a12.length) ∧ (a12.length - a14).toNat ≤ m_) _ _ ⟨_, _, _, _, _, _, _, _, _, by subst ho; rfl, ?_, ?_, ?_, ?_, ?_, Nat.le_refl _⟩ ?_
            rotate_right
            rintro m_ _ ⟨ea7, a12, a13, a14, ema, ta7, ta12, ua, tk, rfl, hla0, rfl, hla1, rfl, hIa, hka⟩ iha
            obtain ⟨i0, i1, i2, i3, i4⟩ := hIa; have hz := len_vals fs a_k a_n a_c; rw [← i1] at hz; have hw := List.length_take_le a14.toNat a12; have hx := List.length_filter_le (fun v => v.k == kd) (a12.take a14.toNat); refine Den.unloopA ho ?_
            repeat' (first
              | (refine Den.id ?_
                 (try (conv => arg 2; cbv))
                 first
                   | (refine Den.test (fun hr => ?_) (fun hr => ?_) <;> (have hb := hr) <;> (try simp (disch := omega) only [ho, std, wI, len_eK, len_eB, len_eNd, len_eLNd, len_eFc, len_eAb, len_eBd, len_eEd, len_eLBd, Classical.not_not, decide_eq_true_eq, decide_eq_false_iff_not, beq_iff_eq, beq_eq_false_iff_ne, ne_eq, Bool.not_eq_true', Bool.not_eq_false', gt_iff_lt, ge_iff_le, Int.not_lt, Int.not_le] at hb) <;> (try (exfalso; first | contradiction | omega | exact hb rfl)))
                   | (refine Den.app12 hla1 i0 ?_ (fun t' tk' hl' hlw hap => ?_))
                   | (refine Den.fetchXAb ho ?_ ?_ (fun y hy => ?_); rotate_left 2; rcases y with ⟨yk, yn, yc⟩)
                   | (refine Den.need ?_ ?_)
                   | (refine iha _ _ ?_ ⟨_, _, _, _, _, _, _, _, _, by subst ho; rfl, ?_, ?_, ?_, ?_, ?_, Nat.le_refl _⟩)
                   | (refine Den.done ⟨by first | exact Or.inl rfl | exact Or.inr rfl, ?_⟩; refine ⟨_, by (conv => lhs; cbv) <;> rfl, ?_, _, _, by rfl, ?_, ?_⟩; first | (focus ((conv => lhs; cbv); done)) | ((conv => lhs; cbv); refine congrArg some ?_)))
              | ((fail_if_success (refine Den.id ?_))
                 first
                   | (subst ho; exact hl')
                   | (exact Lv.nil)
                   | (subst ho; exact hla0)
                   | (subst ho; exact hla1)
                   | (subst ho; exact hlw)
                   | (subst ho; refine congrArg (D.sl Tok.ro 3) (congrArg eAb ?_); rw [take_allG (by omega), i1]; rfl)
                   | (subst hv; subst ho; refine ⟨?_, rfl, by simp [std, len_eAb], Int.le_refl _, by omega⟩; intro i h; cases h)
                   | (simp (disch := omega) only [ho, std, wI]; exact ⟨by assumption, i1, i2, by omega, by omega⟩)
                   | (subst ho; simp [std, len_eAb]; omega)
                   | (simp (disch := omega) only [ho, std, wI]; rw [filter_succ i3 (by omega), hy, if_neg (by simpa using hb), List.append_nil])
                   | (subst ho; refine push_eAb (x := ⟨yk, yn, yc⟩) ?_; simp (disch := omega) only [std, wI]; rw [filter_succ i3 (by omega), hy, if_pos (by simpa using hb)])
                   | assumption
                   | omega
                   | (subst ho; rfl)
                   | (subst ho; simpa [std, len_eFc, len_eNd, len_eBd, len_eAb, len_eLBd, len_eK, len_eB] using hl')
                   | (subst ho; simp (disch := omega) only [std, wI, tdiv2, tdivN, len_eFc, len_eNd, len_eBd, len_eAb, len_eLBd, len_eK, len_eB] <;> first | done | rfl | omega)))))
    | ((fail_if_success (refine Den.id ?_))
       first
         | (subst ho; exact hl)
         | assumption))
end Go.Mach
end
section
set_option linter.unusedVariables false
set_option linter.unusedSimpArgs false
namespace Go.Mach
open Go Go.RowKit Go.Proofs
set_option maxRecDepth 100000
set_option maxHeartbeats 1000000
theorem impl_flower_take.gns {xa xb : Option (List D → Option D)} (o : Std) (ho : o = std) (l : List Nd) (us : List Bd) (dp : Int) (fs m : List Fc) (t : Tok) (tk : List Nat) (hl : Lw tk t (o.bx fun _ => eFc m).length) (a_k : Int) (a_n : Int) (a_c : Int) (kd : Int) (part : Int) (h_k : Int) (h_n : Int) (h_c : Int) (h0 : Fok l fs) (h1 : m.length + 6250000 ≤ 2900000000000) : Gns (env xa xb) 221 [.pbx (.out 0) 0, .agg [.int .i64 a_k, .int .i64 a_n, .int .i64 a_c], .int .i64 kd, .int .i64 part, .agg [.int .i64 h_k, .int .i64 h_n, .int .i64 h_c]] [[cells5 (o.bx fun _ => eNd l) (o.bx fun _ => eBd us) dp (o.bx fun _ => eFc fs) t (o.bx fun _ => eFc m)]] tk (FR o l us dp fs (m ++ (takeL fs kd part h_k h_n h_c (thoseL fs a_k a_n a_c kd))) (.tup [])) := by
  refine Gns.mkA (E := env xa xb) (f := 221) ho _ (by rfl) (by rfl) ?_
  have hF := h0; have hu := h0.up; have hL := h0.len; have hp := h0.pos; have hL2 : fs.length ≤ 2900000000000 := (by omega)
  repeat' (first
    | (refine Den.id ?_
       (try (conv => arg 2; cbv))
       first
         | (refine Den.gcF ho (β := List Ab) (fun v => .sl .ro 3 (o.bx fun _ => eAb v)) (.out 0) (xs := [.pbx (.out 0) 0, .agg [.int .i64 _, .int .i64 _, .int .i64 _], .int .i64 _]) (by rfl) (by rfl) (by rfl) (fun t0 tk0 hl0 => impl_flower_those.gns o ho _ _ _ _ _ t0 tk0 hl0 _ _ _ _ ?_) ?_ ?_; rotate_left 2; rintro v t' tk' hv hl')
         | (refine Den.indF (fun m_ s_ => ∃ (a15 : List Ab) (a16 : Int) (a17 : Int) (ema : Box) (ta15 ua : Tok) (tk : List Nat), s_ = ⟨[.pbx (.out 0) 0, .junk, .junk, .int .i64 part, .junk, .junk, .junk, .junk, .junk, .pbx (.loc 1) 0, .junk, .junk, .junk, .junk, .junk, .sl ta15 3 (o.bx fun _ => eAb a15), .int .i64 a16, .int .i64 a17] ++ List.replicate 13 .junk, [[[.int .i64 a_k, .int .i64 a_n, .int .i64 a_c]], [[.int .i64 h_k, .int .i64 h_n, .int .i64 h_c]]], [[cells5 (o.bx fun _ => eNd l) (o.bx fun _ => eBd us) dp (o.bx fun _ => eFc fs) ua ema]], tk⟩ ∧ Lw tk ua ema.length ∧ ema = (o.bx fun _ => eFc (m ++ (takeL fs kd part h_k h_n h_c (a15.take a17.toNat)))) ∧ (a15 = thoseL fs a_k a_n a_c kd ∧ a16 = a15.length ∧ 0 ≤ a17 ∧ a17 ≤ a15.length) ∧ (a15.length - a17).toNat ≤ m_) _ _ ⟨_, _, _, _, _, _, _, by subst ho; rfl, ?_, ?_, ?_, Nat.le_refl _⟩ ?_
            rotate_right
            rintro m_ _ ⟨a15, a16, a17, ema, ta15, ua, tk, rfl, hla0, rfl, hIa, hka⟩ iha
            obtain ⟨i1, i2, i3, i4⟩ := hIa; have hz := len_those fs a_k a_n a_c kd; rw [← i1] at hz; have hw := List.length_take_le a17.toNat a15; have hx := len_flatMap_le (fun v : Ab => flowL fs part v.n v.c h_k h_n h_c) 2500 (fun v => by rw [len_flowL]; exact Nat.le_trans (len_vals _ _ _ _) h0.len) (a15.take a17.toNat); refine Den.unloopA ho ?_
            repeat' (first
              | (refine Den.id ?_
                 (try (conv => arg 2; cbv))
                 first
                   | (refine Den.test (fun hr => ?_) (fun hr => ?_) <;> (have hb := hr) <;> (try simp (disch := omega) only [ho, std, wI, len_eK, len_eB, len_eNd, len_eLNd, len_eFc, len_eAb, len_eBd, len_eEd, len_eLBd, Classical.not_not, decide_eq_true_eq, decide_eq_false_iff_not, beq_iff_eq, beq_eq_false_iff_ne, ne_eq, Bool.not_eq_true', Bool.not_eq_false', gt_iff_lt, ge_iff_le, Int.not_lt, Int.not_le] at hb) <;> (try (exfalso; first | contradiction | omega | exact hb rfl)))
                   | (refine Den.gcF ho (β := Unit) (r := ()) (fun v => .tup []) (.out 0) (xs := [.pbx (.out 0) 0, .agg [.int .i64 _, .int .i64 _, .int .i64 _], .agg [.int .i64 _, .int .i64 _, .int .i64 _]]) (by rfl) (by rfl) (by rfl) (fun t0 tk0 hl0 => impl_flower_flow.gns o ho _ _ _ _ _ t0 tk0 hl0 _ _ _ _ _ _ ?_ ?_) ?_ ?_; rotate_left 3; rintro _ t' tk' _ hl')
                   | (refine Den.fetchXAb ho ?_ ?_ (fun y hy => ?_); rotate_left 2; rcases y with ⟨yk, yn, yc⟩)
                   | (refine iha _ _ ?_ ⟨_, _, _, _, _, _, _, by subst ho; rfl, ?_, ?_, ?_, Nat.le_refl _⟩)
                   | (refine Den.done ⟨by first | exact Or.inl rfl | exact Or.inr rfl, ?_⟩; refine ⟨_, by (conv => lhs; cbv) <;> rfl, ?_, _, _, by rfl, ?_, ?_⟩; first | (focus ((conv => lhs; cbv); done)) | ((conv => lhs; cbv); refine congrArg some ?_)))
              | ((fail_if_success (refine Den.id ?_))
                 first
                   | (subst ho; exact hl')
                   | (subst ho; exact hla0)
                   | (subst ho; refine congrArg eFc ?_; rw [take_allG (by omega), i1])
                   | (subst ho; refine congrArg eFc ?_; simp [takeL]; done)
                   | (subst hv; subst ho; exact ⟨rfl, by simp [std, len_eAb], Int.le_refl _, by omega⟩)
                   | (rw [List.length_append]; unfold takeL; omega)
                   | (simp (disch := omega) only [ho, std, wI]; exact ⟨i1, i2, by omega, by omega⟩)
                   | (subst ho; refine congrArg eFc ?_; simp (disch := omega) only [std, wI]; unfold takeL; rw [flatMap_succ _ zA i3 (by omega), show rdG zA a15 a17 = ⟨yk, yn, yc⟩ from hy, List.append_assoc])
                   | assumption
                   | omega
                   | (subst ho; simp (disch := omega) only [std, wI, tdiv2, tdivN, len_eFc, len_eNd, len_eBd, len_eAb, len_eLBd, len_eK, len_eB] <;> first | done | rfl | omega)))))
    | ((fail_if_success (refine Den.id ?_))
       first
         | (subst ho; exact hl)
         | assumption))
end Go.Mach
end
section
set_option linter.unusedVariables false
set_option linter.unusedSimpArgs false
namespace Go.Mach
open Go Go.RowKit Go.Proofs
set_option maxRecDepth 100000
set_option maxHeartbeats 1000000
theorem impl_outerOf.ans {xa xb : Option (List D → Option D)} (o : Std) (ho : o = std) (l : List Nd) (us : List Bd) (f : Int) (h0 : Lok l us) (h1 : 0 ≤ f ∧ f < l.length) (h2 : 0 < arityM (rN l f).f0) : Ans (env xa xb) 231 [.sl .ro 7 (o.bx fun _ => eNd l), .sl .ro 2 (o.bx fun _ => eBd us), .int .i64 f] (.sl .ro 2 (o.bx fun _ => eBd (outerM l us f))) := by
  refine Ans.mkA ho _ rfl rfl ?_
  have hd := h0.downs; have hus := h0.uses; have hsz := h0.size; have hk := hd f h1.1 h1.2 h2; have hst := startM_le hd hk.1 (by omega)
  repeat' (first
    | (refine Den.id ?_
       (try (conv => arg 2; cbv))
       first
         | (refine Den.pcallE (β := Int × Int) (fun v => .tup [.int .i64 v.1, .int .i64 v.2]) (as' := [.sl .ro 7 (o.bx fun _ => eNd _), .int .i64 _]) (by first | with_reducible rfl | (subst ho; rfl)) (impl_bodyOf.ans o ho _ _ ?_ ?_ ?_) ?_; rotate_left 3; rintro ⟨v0, v1⟩ hv)
         | (refine Den.indF (fun m_ s_ => ∃ (a7 : Int) (a8 : Int) (ea9 : Box) (a10 : Int) (ta9 : Tok) (tk : List Nat), s_ = ⟨[.sl .ro 7 (o.bx fun _ => eNd l), .sl .ro 2 (o.bx fun _ => eBd us), .int .i64 f, .junk, .junk, .junk, .junk, .int .i64 a7, .int .i64 a8, .sl ta9 2 ea9, .int .i64 a10] ++ List.replicate 57 .junk, [], [], tk⟩ ∧ Lv tk ta9 ea9.length ∧ ea9 = (o.bx fun _ => eBd (outerN l us f (a10 - a7).toNat)) ∧ (a7 = startM l (rN l f).f1 ∧ a8 = (rN l f).f1 ∧ a7 ≤ a10 ∧ a10 ≤ a8 + 1) ∧ (a8 + 1 - a10).toNat ≤ m_) _ _ ⟨_, _, _, _, _, _, by subst ho; rfl, ?_, ?_, ?_, Nat.le_refl _⟩ ?_
            rotate_right
            rintro m_ _ ⟨a7, a8, ea9, a10, ta9, tk, rfl, hla0, rfl, hIa, hka⟩ iha
            obtain ⟨i1, i2, i3, i4⟩ := hIa; have hz := len_outerN l us f (a10 - a7).toNat; refine Den.unloopA ho ?_
            repeat' (first
              | (refine Den.id ?_
                 (try (conv => arg 2; cbv))
                 first
                   | refine Den.testT ?_
                   | refine Den.testF ?_
                   | refine Den.test1 (by with_reducible assumption) ?_
                   | refine Den.test0 (by with_reducible assumption) ?_
                   | (refine Den.test (fun hr => ?_) (fun hr => ?_) <;> (have hb := hr) <;> (try simp (disch := omega) only [ho, std, wI, len_eK, len_eB, len_eNd, len_eLNd, len_eFc, len_eAb, len_eBd, len_eEd, len_eLBd, Classical.not_not, decide_eq_true_eq, decide_eq_false_iff_not, beq_iff_eq, beq_eq_false_iff_ne, ne_eq, Bool.not_eq_true', Bool.not_eq_false', gt_iff_lt, ge_iff_le, Int.not_lt, Int.not_le] at hb) <;> (try (exfalso; first | contradiction | omega | exact hb rfl)))
                   | (refine Den.pcallE (β := Bool) (fun v => .bool v) (as' := [.int .i64 _, .int .i64 _, .int .i64 _]) (by first | with_reducible rfl | (subst ho; rfl)) (impl_in.ans o ho _ _ _) ?_; rotate_left 0; rintro (_ | _) hv <;> (try simp only [decide_eq_true_eq, decide_eq_false_iff_not] at hv) <;> (try first | contradiction | exact absurd (hv.symm.trans (show _ = false by assumption)) (by decide) | exact absurd (hv.symm.trans (show _ = true by assumption)) (by decide)))
                   | (refine Den.pcallE (β := Bd) (fun v => .agg ([.int .i64 v.f0, .int .i64 v.f1])) (as' := [.sl .ro 7 (o.bx fun _ => eNd _), .int .i64 _]) (by first | with_reducible rfl | (subst ho; rfl)) (impl_given.ans o ho _ _ ?_) ?_; rotate_left 1; rintro ⟨v0, v1⟩ hv)
                   | (refine Den.fetchXBd ho ?_ ?_ (fun y hy => ?_); rotate_left 2; rcases y with ⟨y0, y1⟩; (first | (have _hq := q0) | (obtain ⟨q0, e0⟩ : ∃ q, q = y0 := ⟨_, rfl⟩; obtain ⟨q1, e1⟩ : ∃ q, q = y1 := ⟨_, rfl⟩; subst e0; subst e1; have hq := hy)))
                   | (refine Den.needD ho (by kernel_rfl) ?_)
                   | (refine Den.indF (fun m_ s_ => ∃ (b12 : Bool) (b49 : Int) (b50 : Int) (tk : List Nat), s_ = ⟨[.sl .ro 7 (o.bx fun _ => eNd l), .sl .ro 2 (o.bx fun _ => eBd us), .int .i64 f, .junk, .junk, .junk, .junk, .int .i64 a7, .int .i64 a8, .sl ta9 2 (o.bx fun _ => eBd (outerN l us f (a10 - a7).toNat)), .int .i64 a10, .pbx (.loc 0) 0, .bool b12, .junk, .junk, .junk, .junk, .junk, .junk, .junk, .junk, .junk, .junk, .junk, .junk, .junk, .junk, .junk, .junk, .junk, .junk, .junk, .junk, .junk, .junk, .junk, .junk, .junk, .junk, .junk, .junk, .junk, .junk, .junk, .junk, .junk, .junk, .junk, .sl ta9 2 (o.bx fun _ => eBd (outerN l us f (a10 - a7).toNat)), .int .i64 b49, .int .i64 b50] ++ List.replicate 17 .junk, [[[.int .i64 q0, .int .i64 q1]]], [], tk⟩ ∧ (Lv tk ta9 (o.bx fun _ => eBd (outerN l us f (a10 - a7).toNat)).length ∧ b49 = (outerN l us f (a10 - a7).toNat).length ∧ 0 ≤ b50 ∧ b50 ≤ b49 ∧ b12 = (knB l us f ⟨q0, q1⟩ || ((outerN l us f (a10 - a7).toNat).take b50.toNat).any fun x => decide (x = ⟨q0, q1⟩))) ∧ (b49 - b50).toNat ≤ m_) _ _ ⟨_, _, _, _, by subst ho; rfl, ?_, Nat.le_refl _⟩ ?_
                      rotate_right
                      rintro m_ _ ⟨b12, b49, b50, tk, rfl, hIb, hkb⟩ ihb
                      obtain ⟨j0, j1, j2, j3, j4⟩ := hIb; refine Den.unloopA ho ?_
                      repeat' (first
                        | (refine Den.id ?_
                           (try (conv => arg 2; cbv))
                           first
                             | refine Den.test1 (by with_reducible assumption) ?_
                             | refine Den.test0 (by with_reducible assumption) ?_
                             | (refine Den.test (fun hr => ?_) (fun hr => ?_) <;> (have hb := hr) <;> (try simp (disch := omega) only [ho, std, wI, len_eK, len_eB, len_eNd, len_eLNd, len_eFc, len_eAb, len_eBd, len_eEd, len_eLBd, Classical.not_not, decide_eq_true_eq, decide_eq_false_iff_not, beq_iff_eq, beq_eq_false_iff_ne, ne_eq, Bool.not_eq_true', Bool.not_eq_false', gt_iff_lt, ge_iff_le, Int.not_lt, Int.not_le] at hb) <;> (try (exfalso; first | contradiction | omega | exact hb rfl)))
                             | (refine Den.fetchXBd ho ?_ ?_ (fun y hy => ?_); rotate_left 2; rcases y with ⟨y0, y1⟩; (first | (have _hq := q0) | (obtain ⟨q0, e0⟩ : ∃ q, q = y0 := ⟨_, rfl⟩; obtain ⟨q1, e1⟩ : ∃ q, q = y1 := ⟨_, rfl⟩; subst e0; subst e1; have hq := hy)))
                             | (refine Den.need ?_ ?_)
                             | (refine Den.app1 ?_ (fun t' tk' hl' => ?_))
                             | (refine ihb _ _ ?_ ⟨_, _, _, _, by subst ho; rfl, ?_, Nat.le_refl _⟩)
                             | (refine iha _ _ ?_ ⟨_, _, _, _, _, _, by subst ho; rfl, ?_, ?_, ?_, Nat.le_refl _⟩))
                        | ((fail_if_success (refine Den.id ?_))
                           first
                             | (subst ho; exact j0)
                             | (subst ho; refine ⟨hla0, by simp [std, len_eBd], Int.le_refl _, by simp [std], ?_⟩; rw [show Int.toNat 0 = 0 from rfl, List.take_zero, List.any_nil, Bool.or_false]; first | exact (decide_eq_true (.inl (by omega))).symm | exact (decide_eq_true (.inr (.inl (by dsimp only; omega)))).symm | exact knB_eq (by omega) (by omega) (by assumption))
                             | (clear iha ihb; simp (disch := omega) only [ho, std, wI]; refine ⟨by subst ho; exact j0, j1, by omega, by omega, ?_⟩; rw [any_succ j2 (by omega), ← Bool.or_assoc, ← j4, show b12 = true by assumption]; rfl)
                             | (clear iha ihb; simp (disch := omega) only [ho, std, wI]; refine ⟨by subst ho; exact j0, j1, by omega, by omega, ?_⟩; rw [any_succ j2 (by omega), ← Bool.or_assoc, ← j4, show b12 = false by assumption, hy, Bool.false_or]; exact eqBd _ _ _ _)
                             | (clear iha ihb; rw [take_allG (i := b50) (by omega)] at j4; simp (disch := omega) only [ho, std, wI]; first | exact congrArg eBd (outerN_keep i1 i3 hq (by rw [← j4]; assumption)).symm | exact push_eBd (x := ⟨q0, q1⟩) (outerN_push i1 i3 hq (by rw [← j4]; assumption)))
                             | assumption
                             | omega
                             | (subst ho; simpa [std, len_eFc, len_eNd, len_eBd, len_eAb, len_eLBd, len_eK, len_eB] using hl')
                             | (subst ho; simp [std, len_eFc, len_eNd, len_eBd, len_eAb, len_eLBd, len_eK, len_eB]; omega)
                             | (subst ho; simp (disch := omega) only [std, wI, tdiv2, tdivN, len_eFc, len_eNd, len_eBd, len_eAb, len_eLBd, len_eK, len_eB] <;> first | done | rfl | omega))))
                   | (refine Den.done ⟨by first | exact Or.inl rfl | exact Or.inr rfl, ?_⟩; (conv => lhs; cbv); refine congrArg some ?_))
              | ((fail_if_success (refine Den.id ?_))
                 first
                   | (exact Lv.nil)
                   | (subst ho; refine congrArg (D.sl Tok.ro 2) (congrArg eBd ?_); unfold outerM; rw [← i1, ← i2]; congr 1; omega)
                   | (subst ho; rw [show v0 - v0 = 0 by omega]; rfl)
                   | (simp only [Prod.mk.injEq] at hv; obtain ⟨e1, e2⟩ := hv; exact ⟨e1.symm, e2.symm, Int.le_refl _, by omega⟩)
                   | assumption
                   | omega))))
    | ((fail_if_success (refine Den.id ?_))
       first
         | assumption))
end Go.Mach
end
section
set_option linter.unusedVariables false
set_option linter.unusedSimpArgs false
namespace Go.Mach
open Go Go.RowKit Go.Proofs
set_option maxRecDepth 100000
set_option maxHeartbeats 4000000
theorem impl_flower_call.gns {xa xb : Option (List D → Option D)} (o : Std) (ho : o = std) (l : List Nd) (us : List Bd) (dp : Int) (fs m : List Fc) (t : Tok) (tk : List Nat) (hl : Lw tk t (o.bx fun _ => eFc m).length) (i : Int) (c : Int) (f_k : Int) (f_n : Int) (f_c : Int) (b_k : Int) (b_n : Int) (b_c : Int) (h0 : Fok l fs) (h1 : Lok l us) (h2 : 0 ≤ f_n ∧ f_n < l.length) (h3 : lamB (rN l f_n) = true) (h4 : m.length + 400000 ≤ 2900000000000) : Gns (env xa xb) 220 [.pbx (.out 0) 0, .int .i64 i, .int .i64 c, .agg [.int .i64 f_k, .int .i64 f_n, .int .i64 f_c], .agg [.int .i64 b_k, .int .i64 b_n, .int .i64 b_c]] [[cells5 (o.bx fun _ => eNd l) (o.bx fun _ => eBd us) dp (o.bx fun _ => eFc fs) t (o.bx fun _ => eFc m)]] tk (FR o l us dp fs (m ++ (callI l us dp fs i c ⟨f_k, f_n, f_c⟩ ⟨b_k, b_n, b_c⟩)) (.tup [])) := by
  refine Gns.mkA (E := env xa xb) (f := 220) ho _ (by rfl) (by rfl) ?_
  have hF := h0; have hK := h1; have hu := h0.up; have hL := h0.len; have hp := h0.pos; have hL2 : fs.length ≤ 2900000000000 := (by omega); have har := lam_ar h3; have hlo := len_outerM hK h2 h3
  repeat' (first
    | (refine Den.id ?_
       (try (conv => arg 2; cbv))
       first
         | (refine Den.pcallE (β := Int) (fun v => .int .i64 v) (as' := [.int .i64 _, .int .i64 _, .int .i64 _]) (by first | with_reducible rfl | (subst ho; rfl)) (impl_CtxPush.ans o ho _ _ _) ?_; rotate_left 0; rintro v hv)
         | (refine Den.pcallE (β := Bd) (fun v => .agg ([.int .i64 v.f0, .int .i64 v.f1])) (as' := [.sl .ro 7 (o.bx fun _ => eNd _), .int .i64 _]) (by first | with_reducible rfl | (subst ho; rfl)) (impl_given.ans o ho _ _ ?_) ?_; rotate_left 1; rintro ⟨v0, v1⟩ hv)
         | (refine Den.pcallE (β := Plc) (fun v => .agg ([.int .i64 v.k, .int .i64 v.n, .int .i64 v.c])) (as' := [.agg [.int .i64 _, .int .i64 _], .int .i64 _]) (by first | with_reducible rfl | (subst ho; rfl)) (impl_nameAt.ans o ho _ _ _) ?_; rotate_left 0; rintro ⟨v0, v1, v2⟩ hv)
         | (refine Den.gcF ho (β := Unit) (r := ()) (fun v => .tup []) (.out 0) (xs := [.pbx (.out 0) 0, .agg [.int .i64 _, .int .i64 _, .int .i64 _], .agg [.int .i64 _, .int .i64 _, .int .i64 _]]) (by rfl) (by rfl) (by rfl) (fun t0 tk0 hl0 => impl_flower_flow.gns o ho _ _ _ _ _ t0 tk0 hl0 _ _ _ _ _ _ ?_ ?_) ?_ ?_; rotate_left 3; rintro _ t' tk' _ hl')
         | (refine Den.pcallE (β := List Bd) (fun v => .sl .ro 2 (o.bx fun _ => eBd v)) (as' := [.sl .ro 7 (o.bx fun _ => eNd _), .sl .ro 2 (o.bx fun _ => eBd _), .int .i64 _]) (by first | with_reducible rfl | (subst ho; rfl)) (impl_outerOf.ans o ho _ _ _ ?_ ?_ ?_) ?_; rotate_left 3; rintro v hv)
         | (refine Den.fetchXNd ho ?_ ?_ (fun y hy => ?_); rotate_left 2; rcases y with ⟨y0, y1, y2, y3, y4, y5, y6⟩)
         | (refine Den.needD ho (by kernel_rfl) ?_)
         | (refine Den.indF (fun m_ s_ => ∃ (a10 : Int) (a11 : Int) (a52 : List Bd) (a53 : Int) (a54 : Int) (ema : Box) (ta52 ua : Tok) (tk : List Nat), s_ = ⟨[.pbx (.out 0) 0, .int .i64 i, .int .i64 c, .junk, .junk, .junk, .junk, .junk, .pbx (.loc 0) 0, .junk, .int .i64 a10, .int .i64 a11, .junk, .junk, .junk, .junk, .junk, .junk, .junk, .junk, .junk, .junk, .junk, .junk, .junk, .junk, .junk, .junk, .junk, .junk, .junk, .junk, .junk, .junk, .junk, .junk, .junk, .junk, .junk, .junk, .junk, .junk, .junk, .junk, .junk, .junk, .junk, .junk, .junk, .junk, .junk, .junk, .sl ta52 2 (o.bx fun _ => eBd a52), .int .i64 a53, .int .i64 a54] ++ List.replicate 31 .junk, [[[.int .i64 f_k, .int .i64 f_n, .int .i64 f_c]], [[.int .i64 b_k, .int .i64 b_n, .int .i64 b_c]]], [[cells5 (o.bx fun _ => eNd l) (o.bx fun _ => eBd us) dp (o.bx fun _ => eFc fs) ua ema]], tk⟩ ∧ Lw tk ua ema.length ∧ ema = (o.bx fun _ => eFc (m ++ (flowP fs ⟨b_k, b_n, b_c⟩ (nameAt (givenM l f_n) (ctxPush c i dp)) ++ (a52.take a54.toNat).flatMap (fun x => flowP fs (nameAt x f_c) (nameAt x (ctxPush c i dp)))))) ∧ (a10 = ctxPush c i dp ∧ a11 = (rN l f_n).f1 ∧ a52 = outerM l us f_n ∧ a53 = a52.length ∧ 0 ≤ a54 ∧ a54 ≤ a52.length) ∧ (a52.length - a54).toNat ≤ m_) _ _ ⟨_, _, _, _, _, _, _, _, _, by subst ho; rfl, ?_, ?_, ?_, Nat.le_refl _⟩ ?_
            rotate_right
            rintro m_ _ ⟨a10, a11, a52, a53, a54, ema, ta52, ua, tk, rfl, hla0, rfl, hIa, hka⟩ iha
            obtain ⟨i1, i2, i3, i4, i5, i6⟩ := hIa; have hw := len_outerFl (us := us) hF (a52.take a54.toNat) f_c (ctxPush c i dp); have hw2 := len_flowPI hF ⟨b_k, b_n, b_c⟩ (nameAt (givenM l f_n) (ctxPush c i dp)); have hw3 := List.length_take_le a54.toNat a52; rw [← i3] at hlo; refine Den.unloopA ho ?_
            repeat' (first
              | (refine Den.id ?_
                 (try (conv => arg 2; cbv))
                 first
                   | (refine Den.test (fun hr => ?_) (fun hr => ?_) <;> (have hb := hr) <;> (try simp (disch := omega) only [ho, std, wI, len_eK, len_eB, len_eNd, len_eLNd, len_eFc, len_eAb, len_eBd, len_eEd, len_eLBd, Classical.not_not, decide_eq_true_eq, decide_eq_false_iff_not, beq_iff_eq, beq_eq_false_iff_ne, ne_eq, Bool.not_eq_true', Bool.not_eq_false', gt_iff_lt, ge_iff_le, Int.not_lt, Int.not_le] at hb) <;> (try (exfalso; first | contradiction | omega | exact hb rfl)))
                   | (refine Den.pcallE (β := Plc) (fun v => .agg ([.int .i64 v.k, .int .i64 v.n, .int .i64 v.c])) (as' := [.agg [.int .i64 _, .int .i64 _], .int .i64 _]) (by first | with_reducible rfl | (subst ho; rfl)) (impl_nameAt.ans o ho _ _ _) ?_; rotate_left 0; rintro ⟨v0, v1, v2⟩ hv)
                   | (refine Den.gcF ho (β := Unit) (r := ()) (fun v => .tup []) (.out 0) (xs := [.pbx (.out 0) 0, .agg [.int .i64 _, .int .i64 _, .int .i64 _], .agg [.int .i64 _, .int .i64 _, .int .i64 _]]) (by rfl) (by rfl) (by rfl) (fun t0 tk0 hl0 => impl_flower_flow.gns o ho _ _ _ _ _ t0 tk0 hl0 _ _ _ _ _ _ ?_ ?_) ?_ ?_; rotate_left 3; rintro _ t' tk' _ hl')
                   | (refine Den.gcF ho (β := Unit) (r := ()) (fun v => .tup []) (.out 0) (xs := [.pbx (.out 0) 0, .int .i64 _, .int .i64 _]) (by rfl) (by rfl) (by rfl) (fun t0 tk0 hl0 => impl_flower_see.gns o ho _ _ _ _ _ t0 tk0 hl0 _ _ ?_) ?_ ?_; rotate_left 2; rintro _ t' tk' _ hl')
                   | (refine Den.gcF ho (β := Unit) (r := ()) (fun v => .tup []) (.out 0) (xs := [.pbx (.out 0) 0, .int .i64 _, .int .i64 _, .int .i64 _, .int .i64 _]) (by rfl) (by rfl) (by rfl) (fun t0 tk0 hl0 => impl_flower_raise.gns o ho _ _ _ _ _ t0 tk0 hl0 _ _ _ _ ?_ ?_) ?_ ?_; rotate_left 3; rintro _ t' tk' _ hl')
                   | (refine Den.fetchXBd ho ?_ ?_ (fun y hy => ?_); rotate_left 2; rcases y with ⟨y0, y1⟩)
                   | (refine Den.needD ho (by kernel_rfl) ?_)
                   | (refine iha _ _ ?_ ⟨_, _, _, _, _, _, _, _, _, by subst ho; rfl, ?_, ?_, ?_, Nat.le_refl _⟩)
                   | (refine Den.done ⟨by first | exact Or.inl rfl | exact Or.inr rfl, ?_⟩; refine ⟨_, by (conv => lhs; cbv) <;> rfl, ?_, _, _, by rfl, ?_, ?_⟩; first | (focus ((conv => lhs; cbv); done)) | ((conv => lhs; cbv); refine congrArg some ?_)))
              | ((fail_if_success (refine Den.id ?_))
                 first
                   | (subst ho; exact hl')
                   | (subst ho; exact hla0)
                   | (rw [List.length_append, List.length_append]; omega)
                   | (have hq := len_flowI hF 0 a11 a10 0 i c; have hs : (seeL a11 a10).length = 1 := rfl; simp only [List.length_append]; omega)
                   | (subst ho; refine congrArg eFc ?_; rw [take_allG (by omega), i3, i1, i2]; simp only [callI, List.append_assoc]; done)
                   | (subst ho; refine congrArg eFc ?_; simp [flowP, *]; done)
                   | (subst ho; refine ⟨Eq.symm (by assumption), by rw [show rN l f_n = _ by assumption], Eq.symm (by assumption), by simp [std, len_eBd], Int.le_refl _, by omega⟩)
                   | (simp (disch := omega) only [ho, std, wI]; exact ⟨i1, i2, i3, i4, by omega, by omega⟩)
                   | (subst ho; refine congrArg eFc ?_; simp (disch := omega) only [std, wI]; rw [flatMap_succ _ zBd i5 (by omega), show rdG zBd a52 a54 = ⟨y0, y1⟩ from (by assumption : rB a52 a54 = ⟨y0, y1⟩)]; simp only [flowP, ← i1, show nameAt ⟨y0, y1⟩ f_c = _ by assumption, show nameAt ⟨y0, y1⟩ a10 = _ by assumption, List.append_assoc])
                   | assumption
                   | omega
                   | (subst ho; simp (disch := omega) only [std, wI, tdiv2, tdivN, len_eFc, len_eNd, len_eBd, len_eAb, len_eLBd, len_eK, len_eB] <;> first | done | rfl | omega)))))
    | ((fail_if_success (refine Den.id ?_))
       first
         | (subst ho; exact hl)
         | assumption
         | omega))
end Go.Mach
end
