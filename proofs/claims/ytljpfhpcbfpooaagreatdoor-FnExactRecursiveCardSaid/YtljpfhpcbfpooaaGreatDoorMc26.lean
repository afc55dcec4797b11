/- What the statements share: part 26 of a proof by an executable machine over the program's code. -/
import Derived.Test.YtljpfhpcbfpooaaGreatDoorMc25
set_option linter.unusedVariables false
set_option linter.unusedSimpArgs false
set_option maxRecDepth 100000
set_option maxHeartbeats 4000000
namespace Go.Mach
open Go Go.RowKit Go.Proofs
theorem impl_flower_values.gns {xa xb : Option (List D → Option D)} (o : Std) (ho : o = std) (l : List Nd) (us : List Bd) (dp : Int) (fs m : List Fc) (t : Tok) (tk : List Nat) (hl : Lw tk t (o.bx fun _ => eFc m).length) (a_k : Int) (a_n : Int) (a_c : Int) (h0 : Fok l fs) : Gns (env xa xb) 235 [.pbx (.out 0) 0, .agg [iX a_k, iX a_n, iX a_c]] [[cells5 (o.bx fun _ => eNd l) (o.bx fun _ => eBd us) dp (o.bx fun _ => eFc fs) t (o.bx fun _ => eFc m)]] tk (FR o l us dp fs (m) (rAb o (vals fs a_k a_n a_c))) := by
 refine Gns.mkA (E := env xa xb) (f := 235) ho _ (by rfl) (by rfl) ?_
 have hF := h0; have hu := h0.up; have hL := h0.len; have hp := h0.pos; have hL2 : fs.length ≤ 2900000000000 := (by omega)
 repeat' (first
  | (refine .id ?_
     (try (conv => arg 2; cbv))
     first
      | (refine .pE (β := List Ab) (rAb o) (as' := [rFc o _, iX _, iX _, iX _]) (impl_absAt.ans o ho _ _ _ _ ?_ ?_ ?_) ?_; rotate_left 3; rintro v hv)
      | (refine .needD ho (by kernel_rfl) ?_)
      | (refine .fin ?_; refine ⟨_, by (conv => lhs; cbv) <;> rfl, ?_, _, _, by rfl, ?_, ?_⟩; first | (focus ((conv => lhs; cbv); done)) | ((conv => lhs; cbv); refine congrArg some ?_)))
  | ((fail_if_success (refine .id ?_))
     first
      | (subst ho; exact hl)
      | (subst hv; rfl)
      | assumption))
theorem impl_flower_see.gns {xa xb : Option (List D → Option D)} (o : Std) (ho : o = std) (l : List Nd) (us : List Bd) (dp : Int) (fs m : List Fc) (t : Tok) (tk : List Nat) (hl : Lw tk t (o.bx fun _ => eFc m).length) (i : Int) (c : Int) (h0 : m.length + 1 ≤ 2900000000000) : Gns (env xa xb) 206 [.pbx (.out 0) 0, iX i, iX c] [[cells5 (o.bx fun _ => eNd l) (o.bx fun _ => eBd us) dp (o.bx fun _ => eFc fs) t (o.bx fun _ => eFc m)]] tk (FR o l us dp fs (m ++ (seeL i c)) (.tup [])) := by
 refine Gns.mkA (E := env xa xb) (f := 206) ho _ (by rfl) (by rfl) ?_
 repeat' (first
  | (refine .id ?_
     (try (conv => arg 2; cbv))
     first
      | (refine .gcF ho (β := Unit) (r := ()) (fun v => .tup []) (.out 0) (xs := [.pbx (.out 0) 0, .agg [iX _, iX _, iX _], .agg [iX _, iX _, iX _]]) (by rfl) (by rfl) (by rfl) (fun t0 tk0 hl0 => impl_flower_add.gns o ho _ _ _ _ _ t0 tk0 hl0 _ _ _ _ _ _ ?_) ?_ ?_; rotate_left 2; rintro _ t' tk' _ hl')
      | (refine .fin ?_; refine ⟨_, by (conv => lhs; cbv) <;> rfl, ?_, _, _, by rfl, ?_, ?_⟩; first | (focus ((conv => lhs; cbv); done)) | ((conv => lhs; cbv); refine congrArg some ?_)))
  | ((fail_if_success (refine .id ?_))
     first
      | (subst ho; exact hl)
      | (subst ho; exact hl')
      | rfl
      | assumption))
theorem impl_flower_flow.gns {xa xb : Option (List D → Option D)} (o : Std) (ho : o = std) (l : List Nd) (us : List Bd) (dp : Int) (fs m : List Fc) (t : Tok) (tk : List Nat) (hl : Lw tk t (o.bx fun _ => eFc m).length) (a_k : Int) (a_n : Int) (a_c : Int) (b_k : Int) (b_n : Int) (b_c : Int) (h0 : Fok l fs) (h1 : m.length + 2500 ≤ 2900000000000) : Gns (env xa xb) 203 [.pbx (.out 0) 0, .agg [iX a_k, iX a_n, iX a_c], .agg [iX b_k, iX b_n, iX b_c]] [[cells5 (o.bx fun _ => eNd l) (o.bx fun _ => eBd us) dp (o.bx fun _ => eFc fs) t (o.bx fun _ => eFc m)]] tk (FR o l us dp fs (m ++ (flowL fs a_k a_n a_c b_k b_n b_c)) (.tup [])) := by
 refine Gns.mkA (E := env xa xb) (f := 203) ho _ (by rfl) (by rfl) ?_
 have hF := h0; have hu := h0.up; have hL := h0.len; have hp := h0.pos; have hL2 : fs.length ≤ 2900000000000 := (by omega)
 repeat' (first
  | (refine .id ?_
     (try (conv => arg 2; cbv))
     first
      | (refine .gcF ho (β := List Ab) (rAb o) (.out 0) (xs := [.pbx (.out 0) 0, .agg [iX _, iX _, iX _]]) (by rfl) (by rfl) (by rfl) (fun t0 tk0 hl0 => impl_flower_values.gns o ho _ _ _ _ _ t0 tk0 hl0 _ _ _ ?_) ?_ ?_; rotate_left 2; rintro v t' tk' hv hl')
      | (refine .indF (fun m_ s_ => ∃ (a10 : List Ab) (a11 : Int) (a12 : Int) (ema : Box) (ta10 ua : Tok) (tk : List Nat), s_ = ⟨[.pbx (.out 0) 0, Jk, Jk, Jk, Jk, .pbx (.loc 1) 0, Jk, Jk, Jk, Jk, .sl ta10 3 (o.bx fun _ => eAb a10), iX a11, iX a12] ++ List.replicate 8 Jk, [[[iX a_k, iX a_n, iX a_c]], [[iX b_k, iX b_n, iX b_c]]], [[cells5 (o.bx fun _ => eNd l) (o.bx fun _ => eBd us) dp (o.bx fun _ => eFc fs) ua ema]], tk⟩ ∧ Lw tk ua ema.length ∧ ema = (o.bx fun _ => eFc (m ++ (mapF (a10.take a12.toNat) b_k b_n b_c))) ∧ (a10 = vals fs a_k a_n a_c ∧ a11 = a10.length ∧ 0 ≤ a12 ∧ a12 ≤ a10.length) ∧ (a10.length - a12).toNat ≤ m_) _ _ ⟨_, _, _, _, _, _, _, by subst ho; rfl, ?_, ?_, ?_, Nat.le_refl _⟩ ?_
         rotate_right
         rintro m_ _ ⟨a10, a11, a12, ema, ta10, ua, tk, rfl, hla0, rfl, hIa, hka⟩ iha
         obtain ⟨i1, i2, i3, i4⟩ := hIa; have hz := len_vals fs a_k a_n a_c; rw [← i1] at hz; have hw := List.length_take_le a12.toNat a10; have hx := len_mapF (a10.take a12.toNat) b_k b_n b_c; refine .unloopA ho ?_
         repeat' (first
          | (refine .id ?_
             (try (conv => arg 2; cbv))
             first
              | (refine .test (fun hr => ?_) (fun hr => ?_) <;> (have hb := hr) <;> (try simp (disch := omega) only [ho, std, wI, lenE, nrm] at hb) <;> (try (exfalso; first | contradiction | omega | exact hb rfl)))
              | (refine .gcF ho (β := Unit) (r := ()) (fun v => .tup []) (.out 0) (xs := [.pbx (.out 0) 0, .agg [iX _, iX _, iX _], .agg [iX _, iX _, iX _]]) (by rfl) (by rfl) (by rfl) (fun t0 tk0 hl0 => impl_flower_add.gns o ho _ _ _ _ _ t0 tk0 hl0 _ _ _ _ _ _ ?_) ?_ ?_; rotate_left 2; rintro _ t' tk' _ hl')
              | (refine .fetchXAb ho ?_ ?_ (fun y hy => ?_); rotate_left 2; rcases y with ⟨yk, yn, yc⟩)
              | (refine iha _ _ ?_ ⟨_, _, _, _, _, _, _, by subst ho; rfl, ?_, ?_, ?_, Nat.le_refl _⟩)
              | (refine .fin ?_; refine ⟨_, by (conv => lhs; cbv) <;> rfl, ?_, _, _, by rfl, ?_, ?_⟩; first | (focus ((conv => lhs; cbv); done)) | ((conv => lhs; cbv); refine congrArg some ?_)))
          | ((fail_if_success (refine .id ?_))
             first
              | (subst ho; exact hl')
              | (subst ho; exact hla0)
              | (subst ho; refine congrArg eFc ?_; rw [take_allG (by omega), i1]; rfl)
              | (subst ho; refine congrArg eFc ?_; simp [mapF]; done)
              | (subst hv; subst ho; exact ⟨rfl, by simp [std, len_eAb], Int.le_refl _, by omega⟩)
              | (rw [List.length_append]; omega)
              | (subst ho; simp (disch := omega) only [std, wI]; exact ⟨i1, i2, by omega, by omega⟩)
              | (subst ho; refine congrArg eFc ?_; simp (disch := omega) only [std, wI]; rw [mapF_succ i3 (by omega), hy, List.append_assoc])
              | assumption
              | omega
              | (subst ho; simp (disch := omega) only [std, wI, tdiv2, tdivN, lenE] <;> first | done | rfl | omega)))))
  | ((fail_if_success (refine .id ?_))
     first
      | (subst ho; exact hl)
      | assumption))
theorem impl_flower_raise.gns {xa xb : Option (List D → Option D)} (o : Std) (ho : o = std) (l : List Nd) (us : List Bd) (dp : Int) (fs m : List Fc) (t : Tok) (tk : List Nat) (hl : Lw tk t (o.bx fun _ => eFc m).length) (by1 : Int) (by2 : Int) (i : Int) (c : Int) (h0 : Fok l fs) (h1 : m.length + 1 ≤ 2900000000000) : Gns (env xa xb) 207 [.pbx (.out 0) 0, iX by1, iX by2, iX i, iX c] [[cells5 (o.bx fun _ => eNd l) (o.bx fun _ => eBd us) dp (o.bx fun _ => eFc fs) t (o.bx fun _ => eFc m)]] tk (FR o l us dp fs (m ++ (riseL (hasR fs by1 by2) i c)) (.tup [])) := by
 refine Gns.mkA (E := env xa xb) (f := 207) ho _ (by rfl) (by rfl) ?_
 have hF := h0; have hu := h0.up; have hL := h0.len; have hp := h0.pos; have hL2 : fs.length ≤ 2900000000000 := (by omega)
 repeat' (first
  | (refine .id ?_
     (try (conv => arg 2; cbv))
     first
      | refine .testT ?_
      | refine .testF ?_
      | (refine .pE (β := Bool) .bool (as' := [rFc o _, .agg [iX _, iX _, iX _, iX _, iX _, iX _]]) (impl_has.ans o ho _ _ _ _ _ _ _ ?_ ?_) ?_; rotate_left 2; rintro (_ | _) hv <;> (try simp only [dE] at hv) <;> (try first | contradiction | exact bX hv))
      | (refine .gcF ho (β := Unit) (r := ()) (fun v => .tup []) (.out 0) (xs := [.pbx (.out 0) 0, .agg [iX _, iX _, iX _], .agg [iX _, iX _, iX _]]) (by rfl) (by rfl) (by rfl) (fun t0 tk0 hl0 => impl_flower_add.gns o ho _ _ _ _ _ t0 tk0 hl0 _ _ _ _ _ _ ?_) ?_ ?_; rotate_left 2; rintro _ t' tk' _ hl')
      | (refine .fin ?_; refine ⟨_, by (conv => lhs; cbv) <;> rfl, ?_, _, _, by rfl, ?_, ?_⟩; first | (focus ((conv => lhs; cbv); done)) | ((conv => lhs; cbv); refine congrArg some ?_)))
  | ((fail_if_success (refine .id ?_))
     first
      | (subst ho; exact hl)
      | (subst ho; exact hl')
      | (subst ho; refine congrArg eFc ?_; unfold hasR; simp [riseL, hv]; done)
      | assumption))
theorem impl_flower_those.gns {xa xb : Option (List D → Option D)} (o : Std) (ho : o = std) (l : List Nd) (us : List Bd) (dp : Int) (fs m : List Fc) (t : Tok) (tk : List Nat) (hl : Lw tk t (o.bx fun _ => eFc m).length) (a_k : Int) (a_n : Int) (a_c : Int) (kd : Int) (h0 : Fok l fs) : Gns (env xa xb) 237 [.pbx (.out 0) 0, .agg [iX a_k, iX a_n, iX a_c], iX kd] [[cells5 (o.bx fun _ => eNd l) (o.bx fun _ => eBd us) dp (o.bx fun _ => eFc fs) t (o.bx fun _ => eFc m)]] tk (FR o l us dp fs (m) (rAb o (thoseL fs a_k a_n a_c kd))) := by
 refine Gns.mkA (E := env xa xb) (f := 237) ho _ (by rfl) (by rfl) ?_
 have hF := h0; have hu := h0.up; have hL := h0.len; have hp := h0.pos; have hL2 : fs.length ≤ 2900000000000 := (by omega)
 repeat' (first
  | (refine .id ?_
     (try (conv => arg 2; cbv))
     first
      | (refine .gcF ho (β := List Ab) (rAb o) (.out 0) (xs := [.pbx (.out 0) 0, .agg [iX _, iX _, iX _]]) (by rfl) (by rfl) (by rfl) (fun t0 tk0 hl0 => impl_flower_values.gns o ho _ _ _ _ _ t0 tk0 hl0 _ _ _ ?_) ?_ ?_; rotate_left 2; rintro v t' tk' hv hl')
      | (refine .indF (fun m_ s_ => ∃ (ea7 : Box) (a12 : List Ab) (a13 : Int) (a14 : Int) (ema : Box) (ta7 ta12 ua : Tok) (tk : List Nat), s_ = ⟨[Jk, Jk, iX kd, Jk, Jk, Jk, Jk, .sl ta7 3 ea7, Jk, Jk, Jk, Jk, .sl ta12 3 (o.bx fun _ => eAb a12), iX a13, iX a14] ++ List.replicate 13 Jk, [[[iX a_k, iX a_n, iX a_c]]], [[cells5 (o.bx fun _ => eNd l) (o.bx fun _ => eBd us) dp (o.bx fun _ => eFc fs) ua ema]], tk⟩ ∧ Lv tk ta7 ea7.length ∧ ea7 = (o.bx fun _ => eAb ((a12.take a14.toNat).filter fun v => v.k == kd)) ∧ Lw tk ua ema.length ∧ ema = (o.bx fun _ => eFc m) ∧ (Apart ta7 ua ∧ a12 = vals fs a_k a_n a_c ∧ a13 = a12.length ∧ 0 ≤ a14 ∧ a14 ≤ a12.length) ∧ (a12.length - a14).toNat ≤ m_) _ _ ⟨_, _, _, _, _, _, _, _, _, by subst ho; rfl, ?_, ?_, ?_, ?_, ?_, Nat.le_refl _⟩ ?_
         rotate_right
         rintro m_ _ ⟨ea7, a12, a13, a14, ema, ta7, ta12, ua, tk, rfl, hla0, rfl, hla1, rfl, hIa, hka⟩ iha
         obtain ⟨i0, i1, i2, i3, i4⟩ := hIa; have hz := len_vals fs a_k a_n a_c; rw [← i1] at hz; have hw := List.length_take_le a14.toNat a12; have hx := List.length_filter_le (fun v => v.k == kd) (a12.take a14.toNat); refine .unloopA ho ?_
         repeat' (first
          | (refine .id ?_
             (try (conv => arg 2; cbv))
             first
              | (refine .test (fun hr => ?_) (fun hr => ?_) <;> (have hb := hr) <;> (try simp (disch := omega) only [ho, std, wI, lenE, nrm] at hb) <;> (try (exfalso; first | contradiction | omega | exact hb rfl)))
              | (refine .app12 hla1 i0 ?_ (fun t' tk' hl' hlw hap => ?_))
              | (refine .fetchXAb ho ?_ ?_ (fun y hy => ?_); rotate_left 2; rcases y with ⟨yk, yn, yc⟩)
              | (refine .need ?_ ?_)
              | (refine iha _ _ ?_ ⟨_, _, _, _, _, _, _, _, _, by subst ho; rfl, ?_, ?_, ?_, ?_, ?_, Nat.le_refl _⟩)
              | (refine .fin ?_; refine ⟨_, by (conv => lhs; cbv) <;> rfl, ?_, _, _, by rfl, ?_, ?_⟩; first | (focus ((conv => lhs; cbv); done)) | ((conv => lhs; cbv); refine congrArg some ?_)))
          | ((fail_if_success (refine .id ?_))
             first
              | (subst ho; exact hl')
              | (exact Lv.nil)
              | (subst ho; exact hla0)
              | (subst ho; exact hla1)
              | (subst ho; exact hlw)
              | (subst ho; refine congrArg (D.sl Tok.ro 3) (congrArg eAb ?_); rw [take_allG (by omega), i1]; rfl)
              | (subst hv; subst ho; refine ⟨?_, rfl, by simp [std, len_eAb], Int.le_refl _, by omega⟩; intro i h; cases h)
              | (simp (disch := omega) only [ho, std, wI]; exact ⟨by assumption, i1, i2, by omega, by omega⟩)
              | (subst ho; simp [std, len_eAb]; omega)
              | (simp (disch := omega) only [ho, std, wI]; rw [filter_succ i3 (by omega), hy, if_neg (by simpa using hb), List.append_nil])
              | (subst ho; refine push_eAb (x := ⟨yk, yn, yc⟩) ?_; simp (disch := omega) only [std, wI]; rw [filter_succ i3 (by omega), hy, if_pos (by simpa using hb)])
              | assumption
              | omega
              | (subst ho; rfl)
              | (subst ho; simpa [std, lenE] using hl')
              | (subst ho; simp (disch := omega) only [std, wI, tdiv2, tdivN, lenE] <;> first | done | rfl | omega)))))
  | ((fail_if_success (refine .id ?_))
     first
      | (subst ho; exact hl)
      | assumption))
theorem impl_flower_take.gns {xa xb : Option (List D → Option D)} (o : Std) (ho : o = std) (l : List Nd) (us : List Bd) (dp : Int) (fs m : List Fc) (t : Tok) (tk : List Nat) (hl : Lw tk t (o.bx fun _ => eFc m).length) (a_k : Int) (a_n : Int) (a_c : Int) (kd : Int) (part : Int) (h_k : Int) (h_n : Int) (h_c : Int) (h0 : Fok l fs) (h1 : m.length + 6250000 ≤ 2900000000000) : Gns (env xa xb) 259 [.pbx (.out 0) 0, .agg [iX a_k, iX a_n, iX a_c], iX kd, iX part, .agg [iX h_k, iX h_n, iX h_c]] [[cells5 (o.bx fun _ => eNd l) (o.bx fun _ => eBd us) dp (o.bx fun _ => eFc fs) t (o.bx fun _ => eFc m)]] tk (FR o l us dp fs (m ++ (takeL fs kd part h_k h_n h_c (thoseL fs a_k a_n a_c kd))) (.tup [])) := by
 refine Gns.mkA (E := env xa xb) (f := 259) ho _ (by rfl) (by rfl) ?_
 have hF := h0; have hu := h0.up; have hL := h0.len; have hp := h0.pos; have hL2 : fs.length ≤ 2900000000000 := (by omega)
 repeat' (first
  | (refine .id ?_
     (try (conv => arg 2; cbv))
     first
      | (refine .gcF ho (β := List Ab) (rAb o) (.out 0) (xs := [.pbx (.out 0) 0, .agg [iX _, iX _, iX _], iX _]) (by rfl) (by rfl) (by rfl) (fun t0 tk0 hl0 => impl_flower_those.gns o ho _ _ _ _ _ t0 tk0 hl0 _ _ _ _ ?_) ?_ ?_; rotate_left 2; rintro v t' tk' hv hl')
      | (refine .indF (fun m_ s_ => ∃ (a15 : List Ab) (a16 : Int) (a17 : Int) (ema : Box) (ta15 ua : Tok) (tk : List Nat), s_ = ⟨[.pbx (.out 0) 0, Jk, Jk, iX part, Jk, Jk, Jk, Jk, Jk, .pbx (.loc 1) 0, Jk, Jk, Jk, Jk, Jk, .sl ta15 3 (o.bx fun _ => eAb a15), iX a16, iX a17] ++ List.replicate 13 Jk, [[[iX a_k, iX a_n, iX a_c]], [[iX h_k, iX h_n, iX h_c]]], [[cells5 (o.bx fun _ => eNd l) (o.bx fun _ => eBd us) dp (o.bx fun _ => eFc fs) ua ema]], tk⟩ ∧ Lw tk ua ema.length ∧ ema = (o.bx fun _ => eFc (m ++ (takeL fs kd part h_k h_n h_c (a15.take a17.toNat)))) ∧ (a15 = thoseL fs a_k a_n a_c kd ∧ a16 = a15.length ∧ 0 ≤ a17 ∧ a17 ≤ a15.length) ∧ (a15.length - a17).toNat ≤ m_) _ _ ⟨_, _, _, _, _, _, _, by subst ho; rfl, ?_, ?_, ?_, Nat.le_refl _⟩ ?_
         rotate_right
         rintro m_ _ ⟨a15, a16, a17, ema, ta15, ua, tk, rfl, hla0, rfl, hIa, hka⟩ iha
         obtain ⟨i1, i2, i3, i4⟩ := hIa; have hz := len_those fs a_k a_n a_c kd; rw [← i1] at hz; have hw := List.length_take_le a17.toNat a15; have hx := len_flatMap_le (fun v : Ab => flowL fs part v.n v.c h_k h_n h_c) 2500 (fun v => by rw [len_flowL]; exact Nat.le_trans (len_vals _ _ _ _) h0.len) (a15.take a17.toNat); refine .unloopA ho ?_
         repeat' (first
          | (refine .id ?_
             (try (conv => arg 2; cbv))
             first
              | (refine .test (fun hr => ?_) (fun hr => ?_) <;> (have hb := hr) <;> (try simp (disch := omega) only [ho, std, wI, lenE, nrm] at hb) <;> (try (exfalso; first | contradiction | omega | exact hb rfl)))
              | (refine .gcF ho (β := Unit) (r := ()) (fun v => .tup []) (.out 0) (xs := [.pbx (.out 0) 0, .agg [iX _, iX _, iX _], .agg [iX _, iX _, iX _]]) (by rfl) (by rfl) (by rfl) (fun t0 tk0 hl0 => impl_flower_flow.gns o ho _ _ _ _ _ t0 tk0 hl0 _ _ _ _ _ _ ?_ ?_) ?_ ?_; rotate_left 3; rintro _ t' tk' _ hl')
              | (refine .fetchXAb ho ?_ ?_ (fun y hy => ?_); rotate_left 2; rcases y with ⟨yk, yn, yc⟩)
              | (refine iha _ _ ?_ ⟨_, _, _, _, _, _, _, by subst ho; rfl, ?_, ?_, ?_, Nat.le_refl _⟩)
              | (refine .fin ?_; refine ⟨_, by (conv => lhs; cbv) <;> rfl, ?_, _, _, by rfl, ?_, ?_⟩; first | (focus ((conv => lhs; cbv); done)) | ((conv => lhs; cbv); refine congrArg some ?_)))
          | ((fail_if_success (refine .id ?_))
             first
              | (subst ho; exact hl')
              | (subst ho; exact hla0)
              | (subst ho; refine congrArg eFc ?_; rw [take_allG (by omega), i1])
              | (subst ho; refine congrArg eFc ?_; simp [takeL]; done)
              | (subst hv; subst ho; exact ⟨rfl, by simp [std, len_eAb], Int.le_refl _, by omega⟩)
              | (rw [List.length_append]; unfold takeL; omega)
              | (simp (disch := omega) only [ho, std, wI]; exact ⟨i1, i2, by omega, by omega⟩)
              | (subst ho; refine congrArg eFc ?_; simp (disch := omega) only [std, wI]; unfold takeL; rw [flatMap_succ _ zA i3 (by omega), show rdG zA a15 a17 = ⟨yk, yn, yc⟩ from hy, List.append_assoc])
              | assumption
              | omega
              | (subst ho; simp (disch := omega) only [std, wI, tdiv2, tdivN, lenE] <;> first | done | rfl | omega)))))
  | ((fail_if_success (refine .id ?_))
     first
      | (subst ho; exact hl)
      | assumption))
theorem impl_outerOf.ans {xa xb : Option (List D → Option D)} (o : Std) (ho : o = std) (l : List Nd) (us : List Bd) (f : Int) (h0 : Lok l us) (h1 : 0 ≤ f ∧ f < l.length) (h2 : 0 < arityM (rN l f).f0) : Ans (env xa xb) 267 [rNd o l, rBd o us, iX f] (rBd o (outerM l us f)) := by
 refine Ans.mkA ho _ rfl rfl ?_
 have hd := h0.downs; have hus := h0.uses; have hsz := h0.size; have hk := hd f h1.1 h1.2 h2; have hst := startM_le hd hk.1 (by omega)
 repeat' (first
  | (refine .id ?_
     (try (conv => arg 2; cbv))
     first
      | (refine .pE (β := Int × Int) (fun v => .tup [iX v.1, iX v.2]) (as' := [rNd o _, iX _]) (impl_bodyOf.ans o ho _ _ ?_ ?_ ?_) ?_; rotate_left 3; rintro ⟨v0, v1⟩ hv)
      | (refine .indF (fun m_ s_ => ∃ (a7 : Int) (a8 : Int) (ea9 : Box) (a10 : Int) (ta9 : Tok) (tk : List Nat), s_ = ⟨[rNd o l, rBd o us, iX f, Jk, Jk, Jk, Jk, iX a7, iX a8, .sl ta9 2 ea9, iX a10] ++ List.replicate 57 Jk, [], [], tk⟩ ∧ Lv tk ta9 ea9.length ∧ ea9 = (o.bx fun _ => eBd (outerN l us f (a10 - a7).toNat)) ∧ (a7 = startM l (rN l f).f1 ∧ a8 = (rN l f).f1 ∧ a7 ≤ a10 ∧ a10 ≤ a8 + 1) ∧ (a8 + 1 - a10).toNat ≤ m_) _ _ ⟨_, _, _, _, _, _, by subst ho; rfl, ?_, ?_, ?_, Nat.le_refl _⟩ ?_
         rotate_right
         rintro m_ _ ⟨a7, a8, ea9, a10, ta9, tk, rfl, hla0, rfl, hIa, hka⟩ iha
         obtain ⟨i1, i2, i3, i4⟩ := hIa; have hz := len_outerN l us f (a10 - a7).toNat; refine .unloopA ho ?_
         repeat' (first
          | (refine .id ?_
             (try (conv => arg 2; cbv))
             first
              | refine .testT ?_
              | refine .testF ?_
              | refine .t1 ?_
              | refine .t0 ?_
              | (refine .test (fun hr => ?_) (fun hr => ?_) <;> (have hb := hr) <;> (try simp (disch := omega) only [ho, std, wI, lenE, nrm] at hb) <;> (try (exfalso; first | contradiction | omega | exact hb rfl)))
              | (refine .pE (β := Bool) .bool (as' := [iX _, iX _, iX _]) (impl_in.ans o ho _ _ _) ?_; rintro (_ | _) hv <;> (try simp only [dE] at hv) <;> (try first | contradiction | exact bX hv))
              | (refine .pE (β := Bd) (fun v => .agg ([iX v.f0, iX v.f1])) (as' := [rNd o _, iX _]) (impl_given.ans o ho _ _ ?_) ?_; rotate_left 1; rintro ⟨v0, v1⟩ hv)
              | (refine .fetchXBd ho ?_ ?_ (fun y hy => ?_); rotate_left 2; rcases y with ⟨y0, y1⟩; (first | (have _hq := q0) | (obtain ⟨q0, e0⟩ : ∃ q, q = y0 := ⟨_, rfl⟩; obtain ⟨q1, e1⟩ : ∃ q, q = y1 := ⟨_, rfl⟩; subst e0; subst e1; have hq := hy)))
              | (refine .needD ho (by kernel_rfl) ?_)
              | (refine .indF (fun m_ s_ => ∃ (b12 : Bool) (b49 : Int) (b50 : Int) (tk : List Nat), s_ = ⟨[rNd o l, rBd o us, iX f, Jk, Jk, Jk, Jk, iX a7, iX a8, .sl ta9 2 (o.bx fun _ => eBd (outerN l us f (a10 - a7).toNat)), iX a10, .pbx (.loc 0) 0, .bool b12, Jk, Jk, Jk, Jk, Jk, Jk, Jk, Jk, Jk, Jk, Jk, Jk, Jk, Jk, Jk, Jk, Jk, Jk, Jk, Jk, Jk, Jk, Jk, Jk, Jk, Jk, Jk, Jk, Jk, Jk, Jk, Jk, Jk, Jk, Jk, .sl ta9 2 (o.bx fun _ => eBd (outerN l us f (a10 - a7).toNat)), iX b49, iX b50] ++ List.replicate 17 Jk, [[[iX q0, iX q1]]], [], tk⟩ ∧ (Lv tk ta9 (o.bx fun _ => eBd (outerN l us f (a10 - a7).toNat)).length ∧ b49 = (outerN l us f (a10 - a7).toNat).length ∧ 0 ≤ b50 ∧ b50 ≤ b49 ∧ b12 = (knB l us f ⟨q0, q1⟩ || ((outerN l us f (a10 - a7).toNat).take b50.toNat).any fun x => decide (x = ⟨q0, q1⟩))) ∧ (b49 - b50).toNat ≤ m_) _ _ ⟨_, _, _, _, by subst ho; rfl, ?_, Nat.le_refl _⟩ ?_
                 rotate_right
                 rintro m_ _ ⟨b12, b49, b50, tk, rfl, hIb, hkb⟩ ihb
                 obtain ⟨j0, j1, j2, j3, j4⟩ := hIb; refine .unloopA ho ?_
                 repeat' (first
                  | (refine .id ?_
                     (try (conv => arg 2; cbv))
                     first
                      | refine .t1 ?_
                      | refine .t0 ?_
                      | (refine .test (fun hr => ?_) (fun hr => ?_) <;> (have hb := hr) <;> (try simp (disch := omega) only [ho, std, wI, lenE, nrm] at hb) <;> (try (exfalso; first | contradiction | omega | exact hb rfl)))
                      | (refine .fetchXBd ho ?_ ?_ (fun y hy => ?_); rotate_left 2; rcases y with ⟨y0, y1⟩; (first | (have _hq := q0) | (obtain ⟨q0, e0⟩ : ∃ q, q = y0 := ⟨_, rfl⟩; obtain ⟨q1, e1⟩ : ∃ q, q = y1 := ⟨_, rfl⟩; subst e0; subst e1; have hq := hy)))
                      | (refine .need ?_ ?_)
                      | (refine .app1 ?_ (fun t' tk' hl' => ?_))
                      | (refine ihb _ _ ?_ ⟨_, _, _, _, by subst ho; rfl, ?_, Nat.le_refl _⟩)
                      | (refine iha _ _ ?_ ⟨_, _, _, _, _, _, by subst ho; rfl, ?_, ?_, ?_, Nat.le_refl _⟩))
                  | ((fail_if_success (refine .id ?_))
                     first
                      | (subst ho; exact j0)
                      | (subst ho; refine ⟨hla0, by simp [std, len_eBd], Int.le_refl _, by simp [std], ?_⟩; rw [show Int.toNat 0 = 0 from rfl, List.take_zero, List.any_nil, Bool.or_false]; first | exact (decide_eq_true (.inl (by omega))).symm | exact (decide_eq_true (.inr (.inl (by dsimp only; omega)))).symm | exact knB_eq (by omega) (by omega) (by assumption))
                      | (clear iha ihb; simp (disch := omega) only [ho, std, wI]; refine ⟨by subst ho; exact j0, j1, by omega, by omega, ?_⟩; rw [any_succ j2 (by omega), ← Bool.or_assoc, ← j4, show b12 = true by assumption]; rfl)
                      | (clear iha ihb; simp (disch := omega) only [ho, std, wI]; refine ⟨by subst ho; exact j0, j1, by omega, by omega, ?_⟩; rw [any_succ j2 (by omega), ← Bool.or_assoc, ← j4, show b12 = false by assumption, hy, Bool.false_or]; exact eqBd _ _ _ _)
                      | (clear iha ihb; rw [take_allG (i := b50) (by omega)] at j4; simp (disch := omega) only [ho, std, wI]; first | exact congrArg eBd (outerN_keep i1 i3 hq (by rw [← j4]; assumption)).symm | exact push_eBd (x := ⟨q0, q1⟩) (outerN_push i1 i3 hq (by rw [← j4]; assumption)))
                      | assumption
                      | omega
                      | (subst ho; simpa [std, lenE] using hl')
                      | (subst ho; simp [std, lenE]; omega)
                      | (subst ho; simp (disch := omega) only [std, wI, tdiv2, tdivN, lenE] <;> first | done | rfl | omega))))
              | (refine .fin ?_; (conv => lhs; cbv); refine congrArg some ?_))
          | ((fail_if_success (refine .id ?_))
             first
              | (exact Lv.nil)
              | (subst ho; refine congrArg (D.sl Tok.ro 2) (congrArg eBd ?_); unfold outerM; rw [← i1, ← i2]; congr 1; omega)
              | (subst ho; rw [show v0 - v0 = 0 by omega]; rfl)
              | (simp only [Prod.mk.injEq] at hv; obtain ⟨e1, e2⟩ := hv; exact ⟨e1.symm, e2.symm, Int.le_refl _, by omega⟩)
              | assumption
              | omega))))
  | ((fail_if_success (refine .id ?_))
     first
      | assumption))
theorem impl_flower_call.gns {xa xb : Option (List D → Option D)} (o : Std) (ho : o = std) (l : List Nd) (us : List Bd) (dp : Int) (fs m : List Fc) (t : Tok) (tk : List Nat) (hl : Lw tk t (o.bx fun _ => eFc m).length) (i : Int) (c : Int) (f_k : Int) (f_n : Int) (f_c : Int) (b_k : Int) (b_n : Int) (b_c : Int) (h0 : Fok l fs) (h1 : Lok l us) (h2 : 0 ≤ f_n ∧ f_n < l.length) (h3 : lamB (rN l f_n) = true) (h4 : m.length + 400000 ≤ 2900000000000) : Gns (env xa xb) 258 [.pbx (.out 0) 0, iX i, iX c, .agg [iX f_k, iX f_n, iX f_c], .agg [iX b_k, iX b_n, iX b_c]] [[cells5 (o.bx fun _ => eNd l) (o.bx fun _ => eBd us) dp (o.bx fun _ => eFc fs) t (o.bx fun _ => eFc m)]] tk (FR o l us dp fs (m ++ (callI l us dp fs i c ⟨f_k, f_n, f_c⟩ ⟨b_k, b_n, b_c⟩)) (.tup [])) := by
 refine Gns.mkA (E := env xa xb) (f := 258) ho _ (by rfl) (by rfl) ?_
 have hF := h0; have hK := h1; have hu := h0.up; have hL := h0.len; have hp := h0.pos; have hL2 : fs.length ≤ 2900000000000 := (by omega); have har := lam_ar h3; have hlo := len_outerM hK h2 h3
 repeat' (first
  | (refine .id ?_
     (try (conv => arg 2; cbv))
     first
      | (refine .pE (β := Int) (fun v => iX v) (as' := [iX _, iX _, iX _]) (impl_CtxPush.ans o ho _ _ _) ?_; rintro v hv)
      | (refine .pE (β := Bd) (fun v => .agg ([iX v.f0, iX v.f1])) (as' := [rNd o _, iX _]) (impl_given.ans o ho _ _ ?_) ?_; rotate_left 1; rintro ⟨v0, v1⟩ hv)
      | (refine .pE (β := Plc) (fun v => .agg ([iX v.k, iX v.n, iX v.c])) (as' := [.agg [iX _, iX _], iX _]) (impl_nameAt.ans o ho _ _ _) ?_; rintro ⟨v0, v1, v2⟩ hv)
      | (refine .gcF ho (β := Unit) (r := ()) (fun v => .tup []) (.out 0) (xs := [.pbx (.out 0) 0, .agg [iX _, iX _, iX _], .agg [iX _, iX _, iX _]]) (by rfl) (by rfl) (by rfl) (fun t0 tk0 hl0 => impl_flower_flow.gns o ho _ _ _ _ _ t0 tk0 hl0 _ _ _ _ _ _ ?_ ?_) ?_ ?_; rotate_left 3; rintro _ t' tk' _ hl')
      | (refine .pE (β := List Bd) (rBd o) (as' := [rNd o _, rBd o _, iX _]) (impl_outerOf.ans o ho _ _ _ ?_ ?_ ?_) ?_; rotate_left 3; rintro v hv)
      | (refine .fetchXNd ho ?_ ?_ (fun y hy => ?_); rotate_left 2; rcases y with ⟨y0, y1, y2, y3, y4, y5, y6⟩)
      | (refine .needD ho (by kernel_rfl) ?_)
      | (refine .indF (fun m_ s_ => ∃ (a10 : Int) (a11 : Int) (a52 : List Bd) (a53 : Int) (a54 : Int) (ema : Box) (ta52 ua : Tok) (tk : List Nat), s_ = ⟨[.pbx (.out 0) 0, iX i, iX c, Jk, Jk, Jk, Jk, Jk, .pbx (.loc 0) 0, Jk, iX a10, iX a11, Jk, Jk, Jk, Jk, Jk, Jk, Jk, Jk, Jk, Jk, Jk, Jk, Jk, Jk, Jk, Jk, Jk, Jk, Jk, Jk, Jk, Jk, Jk, Jk, Jk, Jk, Jk, Jk, Jk, Jk, Jk, Jk, Jk, Jk, Jk, Jk, Jk, Jk, Jk, Jk, .sl ta52 2 (o.bx fun _ => eBd a52), iX a53, iX a54] ++ List.replicate 31 Jk, [[[iX f_k, iX f_n, iX f_c]], [[iX b_k, iX b_n, iX b_c]]], [[cells5 (o.bx fun _ => eNd l) (o.bx fun _ => eBd us) dp (o.bx fun _ => eFc fs) ua ema]], tk⟩ ∧ Lw tk ua ema.length ∧ ema = (o.bx fun _ => eFc (m ++ (flowP fs ⟨b_k, b_n, b_c⟩ (nameAt (givenM l f_n) (ctxPush c i dp)) ++ (a52.take a54.toNat).flatMap (fun x => flowP fs (nameAt x f_c) (nameAt x (ctxPush c i dp)))))) ∧ (a10 = ctxPush c i dp ∧ a11 = (rN l f_n).f1 ∧ a52 = outerM l us f_n ∧ a53 = a52.length ∧ 0 ≤ a54 ∧ a54 ≤ a52.length) ∧ (a52.length - a54).toNat ≤ m_) _ _ ⟨_, _, _, _, _, _, _, _, _, by subst ho; rfl, ?_, ?_, ?_, Nat.le_refl _⟩ ?_
         rotate_right
         rintro m_ _ ⟨a10, a11, a52, a53, a54, ema, ta52, ua, tk, rfl, hla0, rfl, hIa, hka⟩ iha
         obtain ⟨i1, i2, i3, i4, i5, i6⟩ := hIa; have hw := len_outerFl (us := us) hF (a52.take a54.toNat) f_c (ctxPush c i dp); have hw2 := len_flowPI hF ⟨b_k, b_n, b_c⟩ (nameAt (givenM l f_n) (ctxPush c i dp)); have hw3 := List.length_take_le a54.toNat a52; rw [← i3] at hlo; refine .unloopA ho ?_
         repeat' (first
          | (refine .id ?_
             (try (conv => arg 2; cbv))
             first
              | (refine .test (fun hr => ?_) (fun hr => ?_) <;> (have hb := hr) <;> (try simp (disch := omega) only [ho, std, wI, lenE, nrm] at hb) <;> (try (exfalso; first | contradiction | omega | exact hb rfl)))
              | (refine .pE (β := Plc) (fun v => .agg ([iX v.k, iX v.n, iX v.c])) (as' := [.agg [iX _, iX _], iX _]) (impl_nameAt.ans o ho _ _ _) ?_; rintro ⟨v0, v1, v2⟩ hv)
              | (refine .gcF ho (β := Unit) (r := ()) (fun v => .tup []) (.out 0) (xs := [.pbx (.out 0) 0, .agg [iX _, iX _, iX _], .agg [iX _, iX _, iX _]]) (by rfl) (by rfl) (by rfl) (fun t0 tk0 hl0 => impl_flower_flow.gns o ho _ _ _ _ _ t0 tk0 hl0 _ _ _ _ _ _ ?_ ?_) ?_ ?_; rotate_left 3; rintro _ t' tk' _ hl')
              | (refine .gcF ho (β := Unit) (r := ()) (fun v => .tup []) (.out 0) (xs := [.pbx (.out 0) 0, iX _, iX _]) (by rfl) (by rfl) (by rfl) (fun t0 tk0 hl0 => impl_flower_see.gns o ho _ _ _ _ _ t0 tk0 hl0 _ _ ?_) ?_ ?_; rotate_left 2; rintro _ t' tk' _ hl')
              | (refine .gcF ho (β := Unit) (r := ()) (fun v => .tup []) (.out 0) (xs := [.pbx (.out 0) 0, iX _, iX _, iX _, iX _]) (by rfl) (by rfl) (by rfl) (fun t0 tk0 hl0 => impl_flower_raise.gns o ho _ _ _ _ _ t0 tk0 hl0 _ _ _ _ ?_ ?_) ?_ ?_; rotate_left 3; rintro _ t' tk' _ hl')
              | (refine .fetchXBd ho ?_ ?_ (fun y hy => ?_); rotate_left 2; rcases y with ⟨y0, y1⟩)
              | (refine .needD ho (by kernel_rfl) ?_)
              | (refine iha _ _ ?_ ⟨_, _, _, _, _, _, _, _, _, by subst ho; rfl, ?_, ?_, ?_, Nat.le_refl _⟩)
              | (refine .fin ?_; refine ⟨_, by (conv => lhs; cbv) <;> rfl, ?_, _, _, by rfl, ?_, ?_⟩; first | (focus ((conv => lhs; cbv); done)) | ((conv => lhs; cbv); refine congrArg some ?_)))
          | ((fail_if_success (refine .id ?_))
             first
              | (subst ho; exact hl')
              | (subst ho; exact hla0)
              | (rw [List.length_append, List.length_append]; omega)
              | (have hq := len_flowI hF 0 a11 a10 0 i c; have hs : (seeL a11 a10).length = 1 := rfl; simp only [List.length_append]; omega)
              | (subst ho; refine congrArg eFc ?_; rw [take_allG (by omega), i3, i1, i2]; simp only [callI, List.append_assoc]; done)
              | (subst ho; refine congrArg eFc ?_; simp [flowP, *]; done)
              | (subst ho; refine ⟨Eq.symm (by assumption), by rw [show rN l f_n = _ by assumption], Eq.symm (by assumption), by simp [std, len_eBd], Int.le_refl _, by omega⟩)
              | (simp (disch := omega) only [ho, std, wI]; exact ⟨i1, i2, i3, i4, by omega, by omega⟩)
              | (subst ho; refine congrArg eFc ?_; simp (disch := omega) only [std, wI]; rw [flatMap_succ _ zBd i5 (by omega), show rdG zBd a52 a54 = ⟨y0, y1⟩ from (by assumption : rB a52 a54 = ⟨y0, y1⟩)]; simp only [flowP, ← i1, show nameAt ⟨y0, y1⟩ f_c = _ by assumption, show nameAt ⟨y0, y1⟩ a10 = _ by assumption, List.append_assoc])
              | assumption
              | omega
              | (subst ho; simp (disch := omega) only [std, wI, tdiv2, tdivN, lenE] <;> first | done | rfl | omega)))))
  | ((fail_if_success (refine .id ?_))
     first
      | (subst ho; exact hl)
      | assumption
      | omega))
end Go.Mach
