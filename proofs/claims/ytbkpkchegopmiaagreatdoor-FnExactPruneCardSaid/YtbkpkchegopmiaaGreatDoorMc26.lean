/- What the statements share: part 26 of a proof by an executable machine over the program's code. -/
import Derived.Test.YtbkpkchegopmiaaGreatDoorMc25
set_option linter.unusedVariables false
set_option linter.unusedSimpArgs false
set_option maxRecDepth 100000
set_option maxHeartbeats 6000000
namespace Go.Mach
open Go Go.RowKit Go.Proofs
theorem impl_flower_other.gns {xa xb : Option (List D → Option D)} (o : Std) (ho : o = std) (l : List Nd) (us : List Bd) (dp : Int) (fs m : List Fc) (t : Tok) (tk : List Nat) (hl : Lw tk t (o.bx fun _ => eFc m).length) (i : Int) (c : Int) (n_f0 : Int) (n_f1 : Int) (n_f2 : Int) (n_f3 : Int) (n_f4 : Int) (n_f5 : ByteArray) (n_f6 : ByteArray) (h0 : Fok l fs) (h1 : Lok l us) (h2 : m.length + 965000000 ≤ 2900000000000) : Gns (env xa xb) 188 [.pbx (.out 0) 0, iX i, iX c, .agg [iX n_f0, iX n_f1, iX n_f2, iX n_f3, iX n_f4, .str n_f5, .str n_f6]] [[cells5 (o.bx fun _ => eNd l) (o.bx fun _ => eBd us) dp (o.bx fun _ => eFc fs) t (o.bx fun _ => eFc m)]] tk (FR o l us dp fs (m ++ (otherI l us dp fs i c (⟨n_f0, n_f1, n_f2, n_f3, n_f4, n_f5, n_f6⟩ : Nd))) (.tup [])) := by
 refine Gns.mkA (E := env xa xb) (f := 188) ho _ (by rfl) (by rfl) ?_
 have hF := h0; have hK := h1; have hu := h0.up; have hL := h0.len; have hp := h0.pos; have hL2 : fs.length ≤ 2900000000000 := (by omega)
 repeat' (first
  | (refine .id ?_
     (try (conv => arg 2; cbv))
     first
      | (refine .gcF ho (β := Unit) (r := ()) (fun v => .tup []) (.out 0) (xs := [.pbx (.out 0) 0, iX _, iX _]) (by rfl) (by rfl) (by rfl) (fun t0 tk0 hl0 => impl_flower_see.gns o ho _ _ _ _ _ t0 tk0 hl0 _ _ ?_) ?_ ?_; rotate_left 2; rintro _ t' tk' _ hl')
      | (refine .pE (β := List Int) (rK o) (as' := [.agg [iX _, iX _, iX _, iX _, iX _, .str _, .str _]]) (impl_Kids.ans o ho _ _ _ _ _ _ _) ?_; rintro v hv)
      | (refine .indF (fun m_ s_ => ∃ (a20 : List Int) (a21 : Int) (a22 : Int) (ema : Box) (ta20 ua : Tok) (tk : List Nat), s_ = ⟨[.pbx (.out 0) 0, iX i, iX c, Jk, Jk, Jk, Jk, .pbx (.loc 0) 0, Jk, Jk, Jk, Jk, Jk, Jk, Jk, Jk, Jk, Jk, Jk, Jk, .sl ta20 1 (o.bx fun _ => eK .i64 a20), iX a21, iX a22] ++ List.replicate 115 Jk, [[[iX n_f0, iX n_f1, iX n_f2, iX n_f3, iX n_f4, .str n_f5, .str n_f6]]], [[cells5 (o.bx fun _ => eNd l) (o.bx fun _ => eBd us) dp (o.bx fun _ => eFc fs) ua ema]], tk⟩ ∧ Lw tk ua ema.length ∧ ema = (o.bx fun _ => eFc (m ++ (seeL n_f1 c ++ (a20.zipIdx.take a22.toNat).flatMap (kidI fs n_f0 i c)))) ∧ (a20 = kidsM (⟨n_f0, n_f1, n_f2, n_f3, n_f4, n_f5, n_f6⟩ : Nd) ∧ a21 = a20.length ∧ 0 ≤ a22 ∧ a22 ≤ a20.length) ∧ (a20.length - a22).toNat ≤ m_) _ _ ⟨_, _, _, _, _, _, _, by subst ho; rfl, ?_, ?_, ?_, Nat.le_refl _⟩ ?_
         rotate_right
         rintro m_ _ ⟨a20, a21, a22, ema, ta20, ua, tk, rfl, hla0, rfl, hIa, hka⟩ iha
         obtain ⟨i1, i2, i3, i4⟩ := hIa; have hz := len_kidsM (⟨n_f0, n_f1, n_f2, n_f3, n_f4, n_f5, n_f6⟩ : Nd); rw [← i1] at hz; have hz2 := arityM_le n_f0; dsimp only at hz; have hw := len_flatMap_le _ 1 (fun v => len_kidI fs n_f0 i c v) (a20.zipIdx.take a22.toNat); have hw3 := List.length_take_le a22.toNat a20.zipIdx; have hsl : (seeL n_f1 c).length = 1 := rfl; refine .unloopA ho ?_
         repeat' (first
          | (refine .id ?_
             (try (conv => arg 2; cbv))
             first
              | refine .testT ?_
              | refine .t1 ?_
              | refine .t0 ?_
              | (refine .test (fun hr => ?_) (fun hr => ?_) <;> (have hb := hr) <;> (try simp (disch := omega) only [ho, std, wI, lenE, nrm] at hb) <;> (try (exfalso; first | contradiction | omega | exact hb rfl)))
              | (refine .gcF ho (β := Unit) (r := ()) (fun v => .tup []) (.out 0) (xs := [.pbx (.out 0) 0, iX _, iX _]) (by rfl) (by rfl) (by rfl) (fun t0 tk0 hl0 => impl_flower_see.gns o ho _ _ _ _ _ t0 tk0 hl0 _ _ ?_) ?_ ?_; rotate_left 2; rintro _ t' tk' _ hl')
              | (refine .gcF ho (β := Unit) (r := ()) (fun v => .tup []) (.out 0) (xs := [.pbx (.out 0) 0, iX _, iX _, iX _, iX _]) (by rfl) (by rfl) (by rfl) (fun t0 tk0 hl0 => impl_flower_raise.gns o ho _ _ _ _ _ t0 tk0 hl0 _ _ _ _ ?_ ?_) ?_ ?_; rotate_left 3; rintro _ t' tk' _ hl')
              | (refine .gcF ho (β := List Ab) (rAb o) (.out 0) (xs := [.pbx (.out 0) 0, .agg [iX _, iX _, iX _]]) (by rfl) (by rfl) (by rfl) (fun t0 tk0 hl0 => impl_flower_values.gns o ho _ _ _ _ _ t0 tk0 hl0 _ _ _ ?_) ?_ ?_; rotate_left 2; rintro v t' tk' hv hl')
              | (refine .gcF ho (β := Unit) (r := ()) (fun v => .tup []) (.out 0) (xs := [.pbx (.out 0) 0, iX _, iX _, .agg [iX _, iX _, iX _, iX _, iX _, .str _, .str _], .agg [iX _, iX _, iX _], .agg [iX _, iX _, iX _]]) (by rfl) (by rfl) (by rfl) (fun t0 tk0 hl0 => impl_flower_both.gns o ho _ _ _ _ _ t0 tk0 hl0 _ _ _ _ _ _ _ _ _ _ _ _ _ _ _ ?_ ?_ ?_) ?_ ?_; rotate_left 4; rintro _ t' tk' _ hl')
              | (refine .gcF ho (β := Unit) (r := ()) (fun v => .tup []) (.out 0) (xs := [.pbx (.out 0) 0, .agg [iX _, iX _, iX _], .agg [iX _, iX _, iX _]]) (by rfl) (by rfl) (by rfl) (fun t0 tk0 hl0 => impl_flower_flow.gns o ho _ _ _ _ _ t0 tk0 hl0 _ _ _ _ _ _ ?_ ?_) ?_ ?_; rotate_left 3; rintro _ t' tk' _ hl')
              | (refine .gcF ho (β := List Ab) (rAb o) (.out 0) (xs := [.pbx (.out 0) 0, .agg [iX _, iX _, iX _], iX _]) (by rfl) (by rfl) (by rfl) (fun t0 tk0 hl0 => impl_flower_those.gns o ho _ _ _ _ _ t0 tk0 hl0 _ _ _ _ ?_) ?_ ?_; rotate_left 2; rintro v t' tk' hv hl')
              | (refine .gcF ho (β := Unit) (r := ()) (fun v => .tup []) (.out 0) (xs := [.pbx (.out 0) 0, iX _, iX _, .agg [iX _, iX _, iX _, iX _, iX _, .str _, .str _], .agg [iX _, iX _, iX _]]) (by rfl) (by rfl) (by rfl) (fun t0 tk0 hl0 => impl_flower_match.gns o ho _ _ _ _ _ t0 tk0 hl0 _ _ _ _ _ _ _ _ _ _ _ _ ?_ ?_ ?_) ?_ ?_; rotate_left 4; rintro _ t' tk' _ hl')
              | (refine .gcF ho (β := Unit) (r := ()) (fun v => .tup []) (.out 0) (xs := [.pbx (.out 0) 0, iX _, iX _, .agg [iX _, iX _, iX _, iX _, iX _, .str _, .str _], .agg [iX _, iX _, iX _]]) (by rfl) (by rfl) (by rfl) (fun t0 tk0 hl0 => impl_flower_one.gns o ho _ _ _ _ _ t0 tk0 hl0 _ _ _ _ _ _ _ _ _ _ _ _ ?_ ?_ ?_) ?_ ?_; rotate_left 4; rintro _ t' tk' _ hl')
              | (refine .fetchXK ho ?_ ?_ (fun y hy => ?_); rotate_left 2)
              | (refine .needD ho (by kernel_rfl) ?_)
              | (refine iha _ _ ?_ ⟨_, _, _, _, _, _, _, by subst ho; rfl, ?_, ?_, ?_, Nat.le_refl _⟩)
              | (refine .fin ?_; refine ⟨_, by (conv => lhs; cbv) <;> rfl, ?_, _, _, by rfl, ?_, ?_⟩; first | (focus ((conv => lhs; cbv); done)) | ((conv => lhs; cbv); refine congrArg some ?_)))
          | ((fail_if_success (refine .id ?_))
             first
              | (subst ho; exact hl')
              | (subst ho; exact hla0)
              | (rw [List.length_append, List.length_append]; omega)
              | (have hq1 := len_flowI hF; have hq2 := hq1 0 n_f2 c 0 i c; have hq3 := hq1 0 n_f3 c 0 i c; have hq4 := hq1 0 n_f1 c 1 i c; have hq5 : ∀ a b, (seeL a b).length = 1 := fun a b => rfl; simp only [List.length_append, hq5]; omega)
              | (subst ho; exact ⟨Eq.symm (by assumption), by simp [std, len_eK], Int.le_refl _, by omega⟩)
              | (simp (disch := omega) only [ho, std, wI]; exact ⟨i1, i2, by omega, by omega⟩)
              | (subst ho; refine congrArg eFc ?_; simp; done)
              | (simp (disch := omega) only [ho, std, wI]; refine congrArg eFc ?_; rw [flatMap_succ _ (0, 0) i3 (by simp; omega), rd_zipIdx i3 (by omega), hy, kidI]; first | (rw [if_pos (by dsimp only; omega)]; simp only [List.append_assoc]; done) | (rw [if_neg (by dsimp only; omega)]; simp only [List.append_nil]; done))
              | ((try clear iha); subst ho; (try refine congrArg eFc ?_); rw [take_allG (by simp; omega), i1]; (try first | (have e1 : (vals fs 0 n_f1 c).isEmpty = true := emp_t (by assumption) (by assumption)) | (have e1 : (vals fs 0 n_f1 c).isEmpty = false := emp_f (by assumption) (by assumption))); (try rw [show (vals fs 0 n_f1 c) = _ by assumption] at e1); (try first | (have e2 : (thoseL fs 0 n_f1 c 0).isEmpty = true := emp_t (by assumption) (by assumption)) | (have e2 : (thoseL fs 0 n_f1 c 0).isEmpty = false := emp_f (by assumption) (by assumption))); (try rw [show (thoseL fs 0 n_f1 c 0) = _ by assumption] at e2); unfold otherI; simp [*, flowP]; done)
              | assumption
              | omega
              | (subst ho; simp (disch := omega) only [std, wI, tdiv2, tdivN, lenE] <;> first | done | rfl | omega)))))
  | ((fail_if_success (refine .id ?_))
     first
      | (subst ho; exact hl)
      | omega))
theorem impl_flower_node.gns {xa xb : Option (List D → Option D)} (o : Std) (ho : o = std) (l : List Nd) (us : List Bd) (dp : Int) (fs m : List Fc) (t : Tok) (tk : List Nat) (hl : Lw tk t (o.bx fun _ => eFc m).length) (i : Int) (c : Int) (h0 : Fok l fs) (h1 : Lok l us) (h2 : 0 ≤ i ∧ i < l.length) (h3 : m.length + 970000000 ≤ 2900000000000) : Gns (env xa xb) 145 [.pbx (.out 0) 0, iX i, iX c] [[cells5 (o.bx fun _ => eNd l) (o.bx fun _ => eBd us) dp (o.bx fun _ => eFc fs) t (o.bx fun _ => eFc m)]] tk (FR o l us dp fs (m ++ (nodeI l us dp fs i c)) (.tup [])) := by
 refine Gns.mkA (E := env xa xb) (f := 145) ho _ (by rfl) (by rfl) ?_
 have hF := h0; have hK := h1; have hu := h0.up; have hL := h0.len; have hp := h0.pos; have hL2 : fs.length ≤ 2900000000000 := (by omega); have hus := h1.uses
 repeat' (first
  | (refine .id ?_
     (try (conv => arg 2; cbv))
     first
      | (refine .test (fun hr => ?_) (fun hr => ?_) <;> (have hb := hr) <;> (try simp (disch := omega) only [ho, std, wI, lenE, nrm] at hb) <;> (try (exfalso; first | contradiction | omega | exact hb rfl)))
      | (refine .pE (β := Plc) (fun v => .agg ([iX v.k, iX v.n, iX v.c])) (as' := [.agg [iX _, iX _], iX _]) (impl_nameAt.ans o ho _ _ _) ?_; rintro ⟨v0, v1, v2⟩ hv)
      | (refine .gcF ho (β := Unit) (r := ()) (fun v => .tup []) (.out 0) (xs := [.pbx (.out 0) 0, .agg [iX _, iX _, iX _], .agg [iX _, iX _, iX _]]) (by rfl) (by rfl) (by rfl) (fun t0 tk0 hl0 => impl_flower_flow.gns o ho _ _ _ _ _ t0 tk0 hl0 _ _ _ _ _ _ ?_ ?_) ?_ ?_; rotate_left 3; rintro _ t' tk' _ hl')
      | (refine .gcF ho (β := Unit) (r := ()) (fun v => .tup []) (.out 0) (xs := [.pbx (.out 0) 0, .agg [iX _, iX _, iX _], .agg [iX _, iX _, iX _]]) (by rfl) (by rfl) (by rfl) (fun t0 tk0 hl0 => impl_flower_add.gns o ho _ _ _ _ _ t0 tk0 hl0 _ _ _ _ _ _ ?_) ?_ ?_; rotate_left 2; rintro _ t' tk' _ hl')
      | (refine .gcF ho (β := Unit) (r := ()) (fun v => .tup []) (.out 0) (xs := [.pbx (.out 0) 0, iX _, iX _]) (by rfl) (by rfl) (by rfl) (fun t0 tk0 hl0 => impl_flower_see.gns o ho _ _ _ _ _ t0 tk0 hl0 _ _ ?_) ?_ ?_; rotate_left 2; rintro _ t' tk' _ hl')
      | (refine .gcF ho (β := Unit) (r := ()) (fun v => .tup []) (.out 0) (xs := [.pbx (.out 0) 0, iX _, iX _, iX _, iX _]) (by rfl) (by rfl) (by rfl) (fun t0 tk0 hl0 => impl_flower_raise.gns o ho _ _ _ _ _ t0 tk0 hl0 _ _ _ _ ?_ ?_) ?_ ?_; rotate_left 3; rintro _ t' tk' _ hl')
      | (refine .gcF ho (β := Unit) (r := ()) (fun v => .tup []) (.out 0) (xs := [.pbx (.out 0) 0, iX _, iX _, .agg [iX _, iX _, iX _, iX _, iX _, .str _, .str _]]) (by rfl) (by rfl) (by rfl) (fun t0 tk0 hl0 => impl_flower_other.gns o ho _ _ _ _ _ t0 tk0 hl0 _ _ _ _ _ _ _ _ _ ?_ ?_ ?_) ?_ ?_; rotate_left 4; rintro _ t' tk' _ hl')
      | (refine .fetchXNd ho ?_ ?_ (fun y hy => ?_); rotate_left 2; rcases y with ⟨y0, y1, y2, y3, y4, y5, y6⟩)
      | (refine .fetchXBd ho ?_ ?_ (fun y hy => ?_); rotate_left 2; rcases y with ⟨y0, y1⟩)
      | (refine .needD ho (by kernel_rfl) ?_)
      | (refine .fin ?_; refine ⟨_, by (conv => lhs; cbv) <;> rfl, ?_, _, _, by rfl, ?_, ?_⟩; first | (focus ((conv => lhs; cbv); done)) | ((conv => lhs; cbv); refine congrArg some ?_)))
  | ((fail_if_success (refine .id ?_))
     first
      | (subst ho; exact hl)
      | (subst ho; exact hl')
      | (have hq1 := len_flowI hF; have hq2 := hq1 0 y2 c 0 i c; have hq5 : ∀ a b, (seeL a b).length = 1 := fun a b => rfl; simp only [List.length_append, List.length_cons, List.length_nil, hq5]; omega)
      | ((try clear iha); subst ho; (try refine congrArg eFc ?_); unfold nodeI; simp [*, flowP]; done)
      | assumption
      | omega))
noncomputable def impl_pass_pre.fi : FnI := { fni Tryz.f118 (fun | 3 => [3, 10, 20, 21, 22] | _ => []) false with body := takeC 3 (bodyOf Tryz.f118) }
theorem impl_pass_pre.part {xa xb : Option (List D → Option D)} (o : Std) (ho : o = std) (l : List Nd) (us : List Bd) (dp : Int) (fs : List Fc) (h0 : Fok l fs) (h1 : Lok l us) : AnsI (env xa xb) impl_pass_pre.fi .normal (fun s => if s.t.length = 50 then s.t[13]? else none) [rNd o l, rBd o us, iX dp, rFc o fs] (fun d_ tk_ => ∃ (tq : Tok) , d_ = .sl tq 6 (o.bx fun _ => eFc (moreI l us dp fs ++ fs)) ∧ (Lw tk_ tq (moreI l us dp fs ++ fs).length)) := by
 refine AnsI.mkA ho (by rfl) ?_
 have hs := h1.size; have hfl := h0.len
 repeat' (first
  | (refine .id ?_
     (try (conv => arg 2; cbv))
     first
      | (refine .indF (fun m_ s_ => ∃ (a21 : Int) (a22 : Int) (tk : List Nat) (ua : Tok) (ema : Box), s_ = ⟨[Jk, Jk, Jk, rFc o fs, Jk, Jk, Jk, Jk, Jk, Jk, .pbx (.loc 0) 0, Jk, Jk, Jk, Jk, Jk, Jk, Jk, Jk, Jk, rFc o fs, iX a21, iX a22] ++ List.replicate 27 Jk, [[cells5 (o.bx fun _ => eNd l) (o.bx fun _ => eBd us) dp (o.bx fun _ => eFc fs) ua ema]], [], tk⟩ ∧ (Lw tk ua ema.length ∧ ema = (o.bx fun _ => eFc (moreT l us dp fs (fs.take a22.toNat))) ∧ a21 = fs.length ∧ 0 ≤ a22 ∧ a22 ≤ fs.length) ∧ (fs.length - a22).toNat ≤ m_) _ _ ⟨_, _, _, _, _, by subst ho; rfl, ?_, Nat.le_refl _⟩ ?_
         rotate_right
         rintro m_ _ ⟨a21, a22, tk, ua, ema, rfl, hIa, hka⟩ iha
         obtain ⟨hla0, rfl, i1, i2, i3⟩ := hIa; have hml := len_moreT2 h0 h1 dp a22.toNat; refine .unloopA ho ?_
         repeat' (first
          | (refine .id ?_
             (try (conv => arg 2; cbv))
             first
              | (refine .test (fun hr => ?_) (fun hr => ?_) <;> (have hb := hr) <;> (try simp (disch := omega) only [ho, std, wI, lenE, nrm] at hb) <;> (try (exfalso; first | contradiction | omega | exact hb rfl)))
              | (refine .gcF ho (β := Unit) (r := ()) (fun v => .tup []) (.loc 0) (xs := [.pbx (.out 0) 0, iX _, iX _]) (by rfl) (by rfl) (by rfl) (fun t0 tk0 hl0 => impl_flower_node.gns o ho _ _ _ _ _ t0 tk0 hl0 _ _ ?_ ?_ ?_ ?_) ?_ ?_; rotate_left 5; rintro _ t' tk' _ hl')
              | (refine .fetchXFc ho ?_ ?_ (fun y hy => ?_); rotate_left 2; rcases y with ⟨yk, yn, yc, yvk, yvn, yvc⟩; (have hyf := hy))
              | (refine .need ?_ ?_)
              | (refine .app1w ?_ (fun t' tk' hl' => ?_))
              | (refine iha _ _ ?_ ⟨_, _, _, _, _, by subst ho; rfl, ?_, Nat.le_refl _⟩)
              | (refine .done ⟨rfl, ?_⟩; refine ⟨_, by (conv => lhs; cbv) <;> rfl, ?_⟩))
          | ((fail_if_success (refine .id ?_))
             first
              | (subst ho; exact hla0)
              | (subst ho; exact ⟨.nil, rfl, by simp [std, len_eFc], Int.le_refl _, by omega⟩)
              | (subst ho; have he : a22.toNat = fs.length := (by omega); have e : moreT l us dp fs (fs.take a22.toNat) = moreI l us dp fs := (by rw [he, List.take_length, moreT_all]); rw [← e]; refine ⟨t', congrArg (D.sl t' 6) (by simp [std, eFc]), ?_⟩; show Lw tk' t' (moreT l us dp fs (fs.take a22.toNat) ++ fs).length; simpa [std, len_eFc] using hl')
              | (exact rF_node h0 i2 (by omega) hyf)
              | (subst ho; simp (disch := omega) only [std, wI]; exact ⟨hla0, congrArg eFc (moreT_miss i2 (by omega) hyf (by assumption)).symm, i1, by omega, by omega⟩)
              | (subst ho; simp (disch := omega) only [std, wI]; exact ⟨hl', congrArg eFc (moreT_hit i2 (by omega) hyf (by assumption)).symm, i1, by omega, by omega⟩)
              | assumption
              | omega
              | (subst ho; simp [std, lenE]; omega)
              | (subst ho; simp (disch := omega) only [std, wI, tdiv2, tdivN, lenE] <;> first | done | rfl | omega)))))
  | ((fail_if_success (refine .id ?_))
     first
      | fail))
theorem impl_bindsIn.ans {xa xb : Option (List D → Option D)} (o : Std) (ho : o = std) (n_f0 : Int) (n_f1 : Int) (n_f2 : Int) (n_f3 : Int) (n_f4 : Int) (n_f5 : ByteArray) (n_f6 : ByteArray) (kid : Int) : Ans (env xa xb) 182 [.agg [iX n_f0, iX n_f1, iX n_f2, iX n_f3, iX n_f4, .str n_f5, .str n_f6], iX kid] (.tup [rTx o ((bindM (⟨n_f0, n_f1, n_f2, n_f3, n_f4, n_f5, n_f6⟩ : Nd) kid).1), rK o ((bindM (⟨n_f0, n_f1, n_f2, n_f3, n_f4, n_f5, n_f6⟩ : Nd) kid).2)]) := by
 refine Ans.mkA ho _ rfl rfl ?_
 repeat' (first
  | (refine .id ?_
     (try (conv => arg 2; cbv))
     first
      | refine .testT ?_
      | refine .testF ?_
      | refine .t1 ?_
      | refine .t0 ?_
      | (refine .test (fun hr => ?_) (fun hr => ?_) <;> (have hb := hr) <;> (try simp (disch := omega) only [ho, std, wI, lenE, nrm] at hb) <;> (try (exfalso; first | contradiction | omega | exact hb rfl)))
      | (refine .fin ?_; (conv => lhs; cbv); refine congrArg some ?_))
  | ((fail_if_success (refine .id ?_))
     first
      | (subst ho; unfold bindM; dsimp only; first | (rw [if_pos (by omega)]; rfl) | (rw [if_neg (by omega), if_pos (by omega)]; rfl) | (rw [if_neg (by omega), if_neg (by omega), if_pos (by omega)]; rfl) | (rw [if_neg (by omega), if_neg (by omega), if_neg (by omega)]; rfl))))
theorem impl_parents.ans {xa xb : Option (List D → Option D)} (o : Std) (ho : o = std) (l : List Nd) (h0 : OkT l) : Ans (env xa xb) 104 [rNd o l] (rK o (parsM l)) := by
 refine Ans.mkA ho _ rfl rfl ?_
 have hs := h0.size
 repeat' (first
  | (refine .id ?_
     (try (conv => arg 2; cbv))
     first
      | (refine .need ?_ ?_)
      | (refine .indF (fun m_ s_ => ∃ (a13 : Int) (a14 : Int) (tk : List Nat) (bx0 : Box) (nn : Nat), s_ = ⟨[rNd o l, Jk, Jk, .asl (.loc 0) 1 nn, Jk, Jk, Jk, Jk, Jk, Jk, Jk, Jk, Jk, iX a13, iX a14] ++ List.replicate 27 Jk, [bx0], [], tk⟩ ∧ (bx0 = (o.bx fun _ => eK .i64 (List.replicate a14.toNat (-1) ++ List.replicate (l.length - a14.toNat) 0)) ∧ nn = l.length ∧ a13 = l.length ∧ 0 ≤ a14 ∧ a14 ≤ l.length) ∧ (l.length - a14).toNat ≤ m_) _ _ ⟨_, _, _, _, _, by subst ho; rfl, ?_, Nat.le_refl _⟩ ?_
         rotate_right
         rintro m_ _ ⟨a13, a14, tk, bx0, nn, rfl, hIa, hka⟩ iha
         obtain ⟨rfl, hnn, h17, i1, i2⟩ := hIa; have hbl : (List.replicate a14.toNat (-1 : Int) ++ List.replicate (l.length - a14.toNat) 0).length = l.length := (by simp; omega); refine .unloopA ho ?_
         repeat' (first
          | (refine .id ?_
             (try (conv => arg 2; cbv))
             first
              | (refine .test (fun hr => ?_) (fun hr => ?_) <;> (have hb := hr) <;> (try simp (disch := omega) only [ho, std, wI, lenE, nrm] at hb) <;> (try (exfalso; first | contradiction | omega | exact hb rfl)))
              | (refine .fetchYK ho ?_ ?_ (by with_reducible assumption) ?_)
              | (refine .fetchXK ho ?_ ?_ (fun y hy => ?_); rotate_left 2; (first | (have _h := hkk) | (obtain ⟨kk, ek⟩ : ∃ z, z = y := ⟨_, rfl⟩; subst ek; have hkk := hy; (try have hks := hq2.step (k := kk) h0 j1 (by omega) k3 (by rw [← k1]; omega) (by rw [← k1]; exact hkk)))))
              | (refine .indF (fun m_ s_ => ∃ (b22 : Int) (b23 : Int) (tk : List Nat) (bx1 : Box) (q : List Int), s_ = ⟨[Jk, Jk, Jk, .asl (.loc 0) 1 nn, Jk, Jk, Jk, Jk, Jk, Jk, Jk, Jk, Jk, Jk, Jk, Jk, Jk, Jk, Jk, Jk, Jk, rNd o l, iX b22, iX b23] ++ List.replicate 18 Jk, [bx1], [], tk⟩ ∧ (bx1 = (o.bx fun _ => eK .i64 q) ∧ ParU l b23 q ∧ b22 = l.length ∧ 0 ≤ b23 ∧ b23 ≤ l.length) ∧ (l.length - b23).toNat ≤ m_) _ _ ⟨_, _, _, _, (List.replicate l.length (-1)), by subst ho; rfl, ?_, Nat.le_refl _⟩ ?_
                 rotate_right
                 rintro m_ _ ⟨b22, b23, tk, bx1, q, rfl, hIb, hkb⟩ ihb
                 obtain ⟨rfl, hq, h22, j1, j2⟩ := hIb; have hql := hq.1; refine .unloopA ho ?_
                 repeat' (first
                  | (refine .id ?_
                     (try (conv => arg 2; cbv))
                     first
                      | (refine .test (fun hr => ?_) (fun hr => ?_) <;> (have hb := hr) <;> (try simp (disch := omega) only [ho, std, wI, lenE, nrm] at hb) <;> (try (exfalso; first | contradiction | omega | exact hb rfl)))
                      | (refine .fin ?_; refine (outD_asl (t := 2) (i := 0) (z := 1) (by rfl) (by rfl) ?_).trans ?_)
                      | (refine .pE (β := List Int) (rK o) (as' := [.agg [iX _, iX _, iX _, iX _, iX _, .str _, .str _]]) (impl_Kids.ans o ho _ _ _ _ _ _ _) ?_; rintro v hv)
                      | (refine .fetchXNd ho ?_ ?_ (fun y hy => ?_); rotate_left 2; rcases y with ⟨y0, y1, y2, y3, y4, y5, y6⟩)
                      | (refine .indF (fun m_ s_ => ∃ (c29 : List Int) (c30 : Int) (c31 : Int) (tc29 : Tok) (tk : List Nat) (bx2 : Box) (q2 : List Int), s_ = ⟨[Jk, Jk, Jk, .asl (.loc 0) 1 nn, Jk, iX b23, Jk, Jk, Jk, Jk, Jk, Jk, Jk, Jk, Jk, Jk, Jk, Jk, Jk, Jk, Jk, rNd o l, iX b22, iX b23, Jk, Jk, Jk, Jk, Jk, .sl tc29 1 (o.bx fun _ => eK .i64 c29), iX c30, iX c31] ++ List.replicate 10 Jk, [bx2, [[iX y0, iX y1, iX y2, iX y3, iX y4, .str y5, .str y6]]], [], tk⟩ ∧ (bx2 = (o.bx fun _ => eK .i64 q2) ∧ ParK l b23 c31 q2 ∧ c29 = kidsM (rN l b23) ∧ c30 = c29.length ∧ 0 ≤ c31 ∧ c31 ≤ c29.length) ∧ (c29.length - c31).toNat ≤ m_) _ _ ⟨_, _, _, _, _, _, q, by subst ho; rfl, ?_, Nat.le_refl _⟩ ?_
                         rotate_right
                         rintro m_ _ ⟨c29, c30, c31, tc29, tk, bx2, q2, rfl, hIc, hkc⟩ ihc
                         obtain ⟨rfl, hq2, k1, k2, k3, k4⟩ := hIc; have hql2 := hq2.1; have hkl := len_kids3 (rN l b23); rw [← k1] at hkl; refine .unloopA ho ?_
                         repeat' (first
                          | (refine .id ?_
                             (try (conv => arg 2; cbv))
                             first
                              | (refine .test (fun hr => ?_) (fun hr => ?_) <;> (have hb := hr) <;> (try simp (disch := omega) only [ho, std, wI, lenE, nrm] at hb) <;> (try (exfalso; first | contradiction | omega | exact hb rfl)))
                              | (refine .fetchYK ho ?_ ?_ (by with_reducible assumption) ?_)
                              | (refine .fetchXK ho ?_ ?_ (fun y hy => ?_); rotate_left 2; (first | (have _h := hkk) | (obtain ⟨kk, ek⟩ : ∃ z, z = y := ⟨_, rfl⟩; subst ek; have hkk := hy; (try have hks := hq2.step (k := kk) h0 j1 (by omega) k3 (by rw [← k1]; omega) (by rw [← k1]; exact hkk)))))
                              | (refine ihc _ _ ?_ ⟨_, _, _, _, _, _, (q2.set kk.toNat b23), by subst ho; rfl, ?_, Nat.le_refl _⟩)
                              | (refine ihb _ _ ?_ ⟨_, _, _, _, q2, by subst ho; rfl, ?_, Nat.le_refl _⟩))
                          | ((fail_if_success (refine .id ?_))
                             first
                              | (have e1 : v = kidsM (rN l b23) := (at_nd (P := fun x => v = kidsM x) (by assumption) hv.symm); subst ho; exact ⟨rfl, hq.kids, e1, by simp [std, len_eK], Int.le_refl _, by omega⟩)
                              | (subst ho; simp (disch := omega) only [std, wI]; rw [set_eK]; exact ⟨rfl, hks.2.2, k1, k2, by omega, by omega⟩)
                              | (subst ho; refine ⟨rfl, ?_, h22, ?_⟩ <;> simp (disch := omega) only [std, wI] <;> first | exact hq2.fin h0 j1 (by omega) (by rw [← k1]; omega) | omega)
                              | assumption
                              | omega
                              | (subst ho; simp (disch := omega) only [std, wI, tdiv2, tdivN, lenE] <;> first | done | rfl | omega)))))
                  | ((fail_if_success (refine .id ?_))
                     first
                      | (subst ho; exact cells_eK _ _)
                      | (rw [hq.fin h0 (by omega)] <;> rfl)
                      | (subst ho; refine ⟨?_, ParU.start, by simp [std, len_eNd], Int.le_refl _, by omega⟩; simp only [std]; rw [fill_end (by omega)])
                      | assumption
                      | omega)))
              | (refine iha _ _ ?_ ⟨_, _, _, _, _, by subst ho; rfl, ?_, Nat.le_refl _⟩))
          | ((fail_if_success (refine .id ?_))
             first
              | (subst ho; simp (disch := omega) only [std, wI]; rw [set_eK, fill_set i1 (by omega)]; exact ⟨rfl, hnn, h17, by omega, by omega⟩)
              | (subst ho; refine ⟨?_, by simp [std, len_eNd], by simp [std, len_eNd], Int.le_refl _, by omega⟩; simp only [std, len_eNd, Int.toNat_natCast]; rw [rep_eK]; simp; done)
              | assumption
              | omega
              | (subst ho; simp (disch := omega) only [std, wI, tdiv2, tdivN, lenE] <;> first | done | rfl | omega))))
      | (refine .indF (fun m_ s_ => ∃ (b22 : Int) (b23 : Int) (tk : List Nat) (bx1 : Box) (q : List Int), s_ = ⟨[Jk, Jk, Jk, .asl (.loc 0) 1 nn, Jk, Jk, Jk, Jk, Jk, Jk, Jk, Jk, Jk, Jk, Jk, Jk, Jk, Jk, Jk, Jk, Jk, rNd o l, iX b22, iX b23] ++ List.replicate 18 Jk, [bx1], [], tk⟩ ∧ (bx1 = (o.bx fun _ => eK .i64 q) ∧ ParU l b23 q ∧ b22 = l.length ∧ 0 ≤ b23 ∧ b23 ≤ l.length) ∧ (l.length - b23).toNat ≤ m_) _ _ ⟨_, _, _, _, (List.replicate l.length (-1)), by subst ho; rfl, ?_, Nat.le_refl _⟩ ?_
         rotate_right
         rintro m_ _ ⟨b22, b23, tk, bx1, q, rfl, hIb, hkb⟩ ihb
         obtain ⟨rfl, hq, h22, j1, j2⟩ := hIb; have hql := hq.1; refine .unloopA ho ?_
         repeat' (first
          | (refine .id ?_
             (try (conv => arg 2; cbv))
             first
              | (refine .indF (fun m_ s_ => ∃ (a13 : Int) (a14 : Int) (tk : List Nat) (bx0 : Box) (nn : Nat), s_ = ⟨[rNd o l, Jk, Jk, .asl (.loc 0) 1 nn, Jk, Jk, Jk, Jk, Jk, Jk, Jk, Jk, Jk, iX a13, iX a14] ++ List.replicate 27 Jk, [bx0], [], tk⟩ ∧ (bx0 = (o.bx fun _ => eK .i64 (List.replicate a14.toNat (-1) ++ List.replicate (l.length - a14.toNat) 0)) ∧ nn = l.length ∧ a13 = l.length ∧ 0 ≤ a14 ∧ a14 ≤ l.length) ∧ (l.length - a14).toNat ≤ m_) _ _ ⟨_, _, _, _, _, by subst ho; rfl, ?_, Nat.le_refl _⟩ ?_
                 rotate_right
                 rintro m_ _ ⟨a13, a14, tk, bx0, nn, rfl, hIa, hka⟩ iha
                 obtain ⟨rfl, hnn, h17, i1, i2⟩ := hIa; have hbl : (List.replicate a14.toNat (-1 : Int) ++ List.replicate (l.length - a14.toNat) 0).length = l.length := (by simp; omega); refine .unloopA ho ?_
                 repeat' (first
                  | (refine .id ?_
                     (try (conv => arg 2; cbv))
                     first
                      | (refine .indF (fun m_ s_ => ∃ (c29 : List Int) (c30 : Int) (c31 : Int) (tc29 : Tok) (tk : List Nat) (bx2 : Box) (q2 : List Int), s_ = ⟨[Jk, Jk, Jk, .asl (.loc 0) 1 nn, Jk, iX b23, Jk, Jk, Jk, Jk, Jk, Jk, Jk, Jk, Jk, Jk, Jk, Jk, Jk, Jk, Jk, rNd o l, iX b22, iX b23, Jk, Jk, Jk, Jk, Jk, .sl tc29 1 (o.bx fun _ => eK .i64 c29), iX c30, iX c31] ++ List.replicate 10 Jk, [bx2, [[iX y0, iX y1, iX y2, iX y3, iX y4, .str y5, .str y6]]], [], tk⟩ ∧ (bx2 = (o.bx fun _ => eK .i64 q2) ∧ ParK l b23 c31 q2 ∧ c29 = kidsM (rN l b23) ∧ c30 = c29.length ∧ 0 ≤ c31 ∧ c31 ≤ c29.length) ∧ (c29.length - c31).toNat ≤ m_) _ _ ⟨_, _, _, _, _, _, q, by subst ho; rfl, ?_, Nat.le_refl _⟩ ?_
                         rotate_right
                         rintro m_ _ ⟨c29, c30, c31, tc29, tk, bx2, q2, rfl, hIc, hkc⟩ ihc
                         obtain ⟨rfl, hq2, k1, k2, k3, k4⟩ := hIc; have hql2 := hq2.1; have hkl := len_kids3 (rN l b23); rw [← k1] at hkl; refine .unloopA ho ?_
                         repeat' (first
                          | (refine .id ?_
                             (try (conv => arg 2; cbv))
                             first
                              | fail)
                          | ((fail_if_success (refine .id ?_))
                             first
                              | fail))))
                  | ((fail_if_success (refine .id ?_))
                     first
                      | fail)))
              | (refine .indF (fun m_ s_ => ∃ (c29 : List Int) (c30 : Int) (c31 : Int) (tc29 : Tok) (tk : List Nat) (bx2 : Box) (q2 : List Int), s_ = ⟨[Jk, Jk, Jk, .asl (.loc 0) 1 nn, Jk, iX b23, Jk, Jk, Jk, Jk, Jk, Jk, Jk, Jk, Jk, Jk, Jk, Jk, Jk, Jk, Jk, rNd o l, iX b22, iX b23, Jk, Jk, Jk, Jk, Jk, .sl tc29 1 (o.bx fun _ => eK .i64 c29), iX c30, iX c31] ++ List.replicate 10 Jk, [bx2, [[iX y0, iX y1, iX y2, iX y3, iX y4, .str y5, .str y6]]], [], tk⟩ ∧ (bx2 = (o.bx fun _ => eK .i64 q2) ∧ ParK l b23 c31 q2 ∧ c29 = kidsM (rN l b23) ∧ c30 = c29.length ∧ 0 ≤ c31 ∧ c31 ≤ c29.length) ∧ (c29.length - c31).toNat ≤ m_) _ _ ⟨_, _, _, _, _, _, q, by subst ho; rfl, ?_, Nat.le_refl _⟩ ?_
                 rotate_right
                 rintro m_ _ ⟨c29, c30, c31, tc29, tk, bx2, q2, rfl, hIc, hkc⟩ ihc
                 obtain ⟨rfl, hq2, k1, k2, k3, k4⟩ := hIc; have hql2 := hq2.1; have hkl := len_kids3 (rN l b23); rw [← k1] at hkl; refine .unloopA ho ?_
                 repeat' (first
                  | (refine .id ?_
                     (try (conv => arg 2; cbv))
                     first
                      | (refine .indF (fun m_ s_ => ∃ (a13 : Int) (a14 : Int) (tk : List Nat) (bx0 : Box) (nn : Nat), s_ = ⟨[rNd o l, Jk, Jk, .asl (.loc 0) 1 nn, Jk, Jk, Jk, Jk, Jk, Jk, Jk, Jk, Jk, iX a13, iX a14] ++ List.replicate 27 Jk, [bx0], [], tk⟩ ∧ (bx0 = (o.bx fun _ => eK .i64 (List.replicate a14.toNat (-1) ++ List.replicate (l.length - a14.toNat) 0)) ∧ nn = l.length ∧ a13 = l.length ∧ 0 ≤ a14 ∧ a14 ≤ l.length) ∧ (l.length - a14).toNat ≤ m_) _ _ ⟨_, _, _, _, _, by subst ho; rfl, ?_, Nat.le_refl _⟩ ?_
                         rotate_right
                         rintro m_ _ ⟨a13, a14, tk, bx0, nn, rfl, hIa, hka⟩ iha
                         obtain ⟨rfl, hnn, h17, i1, i2⟩ := hIa; have hbl : (List.replicate a14.toNat (-1 : Int) ++ List.replicate (l.length - a14.toNat) 0).length = l.length := (by simp; omega); refine .unloopA ho ?_
                         repeat' (first
                          | (refine .id ?_
                             (try (conv => arg 2; cbv))
                             first
                              | fail)
                          | ((fail_if_success (refine .id ?_))
                             first
                              | fail))))
                  | ((fail_if_success (refine .id ?_))
                     first
                      | fail))))
          | ((fail_if_success (refine .id ?_))
             first
              | fail))))
  | ((fail_if_success (refine .id ?_))
     first
      | (subst ho; simp [std, lenE]; omega)))
theorem impl_binderOf.ans {xa xb : Option (List D → Option D)} (o : Std) (ho : o = std) (l : List Nd) (up : List Int) (i : Int) (nm : ByteArray) (h0 : OkT l) (h1 : up = parsM l) (h2 : 0 ≤ i ∧ i < l.length) : Ans (env xa xb) 144 [rNd o l, rK o up, iX i, .str nm] (.agg ([iX (climbM l nm i).f0, iX (climbM l nm i).f1])) := by
 refine Ans.mkA ho _ rfl rfl ?_
 have hs := h0.size; have hul := len_parsM l; rw [← h1] at hul
 repeat' (first
  | (refine .id ?_
     (try (conv => arg 2; cbv))
     first
      | (refine .indF (fun m_ s_ => ∃ (a2 : Int) (tk : List Nat), s_ = ⟨[rNd o l, rK o up, iX a2, .str nm, Jk, Jk, Jk, Jk, .pbx (.loc 0) 0] ++ List.replicate 46 Jk, [[[iX 0, iX 0]]], [], tk⟩ ∧ (climbM l nm i = climbM l nm a2 ∧ 0 ≤ a2 ∧ a2 < l.length) ∧ (l.length - a2).toNat ≤ m_) _ _ ⟨_, _, by subst ho; rfl, ?_, Nat.le_refl _⟩ ?_
         rotate_right
         rintro m_ _ ⟨a2, tk, rfl, hIa, hka⟩ iha
         obtain ⟨i1, i2, i3⟩ := hIa; refine .unloopA ho ?_
         repeat' (first
          | (refine .id ?_
             (try (conv => arg 2; cbv))
             first
              | (refine .test (fun hr => ?_) (fun hr => ?_) <;> (have hb := hr) <;> (try simp (disch := omega) only [ho, std, wI, lenE, nrm] at hb) <;> (try (exfalso; first | contradiction | omega | exact hb rfl)))
              | (refine .pE (β := (List ByteArray) × (List Int)) (fun v => .tup [rTx o v.1, rK o v.2]) (as' := [.agg [iX _, iX _, iX _, iX _, iX _, .str _, .str _], iX _]) (impl_bindsIn.ans o ho _ _ _ _ _ _ _ _) ?_; rintro ⟨v0, v1⟩ hv; (have hst := hit_start (nm := nm) hpp hyp hv; have hbl := bind_len hv))
              | (refine .fetchYK ho ?_ ?_ (by with_reducible assumption) ?_)
              | (refine .fetchXK ho ?_ ?_ (fun y hy => ?_); rotate_left 2; (first | (have _h := hpp; have hyR := hy) | (obtain ⟨pq, ek⟩ : ∃ z, z = y := ⟨_, rfl⟩; subst ek; have hpp : pq = parS l a2 := (by rw [h1] at hy; exact hy.symm.trans (rI_parsI i2 i3)); have hpl := h0.par_lt (n := a2); rw [← hpp] at hpl)))
              | (refine .fetchXNd ho ?_ ?_ (fun y hy => ?_); rotate_left 2; rcases y with ⟨y0, y1, y2, y3, y4, y5, y6⟩; (have hyp := hy))
              | (refine .indF (fun m_ s_ => ∃ (b10 : List Int) (b30 : List ByteArray) (b31 : Int) (b32 : Int) (tb10 tb30 : Tok) (tk : List Nat), s_ = ⟨[rNd o l, rK o up, iX a2, .str nm, Jk, Jk, Jk, Jk, .pbx (.loc 0) 0, Jk, .sl tb10 1 (o.bx fun _ => eK .i64 b10), Jk, Jk, Jk, Jk, Jk, Jk, Jk, Jk, Jk, Jk, Jk, Jk, Jk, Jk, Jk, Jk, Jk, Jk, Jk, .sl tb30 1 (o.bx fun _ => eB b30), iX b31, iX b32] ++ List.replicate 22 Jk, [[[iX 0, iX 0]]], [], tk⟩ ∧ (b31 = b30.length ∧ b30.length ≤ 2 ∧ b10.length = b30.length ∧ 0 ≤ b32 ∧ b32 ≤ b30.length ∧ hitN l nm a2 = hitM pq nm (b30.drop b32.toNat) (b10.drop b32.toNat)) ∧ (b30.length - b32).toNat ≤ m_) _ _ ⟨_, _, _, _, _, _, _, by subst ho; rfl, ?_, Nat.le_refl _⟩ ?_
                 rotate_right
                 rintro m_ _ ⟨b10, b30, b31, b32, tb10, tb30, tk, rfl, hIb, hkb⟩ ihb
                 obtain ⟨j5, j0, j1, j2, j3, j4⟩ := hIb; refine .unloopA ho ?_
                 repeat' (first
                  | (refine .id ?_
                     (try (conv => arg 2; cbv))
                     first
                      | (refine .test (fun hr => ?_) (fun hr => ?_) <;> (have hb := hr) <;> (try simp (disch := omega) only [ho, std, wI, lenE, nrm] at hb) <;> (try (exfalso; first | contradiction | omega | exact hb rfl)))
                      | (refine .fetchYK ho ?_ ?_ (by with_reducible assumption) ?_)
                      | (refine .fetchXK ho ?_ ?_ (fun y hy => ?_); rotate_left 2; (first | (have _h := hpp; have hyR := hy) | (obtain ⟨pq, ek⟩ : ∃ z, z = y := ⟨_, rfl⟩; subst ek; have hpp : pq = parS l a2 := (by rw [h1] at hy; exact hy.symm.trans (rI_parsI i2 i3)); have hpl := h0.par_lt (n := a2); rw [← hpp] at hpl)))
                      | (refine .fetchXB ho ?_ ?_ (fun y hy => ?_); rotate_left 2; (have hyn := hy))
                      | (refine .needD ho (by kernel_rfl) ?_)
                      | (refine ihb _ _ ?_ ⟨_, _, _, _, _, _, _, by subst ho; rfl, ?_, Nat.le_refl _⟩)
                      | (refine iha _ _ ?_ ⟨_, _, by subst ho; rfl, ?_, Nat.le_refl _⟩)
                      | (refine .fin ?_; (conv => lhs; cbv); refine congrArg some ?_))
                  | ((fail_if_success (refine .id ?_))
                     first
                      | (have hq := hpl (by omega); omega)
                      | (subst ho; exact ⟨by simp [std, len_eB], hbl, hst.2, Int.le_refl _, by omega, hst.1⟩)
                      | (rw [i1, climb_hit h0 (by omega) (hit_yes j1 j2 (by omega) hyn (by assumption) hyR j4)] <;> rfl)
                      | ((try clear iha); (try clear ihb); simp (disch := omega) only [ho, std, wI]; first | omega | exact ⟨j5, j0, j1, by omega, by omega, hit_next j1 j2 (by omega) hyn (by assumption) j4⟩)
                      | (have hq := hpl (by omega); refine ⟨i1.trans ((climb_on h0 (by omega) (hit_none (by omega) j4)).trans (by rw [← hpp])), by omega, by omega⟩))))
              | (refine .fin ?_; (conv => lhs; cbv); refine congrArg some ?_))
          | ((fail_if_success (refine .id ?_))
             first
              | (exact ⟨rfl, h2.1, h2.2⟩)
              | (have hq := hpl (by omega); omega)
              | (rw [i1, climbM_top (by omega)] <;> rfl)
              | assumption
              | omega))))
  | ((fail_if_success (refine .id ?_))
     first
      | fail))
theorem impl_binders.ans {xa xb : Option (List D → Option D)} (o : Std) (ho : o = std) (l : List Nd) (h0 : OkT l) : Ans (env xa xb) 117 [rNd o l] (rBd o (bindsM l)) := by
 refine Ans.mkA ho _ rfl rfl ?_
 have hs := h0.size
 repeat' (first
  | (refine .id ?_
     (try (conv => arg 2; cbv))
     first
      | (refine .pE (β := List Int) (rK o) (as' := [rNd o _]) (impl_parents.ans o ho _ ?_) ?_; rotate_left 1; rintro v hv)
      | (refine .indF (fun m_ s_ => ∃ (a3 : List Int) (ea4 : Box) (a11 : Int) (a12 : Int) (ta3 ta4 : Tok) (tk : List Nat), s_ = ⟨[rNd o l, Jk, Jk, .sl ta3 1 (o.bx fun _ => eK .i64 a3), .sl ta4 2 ea4, Jk, Jk, Jk, Jk, Jk, rNd o l, iX a11, iX a12] ++ List.replicate 20 Jk, [], [], tk⟩ ∧ Lv tk ta4 ea4.length ∧ ea4 = (o.bx fun _ => eBd ((bindsM l).take a12.toNat)) ∧ (a3 = parsM l ∧ a11 = l.length ∧ 0 ≤ a12 ∧ a12 ≤ l.length) ∧ (l.length - a12).toNat ≤ m_) _ _ ⟨_, _, _, _, _, _, _, by subst ho; rfl, ?_, ?_, ?_, Nat.le_refl _⟩ ?_
         rotate_right
         rintro m_ _ ⟨a3, ea4, a11, a12, ta3, ta4, tk, rfl, hla0, rfl, hIa, hka⟩ iha
         obtain ⟨i0, i1, i2, i3⟩ := hIa; have hbt := List.length_take_le a12.toNat (bindsM l); have hbl := len_bindsM l; refine .unloopA ho ?_
         repeat' (first
          | (refine .id ?_
             (try (conv => arg 2; cbv))
             first
              | (refine .test (fun hr => ?_) (fun hr => ?_) <;> (have hb := hr) <;> (try simp (disch := omega) only [ho, std, wI, lenE, nrm] at hb) <;> (try (exfalso; first | contradiction | omega | exact hb rfl)))
              | (refine .pE (β := Bd) (fun v => .agg ([iX v.f0, iX v.f1])) (as' := [rNd o _, rK o _, iX _, .str _]) (impl_binderOf.ans o ho _ _ _ _ ?_ ?_ ?_) ?_; rotate_left 3; rintro ⟨v0, v1⟩ hv)
              | (refine .fetchXNd ho ?_ ?_ (fun y hy => ?_); rotate_left 2; rcases y with ⟨y0, y1, y2, y3, y4, y5, y6⟩; have hyp := hy)
              | (refine .need ?_ ?_)
              | (refine .app1 ?_ (fun t' tk' hl' => ?_))
              | (refine iha _ _ ?_ ⟨_, _, _, _, _, _, _, by subst ho; rfl, ?_, ?_, ?_, Nat.le_refl _⟩)
              | (refine .fin ?_; (conv => lhs; cbv); refine congrArg some ?_))
          | ((fail_if_success (refine .id ?_))
             first
              | (exact Lv.nil)
              | (subst ho; exact hla0)
              | (subst ho; exact ⟨hv.symm, by simp [std, len_eNd], Int.le_refl _, by omega⟩)
              | (exact ⟨i2, by omega⟩)
              | (subst ho; refine congrArg (D.sl Tok.ro 2) (congrArg eBd ?_); rw [take_allG (by omega)])
              | (simp (disch := omega) only [ho, std, wI]; exact ⟨i0, i1, by omega, by omega⟩)
              | (have hb := bind_push i2 (by omega) (bindS_var hyp (by assumption) hv); subst ho; refine push_eBd (x := ⟨v0, v1⟩) ?_; simp (disch := omega) only [std, wI]; exact hb)
              | (have hb := bind_push i2 (by omega) (bindS_non hyp (by assumption)); subst ho; refine push_eBd (x := ⟨-1, -1⟩) ?_; simp (disch := omega) only [std, wI]; exact hb)
              | assumption
              | omega
              | (subst ho; rfl)
              | (subst ho; simpa [std, lenE] using hl')
              | (subst ho; simp [std, lenE]; omega)
              | (subst ho; simp (disch := omega) only [std, wI, tdiv2, tdivN, lenE] <;> first | done | rfl | omega)))))
  | ((fail_if_success (refine .id ?_))
     first
      | assumption))
noncomputable def impl_FreeNames_pre.fi : FnI := { fni Tryz.f181 (fun | 5 => [0, 3, 10, 11, 12] | _ => []) false with body := takeC 3 (bodyOf Tryz.f181) }
theorem impl_FreeNames_pre.part {xa xb : Option (List D → Option D)} (o : Std) (ho : o = std) (l : List Nd) (h0 : okM l = true) (h1 : Sz l) (h2 : l.length ≤ 1048576) : AnsI (env xa xb) impl_FreeNames_pre.fi .normal (fun s => if s.t.length = 39 then s.t[3]? else none) [rNd o l] (fun d_ tk_ => ∃ (tq : Tok) , d_ = .sl tq 1 (o.bx fun _ => eB (rawN l l.length)) ∧ (Lw tk_ tq (rawN l l.length).length)) := by
 refine AnsI.mkA ho (by rfl) ?_
 have hT := okM_iff.1 h0; have hs := hT.size
 repeat' (first
  | (refine .id ?_
     (try (conv => arg 2; cbv))
     first
      | refine .tN0 ho ?_
      | (refine .pE (β := Bool) .bool (as' := [rNd o _]) (impl_NodesOk.ans o ho _ ?_ ?_) ?_; rotate_left 2; rintro (_ | _) hv <;> (try simp only [dE] at hv) <;> (try first | contradiction | exact bX hv))
      | (refine .pE (β := List Bd) (rBd o) (as' := [rNd o _]) (impl_binders.ans o ho _ ?_) ?_; rotate_left 1; rintro v hv)
      | (refine .indF (fun m_ s_ => ∃ (ea3 : Box) (a10 : List Bd) (a11 : Int) (a12 : Int) (ta3 ta10 : Tok) (tk : List Nat), s_ = ⟨[rNd o l, Jk, Jk, .sl ta3 1 ea3, Jk, Jk, Jk, Jk, Jk, Jk, .sl ta10 2 (o.bx fun _ => eBd a10), iX a11, iX a12] ++ List.replicate 26 Jk, [], [], tk⟩ ∧ Lw tk ta3 ea3.length ∧ ea3 = (o.bx fun _ => eB (rawN l a12.toNat)) ∧ (a10 = bindsM l ∧ a11 = l.length ∧ 0 ≤ a12 ∧ a12 ≤ l.length) ∧ (l.length - a12).toNat ≤ m_) _ _ ⟨_, _, _, _, _, _, _, by subst ho; rfl, ?_, ?_, ?_, Nat.le_refl _⟩ ?_
         rotate_right
         rintro m_ _ ⟨ea3, a10, a11, a12, ta3, ta10, tk, rfl, hla0, rfl, hIa, hka⟩ iha
         obtain ⟨rfl, i1, i2, i3⟩ := hIa; have hbl := len_bindsM l; have hrl := (len_rawN l a12.toNat).1; refine .unloopA ho ?_
         repeat' (first
          | (refine .id ?_
             (try (conv => arg 2; cbv))
             first
              | refine .testF ?_
              | refine .t1 ?_
              | refine .t0 ?_
              | (refine .test (fun hr => ?_) (fun hr => ?_) <;> (have hb := hr) <;> (try simp (disch := omega) only [ho, std, wI, lenE, nrm] at hb) <;> (try (exfalso; first | contradiction | omega | exact hb rfl)))
              | (refine .fetchYNd ho ?_ ?_ (by with_reducible assumption) ?_)
              | (refine .fetchXNd ho ?_ ?_ (fun y hy => ?_); rotate_left 2; rcases y with ⟨y0, y1, y2, y3, y4, y5, y6⟩; (have hyp := hy))
              | (refine .fetchXBd ho ?_ ?_ (fun y hy => ?_); rotate_left 2; rcases y with ⟨y0, y1⟩; (have hyb := hy))
              | (refine .need ?_ ?_)
              | (refine .app1w ?_ (fun t' tk' hl' => ?_))
              | (refine iha _ _ ?_ ⟨_, _, _, _, _, _, _, by subst ho; rfl, ?_, ?_, ?_, Nat.le_refl _⟩)
              | (refine .done ⟨rfl, ?_⟩; refine ⟨_, by (conv => lhs; cbv) <;> rfl, ?_⟩))
          | ((fail_if_success (refine .id ?_))
             first
              | (exact Lw.nil)
              | (subst ho; exact hla0)
              | (subst ho; have he : a12.toNat = l.length := (by omega); refine ⟨_, congrArg (D.sl _ 1) (congrArg eB (congrArg (rawN l) he)), ?_⟩; rw [← he]; simpa [std, len_eB] using hla0)
              | (subst ho; exact ⟨hv.symm, by simp [std, len_eBd, len_bindsM, ← hv], Int.le_refl _, by omega⟩)
              | (subst ho; simp (disch := omega) only [std, wI]; exact push_eB (raw_yes i2 (by omega) hyp (by assumption) hyb (by assumption)))
              | (subst ho; simp (disch := omega) only [std, wI]; refine congrArg eB ?_; first | exact (raw_no1 i2 hyp (by assumption)).symm | exact (raw_no2 i2 (by omega) hyb (by dsimp only; omega)).symm)
              | ((try clear iha); subst ho; refine ⟨rfl, i1, ?_, ?_⟩ <;> simp (disch := omega) only [std, wI] <;> omega)
              | assumption
              | omega
              | (subst ho; rfl)
              | (subst ho; simpa [std, lenE] using hl')
              | (subst ho; simp [std, lenE]; omega)
              | (subst ho; simp (disch := omega) only [std, wI, tdiv2, tdivN, lenE] <;> first | done | rfl | omega)))))
  | ((fail_if_success (refine .id ?_))
     first
      | assumption))
end Go.Mach
