/- What the statements over Solve share: part 29 of a proof by an executable machine over the program's code. -/
import Derived.Test.YtbkpkchegopmiaaGreatDoorMb14
import Derived.Test.YtbkpkchegopmiaaGreatDoorMb15
import Derived.Test.YtbkpkchegopmiaaGreatDoorMb16
import Derived.Test.YtbkpkchegopmiaaGreatDoorMb17
import Derived.Test.YtbkpkchegopmiaaGreatDoorMb24
import Derived.Test.YtbkpkchegopmiaaGreatDoorMb25
import Derived.Test.YtbkpkchegopmiaaGreatDoorMb28
section
set_option linter.unusedVariables false
set_option linter.unusedSimpArgs false
namespace Go.Mach
open Go Go.RowKit Go.Proofs
set_option maxRecDepth 100000
set_option maxHeartbeats 4000000
theorem impl_flower_other.gns {xa xb : Option (List D → Option D)} (o : Std) (ho : o = std) (l : List Nd) (us : List Bd) (dp : Int) (fs m : List Fc) (t : Tok) (tk : List Nat) (hl : Lw tk t (o.bx fun _ => eFc m).length) (i : Int) (c : Int) (n_f0 : Int) (n_f1 : Int) (n_f2 : Int) (n_f3 : Int) (n_f4 : Int) (n_f5 : ByteArray) (n_f6 : ByteArray) (h0 : Fok l fs) (h1 : Lok l us) (h2 : m.length + 965000000 ≤ 2900000000000) : Gns (env xa xb) 188 [.pbx (.out 0) 0, .int .i64 i, .int .i64 c, .agg [.int .i64 n_f0, .int .i64 n_f1, .int .i64 n_f2, .int .i64 n_f3, .int .i64 n_f4, .str n_f5, .str n_f6]] [[cells5 (o.bx fun _ => eNd l) (o.bx fun _ => eBd us) dp (o.bx fun _ => eFc fs) t (o.bx fun _ => eFc m)]] tk (FR o l us dp fs (m ++ (otherI l us dp fs i c (⟨n_f0, n_f1, n_f2, n_f3, n_f4, n_f5, n_f6⟩ : Nd))) (.tup [])) := by
  refine Gns.mkA (E := env xa xb) (f := 188) ho _ (by rfl) (by rfl) ?_
  have hF := h0; have hK := h1; have hu := h0.up; have hL := h0.len; have hp := h0.pos; have hL2 : fs.length ≤ 2900000000000 := (by omega)
  repeat' (first
    | (refine Den.id ?_
       (try (conv => arg 2; cbv))
       first
         | (refine Den.gcF ho (β := Unit) (r := ()) (fun v => .tup []) (.out 0) (xs := [.pbx (.out 0) 0, .int .i64 _, .int .i64 _]) (by rfl) (by rfl) (by rfl) (fun t0 tk0 hl0 => impl_flower_see.gns o ho _ _ _ _ _ t0 tk0 hl0 _ _ ?_) ?_ ?_; rotate_left 2; rintro _ t' tk' _ hl')
         | (refine Den.pcallE (β := List Int) (fun v => .sl .ro 1 (o.bx fun _ => eK .i64 v)) (as' := [.agg [.int .i64 _, .int .i64 _, .int .i64 _, .int .i64 _, .int .i64 _, .str _, .str _]]) (by first | with_reducible rfl | (subst ho; rfl)) (impl_Kids.ans o ho _ _ _ _ _ _ _) ?_; rotate_left 0; rintro v hv)
         | (refine Den.indF (fun m_ s_ => ∃ (a20 : List Int) (a21 : Int) (a22 : Int) (ema : Box) (ta20 ua : Tok) (tk : List Nat), s_ = ⟨[.pbx (.out 0) 0, .int .i64 i, .int .i64 c, .junk, .junk, .junk, .junk, .pbx (.loc 0) 0, .junk, .junk, .junk, .junk, .junk, .junk, .junk, .junk, .junk, .junk, .junk, .junk, .sl ta20 1 (o.bx fun _ => eK .i64 a20), .int .i64 a21, .int .i64 a22] ++ List.replicate 115 .junk, [[[.int .i64 n_f0, .int .i64 n_f1, .int .i64 n_f2, .int .i64 n_f3, .int .i64 n_f4, .str n_f5, .str n_f6]]], [[cells5 (o.bx fun _ => eNd l) (o.bx fun _ => eBd us) dp (o.bx fun _ => eFc fs) ua ema]], tk⟩ ∧ Lw tk ua ema.length ∧ ema = (o.bx fun _ => eFc (m ++ (seeL n_f1 c ++ (a20.zipIdx.take a22.toNat).flatMap (kidI fs n_f0 i c)))) ∧ (a20 = kidsM (⟨n_f0, n_f1, n_f2, n_f3, n_f4, n_f5, n_f6⟩ : Nd) ∧ a21 = a20.length ∧ 0 ≤ a22 ∧ a22 ≤ a20.length) ∧ (a20.length - a22).toNat ≤ m_) _ _ ⟨_, _, _, _, _, _, _, by subst ho; rfl, ?_, ?_, ?_, Nat.le_refl _⟩ ?_
            rotate_right
            rintro m_ _ ⟨a20, a21, a22, ema, ta20, ua, tk, rfl, hla0, rfl, hIa, hka⟩ iha
            obtain ⟨i1, i2, i3, i4⟩ := hIa; have hz := len_kidsM (⟨n_f0, n_f1, n_f2, n_f3, n_f4, n_f5, n_f6⟩ : Nd); rw [← i1] at hz; have hz2 := arityM_le n_f0; dsimp only at hz; have hw := len_flatMap_le _ 1 (fun v => len_kidI fs n_f0 i c v) (a20.zipIdx.take a22.toNat); have hw3 := List.length_take_le a22.toNat a20.zipIdx; have hsl : (seeL n_f1 c).length = 1 := rfl; refine Den.unloopA ho ?_
            repeat' (first
              | (refine Den.id ?_
                 (try (conv => arg 2; cbv))
                 first
                   | refine Den.testT ?_
                   | refine Den.test1 (by with_reducible assumption) ?_
                   | refine Den.test0 (by with_reducible assumption) ?_
                   | (refine Den.test (fun hr => ?_) (fun hr => ?_) <;> (have hb := hr) <;> (try simp (disch := omega) only [ho, std, wI, len_eK, len_eB, len_eNd, len_eLNd, len_eFc, len_eAb, len_eBd, len_eEd, len_eLBd, Classical.not_not, decide_eq_true_eq, decide_eq_false_iff_not, beq_iff_eq, beq_eq_false_iff_ne, ne_eq, Bool.not_eq_true', Bool.not_eq_false', gt_iff_lt, ge_iff_le, Int.not_lt, Int.not_le] at hb) <;> (try (exfalso; first | contradiction | omega | exact hb rfl)))
                   | (refine Den.gcF ho (β := Unit) (r := ()) (fun v => .tup []) (.out 0) (xs := [.pbx (.out 0) 0, .int .i64 _, .int .i64 _]) (by rfl) (by rfl) (by rfl) (fun t0 tk0 hl0 => impl_flower_see.gns o ho _ _ _ _ _ t0 tk0 hl0 _ _ ?_) ?_ ?_; rotate_left 2; rintro _ t' tk' _ hl')
                   | (refine Den.gcF ho (β := Unit) (r := ()) (fun v => .tup []) (.out 0) (xs := [.pbx (.out 0) 0, .int .i64 _, .int .i64 _, .int .i64 _, .int .i64 _]) (by rfl) (by rfl) (by rfl) (fun t0 tk0 hl0 => impl_flower_raise.gns o ho _ _ _ _ _ t0 tk0 hl0 _ _ _ _ ?_ ?_) ?_ ?_; rotate_left 3; rintro _ t' tk' _ hl')
                   | (refine Den.gcF ho (β := List Ab) (fun v => .sl .ro 3 (o.bx fun _ => eAb v)) (.out 0) (xs := [.pbx (.out 0) 0, .agg [.int .i64 _, .int .i64 _, .int .i64 _]]) (by rfl) (by rfl) (by rfl) (fun t0 tk0 hl0 => impl_flower_values.gns o ho _ _ _ _ _ t0 tk0 hl0 _ _ _ ?_) ?_ ?_; rotate_left 2; rintro v t' tk' hv hl')
                   | (refine Den.gcF ho (β := Unit) (r := ()) (fun v => .tup []) (.out 0) (xs := [.pbx (.out 0) 0, .int .i64 _, .int .i64 _, .agg [.int .i64 _, .int .i64 _, .int .i64 _, .int .i64 _, .int .i64 _, .str _, .str _], .agg [.int .i64 _, .int .i64 _, .int .i64 _], .agg [.int .i64 _, .int .i64 _, .int .i64 _]]) (by rfl) (by rfl) (by rfl) (fun t0 tk0 hl0 => impl_flower_both.gns o ho _ _ _ _ _ t0 tk0 hl0 _ _ _ _ _ _ _ _ _ _ _ _ _ _ _ ?_ ?_ ?_) ?_ ?_; rotate_left 4; rintro _ t' tk' _ hl')
                   | (refine Den.gcF ho (β := Unit) (r := ()) (fun v => .tup []) (.out 0) (xs := [.pbx (.out 0) 0, .agg [.int .i64 _, .int .i64 _, .int .i64 _], .agg [.int .i64 _, .int .i64 _, .int .i64 _]]) (by rfl) (by rfl) (by rfl) (fun t0 tk0 hl0 => impl_flower_flow.gns o ho _ _ _ _ _ t0 tk0 hl0 _ _ _ _ _ _ ?_ ?_) ?_ ?_; rotate_left 3; rintro _ t' tk' _ hl')
                   | (refine Den.gcF ho (β := List Ab) (fun v => .sl .ro 3 (o.bx fun _ => eAb v)) (.out 0) (xs := [.pbx (.out 0) 0, .agg [.int .i64 _, .int .i64 _, .int .i64 _], .int .i64 _]) (by rfl) (by rfl) (by rfl) (fun t0 tk0 hl0 => impl_flower_those.gns o ho _ _ _ _ _ t0 tk0 hl0 _ _ _ _ ?_) ?_ ?_; rotate_left 2; rintro v t' tk' hv hl')
                   | (refine Den.gcF ho (β := Unit) (r := ()) (fun v => .tup []) (.out 0) (xs := [.pbx (.out 0) 0, .int .i64 _, .int .i64 _, .agg [.int .i64 _, .int .i64 _, .int .i64 _, .int .i64 _, .int .i64 _, .str _, .str _], .agg [.int .i64 _, .int .i64 _, .int .i64 _]]) (by rfl) (by rfl) (by rfl) (fun t0 tk0 hl0 => impl_flower_match.gns o ho _ _ _ _ _ t0 tk0 hl0 _ _ _ _ _ _ _ _ _ _ _ _ ?_ ?_ ?_) ?_ ?_; rotate_left 4; rintro _ t' tk' _ hl')
                   | (refine Den.gcF ho (β := Unit) (r := ()) (fun v => .tup []) (.out 0) (xs := [.pbx (.out 0) 0, .int .i64 _, .int .i64 _, .agg [.int .i64 _, .int .i64 _, .int .i64 _, .int .i64 _, .int .i64 _, .str _, .str _], .agg [.int .i64 _, .int .i64 _, .int .i64 _]]) (by rfl) (by rfl) (by rfl) (fun t0 tk0 hl0 => impl_flower_one.gns o ho _ _ _ _ _ t0 tk0 hl0 _ _ _ _ _ _ _ _ _ _ _ _ ?_ ?_ ?_) ?_ ?_; rotate_left 4; rintro _ t' tk' _ hl')
                   | (refine Den.fetchXK ho ?_ ?_ (fun y hy => ?_); rotate_left 2)
                   | (refine Den.needD ho (by kernel_rfl) ?_)
                   | (refine iha _ _ ?_ ⟨_, _, _, _, _, _, _, by subst ho; rfl, ?_, ?_, ?_, Nat.le_refl _⟩)
                   | (refine Den.done ⟨by first | exact Or.inl rfl | exact Or.inr rfl, ?_⟩; refine ⟨_, by (conv => lhs; cbv) <;> rfl, ?_, _, _, by rfl, ?_, ?_⟩; first | (focus ((conv => lhs; cbv); done)) | ((conv => lhs; cbv); refine congrArg some ?_)))
              | ((fail_if_success (refine Den.id ?_))
                 first
                   | (subst ho; exact hl')
                   | (subst ho; exact hla0)
                   | (rw [List.length_append, List.length_append]; omega)
                   | (have hq1 := len_flowI hF; have hq2 := hq1 0 n_f2 c 0 i c; have hq3 := hq1 0 n_f3 c 0 i c; have hq4 := hq1 0 n_f1 c 1 i c; have hq5 : ∀ a b, (seeL a b).length = 1 := fun a b => rfl; simp only [List.length_append, hq5]; omega)
                   | (subst ho; exact ⟨Eq.symm (by assumption), by simp [std, len_eK], Int.le_refl _, by omega⟩)
                   | (simp (disch := omega) only [ho, std, wI]; exact ⟨i1, i2, by omega, by omega⟩)
                   | (subst ho; refine congrArg eFc ?_; simp; done)
                   | (simp (disch := omega) only [ho, std, wI]; refine congrArg eFc ?_; rw [flatMap_succ _ (0, 0) i3 (by simp; omega), rd_zipIdx i3 (by omega), hy, kidI]; first | (rw [if_pos (by dsimp only; omega)]; simp only [List.append_assoc]; done) | (rw [if_neg (by dsimp only; omega)]; simp only [List.append_nil]; done))
                   | ((try clear iha); subst ho; (try refine congrArg eFc ?_); rw [take_allG (by simp; omega), i1]; (try first | (have e1 : (vals fs 0 n_f1 c).isEmpty = true := emp_t (by assumption) (by assumption)) | (have e1 : (vals fs 0 n_f1 c).isEmpty = false := emp_f (by assumption) (by assumption))); (try rw [show (vals fs 0 n_f1 c) = _ by assumption] at e1); (try first | (have e2 : (thoseL fs 0 n_f1 c 0).isEmpty = true := emp_t (by assumption) (by assumption)) | (have e2 : (thoseL fs 0 n_f1 c 0).isEmpty = false := emp_f (by assumption) (by assumption))); (try rw [show (thoseL fs 0 n_f1 c 0) = _ by assumption] at e2); unfold otherI; simp [*, flowP]; done)
                   | assumption
                   | omega
                   | (subst ho; simp (disch := omega) only [std, wI, tdiv2, tdivN, len_eFc, len_eNd, len_eBd, len_eAb, len_eLBd, len_eK, len_eB] <;> first | done | rfl | omega)))))
    | ((fail_if_success (refine Den.id ?_))
       first
         | (subst ho; exact hl)
         | omega))
end Go.Mach
end
section
set_option linter.unusedVariables false
set_option linter.unusedSimpArgs false
namespace Go.Mach
open Go Go.RowKit Go.Proofs
set_option maxRecDepth 100000
set_option maxHeartbeats 4000000
theorem impl_flower_node.gns {xa xb : Option (List D → Option D)} (o : Std) (ho : o = std) (l : List Nd) (us : List Bd) (dp : Int) (fs m : List Fc) (t : Tok) (tk : List Nat) (hl : Lw tk t (o.bx fun _ => eFc m).length) (i : Int) (c : Int) (h0 : Fok l fs) (h1 : Lok l us) (h2 : 0 ≤ i ∧ i < l.length) (h3 : m.length + 970000000 ≤ 2900000000000) : Gns (env xa xb) 145 [.pbx (.out 0) 0, .int .i64 i, .int .i64 c] [[cells5 (o.bx fun _ => eNd l) (o.bx fun _ => eBd us) dp (o.bx fun _ => eFc fs) t (o.bx fun _ => eFc m)]] tk (FR o l us dp fs (m ++ (nodeI l us dp fs i c)) (.tup [])) := by
  refine Gns.mkA (E := env xa xb) (f := 145) ho _ (by rfl) (by rfl) ?_
  have hF := h0; have hK := h1; have hu := h0.up; have hL := h0.len; have hp := h0.pos; have hL2 : fs.length ≤ 2900000000000 := (by omega); have hus := h1.uses
  repeat' (first
    | (refine Den.id ?_
       (try (conv => arg 2; cbv))
       first
         | (refine Den.test (fun hr => ?_) (fun hr => ?_) <;> (have hb := hr) <;> (try simp (disch := omega) only [ho, std, wI, len_eK, len_eB, len_eNd, len_eLNd, len_eFc, len_eAb, len_eBd, len_eEd, len_eLBd, Classical.not_not, decide_eq_true_eq, decide_eq_false_iff_not, beq_iff_eq, beq_eq_false_iff_ne, ne_eq, Bool.not_eq_true', Bool.not_eq_false', gt_iff_lt, ge_iff_le, Int.not_lt, Int.not_le] at hb) <;> (try (exfalso; first | contradiction | omega | exact hb rfl)))
         | (refine Den.pcallE (β := Plc) (fun v => .agg ([.int .i64 v.k, .int .i64 v.n, .int .i64 v.c])) (as' := [.agg [.int .i64 _, .int .i64 _], .int .i64 _]) (by first | with_reducible rfl | (subst ho; rfl)) (impl_nameAt.ans o ho _ _ _) ?_; rotate_left 0; rintro ⟨v0, v1, v2⟩ hv)
         | (refine Den.gcF ho (β := Unit) (r := ()) (fun v => .tup []) (.out 0) (xs := [.pbx (.out 0) 0, .agg [.int .i64 _, .int .i64 _, .int .i64 _], .agg [.int .i64 _, .int .i64 _, .int .i64 _]]) (by rfl) (by rfl) (by rfl) (fun t0 tk0 hl0 => impl_flower_flow.gns o ho _ _ _ _ _ t0 tk0 hl0 _ _ _ _ _ _ ?_ ?_) ?_ ?_; rotate_left 3; rintro _ t' tk' _ hl')
         | (refine Den.gcF ho (β := Unit) (r := ()) (fun v => .tup []) (.out 0) (xs := [.pbx (.out 0) 0, .agg [.int .i64 _, .int .i64 _, .int .i64 _], .agg [.int .i64 _, .int .i64 _, .int .i64 _]]) (by rfl) (by rfl) (by rfl) (fun t0 tk0 hl0 => impl_flower_add.gns o ho _ _ _ _ _ t0 tk0 hl0 _ _ _ _ _ _ ?_) ?_ ?_; rotate_left 2; rintro _ t' tk' _ hl')
         | (refine Den.gcF ho (β := Unit) (r := ()) (fun v => .tup []) (.out 0) (xs := [.pbx (.out 0) 0, .int .i64 _, .int .i64 _]) (by rfl) (by rfl) (by rfl) (fun t0 tk0 hl0 => impl_flower_see.gns o ho _ _ _ _ _ t0 tk0 hl0 _ _ ?_) ?_ ?_; rotate_left 2; rintro _ t' tk' _ hl')
         | (refine Den.gcF ho (β := Unit) (r := ()) (fun v => .tup []) (.out 0) (xs := [.pbx (.out 0) 0, .int .i64 _, .int .i64 _, .int .i64 _, .int .i64 _]) (by rfl) (by rfl) (by rfl) (fun t0 tk0 hl0 => impl_flower_raise.gns o ho _ _ _ _ _ t0 tk0 hl0 _ _ _ _ ?_ ?_) ?_ ?_; rotate_left 3; rintro _ t' tk' _ hl')
         | (refine Den.gcF ho (β := Unit) (r := ()) (fun v => .tup []) (.out 0) (xs := [.pbx (.out 0) 0, .int .i64 _, .int .i64 _, .agg [.int .i64 _, .int .i64 _, .int .i64 _, .int .i64 _, .int .i64 _, .str _, .str _]]) (by rfl) (by rfl) (by rfl) (fun t0 tk0 hl0 => impl_flower_other.gns o ho _ _ _ _ _ t0 tk0 hl0 _ _ _ _ _ _ _ _ _ ?_ ?_ ?_) ?_ ?_; rotate_left 4; rintro _ t' tk' _ hl')
         | (refine Den.fetchXNd ho ?_ ?_ (fun y hy => ?_); rotate_left 2; rcases y with ⟨y0, y1, y2, y3, y4, y5, y6⟩)
         | (refine Den.fetchXBd ho ?_ ?_ (fun y hy => ?_); rotate_left 2; rcases y with ⟨y0, y1⟩)
         | (refine Den.needD ho (by kernel_rfl) ?_)
         | (refine Den.done ⟨by first | exact Or.inl rfl | exact Or.inr rfl, ?_⟩; refine ⟨_, by (conv => lhs; cbv) <;> rfl, ?_, _, _, by rfl, ?_, ?_⟩; first | (focus ((conv => lhs; cbv); done)) | ((conv => lhs; cbv); refine congrArg some ?_)))
    | ((fail_if_success (refine Den.id ?_))
       first
         | (subst ho; exact hl)
         | (subst ho; exact hl')
         | (have hq1 := len_flowI hF; have hq2 := hq1 0 y2 c 0 i c; have hq5 : ∀ a b, (seeL a b).length = 1 := fun a b => rfl; simp only [List.length_append, List.length_cons, List.length_nil, hq5]; omega)
         | ((try clear iha); subst ho; (try refine congrArg eFc ?_); unfold nodeI; simp [*, flowP]; done)
         | assumption
         | omega))
end Go.Mach
end
section
set_option linter.unusedVariables false
set_option linter.unusedSimpArgs false
namespace Go.Mach
open Go Go.RowKit Go.Proofs
set_option maxRecDepth 100000
set_option maxHeartbeats 6000000
noncomputable def impl_pass_pre.fi : FnI := { fni Tryz.f118 (fun | 3 => [3, 10, 20, 21, 22] | _ => []) false with body := takeC 3 (bodyOf Tryz.f118) }
theorem impl_pass_pre.part {xa xb : Option (List D → Option D)} (o : Std) (ho : o = std) (l : List Nd) (us : List Bd) (dp : Int) (fs : List Fc) (h0 : Fok l fs) (h1 : Lok l us) : AnsI (env xa xb) impl_pass_pre.fi .normal (fun s => if s.t.length = 50 then s.t[13]? else none) [.sl .ro 7 (o.bx fun _ => eNd l), .sl .ro 2 (o.bx fun _ => eBd us), .int .i64 dp, .sl .ro 6 (o.bx fun _ => eFc fs)] (fun d_ tk_ => ∃ (tq : Tok) , d_ = .sl tq 6 (o.bx fun _ => eFc (moreI l us dp fs ++ fs)) ∧ (Lw tk_ tq (moreI l us dp fs ++ fs).length)) := by
  refine AnsI.mkA ho (by rfl) ?_
  have hs := h1.size; have hfl := h0.len
  repeat' (first
    | (refine Den.id ?_
       (try (conv => arg 2; cbv))
       first
         | (refine Den.indF (fun m_ s_ => ∃ (a21 : Int) (a22 : Int) (tk : List Nat) (ua : Tok) (ema : Box), s_ = ⟨[.junk, .junk, .junk, .sl .ro 6 (o.bx fun _ => eFc fs), .junk, .junk, .junk, .junk, .junk, .junk, .pbx (.loc 0) 0, .junk, .junk, .junk, .junk, .junk, .junk, .junk, .junk, .junk, .sl .ro 6 (o.bx fun _ => eFc fs), .int .i64 a21, .int .i64 a22] ++ List.replicate 27 .junk, [[cells5 (o.bx fun _ => eNd l) (o.bx fun _ => eBd us) dp (o.bx fun _ => eFc fs) ua ema]], [], tk⟩ ∧ (Lw tk ua ema.length ∧ ema = (o.bx fun _ => eFc (moreT l us dp fs (fs.take a22.toNat))) ∧ a21 = fs.length ∧ 0 ≤ a22 ∧ a22 ≤ fs.length) ∧ (fs.length - a22).toNat ≤ m_) _ _ ⟨_, _, _, _, _, by subst ho; rfl, ?_, Nat.le_refl _⟩ ?_
            rotate_right
            rintro m_ _ ⟨a21, a22, tk, ua, ema, rfl, hIa, hka⟩ iha
            obtain ⟨hla0, rfl, i1, i2, i3⟩ := hIa; have hml := len_moreT2 h0 h1 dp a22.toNat; refine Den.unloopA ho ?_
            repeat' (first
              | (refine Den.id ?_
                 (try (conv => arg 2; cbv))
                 first
                   | (refine Den.test (fun hr => ?_) (fun hr => ?_) <;> (have hb := hr) <;> (try simp (disch := omega) only [ho, std, wI, len_eK, len_eB, len_eNd, len_eLNd, len_eFc, len_eAb, len_eBd, len_eEd, len_eLBd, Classical.not_not, decide_eq_true_eq, decide_eq_false_iff_not, beq_iff_eq, beq_eq_false_iff_ne, ne_eq, Bool.not_eq_true', Bool.not_eq_false', Bool.not_eq_true, Bool.not_eq_false, gt_iff_lt, ge_iff_le, Int.not_lt, Int.not_le] at hb) <;> (try (exfalso; first | contradiction | omega | exact hb rfl)))
                   | (refine Den.gcF ho (β := Unit) (r := ()) (fun v => .tup []) (.loc 0) (xs := [.pbx (.out 0) 0, .int .i64 _, .int .i64 _]) (by rfl) (by rfl) (by rfl) (fun t0 tk0 hl0 => impl_flower_node.gns o ho _ _ _ _ _ t0 tk0 hl0 _ _ ?_ ?_ ?_ ?_) ?_ ?_; rotate_left 5; rintro _ t' tk' _ hl')
                   | (refine Den.fetchXFc ho ?_ ?_ (fun y hy => ?_); rotate_left 2; rcases y with ⟨yk, yn, yc, yvk, yvn, yvc⟩; (have hyf := hy))
                   | (refine Den.need ?_ ?_)
                   | (refine Den.app1w ?_ (fun t' tk' hl' => ?_))
                   | (refine iha _ _ ?_ ⟨_, _, _, _, _, by subst ho; rfl, ?_, Nat.le_refl _⟩)
                   | (refine Den.done ⟨rfl, ?_⟩; refine ⟨_, by (conv => lhs; cbv) <;> rfl, ?_⟩))
              | ((fail_if_success (refine Den.id ?_))
                 first
                   | (subst ho; exact hla0)
                   | (subst ho; exact ⟨.nil, rfl, by simp [std, len_eFc], Int.le_refl _, by omega⟩)
                   | (subst ho; have he : a22.toNat = fs.length := (by omega); have e : moreT l us dp fs (fs.take a22.toNat) = moreI l us dp fs := (by rw [he, List.take_length, moreT_all]); rw [← e]; refine ⟨t', congrArg (D.sl t' 6) (by simp [std, eFc]), ?_⟩; show Lw tk' t' (moreT l us dp fs (fs.take a22.toNat) ++ fs).length; simpa [std, len_eFc] using hl')
                   | (exact rF_node h0 i2 (by omega) hyf)
                   | (subst ho; simp (disch := omega) only [std, wI]; exact ⟨hla0, congrArg eFc (moreT_miss i2 (by omega) hyf (by assumption)).symm, i1, by omega, by omega⟩)
                   | (subst ho; simp (disch := omega) only [std, wI]; exact ⟨hl', congrArg eFc (moreT_hit i2 (by omega) hyf (by assumption)).symm, i1, by omega, by omega⟩)
                   | assumption
                   | omega
                   | (subst ho; simp [std, len_eFc, len_eNd, len_eBd, len_eAb, len_eLBd, len_eK, len_eB]; omega)
                   | (subst ho; simp (disch := omega) only [std, wI, tdiv2, tdivN, len_eFc, len_eNd, len_eBd, len_eAb, len_eLBd, len_eK, len_eB] <;> first | done | rfl | omega)))))
    | ((fail_if_success (refine Den.id ?_))
       first
         | fail))
end Go.Mach
end
section
set_option linter.unusedVariables false
set_option linter.unusedSimpArgs false
namespace Go.Mach
open Go Go.RowKit Go.Proofs
set_option maxRecDepth 100000
set_option maxHeartbeats 6000000
theorem impl_bindsIn.ans {xa xb : Option (List D → Option D)} (o : Std) (ho : o = std) (n_f0 : Int) (n_f1 : Int) (n_f2 : Int) (n_f3 : Int) (n_f4 : Int) (n_f5 : ByteArray) (n_f6 : ByteArray) (kid : Int) : Ans (env xa xb) 182 [.agg [.int .i64 n_f0, .int .i64 n_f1, .int .i64 n_f2, .int .i64 n_f3, .int .i64 n_f4, .str n_f5, .str n_f6], .int .i64 kid] (.tup [.sl .ro 1 (o.bx fun _ => eB (bindM (⟨n_f0, n_f1, n_f2, n_f3, n_f4, n_f5, n_f6⟩ : Nd) kid).1), .sl .ro 1 (o.bx fun _ => eK .i64 (bindM (⟨n_f0, n_f1, n_f2, n_f3, n_f4, n_f5, n_f6⟩ : Nd) kid).2)]) := by
  refine Ans.mkA ho _ rfl rfl ?_
  repeat' (first
    | (refine Den.id ?_
       (try (conv => arg 2; cbv))
       first
         | refine Den.testT ?_
         | refine Den.testF ?_
         | refine Den.test1 (by with_reducible assumption) ?_
         | refine Den.test0 (by with_reducible assumption) ?_
         | (refine Den.test (fun hr => ?_) (fun hr => ?_) <;> (have hb := hr) <;> (try simp (disch := omega) only [ho, std, wI, len_eK, len_eB, len_eNd, len_eLNd, len_eFc, len_eAb, len_eBd, len_eEd, len_eLBd, Classical.not_not, decide_eq_true_eq, decide_eq_false_iff_not, beq_iff_eq, beq_eq_false_iff_ne, ne_eq, Bool.not_eq_true', Bool.not_eq_false', Bool.not_eq_true, Bool.not_eq_false, gt_iff_lt, ge_iff_le, Int.not_lt, Int.not_le] at hb) <;> (try (exfalso; first | contradiction | omega | exact hb rfl)))
         | (refine Den.done ⟨by first | exact Or.inl rfl | exact Or.inr rfl, ?_⟩; (conv => lhs; cbv); refine congrArg some ?_))
    | ((fail_if_success (refine Den.id ?_))
       first
         | (subst ho; unfold bindM; dsimp only; first | (rw [if_pos (by omega)]; rfl) | (rw [if_neg (by omega), if_pos (by omega)]; rfl) | (rw [if_neg (by omega), if_neg (by omega), if_pos (by omega)]; rfl) | (rw [if_neg (by omega), if_neg (by omega), if_neg (by omega)]; rfl))))
end Go.Mach
end
section
set_option linter.unusedVariables false
set_option linter.unusedSimpArgs false
namespace Go.Mach
open Go Go.RowKit Go.Proofs
set_option maxRecDepth 100000
set_option maxHeartbeats 6000000
theorem impl_parents.ans {xa xb : Option (List D → Option D)} (o : Std) (ho : o = std) (l : List Nd) (h0 : OkT l) : Ans (env xa xb) 104 [.sl .ro 7 (o.bx fun _ => eNd l)] (.sl .ro 1 (o.bx fun _ => eK .i64 (parsM l))) := by
  refine Ans.mkA ho _ rfl rfl ?_
  have hs := h0.size
  repeat' (first
    | (refine Den.id ?_
       (try (conv => arg 2; cbv))
       first
         | (refine Den.need ?_ ?_)
         | (refine Den.indF (fun m_ s_ => ∃ (a13 : Int) (a14 : Int) (tk : List Nat) (bx0 : Box) (nn : Nat), s_ = ⟨[.sl .ro 7 (o.bx fun _ => eNd l), .junk, .junk, .asl (.loc 0) 1 nn, .junk, .junk, .junk, .junk, .junk, .junk, .junk, .junk, .junk, .int .i64 a13, .int .i64 a14] ++ List.replicate 27 .junk, [bx0], [], tk⟩ ∧ (bx0 = (o.bx fun _ => eK .i64 (List.replicate a14.toNat (-1) ++ List.replicate (l.length - a14.toNat) 0)) ∧ nn = l.length ∧ a13 = l.length ∧ 0 ≤ a14 ∧ a14 ≤ l.length) ∧ (l.length - a14).toNat ≤ m_) _ _ ⟨_, _, _, _, _, by subst ho; rfl, ?_, Nat.le_refl _⟩ ?_
            rotate_right
            rintro m_ _ ⟨a13, a14, tk, bx0, nn, rfl, hIa, hka⟩ iha
            obtain ⟨rfl, hnn, h17, i1, i2⟩ := hIa; have hbl : (List.replicate a14.toNat (-1 : Int) ++ List.replicate (l.length - a14.toNat) 0).length = l.length := (by simp; omega); refine Den.unloopA ho ?_
            repeat' (first
              | (refine Den.id ?_
                 (try (conv => arg 2; cbv))
                 first
                   | (refine Den.test (fun hr => ?_) (fun hr => ?_) <;> (have hb := hr) <;> (try simp (disch := omega) only [ho, std, wI, len_eK, len_eB, len_eNd, len_eLNd, len_eFc, len_eAb, len_eBd, len_eEd, len_eLBd, Classical.not_not, decide_eq_true_eq, decide_eq_false_iff_not, beq_iff_eq, beq_eq_false_iff_ne, ne_eq, Bool.not_eq_true', Bool.not_eq_false', Bool.not_eq_true, Bool.not_eq_false, gt_iff_lt, ge_iff_le, Int.not_lt, Int.not_le] at hb) <;> (try (exfalso; first | contradiction | omega | exact hb rfl)))
                   | (refine Den.fetchYK ho ?_ ?_ (by with_reducible assumption) ?_)
                   | (refine Den.fetchXK ho ?_ ?_ (fun y hy => ?_); rotate_left 2; (first | (have _h := hkk) | (obtain ⟨kk, ek⟩ : ∃ z, z = y := ⟨_, rfl⟩; subst ek; have hkk := hy; (try have hks := hq2.step (k := kk) h0 j1 (by omega) k3 (by rw [← k1]; omega) (by rw [← k1]; exact hkk)))))
                   | (refine Den.indF (fun m_ s_ => ∃ (b22 : Int) (b23 : Int) (tk : List Nat) (bx1 : Box) (q : List Int), s_ = ⟨[.junk, .junk, .junk, .asl (.loc 0) 1 nn, .junk, .junk, .junk, .junk, .junk, .junk, .junk, .junk, .junk, .junk, .junk, .junk, .junk, .junk, .junk, .junk, .junk, .sl .ro 7 (o.bx fun _ => eNd l), .int .i64 b22, .int .i64 b23] ++ List.replicate 18 .junk, [bx1], [], tk⟩ ∧ (bx1 = (o.bx fun _ => eK .i64 q) ∧ ParU l b23 q ∧ b22 = l.length ∧ 0 ≤ b23 ∧ b23 ≤ l.length) ∧ (l.length - b23).toNat ≤ m_) _ _ ⟨_, _, _, _, (List.replicate l.length (-1)), by subst ho; rfl, ?_, Nat.le_refl _⟩ ?_
                      rotate_right
                      rintro m_ _ ⟨b22, b23, tk, bx1, q, rfl, hIb, hkb⟩ ihb
                      obtain ⟨rfl, hq, h22, j1, j2⟩ := hIb; have hql := hq.1; refine Den.unloopA ho ?_
                      repeat' (first
                        | (refine Den.id ?_
                           (try (conv => arg 2; cbv))
                           first
                             | (refine Den.test (fun hr => ?_) (fun hr => ?_) <;> (have hb := hr) <;> (try simp (disch := omega) only [ho, std, wI, len_eK, len_eB, len_eNd, len_eLNd, len_eFc, len_eAb, len_eBd, len_eEd, len_eLBd, Classical.not_not, decide_eq_true_eq, decide_eq_false_iff_not, beq_iff_eq, beq_eq_false_iff_ne, ne_eq, Bool.not_eq_true', Bool.not_eq_false', Bool.not_eq_true, Bool.not_eq_false, gt_iff_lt, ge_iff_le, Int.not_lt, Int.not_le] at hb) <;> (try (exfalso; first | contradiction | omega | exact hb rfl)))
                             | (refine Den.done ⟨by first | exact Or.inl rfl | exact Or.inr rfl, ?_⟩; refine (outD_asl (t := 2) (i := 0) (z := 1) (by rfl) (by rfl) ?_).trans ?_)
                             | (refine Den.pcallE (β := List Int) (fun v => .sl .ro 1 (o.bx fun _ => eK .i64 v)) (as' := [.agg [.int .i64 _, .int .i64 _, .int .i64 _, .int .i64 _, .int .i64 _, .str _, .str _]]) (by first | with_reducible rfl | (subst ho; rfl)) (impl_Kids.ans o ho _ _ _ _ _ _ _) ?_; rotate_left 0; rintro v hv)
                             | (refine Den.fetchXNd ho ?_ ?_ (fun y hy => ?_); rotate_left 2; rcases y with ⟨y0, y1, y2, y3, y4, y5, y6⟩)
                             | (refine Den.indF (fun m_ s_ => ∃ (c29 : List Int) (c30 : Int) (c31 : Int) (tc29 : Tok) (tk : List Nat) (bx2 : Box) (q2 : List Int), s_ = ⟨[.junk, .junk, .junk, .asl (.loc 0) 1 nn, .junk, .int .i64 b23, .junk, .junk, .junk, .junk, .junk, .junk, .junk, .junk, .junk, .junk, .junk, .junk, .junk, .junk, .junk, .sl .ro 7 (o.bx fun _ => eNd l), .int .i64 b22, .int .i64 b23, .junk, .junk, .junk, .junk, .junk, .sl tc29 1 (o.bx fun _ => eK .i64 c29), .int .i64 c30, .int .i64 c31] ++ List.replicate 10 .junk, [bx2, [[.int .i64 y0, .int .i64 y1, .int .i64 y2, .int .i64 y3, .int .i64 y4, .str y5, .str y6]]], [], tk⟩ ∧ (bx2 = (o.bx fun _ => eK .i64 q2) ∧ ParK l b23 c31 q2 ∧ c29 = kidsM (rN l b23) ∧ c30 = c29.length ∧ 0 ≤ c31 ∧ c31 ≤ c29.length) ∧ (c29.length - c31).toNat ≤ m_) _ _ ⟨_, _, _, _, _, _, q, by subst ho; rfl, ?_, Nat.le_refl _⟩ ?_
                                rotate_right
                                rintro m_ _ ⟨c29, c30, c31, tc29, tk, bx2, q2, rfl, hIc, hkc⟩ ihc
                                obtain ⟨rfl, hq2, k1, k2, k3, k4⟩ := hIc; have hql2 := hq2.1; have hkl := len_kids3 (rN l b23); rw [← k1] at hkl; refine Den.unloopA ho ?_
                                repeat' (first
                                  | (refine Den.id ?_
                                     (try (conv => arg 2; cbv))
                                     first
                                       | (refine Den.test (fun hr => ?_) (fun hr => ?_) <;> (have hb := hr) <;> (try simp (disch := omega) only [ho, std, wI, len_eK, len_eB, len_eNd, len_eLNd, len_eFc, len_eAb, len_eBd, len_eEd, len_eLBd, Classical.not_not, decide_eq_true_eq, decide_eq_false_iff_not, beq_iff_eq, beq_eq_false_iff_ne, ne_eq, Bool.not_eq_true', Bool.not_eq_false', Bool.not_eq_true, Bool.not_eq_false, gt_iff_lt, ge_iff_le, Int.not_lt, Int.not_le] at hb) <;> (try (exfalso; first | contradiction | omega | exact hb rfl)))
                                       | (refine Den.fetchYK ho ?_ ?_ (by with_reducible assumption) ?_)
                                       | (refine Den.fetchXK ho ?_ ?_ (fun y hy => ?_); rotate_left 2; (first | (have _h := hkk) | (obtain ⟨kk, ek⟩ : ∃ z, z = y := ⟨_, rfl⟩; subst ek; have hkk := hy; (try have hks := hq2.step (k := kk) h0 j1 (by omega) k3 (by rw [← k1]; omega) (by rw [← k1]; exact hkk)))))
                                       | (refine ihc _ _ ?_ ⟨_, _, _, _, _, _, (q2.set kk.toNat b23), by subst ho; rfl, ?_, Nat.le_refl _⟩)
                                       | (refine ihb _ _ ?_ ⟨_, _, _, _, q2, by subst ho; rfl, ?_, Nat.le_refl _⟩))
                                  | ((fail_if_success (refine Den.id ?_))
                                     first
                                       | (have e1 : v = kidsM (rN l b23) := (at_nd (P := fun x => v = kidsM x) (by assumption) hv.symm); subst ho; exact ⟨rfl, hq.kids, e1, by simp [std, len_eK], Int.le_refl _, by omega⟩)
                                       | (subst ho; simp (disch := omega) only [std, wI]; rw [set_eK]; exact ⟨rfl, hks.2.2, k1, k2, by omega, by omega⟩)
                                       | (subst ho; refine ⟨rfl, ?_, h22, ?_⟩ <;> simp (disch := omega) only [std, wI] <;> first | exact hq2.fin h0 j1 (by omega) (by rw [← k1]; omega) | omega)
                                       | assumption
                                       | omega
                                       | (subst ho; simp (disch := omega) only [std, wI, tdiv2, tdivN, len_eFc, len_eNd, len_eBd, len_eAb, len_eLBd, len_eK, len_eB] <;> first | done | rfl | omega)))))
                        | ((fail_if_success (refine Den.id ?_))
                           first
                             | (subst ho; exact cells_eK _ _)
                             | (rw [hq.fin h0 (by omega)] <;> rfl)
                             | (subst ho; refine ⟨?_, ParU.start, by simp [std, len_eNd], Int.le_refl _, by omega⟩; simp only [std]; rw [fill_end (by omega)])
                             | assumption
                             | omega)))
                   | (refine iha _ _ ?_ ⟨_, _, _, _, _, by subst ho; rfl, ?_, Nat.le_refl _⟩))
              | ((fail_if_success (refine Den.id ?_))
                 first
                   | (subst ho; simp (disch := omega) only [std, wI]; rw [set_eK, fill_set i1 (by omega)]; exact ⟨rfl, hnn, h17, by omega, by omega⟩)
                   | (subst ho; refine ⟨?_, by simp [std, len_eNd], by simp [std, len_eNd], Int.le_refl _, by omega⟩; simp only [std, len_eNd, Int.toNat_natCast]; rw [rep_eK]; simp; done)
                   | assumption
                   | omega
                   | (subst ho; simp (disch := omega) only [std, wI, tdiv2, tdivN, len_eFc, len_eNd, len_eBd, len_eAb, len_eLBd, len_eK, len_eB] <;> first | done | rfl | omega))))
         | (refine Den.indF (fun m_ s_ => ∃ (b22 : Int) (b23 : Int) (tk : List Nat) (bx1 : Box) (q : List Int), s_ = ⟨[.junk, .junk, .junk, .asl (.loc 0) 1 nn, .junk, .junk, .junk, .junk, .junk, .junk, .junk, .junk, .junk, .junk, .junk, .junk, .junk, .junk, .junk, .junk, .junk, .sl .ro 7 (o.bx fun _ => eNd l), .int .i64 b22, .int .i64 b23] ++ List.replicate 18 .junk, [bx1], [], tk⟩ ∧ (bx1 = (o.bx fun _ => eK .i64 q) ∧ ParU l b23 q ∧ b22 = l.length ∧ 0 ≤ b23 ∧ b23 ≤ l.length) ∧ (l.length - b23).toNat ≤ m_) _ _ ⟨_, _, _, _, (List.replicate l.length (-1)), by subst ho; rfl, ?_, Nat.le_refl _⟩ ?_
            rotate_right
            rintro m_ _ ⟨b22, b23, tk, bx1, q, rfl, hIb, hkb⟩ ihb
            obtain ⟨rfl, hq, h22, j1, j2⟩ := hIb; have hql := hq.1; refine Den.unloopA ho ?_
            repeat' (first
              | (refine Den.id ?_
                 (try (conv => arg 2; cbv))
                 first
                   | (refine Den.indF (fun m_ s_ => ∃ (a13 : Int) (a14 : Int) (tk : List Nat) (bx0 : Box) (nn : Nat), s_ = ⟨[.sl .ro 7 (o.bx fun _ => eNd l), .junk, .junk, .asl (.loc 0) 1 nn, .junk, .junk, .junk, .junk, .junk, .junk, .junk, .junk, .junk, .int .i64 a13, .int .i64 a14] ++ List.replicate 27 .junk, [bx0], [], tk⟩ ∧ (bx0 = (o.bx fun _ => eK .i64 (List.replicate a14.toNat (-1) ++ List.replicate (l.length - a14.toNat) 0)) ∧ nn = l.length ∧ a13 = l.length ∧ 0 ≤ a14 ∧ a14 ≤ l.length) ∧ (l.length - a14).toNat ≤ m_) _ _ ⟨_, _, _, _, _, by subst ho; rfl, ?_, Nat.le_refl _⟩ ?_
                      rotate_right
                      rintro m_ _ ⟨a13, a14, tk, bx0, nn, rfl, hIa, hka⟩ iha
                      obtain ⟨rfl, hnn, h17, i1, i2⟩ := hIa; have hbl : (List.replicate a14.toNat (-1 : Int) ++ List.replicate (l.length - a14.toNat) 0).length = l.length := (by simp; omega); refine Den.unloopA ho ?_
                      repeat' (first
                        | (refine Den.id ?_
                           (try (conv => arg 2; cbv))
                           first
                             | (refine Den.indF (fun m_ s_ => ∃ (c29 : List Int) (c30 : Int) (c31 : Int) (tc29 : Tok) (tk : List Nat) (bx2 : Box) (q2 : List Int), s_ = ⟨[.junk, .junk, .junk, .asl (.loc 0) 1 nn, .junk, .int .i64 b23, .junk, .junk, .junk, .junk, .junk, .junk, .junk, .junk, .junk, .junk, .junk, .junk, .junk, .junk, .junk, .sl .ro 7 (o.bx fun _ => eNd l), .int .i64 b22, .int .i64 b23, .junk, .junk, .junk, .junk, .junk, .sl tc29 1 (o.bx fun _ => eK .i64 c29), .int .i64 c30, .int .i64 c31] ++ List.replicate 10 .junk, [bx2, [[.int .i64 y0, .int .i64 y1, .int .i64 y2, .int .i64 y3, .int .i64 y4, .str y5, .str y6]]], [], tk⟩ ∧ (bx2 = (o.bx fun _ => eK .i64 q2) ∧ ParK l b23 c31 q2 ∧ c29 = kidsM (rN l b23) ∧ c30 = c29.length ∧ 0 ≤ c31 ∧ c31 ≤ c29.length) ∧ (c29.length - c31).toNat ≤ m_) _ _ ⟨_, _, _, _, _, _, q, by subst ho; rfl, ?_, Nat.le_refl _⟩ ?_
                                rotate_right
                                rintro m_ _ ⟨c29, c30, c31, tc29, tk, bx2, q2, rfl, hIc, hkc⟩ ihc
                                obtain ⟨rfl, hq2, k1, k2, k3, k4⟩ := hIc; have hql2 := hq2.1; have hkl := len_kids3 (rN l b23); rw [← k1] at hkl; refine Den.unloopA ho ?_
                                repeat' (first
                                  | (refine Den.id ?_
                                     (try (conv => arg 2; cbv))
                                     first
                                       | fail)
                                  | ((fail_if_success (refine Den.id ?_))
                                     first
                                       | fail))))
                        | ((fail_if_success (refine Den.id ?_))
                           first
                             | fail)))
                   | (refine Den.indF (fun m_ s_ => ∃ (c29 : List Int) (c30 : Int) (c31 : Int) (tc29 : Tok) (tk : List Nat) (bx2 : Box) (q2 : List Int), s_ = ⟨[.junk, .junk, .junk, .asl (.loc 0) 1 nn, .junk, .int .i64 b23, .junk, .junk, .junk, .junk, .junk, .junk, .junk, .junk, .junk, .junk, .junk, .junk, .junk, .junk, .junk, .sl .ro 7 (o.bx fun _ => eNd l), .int .i64 b22, .int .i64 b23, .junk, .junk, .junk, .junk, .junk, .sl tc29 1 (o.bx fun _ => eK .i64 c29), .int .i64 c30, .int .i64 c31] ++ List.replicate 10 .junk, [bx2, [[.int .i64 y0, .int .i64 y1, .int .i64 y2, .int .i64 y3, .int .i64 y4, .str y5, .str y6]]], [], tk⟩ ∧ (bx2 = (o.bx fun _ => eK .i64 q2) ∧ ParK l b23 c31 q2 ∧ c29 = kidsM (rN l b23) ∧ c30 = c29.length ∧ 0 ≤ c31 ∧ c31 ≤ c29.length) ∧ (c29.length - c31).toNat ≤ m_) _ _ ⟨_, _, _, _, _, _, q, by subst ho; rfl, ?_, Nat.le_refl _⟩ ?_
                      rotate_right
                      rintro m_ _ ⟨c29, c30, c31, tc29, tk, bx2, q2, rfl, hIc, hkc⟩ ihc
                      obtain ⟨rfl, hq2, k1, k2, k3, k4⟩ := hIc; have hql2 := hq2.1; have hkl := len_kids3 (rN l b23); rw [← k1] at hkl; refine Den.unloopA ho ?_
                      repeat' (first
                        | (refine Den.id ?_
                           (try (conv => arg 2; cbv))
                           first
                             | (refine Den.indF (fun m_ s_ => ∃ (a13 : Int) (a14 : Int) (tk : List Nat) (bx0 : Box) (nn : Nat), s_ = ⟨[.sl .ro 7 (o.bx fun _ => eNd l), .junk, .junk, .asl (.loc 0) 1 nn, .junk, .junk, .junk, .junk, .junk, .junk, .junk, .junk, .junk, .int .i64 a13, .int .i64 a14] ++ List.replicate 27 .junk, [bx0], [], tk⟩ ∧ (bx0 = (o.bx fun _ => eK .i64 (List.replicate a14.toNat (-1) ++ List.replicate (l.length - a14.toNat) 0)) ∧ nn = l.length ∧ a13 = l.length ∧ 0 ≤ a14 ∧ a14 ≤ l.length) ∧ (l.length - a14).toNat ≤ m_) _ _ ⟨_, _, _, _, _, by subst ho; rfl, ?_, Nat.le_refl _⟩ ?_
                                rotate_right
                                rintro m_ _ ⟨a13, a14, tk, bx0, nn, rfl, hIa, hka⟩ iha
                                obtain ⟨rfl, hnn, h17, i1, i2⟩ := hIa; have hbl : (List.replicate a14.toNat (-1 : Int) ++ List.replicate (l.length - a14.toNat) 0).length = l.length := (by simp; omega); refine Den.unloopA ho ?_
                                repeat' (first
                                  | (refine Den.id ?_
                                     (try (conv => arg 2; cbv))
                                     first
                                       | fail)
                                  | ((fail_if_success (refine Den.id ?_))
                                     first
                                       | fail))))
                        | ((fail_if_success (refine Den.id ?_))
                           first
                             | fail))))
              | ((fail_if_success (refine Den.id ?_))
                 first
                   | fail))))
    | ((fail_if_success (refine Den.id ?_))
       first
         | (subst ho; simp [std, len_eFc, len_eNd, len_eBd, len_eAb, len_eLBd, len_eK, len_eB]; omega)))
end Go.Mach
end
