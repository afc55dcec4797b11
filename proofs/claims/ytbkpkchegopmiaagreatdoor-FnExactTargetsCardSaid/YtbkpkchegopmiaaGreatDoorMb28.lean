/- What the statements over Solve share: part 28 of a proof by an executable machine over the program's code. -/
import Derived.Test.YtbkpkchegopmiaaGreatDoorMb14
import Derived.Test.YtbkpkchegopmiaaGreatDoorMb27
section
set_option linter.unusedVariables false
set_option linter.unusedSimpArgs false
namespace Go.Mach
open Go Go.RowKit Go.Proofs
set_option maxRecDepth 100000
set_option maxHeartbeats 4000000
theorem impl_flower_both.gns {xa xb : Option (List D → Option D)} (o : Std) (ho : o = std) (l : List Nd) (us : List Bd) (dp : Int) (fs m : List Fc) (t : Tok) (tk : List Nat) (hl : Lw tk t (o.bx fun _ => eFc m).length) (i : Int) (c : Int) (n_f0 : Int) (n_f1 : Int) (n_f2 : Int) (n_f3 : Int) (n_f4 : Int) (n_f5 : ByteArray) (n_f6 : ByteArray) (a_k : Int) (a_n : Int) (a_c : Int) (b_k : Int) (b_n : Int) (b_c : Int) (h0 : Fok l fs) (h1 : Lok l us) (h2 : m.length + 960000000 ≤ 2900000000000) : Gns (env xa xb) 202 [.pbx (.out 0) 0, .int .i64 i, .int .i64 c, .agg [.int .i64 n_f0, .int .i64 n_f1, .int .i64 n_f2, .int .i64 n_f3, .int .i64 n_f4, .str n_f5, .str n_f6], .agg [.int .i64 a_k, .int .i64 a_n, .int .i64 a_c], .agg [.int .i64 b_k, .int .i64 b_n, .int .i64 b_c]] [[cells5 (o.bx fun _ => eNd l) (o.bx fun _ => eBd us) dp (o.bx fun _ => eFc fs) t (o.bx fun _ => eFc m)]] tk (FR o l us dp fs (m ++ (bothI l us dp fs i c (⟨n_f0, n_f1, n_f2, n_f3, n_f4, n_f5, n_f6⟩ : Nd) ⟨a_k, a_n, a_c⟩ ⟨b_k, b_n, b_c⟩)) (.tup [])) := by
  refine Gns.mkA (E := env xa xb) (f := 202) ho _ (by rfl) (by rfl) ?_
  have hF := h0; have hK := h1; have hu := h0.up; have hL := h0.len; have hp := h0.pos; have hL2 : fs.length ≤ 2900000000000 := (by omega)
  repeat' (first
    | (refine Den.id ?_
       (try (conv => arg 2; cbv))
       first
         | refine Den.testT ?_
         | refine Den.test1 (by with_reducible assumption) ?_
         | refine Den.test0 (by with_reducible assumption) ?_
         | refine Den.testN1 ho (by with_reducible assumption) ?_
         | refine Den.testN0 ho (by with_reducible assumption) ?_
         | (refine Den.test (fun hr => ?_) (fun hr => ?_) <;> (have hb := hr) <;> (try simp (disch := omega) only [ho, std, wI, len_eK, len_eB, len_eNd, len_eLNd, len_eFc, len_eAb, len_eBd, len_eEd, len_eLBd, Classical.not_not, decide_eq_true_eq, decide_eq_false_iff_not, beq_iff_eq, beq_eq_false_iff_ne, ne_eq, Bool.not_eq_true', Bool.not_eq_false', gt_iff_lt, ge_iff_le, Int.not_lt, Int.not_le] at hb) <;> (try (exfalso; first | contradiction | omega | exact hb rfl)))
         | (refine Den.gcF ho (β := List Ab) (fun v => .sl .ro 3 (o.bx fun _ => eAb v)) (.out 0) (xs := [.pbx (.out 0) 0, .agg [.int .i64 _, .int .i64 _, .int .i64 _]]) (by rfl) (by rfl) (by rfl) (fun t0 tk0 hl0 => impl_flower_values.gns o ho _ _ _ _ _ t0 tk0 hl0 _ _ _ ?_) ?_ ?_; rotate_left 2; rintro v t' tk' hv hl')
         | (refine Den.gcF ho (β := List Ab) (fun v => .sl .ro 3 (o.bx fun _ => eAb v)) (.out 0) (xs := [.pbx (.out 0) 0, .agg [.int .i64 _, .int .i64 _, .int .i64 _], .int .i64 _]) (by rfl) (by rfl) (by rfl) (fun t0 tk0 hl0 => impl_flower_those.gns o ho _ _ _ _ _ t0 tk0 hl0 _ _ _ _ ?_) ?_ ?_; rotate_left 2; rintro v t' tk' hv hl')
         | (refine Den.gcF ho (β := Unit) (r := ()) (fun v => .tup []) (.out 0) (xs := [.pbx (.out 0) 0, .agg [.int .i64 _, .int .i64 _, .int .i64 _], .agg [.int .i64 _, .int .i64 _, .int .i64 _]]) (by rfl) (by rfl) (by rfl) (fun t0 tk0 hl0 => impl_flower_add.gns o ho _ _ _ _ _ t0 tk0 hl0 _ _ _ _ _ _ ?_) ?_ ?_; rotate_left 2; rintro _ t' tk' _ hl')
         | (refine Den.gcF ho (β := Unit) (r := ()) (fun v => .tup []) (.out 0) (xs := [.pbx (.out 0) 0, .agg [.int .i64 _, .int .i64 _, .int .i64 _], .agg [.int .i64 _, .int .i64 _, .int .i64 _]]) (by rfl) (by rfl) (by rfl) (fun t0 tk0 hl0 => impl_flower_flow.gns o ho _ _ _ _ _ t0 tk0 hl0 _ _ _ _ _ _ ?_ ?_) ?_ ?_; rotate_left 3; rintro _ t' tk' _ hl')
         | (refine Den.indF (fun m_ s_ => ∃ (a46 : List Ab) (a47 : Int) (a48 : Int) (ema : Box) (ta46 ua : Tok) (tk : List Nat), s_ = ⟨[.pbx (.out 0) 0, .int .i64 i, .int .i64 c, .junk, .junk, .junk, .junk, .junk, .junk, .junk, .junk, .pbx (.loc 2) 0, .junk, .junk, .junk, .junk, .junk, .junk, .junk, .junk, .junk, .junk, .junk, .junk, .junk, .junk, .junk, .junk, .junk, .junk, .junk, .junk, .junk, .junk, .junk, .junk, .junk, .junk, .junk, .junk, .junk, .junk, .junk, .junk, .junk, .junk, .sl ta46 3 (o.bx fun _ => eAb a46), .int .i64 a47, .int .i64 a48] ++ List.replicate 70 .junk, [[[.int .i64 n_f0, .int .i64 n_f1, .int .i64 n_f2, .int .i64 n_f3, .int .i64 n_f4, .str n_f5, .str n_f6]], [[.int .i64 a_k, .int .i64 a_n, .int .i64 a_c]], [[.int .i64 b_k, .int .i64 b_n, .int .i64 b_c]], [[.int .i64 0, .int .i64 i, .int .i64 c]]], [[cells5 (o.bx fun _ => eNd l) (o.bx fun _ => eBd us) dp (o.bx fun _ => eFc fs) ua ema]], tk⟩ ∧ Lw tk ua ema.length ∧ ema = (o.bx fun _ => eFc (m ++ ((a46.take a48.toNat).flatMap fun f => callI l us dp fs i c f ⟨b_k, b_n, b_c⟩))) ∧ (a46 = thoseL fs a_k a_n a_c 1 ∧ a47 = a46.length ∧ 0 ≤ a48 ∧ a48 ≤ a46.length) ∧ (a46.length - a48).toNat ≤ m_) _ _ ⟨_, _, _, _, _, _, _, by subst ho; rfl, ?_, ?_, ?_, Nat.le_refl _⟩ ?_
            rotate_right
            rintro m_ _ ⟨a46, a47, a48, ema, ta46, ua, tk, rfl, hla0, rfl, hIa, hka⟩ iha
            obtain ⟨i1, i2, i3, i4⟩ := hIa; have hz := len_those fs a_k a_n a_c 1; rw [← i1] at hz; have hw := len_calls hF hK i1 i c dp ⟨b_k, b_n, b_c⟩ a48.toNat; have hw3 := List.length_take_le a48.toNat a46; refine Den.unloopA ho ?_
            repeat' (first
              | (refine Den.id ?_
                 (try (conv => arg 2; cbv))
                 first
                   | (refine Den.test (fun hr => ?_) (fun hr => ?_) <;> (have hb := hr) <;> (try simp (disch := omega) only [ho, std, wI, len_eK, len_eB, len_eNd, len_eLNd, len_eFc, len_eAb, len_eBd, len_eEd, len_eLBd, Classical.not_not, decide_eq_true_eq, decide_eq_false_iff_not, beq_iff_eq, beq_eq_false_iff_ne, ne_eq, Bool.not_eq_true', Bool.not_eq_false', gt_iff_lt, ge_iff_le, Int.not_lt, Int.not_le] at hb) <;> (try (exfalso; first | contradiction | omega | exact hb rfl)))
                   | (refine Den.gcF ho (β := Unit) (r := ()) (fun v => .tup []) (.out 0) (xs := [.pbx (.out 0) 0, .int .i64 _, .int .i64 _, .agg [.int .i64 _, .int .i64 _, .int .i64 _], .agg [.int .i64 _, .int .i64 _, .int .i64 _]]) (by rfl) (by rfl) (by rfl) (fun t0 tk0 hl0 => impl_flower_call.gns o ho _ _ _ _ _ t0 tk0 hl0 _ _ _ _ _ _ _ _ ?_ ?_ ?_ ?_ ?_) ?_ ?_; rotate_left 6; rintro _ t' tk' _ hl')
                   | (refine Den.fetchXAb ho ?_ ?_ (fun y hy => ?_); rotate_left 2; rcases y with ⟨yk, yn, yc⟩; (try (have ht := those_in hF i1 i3 (by omega) hy)); (try dsimp only at ht))
                   | (refine Den.indF (fun m_ s_ => ∃ (b104 : List Ab) (b105 : Int) (b106 : Int) (emb : Box) (tb104 ub : Tok) (tk : List Nat), s_ = ⟨[.pbx (.out 0) 0, .junk, .junk, .junk, .junk, .junk, .junk, .junk, .junk, .junk, .junk, .pbx (.loc 2) 0, .junk, .junk, .junk, .junk, .junk, .junk, .junk, .junk, .junk, .junk, .junk, .junk, .junk, .junk, .junk, .junk, .junk, .junk, .junk, .junk, .junk, .junk, .junk, .junk, .junk, .junk, .junk, .junk, .junk, .junk, .junk, .junk, .junk, .junk, .junk, .junk, .junk, .junk, .junk, .junk, .junk, .junk, .junk, .junk, .junk, .junk, .junk, .junk, .junk, .junk, .junk, .junk, .junk, .junk, .junk, .junk, .junk, .junk, .junk, .junk, .junk, .junk, .junk, .junk, .junk, .junk, .junk, .junk, .junk, .junk, .junk, .junk, .junk, .junk, .junk, .junk, .junk, .junk, .junk, .junk, .junk, .junk, .junk, .junk, .junk, .junk, .junk, .junk, .junk, .junk, .junk, .junk, .sl tb104 3 (o.bx fun _ => eAb b104), .int .i64 b105, .int .i64 b106] ++ List.replicate 12 .junk, [[[.int .i64 n_f0, .int .i64 n_f1, .int .i64 n_f2, .int .i64 n_f3, .int .i64 n_f4, .str n_f5, .str n_f6]], [[.int .i64 a_k, .int .i64 a_n, .int .i64 a_c]], [[.int .i64 b_k, .int .i64 b_n, .int .i64 b_c]], [[.int .i64 0, .int .i64 i, .int .i64 c]]], [[cells5 (o.bx fun _ => eNd l) (o.bx fun _ => eBd us) dp (o.bx fun _ => eFc fs) ub emb]], tk⟩ ∧ Lw tk ub emb.length ∧ emb = (o.bx fun _ => eFc (m ++ ([⟨0, i, c, ⟨0, 0, 0⟩⟩] ++ (b104.take b106.toNat).flatMap fun r => flowP fs ⟨b_k, b_n, b_c⟩ ⟨5, r.n, r.c⟩))) ∧ (b104 = thoseL fs a_k a_n a_c 5 ∧ b105 = b104.length ∧ 0 ≤ b106 ∧ b106 ≤ b104.length) ∧ (b104.length - b106).toNat ≤ m_) _ _ ⟨_, _, _, _, _, _, _, by subst ho; rfl, ?_, ?_, ?_, Nat.le_refl _⟩ ?_
                      rotate_right
                      rintro m_ _ ⟨b104, b105, b106, emb, tb104, ub, tk, rfl, hlb0, rfl, hIb, hkb⟩ ihb
                      obtain ⟨i1, i2, i3, i4⟩ := hIb; have hz := len_those fs a_k a_n a_c 5; rw [← i1] at hz; have hw := len_flatMap_le (fun r : Ab => flowP fs ⟨b_k, b_n, b_c⟩ ⟨5, r.n, r.c⟩) 2500 (fun v => len_flowPI hF _ _) (b104.take b106.toNat); have hw3 := List.length_take_le b106.toNat b104; refine Den.unloopA ho ?_
                      repeat' (first
                        | (refine Den.id ?_
                           (try (conv => arg 2; cbv))
                           first
                             | fail)
                        | ((fail_if_success (refine Den.id ?_))
                           first
                             | fail)))
                   | (refine iha _ _ ?_ ⟨_, _, _, _, _, _, _, by subst ho; rfl, ?_, ?_, ?_, Nat.le_refl _⟩)
                   | (refine Den.done ⟨by first | exact Or.inl rfl | exact Or.inr rfl, ?_⟩; refine ⟨_, by (conv => lhs; cbv) <;> rfl, ?_, _, _, by rfl, ?_, ?_⟩; first | (focus ((conv => lhs; cbv); done)) | ((conv => lhs; cbv); refine congrArg some ?_)))
              | ((fail_if_success (refine Den.id ?_))
                 first
                   | (subst ho; exact hl')
                   | (subst ho; exact hla0)
                   | (exact ht.2.2 ht.1)
                   | (exact ht.2.1)
                   | (have hq1 := len_flowI hF; simp only [List.length_append, List.length_cons, List.length_nil, seeL, flowP]; have hq8 := hq1 0 n_f1 c 0 i c; have hq2 := hq1 0 n_f2 c 0 i c; have hq3 := hq1 0 n_f3 c 0 i c; have hq4 := hq1 a_k a_n a_c 5 i c; have hq5 := hq1 a_k a_n a_c 0 i c; have hq6 := hq1 a_k a_n a_c 3 i c; have hq7 := hq1 b_k b_n b_c 4 i c; omega)
                   | (subst hv; subst ho; exact ⟨rfl, by simp [std, len_eAb], Int.le_refl _, by omega⟩)
                   | (simp (disch := omega) only [ho, std, wI]; exact ⟨i1, i2, by omega, by omega⟩)
                   | (subst ho; refine congrArg eFc ?_; simp; done)
                   | (subst ho; refine congrArg eFc ?_; simp (disch := omega) only [std, wI]; rw [flatMap_succ _ zA i3 (by omega), show rdG zA a46 a48 = ⟨yk, yn, yc⟩ from hy, List.append_assoc])
                   | ((try clear iha); (try clear ihb); subst ho; (try refine congrArg eFc ?_); (try first | (have e1 : (vals fs a_k a_n a_c).isEmpty = true := emp_t (by assumption) (by assumption)) | (have e1 : (vals fs a_k a_n a_c).isEmpty = false := emp_f (by assumption) (by assumption))); (try rw [show (vals fs a_k a_n a_c) = _ by assumption] at e1); (try first | (have e2 : (vals fs b_k b_n b_c).isEmpty = true := emp_t (by assumption) (by assumption)) | (have e2 : (vals fs b_k b_n b_c).isEmpty = false := emp_f (by assumption) (by assumption))); (try rw [show (vals fs b_k b_n b_c) = _ by assumption] at e2); (try rw [take_allG (by omega)]); unfold bothI; simp [*, flowP]; done)
                   | assumption
                   | omega
                   | (subst ho; simp (disch := omega) only [std, wI, tdiv2, tdivN, len_eFc, len_eNd, len_eBd, len_eAb, len_eLBd, len_eK, len_eB] <;> first | done | rfl | omega))))
         | (refine Den.indF (fun m_ s_ => ∃ (b104 : List Ab) (b105 : Int) (b106 : Int) (emb : Box) (tb104 ub : Tok) (tk : List Nat), s_ = ⟨[.pbx (.out 0) 0, .junk, .junk, .junk, .junk, .junk, .junk, .junk, .junk, .junk, .junk, .pbx (.loc 2) 0, .junk, .junk, .junk, .junk, .junk, .junk, .junk, .junk, .junk, .junk, .junk, .junk, .junk, .junk, .junk, .junk, .junk, .junk, .junk, .junk, .junk, .junk, .junk, .junk, .junk, .junk, .junk, .junk, .junk, .junk, .junk, .junk, .junk, .junk, .junk, .junk, .junk, .junk, .junk, .junk, .junk, .junk, .junk, .junk, .junk, .junk, .junk, .junk, .junk, .junk, .junk, .junk, .junk, .junk, .junk, .junk, .junk, .junk, .junk, .junk, .junk, .junk, .junk, .junk, .junk, .junk, .junk, .junk, .junk, .junk, .junk, .junk, .junk, .junk, .junk, .junk, .junk, .junk, .junk, .junk, .junk, .junk, .junk, .junk, .junk, .junk, .junk, .junk, .junk, .junk, .junk, .junk, .sl tb104 3 (o.bx fun _ => eAb b104), .int .i64 b105, .int .i64 b106] ++ List.replicate 12 .junk, [[[.int .i64 n_f0, .int .i64 n_f1, .int .i64 n_f2, .int .i64 n_f3, .int .i64 n_f4, .str n_f5, .str n_f6]], [[.int .i64 a_k, .int .i64 a_n, .int .i64 a_c]], [[.int .i64 b_k, .int .i64 b_n, .int .i64 b_c]], [[.int .i64 0, .int .i64 i, .int .i64 c]]], [[cells5 (o.bx fun _ => eNd l) (o.bx fun _ => eBd us) dp (o.bx fun _ => eFc fs) ub emb]], tk⟩ ∧ Lw tk ub emb.length ∧ emb = (o.bx fun _ => eFc (m ++ ([⟨0, i, c, ⟨0, 0, 0⟩⟩] ++ (b104.take b106.toNat).flatMap fun r => flowP fs ⟨b_k, b_n, b_c⟩ ⟨5, r.n, r.c⟩))) ∧ (b104 = thoseL fs a_k a_n a_c 5 ∧ b105 = b104.length ∧ 0 ≤ b106 ∧ b106 ≤ b104.length) ∧ (b104.length - b106).toNat ≤ m_) _ _ ⟨_, _, _, _, _, _, _, by subst ho; rfl, ?_, ?_, ?_, Nat.le_refl _⟩ ?_
            rotate_right
            rintro m_ _ ⟨b104, b105, b106, emb, tb104, ub, tk, rfl, hlb0, rfl, hIb, hkb⟩ ihb
            obtain ⟨i1, i2, i3, i4⟩ := hIb; have hz := len_those fs a_k a_n a_c 5; rw [← i1] at hz; have hw := len_flatMap_le (fun r : Ab => flowP fs ⟨b_k, b_n, b_c⟩ ⟨5, r.n, r.c⟩) 2500 (fun v => len_flowPI hF _ _) (b104.take b106.toNat); have hw3 := List.length_take_le b106.toNat b104; refine Den.unloopA ho ?_
            repeat' (first
              | (refine Den.id ?_
                 (try (conv => arg 2; cbv))
                 first
                   | (refine Den.test (fun hr => ?_) (fun hr => ?_) <;> (have hb := hr) <;> (try simp (disch := omega) only [ho, std, wI, len_eK, len_eB, len_eNd, len_eLNd, len_eFc, len_eAb, len_eBd, len_eEd, len_eLBd, Classical.not_not, decide_eq_true_eq, decide_eq_false_iff_not, beq_iff_eq, beq_eq_false_iff_ne, ne_eq, Bool.not_eq_true', Bool.not_eq_false', gt_iff_lt, ge_iff_le, Int.not_lt, Int.not_le] at hb) <;> (try (exfalso; first | contradiction | omega | exact hb rfl)))
                   | (refine Den.gcF ho (β := Unit) (r := ()) (fun v => .tup []) (.out 0) (xs := [.pbx (.out 0) 0, .agg [.int .i64 _, .int .i64 _, .int .i64 _], .agg [.int .i64 _, .int .i64 _, .int .i64 _]]) (by rfl) (by rfl) (by rfl) (fun t0 tk0 hl0 => impl_flower_flow.gns o ho _ _ _ _ _ t0 tk0 hl0 _ _ _ _ _ _ ?_ ?_) ?_ ?_; rotate_left 3; rintro _ t' tk' _ hl')
                   | (refine Den.fetchXAb ho ?_ ?_ (fun y hy => ?_); rotate_left 2; rcases y with ⟨yk, yn, yc⟩; (try (have ht := those_in hF i1 i3 (by omega) hy)); (try dsimp only at ht))
                   | (refine Den.indF (fun m_ s_ => ∃ (a46 : List Ab) (a47 : Int) (a48 : Int) (ema : Box) (ta46 ua : Tok) (tk : List Nat), s_ = ⟨[.pbx (.out 0) 0, .int .i64 i, .int .i64 c, .junk, .junk, .junk, .junk, .junk, .junk, .junk, .junk, .pbx (.loc 2) 0, .junk, .junk, .junk, .junk, .junk, .junk, .junk, .junk, .junk, .junk, .junk, .junk, .junk, .junk, .junk, .junk, .junk, .junk, .junk, .junk, .junk, .junk, .junk, .junk, .junk, .junk, .junk, .junk, .junk, .junk, .junk, .junk, .junk, .junk, .sl ta46 3 (o.bx fun _ => eAb a46), .int .i64 a47, .int .i64 a48] ++ List.replicate 70 .junk, [[[.int .i64 n_f0, .int .i64 n_f1, .int .i64 n_f2, .int .i64 n_f3, .int .i64 n_f4, .str n_f5, .str n_f6]], [[.int .i64 a_k, .int .i64 a_n, .int .i64 a_c]], [[.int .i64 b_k, .int .i64 b_n, .int .i64 b_c]], [[.int .i64 0, .int .i64 i, .int .i64 c]]], [[cells5 (o.bx fun _ => eNd l) (o.bx fun _ => eBd us) dp (o.bx fun _ => eFc fs) ua ema]], tk⟩ ∧ Lw tk ua ema.length ∧ ema = (o.bx fun _ => eFc (m ++ ((a46.take a48.toNat).flatMap fun f => callI l us dp fs i c f ⟨b_k, b_n, b_c⟩))) ∧ (a46 = thoseL fs a_k a_n a_c 1 ∧ a47 = a46.length ∧ 0 ≤ a48 ∧ a48 ≤ a46.length) ∧ (a46.length - a48).toNat ≤ m_) _ _ ⟨_, _, _, _, _, _, _, by subst ho; rfl, ?_, ?_, ?_, Nat.le_refl _⟩ ?_
                      rotate_right
                      rintro m_ _ ⟨a46, a47, a48, ema, ta46, ua, tk, rfl, hla0, rfl, hIa, hka⟩ iha
                      obtain ⟨i1, i2, i3, i4⟩ := hIa; have hz := len_those fs a_k a_n a_c 1; rw [← i1] at hz; have hw := len_calls hF hK i1 i c dp ⟨b_k, b_n, b_c⟩ a48.toNat; have hw3 := List.length_take_le a48.toNat a46; refine Den.unloopA ho ?_
                      repeat' (first
                        | (refine Den.id ?_
                           (try (conv => arg 2; cbv))
                           first
                             | fail)
                        | ((fail_if_success (refine Den.id ?_))
                           first
                             | fail)))
                   | (refine ihb _ _ ?_ ⟨_, _, _, _, _, _, _, by subst ho; rfl, ?_, ?_, ?_, Nat.le_refl _⟩)
                   | (refine Den.done ⟨by first | exact Or.inl rfl | exact Or.inr rfl, ?_⟩; refine ⟨_, by (conv => lhs; cbv) <;> rfl, ?_, _, _, by rfl, ?_, ?_⟩; first | (focus ((conv => lhs; cbv); done)) | ((conv => lhs; cbv); refine congrArg some ?_)))
              | ((fail_if_success (refine Den.id ?_))
                 first
                   | (subst ho; exact hl')
                   | (subst ho; exact hlb0)
                   | (simp only [List.length_append, List.length_cons, List.length_nil]; omega)
                   | (subst hv; subst ho; exact ⟨rfl, by simp [std, len_eAb], Int.le_refl _, by omega⟩)
                   | (simp (disch := omega) only [ho, std, wI]; exact ⟨i1, i2, by omega, by omega⟩)
                   | (subst ho; refine congrArg eFc ?_; simp; done)
                   | (subst ho; refine congrArg eFc ?_; simp (disch := omega) only [std, wI]; rw [flatMap_succ _ zA i3 (by omega), show rdG zA b104 b106 = ⟨yk, yn, yc⟩ from hy]; simp only [flowP, List.append_assoc]; done)
                   | ((try clear iha); (try clear ihb); subst ho; (try refine congrArg eFc ?_); (try first | (have e1 : (vals fs a_k a_n a_c).isEmpty = true := emp_t (by assumption) (by assumption)) | (have e1 : (vals fs a_k a_n a_c).isEmpty = false := emp_f (by assumption) (by assumption))); (try rw [show (vals fs a_k a_n a_c) = _ by assumption] at e1); (try first | (have e2 : (vals fs b_k b_n b_c).isEmpty = true := emp_t (by assumption) (by assumption)) | (have e2 : (vals fs b_k b_n b_c).isEmpty = false := emp_f (by assumption) (by assumption))); (try rw [show (vals fs b_k b_n b_c) = _ by assumption] at e2); (try rw [take_allG (by omega)]); unfold bothI; simp [*, flowP]; done)
                   | assumption
                   | omega
                   | (subst ho; simp (disch := omega) only [std, wI, tdiv2, tdivN, len_eFc, len_eNd, len_eBd, len_eAb, len_eLBd, len_eK, len_eB] <;> first | done | rfl | omega))))
         | (refine Den.done ⟨by first | exact Or.inl rfl | exact Or.inr rfl, ?_⟩; refine ⟨_, by (conv => lhs; cbv) <;> rfl, ?_, _, _, by rfl, ?_, ?_⟩; first | (focus ((conv => lhs; cbv); done)) | ((conv => lhs; cbv); refine congrArg some ?_)))
    | ((fail_if_success (refine Den.id ?_))
       first
         | (subst ho; exact hl)
         | (subst ho; exact hl')
         | (have hq1 := len_flowI hF; simp only [List.length_append, List.length_cons, List.length_nil, seeL, flowP]; have hq8 := hq1 0 n_f1 c 0 i c; have hq2 := hq1 0 n_f2 c 0 i c; have hq3 := hq1 0 n_f3 c 0 i c; have hq4 := hq1 a_k a_n a_c 5 i c; have hq5 := hq1 a_k a_n a_c 0 i c; have hq6 := hq1 a_k a_n a_c 3 i c; have hq7 := hq1 b_k b_n b_c 4 i c; omega)
         | ((try clear iha); (try clear ihb); subst ho; (try refine congrArg eFc ?_); (try first | (have e1 : (vals fs a_k a_n a_c).isEmpty = true := emp_t (by assumption) (by assumption)) | (have e1 : (vals fs a_k a_n a_c).isEmpty = false := emp_f (by assumption) (by assumption))); (try rw [show (vals fs a_k a_n a_c) = _ by assumption] at e1); (try first | (have e2 : (vals fs b_k b_n b_c).isEmpty = true := emp_t (by assumption) (by assumption)) | (have e2 : (vals fs b_k b_n b_c).isEmpty = false := emp_f (by assumption) (by assumption))); (try rw [show (vals fs b_k b_n b_c) = _ by assumption] at e2); (try rw [take_allG (by omega)]); unfold bothI; simp [*, flowP]; done)
         | assumption
         | omega))
end Go.Mach
end
section
set_option linter.unusedVariables false
set_option linter.unusedSimpArgs false
namespace Go.Mach
open Go Go.RowKit Go.Proofs
set_option maxRecDepth 100000
set_option maxHeartbeats 4000000
theorem impl_flower_match.gns {xa xb : Option (List D → Option D)} (o : Std) (ho : o = std) (l : List Nd) (us : List Bd) (dp : Int) (fs m : List Fc) (t : Tok) (tk : List Nat) (hl : Lw tk t (o.bx fun _ => eFc m).length) (i : Int) (c : Int) (n_f0 : Int) (n_f1 : Int) (n_f2 : Int) (n_f3 : Int) (n_f4 : Int) (n_f5 : ByteArray) (n_f6 : ByteArray) (a_k : Int) (a_n : Int) (a_c : Int) (h0 : Fok l fs) (h1 : Lok l us) (h2 : m.length + 13000000 ≤ 2900000000000) : Gns (env xa xb) 204 [.pbx (.out 0) 0, .int .i64 i, .int .i64 c, .agg [.int .i64 n_f0, .int .i64 n_f1, .int .i64 n_f2, .int .i64 n_f3, .int .i64 n_f4, .str n_f5, .str n_f6], .agg [.int .i64 a_k, .int .i64 a_n, .int .i64 a_c]] [[cells5 (o.bx fun _ => eNd l) (o.bx fun _ => eBd us) dp (o.bx fun _ => eFc fs) t (o.bx fun _ => eFc m)]] tk (FR o l us dp fs (m ++ (matchI fs i c (⟨n_f0, n_f1, n_f2, n_f3, n_f4, n_f5, n_f6⟩ : Nd) ⟨a_k, a_n, a_c⟩)) (.tup [])) := by
  refine Gns.mkA (E := env xa xb) (f := 204) ho _ (by rfl) (by rfl) ?_
  have hF := h0; have hK := h1; have hu := h0.up; have hL := h0.len; have hp := h0.pos; have hL2 : fs.length ≤ 2900000000000 := (by omega)
  repeat' (first
    | (refine Den.id ?_
       (try (conv => arg 2; cbv))
       first
         | (refine Den.test (fun hr => ?_) (fun hr => ?_) <;> (have hb := hr) <;> (try simp (disch := omega) only [ho, std, wI, len_eK, len_eB, len_eNd, len_eLNd, len_eFc, len_eAb, len_eBd, len_eEd, len_eLBd, Classical.not_not, decide_eq_true_eq, decide_eq_false_iff_not, beq_iff_eq, beq_eq_false_iff_ne, ne_eq, Bool.not_eq_true', Bool.not_eq_false', gt_iff_lt, ge_iff_le, Int.not_lt, Int.not_le] at hb) <;> (try (exfalso; first | contradiction | omega | exact hb rfl)))
         | (refine Den.gcF ho (β := List Ab) (fun v => .sl .ro 3 (o.bx fun _ => eAb v)) (.out 0) (xs := [.pbx (.out 0) 0, .agg [.int .i64 _, .int .i64 _, .int .i64 _], .int .i64 _]) (by rfl) (by rfl) (by rfl) (fun t0 tk0 hl0 => impl_flower_those.gns o ho _ _ _ _ _ t0 tk0 hl0 _ _ _ _ ?_) ?_ ?_; rotate_left 2; rintro v t' tk' hv hl')
         | (refine Den.gcF ho (β := Unit) (r := ()) (fun v => .tup []) (.out 0) (xs := [.pbx (.out 0) 0, .int .i64 _, .int .i64 _]) (by rfl) (by rfl) (by rfl) (fun t0 tk0 hl0 => impl_flower_see.gns o ho _ _ _ _ _ t0 tk0 hl0 _ _ ?_) ?_ ?_; rotate_left 2; rintro _ t' tk' _ hl')
         | (refine Den.indF (fun m_ s_ => ∃ (a28 : List Ab) (a29 : Int) (a30 : Int) (ema : Box) (ta28 ua : Tok) (tk : List Nat), s_ = ⟨[.pbx (.out 0) 0, .int .i64 i, .int .i64 c, .junk, .junk, .junk, .junk, .junk, .pbx (.loc 0) 0, .junk, .pbx (.loc 2) 0, .junk, .junk, .junk, .junk, .junk, .junk, .junk, .junk, .junk, .junk, .junk, .junk, .junk, .junk, .junk, .junk, .junk, .sl ta28 3 (o.bx fun _ => eAb a28), .int .i64 a29, .int .i64 a30] ++ List.replicate 43 .junk, [[[.int .i64 n_f0, .int .i64 n_f1, .int .i64 n_f2, .int .i64 n_f3, .int .i64 n_f4, .str n_f5, .str n_f6]], [[.int .i64 a_k, .int .i64 a_n, .int .i64 a_c]], [[.int .i64 0, .int .i64 i, .int .i64 c]]], [[cells5 (o.bx fun _ => eNd l) (o.bx fun _ => eBd us) dp (o.bx fun _ => eFc fs) ua ema]], tk⟩ ∧ Lw tk ua ema.length ∧ ema = (o.bx fun _ => eFc (m ++ ((if (thoseL fs a_k a_n a_c 2).isEmpty then [] else seeL n_f2 c) ++ (a28.take a30.toNat).flatMap fun v => seeL n_f3 c ++ flowL fs 3 v.n v.c 1 i c ++ flowL fs 4 v.n v.c 2 i c))) ∧ (a28 = thoseL fs a_k a_n a_c 4 ∧ a29 = a28.length ∧ 0 ≤ a30 ∧ a30 ≤ a28.length) ∧ (a28.length - a30).toNat ≤ m_) _ _ ⟨_, _, _, _, _, _, _, by subst ho; rfl, ?_, ?_, ?_, Nat.le_refl _⟩ ?_
            rotate_right
            rintro m_ _ ⟨a28, a29, a30, ema, ta28, ua, tk, rfl, hla0, rfl, hIa, hka⟩ iha
            obtain ⟨i1, i2, i3, i4⟩ := hIa; have hz := len_those fs a_k a_n a_c 4; rw [← i1] at hz; have hw := len_flatMap_le (fun v : Ab => seeL n_f3 c ++ flowL fs 3 v.n v.c 1 i c ++ flowL fs 4 v.n v.c 2 i c) 5001 (fun v => by have q1 := len_flowI hF 3 v.n v.c 1 i c; have q2 := len_flowI hF 4 v.n v.c 2 i c; simp only [List.length_append, seeL, List.length_cons, List.length_nil]; omega) (a28.take a30.toNat); have hw3 := List.length_take_le a30.toNat a28; have hw4 : (if (thoseL fs a_k a_n a_c 2).isEmpty then ([] : List Fc) else seeL n_f2 c).length ≤ 1 := (by split <;> simp [seeL]); refine Den.unloopA ho ?_
            repeat' (first
              | (refine Den.id ?_
                 (try (conv => arg 2; cbv))
                 first
                   | (refine Den.test (fun hr => ?_) (fun hr => ?_) <;> (have hb := hr) <;> (try simp (disch := omega) only [ho, std, wI, len_eK, len_eB, len_eNd, len_eLNd, len_eFc, len_eAb, len_eBd, len_eEd, len_eLBd, Classical.not_not, decide_eq_true_eq, decide_eq_false_iff_not, beq_iff_eq, beq_eq_false_iff_ne, ne_eq, Bool.not_eq_true', Bool.not_eq_false', gt_iff_lt, ge_iff_le, Int.not_lt, Int.not_le] at hb) <;> (try (exfalso; first | contradiction | omega | exact hb rfl)))
                   | (refine Den.gcF ho (β := Unit) (r := ()) (fun v => .tup []) (.out 0) (xs := [.pbx (.out 0) 0, .int .i64 _, .int .i64 _]) (by rfl) (by rfl) (by rfl) (fun t0 tk0 hl0 => impl_flower_see.gns o ho _ _ _ _ _ t0 tk0 hl0 _ _ ?_) ?_ ?_; rotate_left 2; rintro _ t' tk' _ hl')
                   | (refine Den.gcF ho (β := Unit) (r := ()) (fun v => .tup []) (.out 0) (xs := [.pbx (.out 0) 0, .agg [.int .i64 _, .int .i64 _, .int .i64 _], .agg [.int .i64 _, .int .i64 _, .int .i64 _]]) (by rfl) (by rfl) (by rfl) (fun t0 tk0 hl0 => impl_flower_flow.gns o ho _ _ _ _ _ t0 tk0 hl0 _ _ _ _ _ _ ?_ ?_) ?_ ?_; rotate_left 3; rintro _ t' tk' _ hl')
                   | (refine Den.fetchXAb ho ?_ ?_ (fun y hy => ?_); rotate_left 2; rcases y with ⟨yk, yn, yc⟩)
                   | (refine iha _ _ ?_ ⟨_, _, _, _, _, _, _, by subst ho; rfl, ?_, ?_, ?_, Nat.le_refl _⟩)
                   | (refine Den.done ⟨by first | exact Or.inl rfl | exact Or.inr rfl, ?_⟩; refine ⟨_, by (conv => lhs; cbv) <;> rfl, ?_, _, _, by rfl, ?_, ?_⟩; first | (focus ((conv => lhs; cbv); done)) | ((conv => lhs; cbv); refine congrArg some ?_)))
              | ((fail_if_success (refine Den.id ?_))
                 first
                   | (subst ho; exact hl')
                   | (subst ho; exact hla0)
                   | (have q1 := len_flowI hF 3 yn yc 1 i c; have q2 := len_flowI hF 4 yn yc 2 i c; have q3 := len_flowI hF 0 n_f2 c 0 i c; have q4 := len_flowI hF 0 n_f3 c 0 i c; simp only [List.length_append] at *; have hs : (seeL n_f3 c).length = 1 := rfl; omega)
                   | (have q3 := len_flowI hF 0 n_f2 c 0 i c; have q4 := len_flowI hF 0 n_f3 c 0 i c; simp only [List.length_append] at *; omega)
                   | (subst ho; exact ⟨Eq.symm (by assumption), by simp [std, len_eAb], Int.le_refl _, by omega⟩)
                   | (simp (disch := omega) only [ho, std, wI]; exact ⟨i1, i2, by omega, by omega⟩)
                   | (subst ho; refine congrArg eFc ?_; simp (disch := omega) only [std, wI]; rw [flatMap_succ _ zA i3 (by omega), show rdG zA a28 a30 = ⟨yk, yn, yc⟩ from hy]; simp only [List.append_assoc]; done)
                   | ((try clear iha); subst ho; refine congrArg eFc ?_; rw [take_allG (by omega), i1]; unfold matchI; simp only [List.append_assoc])
                   | ((try clear iha); (try clear ihb); subst ho; (try refine congrArg eFc ?_); (try first | (have e1 : (thoseL fs a_k a_n a_c 2).isEmpty = true := emp_t (by assumption) (by assumption)) | (have e1 : (thoseL fs a_k a_n a_c 2).isEmpty = false := emp_f (by assumption) (by assumption))); simp [e1]; done)
                   | (subst ho; simp (disch := omega) only [std, wI, tdiv2, tdivN, len_eFc, len_eNd, len_eBd, len_eAb, len_eLBd, len_eK, len_eB] <;> first | done | rfl | omega)))))
    | ((fail_if_success (refine Den.id ?_))
       first
         | (subst ho; exact hl)
         | (subst ho; exact hl')
         | (have q3 := len_flowI hF 0 n_f2 c 0 i c; have q4 := len_flowI hF 0 n_f3 c 0 i c; simp only [List.length_append] at *; omega)
         | assumption
         | omega))
end Go.Mach
end
section
set_option linter.unusedVariables false
set_option linter.unusedSimpArgs false
namespace Go.Mach
open Go Go.RowKit Go.Proofs
set_option maxRecDepth 100000
set_option maxHeartbeats 4000000
theorem impl_flower_one.gns {xa xb : Option (List D → Option D)} (o : Std) (ho : o = std) (l : List Nd) (us : List Bd) (dp : Int) (fs m : List Fc) (t : Tok) (tk : List Nat) (hl : Lw tk t (o.bx fun _ => eFc m).length) (i : Int) (c : Int) (n_f0 : Int) (n_f1 : Int) (n_f2 : Int) (n_f3 : Int) (n_f4 : Int) (n_f5 : ByteArray) (n_f6 : ByteArray) (a_k : Int) (a_n : Int) (a_c : Int) (h0 : Fok l fs) (h1 : Lok l us) (h2 : m.length + 7000000 ≤ 2900000000000) : Gns (env xa xb) 205 [.pbx (.out 0) 0, .int .i64 i, .int .i64 c, .agg [.int .i64 n_f0, .int .i64 n_f1, .int .i64 n_f2, .int .i64 n_f3, .int .i64 n_f4, .str n_f5, .str n_f6], .agg [.int .i64 a_k, .int .i64 a_n, .int .i64 a_c]] [[cells5 (o.bx fun _ => eNd l) (o.bx fun _ => eBd us) dp (o.bx fun _ => eFc fs) t (o.bx fun _ => eFc m)]] tk (FR o l us dp fs (m ++ (oneI fs i c (⟨n_f0, n_f1, n_f2, n_f3, n_f4, n_f5, n_f6⟩ : Nd) ⟨a_k, a_n, a_c⟩)) (.tup [])) := by
  refine Gns.mkA (E := env xa xb) (f := 205) ho _ (by rfl) (by rfl) ?_
  have hF := h0; have hK := h1; have hu := h0.up; have hL := h0.len; have hp := h0.pos; have hL2 : fs.length ≤ 2900000000000 := (by omega)
  repeat' (first
    | (refine Den.id ?_
       (try (conv => arg 2; cbv))
       first
         | refine Den.testT ?_
         | refine Den.testF ?_
         | (refine Den.test (fun hr => ?_) (fun hr => ?_) <;> (have hb := hr) <;> (try simp (disch := omega) only [ho, std, wI, len_eK, len_eB, len_eNd, len_eLNd, len_eFc, len_eAb, len_eBd, len_eEd, len_eLBd, Classical.not_not, decide_eq_true_eq, decide_eq_false_iff_not, beq_iff_eq, beq_eq_false_iff_ne, ne_eq, Bool.not_eq_true', Bool.not_eq_false', gt_iff_lt, ge_iff_le, Int.not_lt, Int.not_le] at hb) <;> (try (exfalso; first | contradiction | omega | exact hb rfl)))
         | (refine Den.gcF ho (β := Unit) (r := ()) (fun v => .tup []) (.out 0) (xs := [.pbx (.out 0) 0, .agg [.int .i64 _, .int .i64 _, .int .i64 _], .int .i64 _, .int .i64 _, .agg [.int .i64 _, .int .i64 _, .int .i64 _]]) (by rfl) (by rfl) (by rfl) (fun t0 tk0 hl0 => impl_flower_take.gns o ho _ _ _ _ _ t0 tk0 hl0 _ _ _ _ _ _ _ _ ?_ ?_) ?_ ?_; rotate_left 3; rintro _ t' tk' _ hl')
         | (refine Den.gcF ho (β := List Ab) (fun v => .sl .ro 3 (o.bx fun _ => eAb v)) (.out 0) (xs := [.pbx (.out 0) 0, .agg [.int .i64 _, .int .i64 _, .int .i64 _]]) (by rfl) (by rfl) (by rfl) (fun t0 tk0 hl0 => impl_flower_values.gns o ho _ _ _ _ _ t0 tk0 hl0 _ _ _ ?_) ?_ ?_; rotate_left 2; rintro v t' tk' hv hl')
         | (refine Den.gcF ho (β := Unit) (r := ()) (fun v => .tup []) (.out 0) (xs := [.pbx (.out 0) 0, .agg [.int .i64 _, .int .i64 _, .int .i64 _], .agg [.int .i64 _, .int .i64 _, .int .i64 _]]) (by rfl) (by rfl) (by rfl) (fun t0 tk0 hl0 => impl_flower_add.gns o ho _ _ _ _ _ t0 tk0 hl0 _ _ _ _ _ _ ?_) ?_ ?_; rotate_left 2; rintro _ t' tk' _ hl')
         | (refine Den.gcF ho (β := Unit) (r := ()) (fun v => .tup []) (.out 0) (xs := [.pbx (.out 0) 0, .agg [.int .i64 _, .int .i64 _, .int .i64 _], .agg [.int .i64 _, .int .i64 _, .int .i64 _]]) (by rfl) (by rfl) (by rfl) (fun t0 tk0 hl0 => impl_flower_flow.gns o ho _ _ _ _ _ t0 tk0 hl0 _ _ _ _ _ _ ?_ ?_) ?_ ?_; rotate_left 3; rintro _ t' tk' _ hl')
         | (refine Den.gcF ho (β := List Ab) (fun v => .sl .ro 3 (o.bx fun _ => eAb v)) (.out 0) (xs := [.pbx (.out 0) 0, .agg [.int .i64 _, .int .i64 _, .int .i64 _], .int .i64 _]) (by rfl) (by rfl) (by rfl) (fun t0 tk0 hl0 => impl_flower_those.gns o ho _ _ _ _ _ t0 tk0 hl0 _ _ _ _ ?_) ?_ ?_; rotate_left 2; rintro v t' tk' hv hl')
         | (refine Den.pcallE (β := Bool) (fun v => .bool v) (as' := [.sl .ro 6 (o.bx fun _ => eFc _), .agg [.int .i64 _, .int .i64 _, .int .i64 _, .int .i64 _, .int .i64 _, .int .i64 _]]) (by first | with_reducible rfl | (subst ho; rfl)) (impl_has.ans o ho _ _ _ _ _ _ _ ?_ ?_) ?_; rotate_left 2; rintro (_ | _) hv <;> (try simp only [decide_eq_true_eq, decide_eq_false_iff_not] at hv) <;> (try first | contradiction | exact absurd (hv.symm.trans (show _ = false by assumption)) (by decide) | exact absurd (hv.symm.trans (show _ = true by assumption)) (by decide)))
         | (refine Den.gcF ho (β := Unit) (r := ()) (fun v => .tup []) (.out 0) (xs := [.pbx (.out 0) 0, .int .i64 _, .int .i64 _]) (by rfl) (by rfl) (by rfl) (fun t0 tk0 hl0 => impl_flower_see.gns o ho _ _ _ _ _ t0 tk0 hl0 _ _ ?_) ?_ ?_; rotate_left 2; rintro _ t' tk' _ hl')
         | (refine Den.needD ho (by kernel_rfl) ?_)
         | (refine Den.done ⟨by first | exact Or.inl rfl | exact Or.inr rfl, ?_⟩; refine ⟨_, by (conv => lhs; cbv) <;> rfl, ?_, _, _, by rfl, ?_, ?_⟩; first | (focus ((conv => lhs; cbv); done)) | ((conv => lhs; cbv); refine congrArg some ?_)))
    | ((fail_if_success (refine Den.id ?_))
       first
         | (subst ho; exact hl)
         | (subst ho; exact hl')
         | (have hq1 := len_flowI hF; simp only [List.length_append, List.length_cons, List.length_nil, seeL, flowP]; have hq8 := hq1 0 n_f1 c 0 i c; have hq2 := hq1 0 n_f2 c 0 i c; have hq3 := hq1 0 n_f3 c 0 i c; have hq4 := hq1 a_k a_n a_c 5 i c; have hq5 := hq1 a_k a_n a_c 0 i c; have hq6 := hq1 a_k a_n a_c 3 i c; omega)
         | ((try clear iha); (try clear ihb); subst ho; (try refine congrArg eFc ?_); (try first | (have e1 : (vals fs a_k a_n a_c).isEmpty = true := emp_t (by assumption) (by assumption)) | (have e1 : (vals fs a_k a_n a_c).isEmpty = false := emp_f (by assumption) (by assumption))); (try rw [show (vals fs a_k a_n a_c) = _ by assumption] at e1); (try first | (have e2 : (thoseL fs a_k a_n a_c 0).isEmpty = true := emp_t (by assumption) (by assumption)) | (have e2 : (thoseL fs a_k a_n a_c 0).isEmpty = false := emp_f (by assumption) (by assumption))); (try rw [show (thoseL fs a_k a_n a_c 0) = _ by assumption] at e2); unfold oneI; simp [*, flowP]; done)
         | ((try clear iha); (try clear ihb); subst ho; (try refine congrArg eFc ?_); (try first | (have e1 : (vals fs a_k a_n a_c).isEmpty = true := emp_t (by assumption) (by assumption)) | (have e1 : (vals fs a_k a_n a_c).isEmpty = false := emp_f (by assumption) (by assumption))); (try rw [show (vals fs a_k a_n a_c) = _ by assumption] at e1); (try first | (have e2 : (thoseL fs a_k a_n a_c 0).isEmpty = true := emp_t (by assumption) (by assumption)) | (have e2 : (thoseL fs a_k a_n a_c 0).isEmpty = false := emp_f (by assumption) (by assumption))); (try rw [show (thoseL fs a_k a_n a_c 0) = _ by assumption] at e2); unfold oneI hasR; simp [*, flowP]; done)
         | assumption
         | omega))
end Go.Mach
end
