/- What the statements share: part 27 of a proof by an executable machine over the program's code. -/
import Derived.Test.YtljpfhpcbfpooaaGreatDoorMc26
set_option linter.unusedVariables false
set_option linter.unusedSimpArgs false
set_option maxRecDepth 100000
set_option maxHeartbeats 6000000
namespace Go.Mach
open Go Go.RowKit Go.Proofs
theorem impl_flower_both.gns {xa xb : Option (List D → Option D)} (o : Std) (ho : o = std) (l : List Nd) (us : List Bd) (dp : Int) (fs m : List Fc) (t : Tok) (tk : List Nat) (hl : Lw tk t (o.bx fun _ => eFc m).length) (i : Int) (c : Int) (n_f0 : Int) (n_f1 : Int) (n_f2 : Int) (n_f3 : Int) (n_f4 : Int) (n_f5 : ByteArray) (n_f6 : ByteArray) (a_k : Int) (a_n : Int) (a_c : Int) (b_k : Int) (b_n : Int) (b_c : Int) (h0 : Fok l fs) (h1 : Lok l us) (h2 : m.length + 960000000 ≤ 2900000000000) : Gns (env xa xb) 236 [.pbx (.out 0) 0, iX i, iX c, .agg [iX n_f0, iX n_f1, iX n_f2, iX n_f3, iX n_f4, .str n_f5, .str n_f6], .agg [iX a_k, iX a_n, iX a_c], .agg [iX b_k, iX b_n, iX b_c]] [[cells5 (o.bx fun _ => eNd l) (o.bx fun _ => eBd us) dp (o.bx fun _ => eFc fs) t (o.bx fun _ => eFc m)]] tk (FR o l us dp fs (m ++ (bothI l us dp fs i c (⟨n_f0, n_f1, n_f2, n_f3, n_f4, n_f5, n_f6⟩ : Nd) ⟨a_k, a_n, a_c⟩ ⟨b_k, b_n, b_c⟩)) (.tup [])) := by
 refine Gns.mkA (E := env xa xb) (f := 236) ho _ (by rfl) (by rfl) ?_
 have hF := h0; have hK := h1; have hu := h0.up; have hL := h0.len; have hp := h0.pos; have hL2 : fs.length ≤ 2900000000000 := (by omega)
 repeat' (first
  | (refine .id ?_
     (try (conv => arg 2; cbv))
     first
      | refine .testT ?_
      | refine .t1 ?_
      | refine .t0 ?_
      | refine .testN1 ho (by with_reducible assumption) ?_
      | refine .testN0 ho (by with_reducible assumption) ?_
      | (refine .test (fun hr => ?_) (fun hr => ?_) <;> (have hb := hr) <;> (try simp (disch := omega) only [ho, std, wI, lenE, nrm] at hb) <;> (try (exfalso; first | contradiction | omega | exact hb rfl)))
      | (refine .gcF ho (β := List Ab) (rAb o) (.out 0) (xs := [.pbx (.out 0) 0, .agg [iX _, iX _, iX _]]) (by rfl) (by rfl) (by rfl) (fun t0 tk0 hl0 => impl_flower_values.gns o ho _ _ _ _ _ t0 tk0 hl0 _ _ _ ?_) ?_ ?_; rotate_left 2; rintro v t' tk' hv hl')
      | (refine .gcF ho (β := List Ab) (rAb o) (.out 0) (xs := [.pbx (.out 0) 0, .agg [iX _, iX _, iX _], iX _]) (by rfl) (by rfl) (by rfl) (fun t0 tk0 hl0 => impl_flower_those.gns o ho _ _ _ _ _ t0 tk0 hl0 _ _ _ _ ?_) ?_ ?_; rotate_left 2; rintro v t' tk' hv hl')
      | (refine .gcF ho (β := Unit) (r := ()) (fun v => .tup []) (.out 0) (xs := [.pbx (.out 0) 0, .agg [iX _, iX _, iX _], .agg [iX _, iX _, iX _]]) (by rfl) (by rfl) (by rfl) (fun t0 tk0 hl0 => impl_flower_add.gns o ho _ _ _ _ _ t0 tk0 hl0 _ _ _ _ _ _ ?_) ?_ ?_; rotate_left 2; rintro _ t' tk' _ hl')
      | (refine .gcF ho (β := Unit) (r := ()) (fun v => .tup []) (.out 0) (xs := [.pbx (.out 0) 0, .agg [iX _, iX _, iX _], .agg [iX _, iX _, iX _]]) (by rfl) (by rfl) (by rfl) (fun t0 tk0 hl0 => impl_flower_flow.gns o ho _ _ _ _ _ t0 tk0 hl0 _ _ _ _ _ _ ?_ ?_) ?_ ?_; rotate_left 3; rintro _ t' tk' _ hl')
      | (refine .indF (fun m_ s_ => ∃ (a46 : List Ab) (a47 : Int) (a48 : Int) (ema : Box) (ta46 ua : Tok) (tk : List Nat), s_ = ⟨[.pbx (.out 0) 0, iX i, iX c, Jk, Jk, Jk, Jk, Jk, Jk, Jk, Jk, .pbx (.loc 2) 0, Jk, Jk, Jk, Jk, Jk, Jk, Jk, Jk, Jk, Jk, Jk, Jk, Jk, Jk, Jk, Jk, Jk, Jk, Jk, Jk, Jk, Jk, Jk, Jk, Jk, Jk, Jk, Jk, Jk, Jk, Jk, Jk, Jk, Jk, .sl ta46 3 (o.bx fun _ => eAb a46), iX a47, iX a48] ++ List.replicate 70 Jk, [[[iX n_f0, iX n_f1, iX n_f2, iX n_f3, iX n_f4, .str n_f5, .str n_f6]], [[iX a_k, iX a_n, iX a_c]], [[iX b_k, iX b_n, iX b_c]], [[iX 0, iX i, iX c]]], [[cells5 (o.bx fun _ => eNd l) (o.bx fun _ => eBd us) dp (o.bx fun _ => eFc fs) ua ema]], tk⟩ ∧ Lw tk ua ema.length ∧ ema = (o.bx fun _ => eFc (m ++ ((a46.take a48.toNat).flatMap fun f => callI l us dp fs i c f ⟨b_k, b_n, b_c⟩))) ∧ (a46 = thoseL fs a_k a_n a_c 1 ∧ a47 = a46.length ∧ 0 ≤ a48 ∧ a48 ≤ a46.length) ∧ (a46.length - a48).toNat ≤ m_) _ _ ⟨_, _, _, _, _, _, _, by subst ho; rfl, ?_, ?_, ?_, Nat.le_refl _⟩ ?_
         rotate_right
         rintro m_ _ ⟨a46, a47, a48, ema, ta46, ua, tk, rfl, hla0, rfl, hIa, hka⟩ iha
         obtain ⟨i1, i2, i3, i4⟩ := hIa; have hz := len_those fs a_k a_n a_c 1; rw [← i1] at hz; have hw := len_calls hF hK i1 i c dp ⟨b_k, b_n, b_c⟩ a48.toNat; have hw3 := List.length_take_le a48.toNat a46; refine .unloopA ho ?_
         repeat' (first
          | (refine .id ?_
             (try (conv => arg 2; cbv))
             first
              | (refine .test (fun hr => ?_) (fun hr => ?_) <;> (have hb := hr) <;> (try simp (disch := omega) only [ho, std, wI, lenE, nrm] at hb) <;> (try (exfalso; first | contradiction | omega | exact hb rfl)))
              | (refine .gcF ho (β := Unit) (r := ()) (fun v => .tup []) (.out 0) (xs := [.pbx (.out 0) 0, iX _, iX _, .agg [iX _, iX _, iX _], .agg [iX _, iX _, iX _]]) (by rfl) (by rfl) (by rfl) (fun t0 tk0 hl0 => impl_flower_call.gns o ho _ _ _ _ _ t0 tk0 hl0 _ _ _ _ _ _ _ _ ?_ ?_ ?_ ?_ ?_) ?_ ?_; rotate_left 6; rintro _ t' tk' _ hl')
              | (refine .fetchXAb ho ?_ ?_ (fun y hy => ?_); rotate_left 2; rcases y with ⟨yk, yn, yc⟩; (try (have ht := those_in hF i1 i3 (by omega) hy)); (try dsimp only at ht))
              | (refine .indF (fun m_ s_ => ∃ (b104 : List Ab) (b105 : Int) (b106 : Int) (emb : Box) (tb104 ub : Tok) (tk : List Nat), s_ = ⟨[.pbx (.out 0) 0, Jk, Jk, Jk, Jk, Jk, Jk, Jk, Jk, Jk, Jk, .pbx (.loc 2) 0, Jk, Jk, Jk, Jk, Jk, Jk, Jk, Jk, Jk, Jk, Jk, Jk, Jk, Jk, Jk, Jk, Jk, Jk, Jk, Jk, Jk, Jk, Jk, Jk, Jk, Jk, Jk, Jk, Jk, Jk, Jk, Jk, Jk, Jk, Jk, Jk, Jk, Jk, Jk, Jk, Jk, Jk, Jk, Jk, Jk, Jk, Jk, Jk, Jk, Jk, Jk, Jk, Jk, Jk, Jk, Jk, Jk, Jk, Jk, Jk, Jk, Jk, Jk, Jk, Jk, Jk, Jk, Jk, Jk, Jk, Jk, Jk, Jk, Jk, Jk, Jk, Jk, Jk, Jk, Jk, Jk, Jk, Jk, Jk, Jk, Jk, Jk, Jk, Jk, Jk, Jk, Jk, .sl tb104 3 (o.bx fun _ => eAb b104), iX b105, iX b106] ++ List.replicate 12 Jk, [[[iX n_f0, iX n_f1, iX n_f2, iX n_f3, iX n_f4, .str n_f5, .str n_f6]], [[iX a_k, iX a_n, iX a_c]], [[iX b_k, iX b_n, iX b_c]], [[iX 0, iX i, iX c]]], [[cells5 (o.bx fun _ => eNd l) (o.bx fun _ => eBd us) dp (o.bx fun _ => eFc fs) ub emb]], tk⟩ ∧ Lw tk ub emb.length ∧ emb = (o.bx fun _ => eFc (m ++ ([⟨0, i, c, ⟨0, 0, 0⟩⟩] ++ (b104.take b106.toNat).flatMap fun r => flowP fs ⟨b_k, b_n, b_c⟩ ⟨5, r.n, r.c⟩))) ∧ (b104 = thoseL fs a_k a_n a_c 5 ∧ b105 = b104.length ∧ 0 ≤ b106 ∧ b106 ≤ b104.length) ∧ (b104.length - b106).toNat ≤ m_) _ _ ⟨_, _, _, _, _, _, _, by subst ho; rfl, ?_, ?_, ?_, Nat.le_refl _⟩ ?_
                 rotate_right
                 rintro m_ _ ⟨b104, b105, b106, emb, tb104, ub, tk, rfl, hlb0, rfl, hIb, hkb⟩ ihb
                 obtain ⟨i1, i2, i3, i4⟩ := hIb; have hz := len_those fs a_k a_n a_c 5; rw [← i1] at hz; have hw := len_flatMap_le (fun r : Ab => flowP fs ⟨b_k, b_n, b_c⟩ ⟨5, r.n, r.c⟩) 2500 (fun v => len_flowPI hF _ _) (b104.take b106.toNat); have hw3 := List.length_take_le b106.toNat b104; refine .unloopA ho ?_
                 repeat' (first
                  | (refine .id ?_
                     (try (conv => arg 2; cbv))
                     first
                      | fail)
                  | ((fail_if_success (refine .id ?_))
                     first
                      | fail)))
              | (refine iha _ _ ?_ ⟨_, _, _, _, _, _, _, by subst ho; rfl, ?_, ?_, ?_, Nat.le_refl _⟩)
              | (refine .fin ?_; refine ⟨_, by (conv => lhs; cbv) <;> rfl, ?_, _, _, by rfl, ?_, ?_⟩; first | (focus ((conv => lhs; cbv); done)) | ((conv => lhs; cbv); refine congrArg some ?_)))
          | ((fail_if_success (refine .id ?_))
             first
              | (subst ho; exact hl')
              | (subst ho; exact hla0)
              | (exact ht.2.2 ht.1)
              | (exact ht.2.1)
              | (have hq1 := len_flowI hF; simp only [List.length_append, List.length_cons, List.length_nil, seeL, flowP]; have hq8 := hq1 0 n_f1 c 0 i c; have hq2 := hq1 0 n_f2 c 0 i c; have hq3 := hq1 0 n_f3 c 0 i c; have hq4 := hq1 a_k a_n a_c 5 i c; have hq5 := hq1 a_k a_n a_c 0 i c; have hq6 := hq1 a_k a_n a_c 3 i c; have hq7 := hq1 b_k b_n b_c 4 i c; omega)
              | (subst hv; subst ho; exact ⟨rfl, by simp [std, len_eAb], Int.le_refl _, by omega⟩)
              | (simp (disch := omega) only [ho, std, wI]; exact ⟨i1, i2, by omega, by omega⟩)
              | (subst ho; refine congrArg eFc ?_; simp; done)
              | (subst ho; refine congrArg eFc ?_; simp (disch := omega) only [std, wI]; rw [flatMap_succ _ zA i3 (by omega), show rdG zA a46 a48 = ⟨yk, yn, yc⟩ from hy, List.append_assoc])
              | ((try clear iha); (try clear ihb); subst ho; (try refine congrArg eFc ?_); (try first | (have e1 : (vals fs a_k a_n a_c).isEmpty = true := emp_t (by assumption) (by assumption)) | (have e1 : (vals fs a_k a_n a_c).isEmpty = false := emp_f (by assumption) (by assumption))); (try rw [show (vals fs a_k a_n a_c) = _ by assumption] at e1); (try first | (have e2 : (vals fs b_k b_n b_c).isEmpty = true := emp_t (by assumption) (by assumption)) | (have e2 : (vals fs b_k b_n b_c).isEmpty = false := emp_f (by assumption) (by assumption))); (try rw [show (vals fs b_k b_n b_c) = _ by assumption] at e2); (try rw [take_allG (by omega)]); unfold bothI; simp [*, flowP]; done)
              | assumption
              | omega
              | (subst ho; simp (disch := omega) only [std, wI, tdiv2, tdivN, lenE] <;> first | done | rfl | omega))))
      | (refine .indF (fun m_ s_ => ∃ (b104 : List Ab) (b105 : Int) (b106 : Int) (emb : Box) (tb104 ub : Tok) (tk : List Nat), s_ = ⟨[.pbx (.out 0) 0, Jk, Jk, Jk, Jk, Jk, Jk, Jk, Jk, Jk, Jk, .pbx (.loc 2) 0, Jk, Jk, Jk, Jk, Jk, Jk, Jk, Jk, Jk, Jk, Jk, Jk, Jk, Jk, Jk, Jk, Jk, Jk, Jk, Jk, Jk, Jk, Jk, Jk, Jk, Jk, Jk, Jk, Jk, Jk, Jk, Jk, Jk, Jk, Jk, Jk, Jk, Jk, Jk, Jk, Jk, Jk, Jk, Jk, Jk, Jk, Jk, Jk, Jk, Jk, Jk, Jk, Jk, Jk, Jk, Jk, Jk, Jk, Jk, Jk, Jk, Jk, Jk, Jk, Jk, Jk, Jk, Jk, Jk, Jk, Jk, Jk, Jk, Jk, Jk, Jk, Jk, Jk, Jk, Jk, Jk, Jk, Jk, Jk, Jk, Jk, Jk, Jk, Jk, Jk, Jk, Jk, .sl tb104 3 (o.bx fun _ => eAb b104), iX b105, iX b106] ++ List.replicate 12 Jk, [[[iX n_f0, iX n_f1, iX n_f2, iX n_f3, iX n_f4, .str n_f5, .str n_f6]], [[iX a_k, iX a_n, iX a_c]], [[iX b_k, iX b_n, iX b_c]], [[iX 0, iX i, iX c]]], [[cells5 (o.bx fun _ => eNd l) (o.bx fun _ => eBd us) dp (o.bx fun _ => eFc fs) ub emb]], tk⟩ ∧ Lw tk ub emb.length ∧ emb = (o.bx fun _ => eFc (m ++ ([⟨0, i, c, ⟨0, 0, 0⟩⟩] ++ (b104.take b106.toNat).flatMap fun r => flowP fs ⟨b_k, b_n, b_c⟩ ⟨5, r.n, r.c⟩))) ∧ (b104 = thoseL fs a_k a_n a_c 5 ∧ b105 = b104.length ∧ 0 ≤ b106 ∧ b106 ≤ b104.length) ∧ (b104.length - b106).toNat ≤ m_) _ _ ⟨_, _, _, _, _, _, _, by subst ho; rfl, ?_, ?_, ?_, Nat.le_refl _⟩ ?_
         rotate_right
         rintro m_ _ ⟨b104, b105, b106, emb, tb104, ub, tk, rfl, hlb0, rfl, hIb, hkb⟩ ihb
         obtain ⟨i1, i2, i3, i4⟩ := hIb; have hz := len_those fs a_k a_n a_c 5; rw [← i1] at hz; have hw := len_flatMap_le (fun r : Ab => flowP fs ⟨b_k, b_n, b_c⟩ ⟨5, r.n, r.c⟩) 2500 (fun v => len_flowPI hF _ _) (b104.take b106.toNat); have hw3 := List.length_take_le b106.toNat b104; refine .unloopA ho ?_
         repeat' (first
          | (refine .id ?_
             (try (conv => arg 2; cbv))
             first
              | (refine .test (fun hr => ?_) (fun hr => ?_) <;> (have hb := hr) <;> (try simp (disch := omega) only [ho, std, wI, lenE, nrm] at hb) <;> (try (exfalso; first | contradiction | omega | exact hb rfl)))
              | (refine .gcF ho (β := Unit) (r := ()) (fun v => .tup []) (.out 0) (xs := [.pbx (.out 0) 0, .agg [iX _, iX _, iX _], .agg [iX _, iX _, iX _]]) (by rfl) (by rfl) (by rfl) (fun t0 tk0 hl0 => impl_flower_flow.gns o ho _ _ _ _ _ t0 tk0 hl0 _ _ _ _ _ _ ?_ ?_) ?_ ?_; rotate_left 3; rintro _ t' tk' _ hl')
              | (refine .fetchXAb ho ?_ ?_ (fun y hy => ?_); rotate_left 2; rcases y with ⟨yk, yn, yc⟩; (try (have ht := those_in hF i1 i3 (by omega) hy)); (try dsimp only at ht))
              | (refine .indF (fun m_ s_ => ∃ (a46 : List Ab) (a47 : Int) (a48 : Int) (ema : Box) (ta46 ua : Tok) (tk : List Nat), s_ = ⟨[.pbx (.out 0) 0, iX i, iX c, Jk, Jk, Jk, Jk, Jk, Jk, Jk, Jk, .pbx (.loc 2) 0, Jk, Jk, Jk, Jk, Jk, Jk, Jk, Jk, Jk, Jk, Jk, Jk, Jk, Jk, Jk, Jk, Jk, Jk, Jk, Jk, Jk, Jk, Jk, Jk, Jk, Jk, Jk, Jk, Jk, Jk, Jk, Jk, Jk, Jk, .sl ta46 3 (o.bx fun _ => eAb a46), iX a47, iX a48] ++ List.replicate 70 Jk, [[[iX n_f0, iX n_f1, iX n_f2, iX n_f3, iX n_f4, .str n_f5, .str n_f6]], [[iX a_k, iX a_n, iX a_c]], [[iX b_k, iX b_n, iX b_c]], [[iX 0, iX i, iX c]]], [[cells5 (o.bx fun _ => eNd l) (o.bx fun _ => eBd us) dp (o.bx fun _ => eFc fs) ua ema]], tk⟩ ∧ Lw tk ua ema.length ∧ ema = (o.bx fun _ => eFc (m ++ ((a46.take a48.toNat).flatMap fun f => callI l us dp fs i c f ⟨b_k, b_n, b_c⟩))) ∧ (a46 = thoseL fs a_k a_n a_c 1 ∧ a47 = a46.length ∧ 0 ≤ a48 ∧ a48 ≤ a46.length) ∧ (a46.length - a48).toNat ≤ m_) _ _ ⟨_, _, _, _, _, _, _, by subst ho; rfl, ?_, ?_, ?_, Nat.le_refl _⟩ ?_
                 rotate_right
                 rintro m_ _ ⟨a46, a47, a48, ema, ta46, ua, tk, rfl, hla0, rfl, hIa, hka⟩ iha
                 obtain ⟨i1, i2, i3, i4⟩ := hIa; have hz := len_those fs a_k a_n a_c 1; rw [← i1] at hz; have hw := len_calls hF hK i1 i c dp ⟨b_k, b_n, b_c⟩ a48.toNat; have hw3 := List.length_take_le a48.toNat a46; refine .unloopA ho ?_
                 repeat' (first
                  | (refine .id ?_
                     (try (conv => arg 2; cbv))
                     first
                      | fail)
                  | ((fail_if_success (refine .id ?_))
                     first
                      | fail)))
              | (refine ihb _ _ ?_ ⟨_, _, _, _, _, _, _, by subst ho; rfl, ?_, ?_, ?_, Nat.le_refl _⟩)
              | (refine .fin ?_; refine ⟨_, by (conv => lhs; cbv) <;> rfl, ?_, _, _, by rfl, ?_, ?_⟩; first | (focus ((conv => lhs; cbv); done)) | ((conv => lhs; cbv); refine congrArg some ?_)))
          | ((fail_if_success (refine .id ?_))
             first
              | (subst ho; exact hl')
              | (subst ho; exact hlb0)
              | (simp only [List.length_append, List.length_cons, List.length_nil]; omega)
              | (subst hv; subst ho; exact ⟨rfl, by simp [std, len_eAb], Int.le_refl _, by omega⟩)
              | (simp (disch := omega) only [ho, std, wI]; exact ⟨i1, i2, by omega, by omega⟩)
              | (subst ho; refine congrArg eFc ?_; simp; done)
              | (subst ho; refine congrArg eFc ?_; simp (disch := omega) only [std, wI]; rw [flatMap_succ _ zA i3 (by omega), show rdG zA b104 b106 = ⟨yk, yn, yc⟩ from hy]; simp only [flowP, List.append_assoc]; done)
              | ((try clear iha); (try clear ihb); subst ho; (try refine congrArg eFc ?_); (try first | (have e1 : (vals fs a_k a_n a_c).isEmpty = true := emp_t (by assumption) (by assumption)) | (have e1 : (vals fs a_k a_n a_c).isEmpty = false := emp_f (by assumption) (by assumption))); (try rw [show (vals fs a_k a_n a_c) = _ by assumption] at e1); (try first | (have e2 : (vals fs b_k b_n b_c).isEmpty = true := emp_t (by assumption) (by assumption)) | (have e2 : (vals fs b_k b_n b_c).isEmpty = false := emp_f (by assumption) (by assumption))); (try rw [show (vals fs b_k b_n b_c) = _ by assumption] at e2); (try rw [take_allG (by omega)]); unfold bothI; simp [*, flowP]; done)
              | assumption
              | omega
              | (subst ho; simp (disch := omega) only [std, wI, tdiv2, tdivN, lenE] <;> first | done | rfl | omega))))
      | (refine .fin ?_; refine ⟨_, by (conv => lhs; cbv) <;> rfl, ?_, _, _, by rfl, ?_, ?_⟩; first | (focus ((conv => lhs; cbv); done)) | ((conv => lhs; cbv); refine congrArg some ?_)))
  | ((fail_if_success (refine .id ?_))
     first
      | (subst ho; exact hl)
      | (subst ho; exact hl')
      | (have hq1 := len_flowI hF; simp only [List.length_append, List.length_cons, List.length_nil, seeL, flowP]; have hq8 := hq1 0 n_f1 c 0 i c; have hq2 := hq1 0 n_f2 c 0 i c; have hq3 := hq1 0 n_f3 c 0 i c; have hq4 := hq1 a_k a_n a_c 5 i c; have hq5 := hq1 a_k a_n a_c 0 i c; have hq6 := hq1 a_k a_n a_c 3 i c; have hq7 := hq1 b_k b_n b_c 4 i c; omega)
      | ((try clear iha); (try clear ihb); subst ho; (try refine congrArg eFc ?_); (try first | (have e1 : (vals fs a_k a_n a_c).isEmpty = true := emp_t (by assumption) (by assumption)) | (have e1 : (vals fs a_k a_n a_c).isEmpty = false := emp_f (by assumption) (by assumption))); (try rw [show (vals fs a_k a_n a_c) = _ by assumption] at e1); (try first | (have e2 : (vals fs b_k b_n b_c).isEmpty = true := emp_t (by assumption) (by assumption)) | (have e2 : (vals fs b_k b_n b_c).isEmpty = false := emp_f (by assumption) (by assumption))); (try rw [show (vals fs b_k b_n b_c) = _ by assumption] at e2); (try rw [take_allG (by omega)]); unfold bothI; simp [*, flowP]; done)
      | assumption
      | omega))
theorem impl_flower_match.gns {xa xb : Option (List D → Option D)} (o : Std) (ho : o = std) (l : List Nd) (us : List Bd) (dp : Int) (fs m : List Fc) (t : Tok) (tk : List Nat) (hl : Lw tk t (o.bx fun _ => eFc m).length) (i : Int) (c : Int) (n_f0 : Int) (n_f1 : Int) (n_f2 : Int) (n_f3 : Int) (n_f4 : Int) (n_f5 : ByteArray) (n_f6 : ByteArray) (a_k : Int) (a_n : Int) (a_c : Int) (h0 : Fok l fs) (h1 : Lok l us) (h2 : m.length + 13000000 ≤ 2900000000000) : Gns (env xa xb) 238 [.pbx (.out 0) 0, iX i, iX c, .agg [iX n_f0, iX n_f1, iX n_f2, iX n_f3, iX n_f4, .str n_f5, .str n_f6], .agg [iX a_k, iX a_n, iX a_c]] [[cells5 (o.bx fun _ => eNd l) (o.bx fun _ => eBd us) dp (o.bx fun _ => eFc fs) t (o.bx fun _ => eFc m)]] tk (FR o l us dp fs (m ++ (matchI fs i c (⟨n_f0, n_f1, n_f2, n_f3, n_f4, n_f5, n_f6⟩ : Nd) ⟨a_k, a_n, a_c⟩)) (.tup [])) := by
 refine Gns.mkA (E := env xa xb) (f := 238) ho _ (by rfl) (by rfl) ?_
 have hF := h0; have hK := h1; have hu := h0.up; have hL := h0.len; have hp := h0.pos; have hL2 : fs.length ≤ 2900000000000 := (by omega)
 repeat' (first
  | (refine .id ?_
     (try (conv => arg 2; cbv))
     first
      | (refine .test (fun hr => ?_) (fun hr => ?_) <;> (have hb := hr) <;> (try simp (disch := omega) only [ho, std, wI, lenE, nrm] at hb) <;> (try (exfalso; first | contradiction | omega | exact hb rfl)))
      | (refine .gcF ho (β := List Ab) (rAb o) (.out 0) (xs := [.pbx (.out 0) 0, .agg [iX _, iX _, iX _], iX _]) (by rfl) (by rfl) (by rfl) (fun t0 tk0 hl0 => impl_flower_those.gns o ho _ _ _ _ _ t0 tk0 hl0 _ _ _ _ ?_) ?_ ?_; rotate_left 2; rintro v t' tk' hv hl')
      | (refine .gcF ho (β := Unit) (r := ()) (fun v => .tup []) (.out 0) (xs := [.pbx (.out 0) 0, iX _, iX _]) (by rfl) (by rfl) (by rfl) (fun t0 tk0 hl0 => impl_flower_see.gns o ho _ _ _ _ _ t0 tk0 hl0 _ _ ?_) ?_ ?_; rotate_left 2; rintro _ t' tk' _ hl')
      | (refine .indF (fun m_ s_ => ∃ (a28 : List Ab) (a29 : Int) (a30 : Int) (ema : Box) (ta28 ua : Tok) (tk : List Nat), s_ = ⟨[.pbx (.out 0) 0, iX i, iX c, Jk, Jk, Jk, Jk, Jk, .pbx (.loc 0) 0, Jk, .pbx (.loc 2) 0, Jk, Jk, Jk, Jk, Jk, Jk, Jk, Jk, Jk, Jk, Jk, Jk, Jk, Jk, Jk, Jk, Jk, .sl ta28 3 (o.bx fun _ => eAb a28), iX a29, iX a30] ++ List.replicate 43 Jk, [[[iX n_f0, iX n_f1, iX n_f2, iX n_f3, iX n_f4, .str n_f5, .str n_f6]], [[iX a_k, iX a_n, iX a_c]], [[iX 0, iX i, iX c]]], [[cells5 (o.bx fun _ => eNd l) (o.bx fun _ => eBd us) dp (o.bx fun _ => eFc fs) ua ema]], tk⟩ ∧ Lw tk ua ema.length ∧ ema = (o.bx fun _ => eFc (m ++ ((if (thoseL fs a_k a_n a_c 2).isEmpty then [] else seeL n_f2 c) ++ (a28.take a30.toNat).flatMap fun v => seeL n_f3 c ++ flowL fs 3 v.n v.c 1 i c ++ flowL fs 4 v.n v.c 2 i c))) ∧ (a28 = thoseL fs a_k a_n a_c 4 ∧ a29 = a28.length ∧ 0 ≤ a30 ∧ a30 ≤ a28.length) ∧ (a28.length - a30).toNat ≤ m_) _ _ ⟨_, _, _, _, _, _, _, by subst ho; rfl, ?_, ?_, ?_, Nat.le_refl _⟩ ?_
         rotate_right
         rintro m_ _ ⟨a28, a29, a30, ema, ta28, ua, tk, rfl, hla0, rfl, hIa, hka⟩ iha
         obtain ⟨i1, i2, i3, i4⟩ := hIa; have hz := len_those fs a_k a_n a_c 4; rw [← i1] at hz; have hw := len_flatMap_le (fun v : Ab => seeL n_f3 c ++ flowL fs 3 v.n v.c 1 i c ++ flowL fs 4 v.n v.c 2 i c) 5001 (fun v => by have q1 := len_flowI hF 3 v.n v.c 1 i c; have q2 := len_flowI hF 4 v.n v.c 2 i c; simp only [List.length_append, seeL, List.length_cons, List.length_nil]; omega) (a28.take a30.toNat); have hw3 := List.length_take_le a30.toNat a28; have hw4 : (if (thoseL fs a_k a_n a_c 2).isEmpty then ([] : List Fc) else seeL n_f2 c).length ≤ 1 := (by split <;> simp [seeL]); refine .unloopA ho ?_
         repeat' (first
          | (refine .id ?_
             (try (conv => arg 2; cbv))
             first
              | (refine .test (fun hr => ?_) (fun hr => ?_) <;> (have hb := hr) <;> (try simp (disch := omega) only [ho, std, wI, lenE, nrm] at hb) <;> (try (exfalso; first | contradiction | omega | exact hb rfl)))
              | (refine .gcF ho (β := Unit) (r := ()) (fun v => .tup []) (.out 0) (xs := [.pbx (.out 0) 0, iX _, iX _]) (by rfl) (by rfl) (by rfl) (fun t0 tk0 hl0 => impl_flower_see.gns o ho _ _ _ _ _ t0 tk0 hl0 _ _ ?_) ?_ ?_; rotate_left 2; rintro _ t' tk' _ hl')
              | (refine .gcF ho (β := Unit) (r := ()) (fun v => .tup []) (.out 0) (xs := [.pbx (.out 0) 0, .agg [iX _, iX _, iX _], .agg [iX _, iX _, iX _]]) (by rfl) (by rfl) (by rfl) (fun t0 tk0 hl0 => impl_flower_flow.gns o ho _ _ _ _ _ t0 tk0 hl0 _ _ _ _ _ _ ?_ ?_) ?_ ?_; rotate_left 3; rintro _ t' tk' _ hl')
              | (refine .fetchXAb ho ?_ ?_ (fun y hy => ?_); rotate_left 2; rcases y with ⟨yk, yn, yc⟩)
              | (refine iha _ _ ?_ ⟨_, _, _, _, _, _, _, by subst ho; rfl, ?_, ?_, ?_, Nat.le_refl _⟩)
              | (refine .fin ?_; refine ⟨_, by (conv => lhs; cbv) <;> rfl, ?_, _, _, by rfl, ?_, ?_⟩; first | (focus ((conv => lhs; cbv); done)) | ((conv => lhs; cbv); refine congrArg some ?_)))
          | ((fail_if_success (refine .id ?_))
             first
              | (subst ho; exact hl')
              | (subst ho; exact hla0)
              | (have q1 := len_flowI hF 3 yn yc 1 i c; have q2 := len_flowI hF 4 yn yc 2 i c; have q3 := len_flowI hF 0 n_f2 c 0 i c; have q4 := len_flowI hF 0 n_f3 c 0 i c; simp only [List.length_append] at *; have hs : (seeL n_f3 c).length = 1 := rfl; omega)
              | (have q3 := len_flowI hF 0 n_f2 c 0 i c; have q4 := len_flowI hF 0 n_f3 c 0 i c; simp only [List.length_append] at *; omega)
              | (subst ho; exact ⟨Eq.symm (by assumption), by simp [std, len_eAb], Int.le_refl _, by omega⟩)
              | (simp (disch := omega) only [ho, std, wI]; exact ⟨i1, i2, by omega, by omega⟩)
              | (subst ho; refine congrArg eFc ?_; simp (disch := omega) only [std, wI]; rw [flatMap_succ _ zA i3 (by omega), show rdG zA a28 a30 = ⟨yk, yn, yc⟩ from hy]; simp only [List.append_assoc]; done)
              | ((try clear iha); subst ho; refine congrArg eFc ?_; rw [take_allG (by omega), i1]; unfold matchI; simp only [List.append_assoc])
              | ((try clear iha); (try clear ihb); subst ho; (try refine congrArg eFc ?_); (try first | (have e1 : (thoseL fs a_k a_n a_c 2).isEmpty = true := emp_t (by assumption) (by assumption)) | (have e1 : (thoseL fs a_k a_n a_c 2).isEmpty = false := emp_f (by assumption) (by assumption))); simp [e1]; done)
              | (subst ho; simp (disch := omega) only [std, wI, tdiv2, tdivN, lenE] <;> first | done | rfl | omega)))))
  | ((fail_if_success (refine .id ?_))
     first
      | (subst ho; exact hl)
      | (subst ho; exact hl')
      | (have q3 := len_flowI hF 0 n_f2 c 0 i c; have q4 := len_flowI hF 0 n_f3 c 0 i c; simp only [List.length_append] at *; omega)
      | assumption
      | omega))
theorem impl_flower_one.gns {xa xb : Option (List D → Option D)} (o : Std) (ho : o = std) (l : List Nd) (us : List Bd) (dp : Int) (fs m : List Fc) (t : Tok) (tk : List Nat) (hl : Lw tk t (o.bx fun _ => eFc m).length) (i : Int) (c : Int) (n_f0 : Int) (n_f1 : Int) (n_f2 : Int) (n_f3 : Int) (n_f4 : Int) (n_f5 : ByteArray) (n_f6 : ByteArray) (a_k : Int) (a_n : Int) (a_c : Int) (h0 : Fok l fs) (h1 : Lok l us) (h2 : m.length + 7000000 ≤ 2900000000000) : Gns (env xa xb) 239 [.pbx (.out 0) 0, iX i, iX c, .agg [iX n_f0, iX n_f1, iX n_f2, iX n_f3, iX n_f4, .str n_f5, .str n_f6], .agg [iX a_k, iX a_n, iX a_c]] [[cells5 (o.bx fun _ => eNd l) (o.bx fun _ => eBd us) dp (o.bx fun _ => eFc fs) t (o.bx fun _ => eFc m)]] tk (FR o l us dp fs (m ++ (oneI fs i c (⟨n_f0, n_f1, n_f2, n_f3, n_f4, n_f5, n_f6⟩ : Nd) ⟨a_k, a_n, a_c⟩)) (.tup [])) := by
 refine Gns.mkA (E := env xa xb) (f := 239) ho _ (by rfl) (by rfl) ?_
 have hF := h0; have hK := h1; have hu := h0.up; have hL := h0.len; have hp := h0.pos; have hL2 : fs.length ≤ 2900000000000 := (by omega)
 repeat' (first
  | (refine .id ?_
     (try (conv => arg 2; cbv))
     first
      | refine .testT ?_
      | refine .testF ?_
      | (refine .test (fun hr => ?_) (fun hr => ?_) <;> (have hb := hr) <;> (try simp (disch := omega) only [ho, std, wI, lenE, nrm] at hb) <;> (try (exfalso; first | contradiction | omega | exact hb rfl)))
      | (refine .gcF ho (β := Unit) (r := ()) (fun v => .tup []) (.out 0) (xs := [.pbx (.out 0) 0, .agg [iX _, iX _, iX _], iX _, iX _, .agg [iX _, iX _, iX _]]) (by rfl) (by rfl) (by rfl) (fun t0 tk0 hl0 => impl_flower_take.gns o ho _ _ _ _ _ t0 tk0 hl0 _ _ _ _ _ _ _ _ ?_ ?_) ?_ ?_; rotate_left 3; rintro _ t' tk' _ hl')
      | (refine .gcF ho (β := List Ab) (rAb o) (.out 0) (xs := [.pbx (.out 0) 0, .agg [iX _, iX _, iX _]]) (by rfl) (by rfl) (by rfl) (fun t0 tk0 hl0 => impl_flower_values.gns o ho _ _ _ _ _ t0 tk0 hl0 _ _ _ ?_) ?_ ?_; rotate_left 2; rintro v t' tk' hv hl')
      | (refine .gcF ho (β := Unit) (r := ()) (fun v => .tup []) (.out 0) (xs := [.pbx (.out 0) 0, .agg [iX _, iX _, iX _], .agg [iX _, iX _, iX _]]) (by rfl) (by rfl) (by rfl) (fun t0 tk0 hl0 => impl_flower_add.gns o ho _ _ _ _ _ t0 tk0 hl0 _ _ _ _ _ _ ?_) ?_ ?_; rotate_left 2; rintro _ t' tk' _ hl')
      | (refine .gcF ho (β := Unit) (r := ()) (fun v => .tup []) (.out 0) (xs := [.pbx (.out 0) 0, .agg [iX _, iX _, iX _], .agg [iX _, iX _, iX _]]) (by rfl) (by rfl) (by rfl) (fun t0 tk0 hl0 => impl_flower_flow.gns o ho _ _ _ _ _ t0 tk0 hl0 _ _ _ _ _ _ ?_ ?_) ?_ ?_; rotate_left 3; rintro _ t' tk' _ hl')
      | (refine .gcF ho (β := List Ab) (rAb o) (.out 0) (xs := [.pbx (.out 0) 0, .agg [iX _, iX _, iX _], iX _]) (by rfl) (by rfl) (by rfl) (fun t0 tk0 hl0 => impl_flower_those.gns o ho _ _ _ _ _ t0 tk0 hl0 _ _ _ _ ?_) ?_ ?_; rotate_left 2; rintro v t' tk' hv hl')
      | (refine .pE (β := Bool) .bool (as' := [rFc o _, .agg [iX _, iX _, iX _, iX _, iX _, iX _]]) (impl_has.ans o ho _ _ _ _ _ _ _ ?_ ?_) ?_; rotate_left 2; rintro (_ | _) hv <;> (try simp only [dE] at hv) <;> (try first | contradiction | exact bX hv))
      | (refine .gcF ho (β := Unit) (r := ()) (fun v => .tup []) (.out 0) (xs := [.pbx (.out 0) 0, iX _, iX _]) (by rfl) (by rfl) (by rfl) (fun t0 tk0 hl0 => impl_flower_see.gns o ho _ _ _ _ _ t0 tk0 hl0 _ _ ?_) ?_ ?_; rotate_left 2; rintro _ t' tk' _ hl')
      | (refine .needD ho (by kernel_rfl) ?_)
      | (refine .fin ?_; refine ⟨_, by (conv => lhs; cbv) <;> rfl, ?_, _, _, by rfl, ?_, ?_⟩; first | (focus ((conv => lhs; cbv); done)) | ((conv => lhs; cbv); refine congrArg some ?_)))
  | ((fail_if_success (refine .id ?_))
     first
      | (subst ho; exact hl)
      | (subst ho; exact hl')
      | (have hq1 := len_flowI hF; simp only [List.length_append, List.length_cons, List.length_nil, seeL, flowP]; have hq8 := hq1 0 n_f1 c 0 i c; have hq2 := hq1 0 n_f2 c 0 i c; have hq3 := hq1 0 n_f3 c 0 i c; have hq4 := hq1 a_k a_n a_c 5 i c; have hq5 := hq1 a_k a_n a_c 0 i c; have hq6 := hq1 a_k a_n a_c 3 i c; omega)
      | ((try clear iha); (try clear ihb); subst ho; (try refine congrArg eFc ?_); (try first | (have e1 : (vals fs a_k a_n a_c).isEmpty = true := emp_t (by assumption) (by assumption)) | (have e1 : (vals fs a_k a_n a_c).isEmpty = false := emp_f (by assumption) (by assumption))); (try rw [show (vals fs a_k a_n a_c) = _ by assumption] at e1); (try first | (have e2 : (thoseL fs a_k a_n a_c 0).isEmpty = true := emp_t (by assumption) (by assumption)) | (have e2 : (thoseL fs a_k a_n a_c 0).isEmpty = false := emp_f (by assumption) (by assumption))); (try rw [show (thoseL fs a_k a_n a_c 0) = _ by assumption] at e2); unfold oneI; simp [*, flowP]; done)
      | ((try clear iha); (try clear ihb); subst ho; (try refine congrArg eFc ?_); (try first | (have e1 : (vals fs a_k a_n a_c).isEmpty = true := emp_t (by assumption) (by assumption)) | (have e1 : (vals fs a_k a_n a_c).isEmpty = false := emp_f (by assumption) (by assumption))); (try rw [show (vals fs a_k a_n a_c) = _ by assumption] at e1); (try first | (have e2 : (thoseL fs a_k a_n a_c 0).isEmpty = true := emp_t (by assumption) (by assumption)) | (have e2 : (thoseL fs a_k a_n a_c 0).isEmpty = false := emp_f (by assumption) (by assumption))); (try rw [show (thoseL fs a_k a_n a_c 0) = _ by assumption] at e2); unfold oneI hasR; simp [*, flowP]; done)
      | assumption
      | omega))
theorem impl_flower_other.gns {xa xb : Option (List D → Option D)} (o : Std) (ho : o = std) (l : List Nd) (us : List Bd) (dp : Int) (fs m : List Fc) (t : Tok) (tk : List Nat) (hl : Lw tk t (o.bx fun _ => eFc m).length) (i : Int) (c : Int) (n_f0 : Int) (n_f1 : Int) (n_f2 : Int) (n_f3 : Int) (n_f4 : Int) (n_f5 : ByteArray) (n_f6 : ByteArray) (h0 : Fok l fs) (h1 : Lok l us) (h2 : m.length + 965000000 ≤ 2900000000000) : Gns (env xa xb) 208 [.pbx (.out 0) 0, iX i, iX c, .agg [iX n_f0, iX n_f1, iX n_f2, iX n_f3, iX n_f4, .str n_f5, .str n_f6]] [[cells5 (o.bx fun _ => eNd l) (o.bx fun _ => eBd us) dp (o.bx fun _ => eFc fs) t (o.bx fun _ => eFc m)]] tk (FR o l us dp fs (m ++ (otherI l us dp fs i c (⟨n_f0, n_f1, n_f2, n_f3, n_f4, n_f5, n_f6⟩ : Nd))) (.tup [])) := by
 refine Gns.mkA (E := env xa xb) (f := 208) ho _ (by rfl) (by rfl) ?_
 have hF := h0; have hK := h1; have hu := h0.up; have hL := h0.len; have hp := h0.pos; have hL2 : fs.length ≤ 2900000000000 := (by omega)
 repeat' (first
  | (refine .id ?_
     (try (conv => arg 2; cbv))
     first
      | (refine .gcF ho (β := Unit) (r := ()) (fun v => .tup []) (.out 0) (xs := [.pbx (.out 0) 0, iX _, iX _]) (by rfl) (by rfl) (by rfl) (fun t0 tk0 hl0 => impl_flower_see.gns o ho _ _ _ _ _ t0 tk0 hl0 _ _ ?_) ?_ ?_; rotate_left 2; rintro _ t' tk' _ hl')
      | (refine .pE (β := List Int) (rK o) (as' := [.agg [iX _, iX _, iX _, iX _, iX _, .str _, .str _]]) (impl_Kids.ans o ho _ _ _ _ _ _ _) ?_; rintro v hv)
      | (refine .indF (fun m_ s_ => ∃ (a20 : List Int) (a21 : Int) (a22 : Int) (ema : Box) (ta20 ua : Tok) (tk : List Nat), s_ = ⟨[.pbx (.out 0) 0, iX i, iX c, Jk, Jk, Jk, Jk, .pbx (.loc 0) 0, Jk, Jk, Jk, Jk, Jk, Jk, Jk, Jk, Jk, Jk, Jk, Jk, .sl ta20 1 (o.bx fun _ => eK .i64 a20), iX a21, iX a22] ++ List.replicate 115 Jk, [[[iX n_f0, iX n_f1, iX n_f2, iX n_f3, iX n_f4, .str n_f5, .str n_f6]]], [[cells5 (o.bx fun _ => eNd l) (o.bx fun _ => eBd us) dp (o.bx fun _ => eFc fs) ua ema]], tk⟩ ∧ Lw tk ua ema.length ∧ ema = (o.bx fun _ => eFc (m ++ (seeL n_f1 c ++ (a20.zipIdx.take a22.toNat).flatMap (kidI fs n_f0 i c)))) ∧ (a20 = kidsM (⟨n_f0, n_f1, n_f2, n_f3, n_f4, n_f5, n_f6⟩ : Nd) ∧ a21 = a20.length ∧ 0 ≤ a22 ∧ a22 ≤ a20.length) ∧ (a20.length - a22).toNat ≤ m_) _ _ ⟨_, _, _, _, _, _, _, by subst ho; rfl, ?_, ?_, ?_, Nat.le_refl _⟩ ?_
         rotate_right
         rintro m_ _ ⟨a20, a21, a22, ema, ta20, ua, tk, rfl, hla0, rfl, hIa, hka⟩ iha
         obtain ⟨i1, i2, i3, i4⟩ := hIa; have hz := len_kidsM (⟨n_f0, n_f1, n_f2, n_f3, n_f4, n_f5, n_f6⟩ : Nd); rw [← i1] at hz; have hz2 := arityM_le n_f0; dsimp only at hz; have hw := len_flatMap_le _ 1 (fun v => len_kidI fs n_f0 i c v) (a20.zipIdx.take a22.toNat); have hw3 := List.length_take_le a22.toNat a20.zipIdx; have hsl : (seeL n_f1 c).length = 1 := rfl; refine .unloopA ho ?_
         repeat' (first
          | (refine .id ?_
             (try (conv => arg 2; cbv))
             first
              | refine .testT ?_
              | refine .t1 ?_
              | refine .t0 ?_
              | (refine .test (fun hr => ?_) (fun hr => ?_) <;> (have hb := hr) <;> (try simp (disch := omega) only [ho, std, wI, lenE, nrm] at hb) <;> (try (exfalso; first | contradiction | omega | exact hb rfl)))
              | (refine .gcF ho (β := Unit) (r := ()) (fun v => .tup []) (.out 0) (xs := [.pbx (.out 0) 0, iX _, iX _]) (by rfl) (by rfl) (by rfl) (fun t0 tk0 hl0 => impl_flower_see.gns o ho _ _ _ _ _ t0 tk0 hl0 _ _ ?_) ?_ ?_; rotate_left 2; rintro _ t' tk' _ hl')
              | (refine .gcF ho (β := Unit) (r := ()) (fun v => .tup []) (.out 0) (xs := [.pbx (.out 0) 0, iX _, iX _, iX _, iX _]) (by rfl) (by rfl) (by rfl) (fun t0 tk0 hl0 => impl_flower_raise.gns o ho _ _ _ _ _ t0 tk0 hl0 _ _ _ _ ?_ ?_) ?_ ?_; rotate_left 3; rintro _ t' tk' _ hl')
              | (refine .gcF ho (β := List Ab) (rAb o) (.out 0) (xs := [.pbx (.out 0) 0, .agg [iX _, iX _, iX _]]) (by rfl) (by rfl) (by rfl) (fun t0 tk0 hl0 => impl_flower_values.gns o ho _ _ _ _ _ t0 tk0 hl0 _ _ _ ?_) ?_ ?_; rotate_left 2; rintro v t' tk' hv hl')
              | (refine .gcF ho (β := Unit) (r := ()) (fun v => .tup []) (.out 0) (xs := [.pbx (.out 0) 0, iX _, iX _, .agg [iX _, iX _, iX _, iX _, iX _, .str _, .str _], .agg [iX _, iX _, iX _], .agg [iX _, iX _, iX _]]) (by rfl) (by rfl) (by rfl) (fun t0 tk0 hl0 => impl_flower_both.gns o ho _ _ _ _ _ t0 tk0 hl0 _ _ _ _ _ _ _ _ _ _ _ _ _ _ _ ?_ ?_ ?_) ?_ ?_; rotate_left 4; rintro _ t' tk' _ hl')
              | (refine .gcF ho (β := Unit) (r := ()) (fun v => .tup []) (.out 0) (xs := [.pbx (.out 0) 0, .agg [iX _, iX _, iX _], .agg [iX _, iX _, iX _]]) (by rfl) (by rfl) (by rfl) (fun t0 tk0 hl0 => impl_flower_flow.gns o ho _ _ _ _ _ t0 tk0 hl0 _ _ _ _ _ _ ?_ ?_) ?_ ?_; rotate_left 3; rintro _ t' tk' _ hl')
              | (refine .gcF ho (β := List Ab) (rAb o) (.out 0) (xs := [.pbx (.out 0) 0, .agg [iX _, iX _, iX _], iX _]) (by rfl) (by rfl) (by rfl) (fun t0 tk0 hl0 => impl_flower_those.gns o ho _ _ _ _ _ t0 tk0 hl0 _ _ _ _ ?_) ?_ ?_; rotate_left 2; rintro v t' tk' hv hl')
              | (refine .gcF ho (β := Unit) (r := ()) (fun v => .tup []) (.out 0) (xs := [.pbx (.out 0) 0, iX _, iX _, .agg [iX _, iX _, iX _, iX _, iX _, .str _, .str _], .agg [iX _, iX _, iX _]]) (by rfl) (by rfl) (by rfl) (fun t0 tk0 hl0 => impl_flower_match.gns o ho _ _ _ _ _ t0 tk0 hl0 _ _ _ _ _ _ _ _ _ _ _ _ ?_ ?_ ?_) ?_ ?_; rotate_left 4; rintro _ t' tk' _ hl')
              | (refine .gcF ho (β := Unit) (r := ()) (fun v => .tup []) (.out 0) (xs := [.pbx (.out 0) 0, iX _, iX _, .agg [iX _, iX _, iX _, iX _, iX _, .str _, .str _], .agg [iX _, iX _, iX _]]) (by rfl) (by rfl) (by rfl) (fun t0 tk0 hl0 => impl_flower_one.gns o ho _ _ _ _ _ t0 tk0 hl0 _ _ _ _ _ _ _ _ _ _ _ _ ?_ ?_ ?_) ?_ ?_; rotate_left 4; rintro _ t' tk' _ hl')
              | (refine .fetchXK ho ?_ ?_ (fun y hy => ?_); rotate_left 2)
              | (refine .needD ho (by kernel_rfl) ?_)
              | (refine iha _ _ ?_ ⟨_, _, _, _, _, _, _, by subst ho; rfl, ?_, ?_, ?_, Nat.le_refl _⟩)
              | (refine .fin ?_; refine ⟨_, by (conv => lhs; cbv) <;> rfl, ?_, _, _, by rfl, ?_, ?_⟩; first | (focus ((conv => lhs; cbv); done)) | ((conv => lhs; cbv); refine congrArg some ?_)))
          | ((fail_if_success (refine .id ?_))
             first
              | (subst ho; exact hl')
              | (subst ho; exact hla0)
              | (rw [List.length_append, List.length_append]; omega)
              | (have hq1 := len_flowI hF; have hq2 := hq1 0 n_f2 c 0 i c; have hq3 := hq1 0 n_f3 c 0 i c; have hq4 := hq1 0 n_f1 c 1 i c; have hq5 : ∀ a b, (seeL a b).length = 1 := fun a b => rfl; simp only [List.length_append, hq5]; omega)
              | (subst ho; exact ⟨Eq.symm (by assumption), by simp [std, len_eK], Int.le_refl _, by omega⟩)
              | (simp (disch := omega) only [ho, std, wI]; exact ⟨i1, i2, by omega, by omega⟩)
              | (subst ho; refine congrArg eFc ?_; simp; done)
              | (simp (disch := omega) only [ho, std, wI]; refine congrArg eFc ?_; rw [flatMap_succ _ (0, 0) i3 (by simp; omega), rd_zipIdx i3 (by omega), hy, kidI]; first | (rw [if_pos (by dsimp only; omega)]; simp only [List.append_assoc]; done) | (rw [if_neg (by dsimp only; omega)]; simp only [List.append_nil]; done))
              | ((try clear iha); subst ho; (try refine congrArg eFc ?_); rw [take_allG (by simp; omega), i1]; (try first | (have e1 : (vals fs 0 n_f1 c).isEmpty = true := emp_t (by assumption) (by assumption)) | (have e1 : (vals fs 0 n_f1 c).isEmpty = false := emp_f (by assumption) (by assumption))); (try rw [show (vals fs 0 n_f1 c) = _ by assumption] at e1); (try first | (have e2 : (thoseL fs 0 n_f1 c 0).isEmpty = true := emp_t (by assumption) (by assumption)) | (have e2 : (thoseL fs 0 n_f1 c 0).isEmpty = false := emp_f (by assumption) (by assumption))); (try rw [show (thoseL fs 0 n_f1 c 0) = _ by assumption] at e2); unfold otherI; simp [*, flowP]; done)
              | assumption
              | omega
              | (subst ho; simp (disch := omega) only [std, wI, tdiv2, tdivN, lenE] <;> first | done | rfl | omega)))))
  | ((fail_if_success (refine .id ?_))
     first
      | (subst ho; exact hl)
      | omega))
theorem impl_flower_node.gns {xa xb : Option (List D → Option D)} (o : Std) (ho : o = std) (l : List Nd) (us : List Bd) (dp : Int) (fs m : List Fc) (t : Tok) (tk : List Nat) (hl : Lw tk t (o.bx fun _ => eFc m).length) (i : Int) (c : Int) (h0 : Fok l fs) (h1 : Lok l us) (h2 : 0 ≤ i ∧ i < l.length) (h3 : m.length + 970000000 ≤ 2900000000000) : Gns (env xa xb) 155 [.pbx (.out 0) 0, iX i, iX c] [[cells5 (o.bx fun _ => eNd l) (o.bx fun _ => eBd us) dp (o.bx fun _ => eFc fs) t (o.bx fun _ => eFc m)]] tk (FR o l us dp fs (m ++ (nodeI l us dp fs i c)) (.tup [])) := by
 refine Gns.mkA (E := env xa xb) (f := 155) ho _ (by rfl) (by rfl) ?_
 have hF := h0; have hK := h1; have hu := h0.up; have hL := h0.len; have hp := h0.pos; have hL2 : fs.length ≤ 2900000000000 := (by omega); have hus := h1.uses
 repeat' (first
  | (refine .id ?_
     (try (conv => arg 2; cbv))
     first
      | (refine .test (fun hr => ?_) (fun hr => ?_) <;> (have hb := hr) <;> (try simp (disch := omega) only [ho, std, wI, lenE, nrm] at hb) <;> (try (exfalso; first | contradiction | omega | exact hb rfl)))
      | (refine .pE (β := Plc) (fun v => .agg ([iX v.k, iX v.n, iX v.c])) (as' := [.agg [iX _, iX _], iX _]) (impl_nameAt.ans o ho _ _ _) ?_; rintro ⟨v0, v1, v2⟩ hv)
      | (refine .gcF ho (β := Unit) (r := ()) (fun v => .tup []) (.out 0) (xs := [.pbx (.out 0) 0, .agg [iX _, iX _, iX _], .agg [iX _, iX _, iX _]]) (by rfl) (by rfl) (by rfl) (fun t0 tk0 hl0 => impl_flower_flow.gns o ho _ _ _ _ _ t0 tk0 hl0 _ _ _ _ _ _ ?_ ?_) ?_ ?_; rotate_left 3; rintro _ t' tk' _ hl')
      | (refine .gcF ho (β := Unit) (r := ()) (fun v => .tup []) (.out 0) (xs := [.pbx (.out 0) 0, .agg [iX _, iX _, iX _], .agg [iX _, iX _, iX _]]) (by rfl) (by rfl) (by rfl) (fun t0 tk0 hl0 => impl_flower_add.gns o ho _ _ _ _ _ t0 tk0 hl0 _ _ _ _ _ _ ?_) ?_ ?_; rotate_left 2; rintro _ t' tk' _ hl')
      | (refine .gcF ho (β := Unit) (r := ()) (fun v => .tup []) (.out 0) (xs := [.pbx (.out 0) 0, iX _, iX _]) (by rfl) (by rfl) (by rfl) (fun t0 tk0 hl0 => impl_flower_see.gns o ho _ _ _ _ _ t0 tk0 hl0 _ _ ?_) ?_ ?_; rotate_left 2; rintro _ t' tk' _ hl')
      | (refine .gcF ho (β := Unit) (r := ()) (fun v => .tup []) (.out 0) (xs := [.pbx (.out 0) 0, iX _, iX _, iX _, iX _]) (by rfl) (by rfl) (by rfl) (fun t0 tk0 hl0 => impl_flower_raise.gns o ho _ _ _ _ _ t0 tk0 hl0 _ _ _ _ ?_ ?_) ?_ ?_; rotate_left 3; rintro _ t' tk' _ hl')
      | (refine .gcF ho (β := Unit) (r := ()) (fun v => .tup []) (.out 0) (xs := [.pbx (.out 0) 0, iX _, iX _, .agg [iX _, iX _, iX _, iX _, iX _, .str _, .str _]]) (by rfl) (by rfl) (by rfl) (fun t0 tk0 hl0 => impl_flower_other.gns o ho _ _ _ _ _ t0 tk0 hl0 _ _ _ _ _ _ _ _ _ ?_ ?_ ?_) ?_ ?_; rotate_left 4; rintro _ t' tk' _ hl')
      | (refine .fetchXNd ho ?_ ?_ (fun y hy => ?_); rotate_left 2; rcases y with ⟨y0, y1, y2, y3, y4, y5, y6⟩)
      | (refine .fetchXBd ho ?_ ?_ (fun y hy => ?_); rotate_left 2; rcases y with ⟨y0, y1⟩)
      | (refine .needD ho (by kernel_rfl) ?_)
      | (refine .fin ?_; refine ⟨_, by (conv => lhs; cbv) <;> rfl, ?_, _, _, by rfl, ?_, ?_⟩; first | (focus ((conv => lhs; cbv); done)) | ((conv => lhs; cbv); refine congrArg some ?_)))
  | ((fail_if_success (refine .id ?_))
     first
      | (subst ho; exact hl)
      | (subst ho; exact hl')
      | (have hq1 := len_flowI hF; have hq2 := hq1 0 y2 c 0 i c; have hq5 : ∀ a b, (seeL a b).length = 1 := fun a b => rfl; simp only [List.length_append, List.length_cons, List.length_nil, hq5]; omega)
      | ((try clear iha); subst ho; (try refine congrArg eFc ?_); unfold nodeI; simp [*, flowP]; done)
      | assumption
      | omega))
noncomputable def impl_pass_pre.fi : FnI := { fni Tryz.f133 (fun | 3 => [3, 10, 20, 21, 22] | _ => []) false with body := takeC 3 (bodyOf Tryz.f133) }
theorem impl_pass_pre.part {xa xb : Option (List D → Option D)} (o : Std) (ho : o = std) (l : List Nd) (us : List Bd) (dp : Int) (fs : List Fc) (h0 : Fok l fs) (h1 : Lok l us) : AnsI (env xa xb) impl_pass_pre.fi .normal (fun s => if s.t.length = 50 then s.t[13]? else none) [rNd o l, rBd o us, iX dp, rFc o fs] (fun d_ tk_ => ∃ (tq : Tok) , d_ = .sl tq 6 (o.bx fun _ => eFc (moreI l us dp fs ++ fs)) ∧ (Lw tk_ tq (moreI l us dp fs ++ fs).length)) := by
 refine AnsI.mkA ho (by rfl) ?_
 have hs := h1.size; have hfl := h0.len
 repeat' (first
  | (refine .id ?_
     (try (conv => arg 2; cbv))
     first
      | (refine .indF (fun m_ s_ => ∃ (a21 : Int) (a22 : Int) (tk : List Nat) (ua : Tok) (ema : Box), s_ = ⟨[Jk, Jk, Jk, rFc o fs, Jk, Jk, Jk, Jk, Jk, Jk, .pbx (.loc 0) 0, Jk, Jk, Jk, Jk, Jk, Jk, Jk, Jk, Jk, rFc o fs, iX a21, iX a22] ++ List.replicate 27 Jk, [[cells5 (o.bx fun _ => eNd l) (o.bx fun _ => eBd us) dp (o.bx fun _ => eFc fs) ua ema]], [], tk⟩ ∧ (Lw tk ua ema.length ∧ ema = (o.bx fun _ => eFc (moreT l us dp fs (fs.take a22.toNat))) ∧ a21 = fs.length ∧ 0 ≤ a22 ∧ a22 ≤ fs.length) ∧ (fs.length - a22).toNat ≤ m_) _ _ ⟨_, _, _, _, _, by subst ho; rfl, ?_, Nat.le_refl _⟩ ?_
         rotate_right
         rintro m_ _ ⟨a21, a22, tk, ua, ema, rfl, hIa, hka⟩ iha
         obtain ⟨hla0, rfl, i1, i2, i3⟩ := hIa; have hml := len_moreT2 h0 h1 dp a22.toNat; refine .unloopA ho ?_
         repeat' (first
          | (refine .id ?_
             (try (conv => arg 2; cbv))
             first
              | (refine .test (fun hr => ?_) (fun hr => ?_) <;> (have hb := hr) <;> (try simp (disch := omega) only [ho, std, wI, lenE, nrm] at hb) <;> (try (exfalso; first | contradiction | omega | exact hb rfl)))
              | (refine .gcF ho (β := Unit) (r := ()) (fun v => .tup []) (.loc 0) (xs := [.pbx (.out 0) 0, iX _, iX _]) (by rfl) (by rfl) (by rfl) (fun t0 tk0 hl0 => impl_flower_node.gns o ho _ _ _ _ _ t0 tk0 hl0 _ _ ?_ ?_ ?_ ?_) ?_ ?_; rotate_left 5; rintro _ t' tk' _ hl')
              | (refine .fetchXFc ho ?_ ?_ (fun y hy => ?_); rotate_left 2; rcases y with ⟨yk, yn, yc, yvk, yvn, yvc⟩; (have hyf := hy))
              | (refine .need ?_ ?_)
              | (refine .app1w ?_ (fun t' tk' hl' => ?_))
              | (refine iha _ _ ?_ ⟨_, _, _, _, _, by subst ho; rfl, ?_, Nat.le_refl _⟩)
              | (refine .done ⟨rfl, ?_⟩; refine ⟨_, by (conv => lhs; cbv) <;> rfl, ?_⟩))
          | ((fail_if_success (refine .id ?_))
             first
              | (subst ho; exact hla0)
              | (subst ho; exact ⟨.nil, rfl, by simp [std, len_eFc], Int.le_refl _, by omega⟩)
              | (subst ho; have he : a22.toNat = fs.length := (by omega); have e : moreT l us dp fs (fs.take a22.toNat) = moreI l us dp fs := (by rw [he, List.take_length, moreT_all]); rw [← e]; refine ⟨t', congrArg (D.sl t' 6) (by simp [std, eFc]), ?_⟩; show Lw tk' t' (moreT l us dp fs (fs.take a22.toNat) ++ fs).length; simpa [std, len_eFc] using hl')
              | (exact rF_node h0 i2 (by omega) hyf)
              | (subst ho; simp (disch := omega) only [std, wI]; exact ⟨hla0, congrArg eFc (moreT_miss i2 (by omega) hyf (by assumption)).symm, i1, by omega, by omega⟩)
              | (subst ho; simp (disch := omega) only [std, wI]; exact ⟨hl', congrArg eFc (moreT_hit i2 (by omega) hyf (by assumption)).symm, i1, by omega, by omega⟩)
              | assumption
              | omega
              | (subst ho; simp [std, lenE]; omega)
              | (subst ho; simp (disch := omega) only [std, wI, tdiv2, tdivN, lenE] <;> first | done | rfl | omega)))))
  | ((fail_if_success (refine .id ?_))
     first
      | fail))
end Go.Mach
