/- What the statements share: part 25 of a proof by an executable machine over the program's code. -/
import Derived.Test.YtbkpkchegopmiaaGreatDoorMc24
set_option linter.unusedVariables false
set_option linter.unusedSimpArgs false
set_option maxRecDepth 100000
set_option maxHeartbeats 4000000
namespace Go.Mach
open Go Go.RowKit Go.Proofs
theorem impl_outerOf.ans {xa xb : Option (List D → Option D)} (o : Std) (ho : o = std) (l : List Nd) (us : List Bd) (f : Int) (h0 : Lok l us) (h1 : 0 ≤ f ∧ f < l.length) (h2 : 0 < arityM (rN l f).f0) : Ans (env xa xb) 231 [rNd o l, rBd o us, iX f] (rBd o (outerM l us f)) := by
 refine Ans.mkA ho _ rfl rfl ?_
 have hd := h0.downs; have hus := h0.uses; have hsz := h0.size; have hk := hd f h1.1 h1.2 h2; have hst := startM_le hd hk.1 (by omega)
 repeat' (first
  | (refine .id ?_
     (try (conv => arg 2; cbv))
     first
      | (refine .pE (β := Int × Int) (fun v => .tup [iX v.1, iX v.2]) (as' := [rNd o _, iX _]) (impl_bodyOf.ans o ho _ _ ?_ ?_ ?_) ?_; rotate_left 3; rintro ⟨v0, v1⟩ hv)
      | (refine .indF (fun m_ s_ => ∃ (a7 : Int) (a8 : Int) (ea9 : Box) (a10 : Int) (ta9 : Tok) (tk : List Nat), s_ = ⟨[rNd o l, rBd o us, iX f, Jk, Jk, Jk, Jk, iX a7, iX a8, .sl ta9 2 ea9, iX a10] ++ List.replicate 57 Jk, [], [], tk⟩ ∧ Lv tk ta9 ea9.length ∧ ea9 = (o.bx fun _ => eBd (outerN l us f (a10 - a7).toNat)) ∧ (a7 = startM l (rN l f).f1 ∧ a8 = (rN l f).f1 ∧ a7 ≤ a10 ∧ a10 ≤ a8 + 1) ∧ (a8 + 1 - a10).toNat ≤ m_) _ _ ⟨_, _, _, _, _, _, by subst ho; rfl, ?_, ?_, ?_, Nat.le_refl _⟩ ?_
         rotate_right
         rintro m_ _ ⟨a7, a8, ea9, a10, ta9, tk, rfl, hla0, rfl, hIa, hka⟩ iha
         obtain ⟨i1, i2, i3, i4⟩ := hIa; have hz := len_outerN l us f (a10 - a7).toNat; refine .unloopA ho ?_
         repeat' (first
          | (refine .id ?_
             (try (conv => arg 2; cbv))
             first
              | refine .testT ?_
              | refine .testF ?_
              | refine .t1 ?_
              | refine .t0 ?_
              | (refine .test (fun hr => ?_) (fun hr => ?_) <;> (have hb := hr) <;> (try simp (disch := omega) only [ho, std, wI, lenE, nrm] at hb) <;> (try (exfalso; first | contradiction | omega | exact hb rfl)))
              | (refine .pE (β := Bool) .bool (as' := [iX _, iX _, iX _]) (impl_in.ans o ho _ _ _) ?_; rintro (_ | _) hv <;> (try simp only [dE] at hv) <;> (try first | contradiction | exact bX hv))
              | (refine .pE (β := Bd) (fun v => .agg ([iX v.f0, iX v.f1])) (as' := [rNd o _, iX _]) (impl_given.ans o ho _ _ ?_) ?_; rotate_left 1; rintro ⟨v0, v1⟩ hv)
              | (refine .fetchXBd ho ?_ ?_ (fun y hy => ?_); rotate_left 2; rcases y with ⟨y0, y1⟩; (first | (have _hq := q0) | (obtain ⟨q0, e0⟩ : ∃ q, q = y0 := ⟨_, rfl⟩; obtain ⟨q1, e1⟩ : ∃ q, q = y1 := ⟨_, rfl⟩; subst e0; subst e1; have hq := hy)))
              | (refine .needD ho (by kernel_rfl) ?_)
              | (refine .indF (fun m_ s_ => ∃ (b12 : Bool) (b49 : Int) (b50 : Int) (tk : List Nat), s_ = ⟨[rNd o l, rBd o us, iX f, Jk, Jk, Jk, Jk, iX a7, iX a8, .sl ta9 2 (o.bx fun _ => eBd (outerN l us f (a10 - a7).toNat)), iX a10, .pbx (.loc 0) 0, .bool b12, Jk, Jk, Jk, Jk, Jk, Jk, Jk, Jk, Jk, Jk, Jk, Jk, Jk, Jk, Jk, Jk, Jk, Jk, Jk, Jk, Jk, Jk, Jk, Jk, Jk, Jk, Jk, Jk, Jk, Jk, Jk, Jk, Jk, Jk, Jk, .sl ta9 2 (o.bx fun _ => eBd (outerN l us f (a10 - a7).toNat)), iX b49, iX b50] ++ List.replicate 17 Jk, [[[iX q0, iX q1]]], [], tk⟩ ∧ (Lv tk ta9 (o.bx fun _ => eBd (outerN l us f (a10 - a7).toNat)).length ∧ b49 = (outerN l us f (a10 - a7).toNat).length ∧ 0 ≤ b50 ∧ b50 ≤ b49 ∧ b12 = (knB l us f ⟨q0, q1⟩ || ((outerN l us f (a10 - a7).toNat).take b50.toNat).any fun x => decide (x = ⟨q0, q1⟩))) ∧ (b49 - b50).toNat ≤ m_) _ _ ⟨_, _, _, _, by subst ho; rfl, ?_, Nat.le_refl _⟩ ?_
                 rotate_right
                 rintro m_ _ ⟨b12, b49, b50, tk, rfl, hIb, hkb⟩ ihb
                 obtain ⟨j0, j1, j2, j3, j4⟩ := hIb; refine .unloopA ho ?_
                 repeat' (first
                  | (refine .id ?_
                     (try (conv => arg 2; cbv))
                     first
                      | refine .t1 ?_
                      | refine .t0 ?_
                      | (refine .test (fun hr => ?_) (fun hr => ?_) <;> (have hb := hr) <;> (try simp (disch := omega) only [ho, std, wI, lenE, nrm] at hb) <;> (try (exfalso; first | contradiction | omega | exact hb rfl)))
                      | (refine .fetchXBd ho ?_ ?_ (fun y hy => ?_); rotate_left 2; rcases y with ⟨y0, y1⟩; (first | (have _hq := q0) | (obtain ⟨q0, e0⟩ : ∃ q, q = y0 := ⟨_, rfl⟩; obtain ⟨q1, e1⟩ : ∃ q, q = y1 := ⟨_, rfl⟩; subst e0; subst e1; have hq := hy)))
                      | (refine .need ?_ ?_)
                      | (refine .app1 ?_ (fun t' tk' hl' => ?_))
                      | (refine ihb _ _ ?_ ⟨_, _, _, _, by subst ho; rfl, ?_, Nat.le_refl _⟩)
                      | (refine iha _ _ ?_ ⟨_, _, _, _, _, _, by subst ho; rfl, ?_, ?_, ?_, Nat.le_refl _⟩))
                  | ((fail_if_success (refine .id ?_))
                     first
                      | (subst ho; exact j0)
                      | (subst ho; refine ⟨hla0, by simp [std, len_eBd], Int.le_refl _, by simp [std], ?_⟩; rw [show Int.toNat 0 = 0 from rfl, List.take_zero, List.any_nil, Bool.or_false]; first | exact (decide_eq_true (.inl (by omega))).symm | exact (decide_eq_true (.inr (.inl (by dsimp only; omega)))).symm | exact knB_eq (by omega) (by omega) (by assumption))
                      | (clear iha ihb; simp (disch := omega) only [ho, std, wI]; refine ⟨by subst ho; exact j0, j1, by omega, by omega, ?_⟩; rw [any_succ j2 (by omega), ← Bool.or_assoc, ← j4, show b12 = true by assumption]; rfl)
                      | (clear iha ihb; simp (disch := omega) only [ho, std, wI]; refine ⟨by subst ho; exact j0, j1, by omega, by omega, ?_⟩; rw [any_succ j2 (by omega), ← Bool.or_assoc, ← j4, show b12 = false by assumption, hy, Bool.false_or]; exact eqBd _ _ _ _)
                      | (clear iha ihb; rw [take_allG (i := b50) (by omega)] at j4; simp (disch := omega) only [ho, std, wI]; first | exact congrArg eBd (outerN_keep i1 i3 hq (by rw [← j4]; assumption)).symm | exact push_eBd (x := ⟨q0, q1⟩) (outerN_push i1 i3 hq (by rw [← j4]; assumption)))
                      | assumption
                      | omega
                      | (subst ho; simpa [std, lenE] using hl')
                      | (subst ho; simp [std, lenE]; omega)
                      | (subst ho; simp (disch := omega) only [std, wI, tdiv2, tdivN, lenE] <;> first | done | rfl | omega))))
              | (refine .fin ?_; (conv => lhs; cbv); refine congrArg some ?_))
          | ((fail_if_success (refine .id ?_))
             first
              | (exact Lv.nil)
              | (subst ho; refine congrArg (D.sl Tok.ro 2) (congrArg eBd ?_); unfold outerM; rw [← i1, ← i2]; congr 1; omega)
              | (subst ho; rw [show v0 - v0 = 0 by omega]; rfl)
              | (simp only [Prod.mk.injEq] at hv; obtain ⟨e1, e2⟩ := hv; exact ⟨e1.symm, e2.symm, Int.le_refl _, by omega⟩)
              | assumption
              | omega))))
  | ((fail_if_success (refine .id ?_))
     first
      | assumption))
theorem impl_flower_call.gns {xa xb : Option (List D → Option D)} (o : Std) (ho : o = std) (l : List Nd) (us : List Bd) (dp : Int) (fs m : List Fc) (t : Tok) (tk : List Nat) (hl : Lw tk t (o.bx fun _ => eFc m).length) (i : Int) (c : Int) (f_k : Int) (f_n : Int) (f_c : Int) (b_k : Int) (b_n : Int) (b_c : Int) (h0 : Fok l fs) (h1 : Lok l us) (h2 : 0 ≤ f_n ∧ f_n < l.length) (h3 : lamB (rN l f_n) = true) (h4 : m.length + 400000 ≤ 2900000000000) : Gns (env xa xb) 220 [.pbx (.out 0) 0, iX i, iX c, .agg [iX f_k, iX f_n, iX f_c], .agg [iX b_k, iX b_n, iX b_c]] [[cells5 (o.bx fun _ => eNd l) (o.bx fun _ => eBd us) dp (o.bx fun _ => eFc fs) t (o.bx fun _ => eFc m)]] tk (FR o l us dp fs (m ++ (callI l us dp fs i c ⟨f_k, f_n, f_c⟩ ⟨b_k, b_n, b_c⟩)) (.tup [])) := by
 refine Gns.mkA (E := env xa xb) (f := 220) ho _ (by rfl) (by rfl) ?_
 have hF := h0; have hK := h1; have hu := h0.up; have hL := h0.len; have hp := h0.pos; have hL2 : fs.length ≤ 2900000000000 := (by omega); have har := lam_ar h3; have hlo := len_outerM hK h2 h3
 repeat' (first
  | (refine .id ?_
     (try (conv => arg 2; cbv))
     first
      | (refine .pE (β := Int) (fun v => iX v) (as' := [iX _, iX _, iX _]) (impl_CtxPush.ans o ho _ _ _) ?_; rintro v hv)
      | (refine .pE (β := Bd) (fun v => .agg ([iX v.f0, iX v.f1])) (as' := [rNd o _, iX _]) (impl_given.ans o ho _ _ ?_) ?_; rotate_left 1; rintro ⟨v0, v1⟩ hv)
      | (refine .pE (β := Plc) (fun v => .agg ([iX v.k, iX v.n, iX v.c])) (as' := [.agg [iX _, iX _], iX _]) (impl_nameAt.ans o ho _ _ _) ?_; rintro ⟨v0, v1, v2⟩ hv)
      | (refine .gcF ho (β := Unit) (r := ()) (fun v => .tup []) (.out 0) (xs := [.pbx (.out 0) 0, .agg [iX _, iX _, iX _], .agg [iX _, iX _, iX _]]) (by rfl) (by rfl) (by rfl) (fun t0 tk0 hl0 => impl_flower_flow.gns o ho _ _ _ _ _ t0 tk0 hl0 _ _ _ _ _ _ ?_ ?_) ?_ ?_; rotate_left 3; rintro _ t' tk' _ hl')
      | (refine .pE (β := List Bd) (rBd o) (as' := [rNd o _, rBd o _, iX _]) (impl_outerOf.ans o ho _ _ _ ?_ ?_ ?_) ?_; rotate_left 3; rintro v hv)
      | (refine .fetchXNd ho ?_ ?_ (fun y hy => ?_); rotate_left 2; rcases y with ⟨y0, y1, y2, y3, y4, y5, y6⟩)
      | (refine .needD ho (by kernel_rfl) ?_)
      | (refine .indF (fun m_ s_ => ∃ (a10 : Int) (a11 : Int) (a52 : List Bd) (a53 : Int) (a54 : Int) (ema : Box) (ta52 ua : Tok) (tk : List Nat), s_ = ⟨[.pbx (.out 0) 0, iX i, iX c, Jk, Jk, Jk, Jk, Jk, .pbx (.loc 0) 0, Jk, iX a10, iX a11, Jk, Jk, Jk, Jk, Jk, Jk, Jk, Jk, Jk, Jk, Jk, Jk, Jk, Jk, Jk, Jk, Jk, Jk, Jk, Jk, Jk, Jk, Jk, Jk, Jk, Jk, Jk, Jk, Jk, Jk, Jk, Jk, Jk, Jk, Jk, Jk, Jk, Jk, Jk, Jk, .sl ta52 2 (o.bx fun _ => eBd a52), iX a53, iX a54] ++ List.replicate 31 Jk, [[[iX f_k, iX f_n, iX f_c]], [[iX b_k, iX b_n, iX b_c]]], [[cells5 (o.bx fun _ => eNd l) (o.bx fun _ => eBd us) dp (o.bx fun _ => eFc fs) ua ema]], tk⟩ ∧ Lw tk ua ema.length ∧ ema = (o.bx fun _ => eFc (m ++ (flowP fs ⟨b_k, b_n, b_c⟩ (nameAt (givenM l f_n) (ctxPush c i dp)) ++ (a52.take a54.toNat).flatMap (fun x => flowP fs (nameAt x f_c) (nameAt x (ctxPush c i dp)))))) ∧ (a10 = ctxPush c i dp ∧ a11 = (rN l f_n).f1 ∧ a52 = outerM l us f_n ∧ a53 = a52.length ∧ 0 ≤ a54 ∧ a54 ≤ a52.length) ∧ (a52.length - a54).toNat ≤ m_) _ _ ⟨_, _, _, _, _, _, _, _, _, by subst ho; rfl, ?_, ?_, ?_, Nat.le_refl _⟩ ?_
         rotate_right
         rintro m_ _ ⟨a10, a11, a52, a53, a54, ema, ta52, ua, tk, rfl, hla0, rfl, hIa, hka⟩ iha
         obtain ⟨i1, i2, i3, i4, i5, i6⟩ := hIa; have hw := len_outerFl (us := us) hF (a52.take a54.toNat) f_c (ctxPush c i dp); have hw2 := len_flowPI hF ⟨b_k, b_n, b_c⟩ (nameAt (givenM l f_n) (ctxPush c i dp)); have hw3 := List.length_take_le a54.toNat a52; rw [← i3] at hlo; refine .unloopA ho ?_
         repeat' (first
          | (refine .id ?_
             (try (conv => arg 2; cbv))
             first
              | (refine .test (fun hr => ?_) (fun hr => ?_) <;> (have hb := hr) <;> (try simp (disch := omega) only [ho, std, wI, lenE, nrm] at hb) <;> (try (exfalso; first | contradiction | omega | exact hb rfl)))
              | (refine .pE (β := Plc) (fun v => .agg ([iX v.k, iX v.n, iX v.c])) (as' := [.agg [iX _, iX _], iX _]) (impl_nameAt.ans o ho _ _ _) ?_; rintro ⟨v0, v1, v2⟩ hv)
              | (refine .gcF ho (β := Unit) (r := ()) (fun v => .tup []) (.out 0) (xs := [.pbx (.out 0) 0, .agg [iX _, iX _, iX _], .agg [iX _, iX _, iX _]]) (by rfl) (by rfl) (by rfl) (fun t0 tk0 hl0 => impl_flower_flow.gns o ho _ _ _ _ _ t0 tk0 hl0 _ _ _ _ _ _ ?_ ?_) ?_ ?_; rotate_left 3; rintro _ t' tk' _ hl')
              | (refine .gcF ho (β := Unit) (r := ()) (fun v => .tup []) (.out 0) (xs := [.pbx (.out 0) 0, iX _, iX _]) (by rfl) (by rfl) (by rfl) (fun t0 tk0 hl0 => impl_flower_see.gns o ho _ _ _ _ _ t0 tk0 hl0 _ _ ?_) ?_ ?_; rotate_left 2; rintro _ t' tk' _ hl')
              | (refine .gcF ho (β := Unit) (r := ()) (fun v => .tup []) (.out 0) (xs := [.pbx (.out 0) 0, iX _, iX _, iX _, iX _]) (by rfl) (by rfl) (by rfl) (fun t0 tk0 hl0 => impl_flower_raise.gns o ho _ _ _ _ _ t0 tk0 hl0 _ _ _ _ ?_ ?_) ?_ ?_; rotate_left 3; rintro _ t' tk' _ hl')
              | (refine .fetchXBd ho ?_ ?_ (fun y hy => ?_); rotate_left 2; rcases y with ⟨y0, y1⟩)
              | (refine .needD ho (by kernel_rfl) ?_)
              | (refine iha _ _ ?_ ⟨_, _, _, _, _, _, _, _, _, by subst ho; rfl, ?_, ?_, ?_, Nat.le_refl _⟩)
              | (refine .fin ?_; refine ⟨_, by (conv => lhs; cbv) <;> rfl, ?_, _, _, by rfl, ?_, ?_⟩; first | (focus ((conv => lhs; cbv); done)) | ((conv => lhs; cbv); refine congrArg some ?_)))
          | ((fail_if_success (refine .id ?_))
             first
              | (subst ho; exact hl')
              | (subst ho; exact hla0)
              | (rw [List.length_append, List.length_append]; omega)
              | (have hq := len_flowI hF 0 a11 a10 0 i c; have hs : (seeL a11 a10).length = 1 := rfl; simp only [List.length_append]; omega)
              | (subst ho; refine congrArg eFc ?_; rw [take_allG (by omega), i3, i1, i2]; simp only [callI, List.append_assoc]; done)
              | (subst ho; refine congrArg eFc ?_; simp [flowP, *]; done)
              | (subst ho; refine ⟨Eq.symm (by assumption), by rw [show rN l f_n = _ by assumption], Eq.symm (by assumption), by simp [std, len_eBd], Int.le_refl _, by omega⟩)
              | (simp (disch := omega) only [ho, std, wI]; exact ⟨i1, i2, i3, i4, by omega, by omega⟩)
              | (subst ho; refine congrArg eFc ?_; simp (disch := omega) only [std, wI]; rw [flatMap_succ _ zBd i5 (by omega), show rdG zBd a52 a54 = ⟨y0, y1⟩ from (by assumption : rB a52 a54 = ⟨y0, y1⟩)]; simp only [flowP, ← i1, show nameAt ⟨y0, y1⟩ f_c = _ by assumption, show nameAt ⟨y0, y1⟩ a10 = _ by assumption, List.append_assoc])
              | assumption
              | omega
              | (subst ho; simp (disch := omega) only [std, wI, tdiv2, tdivN, lenE] <;> first | done | rfl | omega)))))
  | ((fail_if_success (refine .id ?_))
     first
      | (subst ho; exact hl)
      | assumption
      | omega))
theorem impl_flower_both.gns {xa xb : Option (List D → Option D)} (o : Std) (ho : o = std) (l : List Nd) (us : List Bd) (dp : Int) (fs m : List Fc) (t : Tok) (tk : List Nat) (hl : Lw tk t (o.bx fun _ => eFc m).length) (i : Int) (c : Int) (n_f0 : Int) (n_f1 : Int) (n_f2 : Int) (n_f3 : Int) (n_f4 : Int) (n_f5 : ByteArray) (n_f6 : ByteArray) (a_k : Int) (a_n : Int) (a_c : Int) (b_k : Int) (b_n : Int) (b_c : Int) (h0 : Fok l fs) (h1 : Lok l us) (h2 : m.length + 960000000 ≤ 2900000000000) : Gns (env xa xb) 202 [.pbx (.out 0) 0, iX i, iX c, .agg [iX n_f0, iX n_f1, iX n_f2, iX n_f3, iX n_f4, .str n_f5, .str n_f6], .agg [iX a_k, iX a_n, iX a_c], .agg [iX b_k, iX b_n, iX b_c]] [[cells5 (o.bx fun _ => eNd l) (o.bx fun _ => eBd us) dp (o.bx fun _ => eFc fs) t (o.bx fun _ => eFc m)]] tk (FR o l us dp fs (m ++ (bothI l us dp fs i c (⟨n_f0, n_f1, n_f2, n_f3, n_f4, n_f5, n_f6⟩ : Nd) ⟨a_k, a_n, a_c⟩ ⟨b_k, b_n, b_c⟩)) (.tup [])) := by
 refine Gns.mkA (E := env xa xb) (f := 202) ho _ (by rfl) (by rfl) ?_
 have hF := h0; have hK := h1; have hu := h0.up; have hL := h0.len; have hp := h0.pos; have hL2 : fs.length ≤ 2900000000000 := (by omega)
 repeat' (first
  | (refine .id ?_
     (try (conv => arg 2; cbv))
     first
      | refine .testT ?_
      | refine .t1 ?_
      | refine .t0 ?_
      | refine .testN1 ho (by with_reducible assumption) ?_
      | refine .testN0 ho (by with_reducible assumption) ?_
      | (refine .test (fun hr => ?_) (fun hr => ?_) <;> (have hb := hr) <;> (try simp (disch := omega) only [ho, std, wI, lenE, nrm] at hb) <;> (try (exfalso; first | contradiction | omega | exact hb rfl)))
      | (refine .gcF ho (β := List Ab) (rAb o) (.out 0) (xs := [.pbx (.out 0) 0, .agg [iX _, iX _, iX _]]) (by rfl) (by rfl) (by rfl) (fun t0 tk0 hl0 => impl_flower_values.gns o ho _ _ _ _ _ t0 tk0 hl0 _ _ _ ?_) ?_ ?_; rotate_left 2; rintro v t' tk' hv hl')
      | (refine .gcF ho (β := List Ab) (rAb o) (.out 0) (xs := [.pbx (.out 0) 0, .agg [iX _, iX _, iX _], iX _]) (by rfl) (by rfl) (by rfl) (fun t0 tk0 hl0 => impl_flower_those.gns o ho _ _ _ _ _ t0 tk0 hl0 _ _ _ _ ?_) ?_ ?_; rotate_left 2; rintro v t' tk' hv hl')
      | (refine .gcF ho (β := Unit) (r := ()) (fun v => .tup []) (.out 0) (xs := [.pbx (.out 0) 0, .agg [iX _, iX _, iX _], .agg [iX _, iX _, iX _]]) (by rfl) (by rfl) (by rfl) (fun t0 tk0 hl0 => impl_flower_add.gns o ho _ _ _ _ _ t0 tk0 hl0 _ _ _ _ _ _ ?_) ?_ ?_; rotate_left 2; rintro _ t' tk' _ hl')
      | (refine .gcF ho (β := Unit) (r := ()) (fun v => .tup []) (.out 0) (xs := [.pbx (.out 0) 0, .agg [iX _, iX _, iX _], .agg [iX _, iX _, iX _]]) (by rfl) (by rfl) (by rfl) (fun t0 tk0 hl0 => impl_flower_flow.gns o ho _ _ _ _ _ t0 tk0 hl0 _ _ _ _ _ _ ?_ ?_) ?_ ?_; rotate_left 3; rintro _ t' tk' _ hl')
      | (refine .indF (fun m_ s_ => ∃ (a46 : List Ab) (a47 : Int) (a48 : Int) (ema : Box) (ta46 ua : Tok) (tk : List Nat), s_ = ⟨[.pbx (.out 0) 0, iX i, iX c, Jk, Jk, Jk, Jk, Jk, Jk, Jk, Jk, .pbx (.loc 2) 0, Jk, Jk, Jk, Jk, Jk, Jk, Jk, Jk, Jk, Jk, Jk, Jk, Jk, Jk, Jk, Jk, Jk, Jk, Jk, Jk, Jk, Jk, Jk, Jk, Jk, Jk, Jk, Jk, Jk, Jk, Jk, Jk, Jk, Jk, .sl ta46 3 (o.bx fun _ => eAb a46), iX a47, iX a48] ++ List.replicate 70 Jk, [[[iX n_f0, iX n_f1, iX n_f2, iX n_f3, iX n_f4, .str n_f5, .str n_f6]], [[iX a_k, iX a_n, iX a_c]], [[iX b_k, iX b_n, iX b_c]], [[iX 0, iX i, iX c]]], [[cells5 (o.bx fun _ => eNd l) (o.bx fun _ => eBd us) dp (o.bx fun _ => eFc fs) ua ema]], tk⟩ ∧ Lw tk ua ema.length ∧ ema = (o.bx fun _ => eFc (m ++ ((a46.take a48.toNat).flatMap fun f => callI l us dp fs i c f ⟨b_k, b_n, b_c⟩))) ∧ (a46 = thoseL fs a_k a_n a_c 1 ∧ a47 = a46.length ∧ 0 ≤ a48 ∧ a48 ≤ a46.length) ∧ (a46.length - a48).toNat ≤ m_) _ _ ⟨_, _, _, _, _, _, _, by subst ho; rfl, ?_, ?_, ?_, Nat.le_refl _⟩ ?_
         rotate_right
         rintro m_ _ ⟨a46, a47, a48, ema, ta46, ua, tk, rfl, hla0, rfl, hIa, hka⟩ iha
         obtain ⟨i1, i2, i3, i4⟩ := hIa; have hz := len_those fs a_k a_n a_c 1; rw [← i1] at hz; have hw := len_calls hF hK i1 i c dp ⟨b_k, b_n, b_c⟩ a48.toNat; have hw3 := List.length_take_le a48.toNat a46; refine .unloopA ho ?_
         repeat' (first
          | (refine .id ?_
             (try (conv => arg 2; cbv))
             first
              | (refine .test (fun hr => ?_) (fun hr => ?_) <;> (have hb := hr) <;> (try simp (disch := omega) only [ho, std, wI, lenE, nrm] at hb) <;> (try (exfalso; first | contradiction | omega | exact hb rfl)))
              | (refine .gcF ho (β := Unit) (r := ()) (fun v => .tup []) (.out 0) (xs := [.pbx (.out 0) 0, iX _, iX _, .agg [iX _, iX _, iX _], .agg [iX _, iX _, iX _]]) (by rfl) (by rfl) (by rfl) (fun t0 tk0 hl0 => impl_flower_call.gns o ho _ _ _ _ _ t0 tk0 hl0 _ _ _ _ _ _ _ _ ?_ ?_ ?_ ?_ ?_) ?_ ?_; rotate_left 6; rintro _ t' tk' _ hl')
              | (refine .fetchXAb ho ?_ ?_ (fun y hy => ?_); rotate_left 2; rcases y with ⟨yk, yn, yc⟩; (try (have ht := those_in hF i1 i3 (by omega) hy)); (try dsimp only at ht))
              | (refine .indF (fun m_ s_ => ∃ (b104 : List Ab) (b105 : Int) (b106 : Int) (emb : Box) (tb104 ub : Tok) (tk : List Nat), s_ = ⟨[.pbx (.out 0) 0, Jk, Jk, Jk, Jk, Jk, Jk, Jk, Jk, Jk, Jk, .pbx (.loc 2) 0, Jk, Jk, Jk, Jk, Jk, Jk, Jk, Jk, Jk, Jk, Jk, Jk, Jk, Jk, Jk, Jk, Jk, Jk, Jk, Jk, Jk, Jk, Jk, Jk, Jk, Jk, Jk, Jk, Jk, Jk, Jk, Jk, Jk, Jk, Jk, Jk, Jk, Jk, Jk, Jk, Jk, Jk, Jk, Jk, Jk, Jk, Jk, Jk, Jk, Jk, Jk, Jk, Jk, Jk, Jk, Jk, Jk, Jk, Jk, Jk, Jk, Jk, Jk, Jk, Jk, Jk, Jk, Jk, Jk, Jk, Jk, Jk, Jk, Jk, Jk, Jk, Jk, Jk, Jk, Jk, Jk, Jk, Jk, Jk, Jk, Jk, Jk, Jk, Jk, Jk, Jk, Jk, .sl tb104 3 (o.bx fun _ => eAb b104), iX b105, iX b106] ++ List.replicate 12 Jk, [[[iX n_f0, iX n_f1, iX n_f2, iX n_f3, iX n_f4, .str n_f5, .str n_f6]], [[iX a_k, iX a_n, iX a_c]], [[iX b_k, iX b_n, iX b_c]], [[iX 0, iX i, iX c]]], [[cells5 (o.bx fun _ => eNd l) (o.bx fun _ => eBd us) dp (o.bx fun _ => eFc fs) ub emb]], tk⟩ ∧ Lw tk ub emb.length ∧ emb = (o.bx fun _ => eFc (m ++ ([⟨0, i, c, ⟨0, 0, 0⟩⟩] ++ (b104.take b106.toNat).flatMap fun r => flowP fs ⟨b_k, b_n, b_c⟩ ⟨5, r.n, r.c⟩))) ∧ (b104 = thoseL fs a_k a_n a_c 5 ∧ b105 = b104.length ∧ 0 ≤ b106 ∧ b106 ≤ b104.length) ∧ (b104.length - b106).toNat ≤ m_) _ _ ⟨_, _, _, _, _, _, _, by subst ho; rfl, ?_, ?_, ?_, Nat.le_refl _⟩ ?_
                 rotate_right
                 rintro m_ _ ⟨b104, b105, b106, emb, tb104, ub, tk, rfl, hlb0, rfl, hIb, hkb⟩ ihb
                 obtain ⟨i1, i2, i3, i4⟩ := hIb; have hz := len_those fs a_k a_n a_c 5; rw [← i1] at hz; have hw := len_flatMap_le (fun r : Ab => flowP fs ⟨b_k, b_n, b_c⟩ ⟨5, r.n, r.c⟩) 2500 (fun v => len_flowPI hF _ _) (b104.take b106.toNat); have hw3 := List.length_take_le b106.toNat b104; refine .unloopA ho ?_
                 repeat' (first
                  | (refine .id ?_
                     (try (conv => arg 2; cbv))
                     first
                      | fail)
                  | ((fail_if_success (refine .id ?_))
                     first
                      | fail)))
              | (refine iha _ _ ?_ ⟨_, _, _, _, _, _, _, by subst ho; rfl, ?_, ?_, ?_, Nat.le_refl _⟩)
              | (refine .fin ?_; refine ⟨_, by (conv => lhs; cbv) <;> rfl, ?_, _, _, by rfl, ?_, ?_⟩; first | (focus ((conv => lhs; cbv); done)) | ((conv => lhs; cbv); refine congrArg some ?_)))
          | ((fail_if_success (refine .id ?_))
             first
              | (subst ho; exact hl')
              | (subst ho; exact hla0)
              | (exact ht.2.2 ht.1)
              | (exact ht.2.1)
              | (have hq1 := len_flowI hF; simp only [List.length_append, List.length_cons, List.length_nil, seeL, flowP]; have hq8 := hq1 0 n_f1 c 0 i c; have hq2 := hq1 0 n_f2 c 0 i c; have hq3 := hq1 0 n_f3 c 0 i c; have hq4 := hq1 a_k a_n a_c 5 i c; have hq5 := hq1 a_k a_n a_c 0 i c; have hq6 := hq1 a_k a_n a_c 3 i c; have hq7 := hq1 b_k b_n b_c 4 i c; omega)
              | (subst hv; subst ho; exact ⟨rfl, by simp [std, len_eAb], Int.le_refl _, by omega⟩)
              | (simp (disch := omega) only [ho, std, wI]; exact ⟨i1, i2, by omega, by omega⟩)
              | (subst ho; refine congrArg eFc ?_; simp; done)
              | (subst ho; refine congrArg eFc ?_; simp (disch := omega) only [std, wI]; rw [flatMap_succ _ zA i3 (by omega), show rdG zA a46 a48 = ⟨yk, yn, yc⟩ from hy, List.append_assoc])
              | ((try clear iha); (try clear ihb); subst ho; (try refine congrArg eFc ?_); (try first | (have e1 : (vals fs a_k a_n a_c).isEmpty = true := emp_t (by assumption) (by assumption)) | (have e1 : (vals fs a_k a_n a_c).isEmpty = false := emp_f (by assumption) (by assumption))); (try rw [show (vals fs a_k a_n a_c) = _ by assumption] at e1); (try first | (have e2 : (vals fs b_k b_n b_c).isEmpty = true := emp_t (by assumption) (by assumption)) | (have e2 : (vals fs b_k b_n b_c).isEmpty = false := emp_f (by assumption) (by assumption))); (try rw [show (vals fs b_k b_n b_c) = _ by assumption] at e2); (try rw [take_allG (by omega)]); unfold bothI; simp [*, flowP]; done)
              | assumption
              | omega
              | (subst ho; simp (disch := omega) only [std, wI, tdiv2, tdivN, lenE] <;> first | done | rfl | omega))))
      | (refine .indF (fun m_ s_ => ∃ (b104 : List Ab) (b105 : Int) (b106 : Int) (emb : Box) (tb104 ub : Tok) (tk : List Nat), s_ = ⟨[.pbx (.out 0) 0, Jk, Jk, Jk, Jk, Jk, Jk, Jk, Jk, Jk, Jk, .pbx (.loc 2) 0, Jk, Jk, Jk, Jk, Jk, Jk, Jk, Jk, Jk, Jk, Jk, Jk, Jk, Jk, Jk, Jk, Jk, Jk, Jk, Jk, Jk, Jk, Jk, Jk, Jk, Jk, Jk, Jk, Jk, Jk, Jk, Jk, Jk, Jk, Jk, Jk, Jk, Jk, Jk, Jk, Jk, Jk, Jk, Jk, Jk, Jk, Jk, Jk, Jk, Jk, Jk, Jk, Jk, Jk, Jk, Jk, Jk, Jk, Jk, Jk, Jk, Jk, Jk, Jk, Jk, Jk, Jk, Jk, Jk, Jk, Jk, Jk, Jk, Jk, Jk, Jk, Jk, Jk, Jk, Jk, Jk, Jk, Jk, Jk, Jk, Jk, Jk, Jk, Jk, Jk, Jk, Jk, .sl tb104 3 (o.bx fun _ => eAb b104), iX b105, iX b106] ++ List.replicate 12 Jk, [[[iX n_f0, iX n_f1, iX n_f2, iX n_f3, iX n_f4, .str n_f5, .str n_f6]], [[iX a_k, iX a_n, iX a_c]], [[iX b_k, iX b_n, iX b_c]], [[iX 0, iX i, iX c]]], [[cells5 (o.bx fun _ => eNd l) (o.bx fun _ => eBd us) dp (o.bx fun _ => eFc fs) ub emb]], tk⟩ ∧ Lw tk ub emb.length ∧ emb = (o.bx fun _ => eFc (m ++ ([⟨0, i, c, ⟨0, 0, 0⟩⟩] ++ (b104.take b106.toNat).flatMap fun r => flowP fs ⟨b_k, b_n, b_c⟩ ⟨5, r.n, r.c⟩))) ∧ (b104 = thoseL fs a_k a_n a_c 5 ∧ b105 = b104.length ∧ 0 ≤ b106 ∧ b106 ≤ b104.length) ∧ (b104.length - b106).toNat ≤ m_) _ _ ⟨_, _, _, _, _, _, _, by subst ho; rfl, ?_, ?_, ?_, Nat.le_refl _⟩ ?_
         rotate_right
         rintro m_ _ ⟨b104, b105, b106, emb, tb104, ub, tk, rfl, hlb0, rfl, hIb, hkb⟩ ihb
         obtain ⟨i1, i2, i3, i4⟩ := hIb; have hz := len_those fs a_k a_n a_c 5; rw [← i1] at hz; have hw := len_flatMap_le (fun r : Ab => flowP fs ⟨b_k, b_n, b_c⟩ ⟨5, r.n, r.c⟩) 2500 (fun v => len_flowPI hF _ _) (b104.take b106.toNat); have hw3 := List.length_take_le b106.toNat b104; refine .unloopA ho ?_
         repeat' (first
          | (refine .id ?_
             (try (conv => arg 2; cbv))
             first
              | (refine .test (fun hr => ?_) (fun hr => ?_) <;> (have hb := hr) <;> (try simp (disch := omega) only [ho, std, wI, lenE, nrm] at hb) <;> (try (exfalso; first | contradiction | omega | exact hb rfl)))
              | (refine .gcF ho (β := Unit) (r := ()) (fun v => .tup []) (.out 0) (xs := [.pbx (.out 0) 0, .agg [iX _, iX _, iX _], .agg [iX _, iX _, iX _]]) (by rfl) (by rfl) (by rfl) (fun t0 tk0 hl0 => impl_flower_flow.gns o ho _ _ _ _ _ t0 tk0 hl0 _ _ _ _ _ _ ?_ ?_) ?_ ?_; rotate_left 3; rintro _ t' tk' _ hl')
              | (refine .fetchXAb ho ?_ ?_ (fun y hy => ?_); rotate_left 2; rcases y with ⟨yk, yn, yc⟩; (try (have ht := those_in hF i1 i3 (by omega) hy)); (try dsimp only at ht))
              | (refine .indF (fun m_ s_ => ∃ (a46 : List Ab) (a47 : Int) (a48 : Int) (ema : Box) (ta46 ua : Tok) (tk : List Nat), s_ = ⟨[.pbx (.out 0) 0, iX i, iX c, Jk, Jk, Jk, Jk, Jk, Jk, Jk, Jk, .pbx (.loc 2) 0, Jk, Jk, Jk, Jk, Jk, Jk, Jk, Jk, Jk, Jk, Jk, Jk, Jk, Jk, Jk, Jk, Jk, Jk, Jk, Jk, Jk, Jk, Jk, Jk, Jk, Jk, Jk, Jk, Jk, Jk, Jk, Jk, Jk, Jk, .sl ta46 3 (o.bx fun _ => eAb a46), iX a47, iX a48] ++ List.replicate 70 Jk, [[[iX n_f0, iX n_f1, iX n_f2, iX n_f3, iX n_f4, .str n_f5, .str n_f6]], [[iX a_k, iX a_n, iX a_c]], [[iX b_k, iX b_n, iX b_c]], [[iX 0, iX i, iX c]]], [[cells5 (o.bx fun _ => eNd l) (o.bx fun _ => eBd us) dp (o.bx fun _ => eFc fs) ua ema]], tk⟩ ∧ Lw tk ua ema.length ∧ ema = (o.bx fun _ => eFc (m ++ ((a46.take a48.toNat).flatMap fun f => callI l us dp fs i c f ⟨b_k, b_n, b_c⟩))) ∧ (a46 = thoseL fs a_k a_n a_c 1 ∧ a47 = a46.length ∧ 0 ≤ a48 ∧ a48 ≤ a46.length) ∧ (a46.length - a48).toNat ≤ m_) _ _ ⟨_, _, _, _, _, _, _, by subst ho; rfl, ?_, ?_, ?_, Nat.le_refl _⟩ ?_
                 rotate_right
                 rintro m_ _ ⟨a46, a47, a48, ema, ta46, ua, tk, rfl, hla0, rfl, hIa, hka⟩ iha
                 obtain ⟨i1, i2, i3, i4⟩ := hIa; have hz := len_those fs a_k a_n a_c 1; rw [← i1] at hz; have hw := len_calls hF hK i1 i c dp ⟨b_k, b_n, b_c⟩ a48.toNat; have hw3 := List.length_take_le a48.toNat a46; refine .unloopA ho ?_
                 repeat' (first
                  | (refine .id ?_
                     (try (conv => arg 2; cbv))
                     first
                      | fail)
                  | ((fail_if_success (refine .id ?_))
                     first
                      | fail)))
              | (refine ihb _ _ ?_ ⟨_, _, _, _, _, _, _, by subst ho; rfl, ?_, ?_, ?_, Nat.le_refl _⟩)
              | (refine .fin ?_; refine ⟨_, by (conv => lhs; cbv) <;> rfl, ?_, _, _, by rfl, ?_, ?_⟩; first | (focus ((conv => lhs; cbv); done)) | ((conv => lhs; cbv); refine congrArg some ?_)))
          | ((fail_if_success (refine .id ?_))
             first
              | (subst ho; exact hl')
              | (subst ho; exact hlb0)
              | (simp only [List.length_append, List.length_cons, List.length_nil]; omega)
              | (subst hv; subst ho; exact ⟨rfl, by simp [std, len_eAb], Int.le_refl _, by omega⟩)
              | (simp (disch := omega) only [ho, std, wI]; exact ⟨i1, i2, by omega, by omega⟩)
              | (subst ho; refine congrArg eFc ?_; simp; done)
              | (subst ho; refine congrArg eFc ?_; simp (disch := omega) only [std, wI]; rw [flatMap_succ _ zA i3 (by omega), show rdG zA b104 b106 = ⟨yk, yn, yc⟩ from hy]; simp only [flowP, List.append_assoc]; done)
              | ((try clear iha); (try clear ihb); subst ho; (try refine congrArg eFc ?_); (try first | (have e1 : (vals fs a_k a_n a_c).isEmpty = true := emp_t (by assumption) (by assumption)) | (have e1 : (vals fs a_k a_n a_c).isEmpty = false := emp_f (by assumption) (by assumption))); (try rw [show (vals fs a_k a_n a_c) = _ by assumption] at e1); (try first | (have e2 : (vals fs b_k b_n b_c).isEmpty = true := emp_t (by assumption) (by assumption)) | (have e2 : (vals fs b_k b_n b_c).isEmpty = false := emp_f (by assumption) (by assumption))); (try rw [show (vals fs b_k b_n b_c) = _ by assumption] at e2); (try rw [take_allG (by omega)]); unfold bothI; simp [*, flowP]; done)
              | assumption
              | omega
              | (subst ho; simp (disch := omega) only [std, wI, tdiv2, tdivN, lenE] <;> first | done | rfl | omega))))
      | (refine .fin ?_; refine ⟨_, by (conv => lhs; cbv) <;> rfl, ?_, _, _, by rfl, ?_, ?_⟩; first | (focus ((conv => lhs; cbv); done)) | ((conv => lhs; cbv); refine congrArg some ?_)))
  | ((fail_if_success (refine .id ?_))
     first
      | (subst ho; exact hl)
      | (subst ho; exact hl')
      | (have hq1 := len_flowI hF; simp only [List.length_append, List.length_cons, List.length_nil, seeL, flowP]; have hq8 := hq1 0 n_f1 c 0 i c; have hq2 := hq1 0 n_f2 c 0 i c; have hq3 := hq1 0 n_f3 c 0 i c; have hq4 := hq1 a_k a_n a_c 5 i c; have hq5 := hq1 a_k a_n a_c 0 i c; have hq6 := hq1 a_k a_n a_c 3 i c; have hq7 := hq1 b_k b_n b_c 4 i c; omega)
      | ((try clear iha); (try clear ihb); subst ho; (try refine congrArg eFc ?_); (try first | (have e1 : (vals fs a_k a_n a_c).isEmpty = true := emp_t (by assumption) (by assumption)) | (have e1 : (vals fs a_k a_n a_c).isEmpty = false := emp_f (by assumption) (by assumption))); (try rw [show (vals fs a_k a_n a_c) = _ by assumption] at e1); (try first | (have e2 : (vals fs b_k b_n b_c).isEmpty = true := emp_t (by assumption) (by assumption)) | (have e2 : (vals fs b_k b_n b_c).isEmpty = false := emp_f (by assumption) (by assumption))); (try rw [show (vals fs b_k b_n b_c) = _ by assumption] at e2); (try rw [take_allG (by omega)]); unfold bothI; simp [*, flowP]; done)
      | assumption
      | omega))
theorem impl_flower_match.gns {xa xb : Option (List D → Option D)} (o : Std) (ho : o = std) (l : List Nd) (us : List Bd) (dp : Int) (fs m : List Fc) (t : Tok) (tk : List Nat) (hl : Lw tk t (o.bx fun _ => eFc m).length) (i : Int) (c : Int) (n_f0 : Int) (n_f1 : Int) (n_f2 : Int) (n_f3 : Int) (n_f4 : Int) (n_f5 : ByteArray) (n_f6 : ByteArray) (a_k : Int) (a_n : Int) (a_c : Int) (h0 : Fok l fs) (h1 : Lok l us) (h2 : m.length + 13000000 ≤ 2900000000000) : Gns (env xa xb) 204 [.pbx (.out 0) 0, iX i, iX c, .agg [iX n_f0, iX n_f1, iX n_f2, iX n_f3, iX n_f4, .str n_f5, .str n_f6], .agg [iX a_k, iX a_n, iX a_c]] [[cells5 (o.bx fun _ => eNd l) (o.bx fun _ => eBd us) dp (o.bx fun _ => eFc fs) t (o.bx fun _ => eFc m)]] tk (FR o l us dp fs (m ++ (matchI fs i c (⟨n_f0, n_f1, n_f2, n_f3, n_f4, n_f5, n_f6⟩ : Nd) ⟨a_k, a_n, a_c⟩)) (.tup [])) := by
 refine Gns.mkA (E := env xa xb) (f := 204) ho _ (by rfl) (by rfl) ?_
 have hF := h0; have hK := h1; have hu := h0.up; have hL := h0.len; have hp := h0.pos; have hL2 : fs.length ≤ 2900000000000 := (by omega)
 repeat' (first
  | (refine .id ?_
     (try (conv => arg 2; cbv))
     first
      | (refine .test (fun hr => ?_) (fun hr => ?_) <;> (have hb := hr) <;> (try simp (disch := omega) only [ho, std, wI, lenE, nrm] at hb) <;> (try (exfalso; first | contradiction | omega | exact hb rfl)))
      | (refine .gcF ho (β := List Ab) (rAb o) (.out 0) (xs := [.pbx (.out 0) 0, .agg [iX _, iX _, iX _], iX _]) (by rfl) (by rfl) (by rfl) (fun t0 tk0 hl0 => impl_flower_those.gns o ho _ _ _ _ _ t0 tk0 hl0 _ _ _ _ ?_) ?_ ?_; rotate_left 2; rintro v t' tk' hv hl')
      | (refine .gcF ho (β := Unit) (r := ()) (fun v => .tup []) (.out 0) (xs := [.pbx (.out 0) 0, iX _, iX _]) (by rfl) (by rfl) (by rfl) (fun t0 tk0 hl0 => impl_flower_see.gns o ho _ _ _ _ _ t0 tk0 hl0 _ _ ?_) ?_ ?_; rotate_left 2; rintro _ t' tk' _ hl')
      | (refine .indF (fun m_ s_ => ∃ (a28 : List Ab) (a29 : Int) (a30 : Int) (ema : Box) (ta28 ua : Tok) (tk : List Nat), s_ = ⟨[.pbx (.out 0) 0, iX i, iX c, Jk, Jk, Jk, Jk, Jk, .pbx (.loc 0) 0, Jk, .pbx (.loc 2) 0, Jk, Jk, Jk, Jk, Jk, Jk, Jk, Jk, Jk, Jk, Jk, Jk, Jk, Jk, Jk, Jk, Jk, .sl ta28 3 (o.bx fun _ => eAb a28), iX a29, iX a30] ++ List.replicate 43 Jk, [[[iX n_f0, iX n_f1, iX n_f2, iX n_f3, iX n_f4, .str n_f5, .str n_f6]], [[iX a_k, iX a_n, iX a_c]], [[iX 0, iX i, iX c]]], [[cells5 (o.bx fun _ => eNd l) (o.bx fun _ => eBd us) dp (o.bx fun _ => eFc fs) ua ema]], tk⟩ ∧ Lw tk ua ema.length ∧ ema = (o.bx fun _ => eFc (m ++ ((if (thoseL fs a_k a_n a_c 2).isEmpty then [] else seeL n_f2 c) ++ (a28.take a30.toNat).flatMap fun v => seeL n_f3 c ++ flowL fs 3 v.n v.c 1 i c ++ flowL fs 4 v.n v.c 2 i c))) ∧ (a28 = thoseL fs a_k a_n a_c 4 ∧ a29 = a28.length ∧ 0 ≤ a30 ∧ a30 ≤ a28.length) ∧ (a28.length - a30).toNat ≤ m_) _ _ ⟨_, _, _, _, _, _, _, by subst ho; rfl, ?_, ?_, ?_, Nat.le_refl _⟩ ?_
         rotate_right
         rintro m_ _ ⟨a28, a29, a30, ema, ta28, ua, tk, rfl, hla0, rfl, hIa, hka⟩ iha
         obtain ⟨i1, i2, i3, i4⟩ := hIa; have hz := len_those fs a_k a_n a_c 4; rw [← i1] at hz; have hw := len_flatMap_le (fun v : Ab => seeL n_f3 c ++ flowL fs 3 v.n v.c 1 i c ++ flowL fs 4 v.n v.c 2 i c) 5001 (fun v => by have q1 := len_flowI hF 3 v.n v.c 1 i c; have q2 := len_flowI hF 4 v.n v.c 2 i c; simp only [List.length_append, seeL, List.length_cons, List.length_nil]; omega) (a28.take a30.toNat); have hw3 := List.length_take_le a30.toNat a28; have hw4 : (if (thoseL fs a_k a_n a_c 2).isEmpty then ([] : List Fc) else seeL n_f2 c).length ≤ 1 := (by split <;> simp [seeL]); refine .unloopA ho ?_
         repeat' (first
          | (refine .id ?_
             (try (conv => arg 2; cbv))
             first
              | (refine .test (fun hr => ?_) (fun hr => ?_) <;> (have hb := hr) <;> (try simp (disch := omega) only [ho, std, wI, lenE, nrm] at hb) <;> (try (exfalso; first | contradiction | omega | exact hb rfl)))
              | (refine .gcF ho (β := Unit) (r := ()) (fun v => .tup []) (.out 0) (xs := [.pbx (.out 0) 0, iX _, iX _]) (by rfl) (by rfl) (by rfl) (fun t0 tk0 hl0 => impl_flower_see.gns o ho _ _ _ _ _ t0 tk0 hl0 _ _ ?_) ?_ ?_; rotate_left 2; rintro _ t' tk' _ hl')
              | (refine .gcF ho (β := Unit) (r := ()) (fun v => .tup []) (.out 0) (xs := [.pbx (.out 0) 0, .agg [iX _, iX _, iX _], .agg [iX _, iX _, iX _]]) (by rfl) (by rfl) (by rfl) (fun t0 tk0 hl0 => impl_flower_flow.gns o ho _ _ _ _ _ t0 tk0 hl0 _ _ _ _ _ _ ?_ ?_) ?_ ?_; rotate_left 3; rintro _ t' tk' _ hl')
              | (refine .fetchXAb ho ?_ ?_ (fun y hy => ?_); rotate_left 2; rcases y with ⟨yk, yn, yc⟩)
              | (refine iha _ _ ?_ ⟨_, _, _, _, _, _, _, by subst ho; rfl, ?_, ?_, ?_, Nat.le_refl _⟩)
              | (refine .fin ?_; refine ⟨_, by (conv => lhs; cbv) <;> rfl, ?_, _, _, by rfl, ?_, ?_⟩; first | (focus ((conv => lhs; cbv); done)) | ((conv => lhs; cbv); refine congrArg some ?_)))
          | ((fail_if_success (refine .id ?_))
             first
              | (subst ho; exact hl')
              | (subst ho; exact hla0)
              | (have q1 := len_flowI hF 3 yn yc 1 i c; have q2 := len_flowI hF 4 yn yc 2 i c; have q3 := len_flowI hF 0 n_f2 c 0 i c; have q4 := len_flowI hF 0 n_f3 c 0 i c; simp only [List.length_append] at *; have hs : (seeL n_f3 c).length = 1 := rfl; omega)
              | (have q3 := len_flowI hF 0 n_f2 c 0 i c; have q4 := len_flowI hF 0 n_f3 c 0 i c; simp only [List.length_append] at *; omega)
              | (subst ho; exact ⟨Eq.symm (by assumption), by simp [std, len_eAb], Int.le_refl _, by omega⟩)
              | (simp (disch := omega) only [ho, std, wI]; exact ⟨i1, i2, by omega, by omega⟩)
              | (subst ho; refine congrArg eFc ?_; simp (disch := omega) only [std, wI]; rw [flatMap_succ _ zA i3 (by omega), show rdG zA a28 a30 = ⟨yk, yn, yc⟩ from hy]; simp only [List.append_assoc]; done)
              | ((try clear iha); subst ho; refine congrArg eFc ?_; rw [take_allG (by omega), i1]; unfold matchI; simp only [List.append_assoc])
              | ((try clear iha); (try clear ihb); subst ho; (try refine congrArg eFc ?_); (try first | (have e1 : (thoseL fs a_k a_n a_c 2).isEmpty = true := emp_t (by assumption) (by assumption)) | (have e1 : (thoseL fs a_k a_n a_c 2).isEmpty = false := emp_f (by assumption) (by assumption))); simp [e1]; done)
              | (subst ho; simp (disch := omega) only [std, wI, tdiv2, tdivN, lenE] <;> first | done | rfl | omega)))))
  | ((fail_if_success (refine .id ?_))
     first
      | (subst ho; exact hl)
      | (subst ho; exact hl')
      | (have q3 := len_flowI hF 0 n_f2 c 0 i c; have q4 := len_flowI hF 0 n_f3 c 0 i c; simp only [List.length_append] at *; omega)
      | assumption
      | omega))
theorem impl_flower_one.gns {xa xb : Option (List D → Option D)} (o : Std) (ho : o = std) (l : List Nd) (us : List Bd) (dp : Int) (fs m : List Fc) (t : Tok) (tk : List Nat) (hl : Lw tk t (o.bx fun _ => eFc m).length) (i : Int) (c : Int) (n_f0 : Int) (n_f1 : Int) (n_f2 : Int) (n_f3 : Int) (n_f4 : Int) (n_f5 : ByteArray) (n_f6 : ByteArray) (a_k : Int) (a_n : Int) (a_c : Int) (h0 : Fok l fs) (h1 : Lok l us) (h2 : m.length + 7000000 ≤ 2900000000000) : Gns (env xa xb) 205 [.pbx (.out 0) 0, iX i, iX c, .agg [iX n_f0, iX n_f1, iX n_f2, iX n_f3, iX n_f4, .str n_f5, .str n_f6], .agg [iX a_k, iX a_n, iX a_c]] [[cells5 (o.bx fun _ => eNd l) (o.bx fun _ => eBd us) dp (o.bx fun _ => eFc fs) t (o.bx fun _ => eFc m)]] tk (FR o l us dp fs (m ++ (oneI fs i c (⟨n_f0, n_f1, n_f2, n_f3, n_f4, n_f5, n_f6⟩ : Nd) ⟨a_k, a_n, a_c⟩)) (.tup [])) := by
 refine Gns.mkA (E := env xa xb) (f := 205) ho _ (by rfl) (by rfl) ?_
 have hF := h0; have hK := h1; have hu := h0.up; have hL := h0.len; have hp := h0.pos; have hL2 : fs.length ≤ 2900000000000 := (by omega)
 repeat' (first
  | (refine .id ?_
     (try (conv => arg 2; cbv))
     first
      | refine .testT ?_
      | refine .testF ?_
      | (refine .test (fun hr => ?_) (fun hr => ?_) <;> (have hb := hr) <;> (try simp (disch := omega) only [ho, std, wI, lenE, nrm] at hb) <;> (try (exfalso; first | contradiction | omega | exact hb rfl)))
      | (refine .gcF ho (β := Unit) (r := ()) (fun v => .tup []) (.out 0) (xs := [.pbx (.out 0) 0, .agg [iX _, iX _, iX _], iX _, iX _, .agg [iX _, iX _, iX _]]) (by rfl) (by rfl) (by rfl) (fun t0 tk0 hl0 => impl_flower_take.gns o ho _ _ _ _ _ t0 tk0 hl0 _ _ _ _ _ _ _ _ ?_ ?_) ?_ ?_; rotate_left 3; rintro _ t' tk' _ hl')
      | (refine .gcF ho (β := List Ab) (rAb o) (.out 0) (xs := [.pbx (.out 0) 0, .agg [iX _, iX _, iX _]]) (by rfl) (by rfl) (by rfl) (fun t0 tk0 hl0 => impl_flower_values.gns o ho _ _ _ _ _ t0 tk0 hl0 _ _ _ ?_) ?_ ?_; rotate_left 2; rintro v t' tk' hv hl')
      | (refine .gcF ho (β := Unit) (r := ()) (fun v => .tup []) (.out 0) (xs := [.pbx (.out 0) 0, .agg [iX _, iX _, iX _], .agg [iX _, iX _, iX _]]) (by rfl) (by rfl) (by rfl) (fun t0 tk0 hl0 => impl_flower_add.gns o ho _ _ _ _ _ t0 tk0 hl0 _ _ _ _ _ _ ?_) ?_ ?_; rotate_left 2; rintro _ t' tk' _ hl')
      | (refine .gcF ho (β := Unit) (r := ()) (fun v => .tup []) (.out 0) (xs := [.pbx (.out 0) 0, .agg [iX _, iX _, iX _], .agg [iX _, iX _, iX _]]) (by rfl) (by rfl) (by rfl) (fun t0 tk0 hl0 => impl_flower_flow.gns o ho _ _ _ _ _ t0 tk0 hl0 _ _ _ _ _ _ ?_ ?_) ?_ ?_; rotate_left 3; rintro _ t' tk' _ hl')
      | (refine .gcF ho (β := List Ab) (rAb o) (.out 0) (xs := [.pbx (.out 0) 0, .agg [iX _, iX _, iX _], iX _]) (by rfl) (by rfl) (by rfl) (fun t0 tk0 hl0 => impl_flower_those.gns o ho _ _ _ _ _ t0 tk0 hl0 _ _ _ _ ?_) ?_ ?_; rotate_left 2; rintro v t' tk' hv hl')
      | (refine .pE (β := Bool) .bool (as' := [rFc o _, .agg [iX _, iX _, iX _, iX _, iX _, iX _]]) (impl_has.ans o ho _ _ _ _ _ _ _ ?_ ?_) ?_; rotate_left 2; rintro (_ | _) hv <;> (try simp only [dE] at hv) <;> (try first | contradiction | exact bX hv))
      | (refine .gcF ho (β := Unit) (r := ()) (fun v => .tup []) (.out 0) (xs := [.pbx (.out 0) 0, iX _, iX _]) (by rfl) (by rfl) (by rfl) (fun t0 tk0 hl0 => impl_flower_see.gns o ho _ _ _ _ _ t0 tk0 hl0 _ _ ?_) ?_ ?_; rotate_left 2; rintro _ t' tk' _ hl')
      | (refine .needD ho (by kernel_rfl) ?_)
      | (refine .fin ?_; refine ⟨_, by (conv => lhs; cbv) <;> rfl, ?_, _, _, by rfl, ?_, ?_⟩; first | (focus ((conv => lhs; cbv); done)) | ((conv => lhs; cbv); refine congrArg some ?_)))
  | ((fail_if_success (refine .id ?_))
     first
      | (subst ho; exact hl)
      | (subst ho; exact hl')
      | (have hq1 := len_flowI hF; simp only [List.length_append, List.length_cons, List.length_nil, seeL, flowP]; have hq8 := hq1 0 n_f1 c 0 i c; have hq2 := hq1 0 n_f2 c 0 i c; have hq3 := hq1 0 n_f3 c 0 i c; have hq4 := hq1 a_k a_n a_c 5 i c; have hq5 := hq1 a_k a_n a_c 0 i c; have hq6 := hq1 a_k a_n a_c 3 i c; omega)
      | ((try clear iha); (try clear ihb); subst ho; (try refine congrArg eFc ?_); (try first | (have e1 : (vals fs a_k a_n a_c).isEmpty = true := emp_t (by assumption) (by assumption)) | (have e1 : (vals fs a_k a_n a_c).isEmpty = false := emp_f (by assumption) (by assumption))); (try rw [show (vals fs a_k a_n a_c) = _ by assumption] at e1); (try first | (have e2 : (thoseL fs a_k a_n a_c 0).isEmpty = true := emp_t (by assumption) (by assumption)) | (have e2 : (thoseL fs a_k a_n a_c 0).isEmpty = false := emp_f (by assumption) (by assumption))); (try rw [show (thoseL fs a_k a_n a_c 0) = _ by assumption] at e2); unfold oneI; simp [*, flowP]; done)
      | ((try clear iha); (try clear ihb); subst ho; (try refine congrArg eFc ?_); (try first | (have e1 : (vals fs a_k a_n a_c).isEmpty = true := emp_t (by assumption) (by assumption)) | (have e1 : (vals fs a_k a_n a_c).isEmpty = false := emp_f (by assumption) (by assumption))); (try rw [show (vals fs a_k a_n a_c) = _ by assumption] at e1); (try first | (have e2 : (thoseL fs a_k a_n a_c 0).isEmpty = true := emp_t (by assumption) (by assumption)) | (have e2 : (thoseL fs a_k a_n a_c 0).isEmpty = false := emp_f (by assumption) (by assumption))); (try rw [show (thoseL fs a_k a_n a_c 0) = _ by assumption] at e2); unfold oneI hasR; simp [*, flowP]; done)
      | assumption
      | omega))
end Go.Mach
