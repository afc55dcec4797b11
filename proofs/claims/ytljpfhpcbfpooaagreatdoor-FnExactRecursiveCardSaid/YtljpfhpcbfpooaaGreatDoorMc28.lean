/- What the statements share: part 28 of a proof by an executable machine over the program's code. -/
import Derived.Test.YtljpfhpcbfpooaaGreatDoorMc27
set_option linter.unusedVariables false
set_option linter.unusedSimpArgs false
set_option maxRecDepth 100000
set_option maxHeartbeats 6000000
namespace Go.Mach
open Go Go.RowKit Go.Proofs
theorem impl_bindsIn.ans {xa xb : Option (List D → Option D)} (o : Std) (ho : o = std) (n_f0 : Int) (n_f1 : Int) (n_f2 : Int) (n_f3 : Int) (n_f4 : Int) (n_f5 : ByteArray) (n_f6 : ByteArray) (kid : Int) : Ans (env xa xb) 72 [.agg [iX n_f0, iX n_f1, iX n_f2, iX n_f3, iX n_f4, .str n_f5, .str n_f6], iX kid] (.tup [rTx o ((bindM (⟨n_f0, n_f1, n_f2, n_f3, n_f4, n_f5, n_f6⟩ : Nd) kid).1), rK o ((bindM (⟨n_f0, n_f1, n_f2, n_f3, n_f4, n_f5, n_f6⟩ : Nd) kid).2)]) := by
 refine Ans.mkA ho _ rfl rfl ?_
 repeat' (first
  | (refine .id ?_
     (try (conv => arg 2; cbv))
     first
      | refine .testT ?_
      | refine .testF ?_
      | refine .t1 ?_
      | refine .t0 ?_
      | (refine .test (fun hr => ?_) (fun hr => ?_) <;> (have hb := hr) <;> (try simp (disch := omega) only [ho, std, wI, lenE, nrm] at hb) <;> (try (exfalso; first | contradiction | omega | exact hb rfl)))
      | (refine .fin ?_; (conv => lhs; cbv); refine congrArg some ?_))
  | ((fail_if_success (refine .id ?_))
     first
      | (subst ho; unfold bindM; dsimp only; first | (rw [if_pos (by omega)]; rfl) | (rw [if_neg (by omega), if_pos (by omega)]; rfl) | (rw [if_neg (by omega), if_neg (by omega), if_pos (by omega)]; rfl) | (rw [if_neg (by omega), if_neg (by omega), if_neg (by omega)]; rfl))))
theorem impl_parents.ans {xa xb : Option (List D → Option D)} (o : Std) (ho : o = std) (l : List Nd) (h0 : OkT l) : Ans (env xa xb) 71 [rNd o l] (rK o (parsM l)) := by
 refine Ans.mkA ho _ rfl rfl ?_
 have hs := h0.size
 repeat' (first
  | (refine .id ?_
     (try (conv => arg 2; cbv))
     first
      | (refine .need ?_ ?_)
      | (refine .indF (fun m_ s_ => ∃ (a13 : Int) (a14 : Int) (tk : List Nat) (bx0 : Box) (nn : Nat), s_ = ⟨[rNd o l, Jk, Jk, .asl (.loc 0) 1 nn, Jk, Jk, Jk, Jk, Jk, Jk, Jk, Jk, Jk, iX a13, iX a14] ++ List.replicate 27 Jk, [bx0], [], tk⟩ ∧ (bx0 = (o.bx fun _ => eK .i64 (List.replicate a14.toNat (-1) ++ List.replicate (l.length - a14.toNat) 0)) ∧ nn = l.length ∧ a13 = l.length ∧ 0 ≤ a14 ∧ a14 ≤ l.length) ∧ (l.length - a14).toNat ≤ m_) _ _ ⟨_, _, _, _, _, by subst ho; rfl, ?_, Nat.le_refl _⟩ ?_
         rotate_right
         rintro m_ _ ⟨a13, a14, tk, bx0, nn, rfl, hIa, hka⟩ iha
         obtain ⟨rfl, hnn, h17, i1, i2⟩ := hIa; have hbl : (List.replicate a14.toNat (-1 : Int) ++ List.replicate (l.length - a14.toNat) 0).length = l.length := (by simp; omega); refine .unloopA ho ?_
         repeat' (first
          | (refine .id ?_
             (try (conv => arg 2; cbv))
             first
              | (refine .test (fun hr => ?_) (fun hr => ?_) <;> (have hb := hr) <;> (try simp (disch := omega) only [ho, std, wI, lenE, nrm] at hb) <;> (try (exfalso; first | contradiction | omega | exact hb rfl)))
              | (refine .fetchYK ho ?_ ?_ (by with_reducible assumption) ?_)
              | (refine .fetchXK ho ?_ ?_ (fun y hy => ?_); rotate_left 2; (first | (have _h := hkk) | (obtain ⟨kk, ek⟩ : ∃ z, z = y := ⟨_, rfl⟩; subst ek; have hkk := hy; (try have hks := hq2.step (k := kk) h0 j1 (by omega) k3 (by rw [← k1]; omega) (by rw [← k1]; exact hkk)))))
              | (refine .indF (fun m_ s_ => ∃ (b22 : Int) (b23 : Int) (tk : List Nat) (bx1 : Box) (q : List Int), s_ = ⟨[Jk, Jk, Jk, .asl (.loc 0) 1 nn, Jk, Jk, Jk, Jk, Jk, Jk, Jk, Jk, Jk, Jk, Jk, Jk, Jk, Jk, Jk, Jk, Jk, rNd o l, iX b22, iX b23] ++ List.replicate 18 Jk, [bx1], [], tk⟩ ∧ (bx1 = (o.bx fun _ => eK .i64 q) ∧ ParU l b23 q ∧ b22 = l.length ∧ 0 ≤ b23 ∧ b23 ≤ l.length) ∧ (l.length - b23).toNat ≤ m_) _ _ ⟨_, _, _, _, (List.replicate l.length (-1)), by subst ho; rfl, ?_, Nat.le_refl _⟩ ?_
                 rotate_right
                 rintro m_ _ ⟨b22, b23, tk, bx1, q, rfl, hIb, hkb⟩ ihb
                 obtain ⟨rfl, hq, h22, j1, j2⟩ := hIb; have hql := hq.1; refine .unloopA ho ?_
                 repeat' (first
                  | (refine .id ?_
                     (try (conv => arg 2; cbv))
                     first
                      | (refine .test (fun hr => ?_) (fun hr => ?_) <;> (have hb := hr) <;> (try simp (disch := omega) only [ho, std, wI, lenE, nrm] at hb) <;> (try (exfalso; first | contradiction | omega | exact hb rfl)))
                      | (refine .fin ?_; refine (outD_asl (t := 2) (i := 0) (z := 1) (by rfl) (by rfl) ?_).trans ?_)
                      | (refine .pE (β := List Int) (rK o) (as' := [.agg [iX _, iX _, iX _, iX _, iX _, .str _, .str _]]) (impl_Kids.ans o ho _ _ _ _ _ _ _) ?_; rintro v hv)
                      | (refine .fetchXNd ho ?_ ?_ (fun y hy => ?_); rotate_left 2; rcases y with ⟨y0, y1, y2, y3, y4, y5, y6⟩)
                      | (refine .indF (fun m_ s_ => ∃ (c29 : List Int) (c30 : Int) (c31 : Int) (tc29 : Tok) (tk : List Nat) (bx2 : Box) (q2 : List Int), s_ = ⟨[Jk, Jk, Jk, .asl (.loc 0) 1 nn, Jk, iX b23, Jk, Jk, Jk, Jk, Jk, Jk, Jk, Jk, Jk, Jk, Jk, Jk, Jk, Jk, Jk, rNd o l, iX b22, iX b23, Jk, Jk, Jk, Jk, Jk, .sl tc29 1 (o.bx fun _ => eK .i64 c29), iX c30, iX c31] ++ List.replicate 10 Jk, [bx2, [[iX y0, iX y1, iX y2, iX y3, iX y4, .str y5, .str y6]]], [], tk⟩ ∧ (bx2 = (o.bx fun _ => eK .i64 q2) ∧ ParK l b23 c31 q2 ∧ c29 = kidsM (rN l b23) ∧ c30 = c29.length ∧ 0 ≤ c31 ∧ c31 ≤ c29.length) ∧ (c29.length - c31).toNat ≤ m_) _ _ ⟨_, _, _, _, _, _, q, by subst ho; rfl, ?_, Nat.le_refl _⟩ ?_
                         rotate_right
                         rintro m_ _ ⟨c29, c30, c31, tc29, tk, bx2, q2, rfl, hIc, hkc⟩ ihc
                         obtain ⟨rfl, hq2, k1, k2, k3, k4⟩ := hIc; have hql2 := hq2.1; have hkl := len_kids3 (rN l b23); rw [← k1] at hkl; refine .unloopA ho ?_
                         repeat' (first
                          | (refine .id ?_
                             (try (conv => arg 2; cbv))
                             first
                              | (refine .test (fun hr => ?_) (fun hr => ?_) <;> (have hb := hr) <;> (try simp (disch := omega) only [ho, std, wI, lenE, nrm] at hb) <;> (try (exfalso; first | contradiction | omega | exact hb rfl)))
                              | (refine .fetchYK ho ?_ ?_ (by with_reducible assumption) ?_)
                              | (refine .fetchXK ho ?_ ?_ (fun y hy => ?_); rotate_left 2; (first | (have _h := hkk) | (obtain ⟨kk, ek⟩ : ∃ z, z = y := ⟨_, rfl⟩; subst ek; have hkk := hy; (try have hks := hq2.step (k := kk) h0 j1 (by omega) k3 (by rw [← k1]; omega) (by rw [← k1]; exact hkk)))))
                              | (refine ihc _ _ ?_ ⟨_, _, _, _, _, _, (q2.set kk.toNat b23), by subst ho; rfl, ?_, Nat.le_refl _⟩)
                              | (refine ihb _ _ ?_ ⟨_, _, _, _, q2, by subst ho; rfl, ?_, Nat.le_refl _⟩))
                          | ((fail_if_success (refine .id ?_))
                             first
                              | (have e1 : v = kidsM (rN l b23) := (at_nd (P := fun x => v = kidsM x) (by assumption) hv.symm); subst ho; exact ⟨rfl, hq.kids, e1, by simp [std, len_eK], Int.le_refl _, by omega⟩)
                              | (subst ho; simp (disch := omega) only [std, wI]; rw [set_eK]; exact ⟨rfl, hks.2.2, k1, k2, by omega, by omega⟩)
                              | (subst ho; refine ⟨rfl, ?_, h22, ?_⟩ <;> simp (disch := omega) only [std, wI] <;> first | exact hq2.fin h0 j1 (by omega) (by rw [← k1]; omega) | omega)
                              | assumption
                              | omega
                              | (subst ho; simp (disch := omega) only [std, wI, tdiv2, tdivN, lenE] <;> first | done | rfl | omega)))))
                  | ((fail_if_success (refine .id ?_))
                     first
                      | (subst ho; exact cells_eK _ _)
                      | (rw [hq.fin h0 (by omega)] <;> rfl)
                      | (subst ho; refine ⟨?_, ParU.start, by simp [std, len_eNd], Int.le_refl _, by omega⟩; simp only [std]; rw [fill_end (by omega)])
                      | assumption
                      | omega)))
              | (refine iha _ _ ?_ ⟨_, _, _, _, _, by subst ho; rfl, ?_, Nat.le_refl _⟩))
          | ((fail_if_success (refine .id ?_))
             first
              | (subst ho; simp (disch := omega) only [std, wI]; rw [set_eK, fill_set i1 (by omega)]; exact ⟨rfl, hnn, h17, by omega, by omega⟩)
              | (subst ho; refine ⟨?_, by simp [std, len_eNd], by simp [std, len_eNd], Int.le_refl _, by omega⟩; simp only [std, len_eNd, Int.toNat_natCast]; rw [rep_eK]; simp; done)
              | assumption
              | omega
              | (subst ho; simp (disch := omega) only [std, wI, tdiv2, tdivN, lenE] <;> first | done | rfl | omega))))
      | (refine .indF (fun m_ s_ => ∃ (b22 : Int) (b23 : Int) (tk : List Nat) (bx1 : Box) (q : List Int), s_ = ⟨[Jk, Jk, Jk, .asl (.loc 0) 1 nn, Jk, Jk, Jk, Jk, Jk, Jk, Jk, Jk, Jk, Jk, Jk, Jk, Jk, Jk, Jk, Jk, Jk, rNd o l, iX b22, iX b23] ++ List.replicate 18 Jk, [bx1], [], tk⟩ ∧ (bx1 = (o.bx fun _ => eK .i64 q) ∧ ParU l b23 q ∧ b22 = l.length ∧ 0 ≤ b23 ∧ b23 ≤ l.length) ∧ (l.length - b23).toNat ≤ m_) _ _ ⟨_, _, _, _, (List.replicate l.length (-1)), by subst ho; rfl, ?_, Nat.le_refl _⟩ ?_
         rotate_right
         rintro m_ _ ⟨b22, b23, tk, bx1, q, rfl, hIb, hkb⟩ ihb
         obtain ⟨rfl, hq, h22, j1, j2⟩ := hIb; have hql := hq.1; refine .unloopA ho ?_
         repeat' (first
          | (refine .id ?_
             (try (conv => arg 2; cbv))
             first
              | (refine .indF (fun m_ s_ => ∃ (a13 : Int) (a14 : Int) (tk : List Nat) (bx0 : Box) (nn : Nat), s_ = ⟨[rNd o l, Jk, Jk, .asl (.loc 0) 1 nn, Jk, Jk, Jk, Jk, Jk, Jk, Jk, Jk, Jk, iX a13, iX a14] ++ List.replicate 27 Jk, [bx0], [], tk⟩ ∧ (bx0 = (o.bx fun _ => eK .i64 (List.replicate a14.toNat (-1) ++ List.replicate (l.length - a14.toNat) 0)) ∧ nn = l.length ∧ a13 = l.length ∧ 0 ≤ a14 ∧ a14 ≤ l.length) ∧ (l.length - a14).toNat ≤ m_) _ _ ⟨_, _, _, _, _, by subst ho; rfl, ?_, Nat.le_refl _⟩ ?_
                 rotate_right
                 rintro m_ _ ⟨a13, a14, tk, bx0, nn, rfl, hIa, hka⟩ iha
                 obtain ⟨rfl, hnn, h17, i1, i2⟩ := hIa; have hbl : (List.replicate a14.toNat (-1 : Int) ++ List.replicate (l.length - a14.toNat) 0).length = l.length := (by simp; omega); refine .unloopA ho ?_
                 repeat' (first
                  | (refine .id ?_
                     (try (conv => arg 2; cbv))
                     first
                      | (refine .indF (fun m_ s_ => ∃ (c29 : List Int) (c30 : Int) (c31 : Int) (tc29 : Tok) (tk : List Nat) (bx2 : Box) (q2 : List Int), s_ = ⟨[Jk, Jk, Jk, .asl (.loc 0) 1 nn, Jk, iX b23, Jk, Jk, Jk, Jk, Jk, Jk, Jk, Jk, Jk, Jk, Jk, Jk, Jk, Jk, Jk, rNd o l, iX b22, iX b23, Jk, Jk, Jk, Jk, Jk, .sl tc29 1 (o.bx fun _ => eK .i64 c29), iX c30, iX c31] ++ List.replicate 10 Jk, [bx2, [[iX y0, iX y1, iX y2, iX y3, iX y4, .str y5, .str y6]]], [], tk⟩ ∧ (bx2 = (o.bx fun _ => eK .i64 q2) ∧ ParK l b23 c31 q2 ∧ c29 = kidsM (rN l b23) ∧ c30 = c29.length ∧ 0 ≤ c31 ∧ c31 ≤ c29.length) ∧ (c29.length - c31).toNat ≤ m_) _ _ ⟨_, _, _, _, _, _, q, by subst ho; rfl, ?_, Nat.le_refl _⟩ ?_
                         rotate_right
                         rintro m_ _ ⟨c29, c30, c31, tc29, tk, bx2, q2, rfl, hIc, hkc⟩ ihc
                         obtain ⟨rfl, hq2, k1, k2, k3, k4⟩ := hIc; have hql2 := hq2.1; have hkl := len_kids3 (rN l b23); rw [← k1] at hkl; refine .unloopA ho ?_
                         repeat' (first
                          | (refine .id ?_
                             (try (conv => arg 2; cbv))
                             first
                              | fail)
                          | ((fail_if_success (refine .id ?_))
                             first
                              | fail))))
                  | ((fail_if_success (refine .id ?_))
                     first
                      | fail)))
              | (refine .indF (fun m_ s_ => ∃ (c29 : List Int) (c30 : Int) (c31 : Int) (tc29 : Tok) (tk : List Nat) (bx2 : Box) (q2 : List Int), s_ = ⟨[Jk, Jk, Jk, .asl (.loc 0) 1 nn, Jk, iX b23, Jk, Jk, Jk, Jk, Jk, Jk, Jk, Jk, Jk, Jk, Jk, Jk, Jk, Jk, Jk, rNd o l, iX b22, iX b23, Jk, Jk, Jk, Jk, Jk, .sl tc29 1 (o.bx fun _ => eK .i64 c29), iX c30, iX c31] ++ List.replicate 10 Jk, [bx2, [[iX y0, iX y1, iX y2, iX y3, iX y4, .str y5, .str y6]]], [], tk⟩ ∧ (bx2 = (o.bx fun _ => eK .i64 q2) ∧ ParK l b23 c31 q2 ∧ c29 = kidsM (rN l b23) ∧ c30 = c29.length ∧ 0 ≤ c31 ∧ c31 ≤ c29.length) ∧ (c29.length - c31).toNat ≤ m_) _ _ ⟨_, _, _, _, _, _, q, by subst ho; rfl, ?_, Nat.le_refl _⟩ ?_
                 rotate_right
                 rintro m_ _ ⟨c29, c30, c31, tc29, tk, bx2, q2, rfl, hIc, hkc⟩ ihc
                 obtain ⟨rfl, hq2, k1, k2, k3, k4⟩ := hIc; have hql2 := hq2.1; have hkl := len_kids3 (rN l b23); rw [← k1] at hkl; refine .unloopA ho ?_
                 repeat' (first
                  | (refine .id ?_
                     (try (conv => arg 2; cbv))
                     first
                      | (refine .indF (fun m_ s_ => ∃ (a13 : Int) (a14 : Int) (tk : List Nat) (bx0 : Box) (nn : Nat), s_ = ⟨[rNd o l, Jk, Jk, .asl (.loc 0) 1 nn, Jk, Jk, Jk, Jk, Jk, Jk, Jk, Jk, Jk, iX a13, iX a14] ++ List.replicate 27 Jk, [bx0], [], tk⟩ ∧ (bx0 = (o.bx fun _ => eK .i64 (List.replicate a14.toNat (-1) ++ List.replicate (l.length - a14.toNat) 0)) ∧ nn = l.length ∧ a13 = l.length ∧ 0 ≤ a14 ∧ a14 ≤ l.length) ∧ (l.length - a14).toNat ≤ m_) _ _ ⟨_, _, _, _, _, by subst ho; rfl, ?_, Nat.le_refl _⟩ ?_
                         rotate_right
                         rintro m_ _ ⟨a13, a14, tk, bx0, nn, rfl, hIa, hka⟩ iha
                         obtain ⟨rfl, hnn, h17, i1, i2⟩ := hIa; have hbl : (List.replicate a14.toNat (-1 : Int) ++ List.replicate (l.length - a14.toNat) 0).length = l.length := (by simp; omega); refine .unloopA ho ?_
                         repeat' (first
                          | (refine .id ?_
                             (try (conv => arg 2; cbv))
                             first
                              | fail)
                          | ((fail_if_success (refine .id ?_))
                             first
                              | fail))))
                  | ((fail_if_success (refine .id ?_))
                     first
                      | fail))))
          | ((fail_if_success (refine .id ?_))
             first
              | fail))))
  | ((fail_if_success (refine .id ?_))
     first
      | (subst ho; simp [std, lenE]; omega)))
theorem impl_binderOf.ans {xa xb : Option (List D → Option D)} (o : Std) (ho : o = std) (l : List Nd) (up : List Int) (i : Int) (nm : ByteArray) (h0 : OkT l) (h1 : up = parsM l) (h2 : 0 ≤ i ∧ i < l.length) : Ans (env xa xb) 116 [rNd o l, rK o up, iX i, .str nm] (.agg ([iX (climbM l nm i).f0, iX (climbM l nm i).f1])) := by
 refine Ans.mkA ho _ rfl rfl ?_
 have hs := h0.size; have hul := len_parsM l; rw [← h1] at hul
 repeat' (first
  | (refine .id ?_
     (try (conv => arg 2; cbv))
     first
      | (refine .indF (fun m_ s_ => ∃ (a2 : Int) (tk : List Nat), s_ = ⟨[rNd o l, rK o up, iX a2, .str nm, Jk, Jk, Jk, Jk, .pbx (.loc 0) 0] ++ List.replicate 46 Jk, [[[iX 0, iX 0]]], [], tk⟩ ∧ (climbM l nm i = climbM l nm a2 ∧ 0 ≤ a2 ∧ a2 < l.length) ∧ (l.length - a2).toNat ≤ m_) _ _ ⟨_, _, by subst ho; rfl, ?_, Nat.le_refl _⟩ ?_
         rotate_right
         rintro m_ _ ⟨a2, tk, rfl, hIa, hka⟩ iha
         obtain ⟨i1, i2, i3⟩ := hIa; refine .unloopA ho ?_
         repeat' (first
          | (refine .id ?_
             (try (conv => arg 2; cbv))
             first
              | (refine .test (fun hr => ?_) (fun hr => ?_) <;> (have hb := hr) <;> (try simp (disch := omega) only [ho, std, wI, lenE, nrm] at hb) <;> (try (exfalso; first | contradiction | omega | exact hb rfl)))
              | (refine .pE (β := (List ByteArray) × (List Int)) (fun v => .tup [rTx o v.1, rK o v.2]) (as' := [.agg [iX _, iX _, iX _, iX _, iX _, .str _, .str _], iX _]) (impl_bindsIn.ans o ho _ _ _ _ _ _ _ _) ?_; rintro ⟨v0, v1⟩ hv; (have hst := hit_start (nm := nm) hpp hyp hv; have hbl := bind_len hv))
              | (refine .fetchYK ho ?_ ?_ (by with_reducible assumption) ?_)
              | (refine .fetchXK ho ?_ ?_ (fun y hy => ?_); rotate_left 2; (first | (have _h := hpp; have hyR := hy) | (obtain ⟨pq, ek⟩ : ∃ z, z = y := ⟨_, rfl⟩; subst ek; have hpp : pq = parS l a2 := (by rw [h1] at hy; exact hy.symm.trans (rI_parsI i2 i3)); have hpl := h0.par_lt (n := a2); rw [← hpp] at hpl)))
              | (refine .fetchXNd ho ?_ ?_ (fun y hy => ?_); rotate_left 2; rcases y with ⟨y0, y1, y2, y3, y4, y5, y6⟩; (have hyp := hy))
              | (refine .indF (fun m_ s_ => ∃ (b10 : List Int) (b30 : List ByteArray) (b31 : Int) (b32 : Int) (tb10 tb30 : Tok) (tk : List Nat), s_ = ⟨[rNd o l, rK o up, iX a2, .str nm, Jk, Jk, Jk, Jk, .pbx (.loc 0) 0, Jk, .sl tb10 1 (o.bx fun _ => eK .i64 b10), Jk, Jk, Jk, Jk, Jk, Jk, Jk, Jk, Jk, Jk, Jk, Jk, Jk, Jk, Jk, Jk, Jk, Jk, Jk, .sl tb30 1 (o.bx fun _ => eB b30), iX b31, iX b32] ++ List.replicate 22 Jk, [[[iX 0, iX 0]]], [], tk⟩ ∧ (b31 = b30.length ∧ b30.length ≤ 2 ∧ b10.length = b30.length ∧ 0 ≤ b32 ∧ b32 ≤ b30.length ∧ hitN l nm a2 = hitM pq nm (b30.drop b32.toNat) (b10.drop b32.toNat)) ∧ (b30.length - b32).toNat ≤ m_) _ _ ⟨_, _, _, _, _, _, _, by subst ho; rfl, ?_, Nat.le_refl _⟩ ?_
                 rotate_right
                 rintro m_ _ ⟨b10, b30, b31, b32, tb10, tb30, tk, rfl, hIb, hkb⟩ ihb
                 obtain ⟨j5, j0, j1, j2, j3, j4⟩ := hIb; refine .unloopA ho ?_
                 repeat' (first
                  | (refine .id ?_
                     (try (conv => arg 2; cbv))
                     first
                      | (refine .test (fun hr => ?_) (fun hr => ?_) <;> (have hb := hr) <;> (try simp (disch := omega) only [ho, std, wI, lenE, nrm] at hb) <;> (try (exfalso; first | contradiction | omega | exact hb rfl)))
                      | (refine .fetchYK ho ?_ ?_ (by with_reducible assumption) ?_)
                      | (refine .fetchXK ho ?_ ?_ (fun y hy => ?_); rotate_left 2; (first | (have _h := hpp; have hyR := hy) | (obtain ⟨pq, ek⟩ : ∃ z, z = y := ⟨_, rfl⟩; subst ek; have hpp : pq = parS l a2 := (by rw [h1] at hy; exact hy.symm.trans (rI_parsI i2 i3)); have hpl := h0.par_lt (n := a2); rw [← hpp] at hpl)))
                      | (refine .fetchXB ho ?_ ?_ (fun y hy => ?_); rotate_left 2; (have hyn := hy))
                      | (refine .needD ho (by kernel_rfl) ?_)
                      | (refine ihb _ _ ?_ ⟨_, _, _, _, _, _, _, by subst ho; rfl, ?_, Nat.le_refl _⟩)
                      | (refine iha _ _ ?_ ⟨_, _, by subst ho; rfl, ?_, Nat.le_refl _⟩)
                      | (refine .fin ?_; (conv => lhs; cbv); refine congrArg some ?_))
                  | ((fail_if_success (refine .id ?_))
                     first
                      | (have hq := hpl (by omega); omega)
                      | (subst ho; exact ⟨by simp [std, len_eB], hbl, hst.2, Int.le_refl _, by omega, hst.1⟩)
                      | (rw [i1, climb_hit h0 (by omega) (hit_yes j1 j2 (by omega) hyn (by assumption) hyR j4)] <;> rfl)
                      | ((try clear iha); (try clear ihb); simp (disch := omega) only [ho, std, wI]; first | omega | exact ⟨j5, j0, j1, by omega, by omega, hit_next j1 j2 (by omega) hyn (by assumption) j4⟩)
                      | (have hq := hpl (by omega); refine ⟨i1.trans ((climb_on h0 (by omega) (hit_none (by omega) j4)).trans (by rw [← hpp])), by omega, by omega⟩))))
              | (refine .fin ?_; (conv => lhs; cbv); refine congrArg some ?_))
          | ((fail_if_success (refine .id ?_))
             first
              | (exact ⟨rfl, h2.1, h2.2⟩)
              | (have hq := hpl (by omega); omega)
              | (rw [i1, climbM_top (by omega)] <;> rfl)
              | assumption
              | omega))))
  | ((fail_if_success (refine .id ?_))
     first
      | fail))
theorem impl_binders.ans {xa xb : Option (List D → Option D)} (o : Std) (ho : o = std) (l : List Nd) (h0 : OkT l) : Ans (env xa xb) 68 [rNd o l] (rBd o (bindsM l)) := by
 refine Ans.mkA ho _ rfl rfl ?_
 have hs := h0.size
 repeat' (first
  | (refine .id ?_
     (try (conv => arg 2; cbv))
     first
      | (refine .pE (β := List Int) (rK o) (as' := [rNd o _]) (impl_parents.ans o ho _ ?_) ?_; rotate_left 1; rintro v hv)
      | (refine .indF (fun m_ s_ => ∃ (a3 : List Int) (ea4 : Box) (a11 : Int) (a12 : Int) (ta3 ta4 : Tok) (tk : List Nat), s_ = ⟨[rNd o l, Jk, Jk, .sl ta3 1 (o.bx fun _ => eK .i64 a3), .sl ta4 2 ea4, Jk, Jk, Jk, Jk, Jk, rNd o l, iX a11, iX a12] ++ List.replicate 20 Jk, [], [], tk⟩ ∧ Lv tk ta4 ea4.length ∧ ea4 = (o.bx fun _ => eBd ((bindsM l).take a12.toNat)) ∧ (a3 = parsM l ∧ a11 = l.length ∧ 0 ≤ a12 ∧ a12 ≤ l.length) ∧ (l.length - a12).toNat ≤ m_) _ _ ⟨_, _, _, _, _, _, _, by subst ho; rfl, ?_, ?_, ?_, Nat.le_refl _⟩ ?_
         rotate_right
         rintro m_ _ ⟨a3, ea4, a11, a12, ta3, ta4, tk, rfl, hla0, rfl, hIa, hka⟩ iha
         obtain ⟨i0, i1, i2, i3⟩ := hIa; have hbt := List.length_take_le a12.toNat (bindsM l); have hbl := len_bindsM l; refine .unloopA ho ?_
         repeat' (first
          | (refine .id ?_
             (try (conv => arg 2; cbv))
             first
              | (refine .test (fun hr => ?_) (fun hr => ?_) <;> (have hb := hr) <;> (try simp (disch := omega) only [ho, std, wI, lenE, nrm] at hb) <;> (try (exfalso; first | contradiction | omega | exact hb rfl)))
              | (refine .pE (β := Bd) (fun v => .agg ([iX v.f0, iX v.f1])) (as' := [rNd o _, rK o _, iX _, .str _]) (impl_binderOf.ans o ho _ _ _ _ ?_ ?_ ?_) ?_; rotate_left 3; rintro ⟨v0, v1⟩ hv)
              | (refine .fetchXNd ho ?_ ?_ (fun y hy => ?_); rotate_left 2; rcases y with ⟨y0, y1, y2, y3, y4, y5, y6⟩; have hyp := hy)
              | (refine .need ?_ ?_)
              | (refine .app1 ?_ (fun t' tk' hl' => ?_))
              | (refine iha _ _ ?_ ⟨_, _, _, _, _, _, _, by subst ho; rfl, ?_, ?_, ?_, Nat.le_refl _⟩)
              | (refine .fin ?_; (conv => lhs; cbv); refine congrArg some ?_))
          | ((fail_if_success (refine .id ?_))
             first
              | (exact Lv.nil)
              | (subst ho; exact hla0)
              | (subst ho; exact ⟨hv.symm, by simp [std, len_eNd], Int.le_refl _, by omega⟩)
              | (exact ⟨i2, by omega⟩)
              | (subst ho; refine congrArg (D.sl Tok.ro 2) (congrArg eBd ?_); rw [take_allG (by omega)])
              | (simp (disch := omega) only [ho, std, wI]; exact ⟨i0, i1, by omega, by omega⟩)
              | (have hb := bind_push i2 (by omega) (bindS_var hyp (by assumption) hv); subst ho; refine push_eBd (x := ⟨v0, v1⟩) ?_; simp (disch := omega) only [std, wI]; exact hb)
              | (have hb := bind_push i2 (by omega) (bindS_non hyp (by assumption)); subst ho; refine push_eBd (x := ⟨-1, -1⟩) ?_; simp (disch := omega) only [std, wI]; exact hb)
              | assumption
              | omega
              | (subst ho; rfl)
              | (subst ho; simpa [std, lenE] using hl')
              | (subst ho; simp [std, lenE]; omega)
              | (subst ho; simp (disch := omega) only [std, wI, tdiv2, tdivN, lenE] <;> first | done | rfl | omega)))))
  | ((fail_if_success (refine .id ?_))
     first
      | assumption))
noncomputable def impl_FreeNames_pre.fi : FnI := { fni Tryz.f19 (fun | 5 => [0, 3, 10, 11, 12] | _ => []) false with body := takeC 3 (bodyOf Tryz.f19) }
theorem impl_FreeNames_pre.part {xa xb : Option (List D → Option D)} (o : Std) (ho : o = std) (l : List Nd) (h0 : okM l = true) (h1 : Sz l) (h2 : l.length ≤ 1048576) : AnsI (env xa xb) impl_FreeNames_pre.fi .normal (fun s => if s.t.length = 39 then s.t[3]? else none) [rNd o l] (fun d_ tk_ => ∃ (tq : Tok) , d_ = .sl tq 1 (o.bx fun _ => eB (rawN l l.length)) ∧ (Lw tk_ tq (rawN l l.length).length)) := by
 refine AnsI.mkA ho (by rfl) ?_
 have hT := okM_iff.1 h0; have hs := hT.size
 repeat' (first
  | (refine .id ?_
     (try (conv => arg 2; cbv))
     first
      | refine .tN0 ho ?_
      | (refine .pE (β := Bool) .bool (as' := [rNd o _]) (impl_NodesOk.ans o ho _ ?_ ?_) ?_; rotate_left 2; rintro (_ | _) hv <;> (try simp only [dE] at hv) <;> (try first | contradiction | exact bX hv))
      | (refine .pE (β := List Bd) (rBd o) (as' := [rNd o _]) (impl_binders.ans o ho _ ?_) ?_; rotate_left 1; rintro v hv)
      | (refine .indF (fun m_ s_ => ∃ (ea3 : Box) (a10 : List Bd) (a11 : Int) (a12 : Int) (ta3 ta10 : Tok) (tk : List Nat), s_ = ⟨[rNd o l, Jk, Jk, .sl ta3 1 ea3, Jk, Jk, Jk, Jk, Jk, Jk, .sl ta10 2 (o.bx fun _ => eBd a10), iX a11, iX a12] ++ List.replicate 26 Jk, [], [], tk⟩ ∧ Lw tk ta3 ea3.length ∧ ea3 = (o.bx fun _ => eB (rawN l a12.toNat)) ∧ (a10 = bindsM l ∧ a11 = l.length ∧ 0 ≤ a12 ∧ a12 ≤ l.length) ∧ (l.length - a12).toNat ≤ m_) _ _ ⟨_, _, _, _, _, _, _, by subst ho; rfl, ?_, ?_, ?_, Nat.le_refl _⟩ ?_
         rotate_right
         rintro m_ _ ⟨ea3, a10, a11, a12, ta3, ta10, tk, rfl, hla0, rfl, hIa, hka⟩ iha
         obtain ⟨rfl, i1, i2, i3⟩ := hIa; have hbl := len_bindsM l; have hrl := (len_rawN l a12.toNat).1; refine .unloopA ho ?_
         repeat' (first
          | (refine .id ?_
             (try (conv => arg 2; cbv))
             first
              | refine .testF ?_
              | refine .t1 ?_
              | refine .t0 ?_
              | (refine .test (fun hr => ?_) (fun hr => ?_) <;> (have hb := hr) <;> (try simp (disch := omega) only [ho, std, wI, lenE, nrm] at hb) <;> (try (exfalso; first | contradiction | omega | exact hb rfl)))
              | (refine .fetchYNd ho ?_ ?_ (by with_reducible assumption) ?_)
              | (refine .fetchXNd ho ?_ ?_ (fun y hy => ?_); rotate_left 2; rcases y with ⟨y0, y1, y2, y3, y4, y5, y6⟩; (have hyp := hy))
              | (refine .fetchXBd ho ?_ ?_ (fun y hy => ?_); rotate_left 2; rcases y with ⟨y0, y1⟩; (have hyb := hy))
              | (refine .need ?_ ?_)
              | (refine .app1w ?_ (fun t' tk' hl' => ?_))
              | (refine iha _ _ ?_ ⟨_, _, _, _, _, _, _, by subst ho; rfl, ?_, ?_, ?_, Nat.le_refl _⟩)
              | (refine .done ⟨rfl, ?_⟩; refine ⟨_, by (conv => lhs; cbv) <;> rfl, ?_⟩))
          | ((fail_if_success (refine .id ?_))
             first
              | (exact Lw.nil)
              | (subst ho; exact hla0)
              | (subst ho; have he : a12.toNat = l.length := (by omega); refine ⟨_, congrArg (D.sl _ 1) (congrArg eB (congrArg (rawN l) he)), ?_⟩; rw [← he]; simpa [std, len_eB] using hla0)
              | (subst ho; exact ⟨hv.symm, by simp [std, len_eBd, len_bindsM, ← hv], Int.le_refl _, by omega⟩)
              | (subst ho; simp (disch := omega) only [std, wI]; exact push_eB (raw_yes i2 (by omega) hyp (by assumption) hyb (by assumption)))
              | (subst ho; simp (disch := omega) only [std, wI]; refine congrArg eB ?_; first | exact (raw_no1 i2 hyp (by assumption)).symm | exact (raw_no2 i2 (by omega) hyb (by dsimp only; omega)).symm)
              | ((try clear iha); subst ho; refine ⟨rfl, i1, ?_, ?_⟩ <;> simp (disch := omega) only [std, wI] <;> omega)
              | assumption
              | omega
              | (subst ho; rfl)
              | (subst ho; simpa [std, lenE] using hl')
              | (subst ho; simp [std, lenE]; omega)
              | (subst ho; simp (disch := omega) only [std, wI, tdiv2, tdivN, lenE] <;> first | done | rfl | omega)))))
  | ((fail_if_success (refine .id ?_))
     first
      | assumption))
theorem arr_fn {a : Array Value} {n : Nat} (h : a.size = n) : a = ((List.range n).map fun i => a.getD i undef).toArray := by
 subst h
 refine Array.ext (by simp) fun i h1 h2 => ?_
 simp [h1]
theorem cNd_inj {x y : Nd} (h : cNd x = cNd y) : x = y := by
 cases x; cases y; simp only [cNd, List.cons.injEq, D.int.injEq, D.str.injEq] at h; simp [h]
theorem eNd_inj : ∀ {l m : List Nd}, eNd l = eNd m → l = m
 | [], [], _ => rfl
 | [], _ :: _, h => by simp [eNd] at h
 | _ :: _, [], h => by simp [eNd] at h
 | x :: l, y :: m, h => by
   simp only [eNd, List.map_cons, List.cons.injEq] at h
   rw [cNd_inj h.1, eNd_inj (l := l) (m := m) h.2]
def freeX (l : List Nd) : List ByteArray := dedN (srtS (rawN l l.length)) (srtS (rawN l l.length)).length
open Classical in
noncomputable def gFree : List D → Option D := fun ar => if h : ∃ l : List Nd, okM l = true ∧ Sz l ∧ ar = [.sl .ro 7 (eNd l)] then some (.sl .ro 1 (eB (freeX h.choose))) else none
theorem gFree_eq {l : List Nd} (hk : okM l = true) (hs : Sz l) : gFree [.sl .ro 7 (eNd l)] = some (.sl .ro 1 (eB (freeX l))) := by
 have h : ∃ l' : List Nd, okM l' = true ∧ Sz l' ∧ [D.sl .ro 7 (eNd l)] = [.sl .ro 7 (eNd l')] := ⟨l, hk, hs, rfl⟩
 unfold gFree
 rw [dif_pos h]
 have h1 : eNd l = eNd h.choose := by
  have h2 := h.choose_spec.2.2
  injection h2 with h2 _
  injection h2
 exact congrArg (fun m => some (D.sl .ro 1 (eB (freeX m)))) (eNd_inj h1).symm
theorem free_spec : FreeSpec gFree := fun l hk hs => ⟨freeX l, gFree_eq hk hs, by
 have h1 := ded_len (l := srtS (rawN l l.length))
 rw [len_srtS] at h1
 have h2 := raw_len hk
 unfold freeX
 rw [len_srtS]
 omega⟩
theorem own_block {F : Fx} {G : Gh} {tk : List Nat} {w : World} {tq : Tok} {z : Nat} {es : Box} {v : Value} (hF : F.tk0 = []) (hr : Rep F G tk w (.sl tq z es) v) (hl : Lw tk tq es.length) :
  ∀ b o l c, v = .slice (some ⟨b, o, none⟩) l c → F.base ≤ b ∧ ∃ c e, w.heap[b]? = some (.cells c e (0, 0)) := by
 intro b o l c hv
 obtain ⟨hrd, ht⟩ := hr.sl_inv
 generalize hn0 : es.length = n0 at hl
 cases hl with
 | nil => cases hrd with
   | slN => cases hv
   | sl _ _ _ _ _ _ _ hn => exact absurd rfl hn
 | own i n hi =>
   obtain ⟨n, h1, h2, h3, h4⟩ := ht
   have hn : n = 0 + es.length := by rw [h1] at hi; rw [hn0, Nat.zero_add]; exact Option.some.inj hi
   obtain ⟨a, cap, k1, k2⟩ := h4 hn
   obtain ⟨b1, o1, q1, q2, q3, c1, e1, q4, q5⟩ := k2.resolve_left (fun h => absurd h.1 (Nat.lt_irrefl 0))
   rw [k1, q1] at hv
   simp only [Value.slice.injEq, Option.some.injEq, Addr.mk.injEq] at hv
   obtain ⟨⟨rfl, _⟩, _⟩ := hv
   have h5 := (h3 b1 o1 es.length cap (by rw [k1, q1])).1
   have h6 : F.low i = F.base := by have := F.lim_le; unfold Fx.low; rw [hF, if_neg (by simp)]; omega
   exact ⟨by omega, c1, e1, q4⟩
theorem free_ok : ExtOk Tryz.prog 19 gFree := by
 refine ⟨⟨_, Tryz.func19, by decide, by kernel_rfl⟩, ?_⟩
 intro σ w args vs d hl hr hbig hg
 obtain ⟨l, hk, hs, rfl⟩ : ∃ l : List Nd, okM l = true ∧ Sz l ∧ args = [.sl .ro 7 (eNd l)] := by
  refine Classical.byContradiction fun h => ?_
  unfold gFree at hg
  rw [dif_neg h] at hg
  cases hg
 rw [gFree_eq hk hs] at hg
 obtain rfl := Option.some.inj hg
 have hsz := (okM_iff.1 hk).size
 have hraw := (len_rawN l l.length).1
 refine calls_pre env_ok0 (n := 3) (c := bodyOf Tryz.f19) (impl_FreeNames_pre.part std rfl l hk hs (by omega)) rfl Tryz.func19 (by kernel_rfl) (by kernel_rfl) hl hr hbig ?_
 rintro d1 s1 G' a' w' hout ⟨tq, rfl, hlw⟩ hsim
 split at hout
 · rename_i hlen
   have hsz39 : a'.tmps.size = 39 := by rw [hsim.tmp.1, hlen]
   have hrep := hsim.tmp.2 3 (by rw [hlen]; decide)
   have h3 : s1.t.getD 3 .junk = .sl tq 1 (eB (rawN l l.length)) := by rw [List.getD_eq_getElem?_getD, hout]; rfl
   rw [h3] at hrep
   have hlw' : Lw s1.tk tq (eB (rawN l l.length)).length := by rw [show (eB (rawN l l.length)).length = (rawN l l.length).length by simp [eB]]; exact hlw
   have hown := own_block rfl hrep hlw'
   have hrd := hrep.sl_inv.1
   have hfr := hsim.inv.fr
   obtain ⟨σ', hσ, hsort⟩ := sortS_calls (B := w.heap.size) hrd (by omega) hsim.inv.iceBig hfr.size hown
   have hcall := sorted_calls (ls := srtS (rawN l l.length)) (by rw [len_srtS]; omega) hsort fun w1 h => ⟨h.2.1, h.2.2⟩
   obtain ⟨tm, df⟩ := a'
   obtain rfl : df = [] := hsim.def0
   dsimp only at hsz39 hcall
   have htm := arr_fn hsz39
   generalize hf : (fun i => tm.getD i undef) = f at htm
   have hf3 : tm.getD 3 undef = f 3 := by rw [← hf]
   rw [hf3] at hcall
   have htm2 : tm = #[f 0, f 1, f 2, f 3, f 4, f 5, f 6, f 7, f 8, f 9, f 10, f 11, f 12, f 13, f 14, f 15, f 16, f 17, f 18, f 19, f 20, f 21, f 22, f 23, f 24, f 25, f 26, f 27, f 28, f 29, f 30, f 31, f 32, f 33, f 34, f 35, f 36, f 37, f 38] := htm
   rw [htm2]
   simp only [dropC, bodyOf, Tryz.f19, Option.getD]
   have e200 : ∀ args w, (callFunc 69 args).run Tryz.prog w = .ok (.enter 69 args) w := enters_of Tryz.func69 (by kernel_rfl) rfl
   clear hsim hrep hown hrd hr htm htm2 hout h3 hf hf3
   go_wp2_with (go_at_fn 69; refine hcall.mono ?_; rintro e w'' ⟨v', σ2, w1, rfl, ⟨⟨hb1, hd1⟩, hrd1, hbg1⟩, hrd2, ⟨hb2, hd2⟩, hs2, hbg2⟩)
   go_ret
   have hw0 : Below w.heap.size w w' := ⟨hfr.os, hfr.tape, hfr.output.1, hfr.size, fun b hb => hfr.same b hb (fun p hp => by cases hp) (fun hh => by cases hh)⟩
   have hw1 := hw0.trans hb1
   refine ⟨v', σ2, rfl, hrd2, ⟨rfl, trivial⟩, ⟨hw1.trans (hb2.mono hw1.size), Nat.le_trans hfr.output.2 (Nat.le_trans hd1 hd2)⟩, fun b hb => ?_, hbg2⟩
   rw [hs2 b (Nat.lt_of_lt_of_le hb hw1.size), hσ b hb]
   exact hfr.ice b hb (fun hh => by cases hh)
 · cases hout
end Go.Mach
namespace Go.Mach
open Go Go.RowKit Go.Proofs Go.Lib
open Go.Sort hiding Below
theorem eqD_F (x y : Fc) : eqD (cFc x) (cFc y) = some (decide (x = y)) := by
 obtain ⟨a, b, c, ⟨d, e, f⟩⟩ := x
 obtain ⟨a', b', c', ⟨d', e', f'⟩⟩ := y
 simp only [cFc, eqD, if_true, Option.map_some, Option.some.injEq, Fc.mk.injEq, Ab.mk.injEq, Bool.and_true]
 simp only [Bool.decide_and, Int.instDecidableEq]
 rfl
theorem eq_F (x y : Fc) (w : World) : (Op.equal 34 (.agg (encF x).toArray) (.agg (encF y).toArray)).run Tryz.prog w = .ok (decide (x = y)) w :=
 eq55.2 (fun _ => 0) w _ _ _ _ _ rfl (aggF_rd x) (aggF_rd y) (eqD_F x y)
theorem zero_F : ∀ w, (zeroValue 34).run Tryz.prog w = .ok (.agg (encF zF).toArray) w := Tryz.zeroValue34
theorem compactF_calls {w : World} {fs : List Fc} {v : Value} {B : Nat} (h : OwnF w B fs v) (hlen : fs.length ≤ 9223372036854775807) :
  Calls Tryz.prog 158 #[v] w fun e w' => ∃ v', e = .returned v' ∧ (Below B w w' ∧ w.drawn ≤ w'.drawn) ∧ OwnF w' B (cmpF fs) v' := by
 rcases h with ⟨rfl, rfl⟩ | ⟨b, o, cap, rfl, hB, hb, hcap, hH⟩
 · have hn : Tryz.f158.ntmps = 61 := by kernel_rfl
   have t3 := Tryz.underlying3; have t36 := Tryz.underlying28
   go_enter Tryz.func158, hn
   go_wp2
   go_ret
   exact ⟨_, rfl, ⟨Below.refl _ _, Nat.le_refl _⟩, .inl ⟨by simp [cmpF, compactUpTo], rfl⟩⟩
 · have hsz : fs.toArray.size = fs.length := by simp
   have hc := compact_core encF 6 Tryz.sizeOf34 encF_len encF_one
    (fun x y w => by simp only [Go.binOp, Sem.run_bind, eq_F, Result.andThen_ok, Sem.run_pure])
    (fun x y w => by simp only [Go.binOp, Sem.run_bind, eq_F, Result.andThen_ok, Sem.run_pure])
    (fun op a b x y w => eqGuard_agg eq55.1) zF zero_F b o cap fs.toArray w hH (by omega) (by omega)
   rw [hsz] at hc
   refine hc.mono ?_
   rintro e w' ⟨rfl, hg⟩
   have hle : (compactUpTo fs.toArray fs.toArray.size).length ≤ fs.length := by
    unfold compactUpTo
    rw [List.length_map, hsz]
    exact Nat.le_trans (List.length_filter_le _ _) (by simp)
   rw [hsz] at hle
   unfold Good at hg
   refine ⟨_, rfl, ⟨⟨hg.os, hg.tape, hg.output, by rw [hg.size]; exact Nat.le_refl _, fun k hk => hg.other k (by omega)⟩, hg.drawn⟩, .inr ⟨b, o, cap, ?_, hB, by rw [hg.size]; exact hb, ?_, ?_⟩⟩
   · unfold cmpF; rw [hsz]
   · unfold cmpF; rw [hsz]; omega
   · unfold cmpF; exact hg.hold
end Go.Mach
