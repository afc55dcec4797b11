/- The program's Recursive returns what the reference's returns, for all arguments.: part 35 of a proof by an executable machine over the program's code. -/
import Derived.Test.YtljpfhpcbfpooaaGreatDoorL73
set_option linter.unusedVariables false
set_option linter.unusedSimpArgs false
set_option maxRecDepth 100000
set_option maxHeartbeats 6000000
namespace Go.Mach
open Go Go.RowKit Go.Proofs
theorem spec_Onward.ans {xa xb : Option (List D → Option D)} (o : Std) (ho : o = std) (l : List Ed) (a : Int) (h0 : l.length ≤ 6300000) (h1 : Few l) : Ans (env xa xb) 54 [.sl .ro 2 (o.bx fun _ => eEd l), .int .i64 a] (.sl .ro 1 (o.bx fun _ => eK .i64 (onwM l a))) := by
 refine Ans.mkA ho _ rfl rfl ?_
 repeat' (first
  | (refine Den.id ?_
     (try (conv => arg 2; cbv))
     first
      | (refine Den.indF (fun m_ s_ => ∃ (a6 : Int) (tk : List Nat) (tq : Tok) (bq : Box), s_ = ⟨[.sl .ro 2 (o.bx fun _ => eEd l), .int .i64 a, .junk, .junk, .junk, .sl tq 1 bq, .int .i64 a6] ++ List.replicate 38 .junk, [], [], tk⟩ ∧ ((∃ oa : List Int, bq = (o.bx fun _ => eK .i64 oa) ∧ OutI l a a6 oa) ∧ 0 ≤ a6 ∧ a6 ≤ l.length + 1) ∧ (l.length + 1 - a6).toNat ≤ m_) _ _ ⟨_, _, _, _, by subst ho; rfl, ?_, Nat.le_refl _⟩ ?_
         rotate_right
         rintro m_ _ ⟨a6, tk, tq, bq, rfl, hIa, hka⟩ iha
         obtain ⟨⟨oa, rfl, hO⟩, i1, i2⟩ := hIa; have hol := hO.few h1; refine Den.unloopA ho ?_
         repeat' (first
          | (refine Den.id ?_
             (try (conv => arg 2; cbv))
             first
              | (refine Den.test (fun hr => ?_) (fun hr => ?_) <;> (have hb := hr) <;> (try simp (disch := omega) only [ho, std, wI, len_eK, len_eB, len_eNd, len_eLNd, len_eFc, len_eAb, len_eBd, len_eEd, len_eLBd, Int.ofNat_eq_natCast, Classical.not_not, decide_eq_true_eq, decide_eq_false_iff_not, beq_iff_eq, beq_eq_false_iff_ne, ne_eq, Bool.not_eq_true', Bool.not_eq_false', Bool.not_eq_true, Bool.not_eq_false, gt_iff_lt, ge_iff_le, Int.not_lt, Int.not_le] at hb) <;> (try (exfalso; first | contradiction | omega | exact hb rfl)))
              | (refine Den.indF (fun m_ s_ => ∃ (b7 : Int) (tk : List Nat) (tq : Tok) (bq : Box), s_ = ⟨[.sl .ro 2 (o.bx fun _ => eEd l), .int .i64 a, .junk, .junk, .junk, .sl tq 1 bq, .int .i64 a6, .int .i64 b7] ++ List.replicate 37 .junk, [], [], tk⟩ ∧ ((∃ ob : List Int, bq = (o.bx fun _ => eK .i64 ob) ∧ InI l a a6 b7 ob) ∧ 0 ≤ b7 ∧ b7 ≤ l.length) ∧ (l.length - b7).toNat ≤ m_) _ _ ⟨_, _, _, _, by subst ho; rfl, ?_, Nat.le_refl _⟩ ?_
                 rotate_right
                 rintro m_ _ ⟨b7, tk, tq, bq, rfl, hIb, hkb⟩ ihb
                 obtain ⟨⟨ob, rfl, hN⟩, j1, j2⟩ := hIb; have hnl := hN.few h1; refine Den.unloopA ho ?_
                 repeat' (first
                  | (refine Den.id ?_
                     (try (conv => arg 2; cbv))
                     first
                      | refine Den.testT ?_
                      | refine Den.testF ?_
                      | refine Den.test1 (by with_reducible assumption) ?_
                      | refine Den.test0 (by with_reducible assumption) ?_
                      | (refine Den.test (fun hr => ?_) (fun hr => ?_) <;> (have hb := hr) <;> (try simp (disch := omega) only [ho, std, wI, len_eK, len_eB, len_eNd, len_eLNd, len_eFc, len_eAb, len_eBd, len_eEd, len_eLBd, Int.ofNat_eq_natCast, Classical.not_not, decide_eq_true_eq, decide_eq_false_iff_not, beq_iff_eq, beq_eq_false_iff_ne, ne_eq, Bool.not_eq_true', Bool.not_eq_false', Bool.not_eq_true, Bool.not_eq_false, gt_iff_lt, ge_iff_le, Int.not_lt, Int.not_le] at hb) <;> (try (exfalso; first | contradiction | omega | exact hb rfl)))
                      | (refine Den.pcallE (β := Bool) (fun v => .bool v) (as' := [.sl .ro 1 (o.bx fun _ => eK .i64 _), .int .i64 _]) (by first | with_reducible rfl | (subst ho; rfl)) (spec_l4Has.ans o ho _ _ ?_) ?_; rotate_left 1; rintro (_ | _) hv <;> (try simp only [decide_eq_true_eq, decide_eq_false_iff_not] at hv) <;> (try first | contradiction | exact absurd (hv.symm.trans (show _ = false by assumption)) (by decide) | exact absurd (hv.symm.trans (show _ = true by assumption)) (by decide)))
                      | (refine Den.pcallE (β := List Int) (fun v => .sl .ro 1 (o.bx fun _ => eK .i64 v)) (as' := [.sl .ro 1 (o.bx fun _ => eK .i64 _), .int .i64 _]) (by first | with_reducible rfl | (subst ho; rfl)) (spec_l12Int.ans o ho _ _ ?_ ?_) ?_; rotate_left 2; rintro v hv; (subst hv))
                      | (refine Den.fetchYEd ho ?_ ?_ (by with_reducible assumption) ?_)
                      | (refine Den.fetchXEd ho ?_ ?_ (fun y hy => ?_); rotate_left 2; rcases y with ⟨y0, y1⟩; (first | (have _h := hyk) | (have hyk := hy)))
                      | (refine ihb _ _ ?_ ⟨_, _, _, _, by subst ho; rfl, ?_, Nat.le_refl _⟩)
                      | (refine iha _ _ ?_ ⟨_, _, _, _, by subst ho; rfl, ?_, Nat.le_refl _⟩))
                  | ((fail_if_success (refine Den.id ?_))
                     first
                      | (exact hN.1)
                      | (subst ho; exact ⟨⟨_, rfl, in_start hO⟩, Int.le_refl _, by omega⟩)
                      | ((try clear iha); (try clear ihb); simp (disch := omega) only [ho, std, wI]; first | exact ⟨⟨_, rfl, in_yes hN j1 (by omega) hyk (.inl (by dsimp only; assumption))⟩, by omega, by omega⟩ | exact ⟨⟨_, rfl, in_yes hN j1 (by omega) hyk (.inr (by dsimp only; assumption))⟩, by omega, by omega⟩ | exact ⟨⟨_, rfl, in_no hN j1 (by omega) hyk (by dsimp only; assumption) (by dsimp only; assumption)⟩, by omega, by omega⟩ | exact ⟨⟨_, rfl, in_end hN (by omega)⟩, by omega, by omega⟩)
                      | assumption
                      | omega
                      | (subst ho; simp (disch := omega) only [std, wI, tdiv2, tdivN, len_eFc, len_eNd, len_eBd, len_eAb, len_eLBd, len_eK, len_eB] <;> first | done | rfl | omega))))
              | (refine Den.done ⟨by first | exact Or.inl rfl | exact Or.inr rfl, ?_⟩; (conv => lhs; cbv) <;> refine congrArg some ?_))
          | ((fail_if_success (refine Den.id ?_))
             first
              | (subst ho; refine ⟨⟨[], ?_, out_zero l a⟩, Int.le_refl _, by omega⟩; rfl)
              | (refine congrArg (D.sl Tok.ro 1) ?_; subst ho; exact congrArg (eK .i64) (out_end hO (by omega)))))))
  | ((fail_if_success (refine Den.id ?_))
     first
      | fail))
end Go.Mach
namespace Go.Mach
open Go
inductive Lo (tk : List Nat) : Tok → Nat → Prop
 | nil : Lo tk .nil 0
 | cap (n) : Lo tk .cap n
 | own (i n) (h : tk[i]? = some n) : Lo tk (.own i) n
 | ofs (i off n) (h : tk[i]? = some (off + n)) : Lo tk (.ofs i off) n
theorem Lo.app {tk t n} (h : Lo tk t n) (m : Nat) : ∃ t' tk', appTok t n m tk = some (t', tk') ∧ Lo tk' t' (n + m) := by
 cases h with
 | nil =>
   by_cases h : m = 0
   · subst h; exact ⟨.nil, tk, by simp [appTok], .nil⟩
   · exact ⟨.own tk.length, tk ++ [0 + m], by simp [appTok, h], .own _ _ (by simp)⟩
 | cap n =>
   by_cases h : m = 0
   · subst h; exact ⟨.cap, tk, by simp [appTok], .cap _⟩
   · exact ⟨.own tk.length, tk ++ [n + m], by simp [appTok, h], .own _ _ (by simp)⟩
 | own i n h => exact ⟨.own i, tk.set i (n + m), by simp [appTok, h], .own _ _ (by simp [(List.getElem?_eq_some_iff.1 h).1])⟩
 | ofs i off n h => exact ⟨.ofs i off, tk.set i (off + n + m), by simp [appTok, h], .ofs _ _ _ (by simp [(List.getElem?_eq_some_iff.1 h).1, Nat.add_assoc])⟩
theorem Lo.cut {tk t n} (h : Lo tk t n) {l : Int} (h0 : 0 < l) (h1 : l ≤ n) : Lo tk (cutTok t l) (n - l.toNat) := by
 cases h with
 | nil => omega
 | cap n => exact .cap _
 | own i n h => exact .ofs _ _ _ (by rw [h]; congr 1; omega)
 | ofs i off n h => exact .ofs _ _ _ (by rw [h]; congr 1; omega)
section
variable {E : Env} {Q : X → S → Prop}
theorem Den.app1o {t : Tok} {n m : Nat} {tk : List Nat} {k : Tok → List Nat → T} (h : Lo tk t n) (hk : ∀ t' tk', Lo tk' t' (n + m) → Den E (k t' tk') Q) : Den E (.app t n m tk k) Q := by
 obtain ⟨t', tk', h1, h2⟩ := h.app m
 exact Den.app h1 (hk t' tk' h2)
end
end Go.Mach
namespace Go.Mach
open Go Go.RowKit Go.Proofs
theorem impl_Onward.ans {xa xb : Option (List D → Option D)} (o : Std) (ho : o = std) (l : List Ed) (a : Int) (h0 : l.length ≤ 6300000) (h1 : Few l) : Ans (env xa xb) 88 [.sl .ro 2 (o.bx fun _ => eEd l), .int .i64 a] (.sl .nw 1 (o.bx fun _ => eK .i64 (onwM l a))) := by
 refine Ans.mkA ho _ rfl rfl ?_
 repeat' (first
  | (refine Den.id ?_
     (try (conv => arg 2; cbv))
     first
      | (refine Den.indF (fun m_ s_ => ∃  (tk : List Nat) (tq : Tok) (bq : Box) (tt : Tok) (tb : Box), s_ = ⟨[.sl .ro 2 (o.bx fun _ => eEd l), .junk, .junk, .junk, .junk, .sl tq 1 bq, .sl tt 1 tb] ++ List.replicate 41 .junk, [], [], tk⟩ ∧ ((tq = .nil ∨ tq = .nw) ∧ ∃ oa ta : List Int, bq = (o.bx fun _ => eK .i64 oa) ∧ tb = (o.bx fun _ => eK .i64 ta) ∧ Lo tk tt tb.length ∧ TdI l a oa ta) ∧ (2 * (2500 - bq.length) + tb.length) ≤ m_) _ _ ⟨_, _, _, _, _, by subst ho; rfl, ?_, Nat.le_refl _⟩ ?_
         rotate_right
         rintro m_ _ ⟨tk, tq, bq, tt, tb, rfl, hIa, hka⟩ iha
         obtain ⟨ht, oa, ta, rfl, rfl, hLa, hO⟩ := hIa; have hol := hO.few h1; have hb1 := bxlen o ho oa; have hb2 := bxlen o ho ta; refine Den.unloopA ho ?_
         repeat' (first
          | (refine Den.id ?_
             (try (conv => arg 2; cbv))
             first
              | (refine Den.test (fun hr => ?_) (fun hr => ?_) <;> (have hb := hr) <;> (try simp (disch := omega) only [ho, std, wI, len_eK, len_eB, len_eNd, len_eLNd, len_eFc, len_eAb, len_eBd, len_eEd, len_eLBd, Int.ofNat_eq_natCast, Classical.not_not, decide_eq_true_eq, decide_eq_false_iff_not, beq_iff_eq, beq_eq_false_iff_ne, ne_eq, Bool.not_eq_true', Bool.not_eq_false', Bool.not_eq_true, Bool.not_eq_false, gt_iff_lt, ge_iff_le, Int.not_lt, Int.not_le] at hb) <;> (try (exfalso; first | contradiction | omega | exact hb rfl)))
              | (refine Den.fetchXK ho ?_ ?_ (fun y hy => ?_); rotate_left 2; (first | (have _h := hyb) | (have hyb := hy)))
              | (refine Den.need ?_ ?_)
              | (refine Den.indF (fun m_ s_ => ∃ (b7 : Int) (b21 : Int) (b22 : Int) (tk : List Nat) (tq : Tok) (bq : Box) (tt : Tok) (tb : Box), s_ = ⟨[.sl .ro 2 (o.bx fun _ => eEd l), .junk, .junk, .junk, .junk, .sl tq 1 bq, .sl tt 1 tb, .int .i64 b7, .junk, .junk, .junk, .junk, .junk, .junk, .junk, .junk, .junk, .junk, .junk, .junk, .sl .ro 2 (o.bx fun _ => eEd l), .int .i64 b21, .int .i64 b22] ++ List.replicate 25 .junk, [], [], tk⟩ ∧ ((tq = .nil ∨ tq = .nw) ∧ b21 = l.length ∧ 0 ≤ b22 ∧ b22 ≤ l.length ∧ ∃ ob td : List Int, bq = (o.bx fun _ => eK .i64 ob) ∧ tb = (o.bx fun _ => eK .i64 td) ∧ Lo tk tt tb.length ∧ TrI l a b7 b22 ob td ∧ 2 * (2500 - ob.length) + td.length < 2 * (2500 - oa.length) + ta.length) ∧ (l.length - b22).toNat ≤ m_) _ _ ⟨_, _, _, _, _, _, _, _, by subst ho; rfl, ?_, Nat.le_refl _⟩ ?_
                 rotate_right
                 rintro m_ _ ⟨b7, b21, b22, tk, tq, bq, tt, tb, rfl, hIb, hkb⟩ ihb
                 obtain ⟨ht, j0, j1, j2, ob, td, rfl, rfl, hLb, hN, j3⟩ := hIb; have hnl := hN.few h1; have hb3 := bxlen o ho ob; have hb4 := bxlen o ho td; refine Den.unloopA ho ?_
                 repeat' (first
                  | (refine Den.id ?_
                     (try (conv => arg 2; cbv))
                     first
                      | refine Den.testF ?_
                      | refine Den.test1 (by with_reducible assumption) ?_
                      | refine Den.test0 (by with_reducible assumption) ?_
                      | refine Den.testN1 ho (by first | with_reducible assumption | with_reducible rfl) ?_
                      | refine Den.testN0 ho (by first | with_reducible assumption | with_reducible rfl) ?_
                      | (refine Den.test (fun hr => ?_) (fun hr => ?_) <;> (have hb := hr) <;> (try simp (disch := omega) only [ho, std, wI, len_eK, len_eB, len_eNd, len_eLNd, len_eFc, len_eAb, len_eBd, len_eEd, len_eLBd, Int.ofNat_eq_natCast, Classical.not_not, decide_eq_true_eq, decide_eq_false_iff_not, beq_iff_eq, beq_eq_false_iff_ne, ne_eq, Bool.not_eq_true', Bool.not_eq_false', Bool.not_eq_true, Bool.not_eq_false, gt_iff_lt, ge_iff_le, Int.not_lt, Int.not_le] at hb) <;> (try (exfalso; first | contradiction | omega | exact hb rfl)))
                      | (refine Den.pcallE (β := List Int) (fun v => .sl .nw 1 (o.bx fun _ => eK .i64 v)) (as' := [.sl .nw 1 (o.bx fun _ => eK .i64 _), .int .i64 _]) (by first | with_reducible rfl | (subst ho; rcases ht with rfl | rfl <;> rfl)) (impl_withInt.ans o ho _ _ ?_) ?_; rotate_left 1; rintro v hv)
                      | (refine Den.app1o ?_ (fun t' tk' hl' => ?_))
                      | (refine Den.pcallE (β := Bool) (fun v => .bool v) (as' := [.sl .ro 1 (o.bx fun _ => eK .i64 _), .int .i64 _]) (by first | with_reducible rfl | (subst ho; rfl)) (impl_hasInt.ans o ho _ _ ?_) ?_; rotate_left 1; rintro (_ | _) hv <;> (try simp only [decide_eq_true_eq, decide_eq_false_iff_not] at hv) <;> (try first | contradiction | exact absurd (hv.symm.trans (show _ = false by assumption)) (by decide) | exact absurd (hv.symm.trans (show _ = true by assumption)) (by decide)))
                      | (refine Den.fetchXEd ho ?_ ?_ (fun y hy => ?_); rotate_left 2; rcases y with ⟨y0, y1⟩; (first | (have _h := hyk) | (have hyk := hy)))
                      | (refine Den.need ?_ ?_)
                      | (refine ihb _ _ ?_ ⟨_, _, _, _, _, _, _, _, by subst ho; rfl, ?_, Nat.le_refl _⟩)
                      | (refine iha _ _ ?_ ⟨_, _, _, _, _, by subst ho; rfl, ?_, Nat.le_refl _⟩))
                  | ((fail_if_success (refine Den.id ?_))
                     first
                      | (subst ho; exact hLb)
                      | (subst ho; refine ⟨ht, by simp [std, len_eEd], Int.le_refl _, by omega, oa, ta.drop 1, rfl, cut_eK (by simp [std, len_eK]), ?_, td_pop hO (by omega) hyb, ?_⟩ <;> first | (rw [List.length_drop]; omega) | (have hcc := hLa.cut (l := 1) (by decide) (by rw [hb2]; omega); rw [hb2] at hcc; simpa [std, len_eK, List.length_drop] using hcc))
                      | ((try clear iha); (try clear ihb); subst ho; simp (disch := omega) only [std, wI]; obtain ⟨hT1, hT2⟩ := tr_hit hN j1 (by omega) hyk (by dsimp only; assumption) (by dsimp only; assumption); (try dsimp only at hT1 hT2); rw [hv] at hT1 hT2; have hT3 := hT1.few h1; exact ⟨.inr (by trivial), j0, by omega, by omega, _, _, rfl, pushI rfl, by simpa [std, len_eK] using hl', hT1, by rw [List.length_append, List.length_singleton]; omega⟩)
                      | ((try clear iha); (try clear ihb); subst ho; simp (disch := omega) only [std, wI]; first | exact ⟨ht, j0, by omega, by omega, _, _, rfl, rfl, hLb, tr_skip hN j1 (by omega) hyk (fun he => absurd he (by dsimp only; assumption)), j3⟩ | exact ⟨ht, j0, by omega, by omega, _, _, rfl, rfl, hLb, tr_skip hN j1 (by omega) hyk (fun _ => by dsimp only; assumption), j3⟩ | exact ⟨ht, _, _, rfl, rfl, hLb, tr_end hN (by omega)⟩)
                      | assumption
                      | omega
                      | (subst ho; simp [std, len_eFc, len_eNd, len_eBd, len_eAb, len_eLBd, len_eK, len_eB]; omega)
                      | (subst ho; simp (disch := omega) only [std, wI, tdiv2, tdivN, len_eFc, len_eNd, len_eBd, len_eAb, len_eLBd, len_eK, len_eB] <;> first | done | rfl | omega))))
              | (refine Den.done ⟨by first | exact Or.inl rfl | exact Or.inr rfl, ?_⟩; (conv => lhs; cbv) <;> refine congrArg some ?_))
          | ((fail_if_success (refine Den.id ?_))
             first
              | (subst ho; refine ⟨.inl rfl, [], [a], ?_, ?_, .cap _, td_zero l a⟩ <;> rfl)
              | (refine ?_; subst ho; rcases ht with rfl | rfl <;> (refine congrArg (D.sl Tok.nw 1) (congrArg (eK .i64) ?_); exact td_fin hO (by omega)))
              | assumption
              | omega
              | (subst ho; simp [std, len_eFc, len_eNd, len_eBd, len_eAb, len_eLBd, len_eK, len_eB]; omega)))))
  | ((fail_if_success (refine Den.id ?_))
     first
      | fail))
theorem spec_l12Edge.ans {xa xb : Option (List D → Option D)} (o : Std) (ho : o = std) (l : List Ed) (x_f0 : Int) (x_f1 : Int) (h0 : RisE l) (h1 : l.length ≤ 6300000) : Ans (env xa xb) 92 [rEd o l, .agg [iX x_f0, iX x_f1]] (rEd o (insE (⟨x_f0, x_f1⟩ : Ed) l)) := by
 refine Ans.mkA ho _ rfl rfl ?_
 repeat' (first
  | (refine .id ?_
     (try (conv => arg 2; cbv))
     first
      | (refine .indF (fun m_ s_ => ∃ (ea5 : Box) (a6 : Bool) (a7 : Int) (ta5 : Tok) (tk : List Nat), s_ = ⟨[rEd o l, Jk, Jk, .pbx (.loc 0) 0, Jk, .sl ta5 2 ea5, .bool a6, iX a7] ++ List.replicate 64 Jk, [[[iX x_f0, iX x_f1]]], [], tk⟩ ∧ Lv tk ta5 ea5.length ∧ ea5 = (o.bx fun _ => eEd (lEO (⟨x_f0, x_f1⟩ : Ed) l a7 a6)) ∧ (0 ≤ a7 ∧ a7 ≤ l.length ∧ (a6 = false → ∀ y ∈ l.take a7.toNat, ltE y (⟨x_f0, x_f1⟩ : Ed) = true) ∧ (a6 = true → ∀ y ∈ l.drop a7.toNat, ltE (⟨x_f0, x_f1⟩ : Ed) y = true)) ∧ (l.length - a7).toNat ≤ m_) _ _ ⟨_, _, _, _, _, by subst ho; rfl, ?_, ?_, ?_, Nat.le_refl _⟩ ?_
         rotate_right
         rintro m_ _ ⟨ea5, a6, a7, ta5, tk, rfl, hla0, rfl, hIa, hka⟩ iha
         obtain ⟨i1, i2, i3, i4⟩ := hIa; have hol := len_lEO (⟨x_f0, x_f1⟩ : Ed) l a7 a6; refine .unloopA ho ?_
         repeat' (first
          | (refine .id ?_
             (try (conv => arg 2; cbv))
             first
              | refine .testT ?_
              | refine .testF ?_
              | refine .t1 ?_
              | refine .t0 ?_
              | (refine .test (fun hr => ?_) (fun hr => ?_) <;> (have hb := hr) <;> (try simp (disch := omega) only [ho, std, wI, lenE, Int.ofNat_eq_natCast, nrm] at hb) <;> (try (exfalso; first | contradiction | omega | exact hb rfl)))
              | (refine .fetchYEd ho ?_ ?_ (by with_reducible assumption) ?_)
              | (refine .fetchXEd ho ?_ ?_ (fun y hy => ?_); rotate_left 2; rcases y with ⟨y0, y1⟩; (first | (have _h := hyk) | (have hyk := hy)))
              | (refine .needD ho (by kernel_rfl) ?_)
              | (refine .need ?_ ?_)
              | (refine .app1 ?_ (fun t' tk' hl' => ?_))
              | (refine iha _ _ ?_ ⟨_, _, _, _, _, by subst ho; rfl, ?_, ?_, ?_, Nat.le_refl _⟩)
              | (refine .fin ?_; (conv => lhs; cbv) <;> refine congrArg some ?_))
          | ((fail_if_success (refine .id ?_))
             first
              | (exact Lv.cap _)
              | (subst ho; exact hla0)
              | (subst ho; exact ⟨Int.le_refl _, by omega, fun _ y h => by simp at h, fun h => by cases h⟩)
              | (refine congrArg (D.sl Tok.ro 2) ?_; subst ho; exact congrArg eEd (insE_mem h0 (by have := rdG_mem (z := zEd) i1 (show a7 < l.length by omega); rw [show rdG zEd l a7 = _ from hyk] at this; simp_all)).symm)
              | ((try clear iha); subst ho; simp (disch := omega) only [std, wI]; first | exact push2Ed (lE_putD (by assumption) i1 (by omega) i3 hyk (ltE_iff.2 (by dsimp only; omega))) | exact push1Ed (lE_go i1 (by omega) a6 hyk (fun h => gtE_at i1 (by omega) (i4 h) hyk)))
              | ((try clear iha); subst ho; simp (disch := omega) only [std, wI]; exact ⟨by omega, by omega, fun h => by first | exact absurd h (by decide) | exact ltE_step i1 (by omega) (i3 h) hyk (ltE_iff.2 (by dsimp only; first | omega | (have hne := beq2_no (by assumption); omega))) | exact absurd (h.symm.trans (show _ = true by assumption)) (by decide), fun h => by first | exact gtE_ris h0 i1 (by omega) hyk (ltE_iff.2 (by dsimp only; omega)) | exact gtE_step i1 (by omega) (i4 h)⟩)
              | (refine congrArg (D.sl Tok.ro 2) ?_; subst ho; first | exact push1Ed (lE_fin (by assumption) (by omega) i3) | exact congrArg eEd (lE_finT (by assumption) (by omega)).symm)
              | assumption
              | (subst ho; rfl)
              | (subst ho; simpa [std, lenE] using hl')
              | (subst ho; simp (disch := omega) only [std, wI, tdiv2, tdivN, lenE] <;> first | done | rfl | omega)
              | (subst ho; simp [std, lenE]; omega)))))
  | ((fail_if_success (refine .id ?_))
     first
      | fail))
theorem spec_CallGraph.ans {xa xb : Option (List D → Option D)} (o : Std) (ho : o = std) (l : List Nd) (dp : Int) (h0 : Sz l) (h1 : l.length ≤ 1048576) : Ans (env xa xb) 48 [rNd o l, iX dp] (.tup [rEd o (((graphM l dp, (solveR l dp).2)).1), .bool ((graphM l dp, (solveR l dp).2)).2]) := by
 refine Ans.mkA ho _ rfl rfl ?_
 have hall := solveR_all l dp; have hfr := solveR_fr l dp
 repeat' (first
  | (refine .id ?_
     (try (conv => arg 2; cbv))
     first
      | (refine .pE (β := (List Fc) × Bool) (fun v => .tup [rFc o v.1, .bool v.2]) (as' := [rNd o _, iX _]) (spec_Solve.ans o ho _ _ ?_ ?_) ?_; rotate_left 2; rintro ⟨v0, (_ | _)⟩ hv <;> (try simp only [dE] at hv) <;> (try first | contradiction | exact bX hv))
      | (refine .indF (fun m_ s_ => ∃ (a6 : List Fc) (a7 : Bool) (a9 : Int) (ta6 : Tok) (tk : List Nat) (tq : Tok) (bq : Box), s_ = ⟨[rNd o l, Jk, Jk, Jk, Jk, Jk, .sl ta6 6 (o.bx fun _ => eFc a6), .bool a7, .sl tq 2 bq, iX a9] ++ List.replicate 80 Jk, [], [], tk⟩ ∧ (bq = (o.bx fun _ => eEd (canE (rawG l a6 (a6.take a9.toNat)))) ∧ a6 = (solveR l dp).1 ∧ a7 = (solveR l dp).2 ∧ 0 ≤ a9 ∧ a9 ≤ a6.length) ∧ (a6.length - a9).toNat ≤ m_) _ _ ⟨_, _, _, _, _, _, _, by subst ho; rfl, ?_, Nat.le_refl _⟩ ?_
         rotate_right
         rintro m_ _ ⟨a6, a7, a9, ta6, tk, tq, bq, rfl, hIa, hka⟩ iha
         obtain ⟨rfl, rfl, i7, i1, i2⟩ := hIa; have hcl := can_lenT (rawG_lenT (l := l) hall.1 a9.toNat); refine .unloopA ho ?_
         repeat' (first
          | (refine .id ?_
             (try (conv => arg 2; cbv))
             first
              | refine .testT ?_
              | refine .t1 ?_
              | refine .t0 ?_
              | refine .tN0 ho ?_
              | (refine .test (fun hr => ?_) (fun hr => ?_) <;> (have hb := hr) <;> (try simp (disch := omega) only [ho, std, wI, lenE, Int.ofNat_eq_natCast, nrm] at hb) <;> (try (exfalso; first | contradiction | omega | exact hb rfl)))
              | (refine .pE (β := List Ab) (rAb o) (as' := [rFc o _, iX _, iX _, iX _]) (spec_l15At.ans o ho _ _ _ _ ?_ ?_ ?_) ?_; rotate_left 3; rintro v hv; (first | (have _h := hv2) | (have _h := hv1; have hv2 := hv; obtain ⟨v2, e_v2⟩ : ∃ z, z = v := ⟨_, rfl⟩; subst e_v2) | (have hv1 := hv)))
              | (refine .fetchYNd ho ?_ ?_ (by with_reducible assumption) ?_)
              | (refine .fetchXNd ho ?_ ?_ (fun y hy => ?_); rotate_left 2; rcases y with ⟨y0, y1, y2, y3, y4, y5, y6⟩; (first | (have _h := hyn) | (have hyn := hy)))
              | (refine .fetchXFc ho ?_ ?_ (fun y hy => ?_); rotate_left 2; rcases y with ⟨yk, yn, yc, yvk, yvn, yvc⟩; (first | (have _h := hyf) | (have hyf := hy; have hnr := hall.2 _ (rdG_mem (z := zF) i1 (by omega)); rw [show rdG zF _ _ = _ from hyf] at hnr; dsimp only at hnr; obtain ⟨fk, e_fk⟩ : ∃ z, z = yk := ⟨_, rfl⟩; subst e_fk; obtain ⟨fn, e_fn⟩ : ∃ z, z = yn := ⟨_, rfl⟩; subst e_fn; obtain ⟨fc, e_fc⟩ : ∃ z, z = yc := ⟨_, rfl⟩; subst e_fc; obtain ⟨gk, e_gk⟩ : ∃ z, z = yvk := ⟨_, rfl⟩; subst e_gk; obtain ⟨gn, e_gn⟩ : ∃ z, z = yvn := ⟨_, rfl⟩; subst e_gn; obtain ⟨gc, e_gc⟩ : ∃ z, z = yvc := ⟨_, rfl⟩; subst e_gc)))
              | (refine .needD ho (by kernel_rfl) ?_)
              | (refine .indF (fun m_ s_ => ∃ (b12 : Int) (tk : List Nat) (tq : Tok) (bq : Box), s_ = ⟨[rNd o l, Jk, Jk, Jk, Jk, Jk, .sl ta6 6 (o.bx fun _ => eFc (solveR l dp).1), .bool a7, .sl tq 2 bq, iX a9, .pbx (.loc 0) 0, rAb o v2, iX b12] ++ List.replicate 77 Jk, [[[iX fk, iX fn, iX fc, iX gk, iX gn, iX gc]]], [], tk⟩ ∧ (bq = (o.bx fun _ => eEd (canE (rawG l (solveR l dp).1 ((solveR l dp).1.take a9.toNat) ++ edgesV fn (v2.take b12.toNat)))) ∧ 0 ≤ b12 ∧ b12 ≤ v2.length) ∧ (v2.length - b12).toNat ≤ m_) _ _ ⟨_, _, _, _, by subst ho; rfl, ?_, Nat.le_refl _⟩ ?_
                 rotate_right
                 rintro m_ _ ⟨b12, tk, tq, bq, rfl, hIb, hkb⟩ ihb
                 obtain ⟨rfl, j1, j2⟩ := hIb; have hvl := vals_lenE hall.1 hv2; have hci := can_lenT (edges_inn (l := l) hall.1 hv2 a9.toNat fn b12.toNat); refine .unloopA ho ?_
                 repeat' (first
                  | (refine .id ?_
                     (try (conv => arg 2; cbv))
                     first
                      | (refine .test (fun hr => ?_) (fun hr => ?_) <;> (have hb := hr) <;> (try simp (disch := omega) only [ho, std, wI, lenE, Int.ofNat_eq_natCast, nrm] at hb) <;> (try (exfalso; first | contradiction | omega | exact hb rfl)))
                      | (refine .pE (β := List Ed) (rEd o) (as' := [rEd o _, .agg [iX _, iX _]]) (spec_l12Edge.ans o ho _ _ _ ?_ ?_) ?_; rotate_left 2; rintro v hv)
                      | (refine .fetchYAb ho ?_ ?_ (by with_reducible assumption) ?_)
                      | (refine .fetchXAb ho ?_ ?_ (fun y hy => ?_); rotate_left 2; rcases y with ⟨yk, yn, yc⟩; (first | (have _h := hya) | (have hya := hy)))
                      | (refine .needD ho (by kernel_rfl) ?_)
                      | (refine ihb _ _ ?_ ⟨_, _, _, _, by subst ho; rfl, ?_, Nat.le_refl _⟩)
                      | (refine iha _ _ ?_ ⟨_, _, _, _, _, _, _, by subst ho; rfl, ?_, Nat.le_refl _⟩))
                  | ((fail_if_success (refine .id ?_))
                     first
                      | (exact can_ris _)
                      | (subst ho; exact ⟨congrArg eEd (congrArg canE (inn_zero _ _ _).symm), Int.le_refl _, by omega⟩)
                      | ((try clear iha); (try clear ihb); simp (disch := omega) only [ho, std, wI]; first | exact ⟨congrArg eEd (hv.symm.trans (inn_hitC j1 (by omega) hya (by dsimp only; omega)).symm), by omega, by omega⟩ | exact ⟨congrArg eEd (congrArg canE (inn_miss j1 (by omega) hya (by dsimp only; omega)).symm), by omega, by omega⟩)
                      | ((try clear iha); (try clear ihb); simp (disch := omega) only [ho, std, wI]; first | exact ⟨congrArg eEd (congrArg canE (inn_end i1 (by omega) hyf (edgeP_yes (by dsimp only; omega) hyn (by dsimp only; omega) hv1 (by omega)) hyn hv2 (by omega)).symm), by trivial, i7, by omega, by omega⟩ | exact ⟨congrArg eEd (congrArg canE (rawG_miss i1 (by omega) hyf (by first | exact edgeP_no1 (by dsimp only; omega) | exact edgeP_no2 hyn (by dsimp only; omega) | exact edgeP_no3 hyn hv1 (by omega))).symm), by trivial, i7, by omega, by omega⟩)
                      | assumption
                      | omega
                      | (subst ho; simp (disch := omega) only [std, wI, tdiv2, tdivN, lenE] <;> first | done | rfl | omega))))
              | (refine iha _ _ ?_ ⟨_, _, _, _, _, _, _, by subst ho; rfl, ?_, Nat.le_refl _⟩)
              | (refine .fin ?_; (conv => lhs; cbv) <;> refine congrArg some ?_))
          | ((fail_if_success (refine .id ?_))
             first
              | (exact hfr.1)
              | (exact hfr.2.1)
              | (subst ho; exact ⟨rfl, by rw [hv], by rw [hv], Int.le_refl _, by omega⟩)
              | ((try clear iha); (try clear ihb); simp (disch := omega) only [ho, std, wI]; first | exact ⟨congrArg eEd (congrArg canE (inn_end i1 (by omega) hyf (edgeP_yes (by dsimp only; omega) hyn (by dsimp only; omega) hv1 (by omega)) hyn hv2 (by omega)).symm), by trivial, i7, by omega, by omega⟩ | exact ⟨congrArg eEd (congrArg canE (rawG_miss i1 (by omega) hyf (by first | exact edgeP_no1 (by dsimp only; omega) | exact edgeP_no2 hyn (by dsimp only; omega) | exact edgeP_no3 hyn hv1 (by omega))).symm), by trivial, i7, by omega, by omega⟩)
              | (subst ho; rw [i7, graph_fin (by omega)] <;> rfl)
              | assumption
              | omega
              | (subst ho; simp (disch := omega) only [std, wI, tdiv2, tdivN, lenE] <;> first | done | rfl | omega)))))
  | ((fail_if_success (refine .id ?_))
     first
      | assumption))
theorem spec_FunGraph.ans {xa xb : Option (List D → Option D)} (o : Std) (ho : o = std) (l : List Nd) (dp : Int) (h0 : Sz l) (h1 : l.length ≤ 1048576) : Ans (env xa xb) 85 [rNd o l, iX dp] (rEd o (funM l dp)) := by
 refine Ans.mkA ho _ rfl rfl ?_
 have hgl := graphM_len l dp
 repeat' (first
  | (refine .id ?_
     (try (conv => arg 2; cbv))
     first
      | (refine .pE (β := (List Ed) × Bool) (fun v => .tup [rEd o v.1, .bool v.2]) (as' := [rNd o _, iX _]) (spec_CallGraph.ans o ho _ _ ?_ ?_) ?_; rotate_left 2; rintro ⟨v0, (_ | _)⟩ hv <;> (try simp only [dE] at hv) <;> (try first | contradiction | exact bX hv))
      | (refine .indF (fun m_ s_ => ∃ (a6 : List Ed) (a8 : Int) (ta6 : Tok) (tk : List Nat) (tq : Tok) (bq : Box), s_ = ⟨[rNd o l, Jk, Jk, Jk, Jk, .sl tq 2 bq, .sl ta6 2 (o.bx fun _ => eEd a6), Jk, iX a8] ++ List.replicate 29 Jk, [], [], tk⟩ ∧ (bq = (o.bx fun _ => eEd (canE (((graphM l dp).take a8.toNat).map (homeE l)))) ∧ a6 = graphM l dp ∧ 0 ≤ a8 ∧ a8 ≤ (graphM l dp).length) ∧ ((graphM l dp).length - a8).toNat ≤ m_) _ _ ⟨_, _, _, _, _, _, by subst ho; rfl, ?_, Nat.le_refl _⟩ ?_
         rotate_right
         rintro m_ _ ⟨a6, a8, ta6, tk, tq, bq, rfl, hIa, hka⟩ iha
         obtain ⟨rfl, rfl, i1, i2⟩ := hIa; have hcl := can_lenT (homes_len (l := l) hgl a8.toNat); refine .unloopA ho ?_
         repeat' (first
          | (refine .id ?_
             (try (conv => arg 2; cbv))
             first
              | (refine .test (fun hr => ?_) (fun hr => ?_) <;> (have hb := hr) <;> (try simp (disch := omega) only [ho, std, wI, lenE, Int.ofNat_eq_natCast, nrm] at hb) <;> (try (exfalso; first | contradiction | omega | exact hb rfl)))
              | (refine .pE (β := Int) (fun v => iX v) (as' := [rNd o _, iX _]) (spec_HomeOf.ans o ho _ _ ?_ ?_) ?_; rotate_left 2; rintro v hv; (have hvh := hv))
              | (refine .pE (β := List Ed) (rEd o) (as' := [rEd o _, .agg [iX _, iX _]]) (spec_l12Edge.ans o ho _ _ _ ?_ ?_) ?_; rotate_left 2; rintro v hv)
              | (refine .fetchYEd ho ?_ ?_ (by with_reducible assumption) ?_)
              | (refine .fetchXEd ho ?_ ?_ (fun y hy => ?_); rotate_left 2; rcases y with ⟨y0, y1⟩; (first | (have _h := hyk) | (have hyk := hy)))
              | (refine .needD ho (by kernel_rfl) ?_)
              | (refine iha _ _ ?_ ⟨_, _, _, _, _, _, by subst ho; rfl, ?_, Nat.le_refl _⟩)
              | (refine .fin ?_; (conv => lhs; cbv) <;> refine congrArg some ?_))
          | ((fail_if_success (refine .id ?_))
             first
              | (exact can_ris _)
              | (subst ho; exact ⟨rfl, (Prod.mk.inj hv).1.symm, Int.le_refl _, by omega⟩)
              | ((try clear iha); simp (disch := omega) only [ho, std, wI]; exact ⟨congrArg eEd (homes_hitC i1 (by omega) hyk hvh hv), by trivial, by omega, by omega⟩)
              | (refine congrArg (D.sl Tok.ro 2) ?_; subst ho; refine congrArg eEd ?_; rw [homes_fin (by omega)]; rfl)
              | assumption
              | omega
              | (subst ho; simp (disch := omega) only [std, wI, tdiv2, tdivN, lenE] <;> first | done | rfl | omega)))))
  | ((fail_if_success (refine .id ?_))
     first
      | assumption))
theorem spec_LambdasOf.ans {xa xb : Option (List D → Option D)} (o : Std) (ho : o = std) (l : List Nd) (h0 : Sz l) (h1 : l.length ≤ 1048576) : Ans (env xa xb) 86 [rNd o l] (rK o (lamsM l)) := by
 refine Ans.mkA ho _ rfl rfl ?_
 repeat' (first
  | (refine .id ?_
     (try (conv => arg 2; cbv))
     first
      | (refine .indF (fun m_ s_ => ∃ (ea3 : Box) (a4 : Int) (ta3 : Tok) (tk : List Nat), s_ = ⟨[rNd o l, Jk, Jk, .sl ta3 1 ea3, iX a4] ++ List.replicate 21 Jk, [], [], tk⟩ ∧ Lv tk ta3 ea3.length ∧ ea3 = (o.bx fun _ => eK .i64 (filtN (fun i => lamB (rN l i)) a4.toNat)) ∧ (0 ≤ a4 ∧ a4 ≤ l.length ∧ (0 < a4 → okM l = true)) ∧ (l.length - a4).toNat ≤ m_) _ _ ⟨_, _, _, _, by subst ho; rfl, ?_, ?_, ?_, Nat.le_refl _⟩ ?_
         rotate_right
         rintro m_ _ ⟨ea3, a4, ta3, tk, rfl, hla0, rfl, hIa, hka⟩ iha
         obtain ⟨i1, i2, i3⟩ := hIa; have hfl := filtN_lenI (fun i => lamB (rN l i)) i2; refine .unloopA ho ?_
         repeat' (first
          | (refine .id ?_
             (try (conv => arg 2; cbv))
             first
              | refine .testT ?_
              | refine .testF ?_
              | refine .t1 ?_
              | refine .t0 ?_
              | (refine .test (fun hr => ?_) (fun hr => ?_) <;> (have hb := hr) <;> (try simp (disch := omega) only [ho, std, wI, lenE, nrm] at hb) <;> (try (exfalso; first | contradiction | omega | exact hb rfl)))
              | (refine .pE (β := Bool) .bool (as' := [rNd o _]) (spec_NodesOk.ans o ho _ ?_ ?_) ?_; rotate_left 2; rintro (_ | _) hv <;> (try simp only [dE] at hv) <;> (try first | contradiction | exact bX hv))
              | (refine .pE (β := Bool) .bool (as' := [.agg [iX _, iX _, iX _, iX _, iX _, .str _, .str _]]) (spec_l16Lambda.ans o ho _ _ _ _ _ _ _) ?_; rintro (_ | _) hv <;> (try simp only [dE] at hv) <;> (try first | contradiction | exact bX hv))
              | (refine .fetchXNd ho ?_ ?_ (fun y hy => ?_); rotate_left 2; rcases y with ⟨y0, y1, y2, y3, y4, y5, y6⟩; (first | (have _h := hyn) | (have hyn := hy)))
              | (refine .need ?_ ?_)
              | (refine .app1 ?_ (fun t' tk' hl' => ?_))
              | (refine iha _ _ ?_ ⟨_, _, _, _, by subst ho; rfl, ?_, ?_, ?_, Nat.le_refl _⟩)
              | (refine .fin ?_; (conv => lhs; cbv) <;> refine congrArg some ?_))
          | ((fail_if_success (refine .id ?_))
             first
              | (exact Lv.cap _)
              | (subst ho; exact hla0)
              | (subst ho; exact ⟨Int.le_refl _, by omega, fun h => absurd h (by omega)⟩)
              | (subst ho; simp (disch := omega) only [std, wI]; exact pushI (filtN_yes i1 (by rw [hyn]; assumption)))
              | (subst ho; simp (disch := omega) only [std, wI]; exact congrArg (eK .i64) (filtN_no i1 (by rw [hyn]; assumption)).symm)
              | ((try clear iha); subst ho; simp (disch := omega) only [std, wI]; exact ⟨by omega, by omega, fun _ => by assumption⟩)
              | (refine congrArg (D.sl Tok.ro 1) ?_; subst ho; refine congrArg (eK .i64) ?_; first | exact lam_fin i1 i2 i3 (.inl (by omega)) | exact lam_fin i1 i2 i3 (.inr (by assumption)))
              | assumption
              | (subst ho; rfl)
              | (subst ho; simpa [std, lenE] using hl')
              | (subst ho; simp [std, lenE]; omega)
              | (subst ho; simp (disch := omega) only [std, wI, tdiv2, tdivN, lenE] <;> first | done | rfl | omega)))))
  | ((fail_if_success (refine .id ?_))
     first
      | fail))
theorem impl_LambdasOf_1.ans {xa xb : Option (List D → Option D)} (o : Std) (ho : o = std) (n_f0 : Int) (n_f1 : Int) (n_f2 : Int) (n_f3 : Int) (n_f4 : Int) (n_f5 : ByteArray) (n_f6 : ByteArray) : Ans (env xa xb) 94 [.agg [iX n_f0, iX n_f1, iX n_f2, iX n_f3, iX n_f4, .str n_f5, .str n_f6]] (.bool (lamB (⟨n_f0, n_f1, n_f2, n_f3, n_f4, n_f5, n_f6⟩ : Nd))) := by
 refine Ans.mkA ho _ rfl rfl ?_
 repeat' (first
  | (refine .id ?_
     (try (conv => arg 2; cbv))
     first
      | refine .t1 ?_
      | refine .t0 ?_
      | (refine .test (fun hr => ?_) (fun hr => ?_) <;> (have hb := hr) <;> (try simp (disch := omega) only [ho, std, wI, lenE, nrm] at hb) <;> (try (exfalso; first | contradiction | omega | exact hb rfl)))
      | (refine .fin ?_; (conv => lhs; cbv) <;> refine congrArg some ?_))
  | ((fail_if_success (refine .id ?_))
     first
      | (subst ho; simp [std, lamB, *]; done)))
theorem impl_nodesOf_l.ans {xa xb : Option (List D → Option D)} (o : Std) (ho : o = std) (l : List Nd) (h0 : Sz l) (h1 : l.length ≤ 1048576) : Ans (env xa xb) 93 [rNd o l, .fn 94 []] (rK o (lamsM l)) := by
 refine Ans.mkA ho _ rfl rfl ?_
 repeat' (first
  | (refine .id ?_
     (try (conv => arg 2; cbv))
     first
      | refine .tN1 ho ?_
      | refine .tN0 ho ?_
      | (refine .pE (β := Bool) .bool (as' := [rNd o _]) (impl_NodesOk.ans o ho _ ?_ ?_) ?_; rotate_left 2; rintro (_ | _) hv <;> (try simp only [dE] at hv) <;> (try first | contradiction | exact bX hv))
      | (refine .indF (fun m_ s_ => ∃ (ea5 : Box) (a12 : Int) (a13 : Int) (ta5 : Tok) (tk : List Nat), s_ = ⟨[Jk, .fn 94 [], Jk, Jk, Jk, .sl ta5 1 ea5, Jk, Jk, Jk, Jk, Jk, rNd o l, iX a12, iX a13] ++ List.replicate 13 Jk, [], [], tk⟩ ∧ Lv tk ta5 ea5.length ∧ ea5 = (o.bx fun _ => eK .i64 (filtN (fun i => lamB (rN l i)) a13.toNat)) ∧ (a12 = l.length ∧ 0 ≤ a13 ∧ a13 ≤ l.length) ∧ (l.length - a13).toNat ≤ m_) _ _ ⟨_, _, _, _, _, by subst ho; rfl, ?_, ?_, ?_, Nat.le_refl _⟩ ?_
         rotate_right
         rintro m_ _ ⟨ea5, a12, a13, ta5, tk, rfl, hla0, rfl, hIa, hka⟩ iha
         obtain ⟨i0, i1, i2⟩ := hIa; have hfl := filtN_lenI (fun i => lamB (rN l i)) i2; refine .unloopA ho ?_
         repeat' (first
          | (refine .id ?_
             (try (conv => arg 2; cbv))
             first
              | refine .testT ?_
              | refine .testF ?_
              | (refine .test (fun hr => ?_) (fun hr => ?_) <;> (have hb := hr) <;> (try simp (disch := omega) only [ho, std, wI, lenE, nrm] at hb) <;> (try (exfalso; first | contradiction | omega | exact hb rfl)))
              | (refine .pE (β := Bool) .bool (as' := [.agg [iX _, iX _, iX _, iX _, iX _, .str _, .str _]]) (impl_LambdasOf_1.ans o ho _ _ _ _ _ _ _) ?_; rintro (_ | _) hv <;> (try simp only [dE] at hv) <;> (try first | contradiction | exact bX hv))
              | (refine .fetchXNd ho ?_ ?_ (fun y hy => ?_); rotate_left 2; rcases y with ⟨y0, y1, y2, y3, y4, y5, y6⟩; (first | (have _h := hyn) | (have hyn := hy)))
              | (refine .need ?_ ?_)
              | (refine .app1 ?_ (fun t' tk' hl' => ?_))
              | (refine iha _ _ ?_ ⟨_, _, _, _, _, by subst ho; rfl, ?_, ?_, ?_, Nat.le_refl _⟩)
              | (refine .fin ?_; (conv => lhs; cbv) <;> refine congrArg some ?_))
          | ((fail_if_success (refine .id ?_))
             first
              | (exact Lv.nil)
              | (subst ho; exact hla0)
              | (subst ho; exact ⟨by simp [std, len_eNd], Int.le_refl _, by omega⟩)
              | (subst ho; simp (disch := omega) only [std, wI]; exact pushI (filtN_yes i1 (by rw [hyn]; assumption)))
              | (subst ho; simp (disch := omega) only [std, wI]; exact congrArg (eK .i64) (filtN_no i1 (by rw [hyn]; assumption)).symm)
              | ((try clear iha); subst ho; simp (disch := omega) only [std, wI]; exact ⟨i0, by omega, by omega⟩)
              | (refine congrArg (D.sl Tok.ro 1) ?_; subst ho; refine congrArg (eK .i64) ?_; rw [filtN_all (by omega) i2, lams_yes (by assumption)])
              | assumption
              | omega
              | (subst ho; rfl)
              | (subst ho; simpa [std, lenE] using hl')
              | (subst ho; simp [std, lenE]; omega)
              | (subst ho; simp (disch := omega) only [std, wI, tdiv2, tdivN, lenE] <;> first | done | rfl | omega))))
      | (refine .fin ?_; (conv => lhs; cbv) <;> refine congrArg some ?_))
  | ((fail_if_success (refine .id ?_))
     first
      | (subst ho; rw [lams_no (by assumption)]; rfl)
      | assumption))
theorem impl_LambdasOf.ans {xa xb : Option (List D → Option D)} (o : Std) (ho : o = std) (l : List Nd) (h0 : Sz l) (h1 : l.length ≤ 1048576) : Ans (env xa xb) 50 [rNd o l] (rK o (lamsM l)) := by
 refine Ans.mkA ho _ rfl rfl ?_
 repeat' (first
  | (refine .id ?_
     (try (conv => arg 2; cbv))
     first
      | (refine .pE (β := List Int) (rK o) (as' := [rNd o _, .fn 94 []]) (impl_nodesOf_l.ans o ho _ ?_ ?_) ?_; rotate_left 2; rintro v hv)
      | (refine .fin ?_; (conv => lhs; cbv) <;> refine congrArg some ?_))
  | ((fail_if_success (refine .id ?_))
     first
      | (rw [hv])
      | assumption))
theorem impl_DeadFuns.ans {ga gb : List D → Option D} (o : Std) (ho : o = std) (l : List Nd) (dp : Int) (h0 : PassSpec ga) (h1 : FreeSpec gb) (h2 : Sz l) (h3 : l.length ≤ 1048576) : Ans (env (some ga) (some gb)) 49 [rNd o l, iX dp] (.sl .nw 1 (o.bx fun _ => eK .i64 (dfunsM l dp))) := by
 refine Ans.mkA ho _ rfl rfl ?_
 have hdl := dead_len l dp; have hll := lams_len l
 repeat' (first
  | (refine .id ?_
     (try (conv => arg 2; cbv))
     first
      | (refine .pE (β := List Int) (fun v => .sl .nw 1 (o.bx fun _ => eK .i64 v)) (as' := [rNd o _, iX _]) (impl_DeadNodes.ans o ho _ _ ?_ ?_ ?_ ?_) ?_; rotate_left 4; rintro v hv)
      | (refine .pE (β := List Int) (rK o) (as' := [rNd o _]) (impl_LambdasOf.ans o ho _ ?_ ?_) ?_; rotate_left 2; rintro v hv)
      | (refine .indF (fun m_ s_ => ∃ (a5 : List Int) (ea6 : Box) (a13 : List Int) (a14 : Int) (a15 : Int) (ta5 ta6 ta13 : Tok) (tk : List Nat), s_ = ⟨[rNd o l, Jk, Jk, Jk, Jk, .sl ta5 1 (o.bx fun _ => eK .i64 a5), .sl ta6 1 ea6, Jk, Jk, Jk, Jk, Jk, Jk, .sl ta13 1 (o.bx fun _ => eK .i64 a13), iX a14, iX a15] ++ List.replicate 16 Jk, [], [], tk⟩ ∧ Lw tk ta6 ea6.length ∧ ea6 = (o.bx fun _ => eK .i64 ((a13.take a15.toNat).filter (dfP l dp))) ∧ (a5 = deadM l dp ∧ a13 = lamsM l ∧ a14 = (lamsM l).length ∧ 0 ≤ a15 ∧ a15 ≤ (lamsM l).length) ∧ ((lamsM l).length - a15).toNat ≤ m_) _ _ ⟨_, _, _, _, _, _, _, _, _, by subst ho; rfl, ?_, ?_, ?_, Nat.le_refl _⟩ ?_
         rotate_right
         rintro m_ _ ⟨a5, ea6, a13, a14, a15, ta5, ta6, ta13, tk, rfl, hla0, rfl, hIa, hka⟩ iha
         obtain ⟨rfl, rfl, i0, i1, i2⟩ := hIa; have hfl := filt_len (dfP l dp) (lamsM l) a15.toNat; refine .unloopA ho ?_
         repeat' (first
          | (refine .id ?_
             (try (conv => arg 2; cbv))
             first
              | refine .testT ?_
              | refine .testF ?_
              | (refine .test (fun hr => ?_) (fun hr => ?_) <;> (have hb := hr) <;> (try simp (disch := omega) only [ho, std, wI, lenE, nrm] at hb) <;> (try (exfalso; first | contradiction | omega | exact hb rfl)))
              | (refine .pE (β := Bool) .bool (as' := [rK o _, iX _]) (impl_hasInt.ans o ho _ _ ?_) ?_; rotate_left 1; rintro (_ | _) hv <;> (try simp only [dE] at hv) <;> (try first | contradiction | exact bX hv))
              | (refine .fetchXK ho ?_ ?_ (fun y hy => ?_); rotate_left 2; (first | (have _h := hyk) | (have hyk := hy; have hat := dfun_at i1 (by omega) hyk)))
              | (refine .fetchXNd ho ?_ ?_ (fun y hy => ?_); rotate_left 2; rcases y with ⟨y0, y1, y2, y3, y4, y5, y6⟩; (first | (have _h := hyn) | (have hyn := hy)))
              | (refine .need ?_ ?_)
              | (refine .app1w ?_ (fun t' tk' hl' => ?_))
              | (refine iha _ _ ?_ ⟨_, _, _, _, _, _, _, _, _, by subst ho; rfl, ?_, ?_, ?_, Nat.le_refl _⟩)
              | (refine .fin ?_; (conv => lhs; cbv) <;> refine congrArg some ?_))
          | ((fail_if_success (refine .id ?_))
             first
              | (exact Lw.nil)
              | (subst ho; exact hla0)
              | (subst ho; exact ⟨(by first | (symm; assumption) | rfl), (by first | (symm; assumption) | rfl), by rw [hv]; simp [std, len_eK], Int.le_refl _, by omega⟩)
              | (exact hat.1)
              | (exact hat.2)
              | (subst ho; simp (disch := omega) only [std, wI]; exact pushI (filt_yes i1 (by omega) hyk (dfun_hit hyn (by dsimp only; assumption))))
              | (subst ho; simp (disch := omega) only [std, wI]; exact congrArg (eK .i64) (filt_no i1 (by omega) hyk (dfun_no hyn (by dsimp only; assumption))).symm)
              | ((try clear iha); subst ho; simp (disch := omega) only [std, wI]; exact ⟨by trivial, by trivial, i0, by omega, by omega⟩)
              | (subst ho; rcases Lw.kind hla0 with rfl | ⟨_, rfl⟩ <;> exact congrArg (D.sl Tok.nw 1) (congrArg (eK .i64) (dfun_all (by omega))))
              | assumption
              | omega
              | (subst ho; rfl)
              | (subst ho; simpa [std, lenE] using hl')
              | (subst ho; simp [std, lenE]; omega)
              | (subst ho; simp (disch := omega) only [std, wI, tdiv2, tdivN, lenE] <;> first | done | rfl | omega)))))
  | ((fail_if_success (refine .id ?_))
     first
      | assumption))
end Go.Mach
