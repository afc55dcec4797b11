/- FnExactSolve: the law: part 34 of a proof by an executable machine over the program's code. -/
import Derived.Test.YtbkpkchegopmiaaGreatDoorMb17
import Derived.Test.YtbkpkchegopmiaaGreatDoorMb23
import Derived.Test.YtbkpkchegopmiaaGreatDoorMb32
import Derived.WalkKit
import Derived.ProofKit
section
set_option linter.unusedVariables false
set_option linter.unusedSimpArgs false
namespace Go.Mach
open Go Go.RowKit
def markG {α : Type} (f : Nat → α) (l : List α) (i : Int) : List α := (List.range i.toNat).map f ++ l.drop i.toNat
theorem markG_len {α : Type} {f : Nat → α} {l : List α} {i : Int} (h0 : 0 ≤ i) (h1 : i ≤ l.length) : (markG f l i).length = l.length := by
  unfold markG; rw [List.length_append, List.length_map, List.length_range, List.length_drop]; omega
theorem markG_set {α : Type} (c : α → List D) {f : Nat → α} {l : List α} {i : Int} {x : List D} (h0 : 0 ≤ i) (h1 : i < l.length) (hx : x = c (f i.toNat)) : (List.map c (markG f l i)).set i.toNat x = List.map c (markG f l (i + 1)) := by
  subst hx
  have h2 : i.toNat < l.length := by omega
  unfold markG
  rw [List.map_append, List.set_append, if_neg (by simp), List.drop_eq_getElem_cons h2]
  have h4 : (List.map c (List.map f (List.range i.toNat))).length = i.toNat := by simp
  rw [h4, Nat.sub_self, show (i + 1).toNat = i.toNat + 1 by omega, List.range_succ, List.map_append, List.map_append, List.map_append, List.append_assoc]
  rfl
theorem markG_end {α : Type} {f : Nat → α} {l : List α} {i : Int} (h : l.length ≤ i) (h1 : i ≤ l.length) : markG f l i = (List.range l.length).map f := by
  unfold markG; rw [List.drop_of_length_le (by omega), List.append_nil, show i.toNat = l.length by omega]
theorem markG_zero {α : Type} (f : Nat → α) (l : List α) : markG f l 0 = l := by simp [markG]
theorem range_at {α : Type} {z : α} {f : Nat → α} {n : Nat} {i : Int} (h0 : 0 ≤ i) (h1 : i < n) : rdG z ((List.range n).map f) i = f i.toNat := by
  have h2 : i.toNat < n := by omega
  simp only [rdG, List.getD_eq_getElem?_getD, List.getElem?_map, List.getElem?_range h2, Option.map_some, Option.getD_some]
def fF (k : Int) (j : Nat) : Fc := ⟨k + 6 * (j : Int), k + 6 * (j : Int) + 1, k + 6 * (j : Int) + 2, ⟨k + 6 * (j : Int) + 3, k + 6 * (j : Int) + 4, k + 6 * (j : Int) + 5⟩⟩
def rowF (k : Int) (n : Nat) : List Fc := (List.range n).map (fF k)
theorem rowF_len (k : Int) (n : Nat) : (rowF k n).length = n := by simp [rowF]
theorem markF_set {k : Int} {l : List Fc} {i x0 x1 x2 x3 x4 x5 : Int} (h0 : 0 ≤ i) (h1 : i < l.length) (e0 : x0 = k + 6 * i) (e1 : x1 = k + 6 * i + 1) (e2 : x2 = k + 6 * i + 2) (e3 : x3 = k + 6 * i + 3) (e4 : x4 = k + 6 * i + 4) (e5 : x5 = k + 6 * i + 5) :
    (eFc (markG (fF k) l i)).set i.toNat [.int .i64 x0, .int .i64 x1, .int .i64 x2, .int .i64 x3, .int .i64 x4, .int .i64 x5] = eFc (markG (fF k) l (i + 1)) := by
  refine markG_set cFc h0 h1 ?_
  subst e0 e1 e2 e3 e4 e5
  simp only [cFc, fF, Int.toNat_of_nonneg h0]
theorem rowF_at {k : Int} {n : Nat} {i a b c d e f : Int} (h0 : 0 ≤ i) (h1 : i < n) (h : rF (rowF k n) i = ⟨a, b, c, ⟨d, e, f⟩⟩) : a = k + 6 * i ∧ b = k + 6 * i + 1 ∧ c = k + 6 * i + 2 ∧ d = k + 6 * i + 3 ∧ e = k + 6 * i + 4 ∧ f = k + 6 * i + 5 := by
  have h2 : rF (rowF k n) i = fF k i.toNat := range_at (z := zF) h0 h1
  rw [h2, fF, Int.toNat_of_nonneg h0] at h
  injection h with q0 q1 q2 q3
  injection q3 with q3 q4 q5
  exact ⟨q0.symm, q1.symm, q2.symm, q3.symm, q4.symm, q5.symm⟩
def fE (k : Int) (j : Nat) : Ed := ⟨k + 2 * (j : Int), k + 2 * (j : Int) + 1⟩
def rowE (k : Int) (n : Nat) : List Ed := (List.range n).map (fE k)
theorem rowE_len (k : Int) (n : Nat) : (rowE k n).length = n := by simp [rowE]
end Go.Mach
end
section
set_option linter.unusedVariables false
set_option linter.unusedSimpArgs false
namespace Go.Mach
open Go Go.RowKit Go.Proofs
set_option maxRecDepth 100000
set_option maxHeartbeats 6000000
theorem laws_eqAbs.ans {xa xb : Option (List D → Option D)} (o : Std) (ho : o = std) (a_k : Int) (a_n : Int) (a_c : Int) (b_k : Int) (b_n : Int) (b_c : Int) (h0 : b_k = a_k ∧ b_n = a_n ∧ b_c = a_c) : Ans (env xa xb) 90 [.agg [.int .i64 a_k, .int .i64 a_n, .int .i64 a_c], .agg [.int .i64 b_k, .int .i64 b_n, .int .i64 b_c]] (.bool (true)) := by
  refine Ans.mkA ho _ rfl rfl ?_
  obtain ⟨rfl, rfl, rfl⟩ := h0
  repeat' (first
    | (refine Den.id ?_
       (try (conv => arg 2; cbv))
       first
         | (refine Den.test (fun hr => ?_) (fun hr => ?_) <;> (have hb := hr) <;> (try simp (disch := omega) only [ho, std, wI, len_eK, len_eB, len_eNd, len_eLNd, len_eFc, len_eAb, len_eBd, len_eEd, len_eLBd, Int.ofNat_eq_natCast, Classical.not_not, decide_eq_true_eq, decide_eq_false_iff_not, beq_iff_eq, beq_eq_false_iff_ne, ne_eq, Bool.not_eq_true', Bool.not_eq_false', Bool.not_eq_true, Bool.not_eq_false, gt_iff_lt, ge_iff_le, Int.not_lt, Int.not_le] at hb) <;> (try (exfalso; first | contradiction | omega | exact hb rfl)))
         | (refine Den.done ⟨by first | exact Or.inl rfl | exact Or.inr rfl, ?_⟩; (conv => lhs; cbv) <;> refine congrArg some ?_))
    | ((fail_if_success (refine Den.id ?_))
       first
         | fail))
theorem laws_eqFact.ans {xa xb : Option (List D → Option D)} (o : Std) (ho : o = std) (a_k : Int) (a_n : Int) (a_c : Int) (a_v_k : Int) (a_v_n : Int) (a_v_c : Int) (b_k : Int) (b_n : Int) (b_c : Int) (b_v_k : Int) (b_v_n : Int) (b_v_c : Int) (h0 : b_k = a_k ∧ b_n = a_n ∧ b_c = a_c ∧ b_v_k = a_v_k ∧ b_v_n = a_v_n ∧ b_v_c = a_v_c) : Ans (env xa xb) 67 [.agg [.int .i64 a_k, .int .i64 a_n, .int .i64 a_c, .int .i64 a_v_k, .int .i64 a_v_n, .int .i64 a_v_c], .agg [.int .i64 b_k, .int .i64 b_n, .int .i64 b_c, .int .i64 b_v_k, .int .i64 b_v_n, .int .i64 b_v_c]] (.bool (true)) := by
  refine Ans.mkA ho _ rfl rfl ?_
  obtain ⟨rfl, rfl, rfl, rfl, rfl, rfl⟩ := h0
  repeat' (first
    | (refine Den.id ?_
       (try (conv => arg 2; cbv))
       first
         | refine Den.testN0 ho (by first | with_reducible assumption | with_reducible rfl) ?_
         | (refine Den.test (fun hr => ?_) (fun hr => ?_) <;> (have hb := hr) <;> (try simp (disch := omega) only [ho, std, wI, len_eK, len_eB, len_eNd, len_eLNd, len_eFc, len_eAb, len_eBd, len_eEd, len_eLBd, Int.ofNat_eq_natCast, Classical.not_not, decide_eq_true_eq, decide_eq_false_iff_not, beq_iff_eq, beq_eq_false_iff_ne, ne_eq, Bool.not_eq_true', Bool.not_eq_false', Bool.not_eq_true, Bool.not_eq_false, gt_iff_lt, ge_iff_le, Int.not_lt, Int.not_le] at hb) <;> (try (exfalso; first | contradiction | omega | exact hb rfl)))
         | (refine Den.pcallE (β := Bool) (fun v => .bool v) (as' := [.agg [.int .i64 _, .int .i64 _, .int .i64 _], .agg [.int .i64 _, .int .i64 _, .int .i64 _]]) (by first | with_reducible rfl | (subst ho; rfl)) (laws_eqAbs.ans o ho _ _ _ _ _ _ ?_) ?_; rotate_left 1; rintro (_ | _) hv <;> (try simp only [decide_eq_true_eq, decide_eq_false_iff_not] at hv) <;> (try first | contradiction | exact absurd (hv.symm.trans (show _ = false by assumption)) (by decide) | exact absurd (hv.symm.trans (show _ = true by assumption)) (by decide)))
         | (refine Den.done ⟨by first | exact Or.inl rfl | exact Or.inr rfl, ?_⟩; (conv => lhs; cbv) <;> refine congrArg some ?_))
    | ((fail_if_success (refine Den.id ?_))
       first
         | (exact ⟨rfl, rfl, rfl⟩)))
theorem laws_eqFactS.ans {xa xb : Option (List D → Option D)} (o : Std) (ho : o = std) (a : List Fc) (b : List Fc) (h0 : a = b) (h1 : a.length ≤ 1048576) : Ans (env xa xb) 32 [.sl .ro 6 (o.bx fun _ => eFc a), .sl .ro 6 (o.bx fun _ => eFc b)] (.bool (true)) := by
  refine Ans.mkA ho _ rfl rfl ?_
  subst h0
  repeat' (first
    | (refine Den.id ?_
       (try (conv => arg 2; cbv))
       first
         | (refine Den.test (fun hr => ?_) (fun hr => ?_) <;> (have hb := hr) <;> (try simp (disch := omega) only [ho, std, wI, len_eK, len_eB, len_eNd, len_eLNd, len_eFc, len_eAb, len_eBd, len_eEd, len_eLBd, Int.ofNat_eq_natCast, Classical.not_not, decide_eq_true_eq, decide_eq_false_iff_not, beq_iff_eq, beq_eq_false_iff_ne, ne_eq, Bool.not_eq_true', Bool.not_eq_false', Bool.not_eq_true, Bool.not_eq_false, gt_iff_lt, ge_iff_le, Int.not_lt, Int.not_le] at hb) <;> (try (exfalso; first | contradiction | omega | exact hb rfl)))
         | (refine Den.indF (fun m_ s_ => ∃ (a5 : Int) (tk : List Nat), s_ = ⟨[.sl .ro 6 (o.bx fun _ => eFc a), .sl .ro 6 (o.bx fun _ => eFc a), .junk, .junk, .junk, .int .i64 a5] ++ List.replicate 21 .junk, [], [], tk⟩ ∧ (0 ≤ a5 ∧ a5 ≤ a.length) ∧ (a.length - a5).toNat ≤ m_) _ _ ⟨_, _, by subst ho; rfl, ?_, Nat.le_refl _⟩ ?_
            rotate_right
            rintro m_ _ ⟨a5, tk, rfl, hIa, hka⟩ iha
            obtain ⟨i1, i2⟩ := hIa; refine Den.unloopA ho ?_
            repeat' (first
              | (refine Den.id ?_
                 (try (conv => arg 2; cbv))
                 first
                   | refine Den.testN0 ho (by first | with_reducible assumption | with_reducible rfl) ?_
                   | (refine Den.test (fun hr => ?_) (fun hr => ?_) <;> (have hb := hr) <;> (try simp (disch := omega) only [ho, std, wI, len_eK, len_eB, len_eNd, len_eLNd, len_eFc, len_eAb, len_eBd, len_eEd, len_eLBd, Int.ofNat_eq_natCast, Classical.not_not, decide_eq_true_eq, decide_eq_false_iff_not, beq_iff_eq, beq_eq_false_iff_ne, ne_eq, Bool.not_eq_true', Bool.not_eq_false', Bool.not_eq_true, Bool.not_eq_false, gt_iff_lt, ge_iff_le, Int.not_lt, Int.not_le] at hb) <;> (try (exfalso; first | contradiction | omega | exact hb rfl)))
                   | (refine Den.pcallE (β := Bool) (fun v => .bool v) (as' := [.agg [.int .i64 _, .int .i64 _, .int .i64 _, .int .i64 _, .int .i64 _, .int .i64 _], .agg [.int .i64 _, .int .i64 _, .int .i64 _, .int .i64 _, .int .i64 _, .int .i64 _]]) (by first | with_reducible rfl | (subst ho; rfl)) (laws_eqFact.ans o ho _ _ _ _ _ _ _ _ _ _ _ _ ?_) ?_; rotate_left 1; rintro (_ | _) hv <;> (try simp only [decide_eq_true_eq, decide_eq_false_iff_not] at hv) <;> (try first | contradiction | exact absurd (hv.symm.trans (show _ = false by assumption)) (by decide) | exact absurd (hv.symm.trans (show _ = true by assumption)) (by decide)))
                   | (refine Den.fetchYFc ho ?_ ?_ (by with_reducible assumption) ?_)
                   | (refine Den.fetchXFc ho ?_ ?_ (fun y hy => ?_); rotate_left 2; rcases y with ⟨yk, yn, yc, yvk, yvn, yvc⟩)
                   | (refine Den.needD ho (by kernel_rfl) ?_)
                   | (refine iha _ _ ?_ ⟨_, _, by subst ho; rfl, ?_, Nat.le_refl _⟩)
                   | (refine Den.done ⟨by first | exact Or.inl rfl | exact Or.inr rfl, ?_⟩; (conv => lhs; cbv) <;> refine congrArg some ?_))
              | ((fail_if_success (refine Den.id ?_))
                 first
                   | (exact ⟨rfl, rfl, rfl, rfl, rfl, rfl⟩)
                   | (simp (disch := omega) only [ho, std, wI]; exact ⟨by omega, by omega⟩)
                   | assumption
                   | omega
                   | (subst ho; simp (disch := omega) only [std, wI, tdiv2, tdivN, len_eFc, len_eNd, len_eBd, len_eAb, len_eLBd, len_eK, len_eB] <;> first | done | rfl | omega)))))
    | ((fail_if_success (refine Den.id ?_))
       first
         | fail))
theorem laws_markFactS_0.ans {xa xb : Option (List D → Option D)} (o : Std) (ho : o = std) (a : List Fc) (k : Int) (h0 : a.length = 0) : Ans (env xa xb) 33 [.sl .ro 6 (o.bx fun _ => eFc a), .int .i64 k] (.int .i64 (k)) := by
  refine Ans.mkA ho _ rfl rfl ?_
  repeat' (first
    | (refine Den.id ?_
       (try (conv => arg 2; cbv))
       first
         | (refine Den.indF (fun m_ s_ => ∃ (a1 : Int) (a5 : Int) (tk : List Nat), s_ = ⟨[.sl .ro 6 (o.bx fun _ => eFc a), .int .i64 a1, .junk, .junk, .junk, .int .i64 a5] ++ List.replicate 52 .junk, [], [], tk⟩ ∧ (a1 = k ∧ a5 = 0) ∧ (0 : Nat) ≤ m_) _ _ ⟨_, _, _, by subst ho; rfl, ?_, Nat.le_refl _⟩ ?_
            rotate_right
            rintro m_ _ ⟨a1, a5, tk, rfl, hIa, hka⟩ iha
            obtain ⟨i1, i2⟩ := hIa; refine Den.unloopA ho ?_
            repeat' (first
              | (refine Den.id ?_
                 (try (conv => arg 2; cbv))
                 first
                   | (refine Den.test (fun hr => ?_) (fun hr => ?_) <;> (have hb := hr) <;> (try simp (disch := omega) only [ho, std, wI, len_eK, len_eB, len_eNd, len_eLNd, len_eFc, len_eAb, len_eBd, len_eEd, len_eLBd, Int.ofNat_eq_natCast, Classical.not_not, decide_eq_true_eq, decide_eq_false_iff_not, beq_iff_eq, beq_eq_false_iff_ne, ne_eq, Bool.not_eq_true', Bool.not_eq_false', Bool.not_eq_true, Bool.not_eq_false, gt_iff_lt, ge_iff_le, Int.not_lt, Int.not_le] at hb) <;> (try (exfalso; first | contradiction | omega | exact hb rfl)))
                   | (refine Den.done ⟨by first | exact Or.inl rfl | exact Or.inr rfl, ?_⟩; (conv => lhs; cbv) <;> refine congrArg some ?_))
              | ((fail_if_success (refine Den.id ?_))
                 first
                   | omega
                   | (subst ho; simp [std, len_eFc, len_eNd, len_eBd, len_eAb, len_eLBd, len_eK, len_eB]; omega)))))
    | ((fail_if_success (refine Den.id ?_))
       first
         | fail))
theorem laws_markFactS.mark {xa xb : Option (List D → Option D)} (o : Std) (ho : o = std) (k : Int) (l : List Fc) (n : Nat) (h0 : n = l.length) (h1 : l.length ≤ 1048576) (h2 : 0 ≤ k ∧ k ≤ 1) : Gns (env xa xb) 33 [.asl (.out 0) 6 n, .int .i64 k] [(o.bx fun _ => eFc l)] [] (fun ds_ out_ _ _ => ds_ = [.int .i64 (k + 6 * n)] ∧ ∃ bx_, out_ = [bx_] ∧ (bx_ = (o.bx fun _ => eFc (rowF k n)))) := by
  refine Gns.mkA (E := env xa xb) (f := 33) ho _ (by rfl) (by rfl) ?_
  repeat' (first
    | (refine Den.id ?_
       (try (conv => arg 2; cbv))
       first
         | (refine Den.indF (fun m_ s_ => ∃ (a1 : Int) (a5 : Int) (tk : List Nat) (bq : Box), s_ = ⟨[.asl (.out 0) 6 n, .int .i64 a1, .junk, .junk, .junk, .int .i64 a5] ++ List.replicate 52 .junk, [], [bq], tk⟩ ∧ (bq = (o.bx fun _ => eFc (markG (fF k) l a5)) ∧ 0 ≤ a5 ∧ a5 ≤ n ∧ a1 = k + 6 * a5) ∧ (n - a5).toNat ≤ m_) _ _ ⟨_, _, _, _, by subst ho; rfl, ?_, Nat.le_refl _⟩ ?_
            rotate_right
            rintro m_ _ ⟨a1, a5, tk, bq, rfl, hIa, hka⟩ iha
            obtain ⟨rfl, i1, i2, i3⟩ := hIa; have hml := markG_len (f := fF k) (l := l) i1 (by omega); refine Den.unloopA ho ?_
            repeat' (first
              | (refine Den.id ?_
                 (try (conv => arg 2; cbv))
                 first
                   | (refine Den.test (fun hr => ?_) (fun hr => ?_) <;> (have hb := hr) <;> (try simp (disch := omega) only [ho, std, wI, len_eK, len_eB, len_eNd, len_eLNd, len_eFc, len_eAb, len_eBd, len_eEd, len_eLBd, Int.ofNat_eq_natCast, Classical.not_not, decide_eq_true_eq, decide_eq_false_iff_not, beq_iff_eq, beq_eq_false_iff_ne, ne_eq, Bool.not_eq_true', Bool.not_eq_false', Bool.not_eq_true, Bool.not_eq_false, gt_iff_lt, ge_iff_le, Int.not_lt, Int.not_le] at hb) <;> (try (exfalso; first | contradiction | omega | exact hb rfl)))
                   | (refine Den.fetchS ho ?_ ?_ ?_)
                   | (refine Den.fetchYFc ho ?_ ?_ (by with_reducible assumption) ?_)
                   | (refine Den.fetchXFc ho ?_ ?_ (fun y hy => ?_); rotate_left 2; rcases y with ⟨yk, yn, yc, yvk, yvn, yvc⟩)
                   | (refine iha _ _ ?_ ⟨_, _, _, _, by subst ho; rfl, ?_, Nat.le_refl _⟩)
                   | (refine Den.done ⟨by first | exact Or.inl rfl | exact Or.inr rfl, ?_⟩; refine ⟨_, by (conv => lhs; cbv) <;> rfl, ?_, _, by rfl, ?_⟩))
              | ((fail_if_success (refine Den.id ?_))
                 first
                   | (subst ho; exact ⟨congrArg eFc (markG_zero _ l).symm, Int.le_refl _, by omega, by omega⟩)
                   | (refine congrArg (fun x => [D.int .i64 x]) ?_; omega)
                   | (subst ho; refine congrArg eFc ?_; rw [h0]; exact markG_end (by omega) (by omega))
                   | (subst ho; simp only [len_setAt]; simp only [std, len_eFc]; omega)
                   | ((try clear iha); subst ho; simp (disch := omega) only [std, wI, List.set_set]; exact ⟨markF_set i1 (by omega) (by omega) (by omega) (by omega) (by omega) (by omega) (by omega), by omega, by omega, by omega⟩)
                   | assumption
                   | omega
                   | (subst ho; simp [std, len_eFc, len_eNd, len_eBd, len_eAb, len_eLBd, len_eK, len_eB]; omega)
                   | (subst ho; simp (disch := omega) only [std, wI, tdiv2, tdivN, len_eFc, len_eNd, len_eBd, len_eAb, len_eLBd, len_eK, len_eB] <;> first | done | rfl | omega)))))
    | ((fail_if_success (refine Den.id ?_))
       first
         | fail))
theorem laws_heldFactS.ans {xa xb : Option (List D → Option D)} (o : Std) (ho : o = std) (a : List Fc) (k : Int) (h0 : a = rowF k a.length) (h1 : a.length ≤ 1048576) (h2 : 0 ≤ k ∧ k ≤ 1) : Ans (env xa xb) 34 [.sl .ro 6 (o.bx fun _ => eFc a), .int .i64 k] (.int .i64 (k + 6 * a.length)) := by
  refine Ans.mkA ho _ rfl rfl ?_
  repeat' (first
    | (refine Den.id ?_
       (try (conv => arg 2; cbv))
       first
         | (refine Den.indF (fun m_ s_ => ∃ (a1 : Int) (a5 : Int) (tk : List Nat), s_ = ⟨[.sl .ro 6 (o.bx fun _ => eFc a), .int .i64 a1, .junk, .junk, .junk, .int .i64 a5] ++ List.replicate 64 .junk, [], [], tk⟩ ∧ (0 ≤ a5 ∧ a5 ≤ a.length ∧ a1 = k + 6 * a5) ∧ (a.length - a5).toNat ≤ m_) _ _ ⟨_, _, _, by subst ho; rfl, ?_, Nat.le_refl _⟩ ?_
            rotate_right
            rintro m_ _ ⟨a1, a5, tk, rfl, hIa, hka⟩ iha
            obtain ⟨i1, i2, i3⟩ := hIa; refine Den.unloopA ho ?_
            repeat' (first
              | (refine Den.id ?_
                 (try (conv => arg 2; cbv))
                 first
                   | (refine Den.test (fun hr => ?_) (fun hr => ?_) <;> (have hb := hr) <;> (try simp (disch := omega) only [ho, std, wI, len_eK, len_eB, len_eNd, len_eLNd, len_eFc, len_eAb, len_eBd, len_eEd, len_eLBd, Int.ofNat_eq_natCast, Classical.not_not, decide_eq_true_eq, decide_eq_false_iff_not, beq_iff_eq, beq_eq_false_iff_ne, ne_eq, Bool.not_eq_true', Bool.not_eq_false', Bool.not_eq_true, Bool.not_eq_false, gt_iff_lt, ge_iff_le, Int.not_lt, Int.not_le] at hb) <;> (try (exfalso; first | contradiction | omega | exact hb rfl)))
                   | (refine Den.fetchYFc ho ?_ ?_ (by with_reducible assumption) ?_)
                   | (refine Den.fetchXFc ho ?_ ?_ (fun y hy => ?_); rotate_left 2; rcases y with ⟨yk, yn, yc, yvk, yvn, yvc⟩; (have hyq := rowF_at i1 (by omega) (h0 ▸ hy); obtain ⟨q0, q1, q2, q3, q4, q5⟩ := hyq))
                   | (refine iha _ _ ?_ ⟨_, _, _, by subst ho; rfl, ?_, Nat.le_refl _⟩)
                   | (refine Den.done ⟨by first | exact Or.inl rfl | exact Or.inr rfl, ?_⟩; (conv => lhs; cbv) <;> refine congrArg some ?_))
              | ((fail_if_success (refine Den.id ?_))
                 first
                   | (subst ho; exact ⟨Int.le_refl _, by omega, by omega⟩)
                   | ((try clear iha); simp (disch := omega) only [ho, std, wI]; exact ⟨by omega, by omega, by omega⟩)
                   | (refine dI ?_; omega)
                   | assumption
                   | (subst ho; simp (disch := omega) only [std, wI, tdiv2, tdivN, len_eFc, len_eNd, len_eBd, len_eAb, len_eLBd, len_eK, len_eB] <;> first | done | rfl | omega)))))
    | ((fail_if_success (refine Den.id ?_))
       first
         | fail))
end Go.Mach
end
section
set_option linter.unusedVariables false
set_option linter.unusedSimpArgs false
namespace Go.Mach
open Go Go.RowKit Go.Proofs
section
variable {P : Program} {E : Env} {f : FuncId} {w : World} {z : Nat} {es : Box} {t : Tok} {b : Bool} {da : List D}
theorem tup_inv {σ : Nat → Nat} {v : Value} (h : RD σ w (.tup [.sl t z es, .bool b]) v) : ∃ v1, v = .tuple #[v1, .bool b] ∧ RD σ w (.sl t z es) v1 := by
  cases h with
  | tup _ vs hl hc h =>
    obtain ⟨l⟩ := vs
    match l, hl, h with
    | [v1, v2], _, h =>
      have h0 := h 0 (by simp)
      have h1 := h 1 (by simp)
      have e1 : v2 = .bool b := by
        generalize hd : ([D.sl t z es, D.bool b].getD 1 .junk) = d at h1
        have hd2 : d = .bool b := hd.symm
        subst hd2
        generalize hv : (Array.getD ⟨[v1, v2]⟩ 1 undef) = y at h1
        have hv2 : y = v2 := hv.symm
        subst hv2
        cases h1; rfl
      subst e1
      exact ⟨v1, rfl, h0⟩
theorem rowB_calls (hE : EnvOk P E) (h : Ans E f da (.tup [.sl t z es, .bool b])) (hf : Flt z es) {vs : Array Value} (hl : vs.size = da.length) (hr : ∀ i, i < da.length → Arg w (da.getD i .junk) (vs.getD i undef)) :
    Calls P f vs w fun e w' => ∃ v, e = .returned (.tuple #[v, .bool b]) ∧ Row 0 w'.heap.size w' z es v ∧ Stay w w' := by
  refine (data_calls hE h hl hr).mono ?_
  rintro e w' ⟨v, σ', rfl, h1, _, h3, h4⟩
  obtain ⟨v1, rfl, h5⟩ := tup_inv h1
  exact ⟨v1, rfl, .of_rd h5 hf h4 (fun _ _ _ _ _ => Nat.zero_le _), h3⟩
theorem newB_calls (hE : EnvOk P E) (h : Ans E f da (.tup [.sl .nw z es, .bool b])) (hf : Flt z es) {vs : Array Value} (hl : vs.size = da.length) (hr : ∀ i, i < da.length → Arg w (da.getD i .junk) (vs.getD i undef)) :
    Calls P f vs w fun e w' => ∃ v, e = .returned (.tuple #[v, .bool b]) ∧ Row w.heap.size w'.heap.size w' z es v ∧ Unf w' z es v ∧ Stay w w' := by
  refine (data_calls hE h hl hr).mono ?_
  rintro e w' ⟨v, σ', rfl, h1, h2, h3, h4⟩
  obtain ⟨v1, rfl, h5⟩ := tup_inv h1
  have h6 : NewR w.heap.size σ' w' z es v1 := h2 0 z es rfl
  exact ⟨v1, rfl, .of_rd h5 hf h4 (fun b o l c hv => (h6 b o l c hv).1), fun b o l c hv j hj => ((h6 b o l c hv).2 j hj).2, h3⟩
end
theorem flt_eFc (l : List Fc) : Flt 6 (eFc l) := ⟨by decide, fun e he => by
  simp only [eFc, List.mem_map] at he; obtain ⟨x, _, rfl⟩ := he
  refine ⟨rfl, fun c hc => ?_⟩
  simp only [cFc, List.mem_cons, List.not_mem_nil, or_false] at hc
  rcases hc with rfl | rfl | rfl | rfl | rfl | rfl <;> rfl⟩
variable {w : World} {lo hi lo' hi' : Nat} {v v' : Value} {l : List Fc}
theorem k_eqF (hl : l.length ≤ 1048576) (hv : Row lo hi w 6 (eFc l) v) (hh : hi ≤ w.heap.size) (hv' : Row lo' hi' w 6 (eFc l) v') (hh' : hi' ≤ w.heap.size) : Calls Tryz.prog 32 #[v, v'] w fun e w' => e = .returned (.bool true) ∧ Stay w w' :=
  bool_calls env_okA (laws_eqFactS.ans (xa := some gPass) (xb := some gFree) std rfl l l rfl hl) rfl (args2 (.row hv hh (flt_eFc l)) (.row hv' hh' (flt_eFc l)))
theorem k_markF (hl : l.length ≤ 1048576) (hv : Row lo hi w 6 (eFc l) v) (hu : Unf w 6 (eFc l) v) (hh : hi ≤ w.heap.size) : Calls Tryz.prog 33 #[v, .int .i64 1] w fun e w' => ∃ k, e = .returned (.int .i64 k) ∧ k = 1 + 6 * l.length ∧ Row lo hi w' 6 (eFc (rowF 1 l.length)) v ∧ Mark lo hi w w' := by
  have hlk : (eFc l).length = l.length := len_eFc l
  refine (mark_calls env_okA (k := 1) (kr := 1 + 6 * l.length) (R := fun bx => bx = eFc (rowF 1 l.length)) (laws_markFactS_0.ans (xa := some gPass) (xb := some gFree) std rfl [] 1 rfl) (fun he => ?_) (fun _ => ?_) (flt_eFc l) ?_ hv hu hh).mono ?_
  · have : l.length = 0 := by rw [← hlk, he]; rfl
    exact ⟨by omega, by rw [this]; rfl⟩
  · rw [hlk]
    exact laws_markFactS.mark (xa := some gPass) (xb := some gFree) std rfl 1 l l.length rfl (by omega) (by decide)
  · rintro bx rfl
    exact ⟨flt_eFc _, by rw [len_eFc, hlk, rowF_len]⟩
  · rintro e w' ⟨bx, rfl, rfl, hr, hm⟩
    exact ⟨_, rfl, rfl, hr, hm⟩
theorem k_heldF {n : Nat} (hn : n ≤ 1048576) (hv : Row lo hi w 6 (eFc (rowF 1 n)) v) (hh : hi ≤ w.heap.size) : Calls Tryz.prog 34 #[v, .int .i64 1] w fun e w' => ∃ k, e = .returned (.int .i64 k) ∧ k = 1 + 6 * n ∧ Stay w w' := by
  have hl := rowF_len 1 n
  refine (int_calls env_okA (laws_heldFactS.ans (xa := some gPass) (xb := some gFree) std rfl (rowF 1 n) 1 (by rw [hl]) (by omega) (by decide)) rfl (args2 (.row hv hh (flt_eFc _)) .int)).mono ?_
  rintro e w' ⟨rfl, hs⟩
  exact ⟨_, rfl, by rw [hl], hs⟩
end Go.Mach
end
section
set_option linter.unusedVariables false
set_option linter.unusedSimpArgs false
namespace Go.Mach
open Go Go.RowKit Go.Proofs
set_option maxRecDepth 100000
set_option maxHeartbeats 4000000
theorem k7_spec {w : World} {lo hi : Nat} {v : Value} {a : List Nd} {dp : Int} (hz : SzL a) (hh : hi ≤ w.heap.size) (hv : Row lo hi w 7 (eNd a) v) : Calls Tryz.prog 30 #[v, .int .i64 dp] w fun e w' => ∃ v', e = .returned (.tuple #[v', .bool (solveR a dp).2]) ∧ Row 0 w'.heap.size w' 6 (eFc ((solveR a dp).1)) v' ∧ Stay w w' :=
  rowB_calls env_okA (spec_Solve.ans (xa := some gPass) (xb := some gFree) std rfl a dp hz.sz (by have := hz.1; omega)) (flt_eFc _) rfl (args2 (.row hv hh (flt_eNd a)) .int)
theorem k7_impl {w : World} {lo hi : Nat} {v : Value} {a : List Nd} {dp : Int} (hz : SzL a) (hh : hi ≤ w.heap.size) (hv : Row lo hi w 7 (eNd a) v) : Calls Tryz.prog 31 #[v, .int .i64 dp] w fun e w' => ∃ v', e = .returned (.tuple #[v', .bool (solveR a dp).2]) ∧ Row w.heap.size w'.heap.size w' 6 (eFc ((solveR a dp).1)) v' ∧ Unf w' 6 (eFc ((solveR a dp).1)) v' ∧ Stay w w' :=
  newB_calls env_okA (impl_Solve.ans std rfl a dp pass_spec free_spec hz.sz (by have := hz.1; omega)) (flt_eFc _) rfl (args2 (.row hv hh (flt_eNd a)) .int)
theorem law7_calls {W : World} {a : List Nd} {dp : Int} {v : Value} (hB : Bg a) (h0 : Row 0 W.heap.size W 7 (eNd a) v) : Calls Tryz.prog 7 #[v, .int .i64 dp] W fun e w => e = .returned (.bool true) ∧ Below W.heap.size W w := by
  have hn : Tryz.f7.ntmps = 101 := by kernel_rfl
  have e15 : ∀ args w, (callFunc 15 args).run Tryz.prog w = .ok (.enter 15 args) w := enters_of Tryz.func15 (by kernel_rfl) rfl
  have e17 : ∀ args w, (callFunc 17 args).run Tryz.prog w = .ok (.enter 17 args) w := enters_of Tryz.func17 (by kernel_rfl) rfl
  have e19 : ∀ args w, (callFunc 19 args).run Tryz.prog w = .ok (.enter 19 args) w := enters_of Tryz.func19 (by kernel_rfl) rfl
  have e23 : ∀ args w, (callFunc 23 args).run Tryz.prog w = .ok (.enter 23 args) w := enters_of Tryz.func23 (by kernel_rfl) rfl
  have e30 : ∀ args w, (callFunc 30 args).run Tryz.prog w = .ok (.enter 30 args) w := enters_of Tryz.func30 (by kernel_rfl) rfl
  have e31 : ∀ args w, (callFunc 31 args).run Tryz.prog w = .ok (.enter 31 args) w := enters_of Tryz.func31 (by kernel_rfl) rfl
  have e32 : ∀ args w, (callFunc 32 args).run Tryz.prog w = .ok (.enter 32 args) w := enters_of Tryz.func32 (by kernel_rfl) rfl
  have e33 : ∀ args w, (callFunc 33 args).run Tryz.prog w = .ok (.enter 33 args) w := enters_of Tryz.func33 (by kernel_rfl) rfl
  have e34 : ∀ args w, (callFunc 34 args).run Tryz.prog w = .ok (.enter 34 args) w := enters_of Tryz.func34 (by kernel_rfl) rfl
  have t3 := Tryz.underlying3; have t4 := Tryz.underlying4
  go_enter Tryz.func7, hn
  go_wp2_with (go_at_fn 15; refine (k_sz hB h0 (Nat.le_refl _)).mono ?_; rintro e w1 ⟨r, rfl, hsz, s1⟩)
  · go_ret
    exact ⟨rfl, s1.1⟩
  have hz : SzL a := hsz (by omega)
  have hlen : ((solveR a dp).1).length ≤ 1048576 := Nat.le_trans (solveR_all a dp).1 (by decide)
  have b1 : Below W.heap.size W w1 := s1.1
  have h1 := h0.stay (Nat.le_refl _) s1
  go_wp2_with (go_at_fn 17; refine (k_to hz h1 b1.size).mono ?_; rintro e w2 ⟨u1, rfl, hu1, _, s2⟩)
  have h2 := h1.stay b1.size s2; have b2 := b1.trans (s2.1.mono b1.size)
  go_wp2_with (go_at_fn 30; refine (k7_spec hz (Nat.le_refl _) hu1).mono ?_; rintro e w3 ⟨u2, rfl, hw3, s3⟩)
  have h3 := h2.stay b2.size s3; have b3 := b2.trans (s3.1.mono b2.size)
  go_wp2_with (go_at_fn 17; refine (k_to hz h3 b3.size).mono ?_; rintro e w4 ⟨u3, rfl, hx4, ux4, s4⟩)
  have q4 := s4.1.size; have h4 := h3.stay b3.size s4; have b4 := b3.trans (s4.1.mono b3.size); have hw4 := hw3.stay (Nat.le_refl _) s4
  go_wp2_with (go_at_fn 31; refine (k7_impl hz (Nat.le_refl _) hx4).mono ?_; rintro e w5 ⟨u4, rfl, hg5, ug5, s5⟩)
  have q5 := s5.1.size; have h5 := h4.stay b4.size s5; have b5 := b4.trans (s5.1.mono b4.size); have hw5 := hw4.stay q4 s5; have hx5 := hx4.stay (Nat.le_refl _) s5; have ux5 := ux4.stay hx4 (Nat.le_refl _) s5
  go_wp2_with (go_at_fn 32; refine (k_eqF hlen hg5 (Nat.le_refl _) hw5 (by omega)).mono ?_; rintro e w6 ⟨rfl, s6⟩)
  have q6 := s6.1.size; have h6 := h5.stay b5.size s6; have b6 := b5.trans (s6.1.mono b5.size); have hw6 := hw5.stay (by omega) s6; have hx6 := hx5.stay q5 s6; have ux6 := ux5.stay hx5 q5 s6; have hg6 := hg5.stay (Nat.le_refl _) s6; have ug6 := ug5.stay hg5 (Nat.le_refl _) s6
  go_wp2_with (go_at_fn 17; refine (k_to hz h6 b6.size).mono ?_; rintro e w7 ⟨u5, rfl, hy7, _, s7⟩)
  have q7 := s7.1.size; have h7 := h6.stay b6.size s7; have b7 := b6.trans (s7.1.mono b6.size); have hw7 := hw6.stay (by omega) s7; have hx7 := hx6.stay (by omega) s7; have ux7 := ux6.stay hx6 (by omega) s7; have hg7 := hg6.stay (by omega) s7; have ug7 := ug6.stay hg6 (by omega) s7
  go_wp2_with (go_at_fn 19; refine (k_eqN hz hx7 (by omega) hy7 (Nat.le_refl _)).mono ?_; rintro e w8 ⟨rfl, s8⟩)
  have q8 := s8.1.size; have h8 := h7.stay b7.size s8; have b8 := b7.trans (s8.1.mono b7.size); have hw8 := hw7.stay (by omega) s8; have hx8 := hx7.stay (by omega) s8; have ux8 := ux7.stay hx7 (by omega) s8; have hg8 := hg7.stay (by omega) s8; have ug8 := ug7.stay hg7 (by omega) s8
  have b3s := b3.size; have b8s := b8.size
  go_wp2_with (go_at_fn 23; refine (k_markN hz hx8 ux8 (by omega)).mono ?_; rintro e w9 ⟨k1, rfl, hk1, m9⟩)
  have q9 := m9.2.2.2.1; have h9 := h8.mark b8s m9 (.inl b3s); have b9 := b8.trans (m9.below b3s b8s); have hw9 := hw8.mark (by omega) m9 (.inl (Nat.le_refl _)); have hg9 := hg8.mark (by omega) m9 (.inr (Nat.le_refl _)); have ug9 := ug8.mark hg8 (by omega) m9 (.inr (Nat.le_refl _))
  have hk1n : ¬ k1 < 0 := by omega
  have hk1d : decide (k1 < 0) = false := decide_eq_false hk1n
  go_wp2_with (go_at_fn 32; refine (k_eqF hlen hg9 (by omega) hw9 (by omega)).mono ?_; rintro e w10 ⟨rfl, s10⟩)
  have q10 := s10.1.size; have h10 := h9.stay b9.size s10; have b10 := b9.trans (s10.1.mono b9.size); have hw10 := hw9.stay (by omega) s10; have hg10 := hg9.stay (by omega) s10; have ug10 := ug9.stay hg9 (by omega) s10; have b10s := b10.size
  go_wp2_with (go_at_fn 33; refine (k_markF hlen hg10 ug10 (by omega)).mono ?_; rintro e w11 ⟨k2, rfl, hk2, hg11, m11⟩)
  have q11 := m11.2.2.2.1; have h11 := h10.mark b10s m11 (.inl (by omega)); have b11 := b10.trans (m11.below (by omega) b10s); have hw11 := hw10.mark (by omega) m11 (.inl (by omega))
  have hk2n : ¬ k2 < 0 := by omega
  have hk2d : decide (k2 < 0) = false := decide_eq_false hk2n
  go_wp2_with (go_at_fn 34; refine (k_heldF hlen hg11 (by omega)).mono ?_; rintro e w12 ⟨k3, rfl, hk3, s12⟩)
  obtain rfl : k3 = k2 := hk3.trans hk2.symm
  have q12 := s12.1.size; have h12 := h11.stay b11.size s12; have b12 := b11.trans (s12.1.mono b11.size); have hw12 := hw11.stay (by omega) s12; have hg12 := hg11.stay (by omega) s12
  go_wp2_with (go_at_fn 17; refine (k_to hz h12 b12.size).mono ?_; rintro e w13 ⟨u6, rfl, hu13, _, s13⟩)
  have q13 := s13.1.size; have b13 := b12.trans (s13.1.mono b12.size); have hw13 := hw12.stay (by omega) s13; have hg13 := hg12.stay (by omega) s13
  go_wp2_with (go_at_fn 31; refine (k7_impl hz (Nat.le_refl _) hu13).mono ?_; rintro e w14 ⟨u7, rfl, hh14, _, s14⟩)
  have q14 := s14.1.size; have b14 := b13.trans (s14.1.mono b13.size); have hw14 := hw13.stay (by omega) s14; have hg14 := hg13.stay (by omega) s14
  go_wp2_with (go_at_fn 32; refine (k_eqF hlen hh14 (Nat.le_refl _) hw14 (by omega)).mono ?_; rintro e w15 ⟨rfl, s15⟩)
  have q15 := s15.1.size; have b15 := b14.trans (s15.1.mono b14.size); have hg15 := hg14.stay (by omega) s15
  go_wp2_with (go_at_fn 34; refine (k_heldF hlen hg15 (by omega)).mono ?_; rintro e w16 ⟨k4, rfl, hk4, s16⟩)
  obtain rfl : k4 = k3 := hk4.trans hk2.symm
  have b16 := b15.trans (s16.1.mono b15.size)
  go_ret
  exact ⟨rfl, b16⟩
end Go.Mach
end
