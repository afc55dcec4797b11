/- What the statements share: part 23 of a proof by an executable machine over the program's code. -/
import Derived.Test.YtljpfhpcbfpooaaGreatDoorMc22
import Derived.Shelf.SlGeneric
import Derived.Shelf.SlSortCmp.NoneTotal
import Derived.Ground.SlsfProg
import Derived.Test.YtljpfhpcbfpooaaGreatDoorProg
import Derived.Laws.StructEq
set_option linter.unusedVariables false
set_option linter.unusedSimpArgs false
set_option maxRecDepth 100000
set_option maxHeartbeats 6000000
namespace Go.Mach
open Go Go.RowKit Go.Proofs
theorem laws_eqIntS.ans {xa xb : Option (List D → Option D)} (o : Std) (ho : o = std) (a : List Int) (b : List Int) (h0 : a = b) (h1 : a.length ≤ 1048576) : Ans (env xa xb) 42 [rK o a, rK o b] (.bool (true)) := by
 refine Ans.mkA ho _ rfl rfl ?_
 subst h0
 repeat' (first
  | (refine .id ?_
     (try (conv => arg 2; cbv))
     first
      | (refine .test (fun hr => ?_) (fun hr => ?_) <;> (have hb := hr) <;> (try simp (disch := omega) only [ho, std, wI, lenE, Int.ofNat_eq_natCast, nrm] at hb) <;> (try (exfalso; first | contradiction | omega | exact hb rfl)))
      | (refine .indF (fun m_ s_ => ∃ (a5 : Int) (tk : List Nat), s_ = ⟨[rK o a, rK o a, Jk, Jk, Jk, iX a5] ++ List.replicate 20 Jk, [], [], tk⟩ ∧ (0 ≤ a5 ∧ a5 ≤ a.length) ∧ (a.length - a5).toNat ≤ m_) _ _ ⟨_, _, by subst ho; rfl, ?_, Nat.le_refl _⟩ ?_
         rotate_right
         rintro m_ _ ⟨a5, tk, rfl, hIa, hka⟩ iha
         obtain ⟨i1, i2⟩ := hIa; refine .unloopA ho ?_
         repeat' (first
          | (refine .id ?_
             (try (conv => arg 2; cbv))
             first
              | (refine .test (fun hr => ?_) (fun hr => ?_) <;> (have hb := hr) <;> (try simp (disch := omega) only [ho, std, wI, lenE, Int.ofNat_eq_natCast, nrm] at hb) <;> (try (exfalso; first | contradiction | omega | exact hb rfl)))
              | (refine .fetchYK ho ?_ ?_ (by with_reducible assumption) ?_)
              | (refine .fetchXK ho ?_ ?_ (fun y hy => ?_); rotate_left 2)
              | (refine .needD ho (by kernel_rfl) ?_)
              | (refine iha _ _ ?_ ⟨_, _, by subst ho; rfl, ?_, Nat.le_refl _⟩)
              | (refine .fin ?_; (conv => lhs; cbv) <;> refine congrArg some ?_))
          | ((fail_if_success (refine .id ?_))
             first
              | assumption
              | omega
              | (subst ho; simp (disch := omega) only [std, wI, tdiv2, tdivN, lenE] <;> first | done | rfl | omega)))))
  | ((fail_if_success (refine .id ?_))
     first
      | fail))
theorem laws_heldIntS.ans {xa xb : Option (List D → Option D)} (o : Std) (ho : o = std) (a : List Int) (k : Int) (h0 : a = rowI k a.length) (h1 : a.length ≤ 1048576) (h2 : 0 ≤ k ∧ k ≤ 1) : Ans (env xa xb) 46 [rK o a, iX k] (iX (k + a.length)) := by
 refine Ans.mkA ho _ rfl rfl ?_
 repeat' (first
  | (refine .id ?_
     (try (conv => arg 2; cbv))
     first
      | (refine .indF (fun m_ s_ => ∃ (a1 : Int) (a5 : Int) (tk : List Nat), s_ = ⟨[rK o a, iX a1, Jk, Jk, Jk, iX a5] ++ List.replicate 15 Jk, [], [], tk⟩ ∧ (0 ≤ a5 ∧ a5 ≤ a.length ∧ a1 = k + a5) ∧ (a.length - a5).toNat ≤ m_) _ _ ⟨_, _, _, by subst ho; rfl, ?_, Nat.le_refl _⟩ ?_
         rotate_right
         rintro m_ _ ⟨a1, a5, tk, rfl, hIa, hka⟩ iha
         obtain ⟨i1, i2, i3⟩ := hIa; refine .unloopA ho ?_
         repeat' (first
          | (refine .id ?_
             (try (conv => arg 2; cbv))
             first
              | (refine .test (fun hr => ?_) (fun hr => ?_) <;> (have hb := hr) <;> (try simp (disch := omega) only [ho, std, wI, lenE, Int.ofNat_eq_natCast, nrm] at hb) <;> (try (exfalso; first | contradiction | omega | exact hb rfl)))
              | (refine .fetchXK ho ?_ ?_ (fun y hy => ?_); rotate_left 2; (rw [h0, rowI_at i1 (by omega)] at hy))
              | (refine iha _ _ ?_ ⟨_, _, _, by subst ho; rfl, ?_, Nat.le_refl _⟩)
              | (refine .fin ?_; (conv => lhs; cbv) <;> refine congrArg some ?_))
          | ((fail_if_success (refine .id ?_))
             first
              | (subst ho; exact ⟨Int.le_refl _, by omega, by omega⟩)
              | ((try clear iha); simp (disch := omega) only [ho, std, wI]; exact ⟨by omega, by omega, by omega⟩)
              | (refine dI ?_; omega)
              | assumption
              | (subst ho; simp (disch := omega) only [std, wI, tdiv2, tdivN, lenE] <;> first | done | rfl | omega)))))
  | ((fail_if_success (refine .id ?_))
     first
      | fail))
theorem laws_markText.ans {xa xb : Option (List D → Option D)} (o : Std) (ho : o = std) (k : Int) (h0 : 0 ≤ k ∧ k ≤ 100000000) : AnsP (env xa xb) 90 [iX k] (fun d_ => ∃ (r : ByteArray), d_ = .str (r) ∧ (True)) := by
 refine AnsP.mkA ho _ rfl rfl ?_
 repeat' (first
  | (refine .id ?_
     (try (conv => arg 2; cbv))
     first
      | (refine .test (fun hr => ?_) (fun hr => ?_) <;> (have hb := hr) <;> (try simp (disch := omega) only [ho, std, wI, lenE, Int.ofNat_eq_natCast, nrm] at hb) <;> (try (exfalso; first | contradiction | omega | exact hb rfl)))
      | (refine .indF (fun m_ s_ => ∃ (a0 : Int) (a3 : ByteArray) (tk : List Nat), s_ = ⟨[iX a0, Jk, Jk, .str a3] ++ List.replicate 16 Jk, [], [], tk⟩ ∧ (0 ≤ a0 ∧ (a3.size : Int) + a0 ≤ k) ∧ a0.toNat ≤ m_) _ _ ⟨_, _, _, by subst ho; rfl, ?_, Nat.le_refl _⟩ ?_
         rotate_right
         rintro m_ _ ⟨a0, a3, tk, rfl, hIa, hka⟩ iha
         obtain ⟨i1, i2⟩ := hIa; refine .unloopA ho ?_
         repeat' (first
          | (refine .id ?_
             (try (conv => arg 2; cbv))
             first
              | (refine .test (fun hr => ?_) (fun hr => ?_) <;> (have hb := hr) <;> (try simp (disch := omega) only [ho, std, wI, lenE, Int.ofNat_eq_natCast, nrm] at hb) <;> (try (exfalso; first | contradiction | omega | exact hb rfl)))
              | (refine .need ?_ ?_)
              | (refine iha _ _ ?_ ⟨_, _, _, by subst ho; rfl, ?_, Nat.le_refl _⟩)
              | (refine .fin ?_; refine ⟨_, by (conv => lhs; cbv) <;> rfl, ?_⟩))
          | ((fail_if_success (refine .id ?_))
             first
              | (exact ⟨_, rfl, trivial⟩)
              | (exact mt_ok ho (n := 100000000) (by omega) (by omega))
              | (exact mt_ok1 ho (n := 100000000) (by omega) (by omega))
              | (subst ho; exact ⟨(mt_step (x := 0) (show 0 < a0 by omega) i2 h0.2).1, (mt_step (show 0 < a0 by omega) i2 h0.2).2.1⟩)
              | (exact ⟨h0.1, by have : (⟨⟨[]⟩⟩ : ByteArray).size = 0 := rfl; omega⟩)
              | (subst ho; rfl)
              | (subst ho; simp (disch := omega) only [std, wI, tdiv2, tdivN, lenE] <;> first | done | rfl | omega))))
      | (refine .fin ?_; refine ⟨_, by (conv => lhs; cbv) <;> rfl, ?_⟩))
  | ((fail_if_success (refine .id ?_))
     first
      | (exact ⟨_, rfl, trivial⟩)))
theorem laws_markIntS_0.ans {xa xb : Option (List D → Option D)} (o : Std) (ho : o = std) (a : List Int) (k : Int) (h0 : a.length = 0) : Ans (env xa xb) 45 [rK o a, iX k] (iX (k)) := by
 refine Ans.mkA ho _ rfl rfl ?_
 repeat' (first
  | (refine .id ?_
     (try (conv => arg 2; cbv))
     first
      | (refine .indF (fun m_ s_ => ∃ (a1 : Int) (a5 : Int) (tk : List Nat), s_ = ⟨[rK o a, iX a1, Jk, Jk, Jk, iX a5] ++ List.replicate 13 Jk, [], [], tk⟩ ∧ (a1 = k ∧ a5 = 0) ∧ (0 : Nat) ≤ m_) _ _ ⟨_, _, _, by subst ho; rfl, ?_, Nat.le_refl _⟩ ?_
         rotate_right
         rintro m_ _ ⟨a1, a5, tk, rfl, hIa, hka⟩ iha
         obtain ⟨i1, i2⟩ := hIa; refine .unloopA ho ?_
         repeat' (first
          | (refine .id ?_
             (try (conv => arg 2; cbv))
             first
              | (refine .test (fun hr => ?_) (fun hr => ?_) <;> (have hb := hr) <;> (try simp (disch := omega) only [ho, std, wI, lenE, Int.ofNat_eq_natCast, nrm] at hb) <;> (try (exfalso; first | contradiction | omega | exact hb rfl)))
              | (refine .fin ?_; (conv => lhs; cbv) <;> refine congrArg some ?_))
          | ((fail_if_success (refine .id ?_))
             first
              | omega
              | (subst ho; simp [std, lenE]; omega)))))
  | ((fail_if_success (refine .id ?_))
     first
      | fail))
theorem laws_markIntS.mark {xa xb : Option (List D → Option D)} (o : Std) (ho : o = std) (k : Int) (l : List Int) (n : Nat) (h0 : n = l.length) (h1 : l.length ≤ 1048576) (h2 : 0 ≤ k ∧ k ≤ 1) : Gns (env xa xb) 45 [.asl (.out 0) 1 n, iX k] [(o.bx fun _ => eK .i64 l)] [] (fun ds_ out_ _ _ => ds_ = [iX (k + n)] ∧ ∃ bx_, out_ = [bx_] ∧ (bx_ = (o.bx fun _ => eK .i64 (rowI k n)))) := by
 refine Gns.mkA (E := env xa xb) (f := 45) ho _ (by rfl) (by rfl) ?_
 repeat' (first
  | (refine .id ?_
     (try (conv => arg 2; cbv))
     first
      | (refine .indF (fun m_ s_ => ∃ (a1 : Int) (a5 : Int) (tk : List Nat) (bq : Box), s_ = ⟨[.asl (.out 0) 1 n, iX a1, Jk, Jk, Jk, iX a5] ++ List.replicate 13 Jk, [], [bq], tk⟩ ∧ (bq = (o.bx fun _ => eK .i64 (markO l k a5)) ∧ 0 ≤ a5 ∧ a5 ≤ n ∧ a1 = k + a5) ∧ (n - a5).toNat ≤ m_) _ _ ⟨_, _, _, _, by subst ho; rfl, ?_, Nat.le_refl _⟩ ?_
         rotate_right
         rintro m_ _ ⟨a1, a5, tk, bq, rfl, hIa, hka⟩ iha
         obtain ⟨rfl, i1, i2, i3⟩ := hIa; have hml := markO_len (l := l) (k := k) i1 (by omega); refine .unloopA ho ?_
         repeat' (first
          | (refine .id ?_
             (try (conv => arg 2; cbv))
             first
              | (refine .test (fun hr => ?_) (fun hr => ?_) <;> (have hb := hr) <;> (try simp (disch := omega) only [ho, std, wI, lenE, Int.ofNat_eq_natCast, nrm] at hb) <;> (try (exfalso; first | contradiction | omega | exact hb rfl)))
              | (refine .fetchYK ho ?_ ?_ (by with_reducible assumption) ?_)
              | (refine .fetchXK ho ?_ ?_ (fun y hy => ?_); rotate_left 2)
              | (refine iha _ _ ?_ ⟨_, _, _, _, by subst ho; rfl, ?_, Nat.le_refl _⟩)
              | (refine .fin ?_; refine ⟨_, by (conv => lhs; cbv) <;> rfl, ?_, _, by rfl, ?_⟩))
          | ((fail_if_success (refine .id ?_))
             first
              | (subst ho; exact ⟨congrArg (eK .i64) (markO_zero l k).symm, Int.le_refl _, by omega, by omega⟩)
              | (refine congrArg (fun x => [D.int .i64 x]) ?_; omega)
              | (subst ho; refine congrArg (eK .i64) ?_; rw [h0]; exact markO_end (by omega) (by omega))
              | ((try clear iha); subst ho; simp (disch := omega) only [std, wI]; exact ⟨markO_set i1 (by omega) i3, by omega, by omega, by omega⟩)
              | assumption
              | omega
              | (subst ho; simp (disch := omega) only [std, wI, tdiv2, tdivN, lenE] <;> first | done | rfl | omega)))))
  | ((fail_if_success (refine .id ?_))
     first
      | fail))
theorem laws_markNodeS_0.ans {xa xb : Option (List D → Option D)} (o : Std) (ho : o = std) (a : List Nd) (k : Int) (h0 : a.length = 0) : Ans (env xa xb) 44 [rNd o a, iX k] (iX (k)) := by
 refine Ans.mkA ho _ rfl rfl ?_
 repeat' (first
  | (refine .id ?_
     (try (conv => arg 2; cbv))
     first
      | (refine .indF (fun m_ s_ => ∃ (a1 : Int) (a5 : Int) (tk : List Nat), s_ = ⟨[rNd o a, iX a1, Jk, Jk, Jk, iX a5] ++ List.replicate 58 Jk, [], [], tk⟩ ∧ (a1 = k ∧ a5 = 0) ∧ (0 : Nat) ≤ m_) _ _ ⟨_, _, _, by subst ho; rfl, ?_, Nat.le_refl _⟩ ?_
         rotate_right
         rintro m_ _ ⟨a1, a5, tk, rfl, hIa, hka⟩ iha
         obtain ⟨i1, i2⟩ := hIa; refine .unloopA ho ?_
         repeat' (first
          | (refine .id ?_
             (try (conv => arg 2; cbv))
             first
              | (refine .test (fun hr => ?_) (fun hr => ?_) <;> (have hb := hr) <;> (try simp (disch := omega) only [ho, std, wI, lenE, Int.ofNat_eq_natCast, nrm] at hb) <;> (try (exfalso; first | contradiction | omega | exact hb rfl)))
              | (refine .fin ?_; (conv => lhs; cbv) <;> refine congrArg some ?_))
          | ((fail_if_success (refine .id ?_))
             first
              | omega
              | (subst ho; simp [std, lenE]; omega)))))
  | ((fail_if_success (refine .id ?_))
     first
      | fail))
theorem laws_markNodeS.mark {xa xb : Option (List D → Option D)} (o : Std) (ho : o = std) (k : Int) (l : List Nd) (n : Nat) (h0 : n = l.length) (h1 : l.length ≤ 1048576) (h2 : 0 ≤ k ∧ k ≤ 1) : Gns (env xa xb) 44 [.asl (.out 0) 7 n, iX k] [(o.bx fun _ => eNd l)] [] (fun ds_ out_ _ _ => ds_ = [iX (k + 7 * n)] ∧ ∃ bx_, out_ = [bx_] ∧ (∃ m : List Nd, bx_ = (o.bx fun _ => eNd m) ∧ m.length = n)) := by
 refine Gns.mkA (E := env xa xb) (f := 44) ho _ (by rfl) (by rfl) ?_
 repeat' (first
  | (refine .id ?_
     (try (conv => arg 2; cbv))
     first
      | (refine .indF (fun m_ s_ => ∃ (a1 : Int) (a5 : Int) (tk : List Nat) (bq : Box), s_ = ⟨[.asl (.out 0) 7 n, iX a1, Jk, Jk, Jk, iX a5] ++ List.replicate 58 Jk, [], [bq], tk⟩ ∧ ((∃ mm : List Nd, bq = (o.bx fun _ => eNd mm) ∧ mm.length = n) ∧ 0 ≤ a5 ∧ a5 ≤ n ∧ a1 = k + 7 * a5) ∧ (n - a5).toNat ≤ m_) _ _ ⟨_, _, _, _, by subst ho; rfl, ?_, Nat.le_refl _⟩ ?_
         rotate_right
         rintro m_ _ ⟨a1, a5, tk, bq, rfl, hIa, hka⟩ iha
         obtain ⟨⟨mm, rfl, hml⟩, i1, i2, i3⟩ := hIa; refine .unloopA ho ?_
         repeat' (first
          | (refine .id ?_
             (try (conv => arg 2; cbv))
             first
              | (refine .test (fun hr => ?_) (fun hr => ?_) <;> (have hb := hr) <;> (try simp (disch := omega) only [ho, std, wI, lenE, Int.ofNat_eq_natCast, nrm] at hb) <;> (try (exfalso; first | contradiction | omega | exact hb rfl)))
              | (refine .fetchS ho ?_ ?_ ?_)
              | (refine .pP (as' := [iX _]) (laws_markText.ans o ho _ ?_) ?_; rotate_left 1; rintro _ ⟨r, rfl, hv⟩)
              | (refine .fetchYNd ho ?_ ?_ (by with_reducible assumption) ?_)
              | (refine .fetchXNd ho ?_ ?_ (fun y hy => ?_); rotate_left 2; rcases y with ⟨y0, y1, y2, y3, y4, y5, y6⟩)
              | (refine iha _ _ ?_ ⟨_, _, _, _, by subst ho; rfl, ?_, Nat.le_refl _⟩)
              | (refine .fin ?_; refine ⟨_, by (conv => lhs; cbv) <;> rfl, ?_, _, by rfl, ?_⟩))
          | ((fail_if_success (refine .id ?_))
             first
              | (subst ho; exact ⟨⟨l, rfl, h0.symm⟩, Int.le_refl _, by omega, by omega⟩)
              | (refine congrArg (fun x => [D.int .i64 x]) ?_; omega)
              | (exact ⟨mm, rfl, hml⟩)
              | (subst ho; simp only [len_setAt]; simp only [std, len_eNd]; omega)
              | ((try clear iha); subst ho; simp (disch := omega) only [std, wI, List.set_set, setNd]; exact ⟨⟨_, rfl, by rw [List.length_set]; exact hml⟩, by omega, by omega, by omega⟩)
              | assumption
              | omega
              | (subst ho; simp [std, lenE]; omega)
              | (subst ho; simp (disch := omega) only [std, wI, tdiv2, tdivN, lenE] <;> first | done | rfl | omega)))))
  | ((fail_if_success (refine .id ?_))
     first
      | fail))
end Go.Mach
namespace Go.Proofs
open Go.Shelf
def Tryz.sortFc_ren : Go.Shelf.Ren := ⟨fun | 6 => 156 | 15 => 141 | 14 => 209 | 28 => 178 | 29 => 179 | 20 => 240 | 21 => 241 | 22 => 242 | 23 => 243 | 24 => 244 | 25 => 245 | 26 => 246 | 27 => 247 | 46 => 260 | 47 => 253 | 48 => 254 | 49 => 261 | 50 => 262 | 57 => 268 | n => n, fun | 22 => 28 | 24 => 34 | 25 => 164 | 3 => 3 | 39 => 139 | 0 => 0 | 53 => 174 | 55 => 176 | 4 => 4 | 46 => 220 | 45 => 219 | 50 => 183 | 5 => 5 | 9 => 9 | 66 => 241 | 70 => 215 | 76 => 249 | 77 => 238 | n => n, fun | n => n⟩
theorem Tryz.sortFc : Go.Proofs.SlLaysF0.n6 Tryz.prog Tryz.sortFc_ren := {
 mixed := by kernel_rfl
 f6 := ⟨Tryz.f156.name, by decide, Tryz.func156.trans (congrArg some (by kernel_rfl))⟩
 f14 := ⟨Tryz.f209.name, by decide, Tryz.func209.trans (congrArg some (by kernel_rfl))⟩
 f15 := Tryz.func141.trans (congrArg some (by kernel_rfl))
 f20 := ⟨Tryz.f240.name, by decide, Tryz.func240.trans (congrArg some (by kernel_rfl))⟩
 f21 := ⟨Tryz.f241.name, by decide, Tryz.func241.trans (congrArg some (by kernel_rfl))⟩
 f22 := ⟨Tryz.f242.name, by decide, Tryz.func242.trans (congrArg some (by kernel_rfl))⟩
 f23 := ⟨Tryz.f243.name, by decide, Tryz.func243.trans (congrArg some (by kernel_rfl))⟩
 f24 := ⟨Tryz.f244.name, by decide, Tryz.func244.trans (congrArg some (by kernel_rfl))⟩
 f25 := ⟨Tryz.f245.name, by decide, Tryz.func245.trans (congrArg some (by kernel_rfl))⟩
 f26 := ⟨Tryz.f246.name, by decide, Tryz.func246.trans (congrArg some (by kernel_rfl))⟩
 f27 := ⟨Tryz.f247.name, by decide, Tryz.func247.trans (congrArg some (by kernel_rfl))⟩
 f28 := Tryz.func178.trans (congrArg some (by kernel_rfl))
 f29 := Tryz.func179.trans (congrArg some (by kernel_rfl))
 f46 := ⟨Tryz.f260.name, by decide, Tryz.func260.trans (congrArg some (by kernel_rfl))⟩
 f47 := Tryz.func253.trans (congrArg some (by kernel_rfl))
 f48 := Tryz.func254.trans (congrArg some (by kernel_rfl))
 f49 := ⟨Tryz.f261.name, by decide, Tryz.func261.trans (congrArg some (by kernel_rfl))⟩
 f50 := ⟨Tryz.f262.name, by decide, Tryz.func262.trans (congrArg some (by kernel_rfl))⟩
 f57 := ⟨Tryz.f268.name, by decide, Tryz.func268.trans (congrArg some (by kernel_rfl))⟩
 t0 := Tryz.underlying0
 a0 := Tryz.isAgg0
 z0 := Tryz.sizeOf0
 v0 := Tryz.zeroValue0
 t3 := Tryz.underlying3
 a3 := Tryz.isAgg3
 z3 := Tryz.sizeOf3
 v3 := Tryz.zeroValue3
 t4 := Tryz.underlying4
 a4 := Tryz.isAgg4
 z4 := Tryz.sizeOf4
 v4 := Tryz.zeroValue4
 t5 := Tryz.underlying5
 a5 := Tryz.isAgg5
 z5 := Tryz.sizeOf5
 v5 := Tryz.zeroValue5
 t9 := Tryz.underlying9
 a9 := Tryz.isAgg9
 z9 := Tryz.sizeOf9
 v9 := Tryz.zeroValue9
 t22 := Tryz.underlying28
 a22 := Tryz.isAgg28
 z22 := Tryz.sizeOf28
 v22 := Tryz.zeroValue28
 t25 := Tryz.underlying164
 a25 := Tryz.isAgg164
 z25 := Tryz.sizeOf164
 v25 := Tryz.zeroValue164
 t39 := Tryz.underlying139
 a39 := Tryz.isAgg139
 z39 := Tryz.sizeOf139
 v39 := Tryz.zeroValue139
 t45 := Tryz.underlying219
 a45 := Tryz.isAgg219
 z45 := Tryz.sizeOf219
 v45 := Tryz.zeroValue219
 t46 := Tryz.underlying220
 a46 := Tryz.isAgg220
 z46 := Tryz.sizeOf220
 v46 := Tryz.zeroValue220
 t50 := Tryz.underlying183
 a50 := Tryz.isAgg183
 z50 := Tryz.sizeOf183
 v50 := Tryz.zeroValue183
 t53 := Tryz.underlying174
 a53 := Tryz.isAgg174
 z53 := Tryz.sizeOf174
 v53 := Tryz.zeroValue174
 t55 := Tryz.underlying176
 a55 := Tryz.isAgg176
 z55 := Tryz.sizeOf176
 v55 := Tryz.zeroValue176
 t66 := Tryz.underlying241
 a66 := Tryz.isAgg241
 z66 := Tryz.sizeOf241
 v66 := Tryz.zeroValue241
 t70 := Tryz.underlying215
 a70 := Tryz.isAgg215
 z70 := Tryz.sizeOf215
 v70 := Tryz.zeroValue215
 t76 := Tryz.underlying249
 a76 := Tryz.isAgg249
 z76 := Tryz.sizeOf249
 v76 := Tryz.zeroValue249
 t77 := Tryz.underlying238
 a77 := Tryz.isAgg238
 z77 := Tryz.sizeOf238
 v77 := Tryz.zeroValue238 }
end Go.Proofs
namespace Go.Mach
open Go Go.RowKit Go.Proofs
def zeroChk : List D → List Value → Bool
 | [], [] => true
 | .int k n :: l, .int k' n' :: m => decide (k = k') && (decide (n = n') && zeroChk l m)
 | .bool a :: l, .bool b :: m => (a == b) && zeroChk l m
 | .str a :: l, .string b :: m => a.data.toList.isEmpty && (b.data.toList.isEmpty && zeroChk l m)
 | .sl .nil _ [] :: l, .slice none 0 0 :: m => zeroChk l m
 | .pnil :: l, .pointer none :: m => zeroChk l m
 | _, _ => false
theorem empty_ba {a : ByteArray} (h : a.data.toList.isEmpty = true) : a = ⟨#[]⟩ := by
 obtain ⟨⟨l⟩⟩ := a
 cases l with
 | nil => rfl
 | cons x l => cases h
theorem zero_cons {d : D} {v : Value} {l : List D} {m : List Value} (hd : d.cell = true) (hr : ∀ σ w, RD σ w d v) (h : m.length = l.length ∧ ∀ i, i < l.length → (l.getD i .junk).cell = true ∧ ∀ σ w, RD σ w (l.getD i .junk) (m.getD i undef)) :
  (v :: m).length = (d :: l).length ∧ ∀ i, i < (d :: l).length → ((d :: l).getD i .junk).cell = true ∧ ∀ σ w, RD σ w ((d :: l).getD i .junk) ((v :: m).getD i undef) := by
 refine ⟨by simp [h.1], fun i hi => ?_⟩
 cases i with
 | zero => exact ⟨hd, hr⟩
 | succ i => exact h.2 i (by simpa using hi)
theorem zeroChk_ok : ∀ (l : List D) (m : List Value), zeroChk l m = true → m.length = l.length ∧ ∀ i, i < l.length → (l.getD i .junk).cell = true ∧ ∀ σ w, RD σ w (l.getD i .junk) (m.getD i undef) := by
 intro l m h
 induction l, m using zeroChk.induct with
 | case1 => exact ⟨rfl, fun i hi => by simp at hi⟩
 | case2 k n l k' n' m ih =>
   simp only [zeroChk, Bool.and_eq_true, decide_eq_true_eq] at h
   obtain ⟨rfl, rfl, h⟩ := h
   exact zero_cons rfl (fun σ w => .int _ _) (ih h)
 | case3 a l b m ih =>
   simp only [zeroChk, Bool.and_eq_true, beq_iff_eq] at h
   obtain ⟨rfl, h⟩ := h
   exact zero_cons rfl (fun σ w => .bool _) (ih h)
 | case4 a l b m ih =>
   simp only [zeroChk, Bool.and_eq_true] at h
   obtain ⟨h1, h2, h⟩ := h
   rw [empty_ba h1, empty_ba h2]
   exact zero_cons rfl (fun σ w => .str _) (ih h)
 | case5 z l m ih => exact zero_cons rfl (fun σ w => .slN _ _) (ih (by simpa [zeroChk] using h))
 | case6 l m ih => exact zero_cons rfl (fun σ w => .pnil) (ih (by simpa [zeroChk] using h))
 | case7 l m => simp [zeroChk] at h
def kChk (P : Program) (t : TypeId) (k : Mach.K) : Bool :=
 match k, P.underlying t with
 | .bool, some .bool => true
 | .int k, some (.int k') => decide (k = k')
 | .str, some .string => true
 | .ptr e, some (.pointer e') => decide (e' = e)
 | .sl e z b, some (.slice e') => decide (e' = e) && (decide (0 < z) && (match P.info? e with
   | some ie => match ie.zero with
     | some zv => decide (ie.size = z) && (decide (ie.bytes = b) && decide (zv.cells.size = z))
     | none => false
   | none => false))
 | .st fs, some (.struct gs) => decide (gs.size = fs.length) && (List.range fs.length).all fun n => match fs[n]?, gs[n]? with
   | some (o, z, ag), some f => match P.underlying f.type, P.info? f.type with
     | some d, some fi => decide (f.offset = o) && ((d.isRow == ag) && decide (fi.size = z))
     | _, _ => false
   | _, _ => false
 | .other, _ => true
 | _, _ => false
def iChk (P : Program) (t : TypeId) (i : TyI) : Bool :=
 match P.info? t with
 | some ie => match ie.zero with
   | some zv => decide (ie.size = i.size) && zeroChk i.zero zv.cells.toList
   | none => false
 | none => false
theorem tyChk_ok {P : Program} {t : TypeId} {i : TyI} (hk : kChk P t i.k = true) (hi : iChk P t i = true) : TyOk P t i := by
 unfold kChk at hk
 refine ⟨fun e => ?_, fun k e => ?_, fun e => ?_, fun x e => ?_, fun x z b e => ?_, fun fs e => ?_, fun _ => ?_⟩
 · rw [e] at hk
   split at hk <;> first | contradiction | assumption
 · rw [e] at hk
   split at hk <;> first | contradiction | (rename_i h1 h2; cases h1; simp only [decide_eq_true_eq] at hk; rw [hk]; assumption)
 · rw [e] at hk
   split at hk <;> first | contradiction | assumption
 · rw [e] at hk
   split at hk <;> first | contradiction | (rename_i h1 h2; cases h1; simp only [decide_eq_true_eq] at hk; rw [← hk]; assumption)
 · rw [e] at hk
   split at hk <;> first
    | contradiction
    | (rename_i h1 h2
       cases h1
       simp only [Bool.and_eq_true, decide_eq_true_eq] at hk
       obtain ⟨q1, q2, q3⟩ := hk
       split at q3
       · rename_i ie hie
         split at q3
         · rename_i zv hzv
           simp only [Bool.and_eq_true, decide_eq_true_eq] at q3
           exact ⟨by rw [← q1]; assumption, q2, ie, zv, hie, q3.1, q3.2.1, hzv, q3.2.2⟩
         · cases q3
       · cases q3)
 · rw [e] at hk
   split at hk <;> first
    | contradiction
    | (rename_i gs h1 h2
       cases h1
       simp only [Bool.and_eq_true, decide_eq_true_eq] at hk
       refine ⟨gs, by assumption, hk.1, fun n o z ag hf => ?_⟩
       have hn := (List.getElem?_eq_some_iff.1 hf).1
       have := List.all_eq_true.1 hk.2 n (List.mem_range.2 hn)
       rw [hf] at this
       split at this
       · rename_i o' z' ag' f q1 q2
         cases q1
         split at this
         · rename_i d fi q3 q4
           simp only [Bool.and_eq_true, decide_eq_true_eq, beq_iff_eq] at this
           exact ⟨f, d, q2, this.1, q3, by rw [this.2.1], fi, q4, this.2.2⟩
         · cases this
       · cases this)
 · unfold iChk at hi
   split at hi
   · rename_i ie hie
     split at hi
     · rename_i zv hzv
       simp only [Bool.and_eq_true, decide_eq_true_eq] at hi
       have hz := zeroChk_ok _ _ hi.2
       refine ⟨ie, zv, hie, hi.1, hzv, by rw [← hz.1, Array.length_toList], fun j hj => ?_⟩
       have := hz.2 j hj
       refine ⟨this.1, fun σ w => ?_⟩
       have h2 := this.2 σ w
       have e : zv.cells.toList.getD j undef = zv.cells.getD j undef := by simp [List.getD_eq_getElem?_getD, Array.getD_eq_getD_getElem?]
       rw [e] at h2; exact h2
     · cases hi
   · cases hi
theorem tyOther {P : Program} {t : TypeId} : TyOk P t ⟨.other, 0, 0, [], false⟩ :=
 ⟨fun e => (by cases e), fun k e => (by cases e), fun e => (by cases e), fun x e => (by cases e), fun x z b e => (by cases e), fun fs e => (by cases e), fun h => absurd rfl h⟩
theorem ty_ok : ∀ t, TyOk Tryz.prog t (ty t) := by
 intro t
 unfold ty
 split <;> first | exact tyOther | exact tyChk_ok (by kernel_rfl) (by kernel_rfl)
theorem FnOk.of {P : Program} {n : FuncId} {f : Func} {kp : Nat → List Nat} {b q r : Bool} (h : P.funcs[n]? = some f) (hb : f.body.isSome = true) (hn : decide (f.name = "runtime.NumGoroutine") = false) : FnOk P n (fni f kp b q r) :=
 ⟨f, h, by obtain ⟨c, hc⟩ := Option.isSome_iff_exists.1 hb; simp [fni, bodyOf, hc], rfl, by simp [fni], of_decide_eq_false hn⟩
theorem fnOk0 (f : FuncId) (fi : FnI) (h : fnT0 f = some fi) : FnOk Tryz.prog f fi := by
 unfold fnT0 at h
 split at h
 · cases h; exact FnOk.of Tryz.func3 (by kernel_rfl) (by kernel_rfl)
 · cases h; exact FnOk.of Tryz.func4 (by kernel_rfl) (by kernel_rfl)
 · cases h; exact FnOk.of Tryz.func5 (by kernel_rfl) (by kernel_rfl)
 · cases h; exact FnOk.of Tryz.func6 (by kernel_rfl) (by kernel_rfl)
 · cases h; exact FnOk.of Tryz.func7 (by kernel_rfl) (by kernel_rfl)
 · cases h; exact FnOk.of Tryz.func8 (by kernel_rfl) (by kernel_rfl)
 · cases h; exact FnOk.of Tryz.func9 (by kernel_rfl) (by kernel_rfl)
 · cases h; exact FnOk.of Tryz.func10 (by kernel_rfl) (by kernel_rfl)
 · cases h; exact FnOk.of Tryz.func11 (by kernel_rfl) (by kernel_rfl)
 · cases h; exact FnOk.of Tryz.func12 (by kernel_rfl) (by kernel_rfl)
 · cases h; exact FnOk.of Tryz.func13 (by kernel_rfl) (by kernel_rfl)
 · cases h; exact FnOk.of Tryz.func14 (by kernel_rfl) (by kernel_rfl)
 · cases h; exact FnOk.of Tryz.func15 (by kernel_rfl) (by kernel_rfl)
 · cases h; exact FnOk.of Tryz.func16 (by kernel_rfl) (by kernel_rfl)
 · cases h; exact FnOk.of Tryz.func17 (by kernel_rfl) (by kernel_rfl)
 · cases h; exact FnOk.of Tryz.func18 (by kernel_rfl) (by kernel_rfl)
 · cases h; exact FnOk.of Tryz.func20 (by kernel_rfl) (by kernel_rfl)
 · cases h; exact FnOk.of Tryz.func21 (by kernel_rfl) (by kernel_rfl)
 · cases h; exact FnOk.of Tryz.func22 (by kernel_rfl) (by kernel_rfl)
 · cases h; exact FnOk.of Tryz.func23 (by kernel_rfl) (by kernel_rfl)
 · cases h
theorem fnOk1 (f : FuncId) (fi : FnI) (h : fnT1 f = some fi) : FnOk Tryz.prog f fi := by
 unfold fnT1 at h
 split at h
 · cases h; exact FnOk.of Tryz.func24 (by kernel_rfl) (by kernel_rfl)
 · cases h; exact FnOk.of Tryz.func25 (by kernel_rfl) (by kernel_rfl)
 · cases h; exact FnOk.of Tryz.func26 (by kernel_rfl) (by kernel_rfl)
 · cases h; exact FnOk.of Tryz.func27 (by kernel_rfl) (by kernel_rfl)
 · cases h; exact FnOk.of Tryz.func28 (by kernel_rfl) (by kernel_rfl)
 · cases h; exact FnOk.of Tryz.func29 (by kernel_rfl) (by kernel_rfl)
 · cases h; exact FnOk.of Tryz.func30 (by kernel_rfl) (by kernel_rfl)
 · cases h; exact FnOk.of Tryz.func31 (by kernel_rfl) (by kernel_rfl)
 · cases h; exact FnOk.of Tryz.func32 (by kernel_rfl) (by kernel_rfl)
 · cases h; exact FnOk.of Tryz.func33 (by kernel_rfl) (by kernel_rfl)
 · cases h; exact FnOk.of Tryz.func34 (by kernel_rfl) (by kernel_rfl)
 · cases h; exact FnOk.of Tryz.func35 (by kernel_rfl) (by kernel_rfl)
 · cases h; exact FnOk.of Tryz.func36 (by kernel_rfl) (by kernel_rfl)
 · cases h; exact FnOk.of Tryz.func37 (by kernel_rfl) (by kernel_rfl)
 · cases h; exact FnOk.of Tryz.func38 (by kernel_rfl) (by kernel_rfl)
 · cases h; exact FnOk.of Tryz.func39 (by kernel_rfl) (by kernel_rfl)
 · cases h; exact FnOk.of Tryz.func40 (by kernel_rfl) (by kernel_rfl)
 · cases h; exact FnOk.of Tryz.func41 (by kernel_rfl) (by kernel_rfl)
 · cases h; exact FnOk.of Tryz.func42 (by kernel_rfl) (by kernel_rfl)
 · cases h; exact FnOk.of Tryz.func43 (by kernel_rfl) (by kernel_rfl)
 · cases h; exact FnOk.of Tryz.func44 (by kernel_rfl) (by kernel_rfl)
 · cases h; exact FnOk.of Tryz.func45 (by kernel_rfl) (by kernel_rfl)
 · cases h; exact FnOk.of Tryz.func46 (by kernel_rfl) (by kernel_rfl)
 · cases h; exact FnOk.of Tryz.func47 (by kernel_rfl) (by kernel_rfl)
 · cases h
theorem fnOk2 (f : FuncId) (fi : FnI) (h : fnT2 f = some fi) : FnOk Tryz.prog f fi := by
 unfold fnT2 at h
 split at h
 · cases h; exact FnOk.of Tryz.func48 (by kernel_rfl) (by kernel_rfl)
 · cases h; exact FnOk.of Tryz.func49 (by kernel_rfl) (by kernel_rfl)
 · cases h; exact FnOk.of Tryz.func50 (by kernel_rfl) (by kernel_rfl)
 · cases h; exact FnOk.of Tryz.func51 (by kernel_rfl) (by kernel_rfl)
 · cases h; exact FnOk.of Tryz.func52 (by kernel_rfl) (by kernel_rfl)
 · cases h; exact FnOk.of Tryz.func53 (by kernel_rfl) (by kernel_rfl)
 · cases h; exact FnOk.of Tryz.func54 (by kernel_rfl) (by kernel_rfl)
 · cases h; exact FnOk.of Tryz.func55 (by kernel_rfl) (by kernel_rfl)
 · cases h; exact FnOk.of Tryz.func56 (by kernel_rfl) (by kernel_rfl)
 · cases h; exact FnOk.of Tryz.func57 (by kernel_rfl) (by kernel_rfl)
 · cases h; exact FnOk.of Tryz.func58 (by kernel_rfl) (by kernel_rfl)
 · cases h; exact FnOk.of Tryz.func59 (by kernel_rfl) (by kernel_rfl)
 · cases h; exact FnOk.of Tryz.func60 (by kernel_rfl) (by kernel_rfl)
 · cases h; exact FnOk.of Tryz.func61 (by kernel_rfl) (by kernel_rfl)
 · cases h; exact FnOk.of Tryz.func62 (by kernel_rfl) (by kernel_rfl)
 · cases h; exact FnOk.of Tryz.func63 (by kernel_rfl) (by kernel_rfl)
 · cases h; exact FnOk.of Tryz.func64 (by kernel_rfl) (by kernel_rfl)
 · cases h; exact FnOk.of Tryz.func65 (by kernel_rfl) (by kernel_rfl)
 · cases h; exact FnOk.of Tryz.func66 (by kernel_rfl) (by kernel_rfl)
 · cases h; exact FnOk.of Tryz.func67 (by kernel_rfl) (by kernel_rfl)
 · cases h; exact FnOk.of Tryz.func68 (by kernel_rfl) (by kernel_rfl)
 · cases h; exact FnOk.of Tryz.func69 (by kernel_rfl) (by kernel_rfl)
 · cases h; exact FnOk.of Tryz.func70 (by kernel_rfl) (by kernel_rfl)
 · cases h; exact FnOk.of Tryz.func71 (by kernel_rfl) (by kernel_rfl)
 · cases h
theorem fnOk3 (f : FuncId) (fi : FnI) (h : fnT3 f = some fi) : FnOk Tryz.prog f fi := by
 unfold fnT3 at h
 split at h
 · cases h; exact FnOk.of Tryz.func72 (by kernel_rfl) (by kernel_rfl)
 · cases h; exact FnOk.of Tryz.func73 (by kernel_rfl) (by kernel_rfl)
 · cases h; exact FnOk.of Tryz.func74 (by kernel_rfl) (by kernel_rfl)
 · cases h; exact FnOk.of Tryz.func75 (by kernel_rfl) (by kernel_rfl)
 · cases h; exact FnOk.of Tryz.func76 (by kernel_rfl) (by kernel_rfl)
 · cases h; exact FnOk.of Tryz.func77 (by kernel_rfl) (by kernel_rfl)
 · cases h; exact FnOk.of Tryz.func78 (by kernel_rfl) (by kernel_rfl)
 · cases h; exact FnOk.of Tryz.func79 (by kernel_rfl) (by kernel_rfl)
 · cases h; exact FnOk.of Tryz.func80 (by kernel_rfl) (by kernel_rfl)
 · cases h; exact FnOk.of Tryz.func81 (by kernel_rfl) (by kernel_rfl)
 · cases h; exact FnOk.of Tryz.func82 (by kernel_rfl) (by kernel_rfl)
 · cases h; exact FnOk.of Tryz.func83 (by kernel_rfl) (by kernel_rfl)
 · cases h; exact FnOk.of Tryz.func84 (by kernel_rfl) (by kernel_rfl)
 · cases h; exact FnOk.of Tryz.func85 (by kernel_rfl) (by kernel_rfl)
 · cases h; exact FnOk.of Tryz.func86 (by kernel_rfl) (by kernel_rfl)
 · cases h; exact FnOk.of Tryz.func87 (by kernel_rfl) (by kernel_rfl)
 · cases h; exact FnOk.of Tryz.func88 (by kernel_rfl) (by kernel_rfl)
 · cases h; exact FnOk.of Tryz.func89 (by kernel_rfl) (by kernel_rfl)
 · cases h; exact FnOk.of Tryz.func90 (by kernel_rfl) (by kernel_rfl)
 · cases h; exact FnOk.of Tryz.func91 (by kernel_rfl) (by kernel_rfl)
 · cases h; exact FnOk.of Tryz.func92 (by kernel_rfl) (by kernel_rfl)
 · cases h; exact FnOk.of Tryz.func93 (by kernel_rfl) (by kernel_rfl)
 · cases h; exact FnOk.of Tryz.func94 (by kernel_rfl) (by kernel_rfl)
 · cases h; exact FnOk.of Tryz.func95 (by kernel_rfl) (by kernel_rfl)
 · cases h
theorem fnOk4 (f : FuncId) (fi : FnI) (h : fnT4 f = some fi) : FnOk Tryz.prog f fi := by
 unfold fnT4 at h
 split at h
 · cases h; exact FnOk.of Tryz.func96 (by kernel_rfl) (by kernel_rfl)
 · cases h; exact FnOk.of Tryz.func97 (by kernel_rfl) (by kernel_rfl)
 · cases h; exact FnOk.of Tryz.func98 (by kernel_rfl) (by kernel_rfl)
 · cases h; exact FnOk.of Tryz.func99 (by kernel_rfl) (by kernel_rfl)
 · cases h; exact FnOk.of Tryz.func100 (by kernel_rfl) (by kernel_rfl)
 · cases h; exact FnOk.of Tryz.func101 (by kernel_rfl) (by kernel_rfl)
 · cases h; exact FnOk.of Tryz.func102 (by kernel_rfl) (by kernel_rfl)
 · cases h; exact FnOk.of Tryz.func103 (by kernel_rfl) (by kernel_rfl)
 · cases h; exact FnOk.of Tryz.func104 (by kernel_rfl) (by kernel_rfl)
 · cases h; exact FnOk.of Tryz.func105 (by kernel_rfl) (by kernel_rfl)
 · cases h; exact FnOk.of Tryz.func106 (by kernel_rfl) (by kernel_rfl)
 · cases h; exact FnOk.of Tryz.func107 (by kernel_rfl) (by kernel_rfl)
 · cases h; exact FnOk.of Tryz.func109 (by kernel_rfl) (by kernel_rfl)
 · cases h; exact FnOk.of Tryz.func110 (by kernel_rfl) (by kernel_rfl)
 · cases h; exact FnOk.of Tryz.func111 (by kernel_rfl) (by kernel_rfl)
 · cases h; exact FnOk.of Tryz.func112 (by kernel_rfl) (by kernel_rfl)
 · cases h; exact FnOk.of Tryz.func113 (by kernel_rfl) (by kernel_rfl)
 · cases h; exact FnOk.of Tryz.func114 (by kernel_rfl) (by kernel_rfl)
 · cases h; exact FnOk.of Tryz.func115 (by kernel_rfl) (by kernel_rfl)
 · cases h; exact FnOk.of Tryz.func116 (by kernel_rfl) (by kernel_rfl)
 · cases h; exact FnOk.of Tryz.func118 (by kernel_rfl) (by kernel_rfl)
 · cases h; exact FnOk.of Tryz.func119 (by kernel_rfl) (by kernel_rfl)
 · cases h
theorem fnOk5 (f : FuncId) (fi : FnI) (h : fnT5 f = some fi) : FnOk Tryz.prog f fi := by
 unfold fnT5 at h
 split at h
 · cases h; exact FnOk.of Tryz.func120 (by kernel_rfl) (by kernel_rfl)
 · cases h; exact FnOk.of Tryz.func121 (by kernel_rfl) (by kernel_rfl)
 · cases h; exact FnOk.of Tryz.func122 (by kernel_rfl) (by kernel_rfl)
 · cases h; exact FnOk.of Tryz.func123 (by kernel_rfl) (by kernel_rfl)
 · cases h; exact FnOk.of Tryz.func124 (by kernel_rfl) (by kernel_rfl)
 · cases h; exact FnOk.of Tryz.func125 (by kernel_rfl) (by kernel_rfl)
 · cases h; exact FnOk.of Tryz.func126 (by kernel_rfl) (by kernel_rfl)
 · cases h; exact FnOk.of Tryz.func127 (by kernel_rfl) (by kernel_rfl)
 · cases h; exact FnOk.of Tryz.func128 (by kernel_rfl) (by kernel_rfl)
 · cases h; exact FnOk.of Tryz.func129 (by kernel_rfl) (by kernel_rfl)
 · cases h; exact FnOk.of Tryz.func130 (by kernel_rfl) (by kernel_rfl)
 · cases h; exact FnOk.of Tryz.func131 (by kernel_rfl) (by kernel_rfl)
 · cases h; exact FnOk.of Tryz.func132 (by kernel_rfl) (by kernel_rfl)
 · cases h; exact FnOk.of Tryz.func134 (by kernel_rfl) (by kernel_rfl)
 · cases h; exact FnOk.of Tryz.func135 (by kernel_rfl) (by kernel_rfl)
 · cases h; exact FnOk.of Tryz.func136 (by kernel_rfl) (by kernel_rfl)
 · cases h; exact FnOk.of Tryz.func137 (by kernel_rfl) (by kernel_rfl)
 · cases h; exact FnOk.of Tryz.func143 (by kernel_rfl) (by kernel_rfl)
 · cases h
theorem fnOk6 (f : FuncId) (fi : FnI) (h : fnT6 f = some fi) : FnOk Tryz.prog f fi := by
 unfold fnT6 at h
 split at h
 · cases h; exact FnOk.of Tryz.func144 (by kernel_rfl) (by kernel_rfl)
 · cases h; exact FnOk.of Tryz.func145 (by kernel_rfl) (by kernel_rfl)
 · cases h; exact FnOk.of Tryz.func146 (by kernel_rfl) (by kernel_rfl)
 · cases h; exact FnOk.of Tryz.func148 (by kernel_rfl) (by kernel_rfl)
 · cases h; exact FnOk.of Tryz.func149 (by kernel_rfl) (by kernel_rfl)
 · cases h; exact FnOk.of Tryz.func150 (by kernel_rfl) (by kernel_rfl)
 · cases h; exact FnOk.of Tryz.func151 (by kernel_rfl) (by kernel_rfl)
 · cases h; exact FnOk.of Tryz.func152 (by kernel_rfl) (by kernel_rfl)
 · cases h; exact FnOk.of Tryz.func153 (by kernel_rfl) (by kernel_rfl)
 · cases h; exact FnOk.of Tryz.func154 (by kernel_rfl) (by kernel_rfl)
 · cases h; exact FnOk.of Tryz.func155 (by kernel_rfl) (by kernel_rfl)
 · cases h; exact FnOk.of Tryz.func157 (by kernel_rfl) (by kernel_rfl)
 · cases h; exact FnOk.of Tryz.func159 (by kernel_rfl) (by kernel_rfl)
 · cases h; exact FnOk.of Tryz.func160 (by kernel_rfl) (by kernel_rfl)
 · cases h; exact FnOk.of Tryz.func161 (by kernel_rfl) (by kernel_rfl)
 · cases h; exact FnOk.of Tryz.func162 (by kernel_rfl) (by kernel_rfl)
 · cases h; exact FnOk.of Tryz.func163 (by kernel_rfl) (by kernel_rfl)
 · cases h; exact FnOk.of Tryz.func164 (by kernel_rfl) (by kernel_rfl)
 · cases h; exact FnOk.of Tryz.func165 (by kernel_rfl) (by kernel_rfl)
 · cases h; exact FnOk.of Tryz.func166 (by kernel_rfl) (by kernel_rfl)
 · cases h; exact FnOk.of Tryz.func167 (by kernel_rfl) (by kernel_rfl)
 · cases h
theorem fnOk7 (f : FuncId) (fi : FnI) (h : fnT7 f = some fi) : FnOk Tryz.prog f fi := by
 unfold fnT7 at h
 split at h
 · cases h; exact FnOk.of Tryz.func168 (by kernel_rfl) (by kernel_rfl)
 · cases h; exact FnOk.of Tryz.func188 (by kernel_rfl) (by kernel_rfl)
 · cases h; exact FnOk.of Tryz.func189 (by kernel_rfl) (by kernel_rfl)
 · cases h; exact FnOk.of Tryz.func190 (by kernel_rfl) (by kernel_rfl)
 · cases h
theorem fnOk8 (f : FuncId) (fi : FnI) (h : fnT8 f = some fi) : FnOk Tryz.prog f fi := by
 unfold fnT8 at h
 split at h
 · cases h; exact FnOk.of Tryz.func192 (by kernel_rfl) (by kernel_rfl)
 · cases h; exact FnOk.of Tryz.func193 (by kernel_rfl) (by kernel_rfl)
 · cases h; exact FnOk.of Tryz.func194 (by kernel_rfl) (by kernel_rfl)
 · cases h; exact FnOk.of Tryz.func195 (by kernel_rfl) (by kernel_rfl)
 · cases h; exact FnOk.of Tryz.func196 (by kernel_rfl) (by kernel_rfl)
 · cases h; exact FnOk.of Tryz.func197 (by kernel_rfl) (by kernel_rfl)
 · cases h; exact FnOk.of Tryz.func198 (by kernel_rfl) (by kernel_rfl)
 · cases h; exact FnOk.of Tryz.func199 (by kernel_rfl) (by kernel_rfl)
 · cases h; exact FnOk.of Tryz.func200 (by kernel_rfl) (by kernel_rfl)
 · cases h; exact FnOk.of Tryz.func201 (by kernel_rfl) (by kernel_rfl)
 · cases h; exact FnOk.of Tryz.func202 (by kernel_rfl) (by kernel_rfl)
 · cases h; exact FnOk.of Tryz.func203 (by kernel_rfl) (by kernel_rfl)
 · cases h; exact FnOk.of Tryz.func204 (by kernel_rfl) (by kernel_rfl)
 · cases h; exact FnOk.of Tryz.func205 (by kernel_rfl) (by kernel_rfl)
 · cases h; exact FnOk.of Tryz.func206 (by kernel_rfl) (by kernel_rfl)
 · cases h; exact FnOk.of Tryz.func207 (by kernel_rfl) (by kernel_rfl)
 · cases h; exact FnOk.of Tryz.func208 (by kernel_rfl) (by kernel_rfl)
 · cases h; exact FnOk.of Tryz.func210 (by kernel_rfl) (by kernel_rfl)
 · cases h; exact FnOk.of Tryz.func211 (by kernel_rfl) (by kernel_rfl)
 · cases h; exact FnOk.of Tryz.func212 (by kernel_rfl) (by kernel_rfl)
 · cases h; exact FnOk.of Tryz.func213 (by kernel_rfl) (by kernel_rfl)
 · cases h; exact FnOk.of Tryz.func214 (by kernel_rfl) (by kernel_rfl)
 · cases h; exact FnOk.of Tryz.func215 (by kernel_rfl) (by kernel_rfl)
 · cases h
theorem fnOk9 (f : FuncId) (fi : FnI) (h : fnT9 f = some fi) : FnOk Tryz.prog f fi := by
 unfold fnT9 at h
 split at h
 · cases h; exact FnOk.of Tryz.func216 (by kernel_rfl) (by kernel_rfl)
 · cases h; exact FnOk.of Tryz.func222 (by kernel_rfl) (by kernel_rfl)
 · cases h; exact FnOk.of Tryz.func223 (by kernel_rfl) (by kernel_rfl)
 · cases h; exact FnOk.of Tryz.func224 (by kernel_rfl) (by kernel_rfl)
 · cases h; exact FnOk.of Tryz.func234 (by kernel_rfl) (by kernel_rfl)
 · cases h; exact FnOk.of Tryz.func235 (by kernel_rfl) (by kernel_rfl)
 · cases h; exact FnOk.of Tryz.func236 (by kernel_rfl) (by kernel_rfl)
 · cases h; exact FnOk.of Tryz.func237 (by kernel_rfl) (by kernel_rfl)
 · cases h; exact FnOk.of Tryz.func238 (by kernel_rfl) (by kernel_rfl)
 · cases h; exact FnOk.of Tryz.func239 (by kernel_rfl) (by kernel_rfl)
 · cases h
theorem fnOk10 (f : FuncId) (fi : FnI) (h : fnT10 f = some fi) : FnOk Tryz.prog f fi := by
 unfold fnT10 at h
 split at h
 · cases h; exact FnOk.of Tryz.func248 (by kernel_rfl) (by kernel_rfl)
 · cases h; exact FnOk.of Tryz.func249 (by kernel_rfl) (by kernel_rfl)
 · cases h; exact FnOk.of Tryz.func258 (by kernel_rfl) (by kernel_rfl)
 · cases h; exact FnOk.of Tryz.func259 (by kernel_rfl) (by kernel_rfl)
 · cases h
theorem fnOk11 (f : FuncId) (fi : FnI) (h : fnT11 f = some fi) : FnOk Tryz.prog f fi := by
 unfold fnT11 at h
 split at h
 · cases h; exact FnOk.of Tryz.func265 (by kernel_rfl) (by kernel_rfl)
 · cases h; exact FnOk.of Tryz.func266 (by kernel_rfl) (by kernel_rfl)
 · cases h; exact FnOk.of Tryz.func267 (by kernel_rfl) (by kernel_rfl)
 · cases h; exact FnOk.of Tryz.func272 (by kernel_rfl) (by kernel_rfl)
 · cases h
theorem fn_ok (f : FuncId) (fi : FnI) (h : fnT f = some fi) : FnOk Tryz.prog f fi := by
 unfold fnT at h
 (repeat' split at h) <;> first | exact fnOk0 f fi h | exact fnOk1 f fi h | exact fnOk2 f fi h | exact fnOk3 f fi h | exact fnOk4 f fi h | exact fnOk5 f fi h | exact fnOk6 f fi h | exact fnOk7 f fi h | exact fnOk8 f fi h | exact fnOk9 f fi h | exact fnOk10 f fi h | exact fnOk11 f fi h
end Go.Mach
