/- The program's Recursive returns what the reference's returns, for all arguments.: part 33 of a proof by an executable machine over the program's code. -/
import Derived.Test.YtljpfhpcbfpooaaGreatDoorL71
set_option linter.unusedVariables false
set_option linter.unusedSimpArgs false
set_option maxRecDepth 100000
set_option maxHeartbeats 6000000
namespace Go.Mach
open Go Go.RowKit Go.Proofs
theorem Mark.trans' {a b : Nat} {w w1 w2 : World} (h : Mark a b w w1) (k : Mark a b w1 w2) : Mark a b w w2 := ⟨k.1.trans h.1, k.2.1.trans h.2.1, ⟨k.2.2.1.1.trans h.2.2.1.1, Nat.le_trans h.2.2.1.2 k.2.2.1.2⟩, Nat.le_trans h.2.2.2.1 k.2.2.2.1, fun x hx hd => (k.2.2.2.2 x (Nat.lt_of_lt_of_le hx h.2.2.2.1) hd).trans (h.2.2.2.2 x hx hd)⟩
theorem Stay.mark (a b : Nat) {w w1 : World} (h : Stay w w1) : Mark a b w w1 := ⟨h.1.os, h.1.tape, ⟨h.1.output, h.2⟩, h.1.size, fun x hx _ => h.1.block x hx⟩
theorem edgesIn_calls {w : World} {v : Value} {m : List Ed} {lo hi : Nat} (hv : Row lo hi w 2 (eEd m) v) (hu : Unf w 2 (eEd m) v) (hh : hi ≤ w.heap.size) (hl : m.length ≤ 6300000) :
  Calls Tryz.prog 63 #[v] w fun e w' => ∃ v', e = .returned v' ∧ Row w.heap.size w'.heap.size w' 2 (eEd (canE m)) v' ∧ Unf w' 2 (eEd (canE m)) v' ∧ Mark lo hi w w' := by
 have e98 : ∀ args w, (callFunc 108 args).run Tryz.prog w = .ok (.enter 108 args) w := enters_of Tryz.func108 (by kernel_rfl) rfl
 have hn : Tryz.f63.ntmps = 34 := by kernel_rfl
 have t42 := Tryz.underlying36
 have hs0 : Stay w (w.alloc (.cells #[v] 36)) := ⟨(Below.refl _ _).alloc (Nat.le_refl _) _, Nat.le_refl _⟩
 have hc1 : (w.alloc (.cells #[v] 36)).cell? ⟨w.heap.size, 0, none⟩ = some v := by rw [cell_alloc_new]; rfl
 have hz1 : w.heap.size < (w.alloc (.cells #[v] 36)).heap.size := by rw [size_alloc]; exact Nat.lt_succ_self _
 have hC := sortE_calls (hv.stay hh hs0) (hu.stay hv hh hs0) hh hz1 hc1 (by omega)
 obtain ⟨x, c0, rfl⟩ := hv.shape
 refine calls_of_wp Tryz.func63 (c := bodyOf Tryz.f63) (by kernel_rfl) ?_
 simp only [hn, List.size_toArray, List.length_cons, List.length_nil, Nat.reduceAdd, Nat.reduceSub, Array.replicate_succ, Array.replicate_zero, List.push_toArray, List.append_toArray, List.nil_append, List.cons_append]
 have hb : bodyOf Tryz.f63 = .seq (headC 0 (bodyOf Tryz.f63)) (.seq (headC 1 (bodyOf Tryz.f63)) impl_edgesIn_rest.fi.body) := by kernel_rfl
 rw [hb]
 obtain ⟨c, hc⟩ : ∃ c, c = impl_edgesIn_rest.fi.body := ⟨_, rfl⟩
 rw [← hc]
 simp only [headC, bodyOf, Tryz.f63, Option.getD]
 go_wp2_with (go_at_fn 108; refine hC.mono ?_; rintro e w2 ⟨rfl, hr2, hu2, hm2⟩)
 rw [hc]
 have hc2 : w2.cell? ⟨w.heap.size, 0, none⟩ = some (.slice x (eEd m).length c0) := (World.cell?_of_block (a := ⟨w.heap.size, 0, none⟩) (hm2.2.2.2.2 _ hz1 (.inr hh))).trans hc1
 have hz2 : w.heap.size < w2.heap.size := Nat.lt_of_lt_of_le hz1 hm2.2.2.2.1
 obtain ⟨σ, hrd, hs⟩ := hr2.rd (flt_eEd (srtE m))
 have hrm := hrd.mono (σ' := fun b => if b = w.heap.size then 1 else σ b) (w' := w2) (fun b => by
  show σ b ≤ if b = w.heap.size then 1 else σ b
  split
  · rename_i e; subst e; rw [hs _ hh]; omega
  · exact Nat.le_refl _) (fun _ _ _ => rfl)
 refine wp_rest env_okA (.inr rfl) (impl_edgesIn_rest.part std rfl (srtE m) (by rw [len_srtE]; exact hl)) rfl (σ := fun b => if b = w.heap.size then 1 else σ b) rfl rfl ?_ (fun b hb => ?_) ?_
 · intro i hi'
   match i, hi' with
   | 0, _ => exact .inl rfl
   | 1, _ =>
     refine .inr (.inr ⟨rfl, fun F G tk hG => ?_⟩)
     refine .pel [.sl .ro 2 (eEd (srtE m))] 0 w.heap.size 0 (fun _ => .slice x (eEd m).length c0) (by rw [hG]; show 0 + 1 ≤ (if w.heap.size = w.heap.size then 1 else _); rw [if_pos rfl]; omega) (fun c hc => ?_) (fun j hj => ?_) (fun j hj => ?_)
     · simp only [List.mem_singleton] at hc; subst hc; rfl
     · match j, hj with
       | 0, _ => exact hc2
     · match j, hj with
       | 0, _ => rw [hG]; exact hrm
   | 2, _ => exact .inr (.inl ⟨rfl, .slN _ _⟩)
 · show (if b = w.heap.size then 1 else σ b) = 0
   rw [if_neg (by omega), hs b (by omega)]
 · rintro v' d tk σ' w'' ⟨rfl, _⟩ h1 h2 h3 h3d h4 h5
   have e : dedE (srtE m) (srtE m).length = canE m := by rw [len_srtE]; exact srtE_ded m
   rw [e] at h1 h2
   refine ⟨v', rfl, (Row.of_rd h1 (flt_eEd _) h5 (fun b o l c hv => (h2 b o l c hv).1)).wide (by omega) (Nat.le_refl _), fun b o l c hv j hj => ((h2 b o l c hv).2 j hj).2, ?_⟩
   exact ((hs0.mark lo hi).trans' hm2).trans' (Stay.mark lo hi ⟨h3, h3d⟩)
theorem impl_CallGraph_no.ans {ga gb : List D → Option D} (o : Std) (ho : o = std) (l : List Nd) (dp : Int) (h0 : PassSpec ga) (h1 : FreeSpec gb) (h2 : Sz l) (h3 : l.length ≤ 1048576) (h4 : (solveR l dp).2 = false) : Ans (env (some ga) (some gb)) 15 [rNd o l, iX dp] (.tup [.sl .nw 2 (o.bx fun _ => eEd ((([] : List Ed), false)).1), .bool ((([] : List Ed), false)).2]) := by
 refine Ans.mkA ho _ rfl rfl ?_
 repeat' (first
  | (refine .id ?_
     (try (conv => arg 2; cbv))
     first
      | refine .tN1 ho ?_
      | (refine .pE (β := (List Fc) × Bool) (fun v => .tup [.sl .nw 6 (o.bx fun _ => eFc v.1), .bool v.2]) (as' := [rNd o _, iX _]) (impl_Solve.ans o ho _ _ ?_ ?_ ?_ ?_) ?_; rotate_left 4; rintro ⟨v0, (_ | _)⟩ hv <;> (try simp only [dE] at hv) <;> (try first | contradiction | exact bX hv) <;> (try (exfalso; rw [hv] at h4; cases h4; done)))
      | (refine .indF (fun m_ s_ => ∃ (a6 : List Fc) (a8 : List Ed) (a22 : List Fc) (a23 : Int) (a24 : Int) (ta6 ta8 ta22 : Tok) (tk : List Nat), s_ = ⟨[rNd o l, Jk, Jk, Jk, Jk, Jk, .sl ta6 6 (o.bx fun _ => eFc a6), Jk, .sl ta8 2 (o.bx fun _ => eEd a8), Jk, Jk, Jk, Jk, Jk, Jk, Jk, Jk, Jk, Jk, Jk, Jk, Jk, .sl ta22 6 (o.bx fun _ => eFc a22), iX a23, iX a24] ++ List.replicate 54 Jk, [], [], tk⟩ ∧ (True) ∧ (0 : Nat) ≤ m_) _ _ ⟨_, _, _, _, _, _, _, _, _, by subst ho; rfl, ?_, Nat.le_refl _⟩ ?_
         rotate_right
         rintro m_ _ ⟨a6, a8, a22, a23, a24, ta6, ta8, ta22, tk, rfl, hIa, hka⟩ iha
         refine .unloopA ho ?_
         repeat' (first
          | (refine .id ?_
             (try (conv => arg 2; cbv))
             first
              | (refine .indF (fun m_ s_ => ∃ (b8 : List Ed) (b24 : Int) (b58 : List Ab) (b59 : Int) (b60 : Int) (tb8 tb58 : Tok) (tk : List Nat), s_ = ⟨[rNd o l, Jk, Jk, Jk, Jk, Jk, .sl ta6 6 (o.bx fun _ => eFc a6), Jk, .sl tb8 2 (o.bx fun _ => eEd b8), Jk, .pbx (.loc 0) 0, Jk, Jk, Jk, Jk, Jk, Jk, Jk, Jk, Jk, Jk, Jk, .sl ta22 6 (o.bx fun _ => eFc a22), iX a23, iX b24, Jk, Jk, Jk, Jk, Jk, Jk, Jk, Jk, Jk, Jk, Jk, Jk, Jk, Jk, Jk, Jk, Jk, Jk, Jk, Jk, Jk, Jk, Jk, Jk, Jk, Jk, Jk, Jk, Jk, Jk, Jk, Jk, Jk, .sl tb58 3 (o.bx fun _ => eAb b58), iX b59, iX b60] ++ List.replicate 18 Jk, [], [], tk⟩ ∧ (True) ∧ (0 : Nat) ≤ m_) _ _ ⟨_, _, _, _, _, _, _, _, by subst ho; rfl, ?_, Nat.le_refl _⟩ ?_
                 rotate_right
                 rintro m_ _ ⟨b8, b24, b58, b59, b60, tb8, tb58, tk, rfl, hIb, hkb⟩ ihb
                 refine .unloopA ho ?_
                 repeat' (first
                  | (refine .id ?_
                     (try (conv => arg 2; cbv))
                     first
                      | fail)
                  | ((fail_if_success (refine .id ?_))
                     first
                      | fail))))
          | ((fail_if_success (refine .id ?_))
             first
              | fail)))
      | (refine .fin ?_; (conv => lhs; cbv) <;> refine congrArg some ?_))
  | ((fail_if_success (refine .id ?_))
     first
      | assumption
      | (subst ho; rfl)))
noncomputable def impl_CallGraph_pre.fi : FnI := { fni Tryz.f15 (fun | 6 => [0, 6, 8, 22, 23, 24] | 12 => [0, 6, 8, 10, 22, 23, 24, 58, 59, 60] | _ => []) false with body := takeC 4 (bodyOf Tryz.f15) }
theorem impl_CallGraph_pre.part {ga gb : List D → Option D} (o : Std) (ho : o = std) (l : List Nd) (dp : Int) (h0 : PassSpec ga) (h1 : FreeSpec gb) (h2 : Sz l) (h3 : l.length ≤ 1048576) (h4 : (solveR l dp).2 = true) : AnsI (env (some ga) (some gb)) impl_CallGraph_pre.fi .normal (fun s => if s.t.length = 79 then s.t[8]? else none) [rNd o l, iX dp] (fun d_ tk_ => ∃ (tz : Tok) , d_ = .sl tz 2 (o.bx fun _ => eEd (graphR l dp)) ∧ (Lw tk_ tz (graphR l dp).length)) := by
 refine AnsI.mkA ho (by rfl) ?_
 have hall := solveR_all l dp; have hfr := solveR_fr l dp
 repeat' (first
  | (refine .id ?_
     (try (conv => arg 2; cbv))
     first
      | refine .tN0 ho ?_
      | (refine .pE (β := (List Fc) × Bool) (fun v => .tup [.sl .nw 6 (o.bx fun _ => eFc v.1), .bool v.2]) (as' := [rNd o _, iX _]) (impl_Solve.ans o ho _ _ ?_ ?_ ?_ ?_) ?_; rotate_left 4; rintro ⟨v0, (_ | _)⟩ hv <;> (try simp only [dE] at hv) <;> (try first | contradiction | exact bX hv) <;> (try (exfalso; rw [hv] at h4; cases h4; done)))
      | (refine .indF (fun m_ s_ => ∃ (a6 : List Fc) (ea8 : Box) (a22 : List Fc) (a23 : Int) (a24 : Int) (ta6 ta8 ta22 : Tok) (tk : List Nat), s_ = ⟨[rNd o l, Jk, Jk, Jk, Jk, Jk, .sl ta6 6 (o.bx fun _ => eFc a6), Jk, .sl ta8 2 ea8, Jk, Jk, Jk, Jk, Jk, Jk, Jk, Jk, Jk, Jk, Jk, Jk, Jk, .sl ta22 6 (o.bx fun _ => eFc a22), iX a23, iX a24] ++ List.replicate 54 Jk, [], [], tk⟩ ∧ Lw tk ta8 ea8.length ∧ ea8 = (o.bx fun _ => eEd (rawG l (solveR l dp).1 ((solveR l dp).1.take a24.toNat))) ∧ (a6 = (solveR l dp).1 ∧ a22 = (solveR l dp).1 ∧ a23 = (solveR l dp).1.length ∧ 0 ≤ a24 ∧ a24 ≤ (solveR l dp).1.length) ∧ ((solveR l dp).1.length - a24).toNat ≤ m_) _ _ ⟨_, _, _, _, _, _, _, _, _, by subst ho; rfl, ?_, ?_, ?_, Nat.le_refl _⟩ ?_
         rotate_right
         rintro m_ _ ⟨a6, ea8, a22, a23, a24, ta6, ta8, ta22, tk, rfl, hla0, rfl, hIa, hka⟩ iha
         obtain ⟨rfl, rfl, i0, i1, i2⟩ := hIa; have hcl := rawG_lenT (l := l) hall.1 a24.toNat; refine .unloopA ho ?_
         repeat' (first
          | (refine .id ?_
             (try (conv => arg 2; cbv))
             first
              | refine .testT ?_
              | refine .t1 ?_
              | refine .t0 ?_
              | (refine .test (fun hr => ?_) (fun hr => ?_) <;> (have hb := hr) <;> (try simp (disch := omega) only [ho, std, wI, lenE, Int.ofNat_eq_natCast, nrm] at hb) <;> (try (exfalso; first | contradiction | omega | exact hb rfl)))
              | (refine .pE (β := List Ab) (rAb o) (as' := [rFc o _, iX _, iX _, iX _]) (impl_absAt.ans o ho _ _ _ _ ?_ ?_ ?_) ?_; rotate_left 3; rintro v hv; (first | (have _h := hv2) | (have _h := hv1; have hv2 := hv; obtain ⟨v2, e_v2⟩ : ∃ z, z = v := ⟨_, rfl⟩; subst e_v2) | (have hv1 := hv)))
              | (refine .fetchYNd ho ?_ ?_ (by with_reducible assumption) ?_)
              | (refine .fetchXNd ho ?_ ?_ (fun y hy => ?_); rotate_left 2; rcases y with ⟨y0, y1, y2, y3, y4, y5, y6⟩; (first | (have _h := hyn) | (have hyn := hy)))
              | (refine .fetchXFc ho ?_ ?_ (fun y hy => ?_); rotate_left 2; rcases y with ⟨yk, yn, yc, yvk, yvn, yvc⟩; (first | (have _h := hyf) | (have hyf := hy; have hnr := hall.2 _ (rdG_mem (z := zF) i1 (by omega)); rw [show rdG zF _ _ = _ from hyf] at hnr; dsimp only at hnr; obtain ⟨fk, e_fk⟩ : ∃ z, z = yk := ⟨_, rfl⟩; subst e_fk; obtain ⟨fn, e_fn⟩ : ∃ z, z = yn := ⟨_, rfl⟩; subst e_fn; obtain ⟨fc, e_fc⟩ : ∃ z, z = yc := ⟨_, rfl⟩; subst e_fc; obtain ⟨gk, e_gk⟩ : ∃ z, z = yvk := ⟨_, rfl⟩; subst e_gk; obtain ⟨gn, e_gn⟩ : ∃ z, z = yvn := ⟨_, rfl⟩; subst e_gn; obtain ⟨gc, e_gc⟩ : ∃ z, z = yvc := ⟨_, rfl⟩; subst e_gc)))
              | (refine .indF (fun m_ s_ => ∃ (eb8 : Box) (b59 : Int) (b60 : Int) (tb8 : Tok) (tk : List Nat), s_ = ⟨[rNd o l, Jk, Jk, Jk, Jk, Jk, .sl ta6 6 (o.bx fun _ => eFc (solveR l dp).1), Jk, .sl tb8 2 eb8, Jk, .pbx (.loc 0) 0, Jk, Jk, Jk, Jk, Jk, Jk, Jk, Jk, Jk, Jk, Jk, .sl ta22 6 (o.bx fun _ => eFc (solveR l dp).1), iX a23, iX a24, Jk, Jk, Jk, Jk, Jk, Jk, Jk, Jk, Jk, Jk, Jk, Jk, Jk, Jk, Jk, Jk, Jk, Jk, Jk, Jk, Jk, Jk, Jk, Jk, Jk, Jk, Jk, Jk, Jk, Jk, Jk, Jk, Jk, rAb o v2, iX b59, iX b60] ++ List.replicate 18 Jk, [[[iX fk, iX fn, iX fc, iX gk, iX gn, iX gc]], [[iX y0, iX y1, iX y2, iX y3, iX y4, .str y5, .str y6]]], [], tk⟩ ∧ Lw tk tb8 eb8.length ∧ eb8 = (o.bx fun _ => eEd (rawG l (solveR l dp).1 ((solveR l dp).1.take a24.toNat) ++ edgesV fn (v2.take b60.toNat))) ∧ (b59 = v2.length ∧ 0 ≤ b60 ∧ b60 ≤ v2.length) ∧ (v2.length - b60).toNat ≤ m_) _ _ ⟨_, _, _, _, _, by subst ho; rfl, ?_, ?_, ?_, Nat.le_refl _⟩ ?_
                 rotate_right
                 rintro m_ _ ⟨eb8, b59, b60, tb8, tk, rfl, hlb0, rfl, hIb, hkb⟩ ihb
                 obtain ⟨j0, j1, j2⟩ := hIb; have hvl := vals_lenE hall.1 hv2; have hci := edges_inn (l := l) hall.1 hv2 a24.toNat fn b60.toNat; rw [List.length_append] at hci; refine .unloopA ho ?_
                 repeat' (first
                  | (refine .id ?_
                     (try (conv => arg 2; cbv))
                     first
                      | (refine .test (fun hr => ?_) (fun hr => ?_) <;> (have hb := hr) <;> (try simp (disch := omega) only [ho, std, wI, lenE, Int.ofNat_eq_natCast, nrm] at hb) <;> (try (exfalso; first | contradiction | omega | exact hb rfl)))
                      | (refine .fetchXAb ho ?_ ?_ (fun y hy => ?_); rotate_left 2; rcases y with ⟨yk, yn, yc⟩; (first | (have _h := hya) | (have hya := hy)))
                      | (refine .need ?_ ?_)
                      | (refine .app1w ?_ (fun t' tk' hl' => ?_))
                      | (refine ihb _ _ ?_ ⟨_, _, _, _, _, by subst ho; rfl, ?_, ?_, ?_, Nat.le_refl _⟩)
                      | (refine iha _ _ ?_ ⟨_, _, _, _, _, _, _, _, _, by subst ho; rfl, ?_, ?_, ?_, Nat.le_refl _⟩))
                  | ((fail_if_success (refine .id ?_))
                     first
                      | (subst ho; exact hla0)
                      | (subst ho; exact hlb0)
                      | (subst ho; exact congrArg eEd (inn_zero _ _ _).symm)
                      | (subst ho; exact ⟨by simp [std, len_eAb], Int.le_refl _, by omega⟩)
                      | ((try clear iha); (try clear ihb); subst ho; simp (disch := omega) only [std, wI]; first | exact push1Ed (inn_hit j1 (by omega) hya (by dsimp only; omega)) | exact congrArg eEd (inn_miss j1 (by omega) hya (by dsimp only; omega)).symm)
                      | ((try clear iha); (try clear ihb); subst ho; simp (disch := omega) only [std, wI]; exact ⟨j0, by omega, by omega⟩)
                      | ((try clear iha); (try clear ihb); subst ho; simp (disch := omega) only [std, wI]; first | exact congrArg eEd (inn_end i1 (by omega) hyf (edgeP_yes (by dsimp only; omega) hyn (by dsimp only; omega) hv1 (by omega)) hyn hv2 (by omega)).symm | exact congrArg eEd (rawG_miss i1 (by omega) hyf (by first | exact edgeP_no1 (by dsimp only; omega) | exact edgeP_no2 hyn (by dsimp only; omega) | exact edgeP_no3 hyn hv1 (by omega))).symm)
                      | ((try clear iha); (try clear ihb); subst ho; simp (disch := omega) only [std, wI]; exact ⟨by trivial, by trivial, i0, by omega, by omega⟩)
                      | assumption
                      | omega
                      | (subst ho; simpa [std, lenE] using hl')
                      | (subst ho; simp (disch := omega) only [std, wI, tdiv2, tdivN, lenE] <;> first | done | rfl | omega)
                      | (subst ho; simp [std, lenE]; omega))))
              | (refine iha _ _ ?_ ⟨_, _, _, _, _, _, _, _, _, by subst ho; rfl, ?_, ?_, ?_, Nat.le_refl _⟩)
              | (refine .done ⟨rfl, ?_⟩; refine ⟨_, by (conv => lhs; cbv) <;> rfl, ?_⟩))
          | ((fail_if_success (refine .id ?_))
             first
              | (exact Lw.nil)
              | (subst ho; exact hla0)
              | (exact hfr.1)
              | (exact hfr.2.2)
              | (subst ho; exact ⟨(congrArg Prod.fst hv).symm, (congrArg Prod.fst hv).symm, by rw [hv]; simp [std, len_eFc], Int.le_refl _, by omega⟩)
              | ((try clear iha); (try clear ihb); subst ho; simp (disch := omega) only [std, wI]; first | exact congrArg eEd (inn_end i1 (by omega) hyf (edgeP_yes (by dsimp only; omega) hyn (by dsimp only; omega) hv1 (by omega)) hyn hv2 (by omega)).symm | exact congrArg eEd (rawG_miss i1 (by omega) hyf (by first | exact edgeP_no1 (by dsimp only; omega) | exact edgeP_no2 hyn (by dsimp only; omega) | exact edgeP_no3 hyn hv1 (by omega))).symm)
              | ((try clear iha); (try clear ihb); subst ho; simp (disch := omega) only [std, wI]; exact ⟨by trivial, by trivial, i0, by omega, by omega⟩)
              | (subst ho; refine ⟨_, congrArg (D.sl _ 2) (congrArg eEd (graphR_fin (by omega))), ?_⟩; rw [← graphR_fin (show ((solveR l dp).1.length : Int) ≤ a24 by omega)]; simpa [std, len_eEd] using hla0)
              | assumption
              | omega
              | (subst ho; rfl)
              | (subst ho; simp (disch := omega) only [std, wI, tdiv2, tdivN, lenE] <;> first | done | rfl | omega)))))
  | ((fail_if_success (refine .id ?_))
     first
      | assumption))
section
variable {P : Program} {E : Env} {f : FuncId} {w : World} {z : Nat} {es : Box} {t : Tok} {b : Bool} {da : List D}
theorem tup_inv {σ : Nat → Nat} {v : Value} (h : RD σ w (.tup [.sl t z es, .bool b]) v) : ∃ v1, v = .tuple #[v1, .bool b] ∧ RD σ w (.sl t z es) v1 := by
 cases h with
 | tup _ vs hl hc h =>
   obtain ⟨l⟩ := vs
   match l, hl, h with
   | [v1, v2], _, h =>
     have h0 := h 0 (by simp)
     have h1 := h 1 (by simp)
     have e1 : v2 = .bool b := by
      generalize hd : ([D.sl t z es, D.bool b].getD 1 .junk) = d at h1
      have hd2 : d = .bool b := hd.symm
      subst hd2
      generalize hv : (Array.getD ⟨[v1, v2]⟩ 1 undef) = y at h1
      have hv2 : y = v2 := hv.symm
      subst hv2
      cases h1; rfl
     subst e1
     exact ⟨v1, rfl, h0⟩
theorem rowB_calls (hE : EnvOk P E) (h : Ans E f da (.tup [.sl t z es, .bool b])) (hf : Flt z es) {vs : Array Value} (hl : vs.size = da.length) (hr : ∀ i, i < da.length → Arg w (da.getD i .junk) (vs.getD i undef)) :
  Calls P f vs w fun e w' => ∃ v, e = .returned (.tuple #[v, .bool b]) ∧ Row 0 w'.heap.size w' z es v ∧ Stay w w' := by
 refine (data_calls hE h hl hr).mono ?_
 rintro e w' ⟨v, σ', rfl, h1, _, h3, h4⟩
 obtain ⟨v1, rfl, h5⟩ := tup_inv h1
 exact ⟨v1, rfl, .of_rd h5 hf h4 (fun _ _ _ _ _ => Nat.zero_le _), h3⟩
theorem newB_calls (hE : EnvOk P E) (h : Ans E f da (.tup [.sl .nw z es, .bool b])) (hf : Flt z es) {vs : Array Value} (hl : vs.size = da.length) (hr : ∀ i, i < da.length → Arg w (da.getD i .junk) (vs.getD i undef)) :
  Calls P f vs w fun e w' => ∃ v, e = .returned (.tuple #[v, .bool b]) ∧ Row w.heap.size w'.heap.size w' z es v ∧ Unf w' z es v ∧ Stay w w' := by
 refine (data_calls hE h hl hr).mono ?_
 rintro e w' ⟨v, σ', rfl, h1, h2, h3, h4⟩
 obtain ⟨v1, rfl, h5⟩ := tup_inv h1
 have h6 : NewR w.heap.size σ' w' z es v1 := h2 0 z es rfl
 exact ⟨v1, rfl, .of_rd h5 hf h4 (fun b o l c hv => (h6 b o l c hv).1), fun b o l c hv j hj => ((h6 b o l c hv).2 j hj).2, h3⟩
end
theorem unf_own {w : World} {v : Value} {es : Box} {B : Nat} (h : ∀ b o l c, v = .slice (some ⟨b, o, none⟩) l c → B ≤ b ∧ ∃ c e, w.heap[b]? = some (.cells c e (0, 0))) {z : Nat} : Unf w z es v := by
 intro b o l c hv j hj
 obtain ⟨_, c1, e1, h1⟩ := h b o l c hv
 simp [World.frozen?, h1]
theorem graph_none {a : List Nd} {dp : Int} (h : (solveR a dp).2 = false) : graphM a dp = [] := by
 have h1 : (solveR a dp).1 = [] := by
  unfold solveR at h ⊢
  split
  · rename_i fs hs; rw [hs] at h; cases h
  · rfl
 unfold graphM graphR rawG
 rw [h1]; rfl
theorem graph_calls {w : World} {lo hi : Nat} {v : Value} {a : List Nd} {dp : Int} (hz : SzL a) (hh : hi ≤ w.heap.size) (hv : Row lo hi w 7 (eNd a) v) :
  Calls Tryz.prog 15 #[v, .int .i64 dp] w fun e w' => ∃ v' ok, e = .returned (.tuple #[v', .bool ok]) ∧ ok = (solveR a dp).2 ∧ Row w.heap.size w'.heap.size w' 2 (eEd (graphM a dp)) v' ∧ Unf w' 2 (eEd (graphM a dp)) v' ∧ Stay w w' := by
 by_cases hok : (solveR a dp).2 = false
 · rw [hok, graph_none hok]
   refine (newB_calls env_okA (impl_CallGraph_no.ans std rfl a dp pass_spec free_spec hz.sz (by have := hz.1; omega) hok) (flt_eEd []) rfl (args2 (.row hv hh (flt_eNd a)) .int)).mono ?_
   rintro e w' ⟨v', rfl, h1, h2, h3⟩
   exact ⟨v', _, rfl, rfl, h1, h2, h3⟩
 · have hok : (solveR a dp).2 = true := by simpa using hok
   rw [hok]
   obtain ⟨σ, hr, hs⟩ := hv.rd (flt_eNd a)
   refine calls_pre env_okA (n := 4) (c := bodyOf Tryz.f15) (impl_CallGraph_pre.part std rfl a dp pass_spec free_spec hz.sz (by have := hz.1; omega) hok) rfl Tryz.func15 (by kernel_rfl) (by kernel_rfl) (vs := #[v, .int .i64 dp]) rfl ?_ (fun b hb => hs b (by omega)) ?_
   · intro i hi'
     match i, hi' with
     | 0, _ => exact .inl ⟨rfl, hr⟩
     | 1, _ => exact .inl ⟨rfl, .int _ _⟩
   rintro d1 s1 G' a' w' hout ⟨tq, rfl, hlw⟩ hsim
   split at hout
   · rename_i hlen
     have hsz79 : a'.tmps.size = 79 := by rw [hsim.tmp.1, hlen]
     have hrep := hsim.tmp.2 8 (by rw [hlen]; decide)
     have h3 : s1.t.getD 8 .junk = .sl tq 2 (eEd (graphR a dp)) := by rw [List.getD_eq_getElem?_getD, hout]; rfl
     rw [h3] at hrep
     have hlw' : Lw s1.tk tq (eEd (graphR a dp)).length := by rw [len_eEd]; exact hlw
     have hown := own_block rfl hrep hlw'
     have hrd := hrep.sl_inv.1
     have hfr := hsim.inv.fr
     have hrow : Row w.heap.size w'.heap.size w' 2 (eEd (graphR a dp)) (a'.tmps.getD 8 undef) := .of_rd hrd (flt_eEd _) hsim.inv.iceBig (fun b o l c hv => (hown b o l c hv).1)
     have hcall := edgesIn_calls hrow (unf_own hown) (Nat.le_refl _) (by have := graphR_len a dp; omega)
     obtain ⟨tm, df⟩ := a'
     obtain rfl : df = [] := hsim.def0
     dsimp only at hsz79 hcall
     have htm := arr_fn hsz79
     generalize hf : (fun i => tm.getD i undef) = f at htm
     have hf8 : tm.getD 8 undef = f 8 := by rw [← hf]
     rw [hf8] at hcall
     have htm2 : tm = #[f 0, f 1, f 2, f 3, f 4, f 5, f 6, f 7, f 8, f 9, f 10, f 11, f 12, f 13, f 14, f 15, f 16, f 17, f 18, f 19, f 20, f 21, f 22, f 23, f 24, f 25, f 26, f 27, f 28, f 29, f 30, f 31, f 32, f 33, f 34, f 35, f 36, f 37, f 38, f 39, f 40, f 41, f 42, f 43, f 44, f 45, f 46, f 47, f 48, f 49, f 50, f 51, f 52, f 53, f 54, f 55, f 56, f 57, f 58, f 59, f 60, f 61, f 62, f 63, f 64, f 65, f 66, f 67, f 68, f 69, f 70, f 71, f 72, f 73, f 74, f 75, f 76, f 77, f 78] := htm
     rw [htm2]
     simp only [dropC, bodyOf, Tryz.f15, Option.getD]
     have e77 : ∀ args w, (callFunc 63 args).run Tryz.prog w = .ok (.enter 63 args) w := enters_of Tryz.func63 (by kernel_rfl) rfl
     have hw0 : Stay w w' := ⟨⟨hfr.os, hfr.tape, hfr.output.1, hfr.size, fun b hb => hfr.same b hb (fun p hp => by cases hp) (fun hh => by cases hh)⟩, hfr.output.2⟩
     clear hsim hrep hown hrd hr htm htm2 hout h3 hf hf8 hfr hrow
     go_wp2_with (go_at_fn 63; refine hcall.mono ?_; rintro e w'' ⟨v', rfl, hr2, hu2, hm2⟩)
     go_ret2
     exact ⟨v', _, rfl, rfl, hr2.wide hw0.1.size (Nat.le_refl _), hu2, ⟨hw0.1.trans (hm2.below (Nat.le_refl _) hw0.1.size), Nat.le_trans hw0.2 hm2.2.2.1.2⟩⟩
   · cases hout
end Go.Mach
namespace Go.Mach
open Go Go.RowKit
def home (l : List Nd) : Nat → Int → Int
 | 0, _ => -1
 | n + 1, kid => if 0 ≤ parS l kid then (if lamB (rN l (parS l kid)) = true ∧ (rN l (parS l kid)).f1 = kid then parS l kid else home l n (parS l kid)) else -1
def homeM (l : List Nd) (kid : Int) : Int := home l (l.length - kid).toNat kid
theorem home_eq {l : List Nd} (hT : OkT l) : ∀ (n m : Nat) (kid : Int), (l.length - kid).toNat ≤ n → (l.length - kid).toNat ≤ m → home l n kid = home l m kid := by
 have zero : ∀ (m : Nat) (kid : Int), (l.length - kid).toNat = 0 → home l m kid = -1 := fun m kid h => by
  cases m with
  | zero => rfl
  | succ m =>
    rw [home, if_neg]
    intro hp
    have := hT.par_lt hp
    omega
 intro n
 induction n with
 | zero => intro m kid h1 h2; rw [zero m kid (by omega)]; rfl
 | succ n ih =>
   intro m kid h1 h2
   cases m with
   | zero => rw [zero _ kid (by omega)]; rfl
   | succ m =>
     rw [home, home]
     split
     · rename_i hp
       have := hT.par_lt hp
       rw [ih m (parS l kid) (by omega) (by omega)]
     · rfl
theorem homeM_up {l : List Nd} (hT : OkT l) {kid : Int} (hp : 0 ≤ parS l kid) : homeM l kid = if lamB (rN l (parS l kid)) = true ∧ (rN l (parS l kid)).f1 = kid then parS l kid else homeM l (parS l kid) := by
 have h := hT.par_lt hp
 unfold homeM
 obtain ⟨n, hn⟩ : ∃ n, (l.length - kid).toNat = n + 1 := ⟨(l.length - kid).toNat - 1, by omega⟩
 rw [hn, home, if_pos hp, home_eq hT n (l.length - parS l kid).toNat _ (by omega) (Nat.le_refl _)]
theorem homeM_top {l : List Nd} {kid : Int} (hp : ¬ 0 ≤ parS l kid) : homeM l kid = -1 := by
 unfold homeM
 cases (l.length - kid).toNat with
 | zero => rfl
 | succ n => rw [home, if_neg hp]
theorem homeM_no {l : List Nd} {i : Int} (h : okM l = false) : -1 = homeM l i := (homeM_top (by rw [← parS_no h]; decide)).symm
theorem homeM_out {l : List Nd} {i : Int} (h : ¬ (0 ≤ i ∧ i ≤ l.length - 1)) : -1 = homeM l i := by
 refine (homeM_top fun hp => ?_).symm
 by_cases hk : okM l = true
 · have := (okM_iff.1 hk).par_lt hp; omega
 · rw [← parS_no (by simpa using hk)] at hp; exact absurd hp (by decide)
theorem home_hit {l : List Nd} (hT : OkT l) {kid q : Int} {y : Nd} (hq : q = parS l kid) (h0 : 0 ≤ q) (hy : rN l q = y) (h1 : lamB y = true) (h2 : y.f1 = kid) : homeM l kid = q := by
 subst hq; rw [homeM_up hT h0, hy, if_pos ⟨h1, h2⟩]
theorem home_on {l : List Nd} (hT : OkT l) {kid q : Int} {y : Nd} (hq : q = parS l kid) (h0 : 0 ≤ q) (hy : rN l q = y) (h1 : lamB y = false ∨ ¬ y.f1 = kid) : homeM l kid = homeM l q := by
 subst hq; rw [homeM_up hT h0, hy, if_neg]
 rintro ⟨h2, h3⟩
 rcases h1 with h1 | h1
 · rw [h1] at h2; cases h2
 · exact h1 h3
def funM (l : List Nd) (dp : Int) : List Ed := canE ((graphM l dp).map fun e => ⟨homeM l e.f0, e.f1⟩)
theorem funM_len (l : List Nd) (dp : Int) : (funM l dp).length ≤ 6250000 := Nat.le_trans (can_len _) (by rw [List.length_map]; exact graphM_len l dp)
def homeE (l : List Nd) (e : Ed) : Ed := ⟨homeM l e.f0, e.f1⟩
theorem homes_step {l : List Nd} {es : List Ed} {i : Int} {y : Ed} (h0 : 0 ≤ i) (h1 : i < es.length) (hy : rE es i = y) : (es.take (i + 1).toNat).map (homeE l) = (es.take i.toNat).map (homeE l) ++ [⟨homeM l y.f0, y.f1⟩] := by
 rw [take_succG zEd h0 h1, show rdG zEd es i = y from hy, List.map_append]; rfl
theorem homes_hitC {l : List Nd} {es : List Ed} {i q : Int} {y : Ed} {v : List Ed} (h0 : 0 ≤ i) (h1 : i < es.length) (hy : rE es i = y) (hq : homeM l y.f0 = q) (hv : insE ⟨q, y.f1⟩ (canE ((es.take i.toNat).map (homeE l))) = v) : v = canE ((es.take (i + 1).toNat).map (homeE l)) := by
 subst hv hq; rw [homes_step h0 h1 hy, can_app]
theorem homes_hit {l : List Nd} {es : List Ed} {i q : Int} {y : Ed} (h0 : 0 ≤ i) (h1 : i < es.length) (hy : rE es i = y) (hq : homeM l y.f0 = q) : (es.take i.toNat).map (homeE l) ++ [⟨q, y.f1⟩] = (es.take (i + 1).toNat).map (homeE l) := by
 subst hq; rw [homes_step h0 h1 hy]
theorem homes_len {l : List Nd} {es : List Ed} {n : Nat} (h : es.length ≤ n) (i : Nat) : ((es.take i).map (homeE l)).length ≤ n := by
 rw [List.length_map]; exact Nat.le_trans (List.length_take_le' _ _) h
def funR (l : List Nd) (dp : Int) : List Ed := (graphM l dp).map (homeE l)
theorem homes_fin {l : List Nd} {dp i : Int} (h : ((graphM l dp).length : Int) ≤ i) : ((graphM l dp).take i.toNat).map (homeE l) = funR l dp := by rw [take_allG h]; rfl
theorem funM_eq (l : List Nd) (dp : Int) : funM l dp = canE (funR l dp) := rfl
theorem funR_len (l : List Nd) (dp : Int) : (funR l dp).length ≤ 6250000 := by rw [funR, List.length_map]; exact graphM_len l dp
end Go.Mach
namespace Go.Mach
open Go Go.RowKit Go.Proofs
theorem spec_HomeOf.ans {xa xb : Option (List D → Option D)} (o : Std) (ho : o = std) (l : List Nd) (i : Int) (h0 : Sz l) (h1 : l.length ≤ 1048576) : Ans (env xa xb) 121 [rNd o l, iX i] (iX (homeM l i)) := by
 refine Ans.mkA ho _ rfl rfl ?_
 repeat' (first
  | (refine .id ?_
     (try (conv => arg 2; cbv))
     first
      | refine .testT ?_
      | refine .t1 ?_
      | refine .t0 ?_
      | refine .tN1 ho ?_
      | refine .tN0 ho ?_
      | (refine .test (fun hr => ?_) (fun hr => ?_) <;> (have hb := hr) <;> (try simp (disch := omega) only [ho, std, wI, lenE, Int.ofNat_eq_natCast, nrm] at hb) <;> (try (exfalso; first | contradiction | omega | exact hb rfl)))
      | (refine .pE (β := Bool) .bool (as' := [rNd o _]) (spec_NodesOk.ans o ho _ ?_ ?_) ?_; rotate_left 2; rintro (_ | _) hv <;> (try simp only [dE] at hv) <;> (try first | contradiction | exact bX hv))
      | (refine .pE (β := Bool) .bool (as' := [iX _, iX _, iX _]) (spec_l1In.ans o ho _ _ _) ?_; rintro (_ | _) hv <;> (try simp only [dE] at hv) <;> (try first | contradiction | exact bX hv) <;> (try (have hir : 0 ≤ i ∧ i < l.length := (by subst ho; simp (disch := omega) only [std, wI, len_eNd] at hv; omega))))
      | (refine .pE (β := Int) (fun v => iX v) (as' := [rNd o _, iX _]) (spec_ParentOf.ans o ho _ _ ?_ ?_) ?_; rotate_left 2; rintro v hv)
      | (refine .indF (fun m_ s_ => ∃ (a5 : Int) (a6 : Int) (tk : List Nat), s_ = ⟨[rNd o l, Jk, Jk, Jk, Jk, iX a5, iX a6] ++ List.replicate 36 Jk, [], [], tk⟩ ∧ (a6 = parS l a5 ∧ homeM l i = homeM l a5 ∧ 0 ≤ a5 ∧ a5 < l.length) ∧ (l.length - a5).toNat ≤ m_) _ _ ⟨_, _, _, by subst ho; rfl, ?_, Nat.le_refl _⟩ ?_
         rotate_right
         rintro m_ _ ⟨a5, a6, tk, rfl, hIa, hka⟩ iha
         obtain ⟨i1, i2, i3, i4⟩ := hIa; have hT := okM_iff.1 (show okM l = true by assumption); have hpl := hT.par_lt (n := a5); rw [← i1] at hpl; refine .unloopA ho ?_
         repeat' (first
          | (refine .id ?_
             (try (conv => arg 2; cbv))
             first
              | refine .testT ?_
              | refine .testF ?_
              | (refine .test (fun hr => ?_) (fun hr => ?_) <;> (have hb := hr) <;> (try simp (disch := omega) only [ho, std, wI, lenE, Int.ofNat_eq_natCast, nrm] at hb) <;> (try (exfalso; first | contradiction | omega | exact hb rfl)))
              | (refine .pE (β := Int) (fun v => iX v) (as' := [rNd o _, iX _]) (spec_ParentOf.ans o ho _ _ ?_ ?_) ?_; rotate_left 2; rintro v hv)
              | (refine .pE (β := Bool) .bool (as' := [.agg [iX _, iX _, iX _, iX _, iX _, .str _, .str _]]) (spec_l16Lambda.ans o ho _ _ _ _ _ _ _) ?_; rintro (_ | _) hv <;> (try simp only [dE] at hv) <;> (try first | contradiction | exact bX hv))
              | (refine .fetchYNd ho ?_ ?_ (by with_reducible assumption) ?_)
              | (refine .fetchXNd ho ?_ ?_ (fun y hy => ?_); rotate_left 2; rcases y with ⟨y0, y1, y2, y3, y4, y5, y6⟩; (first | (have _h := hyn) | (have hyn := hy)))
              | (refine iha _ _ ?_ ⟨_, _, _, by subst ho; rfl, ?_, Nat.le_refl _⟩)
              | (refine .fin ?_; (conv => lhs; cbv) <;> refine congrArg some ?_))
          | ((fail_if_success (refine .id ?_))
             first
              | (exact ⟨hv.symm, rfl, hir.1, hir.2⟩)
              | (have hq := hpl (by omega); omega)
              | (refine dI ?_; rw [i2, homeM_top (by rw [← i1]; omega)])
              | (refine dI ?_; exact (i2.trans (home_hit hT i1 (by omega) hyn (by assumption) (by dsimp only; omega))).symm)
              | (have hq := hpl (by omega); exact ⟨hv.symm, i2.trans (home_on hT i1 (by omega) hyn (by first | exact .inl (by assumption) | exact .inr (by dsimp only; omega))), by omega, by omega⟩))))
      | (refine .fin ?_; (conv => lhs; cbv) <;> refine congrArg some ?_))
  | ((fail_if_success (refine .id ?_))
     first
      | (refine dI ?_; first | exact homeM_no (by assumption) | exact homeM_out (by subst ho; simp (disch := omega) only [std, wI, len_eNd] at hv; exact hv))
      | assumption))
theorem impl_homeOf.ans {xa xb : Option (List D → Option D)} (o : Std) (ho : o = std) (l : List Nd) (up : List Int) (i : Int) (h0 : OkT l) (h1 : up = parsM l) (h2 : 0 ≤ i ∧ i < l.length) : Ans (env xa xb) 123 [rNd o l, rK o up, iX i] (iX (homeM l i)) := by
 refine Ans.mkA ho _ rfl rfl ?_
 have hs := h0.size; have hul := len_parsM l; rw [← h1] at hul
 repeat' (first
  | (refine .id ?_
     (try (conv => arg 2; cbv))
     first
      | (refine .indF (fun m_ s_ => ∃ (a2 : Int) (tk : List Nat), s_ = ⟨[rNd o l, rK o up, iX a2] ++ List.replicate 31 Jk, [], [], tk⟩ ∧ (homeM l i = homeM l a2 ∧ 0 ≤ a2 ∧ a2 < l.length) ∧ (l.length - a2).toNat ≤ m_) _ _ ⟨_, _, by subst ho; rfl, ?_, Nat.le_refl _⟩ ?_
         rotate_right
         rintro m_ _ ⟨a2, tk, rfl, hIa, hka⟩ iha
         obtain ⟨i1, i2, i3⟩ := hIa; refine .unloopA ho ?_
         repeat' (first
          | (refine .id ?_
             (try (conv => arg 2; cbv))
             first
              | refine .testT ?_
              | refine .testF ?_
              | (refine .test (fun hr => ?_) (fun hr => ?_) <;> (have hb := hr) <;> (try simp (disch := omega) only [ho, std, wI, lenE, Int.ofNat_eq_natCast, nrm] at hb) <;> (try (exfalso; first | contradiction | omega | exact hb rfl)))
              | (refine .pE (β := Bool) .bool (as' := [rNd o _, iX _]) (impl_isFun.ans o ho _ _ ?_) ?_; rotate_left 1; rintro (_ | _) hv <;> (try simp only [dE] at hv) <;> (try first | contradiction | exact bX hv))
              | (refine .fetchYK ho ?_ ?_ (by with_reducible assumption) ?_)
              | (refine .fetchXK ho ?_ ?_ (fun y hy => ?_); rotate_left 2; (first | (have _h := hpp; have hyR := hy) | (obtain ⟨pq, ek⟩ : ∃ z, z = y := ⟨_, rfl⟩; subst ek; have hpp : pq = parS l a2 := (by rw [h1] at hy; exact hy.symm.trans (rI_parsI i2 i3)); have hpl := h0.par_lt (n := a2); rw [← hpp] at hpl)))
              | (refine .fetchXNd ho ?_ ?_ (fun y hy => ?_); rotate_left 2; rcases y with ⟨y0, y1, y2, y3, y4, y5, y6⟩; (first | (have _h := hyn) | (have hyn := hy)))
              | (refine iha _ _ ?_ ⟨_, _, by subst ho; rfl, ?_, Nat.le_refl _⟩)
              | (refine .fin ?_; (conv => lhs; cbv) <;> refine congrArg some ?_))
          | ((fail_if_success (refine .id ?_))
             first
              | (exact ⟨rfl, h2.1, h2.2⟩)
              | (have hq := hpl (by omega); omega)
              | (refine dI ?_; rw [i1, homeM_top (by omega)])
              | (refine dI ?_; exact (i1.trans (home_hit h0 hpp (by omega) hyn (by first | assumption | (subst ho; rw [← hv]; exact congrArg lamB hyn.symm) | (rw [hyn] at hv; assumption)) (by dsimp only; omega))).symm)
              | (have hq := hpl (by omega); refine ⟨i1.trans (home_on h0 hpp (by omega) rfl (by first | exact .inl (by assumption) | exact .inr (by rw [hyn]; dsimp only; omega))), by omega, by omega⟩)
              | assumption
              | omega))))
  | ((fail_if_success (refine .id ?_))
     first
      | fail))
theorem impl_HomeOf.ans {xa xb : Option (List D → Option D)} (o : Std) (ho : o = std) (l : List Nd) (i : Int) (h0 : Sz l) (h1 : l.length ≤ 1048576) : Ans (env xa xb) 96 [rNd o l, iX i] (iX (homeM l i)) := by
 refine Ans.mkA ho _ rfl rfl ?_
 repeat' (first
  | (refine .id ?_
     (try (conv => arg 2; cbv))
     first
      | refine .testT ?_
      | refine .t1 ?_
      | refine .t0 ?_
      | refine .tN1 ho ?_
      | refine .tN0 ho ?_
      | (refine .test (fun hr => ?_) (fun hr => ?_) <;> (have hb := hr) <;> (try simp (disch := omega) only [ho, std, wI, lenE, Int.ofNat_eq_natCast, nrm] at hb) <;> (try (exfalso; first | contradiction | omega | exact hb rfl)))
      | (refine .pE (β := Bool) .bool (as' := [rNd o _]) (impl_NodesOk.ans o ho _ ?_ ?_) ?_; rotate_left 2; rintro (_ | _) hv <;> (try simp only [dE] at hv) <;> (try first | contradiction | exact bX hv))
      | (refine .pE (β := Bool) .bool (as' := [iX _, iX _, iX _]) (impl_in.ans o ho _ _ _) ?_; rintro (_ | _) hv <;> (try simp only [dE] at hv) <;> (try first | contradiction | exact bX hv) <;> (try (have hir : 0 ≤ i ∧ i < l.length := (by subst ho; simp (disch := omega) only [std, wI, len_eNd] at hv; omega))))
      | (refine .pE (β := List Int) (rK o) (as' := [rNd o _]) (impl_parents.ans o ho _ ?_) ?_; rotate_left 1; rintro v hv)
      | (refine .pE (β := Int) (fun v => iX v) (as' := [rNd o _, rK o _, iX _]) (impl_homeOf.ans o ho _ _ _ ?_ ?_ ?_) ?_; rotate_left 3; rintro v hv)
      | (refine .fin ?_; (conv => lhs; cbv) <;> refine congrArg some ?_))
  | ((fail_if_success (refine .id ?_))
     first
      | (exact okM_iff.1 (by assumption))
      | (exact hir)
      | (refine dI ?_; first | exact homeM_no (by assumption) | exact homeM_out (by subst ho; simp (disch := omega) only [std, wI, len_eNd] at hv; exact hv))
      | (rw [hv])
      | assumption))
noncomputable def impl_FunGraph_mid.fi : FnI := { fni Tryz.f53 (fun | 4 => [0, 7, 16, 17, 18] | _ => []) false with body := takeC 1 (dropC 1 (bodyOf Tryz.f53)) }
theorem impl_FunGraph_mid.part {xa xb : Option (List D → Option D)} (o : Std) (ho : o = std) (l : List Nd) (dp : Int) (h0 : Sz l) (h1 : l.length ≤ 1048576) : AnsI (env xa xb) impl_FunGraph_mid.fi .normal (fun s => if s.t.length = 35 then s.t[7]? else none) [rNd o l, Jk, Jk, Jk, Jk, rEd o (graphM l dp)] (fun d_ tk_ => ∃ (tz : Tok) , d_ = .sl tz 2 (o.bx fun _ => eEd (funR l dp)) ∧ (Lw tk_ tz (funR l dp).length)) := by
 refine AnsI.mkA ho (by rfl) ?_
 have hgl := graphM_len l dp
 repeat' (first
  | (refine .id ?_
     (try (conv => arg 2; cbv))
     first
      | (refine .indF (fun m_ s_ => ∃ (ea7 : Box) (a17 : Int) (a18 : Int) (ta7 : Tok) (tk : List Nat), s_ = ⟨[rNd o l, Jk, Jk, Jk, Jk, Jk, Jk, .sl ta7 2 ea7, Jk, Jk, Jk, Jk, Jk, Jk, Jk, Jk, rEd o (graphM l dp), iX a17, iX a18] ++ List.replicate 16 Jk, [], [], tk⟩ ∧ Lw tk ta7 ea7.length ∧ ea7 = (o.bx fun _ => eEd (((graphM l dp).take a18.toNat).map (homeE l))) ∧ (a17 = (graphM l dp).length ∧ 0 ≤ a18 ∧ a18 ≤ (graphM l dp).length) ∧ ((graphM l dp).length - a18).toNat ≤ m_) _ _ ⟨_, _, _, _, _, by subst ho; rfl, ?_, ?_, ?_, Nat.le_refl _⟩ ?_
         rotate_right
         rintro m_ _ ⟨ea7, a17, a18, ta7, tk, rfl, hla0, rfl, hIa, hka⟩ iha
         obtain ⟨i0, i1, i2⟩ := hIa; have hcl := homes_len (l := l) hgl a18.toNat; refine .unloopA ho ?_
         repeat' (first
          | (refine .id ?_
             (try (conv => arg 2; cbv))
             first
              | (refine .test (fun hr => ?_) (fun hr => ?_) <;> (have hb := hr) <;> (try simp (disch := omega) only [ho, std, wI, lenE, Int.ofNat_eq_natCast, nrm] at hb) <;> (try (exfalso; first | contradiction | omega | exact hb rfl)))
              | (refine .pE (β := Int) (fun v => iX v) (as' := [rNd o _, iX _]) (impl_HomeOf.ans o ho _ _ ?_ ?_) ?_; rotate_left 2; rintro v hv)
              | (refine .fetchXEd ho ?_ ?_ (fun y hy => ?_); rotate_left 2; rcases y with ⟨y0, y1⟩; (first | (have _h := hyk) | (have hyk := hy)))
              | (refine .needD ho (by kernel_rfl) ?_)
              | (refine .need ?_ ?_)
              | (refine .app1w ?_ (fun t' tk' hl' => ?_))
              | (refine iha _ _ ?_ ⟨_, _, _, _, _, by subst ho; rfl, ?_, ?_, ?_, Nat.le_refl _⟩)
              | (refine .done ⟨rfl, ?_⟩; refine ⟨_, by (conv => lhs; cbv) <;> rfl, ?_⟩))
          | ((fail_if_success (refine .id ?_))
             first
              | (exact Lw.nil)
              | (subst ho; exact hla0)
              | (subst ho; exact ⟨by simp [std, len_eEd], Int.le_refl _, by omega⟩)
              | ((try clear iha); subst ho; simp (disch := omega) only [std, wI]; exact push1Ed (homes_hit i1 (by omega) hyk (by assumption)).symm)
              | ((try clear iha); subst ho; simp (disch := omega) only [std, wI]; exact ⟨i0, by omega, by omega⟩)
              | (subst ho; refine ⟨_, congrArg (D.sl _ 2) (congrArg eEd (homes_fin (by omega))), ?_⟩; rw [← homes_fin (show ((graphM l dp).length : Int) ≤ a18 by omega)]; simpa [std, len_eEd] using hla0)
              | assumption
              | omega
              | (subst ho; rfl)
              | (subst ho; simpa [std, lenE] using hl')
              | (subst ho; simp (disch := omega) only [std, wI, tdiv2, tdivN, lenE] <;> first | done | rfl | omega)
              | (subst ho; simp [std, lenE]; omega)))))
  | ((fail_if_success (refine .id ?_))
     first
      | fail))
end Go.Mach
