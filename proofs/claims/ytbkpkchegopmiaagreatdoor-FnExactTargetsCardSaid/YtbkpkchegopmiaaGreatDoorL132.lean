/- FnExactTargets: the law: part 35 of a proof by an executable machine over the program's code. -/
import Derived.Test.YtbkpkchegopmiaaGreatDoorMb13
import Derived.Test.YtbkpkchegopmiaaGreatDoorMb16
import Derived.Test.YtbkpkchegopmiaaGreatDoorMb17
import Derived.Test.YtbkpkchegopmiaaGreatDoorMb23
import Derived.Test.YtbkpkchegopmiaaGreatDoorMb25
import Derived.Test.YtbkpkchegopmiaaGreatDoorMb30
import Derived.Test.YtbkpkchegopmiaaGreatDoorMb32
import Derived.Test.YtbkpkchegopmiaaGreatDoorL131
set_option linter.unusedVariables false
set_option linter.unusedSimpArgs false
namespace Go.Mach
open Go Go.RowKit Go.Proofs
set_option maxRecDepth 100000
set_option maxHeartbeats 4000000
theorem Mark.trans' {a b : Nat} {w w1 w2 : World} (h : Mark a b w w1) (k : Mark a b w1 w2) : Mark a b w w2 := ⟨k.1.trans h.1, k.2.1.trans h.2.1, ⟨k.2.2.1.1.trans h.2.2.1.1, Nat.le_trans h.2.2.1.2 k.2.2.1.2⟩, Nat.le_trans h.2.2.2.1 k.2.2.2.1, fun x hx hd => (k.2.2.2.2 x (Nat.lt_of_lt_of_le hx h.2.2.2.1) hd).trans (h.2.2.2.2 x hx hd)⟩
theorem Stay.mark (a b : Nat) {w w1 : World} (h : Stay w w1) : Mark a b w w1 := ⟨h.1.os, h.1.tape, ⟨h.1.output, h.2⟩, h.1.size, fun x hx _ => h.1.block x hx⟩
theorem edgesIn_calls {w : World} {v : Value} {m : List Ed} {lo hi : Nat} (hv : Row lo hi w 2 (eEd m) v) (hu : Unf w 2 (eEd m) v) (hh : hi ≤ w.heap.size) (hl : m.length ≤ 6300000) :
  Calls Tryz.prog 77 #[v] w fun e w' => ∃ v', e = .returned v' ∧ Row w.heap.size w'.heap.size w' 2 (eEd (canE m)) v' ∧ Unf w' 2 (eEd (canE m)) v' ∧ Mark lo hi w w' := by
 have e98 : ∀ args w, (callFunc 98 args).run Tryz.prog w = .ok (.enter 98 args) w := enters_of Tryz.func98 (by kernel_rfl) rfl
 have hn : Tryz.f77.ntmps = 34 := by kernel_rfl
 have t42 := Tryz.underlying42
 have hs0 : Stay w (w.alloc (.cells #[v] 42)) := ⟨(Below.refl _ _).alloc (Nat.le_refl _) _, Nat.le_refl _⟩
 have hc1 : (w.alloc (.cells #[v] 42)).cell? ⟨w.heap.size, 0, none⟩ = some v := by rw [cell_alloc_new]; rfl
 have hz1 : w.heap.size < (w.alloc (.cells #[v] 42)).heap.size := by rw [size_alloc]; exact Nat.lt_succ_self _
 have hC := sortE_calls (hv.stay hh hs0) (hu.stay hv hh hs0) hh hz1 hc1 (by omega)
 obtain ⟨x, c0, rfl⟩ := hv.shape
 refine calls_of_wp Tryz.func77 (c := bodyOf Tryz.f77) (by kernel_rfl) ?_
 simp only [hn, List.size_toArray, List.length_cons, List.length_nil, Nat.reduceAdd, Nat.reduceSub, Array.replicate_succ, Array.replicate_zero, List.push_toArray, List.append_toArray, List.nil_append, List.cons_append]
 have hb : bodyOf Tryz.f77 = .seq (headC 0 (bodyOf Tryz.f77)) (.seq (headC 1 (bodyOf Tryz.f77)) impl_edgesIn_rest.fi.body) := by kernel_rfl
 rw [hb]
 obtain ⟨c, hc⟩ : ∃ c, c = impl_edgesIn_rest.fi.body := ⟨_, rfl⟩
 rw [← hc]
 simp only [headC, bodyOf, Tryz.f77, Option.getD]
 go_wp2_with (go_at_fn 98; refine hC.mono ?_; rintro e w2 ⟨rfl, hr2, hu2, hm2⟩)
 rw [hc]
 have hc2 : w2.cell? ⟨w.heap.size, 0, none⟩ = some (.slice x (eEd m).length c0) := (World.cell?_of_block (a := ⟨w.heap.size, 0, none⟩) (hm2.2.2.2.2 _ hz1 (.inr hh))).trans hc1
 have hz2 : w.heap.size < w2.heap.size := Nat.lt_of_lt_of_le hz1 hm2.2.2.2.1
 obtain ⟨σ, hrd, hs⟩ := hr2.rd (flt_eEd (srtE m))
 have hrm := hrd.mono (σ' := fun b => if b = w.heap.size then 1 else σ b) (w' := w2) (fun b => by
  show σ b ≤ if b = w.heap.size then 1 else σ b
  split
  ·rename_i e; subst e; rw [hs _ hh]; omega
  ·exact Nat.le_refl _) (fun _ _ _ => rfl)
 refine wp_rest env_okA (.inr rfl) (impl_edgesIn_rest.part std rfl (srtE m) (by rw [len_srtE]; exact hl)) rfl (σ := fun b => if b = w.heap.size then 1 else σ b) rfl rfl ?_ (fun b hb => ?_) ?_
 ·intro i hi'
  match i, hi' with
  | 0, _ => exact .inl rfl
  | 1, _ =>
   refine .inr (.inr ⟨rfl, fun F G tk hG => ?_⟩)
   refine .pel [.sl .ro 2 (eEd (srtE m))] 0 w.heap.size 0 (fun _ => .slice x (eEd m).length c0) (by rw [hG]; show 0 + 1 ≤ (if w.heap.size = w.heap.size then 1 else _); rw [if_pos rfl]; omega) (fun c hc => ?_) (fun j hj => ?_) (fun j hj => ?_)
   ·simp only [List.mem_singleton] at hc; subst hc; rfl
   ·match j, hj with
    | 0, _ => exact hc2
   ·match j, hj with
    | 0, _ => rw [hG]; exact hrm
  | 2, _ => exact .inr (.inl ⟨rfl, .slN _ _⟩)
 ·show (if b = w.heap.size then 1 else σ b) = 0
  rw [if_neg (by omega), hs b (by omega)]
 ·rintro v' d tk σ' w'' ⟨rfl, _⟩ h1 h2 h3 h3d h4 h5
  have e : dedE (srtE m) (srtE m).length = canE m := by rw [len_srtE]; exact srtE_ded m
  rw [e] at h1 h2
  refine ⟨v', rfl, (Row.of_rd h1 (flt_eEd _) h5 (fun b o l c hv => (h2 b o l c hv).1)).wide (by omega) (Nat.le_refl _), fun b o l c hv j hj => ((h2 b o l c hv).2 j hj).2, ?_⟩
  exact ((hs0.mark lo hi).trans' hm2).trans' (Stay.mark lo hi ⟨h3, h3d⟩)
end Go.Mach
namespace Go.Mach
open Go Go.RowKit Go.Proofs
set_option maxRecDepth 100000
set_option maxHeartbeats 3000000
theorem impl_CallGraph_no.ans {ga gb : List D → Option D} (o : Std) (ho : o = std) (l : List Nd) (dp : Int) (h0 : PassSpec ga) (h1 : FreeSpec gb) (h2 : Sz l) (h3 : l.length ≤ 1048576) (h4 : (solveR l dp).2 = false) : Ans (env (some ga) (some gb)) 45 [.sl .ro 7 (o.bx fun _ => eNd l), .int .i64 dp] (.tup [.sl .nw 2 (o.bx fun _ => eEd ((([] : List Ed), false)).1), .bool ((([] : List Ed), false)).2]) := by
  refine Ans.mkA ho _ rfl rfl ?_
  repeat' (first
    | (refine Den.id ?_
       (try (conv => arg 2; cbv))
       first
         | refine Den.testN1 ho (by first | with_reducible assumption | with_reducible rfl) ?_
         | (refine Den.pcallE (β := (List Fc) × Bool) (fun v => .tup [.sl .nw 6 (o.bx fun _ => eFc v.1), .bool v.2]) (as' := [.sl .ro 7 (o.bx fun _ => eNd _), .int .i64 _]) (by first | with_reducible rfl | (subst ho; rfl)) (impl_Solve.ans o ho _ _ ?_ ?_ ?_ ?_) ?_; rotate_left 4; rintro ⟨v0, (_ | _)⟩ hv <;> (try simp only [decide_eq_true_eq, decide_eq_false_iff_not] at hv) <;> (try first | contradiction | exact absurd (hv.symm.trans (show _ = false by assumption)) (by decide) | exact absurd (hv.symm.trans (show _ = true by assumption)) (by decide)) <;> (try (exfalso; rw [hv] at h4; cases h4; done)))
         | (refine Den.indF (fun m_ s_ => ∃ (a6 : List Fc) (a8 : List Ed) (a22 : List Fc) (a23 : Int) (a24 : Int) (ta6 ta8 ta22 : Tok) (tk : List Nat), s_ = ⟨[.sl .ro 7 (o.bx fun _ => eNd l), .junk, .junk, .junk, .junk, .junk, .sl ta6 6 (o.bx fun _ => eFc a6), .junk, .sl ta8 2 (o.bx fun _ => eEd a8), .junk, .junk, .junk, .junk, .junk, .junk, .junk, .junk, .junk, .junk, .junk, .junk, .junk, .sl ta22 6 (o.bx fun _ => eFc a22), .int .i64 a23, .int .i64 a24] ++ List.replicate 54 .junk, [], [], tk⟩ ∧ (True) ∧ (0 : Nat) ≤ m_) _ _ ⟨_, _, _, _, _, _, _, _, _, by subst ho; rfl, ?_, Nat.le_refl _⟩ ?_
            rotate_right
            rintro m_ _ ⟨a6, a8, a22, a23, a24, ta6, ta8, ta22, tk, rfl, hIa, hka⟩ iha
            refine Den.unloopA ho ?_
            repeat' (first
              | (refine Den.id ?_
                 (try (conv => arg 2; cbv))
                 first
                   | (refine Den.indF (fun m_ s_ => ∃ (b8 : List Ed) (b24 : Int) (b58 : List Ab) (b59 : Int) (b60 : Int) (tb8 tb58 : Tok) (tk : List Nat), s_ = ⟨[.sl .ro 7 (o.bx fun _ => eNd l), .junk, .junk, .junk, .junk, .junk, .sl ta6 6 (o.bx fun _ => eFc a6), .junk, .sl tb8 2 (o.bx fun _ => eEd b8), .junk, .pbx (.loc 0) 0, .junk, .junk, .junk, .junk, .junk, .junk, .junk, .junk, .junk, .junk, .junk, .sl ta22 6 (o.bx fun _ => eFc a22), .int .i64 a23, .int .i64 b24, .junk, .junk, .junk, .junk, .junk, .junk, .junk, .junk, .junk, .junk, .junk, .junk, .junk, .junk, .junk, .junk, .junk, .junk, .junk, .junk, .junk, .junk, .junk, .junk, .junk, .junk, .junk, .junk, .junk, .junk, .junk, .junk, .junk, .sl tb58 3 (o.bx fun _ => eAb b58), .int .i64 b59, .int .i64 b60] ++ List.replicate 18 .junk, [], [], tk⟩ ∧ (True) ∧ (0 : Nat) ≤ m_) _ _ ⟨_, _, _, _, _, _, _, _, by subst ho; rfl, ?_, Nat.le_refl _⟩ ?_
                      rotate_right
                      rintro m_ _ ⟨b8, b24, b58, b59, b60, tb8, tb58, tk, rfl, hIb, hkb⟩ ihb
                      refine Den.unloopA ho ?_
                      repeat' (first
                        | (refine Den.id ?_
                           (try (conv => arg 2; cbv))
                           first
                             | fail)
                        | ((fail_if_success (refine Den.id ?_))
                           first
                             | fail))))
              | ((fail_if_success (refine Den.id ?_))
                 first
                   | fail)))
         | (refine Den.done ⟨by first | exact Or.inl rfl | exact Or.inr rfl, ?_⟩; (conv => lhs; cbv) <;> refine congrArg some ?_))
    | ((fail_if_success (refine Den.id ?_))
       first
         | assumption
         | (subst ho; rfl)))
noncomputable def impl_CallGraph_pre.fi : FnI := { fni Tryz.f45 (fun | 6 => [0, 6, 8, 22, 23, 24] | 12 => [0, 6, 8, 10, 22, 23, 24, 58, 59, 60] | _ => []) false with body := takeC 4 (bodyOf Tryz.f45) }
theorem impl_CallGraph_pre.part {ga gb : List D → Option D} (o : Std) (ho : o = std) (l : List Nd) (dp : Int) (h0 : PassSpec ga) (h1 : FreeSpec gb) (h2 : Sz l) (h3 : l.length ≤ 1048576) (h4 : (solveR l dp).2 = true) : AnsI (env (some ga) (some gb)) impl_CallGraph_pre.fi .normal (fun s => if s.t.length = 79 then s.t[8]? else none) [.sl .ro 7 (o.bx fun _ => eNd l), .int .i64 dp] (fun d_ tk_ => ∃ (tz : Tok) , d_ = .sl tz 2 (o.bx fun _ => eEd (graphR l dp)) ∧ (Lw tk_ tz (graphR l dp).length)) := by
  refine AnsI.mkA ho (by rfl) ?_
  have hall := solveR_all l dp; have hfr := solveR_fr l dp
  repeat' (first
    | (refine Den.id ?_
       (try (conv => arg 2; cbv))
       first
         | refine Den.testN0 ho (by first | with_reducible assumption | with_reducible rfl) ?_
         | (refine Den.pcallE (β := (List Fc) × Bool) (fun v => .tup [.sl .nw 6 (o.bx fun _ => eFc v.1), .bool v.2]) (as' := [.sl .ro 7 (o.bx fun _ => eNd _), .int .i64 _]) (by first | with_reducible rfl | (subst ho; rfl)) (impl_Solve.ans o ho _ _ ?_ ?_ ?_ ?_) ?_; rotate_left 4; rintro ⟨v0, (_ | _)⟩ hv <;> (try simp only [decide_eq_true_eq, decide_eq_false_iff_not] at hv) <;> (try first | contradiction | exact absurd (hv.symm.trans (show _ = false by assumption)) (by decide) | exact absurd (hv.symm.trans (show _ = true by assumption)) (by decide)) <;> (try (exfalso; rw [hv] at h4; cases h4; done)))
         | (refine Den.indF (fun m_ s_ => ∃ (a6 : List Fc) (ea8 : Box) (a22 : List Fc) (a23 : Int) (a24 : Int) (ta6 ta8 ta22 : Tok) (tk : List Nat), s_ = ⟨[.sl .ro 7 (o.bx fun _ => eNd l), .junk, .junk, .junk, .junk, .junk, .sl ta6 6 (o.bx fun _ => eFc a6), .junk, .sl ta8 2 ea8, .junk, .junk, .junk, .junk, .junk, .junk, .junk, .junk, .junk, .junk, .junk, .junk, .junk, .sl ta22 6 (o.bx fun _ => eFc a22), .int .i64 a23, .int .i64 a24] ++ List.replicate 54 .junk, [], [], tk⟩ ∧ Lw tk ta8 ea8.length ∧ ea8 = (o.bx fun _ => eEd (rawG l (solveR l dp).1 ((solveR l dp).1.take a24.toNat))) ∧ (a6 = (solveR l dp).1 ∧ a22 = (solveR l dp).1 ∧ a23 = (solveR l dp).1.length ∧ 0 ≤ a24 ∧ a24 ≤ (solveR l dp).1.length) ∧ ((solveR l dp).1.length - a24).toNat ≤ m_) _ _ ⟨_, _, _, _, _, _, _, _, _, by subst ho; rfl, ?_, ?_, ?_, Nat.le_refl _⟩ ?_
            rotate_right
            rintro m_ _ ⟨a6, ea8, a22, a23, a24, ta6, ta8, ta22, tk, rfl, hla0, rfl, hIa, hka⟩ iha
            obtain ⟨rfl, rfl, i0, i1, i2⟩ := hIa; have hcl := rawG_lenT (l := l) hall.1 a24.toNat; refine Den.unloopA ho ?_
            repeat' (first
              | (refine Den.id ?_
                 (try (conv => arg 2; cbv))
                 first
                   | refine Den.testT ?_
                   | refine Den.test1 (by with_reducible assumption) ?_
                   | refine Den.test0 (by with_reducible assumption) ?_
                   | (refine Den.test (fun hr => ?_) (fun hr => ?_) <;> (have hb := hr) <;> (try simp (disch := omega) only [ho, std, wI, len_eK, len_eB, len_eNd, len_eLNd, len_eFc, len_eAb, len_eBd, len_eEd, len_eLBd, Int.ofNat_eq_natCast, Classical.not_not, decide_eq_true_eq, decide_eq_false_iff_not, beq_iff_eq, beq_eq_false_iff_ne, ne_eq, Bool.not_eq_true', Bool.not_eq_false', Bool.not_eq_true, Bool.not_eq_false, gt_iff_lt, ge_iff_le, Int.not_lt, Int.not_le] at hb) <;> (try (exfalso; first | contradiction | omega | exact hb rfl)))
                   | (refine Den.pcallE (β := List Ab) (fun v => .sl .ro 3 (o.bx fun _ => eAb v)) (as' := [.sl .ro 6 (o.bx fun _ => eFc _), .int .i64 _, .int .i64 _, .int .i64 _]) (by first | with_reducible rfl | (subst ho; rfl)) (impl_absAt.ans o ho _ _ _ _ ?_ ?_ ?_) ?_; rotate_left 3; rintro v hv; (first | (have _h := hv2) | (have _h := hv1; have hv2 := hv; obtain ⟨v2, e_v2⟩ : ∃ z, z = v := ⟨_, rfl⟩; subst e_v2) | (have hv1 := hv)))
                   | (refine Den.fetchYNd ho ?_ ?_ (by with_reducible assumption) ?_)
                   | (refine Den.fetchXNd ho ?_ ?_ (fun y hy => ?_); rotate_left 2; rcases y with ⟨y0, y1, y2, y3, y4, y5, y6⟩; (first | (have _h := hyn) | (have hyn := hy)))
                   | (refine Den.fetchXFc ho ?_ ?_ (fun y hy => ?_); rotate_left 2; rcases y with ⟨yk, yn, yc, yvk, yvn, yvc⟩; (first | (have _h := hyf) | (have hyf := hy; have hnr := hall.2 _ (rdG_mem (z := zF) i1 (by omega)); rw [show rdG zF _ _ = _ from hyf] at hnr; dsimp only at hnr; obtain ⟨fk, e_fk⟩ : ∃ z, z = yk := ⟨_, rfl⟩; subst e_fk; obtain ⟨fn, e_fn⟩ : ∃ z, z = yn := ⟨_, rfl⟩; subst e_fn; obtain ⟨fc, e_fc⟩ : ∃ z, z = yc := ⟨_, rfl⟩; subst e_fc; obtain ⟨gk, e_gk⟩ : ∃ z, z = yvk := ⟨_, rfl⟩; subst e_gk; obtain ⟨gn, e_gn⟩ : ∃ z, z = yvn := ⟨_, rfl⟩; subst e_gn; obtain ⟨gc, e_gc⟩ : ∃ z, z = yvc := ⟨_, rfl⟩; subst e_gc)))
                   | (refine Den.indF (fun m_ s_ => ∃ (eb8 : Box) (b59 : Int) (b60 : Int) (tb8 : Tok) (tk : List Nat), s_ = ⟨[.sl .ro 7 (o.bx fun _ => eNd l), .junk, .junk, .junk, .junk, .junk, .sl ta6 6 (o.bx fun _ => eFc (solveR l dp).1), .junk, .sl tb8 2 eb8, .junk, .pbx (.loc 0) 0, .junk, .junk, .junk, .junk, .junk, .junk, .junk, .junk, .junk, .junk, .junk, .sl ta22 6 (o.bx fun _ => eFc (solveR l dp).1), .int .i64 a23, .int .i64 a24, .junk, .junk, .junk, .junk, .junk, .junk, .junk, .junk, .junk, .junk, .junk, .junk, .junk, .junk, .junk, .junk, .junk, .junk, .junk, .junk, .junk, .junk, .junk, .junk, .junk, .junk, .junk, .junk, .junk, .junk, .junk, .junk, .junk, .sl .ro 3 (o.bx fun _ => eAb v2), .int .i64 b59, .int .i64 b60] ++ List.replicate 18 .junk, [[[.int .i64 fk, .int .i64 fn, .int .i64 fc, .int .i64 gk, .int .i64 gn, .int .i64 gc]], [[.int .i64 y0, .int .i64 y1, .int .i64 y2, .int .i64 y3, .int .i64 y4, .str y5, .str y6]]], [], tk⟩ ∧ Lw tk tb8 eb8.length ∧ eb8 = (o.bx fun _ => eEd (rawG l (solveR l dp).1 ((solveR l dp).1.take a24.toNat) ++ edgesV fn (v2.take b60.toNat))) ∧ (b59 = v2.length ∧ 0 ≤ b60 ∧ b60 ≤ v2.length) ∧ (v2.length - b60).toNat ≤ m_) _ _ ⟨_, _, _, _, _, by subst ho; rfl, ?_, ?_, ?_, Nat.le_refl _⟩ ?_
                      rotate_right
                      rintro m_ _ ⟨eb8, b59, b60, tb8, tk, rfl, hlb0, rfl, hIb, hkb⟩ ihb
                      obtain ⟨j0, j1, j2⟩ := hIb; have hvl := vals_lenE hall.1 hv2; have hci := edges_inn (l := l) hall.1 hv2 a24.toNat fn b60.toNat; rw [List.length_append] at hci; refine Den.unloopA ho ?_
                      repeat' (first
                        | (refine Den.id ?_
                           (try (conv => arg 2; cbv))
                           first
                             | (refine Den.test (fun hr => ?_) (fun hr => ?_) <;> (have hb := hr) <;> (try simp (disch := omega) only [ho, std, wI, len_eK, len_eB, len_eNd, len_eLNd, len_eFc, len_eAb, len_eBd, len_eEd, len_eLBd, Int.ofNat_eq_natCast, Classical.not_not, decide_eq_true_eq, decide_eq_false_iff_not, beq_iff_eq, beq_eq_false_iff_ne, ne_eq, Bool.not_eq_true', Bool.not_eq_false', Bool.not_eq_true, Bool.not_eq_false, gt_iff_lt, ge_iff_le, Int.not_lt, Int.not_le] at hb) <;> (try (exfalso; first | contradiction | omega | exact hb rfl)))
                             | (refine Den.fetchXAb ho ?_ ?_ (fun y hy => ?_); rotate_left 2; rcases y with ⟨yk, yn, yc⟩; (first | (have _h := hya) | (have hya := hy)))
                             | (refine Den.need ?_ ?_)
                             | (refine Den.app1w ?_ (fun t' tk' hl' => ?_))
                             | (refine ihb _ _ ?_ ⟨_, _, _, _, _, by subst ho; rfl, ?_, ?_, ?_, Nat.le_refl _⟩)
                             | (refine iha _ _ ?_ ⟨_, _, _, _, _, _, _, _, _, by subst ho; rfl, ?_, ?_, ?_, Nat.le_refl _⟩))
                        | ((fail_if_success (refine Den.id ?_))
                           first
                             | (subst ho; exact hla0)
                             | (subst ho; exact hlb0)
                             | (subst ho; exact congrArg eEd (inn_zero _ _ _).symm)
                             | (subst ho; exact ⟨by simp [std, len_eAb], Int.le_refl _, by omega⟩)
                             | ((try clear iha); (try clear ihb); subst ho; simp (disch := omega) only [std, wI]; first | exact push1Ed (inn_hit j1 (by omega) hya (by dsimp only; omega)) | exact congrArg eEd (inn_miss j1 (by omega) hya (by dsimp only; omega)).symm)
                             | ((try clear iha); (try clear ihb); subst ho; simp (disch := omega) only [std, wI]; exact ⟨j0, by omega, by omega⟩)
                             | ((try clear iha); (try clear ihb); subst ho; simp (disch := omega) only [std, wI]; first | exact congrArg eEd (inn_end i1 (by omega) hyf (edgeP_yes (by dsimp only; omega) hyn (by dsimp only; omega) hv1 (by omega)) hyn hv2 (by omega)).symm | exact congrArg eEd (rawG_miss i1 (by omega) hyf (by first | exact edgeP_no1 (by dsimp only; omega) | exact edgeP_no2 hyn (by dsimp only; omega) | exact edgeP_no3 hyn hv1 (by omega))).symm)
                             | ((try clear iha); (try clear ihb); subst ho; simp (disch := omega) only [std, wI]; exact ⟨by trivial, by trivial, i0, by omega, by omega⟩)
                             | assumption
                             | omega
                             | (subst ho; simpa [std, len_eFc, len_eNd, len_eBd, len_eAb, len_eLBd, len_eK, len_eB] using hl')
                             | (subst ho; simp (disch := omega) only [std, wI, tdiv2, tdivN, len_eFc, len_eNd, len_eBd, len_eAb, len_eLBd, len_eK, len_eB] <;> first | done | rfl | omega)
                             | (subst ho; simp [std, len_eFc, len_eNd, len_eBd, len_eAb, len_eLBd, len_eK, len_eB, len_eEd]; omega))))
                   | (refine iha _ _ ?_ ⟨_, _, _, _, _, _, _, _, _, by subst ho; rfl, ?_, ?_, ?_, Nat.le_refl _⟩)
                   | (refine Den.done ⟨rfl, ?_⟩; refine ⟨_, by (conv => lhs; cbv) <;> rfl, ?_⟩))
              | ((fail_if_success (refine Den.id ?_))
                 first
                   | (exact Lw.nil)
                   | (subst ho; exact hla0)
                   | (exact hfr.1)
                   | (exact hfr.2.2)
                   | (subst ho; exact ⟨(congrArg Prod.fst hv).symm, (congrArg Prod.fst hv).symm, by rw [hv]; simp [std, len_eFc], Int.le_refl _, by omega⟩)
                   | ((try clear iha); (try clear ihb); subst ho; simp (disch := omega) only [std, wI]; first | exact congrArg eEd (inn_end i1 (by omega) hyf (edgeP_yes (by dsimp only; omega) hyn (by dsimp only; omega) hv1 (by omega)) hyn hv2 (by omega)).symm | exact congrArg eEd (rawG_miss i1 (by omega) hyf (by first | exact edgeP_no1 (by dsimp only; omega) | exact edgeP_no2 hyn (by dsimp only; omega) | exact edgeP_no3 hyn hv1 (by omega))).symm)
                   | ((try clear iha); (try clear ihb); subst ho; simp (disch := omega) only [std, wI]; exact ⟨by trivial, by trivial, i0, by omega, by omega⟩)
                   | (subst ho; refine ⟨_, congrArg (D.sl _ 2) (congrArg eEd (graphR_fin (by omega))), ?_⟩; rw [← graphR_fin (show ((solveR l dp).1.length : Int) ≤ a24 by omega)]; simpa [std, len_eEd] using hla0)
                   | assumption
                   | omega
                   | (subst ho; rfl)
                   | (subst ho; simp (disch := omega) only [std, wI, tdiv2, tdivN, len_eFc, len_eNd, len_eBd, len_eAb, len_eLBd, len_eK, len_eB] <;> first | done | rfl | omega)))))
    | ((fail_if_success (refine Den.id ?_))
       first
         | assumption))
end Go.Mach
namespace Go.Mach
open Go Go.RowKit Go.Proofs
section
variable {P : Program} {E : Env} {f : FuncId} {w : World} {z : Nat} {es : Box} {t : Tok} {b : Bool} {da : List D}
theorem tup_inv {σ : Nat → Nat} {v : Value} (h : RD σ w (.tup [.sl t z es, .bool b]) v) : ∃ v1, v = .tuple #[v1, .bool b] ∧ RD σ w (.sl t z es) v1 := by
 cases h with
 | tup _ vs hl hc h =>
  obtain ⟨l⟩ := vs
  match l, hl, h with
  | [v1, v2], _, h =>
   have h0 := h 0 (by simp)
   have h1 := h 1 (by simp)
   have e1 : v2 = .bool b := by
    generalize hd : ([D.sl t z es, D.bool b].getD 1 .junk) = d at h1
    have hd2 : d = .bool b := hd.symm
    subst hd2
    generalize hv : (Array.getD ⟨[v1, v2]⟩ 1 undef) = y at h1
    have hv2 : y = v2 := hv.symm
    subst hv2
    cases h1; rfl
   subst e1
   exact ⟨v1, rfl, h0⟩
theorem rowB_calls (hE : EnvOk P E) (h : Ans E f da (.tup [.sl t z es, .bool b])) (hf : Flt z es) {vs : Array Value} (hl : vs.size = da.length) (hr : ∀ i, i < da.length → Arg w (da.getD i .junk) (vs.getD i undef)) :
  Calls P f vs w fun e w' => ∃ v, e = .returned (.tuple #[v, .bool b]) ∧ Row 0 w'.heap.size w' z es v ∧ Stay w w' := by
 refine (data_calls hE h hl hr).mono ?_
 rintro e w' ⟨v, σ', rfl, h1, _, h3, h4⟩
 obtain ⟨v1, rfl, h5⟩ := tup_inv h1
 exact ⟨v1, rfl, .of_rd h5 hf h4 (fun _ _ _ _ _ => Nat.zero_le _), h3⟩
theorem newB_calls (hE : EnvOk P E) (h : Ans E f da (.tup [.sl .nw z es, .bool b])) (hf : Flt z es) {vs : Array Value} (hl : vs.size = da.length) (hr : ∀ i, i < da.length → Arg w (da.getD i .junk) (vs.getD i undef)) :
  Calls P f vs w fun e w' => ∃ v, e = .returned (.tuple #[v, .bool b]) ∧ Row w.heap.size w'.heap.size w' z es v ∧ Unf w' z es v ∧ Stay w w' := by
 refine (data_calls hE h hl hr).mono ?_
 rintro e w' ⟨v, σ', rfl, h1, h2, h3, h4⟩
 obtain ⟨v1, rfl, h5⟩ := tup_inv h1
 have h6 : NewR w.heap.size σ' w' z es v1 := h2 0 z es rfl
 exact ⟨v1, rfl, .of_rd h5 hf h4 (fun b o l c hv => (h6 b o l c hv).1), fun b o l c hv j hj => ((h6 b o l c hv).2 j hj).2, h3⟩
end
end Go.Mach
namespace Go.Mach
open Go Go.RowKit Go.Proofs
set_option maxRecDepth 100000
set_option maxHeartbeats 4000000
theorem unf_own {w : World} {v : Value} {es : Box} {B : Nat} (h : ∀ b o l c, v = .slice (some ⟨b, o, none⟩) l c → B ≤ b ∧ ∃ c e, w.heap[b]? = some (.cells c e (0, 0))) {z : Nat} : Unf w z es v := by
 intro b o l c hv j hj
 obtain ⟨_, c1, e1, h1⟩ := h b o l c hv
 simp [World.frozen?, h1]
theorem graph_none {a : List Nd} {dp : Int} (h : (solveR a dp).2 = false) : graphM a dp = [] := by
 have h1 : (solveR a dp).1 = [] := by
  unfold solveR at h ⊢
  split
  ·rename_i fs hs; rw [hs] at h; cases h
  ·rfl
 unfold graphM graphR rawG
 rw [h1]; rfl
theorem graph_calls {w : World} {lo hi : Nat} {v : Value} {a : List Nd} {dp : Int} (hz : SzL a) (hh : hi ≤ w.heap.size) (hv : Row lo hi w 7 (eNd a) v) :
  Calls Tryz.prog 45 #[v, .int .i64 dp] w fun e w' => ∃ v' ok, e = .returned (.tuple #[v', .bool ok]) ∧ ok = (solveR a dp).2 ∧ Row w.heap.size w'.heap.size w' 2 (eEd (graphM a dp)) v' ∧ Unf w' 2 (eEd (graphM a dp)) v' ∧ Stay w w' := by
 by_cases hok : (solveR a dp).2 = false
 ·rw [hok, graph_none hok]
  refine (newB_calls env_okA (impl_CallGraph_no.ans std rfl a dp pass_spec free_spec hz.sz (by have := hz.1; omega) hok) (flt_eEd []) rfl (args2 (.row hv hh (flt_eNd a)) .int)).mono ?_
  rintro e w' ⟨v', rfl, h1, h2, h3⟩
  exact ⟨v', _, rfl, rfl, h1, h2, h3⟩
 ·have hok : (solveR a dp).2 = true := by simpa using hok
  rw [hok]
  obtain ⟨σ, hr, hs⟩ := hv.rd (flt_eNd a)
  refine calls_pre env_okA (n := 4) (c := bodyOf Tryz.f45) (impl_CallGraph_pre.part std rfl a dp pass_spec free_spec hz.sz (by have := hz.1; omega) hok) rfl Tryz.func45 (by kernel_rfl) (by kernel_rfl) (vs := #[v, .int .i64 dp]) rfl ?_ (fun b hb => hs b (by omega)) ?_
  ·intro i hi'
   match i, hi' with
   | 0, _ => exact .inl ⟨rfl, hr⟩
   | 1, _ => exact .inl ⟨rfl, .int _ _⟩
  rintro d1 s1 G' a' w' hout ⟨tq, rfl, hlw⟩ hsim
  split at hout
  ·rename_i hlen
   have hsz79 : a'.tmps.size = 79 := by rw [hsim.tmp.1, hlen]
   have hrep := hsim.tmp.2 8 (by rw [hlen]; decide)
   have h3 : s1.t.getD 8 .junk = .sl tq 2 (eEd (graphR a dp)) := by rw [List.getD_eq_getElem?_getD, hout]; rfl
   rw [h3] at hrep
   have hlw' : Lw s1.tk tq (eEd (graphR a dp)).length := by rw [len_eEd]; exact hlw
   have hown := own_block rfl hrep hlw'
   have hrd := hrep.sl_inv.1
   have hfr := hsim.inv.fr
   have hrow : Row w.heap.size w'.heap.size w' 2 (eEd (graphR a dp)) (a'.tmps.getD 8 undef) := .of_rd hrd (flt_eEd _) hsim.inv.iceBig (fun b o l c hv => (hown b o l c hv).1)
   have hcall := edgesIn_calls hrow (unf_own hown) (Nat.le_refl _) (by have := graphR_len a dp; omega)
   obtain ⟨tm, df⟩ := a'
   obtain rfl : df = [] := hsim.def0
   dsimp only at hsz79 hcall
   have htm := arr_fn hsz79
   generalize hf : (fun i => tm.getD i undef) = f at htm
   have hf8 : tm.getD 8 undef = f 8 := by rw [← hf]
   rw [hf8] at hcall
   have htm2 : tm = #[f 0, f 1, f 2, f 3, f 4, f 5, f 6, f 7, f 8, f 9, f 10, f 11, f 12, f 13, f 14, f 15, f 16, f 17, f 18, f 19, f 20, f 21, f 22, f 23, f 24, f 25, f 26, f 27, f 28, f 29, f 30, f 31, f 32, f 33, f 34, f 35, f 36, f 37, f 38, f 39, f 40, f 41, f 42, f 43, f 44, f 45, f 46, f 47, f 48, f 49, f 50, f 51, f 52, f 53, f 54, f 55, f 56, f 57, f 58, f 59, f 60, f 61, f 62, f 63, f 64, f 65, f 66, f 67, f 68, f 69, f 70, f 71, f 72, f 73, f 74, f 75, f 76, f 77, f 78] := htm
   rw [htm2]
   simp only [dropC, bodyOf, Tryz.f45, Option.getD]
   have e77 : ∀ args w, (callFunc 77 args).run Tryz.prog w = .ok (.enter 77 args) w := enters_of Tryz.func77 (by kernel_rfl) rfl
   have hw0 : Stay w w' := ⟨⟨hfr.os, hfr.tape, hfr.output.1, hfr.size, fun b hb => hfr.same b hb (fun p hp => by cases hp) (fun hh => by cases hh)⟩, hfr.output.2⟩
   clear hsim hrep hown hrd hr htm htm2 hout h3 hf hf8 hfr hrow
   go_wp2_with (go_at_fn 77; refine hcall.mono ?_; rintro e w'' ⟨v', rfl, hr2, hu2, hm2⟩)
   go_ret2
   exact ⟨v', _, rfl, rfl, hr2.wide hw0.1.size (Nat.le_refl _), hu2, ⟨hw0.1.trans (hm2.below (Nat.le_refl _) hw0.1.size), Nat.le_trans hw0.2 hm2.2.2.1.2⟩⟩
  ·cases hout
end Go.Mach
namespace Go.Mach
open Go Go.RowKit Go.Proofs
set_option maxRecDepth 100000
set_option maxHeartbeats 6000000
theorem impl_withInt.ans {xa xb : Option (List D → Option D)} (o : Std) (ho : o = std) (l : List Int) (n : Int) (h0 : l.length ≤ 1048576) : Ans (env xa xb) 59 [.sl .nw 1 (o.bx fun _ => eK .i64 l), .int .i64 n] (.sl .nw 1 (o.bx fun _ => eK .i64 (insI n l))) := by
  refine Ans.mkA ho _ rfl rfl ?_
  repeat' (first
    | (refine Den.id ?_
       (try (conv => arg 2; cbv))
       first
         | (refine Den.indF (fun m_ s_ => ∃ (a5 : Int) (tk : List Nat), s_ = ⟨[.sl .nw 1 (o.bx fun _ => eK .i64 l), .int .i64 n, .junk, .junk, .junk, .int .i64 a5] ++ List.replicate 38 .junk, [], [], tk⟩ ∧ (0 ≤ a5 ∧ a5 ≤ l.length ∧ (∀ y ∈ l.take a5.toNat, y < n)) ∧ (l.length - a5).toNat ≤ m_) _ _ ⟨_, _, by subst ho; rfl, ?_, Nat.le_refl _⟩ ?_
            rotate_right
            rintro m_ _ ⟨a5, tk, rfl, hIa, hka⟩ iha
            obtain ⟨i1, i2, i3⟩ := hIa; refine Den.unloopA ho ?_
            repeat' (first
              | (refine Den.id ?_
                 (try (conv => arg 2; cbv))
                 first
                   | refine Den.testF ?_
                   | refine Den.test1 (by with_reducible assumption) ?_
                   | refine Den.test0 (by with_reducible assumption) ?_
                   | (refine Den.test (fun hr => ?_) (fun hr => ?_) <;> (have hb := hr) <;> (try simp (disch := omega) only [ho, std, wI, len_eK, len_eB, len_eNd, len_eLNd, len_eFc, len_eAb, len_eBd, len_eEd, len_eLBd, Classical.not_not, decide_eq_true_eq, decide_eq_false_iff_not, beq_iff_eq, beq_eq_false_iff_ne, ne_eq, Bool.not_eq_true', Bool.not_eq_false', Bool.not_eq_true, Bool.not_eq_false, gt_iff_lt, ge_iff_le, Int.not_lt, Int.not_le] at hb) <;> (try (exfalso; first | contradiction | omega | exact hb rfl)))
                   | (refine Den.fetchYK ho ?_ ?_ (by with_reducible assumption) ?_)
                   | (refine Den.fetchXK ho ?_ ?_ (fun y hy => ?_); rotate_left 2; (have hyk := hy))
                   | (refine Den.needD ho (by kernel_rfl) ?_)
                   | (refine Den.need ?_ ?_)
                   | (refine Den.app1w ?_ (fun t' tk' hl' => ?_))
                   | (refine iha _ _ ?_ ⟨_, _, by subst ho; rfl, ?_, Nat.le_refl _⟩)
                   | (refine Den.done ⟨by first | exact Or.inl rfl | exact Or.inr rfl, ?_⟩; (conv => lhs; cbv) <;> refine congrArg some ?_))
              | ((fail_if_success (refine Den.id ?_))
                 first
                   | (subst ho; exact ⟨Int.le_refl _, by omega, fun y h => by simp at h⟩)
                   | (simp (disch := omega) only [ho, std, wI]; exact ⟨by omega, by omega, lt_step i1 (by omega) i3 hyk (by assumption)⟩)
                   | (refine congrArg (D.sl Tok.nw 1) ?_; subst ho; exact congrArg (eK .i64) (insI_hit i1 i3 (by omega) (by rw [hyk]; assumption)).symm)
                   | (subst ho; exact Lw.nil)
                   | (subst ho; rcases Lw.kind hl' with rfl | ⟨_, rfl⟩ <;> (refine congrArg (D.sl Tok.nw 1) ?_; simp only [std]; rw [insI_put i1 i3 (fun h => by first | omega | (rw [hyk]; omega))]; simp [eK, List.map_take, List.map_drop, List.take_of_length_le]))
                   | assumption
                   | (subst ho; simpa [std, len_eFc, len_eNd, len_eBd, len_eAb, len_eLBd, len_eK, len_eB] using hl')
                   | (subst ho; simp [std, len_eFc, len_eNd, len_eBd, len_eAb, len_eLBd, len_eK, len_eB]; omega)
                   | (subst ho; simp (disch := omega) only [std, wI, tdiv2, tdivN, len_eFc, len_eNd, len_eBd, len_eAb, len_eLBd, len_eK, len_eB] <;> first | done | rfl | omega)))))
    | ((fail_if_success (refine Den.id ?_))
       first
         | fail))
end Go.Mach
namespace Go.Mach
open Go Go.RowKit
def tgtL (s : Int) (es : List Ed) : List Int := (es.filter fun e => decide (e.f0 = s)).map (·.f1)
def tgtM (l : List Nd) (dp s : Int) : List Int := tgtL s (graphM l dp)
theorem tgt_step {s : Int} {es : List Ed} {i : Int} {y : Ed} (h0 : 0 ≤ i) (h1 : i < es.length) (hy : rE es i = y) : tgtL s (es.take (i + 1).toNat) = tgtL s (es.take i.toNat) ++ if y.f0 = s then [y.f1] else [] := by
 unfold tgtL
 rw [take_succG zEd h0 h1, show rdG zEd es i = y from hy, List.filter_append, List.map_append]
 congr 1
 by_cases h : y.f0 = s <;> simp [h]
theorem tgt_hit {s : Int} {es : List Ed} {i : Int} {y : Ed} (h0 : 0 ≤ i) (h1 : i < es.length) (hy : rE es i = y) (h : y.f0 = s) : tgtL s (es.take (i + 1).toNat) = tgtL s (es.take i.toNat) ++ [y.f1] := by rw [tgt_step h0 h1 hy, if_pos h]
theorem tgt_miss {s : Int} {es : List Ed} {i : Int} {y : Ed} (h0 : 0 ≤ i) (h1 : i < es.length) (hy : rE es i = y) (h : ¬ y.f0 = s) : tgtL s (es.take (i + 1).toNat) = tgtL s (es.take i.toNat) := by rw [tgt_step h0 h1 hy, if_neg h, List.append_nil]
theorem tgt_ins {s : Int} {es : List Ed} (hr : RisE es) {i : Int} {y : Ed} (h0 : 0 ≤ i) (h1 : i < es.length) (hy : rE es i = y) (h : y.f0 = s) : tgtL s (es.take (i + 1).toNat) = insI y.f1 (tgtL s (es.take i.toNat)) := by
 rw [tgt_hit h0 h1 hy h]
 refine (insI_lt fun x hx => ?_).symm
 unfold tgtL at hx
 obtain ⟨e, he, rfl⟩ := List.mem_map.1 hx
 obtain ⟨he, hs⟩ := List.mem_filter.1 he
 have hs := of_decide_eq_true hs
 have h2 : RisE (es.take (i + 1).toNat) := List.Pairwise.sublist (List.take_sublist _ _) hr
 rw [take_succG zEd h0 h1, show rdG zEd es i = y from hy] at h2
 have h3 := (List.pairwise_append.1 h2).2.2 e he y (by simp)
 rw [ltE_iff] at h3
 omega
theorem ris_len {a : Int} : ∀ {l : List Int} {n : Int}, RisI l → (∀ x ∈ l, a ≤ x ∧ x < n) → (l.length : Int) ≤ max 0 (n - a)
 | [], n, _, _ => by simp only [List.length_nil]; omega
 | x :: t, n, h, hm => by
  obtain ⟨h1, h2⟩ := List.pairwise_cons.1 h
  have hx := hm x (by simp)
  have := ris_len (a := x + 1) h2 (n := n) fun y hy => ⟨by have := h1 y hy; omega, (hm y (by simp [hy])).2⟩
  rw [List.length_cons]; omega
theorem tgt_ris {s : Int} {es : List Ed} (hr : RisE es) : RisI (tgtL s es) := by
 unfold tgtL RisI
 rw [List.pairwise_map]
 refine List.Pairwise.imp_of_mem (fun {a b} ha hb h => ?_) (List.Pairwise.sublist List.filter_sublist hr)
 have h1 := of_decide_eq_true (List.mem_filter.1 ha).2
 have h2 := of_decide_eq_true (List.mem_filter.1 hb).2
 rw [ltE_iff] at h
 omega
theorem tgt_lenT (l : List Nd) (dp s : Int) (i : Nat) (hl : l.length ≤ 1048576) : (tgtL s ((graphM l dp).take i)).length ≤ 1048576 := by
 have h := ris_len (a := 0) (n := l.length) (tgt_ris (s := s) (List.Pairwise.sublist (List.take_sublist i _) (can_ris (graphR l dp)))) fun x hx => by
  unfold tgtL at hx
  obtain ⟨e, he, rfl⟩ := List.mem_map.1 hx
  exact (graph_in l dp e (List.mem_of_mem_take (List.mem_filter.1 he).1)).2
 have h2 : tgtL s ((graphM l dp).take i) = tgtL s (List.take i (canE (graphR l dp))) := rfl
 rw [h2]; omega
theorem tgtM_len (l : List Nd) (dp s : Int) (hl : l.length ≤ 1048576) : (tgtM l dp s).length ≤ 1048576 := by
 have := tgt_lenT l dp s (graphM l dp).length hl
 rwa [List.take_length] at this
theorem tgt_fin {l : List Nd} {dp s i : Int} (h : ((graphM l dp).length : Int) ≤ i) : tgtL s ((graphM l dp).take i.toNat) = tgtM l dp s := by rw [take_allG h]; rfl
end Go.Mach
namespace Go.Mach
open Go Go.RowKit Go.Proofs
set_option maxRecDepth 100000
set_option maxHeartbeats 6000000
noncomputable def impl_Targets_rest.fi : FnI := { fni Tryz.f50 (fun | 4 => [2, 9, 18, 19, 20] | _ => []) false with body := dropC 1 (bodyOf Tryz.f50), nw := true }
theorem impl_Targets_rest.part {xa xb : Option (List D → Option D)} (o : Std) (ho : o = std) (s : Int) (l : List Nd) (dp : Int) (h0 : l.length ≤ 1048576) : AnsI (env xa xb) impl_Targets_rest.fi .ret (fun s => outD (env xa xb) impl_Targets_rest.fi.nw s impl_Targets_rest.fi.res) [.junk, .junk, .int .i64 s, .junk, .junk, .junk, .junk, .sl .ro 2 (o.bx fun _ => eEd (graphM l dp))] (fun d_ tk_ => d_ = .sl .nw 1 (o.bx fun _ => eK .i64 (tgtM l dp s)) ∧ (True)) := by
  refine AnsI.mkA ho (by rfl) ?_
  have hgl := graphM_len l dp
  repeat' (first
    | (refine Den.id ?_
       (try (conv => arg 2; cbv))
       first
         | (refine Den.indF (fun m_ s_ => ∃ (a19 : Int) (a20 : Int) (tk : List Nat) (tq : Tok) (bq : Box), s_ = ⟨[.junk, .junk, .int .i64 s, .junk, .junk, .junk, .junk, .junk, .junk, .sl tq 1 bq, .junk, .junk, .junk, .junk, .junk, .junk, .junk, .junk, .sl .ro 2 (o.bx fun _ => eEd (graphM l dp)), .int .i64 a19, .int .i64 a20] ++ List.replicate 13 .junk, [], [], tk⟩ ∧ ((tq = .nil ∨ tq = .nw) ∧ bq = (o.bx fun _ => eK .i64 (tgtL s ((graphM l dp).take a20.toNat))) ∧ a19 = (graphM l dp).length ∧ 0 ≤ a20 ∧ a20 ≤ (graphM l dp).length) ∧ ((graphM l dp).length - a20).toNat ≤ m_) _ _ ⟨_, _, _, _, _, by subst ho; rfl, ?_, Nat.le_refl _⟩ ?_
            rotate_right
            rintro m_ _ ⟨a19, a20, tk, tq, bq, rfl, hIa, hka⟩ iha
            obtain ⟨ht, rfl, i0, i1, i2⟩ := hIa; have htl := tgt_lenT l dp s a20.toNat h0; refine Den.unloopA ho ?_
            repeat' (first
              | (refine Den.id ?_
                 (try (conv => arg 2; cbv))
                 first
                   | (refine Den.test (fun hr => ?_) (fun hr => ?_) <;> (have hb := hr) <;> (try simp (disch := omega) only [ho, std, wI, len_eK, len_eB, len_eNd, len_eLNd, len_eFc, len_eAb, len_eBd, len_eEd, len_eLBd, Int.ofNat_eq_natCast, Classical.not_not, decide_eq_true_eq, decide_eq_false_iff_not, beq_iff_eq, beq_eq_false_iff_ne, ne_eq, Bool.not_eq_true', Bool.not_eq_false', Bool.not_eq_true, Bool.not_eq_false, gt_iff_lt, ge_iff_le, Int.not_lt, Int.not_le] at hb) <;> (try (exfalso; first | contradiction | omega | exact hb rfl)))
                   | (refine Den.pcallE (β := List Int) (fun v => .sl .nw 1 (o.bx fun _ => eK .i64 v)) (as' := [.sl .nw 1 (o.bx fun _ => eK .i64 _), .int .i64 _]) (by first | with_reducible rfl | (subst ho; rcases ht with rfl | rfl <;> rfl)) (impl_withInt.ans o ho _ _ ?_) ?_; rotate_left 1; rintro v hv)
                   | (refine Den.fetchXEd ho ?_ ?_ (fun y hy => ?_); rotate_left 2; rcases y with ⟨y0, y1⟩; (first | (have _h := hyk) | (have hyk := hy)))
                   | (refine iha _ _ ?_ ⟨_, _, _, _, _, by subst ho; rfl, ?_, Nat.le_refl _⟩)
                   | (refine Den.done ⟨rfl, ?_⟩; refine ⟨_, by (conv => lhs; cbv) <;> rfl, ?_⟩))
              | ((fail_if_success (refine Den.id ?_))
                 first
                   | (subst ho; exact ⟨.inl rfl, rfl, by simp [std, len_eEd], Int.le_refl _, by omega⟩)
                   | ((try clear iha); simp (disch := omega) only [ho, std, wI]; exact ⟨.inr (by trivial), congrArg (eK .i64) (hv.symm.trans (tgt_ins (es := graphM l dp) (s := s) (i := a20) (can_ris (graphR l dp)) i1 (by omega) hyk (by dsimp only; omega)).symm), i0, by omega, by omega⟩)
                   | ((try clear iha); simp (disch := omega) only [ho, std, wI]; exact ⟨ht, congrArg (eK .i64) (tgt_miss i1 (by omega) hyk (by dsimp only; omega)).symm, i0, by omega, by omega⟩)
                   | (refine ?_; subst ho; rcases ht with rfl | rfl <;> exact ⟨congrArg (D.sl Tok.nw 1) (congrArg (eK .i64) (tgt_fin (by omega))), trivial⟩)
                   | assumption
                   | omega
                   | (subst ho; simp (disch := omega) only [std, wI, tdiv2, tdivN, len_eFc, len_eNd, len_eBd, len_eAb, len_eLBd, len_eK, len_eB] <;> first | done | rfl | omega)))))
    | ((fail_if_success (refine Den.id ?_))
       first
         | fail))
end Go.Mach
namespace Go.Mach
open Go Go.RowKit Go.Proofs
set_option maxRecDepth 100000
set_option maxHeartbeats 4000000
theorem targets_calls {w : World} {lo hi : Nat} {v : Value} {a : List Nd} {dp st : Int} (hz : SzL a) (hh : hi ≤ w.heap.size) (hv : Row lo hi w 7 (eNd a) v) :
  Calls Tryz.prog 50 #[v, .int .i64 dp, .int .i64 st] w fun e w' => ∃ v', e = .returned v' ∧ Row w.heap.size w'.heap.size w' 1 (eK .i64 (tgtM a dp st)) v' ∧ Unf w' 1 (eK .i64 (tgtM a dp st)) v' ∧ Stay w w' := by
 have e45 : ∀ args w, (callFunc 45 args).run Tryz.prog w = .ok (.enter 45 args) w := enters_of Tryz.func45 (by kernel_rfl) rfl
 have hn : Tryz.f50.ntmps = 34 := by kernel_rfl
 have hC := graph_calls (dp := dp) hz hh hv
 obtain ⟨x, c0, rfl⟩ := hv.shape
 refine calls_of_wp Tryz.func50 (c := bodyOf Tryz.f50) (by kernel_rfl) ?_
 simp only [hn, List.size_toArray, List.length_cons, List.length_nil, Nat.reduceAdd, Nat.reduceSub, Array.replicate_succ, Array.replicate_zero, List.push_toArray, List.append_toArray, List.nil_append, List.cons_append]
 have hb : bodyOf Tryz.f50 = .seq (headC 0 (bodyOf Tryz.f50)) (.seq (headC 1 (bodyOf Tryz.f50)) impl_Targets_rest.fi.body) := by kernel_rfl
 rw [hb]
 obtain ⟨c, hc⟩ : ∃ c, c = impl_Targets_rest.fi.body := ⟨_, rfl⟩
 rw [← hc]
 simp only [headC, bodyOf, Tryz.f50, Option.getD]
 go_wp2_with (go_at_fn 45; refine hC.mono ?_; rintro e w2 ⟨v1, ok, rfl, hok, hr2, hu2, hs2⟩)
 rw [hc]
 obtain ⟨σ, hrd, hs⟩ := hr2.rd (flt_eEd _)
 refine wp_rest env_okA (.inr rfl) (impl_Targets_rest.part std rfl st a dp (by have := hz.1; omega)) rfl (σ := σ) rfl rfl ?_ hs ?_
 ·intro i hi'
  match i, hi' with
  | 0, _ => exact .inl rfl
  | 1, _ => exact .inl rfl
  | 2, _ => exact .inr (.inl ⟨rfl, .int _ _⟩)
  | 3, _ => exact .inl rfl
  | 4, _ => exact .inl rfl
  | 5, _ => exact .inl rfl
  | 6, _ => exact .inl rfl
  | 7, _ => exact .inr (.inl ⟨rfl, hrd⟩)
 ·rintro v' d tk σ' w'' ⟨rfl, _⟩ h1 h2 h3 h3d h4 h5
  refine ⟨v', rfl, (Row.of_rd h1 (flt_eK _) h5 (fun b o l c hv => (h2 b o l c hv).1)).wide hs2.1.size (Nat.le_refl _), fun b o l c hv j hj => ((h2 b o l c hv).2 j hj).2, hs2.trans ⟨h3, h3d⟩⟩
end Go.Mach
