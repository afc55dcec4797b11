/- FnExactFunGraph returns what the reference returns: part 32 of a proof by an executable machine over the program's code. -/
import Derived.Test.YtbkpkchegopmiaaGreatDoorL142
import Derived.WalkKit
import Derived.ProofKit
set_option linter.unusedVariables false
set_option linter.unusedSimpArgs false
set_option maxRecDepth 100000
set_option maxHeartbeats 6000000
namespace Go.Mach
open Go Go.RowKit Go.Proofs
theorem wp_mid {P : Program} {E : Env} {w : World} {a : Act} (hE : EnvOk P E) {fn : Func} {c : Code} {n : Nat} {fi : FnI} {out : S → Option D} {da : List D} {PP : D → List Nat → Prop} (h : AnsI E fi .normal out da PP) (hb : fi.body = takeC n c) {σ : Nat → Nat}
  (hd : a.defers = []) (hsz : a.tmps.size = fi.ntmps) (hr : ∀ i, i < da.length → da.getD i .junk = .junk ∨ ArgR σ w (da.getD i .junk) (a.tmps.getD i undef)) (hbig : ∀ b, w.heap.size ≤ b → σ b = 0) {R : Ending → World → Prop}
  (hk : ∀ d s1 G' a' w', out s1 = some d → PP d s1.tk → Sim ⟨w, [], [], [], σ, fun _ => 0, w.heap.size⟩ G' s1 a' w' → (dropC n c).wp P (bodyPost P fn R) a' w') : c.wp P (bodyPost P fn R) a w := by
 obtain ⟨hn, hden⟩ := h
 obtain ⟨m, x, s1, hrun, rfl, d, ho, hp⟩ := hden
 have hsim := sim_at (fi := fi) (σ := σ) hd hsz hr (Nat.le_of_ble_eq_true hn) hbig
 rw [hb] at hrun
 exact wp_take hE n c _ _ _ _ _ hrun hsim fun G' a' w' h => hk d s1 G' a' w' ho hp h
theorem fungraph_calls {w : World} {lo hi : Nat} {v : Value} {a : List Nd} {dp : Int} (hz : SzL a) (hh : hi ≤ w.heap.size) (hv : Row lo hi w 7 (eNd a) v) :
  Calls Tryz.prog 52 #[v, .int .i64 dp] w fun e w' => ∃ v', e = .returned v' ∧ Row w.heap.size w'.heap.size w' 2 (eEd (funM a dp)) v' ∧ Unf w' 2 (eEd (funM a dp)) v' ∧ Stay w w' := by
 have e45 : ∀ args w, (callFunc 45 args).run Tryz.prog w = .ok (.enter 45 args) w := enters_of Tryz.func45 (by kernel_rfl) rfl
 have e77 : ∀ args w, (callFunc 77 args).run Tryz.prog w = .ok (.enter 77 args) w := enters_of Tryz.func77 (by kernel_rfl) rfl
 have hn : Tryz.f52.ntmps = 35 := by kernel_rfl
 have hC := graph_calls (dp := dp) hz hh hv
 obtain ⟨x, c0, rfl⟩ := hv.shape
 refine calls_of_wp Tryz.func52 (c := bodyOf Tryz.f52) (by kernel_rfl) ?_
 simp only [hn, List.size_toArray, List.length_cons, List.length_nil, Nat.reduceAdd, Nat.reduceSub, Array.replicate_succ, Array.replicate_zero, List.push_toArray, List.append_toArray, List.nil_append, List.cons_append]
 have hb : bodyOf Tryz.f52 = .seq (headC 0 (bodyOf Tryz.f52)) (.seq (headC 1 (bodyOf Tryz.f52)) (dropC 1 (bodyOf Tryz.f52))) := by kernel_rfl
 rw [hb]
 obtain ⟨c, hc⟩ : ∃ c, c = dropC 1 (bodyOf Tryz.f52) := ⟨_, rfl⟩
 rw [← hc]
 simp only [headC, bodyOf, Tryz.f52, Option.getD]
 go_wp2_with (go_at_fn 45; refine hC.mono ?_; rintro e w2 ⟨v1, ok, rfl, hok, hr2, hu2, hs2⟩)
 rw [hc]
 have hv2 := hv.stay hh hs2
 have hz2 := hs2.1.size
 have ha1 : Arg w2 (.sl .ro 7 (eNd a)) (.slice x (eNd a).length c0) := .row hv2 (Nat.le_trans hh hz2) (flt_eNd a)
 have ha2 : Arg w2 (.sl .ro 2 (eEd (graphM a dp))) v1 := .row hr2 (Nat.le_refl _) (flt_eEd _)
 obtain ⟨_, σ1, r1, z1⟩ := ha1
 obtain ⟨_, σ2, r2, z2⟩ := ha2
 have q1 := r1.mono (σ' := fun b => max (σ1 b) (σ2 b)) (w' := w2) (fun b => Nat.le_max_left _ _) (fun _ _ _ => rfl)
 have q2 := r2.mono (σ' := fun b => max (σ1 b) (σ2 b)) (w' := w2) (fun b => Nat.le_max_right _ _) (fun _ _ _ => rfl)
 refine wp_mid env_okA (n := 1) (impl_FunGraph_mid.part std rfl a dp hz.sz (by have := hz.1; omega)) rfl (σ := fun b => max (σ1 b) (σ2 b)) rfl rfl ?_ (fun b hb => ?_) ?_
 · intro i hi'
   match i, hi' with
   | 0, _ => exact .inr (.inl ⟨rfl, q1⟩)
   | 1, _ => exact .inl rfl
   | 2, _ => exact .inl rfl
   | 3, _ => exact .inl rfl
   | 4, _ => exact .inl rfl
   | 5, _ => exact .inr (.inl ⟨rfl, q2⟩)
 · show max (σ1 b) (σ2 b) = 0
   rw [z1 b hb, z2 b hb]; rfl
 rintro d1 s1 G' a' w' hout ⟨tq, rfl, hlw⟩ hsim
 split at hout
 · rename_i hlen
   have hsz35 : a'.tmps.size = 35 := by rw [hsim.tmp.1, hlen]
   have hrep := hsim.tmp.2 7 (by rw [hlen]; decide)
   have h3 : s1.t.getD 7 .junk = .sl tq 2 (eEd (funR a dp)) := by rw [List.getD_eq_getElem?_getD, hout]; rfl
   rw [h3] at hrep
   have hlw' : Lw s1.tk tq (eEd (funR a dp)).length := by rw [len_eEd]; exact hlw
   have hown := own_block rfl hrep hlw'
   have hrd := hrep.sl_inv.1
   have hfr := hsim.inv.fr
   have hrow : Row w2.heap.size w'.heap.size w' 2 (eEd (funR a dp)) (a'.tmps.getD 7 undef) := .of_rd hrd (flt_eEd _) hsim.inv.iceBig (fun b o l c hv => (hown b o l c hv).1)
   have hcall := edgesIn_calls hrow (unf_own hown) (Nat.le_refl _) (by have := funR_len a dp; omega)
   obtain ⟨tm, df⟩ := a'
   obtain rfl : df = [] := hsim.def0
   dsimp only at hsz35 hcall
   have htm := arr_fn hsz35
   generalize hf : (fun i => tm.getD i undef) = f at htm
   have hf7 : tm.getD 7 undef = f 7 := by rw [← hf]
   rw [hf7] at hcall
   have htm2 : tm = #[f 0, f 1, f 2, f 3, f 4, f 5, f 6, f 7, f 8, f 9, f 10, f 11, f 12, f 13, f 14, f 15, f 16, f 17, f 18, f 19, f 20, f 21, f 22, f 23, f 24, f 25, f 26, f 27, f 28, f 29, f 30, f 31, f 32, f 33, f 34] := htm
   rw [htm2]
   simp only [dropC, bodyOf, Tryz.f52, Option.getD]
   have hw0 : Stay w2 w' := ⟨⟨hfr.os, hfr.tape, hfr.output.1, hfr.size, fun b hb => hfr.same b hb (fun p hp => by cases hp) (fun hh => by cases hh)⟩, hfr.output.2⟩
   clear hsim hrep hown hrd htm htm2 hout h3 hf hf7 hfr hrow
   go_wp2_with (go_at_fn 77; refine hcall.mono ?_; rintro e w'' ⟨v', rfl, hr3, hu3, hm3⟩)
   go_ret
   exact ⟨v', rfl, hr3.wide (Nat.le_trans hs2.1.size hw0.1.size) (Nat.le_refl _), hu3, hs2.trans ⟨hw0.1.trans (hm3.below (Nat.le_refl _) hw0.1.size), Nat.le_trans hw0.2 hm3.2.2.1.2⟩⟩
 · cases hout
theorem spec_l12Edge.ans {xa xb : Option (List D → Option D)} (o : Std) (ho : o = std) (l : List Ed) (x_f0 : Int) (x_f1 : Int) (h0 : RisE l) (h1 : l.length ≤ 6300000) : Ans (env xa xb) 75 [rEd o l, .agg [iX x_f0, iX x_f1]] (rEd o (insE (⟨x_f0, x_f1⟩ : Ed) l)) := by
 refine Ans.mkA ho _ rfl rfl ?_
 repeat' (first
  | (refine .id ?_
     (try (conv => arg 2; cbv))
     first
      | (refine .indF (fun m_ s_ => ∃ (ea5 : Box) (a6 : Bool) (a7 : Int) (ta5 : Tok) (tk : List Nat), s_ = ⟨[rEd o l, Jk, Jk, .pbx (.loc 0) 0, Jk, .sl ta5 2 ea5, .bool a6, iX a7] ++ List.replicate 64 Jk, [[[iX x_f0, iX x_f1]]], [], tk⟩ ∧ Lv tk ta5 ea5.length ∧ ea5 = (o.bx fun _ => eEd (lEO (⟨x_f0, x_f1⟩ : Ed) l a7 a6)) ∧ (0 ≤ a7 ∧ a7 ≤ l.length ∧ (a6 = false → ∀ y ∈ l.take a7.toNat, ltE y (⟨x_f0, x_f1⟩ : Ed) = true) ∧ (a6 = true → ∀ y ∈ l.drop a7.toNat, ltE (⟨x_f0, x_f1⟩ : Ed) y = true)) ∧ (l.length - a7).toNat ≤ m_) _ _ ⟨_, _, _, _, _, by subst ho; rfl, ?_, ?_, ?_, Nat.le_refl _⟩ ?_
         rotate_right
         rintro m_ _ ⟨ea5, a6, a7, ta5, tk, rfl, hla0, rfl, hIa, hka⟩ iha
         obtain ⟨i1, i2, i3, i4⟩ := hIa; have hol := len_lEO (⟨x_f0, x_f1⟩ : Ed) l a7 a6; refine .unloopA ho ?_
         repeat' (first
          | (refine .id ?_
             (try (conv => arg 2; cbv))
             first
              | refine .testT ?_
              | refine .testF ?_
              | refine .t1 ?_
              | refine .t0 ?_
              | (refine .test (fun hr => ?_) (fun hr => ?_) <;> (have hb := hr) <;> (try simp (disch := omega) only [ho, std, wI, lenE, Int.ofNat_eq_natCast, nrm] at hb) <;> (try (exfalso; first | contradiction | omega | exact hb rfl)))
              | (refine .fetchYEd ho ?_ ?_ (by with_reducible assumption) ?_)
              | (refine .fetchXEd ho ?_ ?_ (fun y hy => ?_); rotate_left 2; rcases y with ⟨y0, y1⟩; (first | (have _h := hyk) | (have hyk := hy)))
              | (refine .needD ho (by kernel_rfl) ?_)
              | (refine .need ?_ ?_)
              | (refine .app1 ?_ (fun t' tk' hl' => ?_))
              | (refine iha _ _ ?_ ⟨_, _, _, _, _, by subst ho; rfl, ?_, ?_, ?_, Nat.le_refl _⟩)
              | (refine .fin ?_; (conv => lhs; cbv) <;> refine congrArg some ?_))
          | ((fail_if_success (refine .id ?_))
             first
              | (exact Lv.cap _)
              | (subst ho; exact hla0)
              | (subst ho; exact ⟨Int.le_refl _, by omega, fun _ y h => by simp at h, fun h => by cases h⟩)
              | (refine congrArg (D.sl Tok.ro 2) ?_; subst ho; exact congrArg eEd (insE_mem h0 (by have := rdG_mem (z := zEd) i1 (show a7 < l.length by omega); rw [show rdG zEd l a7 = _ from hyk] at this; simp_all)).symm)
              | ((try clear iha); subst ho; simp (disch := omega) only [std, wI]; first | exact push2Ed (lE_putD (by assumption) i1 (by omega) i3 hyk (ltE_iff.2 (by dsimp only; omega))) | exact push1Ed (lE_go i1 (by omega) a6 hyk (fun h => gtE_at i1 (by omega) (i4 h) hyk)))
              | ((try clear iha); subst ho; simp (disch := omega) only [std, wI]; exact ⟨by omega, by omega, fun h => by first | exact absurd h (by decide) | exact ltE_step i1 (by omega) (i3 h) hyk (ltE_iff.2 (by dsimp only; first | omega | (have hne := beq2_no (by assumption); omega))) | exact absurd (h.symm.trans (show _ = true by assumption)) (by decide), fun h => by first | exact gtE_ris h0 i1 (by omega) hyk (ltE_iff.2 (by dsimp only; omega)) | exact gtE_step i1 (by omega) (i4 h)⟩)
              | (refine congrArg (D.sl Tok.ro 2) ?_; subst ho; first | exact push1Ed (lE_fin (by assumption) (by omega) i3) | exact congrArg eEd (lE_finT (by assumption) (by omega)).symm)
              | assumption
              | (subst ho; rfl)
              | (subst ho; simpa [std, lenE] using hl')
              | (subst ho; simp (disch := omega) only [std, wI, tdiv2, tdivN, lenE] <;> first | done | rfl | omega)
              | (subst ho; simp [std, lenE]; omega)))))
  | ((fail_if_success (refine .id ?_))
     first
      | fail))
theorem spec_CallGraph.ans {xa xb : Option (List D → Option D)} (o : Std) (ho : o = std) (l : List Nd) (dp : Int) (h0 : Sz l) (h1 : l.length ≤ 1048576) : Ans (env xa xb) 44 [rNd o l, iX dp] (.tup [rEd o (((graphM l dp, (solveR l dp).2)).1), .bool ((graphM l dp, (solveR l dp).2)).2]) := by
 refine Ans.mkA ho _ rfl rfl ?_
 have hall := solveR_all l dp; have hfr := solveR_fr l dp
 repeat' (first
  | (refine .id ?_
     (try (conv => arg 2; cbv))
     first
      | (refine .pE (β := (List Fc) × Bool) (fun v => .tup [rFc o v.1, .bool v.2]) (as' := [rNd o _, iX _]) (spec_Solve.ans o ho _ _ ?_ ?_) ?_; rotate_left 2; rintro ⟨v0, (_ | _)⟩ hv <;> (try simp only [dE] at hv) <;> (try first | contradiction | exact bX hv))
      | (refine .indF (fun m_ s_ => ∃ (a6 : List Fc) (a7 : Bool) (a9 : Int) (ta6 : Tok) (tk : List Nat) (tq : Tok) (bq : Box), s_ = ⟨[rNd o l, Jk, Jk, Jk, Jk, Jk, .sl ta6 6 (o.bx fun _ => eFc a6), .bool a7, .sl tq 2 bq, iX a9] ++ List.replicate 80 Jk, [], [], tk⟩ ∧ (bq = (o.bx fun _ => eEd (canE (rawG l a6 (a6.take a9.toNat)))) ∧ a6 = (solveR l dp).1 ∧ a7 = (solveR l dp).2 ∧ 0 ≤ a9 ∧ a9 ≤ a6.length) ∧ (a6.length - a9).toNat ≤ m_) _ _ ⟨_, _, _, _, _, _, _, by subst ho; rfl, ?_, Nat.le_refl _⟩ ?_
         rotate_right
         rintro m_ _ ⟨a6, a7, a9, ta6, tk, tq, bq, rfl, hIa, hka⟩ iha
         obtain ⟨rfl, rfl, i7, i1, i2⟩ := hIa; have hcl := can_lenT (rawG_lenT (l := l) hall.1 a9.toNat); refine .unloopA ho ?_
         repeat' (first
          | (refine .id ?_
             (try (conv => arg 2; cbv))
             first
              | refine .testT ?_
              | refine .t1 ?_
              | refine .t0 ?_
              | refine .tN0 ho ?_
              | (refine .test (fun hr => ?_) (fun hr => ?_) <;> (have hb := hr) <;> (try simp (disch := omega) only [ho, std, wI, lenE, Int.ofNat_eq_natCast, nrm] at hb) <;> (try (exfalso; first | contradiction | omega | exact hb rfl)))
              | (refine .pE (β := List Ab) (rAb o) (as' := [rFc o _, iX _, iX _, iX _]) (spec_l15At.ans o ho _ _ _ _ ?_ ?_ ?_) ?_; rotate_left 3; rintro v hv; (first | (have _h := hv2) | (have _h := hv1; have hv2 := hv; obtain ⟨v2, e_v2⟩ : ∃ z, z = v := ⟨_, rfl⟩; subst e_v2) | (have hv1 := hv)))
              | (refine .fetchYNd ho ?_ ?_ (by with_reducible assumption) ?_)
              | (refine .fetchXNd ho ?_ ?_ (fun y hy => ?_); rotate_left 2; rcases y with ⟨y0, y1, y2, y3, y4, y5, y6⟩; (first | (have _h := hyn) | (have hyn := hy)))
              | (refine .fetchXFc ho ?_ ?_ (fun y hy => ?_); rotate_left 2; rcases y with ⟨yk, yn, yc, yvk, yvn, yvc⟩; (first | (have _h := hyf) | (have hyf := hy; have hnr := hall.2 _ (rdG_mem (z := zF) i1 (by omega)); rw [show rdG zF _ _ = _ from hyf] at hnr; dsimp only at hnr; obtain ⟨fk, e_fk⟩ : ∃ z, z = yk := ⟨_, rfl⟩; subst e_fk; obtain ⟨fn, e_fn⟩ : ∃ z, z = yn := ⟨_, rfl⟩; subst e_fn; obtain ⟨fc, e_fc⟩ : ∃ z, z = yc := ⟨_, rfl⟩; subst e_fc; obtain ⟨gk, e_gk⟩ : ∃ z, z = yvk := ⟨_, rfl⟩; subst e_gk; obtain ⟨gn, e_gn⟩ : ∃ z, z = yvn := ⟨_, rfl⟩; subst e_gn; obtain ⟨gc, e_gc⟩ : ∃ z, z = yvc := ⟨_, rfl⟩; subst e_gc)))
              | (refine .needD ho (by kernel_rfl) ?_)
              | (refine .indF (fun m_ s_ => ∃ (b12 : Int) (tk : List Nat) (tq : Tok) (bq : Box), s_ = ⟨[rNd o l, Jk, Jk, Jk, Jk, Jk, .sl ta6 6 (o.bx fun _ => eFc (solveR l dp).1), .bool a7, .sl tq 2 bq, iX a9, .pbx (.loc 0) 0, rAb o v2, iX b12] ++ List.replicate 77 Jk, [[[iX fk, iX fn, iX fc, iX gk, iX gn, iX gc]]], [], tk⟩ ∧ (bq = (o.bx fun _ => eEd (canE (rawG l (solveR l dp).1 ((solveR l dp).1.take a9.toNat) ++ edgesV fn (v2.take b12.toNat)))) ∧ 0 ≤ b12 ∧ b12 ≤ v2.length) ∧ (v2.length - b12).toNat ≤ m_) _ _ ⟨_, _, _, _, by subst ho; rfl, ?_, Nat.le_refl _⟩ ?_
                 rotate_right
                 rintro m_ _ ⟨b12, tk, tq, bq, rfl, hIb, hkb⟩ ihb
                 obtain ⟨rfl, j1, j2⟩ := hIb; have hvl := vals_lenE hall.1 hv2; have hci := can_lenT (edges_inn (l := l) hall.1 hv2 a9.toNat fn b12.toNat); refine .unloopA ho ?_
                 repeat' (first
                  | (refine .id ?_
                     (try (conv => arg 2; cbv))
                     first
                      | (refine .test (fun hr => ?_) (fun hr => ?_) <;> (have hb := hr) <;> (try simp (disch := omega) only [ho, std, wI, lenE, Int.ofNat_eq_natCast, nrm] at hb) <;> (try (exfalso; first | contradiction | omega | exact hb rfl)))
                      | (refine .pE (β := List Ed) (rEd o) (as' := [rEd o _, .agg [iX _, iX _]]) (spec_l12Edge.ans o ho _ _ _ ?_ ?_) ?_; rotate_left 2; rintro v hv)
                      | (refine .fetchYAb ho ?_ ?_ (by with_reducible assumption) ?_)
                      | (refine .fetchXAb ho ?_ ?_ (fun y hy => ?_); rotate_left 2; rcases y with ⟨yk, yn, yc⟩; (first | (have _h := hya) | (have hya := hy)))
                      | (refine .needD ho (by kernel_rfl) ?_)
                      | (refine ihb _ _ ?_ ⟨_, _, _, _, by subst ho; rfl, ?_, Nat.le_refl _⟩)
                      | (refine iha _ _ ?_ ⟨_, _, _, _, _, _, _, by subst ho; rfl, ?_, Nat.le_refl _⟩))
                  | ((fail_if_success (refine .id ?_))
                     first
                      | (exact can_ris _)
                      | (subst ho; exact ⟨congrArg eEd (congrArg canE (inn_zero _ _ _).symm), Int.le_refl _, by omega⟩)
                      | ((try clear iha); (try clear ihb); simp (disch := omega) only [ho, std, wI]; first | exact ⟨congrArg eEd (hv.symm.trans (inn_hitC j1 (by omega) hya (by dsimp only; omega)).symm), by omega, by omega⟩ | exact ⟨congrArg eEd (congrArg canE (inn_miss j1 (by omega) hya (by dsimp only; omega)).symm), by omega, by omega⟩)
                      | ((try clear iha); (try clear ihb); simp (disch := omega) only [ho, std, wI]; first | exact ⟨congrArg eEd (congrArg canE (inn_end i1 (by omega) hyf (edgeP_yes (by dsimp only; omega) hyn (by dsimp only; omega) hv1 (by omega)) hyn hv2 (by omega)).symm), by trivial, i7, by omega, by omega⟩ | exact ⟨congrArg eEd (congrArg canE (rawG_miss i1 (by omega) hyf (by first | exact edgeP_no1 (by dsimp only; omega) | exact edgeP_no2 hyn (by dsimp only; omega) | exact edgeP_no3 hyn hv1 (by omega))).symm), by trivial, i7, by omega, by omega⟩)
                      | assumption
                      | omega
                      | (subst ho; simp (disch := omega) only [std, wI, tdiv2, tdivN, lenE] <;> first | done | rfl | omega))))
              | (refine iha _ _ ?_ ⟨_, _, _, _, _, _, _, by subst ho; rfl, ?_, Nat.le_refl _⟩)
              | (refine .fin ?_; (conv => lhs; cbv) <;> refine congrArg some ?_))
          | ((fail_if_success (refine .id ?_))
             first
              | (exact hfr.1)
              | (exact hfr.2.1)
              | (subst ho; exact ⟨rfl, by rw [hv], by rw [hv], Int.le_refl _, by omega⟩)
              | ((try clear iha); (try clear ihb); simp (disch := omega) only [ho, std, wI]; first | exact ⟨congrArg eEd (congrArg canE (inn_end i1 (by omega) hyf (edgeP_yes (by dsimp only; omega) hyn (by dsimp only; omega) hv1 (by omega)) hyn hv2 (by omega)).symm), by trivial, i7, by omega, by omega⟩ | exact ⟨congrArg eEd (congrArg canE (rawG_miss i1 (by omega) hyf (by first | exact edgeP_no1 (by dsimp only; omega) | exact edgeP_no2 hyn (by dsimp only; omega) | exact edgeP_no3 hyn hv1 (by omega))).symm), by trivial, i7, by omega, by omega⟩)
              | (subst ho; rw [i7, graph_fin (by omega)] <;> rfl)
              | assumption
              | omega
              | (subst ho; simp (disch := omega) only [std, wI, tdiv2, tdivN, lenE] <;> first | done | rfl | omega)))))
  | ((fail_if_success (refine .id ?_))
     first
      | assumption))
theorem spec_FunGraph.ans {xa xb : Option (List D → Option D)} (o : Std) (ho : o = std) (l : List Nd) (dp : Int) (h0 : Sz l) (h1 : l.length ≤ 1048576) : Ans (env xa xb) 51 [rNd o l, iX dp] (rEd o (funM l dp)) := by
 refine Ans.mkA ho _ rfl rfl ?_
 have hgl := graphM_len l dp
 repeat' (first
  | (refine .id ?_
     (try (conv => arg 2; cbv))
     first
      | (refine .pE (β := (List Ed) × Bool) (fun v => .tup [rEd o v.1, .bool v.2]) (as' := [rNd o _, iX _]) (spec_CallGraph.ans o ho _ _ ?_ ?_) ?_; rotate_left 2; rintro ⟨v0, (_ | _)⟩ hv <;> (try simp only [dE] at hv) <;> (try first | contradiction | exact bX hv))
      | (refine .indF (fun m_ s_ => ∃ (a6 : List Ed) (a8 : Int) (ta6 : Tok) (tk : List Nat) (tq : Tok) (bq : Box), s_ = ⟨[rNd o l, Jk, Jk, Jk, Jk, .sl tq 2 bq, .sl ta6 2 (o.bx fun _ => eEd a6), Jk, iX a8] ++ List.replicate 29 Jk, [], [], tk⟩ ∧ (bq = (o.bx fun _ => eEd (canE (((graphM l dp).take a8.toNat).map (homeE l)))) ∧ a6 = graphM l dp ∧ 0 ≤ a8 ∧ a8 ≤ (graphM l dp).length) ∧ ((graphM l dp).length - a8).toNat ≤ m_) _ _ ⟨_, _, _, _, _, _, by subst ho; rfl, ?_, Nat.le_refl _⟩ ?_
         rotate_right
         rintro m_ _ ⟨a6, a8, ta6, tk, tq, bq, rfl, hIa, hka⟩ iha
         obtain ⟨rfl, rfl, i1, i2⟩ := hIa; have hcl := can_lenT (homes_len (l := l) hgl a8.toNat); refine .unloopA ho ?_
         repeat' (first
          | (refine .id ?_
             (try (conv => arg 2; cbv))
             first
              | (refine .test (fun hr => ?_) (fun hr => ?_) <;> (have hb := hr) <;> (try simp (disch := omega) only [ho, std, wI, lenE, Int.ofNat_eq_natCast, nrm] at hb) <;> (try (exfalso; first | contradiction | omega | exact hb rfl)))
              | (refine .pE (β := Int) (fun v => iX v) (as' := [rNd o _, iX _]) (spec_HomeOf.ans o ho _ _ ?_ ?_) ?_; rotate_left 2; rintro v hv; (have hvh := hv))
              | (refine .pE (β := List Ed) (rEd o) (as' := [rEd o _, .agg [iX _, iX _]]) (spec_l12Edge.ans o ho _ _ _ ?_ ?_) ?_; rotate_left 2; rintro v hv)
              | (refine .fetchYEd ho ?_ ?_ (by with_reducible assumption) ?_)
              | (refine .fetchXEd ho ?_ ?_ (fun y hy => ?_); rotate_left 2; rcases y with ⟨y0, y1⟩; (first | (have _h := hyk) | (have hyk := hy)))
              | (refine .needD ho (by kernel_rfl) ?_)
              | (refine iha _ _ ?_ ⟨_, _, _, _, _, _, by subst ho; rfl, ?_, Nat.le_refl _⟩)
              | (refine .fin ?_; (conv => lhs; cbv) <;> refine congrArg some ?_))
          | ((fail_if_success (refine .id ?_))
             first
              | (exact can_ris _)
              | (subst ho; exact ⟨rfl, (Prod.mk.inj hv).1.symm, Int.le_refl _, by omega⟩)
              | ((try clear iha); simp (disch := omega) only [ho, std, wI]; exact ⟨congrArg eEd (homes_hitC i1 (by omega) hyk hvh hv), by trivial, by omega, by omega⟩)
              | (refine congrArg (D.sl Tok.ro 2) ?_; subst ho; refine congrArg eEd ?_; rw [homes_fin (by omega)]; rfl)
              | assumption
              | omega
              | (subst ho; simp (disch := omega) only [std, wI, tdiv2, tdivN, lenE] <;> first | done | rfl | omega)))))
  | ((fail_if_success (refine .id ?_))
     first
      | assumption))
end Go.Mach
namespace Go.Mach
open Go Go.RowKit
def markG {α : Type} (f : Nat → α) (l : List α) (i : Int) : List α := (List.range i.toNat).map f ++ l.drop i.toNat
theorem markG_len {α : Type} {f : Nat → α} {l : List α} {i : Int} (h0 : 0 ≤ i) (h1 : i ≤ l.length) : (markG f l i).length = l.length := by
 unfold markG; rw [List.length_append, List.length_map, List.length_range, List.length_drop]; omega
theorem markG_set {α : Type} (c : α → List D) {f : Nat → α} {l : List α} {i : Int} {x : List D} (h0 : 0 ≤ i) (h1 : i < l.length) (hx : x = c (f i.toNat)) : (List.map c (markG f l i)).set i.toNat x = List.map c (markG f l (i + 1)) := by
 subst hx
 have h2 : i.toNat < l.length := by omega
 unfold markG
 rw [List.map_append, List.set_append, if_neg (by simp), List.drop_eq_getElem_cons h2]
 have h4 : (List.map c (List.map f (List.range i.toNat))).length = i.toNat := by simp
 rw [h4, Nat.sub_self, show (i + 1).toNat = i.toNat + 1 by omega, List.range_succ, List.map_append, List.map_append, List.map_append, List.append_assoc]
 rfl
theorem markG_end {α : Type} {f : Nat → α} {l : List α} {i : Int} (h : l.length ≤ i) (h1 : i ≤ l.length) : markG f l i = (List.range l.length).map f := by
 unfold markG; rw [List.drop_of_length_le (by omega), List.append_nil, show i.toNat = l.length by omega]
theorem markG_zero {α : Type} (f : Nat → α) (l : List α) : markG f l 0 = l := by simp [markG]
theorem range_at {α : Type} {z : α} {f : Nat → α} {n : Nat} {i : Int} (h0 : 0 ≤ i) (h1 : i < n) : rdG z ((List.range n).map f) i = f i.toNat := by
 have h2 : i.toNat < n := by omega
 simp only [rdG, List.getD_eq_getElem?_getD, List.getElem?_map, List.getElem?_range h2, Option.map_some, Option.getD_some]
def fF (k : Int) (j : Nat) : Fc := ⟨k + 6 * (j : Int), k + 6 * (j : Int) + 1, k + 6 * (j : Int) + 2, ⟨k + 6 * (j : Int) + 3, k + 6 * (j : Int) + 4, k + 6 * (j : Int) + 5⟩⟩
def rowF (k : Int) (n : Nat) : List Fc := (List.range n).map (fF k)
theorem rowF_len (k : Int) (n : Nat) : (rowF k n).length = n := by simp [rowF]
theorem markF_set {k : Int} {l : List Fc} {i x0 x1 x2 x3 x4 x5 : Int} (h0 : 0 ≤ i) (h1 : i < l.length) (e0 : x0 = k + 6 * i) (e1 : x1 = k + 6 * i + 1) (e2 : x2 = k + 6 * i + 2) (e3 : x3 = k + 6 * i + 3) (e4 : x4 = k + 6 * i + 4) (e5 : x5 = k + 6 * i + 5) :
  (eFc (markG (fF k) l i)).set i.toNat [.int .i64 x0, .int .i64 x1, .int .i64 x2, .int .i64 x3, .int .i64 x4, .int .i64 x5] = eFc (markG (fF k) l (i + 1)) := by
 refine markG_set cFc h0 h1 ?_
 subst e0 e1 e2 e3 e4 e5
 simp only [cFc, fF, Int.toNat_of_nonneg h0]
theorem rowF_at {k : Int} {n : Nat} {i a b c d e f : Int} (h0 : 0 ≤ i) (h1 : i < n) (h : rF (rowF k n) i = ⟨a, b, c, ⟨d, e, f⟩⟩) : a = k + 6 * i ∧ b = k + 6 * i + 1 ∧ c = k + 6 * i + 2 ∧ d = k + 6 * i + 3 ∧ e = k + 6 * i + 4 ∧ f = k + 6 * i + 5 := by
 have h2 : rF (rowF k n) i = fF k i.toNat := range_at (z := zF) h0 h1
 rw [h2, fF, Int.toNat_of_nonneg h0] at h
 injection h with q0 q1 q2 q3
 injection q3 with q3 q4 q5
 exact ⟨q0.symm, q1.symm, q2.symm, q3.symm, q4.symm, q5.symm⟩
def fE (k : Int) (j : Nat) : Ed := ⟨k + 2 * (j : Int), k + 2 * (j : Int) + 1⟩
def rowE (k : Int) (n : Nat) : List Ed := (List.range n).map (fE k)
theorem rowE_len (k : Int) (n : Nat) : (rowE k n).length = n := by simp [rowE]
theorem markE_set {k : Int} {l : List Ed} {i x0 x1 : Int} (h0 : 0 ≤ i) (h1 : i < l.length) (e0 : x0 = k + 2 * i) (e1 : x1 = k + 2 * i + 1) :
  (eEd (markG (fE k) l i)).set i.toNat [.int .i64 x0, .int .i64 x1] = eEd (markG (fE k) l (i + 1)) := by
 refine markG_set cEd h0 h1 ?_
 subst e0 e1
 simp only [cEd, fE, Int.toNat_of_nonneg h0]
theorem rowE_at {k : Int} {n : Nat} {i a b : Int} (h0 : 0 ≤ i) (h1 : i < n) (h : rE (rowE k n) i = ⟨a, b⟩) : a = k + 2 * i ∧ b = k + 2 * i + 1 := by
 have h2 : rE (rowE k n) i = fE k i.toNat := range_at (z := zEd) h0 h1
 rw [h2, fE, Int.toNat_of_nonneg h0] at h
 injection h with q0 q1
 exact ⟨q0.symm, q1.symm⟩
end Go.Mach
namespace Go.Mach
open Go Go.RowKit Go.Proofs
theorem laws_markEdgeS_0.ans {xa xb : Option (List D → Option D)} (o : Std) (ho : o = std) (a : List Ed) (k : Int) (h0 : a.length = 0) : Ans (env xa xb) 47 [rEd o a, iX k] (iX (k)) := by
 refine Ans.mkA ho _ rfl rfl ?_
 repeat' (first
  | (refine .id ?_
     (try (conv => arg 2; cbv))
     first
      | (refine .indF (fun m_ s_ => ∃ (a1 : Int) (a5 : Int) (tk : List Nat), s_ = ⟨[rEd o a, iX a1, Jk, Jk, Jk, iX a5] ++ List.replicate 21 Jk, [], [], tk⟩ ∧ (a1 = k ∧ a5 = 0) ∧ (0 : Nat) ≤ m_) _ _ ⟨_, _, _, by subst ho; rfl, ?_, Nat.le_refl _⟩ ?_
         rotate_right
         rintro m_ _ ⟨a1, a5, tk, rfl, hIa, hka⟩ iha
         obtain ⟨i1, i2⟩ := hIa; refine .unloopA ho ?_
         repeat' (first
          | (refine .id ?_
             (try (conv => arg 2; cbv))
             first
              | (refine .test (fun hr => ?_) (fun hr => ?_) <;> (have hb := hr) <;> (try simp (disch := omega) only [ho, std, wI, lenE, Int.ofNat_eq_natCast, nrm] at hb) <;> (try (exfalso; first | contradiction | omega | exact hb rfl)))
              | (refine .fin ?_; (conv => lhs; cbv) <;> refine congrArg some ?_))
          | ((fail_if_success (refine .id ?_))
             first
              | omega
              | (subst ho; simp [std, lenE]; omega)))))
  | ((fail_if_success (refine .id ?_))
     first
      | fail))
theorem laws_markEdgeS.mark {xa xb : Option (List D → Option D)} (o : Std) (ho : o = std) (k : Int) (l : List Ed) (n : Nat) (h0 : n = l.length) (h1 : l.length ≤ 6300000) (h2 : 0 ≤ k ∧ k ≤ 1) : Gns (env xa xb) 47 [.asl (.out 0) 2 n, iX k] [(o.bx fun _ => eEd l)] [] (fun ds_ out_ _ _ => ds_ = [iX (k + 2 * n)] ∧ ∃ bx_, out_ = [bx_] ∧ (bx_ = (o.bx fun _ => eEd (rowE k n)))) := by
 refine Gns.mkA (E := env xa xb) (f := 47) ho _ (by rfl) (by rfl) ?_
 repeat' (first
  | (refine .id ?_
     (try (conv => arg 2; cbv))
     first
      | (refine .indF (fun m_ s_ => ∃ (a1 : Int) (a5 : Int) (tk : List Nat) (bq : Box), s_ = ⟨[.asl (.out 0) 2 n, iX a1, Jk, Jk, Jk, iX a5] ++ List.replicate 21 Jk, [], [bq], tk⟩ ∧ (bq = (o.bx fun _ => eEd (markG (fE k) l a5)) ∧ 0 ≤ a5 ∧ a5 ≤ n ∧ a1 = k + 2 * a5) ∧ (n - a5).toNat ≤ m_) _ _ ⟨_, _, _, _, by subst ho; rfl, ?_, Nat.le_refl _⟩ ?_
         rotate_right
         rintro m_ _ ⟨a1, a5, tk, bq, rfl, hIa, hka⟩ iha
         obtain ⟨rfl, i1, i2, i3⟩ := hIa; have hml := markG_len (f := fE k) (l := l) i1 (by omega); refine .unloopA ho ?_
         repeat' (first
          | (refine .id ?_
             (try (conv => arg 2; cbv))
             first
              | (refine .test (fun hr => ?_) (fun hr => ?_) <;> (have hb := hr) <;> (try simp (disch := omega) only [ho, std, wI, lenE, Int.ofNat_eq_natCast, nrm] at hb) <;> (try (exfalso; first | contradiction | omega | exact hb rfl)))
              | (refine .fetchS ho ?_ ?_ ?_)
              | (refine .fetchYEd ho ?_ ?_ (by with_reducible assumption) ?_)
              | (refine .fetchXEd ho ?_ ?_ (fun y hy => ?_); rotate_left 2; rcases y with ⟨y0, y1⟩)
              | (refine iha _ _ ?_ ⟨_, _, _, _, by subst ho; rfl, ?_, Nat.le_refl _⟩)
              | (refine .fin ?_; refine ⟨_, by (conv => lhs; cbv) <;> rfl, ?_, _, by rfl, ?_⟩))
          | ((fail_if_success (refine .id ?_))
             first
              | (subst ho; exact ⟨congrArg eEd (markG_zero _ l).symm, Int.le_refl _, by omega, by omega⟩)
              | (refine congrArg (fun x => [D.int .i64 x]) ?_; omega)
              | (subst ho; refine congrArg eEd ?_; rw [h0]; exact markG_end (by omega) (by omega))
              | ((try clear iha); subst ho; simp (disch := omega) only [std, wI, List.set_set]; exact ⟨markE_set i1 (by omega) (by omega) (by omega), by omega, by omega, by omega⟩)
              | assumption
              | omega
              | (subst ho; simp (disch := omega) only [std, wI, tdiv2, tdivN, lenE] <;> first | done | rfl | omega)
              | (subst ho; simp [std, lenE]; omega)))))
  | ((fail_if_success (refine .id ?_))
     first
      | fail))
theorem laws_heldEdgeS.ans {xa xb : Option (List D → Option D)} (o : Std) (ho : o = std) (a : List Ed) (k : Int) (h0 : a = rowE k a.length) (h1 : a.length ≤ 6300000) (h2 : 0 ≤ k ∧ k ≤ 1) : Ans (env xa xb) 48 [rEd o a, iX k] (iX (k + 2 * a.length)) := by
 refine Ans.mkA ho _ rfl rfl ?_
 repeat' (first
  | (refine .id ?_
     (try (conv => arg 2; cbv))
     first
      | (refine .indF (fun m_ s_ => ∃ (a1 : Int) (a5 : Int) (tk : List Nat), s_ = ⟨[rEd o a, iX a1, Jk, Jk, Jk, iX a5] ++ List.replicate 25 Jk, [], [], tk⟩ ∧ (0 ≤ a5 ∧ a5 ≤ a.length ∧ a1 = k + 2 * a5) ∧ (a.length - a5).toNat ≤ m_) _ _ ⟨_, _, _, by subst ho; rfl, ?_, Nat.le_refl _⟩ ?_
         rotate_right
         rintro m_ _ ⟨a1, a5, tk, rfl, hIa, hka⟩ iha
         obtain ⟨i1, i2, i3⟩ := hIa; refine .unloopA ho ?_
         repeat' (first
          | (refine .id ?_
             (try (conv => arg 2; cbv))
             first
              | (refine .test (fun hr => ?_) (fun hr => ?_) <;> (have hb := hr) <;> (try simp (disch := omega) only [ho, std, wI, lenE, Int.ofNat_eq_natCast, nrm] at hb) <;> (try (exfalso; first | contradiction | omega | exact hb rfl)))
              | (refine .fetchYEd ho ?_ ?_ (by with_reducible assumption) ?_)
              | (refine .fetchXEd ho ?_ ?_ (fun y hy => ?_); rotate_left 2; rcases y with ⟨y0, y1⟩; (have hyq := rowE_at i1 (by omega) (h0 ▸ hy); obtain ⟨q0, q1⟩ := hyq))
              | (refine iha _ _ ?_ ⟨_, _, _, by subst ho; rfl, ?_, Nat.le_refl _⟩)
              | (refine .fin ?_; (conv => lhs; cbv) <;> refine congrArg some ?_))
          | ((fail_if_success (refine .id ?_))
             first
              | (subst ho; exact ⟨Int.le_refl _, by omega, by omega⟩)
              | ((try clear iha); simp (disch := omega) only [ho, std, wI]; exact ⟨by omega, by omega, by omega⟩)
              | (refine dI ?_; omega)
              | assumption
              | (subst ho; simp (disch := omega) only [std, wI, tdiv2, tdivN, lenE] <;> first | done | rfl | omega)))))
  | ((fail_if_success (refine .id ?_))
     first
      | fail))
theorem laws_eqEdge.ans {xa xb : Option (List D → Option D)} (o : Std) (ho : o = std) (a_f0 : Int) (a_f1 : Int) (b_f0 : Int) (b_f1 : Int) (h0 : a_f0 = b_f0 ∧ a_f1 = b_f1) : Ans (env xa xb) 78 [.agg [iX a_f0, iX a_f1], .agg [iX b_f0, iX b_f1]] (.bool (true)) := by
 refine Ans.mkA ho _ rfl rfl ?_
 obtain ⟨rfl, rfl⟩ := h0
 repeat' (first
  | (refine .id ?_
     (try (conv => arg 2; cbv))
     first
      | (refine .test (fun hr => ?_) (fun hr => ?_) <;> (have hb := hr) <;> (try simp (disch := omega) only [ho, std, wI, lenE, Int.ofNat_eq_natCast, nrm] at hb) <;> (try (exfalso; first | contradiction | omega | exact hb rfl)))
      | (refine .fin ?_; (conv => lhs; cbv) <;> refine congrArg some ?_))
  | ((fail_if_success (refine .id ?_))
     first
      | fail))
theorem laws_eqEdgeS.ans {xa xb : Option (List D → Option D)} (o : Std) (ho : o = std) (a : List Ed) (b : List Ed) (h0 : a = b) (h1 : a.length ≤ 6300000) : Ans (env xa xb) 46 [rEd o a, rEd o b] (.bool (true)) := by
 refine Ans.mkA ho _ rfl rfl ?_
 subst h0
 repeat' (first
  | (refine .id ?_
     (try (conv => arg 2; cbv))
     first
      | (refine .test (fun hr => ?_) (fun hr => ?_) <;> (have hb := hr) <;> (try simp (disch := omega) only [ho, std, wI, lenE, Int.ofNat_eq_natCast, nrm] at hb) <;> (try (exfalso; first | contradiction | omega | exact hb rfl)))
      | (refine .indF (fun m_ s_ => ∃ (a5 : Int) (tk : List Nat), s_ = ⟨[rEd o a, rEd o a, Jk, Jk, Jk, iX a5] ++ List.replicate 21 Jk, [], [], tk⟩ ∧ (0 ≤ a5 ∧ a5 ≤ a.length) ∧ (a.length - a5).toNat ≤ m_) _ _ ⟨_, _, by subst ho; rfl, ?_, Nat.le_refl _⟩ ?_
         rotate_right
         rintro m_ _ ⟨a5, tk, rfl, hIa, hka⟩ iha
         obtain ⟨i1, i2⟩ := hIa; refine .unloopA ho ?_
         repeat' (first
          | (refine .id ?_
             (try (conv => arg 2; cbv))
             first
              | refine .tN0 ho ?_
              | (refine .test (fun hr => ?_) (fun hr => ?_) <;> (have hb := hr) <;> (try simp (disch := omega) only [ho, std, wI, lenE, Int.ofNat_eq_natCast, nrm] at hb) <;> (try (exfalso; first | contradiction | omega | exact hb rfl)))
              | (refine .pE (β := Bool) .bool (as' := [.agg [iX _, iX _], .agg [iX _, iX _]]) (laws_eqEdge.ans o ho _ _ _ _ ?_) ?_; rotate_left 1; rintro (_ | _) hv <;> (try simp only [dE] at hv) <;> (try first | contradiction | exact bX hv))
              | (refine .fetchYEd ho ?_ ?_ (by with_reducible assumption) ?_)
              | (refine .fetchXEd ho ?_ ?_ (fun y hy => ?_); rotate_left 2; rcases y with ⟨y0, y1⟩)
              | (refine .needD ho (by kernel_rfl) ?_)
              | (refine iha _ _ ?_ ⟨_, _, by subst ho; rfl, ?_, Nat.le_refl _⟩)
              | (refine .fin ?_; (conv => lhs; cbv) <;> refine congrArg some ?_))
          | ((fail_if_success (refine .id ?_))
             first
              | (exact ⟨rfl, rfl⟩)
              | (simp (disch := omega) only [ho, std, wI]; exact ⟨by omega, by omega⟩)
              | assumption
              | omega
              | (subst ho; simp (disch := omega) only [std, wI, tdiv2, tdivN, lenE] <;> first | done | rfl | omega)))))
  | ((fail_if_success (refine .id ?_))
     first
      | fail))
section
variable {w : World} {lo hi lo' hi' : Nat} {v v' : Value} {l : List Ed}
theorem k_eqE (hl : l.length ≤ 6300000) (hv : Row lo hi w 2 (eEd l) v) (hh : hi ≤ w.heap.size) (hv' : Row lo' hi' w 2 (eEd l) v') (hh' : hi' ≤ w.heap.size) : Calls Tryz.prog 46 #[v, v'] w fun e w' => e = .returned (.bool true) ∧ Stay w w' :=
 bool_calls env_okA (laws_eqEdgeS.ans (xa := some gPass) (xb := some gFree) std rfl l l rfl hl) rfl (args2 (.row hv hh (flt_eEd l)) (.row hv' hh' (flt_eEd l)))
theorem k_markE (hl : l.length ≤ 6300000) (hv : Row lo hi w 2 (eEd l) v) (hu : Unf w 2 (eEd l) v) (hh : hi ≤ w.heap.size) : Calls Tryz.prog 47 #[v, .int .i64 1] w fun e w' => ∃ k, e = .returned (.int .i64 k) ∧ k = 1 + 2 * l.length ∧ Row lo hi w' 2 (eEd (rowE 1 l.length)) v ∧ Mark lo hi w w' := by
 have hlk : (eEd l).length = l.length := len_eEd l
 refine (mark_calls env_okA (k := 1) (kr := 1 + 2 * l.length) (R := fun bx => bx = eEd (rowE 1 l.length)) (laws_markEdgeS_0.ans (xa := some gPass) (xb := some gFree) std rfl [] 1 rfl) (fun he => ?_) (fun _ => ?_) (flt_eEd l) ?_ hv hu hh).mono ?_
 · have : l.length = 0 := by rw [← hlk, he]; rfl
   exact ⟨by omega, by rw [this]; rfl⟩
 · rw [hlk]
   exact laws_markEdgeS.mark (xa := some gPass) (xb := some gFree) std rfl 1 l l.length rfl (by omega) (by decide)
 · rintro bx rfl
   exact ⟨flt_eEd _, by rw [len_eEd, hlk, rowE_len]⟩
 · rintro e w' ⟨bx, rfl, rfl, hr, hm⟩
   exact ⟨_, rfl, rfl, hr, hm⟩
theorem k_heldE {n : Nat} (hn : n ≤ 6300000) (hv : Row lo hi w 2 (eEd (rowE 1 n)) v) (hh : hi ≤ w.heap.size) : Calls Tryz.prog 48 #[v, .int .i64 1] w fun e w' => ∃ k, e = .returned (.int .i64 k) ∧ k = 1 + 2 * n ∧ Stay w w' := by
 have hl := rowE_len 1 n
 refine (int_calls env_okA (laws_heldEdgeS.ans (xa := some gPass) (xb := some gFree) std rfl (rowE 1 n) 1 (by rw [hl]) (by omega) (by decide)) rfl (args2 (.row hv hh (flt_eEd _)) .int)).mono ?_
 rintro e w' ⟨rfl, hs⟩
 exact ⟨_, rfl, by rw [hl], hs⟩
end
theorem k14_impl {w : World} {lo hi : Nat} {v : Value} {a : List Nd} {dp : Int} (hz : SzL a) (hh : hi ≤ w.heap.size) (hv : Row lo hi w 7 (eNd a) v) : Calls Tryz.prog 52 #[v, .int .i64 dp] w fun e w' => ∃ v', e = .returned v' ∧ Row w.heap.size w'.heap.size w' 2 (eEd (funM a dp)) v' ∧ Unf w' 2 (eEd (funM a dp)) v' ∧ Stay w w' := fungraph_calls hz hh hv
theorem k14_spec {w : World} {lo hi : Nat} {v : Value} {a : List Nd} {dp : Int} (hz : SzL a) (hh : hi ≤ w.heap.size) (hv : Row lo hi w 7 (eNd a) v) : Calls Tryz.prog 51 #[v, .int .i64 dp] w fun e w' => ∃ v', e = .returned v' ∧ Row 0 w'.heap.size w' 2 (eEd (funM a dp)) v' ∧ Stay w w' :=
 row_calls env_okA (spec_FunGraph.ans (xa := some gPass) (xb := some gFree) std rfl a dp hz.sz (by have := hz.1; omega)) (flt_eEd _) rfl (args2 (.row hv hh (flt_eNd a)) .int)
theorem law14_calls {W : World} {a : List Nd} {dp : Int} {v : Value} (hB : Bg a) (h0 : Row 0 W.heap.size W 7 (eNd a) v) : Calls Tryz.prog 14 #[v, .int .i64 dp] W fun e w => e = .returned (.bool true) ∧ Below W.heap.size W w := by
 have hn : Tryz.f14.ntmps = 74 := by kernel_rfl
 have e15 : ∀ args w, (callFunc 15 args).run Tryz.prog w = .ok (.enter 15 args) w := enters_of Tryz.func15 (by kernel_rfl) rfl
 have e17 : ∀ args w, (callFunc 17 args).run Tryz.prog w = .ok (.enter 17 args) w := enters_of Tryz.func17 (by kernel_rfl) rfl
 have e19 : ∀ args w, (callFunc 19 args).run Tryz.prog w = .ok (.enter 19 args) w := enters_of Tryz.func19 (by kernel_rfl) rfl
 have e23 : ∀ args w, (callFunc 23 args).run Tryz.prog w = .ok (.enter 23 args) w := enters_of Tryz.func23 (by kernel_rfl) rfl
 have e46 : ∀ args w, (callFunc 46 args).run Tryz.prog w = .ok (.enter 46 args) w := enters_of Tryz.func46 (by kernel_rfl) rfl
 have e47 : ∀ args w, (callFunc 47 args).run Tryz.prog w = .ok (.enter 47 args) w := enters_of Tryz.func47 (by kernel_rfl) rfl
 have e48 : ∀ args w, (callFunc 48 args).run Tryz.prog w = .ok (.enter 48 args) w := enters_of Tryz.func48 (by kernel_rfl) rfl
 have e51 : ∀ args w, (callFunc 51 args).run Tryz.prog w = .ok (.enter 51 args) w := enters_of Tryz.func51 (by kernel_rfl) rfl
 have e52 : ∀ args w, (callFunc 52 args).run Tryz.prog w = .ok (.enter 52 args) w := enters_of Tryz.func52 (by kernel_rfl) rfl
 have t3 := Tryz.underlying3; have t4 := Tryz.underlying4
 go_enter Tryz.func14, hn
 go_wp2_with (go_at_fn 15; refine (k_sz hB h0 (Nat.le_refl _)).mono ?_; rintro e w1 ⟨r, rfl, hsz, s1⟩)
 · go_ret
   exact ⟨rfl, s1.1⟩
 have hz : SzL a := hsz (by omega)
 have hlen : (funM a dp).length ≤ 6300000 := Nat.le_trans (funM_len a dp) (by decide)
 have b1 : Below W.heap.size W w1 := s1.1
 have h1 := h0.stay (Nat.le_refl _) s1
 go_wp2_with (go_at_fn 17; refine (k_to hz h1 b1.size).mono ?_; rintro e w2 ⟨u1, rfl, hu1, _, s2⟩)
 have h2 := h1.stay b1.size s2; have b2 := b1.trans (s2.1.mono b1.size)
 go_wp2_with (go_at_fn 51; refine (k14_spec hz (Nat.le_refl _) hu1).mono ?_; rintro e w3 ⟨u2, rfl, hw3, s3⟩)
 have h3 := h2.stay b2.size s3; have b3 := b2.trans (s3.1.mono b2.size)
 go_wp2_with (go_at_fn 17; refine (k_to hz h3 b3.size).mono ?_; rintro e w4 ⟨u3, rfl, hx4, ux4, s4⟩)
 have q4 := s4.1.size; have h4 := h3.stay b3.size s4; have b4 := b3.trans (s4.1.mono b3.size); have hw4 := hw3.stay (Nat.le_refl _) s4
 go_wp2_with (go_at_fn 52; refine (k14_impl hz (Nat.le_refl _) hx4).mono ?_; rintro e w5 ⟨u4, rfl, hg5, ug5, s5⟩)
 have q5 := s5.1.size; have h5 := h4.stay b4.size s5; have b5 := b4.trans (s5.1.mono b4.size); have hw5 := hw4.stay q4 s5; have hx5 := hx4.stay (Nat.le_refl _) s5; have ux5 := ux4.stay hx4 (Nat.le_refl _) s5
 go_wp2_with (go_at_fn 46; refine (k_eqE hlen hg5 (Nat.le_refl _) hw5 (by omega)).mono ?_; rintro e w6 ⟨rfl, s6⟩)
 have q6 := s6.1.size; have h6 := h5.stay b5.size s6; have b6 := b5.trans (s6.1.mono b5.size); have hw6 := hw5.stay (by omega) s6; have hx6 := hx5.stay q5 s6; have ux6 := ux5.stay hx5 q5 s6; have hg6 := hg5.stay (Nat.le_refl _) s6; have ug6 := ug5.stay hg5 (Nat.le_refl _) s6
 go_wp2_with (go_at_fn 17; refine (k_to hz h6 b6.size).mono ?_; rintro e w7 ⟨u5, rfl, hy7, _, s7⟩)
 have q7 := s7.1.size; have h7 := h6.stay b6.size s7; have b7 := b6.trans (s7.1.mono b6.size); have hw7 := hw6.stay (by omega) s7; have hx7 := hx6.stay (by omega) s7; have ux7 := ux6.stay hx6 (by omega) s7; have hg7 := hg6.stay (by omega) s7; have ug7 := ug6.stay hg6 (by omega) s7
 go_wp2_with (go_at_fn 19; refine (k_eqN hz hx7 (by omega) hy7 (Nat.le_refl _)).mono ?_; rintro e w8 ⟨rfl, s8⟩)
 have q8 := s8.1.size; have h8 := h7.stay b7.size s8; have b8 := b7.trans (s8.1.mono b7.size); have hw8 := hw7.stay (by omega) s8; have hx8 := hx7.stay (by omega) s8; have ux8 := ux7.stay hx7 (by omega) s8; have hg8 := hg7.stay (by omega) s8; have ug8 := ug7.stay hg7 (by omega) s8
 have b3s := b3.size; have b8s := b8.size
 go_wp2_with (go_at_fn 23; refine (k_markN hz hx8 ux8 (by omega)).mono ?_; rintro e w9 ⟨k1, rfl, hk1, m9⟩)
 have q9 := m9.2.2.2.1; have h9 := h8.mark b8s m9 (.inl b3s); have b9 := b8.trans (m9.below b3s b8s); have hw9 := hw8.mark (by omega) m9 (.inl (Nat.le_refl _)); have hg9 := hg8.mark (by omega) m9 (.inr (Nat.le_refl _)); have ug9 := ug8.mark hg8 (by omega) m9 (.inr (Nat.le_refl _))
 have hk1n : ¬ k1 < 0 := by omega
 have hk1d : decide (k1 < 0) = false := decide_eq_false hk1n
 go_wp2_with (go_at_fn 46; refine (k_eqE hlen hg9 (by omega) hw9 (by omega)).mono ?_; rintro e w10 ⟨rfl, s10⟩)
 have q10 := s10.1.size; have h10 := h9.stay b9.size s10; have b10 := b9.trans (s10.1.mono b9.size); have hw10 := hw9.stay (by omega) s10; have hg10 := hg9.stay (by omega) s10; have ug10 := ug9.stay hg9 (by omega) s10; have b10s := b10.size
 go_wp2_with (go_at_fn 47; refine (k_markE hlen hg10 ug10 (by omega)).mono ?_; rintro e w11 ⟨k2, rfl, hk2, hg11, m11⟩)
 have q11 := m11.2.2.2.1; have h11 := h10.mark b10s m11 (.inl (by omega)); have b11 := b10.trans (m11.below (by omega) b10s); have hw11 := hw10.mark (by omega) m11 (.inl (by omega))
 have hk2n : ¬ k2 < 0 := by omega
 have hk2d : decide (k2 < 0) = false := decide_eq_false hk2n
 go_wp2_with (go_at_fn 48; refine (k_heldE hlen hg11 (by omega)).mono ?_; rintro e w12 ⟨k3, rfl, hk3, s12⟩)
 obtain rfl : k3 = k2 := hk3.trans hk2.symm
 have q12 := s12.1.size; have h12 := h11.stay b11.size s12; have b12 := b11.trans (s12.1.mono b11.size); have hw12 := hw11.stay (by omega) s12; have hg12 := hg11.stay (by omega) s12
 go_wp2_with (go_at_fn 17; refine (k_to hz h12 b12.size).mono ?_; rintro e w13 ⟨u6, rfl, hu13, _, s13⟩)
 have q13 := s13.1.size; have b13 := b12.trans (s13.1.mono b12.size); have hw13 := hw12.stay (by omega) s13; have hg13 := hg12.stay (by omega) s13
 go_wp2_with (go_at_fn 52; refine (k14_impl hz (Nat.le_refl _) hu13).mono ?_; rintro e w14 ⟨u7, rfl, hh14, _, s14⟩)
 have q14 := s14.1.size; have b14 := b13.trans (s14.1.mono b13.size); have hw14 := hw13.stay (by omega) s14; have hg14 := hg13.stay (by omega) s14
 go_wp2_with (go_at_fn 46; refine (k_eqE hlen hh14 (Nat.le_refl _) hw14 (by omega)).mono ?_; rintro e w15 ⟨rfl, s15⟩)
 have q15 := s15.1.size; have b15 := b14.trans (s15.1.mono b14.size); have hg15 := hg14.stay (by omega) s15
 go_wp2_with (go_at_fn 48; refine (k_heldE hlen hg15 (by omega)).mono ?_; rintro e w16 ⟨k4, rfl, hk4, s16⟩)
 obtain rfl : k4 = k3 := hk4.trans hk2.symm
 have b16 := b15.trans (s16.1.mono b15.size)
 go_ret
 exact ⟨rfl, b16⟩
end Go.Mach
