/- FnExactPrune returns what the reference returns: part 31 of a proof by an executable machine over the program's code. -/
import Derived.Test.YtbkpkchegopmiaaGreatDoorL111
set_option linter.unusedVariables false
set_option linter.unusedSimpArgs false
set_option maxRecDepth 100000
set_option maxHeartbeats 6000000
namespace Go.Mach
open Go Go.RowKit
def edgeP (l : List Nd) (fs : List Fc) (f : Fc) : Bool := decide (f.k = 6) && decide ((rN l f.n).f0 = 4) && !decide ((vals fs 0 (rN l f.n).f2 f.c).length = 0)
def edgesV (n : Int) (vs : List Ab) : List Ed := (vs.filter fun v => decide (v.k = 1)).map fun v => ⟨n, v.n⟩
def edgesF (l : List Nd) (fs : List Fc) (f : Fc) : List Ed := if edgeP l fs f then edgesV f.n (vals fs 0 (rN l f.n).f1 f.c) else []
def rawG (l : List Nd) (fs gs : List Fc) : List Ed := gs.flatMap (edgesF l fs)
theorem rawG_step {l : List Nd} {fs gs : List Fc} {i : Int} {y : Fc} (h0 : 0 ≤ i) (h1 : i < gs.length) (hy : rF gs i = y) : rawG l fs (gs.take (i + 1).toNat) = rawG l fs (gs.take i.toNat) ++ edgesF l fs y := by
 unfold rawG
 rw [take_succG zF h0 h1, show rdG zF gs i = y from hy, List.flatMap_append]; simp
theorem edgesF_no {l : List Nd} {fs : List Fc} {y : Fc} (h : edgeP l fs y = false) : edgesF l fs y = [] := by unfold edgesF; rw [h]; rfl
theorem edgesF_yes {l : List Nd} {fs : List Fc} {y : Fc} (h : edgeP l fs y = true) : edgesF l fs y = edgesV y.n (vals fs 0 (rN l y.n).f1 y.c) := by unfold edgesF; rw [h]; rfl
theorem edgeP_no1 {l : List Nd} {fs : List Fc} {y : Fc} (h : ¬ y.k = 6) : edgeP l fs y = false := by unfold edgeP; simp [h]
theorem edgeP_no2 {l : List Nd} {fs : List Fc} {y : Fc} {n : Nd} (hn : rN l y.n = n) (h : ¬ n.f0 = 4) : edgeP l fs y = false := by unfold edgeP; rw [hn]; simp [h]
theorem edgeP_no3 {l : List Nd} {fs : List Fc} {y : Fc} {n : Nd} {v : List Ab} (hn : rN l y.n = n) (hv : vals fs 0 n.f2 y.c = v) (h : (v.length : Int) = 0) : edgeP l fs y = false := by
 unfold edgeP; rw [hn, hv]; have : v.length = 0 := by omega
 simp [this]
theorem edgeP_yes {l : List Nd} {fs : List Fc} {y : Fc} {n : Nd} {v : List Ab} (h1 : y.k = 6) (hn : rN l y.n = n) (h2 : n.f0 = 4) (hv : vals fs 0 n.f2 y.c = v) (h : ¬ (v.length : Int) = 0) : edgeP l fs y = true := by
 unfold edgeP; rw [hn, hv]; have : ¬ v.length = 0 := by omega
 simp [this, h1, h2]
theorem edgesV_step {n : Int} {vs : List Ab} {i : Int} {y : Ab} (h0 : 0 ≤ i) (h1 : i < vs.length) (hy : rA vs i = y) : edgesV n (vs.take (i + 1).toNat) = edgesV n (vs.take i.toNat) ++ if y.k = 1 then [⟨n, y.n⟩] else [] := by
 unfold edgesV
 rw [take_succG zA h0 h1, show rdG zA vs i = y from hy, List.filter_append, List.map_append]
 congr 1
 by_cases h : y.k = 1 <;> simp [h]
theorem edgesV_hit {n : Int} {vs : List Ab} {i : Int} {y : Ab} (h0 : 0 ≤ i) (h1 : i < vs.length) (hy : rA vs i = y) (h : y.k = 1) : edgesV n (vs.take (i + 1).toNat) = edgesV n (vs.take i.toNat) ++ [⟨n, y.n⟩] := by
 rw [edgesV_step h0 h1 hy, if_pos h]
theorem edgesV_miss {n : Int} {vs : List Ab} {i : Int} {y : Ab} (h0 : 0 ≤ i) (h1 : i < vs.length) (hy : rA vs i = y) (h : ¬ y.k = 1) : edgesV n (vs.take (i + 1).toNat) = edgesV n (vs.take i.toNat) := by
 rw [edgesV_step h0 h1 hy, if_neg h, List.append_nil]
theorem edgesV_len (n : Int) (vs : List Ab) : (edgesV n vs).length ≤ vs.length := by unfold edgesV; rw [List.length_map]; exact List.length_filter_le _ _
theorem edgesV_lenT (n : Int) (vs : List Ab) (i : Nat) : (edgesV n (vs.take i)).length ≤ vs.length := Nat.le_trans (edgesV_len n _) (List.length_take_le' i vs)
theorem edgesF_len (l : List Nd) (fs : List Fc) (f : Fc) : (edgesF l fs f).length ≤ fs.length := by
 unfold edgesF; split
 · exact Nat.le_trans (edgesV_len _ _) (len_vals _ _ _ _)
 · exact Nat.zero_le _
theorem rawG_len {l : List Nd} {fs : List Fc} : ∀ gs : List Fc, (rawG l fs gs).length ≤ gs.length * fs.length
 | [] => by simp [rawG]
 | f :: gs => by
   have h1 := edgesF_len l fs f
   have h2 := rawG_len (l := l) (fs := fs) gs
   unfold rawG at h2 ⊢
   rw [List.flatMap_cons, List.length_append, List.length_cons, Nat.succ_mul]
   omega
theorem rawG_lenT {l : List Nd} {fs : List Fc} (h : fs.length ≤ 2500) (i : Nat) : (rawG l fs (fs.take i)).length ≤ 6250000 := by
 have h1 := rawG_len (l := l) (fs := fs) (fs.take i)
 have h2 := List.length_take_le' i fs
 have h3 : (fs.take i).length * fs.length ≤ 2500 * 2500 := Nat.mul_le_mul (by omega) h
 omega
theorem rawG_inn {l : List Nd} {fs : List Fc} (h : fs.length ≤ 2500) (i : Nat) (n c : Int) (m : Int) (j : Nat) : (rawG l fs (fs.take i) ++ edgesV m ((vals fs 0 n c).take j)).length ≤ 6252500 := by
 have h1 := rawG_lenT (l := l) h i
 have h2 := edgesV_lenT m (vals fs 0 n c) j
 have h3 := len_vals fs 0 n c
 rw [List.length_append]; omega
def graphR (l : List Nd) (dp : Int) : List Ed := rawG l (solveR l dp).1 (solveR l dp).1
def graphM (l : List Nd) (dp : Int) : List Ed := canE (graphR l dp)
theorem graphR_len (l : List Nd) (dp : Int) : (graphR l dp).length ≤ 6250000 := by
 have h := (solveR_all l dp).1
 have h1 := rawG_lenT (l := l) h (solveR l dp).1.length
 rw [List.take_length] at h1; exact h1
theorem graphM_len (l : List Nd) (dp : Int) : (graphM l dp).length ≤ 6250000 := Nat.le_trans (can_len _) (graphR_len l dp)
theorem graphM_lenT (l : List Nd) (dp : Int) (i : Nat) : ((graphM l dp).take i).length ≤ 6250000 := Nat.le_trans (List.length_take_le' _ _) (graphM_len l dp)
theorem can_hit {m : List Ed} {e : Ed} {o : List Ed} (h : insE e (canE m) = o) : o = canE (m ++ [e]) := by rw [can_app, h]
theorem can_lenT {m : List Ed} {n : Nat} (h : m.length ≤ n) : (canE m).length ≤ n := Nat.le_trans (can_len m) h
theorem srtE_ded (m : List Ed) : dedE (m.mergeSort fun x y => !ltE y x) m.length = canE m := by
 have hp : (m.mergeSort fun x y => !ltE y x).Perm m := List.mergeSort_perm _ _
 have hs : (m.mergeSort fun x y => !ltE y x).Pairwise (fun a b => ltE b a = false) := by
  have := List.pairwise_mergeSort (le := fun x y => !ltE y x) (fun a b c h1 h2 => ?_) (fun a b => ?_) m
  · exact this.imp fun h => by simpa using h
  · rw [Bool.not_eq_true'] at h1 h2 ⊢
    rw [ltE_no] at h1 h2 ⊢
    omega
  · by_cases h : ltE b a = true
    · rw [h, ltE_as h]; rfl
    · rw [Bool.not_eq_true] at h; rw [h]; rfl
 obtain ⟨h1, h2⟩ := ded_ok hs m.length (by rw [hp.length_eq]; exact Nat.le_refl _)
 refine ris_uniq h1 (can_ris m) fun y => ?_
 rw [h2, List.take_of_length_le (by rw [hp.length_eq]; exact Nat.le_refl _), can_mem, hp.mem_iff]
theorem graph_in (l : List Nd) (dp : Int) : ∀ e ∈ graphM l dp, (0 ≤ e.f0 ∧ e.f0 < l.length) ∧ 0 ≤ e.f1 ∧ e.f1 < l.length := by
 intro e he
 have he : e ∈ graphR l dp := can_mem.1 he
 unfold graphR rawG at he
 obtain ⟨f, hf, he⟩ := List.mem_flatMap.1 he
 unfold edgesF at he
 split at he
 · unfold edgesV at he
   obtain ⟨v, hv, rfl⟩ := List.mem_map.1 he
   have hv := mem_vals.1 (List.mem_filter.1 hv).1
   refine ⟨(solveR_all l dp).2 f hf, ?_⟩
   unfold solveR at hv
   split at hv
   · rename_i fs hs
     exact (solveO_fit hs).2.1.vn _ hv
   · cases hv
 · cases he
theorem beq2_no {a b c d : Int} (h : (a == b && (c == d && true)) = false) : ¬(a = b ∧ c = d) := by
 rintro ⟨rfl, rfl⟩; simp at h
theorem solveR_fr (l : List Nd) (dp : Int) : Up (solveR l dp).1 ∧ (∀ f ∈ (solveR l dp).1, 0 ≤ f.v.k) ∧ (∀ f ∈ (solveR l dp).1, 0 ≤ f.v.k ∧ 0 ≤ f.v.n) := by
 unfold solveR
 split
 · rename_i fs hs
   have h := (solveO_fit hs).2.1
   exact ⟨h.up, h.vk, fun f hf => ⟨h.vk f hf, (h.vn f hf).1⟩⟩
 · exact ⟨List.Pairwise.nil, (fun f hf => absurd hf (by simp)), (fun f hf => absurd hf (by simp))⟩
theorem edges_inn {l : List Nd} {fs : List Fc} (h : fs.length ≤ 2500) {n c : Int} {v : List Ab} (hv : vals fs 0 n c = v) (i : Nat) (m : Int) (j : Nat) : (rawG l fs (fs.take i) ++ edgesV m (v.take j)).length ≤ 6252500 := by
 subst hv; exact rawG_inn h i n c m j
theorem rawG_miss {l : List Nd} {fs gs : List Fc} {i : Int} {y : Fc} (h0 : 0 ≤ i) (h1 : i < gs.length) (hy : rF gs i = y) (hp : edgeP l fs y = false) : rawG l fs (gs.take (i + 1).toNat) = rawG l fs (gs.take i.toNat) := by
 rw [rawG_step h0 h1 hy, edgesF_no hp, List.append_nil]
theorem inn_zero (r : List Ed) (n : Int) (v : List Ab) : r ++ edgesV n (v.take (0 : Int).toNat) = r := by simp [edgesV]
theorem inn_hit {r : List Ed} {n : Int} {vs : List Ab} {i : Int} {y : Ab} (h0 : 0 ≤ i) (h1 : i < vs.length) (hy : rA vs i = y) (h : y.k = 1) : r ++ edgesV n (vs.take (i + 1).toNat) = r ++ edgesV n (vs.take i.toNat) ++ [⟨n, y.n⟩] := by
 rw [edgesV_hit h0 h1 hy h, List.append_assoc]
theorem inn_hitC {r : List Ed} {n : Int} {vs : List Ab} {i : Int} {y : Ab} (h0 : 0 ≤ i) (h1 : i < vs.length) (hy : rA vs i = y) (h : y.k = 1) : canE (r ++ edgesV n (vs.take (i + 1).toNat)) = insE ⟨n, y.n⟩ (canE (r ++ edgesV n (vs.take i.toNat))) := by
 rw [inn_hit h0 h1 hy h, can_app]
theorem inn_miss {r : List Ed} {n : Int} {vs : List Ab} {i : Int} {y : Ab} (h0 : 0 ≤ i) (h1 : i < vs.length) (hy : rA vs i = y) (h : ¬ y.k = 1) : r ++ edgesV n (vs.take (i + 1).toNat) = r ++ edgesV n (vs.take i.toNat) := by
 rw [edgesV_miss h0 h1 hy h]
theorem inn_end {l : List Nd} {fs gs : List Fc} {i b : Int} {y : Fc} {nd : Nd} {v : List Ab} (h0 : 0 ≤ i) (h1 : i < gs.length) (hy : rF gs i = y) (hp : edgeP l fs y = true) (hn : rN l y.n = nd) (hv : vals fs 0 nd.f1 y.c = v) (hb : (v.length : Int) ≤ b) : rawG l fs (gs.take (i + 1).toNat) = rawG l fs (gs.take i.toNat) ++ edgesV y.n (v.take b.toNat) := by
 rw [rawG_step h0 h1 hy, edgesF_yes hp, hn, hv, take_allG hb]
theorem graph_fin {l : List Nd} {dp i : Int} (h : ((solveR l dp).1.length : Int) ≤ i) : canE (rawG l (solveR l dp).1 ((solveR l dp).1.take i.toNat)) = graphM l dp := by
 rw [take_allG h]; rfl
theorem graphR_fin {l : List Nd} {dp i : Int} (h : ((solveR l dp).1.length : Int) ≤ i) : rawG l (solveR l dp).1 ((solveR l dp).1.take i.toNat) = graphR l dp := by
 rw [take_allG h]; rfl
theorem vals_lenE {fs : List Fc} (h : fs.length ≤ 2500) {k n c : Int} {v : List Ab} (hv : vals fs k n c = v) : v.length ≤ 2500 := by
 subst hv; exact Nat.le_trans (len_vals fs k n c) h
theorem beq2_yes {a b c d : Int} (h : (a == b && (c == d && true)) = true) : a = b ∧ c = d := by simpa using h
theorem ded_firstE {l : List Ed} {i : Int} {y : Ed} (h0 : i = 0) (hy : rE l i = y) : dedE l i.toNat ++ [y] = dedE l (i + 1).toNat := by
 subst h0 hy; rfl
theorem ded_stepE {l : List Ed} {i : Int} (h0 : 0 ≤ i) : dedE l (i + 1).toNat = dedE l i.toNat ++ if i.toNat = 0 ∨ l.getD (i.toNat - 1) zEd ≠ l.getD i.toNat zEd then [l.getD i.toNat zEd] else [] := by
 rw [show (i + 1).toNat = i.toNat + 1 by omega]; rfl
theorem ded_newE {l : List Ed} {i : Int} {y q : Ed} (h0 : 0 ≤ i) (hn : ¬ i = 0) (hy : rE l i = y) (hq : rE l (i - 1) = q) (hne : ¬ q = y) : dedE l i.toNat ++ [y] = dedE l (i + 1).toNat := by
 subst hy hq
 rw [ded_stepE h0, if_pos]; rfl
 refine .inr fun e => hne ?_
 have : (i - 1).toNat = i.toNat - 1 := by omega
 unfold rE rdG; rw [this]; exact e
theorem ded_oldE {l : List Ed} {i : Int} {y q : Ed} (h0 : 0 ≤ i) (hn : ¬ i = 0) (hy : rE l i = y) (hq : rE l (i - 1) = q) (he : q = y) : dedE l (i + 1).toNat = dedE l i.toNat := by
 subst hy hq
 rw [ded_stepE h0, if_neg, List.append_nil]
 have h : (i - 1).toNat = i.toNat - 1 := by omega
 unfold rE rdG at he; rw [h] at he
 rintro (h2 | h2)
 · omega
 · exact h2 he
end Go.Mach
namespace Go.Mach
open Go Go.RowKit Go.Proofs
theorem spec_l12Edge.ans {xa xb : Option (List D → Option D)} (o : Std) (ho : o = std) (l : List Ed) (x_f0 : Int) (x_f1 : Int) (h0 : RisE l) (h1 : l.length ≤ 6300000) : Ans (env xa xb) 75 [rEd o l, .agg [iX x_f0, iX x_f1]] (rEd o (insE (⟨x_f0, x_f1⟩ : Ed) l)) := by
 refine Ans.mkA ho _ rfl rfl ?_
 repeat' (first
  | (refine .id ?_
     (try (conv => arg 2; cbv))
     first
      | (refine .indF (fun m_ s_ => ∃ (ea5 : Box) (a6 : Bool) (a7 : Int) (ta5 : Tok) (tk : List Nat), s_ = ⟨[rEd o l, Jk, Jk, .pbx (.loc 0) 0, Jk, .sl ta5 2 ea5, .bool a6, iX a7] ++ List.replicate 64 Jk, [[[iX x_f0, iX x_f1]]], [], tk⟩ ∧ Lv tk ta5 ea5.length ∧ ea5 = (o.bx fun _ => eEd (lEO (⟨x_f0, x_f1⟩ : Ed) l a7 a6)) ∧ (0 ≤ a7 ∧ a7 ≤ l.length ∧ (a6 = false → ∀ y ∈ l.take a7.toNat, ltE y (⟨x_f0, x_f1⟩ : Ed) = true) ∧ (a6 = true → ∀ y ∈ l.drop a7.toNat, ltE (⟨x_f0, x_f1⟩ : Ed) y = true)) ∧ (l.length - a7).toNat ≤ m_) _ _ ⟨_, _, _, _, _, by subst ho; rfl, ?_, ?_, ?_, Nat.le_refl _⟩ ?_
         rotate_right
         rintro m_ _ ⟨ea5, a6, a7, ta5, tk, rfl, hla0, rfl, hIa, hka⟩ iha
         obtain ⟨i1, i2, i3, i4⟩ := hIa; have hol := len_lEO (⟨x_f0, x_f1⟩ : Ed) l a7 a6; refine .unloopA ho ?_
         repeat' (first
          | (refine .id ?_
             (try (conv => arg 2; cbv))
             first
              | refine .testT ?_
              | refine .testF ?_
              | refine .t1 ?_
              | refine .t0 ?_
              | (refine .test (fun hr => ?_) (fun hr => ?_) <;> (have hb := hr) <;> (try simp (disch := omega) only [ho, std, wI, lenE, Int.ofNat_eq_natCast, nrm] at hb) <;> (try (exfalso; first | contradiction | omega | exact hb rfl)))
              | (refine .fetchYEd ho ?_ ?_ (by with_reducible assumption) ?_)
              | (refine .fetchXEd ho ?_ ?_ (fun y hy => ?_); rotate_left 2; rcases y with ⟨y0, y1⟩; (first | (have _h := hyk) | (have hyk := hy)))
              | (refine .needD ho (by kernel_rfl) ?_)
              | (refine .need ?_ ?_)
              | (refine .app1 ?_ (fun t' tk' hl' => ?_))
              | (refine iha _ _ ?_ ⟨_, _, _, _, _, by subst ho; rfl, ?_, ?_, ?_, Nat.le_refl _⟩)
              | (refine .fin ?_; (conv => lhs; cbv) <;> refine congrArg some ?_))
          | ((fail_if_success (refine .id ?_))
             first
              | (exact Lv.cap _)
              | (subst ho; exact hla0)
              | (subst ho; exact ⟨Int.le_refl _, by omega, fun _ y h => by simp at h, fun h => by cases h⟩)
              | (refine congrArg (D.sl Tok.ro 2) ?_; subst ho; exact congrArg eEd (insE_mem h0 (by have := rdG_mem (z := zEd) i1 (show a7 < l.length by omega); rw [show rdG zEd l a7 = _ from hyk] at this; simp_all)).symm)
              | ((try clear iha); subst ho; simp (disch := omega) only [std, wI]; first | exact push2Ed (lE_putD (by assumption) i1 (by omega) i3 hyk (ltE_iff.2 (by dsimp only; omega))) | exact push1Ed (lE_go i1 (by omega) a6 hyk (fun h => gtE_at i1 (by omega) (i4 h) hyk)))
              | ((try clear iha); subst ho; simp (disch := omega) only [std, wI]; exact ⟨by omega, by omega, fun h => by first | exact absurd h (by decide) | exact ltE_step i1 (by omega) (i3 h) hyk (ltE_iff.2 (by dsimp only; first | omega | (have hne := beq2_no (by assumption); omega))) | exact absurd (h.symm.trans (show _ = true by assumption)) (by decide), fun h => by first | exact gtE_ris h0 i1 (by omega) hyk (ltE_iff.2 (by dsimp only; omega)) | exact gtE_step i1 (by omega) (i4 h)⟩)
              | (refine congrArg (D.sl Tok.ro 2) ?_; subst ho; first | exact push1Ed (lE_fin (by assumption) (by omega) i3) | exact congrArg eEd (lE_finT (by assumption) (by omega)).symm)
              | assumption
              | (subst ho; rfl)
              | (subst ho; simpa [std, lenE] using hl')
              | (subst ho; simp (disch := omega) only [std, wI, tdiv2, tdivN, lenE] <;> first | done | rfl | omega)
              | (subst ho; simp [std, lenE]; omega)))))
  | ((fail_if_success (refine .id ?_))
     first
      | fail))
theorem spec_l3Int.ans {xa xb : Option (List D → Option D)} (o : Std) (ho : o = std) (n : Int) : Ans (env xa xb) 119 [iX n] (rNd o ([⟨2, 0, 0, 0, n, ⟨#[]⟩, ⟨#[]⟩⟩])) := by
 refine Ans.mkA ho _ rfl rfl ?_
 repeat' (first
  | (refine .id ?_
     (try (conv => arg 2; cbv))
     first
      | (refine .fin ?_; (conv => lhs; cbv) <;> refine congrArg some ?_))
  | ((fail_if_success (refine .id ?_))
     first
      | (subst ho; rfl)))
theorem spec_l3Shift.ans {xa xb : Option (List D → Option D)} (o : Std) (ho : o = std) (l : List Nd) (d : Int) (h0 : l.length ≤ 1048576) (h1 : 0 ≤ d ∧ d ≤ 1048576) (h2 : ∀ x ∈ l, (0 ≤ x.f1 ∧ x.f1 ≤ 1048576) ∧ (0 ≤ x.f2 ∧ x.f2 ≤ 1048576) ∧ (0 ≤ x.f3 ∧ x.f3 ≤ 1048576)) : Ans (env xa xb) 149 [rNd o l, iX d] (rNd o (shiftL d l)) := by
 refine Ans.mkA ho _ rfl rfl ?_
 repeat' (first
  | (refine .id ?_
     (try (conv => arg 2; cbv))
     first
      | (refine .indF (fun m_ s_ => ∃ (ea5 : Box) (a6 : Int) (ta5 : Tok) (tk : List Nat), s_ = ⟨[rNd o l, iX d, Jk, Jk, Jk, .sl ta5 7 ea5, iX a6] ++ List.replicate 42 Jk, [], [], tk⟩ ∧ Lv tk ta5 ea5.length ∧ ea5 = (o.bx fun _ => eNd (shiftL d (l.take a6.toNat))) ∧ (0 ≤ a6 ∧ a6 ≤ l.length) ∧ (l.length - a6).toNat ≤ m_) _ _ ⟨_, _, _, _, by subst ho; rfl, ?_, ?_, ?_, Nat.le_refl _⟩ ?_
         rotate_right
         rintro m_ _ ⟨ea5, a6, ta5, tk, rfl, hla0, rfl, hIa, hka⟩ iha
         obtain ⟨i1, i2⟩ := hIa; have hsl := shift_takeLen d l a6.toNat; refine .unloopA ho ?_
         repeat' (first
          | (refine .id ?_
             (try (conv => arg 2; cbv))
             first
              | (refine .test (fun hr => ?_) (fun hr => ?_) <;> (have hb := hr) <;> (try simp (disch := omega) only [ho, std, wI, lenE, len_eNN, Int.ofNat_eq_natCast, nrm] at hb) <;> (try (exfalso; first | contradiction | omega | exact hb rfl)))
              | (refine .pE2 (β := Int) (fun v => iX v) (as' := [iX _]) (spec_Arity.ans o ho _) ?_; rintro v hv)
              | (refine .fetchXNd ho ?_ ?_ (fun y hy => ?_); rotate_left 2; rcases y with ⟨y0, y1, y2, y3, y4, y5, y6⟩; (first | (have _h := hyn) | (have hyn := hy; have hfb := h2 _ (rdG_mem (z := zNd) i1 (by omega)); rw [show rdG zNd _ _ = _ from hyn] at hfb; dsimp only at hfb)))
              | (refine .need ?_ ?_)
              | (refine .app1 ?_ (fun t' tk' hl' => ?_))
              | (refine iha _ _ ?_ ⟨_, _, _, _, by subst ho; rfl, ?_, ?_, ?_, Nat.le_refl _⟩)
              | (refine .fin ?_; (conv => lhs; cbv) <;> refine congrArg some ?_))
          | ((fail_if_success (refine .id ?_))
             first
              | (exact Lv.cap _)
              | (subst ho; exact hla0)
              | (subst ho; exact ⟨Int.le_refl _, by omega⟩)
              | ((try clear iha); subst ho; simp (disch := omega) only [std, wI]; exact push_eNd (shift_push i1 (by omega) hyn hv (by split <;> omega) (by split <;> omega) (by split <;> omega)))
              | ((try clear iha); subst ho; simp (disch := omega) only [std, wI]; exact ⟨by omega, by omega⟩)
              | (refine congrArg (D.sl Tok.ro 7) ?_; subst ho; exact congrArg eNd (by rw [take_allG (by omega)]))
              | assumption
              | (subst ho; rfl)
              | (subst ho; simpa [std, lenE] using hl')
              | (subst ho; simp [std, lenE]; omega)
              | (subst ho; simp (disch := omega) only [std, wI, tdiv2, tdivN, lenE] <;> first | done | rfl | omega)))))
  | ((fail_if_success (refine .id ?_))
     first
      | fail))
theorem spec_l3Make.ans {xa xb : Option (List D → Option D)} (o : Std) (ho : o = std) (n_f0 : Int) (n_f1 : Int) (n_f2 : Int) (n_f3 : Int) (n_f4 : Int) (n_f5 : ByteArray) (n_f6 : ByteArray) (parts : List (List Nd)) (h0 : parts.length ≤ 3) (h1 : ∀ p ∈ parts, p.length ≤ 1000 ∧ Nb p) : Ans (env xa xb) 121 [.agg [iX n_f0, iX n_f1, iX n_f2, iX n_f3, iX n_f4, .str n_f5, .str n_f6], .sl .ro 1 (o.bx fun _ => eNN parts)] (rNd o (makeL 0 (⟨n_f0, n_f1, n_f2, n_f3, n_f4, n_f5, n_f6⟩ : Nd) [] parts)) := by
 refine Ans.mkA ho _ rfl rfl ?_
 repeat' (first
  | (refine .id ?_
     (try (conv => arg 2; cbv))
     first
      | (refine .indF (fun m_ s_ => ∃ (ea5 : Box) (a6 : Int) (ta5 : Tok) (tk : List Nat) (q1 : Int) (q2 : Int) (q3 : Int), s_ = ⟨[Jk, .sl .ro 1 (o.bx fun _ => eNN parts), .pbx (.loc 0) 0, Jk, Jk, .sl ta5 7 ea5, iX a6] ++ List.replicate 37 Jk, [[[iX n_f0, iX q1, iX q2, iX q3, iX n_f4, .str n_f5, .str n_f6]]], [], tk⟩ ∧ Lv tk ta5 ea5.length ∧ ea5 = (o.bx fun _ => eNd (prefO (parts.take a6.toNat) [])) ∧ (q1 = lenO parts 0 n_f1 a6 ∧ q2 = lenO parts 1 n_f2 a6 ∧ q3 = lenO parts 2 n_f3 a6 ∧ 0 ≤ a6 ∧ a6 ≤ parts.length) ∧ (parts.length - a6).toNat ≤ m_) _ _ ⟨_, _, _, _, _, _, _, by subst ho; rfl, ?_, ?_, ?_, Nat.le_refl _⟩ ?_
         rotate_right
         rintro m_ _ ⟨ea5, a6, ta5, tk, q1, q2, q3, rfl, hla0, rfl, hIa, hka⟩ iha
         obtain ⟨j1, j2, j3, i1, i2⟩ := hIa; have hpl := pref_lenT h0 h1 a6.toNat; refine .unloopA ho ?_
         repeat' (first
          | (refine .id ?_
             (try (conv => arg 2; cbv))
             first
              | (refine .test (fun hr => ?_) (fun hr => ?_) <;> (have hb := hr) <;> (try simp (disch := omega) only [ho, std, wI, lenE, len_eNN, Int.ofNat_eq_natCast, nrm] at hb) <;> (try (exfalso; first | contradiction | omega | exact hb rfl)))
              | (refine .pE2 (β := List Nd) (rNd o) (as' := [rNd o _, iX _]) (spec_l3Shift.ans o ho _ _ ?_ ?_ ?_) ?_; rotate_left 3; rintro v hv; (have hvl : v.length = y.length := (by rw [← hv, shiftL_len]); have hvs : shiftL ((prefO (List.take a6.toNat parts) []).length) y = v := (by rw [← hv]; subst ho; simp [std, len_eNd])))
              | (refine .fetchXNN ho ?_ ?_ (fun y hy => ?_); rotate_left 2; (first | (have _h := hyp) | (have hyp := hy; have hpb := h1 _ (rdG_mem (z := []) i1 (by omega)); rw [show rdG [] _ _ = _ from hyp] at hpb)))
              | (refine .need ?_ ?_)
              | (refine .app1 ?_ (fun t' tk' hl' => ?_))
              | (refine iha _ _ ?_ ⟨_, _, _, _, _, _, _, by subst ho; rfl, ?_, ?_, ?_, Nat.le_refl _⟩)
              | (refine .fin ?_; (conv => lhs; cbv) <;> refine congrArg some ?_))
          | ((fail_if_success (refine .id ?_))
             first
              | (exact Lv.cap _)
              | (subst ho; exact hla0)
              | (exact hpb.2)
              | (subst ho; exact ⟨rfl, rfl, rfl, Int.le_refl _, by omega⟩)
              | ((try clear iha); subst ho; simp (disch := omega) only [std, wI]; exact app_eNd (pref_step i1 (by omega) hyp hvs))
              | ((try clear iha); subst ho; have hal : ((eNd (prefO (List.take a6.toNat parts) []) ++ eNd v).length : Int) ≤ 4000 := (by rw [List.length_append, len_eNd, len_eNd]; omega); simp (disch := omega) only [std, wI]; refine ⟨?_, ?_, ?_, by omega, by omega⟩ <;> first | (rw [lenO_ne (by omega)]; assumption) | exact lenO_at i1 (by omega) hyp hvs (by omega))
              | (refine congrArg (D.sl Tok.ro 7) ?_; subst ho; exact push_eNd (x := ⟨n_f0, q1, q2, q3, n_f4, n_f5, n_f6⟩) (make_fin (n := ⟨n_f0, n_f1, n_f2, n_f3, n_f4, n_f5, n_f6⟩) h0 (by omega) (by omega) j1 j2 j3))
              | assumption
              | omega
              | (subst ho; rfl)
              | (subst ho; simpa [std, lenE] using hl')
              | (subst ho; simp [std, lenE]; omega)
              | (subst ho; simp (disch := omega) only [std, wI, tdiv2, tdivN, lenE] <;> first | done | rfl | omega)))))
  | ((fail_if_success (refine .id ?_))
     first
      | fail))
end Go.Mach
namespace Go.Mach
open Go Go.RowKit
def Nk (B : Int) (x : Nd) : Prop := (0 ≤ x.f1 ∧ x.f1 ≤ B) ∧ (0 ≤ x.f2 ∧ x.f2 ≤ B) ∧ (0 ≤ x.f3 ∧ x.f3 ≤ B)
theorem Nk.up {B C : Int} {x : Nd} (h : Nk B x) (hb : B ≤ C) : Nk C x := by
 unfold Nk at *; omega
theorem Nk.shift {B : Int} {d : Nat} {x : Nd} (h : Nk B x) : Nk (B + d) (shiftN d x) := by
 unfold Nk shiftN at *
 dsimp only
 refine ⟨?_, ?_, ?_⟩ <;> split <;> omega
theorem Nk.set {B v : Int} {x : Nd} (h : Nk B x) (k : Nat) (h0 : 0 ≤ v) (h1 : v ≤ B) : Nk B (setK x k v) := by
 unfold Nk setK at *
 split <;> (try dsimp only) <;> omega
theorem makeL_nk {B : Int} : ∀ (ps : List (List Nd)) (k : Nat) (n : Nd) (out : List Nd), (∀ x ∈ out, Nk B x) → (∀ p ∈ ps, 0 < p.length ∧ ∀ x ∈ p, Nk p.length x) → Nk B n → ((out.length + (ps.map List.length).sum : Nat) : Int) ≤ B → ∀ x ∈ makeL k n out ps, Nk B x
 | [], k, n, out, h1, _, h3, _, x, hx => by
   rw [makeL, List.mem_append, List.mem_singleton] at hx
   rcases hx with hx | rfl
   · exact h1 x hx
   · exact h3
 | p :: ps, k, n, out, h1, h2, h3, h4, x, hx => by
   rw [makeL] at hx
   rw [List.map_cons, List.sum_cons] at h4
   obtain ⟨q1, q2⟩ := h2 p List.mem_cons_self
   refine makeL_nk ps (k + 1) _ _ (fun y hy => ?_) (fun q hq => h2 q (List.mem_cons_of_mem _ hq)) (h3.set _ ?_ ?_) ?_ x hx
   · rcases List.mem_append.1 hy with hy | hy
     · exact h1 y hy
     · obtain ⟨z, hz, rfl⟩ := List.mem_map.1 hy
       exact (q2 z hz).shift.up (by omega)
   · rw [List.length_append, shiftL_len]; omega
   · rw [List.length_append, shiftL_len]; omega
   · rw [List.length_append, shiftL_len]; omega
mutual
theorem partT_nk : ∀ t : Tr, 0 < (partT t).length ∧ ∀ x ∈ partT t, Nk (partT t).length x
 | .mk n ks => by
   have h := partsT_nk ks
   rw [partT]
   refine ⟨by rw [makeL_len]; omega, makeL_nk _ _ _ _ (fun x hx => by cases hx) h ?_ ?_⟩
   · unfold Nk zeroK; dsimp only; omega
   · rw [makeL_len]; simp only [List.length_nil]; omega
theorem partsT_nk : ∀ ts : List Tr, ∀ p ∈ partsT ts, 0 < p.length ∧ ∀ x ∈ p, Nk p.length x
 | [], p, hp => by rw [partsT] at hp; cases hp
 | t :: ts, p, hp => by
   rw [partsT] at hp
   rcases List.mem_cons.1 hp with rfl | hp
   · exact partT_nk t
   · exact partsT_nk ts p hp
end
theorem part_bd {l : List Nd} {dead : List Int} (hT : OkT l) {i : Int} (h0 : 0 ≤ i) (h1 : i < l.length) : (partM l dead i).length ≤ 1000 ∧ Nb (partM l dead i) := by
 have hs := hT.size
 obtain ⟨st, hst⟩ : ∃ st, startsO l l.length = some st := by
  have := hT.tiled
  obtain ⟨st, h, _⟩ := this
  exact ⟨st, h⟩
 have h2 := partM_len (dead := dead) hT hst (i.toNat + 1) i h0 h1 (by omega)
 have hlow := (startsO_tile l.length st hst).2.1 i.toNat (by omega)
 rw [Int.toNat_of_nonneg h0] at hlow
 have hl : (partM l dead i).length ≤ 1000 := by omega
 refine ⟨hl, fun x hx => ?_⟩
 have := (partT_nk (treeM l dead i)).2 x hx
 exact this.up (by rw [show partT (treeM l dead i) = partM l dead i from rfl]; omega)
theorem parts_bd {l : List Nd} {dead : List Int} (hT : OkT l) {i : Int} (h0 : 0 ≤ i) (h1 : i < l.length) {ks : List Int} (hks : kidsM (rN l i) = ks) (n : Nat) : ∀ p ∈ (ks.take n).map (partM l dead), p.length ≤ 1000 ∧ Nb p := fun p hp => by
 obtain ⟨x, hx, rfl⟩ := List.mem_map.1 hp
 have hk := hT.kid h0 h1 (hks ▸ List.mem_of_mem_take hx)
 exact part_bd hT hk.1 (by omega)
theorem part_fin {l : List Nd} {dead : List Int} (hT : OkT l) {i : Int} (h0 : 0 ≤ i) (h1 : i < l.length) (hd : i ∉ dead) {n : Nd} (hyn : rN l i = n) {ks : List Int} (hks : kidsM (rN l i) = ks) {a : Int} (ha : (ks.length : Int) ≤ a) {P : List (List Nd)}
  (h : P = (ks.take a.toNat).map (partM l dead)) : makeL 0 (zeroK n) [] P = partM l dead i := by
 rw [partM_live hT h0 h1 hd, hks, hyn, h, List.take_of_length_le (by omega)]
theorem list1 {P : List (List Nd)} {y : List Nd} (h : (P.length : Int) = 1) (h0 : rNN P 0 = y) : [y] = P := by
 subst h0
 match P, h with
 | [a], _ => rfl
 | [], h => simp at h
 | a :: b :: c, h => simp at h; omega
theorem list2 {P : List (List Nd)} {y z : List Nd} (h : (P.length : Int) = 2) (h0 : rNN P 0 = y) (h1 : rNN P 1 = z) : [y, z] = P := by
 subst h0 h1
 match P, h with
 | [a, b], _ => rfl
 | [], h => simp at h
 | [a], h => simp at h
 | a :: b :: c :: d, h => simp at h; omega
theorem list3 {P : List (List Nd)} {y z u : List Nd} (h : (P.length : Int) = 3) (h0 : rNN P 0 = y) (h1 : rNN P 1 = z) (h2 : rNN P 2 = u) : [y, z, u] = P := by
 subst h0 h1 h2
 match P, h with
 | [a, b, c], _ => rfl
 | [], h => simp at h
 | [a], h => simp at h
 | [a, b], h => simp at h
 | a :: b :: c :: d :: e, h => simp at h; omega
theorem part_none {l : List Nd} {dead : List Int} (hT : OkT l) {i : Int} (h0 : 0 ≤ i) (h1 : i < l.length) (hd : i ∉ dead) {n0 n1 n2 n3 n4 : Int} {n5 n6 : ByteArray} (hyn : rN l i = ⟨n0, n1, n2, n3, n4, n5, n6⟩) {ks : List Int} (hks : kidsM (rN l i) = ks) {a : Int} (ha : (ks.length : Int) ≤ a)
  (h : (((ks.take a.toNat).map (partM l dead)).length : Int) = 0) : eNd [⟨n0, 0, 0, 0, n4, n5, n6⟩] = eNd (partM l dead i) := by
 rw [← part_fin hT h0 h1 hd hyn hks ha rfl, List.eq_nil_of_length_eq_zero (by omega : ((ks.take a.toNat).map (partM l dead)).length = 0)]; rfl
theorem part0 {l : List Nd} {dead : List Int} (hT : OkT l) {i : Int} (h0 : 0 ≤ i) (h1 : i < l.length) (h : i ∈ dead) : partM l dead i = [zNint] := partM_dead h
end Go.Mach
namespace Go.Mach
open Go Go.RowKit Go.Proofs
theorem impl_withInt.ans {xa xb : Option (List D → Option D)} (o : Std) (ho : o = std) (l : List Int) (n : Int) (h0 : l.length ≤ 1048576) : Ans (env xa xb) 59 [.sl .nw 1 (o.bx fun _ => eK .i64 l), iX n] (.sl .nw 1 (o.bx fun _ => eK .i64 (insI n l))) := by
 refine Ans.mkA ho _ rfl rfl ?_
 repeat' (first
  | (refine .id ?_
     (try (conv => arg 2; cbv))
     first
      | (refine .indF (fun m_ s_ => ∃ (a5 : Int) (tk : List Nat), s_ = ⟨[.sl .nw 1 (o.bx fun _ => eK .i64 l), iX n, Jk, Jk, Jk, iX a5] ++ List.replicate 38 Jk, [], [], tk⟩ ∧ (0 ≤ a5 ∧ a5 ≤ l.length ∧ (∀ y ∈ l.take a5.toNat, y < n)) ∧ (l.length - a5).toNat ≤ m_) _ _ ⟨_, _, by subst ho; rfl, ?_, Nat.le_refl _⟩ ?_
         rotate_right
         rintro m_ _ ⟨a5, tk, rfl, hIa, hka⟩ iha
         obtain ⟨i1, i2, i3⟩ := hIa; refine .unloopA ho ?_
         repeat' (first
          | (refine .id ?_
             (try (conv => arg 2; cbv))
             first
              | refine .testF ?_
              | refine .t1 ?_
              | refine .t0 ?_
              | (refine .test (fun hr => ?_) (fun hr => ?_) <;> (have hb := hr) <;> (try simp (disch := omega) only [ho, std, wI, lenE, nrm] at hb) <;> (try (exfalso; first | contradiction | omega | exact hb rfl)))
              | (refine .fetchYK ho ?_ ?_ (by with_reducible assumption) ?_)
              | (refine .fetchXK ho ?_ ?_ (fun y hy => ?_); rotate_left 2; (have hyk := hy))
              | (refine .needD ho (by kernel_rfl) ?_)
              | (refine .need ?_ ?_)
              | (refine .app1w ?_ (fun t' tk' hl' => ?_))
              | (refine iha _ _ ?_ ⟨_, _, by subst ho; rfl, ?_, Nat.le_refl _⟩)
              | (refine .fin ?_; (conv => lhs; cbv) <;> refine congrArg some ?_))
          | ((fail_if_success (refine .id ?_))
             first
              | (subst ho; exact ⟨Int.le_refl _, by omega, fun y h => by simp at h⟩)
              | (simp (disch := omega) only [ho, std, wI]; exact ⟨by omega, by omega, lt_step i1 (by omega) i3 hyk (by assumption)⟩)
              | (refine congrArg (D.sl Tok.nw 1) ?_; subst ho; exact congrArg (eK .i64) (insI_hit i1 i3 (by omega) (by rw [hyk]; assumption)).symm)
              | (subst ho; exact Lw.nil)
              | (subst ho; rcases Lw.kind hl' with rfl | ⟨_, rfl⟩ <;> (refine congrArg (D.sl Tok.nw 1) ?_; simp only [std]; rw [insI_put i1 i3 (fun h => by first | omega | (rw [hyk]; omega))]; simp [eK, List.map_take, List.map_drop, List.take_of_length_le]))
              | assumption
              | (subst ho; simpa [std, lenE] using hl')
              | (subst ho; simp [std, lenE]; omega)
              | (subst ho; simp (disch := omega) only [std, wI, tdiv2, tdivN, lenE] <;> first | done | rfl | omega)))))
  | ((fail_if_success (refine .id ?_))
     first
      | fail))
theorem spec_l12Int.ans {xa xb : Option (List D → Option D)} (o : Std) (ho : o = std) (l : List Int) (x : Int) (h0 : RisI l) (h1 : l.length ≤ 1048576) : Ans (env xa xb) 58 [rK o l, iX x] (rK o (insI x l)) := by
 refine Ans.mkA ho _ rfl rfl ?_
 repeat' (first
  | (refine .id ?_
     (try (conv => arg 2; cbv))
     first
      | (refine .indF (fun m_ s_ => ∃ (ea5 : Box) (a6 : Bool) (a7 : Int) (ta5 : Tok) (tk : List Nat), s_ = ⟨[rK o l, iX x, Jk, Jk, Jk, .sl ta5 1 ea5, .bool a6, iX a7] ++ List.replicate 42 Jk, [], [], tk⟩ ∧ Lv tk ta5 ea5.length ∧ ea5 = (o.bx fun _ => eK .i64 (l12O x l a7 a6)) ∧ (0 ≤ a7 ∧ a7 ≤ l.length ∧ (a6 = false → ∀ y ∈ l.take a7.toNat, y < x) ∧ (a6 = true → ∀ y ∈ l.drop a7.toNat, x < y)) ∧ (l.length - a7).toNat ≤ m_) _ _ ⟨_, _, _, _, _, by subst ho; rfl, ?_, ?_, ?_, Nat.le_refl _⟩ ?_
         rotate_right
         rintro m_ _ ⟨ea5, a6, a7, ta5, tk, rfl, hla0, rfl, hIa, hka⟩ iha
         obtain ⟨i1, i2, i3, i4⟩ := hIa; have hol := len_l12O x l a7 a6; refine .unloopA ho ?_
         repeat' (first
          | (refine .id ?_
             (try (conv => arg 2; cbv))
             first
              | refine .testF ?_
              | refine .t1 ?_
              | refine .t0 ?_
              | (refine .test (fun hr => ?_) (fun hr => ?_) <;> (have hb := hr) <;> (try simp (disch := omega) only [ho, std, wI, lenE, nrm] at hb) <;> (try (exfalso; first | contradiction | omega | exact hb rfl)))
              | (refine .fetchYK ho ?_ ?_ (by with_reducible assumption) ?_)
              | (refine .fetchXK ho ?_ ?_ (fun y hy => ?_); rotate_left 2; (have hyk := hy))
              | (refine .need ?_ ?_)
              | (refine .app1 ?_ (fun t' tk' hl' => ?_))
              | (refine iha _ _ ?_ ⟨_, _, _, _, _, by subst ho; rfl, ?_, ?_, ?_, Nat.le_refl _⟩)
              | (refine .fin ?_; (conv => lhs; cbv) <;> refine congrArg some ?_))
          | ((fail_if_success (refine .id ?_))
             first
              | (exact Lv.cap _)
              | (subst ho; exact hla0)
              | (subst ho; exact ⟨Int.le_refl _, by omega, fun _ y h => by simp at h, fun h => by cases h⟩)
              | (refine congrArg (D.sl Tok.ro 1) ?_; subst ho; exact congrArg (eK .i64) (insI_mem h0 (by have := rdG_mem (z := 0) i1 (show a7 < l.length by omega); rw [show rdG 0 l a7 = _ from hyk] at this; simp_all)).symm)
              | ((try clear iha); subst ho; simp (disch := omega) only [std, wI]; first | exact push2I (l12_putD (by assumption) i1 (by omega) i3 hyk (by assumption)) | exact pushI (l12_go i1 (by omega) a6 hyk (fun h => gt_at i1 (by omega) (i4 h) hyk)))
              | ((try clear iha); subst ho; simp (disch := omega) only [std, wI]; exact ⟨by omega, by omega, fun h => by first | exact absurd h (by decide) | exact lt_step i1 (by omega) (i3 h) hyk (by omega) | exact absurd (h.symm.trans (show _ = true by assumption)) (by decide), fun h => by first | exact gt_ris h0 i1 (by omega) hyk (by assumption) | exact gt_step i1 (by omega) (i4 h)⟩)
              | (refine congrArg (D.sl Tok.ro 1) ?_; subst ho; first | exact pushI (l12_fin (by assumption) (by omega) i3) | exact congrArg (eK .i64) (l12_finT (by assumption) (by omega)).symm)
              | assumption
              | (subst ho; rfl)
              | (subst ho; simpa [std, lenE] using hl')
              | (subst ho; simp [std, lenE]; omega)
              | (subst ho; simp (disch := omega) only [std, wI, tdiv2, tdivN, lenE] <;> first | done | rfl | omega)))))
  | ((fail_if_success (refine .id ?_))
     first
      | fail))
theorem spec_SeenNodes.ans {xa xb : Option (List D → Option D)} (o : Std) (ho : o = std) (l : List Nd) (dp : Int) (h0 : Sz l) (h1 : l.length ≤ 1048576) : Ans (env xa xb) 28 [rNd o l, iX dp] (rK o (seenM l dp)) := by
 refine Ans.mkA ho _ rfl rfl ?_
 have hall := solveR_all l dp
 repeat' (first
  | (refine .id ?_
     (try (conv => arg 2; cbv))
     first
      | (refine .pE (β := (List Fc) × Bool) (fun v => .tup [rFc o v.1, .bool v.2]) (as' := [rNd o _, iX _]) (spec_Solve.ans o ho _ _ ?_ ?_) ?_; rotate_left 2; rintro ⟨v0, (_ | _)⟩ hv <;> (try simp only [dE] at hv) <;> (try first | contradiction | exact bX hv))
      | (refine .indF (fun m_ s_ => ∃ (a6 : List Fc) (a8 : Int) (ta6 : Tok) (tk : List Nat) (tq : Tok) (bq : Box), s_ = ⟨[Jk, Jk, Jk, Jk, Jk, .sl tq 1 bq, .sl ta6 6 (o.bx fun _ => eFc a6), Jk, iX a8] ++ List.replicate 27 Jk, [], [], tk⟩ ∧ (bq = (o.bx fun _ => eK .i64 (collI seenP Fc.n (a6.take a8.toNat))) ∧ a6 = (solveR l dp).1 ∧ 0 ≤ a8 ∧ a8 ≤ a6.length) ∧ (a6.length - a8).toNat ≤ m_) _ _ ⟨_, _, _, _, _, _, by subst ho; rfl, ?_, Nat.le_refl _⟩ ?_
         rotate_right
         rintro m_ _ ⟨a6, a8, ta6, tk, tq, bq, rfl, hIa, hka⟩ iha
         obtain ⟨rfl, rfl, i1, i2⟩ := hIa; have hcl := coll_lenT seenP Fc.n hall.1 a8.toNat; refine .unloopA ho ?_
         repeat' (first
          | (refine .id ?_
             (try (conv => arg 2; cbv))
             first
              | (refine .test (fun hr => ?_) (fun hr => ?_) <;> (have hb := hr) <;> (try simp (disch := omega) only [ho, std, wI, lenE, nrm] at hb) <;> (try (exfalso; first | contradiction | omega | exact hb rfl)))
              | (refine .pE (β := List Int) (rK o) (as' := [rK o _, iX _]) (spec_l12Int.ans o ho _ _ ?_ ?_) ?_; rotate_left 2; rintro v hv)
              | (refine .fetchYFc ho ?_ ?_ (by with_reducible assumption) ?_)
              | (refine .fetchXFc ho ?_ ?_ (fun y hy => ?_); rotate_left 2; rcases y with ⟨yk, yn, yc, yvk, yvn, yvc⟩; (have hyf := hy))
              | (refine iha _ _ ?_ ⟨_, _, _, _, _, _, by subst ho; rfl, ?_, Nat.le_refl _⟩)
              | (refine .fin ?_; (conv => lhs; cbv) <;> refine congrArg some ?_))
          | ((fail_if_success (refine .id ?_))
             first
              | (subst ho; exact ⟨rfl, by rw [hv], Int.le_refl _, by omega⟩)
              | (exact coll_ris _ _ _)
              | (refine congrArg (D.sl Tok.ro 1) ?_; subst ho; refine congrArg (eK .i64) ?_; unfold seenM; rw [take_allG (by omega)])
              | (simp (disch := omega) only [ho, std, wI]; exact ⟨congrArg (eK .i64) (hv.symm.trans (coll_hit (p := seenP) (g := Fc.n) i1 (by omega) hyf (decide_eq_true (by assumption))).symm), by trivial, by omega, by omega⟩)
              | (simp (disch := omega) only [ho, std, wI]; exact ⟨congrArg (eK .i64) (coll_miss (p := seenP) (g := Fc.n) i1 (by omega) hyf (decide_eq_false (by assumption))).symm, by trivial, by omega, by omega⟩)
              | assumption
              | omega
              | (subst ho; simp (disch := omega) only [std, wI, tdiv2, tdivN, lenE] <;> first | done | rfl | omega)))))
  | ((fail_if_success (refine .id ?_))
     first
      | assumption))
theorem impl_SeenNodes_1.ans {xa xb : Option (List D → Option D)} (o : Std) (ho : o = std) (f_k : Int) (f_n : Int) (f_c : Int) (f_v_k : Int) (f_v_n : Int) (f_v_c : Int) : Ans (env xa xb) 63 [.agg [iX f_k, iX f_n, iX f_c, iX f_v_k, iX f_v_n, iX f_v_c]] (.bool (seenP (⟨f_k, f_n, f_c, ⟨f_v_k, f_v_n, f_v_c⟩⟩ : Fc))) := by
 refine Ans.mkA ho _ rfl rfl ?_
 repeat' (first
  | (refine .id ?_
     (try (conv => arg 2; cbv))
     first
      | (refine .fin ?_; (conv => lhs; cbv) <;> refine congrArg some ?_))
  | ((fail_if_success (refine .id ?_))
     first
      | (subst ho; refine dB ?_; rfl)))
theorem impl_nodesIn_s.ans {ga gb : List D → Option D} (o : Std) (ho : o = std) (l : List Nd) (dp : Int) (h0 : PassSpec ga) (h1 : FreeSpec gb) (h2 : Sz l) (h3 : l.length ≤ 1048576) : Ans (env (some ga) (some gb)) 61 [rNd o l, iX dp, .fn 63 []] (.sl .nw 1 (o.bx fun _ => eK .i64 (seenM l dp))) := by
 refine Ans.mkA ho _ rfl rfl ?_
 have hall := solveR_all l dp
 repeat' (first
  | (refine .id ?_
     (try (conv => arg 2; cbv))
     first
      | (refine .pE (β := (List Fc) × Bool) (fun v => .tup [.sl .nw 6 (o.bx fun _ => eFc v.1), .bool v.2]) (as' := [rNd o _, iX _]) (impl_Solve.ans o ho _ _ ?_ ?_ ?_ ?_) ?_; rotate_left 4; rintro ⟨v0, (_ | _)⟩ hv <;> (try simp only [dE] at hv) <;> (try first | contradiction | exact bX hv))
      | (refine .indF (fun m_ s_ => ∃ (a18 : List Fc) (a19 : Int) (a20 : Int) (ta18 : Tok) (tk : List Nat) (tq : Tok) (bq : Box), s_ = ⟨[Jk, Jk, .fn 63 [], Jk, Jk, Jk, Jk, Jk, Jk, .sl tq 1 bq, Jk, Jk, Jk, Jk, Jk, Jk, Jk, Jk, .sl ta18 6 (o.bx fun _ => eFc a18), iX a19, iX a20] ++ List.replicate 12 Jk, [], [], tk⟩ ∧ ((tq = .nil ∨ tq = .nw) ∧ bq = (o.bx fun _ => eK .i64 (collI seenP Fc.n (a18.take a20.toNat))) ∧ a18 = (solveR l dp).1 ∧ a19 = a18.length ∧ 0 ≤ a20 ∧ a20 ≤ a18.length) ∧ (a18.length - a20).toNat ≤ m_) _ _ ⟨_, _, _, _, _, _, _, by subst ho; rfl, ?_, Nat.le_refl _⟩ ?_
         rotate_right
         rintro m_ _ ⟨a18, a19, a20, ta18, tk, tq, bq, rfl, hIa, hka⟩ iha
         obtain ⟨ht, rfl, rfl, i0, i1, i2⟩ := hIa; have hcl := coll_lenT (seenP) Fc.n hall.1 a20.toNat; refine .unloopA ho ?_
         repeat' (first
          | (refine .id ?_
             (try (conv => arg 2; cbv))
             first
              | refine .testT ?_
              | refine .testF ?_
              | (refine .test (fun hr => ?_) (fun hr => ?_) <;> (have hb := hr) <;> (try simp (disch := omega) only [ho, std, wI, lenE, nrm] at hb) <;> (try (exfalso; first | contradiction | omega | exact hb rfl)))
              | (refine .pcallE (β := List Int) (fun v => .sl .nw 1 (o.bx fun _ => eK .i64 v)) (as' := [.sl .nw 1 (o.bx fun _ => eK .i64 _), iX _]) (by first | with_reducible rfl | (subst ho; rcases ht with rfl | rfl <;> rfl)) (impl_withInt.ans o ho _ _ ?_) ?_; rotate_left 1; rintro v hv)
              | (refine .pE (β := Bool) .bool (as' := [.agg [iX _, iX _, iX _, iX _, iX _, iX _]]) (impl_SeenNodes_1.ans o ho _ _ _ _ _ _) ?_; rintro (_ | _) hv <;> (try simp only [dE] at hv) <;> (try first | contradiction | exact bX hv) <;> (have hp := hv))
              | (refine .fetchXFc ho ?_ ?_ (fun y hy => ?_); rotate_left 2; rcases y with ⟨yk, yn, yc, yvk, yvn, yvc⟩; (have hyf := hy))
              | (refine iha _ _ ?_ ⟨_, _, _, _, _, _, _, by subst ho; rfl, ?_, Nat.le_refl _⟩)
              | (refine .fin ?_; (conv => lhs; cbv) <;> refine congrArg some ?_))
          | ((fail_if_success (refine .id ?_))
             first
              | (subst ho; exact ⟨.inl rfl, rfl, by rw [hv], by simp [std, len_eFc], Int.le_refl _, by omega⟩)
              | (refine ?_; subst ho; rcases ht with rfl | rfl <;> (refine congrArg (D.sl Tok.nw 1) (congrArg (eK .i64) ?_); unfold seenM; rw [take_allG (by omega)]))
              | (simp (disch := omega) only [ho, std, wI]; exact ⟨.inr (by trivial), congrArg (eK .i64) (hv.symm.trans (coll_hit (p := seenP) (g := Fc.n) i1 (by omega) hyf hp).symm), by trivial, i0, by omega, by omega⟩)
              | (simp (disch := omega) only [ho, std, wI]; exact ⟨ht, congrArg (eK .i64) (coll_miss (p := seenP) (g := Fc.n) i1 (by omega) hyf hp).symm, by trivial, i0, by omega, by omega⟩)
              | assumption
              | omega
              | (subst ho; simp (disch := omega) only [std, wI, tdiv2, tdivN, lenE] <;> first | done | rfl | omega)))))
  | ((fail_if_success (refine .id ?_))
     first
      | assumption))
theorem impl_SeenNodes.ans {ga gb : List D → Option D} (o : Std) (ho : o = std) (l : List Nd) (dp : Int) (h0 : PassSpec ga) (h1 : FreeSpec gb) (h2 : Sz l) (h3 : l.length ≤ 1048576) : Ans (env (some ga) (some gb)) 29 [rNd o l, iX dp] (.sl .nw 1 (o.bx fun _ => eK .i64 (seenM l dp))) := by
 refine Ans.mkA ho _ rfl rfl ?_
 repeat' (first
  | (refine .id ?_
     (try (conv => arg 2; cbv))
     first
      | (refine .pE (β := List Int) (fun v => .sl .nw 1 (o.bx fun _ => eK .i64 v)) (as' := [rNd o _, iX _, .fn 63 []]) (impl_nodesIn_s.ans o ho _ _ ?_ ?_ ?_ ?_) ?_; rotate_left 4; rintro v hv)
      | (refine .fin ?_; (conv => lhs; cbv) <;> refine congrArg some ?_))
  | ((fail_if_success (refine .id ?_))
     first
      | (rw [hv])
      | assumption))
end Go.Mach
