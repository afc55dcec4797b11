-- Printed by this session's own program (wip/tools)
import Derived.Test.YtoebebgeiahagaaDoorDlPFnExactDropLetsx0
import Derived.Test.YtoebebgeiahagaaDoorDlPFnExactDropLetsx15
import Derived.Test.YtoebebgeiahagaaDoorDlPFnExactDropLetsx16
import Derived.Test.YtoebebgeiahagaaDoorDlPFnExactDropLetsx17
namespace Go.Proofs.YtoebebgeiahagaaDoor.PFnExactDropLets
open Go.RowKit Go.Proofs.YtoebebgeiahagaaDoorW.PrintWords Go.Proofs.YtoebebgeiahagaaDoorW.PrintLast Go.Proofs.YtoebebgeiahagaaDoorW.PrintMore
attribute [local go_sem] max2_int min2_int max_two min_two max_three min_three max_four min_four   -- for this text's walks alone
set_option linter.unusedVariables false
set_option linter.unusedSimpArgs false

/-! ### impl_Kids: function 45 -/
def impl_Kids.f (k : Nat) (a0_0 : Int) (a0_1 : Int) (a0_2 : Int) (a0_3 : Int) (a0_4 : Int) (a0_5 : ByteArray) (a0_6 : ByteArray) : Option (List Int) := (some (([a0_1, a0_2, a0_3] : List Int) : List Int)).bind fun y406 => ((impl_Arity.f k a0_0).bind fun t409 => ((impl_Arity.f k a0_0).bind fun t410 => (if 0 ≤ t409 then (if t409 ≤ t410 then (if t410 ≤ (y406.length : Int) then (some (y406.take (t409 : Int).toNat)) else (none)) else (none)) else (none))))
theorem impl_Kids.mono : ∀ a0 a1 a2 a3 a4 a5 a6 k, LeO (impl_Kids.f k a0 a1 a2 a3 a4 a5 a6) (impl_Kids.f (k + 1) a0 a1 a2 a3 a4 a5 a6) := by
 intro a0 a1 a2 a3 a4 a5 a6 k
 unfold impl_Kids.f
 repeat' first
   | (with_reducible exact impl_Arity.mono _ _)
   | (with_reducible exact LeO.refl _)
   | (with_reducible exact LeO.none _)
   | (with_reducible refine LeO.ite ?_ ?_)
   | (with_reducible refine LeO.bind ?_ (fun _ => ?_))
   | exact impl_Arity.mono _ _
   | exact LeO.none _
   | refine LeO.ite ?_ ?_
   | refine LeO.bind ?_ (fun _ => ?_)
def impl_Kids.T1 : Bool × List (List Nat × List Nat) := (true, [([], []), ([0], [0]), ([], []), ([2], [2]), ([], []), ([4], [4]), ([1, 3, 5], [1, 3, 5]), ([], []), ([7], [7]), ([8], [8]), ([], []), ([10], [10]), ([11, 9], [11]), ([6, 9, 12], [6, 9, 12]), ([13, 12, 0, 1, 2, 3, 4, 5, 6, 7, 8, 9, 10, 11, 12, 13], [13])])
def impl_Kids.B1 : List Nat := [0, 1, 0, 4, 0, 16, 63, 0, 128, 384, 0, 1024, 3968, 8191, 16383]
theorem impl_Kids.tab1 : rtab .any (opsOf Tryd.f45 1) = impl_Kids.T1 := by kernel_rfl
theorem impl_Kids.bits1 : waitsOk impl_Kids.T1.2 impl_Kids.B1 = true := by kernel_rfl
set_option maxHeartbeats 8000000 in
set_option maxRecDepth 100000 in
theorem impl_Kids.calls (k : Nat) (a0_0 : Int) (a0_1 : Int) (a0_2 : Int) (a0_3 : Int) (a0_4 : Int) (a0_5 : ByteArray) (a0_6 : ByteArray) (r : List Int) (w : World) (h : impl_Kids.f k a0_0 a0_1 a0_2 a0_3 a0_4 a0_5 a0_6 = some r) :
  Calls Tryd.prog 45 #[.agg #[.int .i64 a0_0, .int .i64 a0_1, .int .i64 a0_2, .int .i64 a0_3, .int .i64 a0_4, .string a0_5, .string a0_6]] w fun e w' => ∃ v0_ : Value, e = .returned (v0_) ∧ Kd.V (Kd.int .i64) 3 w' w.heap.size (fun k_ => (w.heap.size ≤ k_)) v0_ r ∧ Below w.heap.size w w' := by
 have hu48 := Tryd.underlying48
 have HB := Aside0.mk (Below.refl w.heap.size w)
 have H := h; unfold impl_Kids.f at H
 clear h
 obtain ⟨y406, hy406⟩ : ∃ y_ : List Int, y_ = (([a0_1, a0_2, a0_3] : List Int)) := ⟨_, rfl⟩
 replace H : ((impl_Arity.f k a0_0).bind fun t409 => ((impl_Arity.f k a0_0).bind fun t410 => (if 0 ≤ t409 then (if t409 ≤ t410 then (if t410 ≤ (y406.length : Int) then (some (y406.take (t409 : Int).toNat)) else (none)) else (none)) else (none)))) = some r := by first | (rw [hy406]; with_reducible exact H) | (have H2_ := (Option.bind_some _ _).symm.trans H; rw [hy406]; with_reducible exact H2_) | (have H2_ := (Option.bind_some _ _).symm.trans H; with_reducible exact H2_) | with_reducible exact H | (rw [hy406]; exact H) | exact H
 have Ny406 := Aside0.mk hy406
 clear hy406
 obtain ⟨t409, A2, H⟩ := bx H
 obtain ⟨t410, A3, H⟩ := bx H
 by_cases c4 : 0 ≤ t409
 ·rw [if_pos c4] at H
  have c4b0 := eq_true c4
  have c4b1 := decide_eq_true c4
  clear c4
  by_cases c5 : t409 ≤ t410
  ·rw [if_pos c5] at H
   have c5b0 := eq_true c5
   have c5b1 := decide_eq_true c5
   clear c5
   by_cases c6 : t410 ≤ (y406.length : Int)
   ·rw [if_pos c6] at H
    have c6b0 := eq_true c6
    have c6b1 := decide_eq_true c6
    clear c6
    obtain ⟨y411, hy411⟩ : ∃ y_ : List Int, y_ = (y406.take (t409 : Int).toNat) := ⟨_, rfl⟩
    replace H : (some y411) = some r := by first | (rw [hy411]; with_reducible exact H) | (have H2_ := (Option.bind_some _ _).symm.trans H; rw [hy411]; with_reducible exact H2_) | (have H2_ := (Option.bind_some _ _).symm.trans H; with_reducible exact H2_) | with_reducible exact H | (rw [hy411]; exact H) | exact H
    have Ny411 := Aside0.mk hy411
    clear hy411
    obtain rfl := Option.some.inj H
    go_enter Tryd.func45, Tryd.ntmps45
    try go_wp2_with (first | ((with_reducible refine gate_dst (N := 1) rfl ?_); refine box_event ?hg (N := 1) ?hd (cs := #[.int .i64 a0_0, .int .i64 a0_1, .int .i64 a0_2, .int .i64 a0_3, .int .i64 a0_4, .string a0_5, .string a0_6]) (t := 48) ?hr ?_; (case hd => rfl); (case hg => rfl); (case hr => first | (go_simp; done) | (go_simp; rfl)); intro gb405 hg w7 hbox hb; have BK405 := Aside0.mk (hbox); have GW405 := Aside0.mk ((by rw [hg]; exact (below_size bb0) : w.heap.size ≤ gb405)); have GE405 := Aside0.mk ((by rw [hg]; exact (below_size bb0) : w.heap.size ≤ gb405)); replace HB := Aside0.mk (below_step bb0 hb); clear hb hbox hg))
    replace BK405 := Aside0.mk (blk_drew BK405.out)
    replace HB := Aside0.mk (below_drew1 HB.out)
    refine start_ (n := 15) (S := fun w' => w'.cell? ⟨gb405, 0, none⟩ = some (.int .i64 a0_0) ∧ w'.cell? ⟨gb405, 1, none⟩ = some (.int .i64 a0_1) ∧ w'.cell? ⟨gb405, 2, none⟩ = some (.int .i64 a0_2) ∧ w'.cell? ⟨gb405, 3, none⟩ = some (.int .i64 a0_3) ∧ w'.cell? ⟨gb405, 4, none⟩ = some (.int .i64 a0_4) ∧ w'.cell? ⟨gb405, 5, none⟩ = some (.string a0_5) ∧ w'.cell? ⟨gb405, 6, none⟩ = some (.string a0_6)) (ds := []) #[false, false, false, false, false, false, false, false, false, false, false, false, false, false, false] (by kernel_rfl) rfl rfl ⟨(blk_cell BK405.out 0).trans rfl, (blk_cell BK405.out 1).trans rfl, (blk_cell BK405.out 2).trans rfl, (blk_cell BK405.out 3).trans rfl, (blk_cell BK405.out 4).trans rfl, (blk_cell BK405.out 5).trans rfl, (blk_cell BK405.out 6).trans rfl⟩ (fun hHeld => ?_); refine with_tabW impl_Kids.tab1 impl_Kids.bits1 (fun HT_ HW_ => ?_)
    generalize w7.drew = w8 at BK405 HB hHeld ⊢
    refine pu_ 0 3 HT_ ?_
    refine pu_ 2 5 HT_ ?_
    refine pu_ 4 7 HT_ ?_
    refine pu_ 7 10 HT_ ?_
    refine pu_ 10 13 HT_ ?_
    refine tk_ 1 4 HT_ HW_ hHeld ?_
    refine tk_ 3 6 HT_ HW_ hHeld ?_
    refine tk_ 5 8 HT_ HW_ hHeld ?_
    refine tk_ 8 11 HT_ HW_ hHeld ?_
    refine tk_ 11 14 HT_ HW_ hHeld ?_
    refine join_ (σ := Value) 2 #[true, true, true, true, true, true, true, true, true, true, true, true, true, false, false] (fun s_ => [(9, s_), (12, .int .i64 t409), (15, .int .i64 t410)]) (fun s_ w' => (w'.cell? ⟨gb405, 0, none⟩ = some (.int .i64 a0_0) ∧ w'.cell? ⟨gb405, 1, none⟩ = some (.int .i64 a0_1) ∧ w'.cell? ⟨gb405, 2, none⟩ = some (.int .i64 a0_2) ∧ w'.cell? ⟨gb405, 3, none⟩ = some (.int .i64 a0_3) ∧ w'.cell? ⟨gb405, 4, none⟩ = some (.int .i64 a0_4) ∧ w'.cell? ⟨gb405, 5, none⟩ = some (.string a0_5) ∧ w'.cell? ⟨gb405, 6, none⟩ = some (.string a0_6)) ∧ (Kd.R (Kd.int .i64) 3 w' w.heap.size (fun k_ => (w.heap.size ≤ k_)) s_ y406) ∧ (w'.heap[gb405]? = some (.cells #[.int .i64 a0_0, .int .i64 a0_1, .int .i64 a0_2, .int .i64 a0_3, .int .i64 a0_4, .string a0_5, .string a0_6] 48 (0, 0))) ∧ (Below w.heap.size w w')) ?_ ?_
    rotate_left
    ·intro hCont
     refine two_ (i := 6) (j := 9) (Ni := some 9) (Nj := some 12) #[true, true, true, true, true, true, true, true, true, false, true, true, false, false, false] #[true, true, true, true, true, true, false, true, true, true, true, true, false, false, false] rfl rfl rfl rfl (two_of HT_.out (by kernel_rfl)) (by decide) (by decide) (fun K hK => ?_) (fun K hK => ?_)
     ·skip
      refine Kd.R_lit_step (Kd.int .i64) _ 3 ?hg (N := 9) ?hd (xs := ([a0_1, a0_2, a0_3] : List Int)) (inner := [.int .i64 a0_1, .int .i64 a0_2, .int .i64 a0_3]) (ok := fun _ => True) (okp := fun _ => True) ?hr ?hp (fun _ hk => hk) trivial (Below.refl _ _) (Nat.le_refl _) (by simp) ?_; (case hd => rfl); (case hg => rfl); (case hr => first | (go_simp; done) | (go_simp; rfl)); (case hp => exact (Reps.one (show Kd.M (Kd.int .i64) _ _ _ a0_1 [.int .i64 a0_1] from rfl) (Reps.one (show Kd.M (Kd.int .i64) _ _ _ a0_2 [.int .i64 a0_2] from rfl) (Reps.one (show Kd.M (Kd.int .i64) _ _ _ a0_3 [.int .i64 a0_3] from rfl) (Reps.none _ _)))))
      intro v407 w9 ho10 hb hg_ hnew_
      clear hg_ hnew_
      (first | rw [← Ny406.out] at ho10 | (simp only [Int.reduceToNat] at ho10; rw [← Ny406.out] at ho10))
      have HO408 := Aside0.mk (Kd.R_lower (Kd.R_newM (M := fun k_ => (w.heap.size ≤ k_)) ho10 (below_size (bb1 GE405.out)) (fun k_ h_ => h_)) (below_size (bb1 GE405.out)))
      replace BK405 := Aside0.mk (blk_below (g := gb405) (bk0 BK405.out) hb)
      replace HB := Aside0.mk (below_step (bb1 GE405.out) hb)
      clear hb ho10
      refine hK.out _ _ ⟨(blk_cell BK405.out 0).trans rfl, (blk_cell BK405.out 1).trans rfl, (blk_cell BK405.out 2).trans rfl, (blk_cell BK405.out 3).trans rfl, (blk_cell BK405.out 4).trans rfl, (blk_cell BK405.out 5).trans rfl, (blk_cell BK405.out 6).trans rfl⟩ (fun hHeld => ?_)
      clear hK K
      refine nm_ ?_
      refine on_ 9 12 HT_ fun K hK => ?_
      refine goes_ Tryd.func58 (by kernel_rfl) rfl #[.int .i64 a0_0] (by rfl) rfl rfl mm0 ?_
      with_reducible refine (impl_Arity.calls k a0_0 t409 _ A2.out).mono ?_
      rintro e w' ⟨rfl, ⟨nd, rfl⟩⟩
      refine ⟨_, rfl, ?_⟩
      refine hK.out _ _ ⟨(blk_cell BK405.out 0).trans rfl, (blk_cell BK405.out 1).trans rfl, (blk_cell BK405.out 2).trans rfl, (blk_cell BK405.out 3).trans rfl, (blk_cell BK405.out 4).trans rfl, (blk_cell BK405.out 5).trans rfl, (blk_cell BK405.out 6).trans rfl⟩ (fun hHeld => ?_)
      clear hK K
      refine nm_ ?_
      refine on_ 12 15 HT_ fun K hK => ?_
      refine goes_ Tryd.func58 (by kernel_rfl) rfl #[.int .i64 a0_0] (by rfl) rfl rfl mm0 ?_
      with_reducible refine (impl_Arity.calls k a0_0 t410 _ A3.out).mono ?_
      rintro e w' ⟨rfl, ⟨nd, rfl⟩⟩
      refine ⟨_, rfl, ?_⟩
      refine hK.out _ _ ⟨(blk_cell BK405.out 0).trans rfl, (blk_cell BK405.out 1).trans rfl, (blk_cell BK405.out 2).trans rfl, (blk_cell BK405.out 3).trans rfl, (blk_cell BK405.out 4).trans rfl, (blk_cell BK405.out 5).trans rfl, (blk_cell BK405.out 6).trans rfl⟩ (fun hHeld => ?_)
      clear hK K
      refine nm_ ?_
      exact norm_ (by simp only [putAll, Act.put, List.setIfInBounds_toArray, List.set_cons_zero, List.set_cons_succ]) (hCont (v407) _ ⟨hHeld, (by refine ra0 ?_; exact Kd.R_mono HO408.out (fun _ hk => hk.1)), (bk0 BK405.out), (bb1 GE405.out)⟩)
     ·skip
      refine goes_ Tryd.func58 (by kernel_rfl) rfl #[.int .i64 a0_0] (by rfl) rfl rfl mm0 ?_
      with_reducible refine (impl_Arity.calls k a0_0 t409 _ A2.out).mono ?_
      rintro e w' ⟨rfl, ⟨nd, rfl⟩⟩
      refine ⟨_, rfl, ?_⟩
      refine hK.out _ _ ⟨(blk_cell BK405.out 0).trans rfl, (blk_cell BK405.out 1).trans rfl, (blk_cell BK405.out 2).trans rfl, (blk_cell BK405.out 3).trans rfl, (blk_cell BK405.out 4).trans rfl, (blk_cell BK405.out 5).trans rfl, (blk_cell BK405.out 6).trans rfl⟩ (fun hHeld => ?_)
      clear hK K
      refine nm_ ?_
      refine two_ (i := 6) (j := 12) (Ni := some 9) (Nj := some 15) #[true, true, true, true, true, true, true, true, true, true, true, true, false, false, false] #[true, true, true, true, true, true, false, true, true, true, true, true, true, false, false] rfl rfl rfl rfl (two_of HT_.out (by kernel_rfl)) (by decide) (by decide) (fun K hK => ?_) (fun K hK => ?_)
      ·skip
       refine Kd.R_lit_step (Kd.int .i64) _ 3 ?hg (N := 9) ?hd (xs := ([a0_1, a0_2, a0_3] : List Int)) (inner := [.int .i64 a0_1, .int .i64 a0_2, .int .i64 a0_3]) (ok := fun _ => True) (okp := fun _ => True) ?hr ?hp (fun _ hk => hk) trivial (Below.refl _ _) (Nat.le_refl _) (by simp) ?_; (case hd => rfl); (case hg => rfl); (case hr => first | (go_simp; done) | (go_simp; rfl)); (case hp => exact (Reps.one (show Kd.M (Kd.int .i64) _ _ _ a0_1 [.int .i64 a0_1] from rfl) (Reps.one (show Kd.M (Kd.int .i64) _ _ _ a0_2 [.int .i64 a0_2] from rfl) (Reps.one (show Kd.M (Kd.int .i64) _ _ _ a0_3 [.int .i64 a0_3] from rfl) (Reps.none _ _)))))
       intro v407 w9 ho10 hb hg_ hnew_
       clear hg_ hnew_
       (first | rw [← Ny406.out] at ho10 | (simp only [Int.reduceToNat] at ho10; rw [← Ny406.out] at ho10))
       have HO408 := Aside0.mk (Kd.R_lower (Kd.R_newM (M := fun k_ => (w.heap.size ≤ k_)) ho10 (below_size (bb1 GE405.out)) (fun k_ h_ => h_)) (below_size (bb1 GE405.out)))
       replace BK405 := Aside0.mk (blk_below (g := gb405) (bk0 BK405.out) hb)
       replace HB := Aside0.mk (below_step (bb1 GE405.out) hb)
       clear hb ho10
       refine hK.out _ _ ⟨(blk_cell BK405.out 0).trans rfl, (blk_cell BK405.out 1).trans rfl, (blk_cell BK405.out 2).trans rfl, (blk_cell BK405.out 3).trans rfl, (blk_cell BK405.out 4).trans rfl, (blk_cell BK405.out 5).trans rfl, (blk_cell BK405.out 6).trans rfl⟩ (fun hHeld => ?_)
       clear hK K
       refine nm_ ?_
       refine on_ 12 15 HT_ fun K hK => ?_
       refine goes_ Tryd.func58 (by kernel_rfl) rfl #[.int .i64 a0_0] (by rfl) rfl rfl mm0 ?_
       with_reducible refine (impl_Arity.calls k a0_0 t410 _ A3.out).mono ?_
       rintro e w' ⟨rfl, ⟨nd, rfl⟩⟩
       refine ⟨_, rfl, ?_⟩
       refine hK.out _ _ ⟨(blk_cell BK405.out 0).trans rfl, (blk_cell BK405.out 1).trans rfl, (blk_cell BK405.out 2).trans rfl, (blk_cell BK405.out 3).trans rfl, (blk_cell BK405.out 4).trans rfl, (blk_cell BK405.out 5).trans rfl, (blk_cell BK405.out 6).trans rfl⟩ (fun hHeld => ?_)
       clear hK K
       refine nm_ ?_
       exact norm_ (by simp only [putAll, Act.put, List.setIfInBounds_toArray, List.set_cons_zero, List.set_cons_succ]) (hCont (v407) _ ⟨hHeld, (by refine ra0 ?_; exact Kd.R_mono HO408.out (fun _ hk => hk.1)), (bk0 BK405.out), (bb1 GE405.out)⟩)
      ·skip
       refine goes_ Tryd.func58 (by kernel_rfl) rfl #[.int .i64 a0_0] (by rfl) rfl rfl mm0 ?_
       with_reducible refine (impl_Arity.calls k a0_0 t410 _ A3.out).mono ?_
       rintro e w' ⟨rfl, ⟨nd, rfl⟩⟩
       refine ⟨_, rfl, ?_⟩
       refine hK.out _ _ ⟨(blk_cell BK405.out 0).trans rfl, (blk_cell BK405.out 1).trans rfl, (blk_cell BK405.out 2).trans rfl, (blk_cell BK405.out 3).trans rfl, (blk_cell BK405.out 4).trans rfl, (blk_cell BK405.out 5).trans rfl, (blk_cell BK405.out 6).trans rfl⟩ (fun hHeld => ?_)
       clear hK K
       refine nm_ ?_
       refine on_ 6 9 HT_ fun K hK => ?_
       refine Kd.R_lit_step (Kd.int .i64) _ 3 ?hg (N := 9) ?hd (xs := ([a0_1, a0_2, a0_3] : List Int)) (inner := [.int .i64 a0_1, .int .i64 a0_2, .int .i64 a0_3]) (ok := fun _ => True) (okp := fun _ => True) ?hr ?hp (fun _ hk => hk) trivial (Below.refl _ _) (Nat.le_refl _) (by simp) ?_; (case hd => rfl); (case hg => rfl); (case hr => first | (go_simp; done) | (go_simp; rfl)); (case hp => exact (Reps.one (show Kd.M (Kd.int .i64) _ _ _ a0_1 [.int .i64 a0_1] from rfl) (Reps.one (show Kd.M (Kd.int .i64) _ _ _ a0_2 [.int .i64 a0_2] from rfl) (Reps.one (show Kd.M (Kd.int .i64) _ _ _ a0_3 [.int .i64 a0_3] from rfl) (Reps.none _ _)))))
       intro v407 w9 ho10 hb hg_ hnew_
       clear hg_ hnew_
       (first | rw [← Ny406.out] at ho10 | (simp only [Int.reduceToNat] at ho10; rw [← Ny406.out] at ho10))
       have HO408 := Aside0.mk (Kd.R_lower (Kd.R_newM (M := fun k_ => (w.heap.size ≤ k_)) ho10 (below_size (bb1 GE405.out)) (fun k_ h_ => h_)) (below_size (bb1 GE405.out)))
       replace BK405 := Aside0.mk (blk_below (g := gb405) (bk0 BK405.out) hb)
       replace HB := Aside0.mk (below_step (bb1 GE405.out) hb)
       clear hb ho10
       refine hK.out _ _ ⟨(blk_cell BK405.out 0).trans rfl, (blk_cell BK405.out 1).trans rfl, (blk_cell BK405.out 2).trans rfl, (blk_cell BK405.out 3).trans rfl, (blk_cell BK405.out 4).trans rfl, (blk_cell BK405.out 5).trans rfl, (blk_cell BK405.out 6).trans rfl⟩ (fun hHeld => ?_)
       clear hK K
       refine nm_ ?_
       exact norm_ (by simp only [putAll, Act.put, List.setIfInBounds_toArray, List.set_cons_zero, List.set_cons_succ]) (hCont (v407) _ ⟨hHeld, (by refine ra0 ?_; exact Kd.R_mono HO408.out (fun _ hk => hk.1)), (bk0 BK405.out), (bb1 GE405.out)⟩)
    rintro v407 w11 ⟨hS_, h0_, h1_, h2_⟩
    have n0_ : Aside0 (Kd.R (Kd.int .i64) 3 w11 w.heap.size (fun k_ => (w.heap.size ≤ k_)) v407 y406) := ⟨h0_⟩
    have n1_ : Aside0 (w11.heap[gb405]? = some (.cells #[.int .i64 a0_0, .int .i64 a0_1, .int .i64 a0_2, .int .i64 a0_3, .int .i64 a0_4, .string a0_5, .string a0_6] 48 (0, 0))) := ⟨h1_⟩
    have n2_ : Aside0 (Below w.heap.size w w11) := ⟨h2_⟩
    clear BK405
    clear HB
    clear h0_ h1_ h2_
    have HO408 := n0_
    have BK405 := n1_
    have HB := n2_
    clear n0_ n1_ n2_
    have hHeld : w11.cell? ⟨gb405, 0, none⟩ = some (.int .i64 a0_0) ∧ w11.cell? ⟨gb405, 1, none⟩ = some (.int .i64 a0_1) ∧ w11.cell? ⟨gb405, 2, none⟩ = some (.int .i64 a0_2) ∧ w11.cell? ⟨gb405, 3, none⟩ = some (.int .i64 a0_3) ∧ w11.cell? ⟨gb405, 4, none⟩ = some (.int .i64 a0_4) ∧ w11.cell? ⟨gb405, 5, none⟩ = some (.string a0_5) ∧ w11.cell? ⟨gb405, 6, none⟩ = some (.string a0_6) := hS_
    obtain ⟨Ao13, co13, eo13⟩ := Kd.R_slice HO408.out
    (first | subst eo13 | (injection eo13 with f1_ f2_ f3_; have f4_ := f1_.symm; have f5_ := f3_.symm; clear f1_ f2_ f3_; subst f4_; subst f5_))
    have qa12 : (t409 : Int) ≤ (t410 : Int) := of_decide_eq_true as0
    have qb12 : (t410 : Int) ≤ ((y406.length : Int) : Int) := of_decide_eq_true as0
    have q12 : (t409 : Int) ≤ ((y406.length : Int) : Int) := Int.le_trans qa12 qb12
    obtain ⟨i012, hi012, _, hsz12, _⟩ := info_parts info3
    have hroom12 : y406.length ≤ co13 := (Kd.R_reads' HO408.out).2.1
    have hC12 : Kd.F (Kd.int .i64) _ _ Ao13 y406.length y406 := (Kd.V_at (base := w.heap.size) (Kd.R_V (Kd.R_types (HO408.out) BK405.out (by decide)))).2.2
    have hcut12 := cut_to3 (P := Tryd.prog) 35 3 .i64 Tryd.underlying35 hi012 Ao13 y406.length co13 t409 t410 (of_decide_eq_true as0) qa12 qb12 hroom12
    have hr12 := Kd.F_take (m := (t409 : Int).toNat) hC12 (by omega)
    have hy12 : y411.length = (t409 : Int).toNat := (by rw [Ny411.out, List.length_take]; omega)
    rw [← Ny411.out] at hr12
    rw [← hy12] at hcut12
    have HO414 := Aside0.mk (show Kd.V (Kd.int .i64) 3 _ w.heap.size _ (.slice Ao13 y411.length ((t410 : Int).toNat)) y411 from Kd.V_mk (by omega) hr12)
    have HC414 := Aside0.mk (show y411.length ≤ ((t410 : Int).toNat) from by omega)
    clear hr12 hC12 hroom12 hi012 hsz12
    have KY12 := Aside0.mk hy12
    clear hy12
    replace q12 := eq_true q12
    refine norm_ (a' := ?_) ?_ ?_
    rotate_left
    ·simp only [putAll, Act.put, List.setIfInBounds_toArray, List.set_cons_zero, List.set_cons_succ]
     rfl
    refine pu_ 13 16 HT_ ?_
    refine pu_ 14 2 HT_ ?_
    refine done_ (done_of HT_.out (by kernel_rfl)) ?_
    try go_wp2
    go_ret
    exact ⟨_, er0, by (with_reducible repeat (first | apply Kd.V_alloc | apply Kd.V_drewN | apply Kd.V_drew)); exact Kd.V_mono HO414.out (fun _ hk => hk.1), bb1 GE405.out⟩
   ·rw [if_neg c6] at H
    exact absurd H (by simp)
  ·rw [if_neg c5] at H
   exact absurd H (by simp)
 ·rw [if_neg c4] at H
  exact absurd H (by simp)

/-! ### impl_NodesOk: function 29 -/
mutual
def impl_NodesOk.l0 : Nat → List (S48) → List Int → List (S48) → Int → Int → Option (Bool)
 | 0, _, _, _, _, _ => none
 | k + 1, x0, x3, x16, x17, x18 => if x18 < x17 then (if 0 ≤ x18 then (if x18 < (x16.length : Int) then ((impl_fieldsOk.f k ((rd_T48 x16 x18).f0) ((rd_T48 x16 x18).f1) ((rd_T48 x16 x18).f2) ((rd_T48 x16 x18).f3) ((rd_T48 x16 x18).f4) ((rd_T48 x16 x18).f5) ((rd_T48 x16 x18).f6)).bind fun t422 => (if t422 = true then ((impl_Kids.f k ((rd_T48 x16 x18).f0) ((rd_T48 x16 x18).f1) ((rd_T48 x16 x18).f2) ((rd_T48 x16 x18).f3) ((rd_T48 x16 x18).f4) ((rd_T48 x16 x18).f5) ((rd_T48 x16 x18).f6)).bind fun t423 => (impl_NodesOk.l1 k x0 x3 x18 t423 x18 (wrap64 ((t423.length : Int) - 1)) x16 x17 x18)) else (some false))) else (none)) else (none)) else (if 0 ≤ (wrap64 ((x0.length : Int) - 1)) then (if (wrap64 ((x0.length : Int) - 1)) < (x3.length : Int) then (some ((rd x3 (wrap64 ((x0.length : Int) - 1))) == 0)) else (none)) else (none))
def impl_NodesOk.l1 : Nat → List (S48) → List Int → Int → List Int → Int → Int → List (S48) → Int → Int → Option (Bool)
 | 0, _, _, _, _, _, _, _, _, _ => none
 | k + 1, x0, x3, x4, x6, x7, x8, x16, x17, x18 => if x8 ≥ 0 then (if x7 = 0 then (some false) else (if 0 ≤ x8 then (if x8 < (x6.length : Int) then (if (rd x6 x8) = (wrap64 (x7 - 1)) then (if 0 ≤ (wrap64 (x7 - 1)) then (if (wrap64 (x7 - 1)) < (x3.length : Int) then (impl_NodesOk.l1 k x0 x3 x4 x6 (rd x3 (wrap64 (x7 - 1))) (wrap64 (x8 - 1)) x16 x17 x18) else (none)) else (none)) else (some false)) else (none)) else (none))) else (if 0 ≤ x4 then (if x4 < (x3.length : Int) then (impl_NodesOk.l0 k x0 (x3.set (x4 : Int).toNat x7) x16 x17 (wrap64 (x18 + 1))) else (none)) else (none))
end
def impl_NodesOk.f (k : Nat) (l0 : List (S48)) : Option (Bool) := (impl_in.f (l0.length : Int) 1 150).bind fun t415 => (if t415 = true then (if 0 ≤ (l0.length : Int) then (if ((l0.length : Int) : Int).toNat ≤ 35184372088832 then (impl_NodesOk.l0 k l0 (List.replicate ((l0.length : Int) : Int).toNat 0) l0 (l0.length : Int) 0) else (none)) else (none)) else (some false))
theorem impl_NodesOk.mono_l : ∀ k, (∀ y0 y1 y2 y3 y4, LeO (impl_NodesOk.l0 k y0 y1 y2 y3 y4) (impl_NodesOk.l0 (k + 1) y0 y1 y2 y3 y4)) ∧ (∀ y0 y1 y2 y3 y4 y5 y6 y7 y8, LeO (impl_NodesOk.l1 k y0 y1 y2 y3 y4 y5 y6 y7 y8) (impl_NodesOk.l1 (k + 1) y0 y1 y2 y3 y4 y5 y6 y7 y8))
 | 0 => ⟨fun _ _ _ _ _ r h => by simp [impl_NodesOk.l0] at h, fun _ _ _ _ _ _ _ _ _ r h => by simp [impl_NodesOk.l1] at h⟩
 | k + 1 => by
  obtain ⟨ih0, ih1⟩ := impl_NodesOk.mono_l k
  refine ⟨?_, ?_⟩
  ·intro y0 y1 y2 y3 y4
   unfold impl_NodesOk.l0
   repeat' first
   | (with_reducible exact ih0 _ _ _ _ _)
   | (with_reducible exact ih1 _ _ _ _ _ _ _ _ _)
   | (with_reducible exact impl_Kids.mono _ _ _ _ _ _ _ _)
   | (with_reducible exact impl_fieldsOk.mono _ _ _ _ _ _ _ _)
   | (with_reducible exact LeO.refl _)
   | (with_reducible exact LeO.none _)
   | (with_reducible refine LeO.ite ?_ ?_)
   | (with_reducible refine LeO.bind ?_ (fun _ => ?_))
   | exact ih0 _ _ _ _ _
   | exact ih1 _ _ _ _ _ _ _ _ _
   | exact impl_Kids.mono _ _ _ _ _ _ _ _
   | exact impl_fieldsOk.mono _ _ _ _ _ _ _ _
   | exact LeO.none _
   | refine LeO.ite ?_ ?_
   | refine LeO.bind ?_ (fun _ => ?_)
  ·intro y0 y1 y2 y3 y4 y5 y6 y7 y8
   unfold impl_NodesOk.l1
   repeat' first
   | (with_reducible exact ih0 _ _ _ _ _)
   | (with_reducible exact ih1 _ _ _ _ _ _ _ _ _)
   | (with_reducible exact impl_Kids.mono _ _ _ _ _ _ _ _)
   | (with_reducible exact impl_fieldsOk.mono _ _ _ _ _ _ _ _)
   | (with_reducible exact LeO.refl _)
   | (with_reducible exact LeO.none _)
   | (with_reducible refine LeO.ite ?_ ?_)
   | (with_reducible refine LeO.bind ?_ (fun _ => ?_))
   | exact ih0 _ _ _ _ _
   | exact ih1 _ _ _ _ _ _ _ _ _
   | exact impl_Kids.mono _ _ _ _ _ _ _ _
   | exact impl_fieldsOk.mono _ _ _ _ _ _ _ _
   | exact LeO.none _
   | refine LeO.ite ?_ ?_
   | refine LeO.bind ?_ (fun _ => ?_)
theorem impl_NodesOk.mono : ∀ a0 k, LeO (impl_NodesOk.f k a0) (impl_NodesOk.f (k + 1) a0) := by
 intro a0 k
 obtain ⟨ih0, ih1⟩ := impl_NodesOk.mono_l k
 unfold impl_NodesOk.f
 repeat' first
   | (with_reducible exact ih0 _ _ _ _ _)
   | (with_reducible exact ih1 _ _ _ _ _ _ _ _ _)
   | (with_reducible exact impl_Kids.mono _ _ _ _ _ _ _ _)
   | (with_reducible exact impl_fieldsOk.mono _ _ _ _ _ _ _ _)
   | (with_reducible exact LeO.refl _)
   | (with_reducible exact LeO.none _)
   | (with_reducible refine LeO.ite ?_ ?_)
   | (with_reducible refine LeO.bind ?_ (fun _ => ?_))
   | exact ih0 _ _ _ _ _
   | exact ih1 _ _ _ _ _ _ _ _ _
   | exact impl_Kids.mono _ _ _ _ _ _ _ _
   | exact impl_fieldsOk.mono _ _ _ _ _ _ _ _
   | exact LeO.none _
   | refine LeO.ite ?_ ?_
   | refine LeO.bind ?_ (fun _ => ?_)
set_option maxHeartbeats 8000000 in
set_option maxRecDepth 100000 in
theorem impl_NodesOk.calls (k : Nat) (A0 : Option Addr) (c0 : Nat) (l0 : List (S48)) (r : Bool) (w : World) (hr0 : Kd.C k48 w A0 l0.length l0) (hc0 : l0.length ≤ c0) (h : impl_NodesOk.f k l0 = some r) :
  Calls Tryd.prog 29 #[.slice A0 l0.length c0] w fun e w' => e = .returned (.bool r) ∧ Below w.heap.size w w' := by
 have hu48 := Tryd.underlying48
 have HR0 := Aside0.mk hr0
 have HC0 := Aside0.mk hc0
 clear hr0 hc0
 have HB := Aside0.mk (Below.refl w.heap.size w)
 have H := h; unfold impl_NodesOk.f at H
 clear h
 obtain ⟨t415, A2, H⟩ := bx H
 by_cases c3 : t415 = true
 ·subst c3
  rw [if_pos rfl] at H
  by_cases c4 : 0 ≤ (l0.length : Int)
  ·rw [if_pos c4] at H
   have c4b0 := eq_true c4
   have c4b1 := decide_eq_true c4
   clear c4
   by_cases c5 : ((l0.length : Int) : Int).toNat ≤ 35184372088832
   ·rw [if_pos c5] at H
    have c5b0 := eq_true c5
    have c5b1 := decide_eq_true c5
    clear c5
    obtain ⟨y416, hy416⟩ : ∃ y_ : List Int, y_ = (List.replicate ((l0.length : Int) : Int).toNat 0) := ⟨_, rfl⟩
    replace H : (impl_NodesOk.l0 k l0 y416 l0 (l0.length : Int) 0) = some r := by first | (rw [hy416]; with_reducible exact H) | (have H2_ := (Option.bind_some _ _).symm.trans H; rw [hy416]; with_reducible exact H2_) | (have H2_ := (Option.bind_some _ _).symm.trans H; with_reducible exact H2_) | with_reducible exact H | (rw [hy416]; exact H) | exact H
    have Ny416 := Aside0.mk hy416
    clear hy416
    have H' := Aside0.mk H
    clear H
    go_enter Tryd.func29, Tryd.ntmps29
    go_wp2_with (first | ((with_reducible refine gate_callee (f := 30) rfl ?_); refine goesL_ (some 11) rfl rfl Tryd.func30 (by kernel_rfl) rfl #[.int .i64 (l0.length : Int), .int .i64 1, .int .i64 150] rfl mm0 ?_; (with_reducible refine (impl_in.calls (l0.length : Int) 1 150 true _ A2.out).mono ?_); rintro e w' ⟨rfl, ⟨nd, rfl⟩⟩; refine ⟨_, rfl, ?_⟩) | ((with_reducible refine gate_dst (N := 15) rfl ?_); refine Kd.R_make (Kd.int .i64) _ 3 rfl (N := 15) rfl 35 _ _ rfl (l0.length : Int) rfl rfl Tryd.underlying35 (.int .i64 0) 8 info3 rfl (by decide) (by omega) 0 (ok := fun _ => True) (okp := fun _ => True) rfl (fun _ hk => hk) trivial (of_decide_eq_true as0) (Nat.le_trans (Nat.mul_le_mul_right _ (of_decide_eq_true as0 : (l0.length : Int).toNat ≤ 35184372088832)) (by omega)) (Below.refl _ _) (Nat.le_refl _) ?_; intro v417 w6 ho7 hb hg_ hnew_; clear hg_ hnew_; (first | rw [← Ny416.out] at ho7 | (simp only [Int.reduceToNat] at ho7; rw [← Ny416.out] at ho7)); have HO418 := Aside0.mk (Kd.R_lower ho7 (below_size bb0)); replace HB := Aside0.mk (below_step bb0 hb); clear hb ho7))
    go_loopg [18] k (fun kq v18 w' => ∃ (x3_1 : List Int) (x18_1 : Int), v18 = .int .i64 x18_1 ∧ Aside0 (impl_NodesOk.l0 kq l0 x3_1 l0 (l0.length : Int) x18_1 = some r) ∧ Aside0 (kq ≤ k) ∧ Aside0 (Kd.R (Kd.int .i64) 3 w' w.heap.size (fun _ => True) v417 x3_1) ∧ Aside0 (Below w.heap.size w w'))
    case atStart => exact ⟨(y416), (0), rs0, H', ⟨Nat.le_refl _⟩, ⟨by refine ra0 ?_; exact HO418.out⟩, ⟨bb0⟩⟩
    case round =>
     clear H'
     try clear c2
     try clear p2
     try clear c3
     try clear c4
     try clear c4b0
     try clear c4b1
     try clear c5
     try clear c5b0
     try clear c5b1
     obtain ⟨x3_1, x18_1, rfl, HA, HK1, HO_3, HB⟩ := hrel
     cases gk with
     | zero => exact absurd HA.out (by simp [impl_NodesOk.l0])
     | succ k1 =>
      have H := HA.out
      clear HA
      simp only [impl_NodesOk.l0] at H
      by_cases c8 : x18_1 < (l0.length : Int)
      rw [if_pos c8] at H
      have c8b0 := decide_eq_true c8
      clear c8
      by_cases c9 : 0 ≤ x18_1
      rw [if_pos c9] at H
      have c9b0 := decide_eq_true c9
      clear c9
      by_cases c10 : x18_1 < (l0.length : Int)
      rw [if_pos c10] at H
      have c10b0 := decide_eq_true c10
      clear c10
      obtain ⟨t422, A11, H⟩ := bx H
      by_cases c12 : t422 = true
      ·subst c12
       rw [if_pos rfl] at H
       obtain ⟨t423, A13, H⟩ := bx H
       have H' := Aside0.mk H
       clear H
       have p420 : 0 ≤ (x18_1 : Int) := of_decide_eq_true as0
       have q420 : x18_1 < (l0.length : Int) := of_decide_eq_true as0
       obtain ⟨ad420, e420, hx420_0, hx420_1, hx420_2, hx420_3, hx420_4, hx420_5, hx420_6⟩ := at_T48 HR0.out x18_1 p420 q420
       cases e420
       replace hx420_0 := hbc HB hx420_0
       replace hx420_1 := hbc HB hx420_1
       replace hx420_2 := hbc HB hx420_2
       replace hx420_3 := hbc HB hx420_3
       replace hx420_4 := hbc HB hx420_4
       replace hx420_5 := hbc HB hx420_5
       replace hx420_6 := hbc HB hx420_6
       replace p420 := eq_true p420
       replace q420 := eq_true q420
       go_wp2_with (first | ((with_reducible refine gate_dst (N := 5) rfl ?_); refine box_event ?hg (N := 5) ?hd (cs := #[.int .i64 0, .int .i64 0, .int .i64 0, .int .i64 0, .int .i64 0, .string (⟨#[]⟩ : ByteArray), .string (⟨#[]⟩ : ByteArray)]) (t := 48) ?hr ?_; (case hd => rfl); (case hg => rfl); (case hr => first | (go_simp; done) | (go_simp; rfl)); intro gb421 hg w14 hbox hb; replace HO_3 := Aside0.mk (Kd.R_below (ra0 HO_3.out) hb); have BK421 := Aside0.mk (hbox); have GW421 := Aside0.mk ((by rw [hg]; exact (below_size bb0) : w.heap.size ≤ gb421)); have GE421 := Aside0.mk ((by rw [hg]; exact (below_size bb0) : w.heap.size ≤ gb421)); replace HB := Aside0.mk (below_step bb0 hb); clear hb hbox hg; obtain ⟨hcz15_0, hcz15_1, hcz15_2, hcz15_3, hcz15_4, hcz15_5, hcz15_6⟩ := cells7 BK421.out; obtain ⟨hfz15_0, hfz15_1, hfz15_2, hfz15_3, hfz15_4, hfz15_5, hfz15_6⟩ := frz7 BK421.out) | ((with_reducible refine gate_callee (f := 44) rfl ?_); refine goesL_ (some 24) rfl rfl Tryd.func44 (by kernel_rfl) rfl #[.agg #[.int .i64 ((rd_T48 l0 x18_1).f0), .int .i64 ((rd_T48 l0 x18_1).f1), .int .i64 ((rd_T48 l0 x18_1).f2), .int .i64 ((rd_T48 l0 x18_1).f3), .int .i64 ((rd_T48 l0 x18_1).f4), .string ((rd_T48 l0 x18_1).f5), .string ((rd_T48 l0 x18_1).f6)]] rfl mm0 ?_; (with_reducible refine (impl_fieldsOk.calls k1 ((rd_T48 l0 x18_1).f0) ((rd_T48 l0 x18_1).f1) ((rd_T48 l0 x18_1).f2) ((rd_T48 l0 x18_1).f3) ((rd_T48 l0 x18_1).f4) ((rd_T48 l0 x18_1).f5) ((rd_T48 l0 x18_1).f6) true _ A11.out).mono ?_); rintro e w16 ⟨rfl, hb⟩; refine ⟨_, rfl, ?_⟩; replace HO_3 := Aside0.mk (Kd.R_below (by refine ra0 ?_; exact (Kd.R_mono (Kd.R_far (p := ⟨gb421, 6, none⟩) (Kd.R_far (p := ⟨gb421, 5, none⟩) (Kd.R_far (p := ⟨gb421, 4, none⟩) (Kd.R_far (p := ⟨gb421, 3, none⟩) (Kd.R_far (p := ⟨gb421, 2, none⟩) (Kd.R_far (p := ⟨gb421, 1, none⟩) (Kd.R_far (p := ⟨gb421, 0, none⟩) (Kd.R_types HO_3.out BK421.out (by decide)) (fun _ hk => hk.2) (.int .i64 ((rd_T48 l0 x18_1).f0))) (fun _ hk => hk.2) (.int .i64 ((rd_T48 l0 x18_1).f1))) (fun _ hk => hk.2) (.int .i64 ((rd_T48 l0 x18_1).f2))) (fun _ hk => hk.2) (.int .i64 ((rd_T48 l0 x18_1).f3))) (fun _ hk => hk.2) (.int .i64 ((rd_T48 l0 x18_1).f4))) (fun _ hk => hk.2) (.string ((rd_T48 l0 x18_1).f5))) (fun _ hk => hk.2) (.string ((rd_T48 l0 x18_1).f6))) (fun _ h_ => h_.1))) hb); replace BK421 := Aside0.mk (blk_below (g := gb421) (bk1 BK421.out) hb); replace HB := Aside0.mk (below_step (bb1 GE421.out) hb); clear hb; obtain ⟨hcz17_0, hcz17_1, hcz17_2, hcz17_3, hcz17_4, hcz17_5, hcz17_6⟩ := cells7 BK421.out; obtain ⟨hfz17_0, hfz17_1, hfz17_2, hfz17_3, hfz17_4, hfz17_5, hfz17_6⟩ := frz7 BK421.out) | ((with_reducible refine gate_callee (f := 45) rfl ?_); refine goesL_ (some 27) rfl rfl Tryd.func45 (by kernel_rfl) rfl #[.agg #[.int .i64 ((rd_T48 l0 x18_1).f0), .int .i64 ((rd_T48 l0 x18_1).f1), .int .i64 ((rd_T48 l0 x18_1).f2), .int .i64 ((rd_T48 l0 x18_1).f3), .int .i64 ((rd_T48 l0 x18_1).f4), .string ((rd_T48 l0 x18_1).f5), .string ((rd_T48 l0 x18_1).f6)]] rfl mm0 ?_; (with_reducible refine (impl_Kids.calls k1 ((rd_T48 l0 x18_1).f0) ((rd_T48 l0 x18_1).f1) ((rd_T48 l0 x18_1).f2) ((rd_T48 l0 x18_1).f3) ((rd_T48 l0 x18_1).f4) ((rd_T48 l0 x18_1).f5) ((rd_T48 l0 x18_1).f6) t423 _ A13.out).mono ?_); rintro e w18 ⟨v424, rfl, ho0, hb⟩; refine ⟨_, rfl, ?_⟩; have HO425 := Aside0.mk (Kd.V_lower (Kd.V_mono (ok' := fun k_ => some k_ ≠ (v417 : Value).ownBlock ∧ k_ ≠ gb421) ho0 (fun k_ hk_ => ⟨(Kd.fresh' (Kd.R_lt (ra0 HO_3.out)) k_ hk_), (Kd.freshB (g := gb421) (bk0 BK421.out) k_ hk_)⟩)) (below_size (bb1 GE421.out))); replace HO_3 := Aside0.mk (Kd.R_below (ra0 HO_3.out) hb); replace BK421 := Aside0.mk (blk_below (g := gb421) (bk0 BK421.out) hb); replace HB := Aside0.mk (below_step (bb1 GE421.out) hb); clear hb ho0; obtain ⟨Ao19, co19, eo19⟩ := Kd.V_slice HO425.out; subst eo19))
       go_simp
       go_loopg [7, 8] k1 (fun kq v7 v8 w' => ∃ (x7_2 : Int) (x8_2 : Int), v7 = .int .i64 x7_2 ∧ v8 = .int .i64 x8_2 ∧ Aside0 (impl_NodesOk.l1 kq l0 x3_1 x18_1 t423 x7_2 x8_2 l0 (l0.length : Int) x18_1 = some r) ∧ Aside0 (kq ≤ k1) ∧ Aside0 (Kd.R (Kd.int .i64) 3 w' w.heap.size (fun _ => True) v417 x3_1) ∧ Aside0 (Kd.V (Kd.int .i64) 3 w' w.heap.size (fun k_ => some k_ ≠ (v417 : Value).ownBlock ∧ k_ ≠ gb421) (.slice Ao19 t423.length co19) t423) ∧ Aside0 (w'.heap[gb421]? = some (.cells #[.int .i64 ((rd_T48 l0 x18_1).f0), .int .i64 ((rd_T48 l0 x18_1).f1), .int .i64 ((rd_T48 l0 x18_1).f2), .int .i64 ((rd_T48 l0 x18_1).f3), .int .i64 ((rd_T48 l0 x18_1).f4), .string ((rd_T48 l0 x18_1).f5), .string ((rd_T48 l0 x18_1).f6)] 48 (0, 0))) ∧ Aside0 (Below w.heap.size w w'))
       case atStart => exact ⟨(x18_1), (wrap64 ((t423.length : Int) - 1)), rs0, rs0, H', ⟨Nat.le_refl _⟩, ⟨by refine ra0 ?_; exact HO_3.out⟩, ⟨by (with_reducible repeat (first | apply Kd.V_alloc | apply Kd.V_drewN | apply Kd.V_drew)); exact HO425.out⟩, ⟨by refine bk0 ?_; exact BK421.out⟩, ⟨bb1 GE421.out⟩⟩
       case round =>
        clear H'
        try clear c1
        try clear c2
        try clear p2
        try clear c3
        try clear c4
        try clear c4b0
        try clear c4b1
        try clear p4
        try clear q4
        try clear hx4
        try clear c5
        try clear c5b0
        try clear c5b1
        try clear p6
        try clear c8
        try clear c8b0
        try clear c9
        try clear c9b0
        try clear c10
        try clear c10b0
        try clear c12
        try clear hcz15_0
        try clear hcz15_1
        try clear hcz15_2
        try clear hcz15_3
        try clear hcz15_4
        try clear hcz15_5
        try clear hcz15_6
        try clear hcz17_0
        try clear hcz17_1
        try clear hcz17_2
        try clear hcz17_3
        try clear hcz17_4
        try clear hcz17_5
        try clear hcz17_6
        try clear hfz15_0
        try clear hfz15_1
        try clear hfz15_2
        try clear hfz15_3
        try clear hfz15_4
        try clear hfz15_5
        try clear hfz15_6
        try clear hfz17_0
        try clear hfz17_1
        try clear hfz17_2
        try clear hfz17_3
        try clear hfz17_4
        try clear hfz17_5
        try clear hfz17_6
        try clear hx420_0
        try clear hx420_1
        try clear hx420_2
        try clear hx420_3
        try clear hx420_4
        try clear hx420_5
        try clear hx420_6
        try clear p2
        try clear p420
        try clear q420
        obtain ⟨x7_2, x8_2, rfl, rfl, HA, HK2, HO_3, HO_6, BK421, HB⟩ := hrel
        cases gk with
        | zero => exact absurd HA.out (by simp [impl_NodesOk.l1])
        | succ k2 =>
         have H := HA.out
         clear HA
         simp only [impl_NodesOk.l1] at H
         by_cases c20 : x8_2 ≥ 0
         rw [if_pos c20] at H
         have c20b0 := decide_eq_true c20
         clear c20
         by_cases c21 : x7_2 = 0
         rw [if_pos c21] at H
         obtain ⟨c21b0, c21b1⟩ := eqT c21
         clear c21
         obtain rfl := Option.some.inj H
         rotate_left
         rw [if_neg c21] at H
         obtain ⟨c21b0, c21b1⟩ := eqF c21
         by_cases c22 : 0 ≤ x8_2
         rw [if_pos c22] at H
         have c22b0 := decide_eq_true c22
         clear c22
         by_cases c23 : x8_2 < (t423.length : Int)
         rw [if_pos c23] at H
         have c23b0 := decide_eq_true c23
         clear c23
         by_cases c24 : (rd t423 x8_2) = (wrap64 (x7_2 - 1))
         rw [if_pos c24] at H
         obtain ⟨c24b0, c24b1⟩ := eqT c24
         clear c24
         obtain ⟨ji25, hji25⟩ : ∃ j_ : Int, (wrap64 (x7_2 - 1)) = j_ := ⟨_, rfl⟩
         replace H : (if 0 ≤ (ji25) then (if (ji25) < (x3_1.length : Int) then (impl_NodesOk.l1 k2 l0 x3_1 x18_1 t423 (rd x3_1 (ji25)) (wrap64 (x8_2 - 1)) l0 (l0.length : Int) x18_1) else (none)) else (none)) = some r := by first | (rw [hji25] at H; exact H) | (simp only [hji25] at H ⊢; exact H)
         (try rw [hji25] at c24b0)
         (try rw [hji25] at c24b1)
         have hji25w : (IntKind.i64.wrap (x7_2 - 1)) = ji25 := (i64_w _).trans hji25
         by_cases c26 : 0 ≤ (ji25)
         rw [if_pos c26] at H
         have c26b0 := decide_eq_true c26
         clear c26
         by_cases c27 : (ji25) < (x3_1.length : Int)
         ·rw [if_pos c27] at H
          have c27b0 := decide_eq_true c27
          clear c27
          have H' := Aside0.mk H
          clear H
          have p426 : 0 ≤ (x8_2 : Int) := of_decide_eq_true as0
          have q426 : x8_2 < (t423.length : Int) := of_decide_eq_true as0
          obtain ⟨ad426, e426, hx426_0⟩ := Kd.at_int (Kd.V_reads' HO_6.out).2.2 x8_2 p426 q426
          cases e426
          replace p426 := eq_true p426
          replace q426 := eq_true q426
          obtain ⟨Ao28, co28, eo28⟩ := Kd.R_slice HO_3.out
          subst eo28
          have p427 : 0 ≤ ((ji25) : Int) := of_decide_eq_true as0
          have q427 : (ji25) < (x3_1.length : Int) := of_decide_eq_true as0
          obtain ⟨ad427, e427, hx427_0⟩ := Kd.at_int (Kd.R_reads' HO_3.out).2.2 (ji25) p427 q427
          cases e427
          replace p427 := eq_true p427
          replace q427 := eq_true q427
          go_wp2
          go_roundg k2
          case measure => have := HK1.out; have := HK2.out; omega
          case rel => exact ⟨(rd x3_1 (ji25)), (wrap64 (x8_2 - 1)), (by first | rfl | (simp; done) | (simp only [← hji25] <;> (first | rfl | simp)) | (simp [*]; done)), rs0, H', ⟨by have := HK1.out; have := HK2.out; omega⟩, ⟨by refine ra0 ?_; exact HO_3.out⟩, ⟨by (with_reducible repeat (first | apply Kd.V_alloc | apply Kd.V_drewN | apply Kd.V_drew)); exact HO_6.out⟩, ⟨by refine bk0 ?_; exact BK421.out⟩, ⟨bb1 GE421.out⟩⟩
         ·rw [if_neg c27] at H
          exact absurd H (by simp)
         ·rw [if_neg c26] at H
          exact absurd H (by simp)
         rw [if_neg c24] at H
         obtain ⟨c24b0, c24b1⟩ := eqF c24
         obtain rfl := Option.some.inj H
         have p426 : 0 ≤ (x8_2 : Int) := of_decide_eq_true as0
         have q426 : x8_2 < (t423.length : Int) := of_decide_eq_true as0
         obtain ⟨ad426, e426, hx426_0⟩ := Kd.at_int (Kd.V_reads' HO_6.out).2.2 x8_2 p426 q426
         cases e426
         replace p426 := eq_true p426
         replace q426 := eq_true q426
         rotate_left
         ·rw [if_neg c23] at H
          exact absurd H (by simp)
         ·rw [if_neg c22] at H
          exact absurd H (by simp)
         rw [if_neg c20] at H
         have c20b0 := decide_eq_false c20
         clear c20
         by_cases c29 : 0 ≤ x18_1
         rw [if_pos c29] at H
         have c29b0 := decide_eq_true c29
         clear c29
         by_cases c30 : x18_1 < (x3_1.length : Int)
         ·rw [if_pos c30] at H
          have c30b0 := decide_eq_true c30
          clear c30
          obtain ⟨y428, hy428⟩ : ∃ y_ : List Int, y_ = (x3_1.set (x18_1 : Int).toNat x7_2) := ⟨_, rfl⟩
          replace H : (impl_NodesOk.l0 k2 l0 y428 l0 (l0.length : Int) (wrap64 (x18_1 + 1))) = some r := by first | (rw [hy428]; with_reducible exact H) | (have H2_ := (Option.bind_some _ _).symm.trans H; rw [hy428]; with_reducible exact H2_) | (have H2_ := (Option.bind_some _ _).symm.trans H; with_reducible exact H2_) | with_reducible exact H | (rw [hy428]; exact H) | exact H
          have Ny428 := Aside0.mk hy428
          clear hy428
          have H' := Aside0.mk H
          clear H
          have p31 : 0 ≤ (x18_1 : Int) := of_decide_eq_true as0
          have q31 : (x18_1 : Int) < ((x3_1.length : Int) : Int) := of_decide_eq_true as0
          obtain ⟨go31, co31, eo31, gb31, gl31, cl31, HG31⟩ := Kd.R_form HO_3.out (by omega)
          (first | cases eo31 | (injection eo31 with ea_ en_ ec_; (first | subst ea_ | (injection ea_ with ea_; subst ea_)); subst ec_; clear en_))
          have GB31 := Aside0.mk gb31
          have GG31 := Aside0.mk HG31
          clear gb31 gl31 HG31
          obtain ⟨hx31_0, hf31_0⟩ := Kd.R_celln 0 HO_3.out (x18_1 : Int) p31 q31
          replace p31 := eq_true p31
          replace q31 := eq_true q31
          have HP32 := Kd.R_putg HO_3.out (x18_1 : Int) x7_2
          go_wp2_with (first | ((with_reducible refine gate_store (t := 3) (p := 55) rfl ?_); refine store_event (t := 3) (p := 55) (v := ?vo_w33) (w1 := (wr.setCell ⟨go31, (x18_1 : Int).toNat, none⟩ (.int .i64 x7_2))) ?hg ?ho ?hn ?hr ?_; (case ho => rfl); (case hg => rfl); (case hn => rfl); (case hr => first | (go_simp; done) | (go_simp; rfl)); intro w33 hw; have hg : wr.grownBy w33 (some go31) := (by rw [hw]; exact HP32.2); have hp_ : Kd.R (Kd.int .i64) 3 w33 w.heap.size (fun _ => True) (.slice (some ⟨go31, 0, none⟩) x3_1.length co31) y428 := (by rw [hw, Ny428.out]; exact HP32.1); clear HP32; replace HO_6 := Aside0.mk (Kd.V_afterv (v := (.slice (some ⟨go31, 0, none⟩) x3_1.length co31)) (v1 := (.slice (some ⟨go31, 0, none⟩) x3_1.length co31)) (ok := (fun k_ => k_ ≠ gb421)) (by (with_reducible repeat (first | apply Kd.V_alloc | apply Kd.V_drewN | apply Kd.V_drew)); exact Kd.V_mono HO_6.out (fun _ hk => ⟨hk.2, hk.1⟩)) hg (.inl rfl)); replace BK421 := Aside0.mk (blk_grown (g := gb421) (bk0 BK421.out) hg (Kd.R_ne HO_3.out BK421.out (by decide))); replace HO_3 := Aside0.mk (hp_); replace HB := Aside0.mk ((by rw [hw]; exact below_set (HB.out) GB31.out : Below w.heap.size w w33)); clear hg hw hp_))
          go_roundg k2
          case measure => have := HK1.out; have := HK2.out; omega
          case rel => exact ⟨(y428), (wrap64 (x18_1 + 1)), rs0, H', ⟨by have := HK1.out; have := HK2.out; omega⟩, ⟨by refine ra0 ?_; exact HO_3.out⟩, ⟨bb1 GE421.out⟩⟩
         ·rw [if_neg c30] at H
          exact absurd H (by simp)
         ·rw [if_neg c29] at H
          exact absurd H (by simp)
         all_goals (go_wp2; go_ret; exact ⟨er0, bb1 GE421.out⟩)
      replace c12 := Bool.eq_false_iff.mpr c12
      subst c12
      rw [if_neg (show ¬ (false = true) by decide)] at H
      obtain rfl := Option.some.inj H
      have p420 : 0 ≤ (x18_1 : Int) := of_decide_eq_true as0
      have q420 : x18_1 < (l0.length : Int) := of_decide_eq_true as0
      obtain ⟨ad420, e420, hx420_0, hx420_1, hx420_2, hx420_3, hx420_4, hx420_5, hx420_6⟩ := at_T48 HR0.out x18_1 p420 q420
      cases e420
      replace hx420_0 := hbc HB hx420_0
      replace hx420_1 := hbc HB hx420_1
      replace hx420_2 := hbc HB hx420_2
      replace hx420_3 := hbc HB hx420_3
      replace hx420_4 := hbc HB hx420_4
      replace hx420_5 := hbc HB hx420_5
      replace hx420_6 := hbc HB hx420_6
      replace p420 := eq_true p420
      replace q420 := eq_true q420
      rotate_left
      ·rw [if_neg c10] at H
       exact absurd H (by simp)
      ·rw [if_neg c9] at H
       exact absurd H (by simp)
      rw [if_neg c8] at H
      have c8b0 := decide_eq_false c8
      clear c8
      obtain ⟨ji37, hji37⟩ : ∃ j_ : Int, (wrap64 ((l0.length : Int) - 1)) = j_ := ⟨_, rfl⟩
      replace H : (if 0 ≤ (ji37) then (if (ji37) < (x3_1.length : Int) then (some ((rd x3_1 (ji37)) == 0)) else (none)) else (none)) = some r := by first | (rw [hji37] at H; exact H) | (simp only [hji37] at H ⊢; exact H)
      have hji37w : (IntKind.i64.wrap ((l0.length : Int) - 1)) = ji37 := (i64_w _).trans hji37
      by_cases c38 : 0 ≤ (ji37)
      rw [if_pos c38] at H
      have c38b0 := decide_eq_true c38
      clear c38
      by_cases c39 : (ji37) < (x3_1.length : Int)
      rw [if_pos c39] at H
      have c39b0 := decide_eq_true c39
      clear c39
      obtain rfl := Option.some.inj H
      obtain ⟨Ao40, co40, eo40⟩ := Kd.R_slice HO_3.out
      subst eo40
      have p419 : 0 ≤ ((ji37) : Int) := of_decide_eq_true as0
      have q419 : (ji37) < (x3_1.length : Int) := of_decide_eq_true as0
      obtain ⟨ad419, e419, hx419_0⟩ := Kd.at_int (Kd.R_reads' HO_3.out).2.2 (ji37) p419 q419
      cases e419
      replace p419 := eq_true p419
      replace q419 := eq_true q419
      rotate_left
      ·rw [if_neg c39] at H
       exact absurd H (by simp)
      ·rw [if_neg c38] at H
       exact absurd H (by simp)
      all_goals (go_wp2_with (first | ((with_reducible refine gate_dst (N := 5) rfl ?_); refine box_event ?hg (N := 5) ?hd (cs := #[.int .i64 0, .int .i64 0, .int .i64 0, .int .i64 0, .int .i64 0, .string (⟨#[]⟩ : ByteArray), .string (⟨#[]⟩ : ByteArray)]) (t := 48) ?hr ?_; (case hd => rfl); (case hg => rfl); (case hr => first | (go_simp; done) | (go_simp; rfl)); intro gbz1 hg wz1 hbox hb; replace HO_3 := Aside0.mk (Kd.R_below (ra0 HO_3.out) hb); have BKz1 := Aside0.mk (hbox); have GWz1 := Aside0.mk ((by rw [hg]; exact (below_size bb0) : w.heap.size ≤ gbz1)); have GEz1 := Aside0.mk ((by rw [hg]; exact (below_size bb0) : w.heap.size ≤ gbz1)); replace HB := Aside0.mk (below_step bb0 hb); clear hb hbox hg; obtain ⟨hczz1, hczz2, hczz3, hczz4, hczz5, hczz6, hczz7⟩ := cells7 BKz1.out; obtain ⟨hfzz1, hfzz2, hfzz3, hfzz4, hfzz5, hfzz6, hfzz7⟩ := frz7 BKz1.out) | ((with_reducible refine gate_callee (f := 44) rfl ?_); refine goesL_ (some 24) rfl rfl Tryd.func44 (by kernel_rfl) rfl #[.agg #[.int .i64 ((rd_T48 l0 x18_1).f0), .int .i64 ((rd_T48 l0 x18_1).f1), .int .i64 ((rd_T48 l0 x18_1).f2), .int .i64 ((rd_T48 l0 x18_1).f3), .int .i64 ((rd_T48 l0 x18_1).f4), .string ((rd_T48 l0 x18_1).f5), .string ((rd_T48 l0 x18_1).f6)]] rfl mm0 ?_; (with_reducible refine (impl_fieldsOk.calls k1 ((rd_T48 l0 x18_1).f0) ((rd_T48 l0 x18_1).f1) ((rd_T48 l0 x18_1).f2) ((rd_T48 l0 x18_1).f3) ((rd_T48 l0 x18_1).f4) ((rd_T48 l0 x18_1).f5) ((rd_T48 l0 x18_1).f6) false _ A11.out).mono ?_); rintro e wz2 ⟨rfl, hb⟩; refine ⟨_, rfl, ?_⟩; replace HO_3 := Aside0.mk (Kd.R_below (by refine ra0 ?_; exact (Kd.R_mono (Kd.R_far (p := ⟨gbz1, 6, none⟩) (Kd.R_far (p := ⟨gbz1, 5, none⟩) (Kd.R_far (p := ⟨gbz1, 4, none⟩) (Kd.R_far (p := ⟨gbz1, 3, none⟩) (Kd.R_far (p := ⟨gbz1, 2, none⟩) (Kd.R_far (p := ⟨gbz1, 1, none⟩) (Kd.R_far (p := ⟨gbz1, 0, none⟩) (Kd.R_types HO_3.out BKz1.out (by decide)) (fun _ hk => hk.2) (.int .i64 ((rd_T48 l0 x18_1).f0))) (fun _ hk => hk.2) (.int .i64 ((rd_T48 l0 x18_1).f1))) (fun _ hk => hk.2) (.int .i64 ((rd_T48 l0 x18_1).f2))) (fun _ hk => hk.2) (.int .i64 ((rd_T48 l0 x18_1).f3))) (fun _ hk => hk.2) (.int .i64 ((rd_T48 l0 x18_1).f4))) (fun _ hk => hk.2) (.string ((rd_T48 l0 x18_1).f5))) (fun _ hk => hk.2) (.string ((rd_T48 l0 x18_1).f6))) (fun _ h_ => h_.1))) hb); replace BKz1 := Aside0.mk (blk_below (g := gbz1) (bk1 BKz1.out) hb); replace HB := Aside0.mk (below_step (bb1 GEz1.out) hb); clear hb)); go_ret; first | exact ⟨er0, bb1 GEz1.out⟩ | exact ⟨by first | rfl | (simp [errW_none, errW_some] <;> rfl) | (simp only [← hji37]; first | rfl | (simp [errW_none, errW_some] <;> rfl)) | (simp [*, errW_none, errW_some] <;> rfl), bb0⟩)
   ·rw [if_neg c5] at H
    exact absurd H (by simp)
  ·rw [if_neg c4] at H
   exact absurd H (by simp)
 ·replace c3 := Bool.eq_false_iff.mpr c3
  subst c3
  rw [if_neg (show ¬ (false = true) by decide)] at H
  obtain rfl := Option.some.inj H
  go_enter Tryd.func29, Tryd.ntmps29
  go_wp2_with (first | ((with_reducible refine gate_callee (f := 30) rfl ?_); refine goesL_ (some 11) rfl rfl Tryd.func30 (by kernel_rfl) rfl #[.int .i64 (l0.length : Int), .int .i64 1, .int .i64 150] rfl mm0 ?_; (with_reducible refine (impl_in.calls (l0.length : Int) 1 150 false _ A2.out).mono ?_); rintro e w' ⟨rfl, ⟨nd, rfl⟩⟩; refine ⟨_, rfl, ?_⟩))
  go_ret
  exact ⟨er0, bb0⟩

end Go.Proofs.YtoebebgeiahagaaDoor.PFnExactDropLets
