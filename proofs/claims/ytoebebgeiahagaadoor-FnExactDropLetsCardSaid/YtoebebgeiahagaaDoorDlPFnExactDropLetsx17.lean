-- Printed by this session's own program (wip/tools)
import Derived.Test.YtoebebgeiahagaaDoorDlPFnExactDropLetsx0
import Derived.Test.YtoebebgeiahagaaDoorDlPFnExactDropLetsx15
import Derived.Test.YtoebebgeiahagaaDoorDlPFnExactDropLetsx16
namespace Go.Proofs.YtoebebgeiahagaaDoor.PFnExactDropLets
open Go.RowKit Go.Proofs.YtoebebgeiahagaaDoorW.PrintWords Go.Proofs.YtoebebgeiahagaaDoorW.PrintLast Go.Proofs.YtoebebgeiahagaaDoorW.PrintMore
attribute [local go_sem] max2_int min2_int max_two min_two max_three min_three max_four min_four   -- for this text's walks alone
set_option linter.unusedVariables false
set_option linter.unusedSimpArgs false

/-! ### impl_fieldsOk: function 44 -/
mutual
def impl_fieldsOk.j0 : Nat → Bool → Int → Int → Int → Int → Int → ByteArray → ByteArray → Option (Bool)
 | 0, _, _, _, _, _, _, _, _ => none
 | k + 1, x28, x393000, x393001, x393002, x393003, x393004, x393005, x393006 => if x28 = true then (some false) else ((some (([x393001, x393002, x393003] : List Int) : List Int)).bind fun y398 => (impl_fieldsOk.l0 k y398 (y398.length : Int) 0 x393000 x393001 x393002 x393003 x393004 x393005 x393006))
def impl_fieldsOk.l0 : Nat → List Int → Int → Int → Int → Int → Int → Int → Int → ByteArray → ByteArray → Option (Bool)
 | 0, _, _, _, _, _, _, _, _, _, _ => none
 | k + 1, x35, x36, x37, x393000, x393001, x393002, x393003, x393004, x393005, x393006 => if x37 < x36 then (if 0 ≤ x37 then (if x37 < (x35.length : Int) then ((impl_Arity.f k x393000).bind fun t402 => (if x37 ≥ t402 then (if (rd x35 x37) = 0 then (impl_fieldsOk.l0 k x35 x36 (wrap64 (x37 + 1)) x393000 x393001 x393002 x393003 x393004 x393005 x393006) else (some false)) else (impl_fieldsOk.l0 k x35 x36 (wrap64 (x37 + 1)) x393000 x393001 x393002 x393003 x393004 x393005 x393006))) else (none)) else (none)) else (if x393000 = 2 then ((impl_in.f x393004 0 65535).bind fun t403 => (some t403)) else (if x393000 = 8 then ((impl_in.f x393004 0 3).bind fun t404 => (some t404)) else (some (x393004 == 0))))
end
def impl_fieldsOk.f (k : Nat) (a0_0 : Int) (a0_1 : Int) (a0_2 : Int) (a0_3 : Int) (a0_4 : Int) (a0_5 : ByteArray) (a0_6 : ByteArray) : Option (Bool) := (impl_in.f a0_0 1 19).bind fun t393 => (if t393 = true then ((impl_namesOf.f k a0_0).bind fun t394 => ((impl_nameFits.f k a0_5 (decide (t394 > 0))).bind fun t395 => (if t395 = true then ((impl_namesOf.f k a0_0).bind fun t396 => ((impl_nameFits.f k a0_6 (decide (t396 > 1))).bind fun t397 => (impl_fieldsOk.j0 k (!t397) a0_0 a0_1 a0_2 a0_3 a0_4 a0_5 a0_6))) else (impl_fieldsOk.j0 k true a0_0 a0_1 a0_2 a0_3 a0_4 a0_5 a0_6)))) else (impl_fieldsOk.j0 k true a0_0 a0_1 a0_2 a0_3 a0_4 a0_5 a0_6))
theorem impl_fieldsOk.mono_l : ∀ k, (∀ y0 y1 y2 y3 y4 y5 y6 y7, LeO (impl_fieldsOk.j0 k y0 y1 y2 y3 y4 y5 y6 y7) (impl_fieldsOk.j0 (k + 1) y0 y1 y2 y3 y4 y5 y6 y7)) ∧ (∀ y0 y1 y2 y3 y4 y5 y6 y7 y8 y9, LeO (impl_fieldsOk.l0 k y0 y1 y2 y3 y4 y5 y6 y7 y8 y9) (impl_fieldsOk.l0 (k + 1) y0 y1 y2 y3 y4 y5 y6 y7 y8 y9))
 | 0 => ⟨fun _ _ _ _ _ _ _ _ r h => by simp [impl_fieldsOk.j0] at h, fun _ _ _ _ _ _ _ _ _ _ r h => by simp [impl_fieldsOk.l0] at h⟩
 | k + 1 => by
  obtain ⟨ih0, ih1⟩ := impl_fieldsOk.mono_l k
  refine ⟨?_, ?_⟩
  ·intro y0 y1 y2 y3 y4 y5 y6 y7
   unfold impl_fieldsOk.j0
   repeat' first
   | (with_reducible exact ih0 _ _ _ _ _ _ _ _)
   | (with_reducible exact ih1 _ _ _ _ _ _ _ _ _ _)
   | (with_reducible exact impl_Arity.mono _ _)
   | (with_reducible exact impl_nameFits.mono _ _ _)
   | (with_reducible exact impl_namesOf.mono _ _)
   | (with_reducible exact LeO.refl _)
   | (with_reducible exact LeO.none _)
   | (with_reducible refine LeO.ite ?_ ?_)
   | (with_reducible refine LeO.bind ?_ (fun _ => ?_))
   | exact ih0 _ _ _ _ _ _ _ _
   | exact ih1 _ _ _ _ _ _ _ _ _ _
   | exact impl_Arity.mono _ _
   | exact impl_nameFits.mono _ _ _
   | exact impl_namesOf.mono _ _
   | exact LeO.none _
   | refine LeO.ite ?_ ?_
   | refine LeO.bind ?_ (fun _ => ?_)
  ·intro y0 y1 y2 y3 y4 y5 y6 y7 y8 y9
   unfold impl_fieldsOk.l0
   repeat' first
   | (with_reducible exact ih0 _ _ _ _ _ _ _ _)
   | (with_reducible exact ih1 _ _ _ _ _ _ _ _ _ _)
   | (with_reducible exact impl_Arity.mono _ _)
   | (with_reducible exact impl_nameFits.mono _ _ _)
   | (with_reducible exact impl_namesOf.mono _ _)
   | (with_reducible exact LeO.refl _)
   | (with_reducible exact LeO.none _)
   | (with_reducible refine LeO.ite ?_ ?_)
   | (with_reducible refine LeO.bind ?_ (fun _ => ?_))
   | exact ih0 _ _ _ _ _ _ _ _
   | exact ih1 _ _ _ _ _ _ _ _ _ _
   | exact impl_Arity.mono _ _
   | exact impl_nameFits.mono _ _ _
   | exact impl_namesOf.mono _ _
   | exact LeO.none _
   | refine LeO.ite ?_ ?_
   | refine LeO.bind ?_ (fun _ => ?_)
theorem impl_fieldsOk.mono : ∀ a0 a1 a2 a3 a4 a5 a6 k, LeO (impl_fieldsOk.f k a0 a1 a2 a3 a4 a5 a6) (impl_fieldsOk.f (k + 1) a0 a1 a2 a3 a4 a5 a6) := by
 intro a0 a1 a2 a3 a4 a5 a6 k
 obtain ⟨ih0, ih1⟩ := impl_fieldsOk.mono_l k
 unfold impl_fieldsOk.f
 repeat' first
   | (with_reducible exact ih0 _ _ _ _ _ _ _ _)
   | (with_reducible exact ih1 _ _ _ _ _ _ _ _ _ _)
   | (with_reducible exact impl_Arity.mono _ _)
   | (with_reducible exact impl_nameFits.mono _ _ _)
   | (with_reducible exact impl_namesOf.mono _ _)
   | (with_reducible exact LeO.refl _)
   | (with_reducible exact LeO.none _)
   | (with_reducible refine LeO.ite ?_ ?_)
   | (with_reducible refine LeO.bind ?_ (fun _ => ?_))
   | exact ih0 _ _ _ _ _ _ _ _
   | exact ih1 _ _ _ _ _ _ _ _ _ _
   | exact impl_Arity.mono _ _
   | exact impl_nameFits.mono _ _ _
   | exact impl_namesOf.mono _ _
   | exact LeO.none _
   | refine LeO.ite ?_ ?_
   | refine LeO.bind ?_ (fun _ => ?_)
def impl_fieldsOk.T1 : Bool × List (List Nat × List Nat) := (true, [([], []), ([0], [0]), ([1], [1]), ([2], [2]), ([3, 2], [3]), ([4], [4]), ([5, 4], [4, 5]), ([4], [4]), ([7, 4], [4, 7]), ([8, 4, 4], [4, 8]), ([9, 4], [4, 9]), ([6, 10, 9, 4], [4, 6, 10]), ([11, 4], [4, 11]), ([4, 12], [4, 12]), ([13, 11], [13]), ([14], [14]), ([15, 14], [14, 15]), ([14], [14]), ([17, 14], [14, 17]), ([18, 14, 14], [14, 18]), ([19, 14], [14, 19]), ([16, 20, 19, 14], [14, 16, 20]), ([21, 14], [14, 21]), ([14, 22], [14, 22])])
def impl_fieldsOk.B1 : List Nat := [0, 1, 3, 7, 15, 31, 63, 31, 159, 415, 927, 2047, 4095, 8191, 16383, 32767, 65535, 32767, 163839, 425983, 950271, 2097151, 4194303, 8388607]
theorem impl_fieldsOk.tab1 : rtab .any (opsOf Tryd.f44 1) = impl_fieldsOk.T1 := by kernel_rfl
theorem impl_fieldsOk.bits1 : waitsOk impl_fieldsOk.T1.2 impl_fieldsOk.B1 = true := by kernel_rfl
set_option maxHeartbeats 8000000 in
set_option maxRecDepth 100000 in
theorem impl_fieldsOk.calls (k : Nat) (a0_0 : Int) (a0_1 : Int) (a0_2 : Int) (a0_3 : Int) (a0_4 : Int) (a0_5 : ByteArray) (a0_6 : ByteArray) (r : Bool) (w : World) (h : impl_fieldsOk.f k a0_0 a0_1 a0_2 a0_3 a0_4 a0_5 a0_6 = some r) :
  Calls Tryd.prog 44 #[.agg #[.int .i64 a0_0, .int .i64 a0_1, .int .i64 a0_2, .int .i64 a0_3, .int .i64 a0_4, .string a0_5, .string a0_6]] w fun e w' => e = .returned (.bool r) ∧ Below w.heap.size w w' := by
 have hu48 := Tryd.underlying48
 have HB := Aside0.mk (Below.refl w.heap.size w)
 have H := h; unfold impl_fieldsOk.f at H
 clear h
 have HC2 := Aside0.mk H
 clear H
 go_enter Tryd.func44, Tryd.ntmps44
 go_upto_region 1 with (first | ((with_reducible refine gate_dst (N := 1) rfl ?_); refine box_event ?hg (N := 1) ?hd (cs := #[.int .i64 a0_0, .int .i64 a0_1, .int .i64 a0_2, .int .i64 a0_3, .int .i64 a0_4, .string a0_5, .string a0_6]) (t := 48) ?hr ?_; (case hd => rfl); (case hg => rfl); (case hr => first | (go_simp; done) | (go_simp; rfl)); intro gb392 hg w3 hbox hb; have BK392 := Aside0.mk (hbox); have GW392 := Aside0.mk ((by rw [hg]; exact (below_size bb0) : w.heap.size ≤ gb392)); have GE392 := Aside0.mk ((by rw [hg]; exact (below_size bb0) : w.heap.size ≤ gb392)); replace HB := Aside0.mk (below_step bb0 hb); clear hb hbox hg))
 (try simp only [Act.put, List.setIfInBounds_toArray, List.set_cons_zero, List.set_cons_succ])
 go_cut [28] (fun v28 wc => ∃ (kq : Nat) (x28_1 : Bool), v28 = .bool x28_1 ∧ Aside0 (impl_fieldsOk.j0 kq x28_1 a0_0 a0_1 a0_2 a0_3 a0_4 a0_5 a0_6 = some r) ∧ Aside0 (kq ≤ k) ∧ Aside0 (wc.heap[gb392]? = some (.cells #[.int .i64 a0_0, .int .i64 a0_1, .int .i64 a0_2, .int .i64 a0_3, .int .i64 a0_4, .string a0_5, .string a0_6] 48 (0, 0))) ∧ Aside0 (Below w.heap.size w wc))
 case first =>
  have H := HC2.out
  clear HC2
  obtain ⟨t393, A4, H⟩ := bx H
  by_cases c5 : t393 = true
  ·subst c5
   rw [if_pos rfl] at H
   obtain ⟨t394, A6, H⟩ := bx H
   obtain ⟨t395, A7, H⟩ := bx H
   by_cases c8 : t395 = true
   ·subst c8
    rw [if_pos rfl] at H
    obtain ⟨t396, A9, H⟩ := bx H
    obtain ⟨t397, A10, H⟩ := bx H
    have H' := Aside0.mk H
    clear H
    try go_wp2
    replace BK392 := Aside0.mk (blk_drew BK392.out)
    replace HB := Aside0.mk (below_drew1 HB.out)
    refine start_ (n := 24) (S := fun w' => w'.cell? ⟨gb392, 0, none⟩ = some (.int .i64 a0_0) ∧ w'.cell? ⟨gb392, 1, none⟩ = some (.int .i64 a0_1) ∧ w'.cell? ⟨gb392, 2, none⟩ = some (.int .i64 a0_2) ∧ w'.cell? ⟨gb392, 3, none⟩ = some (.int .i64 a0_3) ∧ w'.cell? ⟨gb392, 4, none⟩ = some (.int .i64 a0_4) ∧ w'.cell? ⟨gb392, 5, none⟩ = some (.string a0_5) ∧ w'.cell? ⟨gb392, 6, none⟩ = some (.string a0_6)) (ds := []) #[false, false, false, false, false, false, false, false, false, false, false, false, false, false, false, false, false, false, false, false, false, false, false, false] (by kernel_rfl) rfl rfl ⟨(blk_cell BK392.out 0).trans rfl, (blk_cell BK392.out 1).trans rfl, (blk_cell BK392.out 2).trans rfl, (blk_cell BK392.out 3).trans rfl, (blk_cell BK392.out 4).trans rfl, (blk_cell BK392.out 5).trans rfl, (blk_cell BK392.out 6).trans rfl⟩ (fun hHeld => ?_); refine with_tabW impl_fieldsOk.tab1 impl_fieldsOk.bits1 (fun HT_ HW_ => ?_)
    generalize w3.drew = w11 at BK392 HB hHeld ⊢
    refine pu_ 0 5 HT_ ?_
    refine tk_ 1 6 HT_ HW_ hHeld ?_
    refine on_ 2 7 HT_ fun K hK => ?_
    refine goes_ Tryd.func30 (by kernel_rfl) rfl #[.int .i64 a0_0, .int .i64 1, .int .i64 19] (by rfl) rfl rfl mm0 ?_
    with_reducible refine (impl_in.calls a0_0 1 19 true _ A4.out).mono ?_
    rintro e w' ⟨rfl, ⟨nd, rfl⟩⟩
    refine ⟨_, rfl, ?_⟩
    refine hK.out _ _ ⟨(blk_cell BK392.out 0).trans rfl, (blk_cell BK392.out 1).trans rfl, (blk_cell BK392.out 2).trans rfl, (blk_cell BK392.out 3).trans rfl, (blk_cell BK392.out 4).trans rfl, (blk_cell BK392.out 5).trans rfl, (blk_cell BK392.out 6).trans rfl⟩ (fun hHeld => ?_)
    clear hK K
    refine nm_ ?_
    refine pu_ 3 8 HT_ ?_
    refine pu_ 4 9 HT_ ?_
    refine pu_ 5 10 HT_ ?_
    refine pu_ 7 12 HT_ ?_
    refine tk_ 6 11 HT_ HW_ hHeld ?_
    refine tk_ 8 13 HT_ HW_ hHeld ?_
    refine on_ 9 14 HT_ fun K hK => ?_
    refine goes_ Tryd.func57 (by kernel_rfl) rfl #[.int .i64 a0_0] (by rfl) rfl rfl mm0 ?_
    with_reducible refine (impl_namesOf.calls k a0_0 t394 _ A6.out).mono ?_
    rintro e w' ⟨rfl, ⟨nd, rfl⟩⟩
    refine ⟨_, rfl, ?_⟩
    refine hK.out _ _ ⟨(blk_cell BK392.out 0).trans rfl, (blk_cell BK392.out 1).trans rfl, (blk_cell BK392.out 2).trans rfl, (blk_cell BK392.out 3).trans rfl, (blk_cell BK392.out 4).trans rfl, (blk_cell BK392.out 5).trans rfl, (blk_cell BK392.out 6).trans rfl⟩ (fun hHeld => ?_)
    clear hK K
    refine nm_ ?_
    refine pu_ 10 15 HT_ ?_
    refine on_ 11 16 HT_ fun K hK => ?_
    refine goes_ Tryd.func56 (by kernel_rfl) rfl #[.string a0_5, .bool (decide (t394 > 0))] (by rfl) rfl rfl mm0 ?_
    with_reducible refine (impl_nameFits.calls k a0_5 (decide (t394 > 0)) true _ A7.out).mono ?_
    rintro e w12 ⟨rfl, hb⟩
    refine ⟨_, rfl, ?_⟩
    replace BK392 := Aside0.mk (blk_below (g := gb392) (bk0 BK392.out) hb)
    replace HB := Aside0.mk (below_step (bb1 GE392.out) hb)
    clear hb
    refine hK.out _ _ ⟨(blk_cell BK392.out 0).trans rfl, (blk_cell BK392.out 1).trans rfl, (blk_cell BK392.out 2).trans rfl, (blk_cell BK392.out 3).trans rfl, (blk_cell BK392.out 4).trans rfl, (blk_cell BK392.out 5).trans rfl, (blk_cell BK392.out 6).trans rfl⟩ (fun hHeld => ?_)
    clear hK K
    refine nm_ ?_
    refine pu_ 12 17 HT_ ?_
    refine pu_ 13 18 HT_ ?_
    refine pu_ 14 19 HT_ ?_
    refine pu_ 15 20 HT_ ?_
    refine pu_ 17 22 HT_ ?_
    refine tk_ 16 21 HT_ HW_ hHeld ?_
    refine tk_ 18 23 HT_ HW_ hHeld ?_
    refine on_ 19 24 HT_ fun K hK => ?_
    refine goes_ Tryd.func57 (by kernel_rfl) rfl #[.int .i64 a0_0] (by rfl) rfl rfl mm0 ?_
    with_reducible refine (impl_namesOf.calls k a0_0 t396 _ A9.out).mono ?_
    rintro e w' ⟨rfl, ⟨nd, rfl⟩⟩
    refine ⟨_, rfl, ?_⟩
    refine hK.out _ _ ⟨(blk_cell BK392.out 0).trans rfl, (blk_cell BK392.out 1).trans rfl, (blk_cell BK392.out 2).trans rfl, (blk_cell BK392.out 3).trans rfl, (blk_cell BK392.out 4).trans rfl, (blk_cell BK392.out 5).trans rfl, (blk_cell BK392.out 6).trans rfl⟩ (fun hHeld => ?_)
    clear hK K
    refine nm_ ?_
    refine pu_ 20 25 HT_ ?_
    refine on_ 21 26 HT_ fun K hK => ?_
    refine goes_ Tryd.func56 (by kernel_rfl) rfl #[.string a0_6, .bool (decide (t396 > 1))] (by rfl) rfl rfl mm0 ?_
    with_reducible refine (impl_nameFits.calls k a0_6 (decide (t396 > 1)) t397 _ A10.out).mono ?_
    rintro e w13 ⟨rfl, hb⟩
    refine ⟨_, rfl, ?_⟩
    replace BK392 := Aside0.mk (blk_below (g := gb392) (bk0 BK392.out) hb)
    replace HB := Aside0.mk (below_step (bb1 GE392.out) hb)
    clear hb
    refine hK.out _ _ ⟨(blk_cell BK392.out 0).trans rfl, (blk_cell BK392.out 1).trans rfl, (blk_cell BK392.out 2).trans rfl, (blk_cell BK392.out 3).trans rfl, (blk_cell BK392.out 4).trans rfl, (blk_cell BK392.out 5).trans rfl, (blk_cell BK392.out 6).trans rfl⟩ (fun hHeld => ?_)
    clear hK K
    refine nm_ ?_
    refine pu_ 22 27 HT_ ?_
    refine pu_ 23 28 HT_ ?_
    refine done_ (done_of HT_.out (by kernel_rfl)) ?_
    try go_wp2
    go_meet
    case rel => exact ⟨_, (!t397), rs0, H', ⟨by first | omega | exact Nat.le_refl _⟩, ⟨by refine bk0 ?_; exact BK392.out⟩, ⟨bb1 GE392.out⟩⟩
   ·replace c8 := Bool.eq_false_iff.mpr c8
    subst c8
    rw [if_neg (show ¬ (false = true) by decide)] at H
    have H' := Aside0.mk H
    clear H
    try go_wp2
    replace BK392 := Aside0.mk (blk_drew BK392.out)
    replace HB := Aside0.mk (below_drew1 HB.out)
    refine start_ (n := 24) (S := fun w' => w'.cell? ⟨gb392, 0, none⟩ = some (.int .i64 a0_0) ∧ w'.cell? ⟨gb392, 1, none⟩ = some (.int .i64 a0_1) ∧ w'.cell? ⟨gb392, 2, none⟩ = some (.int .i64 a0_2) ∧ w'.cell? ⟨gb392, 3, none⟩ = some (.int .i64 a0_3) ∧ w'.cell? ⟨gb392, 4, none⟩ = some (.int .i64 a0_4) ∧ w'.cell? ⟨gb392, 5, none⟩ = some (.string a0_5) ∧ w'.cell? ⟨gb392, 6, none⟩ = some (.string a0_6)) (ds := []) #[false, false, false, false, false, false, false, false, false, false, false, false, false, false, false, false, false, false, false, false, false, false, false, false] (by kernel_rfl) rfl rfl ⟨(blk_cell BK392.out 0).trans rfl, (blk_cell BK392.out 1).trans rfl, (blk_cell BK392.out 2).trans rfl, (blk_cell BK392.out 3).trans rfl, (blk_cell BK392.out 4).trans rfl, (blk_cell BK392.out 5).trans rfl, (blk_cell BK392.out 6).trans rfl⟩ (fun hHeld => ?_); refine with_tabW impl_fieldsOk.tab1 impl_fieldsOk.bits1 (fun HT_ HW_ => ?_)
    generalize w3.drew = w14 at BK392 HB hHeld ⊢
    refine pu_ 0 5 HT_ ?_
    refine tk_ 1 6 HT_ HW_ hHeld ?_
    refine on_ 2 7 HT_ fun K hK => ?_
    refine goes_ Tryd.func30 (by kernel_rfl) rfl #[.int .i64 a0_0, .int .i64 1, .int .i64 19] (by rfl) rfl rfl mm0 ?_
    with_reducible refine (impl_in.calls a0_0 1 19 true _ A4.out).mono ?_
    rintro e w' ⟨rfl, ⟨nd, rfl⟩⟩
    refine ⟨_, rfl, ?_⟩
    refine hK.out _ _ ⟨(blk_cell BK392.out 0).trans rfl, (blk_cell BK392.out 1).trans rfl, (blk_cell BK392.out 2).trans rfl, (blk_cell BK392.out 3).trans rfl, (blk_cell BK392.out 4).trans rfl, (blk_cell BK392.out 5).trans rfl, (blk_cell BK392.out 6).trans rfl⟩ (fun hHeld => ?_)
    clear hK K
    refine nm_ ?_
    refine pu_ 3 8 HT_ ?_
    refine pu_ 4 9 HT_ ?_
    refine pu_ 5 10 HT_ ?_
    refine pu_ 7 12 HT_ ?_
    refine tk_ 6 11 HT_ HW_ hHeld ?_
    refine tk_ 8 13 HT_ HW_ hHeld ?_
    refine on_ 9 14 HT_ fun K hK => ?_
    refine goes_ Tryd.func57 (by kernel_rfl) rfl #[.int .i64 a0_0] (by rfl) rfl rfl mm0 ?_
    with_reducible refine (impl_namesOf.calls k a0_0 t394 _ A6.out).mono ?_
    rintro e w' ⟨rfl, ⟨nd, rfl⟩⟩
    refine ⟨_, rfl, ?_⟩
    refine hK.out _ _ ⟨(blk_cell BK392.out 0).trans rfl, (blk_cell BK392.out 1).trans rfl, (blk_cell BK392.out 2).trans rfl, (blk_cell BK392.out 3).trans rfl, (blk_cell BK392.out 4).trans rfl, (blk_cell BK392.out 5).trans rfl, (blk_cell BK392.out 6).trans rfl⟩ (fun hHeld => ?_)
    clear hK K
    refine nm_ ?_
    refine pu_ 10 15 HT_ ?_
    refine on_ 11 16 HT_ fun K hK => ?_
    refine goes_ Tryd.func56 (by kernel_rfl) rfl #[.string a0_5, .bool (decide (t394 > 0))] (by rfl) rfl rfl mm0 ?_
    with_reducible refine (impl_nameFits.calls k a0_5 (decide (t394 > 0)) false _ A7.out).mono ?_
    rintro e w15 ⟨rfl, hb⟩
    refine ⟨_, rfl, ?_⟩
    replace BK392 := Aside0.mk (blk_below (g := gb392) (bk0 BK392.out) hb)
    replace HB := Aside0.mk (below_step (bb1 GE392.out) hb)
    clear hb
    refine hK.out _ _ ⟨(blk_cell BK392.out 0).trans rfl, (blk_cell BK392.out 1).trans rfl, (blk_cell BK392.out 2).trans rfl, (blk_cell BK392.out 3).trans rfl, (blk_cell BK392.out 4).trans rfl, (blk_cell BK392.out 5).trans rfl, (blk_cell BK392.out 6).trans rfl⟩ (fun hHeld => ?_)
    clear hK K
    refine nm_ ?_
    refine pu_ 12 17 HT_ ?_
    refine pu_ 13 18 HT_ ?_
    refine pu_ 14 19 HT_ ?_
    refine pn_ 15 20 HT_ ?_
    refine pn_ 16 21 HT_ ?_
    refine pn_ 17 22 HT_ ?_
    refine pn_ 18 23 HT_ ?_
    refine pn_ 19 24 HT_ ?_
    refine pn_ 20 25 HT_ ?_
    refine pn_ 21 26 HT_ ?_
    refine pn_ 22 27 HT_ ?_
    refine pu_ 23 28 HT_ ?_
    refine done_ (done_of HT_.out (by kernel_rfl)) ?_
    try go_wp2
    go_meet
    case rel => exact ⟨_, (true), rs0, H', ⟨by first | omega | exact Nat.le_refl _⟩, ⟨by refine bk0 ?_; exact BK392.out⟩, ⟨bb1 GE392.out⟩⟩
  ·replace c5 := Bool.eq_false_iff.mpr c5
   subst c5
   rw [if_neg (show ¬ (false = true) by decide)] at H
   have H' := Aside0.mk H
   clear H
   try go_wp2
   replace BK392 := Aside0.mk (blk_drew BK392.out)
   replace HB := Aside0.mk (below_drew1 HB.out)
   refine start_ (n := 24) (S := fun w' => w'.cell? ⟨gb392, 0, none⟩ = some (.int .i64 a0_0) ∧ w'.cell? ⟨gb392, 1, none⟩ = some (.int .i64 a0_1) ∧ w'.cell? ⟨gb392, 2, none⟩ = some (.int .i64 a0_2) ∧ w'.cell? ⟨gb392, 3, none⟩ = some (.int .i64 a0_3) ∧ w'.cell? ⟨gb392, 4, none⟩ = some (.int .i64 a0_4) ∧ w'.cell? ⟨gb392, 5, none⟩ = some (.string a0_5) ∧ w'.cell? ⟨gb392, 6, none⟩ = some (.string a0_6)) (ds := []) #[false, false, false, false, false, false, false, false, false, false, false, false, false, false, false, false, false, false, false, false, false, false, false, false] (by kernel_rfl) rfl rfl ⟨(blk_cell BK392.out 0).trans rfl, (blk_cell BK392.out 1).trans rfl, (blk_cell BK392.out 2).trans rfl, (blk_cell BK392.out 3).trans rfl, (blk_cell BK392.out 4).trans rfl, (blk_cell BK392.out 5).trans rfl, (blk_cell BK392.out 6).trans rfl⟩ (fun hHeld => ?_); refine with_tabW impl_fieldsOk.tab1 impl_fieldsOk.bits1 (fun HT_ HW_ => ?_)
   generalize w3.drew = w16 at BK392 HB hHeld ⊢
   refine pu_ 0 5 HT_ ?_
   refine tk_ 1 6 HT_ HW_ hHeld ?_
   refine on_ 2 7 HT_ fun K hK => ?_
   refine goes_ Tryd.func30 (by kernel_rfl) rfl #[.int .i64 a0_0, .int .i64 1, .int .i64 19] (by rfl) rfl rfl mm0 ?_
   with_reducible refine (impl_in.calls a0_0 1 19 false _ A4.out).mono ?_
   rintro e w' ⟨rfl, ⟨nd, rfl⟩⟩
   refine ⟨_, rfl, ?_⟩
   refine hK.out _ _ ⟨(blk_cell BK392.out 0).trans rfl, (blk_cell BK392.out 1).trans rfl, (blk_cell BK392.out 2).trans rfl, (blk_cell BK392.out 3).trans rfl, (blk_cell BK392.out 4).trans rfl, (blk_cell BK392.out 5).trans rfl, (blk_cell BK392.out 6).trans rfl⟩ (fun hHeld => ?_)
   clear hK K
   refine nm_ ?_
   refine pu_ 3 8 HT_ ?_
   refine pu_ 4 9 HT_ ?_
   refine pn_ 5 10 HT_ ?_
   refine pn_ 6 11 HT_ ?_
   refine pn_ 7 12 HT_ ?_
   refine pn_ 8 13 HT_ ?_
   refine pn_ 9 14 HT_ ?_
   refine pn_ 10 15 HT_ ?_
   refine pn_ 11 16 HT_ ?_
   refine pn_ 12 17 HT_ ?_
   refine pu_ 13 18 HT_ ?_
   refine pu_ 14 19 HT_ ?_
   refine pn_ 15 20 HT_ ?_
   refine pn_ 16 21 HT_ ?_
   refine pn_ 17 22 HT_ ?_
   refine pn_ 18 23 HT_ ?_
   refine pn_ 19 24 HT_ ?_
   refine pn_ 20 25 HT_ ?_
   refine pn_ 21 26 HT_ ?_
   refine pn_ 22 27 HT_ ?_
   refine pu_ 23 28 HT_ ?_
   refine done_ (done_of HT_.out (by kernel_rfl)) ?_
   try go_wp2
   go_meet
   case rel => exact ⟨_, (true), rs0, H', ⟨by first | omega | exact Nat.le_refl _⟩, ⟨by refine bk0 ?_; exact BK392.out⟩, ⟨bb1 GE392.out⟩⟩
 case rest =>
  clear HC2
  try clear p2
  try clear c3
  try clear c5
  try clear c8
  obtain ⟨kq, x28_1, rfl, HA, HJ1, BK392, HB⟩ := hcut
  cases kq with
  | zero => exact absurd HA.out (by simp [impl_fieldsOk.j0])
  | succ kj1 =>
   have H := HA.out
   clear HA
   simp only [impl_fieldsOk.j0] at H
   by_cases c17 : x28_1 = true
   ·subst c17
    rw [if_pos rfl] at H
    obtain rfl := Option.some.inj H
    go_wp2
    go_ret
    exact ⟨er0, bb1 GE392.out⟩
   ·replace c17 := Bool.eq_false_iff.mpr c17
    subst c17
    rw [if_neg (show ¬ (false = true) by decide)] at H
    obtain ⟨y398, hy398⟩ : ∃ y_ : List Int, y_ = (([a0_1, a0_2, a0_3] : List Int)) := ⟨_, rfl⟩
    replace H : (impl_fieldsOk.l0 kj1 y398 (y398.length : Int) 0 a0_0 a0_1 a0_2 a0_3 a0_4 a0_5 a0_6) = some r := by first | (rw [hy398]; with_reducible exact H) | (have H2_ := (Option.bind_some _ _).symm.trans H; rw [hy398]; with_reducible exact H2_) | (have H2_ := (Option.bind_some _ _).symm.trans H; with_reducible exact H2_) | with_reducible exact H | (rw [hy398]; exact H) | exact H
    have Ny398 := Aside0.mk hy398
    clear hy398
    have H' := Aside0.mk H
    clear H
    obtain ⟨hcz18_0, hcz18_1, hcz18_2, hcz18_3, hcz18_4, hcz18_5, hcz18_6⟩ := cells7 BK392.out
    obtain ⟨hfz18_0, hfz18_1, hfz18_2, hfz18_3, hfz18_4, hfz18_5, hfz18_6⟩ := frz7 BK392.out
    go_wp2_with (first | ((with_reducible refine gate_dst (N := 35) rfl ?_); refine Kd.R_lit (Kd.int .i64) _ 3 ?hg (N := 35) ?hd (xs := ([a0_1, a0_2, a0_3] : List Int)) (inner := [.int .i64 a0_1, .int .i64 a0_2, .int .i64 a0_3]) (ok := fun _ => True) (okp := fun _ => True) ?hr ?hp (fun _ hk => hk) trivial (Below.refl _ _) (Nat.le_refl _) (by simp) ?_; (case hd => rfl); (case hg => rfl); (case hr => first | (go_simp; done) | (go_simp; rfl)); (case hp => exact (Reps.one (show Kd.M (Kd.int .i64) _ _ _ a0_1 [.int .i64 a0_1] from rfl) (Reps.one (show Kd.M (Kd.int .i64) _ _ _ a0_2 [.int .i64 a0_2] from rfl) (Reps.one (show Kd.M (Kd.int .i64) _ _ _ a0_3 [.int .i64 a0_3] from rfl) (Reps.none _ _))))); intro v399 w19 ho20 hb hg_ hnew_; clear hg_ hnew_; (first | rw [← Ny398.out] at ho20 | (simp only [Int.reduceToNat] at ho20; rw [← Ny398.out] at ho20)); have HO400 := Aside0.mk (Kd.R_lower ho20 (below_size (bb1 GE392.out))); replace BK392 := Aside0.mk (blk_below (g := gb392) (bk0 BK392.out) hb); replace HB := Aside0.mk (below_step (bb1 GE392.out) hb); clear hb ho20; obtain ⟨Ao21, co21, eo21⟩ := Kd.R_slice HO400.out; subst eo21))
    go_loopg [37] kj1 (fun kq v37 w' => ∃ (x37_2 : Int), v37 = .int .i64 x37_2 ∧ Aside0 (impl_fieldsOk.l0 kq y398 (y398.length : Int) x37_2 a0_0 a0_1 a0_2 a0_3 a0_4 a0_5 a0_6 = some r) ∧ Aside0 (kq ≤ kj1) ∧ Aside0 (Kd.R (Kd.int .i64) 3 w' w.heap.size (fun _ => True) (.slice Ao21 y398.length co21) y398) ∧ Aside0 (w'.heap[gb392]? = some (.cells #[.int .i64 a0_0, .int .i64 a0_1, .int .i64 a0_2, .int .i64 a0_3, .int .i64 a0_4, .string a0_5, .string a0_6] 48 (0, 0))) ∧ Aside0 (Below w.heap.size w w'))
    case atStart => exact ⟨(0), rs0, H', ⟨Nat.le_refl _⟩, ⟨by refine ra0 ?_; exact HO400.out⟩, ⟨by refine bk0 ?_; exact BK392.out⟩, ⟨bb1 GE392.out⟩⟩
    case round =>
     clear H'
     try clear c1
     try clear p2
     try clear c3
     try clear c5
     try clear c8
     try clear c17
     try clear hcz18_0
     try clear hcz18_1
     try clear hcz18_2
     try clear hcz18_3
     try clear hcz18_4
     try clear hcz18_5
     try clear hcz18_6
     try clear hfz18_0
     try clear hfz18_1
     try clear hfz18_2
     try clear hfz18_3
     try clear hfz18_4
     try clear hfz18_5
     try clear hfz18_6
     try clear p2
     obtain ⟨x37_2, rfl, HA, HK2, HO_35, BK392, HB⟩ := hrel
     cases gk with
     | zero => exact absurd HA.out (by simp [impl_fieldsOk.l0])
     | succ k2 =>
      have H := HA.out
      clear HA
      simp only [impl_fieldsOk.l0] at H
      by_cases c22 : x37_2 < (y398.length : Int)
      rw [if_pos c22] at H
      have c22b0 := decide_eq_true c22
      clear c22
      by_cases c23 : 0 ≤ x37_2
      rw [if_pos c23] at H
      have c23b0 := decide_eq_true c23
      clear c23
      by_cases c24 : x37_2 < (y398.length : Int)
      rw [if_pos c24] at H
      have c24b0 := decide_eq_true c24
      clear c24
      obtain ⟨t402, A25, H⟩ := bx H
      by_cases c26 : x37_2 ≥ t402
      rw [if_pos c26] at H
      have c26b0 := decide_eq_true c26
      clear c26
      by_cases c27 : (rd y398 x37_2) = 0
      ·rw [if_pos c27] at H
       obtain ⟨c27b0, c27b1⟩ := eqT c27
       clear c27
       have H' := Aside0.mk H
       clear H
       have p401 : 0 ≤ (x37_2 : Int) := of_decide_eq_true as0
       have q401 : x37_2 < (y398.length : Int) := of_decide_eq_true as0
       obtain ⟨ad401, e401, hx401_0⟩ := Kd.at_int (Kd.R_reads' HO_35.out).2.2 x37_2 p401 q401
       cases e401
       replace p401 := eq_true p401
       replace q401 := eq_true q401
       obtain ⟨hcz28_0, hcz28_1, hcz28_2, hcz28_3, hcz28_4, hcz28_5, hcz28_6⟩ := cells7 BK392.out
       obtain ⟨hfz28_0, hfz28_1, hfz28_2, hfz28_3, hfz28_4, hfz28_5, hfz28_6⟩ := frz7 BK392.out
       go_wp2_with (first | ((with_reducible refine gate_callee (f := 58) rfl ?_); refine goesL_ (some 45) rfl rfl Tryd.func58 (by kernel_rfl) rfl #[.int .i64 a0_0] rfl mm0 ?_; (with_reducible refine (impl_Arity.calls k2 a0_0 t402 _ A25.out).mono ?_); rintro e w' ⟨rfl, ⟨nd, rfl⟩⟩; refine ⟨_, rfl, ?_⟩))
       go_roundg k2
       case measure => have := HJ1.out; have := HK2.out; omega
       case rel => exact ⟨(wrap64 (x37_2 + 1)), rs0, H', ⟨by have := HJ1.out; have := HK2.out; omega⟩, ⟨by refine ra0 ?_; exact HO_35.out⟩, ⟨by refine bk0 ?_; exact BK392.out⟩, ⟨bb1 GE392.out⟩⟩
      rw [if_neg c27] at H
      obtain ⟨c27b0, c27b1⟩ := eqF c27
      obtain rfl := Option.some.inj H
      have p401 : 0 ≤ (x37_2 : Int) := of_decide_eq_true as0
      have q401 : x37_2 < (y398.length : Int) := of_decide_eq_true as0
      obtain ⟨ad401, e401, hx401_0⟩ := Kd.at_int (Kd.R_reads' HO_35.out).2.2 x37_2 p401 q401
      cases e401
      replace p401 := eq_true p401
      replace q401 := eq_true q401
      obtain ⟨hcz29_0, hcz29_1, hcz29_2, hcz29_3, hcz29_4, hcz29_5, hcz29_6⟩ := cells7 BK392.out
      obtain ⟨hfz29_0, hfz29_1, hfz29_2, hfz29_3, hfz29_4, hfz29_5, hfz29_6⟩ := frz7 BK392.out
      rotate_left
      ·rw [if_neg c26] at H
       have c26b0 := decide_eq_false c26
       clear c26
       have H' := Aside0.mk H
       clear H
       have p401 : 0 ≤ (x37_2 : Int) := of_decide_eq_true as0
       have q401 : x37_2 < (y398.length : Int) := of_decide_eq_true as0
       obtain ⟨ad401, e401, hx401_0⟩ := Kd.at_int (Kd.R_reads' HO_35.out).2.2 x37_2 p401 q401
       cases e401
       replace p401 := eq_true p401
       replace q401 := eq_true q401
       obtain ⟨hcz30_0, hcz30_1, hcz30_2, hcz30_3, hcz30_4, hcz30_5, hcz30_6⟩ := cells7 BK392.out
       obtain ⟨hfz30_0, hfz30_1, hfz30_2, hfz30_3, hfz30_4, hfz30_5, hfz30_6⟩ := frz7 BK392.out
       go_wp2_with (first | ((with_reducible refine gate_callee (f := 58) rfl ?_); refine goesL_ (some 45) rfl rfl Tryd.func58 (by kernel_rfl) rfl #[.int .i64 a0_0] rfl mm0 ?_; (with_reducible refine (impl_Arity.calls k2 a0_0 t402 _ A25.out).mono ?_); rintro e w' ⟨rfl, ⟨nd, rfl⟩⟩; refine ⟨_, rfl, ?_⟩))
       go_roundg k2
       case measure => have := HJ1.out; have := HK2.out; omega
       case rel => exact ⟨(wrap64 (x37_2 + 1)), rs0, H', ⟨by have := HJ1.out; have := HK2.out; omega⟩, ⟨by refine ra0 ?_; exact HO_35.out⟩, ⟨by refine bk0 ?_; exact BK392.out⟩, ⟨bb1 GE392.out⟩⟩
      ·rw [if_neg c24] at H
       exact absurd H (by simp)
      ·rw [if_neg c23] at H
       exact absurd H (by simp)
      rw [if_neg c22] at H
      have c22b0 := decide_eq_false c22
      clear c22
      by_cases c31 : a0_0 = 2
      rw [if_pos c31] at H
      obtain ⟨c31b0, c31b1⟩ := eqT c31
      clear c31
      obtain ⟨t403, A32, H⟩ := bx H
      obtain rfl := Option.some.inj H
      obtain ⟨hcz33_0, hcz33_1, hcz33_2, hcz33_3, hcz33_4, hcz33_5, hcz33_6⟩ := cells7 BK392.out
      obtain ⟨hfz33_0, hfz33_1, hfz33_2, hfz33_3, hfz33_4, hfz33_5, hfz33_6⟩ := frz7 BK392.out
      rotate_left
      rw [if_neg c31] at H
      obtain ⟨c31b0, c31b1⟩ := eqF c31
      by_cases c34 : a0_0 = 8
      rw [if_pos c34] at H
      obtain ⟨c34b0, c34b1⟩ := eqT c34
      clear c34
      obtain ⟨t404, A35, H⟩ := bx H
      obtain rfl := Option.some.inj H
      obtain ⟨hcz36_0, hcz36_1, hcz36_2, hcz36_3, hcz36_4, hcz36_5, hcz36_6⟩ := cells7 BK392.out
      obtain ⟨hfz36_0, hfz36_1, hfz36_2, hfz36_3, hfz36_4, hfz36_5, hfz36_6⟩ := frz7 BK392.out
      rotate_left
      rw [if_neg c34] at H
      obtain ⟨c34b0, c34b1⟩ := eqF c34
      obtain rfl := Option.some.inj H
      obtain ⟨hcz37_0, hcz37_1, hcz37_2, hcz37_3, hcz37_4, hcz37_5, hcz37_6⟩ := cells7 BK392.out
      obtain ⟨hfz37_0, hfz37_1, hfz37_2, hfz37_3, hfz37_4, hfz37_5, hfz37_6⟩ := frz7 BK392.out
      rotate_left
      all_goals (go_wp2_with (first | ((with_reducible refine gate_callee (f := 58) rfl ?_); refine goesL_ (some 45) rfl rfl Tryd.func58 (by kernel_rfl) rfl #[.int .i64 a0_0] rfl mm0 ?_; (with_reducible refine (impl_Arity.calls k2 a0_0 t402 _ A25.out).mono ?_); rintro e w' ⟨rfl, ⟨nd, rfl⟩⟩; refine ⟨_, rfl, ?_⟩) | ((with_reducible refine gate_callee (f := 30) rfl ?_); refine goesL_ (some 58) rfl rfl Tryd.func30 (by kernel_rfl) rfl #[.int .i64 a0_4, .int .i64 0, .int .i64 65535] rfl mm0 ?_; (with_reducible refine (impl_in.calls a0_4 0 65535 t403 _ A32.out).mono ?_); rintro e w' ⟨rfl, ⟨nd, rfl⟩⟩; refine ⟨_, rfl, ?_⟩) | ((with_reducible refine gate_callee (f := 30) rfl ?_); refine goesL_ (some 63) rfl rfl Tryd.func30 (by kernel_rfl) rfl #[.int .i64 a0_4, .int .i64 0, .int .i64 3] rfl mm0 ?_; (with_reducible refine (impl_in.calls a0_4 0 3 t404 _ A35.out).mono ?_); rintro e w' ⟨rfl, ⟨nd, rfl⟩⟩; refine ⟨_, rfl, ?_⟩)); go_ret; exact ⟨er0, bb1 GE392.out⟩)

end Go.Proofs.YtoebebgeiahagaaDoor.PFnExactDropLets
