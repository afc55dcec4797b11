-- Printed by this session's own program (wip/tools)
import Derived.Test.YtoebebgeiahagaaDoorDlPFnExactDropLetsx0
import Derived.Test.YtoebebgeiahagaaDoorDlPFnExactDropLetsx12
namespace Go.Proofs.YtoebebgeiahagaaDoor.PFnExactDropLets
open Go.RowKit Go.Proofs.YtoebebgeiahagaaDoorW.PrintWords Go.Proofs.YtoebebgeiahagaaDoorW.PrintLast Go.Proofs.YtoebebgeiahagaaDoorW.PrintMore
attribute [local go_sem] max2_int min2_int max_two min_two max_three min_three max_four min_four   -- for this text's walks alone
set_option linter.unusedVariables false
set_option linter.unusedSimpArgs false

/-! ### spec_l3Make: function 50 -/
def spec_l3Make.l0 : Nat → List (List (S48)) → List (S48) → Int → Int → Int → Int → Int → Int → ByteArray → ByteArray → Option ((List (S48)))
 | 0, _, _, _, _, _, _, _, _, _, _ => none
 | k + 1, x1, x5, x6, x319000, x319001, x319002, x319003, x319004, x319005, x319006 => if x6 < (x1.length : Int) then (if 0 ≤ x6 then ((spec_l3Shift.f k (rd_L5 x1 x6) (x5.length : Int)).bind fun t326 => (if x5.length + t326.length < 1954687338268 then ((some (x5 ++ t326 : List (S48))).bind fun y329 => (if x6 = 0 then (spec_l3Make.l0 k x1 y329 (wrap64 (x6 + 1)) x319000 (wrap64 ((y329.length : Int) - 1)) x319002 x319003 x319004 x319005 x319006) else (if x6 = 1 then (spec_l3Make.l0 k x1 y329 (wrap64 (x6 + 1)) x319000 x319001 (wrap64 ((y329.length : Int) - 1)) x319003 x319004 x319005 x319006) else (spec_l3Make.l0 k x1 y329 (wrap64 (x6 + 1)) x319000 x319001 x319002 (wrap64 ((y329.length : Int) - 1)) x319004 x319005 x319006)))) else (none))) else (none)) else (if x5.length < 1954687338268 then (some (x5 ++ [(⟨x319000, x319001, x319002, x319003, x319004, x319005, x319006⟩ : S48)])) else (none))
def spec_l3Make.f (k : Nat) (a0_0 : Int) (a0_1 : Int) (a0_2 : Int) (a0_3 : Int) (a0_4 : Int) (a0_5 : ByteArray) (a0_6 : ByteArray) (l1 : List (List (S48))) : Option ((List (S48))) := spec_l3Make.l0 k l1 (([] : List (S48))) 0 a0_0 a0_1 a0_2 a0_3 a0_4 a0_5 a0_6
theorem spec_l3Make.mono_l : ∀ k, (∀ y0 y1 y2 y3 y4 y5 y6 y7 y8 y9, LeO (spec_l3Make.l0 k y0 y1 y2 y3 y4 y5 y6 y7 y8 y9) (spec_l3Make.l0 (k + 1) y0 y1 y2 y3 y4 y5 y6 y7 y8 y9))
 | 0 => fun _ _ _ _ _ _ _ _ _ _ r h => by simp [spec_l3Make.l0] at h
 | k + 1 => by
  have ih0 := spec_l3Make.mono_l k
  ·intro y0 y1 y2 y3 y4 y5 y6 y7 y8 y9
   unfold spec_l3Make.l0
   repeat' first
   | (with_reducible exact ih0 _ _ _ _ _ _ _ _ _ _)
   | (with_reducible exact spec_l3Shift.mono _ _ _)
   | (with_reducible exact LeO.refl _)
   | (with_reducible exact LeO.none _)
   | (with_reducible refine LeO.ite ?_ ?_)
   | (with_reducible refine LeO.bind ?_ (fun _ => ?_))
   | exact ih0 _ _ _ _ _ _ _ _ _ _
   | exact spec_l3Shift.mono _ _ _
   | exact LeO.none _
   | refine LeO.ite ?_ ?_
   | refine LeO.bind ?_ (fun _ => ?_)
theorem spec_l3Make.mono : ∀ a0 a1 a2 a3 a4 a5 a6 a7 k, LeO (spec_l3Make.f k a0 a1 a2 a3 a4 a5 a6 a7) (spec_l3Make.f (k + 1) a0 a1 a2 a3 a4 a5 a6 a7) := by
 intro a0 a1 a2 a3 a4 a5 a6 a7 k
 have ih0 := spec_l3Make.mono_l k
 unfold spec_l3Make.f
 repeat' first
   | (with_reducible exact ih0 _ _ _ _ _ _ _ _ _ _)
   | (with_reducible exact spec_l3Shift.mono _ _ _)
   | (with_reducible exact LeO.refl _)
   | (with_reducible exact LeO.none _)
   | (with_reducible refine LeO.ite ?_ ?_)
   | (with_reducible refine LeO.bind ?_ (fun _ => ?_))
   | exact ih0 _ _ _ _ _ _ _ _ _ _
   | exact spec_l3Shift.mono _ _ _
   | exact LeO.none _
   | refine LeO.ite ?_ ?_
   | refine LeO.bind ?_ (fun _ => ?_)
set_option maxHeartbeats 8000000 in
set_option maxRecDepth 100000 in
theorem spec_l3Make.calls (k : Nat) (a0_0 : Int) (a0_1 : Int) (a0_2 : Int) (a0_3 : Int) (a0_4 : Int) (a0_5 : ByteArray) (a0_6 : ByteArray) (A1 : Option Addr) (c1 : Nat) (l1 : List (List (S48))) (r : List (S48)) (w : World) (hr1 : Kd.C (Kd.slice 48 k48) w A1 l1.length l1) (hc1 : l1.length ≤ c1) (h : spec_l3Make.f k a0_0 a0_1 a0_2 a0_3 a0_4 a0_5 a0_6 l1 = some r) :
  Calls Tryd.prog 50 #[.agg #[.int .i64 a0_0, .int .i64 a0_1, .int .i64 a0_2, .int .i64 a0_3, .int .i64 a0_4, .string a0_5, .string a0_6], .slice A1 l1.length c1] w fun e w' => ∃ v0_ : Value, e = .returned (v0_) ∧ Kd.R k48 48 w' w.heap.size (fun _ => True) v0_ r ∧ Below w.heap.size w w' := by
 have hu48 := Tryd.underlying48
 have HR1 := Aside0.mk hr1
 have HC1 := Aside0.mk hc1
 clear hr1 hc1
 have HB := Aside0.mk (Below.refl w.heap.size w)
 have H := h; unfold spec_l3Make.f at H
 clear h
 obtain ⟨y319, hy319⟩ : ∃ y_ : List (S48), y_ = (([] : List (S48))) := ⟨_, rfl⟩
 replace H : (spec_l3Make.l0 k l1 y319 0 a0_0 a0_1 a0_2 a0_3 a0_4 a0_5 a0_6) = some r := by first | (rw [hy319]; with_reducible exact H) | (have H2_ := (Option.bind_some _ _).symm.trans H; rw [hy319]; with_reducible exact H2_) | (have H2_ := (Option.bind_some _ _).symm.trans H; with_reducible exact H2_) | with_reducible exact H | (rw [hy319]; exact H) | exact H
 have Ny319 := Aside0.mk hy319
 clear hy319
 have H' := Aside0.mk H
 clear H
 go_enter Tryd.func50, Tryd.ntmps50
 go_wp2_with (first | ((with_reducible refine gate_dst (N := 2) rfl ?_); refine box_event ?hg (N := 2) ?hd (cs := #[.int .i64 a0_0, .int .i64 a0_1, .int .i64 a0_2, .int .i64 a0_3, .int .i64 a0_4, .string a0_5, .string a0_6]) (t := 48) ?hr ?_; (case hd => rfl); (case hg => rfl); (case hr => first | (go_simp; done) | (go_simp; rfl)); intro gb318 hg w3 hbox hb; have BK318 := Aside0.mk (hbox); have GW318 := Aside0.mk ((by rw [hg]; exact (below_size bb0) : w.heap.size ≤ gb318)); have GE318 := Aside0.mk ((by rw [hg]; exact (below_size bb0) : w.heap.size ≤ gb318)); replace HB := Aside0.mk (below_step bb0 hb); clear hb hbox hg) | ((with_reducible refine gate_dst (N := 7) rfl ?_); refine Kd.R_lit k48 _ 48 ?hg (N := 7) ?hd (xs := ([] : List (S48))) (inner := []) (ok := fun _ => True) (okp := fun _ => True) ?hr ?hp (fun _ hk => hk) trivial (Below.refl _ _) (Nat.le_refl _) (by simp) ?_; (case hd => rfl); (case hg => rfl); (case hr => first | (go_simp; done) | (go_simp; rfl)); (case hp => exact (Reps.none _ _)); intro v320 w4 ho5 hb hg_ hnew_; clear hg_ hnew_; (first | rw [← Ny319.out] at ho5 | (simp only [Int.reduceToNat] at ho5; rw [← Ny319.out] at ho5)); have HO321 := Aside0.mk (Kd.R_lower (Kd.R_newB ho5 (g := gb318) (bk0 BK318.out)) (below_size (bb1 GE318.out))); replace BK318 := Aside0.mk (blk_below (g := gb318) (bk0 BK318.out) hb); replace HB := Aside0.mk (below_step (bb1 GE318.out) hb); clear hb ho5))
 go_simp
 go_loopg [5, 6] k (fun kq v5 v6 w' => ∃ (x5_1 : List (S48)) (x6_1 : Int) (x319001_1 : Int) (x319002_1 : Int) (x319003_1 : Int), v6 = .int .i64 x6_1 ∧ Aside0 (spec_l3Make.l0 kq l1 x5_1 x6_1 a0_0 x319001_1 x319002_1 x319003_1 a0_4 a0_5 a0_6 = some r) ∧ Aside0 (kq ≤ k) ∧ Aside0 (Kd.R k48 48 w' w.heap.size (fun k_ => k_ ≠ gb318) v5 x5_1) ∧ Aside0 (w'.heap[gb318]? = some (.cells #[.int .i64 a0_0, .int .i64 x319001_1, .int .i64 x319002_1, .int .i64 x319003_1, .int .i64 a0_4, .string a0_5, .string a0_6] 48 (0, 0))) ∧ Aside0 (Below w.heap.size w w'))
 case atStart => exact ⟨(y319), (0), (a0_1), (a0_2), (a0_3), rs0, H', ⟨Nat.le_refl _⟩, ⟨by refine ra0 ?_; exact Kd.R_mono HO321.out (fun _ hk => hk.2)⟩, ⟨by refine bk0 ?_; exact BK318.out⟩, ⟨bb1 GE318.out⟩⟩
 case round =>
  clear H'
  try clear c1
  try clear p2
  try clear c5
  obtain ⟨x5_1, x6_1, x319001_1, x319002_1, x319003_1, rfl, HA, HK1, HO_5, BK318, HB⟩ := hrel
  cases gk with
  | zero => exact absurd HA.out (by simp [spec_l3Make.l0])
  | succ k1 =>
   have H := HA.out
   clear HA
   simp only [spec_l3Make.l0] at H
   by_cases c6 : x6_1 < (l1.length : Int)
   ·rw [if_pos c6] at H
    have c6b0 := decide_eq_true c6
    clear c6
    by_cases c7 : 0 ≤ x6_1
    ·rw [if_pos c7] at H
     have c7b0 := decide_eq_true c7
     clear c7
     obtain ⟨t326, A8, H⟩ := bx H
     by_cases c9 : x5_1.length + t326.length < 1954687338268
     ·rw [if_pos c9] at H
      have LMc9 := Aside0.mk c9
      clear c9
      obtain ⟨y329, hy329⟩ : ∃ y_ : List (S48), y_ = (x5_1 ++ t326) := ⟨_, rfl⟩
      replace H : (if x6_1 = 0 then (spec_l3Make.l0 k1 l1 y329 (wrap64 (x6_1 + 1)) a0_0 (wrap64 ((y329.length : Int) - 1)) x319002_1 x319003_1 a0_4 a0_5 a0_6) else (if x6_1 = 1 then (spec_l3Make.l0 k1 l1 y329 (wrap64 (x6_1 + 1)) a0_0 x319001_1 (wrap64 ((y329.length : Int) - 1)) x319003_1 a0_4 a0_5 a0_6) else (spec_l3Make.l0 k1 l1 y329 (wrap64 (x6_1 + 1)) a0_0 x319001_1 x319002_1 (wrap64 ((y329.length : Int) - 1)) a0_4 a0_5 a0_6))) = some r := by first | (rw [hy329]; with_reducible exact H) | (have H2_ := (Option.bind_some _ _).symm.trans H; rw [hy329]; with_reducible exact H2_) | (have H2_ := (Option.bind_some _ _).symm.trans H; with_reducible exact H2_) | with_reducible exact H | (rw [hy329]; exact H) | exact H
      have Ny329 := Aside0.mk hy329
      clear hy329
      by_cases c10 : x6_1 = 0
      ·rw [if_pos c10] at H
       obtain ⟨c10b0, c10b1⟩ := eqT c10
       clear c10
       have H' := Aside0.mk H
       clear H
       have p325 : 0 ≤ (x6_1 : Int) := of_decide_eq_true as0
       have q325 : x6_1 < (l1.length : Int) := of_decide_eq_true as0
       obtain ⟨ad325, A325_0, c325_0, e325, hx325_0, hl325_0, hi325_0⟩ := at_L5 HR1.out x6_1 p325 q325
       cases e325
       replace hx325_0 := hbc HB hx325_0
       have HR325_0 := Aside0.mk hi325_0
       have HC325_0 := Aside0.mk hl325_0
       clear hi325_0 hl325_0
       replace p325 := eq_true p325
       replace q325 := eq_true q325
       obtain ⟨Ao11, co11, eo11⟩ := Kd.R_slice HO_5.out
       subst eo11
       go_wp2_with (first | ((with_reducible refine gate_callee (f := 61) rfl ?_); refine goesL_ (some 21) rfl rfl Tryd.func61 (by kernel_rfl) rfl #[.slice A325_0 (rd_L5 l1 x6_1).length c325_0, .int .i64 (x5_1.length : Int)] rfl mm0 ?_; (with_reducible refine (spec_l3Shift.calls k1 _ _ (rd_L5 l1 x6_1) (x5_1.length : Int) t326 _ ?side1 ?side2 A8.out).mono ?_); (case side1 => exact cc0 (Kd.C_below HR325_0.out HB.out)); (case side2 => exact HC325_0.out); rintro e w12 ⟨v327, rfl, ho0, hb⟩; refine ⟨_, rfl, ?_⟩; have HO328 := Aside0.mk (Kd.R_lower (Kd.R_newB (Kd.R_new' ho0 (Kd.R_lt (ra0 HO_5.out))) (g := gb318) (bk0 BK318.out)) (below_size (bb1 GE318.out))); replace HO_5 := Aside0.mk (Kd.R_elder' (ra0 HO_5.out) (Kd.R_base ho0) hb); replace BK318 := Aside0.mk (blk_below (g := gb318) (bk0 BK318.out) hb); replace HB := Aside0.mk (below_step (bb1 GE318.out) hb); clear hb ho0; obtain ⟨Ao14, co14, eo14⟩ := Kd.R_slice HO328.out; subst eo14) | ((with_reducible refine gate_builtin (b := .append) (xs := #[(.tmp 14), .tmp 21]) rfl ?_); at_builtin; refine Kd.R_append_rows k48 (w0 := w) w.heap.size rfl (.tmp 14) (.tmp 21) 25 48 (.agg #[(.int .i64 0), (.int .i64 0), (.int .i64 0), (.int .i64 0), (.int .i64 0), (.string ⟨#[]⟩), (.string ⟨#[]⟩)]) 72 rfl Tryd.underlying25 info48 rfl (by decide) (by omega) (.slice Ao11 x5_1.length co11) x5_1 t326 _ _ _ (fun k_ => some k_ ≠ (.slice Ao14 t326.length co14 : Value).ownBlock ∧ k_ ≠ gb318) (fun _ => False) rfl rfl ?aO ?aR (fun _ _ h => h) (fun _ h => h.elim) ?aF ?aB ?aS ?aL ?_; (case aR => repeat (first | exact (Kd.R_reads' HO328.out).2.2 | (with_reducible refine Kd.C_alloc ?_ _) | (with_reducible refine Kd.C_drewN ?_ _) | (with_reducible refine Kd.C_drew ?_))); (case aB => exact (bb1 GE318.out)); (case aF => exact (fun k_ hk => ⟨Kd.fresh' (Kd.R_lt (ra0 HO328.out)) k_ hk, Kd.freshB (g := gb318) (bk0 BK318.out) k_ hk⟩)); (case aO => exact (by refine ra0 ?_; exact Kd.R_mono HO_5.out (fun _ hk => ⟨hk.2, hk.1⟩))); (case aS => exact (below_size (bb1 GE318.out))); (case aL => have := LMc9.out; omega); intro v330 w13 ho hb hg hat; rw [← Ny329.out] at ho; have n0_ := Aside0.mk (blk_grown (g := gb318) (bk0 BK318.out) hg (Kd.R_away HO_5.out (fun _ hk => hk.1))); have n1_ := Aside0.mk (Kd.R_after (ok := (fun k_ => k_ ≠ gb318)) (by refine ra0 ?_; exact Kd.R_mono HO328.out (fun _ hk => ⟨hk.2, hk.1.2⟩)) hg hat); have n2_ := Aside0.mk (hb); have n3_ := Aside0.mk (ho); clear BK318; clear HO328; clear HB; clear HO_5; have BK318 := n0_; have HO328 := n1_; have HB := n2_; have HO331 := n3_; clear n0_ n1_ n2_ n3_; clear ho hb hg hat; obtain ⟨Ao15, co15, eo15⟩ := Kd.R_slice HO331.out; subst eo15; obtain ⟨hcz16_0, hcz16_1, hcz16_2, hcz16_3, hcz16_4, hcz16_5, hcz16_6⟩ := cells7 BK318.out; obtain ⟨hfz16_0, hfz16_1, hfz16_2, hfz16_3, hfz16_4, hfz16_5, hfz16_6⟩ := frz7 BK318.out))
       go_roundg k1
       case measure => have := HK1.out; omega
       case rel => exact ⟨(y329), (wrap64 (x6_1 + 1)), (wrap64 ((y329.length : Int) - 1)), (x319002_1), (x319003_1), rs0, H', ⟨by have := HK1.out; omega⟩, ⟨by (try simp only [setCell_drewN]); refine ra0 ?_; exact Kd.R_mono (Kd.R_far (p := ⟨gb318, 1, none⟩) (Kd.R_mono HO331.out (fun k_ hk => (⟨hk, hk.2⟩ : _ ∧ k_ ≠ gb318))) (fun _ hk => hk.2) (.int .i64 (wrap64 ((y329.length : Int) - 1)))) (fun _ hk => hk.1.2)⟩, ⟨bk1 BK318.out⟩, ⟨bb1 GE318.out⟩⟩
      ·rw [if_neg c10] at H
       obtain ⟨c10b0, c10b1⟩ := eqF c10
       by_cases c17 : x6_1 = 1
       ·rw [if_pos c17] at H
        obtain ⟨c17b0, c17b1⟩ := eqT c17
        clear c17
        have H' := Aside0.mk H
        clear H
        have p325 : 0 ≤ (x6_1 : Int) := of_decide_eq_true as0
        have q325 : x6_1 < (l1.length : Int) := of_decide_eq_true as0
        obtain ⟨ad325, A325_0, c325_0, e325, hx325_0, hl325_0, hi325_0⟩ := at_L5 HR1.out x6_1 p325 q325
        cases e325
        replace hx325_0 := hbc HB hx325_0
        have HR325_0 := Aside0.mk hi325_0
        have HC325_0 := Aside0.mk hl325_0
        clear hi325_0 hl325_0
        replace p325 := eq_true p325
        replace q325 := eq_true q325
        obtain ⟨Ao18, co18, eo18⟩ := Kd.R_slice HO_5.out
        subst eo18
        go_wp2_with (first | ((with_reducible refine gate_callee (f := 61) rfl ?_); refine goesL_ (some 21) rfl rfl Tryd.func61 (by kernel_rfl) rfl #[.slice A325_0 (rd_L5 l1 x6_1).length c325_0, .int .i64 (x5_1.length : Int)] rfl mm0 ?_; (with_reducible refine (spec_l3Shift.calls k1 _ _ (rd_L5 l1 x6_1) (x5_1.length : Int) t326 _ ?side1 ?side2 A8.out).mono ?_); (case side1 => exact cc0 (Kd.C_below HR325_0.out HB.out)); (case side2 => exact HC325_0.out); rintro e w19 ⟨v327, rfl, ho0, hb⟩; refine ⟨_, rfl, ?_⟩; have HO328 := Aside0.mk (Kd.R_lower (Kd.R_newB (Kd.R_new' ho0 (Kd.R_lt (ra0 HO_5.out))) (g := gb318) (bk0 BK318.out)) (below_size (bb1 GE318.out))); replace HO_5 := Aside0.mk (Kd.R_elder' (ra0 HO_5.out) (Kd.R_base ho0) hb); replace BK318 := Aside0.mk (blk_below (g := gb318) (bk0 BK318.out) hb); replace HB := Aside0.mk (below_step (bb1 GE318.out) hb); clear hb ho0; obtain ⟨Ao21, co21, eo21⟩ := Kd.R_slice HO328.out; subst eo21) | ((with_reducible refine gate_builtin (b := .append) (xs := #[(.tmp 14), .tmp 21]) rfl ?_); at_builtin; refine Kd.R_append_rows k48 (w0 := w) w.heap.size rfl (.tmp 14) (.tmp 21) 25 48 (.agg #[(.int .i64 0), (.int .i64 0), (.int .i64 0), (.int .i64 0), (.int .i64 0), (.string ⟨#[]⟩), (.string ⟨#[]⟩)]) 72 rfl Tryd.underlying25 info48 rfl (by decide) (by omega) (.slice Ao18 x5_1.length co18) x5_1 t326 _ _ _ (fun k_ => some k_ ≠ (.slice Ao21 t326.length co21 : Value).ownBlock ∧ k_ ≠ gb318) (fun _ => False) rfl rfl ?aO ?aR (fun _ _ h => h) (fun _ h => h.elim) ?aF ?aB ?aS ?aL ?_; (case aR => repeat (first | exact (Kd.R_reads' HO328.out).2.2 | (with_reducible refine Kd.C_alloc ?_ _) | (with_reducible refine Kd.C_drewN ?_ _) | (with_reducible refine Kd.C_drew ?_))); (case aB => exact (bb1 GE318.out)); (case aF => exact (fun k_ hk => ⟨Kd.fresh' (Kd.R_lt (ra0 HO328.out)) k_ hk, Kd.freshB (g := gb318) (bk0 BK318.out) k_ hk⟩)); (case aO => exact (by refine ra0 ?_; exact Kd.R_mono HO_5.out (fun _ hk => ⟨hk.2, hk.1⟩))); (case aS => exact (below_size (bb1 GE318.out))); (case aL => have := LMc9.out; omega); intro v330 w20 ho hb hg hat; rw [← Ny329.out] at ho; have n0_ := Aside0.mk (blk_grown (g := gb318) (bk0 BK318.out) hg (Kd.R_away HO_5.out (fun _ hk => hk.1))); have n1_ := Aside0.mk (Kd.R_after (ok := (fun k_ => k_ ≠ gb318)) (by refine ra0 ?_; exact Kd.R_mono HO328.out (fun _ hk => ⟨hk.2, hk.1.2⟩)) hg hat); have n2_ := Aside0.mk (hb); have n3_ := Aside0.mk (ho); clear BK318; clear HO328; clear HB; clear HO_5; have BK318 := n0_; have HO328 := n1_; have HB := n2_; have HO331 := n3_; clear n0_ n1_ n2_ n3_; clear ho hb hg hat; obtain ⟨Ao22, co22, eo22⟩ := Kd.R_slice HO331.out; subst eo22; obtain ⟨hcz23_0, hcz23_1, hcz23_2, hcz23_3, hcz23_4, hcz23_5, hcz23_6⟩ := cells7 BK318.out; obtain ⟨hfz23_0, hfz23_1, hfz23_2, hfz23_3, hfz23_4, hfz23_5, hfz23_6⟩ := frz7 BK318.out))
        go_roundg k1
        case measure => have := HK1.out; omega
        case rel => exact ⟨(y329), (wrap64 (x6_1 + 1)), (x319001_1), (wrap64 ((y329.length : Int) - 1)), (x319003_1), rs0, H', ⟨by have := HK1.out; omega⟩, ⟨by (try simp only [setCell_drewN]); refine ra0 ?_; exact Kd.R_mono (Kd.R_far (p := ⟨gb318, 2, none⟩) (Kd.R_mono HO331.out (fun k_ hk => (⟨hk, hk.2⟩ : _ ∧ k_ ≠ gb318))) (fun _ hk => hk.2) (.int .i64 (wrap64 ((y329.length : Int) - 1)))) (fun _ hk => hk.1.2)⟩, ⟨bk1 BK318.out⟩, ⟨bb1 GE318.out⟩⟩
       ·rw [if_neg c17] at H
        obtain ⟨c17b0, c17b1⟩ := eqF c17
        have H' := Aside0.mk H
        clear H
        have p325 : 0 ≤ (x6_1 : Int) := of_decide_eq_true as0
        have q325 : x6_1 < (l1.length : Int) := of_decide_eq_true as0
        obtain ⟨ad325, A325_0, c325_0, e325, hx325_0, hl325_0, hi325_0⟩ := at_L5 HR1.out x6_1 p325 q325
        cases e325
        replace hx325_0 := hbc HB hx325_0
        have HR325_0 := Aside0.mk hi325_0
        have HC325_0 := Aside0.mk hl325_0
        clear hi325_0 hl325_0
        replace p325 := eq_true p325
        replace q325 := eq_true q325
        obtain ⟨Ao24, co24, eo24⟩ := Kd.R_slice HO_5.out
        subst eo24
        go_wp2_with (first | ((with_reducible refine gate_callee (f := 61) rfl ?_); refine goesL_ (some 21) rfl rfl Tryd.func61 (by kernel_rfl) rfl #[.slice A325_0 (rd_L5 l1 x6_1).length c325_0, .int .i64 (x5_1.length : Int)] rfl mm0 ?_; (with_reducible refine (spec_l3Shift.calls k1 _ _ (rd_L5 l1 x6_1) (x5_1.length : Int) t326 _ ?side1 ?side2 A8.out).mono ?_); (case side1 => exact cc0 (Kd.C_below HR325_0.out HB.out)); (case side2 => exact HC325_0.out); rintro e w25 ⟨v327, rfl, ho0, hb⟩; refine ⟨_, rfl, ?_⟩; have HO328 := Aside0.mk (Kd.R_lower (Kd.R_newB (Kd.R_new' ho0 (Kd.R_lt (ra0 HO_5.out))) (g := gb318) (bk0 BK318.out)) (below_size (bb1 GE318.out))); replace HO_5 := Aside0.mk (Kd.R_elder' (ra0 HO_5.out) (Kd.R_base ho0) hb); replace BK318 := Aside0.mk (blk_below (g := gb318) (bk0 BK318.out) hb); replace HB := Aside0.mk (below_step (bb1 GE318.out) hb); clear hb ho0; obtain ⟨Ao27, co27, eo27⟩ := Kd.R_slice HO328.out; subst eo27) | ((with_reducible refine gate_builtin (b := .append) (xs := #[(.tmp 14), .tmp 21]) rfl ?_); at_builtin; refine Kd.R_append_rows k48 (w0 := w) w.heap.size rfl (.tmp 14) (.tmp 21) 25 48 (.agg #[(.int .i64 0), (.int .i64 0), (.int .i64 0), (.int .i64 0), (.int .i64 0), (.string ⟨#[]⟩), (.string ⟨#[]⟩)]) 72 rfl Tryd.underlying25 info48 rfl (by decide) (by omega) (.slice Ao24 x5_1.length co24) x5_1 t326 _ _ _ (fun k_ => some k_ ≠ (.slice Ao27 t326.length co27 : Value).ownBlock ∧ k_ ≠ gb318) (fun _ => False) rfl rfl ?aO ?aR (fun _ _ h => h) (fun _ h => h.elim) ?aF ?aB ?aS ?aL ?_; (case aR => repeat (first | exact (Kd.R_reads' HO328.out).2.2 | (with_reducible refine Kd.C_alloc ?_ _) | (with_reducible refine Kd.C_drewN ?_ _) | (with_reducible refine Kd.C_drew ?_))); (case aB => exact (bb1 GE318.out)); (case aF => exact (fun k_ hk => ⟨Kd.fresh' (Kd.R_lt (ra0 HO328.out)) k_ hk, Kd.freshB (g := gb318) (bk0 BK318.out) k_ hk⟩)); (case aO => exact (by refine ra0 ?_; exact Kd.R_mono HO_5.out (fun _ hk => ⟨hk.2, hk.1⟩))); (case aS => exact (below_size (bb1 GE318.out))); (case aL => have := LMc9.out; omega); intro v330 w26 ho hb hg hat; rw [← Ny329.out] at ho; have n0_ := Aside0.mk (blk_grown (g := gb318) (bk0 BK318.out) hg (Kd.R_away HO_5.out (fun _ hk => hk.1))); have n1_ := Aside0.mk (Kd.R_after (ok := (fun k_ => k_ ≠ gb318)) (by refine ra0 ?_; exact Kd.R_mono HO328.out (fun _ hk => ⟨hk.2, hk.1.2⟩)) hg hat); have n2_ := Aside0.mk (hb); have n3_ := Aside0.mk (ho); clear BK318; clear HO328; clear HB; clear HO_5; have BK318 := n0_; have HO328 := n1_; have HB := n2_; have HO331 := n3_; clear n0_ n1_ n2_ n3_; clear ho hb hg hat; obtain ⟨Ao28, co28, eo28⟩ := Kd.R_slice HO331.out; subst eo28; obtain ⟨hcz29_0, hcz29_1, hcz29_2, hcz29_3, hcz29_4, hcz29_5, hcz29_6⟩ := cells7 BK318.out; obtain ⟨hfz29_0, hfz29_1, hfz29_2, hfz29_3, hfz29_4, hfz29_5, hfz29_6⟩ := frz7 BK318.out))
        go_roundg k1
        case measure => have := HK1.out; omega
        case rel => exact ⟨(y329), (wrap64 (x6_1 + 1)), (x319001_1), (x319002_1), (wrap64 ((y329.length : Int) - 1)), rs0, H', ⟨by have := HK1.out; omega⟩, ⟨by (try simp only [setCell_drewN]); refine ra0 ?_; exact Kd.R_mono (Kd.R_far (p := ⟨gb318, 3, none⟩) (Kd.R_mono HO331.out (fun k_ hk => (⟨hk, hk.2⟩ : _ ∧ k_ ≠ gb318))) (fun _ hk => hk.2) (.int .i64 (wrap64 ((y329.length : Int) - 1)))) (fun _ hk => hk.1.2)⟩, ⟨bk1 BK318.out⟩, ⟨bb1 GE318.out⟩⟩
     ·rw [if_neg c9] at H
      exact absurd H (by simp)
    ·rw [if_neg c7] at H
     exact absurd H (by simp)
   ·rw [if_neg c6] at H
    have c6b0 := decide_eq_false c6
    clear c6
    by_cases c30 : x5_1.length < 1954687338268
    ·rw [if_pos c30] at H
     have LMc30 := Aside0.mk c30
     clear c30
     obtain ⟨y322, hy322⟩ : ∃ y_ : List (S48), y_ = (x5_1 ++ [(⟨a0_0, x319001_1, x319002_1, x319003_1, a0_4, a0_5, a0_6⟩ : S48)]) := ⟨_, rfl⟩
     replace H : (some y322) = some r := by first | (rw [hy322]; with_reducible exact H) | (have H2_ := (Option.bind_some _ _).symm.trans H; rw [hy322]; with_reducible exact H2_) | (have H2_ := (Option.bind_some _ _).symm.trans H; with_reducible exact H2_) | with_reducible exact H | (rw [hy322]; exact H) | exact H
     have Ny322 := Aside0.mk hy322
     clear hy322
     obtain rfl := Option.some.inj H
     obtain ⟨hcz31_0, hcz31_1, hcz31_2, hcz31_3, hcz31_4, hcz31_5, hcz31_6⟩ := cells7 BK318.out
     obtain ⟨hfz31_0, hfz31_1, hfz31_2, hfz31_3, hfz31_4, hfz31_5, hfz31_6⟩ := frz7 BK318.out
     go_wp2_with (first | ((with_reducible refine gate_builtin (b := .append) (xs := #[(.tmp 40), .tmp 42]) rfl ?_); at_builtin; refine Kd.R_append k48 (w0 := w) w.heap.size rfl (.tmp 40) (.tmp 42) 25 48 (.agg #[(.int .i64 0), (.int .i64 0), (.int .i64 0), (.int .i64 0), (.int .i64 0), (.string ⟨#[]⟩), (.string ⟨#[]⟩)]) 72 rfl Tryd.underlying25 info48 rfl (by decide) (by omega) u5 x5_1 (⟨a0_0, x319001_1, x319002_1, x319003_1, a0_4, a0_5, a0_6⟩ : S48) [.int .i64 a0_0, .int .i64 x319001_1, .int .i64 x319002_1, .int .i64 x319003_1, .int .i64 a0_4, .string a0_5, .string a0_6] (fun k_ => k_ ≠ gb318) (fun _ => False) rfl rfl ?aP (fun _ hk => hk.elim) ?aF ?aO ?aB ?aS ?aL ?_; (case aP => exact k48_mkM _ _ _ (⟨a0_0, x319001_1, x319002_1, x319003_1, a0_4, a0_5, a0_6⟩ : S48)); (case aB => exact (bb1 GE318.out)); (case aF => exact (fun k_ hk => Kd.freshB (g := gb318) (bk0 BK318.out) k_ hk)); (case aO => exact (ra0 HO_5.out)); (case aS => exact (below_size (bb1 GE318.out))); (case aL => have := LMc30.out; omega); intro v323 w32 ho hb hg hat; rw [← Ny322.out] at ho; have n0_ := Aside0.mk (blk_grown (g := gb318) (bk0 BK318.out) hg (Kd.R_away HO_5.out (fun _ hk => hk))); have n1_ := Aside0.mk (hb); have n2_ := Aside0.mk (ho); clear BK318; clear HB; clear HO_5; have BK318 := n0_; have HB := n1_; have HO324 := n2_; clear n0_ n1_ n2_; clear ho hb hg hat))
     go_ret
     exact ⟨_, er0, by refine ra0 ?_; exact Kd.R_mono HO324.out (fun _ hk => trivial), bb1 GE318.out⟩
    ·rw [if_neg c30] at H
     exact absurd H (by simp)

end Go.Proofs.YtoebebgeiahagaaDoor.PFnExactDropLets
