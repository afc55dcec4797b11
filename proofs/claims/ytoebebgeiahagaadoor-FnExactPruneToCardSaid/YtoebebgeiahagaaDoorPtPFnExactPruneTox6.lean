-- Printed by this session's own program (wip/tools)
import Derived.Test.YtoebebgeiahagaaDoorPtPFnExactPruneTox0
import Derived.Test.YtoebebgeiahagaaDoorPtPFnExactPruneTox2
namespace Go.Proofs.YtoebebgeiahagaaDoor.PFnExactPruneTo
open Go.RowKit Go.Proofs.YtoebebgeiahagaaDoorW.PrintWords Go.Proofs.YtoebebgeiahagaaDoorW.PrintLast Go.Proofs.YtoebebgeiahagaaDoorW.PrintMore
attribute [local go_sem] max2_int min2_int max_two min_two max_three min_three max_four min_four   -- for this text's walks alone
set_option linter.unusedVariables false
set_option linter.unusedSimpArgs false

/-! ### spec_l3Shift: function 61 -/
mutual
def spec_l3Shift.l0 : Nat → List (S48) → Int → List (S48) → Int → Option ((List (S48)))
 | 0, _, _, _, _ => none
 | k + 1, x0, x1, x5, x6 => if x6 < (x0.length : Int) then (if 0 ≤ x6 then ((spec_Arity.f k ((rd_T48 x0 x6).f0)).bind fun t192 => (if t192 > 0 then (spec_l3Shift.j1 k x0 x1 x5 x6 t192 ((rd_T48 x0 x6).f0) (wrap64 (((rd_T48 x0 x6).f1) + x1)) ((rd_T48 x0 x6).f2) ((rd_T48 x0 x6).f3) ((rd_T48 x0 x6).f4) ((rd_T48 x0 x6).f5) ((rd_T48 x0 x6).f6)) else (spec_l3Shift.j1 k x0 x1 x5 x6 t192 ((rd_T48 x0 x6).f0) ((rd_T48 x0 x6).f1) ((rd_T48 x0 x6).f2) ((rd_T48 x0 x6).f3) ((rd_T48 x0 x6).f4) ((rd_T48 x0 x6).f5) ((rd_T48 x0 x6).f6)))) else (none)) else (some x5)
def spec_l3Shift.j1 : Nat → List (S48) → Int → List (S48) → Int → Int → Int → Int → Int → Int → Int → ByteArray → ByteArray → Option ((List (S48)))
 | 0, _, _, _, _, _, _, _, _, _, _, _, _ => none
 | k + 1, x0, x1, x5, x6, x8, x192000, x192001, x192002, x192003, x192004, x192005, x192006 => if x8 > 1 then (if x8 > 2 then (if x5.length < 1954687338268 then (spec_l3Shift.l0 k x0 x1 (x5 ++ [(⟨x192000, x192001, wrap64 (x192002 + x1), wrap64 (x192003 + x1), x192004, x192005, x192006⟩ : S48)]) (wrap64 (x6 + 1))) else (none)) else (if x5.length < 1954687338268 then (spec_l3Shift.l0 k x0 x1 (x5 ++ [(⟨x192000, x192001, wrap64 (x192002 + x1), x192003, x192004, x192005, x192006⟩ : S48)]) (wrap64 (x6 + 1))) else (none))) else (if x8 > 2 then (if x5.length < 1954687338268 then (spec_l3Shift.l0 k x0 x1 (x5 ++ [(⟨x192000, x192001, x192002, wrap64 (x192003 + x1), x192004, x192005, x192006⟩ : S48)]) (wrap64 (x6 + 1))) else (none)) else (if x5.length < 1954687338268 then (spec_l3Shift.l0 k x0 x1 (x5 ++ [(⟨x192000, x192001, x192002, x192003, x192004, x192005, x192006⟩ : S48)]) (wrap64 (x6 + 1))) else (none)))
end
def spec_l3Shift.f (k : Nat) (l0 : List (S48)) (a1 : Int) : Option ((List (S48))) := spec_l3Shift.l0 k l0 a1 (([] : List (S48))) 0
theorem spec_l3Shift.mono_l : ∀ k, (∀ y0 y1 y2 y3, LeO (spec_l3Shift.l0 k y0 y1 y2 y3) (spec_l3Shift.l0 (k + 1) y0 y1 y2 y3)) ∧ (∀ y0 y1 y2 y3 y4 y5 y6 y7 y8 y9 y10 y11, LeO (spec_l3Shift.j1 k y0 y1 y2 y3 y4 y5 y6 y7 y8 y9 y10 y11) (spec_l3Shift.j1 (k + 1) y0 y1 y2 y3 y4 y5 y6 y7 y8 y9 y10 y11))
 | 0 => ⟨fun _ _ _ _ r h => by simp [spec_l3Shift.l0] at h, fun _ _ _ _ _ _ _ _ _ _ _ _ r h => by simp [spec_l3Shift.j1] at h⟩
 | k + 1 => by
  obtain ⟨ih0, ih1⟩ := spec_l3Shift.mono_l k
  refine ⟨?_, ?_⟩
  ·intro y0 y1 y2 y3
   unfold spec_l3Shift.l0
   repeat' first
   | (with_reducible exact ih0 _ _ _ _)
   | (with_reducible exact ih1 _ _ _ _ _ _ _ _ _ _ _ _)
   | (with_reducible exact spec_Arity.mono _ _)
   | (with_reducible exact LeO.refl _)
   | (with_reducible exact LeO.none _)
   | (with_reducible refine LeO.ite ?_ ?_)
   | (with_reducible refine LeO.bind ?_ (fun _ => ?_))
   | exact ih0 _ _ _ _
   | exact ih1 _ _ _ _ _ _ _ _ _ _ _ _
   | exact spec_Arity.mono _ _
   | exact LeO.none _
   | refine LeO.ite ?_ ?_
   | refine LeO.bind ?_ (fun _ => ?_)
  ·intro y0 y1 y2 y3 y4 y5 y6 y7 y8 y9 y10 y11
   unfold spec_l3Shift.j1
   repeat' first
   | (with_reducible exact ih0 _ _ _ _)
   | (with_reducible exact ih1 _ _ _ _ _ _ _ _ _ _ _ _)
   | (with_reducible exact spec_Arity.mono _ _)
   | (with_reducible exact LeO.refl _)
   | (with_reducible exact LeO.none _)
   | (with_reducible refine LeO.ite ?_ ?_)
   | (with_reducible refine LeO.bind ?_ (fun _ => ?_))
   | exact ih0 _ _ _ _
   | exact ih1 _ _ _ _ _ _ _ _ _ _ _ _
   | exact spec_Arity.mono _ _
   | exact LeO.none _
   | refine LeO.ite ?_ ?_
   | refine LeO.bind ?_ (fun _ => ?_)
theorem spec_l3Shift.mono : ∀ a0 a1 k, LeO (spec_l3Shift.f k a0 a1) (spec_l3Shift.f (k + 1) a0 a1) := by
 intro a0 a1 k
 obtain ⟨ih0, ih1⟩ := spec_l3Shift.mono_l k
 unfold spec_l3Shift.f
 repeat' first
   | (with_reducible exact ih0 _ _ _ _)
   | (with_reducible exact ih1 _ _ _ _ _ _ _ _ _ _ _ _)
   | (with_reducible exact spec_Arity.mono _ _)
   | (with_reducible exact LeO.refl _)
   | (with_reducible exact LeO.none _)
   | (with_reducible refine LeO.ite ?_ ?_)
   | (with_reducible refine LeO.bind ?_ (fun _ => ?_))
   | exact ih0 _ _ _ _
   | exact ih1 _ _ _ _ _ _ _ _ _ _ _ _
   | exact spec_Arity.mono _ _
   | exact LeO.none _
   | refine LeO.ite ?_ ?_
   | refine LeO.bind ?_ (fun _ => ?_)
set_option maxHeartbeats 8000000 in
set_option maxRecDepth 100000 in
theorem spec_l3Shift.calls (k : Nat) (A0 : Option Addr) (c0 : Nat) (l0 : List (S48)) (a1 : Int) (r : List (S48)) (w : World) (hr0 : Kd.C k48 w A0 l0.length l0) (hc0 : l0.length ≤ c0) (h : spec_l3Shift.f k l0 a1 = some r) :
  Calls Tryd.prog 61 #[.slice A0 l0.length c0, .int .i64 a1] w fun e w' => ∃ v0_ : Value, e = .returned (v0_) ∧ Kd.R k48 48 w' w.heap.size (fun _ => True) v0_ r ∧ Below w.heap.size w w' := by
 have hu48 := Tryd.underlying48
 have HR0 := Aside0.mk hr0
 have HC0 := Aside0.mk hc0
 clear hr0 hc0
 have HB := Aside0.mk (Below.refl w.heap.size w)
 have H : (spec_l3Shift.l0 k l0 a1 (([] : List (S48))) 0) = some r := h
 clear h
 obtain ⟨y187, hy187⟩ : ∃ y_ : List (S48), y_ = (([] : List (S48))) := ⟨_, rfl⟩
 replace H : (spec_l3Shift.l0 k l0 a1 y187 0) = some r := by first | (rw [hy187]; with_reducible exact H) | (have H2_ := (Option.bind_some _ _).symm.trans H; rw [hy187]; with_reducible exact H2_) | (have H2_ := (Option.bind_some _ _).symm.trans H; with_reducible exact H2_) | with_reducible exact H | (rw [hy187]; exact H) | exact H
 have Ny187 := Aside0.mk hy187
 clear hy187
 have H' := Aside0.mk H
 clear H
 go_enter Tryd.func61, Tryd.ntmps61
 go_wp2_with (first | ((with_reducible refine gate_dst (N := 9) rfl ?_); refine Kd.R_lit k48 _ 48 ?hg (N := 9) ?hd (xs := ([] : List (S48))) (inner := []) (ok := fun _ => True) (okp := fun _ => True) ?hr ?hp (fun _ hk => hk) trivial (Below.refl _ _) (Nat.le_refl _) (by simp) ?_; (case hd => rfl); (case hg => rfl); (case hr => first | (go_simp; done) | (go_simp; rfl)); (case hp => exact (Reps.none _ _)); intro v188 w3 ho4 hb hg_ hnew_; clear hg_ hnew_; (first | rw [← Ny187.out] at ho4 | (simp only [Int.reduceToNat] at ho4; rw [← Ny187.out] at ho4)); have n0_ := Aside0.mk (Kd.R_lower ho4 (below_size bb0)); have n1_ := Aside0.mk (below_step bb0 hb); clear HB; have HO189 := n0_; have HB := n1_; clear n0_ n1_; clear hb ho4))
 go_loopg [5, 6] k (fun kq v5 v6 w' => ∃ (x5_1 : List (S48)) (x6_1 : Int), v6 = .int .i64 x6_1 ∧ Aside0 (spec_l3Shift.l0 kq l0 a1 x5_1 x6_1 = some r) ∧ Aside0 (kq ≤ k) ∧ Aside0 (Kd.R k48 48 w' w.heap.size (fun _ => True) v5 x5_1) ∧ Aside0 (Below w.heap.size w w'))
 case atStart => exact ⟨(y187), (0), rs0, H', ⟨Nat.le_refl _⟩, ⟨by refine ra0 ?_; exact HO189.out⟩, ⟨bb0⟩⟩
 case round =>
  clear H'
  try clear p2
  obtain ⟨x5_1, x6_1, rfl, HA, HK1, HO_5, HB⟩ := hrel
  cases gk with
  | zero => exact absurd HA.out (by simp [spec_l3Shift.l0])
  | succ k1 =>
   have H := HA.out
   clear HA
   simp only [spec_l3Shift.l0] at H
   by_cases c5 : x6_1 < (l0.length : Int)
   ·rw [if_pos c5] at H
    have c5b0 : decide (x6_1 < (l0.length : Int)) = true := decide_eq_true c5
    clear c5
    by_cases c6 : 0 ≤ x6_1
    ·rw [if_pos c6] at H
     have c6b0 : decide (0 ≤ x6_1) = true := decide_eq_true c6
     clear c6
     replace H := Option.bind_eq_some_iff.mp H
     obtain ⟨t192, A70, H⟩ := H
     replace H : (if t192 > 0 then (spec_l3Shift.j1 k1 l0 a1 x5_1 x6_1 t192 ((rd_T48 l0 x6_1).f0) (wrap64 (((rd_T48 l0 x6_1).f1) + a1)) ((rd_T48 l0 x6_1).f2) ((rd_T48 l0 x6_1).f3) ((rd_T48 l0 x6_1).f4) ((rd_T48 l0 x6_1).f5) ((rd_T48 l0 x6_1).f6)) else (spec_l3Shift.j1 k1 l0 a1 x5_1 x6_1 t192 ((rd_T48 l0 x6_1).f0) ((rd_T48 l0 x6_1).f1) ((rd_T48 l0 x6_1).f2) ((rd_T48 l0 x6_1).f3) ((rd_T48 l0 x6_1).f4) ((rd_T48 l0 x6_1).f5) ((rd_T48 l0 x6_1).f6))) = some r := H
     have A7 := Aside0.mk A70
     clear A70
     have HC8 := Aside0.mk H
     clear H
     have p190 : 0 ≤ (x6_1 : Int) := of_decide_eq_true as0
     have q190 : x6_1 < (l0.length : Int) := of_decide_eq_true as0
     obtain ⟨ad190, e190, hx190_0, hx190_1, hx190_2, hx190_3, hx190_4, hx190_5, hx190_6⟩ := at_T48 HR0.out x6_1 p190 q190
     cases e190
     replace hx190_0 := (HB.out.cell (World.block_lt_of_cell? w _ hx190_0)).trans hx190_0
     replace hx190_1 := (HB.out.cell (World.block_lt_of_cell? w _ hx190_1)).trans hx190_1
     replace hx190_2 := (HB.out.cell (World.block_lt_of_cell? w _ hx190_2)).trans hx190_2
     replace hx190_3 := (HB.out.cell (World.block_lt_of_cell? w _ hx190_3)).trans hx190_3
     replace hx190_4 := (HB.out.cell (World.block_lt_of_cell? w _ hx190_4)).trans hx190_4
     replace hx190_5 := (HB.out.cell (World.block_lt_of_cell? w _ hx190_5)).trans hx190_5
     replace hx190_6 := (HB.out.cell (World.block_lt_of_cell? w _ hx190_6)).trans hx190_6
     replace p190 := eq_true p190
     replace q190 := eq_true q190
     go_upto_if 24 with (first | ((with_reducible refine gate_dst (N := 7) rfl ?_); refine box_event ?hg (N := 7) ?hd (cs := #[.int .i64 0, .int .i64 0, .int .i64 0, .int .i64 0, .int .i64 0, .string (⟨#[]⟩ : ByteArray), .string (⟨#[]⟩ : ByteArray)]) (t := 48) ?hr ?_; (case hd => rfl); (case hg => rfl); (case hr => first | (go_simp; done) | (go_simp; rfl)); intro gb191 hg w9 hbox hb; have n0_ := Aside0.mk (Kd.R_below (Kd.R_elderB (ra0 HO_5.out) gb191 (Nat.le_of_eq hg.symm)) hb); have n1_ := Aside0.mk (below_step bb0 hb); have n2_ := Aside0.mk (hbox); have n3_ := Aside0.mk ((by rw [hg]; exact (below_size bb0) : w.heap.size ≤ gb191)); have n4_ := Aside0.mk ((by rw [hg]; exact (below_size bb0) : w.heap.size ≤ gb191)); clear HO_5; clear HB; have HO_5 := n0_; have HB := n1_; have BK191 := n2_; have GW191 := n3_; have GE191 := n4_; clear n0_ n1_ n2_ n3_ n4_; clear hb hbox hg; obtain ⟨hcz10_0, hcz10_1, hcz10_2, hcz10_3, hcz10_4, hcz10_5, hcz10_6⟩ := cells7 BK191.out; obtain ⟨hfz10_0, hfz10_1, hfz10_2, hfz10_3, hfz10_4, hfz10_5, hfz10_6⟩ := frz7 BK191.out) | ((with_reducible refine gate_callee (f := 55) rfl ?_); refine goesL_ (some 22) rfl rfl Tryd.func55 (by kernel_rfl) rfl #[.int .i64 ((rd_T48 l0 x6_1).f0)] rfl mm0 ?_; (with_reducible refine (spec_Arity.calls k1 ((rd_T48 l0 x6_1).f0) t192 _ A7.out).mono ?_); rintro e w' ⟨rfl, ⟨nd, rfl⟩⟩; refine ⟨_, rfl, ?_⟩))
     (try simp only [Act.put, List.setIfInBounds_toArray, List.set_cons_zero, List.set_cons_succ])
     go_cut [] (fun wc => ∃ (kq : Nat) (x192001_7 : Int), Aside0 (spec_l3Shift.j1 kq l0 a1 x5_1 x6_1 t192 ((rd_T48 l0 x6_1).f0) x192001_7 ((rd_T48 l0 x6_1).f2) ((rd_T48 l0 x6_1).f3) ((rd_T48 l0 x6_1).f4) ((rd_T48 l0 x6_1).f5) ((rd_T48 l0 x6_1).f6) = some r) ∧ Aside0 (kq ≤ k1) ∧ Aside0 (Kd.R k48 48 wc w.heap.size (fun k_ => k_ ≠ gb191) u5 x5_1) ∧ Aside0 (wc.heap[gb191]? = some (.cells #[.int .i64 ((rd_T48 l0 x6_1).f0), .int .i64 x192001_7, .int .i64 ((rd_T48 l0 x6_1).f2), .int .i64 ((rd_T48 l0 x6_1).f3), .int .i64 ((rd_T48 l0 x6_1).f4), .string ((rd_T48 l0 x6_1).f5), .string ((rd_T48 l0 x6_1).f6)] 48 (0, 0))) ∧ Aside0 (Below w.heap.size w wc))
     case first =>
      have H := HC8.out
      clear HC8
      by_cases c11 : t192 > 0
      ·rw [if_pos c11] at H
       have c11b0 : decide (0 < t192) = true := decide_eq_true c11
       clear c11
       (first | rw [c11b0] | (simp only [i64_w, i32_w]; rw [c11b0]) | skip)
       have H' := Aside0.mk H
       clear H
       obtain ⟨hcz12_0, hcz12_1, hcz12_2, hcz12_3, hcz12_4, hcz12_5, hcz12_6⟩ := cells7 BK191.out
       obtain ⟨hfz12_0, hfz12_1, hfz12_2, hfz12_3, hfz12_4, hfz12_5, hfz12_6⟩ := frz7 BK191.out
       go_wp2
       go_meet
       case rel => exact ⟨_, (wrap64 (((rd_T48 l0 x6_1).f1) + a1)), H', ⟨by have := HK1.out; first | omega | exact Nat.le_refl _⟩, ⟨by (try simp only [setCell_drewN]); refine ra0 ?_; exact Kd.R_mono (Kd.R_far (p := ⟨gb191, 1, none⟩) (Kd.R_far (p := ⟨gb191, 6, none⟩) (Kd.R_far (p := ⟨gb191, 5, none⟩) (Kd.R_far (p := ⟨gb191, 4, none⟩) (Kd.R_far (p := ⟨gb191, 3, none⟩) (Kd.R_far (p := ⟨gb191, 2, none⟩) (Kd.R_far (p := ⟨gb191, 1, none⟩) (Kd.R_far (p := ⟨gb191, 0, none⟩) (Kd.R_mono HO_5.out (fun k_ hk => (⟨hk, hk.2⟩ : _ ∧ k_ ≠ gb191))) (fun _ hk => hk.2) (.int .i64 ((rd_T48 l0 x6_1).f0))) (fun _ hk => hk.2) (.int .i64 ((rd_T48 l0 x6_1).f1))) (fun _ hk => hk.2) (.int .i64 ((rd_T48 l0 x6_1).f2))) (fun _ hk => hk.2) (.int .i64 ((rd_T48 l0 x6_1).f3))) (fun _ hk => hk.2) (.int .i64 ((rd_T48 l0 x6_1).f4))) (fun _ hk => hk.2) (.string ((rd_T48 l0 x6_1).f5))) (fun _ hk => hk.2) (.string ((rd_T48 l0 x6_1).f6))) (fun _ hk => hk.2) (.int .i64 (wrap64 (((rd_T48 l0 x6_1).f1) + a1)))) (fun _ hk => hk.1.2)⟩, ⟨by refine bk0 ?_; refine blk_put (cs := #[.int .i64 ((rd_T48 l0 x6_1).f0), .int .i64 ((rd_T48 l0 x6_1).f1), .int .i64 ((rd_T48 l0 x6_1).f2), .int .i64 ((rd_T48 l0 x6_1).f3), .int .i64 ((rd_T48 l0 x6_1).f4), .string ((rd_T48 l0 x6_1).f5), .string ((rd_T48 l0 x6_1).f6)]) ?_ 1 _ rfl; refine bk0 ?_; refine blk_put (cs := #[.int .i64 ((rd_T48 l0 x6_1).f0), .int .i64 ((rd_T48 l0 x6_1).f1), .int .i64 ((rd_T48 l0 x6_1).f2), .int .i64 ((rd_T48 l0 x6_1).f3), .int .i64 ((rd_T48 l0 x6_1).f4), .string ((rd_T48 l0 x6_1).f5), .string (⟨#[]⟩ : ByteArray)]) ?_ 6 _ rfl; refine bk0 ?_; refine blk_put (cs := #[.int .i64 ((rd_T48 l0 x6_1).f0), .int .i64 ((rd_T48 l0 x6_1).f1), .int .i64 ((rd_T48 l0 x6_1).f2), .int .i64 ((rd_T48 l0 x6_1).f3), .int .i64 ((rd_T48 l0 x6_1).f4), .string (⟨#[]⟩ : ByteArray), .string (⟨#[]⟩ : ByteArray)]) ?_ 5 _ rfl; refine bk0 ?_; refine blk_put (cs := #[.int .i64 ((rd_T48 l0 x6_1).f0), .int .i64 ((rd_T48 l0 x6_1).f1), .int .i64 ((rd_T48 l0 x6_1).f2), .int .i64 ((rd_T48 l0 x6_1).f3), .int .i64 0, .string (⟨#[]⟩ : ByteArray), .string (⟨#[]⟩ : ByteArray)]) ?_ 4 _ rfl; refine bk0 ?_; refine blk_put (cs := #[.int .i64 ((rd_T48 l0 x6_1).f0), .int .i64 ((rd_T48 l0 x6_1).f1), .int .i64 ((rd_T48 l0 x6_1).f2), .int .i64 0, .int .i64 0, .string (⟨#[]⟩ : ByteArray), .string (⟨#[]⟩ : ByteArray)]) ?_ 3 _ rfl; refine bk0 ?_; refine blk_put (cs := #[.int .i64 ((rd_T48 l0 x6_1).f0), .int .i64 ((rd_T48 l0 x6_1).f1), .int .i64 0, .int .i64 0, .int .i64 0, .string (⟨#[]⟩ : ByteArray), .string (⟨#[]⟩ : ByteArray)]) ?_ 2 _ rfl; refine bk0 ?_; refine blk_put (cs := #[.int .i64 ((rd_T48 l0 x6_1).f0), .int .i64 0, .int .i64 0, .int .i64 0, .int .i64 0, .string (⟨#[]⟩ : ByteArray), .string (⟨#[]⟩ : ByteArray)]) ?_ 1 _ rfl; refine bk0 ?_; refine blk_put (cs := #[.int .i64 0, .int .i64 0, .int .i64 0, .int .i64 0, .int .i64 0, .string (⟨#[]⟩ : ByteArray), .string (⟨#[]⟩ : ByteArray)]) ?_ 0 _ rfl; refine bk0 ?_; exact BK191.out⟩, ⟨bb1 GE191.out⟩⟩
      ·rw [if_neg c11] at H
       have c11b0 : decide (0 < t192) = false := decide_eq_false c11
       clear c11
       (first | rw [c11b0] | (simp only [i64_w, i32_w]; rw [c11b0]) | skip)
       have H' := Aside0.mk H
       clear H
       go_wp2
       go_meet
       case rel => exact ⟨_, ((rd_T48 l0 x6_1).f1), H', ⟨by have := HK1.out; first | omega | exact Nat.le_refl _⟩, ⟨by (try simp only [setCell_drewN]); refine ra0 ?_; exact Kd.R_mono (Kd.R_far (p := ⟨gb191, 6, none⟩) (Kd.R_far (p := ⟨gb191, 5, none⟩) (Kd.R_far (p := ⟨gb191, 4, none⟩) (Kd.R_far (p := ⟨gb191, 3, none⟩) (Kd.R_far (p := ⟨gb191, 2, none⟩) (Kd.R_far (p := ⟨gb191, 1, none⟩) (Kd.R_far (p := ⟨gb191, 0, none⟩) (Kd.R_mono HO_5.out (fun k_ hk => (⟨hk, hk.2⟩ : _ ∧ k_ ≠ gb191))) (fun _ hk => hk.2) (.int .i64 ((rd_T48 l0 x6_1).f0))) (fun _ hk => hk.2) (.int .i64 ((rd_T48 l0 x6_1).f1))) (fun _ hk => hk.2) (.int .i64 ((rd_T48 l0 x6_1).f2))) (fun _ hk => hk.2) (.int .i64 ((rd_T48 l0 x6_1).f3))) (fun _ hk => hk.2) (.int .i64 ((rd_T48 l0 x6_1).f4))) (fun _ hk => hk.2) (.string ((rd_T48 l0 x6_1).f5))) (fun _ hk => hk.2) (.string ((rd_T48 l0 x6_1).f6))) (fun _ hk => hk.1.2)⟩, ⟨by refine bk0 ?_; refine blk_put (cs := #[.int .i64 ((rd_T48 l0 x6_1).f0), .int .i64 ((rd_T48 l0 x6_1).f1), .int .i64 ((rd_T48 l0 x6_1).f2), .int .i64 ((rd_T48 l0 x6_1).f3), .int .i64 ((rd_T48 l0 x6_1).f4), .string ((rd_T48 l0 x6_1).f5), .string (⟨#[]⟩ : ByteArray)]) ?_ 6 _ rfl; refine bk0 ?_; refine blk_put (cs := #[.int .i64 ((rd_T48 l0 x6_1).f0), .int .i64 ((rd_T48 l0 x6_1).f1), .int .i64 ((rd_T48 l0 x6_1).f2), .int .i64 ((rd_T48 l0 x6_1).f3), .int .i64 ((rd_T48 l0 x6_1).f4), .string (⟨#[]⟩ : ByteArray), .string (⟨#[]⟩ : ByteArray)]) ?_ 5 _ rfl; refine bk0 ?_; refine blk_put (cs := #[.int .i64 ((rd_T48 l0 x6_1).f0), .int .i64 ((rd_T48 l0 x6_1).f1), .int .i64 ((rd_T48 l0 x6_1).f2), .int .i64 ((rd_T48 l0 x6_1).f3), .int .i64 0, .string (⟨#[]⟩ : ByteArray), .string (⟨#[]⟩ : ByteArray)]) ?_ 4 _ rfl; refine bk0 ?_; refine blk_put (cs := #[.int .i64 ((rd_T48 l0 x6_1).f0), .int .i64 ((rd_T48 l0 x6_1).f1), .int .i64 ((rd_T48 l0 x6_1).f2), .int .i64 0, .int .i64 0, .string (⟨#[]⟩ : ByteArray), .string (⟨#[]⟩ : ByteArray)]) ?_ 3 _ rfl; refine bk0 ?_; refine blk_put (cs := #[.int .i64 ((rd_T48 l0 x6_1).f0), .int .i64 ((rd_T48 l0 x6_1).f1), .int .i64 0, .int .i64 0, .int .i64 0, .string (⟨#[]⟩ : ByteArray), .string (⟨#[]⟩ : ByteArray)]) ?_ 2 _ rfl; refine bk0 ?_; refine blk_put (cs := #[.int .i64 ((rd_T48 l0 x6_1).f0), .int .i64 0, .int .i64 0, .int .i64 0, .int .i64 0, .string (⟨#[]⟩ : ByteArray), .string (⟨#[]⟩ : ByteArray)]) ?_ 1 _ rfl; refine bk0 ?_; refine blk_put (cs := #[.int .i64 0, .int .i64 0, .int .i64 0, .int .i64 0, .int .i64 0, .string (⟨#[]⟩ : ByteArray), .string (⟨#[]⟩ : ByteArray)]) ?_ 0 _ rfl; refine bk0 ?_; exact BK191.out⟩, ⟨bb1 GE191.out⟩⟩
     case rest =>
      clear HC8
      try clear c1
      try clear p1
      try clear q1
      try clear hx1
      try clear p2
      try clear c5
      try clear c5b0
      try clear c6
      try clear c6b0
      try clear p6
      try clear c11
      try clear c11b0
      try clear hcz10_0
      try clear hcz10_1
      try clear hcz10_2
      try clear hcz10_3
      try clear hcz10_4
      try clear hcz10_5
      try clear hcz10_6
      try clear hcz12_0
      try clear hcz12_1
      try clear hcz12_2
      try clear hcz12_3
      try clear hcz12_4
      try clear hcz12_5
      try clear hcz12_6
      try clear hfz10_0
      try clear hfz10_1
      try clear hfz10_2
      try clear hfz10_3
      try clear hfz10_4
      try clear hfz10_5
      try clear hfz10_6
      try clear hfz12_0
      try clear hfz12_1
      try clear hfz12_2
      try clear hfz12_3
      try clear hfz12_4
      try clear hfz12_5
      try clear hfz12_6
      try clear hx190_0
      try clear hx190_1
      try clear hx190_2
      try clear hx190_3
      try clear hx190_4
      try clear hx190_5
      try clear hx190_6
      try clear p190
      try clear p2
      try clear q190
      obtain ⟨kq, x192001_7, HA, HJ7, HO_5, BK191, HB⟩ := hcut
      cases kq with
      | zero => exact absurd HA.out (by simp [spec_l3Shift.j1])
      | succ kj7 =>
       have H := HA.out
       clear HA
       simp only [spec_l3Shift.j1] at H
       by_cases c13 : t192 > 1
       ·rw [if_pos c13] at H
        have c13b0 : decide (1 < t192) = true := decide_eq_true c13
        clear c13
        by_cases c14 : t192 > 2
        ·rw [if_pos c14] at H
         have c14b0 : decide (2 < t192) = true := decide_eq_true c14
         clear c14
         by_cases c15 : x5_1.length < 1954687338268
         ·rw [if_pos c15] at H
          have LMc15 := Aside0.mk c15
          clear c15
          obtain ⟨y193, hy193⟩ : ∃ y_ : List (S48), y_ = (x5_1 ++ [(⟨((rd_T48 l0 x6_1).f0), x192001_7, wrap64 (((rd_T48 l0 x6_1).f2) + a1), wrap64 (((rd_T48 l0 x6_1).f3) + a1), ((rd_T48 l0 x6_1).f4), ((rd_T48 l0 x6_1).f5), ((rd_T48 l0 x6_1).f6)⟩ : S48)]) := ⟨_, rfl⟩
          replace H : (spec_l3Shift.l0 kj7 l0 a1 y193 (wrap64 (x6_1 + 1))) = some r := by first | (rw [hy193]; with_reducible exact H) | (have H2_ := (Option.bind_some _ _).symm.trans H; rw [hy193]; with_reducible exact H2_) | (have H2_ := (Option.bind_some _ _).symm.trans H; with_reducible exact H2_) | with_reducible exact H | (rw [hy193]; exact H) | exact H
          have Ny193 := Aside0.mk hy193
          clear hy193
          have H' := Aside0.mk H
          clear H
          obtain ⟨hcz16_0, hcz16_1, hcz16_2, hcz16_3, hcz16_4, hcz16_5, hcz16_6⟩ := cells7 BK191.out
          obtain ⟨hfz16_0, hfz16_1, hfz16_2, hfz16_3, hfz16_4, hfz16_5, hfz16_6⟩ := frz7 BK191.out
          go_wp2_with (first | ((with_reducible refine gate_builtin (b := .append) (xs := #[(.tmp 44), .tmp 46]) rfl ?_); at_builtin; refine Kd.R_append k48 (w0 := w) w.heap.size rfl (.tmp 44) (.tmp 46) 25 48 (.agg #[(.int .i64 0), (.int .i64 0), (.int .i64 0), (.int .i64 0), (.int .i64 0), (.string ⟨#[]⟩), (.string ⟨#[]⟩)]) 72 rfl Tryd.underlying25 info48 rfl (by decide) (by omega) u5 x5_1 (⟨((rd_T48 l0 x6_1).f0), x192001_7, wrap64 (((rd_T48 l0 x6_1).f2) + a1), wrap64 (((rd_T48 l0 x6_1).f3) + a1), ((rd_T48 l0 x6_1).f4), ((rd_T48 l0 x6_1).f5), ((rd_T48 l0 x6_1).f6)⟩ : S48) [.int .i64 ((rd_T48 l0 x6_1).f0), .int .i64 x192001_7, .int .i64 (wrap64 (((rd_T48 l0 x6_1).f2) + a1)), .int .i64 (wrap64 (((rd_T48 l0 x6_1).f3) + a1)), .int .i64 ((rd_T48 l0 x6_1).f4), .string ((rd_T48 l0 x6_1).f5), .string ((rd_T48 l0 x6_1).f6)] (fun k_ => k_ ≠ gb191) (fun _ => False) rfl (by first | (go_simp; done) | (go_simp; rfl)) ?aP (fun _ hk => hk.elim) ?aF ?aO ?aB ?aS ?aL ?_; (case aP => exact k48_mkM _ _ _ (⟨((rd_T48 l0 x6_1).f0), x192001_7, wrap64 (((rd_T48 l0 x6_1).f2) + a1), wrap64 (((rd_T48 l0 x6_1).f3) + a1), ((rd_T48 l0 x6_1).f4), ((rd_T48 l0 x6_1).f5), ((rd_T48 l0 x6_1).f6)⟩ : S48)); (case aB => exact (bb1 GE191.out)); (case aF => exact (fun k_ hk => Kd.freshB (g := gb191) (o := .cells #[.int .i64 ((rd_T48 l0 x6_1).f0), .int .i64 x192001_7, .int .i64 (wrap64 (((rd_T48 l0 x6_1).f2) + a1)), .int .i64 (wrap64 (((rd_T48 l0 x6_1).f3) + a1)), .int .i64 ((rd_T48 l0 x6_1).f4), .string ((rd_T48 l0 x6_1).f5), .string ((rd_T48 l0 x6_1).f6)] 48 (0, 0)) (by refine bk0 ?_; refine blk_put (cs := #[.int .i64 ((rd_T48 l0 x6_1).f0), .int .i64 x192001_7, .int .i64 (wrap64 (((rd_T48 l0 x6_1).f2) + a1)), .int .i64 ((rd_T48 l0 x6_1).f3), .int .i64 ((rd_T48 l0 x6_1).f4), .string ((rd_T48 l0 x6_1).f5), .string ((rd_T48 l0 x6_1).f6)]) ?_ 3 _ rfl; refine bk0 ?_; refine blk_put (cs := #[.int .i64 ((rd_T48 l0 x6_1).f0), .int .i64 x192001_7, .int .i64 ((rd_T48 l0 x6_1).f2), .int .i64 ((rd_T48 l0 x6_1).f3), .int .i64 ((rd_T48 l0 x6_1).f4), .string ((rd_T48 l0 x6_1).f5), .string ((rd_T48 l0 x6_1).f6)]) ?_ 2 _ rfl; refine bk0 ?_; exact BK191.out) k_ hk)); (case aO => exact (by (try simp only [setCell_drewN]); refine ra0 ?_; exact Kd.R_mono (Kd.R_far (p := ⟨gb191, 3, none⟩) (Kd.R_far (p := ⟨gb191, 2, none⟩) (Kd.R_mono HO_5.out (fun k_ hk => (⟨hk, hk⟩ : _ ∧ k_ ≠ gb191))) (fun _ hk => hk.2) (.int .i64 (wrap64 (((rd_T48 l0 x6_1).f2) + a1)))) (fun _ hk => hk.2) (.int .i64 (wrap64 (((rd_T48 l0 x6_1).f3) + a1)))) (fun _ hk => hk.1))); (case aS => exact (below_size (bb1 GE191.out))); (case aL => have := LMc15.out; omega); intro v194 w17 ho hb hg hat; rw [← Ny193.out] at ho; have n0_ := Aside0.mk (blk_grown (g := gb191) (o := .cells #[.int .i64 ((rd_T48 l0 x6_1).f0), .int .i64 x192001_7, .int .i64 (wrap64 (((rd_T48 l0 x6_1).f2) + a1)), .int .i64 (wrap64 (((rd_T48 l0 x6_1).f3) + a1)), .int .i64 ((rd_T48 l0 x6_1).f4), .string ((rd_T48 l0 x6_1).f5), .string ((rd_T48 l0 x6_1).f6)] 48 (0, 0)) (by refine bk0 ?_; refine blk_put (cs := #[.int .i64 ((rd_T48 l0 x6_1).f0), .int .i64 x192001_7, .int .i64 (wrap64 (((rd_T48 l0 x6_1).f2) + a1)), .int .i64 ((rd_T48 l0 x6_1).f3), .int .i64 ((rd_T48 l0 x6_1).f4), .string ((rd_T48 l0 x6_1).f5), .string ((rd_T48 l0 x6_1).f6)]) ?_ 3 _ rfl; refine bk0 ?_; refine blk_put (cs := #[.int .i64 ((rd_T48 l0 x6_1).f0), .int .i64 x192001_7, .int .i64 ((rd_T48 l0 x6_1).f2), .int .i64 ((rd_T48 l0 x6_1).f3), .int .i64 ((rd_T48 l0 x6_1).f4), .string ((rd_T48 l0 x6_1).f5), .string ((rd_T48 l0 x6_1).f6)]) ?_ 2 _ rfl; refine bk0 ?_; exact BK191.out) hg (Kd.R_away HO_5.out (fun _ hk => hk))); have n1_ := Aside0.mk (hb); have n2_ := Aside0.mk (ho); clear BK191; clear HB; clear HO_5; have BK191 := n0_; have HB := n1_; have HO195 := n2_; clear n0_ n1_ n2_; clear ho hb hg hat))
          go_roundg kj7
          case measure => have := HK1.out; have := HJ7.out; omega
          case rel => exact ⟨(y193), (wrap64 (x6_1 + 1)), rs0, H', ⟨by have := HK1.out; have := HJ7.out; omega⟩, ⟨by refine ra0 ?_; exact Kd.R_mono HO195.out (fun _ hk => trivial)⟩, ⟨bb1 GE191.out⟩⟩
         ·rw [if_neg c15] at H
          exact absurd H (by simp)
        ·rw [if_neg c14] at H
         have c14b0 : decide (2 < t192) = false := decide_eq_false c14
         clear c14
         by_cases c18 : x5_1.length < 1954687338268
         ·rw [if_pos c18] at H
          have LMc18 := Aside0.mk c18
          clear c18
          obtain ⟨y196, hy196⟩ : ∃ y_ : List (S48), y_ = (x5_1 ++ [(⟨((rd_T48 l0 x6_1).f0), x192001_7, wrap64 (((rd_T48 l0 x6_1).f2) + a1), ((rd_T48 l0 x6_1).f3), ((rd_T48 l0 x6_1).f4), ((rd_T48 l0 x6_1).f5), ((rd_T48 l0 x6_1).f6)⟩ : S48)]) := ⟨_, rfl⟩
          replace H : (spec_l3Shift.l0 kj7 l0 a1 y196 (wrap64 (x6_1 + 1))) = some r := by first | (rw [hy196]; with_reducible exact H) | (have H2_ := (Option.bind_some _ _).symm.trans H; rw [hy196]; with_reducible exact H2_) | (have H2_ := (Option.bind_some _ _).symm.trans H; with_reducible exact H2_) | with_reducible exact H | (rw [hy196]; exact H) | exact H
          have Ny196 := Aside0.mk hy196
          clear hy196
          have H' := Aside0.mk H
          clear H
          obtain ⟨hcz19_0, hcz19_1, hcz19_2, hcz19_3, hcz19_4, hcz19_5, hcz19_6⟩ := cells7 BK191.out
          obtain ⟨hfz19_0, hfz19_1, hfz19_2, hfz19_3, hfz19_4, hfz19_5, hfz19_6⟩ := frz7 BK191.out
          go_wp2_with (first | ((with_reducible refine gate_builtin (b := .append) (xs := #[(.tmp 44), .tmp 46]) rfl ?_); at_builtin; refine Kd.R_append k48 (w0 := w) w.heap.size rfl (.tmp 44) (.tmp 46) 25 48 (.agg #[(.int .i64 0), (.int .i64 0), (.int .i64 0), (.int .i64 0), (.int .i64 0), (.string ⟨#[]⟩), (.string ⟨#[]⟩)]) 72 rfl Tryd.underlying25 info48 rfl (by decide) (by omega) u5 x5_1 (⟨((rd_T48 l0 x6_1).f0), x192001_7, wrap64 (((rd_T48 l0 x6_1).f2) + a1), ((rd_T48 l0 x6_1).f3), ((rd_T48 l0 x6_1).f4), ((rd_T48 l0 x6_1).f5), ((rd_T48 l0 x6_1).f6)⟩ : S48) [.int .i64 ((rd_T48 l0 x6_1).f0), .int .i64 x192001_7, .int .i64 (wrap64 (((rd_T48 l0 x6_1).f2) + a1)), .int .i64 ((rd_T48 l0 x6_1).f3), .int .i64 ((rd_T48 l0 x6_1).f4), .string ((rd_T48 l0 x6_1).f5), .string ((rd_T48 l0 x6_1).f6)] (fun k_ => k_ ≠ gb191) (fun _ => False) rfl (by first | (go_simp; done) | (go_simp; rfl)) ?aP (fun _ hk => hk.elim) ?aF ?aO ?aB ?aS ?aL ?_; (case aP => exact k48_mkM _ _ _ (⟨((rd_T48 l0 x6_1).f0), x192001_7, wrap64 (((rd_T48 l0 x6_1).f2) + a1), ((rd_T48 l0 x6_1).f3), ((rd_T48 l0 x6_1).f4), ((rd_T48 l0 x6_1).f5), ((rd_T48 l0 x6_1).f6)⟩ : S48)); (case aB => exact (bb1 GE191.out)); (case aF => exact (fun k_ hk => Kd.freshB (g := gb191) (o := .cells #[.int .i64 ((rd_T48 l0 x6_1).f0), .int .i64 x192001_7, .int .i64 (wrap64 (((rd_T48 l0 x6_1).f2) + a1)), .int .i64 ((rd_T48 l0 x6_1).f3), .int .i64 ((rd_T48 l0 x6_1).f4), .string ((rd_T48 l0 x6_1).f5), .string ((rd_T48 l0 x6_1).f6)] 48 (0, 0)) (by refine bk0 ?_; refine blk_put (cs := #[.int .i64 ((rd_T48 l0 x6_1).f0), .int .i64 x192001_7, .int .i64 ((rd_T48 l0 x6_1).f2), .int .i64 ((rd_T48 l0 x6_1).f3), .int .i64 ((rd_T48 l0 x6_1).f4), .string ((rd_T48 l0 x6_1).f5), .string ((rd_T48 l0 x6_1).f6)]) ?_ 2 _ rfl; refine bk0 ?_; exact BK191.out) k_ hk)); (case aO => exact (by (try simp only [setCell_drewN]); refine ra0 ?_; exact Kd.R_mono (Kd.R_far (p := ⟨gb191, 2, none⟩) (Kd.R_mono HO_5.out (fun k_ hk => (⟨hk, hk⟩ : _ ∧ k_ ≠ gb191))) (fun _ hk => hk.2) (.int .i64 (wrap64 (((rd_T48 l0 x6_1).f2) + a1)))) (fun _ hk => hk.1))); (case aS => exact (below_size (bb1 GE191.out))); (case aL => have := LMc18.out; omega); intro v197 w20 ho hb hg hat; rw [← Ny196.out] at ho; have n0_ := Aside0.mk (blk_grown (g := gb191) (o := .cells #[.int .i64 ((rd_T48 l0 x6_1).f0), .int .i64 x192001_7, .int .i64 (wrap64 (((rd_T48 l0 x6_1).f2) + a1)), .int .i64 ((rd_T48 l0 x6_1).f3), .int .i64 ((rd_T48 l0 x6_1).f4), .string ((rd_T48 l0 x6_1).f5), .string ((rd_T48 l0 x6_1).f6)] 48 (0, 0)) (by refine bk0 ?_; refine blk_put (cs := #[.int .i64 ((rd_T48 l0 x6_1).f0), .int .i64 x192001_7, .int .i64 ((rd_T48 l0 x6_1).f2), .int .i64 ((rd_T48 l0 x6_1).f3), .int .i64 ((rd_T48 l0 x6_1).f4), .string ((rd_T48 l0 x6_1).f5), .string ((rd_T48 l0 x6_1).f6)]) ?_ 2 _ rfl; refine bk0 ?_; exact BK191.out) hg (Kd.R_away HO_5.out (fun _ hk => hk))); have n1_ := Aside0.mk (hb); have n2_ := Aside0.mk (ho); clear BK191; clear HB; clear HO_5; have BK191 := n0_; have HB := n1_; have HO198 := n2_; clear n0_ n1_ n2_; clear ho hb hg hat))
          go_roundg kj7
          case measure => have := HK1.out; have := HJ7.out; omega
          case rel => exact ⟨(y196), (wrap64 (x6_1 + 1)), rs0, H', ⟨by have := HK1.out; have := HJ7.out; omega⟩, ⟨by refine ra0 ?_; exact Kd.R_mono HO198.out (fun _ hk => trivial)⟩, ⟨bb1 GE191.out⟩⟩
         ·rw [if_neg c18] at H
          exact absurd H (by simp)
       ·rw [if_neg c13] at H
        have c13b0 : decide (1 < t192) = false := decide_eq_false c13
        clear c13
        by_cases c21 : t192 > 2
        ·rw [if_pos c21] at H
         have c21b0 : decide (2 < t192) = true := decide_eq_true c21
         clear c21
         by_cases c22 : x5_1.length < 1954687338268
         ·rw [if_pos c22] at H
          have LMc22 := Aside0.mk c22
          clear c22
          obtain ⟨y199, hy199⟩ : ∃ y_ : List (S48), y_ = (x5_1 ++ [(⟨((rd_T48 l0 x6_1).f0), x192001_7, ((rd_T48 l0 x6_1).f2), wrap64 (((rd_T48 l0 x6_1).f3) + a1), ((rd_T48 l0 x6_1).f4), ((rd_T48 l0 x6_1).f5), ((rd_T48 l0 x6_1).f6)⟩ : S48)]) := ⟨_, rfl⟩
          replace H : (spec_l3Shift.l0 kj7 l0 a1 y199 (wrap64 (x6_1 + 1))) = some r := by first | (rw [hy199]; with_reducible exact H) | (have H2_ := (Option.bind_some _ _).symm.trans H; rw [hy199]; with_reducible exact H2_) | (have H2_ := (Option.bind_some _ _).symm.trans H; with_reducible exact H2_) | with_reducible exact H | (rw [hy199]; exact H) | exact H
          have Ny199 := Aside0.mk hy199
          clear hy199
          have H' := Aside0.mk H
          clear H
          obtain ⟨hcz23_0, hcz23_1, hcz23_2, hcz23_3, hcz23_4, hcz23_5, hcz23_6⟩ := cells7 BK191.out
          obtain ⟨hfz23_0, hfz23_1, hfz23_2, hfz23_3, hfz23_4, hfz23_5, hfz23_6⟩ := frz7 BK191.out
          go_wp2_with (first | ((with_reducible refine gate_builtin (b := .append) (xs := #[(.tmp 44), .tmp 46]) rfl ?_); at_builtin; refine Kd.R_append k48 (w0 := w) w.heap.size rfl (.tmp 44) (.tmp 46) 25 48 (.agg #[(.int .i64 0), (.int .i64 0), (.int .i64 0), (.int .i64 0), (.int .i64 0), (.string ⟨#[]⟩), (.string ⟨#[]⟩)]) 72 rfl Tryd.underlying25 info48 rfl (by decide) (by omega) u5 x5_1 (⟨((rd_T48 l0 x6_1).f0), x192001_7, ((rd_T48 l0 x6_1).f2), wrap64 (((rd_T48 l0 x6_1).f3) + a1), ((rd_T48 l0 x6_1).f4), ((rd_T48 l0 x6_1).f5), ((rd_T48 l0 x6_1).f6)⟩ : S48) [.int .i64 ((rd_T48 l0 x6_1).f0), .int .i64 x192001_7, .int .i64 ((rd_T48 l0 x6_1).f2), .int .i64 (wrap64 (((rd_T48 l0 x6_1).f3) + a1)), .int .i64 ((rd_T48 l0 x6_1).f4), .string ((rd_T48 l0 x6_1).f5), .string ((rd_T48 l0 x6_1).f6)] (fun k_ => k_ ≠ gb191) (fun _ => False) rfl (by first | (go_simp; done) | (go_simp; rfl)) ?aP (fun _ hk => hk.elim) ?aF ?aO ?aB ?aS ?aL ?_; (case aP => exact k48_mkM _ _ _ (⟨((rd_T48 l0 x6_1).f0), x192001_7, ((rd_T48 l0 x6_1).f2), wrap64 (((rd_T48 l0 x6_1).f3) + a1), ((rd_T48 l0 x6_1).f4), ((rd_T48 l0 x6_1).f5), ((rd_T48 l0 x6_1).f6)⟩ : S48)); (case aB => exact (bb1 GE191.out)); (case aF => exact (fun k_ hk => Kd.freshB (g := gb191) (o := .cells #[.int .i64 ((rd_T48 l0 x6_1).f0), .int .i64 x192001_7, .int .i64 ((rd_T48 l0 x6_1).f2), .int .i64 (wrap64 (((rd_T48 l0 x6_1).f3) + a1)), .int .i64 ((rd_T48 l0 x6_1).f4), .string ((rd_T48 l0 x6_1).f5), .string ((rd_T48 l0 x6_1).f6)] 48 (0, 0)) (by refine bk0 ?_; refine blk_put (cs := #[.int .i64 ((rd_T48 l0 x6_1).f0), .int .i64 x192001_7, .int .i64 ((rd_T48 l0 x6_1).f2), .int .i64 ((rd_T48 l0 x6_1).f3), .int .i64 ((rd_T48 l0 x6_1).f4), .string ((rd_T48 l0 x6_1).f5), .string ((rd_T48 l0 x6_1).f6)]) ?_ 3 _ rfl; refine bk0 ?_; exact BK191.out) k_ hk)); (case aO => exact (by (try simp only [setCell_drewN]); refine ra0 ?_; exact Kd.R_mono (Kd.R_far (p := ⟨gb191, 3, none⟩) (Kd.R_mono HO_5.out (fun k_ hk => (⟨hk, hk⟩ : _ ∧ k_ ≠ gb191))) (fun _ hk => hk.2) (.int .i64 (wrap64 (((rd_T48 l0 x6_1).f3) + a1)))) (fun _ hk => hk.1))); (case aS => exact (below_size (bb1 GE191.out))); (case aL => have := LMc22.out; omega); intro v200 w24 ho hb hg hat; rw [← Ny199.out] at ho; have n0_ := Aside0.mk (blk_grown (g := gb191) (o := .cells #[.int .i64 ((rd_T48 l0 x6_1).f0), .int .i64 x192001_7, .int .i64 ((rd_T48 l0 x6_1).f2), .int .i64 (wrap64 (((rd_T48 l0 x6_1).f3) + a1)), .int .i64 ((rd_T48 l0 x6_1).f4), .string ((rd_T48 l0 x6_1).f5), .string ((rd_T48 l0 x6_1).f6)] 48 (0, 0)) (by refine bk0 ?_; refine blk_put (cs := #[.int .i64 ((rd_T48 l0 x6_1).f0), .int .i64 x192001_7, .int .i64 ((rd_T48 l0 x6_1).f2), .int .i64 ((rd_T48 l0 x6_1).f3), .int .i64 ((rd_T48 l0 x6_1).f4), .string ((rd_T48 l0 x6_1).f5), .string ((rd_T48 l0 x6_1).f6)]) ?_ 3 _ rfl; refine bk0 ?_; exact BK191.out) hg (Kd.R_away HO_5.out (fun _ hk => hk))); have n1_ := Aside0.mk (hb); have n2_ := Aside0.mk (ho); clear BK191; clear HB; clear HO_5; have BK191 := n0_; have HB := n1_; have HO201 := n2_; clear n0_ n1_ n2_; clear ho hb hg hat))
          go_roundg kj7
          case measure => have := HK1.out; have := HJ7.out; omega
          case rel => exact ⟨(y199), (wrap64 (x6_1 + 1)), rs0, H', ⟨by have := HK1.out; have := HJ7.out; omega⟩, ⟨by refine ra0 ?_; exact Kd.R_mono HO201.out (fun _ hk => trivial)⟩, ⟨bb1 GE191.out⟩⟩
         ·rw [if_neg c22] at H
          exact absurd H (by simp)
        ·rw [if_neg c21] at H
         have c21b0 : decide (2 < t192) = false := decide_eq_false c21
         clear c21
         by_cases c25 : x5_1.length < 1954687338268
         ·rw [if_pos c25] at H
          have LMc25 := Aside0.mk c25
          clear c25
          obtain ⟨y202, hy202⟩ : ∃ y_ : List (S48), y_ = (x5_1 ++ [(⟨((rd_T48 l0 x6_1).f0), x192001_7, ((rd_T48 l0 x6_1).f2), ((rd_T48 l0 x6_1).f3), ((rd_T48 l0 x6_1).f4), ((rd_T48 l0 x6_1).f5), ((rd_T48 l0 x6_1).f6)⟩ : S48)]) := ⟨_, rfl⟩
          replace H : (spec_l3Shift.l0 kj7 l0 a1 y202 (wrap64 (x6_1 + 1))) = some r := by first | (rw [hy202]; with_reducible exact H) | (have H2_ := (Option.bind_some _ _).symm.trans H; rw [hy202]; with_reducible exact H2_) | (have H2_ := (Option.bind_some _ _).symm.trans H; with_reducible exact H2_) | with_reducible exact H | (rw [hy202]; exact H) | exact H
          have Ny202 := Aside0.mk hy202
          clear hy202
          have H' := Aside0.mk H
          clear H
          obtain ⟨hcz26_0, hcz26_1, hcz26_2, hcz26_3, hcz26_4, hcz26_5, hcz26_6⟩ := cells7 BK191.out
          obtain ⟨hfz26_0, hfz26_1, hfz26_2, hfz26_3, hfz26_4, hfz26_5, hfz26_6⟩ := frz7 BK191.out
          go_wp2_with (first | ((with_reducible refine gate_builtin (b := .append) (xs := #[(.tmp 44), .tmp 46]) rfl ?_); at_builtin; refine Kd.R_append k48 (w0 := w) w.heap.size rfl (.tmp 44) (.tmp 46) 25 48 (.agg #[(.int .i64 0), (.int .i64 0), (.int .i64 0), (.int .i64 0), (.int .i64 0), (.string ⟨#[]⟩), (.string ⟨#[]⟩)]) 72 rfl Tryd.underlying25 info48 rfl (by decide) (by omega) u5 x5_1 (⟨((rd_T48 l0 x6_1).f0), x192001_7, ((rd_T48 l0 x6_1).f2), ((rd_T48 l0 x6_1).f3), ((rd_T48 l0 x6_1).f4), ((rd_T48 l0 x6_1).f5), ((rd_T48 l0 x6_1).f6)⟩ : S48) [.int .i64 ((rd_T48 l0 x6_1).f0), .int .i64 x192001_7, .int .i64 ((rd_T48 l0 x6_1).f2), .int .i64 ((rd_T48 l0 x6_1).f3), .int .i64 ((rd_T48 l0 x6_1).f4), .string ((rd_T48 l0 x6_1).f5), .string ((rd_T48 l0 x6_1).f6)] (fun k_ => k_ ≠ gb191) (fun _ => False) rfl rfl ?aP (fun _ hk => hk.elim) ?aF ?aO ?aB ?aS ?aL ?_; (case aP => exact k48_mkM _ _ _ (⟨((rd_T48 l0 x6_1).f0), x192001_7, ((rd_T48 l0 x6_1).f2), ((rd_T48 l0 x6_1).f3), ((rd_T48 l0 x6_1).f4), ((rd_T48 l0 x6_1).f5), ((rd_T48 l0 x6_1).f6)⟩ : S48)); (case aB => exact (bb1 GE191.out)); (case aF => exact (fun k_ hk => Kd.freshB (g := gb191) (o := .cells #[.int .i64 ((rd_T48 l0 x6_1).f0), .int .i64 x192001_7, .int .i64 ((rd_T48 l0 x6_1).f2), .int .i64 ((rd_T48 l0 x6_1).f3), .int .i64 ((rd_T48 l0 x6_1).f4), .string ((rd_T48 l0 x6_1).f5), .string ((rd_T48 l0 x6_1).f6)] 48 (0, 0)) (bk0 BK191.out) k_ hk)); (case aO => exact (ra0 HO_5.out)); (case aS => exact (below_size (bb1 GE191.out))); (case aL => have := LMc25.out; omega); intro v203 w27 ho hb hg hat; rw [← Ny202.out] at ho; have n0_ := Aside0.mk (blk_grown (g := gb191) (o := .cells #[.int .i64 ((rd_T48 l0 x6_1).f0), .int .i64 x192001_7, .int .i64 ((rd_T48 l0 x6_1).f2), .int .i64 ((rd_T48 l0 x6_1).f3), .int .i64 ((rd_T48 l0 x6_1).f4), .string ((rd_T48 l0 x6_1).f5), .string ((rd_T48 l0 x6_1).f6)] 48 (0, 0)) (bk0 BK191.out) hg (Kd.R_away HO_5.out (fun _ hk => hk))); have n1_ := Aside0.mk (hb); have n2_ := Aside0.mk (ho); clear BK191; clear HB; clear HO_5; have BK191 := n0_; have HB := n1_; have HO204 := n2_; clear n0_ n1_ n2_; clear ho hb hg hat))
          go_roundg kj7
          case measure => have := HK1.out; have := HJ7.out; omega
          case rel => exact ⟨(y202), (wrap64 (x6_1 + 1)), rs0, H', ⟨by have := HK1.out; have := HJ7.out; omega⟩, ⟨by refine ra0 ?_; exact Kd.R_mono HO204.out (fun _ hk => trivial)⟩, ⟨bb1 GE191.out⟩⟩
         ·rw [if_neg c25] at H
          exact absurd H (by simp)
    ·rw [if_neg c6] at H
     exact absurd H (by simp)
   ·rw [if_neg c5] at H
    have c5b0 : decide (x6_1 < (l0.length : Int)) = false := decide_eq_false c5
    clear c5
    obtain rfl := Option.some.inj H
    go_wp2
    go_ret
    exact ⟨_, er0, by refine ra0 ?_; exact HO_5.out, bb0⟩

/-! ### spec_l3Make: function 50 -/
def spec_l3Make.l0 : Nat → List (List (S48)) → List (S48) → Int → Int → Int → Int → Int → Int → ByteArray → ByteArray → Option ((List (S48)))
 | 0, _, _, _, _, _, _, _, _, _, _ => none
 | k + 1, x1, x5, x6, x206000, x206001, x206002, x206003, x206004, x206005, x206006 => if x6 < (x1.length : Int) then (if 0 ≤ x6 then ((spec_l3Shift.f k (rd_L4 x1 x6) (x5.length : Int)).bind fun t213 => (if x5.length + t213.length < 1954687338268 then ((some (x5 ++ t213 : List (S48))).bind fun y216 => (if x6 = 0 then (spec_l3Make.l0 k x1 y216 (wrap64 (x6 + 1)) x206000 (wrap64 ((y216.length : Int) - 1)) x206002 x206003 x206004 x206005 x206006) else (if x6 = 1 then (spec_l3Make.l0 k x1 y216 (wrap64 (x6 + 1)) x206000 x206001 (wrap64 ((y216.length : Int) - 1)) x206003 x206004 x206005 x206006) else (spec_l3Make.l0 k x1 y216 (wrap64 (x6 + 1)) x206000 x206001 x206002 (wrap64 ((y216.length : Int) - 1)) x206004 x206005 x206006)))) else (none))) else (none)) else (if x5.length < 1954687338268 then (some (x5 ++ [(⟨x206000, x206001, x206002, x206003, x206004, x206005, x206006⟩ : S48)])) else (none))
def spec_l3Make.f (k : Nat) (a0_0 : Int) (a0_1 : Int) (a0_2 : Int) (a0_3 : Int) (a0_4 : Int) (a0_5 : ByteArray) (a0_6 : ByteArray) (l1 : List (List (S48))) : Option ((List (S48))) := spec_l3Make.l0 k l1 (([] : List (S48))) 0 a0_0 a0_1 a0_2 a0_3 a0_4 a0_5 a0_6
theorem spec_l3Make.mono_l : ∀ k, (∀ y0 y1 y2 y3 y4 y5 y6 y7 y8 y9, LeO (spec_l3Make.l0 k y0 y1 y2 y3 y4 y5 y6 y7 y8 y9) (spec_l3Make.l0 (k + 1) y0 y1 y2 y3 y4 y5 y6 y7 y8 y9))
 | 0 => fun _ _ _ _ _ _ _ _ _ _ r h => by simp [spec_l3Make.l0] at h
 | k + 1 => by
  have ih0 := spec_l3Make.mono_l k
  ·intro y0 y1 y2 y3 y4 y5 y6 y7 y8 y9
   unfold spec_l3Make.l0
   repeat' first
   | (with_reducible exact ih0 _ _ _ _ _ _ _ _ _ _)
   | (with_reducible exact spec_l3Shift.mono _ _ _)
   | (with_reducible exact LeO.refl _)
   | (with_reducible exact LeO.none _)
   | (with_reducible refine LeO.ite ?_ ?_)
   | (with_reducible refine LeO.bind ?_ (fun _ => ?_))
   | exact ih0 _ _ _ _ _ _ _ _ _ _
   | exact spec_l3Shift.mono _ _ _
   | exact LeO.none _
   | refine LeO.ite ?_ ?_
   | refine LeO.bind ?_ (fun _ => ?_)
theorem spec_l3Make.mono : ∀ a0 a1 a2 a3 a4 a5 a6 a7 k, LeO (spec_l3Make.f k a0 a1 a2 a3 a4 a5 a6 a7) (spec_l3Make.f (k + 1) a0 a1 a2 a3 a4 a5 a6 a7) := by
 intro a0 a1 a2 a3 a4 a5 a6 a7 k
 have ih0 := spec_l3Make.mono_l k
 unfold spec_l3Make.f
 repeat' first
   | (with_reducible exact ih0 _ _ _ _ _ _ _ _ _ _)
   | (with_reducible exact spec_l3Shift.mono _ _ _)
   | (with_reducible exact LeO.refl _)
   | (with_reducible exact LeO.none _)
   | (with_reducible refine LeO.ite ?_ ?_)
   | (with_reducible refine LeO.bind ?_ (fun _ => ?_))
   | exact ih0 _ _ _ _ _ _ _ _ _ _
   | exact spec_l3Shift.mono _ _ _
   | exact LeO.none _
   | refine LeO.ite ?_ ?_
   | refine LeO.bind ?_ (fun _ => ?_)
set_option maxHeartbeats 8000000 in
set_option maxRecDepth 100000 in
theorem spec_l3Make.calls (k : Nat) (a0_0 : Int) (a0_1 : Int) (a0_2 : Int) (a0_3 : Int) (a0_4 : Int) (a0_5 : ByteArray) (a0_6 : ByteArray) (A1 : Option Addr) (c1 : Nat) (l1 : List (List (S48))) (r : List (S48)) (w : World) (hr1 : Kd.C (Kd.slice 48 k48) w A1 l1.length l1) (hc1 : l1.length ≤ c1) (h : spec_l3Make.f k a0_0 a0_1 a0_2 a0_3 a0_4 a0_5 a0_6 l1 = some r) :
  Calls Tryd.prog 50 #[.agg #[.int .i64 a0_0, .int .i64 a0_1, .int .i64 a0_2, .int .i64 a0_3, .int .i64 a0_4, .string a0_5, .string a0_6], .slice A1 l1.length c1] w fun e w' => ∃ v0_ : Value, e = .returned (v0_) ∧ Kd.R k48 48 w' w.heap.size (fun _ => True) v0_ r ∧ Below w.heap.size w w' := by
 have hu48 := Tryd.underlying48
 have HR1 := Aside0.mk hr1
 have HC1 := Aside0.mk hc1
 clear hr1 hc1
 have HB := Aside0.mk (Below.refl w.heap.size w)
 have H : (spec_l3Make.l0 k l1 (([] : List (S48))) 0 a0_0 a0_1 a0_2 a0_3 a0_4 a0_5 a0_6) = some r := h
 clear h
 obtain ⟨y206, hy206⟩ : ∃ y_ : List (S48), y_ = (([] : List (S48))) := ⟨_, rfl⟩
 replace H : (spec_l3Make.l0 k l1 y206 0 a0_0 a0_1 a0_2 a0_3 a0_4 a0_5 a0_6) = some r := by first | (rw [hy206]; with_reducible exact H) | (have H2_ := (Option.bind_some _ _).symm.trans H; rw [hy206]; with_reducible exact H2_) | (have H2_ := (Option.bind_some _ _).symm.trans H; with_reducible exact H2_) | with_reducible exact H | (rw [hy206]; exact H) | exact H
 have Ny206 := Aside0.mk hy206
 clear hy206
 have H' := Aside0.mk H
 clear H
 go_enter Tryd.func50, Tryd.ntmps50
 go_wp2_with (first | ((with_reducible refine gate_dst (N := 2) rfl ?_); refine box_event ?hg (N := 2) ?hd (cs := #[.int .i64 a0_0, .int .i64 a0_1, .int .i64 a0_2, .int .i64 a0_3, .int .i64 a0_4, .string a0_5, .string a0_6]) (t := 48) ?hr ?_; (case hd => rfl); (case hg => rfl); (case hr => first | (go_simp; done) | (go_simp; rfl)); intro gb205 hg w3 hbox hb; have n0_ := Aside0.mk (below_step bb0 hb); have n1_ := Aside0.mk (hbox); have n2_ := Aside0.mk ((by rw [hg]; exact (below_size bb0) : w.heap.size ≤ gb205)); have n3_ := Aside0.mk ((by rw [hg]; exact (below_size bb0) : w.heap.size ≤ gb205)); clear HB; have HB := n0_; have BK205 := n1_; have GW205 := n2_; have GE205 := n3_; clear n0_ n1_ n2_ n3_; clear hb hbox hg) | ((with_reducible refine gate_dst (N := 7) rfl ?_); refine Kd.R_lit k48 _ 48 ?hg (N := 7) ?hd (xs := ([] : List (S48))) (inner := []) (ok := fun _ => True) (okp := fun _ => True) ?hr ?hp (fun _ hk => hk) trivial (Below.refl _ _) (Nat.le_refl _) (by simp) ?_; (case hd => rfl); (case hg => rfl); (case hr => first | (go_simp; done) | (go_simp; rfl)); (case hp => exact (Reps.none _ _)); intro v207 w4 ho5 hb hg_ hnew_; clear hg_ hnew_; (first | rw [← Ny206.out] at ho5 | (simp only [Int.reduceToNat] at ho5; rw [← Ny206.out] at ho5)); have n0_ := Aside0.mk (Kd.R_lower (Kd.R_newB ho5 (g := gb205) (o := .cells #[.int .i64 a0_0, .int .i64 a0_1, .int .i64 a0_2, .int .i64 a0_3, .int .i64 a0_4, .string a0_5, .string a0_6] 48 (0, 0)) (bk0 BK205.out)) (below_size (bb1 GE205.out))); have n1_ := Aside0.mk (blk_below (g := gb205) (o := .cells #[.int .i64 a0_0, .int .i64 a0_1, .int .i64 a0_2, .int .i64 a0_3, .int .i64 a0_4, .string a0_5, .string a0_6] 48 (0, 0)) (bk0 BK205.out) hb); have n2_ := Aside0.mk (below_step (bb1 GE205.out) hb); clear BK205; clear HB; have HO208 := n0_; have BK205 := n1_; have HB := n2_; clear n0_ n1_ n2_; clear hb ho5))
 go_loopg [5, 6] k (fun kq v5 v6 w' => ∃ (x5_1 : List (S48)) (x6_1 : Int) (x206001_1 : Int) (x206002_1 : Int) (x206003_1 : Int), v6 = .int .i64 x6_1 ∧ Aside0 (spec_l3Make.l0 kq l1 x5_1 x6_1 a0_0 x206001_1 x206002_1 x206003_1 a0_4 a0_5 a0_6 = some r) ∧ Aside0 (kq ≤ k) ∧ Aside0 (Kd.R k48 48 w' w.heap.size (fun k_ => k_ ≠ gb205) v5 x5_1) ∧ Aside0 (w'.heap[gb205]? = some (.cells #[.int .i64 a0_0, .int .i64 x206001_1, .int .i64 x206002_1, .int .i64 x206003_1, .int .i64 a0_4, .string a0_5, .string a0_6] 48 (0, 0))) ∧ Aside0 (Below w.heap.size w w'))
 case atStart => exact ⟨(y206), (0), (a0_1), (a0_2), (a0_3), rs0, H', ⟨Nat.le_refl _⟩, ⟨by refine ra0 ?_; exact Kd.R_mono HO208.out (fun _ hk => hk.2)⟩, ⟨by refine bk0 ?_; exact BK205.out⟩, ⟨bb1 GE205.out⟩⟩
 case round =>
  clear H'
  try clear c1
  try clear p2
  try clear c5
  obtain ⟨x5_1, x6_1, x206001_1, x206002_1, x206003_1, rfl, HA, HK1, HO_5, BK205, HB⟩ := hrel
  cases gk with
  | zero => exact absurd HA.out (by simp [spec_l3Make.l0])
  | succ k1 =>
   have H := HA.out
   clear HA
   simp only [spec_l3Make.l0] at H
   by_cases c6 : x6_1 < (l1.length : Int)
   ·rw [if_pos c6] at H
    have c6b0 : decide (x6_1 < (l1.length : Int)) = true := decide_eq_true c6
    clear c6
    by_cases c7 : 0 ≤ x6_1
    ·rw [if_pos c7] at H
     have c7b0 : decide (0 ≤ x6_1) = true := decide_eq_true c7
     clear c7
     replace H := Option.bind_eq_some_iff.mp H
     obtain ⟨t213, A80, H⟩ := H
     replace H : (if x5_1.length + t213.length < 1954687338268 then ((some (x5_1 ++ t213 : List (S48))).bind fun y216 => (if x6_1 = 0 then (spec_l3Make.l0 k1 l1 y216 (wrap64 (x6_1 + 1)) a0_0 (wrap64 ((y216.length : Int) - 1)) x206002_1 x206003_1 a0_4 a0_5 a0_6) else (if x6_1 = 1 then (spec_l3Make.l0 k1 l1 y216 (wrap64 (x6_1 + 1)) a0_0 x206001_1 (wrap64 ((y216.length : Int) - 1)) x206003_1 a0_4 a0_5 a0_6) else (spec_l3Make.l0 k1 l1 y216 (wrap64 (x6_1 + 1)) a0_0 x206001_1 x206002_1 (wrap64 ((y216.length : Int) - 1)) a0_4 a0_5 a0_6)))) else (none)) = some r := H
     have A8 := Aside0.mk A80
     clear A80
     by_cases c9 : x5_1.length + t213.length < 1954687338268
     ·rw [if_pos c9] at H
      have LMc9 := Aside0.mk c9
      clear c9
      obtain ⟨y216, hy216⟩ : ∃ y_ : List (S48), y_ = (x5_1 ++ t213) := ⟨_, rfl⟩
      replace H : (if x6_1 = 0 then (spec_l3Make.l0 k1 l1 y216 (wrap64 (x6_1 + 1)) a0_0 (wrap64 ((y216.length : Int) - 1)) x206002_1 x206003_1 a0_4 a0_5 a0_6) else (if x6_1 = 1 then (spec_l3Make.l0 k1 l1 y216 (wrap64 (x6_1 + 1)) a0_0 x206001_1 (wrap64 ((y216.length : Int) - 1)) x206003_1 a0_4 a0_5 a0_6) else (spec_l3Make.l0 k1 l1 y216 (wrap64 (x6_1 + 1)) a0_0 x206001_1 x206002_1 (wrap64 ((y216.length : Int) - 1)) a0_4 a0_5 a0_6))) = some r := by first | (rw [hy216]; with_reducible exact H) | (have H2_ := (Option.bind_some _ _).symm.trans H; rw [hy216]; with_reducible exact H2_) | (have H2_ := (Option.bind_some _ _).symm.trans H; with_reducible exact H2_) | with_reducible exact H | (rw [hy216]; exact H) | exact H
      have Ny216 := Aside0.mk hy216
      clear hy216
      by_cases c10 : x6_1 = 0
      ·rw [if_pos c10] at H
       have c10b0 : (x6_1 == 0) = true := beq_iff_eq.mpr c10
       have c10b1 : (x6_1 != 0) = false := bne_eq_false_iff_eq.mpr c10
       clear c10
       have H' := Aside0.mk H
       clear H
       have p212 : 0 ≤ (x6_1 : Int) := of_decide_eq_true as0
       have q212 : x6_1 < (l1.length : Int) := of_decide_eq_true as0
       obtain ⟨ad212, A212_0, c212_0, e212, hx212_0, hl212_0, hi212_0⟩ := at_L4 HR1.out x6_1 p212 q212
       cases e212
       replace hx212_0 := (HB.out.cell (World.block_lt_of_cell? w _ hx212_0)).trans hx212_0
       have HR212_0 := Aside0.mk hi212_0
       have HC212_0 := Aside0.mk hl212_0
       clear hi212_0 hl212_0
       replace p212 := eq_true p212
       replace q212 := eq_true q212
       obtain ⟨Ao11, co11, eo11⟩ := Kd.R_slice HO_5.out
       subst eo11
       go_wp2_with (first | ((with_reducible refine gate_callee (f := 61) rfl ?_); refine goesL_ (some 21) rfl rfl Tryd.func61 (by kernel_rfl) rfl #[.slice A212_0 (rd_L4 l1 x6_1).length c212_0, .int .i64 (x5_1.length : Int)] rfl mm0 ?_; (with_reducible refine (spec_l3Shift.calls k1 _ _ (rd_L4 l1 x6_1) (x5_1.length : Int) t213 _ ?side1 ?side2 A8.out).mono ?_); (case side1 => exact cc0 (Kd.C_below HR212_0.out HB.out)); (case side2 => exact HC212_0.out); rintro e w12 ⟨v214, rfl, ho0, hb⟩; refine ⟨_, rfl, ?_⟩; have n0_ := Aside0.mk (Kd.R_elder' (ra0 HO_5.out) (Kd.R_base ho0) hb); have n1_ := Aside0.mk (Kd.R_lower (Kd.R_newB (Kd.R_new' ho0 (Kd.R_lt (ra0 HO_5.out))) (g := gb205) (o := .cells #[.int .i64 a0_0, .int .i64 x206001_1, .int .i64 x206002_1, .int .i64 x206003_1, .int .i64 a0_4, .string a0_5, .string a0_6] 48 (0, 0)) (bk0 BK205.out)) (below_size (bb1 GE205.out))); have n2_ := Aside0.mk (blk_below (g := gb205) (o := .cells #[.int .i64 a0_0, .int .i64 x206001_1, .int .i64 x206002_1, .int .i64 x206003_1, .int .i64 a0_4, .string a0_5, .string a0_6] 48 (0, 0)) (bk0 BK205.out) hb); have n3_ := Aside0.mk (below_step (bb1 GE205.out) hb); clear HO_5; clear BK205; clear HB; have HO_5 := n0_; have HO215 := n1_; have BK205 := n2_; have HB := n3_; clear n0_ n1_ n2_ n3_; (try clear hb); (try clear hb2); (try clear hk); (try clear hi); (try clear ho0); obtain ⟨Ao14, co14, eo14⟩ := Kd.R_slice HO215.out; subst eo14) | ((with_reducible refine gate_builtin (b := .append) (xs := #[(.tmp 14), .tmp 21]) rfl ?_); at_builtin; refine Kd.R_append_rows k48 (w0 := w) w.heap.size rfl (.tmp 14) (.tmp 21) 25 48 (.agg #[(.int .i64 0), (.int .i64 0), (.int .i64 0), (.int .i64 0), (.int .i64 0), (.string ⟨#[]⟩), (.string ⟨#[]⟩)]) 72 rfl Tryd.underlying25 info48 rfl (by decide) (by omega) (.slice Ao11 x5_1.length co11) x5_1 t213 _ _ _ (fun k_ => some k_ ≠ (.slice Ao14 t213.length co14 : Value).ownBlock ∧ k_ ≠ gb205) (fun _ => False) rfl rfl ?aO ?aR (fun _ _ h => h) (fun _ h => h.elim) ?aF ?aB ?aS ?aL ?_; (case aR => repeat (first | exact (Kd.R_reads' HO215.out).2.2 | (with_reducible refine Kd.C_alloc ?_ _) | (with_reducible refine Kd.C_drewN ?_ _) | (with_reducible refine Kd.C_drew ?_))); (case aB => exact (bb1 GE205.out)); (case aF => exact (fun k_ hk => ⟨Kd.fresh' (Kd.R_lt (ra0 HO215.out)) k_ hk, Kd.freshB (g := gb205) (o := .cells #[.int .i64 a0_0, .int .i64 x206001_1, .int .i64 x206002_1, .int .i64 x206003_1, .int .i64 a0_4, .string a0_5, .string a0_6] 48 (0, 0)) (bk0 BK205.out) k_ hk⟩)); (case aO => exact (by refine ra0 ?_; exact Kd.R_mono HO_5.out (fun _ hk => ⟨hk.2, hk.1⟩))); (case aS => exact (below_size (bb1 GE205.out))); (case aL => have := LMc9.out; omega); intro v217 w13 ho hb hg hat; rw [← Ny216.out] at ho; have n0_ := Aside0.mk (blk_grown (g := gb205) (o := .cells #[.int .i64 a0_0, .int .i64 x206001_1, .int .i64 x206002_1, .int .i64 x206003_1, .int .i64 a0_4, .string a0_5, .string a0_6] 48 (0, 0)) (bk0 BK205.out) hg (Kd.R_away HO_5.out (fun _ hk => hk.1))); have n1_ := Aside0.mk (Kd.R_after (ok := (fun k_ => k_ ≠ gb205)) (by refine ra0 ?_; exact Kd.R_mono HO215.out (fun _ hk => ⟨hk.2, hk.1.2⟩)) hg hat); have n2_ := Aside0.mk (hb); have n3_ := Aside0.mk (ho); clear BK205; clear HO215; clear HB; clear HO_5; have BK205 := n0_; have HO215 := n1_; have HB := n2_; have HO218 := n3_; clear n0_ n1_ n2_ n3_; clear ho hb hg hat; obtain ⟨Ao15, co15, eo15⟩ := Kd.R_slice HO218.out; subst eo15; obtain ⟨hcz16_0, hcz16_1, hcz16_2, hcz16_3, hcz16_4, hcz16_5, hcz16_6⟩ := cells7 BK205.out; obtain ⟨hfz16_0, hfz16_1, hfz16_2, hfz16_3, hfz16_4, hfz16_5, hfz16_6⟩ := frz7 BK205.out))
       go_roundg k1
       case measure => have := HK1.out; omega
       case rel => exact ⟨(y216), (wrap64 (x6_1 + 1)), (wrap64 ((y216.length : Int) - 1)), (x206002_1), (x206003_1), rs0, H', ⟨by have := HK1.out; omega⟩, ⟨by (try simp only [setCell_drewN]); refine ra0 ?_; exact Kd.R_mono (Kd.R_far (p := ⟨gb205, 1, none⟩) (Kd.R_mono HO218.out (fun k_ hk => (⟨hk, hk.2⟩ : _ ∧ k_ ≠ gb205))) (fun _ hk => hk.2) (.int .i64 (wrap64 ((y216.length : Int) - 1)))) (fun _ hk => hk.1.2)⟩, ⟨by refine bk0 ?_; refine blk_put (cs := #[.int .i64 a0_0, .int .i64 x206001_1, .int .i64 x206002_1, .int .i64 x206003_1, .int .i64 a0_4, .string a0_5, .string a0_6]) ?_ 1 _ rfl; refine bk0 ?_; exact BK205.out⟩, ⟨bb1 GE205.out⟩⟩
      ·rw [if_neg c10] at H
       have c10b0 : (x6_1 == 0) = false := beq_eq_false_iff_ne.mpr c10
       have c10b1 : (x6_1 != 0) = true := bne_iff_ne.mpr c10
       by_cases c17 : x6_1 = 1
       ·rw [if_pos c17] at H
        have c17b0 : (x6_1 == 1) = true := beq_iff_eq.mpr c17
        have c17b1 : (x6_1 != 1) = false := bne_eq_false_iff_eq.mpr c17
        clear c17
        have H' := Aside0.mk H
        clear H
        have p212 : 0 ≤ (x6_1 : Int) := of_decide_eq_true as0
        have q212 : x6_1 < (l1.length : Int) := of_decide_eq_true as0
        obtain ⟨ad212, A212_0, c212_0, e212, hx212_0, hl212_0, hi212_0⟩ := at_L4 HR1.out x6_1 p212 q212
        cases e212
        replace hx212_0 := (HB.out.cell (World.block_lt_of_cell? w _ hx212_0)).trans hx212_0
        have HR212_0 := Aside0.mk hi212_0
        have HC212_0 := Aside0.mk hl212_0
        clear hi212_0 hl212_0
        replace p212 := eq_true p212
        replace q212 := eq_true q212
        obtain ⟨Ao18, co18, eo18⟩ := Kd.R_slice HO_5.out
        subst eo18
        go_wp2_with (first | ((with_reducible refine gate_callee (f := 61) rfl ?_); refine goesL_ (some 21) rfl rfl Tryd.func61 (by kernel_rfl) rfl #[.slice A212_0 (rd_L4 l1 x6_1).length c212_0, .int .i64 (x5_1.length : Int)] rfl mm0 ?_; (with_reducible refine (spec_l3Shift.calls k1 _ _ (rd_L4 l1 x6_1) (x5_1.length : Int) t213 _ ?side1 ?side2 A8.out).mono ?_); (case side1 => exact cc0 (Kd.C_below HR212_0.out HB.out)); (case side2 => exact HC212_0.out); rintro e w19 ⟨v214, rfl, ho0, hb⟩; refine ⟨_, rfl, ?_⟩; have n0_ := Aside0.mk (Kd.R_elder' (ra0 HO_5.out) (Kd.R_base ho0) hb); have n1_ := Aside0.mk (Kd.R_lower (Kd.R_newB (Kd.R_new' ho0 (Kd.R_lt (ra0 HO_5.out))) (g := gb205) (o := .cells #[.int .i64 a0_0, .int .i64 x206001_1, .int .i64 x206002_1, .int .i64 x206003_1, .int .i64 a0_4, .string a0_5, .string a0_6] 48 (0, 0)) (bk0 BK205.out)) (below_size (bb1 GE205.out))); have n2_ := Aside0.mk (blk_below (g := gb205) (o := .cells #[.int .i64 a0_0, .int .i64 x206001_1, .int .i64 x206002_1, .int .i64 x206003_1, .int .i64 a0_4, .string a0_5, .string a0_6] 48 (0, 0)) (bk0 BK205.out) hb); have n3_ := Aside0.mk (below_step (bb1 GE205.out) hb); clear HO_5; clear BK205; clear HB; have HO_5 := n0_; have HO215 := n1_; have BK205 := n2_; have HB := n3_; clear n0_ n1_ n2_ n3_; (try clear hb); (try clear hb2); (try clear hk); (try clear hi); (try clear ho0); obtain ⟨Ao21, co21, eo21⟩ := Kd.R_slice HO215.out; subst eo21) | ((with_reducible refine gate_builtin (b := .append) (xs := #[(.tmp 14), .tmp 21]) rfl ?_); at_builtin; refine Kd.R_append_rows k48 (w0 := w) w.heap.size rfl (.tmp 14) (.tmp 21) 25 48 (.agg #[(.int .i64 0), (.int .i64 0), (.int .i64 0), (.int .i64 0), (.int .i64 0), (.string ⟨#[]⟩), (.string ⟨#[]⟩)]) 72 rfl Tryd.underlying25 info48 rfl (by decide) (by omega) (.slice Ao18 x5_1.length co18) x5_1 t213 _ _ _ (fun k_ => some k_ ≠ (.slice Ao21 t213.length co21 : Value).ownBlock ∧ k_ ≠ gb205) (fun _ => False) rfl rfl ?aO ?aR (fun _ _ h => h) (fun _ h => h.elim) ?aF ?aB ?aS ?aL ?_; (case aR => repeat (first | exact (Kd.R_reads' HO215.out).2.2 | (with_reducible refine Kd.C_alloc ?_ _) | (with_reducible refine Kd.C_drewN ?_ _) | (with_reducible refine Kd.C_drew ?_))); (case aB => exact (bb1 GE205.out)); (case aF => exact (fun k_ hk => ⟨Kd.fresh' (Kd.R_lt (ra0 HO215.out)) k_ hk, Kd.freshB (g := gb205) (o := .cells #[.int .i64 a0_0, .int .i64 x206001_1, .int .i64 x206002_1, .int .i64 x206003_1, .int .i64 a0_4, .string a0_5, .string a0_6] 48 (0, 0)) (bk0 BK205.out) k_ hk⟩)); (case aO => exact (by refine ra0 ?_; exact Kd.R_mono HO_5.out (fun _ hk => ⟨hk.2, hk.1⟩))); (case aS => exact (below_size (bb1 GE205.out))); (case aL => have := LMc9.out; omega); intro v217 w20 ho hb hg hat; rw [← Ny216.out] at ho; have n0_ := Aside0.mk (blk_grown (g := gb205) (o := .cells #[.int .i64 a0_0, .int .i64 x206001_1, .int .i64 x206002_1, .int .i64 x206003_1, .int .i64 a0_4, .string a0_5, .string a0_6] 48 (0, 0)) (bk0 BK205.out) hg (Kd.R_away HO_5.out (fun _ hk => hk.1))); have n1_ := Aside0.mk (Kd.R_after (ok := (fun k_ => k_ ≠ gb205)) (by refine ra0 ?_; exact Kd.R_mono HO215.out (fun _ hk => ⟨hk.2, hk.1.2⟩)) hg hat); have n2_ := Aside0.mk (hb); have n3_ := Aside0.mk (ho); clear BK205; clear HO215; clear HB; clear HO_5; have BK205 := n0_; have HO215 := n1_; have HB := n2_; have HO218 := n3_; clear n0_ n1_ n2_ n3_; clear ho hb hg hat; obtain ⟨Ao22, co22, eo22⟩ := Kd.R_slice HO218.out; subst eo22; obtain ⟨hcz23_0, hcz23_1, hcz23_2, hcz23_3, hcz23_4, hcz23_5, hcz23_6⟩ := cells7 BK205.out; obtain ⟨hfz23_0, hfz23_1, hfz23_2, hfz23_3, hfz23_4, hfz23_5, hfz23_6⟩ := frz7 BK205.out))
        go_roundg k1
        case measure => have := HK1.out; omega
        case rel => exact ⟨(y216), (wrap64 (x6_1 + 1)), (x206001_1), (wrap64 ((y216.length : Int) - 1)), (x206003_1), rs0, H', ⟨by have := HK1.out; omega⟩, ⟨by (try simp only [setCell_drewN]); refine ra0 ?_; exact Kd.R_mono (Kd.R_far (p := ⟨gb205, 2, none⟩) (Kd.R_mono HO218.out (fun k_ hk => (⟨hk, hk.2⟩ : _ ∧ k_ ≠ gb205))) (fun _ hk => hk.2) (.int .i64 (wrap64 ((y216.length : Int) - 1)))) (fun _ hk => hk.1.2)⟩, ⟨by refine bk0 ?_; refine blk_put (cs := #[.int .i64 a0_0, .int .i64 x206001_1, .int .i64 x206002_1, .int .i64 x206003_1, .int .i64 a0_4, .string a0_5, .string a0_6]) ?_ 2 _ rfl; refine bk0 ?_; exact BK205.out⟩, ⟨bb1 GE205.out⟩⟩
       ·rw [if_neg c17] at H
        have c17b0 : (x6_1 == 1) = false := beq_eq_false_iff_ne.mpr c17
        have c17b1 : (x6_1 != 1) = true := bne_iff_ne.mpr c17
        have H' := Aside0.mk H
        clear H
        have p212 : 0 ≤ (x6_1 : Int) := of_decide_eq_true as0
        have q212 : x6_1 < (l1.length : Int) := of_decide_eq_true as0
        obtain ⟨ad212, A212_0, c212_0, e212, hx212_0, hl212_0, hi212_0⟩ := at_L4 HR1.out x6_1 p212 q212
        cases e212
        replace hx212_0 := (HB.out.cell (World.block_lt_of_cell? w _ hx212_0)).trans hx212_0
        have HR212_0 := Aside0.mk hi212_0
        have HC212_0 := Aside0.mk hl212_0
        clear hi212_0 hl212_0
        replace p212 := eq_true p212
        replace q212 := eq_true q212
        obtain ⟨Ao24, co24, eo24⟩ := Kd.R_slice HO_5.out
        subst eo24
        go_wp2_with (first | ((with_reducible refine gate_callee (f := 61) rfl ?_); refine goesL_ (some 21) rfl rfl Tryd.func61 (by kernel_rfl) rfl #[.slice A212_0 (rd_L4 l1 x6_1).length c212_0, .int .i64 (x5_1.length : Int)] rfl mm0 ?_; (with_reducible refine (spec_l3Shift.calls k1 _ _ (rd_L4 l1 x6_1) (x5_1.length : Int) t213 _ ?side1 ?side2 A8.out).mono ?_); (case side1 => exact cc0 (Kd.C_below HR212_0.out HB.out)); (case side2 => exact HC212_0.out); rintro e w25 ⟨v214, rfl, ho0, hb⟩; refine ⟨_, rfl, ?_⟩; have n0_ := Aside0.mk (Kd.R_elder' (ra0 HO_5.out) (Kd.R_base ho0) hb); have n1_ := Aside0.mk (Kd.R_lower (Kd.R_newB (Kd.R_new' ho0 (Kd.R_lt (ra0 HO_5.out))) (g := gb205) (o := .cells #[.int .i64 a0_0, .int .i64 x206001_1, .int .i64 x206002_1, .int .i64 x206003_1, .int .i64 a0_4, .string a0_5, .string a0_6] 48 (0, 0)) (bk0 BK205.out)) (below_size (bb1 GE205.out))); have n2_ := Aside0.mk (blk_below (g := gb205) (o := .cells #[.int .i64 a0_0, .int .i64 x206001_1, .int .i64 x206002_1, .int .i64 x206003_1, .int .i64 a0_4, .string a0_5, .string a0_6] 48 (0, 0)) (bk0 BK205.out) hb); have n3_ := Aside0.mk (below_step (bb1 GE205.out) hb); clear HO_5; clear BK205; clear HB; have HO_5 := n0_; have HO215 := n1_; have BK205 := n2_; have HB := n3_; clear n0_ n1_ n2_ n3_; (try clear hb); (try clear hb2); (try clear hk); (try clear hi); (try clear ho0); obtain ⟨Ao27, co27, eo27⟩ := Kd.R_slice HO215.out; subst eo27) | ((with_reducible refine gate_builtin (b := .append) (xs := #[(.tmp 14), .tmp 21]) rfl ?_); at_builtin; refine Kd.R_append_rows k48 (w0 := w) w.heap.size rfl (.tmp 14) (.tmp 21) 25 48 (.agg #[(.int .i64 0), (.int .i64 0), (.int .i64 0), (.int .i64 0), (.int .i64 0), (.string ⟨#[]⟩), (.string ⟨#[]⟩)]) 72 rfl Tryd.underlying25 info48 rfl (by decide) (by omega) (.slice Ao24 x5_1.length co24) x5_1 t213 _ _ _ (fun k_ => some k_ ≠ (.slice Ao27 t213.length co27 : Value).ownBlock ∧ k_ ≠ gb205) (fun _ => False) rfl rfl ?aO ?aR (fun _ _ h => h) (fun _ h => h.elim) ?aF ?aB ?aS ?aL ?_; (case aR => repeat (first | exact (Kd.R_reads' HO215.out).2.2 | (with_reducible refine Kd.C_alloc ?_ _) | (with_reducible refine Kd.C_drewN ?_ _) | (with_reducible refine Kd.C_drew ?_))); (case aB => exact (bb1 GE205.out)); (case aF => exact (fun k_ hk => ⟨Kd.fresh' (Kd.R_lt (ra0 HO215.out)) k_ hk, Kd.freshB (g := gb205) (o := .cells #[.int .i64 a0_0, .int .i64 x206001_1, .int .i64 x206002_1, .int .i64 x206003_1, .int .i64 a0_4, .string a0_5, .string a0_6] 48 (0, 0)) (bk0 BK205.out) k_ hk⟩)); (case aO => exact (by refine ra0 ?_; exact Kd.R_mono HO_5.out (fun _ hk => ⟨hk.2, hk.1⟩))); (case aS => exact (below_size (bb1 GE205.out))); (case aL => have := LMc9.out; omega); intro v217 w26 ho hb hg hat; rw [← Ny216.out] at ho; have n0_ := Aside0.mk (blk_grown (g := gb205) (o := .cells #[.int .i64 a0_0, .int .i64 x206001_1, .int .i64 x206002_1, .int .i64 x206003_1, .int .i64 a0_4, .string a0_5, .string a0_6] 48 (0, 0)) (bk0 BK205.out) hg (Kd.R_away HO_5.out (fun _ hk => hk.1))); have n1_ := Aside0.mk (Kd.R_after (ok := (fun k_ => k_ ≠ gb205)) (by refine ra0 ?_; exact Kd.R_mono HO215.out (fun _ hk => ⟨hk.2, hk.1.2⟩)) hg hat); have n2_ := Aside0.mk (hb); have n3_ := Aside0.mk (ho); clear BK205; clear HO215; clear HB; clear HO_5; have BK205 := n0_; have HO215 := n1_; have HB := n2_; have HO218 := n3_; clear n0_ n1_ n2_ n3_; clear ho hb hg hat; obtain ⟨Ao28, co28, eo28⟩ := Kd.R_slice HO218.out; subst eo28; obtain ⟨hcz29_0, hcz29_1, hcz29_2, hcz29_3, hcz29_4, hcz29_5, hcz29_6⟩ := cells7 BK205.out; obtain ⟨hfz29_0, hfz29_1, hfz29_2, hfz29_3, hfz29_4, hfz29_5, hfz29_6⟩ := frz7 BK205.out))
        go_roundg k1
        case measure => have := HK1.out; omega
        case rel => exact ⟨(y216), (wrap64 (x6_1 + 1)), (x206001_1), (x206002_1), (wrap64 ((y216.length : Int) - 1)), rs0, H', ⟨by have := HK1.out; omega⟩, ⟨by (try simp only [setCell_drewN]); refine ra0 ?_; exact Kd.R_mono (Kd.R_far (p := ⟨gb205, 3, none⟩) (Kd.R_mono HO218.out (fun k_ hk => (⟨hk, hk.2⟩ : _ ∧ k_ ≠ gb205))) (fun _ hk => hk.2) (.int .i64 (wrap64 ((y216.length : Int) - 1)))) (fun _ hk => hk.1.2)⟩, ⟨by refine bk0 ?_; refine blk_put (cs := #[.int .i64 a0_0, .int .i64 x206001_1, .int .i64 x206002_1, .int .i64 x206003_1, .int .i64 a0_4, .string a0_5, .string a0_6]) ?_ 3 _ rfl; refine bk0 ?_; exact BK205.out⟩, ⟨bb1 GE205.out⟩⟩
     ·rw [if_neg c9] at H
      exact absurd H (by simp)
    ·rw [if_neg c7] at H
     exact absurd H (by simp)
   ·rw [if_neg c6] at H
    have c6b0 : decide (x6_1 < (l1.length : Int)) = false := decide_eq_false c6
    clear c6
    by_cases c30 : x5_1.length < 1954687338268
    ·rw [if_pos c30] at H
     have LMc30 := Aside0.mk c30
     clear c30
     obtain ⟨y209, hy209⟩ : ∃ y_ : List (S48), y_ = (x5_1 ++ [(⟨a0_0, x206001_1, x206002_1, x206003_1, a0_4, a0_5, a0_6⟩ : S48)]) := ⟨_, rfl⟩
     replace H : (some y209) = some r := by first | (rw [hy209]; with_reducible exact H) | (have H2_ := (Option.bind_some _ _).symm.trans H; rw [hy209]; with_reducible exact H2_) | (have H2_ := (Option.bind_some _ _).symm.trans H; with_reducible exact H2_) | with_reducible exact H | (rw [hy209]; exact H) | exact H
     have Ny209 := Aside0.mk hy209
     clear hy209
     obtain rfl := Option.some.inj H
     obtain ⟨hcz31_0, hcz31_1, hcz31_2, hcz31_3, hcz31_4, hcz31_5, hcz31_6⟩ := cells7 BK205.out
     obtain ⟨hfz31_0, hfz31_1, hfz31_2, hfz31_3, hfz31_4, hfz31_5, hfz31_6⟩ := frz7 BK205.out
     go_wp2_with (first | ((with_reducible refine gate_builtin (b := .append) (xs := #[(.tmp 40), .tmp 42]) rfl ?_); at_builtin; refine Kd.R_append k48 (w0 := w) w.heap.size rfl (.tmp 40) (.tmp 42) 25 48 (.agg #[(.int .i64 0), (.int .i64 0), (.int .i64 0), (.int .i64 0), (.int .i64 0), (.string ⟨#[]⟩), (.string ⟨#[]⟩)]) 72 rfl Tryd.underlying25 info48 rfl (by decide) (by omega) u5 x5_1 (⟨a0_0, x206001_1, x206002_1, x206003_1, a0_4, a0_5, a0_6⟩ : S48) [.int .i64 a0_0, .int .i64 x206001_1, .int .i64 x206002_1, .int .i64 x206003_1, .int .i64 a0_4, .string a0_5, .string a0_6] (fun k_ => k_ ≠ gb205) (fun _ => False) rfl rfl ?aP (fun _ hk => hk.elim) ?aF ?aO ?aB ?aS ?aL ?_; (case aP => exact k48_mkM _ _ _ (⟨a0_0, x206001_1, x206002_1, x206003_1, a0_4, a0_5, a0_6⟩ : S48)); (case aB => exact (bb1 GE205.out)); (case aF => exact (fun k_ hk => Kd.freshB (g := gb205) (o := .cells #[.int .i64 a0_0, .int .i64 x206001_1, .int .i64 x206002_1, .int .i64 x206003_1, .int .i64 a0_4, .string a0_5, .string a0_6] 48 (0, 0)) (bk0 BK205.out) k_ hk)); (case aO => exact (ra0 HO_5.out)); (case aS => exact (below_size (bb1 GE205.out))); (case aL => have := LMc30.out; omega); intro v210 w32 ho hb hg hat; rw [← Ny209.out] at ho; have n0_ := Aside0.mk (blk_grown (g := gb205) (o := .cells #[.int .i64 a0_0, .int .i64 x206001_1, .int .i64 x206002_1, .int .i64 x206003_1, .int .i64 a0_4, .string a0_5, .string a0_6] 48 (0, 0)) (bk0 BK205.out) hg (Kd.R_away HO_5.out (fun _ hk => hk))); have n1_ := Aside0.mk (hb); have n2_ := Aside0.mk (ho); clear BK205; clear HB; clear HO_5; have BK205 := n0_; have HB := n1_; have HO211 := n2_; clear n0_ n1_ n2_; clear ho hb hg hat))
     go_ret
     exact ⟨_, er0, by refine ra0 ?_; exact Kd.R_mono HO211.out (fun _ hk => trivial), bb1 GE205.out⟩
    ·rw [if_neg c30] at H
     exact absurd H (by simp)

end Go.Proofs.YtoebebgeiahagaaDoor.PFnExactPruneTo
