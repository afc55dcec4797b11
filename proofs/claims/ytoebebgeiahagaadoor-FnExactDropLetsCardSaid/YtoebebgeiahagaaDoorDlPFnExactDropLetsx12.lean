-- Printed by this session's own program (wip/tools)
import Derived.Test.YtoebebgeiahagaaDoorDlPFnExactDropLetsx0
import Derived.Test.YtoebebgeiahagaaDoorDlPFnExactDropLetsx5
namespace Go.Proofs.YtoebebgeiahagaaDoor.PFnExactDropLets
open Go.RowKit Go.Proofs.YtoebebgeiahagaaDoorW.PrintWords Go.Proofs.YtoebebgeiahagaaDoorW.PrintLast Go.Proofs.YtoebebgeiahagaaDoorW.PrintMore
attribute [local go_sem] max2_int min2_int max_two min_two max_three min_three max_four min_four   -- for this text's walks alone
set_option linter.unusedVariables false
set_option linter.unusedSimpArgs false

/-! ### spec_l23Effect: function 27 -/
mutual
def spec_l23Effect.j0 : Nat → List (S48) → Int → Int → Int → Int → Int → Int → ByteArray → ByteArray → Option (Int)
 | 0, _, _, _, _, _, _, _, _, _ => none
 | k + 1, x0, x6, x294000, x294001, x294002, x294003, x294004, x294005, x294006 => (spec_Kids.f k x294000 x294001 x294002 x294003 x294004 x294005 x294006).bind fun t295 => (spec_l23Effect.l0 k x0 x6 t295 0)
def spec_l23Effect.l0 : Nat → List (S48) → Int → List Int → Int → Option (Int)
 | 0, _, _, _, _ => none
 | k + 1, x0, x6, x7, x8 => if x8 < (x7.length : Int) then (if 0 ≤ x8 then ((spec_l23Effect.f k x0 (rd x7 x8)).bind fun t299 => (spec_l23Effect.l0 k x0 (Go.bits .or .i64 x6 t299) x7 (wrap64 (x8 + 1)))) else (none)) else (some x6)
def spec_l23Effect.f : Nat → List (S48) → Int → Option (Int)
 | 0, _, _ => none
 | k + 1, l0, a1 => if 0 ≤ a1 then (if a1 < (l0.length : Int) then (if ((rd_T48 l0 a1).f0) = 3 then (some 0) else (if ((rd_T48 l0 a1).f0) = 6 then ((spec_l23Effect.f k l0 ((rd_T48 l0 a1).f2)).bind fun t294 => (some t294)) else (if ((rd_T48 l0 a1).f0) = 16 then (spec_l23Effect.j0 k l0 1 ((rd_T48 l0 a1).f0) ((rd_T48 l0 a1).f1) ((rd_T48 l0 a1).f2) ((rd_T48 l0 a1).f3) ((rd_T48 l0 a1).f4) ((rd_T48 l0 a1).f5) ((rd_T48 l0 a1).f6)) else (if ((rd_T48 l0 a1).f0) = 17 then (spec_l23Effect.j0 k l0 2 ((rd_T48 l0 a1).f0) ((rd_T48 l0 a1).f1) ((rd_T48 l0 a1).f2) ((rd_T48 l0 a1).f3) ((rd_T48 l0 a1).f4) ((rd_T48 l0 a1).f5) ((rd_T48 l0 a1).f6)) else (if ((rd_T48 l0 a1).f0) = 18 then (spec_l23Effect.j0 k l0 4 ((rd_T48 l0 a1).f0) ((rd_T48 l0 a1).f1) ((rd_T48 l0 a1).f2) ((rd_T48 l0 a1).f3) ((rd_T48 l0 a1).f4) ((rd_T48 l0 a1).f5) ((rd_T48 l0 a1).f6)) else (if ((rd_T48 l0 a1).f0) = 15 then (spec_l23Effect.j0 k l0 8 ((rd_T48 l0 a1).f0) ((rd_T48 l0 a1).f1) ((rd_T48 l0 a1).f2) ((rd_T48 l0 a1).f3) ((rd_T48 l0 a1).f4) ((rd_T48 l0 a1).f5) ((rd_T48 l0 a1).f6)) else (if ((rd_T48 l0 a1).f0) = 4 then (spec_l23Effect.j0 k l0 16 ((rd_T48 l0 a1).f0) ((rd_T48 l0 a1).f1) ((rd_T48 l0 a1).f2) ((rd_T48 l0 a1).f3) ((rd_T48 l0 a1).f4) ((rd_T48 l0 a1).f5) ((rd_T48 l0 a1).f6)) else (spec_l23Effect.j0 k l0 0 ((rd_T48 l0 a1).f0) ((rd_T48 l0 a1).f1) ((rd_T48 l0 a1).f2) ((rd_T48 l0 a1).f3) ((rd_T48 l0 a1).f4) ((rd_T48 l0 a1).f5) ((rd_T48 l0 a1).f6))))))))) else (none)) else (none)
end
theorem spec_l23Effect.mono_l : ∀ k, (∀ y0 y1, LeO (spec_l23Effect.f k y0 y1) (spec_l23Effect.f (k + 1) y0 y1)) ∧ (∀ y0 y1 y2 y3 y4 y5 y6 y7 y8, LeO (spec_l23Effect.j0 k y0 y1 y2 y3 y4 y5 y6 y7 y8) (spec_l23Effect.j0 (k + 1) y0 y1 y2 y3 y4 y5 y6 y7 y8)) ∧ (∀ y0 y1 y2 y3, LeO (spec_l23Effect.l0 k y0 y1 y2 y3) (spec_l23Effect.l0 (k + 1) y0 y1 y2 y3))
 | 0 => ⟨fun _ _ r h => by simp [spec_l23Effect.f] at h, fun _ _ _ _ _ _ _ _ _ r h => by simp [spec_l23Effect.j0] at h, fun _ _ _ _ r h => by simp [spec_l23Effect.l0] at h⟩
 | k + 1 => by
  obtain ⟨ih0, ih1, ih2⟩ := spec_l23Effect.mono_l k
  refine ⟨?_, ?_, ?_⟩
  ·intro y0 y1
   unfold spec_l23Effect.f
   repeat' first
   | (with_reducible exact ih0 _ _)
   | (with_reducible exact ih1 _ _ _ _ _ _ _ _ _)
   | (with_reducible exact ih2 _ _ _ _)
   | (with_reducible exact spec_Kids.mono _ _ _ _ _ _ _ _)
   | (with_reducible exact LeO.refl _)
   | (with_reducible exact LeO.none _)
   | (with_reducible refine LeO.ite ?_ ?_)
   | (with_reducible refine LeO.bind ?_ (fun _ => ?_))
   | exact ih0 _ _
   | exact ih1 _ _ _ _ _ _ _ _ _
   | exact ih2 _ _ _ _
   | exact spec_Kids.mono _ _ _ _ _ _ _ _
   | exact LeO.none _
   | refine LeO.ite ?_ ?_
   | refine LeO.bind ?_ (fun _ => ?_)
  ·intro y0 y1 y2 y3 y4 y5 y6 y7 y8
   unfold spec_l23Effect.j0
   repeat' first
   | (with_reducible exact ih0 _ _)
   | (with_reducible exact ih1 _ _ _ _ _ _ _ _ _)
   | (with_reducible exact ih2 _ _ _ _)
   | (with_reducible exact spec_Kids.mono _ _ _ _ _ _ _ _)
   | (with_reducible exact LeO.refl _)
   | (with_reducible exact LeO.none _)
   | (with_reducible refine LeO.ite ?_ ?_)
   | (with_reducible refine LeO.bind ?_ (fun _ => ?_))
   | exact ih0 _ _
   | exact ih1 _ _ _ _ _ _ _ _ _
   | exact ih2 _ _ _ _
   | exact spec_Kids.mono _ _ _ _ _ _ _ _
   | exact LeO.none _
   | refine LeO.ite ?_ ?_
   | refine LeO.bind ?_ (fun _ => ?_)
  ·intro y0 y1 y2 y3
   unfold spec_l23Effect.l0
   repeat' first
   | (with_reducible exact ih0 _ _)
   | (with_reducible exact ih1 _ _ _ _ _ _ _ _ _)
   | (with_reducible exact ih2 _ _ _ _)
   | (with_reducible exact spec_Kids.mono _ _ _ _ _ _ _ _)
   | (with_reducible exact LeO.refl _)
   | (with_reducible exact LeO.none _)
   | (with_reducible refine LeO.ite ?_ ?_)
   | (with_reducible refine LeO.bind ?_ (fun _ => ?_))
   | exact ih0 _ _
   | exact ih1 _ _ _ _ _ _ _ _ _
   | exact ih2 _ _ _ _
   | exact spec_Kids.mono _ _ _ _ _ _ _ _
   | exact LeO.none _
   | refine LeO.ite ?_ ?_
   | refine LeO.bind ?_ (fun _ => ?_)
theorem spec_l23Effect.mono : ∀ a0 a1 k, LeO (spec_l23Effect.f k a0 a1) (spec_l23Effect.f (k + 1) a0 a1) := by
 intro a0 a1 k
 obtain ⟨ih0, ih1, ih2⟩ := spec_l23Effect.mono_l k
 exact ih0 a0 a1
set_option maxHeartbeats 8000000 in
set_option maxRecDepth 100000 in
theorem spec_l23Effect.calls (k : Nat) : ∀ (A0 : Option Addr) (c0 : Nat) (l0 : List (S48)) (a1 : Int) (r : Int) (w : World) (hr0 : Kd.C k48 w A0 l0.length l0) (hc0 : l0.length ≤ c0) (h : spec_l23Effect.f k l0 a1 = some r),
  Calls Tryd.prog 27 #[.slice A0 l0.length c0, .int .i64 a1] w fun e w' => e = .returned (.int .i64 r) ∧ Below w.heap.size w w' := by
 induction k using Nat.strongRecOn with
 | _ k ih =>
 intro A0 c0 l0 a1 r w hr0 hc0 h
 cases k with
 | zero => exact absurd h (by simp [spec_l23Effect.f])
 | succ k =>
 simp only [spec_l23Effect.f] at h
 have hu48 := Tryd.underlying48
 have HR0 := Aside0.mk hr0
 have HC0 := Aside0.mk hc0
 clear hr0 hc0
 have HB := Aside0.mk (Below.refl w.heap.size w)
 have H := h
 clear h
 by_cases c3 : 0 ≤ a1
 ·rw [if_pos c3] at H
  have c3b0 := decide_eq_true c3
  clear c3
  by_cases c4 : a1 < (l0.length : Int)
  ·rw [if_pos c4] at H
   have c4b0 := decide_eq_true c4
   clear c4
   have HC5 := Aside0.mk H
   clear H
   have p292 : 0 ≤ (a1 : Int) := of_decide_eq_true as0
   have q292 : a1 < (l0.length : Int) := of_decide_eq_true as0
   obtain ⟨ad292, e292, hx292_0, hx292_1, hx292_2, hx292_3, hx292_4, hx292_5, hx292_6⟩ := at_T48 HR0.out a1 p292 q292
   cases e292
   replace p292 := eq_true p292
   replace q292 := eq_true q292
   go_enter Tryd.func27, Tryd.ntmps27
   go_upto_block 0 with (first | ((with_reducible refine gate_dst (N := 5) rfl ?_); refine box_event ?hg (N := 5) ?hd (cs := #[.int .i64 0, .int .i64 0, .int .i64 0, .int .i64 0, .int .i64 0, .string (⟨#[]⟩ : ByteArray), .string (⟨#[]⟩ : ByteArray)]) (t := 48) ?hr ?_; (case hd => rfl); (case hg => rfl); (case hr => first | (go_simp; done) | (go_simp; rfl)); intro gb293 hg w6 hbox hb; have BK293 := Aside0.mk (hbox); have GW293 := Aside0.mk ((by rw [hg]; exact (below_size bb0) : w.heap.size ≤ gb293)); have GE293 := Aside0.mk ((by rw [hg]; exact (below_size bb0) : w.heap.size ≤ gb293)); replace HB := Aside0.mk (below_step bb0 hb); clear hb hbox hg; obtain ⟨hcz7_0, hcz7_1, hcz7_2, hcz7_3, hcz7_4, hcz7_5, hcz7_6⟩ := cells7 BK293.out; obtain ⟨hfz7_0, hfz7_1, hfz7_2, hfz7_3, hfz7_4, hfz7_5, hfz7_6⟩ := frz7 BK293.out))
   (try simp only [Act.put, List.setIfInBounds_toArray, List.set_cons_zero, List.set_cons_succ])
   go_cut [6] (fun v6 wc => ∃ (kq : Nat) (x6_4 : Int), v6 = .int .i64 x6_4 ∧ Aside0 (spec_l23Effect.j0 kq l0 x6_4 ((rd_T48 l0 a1).f0) ((rd_T48 l0 a1).f1) ((rd_T48 l0 a1).f2) ((rd_T48 l0 a1).f3) ((rd_T48 l0 a1).f4) ((rd_T48 l0 a1).f5) ((rd_T48 l0 a1).f6) = some r) ∧ Aside0 (kq ≤ k) ∧ Aside0 (wc.heap[gb293]? = some (.cells #[.int .i64 ((rd_T48 l0 a1).f0), .int .i64 ((rd_T48 l0 a1).f1), .int .i64 ((rd_T48 l0 a1).f2), .int .i64 ((rd_T48 l0 a1).f3), .int .i64 ((rd_T48 l0 a1).f4), .string ((rd_T48 l0 a1).f5), .string ((rd_T48 l0 a1).f6)] 48 (0, 0))) ∧ Aside0 (Below w.heap.size w wc))
   case first =>
    have H := HC5.out
    clear HC5
    by_cases c8 : ((rd_T48 l0 a1).f0) = 3
    ·rw [if_pos c8] at H
     obtain ⟨c8b0, c8b1⟩ := eqT c8
     clear c8
     (first | rw [c8b0] | (simp only [i64_w, i32_w]; rw [c8b0]) | skip)
     obtain rfl := Option.some.inj H
     go_wp2
     go_ret
     exact ⟨er0, bb1 GE293.out⟩
    ·rw [if_neg c8] at H
     obtain ⟨c8b0, c8b1⟩ := eqF c8
     (first | rw [c8b0] | (simp only [i64_w, i32_w]; rw [c8b0]) | skip)
     by_cases c9 : ((rd_T48 l0 a1).f0) = 6
     ·rw [if_pos c9] at H
      obtain ⟨c9b0, c9b1⟩ := eqT c9
      clear c9
      obtain ⟨t294, A10, H⟩ := bx H
      obtain rfl := Option.some.inj H
      obtain ⟨hcz11_0, hcz11_1, hcz11_2, hcz11_3, hcz11_4, hcz11_5, hcz11_6⟩ := cells7 BK293.out
      obtain ⟨hfz11_0, hfz11_1, hfz11_2, hfz11_3, hfz11_4, hfz11_5, hfz11_6⟩ := frz7 BK293.out
      go_wp2_with (first | ((with_reducible refine gate_callee (f := 27) rfl ?_); refine goesL_ (some 22) rfl rfl Tryd.func27 (by kernel_rfl) rfl #[.slice (some ad292) l0.length c0, .int .i64 ((rd_T48 l0 a1).f2)] rfl mm0 ?_; (with_reducible refine (ih k (by omega) _ _ l0 ((rd_T48 l0 a1).f2) t294 _ ?side1 ?side2 A10.out).mono ?_); (case side1 => exact Kd.C_below HR0.out (bb1 GE293.out)); (case side2 => exact HC0.out); rintro e w12 ⟨rfl, hb⟩; refine ⟨_, rfl, ?_⟩; replace BK293 := Aside0.mk (blk_below (g := gb293) (bk1 BK293.out) hb); replace HB := Aside0.mk (below_step (bb1 GE293.out) hb); clear hb))
      go_ret
      exact ⟨er0, bb1 GE293.out⟩
     ·rw [if_neg c9] at H
      obtain ⟨c9b0, c9b1⟩ := eqF c9
      by_cases c13 : ((rd_T48 l0 a1).f0) = 16
      ·rw [if_pos c13] at H
       obtain ⟨c13b0, c13b1⟩ := eqT c13
       clear c13
       have H' := Aside0.mk H
       clear H
       go_wp2
       go_meet
       case rel => exact ⟨_, (1), rs0, H', ⟨by first | omega | exact Nat.le_refl _⟩, ⟨bk1 BK293.out⟩, ⟨bb1 GE293.out⟩⟩
      ·rw [if_neg c13] at H
       obtain ⟨c13b0, c13b1⟩ := eqF c13
       by_cases c14 : ((rd_T48 l0 a1).f0) = 17
       ·rw [if_pos c14] at H
        obtain ⟨c14b0, c14b1⟩ := eqT c14
        clear c14
        have H' := Aside0.mk H
        clear H
        go_wp2
        go_meet
        case rel => exact ⟨_, (2), rs0, H', ⟨by first | omega | exact Nat.le_refl _⟩, ⟨bk1 BK293.out⟩, ⟨bb1 GE293.out⟩⟩
       ·rw [if_neg c14] at H
        obtain ⟨c14b0, c14b1⟩ := eqF c14
        by_cases c15 : ((rd_T48 l0 a1).f0) = 18
        ·rw [if_pos c15] at H
         obtain ⟨c15b0, c15b1⟩ := eqT c15
         clear c15
         have H' := Aside0.mk H
         clear H
         go_wp2
         go_meet
         case rel => exact ⟨_, (4), rs0, H', ⟨by first | omega | exact Nat.le_refl _⟩, ⟨bk1 BK293.out⟩, ⟨bb1 GE293.out⟩⟩
        ·rw [if_neg c15] at H
         obtain ⟨c15b0, c15b1⟩ := eqF c15
         by_cases c16 : ((rd_T48 l0 a1).f0) = 15
         ·rw [if_pos c16] at H
          obtain ⟨c16b0, c16b1⟩ := eqT c16
          clear c16
          have H' := Aside0.mk H
          clear H
          go_wp2
          go_meet
          case rel => exact ⟨_, (8), rs0, H', ⟨by first | omega | exact Nat.le_refl _⟩, ⟨bk1 BK293.out⟩, ⟨bb1 GE293.out⟩⟩
         ·rw [if_neg c16] at H
          obtain ⟨c16b0, c16b1⟩ := eqF c16
          by_cases c17 : ((rd_T48 l0 a1).f0) = 4
          ·rw [if_pos c17] at H
           obtain ⟨c17b0, c17b1⟩ := eqT c17
           clear c17
           have H' := Aside0.mk H
           clear H
           go_wp2
           go_meet
           case rel => exact ⟨_, (16), rs0, H', ⟨by first | omega | exact Nat.le_refl _⟩, ⟨bk1 BK293.out⟩, ⟨bb1 GE293.out⟩⟩
          ·rw [if_neg c17] at H
           obtain ⟨c17b0, c17b1⟩ := eqF c17
           have H' := Aside0.mk H
           clear H
           go_wp2
           go_meet
           case rel => exact ⟨_, (0), rs0, H', ⟨by first | omega | exact Nat.le_refl _⟩, ⟨bk1 BK293.out⟩, ⟨bb1 GE293.out⟩⟩
   case rest =>
    clear HC5
    try clear c1
    try clear c2
    try clear p2
    try clear q2
    try clear hx2
    try clear c3
    try clear c3b0
    try clear c4
    try clear c4b0
    try clear c8
    try clear c8b0
    try clear c8b1
    try clear c9
    try clear c9b0
    try clear c9b1
    try clear c13
    try clear c13b0
    try clear c13b1
    try clear c14
    try clear c14b0
    try clear c14b1
    try clear c15
    try clear c15b0
    try clear c15b1
    try clear c16
    try clear c16b0
    try clear c16b1
    try clear c17
    try clear c17b0
    try clear c17b1
    try clear hcz11_0
    try clear hcz11_1
    try clear hcz11_2
    try clear hcz11_3
    try clear hcz11_4
    try clear hcz11_5
    try clear hcz11_6
    try clear hcz7_0
    try clear hcz7_1
    try clear hcz7_2
    try clear hcz7_3
    try clear hcz7_4
    try clear hcz7_5
    try clear hcz7_6
    try clear hfz11_0
    try clear hfz11_1
    try clear hfz11_2
    try clear hfz11_3
    try clear hfz11_4
    try clear hfz11_5
    try clear hfz11_6
    try clear hfz7_0
    try clear hfz7_1
    try clear hfz7_2
    try clear hfz7_3
    try clear hfz7_4
    try clear hfz7_5
    try clear hfz7_6
    try clear hx292_0
    try clear hx292_1
    try clear hx292_2
    try clear hx292_3
    try clear hx292_4
    try clear hx292_5
    try clear hx292_6
    try clear p292
    try clear q292
    obtain ⟨kq, x6_4, rfl, HA, HJ4, BK293, HB⟩ := hcut
    cases kq with
    | zero => exact absurd HA.out (by simp [spec_l23Effect.j0])
    | succ kj4 =>
     have H := HA.out
     clear HA
     simp only [spec_l23Effect.j0] at H
     obtain ⟨t295, A18, H⟩ := bx H
     have H' := Aside0.mk H
     clear H
     obtain ⟨hcz19_0, hcz19_1, hcz19_2, hcz19_3, hcz19_4, hcz19_5, hcz19_6⟩ := cells7 BK293.out
     obtain ⟨hfz19_0, hfz19_1, hfz19_2, hfz19_3, hfz19_4, hfz19_5, hfz19_6⟩ := frz7 BK293.out
     go_wp2_with (first | ((with_reducible refine gate_callee (f := 43) rfl ?_); refine goesL_ (some 34) rfl rfl Tryd.func43 (by kernel_rfl) rfl #[.agg #[.int .i64 ((rd_T48 l0 a1).f0), .int .i64 ((rd_T48 l0 a1).f1), .int .i64 ((rd_T48 l0 a1).f2), .int .i64 ((rd_T48 l0 a1).f3), .int .i64 ((rd_T48 l0 a1).f4), .string ((rd_T48 l0 a1).f5), .string ((rd_T48 l0 a1).f6)]] rfl mm0 ?_; (with_reducible refine (spec_Kids.calls kj4 ((rd_T48 l0 a1).f0) ((rd_T48 l0 a1).f1) ((rd_T48 l0 a1).f2) ((rd_T48 l0 a1).f3) ((rd_T48 l0 a1).f4) ((rd_T48 l0 a1).f5) ((rd_T48 l0 a1).f6) t295 _ A18.out).mono ?_); rintro e w20 ⟨v296, rfl, ho0, hb⟩; refine ⟨_, rfl, ?_⟩; have HO297 := Aside0.mk (Kd.R_lower ho0 (below_size (bb1 GE293.out))); replace BK293 := Aside0.mk (blk_below (g := gb293) (bk0 BK293.out) hb); replace HB := Aside0.mk (below_step (bb1 GE293.out) hb); clear hb ho0))
     go_loopg [6, 8] kj4 (fun kq v6 v8 w' => ∃ (x6_2 : Int) (x8_2 : Int), v6 = .int .i64 x6_2 ∧ v8 = .int .i64 x8_2 ∧ Aside0 (spec_l23Effect.l0 kq l0 x6_2 t295 x8_2 = some r) ∧ Aside0 (kq ≤ kj4) ∧ Aside0 (Kd.R (Kd.int .i64) 3 w' w.heap.size (fun _ => True) v296 t295) ∧ Aside0 (w'.heap[gb293]? = some (.cells #[.int .i64 ((rd_T48 l0 a1).f0), .int .i64 ((rd_T48 l0 a1).f1), .int .i64 ((rd_T48 l0 a1).f2), .int .i64 ((rd_T48 l0 a1).f3), .int .i64 ((rd_T48 l0 a1).f4), .string ((rd_T48 l0 a1).f5), .string ((rd_T48 l0 a1).f6)] 48 (0, 0))) ∧ Aside0 (Below w.heap.size w w'))
     case atStart => exact ⟨(x6_4), (0), rs0, rs0, H', ⟨Nat.le_refl _⟩, ⟨by refine ra0 ?_; exact HO297.out⟩, ⟨by refine bk0 ?_; exact BK293.out⟩, ⟨bb1 GE293.out⟩⟩
     case round =>
      clear H'
      try clear c1
      try clear c2
      try clear p2
      try clear q2
      try clear hx2
      try clear c3
      try clear c3b0
      try clear c4
      try clear c4b0
      try clear c8
      try clear c8b0
      try clear c8b1
      try clear c9
      try clear c9b0
      try clear c9b1
      try clear c13
      try clear c13b0
      try clear c13b1
      try clear c14
      try clear c14b0
      try clear c14b1
      try clear c15
      try clear c15b0
      try clear c15b1
      try clear c16
      try clear c16b0
      try clear c16b1
      try clear c17
      try clear c17b0
      try clear c17b1
      try clear hcz11_0
      try clear hcz11_1
      try clear hcz11_2
      try clear hcz11_3
      try clear hcz11_4
      try clear hcz11_5
      try clear hcz11_6
      try clear hcz19_0
      try clear hcz19_1
      try clear hcz19_2
      try clear hcz19_3
      try clear hcz19_4
      try clear hcz19_5
      try clear hcz19_6
      try clear hcz7_0
      try clear hcz7_1
      try clear hcz7_2
      try clear hcz7_3
      try clear hcz7_4
      try clear hcz7_5
      try clear hcz7_6
      try clear hfz11_0
      try clear hfz11_1
      try clear hfz11_2
      try clear hfz11_3
      try clear hfz11_4
      try clear hfz11_5
      try clear hfz11_6
      try clear hfz19_0
      try clear hfz19_1
      try clear hfz19_2
      try clear hfz19_3
      try clear hfz19_4
      try clear hfz19_5
      try clear hfz19_6
      try clear hfz7_0
      try clear hfz7_1
      try clear hfz7_2
      try clear hfz7_3
      try clear hfz7_4
      try clear hfz7_5
      try clear hfz7_6
      try clear hx292_0
      try clear hx292_1
      try clear hx292_2
      try clear hx292_3
      try clear hx292_4
      try clear hx292_5
      try clear hx292_6
      try clear p2
      try clear p292
      try clear q2
      try clear q292
      obtain ⟨x6_2, x8_2, rfl, rfl, HA, HK2, HO_7, BK293, HB⟩ := hrel
      cases gk with
      | zero => exact absurd HA.out (by simp [spec_l23Effect.l0])
      | succ k2 =>
       have H := HA.out
       clear HA
       simp only [spec_l23Effect.l0] at H
       by_cases c21 : x8_2 < (t295.length : Int)
       ·rw [if_pos c21] at H
        have c21b0 := decide_eq_true c21
        clear c21
        by_cases c22 : 0 ≤ x8_2
        ·rw [if_pos c22] at H
         have c22b0 := decide_eq_true c22
         clear c22
         obtain ⟨t299, A23, H⟩ := bx H
         have H' := Aside0.mk H
         clear H
         obtain ⟨Ao24, co24, eo24⟩ := Kd.R_slice HO_7.out
         subst eo24
         have p298 : 0 ≤ (x8_2 : Int) := of_decide_eq_true as0
         have q298 : x8_2 < (t295.length : Int) := of_decide_eq_true as0
         obtain ⟨ad298, e298, hx298_0⟩ := Kd.at_int (Kd.R_reads' HO_7.out).2.2 x8_2 p298 q298
         cases e298
         replace p298 := eq_true p298
         replace q298 := eq_true q298
         go_wp2_with (first | ((with_reducible refine gate_callee (f := 27) rfl ?_); refine goesL_ (some 47) rfl rfl Tryd.func27 (by kernel_rfl) rfl #[.slice (some ad292) l0.length c0, .int .i64 (rd t295 x8_2)] rfl mm0 ?_; (with_reducible refine (ih k2 (by have := HJ4.out; have := HK2.out; omega) _ _ l0 (rd t295 x8_2) t299 _ ?side1 ?side2 A23.out).mono ?_); (case side1 => exact cc0 (Kd.C_below HR0.out HB.out)); (case side2 => exact HC0.out); rintro e w25 ⟨rfl, hb⟩; refine ⟨_, rfl, ?_⟩; replace HO_7 := Aside0.mk (Kd.R_below (ra0 HO_7.out) hb); replace BK293 := Aside0.mk (blk_below (g := gb293) (bk0 BK293.out) hb); replace HB := Aside0.mk (below_step (bb1 GE293.out) hb); clear hb))
         go_roundg k2
         case measure => have := HJ4.out; have := HK2.out; omega
         case rel => exact ⟨(Go.bits .or .i64 x6_2 t299), (wrap64 (x8_2 + 1)), rs0, rs0, H', ⟨by have := HJ4.out; have := HK2.out; omega⟩, ⟨by refine ra0 ?_; exact HO_7.out⟩, ⟨by refine bk0 ?_; exact BK293.out⟩, ⟨bb1 GE293.out⟩⟩
        ·rw [if_neg c22] at H
         exact absurd H (by simp)
       ·rw [if_neg c21] at H
        have c21b0 := decide_eq_false c21
        clear c21
        obtain rfl := Option.some.inj H
        obtain ⟨Ao26, co26, eo26⟩ := Kd.R_slice HO_7.out
        subst eo26
        go_wp2
        go_ret
        exact ⟨er0, bb1 GE293.out⟩
  ·rw [if_neg c4] at H
   exact absurd H (by simp)
 ·rw [if_neg c3] at H
  exact absurd H (by simp)

/-! ### spec_l3Shift: function 61 -/
mutual
def spec_l3Shift.l0 : Nat → List (S48) → Int → List (S48) → Int → Option ((List (S48)))
 | 0, _, _, _, _ => none
 | k + 1, x0, x1, x5, x6 => if x6 < (x0.length : Int) then (if 0 ≤ x6 then ((spec_Arity.f k ((rd_T48 x0 x6).f0)).bind fun t305 => (if t305 > 0 then (spec_l3Shift.j1 k x0 x1 x5 x6 t305 ((rd_T48 x0 x6).f0) (wrap64 (((rd_T48 x0 x6).f1) + x1)) ((rd_T48 x0 x6).f2) ((rd_T48 x0 x6).f3) ((rd_T48 x0 x6).f4) ((rd_T48 x0 x6).f5) ((rd_T48 x0 x6).f6)) else (spec_l3Shift.j1 k x0 x1 x5 x6 t305 ((rd_T48 x0 x6).f0) ((rd_T48 x0 x6).f1) ((rd_T48 x0 x6).f2) ((rd_T48 x0 x6).f3) ((rd_T48 x0 x6).f4) ((rd_T48 x0 x6).f5) ((rd_T48 x0 x6).f6)))) else (none)) else (some x5)
def spec_l3Shift.j1 : Nat → List (S48) → Int → List (S48) → Int → Int → Int → Int → Int → Int → Int → ByteArray → ByteArray → Option ((List (S48)))
 | 0, _, _, _, _, _, _, _, _, _, _, _, _ => none
 | k + 1, x0, x1, x5, x6, x8, x305000, x305001, x305002, x305003, x305004, x305005, x305006 => if x8 > 1 then (if x8 > 2 then (if x5.length < 1954687338268 then (spec_l3Shift.l0 k x0 x1 (x5 ++ [(⟨x305000, x305001, wrap64 (x305002 + x1), wrap64 (x305003 + x1), x305004, x305005, x305006⟩ : S48)]) (wrap64 (x6 + 1))) else (none)) else (if x5.length < 1954687338268 then (spec_l3Shift.l0 k x0 x1 (x5 ++ [(⟨x305000, x305001, wrap64 (x305002 + x1), x305003, x305004, x305005, x305006⟩ : S48)]) (wrap64 (x6 + 1))) else (none))) else (if x8 > 2 then (if x5.length < 1954687338268 then (spec_l3Shift.l0 k x0 x1 (x5 ++ [(⟨x305000, x305001, x305002, wrap64 (x305003 + x1), x305004, x305005, x305006⟩ : S48)]) (wrap64 (x6 + 1))) else (none)) else (if x5.length < 1954687338268 then (spec_l3Shift.l0 k x0 x1 (x5 ++ [(⟨x305000, x305001, x305002, x305003, x305004, x305005, x305006⟩ : S48)]) (wrap64 (x6 + 1))) else (none)))
end
def spec_l3Shift.f (k : Nat) (l0 : List (S48)) (a1 : Int) : Option ((List (S48))) := spec_l3Shift.l0 k l0 a1 (([] : List (S48))) 0
theorem spec_l3Shift.mono_l : ∀ k, (∀ y0 y1 y2 y3, LeO (spec_l3Shift.l0 k y0 y1 y2 y3) (spec_l3Shift.l0 (k + 1) y0 y1 y2 y3)) ∧ (∀ y0 y1 y2 y3 y4 y5 y6 y7 y8 y9 y10 y11, LeO (spec_l3Shift.j1 k y0 y1 y2 y3 y4 y5 y6 y7 y8 y9 y10 y11) (spec_l3Shift.j1 (k + 1) y0 y1 y2 y3 y4 y5 y6 y7 y8 y9 y10 y11))
 | 0 => ⟨fun _ _ _ _ r h => by simp [spec_l3Shift.l0] at h, fun _ _ _ _ _ _ _ _ _ _ _ _ r h => by simp [spec_l3Shift.j1] at h⟩
 | k + 1 => by
  obtain ⟨ih0, ih1⟩ := spec_l3Shift.mono_l k
  refine ⟨?_, ?_⟩
  ·intro y0 y1 y2 y3
   unfold spec_l3Shift.l0
   repeat' first
   | (with_reducible exact ih0 _ _ _ _)
   | (with_reducible exact ih1 _ _ _ _ _ _ _ _ _ _ _ _)
   | (with_reducible exact spec_Arity.mono _ _)
   | (with_reducible exact LeO.refl _)
   | (with_reducible exact LeO.none _)
   | (with_reducible refine LeO.ite ?_ ?_)
   | (with_reducible refine LeO.bind ?_ (fun _ => ?_))
   | exact ih0 _ _ _ _
   | exact ih1 _ _ _ _ _ _ _ _ _ _ _ _
   | exact spec_Arity.mono _ _
   | exact LeO.none _
   | refine LeO.ite ?_ ?_
   | refine LeO.bind ?_ (fun _ => ?_)
  ·intro y0 y1 y2 y3 y4 y5 y6 y7 y8 y9 y10 y11
   unfold spec_l3Shift.j1
   repeat' first
   | (with_reducible exact ih0 _ _ _ _)
   | (with_reducible exact ih1 _ _ _ _ _ _ _ _ _ _ _ _)
   | (with_reducible exact spec_Arity.mono _ _)
   | (with_reducible exact LeO.refl _)
   | (with_reducible exact LeO.none _)
   | (with_reducible refine LeO.ite ?_ ?_)
   | (with_reducible refine LeO.bind ?_ (fun _ => ?_))
   | exact ih0 _ _ _ _
   | exact ih1 _ _ _ _ _ _ _ _ _ _ _ _
   | exact spec_Arity.mono _ _
   | exact LeO.none _
   | refine LeO.ite ?_ ?_
   | refine LeO.bind ?_ (fun _ => ?_)
theorem spec_l3Shift.mono : ∀ a0 a1 k, LeO (spec_l3Shift.f k a0 a1) (spec_l3Shift.f (k + 1) a0 a1) := by
 intro a0 a1 k
 obtain ⟨ih0, ih1⟩ := spec_l3Shift.mono_l k
 unfold spec_l3Shift.f
 repeat' first
   | (with_reducible exact ih0 _ _ _ _)
   | (with_reducible exact ih1 _ _ _ _ _ _ _ _ _ _ _ _)
   | (with_reducible exact spec_Arity.mono _ _)
   | (with_reducible exact LeO.refl _)
   | (with_reducible exact LeO.none _)
   | (with_reducible refine LeO.ite ?_ ?_)
   | (with_reducible refine LeO.bind ?_ (fun _ => ?_))
   | exact ih0 _ _ _ _
   | exact ih1 _ _ _ _ _ _ _ _ _ _ _ _
   | exact spec_Arity.mono _ _
   | exact LeO.none _
   | refine LeO.ite ?_ ?_
   | refine LeO.bind ?_ (fun _ => ?_)
set_option maxHeartbeats 8000000 in
set_option maxRecDepth 100000 in
theorem spec_l3Shift.calls (k : Nat) (A0 : Option Addr) (c0 : Nat) (l0 : List (S48)) (a1 : Int) (r : List (S48)) (w : World) (hr0 : Kd.C k48 w A0 l0.length l0) (hc0 : l0.length ≤ c0) (h : spec_l3Shift.f k l0 a1 = some r) :
  Calls Tryd.prog 61 #[.slice A0 l0.length c0, .int .i64 a1] w fun e w' => ∃ v0_ : Value, e = .returned (v0_) ∧ Kd.R k48 48 w' w.heap.size (fun _ => True) v0_ r ∧ Below w.heap.size w w' := by
 have hu48 := Tryd.underlying48
 have HR0 := Aside0.mk hr0
 have HC0 := Aside0.mk hc0
 clear hr0 hc0
 have HB := Aside0.mk (Below.refl w.heap.size w)
 have H := h; unfold spec_l3Shift.f at H
 clear h
 obtain ⟨y300, hy300⟩ : ∃ y_ : List (S48), y_ = (([] : List (S48))) := ⟨_, rfl⟩
 replace H : (spec_l3Shift.l0 k l0 a1 y300 0) = some r := by first | (rw [hy300]; with_reducible exact H) | (have H2_ := (Option.bind_some _ _).symm.trans H; rw [hy300]; with_reducible exact H2_) | (have H2_ := (Option.bind_some _ _).symm.trans H; with_reducible exact H2_) | with_reducible exact H | (rw [hy300]; exact H) | exact H
 have Ny300 := Aside0.mk hy300
 clear hy300
 have H' := Aside0.mk H
 clear H
 go_enter Tryd.func61, Tryd.ntmps61
 go_wp2_with (first | ((with_reducible refine gate_dst (N := 9) rfl ?_); refine Kd.R_lit k48 _ 48 ?hg (N := 9) ?hd (xs := ([] : List (S48))) (inner := []) (ok := fun _ => True) (okp := fun _ => True) ?hr ?hp (fun _ hk => hk) trivial (Below.refl _ _) (Nat.le_refl _) (by simp) ?_; (case hd => rfl); (case hg => rfl); (case hr => first | (go_simp; done) | (go_simp; rfl)); (case hp => exact (Reps.none _ _)); intro v301 w3 ho4 hb hg_ hnew_; clear hg_ hnew_; (first | rw [← Ny300.out] at ho4 | (simp only [Int.reduceToNat] at ho4; rw [← Ny300.out] at ho4)); have HO302 := Aside0.mk (Kd.R_lower ho4 (below_size bb0)); replace HB := Aside0.mk (below_step bb0 hb); clear hb ho4))
 go_loopg [5, 6] k (fun kq v5 v6 w' => ∃ (x5_1 : List (S48)) (x6_1 : Int), v6 = .int .i64 x6_1 ∧ Aside0 (spec_l3Shift.l0 kq l0 a1 x5_1 x6_1 = some r) ∧ Aside0 (kq ≤ k) ∧ Aside0 (Kd.R k48 48 w' w.heap.size (fun _ => True) v5 x5_1) ∧ Aside0 (Below w.heap.size w w'))
 case atStart => exact ⟨(y300), (0), rs0, H', ⟨Nat.le_refl _⟩, ⟨by refine ra0 ?_; exact HO302.out⟩, ⟨bb0⟩⟩
 case round =>
  clear H'
  try clear p2
  obtain ⟨x5_1, x6_1, rfl, HA, HK1, HO_5, HB⟩ := hrel
  cases gk with
  | zero => exact absurd HA.out (by simp [spec_l3Shift.l0])
  | succ k1 =>
   have H := HA.out
   clear HA
   simp only [spec_l3Shift.l0] at H
   by_cases c5 : x6_1 < (l0.length : Int)
   ·rw [if_pos c5] at H
    have c5b0 := decide_eq_true c5
    clear c5
    by_cases c6 : 0 ≤ x6_1
    ·rw [if_pos c6] at H
     have c6b0 := decide_eq_true c6
     clear c6
     obtain ⟨t305, A7, H⟩ := bx H
     have HC8 := Aside0.mk H
     clear H
     have p303 : 0 ≤ (x6_1 : Int) := of_decide_eq_true as0
     have q303 : x6_1 < (l0.length : Int) := of_decide_eq_true as0
     obtain ⟨ad303, e303, hx303_0, hx303_1, hx303_2, hx303_3, hx303_4, hx303_5, hx303_6⟩ := at_T48 HR0.out x6_1 p303 q303
     cases e303
     replace hx303_0 := hbc HB hx303_0
     replace hx303_1 := hbc HB hx303_1
     replace hx303_2 := hbc HB hx303_2
     replace hx303_3 := hbc HB hx303_3
     replace hx303_4 := hbc HB hx303_4
     replace hx303_5 := hbc HB hx303_5
     replace hx303_6 := hbc HB hx303_6
     replace p303 := eq_true p303
     replace q303 := eq_true q303
     go_upto_if 24 with (first | ((with_reducible refine gate_dst (N := 7) rfl ?_); refine box_event ?hg (N := 7) ?hd (cs := #[.int .i64 0, .int .i64 0, .int .i64 0, .int .i64 0, .int .i64 0, .string (⟨#[]⟩ : ByteArray), .string (⟨#[]⟩ : ByteArray)]) (t := 48) ?hr ?_; (case hd => rfl); (case hg => rfl); (case hr => first | (go_simp; done) | (go_simp; rfl)); intro gb304 hg w9 hbox hb; replace HO_5 := Aside0.mk (Kd.R_below (Kd.R_elderB (ra0 HO_5.out) gb304 (Nat.le_of_eq hg.symm)) hb); have BK304 := Aside0.mk (hbox); have GW304 := Aside0.mk ((by rw [hg]; exact (below_size bb0) : w.heap.size ≤ gb304)); have GE304 := Aside0.mk ((by rw [hg]; exact (below_size bb0) : w.heap.size ≤ gb304)); replace HB := Aside0.mk (below_step bb0 hb); clear hb hbox hg; obtain ⟨hcz10_0, hcz10_1, hcz10_2, hcz10_3, hcz10_4, hcz10_5, hcz10_6⟩ := cells7 BK304.out; obtain ⟨hfz10_0, hfz10_1, hfz10_2, hfz10_3, hfz10_4, hfz10_5, hfz10_6⟩ := frz7 BK304.out) | ((with_reducible refine gate_callee (f := 55) rfl ?_); refine goesL_ (some 22) rfl rfl Tryd.func55 (by kernel_rfl) rfl #[.int .i64 ((rd_T48 l0 x6_1).f0)] rfl mm0 ?_; (with_reducible refine (spec_Arity.calls k1 ((rd_T48 l0 x6_1).f0) t305 _ A7.out).mono ?_); rintro e w' ⟨rfl, ⟨nd, rfl⟩⟩; refine ⟨_, rfl, ?_⟩))
     (try simp only [Act.put, List.setIfInBounds_toArray, List.set_cons_zero, List.set_cons_succ])
     go_cut [] (fun wc => ∃ (kq : Nat) (x305001_7 : Int), Aside0 (spec_l3Shift.j1 kq l0 a1 x5_1 x6_1 t305 ((rd_T48 l0 x6_1).f0) x305001_7 ((rd_T48 l0 x6_1).f2) ((rd_T48 l0 x6_1).f3) ((rd_T48 l0 x6_1).f4) ((rd_T48 l0 x6_1).f5) ((rd_T48 l0 x6_1).f6) = some r) ∧ Aside0 (kq ≤ k1) ∧ Aside0 (Kd.R k48 48 wc w.heap.size (fun k_ => k_ ≠ gb304) u5 x5_1) ∧ Aside0 (wc.heap[gb304]? = some (.cells #[.int .i64 ((rd_T48 l0 x6_1).f0), .int .i64 x305001_7, .int .i64 ((rd_T48 l0 x6_1).f2), .int .i64 ((rd_T48 l0 x6_1).f3), .int .i64 ((rd_T48 l0 x6_1).f4), .string ((rd_T48 l0 x6_1).f5), .string ((rd_T48 l0 x6_1).f6)] 48 (0, 0))) ∧ Aside0 (Below w.heap.size w wc))
     case first =>
      have H := HC8.out
      clear HC8
      by_cases c11 : t305 > 0
      ·rw [if_pos c11] at H
       have c11b0 := decide_eq_true c11
       clear c11
       (first | rw [c11b0] | (simp only [i64_w, i32_w]; rw [c11b0]) | skip)
       have H' := Aside0.mk H
       clear H
       obtain ⟨hcz12_0, hcz12_1, hcz12_2, hcz12_3, hcz12_4, hcz12_5, hcz12_6⟩ := cells7 BK304.out
       obtain ⟨hfz12_0, hfz12_1, hfz12_2, hfz12_3, hfz12_4, hfz12_5, hfz12_6⟩ := frz7 BK304.out
       go_wp2
       go_meet
       case rel => exact ⟨_, (wrap64 (((rd_T48 l0 x6_1).f1) + a1)), H', ⟨by have := HK1.out; first | omega | exact Nat.le_refl _⟩, ⟨by (try simp only [setCell_drewN]); refine ra0 ?_; exact Kd.R_mono (Kd.R_far (p := ⟨gb304, 1, none⟩) (Kd.R_far (p := ⟨gb304, 6, none⟩) (Kd.R_far (p := ⟨gb304, 5, none⟩) (Kd.R_far (p := ⟨gb304, 4, none⟩) (Kd.R_far (p := ⟨gb304, 3, none⟩) (Kd.R_far (p := ⟨gb304, 2, none⟩) (Kd.R_far (p := ⟨gb304, 1, none⟩) (Kd.R_far (p := ⟨gb304, 0, none⟩) (Kd.R_mono HO_5.out (fun k_ hk => (⟨hk, hk.2⟩ : _ ∧ k_ ≠ gb304))) (fun _ hk => hk.2) (.int .i64 ((rd_T48 l0 x6_1).f0))) (fun _ hk => hk.2) (.int .i64 ((rd_T48 l0 x6_1).f1))) (fun _ hk => hk.2) (.int .i64 ((rd_T48 l0 x6_1).f2))) (fun _ hk => hk.2) (.int .i64 ((rd_T48 l0 x6_1).f3))) (fun _ hk => hk.2) (.int .i64 ((rd_T48 l0 x6_1).f4))) (fun _ hk => hk.2) (.string ((rd_T48 l0 x6_1).f5))) (fun _ hk => hk.2) (.string ((rd_T48 l0 x6_1).f6))) (fun _ hk => hk.2) (.int .i64 (wrap64 (((rd_T48 l0 x6_1).f1) + a1)))) (fun _ hk => hk.1.2)⟩, ⟨bk1 BK304.out⟩, ⟨bb1 GE304.out⟩⟩
      ·rw [if_neg c11] at H
       have c11b0 := decide_eq_false c11
       clear c11
       (first | rw [c11b0] | (simp only [i64_w, i32_w]; rw [c11b0]) | skip)
       have H' := Aside0.mk H
       clear H
       go_wp2
       go_meet
       case rel => exact ⟨_, ((rd_T48 l0 x6_1).f1), H', ⟨by have := HK1.out; first | omega | exact Nat.le_refl _⟩, ⟨by (try simp only [setCell_drewN]); refine ra0 ?_; exact Kd.R_mono (Kd.R_far (p := ⟨gb304, 6, none⟩) (Kd.R_far (p := ⟨gb304, 5, none⟩) (Kd.R_far (p := ⟨gb304, 4, none⟩) (Kd.R_far (p := ⟨gb304, 3, none⟩) (Kd.R_far (p := ⟨gb304, 2, none⟩) (Kd.R_far (p := ⟨gb304, 1, none⟩) (Kd.R_far (p := ⟨gb304, 0, none⟩) (Kd.R_mono HO_5.out (fun k_ hk => (⟨hk, hk.2⟩ : _ ∧ k_ ≠ gb304))) (fun _ hk => hk.2) (.int .i64 ((rd_T48 l0 x6_1).f0))) (fun _ hk => hk.2) (.int .i64 ((rd_T48 l0 x6_1).f1))) (fun _ hk => hk.2) (.int .i64 ((rd_T48 l0 x6_1).f2))) (fun _ hk => hk.2) (.int .i64 ((rd_T48 l0 x6_1).f3))) (fun _ hk => hk.2) (.int .i64 ((rd_T48 l0 x6_1).f4))) (fun _ hk => hk.2) (.string ((rd_T48 l0 x6_1).f5))) (fun _ hk => hk.2) (.string ((rd_T48 l0 x6_1).f6))) (fun _ hk => hk.1.2)⟩, ⟨bk1 BK304.out⟩, ⟨bb1 GE304.out⟩⟩
     case rest =>
      clear HC8
      try clear c1
      try clear p2
      try clear p3
      try clear q3
      try clear hx3
      try clear c5
      try clear c5b0
      try clear c6
      try clear c6b0
      try clear p6
      try clear c11
      try clear c11b0
      try clear hcz10_0
      try clear hcz10_1
      try clear hcz10_2
      try clear hcz10_3
      try clear hcz10_4
      try clear hcz10_5
      try clear hcz10_6
      try clear hcz12_0
      try clear hcz12_1
      try clear hcz12_2
      try clear hcz12_3
      try clear hcz12_4
      try clear hcz12_5
      try clear hcz12_6
      try clear hfz10_0
      try clear hfz10_1
      try clear hfz10_2
      try clear hfz10_3
      try clear hfz10_4
      try clear hfz10_5
      try clear hfz10_6
      try clear hfz12_0
      try clear hfz12_1
      try clear hfz12_2
      try clear hfz12_3
      try clear hfz12_4
      try clear hfz12_5
      try clear hfz12_6
      try clear hx303_0
      try clear hx303_1
      try clear hx303_2
      try clear hx303_3
      try clear hx303_4
      try clear hx303_5
      try clear hx303_6
      try clear p2
      try clear p303
      try clear q303
      obtain ⟨kq, x305001_7, HA, HJ7, HO_5, BK304, HB⟩ := hcut
      cases kq with
      | zero => exact absurd HA.out (by simp [spec_l3Shift.j1])
      | succ kj7 =>
       have H := HA.out
       clear HA
       simp only [spec_l3Shift.j1] at H
       by_cases c13 : t305 > 1
       ·rw [if_pos c13] at H
        have c13b0 := decide_eq_true c13
        clear c13
        by_cases c14 : t305 > 2
        ·rw [if_pos c14] at H
         have c14b0 := decide_eq_true c14
         clear c14
         by_cases c15 : x5_1.length < 1954687338268
         ·rw [if_pos c15] at H
          have LMc15 := Aside0.mk c15
          clear c15
          obtain ⟨y306, hy306⟩ : ∃ y_ : List (S48), y_ = (x5_1 ++ [(⟨((rd_T48 l0 x6_1).f0), x305001_7, wrap64 (((rd_T48 l0 x6_1).f2) + a1), wrap64 (((rd_T48 l0 x6_1).f3) + a1), ((rd_T48 l0 x6_1).f4), ((rd_T48 l0 x6_1).f5), ((rd_T48 l0 x6_1).f6)⟩ : S48)]) := ⟨_, rfl⟩
          replace H : (spec_l3Shift.l0 kj7 l0 a1 y306 (wrap64 (x6_1 + 1))) = some r := by first | (rw [hy306]; with_reducible exact H) | (have H2_ := (Option.bind_some _ _).symm.trans H; rw [hy306]; with_reducible exact H2_) | (have H2_ := (Option.bind_some _ _).symm.trans H; with_reducible exact H2_) | with_reducible exact H | (rw [hy306]; exact H) | exact H
          have Ny306 := Aside0.mk hy306
          clear hy306
          have H' := Aside0.mk H
          clear H
          obtain ⟨hcz16_0, hcz16_1, hcz16_2, hcz16_3, hcz16_4, hcz16_5, hcz16_6⟩ := cells7 BK304.out
          obtain ⟨hfz16_0, hfz16_1, hfz16_2, hfz16_3, hfz16_4, hfz16_5, hfz16_6⟩ := frz7 BK304.out
          go_wp2_with (first | ((with_reducible refine gate_builtin (b := .append) (xs := #[(.tmp 44), .tmp 46]) rfl ?_); at_builtin; refine Kd.R_append k48 (w0 := w) w.heap.size rfl (.tmp 44) (.tmp 46) 25 48 (.agg #[(.int .i64 0), (.int .i64 0), (.int .i64 0), (.int .i64 0), (.int .i64 0), (.string ⟨#[]⟩), (.string ⟨#[]⟩)]) 72 rfl Tryd.underlying25 info48 rfl (by decide) (by omega) u5 x5_1 (⟨((rd_T48 l0 x6_1).f0), x305001_7, wrap64 (((rd_T48 l0 x6_1).f2) + a1), wrap64 (((rd_T48 l0 x6_1).f3) + a1), ((rd_T48 l0 x6_1).f4), ((rd_T48 l0 x6_1).f5), ((rd_T48 l0 x6_1).f6)⟩ : S48) [.int .i64 ((rd_T48 l0 x6_1).f0), .int .i64 x305001_7, .int .i64 (wrap64 (((rd_T48 l0 x6_1).f2) + a1)), .int .i64 (wrap64 (((rd_T48 l0 x6_1).f3) + a1)), .int .i64 ((rd_T48 l0 x6_1).f4), .string ((rd_T48 l0 x6_1).f5), .string ((rd_T48 l0 x6_1).f6)] (fun k_ => k_ ≠ gb304) (fun _ => False) rfl (by first | (go_simp; done) | (go_simp; rfl)) ?aP (fun _ hk => hk.elim) ?aF ?aO ?aB ?aS ?aL ?_; (case aP => exact k48_mkM _ _ _ (⟨((rd_T48 l0 x6_1).f0), x305001_7, wrap64 (((rd_T48 l0 x6_1).f2) + a1), wrap64 (((rd_T48 l0 x6_1).f3) + a1), ((rd_T48 l0 x6_1).f4), ((rd_T48 l0 x6_1).f5), ((rd_T48 l0 x6_1).f6)⟩ : S48)); (case aB => exact (bb1 GE304.out)); (case aF => exact (fun k_ hk => Kd.freshB (g := gb304) (bk1 BK304.out) k_ hk)); (case aO => exact (by (try simp only [setCell_drewN]); refine ra0 ?_; exact Kd.R_mono (Kd.R_far (p := ⟨gb304, 3, none⟩) (Kd.R_far (p := ⟨gb304, 2, none⟩) (Kd.R_mono HO_5.out (fun k_ hk => (⟨hk, hk⟩ : _ ∧ k_ ≠ gb304))) (fun _ hk => hk.2) (.int .i64 (wrap64 (((rd_T48 l0 x6_1).f2) + a1)))) (fun _ hk => hk.2) (.int .i64 (wrap64 (((rd_T48 l0 x6_1).f3) + a1)))) (fun _ hk => hk.1))); (case aS => exact (below_size (bb1 GE304.out))); (case aL => have := LMc15.out; omega); intro v307 w17 ho hb hg hat; rw [← Ny306.out] at ho; have n0_ := Aside0.mk (blk_grown (g := gb304) (bk1 BK304.out) hg (Kd.R_away HO_5.out (fun _ hk => hk))); have n1_ := Aside0.mk (hb); have n2_ := Aside0.mk (ho); clear BK304; clear HB; clear HO_5; have BK304 := n0_; have HB := n1_; have HO308 := n2_; clear n0_ n1_ n2_; clear ho hb hg hat))
          go_roundg kj7
          case measure => have := HK1.out; have := HJ7.out; omega
          case rel => exact ⟨(y306), (wrap64 (x6_1 + 1)), rs0, H', ⟨by have := HK1.out; have := HJ7.out; omega⟩, ⟨by refine ra0 ?_; exact Kd.R_mono HO308.out (fun _ hk => trivial)⟩, ⟨bb1 GE304.out⟩⟩
         ·rw [if_neg c15] at H
          exact absurd H (by simp)
        ·rw [if_neg c14] at H
         have c14b0 := decide_eq_false c14
         clear c14
         by_cases c18 : x5_1.length < 1954687338268
         ·rw [if_pos c18] at H
          have LMc18 := Aside0.mk c18
          clear c18
          obtain ⟨y309, hy309⟩ : ∃ y_ : List (S48), y_ = (x5_1 ++ [(⟨((rd_T48 l0 x6_1).f0), x305001_7, wrap64 (((rd_T48 l0 x6_1).f2) + a1), ((rd_T48 l0 x6_1).f3), ((rd_T48 l0 x6_1).f4), ((rd_T48 l0 x6_1).f5), ((rd_T48 l0 x6_1).f6)⟩ : S48)]) := ⟨_, rfl⟩
          replace H : (spec_l3Shift.l0 kj7 l0 a1 y309 (wrap64 (x6_1 + 1))) = some r := by first | (rw [hy309]; with_reducible exact H) | (have H2_ := (Option.bind_some _ _).symm.trans H; rw [hy309]; with_reducible exact H2_) | (have H2_ := (Option.bind_some _ _).symm.trans H; with_reducible exact H2_) | with_reducible exact H | (rw [hy309]; exact H) | exact H
          have Ny309 := Aside0.mk hy309
          clear hy309
          have H' := Aside0.mk H
          clear H
          obtain ⟨hcz19_0, hcz19_1, hcz19_2, hcz19_3, hcz19_4, hcz19_5, hcz19_6⟩ := cells7 BK304.out
          obtain ⟨hfz19_0, hfz19_1, hfz19_2, hfz19_3, hfz19_4, hfz19_5, hfz19_6⟩ := frz7 BK304.out
          go_wp2_with (first | ((with_reducible refine gate_builtin (b := .append) (xs := #[(.tmp 44), .tmp 46]) rfl ?_); at_builtin; refine Kd.R_append k48 (w0 := w) w.heap.size rfl (.tmp 44) (.tmp 46) 25 48 (.agg #[(.int .i64 0), (.int .i64 0), (.int .i64 0), (.int .i64 0), (.int .i64 0), (.string ⟨#[]⟩), (.string ⟨#[]⟩)]) 72 rfl Tryd.underlying25 info48 rfl (by decide) (by omega) u5 x5_1 (⟨((rd_T48 l0 x6_1).f0), x305001_7, wrap64 (((rd_T48 l0 x6_1).f2) + a1), ((rd_T48 l0 x6_1).f3), ((rd_T48 l0 x6_1).f4), ((rd_T48 l0 x6_1).f5), ((rd_T48 l0 x6_1).f6)⟩ : S48) [.int .i64 ((rd_T48 l0 x6_1).f0), .int .i64 x305001_7, .int .i64 (wrap64 (((rd_T48 l0 x6_1).f2) + a1)), .int .i64 ((rd_T48 l0 x6_1).f3), .int .i64 ((rd_T48 l0 x6_1).f4), .string ((rd_T48 l0 x6_1).f5), .string ((rd_T48 l0 x6_1).f6)] (fun k_ => k_ ≠ gb304) (fun _ => False) rfl (by first | (go_simp; done) | (go_simp; rfl)) ?aP (fun _ hk => hk.elim) ?aF ?aO ?aB ?aS ?aL ?_; (case aP => exact k48_mkM _ _ _ (⟨((rd_T48 l0 x6_1).f0), x305001_7, wrap64 (((rd_T48 l0 x6_1).f2) + a1), ((rd_T48 l0 x6_1).f3), ((rd_T48 l0 x6_1).f4), ((rd_T48 l0 x6_1).f5), ((rd_T48 l0 x6_1).f6)⟩ : S48)); (case aB => exact (bb1 GE304.out)); (case aF => exact (fun k_ hk => Kd.freshB (g := gb304) (bk1 BK304.out) k_ hk)); (case aO => exact (by (try simp only [setCell_drewN]); refine ra0 ?_; exact Kd.R_mono (Kd.R_far (p := ⟨gb304, 2, none⟩) (Kd.R_mono HO_5.out (fun k_ hk => (⟨hk, hk⟩ : _ ∧ k_ ≠ gb304))) (fun _ hk => hk.2) (.int .i64 (wrap64 (((rd_T48 l0 x6_1).f2) + a1)))) (fun _ hk => hk.1))); (case aS => exact (below_size (bb1 GE304.out))); (case aL => have := LMc18.out; omega); intro v310 w20 ho hb hg hat; rw [← Ny309.out] at ho; have n0_ := Aside0.mk (blk_grown (g := gb304) (bk1 BK304.out) hg (Kd.R_away HO_5.out (fun _ hk => hk))); have n1_ := Aside0.mk (hb); have n2_ := Aside0.mk (ho); clear BK304; clear HB; clear HO_5; have BK304 := n0_; have HB := n1_; have HO311 := n2_; clear n0_ n1_ n2_; clear ho hb hg hat))
          go_roundg kj7
          case measure => have := HK1.out; have := HJ7.out; omega
          case rel => exact ⟨(y309), (wrap64 (x6_1 + 1)), rs0, H', ⟨by have := HK1.out; have := HJ7.out; omega⟩, ⟨by refine ra0 ?_; exact Kd.R_mono HO311.out (fun _ hk => trivial)⟩, ⟨bb1 GE304.out⟩⟩
         ·rw [if_neg c18] at H
          exact absurd H (by simp)
       ·rw [if_neg c13] at H
        have c13b0 := decide_eq_false c13
        clear c13
        by_cases c21 : t305 > 2
        ·rw [if_pos c21] at H
         have c21b0 := decide_eq_true c21
         clear c21
         by_cases c22 : x5_1.length < 1954687338268
         ·rw [if_pos c22] at H
          have LMc22 := Aside0.mk c22
          clear c22
          obtain ⟨y312, hy312⟩ : ∃ y_ : List (S48), y_ = (x5_1 ++ [(⟨((rd_T48 l0 x6_1).f0), x305001_7, ((rd_T48 l0 x6_1).f2), wrap64 (((rd_T48 l0 x6_1).f3) + a1), ((rd_T48 l0 x6_1).f4), ((rd_T48 l0 x6_1).f5), ((rd_T48 l0 x6_1).f6)⟩ : S48)]) := ⟨_, rfl⟩
          replace H : (spec_l3Shift.l0 kj7 l0 a1 y312 (wrap64 (x6_1 + 1))) = some r := by first | (rw [hy312]; with_reducible exact H) | (have H2_ := (Option.bind_some _ _).symm.trans H; rw [hy312]; with_reducible exact H2_) | (have H2_ := (Option.bind_some _ _).symm.trans H; with_reducible exact H2_) | with_reducible exact H | (rw [hy312]; exact H) | exact H
          have Ny312 := Aside0.mk hy312
          clear hy312
          have H' := Aside0.mk H
          clear H
          obtain ⟨hcz23_0, hcz23_1, hcz23_2, hcz23_3, hcz23_4, hcz23_5, hcz23_6⟩ := cells7 BK304.out
          obtain ⟨hfz23_0, hfz23_1, hfz23_2, hfz23_3, hfz23_4, hfz23_5, hfz23_6⟩ := frz7 BK304.out
          go_wp2_with (first | ((with_reducible refine gate_builtin (b := .append) (xs := #[(.tmp 44), .tmp 46]) rfl ?_); at_builtin; refine Kd.R_append k48 (w0 := w) w.heap.size rfl (.tmp 44) (.tmp 46) 25 48 (.agg #[(.int .i64 0), (.int .i64 0), (.int .i64 0), (.int .i64 0), (.int .i64 0), (.string ⟨#[]⟩), (.string ⟨#[]⟩)]) 72 rfl Tryd.underlying25 info48 rfl (by decide) (by omega) u5 x5_1 (⟨((rd_T48 l0 x6_1).f0), x305001_7, ((rd_T48 l0 x6_1).f2), wrap64 (((rd_T48 l0 x6_1).f3) + a1), ((rd_T48 l0 x6_1).f4), ((rd_T48 l0 x6_1).f5), ((rd_T48 l0 x6_1).f6)⟩ : S48) [.int .i64 ((rd_T48 l0 x6_1).f0), .int .i64 x305001_7, .int .i64 ((rd_T48 l0 x6_1).f2), .int .i64 (wrap64 (((rd_T48 l0 x6_1).f3) + a1)), .int .i64 ((rd_T48 l0 x6_1).f4), .string ((rd_T48 l0 x6_1).f5), .string ((rd_T48 l0 x6_1).f6)] (fun k_ => k_ ≠ gb304) (fun _ => False) rfl (by first | (go_simp; done) | (go_simp; rfl)) ?aP (fun _ hk => hk.elim) ?aF ?aO ?aB ?aS ?aL ?_; (case aP => exact k48_mkM _ _ _ (⟨((rd_T48 l0 x6_1).f0), x305001_7, ((rd_T48 l0 x6_1).f2), wrap64 (((rd_T48 l0 x6_1).f3) + a1), ((rd_T48 l0 x6_1).f4), ((rd_T48 l0 x6_1).f5), ((rd_T48 l0 x6_1).f6)⟩ : S48)); (case aB => exact (bb1 GE304.out)); (case aF => exact (fun k_ hk => Kd.freshB (g := gb304) (bk1 BK304.out) k_ hk)); (case aO => exact (by (try simp only [setCell_drewN]); refine ra0 ?_; exact Kd.R_mono (Kd.R_far (p := ⟨gb304, 3, none⟩) (Kd.R_mono HO_5.out (fun k_ hk => (⟨hk, hk⟩ : _ ∧ k_ ≠ gb304))) (fun _ hk => hk.2) (.int .i64 (wrap64 (((rd_T48 l0 x6_1).f3) + a1)))) (fun _ hk => hk.1))); (case aS => exact (below_size (bb1 GE304.out))); (case aL => have := LMc22.out; omega); intro v313 w24 ho hb hg hat; rw [← Ny312.out] at ho; have n0_ := Aside0.mk (blk_grown (g := gb304) (bk1 BK304.out) hg (Kd.R_away HO_5.out (fun _ hk => hk))); have n1_ := Aside0.mk (hb); have n2_ := Aside0.mk (ho); clear BK304; clear HB; clear HO_5; have BK304 := n0_; have HB := n1_; have HO314 := n2_; clear n0_ n1_ n2_; clear ho hb hg hat))
          go_roundg kj7
          case measure => have := HK1.out; have := HJ7.out; omega
          case rel => exact ⟨(y312), (wrap64 (x6_1 + 1)), rs0, H', ⟨by have := HK1.out; have := HJ7.out; omega⟩, ⟨by refine ra0 ?_; exact Kd.R_mono HO314.out (fun _ hk => trivial)⟩, ⟨bb1 GE304.out⟩⟩
         ·rw [if_neg c22] at H
          exact absurd H (by simp)
        ·rw [if_neg c21] at H
         have c21b0 := decide_eq_false c21
         clear c21
         by_cases c25 : x5_1.length < 1954687338268
         ·rw [if_pos c25] at H
          have LMc25 := Aside0.mk c25
          clear c25
          obtain ⟨y315, hy315⟩ : ∃ y_ : List (S48), y_ = (x5_1 ++ [(⟨((rd_T48 l0 x6_1).f0), x305001_7, ((rd_T48 l0 x6_1).f2), ((rd_T48 l0 x6_1).f3), ((rd_T48 l0 x6_1).f4), ((rd_T48 l0 x6_1).f5), ((rd_T48 l0 x6_1).f6)⟩ : S48)]) := ⟨_, rfl⟩
          replace H : (spec_l3Shift.l0 kj7 l0 a1 y315 (wrap64 (x6_1 + 1))) = some r := by first | (rw [hy315]; with_reducible exact H) | (have H2_ := (Option.bind_some _ _).symm.trans H; rw [hy315]; with_reducible exact H2_) | (have H2_ := (Option.bind_some _ _).symm.trans H; with_reducible exact H2_) | with_reducible exact H | (rw [hy315]; exact H) | exact H
          have Ny315 := Aside0.mk hy315
          clear hy315
          have H' := Aside0.mk H
          clear H
          obtain ⟨hcz26_0, hcz26_1, hcz26_2, hcz26_3, hcz26_4, hcz26_5, hcz26_6⟩ := cells7 BK304.out
          obtain ⟨hfz26_0, hfz26_1, hfz26_2, hfz26_3, hfz26_4, hfz26_5, hfz26_6⟩ := frz7 BK304.out
          go_wp2_with (first | ((with_reducible refine gate_builtin (b := .append) (xs := #[(.tmp 44), .tmp 46]) rfl ?_); at_builtin; refine Kd.R_append k48 (w0 := w) w.heap.size rfl (.tmp 44) (.tmp 46) 25 48 (.agg #[(.int .i64 0), (.int .i64 0), (.int .i64 0), (.int .i64 0), (.int .i64 0), (.string ⟨#[]⟩), (.string ⟨#[]⟩)]) 72 rfl Tryd.underlying25 info48 rfl (by decide) (by omega) u5 x5_1 (⟨((rd_T48 l0 x6_1).f0), x305001_7, ((rd_T48 l0 x6_1).f2), ((rd_T48 l0 x6_1).f3), ((rd_T48 l0 x6_1).f4), ((rd_T48 l0 x6_1).f5), ((rd_T48 l0 x6_1).f6)⟩ : S48) [.int .i64 ((rd_T48 l0 x6_1).f0), .int .i64 x305001_7, .int .i64 ((rd_T48 l0 x6_1).f2), .int .i64 ((rd_T48 l0 x6_1).f3), .int .i64 ((rd_T48 l0 x6_1).f4), .string ((rd_T48 l0 x6_1).f5), .string ((rd_T48 l0 x6_1).f6)] (fun k_ => k_ ≠ gb304) (fun _ => False) rfl rfl ?aP (fun _ hk => hk.elim) ?aF ?aO ?aB ?aS ?aL ?_; (case aP => exact k48_mkM _ _ _ (⟨((rd_T48 l0 x6_1).f0), x305001_7, ((rd_T48 l0 x6_1).f2), ((rd_T48 l0 x6_1).f3), ((rd_T48 l0 x6_1).f4), ((rd_T48 l0 x6_1).f5), ((rd_T48 l0 x6_1).f6)⟩ : S48)); (case aB => exact (bb1 GE304.out)); (case aF => exact (fun k_ hk => Kd.freshB (g := gb304) (bk0 BK304.out) k_ hk)); (case aO => exact (ra0 HO_5.out)); (case aS => exact (below_size (bb1 GE304.out))); (case aL => have := LMc25.out; omega); intro v316 w27 ho hb hg hat; rw [← Ny315.out] at ho; have n0_ := Aside0.mk (blk_grown (g := gb304) (bk0 BK304.out) hg (Kd.R_away HO_5.out (fun _ hk => hk))); have n1_ := Aside0.mk (hb); have n2_ := Aside0.mk (ho); clear BK304; clear HB; clear HO_5; have BK304 := n0_; have HB := n1_; have HO317 := n2_; clear n0_ n1_ n2_; clear ho hb hg hat))
          go_roundg kj7
          case measure => have := HK1.out; have := HJ7.out; omega
          case rel => exact ⟨(y315), (wrap64 (x6_1 + 1)), rs0, H', ⟨by have := HK1.out; have := HJ7.out; omega⟩, ⟨by refine ra0 ?_; exact Kd.R_mono HO317.out (fun _ hk => trivial)⟩, ⟨bb1 GE304.out⟩⟩
         ·rw [if_neg c25] at H
          exact absurd H (by simp)
    ·rw [if_neg c6] at H
     exact absurd H (by simp)
   ·rw [if_neg c5] at H
    have c5b0 := decide_eq_false c5
    clear c5
    obtain rfl := Option.some.inj H
    go_wp2
    go_ret
    exact ⟨_, er0, by refine ra0 ?_; exact HO_5.out, bb0⟩

end Go.Proofs.YtoebebgeiahagaaDoor.PFnExactDropLets
