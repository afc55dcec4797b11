-- Printed by this session's own program (wip/tools)
import Derived.Test.YtoebebgeiahagaaDoorDlPFnExactDropLetsx0
import Derived.Test.YtoebebgeiahagaaDoorDlPFnExactDropLetsx5
import Derived.Test.YtoebebgeiahagaaDoorDlPFnExactDropLetsx8
import Derived.Test.YtoebebgeiahagaaDoorDlPFnExactDropLetsx9
namespace Go.Proofs.YtoebebgeiahagaaDoor.PFnExactDropLets
open Go.RowKit Go.Proofs.YtoebebgeiahagaaDoorW.PrintWords Go.Proofs.YtoebebgeiahagaaDoorW.PrintLast Go.Proofs.YtoebebgeiahagaaDoorW.PrintMore
attribute [local go_sem] max2_int min2_int max_two min_two max_three min_three max_four min_four   -- for this text's walks alone
set_option linter.unusedVariables false
set_option linter.unusedSimpArgs false

/-! ### spec_BinderOf: function 47 -/
mutual
def spec_BinderOf.j0 : Nat → List (S48) → Int → Bool → Int → Int → Option (Int × Int)
 | 0, _, _, _, _, _ => none
 | k + 1, x0, x1, x30, x262000, x262001 => if x30 = true then (some (x262000, x262001)) else ((spec_ParentOf.f k x0 x1).bind fun t265 => (spec_BinderOf.l0 k x0 x1 x1 t265 x262000 x262001))
def spec_BinderOf.l0 : Nat → List (S48) → Int → Int → Int → Int → Int → Option (Int × Int)
 | 0, _, _, _, _, _, _ => none
 | k + 1, x0, x1, x6, x7, x262000, x262001 => if x7 ≥ 0 then (if 0 ≤ x7 then (if x7 < (x0.length : Int) then ((spec_l6Bound.f k ((rd_T48 x0 x7).f0) ((rd_T48 x0 x7).f1) ((rd_T48 x0 x7).f2) ((rd_T48 x0 x7).f3) ((rd_T48 x0 x7).f4) ((rd_T48 x0 x7).f5) ((rd_T48 x0 x7).f6) x6).bind fun bt267 => (spec_BinderOf.l1 k x0 x1 x7 bt267.1 bt267.2 0 x262000 x262001)) else (none)) else (none)) else (some (x262000, x262001))
def spec_BinderOf.l1 : Nat → List (S48) → Int → Int → List ByteArray → List Int → Int → Int → Int → Option (Int × Int)
 | 0, _, _, _, _, _, _, _, _ => none
 | k + 1, x0, x1, x7, x8, x9, x10, x262000, x262001 => if x10 < (x8.length : Int) then (if 0 ≤ x10 then (if 0 ≤ x1 then (if x1 < (x0.length : Int) then (if (rdOf ByteArray.empty x8 x10).toList = ((rd_T48 x0 x1).f5).toList then (if x10 < (x9.length : Int) then (some (x7, rd x9 x10)) else (none)) else (spec_BinderOf.l1 k x0 x1 x7 x8 x9 (wrap64 (x10 + 1)) x262000 x262001)) else (none)) else (none)) else (none)) else ((spec_ParentOf.f k x0 x7).bind fun t276 => (spec_BinderOf.l0 k x0 x1 x7 t276 x262000 x262001))
end
def spec_BinderOf.f (k : Nat) (l0 : List (S48)) (a1 : Int) : Option (Int × Int) := (spec_NodesOk.f k l0).bind fun t262 => (if t262 = true then ((spec_l1In.f a1 0 (wrap64 ((l0.length : Int) - 1))).bind fun t263 => (if t263 = true then (if 0 ≤ a1 then (if a1 < (l0.length : Int) then (spec_BinderOf.j0 k l0 a1 (((rd_T48 l0 a1).f0) != 1) (-1) (-1)) else (none)) else (none)) else (spec_BinderOf.j0 k l0 a1 true (-1) (-1)))) else (spec_BinderOf.j0 k l0 a1 true (-1) (-1)))
theorem spec_BinderOf.mono_l : ∀ k, (∀ y0 y1 y2 y3 y4, LeO (spec_BinderOf.j0 k y0 y1 y2 y3 y4) (spec_BinderOf.j0 (k + 1) y0 y1 y2 y3 y4)) ∧ (∀ y0 y1 y2 y3 y4 y5, LeO (spec_BinderOf.l0 k y0 y1 y2 y3 y4 y5) (spec_BinderOf.l0 (k + 1) y0 y1 y2 y3 y4 y5)) ∧ (∀ y0 y1 y2 y3 y4 y5 y6 y7, LeO (spec_BinderOf.l1 k y0 y1 y2 y3 y4 y5 y6 y7) (spec_BinderOf.l1 (k + 1) y0 y1 y2 y3 y4 y5 y6 y7))
 | 0 => ⟨fun _ _ _ _ _ r h => by simp [spec_BinderOf.j0] at h, fun _ _ _ _ _ _ r h => by simp [spec_BinderOf.l0] at h, fun _ _ _ _ _ _ _ _ r h => by simp [spec_BinderOf.l1] at h⟩
 | k + 1 => by
  obtain ⟨ih0, ih1, ih2⟩ := spec_BinderOf.mono_l k
  refine ⟨?_, ?_, ?_⟩
  ·intro y0 y1 y2 y3 y4
   unfold spec_BinderOf.j0
   repeat' first
   | (with_reducible exact ih0 _ _ _ _ _)
   | (with_reducible exact ih1 _ _ _ _ _ _)
   | (with_reducible exact ih2 _ _ _ _ _ _ _ _)
   | (with_reducible exact spec_NodesOk.mono _ _)
   | (with_reducible exact spec_ParentOf.mono _ _ _)
   | (with_reducible exact spec_l6Bound.mono _ _ _ _ _ _ _ _ _)
   | (with_reducible exact LeO.refl _)
   | (with_reducible exact LeO.none _)
   | (with_reducible refine LeO.ite ?_ ?_)
   | (with_reducible refine LeO.bind ?_ (fun _ => ?_))
   | exact ih0 _ _ _ _ _
   | exact ih1 _ _ _ _ _ _
   | exact ih2 _ _ _ _ _ _ _ _
   | exact spec_NodesOk.mono _ _
   | exact spec_ParentOf.mono _ _ _
   | exact spec_l6Bound.mono _ _ _ _ _ _ _ _ _
   | exact LeO.none _
   | refine LeO.ite ?_ ?_
   | refine LeO.bind ?_ (fun _ => ?_)
  ·intro y0 y1 y2 y3 y4 y5
   unfold spec_BinderOf.l0
   repeat' first
   | (with_reducible exact ih0 _ _ _ _ _)
   | (with_reducible exact ih1 _ _ _ _ _ _)
   | (with_reducible exact ih2 _ _ _ _ _ _ _ _)
   | (with_reducible exact spec_NodesOk.mono _ _)
   | (with_reducible exact spec_ParentOf.mono _ _ _)
   | (with_reducible exact spec_l6Bound.mono _ _ _ _ _ _ _ _ _)
   | (with_reducible exact LeO.refl _)
   | (with_reducible exact LeO.none _)
   | (with_reducible refine LeO.ite ?_ ?_)
   | (with_reducible refine LeO.bind ?_ (fun _ => ?_))
   | exact ih0 _ _ _ _ _
   | exact ih1 _ _ _ _ _ _
   | exact ih2 _ _ _ _ _ _ _ _
   | exact spec_NodesOk.mono _ _
   | exact spec_ParentOf.mono _ _ _
   | exact spec_l6Bound.mono _ _ _ _ _ _ _ _ _
   | exact LeO.none _
   | refine LeO.ite ?_ ?_
   | refine LeO.bind ?_ (fun _ => ?_)
  ·intro y0 y1 y2 y3 y4 y5 y6 y7
   unfold spec_BinderOf.l1
   repeat' first
   | (with_reducible exact ih0 _ _ _ _ _)
   | (with_reducible exact ih1 _ _ _ _ _ _)
   | (with_reducible exact ih2 _ _ _ _ _ _ _ _)
   | (with_reducible exact spec_NodesOk.mono _ _)
   | (with_reducible exact spec_ParentOf.mono _ _ _)
   | (with_reducible exact spec_l6Bound.mono _ _ _ _ _ _ _ _ _)
   | (with_reducible exact LeO.refl _)
   | (with_reducible exact LeO.none _)
   | (with_reducible refine LeO.ite ?_ ?_)
   | (with_reducible refine LeO.bind ?_ (fun _ => ?_))
   | exact ih0 _ _ _ _ _
   | exact ih1 _ _ _ _ _ _
   | exact ih2 _ _ _ _ _ _ _ _
   | exact spec_NodesOk.mono _ _
   | exact spec_ParentOf.mono _ _ _
   | exact spec_l6Bound.mono _ _ _ _ _ _ _ _ _
   | exact LeO.none _
   | refine LeO.ite ?_ ?_
   | refine LeO.bind ?_ (fun _ => ?_)
theorem spec_BinderOf.mono : ∀ a0 a1 k, LeO (spec_BinderOf.f k a0 a1) (spec_BinderOf.f (k + 1) a0 a1) := by
 intro a0 a1 k
 obtain ⟨ih0, ih1, ih2⟩ := spec_BinderOf.mono_l k
 unfold spec_BinderOf.f
 repeat' first
   | (with_reducible exact ih0 _ _ _ _ _)
   | (with_reducible exact ih1 _ _ _ _ _ _)
   | (with_reducible exact ih2 _ _ _ _ _ _ _ _)
   | (with_reducible exact spec_NodesOk.mono _ _)
   | (with_reducible exact spec_ParentOf.mono _ _ _)
   | (with_reducible exact spec_l6Bound.mono _ _ _ _ _ _ _ _ _)
   | (with_reducible exact LeO.refl _)
   | (with_reducible exact LeO.none _)
   | (with_reducible refine LeO.ite ?_ ?_)
   | (with_reducible refine LeO.bind ?_ (fun _ => ?_))
   | exact ih0 _ _ _ _ _
   | exact ih1 _ _ _ _ _ _
   | exact ih2 _ _ _ _ _ _ _ _
   | exact spec_NodesOk.mono _ _
   | exact spec_ParentOf.mono _ _ _
   | exact spec_l6Bound.mono _ _ _ _ _ _ _ _ _
   | exact LeO.none _
   | refine LeO.ite ?_ ?_
   | refine LeO.bind ?_ (fun _ => ?_)
set_option maxHeartbeats 8000000 in
set_option maxRecDepth 100000 in
theorem spec_BinderOf.calls (k : Nat) (A0 : Option Addr) (c0 : Nat) (l0 : List (S48)) (a1 : Int) (r1 : Int) (r2 : Int) (w : World) (hr0 : Kd.C k48 w A0 l0.length l0) (hc0 : l0.length ≤ c0) (h : spec_BinderOf.f k l0 a1 = some (r1, r2)) :
  Calls Tryd.prog 47 #[.slice A0 l0.length c0, .int .i64 a1] w fun e w' => e = .returned (.agg #[.int .i64 r1, .int .i64 r2]) ∧ Below w.heap.size w w' := by
 have hu32 := Tryd.underlying32
 have hu48 := Tryd.underlying48
 have HR0 := Aside0.mk hr0
 have HC0 := Aside0.mk hc0
 clear hr0 hc0
 have HB := Aside0.mk (Below.refl w.heap.size w)
 have H := h; unfold spec_BinderOf.f at H
 clear h
 have HC3 := Aside0.mk H
 clear H
 go_enter Tryd.func47, Tryd.ntmps47
 go_upto_region 2 with (first | ((with_reducible refine gate_dst (N := 4) rfl ?_); (try (refine gate_guard (by rfl) ?_; dsimp only)); refine box_event ?hg (N := 4) ?hd (cs := #[.int .i64 0, .int .i64 0]) (t := 32) ?hr ?_; (case hd => rfl); (case hg => rfl); (case hr => first | (go_simp; done) | (go_simp; rfl)); intro gb260 hg w4 hbox hb; have BK260 := Aside0.mk (hbox); have GW260 := Aside0.mk ((by rw [hg]; exact (below_size bb0) : w.heap.size ≤ gb260)); have GE260 := Aside0.mk ((by rw [hg]; exact (below_size bb0) : w.heap.size ≤ gb260)); replace HB := Aside0.mk (below_step bb0 hb); clear hb hbox hg) | ((with_reducible refine gate_dst (N := 5) rfl ?_); (try (refine gate_guard (by rfl) ?_; dsimp only)); refine box_event ?hg (N := 5) ?hd (cs := #[.int .i64 0, .int .i64 0]) (t := 32) ?hr ?_; (case hd => rfl); (case hg => rfl); (case hr => first | (go_simp; done) | (go_simp; rfl)); intro gb261 hg w5 hbox hb; have BK261 := Aside0.mk (hbox); have GW261 := Aside0.mk ((by rw [hg]; exact (below_size (bb1 GE260.out)) : w.heap.size ≤ gb261)); have GE261 := Aside0.mk ((by rw [hg]; exact (below_size (bb1 GE260.out)) : w.heap.size ≤ gb261)); replace HB := Aside0.mk (below_step (bb1 GE260.out) hb); have NB260_261 := Aside0.mk ((by rw [hg]; exact Nat.ne_of_lt (blk_lt (g := gb260) (bk0 BK260.out)) : gb260 ≠ gb261)); have NB261_260 := Aside0.mk ((by rw [hg]; exact Nat.ne_of_gt (blk_lt (g := gb260) (bk0 BK260.out)) : gb261 ≠ gb260)); replace BK260 := Aside0.mk (blk_below (g := gb260) (bk0 BK260.out) hb); clear hb hbox hg; have hnb6 := NB261_260.out; have hnc6 := NB260_261.out; obtain ⟨hcz7_0, hcz7_1⟩ := cells2 BK261.out; obtain ⟨hfz7_0, hfz7_1⟩ := frz2 BK261.out))
 repeat (go_quiet (first | ((with_reducible refine gate_dst (N := 4) rfl ?_); (try (refine gate_guard (by rfl) ?_; dsimp only)); refine box_event ?hg (N := 4) ?hd (cs := #[.int .i64 0, .int .i64 0]) (t := 32) ?hr ?_; (case hd => rfl); (case hg => rfl); (case hr => first | (go_simp; done) | (go_simp; rfl)); intro gb260 hg w4 hbox hb; have BK260 := Aside0.mk (hbox); have GW260 := Aside0.mk ((by rw [hg]; exact (below_size bb0) : w.heap.size ≤ gb260)); have GE260 := Aside0.mk ((by rw [hg]; exact (below_size bb0) : w.heap.size ≤ gb260)); replace HB := Aside0.mk (below_step bb0 hb); clear hb hbox hg) | ((with_reducible refine gate_dst (N := 5) rfl ?_); (try (refine gate_guard (by rfl) ?_; dsimp only)); refine box_event ?hg (N := 5) ?hd (cs := #[.int .i64 0, .int .i64 0]) (t := 32) ?hr ?_; (case hd => rfl); (case hg => rfl); (case hr => first | (go_simp; done) | (go_simp; rfl)); intro gb261 hg w5 hbox hb; have BK261 := Aside0.mk (hbox); have GW261 := Aside0.mk ((by rw [hg]; exact (below_size (bb1 GE260.out)) : w.heap.size ≤ gb261)); have GE261 := Aside0.mk ((by rw [hg]; exact (below_size (bb1 GE260.out)) : w.heap.size ≤ gb261)); replace HB := Aside0.mk (below_step (bb1 GE260.out) hb); have NB260_261 := Aside0.mk ((by rw [hg]; exact Nat.ne_of_lt (blk_lt (g := gb260) (bk0 BK260.out)) : gb260 ≠ gb261)); have NB261_260 := Aside0.mk ((by rw [hg]; exact Nat.ne_of_gt (blk_lt (g := gb260) (bk0 BK260.out)) : gb261 ≠ gb260)); replace BK260 := Aside0.mk (blk_below (g := gb260) (bk0 BK260.out) hb); clear hb hbox hg; have hnb6 := NB261_260.out; have hnc6 := NB260_261.out; obtain ⟨hcz7_0, hcz7_1⟩ := cells2 BK261.out; obtain ⟨hfz7_0, hfz7_1⟩ := frz2 BK261.out)); go_upto_region 2 with (first | ((with_reducible refine gate_dst (N := 4) rfl ?_); (try (refine gate_guard (by rfl) ?_; dsimp only)); refine box_event ?hg (N := 4) ?hd (cs := #[.int .i64 0, .int .i64 0]) (t := 32) ?hr ?_; (case hd => rfl); (case hg => rfl); (case hr => first | (go_simp; done) | (go_simp; rfl)); intro gb260 hg w4 hbox hb; have BK260 := Aside0.mk (hbox); have GW260 := Aside0.mk ((by rw [hg]; exact (below_size bb0) : w.heap.size ≤ gb260)); have GE260 := Aside0.mk ((by rw [hg]; exact (below_size bb0) : w.heap.size ≤ gb260)); replace HB := Aside0.mk (below_step bb0 hb); clear hb hbox hg) | ((with_reducible refine gate_dst (N := 5) rfl ?_); (try (refine gate_guard (by rfl) ?_; dsimp only)); refine box_event ?hg (N := 5) ?hd (cs := #[.int .i64 0, .int .i64 0]) (t := 32) ?hr ?_; (case hd => rfl); (case hg => rfl); (case hr => first | (go_simp; done) | (go_simp; rfl)); intro gb261 hg w5 hbox hb; have BK261 := Aside0.mk (hbox); have GW261 := Aside0.mk ((by rw [hg]; exact (below_size (bb1 GE260.out)) : w.heap.size ≤ gb261)); have GE261 := Aside0.mk ((by rw [hg]; exact (below_size (bb1 GE260.out)) : w.heap.size ≤ gb261)); replace HB := Aside0.mk (below_step (bb1 GE260.out) hb); have NB260_261 := Aside0.mk ((by rw [hg]; exact Nat.ne_of_lt (blk_lt (g := gb260) (bk0 BK260.out)) : gb260 ≠ gb261)); have NB261_260 := Aside0.mk ((by rw [hg]; exact Nat.ne_of_gt (blk_lt (g := gb260) (bk0 BK260.out)) : gb261 ≠ gb260)); replace BK260 := Aside0.mk (blk_below (g := gb260) (bk0 BK260.out) hb); clear hb hbox hg; have hnb6 := NB261_260.out; have hnc6 := NB260_261.out; obtain ⟨hcz7_0, hcz7_1⟩ := cells2 BK261.out; obtain ⟨hfz7_0, hfz7_1⟩ := frz2 BK261.out)))
 (try simp only [Act.put, List.setIfInBounds_toArray, List.set_cons_zero, List.set_cons_succ])
 go_cut [30] (fun v30 wc => ∃ (kq : Nat) (x30_2 : Bool), v30 = .bool x30_2 ∧ Aside0 (spec_BinderOf.j0 kq l0 a1 x30_2 (-1) (-1) = some (r1, r2)) ∧ Aside0 (kq ≤ k) ∧ Aside0 (wc.heap[gb260]? = some (.cells #[.int .i64 0, .int .i64 0] 32 (0, 0))) ∧ Aside0 (wc.heap[gb261]? = some (.cells #[.int .i64 (-1), .int .i64 (-1)] 32 (0, 0))) ∧ Aside0 (Below w.heap.size w wc))
 case first =>
  have H := HC3.out
  clear HC3
  obtain ⟨t262, A8, H⟩ := bx H
  by_cases c9 : t262 = true
  ·subst c9
   rw [if_pos rfl] at H
   obtain ⟨t263, A10, H⟩ := bx H
   by_cases c11 : t263 = true
   ·subst c11
    rw [if_pos rfl] at H
    by_cases c12 : 0 ≤ a1
    ·rw [if_pos c12] at H
     have c12b0 := decide_eq_true c12
     clear c12
     (first | rw [c12b0] | (simp only [i64_w, i32_w]; rw [c12b0]) | skip)
     by_cases c13 : a1 < (l0.length : Int)
     ·rw [if_pos c13] at H
      have c13b0 := decide_eq_true c13
      clear c13
      have H' := Aside0.mk H
      clear H
      go_wp2_with (first | (go_at_call 25; (with_reducible refine (spec_NodesOk.calls k _ _ l0 true _ ?side1 ?side2 A8.out).mono ?_); (case side1 => exact Kd.C_below HR0.out (bb2 GE260.out GE261.out)); (case side2 => exact HC0.out); rintro e w14 ⟨rfl, hb⟩; replace BK260 := Aside0.mk (blk_below (g := gb260) (bf1 NB260_261.out BK260.out) hb); replace BK261 := Aside0.mk (blk_below (g := gb261) (bk1 BK261.out) hb); replace HB := Aside0.mk (below_step (bb2 GE260.out GE261.out) hb); clear hb) | (go_at_call 26; (with_reducible refine (spec_l1In.calls a1 0 (wrap64 ((l0.length : Int) - 1)) true _ A10.out).mono ?_); rintro e w' ⟨rfl, ⟨nd, rfl⟩⟩; (try first | exact ⟨rfl, _, World.drewN_drewN _ _ _⟩ | exact ⟨rfl, _, Eq.trans (World.drewN_drewN _ _ _) (congrArg (World.drewN _) (Nat.add_assoc _ _ _))⟩); have p264 : 0 ≤ (a1 : Int) := of_decide_eq_true as0; have q264 : a1 < (l0.length : Int) := of_decide_eq_true as0; obtain ⟨ad264, e264, hx264_0, hx264_1, hx264_2, hx264_3, hx264_4, hx264_5, hx264_6⟩ := at_T48 HR0.out a1 p264 q264; cases e264; replace hx264_0 := hbc HB hx264_0; replace hx264_1 := hbc HB hx264_1; replace hx264_2 := hbc HB hx264_2; replace hx264_3 := hbc HB hx264_3; replace hx264_4 := hbc HB hx264_4; replace hx264_5 := hbc HB hx264_5; replace hx264_6 := hbc HB hx264_6; replace p264 := eq_true p264; replace q264 := eq_true q264))
      repeat (go_quiet (first | (go_at_call 25; (with_reducible refine (spec_NodesOk.calls k _ _ l0 true _ ?side1 ?side2 A8.out).mono ?_); (case side1 => exact Kd.C_below HR0.out (bb2 GE260.out GE261.out)); (case side2 => exact HC0.out); rintro e w14 ⟨rfl, hb⟩; replace BK260 := Aside0.mk (blk_below (g := gb260) (bf1 NB260_261.out BK260.out) hb); replace BK261 := Aside0.mk (blk_below (g := gb261) (bk1 BK261.out) hb); replace HB := Aside0.mk (below_step (bb2 GE260.out GE261.out) hb); clear hb) | (go_at_call 26; (with_reducible refine (spec_l1In.calls a1 0 (wrap64 ((l0.length : Int) - 1)) true _ A10.out).mono ?_); rintro e w' ⟨rfl, ⟨nd, rfl⟩⟩; (try first | exact ⟨rfl, _, World.drewN_drewN _ _ _⟩ | exact ⟨rfl, _, Eq.trans (World.drewN_drewN _ _ _) (congrArg (World.drewN _) (Nat.add_assoc _ _ _))⟩); have p264 : 0 ≤ (a1 : Int) := of_decide_eq_true as0; have q264 : a1 < (l0.length : Int) := of_decide_eq_true as0; obtain ⟨ad264, e264, hx264_0, hx264_1, hx264_2, hx264_3, hx264_4, hx264_5, hx264_6⟩ := at_T48 HR0.out a1 p264 q264; cases e264; replace hx264_0 := hbc HB hx264_0; replace hx264_1 := hbc HB hx264_1; replace hx264_2 := hbc HB hx264_2; replace hx264_3 := hbc HB hx264_3; replace hx264_4 := hbc HB hx264_4; replace hx264_5 := hbc HB hx264_5; replace hx264_6 := hbc HB hx264_6; replace p264 := eq_true p264; replace q264 := eq_true q264)); try go_wp2_with (first | (go_at_call 25; (with_reducible refine (spec_NodesOk.calls k _ _ l0 true _ ?side1 ?side2 A8.out).mono ?_); (case side1 => exact Kd.C_below HR0.out (bb2 GE260.out GE261.out)); (case side2 => exact HC0.out); rintro e w14 ⟨rfl, hb⟩; replace BK260 := Aside0.mk (blk_below (g := gb260) (bf1 NB260_261.out BK260.out) hb); replace BK261 := Aside0.mk (blk_below (g := gb261) (bk1 BK261.out) hb); replace HB := Aside0.mk (below_step (bb2 GE260.out GE261.out) hb); clear hb) | (go_at_call 26; (with_reducible refine (spec_l1In.calls a1 0 (wrap64 ((l0.length : Int) - 1)) true _ A10.out).mono ?_); rintro e w' ⟨rfl, ⟨nd, rfl⟩⟩; (try first | exact ⟨rfl, _, World.drewN_drewN _ _ _⟩ | exact ⟨rfl, _, Eq.trans (World.drewN_drewN _ _ _) (congrArg (World.drewN _) (Nat.add_assoc _ _ _))⟩); have p264 : 0 ≤ (a1 : Int) := of_decide_eq_true as0; have q264 : a1 < (l0.length : Int) := of_decide_eq_true as0; obtain ⟨ad264, e264, hx264_0, hx264_1, hx264_2, hx264_3, hx264_4, hx264_5, hx264_6⟩ := at_T48 HR0.out a1 p264 q264; cases e264; replace hx264_0 := hbc HB hx264_0; replace hx264_1 := hbc HB hx264_1; replace hx264_2 := hbc HB hx264_2; replace hx264_3 := hbc HB hx264_3; replace hx264_4 := hbc HB hx264_4; replace hx264_5 := hbc HB hx264_5; replace hx264_6 := hbc HB hx264_6; replace p264 := eq_true p264; replace q264 := eq_true q264)))
      go_meet
      case rel => exact ⟨_, ((((rd_T48 l0 a1).f0) != 1)), rs0, H', ⟨by first | omega | exact Nat.le_refl _⟩, ⟨by refine bk0 ?_; exact BK260.out⟩, ⟨by refine bk0 ?_; exact BK261.out⟩, ⟨bb2 GE260.out GE261.out⟩⟩
     ·rw [if_neg c13] at H
      exact absurd H (by simp)
    ·rw [if_neg c12] at H
     exact absurd H (by simp)
   ·replace c11 := Bool.eq_false_iff.mpr c11
    subst c11
    rw [if_neg (show ¬ (false = true) by decide)] at H
    have H' := Aside0.mk H
    clear H
    go_wp2_with (first | (go_at_call 25; (with_reducible refine (spec_NodesOk.calls k _ _ l0 true _ ?side1 ?side2 A8.out).mono ?_); (case side1 => exact Kd.C_below HR0.out (bb2 GE260.out GE261.out)); (case side2 => exact HC0.out); rintro e w15 ⟨rfl, hb⟩; replace BK260 := Aside0.mk (blk_below (g := gb260) (bf1 NB260_261.out BK260.out) hb); replace BK261 := Aside0.mk (blk_below (g := gb261) (bk1 BK261.out) hb); replace HB := Aside0.mk (below_step (bb2 GE260.out GE261.out) hb); clear hb) | (go_at_call 26; (with_reducible refine (spec_l1In.calls a1 0 (wrap64 ((l0.length : Int) - 1)) false _ A10.out).mono ?_); rintro e w' ⟨rfl, ⟨nd, rfl⟩⟩; (try first | exact ⟨rfl, _, World.drewN_drewN _ _ _⟩ | exact ⟨rfl, _, Eq.trans (World.drewN_drewN _ _ _) (congrArg (World.drewN _) (Nat.add_assoc _ _ _))⟩)))
    repeat (go_quiet (first | (go_at_call 25; (with_reducible refine (spec_NodesOk.calls k _ _ l0 true _ ?side1 ?side2 A8.out).mono ?_); (case side1 => exact Kd.C_below HR0.out (bb2 GE260.out GE261.out)); (case side2 => exact HC0.out); rintro e w15 ⟨rfl, hb⟩; replace BK260 := Aside0.mk (blk_below (g := gb260) (bf1 NB260_261.out BK260.out) hb); replace BK261 := Aside0.mk (blk_below (g := gb261) (bk1 BK261.out) hb); replace HB := Aside0.mk (below_step (bb2 GE260.out GE261.out) hb); clear hb) | (go_at_call 26; (with_reducible refine (spec_l1In.calls a1 0 (wrap64 ((l0.length : Int) - 1)) false _ A10.out).mono ?_); rintro e w' ⟨rfl, ⟨nd, rfl⟩⟩; (try first | exact ⟨rfl, _, World.drewN_drewN _ _ _⟩ | exact ⟨rfl, _, Eq.trans (World.drewN_drewN _ _ _) (congrArg (World.drewN _) (Nat.add_assoc _ _ _))⟩))); try go_wp2_with (first | (go_at_call 25; (with_reducible refine (spec_NodesOk.calls k _ _ l0 true _ ?side1 ?side2 A8.out).mono ?_); (case side1 => exact Kd.C_below HR0.out (bb2 GE260.out GE261.out)); (case side2 => exact HC0.out); rintro e w15 ⟨rfl, hb⟩; replace BK260 := Aside0.mk (blk_below (g := gb260) (bf1 NB260_261.out BK260.out) hb); replace BK261 := Aside0.mk (blk_below (g := gb261) (bk1 BK261.out) hb); replace HB := Aside0.mk (below_step (bb2 GE260.out GE261.out) hb); clear hb) | (go_at_call 26; (with_reducible refine (spec_l1In.calls a1 0 (wrap64 ((l0.length : Int) - 1)) false _ A10.out).mono ?_); rintro e w' ⟨rfl, ⟨nd, rfl⟩⟩; (try first | exact ⟨rfl, _, World.drewN_drewN _ _ _⟩ | exact ⟨rfl, _, Eq.trans (World.drewN_drewN _ _ _) (congrArg (World.drewN _) (Nat.add_assoc _ _ _))⟩))))
    go_meet
    case rel => exact ⟨_, (true), rs0, H', ⟨by first | omega | exact Nat.le_refl _⟩, ⟨by refine bk0 ?_; exact BK260.out⟩, ⟨by refine bk0 ?_; exact BK261.out⟩, ⟨bb2 GE260.out GE261.out⟩⟩
  ·replace c9 := Bool.eq_false_iff.mpr c9
   subst c9
   rw [if_neg (show ¬ (false = true) by decide)] at H
   have H' := Aside0.mk H
   clear H
   go_wp2_with (first | (go_at_call 25; (with_reducible refine (spec_NodesOk.calls k _ _ l0 false _ ?side1 ?side2 A8.out).mono ?_); (case side1 => exact Kd.C_below HR0.out (bb2 GE260.out GE261.out)); (case side2 => exact HC0.out); rintro e w16 ⟨rfl, hb⟩; replace BK260 := Aside0.mk (blk_below (g := gb260) (bf1 NB260_261.out BK260.out) hb); replace BK261 := Aside0.mk (blk_below (g := gb261) (bk1 BK261.out) hb); replace HB := Aside0.mk (below_step (bb2 GE260.out GE261.out) hb); clear hb))
   repeat (go_quiet (first | (go_at_call 25; (with_reducible refine (spec_NodesOk.calls k _ _ l0 false _ ?side1 ?side2 A8.out).mono ?_); (case side1 => exact Kd.C_below HR0.out (bb2 GE260.out GE261.out)); (case side2 => exact HC0.out); rintro e w16 ⟨rfl, hb⟩; replace BK260 := Aside0.mk (blk_below (g := gb260) (bf1 NB260_261.out BK260.out) hb); replace BK261 := Aside0.mk (blk_below (g := gb261) (bk1 BK261.out) hb); replace HB := Aside0.mk (below_step (bb2 GE260.out GE261.out) hb); clear hb)); try go_wp2_with (first | (go_at_call 25; (with_reducible refine (spec_NodesOk.calls k _ _ l0 false _ ?side1 ?side2 A8.out).mono ?_); (case side1 => exact Kd.C_below HR0.out (bb2 GE260.out GE261.out)); (case side2 => exact HC0.out); rintro e w16 ⟨rfl, hb⟩; replace BK260 := Aside0.mk (blk_below (g := gb260) (bf1 NB260_261.out BK260.out) hb); replace BK261 := Aside0.mk (blk_below (g := gb261) (bk1 BK261.out) hb); replace HB := Aside0.mk (below_step (bb2 GE260.out GE261.out) hb); clear hb)))
   go_meet
   case rel => exact ⟨_, (true), rs0, H', ⟨by first | omega | exact Nat.le_refl _⟩, ⟨by refine bk0 ?_; exact BK260.out⟩, ⟨by refine bk0 ?_; exact BK261.out⟩, ⟨bb2 GE260.out GE261.out⟩⟩
 case rest =>
  clear HC3
  try clear c1
  try clear p2
  try clear q2
  try clear hx2
  try clear c4
  try clear c6
  try clear p6
  try clear c9
  try clear c11
  try clear c12
  try clear c12b0
  try clear c13
  try clear c13b0
  try clear hcz7_0
  try clear hcz7_1
  try clear hfz7_0
  try clear hfz7_1
  try clear hx264_0
  try clear hx264_1
  try clear hx264_2
  try clear hx264_3
  try clear hx264_4
  try clear hx264_5
  try clear hx264_6
  try clear p264
  try clear q264
  obtain ⟨kq, x30_2, rfl, HA, HJ2, BK260, BK261, HB⟩ := hcut
  cases kq with
  | zero => exact absurd HA.out (by simp [spec_BinderOf.j0])
  | succ kj2 =>
   have H := HA.out
   clear HA
   simp only [spec_BinderOf.j0] at H
   by_cases c17 : x30_2 = true
   ·subst c17
    rw [if_pos rfl] at H
    simp only [Option.some.injEq, Prod.mk.injEq] at H
    obtain ⟨rfl, rfl⟩ := H
    have hnb18 := NB261_260.out
    have hnc18 := NB260_261.out
    obtain ⟨hcz19_0, hcz19_1⟩ := cells2 BK261.out
    obtain ⟨hfz19_0, hfz19_1⟩ := frz2 BK261.out
    obtain ⟨hcz20_0, hcz20_1⟩ := cells2 BK260.out
    obtain ⟨hfz20_0, hfz20_1⟩ := frz2 BK260.out
    go_wp2
    repeat (go_quiet (fail); try go_wp2)
    refine bodyPost_ret (results_cell_row rfl _ _ gb260 32 #[.int .i64 (-1), .int .i64 (-1)] (0, 0) _ rfl (bk1 BK260.out) Tryd.underlying32 rfl (by kernel_rfl)) rfl ?_
    exact ⟨er0, bb2 GE260.out GE261.out⟩
   ·replace c17 := Bool.eq_false_iff.mpr c17
    subst c17
    rw [if_neg (show ¬ (false = true) by decide)] at H
    obtain ⟨t265, A21, H⟩ := bx H
    have H' := Aside0.mk H
    clear H
    go_wp2_with (first | (go_at_call 59; (with_reducible refine (spec_ParentOf.calls kj2 _ _ l0 a1 t265 _ ?side1 ?side2 A21.out).mono ?_); (case side1 => exact cc0 (Kd.C_below HR0.out HB.out)); (case side2 => exact HC0.out); rintro e w22 ⟨rfl, hb⟩; replace BK260 := Aside0.mk (blk_below (g := gb260) (bk0 BK260.out) hb); replace BK261 := Aside0.mk (blk_below (g := gb261) (bk0 BK261.out) hb); replace HB := Aside0.mk (below_step (bb2 GE260.out GE261.out) hb); clear hb))
    repeat (go_quiet (first | (go_at_call 59; (with_reducible refine (spec_ParentOf.calls kj2 _ _ l0 a1 t265 _ ?side1 ?side2 A21.out).mono ?_); (case side1 => exact cc0 (Kd.C_below HR0.out HB.out)); (case side2 => exact HC0.out); rintro e w22 ⟨rfl, hb⟩; replace BK260 := Aside0.mk (blk_below (g := gb260) (bk0 BK260.out) hb); replace BK261 := Aside0.mk (blk_below (g := gb261) (bk0 BK261.out) hb); replace HB := Aside0.mk (below_step (bb2 GE260.out GE261.out) hb); clear hb)); try go_wp2_with (first | (go_at_call 59; (with_reducible refine (spec_ParentOf.calls kj2 _ _ l0 a1 t265 _ ?side1 ?side2 A21.out).mono ?_); (case side1 => exact cc0 (Kd.C_below HR0.out HB.out)); (case side2 => exact HC0.out); rintro e w22 ⟨rfl, hb⟩; replace BK260 := Aside0.mk (blk_below (g := gb260) (bk0 BK260.out) hb); replace BK261 := Aside0.mk (blk_below (g := gb261) (bk0 BK261.out) hb); replace HB := Aside0.mk (below_step (bb2 GE260.out GE261.out) hb); clear hb)))
    go_loopg [6, 7] kj2 (fun kq v6 v7 w' => ∃ (x6_2 : Int) (x7_2 : Int) (x261000_2 : Int) (x261001_2 : Int), v6 = .int .i64 x6_2 ∧ v7 = .int .i64 x7_2 ∧ Aside0 (spec_BinderOf.l0 kq l0 a1 x6_2 x7_2 (-1) (-1) = some (r1, r2)) ∧ Aside0 (kq ≤ kj2) ∧ Aside0 (w'.heap[gb260]? = some (.cells #[.int .i64 x261000_2, .int .i64 x261001_2] 32 (0, 0))) ∧ Aside0 (w'.heap[gb261]? = some (.cells #[.int .i64 (-1), .int .i64 (-1)] 32 (0, 0))) ∧ Aside0 (Below w.heap.size w w'))
    case atStart => exact ⟨(a1), (t265), (0), (0), rs0, rs0, H', ⟨Nat.le_refl _⟩, ⟨by refine bk0 ?_; exact BK260.out⟩, ⟨by refine bk0 ?_; exact BK261.out⟩, ⟨bb2 GE260.out GE261.out⟩⟩
    case round =>
     clear H'
     try clear c1
     try clear p2
     try clear q2
     try clear hx2
     try clear c4
     try clear c6
     try clear p6
     try clear c9
     try clear c11
     try clear c12
     try clear c12b0
     try clear c13
     try clear c13b0
     try clear c17
     try clear c18
     try clear hcz19_0
     try clear hcz19_1
     try clear hcz20_0
     try clear hcz20_1
     try clear hcz7_0
     try clear hcz7_1
     try clear hfz19_0
     try clear hfz19_1
     try clear hfz20_0
     try clear hfz20_1
     try clear hfz7_0
     try clear hfz7_1
     try clear hx264_0
     try clear hx264_1
     try clear hx264_2
     try clear hx264_3
     try clear hx264_4
     try clear hx264_5
     try clear hx264_6
     try clear p2
     try clear p264
     try clear p6
     try clear q2
     try clear q264
     obtain ⟨x6_2, x7_2, x261000_2, x261001_2, rfl, rfl, HA, HK2, BK260, BK261, HB⟩ := hrel
     cases gk with
     | zero => exact absurd HA.out (by simp [spec_BinderOf.l0])
     | succ k2 =>
      have H := HA.out
      clear HA
      simp only [spec_BinderOf.l0] at H
      by_cases c23 : x7_2 ≥ 0
      ·rw [if_pos c23] at H
       have c23b0 := decide_eq_true c23
       clear c23
       by_cases c24 : 0 ≤ x7_2
       ·rw [if_pos c24] at H
        have c24b0 := decide_eq_true c24
        clear c24
        by_cases c25 : x7_2 < (l0.length : Int)
        ·rw [if_pos c25] at H
         have c25b0 := decide_eq_true c25
         clear c25
         obtain ⟨⟨t267, t270⟩, A26, H⟩ := bx H; dsimp only at H
         have H' := Aside0.mk H
         clear H
         have p266 : 0 ≤ (x7_2 : Int) := of_decide_eq_true as0
         have q266 : x7_2 < (l0.length : Int) := of_decide_eq_true as0
         obtain ⟨ad266, e266, hx266_0, hx266_1, hx266_2, hx266_3, hx266_4, hx266_5, hx266_6⟩ := at_T48 HR0.out x7_2 p266 q266
         cases e266
         replace hx266_0 := hbc HB hx266_0
         replace hx266_1 := hbc HB hx266_1
         replace hx266_2 := hbc HB hx266_2
         replace hx266_3 := hbc HB hx266_3
         replace hx266_4 := hbc HB hx266_4
         replace hx266_5 := hbc HB hx266_5
         replace hx266_6 := hbc HB hx266_6
         replace p266 := eq_true p266
         replace q266 := eq_true q266
         go_wp2_with (first | (go_at_call 60; (with_reducible refine (spec_l6Bound.calls k2 ((rd_T48 l0 x7_2).f0) ((rd_T48 l0 x7_2).f1) ((rd_T48 l0 x7_2).f2) ((rd_T48 l0 x7_2).f3) ((rd_T48 l0 x7_2).f4) ((rd_T48 l0 x7_2).f5) ((rd_T48 l0 x7_2).f6) x6_2 t267 t270 _ A26.out).mono ?_); rintro e w27 ⟨v268, v271, rfl, ho0, ho1, hb⟩; have HO269 := Aside0.mk (Kd.R_lower ho0 (below_size (bb2 GE260.out GE261.out))); have HO272 := Aside0.mk (Kd.R_lower ho1 (below_size (bb2 GE260.out GE261.out))); replace BK260 := Aside0.mk (blk_below (g := gb260) (bk0 BK260.out) hb); replace BK261 := Aside0.mk (blk_below (g := gb261) (bk0 BK261.out) hb); replace HB := Aside0.mk (below_step (bb2 GE260.out GE261.out) hb); clear hb ho0 ho1))
         repeat (go_quiet (first | (go_at_call 60; (with_reducible refine (spec_l6Bound.calls k2 ((rd_T48 l0 x7_2).f0) ((rd_T48 l0 x7_2).f1) ((rd_T48 l0 x7_2).f2) ((rd_T48 l0 x7_2).f3) ((rd_T48 l0 x7_2).f4) ((rd_T48 l0 x7_2).f5) ((rd_T48 l0 x7_2).f6) x6_2 t267 t270 _ A26.out).mono ?_); rintro e w27 ⟨v268, v271, rfl, ho0, ho1, hb⟩; have HO269 := Aside0.mk (Kd.R_lower ho0 (below_size (bb2 GE260.out GE261.out))); have HO272 := Aside0.mk (Kd.R_lower ho1 (below_size (bb2 GE260.out GE261.out))); replace BK260 := Aside0.mk (blk_below (g := gb260) (bk0 BK260.out) hb); replace BK261 := Aside0.mk (blk_below (g := gb261) (bk0 BK261.out) hb); replace HB := Aside0.mk (below_step (bb2 GE260.out GE261.out) hb); clear hb ho0 ho1)); try go_wp2_with (first | (go_at_call 60; (with_reducible refine (spec_l6Bound.calls k2 ((rd_T48 l0 x7_2).f0) ((rd_T48 l0 x7_2).f1) ((rd_T48 l0 x7_2).f2) ((rd_T48 l0 x7_2).f3) ((rd_T48 l0 x7_2).f4) ((rd_T48 l0 x7_2).f5) ((rd_T48 l0 x7_2).f6) x6_2 t267 t270 _ A26.out).mono ?_); rintro e w27 ⟨v268, v271, rfl, ho0, ho1, hb⟩; have HO269 := Aside0.mk (Kd.R_lower ho0 (below_size (bb2 GE260.out GE261.out))); have HO272 := Aside0.mk (Kd.R_lower ho1 (below_size (bb2 GE260.out GE261.out))); replace BK260 := Aside0.mk (blk_below (g := gb260) (bk0 BK260.out) hb); replace BK261 := Aside0.mk (blk_below (g := gb261) (bk0 BK261.out) hb); replace HB := Aside0.mk (below_step (bb2 GE260.out GE261.out) hb); clear hb ho0 ho1)))
         go_loopg [10] k2 (fun kq v10 w' => ∃ (x10_3 : Int) (x261000_3 : Int) (x261001_3 : Int), v10 = .int .i64 x10_3 ∧ Aside0 (spec_BinderOf.l1 kq l0 a1 x7_2 t267 t270 x10_3 (-1) (-1) = some (r1, r2)) ∧ Aside0 (kq ≤ k2) ∧ Aside0 (Kd.R Kd.string 9 w' w.heap.size (fun _ => True) v268 t267) ∧ Aside0 (Kd.R (Kd.int .i64) 3 w' w.heap.size (fun _ => True) v271 t270) ∧ Aside0 (w'.heap[gb260]? = some (.cells #[.int .i64 x261000_3, .int .i64 x261001_3] 32 (0, 0))) ∧ Aside0 (w'.heap[gb261]? = some (.cells #[.int .i64 (-1), .int .i64 (-1)] 32 (0, 0))) ∧ Aside0 (Below w.heap.size w w'))
         case atStart => exact ⟨(0), (x261000_2), (x261001_2), rs0, H', ⟨Nat.le_refl _⟩, ⟨by refine ra0 ?_; exact HO269.out⟩, ⟨by refine ra0 ?_; exact HO272.out⟩, ⟨by refine bk0 ?_; exact BK260.out⟩, ⟨by refine bk0 ?_; exact BK261.out⟩, ⟨bb2 GE260.out GE261.out⟩⟩
         case round =>
          clear H'
          try clear c1
          try clear c2
          try clear p2
          try clear q2
          try clear hx2
          try clear c4
          try clear c6
          try clear p6
          try clear c9
          try clear c11
          try clear c12
          try clear c12b0
          try clear c13
          try clear c13b0
          try clear c17
          try clear c18
          try clear c23
          try clear c23b0
          try clear c24
          try clear c24b0
          try clear c25
          try clear c25b0
          try clear p26
          try clear q26
          try clear hx26
          try clear hcz19_0
          try clear hcz19_1
          try clear hcz20_0
          try clear hcz20_1
          try clear hcz7_0
          try clear hcz7_1
          try clear hfz19_0
          try clear hfz19_1
          try clear hfz20_0
          try clear hfz20_1
          try clear hfz7_0
          try clear hfz7_1
          try clear hx264_0
          try clear hx264_1
          try clear hx264_2
          try clear hx264_3
          try clear hx264_4
          try clear hx264_5
          try clear hx264_6
          try clear hx266_0
          try clear hx266_1
          try clear hx266_2
          try clear hx266_3
          try clear hx266_4
          try clear hx266_5
          try clear hx266_6
          try clear p2
          try clear p264
          try clear p266
          try clear p6
          try clear q2
          try clear q264
          try clear q266
          obtain ⟨x10_3, x261000_3, x261001_3, rfl, HA, HK3, HO_8, HO_9, BK260, BK261, HB⟩ := hrel
          cases gk with
          | zero => exact absurd HA.out (by simp [spec_BinderOf.l1])
          | succ k3 =>
           have H := HA.out
           clear HA
           simp only [spec_BinderOf.l1] at H
           by_cases c28 : x10_3 < (t267.length : Int)
           ·rw [if_pos c28] at H
            have c28b0 := decide_eq_true c28
            clear c28
            by_cases c29 : 0 ≤ x10_3
            ·rw [if_pos c29] at H
             have c29b0 := decide_eq_true c29
             clear c29
             by_cases c30 : 0 ≤ a1
             ·rw [if_pos c30] at H
              have c30b0 := decide_eq_true c30
              clear c30
              by_cases c31 : a1 < (l0.length : Int)
              ·rw [if_pos c31] at H
               have c31b0 := decide_eq_true c31
               clear c31
               by_cases c32 : (rdOf ByteArray.empty t267 x10_3).toList = ((rd_T48 l0 a1).f5).toList
               ·rw [if_pos c32] at H
                obtain ⟨c32b0, c32b1⟩ := eqT c32
                clear c32
                by_cases c33 : x10_3 < (t270.length : Int)
                ·rw [if_pos c33] at H
                 have c33b0 := decide_eq_true c33
                 clear c33
                 simp only [Option.some.injEq, Prod.mk.injEq] at H
                 obtain ⟨rfl, rfl⟩ := H
                 obtain ⟨Ao34, co34, eo34⟩ := Kd.R_slice HO_8.out
                 subst eo34
                 have p273 : 0 ≤ (x10_3 : Int) := of_decide_eq_true as0
                 have q273 : x10_3 < (t267.length : Int) := of_decide_eq_true as0
                 obtain ⟨ad273, e273, hx273_0⟩ := Kd.at_string (Kd.R_reads' HO_8.out).2.2 x10_3 p273 q273
                 cases e273
                 replace p273 := eq_true p273
                 replace q273 := eq_true q273
                 have p274 : 0 ≤ (a1 : Int) := of_decide_eq_true as0
                 have q274 : a1 < (l0.length : Int) := of_decide_eq_true as0
                 obtain ⟨ad274, e274, hx274_0, hx274_1, hx274_2, hx274_3, hx274_4, hx274_5, hx274_6⟩ := at_T48 HR0.out a1 p274 q274
                 obtain rfl : ad266 = ad274 := (by injection e274)
                 replace hx274_0 := hbc HB hx274_0
                 replace hx274_1 := hbc HB hx274_1
                 replace hx274_2 := hbc HB hx274_2
                 replace hx274_3 := hbc HB hx274_3
                 replace hx274_4 := hbc HB hx274_4
                 replace hx274_5 := hbc HB hx274_5
                 replace hx274_6 := hbc HB hx274_6
                 replace p274 := eq_true p274
                 replace q274 := eq_true q274
                 obtain ⟨Ao35, co35, eo35⟩ := Kd.R_slice HO_9.out
                 subst eo35
                 have p275 : 0 ≤ (x10_3 : Int) := of_decide_eq_true as0
                 have q275 : x10_3 < (t270.length : Int) := of_decide_eq_true as0
                 obtain ⟨ad275, e275, hx275_0⟩ := Kd.at_int (Kd.R_reads' HO_9.out).2.2 x10_3 p275 q275
                 cases e275
                 replace p275 := eq_true p275
                 replace q275 := eq_true q275
                 have hnb36 := NB260_261.out
                 have hnc36 := NB261_260.out
                 obtain ⟨hcz37_0, hcz37_1⟩ := cells2 BK260.out
                 obtain ⟨hfz37_0, hfz37_1⟩ := frz2 BK260.out
                 go_wp2
                 repeat (go_quiet (fail); try go_wp2)
                 refine bodyPost_ret (results_cell_row rfl _ _ gb260 32 #[.int .i64 x7_2, .int .i64 (rd t270 x10_3)] (0, 0) _ rfl (bk1 BK260.out) Tryd.underlying32 rfl (by kernel_rfl)) rfl ?_
                 exact ⟨er0, bb2 GE260.out GE261.out⟩
                ·rw [if_neg c33] at H
                 exact absurd H (by simp)
               ·rw [if_neg c32] at H
                obtain ⟨c32b0, c32b1⟩ := eqF c32
                have H' := Aside0.mk H
                clear H
                obtain ⟨Ao38, co38, eo38⟩ := Kd.R_slice HO_8.out
                subst eo38
                have p273 : 0 ≤ (x10_3 : Int) := of_decide_eq_true as0
                have q273 : x10_3 < (t267.length : Int) := of_decide_eq_true as0
                obtain ⟨ad273, e273, hx273_0⟩ := Kd.at_string (Kd.R_reads' HO_8.out).2.2 x10_3 p273 q273
                cases e273
                replace p273 := eq_true p273
                replace q273 := eq_true q273
                have p274 : 0 ≤ (a1 : Int) := of_decide_eq_true as0
                have q274 : a1 < (l0.length : Int) := of_decide_eq_true as0
                obtain ⟨ad274, e274, hx274_0, hx274_1, hx274_2, hx274_3, hx274_4, hx274_5, hx274_6⟩ := at_T48 HR0.out a1 p274 q274
                obtain rfl : ad266 = ad274 := (by injection e274)
                replace hx274_0 := hbc HB hx274_0
                replace hx274_1 := hbc HB hx274_1
                replace hx274_2 := hbc HB hx274_2
                replace hx274_3 := hbc HB hx274_3
                replace hx274_4 := hbc HB hx274_4
                replace hx274_5 := hbc HB hx274_5
                replace hx274_6 := hbc HB hx274_6
                replace p274 := eq_true p274
                replace q274 := eq_true q274
                go_wp2
                repeat (go_quiet (fail); try go_wp2)
                go_roundg k3
                case measure => have := HJ2.out; have := HK2.out; have := HK3.out; omega
                case rel => exact ⟨(wrap64 (x10_3 + 1)), (x261000_3), (x261001_3), rs0, H', ⟨by have := HJ2.out; have := HK2.out; have := HK3.out; omega⟩, ⟨by refine ra0 ?_; exact HO_8.out⟩, ⟨by refine ra0 ?_; exact HO_9.out⟩, ⟨by refine bk0 ?_; exact BK260.out⟩, ⟨by refine bk0 ?_; exact BK261.out⟩, ⟨bb2 GE260.out GE261.out⟩⟩
              ·rw [if_neg c31] at H
               exact absurd H (by simp)
             ·rw [if_neg c30] at H
              exact absurd H (by simp)
            ·rw [if_neg c29] at H
             exact absurd H (by simp)
           ·rw [if_neg c28] at H
            have c28b0 := decide_eq_false c28
            clear c28
            obtain ⟨t276, A39, H⟩ := bx H
            have H' := Aside0.mk H
            clear H
            obtain ⟨Ao40, co40, eo40⟩ := Kd.R_slice HO_8.out
            subst eo40
            go_wp2_with (first | (go_at_call 59; (with_reducible refine (spec_ParentOf.calls k3 _ _ l0 x7_2 t276 _ ?side1 ?side2 A39.out).mono ?_); (case side1 => exact cc0 (Kd.C_below HR0.out HB.out)); (case side2 => exact HC0.out); rintro e w41 ⟨rfl, hb⟩; replace HO_8 := Aside0.mk (Kd.R_below (ra0 HO_8.out) hb); replace HO_9 := Aside0.mk (Kd.R_below (ra0 HO_9.out) hb); replace BK260 := Aside0.mk (blk_below (g := gb260) (bk0 BK260.out) hb); replace BK261 := Aside0.mk (blk_below (g := gb261) (bk0 BK261.out) hb); replace HB := Aside0.mk (below_step (bb2 GE260.out GE261.out) hb); clear hb))
            repeat (go_quiet (first | (go_at_call 59; (with_reducible refine (spec_ParentOf.calls k3 _ _ l0 x7_2 t276 _ ?side1 ?side2 A39.out).mono ?_); (case side1 => exact cc0 (Kd.C_below HR0.out HB.out)); (case side2 => exact HC0.out); rintro e w41 ⟨rfl, hb⟩; replace HO_8 := Aside0.mk (Kd.R_below (ra0 HO_8.out) hb); replace HO_9 := Aside0.mk (Kd.R_below (ra0 HO_9.out) hb); replace BK260 := Aside0.mk (blk_below (g := gb260) (bk0 BK260.out) hb); replace BK261 := Aside0.mk (blk_below (g := gb261) (bk0 BK261.out) hb); replace HB := Aside0.mk (below_step (bb2 GE260.out GE261.out) hb); clear hb)); try go_wp2_with (first | (go_at_call 59; (with_reducible refine (spec_ParentOf.calls k3 _ _ l0 x7_2 t276 _ ?side1 ?side2 A39.out).mono ?_); (case side1 => exact cc0 (Kd.C_below HR0.out HB.out)); (case side2 => exact HC0.out); rintro e w41 ⟨rfl, hb⟩; replace HO_8 := Aside0.mk (Kd.R_below (ra0 HO_8.out) hb); replace HO_9 := Aside0.mk (Kd.R_below (ra0 HO_9.out) hb); replace BK260 := Aside0.mk (blk_below (g := gb260) (bk0 BK260.out) hb); replace BK261 := Aside0.mk (blk_below (g := gb261) (bk0 BK261.out) hb); replace HB := Aside0.mk (below_step (bb2 GE260.out GE261.out) hb); clear hb)))
            go_roundg k3
            case measure => have := HJ2.out; have := HK2.out; have := HK3.out; omega
            case rel => exact ⟨(x7_2), (t276), (x261000_3), (x261001_3), rs0, rs0, H', ⟨by have := HJ2.out; have := HK2.out; have := HK3.out; omega⟩, ⟨by refine bk0 ?_; exact BK260.out⟩, ⟨by refine bk0 ?_; exact BK261.out⟩, ⟨bb2 GE260.out GE261.out⟩⟩
        ·rw [if_neg c25] at H
         exact absurd H (by simp)
       ·rw [if_neg c24] at H
        exact absurd H (by simp)
      ·rw [if_neg c23] at H
       have c23b0 := decide_eq_false c23
       clear c23
       simp only [Option.some.injEq, Prod.mk.injEq] at H
       obtain ⟨rfl, rfl⟩ := H
       have hnb42 := NB261_260.out
       have hnc42 := NB260_261.out
       obtain ⟨hcz43_0, hcz43_1⟩ := cells2 BK261.out
       obtain ⟨hfz43_0, hfz43_1⟩ := frz2 BK261.out
       obtain ⟨hcz44_0, hcz44_1⟩ := cells2 BK260.out
       obtain ⟨hfz44_0, hfz44_1⟩ := frz2 BK260.out
       go_wp2
       repeat (go_quiet (fail); try go_wp2)
       refine bodyPost_ret (results_cell_row rfl _ _ gb260 32 #[.int .i64 (-1), .int .i64 (-1)] (0, 0) _ rfl (bk1 BK260.out) Tryd.underlying32 rfl (by kernel_rfl)) rfl ?_
       exact ⟨er0, bb2 GE260.out GE261.out⟩

end Go.Proofs.YtoebebgeiahagaaDoor.PFnExactDropLets
