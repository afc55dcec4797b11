-- Printed by this session's own program (wip/tools)
import Derived.Test.YtoebebgeiahagaaDoorDlPFnExactDropLetsx0
import Derived.Test.YtoebebgeiahagaaDoorDlPFnExactDropLetsx18
namespace Go.Proofs.YtoebebgeiahagaaDoor.PFnExactDropLets
open Go.RowKit Go.Proofs.YtoebebgeiahagaaDoorW.PrintWords Go.Proofs.YtoebebgeiahagaaDoorW.PrintLast Go.Proofs.YtoebebgeiahagaaDoorW.PrintMore
attribute [local go_sem] max2_int min2_int max_two min_two max_three min_three max_four min_four   -- for this text's walks alone
set_option linter.unusedVariables false
set_option linter.unusedSimpArgs false

/-! ### impl_flat: function 36 -/
mutual
def impl_flat.l0 : Nat → List (S48) → List (S56) → Int → Int → Int → Int → Int → Int → Int → ByteArray → ByteArray → Option ((List (S48)))
 | 0, _, _, _, _, _, _, _, _, _, _, _ => none
 | k + 1, x0, x11, x12, x13, x431000, x431001, x431002, x431003, x431004, x431005, x431006 => if x13 < x12 then (if 0 ≤ x13 then (if x13 < (x11.length : Int) then ((impl_flat.f k x0 ((rd_T56 x11 x13).f0.f0) ((rd_T56 x11 x13).f0.f1) ((rd_T56 x11 x13).f0.f2) ((rd_T56 x11 x13).f0.f3) ((rd_T56 x11 x13).f0.f4) ((rd_T56 x11 x13).f0.f5) ((rd_T56 x11 x13).f0.f6) ((rd_T56 x11 x13).f1)).bind fun t436 => (if x13 = 0 then (impl_flat.l0 k t436 x11 x12 (wrap64 (x13 + 1)) x431000 (wrap64 ((t436.length : Int) - 1)) x431002 x431003 x431004 x431005 x431006) else (if x13 = 1 then (impl_flat.l0 k t436 x11 x12 (wrap64 (x13 + 1)) x431000 x431001 (wrap64 ((t436.length : Int) - 1)) x431003 x431004 x431005 x431006) else (if x13 = 2 then (impl_flat.l0 k t436 x11 x12 (wrap64 (x13 + 1)) x431000 x431001 x431002 (wrap64 ((t436.length : Int) - 1)) x431004 x431005 x431006) else (impl_flat.l0 k t436 x11 x12 (wrap64 (x13 + 1)) x431000 x431001 x431002 x431003 x431004 x431005 x431006))))) else (none)) else (none)) else (if x0.length < 1954687338268 then (some (x0 ++ [(⟨x431000, x431001, x431002, x431003, x431004, x431005, x431006⟩ : S48)])) else (none))
def impl_flat.f : Nat → List (S48) → Int → Int → Int → Int → Int → ByteArray → ByteArray → List (S56) → Option ((List (S48)))
 | 0, _, _, _, _, _, _, _, _, _ => none
 | k + 1, l0, a1_0, a1_1, a1_2, a1_3, a1_4, a1_5, a1_6, l1_7 => impl_flat.l0 k l0 l1_7 (l1_7.length : Int) 0 a1_0 a1_1 a1_2 a1_3 a1_4 a1_5 a1_6
end
theorem impl_flat.mono_l : ∀ k, (∀ y0 y1 y2 y3 y4 y5 y6 y7 y8, LeO (impl_flat.f k y0 y1 y2 y3 y4 y5 y6 y7 y8) (impl_flat.f (k + 1) y0 y1 y2 y3 y4 y5 y6 y7 y8)) ∧ (∀ y0 y1 y2 y3 y4 y5 y6 y7 y8 y9 y10, LeO (impl_flat.l0 k y0 y1 y2 y3 y4 y5 y6 y7 y8 y9 y10) (impl_flat.l0 (k + 1) y0 y1 y2 y3 y4 y5 y6 y7 y8 y9 y10))
 | 0 => ⟨fun _ _ _ _ _ _ _ _ _ r h => by simp [impl_flat.f] at h, fun _ _ _ _ _ _ _ _ _ _ _ r h => by simp [impl_flat.l0] at h⟩
 | k + 1 => by
  obtain ⟨ih0, ih1⟩ := impl_flat.mono_l k
  refine ⟨?_, ?_⟩
  ·intro y0 y1 y2 y3 y4 y5 y6 y7 y8
   unfold impl_flat.f
   repeat' first
   | (with_reducible exact ih0 _ _ _ _ _ _ _ _ _)
   | (with_reducible exact ih1 _ _ _ _ _ _ _ _ _ _ _)
   | (with_reducible exact LeO.refl _)
   | (with_reducible exact LeO.none _)
   | (with_reducible refine LeO.ite ?_ ?_)
   | (with_reducible refine LeO.bind ?_ (fun _ => ?_))
   | exact ih0 _ _ _ _ _ _ _ _ _
   | exact ih1 _ _ _ _ _ _ _ _ _ _ _
   | exact LeO.none _
   | refine LeO.ite ?_ ?_
   | refine LeO.bind ?_ (fun _ => ?_)
  ·intro y0 y1 y2 y3 y4 y5 y6 y7 y8 y9 y10
   unfold impl_flat.l0
   repeat' first
   | (with_reducible exact ih0 _ _ _ _ _ _ _ _ _)
   | (with_reducible exact ih1 _ _ _ _ _ _ _ _ _ _ _)
   | (with_reducible exact LeO.refl _)
   | (with_reducible exact LeO.none _)
   | (with_reducible refine LeO.ite ?_ ?_)
   | (with_reducible refine LeO.bind ?_ (fun _ => ?_))
   | exact ih0 _ _ _ _ _ _ _ _ _
   | exact ih1 _ _ _ _ _ _ _ _ _ _ _
   | exact LeO.none _
   | refine LeO.ite ?_ ?_
   | refine LeO.bind ?_ (fun _ => ?_)
theorem impl_flat.mono : ∀ a0 a1 a2 a3 a4 a5 a6 a7 a8 k, LeO (impl_flat.f k a0 a1 a2 a3 a4 a5 a6 a7 a8) (impl_flat.f (k + 1) a0 a1 a2 a3 a4 a5 a6 a7 a8) := by
 intro a0 a1 a2 a3 a4 a5 a6 a7 a8 k
 obtain ⟨ih0, ih1⟩ := impl_flat.mono_l k
 exact ih0 a0 a1 a2 a3 a4 a5 a6 a7 a8
set_option maxHeartbeats 8000000 in
set_option maxRecDepth 100000 in
theorem impl_flat.calls (k : Nat) : ∀ (P0_ : Nat → Prop) (u9000_ : Value) (l0 : List (S48)) (a1_0 : Int) (a1_1 : Int) (a1_2 : Int) (a1_3 : Int) (a1_4 : Int) (a1_5 : ByteArray) (a1_6 : ByteArray) (A1_7 : Option Addr) (c1_7 : Nat) (l1_7 : List (S56)) (r : List (S48)) (w0 w : World) (hB : Below w0.heap.size w0 w) (ho0 : Kd.R k48 48 w w0.heap.size P0_ u9000_ l0) (hr1_7 : ∀ W_, Kept w W_ (fun k_ => P0_ k_) → Kd.C k56 W_ A1_7 l1_7.length l1_7) (hc1_7 : l1_7.length ≤ c1_7) (h : impl_flat.f k l0 a1_0 a1_1 a1_2 a1_3 a1_4 a1_5 a1_6 l1_7 = some r),
  Calls Tryd.prog 36 #[u9000_, .agg #[.int .i64 a1_0, .int .i64 a1_1, .int .i64 a1_2, .int .i64 a1_3, .int .i64 a1_4, .string a1_5, .string a1_6, .slice A1_7 l1_7.length c1_7]] w fun e w' => ∃ v0_ : Value, e = .returned (v0_) ∧ Kd.R k48 48 w' w0.heap.size (fun k_ => (P0_ k_ ∨ w.heap.size ≤ k_)) v0_ r ∧ Below w0.heap.size w0 w' ∧ Kept w w' (fun k_ => P0_ k_) := by
 induction k using Nat.strongRecOn with
 | _ k ih =>
 intro P0_ u9000_ l0 a1_0 a1_1 a1_2 a1_3 a1_4 a1_5 a1_6 A1_7 c1_7 l1_7 r w0 w hB ho0 hr1_7 hc1_7 h
 cases k with
 | zero => exact absurd h (by simp [impl_flat.f])
 | succ k =>
 simp only [impl_flat.f] at h
 have hu56 := Tryd.underlying56
 have hu48 := Tryd.underlying48
 have HO0 := Aside0.mk (show Kd.R k48 48 w w0.heap.size (fun k_ => (P0_ k_ ∨ w.heap.size ≤ k_)) u9000_ l0 from Kd.R_mono ho0 (fun k_ hk => (.inl hk)))
 have HR1_7 := Aside0.mk hr1_7
 have HC1_7 := Aside0.mk hc1_7
 clear hr1_7 hc1_7
 have HK := Aside0.mk (Kept.refl w (fun k_ => P0_ k_))
 have HW0 := Aside0.mk hB.size
 have HB := Aside0.mk hB
 clear hB
 have H := h
 clear h
 have H' := Aside0.mk H
 clear H
 go_enter Tryd.func36, Tryd.ntmps36
 go_wp2_with (first | ((with_reducible refine gate_dst (N := 3) rfl ?_); refine box_event ?hg (N := 3) ?hd (cs := #[.int .i64 a1_0, .int .i64 a1_1, .int .i64 a1_2, .int .i64 a1_3, .int .i64 a1_4, .string a1_5, .string a1_6, .slice A1_7 l1_7.length c1_7]) (t := 56) ?hr ?_; (case hd => rfl); (case hg => rfl); (case hr => first | (go_simp; done) | (go_simp; rfl)); intro gb429 hg w3 hbox hb; replace HO0 := Aside0.mk (Kd.R_below (ra0 HO0.out) hb); have BK429 := Aside0.mk (hbox); have GW429 := Aside0.mk ((by rw [hg]; exact (by first | exact HK.out.1 | exact (show Kept w _ (fun k_ => P0_ k_) from by repeat (first | (with_reducible first | exact HK.out | apply Kept.alloc | apply Kept.drewN | apply Kept.drew) | exact HK.out)).1) : w.heap.size ≤ gb429)); replace HK := Aside0.mk (Kept.below (S := (fun k_ => P0_ k_)) (by repeat (first | (with_reducible first | exact HK.out | apply Kept.alloc | apply Kept.drewN | apply Kept.drew) | exact HK.out)) hb); have GE429 := Aside0.mk ((by rw [hg]; exact (below_size bb0) : w0.heap.size ≤ gb429)); replace HB := Aside0.mk (below_step bb0 hb); clear hb hbox hg; obtain ⟨hcz4_0, hcz4_1, hcz4_2, hcz4_3, hcz4_4, hcz4_5, hcz4_6, hcz4_7⟩ := cells8 BK429.out; obtain ⟨hfz4_0, hfz4_1, hfz4_2, hfz4_3, hfz4_4, hfz4_5, hfz4_6, hfz4_7⟩ := frz8 BK429.out) | ((with_reducible refine gate_dst (N := 5) rfl ?_); refine box_event ?hg (N := 5) ?hd (cs := #[.int .i64 0, .int .i64 0, .int .i64 0, .int .i64 0, .int .i64 0, .string (⟨#[]⟩ : ByteArray), .string (⟨#[]⟩ : ByteArray)]) (t := 48) ?hr ?_; (case hd => rfl); (case hg => rfl); (case hr => first | (go_simp; done) | (go_simp; rfl)); intro gb430 hg w5 hbox hb; replace HO0 := Aside0.mk (Kd.R_below (Kd.R_elderB (ra0 HO0.out) gb430 (Nat.le_of_eq hg.symm)) hb); have BK430 := Aside0.mk (hbox); have GW430 := Aside0.mk ((by rw [hg]; exact (by first | exact HK.out.1 | exact (show Kept w _ (fun k_ => P0_ k_) from by repeat (first | (with_reducible first | exact HK.out | apply Kept.alloc | apply Kept.drewN | apply Kept.drew | refine Kept.setCell ?_ (.inr GW429.out) _) | exact HK.out)).1) : w.heap.size ≤ gb430)); replace HK := Aside0.mk (Kept.below (S := (fun k_ => P0_ k_)) (by repeat (first | (with_reducible first | exact HK.out | apply Kept.alloc | apply Kept.drewN | apply Kept.drew | refine Kept.setCell ?_ (.inr GW429.out) _) | exact HK.out)) hb); have GE430 := Aside0.mk ((by rw [hg]; exact (below_size (bb1 GE429.out)) : w0.heap.size ≤ gb430)); replace HB := Aside0.mk (below_step (bb1 GE429.out) hb); have NB429_430 := Aside0.mk ((by rw [hg]; exact Nat.ne_of_lt (blk_lt (g := gb429) (bk0 BK429.out)) : gb429 ≠ gb430)); have NB430_429 := Aside0.mk ((by rw [hg]; exact Nat.ne_of_gt (blk_lt (g := gb429) (bk0 BK429.out)) : gb430 ≠ gb429)); replace BK429 := Aside0.mk (blk_below (g := gb429) (bk0 BK429.out) hb); clear hb hbox hg; have hnb6 := NB430_429.out; have hnc6 := NB429_430.out; obtain ⟨hcz7_0, hcz7_1, hcz7_2, hcz7_3, hcz7_4, hcz7_5, hcz7_6⟩ := cells7 BK430.out; obtain ⟨hfz7_0, hfz7_1, hfz7_2, hfz7_3, hfz7_4, hfz7_5, hfz7_6⟩ := frz7 BK430.out; obtain ⟨hcz8_0, hcz8_1, hcz8_2, hcz8_3, hcz8_4, hcz8_5, hcz8_6, hcz8_7⟩ := cells8 BK429.out; obtain ⟨hfz8_0, hfz8_1, hfz8_2, hfz8_3, hfz8_4, hfz8_5, hfz8_6, hfz8_7⟩ := frz8 BK429.out))
 go_simp
 go_loopg [0, 13] k (fun kq v0 v13 w' => ∃ (x0_1 : List (S48)) (x13_1 : Int) (x431001_1 : Int) (x431002_1 : Int) (x431003_1 : Int), v13 = .int .i64 x13_1 ∧ Aside0 (impl_flat.l0 kq x0_1 l1_7 (l1_7.length : Int) x13_1 a1_0 x431001_1 x431002_1 x431003_1 a1_4 a1_5 a1_6 = some r) ∧ Aside0 (kq ≤ k) ∧ Aside0 (Kd.R k48 48 w' w0.heap.size (fun k_ => (P0_ k_ ∨ w.heap.size ≤ k_) ∧ k_ ≠ gb430) v0 x0_1) ∧ Aside0 (w'.heap[gb429]? = some (.cells #[.int .i64 a1_0, .int .i64 a1_1, .int .i64 a1_2, .int .i64 a1_3, .int .i64 a1_4, .string a1_5, .string a1_6, (.slice A1_7 l1_7.length c1_7)] 56 (0, 0))) ∧ Aside0 (w'.heap[gb430]? = some (.cells #[.int .i64 a1_0, .int .i64 x431001_1, .int .i64 x431002_1, .int .i64 x431003_1, .int .i64 a1_4, .string a1_5, .string a1_6] 48 (0, 0))) ∧ Aside0 (Kept w w' (fun k_ => P0_ k_)) ∧ Aside0 (Below w0.heap.size w0 w'))
 case atStart => exact ⟨(l0), (0), (a1_1), (a1_2), (a1_3), rs0, H', ⟨Nat.le_refl _⟩, ⟨by (try simp only [setCell_drewN]); refine ra0 ?_; exact Kd.R_mono (Kd.R_far (p := ⟨gb430, 6, none⟩) (Kd.R_far (p := ⟨gb430, 5, none⟩) (Kd.R_far (p := ⟨gb430, 4, none⟩) (Kd.R_far (p := ⟨gb430, 3, none⟩) (Kd.R_far (p := ⟨gb430, 2, none⟩) (Kd.R_far (p := ⟨gb430, 1, none⟩) (Kd.R_far (p := ⟨gb430, 0, none⟩) (Kd.R_mono HO0.out (fun k_ hk => (⟨hk, hk.2⟩ : _ ∧ k_ ≠ gb430))) (fun _ hk => hk.2) (.int .i64 a1_0)) (fun _ hk => hk.2) (.int .i64 a1_1)) (fun _ hk => hk.2) (.int .i64 a1_2)) (fun _ hk => hk.2) (.int .i64 a1_3)) (fun _ hk => hk.2) (.int .i64 a1_4)) (fun _ hk => hk.2) (.string a1_5)) (fun _ hk => hk.2) (.string a1_6)) (fun _ hk => ⟨hk.1.1, hk.1.2⟩)⟩, ⟨bf1 NB429_430.out BK429.out⟩, ⟨bk1 BK430.out⟩, ⟨by repeat (first | (with_reducible first | exact HK.out | apply Kept.alloc | apply Kept.drewN | apply Kept.drew | refine Kept.setCell ?_ (.inr GW429.out) _ | refine Kept.setCell ?_ (.inr GW430.out) _) | exact HK.out)⟩, ⟨bb2 GE429.out GE430.out⟩⟩
 case round =>
  clear H'
  try clear c1
  try clear p2
  try clear c3
  try clear c6
  try clear hcz4_0
  try clear hcz4_1
  try clear hcz4_2
  try clear hcz4_3
  try clear hcz4_4
  try clear hcz4_5
  try clear hcz4_6
  try clear hcz4_7
  try clear hcz7_0
  try clear hcz7_1
  try clear hcz7_2
  try clear hcz7_3
  try clear hcz7_4
  try clear hcz7_5
  try clear hcz7_6
  try clear hcz8_0
  try clear hcz8_1
  try clear hcz8_2
  try clear hcz8_3
  try clear hcz8_4
  try clear hcz8_5
  try clear hcz8_6
  try clear hcz8_7
  try clear hfz4_0
  try clear hfz4_1
  try clear hfz4_2
  try clear hfz4_3
  try clear hfz4_4
  try clear hfz4_5
  try clear hfz4_6
  try clear hfz4_7
  try clear hfz7_0
  try clear hfz7_1
  try clear hfz7_2
  try clear hfz7_3
  try clear hfz7_4
  try clear hfz7_5
  try clear hfz7_6
  try clear hfz8_0
  try clear hfz8_1
  try clear hfz8_2
  try clear hfz8_3
  try clear hfz8_4
  try clear hfz8_5
  try clear hfz8_6
  try clear hfz8_7
  obtain ⟨x0_1, x13_1, x431001_1, x431002_1, x431003_1, rfl, HA, HK1, HO_0, BK429, BK430, HK, HB⟩ := hrel
  cases gk with
  | zero => exact absurd HA.out (by simp [impl_flat.l0])
  | succ k1 =>
   have H := HA.out
   clear HA
   simp only [impl_flat.l0] at H
   by_cases c9 : x13_1 < (l1_7.length : Int)
   ·rw [if_pos c9] at H
    have c9b0 := decide_eq_true c9
    clear c9
    by_cases c10 : 0 ≤ x13_1
    ·rw [if_pos c10] at H
     have c10b0 := decide_eq_true c10
     clear c10
     by_cases c11 : x13_1 < (l1_7.length : Int)
     ·rw [if_pos c11] at H
      have c11b0 := decide_eq_true c11
      clear c11
      obtain ⟨t436, A12, H⟩ := bx H
      by_cases c13 : x13_1 = 0
      ·rw [if_pos c13] at H
       obtain ⟨c13b0, c13b1⟩ := eqT c13
       clear c13
       have H' := Aside0.mk H
       clear H
       have p434 : 0 ≤ (x13_1 : Int) := of_decide_eq_true as0
       have q434 : x13_1 < (l1_7.length : Int) := of_decide_eq_true as0
       obtain ⟨ad434, A434_7, c434_7, e434, hx434_0, hx434_1, hx434_2, hx434_3, hx434_4, hx434_5, hx434_6, hx434_7, hl434_7, hi434_7⟩ := at_T56 (Kd.C_kept_now HR1_7.out HK.out) x13_1 p434 q434
       cases e434
       have HR434_7 := Aside0.mk (Kd.kept_inner HR1_7.out HK.out (by first | exact p434 | exact of_eq_true p434) (by first | exact q434 | exact of_eq_true q434) (by decide) (by first | rfl | simp [add_block]) hx434_7 (fun W_ hk_ => by obtain ⟨ad2_, A7_, c7_, e2_, y0_, y1_, y2_, y3_, y4_, y5_, y6_, y7_, l7_, g7_⟩ := at_T56 (HR1_7.out W_ hk_) x13_1 (by first | exact p434 | exact of_eq_true p434) (by first | exact q434 | exact of_eq_true q434); injection e2_ with e2_; subst e2_; exact ⟨_, _, _, y7_, g7_⟩))
       have HC434_7 := Aside0.mk hl434_7
       clear hi434_7 hl434_7
       replace p434 := eq_true p434
       replace q434 := eq_true q434
       go_wp2_with (first | ((with_reducible refine gate_dst (N := 7) rfl ?_); refine box_event ?hg (N := 7) ?hd (cs := #[.int .i64 0, .int .i64 0, .int .i64 0, .int .i64 0, .int .i64 0, .string (⟨#[]⟩ : ByteArray), .string (⟨#[]⟩ : ByteArray), .slice none 0 0]) (t := 56) ?hr ?_; (case hd => rfl); (case hg => rfl); (case hr => first | (go_simp; done) | (go_simp; rfl)); intro gb435 hg w14 hbox hb; replace HO_0 := Aside0.mk (Kd.R_below (ra0 HO_0.out) hb); have BK435 := Aside0.mk (hbox); have GW435 := Aside0.mk ((by rw [hg]; exact (by first | exact HK.out.1 | exact (show Kept w _ (fun k_ => P0_ k_) from by repeat (first | (with_reducible first | exact HK.out | apply Kept.alloc | apply Kept.drewN | apply Kept.drew | refine Kept.setCell ?_ (.inr GW429.out) _ | refine Kept.setCell ?_ (.inr GW430.out) _) | exact HK.out)).1) : w.heap.size ≤ gb435)); replace HK := Aside0.mk (Kept.below (S := (fun k_ => P0_ k_)) (by repeat (first | (with_reducible first | exact HK.out | apply Kept.alloc | apply Kept.drewN | apply Kept.drew | refine Kept.setCell ?_ (.inr GW429.out) _ | refine Kept.setCell ?_ (.inr GW430.out) _) | exact HK.out)) hb); have GE435 := Aside0.mk ((by rw [hg]; exact (below_size (bb2 GE429.out GE430.out)) : w0.heap.size ≤ gb435)); replace HB := Aside0.mk (below_step (bb2 GE429.out GE430.out) hb); have NB429_435 := Aside0.mk ((by rw [hg]; exact Nat.ne_of_lt (blk_lt (g := gb429) (bk0 BK429.out)) : gb429 ≠ gb435)); have NB435_429 := Aside0.mk ((by rw [hg]; exact Nat.ne_of_gt (blk_lt (g := gb429) (bk0 BK429.out)) : gb435 ≠ gb429)); replace BK429 := Aside0.mk (blk_below (g := gb429) (bk0 BK429.out) hb); have NB430_435 := Aside0.mk ((by rw [hg]; exact Nat.ne_of_lt (blk_lt (g := gb430) (bk0 BK430.out)) : gb430 ≠ gb435)); have NB435_430 := Aside0.mk ((by rw [hg]; exact Nat.ne_of_gt (blk_lt (g := gb430) (bk0 BK430.out)) : gb435 ≠ gb430)); replace BK430 := Aside0.mk (blk_below (g := gb430) (bk0 BK430.out) hb); clear hb hbox hg; have hnb15 := NB435_429.out; have hnc15 := NB429_435.out; have hnb16 := NB435_430.out; have hnc16 := NB430_435.out; obtain ⟨hcz17_0, hcz17_1, hcz17_2, hcz17_3, hcz17_4, hcz17_5, hcz17_6, hcz17_7⟩ := cells8 BK435.out; obtain ⟨hfz17_0, hfz17_1, hfz17_2, hfz17_3, hfz17_4, hfz17_5, hfz17_6, hfz17_7⟩ := frz8 BK435.out) | ((with_reducible refine gate_store (t := 56) (p := 7) rfl ?_); refine store_event (t := 56) (p := 7) (v := ?vo_w18) (w1 := ((((((((w14.setCell ⟨gb435, 0, none⟩ (.int .i64 ((rd_T56 l1_7 x13_1).f0.f0))).setCell ⟨gb435, 1, none⟩ (.int .i64 ((rd_T56 l1_7 x13_1).f0.f1))).setCell ⟨gb435, 2, none⟩ (.int .i64 ((rd_T56 l1_7 x13_1).f0.f2))).setCell ⟨gb435, 3, none⟩ (.int .i64 ((rd_T56 l1_7 x13_1).f0.f3))).setCell ⟨gb435, 4, none⟩ (.int .i64 ((rd_T56 l1_7 x13_1).f0.f4))).setCell ⟨gb435, 5, none⟩ (.string ((rd_T56 l1_7 x13_1).f0.f5))).setCell ⟨gb435, 6, none⟩ (.string ((rd_T56 l1_7 x13_1).f0.f6))).setCell ⟨gb435, 7, none⟩ (.slice A434_7 ((rd_T56 l1_7 x13_1).f1).length c434_7))) ?hg ?ho ?hn ?hr ?_; (case ho => rfl); (case hg => rfl); (case hn => rfl); (case hr => first | (go_simp; done) | (go_simp; rfl)); intro w18 hw; have n0_ : Aside0 (Kd.R k48 48 w18 w0.heap.size (fun k_ => (P0_ k_ ∨ w.heap.size ≤ k_) ∧ k_ ≠ gb430) u0 x0_1) := ⟨(by rw [hw]; exact (by (try simp only [setCell_drewN]); refine ra0 ?_; exact Kd.R_mono (Kd.R_far (p := ⟨gb435, 7, none⟩) (Kd.R_far (p := ⟨gb435, 6, none⟩) (Kd.R_far (p := ⟨gb435, 5, none⟩) (Kd.R_far (p := ⟨gb435, 4, none⟩) (Kd.R_far (p := ⟨gb435, 3, none⟩) (Kd.R_far (p := ⟨gb435, 2, none⟩) (Kd.R_far (p := ⟨gb435, 1, none⟩) (Kd.R_far (p := ⟨gb435, 0, none⟩) (Kd.R_types HO_0.out BK435.out (by decide)) (fun _ hk => hk.2) (.int .i64 ((rd_T56 l1_7 x13_1).f0.f0))) (fun _ hk => hk.2) (.int .i64 ((rd_T56 l1_7 x13_1).f0.f1))) (fun _ hk => hk.2) (.int .i64 ((rd_T56 l1_7 x13_1).f0.f2))) (fun _ hk => hk.2) (.int .i64 ((rd_T56 l1_7 x13_1).f0.f3))) (fun _ hk => hk.2) (.int .i64 ((rd_T56 l1_7 x13_1).f0.f4))) (fun _ hk => hk.2) (.string ((rd_T56 l1_7 x13_1).f0.f5))) (fun _ hk => hk.2) (.string ((rd_T56 l1_7 x13_1).f0.f6))) (fun _ hk => hk.2) (.slice A434_7 ((rd_T56 l1_7 x13_1).f1).length c434_7)) (fun _ hk => ⟨hk.1.1, hk.1.2⟩)))⟩; have n1_ : Aside0 (w18.heap[gb429]? = some (.cells #[.int .i64 a1_0, .int .i64 a1_1, .int .i64 a1_2, .int .i64 a1_3, .int .i64 a1_4, .string a1_5, .string a1_6, .slice (some ad434) l1_7.length c1_7] 56 (0, 0))) := ⟨(by rw [hw]; exact (bf1 NB429_435.out BK429.out))⟩; have n2_ : Aside0 (w18.heap[gb430]? = some (.cells #[.int .i64 a1_0, .int .i64 x431001_1, .int .i64 x431002_1, .int .i64 x431003_1, .int .i64 a1_4, .string a1_5, .string a1_6] 48 (0, 0))) := ⟨(by rw [hw]; exact (bf1 NB430_435.out BK430.out))⟩; have n3_ : Aside0 (w18.heap[gb435]? = some (.cells #[.int .i64 ((rd_T56 l1_7 x13_1).f0.f0), .int .i64 ((rd_T56 l1_7 x13_1).f0.f1), .int .i64 ((rd_T56 l1_7 x13_1).f0.f2), .int .i64 ((rd_T56 l1_7 x13_1).f0.f3), .int .i64 ((rd_T56 l1_7 x13_1).f0.f4), .string ((rd_T56 l1_7 x13_1).f0.f5), .string ((rd_T56 l1_7 x13_1).f0.f6), .slice A434_7 ((rd_T56 l1_7 x13_1).f1).length c434_7] 56 (0, 0))) := ⟨(by rw [hw]; exact (bk1 BK435.out))⟩; have n4_ : Aside0 (Kept w w18 (fun k_ => P0_ k_)) := ⟨(by rw [hw]; exact (by repeat (first | (with_reducible first | exact HK.out | apply Kept.alloc | apply Kept.drewN | apply Kept.drew | refine Kept.setCell ?_ (.inr GW429.out) _ | refine Kept.setCell ?_ (.inr GW430.out) _ | refine Kept.setCell ?_ (.inr GW435.out) _) | exact HK.out)))⟩; have n5_ : Aside0 (Below w0.heap.size w0 w18) := ⟨(by rw [hw]; exact (bb3 GE429.out GE430.out GE435.out))⟩; clear hw; clear HO_0; clear BK429; clear BK430; clear BK435; clear HK; clear HB; have HO_0 := n0_; have BK429 := n1_; have BK430 := n2_; have BK435 := n3_; have HK := n4_; have HB := n5_; clear n0_ n1_ n2_ n3_ n4_ n5_; obtain ⟨hcz19_0, hcz19_1, hcz19_2, hcz19_3, hcz19_4, hcz19_5, hcz19_6, hcz19_7⟩ := cells8 BK435.out; obtain ⟨hfz19_0, hfz19_1, hfz19_2, hfz19_3, hfz19_4, hfz19_5, hfz19_6, hfz19_7⟩ := frz8 BK435.out; obtain ⟨Ao20, co20, eo20⟩ := Kd.R_slice HO_0.out; subst eo20) | ((with_reducible refine gate_callee (f := 36) rfl ?_); refine goesL_ (some 20) rfl rfl Tryd.func36 (by kernel_rfl) rfl #[.slice Ao20 x0_1.length co20, .agg #[.int .i64 ((rd_T56 l1_7 x13_1).f0.f0), .int .i64 ((rd_T56 l1_7 x13_1).f0.f1), .int .i64 ((rd_T56 l1_7 x13_1).f0.f2), .int .i64 ((rd_T56 l1_7 x13_1).f0.f3), .int .i64 ((rd_T56 l1_7 x13_1).f0.f4), .string ((rd_T56 l1_7 x13_1).f0.f5), .string ((rd_T56 l1_7 x13_1).f0.f6), .slice A434_7 ((rd_T56 l1_7 x13_1).f1).length c434_7]] rfl mm0 ?_; (with_reducible refine (ih k1 (by have := HK1.out; omega) (fun k_ => some k_ = (.slice Ao20 x0_1.length co20 : Value).ownBlock) (.slice Ao20 x0_1.length co20) x0_1 ((rd_T56 l1_7 x13_1).f0.f0) ((rd_T56 l1_7 x13_1).f0.f1) ((rd_T56 l1_7 x13_1).f0.f2) ((rd_T56 l1_7 x13_1).f0.f3) ((rd_T56 l1_7 x13_1).f0.f4) ((rd_T56 l1_7 x13_1).f0.f5) ((rd_T56 l1_7 x13_1).f0.f6) _ _ ((rd_T56 l1_7 x13_1).f1) t436 w0 _ ?side1 ?side2 ?side3 ?side4 A12.out).mono ?_); (case side1 => repeat (first | (with_reducible first | exact HB.out | apply below_alloc | apply pw_below_drewN | apply below_drew1 | refine below_set ?_ GE429.out | refine below_set ?_ GE430.out | refine below_set ?_ GE435.out) | exact HB.out)); (case side2 => exact Kd.R_tight rfl HO_0.out); (case side3 => exact Kd.C_kept_call HR434_7.out (by repeat (first | (with_reducible first | exact HK.out | apply Kept.alloc | apply Kept.drewN | apply Kept.drew | refine Kept.setCell ?_ (.inr GW429.out) _ | refine Kept.setCell ?_ (.inr GW430.out) _ | refine Kept.setCell ?_ (.inr GW435.out) _) | exact HK.out)) (fun k_ hs_ => (fun e_ => (HO_0.out.1 k_ e_.symm).1) hs_)); (case side4 => exact HC434_7.out); rintro e w21 ⟨v437, rfl, ho0, hb, hkp⟩; refine ⟨_, rfl, ?_⟩; have n0_ := Aside0.mk (blk_kept (bk0 BK429.out) hkp (fun hs_ => (fun e_ => (Kd.R_ne HO_0.out BK429.out (by decide)) e_) hs_)); have n1_ := Aside0.mk (blk_kept (bk0 BK430.out) hkp (fun hs_ => (fun e_ => (Kd.R_away HO_0.out (fun _ hk => hk.2)) e_) hs_)); have n2_ := Aside0.mk (blk_kept (bk0 BK435.out) hkp (fun hs_ => (fun e_ => (Kd.R_ne HO_0.out BK435.out (by decide)) e_) hs_)); have n3_ := Aside0.mk (Kd.R_mono (ok' := fun k_ => (P0_ k_ ∨ w.heap.size ≤ k_) ∧ k_ ≠ gb430) ho0 (fun k_ hk_ => ⟨Or.elim hk_ (fun hs_ => (HO_0.out.1 k_ (hs_).symm).1) (fun hn_ => (.inr (Nat.le_trans (by first | exact HK.out.1 | exact (show Kept w _ (fun k_ => P0_ k_) from by repeat (first | (with_reducible first | exact HK.out | apply Kept.alloc | apply Kept.drewN | apply Kept.drew | refine Kept.setCell ?_ (.inr GW429.out) _ | refine Kept.setCell ?_ (.inr GW430.out) _ | refine Kept.setCell ?_ (.inr GW435.out) _) | exact HK.out)).1) hn_))), Or.elim hk_ (fun hs_ => fun e_ => (Kd.R_away HO_0.out (fun _ hk => hk.2)) (by rw [← e_]; exact hs_)) (fun hn_ => (Kd.freshB (g := gb430) (bk0 BK430.out) k_ hn_))⟩)); have n4_ := Aside0.mk (Kept.then_ (S := (fun k_ => P0_ k_)) (by repeat (first | (with_reducible first | exact HK.out | apply Kept.alloc | apply Kept.drewN | apply Kept.drew | refine Kept.setCell ?_ (.inr GW429.out) _ | refine Kept.setCell ?_ (.inr GW430.out) _ | refine Kept.setCell ?_ (.inr GW435.out) _) | exact HK.out)) hkp (fun k_ hs_ => (fun e_ => (HO_0.out.1 k_ e_.symm).1) hs_)); have n5_ := Aside0.mk (hb); clear BK429; clear BK430; clear BK435; clear HK; clear HB; clear HO_0; have BK429 := n0_; have BK430 := n1_; have BK435 := n2_; have HO438 := n3_; have HK := n4_; have HB := n5_; clear n0_ n1_ n2_ n3_ n4_ n5_; clear hb hkp ho0; obtain ⟨Ao22, co22, eo22⟩ := Kd.R_slice HO438.out; subst eo22; have hnb23 := NB430_429.out; have hnc23 := NB429_430.out; obtain ⟨hcz24_0, hcz24_1, hcz24_2, hcz24_3, hcz24_4, hcz24_5, hcz24_6⟩ := cells7 BK430.out; obtain ⟨hfz24_0, hfz24_1, hfz24_2, hfz24_3, hfz24_4, hfz24_5, hfz24_6⟩ := frz7 BK430.out))
       go_roundg k1
       case measure => have := HK1.out; omega
       case rel => exact ⟨(t436), (wrap64 (x13_1 + 1)), (wrap64 ((t436.length : Int) - 1)), (x431002_1), (x431003_1), rs0, H', ⟨by have := HK1.out; omega⟩, ⟨by (try simp only [setCell_drewN]); refine ra0 ?_; exact Kd.R_mono (Kd.R_far (p := ⟨gb430, 1, none⟩) (Kd.R_mono HO438.out (fun k_ hk => (⟨hk, hk.2⟩ : _ ∧ k_ ≠ gb430))) (fun _ hk => hk.2) (.int .i64 (wrap64 ((t436.length : Int) - 1)))) (fun _ hk => ⟨hk.1.1, hk.1.2⟩)⟩, ⟨bf1 NB429_430.out BK429.out⟩, ⟨bk1 BK430.out⟩, ⟨by repeat (first | (with_reducible first | exact HK.out | apply Kept.alloc | apply Kept.drewN | apply Kept.drew | refine Kept.setCell ?_ (.inr GW429.out) _ | refine Kept.setCell ?_ (.inr GW430.out) _ | refine Kept.setCell ?_ (.inr GW435.out) _) | exact HK.out)⟩, ⟨bb3 GE429.out GE430.out GE435.out⟩⟩
      ·rw [if_neg c13] at H
       obtain ⟨c13b0, c13b1⟩ := eqF c13
       by_cases c25 : x13_1 = 1
       ·rw [if_pos c25] at H
        obtain ⟨c25b0, c25b1⟩ := eqT c25
        clear c25
        have H' := Aside0.mk H
        clear H
        have p434 : 0 ≤ (x13_1 : Int) := of_decide_eq_true as0
        have q434 : x13_1 < (l1_7.length : Int) := of_decide_eq_true as0
        obtain ⟨ad434, A434_7, c434_7, e434, hx434_0, hx434_1, hx434_2, hx434_3, hx434_4, hx434_5, hx434_6, hx434_7, hl434_7, hi434_7⟩ := at_T56 (Kd.C_kept_now HR1_7.out HK.out) x13_1 p434 q434
        cases e434
        have HR434_7 := Aside0.mk (Kd.kept_inner HR1_7.out HK.out (by first | exact p434 | exact of_eq_true p434) (by first | exact q434 | exact of_eq_true q434) (by decide) (by first | rfl | simp [add_block]) hx434_7 (fun W_ hk_ => by obtain ⟨ad2_, A7_, c7_, e2_, y0_, y1_, y2_, y3_, y4_, y5_, y6_, y7_, l7_, g7_⟩ := at_T56 (HR1_7.out W_ hk_) x13_1 (by first | exact p434 | exact of_eq_true p434) (by first | exact q434 | exact of_eq_true q434); injection e2_ with e2_; subst e2_; exact ⟨_, _, _, y7_, g7_⟩))
        have HC434_7 := Aside0.mk hl434_7
        clear hi434_7 hl434_7
        replace p434 := eq_true p434
        replace q434 := eq_true q434
        go_wp2_with (first | ((with_reducible refine gate_dst (N := 7) rfl ?_); refine box_event ?hg (N := 7) ?hd (cs := #[.int .i64 0, .int .i64 0, .int .i64 0, .int .i64 0, .int .i64 0, .string (⟨#[]⟩ : ByteArray), .string (⟨#[]⟩ : ByteArray), .slice none 0 0]) (t := 56) ?hr ?_; (case hd => rfl); (case hg => rfl); (case hr => first | (go_simp; done) | (go_simp; rfl)); intro gb435 hg w26 hbox hb; replace HO_0 := Aside0.mk (Kd.R_below (ra0 HO_0.out) hb); have BK435 := Aside0.mk (hbox); have GW435 := Aside0.mk ((by rw [hg]; exact (by first | exact HK.out.1 | exact (show Kept w _ (fun k_ => P0_ k_) from by repeat (first | (with_reducible first | exact HK.out | apply Kept.alloc | apply Kept.drewN | apply Kept.drew | refine Kept.setCell ?_ (.inr GW429.out) _ | refine Kept.setCell ?_ (.inr GW430.out) _) | exact HK.out)).1) : w.heap.size ≤ gb435)); replace HK := Aside0.mk (Kept.below (S := (fun k_ => P0_ k_)) (by repeat (first | (with_reducible first | exact HK.out | apply Kept.alloc | apply Kept.drewN | apply Kept.drew | refine Kept.setCell ?_ (.inr GW429.out) _ | refine Kept.setCell ?_ (.inr GW430.out) _) | exact HK.out)) hb); have GE435 := Aside0.mk ((by rw [hg]; exact (below_size (bb2 GE429.out GE430.out)) : w0.heap.size ≤ gb435)); replace HB := Aside0.mk (below_step (bb2 GE429.out GE430.out) hb); have NB429_435 := Aside0.mk ((by rw [hg]; exact Nat.ne_of_lt (blk_lt (g := gb429) (bk0 BK429.out)) : gb429 ≠ gb435)); have NB435_429 := Aside0.mk ((by rw [hg]; exact Nat.ne_of_gt (blk_lt (g := gb429) (bk0 BK429.out)) : gb435 ≠ gb429)); replace BK429 := Aside0.mk (blk_below (g := gb429) (bk0 BK429.out) hb); have NB430_435 := Aside0.mk ((by rw [hg]; exact Nat.ne_of_lt (blk_lt (g := gb430) (bk0 BK430.out)) : gb430 ≠ gb435)); have NB435_430 := Aside0.mk ((by rw [hg]; exact Nat.ne_of_gt (blk_lt (g := gb430) (bk0 BK430.out)) : gb435 ≠ gb430)); replace BK430 := Aside0.mk (blk_below (g := gb430) (bk0 BK430.out) hb); clear hb hbox hg; have hnb27 := NB435_429.out; have hnc27 := NB429_435.out; have hnb28 := NB435_430.out; have hnc28 := NB430_435.out; obtain ⟨hcz29_0, hcz29_1, hcz29_2, hcz29_3, hcz29_4, hcz29_5, hcz29_6, hcz29_7⟩ := cells8 BK435.out; obtain ⟨hfz29_0, hfz29_1, hfz29_2, hfz29_3, hfz29_4, hfz29_5, hfz29_6, hfz29_7⟩ := frz8 BK435.out) | ((with_reducible refine gate_store (t := 56) (p := 7) rfl ?_); refine store_event (t := 56) (p := 7) (v := ?vo_w30) (w1 := ((((((((w26.setCell ⟨gb435, 0, none⟩ (.int .i64 ((rd_T56 l1_7 x13_1).f0.f0))).setCell ⟨gb435, 1, none⟩ (.int .i64 ((rd_T56 l1_7 x13_1).f0.f1))).setCell ⟨gb435, 2, none⟩ (.int .i64 ((rd_T56 l1_7 x13_1).f0.f2))).setCell ⟨gb435, 3, none⟩ (.int .i64 ((rd_T56 l1_7 x13_1).f0.f3))).setCell ⟨gb435, 4, none⟩ (.int .i64 ((rd_T56 l1_7 x13_1).f0.f4))).setCell ⟨gb435, 5, none⟩ (.string ((rd_T56 l1_7 x13_1).f0.f5))).setCell ⟨gb435, 6, none⟩ (.string ((rd_T56 l1_7 x13_1).f0.f6))).setCell ⟨gb435, 7, none⟩ (.slice A434_7 ((rd_T56 l1_7 x13_1).f1).length c434_7))) ?hg ?ho ?hn ?hr ?_; (case ho => rfl); (case hg => rfl); (case hn => rfl); (case hr => first | (go_simp; done) | (go_simp; rfl)); intro w30 hw; have n0_ : Aside0 (Kd.R k48 48 w30 w0.heap.size (fun k_ => (P0_ k_ ∨ w.heap.size ≤ k_) ∧ k_ ≠ gb430) u0 x0_1) := ⟨(by rw [hw]; exact (by (try simp only [setCell_drewN]); refine ra0 ?_; exact Kd.R_mono (Kd.R_far (p := ⟨gb435, 7, none⟩) (Kd.R_far (p := ⟨gb435, 6, none⟩) (Kd.R_far (p := ⟨gb435, 5, none⟩) (Kd.R_far (p := ⟨gb435, 4, none⟩) (Kd.R_far (p := ⟨gb435, 3, none⟩) (Kd.R_far (p := ⟨gb435, 2, none⟩) (Kd.R_far (p := ⟨gb435, 1, none⟩) (Kd.R_far (p := ⟨gb435, 0, none⟩) (Kd.R_types HO_0.out BK435.out (by decide)) (fun _ hk => hk.2) (.int .i64 ((rd_T56 l1_7 x13_1).f0.f0))) (fun _ hk => hk.2) (.int .i64 ((rd_T56 l1_7 x13_1).f0.f1))) (fun _ hk => hk.2) (.int .i64 ((rd_T56 l1_7 x13_1).f0.f2))) (fun _ hk => hk.2) (.int .i64 ((rd_T56 l1_7 x13_1).f0.f3))) (fun _ hk => hk.2) (.int .i64 ((rd_T56 l1_7 x13_1).f0.f4))) (fun _ hk => hk.2) (.string ((rd_T56 l1_7 x13_1).f0.f5))) (fun _ hk => hk.2) (.string ((rd_T56 l1_7 x13_1).f0.f6))) (fun _ hk => hk.2) (.slice A434_7 ((rd_T56 l1_7 x13_1).f1).length c434_7)) (fun _ hk => ⟨hk.1.1, hk.1.2⟩)))⟩; have n1_ : Aside0 (w30.heap[gb429]? = some (.cells #[.int .i64 a1_0, .int .i64 a1_1, .int .i64 a1_2, .int .i64 a1_3, .int .i64 a1_4, .string a1_5, .string a1_6, .slice (some ad434) l1_7.length c1_7] 56 (0, 0))) := ⟨(by rw [hw]; exact (bf1 NB429_435.out BK429.out))⟩; have n2_ : Aside0 (w30.heap[gb430]? = some (.cells #[.int .i64 a1_0, .int .i64 x431001_1, .int .i64 x431002_1, .int .i64 x431003_1, .int .i64 a1_4, .string a1_5, .string a1_6] 48 (0, 0))) := ⟨(by rw [hw]; exact (bf1 NB430_435.out BK430.out))⟩; have n3_ : Aside0 (w30.heap[gb435]? = some (.cells #[.int .i64 ((rd_T56 l1_7 x13_1).f0.f0), .int .i64 ((rd_T56 l1_7 x13_1).f0.f1), .int .i64 ((rd_T56 l1_7 x13_1).f0.f2), .int .i64 ((rd_T56 l1_7 x13_1).f0.f3), .int .i64 ((rd_T56 l1_7 x13_1).f0.f4), .string ((rd_T56 l1_7 x13_1).f0.f5), .string ((rd_T56 l1_7 x13_1).f0.f6), .slice A434_7 ((rd_T56 l1_7 x13_1).f1).length c434_7] 56 (0, 0))) := ⟨(by rw [hw]; exact (bk1 BK435.out))⟩; have n4_ : Aside0 (Kept w w30 (fun k_ => P0_ k_)) := ⟨(by rw [hw]; exact (by repeat (first | (with_reducible first | exact HK.out | apply Kept.alloc | apply Kept.drewN | apply Kept.drew | refine Kept.setCell ?_ (.inr GW429.out) _ | refine Kept.setCell ?_ (.inr GW430.out) _ | refine Kept.setCell ?_ (.inr GW435.out) _) | exact HK.out)))⟩; have n5_ : Aside0 (Below w0.heap.size w0 w30) := ⟨(by rw [hw]; exact (bb3 GE429.out GE430.out GE435.out))⟩; clear hw; clear HO_0; clear BK429; clear BK430; clear BK435; clear HK; clear HB; have HO_0 := n0_; have BK429 := n1_; have BK430 := n2_; have BK435 := n3_; have HK := n4_; have HB := n5_; clear n0_ n1_ n2_ n3_ n4_ n5_; obtain ⟨hcz31_0, hcz31_1, hcz31_2, hcz31_3, hcz31_4, hcz31_5, hcz31_6, hcz31_7⟩ := cells8 BK435.out; obtain ⟨hfz31_0, hfz31_1, hfz31_2, hfz31_3, hfz31_4, hfz31_5, hfz31_6, hfz31_7⟩ := frz8 BK435.out; obtain ⟨Ao32, co32, eo32⟩ := Kd.R_slice HO_0.out; subst eo32) | ((with_reducible refine gate_callee (f := 36) rfl ?_); refine goesL_ (some 20) rfl rfl Tryd.func36 (by kernel_rfl) rfl #[.slice Ao32 x0_1.length co32, .agg #[.int .i64 ((rd_T56 l1_7 x13_1).f0.f0), .int .i64 ((rd_T56 l1_7 x13_1).f0.f1), .int .i64 ((rd_T56 l1_7 x13_1).f0.f2), .int .i64 ((rd_T56 l1_7 x13_1).f0.f3), .int .i64 ((rd_T56 l1_7 x13_1).f0.f4), .string ((rd_T56 l1_7 x13_1).f0.f5), .string ((rd_T56 l1_7 x13_1).f0.f6), .slice A434_7 ((rd_T56 l1_7 x13_1).f1).length c434_7]] rfl mm0 ?_; (with_reducible refine (ih k1 (by have := HK1.out; omega) (fun k_ => some k_ = (.slice Ao32 x0_1.length co32 : Value).ownBlock) (.slice Ao32 x0_1.length co32) x0_1 ((rd_T56 l1_7 x13_1).f0.f0) ((rd_T56 l1_7 x13_1).f0.f1) ((rd_T56 l1_7 x13_1).f0.f2) ((rd_T56 l1_7 x13_1).f0.f3) ((rd_T56 l1_7 x13_1).f0.f4) ((rd_T56 l1_7 x13_1).f0.f5) ((rd_T56 l1_7 x13_1).f0.f6) _ _ ((rd_T56 l1_7 x13_1).f1) t436 w0 _ ?side1 ?side2 ?side3 ?side4 A12.out).mono ?_); (case side1 => repeat (first | (with_reducible first | exact HB.out | apply below_alloc | apply pw_below_drewN | apply below_drew1 | refine below_set ?_ GE429.out | refine below_set ?_ GE430.out | refine below_set ?_ GE435.out) | exact HB.out)); (case side2 => exact Kd.R_tight rfl HO_0.out); (case side3 => exact Kd.C_kept_call HR434_7.out (by repeat (first | (with_reducible first | exact HK.out | apply Kept.alloc | apply Kept.drewN | apply Kept.drew | refine Kept.setCell ?_ (.inr GW429.out) _ | refine Kept.setCell ?_ (.inr GW430.out) _ | refine Kept.setCell ?_ (.inr GW435.out) _) | exact HK.out)) (fun k_ hs_ => (fun e_ => (HO_0.out.1 k_ e_.symm).1) hs_)); (case side4 => exact HC434_7.out); rintro e w33 ⟨v437, rfl, ho0, hb, hkp⟩; refine ⟨_, rfl, ?_⟩; have n0_ := Aside0.mk (blk_kept (bk0 BK429.out) hkp (fun hs_ => (fun e_ => (Kd.R_ne HO_0.out BK429.out (by decide)) e_) hs_)); have n1_ := Aside0.mk (blk_kept (bk0 BK430.out) hkp (fun hs_ => (fun e_ => (Kd.R_away HO_0.out (fun _ hk => hk.2)) e_) hs_)); have n2_ := Aside0.mk (blk_kept (bk0 BK435.out) hkp (fun hs_ => (fun e_ => (Kd.R_ne HO_0.out BK435.out (by decide)) e_) hs_)); have n3_ := Aside0.mk (Kd.R_mono (ok' := fun k_ => (P0_ k_ ∨ w.heap.size ≤ k_) ∧ k_ ≠ gb430) ho0 (fun k_ hk_ => ⟨Or.elim hk_ (fun hs_ => (HO_0.out.1 k_ (hs_).symm).1) (fun hn_ => (.inr (Nat.le_trans (by first | exact HK.out.1 | exact (show Kept w _ (fun k_ => P0_ k_) from by repeat (first | (with_reducible first | exact HK.out | apply Kept.alloc | apply Kept.drewN | apply Kept.drew | refine Kept.setCell ?_ (.inr GW429.out) _ | refine Kept.setCell ?_ (.inr GW430.out) _ | refine Kept.setCell ?_ (.inr GW435.out) _) | exact HK.out)).1) hn_))), Or.elim hk_ (fun hs_ => fun e_ => (Kd.R_away HO_0.out (fun _ hk => hk.2)) (by rw [← e_]; exact hs_)) (fun hn_ => (Kd.freshB (g := gb430) (bk0 BK430.out) k_ hn_))⟩)); have n4_ := Aside0.mk (Kept.then_ (S := (fun k_ => P0_ k_)) (by repeat (first | (with_reducible first | exact HK.out | apply Kept.alloc | apply Kept.drewN | apply Kept.drew | refine Kept.setCell ?_ (.inr GW429.out) _ | refine Kept.setCell ?_ (.inr GW430.out) _ | refine Kept.setCell ?_ (.inr GW435.out) _) | exact HK.out)) hkp (fun k_ hs_ => (fun e_ => (HO_0.out.1 k_ e_.symm).1) hs_)); have n5_ := Aside0.mk (hb); clear BK429; clear BK430; clear BK435; clear HK; clear HB; clear HO_0; have BK429 := n0_; have BK430 := n1_; have BK435 := n2_; have HO438 := n3_; have HK := n4_; have HB := n5_; clear n0_ n1_ n2_ n3_ n4_ n5_; clear hb hkp ho0; obtain ⟨Ao34, co34, eo34⟩ := Kd.R_slice HO438.out; subst eo34; have hnb35 := NB430_429.out; have hnc35 := NB429_430.out; obtain ⟨hcz36_0, hcz36_1, hcz36_2, hcz36_3, hcz36_4, hcz36_5, hcz36_6⟩ := cells7 BK430.out; obtain ⟨hfz36_0, hfz36_1, hfz36_2, hfz36_3, hfz36_4, hfz36_5, hfz36_6⟩ := frz7 BK430.out))
        go_roundg k1
        case measure => have := HK1.out; omega
        case rel => exact ⟨(t436), (wrap64 (x13_1 + 1)), (x431001_1), (wrap64 ((t436.length : Int) - 1)), (x431003_1), rs0, H', ⟨by have := HK1.out; omega⟩, ⟨by (try simp only [setCell_drewN]); refine ra0 ?_; exact Kd.R_mono (Kd.R_far (p := ⟨gb430, 2, none⟩) (Kd.R_mono HO438.out (fun k_ hk => (⟨hk, hk.2⟩ : _ ∧ k_ ≠ gb430))) (fun _ hk => hk.2) (.int .i64 (wrap64 ((t436.length : Int) - 1)))) (fun _ hk => ⟨hk.1.1, hk.1.2⟩)⟩, ⟨bf1 NB429_430.out BK429.out⟩, ⟨bk1 BK430.out⟩, ⟨by repeat (first | (with_reducible first | exact HK.out | apply Kept.alloc | apply Kept.drewN | apply Kept.drew | refine Kept.setCell ?_ (.inr GW429.out) _ | refine Kept.setCell ?_ (.inr GW430.out) _ | refine Kept.setCell ?_ (.inr GW435.out) _) | exact HK.out)⟩, ⟨bb3 GE429.out GE430.out GE435.out⟩⟩
       ·rw [if_neg c25] at H
        obtain ⟨c25b0, c25b1⟩ := eqF c25
        by_cases c37 : x13_1 = 2
        ·rw [if_pos c37] at H
         obtain ⟨c37b0, c37b1⟩ := eqT c37
         clear c37
         have H' := Aside0.mk H
         clear H
         have p434 : 0 ≤ (x13_1 : Int) := of_decide_eq_true as0
         have q434 : x13_1 < (l1_7.length : Int) := of_decide_eq_true as0
         obtain ⟨ad434, A434_7, c434_7, e434, hx434_0, hx434_1, hx434_2, hx434_3, hx434_4, hx434_5, hx434_6, hx434_7, hl434_7, hi434_7⟩ := at_T56 (Kd.C_kept_now HR1_7.out HK.out) x13_1 p434 q434
         cases e434
         have HR434_7 := Aside0.mk (Kd.kept_inner HR1_7.out HK.out (by first | exact p434 | exact of_eq_true p434) (by first | exact q434 | exact of_eq_true q434) (by decide) (by first | rfl | simp [add_block]) hx434_7 (fun W_ hk_ => by obtain ⟨ad2_, A7_, c7_, e2_, y0_, y1_, y2_, y3_, y4_, y5_, y6_, y7_, l7_, g7_⟩ := at_T56 (HR1_7.out W_ hk_) x13_1 (by first | exact p434 | exact of_eq_true p434) (by first | exact q434 | exact of_eq_true q434); injection e2_ with e2_; subst e2_; exact ⟨_, _, _, y7_, g7_⟩))
         have HC434_7 := Aside0.mk hl434_7
         clear hi434_7 hl434_7
         replace p434 := eq_true p434
         replace q434 := eq_true q434
         go_wp2_with (first | ((with_reducible refine gate_dst (N := 7) rfl ?_); refine box_event ?hg (N := 7) ?hd (cs := #[.int .i64 0, .int .i64 0, .int .i64 0, .int .i64 0, .int .i64 0, .string (⟨#[]⟩ : ByteArray), .string (⟨#[]⟩ : ByteArray), .slice none 0 0]) (t := 56) ?hr ?_; (case hd => rfl); (case hg => rfl); (case hr => first | (go_simp; done) | (go_simp; rfl)); intro gb435 hg w38 hbox hb; replace HO_0 := Aside0.mk (Kd.R_below (ra0 HO_0.out) hb); have BK435 := Aside0.mk (hbox); have GW435 := Aside0.mk ((by rw [hg]; exact (by first | exact HK.out.1 | exact (show Kept w _ (fun k_ => P0_ k_) from by repeat (first | (with_reducible first | exact HK.out | apply Kept.alloc | apply Kept.drewN | apply Kept.drew | refine Kept.setCell ?_ (.inr GW429.out) _ | refine Kept.setCell ?_ (.inr GW430.out) _) | exact HK.out)).1) : w.heap.size ≤ gb435)); replace HK := Aside0.mk (Kept.below (S := (fun k_ => P0_ k_)) (by repeat (first | (with_reducible first | exact HK.out | apply Kept.alloc | apply Kept.drewN | apply Kept.drew | refine Kept.setCell ?_ (.inr GW429.out) _ | refine Kept.setCell ?_ (.inr GW430.out) _) | exact HK.out)) hb); have GE435 := Aside0.mk ((by rw [hg]; exact (below_size (bb2 GE429.out GE430.out)) : w0.heap.size ≤ gb435)); replace HB := Aside0.mk (below_step (bb2 GE429.out GE430.out) hb); have NB429_435 := Aside0.mk ((by rw [hg]; exact Nat.ne_of_lt (blk_lt (g := gb429) (bk0 BK429.out)) : gb429 ≠ gb435)); have NB435_429 := Aside0.mk ((by rw [hg]; exact Nat.ne_of_gt (blk_lt (g := gb429) (bk0 BK429.out)) : gb435 ≠ gb429)); replace BK429 := Aside0.mk (blk_below (g := gb429) (bk0 BK429.out) hb); have NB430_435 := Aside0.mk ((by rw [hg]; exact Nat.ne_of_lt (blk_lt (g := gb430) (bk0 BK430.out)) : gb430 ≠ gb435)); have NB435_430 := Aside0.mk ((by rw [hg]; exact Nat.ne_of_gt (blk_lt (g := gb430) (bk0 BK430.out)) : gb435 ≠ gb430)); replace BK430 := Aside0.mk (blk_below (g := gb430) (bk0 BK430.out) hb); clear hb hbox hg; have hnb39 := NB435_429.out; have hnc39 := NB429_435.out; have hnb40 := NB435_430.out; have hnc40 := NB430_435.out; obtain ⟨hcz41_0, hcz41_1, hcz41_2, hcz41_3, hcz41_4, hcz41_5, hcz41_6, hcz41_7⟩ := cells8 BK435.out; obtain ⟨hfz41_0, hfz41_1, hfz41_2, hfz41_3, hfz41_4, hfz41_5, hfz41_6, hfz41_7⟩ := frz8 BK435.out) | ((with_reducible refine gate_store (t := 56) (p := 7) rfl ?_); refine store_event (t := 56) (p := 7) (v := ?vo_w42) (w1 := ((((((((w38.setCell ⟨gb435, 0, none⟩ (.int .i64 ((rd_T56 l1_7 x13_1).f0.f0))).setCell ⟨gb435, 1, none⟩ (.int .i64 ((rd_T56 l1_7 x13_1).f0.f1))).setCell ⟨gb435, 2, none⟩ (.int .i64 ((rd_T56 l1_7 x13_1).f0.f2))).setCell ⟨gb435, 3, none⟩ (.int .i64 ((rd_T56 l1_7 x13_1).f0.f3))).setCell ⟨gb435, 4, none⟩ (.int .i64 ((rd_T56 l1_7 x13_1).f0.f4))).setCell ⟨gb435, 5, none⟩ (.string ((rd_T56 l1_7 x13_1).f0.f5))).setCell ⟨gb435, 6, none⟩ (.string ((rd_T56 l1_7 x13_1).f0.f6))).setCell ⟨gb435, 7, none⟩ (.slice A434_7 ((rd_T56 l1_7 x13_1).f1).length c434_7))) ?hg ?ho ?hn ?hr ?_; (case ho => rfl); (case hg => rfl); (case hn => rfl); (case hr => first | (go_simp; done) | (go_simp; rfl)); intro w42 hw; have n0_ : Aside0 (Kd.R k48 48 w42 w0.heap.size (fun k_ => (P0_ k_ ∨ w.heap.size ≤ k_) ∧ k_ ≠ gb430) u0 x0_1) := ⟨(by rw [hw]; exact (by (try simp only [setCell_drewN]); refine ra0 ?_; exact Kd.R_mono (Kd.R_far (p := ⟨gb435, 7, none⟩) (Kd.R_far (p := ⟨gb435, 6, none⟩) (Kd.R_far (p := ⟨gb435, 5, none⟩) (Kd.R_far (p := ⟨gb435, 4, none⟩) (Kd.R_far (p := ⟨gb435, 3, none⟩) (Kd.R_far (p := ⟨gb435, 2, none⟩) (Kd.R_far (p := ⟨gb435, 1, none⟩) (Kd.R_far (p := ⟨gb435, 0, none⟩) (Kd.R_types HO_0.out BK435.out (by decide)) (fun _ hk => hk.2) (.int .i64 ((rd_T56 l1_7 x13_1).f0.f0))) (fun _ hk => hk.2) (.int .i64 ((rd_T56 l1_7 x13_1).f0.f1))) (fun _ hk => hk.2) (.int .i64 ((rd_T56 l1_7 x13_1).f0.f2))) (fun _ hk => hk.2) (.int .i64 ((rd_T56 l1_7 x13_1).f0.f3))) (fun _ hk => hk.2) (.int .i64 ((rd_T56 l1_7 x13_1).f0.f4))) (fun _ hk => hk.2) (.string ((rd_T56 l1_7 x13_1).f0.f5))) (fun _ hk => hk.2) (.string ((rd_T56 l1_7 x13_1).f0.f6))) (fun _ hk => hk.2) (.slice A434_7 ((rd_T56 l1_7 x13_1).f1).length c434_7)) (fun _ hk => ⟨hk.1.1, hk.1.2⟩)))⟩; have n1_ : Aside0 (w42.heap[gb429]? = some (.cells #[.int .i64 a1_0, .int .i64 a1_1, .int .i64 a1_2, .int .i64 a1_3, .int .i64 a1_4, .string a1_5, .string a1_6, .slice (some ad434) l1_7.length c1_7] 56 (0, 0))) := ⟨(by rw [hw]; exact (bf1 NB429_435.out BK429.out))⟩; have n2_ : Aside0 (w42.heap[gb430]? = some (.cells #[.int .i64 a1_0, .int .i64 x431001_1, .int .i64 x431002_1, .int .i64 x431003_1, .int .i64 a1_4, .string a1_5, .string a1_6] 48 (0, 0))) := ⟨(by rw [hw]; exact (bf1 NB430_435.out BK430.out))⟩; have n3_ : Aside0 (w42.heap[gb435]? = some (.cells #[.int .i64 ((rd_T56 l1_7 x13_1).f0.f0), .int .i64 ((rd_T56 l1_7 x13_1).f0.f1), .int .i64 ((rd_T56 l1_7 x13_1).f0.f2), .int .i64 ((rd_T56 l1_7 x13_1).f0.f3), .int .i64 ((rd_T56 l1_7 x13_1).f0.f4), .string ((rd_T56 l1_7 x13_1).f0.f5), .string ((rd_T56 l1_7 x13_1).f0.f6), .slice A434_7 ((rd_T56 l1_7 x13_1).f1).length c434_7] 56 (0, 0))) := ⟨(by rw [hw]; exact (bk1 BK435.out))⟩; have n4_ : Aside0 (Kept w w42 (fun k_ => P0_ k_)) := ⟨(by rw [hw]; exact (by repeat (first | (with_reducible first | exact HK.out | apply Kept.alloc | apply Kept.drewN | apply Kept.drew | refine Kept.setCell ?_ (.inr GW429.out) _ | refine Kept.setCell ?_ (.inr GW430.out) _ | refine Kept.setCell ?_ (.inr GW435.out) _) | exact HK.out)))⟩; have n5_ : Aside0 (Below w0.heap.size w0 w42) := ⟨(by rw [hw]; exact (bb3 GE429.out GE430.out GE435.out))⟩; clear hw; clear HO_0; clear BK429; clear BK430; clear BK435; clear HK; clear HB; have HO_0 := n0_; have BK429 := n1_; have BK430 := n2_; have BK435 := n3_; have HK := n4_; have HB := n5_; clear n0_ n1_ n2_ n3_ n4_ n5_; obtain ⟨hcz43_0, hcz43_1, hcz43_2, hcz43_3, hcz43_4, hcz43_5, hcz43_6, hcz43_7⟩ := cells8 BK435.out; obtain ⟨hfz43_0, hfz43_1, hfz43_2, hfz43_3, hfz43_4, hfz43_5, hfz43_6, hfz43_7⟩ := frz8 BK435.out; obtain ⟨Ao44, co44, eo44⟩ := Kd.R_slice HO_0.out; subst eo44) | ((with_reducible refine gate_callee (f := 36) rfl ?_); refine goesL_ (some 20) rfl rfl Tryd.func36 (by kernel_rfl) rfl #[.slice Ao44 x0_1.length co44, .agg #[.int .i64 ((rd_T56 l1_7 x13_1).f0.f0), .int .i64 ((rd_T56 l1_7 x13_1).f0.f1), .int .i64 ((rd_T56 l1_7 x13_1).f0.f2), .int .i64 ((rd_T56 l1_7 x13_1).f0.f3), .int .i64 ((rd_T56 l1_7 x13_1).f0.f4), .string ((rd_T56 l1_7 x13_1).f0.f5), .string ((rd_T56 l1_7 x13_1).f0.f6), .slice A434_7 ((rd_T56 l1_7 x13_1).f1).length c434_7]] rfl mm0 ?_; (with_reducible refine (ih k1 (by have := HK1.out; omega) (fun k_ => some k_ = (.slice Ao44 x0_1.length co44 : Value).ownBlock) (.slice Ao44 x0_1.length co44) x0_1 ((rd_T56 l1_7 x13_1).f0.f0) ((rd_T56 l1_7 x13_1).f0.f1) ((rd_T56 l1_7 x13_1).f0.f2) ((rd_T56 l1_7 x13_1).f0.f3) ((rd_T56 l1_7 x13_1).f0.f4) ((rd_T56 l1_7 x13_1).f0.f5) ((rd_T56 l1_7 x13_1).f0.f6) _ _ ((rd_T56 l1_7 x13_1).f1) t436 w0 _ ?side1 ?side2 ?side3 ?side4 A12.out).mono ?_); (case side1 => repeat (first | (with_reducible first | exact HB.out | apply below_alloc | apply pw_below_drewN | apply below_drew1 | refine below_set ?_ GE429.out | refine below_set ?_ GE430.out | refine below_set ?_ GE435.out) | exact HB.out)); (case side2 => exact Kd.R_tight rfl HO_0.out); (case side3 => exact Kd.C_kept_call HR434_7.out (by repeat (first | (with_reducible first | exact HK.out | apply Kept.alloc | apply Kept.drewN | apply Kept.drew | refine Kept.setCell ?_ (.inr GW429.out) _ | refine Kept.setCell ?_ (.inr GW430.out) _ | refine Kept.setCell ?_ (.inr GW435.out) _) | exact HK.out)) (fun k_ hs_ => (fun e_ => (HO_0.out.1 k_ e_.symm).1) hs_)); (case side4 => exact HC434_7.out); rintro e w45 ⟨v437, rfl, ho0, hb, hkp⟩; refine ⟨_, rfl, ?_⟩; have n0_ := Aside0.mk (blk_kept (bk0 BK429.out) hkp (fun hs_ => (fun e_ => (Kd.R_ne HO_0.out BK429.out (by decide)) e_) hs_)); have n1_ := Aside0.mk (blk_kept (bk0 BK430.out) hkp (fun hs_ => (fun e_ => (Kd.R_away HO_0.out (fun _ hk => hk.2)) e_) hs_)); have n2_ := Aside0.mk (blk_kept (bk0 BK435.out) hkp (fun hs_ => (fun e_ => (Kd.R_ne HO_0.out BK435.out (by decide)) e_) hs_)); have n3_ := Aside0.mk (Kd.R_mono (ok' := fun k_ => (P0_ k_ ∨ w.heap.size ≤ k_) ∧ k_ ≠ gb430) ho0 (fun k_ hk_ => ⟨Or.elim hk_ (fun hs_ => (HO_0.out.1 k_ (hs_).symm).1) (fun hn_ => (.inr (Nat.le_trans (by first | exact HK.out.1 | exact (show Kept w _ (fun k_ => P0_ k_) from by repeat (first | (with_reducible first | exact HK.out | apply Kept.alloc | apply Kept.drewN | apply Kept.drew | refine Kept.setCell ?_ (.inr GW429.out) _ | refine Kept.setCell ?_ (.inr GW430.out) _ | refine Kept.setCell ?_ (.inr GW435.out) _) | exact HK.out)).1) hn_))), Or.elim hk_ (fun hs_ => fun e_ => (Kd.R_away HO_0.out (fun _ hk => hk.2)) (by rw [← e_]; exact hs_)) (fun hn_ => (Kd.freshB (g := gb430) (bk0 BK430.out) k_ hn_))⟩)); have n4_ := Aside0.mk (Kept.then_ (S := (fun k_ => P0_ k_)) (by repeat (first | (with_reducible first | exact HK.out | apply Kept.alloc | apply Kept.drewN | apply Kept.drew | refine Kept.setCell ?_ (.inr GW429.out) _ | refine Kept.setCell ?_ (.inr GW430.out) _ | refine Kept.setCell ?_ (.inr GW435.out) _) | exact HK.out)) hkp (fun k_ hs_ => (fun e_ => (HO_0.out.1 k_ e_.symm).1) hs_)); have n5_ := Aside0.mk (hb); clear BK429; clear BK430; clear BK435; clear HK; clear HB; clear HO_0; have BK429 := n0_; have BK430 := n1_; have BK435 := n2_; have HO438 := n3_; have HK := n4_; have HB := n5_; clear n0_ n1_ n2_ n3_ n4_ n5_; clear hb hkp ho0; obtain ⟨Ao46, co46, eo46⟩ := Kd.R_slice HO438.out; subst eo46; have hnb47 := NB430_429.out; have hnc47 := NB429_430.out; obtain ⟨hcz48_0, hcz48_1, hcz48_2, hcz48_3, hcz48_4, hcz48_5, hcz48_6⟩ := cells7 BK430.out; obtain ⟨hfz48_0, hfz48_1, hfz48_2, hfz48_3, hfz48_4, hfz48_5, hfz48_6⟩ := frz7 BK430.out))
         go_roundg k1
         case measure => have := HK1.out; omega
         case rel => exact ⟨(t436), (wrap64 (x13_1 + 1)), (x431001_1), (x431002_1), (wrap64 ((t436.length : Int) - 1)), rs0, H', ⟨by have := HK1.out; omega⟩, ⟨by (try simp only [setCell_drewN]); refine ra0 ?_; exact Kd.R_mono (Kd.R_far (p := ⟨gb430, 3, none⟩) (Kd.R_mono HO438.out (fun k_ hk => (⟨hk, hk.2⟩ : _ ∧ k_ ≠ gb430))) (fun _ hk => hk.2) (.int .i64 (wrap64 ((t436.length : Int) - 1)))) (fun _ hk => ⟨hk.1.1, hk.1.2⟩)⟩, ⟨bf1 NB429_430.out BK429.out⟩, ⟨bk1 BK430.out⟩, ⟨by repeat (first | (with_reducible first | exact HK.out | apply Kept.alloc | apply Kept.drewN | apply Kept.drew | refine Kept.setCell ?_ (.inr GW429.out) _ | refine Kept.setCell ?_ (.inr GW430.out) _ | refine Kept.setCell ?_ (.inr GW435.out) _) | exact HK.out)⟩, ⟨bb3 GE429.out GE430.out GE435.out⟩⟩
        ·rw [if_neg c37] at H
         obtain ⟨c37b0, c37b1⟩ := eqF c37
         have H' := Aside0.mk H
         clear H
         have p434 : 0 ≤ (x13_1 : Int) := of_decide_eq_true as0
         have q434 : x13_1 < (l1_7.length : Int) := of_decide_eq_true as0
         obtain ⟨ad434, A434_7, c434_7, e434, hx434_0, hx434_1, hx434_2, hx434_3, hx434_4, hx434_5, hx434_6, hx434_7, hl434_7, hi434_7⟩ := at_T56 (Kd.C_kept_now HR1_7.out HK.out) x13_1 p434 q434
         cases e434
         have HR434_7 := Aside0.mk (Kd.kept_inner HR1_7.out HK.out (by first | exact p434 | exact of_eq_true p434) (by first | exact q434 | exact of_eq_true q434) (by decide) (by first | rfl | simp [add_block]) hx434_7 (fun W_ hk_ => by obtain ⟨ad2_, A7_, c7_, e2_, y0_, y1_, y2_, y3_, y4_, y5_, y6_, y7_, l7_, g7_⟩ := at_T56 (HR1_7.out W_ hk_) x13_1 (by first | exact p434 | exact of_eq_true p434) (by first | exact q434 | exact of_eq_true q434); injection e2_ with e2_; subst e2_; exact ⟨_, _, _, y7_, g7_⟩))
         have HC434_7 := Aside0.mk hl434_7
         clear hi434_7 hl434_7
         replace p434 := eq_true p434
         replace q434 := eq_true q434
         go_wp2_with (first | ((with_reducible refine gate_dst (N := 7) rfl ?_); refine box_event ?hg (N := 7) ?hd (cs := #[.int .i64 0, .int .i64 0, .int .i64 0, .int .i64 0, .int .i64 0, .string (⟨#[]⟩ : ByteArray), .string (⟨#[]⟩ : ByteArray), .slice none 0 0]) (t := 56) ?hr ?_; (case hd => rfl); (case hg => rfl); (case hr => first | (go_simp; done) | (go_simp; rfl)); intro gb435 hg w49 hbox hb; replace HO_0 := Aside0.mk (Kd.R_below (ra0 HO_0.out) hb); have BK435 := Aside0.mk (hbox); have GW435 := Aside0.mk ((by rw [hg]; exact (by first | exact HK.out.1 | exact (show Kept w _ (fun k_ => P0_ k_) from by repeat (first | (with_reducible first | exact HK.out | apply Kept.alloc | apply Kept.drewN | apply Kept.drew | refine Kept.setCell ?_ (.inr GW429.out) _ | refine Kept.setCell ?_ (.inr GW430.out) _) | exact HK.out)).1) : w.heap.size ≤ gb435)); replace HK := Aside0.mk (Kept.below (S := (fun k_ => P0_ k_)) (by repeat (first | (with_reducible first | exact HK.out | apply Kept.alloc | apply Kept.drewN | apply Kept.drew | refine Kept.setCell ?_ (.inr GW429.out) _ | refine Kept.setCell ?_ (.inr GW430.out) _) | exact HK.out)) hb); have GE435 := Aside0.mk ((by rw [hg]; exact (below_size (bb2 GE429.out GE430.out)) : w0.heap.size ≤ gb435)); replace HB := Aside0.mk (below_step (bb2 GE429.out GE430.out) hb); have NB429_435 := Aside0.mk ((by rw [hg]; exact Nat.ne_of_lt (blk_lt (g := gb429) (bk0 BK429.out)) : gb429 ≠ gb435)); have NB435_429 := Aside0.mk ((by rw [hg]; exact Nat.ne_of_gt (blk_lt (g := gb429) (bk0 BK429.out)) : gb435 ≠ gb429)); replace BK429 := Aside0.mk (blk_below (g := gb429) (bk0 BK429.out) hb); have NB430_435 := Aside0.mk ((by rw [hg]; exact Nat.ne_of_lt (blk_lt (g := gb430) (bk0 BK430.out)) : gb430 ≠ gb435)); have NB435_430 := Aside0.mk ((by rw [hg]; exact Nat.ne_of_gt (blk_lt (g := gb430) (bk0 BK430.out)) : gb435 ≠ gb430)); replace BK430 := Aside0.mk (blk_below (g := gb430) (bk0 BK430.out) hb); clear hb hbox hg; have hnb50 := NB435_429.out; have hnc50 := NB429_435.out; have hnb51 := NB435_430.out; have hnc51 := NB430_435.out; obtain ⟨hcz52_0, hcz52_1, hcz52_2, hcz52_3, hcz52_4, hcz52_5, hcz52_6, hcz52_7⟩ := cells8 BK435.out; obtain ⟨hfz52_0, hfz52_1, hfz52_2, hfz52_3, hfz52_4, hfz52_5, hfz52_6, hfz52_7⟩ := frz8 BK435.out) | ((with_reducible refine gate_store (t := 56) (p := 7) rfl ?_); refine store_event (t := 56) (p := 7) (v := ?vo_w53) (w1 := ((((((((w49.setCell ⟨gb435, 0, none⟩ (.int .i64 ((rd_T56 l1_7 x13_1).f0.f0))).setCell ⟨gb435, 1, none⟩ (.int .i64 ((rd_T56 l1_7 x13_1).f0.f1))).setCell ⟨gb435, 2, none⟩ (.int .i64 ((rd_T56 l1_7 x13_1).f0.f2))).setCell ⟨gb435, 3, none⟩ (.int .i64 ((rd_T56 l1_7 x13_1).f0.f3))).setCell ⟨gb435, 4, none⟩ (.int .i64 ((rd_T56 l1_7 x13_1).f0.f4))).setCell ⟨gb435, 5, none⟩ (.string ((rd_T56 l1_7 x13_1).f0.f5))).setCell ⟨gb435, 6, none⟩ (.string ((rd_T56 l1_7 x13_1).f0.f6))).setCell ⟨gb435, 7, none⟩ (.slice A434_7 ((rd_T56 l1_7 x13_1).f1).length c434_7))) ?hg ?ho ?hn ?hr ?_; (case ho => rfl); (case hg => rfl); (case hn => rfl); (case hr => first | (go_simp; done) | (go_simp; rfl)); intro w53 hw; have n0_ : Aside0 (Kd.R k48 48 w53 w0.heap.size (fun k_ => (P0_ k_ ∨ w.heap.size ≤ k_) ∧ k_ ≠ gb430) u0 x0_1) := ⟨(by rw [hw]; exact (by (try simp only [setCell_drewN]); refine ra0 ?_; exact Kd.R_mono (Kd.R_far (p := ⟨gb435, 7, none⟩) (Kd.R_far (p := ⟨gb435, 6, none⟩) (Kd.R_far (p := ⟨gb435, 5, none⟩) (Kd.R_far (p := ⟨gb435, 4, none⟩) (Kd.R_far (p := ⟨gb435, 3, none⟩) (Kd.R_far (p := ⟨gb435, 2, none⟩) (Kd.R_far (p := ⟨gb435, 1, none⟩) (Kd.R_far (p := ⟨gb435, 0, none⟩) (Kd.R_types HO_0.out BK435.out (by decide)) (fun _ hk => hk.2) (.int .i64 ((rd_T56 l1_7 x13_1).f0.f0))) (fun _ hk => hk.2) (.int .i64 ((rd_T56 l1_7 x13_1).f0.f1))) (fun _ hk => hk.2) (.int .i64 ((rd_T56 l1_7 x13_1).f0.f2))) (fun _ hk => hk.2) (.int .i64 ((rd_T56 l1_7 x13_1).f0.f3))) (fun _ hk => hk.2) (.int .i64 ((rd_T56 l1_7 x13_1).f0.f4))) (fun _ hk => hk.2) (.string ((rd_T56 l1_7 x13_1).f0.f5))) (fun _ hk => hk.2) (.string ((rd_T56 l1_7 x13_1).f0.f6))) (fun _ hk => hk.2) (.slice A434_7 ((rd_T56 l1_7 x13_1).f1).length c434_7)) (fun _ hk => ⟨hk.1.1, hk.1.2⟩)))⟩; have n1_ : Aside0 (w53.heap[gb429]? = some (.cells #[.int .i64 a1_0, .int .i64 a1_1, .int .i64 a1_2, .int .i64 a1_3, .int .i64 a1_4, .string a1_5, .string a1_6, .slice (some ad434) l1_7.length c1_7] 56 (0, 0))) := ⟨(by rw [hw]; exact (bf1 NB429_435.out BK429.out))⟩; have n2_ : Aside0 (w53.heap[gb430]? = some (.cells #[.int .i64 a1_0, .int .i64 x431001_1, .int .i64 x431002_1, .int .i64 x431003_1, .int .i64 a1_4, .string a1_5, .string a1_6] 48 (0, 0))) := ⟨(by rw [hw]; exact (bf1 NB430_435.out BK430.out))⟩; have n3_ : Aside0 (w53.heap[gb435]? = some (.cells #[.int .i64 ((rd_T56 l1_7 x13_1).f0.f0), .int .i64 ((rd_T56 l1_7 x13_1).f0.f1), .int .i64 ((rd_T56 l1_7 x13_1).f0.f2), .int .i64 ((rd_T56 l1_7 x13_1).f0.f3), .int .i64 ((rd_T56 l1_7 x13_1).f0.f4), .string ((rd_T56 l1_7 x13_1).f0.f5), .string ((rd_T56 l1_7 x13_1).f0.f6), .slice A434_7 ((rd_T56 l1_7 x13_1).f1).length c434_7] 56 (0, 0))) := ⟨(by rw [hw]; exact (bk1 BK435.out))⟩; have n4_ : Aside0 (Kept w w53 (fun k_ => P0_ k_)) := ⟨(by rw [hw]; exact (by repeat (first | (with_reducible first | exact HK.out | apply Kept.alloc | apply Kept.drewN | apply Kept.drew | refine Kept.setCell ?_ (.inr GW429.out) _ | refine Kept.setCell ?_ (.inr GW430.out) _ | refine Kept.setCell ?_ (.inr GW435.out) _) | exact HK.out)))⟩; have n5_ : Aside0 (Below w0.heap.size w0 w53) := ⟨(by rw [hw]; exact (bb3 GE429.out GE430.out GE435.out))⟩; clear hw; clear HO_0; clear BK429; clear BK430; clear BK435; clear HK; clear HB; have HO_0 := n0_; have BK429 := n1_; have BK430 := n2_; have BK435 := n3_; have HK := n4_; have HB := n5_; clear n0_ n1_ n2_ n3_ n4_ n5_; obtain ⟨hcz54_0, hcz54_1, hcz54_2, hcz54_3, hcz54_4, hcz54_5, hcz54_6, hcz54_7⟩ := cells8 BK435.out; obtain ⟨hfz54_0, hfz54_1, hfz54_2, hfz54_3, hfz54_4, hfz54_5, hfz54_6, hfz54_7⟩ := frz8 BK435.out; obtain ⟨Ao55, co55, eo55⟩ := Kd.R_slice HO_0.out; subst eo55) | ((with_reducible refine gate_callee (f := 36) rfl ?_); refine goesL_ (some 20) rfl rfl Tryd.func36 (by kernel_rfl) rfl #[.slice Ao55 x0_1.length co55, .agg #[.int .i64 ((rd_T56 l1_7 x13_1).f0.f0), .int .i64 ((rd_T56 l1_7 x13_1).f0.f1), .int .i64 ((rd_T56 l1_7 x13_1).f0.f2), .int .i64 ((rd_T56 l1_7 x13_1).f0.f3), .int .i64 ((rd_T56 l1_7 x13_1).f0.f4), .string ((rd_T56 l1_7 x13_1).f0.f5), .string ((rd_T56 l1_7 x13_1).f0.f6), .slice A434_7 ((rd_T56 l1_7 x13_1).f1).length c434_7]] rfl mm0 ?_; (with_reducible refine (ih k1 (by have := HK1.out; omega) (fun k_ => some k_ = (.slice Ao55 x0_1.length co55 : Value).ownBlock) (.slice Ao55 x0_1.length co55) x0_1 ((rd_T56 l1_7 x13_1).f0.f0) ((rd_T56 l1_7 x13_1).f0.f1) ((rd_T56 l1_7 x13_1).f0.f2) ((rd_T56 l1_7 x13_1).f0.f3) ((rd_T56 l1_7 x13_1).f0.f4) ((rd_T56 l1_7 x13_1).f0.f5) ((rd_T56 l1_7 x13_1).f0.f6) _ _ ((rd_T56 l1_7 x13_1).f1) t436 w0 _ ?side1 ?side2 ?side3 ?side4 A12.out).mono ?_); (case side1 => repeat (first | (with_reducible first | exact HB.out | apply below_alloc | apply pw_below_drewN | apply below_drew1 | refine below_set ?_ GE429.out | refine below_set ?_ GE430.out | refine below_set ?_ GE435.out) | exact HB.out)); (case side2 => exact Kd.R_tight rfl HO_0.out); (case side3 => exact Kd.C_kept_call HR434_7.out (by repeat (first | (with_reducible first | exact HK.out | apply Kept.alloc | apply Kept.drewN | apply Kept.drew | refine Kept.setCell ?_ (.inr GW429.out) _ | refine Kept.setCell ?_ (.inr GW430.out) _ | refine Kept.setCell ?_ (.inr GW435.out) _) | exact HK.out)) (fun k_ hs_ => (fun e_ => (HO_0.out.1 k_ e_.symm).1) hs_)); (case side4 => exact HC434_7.out); rintro e w56 ⟨v437, rfl, ho0, hb, hkp⟩; refine ⟨_, rfl, ?_⟩; have n0_ := Aside0.mk (blk_kept (bk0 BK429.out) hkp (fun hs_ => (fun e_ => (Kd.R_ne HO_0.out BK429.out (by decide)) e_) hs_)); have n1_ := Aside0.mk (blk_kept (bk0 BK430.out) hkp (fun hs_ => (fun e_ => (Kd.R_away HO_0.out (fun _ hk => hk.2)) e_) hs_)); have n2_ := Aside0.mk (blk_kept (bk0 BK435.out) hkp (fun hs_ => (fun e_ => (Kd.R_ne HO_0.out BK435.out (by decide)) e_) hs_)); have n3_ := Aside0.mk (Kd.R_mono (ok' := fun k_ => (P0_ k_ ∨ w.heap.size ≤ k_) ∧ k_ ≠ gb430) ho0 (fun k_ hk_ => ⟨Or.elim hk_ (fun hs_ => (HO_0.out.1 k_ (hs_).symm).1) (fun hn_ => (.inr (Nat.le_trans (by first | exact HK.out.1 | exact (show Kept w _ (fun k_ => P0_ k_) from by repeat (first | (with_reducible first | exact HK.out | apply Kept.alloc | apply Kept.drewN | apply Kept.drew | refine Kept.setCell ?_ (.inr GW429.out) _ | refine Kept.setCell ?_ (.inr GW430.out) _ | refine Kept.setCell ?_ (.inr GW435.out) _) | exact HK.out)).1) hn_))), Or.elim hk_ (fun hs_ => fun e_ => (Kd.R_away HO_0.out (fun _ hk => hk.2)) (by rw [← e_]; exact hs_)) (fun hn_ => (Kd.freshB (g := gb430) (bk0 BK430.out) k_ hn_))⟩)); have n4_ := Aside0.mk (Kept.then_ (S := (fun k_ => P0_ k_)) (by repeat (first | (with_reducible first | exact HK.out | apply Kept.alloc | apply Kept.drewN | apply Kept.drew | refine Kept.setCell ?_ (.inr GW429.out) _ | refine Kept.setCell ?_ (.inr GW430.out) _ | refine Kept.setCell ?_ (.inr GW435.out) _) | exact HK.out)) hkp (fun k_ hs_ => (fun e_ => (HO_0.out.1 k_ e_.symm).1) hs_)); have n5_ := Aside0.mk (hb); clear BK429; clear BK430; clear BK435; clear HK; clear HB; clear HO_0; have BK429 := n0_; have BK430 := n1_; have BK435 := n2_; have HO438 := n3_; have HK := n4_; have HB := n5_; clear n0_ n1_ n2_ n3_ n4_ n5_; clear hb hkp ho0))
         go_roundg k1
         case measure => have := HK1.out; omega
         case rel => exact ⟨(t436), (wrap64 (x13_1 + 1)), (x431001_1), (x431002_1), (x431003_1), rs0, H', ⟨by have := HK1.out; omega⟩, ⟨by refine ra0 ?_; exact HO438.out⟩, ⟨by refine bk0 ?_; exact BK429.out⟩, ⟨by refine bk0 ?_; exact BK430.out⟩, ⟨by repeat (first | (with_reducible first | exact HK.out | apply Kept.alloc | apply Kept.drewN | apply Kept.drew | refine Kept.setCell ?_ (.inr GW429.out) _ | refine Kept.setCell ?_ (.inr GW430.out) _ | refine Kept.setCell ?_ (.inr GW435.out) _) | exact HK.out)⟩, ⟨bb3 GE429.out GE430.out GE435.out⟩⟩
     ·rw [if_neg c11] at H
      exact absurd H (by simp)
    ·rw [if_neg c10] at H
     exact absurd H (by simp)
   ·rw [if_neg c9] at H
    have c9b0 := decide_eq_false c9
    clear c9
    by_cases c57 : x0_1.length < 1954687338268
    ·rw [if_pos c57] at H
     have LMc57 := Aside0.mk c57
     clear c57
     obtain ⟨y431, hy431⟩ : ∃ y_ : List (S48), y_ = (x0_1 ++ [(⟨a1_0, x431001_1, x431002_1, x431003_1, a1_4, a1_5, a1_6⟩ : S48)]) := ⟨_, rfl⟩
     replace H : (some y431) = some r := by first | (rw [hy431]; with_reducible exact H) | (have H2_ := (Option.bind_some _ _).symm.trans H; rw [hy431]; with_reducible exact H2_) | (have H2_ := (Option.bind_some _ _).symm.trans H; with_reducible exact H2_) | with_reducible exact H | (rw [hy431]; exact H) | exact H
     have Ny431 := Aside0.mk hy431
     clear hy431
     obtain rfl := Option.some.inj H
     have hnb58 := NB430_429.out
     have hnc58 := NB429_430.out
     obtain ⟨hcz59_0, hcz59_1, hcz59_2, hcz59_3, hcz59_4, hcz59_5, hcz59_6⟩ := cells7 BK430.out
     obtain ⟨hfz59_0, hfz59_1, hfz59_2, hfz59_3, hfz59_4, hfz59_5, hfz59_6⟩ := frz7 BK430.out
     go_wp2_with (first | ((with_reducible refine gate_builtin (b := .append) (xs := #[(.tmp 41), .tmp 43]) rfl ?_); at_builtin; refine Kd.R_append k48 (w0 := w0) w0.heap.size rfl (.tmp 41) (.tmp 43) 25 48 (.agg #[(.int .i64 0), (.int .i64 0), (.int .i64 0), (.int .i64 0), (.int .i64 0), (.string ⟨#[]⟩), (.string ⟨#[]⟩)]) 72 rfl Tryd.underlying25 info48 rfl (by decide) (by omega) u0 x0_1 (⟨a1_0, x431001_1, x431002_1, x431003_1, a1_4, a1_5, a1_6⟩ : S48) [.int .i64 a1_0, .int .i64 x431001_1, .int .i64 x431002_1, .int .i64 x431003_1, .int .i64 a1_4, .string a1_5, .string a1_6] (fun k_ => (P0_ k_ ∨ w.heap.size ≤ k_) ∧ k_ ≠ gb430) (fun _ => False) rfl rfl ?aP (fun _ hk => hk.elim) ?aF ?aO ?aB ?aS ?aL ?_; (case aP => exact k48_mkM _ _ _ (⟨a1_0, x431001_1, x431002_1, x431003_1, a1_4, a1_5, a1_6⟩ : S48)); (case aB => exact (bb2 GE429.out GE430.out)); (case aF => exact (fun k_ hk => ⟨(.inr (Nat.le_trans (by first | exact HK.out.1 | exact (show Kept w _ (fun k_ => P0_ k_) from by repeat (first | (with_reducible first | exact HK.out | apply Kept.alloc | apply Kept.drewN | apply Kept.drew | refine Kept.setCell ?_ (.inr GW429.out) _ | refine Kept.setCell ?_ (.inr GW430.out) _) | exact HK.out)).1) hk)), Kd.freshB (g := gb430) (bk0 BK430.out) k_ hk⟩)); (case aO => exact (ra0 HO_0.out)); (case aS => exact (below_size (bb2 GE429.out GE430.out))); (case aL => have := LMc57.out; omega); intro v432 w60 ho hb hg hat; rw [← Ny431.out] at ho; have n0_ := Aside0.mk (blk_grown (g := gb429) (bk0 BK429.out) hg (Kd.R_ne HO_0.out BK429.out (by decide))); have n1_ := Aside0.mk (blk_grown (g := gb430) (bk0 BK430.out) hg (Kd.R_away HO_0.out (fun _ hk => hk.2))); have n2_ := Aside0.mk (hb); have n3_ := Aside0.mk (Kept.of_grown (S := (fun k_ => P0_ k_)) hg (by repeat (first | (with_reducible first | exact HK.out | apply Kept.alloc | apply Kept.drewN | apply Kept.drew | refine Kept.setCell ?_ (.inr GW429.out) _ | refine Kept.setCell ?_ (.inr GW430.out) _) | exact HK.out)) (fun k_ e_ => (HO_0.out.1 k_ e_).1)); have n4_ := Aside0.mk (ho); clear BK429; clear BK430; clear HB; clear HK; clear HO_0; have BK429 := n0_; have BK430 := n1_; have HB := n2_; have HK := n3_; have HO433 := n4_; clear n0_ n1_ n2_ n3_ n4_; clear ho hb hg hat))
     go_ret
     exact ⟨_, er0, by refine ra0 ?_; exact Kd.R_mono HO433.out (fun _ hk => hk.1), bb2 GE429.out GE430.out, by repeat (first | (with_reducible first | exact HK.out | apply Kept.alloc | apply Kept.drewN | apply Kept.drew | refine Kept.setCell ?_ (.inr GW429.out) _ | refine Kept.setCell ?_ (.inr GW430.out) _) | exact HK.out)⟩
    ·rw [if_neg c57] at H
     exact absurd H (by simp)

/-! ### impl_isFun: function 46 -/
def impl_isFun.f (l0 : List (S48)) (a1 : Int) : Option (Bool) := if 0 ≤ a1 then (if a1 < (l0.length : Int) then (if ((rd_T48 l0 a1).f0) = 3 then (some true) else (some (((rd_T48 l0 a1).f0) == 6))) else (none)) else (none)
set_option maxHeartbeats 8000000 in
set_option maxRecDepth 100000 in
theorem impl_isFun.calls (A0 : Option Addr) (c0 : Nat) (l0 : List (S48)) (a1 : Int) (r : Bool) (w : World) (hr0 : Kd.C k48 w A0 l0.length l0) (hc0 : l0.length ≤ c0) (h : impl_isFun.f l0 a1 = some r) :
  Calls Tryd.prog 46 #[.slice A0 l0.length c0, .int .i64 a1] w fun e w' => e = .returned (.bool r) ∧ Drawn0 w w' := by
 have HR0 := Aside0.mk hr0
 have HC0 := Aside0.mk hc0
 clear hr0 hc0
 have H := h; unfold impl_isFun.f at H
 clear h
 by_cases c3 : 0 ≤ a1
 rw [if_pos c3] at H
 have c3b0 := decide_eq_true c3
 clear c3
 by_cases c4 : a1 < (l0.length : Int)
 rw [if_pos c4] at H
 have c4b0 := decide_eq_true c4
 clear c4
 by_cases c5 : ((rd_T48 l0 a1).f0) = 3
 rw [if_pos c5] at H
 obtain ⟨c5b0, c5b1⟩ := eqT c5
 clear c5
 obtain rfl := Option.some.inj H
 have p439 : 0 ≤ (a1 : Int) := of_decide_eq_true as0
 have q439 : a1 < (l0.length : Int) := of_decide_eq_true as0
 obtain ⟨ad439, e439, hx439_0, hx439_1, hx439_2, hx439_3, hx439_4, hx439_5, hx439_6⟩ := at_T48 HR0.out a1 p439 q439
 cases e439
 replace p439 := eq_true p439
 replace q439 := eq_true q439
 rotate_left
 rw [if_neg c5] at H
 obtain ⟨c5b0, c5b1⟩ := eqF c5
 obtain rfl := Option.some.inj H
 have p439 : 0 ≤ (a1 : Int) := of_decide_eq_true as0
 have q439 : a1 < (l0.length : Int) := of_decide_eq_true as0
 obtain ⟨ad439, e439, hx439_0, hx439_1, hx439_2, hx439_3, hx439_4, hx439_5, hx439_6⟩ := at_T48 HR0.out a1 p439 q439
 cases e439
 replace p439 := eq_true p439
 replace q439 := eq_true q439
 have p440 : 0 ≤ (a1 : Int) := of_decide_eq_true as0
 have q440 : a1 < (l0.length : Int) := of_decide_eq_true as0
 obtain ⟨ad440, e440, hx440_0, hx440_1, hx440_2, hx440_3, hx440_4, hx440_5, hx440_6⟩ := at_T48 HR0.out a1 p440 q440
 obtain rfl : ad439 = ad440 := (by injection e440)
 replace p440 := eq_true p440
 replace q440 := eq_true q440
 rotate_left
 ·rw [if_neg c4] at H
  exact absurd H (by simp)
 ·rw [if_neg c3] at H
  exact absurd H (by simp)
 all_goals (go_enter Tryd.func46, Tryd.ntmps46; go_wp2; go_ret; exact ⟨rs0, dr0⟩)

/-! ### impl_effectOf: function 31 -/
mutual
def impl_effectOf.j0 : Nat → List (S48) → Int → Int → Int → Int → Int → Int → Int → ByteArray → ByteArray → Option (Int)
 | 0, _, _, _, _, _, _, _, _, _, _ => none
 | k + 1, x0, x1, x6, x443000, x443001, x443002, x443003, x443004, x443005, x443006 => (impl_Kids.f k x443000 x443001 x443002 x443003 x443004 x443005 x443006).bind fun t443 => (impl_effectOf.l0 k x0 x1 x6 t443 (t443.length : Int) 0)
def impl_effectOf.l0 : Nat → List (S48) → Int → Int → List Int → Int → Int → Option (Int)
 | 0, _, _, _, _, _, _ => none
 | k + 1, x0, x1, x6, x26, x27, x28 => if x28 < x27 then (if 0 ≤ x28 then (if x28 < (x26.length : Int) then (if x28 > 0 then ((impl_effectOf.f k x0 (rd x26 x28)).bind fun t447 => (impl_effectOf.l0 k x0 x1 (Go.bits .or .i64 x6 t447) x26 x27 (wrap64 (x28 + 1)))) else ((impl_isFun.f x0 x1).bind fun t448 => (if t448 = true then (impl_effectOf.l0 k x0 x1 x6 x26 x27 (wrap64 (x28 + 1))) else ((impl_effectOf.f k x0 (rd x26 x28)).bind fun t449 => (impl_effectOf.l0 k x0 x1 (Go.bits .or .i64 x6 t449) x26 x27 (wrap64 (x28 + 1))))))) else (none)) else (none)) else (some x6)
def impl_effectOf.f : Nat → List (S48) → Int → Option (Int)
 | 0, _, _ => none
 | k + 1, l0, a1 => if 0 ≤ a1 then (if a1 < (l0.length : Int) then (if ((rd_T48 l0 a1).f0) = 16 then (impl_effectOf.j0 k l0 a1 1 ((rd_T48 l0 a1).f0) ((rd_T48 l0 a1).f1) ((rd_T48 l0 a1).f2) ((rd_T48 l0 a1).f3) ((rd_T48 l0 a1).f4) ((rd_T48 l0 a1).f5) ((rd_T48 l0 a1).f6)) else (if ((rd_T48 l0 a1).f0) = 17 then (impl_effectOf.j0 k l0 a1 2 ((rd_T48 l0 a1).f0) ((rd_T48 l0 a1).f1) ((rd_T48 l0 a1).f2) ((rd_T48 l0 a1).f3) ((rd_T48 l0 a1).f4) ((rd_T48 l0 a1).f5) ((rd_T48 l0 a1).f6)) else (if ((rd_T48 l0 a1).f0) = 18 then (impl_effectOf.j0 k l0 a1 4 ((rd_T48 l0 a1).f0) ((rd_T48 l0 a1).f1) ((rd_T48 l0 a1).f2) ((rd_T48 l0 a1).f3) ((rd_T48 l0 a1).f4) ((rd_T48 l0 a1).f5) ((rd_T48 l0 a1).f6)) else (if ((rd_T48 l0 a1).f0) = 15 then (impl_effectOf.j0 k l0 a1 8 ((rd_T48 l0 a1).f0) ((rd_T48 l0 a1).f1) ((rd_T48 l0 a1).f2) ((rd_T48 l0 a1).f3) ((rd_T48 l0 a1).f4) ((rd_T48 l0 a1).f5) ((rd_T48 l0 a1).f6)) else (if ((rd_T48 l0 a1).f0) = 4 then (impl_effectOf.j0 k l0 a1 16 ((rd_T48 l0 a1).f0) ((rd_T48 l0 a1).f1) ((rd_T48 l0 a1).f2) ((rd_T48 l0 a1).f3) ((rd_T48 l0 a1).f4) ((rd_T48 l0 a1).f5) ((rd_T48 l0 a1).f6)) else (impl_effectOf.j0 k l0 a1 0 ((rd_T48 l0 a1).f0) ((rd_T48 l0 a1).f1) ((rd_T48 l0 a1).f2) ((rd_T48 l0 a1).f3) ((rd_T48 l0 a1).f4) ((rd_T48 l0 a1).f5) ((rd_T48 l0 a1).f6))))))) else (none)) else (none)
end
theorem impl_effectOf.mono_l : ∀ k, (∀ y0 y1, LeO (impl_effectOf.f k y0 y1) (impl_effectOf.f (k + 1) y0 y1)) ∧ (∀ y0 y1 y2 y3 y4 y5 y6 y7 y8 y9, LeO (impl_effectOf.j0 k y0 y1 y2 y3 y4 y5 y6 y7 y8 y9) (impl_effectOf.j0 (k + 1) y0 y1 y2 y3 y4 y5 y6 y7 y8 y9)) ∧ (∀ y0 y1 y2 y3 y4 y5, LeO (impl_effectOf.l0 k y0 y1 y2 y3 y4 y5) (impl_effectOf.l0 (k + 1) y0 y1 y2 y3 y4 y5))
 | 0 => ⟨fun _ _ r h => by simp [impl_effectOf.f] at h, fun _ _ _ _ _ _ _ _ _ _ r h => by simp [impl_effectOf.j0] at h, fun _ _ _ _ _ _ r h => by simp [impl_effectOf.l0] at h⟩
 | k + 1 => by
  obtain ⟨ih0, ih1, ih2⟩ := impl_effectOf.mono_l k
  refine ⟨?_, ?_, ?_⟩
  ·intro y0 y1
   unfold impl_effectOf.f
   repeat' first
   | (with_reducible exact ih0 _ _)
   | (with_reducible exact ih1 _ _ _ _ _ _ _ _ _ _)
   | (with_reducible exact ih2 _ _ _ _ _ _)
   | (with_reducible exact impl_Kids.mono _ _ _ _ _ _ _ _)
   | (with_reducible exact LeO.refl _)
   | (with_reducible exact LeO.none _)
   | (with_reducible refine LeO.ite ?_ ?_)
   | (with_reducible refine LeO.bind ?_ (fun _ => ?_))
   | exact ih0 _ _
   | exact ih1 _ _ _ _ _ _ _ _ _ _
   | exact ih2 _ _ _ _ _ _
   | exact impl_Kids.mono _ _ _ _ _ _ _ _
   | exact LeO.none _
   | refine LeO.ite ?_ ?_
   | refine LeO.bind ?_ (fun _ => ?_)
  ·intro y0 y1 y2 y3 y4 y5 y6 y7 y8 y9
   unfold impl_effectOf.j0
   repeat' first
   | (with_reducible exact ih0 _ _)
   | (with_reducible exact ih1 _ _ _ _ _ _ _ _ _ _)
   | (with_reducible exact ih2 _ _ _ _ _ _)
   | (with_reducible exact impl_Kids.mono _ _ _ _ _ _ _ _)
   | (with_reducible exact LeO.refl _)
   | (with_reducible exact LeO.none _)
   | (with_reducible refine LeO.ite ?_ ?_)
   | (with_reducible refine LeO.bind ?_ (fun _ => ?_))
   | exact ih0 _ _
   | exact ih1 _ _ _ _ _ _ _ _ _ _
   | exact ih2 _ _ _ _ _ _
   | exact impl_Kids.mono _ _ _ _ _ _ _ _
   | exact LeO.none _
   | refine LeO.ite ?_ ?_
   | refine LeO.bind ?_ (fun _ => ?_)
  ·intro y0 y1 y2 y3 y4 y5
   unfold impl_effectOf.l0
   repeat' first
   | (with_reducible exact ih0 _ _)
   | (with_reducible exact ih1 _ _ _ _ _ _ _ _ _ _)
   | (with_reducible exact ih2 _ _ _ _ _ _)
   | (with_reducible exact impl_Kids.mono _ _ _ _ _ _ _ _)
   | (with_reducible exact LeO.refl _)
   | (with_reducible exact LeO.none _)
   | (with_reducible refine LeO.ite ?_ ?_)
   | (with_reducible refine LeO.bind ?_ (fun _ => ?_))
   | exact ih0 _ _
   | exact ih1 _ _ _ _ _ _ _ _ _ _
   | exact ih2 _ _ _ _ _ _
   | exact impl_Kids.mono _ _ _ _ _ _ _ _
   | exact LeO.none _
   | refine LeO.ite ?_ ?_
   | refine LeO.bind ?_ (fun _ => ?_)
theorem impl_effectOf.mono : ∀ a0 a1 k, LeO (impl_effectOf.f k a0 a1) (impl_effectOf.f (k + 1) a0 a1) := by
 intro a0 a1 k
 obtain ⟨ih0, ih1, ih2⟩ := impl_effectOf.mono_l k
 exact ih0 a0 a1
set_option maxHeartbeats 8000000 in
set_option maxRecDepth 100000 in
theorem impl_effectOf.calls (k : Nat) : ∀ (A0 : Option Addr) (c0 : Nat) (l0 : List (S48)) (a1 : Int) (r : Int) (w : World) (hr0 : Kd.C k48 w A0 l0.length l0) (hc0 : l0.length ≤ c0) (h : impl_effectOf.f k l0 a1 = some r),
  Calls Tryd.prog 31 #[.slice A0 l0.length c0, .int .i64 a1] w fun e w' => e = .returned (.int .i64 r) ∧ Below w.heap.size w w' := by
 induction k using Nat.strongRecOn with
 | _ k ih =>
 intro A0 c0 l0 a1 r w hr0 hc0 h
 cases k with
 | zero => exact absurd h (by simp [impl_effectOf.f])
 | succ k =>
 simp only [impl_effectOf.f] at h
 have hu48 := Tryd.underlying48
 have HR0 := Aside0.mk hr0
 have HC0 := Aside0.mk hc0
 clear hr0 hc0
 have HB := Aside0.mk (Below.refl w.heap.size w)
 have H := h
 clear h
 by_cases c3 : 0 ≤ a1
 ·rw [if_pos c3] at H
  have c3b0 := decide_eq_true c3
  clear c3
  by_cases c4 : a1 < (l0.length : Int)
  ·rw [if_pos c4] at H
   have c4b0 := decide_eq_true c4
   clear c4
   have HC5 := Aside0.mk H
   clear H
   have p441 : 0 ≤ (a1 : Int) := of_decide_eq_true as0
   have q441 : a1 < (l0.length : Int) := of_decide_eq_true as0
   obtain ⟨ad441, e441, hx441_0, hx441_1, hx441_2, hx441_3, hx441_4, hx441_5, hx441_6⟩ := at_T48 HR0.out a1 p441 q441
   cases e441
   replace p441 := eq_true p441
   replace q441 := eq_true q441
   go_enter Tryd.func31, Tryd.ntmps31
   go_upto_block 0 with (first | ((with_reducible refine gate_dst (N := 5) rfl ?_); refine box_event ?hg (N := 5) ?hd (cs := #[.int .i64 0, .int .i64 0, .int .i64 0, .int .i64 0, .int .i64 0, .string (⟨#[]⟩ : ByteArray), .string (⟨#[]⟩ : ByteArray)]) (t := 48) ?hr ?_; (case hd => rfl); (case hg => rfl); (case hr => first | (go_simp; done) | (go_simp; rfl)); intro gb442 hg w6 hbox hb; have BK442 := Aside0.mk (hbox); have GW442 := Aside0.mk ((by rw [hg]; exact (below_size bb0) : w.heap.size ≤ gb442)); have GE442 := Aside0.mk ((by rw [hg]; exact (below_size bb0) : w.heap.size ≤ gb442)); replace HB := Aside0.mk (below_step bb0 hb); clear hb hbox hg; obtain ⟨hcz7_0, hcz7_1, hcz7_2, hcz7_3, hcz7_4, hcz7_5, hcz7_6⟩ := cells7 BK442.out; obtain ⟨hfz7_0, hfz7_1, hfz7_2, hfz7_3, hfz7_4, hfz7_5, hfz7_6⟩ := frz7 BK442.out))
   (try simp only [Act.put, List.setIfInBounds_toArray, List.set_cons_zero, List.set_cons_succ])
   go_cut [6] (fun v6 wc => ∃ (kq : Nat) (x6_4 : Int), v6 = .int .i64 x6_4 ∧ Aside0 (impl_effectOf.j0 kq l0 a1 x6_4 ((rd_T48 l0 a1).f0) ((rd_T48 l0 a1).f1) ((rd_T48 l0 a1).f2) ((rd_T48 l0 a1).f3) ((rd_T48 l0 a1).f4) ((rd_T48 l0 a1).f5) ((rd_T48 l0 a1).f6) = some r) ∧ Aside0 (kq ≤ k) ∧ Aside0 (wc.heap[gb442]? = some (.cells #[.int .i64 ((rd_T48 l0 a1).f0), .int .i64 ((rd_T48 l0 a1).f1), .int .i64 ((rd_T48 l0 a1).f2), .int .i64 ((rd_T48 l0 a1).f3), .int .i64 ((rd_T48 l0 a1).f4), .string ((rd_T48 l0 a1).f5), .string ((rd_T48 l0 a1).f6)] 48 (0, 0))) ∧ Aside0 (Below w.heap.size w wc))
   case first =>
    have H := HC5.out
    clear HC5
    by_cases c8 : ((rd_T48 l0 a1).f0) = 16
    ·rw [if_pos c8] at H
     obtain ⟨c8b0, c8b1⟩ := eqT c8
     clear c8
     (first | rw [c8b0] | (simp only [i64_w, i32_w]; rw [c8b0]) | skip)
     have H' := Aside0.mk H
     clear H
     go_wp2
     go_meet
     case rel => exact ⟨_, (1), rs0, H', ⟨by first | omega | exact Nat.le_refl _⟩, ⟨bk1 BK442.out⟩, ⟨bb1 GE442.out⟩⟩
    ·rw [if_neg c8] at H
     obtain ⟨c8b0, c8b1⟩ := eqF c8
     (first | rw [c8b0] | (simp only [i64_w, i32_w]; rw [c8b0]) | skip)
     by_cases c9 : ((rd_T48 l0 a1).f0) = 17
     ·rw [if_pos c9] at H
      obtain ⟨c9b0, c9b1⟩ := eqT c9
      clear c9
      have H' := Aside0.mk H
      clear H
      go_wp2
      go_meet
      case rel => exact ⟨_, (2), rs0, H', ⟨by first | omega | exact Nat.le_refl _⟩, ⟨bk1 BK442.out⟩, ⟨bb1 GE442.out⟩⟩
     ·rw [if_neg c9] at H
      obtain ⟨c9b0, c9b1⟩ := eqF c9
      by_cases c10 : ((rd_T48 l0 a1).f0) = 18
      ·rw [if_pos c10] at H
       obtain ⟨c10b0, c10b1⟩ := eqT c10
       clear c10
       have H' := Aside0.mk H
       clear H
       go_wp2
       go_meet
       case rel => exact ⟨_, (4), rs0, H', ⟨by first | omega | exact Nat.le_refl _⟩, ⟨bk1 BK442.out⟩, ⟨bb1 GE442.out⟩⟩
      ·rw [if_neg c10] at H
       obtain ⟨c10b0, c10b1⟩ := eqF c10
       by_cases c11 : ((rd_T48 l0 a1).f0) = 15
       ·rw [if_pos c11] at H
        obtain ⟨c11b0, c11b1⟩ := eqT c11
        clear c11
        have H' := Aside0.mk H
        clear H
        go_wp2
        go_meet
        case rel => exact ⟨_, (8), rs0, H', ⟨by first | omega | exact Nat.le_refl _⟩, ⟨bk1 BK442.out⟩, ⟨bb1 GE442.out⟩⟩
       ·rw [if_neg c11] at H
        obtain ⟨c11b0, c11b1⟩ := eqF c11
        by_cases c12 : ((rd_T48 l0 a1).f0) = 4
        ·rw [if_pos c12] at H
         obtain ⟨c12b0, c12b1⟩ := eqT c12
         clear c12
         have H' := Aside0.mk H
         clear H
         go_wp2
         go_meet
         case rel => exact ⟨_, (16), rs0, H', ⟨by first | omega | exact Nat.le_refl _⟩, ⟨bk1 BK442.out⟩, ⟨bb1 GE442.out⟩⟩
        ·rw [if_neg c12] at H
         obtain ⟨c12b0, c12b1⟩ := eqF c12
         have H' := Aside0.mk H
         clear H
         go_wp2
         go_meet
         case rel => exact ⟨_, (0), rs0, H', ⟨by first | omega | exact Nat.le_refl _⟩, ⟨bk1 BK442.out⟩, ⟨bb1 GE442.out⟩⟩
   case rest =>
    clear HC5
    try clear c1
    try clear p2
    try clear c3
    try clear c3b0
    try clear c4
    try clear c4b0
    try clear p4
    try clear q4
    try clear hx4
    try clear c8
    try clear c8b0
    try clear c8b1
    try clear c9
    try clear c9b0
    try clear c9b1
    try clear c10
    try clear c10b0
    try clear c10b1
    try clear c11
    try clear c11b0
    try clear c11b1
    try clear c12
    try clear c12b0
    try clear c12b1
    try clear hcz7_0
    try clear hcz7_1
    try clear hcz7_2
    try clear hcz7_3
    try clear hcz7_4
    try clear hcz7_5
    try clear hcz7_6
    try clear hfz7_0
    try clear hfz7_1
    try clear hfz7_2
    try clear hfz7_3
    try clear hfz7_4
    try clear hfz7_5
    try clear hfz7_6
    try clear hx441_0
    try clear hx441_1
    try clear hx441_2
    try clear hx441_3
    try clear hx441_4
    try clear hx441_5
    try clear hx441_6
    try clear p441
    try clear q441
    obtain ⟨kq, x6_4, rfl, HA, HJ4, BK442, HB⟩ := hcut
    cases kq with
    | zero => exact absurd HA.out (by simp [impl_effectOf.j0])
    | succ kj4 =>
     have H := HA.out
     clear HA
     simp only [impl_effectOf.j0] at H
     obtain ⟨t443, A13, H⟩ := bx H
     have H' := Aside0.mk H
     clear H
     obtain ⟨hcz14_0, hcz14_1, hcz14_2, hcz14_3, hcz14_4, hcz14_5, hcz14_6⟩ := cells7 BK442.out
     obtain ⟨hfz14_0, hfz14_1, hfz14_2, hfz14_3, hfz14_4, hfz14_5, hfz14_6⟩ := frz7 BK442.out
     go_wp2_with (first | ((with_reducible refine gate_callee (f := 45) rfl ?_); refine goesL_ (some 26) rfl rfl Tryd.func45 (by kernel_rfl) rfl #[.agg #[.int .i64 ((rd_T48 l0 a1).f0), .int .i64 ((rd_T48 l0 a1).f1), .int .i64 ((rd_T48 l0 a1).f2), .int .i64 ((rd_T48 l0 a1).f3), .int .i64 ((rd_T48 l0 a1).f4), .string ((rd_T48 l0 a1).f5), .string ((rd_T48 l0 a1).f6)]] rfl mm0 ?_; (with_reducible refine (impl_Kids.calls kj4 ((rd_T48 l0 a1).f0) ((rd_T48 l0 a1).f1) ((rd_T48 l0 a1).f2) ((rd_T48 l0 a1).f3) ((rd_T48 l0 a1).f4) ((rd_T48 l0 a1).f5) ((rd_T48 l0 a1).f6) t443 _ A13.out).mono ?_); rintro e w15 ⟨v444, rfl, ho0, hb⟩; refine ⟨_, rfl, ?_⟩; have HO445 := Aside0.mk (Kd.V_lower (Kd.V_mono (ok' := fun k_ => k_ ≠ gb442) ho0 (fun k_ hk_ => (Kd.freshB (g := gb442) (bk0 BK442.out) k_ hk_))) (below_size (bb1 GE442.out))); replace BK442 := Aside0.mk (blk_below (g := gb442) (bk0 BK442.out) hb); replace HB := Aside0.mk (below_step (bb1 GE442.out) hb); clear hb ho0; obtain ⟨Ao16, co16, eo16⟩ := Kd.V_slice HO445.out; subst eo16))
     go_loopg [6, 28] kj4 (fun kq v6 v28 w' => ∃ (x6_2 : Int) (x28_2 : Int), v6 = .int .i64 x6_2 ∧ v28 = .int .i64 x28_2 ∧ Aside0 (impl_effectOf.l0 kq l0 a1 x6_2 t443 (t443.length : Int) x28_2 = some r) ∧ Aside0 (kq ≤ kj4) ∧ Aside0 (Kd.V (Kd.int .i64) 3 w' w.heap.size (fun k_ => k_ ≠ gb442) (.slice Ao16 t443.length co16) t443) ∧ Aside0 (w'.heap[gb442]? = some (.cells #[.int .i64 ((rd_T48 l0 a1).f0), .int .i64 ((rd_T48 l0 a1).f1), .int .i64 ((rd_T48 l0 a1).f2), .int .i64 ((rd_T48 l0 a1).f3), .int .i64 ((rd_T48 l0 a1).f4), .string ((rd_T48 l0 a1).f5), .string ((rd_T48 l0 a1).f6)] 48 (0, 0))) ∧ Aside0 (Below w.heap.size w w'))
     case atStart => exact ⟨(x6_4), (0), rs0, rs0, H', ⟨Nat.le_refl _⟩, ⟨by (with_reducible repeat (first | apply Kd.V_alloc | apply Kd.V_drewN | apply Kd.V_drew)); exact HO445.out⟩, ⟨by refine bk0 ?_; exact BK442.out⟩, ⟨bb1 GE442.out⟩⟩
     case round =>
      clear H'
      try clear c1
      try clear p2
      try clear c3
      try clear c3b0
      try clear c4
      try clear c4b0
      try clear p4
      try clear q4
      try clear hx4
      try clear c8
      try clear c8b0
      try clear c8b1
      try clear c9
      try clear c9b0
      try clear c9b1
      try clear c10
      try clear c10b0
      try clear c10b1
      try clear c11
      try clear c11b0
      try clear c11b1
      try clear c12
      try clear c12b0
      try clear c12b1
      try clear hcz14_0
      try clear hcz14_1
      try clear hcz14_2
      try clear hcz14_3
      try clear hcz14_4
      try clear hcz14_5
      try clear hcz14_6
      try clear hcz7_0
      try clear hcz7_1
      try clear hcz7_2
      try clear hcz7_3
      try clear hcz7_4
      try clear hcz7_5
      try clear hcz7_6
      try clear hfz14_0
      try clear hfz14_1
      try clear hfz14_2
      try clear hfz14_3
      try clear hfz14_4
      try clear hfz14_5
      try clear hfz14_6
      try clear hfz7_0
      try clear hfz7_1
      try clear hfz7_2
      try clear hfz7_3
      try clear hfz7_4
      try clear hfz7_5
      try clear hfz7_6
      try clear hx441_0
      try clear hx441_1
      try clear hx441_2
      try clear hx441_3
      try clear hx441_4
      try clear hx441_5
      try clear hx441_6
      try clear p2
      try clear p4
      try clear p441
      try clear q4
      try clear q441
      obtain ⟨x6_2, x28_2, rfl, rfl, HA, HK2, HO_26, BK442, HB⟩ := hrel
      cases gk with
      | zero => exact absurd HA.out (by simp [impl_effectOf.l0])
      | succ k2 =>
       have H := HA.out
       clear HA
       simp only [impl_effectOf.l0] at H
       by_cases c17 : x28_2 < (t443.length : Int)
       ·rw [if_pos c17] at H
        have c17b0 := decide_eq_true c17
        clear c17
        by_cases c18 : 0 ≤ x28_2
        ·rw [if_pos c18] at H
         have c18b0 := decide_eq_true c18
         clear c18
         by_cases c19 : x28_2 < (t443.length : Int)
         ·rw [if_pos c19] at H
          have c19b0 := decide_eq_true c19
          clear c19
          by_cases c20 : x28_2 > 0
          ·rw [if_pos c20] at H
           have c20b0 := decide_eq_true c20
           clear c20
           obtain ⟨t447, A21, H⟩ := bx H
           have H' := Aside0.mk H
           clear H
           have p446 : 0 ≤ (x28_2 : Int) := of_decide_eq_true as0
           have q446 : x28_2 < (t443.length : Int) := of_decide_eq_true as0
           obtain ⟨ad446, e446, hx446_0⟩ := Kd.at_int (Kd.V_reads' HO_26.out).2.2 x28_2 p446 q446
           cases e446
           replace p446 := eq_true p446
           replace q446 := eq_true q446
           go_wp2_with (first | ((with_reducible refine gate_callee (f := 31) rfl ?_); refine goesL_ (some 44) rfl rfl Tryd.func31 (by kernel_rfl) rfl #[.slice (some ad441) l0.length c0, .int .i64 (rd t443 x28_2)] rfl mm0 ?_; (with_reducible refine (ih k2 (by have := HJ4.out; have := HK2.out; omega) _ _ l0 (rd t443 x28_2) t447 _ ?side1 ?side2 A21.out).mono ?_); (case side1 => exact cc0 (Kd.C_below HR0.out HB.out)); (case side2 => exact HC0.out); rintro e w22 ⟨rfl, hb⟩; refine ⟨_, rfl, ?_⟩; replace HO_26 := Aside0.mk (Kd.V_below (by (with_reducible repeat (first | apply Kd.V_alloc | apply Kd.V_drewN | apply Kd.V_drew)); exact HO_26.out) hb); replace BK442 := Aside0.mk (blk_below (g := gb442) (bk0 BK442.out) hb); replace HB := Aside0.mk (below_step (bb1 GE442.out) hb); clear hb))
           go_roundg k2
           case measure => have := HJ4.out; have := HK2.out; omega
           case rel => exact ⟨(Go.bits .or .i64 x6_2 t447), (wrap64 (x28_2 + 1)), rs0, rs0, H', ⟨by have := HJ4.out; have := HK2.out; omega⟩, ⟨by (with_reducible repeat (first | apply Kd.V_alloc | apply Kd.V_drewN | apply Kd.V_drew)); exact HO_26.out⟩, ⟨by refine bk0 ?_; exact BK442.out⟩, ⟨bb1 GE442.out⟩⟩
          ·rw [if_neg c20] at H
           have c20b0 := decide_eq_false c20
           clear c20
           obtain ⟨t448, A23, H⟩ := bx H
           by_cases c24 : t448 = true
           ·subst c24
            rw [if_pos rfl] at H
            have H' := Aside0.mk H
            clear H
            have p446 : 0 ≤ (x28_2 : Int) := of_decide_eq_true as0
            have q446 : x28_2 < (t443.length : Int) := of_decide_eq_true as0
            obtain ⟨ad446, e446, hx446_0⟩ := Kd.at_int (Kd.V_reads' HO_26.out).2.2 x28_2 p446 q446
            cases e446
            replace p446 := eq_true p446
            replace q446 := eq_true q446
            go_wp2_with (first | (go_at_call 46; (with_reducible refine (impl_isFun.calls _ _ l0 a1 true _ ?side1 ?side2 A23.out).mono ?_); (case side1 => exact cc0 (Kd.C_below HR0.out HB.out)); (case side2 => exact HC0.out); rintro e w' ⟨rfl, ⟨nd, rfl⟩⟩))
            go_roundg k2
            case measure => have := HJ4.out; have := HK2.out; omega
            case rel => exact ⟨(x6_2), (wrap64 (x28_2 + 1)), rs0, rs0, H', ⟨by have := HJ4.out; have := HK2.out; omega⟩, ⟨by (with_reducible repeat (first | apply Kd.V_alloc | apply Kd.V_drewN | apply Kd.V_drew)); exact HO_26.out⟩, ⟨by refine bk0 ?_; exact BK442.out⟩, ⟨bb1 GE442.out⟩⟩
           ·replace c24 := Bool.eq_false_iff.mpr c24
            subst c24
            rw [if_neg (show ¬ (false = true) by decide)] at H
            obtain ⟨t449, A25, H⟩ := bx H
            have H' := Aside0.mk H
            clear H
            have p446 : 0 ≤ (x28_2 : Int) := of_decide_eq_true as0
            have q446 : x28_2 < (t443.length : Int) := of_decide_eq_true as0
            obtain ⟨ad446, e446, hx446_0⟩ := Kd.at_int (Kd.V_reads' HO_26.out).2.2 x28_2 p446 q446
            cases e446
            replace p446 := eq_true p446
            replace q446 := eq_true q446
            go_wp2_with (first | (go_at_call 46; (with_reducible refine (impl_isFun.calls _ _ l0 a1 false _ ?side1 ?side2 A23.out).mono ?_); (case side1 => exact cc0 (Kd.C_below HR0.out HB.out)); (case side2 => exact HC0.out); rintro e w' ⟨rfl, ⟨nd, rfl⟩⟩) | ((with_reducible refine gate_callee (f := 31) rfl ?_); refine goesL_ (some 44) rfl rfl Tryd.func31 (by kernel_rfl) rfl #[.slice (some ad441) l0.length c0, .int .i64 (rd t443 x28_2)] rfl mm0 ?_; (with_reducible refine (ih k2 (by have := HJ4.out; have := HK2.out; omega) _ _ l0 (rd t443 x28_2) t449 _ ?side1 ?side2 A25.out).mono ?_); (case side1 => exact cc0 (Kd.C_below HR0.out (bb1 GE442.out))); (case side2 => exact HC0.out); rintro e w26 ⟨rfl, hb⟩; refine ⟨_, rfl, ?_⟩; replace HO_26 := Aside0.mk (Kd.V_below (by (with_reducible repeat (first | apply Kd.V_alloc | apply Kd.V_drewN | apply Kd.V_drew)); exact HO_26.out) hb); replace BK442 := Aside0.mk (blk_below (g := gb442) (bk0 BK442.out) hb); replace HB := Aside0.mk (below_step (bb1 GE442.out) hb); clear hb))
            go_roundg k2
            case measure => have := HJ4.out; have := HK2.out; omega
            case rel => exact ⟨(Go.bits .or .i64 x6_2 t449), (wrap64 (x28_2 + 1)), rs0, rs0, H', ⟨by have := HJ4.out; have := HK2.out; omega⟩, ⟨by (with_reducible repeat (first | apply Kd.V_alloc | apply Kd.V_drewN | apply Kd.V_drew)); exact HO_26.out⟩, ⟨by refine bk0 ?_; exact BK442.out⟩, ⟨bb1 GE442.out⟩⟩
         ·rw [if_neg c19] at H
          exact absurd H (by simp)
        ·rw [if_neg c18] at H
         exact absurd H (by simp)
       ·rw [if_neg c17] at H
        have c17b0 := decide_eq_false c17
        clear c17
        obtain rfl := Option.some.inj H
        go_wp2
        go_ret
        exact ⟨er0, bb1 GE442.out⟩
  ·rw [if_neg c4] at H
   exact absurd H (by simp)
 ·rw [if_neg c3] at H
  exact absurd H (by simp)

end Go.Proofs.YtoebebgeiahagaaDoor.PFnExactDropLets
