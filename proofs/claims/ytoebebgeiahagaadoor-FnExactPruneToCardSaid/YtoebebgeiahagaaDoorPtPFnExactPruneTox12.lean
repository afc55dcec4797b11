-- Printed by this session's own program (wip/tools)
import Derived.Test.YtoebebgeiahagaaDoorPtPFnExactPruneTox0
import Derived.Test.YtoebebgeiahagaaDoorPtPFnExactPruneTox11
namespace Go.Proofs.YtoebebgeiahagaaDoor.PFnExactPruneTo
open Go.RowKit Go.Proofs.YtoebebgeiahagaaDoorW.PrintWords Go.Proofs.YtoebebgeiahagaaDoorW.PrintLast Go.Proofs.YtoebebgeiahagaaDoorW.PrintMore
attribute [local go_sem] max2_int min2_int max_two min_two max_three min_three max_four min_four   -- for this text's walks alone
set_option linter.unusedVariables false
set_option linter.unusedSimpArgs false

/-! ### impl_flat: function 36 -/
mutual
def impl_flat.l0 : Nat → List (S48) → List (S56) → Int → Int → Int → Int → Int → Int → Int → ByteArray → ByteArray → Option ((List (S48)))
 | 0, _, _, _, _, _, _, _, _, _, _, _ => none
 | k + 1, x0, x11, x12, x13, x324000, x324001, x324002, x324003, x324004, x324005, x324006 => if x13 < x12 then (if 0 ≤ x13 then (if x13 < (x11.length : Int) then ((impl_flat.f k x0 ((rd_T56 x11 x13).f0.f0) ((rd_T56 x11 x13).f0.f1) ((rd_T56 x11 x13).f0.f2) ((rd_T56 x11 x13).f0.f3) ((rd_T56 x11 x13).f0.f4) ((rd_T56 x11 x13).f0.f5) ((rd_T56 x11 x13).f0.f6) ((rd_T56 x11 x13).f1)).bind fun t329 => (if x13 = 0 then (impl_flat.l0 k t329 x11 x12 (wrap64 (x13 + 1)) x324000 (wrap64 ((t329.length : Int) - 1)) x324002 x324003 x324004 x324005 x324006) else (if x13 = 1 then (impl_flat.l0 k t329 x11 x12 (wrap64 (x13 + 1)) x324000 x324001 (wrap64 ((t329.length : Int) - 1)) x324003 x324004 x324005 x324006) else (if x13 = 2 then (impl_flat.l0 k t329 x11 x12 (wrap64 (x13 + 1)) x324000 x324001 x324002 (wrap64 ((t329.length : Int) - 1)) x324004 x324005 x324006) else (impl_flat.l0 k t329 x11 x12 (wrap64 (x13 + 1)) x324000 x324001 x324002 x324003 x324004 x324005 x324006))))) else (none)) else (none)) else (if x0.length < 1954687338268 then (some (x0 ++ [(⟨x324000, x324001, x324002, x324003, x324004, x324005, x324006⟩ : S48)])) else (none))
def impl_flat.f : Nat → List (S48) → Int → Int → Int → Int → Int → ByteArray → ByteArray → List (S56) → Option ((List (S48)))
 | 0, _, _, _, _, _, _, _, _, _ => none
 | k + 1, l0, a1_0, a1_1, a1_2, a1_3, a1_4, a1_5, a1_6, l1_7 => impl_flat.l0 k l0 l1_7 (l1_7.length : Int) 0 a1_0 a1_1 a1_2 a1_3 a1_4 a1_5 a1_6
end
theorem impl_flat.mono_l : ∀ k, (∀ y0 y1 y2 y3 y4 y5 y6 y7 y8, LeO (impl_flat.f k y0 y1 y2 y3 y4 y5 y6 y7 y8) (impl_flat.f (k + 1) y0 y1 y2 y3 y4 y5 y6 y7 y8)) ∧ (∀ y0 y1 y2 y3 y4 y5 y6 y7 y8 y9 y10, LeO (impl_flat.l0 k y0 y1 y2 y3 y4 y5 y6 y7 y8 y9 y10) (impl_flat.l0 (k + 1) y0 y1 y2 y3 y4 y5 y6 y7 y8 y9 y10))
 | 0 => ⟨fun _ _ _ _ _ _ _ _ _ r h => by simp [impl_flat.f] at h, fun _ _ _ _ _ _ _ _ _ _ _ r h => by simp [impl_flat.l0] at h⟩
 | k + 1 => by
  obtain ⟨ih0, ih1⟩ := impl_flat.mono_l k
  refine ⟨?_, ?_⟩
  ·intro y0 y1 y2 y3 y4 y5 y6 y7 y8
   unfold impl_flat.f
   repeat' first
   | (with_reducible exact ih0 _ _ _ _ _ _ _ _ _)
   | (with_reducible exact ih1 _ _ _ _ _ _ _ _ _ _ _)
   | (with_reducible exact LeO.refl _)
   | (with_reducible exact LeO.none _)
   | (with_reducible refine LeO.ite ?_ ?_)
   | (with_reducible refine LeO.bind ?_ (fun _ => ?_))
   | exact ih0 _ _ _ _ _ _ _ _ _
   | exact ih1 _ _ _ _ _ _ _ _ _ _ _
   | exact LeO.none _
   | refine LeO.ite ?_ ?_
   | refine LeO.bind ?_ (fun _ => ?_)
  ·intro y0 y1 y2 y3 y4 y5 y6 y7 y8 y9 y10
   unfold impl_flat.l0
   repeat' first
   | (with_reducible exact ih0 _ _ _ _ _ _ _ _ _)
   | (with_reducible exact ih1 _ _ _ _ _ _ _ _ _ _ _)
   | (with_reducible exact LeO.refl _)
   | (with_reducible exact LeO.none _)
   | (with_reducible refine LeO.ite ?_ ?_)
   | (with_reducible refine LeO.bind ?_ (fun _ => ?_))
   | exact ih0 _ _ _ _ _ _ _ _ _
   | exact ih1 _ _ _ _ _ _ _ _ _ _ _
   | exact LeO.none _
   | refine LeO.ite ?_ ?_
   | refine LeO.bind ?_ (fun _ => ?_)
theorem impl_flat.mono : ∀ a0 a1 a2 a3 a4 a5 a6 a7 a8 k, LeO (impl_flat.f k a0 a1 a2 a3 a4 a5 a6 a7 a8) (impl_flat.f (k + 1) a0 a1 a2 a3 a4 a5 a6 a7 a8) := by
 intro a0 a1 a2 a3 a4 a5 a6 a7 a8 k
 obtain ⟨ih0, ih1⟩ := impl_flat.mono_l k
 exact ih0 a0 a1 a2 a3 a4 a5 a6 a7 a8
set_option maxHeartbeats 8000000 in
set_option maxRecDepth 100000 in
theorem impl_flat.calls (k : Nat) : ∀ (P0_ : Nat → Prop) (u9000_ : Value) (l0 : List (S48)) (a1_0 : Int) (a1_1 : Int) (a1_2 : Int) (a1_3 : Int) (a1_4 : Int) (a1_5 : ByteArray) (a1_6 : ByteArray) (A1_7 : Option Addr) (c1_7 : Nat) (l1_7 : List (S56)) (r : List (S48)) (w0 w : World) (hB : Below w0.heap.size w0 w) (ho0 : Kd.R k48 48 w w0.heap.size P0_ u9000_ l0) (hr1_7 : ∀ W_, Kept w W_ (fun k_ => P0_ k_) → Kd.C k56 W_ A1_7 l1_7.length l1_7) (hc1_7 : l1_7.length ≤ c1_7) (h : impl_flat.f k l0 a1_0 a1_1 a1_2 a1_3 a1_4 a1_5 a1_6 l1_7 = some r),
  Calls Tryd.prog 36 #[u9000_, .agg #[.int .i64 a1_0, .int .i64 a1_1, .int .i64 a1_2, .int .i64 a1_3, .int .i64 a1_4, .string a1_5, .string a1_6, .slice A1_7 l1_7.length c1_7]] w fun e w' => ∃ v0_ : Value, e = .returned (v0_) ∧ Kd.R k48 48 w' w0.heap.size (fun k_ => (P0_ k_ ∨ w.heap.size ≤ k_)) v0_ r ∧ Below w0.heap.size w0 w' ∧ Kept w w' (fun k_ => P0_ k_) := by
 induction k using Nat.strongRecOn with
 | _ k ih =>
 intro P0_ u9000_ l0 a1_0 a1_1 a1_2 a1_3 a1_4 a1_5 a1_6 A1_7 c1_7 l1_7 r w0 w hB ho0 hr1_7 hc1_7 h
 cases k with
 | zero => exact absurd h (by simp [impl_flat.f])
 | succ k =>
 simp only [impl_flat.f] at h
 have hu56 := Tryd.underlying56
 have hu48 := Tryd.underlying48
 have HO0 := Aside0.mk (show Kd.R k48 48 w w0.heap.size (fun k_ => (P0_ k_ ∨ w.heap.size ≤ k_)) u9000_ l0 from Kd.R_mono ho0 (fun k_ hk => (.inl hk)))
 have HR1_7 := Aside0.mk hr1_7
 have HC1_7 := Aside0.mk hc1_7
 clear hr1_7 hc1_7
 have HK := Aside0.mk (Kept.refl w (fun k_ => P0_ k_))
 have HW0 := Aside0.mk hB.size
 have HB := Aside0.mk hB
 clear hB
 have H : (impl_flat.l0 k l0 l1_7 (l1_7.length : Int) 0 a1_0 a1_1 a1_2 a1_3 a1_4 a1_5 a1_6) = some r := h
 clear h
 have H' := Aside0.mk H
 clear H
 go_enter Tryd.func36, Tryd.ntmps36
 go_wp2_with (first | ((with_reducible refine gate_dst (N := 3) rfl ?_); refine box_event ?hg (N := 3) ?hd (cs := #[.int .i64 a1_0, .int .i64 a1_1, .int .i64 a1_2, .int .i64 a1_3, .int .i64 a1_4, .string a1_5, .string a1_6, .slice A1_7 l1_7.length c1_7]) (t := 56) ?hr ?_; (case hd => rfl); (case hg => rfl); (case hr => first | (go_simp; done) | (go_simp; rfl)); intro gb322 hg w3 hbox hb; have n0_ := Aside0.mk (Kd.R_below (ra0 HO0.out) hb); have n1_ := Aside0.mk (Kept.below (S := (fun k_ => P0_ k_)) (by repeat (first | (with_reducible first | exact HK.out | apply Kept.alloc | apply Kept.drewN | apply Kept.drew) | exact HK.out)) hb); have n2_ := Aside0.mk (below_step bb0 hb); have n3_ := Aside0.mk (hbox); have n4_ := Aside0.mk ((by rw [hg]; exact (by first | exact HK.out.1 | exact (show Kept w _ (fun k_ => P0_ k_) from by repeat (first | (with_reducible first | exact HK.out | apply Kept.alloc | apply Kept.drewN | apply Kept.drew) | exact HK.out)).1) : w.heap.size ≤ gb322)); have n5_ := Aside0.mk ((by rw [hg]; exact (below_size bb0) : w0.heap.size ≤ gb322)); clear HO0; clear HK; clear HB; have HO0 := n0_; have HK := n1_; have HB := n2_; have BK322 := n3_; have GW322 := n4_; have GE322 := n5_; clear n0_ n1_ n2_ n3_ n4_ n5_; clear hb hbox hg; obtain ⟨hcz4_0, hcz4_1, hcz4_2, hcz4_3, hcz4_4, hcz4_5, hcz4_6, hcz4_7⟩ := cells8 BK322.out; obtain ⟨hfz4_0, hfz4_1, hfz4_2, hfz4_3, hfz4_4, hfz4_5, hfz4_6, hfz4_7⟩ := frz8 BK322.out) | ((with_reducible refine gate_dst (N := 5) rfl ?_); refine box_event ?hg (N := 5) ?hd (cs := #[.int .i64 0, .int .i64 0, .int .i64 0, .int .i64 0, .int .i64 0, .string (⟨#[]⟩ : ByteArray), .string (⟨#[]⟩ : ByteArray)]) (t := 48) ?hr ?_; (case hd => rfl); (case hg => rfl); (case hr => first | (go_simp; done) | (go_simp; rfl)); intro gb323 hg w5 hbox hb; have n0_ := Aside0.mk (Kd.R_below (Kd.R_elderB (ra0 HO0.out) gb323 (Nat.le_of_eq hg.symm)) hb); have n1_ := Aside0.mk (blk_below (g := gb322) (o := .cells #[.int .i64 a1_0, .int .i64 a1_1, .int .i64 a1_2, .int .i64 a1_3, .int .i64 a1_4, .string a1_5, .string a1_6, .slice A1_7 l1_7.length c1_7] 56 (0, 0)) (bk0 BK322.out) hb); have n2_ := Aside0.mk (Kept.below (S := (fun k_ => P0_ k_)) (by repeat (first | (with_reducible first | exact HK.out | apply Kept.alloc | apply Kept.drewN | apply Kept.drew | refine Kept.setCell ?_ (.inr GW322.out) _) | exact HK.out)) hb); have n3_ := Aside0.mk (below_step (bb1 GE322.out) hb); have n4_ := Aside0.mk (hbox); have n5_ := Aside0.mk ((by rw [hg]; exact (by first | exact HK.out.1 | exact (show Kept w _ (fun k_ => P0_ k_) from by repeat (first | (with_reducible first | exact HK.out | apply Kept.alloc | apply Kept.drewN | apply Kept.drew | refine Kept.setCell ?_ (.inr GW322.out) _) | exact HK.out)).1) : w.heap.size ≤ gb323)); have n6_ := Aside0.mk ((by rw [hg]; exact (below_size (bb1 GE322.out)) : w0.heap.size ≤ gb323)); have n7_ := Aside0.mk ((by rw [hg]; exact Nat.ne_of_lt (blk_lt (g := gb322) (o := .cells #[.int .i64 a1_0, .int .i64 a1_1, .int .i64 a1_2, .int .i64 a1_3, .int .i64 a1_4, .string a1_5, .string a1_6, .slice A1_7 l1_7.length c1_7] 56 (0, 0)) (bk0 BK322.out)) : gb322 ≠ gb323)); have n8_ := Aside0.mk ((by rw [hg]; exact Nat.ne_of_gt (blk_lt (g := gb322) (o := .cells #[.int .i64 a1_0, .int .i64 a1_1, .int .i64 a1_2, .int .i64 a1_3, .int .i64 a1_4, .string a1_5, .string a1_6, .slice A1_7 l1_7.length c1_7] 56 (0, 0)) (bk0 BK322.out)) : gb323 ≠ gb322)); clear HO0; clear BK322; clear HK; clear HB; have HO0 := n0_; have BK322 := n1_; have HK := n2_; have HB := n3_; have BK323 := n4_; have GW323 := n5_; have GE323 := n6_; have NB322_323 := n7_; have NB323_322 := n8_; clear n0_ n1_ n2_ n3_ n4_ n5_ n6_ n7_ n8_; clear hb hbox hg; have hnb6 := NB323_322.out; have hnc6 := NB322_323.out; obtain ⟨hcz7_0, hcz7_1, hcz7_2, hcz7_3, hcz7_4, hcz7_5, hcz7_6⟩ := cells7 BK323.out; obtain ⟨hfz7_0, hfz7_1, hfz7_2, hfz7_3, hfz7_4, hfz7_5, hfz7_6⟩ := frz7 BK323.out; obtain ⟨hcz8_0, hcz8_1, hcz8_2, hcz8_3, hcz8_4, hcz8_5, hcz8_6, hcz8_7⟩ := cells8 BK322.out; obtain ⟨hfz8_0, hfz8_1, hfz8_2, hfz8_3, hfz8_4, hfz8_5, hfz8_6, hfz8_7⟩ := frz8 BK322.out))
 go_loopg [0, 13] k (fun kq v0 v13 w' => ∃ (x0_1 : List (S48)) (x13_1 : Int) (x324001_1 : Int) (x324002_1 : Int) (x324003_1 : Int), v13 = .int .i64 x13_1 ∧ Aside0 (impl_flat.l0 kq x0_1 l1_7 (l1_7.length : Int) x13_1 a1_0 x324001_1 x324002_1 x324003_1 a1_4 a1_5 a1_6 = some r) ∧ Aside0 (kq ≤ k) ∧ Aside0 (Kd.R k48 48 w' w0.heap.size (fun k_ => (P0_ k_ ∨ w.heap.size ≤ k_) ∧ k_ ≠ gb323) v0 x0_1) ∧ Aside0 (w'.heap[gb322]? = some (.cells #[.int .i64 a1_0, .int .i64 a1_1, .int .i64 a1_2, .int .i64 a1_3, .int .i64 a1_4, .string a1_5, .string a1_6, (.slice A1_7 l1_7.length c1_7)] 56 (0, 0))) ∧ Aside0 (w'.heap[gb323]? = some (.cells #[.int .i64 a1_0, .int .i64 x324001_1, .int .i64 x324002_1, .int .i64 x324003_1, .int .i64 a1_4, .string a1_5, .string a1_6] 48 (0, 0))) ∧ Aside0 (Kept w w' (fun k_ => P0_ k_)) ∧ Aside0 (Below w0.heap.size w0 w'))
 case atStart => exact ⟨(l0), (0), (a1_1), (a1_2), (a1_3), rs0, H', ⟨Nat.le_refl _⟩, ⟨by (try simp only [setCell_drewN]); refine ra0 ?_; exact Kd.R_mono (Kd.R_far (p := ⟨gb323, 6, none⟩) (Kd.R_far (p := ⟨gb323, 5, none⟩) (Kd.R_far (p := ⟨gb323, 4, none⟩) (Kd.R_far (p := ⟨gb323, 3, none⟩) (Kd.R_far (p := ⟨gb323, 2, none⟩) (Kd.R_far (p := ⟨gb323, 1, none⟩) (Kd.R_far (p := ⟨gb323, 0, none⟩) (Kd.R_mono HO0.out (fun k_ hk => (⟨hk, hk.2⟩ : _ ∧ k_ ≠ gb323))) (fun _ hk => hk.2) (.int .i64 a1_0)) (fun _ hk => hk.2) (.int .i64 a1_1)) (fun _ hk => hk.2) (.int .i64 a1_2)) (fun _ hk => hk.2) (.int .i64 a1_3)) (fun _ hk => hk.2) (.int .i64 a1_4)) (fun _ hk => hk.2) (.string a1_5)) (fun _ hk => hk.2) (.string a1_6)) (fun _ hk => ⟨hk.1.1, hk.1.2⟩)⟩, ⟨by refine bk0 ?_; refine blk_far ?_ NB322_323.out _; refine bk0 ?_; refine blk_far ?_ NB322_323.out _; refine bk0 ?_; refine blk_far ?_ NB322_323.out _; refine bk0 ?_; refine blk_far ?_ NB322_323.out _; refine bk0 ?_; refine blk_far ?_ NB322_323.out _; refine bk0 ?_; refine blk_far ?_ NB322_323.out _; refine bk0 ?_; refine blk_far ?_ NB322_323.out _; refine bk0 ?_; exact BK322.out⟩, ⟨by refine bk0 ?_; refine blk_put (cs := #[.int .i64 a1_0, .int .i64 a1_1, .int .i64 a1_2, .int .i64 a1_3, .int .i64 a1_4, .string a1_5, .string (⟨#[]⟩ : ByteArray)]) ?_ 6 _ rfl; refine bk0 ?_; refine blk_put (cs := #[.int .i64 a1_0, .int .i64 a1_1, .int .i64 a1_2, .int .i64 a1_3, .int .i64 a1_4, .string (⟨#[]⟩ : ByteArray), .string (⟨#[]⟩ : ByteArray)]) ?_ 5 _ rfl; refine bk0 ?_; refine blk_put (cs := #[.int .i64 a1_0, .int .i64 a1_1, .int .i64 a1_2, .int .i64 a1_3, .int .i64 0, .string (⟨#[]⟩ : ByteArray), .string (⟨#[]⟩ : ByteArray)]) ?_ 4 _ rfl; refine bk0 ?_; refine blk_put (cs := #[.int .i64 a1_0, .int .i64 a1_1, .int .i64 a1_2, .int .i64 0, .int .i64 0, .string (⟨#[]⟩ : ByteArray), .string (⟨#[]⟩ : ByteArray)]) ?_ 3 _ rfl; refine bk0 ?_; refine blk_put (cs := #[.int .i64 a1_0, .int .i64 a1_1, .int .i64 0, .int .i64 0, .int .i64 0, .string (⟨#[]⟩ : ByteArray), .string (⟨#[]⟩ : ByteArray)]) ?_ 2 _ rfl; refine bk0 ?_; refine blk_put (cs := #[.int .i64 a1_0, .int .i64 0, .int .i64 0, .int .i64 0, .int .i64 0, .string (⟨#[]⟩ : ByteArray), .string (⟨#[]⟩ : ByteArray)]) ?_ 1 _ rfl; refine bk0 ?_; refine blk_put (cs := #[.int .i64 0, .int .i64 0, .int .i64 0, .int .i64 0, .int .i64 0, .string (⟨#[]⟩ : ByteArray), .string (⟨#[]⟩ : ByteArray)]) ?_ 0 _ rfl; refine bk0 ?_; exact BK323.out⟩, ⟨by repeat (first | (with_reducible first | exact HK.out | apply Kept.alloc | apply Kept.drewN | apply Kept.drew | refine Kept.setCell ?_ (.inr GW322.out) _ | refine Kept.setCell ?_ (.inr GW323.out) _) | exact HK.out)⟩, ⟨bb2 GE322.out GE323.out⟩⟩
 case round =>
  clear H'
  try clear c1
  try clear p2
  try clear c3
  try clear c6
  try clear hcz4_0
  try clear hcz4_1
  try clear hcz4_2
  try clear hcz4_3
  try clear hcz4_4
  try clear hcz4_5
  try clear hcz4_6
  try clear hcz4_7
  try clear hcz7_0
  try clear hcz7_1
  try clear hcz7_2
  try clear hcz7_3
  try clear hcz7_4
  try clear hcz7_5
  try clear hcz7_6
  try clear hcz8_0
  try clear hcz8_1
  try clear hcz8_2
  try clear hcz8_3
  try clear hcz8_4
  try clear hcz8_5
  try clear hcz8_6
  try clear hcz8_7
  try clear hfz4_0
  try clear hfz4_1
  try clear hfz4_2
  try clear hfz4_3
  try clear hfz4_4
  try clear hfz4_5
  try clear hfz4_6
  try clear hfz4_7
  try clear hfz7_0
  try clear hfz7_1
  try clear hfz7_2
  try clear hfz7_3
  try clear hfz7_4
  try clear hfz7_5
  try clear hfz7_6
  try clear hfz8_0
  try clear hfz8_1
  try clear hfz8_2
  try clear hfz8_3
  try clear hfz8_4
  try clear hfz8_5
  try clear hfz8_6
  try clear hfz8_7
  obtain ⟨x0_1, x13_1, x324001_1, x324002_1, x324003_1, rfl, HA, HK1, HO_0, BK322, BK323, HK, HB⟩ := hrel
  cases gk with
  | zero => exact absurd HA.out (by simp [impl_flat.l0])
  | succ k1 =>
   have H := HA.out
   clear HA
   simp only [impl_flat.l0] at H
   by_cases c9 : x13_1 < (l1_7.length : Int)
   ·rw [if_pos c9] at H
    have c9b0 : decide (x13_1 < (l1_7.length : Int)) = true := decide_eq_true c9
    clear c9
    by_cases c10 : 0 ≤ x13_1
    ·rw [if_pos c10] at H
     have c10b0 : decide (0 ≤ x13_1) = true := decide_eq_true c10
     clear c10
     by_cases c11 : x13_1 < (l1_7.length : Int)
     ·rw [if_pos c11] at H
      have c11b0 : decide (x13_1 < (l1_7.length : Int)) = true := decide_eq_true c11
      clear c11
      replace H := Option.bind_eq_some_iff.mp H
      obtain ⟨t329, A120, H⟩ := H
      replace H : (if x13_1 = 0 then (impl_flat.l0 k1 t329 l1_7 (l1_7.length : Int) (wrap64 (x13_1 + 1)) a1_0 (wrap64 ((t329.length : Int) - 1)) x324002_1 x324003_1 a1_4 a1_5 a1_6) else (if x13_1 = 1 then (impl_flat.l0 k1 t329 l1_7 (l1_7.length : Int) (wrap64 (x13_1 + 1)) a1_0 x324001_1 (wrap64 ((t329.length : Int) - 1)) x324003_1 a1_4 a1_5 a1_6) else (if x13_1 = 2 then (impl_flat.l0 k1 t329 l1_7 (l1_7.length : Int) (wrap64 (x13_1 + 1)) a1_0 x324001_1 x324002_1 (wrap64 ((t329.length : Int) - 1)) a1_4 a1_5 a1_6) else (impl_flat.l0 k1 t329 l1_7 (l1_7.length : Int) (wrap64 (x13_1 + 1)) a1_0 x324001_1 x324002_1 x324003_1 a1_4 a1_5 a1_6)))) = some r := H
      have A12 := Aside0.mk A120
      clear A120
      by_cases c13 : x13_1 = 0
      ·rw [if_pos c13] at H
       have c13b0 : (x13_1 == 0) = true := beq_iff_eq.mpr c13
       have c13b1 : (x13_1 != 0) = false := bne_eq_false_iff_eq.mpr c13
       clear c13
       have H' := Aside0.mk H
       clear H
       have p327 : 0 ≤ (x13_1 : Int) := of_decide_eq_true as0
       have q327 : x13_1 < (l1_7.length : Int) := of_decide_eq_true as0
       obtain ⟨ad327, A327_7, c327_7, e327, hx327_0, hx327_1, hx327_2, hx327_3, hx327_4, hx327_5, hx327_6, hx327_7, hl327_7, hi327_7⟩ := at_T56 (Kd.C_kept_now HR1_7.out HK.out) x13_1 p327 q327
       cases e327
       have HR327_7 := Aside0.mk (Kd.kept_inner HR1_7.out HK.out (by first | exact p327 | exact of_eq_true p327) (by first | exact q327 | exact of_eq_true q327) (by decide) (by first | rfl | simp [add_block]) hx327_7 (fun W_ hk_ => by obtain ⟨ad2_, A7_, c7_, e2_, y0_, y1_, y2_, y3_, y4_, y5_, y6_, y7_, l7_, g7_⟩ := at_T56 (HR1_7.out W_ hk_) x13_1 (by first | exact p327 | exact of_eq_true p327) (by first | exact q327 | exact of_eq_true q327); injection e2_ with e2_; subst e2_; exact ⟨_, _, _, y7_, g7_⟩))
       have HC327_7 := Aside0.mk hl327_7
       clear hi327_7 hl327_7
       replace p327 := eq_true p327
       replace q327 := eq_true q327
       go_wp2_with (first | ((with_reducible refine gate_dst (N := 7) rfl ?_); refine box_event ?hg (N := 7) ?hd (cs := #[.int .i64 0, .int .i64 0, .int .i64 0, .int .i64 0, .int .i64 0, .string (⟨#[]⟩ : ByteArray), .string (⟨#[]⟩ : ByteArray), .slice none 0 0]) (t := 56) ?hr ?_; (case hd => rfl); (case hg => rfl); (case hr => first | (go_simp; done) | (go_simp; rfl)); intro gb328 hg w14 hbox hb; have n0_ := Aside0.mk (Kd.R_below (ra0 HO_0.out) hb); have n1_ := Aside0.mk (blk_below (g := gb322) (o := .cells #[.int .i64 a1_0, .int .i64 a1_1, .int .i64 a1_2, .int .i64 a1_3, .int .i64 a1_4, .string a1_5, .string a1_6, .slice (some ad327) l1_7.length c1_7] 56 (0, 0)) (bk0 BK322.out) hb); have n2_ := Aside0.mk (blk_below (g := gb323) (o := .cells #[.int .i64 a1_0, .int .i64 x324001_1, .int .i64 x324002_1, .int .i64 x324003_1, .int .i64 a1_4, .string a1_5, .string a1_6] 48 (0, 0)) (bk0 BK323.out) hb); have n3_ := Aside0.mk (Kept.below (S := (fun k_ => P0_ k_)) (by repeat (first | (with_reducible first | exact HK.out | apply Kept.alloc | apply Kept.drewN | apply Kept.drew | refine Kept.setCell ?_ (.inr GW322.out) _ | refine Kept.setCell ?_ (.inr GW323.out) _) | exact HK.out)) hb); have n4_ := Aside0.mk (below_step (bb2 GE322.out GE323.out) hb); have n5_ := Aside0.mk (hbox); have n6_ := Aside0.mk ((by rw [hg]; exact (by first | exact HK.out.1 | exact (show Kept w _ (fun k_ => P0_ k_) from by repeat (first | (with_reducible first | exact HK.out | apply Kept.alloc | apply Kept.drewN | apply Kept.drew | refine Kept.setCell ?_ (.inr GW322.out) _ | refine Kept.setCell ?_ (.inr GW323.out) _) | exact HK.out)).1) : w.heap.size ≤ gb328)); have n7_ := Aside0.mk ((by rw [hg]; exact (below_size (bb2 GE322.out GE323.out)) : w0.heap.size ≤ gb328)); have n8_ := Aside0.mk ((by rw [hg]; exact Nat.ne_of_lt (blk_lt (g := gb322) (o := .cells #[.int .i64 a1_0, .int .i64 a1_1, .int .i64 a1_2, .int .i64 a1_3, .int .i64 a1_4, .string a1_5, .string a1_6, .slice (some ad327) l1_7.length c1_7] 56 (0, 0)) (bk0 BK322.out)) : gb322 ≠ gb328)); have n9_ := Aside0.mk ((by rw [hg]; exact Nat.ne_of_gt (blk_lt (g := gb322) (o := .cells #[.int .i64 a1_0, .int .i64 a1_1, .int .i64 a1_2, .int .i64 a1_3, .int .i64 a1_4, .string a1_5, .string a1_6, .slice (some ad327) l1_7.length c1_7] 56 (0, 0)) (bk0 BK322.out)) : gb328 ≠ gb322)); have n10_ := Aside0.mk ((by rw [hg]; exact Nat.ne_of_lt (blk_lt (g := gb323) (o := .cells #[.int .i64 a1_0, .int .i64 x324001_1, .int .i64 x324002_1, .int .i64 x324003_1, .int .i64 a1_4, .string a1_5, .string a1_6] 48 (0, 0)) (bk0 BK323.out)) : gb323 ≠ gb328)); have n11_ := Aside0.mk ((by rw [hg]; exact Nat.ne_of_gt (blk_lt (g := gb323) (o := .cells #[.int .i64 a1_0, .int .i64 x324001_1, .int .i64 x324002_1, .int .i64 x324003_1, .int .i64 a1_4, .string a1_5, .string a1_6] 48 (0, 0)) (bk0 BK323.out)) : gb328 ≠ gb323)); clear HO_0; clear BK322; clear BK323; clear HK; clear HB; have HO_0 := n0_; have BK322 := n1_; have BK323 := n2_; have HK := n3_; have HB := n4_; have BK328 := n5_; have GW328 := n6_; have GE328 := n7_; have NB322_328 := n8_; have NB328_322 := n9_; have NB323_328 := n10_; have NB328_323 := n11_; clear n0_ n1_ n2_ n3_ n4_ n5_ n6_ n7_ n8_ n9_ n10_ n11_; clear hb hbox hg; have hnb15 := NB328_322.out; have hnc15 := NB322_328.out; have hnb16 := NB328_323.out; have hnc16 := NB323_328.out; obtain ⟨hcz17_0, hcz17_1, hcz17_2, hcz17_3, hcz17_4, hcz17_5, hcz17_6, hcz17_7⟩ := cells8 BK328.out; obtain ⟨hfz17_0, hfz17_1, hfz17_2, hfz17_3, hfz17_4, hfz17_5, hfz17_6, hfz17_7⟩ := frz8 BK328.out) | ((with_reducible refine gate_store (t := 56) (p := 7) rfl ?_); refine store_event (t := 56) (p := 7) (v := ?vo_w18) (w1 := ((((((((w14.setCell ⟨gb328, 0, none⟩ (.int .i64 ((rd_T56 l1_7 x13_1).f0.f0))).setCell ⟨gb328, 1, none⟩ (.int .i64 ((rd_T56 l1_7 x13_1).f0.f1))).setCell ⟨gb328, 2, none⟩ (.int .i64 ((rd_T56 l1_7 x13_1).f0.f2))).setCell ⟨gb328, 3, none⟩ (.int .i64 ((rd_T56 l1_7 x13_1).f0.f3))).setCell ⟨gb328, 4, none⟩ (.int .i64 ((rd_T56 l1_7 x13_1).f0.f4))).setCell ⟨gb328, 5, none⟩ (.string ((rd_T56 l1_7 x13_1).f0.f5))).setCell ⟨gb328, 6, none⟩ (.string ((rd_T56 l1_7 x13_1).f0.f6))).setCell ⟨gb328, 7, none⟩ (.slice A327_7 ((rd_T56 l1_7 x13_1).f1).length c327_7))) ?hg ?ho ?hn ?hr ?_; (case ho => rfl); (case hg => rfl); (case hn => rfl); (case hr => first | (go_simp; done) | (go_simp; rfl)); intro w18 hw; have n0_ : Aside0 (Kd.R k48 48 w18 w0.heap.size (fun k_ => (P0_ k_ ∨ w.heap.size ≤ k_) ∧ k_ ≠ gb323) u0 x0_1) := ⟨(by rw [hw]; exact (by (try simp only [setCell_drewN]); refine ra0 ?_; exact Kd.R_mono (Kd.R_far (p := ⟨gb328, 7, none⟩) (Kd.R_far (p := ⟨gb328, 6, none⟩) (Kd.R_far (p := ⟨gb328, 5, none⟩) (Kd.R_far (p := ⟨gb328, 4, none⟩) (Kd.R_far (p := ⟨gb328, 3, none⟩) (Kd.R_far (p := ⟨gb328, 2, none⟩) (Kd.R_far (p := ⟨gb328, 1, none⟩) (Kd.R_far (p := ⟨gb328, 0, none⟩) (Kd.R_types HO_0.out BK328.out (by decide)) (fun _ hk => hk.2) (.int .i64 ((rd_T56 l1_7 x13_1).f0.f0))) (fun _ hk => hk.2) (.int .i64 ((rd_T56 l1_7 x13_1).f0.f1))) (fun _ hk => hk.2) (.int .i64 ((rd_T56 l1_7 x13_1).f0.f2))) (fun _ hk => hk.2) (.int .i64 ((rd_T56 l1_7 x13_1).f0.f3))) (fun _ hk => hk.2) (.int .i64 ((rd_T56 l1_7 x13_1).f0.f4))) (fun _ hk => hk.2) (.string ((rd_T56 l1_7 x13_1).f0.f5))) (fun _ hk => hk.2) (.string ((rd_T56 l1_7 x13_1).f0.f6))) (fun _ hk => hk.2) (.slice A327_7 ((rd_T56 l1_7 x13_1).f1).length c327_7)) (fun _ hk => ⟨hk.1.1, hk.1.2⟩)))⟩; have n1_ : Aside0 (w18.heap[gb322]? = some (.cells #[.int .i64 a1_0, .int .i64 a1_1, .int .i64 a1_2, .int .i64 a1_3, .int .i64 a1_4, .string a1_5, .string a1_6, .slice (some ad327) l1_7.length c1_7] 56 (0, 0))) := ⟨(by rw [hw]; exact (by refine bk0 ?_; refine blk_far ?_ NB322_328.out _; refine bk0 ?_; refine blk_far ?_ NB322_328.out _; refine bk0 ?_; refine blk_far ?_ NB322_328.out _; refine bk0 ?_; refine blk_far ?_ NB322_328.out _; refine bk0 ?_; refine blk_far ?_ NB322_328.out _; refine bk0 ?_; refine blk_far ?_ NB322_328.out _; refine bk0 ?_; refine blk_far ?_ NB322_328.out _; refine bk0 ?_; refine blk_far ?_ NB322_328.out _; refine bk0 ?_; exact BK322.out))⟩; have n2_ : Aside0 (w18.heap[gb323]? = some (.cells #[.int .i64 a1_0, .int .i64 x324001_1, .int .i64 x324002_1, .int .i64 x324003_1, .int .i64 a1_4, .string a1_5, .string a1_6] 48 (0, 0))) := ⟨(by rw [hw]; exact (by refine bk0 ?_; refine blk_far ?_ NB323_328.out _; refine bk0 ?_; refine blk_far ?_ NB323_328.out _; refine bk0 ?_; refine blk_far ?_ NB323_328.out _; refine bk0 ?_; refine blk_far ?_ NB323_328.out _; refine bk0 ?_; refine blk_far ?_ NB323_328.out _; refine bk0 ?_; refine blk_far ?_ NB323_328.out _; refine bk0 ?_; refine blk_far ?_ NB323_328.out _; refine bk0 ?_; refine blk_far ?_ NB323_328.out _; refine bk0 ?_; exact BK323.out))⟩; have n3_ : Aside0 (w18.heap[gb328]? = some (.cells #[.int .i64 ((rd_T56 l1_7 x13_1).f0.f0), .int .i64 ((rd_T56 l1_7 x13_1).f0.f1), .int .i64 ((rd_T56 l1_7 x13_1).f0.f2), .int .i64 ((rd_T56 l1_7 x13_1).f0.f3), .int .i64 ((rd_T56 l1_7 x13_1).f0.f4), .string ((rd_T56 l1_7 x13_1).f0.f5), .string ((rd_T56 l1_7 x13_1).f0.f6), .slice A327_7 ((rd_T56 l1_7 x13_1).f1).length c327_7] 56 (0, 0))) := ⟨(by rw [hw]; exact (by refine bk0 ?_; refine blk_put (cs := #[.int .i64 ((rd_T56 l1_7 x13_1).f0.f0), .int .i64 ((rd_T56 l1_7 x13_1).f0.f1), .int .i64 ((rd_T56 l1_7 x13_1).f0.f2), .int .i64 ((rd_T56 l1_7 x13_1).f0.f3), .int .i64 ((rd_T56 l1_7 x13_1).f0.f4), .string ((rd_T56 l1_7 x13_1).f0.f5), .string ((rd_T56 l1_7 x13_1).f0.f6), .slice none 0 0]) ?_ 7 _ rfl; refine bk0 ?_; refine blk_put (cs := #[.int .i64 ((rd_T56 l1_7 x13_1).f0.f0), .int .i64 ((rd_T56 l1_7 x13_1).f0.f1), .int .i64 ((rd_T56 l1_7 x13_1).f0.f2), .int .i64 ((rd_T56 l1_7 x13_1).f0.f3), .int .i64 ((rd_T56 l1_7 x13_1).f0.f4), .string ((rd_T56 l1_7 x13_1).f0.f5), .string (⟨#[]⟩ : ByteArray), .slice none 0 0]) ?_ 6 _ rfl; refine bk0 ?_; refine blk_put (cs := #[.int .i64 ((rd_T56 l1_7 x13_1).f0.f0), .int .i64 ((rd_T56 l1_7 x13_1).f0.f1), .int .i64 ((rd_T56 l1_7 x13_1).f0.f2), .int .i64 ((rd_T56 l1_7 x13_1).f0.f3), .int .i64 ((rd_T56 l1_7 x13_1).f0.f4), .string (⟨#[]⟩ : ByteArray), .string (⟨#[]⟩ : ByteArray), .slice none 0 0]) ?_ 5 _ rfl; refine bk0 ?_; refine blk_put (cs := #[.int .i64 ((rd_T56 l1_7 x13_1).f0.f0), .int .i64 ((rd_T56 l1_7 x13_1).f0.f1), .int .i64 ((rd_T56 l1_7 x13_1).f0.f2), .int .i64 ((rd_T56 l1_7 x13_1).f0.f3), .int .i64 0, .string (⟨#[]⟩ : ByteArray), .string (⟨#[]⟩ : ByteArray), .slice none 0 0]) ?_ 4 _ rfl; refine bk0 ?_; refine blk_put (cs := #[.int .i64 ((rd_T56 l1_7 x13_1).f0.f0), .int .i64 ((rd_T56 l1_7 x13_1).f0.f1), .int .i64 ((rd_T56 l1_7 x13_1).f0.f2), .int .i64 0, .int .i64 0, .string (⟨#[]⟩ : ByteArray), .string (⟨#[]⟩ : ByteArray), .slice none 0 0]) ?_ 3 _ rfl; refine bk0 ?_; refine blk_put (cs := #[.int .i64 ((rd_T56 l1_7 x13_1).f0.f0), .int .i64 ((rd_T56 l1_7 x13_1).f0.f1), .int .i64 0, .int .i64 0, .int .i64 0, .string (⟨#[]⟩ : ByteArray), .string (⟨#[]⟩ : ByteArray), .slice none 0 0]) ?_ 2 _ rfl; refine bk0 ?_; refine blk_put (cs := #[.int .i64 ((rd_T56 l1_7 x13_1).f0.f0), .int .i64 0, .int .i64 0, .int .i64 0, .int .i64 0, .string (⟨#[]⟩ : ByteArray), .string (⟨#[]⟩ : ByteArray), .slice none 0 0]) ?_ 1 _ rfl; refine bk0 ?_; refine blk_put (cs := #[.int .i64 0, .int .i64 0, .int .i64 0, .int .i64 0, .int .i64 0, .string (⟨#[]⟩ : ByteArray), .string (⟨#[]⟩ : ByteArray), .slice none 0 0]) ?_ 0 _ rfl; refine bk0 ?_; exact BK328.out))⟩; have n4_ : Aside0 (Kept w w18 (fun k_ => P0_ k_)) := ⟨(by rw [hw]; exact (by repeat (first | (with_reducible first | exact HK.out | apply Kept.alloc | apply Kept.drewN | apply Kept.drew | refine Kept.setCell ?_ (.inr GW322.out) _ | refine Kept.setCell ?_ (.inr GW323.out) _ | refine Kept.setCell ?_ (.inr GW328.out) _) | exact HK.out)))⟩; have n5_ : Aside0 (Below w0.heap.size w0 w18) := ⟨(by rw [hw]; exact (bb3 GE322.out GE323.out GE328.out))⟩; clear hw; clear HO_0; clear BK322; clear BK323; clear BK328; clear HK; clear HB; have HO_0 := n0_; have BK322 := n1_; have BK323 := n2_; have BK328 := n3_; have HK := n4_; have HB := n5_; clear n0_ n1_ n2_ n3_ n4_ n5_; obtain ⟨hcz19_0, hcz19_1, hcz19_2, hcz19_3, hcz19_4, hcz19_5, hcz19_6, hcz19_7⟩ := cells8 BK328.out; obtain ⟨hfz19_0, hfz19_1, hfz19_2, hfz19_3, hfz19_4, hfz19_5, hfz19_6, hfz19_7⟩ := frz8 BK328.out; obtain ⟨Ao20, co20, eo20⟩ := Kd.R_slice HO_0.out; subst eo20) | ((with_reducible refine gate_callee (f := 36) rfl ?_); refine goesL_ (some 20) rfl rfl Tryd.func36 (by kernel_rfl) rfl #[.slice Ao20 x0_1.length co20, .agg #[.int .i64 ((rd_T56 l1_7 x13_1).f0.f0), .int .i64 ((rd_T56 l1_7 x13_1).f0.f1), .int .i64 ((rd_T56 l1_7 x13_1).f0.f2), .int .i64 ((rd_T56 l1_7 x13_1).f0.f3), .int .i64 ((rd_T56 l1_7 x13_1).f0.f4), .string ((rd_T56 l1_7 x13_1).f0.f5), .string ((rd_T56 l1_7 x13_1).f0.f6), .slice A327_7 ((rd_T56 l1_7 x13_1).f1).length c327_7]] rfl mm0 ?_; (with_reducible refine (ih k1 (by have := HK1.out; omega) (fun k_ => some k_ = (.slice Ao20 x0_1.length co20 : Value).ownBlock) (.slice Ao20 x0_1.length co20) x0_1 ((rd_T56 l1_7 x13_1).f0.f0) ((rd_T56 l1_7 x13_1).f0.f1) ((rd_T56 l1_7 x13_1).f0.f2) ((rd_T56 l1_7 x13_1).f0.f3) ((rd_T56 l1_7 x13_1).f0.f4) ((rd_T56 l1_7 x13_1).f0.f5) ((rd_T56 l1_7 x13_1).f0.f6) _ _ ((rd_T56 l1_7 x13_1).f1) t329 w0 _ ?side1 ?side2 ?side3 ?side4 A12.out).mono ?_); (case side1 => repeat (first | (with_reducible first | exact HB.out | apply below_alloc | apply pw_below_drewN | apply below_drew1 | refine below_set ?_ GE322.out | refine below_set ?_ GE323.out | refine below_set ?_ GE328.out) | exact HB.out)); (case side2 => exact Kd.R_tight rfl HO_0.out); (case side3 => exact Kd.C_kept_call HR327_7.out (by repeat (first | (with_reducible first | exact HK.out | apply Kept.alloc | apply Kept.drewN | apply Kept.drew | refine Kept.setCell ?_ (.inr GW322.out) _ | refine Kept.setCell ?_ (.inr GW323.out) _ | refine Kept.setCell ?_ (.inr GW328.out) _) | exact HK.out)) (fun k_ hs_ => (fun e_ => (HO_0.out.1 k_ e_.symm).1) hs_)); (case side4 => exact HC327_7.out); rintro e w21 ⟨v330, rfl, ho0, hb, hkp⟩; refine ⟨_, rfl, ?_⟩; have n0_ := Aside0.mk (blk_kept (bk0 BK322.out) hkp (fun hs_ => (fun e_ => (Kd.R_ne HO_0.out BK322.out (by decide)) e_) hs_)); have n1_ := Aside0.mk (blk_kept (bk0 BK323.out) hkp (fun hs_ => (fun e_ => (Kd.R_away HO_0.out (fun _ hk => hk.2)) e_) hs_)); have n2_ := Aside0.mk (blk_kept (bk0 BK328.out) hkp (fun hs_ => (fun e_ => (Kd.R_ne HO_0.out BK328.out (by decide)) e_) hs_)); have n3_ := Aside0.mk (Kd.R_mono (ok' := fun k_ => (P0_ k_ ∨ w.heap.size ≤ k_) ∧ k_ ≠ gb323) ho0 (fun k_ hk_ => ⟨Or.elim hk_ (fun hs_ => (HO_0.out.1 k_ (hs_).symm).1) (fun hn_ => (.inr (Nat.le_trans (by first | exact HK.out.1 | exact (show Kept w _ (fun k_ => P0_ k_) from by repeat (first | (with_reducible first | exact HK.out | apply Kept.alloc | apply Kept.drewN | apply Kept.drew | refine Kept.setCell ?_ (.inr GW322.out) _ | refine Kept.setCell ?_ (.inr GW323.out) _ | refine Kept.setCell ?_ (.inr GW328.out) _) | exact HK.out)).1) hn_))), Or.elim hk_ (fun hs_ => fun e_ => (Kd.R_away HO_0.out (fun _ hk => hk.2)) (by rw [← e_]; exact hs_)) (fun hn_ => (Kd.freshB (g := gb323) (o := .cells #[.int .i64 a1_0, .int .i64 x324001_1, .int .i64 x324002_1, .int .i64 x324003_1, .int .i64 a1_4, .string a1_5, .string a1_6] 48 (0, 0)) (bk0 BK323.out) k_ hn_))⟩)); have n4_ := Aside0.mk (Kept.then_ (S := (fun k_ => P0_ k_)) (by repeat (first | (with_reducible first | exact HK.out | apply Kept.alloc | apply Kept.drewN | apply Kept.drew | refine Kept.setCell ?_ (.inr GW322.out) _ | refine Kept.setCell ?_ (.inr GW323.out) _ | refine Kept.setCell ?_ (.inr GW328.out) _) | exact HK.out)) hkp (fun k_ hs_ => (fun e_ => (HO_0.out.1 k_ e_.symm).1) hs_)); have n5_ := Aside0.mk (hb); clear BK322; clear BK323; clear BK328; clear HK; clear HB; clear HO_0; have BK322 := n0_; have BK323 := n1_; have BK328 := n2_; have HO331 := n3_; have HK := n4_; have HB := n5_; clear n0_ n1_ n2_ n3_ n4_ n5_; (try clear hb); (try clear hkp); (try clear ho0); obtain ⟨Ao22, co22, eo22⟩ := Kd.R_slice HO331.out; subst eo22; have hnb23 := NB323_322.out; have hnc23 := NB322_323.out; obtain ⟨hcz24_0, hcz24_1, hcz24_2, hcz24_3, hcz24_4, hcz24_5, hcz24_6⟩ := cells7 BK323.out; obtain ⟨hfz24_0, hfz24_1, hfz24_2, hfz24_3, hfz24_4, hfz24_5, hfz24_6⟩ := frz7 BK323.out))
       go_roundg k1
       case measure => have := HK1.out; omega
       case rel => exact ⟨(t329), (wrap64 (x13_1 + 1)), (wrap64 ((t329.length : Int) - 1)), (x324002_1), (x324003_1), rs0, H', ⟨by have := HK1.out; omega⟩, ⟨by (try simp only [setCell_drewN]); refine ra0 ?_; exact Kd.R_mono (Kd.R_far (p := ⟨gb323, 1, none⟩) (Kd.R_mono HO331.out (fun k_ hk => (⟨hk, hk.2⟩ : _ ∧ k_ ≠ gb323))) (fun _ hk => hk.2) (.int .i64 (wrap64 ((t329.length : Int) - 1)))) (fun _ hk => ⟨hk.1.1, hk.1.2⟩)⟩, ⟨by refine bk0 ?_; refine blk_far ?_ NB322_323.out _; refine bk0 ?_; exact BK322.out⟩, ⟨by refine bk0 ?_; refine blk_put (cs := #[.int .i64 a1_0, .int .i64 x324001_1, .int .i64 x324002_1, .int .i64 x324003_1, .int .i64 a1_4, .string a1_5, .string a1_6]) ?_ 1 _ rfl; refine bk0 ?_; exact BK323.out⟩, ⟨by repeat (first | (with_reducible first | exact HK.out | apply Kept.alloc | apply Kept.drewN | apply Kept.drew | refine Kept.setCell ?_ (.inr GW322.out) _ | refine Kept.setCell ?_ (.inr GW323.out) _ | refine Kept.setCell ?_ (.inr GW328.out) _) | exact HK.out)⟩, ⟨bb3 GE322.out GE323.out GE328.out⟩⟩
      ·rw [if_neg c13] at H
       have c13b0 : (x13_1 == 0) = false := beq_eq_false_iff_ne.mpr c13
       have c13b1 : (x13_1 != 0) = true := bne_iff_ne.mpr c13
       by_cases c25 : x13_1 = 1
       ·rw [if_pos c25] at H
        have c25b0 : (x13_1 == 1) = true := beq_iff_eq.mpr c25
        have c25b1 : (x13_1 != 1) = false := bne_eq_false_iff_eq.mpr c25
        clear c25
        have H' := Aside0.mk H
        clear H
        have p327 : 0 ≤ (x13_1 : Int) := of_decide_eq_true as0
        have q327 : x13_1 < (l1_7.length : Int) := of_decide_eq_true as0
        obtain ⟨ad327, A327_7, c327_7, e327, hx327_0, hx327_1, hx327_2, hx327_3, hx327_4, hx327_5, hx327_6, hx327_7, hl327_7, hi327_7⟩ := at_T56 (Kd.C_kept_now HR1_7.out HK.out) x13_1 p327 q327
        cases e327
        have HR327_7 := Aside0.mk (Kd.kept_inner HR1_7.out HK.out (by first | exact p327 | exact of_eq_true p327) (by first | exact q327 | exact of_eq_true q327) (by decide) (by first | rfl | simp [add_block]) hx327_7 (fun W_ hk_ => by obtain ⟨ad2_, A7_, c7_, e2_, y0_, y1_, y2_, y3_, y4_, y5_, y6_, y7_, l7_, g7_⟩ := at_T56 (HR1_7.out W_ hk_) x13_1 (by first | exact p327 | exact of_eq_true p327) (by first | exact q327 | exact of_eq_true q327); injection e2_ with e2_; subst e2_; exact ⟨_, _, _, y7_, g7_⟩))
        have HC327_7 := Aside0.mk hl327_7
        clear hi327_7 hl327_7
        replace p327 := eq_true p327
        replace q327 := eq_true q327
        go_wp2_with (first | ((with_reducible refine gate_dst (N := 7) rfl ?_); refine box_event ?hg (N := 7) ?hd (cs := #[.int .i64 0, .int .i64 0, .int .i64 0, .int .i64 0, .int .i64 0, .string (⟨#[]⟩ : ByteArray), .string (⟨#[]⟩ : ByteArray), .slice none 0 0]) (t := 56) ?hr ?_; (case hd => rfl); (case hg => rfl); (case hr => first | (go_simp; done) | (go_simp; rfl)); intro gb328 hg w26 hbox hb; have n0_ := Aside0.mk (Kd.R_below (ra0 HO_0.out) hb); have n1_ := Aside0.mk (blk_below (g := gb322) (o := .cells #[.int .i64 a1_0, .int .i64 a1_1, .int .i64 a1_2, .int .i64 a1_3, .int .i64 a1_4, .string a1_5, .string a1_6, .slice (some ad327) l1_7.length c1_7] 56 (0, 0)) (bk0 BK322.out) hb); have n2_ := Aside0.mk (blk_below (g := gb323) (o := .cells #[.int .i64 a1_0, .int .i64 x324001_1, .int .i64 x324002_1, .int .i64 x324003_1, .int .i64 a1_4, .string a1_5, .string a1_6] 48 (0, 0)) (bk0 BK323.out) hb); have n3_ := Aside0.mk (Kept.below (S := (fun k_ => P0_ k_)) (by repeat (first | (with_reducible first | exact HK.out | apply Kept.alloc | apply Kept.drewN | apply Kept.drew | refine Kept.setCell ?_ (.inr GW322.out) _ | refine Kept.setCell ?_ (.inr GW323.out) _) | exact HK.out)) hb); have n4_ := Aside0.mk (below_step (bb2 GE322.out GE323.out) hb); have n5_ := Aside0.mk (hbox); have n6_ := Aside0.mk ((by rw [hg]; exact (by first | exact HK.out.1 | exact (show Kept w _ (fun k_ => P0_ k_) from by repeat (first | (with_reducible first | exact HK.out | apply Kept.alloc | apply Kept.drewN | apply Kept.drew | refine Kept.setCell ?_ (.inr GW322.out) _ | refine Kept.setCell ?_ (.inr GW323.out) _) | exact HK.out)).1) : w.heap.size ≤ gb328)); have n7_ := Aside0.mk ((by rw [hg]; exact (below_size (bb2 GE322.out GE323.out)) : w0.heap.size ≤ gb328)); have n8_ := Aside0.mk ((by rw [hg]; exact Nat.ne_of_lt (blk_lt (g := gb322) (o := .cells #[.int .i64 a1_0, .int .i64 a1_1, .int .i64 a1_2, .int .i64 a1_3, .int .i64 a1_4, .string a1_5, .string a1_6, .slice (some ad327) l1_7.length c1_7] 56 (0, 0)) (bk0 BK322.out)) : gb322 ≠ gb328)); have n9_ := Aside0.mk ((by rw [hg]; exact Nat.ne_of_gt (blk_lt (g := gb322) (o := .cells #[.int .i64 a1_0, .int .i64 a1_1, .int .i64 a1_2, .int .i64 a1_3, .int .i64 a1_4, .string a1_5, .string a1_6, .slice (some ad327) l1_7.length c1_7] 56 (0, 0)) (bk0 BK322.out)) : gb328 ≠ gb322)); have n10_ := Aside0.mk ((by rw [hg]; exact Nat.ne_of_lt (blk_lt (g := gb323) (o := .cells #[.int .i64 a1_0, .int .i64 x324001_1, .int .i64 x324002_1, .int .i64 x324003_1, .int .i64 a1_4, .string a1_5, .string a1_6] 48 (0, 0)) (bk0 BK323.out)) : gb323 ≠ gb328)); have n11_ := Aside0.mk ((by rw [hg]; exact Nat.ne_of_gt (blk_lt (g := gb323) (o := .cells #[.int .i64 a1_0, .int .i64 x324001_1, .int .i64 x324002_1, .int .i64 x324003_1, .int .i64 a1_4, .string a1_5, .string a1_6] 48 (0, 0)) (bk0 BK323.out)) : gb328 ≠ gb323)); clear HO_0; clear BK322; clear BK323; clear HK; clear HB; have HO_0 := n0_; have BK322 := n1_; have BK323 := n2_; have HK := n3_; have HB := n4_; have BK328 := n5_; have GW328 := n6_; have GE328 := n7_; have NB322_328 := n8_; have NB328_322 := n9_; have NB323_328 := n10_; have NB328_323 := n11_; clear n0_ n1_ n2_ n3_ n4_ n5_ n6_ n7_ n8_ n9_ n10_ n11_; clear hb hbox hg; have hnb27 := NB328_322.out; have hnc27 := NB322_328.out; have hnb28 := NB328_323.out; have hnc28 := NB323_328.out; obtain ⟨hcz29_0, hcz29_1, hcz29_2, hcz29_3, hcz29_4, hcz29_5, hcz29_6, hcz29_7⟩ := cells8 BK328.out; obtain ⟨hfz29_0, hfz29_1, hfz29_2, hfz29_3, hfz29_4, hfz29_5, hfz29_6, hfz29_7⟩ := frz8 BK328.out) | ((with_reducible refine gate_store (t := 56) (p := 7) rfl ?_); refine store_event (t := 56) (p := 7) (v := ?vo_w30) (w1 := ((((((((w26.setCell ⟨gb328, 0, none⟩ (.int .i64 ((rd_T56 l1_7 x13_1).f0.f0))).setCell ⟨gb328, 1, none⟩ (.int .i64 ((rd_T56 l1_7 x13_1).f0.f1))).setCell ⟨gb328, 2, none⟩ (.int .i64 ((rd_T56 l1_7 x13_1).f0.f2))).setCell ⟨gb328, 3, none⟩ (.int .i64 ((rd_T56 l1_7 x13_1).f0.f3))).setCell ⟨gb328, 4, none⟩ (.int .i64 ((rd_T56 l1_7 x13_1).f0.f4))).setCell ⟨gb328, 5, none⟩ (.string ((rd_T56 l1_7 x13_1).f0.f5))).setCell ⟨gb328, 6, none⟩ (.string ((rd_T56 l1_7 x13_1).f0.f6))).setCell ⟨gb328, 7, none⟩ (.slice A327_7 ((rd_T56 l1_7 x13_1).f1).length c327_7))) ?hg ?ho ?hn ?hr ?_; (case ho => rfl); (case hg => rfl); (case hn => rfl); (case hr => first | (go_simp; done) | (go_simp; rfl)); intro w30 hw; have n0_ : Aside0 (Kd.R k48 48 w30 w0.heap.size (fun k_ => (P0_ k_ ∨ w.heap.size ≤ k_) ∧ k_ ≠ gb323) u0 x0_1) := ⟨(by rw [hw]; exact (by (try simp only [setCell_drewN]); refine ra0 ?_; exact Kd.R_mono (Kd.R_far (p := ⟨gb328, 7, none⟩) (Kd.R_far (p := ⟨gb328, 6, none⟩) (Kd.R_far (p := ⟨gb328, 5, none⟩) (Kd.R_far (p := ⟨gb328, 4, none⟩) (Kd.R_far (p := ⟨gb328, 3, none⟩) (Kd.R_far (p := ⟨gb328, 2, none⟩) (Kd.R_far (p := ⟨gb328, 1, none⟩) (Kd.R_far (p := ⟨gb328, 0, none⟩) (Kd.R_types HO_0.out BK328.out (by decide)) (fun _ hk => hk.2) (.int .i64 ((rd_T56 l1_7 x13_1).f0.f0))) (fun _ hk => hk.2) (.int .i64 ((rd_T56 l1_7 x13_1).f0.f1))) (fun _ hk => hk.2) (.int .i64 ((rd_T56 l1_7 x13_1).f0.f2))) (fun _ hk => hk.2) (.int .i64 ((rd_T56 l1_7 x13_1).f0.f3))) (fun _ hk => hk.2) (.int .i64 ((rd_T56 l1_7 x13_1).f0.f4))) (fun _ hk => hk.2) (.string ((rd_T56 l1_7 x13_1).f0.f5))) (fun _ hk => hk.2) (.string ((rd_T56 l1_7 x13_1).f0.f6))) (fun _ hk => hk.2) (.slice A327_7 ((rd_T56 l1_7 x13_1).f1).length c327_7)) (fun _ hk => ⟨hk.1.1, hk.1.2⟩)))⟩; have n1_ : Aside0 (w30.heap[gb322]? = some (.cells #[.int .i64 a1_0, .int .i64 a1_1, .int .i64 a1_2, .int .i64 a1_3, .int .i64 a1_4, .string a1_5, .string a1_6, .slice (some ad327) l1_7.length c1_7] 56 (0, 0))) := ⟨(by rw [hw]; exact (by refine bk0 ?_; refine blk_far ?_ NB322_328.out _; refine bk0 ?_; refine blk_far ?_ NB322_328.out _; refine bk0 ?_; refine blk_far ?_ NB322_328.out _; refine bk0 ?_; refine blk_far ?_ NB322_328.out _; refine bk0 ?_; refine blk_far ?_ NB322_328.out _; refine bk0 ?_; refine blk_far ?_ NB322_328.out _; refine bk0 ?_; refine blk_far ?_ NB322_328.out _; refine bk0 ?_; refine blk_far ?_ NB322_328.out _; refine bk0 ?_; exact BK322.out))⟩; have n2_ : Aside0 (w30.heap[gb323]? = some (.cells #[.int .i64 a1_0, .int .i64 x324001_1, .int .i64 x324002_1, .int .i64 x324003_1, .int .i64 a1_4, .string a1_5, .string a1_6] 48 (0, 0))) := ⟨(by rw [hw]; exact (by refine bk0 ?_; refine blk_far ?_ NB323_328.out _; refine bk0 ?_; refine blk_far ?_ NB323_328.out _; refine bk0 ?_; refine blk_far ?_ NB323_328.out _; refine bk0 ?_; refine blk_far ?_ NB323_328.out _; refine bk0 ?_; refine blk_far ?_ NB323_328.out _; refine bk0 ?_; refine blk_far ?_ NB323_328.out _; refine bk0 ?_; refine blk_far ?_ NB323_328.out _; refine bk0 ?_; refine blk_far ?_ NB323_328.out _; refine bk0 ?_; exact BK323.out))⟩; have n3_ : Aside0 (w30.heap[gb328]? = some (.cells #[.int .i64 ((rd_T56 l1_7 x13_1).f0.f0), .int .i64 ((rd_T56 l1_7 x13_1).f0.f1), .int .i64 ((rd_T56 l1_7 x13_1).f0.f2), .int .i64 ((rd_T56 l1_7 x13_1).f0.f3), .int .i64 ((rd_T56 l1_7 x13_1).f0.f4), .string ((rd_T56 l1_7 x13_1).f0.f5), .string ((rd_T56 l1_7 x13_1).f0.f6), .slice A327_7 ((rd_T56 l1_7 x13_1).f1).length c327_7] 56 (0, 0))) := ⟨(by rw [hw]; exact (by refine bk0 ?_; refine blk_put (cs := #[.int .i64 ((rd_T56 l1_7 x13_1).f0.f0), .int .i64 ((rd_T56 l1_7 x13_1).f0.f1), .int .i64 ((rd_T56 l1_7 x13_1).f0.f2), .int .i64 ((rd_T56 l1_7 x13_1).f0.f3), .int .i64 ((rd_T56 l1_7 x13_1).f0.f4), .string ((rd_T56 l1_7 x13_1).f0.f5), .string ((rd_T56 l1_7 x13_1).f0.f6), .slice none 0 0]) ?_ 7 _ rfl; refine bk0 ?_; refine blk_put (cs := #[.int .i64 ((rd_T56 l1_7 x13_1).f0.f0), .int .i64 ((rd_T56 l1_7 x13_1).f0.f1), .int .i64 ((rd_T56 l1_7 x13_1).f0.f2), .int .i64 ((rd_T56 l1_7 x13_1).f0.f3), .int .i64 ((rd_T56 l1_7 x13_1).f0.f4), .string ((rd_T56 l1_7 x13_1).f0.f5), .string (⟨#[]⟩ : ByteArray), .slice none 0 0]) ?_ 6 _ rfl; refine bk0 ?_; refine blk_put (cs := #[.int .i64 ((rd_T56 l1_7 x13_1).f0.f0), .int .i64 ((rd_T56 l1_7 x13_1).f0.f1), .int .i64 ((rd_T56 l1_7 x13_1).f0.f2), .int .i64 ((rd_T56 l1_7 x13_1).f0.f3), .int .i64 ((rd_T56 l1_7 x13_1).f0.f4), .string (⟨#[]⟩ : ByteArray), .string (⟨#[]⟩ : ByteArray), .slice none 0 0]) ?_ 5 _ rfl; refine bk0 ?_; refine blk_put (cs := #[.int .i64 ((rd_T56 l1_7 x13_1).f0.f0), .int .i64 ((rd_T56 l1_7 x13_1).f0.f1), .int .i64 ((rd_T56 l1_7 x13_1).f0.f2), .int .i64 ((rd_T56 l1_7 x13_1).f0.f3), .int .i64 0, .string (⟨#[]⟩ : ByteArray), .string (⟨#[]⟩ : ByteArray), .slice none 0 0]) ?_ 4 _ rfl; refine bk0 ?_; refine blk_put (cs := #[.int .i64 ((rd_T56 l1_7 x13_1).f0.f0), .int .i64 ((rd_T56 l1_7 x13_1).f0.f1), .int .i64 ((rd_T56 l1_7 x13_1).f0.f2), .int .i64 0, .int .i64 0, .string (⟨#[]⟩ : ByteArray), .string (⟨#[]⟩ : ByteArray), .slice none 0 0]) ?_ 3 _ rfl; refine bk0 ?_; refine blk_put (cs := #[.int .i64 ((rd_T56 l1_7 x13_1).f0.f0), .int .i64 ((rd_T56 l1_7 x13_1).f0.f1), .int .i64 0, .int .i64 0, .int .i64 0, .string (⟨#[]⟩ : ByteArray), .string (⟨#[]⟩ : ByteArray), .slice none 0 0]) ?_ 2 _ rfl; refine bk0 ?_; refine blk_put (cs := #[.int .i64 ((rd_T56 l1_7 x13_1).f0.f0), .int .i64 0, .int .i64 0, .int .i64 0, .int .i64 0, .string (⟨#[]⟩ : ByteArray), .string (⟨#[]⟩ : ByteArray), .slice none 0 0]) ?_ 1 _ rfl; refine bk0 ?_; refine blk_put (cs := #[.int .i64 0, .int .i64 0, .int .i64 0, .int .i64 0, .int .i64 0, .string (⟨#[]⟩ : ByteArray), .string (⟨#[]⟩ : ByteArray), .slice none 0 0]) ?_ 0 _ rfl; refine bk0 ?_; exact BK328.out))⟩; have n4_ : Aside0 (Kept w w30 (fun k_ => P0_ k_)) := ⟨(by rw [hw]; exact (by repeat (first | (with_reducible first | exact HK.out | apply Kept.alloc | apply Kept.drewN | apply Kept.drew | refine Kept.setCell ?_ (.inr GW322.out) _ | refine Kept.setCell ?_ (.inr GW323.out) _ | refine Kept.setCell ?_ (.inr GW328.out) _) | exact HK.out)))⟩; have n5_ : Aside0 (Below w0.heap.size w0 w30) := ⟨(by rw [hw]; exact (bb3 GE322.out GE323.out GE328.out))⟩; clear hw; clear HO_0; clear BK322; clear BK323; clear BK328; clear HK; clear HB; have HO_0 := n0_; have BK322 := n1_; have BK323 := n2_; have BK328 := n3_; have HK := n4_; have HB := n5_; clear n0_ n1_ n2_ n3_ n4_ n5_; obtain ⟨hcz31_0, hcz31_1, hcz31_2, hcz31_3, hcz31_4, hcz31_5, hcz31_6, hcz31_7⟩ := cells8 BK328.out; obtain ⟨hfz31_0, hfz31_1, hfz31_2, hfz31_3, hfz31_4, hfz31_5, hfz31_6, hfz31_7⟩ := frz8 BK328.out; obtain ⟨Ao32, co32, eo32⟩ := Kd.R_slice HO_0.out; subst eo32) | ((with_reducible refine gate_callee (f := 36) rfl ?_); refine goesL_ (some 20) rfl rfl Tryd.func36 (by kernel_rfl) rfl #[.slice Ao32 x0_1.length co32, .agg #[.int .i64 ((rd_T56 l1_7 x13_1).f0.f0), .int .i64 ((rd_T56 l1_7 x13_1).f0.f1), .int .i64 ((rd_T56 l1_7 x13_1).f0.f2), .int .i64 ((rd_T56 l1_7 x13_1).f0.f3), .int .i64 ((rd_T56 l1_7 x13_1).f0.f4), .string ((rd_T56 l1_7 x13_1).f0.f5), .string ((rd_T56 l1_7 x13_1).f0.f6), .slice A327_7 ((rd_T56 l1_7 x13_1).f1).length c327_7]] rfl mm0 ?_; (with_reducible refine (ih k1 (by have := HK1.out; omega) (fun k_ => some k_ = (.slice Ao32 x0_1.length co32 : Value).ownBlock) (.slice Ao32 x0_1.length co32) x0_1 ((rd_T56 l1_7 x13_1).f0.f0) ((rd_T56 l1_7 x13_1).f0.f1) ((rd_T56 l1_7 x13_1).f0.f2) ((rd_T56 l1_7 x13_1).f0.f3) ((rd_T56 l1_7 x13_1).f0.f4) ((rd_T56 l1_7 x13_1).f0.f5) ((rd_T56 l1_7 x13_1).f0.f6) _ _ ((rd_T56 l1_7 x13_1).f1) t329 w0 _ ?side1 ?side2 ?side3 ?side4 A12.out).mono ?_); (case side1 => repeat (first | (with_reducible first | exact HB.out | apply below_alloc | apply pw_below_drewN | apply below_drew1 | refine below_set ?_ GE322.out | refine below_set ?_ GE323.out | refine below_set ?_ GE328.out) | exact HB.out)); (case side2 => exact Kd.R_tight rfl HO_0.out); (case side3 => exact Kd.C_kept_call HR327_7.out (by repeat (first | (with_reducible first | exact HK.out | apply Kept.alloc | apply Kept.drewN | apply Kept.drew | refine Kept.setCell ?_ (.inr GW322.out) _ | refine Kept.setCell ?_ (.inr GW323.out) _ | refine Kept.setCell ?_ (.inr GW328.out) _) | exact HK.out)) (fun k_ hs_ => (fun e_ => (HO_0.out.1 k_ e_.symm).1) hs_)); (case side4 => exact HC327_7.out); rintro e w33 ⟨v330, rfl, ho0, hb, hkp⟩; refine ⟨_, rfl, ?_⟩; have n0_ := Aside0.mk (blk_kept (bk0 BK322.out) hkp (fun hs_ => (fun e_ => (Kd.R_ne HO_0.out BK322.out (by decide)) e_) hs_)); have n1_ := Aside0.mk (blk_kept (bk0 BK323.out) hkp (fun hs_ => (fun e_ => (Kd.R_away HO_0.out (fun _ hk => hk.2)) e_) hs_)); have n2_ := Aside0.mk (blk_kept (bk0 BK328.out) hkp (fun hs_ => (fun e_ => (Kd.R_ne HO_0.out BK328.out (by decide)) e_) hs_)); have n3_ := Aside0.mk (Kd.R_mono (ok' := fun k_ => (P0_ k_ ∨ w.heap.size ≤ k_) ∧ k_ ≠ gb323) ho0 (fun k_ hk_ => ⟨Or.elim hk_ (fun hs_ => (HO_0.out.1 k_ (hs_).symm).1) (fun hn_ => (.inr (Nat.le_trans (by first | exact HK.out.1 | exact (show Kept w _ (fun k_ => P0_ k_) from by repeat (first | (with_reducible first | exact HK.out | apply Kept.alloc | apply Kept.drewN | apply Kept.drew | refine Kept.setCell ?_ (.inr GW322.out) _ | refine Kept.setCell ?_ (.inr GW323.out) _ | refine Kept.setCell ?_ (.inr GW328.out) _) | exact HK.out)).1) hn_))), Or.elim hk_ (fun hs_ => fun e_ => (Kd.R_away HO_0.out (fun _ hk => hk.2)) (by rw [← e_]; exact hs_)) (fun hn_ => (Kd.freshB (g := gb323) (o := .cells #[.int .i64 a1_0, .int .i64 x324001_1, .int .i64 x324002_1, .int .i64 x324003_1, .int .i64 a1_4, .string a1_5, .string a1_6] 48 (0, 0)) (bk0 BK323.out) k_ hn_))⟩)); have n4_ := Aside0.mk (Kept.then_ (S := (fun k_ => P0_ k_)) (by repeat (first | (with_reducible first | exact HK.out | apply Kept.alloc | apply Kept.drewN | apply Kept.drew | refine Kept.setCell ?_ (.inr GW322.out) _ | refine Kept.setCell ?_ (.inr GW323.out) _ | refine Kept.setCell ?_ (.inr GW328.out) _) | exact HK.out)) hkp (fun k_ hs_ => (fun e_ => (HO_0.out.1 k_ e_.symm).1) hs_)); have n5_ := Aside0.mk (hb); clear BK322; clear BK323; clear BK328; clear HK; clear HB; clear HO_0; have BK322 := n0_; have BK323 := n1_; have BK328 := n2_; have HO331 := n3_; have HK := n4_; have HB := n5_; clear n0_ n1_ n2_ n3_ n4_ n5_; (try clear hb); (try clear hkp); (try clear ho0); obtain ⟨Ao34, co34, eo34⟩ := Kd.R_slice HO331.out; subst eo34; have hnb35 := NB323_322.out; have hnc35 := NB322_323.out; obtain ⟨hcz36_0, hcz36_1, hcz36_2, hcz36_3, hcz36_4, hcz36_5, hcz36_6⟩ := cells7 BK323.out; obtain ⟨hfz36_0, hfz36_1, hfz36_2, hfz36_3, hfz36_4, hfz36_5, hfz36_6⟩ := frz7 BK323.out))
        go_roundg k1
        case measure => have := HK1.out; omega
        case rel => exact ⟨(t329), (wrap64 (x13_1 + 1)), (x324001_1), (wrap64 ((t329.length : Int) - 1)), (x324003_1), rs0, H', ⟨by have := HK1.out; omega⟩, ⟨by (try simp only [setCell_drewN]); refine ra0 ?_; exact Kd.R_mono (Kd.R_far (p := ⟨gb323, 2, none⟩) (Kd.R_mono HO331.out (fun k_ hk => (⟨hk, hk.2⟩ : _ ∧ k_ ≠ gb323))) (fun _ hk => hk.2) (.int .i64 (wrap64 ((t329.length : Int) - 1)))) (fun _ hk => ⟨hk.1.1, hk.1.2⟩)⟩, ⟨by refine bk0 ?_; refine blk_far ?_ NB322_323.out _; refine bk0 ?_; exact BK322.out⟩, ⟨by refine bk0 ?_; refine blk_put (cs := #[.int .i64 a1_0, .int .i64 x324001_1, .int .i64 x324002_1, .int .i64 x324003_1, .int .i64 a1_4, .string a1_5, .string a1_6]) ?_ 2 _ rfl; refine bk0 ?_; exact BK323.out⟩, ⟨by repeat (first | (with_reducible first | exact HK.out | apply Kept.alloc | apply Kept.drewN | apply Kept.drew | refine Kept.setCell ?_ (.inr GW322.out) _ | refine Kept.setCell ?_ (.inr GW323.out) _ | refine Kept.setCell ?_ (.inr GW328.out) _) | exact HK.out)⟩, ⟨bb3 GE322.out GE323.out GE328.out⟩⟩
       ·rw [if_neg c25] at H
        have c25b0 : (x13_1 == 1) = false := beq_eq_false_iff_ne.mpr c25
        have c25b1 : (x13_1 != 1) = true := bne_iff_ne.mpr c25
        by_cases c37 : x13_1 = 2
        ·rw [if_pos c37] at H
         have c37b0 : (x13_1 == 2) = true := beq_iff_eq.mpr c37
         have c37b1 : (x13_1 != 2) = false := bne_eq_false_iff_eq.mpr c37
         clear c37
         have H' := Aside0.mk H
         clear H
         have p327 : 0 ≤ (x13_1 : Int) := of_decide_eq_true as0
         have q327 : x13_1 < (l1_7.length : Int) := of_decide_eq_true as0
         obtain ⟨ad327, A327_7, c327_7, e327, hx327_0, hx327_1, hx327_2, hx327_3, hx327_4, hx327_5, hx327_6, hx327_7, hl327_7, hi327_7⟩ := at_T56 (Kd.C_kept_now HR1_7.out HK.out) x13_1 p327 q327
         cases e327
         have HR327_7 := Aside0.mk (Kd.kept_inner HR1_7.out HK.out (by first | exact p327 | exact of_eq_true p327) (by first | exact q327 | exact of_eq_true q327) (by decide) (by first | rfl | simp [add_block]) hx327_7 (fun W_ hk_ => by obtain ⟨ad2_, A7_, c7_, e2_, y0_, y1_, y2_, y3_, y4_, y5_, y6_, y7_, l7_, g7_⟩ := at_T56 (HR1_7.out W_ hk_) x13_1 (by first | exact p327 | exact of_eq_true p327) (by first | exact q327 | exact of_eq_true q327); injection e2_ with e2_; subst e2_; exact ⟨_, _, _, y7_, g7_⟩))
         have HC327_7 := Aside0.mk hl327_7
         clear hi327_7 hl327_7
         replace p327 := eq_true p327
         replace q327 := eq_true q327
         go_wp2_with (first | ((with_reducible refine gate_dst (N := 7) rfl ?_); refine box_event ?hg (N := 7) ?hd (cs := #[.int .i64 0, .int .i64 0, .int .i64 0, .int .i64 0, .int .i64 0, .string (⟨#[]⟩ : ByteArray), .string (⟨#[]⟩ : ByteArray), .slice none 0 0]) (t := 56) ?hr ?_; (case hd => rfl); (case hg => rfl); (case hr => first | (go_simp; done) | (go_simp; rfl)); intro gb328 hg w38 hbox hb; have n0_ := Aside0.mk (Kd.R_below (ra0 HO_0.out) hb); have n1_ := Aside0.mk (blk_below (g := gb322) (o := .cells #[.int .i64 a1_0, .int .i64 a1_1, .int .i64 a1_2, .int .i64 a1_3, .int .i64 a1_4, .string a1_5, .string a1_6, .slice (some ad327) l1_7.length c1_7] 56 (0, 0)) (bk0 BK322.out) hb); have n2_ := Aside0.mk (blk_below (g := gb323) (o := .cells #[.int .i64 a1_0, .int .i64 x324001_1, .int .i64 x324002_1, .int .i64 x324003_1, .int .i64 a1_4, .string a1_5, .string a1_6] 48 (0, 0)) (bk0 BK323.out) hb); have n3_ := Aside0.mk (Kept.below (S := (fun k_ => P0_ k_)) (by repeat (first | (with_reducible first | exact HK.out | apply Kept.alloc | apply Kept.drewN | apply Kept.drew | refine Kept.setCell ?_ (.inr GW322.out) _ | refine Kept.setCell ?_ (.inr GW323.out) _) | exact HK.out)) hb); have n4_ := Aside0.mk (below_step (bb2 GE322.out GE323.out) hb); have n5_ := Aside0.mk (hbox); have n6_ := Aside0.mk ((by rw [hg]; exact (by first | exact HK.out.1 | exact (show Kept w _ (fun k_ => P0_ k_) from by repeat (first | (with_reducible first | exact HK.out | apply Kept.alloc | apply Kept.drewN | apply Kept.drew | refine Kept.setCell ?_ (.inr GW322.out) _ | refine Kept.setCell ?_ (.inr GW323.out) _) | exact HK.out)).1) : w.heap.size ≤ gb328)); have n7_ := Aside0.mk ((by rw [hg]; exact (below_size (bb2 GE322.out GE323.out)) : w0.heap.size ≤ gb328)); have n8_ := Aside0.mk ((by rw [hg]; exact Nat.ne_of_lt (blk_lt (g := gb322) (o := .cells #[.int .i64 a1_0, .int .i64 a1_1, .int .i64 a1_2, .int .i64 a1_3, .int .i64 a1_4, .string a1_5, .string a1_6, .slice (some ad327) l1_7.length c1_7] 56 (0, 0)) (bk0 BK322.out)) : gb322 ≠ gb328)); have n9_ := Aside0.mk ((by rw [hg]; exact Nat.ne_of_gt (blk_lt (g := gb322) (o := .cells #[.int .i64 a1_0, .int .i64 a1_1, .int .i64 a1_2, .int .i64 a1_3, .int .i64 a1_4, .string a1_5, .string a1_6, .slice (some ad327) l1_7.length c1_7] 56 (0, 0)) (bk0 BK322.out)) : gb328 ≠ gb322)); have n10_ := Aside0.mk ((by rw [hg]; exact Nat.ne_of_lt (blk_lt (g := gb323) (o := .cells #[.int .i64 a1_0, .int .i64 x324001_1, .int .i64 x324002_1, .int .i64 x324003_1, .int .i64 a1_4, .string a1_5, .string a1_6] 48 (0, 0)) (bk0 BK323.out)) : gb323 ≠ gb328)); have n11_ := Aside0.mk ((by rw [hg]; exact Nat.ne_of_gt (blk_lt (g := gb323) (o := .cells #[.int .i64 a1_0, .int .i64 x324001_1, .int .i64 x324002_1, .int .i64 x324003_1, .int .i64 a1_4, .string a1_5, .string a1_6] 48 (0, 0)) (bk0 BK323.out)) : gb328 ≠ gb323)); clear HO_0; clear BK322; clear BK323; clear HK; clear HB; have HO_0 := n0_; have BK322 := n1_; have BK323 := n2_; have HK := n3_; have HB := n4_; have BK328 := n5_; have GW328 := n6_; have GE328 := n7_; have NB322_328 := n8_; have NB328_322 := n9_; have NB323_328 := n10_; have NB328_323 := n11_; clear n0_ n1_ n2_ n3_ n4_ n5_ n6_ n7_ n8_ n9_ n10_ n11_; clear hb hbox hg; have hnb39 := NB328_322.out; have hnc39 := NB322_328.out; have hnb40 := NB328_323.out; have hnc40 := NB323_328.out; obtain ⟨hcz41_0, hcz41_1, hcz41_2, hcz41_3, hcz41_4, hcz41_5, hcz41_6, hcz41_7⟩ := cells8 BK328.out; obtain ⟨hfz41_0, hfz41_1, hfz41_2, hfz41_3, hfz41_4, hfz41_5, hfz41_6, hfz41_7⟩ := frz8 BK328.out) | ((with_reducible refine gate_store (t := 56) (p := 7) rfl ?_); refine store_event (t := 56) (p := 7) (v := ?vo_w42) (w1 := ((((((((w38.setCell ⟨gb328, 0, none⟩ (.int .i64 ((rd_T56 l1_7 x13_1).f0.f0))).setCell ⟨gb328, 1, none⟩ (.int .i64 ((rd_T56 l1_7 x13_1).f0.f1))).setCell ⟨gb328, 2, none⟩ (.int .i64 ((rd_T56 l1_7 x13_1).f0.f2))).setCell ⟨gb328, 3, none⟩ (.int .i64 ((rd_T56 l1_7 x13_1).f0.f3))).setCell ⟨gb328, 4, none⟩ (.int .i64 ((rd_T56 l1_7 x13_1).f0.f4))).setCell ⟨gb328, 5, none⟩ (.string ((rd_T56 l1_7 x13_1).f0.f5))).setCell ⟨gb328, 6, none⟩ (.string ((rd_T56 l1_7 x13_1).f0.f6))).setCell ⟨gb328, 7, none⟩ (.slice A327_7 ((rd_T56 l1_7 x13_1).f1).length c327_7))) ?hg ?ho ?hn ?hr ?_; (case ho => rfl); (case hg => rfl); (case hn => rfl); (case hr => first | (go_simp; done) | (go_simp; rfl)); intro w42 hw; have n0_ : Aside0 (Kd.R k48 48 w42 w0.heap.size (fun k_ => (P0_ k_ ∨ w.heap.size ≤ k_) ∧ k_ ≠ gb323) u0 x0_1) := ⟨(by rw [hw]; exact (by (try simp only [setCell_drewN]); refine ra0 ?_; exact Kd.R_mono (Kd.R_far (p := ⟨gb328, 7, none⟩) (Kd.R_far (p := ⟨gb328, 6, none⟩) (Kd.R_far (p := ⟨gb328, 5, none⟩) (Kd.R_far (p := ⟨gb328, 4, none⟩) (Kd.R_far (p := ⟨gb328, 3, none⟩) (Kd.R_far (p := ⟨gb328, 2, none⟩) (Kd.R_far (p := ⟨gb328, 1, none⟩) (Kd.R_far (p := ⟨gb328, 0, none⟩) (Kd.R_types HO_0.out BK328.out (by decide)) (fun _ hk => hk.2) (.int .i64 ((rd_T56 l1_7 x13_1).f0.f0))) (fun _ hk => hk.2) (.int .i64 ((rd_T56 l1_7 x13_1).f0.f1))) (fun _ hk => hk.2) (.int .i64 ((rd_T56 l1_7 x13_1).f0.f2))) (fun _ hk => hk.2) (.int .i64 ((rd_T56 l1_7 x13_1).f0.f3))) (fun _ hk => hk.2) (.int .i64 ((rd_T56 l1_7 x13_1).f0.f4))) (fun _ hk => hk.2) (.string ((rd_T56 l1_7 x13_1).f0.f5))) (fun _ hk => hk.2) (.string ((rd_T56 l1_7 x13_1).f0.f6))) (fun _ hk => hk.2) (.slice A327_7 ((rd_T56 l1_7 x13_1).f1).length c327_7)) (fun _ hk => ⟨hk.1.1, hk.1.2⟩)))⟩; have n1_ : Aside0 (w42.heap[gb322]? = some (.cells #[.int .i64 a1_0, .int .i64 a1_1, .int .i64 a1_2, .int .i64 a1_3, .int .i64 a1_4, .string a1_5, .string a1_6, .slice (some ad327) l1_7.length c1_7] 56 (0, 0))) := ⟨(by rw [hw]; exact (by refine bk0 ?_; refine blk_far ?_ NB322_328.out _; refine bk0 ?_; refine blk_far ?_ NB322_328.out _; refine bk0 ?_; refine blk_far ?_ NB322_328.out _; refine bk0 ?_; refine blk_far ?_ NB322_328.out _; refine bk0 ?_; refine blk_far ?_ NB322_328.out _; refine bk0 ?_; refine blk_far ?_ NB322_328.out _; refine bk0 ?_; refine blk_far ?_ NB322_328.out _; refine bk0 ?_; refine blk_far ?_ NB322_328.out _; refine bk0 ?_; exact BK322.out))⟩; have n2_ : Aside0 (w42.heap[gb323]? = some (.cells #[.int .i64 a1_0, .int .i64 x324001_1, .int .i64 x324002_1, .int .i64 x324003_1, .int .i64 a1_4, .string a1_5, .string a1_6] 48 (0, 0))) := ⟨(by rw [hw]; exact (by refine bk0 ?_; refine blk_far ?_ NB323_328.out _; refine bk0 ?_; refine blk_far ?_ NB323_328.out _; refine bk0 ?_; refine blk_far ?_ NB323_328.out _; refine bk0 ?_; refine blk_far ?_ NB323_328.out _; refine bk0 ?_; refine blk_far ?_ NB323_328.out _; refine bk0 ?_; refine blk_far ?_ NB323_328.out _; refine bk0 ?_; refine blk_far ?_ NB323_328.out _; refine bk0 ?_; refine blk_far ?_ NB323_328.out _; refine bk0 ?_; exact BK323.out))⟩; have n3_ : Aside0 (w42.heap[gb328]? = some (.cells #[.int .i64 ((rd_T56 l1_7 x13_1).f0.f0), .int .i64 ((rd_T56 l1_7 x13_1).f0.f1), .int .i64 ((rd_T56 l1_7 x13_1).f0.f2), .int .i64 ((rd_T56 l1_7 x13_1).f0.f3), .int .i64 ((rd_T56 l1_7 x13_1).f0.f4), .string ((rd_T56 l1_7 x13_1).f0.f5), .string ((rd_T56 l1_7 x13_1).f0.f6), .slice A327_7 ((rd_T56 l1_7 x13_1).f1).length c327_7] 56 (0, 0))) := ⟨(by rw [hw]; exact (by refine bk0 ?_; refine blk_put (cs := #[.int .i64 ((rd_T56 l1_7 x13_1).f0.f0), .int .i64 ((rd_T56 l1_7 x13_1).f0.f1), .int .i64 ((rd_T56 l1_7 x13_1).f0.f2), .int .i64 ((rd_T56 l1_7 x13_1).f0.f3), .int .i64 ((rd_T56 l1_7 x13_1).f0.f4), .string ((rd_T56 l1_7 x13_1).f0.f5), .string ((rd_T56 l1_7 x13_1).f0.f6), .slice none 0 0]) ?_ 7 _ rfl; refine bk0 ?_; refine blk_put (cs := #[.int .i64 ((rd_T56 l1_7 x13_1).f0.f0), .int .i64 ((rd_T56 l1_7 x13_1).f0.f1), .int .i64 ((rd_T56 l1_7 x13_1).f0.f2), .int .i64 ((rd_T56 l1_7 x13_1).f0.f3), .int .i64 ((rd_T56 l1_7 x13_1).f0.f4), .string ((rd_T56 l1_7 x13_1).f0.f5), .string (⟨#[]⟩ : ByteArray), .slice none 0 0]) ?_ 6 _ rfl; refine bk0 ?_; refine blk_put (cs := #[.int .i64 ((rd_T56 l1_7 x13_1).f0.f0), .int .i64 ((rd_T56 l1_7 x13_1).f0.f1), .int .i64 ((rd_T56 l1_7 x13_1).f0.f2), .int .i64 ((rd_T56 l1_7 x13_1).f0.f3), .int .i64 ((rd_T56 l1_7 x13_1).f0.f4), .string (⟨#[]⟩ : ByteArray), .string (⟨#[]⟩ : ByteArray), .slice none 0 0]) ?_ 5 _ rfl; refine bk0 ?_; refine blk_put (cs := #[.int .i64 ((rd_T56 l1_7 x13_1).f0.f0), .int .i64 ((rd_T56 l1_7 x13_1).f0.f1), .int .i64 ((rd_T56 l1_7 x13_1).f0.f2), .int .i64 ((rd_T56 l1_7 x13_1).f0.f3), .int .i64 0, .string (⟨#[]⟩ : ByteArray), .string (⟨#[]⟩ : ByteArray), .slice none 0 0]) ?_ 4 _ rfl; refine bk0 ?_; refine blk_put (cs := #[.int .i64 ((rd_T56 l1_7 x13_1).f0.f0), .int .i64 ((rd_T56 l1_7 x13_1).f0.f1), .int .i64 ((rd_T56 l1_7 x13_1).f0.f2), .int .i64 0, .int .i64 0, .string (⟨#[]⟩ : ByteArray), .string (⟨#[]⟩ : ByteArray), .slice none 0 0]) ?_ 3 _ rfl; refine bk0 ?_; refine blk_put (cs := #[.int .i64 ((rd_T56 l1_7 x13_1).f0.f0), .int .i64 ((rd_T56 l1_7 x13_1).f0.f1), .int .i64 0, .int .i64 0, .int .i64 0, .string (⟨#[]⟩ : ByteArray), .string (⟨#[]⟩ : ByteArray), .slice none 0 0]) ?_ 2 _ rfl; refine bk0 ?_; refine blk_put (cs := #[.int .i64 ((rd_T56 l1_7 x13_1).f0.f0), .int .i64 0, .int .i64 0, .int .i64 0, .int .i64 0, .string (⟨#[]⟩ : ByteArray), .string (⟨#[]⟩ : ByteArray), .slice none 0 0]) ?_ 1 _ rfl; refine bk0 ?_; refine blk_put (cs := #[.int .i64 0, .int .i64 0, .int .i64 0, .int .i64 0, .int .i64 0, .string (⟨#[]⟩ : ByteArray), .string (⟨#[]⟩ : ByteArray), .slice none 0 0]) ?_ 0 _ rfl; refine bk0 ?_; exact BK328.out))⟩; have n4_ : Aside0 (Kept w w42 (fun k_ => P0_ k_)) := ⟨(by rw [hw]; exact (by repeat (first | (with_reducible first | exact HK.out | apply Kept.alloc | apply Kept.drewN | apply Kept.drew | refine Kept.setCell ?_ (.inr GW322.out) _ | refine Kept.setCell ?_ (.inr GW323.out) _ | refine Kept.setCell ?_ (.inr GW328.out) _) | exact HK.out)))⟩; have n5_ : Aside0 (Below w0.heap.size w0 w42) := ⟨(by rw [hw]; exact (bb3 GE322.out GE323.out GE328.out))⟩; clear hw; clear HO_0; clear BK322; clear BK323; clear BK328; clear HK; clear HB; have HO_0 := n0_; have BK322 := n1_; have BK323 := n2_; have BK328 := n3_; have HK := n4_; have HB := n5_; clear n0_ n1_ n2_ n3_ n4_ n5_; obtain ⟨hcz43_0, hcz43_1, hcz43_2, hcz43_3, hcz43_4, hcz43_5, hcz43_6, hcz43_7⟩ := cells8 BK328.out; obtain ⟨hfz43_0, hfz43_1, hfz43_2, hfz43_3, hfz43_4, hfz43_5, hfz43_6, hfz43_7⟩ := frz8 BK328.out; obtain ⟨Ao44, co44, eo44⟩ := Kd.R_slice HO_0.out; subst eo44) | ((with_reducible refine gate_callee (f := 36) rfl ?_); refine goesL_ (some 20) rfl rfl Tryd.func36 (by kernel_rfl) rfl #[.slice Ao44 x0_1.length co44, .agg #[.int .i64 ((rd_T56 l1_7 x13_1).f0.f0), .int .i64 ((rd_T56 l1_7 x13_1).f0.f1), .int .i64 ((rd_T56 l1_7 x13_1).f0.f2), .int .i64 ((rd_T56 l1_7 x13_1).f0.f3), .int .i64 ((rd_T56 l1_7 x13_1).f0.f4), .string ((rd_T56 l1_7 x13_1).f0.f5), .string ((rd_T56 l1_7 x13_1).f0.f6), .slice A327_7 ((rd_T56 l1_7 x13_1).f1).length c327_7]] rfl mm0 ?_; (with_reducible refine (ih k1 (by have := HK1.out; omega) (fun k_ => some k_ = (.slice Ao44 x0_1.length co44 : Value).ownBlock) (.slice Ao44 x0_1.length co44) x0_1 ((rd_T56 l1_7 x13_1).f0.f0) ((rd_T56 l1_7 x13_1).f0.f1) ((rd_T56 l1_7 x13_1).f0.f2) ((rd_T56 l1_7 x13_1).f0.f3) ((rd_T56 l1_7 x13_1).f0.f4) ((rd_T56 l1_7 x13_1).f0.f5) ((rd_T56 l1_7 x13_1).f0.f6) _ _ ((rd_T56 l1_7 x13_1).f1) t329 w0 _ ?side1 ?side2 ?side3 ?side4 A12.out).mono ?_); (case side1 => repeat (first | (with_reducible first | exact HB.out | apply below_alloc | apply pw_below_drewN | apply below_drew1 | refine below_set ?_ GE322.out | refine below_set ?_ GE323.out | refine below_set ?_ GE328.out) | exact HB.out)); (case side2 => exact Kd.R_tight rfl HO_0.out); (case side3 => exact Kd.C_kept_call HR327_7.out (by repeat (first | (with_reducible first | exact HK.out | apply Kept.alloc | apply Kept.drewN | apply Kept.drew | refine Kept.setCell ?_ (.inr GW322.out) _ | refine Kept.setCell ?_ (.inr GW323.out) _ | refine Kept.setCell ?_ (.inr GW328.out) _) | exact HK.out)) (fun k_ hs_ => (fun e_ => (HO_0.out.1 k_ e_.symm).1) hs_)); (case side4 => exact HC327_7.out); rintro e w45 ⟨v330, rfl, ho0, hb, hkp⟩; refine ⟨_, rfl, ?_⟩; have n0_ := Aside0.mk (blk_kept (bk0 BK322.out) hkp (fun hs_ => (fun e_ => (Kd.R_ne HO_0.out BK322.out (by decide)) e_) hs_)); have n1_ := Aside0.mk (blk_kept (bk0 BK323.out) hkp (fun hs_ => (fun e_ => (Kd.R_away HO_0.out (fun _ hk => hk.2)) e_) hs_)); have n2_ := Aside0.mk (blk_kept (bk0 BK328.out) hkp (fun hs_ => (fun e_ => (Kd.R_ne HO_0.out BK328.out (by decide)) e_) hs_)); have n3_ := Aside0.mk (Kd.R_mono (ok' := fun k_ => (P0_ k_ ∨ w.heap.size ≤ k_) ∧ k_ ≠ gb323) ho0 (fun k_ hk_ => ⟨Or.elim hk_ (fun hs_ => (HO_0.out.1 k_ (hs_).symm).1) (fun hn_ => (.inr (Nat.le_trans (by first | exact HK.out.1 | exact (show Kept w _ (fun k_ => P0_ k_) from by repeat (first | (with_reducible first | exact HK.out | apply Kept.alloc | apply Kept.drewN | apply Kept.drew | refine Kept.setCell ?_ (.inr GW322.out) _ | refine Kept.setCell ?_ (.inr GW323.out) _ | refine Kept.setCell ?_ (.inr GW328.out) _) | exact HK.out)).1) hn_))), Or.elim hk_ (fun hs_ => fun e_ => (Kd.R_away HO_0.out (fun _ hk => hk.2)) (by rw [← e_]; exact hs_)) (fun hn_ => (Kd.freshB (g := gb323) (o := .cells #[.int .i64 a1_0, .int .i64 x324001_1, .int .i64 x324002_1, .int .i64 x324003_1, .int .i64 a1_4, .string a1_5, .string a1_6] 48 (0, 0)) (bk0 BK323.out) k_ hn_))⟩)); have n4_ := Aside0.mk (Kept.then_ (S := (fun k_ => P0_ k_)) (by repeat (first | (with_reducible first | exact HK.out | apply Kept.alloc | apply Kept.drewN | apply Kept.drew | refine Kept.setCell ?_ (.inr GW322.out) _ | refine Kept.setCell ?_ (.inr GW323.out) _ | refine Kept.setCell ?_ (.inr GW328.out) _) | exact HK.out)) hkp (fun k_ hs_ => (fun e_ => (HO_0.out.1 k_ e_.symm).1) hs_)); have n5_ := Aside0.mk (hb); clear BK322; clear BK323; clear BK328; clear HK; clear HB; clear HO_0; have BK322 := n0_; have BK323 := n1_; have BK328 := n2_; have HO331 := n3_; have HK := n4_; have HB := n5_; clear n0_ n1_ n2_ n3_ n4_ n5_; (try clear hb); (try clear hkp); (try clear ho0); obtain ⟨Ao46, co46, eo46⟩ := Kd.R_slice HO331.out; subst eo46; have hnb47 := NB323_322.out; have hnc47 := NB322_323.out; obtain ⟨hcz48_0, hcz48_1, hcz48_2, hcz48_3, hcz48_4, hcz48_5, hcz48_6⟩ := cells7 BK323.out; obtain ⟨hfz48_0, hfz48_1, hfz48_2, hfz48_3, hfz48_4, hfz48_5, hfz48_6⟩ := frz7 BK323.out))
         go_roundg k1
         case measure => have := HK1.out; omega
         case rel => exact ⟨(t329), (wrap64 (x13_1 + 1)), (x324001_1), (x324002_1), (wrap64 ((t329.length : Int) - 1)), rs0, H', ⟨by have := HK1.out; omega⟩, ⟨by (try simp only [setCell_drewN]); refine ra0 ?_; exact Kd.R_mono (Kd.R_far (p := ⟨gb323, 3, none⟩) (Kd.R_mono HO331.out (fun k_ hk => (⟨hk, hk.2⟩ : _ ∧ k_ ≠ gb323))) (fun _ hk => hk.2) (.int .i64 (wrap64 ((t329.length : Int) - 1)))) (fun _ hk => ⟨hk.1.1, hk.1.2⟩)⟩, ⟨by refine bk0 ?_; refine blk_far ?_ NB322_323.out _; refine bk0 ?_; exact BK322.out⟩, ⟨by refine bk0 ?_; refine blk_put (cs := #[.int .i64 a1_0, .int .i64 x324001_1, .int .i64 x324002_1, .int .i64 x324003_1, .int .i64 a1_4, .string a1_5, .string a1_6]) ?_ 3 _ rfl; refine bk0 ?_; exact BK323.out⟩, ⟨by repeat (first | (with_reducible first | exact HK.out | apply Kept.alloc | apply Kept.drewN | apply Kept.drew | refine Kept.setCell ?_ (.inr GW322.out) _ | refine Kept.setCell ?_ (.inr GW323.out) _ | refine Kept.setCell ?_ (.inr GW328.out) _) | exact HK.out)⟩, ⟨bb3 GE322.out GE323.out GE328.out⟩⟩
        ·rw [if_neg c37] at H
         have c37b0 : (x13_1 == 2) = false := beq_eq_false_iff_ne.mpr c37
         have c37b1 : (x13_1 != 2) = true := bne_iff_ne.mpr c37
         have H' := Aside0.mk H
         clear H
         have p327 : 0 ≤ (x13_1 : Int) := of_decide_eq_true as0
         have q327 : x13_1 < (l1_7.length : Int) := of_decide_eq_true as0
         obtain ⟨ad327, A327_7, c327_7, e327, hx327_0, hx327_1, hx327_2, hx327_3, hx327_4, hx327_5, hx327_6, hx327_7, hl327_7, hi327_7⟩ := at_T56 (Kd.C_kept_now HR1_7.out HK.out) x13_1 p327 q327
         cases e327
         have HR327_7 := Aside0.mk (Kd.kept_inner HR1_7.out HK.out (by first | exact p327 | exact of_eq_true p327) (by first | exact q327 | exact of_eq_true q327) (by decide) (by first | rfl | simp [add_block]) hx327_7 (fun W_ hk_ => by obtain ⟨ad2_, A7_, c7_, e2_, y0_, y1_, y2_, y3_, y4_, y5_, y6_, y7_, l7_, g7_⟩ := at_T56 (HR1_7.out W_ hk_) x13_1 (by first | exact p327 | exact of_eq_true p327) (by first | exact q327 | exact of_eq_true q327); injection e2_ with e2_; subst e2_; exact ⟨_, _, _, y7_, g7_⟩))
         have HC327_7 := Aside0.mk hl327_7
         clear hi327_7 hl327_7
         replace p327 := eq_true p327
         replace q327 := eq_true q327
         go_wp2_with (first | ((with_reducible refine gate_dst (N := 7) rfl ?_); refine box_event ?hg (N := 7) ?hd (cs := #[.int .i64 0, .int .i64 0, .int .i64 0, .int .i64 0, .int .i64 0, .string (⟨#[]⟩ : ByteArray), .string (⟨#[]⟩ : ByteArray), .slice none 0 0]) (t := 56) ?hr ?_; (case hd => rfl); (case hg => rfl); (case hr => first | (go_simp; done) | (go_simp; rfl)); intro gb328 hg w49 hbox hb; have n0_ := Aside0.mk (Kd.R_below (ra0 HO_0.out) hb); have n1_ := Aside0.mk (blk_below (g := gb322) (o := .cells #[.int .i64 a1_0, .int .i64 a1_1, .int .i64 a1_2, .int .i64 a1_3, .int .i64 a1_4, .string a1_5, .string a1_6, .slice (some ad327) l1_7.length c1_7] 56 (0, 0)) (bk0 BK322.out) hb); have n2_ := Aside0.mk (blk_below (g := gb323) (o := .cells #[.int .i64 a1_0, .int .i64 x324001_1, .int .i64 x324002_1, .int .i64 x324003_1, .int .i64 a1_4, .string a1_5, .string a1_6] 48 (0, 0)) (bk0 BK323.out) hb); have n3_ := Aside0.mk (Kept.below (S := (fun k_ => P0_ k_)) (by repeat (first | (with_reducible first | exact HK.out | apply Kept.alloc | apply Kept.drewN | apply Kept.drew | refine Kept.setCell ?_ (.inr GW322.out) _ | refine Kept.setCell ?_ (.inr GW323.out) _) | exact HK.out)) hb); have n4_ := Aside0.mk (below_step (bb2 GE322.out GE323.out) hb); have n5_ := Aside0.mk (hbox); have n6_ := Aside0.mk ((by rw [hg]; exact (by first | exact HK.out.1 | exact (show Kept w _ (fun k_ => P0_ k_) from by repeat (first | (with_reducible first | exact HK.out | apply Kept.alloc | apply Kept.drewN | apply Kept.drew | refine Kept.setCell ?_ (.inr GW322.out) _ | refine Kept.setCell ?_ (.inr GW323.out) _) | exact HK.out)).1) : w.heap.size ≤ gb328)); have n7_ := Aside0.mk ((by rw [hg]; exact (below_size (bb2 GE322.out GE323.out)) : w0.heap.size ≤ gb328)); have n8_ := Aside0.mk ((by rw [hg]; exact Nat.ne_of_lt (blk_lt (g := gb322) (o := .cells #[.int .i64 a1_0, .int .i64 a1_1, .int .i64 a1_2, .int .i64 a1_3, .int .i64 a1_4, .string a1_5, .string a1_6, .slice (some ad327) l1_7.length c1_7] 56 (0, 0)) (bk0 BK322.out)) : gb322 ≠ gb328)); have n9_ := Aside0.mk ((by rw [hg]; exact Nat.ne_of_gt (blk_lt (g := gb322) (o := .cells #[.int .i64 a1_0, .int .i64 a1_1, .int .i64 a1_2, .int .i64 a1_3, .int .i64 a1_4, .string a1_5, .string a1_6, .slice (some ad327) l1_7.length c1_7] 56 (0, 0)) (bk0 BK322.out)) : gb328 ≠ gb322)); have n10_ := Aside0.mk ((by rw [hg]; exact Nat.ne_of_lt (blk_lt (g := gb323) (o := .cells #[.int .i64 a1_0, .int .i64 x324001_1, .int .i64 x324002_1, .int .i64 x324003_1, .int .i64 a1_4, .string a1_5, .string a1_6] 48 (0, 0)) (bk0 BK323.out)) : gb323 ≠ gb328)); have n11_ := Aside0.mk ((by rw [hg]; exact Nat.ne_of_gt (blk_lt (g := gb323) (o := .cells #[.int .i64 a1_0, .int .i64 x324001_1, .int .i64 x324002_1, .int .i64 x324003_1, .int .i64 a1_4, .string a1_5, .string a1_6] 48 (0, 0)) (bk0 BK323.out)) : gb328 ≠ gb323)); clear HO_0; clear BK322; clear BK323; clear HK; clear HB; have HO_0 := n0_; have BK322 := n1_; have BK323 := n2_; have HK := n3_; have HB := n4_; have BK328 := n5_; have GW328 := n6_; have GE328 := n7_; have NB322_328 := n8_; have NB328_322 := n9_; have NB323_328 := n10_; have NB328_323 := n11_; clear n0_ n1_ n2_ n3_ n4_ n5_ n6_ n7_ n8_ n9_ n10_ n11_; clear hb hbox hg; have hnb50 := NB328_322.out; have hnc50 := NB322_328.out; have hnb51 := NB328_323.out; have hnc51 := NB323_328.out; obtain ⟨hcz52_0, hcz52_1, hcz52_2, hcz52_3, hcz52_4, hcz52_5, hcz52_6, hcz52_7⟩ := cells8 BK328.out; obtain ⟨hfz52_0, hfz52_1, hfz52_2, hfz52_3, hfz52_4, hfz52_5, hfz52_6, hfz52_7⟩ := frz8 BK328.out) | ((with_reducible refine gate_store (t := 56) (p := 7) rfl ?_); refine store_event (t := 56) (p := 7) (v := ?vo_w53) (w1 := ((((((((w49.setCell ⟨gb328, 0, none⟩ (.int .i64 ((rd_T56 l1_7 x13_1).f0.f0))).setCell ⟨gb328, 1, none⟩ (.int .i64 ((rd_T56 l1_7 x13_1).f0.f1))).setCell ⟨gb328, 2, none⟩ (.int .i64 ((rd_T56 l1_7 x13_1).f0.f2))).setCell ⟨gb328, 3, none⟩ (.int .i64 ((rd_T56 l1_7 x13_1).f0.f3))).setCell ⟨gb328, 4, none⟩ (.int .i64 ((rd_T56 l1_7 x13_1).f0.f4))).setCell ⟨gb328, 5, none⟩ (.string ((rd_T56 l1_7 x13_1).f0.f5))).setCell ⟨gb328, 6, none⟩ (.string ((rd_T56 l1_7 x13_1).f0.f6))).setCell ⟨gb328, 7, none⟩ (.slice A327_7 ((rd_T56 l1_7 x13_1).f1).length c327_7))) ?hg ?ho ?hn ?hr ?_; (case ho => rfl); (case hg => rfl); (case hn => rfl); (case hr => first | (go_simp; done) | (go_simp; rfl)); intro w53 hw; have n0_ : Aside0 (Kd.R k48 48 w53 w0.heap.size (fun k_ => (P0_ k_ ∨ w.heap.size ≤ k_) ∧ k_ ≠ gb323) u0 x0_1) := ⟨(by rw [hw]; exact (by (try simp only [setCell_drewN]); refine ra0 ?_; exact Kd.R_mono (Kd.R_far (p := ⟨gb328, 7, none⟩) (Kd.R_far (p := ⟨gb328, 6, none⟩) (Kd.R_far (p := ⟨gb328, 5, none⟩) (Kd.R_far (p := ⟨gb328, 4, none⟩) (Kd.R_far (p := ⟨gb328, 3, none⟩) (Kd.R_far (p := ⟨gb328, 2, none⟩) (Kd.R_far (p := ⟨gb328, 1, none⟩) (Kd.R_far (p := ⟨gb328, 0, none⟩) (Kd.R_types HO_0.out BK328.out (by decide)) (fun _ hk => hk.2) (.int .i64 ((rd_T56 l1_7 x13_1).f0.f0))) (fun _ hk => hk.2) (.int .i64 ((rd_T56 l1_7 x13_1).f0.f1))) (fun _ hk => hk.2) (.int .i64 ((rd_T56 l1_7 x13_1).f0.f2))) (fun _ hk => hk.2) (.int .i64 ((rd_T56 l1_7 x13_1).f0.f3))) (fun _ hk => hk.2) (.int .i64 ((rd_T56 l1_7 x13_1).f0.f4))) (fun _ hk => hk.2) (.string ((rd_T56 l1_7 x13_1).f0.f5))) (fun _ hk => hk.2) (.string ((rd_T56 l1_7 x13_1).f0.f6))) (fun _ hk => hk.2) (.slice A327_7 ((rd_T56 l1_7 x13_1).f1).length c327_7)) (fun _ hk => ⟨hk.1.1, hk.1.2⟩)))⟩; have n1_ : Aside0 (w53.heap[gb322]? = some (.cells #[.int .i64 a1_0, .int .i64 a1_1, .int .i64 a1_2, .int .i64 a1_3, .int .i64 a1_4, .string a1_5, .string a1_6, .slice (some ad327) l1_7.length c1_7] 56 (0, 0))) := ⟨(by rw [hw]; exact (by refine bk0 ?_; refine blk_far ?_ NB322_328.out _; refine bk0 ?_; refine blk_far ?_ NB322_328.out _; refine bk0 ?_; refine blk_far ?_ NB322_328.out _; refine bk0 ?_; refine blk_far ?_ NB322_328.out _; refine bk0 ?_; refine blk_far ?_ NB322_328.out _; refine bk0 ?_; refine blk_far ?_ NB322_328.out _; refine bk0 ?_; refine blk_far ?_ NB322_328.out _; refine bk0 ?_; refine blk_far ?_ NB322_328.out _; refine bk0 ?_; exact BK322.out))⟩; have n2_ : Aside0 (w53.heap[gb323]? = some (.cells #[.int .i64 a1_0, .int .i64 x324001_1, .int .i64 x324002_1, .int .i64 x324003_1, .int .i64 a1_4, .string a1_5, .string a1_6] 48 (0, 0))) := ⟨(by rw [hw]; exact (by refine bk0 ?_; refine blk_far ?_ NB323_328.out _; refine bk0 ?_; refine blk_far ?_ NB323_328.out _; refine bk0 ?_; refine blk_far ?_ NB323_328.out _; refine bk0 ?_; refine blk_far ?_ NB323_328.out _; refine bk0 ?_; refine blk_far ?_ NB323_328.out _; refine bk0 ?_; refine blk_far ?_ NB323_328.out _; refine bk0 ?_; refine blk_far ?_ NB323_328.out _; refine bk0 ?_; refine blk_far ?_ NB323_328.out _; refine bk0 ?_; exact BK323.out))⟩; have n3_ : Aside0 (w53.heap[gb328]? = some (.cells #[.int .i64 ((rd_T56 l1_7 x13_1).f0.f0), .int .i64 ((rd_T56 l1_7 x13_1).f0.f1), .int .i64 ((rd_T56 l1_7 x13_1).f0.f2), .int .i64 ((rd_T56 l1_7 x13_1).f0.f3), .int .i64 ((rd_T56 l1_7 x13_1).f0.f4), .string ((rd_T56 l1_7 x13_1).f0.f5), .string ((rd_T56 l1_7 x13_1).f0.f6), .slice A327_7 ((rd_T56 l1_7 x13_1).f1).length c327_7] 56 (0, 0))) := ⟨(by rw [hw]; exact (by refine bk0 ?_; refine blk_put (cs := #[.int .i64 ((rd_T56 l1_7 x13_1).f0.f0), .int .i64 ((rd_T56 l1_7 x13_1).f0.f1), .int .i64 ((rd_T56 l1_7 x13_1).f0.f2), .int .i64 ((rd_T56 l1_7 x13_1).f0.f3), .int .i64 ((rd_T56 l1_7 x13_1).f0.f4), .string ((rd_T56 l1_7 x13_1).f0.f5), .string ((rd_T56 l1_7 x13_1).f0.f6), .slice none 0 0]) ?_ 7 _ rfl; refine bk0 ?_; refine blk_put (cs := #[.int .i64 ((rd_T56 l1_7 x13_1).f0.f0), .int .i64 ((rd_T56 l1_7 x13_1).f0.f1), .int .i64 ((rd_T56 l1_7 x13_1).f0.f2), .int .i64 ((rd_T56 l1_7 x13_1).f0.f3), .int .i64 ((rd_T56 l1_7 x13_1).f0.f4), .string ((rd_T56 l1_7 x13_1).f0.f5), .string (⟨#[]⟩ : ByteArray), .slice none 0 0]) ?_ 6 _ rfl; refine bk0 ?_; refine blk_put (cs := #[.int .i64 ((rd_T56 l1_7 x13_1).f0.f0), .int .i64 ((rd_T56 l1_7 x13_1).f0.f1), .int .i64 ((rd_T56 l1_7 x13_1).f0.f2), .int .i64 ((rd_T56 l1_7 x13_1).f0.f3), .int .i64 ((rd_T56 l1_7 x13_1).f0.f4), .string (⟨#[]⟩ : ByteArray), .string (⟨#[]⟩ : ByteArray), .slice none 0 0]) ?_ 5 _ rfl; refine bk0 ?_; refine blk_put (cs := #[.int .i64 ((rd_T56 l1_7 x13_1).f0.f0), .int .i64 ((rd_T56 l1_7 x13_1).f0.f1), .int .i64 ((rd_T56 l1_7 x13_1).f0.f2), .int .i64 ((rd_T56 l1_7 x13_1).f0.f3), .int .i64 0, .string (⟨#[]⟩ : ByteArray), .string (⟨#[]⟩ : ByteArray), .slice none 0 0]) ?_ 4 _ rfl; refine bk0 ?_; refine blk_put (cs := #[.int .i64 ((rd_T56 l1_7 x13_1).f0.f0), .int .i64 ((rd_T56 l1_7 x13_1).f0.f1), .int .i64 ((rd_T56 l1_7 x13_1).f0.f2), .int .i64 0, .int .i64 0, .string (⟨#[]⟩ : ByteArray), .string (⟨#[]⟩ : ByteArray), .slice none 0 0]) ?_ 3 _ rfl; refine bk0 ?_; refine blk_put (cs := #[.int .i64 ((rd_T56 l1_7 x13_1).f0.f0), .int .i64 ((rd_T56 l1_7 x13_1).f0.f1), .int .i64 0, .int .i64 0, .int .i64 0, .string (⟨#[]⟩ : ByteArray), .string (⟨#[]⟩ : ByteArray), .slice none 0 0]) ?_ 2 _ rfl; refine bk0 ?_; refine blk_put (cs := #[.int .i64 ((rd_T56 l1_7 x13_1).f0.f0), .int .i64 0, .int .i64 0, .int .i64 0, .int .i64 0, .string (⟨#[]⟩ : ByteArray), .string (⟨#[]⟩ : ByteArray), .slice none 0 0]) ?_ 1 _ rfl; refine bk0 ?_; refine blk_put (cs := #[.int .i64 0, .int .i64 0, .int .i64 0, .int .i64 0, .int .i64 0, .string (⟨#[]⟩ : ByteArray), .string (⟨#[]⟩ : ByteArray), .slice none 0 0]) ?_ 0 _ rfl; refine bk0 ?_; exact BK328.out))⟩; have n4_ : Aside0 (Kept w w53 (fun k_ => P0_ k_)) := ⟨(by rw [hw]; exact (by repeat (first | (with_reducible first | exact HK.out | apply Kept.alloc | apply Kept.drewN | apply Kept.drew | refine Kept.setCell ?_ (.inr GW322.out) _ | refine Kept.setCell ?_ (.inr GW323.out) _ | refine Kept.setCell ?_ (.inr GW328.out) _) | exact HK.out)))⟩; have n5_ : Aside0 (Below w0.heap.size w0 w53) := ⟨(by rw [hw]; exact (bb3 GE322.out GE323.out GE328.out))⟩; clear hw; clear HO_0; clear BK322; clear BK323; clear BK328; clear HK; clear HB; have HO_0 := n0_; have BK322 := n1_; have BK323 := n2_; have BK328 := n3_; have HK := n4_; have HB := n5_; clear n0_ n1_ n2_ n3_ n4_ n5_; obtain ⟨hcz54_0, hcz54_1, hcz54_2, hcz54_3, hcz54_4, hcz54_5, hcz54_6, hcz54_7⟩ := cells8 BK328.out; obtain ⟨hfz54_0, hfz54_1, hfz54_2, hfz54_3, hfz54_4, hfz54_5, hfz54_6, hfz54_7⟩ := frz8 BK328.out; obtain ⟨Ao55, co55, eo55⟩ := Kd.R_slice HO_0.out; subst eo55) | ((with_reducible refine gate_callee (f := 36) rfl ?_); refine goesL_ (some 20) rfl rfl Tryd.func36 (by kernel_rfl) rfl #[.slice Ao55 x0_1.length co55, .agg #[.int .i64 ((rd_T56 l1_7 x13_1).f0.f0), .int .i64 ((rd_T56 l1_7 x13_1).f0.f1), .int .i64 ((rd_T56 l1_7 x13_1).f0.f2), .int .i64 ((rd_T56 l1_7 x13_1).f0.f3), .int .i64 ((rd_T56 l1_7 x13_1).f0.f4), .string ((rd_T56 l1_7 x13_1).f0.f5), .string ((rd_T56 l1_7 x13_1).f0.f6), .slice A327_7 ((rd_T56 l1_7 x13_1).f1).length c327_7]] rfl mm0 ?_; (with_reducible refine (ih k1 (by have := HK1.out; omega) (fun k_ => some k_ = (.slice Ao55 x0_1.length co55 : Value).ownBlock) (.slice Ao55 x0_1.length co55) x0_1 ((rd_T56 l1_7 x13_1).f0.f0) ((rd_T56 l1_7 x13_1).f0.f1) ((rd_T56 l1_7 x13_1).f0.f2) ((rd_T56 l1_7 x13_1).f0.f3) ((rd_T56 l1_7 x13_1).f0.f4) ((rd_T56 l1_7 x13_1).f0.f5) ((rd_T56 l1_7 x13_1).f0.f6) _ _ ((rd_T56 l1_7 x13_1).f1) t329 w0 _ ?side1 ?side2 ?side3 ?side4 A12.out).mono ?_); (case side1 => repeat (first | (with_reducible first | exact HB.out | apply below_alloc | apply pw_below_drewN | apply below_drew1 | refine below_set ?_ GE322.out | refine below_set ?_ GE323.out | refine below_set ?_ GE328.out) | exact HB.out)); (case side2 => exact Kd.R_tight rfl HO_0.out); (case side3 => exact Kd.C_kept_call HR327_7.out (by repeat (first | (with_reducible first | exact HK.out | apply Kept.alloc | apply Kept.drewN | apply Kept.drew | refine Kept.setCell ?_ (.inr GW322.out) _ | refine Kept.setCell ?_ (.inr GW323.out) _ | refine Kept.setCell ?_ (.inr GW328.out) _) | exact HK.out)) (fun k_ hs_ => (fun e_ => (HO_0.out.1 k_ e_.symm).1) hs_)); (case side4 => exact HC327_7.out); rintro e w56 ⟨v330, rfl, ho0, hb, hkp⟩; refine ⟨_, rfl, ?_⟩; have n0_ := Aside0.mk (blk_kept (bk0 BK322.out) hkp (fun hs_ => (fun e_ => (Kd.R_ne HO_0.out BK322.out (by decide)) e_) hs_)); have n1_ := Aside0.mk (blk_kept (bk0 BK323.out) hkp (fun hs_ => (fun e_ => (Kd.R_away HO_0.out (fun _ hk => hk.2)) e_) hs_)); have n2_ := Aside0.mk (blk_kept (bk0 BK328.out) hkp (fun hs_ => (fun e_ => (Kd.R_ne HO_0.out BK328.out (by decide)) e_) hs_)); have n3_ := Aside0.mk (Kd.R_mono (ok' := fun k_ => (P0_ k_ ∨ w.heap.size ≤ k_) ∧ k_ ≠ gb323) ho0 (fun k_ hk_ => ⟨Or.elim hk_ (fun hs_ => (HO_0.out.1 k_ (hs_).symm).1) (fun hn_ => (.inr (Nat.le_trans (by first | exact HK.out.1 | exact (show Kept w _ (fun k_ => P0_ k_) from by repeat (first | (with_reducible first | exact HK.out | apply Kept.alloc | apply Kept.drewN | apply Kept.drew | refine Kept.setCell ?_ (.inr GW322.out) _ | refine Kept.setCell ?_ (.inr GW323.out) _ | refine Kept.setCell ?_ (.inr GW328.out) _) | exact HK.out)).1) hn_))), Or.elim hk_ (fun hs_ => fun e_ => (Kd.R_away HO_0.out (fun _ hk => hk.2)) (by rw [← e_]; exact hs_)) (fun hn_ => (Kd.freshB (g := gb323) (o := .cells #[.int .i64 a1_0, .int .i64 x324001_1, .int .i64 x324002_1, .int .i64 x324003_1, .int .i64 a1_4, .string a1_5, .string a1_6] 48 (0, 0)) (bk0 BK323.out) k_ hn_))⟩)); have n4_ := Aside0.mk (Kept.then_ (S := (fun k_ => P0_ k_)) (by repeat (first | (with_reducible first | exact HK.out | apply Kept.alloc | apply Kept.drewN | apply Kept.drew | refine Kept.setCell ?_ (.inr GW322.out) _ | refine Kept.setCell ?_ (.inr GW323.out) _ | refine Kept.setCell ?_ (.inr GW328.out) _) | exact HK.out)) hkp (fun k_ hs_ => (fun e_ => (HO_0.out.1 k_ e_.symm).1) hs_)); have n5_ := Aside0.mk (hb); clear BK322; clear BK323; clear BK328; clear HK; clear HB; clear HO_0; have BK322 := n0_; have BK323 := n1_; have BK328 := n2_; have HO331 := n3_; have HK := n4_; have HB := n5_; clear n0_ n1_ n2_ n3_ n4_ n5_; (try clear hb); (try clear hkp); (try clear ho0)))
         go_roundg k1
         case measure => have := HK1.out; omega
         case rel => exact ⟨(t329), (wrap64 (x13_1 + 1)), (x324001_1), (x324002_1), (x324003_1), rs0, H', ⟨by have := HK1.out; omega⟩, ⟨by refine ra0 ?_; exact HO331.out⟩, ⟨by refine bk0 ?_; exact BK322.out⟩, ⟨by refine bk0 ?_; exact BK323.out⟩, ⟨by repeat (first | (with_reducible first | exact HK.out | apply Kept.alloc | apply Kept.drewN | apply Kept.drew | refine Kept.setCell ?_ (.inr GW322.out) _ | refine Kept.setCell ?_ (.inr GW323.out) _ | refine Kept.setCell ?_ (.inr GW328.out) _) | exact HK.out)⟩, ⟨bb3 GE322.out GE323.out GE328.out⟩⟩
     ·rw [if_neg c11] at H
      exact absurd H (by simp)
    ·rw [if_neg c10] at H
     exact absurd H (by simp)
   ·rw [if_neg c9] at H
    have c9b0 : decide (x13_1 < (l1_7.length : Int)) = false := decide_eq_false c9
    clear c9
    by_cases c57 : x0_1.length < 1954687338268
    ·rw [if_pos c57] at H
     have LMc57 := Aside0.mk c57
     clear c57
     obtain ⟨y324, hy324⟩ : ∃ y_ : List (S48), y_ = (x0_1 ++ [(⟨a1_0, x324001_1, x324002_1, x324003_1, a1_4, a1_5, a1_6⟩ : S48)]) := ⟨_, rfl⟩
     replace H : (some y324) = some r := by first | (rw [hy324]; with_reducible exact H) | (have H2_ := (Option.bind_some _ _).symm.trans H; rw [hy324]; with_reducible exact H2_) | (have H2_ := (Option.bind_some _ _).symm.trans H; with_reducible exact H2_) | with_reducible exact H | (rw [hy324]; exact H) | exact H
     have Ny324 := Aside0.mk hy324
     clear hy324
     obtain rfl := Option.some.inj H
     have hnb58 := NB323_322.out
     have hnc58 := NB322_323.out
     obtain ⟨hcz59_0, hcz59_1, hcz59_2, hcz59_3, hcz59_4, hcz59_5, hcz59_6⟩ := cells7 BK323.out
     obtain ⟨hfz59_0, hfz59_1, hfz59_2, hfz59_3, hfz59_4, hfz59_5, hfz59_6⟩ := frz7 BK323.out
     go_wp2_with (first | ((with_reducible refine gate_builtin (b := .append) (xs := #[(.tmp 41), .tmp 43]) rfl ?_); at_builtin; refine Kd.R_append k48 (w0 := w0) w0.heap.size rfl (.tmp 41) (.tmp 43) 25 48 (.agg #[(.int .i64 0), (.int .i64 0), (.int .i64 0), (.int .i64 0), (.int .i64 0), (.string ⟨#[]⟩), (.string ⟨#[]⟩)]) 72 rfl Tryd.underlying25 info48 rfl (by decide) (by omega) u0 x0_1 (⟨a1_0, x324001_1, x324002_1, x324003_1, a1_4, a1_5, a1_6⟩ : S48) [.int .i64 a1_0, .int .i64 x324001_1, .int .i64 x324002_1, .int .i64 x324003_1, .int .i64 a1_4, .string a1_5, .string a1_6] (fun k_ => (P0_ k_ ∨ w.heap.size ≤ k_) ∧ k_ ≠ gb323) (fun _ => False) rfl rfl ?aP (fun _ hk => hk.elim) ?aF ?aO ?aB ?aS ?aL ?_; (case aP => exact k48_mkM _ _ _ (⟨a1_0, x324001_1, x324002_1, x324003_1, a1_4, a1_5, a1_6⟩ : S48)); (case aB => exact (bb2 GE322.out GE323.out)); (case aF => exact (fun k_ hk => ⟨(.inr (Nat.le_trans (by first | exact HK.out.1 | exact (show Kept w _ (fun k_ => P0_ k_) from by repeat (first | (with_reducible first | exact HK.out | apply Kept.alloc | apply Kept.drewN | apply Kept.drew | refine Kept.setCell ?_ (.inr GW322.out) _ | refine Kept.setCell ?_ (.inr GW323.out) _) | exact HK.out)).1) hk)), Kd.freshB (g := gb323) (o := .cells #[.int .i64 a1_0, .int .i64 x324001_1, .int .i64 x324002_1, .int .i64 x324003_1, .int .i64 a1_4, .string a1_5, .string a1_6] 48 (0, 0)) (bk0 BK323.out) k_ hk⟩)); (case aO => exact (ra0 HO_0.out)); (case aS => exact (below_size (bb2 GE322.out GE323.out))); (case aL => have := LMc57.out; omega); intro v325 w60 ho hb hg hat; rw [← Ny324.out] at ho; have n0_ := Aside0.mk (blk_grown (g := gb322) (o := .cells #[.int .i64 a1_0, .int .i64 a1_1, .int .i64 a1_2, .int .i64 a1_3, .int .i64 a1_4, .string a1_5, .string a1_6, .slice A1_7 l1_7.length c1_7] 56 (0, 0)) (bk0 BK322.out) hg (Kd.R_ne HO_0.out BK322.out (by decide))); have n1_ := Aside0.mk (blk_grown (g := gb323) (o := .cells #[.int .i64 a1_0, .int .i64 x324001_1, .int .i64 x324002_1, .int .i64 x324003_1, .int .i64 a1_4, .string a1_5, .string a1_6] 48 (0, 0)) (bk0 BK323.out) hg (Kd.R_away HO_0.out (fun _ hk => hk.2))); have n2_ := Aside0.mk (hb); have n3_ := Aside0.mk (Kept.of_grown (S := (fun k_ => P0_ k_)) hg (by repeat (first | (with_reducible first | exact HK.out | apply Kept.alloc | apply Kept.drewN | apply Kept.drew | refine Kept.setCell ?_ (.inr GW322.out) _ | refine Kept.setCell ?_ (.inr GW323.out) _) | exact HK.out)) (fun k_ e_ => (HO_0.out.1 k_ e_).1)); have n4_ := Aside0.mk (ho); clear BK322; clear BK323; clear HB; clear HK; clear HO_0; have BK322 := n0_; have BK323 := n1_; have HB := n2_; have HK := n3_; have HO326 := n4_; clear n0_ n1_ n2_ n3_ n4_; clear ho hb hg hat))
     go_ret
     exact ⟨_, er0, by refine ra0 ?_; exact Kd.R_mono HO326.out (fun _ hk => hk.1), bb2 GE322.out GE323.out, by repeat (first | (with_reducible first | exact HK.out | apply Kept.alloc | apply Kept.drewN | apply Kept.drew | refine Kept.setCell ?_ (.inr GW322.out) _ | refine Kept.setCell ?_ (.inr GW323.out) _) | exact HK.out)⟩
    ·rw [if_neg c57] at H
     exact absurd H (by simp)

/-! ### impl_hasInt: function 51 -/
def impl_hasInt.l0 : Nat → Int → List Int → Int → Int → Option (Bool)
 | 0, _, _, _, _ => none
 | k + 1, x1, x7, x8, x9 => if x9 < x8 then (if 0 ≤ x9 then (if x9 < (x7.length : Int) then (if (rd x7 x9) = x1 then (some true) else (impl_hasInt.l0 k x1 x7 x8 (wrap64 (x9 + 1)))) else (none)) else (none)) else (some false)
def impl_hasInt.f (k : Nat) (l0 : List Int) (a1 : Int) : Option (Bool) := impl_hasInt.l0 k a1 l0 (l0.length : Int) 0
theorem impl_hasInt.mono_l : ∀ k, (∀ y0 y1 y2 y3, LeO (impl_hasInt.l0 k y0 y1 y2 y3) (impl_hasInt.l0 (k + 1) y0 y1 y2 y3))
 | 0 => fun _ _ _ _ r h => by simp [impl_hasInt.l0] at h
 | k + 1 => by
  have ih0 := impl_hasInt.mono_l k
  ·intro y0 y1 y2 y3
   unfold impl_hasInt.l0
   repeat' first
   | (with_reducible exact ih0 _ _ _ _)
   | (with_reducible exact LeO.refl _)
   | (with_reducible exact LeO.none _)
   | (with_reducible refine LeO.ite ?_ ?_)
   | (with_reducible refine LeO.bind ?_ (fun _ => ?_))
   | exact ih0 _ _ _ _
   | exact LeO.none _
   | refine LeO.ite ?_ ?_
   | refine LeO.bind ?_ (fun _ => ?_)
theorem impl_hasInt.mono : ∀ a0 a1 k, LeO (impl_hasInt.f k a0 a1) (impl_hasInt.f (k + 1) a0 a1) := by
 intro a0 a1 k
 have ih0 := impl_hasInt.mono_l k
 unfold impl_hasInt.f
 repeat' first
   | (with_reducible exact ih0 _ _ _ _)
   | (with_reducible exact LeO.refl _)
   | (with_reducible exact LeO.none _)
   | (with_reducible refine LeO.ite ?_ ?_)
   | (with_reducible refine LeO.bind ?_ (fun _ => ?_))
   | exact ih0 _ _ _ _
   | exact LeO.none _
   | refine LeO.ite ?_ ?_
   | refine LeO.bind ?_ (fun _ => ?_)
set_option maxHeartbeats 8000000 in
set_option maxRecDepth 100000 in
theorem impl_hasInt.calls (k : Nat) (A0 : Option Addr) (c0 : Nat) (l0 : List Int) (a1 : Int) (r : Bool) (w : World) (hr0 : Kd.C (Kd.int .i64) w A0 l0.length l0) (hc0 : l0.length ≤ c0) (h : impl_hasInt.f k l0 a1 = some r) :
  Calls Tryd.prog 51 #[.slice A0 l0.length c0, .int .i64 a1] w fun e w' => e = .returned (.bool r) ∧ Drawn0 w w' := by
 have HR0 := Aside0.mk hr0
 have HC0 := Aside0.mk hc0
 clear hr0 hc0
 have H : (impl_hasInt.l0 k a1 l0 (l0.length : Int) 0) = some r := h
 clear h
 have H' := Aside0.mk H
 clear H
 go_enter Tryd.func51, Tryd.ntmps51
 go_wp2
 go_loopg [9] k (fun kq v9 w' => ∃ (x9_1 : Int), v9 = .int .i64 x9_1 ∧ Aside0 (impl_hasInt.l0 kq a1 l0 (l0.length : Int) x9_1 = some r) ∧ Aside0 (kq ≤ k) ∧ Drawn0 w w')
 case atStart => exact ⟨(0), rs0, H', ⟨Nat.le_refl _⟩, dr0⟩
 case round =>
  clear H'
  try clear p2
  obtain ⟨x9_1, rfl, HA, HK1, ⟨m1, rfl⟩⟩ := hrel
  cases gk with
  | zero => exact absurd HA.out (by simp [impl_hasInt.l0])
  | succ k1 =>
   have H := HA.out
   clear HA
   simp only [impl_hasInt.l0] at H
   by_cases c3 : x9_1 < (l0.length : Int)
   ·rw [if_pos c3] at H
    have c3b0 : decide (x9_1 < (l0.length : Int)) = true := decide_eq_true c3
    clear c3
    by_cases c4 : 0 ≤ x9_1
    ·rw [if_pos c4] at H
     have c4b0 : decide (0 ≤ x9_1) = true := decide_eq_true c4
     clear c4
     by_cases c5 : x9_1 < (l0.length : Int)
     ·rw [if_pos c5] at H
      have c5b0 : decide (x9_1 < (l0.length : Int)) = true := decide_eq_true c5
      clear c5
      by_cases c6 : (rd l0 x9_1) = a1
      ·rw [if_pos c6] at H
       have c6b0 : ((rd l0 x9_1) == a1) = true := beq_iff_eq.mpr c6
       have c6b1 : ((rd l0 x9_1) != a1) = false := bne_eq_false_iff_eq.mpr c6
       clear c6
       obtain rfl := Option.some.inj H
       have p332 : 0 ≤ (x9_1 : Int) := of_decide_eq_true as0
       have q332 : x9_1 < (l0.length : Int) := of_decide_eq_true as0
       obtain ⟨ad332, e332, hx332_0⟩ := Kd.at_int HR0.out x9_1 p332 q332
       cases e332
       replace p332 := eq_true p332
       replace q332 := eq_true q332
       go_wp2
       go_ret
       exact ⟨rs0, dr0⟩
      ·rw [if_neg c6] at H
       have c6b0 : ((rd l0 x9_1) == a1) = false := beq_eq_false_iff_ne.mpr c6
       have c6b1 : ((rd l0 x9_1) != a1) = true := bne_iff_ne.mpr c6
       have H' := Aside0.mk H
       clear H
       have p332 : 0 ≤ (x9_1 : Int) := of_decide_eq_true as0
       have q332 : x9_1 < (l0.length : Int) := of_decide_eq_true as0
       obtain ⟨ad332, e332, hx332_0⟩ := Kd.at_int HR0.out x9_1 p332 q332
       cases e332
       replace p332 := eq_true p332
       replace q332 := eq_true q332
       go_wp2
       go_roundg k1
       case measure => have := HK1.out; omega
       case rel => exact ⟨(wrap64 (x9_1 + 1)), rs0, H', ⟨by have := HK1.out; omega⟩, dr0⟩
     ·rw [if_neg c5] at H
      exact absurd H (by simp)
    ·rw [if_neg c4] at H
     exact absurd H (by simp)
   ·rw [if_neg c3] at H
    have c3b0 : decide (x9_1 < (l0.length : Int)) = false := decide_eq_false c3
    clear c3
    obtain rfl := Option.some.inj H
    go_wp2
    go_ret
    exact ⟨rs0, dr0⟩

/-! ### impl_cutTree: function 37 -/
mutual
def impl_cutTree.l0 : Nat → List (S48) → List Int → List Int → Int → Int → Int → Int → Int → Int → Int → ByteArray → ByteArray → List (S56) → Option (Int × Int × Int × Int × Int × ByteArray × ByteArray × (List (S56)))
 | 0, _, _, _, _, _, _, _, _, _, _, _, _, _ => none
 | k + 1, x0, x1, x24, x25, x26, x337000, x337001, x337002, x337003, x337004, x337005, x337006, x337007 => if x26 < x25 then (if 0 ≤ x26 then (if x26 < (x24.length : Int) then ((impl_cutTree.f k x0 x1 (rd x24 x26)).bind fun bt342 => (if x337007.length < 1466015503701 then (impl_cutTree.l0 k x0 x1 x24 x25 (wrap64 (x26 + 1)) x337000 x337001 x337002 x337003 x337004 x337005 x337006 (x337007 ++ [(⟨(⟨bt342.1, bt342.2.1, bt342.2.2.1, bt342.2.2.2.1, bt342.2.2.2.2.1, bt342.2.2.2.2.2.1, bt342.2.2.2.2.2.2.1⟩ : S48), bt342.2.2.2.2.2.2.2⟩ : S56)])) else (none))) else (none)) else (none)) else (some (x337000, x337001, x337002, x337003, x337004, x337005, x337006, x337007))
def impl_cutTree.f : Nat → List (S48) → List Int → Int → Option (Int × Int × Int × Int × Int × ByteArray × ByteArray × (List (S56)))
 | 0, _, _, _ => none
 | k + 1, l0, l1, a2 => (impl_hasInt.f k l1 a2).bind fun t334 => (if t334 = true then (some (2, 0, 0, 0, 0, (⟨#[]⟩ : ByteArray), (⟨#[]⟩ : ByteArray), ([] : List (S56)))) else (if 0 ≤ a2 then (if a2 < (l0.length : Int) then ((impl_Kids.f k ((rd_T48 l0 a2).f0) ((rd_T48 l0 a2).f1) ((rd_T48 l0 a2).f2) ((rd_T48 l0 a2).f3) ((rd_T48 l0 a2).f4) ((rd_T48 l0 a2).f5) ((rd_T48 l0 a2).f6)).bind fun t338 => (impl_cutTree.l0 k l0 l1 t338 (t338.length : Int) 0 ((rd_T48 l0 a2).f0) ((rd_T48 l0 a2).f1) ((rd_T48 l0 a2).f2) ((rd_T48 l0 a2).f3) ((rd_T48 l0 a2).f4) ((rd_T48 l0 a2).f5) ((rd_T48 l0 a2).f6) ([] : List (S56)))) else (none)) else (none)))
end
theorem impl_cutTree.mono_l : ∀ k, (∀ y0 y1 y2, LeO (impl_cutTree.f k y0 y1 y2) (impl_cutTree.f (k + 1) y0 y1 y2)) ∧ (∀ y0 y1 y2 y3 y4 y5 y6 y7 y8 y9 y10 y11 y12, LeO (impl_cutTree.l0 k y0 y1 y2 y3 y4 y5 y6 y7 y8 y9 y10 y11 y12) (impl_cutTree.l0 (k + 1) y0 y1 y2 y3 y4 y5 y6 y7 y8 y9 y10 y11 y12))
 | 0 => ⟨fun _ _ _ r h => by simp [impl_cutTree.f] at h, fun _ _ _ _ _ _ _ _ _ _ _ _ _ r h => by simp [impl_cutTree.l0] at h⟩
 | k + 1 => by
  obtain ⟨ih0, ih1⟩ := impl_cutTree.mono_l k
  refine ⟨?_, ?_⟩
  ·intro y0 y1 y2
   unfold impl_cutTree.f
   repeat' first
   | (with_reducible exact ih0 _ _ _)
   | (with_reducible exact ih1 _ _ _ _ _ _ _ _ _ _ _ _ _)
   | (with_reducible exact impl_Kids.mono _ _ _ _ _ _ _ _)
   | (with_reducible exact impl_hasInt.mono _ _ _)
   | (with_reducible exact LeO.refl _)
   | (with_reducible exact LeO.none _)
   | (with_reducible refine LeO.ite ?_ ?_)
   | (with_reducible refine LeO.bind ?_ (fun _ => ?_))
   | exact ih0 _ _ _
   | exact ih1 _ _ _ _ _ _ _ _ _ _ _ _ _
   | exact impl_Kids.mono _ _ _ _ _ _ _ _
   | exact impl_hasInt.mono _ _ _
   | exact LeO.none _
   | refine LeO.ite ?_ ?_
   | refine LeO.bind ?_ (fun _ => ?_)
  ·intro y0 y1 y2 y3 y4 y5 y6 y7 y8 y9 y10 y11 y12
   unfold impl_cutTree.l0
   repeat' first
   | (with_reducible exact ih0 _ _ _)
   | (with_reducible exact ih1 _ _ _ _ _ _ _ _ _ _ _ _ _)
   | (with_reducible exact impl_Kids.mono _ _ _ _ _ _ _ _)
   | (with_reducible exact impl_hasInt.mono _ _ _)
   | (with_reducible exact LeO.refl _)
   | (with_reducible exact LeO.none _)
   | (with_reducible refine LeO.ite ?_ ?_)
   | (with_reducible refine LeO.bind ?_ (fun _ => ?_))
   | exact ih0 _ _ _
   | exact ih1 _ _ _ _ _ _ _ _ _ _ _ _ _
   | exact impl_Kids.mono _ _ _ _ _ _ _ _
   | exact impl_hasInt.mono _ _ _
   | exact LeO.none _
   | refine LeO.ite ?_ ?_
   | refine LeO.bind ?_ (fun _ => ?_)
theorem impl_cutTree.mono : ∀ a0 a1 a2 k, LeO (impl_cutTree.f k a0 a1 a2) (impl_cutTree.f (k + 1) a0 a1 a2) := by
 intro a0 a1 a2 k
 obtain ⟨ih0, ih1⟩ := impl_cutTree.mono_l k
 exact ih0 a0 a1 a2
def impl_cutTree.T7 : Bool × List (List Nat × List Nat) := (true, [([], []), ([0], [0]), ([], []), ([], []), ([], []), ([2, 3, 4], [2, 3, 4]), ([5], [5]), ([1, 6, 5], [1, 6]), ([0, 1, 2, 3, 4, 5, 6, 7], []), ([8, 7, 7, 0, 1, 2, 3, 4, 5, 6, 7], [7, 8])])
def impl_cutTree.B7 : List Nat := [0, 1, 0, 0, 0, 28, 60, 127, 255, 511]
theorem impl_cutTree.tab7 : rtab .any (opsOf Tryd.f37 7) = impl_cutTree.T7 := by kernel_rfl
theorem impl_cutTree.bits7 : waitsOk impl_cutTree.T7.2 impl_cutTree.B7 = true := by kernel_rfl
set_option maxHeartbeats 8000000 in
set_option maxRecDepth 100000 in
theorem impl_cutTree.calls (k : Nat) : ∀ (A0 : Option Addr) (c0 : Nat) (l0 : List (S48)) (A1 : Option Addr) (c1 : Nat) (l1 : List Int) (a2 : Int) (r1 : Int) (r2 : Int) (r3 : Int) (r4 : Int) (r5 : Int) (r6 : ByteArray) (r7 : ByteArray) (r8 : List (S56)) (w : World) (hr0 : Kd.C k48 w A0 l0.length l0) (hc0 : l0.length ≤ c0) (hr1 : Kd.C (Kd.int .i64) w A1 l1.length l1) (hc1 : l1.length ≤ c1) (h : impl_cutTree.f k l0 l1 a2 = some (r1, r2, r3, r4, r5, r6, r7, r8)),
  Calls Tryd.prog 37 #[.slice A0 l0.length c0, .slice A1 l1.length c1, .int .i64 a2] w fun e w' => ∃ v7_ : Value, e = .returned (.agg #[.int .i64 r1, .int .i64 r2, .int .i64 r3, .int .i64 r4, .int .i64 r5, .string r6, .string r7, v7_]) ∧ Kd.R k56 56 w' w.heap.size (fun _ => True) v7_ r8 ∧ Below w.heap.size w w' := by
 induction k using Nat.strongRecOn with
 | _ k ih =>
 intro A0 c0 l0 A1 c1 l1 a2 r1 r2 r3 r4 r5 r6 r7 r8 w hr0 hc0 hr1 hc1 h
 cases k with
 | zero => exact absurd h (by simp [impl_cutTree.f])
 | succ k =>
 simp only [impl_cutTree.f] at h
 have hu56 := Tryd.underlying56
 have hu48 := Tryd.underlying48
 have HR0 := Aside0.mk hr0
 have HC0 := Aside0.mk hc0
 clear hr0 hc0
 have HR1 := Aside0.mk hr1
 have HC1 := Aside0.mk hc1
 clear hr1 hc1
 have HB := Aside0.mk (Below.refl w.heap.size w)
 have H : ((impl_hasInt.f k l1 a2).bind fun t334 => (if t334 = true then (some (2, 0, 0, 0, 0, (⟨#[]⟩ : ByteArray), (⟨#[]⟩ : ByteArray), ([] : List (S56)))) else (if 0 ≤ a2 then (if a2 < (l0.length : Int) then ((impl_Kids.f k ((rd_T48 l0 a2).f0) ((rd_T48 l0 a2).f1) ((rd_T48 l0 a2).f2) ((rd_T48 l0 a2).f3) ((rd_T48 l0 a2).f4) ((rd_T48 l0 a2).f5) ((rd_T48 l0 a2).f6)).bind fun t338 => (impl_cutTree.l0 k l0 l1 t338 (t338.length : Int) 0 ((rd_T48 l0 a2).f0) ((rd_T48 l0 a2).f1) ((rd_T48 l0 a2).f2) ((rd_T48 l0 a2).f3) ((rd_T48 l0 a2).f4) ((rd_T48 l0 a2).f5) ((rd_T48 l0 a2).f6) ([] : List (S56)))) else (none)) else (none)))) = some (r1, r2, r3, r4, r5, r6, r7, r8) := h
 clear h
 replace H := Option.bind_eq_some_iff.mp H
 obtain ⟨t334, A40, H⟩ := H
 replace H : (if t334 = true then (some (2, 0, 0, 0, 0, (⟨#[]⟩ : ByteArray), (⟨#[]⟩ : ByteArray), ([] : List (S56)))) else (if 0 ≤ a2 then (if a2 < (l0.length : Int) then ((impl_Kids.f k ((rd_T48 l0 a2).f0) ((rd_T48 l0 a2).f1) ((rd_T48 l0 a2).f2) ((rd_T48 l0 a2).f3) ((rd_T48 l0 a2).f4) ((rd_T48 l0 a2).f5) ((rd_T48 l0 a2).f6)).bind fun t338 => (impl_cutTree.l0 k l0 l1 t338 (t338.length : Int) 0 ((rd_T48 l0 a2).f0) ((rd_T48 l0 a2).f1) ((rd_T48 l0 a2).f2) ((rd_T48 l0 a2).f3) ((rd_T48 l0 a2).f4) ((rd_T48 l0 a2).f5) ((rd_T48 l0 a2).f6) ([] : List (S56)))) else (none)) else (none))) = some (r1, r2, r3, r4, r5, r6, r7, r8) := H
 have A4 := Aside0.mk A40
 clear A40
 by_cases c5 : t334 = true
 ·subst c5
  have H1 : (some (2, 0, 0, 0, 0, (⟨#[]⟩ : ByteArray), (⟨#[]⟩ : ByteArray), ([] : List (S56)))) = some (r1, r2, r3, r4, r5, r6, r7, r8) := by rw [if_pos rfl] at H; exact H
  clear H
  have H := H1
  clear H1
  simp only [Option.some.injEq, Prod.mk.injEq] at H
  obtain ⟨rfl, rfl, rfl, rfl, rfl, rfl, rfl, rfl⟩ := H
  go_enter Tryd.func37, Tryd.ntmps37
  go_wp2_with (first | ((with_reducible refine gate_dst (N := 6) rfl ?_); refine box_event ?hg (N := 6) ?hd (cs := #[.int .i64 0, .int .i64 0, .int .i64 0, .int .i64 0, .int .i64 0, .string (⟨#[]⟩ : ByteArray), .string (⟨#[]⟩ : ByteArray), .slice none 0 0]) (t := 56) ?hr ?_; (case hd => rfl); (case hg => rfl); (case hr => first | (go_simp; done) | (go_simp; rfl)); intro gb333 hg w6 hbox hb; have n0_ := Aside0.mk (below_step bb0 hb); have n1_ := Aside0.mk (hbox); have n2_ := Aside0.mk ((by rw [hg]; exact (below_size bb0) : w.heap.size ≤ gb333)); have n3_ := Aside0.mk ((by rw [hg]; exact (below_size bb0) : w.heap.size ≤ gb333)); clear HB; have HB := n0_; have BK333 := n1_; have GW333 := n2_; have GE333 := n3_; clear n0_ n1_ n2_ n3_; clear hb hbox hg) | ((with_reducible refine gate_callee (f := 51) rfl ?_); refine goesL_ (some 12) rfl rfl Tryd.func51 (by kernel_rfl) rfl #[.slice A1 l1.length c1, .int .i64 a2] rfl mm0 ?_; (with_reducible refine (impl_hasInt.calls k _ _ l1 a2 true _ ?side1 ?side2 A4.out).mono ?_); (case side1 => exact cc0 (Kd.C_below HR1.out HB.out)); (case side2 => exact HC1.out); rintro e w' ⟨rfl, ⟨nd, rfl⟩⟩; refine ⟨_, rfl, ?_⟩; (try (rw [drewN_self w6]; generalize hq_ : World.drewN w6 _ = w6; have n0_ : Aside0 (w6.heap[gb333]? = some (.cells #[.int .i64 0, .int .i64 0, .int .i64 0, .int .i64 0, .int .i64 0, .string (⟨#[]⟩ : ByteArray), .string (⟨#[]⟩ : ByteArray), .slice none 0 0] 56 (0, 0))) := ⟨by rw [← hq_]; exact (bk0 BK333.out)⟩; have n1_ : Aside0 (Below w.heap.size w w6) := ⟨by rw [← hq_]; exact (bb1 GE333.out)⟩; clear BK333 HB hq_; have BK333 := n0_; have HB := n1_; clear n0_ n1_)); obtain ⟨hcz7_0, hcz7_1, hcz7_2, hcz7_3, hcz7_4, hcz7_5, hcz7_6, hcz7_7⟩ := cells8 BK333.out; obtain ⟨hfz7_0, hfz7_1, hfz7_2, hfz7_3, hfz7_4, hfz7_5, hfz7_6, hfz7_7⟩ := frz8 BK333.out))
  refine bodyPost_ret (results_cell_row rfl _ _ gb333 56 #[.int .i64 2, .int .i64 0, .int .i64 0, .int .i64 0, .int .i64 0, .string (⟨#[]⟩ : ByteArray), .string (⟨#[]⟩ : ByteArray), .slice none 0 0] (0, 0) _ rfl (by refine bk0 ?_; refine blk_put (cs := #[.int .i64 2, .int .i64 0, .int .i64 0, .int .i64 0, .int .i64 0, .string (⟨#[]⟩ : ByteArray), .string (⟨#[]⟩ : ByteArray), .slice none 0 0]) ?_ 7 _ rfl; refine bk0 ?_; refine blk_put (cs := #[.int .i64 2, .int .i64 0, .int .i64 0, .int .i64 0, .int .i64 0, .string (⟨#[]⟩ : ByteArray), .string (⟨#[]⟩ : ByteArray), .slice none 0 0]) ?_ 6 _ rfl; refine bk0 ?_; refine blk_put (cs := #[.int .i64 2, .int .i64 0, .int .i64 0, .int .i64 0, .int .i64 0, .string (⟨#[]⟩ : ByteArray), .string (⟨#[]⟩ : ByteArray), .slice none 0 0]) ?_ 5 _ rfl; refine bk0 ?_; refine blk_put (cs := #[.int .i64 2, .int .i64 0, .int .i64 0, .int .i64 0, .int .i64 0, .string (⟨#[]⟩ : ByteArray), .string (⟨#[]⟩ : ByteArray), .slice none 0 0]) ?_ 4 _ rfl; refine bk0 ?_; refine blk_put (cs := #[.int .i64 2, .int .i64 0, .int .i64 0, .int .i64 0, .int .i64 0, .string (⟨#[]⟩ : ByteArray), .string (⟨#[]⟩ : ByteArray), .slice none 0 0]) ?_ 3 _ rfl; refine bk0 ?_; refine blk_put (cs := #[.int .i64 2, .int .i64 0, .int .i64 0, .int .i64 0, .int .i64 0, .string (⟨#[]⟩ : ByteArray), .string (⟨#[]⟩ : ByteArray), .slice none 0 0]) ?_ 2 _ rfl; refine bk0 ?_; refine blk_put (cs := #[.int .i64 2, .int .i64 0, .int .i64 0, .int .i64 0, .int .i64 0, .string (⟨#[]⟩ : ByteArray), .string (⟨#[]⟩ : ByteArray), .slice none 0 0]) ?_ 1 _ rfl; refine bk0 ?_; refine blk_put (cs := #[.int .i64 0, .int .i64 0, .int .i64 0, .int .i64 0, .int .i64 0, .string (⟨#[]⟩ : ByteArray), .string (⟨#[]⟩ : ByteArray), .slice none 0 0]) ?_ 0 _ rfl; refine bk0 ?_; exact BK333.out) Tryd.underlying56 rfl (by kernel_rfl)) rfl ?_
  exact ⟨_, er0, by first | exact Kd.R_nil _ _ _ _ _ | exact Kd.N_nil _ _ _ _ _ | exact Kd.V_nil _ _ _ _ _ | exact Kd.Q_nil _ _ _ _ _ | exact Kd.S_nil _ _ _ _ _, bb1 GE333.out⟩
 ·replace c5 := Bool.eq_false_iff.mpr c5
  subst c5
  have H1 : (if 0 ≤ a2 then (if a2 < (l0.length : Int) then ((impl_Kids.f k ((rd_T48 l0 a2).f0) ((rd_T48 l0 a2).f1) ((rd_T48 l0 a2).f2) ((rd_T48 l0 a2).f3) ((rd_T48 l0 a2).f4) ((rd_T48 l0 a2).f5) ((rd_T48 l0 a2).f6)).bind fun t338 => (impl_cutTree.l0 k l0 l1 t338 (t338.length : Int) 0 ((rd_T48 l0 a2).f0) ((rd_T48 l0 a2).f1) ((rd_T48 l0 a2).f2) ((rd_T48 l0 a2).f3) ((rd_T48 l0 a2).f4) ((rd_T48 l0 a2).f5) ((rd_T48 l0 a2).f6) ([] : List (S56)))) else (none)) else (none)) = some (r1, r2, r3, r4, r5, r6, r7, r8) := by rw [if_neg (show ¬ (false = true) by decide)] at H; exact H
  clear H
  have H := H1
  clear H1
  by_cases c8 : 0 ≤ a2
  ·rw [if_pos c8] at H
   have c8b0 : decide (0 ≤ a2) = true := decide_eq_true c8
   clear c8
   by_cases c9 : a2 < (l0.length : Int)
   ·rw [if_pos c9] at H
    have c9b0 : decide (a2 < (l0.length : Int)) = true := decide_eq_true c9
    clear c9
    replace H := Option.bind_eq_some_iff.mp H
    obtain ⟨t338, A100, H⟩ := H
    replace H : (impl_cutTree.l0 k l0 l1 t338 (t338.length : Int) 0 ((rd_T48 l0 a2).f0) ((rd_T48 l0 a2).f1) ((rd_T48 l0 a2).f2) ((rd_T48 l0 a2).f3) ((rd_T48 l0 a2).f4) ((rd_T48 l0 a2).f5) ((rd_T48 l0 a2).f6) ([] : List (S56))) = some (r1, r2, r3, r4, r5, r6, r7, r8) := H
    have A10 := Aside0.mk A100
    clear A100
    have H' := Aside0.mk H
    clear H
    go_enter Tryd.func37, Tryd.ntmps37
    go_wp2_with (first | ((with_reducible refine gate_dst (N := 6) rfl ?_); refine box_event ?hg (N := 6) ?hd (cs := #[.int .i64 0, .int .i64 0, .int .i64 0, .int .i64 0, .int .i64 0, .string (⟨#[]⟩ : ByteArray), .string (⟨#[]⟩ : ByteArray), .slice none 0 0]) (t := 56) ?hr ?_; (case hd => rfl); (case hg => rfl); (case hr => first | (go_simp; done) | (go_simp; rfl)); intro gb333 hg w11 hbox hb; have n0_ := Aside0.mk (below_step bb0 hb); have n1_ := Aside0.mk (hbox); have n2_ := Aside0.mk ((by rw [hg]; exact (below_size bb0) : w.heap.size ≤ gb333)); have n3_ := Aside0.mk ((by rw [hg]; exact (below_size bb0) : w.heap.size ≤ gb333)); clear HB; have HB := n0_; have BK333 := n1_; have GW333 := n2_; have GE333 := n3_; clear n0_ n1_ n2_ n3_; clear hb hbox hg) | ((with_reducible refine gate_callee (f := 51) rfl ?_); refine goesL_ (some 12) rfl rfl Tryd.func51 (by kernel_rfl) rfl #[.slice A1 l1.length c1, .int .i64 a2] rfl mm0 ?_; (with_reducible refine (impl_hasInt.calls k _ _ l1 a2 false _ ?side1 ?side2 A4.out).mono ?_); (case side1 => exact cc0 (Kd.C_below HR1.out HB.out)); (case side2 => exact HC1.out); rintro e w' ⟨rfl, ⟨nd, rfl⟩⟩; refine ⟨_, rfl, ?_⟩; (try (rw [drewN_self w11]; generalize hq_ : World.drewN w11 _ = w11; have n0_ : Aside0 (w11.heap[gb333]? = some (.cells #[.int .i64 0, .int .i64 0, .int .i64 0, .int .i64 0, .int .i64 0, .string (⟨#[]⟩ : ByteArray), .string (⟨#[]⟩ : ByteArray), .slice none 0 0] 56 (0, 0))) := ⟨by rw [← hq_]; exact (bk0 BK333.out)⟩; have n1_ : Aside0 (Below w.heap.size w w11) := ⟨by rw [← hq_]; exact (bb1 GE333.out)⟩; clear BK333 HB hq_; have BK333 := n0_; have HB := n1_; clear n0_ n1_)); have p335 : 0 ≤ (a2 : Int) := of_decide_eq_true as0; have q335 : a2 < (l0.length : Int) := of_decide_eq_true as0; obtain ⟨ad335, e335, hx335_0, hx335_1, hx335_2, hx335_3, hx335_4, hx335_5, hx335_6⟩ := at_T48 HR0.out a2 p335 q335; cases e335; replace hx335_0 := (HB.out.cell (World.block_lt_of_cell? w _ hx335_0)).trans hx335_0; replace hx335_1 := (HB.out.cell (World.block_lt_of_cell? w _ hx335_1)).trans hx335_1; replace hx335_2 := (HB.out.cell (World.block_lt_of_cell? w _ hx335_2)).trans hx335_2; replace hx335_3 := (HB.out.cell (World.block_lt_of_cell? w _ hx335_3)).trans hx335_3; replace hx335_4 := (HB.out.cell (World.block_lt_of_cell? w _ hx335_4)).trans hx335_4; replace hx335_5 := (HB.out.cell (World.block_lt_of_cell? w _ hx335_5)).trans hx335_5; replace hx335_6 := (HB.out.cell (World.block_lt_of_cell? w _ hx335_6)).trans hx335_6; replace p335 := eq_true p335; replace q335 := eq_true q335) | ((with_reducible refine gate_dst (N := 7) rfl ?_); refine box_event ?hg (N := 7) ?hd (cs := #[.int .i64 0, .int .i64 0, .int .i64 0, .int .i64 0, .int .i64 0, .string (⟨#[]⟩ : ByteArray), .string (⟨#[]⟩ : ByteArray), .slice none 0 0]) (t := 56) ?hr ?_; (case hd => rfl); (case hg => rfl); (case hr => first | (go_simp; done) | (go_simp; rfl)); intro gb336 hg w12 hbox hb; have n0_ := Aside0.mk (blk_below (g := gb333) (o := .cells #[.int .i64 0, .int .i64 0, .int .i64 0, .int .i64 0, .int .i64 0, .string (⟨#[]⟩ : ByteArray), .string (⟨#[]⟩ : ByteArray), .slice none 0 0] 56 (0, 0)) (bk0 BK333.out) hb); have n1_ := Aside0.mk (below_step (bb1 GE333.out) hb); have n2_ := Aside0.mk (hbox); have n3_ := Aside0.mk ((by rw [hg]; exact (below_size (bb1 GE333.out)) : w.heap.size ≤ gb336)); have n4_ := Aside0.mk ((by rw [hg]; exact (below_size (bb1 GE333.out)) : w.heap.size ≤ gb336)); have n5_ := Aside0.mk ((by rw [hg]; exact Nat.ne_of_lt (blk_lt (g := gb333) (o := .cells #[.int .i64 0, .int .i64 0, .int .i64 0, .int .i64 0, .int .i64 0, .string (⟨#[]⟩ : ByteArray), .string (⟨#[]⟩ : ByteArray), .slice none 0 0] 56 (0, 0)) (bk0 BK333.out)) : gb333 ≠ gb336)); have n6_ := Aside0.mk ((by rw [hg]; exact Nat.ne_of_gt (blk_lt (g := gb333) (o := .cells #[.int .i64 0, .int .i64 0, .int .i64 0, .int .i64 0, .int .i64 0, .string (⟨#[]⟩ : ByteArray), .string (⟨#[]⟩ : ByteArray), .slice none 0 0] 56 (0, 0)) (bk0 BK333.out)) : gb336 ≠ gb333)); clear BK333; clear HB; have BK333 := n0_; have HB := n1_; have BK336 := n2_; have GW336 := n3_; have GE336 := n4_; have NB333_336 := n5_; have NB336_333 := n6_; clear n0_ n1_ n2_ n3_ n4_ n5_ n6_; clear hb hbox hg; have hnb13 := NB336_333.out; have hnc13 := NB333_336.out; obtain ⟨hcz14_0, hcz14_1, hcz14_2, hcz14_3, hcz14_4, hcz14_5, hcz14_6, hcz14_7⟩ := cells8 BK336.out; obtain ⟨hfz14_0, hfz14_1, hfz14_2, hfz14_3, hfz14_4, hfz14_5, hfz14_6, hfz14_7⟩ := frz8 BK336.out; have p337 : 0 ≤ (a2 : Int) := of_decide_eq_true as0; have q337 : a2 < (l0.length : Int) := of_decide_eq_true as0; obtain ⟨ad337, e337, hx337_0, hx337_1, hx337_2, hx337_3, hx337_4, hx337_5, hx337_6⟩ := at_T48 HR0.out a2 p337 q337; obtain rfl : ad335 = ad337 := (by injection e337); have hn337_0 : ad335.block ≠ gb336 := Nat.ne_of_lt (Nat.lt_of_lt_of_le (by have := World.block_lt_of_cell? _ _ hx337_0; first | rwa [add_block] at this | exact this) GW336.out); have hn337_1 : ad335.block ≠ gb336 := Nat.ne_of_lt (Nat.lt_of_lt_of_le (by have := World.block_lt_of_cell? _ _ hx337_0; first | rwa [add_block] at this | exact this) GW336.out); have hn337_2 : ad335.block ≠ gb336 := Nat.ne_of_lt (Nat.lt_of_lt_of_le (by have := World.block_lt_of_cell? _ _ hx337_0; first | rwa [add_block] at this | exact this) GW336.out); have hn337_3 : ad335.block ≠ gb336 := Nat.ne_of_lt (Nat.lt_of_lt_of_le (by have := World.block_lt_of_cell? _ _ hx337_0; first | rwa [add_block] at this | exact this) GW336.out); have hn337_4 : ad335.block ≠ gb336 := Nat.ne_of_lt (Nat.lt_of_lt_of_le (by have := World.block_lt_of_cell? _ _ hx337_0; first | rwa [add_block] at this | exact this) GW336.out); have hn337_5 : ad335.block ≠ gb336 := Nat.ne_of_lt (Nat.lt_of_lt_of_le (by have := World.block_lt_of_cell? _ _ hx337_0; first | rwa [add_block] at this | exact this) GW336.out); have hn337_6 : ad335.block ≠ gb336 := Nat.ne_of_lt (Nat.lt_of_lt_of_le (by have := World.block_lt_of_cell? _ _ hx337_0; first | rwa [add_block] at this | exact this) GW336.out); have hn337_7 : ad335.block ≠ gb336 := Nat.ne_of_lt (Nat.lt_of_lt_of_le (by have := World.block_lt_of_cell? _ _ hx337_0; first | rwa [add_block] at this | exact this) GW336.out); replace hx337_0 := (HB.out.cell (World.block_lt_of_cell? w _ hx337_0)).trans hx337_0; replace hx337_1 := (HB.out.cell (World.block_lt_of_cell? w _ hx337_1)).trans hx337_1; replace hx337_2 := (HB.out.cell (World.block_lt_of_cell? w _ hx337_2)).trans hx337_2; replace hx337_3 := (HB.out.cell (World.block_lt_of_cell? w _ hx337_3)).trans hx337_3; replace hx337_4 := (HB.out.cell (World.block_lt_of_cell? w _ hx337_4)).trans hx337_4; replace hx337_5 := (HB.out.cell (World.block_lt_of_cell? w _ hx337_5)).trans hx337_5; replace hx337_6 := (HB.out.cell (World.block_lt_of_cell? w _ hx337_6)).trans hx337_6; replace hx337_0 := (cell_far (p := ⟨gb336, 0, none⟩) (by first | (rw [add_block]; exact hn337_0) | (show (Addr.add _ _).block ≠ _; rw [add_block]; exact hn337_0) | exact hn337_0) (.int .i64 ((rd_T48 l0 a2).f0))).trans hx337_0; replace hx337_1 := (cell_far (p := ⟨gb336, 0, none⟩) (by first | (rw [add_block]; exact hn337_0) | (show (Addr.add _ _).block ≠ _; rw [add_block]; exact hn337_0) | exact hn337_0) (.int .i64 ((rd_T48 l0 a2).f0))).trans hx337_1; replace hx337_2 := (cell_far (p := ⟨gb336, 0, none⟩) (by first | (rw [add_block]; exact hn337_0) | (show (Addr.add _ _).block ≠ _; rw [add_block]; exact hn337_0) | exact hn337_0) (.int .i64 ((rd_T48 l0 a2).f0))).trans hx337_2; replace hx337_3 := (cell_far (p := ⟨gb336, 0, none⟩) (by first | (rw [add_block]; exact hn337_0) | (show (Addr.add _ _).block ≠ _; rw [add_block]; exact hn337_0) | exact hn337_0) (.int .i64 ((rd_T48 l0 a2).f0))).trans hx337_3; replace hx337_4 := (cell_far (p := ⟨gb336, 0, none⟩) (by first | (rw [add_block]; exact hn337_0) | (show (Addr.add _ _).block ≠ _; rw [add_block]; exact hn337_0) | exact hn337_0) (.int .i64 ((rd_T48 l0 a2).f0))).trans hx337_4; replace hx337_5 := (cell_far (p := ⟨gb336, 0, none⟩) (by first | (rw [add_block]; exact hn337_0) | (show (Addr.add _ _).block ≠ _; rw [add_block]; exact hn337_0) | exact hn337_0) (.int .i64 ((rd_T48 l0 a2).f0))).trans hx337_5; replace hx337_6 := (cell_far (p := ⟨gb336, 0, none⟩) (by first | (rw [add_block]; exact hn337_0) | (show (Addr.add _ _).block ≠ _; rw [add_block]; exact hn337_0) | exact hn337_0) (.int .i64 ((rd_T48 l0 a2).f0))).trans hx337_6; replace hx337_0 := (cell_far (p := ⟨gb336, 1, none⟩) (by first | (rw [add_block]; exact hn337_1) | (show (Addr.add _ _).block ≠ _; rw [add_block]; exact hn337_1) | exact hn337_1) (.int .i64 ((rd_T48 l0 a2).f1))).trans hx337_0; replace hx337_1 := (cell_far (p := ⟨gb336, 1, none⟩) (by first | (rw [add_block]; exact hn337_1) | (show (Addr.add _ _).block ≠ _; rw [add_block]; exact hn337_1) | exact hn337_1) (.int .i64 ((rd_T48 l0 a2).f1))).trans hx337_1; replace hx337_2 := (cell_far (p := ⟨gb336, 1, none⟩) (by first | (rw [add_block]; exact hn337_1) | (show (Addr.add _ _).block ≠ _; rw [add_block]; exact hn337_1) | exact hn337_1) (.int .i64 ((rd_T48 l0 a2).f1))).trans hx337_2; replace hx337_3 := (cell_far (p := ⟨gb336, 1, none⟩) (by first | (rw [add_block]; exact hn337_1) | (show (Addr.add _ _).block ≠ _; rw [add_block]; exact hn337_1) | exact hn337_1) (.int .i64 ((rd_T48 l0 a2).f1))).trans hx337_3; replace hx337_4 := (cell_far (p := ⟨gb336, 1, none⟩) (by first | (rw [add_block]; exact hn337_1) | (show (Addr.add _ _).block ≠ _; rw [add_block]; exact hn337_1) | exact hn337_1) (.int .i64 ((rd_T48 l0 a2).f1))).trans hx337_4; replace hx337_5 := (cell_far (p := ⟨gb336, 1, none⟩) (by first | (rw [add_block]; exact hn337_1) | (show (Addr.add _ _).block ≠ _; rw [add_block]; exact hn337_1) | exact hn337_1) (.int .i64 ((rd_T48 l0 a2).f1))).trans hx337_5; replace hx337_6 := (cell_far (p := ⟨gb336, 1, none⟩) (by first | (rw [add_block]; exact hn337_1) | (show (Addr.add _ _).block ≠ _; rw [add_block]; exact hn337_1) | exact hn337_1) (.int .i64 ((rd_T48 l0 a2).f1))).trans hx337_6; replace hx337_0 := (cell_far (p := ⟨gb336, 2, none⟩) (by first | (rw [add_block]; exact hn337_2) | (show (Addr.add _ _).block ≠ _; rw [add_block]; exact hn337_2) | exact hn337_2) (.int .i64 ((rd_T48 l0 a2).f2))).trans hx337_0; replace hx337_1 := (cell_far (p := ⟨gb336, 2, none⟩) (by first | (rw [add_block]; exact hn337_2) | (show (Addr.add _ _).block ≠ _; rw [add_block]; exact hn337_2) | exact hn337_2) (.int .i64 ((rd_T48 l0 a2).f2))).trans hx337_1; replace hx337_2 := (cell_far (p := ⟨gb336, 2, none⟩) (by first | (rw [add_block]; exact hn337_2) | (show (Addr.add _ _).block ≠ _; rw [add_block]; exact hn337_2) | exact hn337_2) (.int .i64 ((rd_T48 l0 a2).f2))).trans hx337_2; replace hx337_3 := (cell_far (p := ⟨gb336, 2, none⟩) (by first | (rw [add_block]; exact hn337_2) | (show (Addr.add _ _).block ≠ _; rw [add_block]; exact hn337_2) | exact hn337_2) (.int .i64 ((rd_T48 l0 a2).f2))).trans hx337_3; replace hx337_4 := (cell_far (p := ⟨gb336, 2, none⟩) (by first | (rw [add_block]; exact hn337_2) | (show (Addr.add _ _).block ≠ _; rw [add_block]; exact hn337_2) | exact hn337_2) (.int .i64 ((rd_T48 l0 a2).f2))).trans hx337_4; replace hx337_5 := (cell_far (p := ⟨gb336, 2, none⟩) (by first | (rw [add_block]; exact hn337_2) | (show (Addr.add _ _).block ≠ _; rw [add_block]; exact hn337_2) | exact hn337_2) (.int .i64 ((rd_T48 l0 a2).f2))).trans hx337_5; replace hx337_6 := (cell_far (p := ⟨gb336, 2, none⟩) (by first | (rw [add_block]; exact hn337_2) | (show (Addr.add _ _).block ≠ _; rw [add_block]; exact hn337_2) | exact hn337_2) (.int .i64 ((rd_T48 l0 a2).f2))).trans hx337_6; replace hx337_0 := (cell_far (p := ⟨gb336, 3, none⟩) (by first | (rw [add_block]; exact hn337_3) | (show (Addr.add _ _).block ≠ _; rw [add_block]; exact hn337_3) | exact hn337_3) (.int .i64 ((rd_T48 l0 a2).f3))).trans hx337_0; replace hx337_1 := (cell_far (p := ⟨gb336, 3, none⟩) (by first | (rw [add_block]; exact hn337_3) | (show (Addr.add _ _).block ≠ _; rw [add_block]; exact hn337_3) | exact hn337_3) (.int .i64 ((rd_T48 l0 a2).f3))).trans hx337_1; replace hx337_2 := (cell_far (p := ⟨gb336, 3, none⟩) (by first | (rw [add_block]; exact hn337_3) | (show (Addr.add _ _).block ≠ _; rw [add_block]; exact hn337_3) | exact hn337_3) (.int .i64 ((rd_T48 l0 a2).f3))).trans hx337_2; replace hx337_3 := (cell_far (p := ⟨gb336, 3, none⟩) (by first | (rw [add_block]; exact hn337_3) | (show (Addr.add _ _).block ≠ _; rw [add_block]; exact hn337_3) | exact hn337_3) (.int .i64 ((rd_T48 l0 a2).f3))).trans hx337_3; replace hx337_4 := (cell_far (p := ⟨gb336, 3, none⟩) (by first | (rw [add_block]; exact hn337_3) | (show (Addr.add _ _).block ≠ _; rw [add_block]; exact hn337_3) | exact hn337_3) (.int .i64 ((rd_T48 l0 a2).f3))).trans hx337_4; replace hx337_5 := (cell_far (p := ⟨gb336, 3, none⟩) (by first | (rw [add_block]; exact hn337_3) | (show (Addr.add _ _).block ≠ _; rw [add_block]; exact hn337_3) | exact hn337_3) (.int .i64 ((rd_T48 l0 a2).f3))).trans hx337_5; replace hx337_6 := (cell_far (p := ⟨gb336, 3, none⟩) (by first | (rw [add_block]; exact hn337_3) | (show (Addr.add _ _).block ≠ _; rw [add_block]; exact hn337_3) | exact hn337_3) (.int .i64 ((rd_T48 l0 a2).f3))).trans hx337_6; replace hx337_0 := (cell_far (p := ⟨gb336, 4, none⟩) (by first | (rw [add_block]; exact hn337_4) | (show (Addr.add _ _).block ≠ _; rw [add_block]; exact hn337_4) | exact hn337_4) (.int .i64 ((rd_T48 l0 a2).f4))).trans hx337_0; replace hx337_1 := (cell_far (p := ⟨gb336, 4, none⟩) (by first | (rw [add_block]; exact hn337_4) | (show (Addr.add _ _).block ≠ _; rw [add_block]; exact hn337_4) | exact hn337_4) (.int .i64 ((rd_T48 l0 a2).f4))).trans hx337_1; replace hx337_2 := (cell_far (p := ⟨gb336, 4, none⟩) (by first | (rw [add_block]; exact hn337_4) | (show (Addr.add _ _).block ≠ _; rw [add_block]; exact hn337_4) | exact hn337_4) (.int .i64 ((rd_T48 l0 a2).f4))).trans hx337_2; replace hx337_3 := (cell_far (p := ⟨gb336, 4, none⟩) (by first | (rw [add_block]; exact hn337_4) | (show (Addr.add _ _).block ≠ _; rw [add_block]; exact hn337_4) | exact hn337_4) (.int .i64 ((rd_T48 l0 a2).f4))).trans hx337_3; replace hx337_4 := (cell_far (p := ⟨gb336, 4, none⟩) (by first | (rw [add_block]; exact hn337_4) | (show (Addr.add _ _).block ≠ _; rw [add_block]; exact hn337_4) | exact hn337_4) (.int .i64 ((rd_T48 l0 a2).f4))).trans hx337_4; replace hx337_5 := (cell_far (p := ⟨gb336, 4, none⟩) (by first | (rw [add_block]; exact hn337_4) | (show (Addr.add _ _).block ≠ _; rw [add_block]; exact hn337_4) | exact hn337_4) (.int .i64 ((rd_T48 l0 a2).f4))).trans hx337_5; replace hx337_6 := (cell_far (p := ⟨gb336, 4, none⟩) (by first | (rw [add_block]; exact hn337_4) | (show (Addr.add _ _).block ≠ _; rw [add_block]; exact hn337_4) | exact hn337_4) (.int .i64 ((rd_T48 l0 a2).f4))).trans hx337_6; replace hx337_0 := (cell_far (p := ⟨gb336, 5, none⟩) (by first | (rw [add_block]; exact hn337_5) | (show (Addr.add _ _).block ≠ _; rw [add_block]; exact hn337_5) | exact hn337_5) (.string ((rd_T48 l0 a2).f5))).trans hx337_0; replace hx337_1 := (cell_far (p := ⟨gb336, 5, none⟩) (by first | (rw [add_block]; exact hn337_5) | (show (Addr.add _ _).block ≠ _; rw [add_block]; exact hn337_5) | exact hn337_5) (.string ((rd_T48 l0 a2).f5))).trans hx337_1; replace hx337_2 := (cell_far (p := ⟨gb336, 5, none⟩) (by first | (rw [add_block]; exact hn337_5) | (show (Addr.add _ _).block ≠ _; rw [add_block]; exact hn337_5) | exact hn337_5) (.string ((rd_T48 l0 a2).f5))).trans hx337_2; replace hx337_3 := (cell_far (p := ⟨gb336, 5, none⟩) (by first | (rw [add_block]; exact hn337_5) | (show (Addr.add _ _).block ≠ _; rw [add_block]; exact hn337_5) | exact hn337_5) (.string ((rd_T48 l0 a2).f5))).trans hx337_3; replace hx337_4 := (cell_far (p := ⟨gb336, 5, none⟩) (by first | (rw [add_block]; exact hn337_5) | (show (Addr.add _ _).block ≠ _; rw [add_block]; exact hn337_5) | exact hn337_5) (.string ((rd_T48 l0 a2).f5))).trans hx337_4; replace hx337_5 := (cell_far (p := ⟨gb336, 5, none⟩) (by first | (rw [add_block]; exact hn337_5) | (show (Addr.add _ _).block ≠ _; rw [add_block]; exact hn337_5) | exact hn337_5) (.string ((rd_T48 l0 a2).f5))).trans hx337_5; replace hx337_6 := (cell_far (p := ⟨gb336, 5, none⟩) (by first | (rw [add_block]; exact hn337_5) | (show (Addr.add _ _).block ≠ _; rw [add_block]; exact hn337_5) | exact hn337_5) (.string ((rd_T48 l0 a2).f5))).trans hx337_6; replace hx337_0 := (cell_far (p := ⟨gb336, 6, none⟩) (by first | (rw [add_block]; exact hn337_6) | (show (Addr.add _ _).block ≠ _; rw [add_block]; exact hn337_6) | exact hn337_6) (.string ((rd_T48 l0 a2).f6))).trans hx337_0; replace hx337_1 := (cell_far (p := ⟨gb336, 6, none⟩) (by first | (rw [add_block]; exact hn337_6) | (show (Addr.add _ _).block ≠ _; rw [add_block]; exact hn337_6) | exact hn337_6) (.string ((rd_T48 l0 a2).f6))).trans hx337_1; replace hx337_2 := (cell_far (p := ⟨gb336, 6, none⟩) (by first | (rw [add_block]; exact hn337_6) | (show (Addr.add _ _).block ≠ _; rw [add_block]; exact hn337_6) | exact hn337_6) (.string ((rd_T48 l0 a2).f6))).trans hx337_2; replace hx337_3 := (cell_far (p := ⟨gb336, 6, none⟩) (by first | (rw [add_block]; exact hn337_6) | (show (Addr.add _ _).block ≠ _; rw [add_block]; exact hn337_6) | exact hn337_6) (.string ((rd_T48 l0 a2).f6))).trans hx337_3; replace hx337_4 := (cell_far (p := ⟨gb336, 6, none⟩) (by first | (rw [add_block]; exact hn337_6) | (show (Addr.add _ _).block ≠ _; rw [add_block]; exact hn337_6) | exact hn337_6) (.string ((rd_T48 l0 a2).f6))).trans hx337_4; replace hx337_5 := (cell_far (p := ⟨gb336, 6, none⟩) (by first | (rw [add_block]; exact hn337_6) | (show (Addr.add _ _).block ≠ _; rw [add_block]; exact hn337_6) | exact hn337_6) (.string ((rd_T48 l0 a2).f6))).trans hx337_5; replace hx337_6 := (cell_far (p := ⟨gb336, 6, none⟩) (by first | (rw [add_block]; exact hn337_6) | (show (Addr.add _ _).block ≠ _; rw [add_block]; exact hn337_6) | exact hn337_6) (.string ((rd_T48 l0 a2).f6))).trans hx337_6; replace hx337_0 := (cell_far (p := ⟨gb336, 7, none⟩) (by first | (rw [add_block]; exact hn337_7) | (show (Addr.add _ _).block ≠ _; rw [add_block]; exact hn337_7) | exact hn337_7) (.slice none 0 0)).trans hx337_0; replace hx337_1 := (cell_far (p := ⟨gb336, 7, none⟩) (by first | (rw [add_block]; exact hn337_7) | (show (Addr.add _ _).block ≠ _; rw [add_block]; exact hn337_7) | exact hn337_7) (.slice none 0 0)).trans hx337_1; replace hx337_2 := (cell_far (p := ⟨gb336, 7, none⟩) (by first | (rw [add_block]; exact hn337_7) | (show (Addr.add _ _).block ≠ _; rw [add_block]; exact hn337_7) | exact hn337_7) (.slice none 0 0)).trans hx337_2; replace hx337_3 := (cell_far (p := ⟨gb336, 7, none⟩) (by first | (rw [add_block]; exact hn337_7) | (show (Addr.add _ _).block ≠ _; rw [add_block]; exact hn337_7) | exact hn337_7) (.slice none 0 0)).trans hx337_3; replace hx337_4 := (cell_far (p := ⟨gb336, 7, none⟩) (by first | (rw [add_block]; exact hn337_7) | (show (Addr.add _ _).block ≠ _; rw [add_block]; exact hn337_7) | exact hn337_7) (.slice none 0 0)).trans hx337_4; replace hx337_5 := (cell_far (p := ⟨gb336, 7, none⟩) (by first | (rw [add_block]; exact hn337_7) | (show (Addr.add _ _).block ≠ _; rw [add_block]; exact hn337_7) | exact hn337_7) (.slice none 0 0)).trans hx337_5; replace hx337_6 := (cell_far (p := ⟨gb336, 7, none⟩) (by first | (rw [add_block]; exact hn337_7) | (show (Addr.add _ _).block ≠ _; rw [add_block]; exact hn337_7) | exact hn337_7) (.slice none 0 0)).trans hx337_6; clear hn337_0; clear hn337_1; clear hn337_2; clear hn337_3; clear hn337_4; clear hn337_5; clear hn337_6; clear hn337_7; replace p337 := eq_true p337; replace q337 := eq_true q337) | ((with_reducible refine gate_callee (f := 45) rfl ?_); refine goesL_ (some 24) rfl rfl Tryd.func45 (by kernel_rfl) rfl #[.agg #[.int .i64 ((rd_T48 l0 a2).f0), .int .i64 ((rd_T48 l0 a2).f1), .int .i64 ((rd_T48 l0 a2).f2), .int .i64 ((rd_T48 l0 a2).f3), .int .i64 ((rd_T48 l0 a2).f4), .string ((rd_T48 l0 a2).f5), .string ((rd_T48 l0 a2).f6)]] rfl mm0 ?_; (with_reducible refine (impl_Kids.calls k ((rd_T48 l0 a2).f0) ((rd_T48 l0 a2).f1) ((rd_T48 l0 a2).f2) ((rd_T48 l0 a2).f3) ((rd_T48 l0 a2).f4) ((rd_T48 l0 a2).f5) ((rd_T48 l0 a2).f6) t338 _ A10.out).mono ?_); rintro e w15 ⟨v339, rfl, ho0, hb⟩; refine ⟨_, rfl, ?_⟩; have n0_ := Aside0.mk (Kd.V_lower (Kd.V_mono (ok' := fun k_ => k_ ≠ gb333 ∧ k_ ≠ gb336) ho0 (fun k_ hk_ => ⟨(Kd.freshB (g := gb333) (o := .cells #[.int .i64 0, .int .i64 0, .int .i64 0, .int .i64 0, .int .i64 0, .string (⟨#[]⟩ : ByteArray), .string (⟨#[]⟩ : ByteArray), .slice none 0 0] 56 (0, 0)) (by refine bk0 ?_; refine blk_far ?_ NB333_336.out _; refine bk0 ?_; refine blk_far ?_ NB333_336.out _; refine bk0 ?_; refine blk_far ?_ NB333_336.out _; refine bk0 ?_; refine blk_far ?_ NB333_336.out _; refine bk0 ?_; refine blk_far ?_ NB333_336.out _; refine bk0 ?_; refine blk_far ?_ NB333_336.out _; refine bk0 ?_; refine blk_far ?_ NB333_336.out _; refine bk0 ?_; refine blk_far ?_ NB333_336.out _; refine bk0 ?_; exact BK333.out) k_ hk_), (Kd.freshB (g := gb336) (o := .cells #[.int .i64 ((rd_T48 l0 a2).f0), .int .i64 ((rd_T48 l0 a2).f1), .int .i64 ((rd_T48 l0 a2).f2), .int .i64 ((rd_T48 l0 a2).f3), .int .i64 ((rd_T48 l0 a2).f4), .string ((rd_T48 l0 a2).f5), .string ((rd_T48 l0 a2).f6), .slice none 0 0] 56 (0, 0)) (by refine bk0 ?_; refine blk_put (cs := #[.int .i64 ((rd_T48 l0 a2).f0), .int .i64 ((rd_T48 l0 a2).f1), .int .i64 ((rd_T48 l0 a2).f2), .int .i64 ((rd_T48 l0 a2).f3), .int .i64 ((rd_T48 l0 a2).f4), .string ((rd_T48 l0 a2).f5), .string ((rd_T48 l0 a2).f6), .slice none 0 0]) ?_ 7 _ rfl; refine bk0 ?_; refine blk_put (cs := #[.int .i64 ((rd_T48 l0 a2).f0), .int .i64 ((rd_T48 l0 a2).f1), .int .i64 ((rd_T48 l0 a2).f2), .int .i64 ((rd_T48 l0 a2).f3), .int .i64 ((rd_T48 l0 a2).f4), .string ((rd_T48 l0 a2).f5), .string (⟨#[]⟩ : ByteArray), .slice none 0 0]) ?_ 6 _ rfl; refine bk0 ?_; refine blk_put (cs := #[.int .i64 ((rd_T48 l0 a2).f0), .int .i64 ((rd_T48 l0 a2).f1), .int .i64 ((rd_T48 l0 a2).f2), .int .i64 ((rd_T48 l0 a2).f3), .int .i64 ((rd_T48 l0 a2).f4), .string (⟨#[]⟩ : ByteArray), .string (⟨#[]⟩ : ByteArray), .slice none 0 0]) ?_ 5 _ rfl; refine bk0 ?_; refine blk_put (cs := #[.int .i64 ((rd_T48 l0 a2).f0), .int .i64 ((rd_T48 l0 a2).f1), .int .i64 ((rd_T48 l0 a2).f2), .int .i64 ((rd_T48 l0 a2).f3), .int .i64 0, .string (⟨#[]⟩ : ByteArray), .string (⟨#[]⟩ : ByteArray), .slice none 0 0]) ?_ 4 _ rfl; refine bk0 ?_; refine blk_put (cs := #[.int .i64 ((rd_T48 l0 a2).f0), .int .i64 ((rd_T48 l0 a2).f1), .int .i64 ((rd_T48 l0 a2).f2), .int .i64 0, .int .i64 0, .string (⟨#[]⟩ : ByteArray), .string (⟨#[]⟩ : ByteArray), .slice none 0 0]) ?_ 3 _ rfl; refine bk0 ?_; refine blk_put (cs := #[.int .i64 ((rd_T48 l0 a2).f0), .int .i64 ((rd_T48 l0 a2).f1), .int .i64 0, .int .i64 0, .int .i64 0, .string (⟨#[]⟩ : ByteArray), .string (⟨#[]⟩ : ByteArray), .slice none 0 0]) ?_ 2 _ rfl; refine bk0 ?_; refine blk_put (cs := #[.int .i64 ((rd_T48 l0 a2).f0), .int .i64 0, .int .i64 0, .int .i64 0, .int .i64 0, .string (⟨#[]⟩ : ByteArray), .string (⟨#[]⟩ : ByteArray), .slice none 0 0]) ?_ 1 _ rfl; refine bk0 ?_; refine blk_put (cs := #[.int .i64 0, .int .i64 0, .int .i64 0, .int .i64 0, .int .i64 0, .string (⟨#[]⟩ : ByteArray), .string (⟨#[]⟩ : ByteArray), .slice none 0 0]) ?_ 0 _ rfl; refine bk0 ?_; exact BK336.out) k_ hk_)⟩)) (below_size (bb2 GE333.out GE336.out))); have n1_ := Aside0.mk (blk_below (g := gb333) (o := .cells #[.int .i64 0, .int .i64 0, .int .i64 0, .int .i64 0, .int .i64 0, .string (⟨#[]⟩ : ByteArray), .string (⟨#[]⟩ : ByteArray), .slice none 0 0] 56 (0, 0)) (by refine bk0 ?_; refine blk_far ?_ NB333_336.out _; refine bk0 ?_; refine blk_far ?_ NB333_336.out _; refine bk0 ?_; refine blk_far ?_ NB333_336.out _; refine bk0 ?_; refine blk_far ?_ NB333_336.out _; refine bk0 ?_; refine blk_far ?_ NB333_336.out _; refine bk0 ?_; refine blk_far ?_ NB333_336.out _; refine bk0 ?_; refine blk_far ?_ NB333_336.out _; refine bk0 ?_; refine blk_far ?_ NB333_336.out _; refine bk0 ?_; exact BK333.out) hb); have n2_ := Aside0.mk (blk_below (g := gb336) (o := .cells #[.int .i64 ((rd_T48 l0 a2).f0), .int .i64 ((rd_T48 l0 a2).f1), .int .i64 ((rd_T48 l0 a2).f2), .int .i64 ((rd_T48 l0 a2).f3), .int .i64 ((rd_T48 l0 a2).f4), .string ((rd_T48 l0 a2).f5), .string ((rd_T48 l0 a2).f6), .slice none 0 0] 56 (0, 0)) (by refine bk0 ?_; refine blk_put (cs := #[.int .i64 ((rd_T48 l0 a2).f0), .int .i64 ((rd_T48 l0 a2).f1), .int .i64 ((rd_T48 l0 a2).f2), .int .i64 ((rd_T48 l0 a2).f3), .int .i64 ((rd_T48 l0 a2).f4), .string ((rd_T48 l0 a2).f5), .string ((rd_T48 l0 a2).f6), .slice none 0 0]) ?_ 7 _ rfl; refine bk0 ?_; refine blk_put (cs := #[.int .i64 ((rd_T48 l0 a2).f0), .int .i64 ((rd_T48 l0 a2).f1), .int .i64 ((rd_T48 l0 a2).f2), .int .i64 ((rd_T48 l0 a2).f3), .int .i64 ((rd_T48 l0 a2).f4), .string ((rd_T48 l0 a2).f5), .string (⟨#[]⟩ : ByteArray), .slice none 0 0]) ?_ 6 _ rfl; refine bk0 ?_; refine blk_put (cs := #[.int .i64 ((rd_T48 l0 a2).f0), .int .i64 ((rd_T48 l0 a2).f1), .int .i64 ((rd_T48 l0 a2).f2), .int .i64 ((rd_T48 l0 a2).f3), .int .i64 ((rd_T48 l0 a2).f4), .string (⟨#[]⟩ : ByteArray), .string (⟨#[]⟩ : ByteArray), .slice none 0 0]) ?_ 5 _ rfl; refine bk0 ?_; refine blk_put (cs := #[.int .i64 ((rd_T48 l0 a2).f0), .int .i64 ((rd_T48 l0 a2).f1), .int .i64 ((rd_T48 l0 a2).f2), .int .i64 ((rd_T48 l0 a2).f3), .int .i64 0, .string (⟨#[]⟩ : ByteArray), .string (⟨#[]⟩ : ByteArray), .slice none 0 0]) ?_ 4 _ rfl; refine bk0 ?_; refine blk_put (cs := #[.int .i64 ((rd_T48 l0 a2).f0), .int .i64 ((rd_T48 l0 a2).f1), .int .i64 ((rd_T48 l0 a2).f2), .int .i64 0, .int .i64 0, .string (⟨#[]⟩ : ByteArray), .string (⟨#[]⟩ : ByteArray), .slice none 0 0]) ?_ 3 _ rfl; refine bk0 ?_; refine blk_put (cs := #[.int .i64 ((rd_T48 l0 a2).f0), .int .i64 ((rd_T48 l0 a2).f1), .int .i64 0, .int .i64 0, .int .i64 0, .string (⟨#[]⟩ : ByteArray), .string (⟨#[]⟩ : ByteArray), .slice none 0 0]) ?_ 2 _ rfl; refine bk0 ?_; refine blk_put (cs := #[.int .i64 ((rd_T48 l0 a2).f0), .int .i64 0, .int .i64 0, .int .i64 0, .int .i64 0, .string (⟨#[]⟩ : ByteArray), .string (⟨#[]⟩ : ByteArray), .slice none 0 0]) ?_ 1 _ rfl; refine bk0 ?_; refine blk_put (cs := #[.int .i64 0, .int .i64 0, .int .i64 0, .int .i64 0, .int .i64 0, .string (⟨#[]⟩ : ByteArray), .string (⟨#[]⟩ : ByteArray), .slice none 0 0]) ?_ 0 _ rfl; refine bk0 ?_; exact BK336.out) hb); have n3_ := Aside0.mk (below_step (bb2 GE333.out GE336.out) hb); clear BK333; clear BK336; clear HB; have HO340 := n0_; have BK333 := n1_; have BK336 := n2_; have HB := n3_; clear n0_ n1_ n2_ n3_; (try clear hb); (try clear hb2); (try clear hk); (try clear hi); (try clear ho0); obtain ⟨Ao16, co16, eo16⟩ := Kd.V_slice HO340.out; subst eo16))
    go_loopg [26] k (fun kq v26 w' => ∃ (x26_1 : Int) (x337007_1 : List (S56)) (u337007 : Value), v26 = .int .i64 x26_1 ∧ Aside0 (impl_cutTree.l0 kq l0 l1 t338 (t338.length : Int) x26_1 ((rd_T48 l0 a2).f0) ((rd_T48 l0 a2).f1) ((rd_T48 l0 a2).f2) ((rd_T48 l0 a2).f3) ((rd_T48 l0 a2).f4) ((rd_T48 l0 a2).f5) ((rd_T48 l0 a2).f6) x337007_1 = some (r1, r2, r3, r4, r5, r6, r7, r8)) ∧ Aside0 (kq ≤ k) ∧ Aside0 (Kd.V (Kd.int .i64) 3 w' w.heap.size (fun k_ => some k_ ≠ (u337007 : Value).ownBlock ∧ k_ ≠ gb333 ∧ k_ ≠ gb336) (.slice Ao16 t338.length co16) t338) ∧ Aside0 (Kd.R k56 56 w' w.heap.size (fun k_ => k_ ≠ gb333 ∧ k_ ≠ gb336) u337007 x337007_1) ∧ Aside0 (w'.heap[gb333]? = some (.cells #[.int .i64 0, .int .i64 0, .int .i64 0, .int .i64 0, .int .i64 0, .string (⟨#[]⟩ : ByteArray), .string (⟨#[]⟩ : ByteArray), (.slice none 0 0)] 56 (0, 0))) ∧ Aside0 (w'.heap[gb336]? = some (.cells #[.int .i64 ((rd_T48 l0 a2).f0), .int .i64 ((rd_T48 l0 a2).f1), .int .i64 ((rd_T48 l0 a2).f2), .int .i64 ((rd_T48 l0 a2).f3), .int .i64 ((rd_T48 l0 a2).f4), .string ((rd_T48 l0 a2).f5), .string ((rd_T48 l0 a2).f6), u337007] 56 (0, 0))) ∧ Aside0 (Below w.heap.size w w'))
    case atStart => exact ⟨(0), (([] : List (S56))), (.slice none 0 0), rs0, H', ⟨Nat.le_refl _⟩, ⟨by (with_reducible repeat (first | apply Kd.V_alloc | apply Kd.V_drewN | apply Kd.V_drew)); exact Kd.V_mono HO340.out (fun _ hk => ⟨(by simp [Value.ownBlock]), ⟨hk.1, hk.2⟩⟩)⟩, ⟨by first | exact Kd.R_nil _ _ _ _ _ | exact Kd.N_nil _ _ _ _ _ | exact Kd.V_nil _ _ _ _ _ | exact Kd.Q_nil _ _ _ _ _ | exact Kd.S_nil _ _ _ _ _⟩, ⟨by refine bk0 ?_; exact BK333.out⟩, ⟨by refine bk0 ?_; exact BK336.out⟩, ⟨bb2 GE333.out GE336.out⟩⟩
    case round =>
     clear H'
     try clear c1
     try clear p2
     try clear c3
     try clear p3
     try clear q3
     try clear hx3
     try clear c4
     try clear c5
     try clear c8
     try clear c8b0
     try clear c9
     try clear c9b0
     try clear c13
     try clear hcz14_0
     try clear hcz14_1
     try clear hcz14_2
     try clear hcz14_3
     try clear hcz14_4
     try clear hcz14_5
     try clear hcz14_6
     try clear hcz14_7
     try clear hcz7_0
     try clear hcz7_1
     try clear hcz7_2
     try clear hcz7_3
     try clear hcz7_4
     try clear hcz7_5
     try clear hcz7_6
     try clear hcz7_7
     try clear hfz14_0
     try clear hfz14_1
     try clear hfz14_2
     try clear hfz14_3
     try clear hfz14_4
     try clear hfz14_5
     try clear hfz14_6
     try clear hfz14_7
     try clear hfz7_0
     try clear hfz7_1
     try clear hfz7_2
     try clear hfz7_3
     try clear hfz7_4
     try clear hfz7_5
     try clear hfz7_6
     try clear hfz7_7
     try clear hx335_0
     try clear hx335_1
     try clear hx335_2
     try clear hx335_3
     try clear hx335_4
     try clear hx335_5
     try clear hx335_6
     try clear hx337_0
     try clear hx337_1
     try clear hx337_2
     try clear hx337_3
     try clear hx337_4
     try clear hx337_5
     try clear hx337_6
     try clear p335
     try clear p337
     try clear q335
     try clear q337
     obtain ⟨x26_1, x337007_1, u337007, rfl, HA, HK1, HO_24, HO_337007, BK333, BK336, HB⟩ := hrel
     cases gk with
     | zero => exact absurd HA.out (by simp [impl_cutTree.l0])
     | succ k1 =>
      have H := HA.out
      clear HA
      simp only [impl_cutTree.l0] at H
      by_cases c17 : x26_1 < (t338.length : Int)
      ·rw [if_pos c17] at H
       have c17b0 : decide (x26_1 < (t338.length : Int)) = true := decide_eq_true c17
       clear c17
       by_cases c18 : 0 ≤ x26_1
       ·rw [if_pos c18] at H
        have c18b0 : decide (0 ≤ x26_1) = true := decide_eq_true c18
        clear c18
        by_cases c19 : x26_1 < (t338.length : Int)
        ·rw [if_pos c19] at H
         have c19b0 : decide (x26_1 < (t338.length : Int)) = true := decide_eq_true c19
         clear c19
         replace H := Option.bind_eq_some_iff.mp H
         obtain ⟨⟨t342, t343, t344, t345, t346, t347, t348, t349⟩, A200, H⟩ := H
         replace H : (if x337007_1.length < 1466015503701 then (impl_cutTree.l0 k1 l0 l1 t338 (t338.length : Int) (wrap64 (x26_1 + 1)) ((rd_T48 l0 a2).f0) ((rd_T48 l0 a2).f1) ((rd_T48 l0 a2).f2) ((rd_T48 l0 a2).f3) ((rd_T48 l0 a2).f4) ((rd_T48 l0 a2).f5) ((rd_T48 l0 a2).f6) (x337007_1 ++ [(⟨(⟨t342, t343, t344, t345, t346, t347, t348⟩ : S48), t349⟩ : S56)])) else (none)) = some (r1, r2, r3, r4, r5, r6, r7, r8) := H
         have A20 := Aside0.mk A200
         clear A200
         by_cases c21 : x337007_1.length < 1466015503701
         ·rw [if_pos c21] at H
          have LMc21 := Aside0.mk c21
          clear c21
          obtain ⟨y352, hy352⟩ : ∃ y_ : List (S56), y_ = (x337007_1 ++ [(⟨(⟨t342, t343, t344, t345, t346, t347, t348⟩ : S48), t349⟩ : S56)]) := ⟨_, rfl⟩
          replace H : (impl_cutTree.l0 k1 l0 l1 t338 (t338.length : Int) (wrap64 (x26_1 + 1)) ((rd_T48 l0 a2).f0) ((rd_T48 l0 a2).f1) ((rd_T48 l0 a2).f2) ((rd_T48 l0 a2).f3) ((rd_T48 l0 a2).f4) ((rd_T48 l0 a2).f5) ((rd_T48 l0 a2).f6) y352) = some (r1, r2, r3, r4, r5, r6, r7, r8) := by first | (rw [hy352]; with_reducible exact H) | (have H2_ := (Option.bind_some _ _).symm.trans H; rw [hy352]; with_reducible exact H2_) | (have H2_ := (Option.bind_some _ _).symm.trans H; with_reducible exact H2_) | with_reducible exact H | (rw [hy352]; exact H) | exact H
          have Ny352 := Aside0.mk hy352
          clear hy352
          have H' := Aside0.mk H
          clear H
          have p341 : 0 ≤ (x26_1 : Int) := of_decide_eq_true as0
          have q341 : x26_1 < (t338.length : Int) := of_decide_eq_true as0
          obtain ⟨ad341, e341, hx341_0⟩ := Kd.at_int (Kd.V_reads' HO_24.out).2.2 x26_1 p341 q341
          cases e341
          replace p341 := eq_true p341
          replace q341 := eq_true q341
          try go_wp2
          have n0_ := Aside0.mk (Kd.V_drew HO_24.out)
          have n1_ := Aside0.mk (Kd.R_drew HO_337007.out)
          have n2_ := Aside0.mk (blk_drew BK333.out)
          have n3_ := Aside0.mk (blk_drew BK336.out)
          have n4_ := Aside0.mk (below_drew1 HB.out)
          clear HO_24
          clear HO_337007
          clear BK333
          clear BK336
          clear HB
          have HO_24 := n0_
          have HO_337007 := n1_
          have BK333 := n2_
          have BK336 := n3_
          have HB := n4_
          clear n0_ n1_ n2_ n3_ n4_
          refine start_ (n := 10) (S := fun w' => w'.cell? ⟨gb336, 0, none⟩ = some (.int .i64 ((rd_T48 l0 a2).f0)) ∧ w'.cell? ⟨gb336, 1, none⟩ = some (.int .i64 ((rd_T48 l0 a2).f1)) ∧ w'.cell? ⟨gb336, 2, none⟩ = some (.int .i64 ((rd_T48 l0 a2).f2)) ∧ w'.cell? ⟨gb336, 3, none⟩ = some (.int .i64 ((rd_T48 l0 a2).f3)) ∧ w'.cell? ⟨gb336, 4, none⟩ = some (.int .i64 ((rd_T48 l0 a2).f4)) ∧ w'.cell? ⟨gb336, 5, none⟩ = some (.string ((rd_T48 l0 a2).f5)) ∧ w'.cell? ⟨gb336, 6, none⟩ = some (.string ((rd_T48 l0 a2).f6)) ∧ w'.cell? ⟨gb336, 7, none⟩ = some (u337007)) (ds := [9]) #[false, false, false, false, false, false, false, false, false, false] (by kernel_rfl) rfl rfl ⟨(blk_cell BK336.out 0).trans rfl, (blk_cell BK336.out 1).trans rfl, (blk_cell BK336.out 2).trans rfl, (blk_cell BK336.out 3).trans rfl, (blk_cell BK336.out 4).trans rfl, (blk_cell BK336.out 5).trans rfl, (blk_cell BK336.out 6).trans rfl, (blk_cell BK336.out 7).trans rfl⟩ (fun hHeld => ?_); refine with_tabW impl_cutTree.tab7 impl_cutTree.bits7 (fun HT_ HW_ => ?_)
          generalize wr.drew = w22 at HO_24 HO_337007 BK333 BK336 HB hHeld ⊢
          refine pure_ (i := 0) (N := some 30) (v := ?_) (a' := ?_) #[true, false, false, false, false, false, false, false, false, false] rfl rfl (any_of HT_.out (by kernel_rfl)) (fun _ _ _ h => h) (Or.inl ⟨by rfl, ?_⟩) ?_ ?_
          rotate_left
          ·intro w'
           go_simp
           with_reducible rfl
          rotate_left
          ·simp only [Act.put, List.setIfInBounds_toArray, List.set_cons_zero, List.set_cons_succ, i64_w, i32_w]
           rfl
          refine pure_ (i := 2) (N := some 32) (v := ?_) (a' := ?_) #[true, false, true, false, false, false, false, false, false, false] rfl rfl (any_of HT_.out (by kernel_rfl)) (fun _ _ _ h => h) (Or.inl ⟨by rfl, ?_⟩) ?_ ?_
          rotate_left
          ·intro w'
           go_simp
           with_reducible rfl
          rotate_left
          ·simp only [Act.put, List.setIfInBounds_toArray, List.set_cons_zero, List.set_cons_succ, i64_w, i32_w]
           rfl
          refine pure_ (i := 3) (N := some 33) (v := ?_) (a' := ?_) #[true, false, true, true, false, false, false, false, false, false] rfl rfl (any_of HT_.out (by kernel_rfl)) (fun _ _ _ h => h) (Or.inl ⟨by rfl, ?_⟩) ?_ ?_
          rotate_left
          ·intro w'
           go_simp
           with_reducible rfl
          rotate_left
          ·simp only [Act.put, List.setIfInBounds_toArray, List.set_cons_zero, List.set_cons_succ, i64_w, i32_w]
           rfl
          refine pure_ (i := 4) (N := some 34) (v := ?_) (a' := ?_) #[true, false, true, true, true, false, false, false, false, false] rfl rfl (any_of HT_.out (by kernel_rfl)) (fun _ _ _ h => h) (Or.inl ⟨by rfl, ?_⟩) ?_ ?_
          rotate_left
          ·intro w'
           go_simp
           with_reducible rfl
          rotate_left
          ·simp only [Act.put, List.setIfInBounds_toArray, List.set_cons_zero, List.set_cons_succ, i64_w, i32_w]
           rfl
          refine take_ (i := 1) (N := some 31) (v := ?_) (a' := ?_) #[true, true, true, true, true, false, false, false, false, false] rfl rfl (take_ofW HT_.out HW_.out (by kernel_rfl)) (fun _ _ _ h => h) (Or.inl ⟨by rfl, ?_⟩) hHeld ?_ ?_
          rotate_left
          ·rintro w' ⟨s0, s1, s2, s3, s4, s5, s6, s7⟩
           go_simp
           with_reducible rfl
          rotate_left
          ·simp only [Act.put, List.setIfInBounds_toArray, List.set_cons_zero, List.set_cons_succ, i64_w, i32_w]
           rfl
          refine one_ (i := 5) (N := some 35) #[true, true, true, true, true, true, false, false, false, false] rfl rfl (one_of HT_.out (by kernel_rfl)) (by decide) (fun K hK => ?_)
          refine goes_ Tryd.func37 (by kernel_rfl) rfl #[.slice (some ad335) l0.length c0, .slice A1 l1.length c1, .int .i64 (rd t338 x26_1)] (by rfl) rfl rfl mm0 ?_
          with_reducible refine (ih k1 (by have := HK1.out; omega) _ _ l0 _ _ l1 (rd t338 x26_1) t342 t343 t344 t345 t346 t347 t348 t349 _ ?side1 ?side2 ?side3 ?side4 A20.out).mono ?_
          (case side1 => exact cc0 (Kd.C_below HR0.out HB.out))
          (case side2 => exact HC0.out)
          (case side3 => exact cc0 (Kd.C_below HR1.out HB.out))
          (case side4 => exact HC1.out)
          rintro e w23 ⟨v350, rfl, ho0, hb⟩
          refine ⟨_, rfl, ?_⟩
          have n0_ := Aside0.mk (Kd.V_elder' (by (with_reducible repeat (first | apply Kd.V_alloc | apply Kd.V_drewN | apply Kd.V_drew)); exact HO_24.out) (Kd.R_base ho0) hb)
          have n1_ := Aside0.mk (Kd.R_elder' (ra0 HO_337007.out) (Kd.R_base ho0) hb)
          have n2_ := Aside0.mk (Kd.R_lower (Kd.R_newB (Kd.R_newB (Kd.R_new' ho0 (Kd.R_lt (ra0 HO_337007.out))) (g := gb333) (o := .cells #[.int .i64 0, .int .i64 0, .int .i64 0, .int .i64 0, .int .i64 0, .string (⟨#[]⟩ : ByteArray), .string (⟨#[]⟩ : ByteArray), .slice none 0 0] 56 (0, 0)) (bk0 BK333.out)) (g := gb336) (o := .cells #[.int .i64 ((rd_T48 l0 a2).f0), .int .i64 ((rd_T48 l0 a2).f1), .int .i64 ((rd_T48 l0 a2).f2), .int .i64 ((rd_T48 l0 a2).f3), .int .i64 ((rd_T48 l0 a2).f4), .string ((rd_T48 l0 a2).f5), .string ((rd_T48 l0 a2).f6), u337007] 56 (0, 0)) (bk0 BK336.out)) (below_size (bb2 GE333.out GE336.out)))
          have n3_ := Aside0.mk (blk_below (g := gb333) (o := .cells #[.int .i64 0, .int .i64 0, .int .i64 0, .int .i64 0, .int .i64 0, .string (⟨#[]⟩ : ByteArray), .string (⟨#[]⟩ : ByteArray), .slice none 0 0] 56 (0, 0)) (bk0 BK333.out) hb)
          have n4_ := Aside0.mk (blk_below (g := gb336) (o := .cells #[.int .i64 ((rd_T48 l0 a2).f0), .int .i64 ((rd_T48 l0 a2).f1), .int .i64 ((rd_T48 l0 a2).f2), .int .i64 ((rd_T48 l0 a2).f3), .int .i64 ((rd_T48 l0 a2).f4), .string ((rd_T48 l0 a2).f5), .string ((rd_T48 l0 a2).f6), u337007] 56 (0, 0)) (bk0 BK336.out) hb)
          have n5_ := Aside0.mk (below_step (bb2 GE333.out GE336.out) hb)
          clear HO_24
          clear HO_337007
          clear BK333
          clear BK336
          clear HB
          have HO_24 := n0_
          have HO_337007 := n1_
          have HO351 := n2_
          have BK333 := n3_
          have BK336 := n4_
          have HB := n5_
          clear n0_ n1_ n2_ n3_ n4_ n5_
          (try clear hb)
          (try clear hb2)
          (try clear hk)
          (try clear hi)
          (try clear ho0)
          obtain ⟨Ao25, co25, eo25⟩ := Kd.R_slice HO351.out
          (first | subst eo25 | (injection eo25 with f1_ f2_ f3_; have f4_ := f1_.symm; have f5_ := f3_.symm; clear f1_ f2_ f3_; subst f4_; subst f5_))
          refine hK.out _ _ ⟨(blk_cell BK336.out 0).trans rfl, (blk_cell BK336.out 1).trans rfl, (blk_cell BK336.out 2).trans rfl, (blk_cell BK336.out 3).trans rfl, (blk_cell BK336.out 4).trans rfl, (blk_cell BK336.out 5).trans rfl, (blk_cell BK336.out 6).trans rfl, (blk_cell BK336.out 7).trans rfl⟩ (fun hHeld => ?_)
          clear hK K
          refine norm_ (a' := ?_) ?_ ?_
          rotate_left
          ·show Act.put _ (some 35) _ = _
           simp only [Act.put, List.setIfInBounds_toArray, List.set_cons_zero, List.set_cons_succ, i64_w, i32_w]
           rfl
          refine one_ (i := 6) (N := some 36) #[true, true, true, true, true, true, true, false, false, false] rfl rfl (one_of HT_.out (by kernel_rfl)) (by decide) (fun K hK => ?_)
          refine value_ (w1 := ?_) (v := ?_) (by rfl) rfl ?_ ?_
          rotate_left 2
          ·go_simp
           constructor
           ·rfl
           ·rfl
          refine hK.out _ _ ⟨(blk_cell (blk_alloc BK336.out _) 0).trans rfl, (blk_cell (blk_alloc BK336.out _) 1).trans rfl, (blk_cell (blk_alloc BK336.out _) 2).trans rfl, (blk_cell (blk_alloc BK336.out _) 3).trans rfl, (blk_cell (blk_alloc BK336.out _) 4).trans rfl, (blk_cell (blk_alloc BK336.out _) 5).trans rfl, (blk_cell (blk_alloc BK336.out _) 6).trans rfl, (blk_cell (blk_alloc BK336.out _) 7).trans rfl⟩ (fun hHeld => ?_)
          clear hK K
          refine norm_ (a' := ?_) ?_ ?_
          rotate_left
          ·show Act.put _ (some 36) _ = _
           simp only [Act.put, List.setIfInBounds_toArray, List.set_cons_zero, List.set_cons_succ, i64_w, i32_w]
           rfl
          refine one_ (i := 7) (N := some 37) #[true, true, true, true, true, true, true, true, false, false] rfl rfl (one_of HT_.out (by kernel_rfl)) (by decide) (fun K hK => ?_)
          refine Kd.R_append_step k56 (w0 := w) w.heap.size (by rfl) (.tmp 31) (.tmp 36) 54 56 (.agg #[(.int .i64 0), (.int .i64 0), (.int .i64 0), (.int .i64 0), (.int .i64 0), (.string ⟨#[]⟩), (.string ⟨#[]⟩), (.slice none 0 0)]) 96 rfl Tryd.underlying54 info56 rfl (by decide) (by omega) u337007 x337007_1 (⟨(⟨t342, t343, t344, t345, t346, t347, t348⟩ : S48), t349⟩ : S56) [.int .i64 t342, .int .i64 t343, .int .i64 t344, .int .i64 t345, .int .i64 t346, .string t347, .string t348, .slice Ao25 t349.length co25] (fun k_ => k_ ≠ gb333 ∧ k_ ≠ gb336) (fun k_ => ((fun k_ => k_ ≠ gb333 ∧ k_ ≠ gb336)) k_ ∧ some k_ ≠ (u337007 : Value).ownBlock) rfl rfl ?aP (fun _ hk => hk) ?aF ?aO ?aB ?aS ?aL ?_
          (case aP => exact k56_mkM _ _ _ (⟨(⟨t342, t343, t344, t345, t346, t347, t348⟩ : S48), t349⟩ : S56) (Kd.R_mono (HO351.out) (fun k_ hk => ⟨⟨hk.1.2, hk.2⟩, hk.1.1.2⟩)))
          (case aB => exact (bb2 GE333.out GE336.out))
          (case aF => exact (fun k_ hk => ⟨Kd.freshB (g := gb333) (o := .cells #[.int .i64 0, .int .i64 0, .int .i64 0, .int .i64 0, .int .i64 0, .string (⟨#[]⟩ : ByteArray), .string (⟨#[]⟩ : ByteArray), .slice none 0 0] 56 (0, 0)) (bk0 BK333.out) k_ hk, Kd.freshB (g := gb336) (o := .cells #[.int .i64 ((rd_T48 l0 a2).f0), .int .i64 ((rd_T48 l0 a2).f1), .int .i64 ((rd_T48 l0 a2).f2), .int .i64 ((rd_T48 l0 a2).f3), .int .i64 ((rd_T48 l0 a2).f4), .string ((rd_T48 l0 a2).f5), .string ((rd_T48 l0 a2).f6), u337007] 56 (0, 0)) (bk0 BK336.out) k_ hk⟩))
          (case aO => exact (by refine ra0 ?_; exact Kd.R_mono HO_337007.out (fun _ hk => ⟨hk.1.1, hk.1.2⟩)))
          (case aS => exact (below_size (bb2 GE333.out GE336.out)))
          (case aL => have := LMc21.out; omega)
          intro v353 w24 ho hb hg hat
          rw [← Ny352.out] at ho
          have n0_ := Aside0.mk (Kd.V_afterv (ok := (fun k_ => some k_ ≠ (.slice Ao25 t349.length co25 : Value).ownBlock ∧ k_ ≠ gb333 ∧ k_ ≠ gb336)) (by (with_reducible repeat (first | apply Kd.V_alloc | apply Kd.V_drewN | apply Kd.V_drew)); exact Kd.V_mono HO_24.out (fun _ hk => ⟨⟨hk.2, ⟨hk.1.2.1, hk.1.2.2⟩⟩, hk.1.1⟩)) hg hat)
          have n1_ := Aside0.mk (blk_grown (g := gb333) (o := .cells #[.int .i64 0, .int .i64 0, .int .i64 0, .int .i64 0, .int .i64 0, .string (⟨#[]⟩ : ByteArray), .string (⟨#[]⟩ : ByteArray), .slice none 0 0] 56 (0, 0)) (bk0 BK333.out) hg (Kd.R_away HO_337007.out (fun _ hk => hk.1.1)))
          have n2_ := Aside0.mk (blk_grown (g := gb336) (o := .cells #[.int .i64 ((rd_T48 l0 a2).f0), .int .i64 ((rd_T48 l0 a2).f1), .int .i64 ((rd_T48 l0 a2).f2), .int .i64 ((rd_T48 l0 a2).f3), .int .i64 ((rd_T48 l0 a2).f4), .string ((rd_T48 l0 a2).f5), .string ((rd_T48 l0 a2).f6), u337007] 56 (0, 0)) (bk0 BK336.out) hg (Kd.R_away HO_337007.out (fun _ hk => hk.1.2)))
          have n3_ := Aside0.mk (hb)
          have n4_ := Aside0.mk (ho)
          clear HO_24
          clear BK333
          clear BK336
          clear HB
          clear HO_337007
          clear HO351
          have HO_24 := n0_
          have BK333 := n1_
          have BK336 := n2_
          have HB := n3_
          have HO354 := n4_
          clear n0_ n1_ n2_ n3_ n4_
          clear ho hb hg hat
          obtain ⟨Ao26, co26, eo26⟩ := Kd.R_slice HO354.out
          (first | subst eo26 | (injection eo26 with f1_ f2_ f3_; have f4_ := f1_.symm; have f5_ := f3_.symm; clear f1_ f2_ f3_; subst f4_; subst f5_))
          refine hK.out _ _ ⟨(blk_cell BK336.out 0).trans rfl, (blk_cell BK336.out 1).trans rfl, (blk_cell BK336.out 2).trans rfl, (blk_cell BK336.out 3).trans rfl, (blk_cell BK336.out 4).trans rfl, (blk_cell BK336.out 5).trans rfl, (blk_cell BK336.out 6).trans rfl, (blk_cell BK336.out 7).trans rfl⟩ (fun hHeld => ?_)
          clear hK K
          refine norm_ (a' := ?_) ?_ ?_
          rotate_left
          ·show Act.put _ (some 37) _ = _
           simp only [Act.put, List.setIfInBounds_toArray, List.set_cons_zero, List.set_cons_succ, i64_w, i32_w]
           rfl
          refine pure_ (i := 8) (N := some 38) (v := ?_) (a' := ?_) #[true, true, true, true, true, true, true, true, true, false] rfl rfl (any_of HT_.out (by kernel_rfl)) (fun _ _ _ h => h) (Or.inl ⟨by rfl, ?_⟩) ?_ ?_
          rotate_left
          ·intro w'
           go_simp
           with_reducible rfl
          rotate_left
          ·simp only [Act.put, List.setIfInBounds_toArray, List.set_cons_zero, List.set_cons_succ, i64_w, i32_w]
           rfl
          refine last_ (i := 9) (N := none) #[true, true, true, true, true, true, true, true, true, true] rfl rfl (one_of HT_.out (by kernel_rfl)) (by decide) (fun K hK => ?_)
          have hs27 : w24.cell? ⟨gb336, 7, none⟩ = some (u337007) := (blk_cell BK336.out 7).trans rfl
          have hfs27 := blk_frozen BK336.out 7
          have hns27_0 := NB333_336.out
          have hms27_0 := NB336_333.out
          refine skip_ (w1 := ?_) (by rfl) rfl ?_ ?_
          rotate_left
          ·go_simp
           rfl
          refine hK.out _ _ ?_
          clear hK K
          refine done_ (done_of HT_.out (by kernel_rfl)) ?_
          try go_wp2
          go_roundg k1
          case measure => have := HK1.out; omega
          case rel => exact ⟨(wrap64 (x26_1 + 1)), (y352), (.slice Ao26 y352.length co26), rs0, H', ⟨by have := HK1.out; omega⟩, ⟨by (with_reducible repeat (first | apply Kd.V_alloc | apply Kd.V_drewN | apply Kd.V_drew)); exact Kd.V_mono (Kd.V_far (p := ⟨gb336, 7, none⟩) (Kd.V_mono HO_24.out (fun k_ hk => (⟨hk, hk.1.2.2⟩ : _ ∧ k_ ≠ gb336))) (fun _ hk => hk.2) (.slice Ao26 y352.length co26)) (fun _ hk => ⟨hk.1.2, ⟨hk.1.1.2.1, hk.1.1.2.2⟩⟩)⟩, ⟨by (try simp only [setCell_drewN]); refine ra0 ?_; exact Kd.R_mono (Kd.R_far (p := ⟨gb336, 7, none⟩) (Kd.R_mono HO354.out (fun k_ hk => (⟨hk, hk.2⟩ : _ ∧ k_ ≠ gb336))) (fun _ hk => hk.2) (.slice Ao26 y352.length co26)) (fun _ hk => ⟨hk.1.1, hk.1.2⟩)⟩, ⟨by refine bk0 ?_; refine blk_far ?_ NB333_336.out _; refine bk0 ?_; exact BK333.out⟩, ⟨by refine bk0 ?_; refine blk_put (cs := #[.int .i64 ((rd_T48 l0 a2).f0), .int .i64 ((rd_T48 l0 a2).f1), .int .i64 ((rd_T48 l0 a2).f2), .int .i64 ((rd_T48 l0 a2).f3), .int .i64 ((rd_T48 l0 a2).f4), .string ((rd_T48 l0 a2).f5), .string ((rd_T48 l0 a2).f6), u337007]) ?_ 7 _ rfl; refine bk0 ?_; exact BK336.out⟩, ⟨bb2 GE333.out GE336.out⟩⟩
         ·rw [if_neg c21] at H
          exact absurd H (by simp)
        ·rw [if_neg c19] at H
         exact absurd H (by simp)
       ·rw [if_neg c18] at H
        exact absurd H (by simp)
      ·rw [if_neg c17] at H
       have c17b0 : decide (x26_1 < (t338.length : Int)) = false := decide_eq_false c17
       clear c17
       simp only [Option.some.injEq, Prod.mk.injEq] at H
       obtain ⟨rfl, rfl, rfl, rfl, rfl, rfl, rfl, rfl⟩ := H
       have hnb28 := NB336_333.out
       have hnc28 := NB333_336.out
       obtain ⟨hcz29_0, hcz29_1, hcz29_2, hcz29_3, hcz29_4, hcz29_5, hcz29_6, hcz29_7⟩ := cells8 BK336.out
       obtain ⟨hfz29_0, hfz29_1, hfz29_2, hfz29_3, hfz29_4, hfz29_5, hfz29_6, hfz29_7⟩ := frz8 BK336.out
       obtain ⟨hcz30_0, hcz30_1, hcz30_2, hcz30_3, hcz30_4, hcz30_5, hcz30_6, hcz30_7⟩ := cells8 BK333.out
       obtain ⟨hfz30_0, hfz30_1, hfz30_2, hfz30_3, hfz30_4, hfz30_5, hfz30_6, hfz30_7⟩ := frz8 BK333.out
       obtain ⟨Ao31, co31, eo31⟩ := Kd.R_slice HO_337007.out
       subst eo31
       go_wp2
       refine bodyPost_ret (results_cell_row rfl _ _ gb333 56 #[.int .i64 ((rd_T48 l0 a2).f0), .int .i64 ((rd_T48 l0 a2).f1), .int .i64 ((rd_T48 l0 a2).f2), .int .i64 ((rd_T48 l0 a2).f3), .int .i64 ((rd_T48 l0 a2).f4), .string ((rd_T48 l0 a2).f5), .string ((rd_T48 l0 a2).f6), .slice Ao31 x337007_1.length co31] (0, 0) _ rfl (by refine bk0 ?_; refine blk_put (cs := #[.int .i64 ((rd_T48 l0 a2).f0), .int .i64 ((rd_T48 l0 a2).f1), .int .i64 ((rd_T48 l0 a2).f2), .int .i64 ((rd_T48 l0 a2).f3), .int .i64 ((rd_T48 l0 a2).f4), .string ((rd_T48 l0 a2).f5), .string ((rd_T48 l0 a2).f6), .slice none 0 0]) ?_ 7 _ rfl; refine bk0 ?_; refine blk_put (cs := #[.int .i64 ((rd_T48 l0 a2).f0), .int .i64 ((rd_T48 l0 a2).f1), .int .i64 ((rd_T48 l0 a2).f2), .int .i64 ((rd_T48 l0 a2).f3), .int .i64 ((rd_T48 l0 a2).f4), .string ((rd_T48 l0 a2).f5), .string (⟨#[]⟩ : ByteArray), .slice none 0 0]) ?_ 6 _ rfl; refine bk0 ?_; refine blk_put (cs := #[.int .i64 ((rd_T48 l0 a2).f0), .int .i64 ((rd_T48 l0 a2).f1), .int .i64 ((rd_T48 l0 a2).f2), .int .i64 ((rd_T48 l0 a2).f3), .int .i64 ((rd_T48 l0 a2).f4), .string (⟨#[]⟩ : ByteArray), .string (⟨#[]⟩ : ByteArray), .slice none 0 0]) ?_ 5 _ rfl; refine bk0 ?_; refine blk_put (cs := #[.int .i64 ((rd_T48 l0 a2).f0), .int .i64 ((rd_T48 l0 a2).f1), .int .i64 ((rd_T48 l0 a2).f2), .int .i64 ((rd_T48 l0 a2).f3), .int .i64 0, .string (⟨#[]⟩ : ByteArray), .string (⟨#[]⟩ : ByteArray), .slice none 0 0]) ?_ 4 _ rfl; refine bk0 ?_; refine blk_put (cs := #[.int .i64 ((rd_T48 l0 a2).f0), .int .i64 ((rd_T48 l0 a2).f1), .int .i64 ((rd_T48 l0 a2).f2), .int .i64 0, .int .i64 0, .string (⟨#[]⟩ : ByteArray), .string (⟨#[]⟩ : ByteArray), .slice none 0 0]) ?_ 3 _ rfl; refine bk0 ?_; refine blk_put (cs := #[.int .i64 ((rd_T48 l0 a2).f0), .int .i64 ((rd_T48 l0 a2).f1), .int .i64 0, .int .i64 0, .int .i64 0, .string (⟨#[]⟩ : ByteArray), .string (⟨#[]⟩ : ByteArray), .slice none 0 0]) ?_ 2 _ rfl; refine bk0 ?_; refine blk_put (cs := #[.int .i64 ((rd_T48 l0 a2).f0), .int .i64 0, .int .i64 0, .int .i64 0, .int .i64 0, .string (⟨#[]⟩ : ByteArray), .string (⟨#[]⟩ : ByteArray), .slice none 0 0]) ?_ 1 _ rfl; refine bk0 ?_; refine blk_put (cs := #[.int .i64 0, .int .i64 0, .int .i64 0, .int .i64 0, .int .i64 0, .string (⟨#[]⟩ : ByteArray), .string (⟨#[]⟩ : ByteArray), .slice none 0 0]) ?_ 0 _ rfl; refine bk0 ?_; exact BK333.out) Tryd.underlying56 rfl (by kernel_rfl)) rfl ?_
       exact ⟨_, er0, by (try simp only [setCell_drewN]); refine ra0 ?_; exact Kd.R_mono (Kd.R_far (p := ⟨gb333, 7, none⟩) (Kd.R_far (p := ⟨gb333, 6, none⟩) (Kd.R_far (p := ⟨gb333, 5, none⟩) (Kd.R_far (p := ⟨gb333, 4, none⟩) (Kd.R_far (p := ⟨gb333, 3, none⟩) (Kd.R_far (p := ⟨gb333, 2, none⟩) (Kd.R_far (p := ⟨gb333, 1, none⟩) (Kd.R_far (p := ⟨gb333, 0, none⟩) (Kd.R_mono HO_337007.out (fun k_ hk => (⟨hk, hk.1⟩ : _ ∧ k_ ≠ gb333))) (fun _ hk => hk.2) (.int .i64 ((rd_T48 l0 a2).f0))) (fun _ hk => hk.2) (.int .i64 ((rd_T48 l0 a2).f1))) (fun _ hk => hk.2) (.int .i64 ((rd_T48 l0 a2).f2))) (fun _ hk => hk.2) (.int .i64 ((rd_T48 l0 a2).f3))) (fun _ hk => hk.2) (.int .i64 ((rd_T48 l0 a2).f4))) (fun _ hk => hk.2) (.string ((rd_T48 l0 a2).f5))) (fun _ hk => hk.2) (.string ((rd_T48 l0 a2).f6))) (fun _ hk => hk.2) (.slice Ao31 x337007_1.length co31)) (fun _ hk => trivial), bb2 GE333.out GE336.out⟩
   ·rw [if_neg c9] at H
    exact absurd H (by simp)
  ·rw [if_neg c8] at H
   exact absurd H (by simp)

end Go.Proofs.YtoebebgeiahagaaDoor.PFnExactPruneTo
