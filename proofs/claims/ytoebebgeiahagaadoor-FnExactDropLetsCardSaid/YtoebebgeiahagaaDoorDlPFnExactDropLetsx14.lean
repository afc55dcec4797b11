-- Printed by this session's own program (wip/tools)
import Derived.Test.YtoebebgeiahagaaDoorDlPFnExactDropLetsx0
import Derived.Test.YtoebebgeiahagaaDoorDlPFnExactDropLetsx5
import Derived.Test.YtoebebgeiahagaaDoorDlPFnExactDropLetsx11
import Derived.Test.YtoebebgeiahagaaDoorDlPFnExactDropLetsx12
import Derived.Test.YtoebebgeiahagaaDoorDlPFnExactDropLetsx13
namespace Go.Proofs.YtoebebgeiahagaaDoor.PFnExactDropLets
open Go.RowKit Go.Proofs.YtoebebgeiahagaaDoorW.PrintWords Go.Proofs.YtoebebgeiahagaaDoorW.PrintLast Go.Proofs.YtoebebgeiahagaaDoorW.PrintMore
attribute [local go_sem] max2_int min2_int max_two min_two max_three min_three max_four min_four   -- for this text's walks alone
set_option linter.unusedVariables false
set_option linter.unusedSimpArgs false

/-! ### spec_l23Part: function 39 -/
mutual
def spec_l23Part.l0 : Nat → List (S48) → Int → List Int → List (List (S48)) → Int → Int → Int → Int → Int → Int → ByteArray → ByteArray → Option ((List (S48)))
 | 0, _, _, _, _, _, _, _, _, _, _, _, _ => none
 | k + 1, x0, x1, x6, x7, x8, x334000, x334001, x334002, x334003, x334004, x334005, x334006 => if x8 < (x6.length : Int) then (if 0 ≤ x8 then ((spec_l23Part.f k x0 (rd x6 x8)).bind fun t341 => (if x7.length < 5864062014805 then (spec_l23Part.l0 k x0 x1 x6 (x7 ++ [t341]) (wrap64 (x8 + 1)) x334000 x334001 x334002 x334003 x334004 x334005 x334006) else (none))) else (none)) else (if x334000 = 5 then ((spec_l23Effect.f k x0 x334001).bind fun t347 => (if t347 = 0 then ((spec_UsedName.f k x0 x1 0).bind fun t348 => (spec_l23Part.j1 k x7 (!t348) x334000 x334001 x334002 x334003 x334004 x334005 x334006)) else (spec_l23Part.j1 k x7 false x334000 x334001 x334002 x334003 x334004 x334005 x334006))) else (spec_l23Part.j1 k x7 false x334000 x334001 x334002 x334003 x334004 x334005 x334006))
def spec_l23Part.j1 : Nat → List (List (S48)) → Bool → Int → Int → Int → Int → Int → ByteArray → ByteArray → Option ((List (S48)))
 | 0, _, _, _, _, _, _, _, _, _ => none
 | k + 1, x7, x47, x334000, x334001, x334002, x334003, x334004, x334005, x334006 => if x47 = true then (if 1 < (x7.length : Int) then (some (rd_L5 x7 1)) else (none)) else (if (x7.length : Int) = 0 then (some (([(⟨x334000, 0, 0, 0, x334004, x334005, x334006⟩ : S48)] : List (S48)))) else (if (x7.length : Int) = 1 then (if 0 < (x7.length : Int) then ((spec_l3Make.f k x334000 0 0 0 x334004 x334005 x334006 (([rd_L5 x7 0] : List (List (S48))))).bind fun t357 => (some t357)) else (none)) else (if (x7.length : Int) = 2 then (if 0 < (x7.length : Int) then (if 1 < (x7.length : Int) then ((spec_l3Make.f k x334000 0 0 0 x334004 x334005 x334006 (([rd_L5 x7 0, rd_L5 x7 1] : List (List (S48))))).bind fun t365 => (some t365)) else (none)) else (none)) else (if 0 < (x7.length : Int) then (if 1 < (x7.length : Int) then (if 2 < (x7.length : Int) then ((spec_l3Make.f k x334000 0 0 0 x334004 x334005 x334006 (([rd_L5 x7 0, rd_L5 x7 1, rd_L5 x7 2] : List (List (S48))))).bind fun t374 => (some t374)) else (none)) else (none)) else (none)))))
def spec_l23Part.f : Nat → List (S48) → Int → Option ((List (S48)))
 | 0, _, _ => none
 | k + 1, l0, a1 => if 0 ≤ a1 then (if a1 < (l0.length : Int) then ((spec_Kids.f k ((rd_T48 l0 a1).f0) ((rd_T48 l0 a1).f1) ((rd_T48 l0 a1).f2) ((rd_T48 l0 a1).f3) ((rd_T48 l0 a1).f4) ((rd_T48 l0 a1).f5) ((rd_T48 l0 a1).f6)).bind fun t334 => (spec_l23Part.l0 k l0 a1 t334 (([] : List (List (S48)))) 0 ((rd_T48 l0 a1).f0) ((rd_T48 l0 a1).f1) ((rd_T48 l0 a1).f2) ((rd_T48 l0 a1).f3) ((rd_T48 l0 a1).f4) ((rd_T48 l0 a1).f5) ((rd_T48 l0 a1).f6))) else (none)) else (none)
end
theorem spec_l23Part.mono_l : ∀ k, (∀ y0 y1, LeO (spec_l23Part.f k y0 y1) (spec_l23Part.f (k + 1) y0 y1)) ∧ (∀ y0 y1 y2 y3 y4 y5 y6 y7 y8 y9 y10 y11, LeO (spec_l23Part.l0 k y0 y1 y2 y3 y4 y5 y6 y7 y8 y9 y10 y11) (spec_l23Part.l0 (k + 1) y0 y1 y2 y3 y4 y5 y6 y7 y8 y9 y10 y11)) ∧ (∀ y0 y1 y2 y3 y4 y5 y6 y7 y8, LeO (spec_l23Part.j1 k y0 y1 y2 y3 y4 y5 y6 y7 y8) (spec_l23Part.j1 (k + 1) y0 y1 y2 y3 y4 y5 y6 y7 y8))
 | 0 => ⟨fun _ _ r h => by simp [spec_l23Part.f] at h, fun _ _ _ _ _ _ _ _ _ _ _ _ r h => by simp [spec_l23Part.l0] at h, fun _ _ _ _ _ _ _ _ _ r h => by simp [spec_l23Part.j1] at h⟩
 | k + 1 => by
  obtain ⟨ih0, ih1, ih2⟩ := spec_l23Part.mono_l k
  refine ⟨?_, ?_, ?_⟩
  ·intro y0 y1
   unfold spec_l23Part.f
   repeat' first
   | (with_reducible exact ih0 _ _)
   | (with_reducible exact ih1 _ _ _ _ _ _ _ _ _ _ _ _)
   | (with_reducible exact ih2 _ _ _ _ _ _ _ _ _)
   | (with_reducible exact spec_Kids.mono _ _ _ _ _ _ _ _)
   | (with_reducible exact spec_UsedName.mono _ _ _ _)
   | (with_reducible exact spec_l23Effect.mono _ _ _)
   | (with_reducible exact spec_l3Make.mono _ _ _ _ _ _ _ _ _)
   | (with_reducible exact LeO.refl _)
   | (with_reducible exact LeO.none _)
   | (with_reducible refine LeO.ite ?_ ?_)
   | (with_reducible refine LeO.bind ?_ (fun _ => ?_))
   | exact ih0 _ _
   | exact ih1 _ _ _ _ _ _ _ _ _ _ _ _
   | exact ih2 _ _ _ _ _ _ _ _ _
   | exact spec_Kids.mono _ _ _ _ _ _ _ _
   | exact spec_UsedName.mono _ _ _ _
   | exact spec_l23Effect.mono _ _ _
   | exact spec_l3Make.mono _ _ _ _ _ _ _ _ _
   | exact LeO.none _
   | refine LeO.ite ?_ ?_
   | refine LeO.bind ?_ (fun _ => ?_)
  ·intro y0 y1 y2 y3 y4 y5 y6 y7 y8 y9 y10 y11
   unfold spec_l23Part.l0
   repeat' first
   | (with_reducible exact ih0 _ _)
   | (with_reducible exact ih1 _ _ _ _ _ _ _ _ _ _ _ _)
   | (with_reducible exact ih2 _ _ _ _ _ _ _ _ _)
   | (with_reducible exact spec_Kids.mono _ _ _ _ _ _ _ _)
   | (with_reducible exact spec_UsedName.mono _ _ _ _)
   | (with_reducible exact spec_l23Effect.mono _ _ _)
   | (with_reducible exact spec_l3Make.mono _ _ _ _ _ _ _ _ _)
   | (with_reducible exact LeO.refl _)
   | (with_reducible exact LeO.none _)
   | (with_reducible refine LeO.ite ?_ ?_)
   | (with_reducible refine LeO.bind ?_ (fun _ => ?_))
   | exact ih0 _ _
   | exact ih1 _ _ _ _ _ _ _ _ _ _ _ _
   | exact ih2 _ _ _ _ _ _ _ _ _
   | exact spec_Kids.mono _ _ _ _ _ _ _ _
   | exact spec_UsedName.mono _ _ _ _
   | exact spec_l23Effect.mono _ _ _
   | exact spec_l3Make.mono _ _ _ _ _ _ _ _ _
   | exact LeO.none _
   | refine LeO.ite ?_ ?_
   | refine LeO.bind ?_ (fun _ => ?_)
  ·intro y0 y1 y2 y3 y4 y5 y6 y7 y8
   unfold spec_l23Part.j1
   repeat' first
   | (with_reducible exact ih0 _ _)
   | (with_reducible exact ih1 _ _ _ _ _ _ _ _ _ _ _ _)
   | (with_reducible exact ih2 _ _ _ _ _ _ _ _ _)
   | (with_reducible exact spec_Kids.mono _ _ _ _ _ _ _ _)
   | (with_reducible exact spec_UsedName.mono _ _ _ _)
   | (with_reducible exact spec_l23Effect.mono _ _ _)
   | (with_reducible exact spec_l3Make.mono _ _ _ _ _ _ _ _ _)
   | (with_reducible exact LeO.refl _)
   | (with_reducible exact LeO.none _)
   | (with_reducible refine LeO.ite ?_ ?_)
   | (with_reducible refine LeO.bind ?_ (fun _ => ?_))
   | exact ih0 _ _
   | exact ih1 _ _ _ _ _ _ _ _ _ _ _ _
   | exact ih2 _ _ _ _ _ _ _ _ _
   | exact spec_Kids.mono _ _ _ _ _ _ _ _
   | exact spec_UsedName.mono _ _ _ _
   | exact spec_l23Effect.mono _ _ _
   | exact spec_l3Make.mono _ _ _ _ _ _ _ _ _
   | exact LeO.none _
   | refine LeO.ite ?_ ?_
   | refine LeO.bind ?_ (fun _ => ?_)
theorem spec_l23Part.mono : ∀ a0 a1 k, LeO (spec_l23Part.f k a0 a1) (spec_l23Part.f (k + 1) a0 a1) := by
 intro a0 a1 k
 obtain ⟨ih0, ih1, ih2⟩ := spec_l23Part.mono_l k
 exact ih0 a0 a1
def spec_l23Part.T19 : Bool × List (List Nat × List Nat) := (true, [([], []), ([], []), ([1], [1]), ([2], [2]), ([], []), ([4], [4]), ([5], [5]), ([3, 6], [3, 6]), ([0, 7], [0, 7]), ([8, 8, 0, 1, 2, 3, 4, 5, 6, 7, 8], [8])])
def spec_l23Part.B19 : List Nat := [0, 0, 2, 6, 0, 16, 48, 126, 255, 511]
theorem spec_l23Part.tab19 : rtab .any (opsOf Tryd.f39 19) = spec_l23Part.T19 := by kernel_rfl
theorem spec_l23Part.bits19 : waitsOk spec_l23Part.T19.2 spec_l23Part.B19 = true := by kernel_rfl
def spec_l23Part.T20 : Bool × List (List Nat × List Nat) := (true, [([], []), ([], []), ([1], [1]), ([2], [2]), ([], []), ([4], [4]), ([5], [5]), ([], []), ([7], [7]), ([8], [8]), ([3, 6, 9], [3, 6, 9]), ([0, 10], [0, 10]), ([11, 11, 0, 1, 2, 3, 4, 5, 6, 7, 8, 9, 10, 11], [11])])
def spec_l23Part.B20 : List Nat := [0, 0, 2, 6, 0, 16, 48, 0, 128, 384, 1022, 2047, 4095]
theorem spec_l23Part.tab20 : rtab .any (opsOf Tryd.f39 20) = spec_l23Part.T20 := by kernel_rfl
theorem spec_l23Part.bits20 : waitsOk spec_l23Part.T20.2 spec_l23Part.B20 = true := by kernel_rfl
set_option maxHeartbeats 8000000 in
set_option maxRecDepth 100000 in
theorem spec_l23Part.calls (k : Nat) : ∀ (A0 : Option Addr) (c0 : Nat) (l0 : List (S48)) (a1 : Int) (r : List (S48)) (w : World) (hr0 : Kd.C k48 w A0 l0.length l0) (hc0 : l0.length ≤ c0) (h : spec_l23Part.f k l0 a1 = some r),
  Calls Tryd.prog 39 #[.slice A0 l0.length c0, .int .i64 a1] w fun e w' => ∃ v0_ : Value, e = .returned (v0_) ∧ Kd.V k48 48 w' w.heap.size (fun k_ => (w.heap.size ≤ k_)) v0_ r ∧ Below w.heap.size w w' := by
 induction k using Nat.strongRecOn with
 | _ k ih =>
 intro A0 c0 l0 a1 r w hr0 hc0 h
 cases k with
 | zero => exact absurd h (by simp [spec_l23Part.f])
 | succ k =>
 simp only [spec_l23Part.f] at h
 have hu48 := Tryd.underlying48
 have hu32 := Tryd.underlying32
 have HR0 := Aside0.mk hr0
 have HC0 := Aside0.mk hc0
 clear hr0 hc0
 have HB := Aside0.mk (Below.refl w.heap.size w)
 have H := h
 clear h
 by_cases c3 : 0 ≤ a1
 ·rw [if_pos c3] at H
  have c3b0 := decide_eq_true c3
  clear c3
  by_cases c4 : a1 < (l0.length : Int)
  ·rw [if_pos c4] at H
   have c4b0 := decide_eq_true c4
   clear c4
   obtain ⟨t334, A5, H⟩ := bx H
   obtain ⟨y337, hy337⟩ : ∃ y_ : List (List (S48)), y_ = (([] : List (List (S48)))) := ⟨_, rfl⟩
   replace H : (spec_l23Part.l0 k l0 a1 t334 y337 0 ((rd_T48 l0 a1).f0) ((rd_T48 l0 a1).f1) ((rd_T48 l0 a1).f2) ((rd_T48 l0 a1).f3) ((rd_T48 l0 a1).f4) ((rd_T48 l0 a1).f5) ((rd_T48 l0 a1).f6)) = some r := by first | (rw [hy337]; with_reducible exact H) | (have H2_ := (Option.bind_some _ _).symm.trans H; rw [hy337]; with_reducible exact H2_) | (have H2_ := (Option.bind_some _ _).symm.trans H; with_reducible exact H2_) | with_reducible exact H | (rw [hy337]; exact H) | exact H
   have Ny337 := Aside0.mk hy337
   clear hy337
   have H' := Aside0.mk H
   clear H
   have p332 : 0 ≤ (a1 : Int) := of_decide_eq_true as0
   have q332 : a1 < (l0.length : Int) := of_decide_eq_true as0
   obtain ⟨ad332, e332, hx332_0, hx332_1, hx332_2, hx332_3, hx332_4, hx332_5, hx332_6⟩ := at_T48 HR0.out a1 p332 q332
   cases e332
   replace p332 := eq_true p332
   replace q332 := eq_true q332
   go_enter Tryd.func39, Tryd.ntmps39
   go_wp2_with (first | ((with_reducible refine gate_dst (N := 5) rfl ?_); refine box_event ?hg (N := 5) ?hd (cs := #[.int .i64 0, .int .i64 0, .int .i64 0, .int .i64 0, .int .i64 0, .string (⟨#[]⟩ : ByteArray), .string (⟨#[]⟩ : ByteArray)]) (t := 48) ?hr ?_; (case hd => rfl); (case hg => rfl); (case hr => first | (go_simp; done) | (go_simp; rfl)); intro gb333 hg w6 hbox hb; have BK333 := Aside0.mk (hbox); have GW333 := Aside0.mk ((by rw [hg]; exact (below_size bb0) : w.heap.size ≤ gb333)); have GE333 := Aside0.mk ((by rw [hg]; exact (below_size bb0) : w.heap.size ≤ gb333)); replace HB := Aside0.mk (below_step bb0 hb); clear hb hbox hg; obtain ⟨hcz7_0, hcz7_1, hcz7_2, hcz7_3, hcz7_4, hcz7_5, hcz7_6⟩ := cells7 BK333.out; obtain ⟨hfz7_0, hfz7_1, hfz7_2, hfz7_3, hfz7_4, hfz7_5, hfz7_6⟩ := frz7 BK333.out) | ((with_reducible refine gate_callee (f := 43) rfl ?_); refine goesL_ (some 14) rfl rfl Tryd.func43 (by kernel_rfl) rfl #[.agg #[.int .i64 ((rd_T48 l0 a1).f0), .int .i64 ((rd_T48 l0 a1).f1), .int .i64 ((rd_T48 l0 a1).f2), .int .i64 ((rd_T48 l0 a1).f3), .int .i64 ((rd_T48 l0 a1).f4), .string ((rd_T48 l0 a1).f5), .string ((rd_T48 l0 a1).f6)]] rfl mm0 ?_; (with_reducible refine (spec_Kids.calls k ((rd_T48 l0 a1).f0) ((rd_T48 l0 a1).f1) ((rd_T48 l0 a1).f2) ((rd_T48 l0 a1).f3) ((rd_T48 l0 a1).f4) ((rd_T48 l0 a1).f5) ((rd_T48 l0 a1).f6) t334 _ A5.out).mono ?_); rintro e w8 ⟨v335, rfl, ho0, hb⟩; refine ⟨_, rfl, ?_⟩; have HO336 := Aside0.mk (Kd.R_lower (Kd.R_newM (M := fun k_ => (w.heap.size ≤ k_)) ho0 (below_size (bb1 GE333.out)) (fun k_ h_ => h_)) (below_size (bb1 GE333.out))); replace BK333 := Aside0.mk (blk_below (g := gb333) (bk1 BK333.out) hb); replace HB := Aside0.mk (below_step (bb1 GE333.out) hb); clear hb ho0) | ((with_reducible refine gate_dst (N := 15) rfl ?_); refine Kd.N_lit (Kd.slice 48 k48) _ 25 ?hg (N' := 15) ?hd (xs := ([] : List (List (S48)))) (inner := []) (ok := (fun k_ => (w.heap.size ≤ k_) ∧ some k_ ≠ (v335 : Value).ownBlock ∧ k_ ≠ gb333)) (okp := (fun k_ => (w.heap.size ≤ k_) ∧ some k_ ≠ (v335 : Value).ownBlock ∧ k_ ≠ gb333)) ?hr ?hp (fun _ hk => hk) ((show ∀ k_, w8.heap.size ≤ k_ → (fun k_ => (w.heap.size ≤ k_) ∧ some k_ ≠ (v335 : Value).ownBlock ∧ k_ ≠ gb333) k_ from fun k_ hk => ⟨(Nat.le_trans (below_size (bb1 GE333.out)) hk), Kd.fresh' (Kd.R_lt (ra0 HO336.out)) k_ hk, Kd.freshB (g := gb333) (bk0 BK333.out) k_ hk⟩) _ (Nat.le_refl _)) (Below.refl _ _) (Nat.le_refl _) (by simp) ?_; (case hd => rfl); (case hg => rfl); (case hr => first | (go_simp; done) | (go_simp; rfl)); (case hp => exact (Reps.none _ _)); intro v338 w9 ho10 hb hg_ hnew_; clear hg_ hnew_; (first | rw [← Ny337.out] at ho10 | (simp only [Int.reduceToNat] at ho10; rw [← Ny337.out] at ho10)); replace HO336 := Aside0.mk (Kd.R_below (ra0 HO336.out) hb); have HO339 := Aside0.mk (Kd.N_lower ho10 (below_size (bb1 GE333.out))); replace BK333 := Aside0.mk (blk_below (g := gb333) (bk0 BK333.out) hb); replace HB := Aside0.mk (below_step (bb1 GE333.out) hb); clear hb ho10))
   go_simp
   go_loopg [7, 8] k (fun kq v7 v8 w' => ∃ (x7_1 : List (List (S48))) (x8_1 : Int), v8 = .int .i64 x8_1 ∧ Aside0 (spec_l23Part.l0 kq l0 a1 t334 x7_1 x8_1 ((rd_T48 l0 a1).f0) ((rd_T48 l0 a1).f1) ((rd_T48 l0 a1).f2) ((rd_T48 l0 a1).f3) ((rd_T48 l0 a1).f4) ((rd_T48 l0 a1).f5) ((rd_T48 l0 a1).f6) = some r) ∧ Aside0 (kq ≤ k) ∧ Aside0 (Kd.R (Kd.int .i64) 3 w' w.heap.size (fun k_ => (w.heap.size ≤ k_)) v335 t334) ∧ Aside0 (Kd.N (Kd.slice 48 k48) 25 w' w.heap.size (fun k_ => (w.heap.size ≤ k_) ∧ some k_ ≠ (v335 : Value).ownBlock ∧ k_ ≠ gb333) v7 x7_1) ∧ Aside0 (w'.heap[gb333]? = some (.cells #[.int .i64 ((rd_T48 l0 a1).f0), .int .i64 ((rd_T48 l0 a1).f1), .int .i64 ((rd_T48 l0 a1).f2), .int .i64 ((rd_T48 l0 a1).f3), .int .i64 ((rd_T48 l0 a1).f4), .string ((rd_T48 l0 a1).f5), .string ((rd_T48 l0 a1).f6)] 48 (0, 0))) ∧ Aside0 (Below w.heap.size w w'))
   case atStart => exact ⟨(y337), (0), rs0, H', ⟨Nat.le_refl _⟩, ⟨by refine ra0 ?_; exact Kd.R_mono HO336.out (fun _ hk => hk.1)⟩, ⟨by (with_reducible repeat (first | apply Kd.N_alloc | apply Kd.N_drewN | apply Kd.N_drew)); exact HO339.out⟩, ⟨by refine bk0 ?_; exact BK333.out⟩, ⟨bb1 GE333.out⟩⟩
   case round =>
    clear H'
    try clear p2
    try clear c3
    try clear c3b0
    try clear p3
    try clear q3
    try clear hx3
    try clear c4
    try clear c4b0
    try clear hcz7_0
    try clear hcz7_1
    try clear hcz7_2
    try clear hcz7_3
    try clear hcz7_4
    try clear hcz7_5
    try clear hcz7_6
    try clear hfz7_0
    try clear hfz7_1
    try clear hfz7_2
    try clear hfz7_3
    try clear hfz7_4
    try clear hfz7_5
    try clear hfz7_6
    try clear hx332_0
    try clear hx332_1
    try clear hx332_2
    try clear hx332_3
    try clear hx332_4
    try clear hx332_5
    try clear hx332_6
    try clear p332
    try clear q332
    obtain ⟨x7_1, x8_1, rfl, HA, HK1, HO_6, HO_7, BK333, HB⟩ := hrel
    cases gk with
    | zero => exact absurd HA.out (by simp [spec_l23Part.l0])
    | succ k1 =>
     have H := HA.out
     clear HA
     simp only [spec_l23Part.l0] at H
     by_cases c11 : x8_1 < (t334.length : Int)
     ·rw [if_pos c11] at H
      have c11b0 := decide_eq_true c11
      clear c11
      by_cases c12 : 0 ≤ x8_1
      ·rw [if_pos c12] at H
       have c12b0 := decide_eq_true c12
       clear c12
       obtain ⟨t341, A13, H⟩ := bx H
       by_cases c14 : x7_1.length < 5864062014805
       ·rw [if_pos c14] at H
        have LMc14 := Aside0.mk c14
        clear c14
        obtain ⟨y344, hy344⟩ : ∃ y_ : List (List (S48)), y_ = (x7_1 ++ [t341]) := ⟨_, rfl⟩
        replace H : (spec_l23Part.l0 k1 l0 a1 t334 y344 (wrap64 (x8_1 + 1)) ((rd_T48 l0 a1).f0) ((rd_T48 l0 a1).f1) ((rd_T48 l0 a1).f2) ((rd_T48 l0 a1).f3) ((rd_T48 l0 a1).f4) ((rd_T48 l0 a1).f5) ((rd_T48 l0 a1).f6)) = some r := by first | (rw [hy344]; with_reducible exact H) | (have H2_ := (Option.bind_some _ _).symm.trans H; rw [hy344]; with_reducible exact H2_) | (have H2_ := (Option.bind_some _ _).symm.trans H; with_reducible exact H2_) | with_reducible exact H | (rw [hy344]; exact H) | exact H
        have Ny344 := Aside0.mk hy344
        clear hy344
        have H' := Aside0.mk H
        clear H
        obtain ⟨Ao15, co15, eo15⟩ := Kd.R_slice HO_6.out
        subst eo15
        have p340 : 0 ≤ (x8_1 : Int) := of_decide_eq_true as0
        have q340 : x8_1 < (t334.length : Int) := of_decide_eq_true as0
        obtain ⟨ad340, e340, hx340_0⟩ := Kd.at_int (Kd.R_reads' HO_6.out).2.2 x8_1 p340 q340
        cases e340
        replace p340 := eq_true p340
        replace q340 := eq_true q340
        go_wp2_with (first | ((with_reducible refine gate_callee (f := 39) rfl ?_); refine goesL_ (some 28) rfl rfl Tryd.func39 (by kernel_rfl) rfl #[.slice (some ad332) l0.length c0, .int .i64 (rd t334 x8_1)] rfl mm0 ?_; (with_reducible refine (ih k1 (by have := HK1.out; omega) _ _ l0 (rd t334 x8_1) t341 _ ?side1 ?side2 A13.out).mono ?_); (case side1 => exact cc0 (Kd.C_below HR0.out HB.out)); (case side2 => exact HC0.out); rintro e w16 ⟨v342, rfl, ho0, hb⟩; refine ⟨_, rfl, ?_⟩; have HO343 := Aside0.mk (Kd.V_lower (Kd.V_mono (ok' := fun k_ => (w.heap.size ≤ k_) ∧ some k_ ≠ (.slice (some ad340) t334.length co15 : Value).ownBlock ∧ some k_ ≠ (u7 : Value).ownBlock ∧ k_ ≠ gb333) ho0 (fun k_ hk_ => ⟨(Nat.le_trans (below_size (bb1 GE333.out)) hk_), (Kd.fresh' (Kd.R_lt (ra0 HO_6.out)) k_ hk_), (Kd.fresh' (Kd.N_lt (by (with_reducible repeat (first | apply Kd.N_alloc | apply Kd.N_drewN | apply Kd.N_drew)); exact HO_7.out)) k_ hk_), (Kd.freshB (g := gb333) (bk0 BK333.out) k_ hk_)⟩)) (below_size (bb1 GE333.out))); replace HO_6 := Aside0.mk (Kd.R_below (ra0 HO_6.out) hb); replace HO_7 := Aside0.mk (Kd.N_below (by (with_reducible repeat (first | apply Kd.N_alloc | apply Kd.N_drewN | apply Kd.N_drew)); exact HO_7.out) hb); replace BK333 := Aside0.mk (blk_below (g := gb333) (bk0 BK333.out) hb); replace HB := Aside0.mk (below_step (bb1 GE333.out) hb); clear hb ho0; obtain ⟨Ao18, co18, eo18⟩ := Kd.V_slice HO343.out; subst eo18) | ((with_reducible refine gate_builtin (b := .append) (xs := #[(.tmp 22), .tmp 29]) rfl ?_); at_builtin; refine Kd.N_append (Kd.slice 48 k48) (w0 := w) w.heap.size rfl (.tmp 22) (.tmp 29) 71 25 (.slice none 0 0) 24 rfl Tryd.underlying71 info25 rfl (by decide) (by omega) u7 x7_1 t341 [.slice Ao18 t341.length co18] (fun k_ => (w.heap.size ≤ k_) ∧ some k_ ≠ (.slice (some ad340) t334.length co15 : Value).ownBlock ∧ k_ ≠ gb333) (fun k_ => ((fun k_ => (w.heap.size ≤ k_) ∧ some k_ ≠ (.slice (some ad340) t334.length co15 : Value).ownBlock ∧ k_ ≠ gb333)) k_ ∧ some k_ ≠ (u7 : Value).ownBlock) rfl rfl ?aP (fun _ hk => hk) ?aF ?aO ?aB ?aS ?aL ?_; (case aP => exact (Kd.FK_slice_mk (Kd.V_reads' (Kd.V_mono (ok' := (fun k_ => ((fun k_ => (w.heap.size ≤ k_) ∧ some k_ ≠ (.slice (some ad340) t334.length co15 : Value).ownBlock ∧ k_ ≠ gb333)) k_ ∧ some k_ ≠ (u7 : Value).ownBlock)) (HO343.out) (fun k_ hk => ⟨⟨hk.1, ⟨hk.2.1, hk.2.2.2⟩⟩, hk.2.2.1⟩))).2.1 (Kd.V_F (Kd.V_mono (ok' := (fun k_ => ((fun k_ => (w.heap.size ≤ k_) ∧ some k_ ≠ (.slice (some ad340) t334.length co15 : Value).ownBlock ∧ k_ ≠ gb333)) k_ ∧ some k_ ≠ (u7 : Value).ownBlock)) (HO343.out) (fun k_ hk => ⟨⟨hk.1, ⟨hk.2.1, hk.2.2.2⟩⟩, hk.2.2.1⟩))))); (case aB => exact (bb1 GE333.out)); (case aF => exact (fun k_ hk => ⟨(Nat.le_trans (below_size (bb1 GE333.out)) hk), Kd.fresh' (Kd.R_lt (ra0 HO_6.out)) k_ hk, Kd.freshB (g := gb333) (bk0 BK333.out) k_ hk⟩)); (case aO => exact (by (with_reducible repeat (first | apply Kd.N_alloc | apply Kd.N_drewN | apply Kd.N_drew)); exact HO_7.out)); (case aS => exact (below_size (bb1 GE333.out))); (case aL => have := LMc14.out; omega); intro v345 w17 ho hb hg hat; rw [← Ny344.out] at ho; have n0_ := Aside0.mk (Kd.R_over' (ra0 HO_6.out) (Kd.N_typed (by (with_reducible repeat (first | apply Kd.N_alloc | apply Kd.N_drewN | apply Kd.N_drew)); exact HO_7.out)) (by decide) hg); have n1_ := Aside0.mk (blk_grown (g := gb333) (bk0 BK333.out) hg (Kd.N_ne HO_7.out BK333.out (by decide))); have n2_ := Aside0.mk (Kd.V_afterv (ok := (fun k_ => (w.heap.size ≤ k_) ∧ some k_ ≠ (.slice (some ad340) t334.length co15 : Value).ownBlock ∧ k_ ≠ gb333)) (by (with_reducible repeat (first | apply Kd.V_alloc | apply Kd.V_drewN | apply Kd.V_drew)); exact Kd.V_mono HO343.out (fun _ hk => ⟨⟨hk.1, ⟨hk.2.1, hk.2.2.2⟩⟩, hk.2.2.1⟩)) hg hat); have n3_ := Aside0.mk (hb); have n4_ := Aside0.mk (ho); clear HO_6; clear BK333; clear HO343; clear HB; clear HO_7; have HO_6 := n0_; have BK333 := n1_; have HO343 := n2_; have HB := n3_; have HO346 := n4_; clear n0_ n1_ n2_ n3_ n4_; clear ho hb hg hat))
        go_roundg k1
        case measure => have := HK1.out; omega
        case rel => exact ⟨(y344), (wrap64 (x8_1 + 1)), rs0, H', ⟨by have := HK1.out; omega⟩, ⟨by refine ra0 ?_; exact HO_6.out⟩, ⟨by (with_reducible repeat (first | apply Kd.N_alloc | apply Kd.N_drewN | apply Kd.N_drew)); exact HO346.out⟩, ⟨by refine bk0 ?_; exact BK333.out⟩, ⟨bb1 GE333.out⟩⟩
       ·rw [if_neg c14] at H
        exact absurd H (by simp)
      ·rw [if_neg c12] at H
       exact absurd H (by simp)
     ·rw [if_neg c11] at H
      have c11b0 := decide_eq_false c11
      clear c11
      have HC19 := Aside0.mk H
      clear H
      obtain ⟨Ao20, co20, eo20⟩ := Kd.R_slice HO_6.out
      subst eo20
      go_upto_region 8 with (fail)
      go_cut [47] (fun v47 wc => ∃ (kq : Nat) (x47_18 : Bool), v47 = .bool x47_18 ∧ Aside0 (spec_l23Part.j1 kq x7_1 x47_18 ((rd_T48 l0 a1).f0) ((rd_T48 l0 a1).f1) ((rd_T48 l0 a1).f2) ((rd_T48 l0 a1).f3) ((rd_T48 l0 a1).f4) ((rd_T48 l0 a1).f5) ((rd_T48 l0 a1).f6) = some r) ∧ Aside0 (kq ≤ k1) ∧ Aside0 (Kd.N (Kd.slice 48 k48) 25 wc w.heap.size (fun k_ => (w.heap.size ≤ k_) ∧ k_ ≠ gb333) u7 x7_1) ∧ Aside0 (wc.heap[gb333]? = some (.cells #[.int .i64 ((rd_T48 l0 a1).f0), .int .i64 ((rd_T48 l0 a1).f1), .int .i64 ((rd_T48 l0 a1).f2), .int .i64 ((rd_T48 l0 a1).f3), .int .i64 ((rd_T48 l0 a1).f4), .string ((rd_T48 l0 a1).f5), .string ((rd_T48 l0 a1).f6)] 48 (0, 0))) ∧ Aside0 (Below w.heap.size w wc))
      case first =>
       have H := HC19.out
       clear HC19
       by_cases c21 : ((rd_T48 l0 a1).f0) = 5
       ·rw [if_pos c21] at H
        obtain ⟨c21b0, c21b1⟩ := eqT c21
        clear c21
        (first | rw [c21b0] | (simp only [i64_w, i32_w]; rw [c21b0]) | skip)
        obtain ⟨t347, A22, H⟩ := bx H
        by_cases c23 : t347 = 0
        ·rw [if_pos c23] at H
         obtain ⟨c23b0, c23b1⟩ := eqT c23
         clear c23
         obtain ⟨t348, A24, H⟩ := bx H
         have H' := Aside0.mk H
         clear H
         obtain ⟨hcz25_0, hcz25_1, hcz25_2, hcz25_3, hcz25_4, hcz25_5, hcz25_6⟩ := cells7 BK333.out
         obtain ⟨hfz25_0, hfz25_1, hfz25_2, hfz25_3, hfz25_4, hfz25_5, hfz25_6⟩ := frz7 BK333.out
         go_wp2_with (first | (go_at_call 27; (with_reducible refine (spec_l23Effect.calls k1 _ _ l0 ((rd_T48 l0 a1).f1) t347 _ ?side1 ?side2 A22.out).mono ?_); (case side1 => exact cc0 (Kd.C_below HR0.out HB.out)); (case side2 => exact HC0.out); rintro e w26 ⟨rfl, hb⟩; replace HO_6 := Aside0.mk (Kd.R_below (ra0 HO_6.out) hb); replace HO_7 := Aside0.mk (Kd.N_below (by (with_reducible repeat (first | apply Kd.N_alloc | apply Kd.N_drewN | apply Kd.N_drew)); exact HO_7.out) hb); replace BK333 := Aside0.mk (blk_below (g := gb333) (bk0 BK333.out) hb); replace HB := Aside0.mk (below_step (bb1 GE333.out) hb); clear hb) | (go_at_call 12; (with_reducible refine (spec_UsedName.calls k1 _ _ l0 a1 0 t348 _ ?side1 ?side2 A24.out).mono ?_); (case side1 => exact cc0 (Kd.C_below HR0.out HB.out)); (case side2 => exact HC0.out); rintro e w27 ⟨rfl, hb⟩; replace HO_6 := Aside0.mk (Kd.R_below (ra0 HO_6.out) hb); replace HO_7 := Aside0.mk (Kd.N_below (by (with_reducible repeat (first | apply Kd.N_alloc | apply Kd.N_drewN | apply Kd.N_drew)); exact HO_7.out) hb); replace BK333 := Aside0.mk (blk_below (g := gb333) (bk0 BK333.out) hb); replace HB := Aside0.mk (below_step (bb1 GE333.out) hb); clear hb))
         go_meet
         case rel => exact ⟨_, (!t348), rs0, H', ⟨by have := HK1.out; first | omega | exact Nat.le_refl _⟩, ⟨by (with_reducible repeat (first | apply Kd.N_alloc | apply Kd.N_drewN | apply Kd.N_drew)); exact Kd.N_mono HO_7.out (fun _ hk => ⟨hk.1, hk.2.2⟩)⟩, ⟨by refine bk0 ?_; exact BK333.out⟩, ⟨bb1 GE333.out⟩⟩
        ·rw [if_neg c23] at H
         obtain ⟨c23b0, c23b1⟩ := eqF c23
         have H' := Aside0.mk H
         clear H
         obtain ⟨hcz28_0, hcz28_1, hcz28_2, hcz28_3, hcz28_4, hcz28_5, hcz28_6⟩ := cells7 BK333.out
         obtain ⟨hfz28_0, hfz28_1, hfz28_2, hfz28_3, hfz28_4, hfz28_5, hfz28_6⟩ := frz7 BK333.out
         go_wp2_with (first | (go_at_call 27; (with_reducible refine (spec_l23Effect.calls k1 _ _ l0 ((rd_T48 l0 a1).f1) t347 _ ?side1 ?side2 A22.out).mono ?_); (case side1 => exact cc0 (Kd.C_below HR0.out HB.out)); (case side2 => exact HC0.out); rintro e w29 ⟨rfl, hb⟩; replace HO_6 := Aside0.mk (Kd.R_below (ra0 HO_6.out) hb); replace HO_7 := Aside0.mk (Kd.N_below (by (with_reducible repeat (first | apply Kd.N_alloc | apply Kd.N_drewN | apply Kd.N_drew)); exact HO_7.out) hb); replace BK333 := Aside0.mk (blk_below (g := gb333) (bk0 BK333.out) hb); replace HB := Aside0.mk (below_step (bb1 GE333.out) hb); clear hb))
         go_meet
         case rel => exact ⟨_, (false), rs0, H', ⟨by have := HK1.out; first | omega | exact Nat.le_refl _⟩, ⟨by (with_reducible repeat (first | apply Kd.N_alloc | apply Kd.N_drewN | apply Kd.N_drew)); exact Kd.N_mono HO_7.out (fun _ hk => ⟨hk.1, hk.2.2⟩)⟩, ⟨by refine bk0 ?_; exact BK333.out⟩, ⟨bb1 GE333.out⟩⟩
       ·rw [if_neg c21] at H
        obtain ⟨c21b0, c21b1⟩ := eqF c21
        (first | rw [c21b0] | (simp only [i64_w, i32_w]; rw [c21b0]) | skip)
        have H' := Aside0.mk H
        clear H
        obtain ⟨hcz30_0, hcz30_1, hcz30_2, hcz30_3, hcz30_4, hcz30_5, hcz30_6⟩ := cells7 BK333.out
        obtain ⟨hfz30_0, hfz30_1, hfz30_2, hfz30_3, hfz30_4, hfz30_5, hfz30_6⟩ := frz7 BK333.out
        go_wp2
        go_meet
        case rel => exact ⟨_, (false), rs0, H', ⟨by have := HK1.out; first | omega | exact Nat.le_refl _⟩, ⟨by (with_reducible repeat (first | apply Kd.N_alloc | apply Kd.N_drewN | apply Kd.N_drew)); exact Kd.N_mono HO_7.out (fun _ hk => ⟨hk.1, hk.2.2⟩)⟩, ⟨by refine bk0 ?_; exact BK333.out⟩, ⟨bb1 GE333.out⟩⟩
      case rest =>
       clear HC19
       try clear c1
       try clear c2
       try clear p2
       try clear c3
       try clear c3b0
       try clear p3
       try clear q3
       try clear hx3
       try clear c4
       try clear c4b0
       try clear p6
       try clear c11
       try clear c11b0
       try clear c12
       try clear c12b0
       try clear c14
       try clear c21
       try clear c21b0
       try clear c21b1
       try clear c23
       try clear c23b0
       try clear c23b1
       try clear hcz25_0
       try clear hcz25_1
       try clear hcz25_2
       try clear hcz25_3
       try clear hcz25_4
       try clear hcz25_5
       try clear hcz25_6
       try clear hcz28_0
       try clear hcz28_1
       try clear hcz28_2
       try clear hcz28_3
       try clear hcz28_4
       try clear hcz28_5
       try clear hcz28_6
       try clear hcz30_0
       try clear hcz30_1
       try clear hcz30_2
       try clear hcz30_3
       try clear hcz30_4
       try clear hcz30_5
       try clear hcz30_6
       try clear hcz7_0
       try clear hcz7_1
       try clear hcz7_2
       try clear hcz7_3
       try clear hcz7_4
       try clear hcz7_5
       try clear hcz7_6
       try clear hfz25_0
       try clear hfz25_1
       try clear hfz25_2
       try clear hfz25_3
       try clear hfz25_4
       try clear hfz25_5
       try clear hfz25_6
       try clear hfz28_0
       try clear hfz28_1
       try clear hfz28_2
       try clear hfz28_3
       try clear hfz28_4
       try clear hfz28_5
       try clear hfz28_6
       try clear hfz30_0
       try clear hfz30_1
       try clear hfz30_2
       try clear hfz30_3
       try clear hfz30_4
       try clear hfz30_5
       try clear hfz30_6
       try clear hfz7_0
       try clear hfz7_1
       try clear hfz7_2
       try clear hfz7_3
       try clear hfz7_4
       try clear hfz7_5
       try clear hfz7_6
       try clear hx332_0
       try clear hx332_1
       try clear hx332_2
       try clear hx332_3
       try clear hx332_4
       try clear hx332_5
       try clear hx332_6
       try clear hx340_0
       try clear p2
       try clear p3
       try clear p332
       try clear p340
       try clear q3
       try clear q332
       try clear q340
       obtain ⟨kq, x47_18, rfl, HA, HJ18, HO_7, BK333, HB⟩ := hcut
       cases kq with
       | zero => exact absurd HA.out (by simp [spec_l23Part.j1])
       | succ kj18 =>
        have H := HA.out
        clear HA
        simp only [spec_l23Part.j1] at H
        by_cases c31 : x47_18 = true
        subst c31
        rw [if_pos rfl] at H
        by_cases c32 : 1 < (x7_1.length : Int)
        rw [if_pos c32] at H
        have c32b0 := decide_eq_true c32
        have c32b1 : decide (1 < x7_1.length) = true := decide_eq_true (by omega)
        clear c32
        obtain rfl := Option.some.inj H
        obtain ⟨Ao33, co33, eo33⟩ := Kd.N_slice HO_7.out
        subst eo33
        have p349 : 0 ≤ (1 : Int) := (by omega)
        have q349 : 1 < (x7_1.length : Int) := of_decide_eq_true as0
        obtain ⟨ad349, A349_0, c349_0, e349, hx349_0, hl349_0, hi349_0⟩ := at_L5 (Kd.N_reads' HO_7.out).2.2 1 p349 q349
        cases e349
        obtain ⟨ce349, hce349, hMe349, hcc349⟩ := Kd.N_get HO_7.out [] 1 p349 (by first | exact q349 | exact of_decide_eq_true as0 | (have e_ := (Kd.N_reads' HO_7.out).1; omega))
        obtain ⟨ua349_0, uc349_0, rfl, ul349_0, ge349_0⟩ := Kd.FK_slice_open hMe349
        have hv349_0 := hcc349 0 _ rfl
        rw [Nat.add_zero, show ((Kd.slice 48 k48)).sz = 1 from rfl, Nat.mul_one] at hv349_0
        replace hv349_0 := Option.some.inj (hv349_0.symm.trans hx349_0)
        injection hv349_0 with hva_ hvn_ hvc_
        rw [hva_] at ge349_0
        rw [hvc_] at ul349_0
        have HL349_0 := Aside0.mk (show Kd.V k48 48 _ w.heap.size _ _ (rd_L5 x7_1 1) from Kd.V_mk ul349_0 ge349_0)
        clear hva_ hvn_ hvc_ ge349_0 ul349_0
        clear hcc349 hce349
        (try simp only [show (1 : Int).toNat = 1 from rfl, Nat.reduceMul, Nat.reduceEqDiff, Go.Addr.add, ↓reduceIte] at hx349_0)
        have qi349 : (1 < x7_1.length) = True := eq_true (by omega)
        (try rw [show ((1 : Int)).toNat = 1 from rfl] at hx349_0)
        have HR349_0 := Aside0.mk hi349_0
        have HC349_0 := Aside0.mk hl349_0
        clear hi349_0 hl349_0
        replace p349 := eq_true p349
        replace q349 := eq_true q349
        rotate_left
        ·rw [if_neg c32] at H
         exact absurd H (by simp)
        replace c31 := Bool.eq_false_iff.mpr c31
        subst c31
        rw [if_neg (show ¬ (false = true) by decide)] at H
        by_cases c34 : (x7_1.length : Int) = 0
        rw [if_pos c34] at H
        obtain ⟨c34b0, c34b1⟩ := eqT c34
        clear c34
        obtain ⟨y350, hy350⟩ : ∃ y_ : List (S48), y_ = (([(⟨((rd_T48 l0 a1).f0), 0, 0, 0, ((rd_T48 l0 a1).f4), ((rd_T48 l0 a1).f5), ((rd_T48 l0 a1).f6)⟩ : S48)] : List (S48))) := ⟨_, rfl⟩
        replace H : (some y350) = some r := by first | (rw [hy350]; with_reducible exact H) | (have H2_ := (Option.bind_some _ _).symm.trans H; rw [hy350]; with_reducible exact H2_) | (have H2_ := (Option.bind_some _ _).symm.trans H; with_reducible exact H2_) | with_reducible exact H | (rw [hy350]; exact H) | exact H
        have Ny350 := Aside0.mk hy350
        clear hy350
        obtain rfl := Option.some.inj H
        obtain ⟨hcz35_0, hcz35_1, hcz35_2, hcz35_3, hcz35_4, hcz35_5, hcz35_6⟩ := cells7 BK333.out
        obtain ⟨hfz35_0, hfz35_1, hfz35_2, hfz35_3, hfz35_4, hfz35_5, hfz35_6⟩ := frz7 BK333.out
        obtain ⟨Ao36, co36, eo36⟩ := Kd.N_slice HO_7.out
        subst eo36
        rotate_left
        rw [if_neg c34] at H
        obtain ⟨c34b0, c34b1⟩ := eqF c34
        have c34b2 : ¬ (x7_1 = []) := fun h_ => c34 (by rw [h_]; rfl)
        by_cases c39 : (x7_1.length : Int) = 1
        rw [if_pos c39] at H
        obtain ⟨c39b0, c39b1⟩ := eqT c39
        clear c39
        by_cases c40 : 0 < (x7_1.length : Int)
        ·rw [if_pos c40] at H
         have c40b0 := decide_eq_true c40
         have c40b1 : decide (0 < x7_1.length) = true := decide_eq_true (by omega)
         clear c40
         obtain ⟨y354, hy354⟩ : ∃ y_ : List (List (S48)), y_ = (([rd_L5 x7_1 0] : List (List (S48)))) := ⟨_, rfl⟩
         replace H : ((spec_l3Make.f kj18 ((rd_T48 l0 a1).f0) 0 0 0 ((rd_T48 l0 a1).f4) ((rd_T48 l0 a1).f5) ((rd_T48 l0 a1).f6) y354).bind fun t357 => (some t357)) = some r := by first | (rw [hy354]; with_reducible exact H) | (have H2_ := (Option.bind_some _ _).symm.trans H; rw [hy354]; with_reducible exact H2_) | (have H2_ := (Option.bind_some _ _).symm.trans H; with_reducible exact H2_) | with_reducible exact H | (rw [hy354]; exact H) | exact H
         have Ny354 := Aside0.mk hy354
         clear hy354
         obtain ⟨t357, A41, H⟩ := bx H
         obtain rfl := Option.some.inj H
         obtain ⟨hcz42_0, hcz42_1, hcz42_2, hcz42_3, hcz42_4, hcz42_5, hcz42_6⟩ := cells7 BK333.out
         obtain ⟨hfz42_0, hfz42_1, hfz42_2, hfz42_3, hfz42_4, hfz42_5, hfz42_6⟩ := frz7 BK333.out
         obtain ⟨Ao43, co43, eo43⟩ := Kd.N_slice HO_7.out
         subst eo43
         try go_wp2
         have n0_ : Aside0 (Kd.N (Kd.slice 48 k48) 25 (((wc.setCell ⟨gb333, 1, none⟩ (.int .i64 0)).setCell ⟨gb333, 2, none⟩ (.int .i64 0)).setCell ⟨gb333, 3, none⟩ (.int .i64 0)) w.heap.size (fun k_ => (w.heap.size ≤ k_) ∧ k_ ≠ gb333) (.slice Ao43 x7_1.length co43) x7_1) := ⟨by (with_reducible repeat (first | apply Kd.N_alloc | apply Kd.N_drewN | apply Kd.N_drew)); exact Kd.N_mono (Kd.N_far (p := ⟨gb333, 3, none⟩) (Kd.N_far (p := ⟨gb333, 2, none⟩) (Kd.N_far (p := ⟨gb333, 1, none⟩) (Kd.N_mono HO_7.out (fun k_ hk => (⟨hk, hk.2⟩ : _ ∧ k_ ≠ gb333))) (fun _ hk => hk.2) (.int .i64 0)) (fun _ hk => hk.2) (.int .i64 0)) (fun _ hk => hk.2) (.int .i64 0)) (fun _ hk => ⟨hk.1.1, hk.1.2⟩)⟩
         have n1_ : Aside0 ((((wc.setCell ⟨gb333, 1, none⟩ (.int .i64 0)).setCell ⟨gb333, 2, none⟩ (.int .i64 0)).setCell ⟨gb333, 3, none⟩ (.int .i64 0)).heap[gb333]? = some (.cells #[.int .i64 ((rd_T48 l0 a1).f0), .int .i64 0, .int .i64 0, .int .i64 0, .int .i64 ((rd_T48 l0 a1).f4), .string ((rd_T48 l0 a1).f5), .string ((rd_T48 l0 a1).f6)] 48 (0, 0))) := ⟨bk1 BK333.out⟩
         have n2_ : Aside0 (Below w.heap.size w (((wc.setCell ⟨gb333, 1, none⟩ (.int .i64 0)).setCell ⟨gb333, 2, none⟩ (.int .i64 0)).setCell ⟨gb333, 3, none⟩ (.int .i64 0))) := ⟨bb1 GE333.out⟩
         generalize (((wc.setCell ⟨gb333, 1, none⟩ (.int .i64 0)).setCell ⟨gb333, 2, none⟩ (.int .i64 0)).setCell ⟨gb333, 3, none⟩ (.int .i64 0)) = w44 at n0_ n1_ n2_ ⊢
         have HO_7 := n0_
         have BK333 := n1_
         have HB := n2_
         clear n0_ n1_ n2_
         replace HO_7 := Aside0.mk (Kd.N_drew HO_7.out)
         replace BK333 := Aside0.mk (blk_drew BK333.out)
         replace HB := Aside0.mk (below_drew1 HB.out)
         have p353 : 0 ≤ (0 : Int) := (by omega)
         have q353 : 0 < (x7_1.length : Int) := of_decide_eq_true as0
         obtain ⟨ad353, A353_0, c353_0, e353, hx353_0, hl353_0, hi353_0⟩ := at_L5 (Kd.N_reads' HO_7.out).2.2 0 p353 q353
         cases e353
         obtain ⟨ce353, hce353, hMe353, hcc353⟩ := Kd.N_get HO_7.out [] 0 p353 (by first | exact q353 | exact of_decide_eq_true as0 | (have e_ := (Kd.N_reads' HO_7.out).1; omega))
         obtain ⟨ua353_0, uc353_0, rfl, ul353_0, ge353_0⟩ := Kd.FK_slice_open hMe353
         have hv353_0 := hcc353 0 _ rfl
         rw [Nat.add_zero, show ((Kd.slice 48 k48)).sz = 1 from rfl, Nat.mul_one] at hv353_0
         replace hv353_0 := Option.some.inj (hv353_0.symm.trans hx353_0)
         injection hv353_0 with hva_ hvn_ hvc_
         rw [hva_] at ge353_0
         rw [hvc_] at ul353_0
         have HL353_0 := Aside0.mk (show Kd.V k48 48 _ w.heap.size _ _ (rd_L5 x7_1 0) from Kd.V_mk ul353_0 ge353_0)
         clear hva_ hvn_ hvc_ ge353_0 ul353_0
         clear hcc353 hce353
         have qi353 : (0 < x7_1.length) = True := eq_true (by omega)
         (try rw [show ((0 : Int)).toNat = 0 from rfl] at hx353_0)
         (try rw [Addr.add_zero'] at hx353_0)
         have HR353_0 := Aside0.mk hi353_0
         have HC353_0 := Aside0.mk hl353_0
         clear hi353_0 hl353_0
         replace p353 := eq_true p353
         replace q353 := eq_true q353
         refine start_ (n := 7) (S := fun w' => w'.cell? ⟨gb333, 0, none⟩ = some (.int .i64 ((rd_T48 l0 a1).f0)) ∧ w'.cell? ⟨gb333, 1, none⟩ = some (.int .i64 0) ∧ w'.cell? ⟨gb333, 2, none⟩ = some (.int .i64 0) ∧ w'.cell? ⟨gb333, 3, none⟩ = some (.int .i64 0) ∧ w'.cell? ⟨gb333, 4, none⟩ = some (.int .i64 ((rd_T48 l0 a1).f4)) ∧ w'.cell? ⟨gb333, 5, none⟩ = some (.string ((rd_T48 l0 a1).f5)) ∧ w'.cell? ⟨gb333, 6, none⟩ = some (.string ((rd_T48 l0 a1).f6)) ∧ w'.cell? ad353 = some (.slice A353_0 (rd_L5 x7_1 0).length c353_0)) (ds := []) #[false, false, false, false, false, false, false] (by kernel_rfl) rfl rfl ⟨(blk_cell BK333.out 0).trans rfl, (blk_cell BK333.out 1).trans rfl, (blk_cell BK333.out 2).trans rfl, (blk_cell BK333.out 3).trans rfl, (blk_cell BK333.out 4).trans rfl, (blk_cell BK333.out 5).trans rfl, (blk_cell BK333.out 6).trans rfl, hx353_0⟩ (fun hHeld => ?_)
         generalize w44.drew = w45 at HO_7 BK333 HB HL353_0 HR353_0 hx353_0 hHeld ⊢
         refine pure_ (i := 1) (N := some 63) (v := ?_) (a' := ?_) #[false, true, false, false, false, false, false] rfl rfl (by kernel_rfl) (fun _ _ _ h => h) (Or.inl ⟨by rfl, ?_⟩) ?_ ?_
         rotate_left
         ·intro w'
          go_simp
          with_reducible rfl
         rotate_left
         ·simp only [Act.put, List.setIfInBounds_toArray, List.set_cons_zero, List.set_cons_succ, i64_w, i32_w]
          rfl
         refine pure_ (i := 2) (N := some 64) (v := ?_) (a' := ?_) #[false, true, true, false, false, false, false] rfl rfl (by kernel_rfl) (fun _ _ _ h => h) (Or.inl ⟨by rfl, ?_⟩) ?_ ?_
         rotate_left
         ·intro w'
          go_simp
          with_reducible rfl
         rotate_left
         ·simp only [Act.put, List.setIfInBounds_toArray, List.set_cons_zero, List.set_cons_succ, i64_w, i32_w]
          rfl
         refine take_ (i := 0) (N := some 62) (v := ?_) (a' := ?_) #[true, true, true, false, false, false, false] rfl rfl (by kernel_rfl) (fun _ _ _ h => h) (Or.inl ⟨by rfl, ?_⟩) hHeld ?_ ?_
         rotate_left
         ·rintro w' ⟨s0, s1, s2, s3, s4, s5, s6, s7⟩
          go_simp
          with_reducible rfl
         rotate_left
         ·simp only [Act.put, List.setIfInBounds_toArray, List.set_cons_zero, List.set_cons_succ, i64_w, i32_w]
          rfl
         refine take_ (i := 3) (N := some 65) (v := ?_) (a' := ?_) #[true, true, true, true, false, false, false] rfl rfl (by kernel_rfl) (fun _ _ _ h => h) (Or.inl ⟨by rfl, ?_⟩) hHeld ?_ ?_
         rotate_left
         ·rintro w' ⟨s0, s1, s2, s3, s4, s5, s6, s7⟩
          go_simp
          with_reducible rfl
         rotate_left
         ·simp only [Act.put, List.setIfInBounds_toArray, List.set_cons_zero, List.set_cons_succ, i64_w, i32_w]
          rfl
         refine one_ (i := 4) (N := some 66) #[true, true, true, true, true, false, false] rfl rfl (by kernel_rfl) (by decide) (fun K hK => ?_)
         refine Kd.N_lit_step (Kd.slice 48 k48) _ 25 ?hg (N' := 66) ?hd (xs := ([rd_L5 x7_1 0] : List (List (S48)))) (inner := [.slice A353_0 (rd_L5 x7_1 0).length c353_0]) (ok := (fun k_ => (w.heap.size ≤ k_) ∧ some k_ ≠ (.slice (some ad353) x7_1.length co43 : Value).ownBlock ∧ k_ ≠ gb333)) (okp := (fun k_ => (w.heap.size ≤ k_) ∧ some k_ ≠ (.slice (some ad353) x7_1.length co43 : Value).ownBlock ∧ k_ ≠ gb333)) ?hr ?hp (fun _ hk => hk) ((show ∀ k_, w45.heap.size ≤ k_ → (fun k_ => (w.heap.size ≤ k_) ∧ some k_ ≠ (.slice (some ad353) x7_1.length co43 : Value).ownBlock ∧ k_ ≠ gb333) k_ from fun k_ hk => ⟨(Nat.le_trans (below_size (bb1 GE333.out)) hk), Kd.fresh' (Kd.N_lt (by (with_reducible repeat (first | apply Kd.N_alloc | apply Kd.N_drewN | apply Kd.N_drew)); exact HO_7.out)) k_ hk, Kd.freshB (g := gb333) (bk0 BK333.out) k_ hk⟩) _ (Nat.le_refl _)) (Below.refl _ _) (Nat.le_refl _) (by simp) ?_; (case hd => rfl); (case hg => rfl); (case hr => first | (go_simp; done) | (go_simp; rfl)); (case hp => exact (Reps.one (show Kd.FK (Kd.slice 48 k48) _ _ (rd_L5 x7_1 0) [.slice A353_0 (rd_L5 x7_1 0).length c353_0] from (Kd.FK_slice_mk (Kd.V_reads' (Kd.V_mono (ok' := (fun k_ => (w.heap.size ≤ k_) ∧ some k_ ≠ (.slice (some ad353) x7_1.length co43 : Value).ownBlock ∧ k_ ≠ gb333)) (HL353_0.out) (fun k_ hk => ⟨hk.1.1, ⟨hk.2, hk.1.2⟩⟩))).2.1 (Kd.V_F (Kd.V_mono (ok' := (fun k_ => (w.heap.size ≤ k_) ∧ some k_ ≠ (.slice (some ad353) x7_1.length co43 : Value).ownBlock ∧ k_ ≠ gb333)) (HL353_0.out) (fun k_ hk => ⟨hk.1.1, ⟨hk.2, hk.1.2⟩⟩))))) (Reps.none _ _)))
         intro v355 w46 ho47 hb hg_ hnew_
         have HS7_ := (hb.cell (World.block_lt_of_cell? _ _ (hHeld.2.2.2.2.2.2.2))).trans (hHeld.2.2.2.2.2.2.2)
         clear hg_ hnew_
         (first | rw [← Ny354.out] at ho47 | (simp only [Int.reduceToNat] at ho47; rw [← Ny354.out] at ho47))
         replace HO_7 := Aside0.mk (Kd.N_elder' (by (with_reducible repeat (first | apply Kd.N_alloc | apply Kd.N_drewN | apply Kd.N_drew)); exact HO_7.out) (Kd.N_base ho47) hb)
         replace HL353_0 := Aside0.mk (Kd.V_elder' (by (with_reducible repeat (first | apply Kd.V_alloc | apply Kd.V_drewN | apply Kd.V_drew)); exact HL353_0.out) (Kd.N_base ho47) hb)
         have HO356 := Aside0.mk (Kd.N_lower ho47 (below_size (bb1 GE333.out)))
         replace BK333 := Aside0.mk (blk_below (g := gb333) (bk0 BK333.out) hb)
         replace HR353_0 := Aside0.mk (Kd.C_below (by repeat (first | (with_reducible exact HR353_0.out) | (with_reducible refine Kd.C_alloc ?_ _) | (with_reducible refine Kd.C_drewN ?_ _) | (with_reducible refine Kd.C_drew ?_) | exact HR353_0.out)) hb)
         replace HB := Aside0.mk (below_step (bb1 GE333.out) hb)
         clear hb ho47
         obtain ⟨Ao48, co48, eo48⟩ := Kd.N_slice HO356.out
         (first | subst eo48 | (injection eo48 with f1_ f2_ f3_; have f4_ := f1_.symm; have f5_ := f3_.symm; clear f1_ f2_ f3_; subst f4_; subst f5_))
         refine hK.out _ _ ⟨(blk_cell BK333.out 0).trans rfl, (blk_cell BK333.out 1).trans rfl, (blk_cell BK333.out 2).trans rfl, (blk_cell BK333.out 3).trans rfl, (blk_cell BK333.out 4).trans rfl, (blk_cell BK333.out 5).trans rfl, (blk_cell BK333.out 6).trans rfl, HS7_⟩ (fun hHeld => ?_)
         clear hK K
         refine nm_ ?_
         refine one_ (i := 5) (N := some 67) #[true, true, true, true, true, true, false] rfl rfl (by kernel_rfl) (by decide) (fun K hK => ?_)
         refine goes_ Tryd.func50 (by kernel_rfl) rfl #[.agg #[.int .i64 ((rd_T48 l0 a1).f0), .int .i64 0, .int .i64 0, .int .i64 0, .int .i64 ((rd_T48 l0 a1).f4), .string ((rd_T48 l0 a1).f5), .string ((rd_T48 l0 a1).f6)], .slice Ao48 y354.length co48] (by rfl) rfl rfl mm0 ?_
         with_reducible refine (spec_l3Make.calls kj18 ((rd_T48 l0 a1).f0) 0 0 0 ((rd_T48 l0 a1).f4) ((rd_T48 l0 a1).f5) ((rd_T48 l0 a1).f6) _ _ y354 t357 _ ?side1 ?side2 A41.out).mono ?_
         (case side1 => exact cc0 (Kd.N_reads' HO356.out).2.2)
         (case side2 => exact (Kd.N_reads' HO356.out).2.1)
         rintro e w49 ⟨v358, rfl, ho0, hb⟩
         have HS7_ := (hb.cell (World.block_lt_of_cell? _ _ (hHeld.2.2.2.2.2.2.2))).trans (hHeld.2.2.2.2.2.2.2)
         refine ⟨_, rfl, ?_⟩
         replace HO_7 := Aside0.mk (Kd.N_elder' (by (with_reducible repeat (first | apply Kd.N_alloc | apply Kd.N_drewN | apply Kd.N_drew)); exact HO_7.out) (Kd.R_base ho0) hb)
         replace HL353_0 := Aside0.mk (Kd.V_elder' (by (with_reducible repeat (first | apply Kd.V_alloc | apply Kd.V_drewN | apply Kd.V_drew)); exact HL353_0.out) (Kd.R_base ho0) hb)
         replace HO356 := Aside0.mk (Kd.N_elder' (by (with_reducible repeat (first | apply Kd.N_alloc | apply Kd.N_drewN | apply Kd.N_drew)); exact HO356.out) (Kd.R_base ho0) hb)
         have HO359 := Aside0.mk (Kd.R_lower (Kd.R_newB (Kd.R_newM (M := fun k_ => (w.heap.size ≤ k_)) ho0 (below_size (bb1 GE333.out)) (fun k_ h_ => h_)) (g := gb333) (bk0 BK333.out)) (below_size (bb1 GE333.out)))
         replace BK333 := Aside0.mk (blk_below (g := gb333) (bk0 BK333.out) hb)
         replace HR353_0 := Aside0.mk (Kd.C_below (by repeat (first | (with_reducible exact HR353_0.out) | (with_reducible refine Kd.C_alloc ?_ _) | (with_reducible refine Kd.C_drewN ?_ _) | (with_reducible refine Kd.C_drew ?_) | exact HR353_0.out)) hb)
         replace HB := Aside0.mk (below_step (bb1 GE333.out) hb)
         clear hb ho0
         refine hK.out _ _ ⟨(blk_cell BK333.out 0).trans rfl, (blk_cell BK333.out 1).trans rfl, (blk_cell BK333.out 2).trans rfl, (blk_cell BK333.out 3).trans rfl, (blk_cell BK333.out 4).trans rfl, (blk_cell BK333.out 5).trans rfl, (blk_cell BK333.out 6).trans rfl, HS7_⟩ (fun hHeld => ?_)
         clear hK K
         refine nm_ ?_
         refine pure_ (i := 6) (N := some 4) (v := ?_) (a' := ?_) #[true, true, true, true, true, true, true] rfl rfl (by kernel_rfl) (fun _ _ _ h => h) (Or.inl ⟨by rfl, ?_⟩) ?_ ?_
         rotate_left
         ·intro w'
          go_simp
          with_reducible rfl
         rotate_left
         ·simp only [Act.put, List.setIfInBounds_toArray, List.set_cons_zero, List.set_cons_succ, i64_w, i32_w]
          rfl
         refine done_ (by kernel_rfl) ?_
         try go_wp2
         go_ret
         exact ⟨_, er0, Kd.R_V (by refine ra0 ?_; exact Kd.R_mono HO359.out (fun _ hk => hk.1.1)), bb1 GE333.out⟩
        ·rw [if_neg c40] at H
         exact absurd H (by simp)
        rw [if_neg c39] at H
        obtain ⟨c39b0, c39b1⟩ := eqF c39
        by_cases c50 : (x7_1.length : Int) = 2
        rw [if_pos c50] at H
        obtain ⟨c50b0, c50b1⟩ := eqT c50
        clear c50
        by_cases c51 : 0 < (x7_1.length : Int)
        rw [if_pos c51] at H
        have c51b0 := decide_eq_true c51
        have c51b1 : decide (0 < x7_1.length) = true := decide_eq_true (by omega)
        clear c51
        by_cases c52 : 1 < (x7_1.length : Int)
        ·rw [if_pos c52] at H
         have c52b0 := decide_eq_true c52
         have c52b1 : decide (1 < x7_1.length) = true := decide_eq_true (by omega)
         clear c52
         obtain ⟨y362, hy362⟩ : ∃ y_ : List (List (S48)), y_ = (([rd_L5 x7_1 0, rd_L5 x7_1 1] : List (List (S48)))) := ⟨_, rfl⟩
         replace H : ((spec_l3Make.f kj18 ((rd_T48 l0 a1).f0) 0 0 0 ((rd_T48 l0 a1).f4) ((rd_T48 l0 a1).f5) ((rd_T48 l0 a1).f6) y362).bind fun t365 => (some t365)) = some r := by first | (rw [hy362]; with_reducible exact H) | (have H2_ := (Option.bind_some _ _).symm.trans H; rw [hy362]; with_reducible exact H2_) | (have H2_ := (Option.bind_some _ _).symm.trans H; with_reducible exact H2_) | with_reducible exact H | (rw [hy362]; exact H) | exact H
         have Ny362 := Aside0.mk hy362
         clear hy362
         obtain ⟨t365, A53, H⟩ := bx H
         obtain rfl := Option.some.inj H
         obtain ⟨hcz54_0, hcz54_1, hcz54_2, hcz54_3, hcz54_4, hcz54_5, hcz54_6⟩ := cells7 BK333.out
         obtain ⟨hfz54_0, hfz54_1, hfz54_2, hfz54_3, hfz54_4, hfz54_5, hfz54_6⟩ := frz7 BK333.out
         obtain ⟨Ao55, co55, eo55⟩ := Kd.N_slice HO_7.out
         subst eo55
         try go_wp2
         have n0_ : Aside0 (Kd.N (Kd.slice 48 k48) 25 (((wc.setCell ⟨gb333, 1, none⟩ (.int .i64 0)).setCell ⟨gb333, 2, none⟩ (.int .i64 0)).setCell ⟨gb333, 3, none⟩ (.int .i64 0)) w.heap.size (fun k_ => (w.heap.size ≤ k_) ∧ k_ ≠ gb333) (.slice Ao55 x7_1.length co55) x7_1) := ⟨by (with_reducible repeat (first | apply Kd.N_alloc | apply Kd.N_drewN | apply Kd.N_drew)); exact Kd.N_mono (Kd.N_far (p := ⟨gb333, 3, none⟩) (Kd.N_far (p := ⟨gb333, 2, none⟩) (Kd.N_far (p := ⟨gb333, 1, none⟩) (Kd.N_mono HO_7.out (fun k_ hk => (⟨hk, hk.2⟩ : _ ∧ k_ ≠ gb333))) (fun _ hk => hk.2) (.int .i64 0)) (fun _ hk => hk.2) (.int .i64 0)) (fun _ hk => hk.2) (.int .i64 0)) (fun _ hk => ⟨hk.1.1, hk.1.2⟩)⟩
         have n1_ : Aside0 ((((wc.setCell ⟨gb333, 1, none⟩ (.int .i64 0)).setCell ⟨gb333, 2, none⟩ (.int .i64 0)).setCell ⟨gb333, 3, none⟩ (.int .i64 0)).heap[gb333]? = some (.cells #[.int .i64 ((rd_T48 l0 a1).f0), .int .i64 0, .int .i64 0, .int .i64 0, .int .i64 ((rd_T48 l0 a1).f4), .string ((rd_T48 l0 a1).f5), .string ((rd_T48 l0 a1).f6)] 48 (0, 0))) := ⟨bk1 BK333.out⟩
         have n2_ : Aside0 (Below w.heap.size w (((wc.setCell ⟨gb333, 1, none⟩ (.int .i64 0)).setCell ⟨gb333, 2, none⟩ (.int .i64 0)).setCell ⟨gb333, 3, none⟩ (.int .i64 0))) := ⟨bb1 GE333.out⟩
         generalize (((wc.setCell ⟨gb333, 1, none⟩ (.int .i64 0)).setCell ⟨gb333, 2, none⟩ (.int .i64 0)).setCell ⟨gb333, 3, none⟩ (.int .i64 0)) = w56 at n0_ n1_ n2_ ⊢
         have HO_7 := n0_
         have BK333 := n1_
         have HB := n2_
         clear n0_ n1_ n2_
         replace HO_7 := Aside0.mk (Kd.N_drew HO_7.out)
         replace BK333 := Aside0.mk (blk_drew BK333.out)
         replace HB := Aside0.mk (below_drew1 HB.out)
         have p360 : 0 ≤ (0 : Int) := (by omega)
         have q360 : 0 < (x7_1.length : Int) := of_decide_eq_true as0
         obtain ⟨ad360, A360_0, c360_0, e360, hx360_0, hl360_0, hi360_0⟩ := at_L5 (Kd.N_reads' HO_7.out).2.2 0 p360 q360
         cases e360
         obtain ⟨ce360, hce360, hMe360, hcc360⟩ := Kd.N_get HO_7.out [] 0 p360 (by first | exact q360 | exact of_decide_eq_true as0 | (have e_ := (Kd.N_reads' HO_7.out).1; omega))
         obtain ⟨ua360_0, uc360_0, rfl, ul360_0, ge360_0⟩ := Kd.FK_slice_open hMe360
         have hv360_0 := hcc360 0 _ rfl
         rw [Nat.add_zero, show ((Kd.slice 48 k48)).sz = 1 from rfl, Nat.mul_one] at hv360_0
         replace hv360_0 := Option.some.inj (hv360_0.symm.trans hx360_0)
         injection hv360_0 with hva_ hvn_ hvc_
         rw [hva_] at ge360_0
         rw [hvc_] at ul360_0
         have HL360_0 := Aside0.mk (show Kd.V k48 48 _ w.heap.size _ _ (rd_L5 x7_1 0) from Kd.V_mk ul360_0 ge360_0)
         clear hva_ hvn_ hvc_ ge360_0 ul360_0
         clear hcc360 hce360
         have qi360 : (0 < x7_1.length) = True := eq_true (by omega)
         (try rw [show ((0 : Int)).toNat = 0 from rfl] at hx360_0)
         (try rw [Addr.add_zero'] at hx360_0)
         have HR360_0 := Aside0.mk hi360_0
         have HC360_0 := Aside0.mk hl360_0
         clear hi360_0 hl360_0
         replace p360 := eq_true p360
         replace q360 := eq_true q360
         have p361 : 0 ≤ (1 : Int) := (by omega)
         have q361 : 1 < (x7_1.length : Int) := of_decide_eq_true as0
         obtain ⟨ad361, A361_0, c361_0, e361, hx361_0, hl361_0, hi361_0⟩ := at_L5 (Kd.N_reads' HO_7.out).2.2 1 p361 q361
         obtain rfl : ad360 = ad361 := (by injection e361)
         obtain ⟨ce361, hce361, hMe361, hcc361⟩ := Kd.N_get HO_7.out [] 1 p361 (by first | exact q361 | exact of_decide_eq_true as0 | (have e_ := (Kd.N_reads' HO_7.out).1; omega))
         obtain ⟨ua361_0, uc361_0, rfl, ul361_0, ge361_0⟩ := Kd.FK_slice_open hMe361
         have hv361_0 := hcc361 0 _ rfl
         rw [Nat.add_zero, show ((Kd.slice 48 k48)).sz = 1 from rfl, Nat.mul_one] at hv361_0
         replace hv361_0 := Option.some.inj (hv361_0.symm.trans hx361_0)
         injection hv361_0 with hva_ hvn_ hvc_
         rw [hva_] at ge361_0
         rw [hvc_] at ul361_0
         have HL361_0 := Aside0.mk (show Kd.V k48 48 _ w.heap.size _ _ (rd_L5 x7_1 1) from Kd.V_mk ul361_0 ge361_0)
         clear hva_ hvn_ hvc_ ge361_0 ul361_0
         clear hcc361 hce361
         (try simp only [show (1 : Int).toNat = 1 from rfl, Nat.reduceMul, Nat.reduceEqDiff, Go.Addr.add, ↓reduceIte] at hx361_0)
         have qi361 : (1 < x7_1.length) = True := eq_true (by omega)
         (try rw [show ((1 : Int)).toNat = 1 from rfl] at hx361_0)
         have HR361_0 := Aside0.mk hi361_0
         have HC361_0 := Aside0.mk hl361_0
         clear hi361_0 hl361_0
         replace p361 := eq_true p361
         replace q361 := eq_true q361
         refine start_ (n := 10) (S := fun w' => w'.cell? ⟨gb333, 0, none⟩ = some (.int .i64 ((rd_T48 l0 a1).f0)) ∧ w'.cell? ⟨gb333, 1, none⟩ = some (.int .i64 0) ∧ w'.cell? ⟨gb333, 2, none⟩ = some (.int .i64 0) ∧ w'.cell? ⟨gb333, 3, none⟩ = some (.int .i64 0) ∧ w'.cell? ⟨gb333, 4, none⟩ = some (.int .i64 ((rd_T48 l0 a1).f4)) ∧ w'.cell? ⟨gb333, 5, none⟩ = some (.string ((rd_T48 l0 a1).f5)) ∧ w'.cell? ⟨gb333, 6, none⟩ = some (.string ((rd_T48 l0 a1).f6)) ∧ w'.cell? ad360 = some (.slice A360_0 (rd_L5 x7_1 0).length c360_0) ∧ w'.cell? ⟨ad360.block, ad360.off + 1, none⟩ = some (.slice A361_0 (rd_L5 x7_1 1).length c361_0)) (ds := []) #[false, false, false, false, false, false, false, false, false, false] (by kernel_rfl) rfl rfl ⟨(blk_cell BK333.out 0).trans rfl, (blk_cell BK333.out 1).trans rfl, (blk_cell BK333.out 2).trans rfl, (blk_cell BK333.out 3).trans rfl, (blk_cell BK333.out 4).trans rfl, (blk_cell BK333.out 5).trans rfl, (blk_cell BK333.out 6).trans rfl, hx360_0, hx361_0⟩ (fun hHeld => ?_); refine with_tabW spec_l23Part.tab19 spec_l23Part.bits19 (fun HT_ HW_ => ?_)
         generalize w56.drew = w57 at HO_7 BK333 HB HL360_0 HL361_0 HR360_0 HR361_0 hx360_0 hx361_0 hHeld ⊢
         refine pu_ 1 71 HT_ ?_
         refine pu_ 2 72 HT_ ?_
         refine pu_ 4 74 HT_ ?_
         refine pu_ 5 75 HT_ ?_
         refine tk_ 0 70 HT_ HW_ hHeld ?_
         refine tk_ 3 73 HT_ HW_ hHeld ?_
         refine tk_ 6 76 HT_ HW_ hHeld ?_
         refine on_ 7 77 HT_ fun K hK => ?_
         refine Kd.N_lit_step (Kd.slice 48 k48) _ 25 ?hg (N' := 77) ?hd (xs := ([rd_L5 x7_1 0, rd_L5 x7_1 1] : List (List (S48)))) (inner := [.slice A360_0 (rd_L5 x7_1 0).length c360_0, .slice A361_0 (rd_L5 x7_1 1).length c361_0]) (ok := (fun k_ => (w.heap.size ≤ k_) ∧ some k_ ≠ (.slice (some ad360) x7_1.length co55 : Value).ownBlock ∧ k_ ≠ gb333)) (okp := (fun k_ => (w.heap.size ≤ k_) ∧ some k_ ≠ (.slice (some ad360) x7_1.length co55 : Value).ownBlock ∧ k_ ≠ gb333)) ?hr ?hp (fun _ hk => hk) ((show ∀ k_, w57.heap.size ≤ k_ → (fun k_ => (w.heap.size ≤ k_) ∧ some k_ ≠ (.slice (some ad360) x7_1.length co55 : Value).ownBlock ∧ k_ ≠ gb333) k_ from fun k_ hk => ⟨(Nat.le_trans (below_size (bb1 GE333.out)) hk), Kd.fresh' (Kd.N_lt (by (with_reducible repeat (first | apply Kd.N_alloc | apply Kd.N_drewN | apply Kd.N_drew)); exact HO_7.out)) k_ hk, Kd.freshB (g := gb333) (bk0 BK333.out) k_ hk⟩) _ (Nat.le_refl _)) (Below.refl _ _) (Nat.le_refl _) (by simp) ?_; (case hd => rfl); (case hg => rfl); (case hr => first | (go_simp; done) | (go_simp; rfl)); (case hp => exact (Reps.one (show Kd.FK (Kd.slice 48 k48) _ _ (rd_L5 x7_1 0) [.slice A360_0 (rd_L5 x7_1 0).length c360_0] from (Kd.FK_slice_mk (Kd.V_reads' (Kd.V_mono (ok' := (fun k_ => (w.heap.size ≤ k_) ∧ some k_ ≠ (.slice (some ad360) x7_1.length co55 : Value).ownBlock ∧ k_ ≠ gb333)) (HL360_0.out) (fun k_ hk => ⟨hk.1.1, ⟨hk.2, hk.1.2⟩⟩))).2.1 (Kd.V_F (Kd.V_mono (ok' := (fun k_ => (w.heap.size ≤ k_) ∧ some k_ ≠ (.slice (some ad360) x7_1.length co55 : Value).ownBlock ∧ k_ ≠ gb333)) (HL360_0.out) (fun k_ hk => ⟨hk.1.1, ⟨hk.2, hk.1.2⟩⟩))))) (Reps.one (show Kd.FK (Kd.slice 48 k48) _ _ (rd_L5 x7_1 1) [.slice A361_0 (rd_L5 x7_1 1).length c361_0] from (Kd.FK_slice_mk (Kd.V_reads' (Kd.V_mono (ok' := (fun k_ => (w.heap.size ≤ k_) ∧ some k_ ≠ (.slice (some ad360) x7_1.length co55 : Value).ownBlock ∧ k_ ≠ gb333)) (HL361_0.out) (fun k_ hk => ⟨hk.1.1, ⟨hk.2, hk.1.2⟩⟩))).2.1 (Kd.V_F (Kd.V_mono (ok' := (fun k_ => (w.heap.size ≤ k_) ∧ some k_ ≠ (.slice (some ad360) x7_1.length co55 : Value).ownBlock ∧ k_ ≠ gb333)) (HL361_0.out) (fun k_ hk => ⟨hk.1.1, ⟨hk.2, hk.1.2⟩⟩))))) (Reps.none _ _))))
         intro v363 w58 ho59 hb hg_ hnew_
         have HS7_ := (hb.cell (World.block_lt_of_cell? _ _ (hHeld.2.2.2.2.2.2.2.1))).trans (hHeld.2.2.2.2.2.2.2.1)
         have HS8_ := (hb.cell (World.block_lt_of_cell? _ _ (hHeld.2.2.2.2.2.2.2.2))).trans (hHeld.2.2.2.2.2.2.2.2)
         clear hg_ hnew_
         (first | rw [← Ny362.out] at ho59 | (simp only [Int.reduceToNat] at ho59; rw [← Ny362.out] at ho59))
         replace HO_7 := Aside0.mk (Kd.N_elder' (by (with_reducible repeat (first | apply Kd.N_alloc | apply Kd.N_drewN | apply Kd.N_drew)); exact HO_7.out) (Kd.N_base ho59) hb)
         replace HL360_0 := Aside0.mk (Kd.V_elder' (by (with_reducible repeat (first | apply Kd.V_alloc | apply Kd.V_drewN | apply Kd.V_drew)); exact HL360_0.out) (Kd.N_base ho59) hb)
         replace HL361_0 := Aside0.mk (Kd.V_elder' (by (with_reducible repeat (first | apply Kd.V_alloc | apply Kd.V_drewN | apply Kd.V_drew)); exact HL361_0.out) (Kd.N_base ho59) hb)
         have HO364 := Aside0.mk (Kd.N_lower ho59 (below_size (bb1 GE333.out)))
         replace BK333 := Aside0.mk (blk_below (g := gb333) (bk0 BK333.out) hb)
         replace HR360_0 := Aside0.mk (Kd.C_below (by repeat (first | (with_reducible exact HR360_0.out) | (with_reducible refine Kd.C_alloc ?_ _) | (with_reducible refine Kd.C_drewN ?_ _) | (with_reducible refine Kd.C_drew ?_) | exact HR360_0.out)) hb)
         replace HR361_0 := Aside0.mk (Kd.C_below (by repeat (first | (with_reducible exact HR361_0.out) | (with_reducible refine Kd.C_alloc ?_ _) | (with_reducible refine Kd.C_drewN ?_ _) | (with_reducible refine Kd.C_drew ?_) | exact HR361_0.out)) hb)
         replace HB := Aside0.mk (below_step (bb1 GE333.out) hb)
         clear hb ho59
         obtain ⟨Ao60, co60, eo60⟩ := Kd.N_slice HO364.out
         (first | subst eo60 | (injection eo60 with f1_ f2_ f3_; have f4_ := f1_.symm; have f5_ := f3_.symm; clear f1_ f2_ f3_; subst f4_; subst f5_))
         refine hK.out _ _ ⟨(blk_cell BK333.out 0).trans rfl, (blk_cell BK333.out 1).trans rfl, (blk_cell BK333.out 2).trans rfl, (blk_cell BK333.out 3).trans rfl, (blk_cell BK333.out 4).trans rfl, (blk_cell BK333.out 5).trans rfl, (blk_cell BK333.out 6).trans rfl, HS7_, HS8_⟩ (fun hHeld => ?_)
         clear hK K
         refine nm_ ?_
         refine on_ 8 78 HT_ fun K hK => ?_
         refine goes_ Tryd.func50 (by kernel_rfl) rfl #[.agg #[.int .i64 ((rd_T48 l0 a1).f0), .int .i64 0, .int .i64 0, .int .i64 0, .int .i64 ((rd_T48 l0 a1).f4), .string ((rd_T48 l0 a1).f5), .string ((rd_T48 l0 a1).f6)], .slice Ao60 y362.length co60] (by rfl) rfl rfl mm0 ?_
         with_reducible refine (spec_l3Make.calls kj18 ((rd_T48 l0 a1).f0) 0 0 0 ((rd_T48 l0 a1).f4) ((rd_T48 l0 a1).f5) ((rd_T48 l0 a1).f6) _ _ y362 t365 _ ?side1 ?side2 A53.out).mono ?_
         (case side1 => exact cc0 (Kd.N_reads' HO364.out).2.2)
         (case side2 => exact (Kd.N_reads' HO364.out).2.1)
         rintro e w61 ⟨v366, rfl, ho0, hb⟩
         have HS7_ := (hb.cell (World.block_lt_of_cell? _ _ (hHeld.2.2.2.2.2.2.2.1))).trans (hHeld.2.2.2.2.2.2.2.1)
         have HS8_ := (hb.cell (World.block_lt_of_cell? _ _ (hHeld.2.2.2.2.2.2.2.2))).trans (hHeld.2.2.2.2.2.2.2.2)
         refine ⟨_, rfl, ?_⟩
         replace HO_7 := Aside0.mk (Kd.N_elder' (by (with_reducible repeat (first | apply Kd.N_alloc | apply Kd.N_drewN | apply Kd.N_drew)); exact HO_7.out) (Kd.R_base ho0) hb)
         replace HL360_0 := Aside0.mk (Kd.V_elder' (by (with_reducible repeat (first | apply Kd.V_alloc | apply Kd.V_drewN | apply Kd.V_drew)); exact HL360_0.out) (Kd.R_base ho0) hb)
         replace HL361_0 := Aside0.mk (Kd.V_elder' (by (with_reducible repeat (first | apply Kd.V_alloc | apply Kd.V_drewN | apply Kd.V_drew)); exact HL361_0.out) (Kd.R_base ho0) hb)
         replace HO364 := Aside0.mk (Kd.N_elder' (by (with_reducible repeat (first | apply Kd.N_alloc | apply Kd.N_drewN | apply Kd.N_drew)); exact HO364.out) (Kd.R_base ho0) hb)
         have HO367 := Aside0.mk (Kd.R_lower (Kd.R_newB (Kd.R_newM (M := fun k_ => (w.heap.size ≤ k_)) ho0 (below_size (bb1 GE333.out)) (fun k_ h_ => h_)) (g := gb333) (bk0 BK333.out)) (below_size (bb1 GE333.out)))
         replace BK333 := Aside0.mk (blk_below (g := gb333) (bk0 BK333.out) hb)
         replace HR360_0 := Aside0.mk (Kd.C_below (by repeat (first | (with_reducible exact HR360_0.out) | (with_reducible refine Kd.C_alloc ?_ _) | (with_reducible refine Kd.C_drewN ?_ _) | (with_reducible refine Kd.C_drew ?_) | exact HR360_0.out)) hb)
         replace HR361_0 := Aside0.mk (Kd.C_below (by repeat (first | (with_reducible exact HR361_0.out) | (with_reducible refine Kd.C_alloc ?_ _) | (with_reducible refine Kd.C_drewN ?_ _) | (with_reducible refine Kd.C_drew ?_) | exact HR361_0.out)) hb)
         replace HB := Aside0.mk (below_step (bb1 GE333.out) hb)
         clear hb ho0
         refine hK.out _ _ ⟨(blk_cell BK333.out 0).trans rfl, (blk_cell BK333.out 1).trans rfl, (blk_cell BK333.out 2).trans rfl, (blk_cell BK333.out 3).trans rfl, (blk_cell BK333.out 4).trans rfl, (blk_cell BK333.out 5).trans rfl, (blk_cell BK333.out 6).trans rfl, HS7_, HS8_⟩ (fun hHeld => ?_)
         clear hK K
         refine nm_ ?_
         refine pu_ 9 4 HT_ ?_
         refine done_ (done_of HT_.out (by kernel_rfl)) ?_
         try go_wp2
         go_ret
         exact ⟨_, er0, Kd.R_V (by refine ra0 ?_; exact Kd.R_mono HO367.out (fun _ hk => hk.1.1)), bb1 GE333.out⟩
        ·rw [if_neg c52] at H
         exact absurd H (by simp)
        ·rw [if_neg c51] at H
         exact absurd H (by simp)
        rw [if_neg c50] at H
        obtain ⟨c50b0, c50b1⟩ := eqF c50
        by_cases c62 : 0 < (x7_1.length : Int)
        rw [if_pos c62] at H
        have c62b0 := decide_eq_true c62
        have c62b1 : decide (0 < x7_1.length) = true := decide_eq_true (by omega)
        clear c62
        by_cases c63 : 1 < (x7_1.length : Int)
        rw [if_pos c63] at H
        have c63b0 := decide_eq_true c63
        have c63b1 : decide (1 < x7_1.length) = true := decide_eq_true (by omega)
        clear c63
        by_cases c64 : 2 < (x7_1.length : Int)
        ·rw [if_pos c64] at H
         have c64b0 := decide_eq_true c64
         have c64b1 : decide (2 < x7_1.length) = true := decide_eq_true (by omega)
         clear c64
         obtain ⟨y371, hy371⟩ : ∃ y_ : List (List (S48)), y_ = (([rd_L5 x7_1 0, rd_L5 x7_1 1, rd_L5 x7_1 2] : List (List (S48)))) := ⟨_, rfl⟩
         replace H : ((spec_l3Make.f kj18 ((rd_T48 l0 a1).f0) 0 0 0 ((rd_T48 l0 a1).f4) ((rd_T48 l0 a1).f5) ((rd_T48 l0 a1).f6) y371).bind fun t374 => (some t374)) = some r := by first | (rw [hy371]; with_reducible exact H) | (have H2_ := (Option.bind_some _ _).symm.trans H; rw [hy371]; with_reducible exact H2_) | (have H2_ := (Option.bind_some _ _).symm.trans H; with_reducible exact H2_) | with_reducible exact H | (rw [hy371]; exact H) | exact H
         have Ny371 := Aside0.mk hy371
         clear hy371
         obtain ⟨t374, A65, H⟩ := bx H
         obtain rfl := Option.some.inj H
         obtain ⟨hcz66_0, hcz66_1, hcz66_2, hcz66_3, hcz66_4, hcz66_5, hcz66_6⟩ := cells7 BK333.out
         obtain ⟨hfz66_0, hfz66_1, hfz66_2, hfz66_3, hfz66_4, hfz66_5, hfz66_6⟩ := frz7 BK333.out
         obtain ⟨Ao67, co67, eo67⟩ := Kd.N_slice HO_7.out
         subst eo67
         try go_wp2
         have n0_ : Aside0 (Kd.N (Kd.slice 48 k48) 25 (((wc.setCell ⟨gb333, 1, none⟩ (.int .i64 0)).setCell ⟨gb333, 2, none⟩ (.int .i64 0)).setCell ⟨gb333, 3, none⟩ (.int .i64 0)) w.heap.size (fun k_ => (w.heap.size ≤ k_) ∧ k_ ≠ gb333) (.slice Ao67 x7_1.length co67) x7_1) := ⟨by (with_reducible repeat (first | apply Kd.N_alloc | apply Kd.N_drewN | apply Kd.N_drew)); exact Kd.N_mono (Kd.N_far (p := ⟨gb333, 3, none⟩) (Kd.N_far (p := ⟨gb333, 2, none⟩) (Kd.N_far (p := ⟨gb333, 1, none⟩) (Kd.N_mono HO_7.out (fun k_ hk => (⟨hk, hk.2⟩ : _ ∧ k_ ≠ gb333))) (fun _ hk => hk.2) (.int .i64 0)) (fun _ hk => hk.2) (.int .i64 0)) (fun _ hk => hk.2) (.int .i64 0)) (fun _ hk => ⟨hk.1.1, hk.1.2⟩)⟩
         have n1_ : Aside0 ((((wc.setCell ⟨gb333, 1, none⟩ (.int .i64 0)).setCell ⟨gb333, 2, none⟩ (.int .i64 0)).setCell ⟨gb333, 3, none⟩ (.int .i64 0)).heap[gb333]? = some (.cells #[.int .i64 ((rd_T48 l0 a1).f0), .int .i64 0, .int .i64 0, .int .i64 0, .int .i64 ((rd_T48 l0 a1).f4), .string ((rd_T48 l0 a1).f5), .string ((rd_T48 l0 a1).f6)] 48 (0, 0))) := ⟨bk1 BK333.out⟩
         have n2_ : Aside0 (Below w.heap.size w (((wc.setCell ⟨gb333, 1, none⟩ (.int .i64 0)).setCell ⟨gb333, 2, none⟩ (.int .i64 0)).setCell ⟨gb333, 3, none⟩ (.int .i64 0))) := ⟨bb1 GE333.out⟩
         generalize (((wc.setCell ⟨gb333, 1, none⟩ (.int .i64 0)).setCell ⟨gb333, 2, none⟩ (.int .i64 0)).setCell ⟨gb333, 3, none⟩ (.int .i64 0)) = w68 at n0_ n1_ n2_ ⊢
         have HO_7 := n0_
         have BK333 := n1_
         have HB := n2_
         clear n0_ n1_ n2_
         replace HO_7 := Aside0.mk (Kd.N_drew HO_7.out)
         replace BK333 := Aside0.mk (blk_drew BK333.out)
         replace HB := Aside0.mk (below_drew1 HB.out)
         have p368 : 0 ≤ (0 : Int) := (by omega)
         have q368 : 0 < (x7_1.length : Int) := of_decide_eq_true as0
         obtain ⟨ad368, A368_0, c368_0, e368, hx368_0, hl368_0, hi368_0⟩ := at_L5 (Kd.N_reads' HO_7.out).2.2 0 p368 q368
         cases e368
         obtain ⟨ce368, hce368, hMe368, hcc368⟩ := Kd.N_get HO_7.out [] 0 p368 (by first | exact q368 | exact of_decide_eq_true as0 | (have e_ := (Kd.N_reads' HO_7.out).1; omega))
         obtain ⟨ua368_0, uc368_0, rfl, ul368_0, ge368_0⟩ := Kd.FK_slice_open hMe368
         have hv368_0 := hcc368 0 _ rfl
         rw [Nat.add_zero, show ((Kd.slice 48 k48)).sz = 1 from rfl, Nat.mul_one] at hv368_0
         replace hv368_0 := Option.some.inj (hv368_0.symm.trans hx368_0)
         injection hv368_0 with hva_ hvn_ hvc_
         rw [hva_] at ge368_0
         rw [hvc_] at ul368_0
         have HL368_0 := Aside0.mk (show Kd.V k48 48 _ w.heap.size _ _ (rd_L5 x7_1 0) from Kd.V_mk ul368_0 ge368_0)
         clear hva_ hvn_ hvc_ ge368_0 ul368_0
         clear hcc368 hce368
         have qi368 : (0 < x7_1.length) = True := eq_true (by omega)
         (try rw [show ((0 : Int)).toNat = 0 from rfl] at hx368_0)
         (try rw [Addr.add_zero'] at hx368_0)
         have HR368_0 := Aside0.mk hi368_0
         have HC368_0 := Aside0.mk hl368_0
         clear hi368_0 hl368_0
         replace p368 := eq_true p368
         replace q368 := eq_true q368
         have p369 : 0 ≤ (1 : Int) := (by omega)
         have q369 : 1 < (x7_1.length : Int) := of_decide_eq_true as0
         obtain ⟨ad369, A369_0, c369_0, e369, hx369_0, hl369_0, hi369_0⟩ := at_L5 (Kd.N_reads' HO_7.out).2.2 1 p369 q369
         obtain rfl : ad368 = ad369 := (by injection e369)
         obtain ⟨ce369, hce369, hMe369, hcc369⟩ := Kd.N_get HO_7.out [] 1 p369 (by first | exact q369 | exact of_decide_eq_true as0 | (have e_ := (Kd.N_reads' HO_7.out).1; omega))
         obtain ⟨ua369_0, uc369_0, rfl, ul369_0, ge369_0⟩ := Kd.FK_slice_open hMe369
         have hv369_0 := hcc369 0 _ rfl
         rw [Nat.add_zero, show ((Kd.slice 48 k48)).sz = 1 from rfl, Nat.mul_one] at hv369_0
         replace hv369_0 := Option.some.inj (hv369_0.symm.trans hx369_0)
         injection hv369_0 with hva_ hvn_ hvc_
         rw [hva_] at ge369_0
         rw [hvc_] at ul369_0
         have HL369_0 := Aside0.mk (show Kd.V k48 48 _ w.heap.size _ _ (rd_L5 x7_1 1) from Kd.V_mk ul369_0 ge369_0)
         clear hva_ hvn_ hvc_ ge369_0 ul369_0
         clear hcc369 hce369
         (try simp only [show (1 : Int).toNat = 1 from rfl, Nat.reduceMul, Nat.reduceEqDiff, Go.Addr.add, ↓reduceIte] at hx369_0)
         have qi369 : (1 < x7_1.length) = True := eq_true (by omega)
         (try rw [show ((1 : Int)).toNat = 1 from rfl] at hx369_0)
         have HR369_0 := Aside0.mk hi369_0
         have HC369_0 := Aside0.mk hl369_0
         clear hi369_0 hl369_0
         replace p369 := eq_true p369
         replace q369 := eq_true q369
         have p370 : 0 ≤ (2 : Int) := (by omega)
         have q370 : 2 < (x7_1.length : Int) := of_decide_eq_true as0
         obtain ⟨ad370, A370_0, c370_0, e370, hx370_0, hl370_0, hi370_0⟩ := at_L5 (Kd.N_reads' HO_7.out).2.2 2 p370 q370
         obtain rfl : ad368 = ad370 := (by injection e370)
         obtain ⟨ce370, hce370, hMe370, hcc370⟩ := Kd.N_get HO_7.out [] 2 p370 (by first | exact q370 | exact of_decide_eq_true as0 | (have e_ := (Kd.N_reads' HO_7.out).1; omega))
         obtain ⟨ua370_0, uc370_0, rfl, ul370_0, ge370_0⟩ := Kd.FK_slice_open hMe370
         have hv370_0 := hcc370 0 _ rfl
         rw [Nat.add_zero, show ((Kd.slice 48 k48)).sz = 1 from rfl, Nat.mul_one] at hv370_0
         replace hv370_0 := Option.some.inj (hv370_0.symm.trans hx370_0)
         injection hv370_0 with hva_ hvn_ hvc_
         rw [hva_] at ge370_0
         rw [hvc_] at ul370_0
         have HL370_0 := Aside0.mk (show Kd.V k48 48 _ w.heap.size _ _ (rd_L5 x7_1 2) from Kd.V_mk ul370_0 ge370_0)
         clear hva_ hvn_ hvc_ ge370_0 ul370_0
         clear hcc370 hce370
         (try simp only [show (2 : Int).toNat = 2 from rfl, Nat.reduceMul, Nat.reduceEqDiff, Go.Addr.add, ↓reduceIte] at hx370_0)
         have qi370 : (2 < x7_1.length) = True := eq_true (by omega)
         (try rw [show ((2 : Int)).toNat = 2 from rfl] at hx370_0)
         have HR370_0 := Aside0.mk hi370_0
         have HC370_0 := Aside0.mk hl370_0
         clear hi370_0 hl370_0
         replace p370 := eq_true p370
         replace q370 := eq_true q370
         refine start_ (n := 13) (S := fun w' => w'.cell? ⟨gb333, 0, none⟩ = some (.int .i64 ((rd_T48 l0 a1).f0)) ∧ w'.cell? ⟨gb333, 1, none⟩ = some (.int .i64 0) ∧ w'.cell? ⟨gb333, 2, none⟩ = some (.int .i64 0) ∧ w'.cell? ⟨gb333, 3, none⟩ = some (.int .i64 0) ∧ w'.cell? ⟨gb333, 4, none⟩ = some (.int .i64 ((rd_T48 l0 a1).f4)) ∧ w'.cell? ⟨gb333, 5, none⟩ = some (.string ((rd_T48 l0 a1).f5)) ∧ w'.cell? ⟨gb333, 6, none⟩ = some (.string ((rd_T48 l0 a1).f6)) ∧ w'.cell? ad368 = some (.slice A368_0 (rd_L5 x7_1 0).length c368_0) ∧ w'.cell? ⟨ad368.block, ad368.off + 1, none⟩ = some (.slice A369_0 (rd_L5 x7_1 1).length c369_0) ∧ w'.cell? ⟨ad368.block, ad368.off + 2, none⟩ = some (.slice A370_0 (rd_L5 x7_1 2).length c370_0)) (ds := []) #[false, false, false, false, false, false, false, false, false, false, false, false, false] (by kernel_rfl) rfl rfl ⟨(blk_cell BK333.out 0).trans rfl, (blk_cell BK333.out 1).trans rfl, (blk_cell BK333.out 2).trans rfl, (blk_cell BK333.out 3).trans rfl, (blk_cell BK333.out 4).trans rfl, (blk_cell BK333.out 5).trans rfl, (blk_cell BK333.out 6).trans rfl, hx368_0, hx369_0, hx370_0⟩ (fun hHeld => ?_); refine with_tabW spec_l23Part.tab20 spec_l23Part.bits20 (fun HT_ HW_ => ?_)
         generalize w68.drew = w69 at HO_7 BK333 HB HL368_0 HL369_0 HL370_0 HR368_0 HR369_0 HR370_0 hx368_0 hx369_0 hx370_0 hHeld ⊢
         refine pu_ 1 80 HT_ ?_
         refine pu_ 2 81 HT_ ?_
         refine pu_ 4 83 HT_ ?_
         refine pu_ 5 84 HT_ ?_
         refine pu_ 7 86 HT_ ?_
         refine pu_ 8 87 HT_ ?_
         refine tk_ 0 79 HT_ HW_ hHeld ?_
         refine tk_ 3 82 HT_ HW_ hHeld ?_
         refine tk_ 6 85 HT_ HW_ hHeld ?_
         refine tk_ 9 88 HT_ HW_ hHeld ?_
         refine on_ 10 89 HT_ fun K hK => ?_
         refine Kd.N_lit_step (Kd.slice 48 k48) _ 25 ?hg (N' := 89) ?hd (xs := ([rd_L5 x7_1 0, rd_L5 x7_1 1, rd_L5 x7_1 2] : List (List (S48)))) (inner := [.slice A368_0 (rd_L5 x7_1 0).length c368_0, .slice A369_0 (rd_L5 x7_1 1).length c369_0, .slice A370_0 (rd_L5 x7_1 2).length c370_0]) (ok := (fun k_ => (w.heap.size ≤ k_) ∧ some k_ ≠ (.slice (some ad368) x7_1.length co67 : Value).ownBlock ∧ k_ ≠ gb333)) (okp := (fun k_ => (w.heap.size ≤ k_) ∧ some k_ ≠ (.slice (some ad368) x7_1.length co67 : Value).ownBlock ∧ k_ ≠ gb333)) ?hr ?hp (fun _ hk => hk) ((show ∀ k_, w69.heap.size ≤ k_ → (fun k_ => (w.heap.size ≤ k_) ∧ some k_ ≠ (.slice (some ad368) x7_1.length co67 : Value).ownBlock ∧ k_ ≠ gb333) k_ from fun k_ hk => ⟨(Nat.le_trans (below_size (bb1 GE333.out)) hk), Kd.fresh' (Kd.N_lt (by (with_reducible repeat (first | apply Kd.N_alloc | apply Kd.N_drewN | apply Kd.N_drew)); exact HO_7.out)) k_ hk, Kd.freshB (g := gb333) (bk0 BK333.out) k_ hk⟩) _ (Nat.le_refl _)) (Below.refl _ _) (Nat.le_refl _) (by simp) ?_; (case hd => rfl); (case hg => rfl); (case hr => first | (go_simp; done) | (go_simp; rfl)); (case hp => exact (Reps.one (show Kd.FK (Kd.slice 48 k48) _ _ (rd_L5 x7_1 0) [.slice A368_0 (rd_L5 x7_1 0).length c368_0] from (Kd.FK_slice_mk (Kd.V_reads' (Kd.V_mono (ok' := (fun k_ => (w.heap.size ≤ k_) ∧ some k_ ≠ (.slice (some ad368) x7_1.length co67 : Value).ownBlock ∧ k_ ≠ gb333)) (HL368_0.out) (fun k_ hk => ⟨hk.1.1, ⟨hk.2, hk.1.2⟩⟩))).2.1 (Kd.V_F (Kd.V_mono (ok' := (fun k_ => (w.heap.size ≤ k_) ∧ some k_ ≠ (.slice (some ad368) x7_1.length co67 : Value).ownBlock ∧ k_ ≠ gb333)) (HL368_0.out) (fun k_ hk => ⟨hk.1.1, ⟨hk.2, hk.1.2⟩⟩))))) (Reps.one (show Kd.FK (Kd.slice 48 k48) _ _ (rd_L5 x7_1 1) [.slice A369_0 (rd_L5 x7_1 1).length c369_0] from (Kd.FK_slice_mk (Kd.V_reads' (Kd.V_mono (ok' := (fun k_ => (w.heap.size ≤ k_) ∧ some k_ ≠ (.slice (some ad368) x7_1.length co67 : Value).ownBlock ∧ k_ ≠ gb333)) (HL369_0.out) (fun k_ hk => ⟨hk.1.1, ⟨hk.2, hk.1.2⟩⟩))).2.1 (Kd.V_F (Kd.V_mono (ok' := (fun k_ => (w.heap.size ≤ k_) ∧ some k_ ≠ (.slice (some ad368) x7_1.length co67 : Value).ownBlock ∧ k_ ≠ gb333)) (HL369_0.out) (fun k_ hk => ⟨hk.1.1, ⟨hk.2, hk.1.2⟩⟩))))) (Reps.one (show Kd.FK (Kd.slice 48 k48) _ _ (rd_L5 x7_1 2) [.slice A370_0 (rd_L5 x7_1 2).length c370_0] from (Kd.FK_slice_mk (Kd.V_reads' (Kd.V_mono (ok' := (fun k_ => (w.heap.size ≤ k_) ∧ some k_ ≠ (.slice (some ad368) x7_1.length co67 : Value).ownBlock ∧ k_ ≠ gb333)) (HL370_0.out) (fun k_ hk => ⟨hk.1.1, ⟨hk.2, hk.1.2⟩⟩))).2.1 (Kd.V_F (Kd.V_mono (ok' := (fun k_ => (w.heap.size ≤ k_) ∧ some k_ ≠ (.slice (some ad368) x7_1.length co67 : Value).ownBlock ∧ k_ ≠ gb333)) (HL370_0.out) (fun k_ hk => ⟨hk.1.1, ⟨hk.2, hk.1.2⟩⟩))))) (Reps.none _ _)))))
         intro v372 w70 ho71 hb hg_ hnew_
         have HS7_ := (hb.cell (World.block_lt_of_cell? _ _ (hHeld.2.2.2.2.2.2.2.1))).trans (hHeld.2.2.2.2.2.2.2.1)
         have HS8_ := (hb.cell (World.block_lt_of_cell? _ _ (hHeld.2.2.2.2.2.2.2.2.1))).trans (hHeld.2.2.2.2.2.2.2.2.1)
         have HS9_ := (hb.cell (World.block_lt_of_cell? _ _ (hHeld.2.2.2.2.2.2.2.2.2))).trans (hHeld.2.2.2.2.2.2.2.2.2)
         clear hg_ hnew_
         (first | rw [← Ny371.out] at ho71 | (simp only [Int.reduceToNat] at ho71; rw [← Ny371.out] at ho71))
         replace HO_7 := Aside0.mk (Kd.N_elder' (by (with_reducible repeat (first | apply Kd.N_alloc | apply Kd.N_drewN | apply Kd.N_drew)); exact HO_7.out) (Kd.N_base ho71) hb)
         replace HL368_0 := Aside0.mk (Kd.V_elder' (by (with_reducible repeat (first | apply Kd.V_alloc | apply Kd.V_drewN | apply Kd.V_drew)); exact HL368_0.out) (Kd.N_base ho71) hb)
         replace HL369_0 := Aside0.mk (Kd.V_elder' (by (with_reducible repeat (first | apply Kd.V_alloc | apply Kd.V_drewN | apply Kd.V_drew)); exact HL369_0.out) (Kd.N_base ho71) hb)
         replace HL370_0 := Aside0.mk (Kd.V_elder' (by (with_reducible repeat (first | apply Kd.V_alloc | apply Kd.V_drewN | apply Kd.V_drew)); exact HL370_0.out) (Kd.N_base ho71) hb)
         have HO373 := Aside0.mk (Kd.N_lower ho71 (below_size (bb1 GE333.out)))
         replace BK333 := Aside0.mk (blk_below (g := gb333) (bk0 BK333.out) hb)
         replace HR368_0 := Aside0.mk (Kd.C_below (by repeat (first | (with_reducible exact HR368_0.out) | (with_reducible refine Kd.C_alloc ?_ _) | (with_reducible refine Kd.C_drewN ?_ _) | (with_reducible refine Kd.C_drew ?_) | exact HR368_0.out)) hb)
         replace HR369_0 := Aside0.mk (Kd.C_below (by repeat (first | (with_reducible exact HR369_0.out) | (with_reducible refine Kd.C_alloc ?_ _) | (with_reducible refine Kd.C_drewN ?_ _) | (with_reducible refine Kd.C_drew ?_) | exact HR369_0.out)) hb)
         replace HR370_0 := Aside0.mk (Kd.C_below (by repeat (first | (with_reducible exact HR370_0.out) | (with_reducible refine Kd.C_alloc ?_ _) | (with_reducible refine Kd.C_drewN ?_ _) | (with_reducible refine Kd.C_drew ?_) | exact HR370_0.out)) hb)
         replace HB := Aside0.mk (below_step (bb1 GE333.out) hb)
         clear hb ho71
         obtain ⟨Ao72, co72, eo72⟩ := Kd.N_slice HO373.out
         (first | subst eo72 | (injection eo72 with f1_ f2_ f3_; have f4_ := f1_.symm; have f5_ := f3_.symm; clear f1_ f2_ f3_; subst f4_; subst f5_))
         refine hK.out _ _ ⟨(blk_cell BK333.out 0).trans rfl, (blk_cell BK333.out 1).trans rfl, (blk_cell BK333.out 2).trans rfl, (blk_cell BK333.out 3).trans rfl, (blk_cell BK333.out 4).trans rfl, (blk_cell BK333.out 5).trans rfl, (blk_cell BK333.out 6).trans rfl, HS7_, HS8_, HS9_⟩ (fun hHeld => ?_)
         clear hK K
         refine nm_ ?_
         refine on_ 11 90 HT_ fun K hK => ?_
         refine goes_ Tryd.func50 (by kernel_rfl) rfl #[.agg #[.int .i64 ((rd_T48 l0 a1).f0), .int .i64 0, .int .i64 0, .int .i64 0, .int .i64 ((rd_T48 l0 a1).f4), .string ((rd_T48 l0 a1).f5), .string ((rd_T48 l0 a1).f6)], .slice Ao72 y371.length co72] (by rfl) rfl rfl mm0 ?_
         with_reducible refine (spec_l3Make.calls kj18 ((rd_T48 l0 a1).f0) 0 0 0 ((rd_T48 l0 a1).f4) ((rd_T48 l0 a1).f5) ((rd_T48 l0 a1).f6) _ _ y371 t374 _ ?side1 ?side2 A65.out).mono ?_
         (case side1 => exact cc0 (Kd.N_reads' HO373.out).2.2)
         (case side2 => exact (Kd.N_reads' HO373.out).2.1)
         rintro e w73 ⟨v375, rfl, ho0, hb⟩
         have HS7_ := (hb.cell (World.block_lt_of_cell? _ _ (hHeld.2.2.2.2.2.2.2.1))).trans (hHeld.2.2.2.2.2.2.2.1)
         have HS8_ := (hb.cell (World.block_lt_of_cell? _ _ (hHeld.2.2.2.2.2.2.2.2.1))).trans (hHeld.2.2.2.2.2.2.2.2.1)
         have HS9_ := (hb.cell (World.block_lt_of_cell? _ _ (hHeld.2.2.2.2.2.2.2.2.2))).trans (hHeld.2.2.2.2.2.2.2.2.2)
         refine ⟨_, rfl, ?_⟩
         replace HO_7 := Aside0.mk (Kd.N_elder' (by (with_reducible repeat (first | apply Kd.N_alloc | apply Kd.N_drewN | apply Kd.N_drew)); exact HO_7.out) (Kd.R_base ho0) hb)
         replace HL368_0 := Aside0.mk (Kd.V_elder' (by (with_reducible repeat (first | apply Kd.V_alloc | apply Kd.V_drewN | apply Kd.V_drew)); exact HL368_0.out) (Kd.R_base ho0) hb)
         replace HL369_0 := Aside0.mk (Kd.V_elder' (by (with_reducible repeat (first | apply Kd.V_alloc | apply Kd.V_drewN | apply Kd.V_drew)); exact HL369_0.out) (Kd.R_base ho0) hb)
         replace HL370_0 := Aside0.mk (Kd.V_elder' (by (with_reducible repeat (first | apply Kd.V_alloc | apply Kd.V_drewN | apply Kd.V_drew)); exact HL370_0.out) (Kd.R_base ho0) hb)
         replace HO373 := Aside0.mk (Kd.N_elder' (by (with_reducible repeat (first | apply Kd.N_alloc | apply Kd.N_drewN | apply Kd.N_drew)); exact HO373.out) (Kd.R_base ho0) hb)
         have HO376 := Aside0.mk (Kd.R_lower (Kd.R_newB (Kd.R_newM (M := fun k_ => (w.heap.size ≤ k_)) ho0 (below_size (bb1 GE333.out)) (fun k_ h_ => h_)) (g := gb333) (bk0 BK333.out)) (below_size (bb1 GE333.out)))
         replace BK333 := Aside0.mk (blk_below (g := gb333) (bk0 BK333.out) hb)
         replace HR368_0 := Aside0.mk (Kd.C_below (by repeat (first | (with_reducible exact HR368_0.out) | (with_reducible refine Kd.C_alloc ?_ _) | (with_reducible refine Kd.C_drewN ?_ _) | (with_reducible refine Kd.C_drew ?_) | exact HR368_0.out)) hb)
         replace HR369_0 := Aside0.mk (Kd.C_below (by repeat (first | (with_reducible exact HR369_0.out) | (with_reducible refine Kd.C_alloc ?_ _) | (with_reducible refine Kd.C_drewN ?_ _) | (with_reducible refine Kd.C_drew ?_) | exact HR369_0.out)) hb)
         replace HR370_0 := Aside0.mk (Kd.C_below (by repeat (first | (with_reducible exact HR370_0.out) | (with_reducible refine Kd.C_alloc ?_ _) | (with_reducible refine Kd.C_drewN ?_ _) | (with_reducible refine Kd.C_drew ?_) | exact HR370_0.out)) hb)
         replace HB := Aside0.mk (below_step (bb1 GE333.out) hb)
         clear hb ho0
         refine hK.out _ _ ⟨(blk_cell BK333.out 0).trans rfl, (blk_cell BK333.out 1).trans rfl, (blk_cell BK333.out 2).trans rfl, (blk_cell BK333.out 3).trans rfl, (blk_cell BK333.out 4).trans rfl, (blk_cell BK333.out 5).trans rfl, (blk_cell BK333.out 6).trans rfl, HS7_, HS8_, HS9_⟩ (fun hHeld => ?_)
         clear hK K
         refine nm_ ?_
         refine pu_ 12 4 HT_ ?_
         refine done_ (done_of HT_.out (by kernel_rfl)) ?_
         try go_wp2
         go_ret
         exact ⟨_, er0, Kd.R_V (by refine ra0 ?_; exact Kd.R_mono HO376.out (fun _ hk => hk.1.1)), bb1 GE333.out⟩
        ·rw [if_neg c64] at H
         exact absurd H (by simp)
        ·rw [if_neg c63] at H
         exact absurd H (by simp)
        ·rw [if_neg c62] at H
         exact absurd H (by simp)
        all_goals (go_wp2_with (first | ((with_reducible refine gate_dst (N := 59) rfl ?_); refine Kd.R_lit k48 _ 48 ?hg (N := 59) ?hd (xs := ([(⟨((rd_T48 l0 a1).f0), 0, 0, 0, ((rd_T48 l0 a1).f4), ((rd_T48 l0 a1).f5), ((rd_T48 l0 a1).f6)⟩ : S48)] : List (S48))) (inner := [.int .i64 ((rd_T48 l0 a1).f0), .int .i64 0, .int .i64 0, .int .i64 0, .int .i64 ((rd_T48 l0 a1).f4), .string ((rd_T48 l0 a1).f5), .string ((rd_T48 l0 a1).f6)]) (ok := fun _ => True) (okp := fun _ => True) ?hr ?hp (fun _ hk => hk) trivial (Below.refl _ _) (Nat.le_refl _) (by simp) ?_; (case hd => rfl); (case hg => rfl); (case hr => first | (go_simp; done) | (go_simp; rfl)); (case hp => exact (Reps.c7 (show Kd.M k48 _ _ _ (⟨((rd_T48 l0 a1).f0), 0, 0, 0, ((rd_T48 l0 a1).f4), ((rd_T48 l0 a1).f5), ((rd_T48 l0 a1).f6)⟩ : S48) [.int .i64 ((rd_T48 l0 a1).f0), .int .i64 0, .int .i64 0, .int .i64 0, .int .i64 ((rd_T48 l0 a1).f4), .string ((rd_T48 l0 a1).f5), .string ((rd_T48 l0 a1).f6)] from (k48_mkM _ _ _ (⟨((rd_T48 l0 a1).f0), 0, 0, 0, ((rd_T48 l0 a1).f4), ((rd_T48 l0 a1).f5), ((rd_T48 l0 a1).f6)⟩ : S48) )) (Reps.none _ _))); intro vz1 wz1 hoz1 hb hg_ hnew_; clear hg_ hnew_; (first | rw [← Ny350.out] at hoz1 | (simp only [Int.reduceToNat] at hoz1; rw [← Ny350.out] at hoz1)); replace HO_7 := Aside0.mk (Kd.N_elder' (by (with_reducible repeat (first | apply Kd.N_alloc | apply Kd.N_drewN | apply Kd.N_drew)); exact (Kd.N_mono (Kd.N_far (p := ⟨gb333, 3, none⟩) (Kd.N_far (p := ⟨gb333, 2, none⟩) (Kd.N_far (p := ⟨gb333, 1, none⟩) (Kd.N_mono HO_7.out (fun k_ hk => (⟨hk, hk.2⟩ : _ ∧ k_ ≠ gb333))) (fun _ hk => hk.2) (.int .i64 0)) (fun _ hk => hk.2) (.int .i64 0)) (fun _ hk => hk.2) (.int .i64 0)) (fun _ h_ => h_.1))) (Kd.R_base hoz1) hb); have HOz1 := Aside0.mk (Kd.R_lower (Kd.R_newB (Kd.R_newM (M := fun k_ => (w.heap.size ≤ k_)) hoz1 (below_size (bb1 GE333.out)) (fun k_ h_ => h_)) (g := gb333) (bk1 BK333.out)) (below_size (bb1 GE333.out))); replace BK333 := Aside0.mk (blk_below (g := gb333) (bk1 BK333.out) hb); replace HB := Aside0.mk (below_step (bb1 GE333.out) hb); clear hb hoz1)); go_ret; first | exact ⟨_, er0, by (with_reducible repeat (first | apply Kd.V_alloc | apply Kd.V_drewN | apply Kd.V_drew)); exact Kd.V_mono HL349_0.out (fun _ hk => hk.1.1), bb1 GE333.out⟩ | exact ⟨_, er0, Kd.R_V (by refine ra0 ?_; exact Kd.R_mono HOz1.out (fun _ hk => hk.1.1)), bb1 GE333.out⟩)
  ·rw [if_neg c4] at H
   exact absurd H (by simp)
 ·rw [if_neg c3] at H
  exact absurd H (by simp)

end Go.Proofs.YtoebebgeiahagaaDoor.PFnExactDropLets
