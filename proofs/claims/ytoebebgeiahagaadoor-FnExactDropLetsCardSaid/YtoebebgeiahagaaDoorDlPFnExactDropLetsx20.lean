-- Printed by this session's own program (wip/tools)
import Derived.Test.YtoebebgeiahagaaDoorDlPFnExactDropLetsx0
import Derived.Test.YtoebebgeiahagaaDoorDlPFnExactDropLetsx1
import Derived.Test.YtoebebgeiahagaaDoorDlPFnExactDropLetsx18
import Derived.Test.YtoebebgeiahagaaDoorDlPFnExactDropLetsx19
namespace Go.Proofs.YtoebebgeiahagaaDoor.PFnExactDropLets
open Go.RowKit Go.Proofs.YtoebebgeiahagaaDoorW.PrintWords Go.Proofs.YtoebebgeiahagaaDoorW.PrintLast Go.Proofs.YtoebebgeiahagaaDoorW.PrintMore
attribute [local go_sem] max2_int min2_int max_two min_two max_three min_three max_four min_four   -- for this text's walks alone
set_option linter.unusedVariables false
set_option linter.unusedSimpArgs false

attribute [local go_sem high] eqA32
/-! ### impl_dropTree: function 40 -/
mutual
def impl_dropTree.j0 : Nat → List (S48) → List (S32) → Int → Bool → Int → Int → Int → Int → Int → ByteArray → ByteArray → Option (Int × Int × Int × Int × Int × ByteArray × ByteArray × (List (S56)))
 | 0, _, _, _, _, _, _, _, _, _, _, _ => none
 | k + 1, x0, x1, x2, x27, x453000, x453001, x453002, x453003, x453004, x453005, x453006 => if x27 = true then (impl_dropTree.l0 k x0 x1 x2 false x1 (x1.length : Int) 0 x453000 x453001 x453002 x453003 x453004 x453005 x453006) else (impl_dropTree.j2 k x0 x1 x453000 x453001 x453002 x453003 x453004 x453005 x453006)
def impl_dropTree.j2 : Nat → List (S48) → List (S32) → Int → Int → Int → Int → Int → ByteArray → ByteArray → Option (Int × Int × Int × Int × Int × ByteArray × ByteArray × (List (S56)))
 | 0, _, _, _, _, _, _, _, _, _ => none
 | k + 1, x0, x1, x453000, x453001, x453002, x453003, x453004, x453005, x453006 => (impl_Kids.f k x453000 x453001 x453002 x453003 x453004 x453005 x453006).bind fun t467 => (impl_dropTree.l1 k x0 x1 t467 (t467.length : Int) 0 x453000 x453001 x453002 x453003 x453004 x453005 x453006 ([] : List (S56)))
def impl_dropTree.l1 : Nat → List (S48) → List (S32) → List Int → Int → Int → Int → Int → Int → Int → Int → ByteArray → ByteArray → List (S56) → Option (Int × Int × Int × Int × Int × ByteArray × ByteArray × (List (S56)))
 | 0, _, _, _, _, _, _, _, _, _, _, _, _, _ => none
 | k + 1, x0, x1, x52, x53, x54, x467000, x467001, x467002, x467003, x467004, x467005, x467006, x467007 => if x54 < x53 then (if 0 ≤ x54 then (if x54 < (x52.length : Int) then ((impl_dropTree.f k x0 x1 (rd x52 x54)).bind fun bt471 => (if x467007.length < 1466015503701 then (impl_dropTree.l1 k x0 x1 x52 x53 (wrap64 (x54 + 1)) x467000 x467001 x467002 x467003 x467004 x467005 x467006 (x467007 ++ [(⟨(⟨bt471.1, bt471.2.1, bt471.2.2.1, bt471.2.2.2.1, bt471.2.2.2.2.1, bt471.2.2.2.2.2.1, bt471.2.2.2.2.2.2.1⟩ : S48), bt471.2.2.2.2.2.2.2⟩ : S56)])) else (none))) else (none)) else (none)) else (some (x467000, x467001, x467002, x467003, x467004, x467005, x467006, x467007))
def impl_dropTree.l0 : Nat → List (S48) → List (S32) → Int → Bool → List (S32) → Int → Int → Int → Int → Int → Int → Int → ByteArray → ByteArray → Option (Int × Int × Int × Int × Int × ByteArray × ByteArray × (List (S56)))
 | 0, _, _, _, _, _, _, _, _, _, _, _, _, _, _ => none
 | k + 1, x0, x1, x2, x8, x28, x29, x30, x453000, x453001, x453002, x453003, x453004, x453005, x453006 => if x30 < x29 then (if 0 ≤ x30 then (if x30 < (x28.length : Int) then (if x8 = true then (impl_dropTree.l0 k x0 x1 x2 true x28 x29 (wrap64 (x30 + 1)) x453000 x453001 x453002 x453003 x453004 x453005 x453006) else (impl_dropTree.l0 k x0 x1 x2 (((rd_T32 x28 x30).f0) == x2 && (((rd_T32 x28 x30).f1) == 0)) x28 x29 (wrap64 (x30 + 1)) x453000 x453001 x453002 x453003 x453004 x453005 x453006)) else (none)) else (none)) else (if x8 = true then (impl_dropTree.j2 k x0 x1 x453000 x453001 x453002 x453003 x453004 x453005 x453006) else ((impl_dropTree.f k x0 x1 x453002).bind fun bt456 => (some (bt456.1, bt456.2.1, bt456.2.2.1, bt456.2.2.2.1, bt456.2.2.2.2.1, bt456.2.2.2.2.2.1, bt456.2.2.2.2.2.2.1, bt456.2.2.2.2.2.2.2))))
def impl_dropTree.f : Nat → List (S48) → List (S32) → Int → Option (Int × Int × Int × Int × Int × ByteArray × ByteArray × (List (S56)))
 | 0, _, _, _ => none
 | k + 1, l0, l1, a2 => if 0 ≤ a2 then (if a2 < (l0.length : Int) then (if ((rd_T48 l0 a2).f0) = 5 then ((impl_effectOf.f k l0 ((rd_T48 l0 a2).f1)).bind fun t453 => (impl_dropTree.j0 k l0 l1 a2 (t453 == 0) ((rd_T48 l0 a2).f0) ((rd_T48 l0 a2).f1) ((rd_T48 l0 a2).f2) ((rd_T48 l0 a2).f3) ((rd_T48 l0 a2).f4) ((rd_T48 l0 a2).f5) ((rd_T48 l0 a2).f6))) else (impl_dropTree.j0 k l0 l1 a2 false ((rd_T48 l0 a2).f0) ((rd_T48 l0 a2).f1) ((rd_T48 l0 a2).f2) ((rd_T48 l0 a2).f3) ((rd_T48 l0 a2).f4) ((rd_T48 l0 a2).f5) ((rd_T48 l0 a2).f6))) else (none)) else (none)
end
theorem impl_dropTree.mono_l : ∀ k, (∀ y0 y1 y2, LeO (impl_dropTree.f k y0 y1 y2) (impl_dropTree.f (k + 1) y0 y1 y2)) ∧ (∀ y0 y1 y2 y3 y4 y5 y6 y7 y8 y9 y10, LeO (impl_dropTree.j0 k y0 y1 y2 y3 y4 y5 y6 y7 y8 y9 y10) (impl_dropTree.j0 (k + 1) y0 y1 y2 y3 y4 y5 y6 y7 y8 y9 y10)) ∧ (∀ y0 y1 y2 y3 y4 y5 y6 y7 y8, LeO (impl_dropTree.j2 k y0 y1 y2 y3 y4 y5 y6 y7 y8) (impl_dropTree.j2 (k + 1) y0 y1 y2 y3 y4 y5 y6 y7 y8)) ∧ (∀ y0 y1 y2 y3 y4 y5 y6 y7 y8 y9 y10 y11 y12, LeO (impl_dropTree.l1 k y0 y1 y2 y3 y4 y5 y6 y7 y8 y9 y10 y11 y12) (impl_dropTree.l1 (k + 1) y0 y1 y2 y3 y4 y5 y6 y7 y8 y9 y10 y11 y12)) ∧ (∀ y0 y1 y2 y3 y4 y5 y6 y7 y8 y9 y10 y11 y12 y13, LeO (impl_dropTree.l0 k y0 y1 y2 y3 y4 y5 y6 y7 y8 y9 y10 y11 y12 y13) (impl_dropTree.l0 (k + 1) y0 y1 y2 y3 y4 y5 y6 y7 y8 y9 y10 y11 y12 y13))
 | 0 => ⟨fun _ _ _ r h => by simp [impl_dropTree.f] at h, fun _ _ _ _ _ _ _ _ _ _ _ r h => by simp [impl_dropTree.j0] at h, fun _ _ _ _ _ _ _ _ _ r h => by simp [impl_dropTree.j2] at h, fun _ _ _ _ _ _ _ _ _ _ _ _ _ r h => by simp [impl_dropTree.l1] at h, fun _ _ _ _ _ _ _ _ _ _ _ _ _ _ r h => by simp [impl_dropTree.l0] at h⟩
 | k + 1 => by
  obtain ⟨ih0, ih1, ih2, ih3, ih4⟩ := impl_dropTree.mono_l k
  refine ⟨?_, ?_, ?_, ?_, ?_⟩
  ·intro y0 y1 y2
   unfold impl_dropTree.f
   repeat' first
   | (with_reducible exact ih0 _ _ _)
   | (with_reducible exact ih1 _ _ _ _ _ _ _ _ _ _ _)
   | (with_reducible exact ih2 _ _ _ _ _ _ _ _ _)
   | (with_reducible exact ih3 _ _ _ _ _ _ _ _ _ _ _ _ _)
   | (with_reducible exact ih4 _ _ _ _ _ _ _ _ _ _ _ _ _ _)
   | (with_reducible exact impl_Kids.mono _ _ _ _ _ _ _ _)
   | (with_reducible exact impl_effectOf.mono _ _ _)
   | (with_reducible exact LeO.refl _)
   | (with_reducible exact LeO.none _)
   | (with_reducible refine LeO.ite ?_ ?_)
   | (with_reducible refine LeO.bind ?_ (fun _ => ?_))
   | exact ih0 _ _ _
   | exact ih1 _ _ _ _ _ _ _ _ _ _ _
   | exact ih2 _ _ _ _ _ _ _ _ _
   | exact ih3 _ _ _ _ _ _ _ _ _ _ _ _ _
   | exact ih4 _ _ _ _ _ _ _ _ _ _ _ _ _ _
   | exact impl_Kids.mono _ _ _ _ _ _ _ _
   | exact impl_effectOf.mono _ _ _
   | exact LeO.none _
   | refine LeO.ite ?_ ?_
   | refine LeO.bind ?_ (fun _ => ?_)
  ·intro y0 y1 y2 y3 y4 y5 y6 y7 y8 y9 y10
   unfold impl_dropTree.j0
   repeat' first
   | (with_reducible exact ih0 _ _ _)
   | (with_reducible exact ih1 _ _ _ _ _ _ _ _ _ _ _)
   | (with_reducible exact ih2 _ _ _ _ _ _ _ _ _)
   | (with_reducible exact ih3 _ _ _ _ _ _ _ _ _ _ _ _ _)
   | (with_reducible exact ih4 _ _ _ _ _ _ _ _ _ _ _ _ _ _)
   | (with_reducible exact impl_Kids.mono _ _ _ _ _ _ _ _)
   | (with_reducible exact impl_effectOf.mono _ _ _)
   | (with_reducible exact LeO.refl _)
   | (with_reducible exact LeO.none _)
   | (with_reducible refine LeO.ite ?_ ?_)
   | (with_reducible refine LeO.bind ?_ (fun _ => ?_))
   | exact ih0 _ _ _
   | exact ih1 _ _ _ _ _ _ _ _ _ _ _
   | exact ih2 _ _ _ _ _ _ _ _ _
   | exact ih3 _ _ _ _ _ _ _ _ _ _ _ _ _
   | exact ih4 _ _ _ _ _ _ _ _ _ _ _ _ _ _
   | exact impl_Kids.mono _ _ _ _ _ _ _ _
   | exact impl_effectOf.mono _ _ _
   | exact LeO.none _
   | refine LeO.ite ?_ ?_
   | refine LeO.bind ?_ (fun _ => ?_)
  ·intro y0 y1 y2 y3 y4 y5 y6 y7 y8
   unfold impl_dropTree.j2
   repeat' first
   | (with_reducible exact ih0 _ _ _)
   | (with_reducible exact ih1 _ _ _ _ _ _ _ _ _ _ _)
   | (with_reducible exact ih2 _ _ _ _ _ _ _ _ _)
   | (with_reducible exact ih3 _ _ _ _ _ _ _ _ _ _ _ _ _)
   | (with_reducible exact ih4 _ _ _ _ _ _ _ _ _ _ _ _ _ _)
   | (with_reducible exact impl_Kids.mono _ _ _ _ _ _ _ _)
   | (with_reducible exact impl_effectOf.mono _ _ _)
   | (with_reducible exact LeO.refl _)
   | (with_reducible exact LeO.none _)
   | (with_reducible refine LeO.ite ?_ ?_)
   | (with_reducible refine LeO.bind ?_ (fun _ => ?_))
   | exact ih0 _ _ _
   | exact ih1 _ _ _ _ _ _ _ _ _ _ _
   | exact ih2 _ _ _ _ _ _ _ _ _
   | exact ih3 _ _ _ _ _ _ _ _ _ _ _ _ _
   | exact ih4 _ _ _ _ _ _ _ _ _ _ _ _ _ _
   | exact impl_Kids.mono _ _ _ _ _ _ _ _
   | exact impl_effectOf.mono _ _ _
   | exact LeO.none _
   | refine LeO.ite ?_ ?_
   | refine LeO.bind ?_ (fun _ => ?_)
  ·intro y0 y1 y2 y3 y4 y5 y6 y7 y8 y9 y10 y11 y12
   unfold impl_dropTree.l1
   repeat' first
   | (with_reducible exact ih0 _ _ _)
   | (with_reducible exact ih1 _ _ _ _ _ _ _ _ _ _ _)
   | (with_reducible exact ih2 _ _ _ _ _ _ _ _ _)
   | (with_reducible exact ih3 _ _ _ _ _ _ _ _ _ _ _ _ _)
   | (with_reducible exact ih4 _ _ _ _ _ _ _ _ _ _ _ _ _ _)
   | (with_reducible exact impl_Kids.mono _ _ _ _ _ _ _ _)
   | (with_reducible exact impl_effectOf.mono _ _ _)
   | (with_reducible exact LeO.refl _)
   | (with_reducible exact LeO.none _)
   | (with_reducible refine LeO.ite ?_ ?_)
   | (with_reducible refine LeO.bind ?_ (fun _ => ?_))
   | exact ih0 _ _ _
   | exact ih1 _ _ _ _ _ _ _ _ _ _ _
   | exact ih2 _ _ _ _ _ _ _ _ _
   | exact ih3 _ _ _ _ _ _ _ _ _ _ _ _ _
   | exact ih4 _ _ _ _ _ _ _ _ _ _ _ _ _ _
   | exact impl_Kids.mono _ _ _ _ _ _ _ _
   | exact impl_effectOf.mono _ _ _
   | exact LeO.none _
   | refine LeO.ite ?_ ?_
   | refine LeO.bind ?_ (fun _ => ?_)
  ·intro y0 y1 y2 y3 y4 y5 y6 y7 y8 y9 y10 y11 y12 y13
   unfold impl_dropTree.l0
   repeat' first
   | (with_reducible exact ih0 _ _ _)
   | (with_reducible exact ih1 _ _ _ _ _ _ _ _ _ _ _)
   | (with_reducible exact ih2 _ _ _ _ _ _ _ _ _)
   | (with_reducible exact ih3 _ _ _ _ _ _ _ _ _ _ _ _ _)
   | (with_reducible exact ih4 _ _ _ _ _ _ _ _ _ _ _ _ _ _)
   | (with_reducible exact impl_Kids.mono _ _ _ _ _ _ _ _)
   | (with_reducible exact impl_effectOf.mono _ _ _)
   | (with_reducible exact LeO.refl _)
   | (with_reducible exact LeO.none _)
   | (with_reducible refine LeO.ite ?_ ?_)
   | (with_reducible refine LeO.bind ?_ (fun _ => ?_))
   | exact ih0 _ _ _
   | exact ih1 _ _ _ _ _ _ _ _ _ _ _
   | exact ih2 _ _ _ _ _ _ _ _ _
   | exact ih3 _ _ _ _ _ _ _ _ _ _ _ _ _
   | exact ih4 _ _ _ _ _ _ _ _ _ _ _ _ _ _
   | exact impl_Kids.mono _ _ _ _ _ _ _ _
   | exact impl_effectOf.mono _ _ _
   | exact LeO.none _
   | refine LeO.ite ?_ ?_
   | refine LeO.bind ?_ (fun _ => ?_)
theorem impl_dropTree.mono : ∀ a0 a1 a2 k, LeO (impl_dropTree.f k a0 a1 a2) (impl_dropTree.f (k + 1) a0 a1 a2) := by
 intro a0 a1 a2 k
 obtain ⟨ih0, ih1, ih2, ih3, ih4⟩ := impl_dropTree.mono_l k
 exact ih0 a0 a1 a2
def impl_dropTree.T15 : Bool × List (List Nat × List Nat) := (true, [([], []), ([0], [0]), ([], []), ([], []), ([], []), ([2, 3, 4], [2, 3, 4]), ([5], [5]), ([1, 6, 5], [1, 6]), ([0, 1, 2, 3, 4, 5, 6, 7], []), ([8, 7, 7, 0, 1, 2, 3, 4, 5, 6, 7], [7, 8])])
def impl_dropTree.B15 : List Nat := [0, 1, 0, 0, 0, 28, 60, 127, 255, 511]
theorem impl_dropTree.tab15 : rtab .any (opsOf Tryd.f40 15) = impl_dropTree.T15 := by kernel_rfl
theorem impl_dropTree.bits15 : waitsOk impl_dropTree.T15.2 impl_dropTree.B15 = true := by kernel_rfl
set_option maxHeartbeats 8000000 in
set_option maxRecDepth 100000 in
theorem impl_dropTree.calls (k : Nat) : ∀ (A0 : Option Addr) (c0 : Nat) (l0 : List (S48)) (A1 : Option Addr) (c1 : Nat) (l1 : List (S32)) (a2 : Int) (r1 : Int) (r2 : Int) (r3 : Int) (r4 : Int) (r5 : Int) (r6 : ByteArray) (r7 : ByteArray) (r8 : List (S56)) (w : World) (hr0 : Kd.C k48 w A0 l0.length l0) (hc0 : l0.length ≤ c0) (hr1 : Kd.C k32 w A1 l1.length l1) (hc1 : l1.length ≤ c1) (h : impl_dropTree.f k l0 l1 a2 = some (r1, r2, r3, r4, r5, r6, r7, r8)),
  Calls Tryd.prog 40 #[.slice A0 l0.length c0, .slice A1 l1.length c1, .int .i64 a2] w fun e w' => ∃ v7_ : Value, e = .returned (.agg #[.int .i64 r1, .int .i64 r2, .int .i64 r3, .int .i64 r4, .int .i64 r5, .string r6, .string r7, v7_]) ∧ Kd.R k56 56 w' w.heap.size (fun _ => True) v7_ r8 ∧ Below w.heap.size w w' := by
 induction k using Nat.strongRecOn with
 | _ k ih =>
 intro A0 c0 l0 A1 c1 l1 a2 r1 r2 r3 r4 r5 r6 r7 r8 w hr0 hc0 hr1 hc1 h
 cases k with
 | zero => exact absurd h (by simp [impl_dropTree.f])
 | succ k =>
 simp only [impl_dropTree.f] at h
 have hu56 := Tryd.underlying56
 have hu48 := Tryd.underlying48
 have hu32 := Tryd.underlying32
 have HR0 := Aside0.mk hr0
 have HC0 := Aside0.mk hc0
 clear hr0 hc0
 have HR1 := Aside0.mk hr1
 have HC1 := Aside0.mk hc1
 clear hr1 hc1
 have HB := Aside0.mk (Below.refl w.heap.size w)
 have H := h
 clear h
 by_cases c4 : 0 ≤ a2
 ·rw [if_pos c4] at H
  have c4b0 := decide_eq_true c4
  clear c4
  by_cases c5 : a2 < (l0.length : Int)
  ·rw [if_pos c5] at H
   have c5b0 := decide_eq_true c5
   clear c5
   have HC6 := Aside0.mk H
   clear H
   go_enter Tryd.func40, Tryd.ntmps40
   go_upto_region 2 with (first | ((with_reducible refine gate_dst (N := 6) rfl ?_); refine box_event ?hg (N := 6) ?hd (cs := #[.int .i64 0, .int .i64 0, .int .i64 0, .int .i64 0, .int .i64 0, .string (⟨#[]⟩ : ByteArray), .string (⟨#[]⟩ : ByteArray), .slice none 0 0]) (t := 56) ?hr ?_; (case hd => rfl); (case hg => rfl); (case hr => first | (go_simp; done) | (go_simp; rfl)); intro gb450 hg w7 hbox hb; have BK450 := Aside0.mk (hbox); have GW450 := Aside0.mk ((by rw [hg]; exact (below_size bb0) : w.heap.size ≤ gb450)); have GE450 := Aside0.mk ((by rw [hg]; exact (below_size bb0) : w.heap.size ≤ gb450)); replace HB := Aside0.mk (below_step bb0 hb); clear hb hbox hg; have p451 : 0 ≤ (a2 : Int) := of_decide_eq_true as0; have q451 : a2 < (l0.length : Int) := of_decide_eq_true as0; obtain ⟨ad451, e451, hx451_0, hx451_1, hx451_2, hx451_3, hx451_4, hx451_5, hx451_6⟩ := at_T48 HR0.out a2 p451 q451; cases e451; replace hx451_0 := hbc HB hx451_0; replace hx451_1 := hbc HB hx451_1; replace hx451_2 := hbc HB hx451_2; replace hx451_3 := hbc HB hx451_3; replace hx451_4 := hbc HB hx451_4; replace hx451_5 := hbc HB hx451_5; replace hx451_6 := hbc HB hx451_6; replace p451 := eq_true p451; replace q451 := eq_true q451) | ((with_reducible refine gate_dst (N := 7) rfl ?_); refine box_event ?hg (N := 7) ?hd (cs := #[.int .i64 0, .int .i64 0, .int .i64 0, .int .i64 0, .int .i64 0, .string (⟨#[]⟩ : ByteArray), .string (⟨#[]⟩ : ByteArray)]) (t := 48) ?hr ?_; (case hd => rfl); (case hg => rfl); (case hr => first | (go_simp; done) | (go_simp; rfl)); intro gb452 hg w8 hbox hb; have BK452 := Aside0.mk (hbox); have GW452 := Aside0.mk ((by rw [hg]; exact (below_size (bb1 GE450.out)) : w.heap.size ≤ gb452)); have GE452 := Aside0.mk ((by rw [hg]; exact (below_size (bb1 GE450.out)) : w.heap.size ≤ gb452)); replace HB := Aside0.mk (below_step (bb1 GE450.out) hb); have NB450_452 := Aside0.mk ((by rw [hg]; exact Nat.ne_of_lt (blk_lt (g := gb450) (bk0 BK450.out)) : gb450 ≠ gb452)); have NB452_450 := Aside0.mk ((by rw [hg]; exact Nat.ne_of_gt (blk_lt (g := gb450) (bk0 BK450.out)) : gb452 ≠ gb450)); replace BK450 := Aside0.mk (blk_below (g := gb450) (bk0 BK450.out) hb); clear hb hbox hg; have hnb9 := NB452_450.out; have hnc9 := NB450_452.out; obtain ⟨hcz10_0, hcz10_1, hcz10_2, hcz10_3, hcz10_4, hcz10_5, hcz10_6⟩ := cells7 BK452.out; obtain ⟨hfz10_0, hfz10_1, hfz10_2, hfz10_3, hfz10_4, hfz10_5, hfz10_6⟩ := frz7 BK452.out))
   (try simp only [Act.put, List.setIfInBounds_toArray, List.set_cons_zero, List.set_cons_succ])
   go_cut [27] (fun v27 wc => ∃ (kq : Nat) (x27_5 : Bool), v27 = .bool x27_5 ∧ Aside0 (impl_dropTree.j0 kq l0 l1 a2 x27_5 ((rd_T48 l0 a2).f0) ((rd_T48 l0 a2).f1) ((rd_T48 l0 a2).f2) ((rd_T48 l0 a2).f3) ((rd_T48 l0 a2).f4) ((rd_T48 l0 a2).f5) ((rd_T48 l0 a2).f6) = some (r1, r2, r3, r4, r5, r6, r7, r8)) ∧ Aside0 (kq ≤ k) ∧ Aside0 (wc.heap[gb450]? = some (.cells #[.int .i64 0, .int .i64 0, .int .i64 0, .int .i64 0, .int .i64 0, .string (⟨#[]⟩ : ByteArray), .string (⟨#[]⟩ : ByteArray), (.slice none 0 0)] 56 (0, 0))) ∧ Aside0 (wc.heap[gb452]? = some (.cells #[.int .i64 ((rd_T48 l0 a2).f0), .int .i64 ((rd_T48 l0 a2).f1), .int .i64 ((rd_T48 l0 a2).f2), .int .i64 ((rd_T48 l0 a2).f3), .int .i64 ((rd_T48 l0 a2).f4), .string ((rd_T48 l0 a2).f5), .string ((rd_T48 l0 a2).f6)] 48 (0, 0))) ∧ Aside0 (Below w.heap.size w wc))
   case first =>
    have H := HC6.out
    clear HC6
    by_cases c11 : ((rd_T48 l0 a2).f0) = 5
    ·rw [if_pos c11] at H
     obtain ⟨c11b0, c11b1⟩ := eqT c11
     clear c11
     (first | rw [c11b0] | (simp only [i64_w, i32_w]; rw [c11b0]) | skip)
     obtain ⟨t453, A12, H⟩ := bx H
     have H' := Aside0.mk H
     clear H
     have hnb13 := NB452_450.out
     have hnc13 := NB450_452.out
     obtain ⟨hcz14_0, hcz14_1, hcz14_2, hcz14_3, hcz14_4, hcz14_5, hcz14_6⟩ := cells7 BK452.out
     obtain ⟨hfz14_0, hfz14_1, hfz14_2, hfz14_3, hfz14_4, hfz14_5, hfz14_6⟩ := frz7 BK452.out
     go_wp2_with (first | (go_at_call 31; (with_reducible refine (impl_effectOf.calls k _ _ l0 ((rd_T48 l0 a2).f1) t453 _ ?side1 ?side2 A12.out).mono ?_); (case side1 => exact Kd.C_below HR0.out (bb2 GE450.out GE452.out)); (case side2 => exact HC0.out); rintro e w15 ⟨rfl, hb⟩; replace BK450 := Aside0.mk (blk_below (g := gb450) (bf1 NB450_452.out BK450.out) hb); replace BK452 := Aside0.mk (blk_below (g := gb452) (bk1 BK452.out) hb); replace HB := Aside0.mk (below_step (bb2 GE450.out GE452.out) hb); clear hb))
     go_meet
     case rel => exact ⟨_, ((t453 == 0)), rs0, H', ⟨by first | omega | exact Nat.le_refl _⟩, ⟨by refine bk0 ?_; exact BK450.out⟩, ⟨by refine bk0 ?_; exact BK452.out⟩, ⟨bb2 GE450.out GE452.out⟩⟩
    ·rw [if_neg c11] at H
     obtain ⟨c11b0, c11b1⟩ := eqF c11
     (first | rw [c11b0] | (simp only [i64_w, i32_w]; rw [c11b0]) | skip)
     have H' := Aside0.mk H
     clear H
     have hnb16 := NB452_450.out
     have hnc16 := NB450_452.out
     obtain ⟨hcz17_0, hcz17_1, hcz17_2, hcz17_3, hcz17_4, hcz17_5, hcz17_6⟩ := cells7 BK452.out
     obtain ⟨hfz17_0, hfz17_1, hfz17_2, hfz17_3, hfz17_4, hfz17_5, hfz17_6⟩ := frz7 BK452.out
     go_wp2
     go_meet
     case rel => exact ⟨_, (false), rs0, H', ⟨by first | omega | exact Nat.le_refl _⟩, ⟨bf1 NB450_452.out BK450.out⟩, ⟨bk1 BK452.out⟩, ⟨bb2 GE450.out GE452.out⟩⟩
   case rest =>
    clear HC6
    try clear c1
    try clear p2
    try clear c4
    try clear c4b0
    try clear p4
    try clear q4
    try clear hx4
    try clear c5
    try clear c5b0
    try clear c9
    try clear c11
    try clear c11b0
    try clear c11b1
    try clear c13
    try clear c16
    try clear hcz10_0
    try clear hcz10_1
    try clear hcz10_2
    try clear hcz10_3
    try clear hcz10_4
    try clear hcz10_5
    try clear hcz10_6
    try clear hcz14_0
    try clear hcz14_1
    try clear hcz14_2
    try clear hcz14_3
    try clear hcz14_4
    try clear hcz14_5
    try clear hcz14_6
    try clear hcz17_0
    try clear hcz17_1
    try clear hcz17_2
    try clear hcz17_3
    try clear hcz17_4
    try clear hcz17_5
    try clear hcz17_6
    try clear hfz10_0
    try clear hfz10_1
    try clear hfz10_2
    try clear hfz10_3
    try clear hfz10_4
    try clear hfz10_5
    try clear hfz10_6
    try clear hfz14_0
    try clear hfz14_1
    try clear hfz14_2
    try clear hfz14_3
    try clear hfz14_4
    try clear hfz14_5
    try clear hfz14_6
    try clear hfz17_0
    try clear hfz17_1
    try clear hfz17_2
    try clear hfz17_3
    try clear hfz17_4
    try clear hfz17_5
    try clear hfz17_6
    try clear hx451_0
    try clear hx451_1
    try clear hx451_2
    try clear hx451_3
    try clear hx451_4
    try clear hx451_5
    try clear hx451_6
    try clear p451
    try clear q451
    obtain ⟨kq, x27_5, rfl, HA, HJ5, BK450, BK452, HB⟩ := hcut
    cases kq with
    | zero => exact absurd HA.out (by simp [impl_dropTree.j0])
    | succ kj5 =>
     have H := HA.out
     clear HA
     simp only [impl_dropTree.j0] at H
     have HC18 := Aside0.mk H
     clear H
     go_upto_if 27 with (fail)
     go_cut [] (fun wc => ∃ (kq : Nat) (x451000_17 : Int) (x451001_17 : Int) (x451002_17 : Int) (x451003_17 : Int) (x451004_17 : Int) (x451005_17 : ByteArray) (x451006_17 : ByteArray), Aside0 (impl_dropTree.j2 kq l0 l1 ((rd_T48 l0 a2).f0) ((rd_T48 l0 a2).f1) ((rd_T48 l0 a2).f2) ((rd_T48 l0 a2).f3) ((rd_T48 l0 a2).f4) ((rd_T48 l0 a2).f5) ((rd_T48 l0 a2).f6) = some (r1, r2, r3, r4, r5, r6, r7, r8)) ∧ Aside0 (kq ≤ kj5) ∧ Aside0 (wc.heap[gb450]? = some (.cells #[.int .i64 x451000_17, .int .i64 x451001_17, .int .i64 x451002_17, .int .i64 x451003_17, .int .i64 x451004_17, .string x451005_17, .string x451006_17, (.slice none 0 0)] 56 (0, 0))) ∧ Aside0 (wc.heap[gb452]? = some (.cells #[.int .i64 ((rd_T48 l0 a2).f0), .int .i64 ((rd_T48 l0 a2).f1), .int .i64 ((rd_T48 l0 a2).f2), .int .i64 ((rd_T48 l0 a2).f3), .int .i64 ((rd_T48 l0 a2).f4), .string ((rd_T48 l0 a2).f5), .string ((rd_T48 l0 a2).f6)] 48 (0, 0))) ∧ Aside0 (Below w.heap.size w wc))
     case first =>
      have H := HC18.out
      clear HC18
      by_cases c19 : x27_5 = true
      ·subst c19
       rw [if_pos rfl] at H
       have H' := Aside0.mk H
       clear H
       go_wp2
       go_loopg [8, 30] kj5 (fun kq v8 v30 w' => ∃ (x8_2 : Bool) (x30_2 : Int), v8 = .bool x8_2 ∧ v30 = .int .i64 x30_2 ∧ Aside0 (impl_dropTree.l0 kq l0 l1 a2 x8_2 l1 (l1.length : Int) x30_2 ((rd_T48 l0 a2).f0) ((rd_T48 l0 a2).f1) ((rd_T48 l0 a2).f2) ((rd_T48 l0 a2).f3) ((rd_T48 l0 a2).f4) ((rd_T48 l0 a2).f5) ((rd_T48 l0 a2).f6) = some (r1, r2, r3, r4, r5, r6, r7, r8)) ∧ Aside0 (kq ≤ kj5) ∧ Aside0 (w'.heap[gb450]? = some (.cells #[.int .i64 0, .int .i64 0, .int .i64 0, .int .i64 0, .int .i64 0, .string (⟨#[]⟩ : ByteArray), .string (⟨#[]⟩ : ByteArray), (.slice none 0 0)] 56 (0, 0))) ∧ Aside0 (w'.heap[gb452]? = some (.cells #[.int .i64 ((rd_T48 l0 a2).f0), .int .i64 ((rd_T48 l0 a2).f1), .int .i64 ((rd_T48 l0 a2).f2), .int .i64 ((rd_T48 l0 a2).f3), .int .i64 ((rd_T48 l0 a2).f4), .string ((rd_T48 l0 a2).f5), .string ((rd_T48 l0 a2).f6)] 48 (0, 0))) ∧ Aside0 (Below w.heap.size w w'))
       case atStart => exact ⟨(false), (0), rs0, rs0, H', ⟨Nat.le_refl _⟩, ⟨by refine bk0 ?_; exact BK450.out⟩, ⟨by refine bk0 ?_; exact BK452.out⟩, ⟨bb2 GE450.out GE452.out⟩⟩
       case round =>
        clear H'
        try clear c1
        try clear p2
        try clear c4
        try clear c4b0
        try clear p4
        try clear q4
        try clear hx4
        try clear c5
        try clear c5b0
        try clear c9
        try clear c11
        try clear c11b0
        try clear c11b1
        try clear c13
        try clear c16
        try clear c19
        try clear hcz10_0
        try clear hcz10_1
        try clear hcz10_2
        try clear hcz10_3
        try clear hcz10_4
        try clear hcz10_5
        try clear hcz10_6
        try clear hcz14_0
        try clear hcz14_1
        try clear hcz14_2
        try clear hcz14_3
        try clear hcz14_4
        try clear hcz14_5
        try clear hcz14_6
        try clear hcz17_0
        try clear hcz17_1
        try clear hcz17_2
        try clear hcz17_3
        try clear hcz17_4
        try clear hcz17_5
        try clear hcz17_6
        try clear hfz10_0
        try clear hfz10_1
        try clear hfz10_2
        try clear hfz10_3
        try clear hfz10_4
        try clear hfz10_5
        try clear hfz10_6
        try clear hfz14_0
        try clear hfz14_1
        try clear hfz14_2
        try clear hfz14_3
        try clear hfz14_4
        try clear hfz14_5
        try clear hfz14_6
        try clear hfz17_0
        try clear hfz17_1
        try clear hfz17_2
        try clear hfz17_3
        try clear hfz17_4
        try clear hfz17_5
        try clear hfz17_6
        try clear hx451_0
        try clear hx451_1
        try clear hx451_2
        try clear hx451_3
        try clear hx451_4
        try clear hx451_5
        try clear hx451_6
        try clear p2
        try clear p4
        try clear p451
        try clear q4
        try clear q451
        obtain ⟨x8_2, x30_2, rfl, rfl, HA, HK2, BK450, BK452, HB⟩ := hrel
        cases gk with
        | zero => exact absurd HA.out (by simp [impl_dropTree.l0])
        | succ k2 =>
         have H := HA.out
         clear HA
         simp only [impl_dropTree.l0] at H
         by_cases c20 : x30_2 < (l1.length : Int)
         ·rw [if_pos c20] at H
          have c20b0 := decide_eq_true c20
          clear c20
          (first | rw [c20b0] | (simp only [i64_w, i32_w]; rw [c20b0]) | skip)
          by_cases c21 : 0 ≤ x30_2
          ·rw [if_pos c21] at H
           have c21b0 := decide_eq_true c21
           clear c21
           by_cases c22 : x30_2 < (l1.length : Int)
           ·rw [if_pos c22] at H
            have c22b0 := decide_eq_true c22
            clear c22
            by_cases c23 : x8_2 = true
            ·subst c23
             rw [if_pos rfl] at H
             have H' := Aside0.mk H
             clear H
             have p454 : 0 ≤ (x30_2 : Int) := of_decide_eq_true as0
             have q454 : x30_2 < (l1.length : Int) := of_decide_eq_true as0
             obtain ⟨ad454, e454, hx454_0, hx454_1⟩ := at_T32 HR1.out x30_2 p454 q454
             cases e454
             replace hx454_0 := hbc HB hx454_0
             replace hx454_1 := hbc HB hx454_1
             replace p454 := eq_true p454
             replace q454 := eq_true q454
             go_wp2_with (first | ((with_reducible refine gate_dst (N := 10) rfl ?_); refine box_event ?hg (N := 10) ?hd (cs := #[.int .i64 0, .int .i64 0]) (t := 32) ?hr ?_; (case hd => rfl); (case hg => rfl); (case hr => first | (go_simp; done) | (go_simp; rfl)); intro gb455 hg w24 hbox hb; have BK455 := Aside0.mk (hbox); have GW455 := Aside0.mk ((by rw [hg]; exact (below_size (bb2 GE450.out GE452.out)) : w.heap.size ≤ gb455)); have GE455 := Aside0.mk ((by rw [hg]; exact (below_size (bb2 GE450.out GE452.out)) : w.heap.size ≤ gb455)); replace HB := Aside0.mk (below_step (bb2 GE450.out GE452.out) hb); have NB450_455 := Aside0.mk ((by rw [hg]; exact Nat.ne_of_lt (blk_lt (g := gb450) (bk0 BK450.out)) : gb450 ≠ gb455)); have NB455_450 := Aside0.mk ((by rw [hg]; exact Nat.ne_of_gt (blk_lt (g := gb450) (bk0 BK450.out)) : gb455 ≠ gb450)); replace BK450 := Aside0.mk (blk_below (g := gb450) (bk0 BK450.out) hb); have NB452_455 := Aside0.mk ((by rw [hg]; exact Nat.ne_of_lt (blk_lt (g := gb452) (bk0 BK452.out)) : gb452 ≠ gb455)); have NB455_452 := Aside0.mk ((by rw [hg]; exact Nat.ne_of_gt (blk_lt (g := gb452) (bk0 BK452.out)) : gb455 ≠ gb452)); replace BK452 := Aside0.mk (blk_below (g := gb452) (bk0 BK452.out) hb); clear hb hbox hg; have hnb25 := NB455_450.out; have hnc25 := NB450_455.out; have hnb26 := NB455_452.out; have hnc26 := NB452_455.out; obtain ⟨hcz27_0, hcz27_1⟩ := cells2 BK455.out; obtain ⟨hfz27_0, hfz27_1⟩ := frz2 BK455.out))
             go_roundg k2
             case measure => have := HJ5.out; have := HK2.out; omega
             case rel => exact ⟨(true), (wrap64 (x30_2 + 1)), rs0, rs0, H', ⟨by have := HJ5.out; have := HK2.out; omega⟩, ⟨bf1 NB450_455.out BK450.out⟩, ⟨bf1 NB452_455.out BK452.out⟩, ⟨bb3 GE450.out GE452.out GE455.out⟩⟩
            ·replace c23 := Bool.eq_false_iff.mpr c23
             subst c23
             rw [if_neg (show ¬ (false = true) by decide)] at H
             have H' := Aside0.mk H
             clear H
             have p454 : 0 ≤ (x30_2 : Int) := of_decide_eq_true as0
             have q454 : x30_2 < (l1.length : Int) := of_decide_eq_true as0
             obtain ⟨ad454, e454, hx454_0, hx454_1⟩ := at_T32 HR1.out x30_2 p454 q454
             cases e454
             replace hx454_0 := hbc HB hx454_0
             replace hx454_1 := hbc HB hx454_1
             replace p454 := eq_true p454
             replace q454 := eq_true q454
             go_wp2_with (first | ((with_reducible refine gate_dst (N := 10) rfl ?_); refine box_event ?hg (N := 10) ?hd (cs := #[.int .i64 0, .int .i64 0]) (t := 32) ?hr ?_; (case hd => rfl); (case hg => rfl); (case hr => first | (go_simp; done) | (go_simp; rfl)); intro gb455 hg w28 hbox hb; have BK455 := Aside0.mk (hbox); have GW455 := Aside0.mk ((by rw [hg]; exact (below_size (bb2 GE450.out GE452.out)) : w.heap.size ≤ gb455)); have GE455 := Aside0.mk ((by rw [hg]; exact (below_size (bb2 GE450.out GE452.out)) : w.heap.size ≤ gb455)); replace HB := Aside0.mk (below_step (bb2 GE450.out GE452.out) hb); have NB450_455 := Aside0.mk ((by rw [hg]; exact Nat.ne_of_lt (blk_lt (g := gb450) (bk0 BK450.out)) : gb450 ≠ gb455)); have NB455_450 := Aside0.mk ((by rw [hg]; exact Nat.ne_of_gt (blk_lt (g := gb450) (bk0 BK450.out)) : gb455 ≠ gb450)); replace BK450 := Aside0.mk (blk_below (g := gb450) (bk0 BK450.out) hb); have NB452_455 := Aside0.mk ((by rw [hg]; exact Nat.ne_of_lt (blk_lt (g := gb452) (bk0 BK452.out)) : gb452 ≠ gb455)); have NB455_452 := Aside0.mk ((by rw [hg]; exact Nat.ne_of_gt (blk_lt (g := gb452) (bk0 BK452.out)) : gb455 ≠ gb452)); replace BK452 := Aside0.mk (blk_below (g := gb452) (bk0 BK452.out) hb); clear hb hbox hg; have hnb29 := NB455_450.out; have hnc29 := NB450_455.out; have hnb30 := NB455_452.out; have hnc30 := NB452_455.out; obtain ⟨hcz31_0, hcz31_1⟩ := cells2 BK455.out; obtain ⟨hfz31_0, hfz31_1⟩ := frz2 BK455.out))
             go_roundg k2
             case measure => have := HJ5.out; have := HK2.out; omega
             case rel => exact ⟨((((rd_T32 l1 x30_2).f0) == a2 && (((rd_T32 l1 x30_2).f1) == 0))), (wrap64 (x30_2 + 1)), rs0, rs0, H', ⟨by have := HJ5.out; have := HK2.out; omega⟩, ⟨bf1 NB450_455.out BK450.out⟩, ⟨bf1 NB452_455.out BK452.out⟩, ⟨bb3 GE450.out GE452.out GE455.out⟩⟩
           ·rw [if_neg c22] at H
            exact absurd H (by simp)
          ·rw [if_neg c21] at H
           exact absurd H (by simp)
         ·rw [if_neg c20] at H
          have c20b0 := decide_eq_false c20
          clear c20
          (first | rw [c20b0] | (simp only [i64_w, i32_w]; rw [c20b0]) | skip)
          by_cases c32 : x8_2 = true
          ·subst c32
           rw [if_pos rfl] at H
           have H' := Aside0.mk H
           clear H
           go_wp2
           go_meet
           case rel => exact ⟨_, (0), (0), (0), (0), (0), ((⟨#[]⟩ : ByteArray)), ((⟨#[]⟩ : ByteArray)), H', ⟨by have := HJ5.out; have := HK2.out; first | omega | exact Nat.le_refl _⟩, ⟨by refine bk0 ?_; exact BK450.out⟩, ⟨by refine bk0 ?_; exact BK452.out⟩, ⟨bb2 GE450.out GE452.out⟩⟩
          ·replace c32 := Bool.eq_false_iff.mpr c32
           subst c32
           rw [if_neg (show ¬ (false = true) by decide)] at H
           obtain ⟨⟨t456, t457, t458, t459, t460, t461, t462, t463⟩, A33, H⟩ := bx H; dsimp only at H
           simp only [Option.some.injEq, Prod.mk.injEq] at H
           obtain ⟨rfl, rfl, rfl, rfl, rfl, rfl, rfl, rfl⟩ := H
           have hnb34 := NB452_450.out
           have hnc34 := NB450_452.out
           obtain ⟨hcz35_0, hcz35_1, hcz35_2, hcz35_3, hcz35_4, hcz35_5, hcz35_6⟩ := cells7 BK452.out
           obtain ⟨hfz35_0, hfz35_1, hfz35_2, hfz35_3, hfz35_4, hfz35_5, hfz35_6⟩ := frz7 BK452.out
           go_wp2_with (first | ((with_reducible refine gate_callee (f := 40) rfl ?_); refine goesL_ (some 48) rfl rfl Tryd.func40 (by kernel_rfl) rfl #[.slice (some ad451) l0.length c0, .slice A1 l1.length c1, .int .i64 ((rd_T48 l0 a2).f2)] rfl mm0 ?_; (with_reducible refine (ih k2 (by have := HJ5.out; have := HK2.out; omega) _ _ l0 _ _ l1 ((rd_T48 l0 a2).f2) t456 t457 t458 t459 t460 t461 t462 t463 _ ?side1 ?side2 ?side3 ?side4 A33.out).mono ?_); (case side1 => exact cc0 (Kd.C_below HR0.out HB.out)); (case side2 => exact HC0.out); (case side3 => exact cc0 (Kd.C_below HR1.out HB.out)); (case side4 => exact HC1.out); rintro e w36 ⟨v464, rfl, ho0, hb⟩; refine ⟨_, rfl, ?_⟩; have HO465 := Aside0.mk (Kd.R_lower (Kd.R_newB ho0 (g := gb450) (bk0 BK450.out)) (below_size (bb2 GE450.out GE452.out))); replace BK450 := Aside0.mk (blk_below (g := gb450) (bk0 BK450.out) hb); replace BK452 := Aside0.mk (blk_below (g := gb452) (bk0 BK452.out) hb); replace HB := Aside0.mk (below_step (bb2 GE450.out GE452.out) hb); clear hb ho0; obtain ⟨hcz37_0, hcz37_1, hcz37_2, hcz37_3, hcz37_4, hcz37_5, hcz37_6, hcz37_7⟩ := cells8 BK450.out; obtain ⟨hfz37_0, hfz37_1, hfz37_2, hfz37_3, hfz37_4, hfz37_5, hfz37_6, hfz37_7⟩ := frz8 BK450.out; obtain ⟨Ao38, co38, eo38⟩ := Kd.R_slice HO465.out; subst eo38))
           refine bodyPost_ret (results_cell_row rfl _ _ gb450 56 #[.int .i64 t456, .int .i64 t457, .int .i64 t458, .int .i64 t459, .int .i64 t460, .string t461, .string t462, .slice Ao38 t463.length co38] (0, 0) _ rfl (bk1 BK450.out) Tryd.underlying56 rfl (by kernel_rfl)) rfl ?_
           exact ⟨_, er0, by (try simp only [setCell_drewN]); refine ra0 ?_; exact Kd.R_mono (Kd.R_far (p := ⟨gb450, 7, none⟩) (Kd.R_far (p := ⟨gb450, 6, none⟩) (Kd.R_far (p := ⟨gb450, 5, none⟩) (Kd.R_far (p := ⟨gb450, 4, none⟩) (Kd.R_far (p := ⟨gb450, 3, none⟩) (Kd.R_far (p := ⟨gb450, 2, none⟩) (Kd.R_far (p := ⟨gb450, 1, none⟩) (Kd.R_far (p := ⟨gb450, 0, none⟩) (Kd.R_mono HO465.out (fun k_ hk => (⟨hk, hk.2⟩ : _ ∧ k_ ≠ gb450))) (fun _ hk => hk.2) (.int .i64 t456)) (fun _ hk => hk.2) (.int .i64 t457)) (fun _ hk => hk.2) (.int .i64 t458)) (fun _ hk => hk.2) (.int .i64 t459)) (fun _ hk => hk.2) (.int .i64 t460)) (fun _ hk => hk.2) (.string t461)) (fun _ hk => hk.2) (.string t462)) (fun _ hk => hk.2) (.slice Ao38 t463.length co38)) (fun _ hk => trivial), bb2 GE450.out GE452.out⟩
      ·replace c19 := Bool.eq_false_iff.mpr c19
       subst c19
       rw [if_neg (show ¬ (false = true) by decide)] at H
       have H' := Aside0.mk H
       clear H
       go_wp2
       go_meet
       case rel => exact ⟨_, (0), (0), (0), (0), (0), ((⟨#[]⟩ : ByteArray)), ((⟨#[]⟩ : ByteArray)), H', ⟨by have := HJ5.out; first | omega | exact Nat.le_refl _⟩, ⟨by refine bk0 ?_; exact BK450.out⟩, ⟨by refine bk0 ?_; exact BK452.out⟩, ⟨bb2 GE450.out GE452.out⟩⟩
     case rest =>
      clear HC18
      try clear c1
      try clear c2
      try clear p2
      try clear c3
      try clear c4
      try clear c4b0
      try clear p4
      try clear q4
      try clear hx4
      try clear c5
      try clear c5b0
      try clear p6
      try clear c9
      try clear c11
      try clear c11b0
      try clear c11b1
      try clear c13
      try clear c16
      try clear c19
      try clear c20
      try clear c20b0
      try clear c21
      try clear c21b0
      try clear c22
      try clear c22b0
      try clear c23
      try clear c25
      try clear c26
      try clear c29
      try clear c30
      try clear c32
      try clear c34
      try clear hcz10_0
      try clear hcz10_1
      try clear hcz10_2
      try clear hcz10_3
      try clear hcz10_4
      try clear hcz10_5
      try clear hcz10_6
      try clear hcz14_0
      try clear hcz14_1
      try clear hcz14_2
      try clear hcz14_3
      try clear hcz14_4
      try clear hcz14_5
      try clear hcz14_6
      try clear hcz17_0
      try clear hcz17_1
      try clear hcz17_2
      try clear hcz17_3
      try clear hcz17_4
      try clear hcz17_5
      try clear hcz17_6
      try clear hcz27_0
      try clear hcz27_1
      try clear hcz31_0
      try clear hcz31_1
      try clear hcz35_0
      try clear hcz35_1
      try clear hcz35_2
      try clear hcz35_3
      try clear hcz35_4
      try clear hcz35_5
      try clear hcz35_6
      try clear hcz37_0
      try clear hcz37_1
      try clear hcz37_2
      try clear hcz37_3
      try clear hcz37_4
      try clear hcz37_5
      try clear hcz37_6
      try clear hcz37_7
      try clear hfz10_0
      try clear hfz10_1
      try clear hfz10_2
      try clear hfz10_3
      try clear hfz10_4
      try clear hfz10_5
      try clear hfz10_6
      try clear hfz14_0
      try clear hfz14_1
      try clear hfz14_2
      try clear hfz14_3
      try clear hfz14_4
      try clear hfz14_5
      try clear hfz14_6
      try clear hfz17_0
      try clear hfz17_1
      try clear hfz17_2
      try clear hfz17_3
      try clear hfz17_4
      try clear hfz17_5
      try clear hfz17_6
      try clear hfz27_0
      try clear hfz27_1
      try clear hfz31_0
      try clear hfz31_1
      try clear hfz35_0
      try clear hfz35_1
      try clear hfz35_2
      try clear hfz35_3
      try clear hfz35_4
      try clear hfz35_5
      try clear hfz35_6
      try clear hfz37_0
      try clear hfz37_1
      try clear hfz37_2
      try clear hfz37_3
      try clear hfz37_4
      try clear hfz37_5
      try clear hfz37_6
      try clear hfz37_7
      try clear hx451_0
      try clear hx451_1
      try clear hx451_2
      try clear hx451_3
      try clear hx451_4
      try clear hx451_5
      try clear hx451_6
      try clear hx454_0
      try clear hx454_1
      try clear p2
      try clear p4
      try clear p451
      try clear p454
      try clear q4
      try clear q451
      try clear q454
      obtain ⟨kq, x451000_17, x451001_17, x451002_17, x451003_17, x451004_17, x451005_17, x451006_17, HA, HJ17, BK450, BK452, HB⟩ := hcut
      cases kq with
      | zero => exact absurd HA.out (by simp [impl_dropTree.j2])
      | succ kj17 =>
       have H := HA.out
       clear HA
       simp only [impl_dropTree.j2] at H
       obtain ⟨t467, A39, H⟩ := bx H
       have H' := Aside0.mk H
       clear H
       have hnb40 := NB452_450.out
       have hnc40 := NB450_452.out
       obtain ⟨hcz41_0, hcz41_1, hcz41_2, hcz41_3, hcz41_4, hcz41_5, hcz41_6⟩ := cells7 BK452.out
       obtain ⟨hfz41_0, hfz41_1, hfz41_2, hfz41_3, hfz41_4, hfz41_5, hfz41_6⟩ := frz7 BK452.out
       go_wp2_with (first | ((with_reducible refine gate_dst (N := 11) rfl ?_); refine box_event ?hg (N := 11) ?hd (cs := #[.int .i64 0, .int .i64 0, .int .i64 0, .int .i64 0, .int .i64 0, .string (⟨#[]⟩ : ByteArray), .string (⟨#[]⟩ : ByteArray), .slice none 0 0]) (t := 56) ?hr ?_; (case hd => rfl); (case hg => rfl); (case hr => first | (go_simp; done) | (go_simp; rfl)); intro gb466 hg w42 hbox hb; have BK466 := Aside0.mk (hbox); have GW466 := Aside0.mk ((by rw [hg]; exact (below_size (bb2 GE450.out GE452.out)) : w.heap.size ≤ gb466)); have GE466 := Aside0.mk ((by rw [hg]; exact (below_size (bb2 GE450.out GE452.out)) : w.heap.size ≤ gb466)); replace HB := Aside0.mk (below_step (bb2 GE450.out GE452.out) hb); have NB450_466 := Aside0.mk ((by rw [hg]; exact Nat.ne_of_lt (blk_lt (g := gb450) (bk0 BK450.out)) : gb450 ≠ gb466)); have NB466_450 := Aside0.mk ((by rw [hg]; exact Nat.ne_of_gt (blk_lt (g := gb450) (bk0 BK450.out)) : gb466 ≠ gb450)); replace BK450 := Aside0.mk (blk_below (g := gb450) (bk0 BK450.out) hb); have NB452_466 := Aside0.mk ((by rw [hg]; exact Nat.ne_of_lt (blk_lt (g := gb452) (bk0 BK452.out)) : gb452 ≠ gb466)); have NB466_452 := Aside0.mk ((by rw [hg]; exact Nat.ne_of_gt (blk_lt (g := gb452) (bk0 BK452.out)) : gb466 ≠ gb452)); replace BK452 := Aside0.mk (blk_below (g := gb452) (bk0 BK452.out) hb); clear hb hbox hg; have hnb43 := NB466_450.out; have hnc43 := NB450_466.out; have hnb44 := NB466_452.out; have hnc44 := NB452_466.out; obtain ⟨hcz45_0, hcz45_1, hcz45_2, hcz45_3, hcz45_4, hcz45_5, hcz45_6, hcz45_7⟩ := cells8 BK466.out; obtain ⟨hfz45_0, hfz45_1, hfz45_2, hfz45_3, hfz45_4, hfz45_5, hfz45_6, hfz45_7⟩ := frz8 BK466.out; obtain ⟨hcz46_0, hcz46_1, hcz46_2, hcz46_3, hcz46_4, hcz46_5, hcz46_6⟩ := cells7 BK452.out; obtain ⟨hfz46_0, hfz46_1, hfz46_2, hfz46_3, hfz46_4, hfz46_5, hfz46_6⟩ := frz7 BK452.out) | ((with_reducible refine gate_callee (f := 45) rfl ?_); refine goesL_ (some 52) rfl rfl Tryd.func45 (by kernel_rfl) rfl #[.agg #[.int .i64 ((rd_T48 l0 a2).f0), .int .i64 ((rd_T48 l0 a2).f1), .int .i64 ((rd_T48 l0 a2).f2), .int .i64 ((rd_T48 l0 a2).f3), .int .i64 ((rd_T48 l0 a2).f4), .string ((rd_T48 l0 a2).f5), .string ((rd_T48 l0 a2).f6)]] rfl mm0 ?_; (with_reducible refine (impl_Kids.calls kj17 ((rd_T48 l0 a2).f0) ((rd_T48 l0 a2).f1) ((rd_T48 l0 a2).f2) ((rd_T48 l0 a2).f3) ((rd_T48 l0 a2).f4) ((rd_T48 l0 a2).f5) ((rd_T48 l0 a2).f6) t467 _ A39.out).mono ?_); rintro e w47 ⟨v468, rfl, ho0, hb⟩; refine ⟨_, rfl, ?_⟩; have HO469 := Aside0.mk (Kd.V_lower (Kd.V_mono (ok' := fun k_ => k_ ≠ gb450 ∧ k_ ≠ gb452 ∧ k_ ≠ gb466) ho0 (fun k_ hk_ => ⟨(Kd.freshB (g := gb450) (bf1 NB450_466.out BK450.out) k_ hk_), (Kd.freshB (g := gb452) (bf1 NB452_466.out BK452.out) k_ hk_), (Kd.freshB (g := gb466) (bk1 BK466.out) k_ hk_)⟩)) (below_size (bb3 GE450.out GE452.out GE466.out))); replace BK450 := Aside0.mk (blk_below (g := gb450) (bf1 NB450_466.out BK450.out) hb); replace BK452 := Aside0.mk (blk_below (g := gb452) (bf1 NB452_466.out BK452.out) hb); replace BK466 := Aside0.mk (blk_below (g := gb466) (bk1 BK466.out) hb); replace HB := Aside0.mk (below_step (bb3 GE450.out GE452.out GE466.out) hb); clear hb ho0; obtain ⟨Ao48, co48, eo48⟩ := Kd.V_slice HO469.out; subst eo48))
       go_simp
       go_loopg [54] kj17 (fun kq v54 w' => ∃ (x54_3 : Int) (x467007_3 : List (S56)) (u467007 : Value), v54 = .int .i64 x54_3 ∧ Aside0 (impl_dropTree.l1 kq l0 l1 t467 (t467.length : Int) x54_3 ((rd_T48 l0 a2).f0) ((rd_T48 l0 a2).f1) ((rd_T48 l0 a2).f2) ((rd_T48 l0 a2).f3) ((rd_T48 l0 a2).f4) ((rd_T48 l0 a2).f5) ((rd_T48 l0 a2).f6) x467007_3 = some (r1, r2, r3, r4, r5, r6, r7, r8)) ∧ Aside0 (kq ≤ kj17) ∧ Aside0 (Kd.V (Kd.int .i64) 3 w' w.heap.size (fun k_ => some k_ ≠ (u467007 : Value).ownBlock ∧ k_ ≠ gb450 ∧ k_ ≠ gb452 ∧ k_ ≠ gb466) (.slice Ao48 t467.length co48) t467) ∧ Aside0 (Kd.R k56 56 w' w.heap.size (fun k_ => k_ ≠ gb450 ∧ k_ ≠ gb466) u467007 x467007_3) ∧ Aside0 (w'.heap[gb450]? = some (.cells #[.int .i64 x451000_17, .int .i64 x451001_17, .int .i64 x451002_17, .int .i64 x451003_17, .int .i64 x451004_17, .string x451005_17, .string x451006_17, (.slice none 0 0)] 56 (0, 0))) ∧ Aside0 (w'.heap[gb452]? = some (.cells #[.int .i64 ((rd_T48 l0 a2).f0), .int .i64 ((rd_T48 l0 a2).f1), .int .i64 ((rd_T48 l0 a2).f2), .int .i64 ((rd_T48 l0 a2).f3), .int .i64 ((rd_T48 l0 a2).f4), .string ((rd_T48 l0 a2).f5), .string ((rd_T48 l0 a2).f6)] 48 (0, 0))) ∧ Aside0 (w'.heap[gb466]? = some (.cells #[.int .i64 ((rd_T48 l0 a2).f0), .int .i64 ((rd_T48 l0 a2).f1), .int .i64 ((rd_T48 l0 a2).f2), .int .i64 ((rd_T48 l0 a2).f3), .int .i64 ((rd_T48 l0 a2).f4), .string ((rd_T48 l0 a2).f5), .string ((rd_T48 l0 a2).f6), u467007] 56 (0, 0))) ∧ Aside0 (Below w.heap.size w w'))
       case atStart => exact ⟨(0), (([] : List (S56))), (.slice none 0 0), rs0, H', ⟨Nat.le_refl _⟩, ⟨by (with_reducible repeat (first | apply Kd.V_alloc | apply Kd.V_drewN | apply Kd.V_drew)); exact Kd.V_mono HO469.out (fun _ hk => ⟨(by simp [Value.ownBlock]), ⟨hk.1, ⟨hk.2.1, hk.2.2⟩⟩⟩)⟩, ⟨nil0⟩, ⟨by refine bk0 ?_; exact BK450.out⟩, ⟨by refine bk0 ?_; exact BK452.out⟩, ⟨by refine bk0 ?_; exact BK466.out⟩, ⟨bb3 GE450.out GE452.out GE466.out⟩⟩
       case round =>
        clear H'
        try clear c1
        try clear c2
        try clear p2
        try clear c3
        try clear c4
        try clear c4b0
        try clear p4
        try clear q4
        try clear hx4
        try clear c5
        try clear c5b0
        try clear p6
        try clear c9
        try clear c11
        try clear c11b0
        try clear c11b1
        try clear c13
        try clear c16
        try clear c19
        try clear c20
        try clear c20b0
        try clear c21
        try clear c21b0
        try clear c22
        try clear c22b0
        try clear c23
        try clear c25
        try clear c26
        try clear c29
        try clear c30
        try clear c32
        try clear c34
        try clear c40
        try clear c43
        try clear c44
        try clear c45
        try clear p45
        try clear q45
        try clear hx45
        try clear hcz10_0
        try clear hcz10_1
        try clear hcz10_2
        try clear hcz10_3
        try clear hcz10_4
        try clear hcz10_5
        try clear hcz10_6
        try clear hcz14_0
        try clear hcz14_1
        try clear hcz14_2
        try clear hcz14_3
        try clear hcz14_4
        try clear hcz14_5
        try clear hcz14_6
        try clear hcz17_0
        try clear hcz17_1
        try clear hcz17_2
        try clear hcz17_3
        try clear hcz17_4
        try clear hcz17_5
        try clear hcz17_6
        try clear hcz27_0
        try clear hcz27_1
        try clear hcz31_0
        try clear hcz31_1
        try clear hcz35_0
        try clear hcz35_1
        try clear hcz35_2
        try clear hcz35_3
        try clear hcz35_4
        try clear hcz35_5
        try clear hcz35_6
        try clear hcz37_0
        try clear hcz37_1
        try clear hcz37_2
        try clear hcz37_3
        try clear hcz37_4
        try clear hcz37_5
        try clear hcz37_6
        try clear hcz37_7
        try clear hcz41_0
        try clear hcz41_1
        try clear hcz41_2
        try clear hcz41_3
        try clear hcz41_4
        try clear hcz41_5
        try clear hcz41_6
        try clear hcz45_0
        try clear hcz45_1
        try clear hcz45_2
        try clear hcz45_3
        try clear hcz45_4
        try clear hcz45_5
        try clear hcz45_6
        try clear hcz45_7
        try clear hcz46_0
        try clear hcz46_1
        try clear hcz46_2
        try clear hcz46_3
        try clear hcz46_4
        try clear hcz46_5
        try clear hcz46_6
        try clear hfz10_0
        try clear hfz10_1
        try clear hfz10_2
        try clear hfz10_3
        try clear hfz10_4
        try clear hfz10_5
        try clear hfz10_6
        try clear hfz14_0
        try clear hfz14_1
        try clear hfz14_2
        try clear hfz14_3
        try clear hfz14_4
        try clear hfz14_5
        try clear hfz14_6
        try clear hfz17_0
        try clear hfz17_1
        try clear hfz17_2
        try clear hfz17_3
        try clear hfz17_4
        try clear hfz17_5
        try clear hfz17_6
        try clear hfz27_0
        try clear hfz27_1
        try clear hfz31_0
        try clear hfz31_1
        try clear hfz35_0
        try clear hfz35_1
        try clear hfz35_2
        try clear hfz35_3
        try clear hfz35_4
        try clear hfz35_5
        try clear hfz35_6
        try clear hfz37_0
        try clear hfz37_1
        try clear hfz37_2
        try clear hfz37_3
        try clear hfz37_4
        try clear hfz37_5
        try clear hfz37_6
        try clear hfz37_7
        try clear hfz41_0
        try clear hfz41_1
        try clear hfz41_2
        try clear hfz41_3
        try clear hfz41_4
        try clear hfz41_5
        try clear hfz41_6
        try clear hfz45_0
        try clear hfz45_1
        try clear hfz45_2
        try clear hfz45_3
        try clear hfz45_4
        try clear hfz45_5
        try clear hfz45_6
        try clear hfz45_7
        try clear hfz46_0
        try clear hfz46_1
        try clear hfz46_2
        try clear hfz46_3
        try clear hfz46_4
        try clear hfz46_5
        try clear hfz46_6
        try clear hx451_0
        try clear hx451_1
        try clear hx451_2
        try clear hx451_3
        try clear hx451_4
        try clear hx451_5
        try clear hx451_6
        try clear hx454_0
        try clear hx454_1
        try clear p2
        try clear p4
        try clear p451
        try clear p454
        try clear p6
        try clear q4
        try clear q451
        try clear q454
        obtain ⟨x54_3, x467007_3, u467007, rfl, HA, HK3, HO_52, HO_467007, BK450, BK452, BK466, HB⟩ := hrel
        cases gk with
        | zero => exact absurd HA.out (by simp [impl_dropTree.l1])
        | succ k3 =>
         have H := HA.out
         clear HA
         simp only [impl_dropTree.l1] at H
         by_cases c49 : x54_3 < (t467.length : Int)
         ·rw [if_pos c49] at H
          have c49b0 := decide_eq_true c49
          clear c49
          by_cases c50 : 0 ≤ x54_3
          ·rw [if_pos c50] at H
           have c50b0 := decide_eq_true c50
           clear c50
           by_cases c51 : x54_3 < (t467.length : Int)
           ·rw [if_pos c51] at H
            have c51b0 := decide_eq_true c51
            clear c51
            obtain ⟨⟨t471, t472, t473, t474, t475, t476, t477, t478⟩, A52, H⟩ := bx H; dsimp only at H
            by_cases c53 : x467007_3.length < 1466015503701
            ·rw [if_pos c53] at H
             have LMc53 := Aside0.mk c53
             clear c53
             obtain ⟨y481, hy481⟩ : ∃ y_ : List (S56), y_ = (x467007_3 ++ [(⟨(⟨t471, t472, t473, t474, t475, t476, t477⟩ : S48), t478⟩ : S56)]) := ⟨_, rfl⟩
             replace H : (impl_dropTree.l1 k3 l0 l1 t467 (t467.length : Int) (wrap64 (x54_3 + 1)) ((rd_T48 l0 a2).f0) ((rd_T48 l0 a2).f1) ((rd_T48 l0 a2).f2) ((rd_T48 l0 a2).f3) ((rd_T48 l0 a2).f4) ((rd_T48 l0 a2).f5) ((rd_T48 l0 a2).f6) y481) = some (r1, r2, r3, r4, r5, r6, r7, r8) := by first | (rw [hy481]; with_reducible exact H) | (have H2_ := (Option.bind_some _ _).symm.trans H; rw [hy481]; with_reducible exact H2_) | (have H2_ := (Option.bind_some _ _).symm.trans H; with_reducible exact H2_) | with_reducible exact H | (rw [hy481]; exact H) | exact H
             have Ny481 := Aside0.mk hy481
             clear hy481
             have H' := Aside0.mk H
             clear H
             have p470 : 0 ≤ (x54_3 : Int) := of_decide_eq_true as0
             have q470 : x54_3 < (t467.length : Int) := of_decide_eq_true as0
             obtain ⟨ad470, e470, hx470_0⟩ := Kd.at_int (Kd.V_reads' HO_52.out).2.2 x54_3 p470 q470
             cases e470
             replace p470 := eq_true p470
             replace q470 := eq_true q470
             try go_wp2
             replace HO_52 := Aside0.mk (Kd.V_drew HO_52.out)
             replace HO_467007 := Aside0.mk (Kd.R_drew HO_467007.out)
             replace BK450 := Aside0.mk (blk_drew BK450.out)
             replace BK452 := Aside0.mk (blk_drew BK452.out)
             replace BK466 := Aside0.mk (blk_drew BK466.out)
             replace HB := Aside0.mk (below_drew1 HB.out)
             refine start_ (n := 10) (S := fun w' => w'.cell? ⟨gb466, 0, none⟩ = some (.int .i64 ((rd_T48 l0 a2).f0)) ∧ w'.cell? ⟨gb466, 1, none⟩ = some (.int .i64 ((rd_T48 l0 a2).f1)) ∧ w'.cell? ⟨gb466, 2, none⟩ = some (.int .i64 ((rd_T48 l0 a2).f2)) ∧ w'.cell? ⟨gb466, 3, none⟩ = some (.int .i64 ((rd_T48 l0 a2).f3)) ∧ w'.cell? ⟨gb466, 4, none⟩ = some (.int .i64 ((rd_T48 l0 a2).f4)) ∧ w'.cell? ⟨gb466, 5, none⟩ = some (.string ((rd_T48 l0 a2).f5)) ∧ w'.cell? ⟨gb466, 6, none⟩ = some (.string ((rd_T48 l0 a2).f6)) ∧ w'.cell? ⟨gb466, 7, none⟩ = some (u467007)) (ds := [9]) #[false, false, false, false, false, false, false, false, false, false] (by kernel_rfl) rfl rfl ⟨(blk_cell BK466.out 0).trans rfl, (blk_cell BK466.out 1).trans rfl, (blk_cell BK466.out 2).trans rfl, (blk_cell BK466.out 3).trans rfl, (blk_cell BK466.out 4).trans rfl, (blk_cell BK466.out 5).trans rfl, (blk_cell BK466.out 6).trans rfl, (blk_cell BK466.out 7).trans rfl⟩ (fun hHeld => ?_); refine with_tabW impl_dropTree.tab15 impl_dropTree.bits15 (fun HT_ HW_ => ?_)
             generalize wr.drew = w54 at HO_52 HO_467007 BK450 BK452 BK466 HB hHeld ⊢
             refine pu_ 0 58 HT_ ?_
             refine pu_ 2 60 HT_ ?_
             refine pu_ 3 61 HT_ ?_
             refine pu_ 4 62 HT_ ?_
             refine tk_ 1 59 HT_ HW_ hHeld ?_
             refine on_ 5 63 HT_ fun K hK => ?_
             refine goes_ Tryd.func40 (by kernel_rfl) rfl #[.slice (some ad451) l0.length c0, .slice A1 l1.length c1, .int .i64 (rd t467 x54_3)] (by rfl) rfl rfl mm0 ?_
             with_reducible refine (ih k3 (by have := HJ5.out; have := HJ17.out; have := HK3.out; omega) _ _ l0 _ _ l1 (rd t467 x54_3) t471 t472 t473 t474 t475 t476 t477 t478 _ ?side1 ?side2 ?side3 ?side4 A52.out).mono ?_
             (case side1 => exact cc0 (Kd.C_below HR0.out HB.out))
             (case side2 => exact HC0.out)
             (case side3 => exact cc0 (Kd.C_below HR1.out HB.out))
             (case side4 => exact HC1.out)
             rintro e w55 ⟨v479, rfl, ho0, hb⟩
             refine ⟨_, rfl, ?_⟩
             replace HO_52 := Aside0.mk (Kd.V_elder' (by (with_reducible repeat (first | apply Kd.V_alloc | apply Kd.V_drewN | apply Kd.V_drew)); exact HO_52.out) (Kd.R_base ho0) hb)
             have HO480 := Aside0.mk (Kd.R_lower (Kd.R_newB (Kd.R_newB (Kd.R_new' ho0 (Kd.R_lt (ra0 HO_467007.out))) (g := gb450) (bk0 BK450.out)) (g := gb466) (bk0 BK466.out)) (below_size (bb3 GE450.out GE452.out GE466.out)))
             replace HO_467007 := Aside0.mk (Kd.R_elder' (ra0 HO_467007.out) (Kd.R_base ho0) hb)
             replace BK450 := Aside0.mk (blk_below (g := gb450) (bk0 BK450.out) hb)
             replace BK452 := Aside0.mk (blk_below (g := gb452) (bk0 BK452.out) hb)
             replace BK466 := Aside0.mk (blk_below (g := gb466) (bk0 BK466.out) hb)
             replace HB := Aside0.mk (below_step (bb3 GE450.out GE452.out GE466.out) hb)
             clear hb ho0
             obtain ⟨Ao57, co57, eo57⟩ := Kd.R_slice HO480.out
             (first | subst eo57 | (injection eo57 with f1_ f2_ f3_; have f4_ := f1_.symm; have f5_ := f3_.symm; clear f1_ f2_ f3_; subst f4_; subst f5_))
             refine hK.out _ _ ⟨(blk_cell BK466.out 0).trans rfl, (blk_cell BK466.out 1).trans rfl, (blk_cell BK466.out 2).trans rfl, (blk_cell BK466.out 3).trans rfl, (blk_cell BK466.out 4).trans rfl, (blk_cell BK466.out 5).trans rfl, (blk_cell BK466.out 6).trans rfl, (blk_cell BK466.out 7).trans rfl⟩ (fun hHeld => ?_)
             clear hK K
             refine nm_ ?_
             refine on_ 6 64 HT_ fun K hK => ?_
             refine value_ (w1 := ?_) (v := ?_) (by rfl) rfl ?_ ?_
             rotate_left 2
             ·go_simp
              constructor
              ·rfl
              ·rfl
             refine hK.out _ _ ⟨(blk_cell (blk_alloc BK466.out _) 0).trans rfl, (blk_cell (blk_alloc BK466.out _) 1).trans rfl, (blk_cell (blk_alloc BK466.out _) 2).trans rfl, (blk_cell (blk_alloc BK466.out _) 3).trans rfl, (blk_cell (blk_alloc BK466.out _) 4).trans rfl, (blk_cell (blk_alloc BK466.out _) 5).trans rfl, (blk_cell (blk_alloc BK466.out _) 6).trans rfl, (blk_cell (blk_alloc BK466.out _) 7).trans rfl⟩ (fun hHeld => ?_)
             clear hK K
             refine nm_ ?_
             refine on_ 7 65 HT_ fun K hK => ?_
             refine Kd.R_append_step k56 (w0 := w) w.heap.size (by rfl) (.tmp 59) (.tmp 64) 54 56 (.agg #[(.int .i64 0), (.int .i64 0), (.int .i64 0), (.int .i64 0), (.int .i64 0), (.string ⟨#[]⟩), (.string ⟨#[]⟩), (.slice none 0 0)]) 96 rfl Tryd.underlying54 info56 rfl (by decide) (by omega) u467007 x467007_3 (⟨(⟨t471, t472, t473, t474, t475, t476, t477⟩ : S48), t478⟩ : S56) [.int .i64 t471, .int .i64 t472, .int .i64 t473, .int .i64 t474, .int .i64 t475, .string t476, .string t477, .slice Ao57 t478.length co57] (fun k_ => k_ ≠ gb450 ∧ k_ ≠ gb466) (fun k_ => ((fun k_ => k_ ≠ gb450 ∧ k_ ≠ gb466)) k_ ∧ some k_ ≠ (u467007 : Value).ownBlock) rfl rfl ?aP (fun _ hk => hk) ?aF ?aO ?aB ?aS ?aL ?_
             (case aP => exact k56_mkM _ _ _ (⟨(⟨t471, t472, t473, t474, t475, t476, t477⟩ : S48), t478⟩ : S56) (Kd.R_mono (HO480.out) (fun k_ hk => ⟨⟨hk.1.2, hk.2⟩, hk.1.1.2⟩)))
             (case aB => exact (bb3 GE450.out GE452.out GE466.out))
             (case aF => exact (fun k_ hk => ⟨Kd.freshB (g := gb450) (bk0 BK450.out) k_ hk, Kd.freshB (g := gb466) (bk0 BK466.out) k_ hk⟩))
             (case aO => exact (by refine ra0 ?_; exact Kd.R_mono HO_467007.out (fun _ hk => ⟨hk.1.1, hk.1.2⟩)))
             (case aS => exact (below_size (bb3 GE450.out GE452.out GE466.out)))
             (case aL => have := LMc53.out; omega)
             intro v482 w56 ho hb hg hat
             rw [← Ny481.out] at ho
             have n0_ := Aside0.mk (Kd.V_afterv (ok := (fun k_ => some k_ ≠ (.slice Ao57 t478.length co57 : Value).ownBlock ∧ k_ ≠ gb450 ∧ k_ ≠ gb452 ∧ k_ ≠ gb466)) (by (with_reducible repeat (first | apply Kd.V_alloc | apply Kd.V_drewN | apply Kd.V_drew)); exact Kd.V_mono HO_52.out (fun _ hk => ⟨⟨hk.2, ⟨hk.1.2.1, ⟨hk.1.2.2.1, hk.1.2.2.2⟩⟩⟩, hk.1.1⟩)) hg hat)
             have n1_ := Aside0.mk (blk_grown (g := gb450) (bk0 BK450.out) hg (Kd.R_away HO_467007.out (fun _ hk => hk.1.1)))
             have n2_ := Aside0.mk (blk_grown (g := gb452) (bk0 BK452.out) hg (Kd.R_ne HO_467007.out BK452.out (by decide)))
             have n3_ := Aside0.mk (blk_grown (g := gb466) (bk0 BK466.out) hg (Kd.R_away HO_467007.out (fun _ hk => hk.1.2)))
             have n4_ := Aside0.mk (hb)
             have n5_ := Aside0.mk (ho)
             clear HO_52
             clear BK450
             clear BK452
             clear BK466
             clear HB
             clear HO_467007
             clear HO480
             have HO_52 := n0_
             have BK450 := n1_
             have BK452 := n2_
             have BK466 := n3_
             have HB := n4_
             have HO483 := n5_
             clear n0_ n1_ n2_ n3_ n4_ n5_
             clear ho hb hg hat
             obtain ⟨Ao58, co58, eo58⟩ := Kd.R_slice HO483.out
             (first | subst eo58 | (injection eo58 with f1_ f2_ f3_; have f4_ := f1_.symm; have f5_ := f3_.symm; clear f1_ f2_ f3_; subst f4_; subst f5_))
             refine hK.out _ _ ⟨(blk_cell BK466.out 0).trans rfl, (blk_cell BK466.out 1).trans rfl, (blk_cell BK466.out 2).trans rfl, (blk_cell BK466.out 3).trans rfl, (blk_cell BK466.out 4).trans rfl, (blk_cell BK466.out 5).trans rfl, (blk_cell BK466.out 6).trans rfl, (blk_cell BK466.out 7).trans rfl⟩ (fun hHeld => ?_)
             clear hK K
             refine nm_ ?_
             refine pu_ 8 66 HT_ ?_
             refine last_ (i := 9) (N := none) #[true, true, true, true, true, true, true, true, true, true] rfl rfl (one_of HT_.out (by kernel_rfl)) (by decide) (fun K hK => ?_)
             have hs59 : w56.cell? ⟨gb466, 7, none⟩ = some (u467007) := (blk_cell BK466.out 7).trans rfl
             have hfs59 := blk_frozen BK466.out 7
             have hns59_0 := NB450_466.out
             have hns59_1 := NB452_466.out
             have hms59_0 := NB466_450.out
             have hms59_1 := NB466_452.out
             refine skip_ (w1 := ?_) (by rfl) rfl ?_ ?_
             rotate_left
             ·go_simp
              rfl
             refine hK.out _ _ ?_
             clear hK K
             refine done_ (done_of HT_.out (by kernel_rfl)) ?_
             try go_wp2
             go_roundg k3
             case measure => have := HJ5.out; have := HJ17.out; have := HK3.out; omega
             case rel => exact ⟨(wrap64 (x54_3 + 1)), (y481), (.slice Ao58 y481.length co58), rs0, H', ⟨by have := HJ5.out; have := HJ17.out; have := HK3.out; omega⟩, ⟨by (with_reducible repeat (first | apply Kd.V_alloc | apply Kd.V_drewN | apply Kd.V_drew)); exact Kd.V_mono (Kd.V_far (p := ⟨gb466, 7, none⟩) (Kd.V_mono HO_52.out (fun k_ hk => (⟨hk, hk.1.2.2.2⟩ : _ ∧ k_ ≠ gb466))) (fun _ hk => hk.2) (.slice Ao58 y481.length co58)) (fun _ hk => ⟨hk.1.2, ⟨hk.1.1.2.1, ⟨hk.1.1.2.2.1, hk.1.1.2.2.2⟩⟩⟩)⟩, ⟨by (try simp only [setCell_drewN]); refine ra0 ?_; exact Kd.R_mono (Kd.R_far (p := ⟨gb466, 7, none⟩) (Kd.R_mono HO483.out (fun k_ hk => (⟨hk, hk.2⟩ : _ ∧ k_ ≠ gb466))) (fun _ hk => hk.2) (.slice Ao58 y481.length co58)) (fun _ hk => ⟨hk.1.1, hk.1.2⟩)⟩, ⟨bf1 NB450_466.out BK450.out⟩, ⟨bf1 NB452_466.out BK452.out⟩, ⟨bk1 BK466.out⟩, ⟨bb3 GE450.out GE452.out GE466.out⟩⟩
            ·rw [if_neg c53] at H
             exact absurd H (by simp)
           ·rw [if_neg c51] at H
            exact absurd H (by simp)
          ·rw [if_neg c50] at H
           exact absurd H (by simp)
         ·rw [if_neg c49] at H
          have c49b0 := decide_eq_false c49
          clear c49
          simp only [Option.some.injEq, Prod.mk.injEq] at H
          obtain ⟨rfl, rfl, rfl, rfl, rfl, rfl, rfl, rfl⟩ := H
          have hnb60 := NB466_450.out
          have hnc60 := NB450_466.out
          have hnb61 := NB466_452.out
          have hnc61 := NB452_466.out
          obtain ⟨hcz62_0, hcz62_1, hcz62_2, hcz62_3, hcz62_4, hcz62_5, hcz62_6, hcz62_7⟩ := cells8 BK466.out
          obtain ⟨hfz62_0, hfz62_1, hfz62_2, hfz62_3, hfz62_4, hfz62_5, hfz62_6, hfz62_7⟩ := frz8 BK466.out
          have hnb63 := NB450_452.out
          have hnc63 := NB452_450.out
          obtain ⟨hcz64_0, hcz64_1, hcz64_2, hcz64_3, hcz64_4, hcz64_5, hcz64_6, hcz64_7⟩ := cells8 BK450.out
          obtain ⟨hfz64_0, hfz64_1, hfz64_2, hfz64_3, hfz64_4, hfz64_5, hfz64_6, hfz64_7⟩ := frz8 BK450.out
          obtain ⟨Ao65, co65, eo65⟩ := Kd.R_slice HO_467007.out
          subst eo65
          go_wp2
          refine bodyPost_ret (results_cell_row rfl _ _ gb450 56 #[.int .i64 ((rd_T48 l0 a2).f0), .int .i64 ((rd_T48 l0 a2).f1), .int .i64 ((rd_T48 l0 a2).f2), .int .i64 ((rd_T48 l0 a2).f3), .int .i64 ((rd_T48 l0 a2).f4), .string ((rd_T48 l0 a2).f5), .string ((rd_T48 l0 a2).f6), .slice Ao65 x467007_3.length co65] (0, 0) _ rfl (bk1 BK450.out) Tryd.underlying56 rfl (by kernel_rfl)) rfl ?_
          exact ⟨_, er0, by (try simp only [setCell_drewN]); refine ra0 ?_; exact Kd.R_mono (Kd.R_far (p := ⟨gb450, 7, none⟩) (Kd.R_far (p := ⟨gb450, 6, none⟩) (Kd.R_far (p := ⟨gb450, 5, none⟩) (Kd.R_far (p := ⟨gb450, 4, none⟩) (Kd.R_far (p := ⟨gb450, 3, none⟩) (Kd.R_far (p := ⟨gb450, 2, none⟩) (Kd.R_far (p := ⟨gb450, 1, none⟩) (Kd.R_far (p := ⟨gb450, 0, none⟩) (Kd.R_mono HO_467007.out (fun k_ hk => (⟨hk, hk.1⟩ : _ ∧ k_ ≠ gb450))) (fun _ hk => hk.2) (.int .i64 ((rd_T48 l0 a2).f0))) (fun _ hk => hk.2) (.int .i64 ((rd_T48 l0 a2).f1))) (fun _ hk => hk.2) (.int .i64 ((rd_T48 l0 a2).f2))) (fun _ hk => hk.2) (.int .i64 ((rd_T48 l0 a2).f3))) (fun _ hk => hk.2) (.int .i64 ((rd_T48 l0 a2).f4))) (fun _ hk => hk.2) (.string ((rd_T48 l0 a2).f5))) (fun _ hk => hk.2) (.string ((rd_T48 l0 a2).f6))) (fun _ hk => hk.2) (.slice Ao65 x467007_3.length co65)) (fun _ hk => trivial), bb3 GE450.out GE452.out GE466.out⟩
  ·rw [if_neg c5] at H
   exact absurd H (by simp)
 ·rw [if_neg c4] at H
  exact absurd H (by simp)

end Go.Proofs.YtoebebgeiahagaaDoor.PFnExactDropLets
