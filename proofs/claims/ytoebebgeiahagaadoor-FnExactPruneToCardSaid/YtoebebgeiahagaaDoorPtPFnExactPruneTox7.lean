-- Printed by this session's own program (wip/tools)
import Derived.Test.YtoebebgeiahagaaDoorPtPFnExactPruneTox0
import Derived.Test.YtoebebgeiahagaaDoorPtPFnExactPruneTox2
import Derived.Test.YtoebebgeiahagaaDoorPtPFnExactPruneTox5
import Derived.Test.YtoebebgeiahagaaDoorPtPFnExactPruneTox6
namespace Go.Proofs.YtoebebgeiahagaaDoor.PFnExactPruneTo
open Go.RowKit Go.Proofs.YtoebebgeiahagaaDoorW.PrintWords Go.Proofs.YtoebebgeiahagaaDoorW.PrintLast Go.Proofs.YtoebebgeiahagaaDoorW.PrintMore
attribute [local go_sem] max2_int min2_int max_two min_two max_three min_three max_four min_four   -- for this text's walks alone
set_option linter.unusedVariables false
set_option linter.unusedSimpArgs false

/-! ### spec_l22Part: function 35 -/
mutual
def spec_l22Part.l0 : Nat → List (S48) → List Int → List Int → List (List (S48)) → Int → Int → Int → Int → Int → Int → ByteArray → ByteArray → Option ((List (S48)))
 | 0, _, _, _, _, _, _, _, _, _, _, _, _ => none
 | k + 1, x0, x2, x8, x9, x10, x225000, x225001, x225002, x225003, x225004, x225005, x225006 => if x10 < (x8.length : Int) then (if 0 ≤ x10 then ((spec_l22Part.f k x0 (rd x8 x10) x2).bind fun t232 => (if x9.length < 5864062014805 then (spec_l22Part.l0 k x0 x2 x8 (x9 ++ [t232]) (wrap64 (x10 + 1)) x225000 x225001 x225002 x225003 x225004 x225005 x225006) else (none))) else (none)) else (if (x9.length : Int) = 0 then (some (([(⟨x225000, 0, 0, 0, x225004, x225005, x225006⟩ : S48)] : List (S48)))) else (if (x9.length : Int) = 1 then (if 0 < (x9.length : Int) then ((spec_l3Make.f k x225000 0 0 0 x225004 x225005 x225006 (([rd_L4 x9 0] : List (List (S48))))).bind fun t245 => (some t245)) else (none)) else (if (x9.length : Int) = 2 then (if 0 < (x9.length : Int) then (if 1 < (x9.length : Int) then ((spec_l3Make.f k x225000 0 0 0 x225004 x225005 x225006 (([rd_L4 x9 0, rd_L4 x9 1] : List (List (S48))))).bind fun t253 => (some t253)) else (none)) else (none)) else (if 0 < (x9.length : Int) then (if 1 < (x9.length : Int) then (if 2 < (x9.length : Int) then ((spec_l3Make.f k x225000 0 0 0 x225004 x225005 x225006 (([rd_L4 x9 0, rd_L4 x9 1, rd_L4 x9 2] : List (List (S48))))).bind fun t262 => (some t262)) else (none)) else (none)) else (none)))))
def spec_l22Part.f : Nat → List (S48) → Int → List Int → Option ((List (S48)))
 | 0, _, _, _ => none
 | k + 1, l0, a1, l2 => (spec_l4Has.f k l2 a1).bind fun t219 => (if t219 = true then ((spec_l3Int.f 0).bind fun t220 => (some t220)) else (if 0 ≤ a1 then (if a1 < (l0.length : Int) then ((spec_Kids.f k ((rd_T48 l0 a1).f0) ((rd_T48 l0 a1).f1) ((rd_T48 l0 a1).f2) ((rd_T48 l0 a1).f3) ((rd_T48 l0 a1).f4) ((rd_T48 l0 a1).f5) ((rd_T48 l0 a1).f6)).bind fun t225 => (spec_l22Part.l0 k l0 l2 t225 (([] : List (List (S48)))) 0 ((rd_T48 l0 a1).f0) ((rd_T48 l0 a1).f1) ((rd_T48 l0 a1).f2) ((rd_T48 l0 a1).f3) ((rd_T48 l0 a1).f4) ((rd_T48 l0 a1).f5) ((rd_T48 l0 a1).f6))) else (none)) else (none)))
end
theorem spec_l22Part.mono_l : ∀ k, (∀ y0 y1 y2, LeO (spec_l22Part.f k y0 y1 y2) (spec_l22Part.f (k + 1) y0 y1 y2)) ∧ (∀ y0 y1 y2 y3 y4 y5 y6 y7 y8 y9 y10 y11, LeO (spec_l22Part.l0 k y0 y1 y2 y3 y4 y5 y6 y7 y8 y9 y10 y11) (spec_l22Part.l0 (k + 1) y0 y1 y2 y3 y4 y5 y6 y7 y8 y9 y10 y11))
 | 0 => ⟨fun _ _ _ r h => by simp [spec_l22Part.f] at h, fun _ _ _ _ _ _ _ _ _ _ _ _ r h => by simp [spec_l22Part.l0] at h⟩
 | k + 1 => by
  obtain ⟨ih0, ih1⟩ := spec_l22Part.mono_l k
  refine ⟨?_, ?_⟩
  ·intro y0 y1 y2
   unfold spec_l22Part.f
   repeat' first
   | (with_reducible exact ih0 _ _ _)
   | (with_reducible exact ih1 _ _ _ _ _ _ _ _ _ _ _ _)
   | (with_reducible exact spec_Kids.mono _ _ _ _ _ _ _ _)
   | (with_reducible exact spec_l3Make.mono _ _ _ _ _ _ _ _ _)
   | (with_reducible exact spec_l4Has.mono _ _ _)
   | (with_reducible exact LeO.refl _)
   | (with_reducible exact LeO.none _)
   | (with_reducible refine LeO.ite ?_ ?_)
   | (with_reducible refine LeO.bind ?_ (fun _ => ?_))
   | exact ih0 _ _ _
   | exact ih1 _ _ _ _ _ _ _ _ _ _ _ _
   | exact spec_Kids.mono _ _ _ _ _ _ _ _
   | exact spec_l3Make.mono _ _ _ _ _ _ _ _ _
   | exact spec_l4Has.mono _ _ _
   | exact LeO.none _
   | refine LeO.ite ?_ ?_
   | refine LeO.bind ?_ (fun _ => ?_)
  ·intro y0 y1 y2 y3 y4 y5 y6 y7 y8 y9 y10 y11
   unfold spec_l22Part.l0
   repeat' first
   | (with_reducible exact ih0 _ _ _)
   | (with_reducible exact ih1 _ _ _ _ _ _ _ _ _ _ _ _)
   | (with_reducible exact spec_Kids.mono _ _ _ _ _ _ _ _)
   | (with_reducible exact spec_l3Make.mono _ _ _ _ _ _ _ _ _)
   | (with_reducible exact spec_l4Has.mono _ _ _)
   | (with_reducible exact LeO.refl _)
   | (with_reducible exact LeO.none _)
   | (with_reducible refine LeO.ite ?_ ?_)
   | (with_reducible refine LeO.bind ?_ (fun _ => ?_))
   | exact ih0 _ _ _
   | exact ih1 _ _ _ _ _ _ _ _ _ _ _ _
   | exact spec_Kids.mono _ _ _ _ _ _ _ _
   | exact spec_l3Make.mono _ _ _ _ _ _ _ _ _
   | exact spec_l4Has.mono _ _ _
   | exact LeO.none _
   | refine LeO.ite ?_ ?_
   | refine LeO.bind ?_ (fun _ => ?_)
theorem spec_l22Part.mono : ∀ a0 a1 a2 k, LeO (spec_l22Part.f k a0 a1 a2) (spec_l22Part.f (k + 1) a0 a1 a2) := by
 intro a0 a1 a2 k
 obtain ⟨ih0, ih1⟩ := spec_l22Part.mono_l k
 exact ih0 a0 a1 a2
def spec_l22Part.T19 : Bool × List (List Nat × List Nat) := (true, [([], []), ([], []), ([1], [1]), ([2], [2]), ([], []), ([4], [4]), ([5], [5]), ([3, 6], [3, 6]), ([0, 7], [0, 7]), ([8, 8, 0, 1, 2, 3, 4, 5, 6, 7, 8], [8])])
def spec_l22Part.B19 : List Nat := [0, 0, 2, 6, 0, 16, 48, 126, 255, 511]
theorem spec_l22Part.tab19 : rtab .any (opsOf Tryd.f35 19) = spec_l22Part.T19 := by kernel_rfl
theorem spec_l22Part.bits19 : waitsOk spec_l22Part.T19.2 spec_l22Part.B19 = true := by kernel_rfl
def spec_l22Part.T20 : Bool × List (List Nat × List Nat) := (true, [([], []), ([], []), ([1], [1]), ([2], [2]), ([], []), ([4], [4]), ([5], [5]), ([], []), ([7], [7]), ([8], [8]), ([3, 6, 9], [3, 6, 9]), ([0, 10], [0, 10]), ([11, 11, 0, 1, 2, 3, 4, 5, 6, 7, 8, 9, 10, 11], [11])])
def spec_l22Part.B20 : List Nat := [0, 0, 2, 6, 0, 16, 48, 0, 128, 384, 1022, 2047, 4095]
theorem spec_l22Part.tab20 : rtab .any (opsOf Tryd.f35 20) = spec_l22Part.T20 := by kernel_rfl
theorem spec_l22Part.bits20 : waitsOk spec_l22Part.T20.2 spec_l22Part.B20 = true := by kernel_rfl
set_option maxHeartbeats 8000000 in
set_option maxRecDepth 100000 in
theorem spec_l22Part.calls (k : Nat) : ∀ (A0 : Option Addr) (c0 : Nat) (l0 : List (S48)) (a1 : Int) (A2 : Option Addr) (c2 : Nat) (l2 : List Int) (r : List (S48)) (w : World) (hr0 : Kd.C k48 w A0 l0.length l0) (hc0 : l0.length ≤ c0) (hr2 : Kd.C (Kd.int .i64) w A2 l2.length l2) (hc2 : l2.length ≤ c2) (h : spec_l22Part.f k l0 a1 l2 = some r),
  Calls Tryd.prog 35 #[.slice A0 l0.length c0, .int .i64 a1, .slice A2 l2.length c2] w fun e w' => ∃ v0_ : Value, e = .returned (v0_) ∧ Kd.R k48 48 w' w.heap.size (fun _ => True) v0_ r ∧ Below w.heap.size w w' := by
 induction k using Nat.strongRecOn with
 | _ k ih =>
 intro A0 c0 l0 a1 A2 c2 l2 r w hr0 hc0 hr2 hc2 h
 cases k with
 | zero => exact absurd h (by simp [spec_l22Part.f])
 | succ k =>
 simp only [spec_l22Part.f] at h
 have hu48 := Tryd.underlying48
 have HR0 := Aside0.mk hr0
 have HC0 := Aside0.mk hc0
 clear hr0 hc0
 have HR2 := Aside0.mk hr2
 have HC2 := Aside0.mk hc2
 clear hr2 hc2
 have HB := Aside0.mk (Below.refl w.heap.size w)
 have H : ((spec_l4Has.f k l2 a1).bind fun t219 => (if t219 = true then ((spec_l3Int.f 0).bind fun t220 => (some t220)) else (if 0 ≤ a1 then (if a1 < (l0.length : Int) then ((spec_Kids.f k ((rd_T48 l0 a1).f0) ((rd_T48 l0 a1).f1) ((rd_T48 l0 a1).f2) ((rd_T48 l0 a1).f3) ((rd_T48 l0 a1).f4) ((rd_T48 l0 a1).f5) ((rd_T48 l0 a1).f6)).bind fun t225 => (spec_l22Part.l0 k l0 l2 t225 (([] : List (List (S48)))) 0 ((rd_T48 l0 a1).f0) ((rd_T48 l0 a1).f1) ((rd_T48 l0 a1).f2) ((rd_T48 l0 a1).f3) ((rd_T48 l0 a1).f4) ((rd_T48 l0 a1).f5) ((rd_T48 l0 a1).f6))) else (none)) else (none)))) = some r := h
 clear h
 replace H := Option.bind_eq_some_iff.mp H
 obtain ⟨t219, A40, H⟩ := H
 replace H : (if t219 = true then ((spec_l3Int.f 0).bind fun t220 => (some t220)) else (if 0 ≤ a1 then (if a1 < (l0.length : Int) then ((spec_Kids.f k ((rd_T48 l0 a1).f0) ((rd_T48 l0 a1).f1) ((rd_T48 l0 a1).f2) ((rd_T48 l0 a1).f3) ((rd_T48 l0 a1).f4) ((rd_T48 l0 a1).f5) ((rd_T48 l0 a1).f6)).bind fun t225 => (spec_l22Part.l0 k l0 l2 t225 (([] : List (List (S48)))) 0 ((rd_T48 l0 a1).f0) ((rd_T48 l0 a1).f1) ((rd_T48 l0 a1).f2) ((rd_T48 l0 a1).f3) ((rd_T48 l0 a1).f4) ((rd_T48 l0 a1).f5) ((rd_T48 l0 a1).f6))) else (none)) else (none))) = some r := H
 have A4 := Aside0.mk A40
 clear A40
 by_cases c5 : t219 = true
 ·subst c5
  have H1 : ((spec_l3Int.f 0).bind fun t220 => (some t220)) = some r := by rw [if_pos rfl] at H; exact H
  clear H
  have H := H1
  clear H1
  replace H := Option.bind_eq_some_iff.mp H
  obtain ⟨t220, A60, H⟩ := H
  replace H : (some t220) = some r := H
  have A6 := Aside0.mk A60
  clear A60
  obtain rfl := Option.some.inj H
  go_enter Tryd.func35, Tryd.ntmps35
  go_wp2_with (first | ((with_reducible refine gate_callee (f := 48) rfl ?_); refine goesL_ (some 13) rfl rfl Tryd.func48 (by kernel_rfl) rfl #[.slice A2 l2.length c2, .int .i64 a1] rfl mm0 ?_; (with_reducible refine (spec_l4Has.calls k _ _ l2 a1 true _ ?side1 ?side2 A4.out).mono ?_); (case side1 => repeat (first | exact HR2.out | (with_reducible refine Kd.C_alloc ?_ _) | (with_reducible refine Kd.C_drewN ?_ _) | (with_reducible refine Kd.C_drew ?_))); (case side2 => exact HC2.out); rintro e w' ⟨rfl, ⟨nd, rfl⟩⟩; refine ⟨_, rfl, ?_⟩) | ((with_reducible refine gate_callee (f := 49) rfl ?_); refine goesL_ (some 14) rfl rfl Tryd.func49 (by kernel_rfl) rfl #[.int .i64 0] rfl mm0 ?_; (with_reducible refine (spec_l3Int.calls 0 t220 _ A6.out).mono ?_); rintro e w7 ⟨v221, rfl, ho0, hb⟩; refine ⟨_, rfl, ?_⟩; have n0_ := Aside0.mk (Kd.R_lower ho0 (below_size bb0)); have n1_ := Aside0.mk (below_step bb0 hb); clear HB; have HO222 := n0_; have HB := n1_; clear n0_ n1_; (try clear hb); (try clear hb2); (try clear hk); (try clear hi); (try clear ho0)))
  go_ret
  exact ⟨_, er0, by refine ra0 ?_; exact HO222.out, bb0⟩
 ·replace c5 := Bool.eq_false_iff.mpr c5
  subst c5
  have H1 : (if 0 ≤ a1 then (if a1 < (l0.length : Int) then ((spec_Kids.f k ((rd_T48 l0 a1).f0) ((rd_T48 l0 a1).f1) ((rd_T48 l0 a1).f2) ((rd_T48 l0 a1).f3) ((rd_T48 l0 a1).f4) ((rd_T48 l0 a1).f5) ((rd_T48 l0 a1).f6)).bind fun t225 => (spec_l22Part.l0 k l0 l2 t225 (([] : List (List (S48)))) 0 ((rd_T48 l0 a1).f0) ((rd_T48 l0 a1).f1) ((rd_T48 l0 a1).f2) ((rd_T48 l0 a1).f3) ((rd_T48 l0 a1).f4) ((rd_T48 l0 a1).f5) ((rd_T48 l0 a1).f6))) else (none)) else (none)) = some r := by rw [if_neg (show ¬ (false = true) by decide)] at H; exact H
  clear H
  have H := H1
  clear H1
  by_cases c8 : 0 ≤ a1
  ·rw [if_pos c8] at H
   have c8b0 : decide (0 ≤ a1) = true := decide_eq_true c8
   clear c8
   by_cases c9 : a1 < (l0.length : Int)
   ·rw [if_pos c9] at H
    have c9b0 : decide (a1 < (l0.length : Int)) = true := decide_eq_true c9
    clear c9
    replace H := Option.bind_eq_some_iff.mp H
    obtain ⟨t225, A100, H⟩ := H
    replace H : (spec_l22Part.l0 k l0 l2 t225 (([] : List (List (S48)))) 0 ((rd_T48 l0 a1).f0) ((rd_T48 l0 a1).f1) ((rd_T48 l0 a1).f2) ((rd_T48 l0 a1).f3) ((rd_T48 l0 a1).f4) ((rd_T48 l0 a1).f5) ((rd_T48 l0 a1).f6)) = some r := H
    have A10 := Aside0.mk A100
    clear A100
    obtain ⟨y228, hy228⟩ : ∃ y_ : List (List (S48)), y_ = (([] : List (List (S48)))) := ⟨_, rfl⟩
    replace H : (spec_l22Part.l0 k l0 l2 t225 y228 0 ((rd_T48 l0 a1).f0) ((rd_T48 l0 a1).f1) ((rd_T48 l0 a1).f2) ((rd_T48 l0 a1).f3) ((rd_T48 l0 a1).f4) ((rd_T48 l0 a1).f5) ((rd_T48 l0 a1).f6)) = some r := by first | (rw [hy228]; with_reducible exact H) | (have H2_ := (Option.bind_some _ _).symm.trans H; rw [hy228]; with_reducible exact H2_) | (have H2_ := (Option.bind_some _ _).symm.trans H; with_reducible exact H2_) | with_reducible exact H | (rw [hy228]; exact H) | exact H
    have Ny228 := Aside0.mk hy228
    clear hy228
    have H' := Aside0.mk H
    clear H
    go_enter Tryd.func35, Tryd.ntmps35
    go_wp2_with (first | ((with_reducible refine gate_callee (f := 48) rfl ?_); refine goesL_ (some 13) rfl rfl Tryd.func48 (by kernel_rfl) rfl #[.slice A2 l2.length c2, .int .i64 a1] rfl mm0 ?_; (with_reducible refine (spec_l4Has.calls k _ _ l2 a1 false _ ?side1 ?side2 A4.out).mono ?_); (case side1 => repeat (first | exact HR2.out | (with_reducible refine Kd.C_alloc ?_ _) | (with_reducible refine Kd.C_drewN ?_ _) | (with_reducible refine Kd.C_drew ?_))); (case side2 => exact HC2.out); rintro e w' ⟨rfl, ⟨nd, rfl⟩⟩; refine ⟨_, rfl, ?_⟩; have p223 : 0 ≤ (a1 : Int) := of_decide_eq_true as0; have q223 : a1 < (l0.length : Int) := of_decide_eq_true as0; obtain ⟨ad223, e223, hx223_0, hx223_1, hx223_2, hx223_3, hx223_4, hx223_5, hx223_6⟩ := at_T48 HR0.out a1 p223 q223; cases e223; replace p223 := eq_true p223; replace q223 := eq_true q223) | ((with_reducible refine gate_dst (N := 7) rfl ?_); refine box_event ?hg (N := 7) ?hd (cs := #[.int .i64 0, .int .i64 0, .int .i64 0, .int .i64 0, .int .i64 0, .string (⟨#[]⟩ : ByteArray), .string (⟨#[]⟩ : ByteArray)]) (t := 48) ?hr ?_; (case hd => rfl); (case hg => rfl); (case hr => first | (go_simp; done) | (go_simp; rfl)); intro gb224 hg w11 hbox hb; have n0_ := Aside0.mk (below_step bb0 hb); have n1_ := Aside0.mk (hbox); have n2_ := Aside0.mk ((by rw [hg]; exact (below_size bb0) : w.heap.size ≤ gb224)); have n3_ := Aside0.mk ((by rw [hg]; exact (below_size bb0) : w.heap.size ≤ gb224)); clear HB; have HB := n0_; have BK224 := n1_; have GW224 := n2_; have GE224 := n3_; clear n0_ n1_ n2_ n3_; clear hb hbox hg; obtain ⟨hcz12_0, hcz12_1, hcz12_2, hcz12_3, hcz12_4, hcz12_5, hcz12_6⟩ := cells7 BK224.out; obtain ⟨hfz12_0, hfz12_1, hfz12_2, hfz12_3, hfz12_4, hfz12_5, hfz12_6⟩ := frz7 BK224.out) | ((with_reducible refine gate_callee (f := 43) rfl ?_); refine goesL_ (some 20) rfl rfl Tryd.func43 (by kernel_rfl) rfl #[.agg #[.int .i64 ((rd_T48 l0 a1).f0), .int .i64 ((rd_T48 l0 a1).f1), .int .i64 ((rd_T48 l0 a1).f2), .int .i64 ((rd_T48 l0 a1).f3), .int .i64 ((rd_T48 l0 a1).f4), .string ((rd_T48 l0 a1).f5), .string ((rd_T48 l0 a1).f6)]] rfl mm0 ?_; (with_reducible refine (spec_Kids.calls k ((rd_T48 l0 a1).f0) ((rd_T48 l0 a1).f1) ((rd_T48 l0 a1).f2) ((rd_T48 l0 a1).f3) ((rd_T48 l0 a1).f4) ((rd_T48 l0 a1).f5) ((rd_T48 l0 a1).f6) t225 _ A10.out).mono ?_); rintro e w13 ⟨v226, rfl, ho0, hb⟩; refine ⟨_, rfl, ?_⟩; have n0_ := Aside0.mk (Kd.R_lower ho0 (below_size (bb1 GE224.out))); have n1_ := Aside0.mk (blk_below (g := gb224) (o := .cells #[.int .i64 ((rd_T48 l0 a1).f0), .int .i64 ((rd_T48 l0 a1).f1), .int .i64 ((rd_T48 l0 a1).f2), .int .i64 ((rd_T48 l0 a1).f3), .int .i64 ((rd_T48 l0 a1).f4), .string ((rd_T48 l0 a1).f5), .string ((rd_T48 l0 a1).f6)] 48 (0, 0)) (by refine bk0 ?_; refine blk_put (cs := #[.int .i64 ((rd_T48 l0 a1).f0), .int .i64 ((rd_T48 l0 a1).f1), .int .i64 ((rd_T48 l0 a1).f2), .int .i64 ((rd_T48 l0 a1).f3), .int .i64 ((rd_T48 l0 a1).f4), .string ((rd_T48 l0 a1).f5), .string (⟨#[]⟩ : ByteArray)]) ?_ 6 _ rfl; refine bk0 ?_; refine blk_put (cs := #[.int .i64 ((rd_T48 l0 a1).f0), .int .i64 ((rd_T48 l0 a1).f1), .int .i64 ((rd_T48 l0 a1).f2), .int .i64 ((rd_T48 l0 a1).f3), .int .i64 ((rd_T48 l0 a1).f4), .string (⟨#[]⟩ : ByteArray), .string (⟨#[]⟩ : ByteArray)]) ?_ 5 _ rfl; refine bk0 ?_; refine blk_put (cs := #[.int .i64 ((rd_T48 l0 a1).f0), .int .i64 ((rd_T48 l0 a1).f1), .int .i64 ((rd_T48 l0 a1).f2), .int .i64 ((rd_T48 l0 a1).f3), .int .i64 0, .string (⟨#[]⟩ : ByteArray), .string (⟨#[]⟩ : ByteArray)]) ?_ 4 _ rfl; refine bk0 ?_; refine blk_put (cs := #[.int .i64 ((rd_T48 l0 a1).f0), .int .i64 ((rd_T48 l0 a1).f1), .int .i64 ((rd_T48 l0 a1).f2), .int .i64 0, .int .i64 0, .string (⟨#[]⟩ : ByteArray), .string (⟨#[]⟩ : ByteArray)]) ?_ 3 _ rfl; refine bk0 ?_; refine blk_put (cs := #[.int .i64 ((rd_T48 l0 a1).f0), .int .i64 ((rd_T48 l0 a1).f1), .int .i64 0, .int .i64 0, .int .i64 0, .string (⟨#[]⟩ : ByteArray), .string (⟨#[]⟩ : ByteArray)]) ?_ 2 _ rfl; refine bk0 ?_; refine blk_put (cs := #[.int .i64 ((rd_T48 l0 a1).f0), .int .i64 0, .int .i64 0, .int .i64 0, .int .i64 0, .string (⟨#[]⟩ : ByteArray), .string (⟨#[]⟩ : ByteArray)]) ?_ 1 _ rfl; refine bk0 ?_; refine blk_put (cs := #[.int .i64 0, .int .i64 0, .int .i64 0, .int .i64 0, .int .i64 0, .string (⟨#[]⟩ : ByteArray), .string (⟨#[]⟩ : ByteArray)]) ?_ 0 _ rfl; refine bk0 ?_; exact BK224.out) hb); have n2_ := Aside0.mk (below_step (bb1 GE224.out) hb); clear BK224; clear HB; have HO227 := n0_; have BK224 := n1_; have HB := n2_; clear n0_ n1_ n2_; (try clear hb); (try clear hb2); (try clear hk); (try clear hi); (try clear ho0)) | ((with_reducible refine gate_dst (N := 21) rfl ?_); refine Kd.N_lit (Kd.slice 48 k48) _ 25 ?hg (N' := 21) ?hd (xs := ([] : List (List (S48)))) (inner := []) (ok := (fun k_ => some k_ ≠ (v226 : Value).ownBlock ∧ k_ ≠ gb224)) (okp := (fun k_ => some k_ ≠ (v226 : Value).ownBlock ∧ k_ ≠ gb224)) ?hr ?hp (fun _ hk => hk) ((show ∀ k_, w13.heap.size ≤ k_ → (fun k_ => some k_ ≠ (v226 : Value).ownBlock ∧ k_ ≠ gb224) k_ from fun k_ hk => ⟨Kd.fresh' (Kd.R_lt (ra0 HO227.out)) k_ hk, Kd.freshB (g := gb224) (o := .cells #[.int .i64 ((rd_T48 l0 a1).f0), .int .i64 ((rd_T48 l0 a1).f1), .int .i64 ((rd_T48 l0 a1).f2), .int .i64 ((rd_T48 l0 a1).f3), .int .i64 ((rd_T48 l0 a1).f4), .string ((rd_T48 l0 a1).f5), .string ((rd_T48 l0 a1).f6)] 48 (0, 0)) (bk0 BK224.out) k_ hk⟩) _ (Nat.le_refl _)) (Below.refl _ _) (Nat.le_refl _) (by simp) ?_; (case hd => rfl); (case hg => rfl); (case hr => first | (go_simp; done) | (go_simp; rfl)); (case hp => exact (Reps.none _ _)); intro v229 w14 ho15 hb hg_ hnew_; clear hg_ hnew_; (first | rw [← Ny228.out] at ho15 | (simp only [Int.reduceToNat] at ho15; rw [← Ny228.out] at ho15)); have n0_ := Aside0.mk (Kd.R_below (ra0 HO227.out) hb); have n1_ := Aside0.mk (Kd.N_lower ho15 (below_size (bb1 GE224.out))); have n2_ := Aside0.mk (blk_below (g := gb224) (o := .cells #[.int .i64 ((rd_T48 l0 a1).f0), .int .i64 ((rd_T48 l0 a1).f1), .int .i64 ((rd_T48 l0 a1).f2), .int .i64 ((rd_T48 l0 a1).f3), .int .i64 ((rd_T48 l0 a1).f4), .string ((rd_T48 l0 a1).f5), .string ((rd_T48 l0 a1).f6)] 48 (0, 0)) (bk0 BK224.out) hb); have n3_ := Aside0.mk (below_step (bb1 GE224.out) hb); clear HO227; clear BK224; clear HB; have HO227 := n0_; have HO230 := n1_; have BK224 := n2_; have HB := n3_; clear n0_ n1_ n2_ n3_; clear hb ho15))
    go_loopg [9, 10] k (fun kq v9 v10 w' => ∃ (x9_1 : List (List (S48))) (x10_1 : Int), v10 = .int .i64 x10_1 ∧ Aside0 (spec_l22Part.l0 kq l0 l2 t225 x9_1 x10_1 ((rd_T48 l0 a1).f0) ((rd_T48 l0 a1).f1) ((rd_T48 l0 a1).f2) ((rd_T48 l0 a1).f3) ((rd_T48 l0 a1).f4) ((rd_T48 l0 a1).f5) ((rd_T48 l0 a1).f6) = some r) ∧ Aside0 (kq ≤ k) ∧ Aside0 (Kd.R (Kd.int .i64) 3 w' w.heap.size (fun _ => True) v226 t225) ∧ Aside0 (Kd.N (Kd.slice 48 k48) 25 w' w.heap.size (fun k_ => some k_ ≠ (v226 : Value).ownBlock ∧ k_ ≠ gb224) v9 x9_1) ∧ Aside0 (w'.heap[gb224]? = some (.cells #[.int .i64 ((rd_T48 l0 a1).f0), .int .i64 ((rd_T48 l0 a1).f1), .int .i64 ((rd_T48 l0 a1).f2), .int .i64 ((rd_T48 l0 a1).f3), .int .i64 ((rd_T48 l0 a1).f4), .string ((rd_T48 l0 a1).f5), .string ((rd_T48 l0 a1).f6)] 48 (0, 0))) ∧ Aside0 (Below w.heap.size w w'))
    case atStart => exact ⟨(y228), (0), rs0, H', ⟨Nat.le_refl _⟩, ⟨by refine ra0 ?_; exact HO227.out⟩, ⟨by (with_reducible repeat (first | apply Kd.N_alloc | apply Kd.N_drewN | apply Kd.N_drew)); exact HO230.out⟩, ⟨by refine bk0 ?_; exact BK224.out⟩, ⟨bb1 GE224.out⟩⟩
    case round =>
     clear H'
     try clear c2
     try clear p2
     try clear q2
     try clear hx2
     try clear c3
     try clear c4
     try clear c5
     try clear c8
     try clear c8b0
     try clear c9
     try clear c9b0
     try clear hcz12_0
     try clear hcz12_1
     try clear hcz12_2
     try clear hcz12_3
     try clear hcz12_4
     try clear hcz12_5
     try clear hcz12_6
     try clear hfz12_0
     try clear hfz12_1
     try clear hfz12_2
     try clear hfz12_3
     try clear hfz12_4
     try clear hfz12_5
     try clear hfz12_6
     try clear hx223_0
     try clear hx223_1
     try clear hx223_2
     try clear hx223_3
     try clear hx223_4
     try clear hx223_5
     try clear hx223_6
     try clear p223
     try clear q223
     obtain ⟨x9_1, x10_1, rfl, HA, HK1, HO_8, HO_9, BK224, HB⟩ := hrel
     cases gk with
     | zero => exact absurd HA.out (by simp [spec_l22Part.l0])
     | succ k1 =>
      have H := HA.out
      clear HA
      simp only [spec_l22Part.l0] at H
      by_cases c16 : x10_1 < (t225.length : Int)
      ·rw [if_pos c16] at H
       have c16b0 : decide (x10_1 < (t225.length : Int)) = true := decide_eq_true c16
       clear c16
       by_cases c17 : 0 ≤ x10_1
       ·rw [if_pos c17] at H
        have c17b0 : decide (0 ≤ x10_1) = true := decide_eq_true c17
        clear c17
        replace H := Option.bind_eq_some_iff.mp H
        obtain ⟨t232, A180, H⟩ := H
        replace H : (if x9_1.length < 5864062014805 then (spec_l22Part.l0 k1 l0 l2 t225 (x9_1 ++ [t232]) (wrap64 (x10_1 + 1)) ((rd_T48 l0 a1).f0) ((rd_T48 l0 a1).f1) ((rd_T48 l0 a1).f2) ((rd_T48 l0 a1).f3) ((rd_T48 l0 a1).f4) ((rd_T48 l0 a1).f5) ((rd_T48 l0 a1).f6)) else (none)) = some r := H
        have A18 := Aside0.mk A180
        clear A180
        by_cases c19 : x9_1.length < 5864062014805
        ·rw [if_pos c19] at H
         have LMc19 := Aside0.mk c19
         clear c19
         obtain ⟨y235, hy235⟩ : ∃ y_ : List (List (S48)), y_ = (x9_1 ++ [t232]) := ⟨_, rfl⟩
         replace H : (spec_l22Part.l0 k1 l0 l2 t225 y235 (wrap64 (x10_1 + 1)) ((rd_T48 l0 a1).f0) ((rd_T48 l0 a1).f1) ((rd_T48 l0 a1).f2) ((rd_T48 l0 a1).f3) ((rd_T48 l0 a1).f4) ((rd_T48 l0 a1).f5) ((rd_T48 l0 a1).f6)) = some r := by first | (rw [hy235]; with_reducible exact H) | (have H2_ := (Option.bind_some _ _).symm.trans H; rw [hy235]; with_reducible exact H2_) | (have H2_ := (Option.bind_some _ _).symm.trans H; with_reducible exact H2_) | with_reducible exact H | (rw [hy235]; exact H) | exact H
         have Ny235 := Aside0.mk hy235
         clear hy235
         have H' := Aside0.mk H
         clear H
         obtain ⟨Ao20, co20, eo20⟩ := Kd.R_slice HO_8.out
         subst eo20
         have p231 : 0 ≤ (x10_1 : Int) := of_decide_eq_true as0
         have q231 : x10_1 < (t225.length : Int) := of_decide_eq_true as0
         obtain ⟨ad231, e231, hx231_0⟩ := Kd.at_int (Kd.R_reads' HO_8.out).2.2 x10_1 p231 q231
         cases e231
         replace p231 := eq_true p231
         replace q231 := eq_true q231
         go_wp2_with (first | ((with_reducible refine gate_callee (f := 35) rfl ?_); refine goesL_ (some 35) rfl rfl Tryd.func35 (by kernel_rfl) rfl #[.slice (some ad223) l0.length c0, .int .i64 (rd t225 x10_1), .slice A2 l2.length c2] rfl mm0 ?_; (with_reducible refine (ih k1 (by have := HK1.out; omega) _ _ l0 (rd t225 x10_1) _ _ l2 t232 _ ?side1 ?side2 ?side3 ?side4 A18.out).mono ?_); (case side1 => exact cc0 (Kd.C_below HR0.out HB.out)); (case side2 => exact HC0.out); (case side3 => exact cc0 (Kd.C_below HR2.out HB.out)); (case side4 => exact HC2.out); rintro e w21 ⟨v233, rfl, ho0, hb⟩; refine ⟨_, rfl, ?_⟩; have n0_ := Aside0.mk (Kd.R_below (ra0 HO_8.out) hb); have n1_ := Aside0.mk (Kd.N_elder' (by (with_reducible repeat (first | apply Kd.N_alloc | apply Kd.N_drewN | apply Kd.N_drew)); exact HO_9.out) (Kd.R_base ho0) hb); have n2_ := Aside0.mk (Kd.R_lower (Kd.R_newB ho0 (g := gb224) (o := .cells #[.int .i64 ((rd_T48 l0 a1).f0), .int .i64 ((rd_T48 l0 a1).f1), .int .i64 ((rd_T48 l0 a1).f2), .int .i64 ((rd_T48 l0 a1).f3), .int .i64 ((rd_T48 l0 a1).f4), .string ((rd_T48 l0 a1).f5), .string ((rd_T48 l0 a1).f6)] 48 (0, 0)) (bk0 BK224.out)) (below_size (bb1 GE224.out))); have n3_ := Aside0.mk (blk_below (g := gb224) (o := .cells #[.int .i64 ((rd_T48 l0 a1).f0), .int .i64 ((rd_T48 l0 a1).f1), .int .i64 ((rd_T48 l0 a1).f2), .int .i64 ((rd_T48 l0 a1).f3), .int .i64 ((rd_T48 l0 a1).f4), .string ((rd_T48 l0 a1).f5), .string ((rd_T48 l0 a1).f6)] 48 (0, 0)) (bk0 BK224.out) hb); have n4_ := Aside0.mk (below_step (bb1 GE224.out) hb); clear HO_8; clear HO_9; clear BK224; clear HB; have HO_8 := n0_; have HO_9 := n1_; have HO234 := n2_; have BK224 := n3_; have HB := n4_; clear n0_ n1_ n2_ n3_ n4_; (try clear hb); (try clear hb2); (try clear hk); (try clear hi); (try clear ho0); obtain ⟨Ao23, co23, eo23⟩ := Kd.R_slice HO234.out; subst eo23) | ((with_reducible refine gate_builtin (b := .append) (xs := #[(.tmp 28), .tmp 36]) rfl ?_); at_builtin; refine Kd.N_append (Kd.slice 48 k48) (w0 := w) w.heap.size rfl (.tmp 28) (.tmp 36) 71 25 (.slice none 0 0) 24 rfl Tryd.underlying71 info25 rfl (by decide) (by omega) u9 x9_1 t232 [.slice Ao23 t232.length co23] (fun k_ => some k_ ≠ (.slice (some ad231) t225.length co20 : Value).ownBlock ∧ k_ ≠ gb224) (fun k_ => ((fun k_ => some k_ ≠ (.slice (some ad231) t225.length co20 : Value).ownBlock ∧ k_ ≠ gb224)) k_ ∧ some k_ ≠ (u9 : Value).ownBlock) rfl rfl ?aP (fun _ hk => hk) ?aF ?aO ?aB ?aS ?aL ?_; (case aP => exact (Kd.FK_slice_mk (Kd.R_reads' (Kd.R_mono (ok' := (fun k_ => ((fun k_ => some k_ ≠ (.slice (some ad231) t225.length co20 : Value).ownBlock ∧ k_ ≠ gb224)) k_ ∧ some k_ ≠ (u9 : Value).ownBlock)) (Kd.R_apart' (Kd.R_apart' (HO234.out) (Kd.R_typed HO_8.out) (by decide)) (Kd.N_typed HO_9.out) (by decide)) (fun k_ hk => ⟨⟨hk.1.2, hk.1.1.2⟩, hk.2⟩))).2.1 (Kd.R_F (Kd.R_mono (ok' := (fun k_ => ((fun k_ => some k_ ≠ (.slice (some ad231) t225.length co20 : Value).ownBlock ∧ k_ ≠ gb224)) k_ ∧ some k_ ≠ (u9 : Value).ownBlock)) (Kd.R_apart' (Kd.R_apart' (HO234.out) (Kd.R_typed HO_8.out) (by decide)) (Kd.N_typed HO_9.out) (by decide)) (fun k_ hk => ⟨⟨hk.1.2, hk.1.1.2⟩, hk.2⟩))))); (case aB => exact (bb1 GE224.out)); (case aF => exact (fun k_ hk => ⟨Kd.fresh' (Kd.R_lt (ra0 HO_8.out)) k_ hk, Kd.freshB (g := gb224) (o := .cells #[.int .i64 ((rd_T48 l0 a1).f0), .int .i64 ((rd_T48 l0 a1).f1), .int .i64 ((rd_T48 l0 a1).f2), .int .i64 ((rd_T48 l0 a1).f3), .int .i64 ((rd_T48 l0 a1).f4), .string ((rd_T48 l0 a1).f5), .string ((rd_T48 l0 a1).f6)] 48 (0, 0)) (bk0 BK224.out) k_ hk⟩)); (case aO => exact (by (with_reducible repeat (first | apply Kd.N_alloc | apply Kd.N_drewN | apply Kd.N_drew)); exact Kd.N_mono HO_9.out (fun _ hk => ⟨hk.1.1, hk.1.2⟩))); (case aS => exact (below_size (bb1 GE224.out))); (case aL => have := LMc19.out; omega); intro v236 w22 ho hb hg hat; rw [← Ny235.out] at ho; have n0_ := Aside0.mk (Kd.R_over' (ra0 HO_8.out) (Kd.N_typed (by (with_reducible repeat (first | apply Kd.N_alloc | apply Kd.N_drewN | apply Kd.N_drew)); exact HO_9.out)) (by decide) hg); have n1_ := Aside0.mk (blk_grown (g := gb224) (o := .cells #[.int .i64 ((rd_T48 l0 a1).f0), .int .i64 ((rd_T48 l0 a1).f1), .int .i64 ((rd_T48 l0 a1).f2), .int .i64 ((rd_T48 l0 a1).f3), .int .i64 ((rd_T48 l0 a1).f4), .string ((rd_T48 l0 a1).f5), .string ((rd_T48 l0 a1).f6)] 48 (0, 0)) (bk0 BK224.out) hg (Kd.N_ne HO_9.out BK224.out (by decide))); have n2_ := Aside0.mk (hb); have n3_ := Aside0.mk (ho); clear HO_8; clear BK224; clear HB; clear HO_9; clear HO234; have HO_8 := n0_; have BK224 := n1_; have HB := n2_; have HO237 := n3_; clear n0_ n1_ n2_ n3_; clear ho hb hg hat))
         go_roundg k1
         case measure => have := HK1.out; omega
         case rel => exact ⟨(y235), (wrap64 (x10_1 + 1)), rs0, H', ⟨by have := HK1.out; omega⟩, ⟨by refine ra0 ?_; exact HO_8.out⟩, ⟨by (with_reducible repeat (first | apply Kd.N_alloc | apply Kd.N_drewN | apply Kd.N_drew)); exact HO237.out⟩, ⟨by refine bk0 ?_; exact BK224.out⟩, ⟨bb1 GE224.out⟩⟩
        ·rw [if_neg c19] at H
         exact absurd H (by simp)
       ·rw [if_neg c17] at H
        exact absurd H (by simp)
      ·rw [if_neg c16] at H
       have c16b0 : decide (x10_1 < (t225.length : Int)) = false := decide_eq_false c16
       clear c16
       by_cases c24 : (x9_1.length : Int) = 0
       ·rw [if_pos c24] at H
        have c24b0 : ((x9_1.length : Int) == 0) = true := beq_iff_eq.mpr c24
        have c24b1 : ((x9_1.length : Int) != 0) = false := bne_eq_false_iff_eq.mpr c24
        clear c24
        obtain ⟨y238, hy238⟩ : ∃ y_ : List (S48), y_ = (([(⟨((rd_T48 l0 a1).f0), 0, 0, 0, ((rd_T48 l0 a1).f4), ((rd_T48 l0 a1).f5), ((rd_T48 l0 a1).f6)⟩ : S48)] : List (S48))) := ⟨_, rfl⟩
        replace H : (some y238) = some r := by first | (rw [hy238]; with_reducible exact H) | (have H2_ := (Option.bind_some _ _).symm.trans H; rw [hy238]; with_reducible exact H2_) | (have H2_ := (Option.bind_some _ _).symm.trans H; with_reducible exact H2_) | with_reducible exact H | (rw [hy238]; exact H) | exact H
        have Ny238 := Aside0.mk hy238
        clear hy238
        obtain rfl := Option.some.inj H
        obtain ⟨Ao25, co25, eo25⟩ := Kd.R_slice HO_8.out
        subst eo25
        obtain ⟨hcz26_0, hcz26_1, hcz26_2, hcz26_3, hcz26_4, hcz26_5, hcz26_6⟩ := cells7 BK224.out
        obtain ⟨hfz26_0, hfz26_1, hfz26_2, hfz26_3, hfz26_4, hfz26_5, hfz26_6⟩ := frz7 BK224.out
        obtain ⟨Ao27, co27, eo27⟩ := Kd.N_slice HO_9.out
        subst eo27
        go_wp2_with (first | ((with_reducible refine gate_dst (N := 46) rfl ?_); refine Kd.R_lit k48 _ 48 ?hg (N := 46) ?hd (xs := ([(⟨((rd_T48 l0 a1).f0), 0, 0, 0, ((rd_T48 l0 a1).f4), ((rd_T48 l0 a1).f5), ((rd_T48 l0 a1).f6)⟩ : S48)] : List (S48))) (inner := [.int .i64 ((rd_T48 l0 a1).f0), .int .i64 0, .int .i64 0, .int .i64 0, .int .i64 ((rd_T48 l0 a1).f4), .string ((rd_T48 l0 a1).f5), .string ((rd_T48 l0 a1).f6)]) (ok := fun _ => True) (okp := fun _ => True) ?hr ?hp (fun _ hk => hk) trivial (Below.refl _ _) (Nat.le_refl _) (by simp) ?_; (case hd => rfl); (case hg => rfl); (case hr => first | (go_simp; done) | (go_simp; rfl)); (case hp => exact (Reps.c7 (show Kd.M k48 _ _ _ (⟨((rd_T48 l0 a1).f0), 0, 0, 0, ((rd_T48 l0 a1).f4), ((rd_T48 l0 a1).f5), ((rd_T48 l0 a1).f6)⟩ : S48) [.int .i64 ((rd_T48 l0 a1).f0), .int .i64 0, .int .i64 0, .int .i64 0, .int .i64 ((rd_T48 l0 a1).f4), .string ((rd_T48 l0 a1).f5), .string ((rd_T48 l0 a1).f6)] from (k48_mkM _ _ _ (⟨((rd_T48 l0 a1).f0), 0, 0, 0, ((rd_T48 l0 a1).f4), ((rd_T48 l0 a1).f5), ((rd_T48 l0 a1).f6)⟩ : S48) )) (Reps.none _ _))); intro v239 w28 ho29 hb hg_ hnew_; clear hg_ hnew_; (first | rw [← Ny238.out] at ho29 | (simp only [Int.reduceToNat] at ho29; rw [← Ny238.out] at ho29)); have n0_ := Aside0.mk (Kd.R_below (by refine ra0 ?_; exact (Kd.R_mono (Kd.R_far (p := ⟨gb224, 3, none⟩) (Kd.R_far (p := ⟨gb224, 2, none⟩) (Kd.R_far (p := ⟨gb224, 1, none⟩) (Kd.R_types HO_8.out BK224.out (by decide)) (fun _ hk => hk.2) (.int .i64 0)) (fun _ hk => hk.2) (.int .i64 0)) (fun _ hk => hk.2) (.int .i64 0)) (fun _ h_ => h_.1))) hb); have n1_ := Aside0.mk (Kd.N_elder' (by (with_reducible repeat (first | apply Kd.N_alloc | apply Kd.N_drewN | apply Kd.N_drew)); exact (Kd.N_mono (Kd.N_far (p := ⟨gb224, 3, none⟩) (Kd.N_far (p := ⟨gb224, 2, none⟩) (Kd.N_far (p := ⟨gb224, 1, none⟩) (Kd.N_mono HO_9.out (fun k_ hk => (⟨hk, hk.2⟩ : _ ∧ k_ ≠ gb224))) (fun _ hk => hk.2) (.int .i64 0)) (fun _ hk => hk.2) (.int .i64 0)) (fun _ hk => hk.2) (.int .i64 0)) (fun _ h_ => h_.1))) (Kd.R_base ho29) hb); have n2_ := Aside0.mk (Kd.R_lower (Kd.R_newB ho29 (g := gb224) (o := .cells #[.int .i64 ((rd_T48 l0 a1).f0), .int .i64 0, .int .i64 0, .int .i64 0, .int .i64 ((rd_T48 l0 a1).f4), .string ((rd_T48 l0 a1).f5), .string ((rd_T48 l0 a1).f6)] 48 (0, 0)) (by refine bk0 ?_; refine blk_put (cs := #[.int .i64 ((rd_T48 l0 a1).f0), .int .i64 0, .int .i64 0, .int .i64 ((rd_T48 l0 a1).f3), .int .i64 ((rd_T48 l0 a1).f4), .string ((rd_T48 l0 a1).f5), .string ((rd_T48 l0 a1).f6)]) ?_ 3 _ rfl; refine bk0 ?_; refine blk_put (cs := #[.int .i64 ((rd_T48 l0 a1).f0), .int .i64 0, .int .i64 ((rd_T48 l0 a1).f2), .int .i64 ((rd_T48 l0 a1).f3), .int .i64 ((rd_T48 l0 a1).f4), .string ((rd_T48 l0 a1).f5), .string ((rd_T48 l0 a1).f6)]) ?_ 2 _ rfl; refine bk0 ?_; refine blk_put (cs := #[.int .i64 ((rd_T48 l0 a1).f0), .int .i64 ((rd_T48 l0 a1).f1), .int .i64 ((rd_T48 l0 a1).f2), .int .i64 ((rd_T48 l0 a1).f3), .int .i64 ((rd_T48 l0 a1).f4), .string ((rd_T48 l0 a1).f5), .string ((rd_T48 l0 a1).f6)]) ?_ 1 _ rfl; refine bk0 ?_; exact BK224.out)) (below_size (bb1 GE224.out))); have n3_ := Aside0.mk (blk_below (g := gb224) (o := .cells #[.int .i64 ((rd_T48 l0 a1).f0), .int .i64 0, .int .i64 0, .int .i64 0, .int .i64 ((rd_T48 l0 a1).f4), .string ((rd_T48 l0 a1).f5), .string ((rd_T48 l0 a1).f6)] 48 (0, 0)) (by refine bk0 ?_; refine blk_put (cs := #[.int .i64 ((rd_T48 l0 a1).f0), .int .i64 0, .int .i64 0, .int .i64 ((rd_T48 l0 a1).f3), .int .i64 ((rd_T48 l0 a1).f4), .string ((rd_T48 l0 a1).f5), .string ((rd_T48 l0 a1).f6)]) ?_ 3 _ rfl; refine bk0 ?_; refine blk_put (cs := #[.int .i64 ((rd_T48 l0 a1).f0), .int .i64 0, .int .i64 ((rd_T48 l0 a1).f2), .int .i64 ((rd_T48 l0 a1).f3), .int .i64 ((rd_T48 l0 a1).f4), .string ((rd_T48 l0 a1).f5), .string ((rd_T48 l0 a1).f6)]) ?_ 2 _ rfl; refine bk0 ?_; refine blk_put (cs := #[.int .i64 ((rd_T48 l0 a1).f0), .int .i64 ((rd_T48 l0 a1).f1), .int .i64 ((rd_T48 l0 a1).f2), .int .i64 ((rd_T48 l0 a1).f3), .int .i64 ((rd_T48 l0 a1).f4), .string ((rd_T48 l0 a1).f5), .string ((rd_T48 l0 a1).f6)]) ?_ 1 _ rfl; refine bk0 ?_; exact BK224.out) hb); have n4_ := Aside0.mk (below_step (bb1 GE224.out) hb); clear HO_8; clear HO_9; clear BK224; clear HB; have HO_8 := n0_; have HO_9 := n1_; have HO240 := n2_; have BK224 := n3_; have HB := n4_; clear n0_ n1_ n2_ n3_ n4_; clear hb ho29))
        go_ret
        exact ⟨_, er0, by refine ra0 ?_; exact Kd.R_mono HO240.out (fun _ hk => trivial), bb1 GE224.out⟩
       ·rw [if_neg c24] at H
        have c24b0 : ((x9_1.length : Int) == 0) = false := beq_eq_false_iff_ne.mpr c24
        have c24b1 : ((x9_1.length : Int) != 0) = true := bne_iff_ne.mpr c24
        have c24b2 : ¬ (x9_1 = []) := fun h_ => c24 (by rw [h_]; rfl)
        by_cases c30 : (x9_1.length : Int) = 1
        ·rw [if_pos c30] at H
         have c30b0 : ((x9_1.length : Int) == 1) = true := beq_iff_eq.mpr c30
         have c30b1 : ((x9_1.length : Int) != 1) = false := bne_eq_false_iff_eq.mpr c30
         clear c30
         by_cases c31 : 0 < (x9_1.length : Int)
         ·rw [if_pos c31] at H
          have c31b0 : decide (0 < (x9_1.length : Int)) = true := decide_eq_true c31
          have c31b1 : decide (0 < x9_1.length) = true := decide_eq_true (by omega)
          clear c31
          obtain ⟨y242, hy242⟩ : ∃ y_ : List (List (S48)), y_ = (([rd_L4 x9_1 0] : List (List (S48)))) := ⟨_, rfl⟩
          replace H : ((spec_l3Make.f k1 ((rd_T48 l0 a1).f0) 0 0 0 ((rd_T48 l0 a1).f4) ((rd_T48 l0 a1).f5) ((rd_T48 l0 a1).f6) y242).bind fun t245 => (some t245)) = some r := by first | (rw [hy242]; with_reducible exact H) | (have H2_ := (Option.bind_some _ _).symm.trans H; rw [hy242]; with_reducible exact H2_) | (have H2_ := (Option.bind_some _ _).symm.trans H; with_reducible exact H2_) | with_reducible exact H | (rw [hy242]; exact H) | exact H
          have Ny242 := Aside0.mk hy242
          clear hy242
          replace H := Option.bind_eq_some_iff.mp H
          obtain ⟨t245, A320, H⟩ := H
          replace H : (some t245) = some r := H
          have A32 := Aside0.mk A320
          clear A320
          obtain rfl := Option.some.inj H
          obtain ⟨Ao33, co33, eo33⟩ := Kd.R_slice HO_8.out
          subst eo33
          obtain ⟨hcz34_0, hcz34_1, hcz34_2, hcz34_3, hcz34_4, hcz34_5, hcz34_6⟩ := cells7 BK224.out
          obtain ⟨hfz34_0, hfz34_1, hfz34_2, hfz34_3, hfz34_4, hfz34_5, hfz34_6⟩ := frz7 BK224.out
          obtain ⟨Ao35, co35, eo35⟩ := Kd.N_slice HO_9.out
          subst eo35
          try go_wp2
          have n0_ : Aside0 (Kd.R (Kd.int .i64) 3 (((wr.setCell ⟨gb224, 1, none⟩ (.int .i64 0)).setCell ⟨gb224, 2, none⟩ (.int .i64 0)).setCell ⟨gb224, 3, none⟩ (.int .i64 0)) w.heap.size (fun _ => True) (.slice Ao33 t225.length co33) t225) := ⟨by (try simp only [setCell_drewN]); refine ra0 ?_; exact Kd.R_mono (Kd.R_far (p := ⟨gb224, 3, none⟩) (Kd.R_far (p := ⟨gb224, 2, none⟩) (Kd.R_far (p := ⟨gb224, 1, none⟩) (Kd.R_types HO_8.out BK224.out (by decide)) (fun _ hk => hk.2) (.int .i64 0)) (fun _ hk => hk.2) (.int .i64 0)) (fun _ hk => hk.2) (.int .i64 0)) (fun _ hk => trivial)⟩
          have n1_ : Aside0 (Kd.N (Kd.slice 48 k48) 25 (((wr.setCell ⟨gb224, 1, none⟩ (.int .i64 0)).setCell ⟨gb224, 2, none⟩ (.int .i64 0)).setCell ⟨gb224, 3, none⟩ (.int .i64 0)) w.heap.size (fun k_ => some k_ ≠ (.slice Ao33 t225.length co33 : Value).ownBlock ∧ k_ ≠ gb224) (.slice Ao35 x9_1.length co35) x9_1) := ⟨by (with_reducible repeat (first | apply Kd.N_alloc | apply Kd.N_drewN | apply Kd.N_drew)); exact Kd.N_mono (Kd.N_far (p := ⟨gb224, 3, none⟩) (Kd.N_far (p := ⟨gb224, 2, none⟩) (Kd.N_far (p := ⟨gb224, 1, none⟩) (Kd.N_mono HO_9.out (fun k_ hk => (⟨hk, hk.2⟩ : _ ∧ k_ ≠ gb224))) (fun _ hk => hk.2) (.int .i64 0)) (fun _ hk => hk.2) (.int .i64 0)) (fun _ hk => hk.2) (.int .i64 0)) (fun _ hk => ⟨hk.1.1, hk.1.2⟩)⟩
          have n2_ : Aside0 ((((wr.setCell ⟨gb224, 1, none⟩ (.int .i64 0)).setCell ⟨gb224, 2, none⟩ (.int .i64 0)).setCell ⟨gb224, 3, none⟩ (.int .i64 0)).heap[gb224]? = some (.cells #[.int .i64 ((rd_T48 l0 a1).f0), .int .i64 0, .int .i64 0, .int .i64 0, .int .i64 ((rd_T48 l0 a1).f4), .string ((rd_T48 l0 a1).f5), .string ((rd_T48 l0 a1).f6)] 48 (0, 0))) := ⟨by refine bk0 ?_; refine blk_put (cs := #[.int .i64 ((rd_T48 l0 a1).f0), .int .i64 0, .int .i64 0, .int .i64 ((rd_T48 l0 a1).f3), .int .i64 ((rd_T48 l0 a1).f4), .string ((rd_T48 l0 a1).f5), .string ((rd_T48 l0 a1).f6)]) ?_ 3 _ rfl; refine bk0 ?_; refine blk_put (cs := #[.int .i64 ((rd_T48 l0 a1).f0), .int .i64 0, .int .i64 ((rd_T48 l0 a1).f2), .int .i64 ((rd_T48 l0 a1).f3), .int .i64 ((rd_T48 l0 a1).f4), .string ((rd_T48 l0 a1).f5), .string ((rd_T48 l0 a1).f6)]) ?_ 2 _ rfl; refine bk0 ?_; refine blk_put (cs := #[.int .i64 ((rd_T48 l0 a1).f0), .int .i64 ((rd_T48 l0 a1).f1), .int .i64 ((rd_T48 l0 a1).f2), .int .i64 ((rd_T48 l0 a1).f3), .int .i64 ((rd_T48 l0 a1).f4), .string ((rd_T48 l0 a1).f5), .string ((rd_T48 l0 a1).f6)]) ?_ 1 _ rfl; refine bk0 ?_; exact BK224.out⟩
          have n3_ : Aside0 (Below w.heap.size w (((wr.setCell ⟨gb224, 1, none⟩ (.int .i64 0)).setCell ⟨gb224, 2, none⟩ (.int .i64 0)).setCell ⟨gb224, 3, none⟩ (.int .i64 0))) := ⟨bb1 GE224.out⟩
          (try clear HO_8)
          (try clear HO_9)
          (try clear BK224)
          (try clear HB)
          generalize (((wr.setCell ⟨gb224, 1, none⟩ (.int .i64 0)).setCell ⟨gb224, 2, none⟩ (.int .i64 0)).setCell ⟨gb224, 3, none⟩ (.int .i64 0)) = w36 at n0_ n1_ n2_ n3_ ⊢
          have HO_8 := n0_
          have HO_9 := n1_
          have BK224 := n2_
          have HB := n3_
          clear n0_ n1_ n2_ n3_
          have n0_ := Aside0.mk (Kd.R_drew HO_8.out)
          have n1_ := Aside0.mk (Kd.N_drew HO_9.out)
          have n2_ := Aside0.mk (blk_drew BK224.out)
          have n3_ := Aside0.mk (below_drew1 HB.out)
          clear HO_8
          clear HO_9
          clear BK224
          clear HB
          have HO_8 := n0_
          have HO_9 := n1_
          have BK224 := n2_
          have HB := n3_
          clear n0_ n1_ n2_ n3_
          have p241 : 0 ≤ (0 : Int) := (by omega)
          have q241 : 0 < (x9_1.length : Int) := of_decide_eq_true as0
          obtain ⟨ad241, A241_0, c241_0, e241, hx241_0, hl241_0, hi241_0⟩ := at_L4 (Kd.N_reads' HO_9.out).2.2 0 p241 q241
          cases e241
          obtain ⟨ce241, hce241, hMe241, hcc241⟩ := Kd.N_get HO_9.out [] 0 p241 (by first | exact q241 | exact of_decide_eq_true as0 | (have e_ := (Kd.N_reads' HO_9.out).1; omega))
          obtain ⟨ua241_0, uc241_0, rfl, ul241_0, ge241_0⟩ := Kd.FK_slice_open hMe241
          have hv241_0 := hcc241 0 _ rfl
          rw [Nat.add_zero, show ((Kd.slice 48 k48)).sz = 1 from rfl, Nat.mul_one] at hv241_0
          replace hv241_0 := Option.some.inj (hv241_0.symm.trans hx241_0)
          injection hv241_0 with hva_ hvn_ hvc_
          rw [hva_] at ge241_0
          rw [hvc_] at ul241_0
          have HL241_0 := Aside0.mk (show Kd.V k48 48 _ w.heap.size _ _ (rd_L4 x9_1 0) from Kd.V_mk ul241_0 ge241_0)
          clear hva_ hvn_ hvc_ ge241_0 ul241_0
          clear hcc241 hce241
          have qi241 : (0 < x9_1.length) = True := eq_true (by omega)
          (try rw [show ((0 : Int)).toNat = 0 from rfl] at hx241_0)
          (try rw [Addr.add_zero'] at hx241_0)
          have HR241_0 := Aside0.mk hi241_0
          have HC241_0 := Aside0.mk hl241_0
          clear hi241_0 hl241_0
          replace p241 := eq_true p241
          replace q241 := eq_true q241
          refine start_ (n := 7) (S := fun w' => w'.cell? ⟨gb224, 0, none⟩ = some (.int .i64 ((rd_T48 l0 a1).f0)) ∧ w'.cell? ⟨gb224, 1, none⟩ = some (.int .i64 0) ∧ w'.cell? ⟨gb224, 2, none⟩ = some (.int .i64 0) ∧ w'.cell? ⟨gb224, 3, none⟩ = some (.int .i64 0) ∧ w'.cell? ⟨gb224, 4, none⟩ = some (.int .i64 ((rd_T48 l0 a1).f4)) ∧ w'.cell? ⟨gb224, 5, none⟩ = some (.string ((rd_T48 l0 a1).f5)) ∧ w'.cell? ⟨gb224, 6, none⟩ = some (.string ((rd_T48 l0 a1).f6)) ∧ w'.cell? ad241 = some (.slice A241_0 (rd_L4 x9_1 0).length c241_0)) (ds := []) #[false, false, false, false, false, false, false] (by kernel_rfl) rfl rfl ⟨(blk_cell BK224.out 0).trans rfl, (blk_cell BK224.out 1).trans rfl, (blk_cell BK224.out 2).trans rfl, (blk_cell BK224.out 3).trans rfl, (blk_cell BK224.out 4).trans rfl, (blk_cell BK224.out 5).trans rfl, (blk_cell BK224.out 6).trans rfl, hx241_0⟩ (fun hHeld => ?_)
          generalize w36.drew = w37 at HO_8 HO_9 BK224 HB HL241_0 HR241_0 hx241_0 hHeld ⊢
          refine pure_ (i := 1) (N := some 50) (v := ?_) (a' := ?_) #[false, true, false, false, false, false, false] rfl rfl (by kernel_rfl) (fun _ _ _ h => h) (Or.inl ⟨by rfl, ?_⟩) ?_ ?_
          rotate_left
          ·intro w'
           go_simp
           with_reducible rfl
          rotate_left
          ·simp only [Act.put, List.setIfInBounds_toArray, List.set_cons_zero, List.set_cons_succ, i64_w, i32_w]
           rfl
          refine pure_ (i := 2) (N := some 51) (v := ?_) (a' := ?_) #[false, true, true, false, false, false, false] rfl rfl (by kernel_rfl) (fun _ _ _ h => h) (Or.inl ⟨by rfl, ?_⟩) ?_ ?_
          rotate_left
          ·intro w'
           go_simp
           with_reducible rfl
          rotate_left
          ·simp only [Act.put, List.setIfInBounds_toArray, List.set_cons_zero, List.set_cons_succ, i64_w, i32_w]
           rfl
          refine take_ (i := 0) (N := some 49) (v := ?_) (a' := ?_) #[true, true, true, false, false, false, false] rfl rfl (by kernel_rfl) (fun _ _ _ h => h) (Or.inl ⟨by rfl, ?_⟩) hHeld ?_ ?_
          rotate_left
          ·rintro w' ⟨s0, s1, s2, s3, s4, s5, s6, s7⟩
           go_simp
           with_reducible rfl
          rotate_left
          ·simp only [Act.put, List.setIfInBounds_toArray, List.set_cons_zero, List.set_cons_succ, i64_w, i32_w]
           rfl
          refine take_ (i := 3) (N := some 52) (v := ?_) (a' := ?_) #[true, true, true, true, false, false, false] rfl rfl (by kernel_rfl) (fun _ _ _ h => h) (Or.inl ⟨by rfl, ?_⟩) hHeld ?_ ?_
          rotate_left
          ·rintro w' ⟨s0, s1, s2, s3, s4, s5, s6, s7⟩
           go_simp
           with_reducible rfl
          rotate_left
          ·simp only [Act.put, List.setIfInBounds_toArray, List.set_cons_zero, List.set_cons_succ, i64_w, i32_w]
           rfl
          refine one_ (i := 4) (N := some 53) #[true, true, true, true, true, false, false] rfl rfl (by kernel_rfl) (by decide) (fun K hK => ?_)
          refine Kd.N_lit_step (Kd.slice 48 k48) _ 25 ?hg (N' := 53) ?hd (xs := ([rd_L4 x9_1 0] : List (List (S48)))) (inner := [.slice A241_0 (rd_L4 x9_1 0).length c241_0]) (ok := (fun k_ => some k_ ≠ (.slice Ao33 t225.length co33 : Value).ownBlock ∧ some k_ ≠ (.slice (some ad241) x9_1.length co35 : Value).ownBlock ∧ k_ ≠ gb224)) (okp := (fun k_ => some k_ ≠ (.slice Ao33 t225.length co33 : Value).ownBlock ∧ some k_ ≠ (.slice (some ad241) x9_1.length co35 : Value).ownBlock ∧ k_ ≠ gb224)) ?hr ?hp (fun _ hk => hk) ((show ∀ k_, w37.heap.size ≤ k_ → (fun k_ => some k_ ≠ (.slice Ao33 t225.length co33 : Value).ownBlock ∧ some k_ ≠ (.slice (some ad241) x9_1.length co35 : Value).ownBlock ∧ k_ ≠ gb224) k_ from fun k_ hk => ⟨Kd.fresh' (Kd.R_lt (ra0 HO_8.out)) k_ hk, Kd.fresh' (Kd.N_lt (by (with_reducible repeat (first | apply Kd.N_alloc | apply Kd.N_drewN | apply Kd.N_drew)); exact HO_9.out)) k_ hk, Kd.freshB (g := gb224) (o := .cells #[.int .i64 ((rd_T48 l0 a1).f0), .int .i64 0, .int .i64 0, .int .i64 0, .int .i64 ((rd_T48 l0 a1).f4), .string ((rd_T48 l0 a1).f5), .string ((rd_T48 l0 a1).f6)] 48 (0, 0)) (bk0 BK224.out) k_ hk⟩) _ (Nat.le_refl _)) (Below.refl _ _) (Nat.le_refl _) (by simp) ?_; (case hd => rfl); (case hg => rfl); (case hr => first | (go_simp; done) | (go_simp; rfl)); (case hp => exact (Reps.one (show Kd.FK (Kd.slice 48 k48) _ _ (rd_L4 x9_1 0) [.slice A241_0 (rd_L4 x9_1 0).length c241_0] from (Kd.FK_slice_mk (Kd.V_reads' (Kd.V_mono (ok' := (fun k_ => some k_ ≠ (.slice Ao33 t225.length co33 : Value).ownBlock ∧ some k_ ≠ (.slice (some ad241) x9_1.length co35 : Value).ownBlock ∧ k_ ≠ gb224)) (HL241_0.out) (fun k_ hk => ⟨hk.1.1, ⟨hk.2, hk.1.2⟩⟩))).2.1 (Kd.V_F (Kd.V_mono (ok' := (fun k_ => some k_ ≠ (.slice Ao33 t225.length co33 : Value).ownBlock ∧ some k_ ≠ (.slice (some ad241) x9_1.length co35 : Value).ownBlock ∧ k_ ≠ gb224)) (HL241_0.out) (fun k_ hk => ⟨hk.1.1, ⟨hk.2, hk.1.2⟩⟩))))) (Reps.none _ _)))
          intro v243 w38 ho39 hb hg_ hnew_
          have HS7_ := (hb.cell (World.block_lt_of_cell? _ _ (hHeld.2.2.2.2.2.2.2))).trans (hHeld.2.2.2.2.2.2.2)
          clear hg_ hnew_
          (first | rw [← Ny242.out] at ho39 | (simp only [Int.reduceToNat] at ho39; rw [← Ny242.out] at ho39))
          have n0_ := Aside0.mk (Kd.R_below (ra0 HO_8.out) hb)
          have n1_ := Aside0.mk (Kd.N_elder' (by (with_reducible repeat (first | apply Kd.N_alloc | apply Kd.N_drewN | apply Kd.N_drew)); exact HO_9.out) (Kd.N_base ho39) hb)
          have n2_ := Aside0.mk (Kd.V_elder' (by (with_reducible repeat (first | apply Kd.V_alloc | apply Kd.V_drewN | apply Kd.V_drew)); exact HL241_0.out) (Kd.N_base ho39) hb)
          have n3_ := Aside0.mk (Kd.N_lower ho39 (below_size (bb1 GE224.out)))
          have n4_ := Aside0.mk (blk_below (g := gb224) (o := .cells #[.int .i64 ((rd_T48 l0 a1).f0), .int .i64 0, .int .i64 0, .int .i64 0, .int .i64 ((rd_T48 l0 a1).f4), .string ((rd_T48 l0 a1).f5), .string ((rd_T48 l0 a1).f6)] 48 (0, 0)) (bk0 BK224.out) hb)
          have n5_ := Aside0.mk (Kd.C_below (by repeat (first | (with_reducible exact HR241_0.out) | (with_reducible refine Kd.C_alloc ?_ _) | (with_reducible refine Kd.C_drewN ?_ _) | (with_reducible refine Kd.C_drew ?_) | exact HR241_0.out)) hb)
          have n6_ := Aside0.mk (below_step (bb1 GE224.out) hb)
          clear HO_8
          clear HO_9
          clear HL241_0
          clear BK224
          clear HR241_0
          clear HB
          have HO_8 := n0_
          have HO_9 := n1_
          have HL241_0 := n2_
          have HO244 := n3_
          have BK224 := n4_
          have HR241_0 := n5_
          have HB := n6_
          clear n0_ n1_ n2_ n3_ n4_ n5_ n6_
          clear hb ho39
          obtain ⟨Ao40, co40, eo40⟩ := Kd.N_slice HO244.out
          (first | subst eo40 | (injection eo40 with f1_ f2_ f3_; have f4_ := f1_.symm; have f5_ := f3_.symm; clear f1_ f2_ f3_; subst f4_; subst f5_))
          refine hK.out _ _ ⟨(blk_cell BK224.out 0).trans rfl, (blk_cell BK224.out 1).trans rfl, (blk_cell BK224.out 2).trans rfl, (blk_cell BK224.out 3).trans rfl, (blk_cell BK224.out 4).trans rfl, (blk_cell BK224.out 5).trans rfl, (blk_cell BK224.out 6).trans rfl, HS7_⟩ (fun hHeld => ?_)
          clear hK K
          refine norm_ (a' := ?_) ?_ ?_
          rotate_left
          ·show Act.put _ (some 53) _ = _
           simp only [Act.put, List.setIfInBounds_toArray, List.set_cons_zero, List.set_cons_succ, i64_w, i32_w]
           rfl
          refine one_ (i := 5) (N := some 54) #[true, true, true, true, true, true, false] rfl rfl (by kernel_rfl) (by decide) (fun K hK => ?_)
          refine goes_ Tryd.func50 (by kernel_rfl) rfl #[.agg #[.int .i64 ((rd_T48 l0 a1).f0), .int .i64 0, .int .i64 0, .int .i64 0, .int .i64 ((rd_T48 l0 a1).f4), .string ((rd_T48 l0 a1).f5), .string ((rd_T48 l0 a1).f6)], .slice Ao40 y242.length co40] (by rfl) rfl rfl mm0 ?_
          with_reducible refine (spec_l3Make.calls k1 ((rd_T48 l0 a1).f0) 0 0 0 ((rd_T48 l0 a1).f4) ((rd_T48 l0 a1).f5) ((rd_T48 l0 a1).f6) _ _ y242 t245 _ ?side1 ?side2 A32.out).mono ?_
          (case side1 => exact cc0 (Kd.N_reads' HO244.out).2.2)
          (case side2 => exact (Kd.N_reads' HO244.out).2.1)
          rintro e w41 ⟨v246, rfl, ho0, hb⟩
          have HS7_ := (hb.cell (World.block_lt_of_cell? _ _ (hHeld.2.2.2.2.2.2.2))).trans (hHeld.2.2.2.2.2.2.2)
          refine ⟨_, rfl, ?_⟩
          have n0_ := Aside0.mk (Kd.R_below (ra0 HO_8.out) hb)
          have n1_ := Aside0.mk (Kd.N_elder' (by (with_reducible repeat (first | apply Kd.N_alloc | apply Kd.N_drewN | apply Kd.N_drew)); exact HO_9.out) (Kd.R_base ho0) hb)
          have n2_ := Aside0.mk (Kd.V_elder' (by (with_reducible repeat (first | apply Kd.V_alloc | apply Kd.V_drewN | apply Kd.V_drew)); exact HL241_0.out) (Kd.R_base ho0) hb)
          have n3_ := Aside0.mk (Kd.N_elder' (by (with_reducible repeat (first | apply Kd.N_alloc | apply Kd.N_drewN | apply Kd.N_drew)); exact HO244.out) (Kd.R_base ho0) hb)
          have n4_ := Aside0.mk (Kd.R_lower (Kd.R_newB ho0 (g := gb224) (o := .cells #[.int .i64 ((rd_T48 l0 a1).f0), .int .i64 0, .int .i64 0, .int .i64 0, .int .i64 ((rd_T48 l0 a1).f4), .string ((rd_T48 l0 a1).f5), .string ((rd_T48 l0 a1).f6)] 48 (0, 0)) (bk0 BK224.out)) (below_size (bb1 GE224.out)))
          have n5_ := Aside0.mk (blk_below (g := gb224) (o := .cells #[.int .i64 ((rd_T48 l0 a1).f0), .int .i64 0, .int .i64 0, .int .i64 0, .int .i64 ((rd_T48 l0 a1).f4), .string ((rd_T48 l0 a1).f5), .string ((rd_T48 l0 a1).f6)] 48 (0, 0)) (bk0 BK224.out) hb)
          have n6_ := Aside0.mk (Kd.C_below (by repeat (first | (with_reducible exact HR241_0.out) | (with_reducible refine Kd.C_alloc ?_ _) | (with_reducible refine Kd.C_drewN ?_ _) | (with_reducible refine Kd.C_drew ?_) | exact HR241_0.out)) hb)
          have n7_ := Aside0.mk (below_step (bb1 GE224.out) hb)
          clear HO_8
          clear HO_9
          clear HL241_0
          clear HO244
          clear BK224
          clear HR241_0
          clear HB
          have HO_8 := n0_
          have HO_9 := n1_
          have HL241_0 := n2_
          have HO244 := n3_
          have HO247 := n4_
          have BK224 := n5_
          have HR241_0 := n6_
          have HB := n7_
          clear n0_ n1_ n2_ n3_ n4_ n5_ n6_ n7_
          (try clear hb)
          (try clear hb2)
          (try clear hk)
          (try clear hi)
          (try clear ho0)
          refine hK.out _ _ ⟨(blk_cell BK224.out 0).trans rfl, (blk_cell BK224.out 1).trans rfl, (blk_cell BK224.out 2).trans rfl, (blk_cell BK224.out 3).trans rfl, (blk_cell BK224.out 4).trans rfl, (blk_cell BK224.out 5).trans rfl, (blk_cell BK224.out 6).trans rfl, HS7_⟩ (fun hHeld => ?_)
          clear hK K
          refine norm_ (a' := ?_) ?_ ?_
          rotate_left
          ·show Act.put _ (some 54) _ = _
           simp only [Act.put, List.setIfInBounds_toArray, List.set_cons_zero, List.set_cons_succ, i64_w, i32_w]
           rfl
          refine pure_ (i := 6) (N := some 6) (v := ?_) (a' := ?_) #[true, true, true, true, true, true, true] rfl rfl (by kernel_rfl) (fun _ _ _ h => h) (Or.inl ⟨by rfl, ?_⟩) ?_ ?_
          rotate_left
          ·intro w'
           go_simp
           with_reducible rfl
          rotate_left
          ·simp only [Act.put, List.setIfInBounds_toArray, List.set_cons_zero, List.set_cons_succ, i64_w, i32_w]
           rfl
          refine done_ (by kernel_rfl) ?_
          try go_wp2
          go_ret
          exact ⟨_, er0, by refine ra0 ?_; exact Kd.R_mono HO247.out (fun _ hk => trivial), bb1 GE224.out⟩
         ·rw [if_neg c31] at H
          exact absurd H (by simp)
        ·rw [if_neg c30] at H
         have c30b0 : ((x9_1.length : Int) == 1) = false := beq_eq_false_iff_ne.mpr c30
         have c30b1 : ((x9_1.length : Int) != 1) = true := bne_iff_ne.mpr c30
         by_cases c42 : (x9_1.length : Int) = 2
         ·rw [if_pos c42] at H
          have c42b0 : ((x9_1.length : Int) == 2) = true := beq_iff_eq.mpr c42
          have c42b1 : ((x9_1.length : Int) != 2) = false := bne_eq_false_iff_eq.mpr c42
          clear c42
          by_cases c43 : 0 < (x9_1.length : Int)
          ·rw [if_pos c43] at H
           have c43b0 : decide (0 < (x9_1.length : Int)) = true := decide_eq_true c43
           have c43b1 : decide (0 < x9_1.length) = true := decide_eq_true (by omega)
           clear c43
           by_cases c44 : 1 < (x9_1.length : Int)
           ·rw [if_pos c44] at H
            have c44b0 : decide (1 < (x9_1.length : Int)) = true := decide_eq_true c44
            have c44b1 : decide (1 < x9_1.length) = true := decide_eq_true (by omega)
            clear c44
            obtain ⟨y250, hy250⟩ : ∃ y_ : List (List (S48)), y_ = (([rd_L4 x9_1 0, rd_L4 x9_1 1] : List (List (S48)))) := ⟨_, rfl⟩
            replace H : ((spec_l3Make.f k1 ((rd_T48 l0 a1).f0) 0 0 0 ((rd_T48 l0 a1).f4) ((rd_T48 l0 a1).f5) ((rd_T48 l0 a1).f6) y250).bind fun t253 => (some t253)) = some r := by first | (rw [hy250]; with_reducible exact H) | (have H2_ := (Option.bind_some _ _).symm.trans H; rw [hy250]; with_reducible exact H2_) | (have H2_ := (Option.bind_some _ _).symm.trans H; with_reducible exact H2_) | with_reducible exact H | (rw [hy250]; exact H) | exact H
            have Ny250 := Aside0.mk hy250
            clear hy250
            replace H := Option.bind_eq_some_iff.mp H
            obtain ⟨t253, A450, H⟩ := H
            replace H : (some t253) = some r := H
            have A45 := Aside0.mk A450
            clear A450
            obtain rfl := Option.some.inj H
            obtain ⟨Ao46, co46, eo46⟩ := Kd.R_slice HO_8.out
            subst eo46
            obtain ⟨hcz47_0, hcz47_1, hcz47_2, hcz47_3, hcz47_4, hcz47_5, hcz47_6⟩ := cells7 BK224.out
            obtain ⟨hfz47_0, hfz47_1, hfz47_2, hfz47_3, hfz47_4, hfz47_5, hfz47_6⟩ := frz7 BK224.out
            obtain ⟨Ao48, co48, eo48⟩ := Kd.N_slice HO_9.out
            subst eo48
            try go_wp2
            have n0_ : Aside0 (Kd.R (Kd.int .i64) 3 (((wr.setCell ⟨gb224, 1, none⟩ (.int .i64 0)).setCell ⟨gb224, 2, none⟩ (.int .i64 0)).setCell ⟨gb224, 3, none⟩ (.int .i64 0)) w.heap.size (fun _ => True) (.slice Ao46 t225.length co46) t225) := ⟨by (try simp only [setCell_drewN]); refine ra0 ?_; exact Kd.R_mono (Kd.R_far (p := ⟨gb224, 3, none⟩) (Kd.R_far (p := ⟨gb224, 2, none⟩) (Kd.R_far (p := ⟨gb224, 1, none⟩) (Kd.R_types HO_8.out BK224.out (by decide)) (fun _ hk => hk.2) (.int .i64 0)) (fun _ hk => hk.2) (.int .i64 0)) (fun _ hk => hk.2) (.int .i64 0)) (fun _ hk => trivial)⟩
            have n1_ : Aside0 (Kd.N (Kd.slice 48 k48) 25 (((wr.setCell ⟨gb224, 1, none⟩ (.int .i64 0)).setCell ⟨gb224, 2, none⟩ (.int .i64 0)).setCell ⟨gb224, 3, none⟩ (.int .i64 0)) w.heap.size (fun k_ => some k_ ≠ (.slice Ao46 t225.length co46 : Value).ownBlock ∧ k_ ≠ gb224) (.slice Ao48 x9_1.length co48) x9_1) := ⟨by (with_reducible repeat (first | apply Kd.N_alloc | apply Kd.N_drewN | apply Kd.N_drew)); exact Kd.N_mono (Kd.N_far (p := ⟨gb224, 3, none⟩) (Kd.N_far (p := ⟨gb224, 2, none⟩) (Kd.N_far (p := ⟨gb224, 1, none⟩) (Kd.N_mono HO_9.out (fun k_ hk => (⟨hk, hk.2⟩ : _ ∧ k_ ≠ gb224))) (fun _ hk => hk.2) (.int .i64 0)) (fun _ hk => hk.2) (.int .i64 0)) (fun _ hk => hk.2) (.int .i64 0)) (fun _ hk => ⟨hk.1.1, hk.1.2⟩)⟩
            have n2_ : Aside0 ((((wr.setCell ⟨gb224, 1, none⟩ (.int .i64 0)).setCell ⟨gb224, 2, none⟩ (.int .i64 0)).setCell ⟨gb224, 3, none⟩ (.int .i64 0)).heap[gb224]? = some (.cells #[.int .i64 ((rd_T48 l0 a1).f0), .int .i64 0, .int .i64 0, .int .i64 0, .int .i64 ((rd_T48 l0 a1).f4), .string ((rd_T48 l0 a1).f5), .string ((rd_T48 l0 a1).f6)] 48 (0, 0))) := ⟨by refine bk0 ?_; refine blk_put (cs := #[.int .i64 ((rd_T48 l0 a1).f0), .int .i64 0, .int .i64 0, .int .i64 ((rd_T48 l0 a1).f3), .int .i64 ((rd_T48 l0 a1).f4), .string ((rd_T48 l0 a1).f5), .string ((rd_T48 l0 a1).f6)]) ?_ 3 _ rfl; refine bk0 ?_; refine blk_put (cs := #[.int .i64 ((rd_T48 l0 a1).f0), .int .i64 0, .int .i64 ((rd_T48 l0 a1).f2), .int .i64 ((rd_T48 l0 a1).f3), .int .i64 ((rd_T48 l0 a1).f4), .string ((rd_T48 l0 a1).f5), .string ((rd_T48 l0 a1).f6)]) ?_ 2 _ rfl; refine bk0 ?_; refine blk_put (cs := #[.int .i64 ((rd_T48 l0 a1).f0), .int .i64 ((rd_T48 l0 a1).f1), .int .i64 ((rd_T48 l0 a1).f2), .int .i64 ((rd_T48 l0 a1).f3), .int .i64 ((rd_T48 l0 a1).f4), .string ((rd_T48 l0 a1).f5), .string ((rd_T48 l0 a1).f6)]) ?_ 1 _ rfl; refine bk0 ?_; exact BK224.out⟩
            have n3_ : Aside0 (Below w.heap.size w (((wr.setCell ⟨gb224, 1, none⟩ (.int .i64 0)).setCell ⟨gb224, 2, none⟩ (.int .i64 0)).setCell ⟨gb224, 3, none⟩ (.int .i64 0))) := ⟨bb1 GE224.out⟩
            (try clear HO_8)
            (try clear HO_9)
            (try clear BK224)
            (try clear HB)
            generalize (((wr.setCell ⟨gb224, 1, none⟩ (.int .i64 0)).setCell ⟨gb224, 2, none⟩ (.int .i64 0)).setCell ⟨gb224, 3, none⟩ (.int .i64 0)) = w49 at n0_ n1_ n2_ n3_ ⊢
            have HO_8 := n0_
            have HO_9 := n1_
            have BK224 := n2_
            have HB := n3_
            clear n0_ n1_ n2_ n3_
            have n0_ := Aside0.mk (Kd.R_drew HO_8.out)
            have n1_ := Aside0.mk (Kd.N_drew HO_9.out)
            have n2_ := Aside0.mk (blk_drew BK224.out)
            have n3_ := Aside0.mk (below_drew1 HB.out)
            clear HO_8
            clear HO_9
            clear BK224
            clear HB
            have HO_8 := n0_
            have HO_9 := n1_
            have BK224 := n2_
            have HB := n3_
            clear n0_ n1_ n2_ n3_
            have p248 : 0 ≤ (0 : Int) := (by omega)
            have q248 : 0 < (x9_1.length : Int) := of_decide_eq_true as0
            obtain ⟨ad248, A248_0, c248_0, e248, hx248_0, hl248_0, hi248_0⟩ := at_L4 (Kd.N_reads' HO_9.out).2.2 0 p248 q248
            cases e248
            obtain ⟨ce248, hce248, hMe248, hcc248⟩ := Kd.N_get HO_9.out [] 0 p248 (by first | exact q248 | exact of_decide_eq_true as0 | (have e_ := (Kd.N_reads' HO_9.out).1; omega))
            obtain ⟨ua248_0, uc248_0, rfl, ul248_0, ge248_0⟩ := Kd.FK_slice_open hMe248
            have hv248_0 := hcc248 0 _ rfl
            rw [Nat.add_zero, show ((Kd.slice 48 k48)).sz = 1 from rfl, Nat.mul_one] at hv248_0
            replace hv248_0 := Option.some.inj (hv248_0.symm.trans hx248_0)
            injection hv248_0 with hva_ hvn_ hvc_
            rw [hva_] at ge248_0
            rw [hvc_] at ul248_0
            have HL248_0 := Aside0.mk (show Kd.V k48 48 _ w.heap.size _ _ (rd_L4 x9_1 0) from Kd.V_mk ul248_0 ge248_0)
            clear hva_ hvn_ hvc_ ge248_0 ul248_0
            clear hcc248 hce248
            have qi248 : (0 < x9_1.length) = True := eq_true (by omega)
            (try rw [show ((0 : Int)).toNat = 0 from rfl] at hx248_0)
            (try rw [Addr.add_zero'] at hx248_0)
            have HR248_0 := Aside0.mk hi248_0
            have HC248_0 := Aside0.mk hl248_0
            clear hi248_0 hl248_0
            replace p248 := eq_true p248
            replace q248 := eq_true q248
            have p249 : 0 ≤ (1 : Int) := (by omega)
            have q249 : 1 < (x9_1.length : Int) := of_decide_eq_true as0
            obtain ⟨ad249, A249_0, c249_0, e249, hx249_0, hl249_0, hi249_0⟩ := at_L4 (Kd.N_reads' HO_9.out).2.2 1 p249 q249
            obtain rfl : ad248 = ad249 := (by injection e249)
            obtain ⟨ce249, hce249, hMe249, hcc249⟩ := Kd.N_get HO_9.out [] 1 p249 (by first | exact q249 | exact of_decide_eq_true as0 | (have e_ := (Kd.N_reads' HO_9.out).1; omega))
            obtain ⟨ua249_0, uc249_0, rfl, ul249_0, ge249_0⟩ := Kd.FK_slice_open hMe249
            have hv249_0 := hcc249 0 _ rfl
            rw [Nat.add_zero, show ((Kd.slice 48 k48)).sz = 1 from rfl, Nat.mul_one] at hv249_0
            replace hv249_0 := Option.some.inj (hv249_0.symm.trans hx249_0)
            injection hv249_0 with hva_ hvn_ hvc_
            rw [hva_] at ge249_0
            rw [hvc_] at ul249_0
            have HL249_0 := Aside0.mk (show Kd.V k48 48 _ w.heap.size _ _ (rd_L4 x9_1 1) from Kd.V_mk ul249_0 ge249_0)
            clear hva_ hvn_ hvc_ ge249_0 ul249_0
            clear hcc249 hce249
            (try simp only [show (1 : Int).toNat = 1 from rfl, Nat.reduceMul, Nat.reduceEqDiff, Go.Addr.add, ↓reduceIte] at hx249_0)
            have qi249 : (1 < x9_1.length) = True := eq_true (by omega)
            (try rw [show ((1 : Int)).toNat = 1 from rfl] at hx249_0)
            have HR249_0 := Aside0.mk hi249_0
            have HC249_0 := Aside0.mk hl249_0
            clear hi249_0 hl249_0
            replace p249 := eq_true p249
            replace q249 := eq_true q249
            refine start_ (n := 10) (S := fun w' => w'.cell? ⟨gb224, 0, none⟩ = some (.int .i64 ((rd_T48 l0 a1).f0)) ∧ w'.cell? ⟨gb224, 1, none⟩ = some (.int .i64 0) ∧ w'.cell? ⟨gb224, 2, none⟩ = some (.int .i64 0) ∧ w'.cell? ⟨gb224, 3, none⟩ = some (.int .i64 0) ∧ w'.cell? ⟨gb224, 4, none⟩ = some (.int .i64 ((rd_T48 l0 a1).f4)) ∧ w'.cell? ⟨gb224, 5, none⟩ = some (.string ((rd_T48 l0 a1).f5)) ∧ w'.cell? ⟨gb224, 6, none⟩ = some (.string ((rd_T48 l0 a1).f6)) ∧ w'.cell? ad248 = some (.slice A248_0 (rd_L4 x9_1 0).length c248_0) ∧ w'.cell? ⟨ad248.block, ad248.off + 1, none⟩ = some (.slice A249_0 (rd_L4 x9_1 1).length c249_0)) (ds := []) #[false, false, false, false, false, false, false, false, false, false] (by kernel_rfl) rfl rfl ⟨(blk_cell BK224.out 0).trans rfl, (blk_cell BK224.out 1).trans rfl, (blk_cell BK224.out 2).trans rfl, (blk_cell BK224.out 3).trans rfl, (blk_cell BK224.out 4).trans rfl, (blk_cell BK224.out 5).trans rfl, (blk_cell BK224.out 6).trans rfl, hx248_0, hx249_0⟩ (fun hHeld => ?_); refine with_tabW spec_l22Part.tab19 spec_l22Part.bits19 (fun HT_ HW_ => ?_)
            generalize w49.drew = w50 at HO_8 HO_9 BK224 HB HL248_0 HL249_0 HR248_0 HR249_0 hx248_0 hx249_0 hHeld ⊢
            refine pure_ (i := 1) (N := some 58) (v := ?_) (a' := ?_) #[false, true, false, false, false, false, false, false, false, false] rfl rfl (any_of HT_.out (by kernel_rfl)) (fun _ _ _ h => h) (Or.inl ⟨by rfl, ?_⟩) ?_ ?_
            rotate_left
            ·intro w'
             go_simp
             with_reducible rfl
            rotate_left
            ·simp only [Act.put, List.setIfInBounds_toArray, List.set_cons_zero, List.set_cons_succ, i64_w, i32_w]
             rfl
            refine pure_ (i := 2) (N := some 59) (v := ?_) (a' := ?_) #[false, true, true, false, false, false, false, false, false, false] rfl rfl (any_of HT_.out (by kernel_rfl)) (fun _ _ _ h => h) (Or.inl ⟨by rfl, ?_⟩) ?_ ?_
            rotate_left
            ·intro w'
             go_simp
             with_reducible rfl
            rotate_left
            ·simp only [Act.put, List.setIfInBounds_toArray, List.set_cons_zero, List.set_cons_succ, i64_w, i32_w]
             rfl
            refine pure_ (i := 4) (N := some 61) (v := ?_) (a' := ?_) #[false, true, true, false, true, false, false, false, false, false] rfl rfl (any_of HT_.out (by kernel_rfl)) (fun _ _ _ h => h) (Or.inl ⟨by rfl, ?_⟩) ?_ ?_
            rotate_left
            ·intro w'
             go_simp
             with_reducible rfl
            rotate_left
            ·simp only [Act.put, List.setIfInBounds_toArray, List.set_cons_zero, List.set_cons_succ, i64_w, i32_w]
             rfl
            refine pure_ (i := 5) (N := some 62) (v := ?_) (a' := ?_) #[false, true, true, false, true, true, false, false, false, false] rfl rfl (any_of HT_.out (by kernel_rfl)) (fun _ _ _ h => h) (Or.inl ⟨by rfl, ?_⟩) ?_ ?_
            rotate_left
            ·intro w'
             go_simp
             with_reducible rfl
            rotate_left
            ·simp only [Act.put, List.setIfInBounds_toArray, List.set_cons_zero, List.set_cons_succ, i64_w, i32_w]
             rfl
            refine take_ (i := 0) (N := some 57) (v := ?_) (a' := ?_) #[true, true, true, false, true, true, false, false, false, false] rfl rfl (take_ofW HT_.out HW_.out (by kernel_rfl)) (fun _ _ _ h => h) (Or.inl ⟨by rfl, ?_⟩) hHeld ?_ ?_
            rotate_left
            ·rintro w' ⟨s0, s1, s2, s3, s4, s5, s6, s7, s8⟩
             go_simp
             with_reducible rfl
            rotate_left
            ·simp only [Act.put, List.setIfInBounds_toArray, List.set_cons_zero, List.set_cons_succ, i64_w, i32_w]
             rfl
            refine take_ (i := 3) (N := some 60) (v := ?_) (a' := ?_) #[true, true, true, true, true, true, false, false, false, false] rfl rfl (take_ofW HT_.out HW_.out (by kernel_rfl)) (fun _ _ _ h => h) (Or.inl ⟨by rfl, ?_⟩) hHeld ?_ ?_
            rotate_left
            ·rintro w' ⟨s0, s1, s2, s3, s4, s5, s6, s7, s8⟩
             go_simp
             with_reducible rfl
            rotate_left
            ·simp only [Act.put, List.setIfInBounds_toArray, List.set_cons_zero, List.set_cons_succ, i64_w, i32_w]
             rfl
            refine take_ (i := 6) (N := some 63) (v := ?_) (a' := ?_) #[true, true, true, true, true, true, true, false, false, false] rfl rfl (take_ofW HT_.out HW_.out (by kernel_rfl)) (fun _ _ _ h => h) (Or.inl ⟨by rfl, ?_⟩) hHeld ?_ ?_
            rotate_left
            ·rintro w' ⟨s0, s1, s2, s3, s4, s5, s6, s7, s8⟩
             go_simp
             with_reducible rfl
            rotate_left
            ·simp only [Act.put, List.setIfInBounds_toArray, List.set_cons_zero, List.set_cons_succ, i64_w, i32_w]
             rfl
            refine one_ (i := 7) (N := some 64) #[true, true, true, true, true, true, true, true, false, false] rfl rfl (one_of HT_.out (by kernel_rfl)) (by decide) (fun K hK => ?_)
            refine Kd.N_lit_step (Kd.slice 48 k48) _ 25 ?hg (N' := 64) ?hd (xs := ([rd_L4 x9_1 0, rd_L4 x9_1 1] : List (List (S48)))) (inner := [.slice A248_0 (rd_L4 x9_1 0).length c248_0, .slice A249_0 (rd_L4 x9_1 1).length c249_0]) (ok := (fun k_ => some k_ ≠ (.slice Ao46 t225.length co46 : Value).ownBlock ∧ some k_ ≠ (.slice (some ad248) x9_1.length co48 : Value).ownBlock ∧ k_ ≠ gb224)) (okp := (fun k_ => some k_ ≠ (.slice Ao46 t225.length co46 : Value).ownBlock ∧ some k_ ≠ (.slice (some ad248) x9_1.length co48 : Value).ownBlock ∧ k_ ≠ gb224)) ?hr ?hp (fun _ hk => hk) ((show ∀ k_, w50.heap.size ≤ k_ → (fun k_ => some k_ ≠ (.slice Ao46 t225.length co46 : Value).ownBlock ∧ some k_ ≠ (.slice (some ad248) x9_1.length co48 : Value).ownBlock ∧ k_ ≠ gb224) k_ from fun k_ hk => ⟨Kd.fresh' (Kd.R_lt (ra0 HO_8.out)) k_ hk, Kd.fresh' (Kd.N_lt (by (with_reducible repeat (first | apply Kd.N_alloc | apply Kd.N_drewN | apply Kd.N_drew)); exact HO_9.out)) k_ hk, Kd.freshB (g := gb224) (o := .cells #[.int .i64 ((rd_T48 l0 a1).f0), .int .i64 0, .int .i64 0, .int .i64 0, .int .i64 ((rd_T48 l0 a1).f4), .string ((rd_T48 l0 a1).f5), .string ((rd_T48 l0 a1).f6)] 48 (0, 0)) (bk0 BK224.out) k_ hk⟩) _ (Nat.le_refl _)) (Below.refl _ _) (Nat.le_refl _) (by simp) ?_; (case hd => rfl); (case hg => rfl); (case hr => first | (go_simp; done) | (go_simp; rfl)); (case hp => exact (Reps.one (show Kd.FK (Kd.slice 48 k48) _ _ (rd_L4 x9_1 0) [.slice A248_0 (rd_L4 x9_1 0).length c248_0] from (Kd.FK_slice_mk (Kd.V_reads' (Kd.V_mono (ok' := (fun k_ => some k_ ≠ (.slice Ao46 t225.length co46 : Value).ownBlock ∧ some k_ ≠ (.slice (some ad248) x9_1.length co48 : Value).ownBlock ∧ k_ ≠ gb224)) (HL248_0.out) (fun k_ hk => ⟨hk.1.1, ⟨hk.2, hk.1.2⟩⟩))).2.1 (Kd.V_F (Kd.V_mono (ok' := (fun k_ => some k_ ≠ (.slice Ao46 t225.length co46 : Value).ownBlock ∧ some k_ ≠ (.slice (some ad248) x9_1.length co48 : Value).ownBlock ∧ k_ ≠ gb224)) (HL248_0.out) (fun k_ hk => ⟨hk.1.1, ⟨hk.2, hk.1.2⟩⟩))))) (Reps.one (show Kd.FK (Kd.slice 48 k48) _ _ (rd_L4 x9_1 1) [.slice A249_0 (rd_L4 x9_1 1).length c249_0] from (Kd.FK_slice_mk (Kd.V_reads' (Kd.V_mono (ok' := (fun k_ => some k_ ≠ (.slice Ao46 t225.length co46 : Value).ownBlock ∧ some k_ ≠ (.slice (some ad248) x9_1.length co48 : Value).ownBlock ∧ k_ ≠ gb224)) (HL249_0.out) (fun k_ hk => ⟨hk.1.1, ⟨hk.2, hk.1.2⟩⟩))).2.1 (Kd.V_F (Kd.V_mono (ok' := (fun k_ => some k_ ≠ (.slice Ao46 t225.length co46 : Value).ownBlock ∧ some k_ ≠ (.slice (some ad248) x9_1.length co48 : Value).ownBlock ∧ k_ ≠ gb224)) (HL249_0.out) (fun k_ hk => ⟨hk.1.1, ⟨hk.2, hk.1.2⟩⟩))))) (Reps.none _ _))))
            intro v251 w51 ho52 hb hg_ hnew_
            have HS7_ := (hb.cell (World.block_lt_of_cell? _ _ (hHeld.2.2.2.2.2.2.2.1))).trans (hHeld.2.2.2.2.2.2.2.1)
            have HS8_ := (hb.cell (World.block_lt_of_cell? _ _ (hHeld.2.2.2.2.2.2.2.2))).trans (hHeld.2.2.2.2.2.2.2.2)
            clear hg_ hnew_
            (first | rw [← Ny250.out] at ho52 | (simp only [Int.reduceToNat] at ho52; rw [← Ny250.out] at ho52))
            have n0_ := Aside0.mk (Kd.R_below (ra0 HO_8.out) hb)
            have n1_ := Aside0.mk (Kd.N_elder' (by (with_reducible repeat (first | apply Kd.N_alloc | apply Kd.N_drewN | apply Kd.N_drew)); exact HO_9.out) (Kd.N_base ho52) hb)
            have n2_ := Aside0.mk (Kd.V_elder' (by (with_reducible repeat (first | apply Kd.V_alloc | apply Kd.V_drewN | apply Kd.V_drew)); exact HL248_0.out) (Kd.N_base ho52) hb)
            have n3_ := Aside0.mk (Kd.V_elder' (by (with_reducible repeat (first | apply Kd.V_alloc | apply Kd.V_drewN | apply Kd.V_drew)); exact HL249_0.out) (Kd.N_base ho52) hb)
            have n4_ := Aside0.mk (Kd.N_lower ho52 (below_size (bb1 GE224.out)))
            have n5_ := Aside0.mk (blk_below (g := gb224) (o := .cells #[.int .i64 ((rd_T48 l0 a1).f0), .int .i64 0, .int .i64 0, .int .i64 0, .int .i64 ((rd_T48 l0 a1).f4), .string ((rd_T48 l0 a1).f5), .string ((rd_T48 l0 a1).f6)] 48 (0, 0)) (bk0 BK224.out) hb)
            have n6_ := Aside0.mk (Kd.C_below (by repeat (first | (with_reducible exact HR248_0.out) | (with_reducible refine Kd.C_alloc ?_ _) | (with_reducible refine Kd.C_drewN ?_ _) | (with_reducible refine Kd.C_drew ?_) | exact HR248_0.out)) hb)
            have n7_ := Aside0.mk (Kd.C_below (by repeat (first | (with_reducible exact HR249_0.out) | (with_reducible refine Kd.C_alloc ?_ _) | (with_reducible refine Kd.C_drewN ?_ _) | (with_reducible refine Kd.C_drew ?_) | exact HR249_0.out)) hb)
            have n8_ := Aside0.mk (below_step (bb1 GE224.out) hb)
            clear HO_8
            clear HO_9
            clear HL248_0
            clear HL249_0
            clear BK224
            clear HR248_0
            clear HR249_0
            clear HB
            have HO_8 := n0_
            have HO_9 := n1_
            have HL248_0 := n2_
            have HL249_0 := n3_
            have HO252 := n4_
            have BK224 := n5_
            have HR248_0 := n6_
            have HR249_0 := n7_
            have HB := n8_
            clear n0_ n1_ n2_ n3_ n4_ n5_ n6_ n7_ n8_
            clear hb ho52
            obtain ⟨Ao53, co53, eo53⟩ := Kd.N_slice HO252.out
            (first | subst eo53 | (injection eo53 with f1_ f2_ f3_; have f4_ := f1_.symm; have f5_ := f3_.symm; clear f1_ f2_ f3_; subst f4_; subst f5_))
            refine hK.out _ _ ⟨(blk_cell BK224.out 0).trans rfl, (blk_cell BK224.out 1).trans rfl, (blk_cell BK224.out 2).trans rfl, (blk_cell BK224.out 3).trans rfl, (blk_cell BK224.out 4).trans rfl, (blk_cell BK224.out 5).trans rfl, (blk_cell BK224.out 6).trans rfl, HS7_, HS8_⟩ (fun hHeld => ?_)
            clear hK K
            refine norm_ (a' := ?_) ?_ ?_
            rotate_left
            ·show Act.put _ (some 64) _ = _
             simp only [Act.put, List.setIfInBounds_toArray, List.set_cons_zero, List.set_cons_succ, i64_w, i32_w]
             rfl
            refine one_ (i := 8) (N := some 65) #[true, true, true, true, true, true, true, true, true, false] rfl rfl (one_of HT_.out (by kernel_rfl)) (by decide) (fun K hK => ?_)
            refine goes_ Tryd.func50 (by kernel_rfl) rfl #[.agg #[.int .i64 ((rd_T48 l0 a1).f0), .int .i64 0, .int .i64 0, .int .i64 0, .int .i64 ((rd_T48 l0 a1).f4), .string ((rd_T48 l0 a1).f5), .string ((rd_T48 l0 a1).f6)], .slice Ao53 y250.length co53] (by rfl) rfl rfl mm0 ?_
            with_reducible refine (spec_l3Make.calls k1 ((rd_T48 l0 a1).f0) 0 0 0 ((rd_T48 l0 a1).f4) ((rd_T48 l0 a1).f5) ((rd_T48 l0 a1).f6) _ _ y250 t253 _ ?side1 ?side2 A45.out).mono ?_
            (case side1 => exact cc0 (Kd.N_reads' HO252.out).2.2)
            (case side2 => exact (Kd.N_reads' HO252.out).2.1)
            rintro e w54 ⟨v254, rfl, ho0, hb⟩
            have HS7_ := (hb.cell (World.block_lt_of_cell? _ _ (hHeld.2.2.2.2.2.2.2.1))).trans (hHeld.2.2.2.2.2.2.2.1)
            have HS8_ := (hb.cell (World.block_lt_of_cell? _ _ (hHeld.2.2.2.2.2.2.2.2))).trans (hHeld.2.2.2.2.2.2.2.2)
            refine ⟨_, rfl, ?_⟩
            have n0_ := Aside0.mk (Kd.R_below (ra0 HO_8.out) hb)
            have n1_ := Aside0.mk (Kd.N_elder' (by (with_reducible repeat (first | apply Kd.N_alloc | apply Kd.N_drewN | apply Kd.N_drew)); exact HO_9.out) (Kd.R_base ho0) hb)
            have n2_ := Aside0.mk (Kd.V_elder' (by (with_reducible repeat (first | apply Kd.V_alloc | apply Kd.V_drewN | apply Kd.V_drew)); exact HL248_0.out) (Kd.R_base ho0) hb)
            have n3_ := Aside0.mk (Kd.V_elder' (by (with_reducible repeat (first | apply Kd.V_alloc | apply Kd.V_drewN | apply Kd.V_drew)); exact HL249_0.out) (Kd.R_base ho0) hb)
            have n4_ := Aside0.mk (Kd.N_elder' (by (with_reducible repeat (first | apply Kd.N_alloc | apply Kd.N_drewN | apply Kd.N_drew)); exact HO252.out) (Kd.R_base ho0) hb)
            have n5_ := Aside0.mk (Kd.R_lower (Kd.R_newB ho0 (g := gb224) (o := .cells #[.int .i64 ((rd_T48 l0 a1).f0), .int .i64 0, .int .i64 0, .int .i64 0, .int .i64 ((rd_T48 l0 a1).f4), .string ((rd_T48 l0 a1).f5), .string ((rd_T48 l0 a1).f6)] 48 (0, 0)) (bk0 BK224.out)) (below_size (bb1 GE224.out)))
            have n6_ := Aside0.mk (blk_below (g := gb224) (o := .cells #[.int .i64 ((rd_T48 l0 a1).f0), .int .i64 0, .int .i64 0, .int .i64 0, .int .i64 ((rd_T48 l0 a1).f4), .string ((rd_T48 l0 a1).f5), .string ((rd_T48 l0 a1).f6)] 48 (0, 0)) (bk0 BK224.out) hb)
            have n7_ := Aside0.mk (Kd.C_below (by repeat (first | (with_reducible exact HR248_0.out) | (with_reducible refine Kd.C_alloc ?_ _) | (with_reducible refine Kd.C_drewN ?_ _) | (with_reducible refine Kd.C_drew ?_) | exact HR248_0.out)) hb)
            have n8_ := Aside0.mk (Kd.C_below (by repeat (first | (with_reducible exact HR249_0.out) | (with_reducible refine Kd.C_alloc ?_ _) | (with_reducible refine Kd.C_drewN ?_ _) | (with_reducible refine Kd.C_drew ?_) | exact HR249_0.out)) hb)
            have n9_ := Aside0.mk (below_step (bb1 GE224.out) hb)
            clear HO_8
            clear HO_9
            clear HL248_0
            clear HL249_0
            clear HO252
            clear BK224
            clear HR248_0
            clear HR249_0
            clear HB
            have HO_8 := n0_
            have HO_9 := n1_
            have HL248_0 := n2_
            have HL249_0 := n3_
            have HO252 := n4_
            have HO255 := n5_
            have BK224 := n6_
            have HR248_0 := n7_
            have HR249_0 := n8_
            have HB := n9_
            clear n0_ n1_ n2_ n3_ n4_ n5_ n6_ n7_ n8_ n9_
            (try clear hb)
            (try clear hb2)
            (try clear hk)
            (try clear hi)
            (try clear ho0)
            refine hK.out _ _ ⟨(blk_cell BK224.out 0).trans rfl, (blk_cell BK224.out 1).trans rfl, (blk_cell BK224.out 2).trans rfl, (blk_cell BK224.out 3).trans rfl, (blk_cell BK224.out 4).trans rfl, (blk_cell BK224.out 5).trans rfl, (blk_cell BK224.out 6).trans rfl, HS7_, HS8_⟩ (fun hHeld => ?_)
            clear hK K
            refine norm_ (a' := ?_) ?_ ?_
            rotate_left
            ·show Act.put _ (some 65) _ = _
             simp only [Act.put, List.setIfInBounds_toArray, List.set_cons_zero, List.set_cons_succ, i64_w, i32_w]
             rfl
            refine pure_ (i := 9) (N := some 6) (v := ?_) (a' := ?_) #[true, true, true, true, true, true, true, true, true, true] rfl rfl (any_of HT_.out (by kernel_rfl)) (fun _ _ _ h => h) (Or.inl ⟨by rfl, ?_⟩) ?_ ?_
            rotate_left
            ·intro w'
             go_simp
             with_reducible rfl
            rotate_left
            ·simp only [Act.put, List.setIfInBounds_toArray, List.set_cons_zero, List.set_cons_succ, i64_w, i32_w]
             rfl
            refine done_ (done_of HT_.out (by kernel_rfl)) ?_
            try go_wp2
            go_ret
            exact ⟨_, er0, by refine ra0 ?_; exact Kd.R_mono HO255.out (fun _ hk => trivial), bb1 GE224.out⟩
           ·rw [if_neg c44] at H
            exact absurd H (by simp)
          ·rw [if_neg c43] at H
           exact absurd H (by simp)
         ·rw [if_neg c42] at H
          have c42b0 : ((x9_1.length : Int) == 2) = false := beq_eq_false_iff_ne.mpr c42
          have c42b1 : ((x9_1.length : Int) != 2) = true := bne_iff_ne.mpr c42
          by_cases c55 : 0 < (x9_1.length : Int)
          ·rw [if_pos c55] at H
           have c55b0 : decide (0 < (x9_1.length : Int)) = true := decide_eq_true c55
           have c55b1 : decide (0 < x9_1.length) = true := decide_eq_true (by omega)
           clear c55
           by_cases c56 : 1 < (x9_1.length : Int)
           ·rw [if_pos c56] at H
            have c56b0 : decide (1 < (x9_1.length : Int)) = true := decide_eq_true c56
            have c56b1 : decide (1 < x9_1.length) = true := decide_eq_true (by omega)
            clear c56
            by_cases c57 : 2 < (x9_1.length : Int)
            ·rw [if_pos c57] at H
             have c57b0 : decide (2 < (x9_1.length : Int)) = true := decide_eq_true c57
             have c57b1 : decide (2 < x9_1.length) = true := decide_eq_true (by omega)
             clear c57
             obtain ⟨y259, hy259⟩ : ∃ y_ : List (List (S48)), y_ = (([rd_L4 x9_1 0, rd_L4 x9_1 1, rd_L4 x9_1 2] : List (List (S48)))) := ⟨_, rfl⟩
             replace H : ((spec_l3Make.f k1 ((rd_T48 l0 a1).f0) 0 0 0 ((rd_T48 l0 a1).f4) ((rd_T48 l0 a1).f5) ((rd_T48 l0 a1).f6) y259).bind fun t262 => (some t262)) = some r := by first | (rw [hy259]; with_reducible exact H) | (have H2_ := (Option.bind_some _ _).symm.trans H; rw [hy259]; with_reducible exact H2_) | (have H2_ := (Option.bind_some _ _).symm.trans H; with_reducible exact H2_) | with_reducible exact H | (rw [hy259]; exact H) | exact H
             have Ny259 := Aside0.mk hy259
             clear hy259
             replace H := Option.bind_eq_some_iff.mp H
             obtain ⟨t262, A580, H⟩ := H
             replace H : (some t262) = some r := H
             have A58 := Aside0.mk A580
             clear A580
             obtain rfl := Option.some.inj H
             obtain ⟨Ao59, co59, eo59⟩ := Kd.R_slice HO_8.out
             subst eo59
             obtain ⟨hcz60_0, hcz60_1, hcz60_2, hcz60_3, hcz60_4, hcz60_5, hcz60_6⟩ := cells7 BK224.out
             obtain ⟨hfz60_0, hfz60_1, hfz60_2, hfz60_3, hfz60_4, hfz60_5, hfz60_6⟩ := frz7 BK224.out
             obtain ⟨Ao61, co61, eo61⟩ := Kd.N_slice HO_9.out
             subst eo61
             try go_wp2
             have n0_ : Aside0 (Kd.R (Kd.int .i64) 3 (((wr.setCell ⟨gb224, 1, none⟩ (.int .i64 0)).setCell ⟨gb224, 2, none⟩ (.int .i64 0)).setCell ⟨gb224, 3, none⟩ (.int .i64 0)) w.heap.size (fun _ => True) (.slice Ao59 t225.length co59) t225) := ⟨by (try simp only [setCell_drewN]); refine ra0 ?_; exact Kd.R_mono (Kd.R_far (p := ⟨gb224, 3, none⟩) (Kd.R_far (p := ⟨gb224, 2, none⟩) (Kd.R_far (p := ⟨gb224, 1, none⟩) (Kd.R_types HO_8.out BK224.out (by decide)) (fun _ hk => hk.2) (.int .i64 0)) (fun _ hk => hk.2) (.int .i64 0)) (fun _ hk => hk.2) (.int .i64 0)) (fun _ hk => trivial)⟩
             have n1_ : Aside0 (Kd.N (Kd.slice 48 k48) 25 (((wr.setCell ⟨gb224, 1, none⟩ (.int .i64 0)).setCell ⟨gb224, 2, none⟩ (.int .i64 0)).setCell ⟨gb224, 3, none⟩ (.int .i64 0)) w.heap.size (fun k_ => some k_ ≠ (.slice Ao59 t225.length co59 : Value).ownBlock ∧ k_ ≠ gb224) (.slice Ao61 x9_1.length co61) x9_1) := ⟨by (with_reducible repeat (first | apply Kd.N_alloc | apply Kd.N_drewN | apply Kd.N_drew)); exact Kd.N_mono (Kd.N_far (p := ⟨gb224, 3, none⟩) (Kd.N_far (p := ⟨gb224, 2, none⟩) (Kd.N_far (p := ⟨gb224, 1, none⟩) (Kd.N_mono HO_9.out (fun k_ hk => (⟨hk, hk.2⟩ : _ ∧ k_ ≠ gb224))) (fun _ hk => hk.2) (.int .i64 0)) (fun _ hk => hk.2) (.int .i64 0)) (fun _ hk => hk.2) (.int .i64 0)) (fun _ hk => ⟨hk.1.1, hk.1.2⟩)⟩
             have n2_ : Aside0 ((((wr.setCell ⟨gb224, 1, none⟩ (.int .i64 0)).setCell ⟨gb224, 2, none⟩ (.int .i64 0)).setCell ⟨gb224, 3, none⟩ (.int .i64 0)).heap[gb224]? = some (.cells #[.int .i64 ((rd_T48 l0 a1).f0), .int .i64 0, .int .i64 0, .int .i64 0, .int .i64 ((rd_T48 l0 a1).f4), .string ((rd_T48 l0 a1).f5), .string ((rd_T48 l0 a1).f6)] 48 (0, 0))) := ⟨by refine bk0 ?_; refine blk_put (cs := #[.int .i64 ((rd_T48 l0 a1).f0), .int .i64 0, .int .i64 0, .int .i64 ((rd_T48 l0 a1).f3), .int .i64 ((rd_T48 l0 a1).f4), .string ((rd_T48 l0 a1).f5), .string ((rd_T48 l0 a1).f6)]) ?_ 3 _ rfl; refine bk0 ?_; refine blk_put (cs := #[.int .i64 ((rd_T48 l0 a1).f0), .int .i64 0, .int .i64 ((rd_T48 l0 a1).f2), .int .i64 ((rd_T48 l0 a1).f3), .int .i64 ((rd_T48 l0 a1).f4), .string ((rd_T48 l0 a1).f5), .string ((rd_T48 l0 a1).f6)]) ?_ 2 _ rfl; refine bk0 ?_; refine blk_put (cs := #[.int .i64 ((rd_T48 l0 a1).f0), .int .i64 ((rd_T48 l0 a1).f1), .int .i64 ((rd_T48 l0 a1).f2), .int .i64 ((rd_T48 l0 a1).f3), .int .i64 ((rd_T48 l0 a1).f4), .string ((rd_T48 l0 a1).f5), .string ((rd_T48 l0 a1).f6)]) ?_ 1 _ rfl; refine bk0 ?_; exact BK224.out⟩
             have n3_ : Aside0 (Below w.heap.size w (((wr.setCell ⟨gb224, 1, none⟩ (.int .i64 0)).setCell ⟨gb224, 2, none⟩ (.int .i64 0)).setCell ⟨gb224, 3, none⟩ (.int .i64 0))) := ⟨bb1 GE224.out⟩
             (try clear HO_8)
             (try clear HO_9)
             (try clear BK224)
             (try clear HB)
             generalize (((wr.setCell ⟨gb224, 1, none⟩ (.int .i64 0)).setCell ⟨gb224, 2, none⟩ (.int .i64 0)).setCell ⟨gb224, 3, none⟩ (.int .i64 0)) = w62 at n0_ n1_ n2_ n3_ ⊢
             have HO_8 := n0_
             have HO_9 := n1_
             have BK224 := n2_
             have HB := n3_
             clear n0_ n1_ n2_ n3_
             have n0_ := Aside0.mk (Kd.R_drew HO_8.out)
             have n1_ := Aside0.mk (Kd.N_drew HO_9.out)
             have n2_ := Aside0.mk (blk_drew BK224.out)
             have n3_ := Aside0.mk (below_drew1 HB.out)
             clear HO_8
             clear HO_9
             clear BK224
             clear HB
             have HO_8 := n0_
             have HO_9 := n1_
             have BK224 := n2_
             have HB := n3_
             clear n0_ n1_ n2_ n3_
             have p256 : 0 ≤ (0 : Int) := (by omega)
             have q256 : 0 < (x9_1.length : Int) := of_decide_eq_true as0
             obtain ⟨ad256, A256_0, c256_0, e256, hx256_0, hl256_0, hi256_0⟩ := at_L4 (Kd.N_reads' HO_9.out).2.2 0 p256 q256
             cases e256
             obtain ⟨ce256, hce256, hMe256, hcc256⟩ := Kd.N_get HO_9.out [] 0 p256 (by first | exact q256 | exact of_decide_eq_true as0 | (have e_ := (Kd.N_reads' HO_9.out).1; omega))
             obtain ⟨ua256_0, uc256_0, rfl, ul256_0, ge256_0⟩ := Kd.FK_slice_open hMe256
             have hv256_0 := hcc256 0 _ rfl
             rw [Nat.add_zero, show ((Kd.slice 48 k48)).sz = 1 from rfl, Nat.mul_one] at hv256_0
             replace hv256_0 := Option.some.inj (hv256_0.symm.trans hx256_0)
             injection hv256_0 with hva_ hvn_ hvc_
             rw [hva_] at ge256_0
             rw [hvc_] at ul256_0
             have HL256_0 := Aside0.mk (show Kd.V k48 48 _ w.heap.size _ _ (rd_L4 x9_1 0) from Kd.V_mk ul256_0 ge256_0)
             clear hva_ hvn_ hvc_ ge256_0 ul256_0
             clear hcc256 hce256
             have qi256 : (0 < x9_1.length) = True := eq_true (by omega)
             (try rw [show ((0 : Int)).toNat = 0 from rfl] at hx256_0)
             (try rw [Addr.add_zero'] at hx256_0)
             have HR256_0 := Aside0.mk hi256_0
             have HC256_0 := Aside0.mk hl256_0
             clear hi256_0 hl256_0
             replace p256 := eq_true p256
             replace q256 := eq_true q256
             have p257 : 0 ≤ (1 : Int) := (by omega)
             have q257 : 1 < (x9_1.length : Int) := of_decide_eq_true as0
             obtain ⟨ad257, A257_0, c257_0, e257, hx257_0, hl257_0, hi257_0⟩ := at_L4 (Kd.N_reads' HO_9.out).2.2 1 p257 q257
             obtain rfl : ad256 = ad257 := (by injection e257)
             obtain ⟨ce257, hce257, hMe257, hcc257⟩ := Kd.N_get HO_9.out [] 1 p257 (by first | exact q257 | exact of_decide_eq_true as0 | (have e_ := (Kd.N_reads' HO_9.out).1; omega))
             obtain ⟨ua257_0, uc257_0, rfl, ul257_0, ge257_0⟩ := Kd.FK_slice_open hMe257
             have hv257_0 := hcc257 0 _ rfl
             rw [Nat.add_zero, show ((Kd.slice 48 k48)).sz = 1 from rfl, Nat.mul_one] at hv257_0
             replace hv257_0 := Option.some.inj (hv257_0.symm.trans hx257_0)
             injection hv257_0 with hva_ hvn_ hvc_
             rw [hva_] at ge257_0
             rw [hvc_] at ul257_0
             have HL257_0 := Aside0.mk (show Kd.V k48 48 _ w.heap.size _ _ (rd_L4 x9_1 1) from Kd.V_mk ul257_0 ge257_0)
             clear hva_ hvn_ hvc_ ge257_0 ul257_0
             clear hcc257 hce257
             (try simp only [show (1 : Int).toNat = 1 from rfl, Nat.reduceMul, Nat.reduceEqDiff, Go.Addr.add, ↓reduceIte] at hx257_0)
             have qi257 : (1 < x9_1.length) = True := eq_true (by omega)
             (try rw [show ((1 : Int)).toNat = 1 from rfl] at hx257_0)
             have HR257_0 := Aside0.mk hi257_0
             have HC257_0 := Aside0.mk hl257_0
             clear hi257_0 hl257_0
             replace p257 := eq_true p257
             replace q257 := eq_true q257
             have p258 : 0 ≤ (2 : Int) := (by omega)
             have q258 : 2 < (x9_1.length : Int) := of_decide_eq_true as0
             obtain ⟨ad258, A258_0, c258_0, e258, hx258_0, hl258_0, hi258_0⟩ := at_L4 (Kd.N_reads' HO_9.out).2.2 2 p258 q258
             obtain rfl : ad256 = ad258 := (by injection e258)
             obtain ⟨ce258, hce258, hMe258, hcc258⟩ := Kd.N_get HO_9.out [] 2 p258 (by first | exact q258 | exact of_decide_eq_true as0 | (have e_ := (Kd.N_reads' HO_9.out).1; omega))
             obtain ⟨ua258_0, uc258_0, rfl, ul258_0, ge258_0⟩ := Kd.FK_slice_open hMe258
             have hv258_0 := hcc258 0 _ rfl
             rw [Nat.add_zero, show ((Kd.slice 48 k48)).sz = 1 from rfl, Nat.mul_one] at hv258_0
             replace hv258_0 := Option.some.inj (hv258_0.symm.trans hx258_0)
             injection hv258_0 with hva_ hvn_ hvc_
             rw [hva_] at ge258_0
             rw [hvc_] at ul258_0
             have HL258_0 := Aside0.mk (show Kd.V k48 48 _ w.heap.size _ _ (rd_L4 x9_1 2) from Kd.V_mk ul258_0 ge258_0)
             clear hva_ hvn_ hvc_ ge258_0 ul258_0
             clear hcc258 hce258
             (try simp only [show (2 : Int).toNat = 2 from rfl, Nat.reduceMul, Nat.reduceEqDiff, Go.Addr.add, ↓reduceIte] at hx258_0)
             have qi258 : (2 < x9_1.length) = True := eq_true (by omega)
             (try rw [show ((2 : Int)).toNat = 2 from rfl] at hx258_0)
             have HR258_0 := Aside0.mk hi258_0
             have HC258_0 := Aside0.mk hl258_0
             clear hi258_0 hl258_0
             replace p258 := eq_true p258
             replace q258 := eq_true q258
             refine start_ (n := 13) (S := fun w' => w'.cell? ⟨gb224, 0, none⟩ = some (.int .i64 ((rd_T48 l0 a1).f0)) ∧ w'.cell? ⟨gb224, 1, none⟩ = some (.int .i64 0) ∧ w'.cell? ⟨gb224, 2, none⟩ = some (.int .i64 0) ∧ w'.cell? ⟨gb224, 3, none⟩ = some (.int .i64 0) ∧ w'.cell? ⟨gb224, 4, none⟩ = some (.int .i64 ((rd_T48 l0 a1).f4)) ∧ w'.cell? ⟨gb224, 5, none⟩ = some (.string ((rd_T48 l0 a1).f5)) ∧ w'.cell? ⟨gb224, 6, none⟩ = some (.string ((rd_T48 l0 a1).f6)) ∧ w'.cell? ad256 = some (.slice A256_0 (rd_L4 x9_1 0).length c256_0) ∧ w'.cell? ⟨ad256.block, ad256.off + 1, none⟩ = some (.slice A257_0 (rd_L4 x9_1 1).length c257_0) ∧ w'.cell? ⟨ad256.block, ad256.off + 2, none⟩ = some (.slice A258_0 (rd_L4 x9_1 2).length c258_0)) (ds := []) #[false, false, false, false, false, false, false, false, false, false, false, false, false] (by kernel_rfl) rfl rfl ⟨(blk_cell BK224.out 0).trans rfl, (blk_cell BK224.out 1).trans rfl, (blk_cell BK224.out 2).trans rfl, (blk_cell BK224.out 3).trans rfl, (blk_cell BK224.out 4).trans rfl, (blk_cell BK224.out 5).trans rfl, (blk_cell BK224.out 6).trans rfl, hx256_0, hx257_0, hx258_0⟩ (fun hHeld => ?_); refine with_tabW spec_l22Part.tab20 spec_l22Part.bits20 (fun HT_ HW_ => ?_)
             generalize w62.drew = w63 at HO_8 HO_9 BK224 HB HL256_0 HL257_0 HL258_0 HR256_0 HR257_0 HR258_0 hx256_0 hx257_0 hx258_0 hHeld ⊢
             refine pure_ (i := 1) (N := some 67) (v := ?_) (a' := ?_) #[false, true, false, false, false, false, false, false, false, false, false, false, false] rfl rfl (any_of HT_.out (by kernel_rfl)) (fun _ _ _ h => h) (Or.inl ⟨by rfl, ?_⟩) ?_ ?_
             rotate_left
             ·intro w'
              go_simp
              with_reducible rfl
             rotate_left
             ·simp only [Act.put, List.setIfInBounds_toArray, List.set_cons_zero, List.set_cons_succ, i64_w, i32_w]
              rfl
             refine pure_ (i := 2) (N := some 68) (v := ?_) (a' := ?_) #[false, true, true, false, false, false, false, false, false, false, false, false, false] rfl rfl (any_of HT_.out (by kernel_rfl)) (fun _ _ _ h => h) (Or.inl ⟨by rfl, ?_⟩) ?_ ?_
             rotate_left
             ·intro w'
              go_simp
              with_reducible rfl
             rotate_left
             ·simp only [Act.put, List.setIfInBounds_toArray, List.set_cons_zero, List.set_cons_succ, i64_w, i32_w]
              rfl
             refine pure_ (i := 4) (N := some 70) (v := ?_) (a' := ?_) #[false, true, true, false, true, false, false, false, false, false, false, false, false] rfl rfl (any_of HT_.out (by kernel_rfl)) (fun _ _ _ h => h) (Or.inl ⟨by rfl, ?_⟩) ?_ ?_
             rotate_left
             ·intro w'
              go_simp
              with_reducible rfl
             rotate_left
             ·simp only [Act.put, List.setIfInBounds_toArray, List.set_cons_zero, List.set_cons_succ, i64_w, i32_w]
              rfl
             refine pure_ (i := 5) (N := some 71) (v := ?_) (a' := ?_) #[false, true, true, false, true, true, false, false, false, false, false, false, false] rfl rfl (any_of HT_.out (by kernel_rfl)) (fun _ _ _ h => h) (Or.inl ⟨by rfl, ?_⟩) ?_ ?_
             rotate_left
             ·intro w'
              go_simp
              with_reducible rfl
             rotate_left
             ·simp only [Act.put, List.setIfInBounds_toArray, List.set_cons_zero, List.set_cons_succ, i64_w, i32_w]
              rfl
             refine pure_ (i := 7) (N := some 73) (v := ?_) (a' := ?_) #[false, true, true, false, true, true, false, true, false, false, false, false, false] rfl rfl (any_of HT_.out (by kernel_rfl)) (fun _ _ _ h => h) (Or.inl ⟨by rfl, ?_⟩) ?_ ?_
             rotate_left
             ·intro w'
              go_simp
              with_reducible rfl
             rotate_left
             ·simp only [Act.put, List.setIfInBounds_toArray, List.set_cons_zero, List.set_cons_succ, i64_w, i32_w]
              rfl
             refine pure_ (i := 8) (N := some 74) (v := ?_) (a' := ?_) #[false, true, true, false, true, true, false, true, true, false, false, false, false] rfl rfl (any_of HT_.out (by kernel_rfl)) (fun _ _ _ h => h) (Or.inl ⟨by rfl, ?_⟩) ?_ ?_
             rotate_left
             ·intro w'
              go_simp
              with_reducible rfl
             rotate_left
             ·simp only [Act.put, List.setIfInBounds_toArray, List.set_cons_zero, List.set_cons_succ, i64_w, i32_w]
              rfl
             refine take_ (i := 0) (N := some 66) (v := ?_) (a' := ?_) #[true, true, true, false, true, true, false, true, true, false, false, false, false] rfl rfl (take_ofW HT_.out HW_.out (by kernel_rfl)) (fun _ _ _ h => h) (Or.inl ⟨by rfl, ?_⟩) hHeld ?_ ?_
             rotate_left
             ·rintro w' ⟨s0, s1, s2, s3, s4, s5, s6, s7, s8, s9⟩
              go_simp
              with_reducible rfl
             rotate_left
             ·simp only [Act.put, List.setIfInBounds_toArray, List.set_cons_zero, List.set_cons_succ, i64_w, i32_w]
              rfl
             refine take_ (i := 3) (N := some 69) (v := ?_) (a' := ?_) #[true, true, true, true, true, true, false, true, true, false, false, false, false] rfl rfl (take_ofW HT_.out HW_.out (by kernel_rfl)) (fun _ _ _ h => h) (Or.inl ⟨by rfl, ?_⟩) hHeld ?_ ?_
             rotate_left
             ·rintro w' ⟨s0, s1, s2, s3, s4, s5, s6, s7, s8, s9⟩
              go_simp
              with_reducible rfl
             rotate_left
             ·simp only [Act.put, List.setIfInBounds_toArray, List.set_cons_zero, List.set_cons_succ, i64_w, i32_w]
              rfl
             refine take_ (i := 6) (N := some 72) (v := ?_) (a' := ?_) #[true, true, true, true, true, true, true, true, true, false, false, false, false] rfl rfl (take_ofW HT_.out HW_.out (by kernel_rfl)) (fun _ _ _ h => h) (Or.inl ⟨by rfl, ?_⟩) hHeld ?_ ?_
             rotate_left
             ·rintro w' ⟨s0, s1, s2, s3, s4, s5, s6, s7, s8, s9⟩
              go_simp
              with_reducible rfl
             rotate_left
             ·simp only [Act.put, List.setIfInBounds_toArray, List.set_cons_zero, List.set_cons_succ, i64_w, i32_w]
              rfl
             refine take_ (i := 9) (N := some 75) (v := ?_) (a' := ?_) #[true, true, true, true, true, true, true, true, true, true, false, false, false] rfl rfl (take_ofW HT_.out HW_.out (by kernel_rfl)) (fun _ _ _ h => h) (Or.inl ⟨by rfl, ?_⟩) hHeld ?_ ?_
             rotate_left
             ·rintro w' ⟨s0, s1, s2, s3, s4, s5, s6, s7, s8, s9⟩
              go_simp
              with_reducible rfl
             rotate_left
             ·simp only [Act.put, List.setIfInBounds_toArray, List.set_cons_zero, List.set_cons_succ, i64_w, i32_w]
              rfl
             refine one_ (i := 10) (N := some 76) #[true, true, true, true, true, true, true, true, true, true, true, false, false] rfl rfl (one_of HT_.out (by kernel_rfl)) (by decide) (fun K hK => ?_)
             refine Kd.N_lit_step (Kd.slice 48 k48) _ 25 ?hg (N' := 76) ?hd (xs := ([rd_L4 x9_1 0, rd_L4 x9_1 1, rd_L4 x9_1 2] : List (List (S48)))) (inner := [.slice A256_0 (rd_L4 x9_1 0).length c256_0, .slice A257_0 (rd_L4 x9_1 1).length c257_0, .slice A258_0 (rd_L4 x9_1 2).length c258_0]) (ok := (fun k_ => some k_ ≠ (.slice Ao59 t225.length co59 : Value).ownBlock ∧ some k_ ≠ (.slice (some ad256) x9_1.length co61 : Value).ownBlock ∧ k_ ≠ gb224)) (okp := (fun k_ => some k_ ≠ (.slice Ao59 t225.length co59 : Value).ownBlock ∧ some k_ ≠ (.slice (some ad256) x9_1.length co61 : Value).ownBlock ∧ k_ ≠ gb224)) ?hr ?hp (fun _ hk => hk) ((show ∀ k_, w63.heap.size ≤ k_ → (fun k_ => some k_ ≠ (.slice Ao59 t225.length co59 : Value).ownBlock ∧ some k_ ≠ (.slice (some ad256) x9_1.length co61 : Value).ownBlock ∧ k_ ≠ gb224) k_ from fun k_ hk => ⟨Kd.fresh' (Kd.R_lt (ra0 HO_8.out)) k_ hk, Kd.fresh' (Kd.N_lt (by (with_reducible repeat (first | apply Kd.N_alloc | apply Kd.N_drewN | apply Kd.N_drew)); exact HO_9.out)) k_ hk, Kd.freshB (g := gb224) (o := .cells #[.int .i64 ((rd_T48 l0 a1).f0), .int .i64 0, .int .i64 0, .int .i64 0, .int .i64 ((rd_T48 l0 a1).f4), .string ((rd_T48 l0 a1).f5), .string ((rd_T48 l0 a1).f6)] 48 (0, 0)) (bk0 BK224.out) k_ hk⟩) _ (Nat.le_refl _)) (Below.refl _ _) (Nat.le_refl _) (by simp) ?_; (case hd => rfl); (case hg => rfl); (case hr => first | (go_simp; done) | (go_simp; rfl)); (case hp => exact (Reps.one (show Kd.FK (Kd.slice 48 k48) _ _ (rd_L4 x9_1 0) [.slice A256_0 (rd_L4 x9_1 0).length c256_0] from (Kd.FK_slice_mk (Kd.V_reads' (Kd.V_mono (ok' := (fun k_ => some k_ ≠ (.slice Ao59 t225.length co59 : Value).ownBlock ∧ some k_ ≠ (.slice (some ad256) x9_1.length co61 : Value).ownBlock ∧ k_ ≠ gb224)) (HL256_0.out) (fun k_ hk => ⟨hk.1.1, ⟨hk.2, hk.1.2⟩⟩))).2.1 (Kd.V_F (Kd.V_mono (ok' := (fun k_ => some k_ ≠ (.slice Ao59 t225.length co59 : Value).ownBlock ∧ some k_ ≠ (.slice (some ad256) x9_1.length co61 : Value).ownBlock ∧ k_ ≠ gb224)) (HL256_0.out) (fun k_ hk => ⟨hk.1.1, ⟨hk.2, hk.1.2⟩⟩))))) (Reps.one (show Kd.FK (Kd.slice 48 k48) _ _ (rd_L4 x9_1 1) [.slice A257_0 (rd_L4 x9_1 1).length c257_0] from (Kd.FK_slice_mk (Kd.V_reads' (Kd.V_mono (ok' := (fun k_ => some k_ ≠ (.slice Ao59 t225.length co59 : Value).ownBlock ∧ some k_ ≠ (.slice (some ad256) x9_1.length co61 : Value).ownBlock ∧ k_ ≠ gb224)) (HL257_0.out) (fun k_ hk => ⟨hk.1.1, ⟨hk.2, hk.1.2⟩⟩))).2.1 (Kd.V_F (Kd.V_mono (ok' := (fun k_ => some k_ ≠ (.slice Ao59 t225.length co59 : Value).ownBlock ∧ some k_ ≠ (.slice (some ad256) x9_1.length co61 : Value).ownBlock ∧ k_ ≠ gb224)) (HL257_0.out) (fun k_ hk => ⟨hk.1.1, ⟨hk.2, hk.1.2⟩⟩))))) (Reps.one (show Kd.FK (Kd.slice 48 k48) _ _ (rd_L4 x9_1 2) [.slice A258_0 (rd_L4 x9_1 2).length c258_0] from (Kd.FK_slice_mk (Kd.V_reads' (Kd.V_mono (ok' := (fun k_ => some k_ ≠ (.slice Ao59 t225.length co59 : Value).ownBlock ∧ some k_ ≠ (.slice (some ad256) x9_1.length co61 : Value).ownBlock ∧ k_ ≠ gb224)) (HL258_0.out) (fun k_ hk => ⟨hk.1.1, ⟨hk.2, hk.1.2⟩⟩))).2.1 (Kd.V_F (Kd.V_mono (ok' := (fun k_ => some k_ ≠ (.slice Ao59 t225.length co59 : Value).ownBlock ∧ some k_ ≠ (.slice (some ad256) x9_1.length co61 : Value).ownBlock ∧ k_ ≠ gb224)) (HL258_0.out) (fun k_ hk => ⟨hk.1.1, ⟨hk.2, hk.1.2⟩⟩))))) (Reps.none _ _)))))
             intro v260 w64 ho65 hb hg_ hnew_
             have HS7_ := (hb.cell (World.block_lt_of_cell? _ _ (hHeld.2.2.2.2.2.2.2.1))).trans (hHeld.2.2.2.2.2.2.2.1)
             have HS8_ := (hb.cell (World.block_lt_of_cell? _ _ (hHeld.2.2.2.2.2.2.2.2.1))).trans (hHeld.2.2.2.2.2.2.2.2.1)
             have HS9_ := (hb.cell (World.block_lt_of_cell? _ _ (hHeld.2.2.2.2.2.2.2.2.2))).trans (hHeld.2.2.2.2.2.2.2.2.2)
             clear hg_ hnew_
             (first | rw [← Ny259.out] at ho65 | (simp only [Int.reduceToNat] at ho65; rw [← Ny259.out] at ho65))
             have n0_ := Aside0.mk (Kd.R_below (ra0 HO_8.out) hb)
             have n1_ := Aside0.mk (Kd.N_elder' (by (with_reducible repeat (first | apply Kd.N_alloc | apply Kd.N_drewN | apply Kd.N_drew)); exact HO_9.out) (Kd.N_base ho65) hb)
             have n2_ := Aside0.mk (Kd.V_elder' (by (with_reducible repeat (first | apply Kd.V_alloc | apply Kd.V_drewN | apply Kd.V_drew)); exact HL256_0.out) (Kd.N_base ho65) hb)
             have n3_ := Aside0.mk (Kd.V_elder' (by (with_reducible repeat (first | apply Kd.V_alloc | apply Kd.V_drewN | apply Kd.V_drew)); exact HL257_0.out) (Kd.N_base ho65) hb)
             have n4_ := Aside0.mk (Kd.V_elder' (by (with_reducible repeat (first | apply Kd.V_alloc | apply Kd.V_drewN | apply Kd.V_drew)); exact HL258_0.out) (Kd.N_base ho65) hb)
             have n5_ := Aside0.mk (Kd.N_lower ho65 (below_size (bb1 GE224.out)))
             have n6_ := Aside0.mk (blk_below (g := gb224) (o := .cells #[.int .i64 ((rd_T48 l0 a1).f0), .int .i64 0, .int .i64 0, .int .i64 0, .int .i64 ((rd_T48 l0 a1).f4), .string ((rd_T48 l0 a1).f5), .string ((rd_T48 l0 a1).f6)] 48 (0, 0)) (bk0 BK224.out) hb)
             have n7_ := Aside0.mk (Kd.C_below (by repeat (first | (with_reducible exact HR256_0.out) | (with_reducible refine Kd.C_alloc ?_ _) | (with_reducible refine Kd.C_drewN ?_ _) | (with_reducible refine Kd.C_drew ?_) | exact HR256_0.out)) hb)
             have n8_ := Aside0.mk (Kd.C_below (by repeat (first | (with_reducible exact HR257_0.out) | (with_reducible refine Kd.C_alloc ?_ _) | (with_reducible refine Kd.C_drewN ?_ _) | (with_reducible refine Kd.C_drew ?_) | exact HR257_0.out)) hb)
             have n9_ := Aside0.mk (Kd.C_below (by repeat (first | (with_reducible exact HR258_0.out) | (with_reducible refine Kd.C_alloc ?_ _) | (with_reducible refine Kd.C_drewN ?_ _) | (with_reducible refine Kd.C_drew ?_) | exact HR258_0.out)) hb)
             have n10_ := Aside0.mk (below_step (bb1 GE224.out) hb)
             clear HO_8
             clear HO_9
             clear HL256_0
             clear HL257_0
             clear HL258_0
             clear BK224
             clear HR256_0
             clear HR257_0
             clear HR258_0
             clear HB
             have HO_8 := n0_
             have HO_9 := n1_
             have HL256_0 := n2_
             have HL257_0 := n3_
             have HL258_0 := n4_
             have HO261 := n5_
             have BK224 := n6_
             have HR256_0 := n7_
             have HR257_0 := n8_
             have HR258_0 := n9_
             have HB := n10_
             clear n0_ n1_ n2_ n3_ n4_ n5_ n6_ n7_ n8_ n9_ n10_
             clear hb ho65
             obtain ⟨Ao66, co66, eo66⟩ := Kd.N_slice HO261.out
             (first | subst eo66 | (injection eo66 with f1_ f2_ f3_; have f4_ := f1_.symm; have f5_ := f3_.symm; clear f1_ f2_ f3_; subst f4_; subst f5_))
             refine hK.out _ _ ⟨(blk_cell BK224.out 0).trans rfl, (blk_cell BK224.out 1).trans rfl, (blk_cell BK224.out 2).trans rfl, (blk_cell BK224.out 3).trans rfl, (blk_cell BK224.out 4).trans rfl, (blk_cell BK224.out 5).trans rfl, (blk_cell BK224.out 6).trans rfl, HS7_, HS8_, HS9_⟩ (fun hHeld => ?_)
             clear hK K
             refine norm_ (a' := ?_) ?_ ?_
             rotate_left
             ·show Act.put _ (some 76) _ = _
              simp only [Act.put, List.setIfInBounds_toArray, List.set_cons_zero, List.set_cons_succ, i64_w, i32_w]
              rfl
             refine one_ (i := 11) (N := some 77) #[true, true, true, true, true, true, true, true, true, true, true, true, false] rfl rfl (one_of HT_.out (by kernel_rfl)) (by decide) (fun K hK => ?_)
             refine goes_ Tryd.func50 (by kernel_rfl) rfl #[.agg #[.int .i64 ((rd_T48 l0 a1).f0), .int .i64 0, .int .i64 0, .int .i64 0, .int .i64 ((rd_T48 l0 a1).f4), .string ((rd_T48 l0 a1).f5), .string ((rd_T48 l0 a1).f6)], .slice Ao66 y259.length co66] (by rfl) rfl rfl mm0 ?_
             with_reducible refine (spec_l3Make.calls k1 ((rd_T48 l0 a1).f0) 0 0 0 ((rd_T48 l0 a1).f4) ((rd_T48 l0 a1).f5) ((rd_T48 l0 a1).f6) _ _ y259 t262 _ ?side1 ?side2 A58.out).mono ?_
             (case side1 => exact cc0 (Kd.N_reads' HO261.out).2.2)
             (case side2 => exact (Kd.N_reads' HO261.out).2.1)
             rintro e w67 ⟨v263, rfl, ho0, hb⟩
             have HS7_ := (hb.cell (World.block_lt_of_cell? _ _ (hHeld.2.2.2.2.2.2.2.1))).trans (hHeld.2.2.2.2.2.2.2.1)
             have HS8_ := (hb.cell (World.block_lt_of_cell? _ _ (hHeld.2.2.2.2.2.2.2.2.1))).trans (hHeld.2.2.2.2.2.2.2.2.1)
             have HS9_ := (hb.cell (World.block_lt_of_cell? _ _ (hHeld.2.2.2.2.2.2.2.2.2))).trans (hHeld.2.2.2.2.2.2.2.2.2)
             refine ⟨_, rfl, ?_⟩
             have n0_ := Aside0.mk (Kd.R_below (ra0 HO_8.out) hb)
             have n1_ := Aside0.mk (Kd.N_elder' (by (with_reducible repeat (first | apply Kd.N_alloc | apply Kd.N_drewN | apply Kd.N_drew)); exact HO_9.out) (Kd.R_base ho0) hb)
             have n2_ := Aside0.mk (Kd.V_elder' (by (with_reducible repeat (first | apply Kd.V_alloc | apply Kd.V_drewN | apply Kd.V_drew)); exact HL256_0.out) (Kd.R_base ho0) hb)
             have n3_ := Aside0.mk (Kd.V_elder' (by (with_reducible repeat (first | apply Kd.V_alloc | apply Kd.V_drewN | apply Kd.V_drew)); exact HL257_0.out) (Kd.R_base ho0) hb)
             have n4_ := Aside0.mk (Kd.V_elder' (by (with_reducible repeat (first | apply Kd.V_alloc | apply Kd.V_drewN | apply Kd.V_drew)); exact HL258_0.out) (Kd.R_base ho0) hb)
             have n5_ := Aside0.mk (Kd.N_elder' (by (with_reducible repeat (first | apply Kd.N_alloc | apply Kd.N_drewN | apply Kd.N_drew)); exact HO261.out) (Kd.R_base ho0) hb)
             have n6_ := Aside0.mk (Kd.R_lower (Kd.R_newB ho0 (g := gb224) (o := .cells #[.int .i64 ((rd_T48 l0 a1).f0), .int .i64 0, .int .i64 0, .int .i64 0, .int .i64 ((rd_T48 l0 a1).f4), .string ((rd_T48 l0 a1).f5), .string ((rd_T48 l0 a1).f6)] 48 (0, 0)) (bk0 BK224.out)) (below_size (bb1 GE224.out)))
             have n7_ := Aside0.mk (blk_below (g := gb224) (o := .cells #[.int .i64 ((rd_T48 l0 a1).f0), .int .i64 0, .int .i64 0, .int .i64 0, .int .i64 ((rd_T48 l0 a1).f4), .string ((rd_T48 l0 a1).f5), .string ((rd_T48 l0 a1).f6)] 48 (0, 0)) (bk0 BK224.out) hb)
             have n8_ := Aside0.mk (Kd.C_below (by repeat (first | (with_reducible exact HR256_0.out) | (with_reducible refine Kd.C_alloc ?_ _) | (with_reducible refine Kd.C_drewN ?_ _) | (with_reducible refine Kd.C_drew ?_) | exact HR256_0.out)) hb)
             have n9_ := Aside0.mk (Kd.C_below (by repeat (first | (with_reducible exact HR257_0.out) | (with_reducible refine Kd.C_alloc ?_ _) | (with_reducible refine Kd.C_drewN ?_ _) | (with_reducible refine Kd.C_drew ?_) | exact HR257_0.out)) hb)
             have n10_ := Aside0.mk (Kd.C_below (by repeat (first | (with_reducible exact HR258_0.out) | (with_reducible refine Kd.C_alloc ?_ _) | (with_reducible refine Kd.C_drewN ?_ _) | (with_reducible refine Kd.C_drew ?_) | exact HR258_0.out)) hb)
             have n11_ := Aside0.mk (below_step (bb1 GE224.out) hb)
             clear HO_8
             clear HO_9
             clear HL256_0
             clear HL257_0
             clear HL258_0
             clear HO261
             clear BK224
             clear HR256_0
             clear HR257_0
             clear HR258_0
             clear HB
             have HO_8 := n0_
             have HO_9 := n1_
             have HL256_0 := n2_
             have HL257_0 := n3_
             have HL258_0 := n4_
             have HO261 := n5_
             have HO264 := n6_
             have BK224 := n7_
             have HR256_0 := n8_
             have HR257_0 := n9_
             have HR258_0 := n10_
             have HB := n11_
             clear n0_ n1_ n2_ n3_ n4_ n5_ n6_ n7_ n8_ n9_ n10_ n11_
             (try clear hb)
             (try clear hb2)
             (try clear hk)
             (try clear hi)
             (try clear ho0)
             refine hK.out _ _ ⟨(blk_cell BK224.out 0).trans rfl, (blk_cell BK224.out 1).trans rfl, (blk_cell BK224.out 2).trans rfl, (blk_cell BK224.out 3).trans rfl, (blk_cell BK224.out 4).trans rfl, (blk_cell BK224.out 5).trans rfl, (blk_cell BK224.out 6).trans rfl, HS7_, HS8_, HS9_⟩ (fun hHeld => ?_)
             clear hK K
             refine norm_ (a' := ?_) ?_ ?_
             rotate_left
             ·show Act.put _ (some 77) _ = _
              simp only [Act.put, List.setIfInBounds_toArray, List.set_cons_zero, List.set_cons_succ, i64_w, i32_w]
              rfl
             refine pure_ (i := 12) (N := some 6) (v := ?_) (a' := ?_) #[true, true, true, true, true, true, true, true, true, true, true, true, true] rfl rfl (any_of HT_.out (by kernel_rfl)) (fun _ _ _ h => h) (Or.inl ⟨by rfl, ?_⟩) ?_ ?_
             rotate_left
             ·intro w'
              go_simp
              with_reducible rfl
             rotate_left
             ·simp only [Act.put, List.setIfInBounds_toArray, List.set_cons_zero, List.set_cons_succ, i64_w, i32_w]
              rfl
             refine done_ (done_of HT_.out (by kernel_rfl)) ?_
             try go_wp2
             go_ret
             exact ⟨_, er0, by refine ra0 ?_; exact Kd.R_mono HO264.out (fun _ hk => trivial), bb1 GE224.out⟩
            ·rw [if_neg c57] at H
             exact absurd H (by simp)
           ·rw [if_neg c56] at H
            exact absurd H (by simp)
          ·rw [if_neg c55] at H
           exact absurd H (by simp)
   ·rw [if_neg c9] at H
    exact absurd H (by simp)
  ·rw [if_neg c8] at H
   exact absurd H (by simp)

end Go.Proofs.YtoebebgeiahagaaDoor.PFnExactPruneTo
