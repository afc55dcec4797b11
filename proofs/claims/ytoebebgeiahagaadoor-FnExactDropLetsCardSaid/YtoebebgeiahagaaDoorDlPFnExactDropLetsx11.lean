-- Printed by this session's own program (wip/tools)
import Derived.Test.YtoebebgeiahagaaDoorDlPFnExactDropLetsx0
import Derived.Test.YtoebebgeiahagaaDoorDlPFnExactDropLetsx1
import Derived.Test.YtoebebgeiahagaaDoorDlPFnExactDropLetsx8
import Derived.Test.YtoebebgeiahagaaDoorDlPFnExactDropLetsx10
namespace Go.Proofs.YtoebebgeiahagaaDoor.PFnExactDropLets
open Go.RowKit Go.Proofs.YtoebebgeiahagaaDoorW.PrintWords Go.Proofs.YtoebebgeiahagaaDoorW.PrintLast Go.Proofs.YtoebebgeiahagaaDoorW.PrintMore
attribute [local go_sem] max2_int min2_int max_two min_two max_three min_three max_four min_four   -- for this text's walks alone
set_option linter.unusedVariables false
set_option linter.unusedSimpArgs false

attribute [local go_sem high] eqA32
/-! ### spec_UsesOf: function 33 -/
mutual
def spec_UsesOf.l0 : Nat → List (S48) → List Int → Int → Int → Int → Option (List Int)
 | 0, _, _, _, _, _ => none
 | k + 1, x0, x5, x6, x278000, x278001 => if x6 < (x0.length : Int) then ((spec_NodesOk.f k x0).bind fun t281 => (if t281 = true then (spec_UsesOf.j1 k x0 x5 x6 (decide (x278000 ≥ 0)) x278000 x278001) else (spec_UsesOf.j1 k x0 x5 x6 false x278000 x278001))) else (spec_UsesOf.j1 k x0 x5 x6 false x278000 x278001)
def spec_UsesOf.j1 : Nat → List (S48) → List Int → Int → Bool → Int → Int → Option (List Int)
 | 0, _, _, _, _, _, _ => none
 | k + 1, x0, x5, x6, x20, x278000, x278001 => if x20 = true then (if 0 ≤ x6 then (if x6 < (x0.length : Int) then (if ((rd_T48 x0 x6).f0) = 1 then ((spec_BinderOf.f k x0 x6).bind fun bt283 => (if (bt283.1 == x278000 && (bt283.2 == x278001)) = true then (if x5.length < 17592186044416 then (spec_UsesOf.l0 k x0 (x5 ++ [x6]) (wrap64 (x6 + 1)) x278000 x278001) else (none)) else (spec_UsesOf.l0 k x0 x5 (wrap64 (x6 + 1)) x278000 x278001))) else (spec_UsesOf.l0 k x0 x5 (wrap64 (x6 + 1)) x278000 x278001)) else (none)) else (none)) else (some x5)
end
def spec_UsesOf.f (k : Nat) (l0 : List (S48)) (a1_0 : Int) (a1_1 : Int) : Option (List Int) := spec_UsesOf.l0 k l0 (([] : List Int)) 0 a1_0 a1_1
theorem spec_UsesOf.mono_l : ∀ k, (∀ y0 y1 y2 y3 y4, LeO (spec_UsesOf.l0 k y0 y1 y2 y3 y4) (spec_UsesOf.l0 (k + 1) y0 y1 y2 y3 y4)) ∧ (∀ y0 y1 y2 y3 y4 y5, LeO (spec_UsesOf.j1 k y0 y1 y2 y3 y4 y5) (spec_UsesOf.j1 (k + 1) y0 y1 y2 y3 y4 y5))
 | 0 => ⟨fun _ _ _ _ _ r h => by simp [spec_UsesOf.l0] at h, fun _ _ _ _ _ _ r h => by simp [spec_UsesOf.j1] at h⟩
 | k + 1 => by
  obtain ⟨ih0, ih1⟩ := spec_UsesOf.mono_l k
  refine ⟨?_, ?_⟩
  ·intro y0 y1 y2 y3 y4
   unfold spec_UsesOf.l0
   repeat' first
   | (with_reducible exact ih0 _ _ _ _ _)
   | (with_reducible exact ih1 _ _ _ _ _ _)
   | (with_reducible exact spec_BinderOf.mono _ _ _)
   | (with_reducible exact spec_NodesOk.mono _ _)
   | (with_reducible exact LeO.refl _)
   | (with_reducible exact LeO.none _)
   | (with_reducible refine LeO.ite ?_ ?_)
   | (with_reducible refine LeO.bind ?_ (fun _ => ?_))
   | exact ih0 _ _ _ _ _
   | exact ih1 _ _ _ _ _ _
   | exact spec_BinderOf.mono _ _ _
   | exact spec_NodesOk.mono _ _
   | exact LeO.none _
   | refine LeO.ite ?_ ?_
   | refine LeO.bind ?_ (fun _ => ?_)
  ·intro y0 y1 y2 y3 y4 y5
   unfold spec_UsesOf.j1
   repeat' first
   | (with_reducible exact ih0 _ _ _ _ _)
   | (with_reducible exact ih1 _ _ _ _ _ _)
   | (with_reducible exact spec_BinderOf.mono _ _ _)
   | (with_reducible exact spec_NodesOk.mono _ _)
   | (with_reducible exact LeO.refl _)
   | (with_reducible exact LeO.none _)
   | (with_reducible refine LeO.ite ?_ ?_)
   | (with_reducible refine LeO.bind ?_ (fun _ => ?_))
   | exact ih0 _ _ _ _ _
   | exact ih1 _ _ _ _ _ _
   | exact spec_BinderOf.mono _ _ _
   | exact spec_NodesOk.mono _ _
   | exact LeO.none _
   | refine LeO.ite ?_ ?_
   | refine LeO.bind ?_ (fun _ => ?_)
theorem spec_UsesOf.mono : ∀ a0 a1 a2 k, LeO (spec_UsesOf.f k a0 a1 a2) (spec_UsesOf.f (k + 1) a0 a1 a2) := by
 intro a0 a1 a2 k
 obtain ⟨ih0, ih1⟩ := spec_UsesOf.mono_l k
 unfold spec_UsesOf.f
 repeat' first
   | (with_reducible exact ih0 _ _ _ _ _)
   | (with_reducible exact ih1 _ _ _ _ _ _)
   | (with_reducible exact spec_BinderOf.mono _ _ _)
   | (with_reducible exact spec_NodesOk.mono _ _)
   | (with_reducible exact LeO.refl _)
   | (with_reducible exact LeO.none _)
   | (with_reducible refine LeO.ite ?_ ?_)
   | (with_reducible refine LeO.bind ?_ (fun _ => ?_))
   | exact ih0 _ _ _ _ _
   | exact ih1 _ _ _ _ _ _
   | exact spec_BinderOf.mono _ _ _
   | exact spec_NodesOk.mono _ _
   | exact LeO.none _
   | refine LeO.ite ?_ ?_
   | refine LeO.bind ?_ (fun _ => ?_)
def spec_UsesOf.T5 : Bool × List (List Nat × List Nat) := (true, [([], []), ([], []), ([0, 1], [0, 1]), ([2], [2]), ([3], [3]), ([4], [4]), ([5], [5]), ([6], [6]), ([6], [6]), ([7, 8, 6, 6], [6, 7, 8]), ([6], [6]), ([9, 10, 6], [6, 9, 10]), ([6, 11], [6, 11])])
def spec_UsesOf.B5 : List Nat := [0, 0, 3, 7, 15, 31, 63, 127, 127, 511, 127, 2047, 4095]
theorem spec_UsesOf.tab5 : rtab .any (opsOf Tryd.f33 5) = spec_UsesOf.T5 := by kernel_rfl
theorem spec_UsesOf.bits5 : waitsOk spec_UsesOf.T5.2 spec_UsesOf.B5 = true := by kernel_rfl
set_option maxHeartbeats 8000000 in
set_option maxRecDepth 100000 in
theorem spec_UsesOf.calls (k : Nat) (A0 : Option Addr) (c0 : Nat) (l0 : List (S48)) (a1_0 : Int) (a1_1 : Int) (r : List Int) (w : World) (hr0 : Kd.C k48 w A0 l0.length l0) (hc0 : l0.length ≤ c0) (h : spec_UsesOf.f k l0 a1_0 a1_1 = some r) :
  Calls Tryd.prog 33 #[.slice A0 l0.length c0, .agg #[.int .i64 a1_0, .int .i64 a1_1]] w fun e w' => ∃ v0_ : Value, e = .returned (v0_) ∧ Kd.R (Kd.int .i64) 3 w' w.heap.size (fun _ => True) v0_ r ∧ Below w.heap.size w w' := by
 have hu32 := Tryd.underlying32
 have HR0 := Aside0.mk hr0
 have HC0 := Aside0.mk hc0
 clear hr0 hc0
 have HB := Aside0.mk (Below.refl w.heap.size w)
 have H := h; unfold spec_UsesOf.f at H
 clear h
 obtain ⟨y278, hy278⟩ : ∃ y_ : List Int, y_ = (([] : List Int)) := ⟨_, rfl⟩
 replace H : (spec_UsesOf.l0 k l0 y278 0 a1_0 a1_1) = some r := by first | (rw [hy278]; with_reducible exact H) | (have H2_ := (Option.bind_some _ _).symm.trans H; rw [hy278]; with_reducible exact H2_) | (have H2_ := (Option.bind_some _ _).symm.trans H; with_reducible exact H2_) | with_reducible exact H | (rw [hy278]; exact H) | exact H
 have Ny278 := Aside0.mk hy278
 clear hy278
 have H' := Aside0.mk H
 clear H
 go_enter Tryd.func33, Tryd.ntmps33
 go_wp2_with (first | ((with_reducible refine gate_dst (N := 3) rfl ?_); refine box_event ?hg (N := 3) ?hd (cs := #[.int .i64 a1_0, .int .i64 a1_1]) (t := 32) ?hr ?_; (case hd => rfl); (case hg => rfl); (case hr => first | (go_simp; done) | (go_simp; rfl)); intro gb277 hg w3 hbox hb; have BK277 := Aside0.mk (hbox); have GW277 := Aside0.mk ((by rw [hg]; exact (below_size bb0) : w.heap.size ≤ gb277)); have GE277 := Aside0.mk ((by rw [hg]; exact (below_size bb0) : w.heap.size ≤ gb277)); replace HB := Aside0.mk (below_step bb0 hb); clear hb hbox hg) | ((with_reducible refine gate_dst (N := 7) rfl ?_); refine Kd.R_lit (Kd.int .i64) _ 3 ?hg (N := 7) ?hd (xs := ([] : List Int)) (inner := []) (ok := fun _ => True) (okp := fun _ => True) ?hr ?hp (fun _ hk => hk) trivial (Below.refl _ _) (Nat.le_refl _) (by simp) ?_; (case hd => rfl); (case hg => rfl); (case hr => first | (go_simp; done) | (go_simp; rfl)); (case hp => exact (Reps.none _ _)); intro v279 w4 ho5 hb hg_ hnew_; clear hg_ hnew_; (first | rw [← Ny278.out] at ho5 | (simp only [Int.reduceToNat] at ho5; rw [← Ny278.out] at ho5)); have HO280 := Aside0.mk (Kd.R_lower ho5 (below_size (bb1 GE277.out))); replace BK277 := Aside0.mk (blk_below (g := gb277) (bk0 BK277.out) hb); replace HB := Aside0.mk (below_step (bb1 GE277.out) hb); clear hb ho5))
 go_simp
 go_loopg [5, 6] k (fun kq v5 v6 w' => ∃ (x5_1 : List Int) (x6_1 : Int), v6 = .int .i64 x6_1 ∧ Aside0 (spec_UsesOf.l0 kq l0 x5_1 x6_1 a1_0 a1_1 = some r) ∧ Aside0 (kq ≤ k) ∧ Aside0 (Kd.R (Kd.int .i64) 3 w' w.heap.size (fun _ => True) v5 x5_1) ∧ Aside0 (w'.heap[gb277]? = some (.cells #[.int .i64 a1_0, .int .i64 a1_1] 32 (0, 0))) ∧ Aside0 (Below w.heap.size w w'))
 case atStart => exact ⟨(y278), (0), rs0, H', ⟨Nat.le_refl _⟩, ⟨by refine ra0 ?_; exact HO280.out⟩, ⟨by refine bk0 ?_; exact BK277.out⟩, ⟨bb1 GE277.out⟩⟩
 case round =>
  clear H'
  try clear p2
  try clear c3
  obtain ⟨x5_1, x6_1, rfl, HA, HK1, HO_5, BK277, HB⟩ := hrel
  cases gk with
  | zero => exact absurd HA.out (by simp [spec_UsesOf.l0])
  | succ k1 =>
   have H := HA.out
   clear HA
   simp only [spec_UsesOf.l0] at H
   have HC6 := Aside0.mk H
   clear H
   go_upto_region 3 with (fail)
   go_cut [20] (fun v20 wc => ∃ (kq : Nat) (x20_5 : Bool), v20 = .bool x20_5 ∧ Aside0 (spec_UsesOf.j1 kq l0 x5_1 x6_1 x20_5 a1_0 a1_1 = some r) ∧ Aside0 (kq ≤ k1) ∧ Aside0 (Kd.R (Kd.int .i64) 3 wc w.heap.size (fun _ => True) u5 x5_1) ∧ Aside0 (wc.heap[gb277]? = some (.cells #[.int .i64 a1_0, .int .i64 a1_1] 32 (0, 0))) ∧ Aside0 (Below w.heap.size w wc))
   case first =>
    have H := HC6.out
    clear HC6
    by_cases c7 : x6_1 < (l0.length : Int)
    ·rw [if_pos c7] at H
     have c7b0 := decide_eq_true c7
     clear c7
     (first | rw [c7b0] | (simp only [i64_w, i32_w]; rw [c7b0]) | skip)
     obtain ⟨t281, A8, H⟩ := bx H
     by_cases c9 : t281 = true
     ·subst c9
      rw [if_pos rfl] at H
      have H' := Aside0.mk H
      clear H
      go_wp2_with (first | (go_at_call 25; (with_reducible refine (spec_NodesOk.calls k1 _ _ l0 true _ ?side1 ?side2 A8.out).mono ?_); (case side1 => exact cc0 (Kd.C_below HR0.out HB.out)); (case side2 => exact HC0.out); rintro e w10 ⟨rfl, hb⟩; replace HO_5 := Aside0.mk (Kd.R_below (ra0 HO_5.out) hb); replace BK277 := Aside0.mk (blk_below (g := gb277) (bk0 BK277.out) hb); replace HB := Aside0.mk (below_step (bb1 GE277.out) hb); clear hb; obtain ⟨hcz11_0, hcz11_1⟩ := cells2 BK277.out; obtain ⟨hfz11_0, hfz11_1⟩ := frz2 BK277.out))
      go_meet
      case rel => exact ⟨_, (decide (a1_0 ≥ 0)), rs0, H', ⟨by have := HK1.out; first | omega | exact Nat.le_refl _⟩, ⟨by refine ra0 ?_; exact HO_5.out⟩, ⟨by refine bk0 ?_; exact BK277.out⟩, ⟨bb1 GE277.out⟩⟩
     ·replace c9 := Bool.eq_false_iff.mpr c9
      subst c9
      rw [if_neg (show ¬ (false = true) by decide)] at H
      have H' := Aside0.mk H
      clear H
      go_wp2_with (first | (go_at_call 25; (with_reducible refine (spec_NodesOk.calls k1 _ _ l0 false _ ?side1 ?side2 A8.out).mono ?_); (case side1 => exact cc0 (Kd.C_below HR0.out HB.out)); (case side2 => exact HC0.out); rintro e w12 ⟨rfl, hb⟩; replace HO_5 := Aside0.mk (Kd.R_below (ra0 HO_5.out) hb); replace BK277 := Aside0.mk (blk_below (g := gb277) (bk0 BK277.out) hb); replace HB := Aside0.mk (below_step (bb1 GE277.out) hb); clear hb))
      go_meet
      case rel => exact ⟨_, (false), rs0, H', ⟨by have := HK1.out; first | omega | exact Nat.le_refl _⟩, ⟨by refine ra0 ?_; exact HO_5.out⟩, ⟨by refine bk0 ?_; exact BK277.out⟩, ⟨bb1 GE277.out⟩⟩
    ·rw [if_neg c7] at H
     have c7b0 := decide_eq_false c7
     clear c7
     (first | rw [c7b0] | (simp only [i64_w, i32_w]; rw [c7b0]) | skip)
     have H' := Aside0.mk H
     clear H
     go_wp2
     go_meet
     case rel => exact ⟨_, (false), rs0, H', ⟨by have := HK1.out; first | omega | exact Nat.le_refl _⟩, ⟨by refine ra0 ?_; exact HO_5.out⟩, ⟨by refine bk0 ?_; exact BK277.out⟩, ⟨bb1 GE277.out⟩⟩
   case rest =>
    clear HC6
    try clear p2
    try clear c3
    try clear c7
    try clear c7b0
    try clear c9
    try clear hcz11_0
    try clear hcz11_1
    try clear hfz11_0
    try clear hfz11_1
    try clear p2
    obtain ⟨kq, x20_5, rfl, HA, HJ5, HO_5, BK277, HB⟩ := hcut
    cases kq with
    | zero => exact absurd HA.out (by simp [spec_UsesOf.j1])
    | succ kj5 =>
     have H := HA.out
     clear HA
     simp only [spec_UsesOf.j1] at H
     by_cases c13 : x20_5 = true
     ·subst c13
      rw [if_pos rfl] at H
      by_cases c14 : 0 ≤ x6_1
      ·rw [if_pos c14] at H
       have c14b0 := decide_eq_true c14
       clear c14
       by_cases c15 : x6_1 < (l0.length : Int)
       ·rw [if_pos c15] at H
        have c15b0 := decide_eq_true c15
        clear c15
        by_cases c16 : ((rd_T48 l0 x6_1).f0) = 1
        ·rw [if_pos c16] at H
         obtain ⟨c16b0, c16b1⟩ := eqT c16
         clear c16
         obtain ⟨⟨t283, t284⟩, A17, H⟩ := bx H; dsimp only at H
         by_cases c18 : (t283 == a1_0 && (t284 == a1_1)) = true
         ·rw [if_pos c18] at H
          have c18b0 : (t283 == a1_0 && (t284 == a1_1)) = true := c18
          (try (have c18b1 : decide (t283 = a1_0 && (t284 == a1_1)) = true := by simpa using c18))
          (try (have c18b2 : (t283 == a1_0 && (t284 == a1_1)) = true := by simpa using c18))
          clear c18
          by_cases c19 : x5_1.length < 17592186044416
          ·rw [if_pos c19] at H
           have LMc19 := Aside0.mk c19
           clear c19
           obtain ⟨y285, hy285⟩ : ∃ y_ : List Int, y_ = (x5_1 ++ [x6_1]) := ⟨_, rfl⟩
           replace H : (spec_UsesOf.l0 kj5 l0 y285 (wrap64 (x6_1 + 1)) a1_0 a1_1) = some r := by first | (rw [hy285]; with_reducible exact H) | (have H2_ := (Option.bind_some _ _).symm.trans H; rw [hy285]; with_reducible exact H2_) | (have H2_ := (Option.bind_some _ _).symm.trans H; with_reducible exact H2_) | with_reducible exact H | (rw [hy285]; exact H) | exact H
           have Ny285 := Aside0.mk hy285
           clear hy285
           have H' := Aside0.mk H
           clear H
           try go_wp2
           replace HO_5 := Aside0.mk (Kd.R_drew HO_5.out)
           replace BK277 := Aside0.mk (blk_drew BK277.out)
           replace HB := Aside0.mk (below_drew1 HB.out)
           have p282 : 0 ≤ (x6_1 : Int) := of_decide_eq_true as0
           have q282 : x6_1 < (l0.length : Int) := of_decide_eq_true as0
           obtain ⟨ad282, e282, hx282_0, hx282_1, hx282_2, hx282_3, hx282_4, hx282_5, hx282_6⟩ := at_T48 HR0.out x6_1 p282 q282
           have hw282_6 := hx282_6
           have hw282_5 := hx282_5
           have hw282_4 := hx282_4
           have hw282_3 := hx282_3
           have hw282_2 := hx282_2
           have hw282_1 := hx282_1
           have hw282_0 := hx282_0
           cases e282
           replace hx282_0 := hbc HB hx282_0
           replace hx282_1 := hbc HB hx282_1
           replace hx282_2 := hbc HB hx282_2
           replace hx282_3 := hbc HB hx282_3
           replace hx282_4 := hbc HB hx282_4
           replace hx282_5 := hbc HB hx282_5
           replace hx282_6 := hbc HB hx282_6
           replace p282 := eq_true p282
           replace q282 := eq_true q282
           refine start_ (n := 13) (S := fun w' => w'.cell? ⟨gb277, 0, none⟩ = some (.int .i64 a1_0) ∧ w'.cell? ⟨gb277, 1, none⟩ = some (.int .i64 a1_1) ∧ w'.cell? (ad282.add ((x6_1).toNat * 7)) = some (.int .i64 ((rd_T48 l0 x6_1).f0)) ∧ w'.cell? ⟨(ad282.add ((x6_1).toNat * 7)).block, (ad282.add ((x6_1).toNat * 7)).off + 1, none⟩ = some (.int .i64 ((rd_T48 l0 x6_1).f1)) ∧ w'.cell? ⟨(ad282.add ((x6_1).toNat * 7)).block, (ad282.add ((x6_1).toNat * 7)).off + 2, none⟩ = some (.int .i64 ((rd_T48 l0 x6_1).f2)) ∧ w'.cell? ⟨(ad282.add ((x6_1).toNat * 7)).block, (ad282.add ((x6_1).toNat * 7)).off + 3, none⟩ = some (.int .i64 ((rd_T48 l0 x6_1).f3)) ∧ w'.cell? ⟨(ad282.add ((x6_1).toNat * 7)).block, (ad282.add ((x6_1).toNat * 7)).off + 4, none⟩ = some (.int .i64 ((rd_T48 l0 x6_1).f4)) ∧ w'.cell? ⟨(ad282.add ((x6_1).toNat * 7)).block, (ad282.add ((x6_1).toNat * 7)).off + 5, none⟩ = some (.string ((rd_T48 l0 x6_1).f5)) ∧ w'.cell? ⟨(ad282.add ((x6_1).toNat * 7)).block, (ad282.add ((x6_1).toNat * 7)).off + 6, none⟩ = some (.string ((rd_T48 l0 x6_1).f6))) (ds := []) #[false, false, false, false, false, false, false, false, false, false, false, false, false] (by kernel_rfl) rfl rfl ⟨(blk_cell BK277.out 0).trans rfl, (blk_cell BK277.out 1).trans rfl, (hbc HB hw282_0), (hbc HB hw282_1), (hbc HB hw282_2), (hbc HB hw282_3), (hbc HB hw282_4), (hbc HB hw282_5), (hbc HB hw282_6)⟩ (fun hHeld => ?_); refine with_tabW spec_UsesOf.tab5 spec_UsesOf.bits5 (fun HT_ HW_ => ?_)
           generalize wc.drew = w20 at HO_5 BK277 HB hx282_0 hx282_1 hx282_2 hx282_3 hx282_4 hx282_5 hx282_6 hHeld ⊢
           refine pu_ 0 23 HT_ ?_
           refine pu_ 1 24 HT_ ?_
           refine pu_ 2 25 HT_ ?_
           refine pu_ 3 26 HT_ ?_
           refine tk_ 4 27 HT_ HW_ hHeld ?_
           refine pu_ 5 28 HT_ ?_
           refine pu_ 6 29 HT_ ?_
           refine pu_ 7 30 HT_ ?_
           refine pu_ 8 31 HT_ ?_
           refine tk_ 10 33 HT_ HW_ hHeld ?_
           refine on_ 9 32 HT_ fun K hK => ?_
           refine goes_ Tryd.func47 (by kernel_rfl) rfl #[.slice (some ad282) l0.length c0, .int .i64 x6_1] (by rfl) rfl rfl mm0 ?_
           with_reducible refine (spec_BinderOf.calls kj5 _ _ l0 x6_1 t283 t284 _ ?side1 ?side2 A17.out).mono ?_
           (case side1 => exact cc0 (Kd.C_below HR0.out HB.out))
           (case side2 => exact HC0.out)
           rintro e w21 ⟨rfl, hb⟩
           refine ⟨_, rfl, ?_⟩
           replace HO_5 := Aside0.mk (Kd.R_below (ra0 HO_5.out) hb)
           replace BK277 := Aside0.mk (blk_below (g := gb277) (bk0 BK277.out) hb)
           replace HB := Aside0.mk (below_step (bb1 GE277.out) hb)
           clear hb
           refine hK.out _ _ ⟨(blk_cell BK277.out 0).trans rfl, (blk_cell BK277.out 1).trans rfl, (hbc HB hw282_0), (hbc HB hw282_1), (hbc HB hw282_2), (hbc HB hw282_3), (hbc HB hw282_4), (hbc HB hw282_5), (hbc HB hw282_6)⟩ (fun hHeld => ?_)
           clear hK K
           refine nm_ ?_
           refine pu_ 11 34 HT_ ?_
           refine pu_ 12 35 HT_ ?_
           refine done_ (done_of HT_.out (by kernel_rfl)) ?_
           try go_wp2_with (first | ((with_reducible refine gate_builtin (b := .append) (xs := #[(.tmp 36), .tmp 38]) rfl ?_); at_builtin; refine Kd.R_append (Kd.int .i64) (w0 := w) w.heap.size rfl (.tmp 36) (.tmp 38) 35 3 (.int .i64 0) 8 rfl Tryd.underlying35 info3 rfl (by decide) (by omega) u5 x5_1 x6_1 [.int .i64 x6_1] (fun _ => True) (fun _ => False) rfl rfl ?aP (fun _ hk => hk.elim) ?aF ?aO ?aB ?aS ?aL ?_; (case aP => exact rfl); (case aB => exact (bb1 GE277.out)); (case aF => exact (fun _ _ => trivial)); (case aO => exact (ra0 HO_5.out)); (case aS => exact (below_size (bb1 GE277.out))); (case aL => have := LMc19.out; omega); intro v286 w22 ho hb hg hat; rw [← Ny285.out] at ho; have n0_ := Aside0.mk (blk_grown (g := gb277) (bk0 BK277.out) hg (Kd.R_ne HO_5.out BK277.out (by decide))); have n1_ := Aside0.mk (hb); have n2_ := Aside0.mk (ho); clear BK277; clear HB; clear HO_5; have BK277 := n0_; have HB := n1_; have HO287 := n2_; clear n0_ n1_ n2_; clear ho hb hg hat))
           go_roundg kj5
           case measure => have := HK1.out; have := HJ5.out; omega
           case rel => exact ⟨(y285), (wrap64 (x6_1 + 1)), rs0, H', ⟨by have := HK1.out; have := HJ5.out; omega⟩, ⟨by refine ra0 ?_; exact HO287.out⟩, ⟨by refine bk0 ?_; exact BK277.out⟩, ⟨bb1 GE277.out⟩⟩
          ·rw [if_neg c19] at H
           exact absurd H (by simp)
         ·rw [if_neg c18] at H
          have c18b0 : (t283 == a1_0 && (t284 == a1_1)) = false := by simpa using c18
          (try (have c18b1 : decide (t283 = a1_0 && (t284 == a1_1)) = false := by simpa using c18))
          (try (have c18b2 : (t283 == a1_0 && (t284 == a1_1)) = false := by simpa using c18))
          (try (have c18b3 : ¬ (t283 = a1_0 && (t284 == a1_1)) := by simpa using c18))
          clear c18
          have H' := Aside0.mk H
          clear H
          try go_wp2
          replace HO_5 := Aside0.mk (Kd.R_drew HO_5.out)
          replace BK277 := Aside0.mk (blk_drew BK277.out)
          replace HB := Aside0.mk (below_drew1 HB.out)
          have p282 : 0 ≤ (x6_1 : Int) := of_decide_eq_true as0
          have q282 : x6_1 < (l0.length : Int) := of_decide_eq_true as0
          obtain ⟨ad282, e282, hx282_0, hx282_1, hx282_2, hx282_3, hx282_4, hx282_5, hx282_6⟩ := at_T48 HR0.out x6_1 p282 q282
          have hw282_6 := hx282_6
          have hw282_5 := hx282_5
          have hw282_4 := hx282_4
          have hw282_3 := hx282_3
          have hw282_2 := hx282_2
          have hw282_1 := hx282_1
          have hw282_0 := hx282_0
          cases e282
          replace hx282_0 := hbc HB hx282_0
          replace hx282_1 := hbc HB hx282_1
          replace hx282_2 := hbc HB hx282_2
          replace hx282_3 := hbc HB hx282_3
          replace hx282_4 := hbc HB hx282_4
          replace hx282_5 := hbc HB hx282_5
          replace hx282_6 := hbc HB hx282_6
          replace p282 := eq_true p282
          replace q282 := eq_true q282
          refine start_ (n := 13) (S := fun w' => w'.cell? ⟨gb277, 0, none⟩ = some (.int .i64 a1_0) ∧ w'.cell? ⟨gb277, 1, none⟩ = some (.int .i64 a1_1) ∧ w'.cell? (ad282.add ((x6_1).toNat * 7)) = some (.int .i64 ((rd_T48 l0 x6_1).f0)) ∧ w'.cell? ⟨(ad282.add ((x6_1).toNat * 7)).block, (ad282.add ((x6_1).toNat * 7)).off + 1, none⟩ = some (.int .i64 ((rd_T48 l0 x6_1).f1)) ∧ w'.cell? ⟨(ad282.add ((x6_1).toNat * 7)).block, (ad282.add ((x6_1).toNat * 7)).off + 2, none⟩ = some (.int .i64 ((rd_T48 l0 x6_1).f2)) ∧ w'.cell? ⟨(ad282.add ((x6_1).toNat * 7)).block, (ad282.add ((x6_1).toNat * 7)).off + 3, none⟩ = some (.int .i64 ((rd_T48 l0 x6_1).f3)) ∧ w'.cell? ⟨(ad282.add ((x6_1).toNat * 7)).block, (ad282.add ((x6_1).toNat * 7)).off + 4, none⟩ = some (.int .i64 ((rd_T48 l0 x6_1).f4)) ∧ w'.cell? ⟨(ad282.add ((x6_1).toNat * 7)).block, (ad282.add ((x6_1).toNat * 7)).off + 5, none⟩ = some (.string ((rd_T48 l0 x6_1).f5)) ∧ w'.cell? ⟨(ad282.add ((x6_1).toNat * 7)).block, (ad282.add ((x6_1).toNat * 7)).off + 6, none⟩ = some (.string ((rd_T48 l0 x6_1).f6))) (ds := []) #[false, false, false, false, false, false, false, false, false, false, false, false, false] (by kernel_rfl) rfl rfl ⟨(blk_cell BK277.out 0).trans rfl, (blk_cell BK277.out 1).trans rfl, (hbc HB hw282_0), (hbc HB hw282_1), (hbc HB hw282_2), (hbc HB hw282_3), (hbc HB hw282_4), (hbc HB hw282_5), (hbc HB hw282_6)⟩ (fun hHeld => ?_); refine with_tabW spec_UsesOf.tab5 spec_UsesOf.bits5 (fun HT_ HW_ => ?_)
          generalize wc.drew = w23 at HO_5 BK277 HB hx282_0 hx282_1 hx282_2 hx282_3 hx282_4 hx282_5 hx282_6 hHeld ⊢
          refine pu_ 0 23 HT_ ?_
          refine pu_ 1 24 HT_ ?_
          refine pu_ 2 25 HT_ ?_
          refine pu_ 3 26 HT_ ?_
          refine tk_ 4 27 HT_ HW_ hHeld ?_
          refine pu_ 5 28 HT_ ?_
          refine pu_ 6 29 HT_ ?_
          refine pu_ 7 30 HT_ ?_
          refine pu_ 8 31 HT_ ?_
          refine tk_ 10 33 HT_ HW_ hHeld ?_
          refine on_ 9 32 HT_ fun K hK => ?_
          refine goes_ Tryd.func47 (by kernel_rfl) rfl #[.slice (some ad282) l0.length c0, .int .i64 x6_1] (by rfl) rfl rfl mm0 ?_
          with_reducible refine (spec_BinderOf.calls kj5 _ _ l0 x6_1 t283 t284 _ ?side1 ?side2 A17.out).mono ?_
          (case side1 => exact cc0 (Kd.C_below HR0.out HB.out))
          (case side2 => exact HC0.out)
          rintro e w24 ⟨rfl, hb⟩
          refine ⟨_, rfl, ?_⟩
          replace HO_5 := Aside0.mk (Kd.R_below (ra0 HO_5.out) hb)
          replace BK277 := Aside0.mk (blk_below (g := gb277) (bk0 BK277.out) hb)
          replace HB := Aside0.mk (below_step (bb1 GE277.out) hb)
          clear hb
          refine hK.out _ _ ⟨(blk_cell BK277.out 0).trans rfl, (blk_cell BK277.out 1).trans rfl, (hbc HB hw282_0), (hbc HB hw282_1), (hbc HB hw282_2), (hbc HB hw282_3), (hbc HB hw282_4), (hbc HB hw282_5), (hbc HB hw282_6)⟩ (fun hHeld => ?_)
          clear hK K
          refine nm_ ?_
          refine pu_ 11 34 HT_ ?_
          refine pu_ 12 35 HT_ ?_
          refine done_ (done_of HT_.out (by kernel_rfl)) ?_
          try go_wp2
          go_roundg kj5
          case measure => have := HK1.out; have := HJ5.out; omega
          case rel => exact ⟨(x5_1), (wrap64 (x6_1 + 1)), rs0, H', ⟨by have := HK1.out; have := HJ5.out; omega⟩, ⟨by refine ra0 ?_; exact HO_5.out⟩, ⟨by refine bk0 ?_; exact BK277.out⟩, ⟨bb1 GE277.out⟩⟩
        ·rw [if_neg c16] at H
         obtain ⟨c16b0, c16b1⟩ := eqF c16
         have H' := Aside0.mk H
         clear H
         try go_wp2
         replace HO_5 := Aside0.mk (Kd.R_drew HO_5.out)
         replace BK277 := Aside0.mk (blk_drew BK277.out)
         replace HB := Aside0.mk (below_drew1 HB.out)
         have p282 : 0 ≤ (x6_1 : Int) := of_decide_eq_true as0
         have q282 : x6_1 < (l0.length : Int) := of_decide_eq_true as0
         obtain ⟨ad282, e282, hx282_0, hx282_1, hx282_2, hx282_3, hx282_4, hx282_5, hx282_6⟩ := at_T48 HR0.out x6_1 p282 q282
         have hw282_6 := hx282_6
         have hw282_5 := hx282_5
         have hw282_4 := hx282_4
         have hw282_3 := hx282_3
         have hw282_2 := hx282_2
         have hw282_1 := hx282_1
         have hw282_0 := hx282_0
         cases e282
         replace hx282_0 := hbc HB hx282_0
         replace hx282_1 := hbc HB hx282_1
         replace hx282_2 := hbc HB hx282_2
         replace hx282_3 := hbc HB hx282_3
         replace hx282_4 := hbc HB hx282_4
         replace hx282_5 := hbc HB hx282_5
         replace hx282_6 := hbc HB hx282_6
         replace p282 := eq_true p282
         replace q282 := eq_true q282
         refine start_ (n := 13) (S := fun w' => w'.cell? (ad282.add ((x6_1).toNat * 7)) = some (.int .i64 ((rd_T48 l0 x6_1).f0)) ∧ w'.cell? ⟨(ad282.add ((x6_1).toNat * 7)).block, (ad282.add ((x6_1).toNat * 7)).off + 1, none⟩ = some (.int .i64 ((rd_T48 l0 x6_1).f1)) ∧ w'.cell? ⟨(ad282.add ((x6_1).toNat * 7)).block, (ad282.add ((x6_1).toNat * 7)).off + 2, none⟩ = some (.int .i64 ((rd_T48 l0 x6_1).f2)) ∧ w'.cell? ⟨(ad282.add ((x6_1).toNat * 7)).block, (ad282.add ((x6_1).toNat * 7)).off + 3, none⟩ = some (.int .i64 ((rd_T48 l0 x6_1).f3)) ∧ w'.cell? ⟨(ad282.add ((x6_1).toNat * 7)).block, (ad282.add ((x6_1).toNat * 7)).off + 4, none⟩ = some (.int .i64 ((rd_T48 l0 x6_1).f4)) ∧ w'.cell? ⟨(ad282.add ((x6_1).toNat * 7)).block, (ad282.add ((x6_1).toNat * 7)).off + 5, none⟩ = some (.string ((rd_T48 l0 x6_1).f5)) ∧ w'.cell? ⟨(ad282.add ((x6_1).toNat * 7)).block, (ad282.add ((x6_1).toNat * 7)).off + 6, none⟩ = some (.string ((rd_T48 l0 x6_1).f6))) (ds := []) #[false, false, false, false, false, false, false, false, false, false, false, false, false] (by kernel_rfl) rfl rfl ⟨(hbc HB hw282_0), (hbc HB hw282_1), (hbc HB hw282_2), (hbc HB hw282_3), (hbc HB hw282_4), (hbc HB hw282_5), (hbc HB hw282_6)⟩ (fun hHeld => ?_); refine with_tabW spec_UsesOf.tab5 spec_UsesOf.bits5 (fun HT_ HW_ => ?_)
         generalize wc.drew = w25 at HO_5 BK277 HB hx282_0 hx282_1 hx282_2 hx282_3 hx282_4 hx282_5 hx282_6 hHeld ⊢
         refine pu_ 0 23 HT_ ?_
         refine pu_ 1 24 HT_ ?_
         refine pu_ 2 25 HT_ ?_
         refine pu_ 3 26 HT_ ?_
         refine tk_ 4 27 HT_ HW_ hHeld ?_
         refine pu_ 5 28 HT_ ?_
         refine pu_ 6 29 HT_ ?_
         refine pn_ 7 30 HT_ ?_
         refine pn_ 8 31 HT_ ?_
         refine pn_ 9 32 HT_ ?_
         refine pn_ 10 33 HT_ ?_
         refine pn_ 11 34 HT_ ?_
         refine pu_ 12 35 HT_ ?_
         refine done_ (done_of HT_.out (by kernel_rfl)) ?_
         try go_wp2
         go_roundg kj5
         case measure => have := HK1.out; have := HJ5.out; omega
         case rel => exact ⟨(x5_1), (wrap64 (x6_1 + 1)), rs0, H', ⟨by have := HK1.out; have := HJ5.out; omega⟩, ⟨by refine ra0 ?_; exact HO_5.out⟩, ⟨by refine bk0 ?_; exact BK277.out⟩, ⟨bb1 GE277.out⟩⟩
       ·rw [if_neg c15] at H
        exact absurd H (by simp)
      ·rw [if_neg c14] at H
       exact absurd H (by simp)
     ·replace c13 := Bool.eq_false_iff.mpr c13
      subst c13
      rw [if_neg (show ¬ (false = true) by decide)] at H
      obtain rfl := Option.some.inj H
      go_wp2
      go_ret
      exact ⟨_, er0, by refine ra0 ?_; exact HO_5.out, bb1 GE277.out⟩

/-! ### spec_UsedName: function 12 -/
def spec_UsedName.f (k : Nat) (l0 : List (S48)) (a1_0 : Int) (a1_1 : Int) : Option (Bool) := (spec_UsesOf.f k l0 a1_0 a1_1).bind fun t289 => (some (decide ((t289.length : Int) > 0)))
theorem spec_UsedName.mono : ∀ a0 a1 a2 k, LeO (spec_UsedName.f k a0 a1 a2) (spec_UsedName.f (k + 1) a0 a1 a2) := by
 intro a0 a1 a2 k
 unfold spec_UsedName.f
 repeat' first
   | (with_reducible exact spec_UsesOf.mono _ _ _ _)
   | (with_reducible exact LeO.refl _)
   | (with_reducible exact LeO.none _)
   | (with_reducible refine LeO.ite ?_ ?_)
   | (with_reducible refine LeO.bind ?_ (fun _ => ?_))
   | exact spec_UsesOf.mono _ _ _ _
   | exact LeO.none _
   | refine LeO.ite ?_ ?_
   | refine LeO.bind ?_ (fun _ => ?_)
set_option maxHeartbeats 8000000 in
set_option maxRecDepth 100000 in
theorem spec_UsedName.calls (k : Nat) (A0 : Option Addr) (c0 : Nat) (l0 : List (S48)) (a1_0 : Int) (a1_1 : Int) (r : Bool) (w : World) (hr0 : Kd.C k48 w A0 l0.length l0) (hc0 : l0.length ≤ c0) (h : spec_UsedName.f k l0 a1_0 a1_1 = some r) :
  Calls Tryd.prog 12 #[.slice A0 l0.length c0, .agg #[.int .i64 a1_0, .int .i64 a1_1]] w fun e w' => e = .returned (.bool r) ∧ Below w.heap.size w w' := by
 have hu32 := Tryd.underlying32
 have HR0 := Aside0.mk hr0
 have HC0 := Aside0.mk hc0
 clear hr0 hc0
 have HB := Aside0.mk (Below.refl w.heap.size w)
 have H := h; unfold spec_UsedName.f at H
 clear h
 obtain ⟨t289, A3, H⟩ := bx H
 obtain rfl := Option.some.inj H
 go_enter Tryd.func12, Tryd.ntmps12
 go_wp2_with (first | ((with_reducible refine gate_dst (N := 3) rfl ?_); refine box_event ?hg (N := 3) ?hd (cs := #[.int .i64 a1_0, .int .i64 a1_1]) (t := 32) ?hr ?_; (case hd => rfl); (case hg => rfl); (case hr => first | (go_simp; done) | (go_simp; rfl)); intro gb288 hg w4 hbox hb; have BK288 := Aside0.mk (hbox); have GW288 := Aside0.mk ((by rw [hg]; exact (below_size bb0) : w.heap.size ≤ gb288)); have GE288 := Aside0.mk ((by rw [hg]; exact (below_size bb0) : w.heap.size ≤ gb288)); replace HB := Aside0.mk (below_step bb0 hb); clear hb hbox hg; obtain ⟨hcz5_0, hcz5_1⟩ := cells2 BK288.out; obtain ⟨hfz5_0, hfz5_1⟩ := frz2 BK288.out) | ((with_reducible refine gate_callee (f := 33) rfl ?_); refine goesL_ (some 7) rfl rfl Tryd.func33 (by kernel_rfl) rfl #[.slice A0 l0.length c0, .agg #[.int .i64 a1_0, .int .i64 a1_1]] rfl mm0 ?_; (with_reducible refine (spec_UsesOf.calls k _ _ l0 a1_0 a1_1 t289 _ ?side1 ?side2 A3.out).mono ?_); (case side1 => exact cc0 (Kd.C_below HR0.out HB.out)); (case side2 => exact HC0.out); rintro e w6 ⟨v290, rfl, ho0, hb⟩; refine ⟨_, rfl, ?_⟩; have HO291 := Aside0.mk (Kd.R_lower ho0 (below_size (bb1 GE288.out))); replace BK288 := Aside0.mk (blk_below (g := gb288) (bk0 BK288.out) hb); replace HB := Aside0.mk (below_step (bb1 GE288.out) hb); clear hb ho0; obtain ⟨Ao7, co7, eo7⟩ := Kd.R_slice HO291.out; subst eo7))
 go_ret
 exact ⟨er0, bb1 GE288.out⟩

end Go.Proofs.YtoebebgeiahagaaDoor.PFnExactDropLets
