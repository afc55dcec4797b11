-- Printed by this session's own program (wip/tools)
import Derived.Test.YtoebebgeiahagaaDoorDlPFnExactDropLetsx0
import Derived.Test.YtoebebgeiahagaaDoorDlPFnExactDropLetsx3
namespace Go.Proofs.YtoebebgeiahagaaDoor.PFnExactDropLets
open Go.RowKit Go.Proofs.YtoebebgeiahagaaDoorW.PrintWords Go.Proofs.YtoebebgeiahagaaDoorW.PrintLast Go.Proofs.YtoebebgeiahagaaDoorW.PrintMore
attribute [local go_sem] max2_int min2_int max_two min_two max_three min_three max_four min_four   -- for this text's walks alone
set_option linter.unusedVariables false
set_option linter.unusedSimpArgs false

/-! ### laws_heldNodeS: function 21 -/
def laws_heldNodeS.l0 : Nat → List (S48) → Int → Int → Option (Int)
 | 0, _, _, _ => none
 | k + 1, x0, x1, x5 => if x5 < (x0.length : Int) then (if 0 ≤ x5 then (if ((rd_T48 x0 x5).f0) = x1 then (if ((rd_T48 x0 x5).f1) = (wrap64 (x1 + 1)) then (if ((rd_T48 x0 x5).f2) = (wrap64 ((wrap64 (x1 + 1)) + 1)) then (if ((rd_T48 x0 x5).f3) = (wrap64 ((wrap64 ((wrap64 (x1 + 1)) + 1)) + 1)) then (if ((rd_T48 x0 x5).f4) = (wrap64 ((wrap64 ((wrap64 ((wrap64 (x1 + 1)) + 1)) + 1)) + 1)) then ((laws_markText.f k (wrap64 ((wrap64 ((wrap64 ((wrap64 ((wrap64 (x1 + 1)) + 1)) + 1)) + 1)) + 1))).bind fun t142 => (if ((rd_T48 x0 x5).f5).toList = t142.toList then ((laws_markText.f k (wrap64 ((wrap64 ((wrap64 ((wrap64 ((wrap64 ((wrap64 (x1 + 1)) + 1)) + 1)) + 1)) + 1)) + 1))).bind fun t144 => (if ((rd_T48 x0 x5).f6).toList = t144.toList then (laws_heldNodeS.l0 k x0 (wrap64 ((wrap64 ((wrap64 ((wrap64 ((wrap64 ((wrap64 ((wrap64 (x1 + 1)) + 1)) + 1)) + 1)) + 1)) + 1)) + 1)) (wrap64 (x5 + 1))) else (some (-1)))) else (some (-1)))) else (some (-1))) else (some (-1))) else (some (-1))) else (some (-1))) else (some (-1))) else (none)) else (some x1)
def laws_heldNodeS.f (k : Nat) (l0 : List (S48)) (a1 : Int) : Option (Int) := laws_heldNodeS.l0 k l0 a1 0
theorem laws_heldNodeS.mono_l : ∀ k, (∀ y0 y1 y2, LeO (laws_heldNodeS.l0 k y0 y1 y2) (laws_heldNodeS.l0 (k + 1) y0 y1 y2))
 | 0 => fun _ _ _ r h => by simp [laws_heldNodeS.l0] at h
 | k + 1 => by
  have ih0 := laws_heldNodeS.mono_l k
  ·intro y0 y1 y2
   unfold laws_heldNodeS.l0
   repeat' first
   | (with_reducible exact ih0 _ _ _)
   | (with_reducible exact laws_markText.mono _ _)
   | (with_reducible exact LeO.refl _)
   | (with_reducible exact LeO.none _)
   | (with_reducible refine LeO.ite ?_ ?_)
   | (with_reducible refine LeO.bind ?_ (fun _ => ?_))
   | exact ih0 _ _ _
   | exact laws_markText.mono _ _
   | exact LeO.none _
   | refine LeO.ite ?_ ?_
   | refine LeO.bind ?_ (fun _ => ?_)
theorem laws_heldNodeS.mono : ∀ a0 a1 k, LeO (laws_heldNodeS.f k a0 a1) (laws_heldNodeS.f (k + 1) a0 a1) := by
 intro a0 a1 k
 have ih0 := laws_heldNodeS.mono_l k
 unfold laws_heldNodeS.f
 repeat' first
   | (with_reducible exact ih0 _ _ _)
   | (with_reducible exact laws_markText.mono _ _)
   | (with_reducible exact LeO.refl _)
   | (with_reducible exact LeO.none _)
   | (with_reducible refine LeO.ite ?_ ?_)
   | (with_reducible refine LeO.bind ?_ (fun _ => ?_))
   | exact ih0 _ _ _
   | exact laws_markText.mono _ _
   | exact LeO.none _
   | refine LeO.ite ?_ ?_
   | refine LeO.bind ?_ (fun _ => ?_)
def laws_heldNodeS.T19 : Bool × List (List Nat × List Nat) := (true, [([], []), ([], []), ([0, 1], [0, 1]), ([2], [2]), ([3], [3]), ([], []), ([5], [5]), ([4, 6], [4, 6])])
def laws_heldNodeS.B19 : List Nat := [0, 0, 3, 7, 15, 0, 32, 127]
theorem laws_heldNodeS.tab19 : rtab .any (opsOf Tryd.f21 19) = laws_heldNodeS.T19 := by kernel_rfl
theorem laws_heldNodeS.bits19 : waitsOk laws_heldNodeS.T19.2 laws_heldNodeS.B19 = true := by kernel_rfl
def laws_heldNodeS.T22 : Bool × List (List Nat × List Nat) := (true, [([], []), ([], []), ([0, 1], [0, 1]), ([2], [2]), ([3], [3]), ([], []), ([5], [5]), ([4, 6], [4, 6])])
def laws_heldNodeS.B22 : List Nat := [0, 0, 3, 7, 15, 0, 32, 127]
theorem laws_heldNodeS.tab22 : rtab .any (opsOf Tryd.f21 22) = laws_heldNodeS.T22 := by kernel_rfl
theorem laws_heldNodeS.bits22 : waitsOk laws_heldNodeS.T22.2 laws_heldNodeS.B22 = true := by kernel_rfl
set_option maxHeartbeats 8000000 in
set_option maxRecDepth 100000 in
theorem laws_heldNodeS.calls (k : Nat) (A0 : Option Addr) (c0 : Nat) (l0 : List (S48)) (a1 : Int) (r : Int) (w : World) (hr0 : Kd.C k48 w A0 l0.length l0) (hc0 : l0.length ≤ c0) (h : laws_heldNodeS.f k l0 a1 = some r) :
  Calls Tryd.prog 21 #[.slice A0 l0.length c0, .int .i64 a1] w fun e w' => e = .returned (.int .i64 r) ∧ Below w.heap.size w w' := by
 have HR0 := Aside0.mk hr0
 have HC0 := Aside0.mk hc0
 clear hr0 hc0
 have HB := Aside0.mk (Below.refl w.heap.size w)
 have H := h; unfold laws_heldNodeS.f at H
 clear h
 have H' := Aside0.mk H
 clear H
 go_enter Tryd.func21, Tryd.ntmps21
 go_wp2
 go_loopg [1, 5] k (fun kq v1 v5 w' => ∃ (x1_1 : Int) (x5_1 : Int), v1 = .int .i64 x1_1 ∧ v5 = .int .i64 x5_1 ∧ Aside0 (laws_heldNodeS.l0 kq l0 x1_1 x5_1 = some r) ∧ Aside0 (kq ≤ k) ∧ Aside0 (Below w.heap.size w w'))
 case atStart => exact ⟨(a1), (0), rs0, rs0, H', ⟨Nat.le_refl _⟩, ⟨bb0⟩⟩
 case round =>
  clear H'
  try clear c2
  try clear p2
  obtain ⟨x1_1, x5_1, rfl, rfl, HA, HK1, HB⟩ := hrel
  cases gk with
  | zero => exact absurd HA.out (by simp [laws_heldNodeS.l0])
  | succ k1 =>
   have H := HA.out
   clear HA
   simp only [laws_heldNodeS.l0] at H
   by_cases c3 : x5_1 < (l0.length : Int)
   rw [if_pos c3] at H
   have c3b0 := decide_eq_true c3
   clear c3
   by_cases c4 : 0 ≤ x5_1
   rw [if_pos c4] at H
   have c4b0 := decide_eq_true c4
   clear c4
   by_cases c5 : ((rd_T48 l0 x5_1).f0) = x1_1
   rw [if_pos c5] at H
   obtain ⟨c5b0, c5b1⟩ := eqT c5
   clear c5
   by_cases c6 : ((rd_T48 l0 x5_1).f1) = (wrap64 (x1_1 + 1))
   rw [if_pos c6] at H
   obtain ⟨c6b0, c6b1⟩ := eqT c6
   clear c6
   by_cases c7 : ((rd_T48 l0 x5_1).f2) = (wrap64 ((wrap64 (x1_1 + 1)) + 1))
   rw [if_pos c7] at H
   obtain ⟨c7b0, c7b1⟩ := eqT c7
   clear c7
   by_cases c8 : ((rd_T48 l0 x5_1).f3) = (wrap64 ((wrap64 ((wrap64 (x1_1 + 1)) + 1)) + 1))
   rw [if_pos c8] at H
   obtain ⟨c8b0, c8b1⟩ := eqT c8
   clear c8
   by_cases c9 : ((rd_T48 l0 x5_1).f4) = (wrap64 ((wrap64 ((wrap64 ((wrap64 (x1_1 + 1)) + 1)) + 1)) + 1))
   rw [if_pos c9] at H
   obtain ⟨c9b0, c9b1⟩ := eqT c9
   clear c9
   obtain ⟨t142, A10, H⟩ := bx H
   by_cases c11 : ((rd_T48 l0 x5_1).f5).toList = t142.toList
   rw [if_pos c11] at H
   obtain ⟨c11b0, c11b1⟩ := eqT c11
   clear c11
   obtain ⟨t144, A12, H⟩ := bx H
   by_cases c13 : ((rd_T48 l0 x5_1).f6).toList = t144.toList
   ·rw [if_pos c13] at H
    obtain ⟨c13b0, c13b1⟩ := eqT c13
    clear c13
    have H' := Aside0.mk H
    clear H
    have p136 : 0 ≤ (x5_1 : Int) := of_decide_eq_true as0
    have q136 : x5_1 < (l0.length : Int) := of_decide_eq_true as0
    obtain ⟨ad136, e136, hx136_0, hx136_1, hx136_2, hx136_3, hx136_4, hx136_5, hx136_6⟩ := at_T48 HR0.out x5_1 p136 q136
    cases e136
    replace hx136_0 := hbc HB hx136_0
    replace hx136_1 := hbc HB hx136_1
    replace hx136_2 := hbc HB hx136_2
    replace hx136_3 := hbc HB hx136_3
    replace hx136_4 := hbc HB hx136_4
    replace hx136_5 := hbc HB hx136_5
    replace hx136_6 := hbc HB hx136_6
    replace p136 := eq_true p136
    replace q136 := eq_true q136
    have p137 : 0 ≤ (x5_1 : Int) := of_decide_eq_true as0
    have q137 : x5_1 < (l0.length : Int) := of_decide_eq_true as0
    obtain ⟨ad137, e137, hx137_0, hx137_1, hx137_2, hx137_3, hx137_4, hx137_5, hx137_6⟩ := at_T48 HR0.out x5_1 p137 q137
    obtain rfl : ad136 = ad137 := (by injection e137)
    replace hx137_0 := hbc HB hx137_0
    replace hx137_1 := hbc HB hx137_1
    replace hx137_2 := hbc HB hx137_2
    replace hx137_3 := hbc HB hx137_3
    replace hx137_4 := hbc HB hx137_4
    replace hx137_5 := hbc HB hx137_5
    replace hx137_6 := hbc HB hx137_6
    replace p137 := eq_true p137
    replace q137 := eq_true q137
    have p138 : 0 ≤ (x5_1 : Int) := of_decide_eq_true as0
    have q138 : x5_1 < (l0.length : Int) := of_decide_eq_true as0
    obtain ⟨ad138, e138, hx138_0, hx138_1, hx138_2, hx138_3, hx138_4, hx138_5, hx138_6⟩ := at_T48 HR0.out x5_1 p138 q138
    obtain rfl : ad136 = ad138 := (by injection e138)
    replace hx138_0 := hbc HB hx138_0
    replace hx138_1 := hbc HB hx138_1
    replace hx138_2 := hbc HB hx138_2
    replace hx138_3 := hbc HB hx138_3
    replace hx138_4 := hbc HB hx138_4
    replace hx138_5 := hbc HB hx138_5
    replace hx138_6 := hbc HB hx138_6
    replace p138 := eq_true p138
    replace q138 := eq_true q138
    have p139 : 0 ≤ (x5_1 : Int) := of_decide_eq_true as0
    have q139 : x5_1 < (l0.length : Int) := of_decide_eq_true as0
    obtain ⟨ad139, e139, hx139_0, hx139_1, hx139_2, hx139_3, hx139_4, hx139_5, hx139_6⟩ := at_T48 HR0.out x5_1 p139 q139
    obtain rfl : ad136 = ad139 := (by injection e139)
    replace hx139_0 := hbc HB hx139_0
    replace hx139_1 := hbc HB hx139_1
    replace hx139_2 := hbc HB hx139_2
    replace hx139_3 := hbc HB hx139_3
    replace hx139_4 := hbc HB hx139_4
    replace hx139_5 := hbc HB hx139_5
    replace hx139_6 := hbc HB hx139_6
    replace p139 := eq_true p139
    replace q139 := eq_true q139
    have p140 : 0 ≤ (x5_1 : Int) := of_decide_eq_true as0
    have q140 : x5_1 < (l0.length : Int) := of_decide_eq_true as0
    obtain ⟨ad140, e140, hx140_0, hx140_1, hx140_2, hx140_3, hx140_4, hx140_5, hx140_6⟩ := at_T48 HR0.out x5_1 p140 q140
    obtain rfl : ad136 = ad140 := (by injection e140)
    replace hx140_0 := hbc HB hx140_0
    replace hx140_1 := hbc HB hx140_1
    replace hx140_2 := hbc HB hx140_2
    replace hx140_3 := hbc HB hx140_3
    replace hx140_4 := hbc HB hx140_4
    replace hx140_5 := hbc HB hx140_5
    replace hx140_6 := hbc HB hx140_6
    replace p140 := eq_true p140
    replace q140 := eq_true q140
    try go_wp2
    replace HB := Aside0.mk (below_drew1 HB.out)
    have p141 : 0 ≤ (x5_1 : Int) := of_decide_eq_true as0
    have q141 : x5_1 < (l0.length : Int) := of_decide_eq_true as0
    obtain ⟨ad141, e141, hx141_0, hx141_1, hx141_2, hx141_3, hx141_4, hx141_5, hx141_6⟩ := at_T48 HR0.out x5_1 p141 q141
    have hw141_6 := hx141_6
    have hw141_5 := hx141_5
    have hw141_4 := hx141_4
    have hw141_3 := hx141_3
    have hw141_2 := hx141_2
    have hw141_1 := hx141_1
    have hw141_0 := hx141_0
    obtain rfl : ad136 = ad141 := (by injection e141)
    replace hx141_0 := hbc HB hx141_0
    replace hx141_1 := hbc HB hx141_1
    replace hx141_2 := hbc HB hx141_2
    replace hx141_3 := hbc HB hx141_3
    replace hx141_4 := hbc HB hx141_4
    replace hx141_5 := hbc HB hx141_5
    replace hx141_6 := hbc HB hx141_6
    replace p141 := eq_true p141
    replace q141 := eq_true q141
    refine start_ (n := 8) (S := fun w' => w'.cell? (ad136.add ((x5_1).toNat * 7)) = some (.int .i64 ((rd_T48 l0 x5_1).f0)) ∧ w'.cell? ⟨(ad136.add ((x5_1).toNat * 7)).block, (ad136.add ((x5_1).toNat * 7)).off + 1, none⟩ = some (.int .i64 ((rd_T48 l0 x5_1).f1)) ∧ w'.cell? ⟨(ad136.add ((x5_1).toNat * 7)).block, (ad136.add ((x5_1).toNat * 7)).off + 2, none⟩ = some (.int .i64 ((rd_T48 l0 x5_1).f2)) ∧ w'.cell? ⟨(ad136.add ((x5_1).toNat * 7)).block, (ad136.add ((x5_1).toNat * 7)).off + 3, none⟩ = some (.int .i64 ((rd_T48 l0 x5_1).f3)) ∧ w'.cell? ⟨(ad136.add ((x5_1).toNat * 7)).block, (ad136.add ((x5_1).toNat * 7)).off + 4, none⟩ = some (.int .i64 ((rd_T48 l0 x5_1).f4)) ∧ w'.cell? ⟨(ad136.add ((x5_1).toNat * 7)).block, (ad136.add ((x5_1).toNat * 7)).off + 5, none⟩ = some (.string ((rd_T48 l0 x5_1).f5)) ∧ w'.cell? ⟨(ad136.add ((x5_1).toNat * 7)).block, (ad136.add ((x5_1).toNat * 7)).off + 6, none⟩ = some (.string ((rd_T48 l0 x5_1).f6))) (ds := []) #[false, false, false, false, false, false, false, false] (by kernel_rfl) rfl rfl ⟨(hbc HB hw141_0), (hbc HB hw141_1), (hbc HB hw141_2), (hbc HB hw141_3), (hbc HB hw141_4), (hbc HB hw141_5), (hbc HB hw141_6)⟩ (fun hHeld => ?_); refine with_tabW laws_heldNodeS.tab19 laws_heldNodeS.bits19 (fun HT_ HW_ => ?_)
    generalize wr.drew = w14 at HB hx141_0 hx141_1 hx141_2 hx141_3 hx141_4 hx141_5 hx141_6 hHeld ⊢
    refine pu_ 0 57 HT_ ?_
    refine pu_ 1 58 HT_ ?_
    refine pu_ 2 59 HT_ ?_
    refine pu_ 3 60 HT_ ?_
    refine pu_ 5 62 HT_ ?_
    refine tk_ 4 61 HT_ HW_ hHeld ?_
    refine on_ 6 63 HT_ fun K hK => ?_
    refine goes_ Tryd.func38 (by kernel_rfl) rfl #[.int .i64 (wrap64 ((wrap64 ((wrap64 ((wrap64 ((wrap64 (x1_1 + 1)) + 1)) + 1)) + 1)) + 1))] (by rfl) rfl rfl mm0 ?_
    with_reducible refine (laws_markText.calls k1 (wrap64 ((wrap64 ((wrap64 ((wrap64 ((wrap64 (x1_1 + 1)) + 1)) + 1)) + 1)) + 1)) t142 _ A10.out).mono ?_
    rintro e w15 ⟨rfl, hb⟩
    refine ⟨_, rfl, ?_⟩
    replace HB := Aside0.mk (below_step bb0 hb)
    clear hb
    refine hK.out _ _ ⟨(hbc HB hw141_0), (hbc HB hw141_1), (hbc HB hw141_2), (hbc HB hw141_3), (hbc HB hw141_4), (hbc HB hw141_5), (hbc HB hw141_6)⟩ (fun hHeld => ?_)
    clear hK K
    refine nm_ ?_
    refine pu_ 7 64 HT_ ?_
    refine done_ (done_of HT_.out (by kernel_rfl)) ?_
    try go_wp2
    replace HB := Aside0.mk (below_drew1 HB.out)
    have p143 : 0 ≤ (x5_1 : Int) := of_decide_eq_true as0
    have q143 : x5_1 < (l0.length : Int) := of_decide_eq_true as0
    obtain ⟨ad143, e143, hx143_0, hx143_1, hx143_2, hx143_3, hx143_4, hx143_5, hx143_6⟩ := at_T48 HR0.out x5_1 p143 q143
    have hw143_6 := hx143_6
    have hw143_5 := hx143_5
    have hw143_4 := hx143_4
    have hw143_3 := hx143_3
    have hw143_2 := hx143_2
    have hw143_1 := hx143_1
    have hw143_0 := hx143_0
    obtain rfl : ad136 = ad143 := (by injection e143)
    replace hx143_0 := hbc HB hx143_0
    replace hx143_1 := hbc HB hx143_1
    replace hx143_2 := hbc HB hx143_2
    replace hx143_3 := hbc HB hx143_3
    replace hx143_4 := hbc HB hx143_4
    replace hx143_5 := hbc HB hx143_5
    replace hx143_6 := hbc HB hx143_6
    replace p143 := eq_true p143
    replace q143 := eq_true q143
    refine start_ (n := 8) (S := fun w' => w'.cell? (ad136.add ((x5_1).toNat * 7)) = some (.int .i64 ((rd_T48 l0 x5_1).f0)) ∧ w'.cell? ⟨(ad136.add ((x5_1).toNat * 7)).block, (ad136.add ((x5_1).toNat * 7)).off + 1, none⟩ = some (.int .i64 ((rd_T48 l0 x5_1).f1)) ∧ w'.cell? ⟨(ad136.add ((x5_1).toNat * 7)).block, (ad136.add ((x5_1).toNat * 7)).off + 2, none⟩ = some (.int .i64 ((rd_T48 l0 x5_1).f2)) ∧ w'.cell? ⟨(ad136.add ((x5_1).toNat * 7)).block, (ad136.add ((x5_1).toNat * 7)).off + 3, none⟩ = some (.int .i64 ((rd_T48 l0 x5_1).f3)) ∧ w'.cell? ⟨(ad136.add ((x5_1).toNat * 7)).block, (ad136.add ((x5_1).toNat * 7)).off + 4, none⟩ = some (.int .i64 ((rd_T48 l0 x5_1).f4)) ∧ w'.cell? ⟨(ad136.add ((x5_1).toNat * 7)).block, (ad136.add ((x5_1).toNat * 7)).off + 5, none⟩ = some (.string ((rd_T48 l0 x5_1).f5)) ∧ w'.cell? ⟨(ad136.add ((x5_1).toNat * 7)).block, (ad136.add ((x5_1).toNat * 7)).off + 6, none⟩ = some (.string ((rd_T48 l0 x5_1).f6))) (ds := []) #[false, false, false, false, false, false, false, false] (by kernel_rfl) rfl rfl ⟨(hbc HB hw143_0), (hbc HB hw143_1), (hbc HB hw143_2), (hbc HB hw143_3), (hbc HB hw143_4), (hbc HB hw143_5), (hbc HB hw143_6)⟩ (fun hHeld => ?_); refine with_tabW laws_heldNodeS.tab22 laws_heldNodeS.bits22 (fun HT_ HW_ => ?_)
    generalize w15.drew = w16 at HB hx143_0 hx143_1 hx143_2 hx143_3 hx143_4 hx143_5 hx143_6 hHeld ⊢
    refine pu_ 0 67 HT_ ?_
    refine pu_ 1 68 HT_ ?_
    refine pu_ 2 69 HT_ ?_
    refine pu_ 3 70 HT_ ?_
    refine pu_ 5 72 HT_ ?_
    refine tk_ 4 71 HT_ HW_ hHeld ?_
    refine on_ 6 73 HT_ fun K hK => ?_
    refine goes_ Tryd.func38 (by kernel_rfl) rfl #[.int .i64 (wrap64 ((wrap64 ((wrap64 ((wrap64 ((wrap64 ((wrap64 (x1_1 + 1)) + 1)) + 1)) + 1)) + 1)) + 1))] (by rfl) rfl rfl mm0 ?_
    with_reducible refine (laws_markText.calls k1 (wrap64 ((wrap64 ((wrap64 ((wrap64 ((wrap64 ((wrap64 (x1_1 + 1)) + 1)) + 1)) + 1)) + 1)) + 1)) t144 _ A12.out).mono ?_
    rintro e w17 ⟨rfl, hb⟩
    refine ⟨_, rfl, ?_⟩
    replace HB := Aside0.mk (below_step bb0 hb)
    clear hb
    refine hK.out _ _ ⟨(hbc HB hw143_0), (hbc HB hw143_1), (hbc HB hw143_2), (hbc HB hw143_3), (hbc HB hw143_4), (hbc HB hw143_5), (hbc HB hw143_6)⟩ (fun hHeld => ?_)
    clear hK K
    refine nm_ ?_
    refine pu_ 7 74 HT_ ?_
    refine done_ (done_of HT_.out (by kernel_rfl)) ?_
    try go_wp2
    go_roundg k1
    case measure => have := HK1.out; omega
    case rel => exact ⟨(wrap64 ((wrap64 ((wrap64 ((wrap64 ((wrap64 ((wrap64 ((wrap64 (x1_1 + 1)) + 1)) + 1)) + 1)) + 1)) + 1)) + 1)), (wrap64 (x5_1 + 1)), rs0, rs0, H', ⟨by have := HK1.out; omega⟩, ⟨bb0⟩⟩
   ·rw [if_neg c13] at H
    obtain ⟨c13b0, c13b1⟩ := eqF c13
    obtain rfl := Option.some.inj H
    have p136 : 0 ≤ (x5_1 : Int) := of_decide_eq_true as0
    have q136 : x5_1 < (l0.length : Int) := of_decide_eq_true as0
    obtain ⟨ad136, e136, hx136_0, hx136_1, hx136_2, hx136_3, hx136_4, hx136_5, hx136_6⟩ := at_T48 HR0.out x5_1 p136 q136
    cases e136
    replace hx136_0 := hbc HB hx136_0
    replace hx136_1 := hbc HB hx136_1
    replace hx136_2 := hbc HB hx136_2
    replace hx136_3 := hbc HB hx136_3
    replace hx136_4 := hbc HB hx136_4
    replace hx136_5 := hbc HB hx136_5
    replace hx136_6 := hbc HB hx136_6
    replace p136 := eq_true p136
    replace q136 := eq_true q136
    have p137 : 0 ≤ (x5_1 : Int) := of_decide_eq_true as0
    have q137 : x5_1 < (l0.length : Int) := of_decide_eq_true as0
    obtain ⟨ad137, e137, hx137_0, hx137_1, hx137_2, hx137_3, hx137_4, hx137_5, hx137_6⟩ := at_T48 HR0.out x5_1 p137 q137
    obtain rfl : ad136 = ad137 := (by injection e137)
    replace hx137_0 := hbc HB hx137_0
    replace hx137_1 := hbc HB hx137_1
    replace hx137_2 := hbc HB hx137_2
    replace hx137_3 := hbc HB hx137_3
    replace hx137_4 := hbc HB hx137_4
    replace hx137_5 := hbc HB hx137_5
    replace hx137_6 := hbc HB hx137_6
    replace p137 := eq_true p137
    replace q137 := eq_true q137
    have p138 : 0 ≤ (x5_1 : Int) := of_decide_eq_true as0
    have q138 : x5_1 < (l0.length : Int) := of_decide_eq_true as0
    obtain ⟨ad138, e138, hx138_0, hx138_1, hx138_2, hx138_3, hx138_4, hx138_5, hx138_6⟩ := at_T48 HR0.out x5_1 p138 q138
    obtain rfl : ad136 = ad138 := (by injection e138)
    replace hx138_0 := hbc HB hx138_0
    replace hx138_1 := hbc HB hx138_1
    replace hx138_2 := hbc HB hx138_2
    replace hx138_3 := hbc HB hx138_3
    replace hx138_4 := hbc HB hx138_4
    replace hx138_5 := hbc HB hx138_5
    replace hx138_6 := hbc HB hx138_6
    replace p138 := eq_true p138
    replace q138 := eq_true q138
    have p139 : 0 ≤ (x5_1 : Int) := of_decide_eq_true as0
    have q139 : x5_1 < (l0.length : Int) := of_decide_eq_true as0
    obtain ⟨ad139, e139, hx139_0, hx139_1, hx139_2, hx139_3, hx139_4, hx139_5, hx139_6⟩ := at_T48 HR0.out x5_1 p139 q139
    obtain rfl : ad136 = ad139 := (by injection e139)
    replace hx139_0 := hbc HB hx139_0
    replace hx139_1 := hbc HB hx139_1
    replace hx139_2 := hbc HB hx139_2
    replace hx139_3 := hbc HB hx139_3
    replace hx139_4 := hbc HB hx139_4
    replace hx139_5 := hbc HB hx139_5
    replace hx139_6 := hbc HB hx139_6
    replace p139 := eq_true p139
    replace q139 := eq_true q139
    have p140 : 0 ≤ (x5_1 : Int) := of_decide_eq_true as0
    have q140 : x5_1 < (l0.length : Int) := of_decide_eq_true as0
    obtain ⟨ad140, e140, hx140_0, hx140_1, hx140_2, hx140_3, hx140_4, hx140_5, hx140_6⟩ := at_T48 HR0.out x5_1 p140 q140
    obtain rfl : ad136 = ad140 := (by injection e140)
    replace hx140_0 := hbc HB hx140_0
    replace hx140_1 := hbc HB hx140_1
    replace hx140_2 := hbc HB hx140_2
    replace hx140_3 := hbc HB hx140_3
    replace hx140_4 := hbc HB hx140_4
    replace hx140_5 := hbc HB hx140_5
    replace hx140_6 := hbc HB hx140_6
    replace p140 := eq_true p140
    replace q140 := eq_true q140
    try go_wp2
    replace HB := Aside0.mk (below_drew1 HB.out)
    have p141 : 0 ≤ (x5_1 : Int) := of_decide_eq_true as0
    have q141 : x5_1 < (l0.length : Int) := of_decide_eq_true as0
    obtain ⟨ad141, e141, hx141_0, hx141_1, hx141_2, hx141_3, hx141_4, hx141_5, hx141_6⟩ := at_T48 HR0.out x5_1 p141 q141
    have hw141_6 := hx141_6
    have hw141_5 := hx141_5
    have hw141_4 := hx141_4
    have hw141_3 := hx141_3
    have hw141_2 := hx141_2
    have hw141_1 := hx141_1
    have hw141_0 := hx141_0
    obtain rfl : ad136 = ad141 := (by injection e141)
    replace hx141_0 := hbc HB hx141_0
    replace hx141_1 := hbc HB hx141_1
    replace hx141_2 := hbc HB hx141_2
    replace hx141_3 := hbc HB hx141_3
    replace hx141_4 := hbc HB hx141_4
    replace hx141_5 := hbc HB hx141_5
    replace hx141_6 := hbc HB hx141_6
    replace p141 := eq_true p141
    replace q141 := eq_true q141
    refine start_ (n := 8) (S := fun w' => w'.cell? (ad136.add ((x5_1).toNat * 7)) = some (.int .i64 ((rd_T48 l0 x5_1).f0)) ∧ w'.cell? ⟨(ad136.add ((x5_1).toNat * 7)).block, (ad136.add ((x5_1).toNat * 7)).off + 1, none⟩ = some (.int .i64 ((rd_T48 l0 x5_1).f1)) ∧ w'.cell? ⟨(ad136.add ((x5_1).toNat * 7)).block, (ad136.add ((x5_1).toNat * 7)).off + 2, none⟩ = some (.int .i64 ((rd_T48 l0 x5_1).f2)) ∧ w'.cell? ⟨(ad136.add ((x5_1).toNat * 7)).block, (ad136.add ((x5_1).toNat * 7)).off + 3, none⟩ = some (.int .i64 ((rd_T48 l0 x5_1).f3)) ∧ w'.cell? ⟨(ad136.add ((x5_1).toNat * 7)).block, (ad136.add ((x5_1).toNat * 7)).off + 4, none⟩ = some (.int .i64 ((rd_T48 l0 x5_1).f4)) ∧ w'.cell? ⟨(ad136.add ((x5_1).toNat * 7)).block, (ad136.add ((x5_1).toNat * 7)).off + 5, none⟩ = some (.string ((rd_T48 l0 x5_1).f5)) ∧ w'.cell? ⟨(ad136.add ((x5_1).toNat * 7)).block, (ad136.add ((x5_1).toNat * 7)).off + 6, none⟩ = some (.string ((rd_T48 l0 x5_1).f6))) (ds := []) #[false, false, false, false, false, false, false, false] (by kernel_rfl) rfl rfl ⟨(hbc HB hw141_0), (hbc HB hw141_1), (hbc HB hw141_2), (hbc HB hw141_3), (hbc HB hw141_4), (hbc HB hw141_5), (hbc HB hw141_6)⟩ (fun hHeld => ?_); refine with_tabW laws_heldNodeS.tab19 laws_heldNodeS.bits19 (fun HT_ HW_ => ?_)
    generalize wr.drew = w18 at HB hx141_0 hx141_1 hx141_2 hx141_3 hx141_4 hx141_5 hx141_6 hHeld ⊢
    refine pu_ 0 57 HT_ ?_
    refine pu_ 1 58 HT_ ?_
    refine pu_ 2 59 HT_ ?_
    refine pu_ 3 60 HT_ ?_
    refine pu_ 5 62 HT_ ?_
    refine tk_ 4 61 HT_ HW_ hHeld ?_
    refine on_ 6 63 HT_ fun K hK => ?_
    refine goes_ Tryd.func38 (by kernel_rfl) rfl #[.int .i64 (wrap64 ((wrap64 ((wrap64 ((wrap64 ((wrap64 (x1_1 + 1)) + 1)) + 1)) + 1)) + 1))] (by rfl) rfl rfl mm0 ?_
    with_reducible refine (laws_markText.calls k1 (wrap64 ((wrap64 ((wrap64 ((wrap64 ((wrap64 (x1_1 + 1)) + 1)) + 1)) + 1)) + 1)) t142 _ A10.out).mono ?_
    rintro e w19 ⟨rfl, hb⟩
    refine ⟨_, rfl, ?_⟩
    replace HB := Aside0.mk (below_step bb0 hb)
    clear hb
    refine hK.out _ _ ⟨(hbc HB hw141_0), (hbc HB hw141_1), (hbc HB hw141_2), (hbc HB hw141_3), (hbc HB hw141_4), (hbc HB hw141_5), (hbc HB hw141_6)⟩ (fun hHeld => ?_)
    clear hK K
    refine nm_ ?_
    refine pu_ 7 64 HT_ ?_
    refine done_ (done_of HT_.out (by kernel_rfl)) ?_
    try go_wp2
    replace HB := Aside0.mk (below_drew1 HB.out)
    have p143 : 0 ≤ (x5_1 : Int) := of_decide_eq_true as0
    have q143 : x5_1 < (l0.length : Int) := of_decide_eq_true as0
    obtain ⟨ad143, e143, hx143_0, hx143_1, hx143_2, hx143_3, hx143_4, hx143_5, hx143_6⟩ := at_T48 HR0.out x5_1 p143 q143
    have hw143_6 := hx143_6
    have hw143_5 := hx143_5
    have hw143_4 := hx143_4
    have hw143_3 := hx143_3
    have hw143_2 := hx143_2
    have hw143_1 := hx143_1
    have hw143_0 := hx143_0
    obtain rfl : ad136 = ad143 := (by injection e143)
    replace hx143_0 := hbc HB hx143_0
    replace hx143_1 := hbc HB hx143_1
    replace hx143_2 := hbc HB hx143_2
    replace hx143_3 := hbc HB hx143_3
    replace hx143_4 := hbc HB hx143_4
    replace hx143_5 := hbc HB hx143_5
    replace hx143_6 := hbc HB hx143_6
    replace p143 := eq_true p143
    replace q143 := eq_true q143
    refine start_ (n := 8) (S := fun w' => w'.cell? (ad136.add ((x5_1).toNat * 7)) = some (.int .i64 ((rd_T48 l0 x5_1).f0)) ∧ w'.cell? ⟨(ad136.add ((x5_1).toNat * 7)).block, (ad136.add ((x5_1).toNat * 7)).off + 1, none⟩ = some (.int .i64 ((rd_T48 l0 x5_1).f1)) ∧ w'.cell? ⟨(ad136.add ((x5_1).toNat * 7)).block, (ad136.add ((x5_1).toNat * 7)).off + 2, none⟩ = some (.int .i64 ((rd_T48 l0 x5_1).f2)) ∧ w'.cell? ⟨(ad136.add ((x5_1).toNat * 7)).block, (ad136.add ((x5_1).toNat * 7)).off + 3, none⟩ = some (.int .i64 ((rd_T48 l0 x5_1).f3)) ∧ w'.cell? ⟨(ad136.add ((x5_1).toNat * 7)).block, (ad136.add ((x5_1).toNat * 7)).off + 4, none⟩ = some (.int .i64 ((rd_T48 l0 x5_1).f4)) ∧ w'.cell? ⟨(ad136.add ((x5_1).toNat * 7)).block, (ad136.add ((x5_1).toNat * 7)).off + 5, none⟩ = some (.string ((rd_T48 l0 x5_1).f5)) ∧ w'.cell? ⟨(ad136.add ((x5_1).toNat * 7)).block, (ad136.add ((x5_1).toNat * 7)).off + 6, none⟩ = some (.string ((rd_T48 l0 x5_1).f6))) (ds := []) #[false, false, false, false, false, false, false, false] (by kernel_rfl) rfl rfl ⟨(hbc HB hw143_0), (hbc HB hw143_1), (hbc HB hw143_2), (hbc HB hw143_3), (hbc HB hw143_4), (hbc HB hw143_5), (hbc HB hw143_6)⟩ (fun hHeld => ?_); refine with_tabW laws_heldNodeS.tab22 laws_heldNodeS.bits22 (fun HT_ HW_ => ?_)
    generalize w19.drew = w20 at HB hx143_0 hx143_1 hx143_2 hx143_3 hx143_4 hx143_5 hx143_6 hHeld ⊢
    refine pu_ 0 67 HT_ ?_
    refine pu_ 1 68 HT_ ?_
    refine pu_ 2 69 HT_ ?_
    refine pu_ 3 70 HT_ ?_
    refine pu_ 5 72 HT_ ?_
    refine tk_ 4 71 HT_ HW_ hHeld ?_
    refine on_ 6 73 HT_ fun K hK => ?_
    refine goes_ Tryd.func38 (by kernel_rfl) rfl #[.int .i64 (wrap64 ((wrap64 ((wrap64 ((wrap64 ((wrap64 ((wrap64 (x1_1 + 1)) + 1)) + 1)) + 1)) + 1)) + 1))] (by rfl) rfl rfl mm0 ?_
    with_reducible refine (laws_markText.calls k1 (wrap64 ((wrap64 ((wrap64 ((wrap64 ((wrap64 ((wrap64 (x1_1 + 1)) + 1)) + 1)) + 1)) + 1)) + 1)) t144 _ A12.out).mono ?_
    rintro e w21 ⟨rfl, hb⟩
    refine ⟨_, rfl, ?_⟩
    replace HB := Aside0.mk (below_step bb0 hb)
    clear hb
    refine hK.out _ _ ⟨(hbc HB hw143_0), (hbc HB hw143_1), (hbc HB hw143_2), (hbc HB hw143_3), (hbc HB hw143_4), (hbc HB hw143_5), (hbc HB hw143_6)⟩ (fun hHeld => ?_)
    clear hK K
    refine nm_ ?_
    refine pu_ 7 74 HT_ ?_
    refine done_ (done_of HT_.out (by kernel_rfl)) ?_
    try go_wp2
    go_ret
    exact ⟨er0, bb0⟩
   ·rw [if_neg c11] at H
    obtain ⟨c11b0, c11b1⟩ := eqF c11
    obtain rfl := Option.some.inj H
    have p136 : 0 ≤ (x5_1 : Int) := of_decide_eq_true as0
    have q136 : x5_1 < (l0.length : Int) := of_decide_eq_true as0
    obtain ⟨ad136, e136, hx136_0, hx136_1, hx136_2, hx136_3, hx136_4, hx136_5, hx136_6⟩ := at_T48 HR0.out x5_1 p136 q136
    cases e136
    replace hx136_0 := hbc HB hx136_0
    replace hx136_1 := hbc HB hx136_1
    replace hx136_2 := hbc HB hx136_2
    replace hx136_3 := hbc HB hx136_3
    replace hx136_4 := hbc HB hx136_4
    replace hx136_5 := hbc HB hx136_5
    replace hx136_6 := hbc HB hx136_6
    replace p136 := eq_true p136
    replace q136 := eq_true q136
    have p137 : 0 ≤ (x5_1 : Int) := of_decide_eq_true as0
    have q137 : x5_1 < (l0.length : Int) := of_decide_eq_true as0
    obtain ⟨ad137, e137, hx137_0, hx137_1, hx137_2, hx137_3, hx137_4, hx137_5, hx137_6⟩ := at_T48 HR0.out x5_1 p137 q137
    obtain rfl : ad136 = ad137 := (by injection e137)
    replace hx137_0 := hbc HB hx137_0
    replace hx137_1 := hbc HB hx137_1
    replace hx137_2 := hbc HB hx137_2
    replace hx137_3 := hbc HB hx137_3
    replace hx137_4 := hbc HB hx137_4
    replace hx137_5 := hbc HB hx137_5
    replace hx137_6 := hbc HB hx137_6
    replace p137 := eq_true p137
    replace q137 := eq_true q137
    have p138 : 0 ≤ (x5_1 : Int) := of_decide_eq_true as0
    have q138 : x5_1 < (l0.length : Int) := of_decide_eq_true as0
    obtain ⟨ad138, e138, hx138_0, hx138_1, hx138_2, hx138_3, hx138_4, hx138_5, hx138_6⟩ := at_T48 HR0.out x5_1 p138 q138
    obtain rfl : ad136 = ad138 := (by injection e138)
    replace hx138_0 := hbc HB hx138_0
    replace hx138_1 := hbc HB hx138_1
    replace hx138_2 := hbc HB hx138_2
    replace hx138_3 := hbc HB hx138_3
    replace hx138_4 := hbc HB hx138_4
    replace hx138_5 := hbc HB hx138_5
    replace hx138_6 := hbc HB hx138_6
    replace p138 := eq_true p138
    replace q138 := eq_true q138
    have p139 : 0 ≤ (x5_1 : Int) := of_decide_eq_true as0
    have q139 : x5_1 < (l0.length : Int) := of_decide_eq_true as0
    obtain ⟨ad139, e139, hx139_0, hx139_1, hx139_2, hx139_3, hx139_4, hx139_5, hx139_6⟩ := at_T48 HR0.out x5_1 p139 q139
    obtain rfl : ad136 = ad139 := (by injection e139)
    replace hx139_0 := hbc HB hx139_0
    replace hx139_1 := hbc HB hx139_1
    replace hx139_2 := hbc HB hx139_2
    replace hx139_3 := hbc HB hx139_3
    replace hx139_4 := hbc HB hx139_4
    replace hx139_5 := hbc HB hx139_5
    replace hx139_6 := hbc HB hx139_6
    replace p139 := eq_true p139
    replace q139 := eq_true q139
    have p140 : 0 ≤ (x5_1 : Int) := of_decide_eq_true as0
    have q140 : x5_1 < (l0.length : Int) := of_decide_eq_true as0
    obtain ⟨ad140, e140, hx140_0, hx140_1, hx140_2, hx140_3, hx140_4, hx140_5, hx140_6⟩ := at_T48 HR0.out x5_1 p140 q140
    obtain rfl : ad136 = ad140 := (by injection e140)
    replace hx140_0 := hbc HB hx140_0
    replace hx140_1 := hbc HB hx140_1
    replace hx140_2 := hbc HB hx140_2
    replace hx140_3 := hbc HB hx140_3
    replace hx140_4 := hbc HB hx140_4
    replace hx140_5 := hbc HB hx140_5
    replace hx140_6 := hbc HB hx140_6
    replace p140 := eq_true p140
    replace q140 := eq_true q140
    try go_wp2
    replace HB := Aside0.mk (below_drew1 HB.out)
    have p141 : 0 ≤ (x5_1 : Int) := of_decide_eq_true as0
    have q141 : x5_1 < (l0.length : Int) := of_decide_eq_true as0
    obtain ⟨ad141, e141, hx141_0, hx141_1, hx141_2, hx141_3, hx141_4, hx141_5, hx141_6⟩ := at_T48 HR0.out x5_1 p141 q141
    have hw141_6 := hx141_6
    have hw141_5 := hx141_5
    have hw141_4 := hx141_4
    have hw141_3 := hx141_3
    have hw141_2 := hx141_2
    have hw141_1 := hx141_1
    have hw141_0 := hx141_0
    obtain rfl : ad136 = ad141 := (by injection e141)
    replace hx141_0 := hbc HB hx141_0
    replace hx141_1 := hbc HB hx141_1
    replace hx141_2 := hbc HB hx141_2
    replace hx141_3 := hbc HB hx141_3
    replace hx141_4 := hbc HB hx141_4
    replace hx141_5 := hbc HB hx141_5
    replace hx141_6 := hbc HB hx141_6
    replace p141 := eq_true p141
    replace q141 := eq_true q141
    refine start_ (n := 8) (S := fun w' => w'.cell? (ad136.add ((x5_1).toNat * 7)) = some (.int .i64 ((rd_T48 l0 x5_1).f0)) ∧ w'.cell? ⟨(ad136.add ((x5_1).toNat * 7)).block, (ad136.add ((x5_1).toNat * 7)).off + 1, none⟩ = some (.int .i64 ((rd_T48 l0 x5_1).f1)) ∧ w'.cell? ⟨(ad136.add ((x5_1).toNat * 7)).block, (ad136.add ((x5_1).toNat * 7)).off + 2, none⟩ = some (.int .i64 ((rd_T48 l0 x5_1).f2)) ∧ w'.cell? ⟨(ad136.add ((x5_1).toNat * 7)).block, (ad136.add ((x5_1).toNat * 7)).off + 3, none⟩ = some (.int .i64 ((rd_T48 l0 x5_1).f3)) ∧ w'.cell? ⟨(ad136.add ((x5_1).toNat * 7)).block, (ad136.add ((x5_1).toNat * 7)).off + 4, none⟩ = some (.int .i64 ((rd_T48 l0 x5_1).f4)) ∧ w'.cell? ⟨(ad136.add ((x5_1).toNat * 7)).block, (ad136.add ((x5_1).toNat * 7)).off + 5, none⟩ = some (.string ((rd_T48 l0 x5_1).f5)) ∧ w'.cell? ⟨(ad136.add ((x5_1).toNat * 7)).block, (ad136.add ((x5_1).toNat * 7)).off + 6, none⟩ = some (.string ((rd_T48 l0 x5_1).f6))) (ds := []) #[false, false, false, false, false, false, false, false] (by kernel_rfl) rfl rfl ⟨(hbc HB hw141_0), (hbc HB hw141_1), (hbc HB hw141_2), (hbc HB hw141_3), (hbc HB hw141_4), (hbc HB hw141_5), (hbc HB hw141_6)⟩ (fun hHeld => ?_); refine with_tabW laws_heldNodeS.tab19 laws_heldNodeS.bits19 (fun HT_ HW_ => ?_)
    generalize wr.drew = w22 at HB hx141_0 hx141_1 hx141_2 hx141_3 hx141_4 hx141_5 hx141_6 hHeld ⊢
    refine pu_ 0 57 HT_ ?_
    refine pu_ 1 58 HT_ ?_
    refine pu_ 2 59 HT_ ?_
    refine pu_ 3 60 HT_ ?_
    refine pu_ 5 62 HT_ ?_
    refine tk_ 4 61 HT_ HW_ hHeld ?_
    refine on_ 6 63 HT_ fun K hK => ?_
    refine goes_ Tryd.func38 (by kernel_rfl) rfl #[.int .i64 (wrap64 ((wrap64 ((wrap64 ((wrap64 ((wrap64 (x1_1 + 1)) + 1)) + 1)) + 1)) + 1))] (by rfl) rfl rfl mm0 ?_
    with_reducible refine (laws_markText.calls k1 (wrap64 ((wrap64 ((wrap64 ((wrap64 ((wrap64 (x1_1 + 1)) + 1)) + 1)) + 1)) + 1)) t142 _ A10.out).mono ?_
    rintro e w23 ⟨rfl, hb⟩
    refine ⟨_, rfl, ?_⟩
    replace HB := Aside0.mk (below_step bb0 hb)
    clear hb
    refine hK.out _ _ ⟨(hbc HB hw141_0), (hbc HB hw141_1), (hbc HB hw141_2), (hbc HB hw141_3), (hbc HB hw141_4), (hbc HB hw141_5), (hbc HB hw141_6)⟩ (fun hHeld => ?_)
    clear hK K
    refine nm_ ?_
    refine pu_ 7 64 HT_ ?_
    refine done_ (done_of HT_.out (by kernel_rfl)) ?_
    try go_wp2
    go_ret
    exact ⟨er0, bb0⟩
   rw [if_neg c9] at H
   obtain ⟨c9b0, c9b1⟩ := eqF c9
   obtain rfl := Option.some.inj H
   have p136 : 0 ≤ (x5_1 : Int) := of_decide_eq_true as0
   have q136 : x5_1 < (l0.length : Int) := of_decide_eq_true as0
   obtain ⟨ad136, e136, hx136_0, hx136_1, hx136_2, hx136_3, hx136_4, hx136_5, hx136_6⟩ := at_T48 HR0.out x5_1 p136 q136
   cases e136
   replace hx136_0 := hbc HB hx136_0
   replace hx136_1 := hbc HB hx136_1
   replace hx136_2 := hbc HB hx136_2
   replace hx136_3 := hbc HB hx136_3
   replace hx136_4 := hbc HB hx136_4
   replace hx136_5 := hbc HB hx136_5
   replace hx136_6 := hbc HB hx136_6
   replace p136 := eq_true p136
   replace q136 := eq_true q136
   have p137 : 0 ≤ (x5_1 : Int) := of_decide_eq_true as0
   have q137 : x5_1 < (l0.length : Int) := of_decide_eq_true as0
   obtain ⟨ad137, e137, hx137_0, hx137_1, hx137_2, hx137_3, hx137_4, hx137_5, hx137_6⟩ := at_T48 HR0.out x5_1 p137 q137
   obtain rfl : ad136 = ad137 := (by injection e137)
   replace hx137_0 := hbc HB hx137_0
   replace hx137_1 := hbc HB hx137_1
   replace hx137_2 := hbc HB hx137_2
   replace hx137_3 := hbc HB hx137_3
   replace hx137_4 := hbc HB hx137_4
   replace hx137_5 := hbc HB hx137_5
   replace hx137_6 := hbc HB hx137_6
   replace p137 := eq_true p137
   replace q137 := eq_true q137
   have p138 : 0 ≤ (x5_1 : Int) := of_decide_eq_true as0
   have q138 : x5_1 < (l0.length : Int) := of_decide_eq_true as0
   obtain ⟨ad138, e138, hx138_0, hx138_1, hx138_2, hx138_3, hx138_4, hx138_5, hx138_6⟩ := at_T48 HR0.out x5_1 p138 q138
   obtain rfl : ad136 = ad138 := (by injection e138)
   replace hx138_0 := hbc HB hx138_0
   replace hx138_1 := hbc HB hx138_1
   replace hx138_2 := hbc HB hx138_2
   replace hx138_3 := hbc HB hx138_3
   replace hx138_4 := hbc HB hx138_4
   replace hx138_5 := hbc HB hx138_5
   replace hx138_6 := hbc HB hx138_6
   replace p138 := eq_true p138
   replace q138 := eq_true q138
   have p139 : 0 ≤ (x5_1 : Int) := of_decide_eq_true as0
   have q139 : x5_1 < (l0.length : Int) := of_decide_eq_true as0
   obtain ⟨ad139, e139, hx139_0, hx139_1, hx139_2, hx139_3, hx139_4, hx139_5, hx139_6⟩ := at_T48 HR0.out x5_1 p139 q139
   obtain rfl : ad136 = ad139 := (by injection e139)
   replace hx139_0 := hbc HB hx139_0
   replace hx139_1 := hbc HB hx139_1
   replace hx139_2 := hbc HB hx139_2
   replace hx139_3 := hbc HB hx139_3
   replace hx139_4 := hbc HB hx139_4
   replace hx139_5 := hbc HB hx139_5
   replace hx139_6 := hbc HB hx139_6
   replace p139 := eq_true p139
   replace q139 := eq_true q139
   have p140 : 0 ≤ (x5_1 : Int) := of_decide_eq_true as0
   have q140 : x5_1 < (l0.length : Int) := of_decide_eq_true as0
   obtain ⟨ad140, e140, hx140_0, hx140_1, hx140_2, hx140_3, hx140_4, hx140_5, hx140_6⟩ := at_T48 HR0.out x5_1 p140 q140
   obtain rfl : ad136 = ad140 := (by injection e140)
   replace hx140_0 := hbc HB hx140_0
   replace hx140_1 := hbc HB hx140_1
   replace hx140_2 := hbc HB hx140_2
   replace hx140_3 := hbc HB hx140_3
   replace hx140_4 := hbc HB hx140_4
   replace hx140_5 := hbc HB hx140_5
   replace hx140_6 := hbc HB hx140_6
   replace p140 := eq_true p140
   replace q140 := eq_true q140
   rotate_left
   rw [if_neg c8] at H
   obtain ⟨c8b0, c8b1⟩ := eqF c8
   obtain rfl := Option.some.inj H
   have p136 : 0 ≤ (x5_1 : Int) := of_decide_eq_true as0
   have q136 : x5_1 < (l0.length : Int) := of_decide_eq_true as0
   obtain ⟨ad136, e136, hx136_0, hx136_1, hx136_2, hx136_3, hx136_4, hx136_5, hx136_6⟩ := at_T48 HR0.out x5_1 p136 q136
   cases e136
   replace hx136_0 := hbc HB hx136_0
   replace hx136_1 := hbc HB hx136_1
   replace hx136_2 := hbc HB hx136_2
   replace hx136_3 := hbc HB hx136_3
   replace hx136_4 := hbc HB hx136_4
   replace hx136_5 := hbc HB hx136_5
   replace hx136_6 := hbc HB hx136_6
   replace p136 := eq_true p136
   replace q136 := eq_true q136
   have p137 : 0 ≤ (x5_1 : Int) := of_decide_eq_true as0
   have q137 : x5_1 < (l0.length : Int) := of_decide_eq_true as0
   obtain ⟨ad137, e137, hx137_0, hx137_1, hx137_2, hx137_3, hx137_4, hx137_5, hx137_6⟩ := at_T48 HR0.out x5_1 p137 q137
   obtain rfl : ad136 = ad137 := (by injection e137)
   replace hx137_0 := hbc HB hx137_0
   replace hx137_1 := hbc HB hx137_1
   replace hx137_2 := hbc HB hx137_2
   replace hx137_3 := hbc HB hx137_3
   replace hx137_4 := hbc HB hx137_4
   replace hx137_5 := hbc HB hx137_5
   replace hx137_6 := hbc HB hx137_6
   replace p137 := eq_true p137
   replace q137 := eq_true q137
   have p138 : 0 ≤ (x5_1 : Int) := of_decide_eq_true as0
   have q138 : x5_1 < (l0.length : Int) := of_decide_eq_true as0
   obtain ⟨ad138, e138, hx138_0, hx138_1, hx138_2, hx138_3, hx138_4, hx138_5, hx138_6⟩ := at_T48 HR0.out x5_1 p138 q138
   obtain rfl : ad136 = ad138 := (by injection e138)
   replace hx138_0 := hbc HB hx138_0
   replace hx138_1 := hbc HB hx138_1
   replace hx138_2 := hbc HB hx138_2
   replace hx138_3 := hbc HB hx138_3
   replace hx138_4 := hbc HB hx138_4
   replace hx138_5 := hbc HB hx138_5
   replace hx138_6 := hbc HB hx138_6
   replace p138 := eq_true p138
   replace q138 := eq_true q138
   have p139 : 0 ≤ (x5_1 : Int) := of_decide_eq_true as0
   have q139 : x5_1 < (l0.length : Int) := of_decide_eq_true as0
   obtain ⟨ad139, e139, hx139_0, hx139_1, hx139_2, hx139_3, hx139_4, hx139_5, hx139_6⟩ := at_T48 HR0.out x5_1 p139 q139
   obtain rfl : ad136 = ad139 := (by injection e139)
   replace hx139_0 := hbc HB hx139_0
   replace hx139_1 := hbc HB hx139_1
   replace hx139_2 := hbc HB hx139_2
   replace hx139_3 := hbc HB hx139_3
   replace hx139_4 := hbc HB hx139_4
   replace hx139_5 := hbc HB hx139_5
   replace hx139_6 := hbc HB hx139_6
   replace p139 := eq_true p139
   replace q139 := eq_true q139
   rotate_left
   rw [if_neg c7] at H
   obtain ⟨c7b0, c7b1⟩ := eqF c7
   obtain rfl := Option.some.inj H
   have p136 : 0 ≤ (x5_1 : Int) := of_decide_eq_true as0
   have q136 : x5_1 < (l0.length : Int) := of_decide_eq_true as0
   obtain ⟨ad136, e136, hx136_0, hx136_1, hx136_2, hx136_3, hx136_4, hx136_5, hx136_6⟩ := at_T48 HR0.out x5_1 p136 q136
   cases e136
   replace hx136_0 := hbc HB hx136_0
   replace hx136_1 := hbc HB hx136_1
   replace hx136_2 := hbc HB hx136_2
   replace hx136_3 := hbc HB hx136_3
   replace hx136_4 := hbc HB hx136_4
   replace hx136_5 := hbc HB hx136_5
   replace hx136_6 := hbc HB hx136_6
   replace p136 := eq_true p136
   replace q136 := eq_true q136
   have p137 : 0 ≤ (x5_1 : Int) := of_decide_eq_true as0
   have q137 : x5_1 < (l0.length : Int) := of_decide_eq_true as0
   obtain ⟨ad137, e137, hx137_0, hx137_1, hx137_2, hx137_3, hx137_4, hx137_5, hx137_6⟩ := at_T48 HR0.out x5_1 p137 q137
   obtain rfl : ad136 = ad137 := (by injection e137)
   replace hx137_0 := hbc HB hx137_0
   replace hx137_1 := hbc HB hx137_1
   replace hx137_2 := hbc HB hx137_2
   replace hx137_3 := hbc HB hx137_3
   replace hx137_4 := hbc HB hx137_4
   replace hx137_5 := hbc HB hx137_5
   replace hx137_6 := hbc HB hx137_6
   replace p137 := eq_true p137
   replace q137 := eq_true q137
   have p138 : 0 ≤ (x5_1 : Int) := of_decide_eq_true as0
   have q138 : x5_1 < (l0.length : Int) := of_decide_eq_true as0
   obtain ⟨ad138, e138, hx138_0, hx138_1, hx138_2, hx138_3, hx138_4, hx138_5, hx138_6⟩ := at_T48 HR0.out x5_1 p138 q138
   obtain rfl : ad136 = ad138 := (by injection e138)
   replace hx138_0 := hbc HB hx138_0
   replace hx138_1 := hbc HB hx138_1
   replace hx138_2 := hbc HB hx138_2
   replace hx138_3 := hbc HB hx138_3
   replace hx138_4 := hbc HB hx138_4
   replace hx138_5 := hbc HB hx138_5
   replace hx138_6 := hbc HB hx138_6
   replace p138 := eq_true p138
   replace q138 := eq_true q138
   rotate_left
   rw [if_neg c6] at H
   obtain ⟨c6b0, c6b1⟩ := eqF c6
   obtain rfl := Option.some.inj H
   have p136 : 0 ≤ (x5_1 : Int) := of_decide_eq_true as0
   have q136 : x5_1 < (l0.length : Int) := of_decide_eq_true as0
   obtain ⟨ad136, e136, hx136_0, hx136_1, hx136_2, hx136_3, hx136_4, hx136_5, hx136_6⟩ := at_T48 HR0.out x5_1 p136 q136
   cases e136
   replace hx136_0 := hbc HB hx136_0
   replace hx136_1 := hbc HB hx136_1
   replace hx136_2 := hbc HB hx136_2
   replace hx136_3 := hbc HB hx136_3
   replace hx136_4 := hbc HB hx136_4
   replace hx136_5 := hbc HB hx136_5
   replace hx136_6 := hbc HB hx136_6
   replace p136 := eq_true p136
   replace q136 := eq_true q136
   have p137 : 0 ≤ (x5_1 : Int) := of_decide_eq_true as0
   have q137 : x5_1 < (l0.length : Int) := of_decide_eq_true as0
   obtain ⟨ad137, e137, hx137_0, hx137_1, hx137_2, hx137_3, hx137_4, hx137_5, hx137_6⟩ := at_T48 HR0.out x5_1 p137 q137
   obtain rfl : ad136 = ad137 := (by injection e137)
   replace hx137_0 := hbc HB hx137_0
   replace hx137_1 := hbc HB hx137_1
   replace hx137_2 := hbc HB hx137_2
   replace hx137_3 := hbc HB hx137_3
   replace hx137_4 := hbc HB hx137_4
   replace hx137_5 := hbc HB hx137_5
   replace hx137_6 := hbc HB hx137_6
   replace p137 := eq_true p137
   replace q137 := eq_true q137
   rotate_left
   rw [if_neg c5] at H
   obtain ⟨c5b0, c5b1⟩ := eqF c5
   obtain rfl := Option.some.inj H
   have p136 : 0 ≤ (x5_1 : Int) := of_decide_eq_true as0
   have q136 : x5_1 < (l0.length : Int) := of_decide_eq_true as0
   obtain ⟨ad136, e136, hx136_0, hx136_1, hx136_2, hx136_3, hx136_4, hx136_5, hx136_6⟩ := at_T48 HR0.out x5_1 p136 q136
   cases e136
   replace hx136_0 := hbc HB hx136_0
   replace hx136_1 := hbc HB hx136_1
   replace hx136_2 := hbc HB hx136_2
   replace hx136_3 := hbc HB hx136_3
   replace hx136_4 := hbc HB hx136_4
   replace hx136_5 := hbc HB hx136_5
   replace hx136_6 := hbc HB hx136_6
   replace p136 := eq_true p136
   replace q136 := eq_true q136
   rotate_left
   ·rw [if_neg c4] at H
    exact absurd H (by simp)
   rw [if_neg c3] at H
   have c3b0 := decide_eq_false c3
   clear c3
   obtain rfl := Option.some.inj H
   rotate_left
   all_goals (go_wp2; go_ret; exact ⟨er0, bb0⟩)

end Go.Proofs.YtoebebgeiahagaaDoor.PFnExactDropLets
