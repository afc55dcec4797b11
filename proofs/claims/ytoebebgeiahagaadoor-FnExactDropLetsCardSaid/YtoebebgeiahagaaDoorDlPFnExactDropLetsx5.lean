-- Printed by this session's own program (wip/tools)
import Derived.Test.YtoebebgeiahagaaDoorDlPFnExactDropLetsx0
namespace Go.Proofs.YtoebebgeiahagaaDoor.PFnExactDropLets
open Go.RowKit Go.Proofs.YtoebebgeiahagaaDoorW.PrintWords Go.Proofs.YtoebebgeiahagaaDoorW.PrintLast Go.Proofs.YtoebebgeiahagaaDoorW.PrintMore
attribute [local go_sem] max2_int min2_int max_two min_two max_three min_three max_four min_four   -- for this text's walks alone
set_option linter.unusedVariables false
set_option linter.unusedSimpArgs false

/-! ### spec_l1In: function 26 -/
def spec_l1In.f (a0 : Int) (a1 : Int) (a2 : Int) : Option (Bool) := if a0 ≥ a1 then (some (decide (a0 ≤ a2))) else (some false)
set_option maxHeartbeats 8000000 in
set_option maxRecDepth 100000 in
theorem spec_l1In.calls (a0 : Int) (a1 : Int) (a2 : Int) (r : Bool) (w : World) (h : spec_l1In.f a0 a1 a2 = some r) :
  Calls Tryd.prog 26 #[.int .i64 a0, .int .i64 a1, .int .i64 a2] w fun e w' => e = .returned (.bool r) ∧ Drawn0 w w' := by
 have H := h; unfold spec_l1In.f at H
 clear h
 by_cases c4 : a0 ≥ a1
 rw [if_pos c4] at H
 have c4b0 := decide_eq_true c4
 clear c4
 obtain rfl := Option.some.inj H
 rotate_left
 rw [if_neg c4] at H
 have c4b0 := decide_eq_false c4
 clear c4
 obtain rfl := Option.some.inj H
 rotate_left
 all_goals (go_enter Tryd.func26, Tryd.ntmps26; go_wp2; go_ret; exact ⟨rs0, dr0⟩)

/-! ### spec_Arity: function 55 -/
mutual
def spec_Arity.j0 : Nat → Int → Bool → Option (Int)
 | 0, _, _ => none
 | k + 1, x3, x4 => if x4 = true then (some 1) else (if x3 = 4 then (spec_Arity.j1 k x3 (x3 == 4)) else (if x3 = 5 then (spec_Arity.j1 k x3 (x3 == 5)) else (if x3 = 6 then (spec_Arity.j1 k x3 (x3 == 6)) else (if x3 = 8 then (spec_Arity.j1 k x3 (x3 == 8)) else (if x3 = 9 then (spec_Arity.j1 k x3 (x3 == 9)) else (if x3 = 13 then (spec_Arity.j1 k x3 (x3 == 13)) else (if x3 = 17 then (spec_Arity.j1 k x3 (x3 == 17)) else (spec_Arity.j1 k x3 (x3 == 19)))))))))
def spec_Arity.j1 : Nat → Int → Bool → Option (Int)
 | 0, _, _ => none
 | k + 1, x3, x11 => if x11 = true then (some 2) else (if x3 = 7 then (some 3) else (if x3 = 14 then (some 3) else (some 0)))
end
def spec_Arity.f (k : Nat) (a0 : Int) : Option (Int) := if a0 = 3 then (spec_Arity.j0 k a0 (a0 == 3)) else (if a0 = 10 then (spec_Arity.j0 k a0 (a0 == 10)) else (if a0 = 11 then (spec_Arity.j0 k a0 (a0 == 11)) else (if a0 = 15 then (spec_Arity.j0 k a0 (a0 == 15)) else (if a0 = 16 then (spec_Arity.j0 k a0 (a0 == 16)) else (spec_Arity.j0 k a0 (a0 == 18))))))
theorem spec_Arity.mono_l : ∀ k, (∀ y0 y1, LeO (spec_Arity.j0 k y0 y1) (spec_Arity.j0 (k + 1) y0 y1)) ∧ (∀ y0 y1, LeO (spec_Arity.j1 k y0 y1) (spec_Arity.j1 (k + 1) y0 y1))
 | 0 => ⟨fun _ _ r h => by simp [spec_Arity.j0] at h, fun _ _ r h => by simp [spec_Arity.j1] at h⟩
 | k + 1 => by
  obtain ⟨ih0, ih1⟩ := spec_Arity.mono_l k
  refine ⟨?_, ?_⟩
  ·intro y0 y1
   unfold spec_Arity.j0
   repeat' first
   | (with_reducible exact ih0 _ _)
   | (with_reducible exact ih1 _ _)
   | (with_reducible exact LeO.refl _)
   | (with_reducible exact LeO.none _)
   | (with_reducible refine LeO.ite ?_ ?_)
   | (with_reducible refine LeO.bind ?_ (fun _ => ?_))
   | exact ih0 _ _
   | exact ih1 _ _
   | exact LeO.none _
   | refine LeO.ite ?_ ?_
   | refine LeO.bind ?_ (fun _ => ?_)
  ·intro y0 y1
   unfold spec_Arity.j1
   repeat' first
   | (with_reducible exact ih0 _ _)
   | (with_reducible exact ih1 _ _)
   | (with_reducible exact LeO.refl _)
   | (with_reducible exact LeO.none _)
   | (with_reducible refine LeO.ite ?_ ?_)
   | (with_reducible refine LeO.bind ?_ (fun _ => ?_))
   | exact ih0 _ _
   | exact ih1 _ _
   | exact LeO.none _
   | refine LeO.ite ?_ ?_
   | refine LeO.bind ?_ (fun _ => ?_)
theorem spec_Arity.mono : ∀ a0 k, LeO (spec_Arity.f k a0) (spec_Arity.f (k + 1) a0) := by
 intro a0 k
 obtain ⟨ih0, ih1⟩ := spec_Arity.mono_l k
 unfold spec_Arity.f
 repeat' first
   | (with_reducible exact ih0 _ _)
   | (with_reducible exact ih1 _ _)
   | (with_reducible exact LeO.refl _)
   | (with_reducible exact LeO.none _)
   | (with_reducible refine LeO.ite ?_ ?_)
   | (with_reducible refine LeO.bind ?_ (fun _ => ?_))
   | exact ih0 _ _
   | exact ih1 _ _
   | exact LeO.none _
   | refine LeO.ite ?_ ?_
   | refine LeO.bind ?_ (fun _ => ?_)
set_option maxHeartbeats 8000000 in
set_option maxRecDepth 100000 in
theorem spec_Arity.calls (k : Nat) (a0 : Int) (r : Int) (w : World) (h : spec_Arity.f k a0 = some r) :
  Calls Tryd.prog 55 #[.int .i64 a0] w fun e w' => e = .returned (.int .i64 r) ∧ Drawn0 w w' := by
 have H := h; unfold spec_Arity.f at H
 clear h
 have HC2 := Aside0.mk H
 clear H
 go_enter Tryd.func55, Tryd.ntmps55
 go_upto_if 4 with (fail)
 go_cut [4] (fun v4 wc => ∃ (kq : Nat) (x4_1 : Bool), v4 = .bool x4_1 ∧ Aside0 (spec_Arity.j0 kq a0 x4_1 = some r) ∧ Aside0 (kq ≤ k) ∧ Drawn0 w wc)
 case first =>
  have H := HC2.out
  clear HC2
  by_cases c3 : a0 = 3
  ·rw [if_pos c3] at H
   obtain ⟨c3b0, c3b1⟩ := eqT c3
   clear c3
   (first | rw [c3b0] | (simp only [i64_w, i32_w]; rw [c3b0]) | skip)
   have H' := Aside0.mk H
   clear H
   go_wp2
   go_meet
   case rel => exact ⟨_, ((a0 == 3)), rs0, H', ⟨by first | omega | exact Nat.le_refl _⟩, dr0⟩
  ·rw [if_neg c3] at H
   obtain ⟨c3b0, c3b1⟩ := eqF c3
   (first | rw [c3b0] | (simp only [i64_w, i32_w]; rw [c3b0]) | skip)
   by_cases c4 : a0 = 10
   ·rw [if_pos c4] at H
    obtain ⟨c4b0, c4b1⟩ := eqT c4
    clear c4
    have H' := Aside0.mk H
    clear H
    go_wp2
    go_meet
    case rel => exact ⟨_, ((a0 == 10)), rs0, H', ⟨by first | omega | exact Nat.le_refl _⟩, dr0⟩
   ·rw [if_neg c4] at H
    obtain ⟨c4b0, c4b1⟩ := eqF c4
    by_cases c5 : a0 = 11
    ·rw [if_pos c5] at H
     obtain ⟨c5b0, c5b1⟩ := eqT c5
     clear c5
     have H' := Aside0.mk H
     clear H
     go_wp2
     go_meet
     case rel => exact ⟨_, ((a0 == 11)), rs0, H', ⟨by first | omega | exact Nat.le_refl _⟩, dr0⟩
    ·rw [if_neg c5] at H
     obtain ⟨c5b0, c5b1⟩ := eqF c5
     by_cases c6 : a0 = 15
     ·rw [if_pos c6] at H
      obtain ⟨c6b0, c6b1⟩ := eqT c6
      clear c6
      have H' := Aside0.mk H
      clear H
      go_wp2
      go_meet
      case rel => exact ⟨_, ((a0 == 15)), rs0, H', ⟨by first | omega | exact Nat.le_refl _⟩, dr0⟩
     ·rw [if_neg c6] at H
      obtain ⟨c6b0, c6b1⟩ := eqF c6
      by_cases c7 : a0 = 16
      ·rw [if_pos c7] at H
       obtain ⟨c7b0, c7b1⟩ := eqT c7
       clear c7
       have H' := Aside0.mk H
       clear H
       go_wp2
       go_meet
       case rel => exact ⟨_, ((a0 == 16)), rs0, H', ⟨by first | omega | exact Nat.le_refl _⟩, dr0⟩
      ·rw [if_neg c7] at H
       obtain ⟨c7b0, c7b1⟩ := eqF c7
       have H' := Aside0.mk H
       clear H
       go_wp2
       go_meet
       case rel => exact ⟨_, ((a0 == 18)), rs0, H', ⟨by first | omega | exact Nat.le_refl _⟩, dr0⟩
 case rest =>
  clear HC2
  try clear p2
  try clear c3
  try clear c3b0
  try clear c3b1
  try clear c4
  try clear c4b0
  try clear c4b1
  try clear c5
  try clear c5b0
  try clear c5b1
  try clear c6
  try clear c6b0
  try clear c6b1
  try clear c7
  try clear c7b0
  try clear c7b1
  obtain ⟨kq, x4_1, rfl, HA, HJ1, ⟨mc1, rfl⟩⟩ := hcut
  cases kq with
  | zero => exact absurd HA.out (by simp [spec_Arity.j0])
  | succ kj1 =>
   have H := HA.out
   clear HA
   simp only [spec_Arity.j0] at H
   by_cases c8 : x4_1 = true
   ·subst c8
    rw [if_pos rfl] at H
    obtain rfl := Option.some.inj H
    go_wp2
    go_ret
    exact ⟨rs0, dr0⟩
   ·replace c8 := Bool.eq_false_iff.mpr c8
    subst c8
    rw [if_neg (show ¬ (false = true) by decide)] at H
    have HC9 := Aside0.mk H
    clear H
    go_upto_if 11 with (fail)
    go_cut [11] (fun v11 wc => ∃ (kq : Nat) (x11_8 : Bool), v11 = .bool x11_8 ∧ Aside0 (spec_Arity.j1 kq a0 x11_8 = some r) ∧ Aside0 (kq ≤ kj1) ∧ Drawn0 w wc)
    case first =>
     have H := HC9.out
     clear HC9
     by_cases c10 : a0 = 4
     ·rw [if_pos c10] at H
      obtain ⟨c10b0, c10b1⟩ := eqT c10
      clear c10
      (first | rw [c10b0] | (simp only [i64_w, i32_w]; rw [c10b0]) | skip)
      have H' := Aside0.mk H
      clear H
      go_wp2
      go_meet
      case rel => exact ⟨_, ((a0 == 4)), rs0, H', ⟨by have := HJ1.out; first | omega | exact Nat.le_refl _⟩, dr0⟩
     ·rw [if_neg c10] at H
      obtain ⟨c10b0, c10b1⟩ := eqF c10
      (first | rw [c10b0] | (simp only [i64_w, i32_w]; rw [c10b0]) | skip)
      by_cases c11 : a0 = 5
      ·rw [if_pos c11] at H
       obtain ⟨c11b0, c11b1⟩ := eqT c11
       clear c11
       have H' := Aside0.mk H
       clear H
       go_wp2
       go_meet
       case rel => exact ⟨_, ((a0 == 5)), rs0, H', ⟨by have := HJ1.out; first | omega | exact Nat.le_refl _⟩, dr0⟩
      ·rw [if_neg c11] at H
       obtain ⟨c11b0, c11b1⟩ := eqF c11
       by_cases c12 : a0 = 6
       ·rw [if_pos c12] at H
        obtain ⟨c12b0, c12b1⟩ := eqT c12
        clear c12
        have H' := Aside0.mk H
        clear H
        go_wp2
        go_meet
        case rel => exact ⟨_, ((a0 == 6)), rs0, H', ⟨by have := HJ1.out; first | omega | exact Nat.le_refl _⟩, dr0⟩
       ·rw [if_neg c12] at H
        obtain ⟨c12b0, c12b1⟩ := eqF c12
        by_cases c13 : a0 = 8
        ·rw [if_pos c13] at H
         obtain ⟨c13b0, c13b1⟩ := eqT c13
         clear c13
         have H' := Aside0.mk H
         clear H
         go_wp2
         go_meet
         case rel => exact ⟨_, ((a0 == 8)), rs0, H', ⟨by have := HJ1.out; first | omega | exact Nat.le_refl _⟩, dr0⟩
        ·rw [if_neg c13] at H
         obtain ⟨c13b0, c13b1⟩ := eqF c13
         by_cases c14 : a0 = 9
         ·rw [if_pos c14] at H
          obtain ⟨c14b0, c14b1⟩ := eqT c14
          clear c14
          have H' := Aside0.mk H
          clear H
          go_wp2
          go_meet
          case rel => exact ⟨_, ((a0 == 9)), rs0, H', ⟨by have := HJ1.out; first | omega | exact Nat.le_refl _⟩, dr0⟩
         ·rw [if_neg c14] at H
          obtain ⟨c14b0, c14b1⟩ := eqF c14
          by_cases c15 : a0 = 13
          ·rw [if_pos c15] at H
           obtain ⟨c15b0, c15b1⟩ := eqT c15
           clear c15
           have H' := Aside0.mk H
           clear H
           go_wp2
           go_meet
           case rel => exact ⟨_, ((a0 == 13)), rs0, H', ⟨by have := HJ1.out; first | omega | exact Nat.le_refl _⟩, dr0⟩
          ·rw [if_neg c15] at H
           obtain ⟨c15b0, c15b1⟩ := eqF c15
           by_cases c16 : a0 = 17
           ·rw [if_pos c16] at H
            obtain ⟨c16b0, c16b1⟩ := eqT c16
            clear c16
            have H' := Aside0.mk H
            clear H
            go_wp2
            go_meet
            case rel => exact ⟨_, ((a0 == 17)), rs0, H', ⟨by have := HJ1.out; first | omega | exact Nat.le_refl _⟩, dr0⟩
           ·rw [if_neg c16] at H
            obtain ⟨c16b0, c16b1⟩ := eqF c16
            have H' := Aside0.mk H
            clear H
            go_wp2
            go_meet
            case rel => exact ⟨_, ((a0 == 19)), rs0, H', ⟨by have := HJ1.out; first | omega | exact Nat.le_refl _⟩, dr0⟩
    case rest =>
     clear HC9
     try clear c1
     try clear p2
     try clear c3
     try clear c3b0
     try clear c3b1
     try clear c4
     try clear c4b0
     try clear c4b1
     try clear c5
     try clear c5b0
     try clear c5b1
     try clear c6
     try clear c6b0
     try clear c6b1
     try clear c7
     try clear c7b0
     try clear c7b1
     try clear c8
     try clear c10
     try clear c10b0
     try clear c10b1
     try clear c11
     try clear c11b0
     try clear c11b1
     try clear c12
     try clear c12b0
     try clear c12b1
     try clear c13
     try clear c13b0
     try clear c13b1
     try clear c14
     try clear c14b0
     try clear c14b1
     try clear c15
     try clear c15b0
     try clear c15b1
     try clear c16
     try clear c16b0
     try clear c16b1
     try clear p2
     obtain ⟨kq, x11_8, rfl, HA, HJ8, ⟨mc8, rfl⟩⟩ := hcut
     cases kq with
     | zero => exact absurd HA.out (by simp [spec_Arity.j1])
     | succ kj8 =>
      have H := HA.out
      clear HA
      simp only [spec_Arity.j1] at H
      by_cases c17 : x11_8 = true
      subst c17
      rw [if_pos rfl] at H
      obtain rfl := Option.some.inj H
      rotate_left
      replace c17 := Bool.eq_false_iff.mpr c17
      subst c17
      rw [if_neg (show ¬ (false = true) by decide)] at H
      by_cases c18 : a0 = 7
      rw [if_pos c18] at H
      obtain ⟨c18b0, c18b1⟩ := eqT c18
      clear c18
      obtain rfl := Option.some.inj H
      rotate_left
      rw [if_neg c18] at H
      obtain ⟨c18b0, c18b1⟩ := eqF c18
      by_cases c19 : a0 = 14
      rw [if_pos c19] at H
      obtain ⟨c19b0, c19b1⟩ := eqT c19
      clear c19
      obtain rfl := Option.some.inj H
      rotate_left
      rw [if_neg c19] at H
      obtain ⟨c19b0, c19b1⟩ := eqF c19
      obtain rfl := Option.some.inj H
      rotate_left
      all_goals (go_wp2; go_ret; exact ⟨rs0, dr0⟩)

/-! ### spec_Kids: function 43 -/
def spec_Kids.f (k : Nat) (a0_0 : Int) (a0_1 : Int) (a0_2 : Int) (a0_3 : Int) (a0_4 : Int) (a0_5 : ByteArray) (a0_6 : ByteArray) : Option (List Int) := (some (([a0_1, a0_2, a0_3] : List Int) : List Int)).bind fun y146 => ((spec_Arity.f k a0_0).bind fun t149 => (if 0 ≤ t149 then (if t149 ≤ (y146.length : Int) then (some (y146.take (t149 : Int).toNat)) else (none)) else (none)))
theorem spec_Kids.mono : ∀ a0 a1 a2 a3 a4 a5 a6 k, LeO (spec_Kids.f k a0 a1 a2 a3 a4 a5 a6) (spec_Kids.f (k + 1) a0 a1 a2 a3 a4 a5 a6) := by
 intro a0 a1 a2 a3 a4 a5 a6 k
 unfold spec_Kids.f
 repeat' first
   | (with_reducible exact spec_Arity.mono _ _)
   | (with_reducible exact LeO.refl _)
   | (with_reducible exact LeO.none _)
   | (with_reducible refine LeO.ite ?_ ?_)
   | (with_reducible refine LeO.bind ?_ (fun _ => ?_))
   | exact spec_Arity.mono _ _
   | exact LeO.none _
   | refine LeO.ite ?_ ?_
   | refine LeO.bind ?_ (fun _ => ?_)
def spec_Kids.T1 : Bool × List (List Nat × List Nat) := (true, [([], []), ([0], [0]), ([], []), ([2], [2]), ([], []), ([4], [4]), ([1, 3, 5], [1, 3, 5]), ([], []), ([7], [7]), ([8], [8]), ([6, 9], [6, 9]), ([10, 9, 0, 1, 2, 3, 4, 5, 6, 7, 8, 9, 10], [10])])
def spec_Kids.B1 : List Nat := [0, 1, 0, 4, 0, 16, 63, 0, 128, 384, 1023, 2047]
theorem spec_Kids.tab1 : rtab .any (opsOf Tryd.f43 1) = spec_Kids.T1 := by kernel_rfl
theorem spec_Kids.bits1 : waitsOk spec_Kids.T1.2 spec_Kids.B1 = true := by kernel_rfl
set_option maxHeartbeats 8000000 in
set_option maxRecDepth 100000 in
theorem spec_Kids.calls (k : Nat) (a0_0 : Int) (a0_1 : Int) (a0_2 : Int) (a0_3 : Int) (a0_4 : Int) (a0_5 : ByteArray) (a0_6 : ByteArray) (r : List Int) (w : World) (h : spec_Kids.f k a0_0 a0_1 a0_2 a0_3 a0_4 a0_5 a0_6 = some r) :
  Calls Tryd.prog 43 #[.agg #[.int .i64 a0_0, .int .i64 a0_1, .int .i64 a0_2, .int .i64 a0_3, .int .i64 a0_4, .string a0_5, .string a0_6]] w fun e w' => ∃ v0_ : Value, e = .returned (v0_) ∧ Kd.R (Kd.int .i64) 3 w' w.heap.size (fun _ => True) v0_ r ∧ Below w.heap.size w w' := by
 have hu48 := Tryd.underlying48
 have HB := Aside0.mk (Below.refl w.heap.size w)
 have H := h; unfold spec_Kids.f at H
 clear h
 obtain ⟨y146, hy146⟩ : ∃ y_ : List Int, y_ = (([a0_1, a0_2, a0_3] : List Int)) := ⟨_, rfl⟩
 replace H : ((spec_Arity.f k a0_0).bind fun t149 => (if 0 ≤ t149 then (if t149 ≤ (y146.length : Int) then (some (y146.take (t149 : Int).toNat)) else (none)) else (none))) = some r := by first | (rw [hy146]; with_reducible exact H) | (have H2_ := (Option.bind_some _ _).symm.trans H; rw [hy146]; with_reducible exact H2_) | (have H2_ := (Option.bind_some _ _).symm.trans H; with_reducible exact H2_) | with_reducible exact H | (rw [hy146]; exact H) | exact H
 have Ny146 := Aside0.mk hy146
 clear hy146
 obtain ⟨t149, A2, H⟩ := bx H
 by_cases c3 : 0 ≤ t149
 ·rw [if_pos c3] at H
  have c3b0 := eq_true c3
  have c3b1 := decide_eq_true c3
  clear c3
  by_cases c4 : t149 ≤ (y146.length : Int)
  ·rw [if_pos c4] at H
   have c4b0 := eq_true c4
   have c4b1 := decide_eq_true c4
   clear c4
   obtain ⟨y150, hy150⟩ : ∃ y_ : List Int, y_ = (y146.take (t149 : Int).toNat) := ⟨_, rfl⟩
   replace H : (some y150) = some r := by first | (rw [hy150]; with_reducible exact H) | (have H2_ := (Option.bind_some _ _).symm.trans H; rw [hy150]; with_reducible exact H2_) | (have H2_ := (Option.bind_some _ _).symm.trans H; with_reducible exact H2_) | with_reducible exact H | (rw [hy150]; exact H) | exact H
   have Ny150 := Aside0.mk hy150
   clear hy150
   obtain rfl := Option.some.inj H
   go_enter Tryd.func43, Tryd.ntmps43
   try go_wp2_with (first | ((with_reducible refine gate_dst (N := 1) rfl ?_); refine box_event ?hg (N := 1) ?hd (cs := #[.int .i64 a0_0, .int .i64 a0_1, .int .i64 a0_2, .int .i64 a0_3, .int .i64 a0_4, .string a0_5, .string a0_6]) (t := 48) ?hr ?_; (case hd => rfl); (case hg => rfl); (case hr => first | (go_simp; done) | (go_simp; rfl)); intro gb145 hg w5 hbox hb; have BK145 := Aside0.mk (hbox); have GW145 := Aside0.mk ((by rw [hg]; exact (below_size bb0) : w.heap.size ≤ gb145)); have GE145 := Aside0.mk ((by rw [hg]; exact (below_size bb0) : w.heap.size ≤ gb145)); replace HB := Aside0.mk (below_step bb0 hb); clear hb hbox hg))
   replace BK145 := Aside0.mk (blk_drew BK145.out)
   replace HB := Aside0.mk (below_drew1 HB.out)
   refine start_ (n := 12) (S := fun w' => w'.cell? ⟨gb145, 0, none⟩ = some (.int .i64 a0_0) ∧ w'.cell? ⟨gb145, 1, none⟩ = some (.int .i64 a0_1) ∧ w'.cell? ⟨gb145, 2, none⟩ = some (.int .i64 a0_2) ∧ w'.cell? ⟨gb145, 3, none⟩ = some (.int .i64 a0_3) ∧ w'.cell? ⟨gb145, 4, none⟩ = some (.int .i64 a0_4) ∧ w'.cell? ⟨gb145, 5, none⟩ = some (.string a0_5) ∧ w'.cell? ⟨gb145, 6, none⟩ = some (.string a0_6)) (ds := []) #[false, false, false, false, false, false, false, false, false, false, false, false] (by kernel_rfl) rfl rfl ⟨(blk_cell BK145.out 0).trans rfl, (blk_cell BK145.out 1).trans rfl, (blk_cell BK145.out 2).trans rfl, (blk_cell BK145.out 3).trans rfl, (blk_cell BK145.out 4).trans rfl, (blk_cell BK145.out 5).trans rfl, (blk_cell BK145.out 6).trans rfl⟩ (fun hHeld => ?_); refine with_tabW spec_Kids.tab1 spec_Kids.bits1 (fun HT_ HW_ => ?_)
   generalize w5.drew = w6 at BK145 HB hHeld ⊢
   refine pu_ 0 3 HT_ ?_
   refine pu_ 2 5 HT_ ?_
   refine pu_ 4 7 HT_ ?_
   refine pu_ 7 10 HT_ ?_
   refine tk_ 1 4 HT_ HW_ hHeld ?_
   refine tk_ 3 6 HT_ HW_ hHeld ?_
   refine tk_ 5 8 HT_ HW_ hHeld ?_
   refine tk_ 8 11 HT_ HW_ hHeld ?_
   refine join_ (σ := Value) 2 #[true, true, true, true, true, true, true, true, true, true, false, false] (fun s_ => [(9, s_), (12, .int .i64 t149)]) (fun s_ w' => (w'.cell? ⟨gb145, 0, none⟩ = some (.int .i64 a0_0) ∧ w'.cell? ⟨gb145, 1, none⟩ = some (.int .i64 a0_1) ∧ w'.cell? ⟨gb145, 2, none⟩ = some (.int .i64 a0_2) ∧ w'.cell? ⟨gb145, 3, none⟩ = some (.int .i64 a0_3) ∧ w'.cell? ⟨gb145, 4, none⟩ = some (.int .i64 a0_4) ∧ w'.cell? ⟨gb145, 5, none⟩ = some (.string a0_5) ∧ w'.cell? ⟨gb145, 6, none⟩ = some (.string a0_6)) ∧ (Kd.R (Kd.int .i64) 3 w' w.heap.size (fun _ => True) s_ y146) ∧ (w'.heap[gb145]? = some (.cells #[.int .i64 a0_0, .int .i64 a0_1, .int .i64 a0_2, .int .i64 a0_3, .int .i64 a0_4, .string a0_5, .string a0_6] 48 (0, 0))) ∧ (Below w.heap.size w w')) ?_ ?_
   rotate_left
   ·intro hCont
    refine two_ (i := 6) (j := 9) (Ni := some 9) (Nj := some 12) #[true, true, true, true, true, true, true, true, true, false, false, false] #[true, true, true, true, true, true, false, true, true, true, false, false] rfl rfl rfl rfl (two_of HT_.out (by kernel_rfl)) (by decide) (by decide) (fun K hK => ?_) (fun K hK => ?_)
    ·skip
     refine Kd.R_lit_step (Kd.int .i64) _ 3 ?hg (N := 9) ?hd (xs := ([a0_1, a0_2, a0_3] : List Int)) (inner := [.int .i64 a0_1, .int .i64 a0_2, .int .i64 a0_3]) (ok := fun _ => True) (okp := fun _ => True) ?hr ?hp (fun _ hk => hk) trivial (Below.refl _ _) (Nat.le_refl _) (by simp) ?_; (case hd => rfl); (case hg => rfl); (case hr => first | (go_simp; done) | (go_simp; rfl)); (case hp => exact (Reps.one (show Kd.M (Kd.int .i64) _ _ _ a0_1 [.int .i64 a0_1] from rfl) (Reps.one (show Kd.M (Kd.int .i64) _ _ _ a0_2 [.int .i64 a0_2] from rfl) (Reps.one (show Kd.M (Kd.int .i64) _ _ _ a0_3 [.int .i64 a0_3] from rfl) (Reps.none _ _)))))
     intro v147 w7 ho8 hb hg_ hnew_
     clear hg_ hnew_
     (first | rw [← Ny146.out] at ho8 | (simp only [Int.reduceToNat] at ho8; rw [← Ny146.out] at ho8))
     have HO148 := Aside0.mk (Kd.R_lower ho8 (below_size (bb1 GE145.out)))
     replace BK145 := Aside0.mk (blk_below (g := gb145) (bk0 BK145.out) hb)
     replace HB := Aside0.mk (below_step (bb1 GE145.out) hb)
     clear hb ho8
     refine hK.out _ _ ⟨(blk_cell BK145.out 0).trans rfl, (blk_cell BK145.out 1).trans rfl, (blk_cell BK145.out 2).trans rfl, (blk_cell BK145.out 3).trans rfl, (blk_cell BK145.out 4).trans rfl, (blk_cell BK145.out 5).trans rfl, (blk_cell BK145.out 6).trans rfl⟩ (fun hHeld => ?_)
     clear hK K
     refine nm_ ?_
     refine on_ 9 12 HT_ fun K hK => ?_
     refine goes_ Tryd.func55 (by kernel_rfl) rfl #[.int .i64 a0_0] (by rfl) rfl rfl mm0 ?_
     with_reducible refine (spec_Arity.calls k a0_0 t149 _ A2.out).mono ?_
     rintro e w' ⟨rfl, ⟨nd, rfl⟩⟩
     refine ⟨_, rfl, ?_⟩
     refine hK.out _ _ ⟨(blk_cell BK145.out 0).trans rfl, (blk_cell BK145.out 1).trans rfl, (blk_cell BK145.out 2).trans rfl, (blk_cell BK145.out 3).trans rfl, (blk_cell BK145.out 4).trans rfl, (blk_cell BK145.out 5).trans rfl, (blk_cell BK145.out 6).trans rfl⟩ (fun hHeld => ?_)
     clear hK K
     refine nm_ ?_
     exact norm_ (by simp only [putAll, Act.put, List.setIfInBounds_toArray, List.set_cons_zero, List.set_cons_succ]) (hCont (v147) _ ⟨hHeld, (ra0 HO148.out), (bk0 BK145.out), (bb1 GE145.out)⟩)
    ·skip
     refine goes_ Tryd.func55 (by kernel_rfl) rfl #[.int .i64 a0_0] (by rfl) rfl rfl mm0 ?_
     with_reducible refine (spec_Arity.calls k a0_0 t149 _ A2.out).mono ?_
     rintro e w' ⟨rfl, ⟨nd, rfl⟩⟩
     refine ⟨_, rfl, ?_⟩
     refine hK.out _ _ ⟨(blk_cell BK145.out 0).trans rfl, (blk_cell BK145.out 1).trans rfl, (blk_cell BK145.out 2).trans rfl, (blk_cell BK145.out 3).trans rfl, (blk_cell BK145.out 4).trans rfl, (blk_cell BK145.out 5).trans rfl, (blk_cell BK145.out 6).trans rfl⟩ (fun hHeld => ?_)
     clear hK K
     refine nm_ ?_
     refine on_ 6 9 HT_ fun K hK => ?_
     refine Kd.R_lit_step (Kd.int .i64) _ 3 ?hg (N := 9) ?hd (xs := ([a0_1, a0_2, a0_3] : List Int)) (inner := [.int .i64 a0_1, .int .i64 a0_2, .int .i64 a0_3]) (ok := fun _ => True) (okp := fun _ => True) ?hr ?hp (fun _ hk => hk) trivial (Below.refl _ _) (Nat.le_refl _) (by simp) ?_; (case hd => rfl); (case hg => rfl); (case hr => first | (go_simp; done) | (go_simp; rfl)); (case hp => exact (Reps.one (show Kd.M (Kd.int .i64) _ _ _ a0_1 [.int .i64 a0_1] from rfl) (Reps.one (show Kd.M (Kd.int .i64) _ _ _ a0_2 [.int .i64 a0_2] from rfl) (Reps.one (show Kd.M (Kd.int .i64) _ _ _ a0_3 [.int .i64 a0_3] from rfl) (Reps.none _ _)))))
     intro v147 w7 ho8 hb hg_ hnew_
     clear hg_ hnew_
     (first | rw [← Ny146.out] at ho8 | (simp only [Int.reduceToNat] at ho8; rw [← Ny146.out] at ho8))
     have HO148 := Aside0.mk (Kd.R_lower ho8 (below_size (bb1 GE145.out)))
     replace BK145 := Aside0.mk (blk_below (g := gb145) (bk0 BK145.out) hb)
     replace HB := Aside0.mk (below_step (bb1 GE145.out) hb)
     clear hb ho8
     refine hK.out _ _ ⟨(blk_cell BK145.out 0).trans rfl, (blk_cell BK145.out 1).trans rfl, (blk_cell BK145.out 2).trans rfl, (blk_cell BK145.out 3).trans rfl, (blk_cell BK145.out 4).trans rfl, (blk_cell BK145.out 5).trans rfl, (blk_cell BK145.out 6).trans rfl⟩ (fun hHeld => ?_)
     clear hK K
     refine nm_ ?_
     exact norm_ (by simp only [putAll, Act.put, List.setIfInBounds_toArray, List.set_cons_zero, List.set_cons_succ]) (hCont (v147) _ ⟨hHeld, (ra0 HO148.out), (bk0 BK145.out), (bb1 GE145.out)⟩)
   rintro v147 w9 ⟨hS_, h0_, h1_, h2_⟩
   have n0_ : Aside0 (Kd.R (Kd.int .i64) 3 w9 w.heap.size (fun _ => True) v147 y146) := ⟨h0_⟩
   have n1_ : Aside0 (w9.heap[gb145]? = some (.cells #[.int .i64 a0_0, .int .i64 a0_1, .int .i64 a0_2, .int .i64 a0_3, .int .i64 a0_4, .string a0_5, .string a0_6] 48 (0, 0))) := ⟨h1_⟩
   have n2_ : Aside0 (Below w.heap.size w w9) := ⟨h2_⟩
   clear BK145
   clear HB
   clear h0_ h1_ h2_
   have HO148 := n0_
   have BK145 := n1_
   have HB := n2_
   clear n0_ n1_ n2_
   have hHeld : w9.cell? ⟨gb145, 0, none⟩ = some (.int .i64 a0_0) ∧ w9.cell? ⟨gb145, 1, none⟩ = some (.int .i64 a0_1) ∧ w9.cell? ⟨gb145, 2, none⟩ = some (.int .i64 a0_2) ∧ w9.cell? ⟨gb145, 3, none⟩ = some (.int .i64 a0_3) ∧ w9.cell? ⟨gb145, 4, none⟩ = some (.int .i64 a0_4) ∧ w9.cell? ⟨gb145, 5, none⟩ = some (.string a0_5) ∧ w9.cell? ⟨gb145, 6, none⟩ = some (.string a0_6) := hS_
   obtain ⟨Ao10, co10, eo10⟩ := Kd.R_slice HO148.out
   (first | subst eo10 | (injection eo10 with f1_ f2_ f3_; have f4_ := f1_.symm; have f5_ := f3_.symm; clear f1_ f2_ f3_; subst f4_; subst f5_))
   have q11 : (t149 : Int) ≤ ((y146.length : Int) : Int) := of_decide_eq_true as0
   obtain ⟨i011, hi011, _, hsz11, _⟩ := info_parts info3
   have hcut11 := cut_to (P := Tryd.prog) 35 3 .i64 Tryd.underlying35 hi011 Ao10 y146.length co10 t149 (of_decide_eq_true as0) q11 (Kd.R_reads' HO148.out).2.1
   have hr11 := Kd.R_take (m := (t149 : Int).toNat) HO148.out (by omega)
   have hy11 : y150.length = (t149 : Int).toNat := (by rw [Ny150.out, List.length_take]; omega)
   rw [← Ny150.out] at hr11
   rw [← hy11] at hr11 hcut11
   clear hy11 hi011 hsz11 HO148
   have HO152 := Aside0.mk hr11
   clear hr11
   replace q11 := eq_true q11
   refine norm_ (a' := ?_) ?_ ?_
   rotate_left
   ·simp only [putAll, Act.put, List.setIfInBounds_toArray, List.set_cons_zero, List.set_cons_succ]
    rfl
   refine pu_ 10 13 HT_ ?_
   refine pu_ 11 2 HT_ ?_
   refine done_ (done_of HT_.out (by kernel_rfl)) ?_
   try go_wp2
   go_ret
   exact ⟨_, er0, by refine ra0 ?_; exact HO152.out, bb1 GE145.out⟩
  ·rw [if_neg c4] at H
   exact absurd H (by simp)
 ·rw [if_neg c3] at H
  exact absurd H (by simp)

/-! ### spec_l3Names: function 63 -/
def spec_l3Names.j0 : Nat → Int → Bool → Option (Int)
 | 0, _, _ => none
 | k + 1, x3, x4 => if x4 = true then (some 1) else (if x3 = 6 then (some 2) else (if x3 = 14 then (some 2) else (some 0)))
def spec_l3Names.f (k : Nat) (a0 : Int) : Option (Int) := if a0 = 1 then (spec_l3Names.j0 k a0 (a0 == 1)) else (if a0 = 3 then (spec_l3Names.j0 k a0 (a0 == 3)) else (if a0 = 5 then (spec_l3Names.j0 k a0 (a0 == 5)) else (spec_l3Names.j0 k a0 (a0 == 19))))
theorem spec_l3Names.mono_l : ∀ k, (∀ y0 y1, LeO (spec_l3Names.j0 k y0 y1) (spec_l3Names.j0 (k + 1) y0 y1))
 | 0 => fun _ _ r h => by simp [spec_l3Names.j0] at h
 | k + 1 => by
  have ih0 := spec_l3Names.mono_l k
  ·intro y0 y1
   unfold spec_l3Names.j0
   repeat' first
   | (with_reducible exact ih0 _ _)
   | (with_reducible exact LeO.refl _)
   | (with_reducible exact LeO.none _)
   | (with_reducible refine LeO.ite ?_ ?_)
   | (with_reducible refine LeO.bind ?_ (fun _ => ?_))
   | exact ih0 _ _
   | exact LeO.none _
   | refine LeO.ite ?_ ?_
   | refine LeO.bind ?_ (fun _ => ?_)
theorem spec_l3Names.mono : ∀ a0 k, LeO (spec_l3Names.f k a0) (spec_l3Names.f (k + 1) a0) := by
 intro a0 k
 have ih0 := spec_l3Names.mono_l k
 unfold spec_l3Names.f
 repeat' first
   | (with_reducible exact ih0 _ _)
   | (with_reducible exact LeO.refl _)
   | (with_reducible exact LeO.none _)
   | (with_reducible refine LeO.ite ?_ ?_)
   | (with_reducible refine LeO.bind ?_ (fun _ => ?_))
   | exact ih0 _ _
   | exact LeO.none _
   | refine LeO.ite ?_ ?_
   | refine LeO.bind ?_ (fun _ => ?_)
set_option maxHeartbeats 8000000 in
set_option maxRecDepth 100000 in
theorem spec_l3Names.calls (k : Nat) (a0 : Int) (r : Int) (w : World) (h : spec_l3Names.f k a0 = some r) :
  Calls Tryd.prog 63 #[.int .i64 a0] w fun e w' => e = .returned (.int .i64 r) ∧ Drawn0 w w' := by
 have H := h; unfold spec_l3Names.f at H
 clear h
 have HC2 := Aside0.mk H
 clear H
 go_enter Tryd.func63, Tryd.ntmps63
 go_upto_if 4 with (fail)
 go_cut [4] (fun v4 wc => ∃ (kq : Nat) (x4_1 : Bool), v4 = .bool x4_1 ∧ Aside0 (spec_l3Names.j0 kq a0 x4_1 = some r) ∧ Aside0 (kq ≤ k) ∧ Drawn0 w wc)
 case first =>
  have H := HC2.out
  clear HC2
  by_cases c3 : a0 = 1
  ·rw [if_pos c3] at H
   obtain ⟨c3b0, c3b1⟩ := eqT c3
   clear c3
   (first | rw [c3b0] | (simp only [i64_w, i32_w]; rw [c3b0]) | skip)
   have H' := Aside0.mk H
   clear H
   go_wp2
   go_meet
   case rel => exact ⟨_, ((a0 == 1)), rs0, H', ⟨by first | omega | exact Nat.le_refl _⟩, dr0⟩
  ·rw [if_neg c3] at H
   obtain ⟨c3b0, c3b1⟩ := eqF c3
   (first | rw [c3b0] | (simp only [i64_w, i32_w]; rw [c3b0]) | skip)
   by_cases c4 : a0 = 3
   ·rw [if_pos c4] at H
    obtain ⟨c4b0, c4b1⟩ := eqT c4
    clear c4
    have H' := Aside0.mk H
    clear H
    go_wp2
    go_meet
    case rel => exact ⟨_, ((a0 == 3)), rs0, H', ⟨by first | omega | exact Nat.le_refl _⟩, dr0⟩
   ·rw [if_neg c4] at H
    obtain ⟨c4b0, c4b1⟩ := eqF c4
    by_cases c5 : a0 = 5
    ·rw [if_pos c5] at H
     obtain ⟨c5b0, c5b1⟩ := eqT c5
     clear c5
     have H' := Aside0.mk H
     clear H
     go_wp2
     go_meet
     case rel => exact ⟨_, ((a0 == 5)), rs0, H', ⟨by first | omega | exact Nat.le_refl _⟩, dr0⟩
    ·rw [if_neg c5] at H
     obtain ⟨c5b0, c5b1⟩ := eqF c5
     have H' := Aside0.mk H
     clear H
     go_wp2
     go_meet
     case rel => exact ⟨_, ((a0 == 19)), rs0, H', ⟨by first | omega | exact Nat.le_refl _⟩, dr0⟩
 case rest =>
  clear HC2
  try clear p2
  try clear c3
  try clear c3b0
  try clear c3b1
  try clear c4
  try clear c4b0
  try clear c4b1
  try clear c5
  try clear c5b0
  try clear c5b1
  obtain ⟨kq, x4_1, rfl, HA, HJ1, ⟨mc1, rfl⟩⟩ := hcut
  cases kq with
  | zero => exact absurd HA.out (by simp [spec_l3Names.j0])
  | succ kj1 =>
   have H := HA.out
   clear HA
   simp only [spec_l3Names.j0] at H
   by_cases c6 : x4_1 = true
   subst c6
   rw [if_pos rfl] at H
   obtain rfl := Option.some.inj H
   rotate_left
   replace c6 := Bool.eq_false_iff.mpr c6
   subst c6
   rw [if_neg (show ¬ (false = true) by decide)] at H
   by_cases c7 : a0 = 6
   rw [if_pos c7] at H
   obtain ⟨c7b0, c7b1⟩ := eqT c7
   clear c7
   obtain rfl := Option.some.inj H
   rotate_left
   rw [if_neg c7] at H
   obtain ⟨c7b0, c7b1⟩ := eqF c7
   by_cases c8 : a0 = 14
   rw [if_pos c8] at H
   obtain ⟨c8b0, c8b1⟩ := eqT c8
   clear c8
   obtain rfl := Option.some.inj H
   rotate_left
   rw [if_neg c8] at H
   obtain ⟨c8b0, c8b1⟩ := eqF c8
   obtain rfl := Option.some.inj H
   rotate_left
   all_goals (go_wp2; go_ret; exact ⟨rs0, dr0⟩)

/-! ### spec_l2Letter: function 70 -/
def spec_l2Letter.f (a0 : Int) : Option (Bool) := if a0 ≥ 97 then (some (decide (a0 ≤ 122))) else (some false)
set_option maxHeartbeats 8000000 in
set_option maxRecDepth 100000 in
theorem spec_l2Letter.calls (a0 : Int) (r : Bool) (w : World) (h : spec_l2Letter.f a0 = some r) :
  Calls Tryd.prog 70 #[.int .u8 a0] w fun e w' => e = .returned (.bool r) ∧ Drawn0 w w' := by
 have H := h; unfold spec_l2Letter.f at H
 clear h
 by_cases c2 : a0 ≥ 97
 rw [if_pos c2] at H
 have c2b0 := decide_eq_true c2
 clear c2
 obtain rfl := Option.some.inj H
 rotate_left
 rw [if_neg c2] at H
 have c2b0 := decide_eq_false c2
 clear c2
 obtain rfl := Option.some.inj H
 rotate_left
 all_goals (go_enter Tryd.func70, Tryd.ntmps70; go_wp2; go_ret; exact ⟨rs0, dr0⟩)

end Go.Proofs.YtoebebgeiahagaaDoor.PFnExactDropLets
