-- Printed by this session's own program (wip/tools)
import Derived.Test.YtoebebgeiahagaaDoorDlPFnExactDropLetsx0
namespace Go.Proofs.YtoebebgeiahagaaDoor.PFnExactDropLets
open Go.RowKit Go.Proofs.YtoebebgeiahagaaDoorW.PrintWords Go.Proofs.YtoebebgeiahagaaDoorW.PrintLast Go.Proofs.YtoebebgeiahagaaDoorW.PrintMore
attribute [local go_sem] max2_int min2_int max_two min_two max_three min_three max_four min_four   -- for this text's walks alone
set_option linter.unusedVariables false
set_option linter.unusedSimpArgs false

/-! ### impl_Arity: function 58 -/
mutual
def impl_Arity.j0 : Nat → Int → Bool → Option (Int)
 | 0, _, _ => none
 | k + 1, x3, x4 => if x4 = true then (some 1) else (if x3 = 4 then (impl_Arity.j1 k x3 (x3 == 4)) else (if x3 = 5 then (impl_Arity.j1 k x3 (x3 == 5)) else (if x3 = 6 then (impl_Arity.j1 k x3 (x3 == 6)) else (if x3 = 8 then (impl_Arity.j1 k x3 (x3 == 8)) else (if x3 = 9 then (impl_Arity.j1 k x3 (x3 == 9)) else (if x3 = 13 then (impl_Arity.j1 k x3 (x3 == 13)) else (if x3 = 17 then (impl_Arity.j1 k x3 (x3 == 17)) else (impl_Arity.j1 k x3 (x3 == 19)))))))))
def impl_Arity.j1 : Nat → Int → Bool → Option (Int)
 | 0, _, _ => none
 | k + 1, x3, x11 => if x11 = true then (some 2) else (if x3 = 7 then (some 3) else (if x3 = 14 then (some 3) else (some 0)))
end
def impl_Arity.f (k : Nat) (a0 : Int) : Option (Int) := if a0 = 3 then (impl_Arity.j0 k a0 (a0 == 3)) else (if a0 = 10 then (impl_Arity.j0 k a0 (a0 == 10)) else (if a0 = 11 then (impl_Arity.j0 k a0 (a0 == 11)) else (if a0 = 15 then (impl_Arity.j0 k a0 (a0 == 15)) else (if a0 = 16 then (impl_Arity.j0 k a0 (a0 == 16)) else (impl_Arity.j0 k a0 (a0 == 18))))))
theorem impl_Arity.mono_l : ∀ k, (∀ y0 y1, LeO (impl_Arity.j0 k y0 y1) (impl_Arity.j0 (k + 1) y0 y1)) ∧ (∀ y0 y1, LeO (impl_Arity.j1 k y0 y1) (impl_Arity.j1 (k + 1) y0 y1))
 | 0 => ⟨fun _ _ r h => by simp [impl_Arity.j0] at h, fun _ _ r h => by simp [impl_Arity.j1] at h⟩
 | k + 1 => by
  obtain ⟨ih0, ih1⟩ := impl_Arity.mono_l k
  refine ⟨?_, ?_⟩
  ·intro y0 y1
   unfold impl_Arity.j0
   repeat' first
   | (with_reducible exact ih0 _ _)
   | (with_reducible exact ih1 _ _)
   | (with_reducible exact LeO.refl _)
   | (with_reducible exact LeO.none _)
   | (with_reducible refine LeO.ite ?_ ?_)
   | (with_reducible refine LeO.bind ?_ (fun _ => ?_))
   | exact ih0 _ _
   | exact ih1 _ _
   | exact LeO.none _
   | refine LeO.ite ?_ ?_
   | refine LeO.bind ?_ (fun _ => ?_)
  ·intro y0 y1
   unfold impl_Arity.j1
   repeat' first
   | (with_reducible exact ih0 _ _)
   | (with_reducible exact ih1 _ _)
   | (with_reducible exact LeO.refl _)
   | (with_reducible exact LeO.none _)
   | (with_reducible refine LeO.ite ?_ ?_)
   | (with_reducible refine LeO.bind ?_ (fun _ => ?_))
   | exact ih0 _ _
   | exact ih1 _ _
   | exact LeO.none _
   | refine LeO.ite ?_ ?_
   | refine LeO.bind ?_ (fun _ => ?_)
theorem impl_Arity.mono : ∀ a0 k, LeO (impl_Arity.f k a0) (impl_Arity.f (k + 1) a0) := by
 intro a0 k
 obtain ⟨ih0, ih1⟩ := impl_Arity.mono_l k
 unfold impl_Arity.f
 repeat' first
   | (with_reducible exact ih0 _ _)
   | (with_reducible exact ih1 _ _)
   | (with_reducible exact LeO.refl _)
   | (with_reducible exact LeO.none _)
   | (with_reducible refine LeO.ite ?_ ?_)
   | (with_reducible refine LeO.bind ?_ (fun _ => ?_))
   | exact ih0 _ _
   | exact ih1 _ _
   | exact LeO.none _
   | refine LeO.ite ?_ ?_
   | refine LeO.bind ?_ (fun _ => ?_)
set_option maxHeartbeats 8000000 in
set_option maxRecDepth 100000 in
theorem impl_Arity.calls (k : Nat) (a0 : Int) (r : Int) (w : World) (h : impl_Arity.f k a0 = some r) :
  Calls Tryd.prog 58 #[.int .i64 a0] w fun e w' => e = .returned (.int .i64 r) ∧ Drawn0 w w' := by
 have H := h; unfold impl_Arity.f at H
 clear h
 have HC2 := Aside0.mk H
 clear H
 go_enter Tryd.func58, Tryd.ntmps58
 go_upto_if 4 with (fail)
 go_cut [4] (fun v4 wc => ∃ (kq : Nat) (x4_1 : Bool), v4 = .bool x4_1 ∧ Aside0 (impl_Arity.j0 kq a0 x4_1 = some r) ∧ Aside0 (kq ≤ k) ∧ Drawn0 w wc)
 case first =>
  have H := HC2.out
  clear HC2
  by_cases c3 : a0 = 3
  ·rw [if_pos c3] at H
   obtain ⟨c3b0, c3b1⟩ := eqT c3
   clear c3
   (first | rw [c3b0] | (simp only [i64_w, i32_w]; rw [c3b0]) | skip)
   have H' := Aside0.mk H
   clear H
   go_wp2
   go_meet
   case rel => exact ⟨_, ((a0 == 3)), rs0, H', ⟨by first | omega | exact Nat.le_refl _⟩, dr0⟩
  ·rw [if_neg c3] at H
   obtain ⟨c3b0, c3b1⟩ := eqF c3
   (first | rw [c3b0] | (simp only [i64_w, i32_w]; rw [c3b0]) | skip)
   by_cases c4 : a0 = 10
   ·rw [if_pos c4] at H
    obtain ⟨c4b0, c4b1⟩ := eqT c4
    clear c4
    have H' := Aside0.mk H
    clear H
    go_wp2
    go_meet
    case rel => exact ⟨_, ((a0 == 10)), rs0, H', ⟨by first | omega | exact Nat.le_refl _⟩, dr0⟩
   ·rw [if_neg c4] at H
    obtain ⟨c4b0, c4b1⟩ := eqF c4
    by_cases c5 : a0 = 11
    ·rw [if_pos c5] at H
     obtain ⟨c5b0, c5b1⟩ := eqT c5
     clear c5
     have H' := Aside0.mk H
     clear H
     go_wp2
     go_meet
     case rel => exact ⟨_, ((a0 == 11)), rs0, H', ⟨by first | omega | exact Nat.le_refl _⟩, dr0⟩
    ·rw [if_neg c5] at H
     obtain ⟨c5b0, c5b1⟩ := eqF c5
     by_cases c6 : a0 = 15
     ·rw [if_pos c6] at H
      obtain ⟨c6b0, c6b1⟩ := eqT c6
      clear c6
      have H' := Aside0.mk H
      clear H
      go_wp2
      go_meet
      case rel => exact ⟨_, ((a0 == 15)), rs0, H', ⟨by first | omega | exact Nat.le_refl _⟩, dr0⟩
     ·rw [if_neg c6] at H
      obtain ⟨c6b0, c6b1⟩ := eqF c6
      by_cases c7 : a0 = 16
      ·rw [if_pos c7] at H
       obtain ⟨c7b0, c7b1⟩ := eqT c7
       clear c7
       have H' := Aside0.mk H
       clear H
       go_wp2
       go_meet
       case rel => exact ⟨_, ((a0 == 16)), rs0, H', ⟨by first | omega | exact Nat.le_refl _⟩, dr0⟩
      ·rw [if_neg c7] at H
       obtain ⟨c7b0, c7b1⟩ := eqF c7
       have H' := Aside0.mk H
       clear H
       go_wp2
       go_meet
       case rel => exact ⟨_, ((a0 == 18)), rs0, H', ⟨by first | omega | exact Nat.le_refl _⟩, dr0⟩
 case rest =>
  clear HC2
  try clear p2
  try clear c3
  try clear c3b0
  try clear c3b1
  try clear c4
  try clear c4b0
  try clear c4b1
  try clear c5
  try clear c5b0
  try clear c5b1
  try clear c6
  try clear c6b0
  try clear c6b1
  try clear c7
  try clear c7b0
  try clear c7b1
  obtain ⟨kq, x4_1, rfl, HA, HJ1, ⟨mc1, rfl⟩⟩ := hcut
  cases kq with
  | zero => exact absurd HA.out (by simp [impl_Arity.j0])
  | succ kj1 =>
   have H := HA.out
   clear HA
   simp only [impl_Arity.j0] at H
   by_cases c8 : x4_1 = true
   ·subst c8
    rw [if_pos rfl] at H
    obtain rfl := Option.some.inj H
    go_wp2
    go_ret
    exact ⟨rs0, dr0⟩
   ·replace c8 := Bool.eq_false_iff.mpr c8
    subst c8
    rw [if_neg (show ¬ (false = true) by decide)] at H
    have HC9 := Aside0.mk H
    clear H
    go_upto_if 11 with (fail)
    go_cut [11] (fun v11 wc => ∃ (kq : Nat) (x11_8 : Bool), v11 = .bool x11_8 ∧ Aside0 (impl_Arity.j1 kq a0 x11_8 = some r) ∧ Aside0 (kq ≤ kj1) ∧ Drawn0 w wc)
    case first =>
     have H := HC9.out
     clear HC9
     by_cases c10 : a0 = 4
     ·rw [if_pos c10] at H
      obtain ⟨c10b0, c10b1⟩ := eqT c10
      clear c10
      (first | rw [c10b0] | (simp only [i64_w, i32_w]; rw [c10b0]) | skip)
      have H' := Aside0.mk H
      clear H
      go_wp2
      go_meet
      case rel => exact ⟨_, ((a0 == 4)), rs0, H', ⟨by have := HJ1.out; first | omega | exact Nat.le_refl _⟩, dr0⟩
     ·rw [if_neg c10] at H
      obtain ⟨c10b0, c10b1⟩ := eqF c10
      (first | rw [c10b0] | (simp only [i64_w, i32_w]; rw [c10b0]) | skip)
      by_cases c11 : a0 = 5
      ·rw [if_pos c11] at H
       obtain ⟨c11b0, c11b1⟩ := eqT c11
       clear c11
       have H' := Aside0.mk H
       clear H
       go_wp2
       go_meet
       case rel => exact ⟨_, ((a0 == 5)), rs0, H', ⟨by have := HJ1.out; first | omega | exact Nat.le_refl _⟩, dr0⟩
      ·rw [if_neg c11] at H
       obtain ⟨c11b0, c11b1⟩ := eqF c11
       by_cases c12 : a0 = 6
       ·rw [if_pos c12] at H
        obtain ⟨c12b0, c12b1⟩ := eqT c12
        clear c12
        have H' := Aside0.mk H
        clear H
        go_wp2
        go_meet
        case rel => exact ⟨_, ((a0 == 6)), rs0, H', ⟨by have := HJ1.out; first | omega | exact Nat.le_refl _⟩, dr0⟩
       ·rw [if_neg c12] at H
        obtain ⟨c12b0, c12b1⟩ := eqF c12
        by_cases c13 : a0 = 8
        ·rw [if_pos c13] at H
         obtain ⟨c13b0, c13b1⟩ := eqT c13
         clear c13
         have H' := Aside0.mk H
         clear H
         go_wp2
         go_meet
         case rel => exact ⟨_, ((a0 == 8)), rs0, H', ⟨by have := HJ1.out; first | omega | exact Nat.le_refl _⟩, dr0⟩
        ·rw [if_neg c13] at H
         obtain ⟨c13b0, c13b1⟩ := eqF c13
         by_cases c14 : a0 = 9
         ·rw [if_pos c14] at H
          obtain ⟨c14b0, c14b1⟩ := eqT c14
          clear c14
          have H' := Aside0.mk H
          clear H
          go_wp2
          go_meet
          case rel => exact ⟨_, ((a0 == 9)), rs0, H', ⟨by have := HJ1.out; first | omega | exact Nat.le_refl _⟩, dr0⟩
         ·rw [if_neg c14] at H
          obtain ⟨c14b0, c14b1⟩ := eqF c14
          by_cases c15 : a0 = 13
          ·rw [if_pos c15] at H
           obtain ⟨c15b0, c15b1⟩ := eqT c15
           clear c15
           have H' := Aside0.mk H
           clear H
           go_wp2
           go_meet
           case rel => exact ⟨_, ((a0 == 13)), rs0, H', ⟨by have := HJ1.out; first | omega | exact Nat.le_refl _⟩, dr0⟩
          ·rw [if_neg c15] at H
           obtain ⟨c15b0, c15b1⟩ := eqF c15
           by_cases c16 : a0 = 17
           ·rw [if_pos c16] at H
            obtain ⟨c16b0, c16b1⟩ := eqT c16
            clear c16
            have H' := Aside0.mk H
            clear H
            go_wp2
            go_meet
            case rel => exact ⟨_, ((a0 == 17)), rs0, H', ⟨by have := HJ1.out; first | omega | exact Nat.le_refl _⟩, dr0⟩
           ·rw [if_neg c16] at H
            obtain ⟨c16b0, c16b1⟩ := eqF c16
            have H' := Aside0.mk H
            clear H
            go_wp2
            go_meet
            case rel => exact ⟨_, ((a0 == 19)), rs0, H', ⟨by have := HJ1.out; first | omega | exact Nat.le_refl _⟩, dr0⟩
    case rest =>
     clear HC9
     try clear c1
     try clear p2
     try clear c3
     try clear c3b0
     try clear c3b1
     try clear c4
     try clear c4b0
     try clear c4b1
     try clear c5
     try clear c5b0
     try clear c5b1
     try clear c6
     try clear c6b0
     try clear c6b1
     try clear c7
     try clear c7b0
     try clear c7b1
     try clear c8
     try clear c10
     try clear c10b0
     try clear c10b1
     try clear c11
     try clear c11b0
     try clear c11b1
     try clear c12
     try clear c12b0
     try clear c12b1
     try clear c13
     try clear c13b0
     try clear c13b1
     try clear c14
     try clear c14b0
     try clear c14b1
     try clear c15
     try clear c15b0
     try clear c15b1
     try clear c16
     try clear c16b0
     try clear c16b1
     try clear p2
     obtain ⟨kq, x11_8, rfl, HA, HJ8, ⟨mc8, rfl⟩⟩ := hcut
     cases kq with
     | zero => exact absurd HA.out (by simp [impl_Arity.j1])
     | succ kj8 =>
      have H := HA.out
      clear HA
      simp only [impl_Arity.j1] at H
      by_cases c17 : x11_8 = true
      subst c17
      rw [if_pos rfl] at H
      obtain rfl := Option.some.inj H
      rotate_left
      replace c17 := Bool.eq_false_iff.mpr c17
      subst c17
      rw [if_neg (show ¬ (false = true) by decide)] at H
      by_cases c18 : a0 = 7
      rw [if_pos c18] at H
      obtain ⟨c18b0, c18b1⟩ := eqT c18
      clear c18
      obtain rfl := Option.some.inj H
      rotate_left
      rw [if_neg c18] at H
      obtain ⟨c18b0, c18b1⟩ := eqF c18
      by_cases c19 : a0 = 14
      rw [if_pos c19] at H
      obtain ⟨c19b0, c19b1⟩ := eqT c19
      clear c19
      obtain rfl := Option.some.inj H
      rotate_left
      rw [if_neg c19] at H
      obtain ⟨c19b0, c19b1⟩ := eqF c19
      obtain rfl := Option.some.inj H
      rotate_left
      all_goals (go_wp2; go_ret; exact ⟨rs0, dr0⟩)

end Go.Proofs.YtoebebgeiahagaaDoor.PFnExactDropLets
