-- Printed by this session's own program (wip/tools)
import Derived.Test.YtoebebgeiahagaaDoorDlPFnExactDropLetsx0
import Derived.Test.YtoebebgeiahagaaDoorDlPFnExactDropLetsx18
namespace Go.Proofs.YtoebebgeiahagaaDoor.PFnExactDropLets
open Go.RowKit Go.Proofs.YtoebebgeiahagaaDoorW.PrintWords Go.Proofs.YtoebebgeiahagaaDoorW.PrintLast Go.Proofs.YtoebebgeiahagaaDoorW.PrintMore
attribute [local go_sem] max2_int min2_int max_two min_two max_three min_three max_four min_four   -- for this text's walks alone
set_option linter.unusedVariables false
set_option linter.unusedSimpArgs false

/-! ### impl_parents: function 52 -/
mutual
def impl_parents.l0 : Nat → List (S48) → List Int → Int → Int → Option (List Int)
 | 0, _, _, _, _ => none
 | k + 1, x0, x3, x13, x14 => if x14 < x13 then (if 0 ≤ x14 then (if x14 < (x3.length : Int) then (impl_parents.l0 k x0 (x3.set (x14 : Int).toNat (-1)) x13 (wrap64 (x14 + 1))) else (none)) else (none)) else (impl_parents.l1 k x3 x0 (x0.length : Int) 0)
def impl_parents.l1 : Nat → List Int → List (S48) → Int → Int → Option (List Int)
 | 0, _, _, _, _ => none
 | k + 1, x3, x21, x22, x23 => if x23 < x22 then (if 0 ≤ x23 then (if x23 < (x21.length : Int) then ((impl_Kids.f k ((rd_T48 x21 x23).f0) ((rd_T48 x21 x23).f1) ((rd_T48 x21 x23).f2) ((rd_T48 x21 x23).f3) ((rd_T48 x21 x23).f4) ((rd_T48 x21 x23).f5) ((rd_T48 x21 x23).f6)).bind fun t490 => (impl_parents.l2 k x3 x23 x21 x22 x23 t490 (t490.length : Int) 0)) else (none)) else (none)) else (some x3)
def impl_parents.l2 : Nat → List Int → Int → List (S48) → Int → Int → List Int → Int → Int → Option (List Int)
 | 0, _, _, _, _, _, _, _, _ => none
 | k + 1, x3, x5, x21, x22, x23, x29, x30, x31 => if x31 < x30 then (if 0 ≤ x31 then (if x31 < (x29.length : Int) then (if 0 ≤ (rd x29 x31) then (if (rd x29 x31) < (x3.length : Int) then (impl_parents.l2 k (x3.set ((rd x29 x31) : Int).toNat x5) x5 x21 x22 x23 x29 x30 (wrap64 (x31 + 1))) else (none)) else (none)) else (none)) else (none)) else (impl_parents.l1 k x3 x21 x22 (wrap64 (x23 + 1)))
end
def impl_parents.f (k : Nat) (l0 : List (S48)) : Option (List Int) := if 0 ≤ (l0.length : Int) then (if ((l0.length : Int) : Int).toNat ≤ 35184372088832 then ((some (List.replicate ((l0.length : Int) : Int).toNat 0 : List Int)).bind fun y484 => (impl_parents.l0 k l0 y484 (y484.length : Int) 0)) else (none)) else (none)
theorem impl_parents.mono_l : ∀ k, (∀ y0 y1 y2 y3, LeO (impl_parents.l0 k y0 y1 y2 y3) (impl_parents.l0 (k + 1) y0 y1 y2 y3)) ∧ (∀ y0 y1 y2 y3, LeO (impl_parents.l1 k y0 y1 y2 y3) (impl_parents.l1 (k + 1) y0 y1 y2 y3)) ∧ (∀ y0 y1 y2 y3 y4 y5 y6 y7, LeO (impl_parents.l2 k y0 y1 y2 y3 y4 y5 y6 y7) (impl_parents.l2 (k + 1) y0 y1 y2 y3 y4 y5 y6 y7))
 | 0 => ⟨fun _ _ _ _ r h => by simp [impl_parents.l0] at h, fun _ _ _ _ r h => by simp [impl_parents.l1] at h, fun _ _ _ _ _ _ _ _ r h => by simp [impl_parents.l2] at h⟩
 | k + 1 => by
  obtain ⟨ih0, ih1, ih2⟩ := impl_parents.mono_l k
  refine ⟨?_, ?_, ?_⟩
  ·intro y0 y1 y2 y3
   unfold impl_parents.l0
   repeat' first
   | (with_reducible exact ih0 _ _ _ _)
   | (with_reducible exact ih1 _ _ _ _)
   | (with_reducible exact ih2 _ _ _ _ _ _ _ _)
   | (with_reducible exact impl_Kids.mono _ _ _ _ _ _ _ _)
   | (with_reducible exact LeO.refl _)
   | (with_reducible exact LeO.none _)
   | (with_reducible refine LeO.ite ?_ ?_)
   | (with_reducible refine LeO.bind ?_ (fun _ => ?_))
   | exact ih0 _ _ _ _
   | exact ih1 _ _ _ _
   | exact ih2 _ _ _ _ _ _ _ _
   | exact impl_Kids.mono _ _ _ _ _ _ _ _
   | exact LeO.none _
   | refine LeO.ite ?_ ?_
   | refine LeO.bind ?_ (fun _ => ?_)
  ·intro y0 y1 y2 y3
   unfold impl_parents.l1
   repeat' first
   | (with_reducible exact ih0 _ _ _ _)
   | (with_reducible exact ih1 _ _ _ _)
   | (with_reducible exact ih2 _ _ _ _ _ _ _ _)
   | (with_reducible exact impl_Kids.mono _ _ _ _ _ _ _ _)
   | (with_reducible exact LeO.refl _)
   | (with_reducible exact LeO.none _)
   | (with_reducible refine LeO.ite ?_ ?_)
   | (with_reducible refine LeO.bind ?_ (fun _ => ?_))
   | exact ih0 _ _ _ _
   | exact ih1 _ _ _ _
   | exact ih2 _ _ _ _ _ _ _ _
   | exact impl_Kids.mono _ _ _ _ _ _ _ _
   | exact LeO.none _
   | refine LeO.ite ?_ ?_
   | refine LeO.bind ?_ (fun _ => ?_)
  ·intro y0 y1 y2 y3 y4 y5 y6 y7
   unfold impl_parents.l2
   repeat' first
   | (with_reducible exact ih0 _ _ _ _)
   | (with_reducible exact ih1 _ _ _ _)
   | (with_reducible exact ih2 _ _ _ _ _ _ _ _)
   | (with_reducible exact impl_Kids.mono _ _ _ _ _ _ _ _)
   | (with_reducible exact LeO.refl _)
   | (with_reducible exact LeO.none _)
   | (with_reducible refine LeO.ite ?_ ?_)
   | (with_reducible refine LeO.bind ?_ (fun _ => ?_))
   | exact ih0 _ _ _ _
   | exact ih1 _ _ _ _
   | exact ih2 _ _ _ _ _ _ _ _
   | exact impl_Kids.mono _ _ _ _ _ _ _ _
   | exact LeO.none _
   | refine LeO.ite ?_ ?_
   | refine LeO.bind ?_ (fun _ => ?_)
theorem impl_parents.mono : ∀ a0 k, LeO (impl_parents.f k a0) (impl_parents.f (k + 1) a0) := by
 intro a0 k
 obtain ⟨ih0, ih1, ih2⟩ := impl_parents.mono_l k
 unfold impl_parents.f
 repeat' first
   | (with_reducible exact ih0 _ _ _ _)
   | (with_reducible exact ih1 _ _ _ _)
   | (with_reducible exact ih2 _ _ _ _ _ _ _ _)
   | (with_reducible exact impl_Kids.mono _ _ _ _ _ _ _ _)
   | (with_reducible exact LeO.refl _)
   | (with_reducible exact LeO.none _)
   | (with_reducible refine LeO.ite ?_ ?_)
   | (with_reducible refine LeO.bind ?_ (fun _ => ?_))
   | exact ih0 _ _ _ _
   | exact ih1 _ _ _ _
   | exact ih2 _ _ _ _ _ _ _ _
   | exact impl_Kids.mono _ _ _ _ _ _ _ _
   | exact LeO.none _
   | refine LeO.ite ?_ ?_
   | refine LeO.bind ?_ (fun _ => ?_)
set_option maxHeartbeats 8000000 in
set_option maxRecDepth 100000 in
theorem impl_parents.calls (k : Nat) (A0 : Option Addr) (c0 : Nat) (l0 : List (S48)) (r : List Int) (w : World) (hr0 : Kd.C k48 w A0 l0.length l0) (hc0 : l0.length ≤ c0) (h : impl_parents.f k l0 = some r) :
  Calls Tryd.prog 52 #[.slice A0 l0.length c0] w fun e w' => ∃ v0_ : Value, e = .returned (v0_) ∧ Kd.R (Kd.int .i64) 3 w' w.heap.size (fun _ => True) v0_ r ∧ Below w.heap.size w w' := by
 have hu48 := Tryd.underlying48
 have HR0 := Aside0.mk hr0
 have HC0 := Aside0.mk hc0
 clear hr0 hc0
 have HB := Aside0.mk (Below.refl w.heap.size w)
 have H := h; unfold impl_parents.f at H
 clear h
 by_cases c2 : 0 ≤ (l0.length : Int)
 ·rw [if_pos c2] at H
  have c2b0 := eq_true c2
  have c2b1 := decide_eq_true c2
  clear c2
  by_cases c3 : ((l0.length : Int) : Int).toNat ≤ 35184372088832
  ·rw [if_pos c3] at H
   have c3b0 := eq_true c3
   have c3b1 := decide_eq_true c3
   clear c3
   obtain ⟨y484, hy484⟩ : ∃ y_ : List Int, y_ = (List.replicate ((l0.length : Int) : Int).toNat 0) := ⟨_, rfl⟩
   replace H : (impl_parents.l0 k l0 y484 (y484.length : Int) 0) = some r := by first | (rw [hy484]; with_reducible exact H) | (have H2_ := (Option.bind_some _ _).symm.trans H; rw [hy484]; with_reducible exact H2_) | (have H2_ := (Option.bind_some _ _).symm.trans H; with_reducible exact H2_) | with_reducible exact H | (rw [hy484]; exact H) | exact H
   have Ny484 := Aside0.mk hy484
   clear hy484
   have H' := Aside0.mk H
   clear H
   go_enter Tryd.func52, Tryd.ntmps52
   go_wp2_with (first | ((with_reducible refine gate_dst (N := 11) rfl ?_); refine Kd.R_make (Kd.int .i64) _ 3 rfl (N := 11) rfl 35 _ _ rfl (l0.length : Int) rfl rfl Tryd.underlying35 (.int .i64 0) 8 info3 rfl (by decide) (by omega) 0 (ok := fun _ => True) (okp := fun _ => True) rfl (fun _ hk => hk) trivial (of_decide_eq_true as0) (Nat.le_trans (Nat.mul_le_mul_right _ (of_decide_eq_true as0 : (l0.length : Int).toNat ≤ 35184372088832)) (by omega)) (Below.refl _ _) (Nat.le_refl _) ?_; intro v485 w4 ho5 hb hg_ hnew_; clear hg_ hnew_; (first | rw [← Ny484.out] at ho5 | (simp only [Int.reduceToNat] at ho5; rw [← Ny484.out] at ho5)); have HO486 := Aside0.mk (Kd.R_lower ho5 (below_size bb0)); replace HB := Aside0.mk (below_step bb0 hb); clear hb ho5; obtain ⟨Ao6, co6, eo6⟩ := Kd.R_slice HO486.out; subst eo6))
   go_loopg [14] k (fun kq v14 w' => ∃ (x3_1 : List Int) (x14_1 : Int), v14 = .int .i64 x14_1 ∧ Aside0 (impl_parents.l0 kq l0 x3_1 (y484.length : Int) x14_1 = some r) ∧ Aside0 (kq ≤ k) ∧ Aside0 (Kd.R (Kd.int .i64) 3 w' w.heap.size (fun _ => True) (.slice Ao6 y484.length co6) x3_1) ∧ Aside0 (Below w.heap.size w w'))
   case atStart => exact ⟨(y484), (0), rs0, H', ⟨Nat.le_refl _⟩, ⟨by refine ra0 ?_; exact HO486.out⟩, ⟨bb0⟩⟩
   case round =>
    clear H'
    try clear c2
    try clear c2b0
    try clear c2b1
    try clear p2
    try clear c3
    try clear c3b0
    try clear c3b1
    try clear c5
    obtain ⟨x3_1, x14_1, rfl, HA, HK1, HO_3, HB⟩ := hrel
    have hl3_1 := (Kd.R_reads' HO_3.out).1
    rw [hl3_1] at HO_3
    (try simp only [hl3_1])
    cases gk with
    | zero => exact absurd HA.out (by simp [impl_parents.l0])
    | succ k1 =>
     have H := HA.out
     clear HA
     simp only [impl_parents.l0] at H
     by_cases c7 : x14_1 < (y484.length : Int)
     ·rw [if_pos c7] at H
      have c7b0 : decide (x14_1 < (x3_1.length : Int)) = true := by rw [← hl3_1]; exact decide_eq_true c7
      clear c7
      by_cases c8 : 0 ≤ x14_1
      ·rw [if_pos c8] at H
       have c8b0 := decide_eq_true c8
       clear c8
       by_cases c9 : x14_1 < (x3_1.length : Int)
       ·rw [if_pos c9] at H
        have c9b0 := decide_eq_true c9
        clear c9
        obtain ⟨y487, hy487⟩ : ∃ y_ : List Int, y_ = (x3_1.set (x14_1 : Int).toNat (-1)) := ⟨_, rfl⟩
        replace H : (impl_parents.l0 k1 l0 y487 (y484.length : Int) (wrap64 (x14_1 + 1))) = some r := by first | (rw [hy487]; with_reducible exact H) | (have H2_ := (Option.bind_some _ _).symm.trans H; rw [hy487]; with_reducible exact H2_) | (have H2_ := (Option.bind_some _ _).symm.trans H; with_reducible exact H2_) | with_reducible exact H | (rw [hy487]; exact H) | exact H
        have Ny487 := Aside0.mk hy487
        clear hy487
        have H' := Aside0.mk H
        clear H
        have p10 : 0 ≤ (x14_1 : Int) := of_decide_eq_true as0
        have q10 : (x14_1 : Int) < ((x3_1.length : Int) : Int) := of_decide_eq_true as0
        obtain ⟨go10, co10, eo10, gb10, gl10, cl10, HG10⟩ := Kd.R_form HO_3.out (by omega)
        (first | cases eo10 | (injection eo10 with ea_ en_ ec_; (first | subst ea_ | (injection ea_ with ea_; subst ea_)); subst ec_; clear en_))
        have GB10 := Aside0.mk gb10
        have GG10 := Aside0.mk HG10
        clear gb10 gl10 HG10
        obtain ⟨hx10_0, hf10_0⟩ := Kd.R_celln 0 HO_3.out (x14_1 : Int) p10 q10
        replace p10 := eq_true p10
        replace q10 := eq_true q10
        have HP11 := Kd.R_putg HO_3.out (x14_1 : Int) (-1)
        go_wp2_with (first | ((with_reducible refine gate_store (t := 3) (p := 19) rfl ?_); refine store_event (t := 3) (p := 19) (v := ?vo_w12) (w1 := (wr.setCell ⟨go10, (x14_1 : Int).toNat, none⟩ (.int .i64 (-1)))) ?hg ?ho ?hn ?hr ?_; (case ho => rfl); (case hg => rfl); (case hn => rfl); (case hr => first | (go_simp; done) | (go_simp; rfl)); intro w12 hw; have hg : wr.grownBy w12 (some go10) := (by rw [hw]; exact HP11.2); have hp_ : Kd.R (Kd.int .i64) 3 w12 w.heap.size (fun _ => True) (.slice (some ⟨go10, 0, none⟩) x3_1.length co6) y487 := (by rw [hw, Ny487.out]; exact HP11.1); clear HP11; replace HO_3 := Aside0.mk (hp_); replace HB := Aside0.mk ((by rw [hw]; exact below_set (HB.out) GB10.out : Below w.heap.size w w12)); clear hg hw hp_))
        (try simp only [← hl3_1])
        go_roundg k1
        case measure => have := HK1.out; omega
        case rel => exact ⟨(y487), (wrap64 (x14_1 + 1)), rs0, H', ⟨by have := HK1.out; omega⟩, ⟨by (try simp only [hl3_1]); refine ra0 ?_; exact HO_3.out⟩, ⟨bb0⟩⟩
       ·rw [if_neg c9] at H
        exact absurd H (by simp)
      ·rw [if_neg c8] at H
       exact absurd H (by simp)
     ·rw [if_neg c7] at H
      have c7b0 : decide (x14_1 < (x3_1.length : Int)) = false := by rw [← hl3_1]; exact decide_eq_false c7
      clear c7
      have H' := Aside0.mk H
      clear H
      go_wp2
      go_loopg [23] k1 (fun kq v23 w' => ∃ (x3_2 : List Int) (x23_2 : Int), v23 = .int .i64 x23_2 ∧ Aside0 (impl_parents.l1 kq x3_2 l0 (l0.length : Int) x23_2 = some r) ∧ Aside0 (kq ≤ k1) ∧ Aside0 (Kd.R (Kd.int .i64) 3 w' w.heap.size (fun _ => True) (.slice Ao6 x3_1.length co6) x3_2) ∧ Aside0 (Below w.heap.size w w'))
      case atStart => exact ⟨(x3_1), (0), rs0, H', ⟨Nat.le_refl _⟩, ⟨by (try simp only [hl3_1]); refine ra0 ?_; exact HO_3.out⟩, ⟨bb0⟩⟩
      case round =>
       clear H'
       try clear p1
       try clear q1
       try clear hx1
       try clear hf1
       try clear c2
       try clear c2b0
       try clear c2b1
       try clear p2
       try clear c3
       try clear c3b0
       try clear c3b1
       try clear c5
       try clear p6
       try clear c7
       try clear c7b0
       try clear c8
       try clear c8b0
       try clear c9
       try clear c9b0
       try clear p10
       try clear q10
       try clear hx10
       try clear hf10
       try clear hx10_0
       try clear p10
       try clear p2
       try clear q10
       obtain ⟨x3_2, x23_2, rfl, HA, HK2, HO_3, HB⟩ := hrel
       have hl3_2 := (Kd.R_reads' HO_3.out).1
       rw [hl3_2] at HO_3
       (try simp only [hl3_2])
       cases gk with
       | zero => exact absurd HA.out (by simp [impl_parents.l1])
       | succ k2 =>
        have H := HA.out
        clear HA
        simp only [impl_parents.l1] at H
        by_cases c13 : x23_2 < (l0.length : Int)
        ·rw [if_pos c13] at H
         have c13b0 := decide_eq_true c13
         clear c13
         by_cases c14 : 0 ≤ x23_2
         ·rw [if_pos c14] at H
          have c14b0 := decide_eq_true c14
          clear c14
          by_cases c15 : x23_2 < (l0.length : Int)
          ·rw [if_pos c15] at H
           have c15b0 := decide_eq_true c15
           clear c15
           obtain ⟨t490, A16, H⟩ := bx H
           have H' := Aside0.mk H
           clear H
           have p488 : 0 ≤ (x23_2 : Int) := of_decide_eq_true as0
           have q488 : x23_2 < (l0.length : Int) := of_decide_eq_true as0
           obtain ⟨ad488, e488, hx488_0, hx488_1, hx488_2, hx488_3, hx488_4, hx488_5, hx488_6⟩ := at_T48 HR0.out x23_2 p488 q488
           cases e488
           replace hx488_0 := hbc HB hx488_0
           replace hx488_1 := hbc HB hx488_1
           replace hx488_2 := hbc HB hx488_2
           replace hx488_3 := hbc HB hx488_3
           replace hx488_4 := hbc HB hx488_4
           replace hx488_5 := hbc HB hx488_5
           replace hx488_6 := hbc HB hx488_6
           replace p488 := eq_true p488
           replace q488 := eq_true q488
           go_wp2_with (first | ((with_reducible refine gate_dst (N := 6) rfl ?_); refine box_event ?hg (N := 6) ?hd (cs := #[.int .i64 0, .int .i64 0, .int .i64 0, .int .i64 0, .int .i64 0, .string (⟨#[]⟩ : ByteArray), .string (⟨#[]⟩ : ByteArray)]) (t := 48) ?hr ?_; (case hd => rfl); (case hg => rfl); (case hr => first | (go_simp; done) | (go_simp; rfl)); intro gb489 hg w17 hbox hb; replace HO_3 := Aside0.mk (Kd.R_below (ra0 HO_3.out) hb); have BK489 := Aside0.mk (hbox); have GW489 := Aside0.mk ((by rw [hg]; exact (below_size bb0) : w.heap.size ≤ gb489)); have GE489 := Aside0.mk ((by rw [hg]; exact (below_size bb0) : w.heap.size ≤ gb489)); replace HB := Aside0.mk (below_step bb0 hb); clear hb hbox hg; obtain ⟨hcz18_0, hcz18_1, hcz18_2, hcz18_3, hcz18_4, hcz18_5, hcz18_6⟩ := cells7 BK489.out; obtain ⟨hfz18_0, hfz18_1, hfz18_2, hfz18_3, hfz18_4, hfz18_5, hfz18_6⟩ := frz7 BK489.out) | ((with_reducible refine gate_callee (f := 45) rfl ?_); refine goesL_ (some 29) rfl rfl Tryd.func45 (by kernel_rfl) rfl #[.agg #[.int .i64 ((rd_T48 l0 x23_2).f0), .int .i64 ((rd_T48 l0 x23_2).f1), .int .i64 ((rd_T48 l0 x23_2).f2), .int .i64 ((rd_T48 l0 x23_2).f3), .int .i64 ((rd_T48 l0 x23_2).f4), .string ((rd_T48 l0 x23_2).f5), .string ((rd_T48 l0 x23_2).f6)]] rfl mm0 ?_; (with_reducible refine (impl_Kids.calls k2 ((rd_T48 l0 x23_2).f0) ((rd_T48 l0 x23_2).f1) ((rd_T48 l0 x23_2).f2) ((rd_T48 l0 x23_2).f3) ((rd_T48 l0 x23_2).f4) ((rd_T48 l0 x23_2).f5) ((rd_T48 l0 x23_2).f6) t490 _ A16.out).mono ?_); rintro e w19 ⟨v491, rfl, ho0, hb⟩; refine ⟨_, rfl, ?_⟩; have HO492 := Aside0.mk (Kd.V_lower (Kd.V_mono (ok' := fun k_ => some k_ ≠ (.slice Ao6 x3_2.length co6 : Value).ownBlock ∧ k_ ≠ gb489) ho0 (fun k_ hk_ => ⟨(Kd.fresh' (Kd.R_lt (by refine ra0 ?_; exact (Kd.R_mono (Kd.R_far (p := ⟨gb489, 6, none⟩) (Kd.R_far (p := ⟨gb489, 5, none⟩) (Kd.R_far (p := ⟨gb489, 4, none⟩) (Kd.R_far (p := ⟨gb489, 3, none⟩) (Kd.R_far (p := ⟨gb489, 2, none⟩) (Kd.R_far (p := ⟨gb489, 1, none⟩) (Kd.R_far (p := ⟨gb489, 0, none⟩) (Kd.R_types HO_3.out BK489.out (by decide)) (fun _ hk => hk.2) (.int .i64 ((rd_T48 l0 x23_2).f0))) (fun _ hk => hk.2) (.int .i64 ((rd_T48 l0 x23_2).f1))) (fun _ hk => hk.2) (.int .i64 ((rd_T48 l0 x23_2).f2))) (fun _ hk => hk.2) (.int .i64 ((rd_T48 l0 x23_2).f3))) (fun _ hk => hk.2) (.int .i64 ((rd_T48 l0 x23_2).f4))) (fun _ hk => hk.2) (.string ((rd_T48 l0 x23_2).f5))) (fun _ hk => hk.2) (.string ((rd_T48 l0 x23_2).f6))) (fun _ h_ => h_.1)))) k_ hk_), (Kd.freshB (g := gb489) (bk1 BK489.out) k_ hk_)⟩)) (below_size (bb1 GE489.out))); replace HO_3 := Aside0.mk (Kd.R_below (by refine ra0 ?_; exact (Kd.R_mono (Kd.R_far (p := ⟨gb489, 6, none⟩) (Kd.R_far (p := ⟨gb489, 5, none⟩) (Kd.R_far (p := ⟨gb489, 4, none⟩) (Kd.R_far (p := ⟨gb489, 3, none⟩) (Kd.R_far (p := ⟨gb489, 2, none⟩) (Kd.R_far (p := ⟨gb489, 1, none⟩) (Kd.R_far (p := ⟨gb489, 0, none⟩) (Kd.R_types HO_3.out BK489.out (by decide)) (fun _ hk => hk.2) (.int .i64 ((rd_T48 l0 x23_2).f0))) (fun _ hk => hk.2) (.int .i64 ((rd_T48 l0 x23_2).f1))) (fun _ hk => hk.2) (.int .i64 ((rd_T48 l0 x23_2).f2))) (fun _ hk => hk.2) (.int .i64 ((rd_T48 l0 x23_2).f3))) (fun _ hk => hk.2) (.int .i64 ((rd_T48 l0 x23_2).f4))) (fun _ hk => hk.2) (.string ((rd_T48 l0 x23_2).f5))) (fun _ hk => hk.2) (.string ((rd_T48 l0 x23_2).f6))) (fun _ h_ => h_.1))) hb); replace BK489 := Aside0.mk (blk_below (g := gb489) (bk1 BK489.out) hb); replace HB := Aside0.mk (below_step (bb1 GE489.out) hb); clear hb ho0; obtain ⟨Ao20, co20, eo20⟩ := Kd.V_slice HO492.out; subst eo20))
           go_simp
           go_loopg [31] k2 (fun kq v31 w' => ∃ (x3_3 : List Int) (x31_3 : Int), v31 = .int .i64 x31_3 ∧ Aside0 (impl_parents.l2 kq x3_3 x23_2 l0 (l0.length : Int) x23_2 t490 (t490.length : Int) x31_3 = some r) ∧ Aside0 (kq ≤ k2) ∧ Aside0 (Kd.R (Kd.int .i64) 3 w' w.heap.size (fun _ => True) (.slice Ao6 x3_2.length co6) x3_3) ∧ Aside0 (Kd.V (Kd.int .i64) 3 w' w.heap.size (fun k_ => some k_ ≠ ((.slice Ao6 x3_2.length co6) : Value).ownBlock ∧ k_ ≠ gb489) (.slice Ao20 t490.length co20) t490) ∧ Aside0 (w'.heap[gb489]? = some (.cells #[.int .i64 ((rd_T48 l0 x23_2).f0), .int .i64 ((rd_T48 l0 x23_2).f1), .int .i64 ((rd_T48 l0 x23_2).f2), .int .i64 ((rd_T48 l0 x23_2).f3), .int .i64 ((rd_T48 l0 x23_2).f4), .string ((rd_T48 l0 x23_2).f5), .string ((rd_T48 l0 x23_2).f6)] 48 (0, 0))) ∧ Aside0 (Below w.heap.size w w'))
           case atStart => exact ⟨(x3_2), (0), rs0, H', ⟨Nat.le_refl _⟩, ⟨by (try simp only [hl3_1]); (try simp only [hl3_2]); refine ra0 ?_; exact HO_3.out⟩, ⟨by (try simp only [hl3_1]); (try simp only [hl3_2]); (with_reducible repeat (first | apply Kd.V_alloc | apply Kd.V_drewN | apply Kd.V_drew)); exact HO492.out⟩, ⟨by (try simp only [hl3_1]); (try simp only [hl3_2]); refine bk0 ?_; exact BK489.out⟩, ⟨bb1 GE489.out⟩⟩
           case round =>
            clear H'
            try clear c1
            try clear p1
            try clear q1
            try clear hx1
            try clear hf1
            try clear c2
            try clear c2b0
            try clear c2b1
            try clear p2
            try clear c3
            try clear c3b0
            try clear c3b1
            try clear c4
            try clear p4
            try clear q4
            try clear hx4
            try clear c5
            try clear p6
            try clear c7
            try clear c7b0
            try clear c8
            try clear c8b0
            try clear c9
            try clear c9b0
            try clear p10
            try clear q10
            try clear hx10
            try clear hf10
            try clear c13
            try clear c13b0
            try clear c14
            try clear c14b0
            try clear c15
            try clear c15b0
            try clear hcz18_0
            try clear hcz18_1
            try clear hcz18_2
            try clear hcz18_3
            try clear hcz18_4
            try clear hcz18_5
            try clear hcz18_6
            try clear hfz18_0
            try clear hfz18_1
            try clear hfz18_2
            try clear hfz18_3
            try clear hfz18_4
            try clear hfz18_5
            try clear hfz18_6
            try clear hx10_0
            try clear hx488_0
            try clear hx488_1
            try clear hx488_2
            try clear hx488_3
            try clear hx488_4
            try clear hx488_5
            try clear hx488_6
            try clear p1
            try clear p10
            try clear p2
            try clear p488
            try clear p6
            try clear q1
            try clear q10
            try clear q488
            obtain ⟨x3_3, x31_3, rfl, HA, HK3, HO_3, HO_29, BK489, HB⟩ := hrel
            have hl3_3 := (Kd.R_reads' HO_3.out).1
            rw [hl3_3] at HO_3
            (try simp only [hl3_3])
            (try simp only [hl3_3] at BK489)
            (try simp only [hl3_3] at HO_29)
            cases gk with
            | zero => exact absurd HA.out (by simp [impl_parents.l2])
            | succ k3 =>
             have H := HA.out
             clear HA
             simp only [impl_parents.l2] at H
             by_cases c21 : x31_3 < (t490.length : Int)
             ·rw [if_pos c21] at H
              have c21b0 := decide_eq_true c21
              clear c21
              by_cases c22 : 0 ≤ x31_3
              ·rw [if_pos c22] at H
               have c22b0 := decide_eq_true c22
               clear c22
               by_cases c23 : x31_3 < (t490.length : Int)
               ·rw [if_pos c23] at H
                have c23b0 := decide_eq_true c23
                clear c23
                by_cases c24 : 0 ≤ (rd t490 x31_3)
                ·rw [if_pos c24] at H
                 have c24b0 := decide_eq_true c24
                 clear c24
                 by_cases c25 : (rd t490 x31_3) < (x3_3.length : Int)
                 ·rw [if_pos c25] at H
                  have c25b0 := decide_eq_true c25
                  clear c25
                  obtain ⟨y494, hy494⟩ : ∃ y_ : List Int, y_ = (x3_3.set ((rd t490 x31_3) : Int).toNat x23_2) := ⟨_, rfl⟩
                  replace H : (impl_parents.l2 k3 y494 x23_2 l0 (l0.length : Int) x23_2 t490 (t490.length : Int) (wrap64 (x31_3 + 1))) = some r := by first | (rw [hy494]; with_reducible exact H) | (have H2_ := (Option.bind_some _ _).symm.trans H; rw [hy494]; with_reducible exact H2_) | (have H2_ := (Option.bind_some _ _).symm.trans H; with_reducible exact H2_) | with_reducible exact H | (rw [hy494]; exact H) | exact H
                  have Ny494 := Aside0.mk hy494
                  clear hy494
                  have H' := Aside0.mk H
                  clear H
                  have p493 : 0 ≤ (x31_3 : Int) := of_decide_eq_true as0
                  have q493 : x31_3 < (t490.length : Int) := of_decide_eq_true as0
                  obtain ⟨ad493, e493, hx493_0⟩ := Kd.at_int (Kd.V_reads' HO_29.out).2.2 x31_3 p493 q493
                  cases e493
                  replace p493 := eq_true p493
                  replace q493 := eq_true q493
                  have p26 : 0 ≤ ((rd t490 x31_3) : Int) := of_decide_eq_true as0
                  have q26 : ((rd t490 x31_3) : Int) < ((x3_3.length : Int) : Int) := of_decide_eq_true as0
                  obtain ⟨go26, co26, eo26, gb26, gl26, cl26, HG26⟩ := Kd.R_form HO_3.out (by omega)
                  (first | cases eo26 | (injection eo26 with ea_ en_ ec_; (first | subst ea_ | (injection ea_ with ea_; subst ea_)); subst ec_; clear en_))
                  have GB26 := Aside0.mk gb26
                  have GG26 := Aside0.mk HG26
                  clear gb26 gl26 HG26
                  obtain ⟨hx26_0, hf26_0⟩ := Kd.R_celln 0 HO_3.out ((rd t490 x31_3) : Int) p26 q26
                  replace p26 := eq_true p26
                  replace q26 := eq_true q26
                  have HP27 := Kd.R_putg HO_3.out ((rd t490 x31_3) : Int) x23_2
                  go_wp2_with (first | ((with_reducible refine gate_store (t := 3) (p := 38) rfl ?_); refine store_event (t := 3) (p := 38) (v := ?vo_w28) (w1 := (wr.setCell ⟨go26, ((rd t490 x31_3) : Int).toNat, none⟩ (.int .i64 x23_2))) ?hg ?ho ?hn ?hr ?_; (case ho => rfl); (case hg => rfl); (case hn => rfl); (case hr => first | (go_simp; done) | (go_simp; rfl)); intro w28 hw; have hg : wr.grownBy w28 (some go26) := (by rw [hw]; exact HP27.2); have hp_ : Kd.R (Kd.int .i64) 3 w28 w.heap.size (fun _ => True) (.slice (some ⟨go26, 0, none⟩) x3_3.length co6) y494 := (by rw [hw, Ny494.out]; exact HP27.1); clear HP27; replace HO_29 := Aside0.mk (Kd.V_afterv (v := (.slice (some ⟨go26, 0, none⟩) x3_3.length co6)) (v1 := (.slice (some ⟨go26, 0, none⟩) x3_3.length co6)) (ok := (fun k_ => k_ ≠ gb489)) (by (with_reducible repeat (first | apply Kd.V_alloc | apply Kd.V_drewN | apply Kd.V_drew)); exact Kd.V_mono HO_29.out (fun _ hk => ⟨hk.2, hk.1⟩)) hg (.inl rfl)); replace BK489 := Aside0.mk (blk_grown (g := gb489) (bk0 BK489.out) hg (Kd.R_ne HO_3.out BK489.out (by decide))); replace HO_3 := Aside0.mk (hp_); replace HB := Aside0.mk ((by rw [hw]; exact below_set (HB.out) GB26.out : Below w.heap.size w w28)); clear hg hw hp_))
                  (try simp only [← hl3_3])
                  go_roundg k3
                  case measure => have := HK1.out; have := HK2.out; have := HK3.out; omega
                  case rel => exact ⟨(y494), (wrap64 (x31_3 + 1)), rs0, H', ⟨by have := HK1.out; have := HK2.out; have := HK3.out; omega⟩, ⟨by (try simp only [hl3_1]); (try simp only [hl3_2]); (try simp only [hl3_3]); refine ra0 ?_; exact HO_3.out⟩, ⟨by (try simp only [hl3_1]); (try simp only [hl3_2]); (try simp only [hl3_3]); (with_reducible repeat (first | apply Kd.V_alloc | apply Kd.V_drewN | apply Kd.V_drew)); exact Kd.V_mono HO_29.out (fun _ hk => ⟨hk.2, hk.1⟩)⟩, ⟨by (try simp only [hl3_1]); (try simp only [hl3_2]); (try simp only [hl3_3]); refine bk0 ?_; exact BK489.out⟩, ⟨bb1 GE489.out⟩⟩
                 ·rw [if_neg c25] at H
                  exact absurd H (by simp)
                ·rw [if_neg c24] at H
                 exact absurd H (by simp)
               ·rw [if_neg c23] at H
                exact absurd H (by simp)
              ·rw [if_neg c22] at H
               exact absurd H (by simp)
             ·rw [if_neg c21] at H
              have c21b0 := decide_eq_false c21
              clear c21
              have H' := Aside0.mk H
              clear H
              go_wp2
              (try simp only [← hl3_2, ← hl3_3])
              go_roundg k3
              case measure => have := HK1.out; have := HK2.out; have := HK3.out; omega
              case rel => exact ⟨(x3_3), (wrap64 (x23_2 + 1)), rs0, H', ⟨by have := HK1.out; have := HK2.out; have := HK3.out; omega⟩, ⟨by (try simp only [hl3_1]); (try simp only [hl3_2]); (try simp only [hl3_3]); refine ra0 ?_; exact HO_3.out⟩, ⟨bb1 GE489.out⟩⟩
          ·rw [if_neg c15] at H
           exact absurd H (by simp)
         ·rw [if_neg c14] at H
          exact absurd H (by simp)
        ·rw [if_neg c13] at H
         have c13b0 := decide_eq_false c13
         clear c13
         obtain rfl := Option.some.inj H
         go_wp2
         go_ret
         exact ⟨_, er0, by refine ra0 ?_; exact HO_3.out, bb0⟩
  ·rw [if_neg c3] at H
   exact absurd H (by simp)
 ·rw [if_neg c2] at H
  exact absurd H (by simp)

end Go.Proofs.YtoebebgeiahagaaDoor.PFnExactDropLets
