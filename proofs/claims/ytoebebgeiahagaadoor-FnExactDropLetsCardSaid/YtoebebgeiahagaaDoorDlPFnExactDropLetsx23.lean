-- Printed by this session's own program (wip/tools)
import Derived.Test.YtoebebgeiahagaaDoorDlPFnExactDropLetsx0
import Derived.Test.YtoebebgeiahagaaDoorDlPFnExactDropLetsx18
import Derived.Test.YtoebebgeiahagaaDoorDlPFnExactDropLetsx19
import Derived.Test.YtoebebgeiahagaaDoorDlPFnExactDropLetsx20
import Derived.Test.YtoebebgeiahagaaDoorDlPFnExactDropLetsx21
import Derived.Test.YtoebebgeiahagaaDoorDlPFnExactDropLetsx22
namespace Go.Proofs.YtoebebgeiahagaaDoor.PFnExactDropLets
open Go.RowKit Go.Proofs.YtoebebgeiahagaaDoorW.PrintWords Go.Proofs.YtoebebgeiahagaaDoorW.PrintLast Go.Proofs.YtoebebgeiahagaaDoorW.PrintMore
attribute [local go_sem] max2_int min2_int max_two min_two max_three min_three max_four min_four   -- for this text's walks alone
set_option linter.unusedVariables false
set_option linter.unusedSimpArgs false

/-! ### impl_binderOf: function 53 -/
mutual
def impl_binderOf.l0 : Nat → List (S48) → List Int → Int → ByteArray → Option (Int × Int)
 | 0, _, _, _, _ => none
 | k + 1, x0, x1, x2, x3 => if 0 ≤ x2 then (if x2 < (x1.length : Int) then (if (rd x1 x2) ≥ 0 then (if 0 ≤ (rd x1 x2) then (if (rd x1 x2) < (x0.length : Int) then ((impl_bindsIn.f k ((rd_T48 x0 (rd x1 x2)).f0) ((rd_T48 x0 (rd x1 x2)).f1) ((rd_T48 x0 (rd x1 x2)).f2) ((rd_T48 x0 (rd x1 x2)).f3) ((rd_T48 x0 (rd x1 x2)).f4) ((rd_T48 x0 (rd x1 x2)).f5) ((rd_T48 x0 (rd x1 x2)).f6) x2).bind fun bt518 => (impl_binderOf.l1 k x0 x1 x2 x3 bt518.2 bt518.1 (bt518.1.length : Int) 0)) else (none)) else (none)) else (some ((-1), (-1)))) else (none)) else (none)
def impl_binderOf.l1 : Nat → List (S48) → List Int → Int → ByteArray → List Int → List ByteArray → Int → Int → Option (Int × Int)
 | 0, _, _, _, _, _, _, _, _ => none
 | k + 1, x0, x1, x2, x3, x10, x30, x31, x32 => if x32 < x31 then (if 0 ≤ x32 then (if x32 < (x30.length : Int) then (if (rdOf ByteArray.empty x30 x32).toList = x3.toList then (if 0 ≤ x2 then (if x2 < (x1.length : Int) then (if x32 < (x10.length : Int) then (some (rd x1 x2, rd x10 x32)) else (none)) else (none)) else (none)) else (impl_binderOf.l1 k x0 x1 x2 x3 x10 x30 x31 (wrap64 (x32 + 1)))) else (none)) else (none)) else (if 0 ≤ x2 then (if x2 < (x1.length : Int) then (impl_binderOf.l0 k x0 x1 (rd x1 x2) x3) else (none)) else (none))
end
def impl_binderOf.f (k : Nat) (l0 : List (S48)) (l1 : List Int) (a2 : Int) (a3 : ByteArray) : Option (Int × Int) := impl_binderOf.l0 k l0 l1 a2 a3
theorem impl_binderOf.mono_l : ∀ k, (∀ y0 y1 y2 y3, LeO (impl_binderOf.l0 k y0 y1 y2 y3) (impl_binderOf.l0 (k + 1) y0 y1 y2 y3)) ∧ (∀ y0 y1 y2 y3 y4 y5 y6 y7, LeO (impl_binderOf.l1 k y0 y1 y2 y3 y4 y5 y6 y7) (impl_binderOf.l1 (k + 1) y0 y1 y2 y3 y4 y5 y6 y7))
 | 0 => ⟨fun _ _ _ _ r h => by simp [impl_binderOf.l0] at h, fun _ _ _ _ _ _ _ _ r h => by simp [impl_binderOf.l1] at h⟩
 | k + 1 => by
  obtain ⟨ih0, ih1⟩ := impl_binderOf.mono_l k
  refine ⟨?_, ?_⟩
  ·intro y0 y1 y2 y3
   unfold impl_binderOf.l0
   repeat' first
   | (with_reducible exact ih0 _ _ _ _)
   | (with_reducible exact ih1 _ _ _ _ _ _ _ _)
   | (with_reducible exact impl_bindsIn.mono _ _ _ _ _ _ _ _ _)
   | (with_reducible exact LeO.refl _)
   | (with_reducible exact LeO.none _)
   | (with_reducible refine LeO.ite ?_ ?_)
   | (with_reducible refine LeO.bind ?_ (fun _ => ?_))
   | exact ih0 _ _ _ _
   | exact ih1 _ _ _ _ _ _ _ _
   | exact impl_bindsIn.mono _ _ _ _ _ _ _ _ _
   | exact LeO.none _
   | refine LeO.ite ?_ ?_
   | refine LeO.bind ?_ (fun _ => ?_)
  ·intro y0 y1 y2 y3 y4 y5 y6 y7
   unfold impl_binderOf.l1
   repeat' first
   | (with_reducible exact ih0 _ _ _ _)
   | (with_reducible exact ih1 _ _ _ _ _ _ _ _)
   | (with_reducible exact impl_bindsIn.mono _ _ _ _ _ _ _ _ _)
   | (with_reducible exact LeO.refl _)
   | (with_reducible exact LeO.none _)
   | (with_reducible refine LeO.ite ?_ ?_)
   | (with_reducible refine LeO.bind ?_ (fun _ => ?_))
   | exact ih0 _ _ _ _
   | exact ih1 _ _ _ _ _ _ _ _
   | exact impl_bindsIn.mono _ _ _ _ _ _ _ _ _
   | exact LeO.none _
   | refine LeO.ite ?_ ?_
   | refine LeO.bind ?_ (fun _ => ?_)
theorem impl_binderOf.mono : ∀ a0 a1 a2 a3 k, LeO (impl_binderOf.f k a0 a1 a2 a3) (impl_binderOf.f (k + 1) a0 a1 a2 a3) := by
 intro a0 a1 a2 a3 k
 obtain ⟨ih0, ih1⟩ := impl_binderOf.mono_l k
 unfold impl_binderOf.f
 repeat' first
   | (with_reducible exact ih0 _ _ _ _)
   | (with_reducible exact ih1 _ _ _ _ _ _ _ _)
   | (with_reducible exact impl_bindsIn.mono _ _ _ _ _ _ _ _ _)
   | (with_reducible exact LeO.refl _)
   | (with_reducible exact LeO.none _)
   | (with_reducible refine LeO.ite ?_ ?_)
   | (with_reducible refine LeO.bind ?_ (fun _ => ?_))
   | exact ih0 _ _ _ _
   | exact ih1 _ _ _ _ _ _ _ _
   | exact impl_bindsIn.mono _ _ _ _ _ _ _ _ _
   | exact LeO.none _
   | refine LeO.ite ?_ ?_
   | refine LeO.bind ?_ (fun _ => ?_)
def impl_binderOf.T7 : Bool × List (List Nat × List Nat) := (true, [([], []), ([], []), ([0, 1], [0, 1]), ([2], [2]), ([], []), ([], []), ([4, 5], [4, 5]), ([6], [6]), ([3, 7], [3, 7]), ([8, 0, 1, 2, 3, 4, 5, 6, 7, 8], [8])])
def impl_binderOf.B7 : List Nat := [0, 0, 3, 7, 0, 0, 48, 112, 255, 511]
theorem impl_binderOf.tab7 : rtab .any (opsOf Tryd.f53 7) = impl_binderOf.T7 := by kernel_rfl
theorem impl_binderOf.bits7 : waitsOk impl_binderOf.T7.2 impl_binderOf.B7 = true := by kernel_rfl
set_option maxHeartbeats 8000000 in
set_option maxRecDepth 100000 in
theorem impl_binderOf.calls (k : Nat) (A0 : Option Addr) (c0 : Nat) (l0 : List (S48)) (A1 : Option Addr) (c1 : Nat) (l1 : List Int) (a2 : Int) (a3 : ByteArray) (r1 : Int) (r2 : Int) (w : World) (hr0 : Kd.C k48 w A0 l0.length l0) (hc0 : l0.length ≤ c0) (hr1 : Kd.C (Kd.int .i64) w A1 l1.length l1) (hc1 : l1.length ≤ c1) (h : impl_binderOf.f k l0 l1 a2 a3 = some (r1, r2)) :
  Calls Tryd.prog 53 #[.slice A0 l0.length c0, .slice A1 l1.length c1, .int .i64 a2, .string a3] w fun e w' => e = .returned (.agg #[.int .i64 r1, .int .i64 r2]) ∧ Below w.heap.size w w' := by
 have hu32 := Tryd.underlying32
 have hu48 := Tryd.underlying48
 have HR0 := Aside0.mk hr0
 have HC0 := Aside0.mk hc0
 clear hr0 hc0
 have HR1 := Aside0.mk hr1
 have HC1 := Aside0.mk hc1
 clear hr1 hc1
 have HB := Aside0.mk (Below.refl w.heap.size w)
 have H := h; unfold impl_binderOf.f at H
 clear h
 have H' := Aside0.mk H
 clear H
 go_enter Tryd.func53, Tryd.ntmps53
 go_wp2_with (first | ((with_reducible refine gate_dst (N := 8) rfl ?_); refine box_event ?hg (N := 8) ?hd (cs := #[.int .i64 0, .int .i64 0]) (t := 32) ?hr ?_; (case hd => rfl); (case hg => rfl); (case hr => first | (go_simp; done) | (go_simp; rfl)); intro gb514 hg w5 hbox hb; have BK514 := Aside0.mk (hbox); have GW514 := Aside0.mk ((by rw [hg]; exact (below_size bb0) : w.heap.size ≤ gb514)); have GE514 := Aside0.mk ((by rw [hg]; exact (below_size bb0) : w.heap.size ≤ gb514)); replace HB := Aside0.mk (below_step bb0 hb); clear hb hbox hg))
 go_simp
 go_loopg [2] k (fun kq v2 w' => ∃ (x2_1 : Int) (x515000_1 : Int) (x515001_1 : Int), v2 = .int .i64 x2_1 ∧ Aside0 (impl_binderOf.l0 kq l0 l1 x2_1 a3 = some (r1, r2)) ∧ Aside0 (kq ≤ k) ∧ Aside0 (w'.heap[gb514]? = some (.cells #[.int .i64 x515000_1, .int .i64 x515001_1] 32 (0, 0))) ∧ Aside0 (Below w.heap.size w w'))
 case atStart => exact ⟨(a2), (0), (0), rs0, H', ⟨Nat.le_refl _⟩, ⟨by refine bk0 ?_; exact BK514.out⟩, ⟨bb1 GE514.out⟩⟩
 case round =>
  clear H'
  try clear c1
  try clear p2
  try clear c5
  obtain ⟨x2_1, x515000_1, x515001_1, rfl, HA, HK1, BK514, HB⟩ := hrel
  cases gk with
  | zero => exact absurd HA.out (by simp [impl_binderOf.l0])
  | succ k1 =>
   have H := HA.out
   clear HA
   simp only [impl_binderOf.l0] at H
   by_cases c6 : 0 ≤ x2_1
   ·rw [if_pos c6] at H
    have c6b0 := decide_eq_true c6
    clear c6
    by_cases c7 : x2_1 < (l1.length : Int)
    ·rw [if_pos c7] at H
     have c7b0 := decide_eq_true c7
     clear c7
     by_cases c8 : (rd l1 x2_1) ≥ 0
     ·rw [if_pos c8] at H
      have c8b0 := decide_eq_true c8
      clear c8
      by_cases c9 : 0 ≤ (rd l1 x2_1)
      ·rw [if_pos c9] at H
       have c9b0 := decide_eq_true c9
       clear c9
       by_cases c10 : (rd l1 x2_1) < (l0.length : Int)
       ·rw [if_pos c10] at H
        have c10b0 := decide_eq_true c10
        clear c10
        obtain ⟨⟨t518, t521⟩, A11, H⟩ := bx H; dsimp only at H
        have H' := Aside0.mk H
        clear H
        have p515 : 0 ≤ (x2_1 : Int) := of_decide_eq_true as0
        have q515 : x2_1 < (l1.length : Int) := of_decide_eq_true as0
        obtain ⟨ad515, e515, hx515_0⟩ := Kd.at_int HR1.out x2_1 p515 q515
        cases e515
        replace hx515_0 := hbc HB hx515_0
        replace p515 := eq_true p515
        replace q515 := eq_true q515
        have p516 : 0 ≤ (x2_1 : Int) := of_decide_eq_true as0
        have q516 : x2_1 < (l1.length : Int) := of_decide_eq_true as0
        obtain ⟨ad516, e516, hx516_0⟩ := Kd.at_int HR1.out x2_1 p516 q516
        obtain rfl : ad515 = ad516 := (by injection e516)
        replace hx516_0 := hbc HB hx516_0
        replace p516 := eq_true p516
        replace q516 := eq_true q516
        have p517 : 0 ≤ ((rd l1 x2_1) : Int) := of_decide_eq_true as0
        have q517 : (rd l1 x2_1) < (l0.length : Int) := of_decide_eq_true as0
        obtain ⟨ad517, e517, hx517_0, hx517_1, hx517_2, hx517_3, hx517_4, hx517_5, hx517_6⟩ := at_T48 HR0.out (rd l1 x2_1) p517 q517
        cases e517
        replace hx517_0 := hbc HB hx517_0
        replace hx517_1 := hbc HB hx517_1
        replace hx517_2 := hbc HB hx517_2
        replace hx517_3 := hbc HB hx517_3
        replace hx517_4 := hbc HB hx517_4
        replace hx517_5 := hbc HB hx517_5
        replace hx517_6 := hbc HB hx517_6
        replace p517 := eq_true p517
        replace q517 := eq_true q517
        go_wp2_with (first | ((with_reducible refine gate_callee (f := 62) rfl ?_); refine goesL_ (some 27) rfl rfl Tryd.func62 (by kernel_rfl) rfl #[.agg #[.int .i64 ((rd_T48 l0 (rd l1 x2_1)).f0), .int .i64 ((rd_T48 l0 (rd l1 x2_1)).f1), .int .i64 ((rd_T48 l0 (rd l1 x2_1)).f2), .int .i64 ((rd_T48 l0 (rd l1 x2_1)).f3), .int .i64 ((rd_T48 l0 (rd l1 x2_1)).f4), .string ((rd_T48 l0 (rd l1 x2_1)).f5), .string ((rd_T48 l0 (rd l1 x2_1)).f6)], .int .i64 x2_1] rfl mm0 ?_; (with_reducible refine (impl_bindsIn.calls k1 ((rd_T48 l0 (rd l1 x2_1)).f0) ((rd_T48 l0 (rd l1 x2_1)).f1) ((rd_T48 l0 (rd l1 x2_1)).f2) ((rd_T48 l0 (rd l1 x2_1)).f3) ((rd_T48 l0 (rd l1 x2_1)).f4) ((rd_T48 l0 (rd l1 x2_1)).f5) ((rd_T48 l0 (rd l1 x2_1)).f6) x2_1 t518 t521 _ A11.out).mono ?_); rintro e w12 ⟨v519, v522, rfl, ho0, ho1, hb⟩; refine ⟨_, rfl, ?_⟩; have HO520 := Aside0.mk (Kd.R_lower ho0 (below_size (bb1 GE514.out))); have HO523 := Aside0.mk (Kd.R_lower ho1 (below_size (bb1 GE514.out))); replace BK514 := Aside0.mk (blk_below (g := gb514) (bk0 BK514.out) hb); replace HB := Aside0.mk (below_step (bb1 GE514.out) hb); clear hb ho0 ho1; obtain ⟨Ao13, co13, eo13⟩ := Kd.R_slice HO520.out; subst eo13))
        go_loopg [32] k1 (fun kq v32 w' => ∃ (x32_2 : Int) (x515000_2 : Int) (x515001_2 : Int), v32 = .int .i64 x32_2 ∧ Aside0 (impl_binderOf.l1 kq l0 l1 x2_1 a3 t521 t518 (t518.length : Int) x32_2 = some (r1, r2)) ∧ Aside0 (kq ≤ k1) ∧ Aside0 (Kd.R (Kd.int .i64) 3 w' w.heap.size (fun _ => True) v522 t521) ∧ Aside0 (Kd.R Kd.string 9 w' w.heap.size (fun _ => True) (.slice Ao13 t518.length co13) t518) ∧ Aside0 (w'.heap[gb514]? = some (.cells #[.int .i64 x515000_2, .int .i64 x515001_2] 32 (0, 0))) ∧ Aside0 (Below w.heap.size w w'))
        case atStart => exact ⟨(0), (x515000_1), (x515001_1), rs0, H', ⟨Nat.le_refl _⟩, ⟨by refine ra0 ?_; exact HO523.out⟩, ⟨by refine ra0 ?_; exact HO520.out⟩, ⟨by refine bk0 ?_; exact BK514.out⟩, ⟨bb1 GE514.out⟩⟩
        case round =>
         clear H'
         try clear c1
         try clear p2
         try clear c5
         try clear p5
         try clear q5
         try clear hx5
         try clear c6
         try clear c6b0
         try clear c7
         try clear c7b0
         try clear c8
         try clear c8b0
         try clear c9
         try clear c9b0
         try clear c10
         try clear c10b0
         try clear hx515_0
         try clear hx516_0
         try clear hx517_0
         try clear hx517_1
         try clear hx517_2
         try clear hx517_3
         try clear hx517_4
         try clear hx517_5
         try clear hx517_6
         try clear p2
         try clear p515
         try clear p516
         try clear p517
         try clear q515
         try clear q516
         try clear q517
         obtain ⟨x32_2, x515000_2, x515001_2, rfl, HA, HK2, HO_10, HO_30, BK514, HB⟩ := hrel
         cases gk with
         | zero => exact absurd HA.out (by simp [impl_binderOf.l1])
         | succ k2 =>
          have H := HA.out
          clear HA
          simp only [impl_binderOf.l1] at H
          by_cases c14 : x32_2 < (t518.length : Int)
          ·rw [if_pos c14] at H
           have c14b0 := decide_eq_true c14
           clear c14
           by_cases c15 : 0 ≤ x32_2
           ·rw [if_pos c15] at H
            have c15b0 := decide_eq_true c15
            clear c15
            by_cases c16 : x32_2 < (t518.length : Int)
            ·rw [if_pos c16] at H
             have c16b0 := decide_eq_true c16
             clear c16
             by_cases c17 : (rdOf ByteArray.empty t518 x32_2).toList = a3.toList
             ·rw [if_pos c17] at H
              obtain ⟨c17b0, c17b1⟩ := eqT c17
              clear c17
              by_cases c18 : 0 ≤ x2_1
              ·rw [if_pos c18] at H
               have c18b0 := decide_eq_true c18
               clear c18
               by_cases c19 : x2_1 < (l1.length : Int)
               ·rw [if_pos c19] at H
                have c19b0 := decide_eq_true c19
                clear c19
                by_cases c20 : x32_2 < (t521.length : Int)
                ·rw [if_pos c20] at H
                 have c20b0 := decide_eq_true c20
                 clear c20
                 simp only [Option.some.injEq, Prod.mk.injEq] at H
                 obtain ⟨rfl, rfl⟩ := H
                 have p524 : 0 ≤ (x32_2 : Int) := of_decide_eq_true as0
                 have q524 : x32_2 < (t518.length : Int) := of_decide_eq_true as0
                 obtain ⟨ad524, e524, hx524_0⟩ := Kd.at_string (Kd.R_reads' HO_30.out).2.2 x32_2 p524 q524
                 cases e524
                 replace p524 := eq_true p524
                 replace q524 := eq_true q524
                 try go_wp2
                 replace HO_10 := Aside0.mk (Kd.R_drew HO_10.out)
                 replace HO_30 := Aside0.mk (Kd.R_drew HO_30.out)
                 replace BK514 := Aside0.mk (blk_drew BK514.out)
                 replace HB := Aside0.mk (below_drew1 HB.out)
                 have p525 : 0 ≤ (x2_1 : Int) := of_decide_eq_true as0
                 have q525 : x2_1 < (l1.length : Int) := of_decide_eq_true as0
                 obtain ⟨ad525, e525, hx525_0⟩ := Kd.at_int HR1.out x2_1 p525 q525
                 have hw525_0 := hx525_0
                 obtain rfl : ad515 = ad525 := (by injection e525)
                 replace hx525_0 := hbc HB hx525_0
                 replace p525 := eq_true p525
                 replace q525 := eq_true q525
                 obtain ⟨Ao22, co22, eo22⟩ := Kd.R_slice HO_10.out
                 (first | subst eo22 | (injection eo22 with f1_ f2_ f3_; have f4_ := f1_.symm; have f5_ := f3_.symm; clear f1_ f2_ f3_; subst f4_; subst f5_))
                 have p526 : 0 ≤ (x32_2 : Int) := of_decide_eq_true as0
                 have q526 : x32_2 < (t521.length : Int) := of_decide_eq_true as0
                 obtain ⟨ad526, e526, hx526_0⟩ := Kd.at_int (Kd.R_reads' HO_10.out).2.2 x32_2 p526 q526
                 cases e526
                 replace p526 := eq_true p526
                 replace q526 := eq_true q526
                 refine start_ (n := 10) (S := fun w' => w'.cell? (ad515.add (x2_1).toNat) = some (.int .i64 (rd l1 x2_1)) ∧ w'.cell? (ad526.add (x32_2).toNat) = some (.int .i64 (rd t521 x32_2))) (ds := []) #[false, false, false, false, false, false, false, false, false, false] (by kernel_rfl) rfl rfl ⟨(hbc HB hw525_0), hx526_0⟩ (fun hHeld => ?_); refine with_tabW impl_binderOf.tab7 impl_binderOf.bits7 (fun HT_ HW_ => ?_)
                 generalize wr.drew = w21 at HO_10 HO_30 BK514 HB hx525_0 hx526_0 hHeld ⊢
                 refine pu_ 0 40 HT_ ?_
                 refine pu_ 1 41 HT_ ?_
                 refine pu_ 2 42 HT_ ?_
                 refine pu_ 4 44 HT_ ?_
                 refine pu_ 5 45 HT_ ?_
                 refine pu_ 6 46 HT_ ?_
                 refine tk_ 3 43 HT_ HW_ hHeld ?_
                 refine tk_ 7 47 HT_ HW_ hHeld ?_
                 refine pu_ 8 48 HT_ ?_
                 refine one_ (i := 9) (N := none) #[true, true, true, true, true, true, true, true, true, true] rfl rfl (one_of HT_.out (by kernel_rfl)) (by decide) (fun K hK => ?_)
                 have hs23 : w21.cell? ⟨gb514, 0, none⟩ = some (.int .i64 x515000_2) := (blk_cell BK514.out 0).trans rfl
                 have hfs23 := blk_frozen BK514.out 0
                 have hs24 : w21.cell? ⟨gb514, 1, none⟩ = some (.int .i64 x515001_2) := (blk_cell BK514.out 1).trans rfl
                 have hfs24 := blk_frozen BK514.out 1
                 refine skip_ (w1 := ?_) (by rfl) rfl ?_ ?_
                 rotate_left
                 ·go_simp
                  rfl
                 refine hK.out _ _ ⟨((cell_far (p := ⟨gb514, _, none⟩) (by first | exact Nat.ne_of_lt (Nat.lt_of_lt_of_le (by have := World.block_lt_of_cell? _ _ hw525_0; first | rwa [add_block] at this | exact this) GW514.out) | (rw [add_block]; exact Nat.ne_of_lt (Nat.lt_of_lt_of_le (by have := World.block_lt_of_cell? _ _ hw525_0; first | rwa [add_block] at this | exact this) GW514.out)) | (show (Addr.add _ _).block ≠ _; rw [add_block]; exact Nat.ne_of_lt (Nat.lt_of_lt_of_le (by have := World.block_lt_of_cell? _ _ hw525_0; first | rwa [add_block] at this | exact this) GW514.out)) | (dsimp only; exact Nat.ne_of_lt (Nat.lt_of_lt_of_le (by have := World.block_lt_of_cell? _ _ hw525_0; first | rwa [add_block] at this | exact this) GW514.out))) _).trans (((cell_far (p := ⟨gb514, _, none⟩) (by first | exact Nat.ne_of_lt (Nat.lt_of_lt_of_le (by have := World.block_lt_of_cell? _ _ hw525_0; first | rwa [add_block] at this | exact this) GW514.out) | (rw [add_block]; exact Nat.ne_of_lt (Nat.lt_of_lt_of_le (by have := World.block_lt_of_cell? _ _ hw525_0; first | rwa [add_block] at this | exact this) GW514.out)) | (show (Addr.add _ _).block ≠ _; rw [add_block]; exact Nat.ne_of_lt (Nat.lt_of_lt_of_le (by have := World.block_lt_of_cell? _ _ hw525_0; first | rwa [add_block] at this | exact this) GW514.out)) | (dsimp only; exact Nat.ne_of_lt (Nat.lt_of_lt_of_le (by have := World.block_lt_of_cell? _ _ hw525_0; first | rwa [add_block] at this | exact this) GW514.out))) _).trans (hHeld.1)))), ((cell_far (p := ⟨gb514, _, none⟩) (by first | exact Kd.own_blk (Kd.R_ne HO_10.out BK514.out (by decide)) | (rw [add_block]; exact Kd.own_blk (Kd.R_ne HO_10.out BK514.out (by decide))) | (show (Addr.add _ _).block ≠ _; rw [add_block]; exact Kd.own_blk (Kd.R_ne HO_10.out BK514.out (by decide))) | (dsimp only; exact Kd.own_blk (Kd.R_ne HO_10.out BK514.out (by decide)))) _).trans (((cell_far (p := ⟨gb514, _, none⟩) (by first | exact Kd.own_blk (Kd.R_ne HO_10.out BK514.out (by decide)) | (rw [add_block]; exact Kd.own_blk (Kd.R_ne HO_10.out BK514.out (by decide))) | (show (Addr.add _ _).block ≠ _; rw [add_block]; exact Kd.own_blk (Kd.R_ne HO_10.out BK514.out (by decide))) | (dsimp only; exact Kd.own_blk (Kd.R_ne HO_10.out BK514.out (by decide)))) _).trans (hHeld.2))))⟩ (fun hHeld => ?_)
                 clear hK K
                 refine done_ (done_of HT_.out (by kernel_rfl)) ?_
                 try go_wp2
                 refine bodyPost_ret (results_cell_row rfl _ _ gb514 32 #[.int .i64 (rd l1 x2_1), .int .i64 (rd t521 x32_2)] (0, 0) _ rfl (bk1 BK514.out) Tryd.underlying32 rfl (by kernel_rfl)) rfl ?_
                 exact ⟨er0, bb1 GE514.out⟩
                ·rw [if_neg c20] at H
                 exact absurd H (by simp)
               ·rw [if_neg c19] at H
                exact absurd H (by simp)
              ·rw [if_neg c18] at H
               exact absurd H (by simp)
             ·rw [if_neg c17] at H
              obtain ⟨c17b0, c17b1⟩ := eqF c17
              have H' := Aside0.mk H
              clear H
              have p524 : 0 ≤ (x32_2 : Int) := of_decide_eq_true as0
              have q524 : x32_2 < (t518.length : Int) := of_decide_eq_true as0
              obtain ⟨ad524, e524, hx524_0⟩ := Kd.at_string (Kd.R_reads' HO_30.out).2.2 x32_2 p524 q524
              cases e524
              replace p524 := eq_true p524
              replace q524 := eq_true q524
              go_wp2
              go_roundg k2
              case measure => have := HK1.out; have := HK2.out; omega
              case rel => exact ⟨(wrap64 (x32_2 + 1)), (x515000_2), (x515001_2), rs0, H', ⟨by have := HK1.out; have := HK2.out; omega⟩, ⟨by refine ra0 ?_; exact HO_10.out⟩, ⟨by refine ra0 ?_; exact HO_30.out⟩, ⟨by refine bk0 ?_; exact BK514.out⟩, ⟨bb1 GE514.out⟩⟩
            ·rw [if_neg c16] at H
             exact absurd H (by simp)
           ·rw [if_neg c15] at H
            exact absurd H (by simp)
          ·rw [if_neg c14] at H
           have c14b0 := decide_eq_false c14
           clear c14
           by_cases c25 : 0 ≤ x2_1
           ·rw [if_pos c25] at H
            have c25b0 := decide_eq_true c25
            clear c25
            by_cases c26 : x2_1 < (l1.length : Int)
            ·rw [if_pos c26] at H
             have c26b0 := decide_eq_true c26
             clear c26
             have H' := Aside0.mk H
             clear H
             have p527 : 0 ≤ (x2_1 : Int) := of_decide_eq_true as0
             have q527 : x2_1 < (l1.length : Int) := of_decide_eq_true as0
             obtain ⟨ad527, e527, hx527_0⟩ := Kd.at_int HR1.out x2_1 p527 q527
             obtain rfl : ad515 = ad527 := (by injection e527)
             replace hx527_0 := hbc HB hx527_0
             replace p527 := eq_true p527
             replace q527 := eq_true q527
             go_wp2
             go_roundg k2
             case measure => have := HK1.out; have := HK2.out; omega
             case rel => exact ⟨(rd l1 x2_1), (x515000_2), (x515001_2), rs0, H', ⟨by have := HK1.out; have := HK2.out; omega⟩, ⟨by refine bk0 ?_; exact BK514.out⟩, ⟨bb1 GE514.out⟩⟩
            ·rw [if_neg c26] at H
             exact absurd H (by simp)
           ·rw [if_neg c25] at H
            exact absurd H (by simp)
       ·rw [if_neg c10] at H
        exact absurd H (by simp)
      ·rw [if_neg c9] at H
       exact absurd H (by simp)
     ·rw [if_neg c8] at H
      have c8b0 := decide_eq_false c8
      clear c8
      simp only [Option.some.injEq, Prod.mk.injEq] at H
      obtain ⟨rfl, rfl⟩ := H
      have p515 : 0 ≤ (x2_1 : Int) := of_decide_eq_true as0
      have q515 : x2_1 < (l1.length : Int) := of_decide_eq_true as0
      obtain ⟨ad515, e515, hx515_0⟩ := Kd.at_int HR1.out x2_1 p515 q515
      cases e515
      replace hx515_0 := hbc HB hx515_0
      replace p515 := eq_true p515
      replace q515 := eq_true q515
      obtain ⟨hcz27_0, hcz27_1⟩ := cells2 BK514.out
      obtain ⟨hfz27_0, hfz27_1⟩ := frz2 BK514.out
      go_wp2
      refine bodyPost_ret (results_cell_row rfl _ _ gb514 32 #[.int .i64 (-1), .int .i64 (-1)] (0, 0) _ rfl (bk1 BK514.out) Tryd.underlying32 rfl (by kernel_rfl)) rfl ?_
      exact ⟨er0, bb1 GE514.out⟩
    ·rw [if_neg c7] at H
     exact absurd H (by simp)
   ·rw [if_neg c6] at H
    exact absurd H (by simp)

/-! ### impl_binders: function 41 -/
def impl_binders.l0 : Nat → List (S48) → List Int → List (S32) → List (S48) → Int → Int → Option ((List (S32)))
 | 0, _, _, _, _, _, _ => none
 | k + 1, x0, x3, x4, x10, x11, x12 => if x12 < x11 then (if 0 ≤ x12 then (if x12 < (x10.length : Int) then (if ((rd_T48 x10 x12).f0) = 1 then ((impl_binderOf.f k x0 x3 x12 ((rd_T48 x10 x12).f5)).bind fun bt534 => (if x4.length < 8796093022208 then (impl_binders.l0 k x0 x3 (x4 ++ [(⟨bt534.1, bt534.2⟩ : S32)]) x10 x11 (wrap64 (x12 + 1))) else (none))) else (if x4.length < 8796093022208 then (impl_binders.l0 k x0 x3 (x4 ++ [(⟨(-1), (-1)⟩ : S32)]) x10 x11 (wrap64 (x12 + 1))) else (none))) else (none)) else (none)) else (some x4)
def impl_binders.f (k : Nat) (l0 : List (S48)) : Option ((List (S32))) := (impl_parents.f k l0).bind fun t528 => (impl_binders.l0 k l0 t528 ([] : List (S32)) l0 (l0.length : Int) 0)
theorem impl_binders.mono_l : ∀ k, (∀ y0 y1 y2 y3 y4 y5, LeO (impl_binders.l0 k y0 y1 y2 y3 y4 y5) (impl_binders.l0 (k + 1) y0 y1 y2 y3 y4 y5))
 | 0 => fun _ _ _ _ _ _ r h => by simp [impl_binders.l0] at h
 | k + 1 => by
  have ih0 := impl_binders.mono_l k
  ·intro y0 y1 y2 y3 y4 y5
   unfold impl_binders.l0
   repeat' first
   | (with_reducible exact ih0 _ _ _ _ _ _)
   | (with_reducible exact impl_binderOf.mono _ _ _ _ _)
   | (with_reducible exact impl_parents.mono _ _)
   | (with_reducible exact LeO.refl _)
   | (with_reducible exact LeO.none _)
   | (with_reducible refine LeO.ite ?_ ?_)
   | (with_reducible refine LeO.bind ?_ (fun _ => ?_))
   | exact ih0 _ _ _ _ _ _
   | exact impl_binderOf.mono _ _ _ _ _
   | exact impl_parents.mono _ _
   | exact LeO.none _
   | refine LeO.ite ?_ ?_
   | refine LeO.bind ?_ (fun _ => ?_)
theorem impl_binders.mono : ∀ a0 k, LeO (impl_binders.f k a0) (impl_binders.f (k + 1) a0) := by
 intro a0 k
 have ih0 := impl_binders.mono_l k
 unfold impl_binders.f
 repeat' first
   | (with_reducible exact ih0 _ _ _ _ _ _)
   | (with_reducible exact impl_binderOf.mono _ _ _ _ _)
   | (with_reducible exact impl_parents.mono _ _)
   | (with_reducible exact LeO.refl _)
   | (with_reducible exact LeO.none _)
   | (with_reducible refine LeO.ite ?_ ?_)
   | (with_reducible refine LeO.bind ?_ (fun _ => ?_))
   | exact ih0 _ _ _ _ _ _
   | exact impl_binderOf.mono _ _ _ _ _
   | exact impl_parents.mono _ _
   | exact LeO.none _
   | refine LeO.ite ?_ ?_
   | refine LeO.bind ?_ (fun _ => ?_)
set_option maxHeartbeats 8000000 in
set_option maxRecDepth 100000 in
theorem impl_binders.calls (k : Nat) (A0 : Option Addr) (c0 : Nat) (l0 : List (S48)) (r : List (S32)) (w : World) (hr0 : Kd.C k48 w A0 l0.length l0) (hc0 : l0.length ≤ c0) (h : impl_binders.f k l0 = some r) :
  Calls Tryd.prog 41 #[.slice A0 l0.length c0] w fun e w' => ∃ v0_ : Value, e = .returned (v0_) ∧ Kd.R k32 32 w' w.heap.size (fun _ => True) v0_ r ∧ Below w.heap.size w w' := by
 have hu48 := Tryd.underlying48
 have hu32 := Tryd.underlying32
 have HR0 := Aside0.mk hr0
 have HC0 := Aside0.mk hc0
 clear hr0 hc0
 have HB := Aside0.mk (Below.refl w.heap.size w)
 have H := h; unfold impl_binders.f at H
 clear h
 obtain ⟨t528, A2, H⟩ := bx H
 have H' := Aside0.mk H
 clear H
 go_enter Tryd.func41, Tryd.ntmps41
 go_wp2_with (first | ((with_reducible refine gate_callee (f := 52) rfl ?_); refine goesL_ (some 9) rfl rfl Tryd.func52 (by kernel_rfl) rfl #[.slice A0 l0.length c0] rfl mm0 ?_; (with_reducible refine (impl_parents.calls k _ _ l0 t528 _ ?side1 ?side2 A2.out).mono ?_); (case side1 => repeat (first | exact HR0.out | (with_reducible refine Kd.C_alloc ?_ _) | (with_reducible refine Kd.C_drewN ?_ _) | (with_reducible refine Kd.C_drew ?_))); (case side2 => exact HC0.out); rintro e w3 ⟨v529, rfl, ho0, hb⟩; refine ⟨_, rfl, ?_⟩; have HO530 := Aside0.mk (Kd.R_lower ho0 (below_size bb0)); replace HB := Aside0.mk (below_step bb0 hb); clear hb ho0))
 go_loopg [4, 12] k (fun kq v4 v12 w' => ∃ (x4_1 : List (S32)) (x12_1 : Int), v12 = .int .i64 x12_1 ∧ Aside0 (impl_binders.l0 kq l0 t528 x4_1 l0 (l0.length : Int) x12_1 = some r) ∧ Aside0 (kq ≤ k) ∧ Aside0 (Kd.R (Kd.int .i64) 3 w' w.heap.size (fun _ => True) v529 t528) ∧ Aside0 (Kd.R k32 32 w' w.heap.size (fun _ => True) v4 x4_1) ∧ Aside0 (Below w.heap.size w w'))
 case atStart => exact ⟨(([] : List (S32))), (0), rs0, H', ⟨Nat.le_refl _⟩, ⟨by refine ra0 ?_; exact HO530.out⟩, ⟨nil0⟩, ⟨bb0⟩⟩
 case round =>
  clear H'
  try clear p2
  obtain ⟨x4_1, x12_1, rfl, HA, HK1, HO_3, HO_4, HB⟩ := hrel
  cases gk with
  | zero => exact absurd HA.out (by simp [impl_binders.l0])
  | succ k1 =>
   have H := HA.out
   clear HA
   simp only [impl_binders.l0] at H
   by_cases c4 : x12_1 < (l0.length : Int)
   ·rw [if_pos c4] at H
    have c4b0 := decide_eq_true c4
    clear c4
    by_cases c5 : 0 ≤ x12_1
    ·rw [if_pos c5] at H
     have c5b0 := decide_eq_true c5
     clear c5
     by_cases c6 : x12_1 < (l0.length : Int)
     ·rw [if_pos c6] at H
      have c6b0 := decide_eq_true c6
      clear c6
      by_cases c7 : ((rd_T48 l0 x12_1).f0) = 1
      ·rw [if_pos c7] at H
       obtain ⟨c7b0, c7b1⟩ := eqT c7
       clear c7
       obtain ⟨⟨t534, t535⟩, A8, H⟩ := bx H; dsimp only at H
       by_cases c9 : x4_1.length < 8796093022208
       ·rw [if_pos c9] at H
        have LMc9 := Aside0.mk c9
        clear c9
        obtain ⟨y536, hy536⟩ : ∃ y_ : List (S32), y_ = (x4_1 ++ [(⟨t534, t535⟩ : S32)]) := ⟨_, rfl⟩
        replace H : (impl_binders.l0 k1 l0 t528 y536 l0 (l0.length : Int) (wrap64 (x12_1 + 1))) = some r := by first | (rw [hy536]; with_reducible exact H) | (have H2_ := (Option.bind_some _ _).symm.trans H; rw [hy536]; with_reducible exact H2_) | (have H2_ := (Option.bind_some _ _).symm.trans H; with_reducible exact H2_) | with_reducible exact H | (rw [hy536]; exact H) | exact H
        have Ny536 := Aside0.mk hy536
        clear hy536
        have H' := Aside0.mk H
        clear H
        have p531 : 0 ≤ (x12_1 : Int) := of_decide_eq_true as0
        have q531 : x12_1 < (l0.length : Int) := of_decide_eq_true as0
        obtain ⟨ad531, e531, hx531_0, hx531_1, hx531_2, hx531_3, hx531_4, hx531_5, hx531_6⟩ := at_T48 HR0.out x12_1 p531 q531
        cases e531
        replace hx531_0 := hbc HB hx531_0
        replace hx531_1 := hbc HB hx531_1
        replace hx531_2 := hbc HB hx531_2
        replace hx531_3 := hbc HB hx531_3
        replace hx531_4 := hbc HB hx531_4
        replace hx531_5 := hbc HB hx531_5
        replace hx531_6 := hbc HB hx531_6
        replace p531 := eq_true p531
        replace q531 := eq_true q531
        go_wp2_with (first | ((with_reducible refine gate_dst (N := 6) rfl ?_); refine box_event ?hg (N := 6) ?hd (cs := #[.int .i64 0, .int .i64 0, .int .i64 0, .int .i64 0, .int .i64 0, .string (⟨#[]⟩ : ByteArray), .string (⟨#[]⟩ : ByteArray)]) (t := 48) ?hr ?_; (case hd => rfl); (case hg => rfl); (case hr => first | (go_simp; done) | (go_simp; rfl)); intro gb532 hg w10 hbox hb; replace HO_3 := Aside0.mk (Kd.R_below (ra0 HO_3.out) hb); replace HO_4 := Aside0.mk (Kd.R_below (ra0 HO_4.out) hb); have BK532 := Aside0.mk (hbox); have GW532 := Aside0.mk ((by rw [hg]; exact (below_size bb0) : w.heap.size ≤ gb532)); have GE532 := Aside0.mk ((by rw [hg]; exact (below_size bb0) : w.heap.size ≤ gb532)); replace HB := Aside0.mk (below_step bb0 hb); clear hb hbox hg; obtain ⟨hcz11_0, hcz11_1, hcz11_2, hcz11_3, hcz11_4, hcz11_5, hcz11_6⟩ := cells7 BK532.out; obtain ⟨hfz11_0, hfz11_1, hfz11_2, hfz11_3, hfz11_4, hfz11_5, hfz11_6⟩ := frz7 BK532.out) | ((with_reducible refine gate_dst (N := 7) rfl ?_); refine box_event ?hg (N := 7) ?hd (cs := #[.int .i64 0, .int .i64 0]) (t := 32) ?hr ?_; (case hd => rfl); (case hg => rfl); (case hr => first | (go_simp; done) | (go_simp; rfl)); intro gb533 hg w12 hbox hb; replace HO_3 := Aside0.mk (Kd.R_below (by refine ra0 ?_; exact (Kd.R_mono (Kd.R_far (p := ⟨gb532, 6, none⟩) (Kd.R_far (p := ⟨gb532, 5, none⟩) (Kd.R_far (p := ⟨gb532, 4, none⟩) (Kd.R_far (p := ⟨gb532, 3, none⟩) (Kd.R_far (p := ⟨gb532, 2, none⟩) (Kd.R_far (p := ⟨gb532, 1, none⟩) (Kd.R_far (p := ⟨gb532, 0, none⟩) (Kd.R_types HO_3.out BK532.out (by decide)) (fun _ hk => hk.2) (.int .i64 ((rd_T48 l0 x12_1).f0))) (fun _ hk => hk.2) (.int .i64 ((rd_T48 l0 x12_1).f1))) (fun _ hk => hk.2) (.int .i64 ((rd_T48 l0 x12_1).f2))) (fun _ hk => hk.2) (.int .i64 ((rd_T48 l0 x12_1).f3))) (fun _ hk => hk.2) (.int .i64 ((rd_T48 l0 x12_1).f4))) (fun _ hk => hk.2) (.string ((rd_T48 l0 x12_1).f5))) (fun _ hk => hk.2) (.string ((rd_T48 l0 x12_1).f6))) (fun _ h_ => h_.1))) hb); replace HO_4 := Aside0.mk (Kd.R_below (Kd.R_elderB (by refine ra0 ?_; exact (Kd.R_mono (Kd.R_far (p := ⟨gb532, 6, none⟩) (Kd.R_far (p := ⟨gb532, 5, none⟩) (Kd.R_far (p := ⟨gb532, 4, none⟩) (Kd.R_far (p := ⟨gb532, 3, none⟩) (Kd.R_far (p := ⟨gb532, 2, none⟩) (Kd.R_far (p := ⟨gb532, 1, none⟩) (Kd.R_far (p := ⟨gb532, 0, none⟩) (Kd.R_types HO_4.out BK532.out (by decide)) (fun _ hk => hk.2) (.int .i64 ((rd_T48 l0 x12_1).f0))) (fun _ hk => hk.2) (.int .i64 ((rd_T48 l0 x12_1).f1))) (fun _ hk => hk.2) (.int .i64 ((rd_T48 l0 x12_1).f2))) (fun _ hk => hk.2) (.int .i64 ((rd_T48 l0 x12_1).f3))) (fun _ hk => hk.2) (.int .i64 ((rd_T48 l0 x12_1).f4))) (fun _ hk => hk.2) (.string ((rd_T48 l0 x12_1).f5))) (fun _ hk => hk.2) (.string ((rd_T48 l0 x12_1).f6))) (fun _ h_ => h_.1))) gb533 (Nat.le_of_eq hg.symm)) hb); have BK533 := Aside0.mk (hbox); have GW533 := Aside0.mk ((by rw [hg]; exact (below_size (bb1 GE532.out)) : w.heap.size ≤ gb533)); have GE533 := Aside0.mk ((by rw [hg]; exact (below_size (bb1 GE532.out)) : w.heap.size ≤ gb533)); replace HB := Aside0.mk (below_step (bb1 GE532.out) hb); have NB532_533 := Aside0.mk ((by rw [hg]; exact Nat.ne_of_lt (blk_lt (g := gb532) (bk1 BK532.out)) : gb532 ≠ gb533)); have NB533_532 := Aside0.mk ((by rw [hg]; exact Nat.ne_of_gt (blk_lt (g := gb532) (bk1 BK532.out)) : gb533 ≠ gb532)); replace BK532 := Aside0.mk (blk_below (g := gb532) (bk1 BK532.out) hb); clear hb hbox hg; have hnb13 := NB533_532.out; have hnc13 := NB532_533.out; obtain ⟨hcz14_0, hcz14_1⟩ := cells2 BK533.out; obtain ⟨hfz14_0, hfz14_1⟩ := frz2 BK533.out; obtain ⟨hcz15_0, hcz15_1, hcz15_2, hcz15_3, hcz15_4, hcz15_5, hcz15_6⟩ := cells7 BK532.out; obtain ⟨hfz15_0, hfz15_1, hfz15_2, hfz15_3, hfz15_4, hfz15_5, hfz15_6⟩ := frz7 BK532.out; obtain ⟨Ao16, co16, eo16⟩ := Kd.R_slice HO_3.out; subst eo16) | ((with_reducible refine gate_callee (f := 53) rfl ?_); refine goesL_ (some 26) rfl rfl Tryd.func53 (by kernel_rfl) rfl #[.slice (some ad531) l0.length c0, .slice Ao16 t528.length co16, .int .i64 x12_1, .string ((rd_T48 l0 x12_1).f5)] rfl mm0 ?_; (with_reducible refine (impl_binderOf.calls k1 _ _ l0 _ _ t528 x12_1 ((rd_T48 l0 x12_1).f5) t534 t535 _ ?side1 ?side2 ?side3 ?side4 A8.out).mono ?_); (case side1 => exact Kd.C_below HR0.out (bb2 GE532.out GE533.out)); (case side2 => exact HC0.out); (case side3 => refine (Kd.R_reads' (e := 3) (base := w.heap.size) (ok := fun k_ => True) (n := t528.length) (c := co16) ?_).2.2; exact (by refine ra0 ?_; exact (Kd.R_mono (Kd.R_far (p := ⟨gb533, 1, none⟩) (Kd.R_far (p := ⟨gb533, 0, none⟩) (Kd.R_types HO_3.out BK533.out (by decide)) (fun _ hk => hk.2) (.int .i64 (-1))) (fun _ hk => hk.2) (.int .i64 (-1))) (fun _ h_ => h_.1)))); (case side4 => exact (Kd.R_reads' HO_3.out).2.1); rintro e w17 ⟨rfl, hb⟩; refine ⟨_, rfl, ?_⟩; replace HO_3 := Aside0.mk (Kd.R_below (by refine ra0 ?_; exact (Kd.R_mono (Kd.R_far (p := ⟨gb533, 1, none⟩) (Kd.R_far (p := ⟨gb533, 0, none⟩) (Kd.R_types HO_3.out BK533.out (by decide)) (fun _ hk => hk.2) (.int .i64 (-1))) (fun _ hk => hk.2) (.int .i64 (-1))) (fun _ h_ => h_.1))) hb); replace HO_4 := Aside0.mk (Kd.R_below (by refine ra0 ?_; exact (Kd.R_mono (Kd.R_far (p := ⟨gb533, 1, none⟩) (Kd.R_far (p := ⟨gb533, 0, none⟩) (Kd.R_mono HO_4.out (fun k_ hk => (⟨hk, hk.2⟩ : _ ∧ k_ ≠ gb533))) (fun _ hk => hk.2) (.int .i64 (-1))) (fun _ hk => hk.2) (.int .i64 (-1))) (fun _ h_ => h_.1))) hb); replace BK532 := Aside0.mk (blk_below (g := gb532) (bf1 NB532_533.out BK532.out) hb); replace BK533 := Aside0.mk (blk_below (g := gb533) (bk1 BK533.out) hb); replace HB := Aside0.mk (below_step (bb2 GE532.out GE533.out) hb); clear hb; obtain ⟨hcz18_0, hcz18_1⟩ := cells2 BK533.out; obtain ⟨hfz18_0, hfz18_1⟩ := frz2 BK533.out) | ((with_reducible refine gate_builtin (b := .append) (xs := #[(.tmp 27), .tmp 29]) rfl ?_); at_builtin; refine Kd.R_append k32 (w0 := w) w.heap.size rfl (.tmp 27) (.tmp 29) 61 32 (.agg #[(.int .i64 0), (.int .i64 0)]) 16 rfl Tryd.underlying61 info32 rfl (by decide) (by omega) u4 x4_1 (⟨t534, t535⟩ : S32) [.int .i64 t534, .int .i64 t535] (fun k_ => k_ ≠ gb533) (fun _ => False) rfl (by first | (go_simp; done) | (go_simp; rfl)) ?aP (fun _ hk => hk.elim) ?aF ?aO ?aB ?aS ?aL ?_; (case aP => exact k32_mkM _ _ _ (⟨t534, t535⟩ : S32)); (case aB => exact (bb2 GE532.out GE533.out)); (case aF => exact (fun k_ hk => Kd.freshB (g := gb533) (bk1 BK533.out) k_ hk)); (case aO => exact (by (try simp only [setCell_drewN]); refine ra0 ?_; exact Kd.R_mono (Kd.R_far (p := ⟨gb533, 1, none⟩) (Kd.R_far (p := ⟨gb533, 0, none⟩) (Kd.R_mono HO_4.out (fun k_ hk => (⟨hk, hk.2⟩ : _ ∧ k_ ≠ gb533))) (fun _ hk => hk.2) (.int .i64 t534)) (fun _ hk => hk.2) (.int .i64 t535)) (fun _ hk => hk.1.2))); (case aS => exact (below_size (bb2 GE532.out GE533.out))); (case aL => have := LMc9.out; omega); intro v537 w19 ho hb hg hat; rw [← Ny536.out] at ho; have n0_ := Aside0.mk (Kd.R_over' (by refine ra0 ?_; exact (Kd.R_mono (Kd.R_far (p := ⟨gb533, 1, none⟩) (Kd.R_far (p := ⟨gb533, 0, none⟩) (Kd.R_types HO_3.out BK533.out (by decide)) (fun _ hk => hk.2) (.int .i64 t534)) (fun _ hk => hk.2) (.int .i64 t535)) (fun _ h_ => h_.1))) (Kd.R_typed (by refine ra0 ?_; exact (Kd.R_mono (Kd.R_far (p := ⟨gb533, 1, none⟩) (Kd.R_far (p := ⟨gb533, 0, none⟩) (Kd.R_mono HO_4.out (fun k_ hk => (⟨hk, hk.2⟩ : _ ∧ k_ ≠ gb533))) (fun _ hk => hk.2) (.int .i64 t534)) (fun _ hk => hk.2) (.int .i64 t535)) (fun _ h_ => h_.1)))) (by decide) hg); have n1_ := Aside0.mk (blk_grown (g := gb532) (bf1 NB532_533.out BK532.out) hg (Kd.R_ne HO_4.out BK532.out (by decide))); have n2_ := Aside0.mk (blk_grown (g := gb533) (bk1 BK533.out) hg (Kd.R_away HO_4.out (fun _ hk => hk.2))); have n3_ := Aside0.mk (hb); have n4_ := Aside0.mk (ho); clear HO_3; clear BK532; clear BK533; clear HB; clear HO_4; have HO_3 := n0_; have BK532 := n1_; have BK533 := n2_; have HB := n3_; have HO538 := n4_; clear n0_ n1_ n2_ n3_ n4_; clear ho hb hg hat))
        go_roundg k1
        case measure => have := HK1.out; omega
        case rel => exact ⟨(y536), (wrap64 (x12_1 + 1)), rs0, H', ⟨by have := HK1.out; omega⟩, ⟨by refine ra0 ?_; exact HO_3.out⟩, ⟨by refine ra0 ?_; exact Kd.R_mono HO538.out (fun _ hk => trivial)⟩, ⟨bb2 GE532.out GE533.out⟩⟩
       ·rw [if_neg c9] at H
        exact absurd H (by simp)
      ·rw [if_neg c7] at H
       obtain ⟨c7b0, c7b1⟩ := eqF c7
       by_cases c20 : x4_1.length < 8796093022208
       ·rw [if_pos c20] at H
        have LMc20 := Aside0.mk c20
        clear c20
        obtain ⟨y539, hy539⟩ : ∃ y_ : List (S32), y_ = (x4_1 ++ [(⟨(-1), (-1)⟩ : S32)]) := ⟨_, rfl⟩
        replace H : (impl_binders.l0 k1 l0 t528 y539 l0 (l0.length : Int) (wrap64 (x12_1 + 1))) = some r := by first | (rw [hy539]; with_reducible exact H) | (have H2_ := (Option.bind_some _ _).symm.trans H; rw [hy539]; with_reducible exact H2_) | (have H2_ := (Option.bind_some _ _).symm.trans H; with_reducible exact H2_) | with_reducible exact H | (rw [hy539]; exact H) | exact H
        have Ny539 := Aside0.mk hy539
        clear hy539
        have H' := Aside0.mk H
        clear H
        have p531 : 0 ≤ (x12_1 : Int) := of_decide_eq_true as0
        have q531 : x12_1 < (l0.length : Int) := of_decide_eq_true as0
        obtain ⟨ad531, e531, hx531_0, hx531_1, hx531_2, hx531_3, hx531_4, hx531_5, hx531_6⟩ := at_T48 HR0.out x12_1 p531 q531
        cases e531
        replace hx531_0 := hbc HB hx531_0
        replace hx531_1 := hbc HB hx531_1
        replace hx531_2 := hbc HB hx531_2
        replace hx531_3 := hbc HB hx531_3
        replace hx531_4 := hbc HB hx531_4
        replace hx531_5 := hbc HB hx531_5
        replace hx531_6 := hbc HB hx531_6
        replace p531 := eq_true p531
        replace q531 := eq_true q531
        go_wp2_with (first | ((with_reducible refine gate_dst (N := 6) rfl ?_); refine box_event ?hg (N := 6) ?hd (cs := #[.int .i64 0, .int .i64 0, .int .i64 0, .int .i64 0, .int .i64 0, .string (⟨#[]⟩ : ByteArray), .string (⟨#[]⟩ : ByteArray)]) (t := 48) ?hr ?_; (case hd => rfl); (case hg => rfl); (case hr => first | (go_simp; done) | (go_simp; rfl)); intro gb532 hg w21 hbox hb; replace HO_3 := Aside0.mk (Kd.R_below (ra0 HO_3.out) hb); replace HO_4 := Aside0.mk (Kd.R_below (ra0 HO_4.out) hb); have BK532 := Aside0.mk (hbox); have GW532 := Aside0.mk ((by rw [hg]; exact (below_size bb0) : w.heap.size ≤ gb532)); have GE532 := Aside0.mk ((by rw [hg]; exact (below_size bb0) : w.heap.size ≤ gb532)); replace HB := Aside0.mk (below_step bb0 hb); clear hb hbox hg; obtain ⟨hcz22_0, hcz22_1, hcz22_2, hcz22_3, hcz22_4, hcz22_5, hcz22_6⟩ := cells7 BK532.out; obtain ⟨hfz22_0, hfz22_1, hfz22_2, hfz22_3, hfz22_4, hfz22_5, hfz22_6⟩ := frz7 BK532.out) | ((with_reducible refine gate_dst (N := 7) rfl ?_); refine box_event ?hg (N := 7) ?hd (cs := #[.int .i64 0, .int .i64 0]) (t := 32) ?hr ?_; (case hd => rfl); (case hg => rfl); (case hr => first | (go_simp; done) | (go_simp; rfl)); intro gb533 hg w23 hbox hb; replace HO_3 := Aside0.mk (Kd.R_below (by refine ra0 ?_; exact (Kd.R_mono (Kd.R_far (p := ⟨gb532, 6, none⟩) (Kd.R_far (p := ⟨gb532, 5, none⟩) (Kd.R_far (p := ⟨gb532, 4, none⟩) (Kd.R_far (p := ⟨gb532, 3, none⟩) (Kd.R_far (p := ⟨gb532, 2, none⟩) (Kd.R_far (p := ⟨gb532, 1, none⟩) (Kd.R_far (p := ⟨gb532, 0, none⟩) (Kd.R_types HO_3.out BK532.out (by decide)) (fun _ hk => hk.2) (.int .i64 ((rd_T48 l0 x12_1).f0))) (fun _ hk => hk.2) (.int .i64 ((rd_T48 l0 x12_1).f1))) (fun _ hk => hk.2) (.int .i64 ((rd_T48 l0 x12_1).f2))) (fun _ hk => hk.2) (.int .i64 ((rd_T48 l0 x12_1).f3))) (fun _ hk => hk.2) (.int .i64 ((rd_T48 l0 x12_1).f4))) (fun _ hk => hk.2) (.string ((rd_T48 l0 x12_1).f5))) (fun _ hk => hk.2) (.string ((rd_T48 l0 x12_1).f6))) (fun _ h_ => h_.1))) hb); replace HO_4 := Aside0.mk (Kd.R_below (Kd.R_elderB (by refine ra0 ?_; exact (Kd.R_mono (Kd.R_far (p := ⟨gb532, 6, none⟩) (Kd.R_far (p := ⟨gb532, 5, none⟩) (Kd.R_far (p := ⟨gb532, 4, none⟩) (Kd.R_far (p := ⟨gb532, 3, none⟩) (Kd.R_far (p := ⟨gb532, 2, none⟩) (Kd.R_far (p := ⟨gb532, 1, none⟩) (Kd.R_far (p := ⟨gb532, 0, none⟩) (Kd.R_types HO_4.out BK532.out (by decide)) (fun _ hk => hk.2) (.int .i64 ((rd_T48 l0 x12_1).f0))) (fun _ hk => hk.2) (.int .i64 ((rd_T48 l0 x12_1).f1))) (fun _ hk => hk.2) (.int .i64 ((rd_T48 l0 x12_1).f2))) (fun _ hk => hk.2) (.int .i64 ((rd_T48 l0 x12_1).f3))) (fun _ hk => hk.2) (.int .i64 ((rd_T48 l0 x12_1).f4))) (fun _ hk => hk.2) (.string ((rd_T48 l0 x12_1).f5))) (fun _ hk => hk.2) (.string ((rd_T48 l0 x12_1).f6))) (fun _ h_ => h_.1))) gb533 (Nat.le_of_eq hg.symm)) hb); have BK533 := Aside0.mk (hbox); have GW533 := Aside0.mk ((by rw [hg]; exact (below_size (bb1 GE532.out)) : w.heap.size ≤ gb533)); have GE533 := Aside0.mk ((by rw [hg]; exact (below_size (bb1 GE532.out)) : w.heap.size ≤ gb533)); replace HB := Aside0.mk (below_step (bb1 GE532.out) hb); have NB532_533 := Aside0.mk ((by rw [hg]; exact Nat.ne_of_lt (blk_lt (g := gb532) (bk1 BK532.out)) : gb532 ≠ gb533)); have NB533_532 := Aside0.mk ((by rw [hg]; exact Nat.ne_of_gt (blk_lt (g := gb532) (bk1 BK532.out)) : gb533 ≠ gb532)); replace BK532 := Aside0.mk (blk_below (g := gb532) (bk1 BK532.out) hb); clear hb hbox hg; have hnb24 := NB533_532.out; have hnc24 := NB532_533.out; obtain ⟨hcz25_0, hcz25_1⟩ := cells2 BK533.out; obtain ⟨hfz25_0, hfz25_1⟩ := frz2 BK533.out; obtain ⟨hcz26_0, hcz26_1, hcz26_2, hcz26_3, hcz26_4, hcz26_5, hcz26_6⟩ := cells7 BK532.out; obtain ⟨hfz26_0, hfz26_1, hfz26_2, hfz26_3, hfz26_4, hfz26_5, hfz26_6⟩ := frz7 BK532.out) | ((with_reducible refine gate_builtin (b := .append) (xs := #[(.tmp 27), .tmp 29]) rfl ?_); at_builtin; refine Kd.R_append k32 (w0 := w) w.heap.size rfl (.tmp 27) (.tmp 29) 61 32 (.agg #[(.int .i64 0), (.int .i64 0)]) 16 rfl Tryd.underlying61 info32 rfl (by decide) (by omega) u4 x4_1 (⟨(-1), (-1)⟩ : S32) [.int .i64 (-1), .int .i64 (-1)] (fun k_ => k_ ≠ gb533) (fun _ => False) rfl (by first | (go_simp; done) | (go_simp; rfl)) ?aP (fun _ hk => hk.elim) ?aF ?aO ?aB ?aS ?aL ?_; (case aP => exact k32_mkM _ _ _ (⟨(-1), (-1)⟩ : S32)); (case aB => exact (bb2 GE532.out GE533.out)); (case aF => exact (fun k_ hk => Kd.freshB (g := gb533) (bk1 BK533.out) k_ hk)); (case aO => exact (by (try simp only [setCell_drewN]); refine ra0 ?_; exact Kd.R_mono (Kd.R_far (p := ⟨gb533, 1, none⟩) (Kd.R_far (p := ⟨gb533, 0, none⟩) (Kd.R_mono HO_4.out (fun k_ hk => (⟨hk, hk.2⟩ : _ ∧ k_ ≠ gb533))) (fun _ hk => hk.2) (.int .i64 (-1))) (fun _ hk => hk.2) (.int .i64 (-1))) (fun _ hk => hk.1.2))); (case aS => exact (below_size (bb2 GE532.out GE533.out))); (case aL => have := LMc20.out; omega); intro v540 w27 ho hb hg hat; rw [← Ny539.out] at ho; have n0_ := Aside0.mk (Kd.R_over' (by refine ra0 ?_; exact (Kd.R_mono (Kd.R_far (p := ⟨gb533, 1, none⟩) (Kd.R_far (p := ⟨gb533, 0, none⟩) (Kd.R_types HO_3.out BK533.out (by decide)) (fun _ hk => hk.2) (.int .i64 (-1))) (fun _ hk => hk.2) (.int .i64 (-1))) (fun _ h_ => h_.1))) (Kd.R_typed (by refine ra0 ?_; exact (Kd.R_mono (Kd.R_far (p := ⟨gb533, 1, none⟩) (Kd.R_far (p := ⟨gb533, 0, none⟩) (Kd.R_mono HO_4.out (fun k_ hk => (⟨hk, hk.2⟩ : _ ∧ k_ ≠ gb533))) (fun _ hk => hk.2) (.int .i64 (-1))) (fun _ hk => hk.2) (.int .i64 (-1))) (fun _ h_ => h_.1)))) (by decide) hg); have n1_ := Aside0.mk (blk_grown (g := gb532) (bf1 NB532_533.out BK532.out) hg (Kd.R_ne HO_4.out BK532.out (by decide))); have n2_ := Aside0.mk (blk_grown (g := gb533) (bk1 BK533.out) hg (Kd.R_away HO_4.out (fun _ hk => hk.2))); have n3_ := Aside0.mk (hb); have n4_ := Aside0.mk (ho); clear HO_3; clear BK532; clear BK533; clear HB; clear HO_4; have HO_3 := n0_; have BK532 := n1_; have BK533 := n2_; have HB := n3_; have HO541 := n4_; clear n0_ n1_ n2_ n3_ n4_; clear ho hb hg hat))
        go_roundg k1
        case measure => have := HK1.out; omega
        case rel => exact ⟨(y539), (wrap64 (x12_1 + 1)), rs0, H', ⟨by have := HK1.out; omega⟩, ⟨by refine ra0 ?_; exact HO_3.out⟩, ⟨by refine ra0 ?_; exact Kd.R_mono HO541.out (fun _ hk => trivial)⟩, ⟨bb2 GE532.out GE533.out⟩⟩
       ·rw [if_neg c20] at H
        exact absurd H (by simp)
     ·rw [if_neg c6] at H
      exact absurd H (by simp)
    ·rw [if_neg c5] at H
     exact absurd H (by simp)
   ·rw [if_neg c4] at H
    have c4b0 := decide_eq_false c4
    clear c4
    obtain rfl := Option.some.inj H
    go_wp2
    go_ret
    exact ⟨_, er0, by refine ra0 ?_; exact HO_4.out, bb0⟩

/-! ### impl_DropLets: function 23 -/
def impl_DropLets.f (k : Nat) (l0 : List (S48)) : Option ((List (S48))) := (impl_NodesOk.f k l0).bind fun t542 => (if t542 = true then ((impl_binders.f k l0).bind fun t543 => ((impl_dropTree.f k l0 t543 (wrap64 ((l0.length : Int) - 1))).bind fun bt546 => ((impl_flat.f k ([] : List (S48)) bt546.1 bt546.2.1 bt546.2.2.1 bt546.2.2.2.1 bt546.2.2.2.2.1 bt546.2.2.2.2.2.1 bt546.2.2.2.2.2.2.1 bt546.2.2.2.2.2.2.2).bind fun t556 => (some t556)))) else (some ([] : List (S48))))
theorem impl_DropLets.mono : ∀ a0 k, LeO (impl_DropLets.f k a0) (impl_DropLets.f (k + 1) a0) := by
 intro a0 k
 unfold impl_DropLets.f
 repeat' first
   | (with_reducible exact impl_NodesOk.mono _ _)
   | (with_reducible exact impl_binders.mono _ _)
   | (with_reducible exact impl_dropTree.mono _ _ _ _)
   | (with_reducible exact impl_flat.mono _ _ _ _ _ _ _ _ _ _)
   | (with_reducible exact LeO.refl _)
   | (with_reducible exact LeO.none _)
   | (with_reducible refine LeO.ite ?_ ?_)
   | (with_reducible refine LeO.bind ?_ (fun _ => ?_))
   | exact impl_NodesOk.mono _ _
   | exact impl_binders.mono _ _
   | exact impl_dropTree.mono _ _ _ _
   | exact impl_flat.mono _ _ _ _ _ _ _ _ _ _
   | exact LeO.none _
   | refine LeO.ite ?_ ?_
   | refine LeO.bind ?_ (fun _ => ?_)
set_option maxHeartbeats 8000000 in
set_option maxRecDepth 100000 in
theorem impl_DropLets.calls (k : Nat) (A0 : Option Addr) (c0 : Nat) (l0 : List (S48)) (r : List (S48)) (w : World) (hr0 : Kd.C k48 w A0 l0.length l0) (hc0 : l0.length ≤ c0) (h : impl_DropLets.f k l0 = some r) :
  Calls Tryd.prog 23 #[.slice A0 l0.length c0] w fun e w' => ∃ v0_ : Value, e = .returned (v0_) ∧ Kd.R k48 48 w' w.heap.size (fun _ => True) v0_ r ∧ Below w.heap.size w w' := by
 have HR0 := Aside0.mk hr0
 have HC0 := Aside0.mk hc0
 clear hr0 hc0
 have HB := Aside0.mk (Below.refl w.heap.size w)
 have H := h; unfold impl_DropLets.f at H
 clear h
 obtain ⟨t542, A2, H⟩ := bx H
 by_cases c3 : t542 = true
 subst c3
 rw [if_pos rfl] at H
 obtain ⟨t543, A4, H⟩ := bx H
 obtain ⟨⟨t546, t547, t548, t549, t550, t551, t552, t553⟩, A5, H⟩ := bx H; dsimp only at H
 obtain ⟨t556, A6, H⟩ := bx H
 obtain rfl := Option.some.inj H
 rotate_left
 replace c3 := Bool.eq_false_iff.mpr c3
 subst c3
 rw [if_neg (show ¬ (false = true) by decide)] at H
 obtain rfl := Option.some.inj H
 rotate_left
 all_goals (go_enter Tryd.func23, Tryd.ntmps23; go_wp2_with (first | ((with_reducible refine gate_callee (f := 29) rfl ?_); refine goesL_ (some 4) rfl rfl Tryd.func29 (by kernel_rfl) rfl #[.slice A0 l0.length c0] rfl mm0 ?_; (with_reducible refine (impl_NodesOk.calls k _ _ l0 true _ ?side1 ?side2 A2.out).mono ?_); (case side1 => repeat (first | exact HR0.out | (with_reducible refine Kd.C_alloc ?_ _) | (with_reducible refine Kd.C_drewN ?_ _) | (with_reducible refine Kd.C_drew ?_))); (case side2 => exact HC0.out); rintro e wz1 ⟨rfl, hb⟩; refine ⟨_, rfl, ?_⟩; replace HB := Aside0.mk (below_step bb0 hb); clear hb) | ((with_reducible refine gate_callee (f := 41) rfl ?_); refine goesL_ (some 8) rfl rfl Tryd.func41 (by kernel_rfl) rfl #[.slice A0 l0.length c0] rfl mm0 ?_; (with_reducible refine (impl_binders.calls k _ _ l0 t543 _ ?side1 ?side2 A4.out).mono ?_); (case side1 => exact cc0 (Kd.C_below HR0.out HB.out)); (case side2 => exact HC0.out); rintro e wz2 ⟨vz1, rfl, hoz1, hb⟩; refine ⟨_, rfl, ?_⟩; have HOz1 := Aside0.mk (Kd.R_lower hoz1 (below_size bb0)); replace HB := Aside0.mk (below_step bb0 hb); clear hb hoz1; obtain ⟨Aoz1, coz1, eoz1⟩ := Kd.R_slice HOz1.out; subst eoz1) | ((with_reducible refine gate_callee (f := 40) rfl ?_); refine goesL_ (some 12) rfl rfl Tryd.func40 (by kernel_rfl) rfl #[.slice A0 l0.length c0, .slice Aoz1 t543.length coz1, .int .i64 (wrap64 ((l0.length : Int) - 1))] rfl mm0 ?_; (with_reducible refine (impl_dropTree.calls k _ _ l0 _ _ t543 (wrap64 ((l0.length : Int) - 1)) t546 t547 t548 t549 t550 t551 t552 t553 _ ?side1 ?side2 ?side3 ?side4 A5.out).mono ?_); (case side1 => exact cc0 (Kd.C_below HR0.out HB.out)); (case side2 => exact HC0.out); (case side3 => exact cc0 (Kd.R_reads' HOz1.out).2.2); (case side4 => exact (Kd.R_reads' HOz1.out).2.1); rintro e wz3 ⟨vz2, rfl, hoz1, hb⟩; refine ⟨_, rfl, ?_⟩; replace HOz1 := Aside0.mk (Kd.R_below (ra0 HOz1.out) hb); have HOz2 := Aside0.mk (Kd.R_lower hoz1 (below_size bb0)); replace HB := Aside0.mk (below_step bb0 hb); clear hb hoz1; obtain ⟨Aoz2, coz2, eoz2⟩ := Kd.R_slice HOz2.out; subst eoz2) | ((with_reducible refine gate_callee (f := 36) rfl ?_); refine goesL_ (some 13) rfl rfl Tryd.func36 (by kernel_rfl) rfl #[.slice none 0 0, .agg #[.int .i64 t546, .int .i64 t547, .int .i64 t548, .int .i64 t549, .int .i64 t550, .string t551, .string t552, .slice Aoz2 t553.length coz2]] rfl mm0 ?_; (refine (impl_flat.calls k (fun k_ => some k_ = (.slice none 0 0 : Value).ownBlock) (.slice none 0 0) ([] : List (S48)) t546 t547 t548 t549 t550 t551 t552 _ _ t553 t556 w _ ?side1 ?side2 ?side3 ?side4 A6.out).mono ?_); (case side1 => repeat (first | (with_reducible first | exact HB.out | apply below_alloc | apply pw_below_drewN | apply below_drew1) | exact HB.out)); (case side2 => exact Kd.R_nil _ _ _ _ _); (case side3 => exact Kd.C_kept_own (HOz2.out) (fun k_ hk_ hs_ => (fun e_ => by simp [Value.ownBlock] at e_) hs_)); (case side4 => exact (Kd.R_reads' HOz2.out).2.1); rintro e wz4 ⟨vz3, rfl, hoz1, hb, hkp⟩; refine ⟨_, rfl, ?_⟩; replace HOz1 := Aside0.mk (Kd.R_mono (ok' := fun k_ => True) (Kd.R_keptB (HOz1.out) hkp (fun k_ hk_ hs_ => (fun e_ => by simp [Value.ownBlock] at e_) hs_)) (fun k_ hk_ => trivial)); replace HOz2 := Aside0.mk (Kd.R_mono (ok' := fun k_ => True) (Kd.R_keptB (HOz2.out) hkp (fun k_ hk_ hs_ => (fun e_ => by simp [Value.ownBlock] at e_) hs_)) (fun k_ hk_ => trivial)); have HOz3 := Aside0.mk (Kd.R_mono (ok' := fun k_ => True) hoz1 (fun k_ hk_ => trivial)); replace HB := Aside0.mk (hb); clear hb hkp hoz1) | ((with_reducible refine gate_callee (f := 29) rfl ?_); refine goesL_ (some 4) rfl rfl Tryd.func29 (by kernel_rfl) rfl #[.slice A0 l0.length c0] rfl mm0 ?_; (with_reducible refine (impl_NodesOk.calls k _ _ l0 false _ ?side1 ?side2 A2.out).mono ?_); (case side1 => repeat (first | exact HR0.out | (with_reducible refine Kd.C_alloc ?_ _) | (with_reducible refine Kd.C_drewN ?_ _) | (with_reducible refine Kd.C_drew ?_))); (case side2 => exact HC0.out); rintro e wz1 ⟨rfl, hb⟩; refine ⟨_, rfl, ?_⟩; replace HB := Aside0.mk (below_step bb0 hb); clear hb)); go_ret; first | exact ⟨_, er0, by refine ra0 ?_; exact HOz3.out, bb0⟩ | exact ⟨_, er0, nil0, bb0⟩)

end Go.Proofs.YtoebebgeiahagaaDoor.PFnExactDropLets
