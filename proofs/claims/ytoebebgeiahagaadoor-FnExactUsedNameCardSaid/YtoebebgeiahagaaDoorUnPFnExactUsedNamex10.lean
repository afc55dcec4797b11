-- Printed by this session's own program (wip/tools)
import Derived.Test.YtoebebgeiahagaaDoorUnPFnExactUsedNamex0
import Derived.Test.YtoebebgeiahagaaDoorUnPFnExactUsedNamex9
import Derived.Shelf.Strings.Split
import Derived.Test.YtoebebgeiahagaaDoorUnSplit
namespace Go.Proofs.YtoebebgeiahagaaDoor.PFnExactUsedName
open Go.RowKit Go.Proofs.YtoebebgeiahagaaDoorW.PrintWords Go.Proofs.YtoebebgeiahagaaDoorW.PrintLast Go.Proofs.YtoebebgeiahagaaDoorW.PrintMore
attribute [local go_sem] max2_int min2_int max_two min_two max_three min_three max_four min_four   -- for this text's walks alone
set_option linter.unusedVariables false
set_option linter.unusedSimpArgs false

/-! ### strings_Split: function 72 -/
def strings_Split.f (a0 : ByteArray) (a1 : ByteArray) : Option (List ByteArray) := if a0.size < 4294967281 ∧ a1.size = 1 then (some (Go.Lib.splitB a1 0 (Go.Lib.countB a0 a1) a0)) else (none)
set_option maxHeartbeats 1000000 in
/-- strings.Split at a separator of one byte: no variable of the library's is read there. After the library's own walk (Any.strings_Split). -/
theorem strings_Split.one {P : Program} {ρ : Go.Shelf.Ren} (L : Lays.n146 P ρ) (hi9 : (P.info? (ρ.t 9)).map (fun i => (i.zero, i.size, i.bytes)) = some (some (.string ByteArray.empty), 1, 16)) (s sep : ByteArray) (w : World)
    (hs : s.size < 4294967281) (h1 : sep.size = 1) :
    Calls P (ρ.f 146) #[.string s, .string sep] w fun e w' =>
      e = .returned (.slice (some ⟨w.heap.size, 0, none⟩) (Go.Lib.countB s sep + 1) (Go.Lib.countB s sep + 1)) ∧ w' = w.alloc (.cells ((Go.Lib.splitB sep 0 (Go.Lib.countB s sep) s).map Value.string).toArray (ρ.t 9)) := by
  have h1' : 1 ≤ sep.size := by omega
  have hle := Go.Lib.countB_le sep h1' s.size s (Nat.le_refl _)
  have hlen := Go.Lib.splitB_all sep h1' 0 _ s rfl
  have hI : ∀ (x : ByteArray) (c : Array Value), x.size ≤ s.size → Calls P (ρ.f 143) #[.string x, .string sep] (w.alloc (.cells c (ρ.t 9))) fun e w' => e = .returned (.int .i64 (Go.Lib.indexB x sep)) ∧ w' = w.alloc (.cells c (ρ.t 9)) := by
    intro x c _
    obtain ⟨b, rfl⟩ := Go.Lib.one_byte sep h1
    refine (Any.strings_Index_one { L with } x b _).mono fun e w' ⟨he, hw⟩ => ⟨?_, hw⟩
    rw [he]
    show _ = Ending.returned (Value.int .i64 (Go.Lib.index x.data.toList [b]))
    rw [Go.Lib.index_one]
  have hC : Calls P (ρ.f 138) #[.string s, .string sep] w fun e w' => e = .returned (.int .i64 (Go.Lib.countB s sep)) ∧ w' = w := by
    obtain ⟨b, rfl⟩ := Go.Lib.one_byte sep h1
    refine (Any.strings_Count_one { L with } s b w).mono fun e w' ⟨he, hw⟩ => ⟨?_, hw⟩
    rw [he]
    show _ = Ending.returned (Value.int .i64 ((Go.Lib.count s.data.toList [b] : Nat) : Int))
    rw [Go.Lib.count_one]
    rfl
  have c := Any.strings_genSplit_core { L with } hi9 s sep 0 (-1) (Go.Lib.countB s sep + 1) w hs h1' (Nat.zero_le _) hI hC (by decide) (by decide) (by rw [if_pos (by decide)]; omega)
  rw [Nat.add_sub_cancel, hlen] at c
  have e2 : Go.Lib.cellsOf (Go.Lib.splitB sep 0 (Go.Lib.countB s sep) s) (Go.Lib.countB s sep + 1) = ((Go.Lib.splitB sep 0 (Go.Lib.countB s sep) s).map Value.string).toArray := by rw [← hlen]; exact Go.Lib.cellsOf_full _
  rw [e2] at c
  have t3 := L.t3; have t9 := L.t9; have t31 := L.t31
  have a3 := L.a3; have a9 := L.a9; have a31 := L.a31
  have z3 := L.z3; have v3 := L.v3; have z9 := L.z9; have v9 := L.v9; have z31 := L.z31; have v31 := L.v31
  have e221 : ∀ args w, (callFunc (ρ.f 221) args).run P w = .ok (.enter (ρ.f 221) args) w := enters_of L.f221 (by kernel_rfl) rfl
  go_enter L.f146, Body.n146_ntmps ρ
  go_wp2_with (go_at_fn (ρ.f 221); refine c.mono ?_; rintro e w' ⟨rfl, hw⟩; rw [hw])
  go_ret
  exact ⟨rfl, rfl⟩
theorem strings_Split.calls (a0 : ByteArray) (a1 : ByteArray) (r : List ByteArray) (w : World) (h : strings_Split.f a0 a1 = some r) :
    Calls Tryd.prog 72 #[.string a0, .string a1] w fun e w' => ∃ v0_ : Value, e = .returned (v0_) ∧ Kd.R Kd.string 9 w' w.heap.size (fun _ => True) v0_ r ∧ Below w.heap.size w w' := by
  unfold strings_Split.f at h
  by_cases hc : a0.size < 4294967281 ∧ a1.size = 1
  · rw [if_pos hc] at h
    obtain rfl := Option.some.inj h
    have hlen := Go.Lib.splitB_all a1 (by omega) 0 _ a0 rfl
    have hS : Calls Tryd.prog 72 #[.string a0, .string a1] w fun e w' =>
      e = .returned (.slice (some ⟨w.heap.size, 0, none⟩) (Go.Lib.countB a0 a1 + 1) (Go.Lib.countB a0 a1 + 1)) ∧ w' = w.alloc (.cells ((Go.Lib.splitB a1 0 (Go.Lib.countB a0 a1) a0).map Value.string).toArray 9) := strings_Split.one Tryd.lays146 (by kernel_rfl) a0 a1 w hc.1 hc.2
    refine hS.mono ?_
    rintro e w' ⟨rfl, rfl⟩
    have hn : (Go.Lib.splitB a1 0 (Go.Lib.countB a0 a1) a0).length = Go.Lib.countB a0 a1 + 1 := hlen
    have hle := Go.Lib.countB_le a1 (by omega) a0.size a0 (Nat.le_refl _)
    refine ⟨_, rfl, Kd.R_of_own ⟨by simp [encs], .inr ⟨w.heap.size, _, _, ?_, Nat.le_refl _, by simpa using heap_alloc_new w _, Nat.le_refl _, by rw [hn]; unfold maxLen; omega, ?_, ?_⟩⟩ (fun _ _ => trivial), below_alloc (Below.refl _ _) _⟩
    · rw [hn]
    · simp
    · simp only [encs, List.size_toArray, Nat.mul_one]; exact List.take_of_length_le (by rw [List.length_map]; exact Nat.le_refl _)
  · rw [if_neg hc] at h; cases h

/-! ### impl_IsKey: function 69 -/
def impl_IsKey.l0 : Nat → ByteArray → List ByteArray → Int → Int → Option (Bool)
  | 0, _, _, _, _ => none
  | k + 1, x0, x5, x6, x7 => if x7 < x6 then (if 0 ≤ x7 then (if x7 < (x5.length : Int) then (if (rdOf ByteArray.empty x5 x7).toList = x0.toList then (some true) else (impl_IsKey.l0 k x0 x5 x6 (wrap64 (x7 + 1)))) else (none)) else (none)) else (some false)
def impl_IsKey.f (k : Nat) (a0 : ByteArray) : Option (Bool) := (strings_Split.f (⟨#[102, 117, 110, 32, 97, 112, 112, 32, 108, 101, 116, 32, 114, 101, 99, 32, 105, 102, 32, 97, 100, 100, 32, 115, 117, 98, 32, 108, 101, 115, 115, 32, 115, 97, 109, 101, 32, 112, 97, 105, 114, 32, 102, 115, 116, 32, 115, 110, 100, 32, 110, 105, 108, 32, 99, 111, 110, 115, 32, 109, 97, 116, 99, 104, 32, 114, 101, 102, 32, 103, 101, 116, 32, 115, 101, 116, 32, 114, 97, 105, 115, 101, 32, 116, 114, 121]⟩ : ByteArray) (⟨#[32]⟩ : ByteArray)).bind fun t275 => (impl_IsKey.l0 k a0 t275 (t275.length : Int) 0)
theorem impl_IsKey.mono_l : ∀ k, (∀ y0 y1 y2 y3, LeO (impl_IsKey.l0 k y0 y1 y2 y3) (impl_IsKey.l0 (k + 1) y0 y1 y2 y3))
  | 0 => fun _ _ _ _ r h => by simp [impl_IsKey.l0] at h
  | k + 1 => by
    have ih0 := impl_IsKey.mono_l k
    · intro y0 y1 y2 y3
      unfold impl_IsKey.l0
      repeat' first
      | (with_reducible exact ih0 _ _ _ _)
      | (with_reducible exact LeO.refl _)
      | (with_reducible exact LeO.none _)
      | (with_reducible refine LeO.ite ?_ ?_)
      | (with_reducible refine LeO.bind ?_ (fun _ => ?_))
      | exact ih0 _ _ _ _
      | exact LeO.none _
      | refine LeO.ite ?_ ?_
      | refine LeO.bind ?_ (fun _ => ?_)
theorem impl_IsKey.mono : ∀ a0 k, LeO (impl_IsKey.f k a0) (impl_IsKey.f (k + 1) a0) := by
  intro a0 k
  have ih0 := impl_IsKey.mono_l k
  unfold impl_IsKey.f
  repeat' first
      | (with_reducible exact ih0 _ _ _ _)
      | (with_reducible exact LeO.refl _)
      | (with_reducible exact LeO.none _)
      | (with_reducible refine LeO.ite ?_ ?_)
      | (with_reducible refine LeO.bind ?_ (fun _ => ?_))
      | exact ih0 _ _ _ _
      | exact LeO.none _
      | refine LeO.ite ?_ ?_
      | refine LeO.bind ?_ (fun _ => ?_)
set_option maxHeartbeats 8000000 in
set_option maxRecDepth 100000 in
theorem impl_IsKey.calls (k : Nat) (a0 : ByteArray) (r : Bool) (w : World) (h : impl_IsKey.f k a0 = some r) :
    Calls Tryd.prog 69 #[.string a0] w fun e w' => e = .returned (.bool r) ∧ Below w.heap.size w w' := by
  have HB := Aside0.mk (Below.refl w.heap.size w)
  have H : ((strings_Split.f (⟨#[102, 117, 110, 32, 97, 112, 112, 32, 108, 101, 116, 32, 114, 101, 99, 32, 105, 102, 32, 97, 100, 100, 32, 115, 117, 98, 32, 108, 101, 115, 115, 32, 115, 97, 109, 101, 32, 112, 97, 105, 114, 32, 102, 115, 116, 32, 115, 110, 100, 32, 110, 105, 108, 32, 99, 111, 110, 115, 32, 109, 97, 116, 99, 104, 32, 114, 101, 102, 32, 103, 101, 116, 32, 115, 101, 116, 32, 114, 97, 105, 115, 101, 32, 116, 114, 121]⟩ : ByteArray) (⟨#[32]⟩ : ByteArray)).bind fun t275 => (impl_IsKey.l0 k a0 t275 (t275.length : Int) 0)) = some r := h
  clear h
  replace H := Option.bind_eq_some_iff.mp H
  obtain ⟨t275, A20, H⟩ := H
  replace H : (impl_IsKey.l0 k a0 t275 (t275.length : Int) 0) = some r := H
  have A2 := Aside0.mk A20
  clear A20
  have H' := Aside0.mk H
  clear H
  go_enter Tryd.func69, Tryd.ntmps69
  go_wp2_with (first | ((with_reducible refine gate_callee (f := 72) rfl ?_); refine goesL_ (some 5) rfl rfl Tryd.func72 (by kernel_rfl) rfl #[.string (⟨#[102, 117, 110, 32, 97, 112, 112, 32, 108, 101, 116, 32, 114, 101, 99, 32, 105, 102, 32, 97, 100, 100, 32, 115, 117, 98, 32, 108, 101, 115, 115, 32, 115, 97, 109, 101, 32, 112, 97, 105, 114, 32, 102, 115, 116, 32, 115, 110, 100, 32, 110, 105, 108, 32, 99, 111, 110, 115, 32, 109, 97, 116, 99, 104, 32, 114, 101, 102, 32, 103, 101, 116, 32, 115, 101, 116, 32, 114, 97, 105, 115, 101, 32, 116, 114, 121]⟩ : ByteArray), .string (⟨#[32]⟩ : ByteArray)] rfl mm0 ?_; (with_reducible refine (strings_Split.calls (⟨#[102, 117, 110, 32, 97, 112, 112, 32, 108, 101, 116, 32, 114, 101, 99, 32, 105, 102, 32, 97, 100, 100, 32, 115, 117, 98, 32, 108, 101, 115, 115, 32, 115, 97, 109, 101, 32, 112, 97, 105, 114, 32, 102, 115, 116, 32, 115, 110, 100, 32, 110, 105, 108, 32, 99, 111, 110, 115, 32, 109, 97, 116, 99, 104, 32, 114, 101, 102, 32, 103, 101, 116, 32, 115, 101, 116, 32, 114, 97, 105, 115, 101, 32, 116, 114, 121]⟩ : ByteArray) (⟨#[32]⟩ : ByteArray) t275 _ A2.out).mono ?_); rintro e w3 ⟨v276, rfl, ho0, hb⟩; refine ⟨_, rfl, ?_⟩; have n0_ := Aside0.mk (Kd.R_lower ho0 (below_size bb0)); have n1_ := Aside0.mk (below_step bb0 hb); clear HB; have HO277 := n0_; have HB := n1_; clear n0_ n1_; (try clear hb); (try clear hb2); (try clear hk); (try clear hi); (try clear ho0); obtain ⟨Ao4, co4, eo4⟩ := Kd.R_slice HO277.out; subst eo4))
  go_loopg [7] k (fun kq v7 w' => ∃ (x7_1 : Int), v7 = .int .i64 x7_1 ∧ Aside0 (impl_IsKey.l0 kq a0 t275 (t275.length : Int) x7_1 = some r) ∧ Aside0 (kq ≤ k) ∧ Aside0 (Kd.R Kd.string 9 w' w.heap.size (fun _ => True) (.slice Ao4 t275.length co4) t275) ∧ Aside0 (Below w.heap.size w w'))
  case atStart => exact ⟨(0), rs0, H', ⟨Nat.le_refl _⟩, ⟨by (with_reducible repeat (first | apply Kd.R_alloc | apply Kd.R_drewN | apply Kd.R_drew)); exact HO277.out⟩, ⟨by repeat (first | (with_reducible first | exact HB.out | apply below_alloc | apply pw_below_drewN | apply below_drew1) | exact HB.out)⟩⟩
  case round =>
    clear H'
    try clear p2
    obtain ⟨x7_1, rfl, HA, HK1, HO_5, HB⟩ := hrel
    cases gk with
    | zero => exact absurd HA.out (by simp [impl_IsKey.l0])
    | succ k1 =>
      have H := HA.out
      clear HA
      simp only [impl_IsKey.l0] at H
      by_cases c5 : x7_1 < (t275.length : Int)
      · rw [if_pos c5] at H
        have c5b0 : decide (x7_1 < (t275.length : Int)) = true := decide_eq_true c5
        clear c5
        by_cases c6 : 0 ≤ x7_1
        · rw [if_pos c6] at H
          have c6b0 : decide (0 ≤ x7_1) = true := decide_eq_true c6
          clear c6
          by_cases c7 : x7_1 < (t275.length : Int)
          · rw [if_pos c7] at H
            have c7b0 : decide (x7_1 < (t275.length : Int)) = true := decide_eq_true c7
            clear c7
            by_cases c8 : (rdOf ByteArray.empty t275 x7_1).toList = a0.toList
            · rw [if_pos c8] at H
              have c8b0 : ((rdOf ByteArray.empty t275 x7_1).toList == a0.toList) = true := beq_iff_eq.mpr c8
              have c8b1 : ((rdOf ByteArray.empty t275 x7_1).toList != a0.toList) = false := bne_eq_false_iff_eq.mpr c8
              clear c8
              obtain rfl := Option.some.inj H
              have p278 : 0 ≤ (x7_1 : Int) := of_decide_eq_true as0
              have q278 : x7_1 < (t275.length : Int) := of_decide_eq_true as0
              obtain ⟨ad278, e278, hx278_0⟩ := Kd.at_string (Kd.R_reads' HO_5.out).2.2 x7_1 p278 q278
              cases e278
              replace p278 := eq_true p278
              replace q278 := eq_true q278
              go_wp2
              go_ret
              exact ⟨by first | rfl | (simp [errW_none, errW_some] <;> rfl) | (simp [*, errW_none, errW_some] <;> rfl), by repeat (first | (with_reducible first | exact HB.out | apply below_alloc | apply pw_below_drewN | apply below_drew1) | exact HB.out)⟩
            · rw [if_neg c8] at H
              have c8b0 : ((rdOf ByteArray.empty t275 x7_1).toList == a0.toList) = false := beq_eq_false_iff_ne.mpr c8
              have c8b1 : ((rdOf ByteArray.empty t275 x7_1).toList != a0.toList) = true := bne_iff_ne.mpr c8
              have H' := Aside0.mk H
              clear H
              have p278 : 0 ≤ (x7_1 : Int) := of_decide_eq_true as0
              have q278 : x7_1 < (t275.length : Int) := of_decide_eq_true as0
              obtain ⟨ad278, e278, hx278_0⟩ := Kd.at_string (Kd.R_reads' HO_5.out).2.2 x7_1 p278 q278
              cases e278
              replace p278 := eq_true p278
              replace q278 := eq_true q278
              go_wp2
              go_roundg k1
              case measure => have := HK1.out; omega
              case rel => exact ⟨(wrap64 (x7_1 + 1)), rs0, H', ⟨by have := HK1.out; omega⟩, ⟨by (with_reducible repeat (first | apply Kd.R_alloc | apply Kd.R_drewN | apply Kd.R_drew)); exact HO_5.out⟩, ⟨by repeat (first | (with_reducible first | exact HB.out | apply below_alloc | apply pw_below_drewN | apply below_drew1) | exact HB.out)⟩⟩
          · rw [if_neg c7] at H
            exact absurd H (by simp)
        · rw [if_neg c6] at H
          exact absurd H (by simp)
      · rw [if_neg c5] at H
        have c5b0 : decide (x7_1 < (t275.length : Int)) = false := decide_eq_false c5
        clear c5
        obtain rfl := Option.some.inj H
        go_wp2
        go_ret
        exact ⟨by first | rfl | (simp [errW_none, errW_some] <;> rfl) | (simp [*, errW_none, errW_some] <;> rfl), by repeat (first | (with_reducible first | exact HB.out | apply below_alloc | apply pw_below_drewN | apply below_drew1) | exact HB.out)⟩

/-! ### impl_isName: function 65 -/
def impl_isName.f (k : Nat) (a0 : ByteArray) : Option (Bool) := (impl_IsWord.f k a0).bind fun t279 => (if t279 = true then ((impl_IsKey.f k a0).bind fun t280 => (some (!t280))) else (some false))
theorem impl_isName.mono : ∀ a0 k, LeO (impl_isName.f k a0) (impl_isName.f (k + 1) a0) := by
  intro a0 k
  unfold impl_isName.f
  repeat' first
      | (with_reducible exact impl_IsKey.mono _ _)
      | (with_reducible exact impl_IsWord.mono _ _)
      | (with_reducible exact LeO.refl _)
      | (with_reducible exact LeO.none _)
      | (with_reducible refine LeO.ite ?_ ?_)
      | (with_reducible refine LeO.bind ?_ (fun _ => ?_))
      | exact impl_IsKey.mono _ _
      | exact impl_IsWord.mono _ _
      | exact LeO.none _
      | refine LeO.ite ?_ ?_
      | refine LeO.bind ?_ (fun _ => ?_)
set_option maxHeartbeats 8000000 in
set_option maxRecDepth 100000 in
theorem impl_isName.calls (k : Nat) (a0 : ByteArray) (r : Bool) (w : World) (h : impl_isName.f k a0 = some r) :
    Calls Tryd.prog 65 #[.string a0] w fun e w' => e = .returned (.bool r) ∧ Below w.heap.size w w' := by
  have HB := Aside0.mk (Below.refl w.heap.size w)
  have H : ((impl_IsWord.f k a0).bind fun t279 => (if t279 = true then ((impl_IsKey.f k a0).bind fun t280 => (some (!t280))) else (some false))) = some r := h
  clear h
  replace H := Option.bind_eq_some_iff.mp H
  obtain ⟨t279, A20, H⟩ := H
  replace H : (if t279 = true then ((impl_IsKey.f k a0).bind fun t280 => (some (!t280))) else (some false)) = some r := H
  have A2 := Aside0.mk A20
  clear A20
  by_cases c3 : t279 = true
  · subst c3
    have H1 : ((impl_IsKey.f k a0).bind fun t280 => (some (!t280))) = some r := by rw [if_pos rfl] at H; exact H
    clear H
    have H := H1
    clear H1
    replace H := Option.bind_eq_some_iff.mp H
    obtain ⟨t280, A40, H⟩ := H
    replace H : (some (!t280)) = some r := H
    have A4 := Aside0.mk A40
    clear A40
    obtain rfl := Option.some.inj H
    go_enter Tryd.func65, Tryd.ntmps65
    go_wp2_with (first | ((with_reducible refine gate_callee (f := 68) rfl ?_); refine goesL_ (some 4) rfl rfl Tryd.func68 (by kernel_rfl) rfl #[.string a0] rfl mm0 ?_; (with_reducible refine (impl_IsWord.calls k a0 true _ A2.out).mono ?_); rintro e w' ⟨rfl, ⟨nd, rfl⟩⟩; refine ⟨_, rfl, ?_⟩) | (go_at_call 69; (with_reducible refine (impl_IsKey.calls k a0 t280 _ A4.out).mono ?_); rintro e w5 ⟨rfl, hb⟩; have n0_ := Aside0.mk (below_step bb0 hb); clear HB; have HB := n0_; clear n0_; (try clear hb); (try clear hb2); (try clear hk); (try clear hi)))
    go_ret
    exact ⟨by first | rfl | (simp [errW_none, errW_some] <;> rfl) | (simp [*, errW_none, errW_some] <;> rfl), by repeat (first | (with_reducible first | exact HB.out | apply below_alloc | apply pw_below_drewN | apply below_drew1) | exact HB.out)⟩
  · replace c3 := Bool.eq_false_iff.mpr c3
    subst c3
    have H1 : (some false) = some r := by rw [if_neg (show ¬ (false = true) by decide)] at H; exact H
    clear H
    have H := H1
    clear H1
    obtain rfl := Option.some.inj H
    go_enter Tryd.func65, Tryd.ntmps65
    go_wp2_with (first | ((with_reducible refine gate_callee (f := 68) rfl ?_); refine goesL_ (some 4) rfl rfl Tryd.func68 (by kernel_rfl) rfl #[.string a0] rfl mm0 ?_; (with_reducible refine (impl_IsWord.calls k a0 false _ A2.out).mono ?_); rintro e w' ⟨rfl, ⟨nd, rfl⟩⟩; refine ⟨_, rfl, ?_⟩))
    go_ret
    exact ⟨by first | rfl | (simp [errW_none, errW_some] <;> rfl) | (simp [*, errW_none, errW_some] <;> rfl), by repeat (first | (with_reducible first | exact HB.out | apply below_alloc | apply pw_below_drewN | apply below_drew1) | exact HB.out)⟩

/-! ### impl_nameFits: function 56 -/
def impl_nameFits.f (k : Nat) (a0 : ByteArray) (a1 : Bool) : Option (Bool) := if a1 = true then ((impl_isName.f k a0).bind fun t281 => (some t281)) else (some (a0.toList == ([] : List UInt8)))
theorem impl_nameFits.mono : ∀ a0 a1 k, LeO (impl_nameFits.f k a0 a1) (impl_nameFits.f (k + 1) a0 a1) := by
  intro a0 a1 k
  unfold impl_nameFits.f
  repeat' first
      | (with_reducible exact impl_isName.mono _ _)
      | (with_reducible exact LeO.refl _)
      | (with_reducible exact LeO.none _)
      | (with_reducible refine LeO.ite ?_ ?_)
      | (with_reducible refine LeO.bind ?_ (fun _ => ?_))
      | exact impl_isName.mono _ _
      | exact LeO.none _
      | refine LeO.ite ?_ ?_
      | refine LeO.bind ?_ (fun _ => ?_)
set_option maxHeartbeats 8000000 in
set_option maxRecDepth 100000 in
theorem impl_nameFits.calls (k : Nat) (a0 : ByteArray) (a1 : Bool) (r : Bool) (w : World) (h : impl_nameFits.f k a0 a1 = some r) :
    Calls Tryd.prog 56 #[.string a0, .bool a1] w fun e w' => e = .returned (.bool r) ∧ Below w.heap.size w w' := by
  have HB := Aside0.mk (Below.refl w.heap.size w)
  have H : (if a1 = true then ((impl_isName.f k a0).bind fun t281 => (some t281)) else (some (a0.toList == ([] : List UInt8)))) = some r := h
  clear h
  by_cases c3 : a1 = true
  · subst c3
    have H1 : ((impl_isName.f k a0).bind fun t281 => (some t281)) = some r := by rw [if_pos rfl] at H; exact H
    clear H
    have H := H1
    clear H1
    replace H := Option.bind_eq_some_iff.mp H
    obtain ⟨t281, A40, H⟩ := H
    replace H : (some t281) = some r := H
    have A4 := Aside0.mk A40
    clear A40
    obtain rfl := Option.some.inj H
    go_enter Tryd.func56, Tryd.ntmps56
    go_wp2_with (first | ((with_reducible refine gate_callee (f := 65) rfl ?_); refine goesL_ (some 7) rfl rfl Tryd.func65 (by kernel_rfl) rfl #[.string a0] rfl mm0 ?_; (with_reducible refine (impl_isName.calls k a0 t281 _ A4.out).mono ?_); rintro e w5 ⟨rfl, hb⟩; refine ⟨_, rfl, ?_⟩; have n0_ := Aside0.mk (below_step bb0 hb); clear HB; have HB := n0_; clear n0_; (try clear hb); (try clear hb2); (try clear hk); (try clear hi)))
    go_ret
    exact ⟨by first | rfl | (simp [errW_none, errW_some] <;> rfl) | (simp [*, errW_none, errW_some] <;> rfl), by repeat (first | (with_reducible first | exact HB.out | apply below_alloc | apply pw_below_drewN | apply below_drew1) | exact HB.out)⟩
  · replace c3 := Bool.eq_false_iff.mpr c3
    subst c3
    have H1 : (some (a0.toList == ([] : List UInt8))) = some r := by rw [if_neg (show ¬ (false = true) by decide)] at H; exact H
    clear H
    have H := H1
    clear H1
    obtain rfl := Option.some.inj H
    go_enter Tryd.func56, Tryd.ntmps56
    go_wp2
    go_ret
    exact ⟨by first | rfl | (simp [errW_none, errW_some] <;> rfl) | (simp [*, errW_none, errW_some] <;> rfl), by repeat (first | (with_reducible first | exact HB.out | apply below_alloc | apply pw_below_drewN | apply below_drew1) | exact HB.out)⟩

/-! ### impl_namesOf: function 57 -/
def impl_namesOf.j0 : Nat → Int → Bool → Option (Int)
  | 0, _, _ => none
  | k + 1, x3, x4 => if x4 = true then (some 1) else (if x3 = 6 then (some 2) else (if x3 = 14 then (some 2) else (some 0)))
def impl_namesOf.f (k : Nat) (a0 : Int) : Option (Int) := if a0 = 1 then (impl_namesOf.j0 k a0 (a0 == 1)) else (if a0 = 3 then (impl_namesOf.j0 k a0 (a0 == 3)) else (if a0 = 5 then (impl_namesOf.j0 k a0 (a0 == 5)) else (impl_namesOf.j0 k a0 (a0 == 19))))
theorem impl_namesOf.mono_l : ∀ k, (∀ y0 y1, LeO (impl_namesOf.j0 k y0 y1) (impl_namesOf.j0 (k + 1) y0 y1))
  | 0 => fun _ _ r h => by simp [impl_namesOf.j0] at h
  | k + 1 => by
    have ih0 := impl_namesOf.mono_l k
    · intro y0 y1
      unfold impl_namesOf.j0
      repeat' first
      | (with_reducible exact ih0 _ _)
      | (with_reducible exact LeO.refl _)
      | (with_reducible exact LeO.none _)
      | (with_reducible refine LeO.ite ?_ ?_)
      | (with_reducible refine LeO.bind ?_ (fun _ => ?_))
      | exact ih0 _ _
      | exact LeO.none _
      | refine LeO.ite ?_ ?_
      | refine LeO.bind ?_ (fun _ => ?_)
theorem impl_namesOf.mono : ∀ a0 k, LeO (impl_namesOf.f k a0) (impl_namesOf.f (k + 1) a0) := by
  intro a0 k
  have ih0 := impl_namesOf.mono_l k
  unfold impl_namesOf.f
  repeat' first
      | (with_reducible exact ih0 _ _)
      | (with_reducible exact LeO.refl _)
      | (with_reducible exact LeO.none _)
      | (with_reducible refine LeO.ite ?_ ?_)
      | (with_reducible refine LeO.bind ?_ (fun _ => ?_))
      | exact ih0 _ _
      | exact LeO.none _
      | refine LeO.ite ?_ ?_
      | refine LeO.bind ?_ (fun _ => ?_)
set_option maxHeartbeats 8000000 in
set_option maxRecDepth 100000 in
theorem impl_namesOf.calls (k : Nat) (a0 : Int) (r : Int) (w : World) (h : impl_namesOf.f k a0 = some r) :
    Calls Tryd.prog 57 #[.int .i64 a0] w fun e w' => e = .returned (.int .i64 r) ∧ Drawn0 w w' := by
  have H : (if a0 = 1 then (impl_namesOf.j0 k a0 (a0 == 1)) else (if a0 = 3 then (impl_namesOf.j0 k a0 (a0 == 3)) else (if a0 = 5 then (impl_namesOf.j0 k a0 (a0 == 5)) else (impl_namesOf.j0 k a0 (a0 == 19))))) = some r := h
  clear h
  have HC2 := Aside0.mk H
  clear H
  go_enter Tryd.func57, Tryd.ntmps57
  go_upto_if 4 with (fail)
  go_cut [4] (fun v4 wc => ∃ (kq : Nat) (x4_1 : Bool), v4 = .bool x4_1 ∧ Aside0 (impl_namesOf.j0 kq a0 x4_1 = some r) ∧ Aside0 (kq ≤ k) ∧ Drawn0 w wc)
  case first =>
    have H := HC2.out
    clear HC2
    by_cases c3 : a0 = 1
    · rw [if_pos c3] at H
      have c3b0 : (a0 == 1) = true := beq_iff_eq.mpr c3
      have c3b1 : (a0 != 1) = false := bne_eq_false_iff_eq.mpr c3
      clear c3
      (first | rw [c3b0] | (simp only [i64_w, i32_w]; rw [c3b0]) | skip)
      have H' := Aside0.mk H
      clear H
      go_wp2
      go_meet
      case rel => exact ⟨_, ((a0 == 1)), rs0, H', ⟨by first | omega | exact Nat.le_refl _⟩, by repeat (first | exact Drawn0.refl _ | apply Drawn0.step)⟩
    · rw [if_neg c3] at H
      have c3b0 : (a0 == 1) = false := beq_eq_false_iff_ne.mpr c3
      have c3b1 : (a0 != 1) = true := bne_iff_ne.mpr c3
      (first | rw [c3b0] | (simp only [i64_w, i32_w]; rw [c3b0]) | skip)
      by_cases c4 : a0 = 3
      · rw [if_pos c4] at H
        have c4b0 : (a0 == 3) = true := beq_iff_eq.mpr c4
        have c4b1 : (a0 != 3) = false := bne_eq_false_iff_eq.mpr c4
        clear c4
        have H' := Aside0.mk H
        clear H
        go_wp2
        go_meet
        case rel => exact ⟨_, ((a0 == 3)), rs0, H', ⟨by first | omega | exact Nat.le_refl _⟩, by repeat (first | exact Drawn0.refl _ | apply Drawn0.step)⟩
      · rw [if_neg c4] at H
        have c4b0 : (a0 == 3) = false := beq_eq_false_iff_ne.mpr c4
        have c4b1 : (a0 != 3) = true := bne_iff_ne.mpr c4
        by_cases c5 : a0 = 5
        · rw [if_pos c5] at H
          have c5b0 : (a0 == 5) = true := beq_iff_eq.mpr c5
          have c5b1 : (a0 != 5) = false := bne_eq_false_iff_eq.mpr c5
          clear c5
          have H' := Aside0.mk H
          clear H
          go_wp2
          go_meet
          case rel => exact ⟨_, ((a0 == 5)), rs0, H', ⟨by first | omega | exact Nat.le_refl _⟩, by repeat (first | exact Drawn0.refl _ | apply Drawn0.step)⟩
        · rw [if_neg c5] at H
          have c5b0 : (a0 == 5) = false := beq_eq_false_iff_ne.mpr c5
          have c5b1 : (a0 != 5) = true := bne_iff_ne.mpr c5
          have H' := Aside0.mk H
          clear H
          go_wp2
          go_meet
          case rel => exact ⟨_, ((a0 == 19)), rs0, H', ⟨by first | omega | exact Nat.le_refl _⟩, by repeat (first | exact Drawn0.refl _ | apply Drawn0.step)⟩
  case rest =>
    clear HC2
    try clear p2
    try clear c3
    try clear c3b0
    try clear c3b1
    try clear c4
    try clear c4b0
    try clear c4b1
    try clear c5
    try clear c5b0
    try clear c5b1
    obtain ⟨kq, x4_1, rfl, HA, HJ1, ⟨mc1, rfl⟩⟩ := hcut
    cases kq with
    | zero => exact absurd HA.out (by simp [impl_namesOf.j0])
    | succ kj1 =>
      have H := HA.out
      clear HA
      simp only [impl_namesOf.j0] at H
      by_cases c6 : x4_1 = true
      · subst c6
        have H1 : (some 1) = some r := by rw [if_pos rfl] at H; exact H
        clear H
        have H := H1
        clear H1
        obtain rfl := Option.some.inj H
        go_wp2
        go_ret
        exact ⟨by first | rfl | (simp; done) | (simp [*]; done), by repeat (first | exact Drawn0.refl _ | apply Drawn0.step)⟩
      · replace c6 := Bool.eq_false_iff.mpr c6
        subst c6
        have H1 : (if a0 = 6 then (some 2) else (if a0 = 14 then (some 2) else (some 0))) = some r := by rw [if_neg (show ¬ (false = true) by decide)] at H; exact H
        clear H
        have H := H1
        clear H1
        by_cases c7 : a0 = 6
        · rw [if_pos c7] at H
          have c7b0 : (a0 == 6) = true := beq_iff_eq.mpr c7
          have c7b1 : (a0 != 6) = false := bne_eq_false_iff_eq.mpr c7
          clear c7
          obtain rfl := Option.some.inj H
          go_wp2
          go_ret
          exact ⟨by first | rfl | (simp; done) | (simp [*]; done), by repeat (first | exact Drawn0.refl _ | apply Drawn0.step)⟩
        · rw [if_neg c7] at H
          have c7b0 : (a0 == 6) = false := beq_eq_false_iff_ne.mpr c7
          have c7b1 : (a0 != 6) = true := bne_iff_ne.mpr c7
          by_cases c8 : a0 = 14
          · rw [if_pos c8] at H
            have c8b0 : (a0 == 14) = true := beq_iff_eq.mpr c8
            have c8b1 : (a0 != 14) = false := bne_eq_false_iff_eq.mpr c8
            clear c8
            obtain rfl := Option.some.inj H
            go_wp2
            go_ret
            exact ⟨by first | rfl | (simp; done) | (simp [*]; done), by repeat (first | exact Drawn0.refl _ | apply Drawn0.step)⟩
          · rw [if_neg c8] at H
            have c8b0 : (a0 == 14) = false := beq_eq_false_iff_ne.mpr c8
            have c8b1 : (a0 != 14) = true := bne_iff_ne.mpr c8
            obtain rfl := Option.some.inj H
            go_wp2
            go_ret
            exact ⟨by first | rfl | (simp; done) | (simp [*]; done), by repeat (first | exact Drawn0.refl _ | apply Drawn0.step)⟩

/-! ### impl_Arity: function 58 -/
mutual
def impl_Arity.j0 : Nat → Int → Bool → Option (Int)
  | 0, _, _ => none
  | k + 1, x3, x4 => if x4 = true then (some 1) else (if x3 = 4 then (impl_Arity.j1 k x3 (x3 == 4)) else (if x3 = 5 then (impl_Arity.j1 k x3 (x3 == 5)) else (if x3 = 6 then (impl_Arity.j1 k x3 (x3 == 6)) else (if x3 = 8 then (impl_Arity.j1 k x3 (x3 == 8)) else (if x3 = 9 then (impl_Arity.j1 k x3 (x3 == 9)) else (if x3 = 13 then (impl_Arity.j1 k x3 (x3 == 13)) else (if x3 = 17 then (impl_Arity.j1 k x3 (x3 == 17)) else (impl_Arity.j1 k x3 (x3 == 19)))))))))
def impl_Arity.j1 : Nat → Int → Bool → Option (Int)
  | 0, _, _ => none
  | k + 1, x3, x11 => if x11 = true then (some 2) else (if x3 = 7 then (some 3) else (if x3 = 14 then (some 3) else (some 0)))
end
def impl_Arity.f (k : Nat) (a0 : Int) : Option (Int) := if a0 = 3 then (impl_Arity.j0 k a0 (a0 == 3)) else (if a0 = 10 then (impl_Arity.j0 k a0 (a0 == 10)) else (if a0 = 11 then (impl_Arity.j0 k a0 (a0 == 11)) else (if a0 = 15 then (impl_Arity.j0 k a0 (a0 == 15)) else (if a0 = 16 then (impl_Arity.j0 k a0 (a0 == 16)) else (impl_Arity.j0 k a0 (a0 == 18))))))
theorem impl_Arity.mono_l : ∀ k, (∀ y0 y1, LeO (impl_Arity.j0 k y0 y1) (impl_Arity.j0 (k + 1) y0 y1)) ∧ (∀ y0 y1, LeO (impl_Arity.j1 k y0 y1) (impl_Arity.j1 (k + 1) y0 y1))
  | 0 => ⟨fun _ _ r h => by simp [impl_Arity.j0] at h, fun _ _ r h => by simp [impl_Arity.j1] at h⟩
  | k + 1 => by
    obtain ⟨ih0, ih1⟩ := impl_Arity.mono_l k
    refine ⟨?_, ?_⟩
    · intro y0 y1
      unfold impl_Arity.j0
      repeat' first
      | (with_reducible exact ih0 _ _)
      | (with_reducible exact ih1 _ _)
      | (with_reducible exact LeO.refl _)
      | (with_reducible exact LeO.none _)
      | (with_reducible refine LeO.ite ?_ ?_)
      | (with_reducible refine LeO.bind ?_ (fun _ => ?_))
      | exact ih0 _ _
      | exact ih1 _ _
      | exact LeO.none _
      | refine LeO.ite ?_ ?_
      | refine LeO.bind ?_ (fun _ => ?_)
    · intro y0 y1
      unfold impl_Arity.j1
      repeat' first
      | (with_reducible exact ih0 _ _)
      | (with_reducible exact ih1 _ _)
      | (with_reducible exact LeO.refl _)
      | (with_reducible exact LeO.none _)
      | (with_reducible refine LeO.ite ?_ ?_)
      | (with_reducible refine LeO.bind ?_ (fun _ => ?_))
      | exact ih0 _ _
      | exact ih1 _ _
      | exact LeO.none _
      | refine LeO.ite ?_ ?_
      | refine LeO.bind ?_ (fun _ => ?_)
theorem impl_Arity.mono : ∀ a0 k, LeO (impl_Arity.f k a0) (impl_Arity.f (k + 1) a0) := by
  intro a0 k
  obtain ⟨ih0, ih1⟩ := impl_Arity.mono_l k
  unfold impl_Arity.f
  repeat' first
      | (with_reducible exact ih0 _ _)
      | (with_reducible exact ih1 _ _)
      | (with_reducible exact LeO.refl _)
      | (with_reducible exact LeO.none _)
      | (with_reducible refine LeO.ite ?_ ?_)
      | (with_reducible refine LeO.bind ?_ (fun _ => ?_))
      | exact ih0 _ _
      | exact ih1 _ _
      | exact LeO.none _
      | refine LeO.ite ?_ ?_
      | refine LeO.bind ?_ (fun _ => ?_)
set_option maxHeartbeats 8000000 in
set_option maxRecDepth 100000 in
theorem impl_Arity.calls (k : Nat) (a0 : Int) (r : Int) (w : World) (h : impl_Arity.f k a0 = some r) :
    Calls Tryd.prog 58 #[.int .i64 a0] w fun e w' => e = .returned (.int .i64 r) ∧ Drawn0 w w' := by
  have H : (if a0 = 3 then (impl_Arity.j0 k a0 (a0 == 3)) else (if a0 = 10 then (impl_Arity.j0 k a0 (a0 == 10)) else (if a0 = 11 then (impl_Arity.j0 k a0 (a0 == 11)) else (if a0 = 15 then (impl_Arity.j0 k a0 (a0 == 15)) else (if a0 = 16 then (impl_Arity.j0 k a0 (a0 == 16)) else (impl_Arity.j0 k a0 (a0 == 18))))))) = some r := h
  clear h
  have HC2 := Aside0.mk H
  clear H
  go_enter Tryd.func58, Tryd.ntmps58
  go_upto_if 4 with (fail)
  go_cut [4] (fun v4 wc => ∃ (kq : Nat) (x4_1 : Bool), v4 = .bool x4_1 ∧ Aside0 (impl_Arity.j0 kq a0 x4_1 = some r) ∧ Aside0 (kq ≤ k) ∧ Drawn0 w wc)
  case first =>
    have H := HC2.out
    clear HC2
    by_cases c3 : a0 = 3
    · rw [if_pos c3] at H
      have c3b0 : (a0 == 3) = true := beq_iff_eq.mpr c3
      have c3b1 : (a0 != 3) = false := bne_eq_false_iff_eq.mpr c3
      clear c3
      (first | rw [c3b0] | (simp only [i64_w, i32_w]; rw [c3b0]) | skip)
      have H' := Aside0.mk H
      clear H
      go_wp2
      go_meet
      case rel => exact ⟨_, ((a0 == 3)), rs0, H', ⟨by first | omega | exact Nat.le_refl _⟩, by repeat (first | exact Drawn0.refl _ | apply Drawn0.step)⟩
    · rw [if_neg c3] at H
      have c3b0 : (a0 == 3) = false := beq_eq_false_iff_ne.mpr c3
      have c3b1 : (a0 != 3) = true := bne_iff_ne.mpr c3
      (first | rw [c3b0] | (simp only [i64_w, i32_w]; rw [c3b0]) | skip)
      by_cases c4 : a0 = 10
      · rw [if_pos c4] at H
        have c4b0 : (a0 == 10) = true := beq_iff_eq.mpr c4
        have c4b1 : (a0 != 10) = false := bne_eq_false_iff_eq.mpr c4
        clear c4
        have H' := Aside0.mk H
        clear H
        go_wp2
        go_meet
        case rel => exact ⟨_, ((a0 == 10)), rs0, H', ⟨by first | omega | exact Nat.le_refl _⟩, by repeat (first | exact Drawn0.refl _ | apply Drawn0.step)⟩
      · rw [if_neg c4] at H
        have c4b0 : (a0 == 10) = false := beq_eq_false_iff_ne.mpr c4
        have c4b1 : (a0 != 10) = true := bne_iff_ne.mpr c4
        by_cases c5 : a0 = 11
        · rw [if_pos c5] at H
          have c5b0 : (a0 == 11) = true := beq_iff_eq.mpr c5
          have c5b1 : (a0 != 11) = false := bne_eq_false_iff_eq.mpr c5
          clear c5
          have H' := Aside0.mk H
          clear H
          go_wp2
          go_meet
          case rel => exact ⟨_, ((a0 == 11)), rs0, H', ⟨by first | omega | exact Nat.le_refl _⟩, by repeat (first | exact Drawn0.refl _ | apply Drawn0.step)⟩
        · rw [if_neg c5] at H
          have c5b0 : (a0 == 11) = false := beq_eq_false_iff_ne.mpr c5
          have c5b1 : (a0 != 11) = true := bne_iff_ne.mpr c5
          by_cases c6 : a0 = 15
          · rw [if_pos c6] at H
            have c6b0 : (a0 == 15) = true := beq_iff_eq.mpr c6
            have c6b1 : (a0 != 15) = false := bne_eq_false_iff_eq.mpr c6
            clear c6
            have H' := Aside0.mk H
            clear H
            go_wp2
            go_meet
            case rel => exact ⟨_, ((a0 == 15)), rs0, H', ⟨by first | omega | exact Nat.le_refl _⟩, by repeat (first | exact Drawn0.refl _ | apply Drawn0.step)⟩
          · rw [if_neg c6] at H
            have c6b0 : (a0 == 15) = false := beq_eq_false_iff_ne.mpr c6
            have c6b1 : (a0 != 15) = true := bne_iff_ne.mpr c6
            by_cases c7 : a0 = 16
            · rw [if_pos c7] at H
              have c7b0 : (a0 == 16) = true := beq_iff_eq.mpr c7
              have c7b1 : (a0 != 16) = false := bne_eq_false_iff_eq.mpr c7
              clear c7
              have H' := Aside0.mk H
              clear H
              go_wp2
              go_meet
              case rel => exact ⟨_, ((a0 == 16)), rs0, H', ⟨by first | omega | exact Nat.le_refl _⟩, by repeat (first | exact Drawn0.refl _ | apply Drawn0.step)⟩
            · rw [if_neg c7] at H
              have c7b0 : (a0 == 16) = false := beq_eq_false_iff_ne.mpr c7
              have c7b1 : (a0 != 16) = true := bne_iff_ne.mpr c7
              have H' := Aside0.mk H
              clear H
              go_wp2
              go_meet
              case rel => exact ⟨_, ((a0 == 18)), rs0, H', ⟨by first | omega | exact Nat.le_refl _⟩, by repeat (first | exact Drawn0.refl _ | apply Drawn0.step)⟩
  case rest =>
    clear HC2
    try clear p2
    try clear c3
    try clear c3b0
    try clear c3b1
    try clear c4
    try clear c4b0
    try clear c4b1
    try clear c5
    try clear c5b0
    try clear c5b1
    try clear c6
    try clear c6b0
    try clear c6b1
    try clear c7
    try clear c7b0
    try clear c7b1
    obtain ⟨kq, x4_1, rfl, HA, HJ1, ⟨mc1, rfl⟩⟩ := hcut
    cases kq with
    | zero => exact absurd HA.out (by simp [impl_Arity.j0])
    | succ kj1 =>
      have H := HA.out
      clear HA
      simp only [impl_Arity.j0] at H
      by_cases c8 : x4_1 = true
      · subst c8
        have H1 : (some 1) = some r := by rw [if_pos rfl] at H; exact H
        clear H
        have H := H1
        clear H1
        obtain rfl := Option.some.inj H
        go_wp2
        go_ret
        exact ⟨by first | rfl | (simp; done) | (simp [*]; done), by repeat (first | exact Drawn0.refl _ | apply Drawn0.step)⟩
      · replace c8 := Bool.eq_false_iff.mpr c8
        subst c8
        have H1 : (if a0 = 4 then (impl_Arity.j1 kj1 a0 (a0 == 4)) else (if a0 = 5 then (impl_Arity.j1 kj1 a0 (a0 == 5)) else (if a0 = 6 then (impl_Arity.j1 kj1 a0 (a0 == 6)) else (if a0 = 8 then (impl_Arity.j1 kj1 a0 (a0 == 8)) else (if a0 = 9 then (impl_Arity.j1 kj1 a0 (a0 == 9)) else (if a0 = 13 then (impl_Arity.j1 kj1 a0 (a0 == 13)) else (if a0 = 17 then (impl_Arity.j1 kj1 a0 (a0 == 17)) else (impl_Arity.j1 kj1 a0 (a0 == 19))))))))) = some r := by rw [if_neg (show ¬ (false = true) by decide)] at H; exact H
        clear H
        have H := H1
        clear H1
        have HC9 := Aside0.mk H
        clear H
        go_upto_if 11 with (fail)
        go_cut [11] (fun v11 wc => ∃ (kq : Nat) (x11_8 : Bool), v11 = .bool x11_8 ∧ Aside0 (impl_Arity.j1 kq a0 x11_8 = some r) ∧ Aside0 (kq ≤ kj1) ∧ Drawn0 w wc)
        case first =>
          have H := HC9.out
          clear HC9
          by_cases c10 : a0 = 4
          · rw [if_pos c10] at H
            have c10b0 : (a0 == 4) = true := beq_iff_eq.mpr c10
            have c10b1 : (a0 != 4) = false := bne_eq_false_iff_eq.mpr c10
            clear c10
            (first | rw [c10b0] | (simp only [i64_w, i32_w]; rw [c10b0]) | skip)
            have H' := Aside0.mk H
            clear H
            go_wp2
            go_meet
            case rel => exact ⟨_, ((a0 == 4)), rs0, H', ⟨by have := HJ1.out; first | omega | exact Nat.le_refl _⟩, by repeat (first | exact Drawn0.refl _ | apply Drawn0.step)⟩
          · rw [if_neg c10] at H
            have c10b0 : (a0 == 4) = false := beq_eq_false_iff_ne.mpr c10
            have c10b1 : (a0 != 4) = true := bne_iff_ne.mpr c10
            (first | rw [c10b0] | (simp only [i64_w, i32_w]; rw [c10b0]) | skip)
            by_cases c11 : a0 = 5
            · rw [if_pos c11] at H
              have c11b0 : (a0 == 5) = true := beq_iff_eq.mpr c11
              have c11b1 : (a0 != 5) = false := bne_eq_false_iff_eq.mpr c11
              clear c11
              have H' := Aside0.mk H
              clear H
              go_wp2
              go_meet
              case rel => exact ⟨_, ((a0 == 5)), rs0, H', ⟨by have := HJ1.out; first | omega | exact Nat.le_refl _⟩, by repeat (first | exact Drawn0.refl _ | apply Drawn0.step)⟩
            · rw [if_neg c11] at H
              have c11b0 : (a0 == 5) = false := beq_eq_false_iff_ne.mpr c11
              have c11b1 : (a0 != 5) = true := bne_iff_ne.mpr c11
              by_cases c12 : a0 = 6
              · rw [if_pos c12] at H
                have c12b0 : (a0 == 6) = true := beq_iff_eq.mpr c12
                have c12b1 : (a0 != 6) = false := bne_eq_false_iff_eq.mpr c12
                clear c12
                have H' := Aside0.mk H
                clear H
                go_wp2
                go_meet
                case rel => exact ⟨_, ((a0 == 6)), rs0, H', ⟨by have := HJ1.out; first | omega | exact Nat.le_refl _⟩, by repeat (first | exact Drawn0.refl _ | apply Drawn0.step)⟩
              · rw [if_neg c12] at H
                have c12b0 : (a0 == 6) = false := beq_eq_false_iff_ne.mpr c12
                have c12b1 : (a0 != 6) = true := bne_iff_ne.mpr c12
                by_cases c13 : a0 = 8
                · rw [if_pos c13] at H
                  have c13b0 : (a0 == 8) = true := beq_iff_eq.mpr c13
                  have c13b1 : (a0 != 8) = false := bne_eq_false_iff_eq.mpr c13
                  clear c13
                  have H' := Aside0.mk H
                  clear H
                  go_wp2
                  go_meet
                  case rel => exact ⟨_, ((a0 == 8)), rs0, H', ⟨by have := HJ1.out; first | omega | exact Nat.le_refl _⟩, by repeat (first | exact Drawn0.refl _ | apply Drawn0.step)⟩
                · rw [if_neg c13] at H
                  have c13b0 : (a0 == 8) = false := beq_eq_false_iff_ne.mpr c13
                  have c13b1 : (a0 != 8) = true := bne_iff_ne.mpr c13
                  by_cases c14 : a0 = 9
                  · rw [if_pos c14] at H
                    have c14b0 : (a0 == 9) = true := beq_iff_eq.mpr c14
                    have c14b1 : (a0 != 9) = false := bne_eq_false_iff_eq.mpr c14
                    clear c14
                    have H' := Aside0.mk H
                    clear H
                    go_wp2
                    go_meet
                    case rel => exact ⟨_, ((a0 == 9)), rs0, H', ⟨by have := HJ1.out; first | omega | exact Nat.le_refl _⟩, by repeat (first | exact Drawn0.refl _ | apply Drawn0.step)⟩
                  · rw [if_neg c14] at H
                    have c14b0 : (a0 == 9) = false := beq_eq_false_iff_ne.mpr c14
                    have c14b1 : (a0 != 9) = true := bne_iff_ne.mpr c14
                    by_cases c15 : a0 = 13
                    · rw [if_pos c15] at H
                      have c15b0 : (a0 == 13) = true := beq_iff_eq.mpr c15
                      have c15b1 : (a0 != 13) = false := bne_eq_false_iff_eq.mpr c15
                      clear c15
                      have H' := Aside0.mk H
                      clear H
                      go_wp2
                      go_meet
                      case rel => exact ⟨_, ((a0 == 13)), rs0, H', ⟨by have := HJ1.out; first | omega | exact Nat.le_refl _⟩, by repeat (first | exact Drawn0.refl _ | apply Drawn0.step)⟩
                    · rw [if_neg c15] at H
                      have c15b0 : (a0 == 13) = false := beq_eq_false_iff_ne.mpr c15
                      have c15b1 : (a0 != 13) = true := bne_iff_ne.mpr c15
                      by_cases c16 : a0 = 17
                      · rw [if_pos c16] at H
                        have c16b0 : (a0 == 17) = true := beq_iff_eq.mpr c16
                        have c16b1 : (a0 != 17) = false := bne_eq_false_iff_eq.mpr c16
                        clear c16
                        have H' := Aside0.mk H
                        clear H
                        go_wp2
                        go_meet
                        case rel => exact ⟨_, ((a0 == 17)), rs0, H', ⟨by have := HJ1.out; first | omega | exact Nat.le_refl _⟩, by repeat (first | exact Drawn0.refl _ | apply Drawn0.step)⟩
                      · rw [if_neg c16] at H
                        have c16b0 : (a0 == 17) = false := beq_eq_false_iff_ne.mpr c16
                        have c16b1 : (a0 != 17) = true := bne_iff_ne.mpr c16
                        have H' := Aside0.mk H
                        clear H
                        go_wp2
                        go_meet
                        case rel => exact ⟨_, ((a0 == 19)), rs0, H', ⟨by have := HJ1.out; first | omega | exact Nat.le_refl _⟩, by repeat (first | exact Drawn0.refl _ | apply Drawn0.step)⟩
        case rest =>
          clear HC9
          try clear c1
          try clear p2
          try clear c3
          try clear c3b0
          try clear c3b1
          try clear c4
          try clear c4b0
          try clear c4b1
          try clear c5
          try clear c5b0
          try clear c5b1
          try clear c6
          try clear c6b0
          try clear c6b1
          try clear c7
          try clear c7b0
          try clear c7b1
          try clear c8
          try clear c10
          try clear c10b0
          try clear c10b1
          try clear c11
          try clear c11b0
          try clear c11b1
          try clear c12
          try clear c12b0
          try clear c12b1
          try clear c13
          try clear c13b0
          try clear c13b1
          try clear c14
          try clear c14b0
          try clear c14b1
          try clear c15
          try clear c15b0
          try clear c15b1
          try clear c16
          try clear c16b0
          try clear c16b1
          try clear p2
          obtain ⟨kq, x11_8, rfl, HA, HJ8, ⟨mc8, rfl⟩⟩ := hcut
          cases kq with
          | zero => exact absurd HA.out (by simp [impl_Arity.j1])
          | succ kj8 =>
            have H := HA.out
            clear HA
            simp only [impl_Arity.j1] at H
            by_cases c17 : x11_8 = true
            · subst c17
              have H1 : (some 2) = some r := by rw [if_pos rfl] at H; exact H
              clear H
              have H := H1
              clear H1
              obtain rfl := Option.some.inj H
              go_wp2
              go_ret
              exact ⟨by first | rfl | (simp; done) | (simp [*]; done), by repeat (first | exact Drawn0.refl _ | apply Drawn0.step)⟩
            · replace c17 := Bool.eq_false_iff.mpr c17
              subst c17
              have H1 : (if a0 = 7 then (some 3) else (if a0 = 14 then (some 3) else (some 0))) = some r := by rw [if_neg (show ¬ (false = true) by decide)] at H; exact H
              clear H
              have H := H1
              clear H1
              by_cases c18 : a0 = 7
              · rw [if_pos c18] at H
                have c18b0 : (a0 == 7) = true := beq_iff_eq.mpr c18
                have c18b1 : (a0 != 7) = false := bne_eq_false_iff_eq.mpr c18
                clear c18
                obtain rfl := Option.some.inj H
                go_wp2
                go_ret
                exact ⟨by first | rfl | (simp; done) | (simp [*]; done), by repeat (first | exact Drawn0.refl _ | apply Drawn0.step)⟩
              · rw [if_neg c18] at H
                have c18b0 : (a0 == 7) = false := beq_eq_false_iff_ne.mpr c18
                have c18b1 : (a0 != 7) = true := bne_iff_ne.mpr c18
                by_cases c19 : a0 = 14
                · rw [if_pos c19] at H
                  have c19b0 : (a0 == 14) = true := beq_iff_eq.mpr c19
                  have c19b1 : (a0 != 14) = false := bne_eq_false_iff_eq.mpr c19
                  clear c19
                  obtain rfl := Option.some.inj H
                  go_wp2
                  go_ret
                  exact ⟨by first | rfl | (simp; done) | (simp [*]; done), by repeat (first | exact Drawn0.refl _ | apply Drawn0.step)⟩
                · rw [if_neg c19] at H
                  have c19b0 : (a0 == 14) = false := beq_eq_false_iff_ne.mpr c19
                  have c19b1 : (a0 != 14) = true := bne_iff_ne.mpr c19
                  obtain rfl := Option.some.inj H
                  go_wp2
                  go_ret
                  exact ⟨by first | rfl | (simp; done) | (simp [*]; done), by repeat (first | exact Drawn0.refl _ | apply Drawn0.step)⟩

end Go.Proofs.YtoebebgeiahagaaDoor.PFnExactUsedName
