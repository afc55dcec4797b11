/- FnExactDeadNodes: the law: part 35 of a proof by an executable machine over the program's code. -/
import Derived.Test.YtbkpkchegopmiaaGreatDoorMb32
import Derived.Test.YtbkpkchegopmiaaGreatDoorL91
import Derived.WalkKit
import Derived.ProofKit
section
set_option linter.unusedVariables false
set_option linter.unusedSimpArgs false
namespace Go.Mach
open Go Go.RowKit Go.Proofs
set_option maxRecDepth 100000
set_option maxHeartbeats 4000000
theorem k9_spec {w : World} {lo hi : Nat} {v : Value} {a : List Nd} {dp : Int} (hz : SzL a) (hh : hi ≤ w.heap.size) (hv : Row lo hi w 7 (eNd a) v) : Calls Tryz.prog 37 #[v, .int .i64 dp] w fun e w' => ∃ v', e = .returned v' ∧ Row 0 w'.heap.size w' 1 (eK .i64 (deadM a dp)) v' ∧ Stay w w' :=
  row_calls env_okA (spec_DeadNodes.ans (xa := some gPass) (xb := some gFree) std rfl a dp hz.sz (by have := hz.1; omega)) (flt_eK _) rfl (args2 (.row hv hh (flt_eNd a)) .int)
theorem k9_impl {w : World} {lo hi : Nat} {v : Value} {a : List Nd} {dp : Int} (hz : SzL a) (hh : hi ≤ w.heap.size) (hv : Row lo hi w 7 (eNd a) v) : Calls Tryz.prog 38 #[v, .int .i64 dp] w fun e w' => ∃ v', e = .returned v' ∧ Row w.heap.size w'.heap.size w' 1 (eK .i64 (deadM a dp)) v' ∧ Unf w' 1 (eK .i64 (deadM a dp)) v' ∧ Stay w w' :=
  new_calls env_okA (impl_DeadNodes.ans std rfl a dp pass_spec free_spec hz.sz (by have := hz.1; omega)) (flt_eK _) rfl (args2 (.row hv hh (flt_eNd a)) .int)
theorem law9_calls {W : World} {a : List Nd} {dp : Int} {v : Value} (hB : Bg a) (h0 : Row 0 W.heap.size W 7 (eNd a) v) : Calls Tryz.prog 9 #[v, .int .i64 dp] W fun e w => e = .returned (.bool true) ∧ Below W.heap.size W w := by
  have hn : Tryz.f9.ntmps = 74 := by kernel_rfl
  have e15 : ∀ args w, (callFunc 15 args).run Tryz.prog w = .ok (.enter 15 args) w := enters_of Tryz.func15 (by kernel_rfl) rfl
  have e17 : ∀ args w, (callFunc 17 args).run Tryz.prog w = .ok (.enter 17 args) w := enters_of Tryz.func17 (by kernel_rfl) rfl
  have e19 : ∀ args w, (callFunc 19 args).run Tryz.prog w = .ok (.enter 19 args) w := enters_of Tryz.func19 (by kernel_rfl) rfl
  have e22 : ∀ args w, (callFunc 22 args).run Tryz.prog w = .ok (.enter 22 args) w := enters_of Tryz.func22 (by kernel_rfl) rfl
  have e23 : ∀ args w, (callFunc 23 args).run Tryz.prog w = .ok (.enter 23 args) w := enters_of Tryz.func23 (by kernel_rfl) rfl
  have e24 : ∀ args w, (callFunc 24 args).run Tryz.prog w = .ok (.enter 24 args) w := enters_of Tryz.func24 (by kernel_rfl) rfl
  have e25 : ∀ args w, (callFunc 25 args).run Tryz.prog w = .ok (.enter 25 args) w := enters_of Tryz.func25 (by kernel_rfl) rfl
  have e37 : ∀ args w, (callFunc 37 args).run Tryz.prog w = .ok (.enter 37 args) w := enters_of Tryz.func37 (by kernel_rfl) rfl
  have e38 : ∀ args w, (callFunc 38 args).run Tryz.prog w = .ok (.enter 38 args) w := enters_of Tryz.func38 (by kernel_rfl) rfl
  have t3 := Tryz.underlying3; have t4 := Tryz.underlying4
  go_enter Tryz.func9, hn
  go_wp2_with (go_at_fn 15; refine (k_sz hB h0 (Nat.le_refl _)).mono ?_; rintro e w1 ⟨r, rfl, hsz, s1⟩)
  · go_ret
    exact ⟨rfl, s1.1⟩
  have hz : SzL a := hsz (by omega)
  have hlen : (deadM a dp).length ≤ 1048576 := Nat.le_trans (dead_len a dp) (by have := hz.1; omega)
  have b1 : Below W.heap.size W w1 := s1.1
  have h1 := h0.stay (Nat.le_refl _) s1
  go_wp2_with (go_at_fn 17; refine (k_to hz h1 b1.size).mono ?_; rintro e w2 ⟨u1, rfl, hu1, _, s2⟩)
  have h2 := h1.stay b1.size s2; have b2 := b1.trans (s2.1.mono b1.size)
  go_wp2_with (go_at_fn 37; refine (k9_spec hz (Nat.le_refl _) hu1).mono ?_; rintro e w3 ⟨u2, rfl, hw3, s3⟩)
  have h3 := h2.stay b2.size s3; have b3 := b2.trans (s3.1.mono b2.size)
  go_wp2_with (go_at_fn 17; refine (k_to hz h3 b3.size).mono ?_; rintro e w4 ⟨u3, rfl, hx4, ux4, s4⟩)
  have q4 := s4.1.size; have h4 := h3.stay b3.size s4; have b4 := b3.trans (s4.1.mono b3.size); have hw4 := hw3.stay (Nat.le_refl _) s4
  go_wp2_with (go_at_fn 38; refine (k9_impl hz (Nat.le_refl _) hx4).mono ?_; rintro e w5 ⟨u4, rfl, hg5, ug5, s5⟩)
  have q5 := s5.1.size; have h5 := h4.stay b4.size s5; have b5 := b4.trans (s5.1.mono b4.size); have hw5 := hw4.stay q4 s5; have hx5 := hx4.stay (Nat.le_refl _) s5; have ux5 := ux4.stay hx4 (Nat.le_refl _) s5
  go_wp2_with (go_at_fn 22; refine (k_eqI hlen hg5 (Nat.le_refl _) hw5 (by omega)).mono ?_; rintro e w6 ⟨rfl, s6⟩)
  have q6 := s6.1.size; have h6 := h5.stay b5.size s6; have b6 := b5.trans (s6.1.mono b5.size); have hw6 := hw5.stay (by omega) s6; have hx6 := hx5.stay q5 s6; have ux6 := ux5.stay hx5 q5 s6; have hg6 := hg5.stay (Nat.le_refl _) s6; have ug6 := ug5.stay hg5 (Nat.le_refl _) s6
  go_wp2_with (go_at_fn 17; refine (k_to hz h6 b6.size).mono ?_; rintro e w7 ⟨u5, rfl, hy7, _, s7⟩)
  have q7 := s7.1.size; have h7 := h6.stay b6.size s7; have b7 := b6.trans (s7.1.mono b6.size); have hw7 := hw6.stay (by omega) s7; have hx7 := hx6.stay (by omega) s7; have ux7 := ux6.stay hx6 (by omega) s7; have hg7 := hg6.stay (by omega) s7; have ug7 := ug6.stay hg6 (by omega) s7
  go_wp2_with (go_at_fn 19; refine (k_eqN hz hx7 (by omega) hy7 (Nat.le_refl _)).mono ?_; rintro e w8 ⟨rfl, s8⟩)
  have q8 := s8.1.size; have h8 := h7.stay b7.size s8; have b8 := b7.trans (s8.1.mono b7.size); have hw8 := hw7.stay (by omega) s8; have hx8 := hx7.stay (by omega) s8; have ux8 := ux7.stay hx7 (by omega) s8; have hg8 := hg7.stay (by omega) s8; have ug8 := ug7.stay hg7 (by omega) s8
  have b3s := b3.size; have b8s := b8.size
  go_wp2_with (go_at_fn 23; refine (k_markN hz hx8 ux8 (by omega)).mono ?_; rintro e w9 ⟨k1, rfl, hk1, m9⟩)
  have q9 := m9.2.2.2.1; have h9 := h8.mark b8s m9 (.inl b3s); have b9 := b8.trans (m9.below b3s b8s); have hw9 := hw8.mark (by omega) m9 (.inl (Nat.le_refl _)); have hg9 := hg8.mark (by omega) m9 (.inr (Nat.le_refl _)); have ug9 := ug8.mark hg8 (by omega) m9 (.inr (Nat.le_refl _))
  have hk1n : ¬ k1 < 0 := by omega
  have hk1d : decide (k1 < 0) = false := decide_eq_false hk1n
  go_wp2_with (go_at_fn 22; refine (k_eqI hlen hg9 (by omega) hw9 (by omega)).mono ?_; rintro e w10 ⟨rfl, s10⟩)
  have q10 := s10.1.size; have h10 := h9.stay b9.size s10; have b10 := b9.trans (s10.1.mono b9.size); have hw10 := hw9.stay (by omega) s10; have hg10 := hg9.stay (by omega) s10; have ug10 := ug9.stay hg9 (by omega) s10; have b10s := b10.size
  go_wp2_with (go_at_fn 24; refine (k_markI hlen hg10 ug10 (by omega)).mono ?_; rintro e w11 ⟨k2, rfl, hk2, hg11, m11⟩)
  have q11 := m11.2.2.2.1; have h11 := h10.mark b10s m11 (.inl (by omega)); have b11 := b10.trans (m11.below (by omega) b10s); have hw11 := hw10.mark (by omega) m11 (.inl (by omega))
  have hk2n : ¬ k2 < 0 := by omega
  have hk2d : decide (k2 < 0) = false := decide_eq_false hk2n
  go_wp2_with (go_at_fn 25; refine (k_heldI hlen hg11 (by omega)).mono ?_; rintro e w12 ⟨k3, rfl, hk3, s12⟩)
  obtain rfl : k3 = k2 := hk3.trans hk2.symm
  have q12 := s12.1.size; have h12 := h11.stay b11.size s12; have b12 := b11.trans (s12.1.mono b11.size); have hw12 := hw11.stay (by omega) s12; have hg12 := hg11.stay (by omega) s12
  go_wp2_with (go_at_fn 17; refine (k_to hz h12 b12.size).mono ?_; rintro e w13 ⟨u6, rfl, hu13, _, s13⟩)
  have q13 := s13.1.size; have b13 := b12.trans (s13.1.mono b12.size); have hw13 := hw12.stay (by omega) s13; have hg13 := hg12.stay (by omega) s13
  go_wp2_with (go_at_fn 38; refine (k9_impl hz (Nat.le_refl _) hu13).mono ?_; rintro e w14 ⟨u7, rfl, hh14, _, s14⟩)
  have q14 := s14.1.size; have b14 := b13.trans (s14.1.mono b13.size); have hw14 := hw13.stay (by omega) s14; have hg14 := hg13.stay (by omega) s14
  go_wp2_with (go_at_fn 22; refine (k_eqI hlen hh14 (Nat.le_refl _) hw14 (by omega)).mono ?_; rintro e w15 ⟨rfl, s15⟩)
  have q15 := s15.1.size; have b15 := b14.trans (s15.1.mono b14.size); have hg15 := hg14.stay (by omega) s15
  go_wp2_with (go_at_fn 25; refine (k_heldI hlen hg15 (by omega)).mono ?_; rintro e w16 ⟨k4, rfl, hk4, s16⟩)
  obtain rfl : k4 = k3 := hk4.trans hk2.symm
  have b16 := b15.trans (s16.1.mono b15.size)
  go_ret
  exact ⟨rfl, b16⟩
end Go.Mach
end
