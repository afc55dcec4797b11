/- FnExactMayRaise: the program's MayRaise answers what the reference's answers, for all arguments (a tied card): part 17 of a proof by an executable machine over the program's code. -/
import Derived.Test.YtbkpkchegopmiaaGreatDoorMr16
import Derived.Laws.Strings
section
set_option linter.unusedVariables false
set_option linter.unusedSimpArgs false
namespace Go.Mach
open Go Go.RowKit
structure Fit (l : List Nd) (fs : List Fc) : Prop where
  up : Up fs
  node : ∀ f ∈ fs, 0 ≤ f.n ∧ f.n < l.length
  vk : ∀ f ∈ fs, 0 ≤ f.v.k
  vn : ∀ f ∈ fs, 0 ≤ f.v.n ∧ f.v.n < l.length
  lam : ∀ f ∈ fs, f.v.k = 1 → lamB (rN l f.v.n) = true
  zero : ∀ f ∈ fs, f.k = 7 → f.v = ⟨0, 0, 0⟩
structure Clo (l : List Nd) : Prop where
  ok : OkT l
  bound : ∀ i : Int, 0 ≤ i → i < l.length → (rN l i).f0 = 1 → 0 ≤ (bindS l i).f0
def prM (l : List Nd) (dp : Int) : Pr := ⟨l, bindsM l, outersM l, dp⟩
theorem hasR_any {l : List Nd} {fs : List Fc} (h : Fit l fs) (n c : Int) : hasR fs n c = anyB fs 7 n c := by
  unfold hasR anyB
  rw [Bool.eq_iff_iff, decide_eq_true_eq, Bool.not_eq_true', List.isEmpty_eq_false_iff_exists_mem]
  constructor
  · intro hm; exact ⟨_, mem_vals.2 hm⟩
  · rintro ⟨v, hv⟩
    have hv := mem_vals.1 hv
    have := h.zero _ hv rfl
    simp only at this
    rwa [this] at hv
theorem any_emp (fs : List Fc) (k n c : Int) : (vals fs k n c).isEmpty = !anyB fs k n c := by simp [anyB]
theorem kind_emp (fs : List Fc) (n c kd : Int) : (thoseL fs 0 n c kd).isEmpty = !kindB fs n c kd := by
  unfold thoseL kindB
  rw [Bool.eq_iff_iff]
  simp [List.isEmpty_iff, List.filter_eq_nil_iff]
theorem nameAt_role {b : Bd} (c : Int) (h : b.f1 = 0 ∨ b.f1 = 1) : nameAt b c = ⟨1 + b.f1, b.f0, c⟩ := by
  unfold nameAt
  rcases h with h | h <;> rw [h] <;> rfl
theorem nameAt_given (l : List Nd) (f c : Int) : nameAt (givenM l f) c = ⟨1 + parm (rN l f), f, c⟩ := by
  unfold givenM parm
  by_cases h : (rN l f).f0 = 6 <;> simp [h, nameAt]
theorem outerN_mem {l : List Nd} {us : List Bd} {f : Int} : ∀ (n : Nat) {b : Bd}, b ∈ outerN l us f n → 0 ≤ b.f0 ∧ ∃ k : Nat, k < n ∧ b = rB us (startM l (rN l f).f1 + k)
  | 0, b, h => by simp [outerN] at h
  | n + 1, b, h => by
    rw [outerN] at h
    split at h
    · obtain ⟨h1, k, h2, h3⟩ := outerN_mem n h
      exact ⟨h1, k, by omega, h3⟩
    · rename_i hc
      rcases List.mem_append.1 h with h | h
      · obtain ⟨h1, k, h2, h3⟩ := outerN_mem n h
        exact ⟨h1, k, by omega, h3⟩
      · simp only [List.mem_singleton] at h
        refine ⟨?_, n, by omega, h⟩
        rw [← h] at hc
        simp only [Bool.or_eq_true, not_or] at hc
        have := hc.1
        simp only [knB, decide_eq_true_eq, not_or] at this
        omega
theorem outerM_role {l : List Nd} (hT : OkT l) {f : Int} (h0 : 0 ≤ f) (h1 : f < l.length) (hl : lamB (rN l f) = true) {b : Bd} (h : b ∈ outerM l (bindsM l) f) : 0 ≤ b.f0 ∧ (b.f1 = 0 ∨ b.f1 = 1) := by
  have hd := hT.downs f h0 h1 (lam_ar hl)
  have hs := startM_le hT.downs hd.1 (by omega)
  obtain ⟨h2, k, h3, h4⟩ := outerN_mem _ h
  rw [rB_bindsM (by omega) (by omega)] at h4
  rcases bindS_role l (startM l (rN l f).f1 + k) with h5 | h5
  · rw [h4, h5] at h2; exact absurd h2 (by decide)
  · rw [← h4] at h5; exact ⟨h2, h5.2⟩
theorem mem_ite_nil {α : Type} {p : Prop} [Decidable p] {x : α} {a : List α} : x ∈ (if p then a else []) ↔ p ∧ x ∈ a := by
  split <;> simp [*]
theorem mem_those {fs : List Fc} {k n c kd : Int} {v : Ab} : v ∈ thoseL fs k n c kd ↔ v ∈ vals fs k n c ∧ v.k = kd := by
  simp [thoseL]
theorem outer_flow {l : List Nd} (hT : OkT l) (fs : List Fc) {f : Int} (h0 : 0 ≤ f) (h1 : f < l.length) (hl : lamB (rN l f) = true) (fc to : Int) :
    (outerM l (bindsM l) f).flatMap (fun x => flowP fs (nameAt x fc) (nameAt x to)) = (outerM l (bindsM l) f).flatMap (outer1 fs fc to) := by
  have : ∀ m : List Bd, (∀ b ∈ m, b.f1 = 0 ∨ b.f1 = 1) → m.flatMap (fun x => flowP fs (nameAt x fc) (nameAt x to)) = m.flatMap (outer1 fs fc to) := by
    intro m hm
    induction m with
    | nil => rfl
    | cons b m ih =>
      rw [List.flatMap_cons, List.flatMap_cons, ih fun x hx => hm x (List.mem_cons_of_mem _ hx)]
      congr 1
      have hb := hm b List.mem_cons_self
      rw [nameAt_role _ hb, nameAt_role _ hb]; rfl
  exact this _ fun b hb => (outerM_role hT h0 h1 hl hb).2
theorem call_mem {l : List Nd} (hT : OkT l) {fs : List Fc} (h : Fit l fs) {f : Ab} (h0 : 0 ≤ f.n) (h1 : f.n < l.length) (hl : lamB (rN l f.n) = true) (dp i c : Int) (nd : Nd) (hk : f.k = 1) (hb : anyB fs 0 nd.f2 c = true) (x : Fc) :
    x ∈ callI l (bindsM l) dp fs i c f ⟨0, nd.f2, c⟩ ↔ x ∈ call1S (prM l dp) fs i c nd f := by
  unfold callI call1S prM
  rw [if_pos ⟨hk, hb⟩, outer_flow hT fs h0 h1 hl, nameAt_given, hasR_any h]
  dsimp only
  rw [rLB_outersM h0 h1, if_pos hl]
  simp only [flowP, List.mem_append, or_assoc, or_comm, or_left_comm]
theorem node_mem {l : List Nd} (hC : Clo l) {fs : List Fc} (h : Fit l fs) {i : Int} (h0 : 0 ≤ i) (h1 : i < l.length) (dp c : Int) (x : Fc) :
    x ∈ nodeI l (bindsM l) dp fs i c ↔ x ∈ nodeS (prM l dp) fs i c := by
  unfold nodeI nodeS
  have e : rN (prM l dp).l i = rN l i := rfl
  have eb : rB (prM l dp).bind i = bindS l i := rB_bindsM h0 h1
  have ev : rB (bindsM l) i = bindS l i := rB_bindsM h0 h1
  simp only [e, eb, ev, hasR_any h]
  by_cases k1 : (rN l i).f0 = 1
  · simp only [k1, if_true]
    have hb := hC.bound i h0 h1 k1
    have hr : (bindS l i).f1 = 0 ∨ (bindS l i).f1 = 1 := by
      rcases bindS_role l i with h5 | h5
      · rw [h5] at hb; exact absurd hb (by decide)
      · exact h5.2
    rw [nameAt_role _ hr]; rfl
  simp only [k1, if_false]
  by_cases k2 : (rN l i).f0 = 2
  · simp only [k2, if_true]
  simp only [k2, if_false]
  by_cases k12 : (rN l i).f0 = 12
  · simp only [k12, if_true]
  simp only [k12, if_false]
  by_cases k3 : (rN l i).f0 = 3
  · simp only [k3, if_true]
  simp only [k3, if_false]
  by_cases k6 : (rN l i).f0 = 6
  · simp only [k6, if_true]
  simp only [k6, if_false]
  unfold otherI
  have hkid : (kidsM (rN l i)).zipIdx.flatMap (kidI fs (rN l i).f0 i c) = kidRiseS fs (rN l i) i c := by
    unfold kidRiseS
    congr 1
    funext y
    unfold kidI kidR1
    rw [hasR_any h]
    by_cases hy : y.2 > 0 ∨ (rN l i).f0 ≠ 19
    · rw [if_pos hy]
      have : (!((rN l i).f0 == 19 && y.2 == 0)) = true := by simp; omega
      rw [this, Bool.and_true]
    · rw [if_neg hy]
      have : (!((rN l i).f0 == 19 && y.2 == 0)) = false := by simp; omega
      rw [this, Bool.and_false]; rfl
  rw [hkid, List.mem_append, List.mem_append, List.mem_append, List.mem_append]
  refine or_congr Iff.rfl ?_
  by_cases kt : (rN l i).f0 = 4 ∨ (rN l i).f0 = 8 ∨ (rN l i).f0 = 9 ∨ (rN l i).f0 = 13 ∨ (rN l i).f0 = 17
  · rw [if_pos kt, if_pos kt]
    unfold twoS bothI
    simp only [e, any_emp, List.mem_append]
    refine or_congr (by cases anyB fs 0 (rN l i).f1 c <;> simp) ?_
    by_cases ka : anyB fs 0 (rN l i).f1 c = true
    rotate_left
    · have ka' : anyB fs 0 (rN l i).f1 c = false := by simpa using ka
      have hv : vals fs 0 (rN l i).f1 c = [] := by simpa [anyB] using ka'
      simp [ka', callS, e, hv]
    by_cases kb : anyB fs 0 (rN l i).f2 c = true
    rotate_left
    · have kb' : anyB fs 0 (rN l i).f2 c = false := by simpa using kb
      simp only [kb', ka]
      by_cases k4 : (rN l i).f0 = 4
      · simp [k4, callS, call1S, kb', e]
      · simp [k4]
    by_cases k4 : (rN l i).f0 = 4
    · simp only [k4, ka, kb, if_true, Bool.not_true, Bool.false_eq_true, or_self, if_false]
      unfold callS
      simp only [List.mem_flatMap, mem_those, e]
      refine exists_congr fun v => ?_
      constructor
      · rintro ⟨⟨hv, hk⟩, hx⟩
        have hm := mem_vals.1 hv
        have hn := h.vn _ hm
        exact ⟨hv, (call_mem hC.ok h hn.1 hn.2 (h.lam _ hm hk) dp i c _ hk kb x).1 hx⟩
      · rintro ⟨hv, hx⟩
        have hm := mem_vals.1 hv
        have hn := h.vn _ hm
        by_cases hk : v.k = 1
        · exact ⟨⟨hv, hk⟩, (call_mem hC.ok h hn.1 hn.2 (h.lam _ hm hk) dp i c _ hk kb x).2 hx⟩
        · unfold call1S at hx
          rw [if_neg (fun q => hk q.1)] at hx
          cases hx
    · have hset : ∀ n2 : Int, (x ∈ (thoseL fs 0 (rN l i).f1 c 5).flatMap fun r => flowL fs 0 n2 c 5 r.n r.c) ↔ x ∈ (vals fs 0 (rN l i).f1 c).flatMap (setS1 fs n2 c) := fun n2 => by
        simp only [List.mem_flatMap, mem_those, setS1, mem_ite_nil, and_assoc]
      rcases kt with k | k | k | k | k
      · exact absurd k k4
      · simp [k, ka, kb]
      · simp [k, ka, kb, flowP, or_comm, or_left_comm, or_assoc]
      · simp [k, ka, kb, flowP, or_comm, or_left_comm, or_assoc]
      · have := hset (rN l i).f2
        simp only [List.mem_flatMap] at this
        simp [k, ka, kb, flowP, this, or_comm]
  · rw [if_neg kt, if_neg kt]
    unfold oneS
    simp only [e]
    have hpart : ∀ (kd part tk tn : Int), (x ∈ (thoseL fs 0 (rN l i).f1 c kd).flatMap fun v => flowL fs part v.n v.c tk tn c) ↔ x ∈ partsL fs (rN l i).f1 c kd part tk tn := fun kd part tk tn => by
      simp only [partsL, List.mem_flatMap, mem_those, part1, mem_ite_nil, and_assoc]
    have htk : ∀ (kd part : Int), x ∈ takeL fs kd part 0 i c (thoseL fs 0 (rN l i).f1 c kd) ↔ x ∈ partsL fs (rN l i).f1 c kd part 0 i := fun kd part => hpart kd part 0 i
    by_cases k5 : (rN l i).f0 = 5
    · simp only [k5, if_true, any_emp]
      cases anyB fs 0 (rN l i).f1 c <;> simp
    simp only [k5, if_false]
    by_cases k7 : (rN l i).f0 = 7
    · simp only [k7, if_true, kind_emp]
      cases kindB fs (rN l i).f1 c 0 <;> simp
    simp only [k7, if_false]
    by_cases k14 : (rN l i).f0 = 14
    · simp only [k14, if_true]
      unfold matchI
      simp only [kind_emp, List.mem_append]
      have hm : (x ∈ (thoseL fs 0 (rN l i).f1 c 4).flatMap fun v => seeL (rN l i).f3 c ++ flowL fs 3 v.n v.c 1 i c ++ flowL fs 4 v.n v.c 2 i c) ↔
          (x ∈ (if kindB fs (rN l i).f1 c 4 = true then seeL (rN l i).f3 c else []) ∨ x ∈ partsL fs (rN l i).f1 c 4 3 1 i ∨ x ∈ partsL fs (rN l i).f1 c 4 4 2 i) := by
        rw [← hpart, ← hpart]
        simp only [List.mem_flatMap, List.mem_append, mem_ite_nil]
        constructor
        · rintro ⟨v, hv, (hx | hx) | hx⟩
          · refine .inl ⟨?_, hx⟩
            have := kind_emp fs (rN l i).f1 c 4
            cases hk : kindB fs (rN l i).f1 c 4 with
            | true => rfl
            | false => rw [hk] at this; rw [List.isEmpty_iff.1 this] at hv; cases hv
          · exact .inr (.inl ⟨v, hv, hx⟩)
          · exact .inr (.inr ⟨v, hv, hx⟩)
        · rintro (⟨hk, hx⟩ | ⟨v, hv, hx⟩ | ⟨v, hv, hx⟩)
          · have := kind_emp fs (rN l i).f1 c 4
            rw [hk] at this
            obtain ⟨v, hv⟩ := List.isEmpty_eq_false_iff_exists_mem.1 this
            exact ⟨v, hv, .inl (.inl hx)⟩
          · exact ⟨v, hv, .inl (.inr hx)⟩
          · exact ⟨v, hv, .inr hx⟩
      rw [hm]
      cases kindB fs (rN l i).f1 c 2 <;> simp [or_assoc]
    simp only [k14, if_false]
    unfold oneI
    by_cases k10 : (rN l i).f0 = 10
    · simp only [k10, if_true]; exact htk 3 3
    simp only [k10, if_false]
    by_cases k11 : (rN l i).f0 = 11
    · simp only [k11, if_true]; exact htk 3 4
    simp only [k11, if_false]
    by_cases k16 : (rN l i).f0 = 16
    · simp only [k16, if_true]; exact htk 5 5
    simp only [k16, if_false]
    by_cases k15 : (rN l i).f0 = 15
    · simp only [k15, if_true, any_emp]
      cases anyB fs 0 (rN l i).f1 c <;> simp [flowP]
    simp only [k15, if_false]
    by_cases k18 : (rN l i).f0 = 18
    · simp only [k18, if_true, kind_emp, riseL]
      cases kindB fs (rN l i).f1 c 0 <;> simp
    simp only [k18, if_false]
    by_cases k19 : (rN l i).f0 = 19
    · simp only [k19, if_true, hasR_any h, flowP]
    simp only [k19, if_false]
end Go.Mach
end
section
set_option linter.unusedVariables false
set_option linter.unusedSimpArgs false
namespace Go.Mach
open Go Go.RowKit
structure FitF (l : List Nd) (f : Fc) : Prop where
  node : 0 ≤ f.n ∧ f.n < l.length
  vk : 0 ≤ f.v.k
  vn : 0 ≤ f.v.n ∧ f.v.n < l.length
  lam : f.v.k = 1 → lamB (rN l f.v.n) = true
  zero : f.k = 7 → f.v = ⟨0, 0, 0⟩
theorem Fit.one {l : List Nd} {fs : List Fc} (h : Fit l fs) {f : Fc} (hf : f ∈ fs) : FitF l f := ⟨h.node f hf, h.vk f hf, h.vn f hf, h.lam f hf, h.zero f hf⟩
theorem Fit.mk' {l : List Nd} {fs : List Fc} (hu : Up fs) (h : ∀ f ∈ fs, FitF l f) : Fit l fs := ⟨hu, fun f hf => (h f hf).node, fun f hf => (h f hf).vk, fun f hf => (h f hf).vn, fun f hf => (h f hf).lam, fun f hf => (h f hf).zero⟩
theorem mem_flowL {fs : List Fc} {a b c tk tn tc : Int} {x : Fc} (h : x ∈ flowL fs a b c tk tn tc) : ∃ v, (⟨a, b, c, v⟩ : Fc) ∈ fs ∧ x = ⟨tk, tn, tc, v⟩ := by
  unfold flowL mapF at h
  obtain ⟨v, hv, rfl⟩ := List.mem_map.1 h
  exact ⟨v, mem_vals.1 hv, rfl⟩
section
variable {l : List Nd} {fs : List Fc} {x : Fc}
theorem fit_flow (h : Fit l fs) {a b c tk tn tc : Int} (hx : x ∈ flowL fs a b c tk tn tc) (ht : 0 ≤ tn ∧ tn < l.length) (hk : tk ≠ 7) : FitF l x := by
  obtain ⟨v, hv, rfl⟩ := mem_flowL hx
  have := h.one hv
  exact ⟨ht, this.vk, this.vn, this.lam, fun e => absurd e hk⟩
theorem fit_see (hT : OkT l) {i c : Int} (hx : x ∈ seeL i c) (hi : 0 ≤ i ∧ i < l.length) : FitF l x := by
  have hs := hT.size
  simp only [seeL, List.mem_singleton] at hx
  subst hx
  exact ⟨hi, Int.le_refl _, ⟨Int.le_refl _, by dsimp only; omega⟩, fun e => absurd e (by dsimp only; omega), fun e => rfl⟩
theorem fit_rise (hT : OkT l) {b : Bool} {i c : Int} (hx : x ∈ riseL b i c) (hi : 0 ≤ i ∧ i < l.length) : FitF l x := by
  have hs := hT.size
  unfold riseL at hx
  split at hx
  · simp only [List.mem_singleton] at hx
    subst hx
    exact ⟨hi, Int.le_refl _, ⟨Int.le_refl _, by dsimp only; omega⟩, fun e => absurd e (by dsimp only; omega), fun e => rfl⟩
  · cases hx
theorem fit_new {k c vk vn vc : Int} {i : Int} (hx : x ∈ ([⟨k, i, c, ⟨vk, vn, vc⟩⟩] : List Fc)) (hi : 0 ≤ i ∧ i < l.length) (hk : k ≠ 7) (h1 : 0 ≤ vk) (h2 : 0 ≤ vn ∧ vn < l.length) (h3 : vk = 1 → lamB (rN l vn) = true) : FitF l x := by
  simp only [List.mem_singleton] at hx
  subst hx
  exact ⟨hi, h1, h2, h3, fun e => absurd e hk⟩
theorem kids_in (hT : OkT l) {i : Int} (h0 : 0 ≤ i) (h1 : i < l.length) : ∀ k ∈ kidsM (rN l i), 0 ≤ k ∧ k < l.length := fun k hk => by
  obtain ⟨st, _, _, ht, _⟩ := hT.tiled
  have := (ht.tile i.toNat (by omega)).1 k (by rw [Int.toNat_of_nonneg h0]; exact hk)
  omega
theorem fields_in (hT : OkT l) {i : Int} (h0 : 0 ≤ i) (h1 : i < l.length) : (0 ≤ (rN l i).f1 ∧ (rN l i).f1 < l.length) ∧ (0 ≤ (rN l i).f2 ∧ (rN l i).f2 < l.length) ∧ (0 ≤ (rN l i).f3 ∧ (rN l i).f3 < l.length) := by
  have hs := hT.size
  have hk := kids_in hT h0 h1
  have hf := hT.fld (j := i.toNat) (by omega)
  rw [Int.toNat_of_nonneg h0] at hf
  unfold fldB at hf
  simp only [Bool.and_eq_true] at hf
  obtain ⟨_, _, _, hr, _⟩ := hf
  simp only [restB, decide_eq_true_eq] at hr
  generalize rN l i = n at *
  have ha := arityM_le n.f0
  unfold kidsM at hk
  have hc : arityM n.f0 = 0 ∨ arityM n.f0 = 1 ∨ arityM n.f0 = 2 ∨ arityM n.f0 = 3 := by omega
  rcases hc with h | h | h | h <;> rw [h] at hk hr <;> simp at hk hr <;> refine ⟨?_, ?_, ?_⟩ <;> first | omega | (simp only [hr]; omega)
theorem climb_lt (hT : OkT l) {nm : ByteArray} : ∀ (n : Nat) (kid : Int), (climb l nm n kid).f0 < l.length
  | 0, kid => by have := hT.size; show (-1 : Int) < _; omega
  | n + 1, kid => by
    rw [climb]
    split
    · rename_i hp
      cases hh : hitN l nm kid with
      | none => exact climb_lt hT n _
      | some b =>
        have := (hitM_node hh).1
        rw [Option.getD_some, this]
        exact (hT.par_lt hp).2.2.1
    · have := hT.size; show (-1 : Int) < _; omega
theorem bindS_lt (hT : OkT l) (i : Int) : (bindS l i).f0 < l.length := by
  unfold bindS
  split
  · exact climb_lt hT _ _
  · have := hT.size; show (-1 : Int) < _; omega
theorem outerM_in (hT : OkT l) {f : Int} (h0 : 0 ≤ f) (h1 : f < l.length) (hl : lamB (rN l f) = true) {b : Bd} (h : b ∈ outerM l (bindsM l) f) : 0 ≤ b.f0 ∧ b.f0 < l.length := by
  have hd := hT.downs f h0 h1 (lam_ar hl)
  have hs := startM_le hT.downs hd.1 (by omega)
  obtain ⟨h2, k, h3, h4⟩ := outerN_mem _ h
  rw [rB_bindsM (by omega) (by omega)] at h4
  exact ⟨h2, by rw [h4]; exact bindS_lt hT _⟩
theorem parm_01 (n : Nd) : parm n = 0 ∨ parm n = 1 := by unfold parm; split <;> simp
theorem fit_call (hT : OkT l) (h : Fit l fs) {i c dp : Int} (hi : 0 ≤ i ∧ i < l.length) {nd : Nd} {v : Ab} (hv : 0 ≤ v.n ∧ v.n < l.length) (hl : v.k = 1 → lamB (rN l v.n) = true) (hx : x ∈ call1S (prM l dp) fs i c nd v) : FitF l x := by
  unfold call1S at hx
  split at hx
  · rename_i hc
    have hlam := hl hc.1
    have e : rLB (prM l dp).outer v.n = outerM l (bindsM l) v.n := by
      show rLB (outersM l) v.n = _
      rw [rLB_outersM hv.1 hv.2, if_pos hlam]
    have e2 : (prM l dp).l = l := rfl
    have hb := (fields_in hT hv.1 hv.2).1
    rw [e, e2] at hx
    simp only [List.mem_append] at hx
    have hp := parm_01 (rN l v.n)
    rcases hx with (((hx | hx) | hx) | hx) | hx
    · exact fit_flow h hx hv (by omega)
    · obtain ⟨b, hb1, hb2⟩ := List.mem_flatMap.1 hx
      have hr := outerM_role hT hv.1 hv.2 hlam hb1
      exact fit_flow h hb2 (outerM_in hT hv.1 hv.2 hlam hb1) (by omega)
    · exact fit_see hT hx hb
    · exact fit_flow h hx hi (by omega)
    · exact fit_rise hT hx hi
  · cases hx
theorem fit_parts (h : Fit l fs) {kid c kd part tk tn : Int} (hx : x ∈ partsL fs kid c kd part tk tn) (ht : 0 ≤ tn ∧ tn < l.length) (hk : tk ≠ 7) : FitF l x := by
  unfold partsL at hx
  obtain ⟨v, _, hx⟩ := List.mem_flatMap.1 hx
  unfold part1 at hx
  split at hx
  · exact fit_flow h hx ht hk
  · cases hx
theorem fit_flatMap {α : Type} {m : List α} {g : α → List Fc} (hx : x ∈ m.flatMap g) (h : ∀ a ∈ m, x ∈ g a → FitF l x) : FitF l x := by
  obtain ⟨a, ha, hx⟩ := List.mem_flatMap.1 hx
  exact h a ha hx
set_option maxHeartbeats 2000000 in
theorem fit_node (hC : Clo l) (h : Fit l fs) {i : Int} (h0 : 0 ≤ i) (h1 : i < l.length) {dp c : Int} (hx : x ∈ nodeS (prM l dp) fs i c) : FitF l x := by
  have hT := hC.ok
  have hi : 0 ≤ i ∧ i < l.length := ⟨h0, h1⟩
  obtain ⟨f1, f2, f3⟩ := fields_in hT h0 h1
  have hz : (0 : Int) ≤ 0 ∧ (0 : Int) < l.length := by have := hT.size; omega
  have e : rN (prM l dp).l i = rN l i := rfl
  have eb : rB (prM l dp).bind i = bindS l i := rB_bindsM h0 h1
  have hkid : x ∈ kidRiseS fs (rN l i) i c → FitF l x := fun hx => fit_flatMap hx fun a _ hx => fit_rise hT hx hi
  have hset : ∀ n2 : Int, x ∈ (vals fs 0 (rN l i).f1 c).flatMap (setS1 fs n2 c) → FitF l x := fun n2 hx => fit_flatMap hx fun a ha hx => by
    unfold setS1 at hx
    split at hx
    · exact fit_flow h hx (h.vn _ (mem_vals.1 ha)) (by omega)
    · cases hx
  have hcall : x ∈ callS (prM l dp) fs i c → FitF l x := fun hx => fit_flatMap hx fun a ha hx => fit_call hT h hi (h.vn _ (mem_vals.1 ha)) (h.lam _ (mem_vals.1 ha)) hx
  have hnew : ∀ k vk : Int, k ≠ 7 → 0 ≤ vk → vk ≠ 1 → x ∈ ([⟨k, i, c, ⟨vk, i, c⟩⟩] : List Fc) → FitF l x := fun k vk hk hv hv1 hx => fit_new hx hi hk hv hi (fun q => absurd q hv1)
  have hnul : ∀ k vk : Int, k ≠ 7 → 0 ≤ vk → vk ≠ 1 → x ∈ ([⟨k, i, c, ⟨vk, 0, 0⟩⟩] : List Fc) → FitF l x := fun k vk hk hv hv1 hx => fit_new hx hi hk hv hz (fun q => absurd q hv1)
  have hlam : ∀ k : Int, k ≠ 7 → lamB (rN l i) = true → x ∈ ([⟨k, i, c, ⟨1, i, c⟩⟩] : List Fc) → FitF l x := fun k hk hv hx => fit_new hx hi hk (by omega) hi (fun _ => hv)
  have hfl : ∀ a b d tk : Int, tk ≠ 7 → x ∈ flowL fs a b d tk i c → FitF l x := fun a b d tk hk hx => fit_flow h hx hi hk
  have htwo : x ∈ twoS (prM l dp) fs i c → FitF l x := fun hx => by
    unfold twoS at hx
    simp only [e, List.mem_append] at hx
    rcases hx with hx | hx
    · split at hx
      · exact fit_see hT hx f2
      · cases hx
    · split at hx
      · exact hcall hx
      · split at hx
        · simp only [List.mem_append] at hx
          rcases hx with (hx | hx) | hx
          · split at hx
            · rcases List.mem_append.1 hx with hx | hx
              · exact hfl _ _ _ _ (by omega) hx
              · exact hfl _ _ _ _ (by omega) hx
            · cases hx
          · split at hx
            · exact hset _ hx
            · cases hx
          · (repeat' split at hx)
            · exact hnew _ _ (by omega) (by omega) (by omega) hx
            · exact hnew _ _ (by omega) (by omega) (by omega) hx
            · exact hnul _ _ (by omega) (by omega) (by omega) hx
        · cases hx
  have hone : x ∈ oneS (prM l dp) fs i c → FitF l x := fun hx => by
    unfold oneS at hx
    simp only [e] at hx
    split at hx
    · simp only [List.mem_append, mem_ite_nil] at hx
      rcases hx with (hx | hx) | hx
      · exact fit_see hT hx.2 f2
      · exact hfl _ _ _ _ (by omega) hx
      · exact hfl _ _ _ _ (by omega) hx
    split at hx
    · simp only [List.mem_append, mem_ite_nil] at hx
      rcases hx with (hx | hx) | hx
      · rcases hx.2 with hx | hx
        · exact fit_see hT hx f2
        · exact fit_see hT hx f3
      · exact hfl _ _ _ _ (by omega) hx
      · exact hfl _ _ _ _ (by omega) hx
    split at hx
    · simp only [List.mem_append, mem_ite_nil] at hx
      rcases hx with ((((hx | hx) | hx) | hx) | hx) | hx
      · exact fit_see hT hx.2 f2
      · exact fit_see hT hx.2 f3
      · exact fit_parts h hx hi (by omega)
      · exact fit_parts h hx hi (by omega)
      · exact hfl _ _ _ _ (by omega) hx
      · exact hfl _ _ _ _ (by omega) hx
    split at hx
    · exact fit_parts h hx hi (by omega)
    split at hx
    · exact fit_parts h hx hi (by omega)
    split at hx
    · exact fit_parts h hx hi (by omega)
    split at hx
    · simp only [List.mem_append, mem_ite_nil] at hx
      rcases hx with hx | hx
      · exact hnew _ _ (by omega) (by omega) (by omega) hx.2
      · exact hfl _ _ _ _ (by omega) hx
    split at hx
    · exact fit_rise hT hx hi
    split at hx
    · simp only [List.mem_append, mem_ite_nil] at hx
      rcases hx with (hx | hx) | hx
      · rcases hx.2 with hx | hx
        · exact fit_see hT hx f2
        · exact hnul _ _ (by omega) (by omega) (by omega) hx
      · exact hfl _ _ _ _ (by omega) hx
      · exact hfl _ _ _ _ (by omega) hx
    · cases hx
  unfold nodeS at hx
  simp only [e, eb] at hx
  split at hx
  · rename_i k1
    have hb : (bindS l i).f1 = 0 ∨ (bindS l i).f1 = 1 := by
      rcases bindS_role l i with h5 | h5
      · have := hC.bound i h0 h1 k1
        rw [h5] at this; exact absurd this (by decide)
      · exact h5.2
    exact hfl _ _ _ _ (by omega) hx
  split at hx
  · exact hnul _ _ (by omega) (by omega) (by omega) hx
  split at hx
  · exact hnul _ _ (by omega) (by omega) (by omega) hx
  split at hx
  · rename_i k; exact hlam _ (by omega) (by simp [lamB, k]) hx
  split at hx
  · rename_i k
    simp only [List.mem_append] at hx
    rcases hx with ((hx | hx) | hx) | hx
    · exact hlam _ (by omega) (by simp [lamB, k]) hx
    · exact fit_see hT hx f2
    · exact hfl _ _ _ _ (by omega) hx
    · exact fit_rise hT hx hi
  simp only [List.mem_append] at hx
  rcases hx with (hx | hx) | hx
  · exact fit_see hT hx f1
  · exact hkid hx
  · split at hx
    · exact htwo hx
    · exact hone hx
end
def moreI (l : List Nd) (us : List Bd) (dp : Int) (fs : List Fc) : List Fc := fs.flatMap fun f => if f.k = 6 then nodeI l us dp fs f.n f.c else []
def passM (l : List Nd) (dp : Int) (fs : List Fc) : List Fc := passS (prM l dp) fs
theorem passM_fit {l : List Nd} (hC : Clo l) {fs : List Fc} (h : Fit l fs) (dp : Int) : Fit l (passM l dp fs) := by
  refine .mk' (h.up.insAll _) fun f hf => ?_
  unfold passM passS at hf
  rcases mem_insAll.1 hf with hf | hf
  · exact h.one hf
  · refine fit_flatMap hf fun a ha hx => ?_
    unfold pass1S at hx
    split at hx
    · have := h.node _ ha
      exact fit_node hC h this.1 this.2 hx
    · cases hx
theorem passM_le {l : List Nd} (dp : Int) (fs : List Fc) : fs.length ≤ (passM l dp fs).length := (len_insAll _ _).1
theorem pass_same {l : List Nd} (hC : Clo l) {fs : List Fc} (h : Fit l fs) (dp : Int) {r : List Fc} (hu : Up r) (hr : ∀ x, x ∈ r ↔ x ∈ moreI l (bindsM l) dp fs ∨ x ∈ fs) : r = passM l dp fs := by
  refine hu.ext (passM_fit hC h dp).up fun x => ?_
  rw [hr]
  unfold passM passS
  rw [mem_insAll, or_comm]
  refine or_congr Iff.rfl ?_
  unfold moreI
  simp only [List.mem_flatMap]
  refine exists_congr fun a => and_congr_right fun ha => ?_
  unfold pass1S
  by_cases hk : a.k = 6
  · rw [if_pos hk, if_pos hk]
    have := h.node _ ha
    exact node_mem hC h this.1 this.2 dp a.c x
  · rw [if_neg hk, if_neg hk]
def solveN (l : List Nd) (dp : Int) : Nat → List Fc → Option (List Fc)
  | 0, _ => none
  | n + 1, fs => if 2500 < (passM l dp fs).length then none else if (passM l dp fs).length = fs.length then some (passM l dp fs) else solveN l dp n (passM l dp fs)
def seedM (l : List Nd) : List Fc := [⟨6, l.length - 1, 0, ⟨0, 0, 0⟩⟩]
def cloB (l : List Nd) : Bool := okM l && decide (∀ i : Nat, i < l.length → (rN l i).f0 = 1 → 0 ≤ (bindS l i).f0)
def flowB (l : List Nd) (dp : Int) : Bool := cloB l && decide (0 ≤ dp ∧ dp ≤ 2)
def solveO (l : List Nd) (dp : Int) : Option (List Fc) := if flowB l dp then solveN l dp 400 (seedM l) else none
theorem cloB_iff {l : List Nd} : cloB l = true ↔ Clo l := by
  unfold cloB
  rw [Bool.and_eq_true, okM_iff, decide_eq_true_eq]
  constructor
  · rintro ⟨h1, h2⟩
    refine ⟨h1, fun i h0 h3 h4 => ?_⟩
    have := h2 i.toNat (by omega)
    rw [Int.toNat_of_nonneg h0] at this
    exact this h4
  · rintro ⟨h1, h2⟩
    exact ⟨h1, fun i hi => h2 i (by omega) (by omega)⟩
theorem seed_fit {l : List Nd} (hT : OkT l) : Fit l (seedM l) := by
  have hs := hT.size
  refine .mk' (List.pairwise_singleton _ _) fun f hf => ?_
  simp only [seedM, List.mem_singleton] at hf
  subst hf
  exact ⟨by dsimp only; omega, Int.le_refl _, by dsimp only; omega, fun e => absurd e (by dsimp only; omega), fun _ => rfl⟩
theorem solveN_fit {l : List Nd} (hC : Clo l) (dp : Int) : ∀ (n : Nat) (fs r : List Fc), Fit l fs → solveN l dp n fs = some r → Fit l r ∧ r.length ≤ 2500
  | 0, fs, r, _, h => by cases h
  | n + 1, fs, r, hf, h => by
    rw [solveN] at h
    split at h
    · cases h
    · split at h
      · cases h; exact ⟨passM_fit hC hf dp, by omega⟩
      · exact solveN_fit hC dp n _ r (passM_fit hC hf dp) h
theorem solveO_fit {l : List Nd} {dp : Int} {r : List Fc} (h : solveO l dp = some r) : Clo l ∧ Fit l r ∧ r.length ≤ 2500 := by
  unfold solveO at h
  split at h
  · rename_i hb
    unfold flowB at hb
    rw [Bool.and_eq_true] at hb
    have hC := cloB_iff.1 hb.1
    exact ⟨hC, solveN_fit hC dp 400 _ r (seed_fit hC.ok) h⟩
  · cases h
def solveR (l : List Nd) (dp : Int) : List Fc × Bool := match solveO l dp with
  | some fs => (fs, true)
  | none => ([], false)
def mayM (l : List Nd) (dp : Int) : Bool := match solveO l dp with
  | some fs => decide ((⟨7, l.length - 1, 0, ⟨0, 0, 0⟩⟩ : Fc) ∈ fs)
  | none => true
end Go.Mach
end
section
set_option linter.unusedVariables false
set_option linter.unusedSimpArgs false
namespace Go.Mach
open Go Go.RowKit
theorem wordB_no {s : ByteArray} {a : Int} (h0 : 0 ≤ a) (h1 : a < s.size) (h : ¬(97 ≤ std.byte s a ∧ std.byte s a ≤ 122)) : false = wordB s := by
  unfold wordB
  refine (decide_eq_false fun hw => h ?_).symm
  have := hw.1 a.toNat (by omega)
  rwa [Int.toNat_of_nonneg h0] at this
theorem wordB_end {s : ByteArray} {a : Int} {b : Bool} (h : s.size ≤ a) (hi : ∀ i : Nat, (i : Int) < a → 97 ≤ std.byte s i ∧ std.byte s i ≤ 122) (hb : b = decide (1 ≤ (s.size : Int) ∧ (s.size : Int) ≤ 8)) : b = wordB s := by
  subst hb
  unfold wordB
  apply decide_eq_decide.2
  constructor
  · intro h2; exact ⟨fun i h3 => hi i (by omega), by omega, by omega⟩
  · intro h2; omega
theorem word_step {s : ByteArray} {a : Int} (h0 : 0 ≤ a) (hi : ∀ i : Nat, (i : Int) < a → 97 ≤ std.byte s i ∧ std.byte s i ≤ 122) (h : 97 ≤ std.byte s a ∧ std.byte s a ≤ 122) : ∀ i : Nat, (i : Int) < a + 1 → 97 ≤ std.byte s i ∧ std.byte s i ≤ 122 := fun i hlt => by
  by_cases c : (i : Int) = a
  · rw [c]; exact h
  · exact hi i (by omega)
theorem keyB_hit {s y : ByteArray} {a : Int} (h0 : 0 ≤ a) (h1 : a < keyL.length) (hy : rS keyL a = y) (he : y.toList = s.toList) : true = keyB s := by
  unfold keyB
  refine (List.any_eq_true.2 ⟨rS keyL a, rdG_mem h0 h1, ?_⟩).symm
  rw [hy]; unfold eqS; rw [he]; exact beq_self_eq_true _
theorem key_step {s y : ByteArray} {a : Int} (h0 : 0 ≤ a) (h1 : a < keyL.length) (h : (keyL.take a.toNat).any (fun k => eqS k s) = false) (hy : rS keyL a = y) (he : ¬ y.toList = s.toList) : (keyL.take (a + 1).toNat).any (fun k => eqS k s) = false := by
  rw [take_succG ByteArray.empty h0 h1, List.any_append, h, show rdG ByteArray.empty keyL a = y from hy]
  simp [eqS, he]
theorem keyB_end {s : ByteArray} {a : Int} (h : keyL.length ≤ a) (hi : (keyL.take a.toNat).any (fun k => eqS k s) = false) : false = keyB s := by
  rw [take_allG h] at hi; exact hi.symm
theorem size_toList (s : ByteArray) : s.toList = (⟨#[]⟩ : ByteArray).toList ↔ s.size = 0 := by
  rw [ByteArray.toList_eq, ByteArray.toList_eq]
  have h : s.size = s.data.toList.length := Array.length_toList.symm
  rw [h]
  show s.data.toList = [] ↔ _
  exact List.length_eq_zero_iff.symm
theorem empty_name {s : ByteArray} (h : eqS s ⟨#[]⟩ = true) : nameB s = false := by
  have : s.size = 0 := (size_toList s).1 (by simpa [eqS] using h)
  unfold nameB wordB
  rw [decide_eq_false (by omega)]; rfl
theorem empty_eqS {s : ByteArray} : eqS s ⟨#[]⟩ = decide (s.toList = (⟨#[]⟩ : ByteArray).toList) := by
  unfold eqS
  by_cases h : s.toList = (⟨#[]⟩ : ByteArray).toList
  · rw [decide_eq_true h, h]; exact beq_self_eq_true _
  · rw [decide_eq_false h]; simpa using h
def Sz (l : List Nd) : Prop := ∀ x ∈ l, x.f5.size ≤ 1048576 ∧ x.f6.size ≤ 1048576
theorem Sz.at {l : List Nd} (h : Sz l) {i : Int} {y : Nd} (h0 : 0 ≤ i) (h1 : i < l.length) (hy : rN l i = y) : y.f5.size ≤ 1048576 ∧ y.f6.size ≤ 1048576 := by
  subst hy; exact h _ (rdG_mem h0 h1)
end Go.Mach
namespace Go.Mach
theorem fld_no1 {x : Nd} (h : ¬(1 ≤ x.f0 ∧ x.f0 ≤ 19)) : false = fldB x := by unfold fldB; rw [decide_eq_false h]; rfl
theorem fld_no2 {x : Nd} (h : nfitB x.f5 (decide (0 < namesM x.f0)) = false) : false = fldB x := by unfold fldB; rw [h]; simp
theorem fld_no3 {x : Nd} (h : nfitB x.f6 (decide (1 < namesM x.f0)) = false) : false = fldB x := by unfold fldB; rw [h]; simp
theorem fld_no4 {x : Nd} (h : ¬((arityM x.f0 < 1 → x.f1 = 0) ∧ (arityM x.f0 < 2 → x.f2 = 0) ∧ (arityM x.f0 < 3 → x.f3 = 0))) : false = fldB x := by unfold fldB restB; rw [decide_eq_false h]; simp
theorem fld_end {x : Nd} {b : Bool} (h1 : 1 ≤ x.f0 ∧ x.f0 ≤ 19) (h2 : nfitB x.f5 (decide (0 < namesM x.f0)) = true) (h3 : nfitB x.f6 (decide (1 < namesM x.f0)) = true) (h4 : (arityM x.f0 < 1 → x.f1 = 0) ∧ (arityM x.f0 < 2 → x.f2 = 0) ∧ (arityM x.f0 < 3 → x.f3 = 0)) (hb : b = numB x) : b = fldB x := by
  unfold fldB restB; rw [h2, h3, decide_eq_true h1, decide_eq_true h4, hb]; rfl
theorem nfit_lt {s : ByteArray} {m : Nat} {v k : Int} {b : Bool} (h : nfitB s (decide (k < v)) = b) (hv : (m : Int) = v) (n : Nat) (hn : (n : Int) = k) : nfitB s (decide (n < m)) = b := by
  rw [← h]; congr 1; apply decide_eq_decide.2; omega
theorem nfit_1 {s : ByteArray} {m n : Nat} {b : Bool} (h : n < m) (hs : nameB s = b) : nfitB s (decide (n < m)) = b := by rw [decide_eq_true h]; exact hs
theorem nfit_0t {s : ByteArray} {m n : Nat} (h : ¬ n < m) (hs : s.toList = (⟨#[]⟩ : ByteArray).toList) : nfitB s (decide (n < m)) = true := by rw [decide_eq_false h]; unfold nfitB eqS; rw [hs]; simp
theorem nfit_0f {s : ByteArray} {m n : Nat} (h : ¬ n < m) (hs : ¬ s.toList = (⟨#[]⟩ : ByteArray).toList) : nfitB s (decide (n < m)) = false := by rw [decide_eq_false h]; show (s.toList == (⟨#[]⟩ : ByteArray).toList) = false; exact beq_eq_false_iff_ne.2 hs
theorem nfit_0n {s : ByteArray} {m n : Nat} (h : ¬ n < m) (hs : nameB s = true) : nfitB s (decide (n < m)) = false := by
  rw [decide_eq_false h]
  cases he : eqS s ⟨#[]⟩ with
  | false => exact he
  | true => rw [empty_name he] at hs; cases hs
theorem rI3_0 (a b c : Int) : rI [a, b, c] 0 = a := rfl
theorem rI3_1 (a b c : Int) : rI [a, b, c] 1 = b := rfl
theorem rI3_2 (a b c : Int) : rI [a, b, c] 2 = c := rfl
theorem rest_end {t a b c i : Int} (h : 3 ≤ i) (hi : ∀ j : Nat, (j : Int) < i → j < 3 → arityM t ≤ j → rI [a, b, c] j = 0) : (arityM t < 1 → a = 0) ∧ (arityM t < 2 → b = 0) ∧ (arityM t < 3 → c = 0) := by
  have h0 := hi 0 (by omega) (by omega)
  have h1 := hi 1 (by omega) (by omega)
  have h2 := hi 2 (by omega) (by omega)
  exact ⟨fun h => h0 (by omega), fun h => h1 (by omega), fun h => h2 (by omega)⟩
theorem rest_no {t a b c i y : Int} (h0 : 0 ≤ i) (h1 : i < 3) (ha : (arityM t : Int) ≤ i) (hy : rI [a, b, c] i = y) (hn : ¬ y = 0) : ¬((arityM t < 1 → a = 0) ∧ (arityM t < 2 → b = 0) ∧ (arityM t < 3 → c = 0)) := by
  rintro ⟨q0, q1, q2⟩
  have : i = 0 ∨ i = 1 ∨ i = 2 := by omega
  rcases this with rfl | rfl | rfl
  · rw [rI3_0] at hy; exact hn (by rw [← hy]; exact q0 (by omega))
  · rw [rI3_1] at hy; exact hn (by rw [← hy]; exact q1 (by omega))
  · rw [rI3_2] at hy; exact hn (by rw [← hy]; exact q2 (by omega))
theorem rest_step {t a b c i y : Int} (h0 : 0 ≤ i) (hi : ∀ j : Nat, (j : Int) < i → j < 3 → arityM t ≤ j → rI [a, b, c] j = 0) (hy : rI [a, b, c] i = y) (hn : i < (arityM t : Int) ∨ y = 0) : ∀ j : Nat, (j : Int) < i + 1 → j < 3 → arityM t ≤ j → rI [a, b, c] j = 0 := fun j h1 h2 h3 => by
  by_cases e : (j : Int) = i
  · rcases hn with hn | hn
    · omega
    · rw [e, hy, hn]
  · exact hi j (by omega) h2 h3
end Go.Mach
namespace Go.Mach
theorem numB_0 {x : Nd} {q : Bool} (h2 : ¬ x.f0 = 2) (h8 : ¬ x.f0 = 8) (hq : q = (x.f4 == 0)) : q = numB x := by subst hq; unfold numB; rw [if_neg h2, if_neg h8]; by_cases h : x.f4 = 0 <;> simp [h]
theorem numB_2t {x : Nd} (h : x.f0 = 2) (hv : 0 ≤ x.f4 ∧ x.f4 ≤ 65535) : true = numB x := by unfold numB; rw [if_pos h, decide_eq_true hv]
theorem numB_2f {x : Nd} (h : x.f0 = 2) (hv : ¬(0 ≤ x.f4 ∧ x.f4 ≤ 65535)) : false = numB x := by unfold numB; rw [if_pos h, decide_eq_false hv]
theorem numB_8t {x : Nd} (h : x.f0 = 8) (hv : 0 ≤ x.f4 ∧ x.f4 ≤ 3) : true = numB x := by unfold numB; rw [if_neg (by omega), if_pos h, decide_eq_true hv]
theorem numB_8f {x : Nd} (h : x.f0 = 8) (hv : ¬(0 ≤ x.f4 ∧ x.f4 ≤ 3)) : false = numB x := by unfold numB; rw [if_neg (by omega), if_pos h, decide_eq_false hv]
end Go.Mach
namespace Go.Mach
theorem has4_hit {l : List Int} {x i y : Int} (h0 : 0 ≤ i) (h1 : i < l.length) (hy : rI l i = y) (he : y = x) : true = decide (x ∈ l) := by
  refine (decide_eq_true ?_).symm
  rw [← he, ← hy]; exact rdG_mem h0 h1
theorem has4_end {l : List Int} {x i : Int} (h : l.length ≤ i) (hi : x ∉ l.take i.toNat) : false = decide (x ∈ l) := by
  rw [take_allG h] at hi; exact (decide_eq_false hi).symm
theorem has4_step {l : List Int} {x i y : Int} (h0 : 0 ≤ i) (h1 : i < l.length) (hi : x ∉ l.take i.toNat) (hy : rI l i = y) (he : ¬ y = x) : x ∉ l.take (i + 1).toNat := by
  rw [take_succG 0 h0 h1, show rdG 0 l i = y from hy, List.mem_append, List.mem_singleton]
  rintro (h | h)
  · exact hi h
  · exact he h.symm
def stS (l : List Nd) (i : Int) : List Int := (startsO l i.toNat).getD []
def startsR (l : List Nd) : List Int × Bool := ((startsO l l.length).getD [], (startsO l l.length).isSome)
theorem stS_some {l : List Nd} {i : Int} (h : (startsO l i.toNat).isSome = true) : startsO l i.toNat = some (stS l i) := by
  unfold stS; cases hq : startsO l i.toNat with
  | none => rw [hq] at h; cases h
  | some s => rfl
theorem stS_bnd {l : List Nd} {i : Int} (h0 : 0 ≤ i) (h : (startsO l i.toNat).isSome = true) : ((stS l i).length : Int) = i ∧ ∀ j : Int, 0 ≤ j → j < i → 0 ≤ rI (stS l i) j ∧ rI (stS l i) j ≤ j := by
  obtain ⟨e1, e2, _⟩ := startsO_tile _ _ (stS_some h)
  refine ⟨by omega, fun j hj hji => ?_⟩
  have := e2 j.toNat (by omega)
  rwa [Int.toNat_of_nonneg hj] at this
theorem st_next {l : List Nd} {i a : Int} (h0 : 0 ≤ i) (h : (startsO l i.toNat).isSome = true) (hf : fldB (rN l i) = true) (hw : walkK (stS l i) (kidsM (rN l i)) (kidsM (rN l i)).length i = some a) : startsO l (i + 1).toNat = some (stS l i ++ [a]) := by
  rw [show (i + 1).toNat = i.toNat + 1 by omega, startsO, stS_some h, Option.bind_some, Int.toNat_of_nonneg h0, if_pos hf, hw]; rfl
theorem st_fail {l : List Nd} {i : Int} (h0 : 0 ≤ i) (h1 : i < l.length) (h : (startsO l i.toNat).isSome = true) (hn : fldB (rN l i) = false ∨ walkK (stS l i) (kidsM (rN l i)) (kidsM (rN l i)).length i = none) : startsO l l.length = none := by
  refine startsO_none (n := i.toNat + 1) ?_ _ (by omega)
  rw [startsO, stS_some h, Option.bind_some, Int.toNat_of_nonneg h0]
  rcases hn with hn | hn
  · rw [if_neg (by rw [hn]; exact Bool.false_ne_true)]
  · rw [hn]; split <;> rfl
theorem startsR_no {l : List Nd} (h : startsO l l.length = none) : startsR l = ([], false) := by unfold startsR; rw [h]; rfl
theorem startsR_yes {l : List Nd} {i : Int} (h0 : (l.length : Int) = i) (h : (startsO l i.toNat).isSome = true) : startsR l = (stS l i, true) := by
  subst h0
  have := stS_some h
  unfold startsR; rw [Int.toNat_natCast] at *; rw [this]; rfl
theorem walkK_at {st K : List Int} {k a : Int} (h : 0 ≤ k) : walkK st K (k + 1).toNat a = if rI K k = a - 1 ∧ 0 ≤ rI K k then walkK st K k.toNat (rI st (rI K k)) else none := by
  rw [show (k + 1).toNat = k.toNat + 1 by omega, walkK, Int.toNat_of_nonneg h]
theorem walkK_no {st K : List Int} {k a : Int} (h : 0 ≤ k) (hn : ¬(rI K k = a - 1 ∧ 0 ≤ rI K k)) : walkK st K (k + 1).toNat a = none := by rw [walkK_at h, if_neg hn]
theorem walkK_yes {st K : List Int} {k a y z : Int} (h : 0 ≤ k) (hy : rI K k = y) (h1 : y = a - 1) (h2 : 0 ≤ y) (hz : rI st y = z) : walkK st K (k + 1).toNat a = walkK st K (k - 1 + 1).toNat z := by
  rw [walkK_at h, hy, if_pos ⟨h1, h2⟩, hz, Int.sub_add_cancel]
end Go.Mach
end
section
set_option linter.unusedVariables false
set_option linter.unusedSimpArgs false
namespace Go.Mach
open Go Go.RowKit
theorem bnd_at {st : List Int} {i j y : Int} (hb : ∀ j : Int, 0 ≤ j → j < i → 0 ≤ rI st j ∧ rI st j ≤ j) (h0 : 0 ≤ j) (h1 : j < i) (hy : rI st j = y) : 0 ≤ y ∧ y ≤ j := by
  have := hb j h0 h1; rwa [hy] at this
theorem stS_next {l : List Nd} {i a : Int} (h0 : 0 ≤ i) (h : (startsO l i.toNat).isSome = true) (hf : fldB (rN l i) = true) (hw : walkK (stS l i) (kidsM (rN l i)) (kidsM (rN l i)).length i = some a) : stS l (i + 1) = stS l i ++ [a] := by
  have := st_next h0 h hf hw
  show (startsO l (i + 1).toNat).getD [] = _
  rw [this]; rfl
theorem walkK_zero {st K : List Int} {k a : Int} (h : k + 1 ≤ 0) : walkK st K (k + 1).toNat a = some a := by rw [show (k + 1).toNat = 0 by omega]; rfl
theorem at_nd {l : List Nd} {i : Int} {y : Nd} {P : Nd → Prop} (hy : rN l i = y) (h : P y) : P (rN l i) := hy ▸ h
end Go.Mach
end
section
set_option linter.unusedVariables false
set_option linter.unusedSimpArgs false
namespace Go.Mach
open Go Go.RowKit
theorem okM_len {l : List Nd} (h : ¬(1 ≤ (l.length : Int) ∧ (l.length : Int) ≤ 150)) : false = okM l := by
  unfold okM; rw [decide_eq_false (by omega)]; rfl
theorem startsR_len {l : List Nd} {v : List Int} (h : startsR l = (v, true)) : v.length = l.length := by
  unfold startsR at h
  simp only [Prod.mk.injEq] at h
  obtain ⟨s, hs⟩ := Option.isSome_iff_exists.1 h.2
  rw [hs] at h
  obtain ⟨rfl, _⟩ := h
  exact (startsO_tile _ _ hs).1
theorem okM_end {l : List Nd} {v : List Int} {y : Int} {q : Bool} (h1 : 1 ≤ (l.length : Int) ∧ (l.length : Int) ≤ 150) (h : startsR l = (v, true)) (hy : rI v (l.length - 1) = y) (hq : q = (y == 0)) : q = okM l := by
  subst hq; subst hy
  unfold startsR at h
  simp only [Prod.mk.injEq] at h
  obtain ⟨s, hs⟩ := Option.isSome_iff_exists.1 h.2
  rw [hs] at h
  obtain ⟨rfl, _⟩ := h
  unfold okM
  rw [decide_eq_true (by omega), hs]; rfl
theorem okM_no {l : List Nd} {v : List Int} (h : startsR l = (v, false)) : false = okM l := by
  unfold startsR at h
  simp only [Prod.mk.injEq, Option.isSome_eq_false_iff, Option.isNone_iff_eq_none] at h
  unfold okM
  rw [h.2, Bool.and_false]
theorem okT_startsR {l : List Nd} {v : List Int} {b : Bool} (hk : okM l = true) (h : startsR l = (v, b)) : v.length = l.length ∧ ∀ i : Int, 0 ≤ i → i < l.length → rI v i = startM l i := by
  have hT := okM_iff.1 hk
  obtain ⟨st, hs, h2, _⟩ := hT.tiled
  unfold startsR at h
  rw [hs] at h
  simp only [Prod.mk.injEq] at h
  obtain ⟨rfl, _⟩ := h
  exact ⟨h2, fun i h0 h1 => hT.startI hs h0 h1⟩
def startOfR (l : List Nd) (i : Int) : Int := if okM l = true ∧ 0 ≤ i ∧ i < l.length then startM l i else -1
def binderR (l : List Nd) (i : Int) : Bd := if okM l = true ∧ 0 ≤ i ∧ i < l.length then bindS l i else noB
theorem startOfR_no {l : List Nd} {i : Int} (h : okM l = false ∨ ¬(0 ≤ i ∧ i ≤ l.length - 1)) : -1 = startOfR l i := by
  unfold startOfR; rw [if_neg]; rintro ⟨h1, h2⟩
  rcases h with h | h
  · rw [h] at h1; cases h1
  · omega
theorem startOfR_yes {l : List Nd} {i y : Int} {v : List Int} {b : Bool} (hk : okM l = true) (h : 0 ≤ i ∧ i ≤ l.length - 1) (hv : startsR l = (v, b)) (hy : rI v i = y) : y = startOfR l i := by
  unfold startOfR; rw [if_pos ⟨hk, h.1, by omega⟩, ← hy]
  exact (okT_startsR hk hv).2 i h.1 (by omega)
theorem parS_no {l : List Nd} {i : Int} (h : okM l = false) : -1 = parS l i := by
  unfold parS; rw [h]; rfl
theorem par_step {l : List Nd} {i a : Int} (h0 : 0 ≤ a) (h : ∀ j : Nat, (j : Int) < a → i ∉ kidsM (rN l j)) (hn : i ∉ kidsM (rN l a)) : ∀ j : Nat, (j : Int) < a + 1 → i ∉ kidsM (rN l j) := fun j hj => by
  by_cases e : (j : Int) = a
  · rw [e]; exact hn
  · exact h j (by omega)
theorem binderR_no {l : List Nd} {i : Int} (h : okM l = false ∨ ¬(0 ≤ i ∧ i ≤ l.length - 1) ∨ ∃ y, rN l i = y ∧ ¬ y.f0 = 1) : noB = binderR l i := by
  unfold binderR
  split
  · rename_i hc
    rcases h with h | h | ⟨y, h, h2⟩
    · rw [h] at hc; exact absurd hc.1 (by decide)
    · omega
    · unfold bindS; rw [h, if_neg h2]
  · rfl
theorem binderR_yes {l : List Nd} {i : Int} {y : Nd} {b : Bd} (hk : okM l = true) (h : 0 ≤ i ∧ i ≤ l.length - 1) (hy : rN l i = y) (h1 : y.f0 = 1) (hb : climbM l y.f5 i = b) : b = binderR l i := by
  unfold binderR; rw [if_pos ⟨hk, h.1, by omega⟩]
  unfold bindS; rw [hy, if_pos h1, hb]
theorem hit_start {l : List Nd} {nm : ByteArray} {kid q : Int} {ns : List ByteArray} {rs : List Int} (hq : q = parS l kid) {p : Nd} (hp : rN l q = p) (hb : bindM p kid = (ns, rs)) : hitN l nm kid = hitM q nm (ns.drop (0 : Int).toNat) (rs.drop (0 : Int).toNat) ∧ rs.length = ns.length := by
  subst hq
  unfold hitN
  rw [hp, hb]
  have := (len_bindM p kid).1
  rw [hb] at this
  exact ⟨rfl, this⟩
theorem hit_next {l : List Nd} {nm y : ByteArray} {kid q k : Int} {ns : List ByteArray} {rs : List Int} (hl : rs.length = ns.length) (h0 : 0 ≤ k) (h1 : k < ns.length) (hy : rS ns k = y) (he : ¬ y.toList = nm.toList) (h : hitN l nm kid = hitM q nm (ns.drop k.toNat) (rs.drop k.toNat)) :
    hitN l nm kid = hitM q nm (ns.drop (k + 1).toNat) (rs.drop (k + 1).toNat) := by
  rw [h, hitM_step hl h0 h1, hy, if_neg (by unfold eqS; simpa using he)]
theorem hit_yes {l : List Nd} {nm y : ByteArray} {kid q k r : Int} {ns : List ByteArray} {rs : List Int} (hl : rs.length = ns.length) (h0 : 0 ≤ k) (h1 : k < ns.length) (hy : rS ns k = y) (he : y.toList = nm.toList) (hr : rI rs k = r) (h : hitN l nm kid = hitM q nm (ns.drop k.toNat) (rs.drop k.toNat)) :
    hitN l nm kid = some ⟨q, r⟩ := by
  rw [h, hitM_step hl h0 h1, hy, if_pos (by unfold eqS; rw [he]; exact beq_self_eq_true _), hr]
theorem hit_none {l : List Nd} {nm : ByteArray} {kid q k : Int} {ns : List ByteArray} {rs : List Int} (h1 : (ns.length : Int) ≤ k) (h : hitN l nm kid = hitM q nm (ns.drop k.toNat) (rs.drop k.toNat)) : hitN l nm kid = none := by
  rw [h, hitM_end h1]
theorem climb_hit {l : List Nd} (hT : OkT l) {nm : ByteArray} {kid : Int} {b : Bd} (hp : 0 ≤ parS l kid) (h : hitN l nm kid = some b) : climbM l nm kid = b := by rw [climbM_up hT hp, h]; rfl
theorem climb_on {l : List Nd} (hT : OkT l) {nm : ByteArray} {kid : Int} (hp : 0 ≤ parS l kid) (h : hitN l nm kid = none) : climbM l nm kid = climbM l nm (parS l kid) := by rw [climbM_up hT hp, h]; rfl
end Go.Mach
end
