/- The program's UnionClasses and the reference's return the same at every list of numbers. No condition beyond the statement's own. -/
import Derived.Test.YtcakbhpmhekmcaaPFnExactUnionClassesx2
import Derived.Test.YtcakbhpmhekmcaaWSized
namespace Go.Proofs.Ytcakbhpmhekmcaa.PrintWords
/-- The printed row names this word from here. -/
theorem sized_ints : type_of% @Go.Proofs.YtcakbhpmhekmcaaW.PrintWords.sized_ints := @Go.Proofs.YtcakbhpmhekmcaaW.PrintWords.sized_ints
end Go.Proofs.Ytcakbhpmhekmcaa.PrintWords
namespace Go.Proofs.Ytcakbhpmhekmcaa.Pure
open Go.RowKit Go.Proofs.Ytcakbhpmhekmcaa.PFnExactUnionClasses Go.Proofs.YtcakbhpmhekmcaaW.PrintWords Go.Proofs.YtcakbhpmhekmcaaW.PrintLast
set_option linter.unusedVariables false
set_option linter.unusedSimpArgs false

/-! Small words on `Ev`. -/
theorem evP {α : Type} {c : Prop} [Decidable c] {f g : Nat → Option α} {r : α} (h : c) (hf : Ev f r) : Ev (fun k => if c then f k else g k) r :=
  Ev.congr (fun _ => if_pos h) hf
theorem evN {α : Type} {c : Prop} [Decidable c] {f g : Nat → Option α} {r : α} (h : ¬ c) (hg : Ev g r) : Ev (fun k => if c then f k else g k) r :=
  Ev.congr (fun _ => if_neg h) hg
theorem evI {α : Type} {c : Prop} [Decidable c] {f g : Nat → Option α} {r : α} (hf : c → Ev f r) (hg : ¬ c → Ev g r) : Ev (fun k => if c then f k else g k) r := by
  by_cases h : c
  · exact evP h (hf h)
  · exact evN h (hg h)
theorem evB {α β : Type} {a : α} {f : Nat → α → Option β} {r : β} (h : Ev (fun k => f k a) r) : Ev (fun k => (some a).bind (f k)) r := h
theorem evS {α β : Type} {x : Option α} {a : α} {f : Nat → α → Option β} {r : β} (e : x = some a) (h : Ev (fun k => f k a) r) : Ev (fun k => x.bind (f k)) r := by
  subst e; exact h
theorem evC {α : Type} {x : Option α} {r : α} (h : x = some r) : Ev (fun _ => x) r := by subst h; exact Ev.now _
theorem w64 {i : Int} (h0 : -9223372036854775808 ≤ i) (h1 : i ≤ 9223372036854775807) : wrap64 i = i := by unfold wrap64; omega
theorem rd_nat (l : List Int) (i : Nat) : rd l (i : Int) = l.getD i 0 := rfl
theorem rd_cons_drop (l : List Int) (i : Nat) (h : i < l.length) : l.drop i = rd l (i : Int) :: l.drop (i + 1) := by
  rw [rd_nat, List.drop_eq_getElem_cons h, List.getD_eq_getElem?_getD, List.getElem?_eq_getElem h]; rfl
theorem set_mid {α : Type} (a b : List α) (x y : α) (i : Nat) (h : a.length = i) : (a ++ x :: b).set i y = (a ++ [y]) ++ b := by
  subst h
  rw [List.set_append_right _ _ (Nat.le_refl _), Nat.sub_self, List.set_cons_zero]; simp
theorem take_snoc {α : Type} (l : List α) (z : α) (i : Nat) (h : i < l.length) : l.take i ++ [l.getD i z] = l.take (i + 1) := by
  rw [List.take_succ_eq_append_getElem h, List.getD_eq_getElem?_getD, List.getElem?_eq_getElem h]; rfl

theorem toIntS_l (l : List Int) (hm : l.length ≤ 1048576) : ∀ (d i : Nat), i + d = l.length →
    Ev (fun k => laws_toIntS.l0 k l (l.take i ++ List.replicate d 0) (i : Int)) l := by
  intro d
  induction d with
  | zero =>
    intro i h
    refine Ev.step (fun k => by rw [laws_toIntS.l0]) ?_
    refine evN (by omega) ?_
    have e : l.take i ++ List.replicate 0 0 = l := by rw [List.replicate_zero, List.append_nil, List.take_of_length_le (by omega)]
    rw [e]; exact Ev.now _
  | succ d ih =>
    intro i h
    refine Ev.step (fun k => by rw [laws_toIntS.l0]) ?_
    refine evP (by omega) (evP (by omega) (evP (by rw [List.length_append, List.length_take, List.length_replicate]; omega) ?_))
    have hi : i < l.length := by omega
    have e : (l.take i ++ List.replicate (d + 1) 0).set (i : Int).toNat (rd l i) = l.take (i + 1) ++ List.replicate d 0 := by
      rw [List.replicate_succ, Int.toNat_natCast, set_mid _ _ _ _ _ (by rw [List.length_take]; omega), rd_nat, take_snoc _ _ _ hi]
    rw [e, w64 (by omega) (by omega)]
    have := ih (i + 1) (by omega)
    exact this
theorem toIntS_ev (l : List Int) (hm : l.length ≤ 1048576) : Ev (fun k => laws_toIntS.f k l) l := by
  unfold laws_toIntS.f
  refine evP (by omega) (evP (by omega) ?_)
  rw [Int.toNat_natCast]
  have h := toIntS_l l hm l.length 0 (by omega)
  simpa using h

theorem eqIntS_l (l m : List Int) (hm : l.length ≤ 1048576) (hl : l.length = m.length) : ∀ (d i : Nat), i + d = l.length →
    Ev (fun k => laws_eqIntS.l0 k l m (i : Int)) (decide (l.drop i = m.drop i)) := by
  intro d
  induction d with
  | zero =>
    intro i h
    refine Ev.step (fun k => by rw [laws_eqIntS.l0]) ?_
    refine evN (by omega) ?_
    rw [List.drop_of_length_le (by omega), List.drop_of_length_le (by omega)]
    exact Ev.now _
  | succ d ih =>
    intro i h
    refine Ev.step (fun k => by rw [laws_eqIntS.l0]) ?_
    refine evP (by omega) (evP (by omega) (evP (by omega) ?_))
    rw [rd_cons_drop l i (by omega), rd_cons_drop m i (by omega), w64 (by omega) (by omega)]
    refine evI (fun e => ?_) (fun e => ?_)
    · rw [e]
      have := ih (i + 1) (by omega)
      simpa using this
    · have : decide (rd l (i : Int) :: l.drop (i + 1) = rd m (i : Int) :: m.drop (i + 1)) = false := by simp [e]
      rw [this]; exact Ev.now _
theorem eqIntS_ev (l m : List Int) (hm : l.length ≤ 1048576) : Ev (fun k => laws_eqIntS.f k l m) (decide (l = m)) := by
  unfold laws_eqIntS.f
  refine evI (fun e => ?_) (fun e => ?_)
  · have h := eqIntS_l l m hm (by omega) l.length 0 (by omega)
    simpa using h
  · have : decide (l = m) = false := by simp; intro h; subst h; exact e rfl
    rw [this]; exact Ev.now _
theorem eqIntS_self (l : List Int) (hm : l.length ≤ 1048576) : Ev (fun k => laws_eqIntS.f k l l) true := by
  have := eqIntS_ev l l hm
  simpa using this

theorem spec_in_eq (a b c : Int) : spec_l1In.f a b c = some (decide (a ≥ b) && decide (a ≤ c)) := by
  unfold spec_l1In.f
  by_cases h : a ≥ b <;> simp [h]

theorem impl_in_eq (a b c : Int) : impl_in.f a b c = some (decide (a ≥ b) && decide (a ≤ c)) := by
  unfold impl_in.f
  by_cases h : a ≥ b <;> simp [h]

/-- Is each from 0 to its own place, from place i on, d of them? -/
def uokFrom (l : List Int) : Nat → Nat → Bool
  | 0, _ => true
  | d + 1, i => decide (rd l (i : Int) ≥ 0) && decide (rd l (i : Int) ≤ (i : Int)) && uokFrom l d (i + 1)
def uok (l : List Int) : Bool := decide (l.length ≤ 40) && uokFrom l l.length 0
theorem uokFrom_at (l : List Int) : ∀ (d i : Nat), uokFrom l d i = true → ∀ j, i ≤ j → j < i + d → 0 ≤ rd l (j : Int) ∧ rd l (j : Int) ≤ (j : Int) := by
  intro d
  induction d with
  | zero => intro i _ j h1 h2; omega
  | succ d ih =>
    intro i h j h1 h2
    simp only [uokFrom, Bool.and_eq_true, decide_eq_true_eq] at h
    by_cases e : j = i
    · subst e; exact ⟨h.1.1, h.1.2⟩
    · exact ih (i + 1) h.2 j (by omega) (by omega)
theorem uok_at {l : List Int} (h : uok l = true) : l.length ≤ 40 ∧ ∀ j : Nat, j < l.length → 0 ≤ rd l (j : Int) ∧ rd l (j : Int) ≤ (j : Int) := by
  simp only [uok, Bool.and_eq_true, decide_eq_true_eq] at h
  exact ⟨h.1, fun j hj => uokFrom_at l _ _ h.2 j (by omega) (by omega)⟩
theorem uok_atI {l : List Int} (h : uok l = true) (i : Int) (h0 : 0 ≤ i) (h1 : i < l.length) : 0 ≤ rd l i ∧ rd l i ≤ i := by
  have := (uok_at h).2 i.toNat (by omega)
  rw [show ((i.toNat : Nat) : Int) = i by omega] at this
  exact this

theorem spec_uok_l (l : List Int) (hm : l.length ≤ 1048576) : ∀ (d i : Nat), i + d = l.length → Ev (fun k => spec_UnionOk.l0 k l (i : Int)) (uokFrom l d i) := by
  intro d
  induction d with
  | zero =>
    intro i h
    refine Ev.step (fun k => by rw [spec_UnionOk.l0]) ?_
    exact evN (by omega) (Ev.now _)
  | succ d ih =>
    intro i h
    refine Ev.step (fun k => by rw [spec_UnionOk.l0]) ?_
    refine evP (by omega) (evP (by omega) ?_)
    refine evS (spec_in_eq _ _ _) ?_
    rw [uokFrom]
    refine evI (fun e => ?_) (fun e => ?_)
    · rw [e, Bool.true_and, w64 (by omega) (by omega)]
      exact ih (i + 1) (by omega)
    · rw [Bool.not_eq_true] at e
      rw [e, Bool.false_and]; exact Ev.now _
theorem spec_uok_ev (l : List Int) (hm : l.length ≤ 1048576) : Ev (fun k => spec_UnionOk.f k l) (uok l) := by
  unfold spec_UnionOk.f uok
  refine evI (fun e => ?_) (fun e => ?_)
  · rw [decide_eq_false (by omega), Bool.false_and]; exact Ev.now _
  · rw [decide_eq_true (by omega), Bool.true_and]
    exact spec_uok_l l hm l.length 0 (by omega)

theorem impl_uok_l (l : List Int) (hm : l.length ≤ 1048576) : ∀ (d i : Nat), i + d = l.length →
    Ev (fun k => impl_UnionOk.l0 k l l (l.length : Int) (i : Int)) (decide (l.length ≤ 40) && uokFrom l d i) := by
  intro d
  induction d with
  | zero =>
    intro i h
    refine Ev.step (fun k => by rw [impl_UnionOk.l0]) ?_
    refine evN (by omega) ?_
    have e : (decide ((l.length : Int) ≤ 40)) = (decide (l.length ≤ 40) && uokFrom l 0 i) := by
      rw [uokFrom, Bool.and_true]; apply decide_eq_decide.2; omega
    rw [← e]; exact Ev.now _
  | succ d ih =>
    intro i h
    refine Ev.step (fun k => by rw [impl_UnionOk.l0]) ?_
    refine evP (by omega) (evP (by omega) (evP (by omega) ?_))
    refine evS (impl_in_eq _ _ _) ?_
    rw [uokFrom]
    refine evI (fun e => ?_) (fun e => ?_)
    · rw [e, Bool.true_and, w64 (by omega) (by omega)]
      exact ih (i + 1) (by omega)
    · rw [Bool.not_eq_true] at e
      rw [e, Bool.false_and, Bool.and_false]; exact Ev.now _
theorem impl_uok_ev (l : List Int) (hm : l.length ≤ 1048576) : Ev (fun k => impl_UnionOk.f k l) (uok l) := by
  unfold impl_UnionOk.f uok
  exact impl_uok_l l hm l.length 0 (by omega)

/-- How many of d places from i on stand in their own. -/
def ucnt (l : List Int) : Nat → Nat → Int
  | 0, _ => 0
  | d + 1, i => (if rd l (i : Int) = (i : Int) then 1 else 0) + ucnt l d (i + 1)
theorem ucnt_le (l : List Int) : ∀ d i, 0 ≤ ucnt l d i ∧ ucnt l d i ≤ d := by
  intro d
  induction d with
  | zero => intro i; simp [ucnt]
  | succ d ih => intro i; have := ih (i + 1); rw [ucnt]; split <;> omega
def uclasses (l : List Int) : Int := if uok l = true then ucnt l l.length 0 else 0
theorem spec_ucnt_ev {l : List Int} (hm : l.length ≤ 1048576) (hu : uok l = true) : ∀ (d i : Nat) (c : Int), i + d = l.length → 0 ≤ c → c ≤ i →
    Ev (fun k => spec_UnionClasses.l0 k l c (i : Int)) (c + ucnt l d i) := by
  intro d
  induction d with
  | zero =>
    intro i c h h0 h1
    refine Ev.step (fun k => by rw [spec_UnionClasses.l0]) ?_
    refine evN (by omega) ?_
    refine Ev.step (fun k => by rw [spec_UnionClasses.j1]) ?_
    refine evN (by simp) ?_
    rw [ucnt, Int.add_zero]; exact Ev.now _
  | succ d ih =>
    intro i c h h0 h1
    refine Ev.step (fun k => by rw [spec_UnionClasses.l0]) ?_
    refine evP (by omega) ?_
    refine Ev.bind (spec_uok_ev l hm) ?_
    rw [hu]
    refine Ev.step (fun k => by rw [spec_UnionClasses.j1]) ?_
    refine evP rfl (evP (by omega) (evP (by omega) ?_))
    rw [w64 (by omega) (by omega), w64 (by omega) (by omega), ucnt]
    refine evI (fun e => ?_) (fun e => ?_)
    · rw [if_pos e]
      have := ih (i + 1) (c + 1) (by omega) (by omega) (by omega)
      rw [show c + (1 + ucnt l d (i + 1)) = c + 1 + ucnt l d (i + 1) by omega]
      exact this
    · rw [if_neg e]
      have := ih (i + 1) c (by omega) (by omega) (by omega)
      rw [Int.zero_add]; exact this
theorem spec_uclasses_ev (l : List Int) (hm : l.length ≤ 1048576) : Ev (fun k => spec_UnionClasses.f k l) (uclasses l) := by
  unfold spec_UnionClasses.f uclasses
  by_cases hu : uok l = true
  · rw [if_pos hu]
    have := spec_ucnt_ev hm hu l.length 0 0 (by omega) (by omega) (by omega)
    rw [Int.zero_add] at this; exact this
  · rw [if_neg hu]
    rw [Bool.not_eq_true] at hu
    refine Ev.step (fun k => by rw [spec_UnionClasses.l0]) ?_
    refine evI (fun e => ?_) (fun e => ?_)
    · refine Ev.bind (spec_uok_ev l hm) ?_
      rw [hu]
      refine Ev.step (fun k => by rw [spec_UnionClasses.j1]) ?_
      exact evN (by simp) (Ev.now _)
    · refine Ev.step (fun k => by rw [spec_UnionClasses.j1]) ?_
      exact evN (by simp) (Ev.now _)
theorem impl_ucnt_ev {l : List Int} (hm : l.length ≤ 1048576) : ∀ (d i : Nat) (c : Int), i + d = l.length → 0 ≤ c → c ≤ i →
    Ev (fun k => impl_UnionClasses.l0 k c l (l.length : Int) (i : Int)) (c + ucnt l d i) := by
  intro d
  induction d with
  | zero =>
    intro i c h h0 h1
    refine Ev.step (fun k => by rw [impl_UnionClasses.l0]) ?_
    refine evN (by omega) ?_
    rw [ucnt, Int.add_zero]; exact Ev.now _
  | succ d ih =>
    intro i c h h0 h1
    refine Ev.step (fun k => by rw [impl_UnionClasses.l0]) ?_
    refine evP (by omega) (evP (by omega) (evP (by omega) ?_))
    rw [w64 (by omega) (by omega), w64 (by omega) (by omega), ucnt]
    refine evI (fun e => ?_) (fun e => ?_)
    · rw [if_pos e]
      have := ih (i + 1) (c + 1) (by omega) (by omega) (by omega)
      rw [show c + (1 + ucnt l d (i + 1)) = c + 1 + ucnt l d (i + 1) by omega]
      exact this
    · rw [if_neg e]
      have := ih (i + 1) c (by omega) (by omega) (by omega)
      rw [Int.zero_add]; exact this
theorem impl_uclasses_ev (l : List Int) (hm : l.length ≤ 1048576) : Ev (fun k => impl_UnionClasses.f k l) (uclasses l) := by
  unfold impl_UnionClasses.f uclasses
  refine Ev.bind (impl_uok_ev l hm) ?_
  refine evI (fun hu => ?_) (fun hu => ?_)
  · rw [if_pos hu]
    have := impl_ucnt_ev hm l.length 0 0 (by omega) (by omega) (by omega)
    rw [Int.zero_add] at this; exact this
  · rw [if_neg hu]; exact Ev.now _

theorem FnExactUnionClasses : laws_FnExactUnionClasses.Pure := by
  intro l0 _ _ _
  apply Ev.rounds
  unfold laws_FnExactUnionClasses.f
  refine evI (fun _ => Ev.now _) (fun hm => ?_)
  have hm : l0.length ≤ 1048576 := by omega
  refine Ev.bind (toIntS_ev l0 hm) ?_
  refine Ev.bind (spec_uclasses_ev l0 hm) ?_
  refine Ev.bind (toIntS_ev l0 hm) ?_
  refine Ev.bind (impl_uclasses_ev l0 hm) ?_
  refine evP rfl ?_
  refine Ev.bind (toIntS_ev l0 hm) ?_
  refine Ev.bind (eqIntS_self l0 hm) ?_
  exact evP rfl (Ev.now _)

end Go.Proofs.Ytcakbhpmhekmcaa.Pure
