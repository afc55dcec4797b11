/- The program's UnionNew and the reference's return the same at every number. No condition beyond the statement's own. -/
import Derived.Test.YtcakbhpmhekmcaaPFnExactUnionNewx1
namespace Go.Proofs.Ytcakbhpmhekmcaa.Pure
open Go.RowKit Go.Proofs.Ytcakbhpmhekmcaa.PFnExactUnionNew Go.Proofs.YtcakbhpmhekmcaaW.PrintWords Go.Proofs.YtcakbhpmhekmcaaW.PrintLast
set_option linter.unusedVariables false
set_option linter.unusedSimpArgs false

/-! Small words on `Ev`. -/
theorem evP {α : Type} {c : Prop} [Decidable c] {f g : Nat → Option α} {r : α} (h : c) (hf : Ev f r) : Ev (fun k => if c then f k else g k) r :=
  Ev.congr (fun _ => if_pos h) hf
theorem evN {α : Type} {c : Prop} [Decidable c] {f g : Nat → Option α} {r : α} (h : ¬ c) (hg : Ev g r) : Ev (fun k => if c then f k else g k) r :=
  Ev.congr (fun _ => if_neg h) hg
theorem evI {α : Type} {c : Prop} [Decidable c] {f g : Nat → Option α} {r : α} (hf : c → Ev f r) (hg : ¬ c → Ev g r) : Ev (fun k => if c then f k else g k) r := by
  by_cases h : c
  · exact evP h (hf h)
  · exact evN h (hg h)
theorem evB {α β : Type} {a : α} {f : Nat → α → Option β} {r : β} (h : Ev (fun k => f k a) r) : Ev (fun k => (some a).bind (f k)) r := h
theorem evS {α β : Type} {x : Option α} {a : α} {f : Nat → α → Option β} {r : β} (e : x = some a) (h : Ev (fun k => f k a) r) : Ev (fun k => x.bind (f k)) r := by
  subst e; exact h
theorem evC {α : Type} {x : Option α} {r : α} (h : x = some r) : Ev (fun _ => x) r := by subst h; exact Ev.now _
theorem w64 {i : Int} (h0 : -9223372036854775808 ≤ i) (h1 : i ≤ 9223372036854775807) : wrap64 i = i := by unfold wrap64; omega
theorem rd_nat (l : List Int) (i : Nat) : rd l (i : Int) = l.getD i 0 := rfl
theorem rd_cons_drop (l : List Int) (i : Nat) (h : i < l.length) : l.drop i = rd l (i : Int) :: l.drop (i + 1) := by
  rw [rd_nat, List.drop_eq_getElem_cons h, List.getD_eq_getElem?_getD, List.getElem?_eq_getElem h]; rfl
theorem set_mid {α : Type} (a b : List α) (x y : α) (i : Nat) (h : a.length = i) : (a ++ x :: b).set i y = (a ++ [y]) ++ b := by
  subst h
  rw [List.set_append_right _ _ (Nat.le_refl _), Nat.sub_self, List.set_cons_zero]; simp
theorem take_snoc {α : Type} (l : List α) (z : α) (i : Nat) (h : i < l.length) : l.take i ++ [l.getD i z] = l.take (i + 1) := by
  rw [List.take_succ_eq_append_getElem h, List.getD_eq_getElem?_getD, List.getElem?_eq_getElem h]; rfl

theorem eqIntS_l (l m : List Int) (hm : l.length ≤ 1048576) (hl : l.length = m.length) : ∀ (d i : Nat), i + d = l.length →
    Ev (fun k => laws_eqIntS.l0 k l m (i : Int)) (decide (l.drop i = m.drop i)) := by
  intro d
  induction d with
  | zero =>
    intro i h
    refine Ev.step (fun k => by rw [laws_eqIntS.l0]) ?_
    refine evN (by omega) ?_
    rw [List.drop_of_length_le (by omega), List.drop_of_length_le (by omega)]
    exact Ev.now _
  | succ d ih =>
    intro i h
    refine Ev.step (fun k => by rw [laws_eqIntS.l0]) ?_
    refine evP (by omega) (evP (by omega) (evP (by omega) ?_))
    rw [rd_cons_drop l i (by omega), rd_cons_drop m i (by omega), w64 (by omega) (by omega)]
    refine evI (fun e => ?_) (fun e => ?_)
    · rw [e]
      have := ih (i + 1) (by omega)
      simpa using this
    · have : decide (rd l (i : Int) :: l.drop (i + 1) = rd m (i : Int) :: m.drop (i + 1)) = false := by simp [e]
      rw [this]; exact Ev.now _
theorem eqIntS_ev (l m : List Int) (hm : l.length ≤ 1048576) : Ev (fun k => laws_eqIntS.f k l m) (decide (l = m)) := by
  unfold laws_eqIntS.f
  refine evI (fun e => ?_) (fun e => ?_)
  · have h := eqIntS_l l m hm (by omega) l.length 0 (by omega)
    simpa using h
  · have : decide (l = m) = false := by simp; intro h; subst h; exact e rfl
    rw [this]; exact Ev.now _
theorem eqIntS_self (l : List Int) (hm : l.length ≤ 1048576) : Ev (fun k => laws_eqIntS.f k l l) true := by
  have := eqIntS_ev l l hm
  simpa using this

/-- What a row of numbers is marked with: m, m + 1, .. -/
def marks (m : Int) : Nat → List Int
  | 0 => []
  | n + 1 => m :: marks (m + 1) n
theorem marks_length (n : Nat) : ∀ m, (marks m n).length = n := by
  induction n with
  | zero => intro m; rfl
  | succ n ih => intro m; simp [marks, ih]
theorem marks_get (n : Nat) : ∀ (m : Int) (i : Nat), i < n → (marks m n)[i]? = some (m + i) := by
  induction n with
  | zero => intro m i h; omega
  | succ n ih =>
    intro m i h
    cases i with
    | zero => simp [marks]
    | succ i => rw [marks, List.getElem?_cons_succ, ih (m + 1) i (by omega)]; congr 1; omega
theorem markIntS_l (l : List Int) (hm : l.length ≤ 1048576) (m : Int) (hm0 : 0 ≤ m) (hm1 : m ≤ 1000000000000) : ∀ (d i : Nat), i + d = l.length →
    Ev (fun k => laws_markIntS.l0 k ((marks m l.length).take i ++ l.drop i) (m + i) (i : Int)) (m + l.length, marks m l.length) := by
  intro d
  induction d with
  | zero =>
    intro i h
    have hi : i = l.length := by omega
    subst hi
    refine Ev.step (fun k => by rw [laws_markIntS.l0]) ?_
    refine evN (by simp [marks_length]) ?_
    have e : (marks m l.length).take l.length ++ l.drop l.length = marks m l.length := by
      rw [List.drop_of_length_le (Nat.le_refl _), List.append_nil, List.take_of_length_le (by rw [marks_length]; exact Nat.le_refl _)]
    rw [e]; exact Ev.now _
  | succ d ih =>
    intro i h
    refine Ev.step (fun k => by rw [laws_markIntS.l0]) ?_
    refine evP (by simp [marks_length]; omega) (evP (by omega) ?_)
    have hi : i < l.length := by omega
    have e : ((marks m l.length).take i ++ l.drop i).set (i : Int).toNat (m + i) = (marks m l.length).take (i + 1) ++ l.drop (i + 1) := by
      have h2 := take_snoc (marks m l.length) 0 i (by rw [marks_length]; exact hi)
      rw [List.getD_eq_getElem?_getD, marks_get _ _ _ hi, Option.getD_some] at h2
      rw [List.drop_eq_getElem_cons hi, Int.toNat_natCast, set_mid _ _ _ _ _ (by rw [List.length_take, marks_length]; omega), h2]
    rw [e, w64 (by omega) (by omega), w64 (by omega) (by omega)]
    have := ih (i + 1) (by omega)
    have e2 : m + ((i : Nat) : Int) + 1 = m + ((i + 1 : Nat) : Int) := by omega
    rw [e2]
    exact this
theorem markIntS_ev (l : List Int) (hm : l.length ≤ 1048576) (m : Int) (hm0 : 0 ≤ m) (hm1 : m ≤ 1000000000000) : Ev (fun k => laws_markIntS.f k l m) (m + l.length, marks m l.length) := by
  unfold laws_markIntS.f
  have h := markIntS_l l hm m hm0 hm1 l.length 0 (by omega)
  simpa using h

theorem heldIntS_l (n : Nat) (hn : n ≤ 1048576) (m : Int) (hm0 : 0 ≤ m) (hm1 : m ≤ 1000000000000) : ∀ (d i : Nat), i + d = n →
    Ev (fun k => laws_heldIntS.l0 k (marks m n) (m + i) (i : Int)) (m + n) := by
  intro d
  induction d with
  | zero =>
    intro i h
    refine Ev.step (fun k => by rw [laws_heldIntS.l0]) ?_
    refine evN (by simp [marks_length]; omega) ?_
    have : i = n := by omega
    subst this; exact Ev.now _
  | succ d ih =>
    intro i h
    refine Ev.step (fun k => by rw [laws_heldIntS.l0]) ?_
    refine evP (by simp [marks_length]; omega) (evP (by omega) (evP ?_ ?_))
    · rw [rd_nat, List.getD_eq_getElem?_getD, marks_get _ _ _ (by omega)]; rfl
    · rw [w64 (by omega) (by omega), w64 (by omega) (by omega)]
      have := ih (i + 1) (by omega)
      have e2 : m + ((i : Nat) : Int) + 1 = m + ((i + 1 : Nat) : Int) := by omega
      rw [e2]; exact this
theorem heldIntS_ev (n : Nat) (hn : n ≤ 1048576) (m : Int) (hm0 : 0 ≤ m) (hm1 : m ≤ 1000000000000) : Ev (fun k => laws_heldIntS.f k (marks m n) m) (m + n) := by
  unfold laws_heldIntS.f
  have h := heldIntS_l n hn m hm0 hm1 n 0 (by omega)
  simpa using h

theorem impl_in_eq (a b c : Int) : impl_in.f a b c = some (decide (a ≥ b) && decide (a ≤ c)) := by
  unfold impl_in.f
  by_cases h : a ≥ b <;> simp [h]

/-- 0, 1, .., n - 1. -/
def upto : Nat → List Int
  | 0 => []
  | n + 1 => upto n ++ [(n : Int)]
theorem upto_length (n : Nat) : (upto n).length = n := by
  induction n with
  | zero => rfl
  | succ n ih => simp [upto, ih]
def unew (a : Int) : List Int := if 0 ≤ a ∧ a ≤ 40 then upto a.toNat else []
theorem unew_length (a : Int) : (unew a).length ≤ 40 := by
  unfold unew; split
  · rw [upto_length]; omega
  · simp
theorem spec_unew_l (a : Int) (ha : a ≤ 40) : ∀ (d i : Nat), (i + d : Nat) = a.toNat → Ev (fun k => spec_UnionNew.l0 k a (upto i) (i : Int)) (upto a.toNat) := by
  intro d
  induction d with
  | zero =>
    intro i h
    refine Ev.step (fun k => by rw [spec_UnionNew.l0]) ?_
    have : i = a.toNat := by omega
    subst this
    exact evN (by omega) (Ev.now _)
  | succ d ih =>
    intro i h
    refine Ev.step (fun k => by rw [spec_UnionNew.l0]) ?_
    refine evP (by omega) (evP ha (evP (by rw [upto_length]; omega) ?_))
    rw [w64 (by omega) (by omega)]
    exact ih (i + 1) (by omega)
theorem spec_unew_ev (a : Int) : Ev (fun k => spec_UnionNew.f k a) (unew a) := by
  unfold spec_UnionNew.f
  by_cases h : 0 ≤ a ∧ a ≤ 40
  · rw [unew, if_pos h]
    exact spec_unew_l a h.2 a.toNat 0 (by omega)
  · rw [unew, if_neg h]
    refine Ev.step (fun k => by rw [spec_UnionNew.l0]) ?_
    refine evI (fun e => evN (by omega) (Ev.now _)) (fun e => Ev.now _)
theorem impl_unew_l (a : Int) (h0 : 0 ≤ a) (ha : a ≤ 40) : ∀ (d i : Nat), (i + d : Nat) = a.toNat → Ev (fun k => impl_UnionNew.l0 k (upto i) a (i : Int)) (upto a.toNat) := by
  intro d
  induction d with
  | zero =>
    intro i h
    refine Ev.step (fun k => by rw [impl_UnionNew.l0]) ?_
    have : i = a.toNat := by omega
    subst this
    exact evN (by omega) (Ev.now _)
  | succ d ih =>
    intro i h
    refine Ev.step (fun k => by rw [impl_UnionNew.l0]) ?_
    refine evP (by omega) (evP (by rw [upto_length]; omega) ?_)
    rw [w64 (by omega) (by omega)]
    exact ih (i + 1) (by omega)
theorem impl_unew_ev (a : Int) : Ev (fun k => impl_UnionNew.f k a) (unew a) := by
  unfold impl_UnionNew.f
  refine evS (impl_in_eq _ _ _) ?_
  refine evI (fun e => ?_) (fun e => ?_)
  · have e' : 0 ≤ a ∧ a ≤ 40 := by simpa using e
    rw [unew, if_pos e']
    exact impl_unew_l a e'.1 e'.2 a.toNat 0 (by omega)
  · have e' : ¬ (0 ≤ a ∧ a ≤ 40) := by simpa using e
    rw [unew, if_neg e']; exact Ev.now _

theorem FnExactUnionNew : laws_FnExactUnionNew.Pure := by
  intro a _
  apply Ev.rounds
  unfold laws_FnExactUnionNew.f
  have hl := unew_length a
  refine Ev.bind (spec_unew_ev a) ?_
  refine Ev.bind (impl_unew_ev a) ?_
  refine Ev.bind (eqIntS_self _ (by omega)) ?_
  refine evP rfl ?_
  refine Ev.bind (markIntS_ev _ (by omega) 1 (by omega) (by omega)) ?_
  refine Ev.bind (heldIntS_ev _ (by omega) 1 (by omega) (by omega)) ?_
  refine evN (by omega) (evP rfl ?_)
  refine Ev.bind (impl_unew_ev a) ?_
  refine Ev.bind (eqIntS_self _ (by omega)) ?_
  refine evP rfl ?_
  refine Ev.bind (heldIntS_ev _ (by omega) 1 (by omega) (by omega)) ?_
  exact evN (by omega) (evP rfl (Ev.now _))

end Go.Proofs.Ytcakbhpmhekmcaa.Pure
