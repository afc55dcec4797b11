/- The program's UnionJoin and the reference's return the same at every list of numbers and every two places. No condition beyond the statement's own. -/
import Derived.Test.YtcakbhpmhekmcaaPFnExactUnionJoinx3
import Derived.Test.YtcakbhpmhekmcaaWSized
namespace Go.Proofs.Ytcakbhpmhekmcaa.PrintWords
/-- The printed row names this word from here. -/
theorem sized_ints : type_of% @Go.Proofs.YtcakbhpmhekmcaaW.PrintWords.sized_ints := @Go.Proofs.YtcakbhpmhekmcaaW.PrintWords.sized_ints
end Go.Proofs.Ytcakbhpmhekmcaa.PrintWords
namespace Go.Proofs.Ytcakbhpmhekmcaa.Pure
open Go.RowKit Go.Proofs.Ytcakbhpmhekmcaa.PFnExactUnionJoin Go.Proofs.YtcakbhpmhekmcaaW.PrintWords Go.Proofs.YtcakbhpmhekmcaaW.PrintLast
set_option linter.unusedVariables false
set_option linter.unusedSimpArgs false

/-! Small words on `Ev`. -/
theorem evP {α : Type} {c : Prop} [Decidable c] {f g : Nat → Option α} {r : α} (h : c) (hf : Ev f r) : Ev (fun k => if c then f k else g k) r :=
  Ev.congr (fun _ => if_pos h) hf
theorem evN {α : Type} {c : Prop} [Decidable c] {f g : Nat → Option α} {r : α} (h : ¬ c) (hg : Ev g r) : Ev (fun k => if c then f k else g k) r :=
  Ev.congr (fun _ => if_neg h) hg
theorem evI {α : Type} {c : Prop} [Decidable c] {f g : Nat → Option α} {r : α} (hf : c → Ev f r) (hg : ¬ c → Ev g r) : Ev (fun k => if c then f k else g k) r := by
  by_cases h : c
  · exact evP h (hf h)
  · exact evN h (hg h)
theorem evB {α β : Type} {a : α} {f : Nat → α → Option β} {r : β} (h : Ev (fun k => f k a) r) : Ev (fun k => (some a).bind (f k)) r := h
theorem evS {α β : Type} {x : Option α} {a : α} {f : Nat → α → Option β} {r : β} (e : x = some a) (h : Ev (fun k => f k a) r) : Ev (fun k => x.bind (f k)) r := by
  subst e; exact h
theorem evC {α : Type} {x : Option α} {r : α} (h : x = some r) : Ev (fun _ => x) r := by subst h; exact Ev.now _
theorem w64 {i : Int} (h0 : -9223372036854775808 ≤ i) (h1 : i ≤ 9223372036854775807) : wrap64 i = i := by unfold wrap64; omega
theorem rd_nat (l : List Int) (i : Nat) : rd l (i : Int) = l.getD i 0 := rfl
theorem rd_cons_drop (l : List Int) (i : Nat) (h : i < l.length) : l.drop i = rd l (i : Int) :: l.drop (i + 1) := by
  rw [rd_nat, List.drop_eq_getElem_cons h, List.getD_eq_getElem?_getD, List.getElem?_eq_getElem h]; rfl
theorem set_mid {α : Type} (a b : List α) (x y : α) (i : Nat) (h : a.length = i) : (a ++ x :: b).set i y = (a ++ [y]) ++ b := by
  subst h
  rw [List.set_append_right _ _ (Nat.le_refl _), Nat.sub_self, List.set_cons_zero]; simp
theorem take_snoc {α : Type} (l : List α) (z : α) (i : Nat) (h : i < l.length) : l.take i ++ [l.getD i z] = l.take (i + 1) := by
  rw [List.take_succ_eq_append_getElem h, List.getD_eq_getElem?_getD, List.getElem?_eq_getElem h]; rfl

theorem toIntS_l (l : List Int) (hm : l.length ≤ 1048576) : ∀ (d i : Nat), i + d = l.length →
    Ev (fun k => laws_toIntS.l0 k l (l.take i ++ List.replicate d 0) (i : Int)) l := by
  intro d
  induction d with
  | zero =>
    intro i h
    refine Ev.step (fun k => by rw [laws_toIntS.l0]) ?_
    refine evN (by omega) ?_
    have e : l.take i ++ List.replicate 0 0 = l := by rw [List.replicate_zero, List.append_nil, List.take_of_length_le (by omega)]
    rw [e]; exact Ev.now _
  | succ d ih =>
    intro i h
    refine Ev.step (fun k => by rw [laws_toIntS.l0]) ?_
    refine evP (by omega) (evP (by omega) (evP (by rw [List.length_append, List.length_take, List.length_replicate]; omega) ?_))
    have hi : i < l.length := by omega
    have e : (l.take i ++ List.replicate (d + 1) 0).set (i : Int).toNat (rd l i) = l.take (i + 1) ++ List.replicate d 0 := by
      rw [List.replicate_succ, Int.toNat_natCast, set_mid _ _ _ _ _ (by rw [List.length_take]; omega), rd_nat, take_snoc _ _ _ hi]
    rw [e, w64 (by omega) (by omega)]
    have := ih (i + 1) (by omega)
    exact this
theorem toIntS_ev (l : List Int) (hm : l.length ≤ 1048576) : Ev (fun k => laws_toIntS.f k l) l := by
  unfold laws_toIntS.f
  refine evP (by omega) (evP (by omega) ?_)
  rw [Int.toNat_natCast]
  have h := toIntS_l l hm l.length 0 (by omega)
  simpa using h

theorem eqIntS_l (l m : List Int) (hm : l.length ≤ 1048576) (hl : l.length = m.length) : ∀ (d i : Nat), i + d = l.length →
    Ev (fun k => laws_eqIntS.l0 k l m (i : Int)) (decide (l.drop i = m.drop i)) := by
  intro d
  induction d with
  | zero =>
    intro i h
    refine Ev.step (fun k => by rw [laws_eqIntS.l0]) ?_
    refine evN (by omega) ?_
    rw [List.drop_of_length_le (by omega), List.drop_of_length_le (by omega)]
    exact Ev.now _
  | succ d ih =>
    intro i h
    refine Ev.step (fun k => by rw [laws_eqIntS.l0]) ?_
    refine evP (by omega) (evP (by omega) (evP (by omega) ?_))
    rw [rd_cons_drop l i (by omega), rd_cons_drop m i (by omega), w64 (by omega) (by omega)]
    refine evI (fun e => ?_) (fun e => ?_)
    · rw [e]
      have := ih (i + 1) (by omega)
      simpa using this
    · have : decide (rd l (i : Int) :: l.drop (i + 1) = rd m (i : Int) :: m.drop (i + 1)) = false := by simp [e]
      rw [this]; exact Ev.now _
theorem eqIntS_ev (l m : List Int) (hm : l.length ≤ 1048576) : Ev (fun k => laws_eqIntS.f k l m) (decide (l = m)) := by
  unfold laws_eqIntS.f
  refine evI (fun e => ?_) (fun e => ?_)
  · have h := eqIntS_l l m hm (by omega) l.length 0 (by omega)
    simpa using h
  · have : decide (l = m) = false := by simp; intro h; subst h; exact e rfl
    rw [this]; exact Ev.now _
theorem eqIntS_self (l : List Int) (hm : l.length ≤ 1048576) : Ev (fun k => laws_eqIntS.f k l l) true := by
  have := eqIntS_ev l l hm
  simpa using this

/-- What a row of numbers is marked with: m, m + 1, .. -/
def marks (m : Int) : Nat → List Int
  | 0 => []
  | n + 1 => m :: marks (m + 1) n
theorem marks_length (n : Nat) : ∀ m, (marks m n).length = n := by
  induction n with
  | zero => intro m; rfl
  | succ n ih => intro m; simp [marks, ih]
theorem marks_get (n : Nat) : ∀ (m : Int) (i : Nat), i < n → (marks m n)[i]? = some (m + i) := by
  induction n with
  | zero => intro m i h; omega
  | succ n ih =>
    intro m i h
    cases i with
    | zero => simp [marks]
    | succ i => rw [marks, List.getElem?_cons_succ, ih (m + 1) i (by omega)]; congr 1; omega
theorem markIntS_l (l : List Int) (hm : l.length ≤ 1048576) (m : Int) (hm0 : 0 ≤ m) (hm1 : m ≤ 1000000000000) : ∀ (d i : Nat), i + d = l.length →
    Ev (fun k => laws_markIntS.l0 k ((marks m l.length).take i ++ l.drop i) (m + i) (i : Int)) (m + l.length, marks m l.length) := by
  intro d
  induction d with
  | zero =>
    intro i h
    have hi : i = l.length := by omega
    subst hi
    refine Ev.step (fun k => by rw [laws_markIntS.l0]) ?_
    refine evN (by simp [marks_length]) ?_
    have e : (marks m l.length).take l.length ++ l.drop l.length = marks m l.length := by
      rw [List.drop_of_length_le (Nat.le_refl _), List.append_nil, List.take_of_length_le (by rw [marks_length]; exact Nat.le_refl _)]
    rw [e]; exact Ev.now _
  | succ d ih =>
    intro i h
    refine Ev.step (fun k => by rw [laws_markIntS.l0]) ?_
    refine evP (by simp [marks_length]; omega) (evP (by omega) ?_)
    have hi : i < l.length := by omega
    have e : ((marks m l.length).take i ++ l.drop i).set (i : Int).toNat (m + i) = (marks m l.length).take (i + 1) ++ l.drop (i + 1) := by
      have h2 := take_snoc (marks m l.length) 0 i (by rw [marks_length]; exact hi)
      rw [List.getD_eq_getElem?_getD, marks_get _ _ _ hi, Option.getD_some] at h2
      rw [List.drop_eq_getElem_cons hi, Int.toNat_natCast, set_mid _ _ _ _ _ (by rw [List.length_take, marks_length]; omega), h2]
    rw [e, w64 (by omega) (by omega), w64 (by omega) (by omega)]
    have := ih (i + 1) (by omega)
    have e2 : m + ((i : Nat) : Int) + 1 = m + ((i + 1 : Nat) : Int) := by omega
    rw [e2]
    exact this
theorem markIntS_ev (l : List Int) (hm : l.length ≤ 1048576) (m : Int) (hm0 : 0 ≤ m) (hm1 : m ≤ 1000000000000) : Ev (fun k => laws_markIntS.f k l m) (m + l.length, marks m l.length) := by
  unfold laws_markIntS.f
  have h := markIntS_l l hm m hm0 hm1 l.length 0 (by omega)
  simpa using h

theorem heldIntS_l (n : Nat) (hn : n ≤ 1048576) (m : Int) (hm0 : 0 ≤ m) (hm1 : m ≤ 1000000000000) : ∀ (d i : Nat), i + d = n →
    Ev (fun k => laws_heldIntS.l0 k (marks m n) (m + i) (i : Int)) (m + n) := by
  intro d
  induction d with
  | zero =>
    intro i h
    refine Ev.step (fun k => by rw [laws_heldIntS.l0]) ?_
    refine evN (by simp [marks_length]; omega) ?_
    have : i = n := by omega
    subst this; exact Ev.now _
  | succ d ih =>
    intro i h
    refine Ev.step (fun k => by rw [laws_heldIntS.l0]) ?_
    refine evP (by simp [marks_length]; omega) (evP (by omega) (evP ?_ ?_))
    · rw [rd_nat, List.getD_eq_getElem?_getD, marks_get _ _ _ (by omega)]; rfl
    · rw [w64 (by omega) (by omega), w64 (by omega) (by omega)]
      have := ih (i + 1) (by omega)
      have e2 : m + ((i : Nat) : Int) + 1 = m + ((i + 1 : Nat) : Int) := by omega
      rw [e2]; exact this
theorem heldIntS_ev (n : Nat) (hn : n ≤ 1048576) (m : Int) (hm0 : 0 ≤ m) (hm1 : m ≤ 1000000000000) : Ev (fun k => laws_heldIntS.f k (marks m n) m) (m + n) := by
  unfold laws_heldIntS.f
  have h := heldIntS_l n hn m hm0 hm1 n 0 (by omega)
  simpa using h

theorem spec_in_eq (a b c : Int) : spec_l1In.f a b c = some (decide (a ≥ b) && decide (a ≤ c)) := by
  unfold spec_l1In.f
  by_cases h : a ≥ b <;> simp [h]

theorem impl_in_eq (a b c : Int) : impl_in.f a b c = some (decide (a ≥ b) && decide (a ≤ c)) := by
  unfold impl_in.f
  by_cases h : a ≥ b <;> simp [h]

/-- Is each from 0 to its own place, from place i on, d of them? -/
def uokFrom (l : List Int) : Nat → Nat → Bool
  | 0, _ => true
  | d + 1, i => decide (rd l (i : Int) ≥ 0) && decide (rd l (i : Int) ≤ (i : Int)) && uokFrom l d (i + 1)
def uok (l : List Int) : Bool := decide (l.length ≤ 40) && uokFrom l l.length 0
theorem uokFrom_at (l : List Int) : ∀ (d i : Nat), uokFrom l d i = true → ∀ j, i ≤ j → j < i + d → 0 ≤ rd l (j : Int) ∧ rd l (j : Int) ≤ (j : Int) := by
  intro d
  induction d with
  | zero => intro i _ j h1 h2; omega
  | succ d ih =>
    intro i h j h1 h2
    simp only [uokFrom, Bool.and_eq_true, decide_eq_true_eq] at h
    by_cases e : j = i
    · subst e; exact ⟨h.1.1, h.1.2⟩
    · exact ih (i + 1) h.2 j (by omega) (by omega)
theorem uok_at {l : List Int} (h : uok l = true) : l.length ≤ 40 ∧ ∀ j : Nat, j < l.length → 0 ≤ rd l (j : Int) ∧ rd l (j : Int) ≤ (j : Int) := by
  simp only [uok, Bool.and_eq_true, decide_eq_true_eq] at h
  exact ⟨h.1, fun j hj => uokFrom_at l _ _ h.2 j (by omega) (by omega)⟩
theorem uok_atI {l : List Int} (h : uok l = true) (i : Int) (h0 : 0 ≤ i) (h1 : i < l.length) : 0 ≤ rd l i ∧ rd l i ≤ i := by
  have := (uok_at h).2 i.toNat (by omega)
  rw [show ((i.toNat : Nat) : Int) = i by omega] at this
  exact this

theorem spec_uok_l (l : List Int) (hm : l.length ≤ 1048576) : ∀ (d i : Nat), i + d = l.length → Ev (fun k => spec_UnionOk.l0 k l (i : Int)) (uokFrom l d i) := by
  intro d
  induction d with
  | zero =>
    intro i h
    refine Ev.step (fun k => by rw [spec_UnionOk.l0]) ?_
    exact evN (by omega) (Ev.now _)
  | succ d ih =>
    intro i h
    refine Ev.step (fun k => by rw [spec_UnionOk.l0]) ?_
    refine evP (by omega) (evP (by omega) ?_)
    refine evS (spec_in_eq _ _ _) ?_
    rw [uokFrom]
    refine evI (fun e => ?_) (fun e => ?_)
    · rw [e, Bool.true_and, w64 (by omega) (by omega)]
      exact ih (i + 1) (by omega)
    · rw [Bool.not_eq_true] at e
      rw [e, Bool.false_and]; exact Ev.now _
theorem spec_uok_ev (l : List Int) (hm : l.length ≤ 1048576) : Ev (fun k => spec_UnionOk.f k l) (uok l) := by
  unfold spec_UnionOk.f uok
  refine evI (fun e => ?_) (fun e => ?_)
  · rw [decide_eq_false (by omega), Bool.false_and]; exact Ev.now _
  · rw [decide_eq_true (by omega), Bool.true_and]
    exact spec_uok_l l hm l.length 0 (by omega)

theorem impl_uok_l (l : List Int) (hm : l.length ≤ 1048576) : ∀ (d i : Nat), i + d = l.length →
    Ev (fun k => impl_UnionOk.l0 k l l (l.length : Int) (i : Int)) (decide (l.length ≤ 40) && uokFrom l d i) := by
  intro d
  induction d with
  | zero =>
    intro i h
    refine Ev.step (fun k => by rw [impl_UnionOk.l0]) ?_
    refine evN (by omega) ?_
    have e : (decide ((l.length : Int) ≤ 40)) = (decide (l.length ≤ 40) && uokFrom l 0 i) := by
      rw [uokFrom, Bool.and_true]; apply decide_eq_decide.2; omega
    rw [← e]; exact Ev.now _
  | succ d ih =>
    intro i h
    refine Ev.step (fun k => by rw [impl_UnionOk.l0]) ?_
    refine evP (by omega) (evP (by omega) (evP (by omega) ?_))
    refine evS (impl_in_eq _ _ _) ?_
    rw [uokFrom]
    refine evI (fun e => ?_) (fun e => ?_)
    · rw [e, Bool.true_and, w64 (by omega) (by omega)]
      exact ih (i + 1) (by omega)
    · rw [Bool.not_eq_true] at e
      rw [e, Bool.false_and, Bool.and_false]; exact Ev.now _
theorem impl_uok_ev (l : List Int) (hm : l.length ≤ 1048576) : Ev (fun k => impl_UnionOk.f k l) (uok l) := by
  unfold impl_UnionOk.f uok
  exact impl_uok_l l hm l.length 0 (by omega)

/-- From i on to what stands in its place, till that is itself. -/
def uroot (l : List Int) : Nat → Int → Int
  | 0, i => i
  | n + 1, i => if rd l i = i then i else uroot l n (rd l i)
def ufind (l : List Int) (a : Int) : Int := if uok l = true ∧ 0 ≤ a ∧ a ≤ (l.length : Int) - 1 then uroot l l.length a else -1
theorem spec_uroot_ev {l : List Int} (hu : uok l = true) : ∀ (n : Nat) (i : Int), 0 ≤ i → i < l.length → i < n → Ev (fun k => spec_UnionFind.l0 k l i) (uroot l n i) := by
  intro n
  induction n with
  | zero => intro i h0 h1 h2; omega
  | succ n ih =>
    intro i h0 h1 h2
    have hr := uok_atI hu i h0 h1
    refine Ev.step (fun k => by rw [spec_UnionFind.l0]) ?_
    refine evP h0 (evP h1 ?_)
    rw [uroot]
    refine evI (fun e => ?_) (fun e => ?_)
    · rw [if_pos e]; exact Ev.now _
    · rw [if_neg e]; exact ih _ hr.1 (by omega) (by omega)
theorem impl_uroot_ev {l : List Int} (hu : uok l = true) : ∀ (n : Nat) (i : Int), 0 ≤ i → i < l.length → i < n → Ev (fun k => impl_UnionFind.l0 k l i) (uroot l n i) := by
  intro n
  induction n with
  | zero => intro i h0 h1 h2; omega
  | succ n ih =>
    intro i h0 h1 h2
    have hr := uok_atI hu i h0 h1
    refine Ev.step (fun k => by rw [impl_UnionFind.l0]) ?_
    refine evP h0 (evP h1 ?_)
    rw [uroot]
    refine evI (fun e => ?_) (fun e => ?_)
    · rw [if_pos e]; exact Ev.now _
    · rw [if_neg e]; exact ih _ hr.1 (by omega) (by omega)
theorem spec_ufind_ev (l : List Int) (a : Int) (hm : l.length ≤ 1048576) : Ev (fun k => spec_UnionFind.f k l a) (ufind l a) := by
  unfold spec_UnionFind.f
  refine Ev.bind (spec_uok_ev l hm) ?_
  refine evI (fun hu => ?_) (fun hu => ?_)
  · refine evS (spec_in_eq _ _ _) ?_
    rw [w64 (by omega) (by omega)]
    refine Ev.step (fun k => by rw [spec_UnionFind.j0]) ?_
    refine evI (fun e => ?_) (fun e => ?_)
    · rw [ufind, if_neg (by simp at e; intro h; omega)]; exact Ev.now _
    · have e' : 0 ≤ a ∧ a ≤ (l.length : Int) - 1 := by simp at e; omega
      rw [ufind, if_pos ⟨hu, e'⟩]
      exact spec_uroot_ev hu _ _ e'.1 (by omega) (by omega)
  · refine Ev.step (fun k => by rw [spec_UnionFind.j0]) ?_
    refine evP rfl ?_
    rw [ufind, if_neg (fun h => hu h.1)]; exact Ev.now _
theorem impl_ufind_ev (l : List Int) (a : Int) (hm : l.length ≤ 1048576) : Ev (fun k => impl_UnionFind.f k l a) (ufind l a) := by
  unfold impl_UnionFind.f
  refine Ev.bind (impl_uok_ev l hm) ?_
  refine evI (fun hu => ?_) (fun hu => ?_)
  · refine evS (impl_in_eq _ _ _) ?_
    rw [w64 (by omega) (by omega)]
    refine Ev.step (fun k => by rw [impl_UnionFind.j0]) ?_
    refine evI (fun e => ?_) (fun e => ?_)
    · rw [ufind, if_neg (by simp at e; intro h; omega)]; exact Ev.now _
    · have e' : 0 ≤ a ∧ a ≤ (l.length : Int) - 1 := by simp at e; omega
      rw [ufind, if_pos ⟨hu, e'⟩]
      exact impl_uroot_ev hu _ _ e'.1 (by omega) (by omega)
  · refine Ev.step (fun k => by rw [impl_UnionFind.j0]) ?_
    refine evP rfl ?_
    rw [ufind, if_neg (fun h => hu h.1)]; exact Ev.now _

theorem uroot_range {l : List Int} (hu : uok l = true) : ∀ (n : Nat) (i : Int), 0 ≤ i → i < l.length → 0 ≤ uroot l n i ∧ uroot l n i ≤ i := by
  intro n
  induction n with
  | zero => intro i h0 h1; simp only [uroot]; omega
  | succ n ih =>
    intro i h0 h1
    have hr := uok_atI hu i h0 h1
    rw [uroot]; split
    · omega
    · have := ih _ hr.1 (by omega); omega
theorem ufind_range (l : List Int) (a : Int) : -1 ≤ ufind l a ∧ ufind l a ≤ (l.length : Int) - 1 := by
  unfold ufind; split
  · rename_i h
    have := uroot_range h.1 l.length a h.2.1 (by omega)
    omega
  · omega
def ujoin (l : List Int) (a b : Int) : List Int :=
  if ufind l a < 0 ∨ ufind l b < 0 then l else l.set (mx (ufind l a) (ufind l b)).toNat (mn (ufind l a) (ufind l b))
theorem ujoin_length (l : List Int) (a b : Int) : (ujoin l a b).length = l.length := by
  unfold ujoin; split <;> simp
theorem spec_ujoin_ev (l : List Int) (a b : Int) (hm : l.length ≤ 1048576) : Ev (fun k => spec_UnionJoin.f k l a b) (ujoin l a b) := by
  unfold spec_UnionJoin.f
  refine evB (evP (by simp; omega) (evB ?_))
  refine Ev.bind (spec_ufind_ev l a hm) (Ev.bind (spec_ufind_ev l b hm) ?_)
  have ra := ufind_range l a
  have rb := ufind_range l b
  have mx0 : ufind l a ≥ 0 → ufind l b ≥ 0 → 0 ≤ mx (ufind l a) (ufind l b) ∧ mx (ufind l a) (ufind l b) < (l.length : Int) := by intro _ _; unfold mx; split <;> omega
  rw [List.nil_append]
  refine evI (fun h => ?_) (fun h => evI (fun h2 => ?_) (fun h2 => ?_))
  · rw [ujoin, if_pos (.inl h)]; exact Ev.now _
  · rw [ujoin, if_pos (.inr h2)]; exact Ev.now _
  · have e : ujoin l a b = l.set (mx (ufind l a) (ufind l b)).toNat (mn (ufind l a) (ufind l b)) := by rw [ujoin, if_neg (by omega)]
    rw [e]
    exact evP (mx0 (by omega) (by omega)).1 (evP (mx0 (by omega) (by omega)).2 (Ev.now _))
theorem impl_ujoin_ev (l : List Int) (a b : Int) (hm : l.length ≤ 1048576) : Ev (fun k => impl_UnionJoin.f k l a b) (ujoin l a b) := by
  unfold impl_UnionJoin.f
  refine evP (by simp; omega) (evB ?_)
  refine Ev.bind (impl_ufind_ev l a hm) (Ev.bind (impl_ufind_ev l b hm) ?_)
  have ra := ufind_range l a
  have rb := ufind_range l b
  have mx0 : ufind l a ≥ 0 → ufind l b ≥ 0 → 0 ≤ mx (ufind l a) (ufind l b) ∧ mx (ufind l a) (ufind l b) < (l.length : Int) := by intro _ _; unfold mx; split <;> omega
  rw [List.nil_append]
  refine evI (fun h => evI (fun h2 => ?_) (fun h2 => ?_)) (fun h => ?_)
  · have e : ujoin l a b = l.set (mx (ufind l a) (ufind l b)).toNat (mn (ufind l a) (ufind l b)) := by rw [ujoin, if_neg (by omega)]
    rw [e]
    exact evP (mx0 (by omega) (by omega)).1 (evP (mx0 (by omega) (by omega)).2 (Ev.now _))
  · rw [ujoin, if_pos (.inr (by omega))]; exact Ev.now _
  · rw [ujoin, if_pos (.inl (by omega))]; exact Ev.now _

theorem FnExactUnionJoin : laws_FnExactUnionJoin.Pure := by
  intro l0 a b _ _ _ _ _
  apply Ev.rounds
  unfold laws_FnExactUnionJoin.f
  refine evI (fun _ => Ev.now _) (fun hm => ?_)
  have hm : l0.length ≤ 1048576 := by omega
  have hj : (ujoin l0 a b).length ≤ 1048576 := by rw [ujoin_length]; exact hm
  refine Ev.bind (toIntS_ev l0 hm) ?_
  refine Ev.bind (spec_ujoin_ev l0 a b hm) ?_
  refine Ev.bind (toIntS_ev l0 hm) ?_
  refine Ev.bind (impl_ujoin_ev l0 a b hm) ?_
  refine Ev.bind (eqIntS_self _ hj) (evP rfl ?_)
  refine Ev.bind (toIntS_ev l0 hm) ?_
  refine Ev.bind (eqIntS_self _ hm) (evP rfl ?_)
  refine Ev.bind (markIntS_ev _ hm 1 (by omega) (by omega)) ?_
  refine evN (by omega) ?_
  refine Ev.bind (eqIntS_self _ hj) ?_
  refine Ev.step (fun k => by rw [laws_FnExactUnionJoin.j0]) ?_
  refine evN (by simp) ?_
  refine Ev.bind (markIntS_ev _ hj 1 (by omega) (by omega)) ?_
  refine Ev.bind (heldIntS_ev _ hj 1 (by omega) (by omega)) ?_
  refine evN (by omega) (evP rfl ?_)
  refine Ev.bind (toIntS_ev l0 hm) ?_
  refine Ev.bind (impl_ujoin_ev l0 a b hm) ?_
  refine Ev.bind (eqIntS_self _ hj) (evP rfl ?_)
  refine Ev.bind (heldIntS_ev _ hj 1 (by omega) (by omega)) ?_
  exact evN (by omega) (evP rfl (Ev.now _))

end Go.Proofs.Ytcakbhpmhekmcaa.Pure
