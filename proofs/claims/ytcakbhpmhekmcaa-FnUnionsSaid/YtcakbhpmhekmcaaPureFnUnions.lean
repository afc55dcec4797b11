/- At every list of bytes the law FnUnions answers true: of what is drawn out of it, UnionJoin makes two classes one and leaves all else as it was. No condition beyond the statement's own. -/
import Derived.Test.YtcakbhpmhekmcaaPFnUnionsx4
import Derived.Test.YtcakbhpmhekmcaaWSized
namespace Go.Proofs.Ytcakbhpmhekmcaa.PrintWords
/-- The printed row names this word from here. -/
theorem sized_ints : type_of% @Go.Proofs.YtcakbhpmhekmcaaW.PrintWords.sized_ints := @Go.Proofs.YtcakbhpmhekmcaaW.PrintWords.sized_ints
end Go.Proofs.Ytcakbhpmhekmcaa.PrintWords
namespace Go.Proofs.Ytcakbhpmhekmcaa.Pure
open Go.RowKit Go.Proofs.Ytcakbhpmhekmcaa.PFnUnions Go.Proofs.YtcakbhpmhekmcaaW.PrintWords Go.Proofs.YtcakbhpmhekmcaaW.PrintLast
set_option linter.unusedVariables false
set_option linter.unusedSimpArgs false

/-! Small words on `Ev`. -/
theorem evP {α : Type} {c : Prop} [Decidable c] {f g : Nat → Option α} {r : α} (h : c) (hf : Ev f r) : Ev (fun k => if c then f k else g k) r :=
  Ev.congr (fun _ => if_pos h) hf
theorem evN {α : Type} {c : Prop} [Decidable c] {f g : Nat → Option α} {r : α} (h : ¬ c) (hg : Ev g r) : Ev (fun k => if c then f k else g k) r :=
  Ev.congr (fun _ => if_neg h) hg
theorem evI {α : Type} {c : Prop} [Decidable c] {f g : Nat → Option α} {r : α} (hf : c → Ev f r) (hg : ¬ c → Ev g r) : Ev (fun k => if c then f k else g k) r := by
  by_cases h : c
  · exact evP h (hf h)
  · exact evN h (hg h)
theorem evB {α β : Type} {a : α} {f : Nat → α → Option β} {r : β} (h : Ev (fun k => f k a) r) : Ev (fun k => (some a).bind (f k)) r := h
theorem evS {α β : Type} {x : Option α} {a : α} {f : Nat → α → Option β} {r : β} (e : x = some a) (h : Ev (fun k => f k a) r) : Ev (fun k => x.bind (f k)) r := by
  subst e; exact h
theorem evC {α : Type} {x : Option α} {r : α} (h : x = some r) : Ev (fun _ => x) r := by subst h; exact Ev.now _
theorem w64 {i : Int} (h0 : -9223372036854775808 ≤ i) (h1 : i ≤ 9223372036854775807) : wrap64 i = i := by unfold wrap64; omega
theorem rd_nat (l : List Int) (i : Nat) : rd l (i : Int) = l.getD i 0 := rfl
theorem rd_cons_drop (l : List Int) (i : Nat) (h : i < l.length) : l.drop i = rd l (i : Int) :: l.drop (i + 1) := by
  rw [rd_nat, List.drop_eq_getElem_cons h, List.getD_eq_getElem?_getD, List.getElem?_eq_getElem h]; rfl
theorem set_mid {α : Type} (a b : List α) (x y : α) (i : Nat) (h : a.length = i) : (a ++ x :: b).set i y = (a ++ [y]) ++ b := by
  subst h
  rw [List.set_append_right _ _ (Nat.le_refl _), Nat.sub_self, List.set_cons_zero]; simp
theorem take_snoc {α : Type} (l : List α) (z : α) (i : Nat) (h : i < l.length) : l.take i ++ [l.getD i z] = l.take (i + 1) := by
  rw [List.take_succ_eq_append_getElem h, List.getD_eq_getElem?_getD, List.getElem?_eq_getElem h]; rfl

/-! The reader of draws: it always answers; a byte is from 0 to 255. -/
theorem and255 (x : Int) : 0 ≤ Go.bits .and .i64 x 255 ∧ Go.bits .and .i64 x 255 ≤ 255 := by
  have h : ∀ n : Nat, n ≤ 255 → 0 ≤ IntKind.i64.wrap (n : Int) ∧ IntKind.i64.wrap (n : Int) ≤ 255 := by
    intro n hn; rw [IntKind.wrap_i64]; omega
  refine h _ ?_
  rw [BitVec.toNat_and]
  have : (BitVec.ofInt (IntKind.bits .i64) 255).toNat = 255 := by decide
  rw [this]; exact Nat.and_le_right
theorem l1Byte_ok (c : List Int) (hc : c.length ≤ 140737488351232) (i h : Int) (hi : 0 ≤ i) :
    ∃ r i' h', spec_l1Byte.f c i h = some (r, i', h') ∧ 0 ≤ r ∧ r ≤ 255 ∧ 0 ≤ i' := by
  unfold spec_l1Byte.f
  by_cases h1 : i < (c.length : Int)
  · rw [if_pos h1, if_pos hi]
    exact ⟨_, _, _, rfl, (and255 _).1, (and255 _).2, by rw [w64 (by omega) (by omega)]; omega⟩
  · rw [if_neg h1]
    exact ⟨_, _, _, rfl, (and255 _).1, (and255 _).2, hi⟩
theorem tmod_ok (x n : Int) (hx : 0 ≤ x) (hn : 0 < n) : 0 ≤ Int.tmod x n ∧ Int.tmod x n < n := by
  rw [Int.tmod_eq_emod_of_nonneg hx]
  exact ⟨Int.emod_nonneg _ (by omega), Int.emod_lt_of_pos _ hn⟩
theorem l1Below_ok (c : List Int) (hc : c.length ≤ 140737488351232) (i h n : Int) (hi : 0 ≤ i) :
    ∃ r i' h', spec_l1Below.f c i h n = some (r, i', h') ∧ 0 ≤ r ∧ (0 < n → r < n) ∧ (n ≤ 0 → r = 0) ∧ 0 ≤ i' := by
  unfold spec_l1Below.f
  by_cases h0 : n ≤ 0
  · rw [if_pos h0]; exact ⟨0, i, h, rfl, by omega, by omega, fun _ => rfl, hi⟩
  · rw [if_neg h0]
    by_cases h1 : n ≤ 256
    · rw [if_pos h1]
      obtain ⟨r, i', h', e, r0, r1, i0⟩ := l1Byte_ok c hc i h hi
      rw [e]; simp only [Option.bind_some]
      rw [if_neg (by omega)]
      have := tmod_ok r n r0 (by omega)
      exact ⟨_, _, _, rfl, this.1, fun _ => this.2, fun _ => by omega, i0⟩
    · rw [if_neg h1]
      obtain ⟨r, i', h', e, r0, r1, i0⟩ := l1Byte_ok c hc i h hi
      obtain ⟨s, j', g', e2, s0, s1, j0⟩ := l1Byte_ok c hc i' h' i0
      obtain ⟨t, k', f', e3, t0, t1, k0⟩ := l1Byte_ok c hc j' g' j0
      obtain ⟨u, m', d', e4, u0, u1, m0⟩ := l1Byte_ok c hc k' f' k0
      rw [e]; simp only [Option.bind_some]
      rw [e2]; simp only [Option.bind_some]
      rw [e3]; simp only [Option.bind_some]
      rw [e4]; simp only [Option.bind_some]
      rw [if_neg (by omega)]
      have w1 : wrap64 (r * 16777216) = r * 16777216 := w64 (by omega) (by omega)
      have w2 : wrap64 (s * 65536) = s * 65536 := w64 (by omega) (by omega)
      have w3 : wrap64 (t * 256) = t * 256 := w64 (by omega) (by omega)
      have w4 : wrap64 (r * 16777216 + s * 65536) = r * 16777216 + s * 65536 := w64 (by omega) (by omega)
      have w5 : wrap64 (r * 16777216 + s * 65536 + t * 256) = r * 16777216 + s * 65536 + t * 256 := w64 (by omega) (by omega)
      have w6 : wrap64 (r * 16777216 + s * 65536 + t * 256 + u) = r * 16777216 + s * 65536 + t * 256 + u := w64 (by omega) (by omega)
      rw [w1, w2, w3, w4, w5, w6]
      have := tmod_ok (r * 16777216 + s * 65536 + t * 256 + u) n (by omega) (by omega)
      exact ⟨_, _, _, rfl, this.1, fun _ => this.2, fun _ => by omega, m0⟩
theorem l1New_ok (c : List Int) (hc : c.length ≤ 140737488351232) : ∃ h, Ev (fun k => spec_l1New.f k c) (c, 0, h) := by
  unfold spec_l1New.f
  have : ∀ (d i : Nat) (h : Int), i + d = 4000 → ∃ h', Ev (fun k => spec_l1New.l0 k c h (i : Int)) (c, 0, h') := by
    intro d
    induction d with
    | zero =>
      intro i h hd
      refine ⟨h, Ev.step (fun k => by rw [spec_l1New.l0]) ?_⟩
      exact evI (fun _ => evN (by omega) (Ev.now _)) (fun _ => Ev.now _)
    | succ d ih =>
      intro i h hd
      by_cases h1 : (i : Int) < (c.length : Int)
      · obtain ⟨h', e⟩ := ih (i + 1) (Go.bits .and .i64 (wrap64 ((wrap64 ((wrap64 (h * 131)) + (wrap64 (rd c i)))) + 7)) 1073741823) (by omega)
        refine ⟨h', Ev.step (fun k => by rw [spec_l1New.l0]) ?_⟩
        refine evP h1 (evP (by omega) (evP (by omega) ?_))
        rw [w64 (i := (i : Int) + 1) (by omega) (by omega)]
        exact e
      · refine ⟨h, Ev.step (fun k => by rw [spec_l1New.l0]) ?_⟩
        exact evN h1 (Ev.now _)
  exact this 4000 0 _ rfl

theorem sameInts_l (l m : List Int) (hm : l.length ≤ 1048576) (hl : l.length = m.length) : ∀ (d i : Nat), i + d = l.length →
    Ev (fun k => laws_sameInts.l0 k l m (i : Int)) (decide (l.drop i = m.drop i)) := by
  intro d
  induction d with
  | zero =>
    intro i h
    refine Ev.step (fun k => by rw [laws_sameInts.l0]) ?_
    refine evN (by omega) ?_
    rw [List.drop_of_length_le (by omega), List.drop_of_length_le (by omega)]
    exact Ev.now _
  | succ d ih =>
    intro i h
    refine Ev.step (fun k => by rw [laws_sameInts.l0]) ?_
    refine evP (by omega) (evP (by omega) (evP (by omega) ?_))
    rw [rd_cons_drop l i (by omega), rd_cons_drop m i (by omega), w64 (by omega) (by omega)]
    refine evI (fun e => ?_) (fun e => ?_)
    · rw [e]
      have := ih (i + 1) (by omega)
      simpa using this
    · have : decide (rd l (i : Int) :: l.drop (i + 1) = rd m (i : Int) :: m.drop (i + 1)) = false := by simp [e]
      rw [this]; exact Ev.now _
theorem sameInts_ev (l m : List Int) (hm : l.length ≤ 1048576) : Ev (fun k => laws_sameInts.f k l m) (decide (l = m)) := by
  unfold laws_sameInts.f
  refine evI (fun e => ?_) (fun e => ?_)
  · have h := sameInts_l l m hm (by omega) l.length 0 (by omega)
    simpa using h
  · have : decide (l = m) = false := by simp; intro h; subst h; exact e rfl
    rw [this]; exact Ev.now _

theorem spec_in_eq (a b c : Int) : spec_l1In.f a b c = some (decide (a ≥ b) && decide (a ≤ c)) := by
  unfold spec_l1In.f
  by_cases h : a ≥ b <;> simp [h]

theorem impl_in_eq (a b c : Int) : impl_in.f a b c = some (decide (a ≥ b) && decide (a ≤ c)) := by
  unfold impl_in.f
  by_cases h : a ≥ b <;> simp [h]

/-- Is each from 0 to its own place, from place i on, d of them? -/
def uokFrom (l : List Int) : Nat → Nat → Bool
  | 0, _ => true
  | d + 1, i => decide (rd l (i : Int) ≥ 0) && decide (rd l (i : Int) ≤ (i : Int)) && uokFrom l d (i + 1)
def uok (l : List Int) : Bool := decide (l.length ≤ 40) && uokFrom l l.length 0
theorem uokFrom_at (l : List Int) : ∀ (d i : Nat), uokFrom l d i = true → ∀ j, i ≤ j → j < i + d → 0 ≤ rd l (j : Int) ∧ rd l (j : Int) ≤ (j : Int) := by
  intro d
  induction d with
  | zero => intro i _ j h1 h2; omega
  | succ d ih =>
    intro i h j h1 h2
    simp only [uokFrom, Bool.and_eq_true, decide_eq_true_eq] at h
    by_cases e : j = i
    · subst e; exact ⟨h.1.1, h.1.2⟩
    · exact ih (i + 1) h.2 j (by omega) (by omega)
theorem uok_at {l : List Int} (h : uok l = true) : l.length ≤ 40 ∧ ∀ j : Nat, j < l.length → 0 ≤ rd l (j : Int) ∧ rd l (j : Int) ≤ (j : Int) := by
  simp only [uok, Bool.and_eq_true, decide_eq_true_eq] at h
  exact ⟨h.1, fun j hj => uokFrom_at l _ _ h.2 j (by omega) (by omega)⟩
theorem uok_atI {l : List Int} (h : uok l = true) (i : Int) (h0 : 0 ≤ i) (h1 : i < l.length) : 0 ≤ rd l i ∧ rd l i ≤ i := by
  have := (uok_at h).2 i.toNat (by omega)
  rw [show ((i.toNat : Nat) : Int) = i by omega] at this
  exact this

theorem spec_uok_l (l : List Int) (hm : l.length ≤ 1048576) : ∀ (d i : Nat), i + d = l.length → Ev (fun k => spec_UnionOk.l0 k l (i : Int)) (uokFrom l d i) := by
  intro d
  induction d with
  | zero =>
    intro i h
    refine Ev.step (fun k => by rw [spec_UnionOk.l0]) ?_
    exact evN (by omega) (Ev.now _)
  | succ d ih =>
    intro i h
    refine Ev.step (fun k => by rw [spec_UnionOk.l0]) ?_
    refine evP (by omega) (evP (by omega) ?_)
    refine evS (spec_in_eq _ _ _) ?_
    rw [uokFrom]
    refine evI (fun e => ?_) (fun e => ?_)
    · rw [e, Bool.true_and, w64 (by omega) (by omega)]
      exact ih (i + 1) (by omega)
    · rw [Bool.not_eq_true] at e
      rw [e, Bool.false_and]; exact Ev.now _
theorem spec_uok_ev (l : List Int) (hm : l.length ≤ 1048576) : Ev (fun k => spec_UnionOk.f k l) (uok l) := by
  unfold spec_UnionOk.f uok
  refine evI (fun e => ?_) (fun e => ?_)
  · rw [decide_eq_false (by omega), Bool.false_and]; exact Ev.now _
  · rw [decide_eq_true (by omega), Bool.true_and]
    exact spec_uok_l l hm l.length 0 (by omega)

theorem impl_uok_l (l : List Int) (hm : l.length ≤ 1048576) : ∀ (d i : Nat), i + d = l.length →
    Ev (fun k => impl_UnionOk.l0 k l l (l.length : Int) (i : Int)) (decide (l.length ≤ 40) && uokFrom l d i) := by
  intro d
  induction d with
  | zero =>
    intro i h
    refine Ev.step (fun k => by rw [impl_UnionOk.l0]) ?_
    refine evN (by omega) ?_
    have e : (decide ((l.length : Int) ≤ 40)) = (decide (l.length ≤ 40) && uokFrom l 0 i) := by
      rw [uokFrom, Bool.and_true]; apply decide_eq_decide.2; omega
    rw [← e]; exact Ev.now _
  | succ d ih =>
    intro i h
    refine Ev.step (fun k => by rw [impl_UnionOk.l0]) ?_
    refine evP (by omega) (evP (by omega) (evP (by omega) ?_))
    refine evS (impl_in_eq _ _ _) ?_
    rw [uokFrom]
    refine evI (fun e => ?_) (fun e => ?_)
    · rw [e, Bool.true_and, w64 (by omega) (by omega)]
      exact ih (i + 1) (by omega)
    · rw [Bool.not_eq_true] at e
      rw [e, Bool.false_and, Bool.and_false]; exact Ev.now _
theorem impl_uok_ev (l : List Int) (hm : l.length ≤ 1048576) : Ev (fun k => impl_UnionOk.f k l) (uok l) := by
  unfold impl_UnionOk.f uok
  exact impl_uok_l l hm l.length 0 (by omega)

/-- From i on to what stands in its place, till that is itself. -/
def uroot (l : List Int) : Nat → Int → Int
  | 0, i => i
  | n + 1, i => if rd l i = i then i else uroot l n (rd l i)
def ufind (l : List Int) (a : Int) : Int := if uok l = true ∧ 0 ≤ a ∧ a ≤ (l.length : Int) - 1 then uroot l l.length a else -1
theorem spec_uroot_ev {l : List Int} (hu : uok l = true) : ∀ (n : Nat) (i : Int), 0 ≤ i → i < l.length → i < n → Ev (fun k => spec_UnionFind.l0 k l i) (uroot l n i) := by
  intro n
  induction n with
  | zero => intro i h0 h1 h2; omega
  | succ n ih =>
    intro i h0 h1 h2
    have hr := uok_atI hu i h0 h1
    refine Ev.step (fun k => by rw [spec_UnionFind.l0]) ?_
    refine evP h0 (evP h1 ?_)
    rw [uroot]
    refine evI (fun e => ?_) (fun e => ?_)
    · rw [if_pos e]; exact Ev.now _
    · rw [if_neg e]; exact ih _ hr.1 (by omega) (by omega)
theorem impl_uroot_ev {l : List Int} (hu : uok l = true) : ∀ (n : Nat) (i : Int), 0 ≤ i → i < l.length → i < n → Ev (fun k => impl_UnionFind.l0 k l i) (uroot l n i) := by
  intro n
  induction n with
  | zero => intro i h0 h1 h2; omega
  | succ n ih =>
    intro i h0 h1 h2
    have hr := uok_atI hu i h0 h1
    refine Ev.step (fun k => by rw [impl_UnionFind.l0]) ?_
    refine evP h0 (evP h1 ?_)
    rw [uroot]
    refine evI (fun e => ?_) (fun e => ?_)
    · rw [if_pos e]; exact Ev.now _
    · rw [if_neg e]; exact ih _ hr.1 (by omega) (by omega)
theorem spec_ufind_ev (l : List Int) (a : Int) (hm : l.length ≤ 1048576) : Ev (fun k => spec_UnionFind.f k l a) (ufind l a) := by
  unfold spec_UnionFind.f
  refine Ev.bind (spec_uok_ev l hm) ?_
  refine evI (fun hu => ?_) (fun hu => ?_)
  · refine evS (spec_in_eq _ _ _) ?_
    rw [w64 (by omega) (by omega)]
    refine Ev.step (fun k => by rw [spec_UnionFind.j0]) ?_
    refine evI (fun e => ?_) (fun e => ?_)
    · rw [ufind, if_neg (by simp at e; intro h; omega)]; exact Ev.now _
    · have e' : 0 ≤ a ∧ a ≤ (l.length : Int) - 1 := by simp at e; omega
      rw [ufind, if_pos ⟨hu, e'⟩]
      exact spec_uroot_ev hu _ _ e'.1 (by omega) (by omega)
  · refine Ev.step (fun k => by rw [spec_UnionFind.j0]) ?_
    refine evP rfl ?_
    rw [ufind, if_neg (fun h => hu h.1)]; exact Ev.now _
theorem impl_ufind_ev (l : List Int) (a : Int) (hm : l.length ≤ 1048576) : Ev (fun k => impl_UnionFind.f k l a) (ufind l a) := by
  unfold impl_UnionFind.f
  refine Ev.bind (impl_uok_ev l hm) ?_
  refine evI (fun hu => ?_) (fun hu => ?_)
  · refine evS (impl_in_eq _ _ _) ?_
    rw [w64 (by omega) (by omega)]
    refine Ev.step (fun k => by rw [impl_UnionFind.j0]) ?_
    refine evI (fun e => ?_) (fun e => ?_)
    · rw [ufind, if_neg (by simp at e; intro h; omega)]; exact Ev.now _
    · have e' : 0 ≤ a ∧ a ≤ (l.length : Int) - 1 := by simp at e; omega
      rw [ufind, if_pos ⟨hu, e'⟩]
      exact impl_uroot_ev hu _ _ e'.1 (by omega) (by omega)
  · refine Ev.step (fun k => by rw [impl_UnionFind.j0]) ?_
    refine evP rfl ?_
    rw [ufind, if_neg (fun h => hu h.1)]; exact Ev.now _

theorem uroot_range {l : List Int} (hu : uok l = true) : ∀ (n : Nat) (i : Int), 0 ≤ i → i < l.length → 0 ≤ uroot l n i ∧ uroot l n i ≤ i := by
  intro n
  induction n with
  | zero => intro i h0 h1; simp only [uroot]; omega
  | succ n ih =>
    intro i h0 h1
    have hr := uok_atI hu i h0 h1
    rw [uroot]; split
    · omega
    · have := ih _ hr.1 (by omega); omega
theorem ufind_range (l : List Int) (a : Int) : -1 ≤ ufind l a ∧ ufind l a ≤ (l.length : Int) - 1 := by
  unfold ufind; split
  · rename_i h
    have := uroot_range h.1 l.length a h.2.1 (by omega)
    omega
  · omega
def ujoin (l : List Int) (a b : Int) : List Int :=
  if ufind l a < 0 ∨ ufind l b < 0 then l else l.set (mx (ufind l a) (ufind l b)).toNat (mn (ufind l a) (ufind l b))
theorem ujoin_length (l : List Int) (a b : Int) : (ujoin l a b).length = l.length := by
  unfold ujoin; split <;> simp
theorem spec_ujoin_ev (l : List Int) (a b : Int) (hm : l.length ≤ 1048576) : Ev (fun k => spec_UnionJoin.f k l a b) (ujoin l a b) := by
  unfold spec_UnionJoin.f
  refine evB (evP (by simp; omega) (evB ?_))
  refine Ev.bind (spec_ufind_ev l a hm) (Ev.bind (spec_ufind_ev l b hm) ?_)
  have ra := ufind_range l a
  have rb := ufind_range l b
  have mx0 : ufind l a ≥ 0 → ufind l b ≥ 0 → 0 ≤ mx (ufind l a) (ufind l b) ∧ mx (ufind l a) (ufind l b) < (l.length : Int) := by intro _ _; unfold mx; split <;> omega
  rw [List.nil_append]
  refine evI (fun h => ?_) (fun h => evI (fun h2 => ?_) (fun h2 => ?_))
  · rw [ujoin, if_pos (.inl h)]; exact Ev.now _
  · rw [ujoin, if_pos (.inr h2)]; exact Ev.now _
  · have e : ujoin l a b = l.set (mx (ufind l a) (ufind l b)).toNat (mn (ufind l a) (ufind l b)) := by rw [ujoin, if_neg (by omega)]
    rw [e]
    exact evP (mx0 (by omega) (by omega)).1 (evP (mx0 (by omega) (by omega)).2 (Ev.now _))
theorem impl_ujoin_ev (l : List Int) (a b : Int) (hm : l.length ≤ 1048576) : Ev (fun k => impl_UnionJoin.f k l a b) (ujoin l a b) := by
  unfold impl_UnionJoin.f
  refine evP (by simp; omega) (evB ?_)
  refine Ev.bind (impl_ufind_ev l a hm) (Ev.bind (impl_ufind_ev l b hm) ?_)
  have ra := ufind_range l a
  have rb := ufind_range l b
  have mx0 : ufind l a ≥ 0 → ufind l b ≥ 0 → 0 ≤ mx (ufind l a) (ufind l b) ∧ mx (ufind l a) (ufind l b) < (l.length : Int) := by intro _ _; unfold mx; split <;> omega
  rw [List.nil_append]
  refine evI (fun h => evI (fun h2 => ?_) (fun h2 => ?_)) (fun h => ?_)
  · have e : ujoin l a b = l.set (mx (ufind l a) (ufind l b)).toNat (mn (ufind l a) (ufind l b)) := by rw [ujoin, if_neg (by omega)]
    rw [e]
    exact evP (mx0 (by omega) (by omega)).1 (evP (mx0 (by omega) (by omega)).2 (Ev.now _))
  · rw [ujoin, if_pos (.inr (by omega))]; exact Ev.now _
  · rw [ujoin, if_pos (.inl (by omega))]; exact Ev.now _

/-- How many of d places from i on stand in their own. -/
def ucnt (l : List Int) : Nat → Nat → Int
  | 0, _ => 0
  | d + 1, i => (if rd l (i : Int) = (i : Int) then 1 else 0) + ucnt l d (i + 1)
theorem ucnt_le (l : List Int) : ∀ d i, 0 ≤ ucnt l d i ∧ ucnt l d i ≤ d := by
  intro d
  induction d with
  | zero => intro i; simp [ucnt]
  | succ d ih => intro i; have := ih (i + 1); rw [ucnt]; split <;> omega
def uclasses (l : List Int) : Int := if uok l = true then ucnt l l.length 0 else 0
theorem impl_ucnt_ev {l : List Int} (hm : l.length ≤ 1048576) : ∀ (d i : Nat) (c : Int), i + d = l.length → 0 ≤ c → c ≤ i →
    Ev (fun k => impl_UnionClasses.l0 k c l (l.length : Int) (i : Int)) (c + ucnt l d i) := by
  intro d
  induction d with
  | zero =>
    intro i c h h0 h1
    refine Ev.step (fun k => by rw [impl_UnionClasses.l0]) ?_
    refine evN (by omega) ?_
    rw [ucnt, Int.add_zero]; exact Ev.now _
  | succ d ih =>
    intro i c h h0 h1
    refine Ev.step (fun k => by rw [impl_UnionClasses.l0]) ?_
    refine evP (by omega) (evP (by omega) (evP (by omega) ?_))
    rw [w64 (by omega) (by omega), w64 (by omega) (by omega), ucnt]
    refine evI (fun e => ?_) (fun e => ?_)
    · rw [if_pos e]
      have := ih (i + 1) (c + 1) (by omega) (by omega) (by omega)
      rw [show c + (1 + ucnt l d (i + 1)) = c + 1 + ucnt l d (i + 1) by omega]
      exact this
    · rw [if_neg e]
      have := ih (i + 1) c (by omega) (by omega) (by omega)
      rw [Int.zero_add]; exact this
theorem impl_uclasses_ev (l : List Int) (hm : l.length ≤ 1048576) : Ev (fun k => impl_UnionClasses.f k l) (uclasses l) := by
  unfold impl_UnionClasses.f uclasses
  refine Ev.bind (impl_uok_ev l hm) ?_
  refine evI (fun hu => ?_) (fun hu => ?_)
  · rw [if_pos hu]
    have := impl_ucnt_ev hm l.length 0 0 (by omega) (by omega) (by omega)
    rw [Int.zero_add] at this; exact this
  · rw [if_neg hu]; exact Ev.now _

/-- 0, 1, .., n - 1. -/
def upto : Nat → List Int
  | 0 => []
  | n + 1 => upto n ++ [(n : Int)]
theorem upto_length (n : Nat) : (upto n).length = n := by
  induction n with
  | zero => rfl
  | succ n ih => simp [upto, ih]
def unew (a : Int) : List Int := if 0 ≤ a ∧ a ≤ 40 then upto a.toNat else []
theorem unew_length (a : Int) : (unew a).length ≤ 40 := by
  unfold unew; split
  · rw [upto_length]; omega
  · simp
theorem spec_unew_l (a : Int) (ha : a ≤ 40) : ∀ (d i : Nat), (i + d : Nat) = a.toNat → Ev (fun k => spec_UnionNew.l0 k a (upto i) (i : Int)) (upto a.toNat) := by
  intro d
  induction d with
  | zero =>
    intro i h
    refine Ev.step (fun k => by rw [spec_UnionNew.l0]) ?_
    have : i = a.toNat := by omega
    subst this
    exact evN (by omega) (Ev.now _)
  | succ d ih =>
    intro i h
    refine Ev.step (fun k => by rw [spec_UnionNew.l0]) ?_
    refine evP (by omega) (evP ha (evP (by rw [upto_length]; omega) ?_))
    rw [w64 (by omega) (by omega)]
    exact ih (i + 1) (by omega)
theorem spec_unew_ev (a : Int) : Ev (fun k => spec_UnionNew.f k a) (unew a) := by
  unfold spec_UnionNew.f
  by_cases h : 0 ≤ a ∧ a ≤ 40
  · rw [unew, if_pos h]
    exact spec_unew_l a h.2 a.toNat 0 (by omega)
  · rw [unew, if_neg h]
    refine Ev.step (fun k => by rw [spec_UnionNew.l0]) ?_
    refine evI (fun e => evN (by omega) (Ev.now _)) (fun e => Ev.now _)
theorem impl_unew_l (a : Int) (h0 : 0 ≤ a) (ha : a ≤ 40) : ∀ (d i : Nat), (i + d : Nat) = a.toNat → Ev (fun k => impl_UnionNew.l0 k (upto i) a (i : Int)) (upto a.toNat) := by
  intro d
  induction d with
  | zero =>
    intro i h
    refine Ev.step (fun k => by rw [impl_UnionNew.l0]) ?_
    have : i = a.toNat := by omega
    subst this
    exact evN (by omega) (Ev.now _)
  | succ d ih =>
    intro i h
    refine Ev.step (fun k => by rw [impl_UnionNew.l0]) ?_
    refine evP (by omega) (evP (by rw [upto_length]; omega) ?_)
    rw [w64 (by omega) (by omega)]
    exact ih (i + 1) (by omega)
theorem impl_unew_ev (a : Int) : Ev (fun k => impl_UnionNew.f k a) (unew a) := by
  unfold impl_UnionNew.f
  refine evS (impl_in_eq _ _ _) ?_
  refine evI (fun e => ?_) (fun e => ?_)
  · have e' : 0 ≤ a ∧ a ≤ 40 := by simpa using e
    rw [unew, if_pos e']
    exact impl_unew_l a e'.1 e'.2 a.toNat 0 (by omega)
  · have e' : ¬ (0 ≤ a ∧ a ≤ 40) := by simpa using e
    rw [unew, if_neg e']; exact Ev.now _

theorem rd_set (l : List Int) (t : Nat) (s i : Int) (ht : t < l.length) (hi : 0 ≤ i) : rd (l.set t s) i = if i = (t : Int) then s else rd l i := by
  unfold rd
  rw [List.getD_eq_getElem?_getD, List.getD_eq_getElem?_getD, List.getElem?_set]
  by_cases h : t = i.toNat
  · subst h
    rw [if_pos rfl, if_pos ht, if_pos (by omega)]; rfl
  · rw [if_neg h, if_neg (by omega)]
theorem set_self (l : List Int) (t : Nat) (ht : t < l.length) (h : rd l (t : Int) = (t : Int)) : l.set t (t : Int) = l := by
  apply List.ext_getElem?
  intro j
  rw [List.getElem?_set]
  by_cases e : t = j
  · subst e
    rw [if_pos rfl, if_pos ht, List.getElem?_eq_getElem ht]
    rw [rd_nat, List.getD_eq_getElem?_getD, List.getElem?_eq_getElem ht] at h
    simp at h; rw [h]
  · rw [if_neg e]
theorem uroot_root {l : List Int} (hu : uok l = true) : ∀ (n : Nat) (i : Int), 0 ≤ i → i < l.length → i < n → rd l (uroot l n i) = uroot l n i := by
  intro n
  induction n with
  | zero => intro i h0 h1 h2; omega
  | succ n ih =>
    intro i h0 h1 h2
    have hr := uok_atI hu i h0 h1
    rw [uroot]; split
    · assumption
    · exact ih _ hr.1 (by omega) (by omega)
theorem uokFrom_iff (l : List Int) : ∀ (d i : Nat), (∀ j : Nat, i ≤ j → j < i + d → 0 ≤ rd l (j : Int) ∧ rd l (j : Int) ≤ (j : Int)) → uokFrom l d i = true := by
  intro d
  induction d with
  | zero => intro i _; rfl
  | succ d ih =>
    intro i h
    have := h i (by omega) (by omega)
    simp only [uokFrom, Bool.and_eq_true, decide_eq_true_eq]
    exact ⟨⟨this.1, this.2⟩, ih (i + 1) (fun j h1 h2 => h j (by omega) (by omega))⟩
theorem uok_of {l : List Int} (h1 : l.length ≤ 40) (h : ∀ j : Nat, j < l.length → 0 ≤ rd l (j : Int) ∧ rd l (j : Int) ≤ (j : Int)) : uok l = true := by
  simp only [uok, Bool.and_eq_true, decide_eq_true_eq]
  exact ⟨h1, uokFrom_iff l _ _ (fun j _ h2 => h j (by omega))⟩
theorem joined_cnt {l : List Int} {s t : Nat} (hst : s < t) (ht : t < l.length) (rt : rd l (t : Int) = (t : Int)) : ∀ (d i : Nat), i + d ≤ l.length → ucnt (l.set t (s : Int)) d i = ucnt l d i - (if i ≤ t ∧ t < i + d then 1 else 0) := by
  intro d
  induction d with
  | zero => intro i _; rw [ucnt, ucnt, if_neg (by omega)]; rfl
  | succ d ih =>
    intro i h
    rw [ucnt, ucnt, ih (i + 1) (by omega), rd_set _ _ _ _ ht (by omega)]
    by_cases e : i = t
    · subst e
      have c1 : (if (i : Int) = (i : Int) then (s : Int) else rd l (i : Int)) = (s : Int) := if_pos rfl
      have c2 : (if i + 1 ≤ i ∧ i < i + 1 + d then (1 : Int) else 0) = 0 := if_neg (by omega)
      have c3 : (if i ≤ i ∧ i < i + (d + 1) then (1 : Int) else 0) = 1 := if_pos (by omega)
      have c4 : (if (s : Int) = (i : Int) then (1 : Int) else 0) = 0 := if_neg (by omega)
      have c5 : (if rd l (i : Int) = (i : Int) then (1 : Int) else 0) = 1 := if_pos rt
      rw [c1, c2, c3, c4, c5]; omega
    · have c1 : (if (i : Int) = (t : Int) then (s : Int) else rd l (i : Int)) = rd l (i : Int) := if_neg (by omega)
      have c2 : (if i + 1 ≤ t ∧ t < i + 1 + d then (1 : Int) else 0) = (if i ≤ t ∧ t < i + (d + 1) then (1 : Int) else 0) := by
        by_cases e2 : i + 1 ≤ t ∧ t < i + 1 + d
        · rw [if_pos e2, if_pos (by omega)]
        · rw [if_neg e2, if_neg (by omega)]
      rw [c1, c2]; omega
section joined
variable {l : List Int} (hu : uok l = true) {s t : Nat} (hst : s < t) (ht : t < l.length) (rs : rd l (s : Int) = (s : Int)) (rt : rd l (t : Int) = (t : Int))
include hu hst ht rs rt
theorem joined_ok : uok (l.set t (s : Int)) = true := by
  refine uok_of (by rw [List.length_set]; exact (uok_at hu).1) (fun j hj => ?_)
  rw [List.length_set] at hj
  rw [rd_set _ _ _ _ ht (by omega)]
  have := (uok_at hu).2 j hj
  split <;> omega
theorem joined_root : ∀ (n : Nat) (i : Int), 0 ≤ i → i < l.length → i < n → uroot (l.set t (s : Int)) n i = if uroot l n i = (t : Int) then (s : Int) else uroot l n i := by
  intro n
  induction n with
  | zero => intro i h0 h1 h2; omega
  | succ n ih =>
    intro i h0 h1 h2
    have hr := uok_atI hu i h0 h1
    rw [uroot, rd_set _ _ _ _ ht h0, uroot]
    by_cases e : i = (t : Int)
    · subst e
      rw [if_pos rfl, if_pos rt, if_neg (by omega), if_pos rfl]
      obtain ⟨m, rfl⟩ : ∃ m, n = m + 1 := ⟨n - 1, by omega⟩
      rw [uroot, rd_set _ _ _ _ ht (by omega), if_neg (show ¬ ((s : Int) = (t : Int)) by omega), if_pos rs]
    · rw [if_neg e]
      by_cases e2 : rd l i = i
      · rw [if_pos e2, if_pos e2, if_neg e]
      · rw [if_neg e2, if_neg e2]
        exact ih _ hr.1 (by omega) (by omega)
theorem joined_find (i : Int) (h0 : 0 ≤ i) (h1 : i < l.length) : ufind (l.set t (s : Int)) i = if ufind l i = (t : Int) then (s : Int) else ufind l i := by
  have h := joined_ok hu hst ht rs rt
  unfold ufind
  rw [List.length_set, if_pos (show uok (l.set t (s : Int)) = true ∧ 0 ≤ i ∧ i ≤ (l.length : Int) - 1 from ⟨h, h0, by omega⟩), if_pos (show uok l = true ∧ 0 ≤ i ∧ i ≤ (l.length : Int) - 1 from ⟨hu, h0, by omega⟩)]
  exact joined_root hu hst ht rs rt _ _ h0 h1 h1
theorem joined_classes : uclasses (l.set t (s : Int)) = uclasses l - 1 := by
  unfold uclasses
  rw [if_pos (joined_ok hu hst ht rs rt), if_pos hu, List.length_set, joined_cnt hst ht rt _ _ (by omega), if_pos (by omega)]
end joined
theorem ufind_in {l : List Int} (hu : uok l = true) (i : Int) (h0 : 0 ≤ i) (h1 : i < l.length) : 0 ≤ ufind l i ∧ ufind l i ≤ i ∧ rd l (ufind l i) = ufind l i := by
  rw [ufind, if_pos ⟨hu, h0, by omega⟩]
  have := uroot_range hu l.length i h0 h1
  exact ⟨this.1, this.2, uroot_root hu _ _ h0 h1 h1⟩
/-- What UnionJoin makes of right classes: x with one class less, or the same classes. -/
theorem ujoin_says {l : List Int} (hu : uok l = true) (a b : Int) (a0 : 0 ≤ a) (a1 : a < l.length) (b0 : 0 ≤ b) (b1 : b < l.length) :
    uok (ujoin l a b) = true ∧ (uclasses (ujoin l a b) = if ufind l a = ufind l b then uclasses l else uclasses l - 1) ∧
    ∀ i : Int, 0 ≤ i → i < l.length → ufind (ujoin l a b) i = if ufind l i = mx (ufind l a) (ufind l b) then mn (ufind l a) (ufind l b) else ufind l i := by
  obtain ⟨p0, p1, pr⟩ := ufind_in hu a a0 a1
  obtain ⟨q0, q1, qr⟩ := ufind_in hu b b0 b1
  generalize ep : ufind l a = p at *
  generalize eq : ufind l b = q at *
  have eu : ujoin l a b = l.set (mx p q).toNat (mn p q) := by unfold ujoin; rw [ep, eq, if_neg (by omega)]
  rw [eu]
  by_cases e : p = q
  · subst e
    have e1 : mx p p = p := by unfold mx; split <;> rfl
    have e2 : mn p p = p := by unfold mn; split <;> rfl
    have es : l.set (mx p p).toNat (mn p p) = l := by
      rw [e1, e2]
      have := set_self l p.toNat (by omega) (by rw [Int.toNat_of_nonneg p0]; exact pr)
      rw [Int.toNat_of_nonneg p0] at this; exact this
    rw [es, if_pos rfl]
    refine ⟨hu, rfl, fun i _ _ => ?_⟩
    rw [e1, e2]; split
    · assumption
    · rfl
  · have ht : ∃ s t : Nat, s < t ∧ t < l.length ∧ mx p q = (t : Int) ∧ mn p q = (s : Int) ∧ rd l (s : Int) = (s : Int) ∧ rd l (t : Int) = (t : Int) := by
      by_cases h : p < q
      · refine ⟨p.toNat, q.toNat, by omega, by omega, ?_, ?_, ?_, ?_⟩
        · unfold mx; rw [if_pos h]; omega
        · unfold mn; rw [if_neg (by omega)]; omega
        · rw [Int.toNat_of_nonneg p0]; exact pr
        · rw [Int.toNat_of_nonneg q0]; exact qr
      · refine ⟨q.toNat, p.toNat, by omega, by omega, ?_, ?_, ?_, ?_⟩
        · unfold mx; rw [if_neg h]; omega
        · unfold mn; rw [if_pos (by omega)]; omega
        · rw [Int.toNat_of_nonneg q0]; exact qr
        · rw [Int.toNat_of_nonneg p0]; exact pr
    obtain ⟨s, t, hst, ht, em, en, rs, rt⟩ := ht
    rw [em, en, Int.toNat_natCast, if_neg e]
    exact ⟨joined_ok hu hst ht rs rt, joined_classes hu hst ht rs rt, fun i h0 h1 => joined_find hu hst ht rs rt i h0 h1⟩
theorem rd_upto : ∀ (n i : Nat), i < n → rd (upto n) (i : Int) = (i : Int) := by
  intro n
  induction n with
  | zero => intro i h; omega
  | succ n ih =>
    intro i h
    rw [upto, rd_nat, List.getD_eq_getElem?_getD, List.getElem?_append, upto_length]
    by_cases e : i < n
    · rw [if_pos e]
      have := ih i e
      rw [rd_nat, List.getD_eq_getElem?_getD] at this; exact this
    · have : i = n := by omega
      subst this
      rw [if_neg e]; simp
theorem ucnt_upto (n : Nat) : ∀ (d i : Nat), i + d ≤ n → ucnt (upto n) d i = d := by
  intro d
  induction d with
  | zero => intro i _; rfl
  | succ d ih =>
    intro i h
    rw [ucnt, ih (i + 1) (by omega), if_pos (rd_upto n i (by omega))]; omega
theorem uclasses_new (n : Nat) (h : n ≤ 40) : uclasses (unew (n : Int)) = n := by
  rw [unew, if_pos (by omega), Int.toNat_natCast, uclasses, if_pos, upto_length, ucnt_upto n n 0 (by omega)]
  refine uok_of (by rw [upto_length]; exact h) (fun j hj => ?_)
  rw [upto_length] at hj
  rw [rd_upto n j hj]; omega

theorem l24Union_l {c : List Int} (hc : c.length ≤ 140737488351232) : ∀ (n : Nat) (l : List Int) (i h : Int), l.length ≤ 40 → 0 ≤ i → n ≤ 100 →
    ∃ r i' h', Ev (fun k => spec_l24Union.l0 k l (n : Int) c i h) (r, i', h') ∧ r.length ≤ 40 ∧ 0 ≤ i' := by
  have j2 : ∀ (l : List Int) (i h : Int), l.length ≤ 40 → 0 ≤ i →
      ∃ r i' h', Ev (fun k => if (l.length : Int) > 0 then ((spec_l1Once.f c i h 8).bind fun bt180 => (spec_l24Union.j2 k l bt180.1 c bt180.2.1 bt180.2.2)) else (spec_l24Union.j2 k l false c i h)) (r, i', h') ∧ r.length ≤ 40 ∧ 0 ≤ i' := by
    intro l i h hl hi
    have nil : ∀ i h : Int, Ev (fun k => spec_l24Union.j2 k l false c i h) (l, i, h) := by
      intro i h
      refine Ev.step (fun k => by rw [spec_l24Union.j2]) ?_
      exact evN (by simp) (Ev.now _)
    by_cases h0 : (l.length : Int) > 0
    · obtain ⟨b, i1, h1, e1, b0, b1, b2, i10⟩ := l1Below_ok c hc i h 8 hi
      have eo : spec_l1Once.f c i h 8 = some (b == 0, i1, h1) := by unfold spec_l1Once.f; rw [e1]; rfl
      cases hb : (b == 0) with
      | false =>
        rw [hb] at eo
        exact ⟨l, i1, h1, evP h0 (evS eo (nil _ _)), hl, i10⟩
      | true =>
        rw [hb] at eo
        obtain ⟨x, i2, h2, e2, x0, x1, x2, i20⟩ := l1Below_ok c hc i1 h1 (l.length : Int) i10
        obtain ⟨y, i3, h3, e3, y0, y1, y2, i30⟩ := l1Below_ok c hc i2 h2 12 i20
        refine ⟨l.set (x : Int).toNat (wrap64 (y - 1)), i3, h3, evP h0 (evS eo ?_), ?_, i30⟩
        · refine Ev.step (fun k => by rw [spec_l24Union.j2]) ?_
          exact evP rfl (evS e2 (evS e3 (evP x0 (evP (x1 h0) (Ev.now _)))))
        · rw [List.length_set]; exact hl
    · exact ⟨l, i, h, evN h0 (nil _ _), hl, hi⟩
  intro n
  induction n with
  | zero =>
    intro l i h hl hi _
    obtain ⟨r, i', h', e, hr, hi'⟩ := j2 l i h hl hi
    refine ⟨r, i', h', ?_, hr, hi'⟩
    refine Ev.step (fun k => by rw [spec_l24Union.l0]) ?_
    refine evN (by omega) ?_
    refine Ev.step (fun k => by rw [spec_l24Union.j1]) ?_
    exact evN (by simp) e
  | succ n ih =>
    intro l i h hl hi hn
    by_cases h0 : (l.length : Int) > 0
    · obtain ⟨a, i1, h1, e1, a0, a1, a2, i10⟩ := l1Below_ok c hc i h (l.length : Int) hi
      obtain ⟨b, i2, h2, e2, b0, b1, b2, i20⟩ := l1Below_ok c hc i1 h1 (l.length : Int) i10
      obtain ⟨r, i', h', e, hr, hi'⟩ := ih (ujoin l a b) i2 h2 (by rw [ujoin_length]; exact hl) i20 (by omega)
      refine ⟨r, i', h', ?_, hr, hi'⟩
      refine Ev.step (fun k => by rw [spec_l24Union.l0]) ?_
      refine evP (by omega) ?_
      rw [decide_eq_true h0]
      refine Ev.step (fun k => by rw [spec_l24Union.j1]) ?_
      refine evP rfl (evS e1 (evS e2 (Ev.bind (spec_ujoin_ev l a b (by omega)) ?_)))
      rw [w64 (by omega) (by omega), show ((n + 1 : Nat) : Int) - 1 = (n : Int) by omega]
      exact e
    · obtain ⟨r, i', h', e, hr, hi'⟩ := j2 l i h hl hi
      refine ⟨r, i', h', ?_, hr, hi'⟩
      refine Ev.step (fun k => by rw [spec_l24Union.l0]) ?_
      refine evP (by omega) ?_
      rw [decide_eq_false h0]
      refine Ev.step (fun k => by rw [spec_l24Union.j1]) ?_
      exact evN (by simp) e
theorem drawUnionJoin_ok (c : List Int) (hc : c.length ≤ 140737488351232) : ∃ l a b, Ev (fun k => spec_DrawUnionJoin.f k c) (l, a, b) ∧ l.length ≤ 40 := by
  obtain ⟨h, e0⟩ := l1New_ok c hc
  obtain ⟨n, i1, h1, e1, n0, n1, n2, i10⟩ := l1Below_ok c hc 0 h 10 (by omega)
  obtain ⟨m, i2, h2, e2, m0, m1, m2, i20⟩ := l1Below_ok c hc i1 h1 8 i10
  obtain ⟨l, i3, h3, e3, hl, i30⟩ := l24Union_l hc m.toNat (unew n) i2 h2 (unew_length n) i20 (by omega)
  rw [Int.toNat_of_nonneg m0] at e3
  obtain ⟨a, i4, h4, e4, a0, a1, a2, i40⟩ := l1Below_ok c hc i3 h3 12 i30
  obtain ⟨b, i5, h5, e5, b0, b1, b2, i50⟩ := l1Below_ok c hc i4 h4 10 i40
  refine ⟨l, wrap64 (a - 1), b, ?_, hl⟩
  unfold spec_DrawUnionJoin.f spec_l24Union.f
  refine Ev.bind e0 ?_
  refine Ev.bind (a := (l, i3, h3)) ?_ (evS e4 (evS e5 (Ev.now _)))
  exact evS e1 (Ev.bind (spec_unew_ev n) (evS e2 e3))
theorem pairs_ev (l x : List Int) (p q : Int) (hl : l.length ≤ 40) (hx : x.length ≤ 40)
    (hyp : ∀ i k : Nat, k < i → i < l.length → (ufind x i = ufind x k ↔ (ufind l i = ufind l k ∨ (ufind l i = p ∨ ufind l i = q) ∧ (ufind l k = p ∨ ufind l k = q)))) :
    ∀ (d i : Nat), i + d = l.length → Ev (fun k => laws_FnUnions.l0 k l x p q (i : Int)) true := by
  have inner : ∀ (i : Nat), i < l.length → Ev (fun k => laws_FnUnions.l0 k l x p q ((i + 1 : Nat) : Int)) true →
      ∀ (d k' : Nat), k' + d = i → Ev (fun k => laws_FnUnions.l1 k l x p q (i : Int) (k' : Int)) true := by
    intro i hi next d
    induction d with
    | zero =>
      intro k' hk
      refine Ev.step (fun k => by rw [laws_FnUnions.l1]) ?_
      refine evN (by omega) ?_
      rw [w64 (by omega) (by omega)]; exact next
    | succ d ih =>
      intro k' hk
      have hh := hyp i k' (by omega) hi
      refine Ev.step (fun k => by rw [laws_FnUnions.l1]) ?_
      refine evP (by omega) ?_
      refine Ev.bind (spec_ufind_ev l (i : Int) (by omega)) (Ev.bind (spec_ufind_ev l (k' : Int) (by omega)) ?_)
      have j5 : ∀ w : Bool, (w = true ↔ ufind x i = ufind x k') → Ev (fun k => laws_FnUnions.j5 k l x p q (i : Int) (k' : Int) w) true := by
        intro w hw
        refine Ev.step (fun k => by rw [laws_FnUnions.j5]) ?_
        refine Ev.bind (impl_ufind_ev x (i : Int) (by omega)) (Ev.bind (impl_ufind_ev x (k' : Int) (by omega)) ?_)
        refine evN ?_ ?_
        · by_cases e : ufind x i = ufind x k'
          · rw [hw.2 e]; simp [e]
          · have : w = false := by cases w with | false => rfl | true => exact absurd (hw.1 rfl) e
            rw [this]; simp [e]
        · rw [w64 (by omega) (by omega)]; exact ih (k' + 1) (by omega)
      refine evI (fun e1 => ?_) (fun e1 => evI (fun e2 => evI (fun e3 => ?_) (fun e3 => ?_)) (fun e2 => evI (fun e4 => evI (fun e3 => ?_) (fun e3 => ?_)) (fun e4 => ?_)))
      · exact j5 true (by rw [hh]; simp [e1])
      · exact j5 true (by rw [hh]; simp [e2, e3])
      · exact j5 _ (by rw [hh]; simp [e1, e2, e3]; intro h; exact absurd h.symm e3)
      · exact j5 true (by rw [hh]; simp [e4, e3])
      · exact j5 _ (by rw [hh]; simp [e1, e4, e3]; intro h; exact h.symm)
      · exact j5 false (by rw [hh]; simp [e1, e2, e4])
  intro d
  induction d with
  | zero =>
    intro i h
    refine Ev.step (fun k => by rw [laws_FnUnions.l0]) ?_
    refine evN (by omega) ?_
    refine Ev.bind (impl_unew_ev _) (Ev.bind (impl_uclasses_ev _ ?_) ?_)
    · have := unew_length (l.length : Int); omega
    · rw [uclasses_new _ hl]; simp; exact Ev.now _
  | succ d ih =>
    intro i h
    refine Ev.step (fun k => by rw [laws_FnUnions.l0]) ?_
    refine evP (by omega) ?_
    exact inner i (by omega) (ih (i + 1) (by omega)) i 0 (by omega)
theorem FnUnions : laws_FnUnions.Pure := by
  intro c _ hc0 _
  have hc : c.length ≤ 140737488351232 := by omega
  apply Ev.rounds
  unfold laws_FnUnions.f laws_big.f
  refine evB ?_
  refine evI (fun _ => Ev.now _) (fun _ => ?_)
  obtain ⟨l, a, b, e0, hl⟩ := drawUnionJoin_ok c hc
  have hm : l.length ≤ 1048576 := by omega
  have hx : (ujoin l a b).length ≤ 40 := by rw [ujoin_length]; exact hl
  refine Ev.bind e0 ?_
  dsimp only
  refine Ev.bind (impl_ujoin_ev l a b hm) ?_
  refine Ev.bind (spec_uok_ev l hm) ?_
  have same : ufind l a < 0 ∨ ufind l b < 0 → Ev (fun k => laws_FnUnions.j0 k l a b (ujoin l a b) true) true := by
    intro h
    refine Ev.step (fun k => by rw [laws_FnUnions.j0]) ?_
    refine evP rfl ?_
    have e : ujoin l a b = l := by rw [ujoin, if_pos h]
    rw [e]
    refine Ev.bind (sameInts_ev l l hm) ?_
    simp; exact Ev.now _
  have out : ∀ x : Int, ¬ (uok l = true ∧ 0 ≤ x ∧ x ≤ (l.length : Int) - 1) → ufind l x < 0 := by
    intro x h; rw [ufind, if_neg h]; omega
  refine evI (fun hu => ?_) (fun hu => same (.inl (out _ (fun h => hu h.1))))
  refine evI (fun h1 => same (.inl (out _ (by omega)))) (fun h1 => evI (fun h2 => same (.inr (out _ (by omega)))) (fun h2 => evI (fun h3 => same (.inl (out _ (by omega)))) (fun h3 => ?_)))
  by_cases h4 : b ≥ (l.length : Int)
  · rw [decide_eq_true h4]; exact same (.inr (out _ (by omega)))
  · rw [decide_eq_false h4]
    obtain ⟨xo, xc, xf⟩ := ujoin_says hu a b (by omega) (by omega) (by omega) (by omega)
    obtain ⟨p0, p1, pr⟩ := ufind_in hu a (by omega) (by omega)
    obtain ⟨q0, q1, qr⟩ := ufind_in hu b (by omega) (by omega)
    have same2 : ufind (ujoin l a b) a = ufind (ujoin l a b) b := by
      rw [xf a (by omega) (by omega), xf b (by omega) (by omega)]
      unfold mx mn
      repeat' split
      all_goals omega
    refine Ev.step (fun k => by rw [laws_FnUnions.j0]) ?_
    refine evN (by simp) ?_
    refine Ev.bind (spec_uok_ev _ (by omega)) ?_
    refine evP xo ?_
    refine Ev.bind (impl_ufind_ev _ a (by omega)) (Ev.bind (impl_ufind_ev _ b (by omega)) ?_)
    rw [same2]
    have ebne : (ufind (ujoin l a b) b != ufind (ujoin l a b) b) = false := by simp
    rw [ebne]
    refine Ev.step (fun k => by rw [laws_FnUnions.j1]) ?_
    refine evN (by simp) ?_
    refine Ev.bind (spec_ufind_ev l a hm) (Ev.bind (spec_ufind_ev l b hm) (Ev.bind (impl_uclasses_ev l hm) ?_))
    have hcl : 0 ≤ uclasses l ∧ uclasses l ≤ 40 := by
      rw [uclasses, if_pos hu]; have := ucnt_le l l.length 0; omega
    have rest : Ev (fun k => laws_FnUnions.j2 k l (ujoin l a b) (ufind l a) (ufind l b) false) true := by
      refine Ev.step (fun k => by rw [laws_FnUnions.j2]) ?_
      refine evN (by simp) ?_
      refine pairs_ev l (ujoin l a b) _ _ hl hx ?_ l.length 0 (by omega)
      intro i k hk hi
      obtain ⟨i0, i1, ir⟩ := ufind_in hu (i : Int) (by omega) (by omega)
      obtain ⟨k0, k1, kr⟩ := ufind_in hu (k : Int) (by omega) (by omega)
      rw [xf i (by omega) (by omega), xf k (by omega) (by omega)]
      generalize ufind l a = p at *
      generalize ufind l b = q at *
      generalize ufind l (i : Int) = u at *
      generalize ufind l (k : Int) = v at *
      unfold mx mn
      repeat' split
      all_goals omega
    refine evI (fun e => ?_) (fun e => ?_)
    · rw [if_pos e] at xc
      refine Ev.bind (impl_uclasses_ev _ (by omega)) (evP xc rest)
    · rw [if_neg e] at xc
      refine Ev.bind (impl_uclasses_ev _ (by omega)) ?_
      rw [xc, w64 (by omega) (by omega)]
      have : ((uclasses l - 1) != (uclasses l - 1)) = false := by simp
      rw [this]; exact rest

end Go.Proofs.Ytcakbhpmhekmcaa.Pure
