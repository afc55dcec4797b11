/- The program's Onward and the reference's return the same at every list of edges and every beginning. No condition beyond the statement's own. -/
import Derived.Test.YtcakbhpmhekmcaaPFnExactOnwardx5
namespace Go.Proofs.Ytcakbhpmhekmcaa.Pure
open Go.RowKit Go.Proofs.Ytcakbhpmhekmcaa.PFnExactOnward Go.Proofs.YtcakbhpmhekmcaaW.PrintWords Go.Proofs.YtcakbhpmhekmcaaW.PrintLast
set_option linter.unusedVariables false
set_option linter.unusedSimpArgs false

/-! Small words on `Ev`. -/
theorem evP {α : Type} {c : Prop} [Decidable c] {f g : Nat → Option α} {r : α} (h : c) (hf : Ev f r) : Ev (fun k => if c then f k else g k) r :=
  Ev.congr (fun _ => if_pos h) hf
theorem evN {α : Type} {c : Prop} [Decidable c] {f g : Nat → Option α} {r : α} (h : ¬ c) (hg : Ev g r) : Ev (fun k => if c then f k else g k) r :=
  Ev.congr (fun _ => if_neg h) hg
theorem evI {α : Type} {c : Prop} [Decidable c] {f g : Nat → Option α} {r : α} (hf : c → Ev f r) (hg : ¬ c → Ev g r) : Ev (fun k => if c then f k else g k) r := by
  by_cases h : c
  · exact evP h (hf h)
  · exact evN h (hg h)
theorem evB {α β : Type} {a : α} {f : Nat → α → Option β} {r : β} (h : Ev (fun k => f k a) r) : Ev (fun k => (some a).bind (f k)) r := h
theorem evS {α β : Type} {x : Option α} {a : α} {f : Nat → α → Option β} {r : β} (e : x = some a) (h : Ev (fun k => f k a) r) : Ev (fun k => x.bind (f k)) r := by
  subst e; exact h
theorem evC {α : Type} {x : Option α} {r : α} (h : x = some r) : Ev (fun _ => x) r := by subst h; exact Ev.now _
theorem w64 {i : Int} (h0 : -9223372036854775808 ≤ i) (h1 : i ≤ 9223372036854775807) : wrap64 i = i := by unfold wrap64; omega
theorem rd_nat (l : List Int) (i : Nat) : rd l (i : Int) = l.getD i 0 := rfl
theorem rd_cons_drop (l : List Int) (i : Nat) (h : i < l.length) : l.drop i = rd l (i : Int) :: l.drop (i + 1) := by
  rw [rd_nat, List.drop_eq_getElem_cons h, List.getD_eq_getElem?_getD, List.getElem?_eq_getElem h]; rfl
theorem set_mid {α : Type} (a b : List α) (x y : α) (i : Nat) (h : a.length = i) : (a ++ x :: b).set i y = (a ++ [y]) ++ b := by
  subst h
  rw [List.set_append_right _ _ (Nat.le_refl _), Nat.sub_self, List.set_cons_zero]; simp
theorem take_snoc {α : Type} (l : List α) (z : α) (i : Nat) (h : i < l.length) : l.take i ++ [l.getD i z] = l.take (i + 1) := by
  rw [List.take_succ_eq_append_getElem h, List.getD_eq_getElem?_getD, List.getElem?_eq_getElem h]; rfl

theorem eqIntS_l (l m : List Int) (hm : l.length ≤ 1048576) (hl : l.length = m.length) : ∀ (d i : Nat), i + d = l.length →
    Ev (fun k => laws_eqIntS.l0 k l m (i : Int)) (decide (l.drop i = m.drop i)) := by
  intro d
  induction d with
  | zero =>
    intro i h
    refine Ev.step (fun k => by rw [laws_eqIntS.l0]) ?_
    refine evN (by omega) ?_
    rw [List.drop_of_length_le (by omega), List.drop_of_length_le (by omega)]
    exact Ev.now _
  | succ d ih =>
    intro i h
    refine Ev.step (fun k => by rw [laws_eqIntS.l0]) ?_
    refine evP (by omega) (evP (by omega) (evP (by omega) ?_))
    rw [rd_cons_drop l i (by omega), rd_cons_drop m i (by omega), w64 (by omega) (by omega)]
    refine evI (fun e => ?_) (fun e => ?_)
    · rw [e]
      have := ih (i + 1) (by omega)
      simpa using this
    · have : decide (rd l (i : Int) :: l.drop (i + 1) = rd m (i : Int) :: m.drop (i + 1)) = false := by simp [e]
      rw [this]; exact Ev.now _
theorem eqIntS_ev (l m : List Int) (hm : l.length ≤ 1048576) : Ev (fun k => laws_eqIntS.f k l m) (decide (l = m)) := by
  unfold laws_eqIntS.f
  refine evI (fun e => ?_) (fun e => ?_)
  · have h := eqIntS_l l m hm (by omega) l.length 0 (by omega)
    simpa using h
  · have : decide (l = m) = false := by simp; intro h; subst h; exact e rfl
    rw [this]; exact Ev.now _
theorem eqIntS_self (l : List Int) (hm : l.length ≤ 1048576) : Ev (fun k => laws_eqIntS.f k l l) true := by
  have := eqIntS_ev l l hm
  simpa using this

/-- What a row of numbers is marked with: m, m + 1, .. -/
def marks (m : Int) : Nat → List Int
  | 0 => []
  | n + 1 => m :: marks (m + 1) n
theorem marks_length (n : Nat) : ∀ m, (marks m n).length = n := by
  induction n with
  | zero => intro m; rfl
  | succ n ih => intro m; simp [marks, ih]
theorem marks_get (n : Nat) : ∀ (m : Int) (i : Nat), i < n → (marks m n)[i]? = some (m + i) := by
  induction n with
  | zero => intro m i h; omega
  | succ n ih =>
    intro m i h
    cases i with
    | zero => simp [marks]
    | succ i => rw [marks, List.getElem?_cons_succ, ih (m + 1) i (by omega)]; congr 1; omega
theorem markIntS_l (l : List Int) (hm : l.length ≤ 1048576) (m : Int) (hm0 : 0 ≤ m) (hm1 : m ≤ 1000000000000) : ∀ (d i : Nat), i + d = l.length →
    Ev (fun k => laws_markIntS.l0 k ((marks m l.length).take i ++ l.drop i) (m + i) (i : Int)) (m + l.length, marks m l.length) := by
  intro d
  induction d with
  | zero =>
    intro i h
    have hi : i = l.length := by omega
    subst hi
    refine Ev.step (fun k => by rw [laws_markIntS.l0]) ?_
    refine evN (by simp [marks_length]) ?_
    have e : (marks m l.length).take l.length ++ l.drop l.length = marks m l.length := by
      rw [List.drop_of_length_le (Nat.le_refl _), List.append_nil, List.take_of_length_le (by rw [marks_length]; exact Nat.le_refl _)]
    rw [e]; exact Ev.now _
  | succ d ih =>
    intro i h
    refine Ev.step (fun k => by rw [laws_markIntS.l0]) ?_
    refine evP (by simp [marks_length]; omega) (evP (by omega) ?_)
    have hi : i < l.length := by omega
    have e : ((marks m l.length).take i ++ l.drop i).set (i : Int).toNat (m + i) = (marks m l.length).take (i + 1) ++ l.drop (i + 1) := by
      have h2 := take_snoc (marks m l.length) 0 i (by rw [marks_length]; exact hi)
      rw [List.getD_eq_getElem?_getD, marks_get _ _ _ hi, Option.getD_some] at h2
      rw [List.drop_eq_getElem_cons hi, Int.toNat_natCast, set_mid _ _ _ _ _ (by rw [List.length_take, marks_length]; omega), h2]
    rw [e, w64 (by omega) (by omega), w64 (by omega) (by omega)]
    have := ih (i + 1) (by omega)
    have e2 : m + ((i : Nat) : Int) + 1 = m + ((i + 1 : Nat) : Int) := by omega
    rw [e2]
    exact this
theorem markIntS_ev (l : List Int) (hm : l.length ≤ 1048576) (m : Int) (hm0 : 0 ≤ m) (hm1 : m ≤ 1000000000000) : Ev (fun k => laws_markIntS.f k l m) (m + l.length, marks m l.length) := by
  unfold laws_markIntS.f
  have h := markIntS_l l hm m hm0 hm1 l.length 0 (by omega)
  simpa using h

theorem heldIntS_l (n : Nat) (hn : n ≤ 1048576) (m : Int) (hm0 : 0 ≤ m) (hm1 : m ≤ 1000000000000) : ∀ (d i : Nat), i + d = n →
    Ev (fun k => laws_heldIntS.l0 k (marks m n) (m + i) (i : Int)) (m + n) := by
  intro d
  induction d with
  | zero =>
    intro i h
    refine Ev.step (fun k => by rw [laws_heldIntS.l0]) ?_
    refine evN (by simp [marks_length]; omega) ?_
    have : i = n := by omega
    subst this; exact Ev.now _
  | succ d ih =>
    intro i h
    refine Ev.step (fun k => by rw [laws_heldIntS.l0]) ?_
    refine evP (by simp [marks_length]; omega) (evP (by omega) (evP ?_ ?_))
    · rw [rd_nat, List.getD_eq_getElem?_getD, marks_get _ _ _ (by omega)]; rfl
    · rw [w64 (by omega) (by omega), w64 (by omega) (by omega)]
      have := ih (i + 1) (by omega)
      have e2 : m + ((i : Nat) : Int) + 1 = m + ((i + 1 : Nat) : Int) := by omega
      rw [e2]; exact this
theorem heldIntS_ev (n : Nat) (hn : n ≤ 1048576) (m : Int) (hm0 : 0 ≤ m) (hm1 : m ≤ 1000000000000) : Ev (fun k => laws_heldIntS.f k (marks m n) m) (m + n) := by
  unfold laws_heldIntS.f
  have h := heldIntS_l n hn m hm0 hm1 n 0 (by omega)
  simpa using h

/-! Numbers that rise, each once. -/
def ins (n : Int) : List Int → List Int
  | [] => [n]
  | a :: t => if a < n then a :: ins n t else if a = n then a :: t else n :: a :: t
def Rises (l : List Int) : Prop := l.Pairwise (· < ·)
theorem mem_ins (n x : Int) : ∀ l : List Int, x ∈ ins n l ↔ x = n ∨ x ∈ l := by
  intro l
  induction l with
  | nil => simp [ins]
  | cons a t ih =>
    unfold ins
    split
    · rw [List.mem_cons, ih, List.mem_cons]
      exact ⟨fun h => by rcases h with h | h | h <;> simp [h], fun h => by rcases h with h | h | h <;> simp [h]⟩
    · split
      · rename_i _ h2; subst h2
        exact ⟨fun h => .inr h, fun h => by rcases h with h | h <;> simp [h]⟩
      · simp
theorem rises_ins (n : Int) : ∀ l : List Int, Rises l → Rises (ins n l) := by
  intro l
  induction l with
  | nil => intro _; unfold ins Rises; simp
  | cons a t ih =>
    intro h
    obtain ⟨h1, h2⟩ := List.pairwise_cons.1 h
    unfold ins
    split
    · rename_i ha
      refine List.pairwise_cons.2 ⟨fun y hy => ?_, ih h2⟩
      rcases (mem_ins n y t).1 hy with e | hy
      · subst e; exact ha
      · exact h1 y hy
    · split
      · exact h
      · refine List.pairwise_cons.2 ⟨fun y hy => ?_, h⟩
        rcases List.mem_cons.1 hy with e | hy
        · subst e; omega
        · have := h1 y hy; omega
theorem ins_length (n : Int) : ∀ l : List Int, n ∉ l → Rises l → (ins n l).length = l.length + 1 := by
  intro l
  induction l with
  | nil => intro _ _; rfl
  | cons a t ih =>
    intro h hr
    obtain ⟨h1, h2⟩ := List.pairwise_cons.1 hr
    rw [List.mem_cons] at h
    unfold ins
    split
    · rw [List.length_cons, ih (fun h' => h (.inr h')) h2]; rfl
    · rw [if_neg (fun e => h (.inl e.symm))]; rfl
theorem ins_le (n : Int) : ∀ l : List Int, l.length ≤ (ins n l).length ∧ (ins n l).length ≤ l.length + 1 := by
  intro l
  induction l with
  | nil => simp [ins]
  | cons a t ih =>
    unfold ins
    split
    · simp only [List.length_cons]; omega
    · split <;> simp
theorem ins_mem (n : Int) : ∀ l : List Int, n ∈ l → Rises l → ins n l = l := by
  intro l
  induction l with
  | nil => intro h; simp at h
  | cons a t ih =>
    intro h hr
    obtain ⟨h1, h2⟩ := List.pairwise_cons.1 hr
    rw [List.mem_cons] at h
    unfold ins
    rcases h with e | h
    · subst e; rw [if_neg (by omega), if_pos rfl]
    · rw [if_pos (h1 n h), ih h h2]
theorem rises_eq : ∀ l m : List Int, Rises l → Rises m → (∀ x, x ∈ l ↔ x ∈ m) → l = m := by
  intro l
  induction l with
  | nil =>
    intro m _ _ h
    cases m with
    | nil => rfl
    | cons b s => exact absurd ((h b).2 (by simp)) (by simp)
  | cons a t ih =>
    intro m hl hm h
    cases m with
    | nil => exact absurd ((h a).1 (by simp)) (by simp)
    | cons b s =>
      obtain ⟨h1, h2⟩ := List.pairwise_cons.1 hl
      obtain ⟨g1, g2⟩ := List.pairwise_cons.1 hm
      have e : a = b := by
        have ha := List.mem_cons.1 ((h a).1 (by simp))
        have hb := List.mem_cons.1 ((h b).2 (by simp))
        rcases ha with e | ha
        · exact e
        · rcases hb with e | hb
          · exact e.symm
          · have := h1 b hb; have := g1 a ha; omega
      subst e
      congr 1
      refine ih s h2 g2 (fun x => ⟨fun hx => ?_, fun hx => ?_⟩)
      · have := List.mem_cons.1 ((h x).1 (List.mem_cons.2 (.inr hx)))
        rcases this with e | h3
        · have := h1 x hx; omega
        · exact h3
      · have := List.mem_cons.1 ((h x).2 (List.mem_cons.2 (.inr hx)))
        rcases this with e | h3
        · have := g1 x hx; omega
        · exact h3
theorem rises_short : ∀ (l m : List Int), Rises l → (∀ x ∈ l, x ∈ m) → l.length ≤ m.length := by
  intro l
  induction l with
  | nil => intro m _ _; simp
  | cons a t ih =>
    intro m hl h
    obtain ⟨h1, h2⟩ := List.pairwise_cons.1 hl
    have hm : a ∈ m := h a (by simp)
    have := ih (m.erase a) h2 (fun x hx => by
      have hx2 := h x (List.mem_cons.2 (.inr hx))
      have hne : x ≠ a := by have := h1 x hx; omega
      exact (List.mem_erase_of_ne hne).2 hx2)
    have hle := List.length_erase_of_mem hm
    have hpos : 0 < m.length := List.length_pos_of_mem hm
    rw [List.length_cons]; omega
theorem rd_mem (l : List Int) (i : Nat) (h : i < l.length) : rd l (i : Int) ∈ l := by
  rw [rd_nat, List.getD_eq_getElem?_getD, List.getElem?_eq_getElem h]; simp
theorem mem_rd {l : List Int} {x : Int} (h : x ∈ l) : ∃ i : Nat, i < l.length ∧ rd l (i : Int) = x := by
  obtain ⟨i, hi, e⟩ := List.mem_iff_getElem.1 h
  exact ⟨i, hi, by rw [rd_nat, List.getD_eq_getElem?_getD, List.getElem?_eq_getElem hi]; simpa using e⟩

theorem ins_at (n : Int) : ∀ (l : List Int) (i : Nat), (∀ x ∈ l.take i, x < n) → ins n l = l.take i ++ ins n (l.drop i) := by
  intro l
  induction l with
  | nil => intro i _; simp
  | cons a t ih =>
    intro i h
    cases i with
    | zero => rfl
    | succ i =>
      have ha : a < n := h a (by simp)
      rw [List.take_succ_cons, List.drop_succ_cons, ins, if_pos ha, ih i (fun x hx => h x (by rw [List.take_succ_cons]; exact List.mem_cons.2 (.inr hx)))]
      rfl

theorem impl_hasInt_l (l : List Int) (x : Int) (hm : l.length ≤ 4194304) : ∀ (d i : Nat), i + d = l.length → Ev (fun k => impl_hasInt.l0 k x l (l.length : Int) (i : Int)) (decide (x ∈ l.drop i)) := by
  intro d
  induction d with
  | zero =>
    intro i h
    refine Ev.step (fun k => by rw [impl_hasInt.l0]) ?_
    refine evN (by omega) ?_
    rw [List.drop_of_length_le (by omega)]; simp; exact Ev.now _
  | succ d ih =>
    intro i h
    refine Ev.step (fun k => by rw [impl_hasInt.l0]) ?_
    refine evP (by omega) (evP (by omega) (evP (by omega) ?_))
    rw [rd_cons_drop l i (by omega), w64 (by omega) (by omega)]
    refine evI (fun e => ?_) (fun e => ?_)
    · rw [decide_eq_true (by rw [← e]; simp)]; exact Ev.now _
    · have := ih (i + 1) (by omega)
      have e2 : decide (x ∈ rd l (i : Int) :: l.drop (i + 1)) = decide (x ∈ l.drop (i + 1)) := by
        apply decide_eq_decide.2; rw [List.mem_cons]
        exact ⟨fun h => by rcases h with h | h; exact absurd h.symm e; exact h, .inr⟩
      rw [e2]; exact this
theorem impl_hasInt_ev (l : List Int) (x : Int) (hm : l.length ≤ 4194304) : Ev (fun k => impl_hasInt.f k l x) (decide (x ∈ l)) := by
  unfold impl_hasInt.f
  exact impl_hasInt_l l x hm l.length 0 (by omega)

theorem spec_l4Has_l (l : List Int) (x : Int) (hm : l.length ≤ 4194304) : ∀ (d i : Nat), i + d = l.length → Ev (fun k => spec_l4Has.l0 k l x (i : Int)) (decide (x ∈ l.drop i)) := by
  intro d
  induction d with
  | zero =>
    intro i h
    refine Ev.step (fun k => by rw [spec_l4Has.l0]) ?_
    refine evN (by omega) ?_
    rw [List.drop_of_length_le (by omega)]; simp; exact Ev.now _
  | succ d ih =>
    intro i h
    refine Ev.step (fun k => by rw [spec_l4Has.l0]) ?_
    refine evP (by omega) (evP (by omega) ?_)
    rw [rd_cons_drop l i (by omega), w64 (by omega) (by omega)]
    refine evI (fun e => ?_) (fun e => ?_)
    · rw [decide_eq_true (by rw [← e]; simp)]; exact Ev.now _
    · have := ih (i + 1) (by omega)
      have e2 : decide (x ∈ rd l (i : Int) :: l.drop (i + 1)) = decide (x ∈ l.drop (i + 1)) := by
        apply decide_eq_decide.2; rw [List.mem_cons]
        exact ⟨fun h => by rcases h with h | h; exact absurd h.symm e; exact h, .inr⟩
      rw [e2]; exact this
theorem spec_l4Has_ev (l : List Int) (x : Int) (hm : l.length ≤ 4194304) : Ev (fun k => spec_l4Has.f k l x) (decide (x ∈ l)) := by
  unfold spec_l4Has.f
  exact spec_l4Has_l l x hm l.length 0 (by omega)

theorem withInt_l (l : List Int) (n : Int) (hm : l.length ≤ 4194304) : ∀ (d i : Nat), i + d = l.length → (∀ x ∈ l.take i, x < n) →
    Ev (fun k => impl_withInt.l0 k l n (i : Int)) (ins n l) := by
  intro d
  induction d with
  | zero =>
    intro i h hlt
    refine Ev.step (fun k => by rw [impl_withInt.l0]) ?_
    refine evN (by omega) ?_
    refine evP (by omega) ?_
    refine evP (by omega) ?_
    refine evB (evP ?_ (evB (evB (evP ?_ (evB (evB (evP ?_ ?_)))))))
    · simp; omega
    · simp; omega
    · simp; omega
    · rw [ins_at n l i hlt]
      simp only [Int.toNat_natCast, List.nil_append]
      rw [List.drop_of_length_le (show l.length ≤ i by omega), List.append_nil]
      exact Ev.now _
  | succ d ih =>
    intro i h hlt
    have hi : i < l.length := by omega
    have hd := rd_cons_drop l i hi
    refine Ev.step (fun k => by rw [impl_withInt.l0]) ?_
    refine evP (by omega) ?_
    refine evP (by omega) ?_
    refine evI (fun e => ?_) (fun e => evI (fun e2 => ?_) (fun e2 => ?_))
    · rw [w64 (by omega) (by omega)]
      refine ih (i + 1) (by omega) (fun x hx => ?_)
      rw [← take_snoc l 0 i hi, List.mem_append, List.mem_singleton] at hx
      rcases hx with hx | hx
      · exact hlt x hx
      · rw [hx, ← rd_nat]; exact e
    · rw [ins_at n l i hlt, hd, ins, if_neg e, if_pos e2, ← hd, List.take_append_drop]; exact Ev.now _
    · refine evP (by omega) ?_
      refine evB (evP ?_ (evB (evB (evP ?_ (evB (evB (evP ?_ ?_)))))))
      · simp; omega
      · simp; omega
      · simp; omega
      · rw [ins_at n l i hlt, hd, ins, if_neg e, if_neg e2, ← hd]
        simp only [Int.toNat_natCast, List.nil_append]
        rw [List.append_assoc]
        exact Ev.now _
theorem withInt_ev (l : List Int) (n : Int) (hm : l.length ≤ 4194304) : Ev (fun k => impl_withInt.f k l n) (ins n l) := by
  unfold impl_withInt.f
  exact withInt_l l n hm l.length 0 (by omega) (by simp)

/-- What spec_l12Int has put together at place i: what stood ahead of it, with x where it belongs, if that has come up. -/
theorem l12Int_l (l : List Int) (x : Int) (hm : l.length ≤ 4194304) (hr : Rises l) : ∀ (d i : Nat), i + d = l.length →
    ((∀ y ∈ l.take i, y < x) → Ev (fun k => spec_l12Int.l0 k l x (l.take i) false (i : Int)) (ins x l)) ∧
    (∀ b : List Int, b.length ≤ i + 1 → ins x l = b ++ l.drop i → (∀ y ∈ l.drop i, x < y) → Ev (fun k => spec_l12Int.l0 k l x b true (i : Int)) (ins x l)) := by
  intro d
  induction d with
  | zero =>
    intro i h
    refine ⟨fun hlt => ?_, fun b hb e hgt => ?_⟩
    · refine Ev.step (fun k => by rw [spec_l12Int.l0]) ?_
      refine evN (by omega) ?_
      refine evN (by simp) ?_
      refine evP (by rw [List.length_take]; omega) ?_
      rw [ins_at x l i hlt, List.drop_of_length_le (show l.length ≤ i by omega)]; exact Ev.now _
    · refine Ev.step (fun k => by rw [spec_l12Int.l0]) ?_
      refine evN (by omega) ?_
      refine evP rfl ?_
      rw [List.drop_of_length_le (show l.length ≤ i by omega), List.append_nil] at e
      rw [e]; exact Ev.now _
  | succ d ih =>
    intro i h
    have hi : i < l.length := by omega
    have hd := rd_cons_drop l i hi
    obtain ⟨ih1, ih2⟩ := ih (i + 1) (by omega)
    have hr2 : Rises (rd l (i : Int) :: l.drop (i + 1)) := by rw [← hd]; exact List.Pairwise.sublist (List.drop_sublist i l) hr
    obtain ⟨g1, _⟩ := List.pairwise_cons.1 hr2
    have wi : wrap64 ((i : Int) + 1) = ((i + 1 : Nat) : Int) := w64 (by omega) (by omega)
    refine ⟨fun hlt => ?_, fun b hb e hgt => ?_⟩
    · refine Ev.step (fun k => by rw [spec_l12Int.l0]) ?_
      refine evP (by omega) ?_
      refine evP (by omega) ?_
      refine evI (fun e => ?_) (fun e => evN (by simp) (evI (fun e2 => ?_) (fun e2 => ?_)))
      · rw [ins_at x l i hlt, hd, ins, if_neg (by omega), if_pos e, ← hd, List.take_append_drop]; exact Ev.now _
      · refine evP (by rw [List.length_take]; omega) ?_
        refine evB ?_
        refine evP (by rw [List.length_append, List.length_take, List.length_singleton]; omega) ?_
        rw [wi]
        refine ih2 _ ?_ ?_ ?_
        · simp only [List.length_append, List.length_take, List.length_singleton]; omega
        · rw [ins_at x l i hlt, hd, ins, if_neg (by omega), if_neg e]
          simp
        · intro y hy; have := g1 y hy; omega
      · refine evP (by rw [List.length_take]; omega) ?_
        rw [wi, rd_nat, take_snoc l 0 i hi]
        refine ih1 (fun y hy => ?_)
        rw [← take_snoc l 0 i hi, List.mem_append, List.mem_singleton] at hy
        rcases hy with hy | hy
        · exact hlt y hy
        · rw [hy, ← rd_nat]; omega
    · have hx : x < rd l (i : Int) := hgt _ (by rw [hd]; simp)
      refine Ev.step (fun k => by rw [spec_l12Int.l0]) ?_
      refine evP (by omega) ?_
      refine evP (by omega) ?_
      refine evN (by omega) ?_
      refine evP rfl ?_
      refine evP (by omega) ?_
      rw [wi]
      refine ih2 _ ?_ ?_ ?_
      · rw [List.length_append, List.length_singleton]; omega
      · rw [e, hd]; simp
      · intro y hy; exact hgt y (by rw [hd]; exact List.mem_cons.2 (.inr hy))
theorem l12Int_ev (l : List Int) (x : Int) (hm : l.length ≤ 4194304) (hr : Rises l) : Ev (fun k => spec_l12Int.f k l x) (ins x l) := by
  unfold spec_l12Int.f
  exact (l12Int_l l x hm hr l.length 0 (by omega)).1 (by simp)

/-! What edges lead to, from somewhere on. -/
inductive Reach (E : List S40) (a : Int) : Int → Prop
  | one (e : S40) : e ∈ E → e.f0 = a → Reach E a e.f1
  | more (e : S40) : e ∈ E → Reach E a e.f0 → Reach E a e.f1
def Closed (E : List S40) (a : Int) (out : List Int) : Prop := ∀ e ∈ E, (e.f0 = a ∨ e.f0 ∈ out) → e.f1 ∈ out
def IsOnward (E : List S40) (a : Int) (out : List Int) : Prop := Rises out ∧ ∀ x, x ∈ out ↔ Reach E a x
theorem closed_all {E : List S40} {a : Int} {out : List Int} (h : Closed E a out) : ∀ x, Reach E a x → x ∈ out := by
  intro x hx
  induction hx with
  | one e he e0 => exact h e he (.inl e0)
  | more e he _ ih => exact h e he (.inr ih)
theorem onward_one {E : List S40} {a : Int} {o p : List Int} (h : IsOnward E a o) (g : IsOnward E a p) : o = p :=
  rises_eq o p h.1 g.1 (fun x => (h.2 x).trans (g.2 x).symm)
theorem reach_short {E : List S40} {a : Int} {o : List Int} (h : Rises o) (g : ∀ x ∈ o, Reach E a x) : o.length ≤ E.length := by
  have := rises_short o (E.map S40.f1) h (fun x hx => by
    have hr := g x hx
    cases hr with
    | one e he _ => exact List.mem_map.2 ⟨e, he, rfl⟩
    | more e he _ => exact List.mem_map.2 ⟨e, he, rfl⟩)
  rw [List.length_map] at this; exact this
theorem rdE_mem (E : List S40) (i : Nat) (h : i < E.length) : rd_T40 E (i : Int) ∈ E := by
  unfold rd_T40
  rw [Int.toNat_natCast, List.getD_eq_getElem?_getD, List.getElem?_eq_getElem h]; simp
theorem rdE_drop (E : List S40) (i : Nat) (h : i < E.length) : E.drop i = rd_T40 E (i : Int) :: E.drop (i + 1) := by
  unfold rd_T40
  rw [Int.toNat_natCast, List.drop_eq_getElem_cons h, List.getD_eq_getElem?_getD, List.getElem?_eq_getElem h]; rfl
theorem rdE_take (E : List S40) (i : Nat) (h : i < E.length) : E.take (i + 1) = E.take i ++ [rd_T40 E (i : Int)] := by
  unfold rd_T40
  rw [Int.toNat_natCast, ← take_snoc E z40 i h]

theorem onward_arith (E t o n il : Nat) (hm : E + t - o = n) (h2 : il = o + 1) (hle : il ≤ E) : E + (t + 1) - il = n := by omega
theorem impl_onward_l (E : List S40) (a : Int) (hE : E.length ≤ 1048576) : ∀ (n : Nat) (out todo : List Int), E.length + todo.length - out.length = n → Rises out → (∀ x ∈ out, Reach E a x) →
    (∀ x ∈ todo, x = a ∨ x ∈ out) → (∀ y, (y = a ∨ y ∈ out) → y ∈ todo ∨ ∀ e ∈ E, e.f0 = y → e.f1 ∈ out) → todo.length ≤ out.length + 1 →
    ∃ r, Ev (fun k => impl_Onward.l0 k E out todo) r ∧ IsOnward E a r := by
  intro n
  induction n with
  | zero =>
    intro out todo hn hr hs ht hc hl
    have hle := reach_short hr hs
    cases todo with
    | nil =>
      refine ⟨out, Ev.step (fun k => by rw [impl_Onward.l0]) ?_, hr, fun x => ⟨hs x, closed_all (fun e he h0 => ?_) x⟩⟩
      refine evN (by simp) ?_
      exact Ev.now _
      rcases hc e.f0 h0 with h1 | h1
      · simp at h1
      · exact h1 e he rfl
    | cons b s => rw [List.length_cons] at hn; omega
  | succ n ih =>
    intro out todo hn hr hs ht hc hl
    have hle := reach_short hr hs
    cases todo with
    | nil =>
      refine ⟨out, Ev.step (fun k => by rw [impl_Onward.l0]) ?_, hr, fun x => ⟨hs x, closed_all (fun e he h0 => ?_) x⟩⟩
      refine evN (by simp) ?_
      exact Ev.now _
      rcases hc e.f0 h0 with h1 | h1
      · simp at h1
      · exact h1 e he rfl
    | cons b s =>
      have hb : b = a ∨ Reach E a b := by
        rcases ht b (by simp) with h | h
        · exact .inl h
        · exact .inr (hs b h)
      -- the round over the edges
      have round : ∀ (d i : Nat) (o t : List Int), i + d = E.length → E.length + t.length - o.length = n → Rises o → (∀ x ∈ o, Reach E a x) → (∀ x ∈ t, x = a ∨ x ∈ o) →
          (∀ y, (y = a ∨ y ∈ o) → y = b ∨ y ∈ t ∨ ∀ e ∈ E, e.f0 = y → e.f1 ∈ o) → (∀ e ∈ E.take i, e.f0 = b → e.f1 ∈ o) → t.length ≤ o.length + 1 →
          ∃ r, Ev (fun k => impl_Onward.l1 k E o t b E (E.length : Int) (i : Int)) r ∧ IsOnward E a r := by
        intro d
        induction d with
        | zero =>
          intro i o t hi hm hr' hs' ht' hc' he' hl'
          have hle' := reach_short hr' hs'
          obtain ⟨r, e1, e2⟩ := ih o t hm hr' hs' ht' (fun y hy => by
            rcases hc' y hy with h | h | h
            · right
              intro e he h0
              have : i = E.length := by omega
              subst this
              rw [List.take_length] at he'
              exact he' e he (h0.trans h)
            · exact .inl h
            · exact .inr h) hl'
          refine ⟨r, Ev.step (fun k => by rw [impl_Onward.l1]) ?_, e2⟩
          refine evN (by omega) ?_
          exact e1
        | succ d ih2 =>
          intro i o t hi hm hr' hs' ht' hc' he' hl'
          have hle' := reach_short hr' hs'
          have hiE : i < E.length := by omega
          have hmem := rdE_mem E i hiE
          have q1 : (i : Int) < (E.length : Int) := by omega
          have q0 : 0 ≤ (i : Int) := by omega
          have qi : i + 1 + d = E.length := by omega
          have qo : o.length ≤ 4194304 := by omega
          have qt : t.length < 17592186044416 := by omega
          have wi : wrap64 ((i : Int) + 1) = ((i + 1 : Nat) : Int) := w64 (by omega) (by omega)
          have next : (((rd_T40 E (i : Int)).f0 = b → (rd_T40 E (i : Int)).f1 ∈ o)) → ∃ r, Ev (fun k => impl_Onward.l1 k E o t b E (E.length : Int) ((i + 1 : Nat) : Int)) r ∧ IsOnward E a r := by
            intro hq
            refine ih2 (i + 1) o t (by omega) hm hr' hs' ht' hc' (fun e he h0 => ?_) hl'
            rw [rdE_take E i hiE, List.mem_append, List.mem_singleton] at he
            rcases he with he | he
            · exact he' e he h0
            · subst he; exact hq h0
          by_cases c1 : (rd_T40 E (i : Int)).f0 = b
          · by_cases c2 : (rd_T40 E (i : Int)).f1 ∈ o
            · obtain ⟨r, e1, e2⟩ := next (fun _ => c2)
              refine ⟨r, Ev.step (fun k => by rw [impl_Onward.l1]) ?_, e2⟩
              refine evP q1 ?_
              refine evP q0 ?_
              refine evP q1 ?_
              refine evP c1 ?_
              refine Ev.bind (impl_hasInt_ev o _ qo) ?_
              refine evP (by simp [c2]) ?_
              rw [wi]; exact e1
            · generalize hv : (rd_T40 E (i : Int)).f1 = v at *
              have hreach : Reach E a v := by
                rw [← hv]
                rcases hb with h | h
                · exact .one _ hmem (c1.trans h)
                · exact .more _ hmem (by rw [c1]; exact h)
              have hln := ins_length v o c2 hr'
              have hs2 : ∀ x ∈ ins v o, Reach E a x := by
                intro x hx
                rcases (mem_ins v x o).1 hx with h | h
                · rw [h]; exact hreach
                · exact hs' x h
              have hle2 := reach_short (rises_ins v o hr') hs2
              obtain ⟨r, e1, e2⟩ := ih2 (i + 1) (ins v o) (t ++ [v]) qi (by rw [List.length_append, List.length_singleton]; exact onward_arith _ _ _ _ _ hm hln hle2) (rises_ins v o hr') hs2
                (fun x hx => by
                  rw [List.mem_append, List.mem_singleton] at hx
                  rcases hx with hx | hx
                  · rcases ht' x hx with h | h
                    · exact .inl h
                    · exact .inr ((mem_ins v x o).2 (.inr h))
                  · exact .inr ((mem_ins v x o).2 (.inl hx)))
                (fun y hy => by
                  by_cases hyv : y = v
                  · right; left; rw [List.mem_append, List.mem_singleton]; exact .inr hyv
                  · have hy2 : y = a ∨ y ∈ o := by
                      rcases hy with h | h
                      · exact .inl h
                      · rcases (mem_ins v y o).1 h with h | h
                        · exact absurd h hyv
                        · exact .inr h
                    rcases hc' y hy2 with h | h | h
                    · exact .inl h
                    · right; left; rw [List.mem_append]; exact .inl h
                    · right; right; intro e he h0; exact (mem_ins v _ o).2 (.inr (h e he h0)))
                (fun e he h0 => by
                  rw [rdE_take E i hiE, List.mem_append, List.mem_singleton] at he
                  rcases he with he | he
                  · exact (mem_ins v _ o).2 (.inr (he' e he h0))
                  · subst he; exact (mem_ins v _ o).2 (.inl hv))
                (by rw [List.length_append, List.length_singleton, hln]; exact Nat.succ_le_succ hl')
              refine ⟨r, Ev.step (fun k => by rw [impl_Onward.l1]) ?_, e2⟩
              refine evP q1 ?_
              refine evP q0 ?_
              refine evP q1 ?_
              refine evP c1 ?_
              rw [hv]
              refine Ev.bind (impl_hasInt_ev o _ qo) ?_
              refine evN (by simp [c2]) ?_
              refine Ev.bind (withInt_ev o v qo) ?_
              refine evP qt ?_
              rw [wi]; exact e1
          · obtain ⟨r, e1, e2⟩ := next (fun h => absurd h c1)
            refine ⟨r, Ev.step (fun k => by rw [impl_Onward.l1]) ?_, e2⟩
            refine evP q1 ?_
            refine evP q0 ?_
            refine evP q1 ?_
            refine evN c1 ?_
            rw [wi]; exact e1
      rw [List.length_cons] at hn hl
      obtain ⟨r, e1, e2⟩ := round E.length 0 out s (by omega) (by omega) hr hs (fun x hx => ht x (List.mem_cons.2 (.inr hx)))
        (fun y hy => by
          rcases hc y hy with h | h
          · rcases List.mem_cons.1 h with h | h
            · exact .inl h
            · exact .inr (.inl h)
          · exact .inr (.inr h)) (by simp) (by omega)
      refine ⟨r, Ev.step (fun k => by rw [impl_Onward.l0]) ?_, e2⟩
      have p1 : ((b :: s).length : Int) > 0 := by rw [List.length_cons]; omega
      have p2 : 1 ≤ ((b :: s).length : Int) := by rw [List.length_cons]; omega
      refine evP p1 ?_
      refine evP p1 ?_
      refine evP p2 ?_
      exact e1
theorem impl_onward_ev (E : List S40) (a : Int) (hE : E.length ≤ 1048576) : ∃ r, Ev (fun k => impl_Onward.f k E a) r ∧ IsOnward E a r := by
  unfold impl_Onward.f
  exact impl_onward_l E a hE _ [] [a] rfl List.Pairwise.nil (by simp) (by simp) (fun y hy => by
    rcases hy with h | h
    · left; simp [h]
    · simp at h) (by simp)

theorem spec_onward_l (E : List S40) (a : Int) (hE : E.length ≤ 1048576) : ∀ (n j : Nat) (out : List Int), j + n = E.length + 1 → Rises out → (∀ x ∈ out, Reach E a x) → (Closed E a out ∨ j ≤ out.length) →
    ∃ r, Ev (fun k => spec_Onward.l0 k E a out (j : Int)) r ∧ IsOnward E a r := by
  intro n
  induction n with
  | zero =>
    intro j out hj hr hs hc
    have hle := reach_short hr hs
    refine ⟨out, Ev.step (fun k => by rw [spec_Onward.l0]) ?_, hr, fun x => ⟨hs x, ?_⟩⟩
    refine evN (by omega) ?_
    exact Ev.now _
    rcases hc with hc | hc
    · exact closed_all hc x
    · omega
  | succ n ih =>
    intro j out hj hr hs hc
    -- a round: what was there stays; each edge that was looked at is closed, or there is more than there was
    have round : ∀ (d i : Nat) (o : List Int), i + d = E.length → Rises o → (∀ x ∈ o, Reach E a x) → out.length ≤ o.length →
        (out.length < o.length ∨ (o = out ∧ ∀ e ∈ E.take i, (e.f0 = a ∨ e.f0 ∈ out) → e.f1 ∈ out)) → (Closed E a out → o = out) →
        ∃ r, Ev (fun k => spec_Onward.l1 k E a o (j : Int) (i : Int)) r ∧ IsOnward E a r := by
      intro d
      induction d with
      | zero =>
        intro i o hi hr' hs' hl' hm' hk'
        have hle' := reach_short hr' hs'
        obtain ⟨r, e1, e2⟩ := ih (j + 1) o (by omega) hr' hs' (by
          rcases hc with hc | hc
          · left; rw [hk' hc]; exact hc
          · rcases hm' with h | ⟨h, h2⟩
            · right; omega
            · left
              subst h
              intro e he
              have : i = E.length := by omega
              subst this
              rw [List.take_length] at h2
              exact h2 e he)
        refine ⟨r, Ev.step (fun k => by rw [spec_Onward.l1]) ?_, e2⟩
        refine evN (by omega) ?_
        rw [w64 (by omega) (by omega)]; exact e1
      | succ d ih2 =>
        intro i o hi hr' hs' hl' hm' hk'
        have hle' := reach_short hr' hs'
        have hiE : i < E.length := by omega
        have hmem := rdE_mem E i hiE
        have wi : wrap64 ((i : Int) + 1) = ((i + 1 : Nat) : Int) := w64 (by omega) (by omega)
        -- this edge leads on
        have add : ((rd_T40 E (i : Int)).f0 = a ∨ (rd_T40 E (i : Int)).f0 ∈ o) →
            ∃ r, Ev (fun k => (spec_l12Int.f k o ((rd_T40 E (i : Int)).f1)).bind fun t => (spec_Onward.l1 k E a t (j : Int) (wrap64 ((i : Int) + 1)))) r ∧ IsOnward E a r := by
          intro h0
          have hreach : Reach E a (rd_T40 E (i : Int)).f1 := by
            rcases h0 with h | h
            · exact .one _ hmem h
            · exact .more _ hmem (hs' _ h)
          have hle3 := ins_le (rd_T40 E (i : Int)).f1 o
          obtain ⟨r, e1, e2⟩ := ih2 (i + 1) (ins (rd_T40 E (i : Int)).f1 o) (by omega) (rises_ins _ o hr') (fun x hx => by
              rcases (mem_ins _ x o).1 hx with h | h
              · rw [h]; exact hreach
              · exact hs' x h) (by omega) (by
              by_cases hin : (rd_T40 E (i : Int)).f1 ∈ o
              · rw [ins_mem _ o hin hr']
                rcases hm' with h | ⟨h, h2⟩
                · exact .inl h
                · right
                  subst h
                  refine ⟨rfl, fun e he h3 => ?_⟩
                  rw [rdE_take E i hiE, List.mem_append, List.mem_singleton] at he
                  rcases he with he | he
                  · exact h2 e he h3
                  · subst he; exact hin
              · left; rw [ins_length _ o hin hr']; omega) (fun hcl => by
              have := hk' hcl
              subst this
              exact ins_mem _ _ (hcl _ hmem h0) hr')
          refine ⟨r, Ev.bind (l12Int_ev o _ (by omega) hr') ?_, e2⟩
          rw [wi]; exact e1
        by_cases c1 : (rd_T40 E (i : Int)).f0 = a
        · obtain ⟨r, e1, e2⟩ := add (.inl c1)
          refine ⟨r, Ev.step (fun k => by rw [spec_Onward.l1]) ?_, e2⟩
          refine evP (by omega) ?_
          refine evP (by omega) ?_
          refine evP c1 ?_
          exact e1
        · by_cases c2 : (rd_T40 E (i : Int)).f0 ∈ o
          · obtain ⟨r, e1, e2⟩ := add (.inr c2)
            refine ⟨r, Ev.step (fun k => by rw [spec_Onward.l1]) ?_, e2⟩
            refine evP (by omega) ?_
            refine evP (by omega) ?_
            refine evN c1 ?_
            refine Ev.bind (spec_l4Has_ev o _ (by omega)) ?_
            refine evP (by simp [c2]) ?_
            exact e1
          · obtain ⟨r, e1, e2⟩ := ih2 (i + 1) o (by omega) hr' hs' hl' (by
              rcases hm' with h | ⟨h, h2⟩
              · exact .inl h
              · right
                subst h
                refine ⟨rfl, fun e he h3 => ?_⟩
                rw [rdE_take E i hiE, List.mem_append, List.mem_singleton] at he
                rcases he with he | he
                · exact h2 e he h3
                · subst he
                  rcases h3 with h3 | h3
                  · exact absurd h3 c1
                  · exact absurd h3 c2) hk'
            refine ⟨r, Ev.step (fun k => by rw [spec_Onward.l1]) ?_, e2⟩
            refine evP (by omega) ?_
            refine evP (by omega) ?_
            refine evN c1 ?_
            refine Ev.bind (spec_l4Has_ev o _ (by omega)) ?_
            refine evN (by simp [c2]) ?_
            rw [wi]; exact e1
    obtain ⟨r, e1, e2⟩ := round E.length 0 out (by omega) hr hs (Nat.le_refl _) (.inr ⟨rfl, by simp⟩) (fun _ => rfl)
    refine ⟨r, Ev.step (fun k => by rw [spec_Onward.l0]) ?_, e2⟩
    refine evP (by omega) ?_
    exact e1
theorem spec_onward_ev (E : List S40) (a : Int) (hE : E.length ≤ 1048576) : ∃ r, Ev (fun k => spec_Onward.f k E a) r ∧ IsOnward E a r := by
  unfold spec_Onward.f
  exact spec_onward_l E a hE (E.length + 1) 0 [] (by omega) List.Pairwise.nil (by simp) (.inr (Nat.zero_le _))

theorem getD_take_map {α β : Type} (g : α → β) (l : List α) (z : α) (i d : Nat) (y : β) (h : i < l.length) :
    (((l.take i).map g) ++ List.replicate (d + 1) y).set i (g (l.getD i z)) = ((l.take (i + 1)).map g) ++ List.replicate d y := by
  rw [List.replicate_succ, set_mid _ _ _ _ _ (by rw [List.length_map, List.length_take]; omega), ← take_snoc l z i h, List.map_append]; rfl
def ofE (e : S56) : S40 := ⟨e.f0, e.f1⟩
theorem toEdgeS_ev (l : List S56) (hm : l.length ≤ 1048576) : Ev (fun k => laws_toEdgeS.f k l) (l.map ofE) := by
  have loop : ∀ (d i : Nat), i + d = l.length → Ev (fun k => laws_toEdgeS.l0 k l (((l.take i).map ofE) ++ List.replicate d z40) (i : Int)) (l.map ofE) := by
    intro d
    induction d with
    | zero =>
      intro i h
      refine Ev.step (fun k => by rw [laws_toEdgeS.l0]) ?_
      refine evN (by omega) ?_
      have e : ((l.take i).map ofE) ++ List.replicate 0 z40 = l.map ofE := by rw [List.replicate_zero, List.append_nil, List.take_of_length_le (by omega)]
      rw [e]; exact Ev.now _
    | succ d ih =>
      intro i h
      have hi : i < l.length := by omega
      have q : (i : Int) < ((((l.take i).map ofE) ++ List.replicate (d + 1) z40).length : Int) := by simp only [List.length_append, List.length_map, List.length_take, List.length_replicate]; omega
      refine Ev.step (fun k => by rw [laws_toEdgeS.l0]) ?_
      refine evP (by omega) ?_
      refine evP (by omega) ?_
      refine evS (a := ((rd_T56 l (i : Int)).f0, (rd_T56 l (i : Int)).f1)) rfl ?_
      refine evP q ?_
      have e := getD_take_map ofE l z56 i d z40 hi
      rw [w64 (by omega) (by omega)]
      have e2 : (((l.take i).map ofE) ++ List.replicate (d + 1) z40).set (i : Int).toNat (⟨(rd_T56 l (i : Int)).f0, (rd_T56 l (i : Int)).f1⟩ : S40) = ((l.take (i + 1)).map ofE) ++ List.replicate d z40 := e
      dsimp only
      rw [e2]
      exact ih (i + 1) (by omega)
  unfold laws_toEdgeS.f
  refine evP (by omega) ?_
  refine evP (by rw [Int.toNat_natCast]; omega) ?_
  rw [Int.toNat_natCast]
  exact loop l.length 0 (by omega)
theorem eqEdge_eq (a b c d : Int) : laws_eqEdge.f a b c d = some (decide (a = c ∧ b = d)) := by
  unfold laws_eqEdge.f
  by_cases h : a = c
  · rw [if_pos h]
    by_cases h2 : b = d
    · rw [if_pos h2, decide_eq_true ⟨h, h2⟩]
    · rw [if_neg h2, decide_eq_false (fun x => h2 x.2)]
  · rw [if_neg h, decide_eq_false (fun x => h x.1)]
theorem eqEdgeS_self (l : List S40) (hm : l.length ≤ 1048576) : Ev (fun k => laws_eqEdgeS.f k l l) true := by
  have loop : ∀ (d i : Nat), i + d = l.length → Ev (fun k => laws_eqEdgeS.l0 k l l (i : Int)) true := by
    intro d
    induction d with
    | zero =>
      intro i h
      refine Ev.step (fun k => by rw [laws_eqEdgeS.l0]) ?_
      exact evN (by omega) (Ev.now _)
    | succ d ih =>
      intro i h
      refine Ev.step (fun k => by rw [laws_eqEdgeS.l0]) ?_
      refine evP (by omega) ?_
      refine evP (by omega) ?_
      refine evP (by omega) ?_
      refine evS (eqEdge_eq _ _ _ _) ?_
      refine evP (decide_eq_true ⟨rfl, rfl⟩) ?_
      rw [w64 (by omega) (by omega)]
      exact ih (i + 1) (by omega)
  unfold laws_eqEdgeS.f
  refine evP rfl ?_
  exact loop l.length 0 (by omega)
theorem markEdgeS_ev (m : Nat) (hm : m ≤ 1048576) : ∀ l : List S40, l.length = m → ∃ r, Ev (fun k => laws_markEdgeS.f k l 1) (1 + 2 * (m : Int), r) := by
  have loop : ∀ (d i : Nat) (l : List S40), i + d = m → l.length = m → ∃ r, Ev (fun k => laws_markEdgeS.l0 k l (1 + 2 * (i : Int)) (i : Int)) (1 + 2 * (m : Int), r) := by
    intro d
    induction d with
    | zero =>
      intro i l h hl
      refine ⟨l, ?_⟩
      refine Ev.step (fun k => by rw [laws_markEdgeS.l0]) ?_
      refine evN (by omega) ?_
      have : i = m := by omega
      subst this; exact Ev.now _
    | succ d ih =>
      intro i l h hl
      obtain ⟨r, e⟩ := ih (i + 1) ((l.set (i : Int).toNat (⟨1 + 2 * (i : Int), (rd_T40 l (i : Int)).f1⟩ : S40)).set (i : Int).toNat (⟨(rd_T40 (l.set (i : Int).toNat (⟨1 + 2 * (i : Int), (rd_T40 l (i : Int)).f1⟩ : S40)) (i : Int)).f0, wrap64 (1 + 2 * (i : Int) + 1)⟩ : S40)) (by omega) (by rw [List.length_set, List.length_set]; exact hl)
      refine ⟨r, ?_⟩
      refine Ev.step (fun k => by rw [laws_markEdgeS.l0]) ?_
      refine evP (by omega) ?_
      refine evP (by omega) ?_
      refine evB ?_
      have w1 : wrap64 (wrap64 (1 + 2 * (i : Int) + 1) + 1) = 1 + 2 * ((i + 1 : Nat) : Int) := by
        rw [w64 (i := 1 + 2 * (i : Int) + 1) (by omega) (by omega), w64 (by omega) (by omega)]; omega
      have w2 : wrap64 ((i : Int) + 1) = ((i + 1 : Nat) : Int) := w64 (by omega) (by omega)
      rw [w1, w2]; exact e
  intro l hl
  unfold laws_markEdgeS.f
  exact loop m 0 l (by omega) hl
theorem szEdgeS_eq (l : List S56) (hm : l.length * 16 ≤ 140737488351232) : laws_szEdgeS.f l 1048576 = some (if l.length ≤ 1048576 then 1048576 - (l.length : Int) else -1) := by
  unfold laws_szEdgeS.f
  rw [w64 (by omega) (by omega)]
  by_cases h : l.length ≤ 1048576
  · rw [if_neg (by omega), if_pos h]
  · rw [if_pos (by omega), if_neg h]

theorem FnExactOnward : ∀ (l0 : List S56) (a1 : Int), l0.length * 16 ≤ 140737488351232 → (∀ x ∈ l0, (Lit.int .i64 x.f0).wf = true ∧ (Lit.int .i64 x.f1).wf = true) → (Lit.int .i64 a1).wf = true → ∃ k, laws_FnExactOnward.f k l0 a1 = some true := by
  intro l0 a hl _ _
  apply Ev.rounds
  unfold laws_FnExactOnward.f
  refine evS (szEdgeS_eq l0 hl) ?_
  by_cases hm : l0.length ≤ 1048576
  · rw [if_pos hm]
    have hm2 : (l0.map ofE).length ≤ 1048576 := by rw [List.length_map]; exact hm
    obtain ⟨x, ex, hx⟩ := spec_onward_ev (l0.map ofE) a hm2
    obtain ⟨y, ey, hy⟩ := impl_onward_ev (l0.map ofE) a hm2
    have hxy := onward_one hx hy
    subst hxy
    have hxl : x.length ≤ 1048576 := Nat.le_trans (reach_short hx.1 (fun z hz => (hx.2 z).1 hz)) hm2
    obtain ⟨mk, emk⟩ := markEdgeS_ev (l0.map ofE).length hm2 (l0.map ofE) rfl
    refine evN (by omega) ?_
    refine Ev.bind (toEdgeS_ev l0 hm) ?_
    refine Ev.bind ex ?_
    refine Ev.bind (toEdgeS_ev l0 hm) ?_
    refine Ev.bind ey ?_
    refine Ev.bind (eqIntS_self x hxl) ?_
    refine evP rfl ?_
    refine Ev.bind (toEdgeS_ev l0 hm) ?_
    refine Ev.bind (eqEdgeS_self _ hm2) ?_
    refine evP rfl ?_
    refine Ev.bind emk ?_
    refine evN (by omega) ?_
    refine Ev.bind (eqIntS_self x hxl) ?_
    refine Ev.step (fun k => by rw [laws_FnExactOnward.j0]) ?_
    refine evN (by simp) ?_
    refine Ev.bind (markIntS_ev x hxl 1 (by omega) (by omega)) ?_
    refine Ev.bind (heldIntS_ev _ hxl 1 (by omega) (by omega)) ?_
    refine evN (by omega) ?_
    refine evP rfl ?_
    refine Ev.bind (toEdgeS_ev l0 hm) ?_
    refine Ev.bind ey ?_
    refine Ev.bind (eqIntS_self x hxl) ?_
    refine evP rfl ?_
    refine Ev.bind (heldIntS_ev _ hxl 1 (by omega) (by omega)) ?_
    refine evN (by omega) ?_
    exact evP rfl (Ev.now _)
  · rw [if_neg hm]
    exact evP (by decide) (Ev.now _)

end Go.Proofs.Ytcakbhpmhekmcaa.Pure
