/- At every list of bytes the law FnOnward answers true: of the edges that are drawn out of it, Onward tells what they lead to, each once, rising. No condition beyond the statement's own. -/
import Derived.Test.YtcakbhpmhekmcaaPFnOnwardx5
import Derived.Test.YtcakbhpmhekmcaaWSized
namespace Go.Proofs.Ytcakbhpmhekmcaa.PrintWords
/-- The printed row names this word from here. -/
theorem sized_ints : type_of% @Go.Proofs.YtcakbhpmhekmcaaW.PrintWords.sized_ints := @Go.Proofs.YtcakbhpmhekmcaaW.PrintWords.sized_ints
end Go.Proofs.Ytcakbhpmhekmcaa.PrintWords
namespace Go.Proofs.Ytcakbhpmhekmcaa.Pure
open Go.RowKit Go.Proofs.Ytcakbhpmhekmcaa.PFnOnward Go.Proofs.YtcakbhpmhekmcaaW.PrintWords Go.Proofs.YtcakbhpmhekmcaaW.PrintLast
set_option linter.unusedVariables false
set_option linter.unusedSimpArgs false

/-! Small words on `Ev`. -/
theorem evP {α : Type} {c : Prop} [Decidable c] {f g : Nat → Option α} {r : α} (h : c) (hf : Ev f r) : Ev (fun k => if c then f k else g k) r :=
  Ev.congr (fun _ => if_pos h) hf
theorem evN {α : Type} {c : Prop} [Decidable c] {f g : Nat → Option α} {r : α} (h : ¬ c) (hg : Ev g r) : Ev (fun k => if c then f k else g k) r :=
  Ev.congr (fun _ => if_neg h) hg
theorem evI {α : Type} {c : Prop} [Decidable c] {f g : Nat → Option α} {r : α} (hf : c → Ev f r) (hg : ¬ c → Ev g r) : Ev (fun k => if c then f k else g k) r := by
  by_cases h : c
  · exact evP h (hf h)
  · exact evN h (hg h)
theorem evB {α β : Type} {a : α} {f : Nat → α → Option β} {r : β} (h : Ev (fun k => f k a) r) : Ev (fun k => (some a).bind (f k)) r := h
theorem evS {α β : Type} {x : Option α} {a : α} {f : Nat → α → Option β} {r : β} (e : x = some a) (h : Ev (fun k => f k a) r) : Ev (fun k => x.bind (f k)) r := by
  subst e; exact h
theorem evC {α : Type} {x : Option α} {r : α} (h : x = some r) : Ev (fun _ => x) r := by subst h; exact Ev.now _
theorem w64 {i : Int} (h0 : -9223372036854775808 ≤ i) (h1 : i ≤ 9223372036854775807) : wrap64 i = i := by unfold wrap64; omega
theorem rd_nat (l : List Int) (i : Nat) : rd l (i : Int) = l.getD i 0 := rfl
theorem rd_cons_drop (l : List Int) (i : Nat) (h : i < l.length) : l.drop i = rd l (i : Int) :: l.drop (i + 1) := by
  rw [rd_nat, List.drop_eq_getElem_cons h, List.getD_eq_getElem?_getD, List.getElem?_eq_getElem h]; rfl
theorem set_mid {α : Type} (a b : List α) (x y : α) (i : Nat) (h : a.length = i) : (a ++ x :: b).set i y = (a ++ [y]) ++ b := by
  subst h
  rw [List.set_append_right _ _ (Nat.le_refl _), Nat.sub_self, List.set_cons_zero]; simp
theorem take_snoc {α : Type} (l : List α) (z : α) (i : Nat) (h : i < l.length) : l.take i ++ [l.getD i z] = l.take (i + 1) := by
  rw [List.take_succ_eq_append_getElem h, List.getD_eq_getElem?_getD, List.getElem?_eq_getElem h]; rfl

/-! The reader of draws: it always answers; a byte is from 0 to 255. -/
theorem and255 (x : Int) : 0 ≤ Go.bits .and .i64 x 255 ∧ Go.bits .and .i64 x 255 ≤ 255 := by
  have h : ∀ n : Nat, n ≤ 255 → 0 ≤ IntKind.i64.wrap (n : Int) ∧ IntKind.i64.wrap (n : Int) ≤ 255 := by
    intro n hn; rw [IntKind.wrap_i64]; omega
  refine h _ ?_
  rw [BitVec.toNat_and]
  have : (BitVec.ofInt (IntKind.bits .i64) 255).toNat = 255 := by decide
  rw [this]; exact Nat.and_le_right
theorem l1Byte_ok (c : List Int) (hc : c.length ≤ 140737488351232) (i h : Int) (hi : 0 ≤ i) :
    ∃ r i' h', spec_l1Byte.f c i h = some (r, i', h') ∧ 0 ≤ r ∧ r ≤ 255 ∧ 0 ≤ i' := by
  unfold spec_l1Byte.f
  by_cases h1 : i < (c.length : Int)
  · rw [if_pos h1, if_pos hi]
    exact ⟨_, _, _, rfl, (and255 _).1, (and255 _).2, by rw [w64 (by omega) (by omega)]; omega⟩
  · rw [if_neg h1]
    exact ⟨_, _, _, rfl, (and255 _).1, (and255 _).2, hi⟩
theorem tmod_ok (x n : Int) (hx : 0 ≤ x) (hn : 0 < n) : 0 ≤ Int.tmod x n ∧ Int.tmod x n < n := by
  rw [Int.tmod_eq_emod_of_nonneg hx]
  exact ⟨Int.emod_nonneg _ (by omega), Int.emod_lt_of_pos _ hn⟩
theorem l1Below_ok (c : List Int) (hc : c.length ≤ 140737488351232) (i h n : Int) (hi : 0 ≤ i) :
    ∃ r i' h', spec_l1Below.f c i h n = some (r, i', h') ∧ 0 ≤ r ∧ (0 < n → r < n) ∧ (n ≤ 0 → r = 0) ∧ 0 ≤ i' := by
  unfold spec_l1Below.f
  by_cases h0 : n ≤ 0
  · rw [if_pos h0]; exact ⟨0, i, h, rfl, by omega, by omega, fun _ => rfl, hi⟩
  · rw [if_neg h0]
    by_cases h1 : n ≤ 256
    · rw [if_pos h1]
      obtain ⟨r, i', h', e, r0, r1, i0⟩ := l1Byte_ok c hc i h hi
      rw [e]; simp only [Option.bind_some]
      rw [if_neg (by omega)]
      have := tmod_ok r n r0 (by omega)
      exact ⟨_, _, _, rfl, this.1, fun _ => this.2, fun _ => by omega, i0⟩
    · rw [if_neg h1]
      obtain ⟨r, i', h', e, r0, r1, i0⟩ := l1Byte_ok c hc i h hi
      obtain ⟨s, j', g', e2, s0, s1, j0⟩ := l1Byte_ok c hc i' h' i0
      obtain ⟨t, k', f', e3, t0, t1, k0⟩ := l1Byte_ok c hc j' g' j0
      obtain ⟨u, m', d', e4, u0, u1, m0⟩ := l1Byte_ok c hc k' f' k0
      rw [e]; simp only [Option.bind_some]
      rw [e2]; simp only [Option.bind_some]
      rw [e3]; simp only [Option.bind_some]
      rw [e4]; simp only [Option.bind_some]
      rw [if_neg (by omega)]
      have w1 : wrap64 (r * 16777216) = r * 16777216 := w64 (by omega) (by omega)
      have w2 : wrap64 (s * 65536) = s * 65536 := w64 (by omega) (by omega)
      have w3 : wrap64 (t * 256) = t * 256 := w64 (by omega) (by omega)
      have w4 : wrap64 (r * 16777216 + s * 65536) = r * 16777216 + s * 65536 := w64 (by omega) (by omega)
      have w5 : wrap64 (r * 16777216 + s * 65536 + t * 256) = r * 16777216 + s * 65536 + t * 256 := w64 (by omega) (by omega)
      have w6 : wrap64 (r * 16777216 + s * 65536 + t * 256 + u) = r * 16777216 + s * 65536 + t * 256 + u := w64 (by omega) (by omega)
      rw [w1, w2, w3, w4, w5, w6]
      have := tmod_ok (r * 16777216 + s * 65536 + t * 256 + u) n (by omega) (by omega)
      exact ⟨_, _, _, rfl, this.1, fun _ => this.2, fun _ => by omega, m0⟩
theorem l1New_ok (c : List Int) (hc : c.length ≤ 140737488351232) : ∃ h, Ev (fun k => spec_l1New.f k c) (c, 0, h) := by
  unfold spec_l1New.f
  have : ∀ (d i : Nat) (h : Int), i + d = 4000 → ∃ h', Ev (fun k => spec_l1New.l0 k c h (i : Int)) (c, 0, h') := by
    intro d
    induction d with
    | zero =>
      intro i h hd
      refine ⟨h, Ev.step (fun k => by rw [spec_l1New.l0]) ?_⟩
      exact evI (fun _ => evN (by omega) (Ev.now _)) (fun _ => Ev.now _)
    | succ d ih =>
      intro i h hd
      by_cases h1 : (i : Int) < (c.length : Int)
      · obtain ⟨h', e⟩ := ih (i + 1) (Go.bits .and .i64 (wrap64 ((wrap64 ((wrap64 (h * 131)) + (wrap64 (rd c i)))) + 7)) 1073741823) (by omega)
        refine ⟨h', Ev.step (fun k => by rw [spec_l1New.l0]) ?_⟩
        refine evP h1 (evP (by omega) (evP (by omega) ?_))
        rw [w64 (i := (i : Int) + 1) (by omega) (by omega)]
        exact e
      · refine ⟨h, Ev.step (fun k => by rw [spec_l1New.l0]) ?_⟩
        exact evN h1 (Ev.now _)
  exact this 4000 0 _ rfl

/-! Numbers that rise, each once. -/
def ins (n : Int) : List Int → List Int
  | [] => [n]
  | a :: t => if a < n then a :: ins n t else if a = n then a :: t else n :: a :: t
def Rises (l : List Int) : Prop := l.Pairwise (· < ·)
theorem mem_ins (n x : Int) : ∀ l : List Int, x ∈ ins n l ↔ x = n ∨ x ∈ l := by
  intro l
  induction l with
  | nil => simp [ins]
  | cons a t ih =>
    unfold ins
    split
    · rw [List.mem_cons, ih, List.mem_cons]
      exact ⟨fun h => by rcases h with h | h | h <;> simp [h], fun h => by rcases h with h | h | h <;> simp [h]⟩
    · split
      · rename_i _ h2; subst h2
        exact ⟨fun h => .inr h, fun h => by rcases h with h | h <;> simp [h]⟩
      · simp
theorem rises_ins (n : Int) : ∀ l : List Int, Rises l → Rises (ins n l) := by
  intro l
  induction l with
  | nil => intro _; unfold ins Rises; simp
  | cons a t ih =>
    intro h
    obtain ⟨h1, h2⟩ := List.pairwise_cons.1 h
    unfold ins
    split
    · rename_i ha
      refine List.pairwise_cons.2 ⟨fun y hy => ?_, ih h2⟩
      rcases (mem_ins n y t).1 hy with e | hy
      · subst e; exact ha
      · exact h1 y hy
    · split
      · exact h
      · refine List.pairwise_cons.2 ⟨fun y hy => ?_, h⟩
        rcases List.mem_cons.1 hy with e | hy
        · subst e; omega
        · have := h1 y hy; omega
theorem ins_length (n : Int) : ∀ l : List Int, n ∉ l → Rises l → (ins n l).length = l.length + 1 := by
  intro l
  induction l with
  | nil => intro _ _; rfl
  | cons a t ih =>
    intro h hr
    obtain ⟨h1, h2⟩ := List.pairwise_cons.1 hr
    rw [List.mem_cons] at h
    unfold ins
    split
    · rw [List.length_cons, ih (fun h' => h (.inr h')) h2]; rfl
    · rw [if_neg (fun e => h (.inl e.symm))]; rfl
theorem ins_le (n : Int) : ∀ l : List Int, l.length ≤ (ins n l).length ∧ (ins n l).length ≤ l.length + 1 := by
  intro l
  induction l with
  | nil => simp [ins]
  | cons a t ih =>
    unfold ins
    split
    · simp only [List.length_cons]; omega
    · split <;> simp
theorem ins_mem (n : Int) : ∀ l : List Int, n ∈ l → Rises l → ins n l = l := by
  intro l
  induction l with
  | nil => intro h; simp at h
  | cons a t ih =>
    intro h hr
    obtain ⟨h1, h2⟩ := List.pairwise_cons.1 hr
    rw [List.mem_cons] at h
    unfold ins
    rcases h with e | h
    · subst e; rw [if_neg (by omega), if_pos rfl]
    · rw [if_pos (h1 n h), ih h h2]
theorem rises_eq : ∀ l m : List Int, Rises l → Rises m → (∀ x, x ∈ l ↔ x ∈ m) → l = m := by
  intro l
  induction l with
  | nil =>
    intro m _ _ h
    cases m with
    | nil => rfl
    | cons b s => exact absurd ((h b).2 (by simp)) (by simp)
  | cons a t ih =>
    intro m hl hm h
    cases m with
    | nil => exact absurd ((h a).1 (by simp)) (by simp)
    | cons b s =>
      obtain ⟨h1, h2⟩ := List.pairwise_cons.1 hl
      obtain ⟨g1, g2⟩ := List.pairwise_cons.1 hm
      have e : a = b := by
        have ha := List.mem_cons.1 ((h a).1 (by simp))
        have hb := List.mem_cons.1 ((h b).2 (by simp))
        rcases ha with e | ha
        · exact e
        · rcases hb with e | hb
          · exact e.symm
          · have := h1 b hb; have := g1 a ha; omega
      subst e
      congr 1
      refine ih s h2 g2 (fun x => ⟨fun hx => ?_, fun hx => ?_⟩)
      · have := List.mem_cons.1 ((h x).1 (List.mem_cons.2 (.inr hx)))
        rcases this with e | h3
        · have := h1 x hx; omega
        · exact h3
      · have := List.mem_cons.1 ((h x).2 (List.mem_cons.2 (.inr hx)))
        rcases this with e | h3
        · have := g1 x hx; omega
        · exact h3
theorem rises_short : ∀ (l m : List Int), Rises l → (∀ x ∈ l, x ∈ m) → l.length ≤ m.length := by
  intro l
  induction l with
  | nil => intro m _ _; simp
  | cons a t ih =>
    intro m hl h
    obtain ⟨h1, h2⟩ := List.pairwise_cons.1 hl
    have hm : a ∈ m := h a (by simp)
    have := ih (m.erase a) h2 (fun x hx => by
      have hx2 := h x (List.mem_cons.2 (.inr hx))
      have hne : x ≠ a := by have := h1 x hx; omega
      exact (List.mem_erase_of_ne hne).2 hx2)
    have hle := List.length_erase_of_mem hm
    have hpos : 0 < m.length := List.length_pos_of_mem hm
    rw [List.length_cons]; omega
theorem rd_mem (l : List Int) (i : Nat) (h : i < l.length) : rd l (i : Int) ∈ l := by
  rw [rd_nat, List.getD_eq_getElem?_getD, List.getElem?_eq_getElem h]; simp
theorem mem_rd {l : List Int} {x : Int} (h : x ∈ l) : ∃ i : Nat, i < l.length ∧ rd l (i : Int) = x := by
  obtain ⟨i, hi, e⟩ := List.mem_iff_getElem.1 h
  exact ⟨i, hi, by rw [rd_nat, List.getD_eq_getElem?_getD, List.getElem?_eq_getElem hi]; simpa using e⟩

theorem ins_at (n : Int) : ∀ (l : List Int) (i : Nat), (∀ x ∈ l.take i, x < n) → ins n l = l.take i ++ ins n (l.drop i) := by
  intro l
  induction l with
  | nil => intro i _; simp
  | cons a t ih =>
    intro i h
    cases i with
    | zero => rfl
    | succ i =>
      have ha : a < n := h a (by simp)
      rw [List.take_succ_cons, List.drop_succ_cons, ins, if_pos ha, ih i (fun x hx => h x (by rw [List.take_succ_cons]; exact List.mem_cons.2 (.inr hx)))]
      rfl

theorem impl_hasInt_l (l : List Int) (x : Int) (hm : l.length ≤ 4194304) : ∀ (d i : Nat), i + d = l.length → Ev (fun k => impl_hasInt.l0 k x l (l.length : Int) (i : Int)) (decide (x ∈ l.drop i)) := by
  intro d
  induction d with
  | zero =>
    intro i h
    refine Ev.step (fun k => by rw [impl_hasInt.l0]) ?_
    refine evN (by omega) ?_
    rw [List.drop_of_length_le (by omega)]; simp; exact Ev.now _
  | succ d ih =>
    intro i h
    refine Ev.step (fun k => by rw [impl_hasInt.l0]) ?_
    refine evP (by omega) (evP (by omega) (evP (by omega) ?_))
    rw [rd_cons_drop l i (by omega), w64 (by omega) (by omega)]
    refine evI (fun e => ?_) (fun e => ?_)
    · rw [decide_eq_true (by rw [← e]; simp)]; exact Ev.now _
    · have := ih (i + 1) (by omega)
      have e2 : decide (x ∈ rd l (i : Int) :: l.drop (i + 1)) = decide (x ∈ l.drop (i + 1)) := by
        apply decide_eq_decide.2; rw [List.mem_cons]
        exact ⟨fun h => by rcases h with h | h; exact absurd h.symm e; exact h, .inr⟩
      rw [e2]; exact this
theorem impl_hasInt_ev (l : List Int) (x : Int) (hm : l.length ≤ 4194304) : Ev (fun k => impl_hasInt.f k l x) (decide (x ∈ l)) := by
  unfold impl_hasInt.f
  exact impl_hasInt_l l x hm l.length 0 (by omega)

theorem spec_l4Has_l (l : List Int) (x : Int) (hm : l.length ≤ 4194304) : ∀ (d i : Nat), i + d = l.length → Ev (fun k => spec_l4Has.l0 k l x (i : Int)) (decide (x ∈ l.drop i)) := by
  intro d
  induction d with
  | zero =>
    intro i h
    refine Ev.step (fun k => by rw [spec_l4Has.l0]) ?_
    refine evN (by omega) ?_
    rw [List.drop_of_length_le (by omega)]; simp; exact Ev.now _
  | succ d ih =>
    intro i h
    refine Ev.step (fun k => by rw [spec_l4Has.l0]) ?_
    refine evP (by omega) (evP (by omega) ?_)
    rw [rd_cons_drop l i (by omega), w64 (by omega) (by omega)]
    refine evI (fun e => ?_) (fun e => ?_)
    · rw [decide_eq_true (by rw [← e]; simp)]; exact Ev.now _
    · have := ih (i + 1) (by omega)
      have e2 : decide (x ∈ rd l (i : Int) :: l.drop (i + 1)) = decide (x ∈ l.drop (i + 1)) := by
        apply decide_eq_decide.2; rw [List.mem_cons]
        exact ⟨fun h => by rcases h with h | h; exact absurd h.symm e; exact h, .inr⟩
      rw [e2]; exact this
theorem spec_l4Has_ev (l : List Int) (x : Int) (hm : l.length ≤ 4194304) : Ev (fun k => spec_l4Has.f k l x) (decide (x ∈ l)) := by
  unfold spec_l4Has.f
  exact spec_l4Has_l l x hm l.length 0 (by omega)

theorem laws_has_l (l : List Int) (x : Int) (hm : l.length ≤ 4194304) : ∀ (d i : Nat), i + d = l.length → Ev (fun k => laws_has.l0 k l x (i : Int)) (decide (x ∈ l.drop i)) := by
  intro d
  induction d with
  | zero =>
    intro i h
    refine Ev.step (fun k => by rw [laws_has.l0]) ?_
    refine evN (by omega) ?_
    rw [List.drop_of_length_le (by omega)]; simp; exact Ev.now _
  | succ d ih =>
    intro i h
    refine Ev.step (fun k => by rw [laws_has.l0]) ?_
    refine evP (by omega) (evP (by omega) ?_)
    rw [rd_cons_drop l i (by omega), w64 (by omega) (by omega)]
    refine evI (fun e => ?_) (fun e => ?_)
    · rw [decide_eq_true (by rw [← e]; simp)]; exact Ev.now _
    · have := ih (i + 1) (by omega)
      have e2 : decide (x ∈ rd l (i : Int) :: l.drop (i + 1)) = decide (x ∈ l.drop (i + 1)) := by
        apply decide_eq_decide.2; rw [List.mem_cons]
        exact ⟨fun h => by rcases h with h | h; exact absurd h.symm e; exact h, .inr⟩
      rw [e2]; exact this
theorem laws_has_ev (l : List Int) (x : Int) (hm : l.length ≤ 4194304) : Ev (fun k => laws_has.f k l x) (decide (x ∈ l)) := by
  unfold laws_has.f
  exact laws_has_l l x hm l.length 0 (by omega)

theorem withInt_l (l : List Int) (n : Int) (hm : l.length ≤ 4194304) : ∀ (d i : Nat), i + d = l.length → (∀ x ∈ l.take i, x < n) →
    Ev (fun k => impl_withInt.l0 k l n (i : Int)) (ins n l) := by
  intro d
  induction d with
  | zero =>
    intro i h hlt
    refine Ev.step (fun k => by rw [impl_withInt.l0]) ?_
    refine evN (by omega) ?_
    refine evP (by omega) ?_
    refine evP (by omega) ?_
    refine evB (evP ?_ (evB (evB (evP ?_ (evB (evB (evP ?_ ?_)))))))
    · simp; omega
    · simp; omega
    · simp; omega
    · rw [ins_at n l i hlt]
      simp only [Int.toNat_natCast, List.nil_append]
      rw [List.drop_of_length_le (show l.length ≤ i by omega), List.append_nil]
      exact Ev.now _
  | succ d ih =>
    intro i h hlt
    have hi : i < l.length := by omega
    have hd := rd_cons_drop l i hi
    refine Ev.step (fun k => by rw [impl_withInt.l0]) ?_
    refine evP (by omega) ?_
    refine evP (by omega) ?_
    refine evI (fun e => ?_) (fun e => evI (fun e2 => ?_) (fun e2 => ?_))
    · rw [w64 (by omega) (by omega)]
      refine ih (i + 1) (by omega) (fun x hx => ?_)
      rw [← take_snoc l 0 i hi, List.mem_append, List.mem_singleton] at hx
      rcases hx with hx | hx
      · exact hlt x hx
      · rw [hx, ← rd_nat]; exact e
    · rw [ins_at n l i hlt, hd, ins, if_neg e, if_pos e2, ← hd, List.take_append_drop]; exact Ev.now _
    · refine evP (by omega) ?_
      refine evB (evP ?_ (evB (evB (evP ?_ (evB (evB (evP ?_ ?_)))))))
      · simp; omega
      · simp; omega
      · simp; omega
      · rw [ins_at n l i hlt, hd, ins, if_neg e, if_neg e2, ← hd]
        simp only [Int.toNat_natCast, List.nil_append]
        rw [List.append_assoc]
        exact Ev.now _
theorem withInt_ev (l : List Int) (n : Int) (hm : l.length ≤ 4194304) : Ev (fun k => impl_withInt.f k l n) (ins n l) := by
  unfold impl_withInt.f
  exact withInt_l l n hm l.length 0 (by omega) (by simp)

/-- What spec_l12Int has put together at place i: what stood ahead of it, with x where it belongs, if that has come up. -/
theorem l12Int_l (l : List Int) (x : Int) (hm : l.length ≤ 4194304) (hr : Rises l) : ∀ (d i : Nat), i + d = l.length →
    ((∀ y ∈ l.take i, y < x) → Ev (fun k => spec_l12Int.l0 k l x (l.take i) false (i : Int)) (ins x l)) ∧
    (∀ b : List Int, b.length ≤ i + 1 → ins x l = b ++ l.drop i → (∀ y ∈ l.drop i, x < y) → Ev (fun k => spec_l12Int.l0 k l x b true (i : Int)) (ins x l)) := by
  intro d
  induction d with
  | zero =>
    intro i h
    refine ⟨fun hlt => ?_, fun b hb e hgt => ?_⟩
    · refine Ev.step (fun k => by rw [spec_l12Int.l0]) ?_
      refine evN (by omega) ?_
      refine evN (by simp) ?_
      refine evP (by rw [List.length_take]; omega) ?_
      rw [ins_at x l i hlt, List.drop_of_length_le (show l.length ≤ i by omega)]; exact Ev.now _
    · refine Ev.step (fun k => by rw [spec_l12Int.l0]) ?_
      refine evN (by omega) ?_
      refine evP rfl ?_
      rw [List.drop_of_length_le (show l.length ≤ i by omega), List.append_nil] at e
      rw [e]; exact Ev.now _
  | succ d ih =>
    intro i h
    have hi : i < l.length := by omega
    have hd := rd_cons_drop l i hi
    obtain ⟨ih1, ih2⟩ := ih (i + 1) (by omega)
    have hr2 : Rises (rd l (i : Int) :: l.drop (i + 1)) := by rw [← hd]; exact List.Pairwise.sublist (List.drop_sublist i l) hr
    obtain ⟨g1, _⟩ := List.pairwise_cons.1 hr2
    have wi : wrap64 ((i : Int) + 1) = ((i + 1 : Nat) : Int) := w64 (by omega) (by omega)
    refine ⟨fun hlt => ?_, fun b hb e hgt => ?_⟩
    · refine Ev.step (fun k => by rw [spec_l12Int.l0]) ?_
      refine evP (by omega) ?_
      refine evP (by omega) ?_
      refine evI (fun e => ?_) (fun e => evN (by simp) (evI (fun e2 => ?_) (fun e2 => ?_)))
      · rw [ins_at x l i hlt, hd, ins, if_neg (by omega), if_pos e, ← hd, List.take_append_drop]; exact Ev.now _
      · refine evP (by rw [List.length_take]; omega) ?_
        refine evB ?_
        refine evP (by rw [List.length_append, List.length_take, List.length_singleton]; omega) ?_
        rw [wi]
        refine ih2 _ ?_ ?_ ?_
        · simp only [List.length_append, List.length_take, List.length_singleton]; omega
        · rw [ins_at x l i hlt, hd, ins, if_neg (by omega), if_neg e]
          simp
        · intro y hy; have := g1 y hy; omega
      · refine evP (by rw [List.length_take]; omega) ?_
        rw [wi, rd_nat, take_snoc l 0 i hi]
        refine ih1 (fun y hy => ?_)
        rw [← take_snoc l 0 i hi, List.mem_append, List.mem_singleton] at hy
        rcases hy with hy | hy
        · exact hlt y hy
        · rw [hy, ← rd_nat]; omega
    · have hx : x < rd l (i : Int) := hgt _ (by rw [hd]; simp)
      refine Ev.step (fun k => by rw [spec_l12Int.l0]) ?_
      refine evP (by omega) ?_
      refine evP (by omega) ?_
      refine evN (by omega) ?_
      refine evP rfl ?_
      refine evP (by omega) ?_
      rw [wi]
      refine ih2 _ ?_ ?_ ?_
      · rw [List.length_append, List.length_singleton]; omega
      · rw [e, hd]; simp
      · intro y hy; exact hgt y (by rw [hd]; exact List.mem_cons.2 (.inr hy))
theorem l12Int_ev (l : List Int) (x : Int) (hm : l.length ≤ 4194304) (hr : Rises l) : Ev (fun k => spec_l12Int.f k l x) (ins x l) := by
  unfold spec_l12Int.f
  exact (l12Int_l l x hm hr l.length 0 (by omega)).1 (by simp)

/-! What edges lead to, from somewhere on. -/
inductive Reach (E : List S40) (a : Int) : Int → Prop
  | one (e : S40) : e ∈ E → e.f0 = a → Reach E a e.f1
  | more (e : S40) : e ∈ E → Reach E a e.f0 → Reach E a e.f1
def Closed (E : List S40) (a : Int) (out : List Int) : Prop := ∀ e ∈ E, (e.f0 = a ∨ e.f0 ∈ out) → e.f1 ∈ out
def IsOnward (E : List S40) (a : Int) (out : List Int) : Prop := Rises out ∧ ∀ x, x ∈ out ↔ Reach E a x
theorem closed_all {E : List S40} {a : Int} {out : List Int} (h : Closed E a out) : ∀ x, Reach E a x → x ∈ out := by
  intro x hx
  induction hx with
  | one e he e0 => exact h e he (.inl e0)
  | more e he _ ih => exact h e he (.inr ih)
theorem onward_one {E : List S40} {a : Int} {o p : List Int} (h : IsOnward E a o) (g : IsOnward E a p) : o = p :=
  rises_eq o p h.1 g.1 (fun x => (h.2 x).trans (g.2 x).symm)
theorem reach_short {E : List S40} {a : Int} {o : List Int} (h : Rises o) (g : ∀ x ∈ o, Reach E a x) : o.length ≤ E.length := by
  have := rises_short o (E.map S40.f1) h (fun x hx => by
    have hr := g x hx
    cases hr with
    | one e he _ => exact List.mem_map.2 ⟨e, he, rfl⟩
    | more e he _ => exact List.mem_map.2 ⟨e, he, rfl⟩)
  rw [List.length_map] at this; exact this
theorem rdE_mem (E : List S40) (i : Nat) (h : i < E.length) : rd_T40 E (i : Int) ∈ E := by
  unfold rd_T40
  rw [Int.toNat_natCast, List.getD_eq_getElem?_getD, List.getElem?_eq_getElem h]; simp
theorem rdE_drop (E : List S40) (i : Nat) (h : i < E.length) : E.drop i = rd_T40 E (i : Int) :: E.drop (i + 1) := by
  unfold rd_T40
  rw [Int.toNat_natCast, List.drop_eq_getElem_cons h, List.getD_eq_getElem?_getD, List.getElem?_eq_getElem h]; rfl
theorem rdE_take (E : List S40) (i : Nat) (h : i < E.length) : E.take (i + 1) = E.take i ++ [rd_T40 E (i : Int)] := by
  unfold rd_T40
  rw [Int.toNat_natCast, ← take_snoc E z40 i h]

theorem onward_arith (E t o n il : Nat) (hm : E + t - o = n) (h2 : il = o + 1) (hle : il ≤ E) : E + (t + 1) - il = n := by omega
theorem impl_onward_l (E : List S40) (a : Int) (hE : E.length ≤ 1048576) : ∀ (n : Nat) (out todo : List Int), E.length + todo.length - out.length = n → Rises out → (∀ x ∈ out, Reach E a x) →
    (∀ x ∈ todo, x = a ∨ x ∈ out) → (∀ y, (y = a ∨ y ∈ out) → y ∈ todo ∨ ∀ e ∈ E, e.f0 = y → e.f1 ∈ out) → todo.length ≤ out.length + 1 →
    ∃ r, Ev (fun k => impl_Onward.l0 k E out todo) r ∧ IsOnward E a r := by
  intro n
  induction n with
  | zero =>
    intro out todo hn hr hs ht hc hl
    have hle := reach_short hr hs
    cases todo with
    | nil =>
      refine ⟨out, Ev.step (fun k => by rw [impl_Onward.l0]) ?_, hr, fun x => ⟨hs x, closed_all (fun e he h0 => ?_) x⟩⟩
      refine evN (by simp) ?_
      exact Ev.now _
      rcases hc e.f0 h0 with h1 | h1
      · simp at h1
      · exact h1 e he rfl
    | cons b s => rw [List.length_cons] at hn; omega
  | succ n ih =>
    intro out todo hn hr hs ht hc hl
    have hle := reach_short hr hs
    cases todo with
    | nil =>
      refine ⟨out, Ev.step (fun k => by rw [impl_Onward.l0]) ?_, hr, fun x => ⟨hs x, closed_all (fun e he h0 => ?_) x⟩⟩
      refine evN (by simp) ?_
      exact Ev.now _
      rcases hc e.f0 h0 with h1 | h1
      · simp at h1
      · exact h1 e he rfl
    | cons b s =>
      have hb : b = a ∨ Reach E a b := by
        rcases ht b (by simp) with h | h
        · exact .inl h
        · exact .inr (hs b h)
      -- the round over the edges
      have round : ∀ (d i : Nat) (o t : List Int), i + d = E.length → E.length + t.length - o.length = n → Rises o → (∀ x ∈ o, Reach E a x) → (∀ x ∈ t, x = a ∨ x ∈ o) →
          (∀ y, (y = a ∨ y ∈ o) → y = b ∨ y ∈ t ∨ ∀ e ∈ E, e.f0 = y → e.f1 ∈ o) → (∀ e ∈ E.take i, e.f0 = b → e.f1 ∈ o) → t.length ≤ o.length + 1 →
          ∃ r, Ev (fun k => impl_Onward.l1 k E o t b E (E.length : Int) (i : Int)) r ∧ IsOnward E a r := by
        intro d
        induction d with
        | zero =>
          intro i o t hi hm hr' hs' ht' hc' he' hl'
          have hle' := reach_short hr' hs'
          obtain ⟨r, e1, e2⟩ := ih o t hm hr' hs' ht' (fun y hy => by
            rcases hc' y hy with h | h | h
            · right
              intro e he h0
              have : i = E.length := by omega
              subst this
              rw [List.take_length] at he'
              exact he' e he (h0.trans h)
            · exact .inl h
            · exact .inr h) hl'
          refine ⟨r, Ev.step (fun k => by rw [impl_Onward.l1]) ?_, e2⟩
          refine evN (by omega) ?_
          exact e1
        | succ d ih2 =>
          intro i o t hi hm hr' hs' ht' hc' he' hl'
          have hle' := reach_short hr' hs'
          have hiE : i < E.length := by omega
          have hmem := rdE_mem E i hiE
          have q1 : (i : Int) < (E.length : Int) := by omega
          have q0 : 0 ≤ (i : Int) := by omega
          have qi : i + 1 + d = E.length := by omega
          have qo : o.length ≤ 4194304 := by omega
          have qt : t.length < 17592186044416 := by omega
          have wi : wrap64 ((i : Int) + 1) = ((i + 1 : Nat) : Int) := w64 (by omega) (by omega)
          have next : (((rd_T40 E (i : Int)).f0 = b → (rd_T40 E (i : Int)).f1 ∈ o)) → ∃ r, Ev (fun k => impl_Onward.l1 k E o t b E (E.length : Int) ((i + 1 : Nat) : Int)) r ∧ IsOnward E a r := by
            intro hq
            refine ih2 (i + 1) o t (by omega) hm hr' hs' ht' hc' (fun e he h0 => ?_) hl'
            rw [rdE_take E i hiE, List.mem_append, List.mem_singleton] at he
            rcases he with he | he
            · exact he' e he h0
            · subst he; exact hq h0
          by_cases c1 : (rd_T40 E (i : Int)).f0 = b
          · by_cases c2 : (rd_T40 E (i : Int)).f1 ∈ o
            · obtain ⟨r, e1, e2⟩ := next (fun _ => c2)
              refine ⟨r, Ev.step (fun k => by rw [impl_Onward.l1]) ?_, e2⟩
              refine evP q1 ?_
              refine evP q0 ?_
              refine evP q1 ?_
              refine evP c1 ?_
              refine Ev.bind (impl_hasInt_ev o _ qo) ?_
              refine evP (by simp [c2]) ?_
              rw [wi]; exact e1
            · generalize hv : (rd_T40 E (i : Int)).f1 = v at *
              have hreach : Reach E a v := by
                rw [← hv]
                rcases hb with h | h
                · exact .one _ hmem (c1.trans h)
                · exact .more _ hmem (by rw [c1]; exact h)
              have hln := ins_length v o c2 hr'
              have hs2 : ∀ x ∈ ins v o, Reach E a x := by
                intro x hx
                rcases (mem_ins v x o).1 hx with h | h
                · rw [h]; exact hreach
                · exact hs' x h
              have hle2 := reach_short (rises_ins v o hr') hs2
              obtain ⟨r, e1, e2⟩ := ih2 (i + 1) (ins v o) (t ++ [v]) qi (by rw [List.length_append, List.length_singleton]; exact onward_arith _ _ _ _ _ hm hln hle2) (rises_ins v o hr') hs2
                (fun x hx => by
                  rw [List.mem_append, List.mem_singleton] at hx
                  rcases hx with hx | hx
                  · rcases ht' x hx with h | h
                    · exact .inl h
                    · exact .inr ((mem_ins v x o).2 (.inr h))
                  · exact .inr ((mem_ins v x o).2 (.inl hx)))
                (fun y hy => by
                  by_cases hyv : y = v
                  · right; left; rw [List.mem_append, List.mem_singleton]; exact .inr hyv
                  · have hy2 : y = a ∨ y ∈ o := by
                      rcases hy with h | h
                      · exact .inl h
                      · rcases (mem_ins v y o).1 h with h | h
                        · exact absurd h hyv
                        · exact .inr h
                    rcases hc' y hy2 with h | h | h
                    · exact .inl h
                    · right; left; rw [List.mem_append]; exact .inl h
                    · right; right; intro e he h0; exact (mem_ins v _ o).2 (.inr (h e he h0)))
                (fun e he h0 => by
                  rw [rdE_take E i hiE, List.mem_append, List.mem_singleton] at he
                  rcases he with he | he
                  · exact (mem_ins v _ o).2 (.inr (he' e he h0))
                  · subst he; exact (mem_ins v _ o).2 (.inl hv))
                (by rw [List.length_append, List.length_singleton, hln]; exact Nat.succ_le_succ hl')
              refine ⟨r, Ev.step (fun k => by rw [impl_Onward.l1]) ?_, e2⟩
              refine evP q1 ?_
              refine evP q0 ?_
              refine evP q1 ?_
              refine evP c1 ?_
              rw [hv]
              refine Ev.bind (impl_hasInt_ev o _ qo) ?_
              refine evN (by simp [c2]) ?_
              refine Ev.bind (withInt_ev o v qo) ?_
              refine evP qt ?_
              rw [wi]; exact e1
          · obtain ⟨r, e1, e2⟩ := next (fun h => absurd h c1)
            refine ⟨r, Ev.step (fun k => by rw [impl_Onward.l1]) ?_, e2⟩
            refine evP q1 ?_
            refine evP q0 ?_
            refine evP q1 ?_
            refine evN c1 ?_
            rw [wi]; exact e1
      rw [List.length_cons] at hn hl
      obtain ⟨r, e1, e2⟩ := round E.length 0 out s (by omega) (by omega) hr hs (fun x hx => ht x (List.mem_cons.2 (.inr hx)))
        (fun y hy => by
          rcases hc y hy with h | h
          · rcases List.mem_cons.1 h with h | h
            · exact .inl h
            · exact .inr (.inl h)
          · exact .inr (.inr h)) (by simp) (by omega)
      refine ⟨r, Ev.step (fun k => by rw [impl_Onward.l0]) ?_, e2⟩
      have p1 : ((b :: s).length : Int) > 0 := by rw [List.length_cons]; omega
      have p2 : 1 ≤ ((b :: s).length : Int) := by rw [List.length_cons]; omega
      refine evP p1 ?_
      refine evP p1 ?_
      refine evP p2 ?_
      exact e1
theorem impl_onward_ev (E : List S40) (a : Int) (hE : E.length ≤ 1048576) : ∃ r, Ev (fun k => impl_Onward.f k E a) r ∧ IsOnward E a r := by
  unfold impl_Onward.f
  exact impl_onward_l E a hE _ [] [a] rfl List.Pairwise.nil (by simp) (by simp) (fun y hy => by
    rcases hy with h | h
    · left; simp [h]
    · simp at h) (by simp)

theorem spec_onward_l (E : List S40) (a : Int) (hE : E.length ≤ 1048576) : ∀ (n j : Nat) (out : List Int), j + n = E.length + 1 → Rises out → (∀ x ∈ out, Reach E a x) → (Closed E a out ∨ j ≤ out.length) →
    ∃ r, Ev (fun k => spec_Onward.l0 k E a out (j : Int)) r ∧ IsOnward E a r := by
  intro n
  induction n with
  | zero =>
    intro j out hj hr hs hc
    have hle := reach_short hr hs
    refine ⟨out, Ev.step (fun k => by rw [spec_Onward.l0]) ?_, hr, fun x => ⟨hs x, ?_⟩⟩
    refine evN (by omega) ?_
    exact Ev.now _
    rcases hc with hc | hc
    · exact closed_all hc x
    · omega
  | succ n ih =>
    intro j out hj hr hs hc
    -- a round: what was there stays; each edge that was looked at is closed, or there is more than there was
    have round : ∀ (d i : Nat) (o : List Int), i + d = E.length → Rises o → (∀ x ∈ o, Reach E a x) → out.length ≤ o.length →
        (out.length < o.length ∨ (o = out ∧ ∀ e ∈ E.take i, (e.f0 = a ∨ e.f0 ∈ out) → e.f1 ∈ out)) → (Closed E a out → o = out) →
        ∃ r, Ev (fun k => spec_Onward.l1 k E a o (j : Int) (i : Int)) r ∧ IsOnward E a r := by
      intro d
      induction d with
      | zero =>
        intro i o hi hr' hs' hl' hm' hk'
        have hle' := reach_short hr' hs'
        obtain ⟨r, e1, e2⟩ := ih (j + 1) o (by omega) hr' hs' (by
          rcases hc with hc | hc
          · left; rw [hk' hc]; exact hc
          · rcases hm' with h | ⟨h, h2⟩
            · right; omega
            · left
              subst h
              intro e he
              have : i = E.length := by omega
              subst this
              rw [List.take_length] at h2
              exact h2 e he)
        refine ⟨r, Ev.step (fun k => by rw [spec_Onward.l1]) ?_, e2⟩
        refine evN (by omega) ?_
        rw [w64 (by omega) (by omega)]; exact e1
      | succ d ih2 =>
        intro i o hi hr' hs' hl' hm' hk'
        have hle' := reach_short hr' hs'
        have hiE : i < E.length := by omega
        have hmem := rdE_mem E i hiE
        have wi : wrap64 ((i : Int) + 1) = ((i + 1 : Nat) : Int) := w64 (by omega) (by omega)
        -- this edge leads on
        have add : ((rd_T40 E (i : Int)).f0 = a ∨ (rd_T40 E (i : Int)).f0 ∈ o) →
            ∃ r, Ev (fun k => (spec_l12Int.f k o ((rd_T40 E (i : Int)).f1)).bind fun t => (spec_Onward.l1 k E a t (j : Int) (wrap64 ((i : Int) + 1)))) r ∧ IsOnward E a r := by
          intro h0
          have hreach : Reach E a (rd_T40 E (i : Int)).f1 := by
            rcases h0 with h | h
            · exact .one _ hmem h
            · exact .more _ hmem (hs' _ h)
          have hle3 := ins_le (rd_T40 E (i : Int)).f1 o
          obtain ⟨r, e1, e2⟩ := ih2 (i + 1) (ins (rd_T40 E (i : Int)).f1 o) (by omega) (rises_ins _ o hr') (fun x hx => by
              rcases (mem_ins _ x o).1 hx with h | h
              · rw [h]; exact hreach
              · exact hs' x h) (by omega) (by
              by_cases hin : (rd_T40 E (i : Int)).f1 ∈ o
              · rw [ins_mem _ o hin hr']
                rcases hm' with h | ⟨h, h2⟩
                · exact .inl h
                · right
                  subst h
                  refine ⟨rfl, fun e he h3 => ?_⟩
                  rw [rdE_take E i hiE, List.mem_append, List.mem_singleton] at he
                  rcases he with he | he
                  · exact h2 e he h3
                  · subst he; exact hin
              · left; rw [ins_length _ o hin hr']; omega) (fun hcl => by
              have := hk' hcl
              subst this
              exact ins_mem _ _ (hcl _ hmem h0) hr')
          refine ⟨r, Ev.bind (l12Int_ev o _ (by omega) hr') ?_, e2⟩
          rw [wi]; exact e1
        by_cases c1 : (rd_T40 E (i : Int)).f0 = a
        · obtain ⟨r, e1, e2⟩ := add (.inl c1)
          refine ⟨r, Ev.step (fun k => by rw [spec_Onward.l1]) ?_, e2⟩
          refine evP (by omega) ?_
          refine evP (by omega) ?_
          refine evP c1 ?_
          exact e1
        · by_cases c2 : (rd_T40 E (i : Int)).f0 ∈ o
          · obtain ⟨r, e1, e2⟩ := add (.inr c2)
            refine ⟨r, Ev.step (fun k => by rw [spec_Onward.l1]) ?_, e2⟩
            refine evP (by omega) ?_
            refine evP (by omega) ?_
            refine evN c1 ?_
            refine Ev.bind (spec_l4Has_ev o _ (by omega)) ?_
            refine evP (by simp [c2]) ?_
            exact e1
          · obtain ⟨r, e1, e2⟩ := ih2 (i + 1) o (by omega) hr' hs' hl' (by
              rcases hm' with h | ⟨h, h2⟩
              · exact .inl h
              · right
                subst h
                refine ⟨rfl, fun e he h3 => ?_⟩
                rw [rdE_take E i hiE, List.mem_append, List.mem_singleton] at he
                rcases he with he | he
                · exact h2 e he h3
                · subst he
                  rcases h3 with h3 | h3
                  · exact absurd h3 c1
                  · exact absurd h3 c2) hk'
            refine ⟨r, Ev.step (fun k => by rw [spec_Onward.l1]) ?_, e2⟩
            refine evP (by omega) ?_
            refine evP (by omega) ?_
            refine evN c1 ?_
            refine Ev.bind (spec_l4Has_ev o _ (by omega)) ?_
            refine evN (by simp [c2]) ?_
            rw [wi]; exact e1
    obtain ⟨r, e1, e2⟩ := round E.length 0 out (by omega) hr hs (Nat.le_refl _) (.inr ⟨rfl, by simp⟩) (fun _ => rfl)
    refine ⟨r, Ev.step (fun k => by rw [spec_Onward.l0]) ?_, e2⟩
    refine evP (by omega) ?_
    exact e1
theorem spec_onward_ev (E : List S40) (a : Int) (hE : E.length ≤ 1048576) : ∃ r, Ev (fun k => spec_Onward.f k E a) r ∧ IsOnward E a r := by
  unfold spec_Onward.f
  exact spec_onward_l E a hE (E.length + 1) 0 [] (by omega) List.Pairwise.nil (by simp) (.inr (Nat.zero_le _))

theorem drawOnward_l {c : List Int} (hc : c.length ≤ 140737488351232) : ∀ (n : Nat) (l : List S40) (i h : Int), l.length + n ≤ 100 → 0 ≤ i →
    ∃ r x, Ev (fun k => spec_DrawOnward.l0 k l (n : Int) c i h) (r, x) ∧ r.length ≤ 100 := by
  intro n
  induction n with
  | zero =>
    intro l i h hl hi
    obtain ⟨b, i1, h1, e1, _, _, _, _⟩ := l1Below_ok c hc i h 6 hi
    refine ⟨l, wrap64 (b - 1), Ev.step (fun k => by rw [spec_DrawOnward.l0]) ?_, by omega⟩
    refine evN (by omega) ?_
    refine evS e1 ?_
    exact Ev.now _
  | succ n ih =>
    intro l i h hl hi
    obtain ⟨a, i1, h1, e1, _, _, _, i10⟩ := l1Below_ok c hc i h 6 hi
    obtain ⟨b, i2, h2, e2, _, _, _, i20⟩ := l1Below_ok c hc i1 h1 6 i10
    obtain ⟨r, x, e, hr⟩ := ih (l ++ [(⟨wrap64 (a - 1), b⟩ : S40)]) i2 h2 (by rw [List.length_append, List.length_singleton]; omega) i20
    refine ⟨r, x, Ev.step (fun k => by rw [spec_DrawOnward.l0]) ?_, hr⟩
    refine evP (by omega) ?_
    refine evS e1 ?_
    refine evS e2 ?_
    refine evP (by omega) ?_
    rw [w64 (i := ((n + 1 : Nat) : Int) - 1) (by omega) (by omega), show ((n + 1 : Nat) : Int) - 1 = (n : Int) by omega]
    exact e
theorem drawOnward_ok (c : List Int) (hc : c.length ≤ 140737488351232) : ∃ l a, Ev (fun k => spec_DrawOnward.f k c) (l, a) ∧ l.length ≤ 100 := by
  obtain ⟨h, e0⟩ := l1New_ok c hc
  obtain ⟨n, i1, h1, e1, n0, n1, _, i10⟩ := l1Below_ok c hc 0 h 9 (by omega)
  obtain ⟨r, x, e, hr⟩ := drawOnward_l hc n.toNat [] i1 h1 (by simp; omega) i10
  rw [Int.toNat_of_nonneg n0] at e
  refine ⟨r, x, ?_, hr⟩
  unfold spec_DrawOnward.f
  refine Ev.bind e0 ?_
  refine evS e1 ?_
  exact e
theorem led_ev (E : List S40) (a : Int) (x : List Int) (i : Nat) (hi : i < x.length) (hE : E.length ≤ 100) (hx : x.length ≤ 100) (r : Bool)
    (next : Ev (fun k => laws_FnOnward.l2 k E a x (i : Int) true (E.length : Int)) r) :
    ∀ (d j : Nat) (b : Bool), j + d = E.length → (b = true ∨ ∃ e ∈ E.drop j, e.f1 = rd x (i : Int) ∧ (e.f0 = a ∨ e.f0 ∈ x)) →
    Ev (fun k => laws_FnOnward.l2 k E a x (i : Int) b (j : Int)) r := by
  intro d
  induction d with
  | zero =>
    intro j b hj hb
    rcases hb with hb | ⟨e, he, _⟩
    · subst hb
      have : j = E.length := by omega
      subst this; exact next
    · rw [List.drop_of_length_le (by omega)] at he; simp at he
  | succ d ih =>
    intro j b hj hb
    have hjE : j < E.length := by omega
    have wj : wrap64 ((j : Int) + 1) = ((j + 1 : Nat) : Int) := w64 (by omega) (by omega)
    refine Ev.step (fun k => by rw [laws_FnOnward.l2]) ?_
    refine evP (by omega) ?_
    rw [wj]
    refine evI (fun h1 => ih (j + 1) true (by omega) (.inl rfl)) (fun h1 => evP (by omega) (evP (by omega) (evP (by omega) ?_)))
    have hb2 : ∃ e ∈ E.drop j, e.f1 = rd x (i : Int) ∧ (e.f0 = a ∨ e.f0 ∈ x) := by
      rcases hb with h | h
      · exact absurd h h1
      · exact h
    rw [rdE_drop E j hjE] at hb2
    obtain ⟨e, he, e1, e2⟩ := hb2
    refine evI (fun c1 => evI (fun c2 => ih (j + 1) true (by omega) (.inl rfl)) (fun c2 => ?_)) (fun c1 => ?_)
    · refine Ev.bind (laws_has_ev x _ (by omega)) ?_
      refine ih (j + 1) _ (by omega) ?_
      by_cases c3 : (rd_T40 E (j : Int)).f0 ∈ x
      · left; simp [c3]
      · right
        rcases List.mem_cons.1 he with he | he
        · subst he
          rcases e2 with e2 | e2
          · exact absurd e2 c2
          · exact absurd e2 c3
        · exact ⟨e, he, e1, e2⟩
    · refine ih (j + 1) false (by omega) (.inr ?_)
      rcases List.mem_cons.1 he with he | he
      · subst he; exact absurd e1 c1
      · exact ⟨e, he, e1, e2⟩
theorem rises_rd {x : List Int} (h : Rises x) (i j : Nat) (hij : i < j) (hj : j < x.length) : rd x (i : Int) < rd x (j : Int) := by
  have := List.pairwise_iff_getElem.1 h i j (by omega) hj hij
  rw [rd_nat, rd_nat, List.getD_eq_getElem?_getD, List.getD_eq_getElem?_getD, List.getElem?_eq_getElem (show i < x.length by omega), List.getElem?_eq_getElem hj]
  exact this
theorem FnOnward : laws_FnOnward.Pure := by
  intro c _ hc0 _
  have hc : c.length ≤ 140737488351232 := by omega
  apply Ev.rounds
  unfold laws_FnOnward.f laws_big.f
  refine evB ?_
  refine evI (fun _ => Ev.now _) (fun _ => ?_)
  obtain ⟨E, a, e0, hE⟩ := drawOnward_ok c hc
  refine Ev.bind e0 ?_
  dsimp only
  obtain ⟨x, ex, hx⟩ := impl_onward_ev E a (by omega)
  obtain ⟨y, ey, hy⟩ := spec_onward_ev E a (by omega)
  have hxy := onward_one hx hy
  subst hxy
  refine Ev.bind ex ?_
  have hxl := reach_short hx.1 (fun z hz => (hx.2 z).1 hz)
  -- each of the second loop's rounds
  have second : ∀ (d i : Nat), i + d = x.length → Ev (fun k => laws_FnOnward.l1 k E a x (i : Int)) true := by
    intro d
    induction d with
    | zero =>
      intro i hi
      refine Ev.step (fun k => by rw [laws_FnOnward.l1]) ?_
      refine evN (by omega) ?_
      refine Ev.bind ey ?_
      simp; exact Ev.now _
    | succ d ih =>
      intro i hi
      refine Ev.step (fun k => by rw [laws_FnOnward.l1]) ?_
      refine evP (by omega) ?_
      have wi : wrap64 ((i : Int) + 1) = ((i + 1 : Nat) : Int) := w64 (by omega) (by omega)
      refine led_ev E a x i (by omega) hE (by omega) true ?_ E.length 0 false (by omega) (.inr ?_)
      · refine Ev.step (fun k => by rw [laws_FnOnward.l2]) ?_
        refine evN (by omega) ?_
        refine evP rfl ?_
        rw [wi]
        refine evI (fun h0 => ?_) (fun h0 => ih (i + 1) (by omega))
        have e3 : wrap64 ((i : Int) - 1) = ((i - 1 : Nat) : Int) := by rw [w64 (by omega) (by omega)]; omega
        rw [e3]
        have hlt := rises_rd hx.1 (i - 1) i (by omega) (by omega)
        refine evP (by omega) ?_
        refine evP (by omega) ?_
        refine evP (by omega) ?_
        refine evP (by omega) ?_
        refine evN (by omega) ?_
        exact ih (i + 1) (by omega)
      · have hr := (hx.2 _).1 (rd_mem x i (by omega))
        rw [List.drop_zero]
        generalize hv : rd x (i : Int) = v at hr ⊢
        cases hr with
        | one e he h0 => exact ⟨e, he, rfl, .inl h0⟩
        | more e he h0 => exact ⟨e, he, rfl, .inr ((hx.2 _).2 h0)⟩
  have first : ∀ (d i : Nat), i + d = E.length → Ev (fun k => laws_FnOnward.l0 k E a x (i : Int)) true := by
    intro d
    induction d with
    | zero =>
      intro i hi
      refine Ev.step (fun k => by rw [laws_FnOnward.l0]) ?_
      refine evN (by omega) ?_
      exact second x.length 0 (by omega)
    | succ d ih =>
      intro i hi
      have hmem := rdE_mem E i (by omega)
      have wi : wrap64 ((i : Int) + 1) = ((i + 1 : Nat) : Int) := w64 (by omega) (by omega)
      refine Ev.step (fun k => by rw [laws_FnOnward.l0]) ?_
      refine evP (by omega) ?_
      refine evP (by omega) ?_
      rw [wi]
      have go := ih (i + 1) (by omega)
      refine evI (fun c1 => ?_) (fun c1 => ?_)
      · refine Ev.bind (laws_has_ev x _ (by omega)) ?_
        refine evP (decide_eq_true ((hx.2 _).2 (.one _ hmem c1))) ?_
        exact go
      · refine Ev.bind (laws_has_ev x _ (by omega)) ?_
        refine evI (fun c2 => ?_) (fun c2 => go)
        refine Ev.bind (laws_has_ev x _ (by omega)) ?_
        refine evP (decide_eq_true ((hx.2 _).2 (.more _ hmem ((hx.2 _).1 (of_decide_eq_true c2))))) ?_
        exact go
  exact first E.length 0 (by omega)

end Go.Proofs.Ytcakbhpmhekmcaa.Pure
