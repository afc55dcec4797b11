/- FnExactMayRaise: the program's MayRaise answers what the reference's answers, for all arguments (a tied card): part 14 of a proof by an executable machine over the program's code. -/
import Derived.Test.YtbkpkchegopmiaaGreatDoorMr11
import Derived.Test.YtbkpkchegopmiaaGreatDoorMr12
section
set_option linter.unusedVariables false
set_option linter.unusedSimpArgs false
namespace Go.Mach
open Go Go.RowKit
structure Ab where
  k : Int
  n : Int
  c : Int
  deriving DecidableEq
structure Fc where
  k : Int
  n : Int
  c : Int
  v : Ab
  deriving DecidableEq
def zF : Fc := ⟨0, 0, 0, ⟨0, 0, 0⟩⟩
def zA : Ab := ⟨0, 0, 0⟩
def cAb (x : Ab) : List D := [.int .i64 x.k, .int .i64 x.n, .int .i64 x.c]
def eAb (l : List Ab) : Box := l.map cAb
def cFc (x : Fc) : List D := [.int .i64 x.k, .int .i64 x.n, .int .i64 x.c, .int .i64 x.v.k, .int .i64 x.v.n, .int .i64 x.v.c]
def eFc (l : List Fc) : Box := l.map cFc
theorem len_eAb (l : List Ab) : (eAb l).length = l.length := by simp [eAb]
theorem len_eFc (l : List Fc) : (eFc l).length = l.length := by simp [eFc]
def rF (l : List Fc) (i : Int) : Fc := rdG zF l i
def rA (l : List Ab) (i : Int) : Ab := rdG zA l i
def ltF (a b : Fc) : Prop := a.k < b.k ∨ (a.k = b.k ∧ (a.n < b.n ∨ (a.n = b.n ∧ (a.c < b.c ∨ (a.c = b.c ∧ (a.v.k < b.v.k ∨ (a.v.k = b.v.k ∧ (a.v.n < b.v.n ∨ (a.v.n = b.v.n ∧ a.v.c < b.v.c)))))))))
instance (a b : Fc) : Decidable (ltF a b) := by unfold ltF; infer_instance
def ltB (a b : Fc) : Bool := decide (ltF a b)
theorem ltB_iff {a b : Fc} : ltB a b = true ↔ ltF a b := by simp [ltB]
theorem ltF_irrefl (a : Fc) : ¬ ltF a a := by unfold ltF; omega
theorem ltF_trans {a b c : Fc} (h : ltF a b) (k : ltF b c) : ltF a c := by unfold ltF at *; omega
theorem Fc.ext' {a b : Fc} (h1 : a.k = b.k) (h2 : a.n = b.n) (h3 : a.c = b.c) (h4 : a.v.k = b.v.k) (h5 : a.v.n = b.v.n) (h6 : a.v.c = b.v.c) : a = b := by
  rcases a with ⟨_, _, _, _, _, _⟩; rcases b with ⟨_, _, _, _, _, _⟩; simp_all
theorem ltF_total {a b : Fc} (h : ¬ ltF a b) (k : ¬ ltF b a) : a = b := by
  unfold ltF at *; apply Fc.ext' <;> omega
def Up (l : List Fc) : Prop := l.Pairwise ltF
def posF (l : List Fc) (f : Fc) : Nat := (l.takeWhile fun x => ltB x f).length
def ins (l : List Fc) (f : Fc) : List Fc := match l with
  | [] => [f]
  | x :: r => if ltF x f then x :: ins r f else if x = f then x :: r else f :: x :: r
def insAll (l : List Fc) (m : List Fc) : List Fc := m.foldl ins l
theorem posF_le (l : List Fc) (f : Fc) : posF l f ≤ l.length := by
  induction l with
  | nil => simp [posF]
  | cons x r ih =>
    simp only [posF, List.takeWhile_cons] at ih ⊢
    split <;> simp at ih ⊢; omega
theorem posF_cons (x : Fc) (r : List Fc) (f : Fc) : posF (x :: r) f = if ltF x f then posF r f + 1 else 0 := by
  simp only [posF, List.takeWhile_cons, ltB]
  by_cases h : ltF x f <;> simp [h]
theorem posF_lt {l : List Fc} {f : Fc} : ∀ {j : Nat}, (hj : j < posF l f) → ltF (l.getD j zF) f := by
  induction l with
  | nil => intro j hj; simp [posF] at hj
  | cons x r ih =>
    intro j hj
    rw [posF_cons] at hj
    by_cases h : ltF x f
    · cases j with
      | zero => simpa using h
      | succ j => rw [if_pos h] at hj; simpa using ih (by omega)
    · rw [if_neg h] at hj; omega
theorem posF_at {l : List Fc} {f : Fc} : posF l f < l.length → ¬ ltF (l.getD (posF l f) zF) f := by
  induction l with
  | nil => intro h; simp at h
  | cons x r ih =>
    rw [posF_cons]
    by_cases h : ltF x f
    · rw [if_pos h]; intro h2; simpa using ih (by simpa using h2)
    · rw [if_neg h]; intro _; simpa using h
theorem posF_eq {l : List Fc} {f : Fc} {k : Nat} (h0 : k ≤ l.length) (h1 : ∀ j, j < k → ltF (l.getD j zF) f) (h2 : k < l.length → ¬ ltF (l.getD k zF) f) : posF l f = k := by
  have a := posF_le l f
  rcases Nat.lt_trichotomy (posF l f) k with h | h | h
  · exact absurd (h1 _ h) (posF_at (by omega))
  · exact h
  · exact absurd (posF_lt h) (h2 (by omega))
theorem Up.get {l : List Fc} (h : Up l) {i j : Nat} (hij : i < j) (hj : j < l.length) : ltF (l.getD i zF) (l.getD j zF) := by
  have := (List.pairwise_iff_getElem.1 h) i j (by omega) hj hij
  simpa [List.getD_eq_getElem?_getD, List.getElem?_eq_getElem hj, List.getElem?_eq_getElem (show i < l.length by omega)] using this
theorem ins_eq (l : List Fc) (f : Fc) : ins l f = if posF l f < l.length ∧ l.getD (posF l f) zF = f then l else l.take (posF l f) ++ f :: l.drop (posF l f) := by
  induction l with
  | nil => simp [ins, posF]
  | cons x r ih =>
    rw [ins, posF_cons]
    by_cases h : ltF x f
    · rw [if_pos h, if_pos h, ih]
      simp only [List.length_cons, List.getD_cons_succ, List.take_succ_cons, List.drop_succ_cons, List.cons_append, Nat.add_lt_add_iff_right]
      split <;> rfl
    · rw [if_neg h, if_neg h]
      simp
theorem mem_ins {l : List Fc} {f x : Fc} : x ∈ ins l f ↔ x ∈ l ∨ x = f := by
  induction l with
  | nil => simp [ins]
  | cons y r ih =>
    rw [ins]
    split
    · simp only [List.mem_cons, ih, or_assoc]
    · split
      · rename_i h; subst h; simp only [List.mem_cons]; constructor
        · exact .inl
        · rintro (h | h); exact h; exact .inl h
      · simp only [List.mem_cons]; constructor
        · rintro (h | h | h); exact .inr h; exact .inl (.inl h); exact .inl (.inr h)
        · rintro ((h | h) | h); exact .inr (.inl h); exact .inr (.inr h); exact .inl h
theorem Up.ins {l : List Fc} (h : Up l) (f : Fc) : Up (ins l f) := by
  induction l with
  | nil => simp [Mach.ins, Up]
  | cons y r ih =>
    have h' := List.pairwise_cons.1 h
    rw [Mach.ins]
    split
    · rename_i hy
      refine List.pairwise_cons.2 ⟨fun x hx => ?_, ih h'.2⟩
      rcases mem_ins.1 hx with hx | rfl
      · exact h'.1 x hx
      · exact hy
    · split
      · exact h
      · rename_i h1 h2
        have hf : ltF f y := Classical.byContradiction fun hn => h2 (ltF_total h1 hn)
        refine List.pairwise_cons.2 ⟨fun x hx => ?_, h⟩
        rcases List.mem_cons.1 hx with rfl | hx
        · exact hf
        · exact ltF_trans hf (h'.1 x hx)
theorem len_ins (l : List Fc) (f : Fc) : l.length ≤ (ins l f).length ∧ (ins l f).length ≤ l.length + 1 := by
  induction l with
  | nil => simp [ins]
  | cons y r ih => rw [ins]; repeat' split
                   all_goals simp only [List.length_cons]; omega
theorem mem_insAll {l m : List Fc} {x : Fc} : x ∈ insAll l m ↔ x ∈ l ∨ x ∈ m := by
  induction m generalizing l with
  | nil => simp [insAll]
  | cons y m ih => rw [insAll, List.foldl_cons, ← insAll, ih, mem_ins, List.mem_cons, or_assoc]
theorem Up.insAll {l : List Fc} (h : Up l) (m : List Fc) : Up (insAll l m) := by
  induction m generalizing l with
  | nil => exact h
  | cons y m ih => rw [Mach.insAll, List.foldl_cons, ← Mach.insAll]; exact ih (h.ins y)
theorem len_insAll (l m : List Fc) : l.length ≤ (insAll l m).length ∧ (insAll l m).length ≤ l.length + m.length := by
  induction m generalizing l with
  | nil => simp [insAll]
  | cons y m ih => rw [insAll, List.foldl_cons, ← insAll]; have := ih (ins l y); have := len_ins l y; simp; omega
theorem insAll_append (l m n : List Fc) : insAll l (m ++ n) = insAll (insAll l m) n := by simp [insAll]
theorem insAll_one (l : List Fc) (f : Fc) : insAll l [f] = ins l f := rfl
theorem insAll_nil (l : List Fc) : insAll l [] = l := rfl
theorem Up.ext {l m : List Fc} (hl : Up l) (hm : Up m) (h : ∀ x, x ∈ l ↔ x ∈ m) : l = m := by
  induction l generalizing m with
  | nil => cases m with
    | nil => rfl
    | cons y m => exact absurd ((h y).2 List.mem_cons_self) (by simp)
  | cons x l ih => cases m with
    | nil => exact absurd ((h x).1 List.mem_cons_self) (by simp)
    | cons y m =>
      have hl' := List.pairwise_cons.1 hl
      have hm' := List.pairwise_cons.1 hm
      have e : x = y := by
        rcases List.mem_cons.1 ((h x).1 List.mem_cons_self) with e | e
        · exact e
        · rcases List.mem_cons.1 ((h y).2 List.mem_cons_self) with e2 | e2
          · exact e2.symm
          · exact absurd (ltF_trans (hl'.1 y e2) (hm'.1 x e)) (ltF_irrefl _)
      subst e
      congr 1
      refine ih hl'.2 hm'.2 fun z => ⟨fun hz => ?_, fun hz => ?_⟩
      · rcases List.mem_cons.1 ((h z).1 (List.mem_cons_of_mem _ hz)) with e | e
        · subst e; exact absurd (hl'.1 z hz) (ltF_irrefl _)
        · exact e
      · rcases List.mem_cons.1 ((h z).2 (List.mem_cons_of_mem _ hz)) with e | e
        · subst e; exact absurd (hm'.1 z hz) (ltF_irrefl _)
        · exact e
def hasKey (k n c : Int) (f : Fc) : Bool := f.k == k && (f.n == n && f.c == c)
def vals (l : List Fc) (k n c : Int) : List Ab := (l.filter (hasKey k n c)).map (·.v)
def mapF (vs : List Ab) (tk tn tc : Int) : List Fc := vs.map fun v => ⟨tk, tn, tc, v⟩
def flowL (l : List Fc) (fk fn fc tk tn tc : Int) : List Fc := mapF (vals l fk fn fc) tk tn tc
theorem mem_vals {l : List Fc} {k n c : Int} {v : Ab} : v ∈ vals l k n c ↔ (⟨k, n, c, v⟩ : Fc) ∈ l := by
  simp only [vals, List.mem_map, List.mem_filter, hasKey, Bool.and_eq_true, beq_iff_eq]
  constructor
  · rintro ⟨f, ⟨hf, h1, h2, h3⟩, rfl⟩
    rcases f with ⟨a, b, d, w⟩
    simp only at h1 h2 h3
    subst h1 h2 h3
    exact hf
  · intro h
    exact ⟨_, ⟨h, rfl, rfl, rfl⟩, rfl⟩
theorem len_vals (l : List Fc) (k n c : Int) : (vals l k n c).length ≤ l.length := by
  simp only [vals, List.length_map]; exact List.length_filter_le _ _
end Go.Mach
namespace Go.Mach
theorem tdiv2 {a : Int} (h : 0 ≤ a) : a.tdiv 2 = a / 2 := Int.tdiv_eq_ediv_of_nonneg h
theorem rF_eq (l : List Fc) (i : Int) (h : 0 ≤ i) : rF l i = l.getD i.toNat zF := rfl
theorem bs_lo {l : List Fc} {f : Fc} (hu : Up l) {m : Int} (h0 : 0 ≤ m) (hm : m < l.length) (h : ltF (rF l m) f) : ∀ j : Nat, (j : Int) < m + 1 → ltF (l.getD j zF) f := fun j hj => by
  by_cases e : (j : Int) = m
  · have : j = m.toNat := by omega
    subst this; exact h
  · exact ltF_trans (hu.get (j := m.toNat) (by omega) (by omega)) h
theorem bs_hi {l : List Fc} {f : Fc} (hu : Up l) {m : Int} (h0 : 0 ≤ m) (hm : m < l.length) (h : ¬ ltF (rF l m) f) : ∀ j : Nat, m ≤ j → j < l.length → ¬ ltF (l.getD j zF) f := fun j hj hl hlt => by
  by_cases e : (j : Int) = m
  · have : j = m.toNat := by omega
    subst this; exact h hlt
  · exact h (ltF_trans (hu.get (i := m.toNat) (by omega) hl) hlt)
theorem bs_end {l : List Fc} {f : Fc} {a b : Int} (h0 : 0 ≤ a) (hab : b ≤ a) (hba : a ≤ b) (hb : b ≤ l.length) (h1 : ∀ j : Nat, (j : Int) < a → ltF (l.getD j zF) f) (h2 : ∀ j : Nat, b ≤ j → j < l.length → ¬ ltF (l.getD j zF) f) : a = (posF l f : Int) := by
  have : posF l f = a.toNat := posF_eq (by omega) (fun j hj => h1 j (by omega)) (fun h => h2 _ (by omega) h)
  omega
end Go.Mach
namespace Go.Mach
theorem ins_found {l : List Fc} {f y : Fc} {v : Int} (hv : ((posF l f : Nat) : Int) = v) (hlt : v < l.length) (hy : rF l v = y) (e : y = f) : ins l f = l := by
  rw [ins_eq, if_pos]
  subst hv
  exact ⟨by omega, hy.trans e⟩
theorem ins_put {l : List Fc} {f : Fc} {v : Int} (hv : ((posF l f : Nat) : Int) = v) (h : v < l.length → rF l v ≠ f) : ins l f = l.take v.toNat ++ f :: l.drop v.toNat := by
  subst hv
  rw [ins_eq, if_neg]
  · rw [Int.toNat_natCast]
  · rintro ⟨h1, h2⟩
    exact h (by omega) h2
end Go.Mach
namespace Go.Mach
theorem vals_start {l : List Fc} (hu : Up l) (hp : ∀ f ∈ l, 0 ≤ f.v.k) {k n c : Int} : (0 : Int) ≤ ((posF l ⟨k, n, c, ⟨-1, 0, 0⟩⟩ : Nat) : Int) ∧ ((posF l ⟨k, n, c, ⟨-1, 0, 0⟩⟩ : Nat) : Int) ≤ l.length ∧
    ([] : List Ab) = vals (l.take ((posF l ⟨k, n, c, ⟨-1, 0, 0⟩⟩ : Nat) : Int).toNat) k n c ∧ (∀ j : Nat, j < l.length → ((posF l ⟨k, n, c, ⟨-1, 0, 0⟩⟩ : Nat) : Int) ≤ j → ltF ⟨k, n, c, ⟨-1, 0, 0⟩⟩ (l.getD j zF)) := by
  have hm : ∀ j : Nat, j < l.length → l.getD j zF ∈ l := fun j hj => by rw [List.getD_eq_getElem?_getD, List.getElem?_eq_getElem hj]; exact List.getElem_mem hj
  refine ⟨by omega, by have := posF_le l ⟨k, n, c, ⟨-1, 0, 0⟩⟩; omega, ?_, fun j hj hk => ?_⟩
  · rw [Int.toNat_natCast]
    symm
    rw [vals, List.map_eq_nil_iff, List.filter_eq_nil_iff]
    intro f hf
    obtain ⟨j, hj, rfl⟩ := List.mem_take_iff_getElem.1 hf
    have h1 := posF_lt (l := l) (f := ⟨k, n, c, ⟨-1, 0, 0⟩⟩) (j := j) (by omega)
    have h2 := hm j (by omega)
    have h3 := hp _ h2
    rw [List.getD_eq_getElem?_getD, List.getElem?_eq_getElem (show j < l.length by omega), Option.getD_some] at h1 h3
    simp only [hasKey, Bool.and_eq_true, beq_iff_eq]
    rintro ⟨e1, e2, e3⟩
    unfold ltF at h1
    simp only [e1, e2, e3] at h1
    omega
  · have hl : posF l ⟨k, n, c, ⟨-1, 0, 0⟩⟩ < l.length := by omega
    have h2 := posF_at (l := l) (f := ⟨k, n, c, ⟨-1, 0, 0⟩⟩) hl
    have h3 := hp _ (hm _ hl)
    have h4 : ltF ⟨k, n, c, ⟨-1, 0, 0⟩⟩ (l.getD (posF l ⟨k, n, c, ⟨-1, 0, 0⟩⟩) zF) := Classical.byContradiction fun h => by
      have e := ltF_total h2 h
      rw [e] at h3
      exact absurd h3 (by show ¬ (0 : Int) ≤ -1; omega)
    by_cases e : posF l ⟨k, n, c, ⟨-1, 0, 0⟩⟩ = j
    · rw [e] at h4; exact h4
    · exact ltF_trans h4 (hu.get (by omega) hj)
theorem vals_take_succ {l : List Fc} {i : Int} (h0 : 0 ≤ i) (hi : i < l.length) (k n c : Int) : vals (l.take (i + 1).toNat) k n c = vals (l.take i.toNat) k n c ++ if hasKey k n c (rF l i) then [(rF l i).v] else [] := by
  have h : i.toNat < l.length := by omega
  rw [show (i + 1).toNat = i.toNat + 1 by omega, List.take_succ_eq_append_getElem h]
  simp only [vals, List.filter_append, List.map_append]
  congr 1
  have : rF l i = l[i.toNat] := by simp [rF, rdG, List.getD_eq_getElem?_getD, List.getElem?_eq_getElem h]
  rw [this]
  by_cases hk : hasKey k n c l[i.toNat] <;> simp [hk]
theorem vals_end {l : List Fc} {k n c i : Int} (h0 : 0 ≤ i) (hi : i ≤ l.length) (hu : Up l) (h : ∀ j : Nat, j < l.length → i ≤ j → ltF ⟨k, n, c, ⟨-1, 0, 0⟩⟩ (l.getD j zF)) (he : i = l.length ∨ (i < l.length ∧ ¬ ((rF l i).k = k ∧ (rF l i).n = n ∧ (rF l i).c = c))) : vals (l.take i.toNat) k n c = vals l k n c := by
  rcases he with rfl | ⟨he, hn⟩
  · rw [Int.toNat_natCast, List.take_length]
  · conv => rhs; rw [← List.take_append_drop i.toNat l]
    simp only [vals, List.filter_append, List.map_append]
    symm
    rw [List.append_right_eq_self, List.map_eq_nil_iff, List.filter_eq_nil_iff]
    intro f hf
    obtain ⟨j, hj, rfl⟩ := List.mem_drop_iff_getElem.1 hf
    have h1 := h i.toNat (by omega) (by omega)
    have h2 : ltF (l.getD i.toNat zF) (l.getD (i.toNat + j) zF) ∨ l.getD i.toNat zF = l.getD (i.toNat + j) zF := by
      by_cases e : j = 0
      · subst e; exact .inr rfl
      · exact .inl (hu.get (by omega) (by omega))
    have e3 : l.getD (i.toNat + j) zF = l[i.toNat + j] := by rw [List.getD_eq_getElem?_getD, List.getElem?_eq_getElem (show i.toNat + j < l.length by omega), Option.getD_some]
    rw [← e3]
    have e4 : rF l i = l.getD i.toNat zF := rfl
    rw [e4] at hn
    generalize l.getD i.toNat zF = x at *
    generalize l.getD (i.toNat + j) zF = y at *
    simp only [hasKey, Bool.and_eq_true, beq_iff_eq]
    rintro ⟨a1, a2, a3⟩
    rcases h2 with h2 | rfl
    · unfold ltF at h1 h2
      dsimp only at h1
      omega
    · exact hn ⟨a1, a2, a3⟩
end Go.Mach
namespace Go.Mach
theorem rF_mem {l : List Fc} {i : Int} (h0 : 0 ≤ i) (h1 : i < l.length) : rF l i ∈ l := rdG_mem h0 h1
end Go.Mach
namespace Go.Mach
theorem take_succG {α : Type} (z : α) {l : List α} {i : Int} (h0 : 0 ≤ i) (hi : i < l.length) : l.take (i + 1).toNat = l.take i.toNat ++ [rdG z l i] := by
  have h : i.toNat < l.length := by omega
  rw [show (i + 1).toNat = i.toNat + 1 by omega, List.take_succ_eq_append_getElem h]
  simp [rdG, List.getD_eq_getElem?_getD, List.getElem?_eq_getElem h]
theorem take_allG {α : Type} {l : List α} {i : Int} (h : l.length ≤ i) : l.take i.toNat = l := List.take_of_length_le (by omega)
theorem len_mapF (vs : List Ab) (a b c : Int) : (mapF vs a b c).length = vs.length := by simp [mapF]
theorem mapF_succ {vs : List Ab} {i : Int} (h0 : 0 ≤ i) (hi : i < vs.length) (a b c : Int) : mapF (vs.take (i + 1).toNat) a b c = mapF (vs.take i.toNat) a b c ++ [⟨a, b, c, rA vs i⟩] := by
  rw [take_succG zA h0 hi]; simp [mapF, rA]
theorem len_flowL (l : List Fc) (a b c d e f : Int) : (flowL l a b c d e f).length = (vals l a b c).length := by simp [flowL, mapF]
theorem anyB_iff {b : Bool} {vs : List Ab} (h : decide (0 < (vs.length : Int)) = b) : (!vs.isEmpty) = b := by
  subst h; cases vs <;> simp <;> omega
end Go.Mach
namespace Go.Mach
theorem flatMap_succ {α : Type} (g : α → List Fc) (z : α) {l : List α} {i : Int} (h0 : 0 ≤ i) (hi : i < l.length) : (l.take (i + 1).toNat).flatMap g = (l.take i.toNat).flatMap g ++ g (rdG z l i) := by
  rw [take_succG z h0 hi, List.flatMap_append]; simp
theorem len_flatMap_take {α : Type} (g : α → List Fc) (l : List α) (n : Nat) : ((l.take n).flatMap g).length ≤ (l.flatMap g).length := by
  conv => rhs; rw [← List.take_append_drop n l, List.flatMap_append, List.length_append]
  omega
theorem len_flatMap_succ {α : Type} (g : α → List Fc) (z : α) {l : List α} {i : Int} (h0 : 0 ≤ i) (hi : i < l.length) : ((l.take i.toNat).flatMap g).length + (g (rdG z l i)).length ≤ (l.flatMap g).length := by
  have h := len_flatMap_take g l (i + 1).toNat
  rw [flatMap_succ g z h0 hi, List.length_append] at h
  omega
end Go.Mach
end
section
set_option linter.unusedVariables false
set_option linter.unusedSimpArgs false
namespace Go.Mach
open Go Go.RowKit
structure Nd where
  f0 : Int
  f1 : Int
  f2 : Int
  f3 : Int
  f4 : Int
  f5 : ByteArray
  f6 : ByteArray
structure LNd where
  f0 : Int
  f1 : Int
  f2 : Int
  f3 : Int
  f4 : Int
  f5 : ByteArray
  f6 : ByteArray
structure Bd where
  f0 : Int
  f1 : Int
  deriving DecidableEq
structure Ed where
  f0 : Int
  f1 : Int
  deriving DecidableEq
structure Plc where
  k : Int
  n : Int
  c : Int
def zNd : Nd := ⟨0, 0, 0, 0, 0, ⟨#[]⟩, ⟨#[]⟩⟩
def zLNd : LNd := ⟨0, 0, 0, 0, 0, ⟨#[]⟩, ⟨#[]⟩⟩
def zBd : Bd := ⟨0, 0⟩
def zEd : Ed := ⟨0, 0⟩
def cNd (x : Nd) : List D := [.int .i64 x.f0, .int .i64 x.f1, .int .i64 x.f2, .int .i64 x.f3, .int .i64 x.f4, .str x.f5, .str x.f6]
def cLNd (x : LNd) : List D := [.int .i64 x.f0, .int .i64 x.f1, .int .i64 x.f2, .int .i64 x.f3, .int .i64 x.f4, .str x.f5, .str x.f6]
def cBd (x : Bd) : List D := [.int .i64 x.f0, .int .i64 x.f1]
def cEd (x : Ed) : List D := [.int .i64 x.f0, .int .i64 x.f1]
def eNd (l : List Nd) : Box := l.map cNd
def eLNd (l : List LNd) : Box := l.map cLNd
def eBd (l : List Bd) : Box := l.map cBd
def eEd (l : List Ed) : Box := l.map cEd
def eLBd (l : List (List Bd)) : Box := l.map fun b => [.sl .ro 2 (eBd b)]
theorem len_eNd (l : List Nd) : (eNd l).length = l.length := by simp [eNd]
theorem len_eLNd (l : List LNd) : (eLNd l).length = l.length := by simp [eLNd]
theorem len_eBd (l : List Bd) : (eBd l).length = l.length := by simp [eBd]
theorem len_eEd (l : List Ed) : (eEd l).length = l.length := by simp [eEd]
theorem len_eLBd (l : List (List Bd)) : (eLBd l).length = l.length := by simp [eLBd]
def rN (l : List Nd) (i : Int) : Nd := rdG zNd l i
def rB (l : List Bd) (i : Int) : Bd := rdG zBd l i
def rE (l : List Ed) (i : Int) : Ed := rdG zEd l i
def rI (l : List Int) (i : Int) : Int := rdG 0 l i
def rS (l : List ByteArray) (i : Int) : ByteArray := rdG ByteArray.empty l i
def rLB (l : List (List Bd)) (i : Int) : List Bd := rdG [] l i
section
variable {E : Env} {Q : X → S → Prop} {o : Std} {i : Int} {k : List D → T}
theorem Den.fetchXFc (ho : o = std) {l : List Fc} (h0 : 0 ≤ i) (h1 : i < l.length) (h : ∀ y, rF l i = y → Den E (k (cFc y)) Q) : Den E (.fetch (o.bx fun _ => eFc l) i k) Q := Den.fetchG ho zF cFc h0 h1 h
theorem Den.fetchYFc (ho : o = std) {l : List Fc} {y : Fc} (h0 : 0 ≤ i) (h1 : i < l.length) (hy : rF l i = y) (h : Den E (k (cFc y)) Q) : Den E (.fetch (o.bx fun _ => eFc l) i k) Q := Den.fetchXFc ho h0 h1 fun y' hy' => by rw [← hy', hy]; exact h
theorem Den.fetchXAb (ho : o = std) {l : List Ab} (h0 : 0 ≤ i) (h1 : i < l.length) (h : ∀ y, rA l i = y → Den E (k (cAb y)) Q) : Den E (.fetch (o.bx fun _ => eAb l) i k) Q := Den.fetchG ho zA cAb h0 h1 h
theorem Den.fetchYAb (ho : o = std) {l : List Ab} {y : Ab} (h0 : 0 ≤ i) (h1 : i < l.length) (hy : rA l i = y) (h : Den E (k (cAb y)) Q) : Den E (.fetch (o.bx fun _ => eAb l) i k) Q := Den.fetchXAb ho h0 h1 fun y' hy' => by rw [← hy', hy]; exact h
theorem Den.fetchXNd (ho : o = std) {l : List Nd} (h0 : 0 ≤ i) (h1 : i < l.length) (h : ∀ y, rN l i = y → Den E (k (cNd y)) Q) : Den E (.fetch (o.bx fun _ => eNd l) i k) Q := Den.fetchG ho zNd cNd h0 h1 h
theorem Den.fetchYNd (ho : o = std) {l : List Nd} {y : Nd} (h0 : 0 ≤ i) (h1 : i < l.length) (hy : rN l i = y) (h : Den E (k (cNd y)) Q) : Den E (.fetch (o.bx fun _ => eNd l) i k) Q := Den.fetchXNd ho h0 h1 fun y' hy' => by rw [← hy', hy]; exact h
theorem Den.fetchXLNd (ho : o = std) {l : List LNd} (h0 : 0 ≤ i) (h1 : i < l.length) (h : ∀ y, rdG zLNd l i = y → Den E (k (cLNd y)) Q) : Den E (.fetch (o.bx fun _ => eLNd l) i k) Q := Den.fetchG ho zLNd cLNd h0 h1 h
theorem Den.fetchYLNd (ho : o = std) {l : List LNd} {y : LNd} (h0 : 0 ≤ i) (h1 : i < l.length) (hy : rdG zLNd l i = y) (h : Den E (k (cLNd y)) Q) : Den E (.fetch (o.bx fun _ => eLNd l) i k) Q := Den.fetchXLNd ho h0 h1 fun y' hy' => by rw [← hy', hy]; exact h
theorem Den.fetchXBd (ho : o = std) {l : List Bd} (h0 : 0 ≤ i) (h1 : i < l.length) (h : ∀ y, rB l i = y → Den E (k (cBd y)) Q) : Den E (.fetch (o.bx fun _ => eBd l) i k) Q := Den.fetchG ho zBd cBd h0 h1 h
theorem Den.fetchYBd (ho : o = std) {l : List Bd} {y : Bd} (h0 : 0 ≤ i) (h1 : i < l.length) (hy : rB l i = y) (h : Den E (k (cBd y)) Q) : Den E (.fetch (o.bx fun _ => eBd l) i k) Q := Den.fetchXBd ho h0 h1 fun y' hy' => by rw [← hy', hy]; exact h
theorem Den.fetchXEd (ho : o = std) {l : List Ed} (h0 : 0 ≤ i) (h1 : i < l.length) (h : ∀ y, rE l i = y → Den E (k (cEd y)) Q) : Den E (.fetch (o.bx fun _ => eEd l) i k) Q := Den.fetchG ho zEd cEd h0 h1 h
theorem Den.fetchYEd (ho : o = std) {l : List Ed} {y : Ed} (h0 : 0 ≤ i) (h1 : i < l.length) (hy : rE l i = y) (h : Den E (k (cEd y)) Q) : Den E (.fetch (o.bx fun _ => eEd l) i k) Q := Den.fetchXEd ho h0 h1 fun y' hy' => by rw [← hy', hy]; exact h
theorem Den.fetchXK (ho : o = std) {kd : IntKind} {l : List Int} (h0 : 0 ≤ i) (h1 : i < l.length) (h : ∀ y, rI l i = y → Den E (k [.int kd y]) Q) : Den E (.fetch (o.bx fun _ => eK kd l) i k) Q := Den.fetchG ho 0 (fun x => [.int kd x]) h0 h1 h
theorem Den.fetchYK (ho : o = std) {kd : IntKind} {l : List Int} {y : Int} (h0 : 0 ≤ i) (h1 : i < l.length) (hy : rI l i = y) (h : Den E (k [.int kd y]) Q) : Den E (.fetch (o.bx fun _ => eK kd l) i k) Q := Den.fetchXK ho h0 h1 fun y' hy' => by rw [← hy', hy]; exact h
theorem Den.fetchXB (ho : o = std) {l : List ByteArray} (h0 : 0 ≤ i) (h1 : i < l.length) (h : ∀ y, rS l i = y → Den E (k [.str y]) Q) : Den E (.fetch (o.bx fun _ => eB l) i k) Q := Den.fetchG ho ByteArray.empty (fun x => [.str x]) h0 h1 h
theorem Den.fetchYB (ho : o = std) {l : List ByteArray} {y : ByteArray} (h0 : 0 ≤ i) (h1 : i < l.length) (hy : rS l i = y) (h : Den E (k [.str y]) Q) : Den E (.fetch (o.bx fun _ => eB l) i k) Q := Den.fetchXB ho h0 h1 fun y' hy' => by rw [← hy', hy]; exact h
theorem Den.fetchXLBd (ho : o = std) {l : List (List Bd)} (h0 : 0 ≤ i) (h1 : i < l.length) (h : ∀ y, rLB l i = y → Den E (k [.sl .ro 2 (o.bx fun _ => eBd y)]) Q) : Den E (.fetch (o.bx fun _ => eLBd l) i k) Q := by
  subst ho; exact Den.fetchG rfl [] (fun b => [.sl .ro 2 (eBd b)]) h0 h1 h
theorem Den.fetchYLBd (ho : o = std) {l : List (List Bd)} {y : List Bd} (h0 : 0 ≤ i) (h1 : i < l.length) (hy : rLB l i = y) (h : Den E (k [.sl .ro 2 (o.bx fun _ => eBd y)]) Q) : Den E (.fetch (o.bx fun _ => eLBd l) i k) Q := Den.fetchXLBd ho h0 h1 fun y' hy' => by rw [← hy', hy]; exact h
end
theorem push_eAb {a b : List Ab} {x : Ab} (h : b = a ++ [x]) : std.app (eAb a) [cAb x] = eAb b := by subst h; simp [std, eAb]
theorem push_eFc {a b : List Fc} {x : Fc} (h : b = a ++ [x]) : std.app (eFc a) [cFc x] = eFc b := by subst h; simp [std, eFc]
theorem push_eBd {a b : List Bd} {x : Bd} (h : b = a ++ [x]) : std.app (eBd a) [cBd x] = eBd b := by subst h; simp [std, eBd]
theorem push_eK {k : IntKind} {a b : List Int} {x : Int} (h : b = a ++ [x]) : std.app (eK k a) [[.int k x]] = eK k b := by subst h; simp [std, eK]
theorem push_eB {a b : List ByteArray} {x : ByteArray} (h : b = a ++ [x]) : std.app (eB a) [[.str x]] = eB b := by subst h; simp [std, eB]
theorem tdivN {a b : Int} (h : 0 ≤ a) : a.tdiv b = a / b := Int.tdiv_eq_ediv_of_nonneg h
theorem dI {k : IntKind} {a b : Int} (h : a = b) : D.int k a = D.int k b := by rw [h]
theorem dB {a b : Bool} (h : a = b) : D.bool a = D.bool b := by rw [h]
end Go.Mach
namespace Go.Mach
theorem dBi {p q : Prop} {i1 : Decidable p} {i2 : Decidable q} (h : p ↔ q) : D.bool (@decide p i1) = D.bool (@decide q i2) := by
  congr 1; by_cases hp : p
  · rw [decide_eq_true hp, decide_eq_true (h.1 hp)]
  · rw [decide_eq_false hp, decide_eq_false (fun hq => hp (h.2 hq))]
theorem dBt {b : Bool} {p : Prop} {i : Decidable p} (h : b = true ↔ p) : D.bool b = D.bool (@decide p i) := by
  congr 1; by_cases hp : p
  · rw [decide_eq_true hp, h.2 hp]
  · rw [decide_eq_false hp]; cases b
    · rfl
    · exact absurd (h.1 rfl) hp
end Go.Mach
end
section
set_option linter.unusedVariables false
set_option linter.unusedSimpArgs false
namespace Go.Mach
open Go Go.RowKit
structure Pr where
  l : List Nd
  bind : List Bd
  outer : List (List Bd)
  depth : Int
def ctxPush (ctx site depth : Int) : Int :=
  if 0 ≤ ctx ∧ ctx ≤ 22800 ∧ 0 ≤ site ∧ site ≤ 149 then (if depth = 1 then (site + 1) * 151 else if depth = 2 then (site + 1) * 151 + ctx / 151 else 0) else 0
def lamB (x : Nd) : Bool := x.f0 == 3 || x.f0 == 6
def parm (x : Nd) : Int := if x.f0 = 6 then 1 else 0
def seeL (i c : Int) : List Fc := [⟨6, i, c, ⟨0, 0, 0⟩⟩]
def anyB (fs : List Fc) (k n c : Int) : Bool := !(vals fs k n c).isEmpty
def kindB (fs : List Fc) (n c kd : Int) : Bool := (vals fs 0 n c).any fun v => v.k == kd
def riseL (b : Bool) (i c : Int) : List Fc := if b then [⟨7, i, c, ⟨0, 0, 0⟩⟩] else []
def part1 (fs : List Fc) (c kind part tk tn : Int) (v : Ab) : List Fc := if v.k = kind then flowL fs part v.n v.c tk tn c else []
def partsL (fs : List Fc) (kid c kind part tk tn : Int) : List Fc := (vals fs 0 kid c).flatMap (part1 fs c kind part tk tn)
def outer1 (fs : List Fc) (ctx to : Int) (b : Bd) : List Fc := flowL fs (1 + b.f1) b.f0 ctx (1 + b.f1) b.f0 to
def call1S (p : Pr) (fs : List Fc) (i c : Int) (nd : Nd) (v : Ab) : List Fc :=
  if v.k = 1 ∧ anyB fs 0 nd.f2 c = true then
    flowL fs 0 nd.f2 c (1 + parm (rN p.l v.n)) v.n (ctxPush c i p.depth) ++ (rLB p.outer v.n).flatMap (outer1 fs v.c (ctxPush c i p.depth)) ++
      seeL (rN p.l v.n).f1 (ctxPush c i p.depth) ++ flowL fs 0 (rN p.l v.n).f1 (ctxPush c i p.depth) 0 i c ++ riseL (anyB fs 7 (rN p.l v.n).f1 (ctxPush c i p.depth)) i c
  else []
def callS (p : Pr) (fs : List Fc) (i c : Int) : List Fc := (vals fs 0 (rN p.l i).f1 c).flatMap (call1S p fs i c (rN p.l i))
def setS1 (fs : List Fc) (n2 c : Int) (r : Ab) : List Fc := if r.k = 5 then flowL fs 0 n2 c 5 r.n r.c else []
def twoS (p : Pr) (fs : List Fc) (i c : Int) : List Fc :=
  let n := rN p.l i
  (if anyB fs 0 n.f1 c then seeL n.f2 c else []) ++
  (if n.f0 = 4 then callS p fs i c
   else if anyB fs 0 n.f1 c = true ∧ anyB fs 0 n.f2 c = true then
    (if n.f0 = 9 ∨ n.f0 = 13 then flowL fs 0 n.f1 c 3 i c ++ flowL fs 0 n.f2 c 4 i c else []) ++
    (if n.f0 = 17 then (vals fs 0 n.f1 c).flatMap (setS1 fs n.f2 c) else []) ++
    [⟨0, i, c, if n.f0 = 13 then ⟨4, i, c⟩ else if n.f0 = 9 then ⟨3, i, c⟩ else ⟨0, 0, 0⟩⟩]
   else [])
def oneS (p : Pr) (fs : List Fc) (i c : Int) : List Fc :=
  let n := rN p.l i
  if n.f0 = 5 then (if anyB fs 0 n.f1 c then seeL n.f2 c else []) ++ flowL fs 0 n.f1 c 1 i c ++ flowL fs 0 n.f2 c 0 i c
  else if n.f0 = 7 then (if kindB fs n.f1 c 0 then seeL n.f2 c ++ seeL n.f3 c else []) ++ flowL fs 0 n.f2 c 0 i c ++ flowL fs 0 n.f3 c 0 i c
  else if n.f0 = 14 then (if kindB fs n.f1 c 2 then seeL n.f2 c else []) ++ (if kindB fs n.f1 c 4 then seeL n.f3 c else []) ++ partsL fs n.f1 c 4 3 1 i ++ partsL fs n.f1 c 4 4 2 i ++ flowL fs 0 n.f2 c 0 i c ++ flowL fs 0 n.f3 c 0 i c
  else if n.f0 = 10 then partsL fs n.f1 c 3 3 0 i
  else if n.f0 = 11 then partsL fs n.f1 c 3 4 0 i
  else if n.f0 = 16 then partsL fs n.f1 c 5 5 0 i
  else if n.f0 = 15 then (if anyB fs 0 n.f1 c then [⟨0, i, c, ⟨5, i, c⟩⟩] else []) ++ flowL fs 0 n.f1 c 5 i c
  else if n.f0 = 18 then riseL (kindB fs n.f1 c 0) i c
  else if n.f0 = 19 then (if anyB fs 7 n.f1 c then seeL n.f2 c ++ [⟨1, i, c, ⟨0, 0, 0⟩⟩] else []) ++ flowL fs 0 n.f1 c 0 i c ++ flowL fs 0 n.f2 c 0 i c
  else []
def arityM (t : Int) : Nat := if t = 3 ∨ t = 10 ∨ t = 11 ∨ t = 15 ∨ t = 16 ∨ t = 18 then 1 else if t = 4 ∨ t = 5 ∨ t = 6 ∨ t = 8 ∨ t = 9 ∨ t = 13 ∨ t = 17 ∨ t = 19 then 2 else if t = 7 ∨ t = 14 then 3 else 0
def kidsM (n : Nd) : List Int := [n.f1, n.f2, n.f3].take (arityM n.f0)
def kidR1 (fs : List Fc) (t i c : Int) (x : Int × Nat) : List Fc := riseL (anyB fs 7 x.1 c && !(t == 19 && x.2 == 0)) i c
def kidRiseS (fs : List Fc) (n : Nd) (i c : Int) : List Fc := (kidsM n).zipIdx.flatMap (kidR1 fs n.f0 i c)
def nodeS (p : Pr) (fs : List Fc) (i c : Int) : List Fc :=
  let n := rN p.l i
  if n.f0 = 1 then flowL fs (1 + (rB p.bind i).f1) (rB p.bind i).f0 c 0 i c
  else if n.f0 = 2 then [⟨0, i, c, ⟨0, 0, 0⟩⟩]
  else if n.f0 = 12 then [⟨0, i, c, ⟨2, 0, 0⟩⟩]
  else if n.f0 = 3 then [⟨0, i, c, ⟨1, i, c⟩⟩]
  else if n.f0 = 6 then [⟨1, i, c, ⟨1, i, c⟩⟩] ++ seeL n.f2 c ++ flowL fs 0 n.f2 c 0 i c ++ riseL (anyB fs 7 n.f2 c) i c
  else seeL n.f1 c ++ kidRiseS fs n i c ++ (if n.f0 = 4 ∨ n.f0 = 8 ∨ n.f0 = 9 ∨ n.f0 = 13 ∨ n.f0 = 17 then twoS p fs i c else oneS p fs i c)
def pass1S (p : Pr) (fs : List Fc) (f : Fc) : List Fc := if f.k = 6 then nodeS p fs f.n f.c else []
def passS (p : Pr) (fs : List Fc) : List Fc := insAll fs (fs.flatMap (pass1S p fs))
structure Old (p : Pr) (old : List Fc) : Prop where
  up : Up old
  pos : ∀ f ∈ old, 0 ≤ f.v.k
  len : old.length ≤ 2500
  val : ∀ f ∈ old, 0 ≤ f.v.n ∧ f.v.n < p.l.length
  node : ∀ f ∈ old, 0 ≤ f.n ∧ f.n < p.l.length
structure PrOk (p : Pr) : Prop where
  size : p.l.length ≤ 150
  bind : p.bind.length = p.l.length
  outer : p.outer.length = p.l.length
  long : ∀ bs ∈ p.outer, bs.length ≤ 150
  roleB : ∀ b ∈ p.bind, -100000 ≤ b.f1 ∧ b.f1 ≤ 100000
  roleO : ∀ bs ∈ p.outer, ∀ b ∈ bs, -100000 ≤ b.f1 ∧ b.f1 ≤ 100000
theorem len_flatMap_le {α : Type} (g : α → List Fc) (K : Nat) (h : ∀ x, (g x).length ≤ K) (l : List α) : (l.flatMap g).length ≤ l.length * K := by
  induction l with
  | nil => simp
  | cons x l ih => simp only [List.flatMap_cons, List.length_append, List.length_cons, Nat.add_mul, Nat.one_mul]; have := h x; omega
theorem len_flow {p : Pr} {old : List Fc} (h : Old p old) (a b c d e f : Int) : (flowL old a b c d e f).length ≤ 2500 := by
  rw [len_flowL]; exact Nat.le_trans (len_vals _ _ _ _) h.len
theorem len_valsO {p : Pr} {old : List Fc} (h : Old p old) (a b c : Int) : (vals old a b c).length ≤ 2500 := Nat.le_trans (len_vals _ _ _ _) h.len
theorem len_rise (b : Bool) (i c : Int) : (riseL b i c).length ≤ 1 := by unfold riseL; split <;> simp
theorem len_rLB {p : Pr} (h : PrOk p) (i : Int) : (rLB p.outer i).length ≤ 150 := by
  unfold rLB rdG
  by_cases hi : i.toNat < p.outer.length
  · rw [List.getD_eq_getElem?_getD, List.getElem?_eq_getElem hi]; exact h.long _ (List.getElem_mem hi)
  · rw [List.getD_eq_getElem?_getD, List.getElem?_eq_none (by omega)]; simp
theorem len_outer1 {p : Pr} {old : List Fc} (ho : Old p old) (ctx to : Int) (bs : List Bd) (hb : bs.length ≤ 150) : (bs.flatMap (outer1 old ctx to)).length ≤ 375000 := by
  have := len_flatMap_le (outer1 old ctx to) 2500 (fun x => len_flow ho _ _ _ _ _ _) bs
  omega
theorem len_call1S {p : Pr} {old : List Fc} (hp : PrOk p) (ho : Old p old) (i c : Int) (nd : Nd) (v : Ab) : (call1S p old i c nd v).length ≤ 380002 := by
  unfold call1S
  split
  · simp only [List.length_append]
    have h1 := len_flow ho 0 nd.f2 c (1 + parm (rN p.l v.n)) v.n (ctxPush c i p.depth)
    have h2 := len_outer1 ho v.c (ctxPush c i p.depth) _ (len_rLB hp v.n)
    have h3 := len_flow ho 0 (rN p.l v.n).f1 (ctxPush c i p.depth) 0 i c
    have h4 := len_rise (anyB old 7 (rN p.l v.n).f1 (ctxPush c i p.depth)) i c
    have h5 : (seeL (rN p.l v.n).f1 (ctxPush c i p.depth)).length = 1 := rfl
    omega
  · simp
theorem len_callS {p : Pr} {old : List Fc} (hp : PrOk p) (ho : Old p old) (i c : Int) : (callS p old i c).length ≤ 950005000 := by
  have h1 := len_flatMap_le _ 380002 (fun v => len_call1S hp ho i c (rN p.l i) v) (vals old 0 (rN p.l i).f1 c)
  have h2 := len_valsO ho 0 (rN p.l i).f1 c
  have h3 : (vals old 0 (rN p.l i).f1 c).length * 380002 ≤ 2500 * 380002 := Nat.mul_le_mul_right _ h2
  unfold callS
  omega
theorem len_parts {p : Pr} {old : List Fc} (ho : Old p old) (kid c kind part tk tn : Int) : (partsL old kid c kind part tk tn).length ≤ 6250000 := by
  have h1 := len_flatMap_le (part1 old c kind part tk tn) 2500 (fun v => by unfold part1; split; exact len_flow ho _ _ _ _ _ _; simp) (vals old 0 kid c)
  have h2 := len_valsO ho 0 kid c
  have h3 : (vals old 0 kid c).length * 2500 ≤ 2500 * 2500 := Nat.mul_le_mul_right _ h2
  unfold partsL
  omega
theorem Up.adds {l m : List Fc} (h : Up l) {n : List Fc} (e : Mach.insAll l m = n) : Up n := e ▸ h.insAll m
theorem adds_flow {p : Pr} {old l n : List Fc} (hO : Old p old) {a b c d e f : Int} (h : insAll l (flowL old a b c d e f) = n) : l.length ≤ n.length ∧ n.length ≤ l.length + 2500 := by
  subst h; have h1 := len_insAll l (flowL old a b c d e f); have h2 := len_flow hO a b c d e f; omega
theorem adds_see {l n : List Fc} {a b : Int} (h : insAll l (seeL a b) = n) : l.length ≤ n.length ∧ n.length ≤ l.length + 1 := by
  subst h; exact len_insAll l (seeL a b)
theorem call1S_ok {p : Pr} {old : List Fc} {i c : Int} {nd : Nd} {v : Ab} {f : Nd} {to : Int} {a1 b1 s1 t1 : List Fc} (h1 : v.k = 1) (h2 : anyB old 0 nd.f2 c = true) (hf : rN p.l v.n = f) (ht : to = ctxPush c i p.depth)
    (e1 : b1 = insAll a1 (flowL old 0 nd.f2 c (1 + parm (rN p.l v.n)) v.n to ++ (rLB p.outer v.n).flatMap (outer1 old v.c to))) (e2 : insAll b1 (seeL f.f1 to) = s1) (e3 : insAll s1 (flowL old 0 f.f1 to 0 i c) = t1) :
    insAll a1 (call1S p old i c nd v) = insAll t1 (riseL (anyB old 7 f.f1 to) i c) := by
  subst ht; subst hf; subst e3; subst e2; subst e1
  unfold call1S
  rw [if_pos ⟨h1, h2⟩]
  simp only [insAll_append]
theorem val_in {p : Pr} {old : List Fc} (hO : Old p old) {k n c : Int} {a : List Ab} {i : Int} {y : Ab} (e : a = vals old k n c) (h0 : 0 ≤ i) (h1 : i < a.length) (hy : rA a i = y) : 0 ≤ y.n ∧ y.n < p.l.length := by
  subst e; subst hy
  have h : rA (vals old k n c) i ∈ vals old k n c := rdG_mem h0 h1
  exact hO.val _ (mem_vals.1 h)
theorem role_in {p : Pr} (hP : PrOk p) {i j : Int} {b : Bd} (h0 : 0 ≤ i) (h1 : i < p.l.length) (h2 : 0 ≤ j) (h3 : j < (rLB p.outer i).length) (hy : rB (rLB p.outer i) j = b) : -100000 ≤ b.f1 ∧ b.f1 ≤ 100000 := by
  subst hy
  have h : rLB p.outer i ∈ p.outer := rdG_mem h0 (by rw [hP.outer]; exact h1)
  exact hP.roleO _ h _ (rdG_mem h2 h3)
theorem adds_call {p : Pr} {old l n : List Fc} (hP : PrOk p) (hO : Old p old) {i c : Int} (h : insAll l (callS p old i c) = n) : l.length ≤ n.length ∧ n.length ≤ l.length + 950005000 := by
  subst h; have h1 := len_insAll l (callS p old i c); have h2 := len_callS hP hO i c; omega
theorem adds_parts {p : Pr} {old l n : List Fc} (hO : Old p old) {a b c d e f : Int} (h : insAll l (partsL old a b c d e f) = n) : l.length ≤ n.length ∧ n.length ≤ l.length + 6250000 := by
  subst h; have h1 := len_insAll l (partsL old a b c d e f); have h2 := len_parts hO a b c d e f; omega
theorem adds_one {l n : List Fc} {f : Fc} (h : ins l f = n) : l.length ≤ n.length ∧ n.length ≤ l.length + 1 := by
  subst h; exact len_ins l f
theorem Up.add1 {l n : List Fc} (hu : Up l) {f : Fc} (h : Mach.ins l f = n) : Up n := h ▸ hu.ins f
theorem len_set1 {p : Pr} {old : List Fc} (ho : Old p old) (n2 c : Int) (v : Ab) : (setS1 old n2 c v).length ≤ 2500 := by
  unfold setS1; split
  · exact len_flow ho _ _ _ _ _ _
  · simp
end Go.Mach
end
section
set_option linter.unusedVariables false
set_option linter.unusedSimpArgs false
namespace Go.Mach
open Go Go.RowKit
theorem arityM_le (t : Int) : arityM t ≤ 3 := by unfold arityM; (repeat' split) <;> omega
theorem len_kidsM (n : Nd) : (kidsM n).length = arityM n.f0 := by unfold kidsM; have := arityM_le n.f0; simp; omega
theorem len_kidR1 (fs : List Fc) (t i c : Int) (x : Int × Nat) : (kidR1 fs t i c x).length ≤ 1 := len_rise _ _ _
theorem insAll_cons (l : List Fc) (f : Fc) (m : List Fc) : insAll l (f :: m) = insAll (ins l f) m := rfl
theorem role_bind {p : Pr} (hP : PrOk p) {i : Int} {b : Bd} (h : 0 ≤ i ∧ i < p.l.length) (hy : rB p.bind i = b) : -100000 ≤ b.f1 ∧ b.f1 ≤ 100000 := by
  subst hy
  exact hP.roleB _ (rdG_mem h.1 (by rw [hP.bind]; exact h.2))
theorem rd_zipIdx {l : List Int} {i : Int} (h0 : 0 ≤ i) (h1 : i < l.length) : rdG (0, 0) l.zipIdx i = (rI l i, i.toNat) := by
  have h : i.toNat < l.length := by omega
  unfold rdG rI rdG
  rw [List.getD_eq_getElem?_getD, List.getD_eq_getElem?_getD, List.getElem?_eq_getElem (by simpa using h), List.getElem?_eq_getElem h]
  simp
theorem kidR_t {old : List Fc} {a1 v : List Fc} {y0 i c y a : Int} (hb : anyB old 7 y c = true) (hk : ¬(y0 = 19 ∧ a.toNat = 0)) (hv : ins a1 ⟨7, i, c, ⟨0, 0, 0⟩⟩ = v) : v = insAll a1 (riseL (anyB old 7 (y, a.toNat).1 c && !(y0 == 19 && (y, a.toNat).2 == 0)) i c) := by
  subst hv
  have h : (anyB old 7 (y, a.toNat).1 c && !(y0 == 19 && (y, a.toNat).2 == 0)) = true := by
    simp only [hb, Bool.true_and, Bool.not_eq_true', Bool.and_eq_false_iff, beq_eq_false_iff_ne, ne_eq]
    omega
  rw [h]; rfl
theorem kidR_f {old : List Fc} {a1 : List Fc} {y0 i c y a : Int} (hk : anyB old 7 y c = false ∨ (y0 = 19 ∧ a.toNat = 0)) : a1 = insAll a1 (riseL (anyB old 7 (y, a.toNat).1 c && !(y0 == 19 && (y, a.toNat).2 == 0)) i c) := by
  have h : (anyB old 7 (y, a.toNat).1 c && !(y0 == 19 && (y, a.toNat).2 == 0)) = false := by
    rcases hk with hk | ⟨h1, h2⟩
    · simp [hk]
    · simp [h1, h2]
  rw [h]; rfl
end Go.Mach
end
