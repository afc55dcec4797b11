/- What the statements share: part 17 of a proof by an executable machine over the program's code. -/
import Derived.Test.YtljpfhpcbfpooaaGreatDoorMc16
import Derived.Laws.Strings
set_option linter.unusedVariables false
set_option linter.unusedSimpArgs false
section
namespace Go.Mach
open Go Go.RowKit
set_option linter.unusedVariables false
theorem wordB_no {s : ByteArray} {a : Int} (h0 : 0 ≤ a) (h1 : a < s.size) (h : ¬(97 ≤ std.byte s a ∧ std.byte s a ≤ 122)) : false = wordB s := by
 unfold wordB
 refine (decide_eq_false fun hw => h ?_).symm
 have := hw.1 a.toNat (by omega)
 rwa [Int.toNat_of_nonneg h0] at this
theorem wordB_end {s : ByteArray} {a : Int} {b : Bool} (h : s.size ≤ a) (hi : ∀ i : Nat, (i : Int) < a → 97 ≤ std.byte s i ∧ std.byte s i ≤ 122) (hb : b = decide (1 ≤ (s.size : Int) ∧ (s.size : Int) ≤ 8)) : b = wordB s := by
 subst hb
 unfold wordB
 apply decide_eq_decide.2
 constructor
 · intro h2; exact ⟨fun i h3 => hi i (by omega), by omega, by omega⟩
 · intro h2; omega
theorem word_step {s : ByteArray} {a : Int} (h0 : 0 ≤ a) (hi : ∀ i : Nat, (i : Int) < a → 97 ≤ std.byte s i ∧ std.byte s i ≤ 122) (h : 97 ≤ std.byte s a ∧ std.byte s a ≤ 122) : ∀ i : Nat, (i : Int) < a + 1 → 97 ≤ std.byte s i ∧ std.byte s i ≤ 122 := fun i hlt => by
 by_cases c : (i : Int) = a
 · rw [c]; exact h
 · exact hi i (by omega)
theorem keyB_hit {s y : ByteArray} {a : Int} (h0 : 0 ≤ a) (h1 : a < keyL.length) (hy : rS keyL a = y) (he : y.toList = s.toList) : true = keyB s := by
 unfold keyB
 refine (List.any_eq_true.2 ⟨rS keyL a, rdG_mem h0 h1, ?_⟩).symm
 rw [hy]; unfold eqS; rw [he]; exact beq_self_eq_true _
theorem key_step {s y : ByteArray} {a : Int} (h0 : 0 ≤ a) (h1 : a < keyL.length) (h : (keyL.take a.toNat).any (fun k => eqS k s) = false) (hy : rS keyL a = y) (he : ¬ y.toList = s.toList) : (keyL.take (a + 1).toNat).any (fun k => eqS k s) = false := by
 rw [take_succG ByteArray.empty h0 h1, List.any_append, h, show rdG ByteArray.empty keyL a = y from hy]
 simp [eqS, he]
theorem keyB_end {s : ByteArray} {a : Int} (h : keyL.length ≤ a) (hi : (keyL.take a.toNat).any (fun k => eqS k s) = false) : false = keyB s := by
 rw [take_allG h] at hi; exact hi.symm
theorem size_toList (s : ByteArray) : s.toList = (⟨#[]⟩ : ByteArray).toList ↔ s.size = 0 := by
 rw [ByteArray.toList_eq, ByteArray.toList_eq]
 have h : s.size = s.data.toList.length := Array.length_toList.symm
 rw [h]
 show s.data.toList = [] ↔ _
 exact List.length_eq_zero_iff.symm
theorem empty_name {s : ByteArray} (h : eqS s ⟨#[]⟩ = true) : nameB s = false := by
 have : s.size = 0 := (size_toList s).1 (by simpa [eqS] using h)
 unfold nameB wordB
 rw [decide_eq_false (by omega)]; rfl
theorem empty_eqS {s : ByteArray} : eqS s ⟨#[]⟩ = decide (s.toList = (⟨#[]⟩ : ByteArray).toList) := by
 unfold eqS
 by_cases h : s.toList = (⟨#[]⟩ : ByteArray).toList
 · rw [decide_eq_true h, h]; exact beq_self_eq_true _
 · rw [decide_eq_false h]; simpa using h
def Sz (l : List Nd) : Prop := ∀ x ∈ l, x.f5.size ≤ 1048576 ∧ x.f6.size ≤ 1048576
theorem Sz.at {l : List Nd} (h : Sz l) {i : Int} {y : Nd} (h0 : 0 ≤ i) (h1 : i < l.length) (hy : rN l i = y) : y.f5.size ≤ 1048576 ∧ y.f6.size ≤ 1048576 := by
 subst hy; exact h _ (rdG_mem h0 h1)
end Go.Mach
namespace Go.Mach
theorem fld_no1 {x : Nd} (h : ¬(1 ≤ x.f0 ∧ x.f0 ≤ 19)) : false = fldB x := by unfold fldB; rw [decide_eq_false h]; rfl
theorem fld_no2 {x : Nd} (h : nfitB x.f5 (decide (0 < namesM x.f0)) = false) : false = fldB x := by unfold fldB; rw [h]; simp
theorem fld_no3 {x : Nd} (h : nfitB x.f6 (decide (1 < namesM x.f0)) = false) : false = fldB x := by unfold fldB; rw [h]; simp
theorem fld_no4 {x : Nd} (h : ¬((arityM x.f0 < 1 → x.f1 = 0) ∧ (arityM x.f0 < 2 → x.f2 = 0) ∧ (arityM x.f0 < 3 → x.f3 = 0))) : false = fldB x := by unfold fldB restB; rw [decide_eq_false h]; simp
theorem fld_end {x : Nd} {b : Bool} (h1 : 1 ≤ x.f0 ∧ x.f0 ≤ 19) (h2 : nfitB x.f5 (decide (0 < namesM x.f0)) = true) (h3 : nfitB x.f6 (decide (1 < namesM x.f0)) = true) (h4 : (arityM x.f0 < 1 → x.f1 = 0) ∧ (arityM x.f0 < 2 → x.f2 = 0) ∧ (arityM x.f0 < 3 → x.f3 = 0)) (hb : b = numB x) : b = fldB x := by
 unfold fldB restB; rw [h2, h3, decide_eq_true h1, decide_eq_true h4, hb]; rfl
theorem nfit_lt {s : ByteArray} {m : Nat} {v k : Int} {b : Bool} (h : nfitB s (decide (k < v)) = b) (hv : (m : Int) = v) (n : Nat) (hn : (n : Int) = k) : nfitB s (decide (n < m)) = b := by
 rw [← h]; congr 1; apply decide_eq_decide.2; omega
theorem nfit_1 {s : ByteArray} {m n : Nat} {b : Bool} (h : n < m) (hs : nameB s = b) : nfitB s (decide (n < m)) = b := by rw [decide_eq_true h]; exact hs
theorem nfit_0t {s : ByteArray} {m n : Nat} (h : ¬ n < m) (hs : s.toList = (⟨#[]⟩ : ByteArray).toList) : nfitB s (decide (n < m)) = true := by rw [decide_eq_false h]; unfold nfitB eqS; rw [hs]; simp
theorem nfit_0f {s : ByteArray} {m n : Nat} (h : ¬ n < m) (hs : ¬ s.toList = (⟨#[]⟩ : ByteArray).toList) : nfitB s (decide (n < m)) = false := by rw [decide_eq_false h]; show (s.toList == (⟨#[]⟩ : ByteArray).toList) = false; exact beq_eq_false_iff_ne.2 hs
theorem nfit_0n {s : ByteArray} {m n : Nat} (h : ¬ n < m) (hs : nameB s = true) : nfitB s (decide (n < m)) = false := by
 rw [decide_eq_false h]
 cases he : eqS s ⟨#[]⟩ with
 | false => exact he
 | true => rw [empty_name he] at hs; cases hs
theorem rI3_0 (a b c : Int) : rI [a, b, c] 0 = a := rfl
theorem rI3_1 (a b c : Int) : rI [a, b, c] 1 = b := rfl
theorem rI3_2 (a b c : Int) : rI [a, b, c] 2 = c := rfl
theorem rest_end {t a b c i : Int} (h : 3 ≤ i) (hi : ∀ j : Nat, (j : Int) < i → j < 3 → arityM t ≤ j → rI [a, b, c] j = 0) : (arityM t < 1 → a = 0) ∧ (arityM t < 2 → b = 0) ∧ (arityM t < 3 → c = 0) := by
 have h0 := hi 0 (by omega) (by omega)
 have h1 := hi 1 (by omega) (by omega)
 have h2 := hi 2 (by omega) (by omega)
 exact ⟨fun h => h0 (by omega), fun h => h1 (by omega), fun h => h2 (by omega)⟩
theorem rest_no {t a b c i y : Int} (h0 : 0 ≤ i) (h1 : i < 3) (ha : (arityM t : Int) ≤ i) (hy : rI [a, b, c] i = y) (hn : ¬ y = 0) : ¬((arityM t < 1 → a = 0) ∧ (arityM t < 2 → b = 0) ∧ (arityM t < 3 → c = 0)) := by
 rintro ⟨q0, q1, q2⟩
 have : i = 0 ∨ i = 1 ∨ i = 2 := by omega
 rcases this with rfl | rfl | rfl
 · rw [rI3_0] at hy; exact hn (by rw [← hy]; exact q0 (by omega))
 · rw [rI3_1] at hy; exact hn (by rw [← hy]; exact q1 (by omega))
 · rw [rI3_2] at hy; exact hn (by rw [← hy]; exact q2 (by omega))
theorem rest_step {t a b c i y : Int} (h0 : 0 ≤ i) (hi : ∀ j : Nat, (j : Int) < i → j < 3 → arityM t ≤ j → rI [a, b, c] j = 0) (hy : rI [a, b, c] i = y) (hn : i < (arityM t : Int) ∨ y = 0) : ∀ j : Nat, (j : Int) < i + 1 → j < 3 → arityM t ≤ j → rI [a, b, c] j = 0 := fun j h1 h2 h3 => by
 by_cases e : (j : Int) = i
 · rcases hn with hn | hn
   · omega
   · rw [e, hy, hn]
 · exact hi j (by omega) h2 h3
end Go.Mach
namespace Go.Mach
theorem numB_0 {x : Nd} {q : Bool} (h2 : ¬ x.f0 = 2) (h8 : ¬ x.f0 = 8) (hq : q = (x.f4 == 0)) : q = numB x := by subst hq; unfold numB; rw [if_neg h2, if_neg h8]; by_cases h : x.f4 = 0 <;> simp [h]
theorem numB_2t {x : Nd} (h : x.f0 = 2) (hv : 0 ≤ x.f4 ∧ x.f4 ≤ 65535) : true = numB x := by unfold numB; rw [if_pos h, decide_eq_true hv]
theorem numB_2f {x : Nd} (h : x.f0 = 2) (hv : ¬(0 ≤ x.f4 ∧ x.f4 ≤ 65535)) : false = numB x := by unfold numB; rw [if_pos h, decide_eq_false hv]
theorem numB_8t {x : Nd} (h : x.f0 = 8) (hv : 0 ≤ x.f4 ∧ x.f4 ≤ 3) : true = numB x := by unfold numB; rw [if_neg (by omega), if_pos h, decide_eq_true hv]
theorem numB_8f {x : Nd} (h : x.f0 = 8) (hv : ¬(0 ≤ x.f4 ∧ x.f4 ≤ 3)) : false = numB x := by unfold numB; rw [if_neg (by omega), if_pos h, decide_eq_false hv]
end Go.Mach
namespace Go.Mach
theorem has4_hit {l : List Int} {x i y : Int} (h0 : 0 ≤ i) (h1 : i < l.length) (hy : rI l i = y) (he : y = x) : true = decide (x ∈ l) := by
 refine (decide_eq_true ?_).symm
 rw [← he, ← hy]; exact rdG_mem h0 h1
theorem has4_end {l : List Int} {x i : Int} (h : l.length ≤ i) (hi : x ∉ l.take i.toNat) : false = decide (x ∈ l) := by
 rw [take_allG h] at hi; exact (decide_eq_false hi).symm
theorem has4_step {l : List Int} {x i y : Int} (h0 : 0 ≤ i) (h1 : i < l.length) (hi : x ∉ l.take i.toNat) (hy : rI l i = y) (he : ¬ y = x) : x ∉ l.take (i + 1).toNat := by
 rw [take_succG 0 h0 h1, show rdG 0 l i = y from hy, List.mem_append, List.mem_singleton]
 rintro (h | h)
 · exact hi h
 · exact he h.symm
def stS (l : List Nd) (i : Int) : List Int := (startsO l i.toNat).getD []
def startsR (l : List Nd) : List Int × Bool := ((startsO l l.length).getD [], (startsO l l.length).isSome)
theorem stS_some {l : List Nd} {i : Int} (h : (startsO l i.toNat).isSome = true) : startsO l i.toNat = some (stS l i) := by
 unfold stS; cases hq : startsO l i.toNat with
 | none => rw [hq] at h; cases h
 | some s => rfl
theorem stS_bnd {l : List Nd} {i : Int} (h0 : 0 ≤ i) (h : (startsO l i.toNat).isSome = true) : ((stS l i).length : Int) = i ∧ ∀ j : Int, 0 ≤ j → j < i → 0 ≤ rI (stS l i) j ∧ rI (stS l i) j ≤ j := by
 obtain ⟨e1, e2, _⟩ := startsO_tile _ _ (stS_some h)
 refine ⟨by omega, fun j hj hji => ?_⟩
 have := e2 j.toNat (by omega)
 rwa [Int.toNat_of_nonneg hj] at this
theorem st_next {l : List Nd} {i a : Int} (h0 : 0 ≤ i) (h : (startsO l i.toNat).isSome = true) (hf : fldB (rN l i) = true) (hw : walkK (stS l i) (kidsM (rN l i)) (kidsM (rN l i)).length i = some a) : startsO l (i + 1).toNat = some (stS l i ++ [a]) := by
 rw [show (i + 1).toNat = i.toNat + 1 by omega, startsO, stS_some h, Option.bind_some, Int.toNat_of_nonneg h0, if_pos hf, hw]; rfl
theorem st_fail {l : List Nd} {i : Int} (h0 : 0 ≤ i) (h1 : i < l.length) (h : (startsO l i.toNat).isSome = true) (hn : fldB (rN l i) = false ∨ walkK (stS l i) (kidsM (rN l i)) (kidsM (rN l i)).length i = none) : startsO l l.length = none := by
 refine startsO_none (n := i.toNat + 1) ?_ _ (by omega)
 rw [startsO, stS_some h, Option.bind_some, Int.toNat_of_nonneg h0]
 rcases hn with hn | hn
 · rw [if_neg (by rw [hn]; exact Bool.false_ne_true)]
 · rw [hn]; split <;> rfl
theorem startsR_no {l : List Nd} (h : startsO l l.length = none) : startsR l = ([], false) := by unfold startsR; rw [h]; rfl
theorem startsR_yes {l : List Nd} {i : Int} (h0 : (l.length : Int) = i) (h : (startsO l i.toNat).isSome = true) : startsR l = (stS l i, true) := by
 subst h0
 have := stS_some h
 unfold startsR; rw [Int.toNat_natCast] at *; rw [this]; rfl
theorem walkK_at {st K : List Int} {k a : Int} (h : 0 ≤ k) : walkK st K (k + 1).toNat a = if rI K k = a - 1 ∧ 0 ≤ rI K k then walkK st K k.toNat (rI st (rI K k)) else none := by
 rw [show (k + 1).toNat = k.toNat + 1 by omega, walkK, Int.toNat_of_nonneg h]
theorem walkK_no {st K : List Int} {k a : Int} (h : 0 ≤ k) (hn : ¬(rI K k = a - 1 ∧ 0 ≤ rI K k)) : walkK st K (k + 1).toNat a = none := by rw [walkK_at h, if_neg hn]
theorem walkK_yes {st K : List Int} {k a y z : Int} (h : 0 ≤ k) (hy : rI K k = y) (h1 : y = a - 1) (h2 : 0 ≤ y) (hz : rI st y = z) : walkK st K (k + 1).toNat a = walkK st K (k - 1 + 1).toNat z := by
 rw [walkK_at h, hy, if_pos ⟨h1, h2⟩, hz, Int.sub_add_cancel]
end Go.Mach
end
namespace Go.Mach
open Go Go.RowKit
theorem bnd_at {st : List Int} {i j y : Int} (hb : ∀ j : Int, 0 ≤ j → j < i → 0 ≤ rI st j ∧ rI st j ≤ j) (h0 : 0 ≤ j) (h1 : j < i) (hy : rI st j = y) : 0 ≤ y ∧ y ≤ j := by
 have := hb j h0 h1; rwa [hy] at this
theorem stS_next {l : List Nd} {i a : Int} (h0 : 0 ≤ i) (h : (startsO l i.toNat).isSome = true) (hf : fldB (rN l i) = true) (hw : walkK (stS l i) (kidsM (rN l i)) (kidsM (rN l i)).length i = some a) : stS l (i + 1) = stS l i ++ [a] := by
 have := st_next h0 h hf hw
 show (startsO l (i + 1).toNat).getD [] = _
 rw [this]; rfl
theorem walkK_zero {st K : List Int} {k a : Int} (h : k + 1 ≤ 0) : walkK st K (k + 1).toNat a = some a := by rw [show (k + 1).toNat = 0 by omega]; rfl
theorem at_nd {l : List Nd} {i : Int} {y : Nd} {P : Nd → Prop} (hy : rN l i = y) (h : P y) : P (rN l i) := hy ▸ h
theorem okM_len {l : List Nd} (h : ¬(1 ≤ (l.length : Int) ∧ (l.length : Int) ≤ 150)) : false = okM l := by
 unfold okM; rw [decide_eq_false (by omega)]; rfl
theorem startsR_len {l : List Nd} {v : List Int} (h : startsR l = (v, true)) : v.length = l.length := by
 unfold startsR at h
 simp only [Prod.mk.injEq] at h
 obtain ⟨s, hs⟩ := Option.isSome_iff_exists.1 h.2
 rw [hs] at h
 obtain ⟨rfl, _⟩ := h
 exact (startsO_tile _ _ hs).1
theorem okM_end {l : List Nd} {v : List Int} {y : Int} {q : Bool} (h1 : 1 ≤ (l.length : Int) ∧ (l.length : Int) ≤ 150) (h : startsR l = (v, true)) (hy : rI v (l.length - 1) = y) (hq : q = (y == 0)) : q = okM l := by
 subst hq; subst hy
 unfold startsR at h
 simp only [Prod.mk.injEq] at h
 obtain ⟨s, hs⟩ := Option.isSome_iff_exists.1 h.2
 rw [hs] at h
 obtain ⟨rfl, _⟩ := h
 unfold okM
 rw [decide_eq_true (by omega), hs]; rfl
theorem okM_no {l : List Nd} {v : List Int} (h : startsR l = (v, false)) : false = okM l := by
 unfold startsR at h
 simp only [Prod.mk.injEq, Option.isSome_eq_false_iff, Option.isNone_iff_eq_none] at h
 unfold okM
 rw [h.2, Bool.and_false]
theorem okT_startsR {l : List Nd} {v : List Int} {b : Bool} (hk : okM l = true) (h : startsR l = (v, b)) : v.length = l.length ∧ ∀ i : Int, 0 ≤ i → i < l.length → rI v i = startM l i := by
 have hT := okM_iff.1 hk
 obtain ⟨st, hs, h2, _⟩ := hT.tiled
 unfold startsR at h
 rw [hs] at h
 simp only [Prod.mk.injEq] at h
 obtain ⟨rfl, _⟩ := h
 exact ⟨h2, fun i h0 h1 => hT.startI hs h0 h1⟩
def startOfR (l : List Nd) (i : Int) : Int := if okM l = true ∧ 0 ≤ i ∧ i < l.length then startM l i else -1
def binderR (l : List Nd) (i : Int) : Bd := if okM l = true ∧ 0 ≤ i ∧ i < l.length then bindS l i else noB
theorem startOfR_no {l : List Nd} {i : Int} (h : okM l = false ∨ ¬(0 ≤ i ∧ i ≤ l.length - 1)) : -1 = startOfR l i := by
 unfold startOfR; rw [if_neg]; rintro ⟨h1, h2⟩
 rcases h with h | h
 · rw [h] at h1; cases h1
 · omega
theorem startOfR_yes {l : List Nd} {i y : Int} {v : List Int} {b : Bool} (hk : okM l = true) (h : 0 ≤ i ∧ i ≤ l.length - 1) (hv : startsR l = (v, b)) (hy : rI v i = y) : y = startOfR l i := by
 unfold startOfR; rw [if_pos ⟨hk, h.1, by omega⟩, ← hy]
 exact (okT_startsR hk hv).2 i h.1 (by omega)
theorem parS_no {l : List Nd} {i : Int} (h : okM l = false) : -1 = parS l i := by
 unfold parS; rw [h]; rfl
theorem par_step {l : List Nd} {i a : Int} (h0 : 0 ≤ a) (h : ∀ j : Nat, (j : Int) < a → i ∉ kidsM (rN l j)) (hn : i ∉ kidsM (rN l a)) : ∀ j : Nat, (j : Int) < a + 1 → i ∉ kidsM (rN l j) := fun j hj => by
 by_cases e : (j : Int) = a
 · rw [e]; exact hn
 · exact h j (by omega)
theorem binderR_no {l : List Nd} {i : Int} (h : okM l = false ∨ ¬(0 ≤ i ∧ i ≤ l.length - 1) ∨ ∃ y, rN l i = y ∧ ¬ y.f0 = 1) : noB = binderR l i := by
 unfold binderR
 split
 · rename_i hc
   rcases h with h | h | ⟨y, h, h2⟩
   · rw [h] at hc; exact absurd hc.1 (by decide)
   · omega
   · unfold bindS; rw [h, if_neg h2]
 · rfl
theorem binderR_yes {l : List Nd} {i : Int} {y : Nd} {b : Bd} (hk : okM l = true) (h : 0 ≤ i ∧ i ≤ l.length - 1) (hy : rN l i = y) (h1 : y.f0 = 1) (hb : climbM l y.f5 i = b) : b = binderR l i := by
 unfold binderR; rw [if_pos ⟨hk, h.1, by omega⟩]
 unfold bindS; rw [hy, if_pos h1, hb]
theorem hit_start {l : List Nd} {nm : ByteArray} {kid q : Int} {ns : List ByteArray} {rs : List Int} (hq : q = parS l kid) {p : Nd} (hp : rN l q = p) (hb : bindM p kid = (ns, rs)) : hitN l nm kid = hitM q nm (ns.drop (0 : Int).toNat) (rs.drop (0 : Int).toNat) ∧ rs.length = ns.length := by
 subst hq
 unfold hitN
 rw [hp, hb]
 have := (len_bindM p kid).1
 rw [hb] at this
 exact ⟨rfl, this⟩
theorem hit_next {l : List Nd} {nm y : ByteArray} {kid q k : Int} {ns : List ByteArray} {rs : List Int} (hl : rs.length = ns.length) (h0 : 0 ≤ k) (h1 : k < ns.length) (hy : rS ns k = y) (he : ¬ y.toList = nm.toList) (h : hitN l nm kid = hitM q nm (ns.drop k.toNat) (rs.drop k.toNat)) :
  hitN l nm kid = hitM q nm (ns.drop (k + 1).toNat) (rs.drop (k + 1).toNat) := by
 rw [h, hitM_step hl h0 h1, hy, if_neg (by unfold eqS; simpa using he)]
theorem hit_yes {l : List Nd} {nm y : ByteArray} {kid q k r : Int} {ns : List ByteArray} {rs : List Int} (hl : rs.length = ns.length) (h0 : 0 ≤ k) (h1 : k < ns.length) (hy : rS ns k = y) (he : y.toList = nm.toList) (hr : rI rs k = r) (h : hitN l nm kid = hitM q nm (ns.drop k.toNat) (rs.drop k.toNat)) :
  hitN l nm kid = some ⟨q, r⟩ := by
 rw [h, hitM_step hl h0 h1, hy, if_pos (by unfold eqS; rw [he]; exact beq_self_eq_true _), hr]
theorem hit_none {l : List Nd} {nm : ByteArray} {kid q k : Int} {ns : List ByteArray} {rs : List Int} (h1 : (ns.length : Int) ≤ k) (h : hitN l nm kid = hitM q nm (ns.drop k.toNat) (rs.drop k.toNat)) : hitN l nm kid = none := by
 rw [h, hitM_end h1]
theorem climb_hit {l : List Nd} (hT : OkT l) {nm : ByteArray} {kid : Int} {b : Bd} (hp : 0 ≤ parS l kid) (h : hitN l nm kid = some b) : climbM l nm kid = b := by rw [climbM_up hT hp, h]; rfl
theorem climb_on {l : List Nd} (hT : OkT l) {nm : ByteArray} {kid : Int} (hp : 0 ≤ parS l kid) (h : hitN l nm kid = none) : climbM l nm kid = climbM l nm (parS l kid) := by rw [climbM_up hT hp, h]; rfl
theorem rep_eK (k : IntKind) (n : Nat) (x : Int) : List.replicate n [D.int k x] = eK k (List.replicate n x) := by simp [eK]
theorem set_eK (k : IntKind) (l : List Int) (i : Nat) (x : Int) : (eK k l).set i [.int k x] = eK k (l.set i x) := by simp [eK, List.map_set]
def stB (l : List Nd) (i : Int) : List Int := stS l i ++ List.replicate (l.length - i.toNat) 0
theorem stB_zero (l : List Nd) : stB l 0 = List.replicate l.length 0 := by simp [stB, stS, startsO]
theorem stB_len {l : List Nd} {i : Int} (h0 : 0 ≤ i) (h1 : i ≤ l.length) (h : (startsO l i.toNat).isSome = true) : (stB l i).length = l.length := by
 have := (stS_bnd h0 h).1
 unfold stB; rw [List.length_append, List.length_replicate]; omega
theorem stB_at {l : List Nd} {i j : Int} (h0 : 0 ≤ i) (h : (startsO l i.toNat).isSome = true) (j0 : 0 ≤ j) (j1 : j < i) : rI (stB l i) j = rI (stS l i) j := by
 have := (stS_bnd h0 h).1
 exact rI_left _ _ j0 (by omega)
theorem stB_set {l : List Nd} {i a : Int} (h0 : 0 ≤ i) (h1 : i < l.length) (h : (startsO l i.toNat).isSome = true) (hn : stS l (i + 1) = stS l i ++ [a]) : (stB l i).set i.toNat a = stB l (i + 1) := by
 have := (stS_bnd h0 h).1
 unfold stB
 rw [hn, show l.length - i.toNat = (l.length - (i + 1).toNat) + 1 by omega, List.replicate_succ, List.set_append, if_neg (by omega)]
 simp only [show i.toNat - (stS l i).length = 0 by omega, List.set_cons_zero, List.append_assoc, List.singleton_append]
theorem okM_endI {l : List Nd} {i y : Int} {q : Bool} (h1 : 1 ≤ (l.length : Int) ∧ (l.length : Int) ≤ 150) (hi : (l.length : Int) ≤ i) (hi2 : i ≤ l.length) (h : (startsO l i.toNat).isSome = true) (hy : rI (stB l i) (l.length - 1) = y) (hq : q = (y == 0)) : q = okM l := by
 have e : i = l.length := by omega
 subst e
 have hs := stS_some h
 rw [stB_at (by omega) h (by omega) (by omega)] at hy
 rw [Int.toNat_natCast] at hs
 refine okM_end h1 (v := stS l l.length) ?_ hy hq
 unfold startsR
 rw [hs]; rfl
theorem okM_failI {l : List Nd} (h : startsO l l.length = none) : false = okM l := by
 unfold okM; rw [h, Bool.and_false]
theorem outD_asl {E : Env} {s : S} {t i z n : Nat} {es : Box} (h1 : s.t.getD t .junk = .asl (.loc i) z n) (h2 : s.loc[i]? = some es) (hc : es.all (fun e => e.all D.cell) = true) : outD E false s [.tmp t] = some (.sl .ro z es) := by
 simp only [outD, resD, h1, Option.map_some, Option.bind_some, List.map_cons, List.map_nil, D.frozen, h2, hc, if_true]; rfl
theorem outD_aslN {E : Env} {s : S} {t i z n : Nat} {es : Box} (h1 : s.t.getD t .junk = .asl (.loc i) z n) (h2 : s.loc[i]? = some es) (hc : es.all (fun e => e.all D.cell) = true) : outD E true s [.tmp t] = some (.sl .nw z es) := by
 simp only [outD, resD, h1, Option.map_some, Option.bind_some, List.map_cons, List.map_nil, D.frozenN, h2, hc, if_true]; rfl
theorem cells_eK (k : IntKind) (l : List Int) : (eK k l).all (fun e => e.all D.cell) = true := by simp [eK, D.cell]
theorem bind_len {p : Nd} {kid : Int} {ns : List ByteArray} {rs : List Int} (hb : bindM p kid = (ns, rs)) : ns.length ≤ 2 := by
 have := (len_bindM p kid).2; rw [hb] at this; exact this
theorem fill_set {n : Nat} {a : Int} (h0 : 0 ≤ a) (h1 : a < n) : (List.replicate a.toNat (-1 : Int) ++ List.replicate (n - a.toNat) 0).set a.toNat (-1) = List.replicate (a + 1).toNat (-1) ++ List.replicate (n - (a + 1).toNat) 0 := by
 rw [show n - a.toNat = (n - (a + 1).toNat) + 1 by omega, List.replicate_succ, List.set_append, if_neg (by simp), show (a + 1).toNat = a.toNat + 1 by omega, List.replicate_succ']
 simp
theorem fill_end {n : Nat} {a : Int} (h : a = n) : List.replicate a.toNat (-1 : Int) ++ List.replicate (n - a.toNat) 0 = List.replicate n (-1) := by
 rw [h]; simp
theorem len_kids3 (n : Nd) : (kidsM n).length ≤ 3 := by rw [len_kidsM]; exact arityM_le _
theorem bindS_var {l : List Nd} {i : Int} {y : Nd} {b : Bd} (hy : rN l i = y) (h1 : y.f0 = 1) (hb : climbM l y.f5 i = b) : bindS l i = b := by unfold bindS; rw [hy, if_pos h1, hb]
theorem bindS_non {l : List Nd} {i : Int} {y : Nd} (hy : rN l i = y) (h1 : ¬ y.f0 = 1) : bindS l i = ⟨-1, -1⟩ := by unfold bindS; rw [hy, if_neg h1]; rfl
theorem bind_push {l : List Nd} {i : Int} {b : Bd} (h0 : 0 ≤ i) (h1 : i < l.length) (hb : bindS l i = b) : (bindsM l).take (i + 1).toNat = (bindsM l).take i.toNat ++ [b] := by rw [bindsM_take h0 h1, hb]
def l6T (s : ByteArray) (p : List ByteArray × Bool) (x : ByteArray) : List ByteArray × Bool := ((if !p.2 && gtS x s then p.1 ++ [s] else p.1) ++ [x], p.2 || gtS x s)
def l6S (s : ByteArray) (l : List ByteArray) : List ByteArray × Bool := l.foldl (l6T s) ([], false)
def anyS (s : ByteArray) (l : List ByteArray) : Bool := l.any fun x => eqS x s
def sortM (l : List ByteArray) (s : ByteArray) : List ByteArray := if anyS s l then l else if (l6S s l).2 then (l6S s l).1 else (l6S s l).1 ++ [s]
theorem l6S_succ {s : ByteArray} {l : List ByteArray} {i : Int} {y : ByteArray} (h0 : 0 ≤ i) (h1 : i < l.length) (hy : rS l i = y) : l6S s (l.take (i + 1).toNat) = l6T s (l6S s (l.take i.toNat)) y := by
 rw [take_succG ByteArray.empty h0 h1, show rdG ByteArray.empty l i = y from hy, l6S, List.foldl_append]; rfl
theorem anyS_succ {s : ByteArray} {l : List ByteArray} {i : Int} {y : ByteArray} (h0 : 0 ≤ i) (h1 : i < l.length) (hy : rS l i = y) (h : anyS s (l.take i.toNat) = false) (hn : ¬ y.toList = s.toList) : anyS s (l.take (i + 1).toNat) = false := by
 unfold anyS at *
 rw [take_succG ByteArray.empty h0 h1, show rdG ByteArray.empty l i = y from hy, List.any_append, h]
 simp [eqS, hn]
theorem anyS_hit {s : ByteArray} {l : List ByteArray} {i : Int} {y : ByteArray} (h0 : 0 ≤ i) (h1 : i < l.length) (hy : rS l i = y) (hn : y.toList = s.toList) : l = sortM l s := by
 have : anyS s l = true := List.any_eq_true.2 ⟨rS l i, rdG_mem h0 h1, by rw [hy]; unfold eqS; rw [hn]; exact beq_self_eq_true _⟩
 unfold sortM; rw [if_pos this]
theorem sortM_end {s : ByteArray} {l : List ByteArray} {i : Int} {q : Bool} (h : l.length ≤ i) (ha : anyS s (l.take i.toNat) = false) (hq : q = (l6S s (l.take i.toNat)).2) : sortM l s = if q then (l6S s (l.take i.toNat)).1 else (l6S s (l.take i.toNat)).1 ++ [s] := by
 subst hq
 rw [take_allG h] at *
 unfold sortM; rw [if_neg (by rw [ha]; exact Bool.false_ne_true)]
theorem len_l6S (s : ByteArray) (l : List ByteArray) : (l6S s l).1.length = l.length + (l6S s l).2.toNat := by
 unfold l6S
 have : ∀ (l : List ByteArray) (a : List ByteArray) (b : Bool) (n : Nat), a.length = n + b.toNat → (l.foldl (l6T s) (a, b)).1.length = n + l.length + (l.foldl (l6T s) (a, b)).2.toNat := by
  intro l
  induction l with
  | nil => intro a b n h; exact h
  | cons x l ih =>
    intro a b n h
    rw [List.foldl_cons]
    have hs : l6T s (a, b) x = ((if !b && gtS x s then a ++ [s] else a) ++ [x], b || gtS x s) := rfl
    rw [hs, ih _ _ (n + 1) ?_, List.length_cons]
    · omega
    · cases b <;> cases gtS x s <;> simp at h ⊢ <;> omega
 have := this l [] false 0 rfl
 omega
theorem len_sortM (l : List ByteArray) (s : ByteArray) : l.length ≤ (sortM l s).length ∧ (sortM l s).length ≤ l.length + 1 ∧ 1 ≤ (sortM l s).length := by
 unfold sortM
 have := len_l6S s l
 split
 · rename_i h
   obtain ⟨x, hx, _⟩ := List.any_eq_true.1 h
   have := List.length_pos_of_mem hx
   omega
 · split
   · rename_i h; rw [h] at this; have h1 : (true : Bool).toNat = 1 := rfl; omega
   · have h1 := Bool.toNat_le (l6S s l).2
     rename_i h; have h2 : (l6S s l).2 = false := by simpa using h
     rw [h2] at this; have h3 : (false : Bool).toNat = 0 := rfl
     rw [List.length_append, List.length_singleton]; omega
def freeB (l : List Nd) (i : Int) : Bool := decide ((rN l i).f0 = 1) && decide ((bindS l i).f0 < 0)
def freeN (l : List Nd) : Nat → List ByteArray
 | 0 => []
 | n + 1 => if freeB l n then sortM (freeN l n) (rN l n).f5 else freeN l n
def freeR (l : List Nd) : List ByteArray := if okM l then freeN l l.length else []
theorem len_freeN (l : List Nd) (n : Nat) : (freeN l n).length ≤ n ∧ (1 ≤ (freeN l n).length ↔ ∃ i, i < n ∧ freeB l i = true) := by
 induction n with
 | zero => exact ⟨Nat.le_refl _, by simp [freeN]⟩
 | succ n ih =>
   rw [freeN]
   split
   · rename_i h
     have := len_sortM (freeN l n) (rN l n).f5
     exact ⟨by omega, fun _ => ⟨n, by omega, h⟩, fun _ => this.2.2⟩
   · rename_i h
     refine ⟨by omega, ih.2.trans ⟨fun ⟨i, h1, h2⟩ => ⟨i, by omega, h2⟩, fun ⟨i, h1, h2⟩ => ⟨i, ?_, h2⟩⟩⟩
     by_cases e : i = n
     · subst e; exact absurd h2 h
     · omega
theorem clo_len {l : List Nd} (hk : okM l = true) {n : Int} {q : Bool} (hn : n = (freeR l).length) (hq : q = decide (n = 0)) : q = cloB l := by
 subst hq; subst hn
 unfold cloB freeR
 rw [hk, if_pos rfl, Bool.true_and]
 apply decide_eq_decide.2
 have h := (len_freeN l l.length).2
 constructor
 · intro h0 i hi h1
   refine Decidable.byContradiction fun h2 => ?_
   have : freeB l i = true := by unfold freeB; rw [decide_eq_true h1, decide_eq_true (by omega)]; rfl
   have := h.2 ⟨i, hi, this⟩
   omega
 · intro ha
   refine Decidable.byContradiction fun h0 => ?_
   obtain ⟨i, h1, h2⟩ := h.1 (by omega)
   unfold freeB at h2
   rw [Bool.and_eq_true, decide_eq_true_eq, decide_eq_true_eq] at h2
   have := ha i h1 h2.1
   omega
theorem clo_no {l : List Nd} (hk : okM l = false) : false = cloB l := by unfold cloB; rw [hk]; rfl
theorem binderR_in {l : List Nd} (hk : okM l = true) {i : Int} (h0 : 0 ≤ i) (h1 : i < l.length) : binderR l i = bindS l i := by unfold binderR; rw [if_pos ⟨hk, h0, h1⟩]
theorem freeN_yes {l : List Nd} (hk : okM l = true) {i : Int} {y : Nd} {b : Bd} {v : List ByteArray} (h0 : 0 ≤ i) (h1 : i < l.length) (hy : rN l i = y) (h2 : y.f0 = 1) (hb : binderR l i = b) (h3 : b.f0 < 0) (hv : sortM (freeN l i.toNat) y.f5 = v) : v = freeN l (i + 1).toNat := by
 rw [binderR_in hk h0 h1] at hb
 rw [show (i + 1).toNat = i.toNat + 1 by omega, freeN, Int.toNat_of_nonneg h0, if_pos (by unfold freeB; rw [hy, hb, decide_eq_true h2, decide_eq_true h3]; rfl), hy, hv]
theorem freeN_no1 {l : List Nd} {i : Int} {y : Nd} (h0 : 0 ≤ i) (hy : rN l i = y) (h2 : ¬ y.f0 = 1) : freeN l i.toNat = freeN l (i + 1).toNat := by
 rw [show (i + 1).toNat = i.toNat + 1 by omega, freeN, Int.toNat_of_nonneg h0, if_neg (by unfold freeB; rw [hy, decide_eq_false h2]; exact Bool.false_ne_true)]
theorem freeN_no2 {l : List Nd} (hk : okM l = true) {i : Int} {b : Bd} (h0 : 0 ≤ i) (h1 : i < l.length) (hb : binderR l i = b) (h3 : ¬ b.f0 < 0) : freeN l i.toNat = freeN l (i + 1).toNat := by
 rw [binderR_in hk h0 h1] at hb
 rw [show (i + 1).toNat = i.toNat + 1 by omega, freeN, Int.toNat_of_nonneg h0, if_neg (by unfold freeB; rw [hb, decide_eq_false h3, Bool.and_false]; exact Bool.false_ne_true)]
theorem freeR_end {l : List Nd} (hk : okM l = true) {i : Int} (h0 : (l.length : Int) = i) : freeR l = freeN l i.toNat := by
 unfold freeR; rw [if_pos hk, ← h0]; rfl
theorem freeR_no {l : List Nd} (hk : okM l = false) : freeR l = [] := by unfold freeR; rw [hk]; rfl
theorem flow_eq {l : List Nd} {dp : Int} {q : Bool} (h : cloB l = true) (hq : q = decide (0 ≤ dp ∧ dp ≤ 2)) : q = flowB l dp := by unfold flowB; rw [h, Bool.true_and, hq]
theorem flow_no {l : List Nd} {dp : Int} (h : cloB l = false) : false = flowB l dp := by unfold flowB; rw [h]; rfl
theorem freeR_z {l : List Nd} {i : Int} {v : List ByteArray} (h0 : ¬ 0 < i) (h1 : 0 ≤ i) (hz : okM l = false ∨ l.length ≤ 0) (hv : v = freeN l i.toNat) : v = freeR l := by
 have : i = 0 := by omega
 subst this
 rw [hv]
 unfold freeR
 rcases hz with hz | hz
 · rw [if_neg (by rw [hz]; exact Bool.false_ne_true)]; rfl
 · rw [show l.length = 0 by omega]; split <;> rfl
theorem l6_ins {s y : ByteArray} {p : List ByteArray × Bool} {a : Bool} (i0 : a = p.2) (h : a = false) (hg : gtS y s = true) : l6T s p y = ((p.1 ++ [s]) ++ [y], true) := by
 unfold l6T; rw [← i0, h, hg]; rfl
theorem l6_keep {s y : ByteArray} {p : List ByteArray × Bool} {a : Bool} (i0 : a = p.2) (h : a = true ∨ (a = false ∧ gtS y s = false)) : l6T s p y = (p.1 ++ [y], a) := by
 unfold l6T; rw [← i0]
 rcases h with h | ⟨h, h2⟩
 · rw [h]; rfl
 · rw [h, h2]; rfl
theorem sortM_t {s : ByteArray} {l : List ByteArray} {i : Int} {q : Bool} (h : l.length ≤ i) (ha : anyS s (l.take i.toNat) = false) (hq : q = (l6S s (l.take i.toNat)).2) (ht : q = true) : (l6S s (l.take i.toNat)).1 = sortM l s := by rw [sortM_end h ha hq, if_pos ht]
theorem sortM_f {s : ByteArray} {l : List ByteArray} {i : Int} {q : Bool} (h : l.length ≤ i) (ha : anyS s (l.take i.toNat) = false) (hq : q = (l6S s (l.take i.toNat)).2) (ht : q = false) : sortM l s = (l6S s (l.take i.toNat)).1 ++ [s] := by rw [sortM_end h ha hq, if_neg (by rw [ht]; exact Bool.false_ne_true)]
theorem freeR_fin {l : List Nd} {i : Int} (h0 : (l.length : Int) = i) (h : 0 < i → okM l = true) : freeN l i.toNat = freeR l := by
 by_cases hz : 0 < i
 · exact (freeR_end (h hz) h0).symm
 · exact freeR_z hz (by omega) (.inr (by omega)) rfl
def outR (l : List Nd) (f : Int) : List Bd := if okM l = true ∧ 0 ≤ f ∧ f < l.length ∧ lamB (rN l f) = true then outerM l (bindsM l) f else []
theorem outR_no {l : List Nd} {f : Int} (h : okM l = false ∨ ¬(0 ≤ f ∧ f ≤ l.length - 1) ∨ ∃ y, rN l f = y ∧ lamB y = false) : outR l f = [] := by
 unfold outR
 rw [if_neg]
 rintro ⟨h1, h2, h3, h4⟩
 rcases h with h | h | ⟨y, h, h5⟩
 · rw [h] at h1; cases h1
 · omega
 · rw [h, h5] at h4; cases h4
theorem outR_yes {l : List Nd} {f i : Int} {y : Nd} (hk : okM l = true) (h : 0 ≤ f ∧ f < l.length) (hy : rN l f = y) (hl : lamB y = true) (hi : i = y.f1 + 1) : outerN l (bindsM l) f (i - startM l y.f1).toNat = outR l f := by
 subst hy
 unfold outR outerM
 rw [if_pos ⟨hk, h.1, h.2, hl⟩, hi]
theorem startOfR_in {l : List Nd} {i : Int} (hk : okM l = true) (h : 0 ≤ i ∧ i < l.length) : startOfR l i = startM l i := by unfold startOfR; rw [if_pos ⟨hk, h⟩]
def skipP (l : List Nd) (f : Int) (y : Nd) (b : Bd) : Prop := (b.f0 < f ∧ 0 ≤ b.f0 ∧ startM l y.f1 ≤ b.f0) ∨ b.f0 < 0 ∨ (b.f0 = f ∧ b.f1 = parm y)
theorem out_kn {l : List Nd} (hT : OkT l) {f i : Int} {y : Nd} {b : Bd} (h : 0 ≤ f ∧ f < l.length) (hy : rN l f = y) (hl : lamB y = true) (hi0 : startM l y.f1 ≤ i) (hi1 : i ≤ y.f1) (hb : bindS l i = b) : knB l (bindsM l) f b = true ↔ skipP l f y b := by
 subst hy
 have hd := hT.downs f h.1 h.2 (lam_ar hl)
 have hs := startM_le hT.downs hd.1 (by omega)
 rw [skip_eq hT h.1 h.2 hl hi0 hi1 ((rB_bindsM (by omega) (by omega)).trans hb), decide_eq_true_eq]
 exact Iff.rfl
theorem out_keep {l : List Nd} (hT : OkT l) {f i : Int} {y : Nd} {b : Bd} (h : 0 ≤ f ∧ f < l.length) (hy : rN l f = y) (hl : lamB y = true) (hi0 : startM l y.f1 ≤ i) (hi1 : i ≤ y.f1) (hb : bindS l i = b) (hk : skipP l f y b ∨ (outerN l (bindsM l) f (i - startM l y.f1).toNat).any (fun x => decide (x = b)) = true) :
  outerN l (bindsM l) f (i + 1 - startM l y.f1).toNat = outerN l (bindsM l) f (i - startM l y.f1).toNat := by
 have hd := hT.downs f h.1 h.2 (by rw [hy]; exact lam_ar hl)
 have hs := startM_le hT.downs hd.1 (by omega)
 have hkn := out_kn hT h hy hl hi0 hi1 hb
 refine outerN_keep (b := b) (by rw [hy]) hi0 ((rB_bindsM (by rw [hy] at hs; omega) (by rw [hy] at hd; omega)).trans hb) ?_
 rw [Bool.or_eq_true]
 rcases hk with hk | hk
 · exact .inl (hkn.2 hk)
 · exact .inr hk
theorem out_push {l : List Nd} (hT : OkT l) {f i : Int} {y : Nd} {b : Bd} (h : 0 ≤ f ∧ f < l.length) (hy : rN l f = y) (hl : lamB y = true) (hi0 : startM l y.f1 ≤ i) (hi1 : i ≤ y.f1) (hb : bindS l i = b) (hk : ¬ skipP l f y b) (ha : (outerN l (bindsM l) f (i - startM l y.f1).toNat).any (fun x => decide (x = b)) = false) :
  outerN l (bindsM l) f (i + 1 - startM l y.f1).toNat = outerN l (bindsM l) f (i - startM l y.f1).toNat ++ [b] := by
 have hd := hT.downs f h.1 h.2 (by rw [hy]; exact lam_ar hl)
 have hs := startM_le hT.downs hd.1 (by omega)
 have hkn := out_kn hT h hy hl hi0 hi1 hb
 refine outerN_push (b := b) (by rw [hy]) hi0 ((rB_bindsM (by rw [hy] at hs; omega) (by rw [hy] at hd; omega)).trans hb) ?_
 rw [Bool.or_eq_false_iff]
 exact ⟨by rw [← Bool.not_eq_true]; exact fun q => hk (hkn.1 q), ha⟩
theorem len_out {l : List Nd} (f : Int) (us : List Bd) (n : Nat) : (outerN l us f n).length ≤ n := len_outerN l us f n
theorem Apart.symm {t u : Tok} (h : Apart t u) : Apart u t := fun i h1 h2 => h i h2 h1
theorem Lw.lv {tk : List Nat} {t : Tok} {n : Nat} (h : Lw tk t n) : Lv tk t n := by cases h with
 | nil => exact .nil
 | own i n h => exact .own i n h
theorem Den.app22 {E : Env} {Q : X → S → Prop} {t u : Tok} {n m k0 : Nat} {tk : List Nat} {k : Tok → List Nat → T} (hu : Lw tk u k0) (hp : Apart t u) (h : Lw tk t n) (hk : ∀ t' tk', Lw tk' t' (n + m) → Lw tk' u k0 → Apart t' u → Den E (k t' tk') Q) : Den E (.app t n m tk k) Q := by
 have fresh : ∀ x : Nat, Lw (tk ++ [x]) u k0 ∧ Apart (.own tk.length) u := fun x => by
  cases hu with
  | nil => exact ⟨.nil, fun i _ h => by cases h⟩
  | own i _ hi =>
    have := (List.getElem?_eq_some_iff.1 hi).1
    exact ⟨.own _ _ (by rw [List.getElem?_append_left this]; exact hi), fun j h1 h2 => by injection h1 with h1; injection h2 with h2; omega⟩
 cases h with
 | nil =>
   by_cases h : m = 0
   · subst h; exact Den.app (t' := .nil) (tk' := tk) (by simp [appTok]) (hk _ _ .nil hu hp)
   · exact Den.app (t' := .own tk.length) (tk' := tk ++ [0 + m]) (by simp [appTok, h]) (hk _ _ (.own _ _ (by simp)) (fresh _).1 (fresh 0).2)
 | own i n h =>
   have hi := (List.getElem?_eq_some_iff.1 h).1
   refine Den.app (t' := .own i) (tk' := tk.set i (n + m)) (by simp [appTok, h]) (hk _ _ (.own _ _ (by simp [hi])) ?_ hp)
   cases hu with
   | nil => exact .nil
   | own j _ hj =>
     have : i ≠ j := fun e => hp i rfl (by rw [e])
     exact .own _ _ (by rw [List.getElem?_set_ne this]; exact hj)
theorem push_eLBd {a b : List (List Bd)} {x : List Bd} (h : b = a ++ [x]) : std.app (eLBd a) [[.sl .ro 2 (eBd x)]] = eLBd b := by subst h; simp [std, eLBd]
theorem outR_outers {l : List Nd} (hk : okM l = true) {i : Int} (h0 : 0 ≤ i) (h1 : i < l.length) : rLB (outersM l) i = outR l i := by
 rw [rLB_outersM h0 h1]
 unfold outR
 by_cases h : lamB (rN l i) = true
 · rw [if_pos h, if_pos ⟨hk, h0, h1, h⟩]
 · rw [if_neg h, if_neg (fun q => h q.2.2.2)]
theorem outers_push {l : List Nd} (hk : okM l = true) {i : Int} {v : List Bd} (h0 : 0 ≤ i) (h1 : i < l.length) (hv : outR l i = v) : (outersM l).take (i + 1).toNat = (outersM l).take i.toNat ++ [v] := by
 rw [take_succG [] h0 (by rw [len_outersM]; exact h1), ← hv, ← outR_outers hk h0 h1]; rfl
theorem bind_pushR {l : List Nd} (hk : okM l = true) {i : Int} {b : Bd} (h0 : 0 ≤ i) (h1 : i < l.length) (hb : binderR l i = b) : (bindsM l).take (i + 1).toNat = (bindsM l).take i.toNat ++ [b] := by
 rw [binderR_in hk h0 h1] at hb; exact bind_push h0 h1 hb
def seedR (l : List Nd) : List Fc := if okM l then seedM l else []
theorem seedR_yes {l : List Nd} (h : okM l = true) : seedR l = seedM l := by unfold seedR; rw [if_pos h]
theorem seedR_no {l : List Nd} (h : okM l = false) : seedR l = [] := by unfold seedR; rw [h]; rfl
theorem seed_at {l : List Nd} {fs : List Fc} {i yk yn yc a b c : Int} (hf : fs = seedM l) (h0 : 0 ≤ i) (h1 : i < fs.length) (hy : rF fs i = ⟨yk, yn, yc, ⟨a, b, c⟩⟩) : yk = 6 ∧ yn = l.length - 1 ∧ yc = 0 ∧ a = 0 ∧ b = 0 ∧ c = 0 := by
 subst hf
 have : i = 0 := by simp only [seedM, List.length_singleton] at h1; omega
 subst this
 have : rF (seedM l) 0 = ⟨6, l.length - 1, 0, ⟨0, 0, 0⟩⟩ := rfl
 rw [this] at hy
 injection hy with e1 e2 e3 e4
 injection e4 with e4 e5 e6
 exact ⟨e1.symm, e2.symm, e3.symm, e4.symm, e5.symm, e6.symm⟩
theorem seed_ok (l : List Nd) : okF (seedM l) = true := decide_eq_true ⟨List.pairwise_singleton _ _, by simp [seedM]⟩
theorem prM_ok {l : List Nd} (hT : OkT l) (dp : Int) : PrOk (prM l dp) := by
 have hs := hT.size
 refine ⟨hs.2, len_bindsM l, len_outersM l, fun bs hb => ?_, fun b hb => ?_, fun bs hb b hbb => ?_⟩
 · obtain ⟨f, hf, rfl⟩ := List.mem_map.1 hb
   have hfl := List.mem_range.1 hf
   split
   · rename_i hl; exact len_outerM ⟨hs.2, hT.downs, len_bindsM l⟩ ⟨by omega, by omega⟩ hl
   · simp
 · obtain ⟨f, hf, rfl⟩ := List.mem_map.1 hb
   rcases bindS_role l f with h | ⟨_, h | h⟩
   · rw [h]; decide
   · rw [h]; decide
   · rw [h]; decide
 · obtain ⟨f, hf, rfl⟩ := List.mem_map.1 hb
   have hfl := List.mem_range.1 hf
   split at hbb
   · rename_i hl
     have := (outerM_role hT (by omega) (by omega) hl hbb).2
     omega
   · cases hbb
theorem Fit.old {l : List Nd} {fs : List Fc} (h : Fit l fs) (hl : fs.length ≤ 2500) (dp : Int) : Old (prM l dp) fs := ⟨h.up, h.vk, hl, h.vn, h.node⟩
theorem Fit.fok {l : List Nd} {fs : List Fc} (h : Fit l fs) (hl : fs.length ≤ 2500) : Fok l fs := ⟨h.up, hl, fun f hf => ⟨h.vk f hf, (h.vn f hf).1⟩, fun f hf => (h.vn f hf).2, h.lam, h.node⟩
theorem Clo.lok {l : List Nd} (h : Clo l) : Lok l (bindsM l) := ⟨h.ok.size.2, h.ok.downs, len_bindsM l⟩
theorem flowB_clo {l : List Nd} {dp : Int} (h : flowB l dp = true) : Clo l := by
 unfold flowB at h; rw [Bool.and_eq_true] at h; exact cloB_iff.1 h.1
theorem solveR_no {l : List Nd} {dp : Int} (h : solveO l dp = none) : solveR l dp = ([], false) := by unfold solveR; rw [h]
theorem solveR_yes {l : List Nd} {dp : Int} {r : List Fc} (h : solveO l dp = some r) : solveR l dp = (r, true) := by unfold solveR; rw [h]
theorem solveO_flow {l : List Nd} {dp : Int} (h : flowB l dp = false) : solveO l dp = none := by unfold solveO; rw [h]; rfl
theorem solve_start {l : List Nd} {dp : Int} (h : flowB l dp = true) : Fit l (seedM l) ∧ (seedM l).length ≤ 2500 ∧ solveN l dp 400 (seedM l) = solveO l dp := by
 refine ⟨seed_fit (flowB_clo h).ok, by simp [seedM], ?_⟩
 unfold solveO; rw [if_pos h]
theorem solve_many {l : List Nd} {dp i : Int} {fs v : List Fc} {r : Option (List Fc)} (h0 : i < 400) (h1 : solveN l dp (400 - i).toNat fs = r) (hv : passM l dp fs = v) (hl : 2500 < (v.length : Int)) : r = none := by
 rw [show (400 - i).toNat = (400 - (i + 1)).toNat + 1 by omega, solveN, hv, if_pos (by omega)] at h1; exact h1.symm
theorem solve_same {l : List Nd} {dp i : Int} {fs v : List Fc} {r : Option (List Fc)} (h0 : i < 400) (h1 : solveN l dp (400 - i).toNat fs = r) (hv : passM l dp fs = v) (hl : (v.length : Int) ≤ 2500) (he : (v.length : Int) = fs.length) : r = some v := by
 rw [show (400 - i).toNat = (400 - (i + 1)).toNat + 1 by omega, solveN, hv, if_neg (by omega), if_pos (by omega)] at h1; exact h1.symm
theorem solve_next {l : List Nd} {dp i : Int} {fs v : List Fc} {r : Option (List Fc)} (h0 : i < 400) (h1 : solveN l dp (400 - i).toNat fs = r) (hv : passM l dp fs = v) (hl : (v.length : Int) ≤ 2500) (he : ¬(v.length : Int) = fs.length) : solveN l dp (400 - (i + 1)).toNat v = r := by
 rw [show (400 - i).toNat = (400 - (i + 1)).toNat + 1 by omega, solveN, hv, if_neg (by omega), if_neg (by omega)] at h1; exact h1
theorem solve_end {l : List Nd} {dp i : Int} {fs : List Fc} {r : Option (List Fc)} (h0 : 400 ≤ i) (h1 : solveN l dp (400 - i).toNat fs = r) : r = none := by
 rw [show (400 - i).toNat = 0 by omega, solveN] at h1; exact h1.symm
theorem may_no {l : List Nd} {dp : Int} {v : List Fc} (h : solveR l dp = (v, false)) : true = mayM l dp := by
 unfold solveR at h; unfold mayM
 split at h
 · simp at h
 · rfl
theorem may_yes {l : List Nd} {dp : Int} {v : List Fc} {b : Bool} (h : solveR l dp = (v, true)) (hb : (okF v && decide ((⟨7, l.length - 1, 0, ⟨0, 0, 0⟩⟩ : Fc) ∈ v)) = b) : b = mayM l dp := by
 unfold solveR at h; unfold mayM
 split at h
 · rename_i fs hs
   simp only [Prod.mk.injEq, and_true] at h
   subst h
   rw [← hb]
   have := (solveO_fit hs).2
   have hk : okF fs = true := decide_eq_true ⟨this.1.up, this.2⟩
   rw [hk, Bool.true_and]
 · simp at h
theorem solveR_fit {l : List Nd} {dp : Int} {v : List Fc} (h : solveR l dp = (v, true)) : Up v ∧ v.length ≤ 2500 ∧ 1 ≤ l.length := by
 unfold solveR at h
 split at h
 · rename_i fs hs
   simp only [Prod.mk.injEq, and_true] at h
   subst h
   have := solveO_fit hs
   exact ⟨this.2.1.up, this.2.2, this.1.ok.size.1⟩
 · simp at h
theorem Lw.kind {tk : List Nat} {t : Tok} {n : Nat} (h : Lw tk t n) : t = .nil ∨ ∃ i, t = .own i := by cases h with
 | nil => exact .inl rfl
 | own i _ _ => exact .inr ⟨i, rfl⟩
def FreeSpec (g : List D → Option D) : Prop := ∀ l : List Nd, okM l = true → Sz l → ∃ r : List ByteArray, g [.sl .ro 7 (eNd l)] = some (.sl .ro 1 (eB r)) ∧ ((r.length : Int) = 0 ↔ ((freeR l).length : Int) = 0)
def PassSpec (g : List D → Option D) : Prop := ∀ (l : List Nd) (dp : Int) (fs : List Fc), Clo l → Fit l fs → fs.length ≤ 2500 →
 g [.sl .ro 7 (eNd l), .sl .ro 2 (eBd (bindsM l)), .int .i64 dp, .sl .ro 6 (eFc fs)] = some (.tup [.sl .nw 6 (eFc (passM l dp fs)), .bool (decide ((passM l dp fs).length ≤ 2500))])
theorem clo_len2 {l : List Nd} (hk : okM l = true) {r : List ByteArray} {q : Bool} (h : (r.length : Int) = 0 ↔ ((freeR l).length : Int) = 0) (hq : q = decide ((r.length : Int) = 0)) : q = cloB l := by
 refine clo_len hk rfl ?_
 rw [hq]; exact decide_eq_decide.2 h
theorem flow_eq2 {l : List Nd} {dp : Int} {q : Bool} (h : cloB l = true) (hq : q = decide (0 ≤ dp ∧ dp ≤ 2)) : q = flowB l dp := flow_eq h hq
def faM (l : List Fc) (f : Fc) : List Fc := if okF l = true ∧ l.length < 2500 then ins l f else l
theorem fa_no {l : List Fc} {f : Fc} (h : okF l = false ∨ 2500 ≤ (l.length : Int)) : faM l f = l := by
 unfold faM; rw [if_neg]; rintro ⟨h1, h2⟩
 rcases h with h | h
 · rw [h] at h1; cases h1
 · omega
theorem fa_has {l : List Fc} {f : Fc} (h : okF l = true) (hf : f ∈ l) : faM l f = l := by
 have hu : Up l := (of_decide_eq_true h).1
 unfold faM
 split
 · rw [ins_eq, if_pos ((mem_posF hu).1 hf)]
 · rfl
theorem fa_new {l : List Fc} {f : Fc} {v : Int} (h : okF l = true) (hl : (l.length : Int) < 2500) (hf : f ∉ l) (hv : ((posF l f : Nat) : Int) = v) : faM l f = l.take v.toNat ++ f :: l.drop v.toNat := by
 have hu : Up l := (of_decide_eq_true h).1
 unfold faM
 rw [if_pos ⟨h, by omega⟩]
 refine ins_put hv fun h1 e => hf ((mem_posF hu).2 ⟨by omega, ?_⟩)
 subst hv; exact e
theorem fa_seed {l : List Nd} {i : Int} {f : Fc} {v : List Fc} (h0 : 0 ≤ i) (h1 : i < 1) (hf : rF (seedM l) i = f) (hv : faM ((seedM l).take i.toNat) f = v) : v = (seedM l).take (i + 1).toNat := by
 have : i = 0 := by omega
 subst this
 subst hv
 have e : f = ⟨6, l.length - 1, 0, ⟨0, 0, 0⟩⟩ := hf.symm
 subst e
 rfl
theorem Den.emp {E : Env} {Q : X → S → Prop} {o : Std} (ho : o = std) {i : Decidable (o.empty [] = true)} {a b : T} (h : Den E a Q) : Den E (@ite T (o.empty [] = true) i a b) Q := by
 subst ho; rw [if_pos (show std.empty [] = true from rfl)]; exact h
theorem may_yesI {l : List Nd} {dp : Int} {v : List Fc} {b : Bool} (h : solveR l dp = (v, true)) (hb : decide ((⟨7, l.length - 1, 0, ⟨0, 0, 0⟩⟩ : Fc) ∈ v) = b) : b = mayM l dp := by
 have hs := solveR_fit h
 have hk : okF v = true := decide_eq_true ⟨hs.1, hs.2.1⟩
 exact may_yes h (by rw [hk, Bool.true_and]; exact hb)
end Go.Mach
