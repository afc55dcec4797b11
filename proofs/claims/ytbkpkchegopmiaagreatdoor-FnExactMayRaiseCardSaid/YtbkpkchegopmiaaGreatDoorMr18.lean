/- FnExactMayRaise: the program's MayRaise answers what the reference's answers, for all arguments (a tied card): part 18 of a proof by an executable machine over the program's code. -/
import Derived.Test.YtbkpkchegopmiaaGreatDoorMr15
import Derived.Test.YtbkpkchegopmiaaGreatDoorMr16
import Derived.Test.YtbkpkchegopmiaaGreatDoorMr17
section
set_option linter.unusedVariables false
set_option linter.unusedSimpArgs false
namespace Go.Mach
open Go Go.RowKit
theorem rep_eK (k : IntKind) (n : Nat) (x : Int) : List.replicate n [D.int k x] = eK k (List.replicate n x) := by simp [eK]
theorem set_eK (k : IntKind) (l : List Int) (i : Nat) (x : Int) : (eK k l).set i [.int k x] = eK k (l.set i x) := by simp [eK, List.map_set]
def stB (l : List Nd) (i : Int) : List Int := stS l i ++ List.replicate (l.length - i.toNat) 0
theorem stB_zero (l : List Nd) : stB l 0 = List.replicate l.length 0 := by simp [stB, stS, startsO]
theorem stB_len {l : List Nd} {i : Int} (h0 : 0 ≤ i) (h1 : i ≤ l.length) (h : (startsO l i.toNat).isSome = true) : (stB l i).length = l.length := by
  have := (stS_bnd h0 h).1
  unfold stB; rw [List.length_append, List.length_replicate]; omega
theorem stB_at {l : List Nd} {i j : Int} (h0 : 0 ≤ i) (h : (startsO l i.toNat).isSome = true) (j0 : 0 ≤ j) (j1 : j < i) : rI (stB l i) j = rI (stS l i) j := by
  have := (stS_bnd h0 h).1
  exact rI_left _ _ j0 (by omega)
theorem stB_set {l : List Nd} {i a : Int} (h0 : 0 ≤ i) (h1 : i < l.length) (h : (startsO l i.toNat).isSome = true) (hn : stS l (i + 1) = stS l i ++ [a]) : (stB l i).set i.toNat a = stB l (i + 1) := by
  have := (stS_bnd h0 h).1
  unfold stB
  rw [hn, show l.length - i.toNat = (l.length - (i + 1).toNat) + 1 by omega, List.replicate_succ, List.set_append, if_neg (by omega)]
  simp only [show i.toNat - (stS l i).length = 0 by omega, List.set_cons_zero, List.append_assoc, List.singleton_append]
theorem okM_endI {l : List Nd} {i y : Int} {q : Bool} (h1 : 1 ≤ (l.length : Int) ∧ (l.length : Int) ≤ 150) (hi : (l.length : Int) ≤ i) (hi2 : i ≤ l.length) (h : (startsO l i.toNat).isSome = true) (hy : rI (stB l i) (l.length - 1) = y) (hq : q = (y == 0)) : q = okM l := by
  have e : i = l.length := by omega
  subst e
  have hs := stS_some h
  rw [stB_at (by omega) h (by omega) (by omega)] at hy
  rw [Int.toNat_natCast] at hs
  refine okM_end h1 (v := stS l l.length) ?_ hy hq
  unfold startsR
  rw [hs]; rfl
theorem okM_failI {l : List Nd} (h : startsO l l.length = none) : false = okM l := by
  unfold okM; rw [h, Bool.and_false]
theorem outD_asl {E : Env} {s : S} {t i z n : Nat} {es : Box} (h1 : s.t.getD t .junk = .asl (.loc i) z n) (h2 : s.loc[i]? = some es) (hc : es.all (fun e => e.all D.cell) = true) : outD E false s [.tmp t] = some (.sl .ro z es) := by
  simp only [outD, resD, h1, Option.map_some, Option.bind_some, List.map_cons, List.map_nil, D.frozen, h2, hc, if_true]; rfl
theorem outD_aslN {E : Env} {s : S} {t i z n : Nat} {es : Box} (h1 : s.t.getD t .junk = .asl (.loc i) z n) (h2 : s.loc[i]? = some es) (hc : es.all (fun e => e.all D.cell) = true) : outD E true s [.tmp t] = some (.sl .nw z es) := by
  simp only [outD, resD, h1, Option.map_some, Option.bind_some, List.map_cons, List.map_nil, D.frozenN, h2, hc, if_true]; rfl
theorem cells_eK (k : IntKind) (l : List Int) : (eK k l).all (fun e => e.all D.cell) = true := by simp [eK, D.cell]
theorem bind_len {p : Nd} {kid : Int} {ns : List ByteArray} {rs : List Int} (hb : bindM p kid = (ns, rs)) : ns.length ≤ 2 := by
  have := (len_bindM p kid).2; rw [hb] at this; exact this
theorem fill_set {n : Nat} {a : Int} (h0 : 0 ≤ a) (h1 : a < n) : (List.replicate a.toNat (-1 : Int) ++ List.replicate (n - a.toNat) 0).set a.toNat (-1) = List.replicate (a + 1).toNat (-1) ++ List.replicate (n - (a + 1).toNat) 0 := by
  rw [show n - a.toNat = (n - (a + 1).toNat) + 1 by omega, List.replicate_succ, List.set_append, if_neg (by simp), show (a + 1).toNat = a.toNat + 1 by omega, List.replicate_succ']
  simp
theorem fill_end {n : Nat} {a : Int} (h : a = n) : List.replicate a.toNat (-1 : Int) ++ List.replicate (n - a.toNat) 0 = List.replicate n (-1) := by
  rw [h]; simp
theorem len_kids3 (n : Nd) : (kidsM n).length ≤ 3 := by rw [len_kidsM]; exact arityM_le _
end Go.Mach
end
section
set_option linter.unusedVariables false
set_option linter.unusedSimpArgs false
namespace Go.Mach
open Go Go.RowKit
theorem bindS_var {l : List Nd} {i : Int} {y : Nd} {b : Bd} (hy : rN l i = y) (h1 : y.f0 = 1) (hb : climbM l y.f5 i = b) : bindS l i = b := by unfold bindS; rw [hy, if_pos h1, hb]
theorem bindS_non {l : List Nd} {i : Int} {y : Nd} (hy : rN l i = y) (h1 : ¬ y.f0 = 1) : bindS l i = ⟨-1, -1⟩ := by unfold bindS; rw [hy, if_neg h1]; rfl
theorem bind_push {l : List Nd} {i : Int} {b : Bd} (h0 : 0 ≤ i) (h1 : i < l.length) (hb : bindS l i = b) : (bindsM l).take (i + 1).toNat = (bindsM l).take i.toNat ++ [b] := by rw [bindsM_take h0 h1, hb]
end Go.Mach
end
section
set_option linter.unusedVariables false
set_option linter.unusedSimpArgs false
namespace Go.Mach
open Go Go.RowKit
def l6T (s : ByteArray) (p : List ByteArray × Bool) (x : ByteArray) : List ByteArray × Bool := ((if !p.2 && gtS x s then p.1 ++ [s] else p.1) ++ [x], p.2 || gtS x s)
def l6S (s : ByteArray) (l : List ByteArray) : List ByteArray × Bool := l.foldl (l6T s) ([], false)
def anyS (s : ByteArray) (l : List ByteArray) : Bool := l.any fun x => eqS x s
def sortM (l : List ByteArray) (s : ByteArray) : List ByteArray := if anyS s l then l else if (l6S s l).2 then (l6S s l).1 else (l6S s l).1 ++ [s]
theorem l6S_succ {s : ByteArray} {l : List ByteArray} {i : Int} {y : ByteArray} (h0 : 0 ≤ i) (h1 : i < l.length) (hy : rS l i = y) : l6S s (l.take (i + 1).toNat) = l6T s (l6S s (l.take i.toNat)) y := by
  rw [take_succG ByteArray.empty h0 h1, show rdG ByteArray.empty l i = y from hy, l6S, List.foldl_append]; rfl
theorem anyS_succ {s : ByteArray} {l : List ByteArray} {i : Int} {y : ByteArray} (h0 : 0 ≤ i) (h1 : i < l.length) (hy : rS l i = y) (h : anyS s (l.take i.toNat) = false) (hn : ¬ y.toList = s.toList) : anyS s (l.take (i + 1).toNat) = false := by
  unfold anyS at *
  rw [take_succG ByteArray.empty h0 h1, show rdG ByteArray.empty l i = y from hy, List.any_append, h]
  simp [eqS, hn]
theorem anyS_hit {s : ByteArray} {l : List ByteArray} {i : Int} {y : ByteArray} (h0 : 0 ≤ i) (h1 : i < l.length) (hy : rS l i = y) (hn : y.toList = s.toList) : l = sortM l s := by
  have : anyS s l = true := List.any_eq_true.2 ⟨rS l i, rdG_mem h0 h1, by rw [hy]; unfold eqS; rw [hn]; exact beq_self_eq_true _⟩
  unfold sortM; rw [if_pos this]
theorem sortM_end {s : ByteArray} {l : List ByteArray} {i : Int} {q : Bool} (h : l.length ≤ i) (ha : anyS s (l.take i.toNat) = false) (hq : q = (l6S s (l.take i.toNat)).2) : sortM l s = if q then (l6S s (l.take i.toNat)).1 else (l6S s (l.take i.toNat)).1 ++ [s] := by
  subst hq
  rw [take_allG h] at *
  unfold sortM; rw [if_neg (by rw [ha]; exact Bool.false_ne_true)]
theorem len_l6S (s : ByteArray) (l : List ByteArray) : (l6S s l).1.length = l.length + (l6S s l).2.toNat := by
  unfold l6S
  have : ∀ (l : List ByteArray) (a : List ByteArray) (b : Bool) (n : Nat), a.length = n + b.toNat → (l.foldl (l6T s) (a, b)).1.length = n + l.length + (l.foldl (l6T s) (a, b)).2.toNat := by
    intro l
    induction l with
    | nil => intro a b n h; exact h
    | cons x l ih =>
      intro a b n h
      rw [List.foldl_cons]
      have hs : l6T s (a, b) x = ((if !b && gtS x s then a ++ [s] else a) ++ [x], b || gtS x s) := rfl
      rw [hs, ih _ _ (n + 1) ?_, List.length_cons]
      · omega
      · cases b <;> cases gtS x s <;> simp at h ⊢ <;> omega
  have := this l [] false 0 rfl
  omega
theorem len_sortM (l : List ByteArray) (s : ByteArray) : l.length ≤ (sortM l s).length ∧ (sortM l s).length ≤ l.length + 1 ∧ 1 ≤ (sortM l s).length := by
  unfold sortM
  have := len_l6S s l
  split
  · rename_i h
    obtain ⟨x, hx, _⟩ := List.any_eq_true.1 h
    have := List.length_pos_of_mem hx
    omega
  · split
    · rename_i h; rw [h] at this; have h1 : (true : Bool).toNat = 1 := rfl; omega
    · have h1 := Bool.toNat_le (l6S s l).2
      rename_i h; have h2 : (l6S s l).2 = false := by simpa using h
      rw [h2] at this; have h3 : (false : Bool).toNat = 0 := rfl
      rw [List.length_append, List.length_singleton]; omega
def freeB (l : List Nd) (i : Int) : Bool := decide ((rN l i).f0 = 1) && decide ((bindS l i).f0 < 0)
def freeN (l : List Nd) : Nat → List ByteArray
  | 0 => []
  | n + 1 => if freeB l n then sortM (freeN l n) (rN l n).f5 else freeN l n
def freeR (l : List Nd) : List ByteArray := if okM l then freeN l l.length else []
theorem len_freeN (l : List Nd) (n : Nat) : (freeN l n).length ≤ n ∧ (1 ≤ (freeN l n).length ↔ ∃ i, i < n ∧ freeB l i = true) := by
  induction n with
  | zero => exact ⟨Nat.le_refl _, by simp [freeN]⟩
  | succ n ih =>
    rw [freeN]
    split
    · rename_i h
      have := len_sortM (freeN l n) (rN l n).f5
      exact ⟨by omega, fun _ => ⟨n, by omega, h⟩, fun _ => this.2.2⟩
    · rename_i h
      refine ⟨by omega, ih.2.trans ⟨fun ⟨i, h1, h2⟩ => ⟨i, by omega, h2⟩, fun ⟨i, h1, h2⟩ => ⟨i, ?_, h2⟩⟩⟩
      by_cases e : i = n
      · subst e; exact absurd h2 h
      · omega
theorem clo_len {l : List Nd} (hk : okM l = true) {n : Int} {q : Bool} (hn : n = (freeR l).length) (hq : q = decide (n = 0)) : q = cloB l := by
  subst hq; subst hn
  unfold cloB freeR
  rw [hk, if_pos rfl, Bool.true_and]
  apply decide_eq_decide.2
  have h := (len_freeN l l.length).2
  constructor
  · intro h0 i hi h1
    refine Decidable.byContradiction fun h2 => ?_
    have : freeB l i = true := by unfold freeB; rw [decide_eq_true h1, decide_eq_true (by omega)]; rfl
    have := h.2 ⟨i, hi, this⟩
    omega
  · intro ha
    refine Decidable.byContradiction fun h0 => ?_
    obtain ⟨i, h1, h2⟩ := h.1 (by omega)
    unfold freeB at h2
    rw [Bool.and_eq_true, decide_eq_true_eq, decide_eq_true_eq] at h2
    have := ha i h1 h2.1
    omega
theorem clo_no {l : List Nd} (hk : okM l = false) : false = cloB l := by unfold cloB; rw [hk]; rfl
theorem binderR_in {l : List Nd} (hk : okM l = true) {i : Int} (h0 : 0 ≤ i) (h1 : i < l.length) : binderR l i = bindS l i := by unfold binderR; rw [if_pos ⟨hk, h0, h1⟩]
theorem freeN_yes {l : List Nd} (hk : okM l = true) {i : Int} {y : Nd} {b : Bd} {v : List ByteArray} (h0 : 0 ≤ i) (h1 : i < l.length) (hy : rN l i = y) (h2 : y.f0 = 1) (hb : binderR l i = b) (h3 : b.f0 < 0) (hv : sortM (freeN l i.toNat) y.f5 = v) : v = freeN l (i + 1).toNat := by
  rw [binderR_in hk h0 h1] at hb
  rw [show (i + 1).toNat = i.toNat + 1 by omega, freeN, Int.toNat_of_nonneg h0, if_pos (by unfold freeB; rw [hy, hb, decide_eq_true h2, decide_eq_true h3]; rfl), hy, hv]
theorem freeN_no1 {l : List Nd} {i : Int} {y : Nd} (h0 : 0 ≤ i) (hy : rN l i = y) (h2 : ¬ y.f0 = 1) : freeN l i.toNat = freeN l (i + 1).toNat := by
  rw [show (i + 1).toNat = i.toNat + 1 by omega, freeN, Int.toNat_of_nonneg h0, if_neg (by unfold freeB; rw [hy, decide_eq_false h2]; exact Bool.false_ne_true)]
theorem freeN_no2 {l : List Nd} (hk : okM l = true) {i : Int} {b : Bd} (h0 : 0 ≤ i) (h1 : i < l.length) (hb : binderR l i = b) (h3 : ¬ b.f0 < 0) : freeN l i.toNat = freeN l (i + 1).toNat := by
  rw [binderR_in hk h0 h1] at hb
  rw [show (i + 1).toNat = i.toNat + 1 by omega, freeN, Int.toNat_of_nonneg h0, if_neg (by unfold freeB; rw [hb, decide_eq_false h3, Bool.and_false]; exact Bool.false_ne_true)]
theorem freeR_end {l : List Nd} (hk : okM l = true) {i : Int} (h0 : (l.length : Int) = i) : freeR l = freeN l i.toNat := by
  unfold freeR; rw [if_pos hk, ← h0]; rfl
theorem freeR_no {l : List Nd} (hk : okM l = false) : freeR l = [] := by unfold freeR; rw [hk]; rfl
theorem flow_eq {l : List Nd} {dp : Int} {q : Bool} (h : cloB l = true) (hq : q = decide (0 ≤ dp ∧ dp ≤ 2)) : q = flowB l dp := by unfold flowB; rw [h, Bool.true_and, hq]
theorem flow_no {l : List Nd} {dp : Int} (h : cloB l = false) : false = flowB l dp := by unfold flowB; rw [h]; rfl
theorem freeR_z {l : List Nd} {i : Int} {v : List ByteArray} (h0 : ¬ 0 < i) (h1 : 0 ≤ i) (hz : okM l = false ∨ l.length ≤ 0) (hv : v = freeN l i.toNat) : v = freeR l := by
  have : i = 0 := by omega
  subst this
  rw [hv]
  unfold freeR
  rcases hz with hz | hz
  · rw [if_neg (by rw [hz]; exact Bool.false_ne_true)]; rfl
  · rw [show l.length = 0 by omega]; split <;> rfl
theorem l6_ins {s y : ByteArray} {p : List ByteArray × Bool} {a : Bool} (i0 : a = p.2) (h : a = false) (hg : gtS y s = true) : l6T s p y = ((p.1 ++ [s]) ++ [y], true) := by
  unfold l6T; rw [← i0, h, hg]; rfl
theorem l6_keep {s y : ByteArray} {p : List ByteArray × Bool} {a : Bool} (i0 : a = p.2) (h : a = true ∨ (a = false ∧ gtS y s = false)) : l6T s p y = (p.1 ++ [y], a) := by
  unfold l6T; rw [← i0]
  rcases h with h | ⟨h, h2⟩
  · rw [h]; rfl
  · rw [h, h2]; rfl
theorem sortM_t {s : ByteArray} {l : List ByteArray} {i : Int} {q : Bool} (h : l.length ≤ i) (ha : anyS s (l.take i.toNat) = false) (hq : q = (l6S s (l.take i.toNat)).2) (ht : q = true) : (l6S s (l.take i.toNat)).1 = sortM l s := by rw [sortM_end h ha hq, if_pos ht]
theorem sortM_f {s : ByteArray} {l : List ByteArray} {i : Int} {q : Bool} (h : l.length ≤ i) (ha : anyS s (l.take i.toNat) = false) (hq : q = (l6S s (l.take i.toNat)).2) (ht : q = false) : sortM l s = (l6S s (l.take i.toNat)).1 ++ [s] := by rw [sortM_end h ha hq, if_neg (by rw [ht]; exact Bool.false_ne_true)]
theorem freeR_fin {l : List Nd} {i : Int} (h0 : (l.length : Int) = i) (h : 0 < i → okM l = true) : freeN l i.toNat = freeR l := by
  by_cases hz : 0 < i
  · exact (freeR_end (h hz) h0).symm
  · exact freeR_z hz (by omega) (.inr (by omega)) rfl
end Go.Mach
end
section
set_option linter.unusedVariables false
set_option linter.unusedSimpArgs false
namespace Go.Mach
open Go Go.RowKit
def outR (l : List Nd) (f : Int) : List Bd := if okM l = true ∧ 0 ≤ f ∧ f < l.length ∧ lamB (rN l f) = true then outerM l (bindsM l) f else []
theorem outR_no {l : List Nd} {f : Int} (h : okM l = false ∨ ¬(0 ≤ f ∧ f ≤ l.length - 1) ∨ ∃ y, rN l f = y ∧ lamB y = false) : outR l f = [] := by
  unfold outR
  rw [if_neg]
  rintro ⟨h1, h2, h3, h4⟩
  rcases h with h | h | ⟨y, h, h5⟩
  · rw [h] at h1; cases h1
  · omega
  · rw [h, h5] at h4; cases h4
theorem outR_yes {l : List Nd} {f i : Int} {y : Nd} (hk : okM l = true) (h : 0 ≤ f ∧ f < l.length) (hy : rN l f = y) (hl : lamB y = true) (hi : i = y.f1 + 1) : outerN l (bindsM l) f (i - startM l y.f1).toNat = outR l f := by
  subst hy
  unfold outR outerM
  rw [if_pos ⟨hk, h.1, h.2, hl⟩, hi]
theorem startOfR_in {l : List Nd} {i : Int} (hk : okM l = true) (h : 0 ≤ i ∧ i < l.length) : startOfR l i = startM l i := by unfold startOfR; rw [if_pos ⟨hk, h⟩]
def skipP (l : List Nd) (f : Int) (y : Nd) (b : Bd) : Prop := (b.f0 < f ∧ 0 ≤ b.f0 ∧ startM l y.f1 ≤ b.f0) ∨ b.f0 < 0 ∨ (b.f0 = f ∧ b.f1 = parm y)
theorem out_kn {l : List Nd} (hT : OkT l) {f i : Int} {y : Nd} {b : Bd} (h : 0 ≤ f ∧ f < l.length) (hy : rN l f = y) (hl : lamB y = true) (hi0 : startM l y.f1 ≤ i) (hi1 : i ≤ y.f1) (hb : bindS l i = b) : knB l (bindsM l) f b = true ↔ skipP l f y b := by
  subst hy
  have hd := hT.downs f h.1 h.2 (lam_ar hl)
  have hs := startM_le hT.downs hd.1 (by omega)
  rw [skip_eq hT h.1 h.2 hl hi0 hi1 ((rB_bindsM (by omega) (by omega)).trans hb), decide_eq_true_eq]
  exact Iff.rfl
theorem out_keep {l : List Nd} (hT : OkT l) {f i : Int} {y : Nd} {b : Bd} (h : 0 ≤ f ∧ f < l.length) (hy : rN l f = y) (hl : lamB y = true) (hi0 : startM l y.f1 ≤ i) (hi1 : i ≤ y.f1) (hb : bindS l i = b) (hk : skipP l f y b ∨ (outerN l (bindsM l) f (i - startM l y.f1).toNat).any (fun x => decide (x = b)) = true) :
    outerN l (bindsM l) f (i + 1 - startM l y.f1).toNat = outerN l (bindsM l) f (i - startM l y.f1).toNat := by
  have hd := hT.downs f h.1 h.2 (by rw [hy]; exact lam_ar hl)
  have hs := startM_le hT.downs hd.1 (by omega)
  have hkn := out_kn hT h hy hl hi0 hi1 hb
  refine outerN_keep (b := b) (by rw [hy]) hi0 ((rB_bindsM (by rw [hy] at hs; omega) (by rw [hy] at hd; omega)).trans hb) ?_
  rw [Bool.or_eq_true]
  rcases hk with hk | hk
  · exact .inl (hkn.2 hk)
  · exact .inr hk
theorem out_push {l : List Nd} (hT : OkT l) {f i : Int} {y : Nd} {b : Bd} (h : 0 ≤ f ∧ f < l.length) (hy : rN l f = y) (hl : lamB y = true) (hi0 : startM l y.f1 ≤ i) (hi1 : i ≤ y.f1) (hb : bindS l i = b) (hk : ¬ skipP l f y b) (ha : (outerN l (bindsM l) f (i - startM l y.f1).toNat).any (fun x => decide (x = b)) = false) :
    outerN l (bindsM l) f (i + 1 - startM l y.f1).toNat = outerN l (bindsM l) f (i - startM l y.f1).toNat ++ [b] := by
  have hd := hT.downs f h.1 h.2 (by rw [hy]; exact lam_ar hl)
  have hs := startM_le hT.downs hd.1 (by omega)
  have hkn := out_kn hT h hy hl hi0 hi1 hb
  refine outerN_push (b := b) (by rw [hy]) hi0 ((rB_bindsM (by rw [hy] at hs; omega) (by rw [hy] at hd; omega)).trans hb) ?_
  rw [Bool.or_eq_false_iff]
  exact ⟨by rw [← Bool.not_eq_true]; exact fun q => hk (hkn.1 q), ha⟩
theorem len_out {l : List Nd} (f : Int) (us : List Bd) (n : Nat) : (outerN l us f n).length ≤ n := len_outerN l us f n
end Go.Mach
end
section
set_option linter.unusedVariables false
set_option linter.unusedSimpArgs false
namespace Go.Mach
open Go Go.RowKit
theorem Apart.symm {t u : Tok} (h : Apart t u) : Apart u t := fun i h1 h2 => h i h2 h1
theorem Lw.lv {tk : List Nat} {t : Tok} {n : Nat} (h : Lw tk t n) : Lv tk t n := by cases h with
  | nil => exact .nil
  | own i n h => exact .own i n h
theorem Den.app22 {E : Env} {Q : X → S → Prop} {t u : Tok} {n m k0 : Nat} {tk : List Nat} {k : Tok → List Nat → T} (hu : Lw tk u k0) (hp : Apart t u) (h : Lw tk t n) (hk : ∀ t' tk', Lw tk' t' (n + m) → Lw tk' u k0 → Apart t' u → Den E (k t' tk') Q) : Den E (.app t n m tk k) Q := by
  have fresh : ∀ x : Nat, Lw (tk ++ [x]) u k0 ∧ Apart (.own tk.length) u := fun x => by
    cases hu with
    | nil => exact ⟨.nil, fun i _ h => by cases h⟩
    | own i _ hi =>
      have := (List.getElem?_eq_some_iff.1 hi).1
      exact ⟨.own _ _ (by rw [List.getElem?_append_left this]; exact hi), fun j h1 h2 => by injection h1 with h1; injection h2 with h2; omega⟩
  cases h with
  | nil =>
    by_cases h : m = 0
    · subst h; exact Den.app (t' := .nil) (tk' := tk) (by simp [appTok]) (hk _ _ .nil hu hp)
    · exact Den.app (t' := .own tk.length) (tk' := tk ++ [0 + m]) (by simp [appTok, h]) (hk _ _ (.own _ _ (by simp)) (fresh _).1 (fresh 0).2)
  | own i n h =>
    have hi := (List.getElem?_eq_some_iff.1 h).1
    refine Den.app (t' := .own i) (tk' := tk.set i (n + m)) (by simp [appTok, h]) (hk _ _ (.own _ _ (by simp [hi])) ?_ hp)
    cases hu with
    | nil => exact .nil
    | own j _ hj =>
      have : i ≠ j := fun e => hp i rfl (by rw [e])
      exact .own _ _ (by rw [List.getElem?_set_ne this]; exact hj)
theorem push_eLBd {a b : List (List Bd)} {x : List Bd} (h : b = a ++ [x]) : std.app (eLBd a) [[.sl .ro 2 (eBd x)]] = eLBd b := by subst h; simp [std, eLBd]
theorem outR_outers {l : List Nd} (hk : okM l = true) {i : Int} (h0 : 0 ≤ i) (h1 : i < l.length) : rLB (outersM l) i = outR l i := by
  rw [rLB_outersM h0 h1]
  unfold outR
  by_cases h : lamB (rN l i) = true
  · rw [if_pos h, if_pos ⟨hk, h0, h1, h⟩]
  · rw [if_neg h, if_neg (fun q => h q.2.2.2)]
theorem outers_push {l : List Nd} (hk : okM l = true) {i : Int} {v : List Bd} (h0 : 0 ≤ i) (h1 : i < l.length) (hv : outR l i = v) : (outersM l).take (i + 1).toNat = (outersM l).take i.toNat ++ [v] := by
  rw [take_succG [] h0 (by rw [len_outersM]; exact h1), ← hv, ← outR_outers hk h0 h1]; rfl
theorem bind_pushR {l : List Nd} (hk : okM l = true) {i : Int} {b : Bd} (h0 : 0 ≤ i) (h1 : i < l.length) (hb : binderR l i = b) : (bindsM l).take (i + 1).toNat = (bindsM l).take i.toNat ++ [b] := by
  rw [binderR_in hk h0 h1] at hb; exact bind_push h0 h1 hb
def seedR (l : List Nd) : List Fc := if okM l then seedM l else []
theorem seedR_yes {l : List Nd} (h : okM l = true) : seedR l = seedM l := by unfold seedR; rw [if_pos h]
theorem seedR_no {l : List Nd} (h : okM l = false) : seedR l = [] := by unfold seedR; rw [h]; rfl
theorem seed_at {l : List Nd} {fs : List Fc} {i yk yn yc a b c : Int} (hf : fs = seedM l) (h0 : 0 ≤ i) (h1 : i < fs.length) (hy : rF fs i = ⟨yk, yn, yc, ⟨a, b, c⟩⟩) : yk = 6 ∧ yn = l.length - 1 ∧ yc = 0 ∧ a = 0 ∧ b = 0 ∧ c = 0 := by
  subst hf
  have : i = 0 := by simp only [seedM, List.length_singleton] at h1; omega
  subst this
  have : rF (seedM l) 0 = ⟨6, l.length - 1, 0, ⟨0, 0, 0⟩⟩ := rfl
  rw [this] at hy
  injection hy with e1 e2 e3 e4
  injection e4 with e4 e5 e6
  exact ⟨e1.symm, e2.symm, e3.symm, e4.symm, e5.symm, e6.symm⟩
theorem seed_ok (l : List Nd) : okF (seedM l) = true := decide_eq_true ⟨List.pairwise_singleton _ _, by simp [seedM]⟩
theorem prM_ok {l : List Nd} (hT : OkT l) (dp : Int) : PrOk (prM l dp) := by
  have hs := hT.size
  refine ⟨hs.2, len_bindsM l, len_outersM l, fun bs hb => ?_, fun b hb => ?_, fun bs hb b hbb => ?_⟩
  · obtain ⟨f, hf, rfl⟩ := List.mem_map.1 hb
    have hfl := List.mem_range.1 hf
    split
    · rename_i hl; exact len_outerM ⟨hs.2, hT.downs, len_bindsM l⟩ ⟨by omega, by omega⟩ hl
    · simp
  · obtain ⟨f, hf, rfl⟩ := List.mem_map.1 hb
    rcases bindS_role l f with h | ⟨_, h | h⟩
    · rw [h]; decide
    · rw [h]; decide
    · rw [h]; decide
  · obtain ⟨f, hf, rfl⟩ := List.mem_map.1 hb
    have hfl := List.mem_range.1 hf
    split at hbb
    · rename_i hl
      have := (outerM_role hT (by omega) (by omega) hl hbb).2
      omega
    · cases hbb
theorem Fit.old {l : List Nd} {fs : List Fc} (h : Fit l fs) (hl : fs.length ≤ 2500) (dp : Int) : Old (prM l dp) fs := ⟨h.up, h.vk, hl, h.vn, h.node⟩
theorem Fit.fok {l : List Nd} {fs : List Fc} (h : Fit l fs) (hl : fs.length ≤ 2500) : Fok l fs := ⟨h.up, hl, fun f hf => ⟨h.vk f hf, (h.vn f hf).1⟩, fun f hf => (h.vn f hf).2, h.lam, h.node⟩
theorem Clo.lok {l : List Nd} (h : Clo l) : Lok l (bindsM l) := ⟨h.ok.size.2, h.ok.downs, len_bindsM l⟩
theorem flowB_clo {l : List Nd} {dp : Int} (h : flowB l dp = true) : Clo l := by
  unfold flowB at h; rw [Bool.and_eq_true] at h; exact cloB_iff.1 h.1
theorem solveR_no {l : List Nd} {dp : Int} (h : solveO l dp = none) : solveR l dp = ([], false) := by unfold solveR; rw [h]
theorem solveR_yes {l : List Nd} {dp : Int} {r : List Fc} (h : solveO l dp = some r) : solveR l dp = (r, true) := by unfold solveR; rw [h]
theorem solveO_flow {l : List Nd} {dp : Int} (h : flowB l dp = false) : solveO l dp = none := by unfold solveO; rw [h]; rfl
theorem solve_start {l : List Nd} {dp : Int} (h : flowB l dp = true) : Fit l (seedM l) ∧ (seedM l).length ≤ 2500 ∧ solveN l dp 400 (seedM l) = solveO l dp := by
  refine ⟨seed_fit (flowB_clo h).ok, by simp [seedM], ?_⟩
  unfold solveO; rw [if_pos h]
theorem solve_many {l : List Nd} {dp i : Int} {fs v : List Fc} {r : Option (List Fc)} (h0 : i < 400) (h1 : solveN l dp (400 - i).toNat fs = r) (hv : passM l dp fs = v) (hl : 2500 < (v.length : Int)) : r = none := by
  rw [show (400 - i).toNat = (400 - (i + 1)).toNat + 1 by omega, solveN, hv, if_pos (by omega)] at h1; exact h1.symm
theorem solve_same {l : List Nd} {dp i : Int} {fs v : List Fc} {r : Option (List Fc)} (h0 : i < 400) (h1 : solveN l dp (400 - i).toNat fs = r) (hv : passM l dp fs = v) (hl : (v.length : Int) ≤ 2500) (he : (v.length : Int) = fs.length) : r = some v := by
  rw [show (400 - i).toNat = (400 - (i + 1)).toNat + 1 by omega, solveN, hv, if_neg (by omega), if_pos (by omega)] at h1; exact h1.symm
theorem solve_next {l : List Nd} {dp i : Int} {fs v : List Fc} {r : Option (List Fc)} (h0 : i < 400) (h1 : solveN l dp (400 - i).toNat fs = r) (hv : passM l dp fs = v) (hl : (v.length : Int) ≤ 2500) (he : ¬(v.length : Int) = fs.length) : solveN l dp (400 - (i + 1)).toNat v = r := by
  rw [show (400 - i).toNat = (400 - (i + 1)).toNat + 1 by omega, solveN, hv, if_neg (by omega), if_neg (by omega)] at h1; exact h1
theorem solve_end {l : List Nd} {dp i : Int} {fs : List Fc} {r : Option (List Fc)} (h0 : 400 ≤ i) (h1 : solveN l dp (400 - i).toNat fs = r) : r = none := by
  rw [show (400 - i).toNat = 0 by omega, solveN] at h1; exact h1.symm
theorem may_no {l : List Nd} {dp : Int} {v : List Fc} (h : solveR l dp = (v, false)) : true = mayM l dp := by
  unfold solveR at h; unfold mayM
  split at h
  · simp at h
  · rfl
theorem may_yes {l : List Nd} {dp : Int} {v : List Fc} {b : Bool} (h : solveR l dp = (v, true)) (hb : (okF v && decide ((⟨7, l.length - 1, 0, ⟨0, 0, 0⟩⟩ : Fc) ∈ v)) = b) : b = mayM l dp := by
  unfold solveR at h; unfold mayM
  split at h
  · rename_i fs hs
    simp only [Prod.mk.injEq, and_true] at h
    subst h
    rw [← hb]
    have := (solveO_fit hs).2
    have hk : okF fs = true := decide_eq_true ⟨this.1.up, this.2⟩
    rw [hk, Bool.true_and]
  · simp at h
theorem solveR_fit {l : List Nd} {dp : Int} {v : List Fc} (h : solveR l dp = (v, true)) : Up v ∧ v.length ≤ 2500 ∧ 1 ≤ l.length := by
  unfold solveR at h
  split at h
  · rename_i fs hs
    simp only [Prod.mk.injEq, and_true] at h
    subst h
    have := solveO_fit hs
    exact ⟨this.2.1.up, this.2.2, this.1.ok.size.1⟩
  · simp at h
theorem Lw.kind {tk : List Nat} {t : Tok} {n : Nat} (h : Lw tk t n) : t = .nil ∨ ∃ i, t = .own i := by cases h with
  | nil => exact .inl rfl
  | own i _ _ => exact .inr ⟨i, rfl⟩
end Go.Mach
end
section
set_option linter.unusedVariables false
set_option linter.unusedSimpArgs false
namespace Go.Mach
open Go Go.RowKit
def FreeSpec (g : List D → Option D) : Prop := ∀ l : List Nd, okM l = true → Sz l → ∃ r : List ByteArray, g [.sl .ro 7 (eNd l)] = some (.sl .ro 1 (eB r)) ∧ ((r.length : Int) = 0 ↔ ((freeR l).length : Int) = 0)
def PassSpec (g : List D → Option D) : Prop := ∀ (l : List Nd) (dp : Int) (fs : List Fc), Clo l → Fit l fs → fs.length ≤ 2500 →
  g [.sl .ro 7 (eNd l), .sl .ro 2 (eBd (bindsM l)), .int .i64 dp, .sl .ro 6 (eFc fs)] = some (.tup [.sl .nw 6 (eFc (passM l dp fs)), .bool (decide ((passM l dp fs).length ≤ 2500))])
theorem clo_len2 {l : List Nd} (hk : okM l = true) {r : List ByteArray} {q : Bool} (h : (r.length : Int) = 0 ↔ ((freeR l).length : Int) = 0) (hq : q = decide ((r.length : Int) = 0)) : q = cloB l := by
  refine clo_len hk rfl ?_
  rw [hq]; exact decide_eq_decide.2 h
theorem flow_eq2 {l : List Nd} {dp : Int} {q : Bool} (h : cloB l = true) (hq : q = decide (0 ≤ dp ∧ dp ≤ 2)) : q = flowB l dp := flow_eq h hq
end Go.Mach
end
section
set_option linter.unusedVariables false
set_option linter.unusedSimpArgs false
namespace Go.Mach
open Go Go.RowKit
def rawN (l : List Nd) : Nat → List ByteArray
  | 0 => []
  | n + 1 => if freeB l n then rawN l n ++ [(rN l n).f5] else rawN l n
theorem len_rawN (l : List Nd) (n : Nat) : (rawN l n).length ≤ n ∧ (1 ≤ (rawN l n).length ↔ ∃ i, i < n ∧ freeB l i = true) := by
  induction n with
  | zero => exact ⟨Nat.le_refl _, by simp [rawN]⟩
  | succ n ih =>
    rw [rawN]
    split
    · rename_i h
      rw [List.length_append, List.length_singleton]
      exact ⟨by omega, fun _ => ⟨n, by omega, h⟩, fun _ => by omega⟩
    · rename_i h
      refine ⟨by omega, ih.2.trans ⟨fun ⟨i, h1, h2⟩ => ⟨i, by omega, h2⟩, fun ⟨i, h1, h2⟩ => ⟨i, ?_, h2⟩⟩⟩
      by_cases e : i = n
      · subst e; exact absurd h2 h
      · omega
theorem raw_len {l : List Nd} (hk : okM l = true) : (rawN l l.length).length = 0 ↔ (freeR l).length = 0 := by
  have h1 := (len_rawN l l.length).2
  have h2 := (len_freeN l l.length).2
  unfold freeR; rw [if_pos hk]
  have := h1.trans h2.symm
  omega
theorem rB_binds {l : List Nd} {i : Int} (h0 : 0 ≤ i) (h1 : i < l.length) : rB (bindsM l) i = bindS l i := by
  have h2 : i.toNat < l.length := by omega
  unfold rB rdG bindsM
  rw [List.getD_eq_getElem?_getD, List.getElem?_map, List.getElem?_range h2]
  simp only [Option.map_some, Option.getD_some, Int.toNat_of_nonneg h0]
theorem raw_yes {l : List Nd} {i : Int} {y : Nd} {b : Bd} (h0 : 0 ≤ i) (h1 : i < l.length) (hy : rN l i = y) (h2 : y.f0 = 1) (hb : rB (bindsM l) i = b) (h3 : b.f0 < 0) : rawN l (i + 1).toNat = rawN l i.toNat ++ [y.f5] := by
  rw [rB_binds h0 h1] at hb
  rw [show (i + 1).toNat = i.toNat + 1 by omega, rawN, Int.toNat_of_nonneg h0, if_pos (by unfold freeB; rw [hy, hb, decide_eq_true h2, decide_eq_true h3]; rfl), hy]
theorem raw_no1 {l : List Nd} {i : Int} {y : Nd} (h0 : 0 ≤ i) (hy : rN l i = y) (h2 : ¬ y.f0 = 1) : rawN l (i + 1).toNat = rawN l i.toNat := by
  rw [show (i + 1).toNat = i.toNat + 1 by omega, rawN, Int.toNat_of_nonneg h0, if_neg (by unfold freeB; rw [hy, decide_eq_false h2]; exact Bool.false_ne_true)]
theorem raw_no2 {l : List Nd} {i : Int} {b : Bd} (h0 : 0 ≤ i) (h1 : i < l.length) (hb : rB (bindsM l) i = b) (h3 : ¬ b.f0 < 0) : rawN l (i + 1).toNat = rawN l i.toNat := by
  rw [rB_binds h0 h1] at hb
  rw [show (i + 1).toNat = i.toNat + 1 by omega, rawN, Int.toNat_of_nonneg h0, if_neg (by unfold freeB; rw [hb, decide_eq_false h3, Bool.and_false]; exact Bool.false_ne_true)]
def dedN (l : List ByteArray) : Nat → List ByteArray
  | 0 => []
  | n + 1 => if n = 0 ∨ ¬ (rS l ((n : Int) - 1)).toList = (rS l n).toList then dedN l n ++ [rS l n] else dedN l n
theorem len_dedN (l : List ByteArray) (n : Nat) : (dedN l n).length ≤ n ∧ (1 ≤ n → 1 ≤ (dedN l n).length) := by
  induction n with
  | zero => exact ⟨Nat.le_refl _, fun h => by omega⟩
  | succ n ih =>
    rw [dedN]
    split
    · rw [List.length_append, List.length_singleton]; exact ⟨by omega, fun _ => by omega⟩
    · rename_i h
      refine ⟨by omega, fun _ => ih.2 ?_⟩
      refine Decidable.byContradiction fun h0 => h (.inl (by omega))
theorem ded_first {l : List ByteArray} {i : Int} {y : ByteArray} (h : i = 0) (hy : rS l i = y) : dedN l (i + 1).toNat = dedN l i.toNat ++ [y] := by
  subst h; subst hy; show dedN l 1 = _; rw [dedN, if_pos (.inl rfl)]; rfl
theorem ded_new {l : List ByteArray} {i : Int} {x y : ByteArray} (h0 : 0 ≤ i) (hy : rS l i = y) (hx : rS l (i - 1) = x) (h : ¬ x.toList = y.toList) : dedN l (i + 1).toNat = dedN l i.toNat ++ [y] := by
  rw [show (i + 1).toNat = i.toNat + 1 by omega, dedN, Int.toNat_of_nonneg h0, if_pos (.inr (by rw [hx, hy]; exact h)), hy]
theorem ded_old {l : List ByteArray} {i : Int} {x y : ByteArray} (h0 : 0 ≤ i) (hi : ¬ i = 0) (hy : rS l i = y) (hx : rS l (i - 1) = x) (h : x.toList = y.toList) : dedN l (i + 1).toNat = dedN l i.toNat := by
  rw [show (i + 1).toNat = i.toNat + 1 by omega, dedN, Int.toNat_of_nonneg h0, if_neg]
  rintro (h1 | h1)
  · omega
  · rw [hx, hy] at h1; exact h1 h
theorem ded_len {l : List ByteArray} : (dedN l l.length).length = 0 ↔ l.length = 0 := by
  have := len_dedN l l.length
  omega
end Go.Mach
end
section
set_option linter.unusedVariables false
set_option linter.unusedSimpArgs false
namespace Go.Mach
open Go Go.RowKit Go.Proofs
set_option maxRecDepth 100000
set_option maxHeartbeats 1000000
theorem impl_namesOf.ans {xa xb : Option (List D → Option D)} (o : Std) (ho : o = std) (k : Int) : Ans (env xa xb) 151 [.int .i64 k] (.int .i64 (((namesM k : Nat) : Int))) := by
  refine Ans.mkA ho _ rfl rfl ?_
  repeat' (first
    | (refine Den.id ?_
       (try (conv => arg 2; cbv))
       first
         | refine Den.test1 (by with_reducible assumption) ?_
         | (refine Den.test (fun hr => ?_) (fun hr => ?_) <;> (have hb := hr) <;> (try simp (disch := omega) only [ho, std, wI, len_eK, len_eB, len_eNd, len_eLNd, len_eFc, len_eAb, len_eBd, len_eEd, len_eLBd, Classical.not_not, decide_eq_true_eq, decide_eq_false_iff_not, beq_iff_eq, beq_eq_false_iff_ne, ne_eq, Bool.not_eq_true', Bool.not_eq_false', gt_iff_lt, ge_iff_le, Int.not_lt, Int.not_le] at hb) <;> (try (exfalso; first | contradiction | omega | exact hb rfl)))
         | (refine Den.done ⟨by first | exact Or.inl rfl | exact Or.inr rfl, ?_⟩; (conv => lhs; cbv); refine congrArg some ?_))
    | ((fail_if_success (refine Den.id ?_))
       first
         | (subst ho; refine dI ?_; simp [namesM, *]; done)))
theorem impl_IsWord.ans {xa xb : Option (List D → Option D)} (o : Std) (ho : o = std) (s : ByteArray) (h0 : s.size ≤ 1048576) : Ans (env xa xb) 214 [.str s] (.bool (wordB s)) := by
  refine Ans.mkA ho _ rfl rfl ?_
  repeat' (first
    | (refine Den.id ?_
       (try (conv => arg 2; cbv))
       first
         | (refine Den.indF (fun m_ s_ => ∃ (a3 : Int) (tk : List Nat), s_ = ⟨[.str s, .junk, .junk, .int .i64 a3] ++ List.replicate 19 .junk, [], [], tk⟩ ∧ (0 ≤ a3 ∧ a3 ≤ s.size ∧ (∀ i : Nat, (i : Int) < a3 → 97 ≤ std.byte s i ∧ std.byte s i ≤ 122)) ∧ (s.size - a3).toNat ≤ m_) _ _ ⟨_, _, by subst ho; rfl, ?_, Nat.le_refl _⟩ ?_
            rotate_right
            rintro m_ _ ⟨a3, tk, rfl, hIa, hka⟩ iha
            obtain ⟨i1, i2, i3⟩ := hIa; refine Den.unloopA ho ?_
            repeat' (first
              | (refine Den.id ?_
                 (try (conv => arg 2; cbv))
                 first
                   | refine Den.testT ?_
                   | refine Den.test1 (by with_reducible assumption) ?_
                   | refine Den.test0 (by with_reducible assumption) ?_
                   | (refine Den.test (fun hr => ?_) (fun hr => ?_) <;> (have hb := hr) <;> (try simp (disch := omega) only [ho, std, wI, len_eK, len_eB, len_eNd, len_eLNd, len_eFc, len_eAb, len_eBd, len_eEd, len_eLBd, Classical.not_not, decide_eq_true_eq, decide_eq_false_iff_not, beq_iff_eq, beq_eq_false_iff_ne, ne_eq, Bool.not_eq_true', Bool.not_eq_false', gt_iff_lt, ge_iff_le, Int.not_lt, Int.not_le] at hb) <;> (try (exfalso; first | contradiction | omega | exact hb rfl)))
                   | (refine Den.pcallE (β := Bool) (fun v => .bool v) (as' := [.int .i64 _, .int .i64 _, .int .i64 _]) (by first | with_reducible rfl | (subst ho; rfl)) (impl_in.ans o ho _ _ _) ?_; rotate_left 0; rintro (_ | _) hv <;> (try simp only [decide_eq_true_eq, decide_eq_false_iff_not] at hv) <;> (try first | contradiction | exact absurd (hv.symm.trans (show _ = false by assumption)) (by decide) | exact absurd (hv.symm.trans (show _ = true by assumption)) (by decide)))
                   | (refine Den.need ?_ ?_)
                   | (refine iha _ _ ?_ ⟨_, _, by subst ho; rfl, ?_, Nat.le_refl _⟩)
                   | (refine Den.done ⟨by first | exact Or.inl rfl | exact Or.inr rfl, ?_⟩; (conv => lhs; cbv); refine congrArg some ?_))
              | ((fail_if_success (refine Den.id ?_))
                 first
                   | (subst ho; exact ⟨Int.le_refl 0, by omega, fun i hi => absurd hi (by omega)⟩)
                   | (subst ho; refine dB ?_; exact wordB_no i1 (by omega) (by first | exact hv | (simp only [std]; omega)))
                   | (subst ho; refine dB ?_; first | exact wordB_end (by omega) i3 (decide_eq_true hv).symm | exact wordB_end (by omega) i3 (decide_eq_false hv).symm)
                   | (subst ho; simp (disch := omega) only [std, wI]; exact ⟨by omega, by omega, word_step i1 i3 (by first | exact hv | (simp only [std]; omega))⟩)
                   | (subst ho; simp (disch := omega) only [std, wI]; omega)
                   | (subst ho; simp [std, len_eFc, len_eNd, len_eBd, len_eAb, len_eLBd, len_eK, len_eB]; omega)))))
    | ((fail_if_success (refine Den.id ?_))
       first
         | fail))
theorem impl_IsKey.ans {xa xb : Option (List D → Option D)} (o : Std) (ho : o = std) (s : ByteArray) : Ans (env xa xb) 215 [.str s] (.bool (keyB s)) := by
  refine Ans.mkA ho _ rfl rfl ?_
  have hkl : keyL.length = 20 := rfl
  repeat' (first
    | (refine Den.id ?_
       (try (conv => arg 2; cbv))
       first
         | (refine Den.extE (r := keyL) (fun v => .sl .ro 1 (o.bx fun _ => eB v)) (g := splitX) (as' := [.str keyS, .str spaceS]) (by rfl) (by rfl) (by subst ho; simp [splitX, std]) ?_; rintro v hv)
         | (refine Den.indF (fun m_ s_ => ∃ (a5 : List ByteArray) (a6 : Int) (a7 : Int) (ta5 : Tok) (tk : List Nat), s_ = ⟨[.str s, .junk, .junk, .junk, .junk, .sl ta5 1 (o.bx fun _ => eB a5), .int .i64 a6, .int .i64 a7] ++ List.replicate 7 .junk, [], [], tk⟩ ∧ (a5 = keyL ∧ a6 = a5.length ∧ 0 ≤ a7 ∧ a7 ≤ 20 ∧ (keyL.take a7.toNat).any (fun k => eqS k s) = false) ∧ (20 - a7).toNat ≤ m_) _ _ ⟨_, _, _, _, _, by subst ho; rfl, ?_, Nat.le_refl _⟩ ?_
            rotate_right
            rintro m_ _ ⟨a5, a6, a7, ta5, tk, rfl, hIa, hka⟩ iha
            obtain ⟨i0, i4, i1, i2, i3⟩ := hIa; have hal : a5.length = 20 := (by rw [i0]; exact hkl); refine Den.unloopA ho ?_
            repeat' (first
              | (refine Den.id ?_
                 (try (conv => arg 2; cbv))
                 first
                   | (refine Den.test (fun hr => ?_) (fun hr => ?_) <;> (have hb := hr) <;> (try simp (disch := omega) only [ho, std, wI, len_eK, len_eB, len_eNd, len_eLNd, len_eFc, len_eAb, len_eBd, len_eEd, len_eLBd, Classical.not_not, decide_eq_true_eq, decide_eq_false_iff_not, beq_iff_eq, beq_eq_false_iff_ne, ne_eq, Bool.not_eq_true', Bool.not_eq_false', gt_iff_lt, ge_iff_le, Int.not_lt, Int.not_le] at hb) <;> (try (exfalso; first | contradiction | omega | exact hb rfl)))
                   | (refine Den.fetchXB ho ?_ ?_ (fun y hy => ?_); rotate_left 2)
                   | (refine iha _ _ ?_ ⟨_, _, _, _, _, by subst ho; rfl, ?_, Nat.le_refl _⟩)
                   | (refine Den.done ⟨by first | exact Or.inl rfl | exact Or.inr rfl, ?_⟩; (conv => lhs; cbv); refine congrArg some ?_))
              | ((fail_if_success (refine Den.id ?_))
                 first
                   | (subst ho; exact ⟨Eq.symm hv, by simp [std, len_eB], Int.le_refl _, by omega, rfl⟩)
                   | (refine dB ?_; rw [i0] at hy; exact keyB_hit i1 (by omega) hy (by assumption))
                   | (refine dB ?_; exact keyB_end (by omega) i3)
                   | (simp (disch := omega) only [ho, std, wI]; rw [i0] at hy; exact ⟨i0, i4, by omega, by omega, key_step i1 (by omega) i3 hy (by assumption)⟩)
                   | assumption
                   | omega
                   | (subst ho; simp (disch := omega) only [std, wI, tdiv2, tdivN, len_eFc, len_eNd, len_eBd, len_eAb, len_eLBd, len_eK, len_eB] <;> first | done | rfl | omega)))))
    | ((fail_if_success (refine Den.id ?_))
       first
         | fail))
theorem impl_isName.ans {xa xb : Option (List D → Option D)} (o : Std) (ho : o = std) (s : ByteArray) (h0 : s.size ≤ 1048576) : Ans (env xa xb) 190 [.str s] (.bool (nameB s)) := by
  refine Ans.mkA ho _ rfl rfl ?_
  repeat' (first
    | (refine Den.id ?_
       (try (conv => arg 2; cbv))
       first
         | refine Den.testT ?_
         | refine Den.testF ?_
         | (refine Den.pcallE (β := Bool) (fun v => .bool v) (as' := [.str _]) (by first | with_reducible rfl | (subst ho; rfl)) (impl_IsWord.ans o ho _ ?_) ?_; rotate_left 1; rintro (_ | _) hv <;> (try simp only [decide_eq_true_eq, decide_eq_false_iff_not] at hv) <;> (try first | contradiction | exact absurd (hv.symm.trans (show _ = false by assumption)) (by decide) | exact absurd (hv.symm.trans (show _ = true by assumption)) (by decide)))
         | (refine Den.pcallE (β := Bool) (fun v => .bool v) (as' := [.str _]) (by first | with_reducible rfl | (subst ho; rfl)) (impl_IsKey.ans o ho _) ?_; rotate_left 0; rintro (_ | _) hv <;> (try simp only [decide_eq_true_eq, decide_eq_false_iff_not] at hv) <;> (try first | contradiction | exact absurd (hv.symm.trans (show _ = false by assumption)) (by decide) | exact absurd (hv.symm.trans (show _ = true by assumption)) (by decide)))
         | (refine Den.done ⟨by first | exact Or.inl rfl | exact Or.inr rfl, ?_⟩; (conv => lhs; cbv); refine congrArg some ?_))
    | ((fail_if_success (refine Den.id ?_))
       first
         | (subst ho; refine dB ?_; unfold nameB; simp [*, std]; done)
         | assumption))
theorem impl_nameFits.ans {xa xb : Option (List D → Option D)} (o : Std) (ho : o = std) (s : ByteArray) (b : Bool) (h0 : s.size ≤ 1048576) : Ans (env xa xb) 150 [.str s, .bool b] (.bool (nfitB s b)) := by
  refine Ans.mkA ho _ rfl rfl ?_
  repeat' (first
    | (refine Den.id ?_
       (try (conv => arg 2; cbv))
       first
         | (refine Den.test (fun hr => ?_) (fun hr => ?_) <;> (have hb := hr) <;> (try simp (disch := omega) only [ho, std, wI, len_eK, len_eB, len_eNd, len_eLNd, len_eFc, len_eAb, len_eBd, len_eEd, len_eLBd, Classical.not_not, decide_eq_true_eq, decide_eq_false_iff_not, beq_iff_eq, beq_eq_false_iff_ne, ne_eq, Bool.not_eq_true', Bool.not_eq_false', gt_iff_lt, ge_iff_le, Int.not_lt, Int.not_le] at hb) <;> (try (exfalso; first | contradiction | omega | exact hb rfl)))
         | (refine Den.pcallE (β := Bool) (fun v => .bool v) (as' := [.str _]) (by first | with_reducible rfl | (subst ho; rfl)) (impl_isName.ans o ho _ ?_) ?_; rotate_left 1; rintro (_ | _) hv <;> (try simp only [decide_eq_true_eq, decide_eq_false_iff_not] at hv) <;> (try first | contradiction | exact absurd (hv.symm.trans (show _ = false by assumption)) (by decide) | exact absurd (hv.symm.trans (show _ = true by assumption)) (by decide)))
         | (refine Den.done ⟨by first | exact Or.inl rfl | exact Or.inr rfl, ?_⟩; (conv => lhs; cbv); refine congrArg some ?_))
    | ((fail_if_success (refine Den.id ?_))
       first
         | (subst ho; refine dB ?_; unfold nfitB; simp [*, std, eqS]; done)
         | assumption))
end Go.Mach
end
section
set_option linter.unusedVariables false
set_option linter.unusedSimpArgs false
namespace Go.Mach
open Go Go.RowKit Go.Proofs
set_option maxRecDepth 100000
set_option maxHeartbeats 1000000
theorem impl_Kids.ans {xa xb : Option (List D → Option D)} (o : Std) (ho : o = std) (n_f0 : Int) (n_f1 : Int) (n_f2 : Int) (n_f3 : Int) (n_f4 : Int) (n_f5 : ByteArray) (n_f6 : ByteArray) : Ans (env xa xb) 123 [.agg [.int .i64 n_f0, .int .i64 n_f1, .int .i64 n_f2, .int .i64 n_f3, .int .i64 n_f4, .str n_f5, .str n_f6]] (.sl .ro 1 (o.bx fun _ => eK .i64 (kidsM (⟨n_f0, n_f1, n_f2, n_f3, n_f4, n_f5, n_f6⟩ : Nd)))) := by
  refine Ans.mkA ho _ rfl rfl ?_
  have har := arityM_le n_f0
  repeat' (first
    | (refine Den.id ?_
       (try (conv => arg 2; cbv))
       first
         | (refine Den.pcallE (β := Int) (fun v => .int .i64 v) (as' := [.int .i64 _]) (by first | with_reducible rfl | (subst ho; rfl)) (impl_Arity.ans o ho _) ?_; rotate_left 0; rintro v hv)
         | (refine Den.needD ho (by kernel_rfl) ?_)
         | (refine Den.need ?_ ?_)
         | (refine Den.done ⟨by first | exact Or.inl rfl | exact Or.inr rfl, ?_⟩; (conv => lhs; cbv); refine congrArg some ?_))
    | ((fail_if_success (refine Den.id ?_))
       first
         | (subst_vars; refine congrArg (D.sl Tok.ro 1) ?_; simp [std, kidsM, eK, List.map_take]; done)
         | (subst ho; simp [std, len_eFc, len_eNd, len_eBd, len_eAb, len_eLBd, len_eK, len_eB]; omega)))
end Go.Mach
end
