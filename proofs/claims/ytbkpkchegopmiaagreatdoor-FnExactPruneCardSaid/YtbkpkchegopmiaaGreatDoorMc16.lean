/- What the statements share: part 16 of a proof by an executable machine over the program's code. -/
import Derived.Test.YtbkpkchegopmiaaGreatDoorMc15
set_option linter.unusedVariables false
set_option linter.unusedSimpArgs false
namespace Go.Mach
open Go Go.RowKit
def l6T (s : ByteArray) (p : List ByteArray × Bool) (x : ByteArray) : List ByteArray × Bool := ((if !p.2 && gtS x s then p.1 ++ [s] else p.1) ++ [x], p.2 || gtS x s)
def l6S (s : ByteArray) (l : List ByteArray) : List ByteArray × Bool := l.foldl (l6T s) ([], false)
def anyS (s : ByteArray) (l : List ByteArray) : Bool := l.any fun x => eqS x s
def sortM (l : List ByteArray) (s : ByteArray) : List ByteArray := if anyS s l then l else if (l6S s l).2 then (l6S s l).1 else (l6S s l).1 ++ [s]
theorem l6S_succ {s : ByteArray} {l : List ByteArray} {i : Int} {y : ByteArray} (h0 : 0 ≤ i) (h1 : i < l.length) (hy : rS l i = y) : l6S s (l.take (i + 1).toNat) = l6T s (l6S s (l.take i.toNat)) y := by
 rw [take_succG ByteArray.empty h0 h1, show rdG ByteArray.empty l i = y from hy, l6S, List.foldl_append]; rfl
theorem anyS_succ {s : ByteArray} {l : List ByteArray} {i : Int} {y : ByteArray} (h0 : 0 ≤ i) (h1 : i < l.length) (hy : rS l i = y) (h : anyS s (l.take i.toNat) = false) (hn : ¬ y.toList = s.toList) : anyS s (l.take (i + 1).toNat) = false := by
 unfold anyS at *
 rw [take_succG ByteArray.empty h0 h1, show rdG ByteArray.empty l i = y from hy, List.any_append, h]
 simp [eqS, hn]
theorem anyS_hit {s : ByteArray} {l : List ByteArray} {i : Int} {y : ByteArray} (h0 : 0 ≤ i) (h1 : i < l.length) (hy : rS l i = y) (hn : y.toList = s.toList) : l = sortM l s := by
 have : anyS s l = true := List.any_eq_true.2 ⟨rS l i, rdG_mem h0 h1, by rw [hy]; unfold eqS; rw [hn]; exact beq_self_eq_true _⟩
 unfold sortM; rw [if_pos this]
theorem sortM_end {s : ByteArray} {l : List ByteArray} {i : Int} {q : Bool} (h : l.length ≤ i) (ha : anyS s (l.take i.toNat) = false) (hq : q = (l6S s (l.take i.toNat)).2) : sortM l s = if q then (l6S s (l.take i.toNat)).1 else (l6S s (l.take i.toNat)).1 ++ [s] := by
 subst hq
 rw [take_allG h] at *
 unfold sortM; rw [if_neg (by rw [ha]; exact Bool.false_ne_true)]
theorem len_l6S (s : ByteArray) (l : List ByteArray) : (l6S s l).1.length = l.length + (l6S s l).2.toNat := by
 unfold l6S
 have : ∀ (l : List ByteArray) (a : List ByteArray) (b : Bool) (n : Nat), a.length = n + b.toNat → (l.foldl (l6T s) (a, b)).1.length = n + l.length + (l.foldl (l6T s) (a, b)).2.toNat := by
  intro l
  induction l with
  | nil => intro a b n h; exact h
  | cons x l ih =>
    intro a b n h
    rw [List.foldl_cons]
    have hs : l6T s (a, b) x = ((if !b && gtS x s then a ++ [s] else a) ++ [x], b || gtS x s) := rfl
    rw [hs, ih _ _ (n + 1) ?_, List.length_cons]
    · omega
    · cases b <;> cases gtS x s <;> simp at h ⊢ <;> omega
 have := this l [] false 0 rfl
 omega
theorem len_sortM (l : List ByteArray) (s : ByteArray) : l.length ≤ (sortM l s).length ∧ (sortM l s).length ≤ l.length + 1 ∧ 1 ≤ (sortM l s).length := by
 unfold sortM
 have := len_l6S s l
 split
 · rename_i h
   obtain ⟨x, hx, _⟩ := List.any_eq_true.1 h
   have := List.length_pos_of_mem hx
   omega
 · split
   · rename_i h; rw [h] at this; have h1 : (true : Bool).toNat = 1 := rfl; omega
   · have h1 := Bool.toNat_le (l6S s l).2
     rename_i h; have h2 : (l6S s l).2 = false := by simpa using h
     rw [h2] at this; have h3 : (false : Bool).toNat = 0 := rfl
     rw [List.length_append, List.length_singleton]; omega
def freeB (l : List Nd) (i : Int) : Bool := decide ((rN l i).f0 = 1) && decide ((bindS l i).f0 < 0)
def freeN (l : List Nd) : Nat → List ByteArray
 | 0 => []
 | n + 1 => if freeB l n then sortM (freeN l n) (rN l n).f5 else freeN l n
def freeR (l : List Nd) : List ByteArray := if okM l then freeN l l.length else []
theorem len_freeN (l : List Nd) (n : Nat) : (freeN l n).length ≤ n ∧ (1 ≤ (freeN l n).length ↔ ∃ i, i < n ∧ freeB l i = true) := by
 induction n with
 | zero => exact ⟨Nat.le_refl _, by simp [freeN]⟩
 | succ n ih =>
   rw [freeN]
   split
   · rename_i h
     have := len_sortM (freeN l n) (rN l n).f5
     exact ⟨by omega, fun _ => ⟨n, by omega, h⟩, fun _ => this.2.2⟩
   · rename_i h
     refine ⟨by omega, ih.2.trans ⟨fun ⟨i, h1, h2⟩ => ⟨i, by omega, h2⟩, fun ⟨i, h1, h2⟩ => ⟨i, ?_, h2⟩⟩⟩
     by_cases e : i = n
     · subst e; exact absurd h2 h
     · omega
theorem clo_len {l : List Nd} (hk : okM l = true) {n : Int} {q : Bool} (hn : n = (freeR l).length) (hq : q = decide (n = 0)) : q = cloB l := by
 subst hq; subst hn
 unfold cloB freeR
 rw [hk, if_pos rfl, Bool.true_and]
 apply decide_eq_decide.2
 have h := (len_freeN l l.length).2
 constructor
 · intro h0 i hi h1
   refine Decidable.byContradiction fun h2 => ?_
   have : freeB l i = true := by unfold freeB; rw [decide_eq_true h1, decide_eq_true (by omega)]; rfl
   have := h.2 ⟨i, hi, this⟩
   omega
 · intro ha
   refine Decidable.byContradiction fun h0 => ?_
   obtain ⟨i, h1, h2⟩ := h.1 (by omega)
   unfold freeB at h2
   rw [Bool.and_eq_true, decide_eq_true_eq, decide_eq_true_eq] at h2
   have := ha i h1 h2.1
   omega
theorem clo_no {l : List Nd} (hk : okM l = false) : false = cloB l := by unfold cloB; rw [hk]; rfl
theorem binderR_in {l : List Nd} (hk : okM l = true) {i : Int} (h0 : 0 ≤ i) (h1 : i < l.length) : binderR l i = bindS l i := by unfold binderR; rw [if_pos ⟨hk, h0, h1⟩]
theorem freeN_yes {l : List Nd} (hk : okM l = true) {i : Int} {y : Nd} {b : Bd} {v : List ByteArray} (h0 : 0 ≤ i) (h1 : i < l.length) (hy : rN l i = y) (h2 : y.f0 = 1) (hb : binderR l i = b) (h3 : b.f0 < 0) (hv : sortM (freeN l i.toNat) y.f5 = v) : v = freeN l (i + 1).toNat := by
 rw [binderR_in hk h0 h1] at hb
 rw [show (i + 1).toNat = i.toNat + 1 by omega, freeN, Int.toNat_of_nonneg h0, if_pos (by unfold freeB; rw [hy, hb, decide_eq_true h2, decide_eq_true h3]; rfl), hy, hv]
theorem freeN_no1 {l : List Nd} {i : Int} {y : Nd} (h0 : 0 ≤ i) (hy : rN l i = y) (h2 : ¬ y.f0 = 1) : freeN l i.toNat = freeN l (i + 1).toNat := by
 rw [show (i + 1).toNat = i.toNat + 1 by omega, freeN, Int.toNat_of_nonneg h0, if_neg (by unfold freeB; rw [hy, decide_eq_false h2]; exact Bool.false_ne_true)]
theorem freeN_no2 {l : List Nd} (hk : okM l = true) {i : Int} {b : Bd} (h0 : 0 ≤ i) (h1 : i < l.length) (hb : binderR l i = b) (h3 : ¬ b.f0 < 0) : freeN l i.toNat = freeN l (i + 1).toNat := by
 rw [binderR_in hk h0 h1] at hb
 rw [show (i + 1).toNat = i.toNat + 1 by omega, freeN, Int.toNat_of_nonneg h0, if_neg (by unfold freeB; rw [hb, decide_eq_false h3, Bool.and_false]; exact Bool.false_ne_true)]
theorem freeR_end {l : List Nd} (hk : okM l = true) {i : Int} (h0 : (l.length : Int) = i) : freeR l = freeN l i.toNat := by
 unfold freeR; rw [if_pos hk, ← h0]; rfl
theorem freeR_no {l : List Nd} (hk : okM l = false) : freeR l = [] := by unfold freeR; rw [hk]; rfl
theorem flow_eq {l : List Nd} {dp : Int} {q : Bool} (h : cloB l = true) (hq : q = decide (0 ≤ dp ∧ dp ≤ 2)) : q = flowB l dp := by unfold flowB; rw [h, Bool.true_and, hq]
theorem flow_no {l : List Nd} {dp : Int} (h : cloB l = false) : false = flowB l dp := by unfold flowB; rw [h]; rfl
theorem freeR_z {l : List Nd} {i : Int} {v : List ByteArray} (h0 : ¬ 0 < i) (h1 : 0 ≤ i) (hz : okM l = false ∨ l.length ≤ 0) (hv : v = freeN l i.toNat) : v = freeR l := by
 have : i = 0 := by omega
 subst this
 rw [hv]
 unfold freeR
 rcases hz with hz | hz
 · rw [if_neg (by rw [hz]; exact Bool.false_ne_true)]; rfl
 · rw [show l.length = 0 by omega]; split <;> rfl
theorem l6_ins {s y : ByteArray} {p : List ByteArray × Bool} {a : Bool} (i0 : a = p.2) (h : a = false) (hg : gtS y s = true) : l6T s p y = ((p.1 ++ [s]) ++ [y], true) := by
 unfold l6T; rw [← i0, h, hg]; rfl
theorem l6_keep {s y : ByteArray} {p : List ByteArray × Bool} {a : Bool} (i0 : a = p.2) (h : a = true ∨ (a = false ∧ gtS y s = false)) : l6T s p y = (p.1 ++ [y], a) := by
 unfold l6T; rw [← i0]
 rcases h with h | ⟨h, h2⟩
 · rw [h]; rfl
 · rw [h, h2]; rfl
theorem sortM_t {s : ByteArray} {l : List ByteArray} {i : Int} {q : Bool} (h : l.length ≤ i) (ha : anyS s (l.take i.toNat) = false) (hq : q = (l6S s (l.take i.toNat)).2) (ht : q = true) : (l6S s (l.take i.toNat)).1 = sortM l s := by rw [sortM_end h ha hq, if_pos ht]
theorem sortM_f {s : ByteArray} {l : List ByteArray} {i : Int} {q : Bool} (h : l.length ≤ i) (ha : anyS s (l.take i.toNat) = false) (hq : q = (l6S s (l.take i.toNat)).2) (ht : q = false) : sortM l s = (l6S s (l.take i.toNat)).1 ++ [s] := by rw [sortM_end h ha hq, if_neg (by rw [ht]; exact Bool.false_ne_true)]
theorem freeR_fin {l : List Nd} {i : Int} (h0 : (l.length : Int) = i) (h : 0 < i → okM l = true) : freeN l i.toNat = freeR l := by
 by_cases hz : 0 < i
 · exact (freeR_end (h hz) h0).symm
 · exact freeR_z hz (by omega) (.inr (by omega)) rfl
def outR (l : List Nd) (f : Int) : List Bd := if okM l = true ∧ 0 ≤ f ∧ f < l.length ∧ lamB (rN l f) = true then outerM l (bindsM l) f else []
theorem outR_no {l : List Nd} {f : Int} (h : okM l = false ∨ ¬(0 ≤ f ∧ f ≤ l.length - 1) ∨ ∃ y, rN l f = y ∧ lamB y = false) : outR l f = [] := by
 unfold outR
 rw [if_neg]
 rintro ⟨h1, h2, h3, h4⟩
 rcases h with h | h | ⟨y, h, h5⟩
 · rw [h] at h1; cases h1
 · omega
 · rw [h, h5] at h4; cases h4
theorem outR_yes {l : List Nd} {f i : Int} {y : Nd} (hk : okM l = true) (h : 0 ≤ f ∧ f < l.length) (hy : rN l f = y) (hl : lamB y = true) (hi : i = y.f1 + 1) : outerN l (bindsM l) f (i - startM l y.f1).toNat = outR l f := by
 subst hy
 unfold outR outerM
 rw [if_pos ⟨hk, h.1, h.2, hl⟩, hi]
theorem startOfR_in {l : List Nd} {i : Int} (hk : okM l = true) (h : 0 ≤ i ∧ i < l.length) : startOfR l i = startM l i := by unfold startOfR; rw [if_pos ⟨hk, h⟩]
def skipP (l : List Nd) (f : Int) (y : Nd) (b : Bd) : Prop := (b.f0 < f ∧ 0 ≤ b.f0 ∧ startM l y.f1 ≤ b.f0) ∨ b.f0 < 0 ∨ (b.f0 = f ∧ b.f1 = parm y)
theorem out_kn {l : List Nd} (hT : OkT l) {f i : Int} {y : Nd} {b : Bd} (h : 0 ≤ f ∧ f < l.length) (hy : rN l f = y) (hl : lamB y = true) (hi0 : startM l y.f1 ≤ i) (hi1 : i ≤ y.f1) (hb : bindS l i = b) : knB l (bindsM l) f b = true ↔ skipP l f y b := by
 subst hy
 have hd := hT.downs f h.1 h.2 (lam_ar hl)
 have hs := startM_le hT.downs hd.1 (by omega)
 rw [skip_eq hT h.1 h.2 hl hi0 hi1 ((rB_bindsM (by omega) (by omega)).trans hb), decide_eq_true_eq]
 exact Iff.rfl
theorem out_keep {l : List Nd} (hT : OkT l) {f i : Int} {y : Nd} {b : Bd} (h : 0 ≤ f ∧ f < l.length) (hy : rN l f = y) (hl : lamB y = true) (hi0 : startM l y.f1 ≤ i) (hi1 : i ≤ y.f1) (hb : bindS l i = b) (hk : skipP l f y b ∨ (outerN l (bindsM l) f (i - startM l y.f1).toNat).any (fun x => decide (x = b)) = true) :
  outerN l (bindsM l) f (i + 1 - startM l y.f1).toNat = outerN l (bindsM l) f (i - startM l y.f1).toNat := by
 have hd := hT.downs f h.1 h.2 (by rw [hy]; exact lam_ar hl)
 have hs := startM_le hT.downs hd.1 (by omega)
 have hkn := out_kn hT h hy hl hi0 hi1 hb
 refine outerN_keep (b := b) (by rw [hy]) hi0 ((rB_bindsM (by rw [hy] at hs; omega) (by rw [hy] at hd; omega)).trans hb) ?_
 rw [Bool.or_eq_true]
 rcases hk with hk | hk
 · exact .inl (hkn.2 hk)
 · exact .inr hk
theorem out_push {l : List Nd} (hT : OkT l) {f i : Int} {y : Nd} {b : Bd} (h : 0 ≤ f ∧ f < l.length) (hy : rN l f = y) (hl : lamB y = true) (hi0 : startM l y.f1 ≤ i) (hi1 : i ≤ y.f1) (hb : bindS l i = b) (hk : ¬ skipP l f y b) (ha : (outerN l (bindsM l) f (i - startM l y.f1).toNat).any (fun x => decide (x = b)) = false) :
  outerN l (bindsM l) f (i + 1 - startM l y.f1).toNat = outerN l (bindsM l) f (i - startM l y.f1).toNat ++ [b] := by
 have hd := hT.downs f h.1 h.2 (by rw [hy]; exact lam_ar hl)
 have hs := startM_le hT.downs hd.1 (by omega)
 have hkn := out_kn hT h hy hl hi0 hi1 hb
 refine outerN_push (b := b) (by rw [hy]) hi0 ((rB_bindsM (by rw [hy] at hs; omega) (by rw [hy] at hd; omega)).trans hb) ?_
 rw [Bool.or_eq_false_iff]
 exact ⟨by rw [← Bool.not_eq_true]; exact fun q => hk (hkn.1 q), ha⟩
theorem len_out {l : List Nd} (f : Int) (us : List Bd) (n : Nat) : (outerN l us f n).length ≤ n := len_outerN l us f n
theorem Apart.symm {t u : Tok} (h : Apart t u) : Apart u t := fun i h1 h2 => h i h2 h1
theorem Lw.lv {tk : List Nat} {t : Tok} {n : Nat} (h : Lw tk t n) : Lv tk t n := by cases h with
 | nil => exact .nil
 | own i n h => exact .own i n h
theorem Den.app22 {E : Env} {Q : X → S → Prop} {t u : Tok} {n m k0 : Nat} {tk : List Nat} {k : Tok → List Nat → T} (hu : Lw tk u k0) (hp : Apart t u) (h : Lw tk t n) (hk : ∀ t' tk', Lw tk' t' (n + m) → Lw tk' u k0 → Apart t' u → Den E (k t' tk') Q) : Den E (.app t n m tk k) Q := by
 have fresh : ∀ x : Nat, Lw (tk ++ [x]) u k0 ∧ Apart (.own tk.length) u := fun x => by
  cases hu with
  | nil => exact ⟨.nil, fun i _ h => by cases h⟩
  | own i _ hi =>
    have := (List.getElem?_eq_some_iff.1 hi).1
    exact ⟨.own _ _ (by rw [List.getElem?_append_left this]; exact hi), fun j h1 h2 => by injection h1 with h1; injection h2 with h2; omega⟩
 cases h with
 | nil =>
   by_cases h : m = 0
   · subst h; exact Den.app (t' := .nil) (tk' := tk) (by simp [appTok]) (hk _ _ .nil hu hp)
   · exact Den.app (t' := .own tk.length) (tk' := tk ++ [0 + m]) (by simp [appTok, h]) (hk _ _ (.own _ _ (by simp)) (fresh _).1 (fresh 0).2)
 | own i n h =>
   have hi := (List.getElem?_eq_some_iff.1 h).1
   refine Den.app (t' := .own i) (tk' := tk.set i (n + m)) (by simp [appTok, h]) (hk _ _ (.own _ _ (by simp [hi])) ?_ hp)
   cases hu with
   | nil => exact .nil
   | own j _ hj =>
     have : i ≠ j := fun e => hp i rfl (by rw [e])
     exact .own _ _ (by rw [List.getElem?_set_ne this]; exact hj)
theorem push_eLBd {a b : List (List Bd)} {x : List Bd} (h : b = a ++ [x]) : std.app (eLBd a) [[.sl .ro 2 (eBd x)]] = eLBd b := by subst h; simp [std, eLBd]
theorem outR_outers {l : List Nd} (hk : okM l = true) {i : Int} (h0 : 0 ≤ i) (h1 : i < l.length) : rLB (outersM l) i = outR l i := by
 rw [rLB_outersM h0 h1]
 unfold outR
 by_cases h : lamB (rN l i) = true
 · rw [if_pos h, if_pos ⟨hk, h0, h1, h⟩]
 · rw [if_neg h, if_neg (fun q => h q.2.2.2)]
theorem outers_push {l : List Nd} (hk : okM l = true) {i : Int} {v : List Bd} (h0 : 0 ≤ i) (h1 : i < l.length) (hv : outR l i = v) : (outersM l).take (i + 1).toNat = (outersM l).take i.toNat ++ [v] := by
 rw [take_succG [] h0 (by rw [len_outersM]; exact h1), ← hv, ← outR_outers hk h0 h1]; rfl
theorem bind_pushR {l : List Nd} (hk : okM l = true) {i : Int} {b : Bd} (h0 : 0 ≤ i) (h1 : i < l.length) (hb : binderR l i = b) : (bindsM l).take (i + 1).toNat = (bindsM l).take i.toNat ++ [b] := by
 rw [binderR_in hk h0 h1] at hb; exact bind_push h0 h1 hb
def seedR (l : List Nd) : List Fc := if okM l then seedM l else []
theorem seedR_yes {l : List Nd} (h : okM l = true) : seedR l = seedM l := by unfold seedR; rw [if_pos h]
theorem seedR_no {l : List Nd} (h : okM l = false) : seedR l = [] := by unfold seedR; rw [h]; rfl
theorem seed_at {l : List Nd} {fs : List Fc} {i yk yn yc a b c : Int} (hf : fs = seedM l) (h0 : 0 ≤ i) (h1 : i < fs.length) (hy : rF fs i = ⟨yk, yn, yc, ⟨a, b, c⟩⟩) : yk = 6 ∧ yn = l.length - 1 ∧ yc = 0 ∧ a = 0 ∧ b = 0 ∧ c = 0 := by
 subst hf
 have : i = 0 := by simp only [seedM, List.length_singleton] at h1; omega
 subst this
 have : rF (seedM l) 0 = ⟨6, l.length - 1, 0, ⟨0, 0, 0⟩⟩ := rfl
 rw [this] at hy
 injection hy with e1 e2 e3 e4
 injection e4 with e4 e5 e6
 exact ⟨e1.symm, e2.symm, e3.symm, e4.symm, e5.symm, e6.symm⟩
theorem seed_ok (l : List Nd) : okF (seedM l) = true := decide_eq_true ⟨List.pairwise_singleton _ _, by simp [seedM]⟩
theorem prM_ok {l : List Nd} (hT : OkT l) (dp : Int) : PrOk (prM l dp) := by
 have hs := hT.size
 refine ⟨hs.2, len_bindsM l, len_outersM l, fun bs hb => ?_, fun b hb => ?_, fun bs hb b hbb => ?_⟩
 · obtain ⟨f, hf, rfl⟩ := List.mem_map.1 hb
   have hfl := List.mem_range.1 hf
   split
   · rename_i hl; exact len_outerM ⟨hs.2, hT.downs, len_bindsM l⟩ ⟨by omega, by omega⟩ hl
   · simp
 · obtain ⟨f, hf, rfl⟩ := List.mem_map.1 hb
   rcases bindS_role l f with h | ⟨_, h | h⟩
   · rw [h]; decide
   · rw [h]; decide
   · rw [h]; decide
 · obtain ⟨f, hf, rfl⟩ := List.mem_map.1 hb
   have hfl := List.mem_range.1 hf
   split at hbb
   · rename_i hl
     have := (outerM_role hT (by omega) (by omega) hl hbb).2
     omega
   · cases hbb
theorem Fit.old {l : List Nd} {fs : List Fc} (h : Fit l fs) (hl : fs.length ≤ 2500) (dp : Int) : Old (prM l dp) fs := ⟨h.up, h.vk, hl, h.vn, h.node⟩
theorem Fit.fok {l : List Nd} {fs : List Fc} (h : Fit l fs) (hl : fs.length ≤ 2500) : Fok l fs := ⟨h.up, hl, fun f hf => ⟨h.vk f hf, (h.vn f hf).1⟩, fun f hf => (h.vn f hf).2, h.lam, h.node⟩
theorem Clo.lok {l : List Nd} (h : Clo l) : Lok l (bindsM l) := ⟨h.ok.size.2, h.ok.downs, len_bindsM l⟩
theorem flowB_clo {l : List Nd} {dp : Int} (h : flowB l dp = true) : Clo l := by
 unfold flowB at h; rw [Bool.and_eq_true] at h; exact cloB_iff.1 h.1
theorem solveR_no {l : List Nd} {dp : Int} (h : solveO l dp = none) : solveR l dp = ([], false) := by unfold solveR; rw [h]
theorem solveR_yes {l : List Nd} {dp : Int} {r : List Fc} (h : solveO l dp = some r) : solveR l dp = (r, true) := by unfold solveR; rw [h]
theorem solveO_flow {l : List Nd} {dp : Int} (h : flowB l dp = false) : solveO l dp = none := by unfold solveO; rw [h]; rfl
theorem solve_start {l : List Nd} {dp : Int} (h : flowB l dp = true) : Fit l (seedM l) ∧ (seedM l).length ≤ 2500 ∧ solveN l dp 400 (seedM l) = solveO l dp := by
 refine ⟨seed_fit (flowB_clo h).ok, by simp [seedM], ?_⟩
 unfold solveO; rw [if_pos h]
theorem solve_many {l : List Nd} {dp i : Int} {fs v : List Fc} {r : Option (List Fc)} (h0 : i < 400) (h1 : solveN l dp (400 - i).toNat fs = r) (hv : passM l dp fs = v) (hl : 2500 < (v.length : Int)) : r = none := by
 rw [show (400 - i).toNat = (400 - (i + 1)).toNat + 1 by omega, solveN, hv, if_pos (by omega)] at h1; exact h1.symm
theorem solve_same {l : List Nd} {dp i : Int} {fs v : List Fc} {r : Option (List Fc)} (h0 : i < 400) (h1 : solveN l dp (400 - i).toNat fs = r) (hv : passM l dp fs = v) (hl : (v.length : Int) ≤ 2500) (he : (v.length : Int) = fs.length) : r = some v := by
 rw [show (400 - i).toNat = (400 - (i + 1)).toNat + 1 by omega, solveN, hv, if_neg (by omega), if_pos (by omega)] at h1; exact h1.symm
theorem solve_next {l : List Nd} {dp i : Int} {fs v : List Fc} {r : Option (List Fc)} (h0 : i < 400) (h1 : solveN l dp (400 - i).toNat fs = r) (hv : passM l dp fs = v) (hl : (v.length : Int) ≤ 2500) (he : ¬(v.length : Int) = fs.length) : solveN l dp (400 - (i + 1)).toNat v = r := by
 rw [show (400 - i).toNat = (400 - (i + 1)).toNat + 1 by omega, solveN, hv, if_neg (by omega), if_neg (by omega)] at h1; exact h1
theorem solve_end {l : List Nd} {dp i : Int} {fs : List Fc} {r : Option (List Fc)} (h0 : 400 ≤ i) (h1 : solveN l dp (400 - i).toNat fs = r) : r = none := by
 rw [show (400 - i).toNat = 0 by omega, solveN] at h1; exact h1.symm
theorem may_no {l : List Nd} {dp : Int} {v : List Fc} (h : solveR l dp = (v, false)) : true = mayM l dp := by
 unfold solveR at h; unfold mayM
 split at h
 · simp at h
 · rfl
theorem may_yes {l : List Nd} {dp : Int} {v : List Fc} {b : Bool} (h : solveR l dp = (v, true)) (hb : (okF v && decide ((⟨7, l.length - 1, 0, ⟨0, 0, 0⟩⟩ : Fc) ∈ v)) = b) : b = mayM l dp := by
 unfold solveR at h; unfold mayM
 split at h
 · rename_i fs hs
   simp only [Prod.mk.injEq, and_true] at h
   subst h
   rw [← hb]
   have := (solveO_fit hs).2
   have hk : okF fs = true := decide_eq_true ⟨this.1.up, this.2⟩
   rw [hk, Bool.true_and]
 · simp at h
theorem solveR_fit {l : List Nd} {dp : Int} {v : List Fc} (h : solveR l dp = (v, true)) : Up v ∧ v.length ≤ 2500 ∧ 1 ≤ l.length := by
 unfold solveR at h
 split at h
 · rename_i fs hs
   simp only [Prod.mk.injEq, and_true] at h
   subst h
   have := solveO_fit hs
   exact ⟨this.2.1.up, this.2.2, this.1.ok.size.1⟩
 · simp at h
theorem Lw.kind {tk : List Nat} {t : Tok} {n : Nat} (h : Lw tk t n) : t = .nil ∨ ∃ i, t = .own i := by cases h with
 | nil => exact .inl rfl
 | own i _ _ => exact .inr ⟨i, rfl⟩
def FreeSpec (g : List D → Option D) : Prop := ∀ l : List Nd, okM l = true → Sz l → ∃ r : List ByteArray, g [.sl .ro 7 (eNd l)] = some (.sl .ro 1 (eB r)) ∧ ((r.length : Int) = 0 ↔ ((freeR l).length : Int) = 0)
def PassSpec (g : List D → Option D) : Prop := ∀ (l : List Nd) (dp : Int) (fs : List Fc), Clo l → Fit l fs → fs.length ≤ 2500 →
 g [.sl .ro 7 (eNd l), .sl .ro 2 (eBd (bindsM l)), .int .i64 dp, .sl .ro 6 (eFc fs)] = some (.tup [.sl .nw 6 (eFc (passM l dp fs)), .bool (decide ((passM l dp fs).length ≤ 2500))])
theorem clo_len2 {l : List Nd} (hk : okM l = true) {r : List ByteArray} {q : Bool} (h : (r.length : Int) = 0 ↔ ((freeR l).length : Int) = 0) (hq : q = decide ((r.length : Int) = 0)) : q = cloB l := by
 refine clo_len hk rfl ?_
 rw [hq]; exact decide_eq_decide.2 h
theorem flow_eq2 {l : List Nd} {dp : Int} {q : Bool} (h : cloB l = true) (hq : q = decide (0 ≤ dp ∧ dp ≤ 2)) : q = flowB l dp := flow_eq h hq
def faM (l : List Fc) (f : Fc) : List Fc := if okF l = true ∧ l.length < 2500 then ins l f else l
theorem fa_no {l : List Fc} {f : Fc} (h : okF l = false ∨ 2500 ≤ (l.length : Int)) : faM l f = l := by
 unfold faM; rw [if_neg]; rintro ⟨h1, h2⟩
 rcases h with h | h
 · rw [h] at h1; cases h1
 · omega
theorem fa_has {l : List Fc} {f : Fc} (h : okF l = true) (hf : f ∈ l) : faM l f = l := by
 have hu : Up l := (of_decide_eq_true h).1
 unfold faM
 split
 · rw [ins_eq, if_pos ((mem_posF hu).1 hf)]
 · rfl
theorem fa_new {l : List Fc} {f : Fc} {v : Int} (h : okF l = true) (hl : (l.length : Int) < 2500) (hf : f ∉ l) (hv : ((posF l f : Nat) : Int) = v) : faM l f = l.take v.toNat ++ f :: l.drop v.toNat := by
 have hu : Up l := (of_decide_eq_true h).1
 unfold faM
 rw [if_pos ⟨h, by omega⟩]
 refine ins_put hv fun h1 e => hf ((mem_posF hu).2 ⟨by omega, ?_⟩)
 subst hv; exact e
theorem fa_seed {l : List Nd} {i : Int} {f : Fc} {v : List Fc} (h0 : 0 ≤ i) (h1 : i < 1) (hf : rF (seedM l) i = f) (hv : faM ((seedM l).take i.toNat) f = v) : v = (seedM l).take (i + 1).toNat := by
 have : i = 0 := by omega
 subst this
 subst hv
 have e : f = ⟨6, l.length - 1, 0, ⟨0, 0, 0⟩⟩ := hf.symm
 subst e
 rfl
theorem Den.emp {E : Env} {Q : X → S → Prop} {o : Std} (ho : o = std) {i : Decidable (o.empty [] = true)} {a b : T} (h : Den E a Q) : Den E (@ite T (o.empty [] = true) i a b) Q := by
 subst ho; rw [if_pos (show std.empty [] = true from rfl)]; exact h
theorem may_yesI {l : List Nd} {dp : Int} {v : List Fc} {b : Bool} (h : solveR l dp = (v, true)) (hb : decide ((⟨7, l.length - 1, 0, ⟨0, 0, 0⟩⟩ : Fc) ∈ v) = b) : b = mayM l dp := by
 have hs := solveR_fit h
 have hk : okF v = true := decide_eq_true ⟨hs.1, hs.2.1⟩
 exact may_yes h (by rw [hk, Bool.true_and]; exact hb)
def SzL (a : List Nd) : Prop := (a.length : Int) ≤ 1048576 ∧ ∀ x ∈ a, x.f5.size ≤ 1048576 ∧ x.f6.size ≤ 1048576
def Bg (a : List Nd) : Prop := (a.length : Int) ≤ 9223372036854775807 ∧ ∀ x ∈ a, x.f5.size ≤ 9223372036854775807 ∧ x.f6.size ≤ 9223372036854775807
theorem Bg.at {a : List Nd} (h : Bg a) {i : Int} {y : Nd} (h0 : 0 ≤ i) (h1 : i < a.length) (hy : rN a i = y) : y.f5.size ≤ 9223372036854775807 ∧ y.f6.size ≤ 9223372036854775807 := by
 subst hy; exact h.2 _ (rdG_mem h0 h1)
theorem sz_step {a : List Nd} {i : Int} {y : Nd} (h0 : 0 ≤ i) (h1 : i < a.length) (hs : ∀ x ∈ a.take i.toNat, x.f5.size ≤ 1048576 ∧ x.f6.size ≤ 1048576) (hy : rN a i = y) (h : y.f5.size ≤ 1048576 ∧ y.f6.size ≤ 1048576) : ∀ x ∈ a.take (i + 1).toNat, x.f5.size ≤ 1048576 ∧ x.f6.size ≤ 1048576 := by
 rw [take_succG zNd h0 h1, show rdG zNd a i = y from hy]
 intro x hx
 rcases List.mem_append.1 hx with hx | hx
 · exact hs x hx
 · rw [List.mem_singleton.1 hx]; exact h
theorem sz_end {a : List Nd} {i r : Int} (h : a.length ≤ i) (hl : (a.length : Int) ≤ 1048576) (hs : ∀ x ∈ a.take i.toNat, x.f5.size ≤ 1048576 ∧ x.f6.size ≤ 1048576) : SzL a := by
 rw [take_allG h] at hs; exact ⟨hl, hs⟩
theorem SzL.sz {a : List Nd} (h : SzL a) : Sz a := h.2
def cpB (a : List Nd) (i : Int) : List Nd := a.take i.toNat ++ List.replicate (a.length - i.toNat) zNd
theorem cpB_zero (a : List Nd) : cpB a 0 = List.replicate a.length zNd := by simp [cpB]
theorem cpB_len {a : List Nd} {i : Int} (h0 : 0 ≤ i) (h1 : i ≤ a.length) : (cpB a i).length = a.length := by
 unfold cpB; simp; omega
theorem cpB_set {a : List Nd} {i : Int} {y : Nd} (h0 : 0 ≤ i) (h1 : i < a.length) (hy : rN a i = y) : (cpB a i).set i.toNat y = cpB a (i + 1) := by
 unfold cpB
 rw [take_succG zNd h0 h1, show rdG zNd a i = y from hy, show a.length - i.toNat = (a.length - (i + 1).toNat) + 1 by omega, List.replicate_succ, List.set_append, if_neg (by simp; omega)]
 simp [show i.toNat - min i.toNat a.length = 0 by omega]
theorem cpB_end {a : List Nd} {i : Int} (h : (a.length : Int) = i) : cpB a i = a := by
 unfold cpB; rw [← h]; simp
theorem rep_eNd (n : Nat) : List.replicate n (cNd zNd) = eNd (List.replicate n zNd) := by simp [eNd]
theorem set_eNd (l : List Nd) (i : Nat) (x : Nd) : (eNd l).set i (cNd x) = eNd (l.set i x) := by simp [eNd, List.map_set]
theorem cells_eNd (l : List Nd) : (eNd l).all (fun e => e.all D.cell) = true := by simp [eNd, cNd, D.cell]
theorem len_flat_those {α : Type} {fs : List Fc} (hl : fs.length ≤ 2500) {g : Ab → List Fc} {K : Nat} (h : ∀ x, (g x).length ≤ K) (k n c kd : Int) : ((thoseL fs k n c kd).flatMap g).length ≤ 2500 * K :=
 Nat.le_trans (len_flatMap_le g K h _) (Nat.mul_le_mul_right _ (Nat.le_trans (len_those fs k n c kd) hl))
theorem len_bothI {l : List Nd} {us : List Bd} {fs : List Fc} (hF : Fok l fs) (hL : Lok l us) (dp i c : Int) (n : Nd) (a b : Plc) : (bothI l us dp fs i c n a b).length ≤ 960000000 := by
 unfold bothI
 have h1 := len_calls hF hL (k := a.k) (n := a.n) (c0 := a.c) rfl i c dp b (thoseL fs a.k a.n a.c 1).length
 rw [List.take_length] at h1
 have h2 := len_those fs a.k a.n a.c 1
 have h3 := hF.len
 have h4 : (thoseL fs a.k a.n a.c 1).length * 380002 ≤ 2500 * 380002 := Nat.mul_le_mul_right _ (by omega)
 have h5 := len_flowPI hF a ⟨3, i, c⟩
 have h6 := len_flowPI hF b ⟨4, i, c⟩
 have h7 := len_flat_those (α := Nat) hF.len (g := fun r => flowP fs b ⟨5, r.n, r.c⟩) (fun r => len_flowPI hF b _) a.k a.n a.c 5
 (repeat' split) <;> (try simp only [List.length_append, List.length_nil, List.length_cons]) <;> omega
theorem len_matchI {l : List Nd} {fs : List Fc} (hF : Fok l fs) (i c : Int) (n : Nd) (a : Plc) : (matchI fs i c n a).length ≤ 13000000 := by
 unfold matchI
 have h7 : ∀ a b, (seeL a b).length = 1 := fun _ _ => rfl
 have h1 := len_flat_those (α := Nat) hF.len (K := 5001) (g := fun v => seeL n.f3 c ++ flowL fs 3 v.n v.c 1 i c ++ flowL fs 4 v.n v.c 2 i c) (fun v => by
  have h1 := len_flowI hF 3 v.n v.c 1 i c
  have h2 := len_flowI hF 4 v.n v.c 2 i c
  simp only [List.length_append, h7]; omega) a.k a.n a.c 4
 have h2 := len_flowI hF 0 n.f2 c 0 i c
 have h3 := len_flowI hF 0 n.f3 c 0 i c
 (repeat' split) <;> (try simp only [List.length_append, List.length_nil, List.length_cons, h7]) <;> omega
theorem len_takeL {l : List Nd} {fs : List Fc} (hF : Fok l fs) (a b d e f k n c kd : Int) : (takeL fs a b d e f (thoseL fs k n c kd)).length ≤ 2500 * 2500 :=
 len_flat_those (α := Nat) hF.len (fun v => len_flowI hF _ _ _ _ _ _) _ _ _ _
theorem len_oneI {l : List Nd} {fs : List Fc} (hF : Fok l fs) (i c : Int) (n : Nd) (a : Plc) : (oneI fs i c n a).length ≤ 7000000 := by
 unfold oneI
 have h7 : ∀ a b, (seeL a b).length = 1 := fun _ _ => rfl
 have h1 := fun k p d kd => len_takeL hF k p d i c a.k a.n a.c kd
 have h2 := h1 3 3 0 3
 have h3 := h1 3 4 0 3
 have h4 := h1 5 5 0 5
 have h5 := len_flowPI hF a ⟨5, i, c⟩
 have h6 := len_flowPI hF a ⟨0, i, c⟩
 have h8 := len_flowI hF 0 n.f2 c 0 i c
 (repeat' split) <;> (try simp only [List.length_append, List.length_nil, List.length_cons, h7]) <;> omega
theorem len_otherI {l : List Nd} {us : List Bd} {fs : List Fc} (hF : Fok l fs) (hL : Lok l us) (dp i c : Int) (n : Nd) : (otherI l us dp fs i c n).length ≤ 965000000 := by
 unfold otherI
 have h7 : ∀ a b, (seeL a b).length = 1 := fun _ _ => rfl
 have h8 := len_flatMap_le _ 1 (fun v => len_kidI fs n.f0 i c v) (kidsM n).zipIdx
 have h9 := len_kidsM n
 have h10 := arityM_le n.f0
 rw [List.length_zipIdx] at h8
 have h1 := len_bothI hF hL dp i c n ⟨0, n.f1, c⟩ ⟨0, n.f2, c⟩
 have h2 := len_matchI hF i c n ⟨0, n.f1, c⟩
 have h3 := len_oneI hF i c n ⟨0, n.f1, c⟩
 have h4 := len_flowI hF 0 n.f1 c 1 i c
 have h5 := len_flowI hF 0 n.f2 c 0 i c
 have h6 := len_flowI hF 0 n.f3 c 0 i c
 (repeat' split) <;> (try simp only [List.length_append, List.length_nil, List.length_cons, h7]) <;> omega
theorem len_nodeI {l : List Nd} {us : List Bd} {fs : List Fc} (hF : Fok l fs) (hL : Lok l us) (dp i c : Int) : (nodeI l us dp fs i c).length ≤ 970000000 := by
 unfold nodeI
 have h7 : ∀ a b, (seeL a b).length = 1 := fun _ _ => rfl
 have h1 := len_otherI hF hL dp i c (rN l i)
 have h2 := len_flowPI hF (nameAt (rB us i) c) ⟨0, i, c⟩
 have h3 := len_flowI hF 0 (rN l i).f2 c 0 i c
 have h4 := len_rise (hasR fs (rN l i).f2 c) i c
 dsimp only
 (repeat' split) <;> (try simp only [List.length_append, List.length_nil, List.length_cons, h7]) <;> omega
def moreT (l : List Nd) (us : List Bd) (dp : Int) (fs L : List Fc) : List Fc := L.flatMap fun f => if f.k = 6 then nodeI l us dp fs f.n f.c else []
theorem moreT_all (l : List Nd) (us : List Bd) (dp : Int) (fs : List Fc) : moreT l us dp fs fs = moreI l us dp fs := rfl
theorem len_moreT {l : List Nd} {us : List Bd} {fs : List Fc} (hF : Fok l fs) (hL : Lok l us) (dp : Int) (L : List Fc) : (moreT l us dp fs L).length ≤ L.length * 970000000 := by
 unfold moreT
 induction L with
 | nil => simp
 | cons x L ih =>
   rw [List.flatMap_cons, List.length_append, List.length_cons, Nat.succ_mul]
   have := len_nodeI hF hL dp x.n x.c
   split
   · omega
   · simp only [List.length_nil]; omega
theorem len_moreT2 {l : List Nd} {us : List Bd} {fs : List Fc} (hF : Fok l fs) (hL : Lok l us) (dp : Int) (n : Nat) : (moreT l us dp fs (fs.take n)).length ≤ 2425000000000 := by
 have h1 := len_moreT hF hL dp (fs.take n)
 have h2 := hF.len
 have h3 := List.length_take_le' n fs
 have h4 : (fs.take n).length * 970000000 ≤ 2500 * 970000000 := Nat.mul_le_mul_right _ (by omega)
 omega
theorem moreT_hit {l : List Nd} {us : List Bd} {dp : Int} {fs : List Fc} {i : Int} {y : Fc} (h0 : 0 ≤ i) (h1 : i < fs.length) (hy : rF fs i = y) (hk : y.k = 6) : moreT l us dp fs (fs.take (i + 1).toNat) = moreT l us dp fs (fs.take i.toNat) ++ nodeI l us dp fs y.n y.c := by
 rw [take_succG zF h0 h1, show rdG zF fs i = y from hy]
 unfold moreT
 rw [List.flatMap_append, List.flatMap_cons, List.flatMap_nil, if_pos hk, List.append_nil]
theorem moreT_miss {l : List Nd} {us : List Bd} {dp : Int} {fs : List Fc} {i : Int} {y : Fc} (h0 : 0 ≤ i) (h1 : i < fs.length) (hy : rF fs i = y) (hk : ¬ y.k = 6) : moreT l us dp fs (fs.take (i + 1).toNat) = moreT l us dp fs (fs.take i.toNat) := by
 rw [take_succG zF h0 h1, show rdG zF fs i = y from hy]
 unfold moreT
 rw [List.flatMap_append, List.flatMap_cons, List.flatMap_nil, if_neg hk, List.append_nil, List.append_nil]
theorem rF_node {l : List Nd} {fs : List Fc} (hF : Fok l fs) {i : Int} {y : Fc} (h0 : 0 ≤ i) (h1 : i < fs.length) (hy : rF fs i = y) : 0 ≤ y.n ∧ y.n < l.length := by
 subst hy; exact hF.node _ (rdG_mem h0 h1)
def insI (x : Int) : List Int → List Int
 | [] => [x]
 | a :: t => if a < x then a :: insI x t else if a = x then a :: t else x :: a :: t
def RisI (l : List Int) : Prop := l.Pairwise (· < ·)
theorem mem_insI {x y : Int} : ∀ {l : List Int}, y ∈ insI x l ↔ y = x ∨ y ∈ l
 | [] => by simp [insI]
 | a :: t => by
   unfold insI
   split
   · rw [List.mem_cons, mem_insI, List.mem_cons]
     constructor
     · rintro (h | h | h)
       · exact .inr (.inl h)
       · exact .inl h
       · exact .inr (.inr h)
     · rintro (h | h | h)
       · exact .inr (.inl h)
       · exact .inl h
       · exact .inr (.inr h)
   · split
     · rename_i h; subst h; simp
     · simp
theorem RisI.nil : RisI [] := List.Pairwise.nil
theorem RisI.ins (x : Int) : ∀ {l : List Int}, RisI l → RisI (insI x l)
 | [], _ => List.pairwise_singleton _ _
 | a :: t, h => by
   obtain ⟨h1, h2⟩ := List.pairwise_cons.1 h
   unfold insI
   split
   · rename_i hl
     refine List.pairwise_cons.2 ⟨fun y hy => ?_, RisI.ins x h2⟩
     rcases mem_insI.1 hy with rfl | hy
     · exact hl
     · exact h1 y hy
   · split
     · exact h
     · refine List.pairwise_cons.2 ⟨fun y hy => ?_, h⟩
       rcases List.mem_cons.1 hy with rfl | hy
       · omega
       · have := h1 y hy; omega
theorem len_insI (x : Int) : ∀ l : List Int, (insI x l).length ≤ l.length + 1
 | [] => by simp [insI]
 | a :: t => by
   have := len_insI x t
   unfold insI
   split
   · simp only [List.length_cons]; omega
   · split <;> simp
theorem insI_at {x : Int} : ∀ {l : List Int} (i : Nat), (∀ y ∈ l.take i, y < x) → insI x l = l.take i ++ insI x (l.drop i)
 | [], i, _ => by simp
 | a :: t, 0, _ => by simp
 | a :: t, i + 1, h => by
   have ha : a < x := h a (by simp)
   rw [insI, if_pos ha, List.take_succ_cons, List.drop_succ_cons, List.cons_append, insI_at (l := t) i (fun y hy => h y (by simp [hy]))]
theorem insI_snoc {x b : Int} (h : x < b) : ∀ m : List Int, insI x (m ++ [b]) = insI x m ++ [b]
 | [] => by simp only [List.nil_append, insI]; rw [if_neg (by omega), if_neg (by omega)]; rfl
 | a :: t => by
   rw [List.cons_append, insI, insI]
   split
   · rw [insI_snoc h t]; rfl
   · split <;> rfl
theorem insI_lt {x : Int} {l : List Int} (h : ∀ y ∈ l, y < x) : insI x l = l ++ [x] := by
 have := insI_at (l := l) l.length (by rw [List.take_length]; exact h)
 rw [this, List.take_length, List.drop_length]; rfl
theorem insI_mem {x : Int} : ∀ {l : List Int}, RisI l → x ∈ l → insI x l = l
 | a :: t, hr, h => by
   obtain ⟨h1, h2⟩ := List.pairwise_cons.1 hr
   rw [insI]
   rcases List.mem_cons.1 h with rfl | h
   · rw [if_neg (by omega), if_pos rfl]
   · rw [if_pos (h1 x h), insI_mem h2 h]
theorem drop_rdG {l : List Int} {i : Int} (h0 : 0 ≤ i) (h1 : i < l.length) : l.drop i.toNat = rI l i :: l.drop (i + 1).toNat := by
 have h2 : i.toNat < l.length := by omega
 rw [List.drop_eq_getElem_cons h2, show (i + 1).toNat = i.toNat + 1 by omega]
 congr 1
 simp [rI, rdG, h2]
theorem insI_put {x i : Int} {l : List Int} (h0 : 0 ≤ i) (h : ∀ y ∈ l.take i.toNat, y < x) (hi : i < l.length → x < rI l i) : insI x l = l.take i.toNat ++ x :: l.drop i.toNat := by
 rw [insI_at i.toNat h]
 congr 1
 by_cases hl : i < l.length
 · have := hi hl
   rw [drop_rdG h0 hl, insI, if_neg (by omega), if_neg (by omega)]
 · rw [List.drop_of_length_le (by omega)]; rfl
theorem insI_hit {x i : Int} {l : List Int} (h0 : 0 ≤ i) (h : ∀ y ∈ l.take i.toNat, y < x) (h1 : i < l.length) (hi : rI l i = x) : insI x l = l := by
 rw [insI_at i.toNat h, drop_rdG h0 h1, hi, insI, if_neg (by omega), if_pos rfl]
 rw [← hi, ← drop_rdG h0 h1, List.take_append_drop]
theorem lt_step {x i b : Int} {l : List Int} (h0 : 0 ≤ i) (h1 : i < l.length) (h : ∀ y ∈ l.take i.toNat, y < x) (hb : rI l i = b) (hx : b < x) : ∀ y ∈ l.take (i + 1).toNat, y < x := by
 rw [take_succG 0 h0 h1]
 intro y hy
 rcases List.mem_append.1 hy with hy | hy
 · exact h y hy
 · rw [List.mem_singleton.1 hy]; subst hb; exact hx
theorem gt_step {x i : Int} {l : List Int} (h0 : 0 ≤ i) (h1 : i < l.length) (h : ∀ y ∈ l.drop i.toNat, x < y) : ∀ y ∈ l.drop (i + 1).toNat, x < y := fun y hy => h y (by rw [drop_rdG h0 h1]; exact List.mem_cons_of_mem _ hy)
theorem gt_at {x i b : Int} {l : List Int} (h0 : 0 ≤ i) (h1 : i < l.length) (h : ∀ y ∈ l.drop i.toNat, x < y) (hb : rI l i = b) : x < b := h b (by rw [drop_rdG h0 h1, hb]; simp)
theorem gt_ris {x i b : Int} {l : List Int} (hr : RisI l) (h0 : 0 ≤ i) (h1 : i < l.length) (hb : rI l i = b) (hx : x < b) : ∀ y ∈ l.drop (i + 1).toNat, x < y := by
 have h2 : RisI (l.drop i.toNat) := List.Pairwise.sublist (List.drop_sublist _ _) hr
 rw [drop_rdG h0 h1, hb] at h2
 intro y hy
 have := (List.pairwise_cons.1 h2).1 y hy
 omega
def l12O (x : Int) (l : List Int) (i : Int) (d : Bool) : List Int := if d then insI x (l.take i.toNat) else l.take i.toNat
theorem len_l12O (x : Int) (l : List Int) (i : Int) (d : Bool) : (l12O x l i d).length ≤ l.length + 1 := by
 have := len_insI x (l.take i.toNat)
 have := List.length_take_le' i.toNat l
 unfold l12O; split <;> omega
theorem l12_put {x i b : Int} {l : List Int} (h0 : 0 ≤ i) (h1 : i < l.length) (h : ∀ y ∈ l.take i.toNat, y < x) (hb : rI l i = b) (hx : x < b) : l12O x l (i + 1) true = l.take i.toNat ++ [x] ++ [b] := by
 unfold l12O
 rw [if_pos rfl, take_succG 0 h0 h1, insI_snoc (by subst hb; exact hx), insI_lt h]
 subst hb; rfl
theorem l12_end {x i : Int} {l : List Int} (h : l.length ≤ i) (hd : ∀ y ∈ l.take i.toNat, y < x) : insI x l = l.take i.toNat ++ [x] := by
 rw [take_allG h] at hd ⊢; exact insI_lt hd
theorem l12_endT {x i : Int} {l : List Int} (h : l.length ≤ i) : insI x l = l12O x l i true := by
 unfold l12O; rw [if_pos rfl, take_allG h]
theorem pushI {l m : List Int} {x : Int} (h : m = l ++ [x]) : eK .i64 l ++ [[.int .i64 x]] = eK .i64 m := by subst h; simp [eK]
theorem push2I {l m : List Int} {x y : Int} (h : m = l ++ [x] ++ [y]) : eK .i64 l ++ [[.int .i64 x]] ++ [[.int .i64 y]] = eK .i64 m := by subst h; simp [eK]
theorem l12_putD {x i b : Int} {l : List Int} {d : Bool} (hd : d = false) (h0 : 0 ≤ i) (h1 : i < l.length) (h : d = false → ∀ y ∈ l.take i.toNat, y < x) (hb : rI l i = b) (hx : x < b) : l12O x l (i + 1) true = l12O x l i d ++ [x] ++ [b] := by
 subst hd; exact l12_put h0 h1 (h rfl) hb hx
theorem l12_fin {x i : Int} {l : List Int} {d : Bool} (hd : d = false) (h : l.length ≤ i) (hq : d = false → ∀ y ∈ l.take i.toNat, y < x) : insI x l = l12O x l i d ++ [x] := by
 subst hd; exact l12_end h (hq rfl)
theorem l12_finT {x i : Int} {l : List Int} {d : Bool} (hd : d = true) (h : l.length ≤ i) : insI x l = l12O x l i d := by subst hd; exact l12_endT h
theorem l12_go {x i b : Int} {l : List Int} (h0 : 0 ≤ i) (h1 : i < l.length) (d : Bool) (hb : rI l i = b) (hx : d = true → x < b) : l12O x l (i + 1) d = l12O x l i d ++ [b] := by
 unfold l12O
 cases d with
 | false => rw [if_neg (by simp), if_neg (by simp), take_succG 0 h0 h1]; subst hb; rfl
 | true => rw [if_pos rfl, if_pos rfl, take_succG 0 h0 h1, insI_snoc (by subst hb; exact hx rfl)]; subst hb; rfl
def collI (p : Fc → Bool) (g : Fc → Int) (fs : List Fc) : List Int := fs.foldl (fun out f => if p f then insI (g f) out else out) []
theorem coll_app (p : Fc → Bool) (g : Fc → Int) (fs : List Fc) (f : Fc) : collI p g (fs ++ [f]) = if p f then insI (g f) (collI p g fs) else collI p g fs := by
 unfold collI; rw [List.foldl_append]; rfl
theorem coll_hit {p : Fc → Bool} {g : Fc → Int} {fs : List Fc} {i : Int} {y : Fc} (h0 : 0 ≤ i) (h1 : i < fs.length) (hy : rF fs i = y) (hp : p y = true) : collI p g (fs.take (i + 1).toNat) = insI (g y) (collI p g (fs.take i.toNat)) := by
 rw [take_succG zF h0 h1, show rdG zF fs i = y from hy, coll_app, if_pos hp]
theorem coll_miss {p : Fc → Bool} {g : Fc → Int} {fs : List Fc} {i : Int} {y : Fc} (h0 : 0 ≤ i) (h1 : i < fs.length) (hy : rF fs i = y) (hp : p y = false) : collI p g (fs.take (i + 1).toNat) = collI p g (fs.take i.toNat) := by
 rw [take_succG zF h0 h1, show rdG zF fs i = y from hy, coll_app, if_neg (by rw [hp]; decide)]
theorem coll_ris (p : Fc → Bool) (g : Fc → Int) (fs : List Fc) : RisI (collI p g fs) := by
 unfold collI
 have : ∀ (fs : List Fc) (o : List Int), RisI o → RisI (fs.foldl (fun out f => if p f then insI (g f) out else out) o) := fun fs => by
  induction fs with
  | nil => exact fun o h => h
  | cons f fs ih => exact fun o h => ih (if p f then insI (g f) o else o) (by cases p f; exact h; exact h.ins _)
 exact this fs [] .nil
theorem coll_len (p : Fc → Bool) (g : Fc → Int) (fs : List Fc) : (collI p g fs).length ≤ fs.length := by
 unfold collI
 have : ∀ (fs : List Fc) (o : List Int), (fs.foldl (fun out f => if p f then insI (g f) out else out) o).length ≤ o.length + fs.length := by
  intro fs
  induction fs with
  | nil => intro o; exact Nat.le_refl _
  | cons f fs ih =>
    intro o
    have h1 := ih (if p f then insI (g f) o else o)
    have h2 := len_insI (g f) o
    rw [List.foldl_cons, List.length_cons]
    refine Nat.le_trans h1 ?_
    split <;> omega
 simpa using this fs []
theorem coll_lenT (p : Fc → Bool) (g : Fc → Int) {fs : List Fc} (h : fs.length ≤ 2500) (n : Nat) : (collI p g (fs.take n)).length ≤ 2500 := by
 have := coll_len p g (fs.take n)
 have := List.length_take_le' n fs
 omega
theorem solveR_all (l : List Nd) (dp : Int) : (solveR l dp).1.length ≤ 2500 ∧ ∀ f ∈ (solveR l dp).1, 0 ≤ f.n ∧ f.n < l.length := by
 unfold solveR
 split
 · rename_i fs hs
   have h := solveO_fit hs
   exact ⟨h.2.2, h.2.1.node⟩
 · exact ⟨by simp, fun f hf => by simp at hf⟩
def seenP (f : Fc) : Bool := decide (f.k = 6)
def raiseP (l : List Nd) (f : Fc) : Bool := decide (f.k = 7) && decide ((rN l f.n).f0 = 18)
def kindP (n : Int) (f : Fc) : Bool := decide (f.k = 0) && decide (f.n = n)
def seenM (l : List Nd) (dp : Int) : List Int := collI seenP Fc.n (solveR l dp).1
def raisesM (l : List Nd) (dp : Int) : List Int := collI (raiseP l) Fc.n (solveR l dp).1
def kindsM (l : List Nd) (dp n : Int) : List Int := collI (kindP n) (fun f => f.v.k) (solveR l dp).1
def filtN (p : Int → Bool) (n : Nat) : List Int := ((List.range n).map Int.ofNat).filter p
theorem filtN_succ (p : Int → Bool) (n : Nat) : filtN p (n + 1) = filtN p n ++ if p n then [(n : Int)] else [] := by
 unfold filtN
 rw [List.range_succ, List.map_append, List.filter_append, List.map_cons, List.map_nil]
 congr 1
 rw [List.filter_cons]; rfl
theorem filtN_yes {p : Int → Bool} {i : Int} (h0 : 0 ≤ i) (hp : p i = true) : filtN p (i + 1).toNat = filtN p i.toNat ++ [i] := by
 rw [show (i + 1).toNat = i.toNat + 1 by omega, filtN_succ, Int.toNat_of_nonneg h0, hp]; rfl
theorem filtN_no {p : Int → Bool} {i : Int} (h0 : 0 ≤ i) (hp : p i = false) : filtN p (i + 1).toNat = filtN p i.toNat := by
 rw [show (i + 1).toNat = i.toNat + 1 by omega, filtN_succ, Int.toNat_of_nonneg h0, hp]; simp
theorem filtN_len (p : Int → Bool) (n : Nat) : (filtN p n).length ≤ n := by
 have := List.length_filter_le p ((List.range n).map Int.ofNat)
 rw [List.length_map, List.length_range] at this
 exact this
theorem filtN_mem {p : Int → Bool} {n : Nat} {x : Int} (h : x ∈ filtN p n) : 0 ≤ x ∧ x < n ∧ p x = true := by
 unfold filtN at h
 rw [List.mem_filter, List.mem_map] at h
 obtain ⟨⟨i, hi, rfl⟩, hp⟩ := h
 have := List.mem_range.1 hi
 exact ⟨Int.natCast_nonneg i, Int.ofNat_lt.2 this, hp⟩
def caughtP (l : List Nd) (s : List Int) (i : Int) : Bool := decide ((rN l i).f0 = 19) && decide ((rN l i).f2 ∈ s)
def caughtM (l : List Nd) (dp : Int) : List Int := filtN (caughtP l (seenM l dp)) l.length
def deadP (s : List Int) (i : Int) : Bool := !decide (i ∈ s)
def deadM (l : List Nd) (dp : Int) : List Int := if seenM l dp = [] then [] else filtN (deadP (seenM l dp)) l.length
def lamsM (l : List Nd) : List Int := if okM l then filtN (fun i => lamB (rN l i)) l.length else []
def dfunsM (l : List Nd) (dp : Int) : List Int := (lamsM l).filter fun f => decide ((rN l f).f1 ∈ deadM l dp)
end Go.Mach
