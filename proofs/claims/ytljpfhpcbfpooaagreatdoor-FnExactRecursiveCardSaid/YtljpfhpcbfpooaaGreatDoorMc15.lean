/- What the statements share: part 15 of a proof by an executable machine over the program's code. -/
import Derived.Test.YtljpfhpcbfpooaaGreatDoorMc14
set_option linter.unusedVariables false
set_option linter.unusedSimpArgs false
section
namespace Go.Mach
open Go Go.RowKit
set_option linter.unusedVariables false
def cmpI (a b : Int) : Int := if a < b then -1 else if b < a then 1 else 0
def orI : List Int → Int
 | [] => 0
 | x :: l => if x = 0 then orI l else x
theorem orI_take_succ {l : List Int} {i : Int} (h0 : 0 ≤ i) (hi : i < l.length) (h : orI (l.take i.toNat) = 0) : orI (l.take (i + 1).toNat) = rI l i := by
 rw [take_succG 0 h0 hi]
 have : ∀ (m : List Int) (y : Int), orI m = 0 → orI (m ++ [y]) = y := by
  intro m y hm
  induction m with
  | nil => simp only [List.nil_append, orI]; split <;> simp_all
  | cons x m ih =>
    simp only [orI, List.cons_append] at hm ⊢
    split at hm
    · rename_i hx; rw [if_pos hx]; exact ih hm
    · contradiction
 exact this _ _ h
theorem orI_more {l : List Int} {n : Nat} (h : orI (l.take n) ≠ 0) : orI l = orI (l.take n) := by
 induction l generalizing n with
 | nil => simp at h ⊢
 | cons x l ih =>
   cases n with
   | zero => exact absurd rfl h
   | succ n =>
     simp only [List.take_succ_cons, orI] at h ⊢
     split
     · rename_i hx; rw [if_pos hx] at h; exact ih h
     · rfl
theorem orI_hit {l : List Int} {i y : Int} (h0 : 0 ≤ i) (hi : i < l.length) (h : orI (l.take i.toNat) = 0) (hy : rI l i = y) (hb : ¬ y = 0) : orI l = y := by
 have e := orI_take_succ h0 hi h
 rw [hy] at e
 rw [orI_more (n := (i + 1).toNat) (by rw [e]; exact hb), e]
theorem orI_skip {l : List Int} {i y : Int} (h0 : 0 ≤ i) (hi : i < l.length) (h : orI (l.take i.toNat) = 0) (hy : rI l i = y) (hb : y = 0) : orI (l.take (i + 1).toNat) = 0 := by
 rw [orI_take_succ h0 hi h, hy, hb]
def ordF (a b : Fc) : Int := orI [cmpI a.k b.k, cmpI a.n b.n, cmpI a.c b.c, cmpI a.v.k b.v.k, cmpI a.v.n b.v.n, cmpI a.v.c b.v.c]
theorem ordF_lt (a b : Fc) : ordF a b < 0 ↔ ltF a b := by
 have c : ∀ (x y r : Int) (P : Prop), (r < 0 ↔ P) → ((if cmpI x y = 0 then r else cmpI x y) < 0 ↔ x < y ∨ (x = y ∧ P)) := by
  intro x y r P h
  unfold cmpI
  by_cases h1 : x < y
  · rw [if_pos h1]; simp [h1]
  · rw [if_neg h1]
    by_cases h2 : y < x
    · rw [if_pos h2]
      constructor
      · intro h3; simp at h3
      · rintro (h3 | h3)
        · exact absurd h3 h1
        · omega
    · rw [if_neg h2, if_pos rfl, h]
      constructor
      · intro h3; exact .inr ⟨by omega, h3⟩
      · rintro (h3 | h3)
        · exact absurd h3 h1
        · exact h3.2
 unfold ordF ltF
 simp only [orI]
 refine c _ _ _ _ (c _ _ _ _ (c _ _ _ _ (c _ _ _ _ (c _ _ _ _ ?_))))
 have := c a.v.c b.v.c 0 False (by simp)
 rw [this]; simp
theorem mem_posF {l : List Fc} (hu : Up l) {f : Fc} : f ∈ l ↔ posF l f < l.length ∧ l.getD (posF l f) zF = f := by
 constructor
 · intro h
   obtain ⟨j, hj, rfl⟩ := List.getElem_of_mem h
   have e : l[j] = l.getD j zF := by rw [List.getD_eq_getElem?_getD, List.getElem?_eq_getElem hj]; rfl
   have : posF l l[j] = j := posF_eq (by omega) (fun i hi => by rw [e]; exact hu.get hi hj) (fun _ => by rw [e]; exact ltF_irrefl _)
   rw [this]; exact ⟨hj, e.symm⟩
 · rintro ⟨h1, h2⟩
   rw [← h2, List.getD_eq_getElem?_getD, List.getElem?_eq_getElem h1]; exact List.getElem_mem h1
def nameAt (b : Bd) (c : Int) : Plc := ⟨if b.f1 = 1 then 2 else 1, b.f0, c⟩
def givenM (l : List Nd) (f : Int) : Bd := ⟨f, if (rN l f).f0 = 6 then 1 else 0⟩
end Go.Mach
namespace Go.Mach
theorem vals_startG {l : List Fc} {s : Ab} {k n c : Int} (hu : Up l) (hp : ∀ f ∈ l, ltF ⟨k, n, c, s⟩ ⟨k, n, c, f.v⟩) : (0 : Int) ≤ ((posF l ⟨k, n, c, s⟩ : Nat) : Int) ∧ ((posF l ⟨k, n, c, s⟩ : Nat) : Int) ≤ l.length ∧
  ([] : List Ab) = vals (l.take ((posF l ⟨k, n, c, s⟩ : Nat) : Int).toNat) k n c ∧ (∀ j : Nat, j < l.length → ((posF l ⟨k, n, c, s⟩ : Nat) : Int) ≤ j → ltF ⟨k, n, c, s⟩ (l.getD j zF)) := by
 have hm : ∀ j : Nat, j < l.length → l.getD j zF ∈ l := fun j hj => by rw [List.getD_eq_getElem?_getD, List.getElem?_eq_getElem hj]; exact List.getElem_mem hj
 refine ⟨by omega, by have := posF_le l ⟨k, n, c, s⟩; omega, ?_, fun j hj hk => ?_⟩
 · rw [Int.toNat_natCast]
   symm
   rw [vals, List.map_eq_nil_iff, List.filter_eq_nil_iff]
   intro f hf
   obtain ⟨j, hj, rfl⟩ := List.mem_take_iff_getElem.1 hf
   have h1 := posF_lt (l := l) (f := ⟨k, n, c, s⟩) (j := j) (by omega)
   have h2 := hm j (by omega)
   have h3 := hp _ h2
   rw [List.getD_eq_getElem?_getD, List.getElem?_eq_getElem (show j < l.length by omega), Option.getD_some] at h1 h3
   simp only [hasKey, Bool.and_eq_true, beq_iff_eq]
   rintro ⟨e1, e2, e3⟩
   have e : (⟨k, n, c, l[j].v⟩ : Fc) = l[j] := Fc.ext' e1.symm e2.symm e3.symm rfl rfl rfl
   rw [e] at h3
   exact ltF_irrefl _ (ltF_trans h1 h3)
 · have hl : posF l ⟨k, n, c, s⟩ < l.length := by omega
   have h2 := posF_at (l := l) (f := ⟨k, n, c, s⟩) hl
   have h3 := hp _ (hm _ hl)
   have h4 : ltF ⟨k, n, c, s⟩ (l.getD (posF l ⟨k, n, c, s⟩) zF) := Classical.byContradiction fun h => by
    have e := ltF_total h2 h
    rw [e] at h3
    exact ltF_irrefl _ h3
   by_cases e : posF l ⟨k, n, c, s⟩ = j
   · rw [e] at h4; exact h4
   · exact ltF_trans h4 (hu.get (by omega) hj)
theorem vals_endG {l : List Fc} {s : Ab} {k n c i : Int} (h0 : 0 ≤ i) (hi : i ≤ l.length) (hu : Up l) (h : ∀ j : Nat, j < l.length → i ≤ j → ltF ⟨k, n, c, s⟩ (l.getD j zF)) (he : i = l.length ∨ (i < l.length ∧ ¬ ((rF l i).k = k ∧ (rF l i).n = n ∧ (rF l i).c = c))) : vals (l.take i.toNat) k n c = vals l k n c := by
 rcases he with rfl | ⟨he, hn⟩
 · rw [Int.toNat_natCast, List.take_length]
 · conv => rhs; rw [← List.take_append_drop i.toNat l]
   simp only [vals, List.filter_append, List.map_append]
   symm
   rw [List.append_right_eq_self, List.map_eq_nil_iff, List.filter_eq_nil_iff]
   intro f hf
   obtain ⟨j, hj, rfl⟩ := List.mem_drop_iff_getElem.1 hf
   have h1 := h i.toNat (by omega) (by omega)
   have h2 : ltF (l.getD i.toNat zF) (l.getD (i.toNat + j) zF) ∨ l.getD i.toNat zF = l.getD (i.toNat + j) zF := by
    by_cases e : j = 0
    · subst e; exact .inr rfl
    · exact .inl (hu.get (by omega) (by omega))
   have e3 : l.getD (i.toNat + j) zF = l[i.toNat + j] := by rw [List.getD_eq_getElem?_getD, List.getElem?_eq_getElem (show i.toNat + j < l.length by omega), Option.getD_some]
   rw [← e3]
   have e4 : rF l i = l.getD i.toNat zF := rfl
   rw [e4] at hn
   generalize l.getD i.toNat zF = x at *
   generalize l.getD (i.toNat + j) zF = y at *
   simp only [hasKey, Bool.and_eq_true, beq_iff_eq]
   rintro ⟨a1, a2, a3⟩
   rcases h2 with h2 | rfl
   · unfold ltF at h1 h2
     dsimp only at h1
     omega
   · exact hn ⟨a1, a2, a3⟩
theorem lowI {l : List Fc} {k n c : Int} (h : ∀ f ∈ l, 0 ≤ f.v.k ∧ 0 ≤ f.v.n) : ∀ f ∈ l, ltF ⟨k, n, c, ⟨0, -22951, 0⟩⟩ ⟨k, n, c, f.v⟩ := fun f hf => by
 have := h f hf; unfold ltF; dsimp only; omega
def Downs (l : List Nd) : Prop := ∀ i : Int, 0 ≤ i → i < l.length → (0 < arityM (rN l i).f0 → 0 ≤ (rN l i).f1 ∧ (rN l i).f1 < i)
def startN (l : List Nd) : Nat → Int → Int
 | 0, i => i
 | n + 1, i => if 0 < arityM (rN l i).f0 then startN l n (rN l i).f1 else i
def startM (l : List Nd) (i : Int) : Int := startN l i.toNat i
theorem startN_stay {l : List Nd} (hd : Downs l) : ∀ (n : Nat) (i : Int), 0 ≤ i → i < l.length → i.toNat ≤ n → startN l (n + 1) i = startN l n i := by
 intro n
 induction n with
 | zero =>
   intro i h0 h1 h2
   rw [startN, startN]
   by_cases hc : 0 < arityM (rN l i).f0
   · have := hd i h0 h1 hc; omega
   · rw [if_neg hc]
 | succ n ih =>
   intro i h0 h1 h2
   by_cases hc : 0 < arityM (rN l i).f0
   · have := hd i h0 h1 hc
     simp only [startN, hc, if_true]
     have := ih (rN l i).f1 this.1 (by omega) (by omega)
     simpa only [startN] using this
   · simp only [startN, hc, if_false]
theorem startN_eq {l : List Nd} (hd : Downs l) {n : Nat} {i : Int} (h0 : 0 ≤ i) (h1 : i < l.length) (h : i.toNat ≤ n) : startN l n i = startM l i := by
 induction n with
 | zero => unfold startM; rw [show i.toNat = 0 by omega]
 | succ n ih =>
   by_cases e : i.toNat = n + 1
   · unfold startM; rw [e]
   · rw [startN_stay hd n i h0 h1 (by omega)]; exact ih (by omega)
theorem startM_base {l : List Nd} {i : Int} (h : arityM (rN l i).f0 = 0) : startM l i = i := by
 unfold startM
 cases i.toNat with
 | zero => rfl
 | succ n => rw [startN, if_neg (by omega)]
theorem startM_step {l : List Nd} (hd : Downs l) {i : Int} {y : Nd} (h0 : 0 ≤ i) (h1 : i < l.length) (hy : rN l i = y) (h : 0 < arityM y.f0) : startM l i = startM l y.f1 := by
 subst hy
 have hk := hd i h0 h1 h
 rw [← startN_eq hd h0 h1 (Nat.le_succ _), startN, if_pos h]
 exact startN_eq hd hk.1 (by omega) (by omega)
end Go.Mach
namespace Go.Mach
instance (l : List Fc) : Decidable (Up l) := by unfold Up; infer_instance
def okF (l : List Fc) : Bool := decide (Up l ∧ l.length ≤ 2500)
theorem up_adj {l : List Fc} (h : ∀ j : Nat, 1 ≤ j → j < l.length → ltF (l.getD (j - 1) zF) (l.getD j zF)) : Up l := by
 refine List.pairwise_iff_getElem.2 fun i j hi hj hij => ?_
 have key : ∀ d i : Nat, i + d + 1 < l.length → ltF (l.getD i zF) (l.getD (i + d + 1) zF) := by
  intro d
  induction d with
  | zero => intro i hi; exact h (i + 1) (by omega) hi
  | succ d ih => intro i hi; exact ltF_trans (ih i (by omega)) (h (i + (d + 1) + 1) (by omega) hi)
 have := key (j - i - 1) i (by omega)
 rw [show i + (j - i - 1) + 1 = j by omega, List.getD_eq_getElem?_getD, List.getD_eq_getElem?_getD, List.getElem?_eq_getElem hi, List.getElem?_eq_getElem hj] at this
 exact this
theorem okF_end {l : List Fc} {a : Int} {b : Bool} (h : (l.length : Int) ≤ a) (h1 : 1 ≤ a) (hu : ∀ j : Nat, 1 ≤ j → (j : Int) < a → ltF (l.getD (j - 1) zF) (l.getD j zF)) (hb : b = decide (l.length ≤ 2500)) : b = okF l := by
 have : Up l := up_adj fun j h1 h2 => hu j h1 (by omega)
 subst hb
 simp [okF, this]
theorem okF_no {l : List Fc} {a : Int} (h1 : 1 ≤ a) (h : a < l.length) (hn : ¬ ltF (rF l (a - 1)) (rF l a)) : okF l = false := by
 refine decide_eq_false fun ⟨hu, _⟩ => hn ?_
 exact hu.get (by omega) (by omega)
theorem okF_step {l : List Fc} {a : Int} (h1 : 1 ≤ a) (h : a < l.length) (hu : ∀ j : Nat, 1 ≤ j → (j : Int) < a → ltF (l.getD (j - 1) zF) (l.getD j zF)) (hn : ltF (rF l (a - 1)) (rF l a)) : ∀ j : Nat, 1 ≤ j → (j : Int) < a + 1 → ltF (l.getD (j - 1) zF) (l.getD j zF) := fun j h2 h3 => by
 by_cases e : (j : Int) = a
 · subst e
   unfold rF rdG at hn
   rw [Int.toNat_natCast, show ((j : Int) - 1).toNat = j - 1 by omega] at hn
   exact hn
 · exact hu j h2 (by omega)
end Go.Mach
namespace Go.Mach
theorem okF_no2 {l : List Fc} {a i : Int} {x y : Fc} (h1 : 1 ≤ a) (h : a < l.length) (hx : rF l i = x) (hi : i = a - 1) (hy : rF l a = y) (hv : ltB x y = false) : false = okF l := by
 subst hi
 refine (okF_no h1 h ?_).symm
 rw [hx, hy]; exact fun h => by rw [ltB_iff.2 h] at hv; cases hv
theorem okF_step2 {l : List Fc} {a i : Int} {x y : Fc} (h1 : 1 ≤ a) (h : a < l.length) (hu : ∀ j : Nat, 1 ≤ j → (j : Int) < a → ltF (l.getD (j - 1) zF) (l.getD j zF)) (hx : rF l i = x) (hi : i = a - 1) (hy : rF l a = y) (hv : ltB x y = true) : ∀ j : Nat, 1 ≤ j → (j : Int) < a + 1 → ltF (l.getD (j - 1) zF) (l.getD j zF) := by
 subst hi
 refine okF_step h1 h hu ?_
 rw [hx, hy]; exact ltB_iff.1 hv
theorem has_iff {l : List Fc} {f y : Fc} {v : Int} (hu : Up l) (hv : ((posF l f : Nat) : Int) = v) (hlt : v < l.length) (hy : rF l v = y) : f ∈ l ↔ y = f := by
 subst hv
 rw [mem_posF hu]
 constructor
 · rintro ⟨_, h2⟩; exact hy.symm.trans h2
 · intro h; exact ⟨by omega, hy.trans h⟩
end Go.Mach
namespace Go.Mach
structure Fok (l : List Nd) (fs : List Fc) : Prop where
 up : Up fs
 len : fs.length ≤ 2500
 pos : ∀ f ∈ fs, 0 ≤ f.v.k ∧ 0 ≤ f.v.n
 val : ∀ f ∈ fs, f.v.n < l.length
 lam : ∀ f ∈ fs, f.v.k = 1 → lamB (rN l f.v.n) = true
 node : ∀ f ∈ fs, 0 ≤ f.n ∧ f.n < l.length
structure Lok (l : List Nd) (us : List Bd) : Prop where
 size : l.length ≤ 150
 downs : Downs l
 uses : us.length = l.length
def hasR (fs : List Fc) (n c : Int) : Bool := decide ((⟨7, n, c, ⟨0, 0, 0⟩⟩ : Fc) ∈ fs)
def thoseL (fs : List Fc) (k n c kd : Int) : List Ab := (vals fs k n c).filter fun v => v.k == kd
theorem len_those (fs : List Fc) (k n c kd : Int) : (thoseL fs k n c kd).length ≤ fs.length := Nat.le_trans (List.length_filter_le _ _) (len_vals _ _ _ _)
theorem filter_succ {l : List Ab} {i : Int} (h0 : 0 ≤ i) (hi : i < l.length) (p : Ab → Bool) : (l.take (i + 1).toNat).filter p = (l.take i.toNat).filter p ++ if p (rA l i) then [rA l i] else [] := by
 rw [take_succG zA h0 hi, List.filter_append]
 congr 1
 show List.filter p [rA l i] = _
 by_cases h : p (rA l i) <;> simp [h]
def takeL (fs : List Fc) (kd part k2 n2 c2 : Int) (vs : List Ab) : List Fc := vs.flatMap fun v => flowL fs part v.n v.c k2 n2 c2
end Go.Mach
end
namespace Go.Mach
open Go Go.RowKit
def knB (l : List Nd) (us : List Bd) (f : Int) (b : Bd) : Bool := decide (b.f0 < 0 ∨ (startM l (rN l f).f1 ≤ b.f0 ∧ b.f0 ≤ (rN l f).f1) ∨ b = givenM l f)
def outerN (l : List Nd) (us : List Bd) (f : Int) : Nat → List Bd
 | 0 => []
 | n + 1 => if knB l us f (rB us (startM l (rN l f).f1 + n)) || (outerN l us f n).any (fun x => decide (x = rB us (startM l (rN l f).f1 + n))) then outerN l us f n else outerN l us f n ++ [rB us (startM l (rN l f).f1 + n)]
def outerM (l : List Nd) (us : List Bd) (f : Int) : List Bd := outerN l us f ((rN l f).f1 + 1 - startM l (rN l f).f1).toNat
theorem len_outerN (l : List Nd) (us : List Bd) (f : Int) (n : Nat) : (outerN l us f n).length ≤ n := by
 induction n with
 | zero => simp [outerN]
 | succ n ih =>
   rw [outerN]; split
   · omega
   · rw [List.length_append]; simp; omega
theorem startM_le {l : List Nd} (hd : Downs l) {i : Int} (h0 : 0 ≤ i) (h1 : i < l.length) : 0 ≤ startM l i ∧ startM l i ≤ i := by
 have key : ∀ (n : Nat) (i : Int), 0 ≤ i → i < l.length → 0 ≤ startN l n i ∧ startN l n i ≤ i := by
  intro n
  induction n with
  | zero => intro i h0 h1; exact ⟨h0, Int.le_refl _⟩
  | succ n ih =>
    intro i h0 h1
    rw [startN]
    split
    · rename_i hc
      have := hd i h0 h1 hc
      have := ih _ this.1 (by omega)
      omega
    · exact ⟨h0, Int.le_refl _⟩
 exact key _ i h0 h1
theorem outerN_keep {l : List Nd} {us : List Bd} {f i from_ : Int} {b : Bd} (hf : from_ = startM l (rN l f).f1) (h : from_ ≤ i) (hb : rB us i = b) (hk : (knB l us f b || (outerN l us f (i - from_).toNat).any fun x => decide (x = b)) = true) : outerN l us f (i + 1 - from_).toNat = outerN l us f (i - from_).toNat := by
 rw [show (i + 1 - from_).toNat = (i - from_).toNat + 1 by omega, outerN]
 have : startM l (rN l f).f1 + ((i - from_).toNat : Int) = i := by omega
 rw [this, hb, if_pos hk]
theorem outerN_push {l : List Nd} {us : List Bd} {f i from_ : Int} {b : Bd} (hf : from_ = startM l (rN l f).f1) (h : from_ ≤ i) (hb : rB us i = b) (hk : (knB l us f b || (outerN l us f (i - from_).toNat).any fun x => decide (x = b)) = false) : outerN l us f (i + 1 - from_).toNat = outerN l us f (i - from_).toNat ++ [b] := by
 rw [show (i + 1 - from_).toNat = (i - from_).toNat + 1 by omega, outerN]
 have : startM l (rN l f).f1 + ((i - from_).toNat : Int) = i := by omega
 rw [this, hb, if_neg (by rw [hk]; exact Bool.false_ne_true)]
theorem any_succ {l : List Bd} {i : Int} (h0 : 0 ≤ i) (hi : i < l.length) (p : Bd → Bool) : (l.take (i + 1).toNat).any p = ((l.take i.toNat).any p || p (rB l i)) := by
 rw [take_succG zBd h0 hi, List.any_append]; simp [rB]
theorem knB_eq {l : List Nd} {us : List Bd} {f q0 q1 v0 v1 : Int} (h1 : ¬ q0 < 0) (h2 : ¬ (startM l (rN l f).f1 ≤ q0 ∧ q0 ≤ (rN l f).f1)) (hv : givenM l f = ⟨v0, v1⟩) : ((q0 == v0) && ((q1 == v1) && true)) = knB l us f ⟨q0, q1⟩ := by
 rw [Bool.eq_iff_iff]
 simp only [Bool.and_eq_true, beq_iff_eq, and_true, knB, decide_eq_true_eq, hv, Bd.mk.injEq]
 constructor
 · exact fun h => .inr (.inr h)
 · rintro (h | h | h)
   · exact absurd h h1
   · exact absurd h h2
   · exact h
theorem eqBd (y0 y1 q0 q1 : Int) : ((y0 == q0) && ((y1 == q1) && true)) = decide ((⟨y0, y1⟩ : Bd) = ⟨q0, q1⟩) := by
 by_cases a : y0 = q0 <;> by_cases b : y1 = q1 <;> simp [a, b]
def flowP (fs : List Fc) (a b : Plc) : List Fc := flowL fs a.k a.n a.c b.k b.n b.c
def callI (l : List Nd) (us : List Bd) (dp : Int) (fs : List Fc) (i c : Int) (f : Ab) (b : Plc) : List Fc :=
 flowP fs b (nameAt (givenM l f.n) (ctxPush c i dp)) ++ (outerM l us f.n).flatMap (fun x => flowP fs (nameAt x f.c) (nameAt x (ctxPush c i dp))) ++ flowL fs 0 (rN l f.n).f1 (ctxPush c i dp) 0 i c ++
  seeL (rN l f.n).f1 (ctxPush c i dp) ++ riseL (hasR fs (rN l f.n).f1 (ctxPush c i dp)) i c
def bothI (l : List Nd) (us : List Bd) (dp : Int) (fs : List Fc) (i c : Int) (n : Nd) (a b : Plc) : List Fc :=
 if (vals fs a.k a.n a.c).isEmpty ∨ (vals fs b.k b.n b.c).isEmpty then []
 else if n.f0 = 4 then (thoseL fs a.k a.n a.c 1).flatMap fun f => callI l us dp fs i c f b
 else [⟨0, i, c, if n.f0 = 9 then ⟨3, i, c⟩ else if n.f0 = 13 then ⟨4, i, c⟩ else ⟨0, 0, 0⟩⟩] ++
  (if n.f0 = 9 ∨ n.f0 = 13 then flowP fs a ⟨3, i, c⟩ ++ flowP fs b ⟨4, i, c⟩ else []) ++
  (if n.f0 = 17 then (thoseL fs a.k a.n a.c 5).flatMap fun r => flowP fs b ⟨5, r.n, r.c⟩ else [])
def matchI (fs : List Fc) (i c : Int) (n : Nd) (a : Plc) : List Fc :=
 (if (thoseL fs a.k a.n a.c 2).isEmpty then [] else seeL n.f2 c) ++
 (thoseL fs a.k a.n a.c 4).flatMap (fun v => seeL n.f3 c ++ flowL fs 3 v.n v.c 1 i c ++ flowL fs 4 v.n v.c 2 i c) ++
 flowL fs 0 n.f2 c 0 i c ++ flowL fs 0 n.f3 c 0 i c
def oneI (fs : List Fc) (i c : Int) (n : Nd) (a : Plc) : List Fc :=
 if n.f0 = 10 then takeL fs 3 3 0 i c (thoseL fs a.k a.n a.c 3)
 else if n.f0 = 11 then takeL fs 3 4 0 i c (thoseL fs a.k a.n a.c 3)
 else if n.f0 = 16 then takeL fs 5 5 0 i c (thoseL fs a.k a.n a.c 5)
 else if n.f0 = 15 then (if (vals fs a.k a.n a.c).isEmpty then [] else [⟨0, i, c, ⟨5, i, c⟩⟩]) ++ flowP fs a ⟨5, i, c⟩
 else if n.f0 = 18 then (if (thoseL fs a.k a.n a.c 0).isEmpty then [] else [⟨7, i, c, ⟨0, 0, 0⟩⟩])
 else if n.f0 = 19 then (if hasR fs n.f1 c then seeL n.f2 c ++ [⟨1, i, c, ⟨0, 0, 0⟩⟩] else []) ++ flowP fs a ⟨0, i, c⟩ ++ flowL fs 0 n.f2 c 0 i c
 else []
def kidI (fs : List Fc) (t i c : Int) (x : Int × Nat) : List Fc := if x.2 > 0 ∨ t ≠ 19 then riseL (hasR fs x.1 c) i c else []
def otherI (l : List Nd) (us : List Bd) (dp : Int) (fs : List Fc) (i c : Int) (n : Nd) : List Fc :=
 seeL n.f1 c ++ (kidsM n).zipIdx.flatMap (kidI fs n.f0 i c) ++
 (if n.f0 = 4 ∨ n.f0 = 8 ∨ n.f0 = 9 ∨ n.f0 = 13 ∨ n.f0 = 17 then (if (vals fs 0 n.f1 c).isEmpty then [] else seeL n.f2 c) ++ bothI l us dp fs i c n ⟨0, n.f1, c⟩ ⟨0, n.f2, c⟩
  else if n.f0 = 5 then (if (vals fs 0 n.f1 c).isEmpty then [] else seeL n.f2 c) ++ flowL fs 0 n.f1 c 1 i c ++ flowL fs 0 n.f2 c 0 i c
  else if n.f0 = 7 then (if (thoseL fs 0 n.f1 c 0).isEmpty then [] else seeL n.f2 c ++ seeL n.f3 c) ++ flowL fs 0 n.f2 c 0 i c ++ flowL fs 0 n.f3 c 0 i c
  else if n.f0 = 14 then matchI fs i c n ⟨0, n.f1, c⟩
  else oneI fs i c n ⟨0, n.f1, c⟩)
def nodeI (l : List Nd) (us : List Bd) (dp : Int) (fs : List Fc) (i c : Int) : List Fc :=
 let n := rN l i
 if n.f0 = 1 then flowP fs (nameAt (rB us i) c) ⟨0, i, c⟩
 else if n.f0 = 2 then [⟨0, i, c, ⟨0, 0, 0⟩⟩]
 else if n.f0 = 12 then [⟨0, i, c, ⟨2, 0, 0⟩⟩]
 else if n.f0 = 3 then [⟨0, i, c, ⟨1, i, c⟩⟩]
 else if n.f0 = 6 then [⟨1, i, c, ⟨1, i, c⟩⟩] ++ seeL n.f2 c ++ flowL fs 0 n.f2 c 0 i c ++ riseL (hasR fs n.f2 c) i c
 else otherI l us dp fs i c n
theorem len_flowI {l : List Nd} {fs : List Fc} (h : Fok l fs) (a b c d e f : Int) : (flowL fs a b c d e f).length ≤ 2500 := by
 rw [len_flowL]; exact Nat.le_trans (len_vals _ _ _ _) h.len
theorem len_flowPI {l : List Nd} {fs : List Fc} (h : Fok l fs) (a b : Plc) : (flowP fs a b).length ≤ 2500 := len_flowI h _ _ _ _ _ _
theorem lam_ar {x : Nd} (h : lamB x = true) : 0 < arityM x.f0 := by
 simp only [lamB, Bool.or_eq_true, beq_iff_eq] at h
 unfold arityM
 rcases h with h | h <;> simp [h]
theorem len_outerM {l : List Nd} {us : List Bd} (hL : Lok l us) {f : Int} (h : 0 ≤ f ∧ f < l.length) (hl : lamB (rN l f) = true) : (outerM l us f).length ≤ 150 := by
 have h1 := len_outerN l us f ((rN l f).f1 + 1 - startM l (rN l f).f1).toNat
 have h2 := hL.downs f h.1 h.2 (lam_ar hl)
 have h3 := startM_le hL.downs h2.1 (by omega)
 have h4 := hL.size
 unfold outerM
 omega
theorem len_outerFl {l : List Nd} {us : List Bd} {fs : List Fc} (hF : Fok l fs) (bs : List Bd) (fc to : Int) : (bs.flatMap fun x => flowP fs (nameAt x fc) (nameAt x to)).length ≤ bs.length * 2500 :=
 len_flatMap_le _ 2500 (fun x => len_flowPI hF _ _) bs
theorem len_callI {l : List Nd} {us : List Bd} {fs : List Fc} (hF : Fok l fs) (hL : Lok l us) {f : Ab} (h : 0 ≤ f.n ∧ f.n < l.length) (hl : lamB (rN l f.n) = true) (dp i c : Int) (b : Plc) : (callI l us dp fs i c f b).length ≤ 380002 := by
 unfold callI
 simp only [List.length_append]
 have h1 := len_flowPI hF b (nameAt (givenM l f.n) (ctxPush c i dp))
 have h2 := len_outerFl (us := us) hF (outerM l us f.n) f.c (ctxPush c i dp)
 have h3 := len_outerM hL h hl
 have h4 : (outerM l us f.n).length * 2500 ≤ 150 * 2500 := Nat.mul_le_mul_right _ h3
 have h5 := len_flowI hF 0 (rN l f.n).f1 (ctxPush c i dp) 0 i c
 have h6 := len_rise (hasR fs (rN l f.n).f1 (ctxPush c i dp)) i c
 have h7 : (seeL (rN l f.n).f1 (ctxPush c i dp)).length = 1 := rfl
 omega
theorem those_in {l : List Nd} {fs : List Fc} (hF : Fok l fs) {k n c kd : Int} {a : List Ab} {i : Int} {y : Ab} (e : a = thoseL fs k n c kd) (h0 : 0 ≤ i) (h1 : i < a.length) (hy : rA a i = y) : y.k = kd ∧ (0 ≤ y.n ∧ y.n < l.length) ∧ (y.k = 1 → lamB (rN l y.n) = true) := by
 subst e; subst hy
 have h : rA (thoseL fs k n c kd) i ∈ thoseL fs k n c kd := rdG_mem h0 h1
 generalize rA (thoseL fs k n c kd) i = y at h
 obtain ⟨h2, h3⟩ := List.mem_filter.1 h
 have h4 := mem_vals.1 h2
 exact ⟨by simpa using h3, ⟨(hF.pos _ h4).2, hF.val _ h4⟩, hF.lam _ h4⟩
theorem len_calls {l : List Nd} {us : List Bd} {fs : List Fc} (hF : Fok l fs) (hL : Lok l us) {k n c0 : Int} {a : List Ab} (e : a = thoseL fs k n c0 1) (i c dp : Int) (b : Plc) (j : Nat) : ((a.take j).flatMap fun f => callI l us dp fs i c f b).length ≤ (a.take j).length * 380002 := by
 have hm : ∀ v ∈ a.take j, (callI l us dp fs i c v b).length ≤ 380002 := fun v hv => by
  have h2 := List.mem_of_mem_take hv
  rw [e] at h2
  obtain ⟨h2, h3⟩ := List.mem_filter.1 h2
  have h4 := mem_vals.1 h2
  exact len_callI hF hL ⟨(hF.pos _ h4).2, hF.val _ h4⟩ (hF.lam _ h4 (by simpa using h3)) dp i c b
 generalize a.take j = m at hm
 induction m with
 | nil => simp
 | cons x m ih =>
   have := hm x List.mem_cons_self
   have := ih fun v hv => hm v (List.mem_cons_of_mem _ hv)
   simp only [List.flatMap_cons, List.length_append, List.length_cons, Nat.add_mul, Nat.one_mul]; omega
theorem emp_len {α : Type} (a : List α) : a.isEmpty = decide ((a.length : Int) ≤ 0) := by cases a <;> simp <;> omega
theorem emp_t {α : Type} {a v : List α} (hv : a = v) (h : (v.length : Int) ≤ 0) : a.isEmpty = true := by subst hv; rw [emp_len]; exact decide_eq_true h
theorem emp_f {α : Type} {a v : List α} (hv : a = v) (h : 0 < (v.length : Int)) : a.isEmpty = false := by subst hv; rw [emp_len]; exact decide_eq_false (by omega)
theorem len_kidI (fs : List Fc) (t i c : Int) (x : Int × Nat) : (kidI fs t i c x).length ≤ 1 := by
 unfold kidI; split
 · exact len_rise _ _ _
 · simp
def byteI (s : ByteArray) (i : Int) : Int := std.byte s i
def wordB (s : ByteArray) : Bool := decide ((∀ i : Nat, i < s.size → 97 ≤ byteI s i ∧ byteI s i ≤ 122) ∧ 1 ≤ s.size ∧ s.size ≤ 8)
def eqS (a b : ByteArray) : Bool := a.toList == b.toList
def keyB (s : ByteArray) : Bool := keyL.any fun k => eqS k s
def nameB (s : ByteArray) : Bool := wordB s && !keyB s
def nfitB (s : ByteArray) (b : Bool) : Bool := if b then nameB s else eqS s ⟨#[]⟩
def namesM (t : Int) : Nat := if t = 1 ∨ t = 3 ∨ t = 5 ∨ t = 19 then 1 else if t = 6 ∨ t = 14 then 2 else 0
def numB (x : Nd) : Bool := if x.f0 = 2 then decide (0 ≤ x.f4 ∧ x.f4 ≤ 65535) else if x.f0 = 8 then decide (0 ≤ x.f4 ∧ x.f4 ≤ 3) else decide (x.f4 = 0)
def restB (x : Nd) : Bool := decide ((arityM x.f0 < 1 → x.f1 = 0) ∧ (arityM x.f0 < 2 → x.f2 = 0) ∧ (arityM x.f0 < 3 → x.f3 = 0))
def fldB (x : Nd) : Bool := decide (1 ≤ x.f0 ∧ x.f0 ≤ 19) && (nfitB x.f5 (decide (0 < namesM x.f0)) && (nfitB x.f6 (decide (1 < namesM x.f0)) && (restB x && numB x)))
def walkK (st K : List Int) : Nat → Int → Option Int
 | 0, a => some a
 | k + 1, a => if rI K k = a - 1 ∧ 0 ≤ rI K k then walkK st K k (rI st (rI K k)) else none
def startsO (l : List Nd) : Nat → Option (List Int)
 | 0 => some []
 | n + 1 => (startsO l n).bind fun st => if fldB (rN l n) then (walkK st (kidsM (rN l n)) (kidsM (rN l n)).length n).map fun a => st ++ [a] else none
def okM (l : List Nd) : Bool := decide (1 ≤ l.length ∧ l.length ≤ 150) && (match startsO l l.length with
 | some st => rI st (l.length - 1) == 0
 | none => false)
theorem startsO_none {l : List Nd} {n : Nat} (h : startsO l n = none) : ∀ m, n ≤ m → startsO l m = none := fun m hm => by
 induction hm with
 | refl => exact h
 | step _ ih => rw [startsO, ih]; rfl
def TileAt (K st : List Int) (s j : Int) : Prop :=
 (∀ x ∈ K, 0 ≤ x ∧ x < j ∧ s ≤ rI st x ∧ rI st x ≤ x) ∧ (∀ i : Int, s ≤ i → i < j → ∃ y ∈ K, rI st y ≤ i ∧ i ≤ y) ∧ (∀ x ∈ K, ∀ y ∈ K, x = y ∨ x < rI st y ∨ y < rI st x)
structure Tiled (l : List Nd) (st : List Int) : Prop where
 tile : ∀ j : Nat, j < l.length → TileAt (kidsM (rN l j)) st (rI st j) j
 low : ∀ j : Nat, j < l.length → 0 ≤ rI st j ∧ rI st j ≤ j
theorem rI_left (a b : List Int) {x : Int} (h0 : 0 ≤ x) (h : x < a.length) : rI (a ++ b) x = rI a x := by
 unfold rI rdG
 rw [List.getD_eq_getElem?_getD, List.getD_eq_getElem?_getD, List.getElem?_append_left (by omega)]
theorem rI_last (a b : List Int) {x : Int} (y : Int) (h : x = a.length) : rI (a ++ y :: b) x = y := by
 unfold rI rdG
 rw [h, Int.toNat_natCast, List.getD_eq_getElem?_getD, List.getElem?_append_right (Nat.le_refl _), Nat.sub_self]; rfl
theorem tileAt_append {K st : List Int} {s j : Int} (b : List Int) (hj : j ≤ st.length) (h : TileAt K st s j) : TileAt K (st ++ b) s j := by
 obtain ⟨h1, h2, h3⟩ := h
 have e : ∀ x ∈ K, rI (st ++ b) x = rI st x := fun x hx => rI_left _ _ (h1 x hx).1 (by have := (h1 x hx).2.1; omega)
 refine ⟨fun x hx => by rw [e x hx]; exact h1 x hx, fun i hi hij => ?_, fun x hx y hy => by rw [e x hx, e y hy]; exact h3 x hx y hy⟩
 obtain ⟨y, hy, h4⟩ := h2 i hi hij
 exact ⟨y, hy, by rw [e y hy]; exact h4⟩
theorem tileAt_nil (st : List Int) (j : Int) : TileAt [] st j j := ⟨fun x h => absurd h List.not_mem_nil, fun i h1 h2 => by omega, fun x h => absurd h List.not_mem_nil⟩
theorem tileAt_cons {K st : List Int} {x j : Int} (h : TileAt K st x j) (hx0 : 0 ≤ x - 1) (hxj : x ≤ j) (hst : rI st (x - 1) ≤ x - 1) : TileAt ((x - 1) :: K) st (rI st (x - 1)) j := by
 obtain ⟨h1, h2, h3⟩ := h
 refine ⟨fun y hy => ?_, fun i hi hij => ?_, fun y hy z hz => ?_⟩
 · rcases List.mem_cons.1 hy with rfl | hy
   · exact ⟨hx0, by omega, Int.le_refl _, hst⟩
   · have := h1 y hy
     exact ⟨this.1, this.2.1, by omega, this.2.2.2⟩
 · by_cases c : i < x
   · exact ⟨x - 1, List.mem_cons_self, hi, by omega⟩
   · obtain ⟨y, hy, h4⟩ := h2 i (by omega) hij
     exact ⟨y, List.mem_cons_of_mem _ hy, h4⟩
 · rcases List.mem_cons.1 hy with rfl | hy <;> rcases List.mem_cons.1 hz with rfl | hz
   · exact .inl rfl
   · have := h1 z hz; right; left; omega
   · have := h1 y hy; right; right; omega
   · exact h3 y hy z hz
theorem rI_drop {K : List Int} {k : Nat} (h : k < K.length) : K.drop k = rI K k :: K.drop (k + 1) := by
 rw [List.drop_eq_getElem_cons h]
 congr 1
 simp [rI, rdG, List.getD_eq_getElem?_getD, List.getElem?_eq_getElem h]
theorem walkK_tile {st K : List Int} {j : Int} (hst : ∀ i : Nat, i < st.length → 0 ≤ rI st i ∧ rI st i ≤ i) (hj : j = st.length) : ∀ (k : Nat) (a : Int) (r : Int), k ≤ K.length → 0 ≤ a → a ≤ j → TileAt (K.drop k) st a j → walkK st K k a = some r → 0 ≤ r ∧ r ≤ j ∧ TileAt K st r j
 | 0, a, r, _, h0, h1, ht, h => by
   simp only [walkK, Option.some.injEq] at h
   subst h
   rw [List.drop_zero] at ht
   exact ⟨h0, h1, ht⟩
 | k + 1, a, r, hk, h0, h1, ht, h => by
   rw [walkK] at h
   split at h
   · rename_i hc
     have hs := hst (a - 1).toNat (by omega)
     rw [Int.toNat_of_nonneg (by omega)] at hs
     rw [hc.1] at h
     refine walkK_tile hst hj k _ r (by omega) (by omega) (by omega) ?_ h
     rw [rI_drop (by omega), hc.1]
     exact tileAt_cons ht (by omega) (by omega) hs.2
   · cases h
theorem startsO_tile {l : List Nd} : ∀ (n : Nat) (st : List Int), startsO l n = some st → st.length = n ∧ (∀ j : Nat, j < n → 0 ≤ rI st j ∧ rI st j ≤ j) ∧ (∀ j : Nat, j < n → fldB (rN l j) = true ∧ TileAt (kidsM (rN l j)) st (rI st j) j)
 | 0, st, h => by
   simp only [startsO, Option.some.injEq] at h
   subst h
   exact ⟨rfl, fun j hj => by omega, fun j hj => by omega⟩
 | n + 1, st, h => by
   rw [startsO] at h
   obtain ⟨s, h1, h2⟩ := Option.bind_eq_some_iff.1 h
   obtain ⟨e1, e2, e3⟩ := startsO_tile n s h1
   split at h2
   · rename_i hf
     obtain ⟨a, h3, rfl⟩ := Option.map_eq_some_iff.1 h2
     have ht : TileAt ((kidsM (rN l n)).drop (kidsM (rN l n)).length) s n n := by rw [List.drop_length]; exact tileAt_nil _ _
     obtain ⟨w1, w2, w3⟩ := walkK_tile (fun i hi => e2 i (by omega)) (by omega) _ _ _ (Nat.le_refl _) (by omega) (Int.le_refl _) ht h3
     refine ⟨by rw [List.length_append, e1]; rfl, fun j hj => ?_, fun j hj => ?_⟩
     · by_cases c : j < n
       · rw [rI_left _ _ (by omega) (by omega)]; exact e2 j c
       · have : j = n := by omega
         subst this
         rw [rI_last _ _ _ (by omega)]; exact ⟨w1, w2⟩
     · by_cases c : j < n
       · rw [rI_left _ _ (by omega) (by omega)]; exact ⟨(e3 j c).1, tileAt_append _ (by omega) (e3 j c).2⟩
       · have : j = n := by omega
         subst this
         rw [rI_last _ _ _ (by omega)]; exact ⟨hf, tileAt_append _ (by omega) w3⟩
   · cases h2
structure OkT (l : List Nd) : Prop where
 size : 1 ≤ l.length ∧ l.length ≤ 150
 st : ∃ st, startsO l l.length = some st ∧ rI st (l.length - 1) = 0
theorem okM_iff {l : List Nd} : okM l = true ↔ OkT l := by
 unfold okM
 rw [Bool.and_eq_true, decide_eq_true_eq]
 constructor
 · rintro ⟨h1, h2⟩
   refine ⟨h1, ?_⟩
   split at h2
   · rename_i st hs; exact ⟨st, hs, by simpa using h2⟩
   · cases h2
 · rintro ⟨h1, st, h2, h3⟩
   refine ⟨h1, ?_⟩
   rw [h2]; simp [h3]
theorem OkT.tiled {l : List Nd} (h : OkT l) : ∃ st, startsO l l.length = some st ∧ st.length = l.length ∧ Tiled l st ∧ rI st (l.length - 1) = 0 := by
 obtain ⟨_, st, h1, h2⟩ := h
 obtain ⟨e1, e2, e3⟩ := startsO_tile _ _ h1
 exact ⟨st, h1, e1, ⟨fun j hj => (e3 j hj).2, e2⟩, h2⟩
theorem OkT.fld {l : List Nd} (h : OkT l) {j : Nat} (hj : j < l.length) : fldB (rN l j) = true := by
 obtain ⟨_, st, h1, h2⟩ := h
 exact ((startsO_tile _ _ h1).2.2 j hj).1
theorem first_kid {n : Nd} (h : 0 < arityM n.f0) : n.f1 ∈ kidsM n := by
 unfold kidsM
 obtain ⟨k, hk⟩ := Nat.exists_eq_succ_of_ne_zero (Nat.pos_iff_ne_zero.1 h)
 rw [hk]; exact List.mem_cons_self
theorem OkT.downs {l : List Nd} (h : OkT l) : Downs l := by
 obtain ⟨st, _, _, ht, _⟩ := h.tiled
 intro i h0 h1 ha
 have := (ht.tile i.toNat (by omega)).1 (rN l i).f1 (by rw [Int.toNat_of_nonneg h0]; exact first_kid ha)
 omega
theorem tiled_within {l : List Nd} {st : List Int} (ht : Tiled l st) : ∀ (n : Nat) (y : Nat), y < n → y < l.length → ∀ i : Nat, rI st y ≤ i → i ≤ y → rI st y ≤ rI st i := by
 intro n
 induction n with
 | zero => intro y h; omega
 | succ n ih =>
   intro y hy hl i hi hiy
   by_cases c : i = y
   · rw [c]; exact Int.le_refl _
   · obtain ⟨z, hz, h1, h2⟩ := (ht.tile y hl).2.1 (i : Int) hi (by omega)
     have hz2 := (ht.tile y hl).1 z hz
     have := ih z.toNat (by omega) (by omega) i (by rw [Int.toNat_of_nonneg hz2.1]; exact h1) (by omega)
     rw [Int.toNat_of_nonneg hz2.1] at this
     omega
theorem tiled_lt {l : List Nd} {st : List Int} (ht : Tiled l st) {i j : Nat} (hij : i < j) (hj : j < l.length) {x : Int} (hi : x ∈ kidsM (rN l i)) (hx : x ∈ kidsM (rN l j)) : False := by
 obtain ⟨j1, j2, j3⟩ := ht.tile j hj
 have i1 := (ht.tile i (by omega)).1 x hi
 have j1x := j1 x hx
 have hst : rI st x ≤ x := j1x.2.2.2
 obtain ⟨y, hy, h1, h2⟩ := j2 (i : Int) (by omega) (by omega)
 have hy2 := j1 y hy
 have w := tiled_within ht (y.toNat + 1) y.toNat (by omega) (by omega) i (by rw [Int.toNat_of_nonneg hy2.1]; exact h1) (by omega)
 rw [Int.toNat_of_nonneg hy2.1] at w
 rcases j3 x hx y hy with h | h | h
 · omega
 · omega
 · omega
theorem tiled_one {l : List Nd} {st : List Int} (ht : Tiled l st) {i j : Nat} (hi : i < l.length) (hj : j < l.length) {x : Int} (h1 : x ∈ kidsM (rN l i)) (h2 : x ∈ kidsM (rN l j)) : i = j := by
 rcases Nat.lt_trichotomy i j with h | h | h
 · exact absurd (tiled_lt ht h hj h1 h2) id
 · exact h
 · exact absurd (tiled_lt ht h hi h2 h1) id
def parS (l : List Nd) (n : Int) : Int := if okM l then (match (List.range l.length).find? (fun (j : Nat) => decide (n ∈ kidsM (rN l (j : Int)))) with
 | some j => (j : Int)
 | none => -1) else -1
theorem parS_hit {l : List Nd} (hk : okM l = true) {n a : Int} (h0 : 0 ≤ a) (h1 : a < l.length) (hb : ∀ j : Nat, (j : Int) < a → n ∉ kidsM (rN l j)) (hn : n ∈ kidsM (rN l a)) : parS l n = a := by
 unfold parS
 rw [hk, if_pos rfl]
 have : (List.range l.length).find? (fun (j : Nat) => decide (n ∈ kidsM (rN l (j : Int)))) = some a.toNat := by
  rw [List.find?_range_eq_some]
  refine ⟨by rw [Int.toNat_of_nonneg h0]; exact decide_eq_true hn, by simp; omega, fun j hj => ?_⟩
  have := hb j (by omega)
  simp [this]
 rw [this]
 simp; omega
theorem parS_none {l : List Nd} {n : Int} (hb : ∀ j : Nat, j < l.length → n ∉ kidsM (rN l j)) : parS l n = -1 := by
 unfold parS
 split
 · have : (List.range l.length).find? (fun (j : Nat) => decide (n ∈ kidsM (rN l (j : Int)))) = none := by
     rw [List.find?_eq_none]
     intro j hj
     have := hb j (List.mem_range.1 hj)
     simp [this]
   rw [this]
 · rfl
theorem parS_cases {l : List Nd} (n : Int) : (parS l n = -1 ∧ (okM l = true → ∀ j : Nat, j < l.length → n ∉ kidsM (rN l j))) ∨ (okM l = true ∧ ∃ j : Nat, j < l.length ∧ parS l n = j ∧ n ∈ kidsM (rN l j)) := by
 by_cases hk : okM l = true
 · by_cases h : ∃ j : Nat, j < l.length ∧ n ∈ kidsM (rN l j)
   · right
     refine ⟨hk, ?_⟩
     have : ∃ j : Nat, (j < l.length ∧ n ∈ kidsM (rN l j)) ∧ ∀ i, i < j → ¬ (i < l.length ∧ n ∈ kidsM (rN l i)) := by
      obtain ⟨j, hj⟩ := h
      induction j using Nat.strongRecOn with
      | _ j ih =>
        by_cases c : ∃ i, i < j ∧ (i < l.length ∧ n ∈ kidsM (rN l i))
        · obtain ⟨i, h1, h2⟩ := c; exact ih i h1 h2
        · exact ⟨j, hj, fun i hi h => c ⟨i, hi, h⟩⟩
     obtain ⟨j, h1, h2⟩ := this
     exact ⟨j, h1.1, parS_hit hk (by omega) (by omega) (fun i hi hn => h2 i (by omega) ⟨by omega, hn⟩) h1.2, h1.2⟩
   · exact .inl ⟨parS_none fun j hj hn => h ⟨j, hj, hn⟩, fun _ j hj hn => h ⟨j, hj, hn⟩⟩
 · refine .inl ⟨?_, fun h => absurd h hk⟩
   unfold parS; rw [if_neg hk]
theorem OkT.par {l : List Nd} (h : OkT l) {n : Int} {j : Nat} (hj : j < l.length) (hn : n ∈ kidsM (rN l j)) : parS l n = j := by
 obtain ⟨st, _, _, ht, _⟩ := h.tiled
 rcases parS_cases (l := l) n with ⟨_, h2⟩ | ⟨_, i, h1, h2, h3⟩
 · exact absurd hn (h2 (okM_iff.2 h) j hj)
 · rw [h2, tiled_one ht h1 hj h3 hn]
theorem OkT.par_lt {l : List Nd} (h : OkT l) {n : Int} (hp : 0 ≤ parS l n) : 0 ≤ n ∧ n < parS l n ∧ parS l n < l.length ∧ n ∈ kidsM (rN l (parS l n)) := by
 obtain ⟨st, _, _, ht, _⟩ := h.tiled
 rcases parS_cases (l := l) n with ⟨h1, _⟩ | ⟨_, i, h1, h2, h3⟩
 · omega
 · have := (ht.tile i h1).1 n h3
   rw [h2]; exact ⟨this.1, this.2.1, by omega, h3⟩
def ParU (l : List Nd) (i : Int) (q : List Int) : Prop := q.length = l.length ∧ ∀ n : Nat, n < l.length → rI q n = if 0 ≤ parS l n ∧ parS l n < i then parS l n else -1
def ParK (l : List Nd) (i m : Int) (q : List Int) : Prop := q.length = l.length ∧ ∀ n : Nat, n < l.length → rI q n = if (0 ≤ parS l n ∧ parS l n < i) ∨ (n : Int) ∈ (kidsM (rN l i)).take m.toNat then parS l n else -1
def parsM (l : List Nd) : List Int := (List.range l.length).map fun (n : Nat) => parS l (n : Int)
theorem rI_ext {a b : List Int} (hl : a.length = b.length) (h : ∀ n : Nat, n < a.length → rI a n = rI b n) : a = b := by
 refine List.ext_getElem hl fun n h1 h2 => ?_
 have := h n h1
 simpa [rI, rdG, List.getD_eq_getElem?_getD, h1, h2] using this
theorem len_parsM (l : List Nd) : (parsM l).length = l.length := by simp [parsM]
theorem rI_parsM {l : List Nd} {n : Nat} (h : n < l.length) : rI (parsM l) n = parS l n := by
 simp [rI, rdG, parsM, List.getD_eq_getElem?_getD, h]
theorem rI_parsI {l : List Nd} {n : Int} (h0 : 0 ≤ n) (h : n < l.length) : rI (parsM l) n = parS l n := by
 have := rI_parsM (l := l) (n := n.toNat) (by omega)
 rwa [Int.toNat_of_nonneg h0] at this
theorem ParU.start {l : List Nd} : ParU l 0 (List.replicate l.length (-1)) := by
 refine ⟨by simp, fun n hn => ?_⟩
 rw [if_neg (by omega)]
 simp [rI, rdG, List.getD_eq_getElem?_getD, List.getElem?_replicate, hn]
theorem ParU.fin {l : List Nd} (hT : OkT l) {i : Int} {q : List Int} (h : ParU l i q) (hi : (l.length : Int) ≤ i) : q = parsM l := by
 refine rI_ext (by rw [h.1, len_parsM]) fun n hn => ?_
 rw [h.1] at hn
 rw [h.2 n hn, rI_parsM hn]
 split
 · rfl
 · rename_i hc
   rcases parS_cases (l := l) n with ⟨h1, _⟩ | ⟨_, j, h1, h2, h3⟩
   · rw [h1]
   · omega
theorem ParU.kids {l : List Nd} {i : Int} {q : List Int} (h : ParU l i q) : ParK l i 0 q := by
 refine ⟨h.1, fun n hn => ?_⟩
 rw [h.2 n hn]
 simp
theorem ParK.fin {l : List Nd} (hT : OkT l) {i m : Int} {q : List Int} (h0 : 0 ≤ i) (hi : i < l.length) (h : ParK l i m q) (hm : ((kidsM (rN l i)).length : Int) ≤ m) : ParU l (i + 1) q := by
 refine ⟨h.1, fun n hn => ?_⟩
 rw [h.2 n hn, List.take_of_length_le (by omega)]
 have hp : (n : Int) ∈ kidsM (rN l i) ↔ parS l n = i := by
  constructor
  · intro hk
    have := hT.par (j := i.toNat) (n := n) (by omega) (by rw [Int.toNat_of_nonneg h0]; exact hk)
    rw [this]; omega
  · intro e
    have := (hT.par_lt (n := n) (by omega)).2.2.2
    rwa [e] at this
 simp only [hp]
 by_cases c : 0 ≤ parS l n ∧ parS l n < i + 1
 · rw [if_pos c, if_pos (by omega)]
 · rw [if_neg c, if_neg (by omega)]
theorem rI_set (l : List Int) {a b x : Int} (h0 : 0 ≤ a) (ha : a < l.length) (hb : 0 ≤ b) : rI (l.set a.toNat x) b = if b = a then x else rI l b := by
 unfold rI rdG
 rw [List.getD_eq_getElem?_getD, List.getD_eq_getElem?_getD]
 by_cases c : b = a
 · rw [if_pos c, c, List.getElem?_set_self (by omega)]; rfl
 · rw [if_neg c, List.getElem?_set_ne (by omega)]
theorem ParK.step {l : List Nd} (hT : OkT l) {i m k : Int} {q : List Int} (h0 : 0 ≤ i) (hi : i < l.length) (h : ParK l i m q) (m0 : 0 ≤ m) (hm : m < (kidsM (rN l i)).length) (hk : rI (kidsM (rN l i)) m = k) : 0 ≤ k ∧ k < l.length ∧ ParK l i (m + 1) (q.set k.toNat i) := by
 have hmem : k ∈ kidsM (rN l i) := by subst hk; exact rdG_mem m0 hm
 obtain ⟨st, _, _, ht, _⟩ := hT.tiled
 have hr := (ht.tile i.toNat (by omega)).1 k (by rw [Int.toNat_of_nonneg h0]; exact hmem)
 refine ⟨hr.1, by omega, by rw [List.length_set]; exact h.1, fun n hn => ?_⟩
 rw [rI_set _ hr.1 (by rw [h.1]; omega) (by omega), h.2 n hn, take_succG 0 m0 hm, show rdG 0 (kidsM (rN l i)) m = k from hk]
 by_cases c : (n : Int) = k
 · rw [if_pos c, if_pos (by right; rw [c]; simp), c]
   have := hT.par (j := i.toNat) (n := k) (by omega) (by rw [Int.toNat_of_nonneg h0]; exact hmem)
   rw [this]; omega
 · rw [if_neg c]
   simp [c]
end Go.Mach
