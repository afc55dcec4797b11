/- FnExactMayRaise: the program's MayRaise answers what the reference's answers, for all arguments (a tied card): part 15 of a proof by an executable machine over the program's code. -/
import Derived.Test.YtbkpkchegopmiaaGreatDoorMr14
section
set_option linter.unusedVariables false
set_option linter.unusedSimpArgs false
namespace Go.Mach
open Go Go.RowKit
inductive Lw (tk : List Nat) : Tok → Nat → Prop
  | nil : Lw tk .nil 0
  | own (i n) (h : tk[i]? = some n) : Lw tk (.own i) n
theorem Lw.app {tk t n} (h : Lw tk t n) (m : Nat) : ∃ t' tk', appTok t n m tk = some (t', tk') ∧ Lw tk' t' (n + m) := by
  cases h with
  | nil =>
    by_cases h : m = 0
    · subst h; exact ⟨.nil, tk, by simp [appTok], .nil⟩
    · exact ⟨.own tk.length, tk ++ [0 + m], by simp [appTok, h], .own _ _ (by simp)⟩
  | own i n h => exact ⟨.own i, tk.set i (n + m), by simp [appTok, h], .own _ _ (by simp [(List.getElem?_eq_some_iff.1 h).1])⟩
section
variable {E : Env} {Q : X → S → Prop} {o : Std}
theorem Den.app1w {t : Tok} {n m : Nat} {tk : List Nat} {k : Tok → List Nat → T} (h : Lw tk t n) (hk : ∀ t' tk', Lw tk' t' (n + m) → Den E (k t' tk') Q) : Den E (.app t n m tk k) Q := by
  obtain ⟨t', tk', h1, h2⟩ := h.app m
  exact Den.app h1 (hk t' tk' h2)
theorem Gns.mono {f : FuncId} {xs : List D} {out : List Box} {tk : List Nat} {R R2 : List D → List Box → List Nat → List Box → Prop} (h : Gns E f xs out tk R) (hm : ∀ ds o t l, R ds o t l → R2 ds o t l) : Gns E f xs out tk R2 := by
  obtain ⟨fi, h1, h2, h3⟩ := h
  exact ⟨fi, h1, h2, h3.mono fun x s ⟨hx, ds, hd, hr⟩ => ⟨hx, ds, hd, hm _ _ _ _ hr⟩⟩
theorem Gns.mkA (ho : o = std) {f : FuncId} {xs : List D} {out : List Box} {tk : List Nat} {R : List D → List Box → List Nat → List Box → Prop} (fi : FnI) (hf : E.fn f = some fi) (hn : Nat.ble xs.length fi.ntmps = true)
    (h : Den E (treeA o E fi.keep fi.body (enterS fi xs out tk) .done) fun x s => (x = .normal ∨ x = .ret) ∧ ∃ ds, resD E s fi.res = some ds ∧ R ds s.out s.tk s.loc) : Gns E f xs out tk R :=
  ⟨fi, hf, Nat.le_of_ble_eq_true hn, by subst ho; rwa [treeA_std] at h⟩
def Apart (t u : Tok) : Prop := ∀ i, t = .own i → u ≠ .own i
theorem Den.app12 {t u : Tok} {n m k0 : Nat} {tk : List Nat} {k : Tok → List Nat → T} (hu : Lw tk u k0) (hp : Apart t u) (h : Lv tk t n) (hk : ∀ t' tk', Lv tk' t' (n + m) → Lw tk' u k0 → Apart t' u → Den E (k t' tk') Q) : Den E (.app t n m tk k) Q := by
  have fresh : ∀ x : Nat, Lw (tk ++ [x]) u k0 ∧ Apart (.own tk.length) u := fun x => by
    cases hu with
    | nil => exact ⟨.nil, fun i _ h => by cases h⟩
    | own i _ hi =>
      have := (List.getElem?_eq_some_iff.1 hi).1
      exact ⟨.own _ _ (by rw [List.getElem?_append_left this]; exact hi), fun j h1 h2 => by injection h1 with h1; injection h2 with h2; omega⟩
  have new : ∀ x : Nat, Lv (tk ++ [x]) (.own tk.length) x := fun x => .own _ _ (by simp)
  cases h with
  | nil =>
    by_cases h : m = 0
    · subst h; exact Den.app (t' := .nil) (tk' := tk) (by simp [appTok]) (hk _ _ .nil hu hp)
    · exact Den.app (t' := .own tk.length) (tk' := tk ++ [0 + m]) (by simp [appTok, h]) (hk _ _ (new _) (fresh _).1 (fresh 0).2)
  | cap n =>
    by_cases h : m = 0
    · subst h; exact Den.app (t' := .cap) (tk' := tk) (by simp [appTok]) (hk _ _ (.cap _) hu hp)
    · exact Den.app (t' := .own tk.length) (tk' := tk ++ [n + m]) (by simp [appTok, h]) (hk _ _ (new _) (fresh _).1 (fresh 0).2)
  | own i n h =>
    have hi := (List.getElem?_eq_some_iff.1 h).1
    refine Den.app (t' := .own i) (tk' := tk.set i (n + m)) (by simp [appTok, h]) (hk _ _ (.own _ _ (by simp [hi])) ?_ hp)
    cases hu with
    | nil => exact .nil
    | own j _ hj =>
      have : i ≠ j := fun e => hp i rfl (by rw [e])
      exact .own _ _ (by rw [List.getElem?_set_ne this]; exact hj)
def cells5 (a b : Box) (d : Int) (c : Box) (t : Tok) (e : Box) : List D := [.sl .ro 7 a, .sl .ro 2 b, .int .i64 d, .sl .ro 6 c, .sl t 6 e]
theorem setBox_tk (s : S) (r : Ref) (b : Box) (tk : List Nat) : { s.setBox r b with tk := tk } = ({ s with tk := tk } : S).setBox r b := by cases r <;> rfl
theorem setBox_tkv (s : S) (r : Ref) (b : Box) : (s.setBox r b).tk = s.tk := by cases r <;> rfl
theorem Den.gc5 {s : S} {dst : Option Tmp} {f : FuncId} {args xs : List D} {k : S → T} {a b c e e' : Box} {d : Int} {t : Tok} {β : Type} (enc : β → D) {r : β} (rf : Ref)
    (hbox : s.box rf = some [cells5 a b d c t e]) (hl : Lw s.tk t e.length) (ha : argsFor 0 args = some xs) (hr : refsOf args = [rf])
    (hg : ∀ t0 tk0, Lw tk0 t0 e.length → Gns E f xs [[cells5 a b d c t0 e]] tk0 fun ds out tk' loc => resOf ds = some (enc r) ∧ ∃ t', out = [[cells5 a b d c t' e']] ∧ Lw tk' t' e'.length)
    (hk : ∀ v t' tk', r = v → Lw tk' t' e'.length → Den E (k ((({ s with tk := tk' } : S).setBox rf [cells5 a b d c t' e']).put dst (enc v))) Q) : Den E (gcallT s dst f args k) Q := by
  generalize hn1 : e.length = n1 at hl hg
  generalize hn2 : e'.length = n2 at hg hk
  unfold gcallT
  simp only [ha, hr, boxesOf, hbox, Option.map_some]
  cases hl with
  | nil =>
    have e0 : toksOf (List.flatten [cells5 a b d c .nil e]) = [] := rfl
    simp only [e0]
    simp only [cells5, renums, renum, D.cell, if_true, Option.map_some, noDup, Bool.not_false, Bool.and_self, List.contains_nil, List.map_cons, List.map_nil]
    refine Den.call ((hg .nil [] (by simpa using Lw.nil)).mono ?_)
    rintro ds out tk' loc ⟨h1, t', rfl, h2⟩
    cases h2 with
    | nil =>
      simp only [leave, h1, unbox, cells5, Option.map_some, renums, renum, D.cell, if_true, List.length_cons, List.length_nil, putBoxes, List.drop_zero, putToks, setBox_tk]
      exact hk r .nil _ rfl (by simpa using Lw.nil)
    | own j n h =>
      simp only [leave, h1, unbox, cells5, Option.map_some, renums, renum, D.cell, if_true, toBack, List.length_cons, List.length_nil, Nat.not_lt_zero, if_false, putBoxes, List.drop_zero, putToks, setBox_tk, setBox_tkv, Nat.sub_zero]
      exact hk r _ _ rfl (.own _ _ (by rw [List.getElem?_append_right (by omega)]; simpa using h))
  | own i _ h =>
    have e0 : toksOf (List.flatten [cells5 a b d c (.own i) e]) = [i] := rfl
    simp only [e0]
    have hi : i < s.tk.length := (List.getElem?_eq_some_iff.1 h).1
    have hg0 : s.tk.getD i 0 = n1 := by rw [List.getD_eq_getElem?_getD, h]; rfl
    have hix : List.idxOf? i [i] = some 0 := by simp [List.idxOf?, List.findIdx?, List.findIdx?.go]
    simp only [cells5, renums, renum, D.cell, if_true, Option.map_some, noDup, hix, Bool.not_false, Bool.and_self, List.contains_nil, List.map_cons, List.map_nil, hg0]
    refine Den.call ((hg (.own 0) [n1] (.own _ _ rfl)).mono ?_)
    rintro ds out tk' loc ⟨h1, t', rfl, h2⟩
    cases h2 with
    | nil =>
      simp only [leave, h1, unbox, cells5, Option.map_some, renums, renum, D.cell, if_true, List.length_cons, List.length_nil, putBoxes, setBox_tk]
      exact hk r .nil _ rfl (by simpa using Lw.nil)
    | own j n h =>
      simp only [leave, h1, unbox, cells5, Option.map_some, renums, renum, D.cell, if_true, toBack, List.length_cons, List.length_nil, putBoxes, setBox_tk]
      refine hk r _ _ rfl (.own _ _ ?_)
      by_cases hj : j = 0
      · subst hj
        cases tk' with
        | nil => simp at h
        | cons x tk' =>
          simp only [List.getElem?_cons_zero, Option.some.injEq] at h
          subst h
          simp only [Nat.zero_add, Nat.lt_irrefl, Nat.zero_lt_one, if_true, List.getD_cons_zero, putToks]
          rw [List.getElem?_append_left (by simpa using hi)]
          simp [hi]
      · rw [if_neg (by omega), List.getElem?_append_right (by rw [putToks_length]; omega), putToks_length, List.getElem?_drop]
        rw [← h]; congr 1; simp; omega
abbrev FR (o : Std) (l : List Nd) (us : List Bd) (dp : Int) (fs m' : List Fc) (d : D) : List D → List Box → List Nat → List Box → Prop := fun ds out tk' loc =>
  resOf ds = some d ∧ ∃ t' e', out = [[cells5 (o.bx fun _ => eNd l) (o.bx fun _ => eBd us) dp (o.bx fun _ => eFc fs) t' e']] ∧ e' = (o.bx fun _ => eFc m') ∧ Lw tk' t' e'.length
theorem Den.gcF (ho : o = std) {l : List Nd} {us : List Bd} {dp : Int} {fs m m' : List Fc} {t : Tok} {s : S} {dst : Option Tmp} {f : FuncId} {args xs : List D} {k : S → T} {β : Type} (enc : β → D) {r : β} (rf : Ref)
    (hbox : s.box rf = some [cells5 (o.bx fun _ => eNd l) (o.bx fun _ => eBd us) dp (o.bx fun _ => eFc fs) t (o.bx fun _ => eFc m)]) (ha : argsFor 0 args = some xs) (hr : refsOf args = [rf])
    (hg : ∀ t0 tk0, Lw tk0 t0 (o.bx fun _ => eFc m).length → Gns E f xs [[cells5 (o.bx fun _ => eNd l) (o.bx fun _ => eBd us) dp (o.bx fun _ => eFc fs) t0 (o.bx fun _ => eFc m)]] tk0 (FR o l us dp fs m' (enc r)))
    (hl : Lw s.tk t (o.bx fun _ => eFc m).length)
    (hk : ∀ v t' tk', r = v → Lw tk' t' (o.bx fun _ => eFc m').length → Den E (k ((({ s with tk := tk' } : S).setBox rf [cells5 (o.bx fun _ => eNd l) (o.bx fun _ => eBd us) dp (o.bx fun _ => eFc fs) t' (o.bx fun _ => eFc m')]).put dst (enc v))) Q) : Den E (o.gc s dst f args k) Q := by
  subst ho
  refine Den.gc5 enc rf hbox hl ha hr (fun t0 tk0 h0 => (hg t0 tk0 h0).mono ?_) hk
  rintro ds out tk' loc ⟨h1, t', e', h2, rfl, h3⟩
  exact ⟨h1, t', h2, h3⟩
theorem Lw.len {tk : List Nat} {t : Tok} {n n' : Nat} (h : Lw tk t n) (e : n = n') : Lw tk t n' := e ▸ h
end
end Go.Mach
end
section
set_option linter.unusedVariables false
set_option linter.unusedSimpArgs false
namespace Go.Mach
open Go Go.RowKit
def cmpI (a b : Int) : Int := if a < b then -1 else if b < a then 1 else 0
def orI : List Int → Int
  | [] => 0
  | x :: l => if x = 0 then orI l else x
theorem orI_take_succ {l : List Int} {i : Int} (h0 : 0 ≤ i) (hi : i < l.length) (h : orI (l.take i.toNat) = 0) : orI (l.take (i + 1).toNat) = rI l i := by
  rw [take_succG 0 h0 hi]
  have : ∀ (m : List Int) (y : Int), orI m = 0 → orI (m ++ [y]) = y := by
    intro m y hm
    induction m with
    | nil => simp only [List.nil_append, orI]; split <;> simp_all
    | cons x m ih =>
      simp only [orI, List.cons_append] at hm ⊢
      split at hm
      · rename_i hx; rw [if_pos hx]; exact ih hm
      · contradiction
  exact this _ _ h
theorem orI_more {l : List Int} {n : Nat} (h : orI (l.take n) ≠ 0) : orI l = orI (l.take n) := by
  induction l generalizing n with
  | nil => simp at h ⊢
  | cons x l ih =>
    cases n with
    | zero => exact absurd rfl h
    | succ n =>
      simp only [List.take_succ_cons, orI] at h ⊢
      split
      · rename_i hx; rw [if_pos hx] at h; exact ih h
      · rfl
theorem orI_hit {l : List Int} {i y : Int} (h0 : 0 ≤ i) (hi : i < l.length) (h : orI (l.take i.toNat) = 0) (hy : rI l i = y) (hb : ¬ y = 0) : orI l = y := by
  have e := orI_take_succ h0 hi h
  rw [hy] at e
  rw [orI_more (n := (i + 1).toNat) (by rw [e]; exact hb), e]
theorem orI_skip {l : List Int} {i y : Int} (h0 : 0 ≤ i) (hi : i < l.length) (h : orI (l.take i.toNat) = 0) (hy : rI l i = y) (hb : y = 0) : orI (l.take (i + 1).toNat) = 0 := by
  rw [orI_take_succ h0 hi h, hy, hb]
def ordF (a b : Fc) : Int := orI [cmpI a.k b.k, cmpI a.n b.n, cmpI a.c b.c, cmpI a.v.k b.v.k, cmpI a.v.n b.v.n, cmpI a.v.c b.v.c]
theorem ordF_lt (a b : Fc) : ordF a b < 0 ↔ ltF a b := by
  have c : ∀ (x y r : Int) (P : Prop), (r < 0 ↔ P) → ((if cmpI x y = 0 then r else cmpI x y) < 0 ↔ x < y ∨ (x = y ∧ P)) := by
    intro x y r P h
    unfold cmpI
    by_cases h1 : x < y
    · rw [if_pos h1]; simp [h1]
    · rw [if_neg h1]
      by_cases h2 : y < x
      · rw [if_pos h2]
        constructor
        · intro h3; simp at h3
        · rintro (h3 | h3)
          · exact absurd h3 h1
          · omega
      · rw [if_neg h2, if_pos rfl, h]
        constructor
        · intro h3; exact .inr ⟨by omega, h3⟩
        · rintro (h3 | h3)
          · exact absurd h3 h1
          · exact h3.2
  unfold ordF ltF
  simp only [orI]
  refine c _ _ _ _ (c _ _ _ _ (c _ _ _ _ (c _ _ _ _ (c _ _ _ _ ?_))))
  have := c a.v.c b.v.c 0 False (by simp)
  rw [this]; simp
theorem mem_posF {l : List Fc} (hu : Up l) {f : Fc} : f ∈ l ↔ posF l f < l.length ∧ l.getD (posF l f) zF = f := by
  constructor
  · intro h
    obtain ⟨j, hj, rfl⟩ := List.getElem_of_mem h
    have e : l[j] = l.getD j zF := by rw [List.getD_eq_getElem?_getD, List.getElem?_eq_getElem hj]; rfl
    have : posF l l[j] = j := posF_eq (by omega) (fun i hi => by rw [e]; exact hu.get hi hj) (fun _ => by rw [e]; exact ltF_irrefl _)
    rw [this]; exact ⟨hj, e.symm⟩
  · rintro ⟨h1, h2⟩
    rw [← h2, List.getD_eq_getElem?_getD, List.getElem?_eq_getElem h1]; exact List.getElem_mem h1
def nameAt (b : Bd) (c : Int) : Plc := ⟨if b.f1 = 1 then 2 else 1, b.f0, c⟩
def givenM (l : List Nd) (f : Int) : Bd := ⟨f, if (rN l f).f0 = 6 then 1 else 0⟩
end Go.Mach
namespace Go.Mach
theorem vals_startG {l : List Fc} {s : Ab} {k n c : Int} (hu : Up l) (hp : ∀ f ∈ l, ltF ⟨k, n, c, s⟩ ⟨k, n, c, f.v⟩) : (0 : Int) ≤ ((posF l ⟨k, n, c, s⟩ : Nat) : Int) ∧ ((posF l ⟨k, n, c, s⟩ : Nat) : Int) ≤ l.length ∧
    ([] : List Ab) = vals (l.take ((posF l ⟨k, n, c, s⟩ : Nat) : Int).toNat) k n c ∧ (∀ j : Nat, j < l.length → ((posF l ⟨k, n, c, s⟩ : Nat) : Int) ≤ j → ltF ⟨k, n, c, s⟩ (l.getD j zF)) := by
  have hm : ∀ j : Nat, j < l.length → l.getD j zF ∈ l := fun j hj => by rw [List.getD_eq_getElem?_getD, List.getElem?_eq_getElem hj]; exact List.getElem_mem hj
  refine ⟨by omega, by have := posF_le l ⟨k, n, c, s⟩; omega, ?_, fun j hj hk => ?_⟩
  · rw [Int.toNat_natCast]
    symm
    rw [vals, List.map_eq_nil_iff, List.filter_eq_nil_iff]
    intro f hf
    obtain ⟨j, hj, rfl⟩ := List.mem_take_iff_getElem.1 hf
    have h1 := posF_lt (l := l) (f := ⟨k, n, c, s⟩) (j := j) (by omega)
    have h2 := hm j (by omega)
    have h3 := hp _ h2
    rw [List.getD_eq_getElem?_getD, List.getElem?_eq_getElem (show j < l.length by omega), Option.getD_some] at h1 h3
    simp only [hasKey, Bool.and_eq_true, beq_iff_eq]
    rintro ⟨e1, e2, e3⟩
    have e : (⟨k, n, c, l[j].v⟩ : Fc) = l[j] := Fc.ext' e1.symm e2.symm e3.symm rfl rfl rfl
    rw [e] at h3
    exact ltF_irrefl _ (ltF_trans h1 h3)
  · have hl : posF l ⟨k, n, c, s⟩ < l.length := by omega
    have h2 := posF_at (l := l) (f := ⟨k, n, c, s⟩) hl
    have h3 := hp _ (hm _ hl)
    have h4 : ltF ⟨k, n, c, s⟩ (l.getD (posF l ⟨k, n, c, s⟩) zF) := Classical.byContradiction fun h => by
      have e := ltF_total h2 h
      rw [e] at h3
      exact ltF_irrefl _ h3
    by_cases e : posF l ⟨k, n, c, s⟩ = j
    · rw [e] at h4; exact h4
    · exact ltF_trans h4 (hu.get (by omega) hj)
theorem vals_endG {l : List Fc} {s : Ab} {k n c i : Int} (h0 : 0 ≤ i) (hi : i ≤ l.length) (hu : Up l) (h : ∀ j : Nat, j < l.length → i ≤ j → ltF ⟨k, n, c, s⟩ (l.getD j zF)) (he : i = l.length ∨ (i < l.length ∧ ¬ ((rF l i).k = k ∧ (rF l i).n = n ∧ (rF l i).c = c))) : vals (l.take i.toNat) k n c = vals l k n c := by
  rcases he with rfl | ⟨he, hn⟩
  · rw [Int.toNat_natCast, List.take_length]
  · conv => rhs; rw [← List.take_append_drop i.toNat l]
    simp only [vals, List.filter_append, List.map_append]
    symm
    rw [List.append_right_eq_self, List.map_eq_nil_iff, List.filter_eq_nil_iff]
    intro f hf
    obtain ⟨j, hj, rfl⟩ := List.mem_drop_iff_getElem.1 hf
    have h1 := h i.toNat (by omega) (by omega)
    have h2 : ltF (l.getD i.toNat zF) (l.getD (i.toNat + j) zF) ∨ l.getD i.toNat zF = l.getD (i.toNat + j) zF := by
      by_cases e : j = 0
      · subst e; exact .inr rfl
      · exact .inl (hu.get (by omega) (by omega))
    have e3 : l.getD (i.toNat + j) zF = l[i.toNat + j] := by rw [List.getD_eq_getElem?_getD, List.getElem?_eq_getElem (show i.toNat + j < l.length by omega), Option.getD_some]
    rw [← e3]
    have e4 : rF l i = l.getD i.toNat zF := rfl
    rw [e4] at hn
    generalize l.getD i.toNat zF = x at *
    generalize l.getD (i.toNat + j) zF = y at *
    simp only [hasKey, Bool.and_eq_true, beq_iff_eq]
    rintro ⟨a1, a2, a3⟩
    rcases h2 with h2 | rfl
    · unfold ltF at h1 h2
      dsimp only at h1
      omega
    · exact hn ⟨a1, a2, a3⟩
theorem lowI {l : List Fc} {k n c : Int} (h : ∀ f ∈ l, 0 ≤ f.v.k ∧ 0 ≤ f.v.n) : ∀ f ∈ l, ltF ⟨k, n, c, ⟨0, -22951, 0⟩⟩ ⟨k, n, c, f.v⟩ := fun f hf => by
  have := h f hf; unfold ltF; dsimp only; omega
def Downs (l : List Nd) : Prop := ∀ i : Int, 0 ≤ i → i < l.length → (0 < arityM (rN l i).f0 → 0 ≤ (rN l i).f1 ∧ (rN l i).f1 < i)
def startN (l : List Nd) : Nat → Int → Int
  | 0, i => i
  | n + 1, i => if 0 < arityM (rN l i).f0 then startN l n (rN l i).f1 else i
def startM (l : List Nd) (i : Int) : Int := startN l i.toNat i
theorem startN_stay {l : List Nd} (hd : Downs l) : ∀ (n : Nat) (i : Int), 0 ≤ i → i < l.length → i.toNat ≤ n → startN l (n + 1) i = startN l n i := by
  intro n
  induction n with
  | zero =>
    intro i h0 h1 h2
    rw [startN, startN]
    by_cases hc : 0 < arityM (rN l i).f0
    · have := hd i h0 h1 hc; omega
    · rw [if_neg hc]
  | succ n ih =>
    intro i h0 h1 h2
    by_cases hc : 0 < arityM (rN l i).f0
    · have := hd i h0 h1 hc
      simp only [startN, hc, if_true]
      have := ih (rN l i).f1 this.1 (by omega) (by omega)
      simpa only [startN] using this
    · simp only [startN, hc, if_false]
theorem startN_eq {l : List Nd} (hd : Downs l) {n : Nat} {i : Int} (h0 : 0 ≤ i) (h1 : i < l.length) (h : i.toNat ≤ n) : startN l n i = startM l i := by
  induction n with
  | zero => unfold startM; rw [show i.toNat = 0 by omega]
  | succ n ih =>
    by_cases e : i.toNat = n + 1
    · unfold startM; rw [e]
    · rw [startN_stay hd n i h0 h1 (by omega)]; exact ih (by omega)
theorem startM_base {l : List Nd} {i : Int} (h : arityM (rN l i).f0 = 0) : startM l i = i := by
  unfold startM
  cases i.toNat with
  | zero => rfl
  | succ n => rw [startN, if_neg (by omega)]
theorem startM_step {l : List Nd} (hd : Downs l) {i : Int} {y : Nd} (h0 : 0 ≤ i) (h1 : i < l.length) (hy : rN l i = y) (h : 0 < arityM y.f0) : startM l i = startM l y.f1 := by
  subst hy
  have hk := hd i h0 h1 h
  rw [← startN_eq hd h0 h1 (Nat.le_succ _), startN, if_pos h]
  exact startN_eq hd hk.1 (by omega) (by omega)
end Go.Mach
namespace Go.Mach
instance (l : List Fc) : Decidable (Up l) := by unfold Up; infer_instance
def okF (l : List Fc) : Bool := decide (Up l ∧ l.length ≤ 2500)
theorem up_adj {l : List Fc} (h : ∀ j : Nat, 1 ≤ j → j < l.length → ltF (l.getD (j - 1) zF) (l.getD j zF)) : Up l := by
  refine List.pairwise_iff_getElem.2 fun i j hi hj hij => ?_
  have key : ∀ d i : Nat, i + d + 1 < l.length → ltF (l.getD i zF) (l.getD (i + d + 1) zF) := by
    intro d
    induction d with
    | zero => intro i hi; exact h (i + 1) (by omega) hi
    | succ d ih => intro i hi; exact ltF_trans (ih i (by omega)) (h (i + (d + 1) + 1) (by omega) hi)
  have := key (j - i - 1) i (by omega)
  rw [show i + (j - i - 1) + 1 = j by omega, List.getD_eq_getElem?_getD, List.getD_eq_getElem?_getD, List.getElem?_eq_getElem hi, List.getElem?_eq_getElem hj] at this
  exact this
theorem okF_end {l : List Fc} {a : Int} {b : Bool} (h : (l.length : Int) ≤ a) (h1 : 1 ≤ a) (hu : ∀ j : Nat, 1 ≤ j → (j : Int) < a → ltF (l.getD (j - 1) zF) (l.getD j zF)) (hb : b = decide (l.length ≤ 2500)) : b = okF l := by
  have : Up l := up_adj fun j h1 h2 => hu j h1 (by omega)
  subst hb
  simp [okF, this]
theorem okF_no {l : List Fc} {a : Int} (h1 : 1 ≤ a) (h : a < l.length) (hn : ¬ ltF (rF l (a - 1)) (rF l a)) : okF l = false := by
  refine decide_eq_false fun ⟨hu, _⟩ => hn ?_
  exact hu.get (by omega) (by omega)
theorem okF_step {l : List Fc} {a : Int} (h1 : 1 ≤ a) (h : a < l.length) (hu : ∀ j : Nat, 1 ≤ j → (j : Int) < a → ltF (l.getD (j - 1) zF) (l.getD j zF)) (hn : ltF (rF l (a - 1)) (rF l a)) : ∀ j : Nat, 1 ≤ j → (j : Int) < a + 1 → ltF (l.getD (j - 1) zF) (l.getD j zF) := fun j h2 h3 => by
  by_cases e : (j : Int) = a
  · subst e
    unfold rF rdG at hn
    rw [Int.toNat_natCast, show ((j : Int) - 1).toNat = j - 1 by omega] at hn
    exact hn
  · exact hu j h2 (by omega)
end Go.Mach
namespace Go.Mach
theorem okF_no2 {l : List Fc} {a i : Int} {x y : Fc} (h1 : 1 ≤ a) (h : a < l.length) (hx : rF l i = x) (hi : i = a - 1) (hy : rF l a = y) (hv : ltB x y = false) : false = okF l := by
  subst hi
  refine (okF_no h1 h ?_).symm
  rw [hx, hy]; exact fun h => by rw [ltB_iff.2 h] at hv; cases hv
theorem okF_step2 {l : List Fc} {a i : Int} {x y : Fc} (h1 : 1 ≤ a) (h : a < l.length) (hu : ∀ j : Nat, 1 ≤ j → (j : Int) < a → ltF (l.getD (j - 1) zF) (l.getD j zF)) (hx : rF l i = x) (hi : i = a - 1) (hy : rF l a = y) (hv : ltB x y = true) : ∀ j : Nat, 1 ≤ j → (j : Int) < a + 1 → ltF (l.getD (j - 1) zF) (l.getD j zF) := by
  subst hi
  refine okF_step h1 h hu ?_
  rw [hx, hy]; exact ltB_iff.1 hv
theorem has_iff {l : List Fc} {f y : Fc} {v : Int} (hu : Up l) (hv : ((posF l f : Nat) : Int) = v) (hlt : v < l.length) (hy : rF l v = y) : f ∈ l ↔ y = f := by
  subst hv
  rw [mem_posF hu]
  constructor
  · rintro ⟨_, h2⟩; exact hy.symm.trans h2
  · intro h; exact ⟨by omega, hy.trans h⟩
end Go.Mach
namespace Go.Mach
structure Fok (l : List Nd) (fs : List Fc) : Prop where
  up : Up fs
  len : fs.length ≤ 2500
  pos : ∀ f ∈ fs, 0 ≤ f.v.k ∧ 0 ≤ f.v.n
  val : ∀ f ∈ fs, f.v.n < l.length
  lam : ∀ f ∈ fs, f.v.k = 1 → lamB (rN l f.v.n) = true
  node : ∀ f ∈ fs, 0 ≤ f.n ∧ f.n < l.length
structure Lok (l : List Nd) (us : List Bd) : Prop where
  size : l.length ≤ 150
  downs : Downs l
  uses : us.length = l.length
def hasR (fs : List Fc) (n c : Int) : Bool := decide ((⟨7, n, c, ⟨0, 0, 0⟩⟩ : Fc) ∈ fs)
def thoseL (fs : List Fc) (k n c kd : Int) : List Ab := (vals fs k n c).filter fun v => v.k == kd
theorem len_those (fs : List Fc) (k n c kd : Int) : (thoseL fs k n c kd).length ≤ fs.length := Nat.le_trans (List.length_filter_le _ _) (len_vals _ _ _ _)
theorem filter_succ {l : List Ab} {i : Int} (h0 : 0 ≤ i) (hi : i < l.length) (p : Ab → Bool) : (l.take (i + 1).toNat).filter p = (l.take i.toNat).filter p ++ if p (rA l i) then [rA l i] else [] := by
  rw [take_succG zA h0 hi, List.filter_append]
  congr 1
  show List.filter p [rA l i] = _
  by_cases h : p (rA l i) <;> simp [h]
def takeL (fs : List Fc) (kd part k2 n2 c2 : Int) (vs : List Ab) : List Fc := vs.flatMap fun v => flowL fs part v.n v.c k2 n2 c2
end Go.Mach
end
section
set_option linter.unusedVariables false
set_option linter.unusedSimpArgs false
namespace Go.Mach
open Go Go.RowKit Go.Proofs
set_option maxRecDepth 100000
set_option maxHeartbeats 2000000
theorem cmp_isNaN_int.ans {xa xb : Option (List D → Option D)} (o : Std) (ho : o = std) (x : Int) : Ans (env xa xb) 196 [.int .i64 x] (.bool (false)) := by
  refine Ans.mkA ho _ rfl rfl ?_
  repeat' (first
    | (refine Den.id ?_
       (try (conv => arg 2; cbv))
       first
         | (refine Den.done ⟨by first | exact Or.inl rfl | exact Or.inr rfl, ?_⟩; (conv => lhs; cbv); refine congrArg some ?_))
    | ((fail_if_success (refine Den.id ?_))
       first
         | (subst ho; simp [std]; done)))
theorem cmp_Compare_int.ans {xa xb : Option (List D → Option D)} (o : Std) (ho : o = std) (x : Int) (y : Int) : Ans (env xa xb) 173 [.int .i64 x, .int .i64 y] (.int .i64 (cmpI x y)) := by
  refine Ans.mkA ho _ rfl rfl ?_
  repeat' (first
    | (refine Den.id ?_
       (try (conv => arg 2; cbv))
       first
         | refine Den.testF ?_
         | (refine Den.test (fun hr => ?_) (fun hr => ?_) <;> (have hb := hr) <;> (try simp (disch := omega) only [ho, std, wI, len_eK, len_eB, len_eNd, len_eLNd, len_eFc, len_eAb, len_eBd, len_eEd, len_eLBd, Classical.not_not, decide_eq_true_eq, decide_eq_false_iff_not, beq_iff_eq, beq_eq_false_iff_ne, ne_eq, Bool.not_eq_true', Bool.not_eq_false', gt_iff_lt, ge_iff_le, Int.not_lt, Int.not_le] at hb) <;> (try (exfalso; first | contradiction | omega | exact hb rfl)))
         | (refine Den.pcallE (β := Bool) (fun v => .bool v) (as' := [.int .i64 _]) (by first | with_reducible rfl | (subst ho; rfl)) (cmp_isNaN_int.ans o ho _) ?_; rotate_left 0; rintro (_ | _) hv <;> (try simp only [decide_eq_true_eq, decide_eq_false_iff_not] at hv) <;> (try first | contradiction | exact absurd (hv.symm.trans (show _ = false by assumption)) (by decide) | exact absurd (hv.symm.trans (show _ = true by assumption)) (by decide)))
         | (refine Den.done ⟨by first | exact Or.inl rfl | exact Or.inr rfl, ?_⟩; (conv => lhs; cbv); refine congrArg some ?_))
    | ((fail_if_success (refine Den.id ?_))
       first
         | (refine dI ?_; unfold cmpI; simp [*]; done)
         | (refine dI ?_; unfold cmpI; rw [if_neg (by omega), if_neg (by omega)])))
theorem cmp_Or_int.ans {xa xb : Option (List D → Option D)} (o : Std) (ho : o = std) (l : List Int) (h0 : l.length ≤ 100) : Ans (env xa xb) 172 [.sl .ro 1 (o.bx fun _ => eK .i64 l)] (.int .i64 (orI l)) := by
  refine Ans.mkA ho _ rfl rfl ?_
  repeat' (first
    | (refine Den.id ?_
       (try (conv => arg 2; cbv))
       first
         | (refine Den.indF (fun m_ s_ => ∃ (a7 : Int) (a8 : Int) (tk : List Nat), s_ = ⟨[.junk, .junk, .junk, .int .i64 0, .junk, .junk, .sl .ro 1 (o.bx fun _ => eK .i64 l), .int .i64 a7, .int .i64 a8] ++ List.replicate 9 .junk, [], [], tk⟩ ∧ (a7 = l.length ∧ 0 ≤ a8 ∧ a8 ≤ l.length ∧ orI (l.take a8.toNat) = 0) ∧ (l.length - a8).toNat ≤ m_) _ _ ⟨_, _, _, by subst ho; rfl, ?_, Nat.le_refl _⟩ ?_
            rotate_right
            rintro m_ _ ⟨a7, a8, tk, rfl, hIa, hka⟩ iha
            obtain ⟨i1, i2, i3, i4⟩ := hIa; refine Den.unloopA ho ?_
            repeat' (first
              | (refine Den.id ?_
                 (try (conv => arg 2; cbv))
                 first
                   | (refine Den.test (fun hr => ?_) (fun hr => ?_) <;> (have hb := hr) <;> (try simp (disch := omega) only [ho, std, wI, len_eK, len_eB, len_eNd, len_eLNd, len_eFc, len_eAb, len_eBd, len_eEd, len_eLBd, Classical.not_not, decide_eq_true_eq, decide_eq_false_iff_not, beq_iff_eq, beq_eq_false_iff_ne, ne_eq, Bool.not_eq_true', Bool.not_eq_false', gt_iff_lt, ge_iff_le, Int.not_lt, Int.not_le] at hb) <;> (try (exfalso; first | contradiction | omega | exact hb rfl)))
                   | (refine Den.fetchXK ho ?_ ?_ (fun y hy => ?_); rotate_left 2)
                   | (refine iha _ _ ?_ ⟨_, _, _, by subst ho; rfl, ?_, Nat.le_refl _⟩)
                   | (refine Den.done ⟨by first | exact Or.inl rfl | exact Or.inr rfl, ?_⟩; (conv => lhs; cbv); refine congrArg some ?_))
              | ((fail_if_success (refine Den.id ?_))
                 first
                   | (subst ho; refine dI ?_; rw [← take_allG (l := l) (i := a8) (by omega), i4])
                   | (refine dI ?_; exact (orI_hit i2 (by omega) i4 hy hb).symm)
                   | (subst ho; exact ⟨by simp [std, len_eK], Int.le_refl _, by omega, rfl⟩)
                   | (subst ho; simp (disch := omega) only [std, wI]; exact ⟨i1, by omega, by omega, orI_skip i2 (by omega) i4 hy hb⟩)
                   | assumption
                   | omega
                   | (subst ho; simp (disch := omega) only [std, wI, tdiv2, tdivN, len_eFc, len_eNd, len_eBd, len_eAb, len_eLBd, len_eK, len_eB] <;> first | done | rfl | omega)))))
    | ((fail_if_success (refine Den.id ?_))
       first
         | fail))
theorem impl_order.ans {xa xb : Option (List D → Option D)} (o : Std) (ho : o = std) (a_k : Int) (a_n : Int) (a_c : Int) (a_v_k : Int) (a_v_n : Int) (a_v_c : Int) (b_k : Int) (b_n : Int) (b_c : Int) (b_v_k : Int) (b_v_n : Int) (b_v_c : Int) : Ans (env xa xb) 130 [.agg [.int .i64 a_k, .int .i64 a_n, .int .i64 a_c, .int .i64 a_v_k, .int .i64 a_v_n, .int .i64 a_v_c], .agg [.int .i64 b_k, .int .i64 b_n, .int .i64 b_c, .int .i64 b_v_k, .int .i64 b_v_n, .int .i64 b_v_c]] (.int .i64 (ordF (⟨a_k, a_n, a_c, ⟨a_v_k, a_v_n, a_v_c⟩⟩ : Fc) (⟨b_k, b_n, b_c, ⟨b_v_k, b_v_n, b_v_c⟩⟩ : Fc))) := by
  refine Ans.mkA ho _ rfl rfl ?_
  repeat' (first
    | (refine Den.id ?_
       (try (conv => arg 2; cbv))
       first
         | (refine Den.pcallE (β := Int) (fun v => .int .i64 v) (as' := [.sl .ro 1 (o.bx fun _ => eK .i64 [_, _, _, _, _, _])]) (by subst ho; rfl) (cmp_Or_int.ans o ho _ (by simp)) ?_; rintro v hv)
         | (refine Den.pcallE (β := Int) (fun v => .int .i64 v) (as' := [.int .i64 _, .int .i64 _]) (by first | with_reducible rfl | (subst ho; rfl)) (cmp_Compare_int.ans o ho _ _) ?_; rotate_left 0; rintro v hv)
         | (refine Den.needD ho (by kernel_rfl) ?_)
         | (refine Den.done ⟨by first | exact Or.inl rfl | exact Or.inr rfl, ?_⟩; (conv => lhs; cbv); refine congrArg some ?_))
    | ((fail_if_success (refine Den.id ?_))
       first
         | (refine dI ?_; subst_vars; rfl)))
theorem impl_FactLess.ans {xa xb : Option (List D → Option D)} (o : Std) (ho : o = std) (a_k : Int) (a_n : Int) (a_c : Int) (a_v_k : Int) (a_v_n : Int) (a_v_c : Int) (b_k : Int) (b_n : Int) (b_c : Int) (b_v_k : Int) (b_v_n : Int) (b_v_c : Int) : Ans (env xa xb) 106 [.agg [.int .i64 a_k, .int .i64 a_n, .int .i64 a_c, .int .i64 a_v_k, .int .i64 a_v_n, .int .i64 a_v_c], .agg [.int .i64 b_k, .int .i64 b_n, .int .i64 b_c, .int .i64 b_v_k, .int .i64 b_v_n, .int .i64 b_v_c]] (.bool (ltB (⟨a_k, a_n, a_c, ⟨a_v_k, a_v_n, a_v_c⟩⟩ : Fc) (⟨b_k, b_n, b_c, ⟨b_v_k, b_v_n, b_v_c⟩⟩ : Fc))) := by
  refine Ans.mkA ho _ rfl rfl ?_
  repeat' (first
    | (refine Den.id ?_
       (try (conv => arg 2; cbv))
       first
         | (refine Den.pcallE (β := Int) (fun v => .int .i64 v) (as' := [.agg [.int .i64 _, .int .i64 _, .int .i64 _, .int .i64 _, .int .i64 _, .int .i64 _], .agg [.int .i64 _, .int .i64 _, .int .i64 _, .int .i64 _, .int .i64 _, .int .i64 _]]) (by first | with_reducible rfl | (subst ho; rfl)) (impl_order.ans o ho _ _ _ _ _ _ _ _ _ _ _ _) ?_; rotate_left 0; rintro v hv)
         | (refine Den.done ⟨by first | exact Or.inl rfl | exact Or.inr rfl, ?_⟩; (conv => lhs; cbv); refine congrArg some ?_))
    | ((fail_if_success (refine Den.id ?_))
       first
         | (subst ho; refine dBi ?_; rw [← hv]; exact ordF_lt _ _)))
theorem impl_in.ans {xa xb : Option (List D → Option D)} (o : Std) (ho : o = std) (a : Int) (b : Int) (c : Int) : Ans (env xa xb) 102 [.int .i64 a, .int .i64 b, .int .i64 c] (.bool (decide (b ≤ a ∧ a ≤ c))) := by
  refine Ans.mkA ho _ rfl rfl ?_
  repeat' (first
    | (refine Den.id ?_
       (try (conv => arg 2; cbv))
       first
         | refine Den.test1 (by with_reducible assumption) ?_
         | refine Den.test0 (by with_reducible assumption) ?_
         | (refine Den.test (fun hr => ?_) (fun hr => ?_) <;> (have hb := hr) <;> (try simp (disch := omega) only [ho, std, wI, len_eK, len_eB, len_eNd, len_eLNd, len_eFc, len_eAb, len_eBd, len_eEd, len_eLBd, Classical.not_not, decide_eq_true_eq, decide_eq_false_iff_not, beq_iff_eq, beq_eq_false_iff_ne, ne_eq, Bool.not_eq_true', Bool.not_eq_false', gt_iff_lt, ge_iff_le, Int.not_lt, Int.not_le] at hb) <;> (try (exfalso; first | contradiction | omega | exact hb rfl)))
         | (refine Den.done ⟨by first | exact Or.inl rfl | exact Or.inr rfl, ?_⟩; (conv => lhs; cbv); refine congrArg some ?_))
    | ((fail_if_success (refine Den.id ?_))
       first
         | (subst ho; first | exact dBi (by omega) | exact dB (decide_eq_false (by omega)).symm)))
theorem impl_CtxPush.ans {xa xb : Option (List D → Option D)} (o : Std) (ho : o = std) (ctx : Int) (site : Int) (depth : Int) : Ans (env xa xb) 229 [.int .i64 ctx, .int .i64 site, .int .i64 depth] (.int .i64 (ctxPush ctx site depth)) := by
  refine Ans.mkA ho _ rfl rfl ?_
  repeat' (first
    | (refine Den.id ?_
       (try (conv => arg 2; cbv))
       first
         | refine Den.testT ?_
         | refine Den.test1 (by with_reducible assumption) ?_
         | refine Den.test0 (by with_reducible assumption) ?_
         | (refine Den.test (fun hr => ?_) (fun hr => ?_) <;> (have hb := hr) <;> (try simp (disch := omega) only [ho, std, wI, len_eK, len_eB, len_eNd, len_eLNd, len_eFc, len_eAb, len_eBd, len_eEd, len_eLBd, Classical.not_not, decide_eq_true_eq, decide_eq_false_iff_not, beq_iff_eq, beq_eq_false_iff_ne, ne_eq, Bool.not_eq_true', Bool.not_eq_false', gt_iff_lt, ge_iff_le, Int.not_lt, Int.not_le] at hb) <;> (try (exfalso; first | contradiction | omega | exact hb rfl)))
         | (refine Den.pcallE (β := Bool) (fun v => .bool v) (as' := [.int .i64 _, .int .i64 _, .int .i64 _]) (by first | with_reducible rfl | (subst ho; rfl)) (impl_in.ans o ho _ _ _) ?_; rotate_left 0; rintro (_ | _) hv <;> (try simp only [decide_eq_true_eq, decide_eq_false_iff_not] at hv) <;> (try first | contradiction | exact absurd (hv.symm.trans (show _ = false by assumption)) (by decide) | exact absurd (hv.symm.trans (show _ = true by assumption)) (by decide)))
         | (refine Den.need ?_ ?_)
         | (refine Den.done ⟨by first | exact Or.inl rfl | exact Or.inr rfl, ?_⟩; (conv => lhs; cbv); refine congrArg some ?_))
    | ((fail_if_success (refine Den.id ?_))
       first
         | (subst ho; refine dI ?_; simp only [ctxPush]; (repeat' split) <;> first | omega | (simp (disch := omega) only [std, wI, tdivN] <;> omega))
         | (subst ho; rfl)))
theorem impl_isFun.ans {xa xb : Option (List D → Option D)} (o : Std) (ho : o = std) (l : List Nd) (i : Int) (h0 : 0 ≤ i ∧ i < l.length) : Ans (env xa xb) 129 [.sl .ro 7 (o.bx fun _ => eNd l), .int .i64 i] (.bool (lamB (rN l i))) := by
  refine Ans.mkA ho _ rfl rfl ?_
  repeat' (first
    | (refine Den.id ?_
       (try (conv => arg 2; cbv))
       first
         | refine Den.test1 (by with_reducible assumption) ?_
         | refine Den.test0 (by with_reducible assumption) ?_
         | (refine Den.test (fun hr => ?_) (fun hr => ?_) <;> (have hb := hr) <;> (try simp (disch := omega) only [ho, std, wI, len_eK, len_eB, len_eNd, len_eLNd, len_eFc, len_eAb, len_eBd, len_eEd, len_eLBd, Classical.not_not, decide_eq_true_eq, decide_eq_false_iff_not, beq_iff_eq, beq_eq_false_iff_ne, ne_eq, Bool.not_eq_true', Bool.not_eq_false', gt_iff_lt, ge_iff_le, Int.not_lt, Int.not_le] at hb) <;> (try (exfalso; first | contradiction | omega | exact hb rfl)))
         | (refine Den.fetchYNd ho ?_ ?_ (by with_reducible assumption) ?_)
         | (refine Den.fetchXNd ho ?_ ?_ (fun y hy => ?_); rotate_left 2; rcases y with ⟨y0, y1, y2, y3, y4, y5, y6⟩)
         | (refine Den.done ⟨by first | exact Or.inl rfl | exact Or.inr rfl, ?_⟩; (conv => lhs; cbv); refine congrArg some ?_))
    | ((fail_if_success (refine Den.id ?_))
       first
         | (subst ho; rw [hy]; simp [std, lamB, *]; done)
         | omega))
theorem impl_nameAt.ans {xa xb : Option (List D → Option D)} (o : Std) (ho : o = std) (b_f0 : Int) (b_f1 : Int) (c : Int) : Ans (env xa xb) 184 [.agg [.int .i64 b_f0, .int .i64 b_f1], .int .i64 c] (.agg ([.int .i64 (nameAt (⟨b_f0, b_f1⟩ : Bd) c).k, .int .i64 (nameAt (⟨b_f0, b_f1⟩ : Bd) c).n, .int .i64 (nameAt (⟨b_f0, b_f1⟩ : Bd) c).c])) := by
  refine Ans.mkA ho _ rfl rfl ?_
  repeat' (first
    | (refine Den.id ?_
       (try (conv => arg 2; cbv))
       first
         | (refine Den.test (fun hr => ?_) (fun hr => ?_) <;> (have hb := hr) <;> (try simp (disch := omega) only [ho, std, wI, len_eK, len_eB, len_eNd, len_eLNd, len_eFc, len_eAb, len_eBd, len_eEd, len_eLBd, Classical.not_not, decide_eq_true_eq, decide_eq_false_iff_not, beq_iff_eq, beq_eq_false_iff_ne, ne_eq, Bool.not_eq_true', Bool.not_eq_false', gt_iff_lt, ge_iff_le, Int.not_lt, Int.not_le] at hb) <;> (try (exfalso; first | contradiction | omega | exact hb rfl)))
         | (refine Den.done ⟨by first | exact Or.inl rfl | exact Or.inr rfl, ?_⟩; (conv => lhs; cbv); refine congrArg some ?_))
    | ((fail_if_success (refine Den.id ?_))
       first
         | (unfold nameAt; simp [*]; done)))
theorem impl_given.ans {xa xb : Option (List D → Option D)} (o : Std) (ho : o = std) (l : List Nd) (f : Int) (h0 : 0 ≤ f ∧ f < l.length) : Ans (env xa xb) 230 [.sl .ro 7 (o.bx fun _ => eNd l), .int .i64 f] (.agg ([.int .i64 (givenM l f).f0, .int .i64 (givenM l f).f1])) := by
  refine Ans.mkA ho _ rfl rfl ?_
  repeat' (first
    | (refine Den.id ?_
       (try (conv => arg 2; cbv))
       first
         | (refine Den.test (fun hr => ?_) (fun hr => ?_) <;> (have hb := hr) <;> (try simp (disch := omega) only [ho, std, wI, len_eK, len_eB, len_eNd, len_eLNd, len_eFc, len_eAb, len_eBd, len_eEd, len_eLBd, Classical.not_not, decide_eq_true_eq, decide_eq_false_iff_not, beq_iff_eq, beq_eq_false_iff_ne, ne_eq, Bool.not_eq_true', Bool.not_eq_false', gt_iff_lt, ge_iff_le, Int.not_lt, Int.not_le] at hb) <;> (try (exfalso; first | contradiction | omega | exact hb rfl)))
         | (refine Den.fetchXNd ho ?_ ?_ (fun y hy => ?_); rotate_left 2; rcases y with ⟨y0, y1, y2, y3, y4, y5, y6⟩)
         | (refine Den.done ⟨by first | exact Or.inl rfl | exact Or.inr rfl, ?_⟩; (conv => lhs; cbv); refine congrArg some ?_))
    | ((fail_if_success (refine Den.id ?_))
       first
         | (unfold givenM; rw [hy]; simp [*]; done)
         | omega))
theorem impl_Arity.ans {xa xb : Option (List D → Option D)} (o : Std) (ho : o = std) (k : Int) : Ans (env xa xb) 152 [.int .i64 k] (.int .i64 (((arityM k : Nat) : Int))) := by
  refine Ans.mkA ho _ rfl rfl ?_
  repeat' (first
    | (refine Den.id ?_
       (try (conv => arg 2; cbv))
       first
         | refine Den.test1 (by with_reducible assumption) ?_
         | (refine Den.test (fun hr => ?_) (fun hr => ?_) <;> (have hb := hr) <;> (try simp (disch := omega) only [ho, std, wI, len_eK, len_eB, len_eNd, len_eLNd, len_eFc, len_eAb, len_eBd, len_eEd, len_eLBd, Classical.not_not, decide_eq_true_eq, decide_eq_false_iff_not, beq_iff_eq, beq_eq_false_iff_ne, ne_eq, Bool.not_eq_true', Bool.not_eq_false', gt_iff_lt, ge_iff_le, Int.not_lt, Int.not_le] at hb) <;> (try (exfalso; first | contradiction | omega | exact hb rfl)))
         | (refine Den.done ⟨by first | exact Or.inl rfl | exact Or.inr rfl, ?_⟩; (conv => lhs; cbv); refine congrArg some ?_))
    | ((fail_if_success (refine Den.id ?_))
       first
         | (subst ho; refine dI ?_; simp [arityM, *]; done)))
theorem impl_flower_add.gns {xa xb : Option (List D → Option D)} (o : Std) (ho : o = std) (l : List Nd) (us : List Bd) (dp : Int) (fs m : List Fc) (t : Tok) (tk : List Nat) (hl : Lw tk t (o.bx fun _ => eFc m).length) (a_k : Int) (a_n : Int) (a_c : Int) (v_k : Int) (v_n : Int) (v_c : Int) (h0 : m.length + 1 ≤ 2900000000000) : Gns (env xa xb) 185 [.pbx (.out 0) 0, .agg [.int .i64 a_k, .int .i64 a_n, .int .i64 a_c], .agg [.int .i64 v_k, .int .i64 v_n, .int .i64 v_c]] [[cells5 (o.bx fun _ => eNd l) (o.bx fun _ => eBd us) dp (o.bx fun _ => eFc fs) t (o.bx fun _ => eFc m)]] tk (FR o l us dp fs (m ++ ([⟨a_k, a_n, a_c, ⟨v_k, v_n, v_c⟩⟩])) (.tup [])) := by
  refine Gns.mkA (E := env xa xb) (f := 185) ho _ (by rfl) (by rfl) ?_
  repeat' (first
    | (refine Den.id ?_
       (try (conv => arg 2; cbv))
       first
         | (refine Den.needD ho (by kernel_rfl) ?_)
         | (refine Den.need ?_ ?_)
         | (refine Den.app1w ?_ (fun t' tk' hl' => ?_))
         | (refine Den.done ⟨by first | exact Or.inl rfl | exact Or.inr rfl, ?_⟩; refine ⟨_, by (conv => lhs; cbv) <;> rfl, ?_, _, _, by rfl, ?_, ?_⟩; first | (focus ((conv => lhs; cbv); done)) | ((conv => lhs; cbv); refine congrArg some ?_)))
    | ((fail_if_success (refine Den.id ?_))
       first
         | (subst ho; exact hl)
         | (subst ho; exact (push_eFc (x := ⟨a_k, a_n, a_c, ⟨v_k, v_n, v_c⟩⟩) rfl))
         | (subst ho; simpa [std, len_eFc] using hl')
         | (subst ho; simp [std, len_eFc, len_eNd, len_eBd, len_eAb, len_eLBd, len_eK, len_eB]; omega)))
end Go.Mach
end
