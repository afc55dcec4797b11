/- What the statements share: part 16 of a proof by an executable machine over the program's code. -/
import Derived.Test.YtljpfhpcbfpooaaGreatDoorMc15
set_option linter.unusedVariables false
set_option linter.unusedSimpArgs false
namespace Go.Mach
open Go Go.RowKit
theorem walkK_first {st K : List Int} : ∀ (k : Nat) (a r : Int), walkK st K k a = some r → (k = 0 ∧ r = a) ∨ (0 < k ∧ r = rI st (rI K 0))
 | 0, a, r, h => by
   simp only [walkK, Option.some.injEq] at h
   exact .inl ⟨rfl, h.symm⟩
 | k + 1, a, r, h => by
   rw [walkK] at h
   split at h
   · rcases walkK_first k _ r h with ⟨rfl, h2⟩ | ⟨_, h2⟩
     · exact .inr ⟨by omega, h2⟩
     · exact .inr ⟨by omega, h2⟩
   · cases h
theorem kids_zero {n : Nd} (h : 0 < arityM n.f0) : rI (kidsM n) 0 = n.f1 := by
 unfold kidsM
 obtain ⟨k, hk⟩ := Nat.exists_eq_succ_of_ne_zero (Nat.pos_iff_ne_zero.1 h)
 rw [hk]; rfl
theorem OkT.start {l : List Nd} (hT : OkT l) : ∀ (n : Nat) (st : List Int), n ≤ l.length → startsO l n = some st → ∀ j : Nat, j < n → rI st j = startM l j
 | 0, st, _, _, j, hj => by omega
 | n + 1, st, hn, h, j, hj => by
   rw [startsO] at h
   obtain ⟨s, h1, h2⟩ := Option.bind_eq_some_iff.1 h
   have ih := OkT.start hT n s (by omega) h1
   have hl := (startsO_tile n s h1).1
   split at h2
   · obtain ⟨a, h3, rfl⟩ := Option.map_eq_some_iff.1 h2
     by_cases c : j < n
     · rw [rI_left _ _ (by omega) (by omega)]; exact ih j c
     · have : j = n := by omega
       subst this
       rw [rI_last _ _ _ (by omega)]
       have hk := len_kidsM (rN l (j : Int))
       rcases walkK_first _ _ _ h3 with ⟨h4, rfl⟩ | ⟨h4, rfl⟩
       · rw [startM_base (by omega)]
       · have ha : 0 < arityM (rN l (j : Int)).f0 := by omega
         have hd := hT.downs j (by omega) (by omega) ha
         rw [kids_zero ha, startM_step hT.downs (by omega) (by omega) rfl ha]
         have := ih (rN l (j : Int)).f1.toNat (by omega)
         rwa [Int.toNat_of_nonneg hd.1] at this
   · cases h2
theorem OkT.startI {l : List Nd} (hT : OkT l) {st : List Int} (h : startsO l l.length = some st) {i : Int} (h0 : 0 ≤ i) (h1 : i < l.length) : rI st i = startM l i := by
 have := hT.start l.length st (Nat.le_refl _) h i.toNat (by omega)
 rwa [Int.toNat_of_nonneg h0] at this
def bindM (n : Nd) (kid : Int) : List ByteArray × List Int :=
 if n.f0 = 3 ∨ ((n.f0 = 5 ∨ n.f0 = 19) ∧ kid = n.f2) then ([n.f5], [0])
 else if (n.f0 = 6 ∧ kid = n.f1) ∨ (n.f0 = 14 ∧ kid = n.f3) then ([n.f6, n.f5], [1, 0])
 else if n.f0 = 6 then ([n.f5], [0]) else ([], [])
theorem len_bindM (n : Nd) (kid : Int) : (bindM n kid).2.length = (bindM n kid).1.length ∧ (bindM n kid).1.length ≤ 2 := by
 unfold bindM; (repeat' split) <;> simp
theorem role_bindM (n : Nd) (kid : Int) : ∀ r ∈ (bindM n kid).2, r = 0 ∨ r = 1 := by
 unfold bindM; (repeat' split) <;> simp
def hitM (q : Int) (nm : ByteArray) : List ByteArray → List Int → Option Bd
 | s :: ns, r :: rs => if eqS s nm then some ⟨q, r⟩ else hitM q nm ns rs
 | _, _ => none
theorem hitM_step {q : Int} {nm : ByteArray} {ns : List ByteArray} {rs : List Int} (hl : rs.length = ns.length) {k : Int} (h0 : 0 ≤ k) (h1 : k < ns.length) :
  hitM q nm (ns.drop k.toNat) (rs.drop k.toNat) = if eqS (rS ns k) nm then some ⟨q, rI rs k⟩ else hitM q nm (ns.drop (k + 1).toNat) (rs.drop (k + 1).toNat) := by
 have e : (k + 1).toNat = k.toNat + 1 := by omega
 rw [List.drop_eq_getElem_cons (show k.toNat < ns.length by omega), List.drop_eq_getElem_cons (show k.toNat < rs.length by omega), hitM, e]
 have e1 : rS ns k = ns[k.toNat]'(by omega) := by
  unfold rS rdG; rw [List.getD_eq_getElem?_getD, List.getElem?_eq_getElem (show k.toNat < ns.length by omega)]; rfl
 have e2 : rI rs k = rs[k.toNat]'(by omega) := by
  unfold rI rdG; rw [List.getD_eq_getElem?_getD, List.getElem?_eq_getElem (show k.toNat < rs.length by omega)]; rfl
 rw [e1, e2]
theorem hitM_end {q : Int} {nm : ByteArray} {ns : List ByteArray} {rs : List Int} {k : Int} (h : (ns.length : Int) ≤ k) : hitM q nm (ns.drop k.toNat) (rs.drop k.toNat) = none := by
 rw [List.drop_of_length_le (show ns.length ≤ k.toNat by omega)]; rfl
theorem hitM_node {q : Int} {nm : ByteArray} : ∀ {ns : List ByteArray} {rs : List Int} {b : Bd}, hitM q nm ns rs = some b → b.f0 = q ∧ b.f1 ∈ rs
 | [], _, b, h => by simp [hitM] at h
 | _ :: _, [], b, h => by simp [hitM] at h
 | s :: ns, r :: rs, b, h => by
   rw [hitM] at h
   split at h
   · cases h; exact ⟨rfl, List.mem_cons_self⟩
   · have := hitM_node h; exact ⟨this.1, List.mem_cons_of_mem _ this.2⟩
def noB : Bd := ⟨-1, -1⟩
def hitN (l : List Nd) (nm : ByteArray) (kid : Int) : Option Bd := hitM (parS l kid) nm (bindM (rN l (parS l kid)) kid).1 (bindM (rN l (parS l kid)) kid).2
def climb (l : List Nd) (nm : ByteArray) : Nat → Int → Bd
 | 0, _ => noB
 | n + 1, kid => if 0 ≤ parS l kid then (hitN l nm kid).getD (climb l nm n (parS l kid)) else noB
def climbM (l : List Nd) (nm : ByteArray) (kid : Int) : Bd := climb l nm (l.length - kid).toNat kid
theorem climb_eq {l : List Nd} (hT : OkT l) {nm : ByteArray} : ∀ (n m : Nat) (kid : Int), (l.length - kid).toNat ≤ n → (l.length - kid).toNat ≤ m → climb l nm n kid = climb l nm m kid := by
 have zero : ∀ (m : Nat) (kid : Int), (l.length - kid).toNat = 0 → climb l nm m kid = noB := fun m kid h => by
  cases m with
  | zero => rfl
  | succ m =>
    rw [climb, if_neg]
    intro hp
    have := hT.par_lt hp
    omega
 intro n
 induction n with
 | zero => intro m kid h1 h2; rw [zero m kid (by omega)]; rfl
 | succ n ih =>
   intro m kid h1 h2
   cases m with
   | zero => rw [zero _ kid (by omega)]; rfl
   | succ m =>
     rw [climb, climb]
     split
     · rename_i hp
       have := hT.par_lt hp
       rw [ih m (parS l kid) (by omega) (by omega)]
     · rfl
theorem climbM_up {l : List Nd} (hT : OkT l) {nm : ByteArray} {kid : Int} (hp : 0 ≤ parS l kid) : climbM l nm kid = (hitN l nm kid).getD (climbM l nm (parS l kid)) := by
 have h := hT.par_lt hp
 unfold climbM
 obtain ⟨n, hn⟩ : ∃ n, (l.length - kid).toNat = n + 1 := ⟨(l.length - kid).toNat - 1, by omega⟩
 rw [hn, climb, if_pos hp, climb_eq hT n (l.length - parS l kid).toNat _ (by omega) (Nat.le_refl _)]
theorem climbM_top {l : List Nd} {nm : ByteArray} {kid : Int} (hp : ¬ 0 ≤ parS l kid) : climbM l nm kid = noB := by
 unfold climbM
 cases (l.length - kid).toNat with
 | zero => rfl
 | succ n => rw [climb, if_neg hp]
def bindS (l : List Nd) (i : Int) : Bd := if (rN l i).f0 = 1 then climbM l (rN l i).f5 i else noB
def bindsM (l : List Nd) : List Bd := (List.range l.length).map fun (n : Nat) => bindS l (n : Int)
theorem len_bindsM (l : List Nd) : (bindsM l).length = l.length := by simp [bindsM]
theorem rB_bindsM {l : List Nd} {i : Int} (h0 : 0 ≤ i) (h1 : i < l.length) : rB (bindsM l) i = bindS l i := by
 have : i.toNat < l.length := by omega
 simp [rB, rdG, bindsM, List.getD_eq_getElem?_getD, this, Int.toNat_of_nonneg h0]
theorem bindsM_take {l : List Nd} {i : Int} (h0 : 0 ≤ i) (h1 : i < l.length) : (bindsM l).take (i + 1).toNat = (bindsM l).take i.toNat ++ [bindS l i] := by
 rw [take_succG zBd h0 (by rw [len_bindsM]; exact h1), ← rB_bindsM h0 h1]; rfl
theorem climb_role {l : List Nd} {nm : ByteArray} : ∀ (n : Nat) (kid : Int), climb l nm n kid = noB ∨ (0 ≤ (climb l nm n kid).f0 ∧ ((climb l nm n kid).f1 = 0 ∨ (climb l nm n kid).f1 = 1))
 | 0, kid => .inl rfl
 | n + 1, kid => by
   rw [climb]
   split
   · rename_i hp
     cases hh : hitN l nm kid with
     | none => exact climb_role n _
     | some b =>
       have := hitM_node hh
       have h2 := role_bindM _ _ _ this.2
       exact .inr ⟨by rw [Option.getD_some, this.1]; exact hp, by rw [Option.getD_some]; exact h2⟩
   · exact .inl rfl
theorem bindS_role (l : List Nd) (i : Int) : bindS l i = noB ∨ (0 ≤ (bindS l i).f0 ∧ ((bindS l i).f1 = 0 ∨ (bindS l i).f1 = 1)) := by
 unfold bindS
 split
 · exact climb_role _ _
 · exact .inl rfl
theorem OkT.par_in {l : List Nd} (hT : OkT l) : ∀ (n : Nat) (A : Int), A.toNat < n → 0 ≤ A → A < l.length → ∀ kid : Int, startM l A ≤ kid → kid < A → kid < parS l kid ∧ parS l kid ≤ A := by
 obtain ⟨st, hst, _, ht, _⟩ := hT.tiled
 intro n
 induction n with
 | zero => intro A h; omega
 | succ n ih =>
   intro A hA h0 h1 kid hk1 hk2
   have hA' : ((A.toNat : Nat) : Int) = A := Int.toNat_of_nonneg h0
   obtain ⟨t1, t2, _⟩ := ht.tile A.toNat (by omega)
   rw [hA'] at t1 t2
   obtain ⟨y, hy, h2, h3⟩ := t2 kid (by rw [hT.startI hst h0 h1]; exact hk1) hk2
   have hy2 := t1 y hy
   by_cases c : kid = y
   · subst c
     rw [hT.par (j := A.toNat) (by omega) (by rw [hA']; exact hy)]
     omega
   · have := ih y (by omega) hy2.1 (by omega) kid (by rw [← hT.startI hst hy2.1 (by omega)]; exact h2) (by omega)
     omega
theorem climb_in {l : List Nd} (hT : OkT l) {nm : ByteArray} {f : Int} (h0 : 0 ≤ f) (h1 : f < l.length) (ha : 0 < arityM (rN l f).f0) : ∀ (n : Nat) (kid : Int), (startM l (rN l f).f1 ≤ kid ∧ kid ≤ (rN l f).f1) ∨ f ≤ kid →
  (climb l nm n kid).f0 < 0 ∨ (startM l (rN l f).f1 ≤ (climb l nm n kid).f0 ∧ (climb l nm n kid).f0 ≤ (rN l f).f1) ∨ f ≤ (climb l nm n kid).f0
 | 0, kid, _ => .inl (by show (-1 : Int) < 0; decide)
 | n + 1, kid, hk => by
   rw [climb]
   split
   · rename_i hp
     have hd := hT.downs f h0 h1 ha
     have hup : (startM l (rN l f).f1 ≤ parS l kid ∧ parS l kid ≤ (rN l f).f1) ∨ f ≤ parS l kid := by
      have hlt := hT.par_lt hp
      rcases hk with ⟨k1, k2⟩ | k1
      · by_cases c : kid = (rN l f).f1
        · right
          have := hT.par (n := kid) (j := f.toNat) (by omega) (by rw [Int.toNat_of_nonneg h0, c]; exact first_kid ha)
          omega
        · have := hT.par_in ((rN l f).f1.toNat + 1) _ (by omega) hd.1 (by omega) kid k1 (by omega)
          left; omega
      · right; omega
     cases hh : hitN l nm kid with
     | none => exact climb_in hT h0 h1 ha n _ hup
     | some b =>
       have := hitM_node hh
       rw [Option.getD_some, this.1]
       exact .inr hup
   · exact .inl (by show (-1 : Int) < 0; decide)
theorem skip_eq {l : List Nd} (hT : OkT l) {f i : Int} {b : Bd} (h0 : 0 ≤ f) (h1 : f < l.length) (hl : lamB (rN l f) = true) (hi0 : startM l (rN l f).f1 ≤ i) (hi1 : i ≤ (rN l f).f1) (hb : rB (bindsM l) i = b) :
  knB l (bindsM l) f b = decide ((b.f0 < f ∧ 0 ≤ b.f0 ∧ startM l (rN l f).f1 ≤ b.f0) ∨ b.f0 < 0 ∨ (b.f0 = f ∧ b.f1 = parm (rN l f))) := by
 have ha := lam_ar hl
 have hd := hT.downs f h0 h1 ha
 have hs := startM_le hT.downs hd.1 (by omega)
 have hc : b.f0 < 0 ∨ (startM l (rN l f).f1 ≤ b.f0 ∧ b.f0 ≤ (rN l f).f1) ∨ f ≤ b.f0 := by
  rw [rB_bindsM (by omega) (by omega)] at hb
  subst hb
  unfold bindS
  split
  · exact climb_in hT h0 h1 ha _ _ (.inl ⟨hi0, hi1⟩)
  · exact .inl (by show (-1 : Int) < 0; decide)
 have hg : b = givenM l f ↔ b.f0 = f ∧ b.f1 = parm (rN l f) := by
  unfold givenM parm
  cases b; simp
 unfold knB
 apply decide_eq_decide.2
 rw [hg]
 omega
def outersM (l : List Nd) : List (List Bd) := (List.range l.length).map fun (f : Nat) => if lamB (rN l f) then outerM l (bindsM l) f else []
theorem len_outersM (l : List Nd) : (outersM l).length = l.length := by simp [outersM]
theorem rLB_outersM {l : List Nd} {f : Int} (h0 : 0 ≤ f) (h1 : f < l.length) : rLB (outersM l) f = if lamB (rN l f) then outerM l (bindsM l) f else [] := by
 have : f.toNat < l.length := by omega
 simp [rLB, rdG, outersM, List.getD_eq_getElem?_getD, this, Int.toNat_of_nonneg h0]
structure Fit (l : List Nd) (fs : List Fc) : Prop where
 up : Up fs
 node : ∀ f ∈ fs, 0 ≤ f.n ∧ f.n < l.length
 vk : ∀ f ∈ fs, 0 ≤ f.v.k
 vn : ∀ f ∈ fs, 0 ≤ f.v.n ∧ f.v.n < l.length
 lam : ∀ f ∈ fs, f.v.k = 1 → lamB (rN l f.v.n) = true
 zero : ∀ f ∈ fs, f.k = 7 → f.v = ⟨0, 0, 0⟩
structure Clo (l : List Nd) : Prop where
 ok : OkT l
 bound : ∀ i : Int, 0 ≤ i → i < l.length → (rN l i).f0 = 1 → 0 ≤ (bindS l i).f0
def prM (l : List Nd) (dp : Int) : Pr := ⟨l, bindsM l, outersM l, dp⟩
theorem hasR_any {l : List Nd} {fs : List Fc} (h : Fit l fs) (n c : Int) : hasR fs n c = anyB fs 7 n c := by
 unfold hasR anyB
 rw [Bool.eq_iff_iff, decide_eq_true_eq, Bool.not_eq_true', List.isEmpty_eq_false_iff_exists_mem]
 constructor
 · intro hm; exact ⟨_, mem_vals.2 hm⟩
 · rintro ⟨v, hv⟩
   have hv := mem_vals.1 hv
   have := h.zero _ hv rfl
   simp only at this
   rwa [this] at hv
theorem any_emp (fs : List Fc) (k n c : Int) : (vals fs k n c).isEmpty = !anyB fs k n c := by simp [anyB]
theorem kind_emp (fs : List Fc) (n c kd : Int) : (thoseL fs 0 n c kd).isEmpty = !kindB fs n c kd := by
 unfold thoseL kindB
 rw [Bool.eq_iff_iff]
 simp [List.isEmpty_iff, List.filter_eq_nil_iff]
theorem nameAt_role {b : Bd} (c : Int) (h : b.f1 = 0 ∨ b.f1 = 1) : nameAt b c = ⟨1 + b.f1, b.f0, c⟩ := by
 unfold nameAt
 rcases h with h | h <;> rw [h] <;> rfl
theorem nameAt_given (l : List Nd) (f c : Int) : nameAt (givenM l f) c = ⟨1 + parm (rN l f), f, c⟩ := by
 unfold givenM parm
 by_cases h : (rN l f).f0 = 6 <;> simp [h, nameAt]
theorem outerN_mem {l : List Nd} {us : List Bd} {f : Int} : ∀ (n : Nat) {b : Bd}, b ∈ outerN l us f n → 0 ≤ b.f0 ∧ ∃ k : Nat, k < n ∧ b = rB us (startM l (rN l f).f1 + k)
 | 0, b, h => by simp [outerN] at h
 | n + 1, b, h => by
   rw [outerN] at h
   split at h
   · obtain ⟨h1, k, h2, h3⟩ := outerN_mem n h
     exact ⟨h1, k, by omega, h3⟩
   · rename_i hc
     rcases List.mem_append.1 h with h | h
     · obtain ⟨h1, k, h2, h3⟩ := outerN_mem n h
       exact ⟨h1, k, by omega, h3⟩
     · simp only [List.mem_singleton] at h
       refine ⟨?_, n, by omega, h⟩
       rw [← h] at hc
       simp only [Bool.or_eq_true, not_or] at hc
       have := hc.1
       simp only [knB, decide_eq_true_eq, not_or] at this
       omega
theorem outerM_role {l : List Nd} (hT : OkT l) {f : Int} (h0 : 0 ≤ f) (h1 : f < l.length) (hl : lamB (rN l f) = true) {b : Bd} (h : b ∈ outerM l (bindsM l) f) : 0 ≤ b.f0 ∧ (b.f1 = 0 ∨ b.f1 = 1) := by
 have hd := hT.downs f h0 h1 (lam_ar hl)
 have hs := startM_le hT.downs hd.1 (by omega)
 obtain ⟨h2, k, h3, h4⟩ := outerN_mem _ h
 rw [rB_bindsM (by omega) (by omega)] at h4
 rcases bindS_role l (startM l (rN l f).f1 + k) with h5 | h5
 · rw [h4, h5] at h2; exact absurd h2 (by decide)
 · rw [← h4] at h5; exact ⟨h2, h5.2⟩
theorem mem_ite_nil {α : Type} {p : Prop} [Decidable p] {x : α} {a : List α} : x ∈ (if p then a else []) ↔ p ∧ x ∈ a := by
 split <;> simp [*]
theorem mem_those {fs : List Fc} {k n c kd : Int} {v : Ab} : v ∈ thoseL fs k n c kd ↔ v ∈ vals fs k n c ∧ v.k = kd := by
 simp [thoseL]
theorem outer_flow {l : List Nd} (hT : OkT l) (fs : List Fc) {f : Int} (h0 : 0 ≤ f) (h1 : f < l.length) (hl : lamB (rN l f) = true) (fc to : Int) :
  (outerM l (bindsM l) f).flatMap (fun x => flowP fs (nameAt x fc) (nameAt x to)) = (outerM l (bindsM l) f).flatMap (outer1 fs fc to) := by
 have : ∀ m : List Bd, (∀ b ∈ m, b.f1 = 0 ∨ b.f1 = 1) → m.flatMap (fun x => flowP fs (nameAt x fc) (nameAt x to)) = m.flatMap (outer1 fs fc to) := by
  intro m hm
  induction m with
  | nil => rfl
  | cons b m ih =>
    rw [List.flatMap_cons, List.flatMap_cons, ih fun x hx => hm x (List.mem_cons_of_mem _ hx)]
    congr 1
    have hb := hm b List.mem_cons_self
    rw [nameAt_role _ hb, nameAt_role _ hb]; rfl
 exact this _ fun b hb => (outerM_role hT h0 h1 hl hb).2
theorem call_mem {l : List Nd} (hT : OkT l) {fs : List Fc} (h : Fit l fs) {f : Ab} (h0 : 0 ≤ f.n) (h1 : f.n < l.length) (hl : lamB (rN l f.n) = true) (dp i c : Int) (nd : Nd) (hk : f.k = 1) (hb : anyB fs 0 nd.f2 c = true) (x : Fc) :
  x ∈ callI l (bindsM l) dp fs i c f ⟨0, nd.f2, c⟩ ↔ x ∈ call1S (prM l dp) fs i c nd f := by
 unfold callI call1S prM
 rw [if_pos ⟨hk, hb⟩, outer_flow hT fs h0 h1 hl, nameAt_given, hasR_any h]
 dsimp only
 rw [rLB_outersM h0 h1, if_pos hl]
 simp only [flowP, List.mem_append, or_assoc, or_comm, or_left_comm]
theorem node_mem {l : List Nd} (hC : Clo l) {fs : List Fc} (h : Fit l fs) {i : Int} (h0 : 0 ≤ i) (h1 : i < l.length) (dp c : Int) (x : Fc) :
  x ∈ nodeI l (bindsM l) dp fs i c ↔ x ∈ nodeS (prM l dp) fs i c := by
 unfold nodeI nodeS
 have e : rN (prM l dp).l i = rN l i := rfl
 have eb : rB (prM l dp).bind i = bindS l i := rB_bindsM h0 h1
 have ev : rB (bindsM l) i = bindS l i := rB_bindsM h0 h1
 simp only [e, eb, ev, hasR_any h]
 by_cases k1 : (rN l i).f0 = 1
 · simp only [k1, if_true]
   have hb := hC.bound i h0 h1 k1
   have hr : (bindS l i).f1 = 0 ∨ (bindS l i).f1 = 1 := by
    rcases bindS_role l i with h5 | h5
    · rw [h5] at hb; exact absurd hb (by decide)
    · exact h5.2
   rw [nameAt_role _ hr]; rfl
 simp only [k1, if_false]
 by_cases k2 : (rN l i).f0 = 2
 · simp only [k2, if_true]
 simp only [k2, if_false]
 by_cases k12 : (rN l i).f0 = 12
 · simp only [k12, if_true]
 simp only [k12, if_false]
 by_cases k3 : (rN l i).f0 = 3
 · simp only [k3, if_true]
 simp only [k3, if_false]
 by_cases k6 : (rN l i).f0 = 6
 · simp only [k6, if_true]
 simp only [k6, if_false]
 unfold otherI
 have hkid : (kidsM (rN l i)).zipIdx.flatMap (kidI fs (rN l i).f0 i c) = kidRiseS fs (rN l i) i c := by
  unfold kidRiseS
  congr 1
  funext y
  unfold kidI kidR1
  rw [hasR_any h]
  by_cases hy : y.2 > 0 ∨ (rN l i).f0 ≠ 19
  · rw [if_pos hy]
    have : (!((rN l i).f0 == 19 && y.2 == 0)) = true := by simp; omega
    rw [this, Bool.and_true]
  · rw [if_neg hy]
    have : (!((rN l i).f0 == 19 && y.2 == 0)) = false := by simp; omega
    rw [this, Bool.and_false]; rfl
 rw [hkid, List.mem_append, List.mem_append, List.mem_append, List.mem_append]
 refine or_congr Iff.rfl ?_
 by_cases kt : (rN l i).f0 = 4 ∨ (rN l i).f0 = 8 ∨ (rN l i).f0 = 9 ∨ (rN l i).f0 = 13 ∨ (rN l i).f0 = 17
 · rw [if_pos kt, if_pos kt]
   unfold twoS bothI
   simp only [e, any_emp, List.mem_append]
   refine or_congr (by cases anyB fs 0 (rN l i).f1 c <;> simp) ?_
   by_cases ka : anyB fs 0 (rN l i).f1 c = true
   rotate_left
   · have ka' : anyB fs 0 (rN l i).f1 c = false := by simpa using ka
     have hv : vals fs 0 (rN l i).f1 c = [] := by simpa [anyB] using ka'
     simp [ka', callS, e, hv]
   by_cases kb : anyB fs 0 (rN l i).f2 c = true
   rotate_left
   · have kb' : anyB fs 0 (rN l i).f2 c = false := by simpa using kb
     simp only [kb', ka]
     by_cases k4 : (rN l i).f0 = 4
     · simp [k4, callS, call1S, kb', e]
     · simp [k4]
   by_cases k4 : (rN l i).f0 = 4
   · simp only [k4, ka, kb, if_true, Bool.not_true, Bool.false_eq_true, or_self, if_false]
     unfold callS
     simp only [List.mem_flatMap, mem_those, e]
     refine exists_congr fun v => ?_
     constructor
     · rintro ⟨⟨hv, hk⟩, hx⟩
       have hm := mem_vals.1 hv
       have hn := h.vn _ hm
       exact ⟨hv, (call_mem hC.ok h hn.1 hn.2 (h.lam _ hm hk) dp i c _ hk kb x).1 hx⟩
     · rintro ⟨hv, hx⟩
       have hm := mem_vals.1 hv
       have hn := h.vn _ hm
       by_cases hk : v.k = 1
       · exact ⟨⟨hv, hk⟩, (call_mem hC.ok h hn.1 hn.2 (h.lam _ hm hk) dp i c _ hk kb x).2 hx⟩
       · unfold call1S at hx
         rw [if_neg (fun q => hk q.1)] at hx
         cases hx
   · have hset : ∀ n2 : Int, (x ∈ (thoseL fs 0 (rN l i).f1 c 5).flatMap fun r => flowL fs 0 n2 c 5 r.n r.c) ↔ x ∈ (vals fs 0 (rN l i).f1 c).flatMap (setS1 fs n2 c) := fun n2 => by
       simp only [List.mem_flatMap, mem_those, setS1, mem_ite_nil, and_assoc]
     rcases kt with k | k | k | k | k
     · exact absurd k k4
     · simp [k, ka, kb]
     · simp [k, ka, kb, flowP, or_comm, or_left_comm, or_assoc]
     · simp [k, ka, kb, flowP, or_comm, or_left_comm, or_assoc]
     · have := hset (rN l i).f2
       simp only [List.mem_flatMap] at this
       simp [k, ka, kb, flowP, this, or_comm]
 · rw [if_neg kt, if_neg kt]
   unfold oneS
   simp only [e]
   have hpart : ∀ (kd part tk tn : Int), (x ∈ (thoseL fs 0 (rN l i).f1 c kd).flatMap fun v => flowL fs part v.n v.c tk tn c) ↔ x ∈ partsL fs (rN l i).f1 c kd part tk tn := fun kd part tk tn => by
    simp only [partsL, List.mem_flatMap, mem_those, part1, mem_ite_nil, and_assoc]
   have htk : ∀ (kd part : Int), x ∈ takeL fs kd part 0 i c (thoseL fs 0 (rN l i).f1 c kd) ↔ x ∈ partsL fs (rN l i).f1 c kd part 0 i := fun kd part => hpart kd part 0 i
   by_cases k5 : (rN l i).f0 = 5
   · simp only [k5, if_true, any_emp]
     cases anyB fs 0 (rN l i).f1 c <;> simp
   simp only [k5, if_false]
   by_cases k7 : (rN l i).f0 = 7
   · simp only [k7, if_true, kind_emp]
     cases kindB fs (rN l i).f1 c 0 <;> simp
   simp only [k7, if_false]
   by_cases k14 : (rN l i).f0 = 14
   · simp only [k14, if_true]
     unfold matchI
     simp only [kind_emp, List.mem_append]
     have hm : (x ∈ (thoseL fs 0 (rN l i).f1 c 4).flatMap fun v => seeL (rN l i).f3 c ++ flowL fs 3 v.n v.c 1 i c ++ flowL fs 4 v.n v.c 2 i c) ↔
       (x ∈ (if kindB fs (rN l i).f1 c 4 = true then seeL (rN l i).f3 c else []) ∨ x ∈ partsL fs (rN l i).f1 c 4 3 1 i ∨ x ∈ partsL fs (rN l i).f1 c 4 4 2 i) := by
      rw [← hpart, ← hpart]
      simp only [List.mem_flatMap, List.mem_append, mem_ite_nil]
      constructor
      · rintro ⟨v, hv, (hx | hx) | hx⟩
        · refine .inl ⟨?_, hx⟩
          have := kind_emp fs (rN l i).f1 c 4
          cases hk : kindB fs (rN l i).f1 c 4 with
          | true => rfl
          | false => rw [hk] at this; rw [List.isEmpty_iff.1 this] at hv; cases hv
        · exact .inr (.inl ⟨v, hv, hx⟩)
        · exact .inr (.inr ⟨v, hv, hx⟩)
      · rintro (⟨hk, hx⟩ | ⟨v, hv, hx⟩ | ⟨v, hv, hx⟩)
        · have := kind_emp fs (rN l i).f1 c 4
          rw [hk] at this
          obtain ⟨v, hv⟩ := List.isEmpty_eq_false_iff_exists_mem.1 this
          exact ⟨v, hv, .inl (.inl hx)⟩
        · exact ⟨v, hv, .inl (.inr hx)⟩
        · exact ⟨v, hv, .inr hx⟩
     rw [hm]
     cases kindB fs (rN l i).f1 c 2 <;> simp [or_assoc]
   simp only [k14, if_false]
   unfold oneI
   by_cases k10 : (rN l i).f0 = 10
   · simp only [k10, if_true]; exact htk 3 3
   simp only [k10, if_false]
   by_cases k11 : (rN l i).f0 = 11
   · simp only [k11, if_true]; exact htk 3 4
   simp only [k11, if_false]
   by_cases k16 : (rN l i).f0 = 16
   · simp only [k16, if_true]; exact htk 5 5
   simp only [k16, if_false]
   by_cases k15 : (rN l i).f0 = 15
   · simp only [k15, if_true, any_emp]
     cases anyB fs 0 (rN l i).f1 c <;> simp [flowP]
   simp only [k15, if_false]
   by_cases k18 : (rN l i).f0 = 18
   · simp only [k18, if_true, kind_emp, riseL]
     cases kindB fs (rN l i).f1 c 0 <;> simp
   simp only [k18, if_false]
   by_cases k19 : (rN l i).f0 = 19
   · simp only [k19, if_true, hasR_any h, flowP]
   simp only [k19, if_false]
structure FitF (l : List Nd) (f : Fc) : Prop where
 node : 0 ≤ f.n ∧ f.n < l.length
 vk : 0 ≤ f.v.k
 vn : 0 ≤ f.v.n ∧ f.v.n < l.length
 lam : f.v.k = 1 → lamB (rN l f.v.n) = true
 zero : f.k = 7 → f.v = ⟨0, 0, 0⟩
theorem Fit.one {l : List Nd} {fs : List Fc} (h : Fit l fs) {f : Fc} (hf : f ∈ fs) : FitF l f := ⟨h.node f hf, h.vk f hf, h.vn f hf, h.lam f hf, h.zero f hf⟩
theorem Fit.mk' {l : List Nd} {fs : List Fc} (hu : Up fs) (h : ∀ f ∈ fs, FitF l f) : Fit l fs := ⟨hu, fun f hf => (h f hf).node, fun f hf => (h f hf).vk, fun f hf => (h f hf).vn, fun f hf => (h f hf).lam, fun f hf => (h f hf).zero⟩
theorem mem_flowL {fs : List Fc} {a b c tk tn tc : Int} {x : Fc} (h : x ∈ flowL fs a b c tk tn tc) : ∃ v, (⟨a, b, c, v⟩ : Fc) ∈ fs ∧ x = ⟨tk, tn, tc, v⟩ := by
 unfold flowL mapF at h
 obtain ⟨v, hv, rfl⟩ := List.mem_map.1 h
 exact ⟨v, mem_vals.1 hv, rfl⟩
section
variable {l : List Nd} {fs : List Fc} {x : Fc}
theorem fit_flow (h : Fit l fs) {a b c tk tn tc : Int} (hx : x ∈ flowL fs a b c tk tn tc) (ht : 0 ≤ tn ∧ tn < l.length) (hk : tk ≠ 7) : FitF l x := by
 obtain ⟨v, hv, rfl⟩ := mem_flowL hx
 have := h.one hv
 exact ⟨ht, this.vk, this.vn, this.lam, fun e => absurd e hk⟩
theorem fit_see (hT : OkT l) {i c : Int} (hx : x ∈ seeL i c) (hi : 0 ≤ i ∧ i < l.length) : FitF l x := by
 have hs := hT.size
 simp only [seeL, List.mem_singleton] at hx
 subst hx
 exact ⟨hi, Int.le_refl _, ⟨Int.le_refl _, by dsimp only; omega⟩, fun e => absurd e (by dsimp only; omega), fun e => rfl⟩
theorem fit_rise (hT : OkT l) {b : Bool} {i c : Int} (hx : x ∈ riseL b i c) (hi : 0 ≤ i ∧ i < l.length) : FitF l x := by
 have hs := hT.size
 unfold riseL at hx
 split at hx
 · simp only [List.mem_singleton] at hx
   subst hx
   exact ⟨hi, Int.le_refl _, ⟨Int.le_refl _, by dsimp only; omega⟩, fun e => absurd e (by dsimp only; omega), fun e => rfl⟩
 · cases hx
theorem fit_new {k c vk vn vc : Int} {i : Int} (hx : x ∈ ([⟨k, i, c, ⟨vk, vn, vc⟩⟩] : List Fc)) (hi : 0 ≤ i ∧ i < l.length) (hk : k ≠ 7) (h1 : 0 ≤ vk) (h2 : 0 ≤ vn ∧ vn < l.length) (h3 : vk = 1 → lamB (rN l vn) = true) : FitF l x := by
 simp only [List.mem_singleton] at hx
 subst hx
 exact ⟨hi, h1, h2, h3, fun e => absurd e hk⟩
theorem kids_in (hT : OkT l) {i : Int} (h0 : 0 ≤ i) (h1 : i < l.length) : ∀ k ∈ kidsM (rN l i), 0 ≤ k ∧ k < l.length := fun k hk => by
 obtain ⟨st, _, _, ht, _⟩ := hT.tiled
 have := (ht.tile i.toNat (by omega)).1 k (by rw [Int.toNat_of_nonneg h0]; exact hk)
 omega
theorem fields_in (hT : OkT l) {i : Int} (h0 : 0 ≤ i) (h1 : i < l.length) : (0 ≤ (rN l i).f1 ∧ (rN l i).f1 < l.length) ∧ (0 ≤ (rN l i).f2 ∧ (rN l i).f2 < l.length) ∧ (0 ≤ (rN l i).f3 ∧ (rN l i).f3 < l.length) := by
 have hs := hT.size
 have hk := kids_in hT h0 h1
 have hf := hT.fld (j := i.toNat) (by omega)
 rw [Int.toNat_of_nonneg h0] at hf
 unfold fldB at hf
 simp only [Bool.and_eq_true] at hf
 obtain ⟨_, _, _, hr, _⟩ := hf
 simp only [restB, decide_eq_true_eq] at hr
 generalize rN l i = n at *
 have ha := arityM_le n.f0
 unfold kidsM at hk
 have hc : arityM n.f0 = 0 ∨ arityM n.f0 = 1 ∨ arityM n.f0 = 2 ∨ arityM n.f0 = 3 := by omega
 rcases hc with h | h | h | h <;> rw [h] at hk hr <;> simp at hk hr <;> refine ⟨?_, ?_, ?_⟩ <;> first | omega | (simp only [hr]; omega)
theorem climb_lt (hT : OkT l) {nm : ByteArray} : ∀ (n : Nat) (kid : Int), (climb l nm n kid).f0 < l.length
 | 0, kid => by have := hT.size; show (-1 : Int) < _; omega
 | n + 1, kid => by
   rw [climb]
   split
   · rename_i hp
     cases hh : hitN l nm kid with
     | none => exact climb_lt hT n _
     | some b =>
       have := (hitM_node hh).1
       rw [Option.getD_some, this]
       exact (hT.par_lt hp).2.2.1
   · have := hT.size; show (-1 : Int) < _; omega
theorem bindS_lt (hT : OkT l) (i : Int) : (bindS l i).f0 < l.length := by
 unfold bindS
 split
 · exact climb_lt hT _ _
 · have := hT.size; show (-1 : Int) < _; omega
theorem outerM_in (hT : OkT l) {f : Int} (h0 : 0 ≤ f) (h1 : f < l.length) (hl : lamB (rN l f) = true) {b : Bd} (h : b ∈ outerM l (bindsM l) f) : 0 ≤ b.f0 ∧ b.f0 < l.length := by
 have hd := hT.downs f h0 h1 (lam_ar hl)
 have hs := startM_le hT.downs hd.1 (by omega)
 obtain ⟨h2, k, h3, h4⟩ := outerN_mem _ h
 rw [rB_bindsM (by omega) (by omega)] at h4
 exact ⟨h2, by rw [h4]; exact bindS_lt hT _⟩
theorem parm_01 (n : Nd) : parm n = 0 ∨ parm n = 1 := by unfold parm; split <;> simp
theorem fit_call (hT : OkT l) (h : Fit l fs) {i c dp : Int} (hi : 0 ≤ i ∧ i < l.length) {nd : Nd} {v : Ab} (hv : 0 ≤ v.n ∧ v.n < l.length) (hl : v.k = 1 → lamB (rN l v.n) = true) (hx : x ∈ call1S (prM l dp) fs i c nd v) : FitF l x := by
 unfold call1S at hx
 split at hx
 · rename_i hc
   have hlam := hl hc.1
   have e : rLB (prM l dp).outer v.n = outerM l (bindsM l) v.n := by
    show rLB (outersM l) v.n = _
    rw [rLB_outersM hv.1 hv.2, if_pos hlam]
   have e2 : (prM l dp).l = l := rfl
   have hb := (fields_in hT hv.1 hv.2).1
   rw [e, e2] at hx
   simp only [List.mem_append] at hx
   have hp := parm_01 (rN l v.n)
   rcases hx with (((hx | hx) | hx) | hx) | hx
   · exact fit_flow h hx hv (by omega)
   · obtain ⟨b, hb1, hb2⟩ := List.mem_flatMap.1 hx
     have hr := outerM_role hT hv.1 hv.2 hlam hb1
     exact fit_flow h hb2 (outerM_in hT hv.1 hv.2 hlam hb1) (by omega)
   · exact fit_see hT hx hb
   · exact fit_flow h hx hi (by omega)
   · exact fit_rise hT hx hi
 · cases hx
theorem fit_parts (h : Fit l fs) {kid c kd part tk tn : Int} (hx : x ∈ partsL fs kid c kd part tk tn) (ht : 0 ≤ tn ∧ tn < l.length) (hk : tk ≠ 7) : FitF l x := by
 unfold partsL at hx
 obtain ⟨v, _, hx⟩ := List.mem_flatMap.1 hx
 unfold part1 at hx
 split at hx
 · exact fit_flow h hx ht hk
 · cases hx
theorem fit_flatMap {α : Type} {m : List α} {g : α → List Fc} (hx : x ∈ m.flatMap g) (h : ∀ a ∈ m, x ∈ g a → FitF l x) : FitF l x := by
 obtain ⟨a, ha, hx⟩ := List.mem_flatMap.1 hx
 exact h a ha hx
set_option maxHeartbeats 2000000 in
theorem fit_node (hC : Clo l) (h : Fit l fs) {i : Int} (h0 : 0 ≤ i) (h1 : i < l.length) {dp c : Int} (hx : x ∈ nodeS (prM l dp) fs i c) : FitF l x := by
 have hT := hC.ok
 have hi : 0 ≤ i ∧ i < l.length := ⟨h0, h1⟩
 obtain ⟨f1, f2, f3⟩ := fields_in hT h0 h1
 have hz : (0 : Int) ≤ 0 ∧ (0 : Int) < l.length := by have := hT.size; omega
 have e : rN (prM l dp).l i = rN l i := rfl
 have eb : rB (prM l dp).bind i = bindS l i := rB_bindsM h0 h1
 have hkid : x ∈ kidRiseS fs (rN l i) i c → FitF l x := fun hx => fit_flatMap hx fun a _ hx => fit_rise hT hx hi
 have hset : ∀ n2 : Int, x ∈ (vals fs 0 (rN l i).f1 c).flatMap (setS1 fs n2 c) → FitF l x := fun n2 hx => fit_flatMap hx fun a ha hx => by
  unfold setS1 at hx
  split at hx
  · exact fit_flow h hx (h.vn _ (mem_vals.1 ha)) (by omega)
  · cases hx
 have hcall : x ∈ callS (prM l dp) fs i c → FitF l x := fun hx => fit_flatMap hx fun a ha hx => fit_call hT h hi (h.vn _ (mem_vals.1 ha)) (h.lam _ (mem_vals.1 ha)) hx
 have hnew : ∀ k vk : Int, k ≠ 7 → 0 ≤ vk → vk ≠ 1 → x ∈ ([⟨k, i, c, ⟨vk, i, c⟩⟩] : List Fc) → FitF l x := fun k vk hk hv hv1 hx => fit_new hx hi hk hv hi (fun q => absurd q hv1)
 have hnul : ∀ k vk : Int, k ≠ 7 → 0 ≤ vk → vk ≠ 1 → x ∈ ([⟨k, i, c, ⟨vk, 0, 0⟩⟩] : List Fc) → FitF l x := fun k vk hk hv hv1 hx => fit_new hx hi hk hv hz (fun q => absurd q hv1)
 have hlam : ∀ k : Int, k ≠ 7 → lamB (rN l i) = true → x ∈ ([⟨k, i, c, ⟨1, i, c⟩⟩] : List Fc) → FitF l x := fun k hk hv hx => fit_new hx hi hk (by omega) hi (fun _ => hv)
 have hfl : ∀ a b d tk : Int, tk ≠ 7 → x ∈ flowL fs a b d tk i c → FitF l x := fun a b d tk hk hx => fit_flow h hx hi hk
 have htwo : x ∈ twoS (prM l dp) fs i c → FitF l x := fun hx => by
  unfold twoS at hx
  simp only [e, List.mem_append] at hx
  rcases hx with hx | hx
  · split at hx
    · exact fit_see hT hx f2
    · cases hx
  · split at hx
    · exact hcall hx
    · split at hx
      · simp only [List.mem_append] at hx
        rcases hx with (hx | hx) | hx
        · split at hx
          · rcases List.mem_append.1 hx with hx | hx
            · exact hfl _ _ _ _ (by omega) hx
            · exact hfl _ _ _ _ (by omega) hx
          · cases hx
        · split at hx
          · exact hset _ hx
          · cases hx
        · (repeat' split at hx)
          · exact hnew _ _ (by omega) (by omega) (by omega) hx
          · exact hnew _ _ (by omega) (by omega) (by omega) hx
          · exact hnul _ _ (by omega) (by omega) (by omega) hx
      · cases hx
 have hone : x ∈ oneS (prM l dp) fs i c → FitF l x := fun hx => by
  unfold oneS at hx
  simp only [e] at hx
  split at hx
  · simp only [List.mem_append, mem_ite_nil] at hx
    rcases hx with (hx | hx) | hx
    · exact fit_see hT hx.2 f2
    · exact hfl _ _ _ _ (by omega) hx
    · exact hfl _ _ _ _ (by omega) hx
  split at hx
  · simp only [List.mem_append, mem_ite_nil] at hx
    rcases hx with (hx | hx) | hx
    · rcases hx.2 with hx | hx
      · exact fit_see hT hx f2
      · exact fit_see hT hx f3
    · exact hfl _ _ _ _ (by omega) hx
    · exact hfl _ _ _ _ (by omega) hx
  split at hx
  · simp only [List.mem_append, mem_ite_nil] at hx
    rcases hx with ((((hx | hx) | hx) | hx) | hx) | hx
    · exact fit_see hT hx.2 f2
    · exact fit_see hT hx.2 f3
    · exact fit_parts h hx hi (by omega)
    · exact fit_parts h hx hi (by omega)
    · exact hfl _ _ _ _ (by omega) hx
    · exact hfl _ _ _ _ (by omega) hx
  split at hx
  · exact fit_parts h hx hi (by omega)
  split at hx
  · exact fit_parts h hx hi (by omega)
  split at hx
  · exact fit_parts h hx hi (by omega)
  split at hx
  · simp only [List.mem_append, mem_ite_nil] at hx
    rcases hx with hx | hx
    · exact hnew _ _ (by omega) (by omega) (by omega) hx.2
    · exact hfl _ _ _ _ (by omega) hx
  split at hx
  · exact fit_rise hT hx hi
  split at hx
  · simp only [List.mem_append, mem_ite_nil] at hx
    rcases hx with (hx | hx) | hx
    · rcases hx.2 with hx | hx
      · exact fit_see hT hx f2
      · exact hnul _ _ (by omega) (by omega) (by omega) hx
    · exact hfl _ _ _ _ (by omega) hx
    · exact hfl _ _ _ _ (by omega) hx
  · cases hx
 unfold nodeS at hx
 simp only [e, eb] at hx
 split at hx
 · rename_i k1
   have hb : (bindS l i).f1 = 0 ∨ (bindS l i).f1 = 1 := by
    rcases bindS_role l i with h5 | h5
    · have := hC.bound i h0 h1 k1
      rw [h5] at this; exact absurd this (by decide)
    · exact h5.2
   exact hfl _ _ _ _ (by omega) hx
 split at hx
 · exact hnul _ _ (by omega) (by omega) (by omega) hx
 split at hx
 · exact hnul _ _ (by omega) (by omega) (by omega) hx
 split at hx
 · rename_i k; exact hlam _ (by omega) (by simp [lamB, k]) hx
 split at hx
 · rename_i k
   simp only [List.mem_append] at hx
   rcases hx with ((hx | hx) | hx) | hx
   · exact hlam _ (by omega) (by simp [lamB, k]) hx
   · exact fit_see hT hx f2
   · exact hfl _ _ _ _ (by omega) hx
   · exact fit_rise hT hx hi
 simp only [List.mem_append] at hx
 rcases hx with (hx | hx) | hx
 · exact fit_see hT hx f1
 · exact hkid hx
 · split at hx
   · exact htwo hx
   · exact hone hx
end
def moreI (l : List Nd) (us : List Bd) (dp : Int) (fs : List Fc) : List Fc := fs.flatMap fun f => if f.k = 6 then nodeI l us dp fs f.n f.c else []
def passM (l : List Nd) (dp : Int) (fs : List Fc) : List Fc := passS (prM l dp) fs
theorem passM_fit {l : List Nd} (hC : Clo l) {fs : List Fc} (h : Fit l fs) (dp : Int) : Fit l (passM l dp fs) := by
 refine .mk' (h.up.insAll _) fun f hf => ?_
 unfold passM passS at hf
 rcases mem_insAll.1 hf with hf | hf
 · exact h.one hf
 · refine fit_flatMap hf fun a ha hx => ?_
   unfold pass1S at hx
   split at hx
   · have := h.node _ ha
     exact fit_node hC h this.1 this.2 hx
   · cases hx
theorem passM_le {l : List Nd} (dp : Int) (fs : List Fc) : fs.length ≤ (passM l dp fs).length := (len_insAll _ _).1
theorem pass_same {l : List Nd} (hC : Clo l) {fs : List Fc} (h : Fit l fs) (dp : Int) {r : List Fc} (hu : Up r) (hr : ∀ x, x ∈ r ↔ x ∈ moreI l (bindsM l) dp fs ∨ x ∈ fs) : r = passM l dp fs := by
 refine hu.ext (passM_fit hC h dp).up fun x => ?_
 rw [hr]
 unfold passM passS
 rw [mem_insAll, or_comm]
 refine or_congr Iff.rfl ?_
 unfold moreI
 simp only [List.mem_flatMap]
 refine exists_congr fun a => and_congr_right fun ha => ?_
 unfold pass1S
 by_cases hk : a.k = 6
 · rw [if_pos hk, if_pos hk]
   have := h.node _ ha
   exact node_mem hC h this.1 this.2 dp a.c x
 · rw [if_neg hk, if_neg hk]
def solveN (l : List Nd) (dp : Int) : Nat → List Fc → Option (List Fc)
 | 0, _ => none
 | n + 1, fs => if 2500 < (passM l dp fs).length then none else if (passM l dp fs).length = fs.length then some (passM l dp fs) else solveN l dp n (passM l dp fs)
def seedM (l : List Nd) : List Fc := [⟨6, l.length - 1, 0, ⟨0, 0, 0⟩⟩]
def cloB (l : List Nd) : Bool := okM l && decide (∀ i : Nat, i < l.length → (rN l i).f0 = 1 → 0 ≤ (bindS l i).f0)
def flowB (l : List Nd) (dp : Int) : Bool := cloB l && decide (0 ≤ dp ∧ dp ≤ 2)
def solveO (l : List Nd) (dp : Int) : Option (List Fc) := if flowB l dp then solveN l dp 400 (seedM l) else none
theorem cloB_iff {l : List Nd} : cloB l = true ↔ Clo l := by
 unfold cloB
 rw [Bool.and_eq_true, okM_iff, decide_eq_true_eq]
 constructor
 · rintro ⟨h1, h2⟩
   refine ⟨h1, fun i h0 h3 h4 => ?_⟩
   have := h2 i.toNat (by omega)
   rw [Int.toNat_of_nonneg h0] at this
   exact this h4
 · rintro ⟨h1, h2⟩
   exact ⟨h1, fun i hi => h2 i (by omega) (by omega)⟩
theorem seed_fit {l : List Nd} (hT : OkT l) : Fit l (seedM l) := by
 have hs := hT.size
 refine .mk' (List.pairwise_singleton _ _) fun f hf => ?_
 simp only [seedM, List.mem_singleton] at hf
 subst hf
 exact ⟨by dsimp only; omega, Int.le_refl _, by dsimp only; omega, fun e => absurd e (by dsimp only; omega), fun _ => rfl⟩
theorem solveN_fit {l : List Nd} (hC : Clo l) (dp : Int) : ∀ (n : Nat) (fs r : List Fc), Fit l fs → solveN l dp n fs = some r → Fit l r ∧ r.length ≤ 2500
 | 0, fs, r, _, h => by cases h
 | n + 1, fs, r, hf, h => by
   rw [solveN] at h
   split at h
   · cases h
   · split at h
     · cases h; exact ⟨passM_fit hC hf dp, by omega⟩
     · exact solveN_fit hC dp n _ r (passM_fit hC hf dp) h
theorem solveO_fit {l : List Nd} {dp : Int} {r : List Fc} (h : solveO l dp = some r) : Clo l ∧ Fit l r ∧ r.length ≤ 2500 := by
 unfold solveO at h
 split at h
 · rename_i hb
   unfold flowB at hb
   rw [Bool.and_eq_true] at hb
   have hC := cloB_iff.1 hb.1
   exact ⟨hC, solveN_fit hC dp 400 _ r (seed_fit hC.ok) h⟩
 · cases h
def solveR (l : List Nd) (dp : Int) : List Fc × Bool := match solveO l dp with
 | some fs => (fs, true)
 | none => ([], false)
def mayM (l : List Nd) (dp : Int) : Bool := match solveO l dp with
 | some fs => decide ((⟨7, l.length - 1, 0, ⟨0, 0, 0⟩⟩ : Fc) ∈ fs)
 | none => true
end Go.Mach
