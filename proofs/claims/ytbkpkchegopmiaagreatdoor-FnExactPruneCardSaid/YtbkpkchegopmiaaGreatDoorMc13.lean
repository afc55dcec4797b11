/- What the statements share: part 13 of a proof by an executable machine over the program's code. -/
import Derived.Test.YtbkpkchegopmiaaGreatDoorMc12
set_option linter.unusedVariables false
set_option linter.unusedSimpArgs false
namespace Go.Mach
open Go Go.RowKit
abbrev Jk : D := .junk
abbrev iX (n : Int) : D := .int .i64 n
abbrev rNd (o : Std) (l : List Nd) : D := .sl .ro 7 (o.bx fun _ => eNd l)
abbrev rFc (o : Std) (l : List Fc) : D := .sl .ro 6 (o.bx fun _ => eFc l)
abbrev rK (o : Std) (l : List Int) : D := .sl .ro 1 (o.bx fun _ => eK .i64 l)
abbrev rTx (o : Std) (l : List ByteArray) : D := .sl .ro 1 (o.bx fun _ => eB l)
abbrev rBd (o : Std) (l : List Bd) : D := .sl .ro 2 (o.bx fun _ => eBd l)
abbrev rEd (o : Std) (l : List Ed) : D := .sl .ro 2 (o.bx fun _ => eEd l)
abbrev rAb (o : Std) (l : List Ab) : D := .sl .ro 3 (o.bx fun _ => eAb l)
theorem dE : (∀ (p : Prop) [Decidable p], (decide p = true) = p) ∧ (∀ (p : Prop) [Decidable p], (decide p = false) = ¬p) := ⟨fun p _ => propext decide_eq_true_iff, fun p _ => propext decide_eq_false_iff_not⟩
theorem bX {P : Prop} {x b : Bool} (h : x = b) (h2 : x = !b := by assumption) : P := by
 subst h; cases x <;> cases h2
section
variable {E : Env} {Q : X → S → Prop} {o : Std}
theorem Den.pP {f : FuncId} {az as' : List D} {P : D → Prop} {k : D → T} (ha : AnsP E f as' P) (h : ∀ d, P d → Den E (k d) Q) (he : az = as' := by first | with_reducible rfl | (subst_vars; rfl)) : Den E (.pcall f az k) Q := .pcallP he ha h
theorem Den.pE {β : Type} (enc : β → D) {f : FuncId} {az as' : List D} {r : β} {k : D → T} (ha : Ans E f as' (enc r)) (h : ∀ v, r = v → Den E (k (enc v)) Q) (he : az = as' := by first | with_reducible rfl | (subst_vars; rfl)) : Den E (.pcall f az k) Q := .pcallE enc he ha h
theorem Den.t1 {b : Bool} {p q : Unit → T} (h : Den E (p ()) Q) (hb : b = true := by with_reducible assumption) : Den E (.test b p q) Q := .test1 hb h
theorem Den.t0 {b : Bool} {p q : Unit → T} (h : Den E (q ()) Q) (hb : b = false := by with_reducible assumption) : Den E (.test b p q) Q := .test0 hb h
theorem Den.tN1 {b : Bool} {p q : Unit → T} (ho : o = std) (h : Den E (p ()) Q) (hb : b = false := by first | with_reducible assumption | with_reducible rfl) : Den E (.test (o.not b) p q) Q := .testN1 ho hb h
theorem Den.tN0 {b : Bool} {p q : Unit → T} (ho : o = std) (h : Den E (q ()) Q) (hb : b = true := by first | with_reducible assumption | with_reducible rfl) : Den E (.test (o.not b) p q) Q := .testN0 ho hb h
theorem Den.fin {P : S → Prop} {x : X} {s : S} (h : P s) (hx : x = .normal ∨ x = .ret := by first | exact Or.inl rfl | exact Or.inr rfl) : Den E (.done x s) fun x s => (x = .normal ∨ x = .ret) ∧ P s := .done ⟨hx, h⟩
end
structure Pr where
 l : List Nd
 bind : List Bd
 outer : List (List Bd)
 depth : Int
def ctxPush (ctx site depth : Int) : Int :=
 if 0 ≤ ctx ∧ ctx ≤ 22800 ∧ 0 ≤ site ∧ site ≤ 149 then (if depth = 1 then (site + 1) * 151 else if depth = 2 then (site + 1) * 151 + ctx / 151 else 0) else 0
def lamB (x : Nd) : Bool := x.f0 == 3 || x.f0 == 6
def parm (x : Nd) : Int := if x.f0 = 6 then 1 else 0
def seeL (i c : Int) : List Fc := [⟨6, i, c, ⟨0, 0, 0⟩⟩]
def anyB (fs : List Fc) (k n c : Int) : Bool := !(vals fs k n c).isEmpty
def kindB (fs : List Fc) (n c kd : Int) : Bool := (vals fs 0 n c).any fun v => v.k == kd
def riseL (b : Bool) (i c : Int) : List Fc := if b then [⟨7, i, c, ⟨0, 0, 0⟩⟩] else []
def part1 (fs : List Fc) (c kind part tk tn : Int) (v : Ab) : List Fc := if v.k = kind then flowL fs part v.n v.c tk tn c else []
def partsL (fs : List Fc) (kid c kind part tk tn : Int) : List Fc := (vals fs 0 kid c).flatMap (part1 fs c kind part tk tn)
def outer1 (fs : List Fc) (ctx to : Int) (b : Bd) : List Fc := flowL fs (1 + b.f1) b.f0 ctx (1 + b.f1) b.f0 to
def call1S (p : Pr) (fs : List Fc) (i c : Int) (nd : Nd) (v : Ab) : List Fc :=
 if v.k = 1 ∧ anyB fs 0 nd.f2 c = true then
  flowL fs 0 nd.f2 c (1 + parm (rN p.l v.n)) v.n (ctxPush c i p.depth) ++ (rLB p.outer v.n).flatMap (outer1 fs v.c (ctxPush c i p.depth)) ++
   seeL (rN p.l v.n).f1 (ctxPush c i p.depth) ++ flowL fs 0 (rN p.l v.n).f1 (ctxPush c i p.depth) 0 i c ++ riseL (anyB fs 7 (rN p.l v.n).f1 (ctxPush c i p.depth)) i c
 else []
def callS (p : Pr) (fs : List Fc) (i c : Int) : List Fc := (vals fs 0 (rN p.l i).f1 c).flatMap (call1S p fs i c (rN p.l i))
def setS1 (fs : List Fc) (n2 c : Int) (r : Ab) : List Fc := if r.k = 5 then flowL fs 0 n2 c 5 r.n r.c else []
def twoS (p : Pr) (fs : List Fc) (i c : Int) : List Fc :=
 let n := rN p.l i
 (if anyB fs 0 n.f1 c then seeL n.f2 c else []) ++
 (if n.f0 = 4 then callS p fs i c
  else if anyB fs 0 n.f1 c = true ∧ anyB fs 0 n.f2 c = true then
   (if n.f0 = 9 ∨ n.f0 = 13 then flowL fs 0 n.f1 c 3 i c ++ flowL fs 0 n.f2 c 4 i c else []) ++
   (if n.f0 = 17 then (vals fs 0 n.f1 c).flatMap (setS1 fs n.f2 c) else []) ++
   [⟨0, i, c, if n.f0 = 13 then ⟨4, i, c⟩ else if n.f0 = 9 then ⟨3, i, c⟩ else ⟨0, 0, 0⟩⟩]
  else [])
def oneS (p : Pr) (fs : List Fc) (i c : Int) : List Fc :=
 let n := rN p.l i
 if n.f0 = 5 then (if anyB fs 0 n.f1 c then seeL n.f2 c else []) ++ flowL fs 0 n.f1 c 1 i c ++ flowL fs 0 n.f2 c 0 i c
 else if n.f0 = 7 then (if kindB fs n.f1 c 0 then seeL n.f2 c ++ seeL n.f3 c else []) ++ flowL fs 0 n.f2 c 0 i c ++ flowL fs 0 n.f3 c 0 i c
 else if n.f0 = 14 then (if kindB fs n.f1 c 2 then seeL n.f2 c else []) ++ (if kindB fs n.f1 c 4 then seeL n.f3 c else []) ++ partsL fs n.f1 c 4 3 1 i ++ partsL fs n.f1 c 4 4 2 i ++ flowL fs 0 n.f2 c 0 i c ++ flowL fs 0 n.f3 c 0 i c
 else if n.f0 = 10 then partsL fs n.f1 c 3 3 0 i
 else if n.f0 = 11 then partsL fs n.f1 c 3 4 0 i
 else if n.f0 = 16 then partsL fs n.f1 c 5 5 0 i
 else if n.f0 = 15 then (if anyB fs 0 n.f1 c then [⟨0, i, c, ⟨5, i, c⟩⟩] else []) ++ flowL fs 0 n.f1 c 5 i c
 else if n.f0 = 18 then riseL (kindB fs n.f1 c 0) i c
 else if n.f0 = 19 then (if anyB fs 7 n.f1 c then seeL n.f2 c ++ [⟨1, i, c, ⟨0, 0, 0⟩⟩] else []) ++ flowL fs 0 n.f1 c 0 i c ++ flowL fs 0 n.f2 c 0 i c
 else []
def arityM (t : Int) : Nat := if t = 3 ∨ t = 10 ∨ t = 11 ∨ t = 15 ∨ t = 16 ∨ t = 18 then 1 else if t = 4 ∨ t = 5 ∨ t = 6 ∨ t = 8 ∨ t = 9 ∨ t = 13 ∨ t = 17 ∨ t = 19 then 2 else if t = 7 ∨ t = 14 then 3 else 0
def kidsM (n : Nd) : List Int := [n.f1, n.f2, n.f3].take (arityM n.f0)
def kidR1 (fs : List Fc) (t i c : Int) (x : Int × Nat) : List Fc := riseL (anyB fs 7 x.1 c && !(t == 19 && x.2 == 0)) i c
def kidRiseS (fs : List Fc) (n : Nd) (i c : Int) : List Fc := (kidsM n).zipIdx.flatMap (kidR1 fs n.f0 i c)
def nodeS (p : Pr) (fs : List Fc) (i c : Int) : List Fc :=
 let n := rN p.l i
 if n.f0 = 1 then flowL fs (1 + (rB p.bind i).f1) (rB p.bind i).f0 c 0 i c
 else if n.f0 = 2 then [⟨0, i, c, ⟨0, 0, 0⟩⟩]
 else if n.f0 = 12 then [⟨0, i, c, ⟨2, 0, 0⟩⟩]
 else if n.f0 = 3 then [⟨0, i, c, ⟨1, i, c⟩⟩]
 else if n.f0 = 6 then [⟨1, i, c, ⟨1, i, c⟩⟩] ++ seeL n.f2 c ++ flowL fs 0 n.f2 c 0 i c ++ riseL (anyB fs 7 n.f2 c) i c
 else seeL n.f1 c ++ kidRiseS fs n i c ++ (if n.f0 = 4 ∨ n.f0 = 8 ∨ n.f0 = 9 ∨ n.f0 = 13 ∨ n.f0 = 17 then twoS p fs i c else oneS p fs i c)
def pass1S (p : Pr) (fs : List Fc) (f : Fc) : List Fc := if f.k = 6 then nodeS p fs f.n f.c else []
def passS (p : Pr) (fs : List Fc) : List Fc := insAll fs (fs.flatMap (pass1S p fs))
structure Old (p : Pr) (old : List Fc) : Prop where
 up : Up old
 pos : ∀ f ∈ old, 0 ≤ f.v.k
 len : old.length ≤ 2500
 val : ∀ f ∈ old, 0 ≤ f.v.n ∧ f.v.n < p.l.length
 node : ∀ f ∈ old, 0 ≤ f.n ∧ f.n < p.l.length
structure PrOk (p : Pr) : Prop where
 size : p.l.length ≤ 150
 bind : p.bind.length = p.l.length
 outer : p.outer.length = p.l.length
 long : ∀ bs ∈ p.outer, bs.length ≤ 150
 roleB : ∀ b ∈ p.bind, -100000 ≤ b.f1 ∧ b.f1 ≤ 100000
 roleO : ∀ bs ∈ p.outer, ∀ b ∈ bs, -100000 ≤ b.f1 ∧ b.f1 ≤ 100000
theorem len_flatMap_le {α : Type} (g : α → List Fc) (K : Nat) (h : ∀ x, (g x).length ≤ K) (l : List α) : (l.flatMap g).length ≤ l.length * K := by
 induction l with
 | nil => simp
 | cons x l ih => simp only [List.flatMap_cons, List.length_append, List.length_cons, Nat.add_mul, Nat.one_mul]; have := h x; omega
theorem len_flow {p : Pr} {old : List Fc} (h : Old p old) (a b c d e f : Int) : (flowL old a b c d e f).length ≤ 2500 := by
 rw [len_flowL]; exact Nat.le_trans (len_vals _ _ _ _) h.len
theorem len_valsO {p : Pr} {old : List Fc} (h : Old p old) (a b c : Int) : (vals old a b c).length ≤ 2500 := Nat.le_trans (len_vals _ _ _ _) h.len
theorem len_rise (b : Bool) (i c : Int) : (riseL b i c).length ≤ 1 := by unfold riseL; split <;> simp
theorem len_rLB {p : Pr} (h : PrOk p) (i : Int) : (rLB p.outer i).length ≤ 150 := by
 unfold rLB rdG
 by_cases hi : i.toNat < p.outer.length
 · rw [List.getD_eq_getElem?_getD, List.getElem?_eq_getElem hi]; exact h.long _ (List.getElem_mem hi)
 · rw [List.getD_eq_getElem?_getD, List.getElem?_eq_none (by omega)]; simp
theorem len_outer1 {p : Pr} {old : List Fc} (ho : Old p old) (ctx to : Int) (bs : List Bd) (hb : bs.length ≤ 150) : (bs.flatMap (outer1 old ctx to)).length ≤ 375000 := by
 have := len_flatMap_le (outer1 old ctx to) 2500 (fun x => len_flow ho _ _ _ _ _ _) bs
 omega
theorem len_call1S {p : Pr} {old : List Fc} (hp : PrOk p) (ho : Old p old) (i c : Int) (nd : Nd) (v : Ab) : (call1S p old i c nd v).length ≤ 380002 := by
 unfold call1S
 split
 · simp only [List.length_append]
   have h1 := len_flow ho 0 nd.f2 c (1 + parm (rN p.l v.n)) v.n (ctxPush c i p.depth)
   have h2 := len_outer1 ho v.c (ctxPush c i p.depth) _ (len_rLB hp v.n)
   have h3 := len_flow ho 0 (rN p.l v.n).f1 (ctxPush c i p.depth) 0 i c
   have h4 := len_rise (anyB old 7 (rN p.l v.n).f1 (ctxPush c i p.depth)) i c
   have h5 : (seeL (rN p.l v.n).f1 (ctxPush c i p.depth)).length = 1 := rfl
   omega
 · simp
theorem len_callS {p : Pr} {old : List Fc} (hp : PrOk p) (ho : Old p old) (i c : Int) : (callS p old i c).length ≤ 950005000 := by
 have h1 := len_flatMap_le _ 380002 (fun v => len_call1S hp ho i c (rN p.l i) v) (vals old 0 (rN p.l i).f1 c)
 have h2 := len_valsO ho 0 (rN p.l i).f1 c
 have h3 : (vals old 0 (rN p.l i).f1 c).length * 380002 ≤ 2500 * 380002 := Nat.mul_le_mul_right _ h2
 unfold callS
 omega
theorem len_parts {p : Pr} {old : List Fc} (ho : Old p old) (kid c kind part tk tn : Int) : (partsL old kid c kind part tk tn).length ≤ 6250000 := by
 have h1 := len_flatMap_le (part1 old c kind part tk tn) 2500 (fun v => by unfold part1; split; exact len_flow ho _ _ _ _ _ _; simp) (vals old 0 kid c)
 have h2 := len_valsO ho 0 kid c
 have h3 : (vals old 0 kid c).length * 2500 ≤ 2500 * 2500 := Nat.mul_le_mul_right _ h2
 unfold partsL
 omega
theorem Up.adds {l m : List Fc} (h : Up l) {n : List Fc} (e : Mach.insAll l m = n) : Up n := e ▸ h.insAll m
theorem adds_flow {p : Pr} {old l n : List Fc} (hO : Old p old) {a b c d e f : Int} (h : insAll l (flowL old a b c d e f) = n) : l.length ≤ n.length ∧ n.length ≤ l.length + 2500 := by
 subst h; have h1 := len_insAll l (flowL old a b c d e f); have h2 := len_flow hO a b c d e f; omega
theorem adds_see {l n : List Fc} {a b : Int} (h : insAll l (seeL a b) = n) : l.length ≤ n.length ∧ n.length ≤ l.length + 1 := by
 subst h; exact len_insAll l (seeL a b)
theorem call1S_ok {p : Pr} {old : List Fc} {i c : Int} {nd : Nd} {v : Ab} {f : Nd} {to : Int} {a1 b1 s1 t1 : List Fc} (h1 : v.k = 1) (h2 : anyB old 0 nd.f2 c = true) (hf : rN p.l v.n = f) (ht : to = ctxPush c i p.depth)
  (e1 : b1 = insAll a1 (flowL old 0 nd.f2 c (1 + parm (rN p.l v.n)) v.n to ++ (rLB p.outer v.n).flatMap (outer1 old v.c to))) (e2 : insAll b1 (seeL f.f1 to) = s1) (e3 : insAll s1 (flowL old 0 f.f1 to 0 i c) = t1) :
  insAll a1 (call1S p old i c nd v) = insAll t1 (riseL (anyB old 7 f.f1 to) i c) := by
 subst ht; subst hf; subst e3; subst e2; subst e1
 unfold call1S
 rw [if_pos ⟨h1, h2⟩]
 simp only [insAll_append]
theorem val_in {p : Pr} {old : List Fc} (hO : Old p old) {k n c : Int} {a : List Ab} {i : Int} {y : Ab} (e : a = vals old k n c) (h0 : 0 ≤ i) (h1 : i < a.length) (hy : rA a i = y) : 0 ≤ y.n ∧ y.n < p.l.length := by
 subst e; subst hy
 have h : rA (vals old k n c) i ∈ vals old k n c := rdG_mem h0 h1
 exact hO.val _ (mem_vals.1 h)
theorem role_in {p : Pr} (hP : PrOk p) {i j : Int} {b : Bd} (h0 : 0 ≤ i) (h1 : i < p.l.length) (h2 : 0 ≤ j) (h3 : j < (rLB p.outer i).length) (hy : rB (rLB p.outer i) j = b) : -100000 ≤ b.f1 ∧ b.f1 ≤ 100000 := by
 subst hy
 have h : rLB p.outer i ∈ p.outer := rdG_mem h0 (by rw [hP.outer]; exact h1)
 exact hP.roleO _ h _ (rdG_mem h2 h3)
theorem adds_call {p : Pr} {old l n : List Fc} (hP : PrOk p) (hO : Old p old) {i c : Int} (h : insAll l (callS p old i c) = n) : l.length ≤ n.length ∧ n.length ≤ l.length + 950005000 := by
 subst h; have h1 := len_insAll l (callS p old i c); have h2 := len_callS hP hO i c; omega
theorem adds_parts {p : Pr} {old l n : List Fc} (hO : Old p old) {a b c d e f : Int} (h : insAll l (partsL old a b c d e f) = n) : l.length ≤ n.length ∧ n.length ≤ l.length + 6250000 := by
 subst h; have h1 := len_insAll l (partsL old a b c d e f); have h2 := len_parts hO a b c d e f; omega
theorem adds_one {l n : List Fc} {f : Fc} (h : ins l f = n) : l.length ≤ n.length ∧ n.length ≤ l.length + 1 := by
 subst h; exact len_ins l f
theorem Up.add1 {l n : List Fc} (hu : Up l) {f : Fc} (h : Mach.ins l f = n) : Up n := h ▸ hu.ins f
theorem len_set1 {p : Pr} {old : List Fc} (ho : Old p old) (n2 c : Int) (v : Ab) : (setS1 old n2 c v).length ≤ 2500 := by
 unfold setS1; split
 · exact len_flow ho _ _ _ _ _ _
 · simp
theorem arityM_le (t : Int) : arityM t ≤ 3 := by unfold arityM; (repeat' split) <;> omega
theorem len_kidsM (n : Nd) : (kidsM n).length = arityM n.f0 := by unfold kidsM; have := arityM_le n.f0; simp; omega
theorem len_kidR1 (fs : List Fc) (t i c : Int) (x : Int × Nat) : (kidR1 fs t i c x).length ≤ 1 := len_rise _ _ _
theorem insAll_cons (l : List Fc) (f : Fc) (m : List Fc) : insAll l (f :: m) = insAll (ins l f) m := rfl
theorem role_bind {p : Pr} (hP : PrOk p) {i : Int} {b : Bd} (h : 0 ≤ i ∧ i < p.l.length) (hy : rB p.bind i = b) : -100000 ≤ b.f1 ∧ b.f1 ≤ 100000 := by
 subst hy
 exact hP.roleB _ (rdG_mem h.1 (by rw [hP.bind]; exact h.2))
theorem rd_zipIdx {l : List Int} {i : Int} (h0 : 0 ≤ i) (h1 : i < l.length) : rdG (0, 0) l.zipIdx i = (rI l i, i.toNat) := by
 have h : i.toNat < l.length := by omega
 unfold rdG rI rdG
 rw [List.getD_eq_getElem?_getD, List.getD_eq_getElem?_getD, List.getElem?_eq_getElem (by simpa using h), List.getElem?_eq_getElem h]
 simp
theorem kidR_t {old : List Fc} {a1 v : List Fc} {y0 i c y a : Int} (hb : anyB old 7 y c = true) (hk : ¬(y0 = 19 ∧ a.toNat = 0)) (hv : ins a1 ⟨7, i, c, ⟨0, 0, 0⟩⟩ = v) : v = insAll a1 (riseL (anyB old 7 (y, a.toNat).1 c && !(y0 == 19 && (y, a.toNat).2 == 0)) i c) := by
 subst hv
 have h : (anyB old 7 (y, a.toNat).1 c && !(y0 == 19 && (y, a.toNat).2 == 0)) = true := by
  simp only [hb, Bool.true_and, Bool.not_eq_true', Bool.and_eq_false_iff, beq_eq_false_iff_ne, ne_eq]
  omega
 rw [h]; rfl
theorem kidR_f {old : List Fc} {a1 : List Fc} {y0 i c y a : Int} (hk : anyB old 7 y c = false ∨ (y0 = 19 ∧ a.toNat = 0)) : a1 = insAll a1 (riseL (anyB old 7 (y, a.toNat).1 c && !(y0 == 19 && (y, a.toNat).2 == 0)) i c) := by
 have h : (anyB old 7 (y, a.toNat).1 c && !(y0 == 19 && (y, a.toNat).2 == 0)) = false := by
  rcases hk with hk | ⟨h1, h2⟩
  · simp [hk]
  · simp [h1, h2]
 rw [h]; rfl
inductive Lw (tk : List Nat) : Tok → Nat → Prop
 | nil : Lw tk .nil 0
 | own (i n) (h : tk[i]? = some n) : Lw tk (.own i) n
theorem Lw.app {tk t n} (h : Lw tk t n) (m : Nat) : ∃ t' tk', appTok t n m tk = some (t', tk') ∧ Lw tk' t' (n + m) := by
 cases h with
 | nil =>
   by_cases h : m = 0
   · subst h; exact ⟨.nil, tk, by simp [appTok], .nil⟩
   · exact ⟨.own tk.length, tk ++ [0 + m], by simp [appTok, h], .own _ _ (by simp)⟩
 | own i n h => exact ⟨.own i, tk.set i (n + m), by simp [appTok, h], .own _ _ (by simp [(List.getElem?_eq_some_iff.1 h).1])⟩
section
variable {E : Env} {Q : X → S → Prop} {o : Std}
theorem Den.app1w {t : Tok} {n m : Nat} {tk : List Nat} {k : Tok → List Nat → T} (h : Lw tk t n) (hk : ∀ t' tk', Lw tk' t' (n + m) → Den E (k t' tk') Q) : Den E (.app t n m tk k) Q := by
 obtain ⟨t', tk', h1, h2⟩ := h.app m
 exact Den.app h1 (hk t' tk' h2)
theorem Gns.mono {f : FuncId} {xs : List D} {out : List Box} {tk : List Nat} {R R2 : List D → List Box → List Nat → List Box → Prop} (h : Gns E f xs out tk R) (hm : ∀ ds o t l, R ds o t l → R2 ds o t l) : Gns E f xs out tk R2 := by
 obtain ⟨fi, h1, h2, h3⟩ := h
 exact ⟨fi, h1, h2, h3.mono fun x s ⟨hx, ds, hd, hr⟩ => ⟨hx, ds, hd, hm _ _ _ _ hr⟩⟩
theorem Gns.mkA (ho : o = std) {f : FuncId} {xs : List D} {out : List Box} {tk : List Nat} {R : List D → List Box → List Nat → List Box → Prop} (fi : FnI) (hf : E.fn f = some fi) (hn : Nat.ble xs.length fi.ntmps = true)
  (h : Den E (treeA o E fi.keep fi.body (enterS fi xs out tk) .done) fun x s => (x = .normal ∨ x = .ret) ∧ ∃ ds, resD E s fi.res = some ds ∧ R ds s.out s.tk s.loc) : Gns E f xs out tk R :=
 ⟨fi, hf, Nat.le_of_ble_eq_true hn, by subst ho; rwa [treeA_std] at h⟩
def Apart (t u : Tok) : Prop := ∀ i, t = .own i → u ≠ .own i
theorem Den.app12 {t u : Tok} {n m k0 : Nat} {tk : List Nat} {k : Tok → List Nat → T} (hu : Lw tk u k0) (hp : Apart t u) (h : Lv tk t n) (hk : ∀ t' tk', Lv tk' t' (n + m) → Lw tk' u k0 → Apart t' u → Den E (k t' tk') Q) : Den E (.app t n m tk k) Q := by
 have fresh : ∀ x : Nat, Lw (tk ++ [x]) u k0 ∧ Apart (.own tk.length) u := fun x => by
  cases hu with
  | nil => exact ⟨.nil, fun i _ h => by cases h⟩
  | own i _ hi =>
    have := (List.getElem?_eq_some_iff.1 hi).1
    exact ⟨.own _ _ (by rw [List.getElem?_append_left this]; exact hi), fun j h1 h2 => by injection h1 with h1; injection h2 with h2; omega⟩
 have new : ∀ x : Nat, Lv (tk ++ [x]) (.own tk.length) x := fun x => .own _ _ (by simp)
 cases h with
 | nil =>
   by_cases h : m = 0
   · subst h; exact Den.app (t' := .nil) (tk' := tk) (by simp [appTok]) (hk _ _ .nil hu hp)
   · exact Den.app (t' := .own tk.length) (tk' := tk ++ [0 + m]) (by simp [appTok, h]) (hk _ _ (new _) (fresh _).1 (fresh 0).2)
 | cap n =>
   by_cases h : m = 0
   · subst h; exact Den.app (t' := .cap) (tk' := tk) (by simp [appTok]) (hk _ _ (.cap _) hu hp)
   · exact Den.app (t' := .own tk.length) (tk' := tk ++ [n + m]) (by simp [appTok, h]) (hk _ _ (new _) (fresh _).1 (fresh 0).2)
 | own i n h =>
   have hi := (List.getElem?_eq_some_iff.1 h).1
   refine Den.app (t' := .own i) (tk' := tk.set i (n + m)) (by simp [appTok, h]) (hk _ _ (.own _ _ (by simp [hi])) ?_ hp)
   cases hu with
   | nil => exact .nil
   | own j _ hj =>
     have : i ≠ j := fun e => hp i rfl (by rw [e])
     exact .own _ _ (by rw [List.getElem?_set_ne this]; exact hj)
def cells5 (a b : Box) (d : Int) (c : Box) (t : Tok) (e : Box) : List D := [.sl .ro 7 a, .sl .ro 2 b, .int .i64 d, .sl .ro 6 c, .sl t 6 e]
theorem setBox_tk (s : S) (r : Ref) (b : Box) (tk : List Nat) : { s.setBox r b with tk := tk } = ({ s with tk := tk } : S).setBox r b := by cases r <;> rfl
theorem setBox_tkv (s : S) (r : Ref) (b : Box) : (s.setBox r b).tk = s.tk := by cases r <;> rfl
theorem Den.gc5 {s : S} {dst : Option Tmp} {f : FuncId} {args xs : List D} {k : S → T} {a b c e e' : Box} {d : Int} {t : Tok} {β : Type} (enc : β → D) {r : β} (rf : Ref)
  (hbox : s.box rf = some [cells5 a b d c t e]) (hl : Lw s.tk t e.length) (ha : argsFor 0 args = some xs) (hr : refsOf args = [rf])
  (hg : ∀ t0 tk0, Lw tk0 t0 e.length → Gns E f xs [[cells5 a b d c t0 e]] tk0 fun ds out tk' loc => resOf ds = some (enc r) ∧ ∃ t', out = [[cells5 a b d c t' e']] ∧ Lw tk' t' e'.length)
  (hk : ∀ v t' tk', r = v → Lw tk' t' e'.length → Den E (k ((({ s with tk := tk' } : S).setBox rf [cells5 a b d c t' e']).put dst (enc v))) Q) : Den E (gcallT s dst f args k) Q := by
 generalize hn1 : e.length = n1 at hl hg
 generalize hn2 : e'.length = n2 at hg hk
 unfold gcallT
 simp only [ha, hr, boxesOf, hbox, Option.map_some]
 cases hl with
 | nil =>
   have e0 : toksOf (List.flatten [cells5 a b d c .nil e]) = [] := rfl
   simp only [e0]
   simp only [cells5, renums, renum, D.cell, if_true, Option.map_some, noDup, Bool.not_false, Bool.and_self, List.contains_nil, List.map_cons, List.map_nil]
   refine Den.call ((hg .nil [] (by simpa using Lw.nil)).mono ?_)
   rintro ds out tk' loc ⟨h1, t', rfl, h2⟩
   cases h2 with
   | nil =>
     simp only [leave, h1, unbox, cells5, Option.map_some, renums, renum, D.cell, if_true, List.length_cons, List.length_nil, putBoxes, List.drop_zero, putToks, setBox_tk]
     exact hk r .nil _ rfl (by simpa using Lw.nil)
   | own j n h =>
     simp only [leave, h1, unbox, cells5, Option.map_some, renums, renum, D.cell, if_true, toBack, List.length_cons, List.length_nil, Nat.not_lt_zero, if_false, putBoxes, List.drop_zero, putToks, setBox_tk, setBox_tkv, Nat.sub_zero]
     exact hk r _ _ rfl (.own _ _ (by rw [List.getElem?_append_right (by omega)]; simpa using h))
 | own i _ h =>
   have e0 : toksOf (List.flatten [cells5 a b d c (.own i) e]) = [i] := rfl
   simp only [e0]
   have hi : i < s.tk.length := (List.getElem?_eq_some_iff.1 h).1
   have hg0 : s.tk.getD i 0 = n1 := by rw [List.getD_eq_getElem?_getD, h]; rfl
   have hix : List.idxOf? i [i] = some 0 := by simp [List.idxOf?, List.findIdx?, List.findIdx?.go]
   simp only [cells5, renums, renum, D.cell, if_true, Option.map_some, noDup, hix, Bool.not_false, Bool.and_self, List.contains_nil, List.map_cons, List.map_nil, hg0]
   refine Den.call ((hg (.own 0) [n1] (.own _ _ rfl)).mono ?_)
   rintro ds out tk' loc ⟨h1, t', rfl, h2⟩
   cases h2 with
   | nil =>
     simp only [leave, h1, unbox, cells5, Option.map_some, renums, renum, D.cell, if_true, List.length_cons, List.length_nil, putBoxes, setBox_tk]
     exact hk r .nil _ rfl (by simpa using Lw.nil)
   | own j n h =>
     simp only [leave, h1, unbox, cells5, Option.map_some, renums, renum, D.cell, if_true, toBack, List.length_cons, List.length_nil, putBoxes, setBox_tk]
     refine hk r _ _ rfl (.own _ _ ?_)
     by_cases hj : j = 0
     · subst hj
       cases tk' with
       | nil => simp at h
       | cons x tk' =>
         simp only [List.getElem?_cons_zero, Option.some.injEq] at h
         subst h
         simp only [Nat.zero_add, Nat.lt_irrefl, Nat.zero_lt_one, if_true, List.getD_cons_zero, putToks]
         rw [List.getElem?_append_left (by simpa using hi)]
         simp [hi]
     · rw [if_neg (by omega), List.getElem?_append_right (by rw [putToks_length]; omega), putToks_length, List.getElem?_drop]
       rw [← h]; congr 1; simp; omega
abbrev FR (o : Std) (l : List Nd) (us : List Bd) (dp : Int) (fs m' : List Fc) (d : D) : List D → List Box → List Nat → List Box → Prop := fun ds out tk' loc =>
 resOf ds = some d ∧ ∃ t' e', out = [[cells5 (o.bx fun _ => eNd l) (o.bx fun _ => eBd us) dp (o.bx fun _ => eFc fs) t' e']] ∧ e' = (o.bx fun _ => eFc m') ∧ Lw tk' t' e'.length
theorem Den.gcF (ho : o = std) {l : List Nd} {us : List Bd} {dp : Int} {fs m m' : List Fc} {t : Tok} {s : S} {dst : Option Tmp} {f : FuncId} {args xs : List D} {k : S → T} {β : Type} (enc : β → D) {r : β} (rf : Ref)
  (hbox : s.box rf = some [cells5 (o.bx fun _ => eNd l) (o.bx fun _ => eBd us) dp (o.bx fun _ => eFc fs) t (o.bx fun _ => eFc m)]) (ha : argsFor 0 args = some xs) (hr : refsOf args = [rf])
  (hg : ∀ t0 tk0, Lw tk0 t0 (o.bx fun _ => eFc m).length → Gns E f xs [[cells5 (o.bx fun _ => eNd l) (o.bx fun _ => eBd us) dp (o.bx fun _ => eFc fs) t0 (o.bx fun _ => eFc m)]] tk0 (FR o l us dp fs m' (enc r)))
  (hl : Lw s.tk t (o.bx fun _ => eFc m).length)
  (hk : ∀ v t' tk', r = v → Lw tk' t' (o.bx fun _ => eFc m').length → Den E (k ((({ s with tk := tk' } : S).setBox rf [cells5 (o.bx fun _ => eNd l) (o.bx fun _ => eBd us) dp (o.bx fun _ => eFc fs) t' (o.bx fun _ => eFc m')]).put dst (enc v))) Q) : Den E (o.gc s dst f args k) Q := by
 subst ho
 refine Den.gc5 enc rf hbox hl ha hr (fun t0 tk0 h0 => (hg t0 tk0 h0).mono ?_) hk
 rintro ds out tk' loc ⟨h1, t', e', h2, rfl, h3⟩
 exact ⟨h1, t', h2, h3⟩
theorem Lw.len {tk : List Nat} {t : Tok} {n n' : Nat} (h : Lw tk t n) (e : n = n') : Lw tk t n' := e ▸ h
end
end Go.Mach
section
namespace Go.Mach
open Go Go.RowKit
set_option linter.unusedVariables false
def cmpI (a b : Int) : Int := if a < b then -1 else if b < a then 1 else 0
def orI : List Int → Int
 | [] => 0
 | x :: l => if x = 0 then orI l else x
theorem orI_take_succ {l : List Int} {i : Int} (h0 : 0 ≤ i) (hi : i < l.length) (h : orI (l.take i.toNat) = 0) : orI (l.take (i + 1).toNat) = rI l i := by
 rw [take_succG 0 h0 hi]
 have : ∀ (m : List Int) (y : Int), orI m = 0 → orI (m ++ [y]) = y := by
  intro m y hm
  induction m with
  | nil => simp only [List.nil_append, orI]; split <;> simp_all
  | cons x m ih =>
    simp only [orI, List.cons_append] at hm ⊢
    split at hm
    · rename_i hx; rw [if_pos hx]; exact ih hm
    · contradiction
 exact this _ _ h
theorem orI_more {l : List Int} {n : Nat} (h : orI (l.take n) ≠ 0) : orI l = orI (l.take n) := by
 induction l generalizing n with
 | nil => simp at h ⊢
 | cons x l ih =>
   cases n with
   | zero => exact absurd rfl h
   | succ n =>
     simp only [List.take_succ_cons, orI] at h ⊢
     split
     · rename_i hx; rw [if_pos hx] at h; exact ih h
     · rfl
theorem orI_hit {l : List Int} {i y : Int} (h0 : 0 ≤ i) (hi : i < l.length) (h : orI (l.take i.toNat) = 0) (hy : rI l i = y) (hb : ¬ y = 0) : orI l = y := by
 have e := orI_take_succ h0 hi h
 rw [hy] at e
 rw [orI_more (n := (i + 1).toNat) (by rw [e]; exact hb), e]
theorem orI_skip {l : List Int} {i y : Int} (h0 : 0 ≤ i) (hi : i < l.length) (h : orI (l.take i.toNat) = 0) (hy : rI l i = y) (hb : y = 0) : orI (l.take (i + 1).toNat) = 0 := by
 rw [orI_take_succ h0 hi h, hy, hb]
def ordF (a b : Fc) : Int := orI [cmpI a.k b.k, cmpI a.n b.n, cmpI a.c b.c, cmpI a.v.k b.v.k, cmpI a.v.n b.v.n, cmpI a.v.c b.v.c]
theorem ordF_lt (a b : Fc) : ordF a b < 0 ↔ ltF a b := by
 have c : ∀ (x y r : Int) (P : Prop), (r < 0 ↔ P) → ((if cmpI x y = 0 then r else cmpI x y) < 0 ↔ x < y ∨ (x = y ∧ P)) := by
  intro x y r P h
  unfold cmpI
  by_cases h1 : x < y
  · rw [if_pos h1]; simp [h1]
  · rw [if_neg h1]
    by_cases h2 : y < x
    · rw [if_pos h2]
      constructor
      · intro h3; simp at h3
      · rintro (h3 | h3)
        · exact absurd h3 h1
        · omega
    · rw [if_neg h2, if_pos rfl, h]
      constructor
      · intro h3; exact .inr ⟨by omega, h3⟩
      · rintro (h3 | h3)
        · exact absurd h3 h1
        · exact h3.2
 unfold ordF ltF
 simp only [orI]
 refine c _ _ _ _ (c _ _ _ _ (c _ _ _ _ (c _ _ _ _ (c _ _ _ _ ?_))))
 have := c a.v.c b.v.c 0 False (by simp)
 rw [this]; simp
theorem mem_posF {l : List Fc} (hu : Up l) {f : Fc} : f ∈ l ↔ posF l f < l.length ∧ l.getD (posF l f) zF = f := by
 constructor
 · intro h
   obtain ⟨j, hj, rfl⟩ := List.getElem_of_mem h
   have e : l[j] = l.getD j zF := by rw [List.getD_eq_getElem?_getD, List.getElem?_eq_getElem hj]; rfl
   have : posF l l[j] = j := posF_eq (by omega) (fun i hi => by rw [e]; exact hu.get hi hj) (fun _ => by rw [e]; exact ltF_irrefl _)
   rw [this]; exact ⟨hj, e.symm⟩
 · rintro ⟨h1, h2⟩
   rw [← h2, List.getD_eq_getElem?_getD, List.getElem?_eq_getElem h1]; exact List.getElem_mem h1
def nameAt (b : Bd) (c : Int) : Plc := ⟨if b.f1 = 1 then 2 else 1, b.f0, c⟩
def givenM (l : List Nd) (f : Int) : Bd := ⟨f, if (rN l f).f0 = 6 then 1 else 0⟩
end Go.Mach
namespace Go.Mach
theorem vals_startG {l : List Fc} {s : Ab} {k n c : Int} (hu : Up l) (hp : ∀ f ∈ l, ltF ⟨k, n, c, s⟩ ⟨k, n, c, f.v⟩) : (0 : Int) ≤ ((posF l ⟨k, n, c, s⟩ : Nat) : Int) ∧ ((posF l ⟨k, n, c, s⟩ : Nat) : Int) ≤ l.length ∧
  ([] : List Ab) = vals (l.take ((posF l ⟨k, n, c, s⟩ : Nat) : Int).toNat) k n c ∧ (∀ j : Nat, j < l.length → ((posF l ⟨k, n, c, s⟩ : Nat) : Int) ≤ j → ltF ⟨k, n, c, s⟩ (l.getD j zF)) := by
 have hm : ∀ j : Nat, j < l.length → l.getD j zF ∈ l := fun j hj => by rw [List.getD_eq_getElem?_getD, List.getElem?_eq_getElem hj]; exact List.getElem_mem hj
 refine ⟨by omega, by have := posF_le l ⟨k, n, c, s⟩; omega, ?_, fun j hj hk => ?_⟩
 · rw [Int.toNat_natCast]
   symm
   rw [vals, List.map_eq_nil_iff, List.filter_eq_nil_iff]
   intro f hf
   obtain ⟨j, hj, rfl⟩ := List.mem_take_iff_getElem.1 hf
   have h1 := posF_lt (l := l) (f := ⟨k, n, c, s⟩) (j := j) (by omega)
   have h2 := hm j (by omega)
   have h3 := hp _ h2
   rw [List.getD_eq_getElem?_getD, List.getElem?_eq_getElem (show j < l.length by omega), Option.getD_some] at h1 h3
   simp only [hasKey, Bool.and_eq_true, beq_iff_eq]
   rintro ⟨e1, e2, e3⟩
   have e : (⟨k, n, c, l[j].v⟩ : Fc) = l[j] := Fc.ext' e1.symm e2.symm e3.symm rfl rfl rfl
   rw [e] at h3
   exact ltF_irrefl _ (ltF_trans h1 h3)
 · have hl : posF l ⟨k, n, c, s⟩ < l.length := by omega
   have h2 := posF_at (l := l) (f := ⟨k, n, c, s⟩) hl
   have h3 := hp _ (hm _ hl)
   have h4 : ltF ⟨k, n, c, s⟩ (l.getD (posF l ⟨k, n, c, s⟩) zF) := Classical.byContradiction fun h => by
    have e := ltF_total h2 h
    rw [e] at h3
    exact ltF_irrefl _ h3
   by_cases e : posF l ⟨k, n, c, s⟩ = j
   · rw [e] at h4; exact h4
   · exact ltF_trans h4 (hu.get (by omega) hj)
theorem vals_endG {l : List Fc} {s : Ab} {k n c i : Int} (h0 : 0 ≤ i) (hi : i ≤ l.length) (hu : Up l) (h : ∀ j : Nat, j < l.length → i ≤ j → ltF ⟨k, n, c, s⟩ (l.getD j zF)) (he : i = l.length ∨ (i < l.length ∧ ¬ ((rF l i).k = k ∧ (rF l i).n = n ∧ (rF l i).c = c))) : vals (l.take i.toNat) k n c = vals l k n c := by
 rcases he with rfl | ⟨he, hn⟩
 · rw [Int.toNat_natCast, List.take_length]
 · conv => rhs; rw [← List.take_append_drop i.toNat l]
   simp only [vals, List.filter_append, List.map_append]
   symm
   rw [List.append_right_eq_self, List.map_eq_nil_iff, List.filter_eq_nil_iff]
   intro f hf
   obtain ⟨j, hj, rfl⟩ := List.mem_drop_iff_getElem.1 hf
   have h1 := h i.toNat (by omega) (by omega)
   have h2 : ltF (l.getD i.toNat zF) (l.getD (i.toNat + j) zF) ∨ l.getD i.toNat zF = l.getD (i.toNat + j) zF := by
    by_cases e : j = 0
    · subst e; exact .inr rfl
    · exact .inl (hu.get (by omega) (by omega))
   have e3 : l.getD (i.toNat + j) zF = l[i.toNat + j] := by rw [List.getD_eq_getElem?_getD, List.getElem?_eq_getElem (show i.toNat + j < l.length by omega), Option.getD_some]
   rw [← e3]
   have e4 : rF l i = l.getD i.toNat zF := rfl
   rw [e4] at hn
   generalize l.getD i.toNat zF = x at *
   generalize l.getD (i.toNat + j) zF = y at *
   simp only [hasKey, Bool.and_eq_true, beq_iff_eq]
   rintro ⟨a1, a2, a3⟩
   rcases h2 with h2 | rfl
   · unfold ltF at h1 h2
     dsimp only at h1
     omega
   · exact hn ⟨a1, a2, a3⟩
theorem lowI {l : List Fc} {k n c : Int} (h : ∀ f ∈ l, 0 ≤ f.v.k ∧ 0 ≤ f.v.n) : ∀ f ∈ l, ltF ⟨k, n, c, ⟨0, -22951, 0⟩⟩ ⟨k, n, c, f.v⟩ := fun f hf => by
 have := h f hf; unfold ltF; dsimp only; omega
def Downs (l : List Nd) : Prop := ∀ i : Int, 0 ≤ i → i < l.length → (0 < arityM (rN l i).f0 → 0 ≤ (rN l i).f1 ∧ (rN l i).f1 < i)
def startN (l : List Nd) : Nat → Int → Int
 | 0, i => i
 | n + 1, i => if 0 < arityM (rN l i).f0 then startN l n (rN l i).f1 else i
def startM (l : List Nd) (i : Int) : Int := startN l i.toNat i
theorem startN_stay {l : List Nd} (hd : Downs l) : ∀ (n : Nat) (i : Int), 0 ≤ i → i < l.length → i.toNat ≤ n → startN l (n + 1) i = startN l n i := by
 intro n
 induction n with
 | zero =>
   intro i h0 h1 h2
   rw [startN, startN]
   by_cases hc : 0 < arityM (rN l i).f0
   · have := hd i h0 h1 hc; omega
   · rw [if_neg hc]
 | succ n ih =>
   intro i h0 h1 h2
   by_cases hc : 0 < arityM (rN l i).f0
   · have := hd i h0 h1 hc
     simp only [startN, hc, if_true]
     have := ih (rN l i).f1 this.1 (by omega) (by omega)
     simpa only [startN] using this
   · simp only [startN, hc, if_false]
theorem startN_eq {l : List Nd} (hd : Downs l) {n : Nat} {i : Int} (h0 : 0 ≤ i) (h1 : i < l.length) (h : i.toNat ≤ n) : startN l n i = startM l i := by
 induction n with
 | zero => unfold startM; rw [show i.toNat = 0 by omega]
 | succ n ih =>
   by_cases e : i.toNat = n + 1
   · unfold startM; rw [e]
   · rw [startN_stay hd n i h0 h1 (by omega)]; exact ih (by omega)
theorem startM_base {l : List Nd} {i : Int} (h : arityM (rN l i).f0 = 0) : startM l i = i := by
 unfold startM
 cases i.toNat with
 | zero => rfl
 | succ n => rw [startN, if_neg (by omega)]
theorem startM_step {l : List Nd} (hd : Downs l) {i : Int} {y : Nd} (h0 : 0 ≤ i) (h1 : i < l.length) (hy : rN l i = y) (h : 0 < arityM y.f0) : startM l i = startM l y.f1 := by
 subst hy
 have hk := hd i h0 h1 h
 rw [← startN_eq hd h0 h1 (Nat.le_succ _), startN, if_pos h]
 exact startN_eq hd hk.1 (by omega) (by omega)
end Go.Mach
namespace Go.Mach
instance (l : List Fc) : Decidable (Up l) := by unfold Up; infer_instance
def okF (l : List Fc) : Bool := decide (Up l ∧ l.length ≤ 2500)
theorem up_adj {l : List Fc} (h : ∀ j : Nat, 1 ≤ j → j < l.length → ltF (l.getD (j - 1) zF) (l.getD j zF)) : Up l := by
 refine List.pairwise_iff_getElem.2 fun i j hi hj hij => ?_
 have key : ∀ d i : Nat, i + d + 1 < l.length → ltF (l.getD i zF) (l.getD (i + d + 1) zF) := by
  intro d
  induction d with
  | zero => intro i hi; exact h (i + 1) (by omega) hi
  | succ d ih => intro i hi; exact ltF_trans (ih i (by omega)) (h (i + (d + 1) + 1) (by omega) hi)
 have := key (j - i - 1) i (by omega)
 rw [show i + (j - i - 1) + 1 = j by omega, List.getD_eq_getElem?_getD, List.getD_eq_getElem?_getD, List.getElem?_eq_getElem hi, List.getElem?_eq_getElem hj] at this
 exact this
theorem okF_end {l : List Fc} {a : Int} {b : Bool} (h : (l.length : Int) ≤ a) (h1 : 1 ≤ a) (hu : ∀ j : Nat, 1 ≤ j → (j : Int) < a → ltF (l.getD (j - 1) zF) (l.getD j zF)) (hb : b = decide (l.length ≤ 2500)) : b = okF l := by
 have : Up l := up_adj fun j h1 h2 => hu j h1 (by omega)
 subst hb
 simp [okF, this]
theorem okF_no {l : List Fc} {a : Int} (h1 : 1 ≤ a) (h : a < l.length) (hn : ¬ ltF (rF l (a - 1)) (rF l a)) : okF l = false := by
 refine decide_eq_false fun ⟨hu, _⟩ => hn ?_
 exact hu.get (by omega) (by omega)
theorem okF_step {l : List Fc} {a : Int} (h1 : 1 ≤ a) (h : a < l.length) (hu : ∀ j : Nat, 1 ≤ j → (j : Int) < a → ltF (l.getD (j - 1) zF) (l.getD j zF)) (hn : ltF (rF l (a - 1)) (rF l a)) : ∀ j : Nat, 1 ≤ j → (j : Int) < a + 1 → ltF (l.getD (j - 1) zF) (l.getD j zF) := fun j h2 h3 => by
 by_cases e : (j : Int) = a
 · subst e
   unfold rF rdG at hn
   rw [Int.toNat_natCast, show ((j : Int) - 1).toNat = j - 1 by omega] at hn
   exact hn
 · exact hu j h2 (by omega)
end Go.Mach
namespace Go.Mach
theorem okF_no2 {l : List Fc} {a i : Int} {x y : Fc} (h1 : 1 ≤ a) (h : a < l.length) (hx : rF l i = x) (hi : i = a - 1) (hy : rF l a = y) (hv : ltB x y = false) : false = okF l := by
 subst hi
 refine (okF_no h1 h ?_).symm
 rw [hx, hy]; exact fun h => by rw [ltB_iff.2 h] at hv; cases hv
theorem okF_step2 {l : List Fc} {a i : Int} {x y : Fc} (h1 : 1 ≤ a) (h : a < l.length) (hu : ∀ j : Nat, 1 ≤ j → (j : Int) < a → ltF (l.getD (j - 1) zF) (l.getD j zF)) (hx : rF l i = x) (hi : i = a - 1) (hy : rF l a = y) (hv : ltB x y = true) : ∀ j : Nat, 1 ≤ j → (j : Int) < a + 1 → ltF (l.getD (j - 1) zF) (l.getD j zF) := by
 subst hi
 refine okF_step h1 h hu ?_
 rw [hx, hy]; exact ltB_iff.1 hv
theorem has_iff {l : List Fc} {f y : Fc} {v : Int} (hu : Up l) (hv : ((posF l f : Nat) : Int) = v) (hlt : v < l.length) (hy : rF l v = y) : f ∈ l ↔ y = f := by
 subst hv
 rw [mem_posF hu]
 constructor
 · rintro ⟨_, h2⟩; exact hy.symm.trans h2
 · intro h; exact ⟨by omega, hy.trans h⟩
end Go.Mach
namespace Go.Mach
structure Fok (l : List Nd) (fs : List Fc) : Prop where
 up : Up fs
 len : fs.length ≤ 2500
 pos : ∀ f ∈ fs, 0 ≤ f.v.k ∧ 0 ≤ f.v.n
 val : ∀ f ∈ fs, f.v.n < l.length
 lam : ∀ f ∈ fs, f.v.k = 1 → lamB (rN l f.v.n) = true
 node : ∀ f ∈ fs, 0 ≤ f.n ∧ f.n < l.length
structure Lok (l : List Nd) (us : List Bd) : Prop where
 size : l.length ≤ 150
 downs : Downs l
 uses : us.length = l.length
def hasR (fs : List Fc) (n c : Int) : Bool := decide ((⟨7, n, c, ⟨0, 0, 0⟩⟩ : Fc) ∈ fs)
def thoseL (fs : List Fc) (k n c kd : Int) : List Ab := (vals fs k n c).filter fun v => v.k == kd
theorem len_those (fs : List Fc) (k n c kd : Int) : (thoseL fs k n c kd).length ≤ fs.length := Nat.le_trans (List.length_filter_le _ _) (len_vals _ _ _ _)
theorem filter_succ {l : List Ab} {i : Int} (h0 : 0 ≤ i) (hi : i < l.length) (p : Ab → Bool) : (l.take (i + 1).toNat).filter p = (l.take i.toNat).filter p ++ if p (rA l i) then [rA l i] else [] := by
 rw [take_succG zA h0 hi, List.filter_append]
 congr 1
 show List.filter p [rA l i] = _
 by_cases h : p (rA l i) <;> simp [h]
def takeL (fs : List Fc) (kd part k2 n2 c2 : Int) (vs : List Ab) : List Fc := vs.flatMap fun v => flowL fs part v.n v.c k2 n2 c2
end Go.Mach
end
namespace Go.Mach
open Go Go.RowKit
def knB (l : List Nd) (us : List Bd) (f : Int) (b : Bd) : Bool := decide (b.f0 < 0 ∨ (startM l (rN l f).f1 ≤ b.f0 ∧ b.f0 ≤ (rN l f).f1) ∨ b = givenM l f)
def outerN (l : List Nd) (us : List Bd) (f : Int) : Nat → List Bd
 | 0 => []
 | n + 1 => if knB l us f (rB us (startM l (rN l f).f1 + n)) || (outerN l us f n).any (fun x => decide (x = rB us (startM l (rN l f).f1 + n))) then outerN l us f n else outerN l us f n ++ [rB us (startM l (rN l f).f1 + n)]
def outerM (l : List Nd) (us : List Bd) (f : Int) : List Bd := outerN l us f ((rN l f).f1 + 1 - startM l (rN l f).f1).toNat
theorem len_outerN (l : List Nd) (us : List Bd) (f : Int) (n : Nat) : (outerN l us f n).length ≤ n := by
 induction n with
 | zero => simp [outerN]
 | succ n ih =>
   rw [outerN]; split
   · omega
   · rw [List.length_append]; simp; omega
theorem startM_le {l : List Nd} (hd : Downs l) {i : Int} (h0 : 0 ≤ i) (h1 : i < l.length) : 0 ≤ startM l i ∧ startM l i ≤ i := by
 have key : ∀ (n : Nat) (i : Int), 0 ≤ i → i < l.length → 0 ≤ startN l n i ∧ startN l n i ≤ i := by
  intro n
  induction n with
  | zero => intro i h0 h1; exact ⟨h0, Int.le_refl _⟩
  | succ n ih =>
    intro i h0 h1
    rw [startN]
    split
    · rename_i hc
      have := hd i h0 h1 hc
      have := ih _ this.1 (by omega)
      omega
    · exact ⟨h0, Int.le_refl _⟩
 exact key _ i h0 h1
theorem outerN_keep {l : List Nd} {us : List Bd} {f i from_ : Int} {b : Bd} (hf : from_ = startM l (rN l f).f1) (h : from_ ≤ i) (hb : rB us i = b) (hk : (knB l us f b || (outerN l us f (i - from_).toNat).any fun x => decide (x = b)) = true) : outerN l us f (i + 1 - from_).toNat = outerN l us f (i - from_).toNat := by
 rw [show (i + 1 - from_).toNat = (i - from_).toNat + 1 by omega, outerN]
 have : startM l (rN l f).f1 + ((i - from_).toNat : Int) = i := by omega
 rw [this, hb, if_pos hk]
theorem outerN_push {l : List Nd} {us : List Bd} {f i from_ : Int} {b : Bd} (hf : from_ = startM l (rN l f).f1) (h : from_ ≤ i) (hb : rB us i = b) (hk : (knB l us f b || (outerN l us f (i - from_).toNat).any fun x => decide (x = b)) = false) : outerN l us f (i + 1 - from_).toNat = outerN l us f (i - from_).toNat ++ [b] := by
 rw [show (i + 1 - from_).toNat = (i - from_).toNat + 1 by omega, outerN]
 have : startM l (rN l f).f1 + ((i - from_).toNat : Int) = i := by omega
 rw [this, hb, if_neg (by rw [hk]; exact Bool.false_ne_true)]
theorem any_succ {l : List Bd} {i : Int} (h0 : 0 ≤ i) (hi : i < l.length) (p : Bd → Bool) : (l.take (i + 1).toNat).any p = ((l.take i.toNat).any p || p (rB l i)) := by
 rw [take_succG zBd h0 hi, List.any_append]; simp [rB]
theorem knB_eq {l : List Nd} {us : List Bd} {f q0 q1 v0 v1 : Int} (h1 : ¬ q0 < 0) (h2 : ¬ (startM l (rN l f).f1 ≤ q0 ∧ q0 ≤ (rN l f).f1)) (hv : givenM l f = ⟨v0, v1⟩) : ((q0 == v0) && ((q1 == v1) && true)) = knB l us f ⟨q0, q1⟩ := by
 rw [Bool.eq_iff_iff]
 simp only [Bool.and_eq_true, beq_iff_eq, and_true, knB, decide_eq_true_eq, hv, Bd.mk.injEq]
 constructor
 · exact fun h => .inr (.inr h)
 · rintro (h | h | h)
   · exact absurd h h1
   · exact absurd h h2
   · exact h
theorem eqBd (y0 y1 q0 q1 : Int) : ((y0 == q0) && ((y1 == q1) && true)) = decide ((⟨y0, y1⟩ : Bd) = ⟨q0, q1⟩) := by
 by_cases a : y0 = q0 <;> by_cases b : y1 = q1 <;> simp [a, b]
def flowP (fs : List Fc) (a b : Plc) : List Fc := flowL fs a.k a.n a.c b.k b.n b.c
def callI (l : List Nd) (us : List Bd) (dp : Int) (fs : List Fc) (i c : Int) (f : Ab) (b : Plc) : List Fc :=
 flowP fs b (nameAt (givenM l f.n) (ctxPush c i dp)) ++ (outerM l us f.n).flatMap (fun x => flowP fs (nameAt x f.c) (nameAt x (ctxPush c i dp))) ++ flowL fs 0 (rN l f.n).f1 (ctxPush c i dp) 0 i c ++
  seeL (rN l f.n).f1 (ctxPush c i dp) ++ riseL (hasR fs (rN l f.n).f1 (ctxPush c i dp)) i c
def bothI (l : List Nd) (us : List Bd) (dp : Int) (fs : List Fc) (i c : Int) (n : Nd) (a b : Plc) : List Fc :=
 if (vals fs a.k a.n a.c).isEmpty ∨ (vals fs b.k b.n b.c).isEmpty then []
 else if n.f0 = 4 then (thoseL fs a.k a.n a.c 1).flatMap fun f => callI l us dp fs i c f b
 else [⟨0, i, c, if n.f0 = 9 then ⟨3, i, c⟩ else if n.f0 = 13 then ⟨4, i, c⟩ else ⟨0, 0, 0⟩⟩] ++
  (if n.f0 = 9 ∨ n.f0 = 13 then flowP fs a ⟨3, i, c⟩ ++ flowP fs b ⟨4, i, c⟩ else []) ++
  (if n.f0 = 17 then (thoseL fs a.k a.n a.c 5).flatMap fun r => flowP fs b ⟨5, r.n, r.c⟩ else [])
def matchI (fs : List Fc) (i c : Int) (n : Nd) (a : Plc) : List Fc :=
 (if (thoseL fs a.k a.n a.c 2).isEmpty then [] else seeL n.f2 c) ++
 (thoseL fs a.k a.n a.c 4).flatMap (fun v => seeL n.f3 c ++ flowL fs 3 v.n v.c 1 i c ++ flowL fs 4 v.n v.c 2 i c) ++
 flowL fs 0 n.f2 c 0 i c ++ flowL fs 0 n.f3 c 0 i c
def oneI (fs : List Fc) (i c : Int) (n : Nd) (a : Plc) : List Fc :=
 if n.f0 = 10 then takeL fs 3 3 0 i c (thoseL fs a.k a.n a.c 3)
 else if n.f0 = 11 then takeL fs 3 4 0 i c (thoseL fs a.k a.n a.c 3)
 else if n.f0 = 16 then takeL fs 5 5 0 i c (thoseL fs a.k a.n a.c 5)
 else if n.f0 = 15 then (if (vals fs a.k a.n a.c).isEmpty then [] else [⟨0, i, c, ⟨5, i, c⟩⟩]) ++ flowP fs a ⟨5, i, c⟩
 else if n.f0 = 18 then (if (thoseL fs a.k a.n a.c 0).isEmpty then [] else [⟨7, i, c, ⟨0, 0, 0⟩⟩])
 else if n.f0 = 19 then (if hasR fs n.f1 c then seeL n.f2 c ++ [⟨1, i, c, ⟨0, 0, 0⟩⟩] else []) ++ flowP fs a ⟨0, i, c⟩ ++ flowL fs 0 n.f2 c 0 i c
 else []
def kidI (fs : List Fc) (t i c : Int) (x : Int × Nat) : List Fc := if x.2 > 0 ∨ t ≠ 19 then riseL (hasR fs x.1 c) i c else []
def otherI (l : List Nd) (us : List Bd) (dp : Int) (fs : List Fc) (i c : Int) (n : Nd) : List Fc :=
 seeL n.f1 c ++ (kidsM n).zipIdx.flatMap (kidI fs n.f0 i c) ++
 (if n.f0 = 4 ∨ n.f0 = 8 ∨ n.f0 = 9 ∨ n.f0 = 13 ∨ n.f0 = 17 then (if (vals fs 0 n.f1 c).isEmpty then [] else seeL n.f2 c) ++ bothI l us dp fs i c n ⟨0, n.f1, c⟩ ⟨0, n.f2, c⟩
  else if n.f0 = 5 then (if (vals fs 0 n.f1 c).isEmpty then [] else seeL n.f2 c) ++ flowL fs 0 n.f1 c 1 i c ++ flowL fs 0 n.f2 c 0 i c
  else if n.f0 = 7 then (if (thoseL fs 0 n.f1 c 0).isEmpty then [] else seeL n.f2 c ++ seeL n.f3 c) ++ flowL fs 0 n.f2 c 0 i c ++ flowL fs 0 n.f3 c 0 i c
  else if n.f0 = 14 then matchI fs i c n ⟨0, n.f1, c⟩
  else oneI fs i c n ⟨0, n.f1, c⟩)
def nodeI (l : List Nd) (us : List Bd) (dp : Int) (fs : List Fc) (i c : Int) : List Fc :=
 let n := rN l i
 if n.f0 = 1 then flowP fs (nameAt (rB us i) c) ⟨0, i, c⟩
 else if n.f0 = 2 then [⟨0, i, c, ⟨0, 0, 0⟩⟩]
 else if n.f0 = 12 then [⟨0, i, c, ⟨2, 0, 0⟩⟩]
 else if n.f0 = 3 then [⟨0, i, c, ⟨1, i, c⟩⟩]
 else if n.f0 = 6 then [⟨1, i, c, ⟨1, i, c⟩⟩] ++ seeL n.f2 c ++ flowL fs 0 n.f2 c 0 i c ++ riseL (hasR fs n.f2 c) i c
 else otherI l us dp fs i c n
end Go.Mach
