/- What the statements share: part 14 of a proof by an executable machine over the program's code. -/
import Derived.Test.YtljpfhpcbfpooaaGreatDoorMc13
set_option linter.unusedVariables false
set_option linter.unusedSimpArgs false
section
namespace Go.Mach
open Go Go.RowKit
set_option linter.unusedVariables false
structure Nd where
 f0 : Int
 f1 : Int
 f2 : Int
 f3 : Int
 f4 : Int
 f5 : ByteArray
 f6 : ByteArray
structure LNd where
 f0 : Int
 f1 : Int
 f2 : Int
 f3 : Int
 f4 : Int
 f5 : ByteArray
 f6 : ByteArray
structure Bd where
 f0 : Int
 f1 : Int
 deriving DecidableEq
structure Ed where
 f0 : Int
 f1 : Int
 deriving DecidableEq
structure Plc where
 k : Int
 n : Int
 c : Int
def zNd : Nd := ⟨0, 0, 0, 0, 0, ⟨#[]⟩, ⟨#[]⟩⟩
def zLNd : LNd := ⟨0, 0, 0, 0, 0, ⟨#[]⟩, ⟨#[]⟩⟩
def zBd : Bd := ⟨0, 0⟩
def zEd : Ed := ⟨0, 0⟩
def cNd (x : Nd) : List D := [.int .i64 x.f0, .int .i64 x.f1, .int .i64 x.f2, .int .i64 x.f3, .int .i64 x.f4, .str x.f5, .str x.f6]
def cLNd (x : LNd) : List D := [.int .i64 x.f0, .int .i64 x.f1, .int .i64 x.f2, .int .i64 x.f3, .int .i64 x.f4, .str x.f5, .str x.f6]
def cBd (x : Bd) : List D := [.int .i64 x.f0, .int .i64 x.f1]
def cEd (x : Ed) : List D := [.int .i64 x.f0, .int .i64 x.f1]
def eNd (l : List Nd) : Box := l.map cNd
def eLNd (l : List LNd) : Box := l.map cLNd
def eBd (l : List Bd) : Box := l.map cBd
def eEd (l : List Ed) : Box := l.map cEd
def eLBd (l : List (List Bd)) : Box := l.map fun b => [.sl .ro 2 (eBd b)]
theorem len_eNd (l : List Nd) : (eNd l).length = l.length := by simp [eNd]
theorem len_eLNd (l : List LNd) : (eLNd l).length = l.length := by simp [eLNd]
theorem len_eBd (l : List Bd) : (eBd l).length = l.length := by simp [eBd]
theorem len_eEd (l : List Ed) : (eEd l).length = l.length := by simp [eEd]
theorem len_eLBd (l : List (List Bd)) : (eLBd l).length = l.length := by simp [eLBd]
def rN (l : List Nd) (i : Int) : Nd := rdG zNd l i
def rB (l : List Bd) (i : Int) : Bd := rdG zBd l i
def rE (l : List Ed) (i : Int) : Ed := rdG zEd l i
def rI (l : List Int) (i : Int) : Int := rdG 0 l i
def rS (l : List ByteArray) (i : Int) : ByteArray := rdG ByteArray.empty l i
def rLB (l : List (List Bd)) (i : Int) : List Bd := rdG [] l i
section
variable {E : Env} {Q : X → S → Prop} {o : Std} {i : Int} {k : List D → T}
theorem Den.fetchXFc (ho : o = std) {l : List Fc} (h0 : 0 ≤ i) (h1 : i < l.length) (h : ∀ y, rF l i = y → Den E (k (cFc y)) Q) : Den E (.fetch (o.bx fun _ => eFc l) i k) Q := Den.fetchG ho zF cFc h0 h1 h
theorem Den.fetchYFc (ho : o = std) {l : List Fc} {y : Fc} (h0 : 0 ≤ i) (h1 : i < l.length) (hy : rF l i = y) (h : Den E (k (cFc y)) Q) : Den E (.fetch (o.bx fun _ => eFc l) i k) Q := Den.fetchXFc ho h0 h1 fun y' hy' => by rw [← hy', hy]; exact h
theorem Den.fetchXAb (ho : o = std) {l : List Ab} (h0 : 0 ≤ i) (h1 : i < l.length) (h : ∀ y, rA l i = y → Den E (k (cAb y)) Q) : Den E (.fetch (o.bx fun _ => eAb l) i k) Q := Den.fetchG ho zA cAb h0 h1 h
theorem Den.fetchYAb (ho : o = std) {l : List Ab} {y : Ab} (h0 : 0 ≤ i) (h1 : i < l.length) (hy : rA l i = y) (h : Den E (k (cAb y)) Q) : Den E (.fetch (o.bx fun _ => eAb l) i k) Q := Den.fetchXAb ho h0 h1 fun y' hy' => by rw [← hy', hy]; exact h
theorem Den.fetchXNd (ho : o = std) {l : List Nd} (h0 : 0 ≤ i) (h1 : i < l.length) (h : ∀ y, rN l i = y → Den E (k (cNd y)) Q) : Den E (.fetch (o.bx fun _ => eNd l) i k) Q := Den.fetchG ho zNd cNd h0 h1 h
theorem Den.fetchYNd (ho : o = std) {l : List Nd} {y : Nd} (h0 : 0 ≤ i) (h1 : i < l.length) (hy : rN l i = y) (h : Den E (k (cNd y)) Q) : Den E (.fetch (o.bx fun _ => eNd l) i k) Q := Den.fetchXNd ho h0 h1 fun y' hy' => by rw [← hy', hy]; exact h
theorem Den.fetchXLNd (ho : o = std) {l : List LNd} (h0 : 0 ≤ i) (h1 : i < l.length) (h : ∀ y, rdG zLNd l i = y → Den E (k (cLNd y)) Q) : Den E (.fetch (o.bx fun _ => eLNd l) i k) Q := Den.fetchG ho zLNd cLNd h0 h1 h
theorem Den.fetchYLNd (ho : o = std) {l : List LNd} {y : LNd} (h0 : 0 ≤ i) (h1 : i < l.length) (hy : rdG zLNd l i = y) (h : Den E (k (cLNd y)) Q) : Den E (.fetch (o.bx fun _ => eLNd l) i k) Q := Den.fetchXLNd ho h0 h1 fun y' hy' => by rw [← hy', hy]; exact h
theorem Den.fetchXBd (ho : o = std) {l : List Bd} (h0 : 0 ≤ i) (h1 : i < l.length) (h : ∀ y, rB l i = y → Den E (k (cBd y)) Q) : Den E (.fetch (o.bx fun _ => eBd l) i k) Q := Den.fetchG ho zBd cBd h0 h1 h
theorem Den.fetchYBd (ho : o = std) {l : List Bd} {y : Bd} (h0 : 0 ≤ i) (h1 : i < l.length) (hy : rB l i = y) (h : Den E (k (cBd y)) Q) : Den E (.fetch (o.bx fun _ => eBd l) i k) Q := Den.fetchXBd ho h0 h1 fun y' hy' => by rw [← hy', hy]; exact h
theorem Den.fetchXEd (ho : o = std) {l : List Ed} (h0 : 0 ≤ i) (h1 : i < l.length) (h : ∀ y, rE l i = y → Den E (k (cEd y)) Q) : Den E (.fetch (o.bx fun _ => eEd l) i k) Q := Den.fetchG ho zEd cEd h0 h1 h
theorem Den.fetchYEd (ho : o = std) {l : List Ed} {y : Ed} (h0 : 0 ≤ i) (h1 : i < l.length) (hy : rE l i = y) (h : Den E (k (cEd y)) Q) : Den E (.fetch (o.bx fun _ => eEd l) i k) Q := Den.fetchXEd ho h0 h1 fun y' hy' => by rw [← hy', hy]; exact h
theorem Den.fetchXK (ho : o = std) {kd : IntKind} {l : List Int} (h0 : 0 ≤ i) (h1 : i < l.length) (h : ∀ y, rI l i = y → Den E (k [.int kd y]) Q) : Den E (.fetch (o.bx fun _ => eK kd l) i k) Q := Den.fetchG ho 0 (fun x => [.int kd x]) h0 h1 h
theorem Den.fetchYK (ho : o = std) {kd : IntKind} {l : List Int} {y : Int} (h0 : 0 ≤ i) (h1 : i < l.length) (hy : rI l i = y) (h : Den E (k [.int kd y]) Q) : Den E (.fetch (o.bx fun _ => eK kd l) i k) Q := Den.fetchXK ho h0 h1 fun y' hy' => by rw [← hy', hy]; exact h
theorem Den.fetchXB (ho : o = std) {l : List ByteArray} (h0 : 0 ≤ i) (h1 : i < l.length) (h : ∀ y, rS l i = y → Den E (k [.str y]) Q) : Den E (.fetch (o.bx fun _ => eB l) i k) Q := Den.fetchG ho ByteArray.empty (fun x => [.str x]) h0 h1 h
theorem Den.fetchYB (ho : o = std) {l : List ByteArray} {y : ByteArray} (h0 : 0 ≤ i) (h1 : i < l.length) (hy : rS l i = y) (h : Den E (k [.str y]) Q) : Den E (.fetch (o.bx fun _ => eB l) i k) Q := Den.fetchXB ho h0 h1 fun y' hy' => by rw [← hy', hy]; exact h
theorem Den.fetchXLBd (ho : o = std) {l : List (List Bd)} (h0 : 0 ≤ i) (h1 : i < l.length) (h : ∀ y, rLB l i = y → Den E (k [.sl .ro 2 (o.bx fun _ => eBd y)]) Q) : Den E (.fetch (o.bx fun _ => eLBd l) i k) Q := by
 subst ho; exact Den.fetchG rfl [] (fun b => [.sl .ro 2 (eBd b)]) h0 h1 h
theorem Den.fetchYLBd (ho : o = std) {l : List (List Bd)} {y : List Bd} (h0 : 0 ≤ i) (h1 : i < l.length) (hy : rLB l i = y) (h : Den E (k [.sl .ro 2 (o.bx fun _ => eBd y)]) Q) : Den E (.fetch (o.bx fun _ => eLBd l) i k) Q := Den.fetchXLBd ho h0 h1 fun y' hy' => by rw [← hy', hy]; exact h
end
theorem push_eAb {a b : List Ab} {x : Ab} (h : b = a ++ [x]) : std.app (eAb a) [cAb x] = eAb b := by subst h; simp [std, eAb]
theorem push_eFc {a b : List Fc} {x : Fc} (h : b = a ++ [x]) : std.app (eFc a) [cFc x] = eFc b := by subst h; simp [std, eFc]
theorem push_eBd {a b : List Bd} {x : Bd} (h : b = a ++ [x]) : std.app (eBd a) [cBd x] = eBd b := by subst h; simp [std, eBd]
theorem push_eK {k : IntKind} {a b : List Int} {x : Int} (h : b = a ++ [x]) : std.app (eK k a) [[.int k x]] = eK k b := by subst h; simp [std, eK]
theorem push_eB {a b : List ByteArray} {x : ByteArray} (h : b = a ++ [x]) : std.app (eB a) [[.str x]] = eB b := by subst h; simp [std, eB]
theorem tdivN {a b : Int} (h : 0 ≤ a) : a.tdiv b = a / b := Int.tdiv_eq_ediv_of_nonneg h
theorem dI {k : IntKind} {a b : Int} (h : a = b) : D.int k a = D.int k b := by rw [h]
theorem dB {a b : Bool} (h : a = b) : D.bool a = D.bool b := by rw [h]
end Go.Mach
namespace Go.Mach
theorem dBi {p q : Prop} {i1 : Decidable p} {i2 : Decidable q} (h : p ↔ q) : D.bool (@decide p i1) = D.bool (@decide q i2) := by
 congr 1; by_cases hp : p
 · rw [decide_eq_true hp, decide_eq_true (h.1 hp)]
 · rw [decide_eq_false hp, decide_eq_false (fun hq => hp (h.2 hq))]
theorem dBt {b : Bool} {p : Prop} {i : Decidable p} (h : b = true ↔ p) : D.bool b = D.bool (@decide p i) := by
 congr 1; by_cases hp : p
 · rw [decide_eq_true hp, h.2 hp]
 · rw [decide_eq_false hp]; cases b
   · rfl
   · exact absurd (h.1 rfl) hp
end Go.Mach
end
namespace Go.Mach
open Go Go.RowKit
theorem nrm : (∀ p : Prop, (¬¬p) = p) ∧ (∀ (p : Prop) [Decidable p], (decide p = true) = p) ∧ (∀ (p : Prop) [Decidable p], (decide p = false) = ¬p) ∧ (∀ {α : Type} [BEq α] [LawfulBEq α] (a b : α), ((a == b) = true) = (a = b)) ∧ (∀ {α : Type} [BEq α] [LawfulBEq α] (a b : α), ((a == b) = false) = ¬(a = b)) ∧ (∀ {α : Type} (a b : α), (a ≠ b) = ¬(a = b)) ∧ (∀ b : Bool, ((!b) = true) = (b = false)) ∧ (∀ b : Bool, ((!b) = false) = (b = true)) ∧ (∀ b : Bool, (¬(b = true)) = (b = false)) ∧ (∀ b : Bool, (¬(b = false)) = (b = true)) ∧ (∀ a b : Int, (a > b) = (b < a)) ∧ (∀ a b : Int, (a ≥ b) = (b ≤ a)) ∧ (∀ a b : Int, (¬(a < b)) = (b ≤ a)) ∧ (∀ a b : Int, (¬(a ≤ b)) = (b < a)) := by
 refine ⟨fun p => ?_, fun p _ => ?_, fun p _ => ?_, fun a b => ?_, fun a b => ?_, fun a b => ?_, fun b => ?_, fun b => ?_, fun b => ?_, fun b => ?_, fun a b => ?_, fun a b => ?_, fun a b => ?_, fun a b => ?_⟩
 · exact propext Classical.not_not
 · exact propext decide_eq_true_iff
 · exact propext decide_eq_false_iff_not
 · exact propext beq_iff_eq
 · exact propext beq_eq_false_iff_ne
 · rfl
 · cases b <;> simp
 · cases b <;> simp
 · cases b <;> simp
 · cases b <;> simp
 · rfl
 · rfl
 · exact propext Int.not_lt
 · exact propext Int.not_le
theorem lenE : (∀ k l, (eK k l).length = l.length) ∧ (∀ l, (eB l).length = l.length) ∧ (∀ l, (eNd l).length = l.length) ∧ (∀ l, (eLNd l).length = l.length) ∧ (∀ l, (eFc l).length = l.length) ∧ (∀ l, (eAb l).length = l.length) ∧ (∀ l, (eBd l).length = l.length) ∧ (∀ l, (eEd l).length = l.length) ∧ (∀ l, (eLBd l).length = l.length) := ⟨len_eK, len_eB, len_eNd, len_eLNd, len_eFc, len_eAb, len_eBd, len_eEd, len_eLBd⟩
abbrev Jk : D := .junk
abbrev iX (n : Int) : D := .int .i64 n
abbrev rNd (o : Std) (l : List Nd) : D := .sl .ro 7 (o.bx fun _ => eNd l)
abbrev rFc (o : Std) (l : List Fc) : D := .sl .ro 6 (o.bx fun _ => eFc l)
abbrev rK (o : Std) (l : List Int) : D := .sl .ro 1 (o.bx fun _ => eK .i64 l)
abbrev rTx (o : Std) (l : List ByteArray) : D := .sl .ro 1 (o.bx fun _ => eB l)
abbrev rBd (o : Std) (l : List Bd) : D := .sl .ro 2 (o.bx fun _ => eBd l)
abbrev rEd (o : Std) (l : List Ed) : D := .sl .ro 2 (o.bx fun _ => eEd l)
abbrev rAb (o : Std) (l : List Ab) : D := .sl .ro 3 (o.bx fun _ => eAb l)
theorem dE : (∀ (p : Prop) [Decidable p], (decide p = true) = p) ∧ (∀ (p : Prop) [Decidable p], (decide p = false) = ¬p) := ⟨fun p _ => propext decide_eq_true_iff, fun p _ => propext decide_eq_false_iff_not⟩
theorem bX {P : Prop} {x b : Bool} (h : x = b) (h2 : x = !b := by assumption) : P := by
 subst h; cases x <;> cases h2
section
variable {E : Env} {Q : X → S → Prop} {o : Std}
theorem Den.pP {f : FuncId} {az as' : List D} {P : D → Prop} {k : D → T} (ha : AnsP E f as' P) (h : ∀ d, P d → Den E (k d) Q) (he : az = as' := by first | with_reducible rfl | (cases (‹_ = std› : _ = std); rfl)) : Den E (.pcall f az k) Q := .pcallP he ha h
theorem Den.pE {β : Type} (enc : β → D) {f : FuncId} {az as' : List D} {r : β} {k : D → T} (ha : Ans E f as' (enc r)) (h : ∀ v, r = v → Den E (k (enc v)) Q) (he : az = as' := by first | with_reducible rfl | (cases (‹_ = std› : _ = std); rfl)) : Den E (.pcall f az k) Q := .pcallE enc he ha h
theorem Den.t1 {b : Bool} {p q : Unit → T} (h : Den E (p ()) Q) (hb : b = true := by with_reducible assumption) : Den E (.test b p q) Q := .test1 hb h
theorem Den.t0 {b : Bool} {p q : Unit → T} (h : Den E (q ()) Q) (hb : b = false := by with_reducible assumption) : Den E (.test b p q) Q := .test0 hb h
theorem Den.tN1 {b : Bool} {p q : Unit → T} (ho : o = std) (h : Den E (p ()) Q) (hb : b = false := by first | with_reducible assumption | with_reducible rfl) : Den E (.test (o.not b) p q) Q := .testN1 ho hb h
theorem Den.tN0 {b : Bool} {p q : Unit → T} (ho : o = std) (h : Den E (q ()) Q) (hb : b = true := by first | with_reducible assumption | with_reducible rfl) : Den E (.test (o.not b) p q) Q := .testN0 ho hb h
theorem Den.fin {P : S → Prop} {x : X} {s : S} (h : P s) (hx : x = .normal ∨ x = .ret := by first | exact Or.inl rfl | exact Or.inr rfl) : Den E (.done x s) fun x s => (x = .normal ∨ x = .ret) ∧ P s := .done ⟨hx, h⟩
end
structure Pr where
 l : List Nd
 bind : List Bd
 outer : List (List Bd)
 depth : Int
def ctxPush (ctx site depth : Int) : Int :=
 if 0 ≤ ctx ∧ ctx ≤ 22800 ∧ 0 ≤ site ∧ site ≤ 149 then (if depth = 1 then (site + 1) * 151 else if depth = 2 then (site + 1) * 151 + ctx / 151 else 0) else 0
def lamB (x : Nd) : Bool := x.f0 == 3 || x.f0 == 6
def parm (x : Nd) : Int := if x.f0 = 6 then 1 else 0
def seeL (i c : Int) : List Fc := [⟨6, i, c, ⟨0, 0, 0⟩⟩]
def anyB (fs : List Fc) (k n c : Int) : Bool := !(vals fs k n c).isEmpty
def kindB (fs : List Fc) (n c kd : Int) : Bool := (vals fs 0 n c).any fun v => v.k == kd
def riseL (b : Bool) (i c : Int) : List Fc := if b then [⟨7, i, c, ⟨0, 0, 0⟩⟩] else []
def part1 (fs : List Fc) (c kind part tk tn : Int) (v : Ab) : List Fc := if v.k = kind then flowL fs part v.n v.c tk tn c else []
def partsL (fs : List Fc) (kid c kind part tk tn : Int) : List Fc := (vals fs 0 kid c).flatMap (part1 fs c kind part tk tn)
def outer1 (fs : List Fc) (ctx to : Int) (b : Bd) : List Fc := flowL fs (1 + b.f1) b.f0 ctx (1 + b.f1) b.f0 to
def call1S (p : Pr) (fs : List Fc) (i c : Int) (nd : Nd) (v : Ab) : List Fc :=
 if v.k = 1 ∧ anyB fs 0 nd.f2 c = true then
  flowL fs 0 nd.f2 c (1 + parm (rN p.l v.n)) v.n (ctxPush c i p.depth) ++ (rLB p.outer v.n).flatMap (outer1 fs v.c (ctxPush c i p.depth)) ++
   seeL (rN p.l v.n).f1 (ctxPush c i p.depth) ++ flowL fs 0 (rN p.l v.n).f1 (ctxPush c i p.depth) 0 i c ++ riseL (anyB fs 7 (rN p.l v.n).f1 (ctxPush c i p.depth)) i c
 else []
def callS (p : Pr) (fs : List Fc) (i c : Int) : List Fc := (vals fs 0 (rN p.l i).f1 c).flatMap (call1S p fs i c (rN p.l i))
def setS1 (fs : List Fc) (n2 c : Int) (r : Ab) : List Fc := if r.k = 5 then flowL fs 0 n2 c 5 r.n r.c else []
def twoS (p : Pr) (fs : List Fc) (i c : Int) : List Fc :=
 let n := rN p.l i
 (if anyB fs 0 n.f1 c then seeL n.f2 c else []) ++
 (if n.f0 = 4 then callS p fs i c
  else if anyB fs 0 n.f1 c = true ∧ anyB fs 0 n.f2 c = true then
   (if n.f0 = 9 ∨ n.f0 = 13 then flowL fs 0 n.f1 c 3 i c ++ flowL fs 0 n.f2 c 4 i c else []) ++
   (if n.f0 = 17 then (vals fs 0 n.f1 c).flatMap (setS1 fs n.f2 c) else []) ++
   [⟨0, i, c, if n.f0 = 13 then ⟨4, i, c⟩ else if n.f0 = 9 then ⟨3, i, c⟩ else ⟨0, 0, 0⟩⟩]
  else [])
def oneS (p : Pr) (fs : List Fc) (i c : Int) : List Fc :=
 let n := rN p.l i
 if n.f0 = 5 then (if anyB fs 0 n.f1 c then seeL n.f2 c else []) ++ flowL fs 0 n.f1 c 1 i c ++ flowL fs 0 n.f2 c 0 i c
 else if n.f0 = 7 then (if kindB fs n.f1 c 0 then seeL n.f2 c ++ seeL n.f3 c else []) ++ flowL fs 0 n.f2 c 0 i c ++ flowL fs 0 n.f3 c 0 i c
 else if n.f0 = 14 then (if kindB fs n.f1 c 2 then seeL n.f2 c else []) ++ (if kindB fs n.f1 c 4 then seeL n.f3 c else []) ++ partsL fs n.f1 c 4 3 1 i ++ partsL fs n.f1 c 4 4 2 i ++ flowL fs 0 n.f2 c 0 i c ++ flowL fs 0 n.f3 c 0 i c
 else if n.f0 = 10 then partsL fs n.f1 c 3 3 0 i
 else if n.f0 = 11 then partsL fs n.f1 c 3 4 0 i
 else if n.f0 = 16 then partsL fs n.f1 c 5 5 0 i
 else if n.f0 = 15 then (if anyB fs 0 n.f1 c then [⟨0, i, c, ⟨5, i, c⟩⟩] else []) ++ flowL fs 0 n.f1 c 5 i c
 else if n.f0 = 18 then riseL (kindB fs n.f1 c 0) i c
 else if n.f0 = 19 then (if anyB fs 7 n.f1 c then seeL n.f2 c ++ [⟨1, i, c, ⟨0, 0, 0⟩⟩] else []) ++ flowL fs 0 n.f1 c 0 i c ++ flowL fs 0 n.f2 c 0 i c
 else []
def arityM (t : Int) : Nat := if t = 3 ∨ t = 10 ∨ t = 11 ∨ t = 15 ∨ t = 16 ∨ t = 18 then 1 else if t = 4 ∨ t = 5 ∨ t = 6 ∨ t = 8 ∨ t = 9 ∨ t = 13 ∨ t = 17 ∨ t = 19 then 2 else if t = 7 ∨ t = 14 then 3 else 0
def kidsM (n : Nd) : List Int := [n.f1, n.f2, n.f3].take (arityM n.f0)
def kidR1 (fs : List Fc) (t i c : Int) (x : Int × Nat) : List Fc := riseL (anyB fs 7 x.1 c && !(t == 19 && x.2 == 0)) i c
def kidRiseS (fs : List Fc) (n : Nd) (i c : Int) : List Fc := (kidsM n).zipIdx.flatMap (kidR1 fs n.f0 i c)
def nodeS (p : Pr) (fs : List Fc) (i c : Int) : List Fc :=
 let n := rN p.l i
 if n.f0 = 1 then flowL fs (1 + (rB p.bind i).f1) (rB p.bind i).f0 c 0 i c
 else if n.f0 = 2 then [⟨0, i, c, ⟨0, 0, 0⟩⟩]
 else if n.f0 = 12 then [⟨0, i, c, ⟨2, 0, 0⟩⟩]
 else if n.f0 = 3 then [⟨0, i, c, ⟨1, i, c⟩⟩]
 else if n.f0 = 6 then [⟨1, i, c, ⟨1, i, c⟩⟩] ++ seeL n.f2 c ++ flowL fs 0 n.f2 c 0 i c ++ riseL (anyB fs 7 n.f2 c) i c
 else seeL n.f1 c ++ kidRiseS fs n i c ++ (if n.f0 = 4 ∨ n.f0 = 8 ∨ n.f0 = 9 ∨ n.f0 = 13 ∨ n.f0 = 17 then twoS p fs i c else oneS p fs i c)
def pass1S (p : Pr) (fs : List Fc) (f : Fc) : List Fc := if f.k = 6 then nodeS p fs f.n f.c else []
def passS (p : Pr) (fs : List Fc) : List Fc := insAll fs (fs.flatMap (pass1S p fs))
structure Old (p : Pr) (old : List Fc) : Prop where
 up : Up old
 pos : ∀ f ∈ old, 0 ≤ f.v.k
 len : old.length ≤ 2500
 val : ∀ f ∈ old, 0 ≤ f.v.n ∧ f.v.n < p.l.length
 node : ∀ f ∈ old, 0 ≤ f.n ∧ f.n < p.l.length
structure PrOk (p : Pr) : Prop where
 size : p.l.length ≤ 150
 bind : p.bind.length = p.l.length
 outer : p.outer.length = p.l.length
 long : ∀ bs ∈ p.outer, bs.length ≤ 150
 roleB : ∀ b ∈ p.bind, -100000 ≤ b.f1 ∧ b.f1 ≤ 100000
 roleO : ∀ bs ∈ p.outer, ∀ b ∈ bs, -100000 ≤ b.f1 ∧ b.f1 ≤ 100000
theorem len_flatMap_le {α : Type} (g : α → List Fc) (K : Nat) (h : ∀ x, (g x).length ≤ K) (l : List α) : (l.flatMap g).length ≤ l.length * K := by
 induction l with
 | nil => simp
 | cons x l ih => simp only [List.flatMap_cons, List.length_append, List.length_cons, Nat.add_mul, Nat.one_mul]; have := h x; omega
theorem len_flow {p : Pr} {old : List Fc} (h : Old p old) (a b c d e f : Int) : (flowL old a b c d e f).length ≤ 2500 := by
 rw [len_flowL]; exact Nat.le_trans (len_vals _ _ _ _) h.len
theorem len_valsO {p : Pr} {old : List Fc} (h : Old p old) (a b c : Int) : (vals old a b c).length ≤ 2500 := Nat.le_trans (len_vals _ _ _ _) h.len
theorem len_rise (b : Bool) (i c : Int) : (riseL b i c).length ≤ 1 := by unfold riseL; split <;> simp
theorem len_rLB {p : Pr} (h : PrOk p) (i : Int) : (rLB p.outer i).length ≤ 150 := by
 unfold rLB rdG
 by_cases hi : i.toNat < p.outer.length
 · rw [List.getD_eq_getElem?_getD, List.getElem?_eq_getElem hi]; exact h.long _ (List.getElem_mem hi)
 · rw [List.getD_eq_getElem?_getD, List.getElem?_eq_none (by omega)]; simp
theorem len_outer1 {p : Pr} {old : List Fc} (ho : Old p old) (ctx to : Int) (bs : List Bd) (hb : bs.length ≤ 150) : (bs.flatMap (outer1 old ctx to)).length ≤ 375000 := by
 have := len_flatMap_le (outer1 old ctx to) 2500 (fun x => len_flow ho _ _ _ _ _ _) bs
 omega
theorem len_call1S {p : Pr} {old : List Fc} (hp : PrOk p) (ho : Old p old) (i c : Int) (nd : Nd) (v : Ab) : (call1S p old i c nd v).length ≤ 380002 := by
 unfold call1S
 split
 · simp only [List.length_append]
   have h1 := len_flow ho 0 nd.f2 c (1 + parm (rN p.l v.n)) v.n (ctxPush c i p.depth)
   have h2 := len_outer1 ho v.c (ctxPush c i p.depth) _ (len_rLB hp v.n)
   have h3 := len_flow ho 0 (rN p.l v.n).f1 (ctxPush c i p.depth) 0 i c
   have h4 := len_rise (anyB old 7 (rN p.l v.n).f1 (ctxPush c i p.depth)) i c
   have h5 : (seeL (rN p.l v.n).f1 (ctxPush c i p.depth)).length = 1 := rfl
   omega
 · simp
theorem len_callS {p : Pr} {old : List Fc} (hp : PrOk p) (ho : Old p old) (i c : Int) : (callS p old i c).length ≤ 950005000 := by
 have h1 := len_flatMap_le _ 380002 (fun v => len_call1S hp ho i c (rN p.l i) v) (vals old 0 (rN p.l i).f1 c)
 have h2 := len_valsO ho 0 (rN p.l i).f1 c
 have h3 : (vals old 0 (rN p.l i).f1 c).length * 380002 ≤ 2500 * 380002 := Nat.mul_le_mul_right _ h2
 unfold callS
 omega
theorem len_parts {p : Pr} {old : List Fc} (ho : Old p old) (kid c kind part tk tn : Int) : (partsL old kid c kind part tk tn).length ≤ 6250000 := by
 have h1 := len_flatMap_le (part1 old c kind part tk tn) 2500 (fun v => by unfold part1; split; exact len_flow ho _ _ _ _ _ _; simp) (vals old 0 kid c)
 have h2 := len_valsO ho 0 kid c
 have h3 : (vals old 0 kid c).length * 2500 ≤ 2500 * 2500 := Nat.mul_le_mul_right _ h2
 unfold partsL
 omega
theorem Up.adds {l m : List Fc} (h : Up l) {n : List Fc} (e : Mach.insAll l m = n) : Up n := e ▸ h.insAll m
theorem adds_flow {p : Pr} {old l n : List Fc} (hO : Old p old) {a b c d e f : Int} (h : insAll l (flowL old a b c d e f) = n) : l.length ≤ n.length ∧ n.length ≤ l.length + 2500 := by
 subst h; have h1 := len_insAll l (flowL old a b c d e f); have h2 := len_flow hO a b c d e f; omega
theorem adds_see {l n : List Fc} {a b : Int} (h : insAll l (seeL a b) = n) : l.length ≤ n.length ∧ n.length ≤ l.length + 1 := by
 subst h; exact len_insAll l (seeL a b)
theorem call1S_ok {p : Pr} {old : List Fc} {i c : Int} {nd : Nd} {v : Ab} {f : Nd} {to : Int} {a1 b1 s1 t1 : List Fc} (h1 : v.k = 1) (h2 : anyB old 0 nd.f2 c = true) (hf : rN p.l v.n = f) (ht : to = ctxPush c i p.depth)
  (e1 : b1 = insAll a1 (flowL old 0 nd.f2 c (1 + parm (rN p.l v.n)) v.n to ++ (rLB p.outer v.n).flatMap (outer1 old v.c to))) (e2 : insAll b1 (seeL f.f1 to) = s1) (e3 : insAll s1 (flowL old 0 f.f1 to 0 i c) = t1) :
  insAll a1 (call1S p old i c nd v) = insAll t1 (riseL (anyB old 7 f.f1 to) i c) := by
 subst ht; subst hf; subst e3; subst e2; subst e1
 unfold call1S
 rw [if_pos ⟨h1, h2⟩]
 simp only [insAll_append]
theorem val_in {p : Pr} {old : List Fc} (hO : Old p old) {k n c : Int} {a : List Ab} {i : Int} {y : Ab} (e : a = vals old k n c) (h0 : 0 ≤ i) (h1 : i < a.length) (hy : rA a i = y) : 0 ≤ y.n ∧ y.n < p.l.length := by
 subst e; subst hy
 have h : rA (vals old k n c) i ∈ vals old k n c := rdG_mem h0 h1
 exact hO.val _ (mem_vals.1 h)
theorem role_in {p : Pr} (hP : PrOk p) {i j : Int} {b : Bd} (h0 : 0 ≤ i) (h1 : i < p.l.length) (h2 : 0 ≤ j) (h3 : j < (rLB p.outer i).length) (hy : rB (rLB p.outer i) j = b) : -100000 ≤ b.f1 ∧ b.f1 ≤ 100000 := by
 subst hy
 have h : rLB p.outer i ∈ p.outer := rdG_mem h0 (by rw [hP.outer]; exact h1)
 exact hP.roleO _ h _ (rdG_mem h2 h3)
theorem adds_call {p : Pr} {old l n : List Fc} (hP : PrOk p) (hO : Old p old) {i c : Int} (h : insAll l (callS p old i c) = n) : l.length ≤ n.length ∧ n.length ≤ l.length + 950005000 := by
 subst h; have h1 := len_insAll l (callS p old i c); have h2 := len_callS hP hO i c; omega
theorem adds_parts {p : Pr} {old l n : List Fc} (hO : Old p old) {a b c d e f : Int} (h : insAll l (partsL old a b c d e f) = n) : l.length ≤ n.length ∧ n.length ≤ l.length + 6250000 := by
 subst h; have h1 := len_insAll l (partsL old a b c d e f); have h2 := len_parts hO a b c d e f; omega
theorem adds_one {l n : List Fc} {f : Fc} (h : ins l f = n) : l.length ≤ n.length ∧ n.length ≤ l.length + 1 := by
 subst h; exact len_ins l f
theorem Up.add1 {l n : List Fc} (hu : Up l) {f : Fc} (h : Mach.ins l f = n) : Up n := h ▸ hu.ins f
theorem len_set1 {p : Pr} {old : List Fc} (ho : Old p old) (n2 c : Int) (v : Ab) : (setS1 old n2 c v).length ≤ 2500 := by
 unfold setS1; split
 · exact len_flow ho _ _ _ _ _ _
 · simp
theorem arityM_le (t : Int) : arityM t ≤ 3 := by unfold arityM; (repeat' split) <;> omega
theorem len_kidsM (n : Nd) : (kidsM n).length = arityM n.f0 := by unfold kidsM; have := arityM_le n.f0; simp; omega
theorem len_kidR1 (fs : List Fc) (t i c : Int) (x : Int × Nat) : (kidR1 fs t i c x).length ≤ 1 := len_rise _ _ _
theorem insAll_cons (l : List Fc) (f : Fc) (m : List Fc) : insAll l (f :: m) = insAll (ins l f) m := rfl
theorem role_bind {p : Pr} (hP : PrOk p) {i : Int} {b : Bd} (h : 0 ≤ i ∧ i < p.l.length) (hy : rB p.bind i = b) : -100000 ≤ b.f1 ∧ b.f1 ≤ 100000 := by
 subst hy
 exact hP.roleB _ (rdG_mem h.1 (by rw [hP.bind]; exact h.2))
theorem rd_zipIdx {l : List Int} {i : Int} (h0 : 0 ≤ i) (h1 : i < l.length) : rdG (0, 0) l.zipIdx i = (rI l i, i.toNat) := by
 have h : i.toNat < l.length := by omega
 unfold rdG rI rdG
 rw [List.getD_eq_getElem?_getD, List.getD_eq_getElem?_getD, List.getElem?_eq_getElem (by simpa using h), List.getElem?_eq_getElem h]
 simp
theorem kidR_t {old : List Fc} {a1 v : List Fc} {y0 i c y a : Int} (hb : anyB old 7 y c = true) (hk : ¬(y0 = 19 ∧ a.toNat = 0)) (hv : ins a1 ⟨7, i, c, ⟨0, 0, 0⟩⟩ = v) : v = insAll a1 (riseL (anyB old 7 (y, a.toNat).1 c && !(y0 == 19 && (y, a.toNat).2 == 0)) i c) := by
 subst hv
 have h : (anyB old 7 (y, a.toNat).1 c && !(y0 == 19 && (y, a.toNat).2 == 0)) = true := by
  simp only [hb, Bool.true_and, Bool.not_eq_true', Bool.and_eq_false_iff, beq_eq_false_iff_ne, ne_eq]
  omega
 rw [h]; rfl
theorem kidR_f {old : List Fc} {a1 : List Fc} {y0 i c y a : Int} (hk : anyB old 7 y c = false ∨ (y0 = 19 ∧ a.toNat = 0)) : a1 = insAll a1 (riseL (anyB old 7 (y, a.toNat).1 c && !(y0 == 19 && (y, a.toNat).2 == 0)) i c) := by
 have h : (anyB old 7 (y, a.toNat).1 c && !(y0 == 19 && (y, a.toNat).2 == 0)) = false := by
  rcases hk with hk | ⟨h1, h2⟩
  · simp [hk]
  · simp [h1, h2]
 rw [h]; rfl
inductive Lw (tk : List Nat) : Tok → Nat → Prop
 | nil : Lw tk .nil 0
 | own (i n) (h : tk[i]? = some n) : Lw tk (.own i) n
theorem Lw.app {tk t n} (h : Lw tk t n) (m : Nat) : ∃ t' tk', appTok t n m tk = some (t', tk') ∧ Lw tk' t' (n + m) := by
 cases h with
 | nil =>
   by_cases h : m = 0
   · subst h; exact ⟨.nil, tk, by simp [appTok], .nil⟩
   · exact ⟨.own tk.length, tk ++ [0 + m], by simp [appTok, h], .own _ _ (by simp)⟩
 | own i n h => exact ⟨.own i, tk.set i (n + m), by simp [appTok, h], .own _ _ (by simp [(List.getElem?_eq_some_iff.1 h).1])⟩
section
variable {E : Env} {Q : X → S → Prop} {o : Std}
theorem Den.app1w {t : Tok} {n m : Nat} {tk : List Nat} {k : Tok → List Nat → T} (h : Lw tk t n) (hk : ∀ t' tk', Lw tk' t' (n + m) → Den E (k t' tk') Q) : Den E (.app t n m tk k) Q := by
 obtain ⟨t', tk', h1, h2⟩ := h.app m
 exact Den.app h1 (hk t' tk' h2)
theorem Gns.mono {f : FuncId} {xs : List D} {out : List Box} {tk : List Nat} {R R2 : List D → List Box → List Nat → List Box → Prop} (h : Gns E f xs out tk R) (hm : ∀ ds o t l, R ds o t l → R2 ds o t l) : Gns E f xs out tk R2 := by
 obtain ⟨fi, h1, h2, n, q, h3, h4⟩ := h
 exact ⟨fi, h1, h2, n, q, h3, hm _ _ _ _ h4⟩
theorem Gns.mkA (ho : o = std) {f : FuncId} {xs : List D} {out : List Box} {tk : List Nat} {R : List D → List Box → List Nat → List Box → Prop} (fi : FnI) (hf : E.fn f = some fi) (hn : Nat.ble xs.length fi.ntmps = true)
  (h : Den E (treeA o E fi.keep fi.body (enterS fi xs out tk) .done) fun x s => (x = .normal ∨ x = .ret) ∧ ∃ ds, resD E s fi.res = some ds ∧ R ds s.out s.tk s.loc) (hx : E.extc f = none := by rfl) : Gns E f xs out tk R :=
 .of hx hf (Nat.le_of_ble_eq_true hn) (by subst ho; rwa [treeA_std] at h)
def Apart (t u : Tok) : Prop := ∀ i, t = .own i → u ≠ .own i
theorem Den.app12 {t u : Tok} {n m k0 : Nat} {tk : List Nat} {k : Tok → List Nat → T} (hu : Lw tk u k0) (hp : Apart t u) (h : Lv tk t n) (hk : ∀ t' tk', Lv tk' t' (n + m) → Lw tk' u k0 → Apart t' u → Den E (k t' tk') Q) : Den E (.app t n m tk k) Q := by
 have fresh : ∀ x : Nat, Lw (tk ++ [x]) u k0 ∧ Apart (.own tk.length) u := fun x => by
  cases hu with
  | nil => exact ⟨.nil, fun i _ h => by cases h⟩
  | own i _ hi =>
    have := (List.getElem?_eq_some_iff.1 hi).1
    exact ⟨.own _ _ (by rw [List.getElem?_append_left this]; exact hi), fun j h1 h2 => by injection h1 with h1; injection h2 with h2; omega⟩
 have new : ∀ x : Nat, Lv (tk ++ [x]) (.own tk.length) x := fun x => .own _ _ (by simp)
 cases h with
 | nil =>
   by_cases h : m = 0
   · subst h; exact Den.app (t' := .nil) (tk' := tk) (by simp [appTok]) (hk _ _ .nil hu hp)
   · exact Den.app (t' := .own tk.length) (tk' := tk ++ [0 + m]) (by simp [appTok, h]) (hk _ _ (new _) (fresh _).1 (fresh 0).2)
 | cap n =>
   by_cases h : m = 0
   · subst h; exact Den.app (t' := .cap) (tk' := tk) (by simp [appTok]) (hk _ _ (.cap _) hu hp)
   · exact Den.app (t' := .own tk.length) (tk' := tk ++ [n + m]) (by simp [appTok, h]) (hk _ _ (new _) (fresh _).1 (fresh 0).2)
 | own i n h =>
   have hi := (List.getElem?_eq_some_iff.1 h).1
   refine Den.app (t' := .own i) (tk' := tk.set i (n + m)) (by simp [appTok, h]) (hk _ _ (.own _ _ (by simp [hi])) ?_ hp)
   cases hu with
   | nil => exact .nil
   | own j _ hj =>
     have : i ≠ j := fun e => hp i rfl (by rw [e])
     exact .own _ _ (by rw [List.getElem?_set_ne this]; exact hj)
def cells5 (a b : Box) (d : Int) (c : Box) (t : Tok) (e : Box) : List D := [.sl .ro 7 a, .sl .ro 2 b, .int .i64 d, .sl .ro 6 c, .sl t 6 e]
theorem setBox_tk (s : S) (r : Ref) (b : Box) (tk : List Nat) : { s.setBox r b with tk := tk } = ({ s with tk := tk } : S).setBox r b := by cases r <;> rfl
theorem setBox_tkv (s : S) (r : Ref) (b : Box) : (s.setBox r b).tk = s.tk := by cases r <;> rfl
theorem Den.gc5 {s : S} {dst : Option Tmp} {f : FuncId} {args xs : List D} {k : S → T} {a b c e e' : Box} {d : Int} {t : Tok} {β : Type} (enc : β → D) {r : β} (rf : Ref)
  (hbox : s.box rf = some [cells5 a b d c t e]) (hl : Lw s.tk t e.length) (ha : argsFor 0 args = some xs) (hr : refsOf args = [rf])
  (hg : ∀ t0 tk0, Lw tk0 t0 e.length → Gns E f xs [[cells5 a b d c t0 e]] tk0 fun ds out tk' loc => resOf ds = some (enc r) ∧ ∃ t', out = [[cells5 a b d c t' e']] ∧ Lw tk' t' e'.length)
  (hk : ∀ v t' tk', r = v → Lw tk' t' e'.length → Den E (k ((({ s with tk := tk' } : S).setBox rf [cells5 a b d c t' e']).put dst (enc v))) Q) : Den E (gcallT s dst f args k) Q := by
 generalize hn1 : e.length = n1 at hl hg
 generalize hn2 : e'.length = n2 at hg hk
 unfold gcallT
 simp only [ha, hr, boxesOf, hbox, Option.map_some]
 cases hl with
 | nil =>
   have e0 : toksOf (List.flatten [cells5 a b d c .nil e]) = [] := rfl
   simp only [e0]
   simp only [cells5, renums, renum, D.cell, if_true, Option.map_some, noDup, Bool.not_false, Bool.and_self, List.contains_nil, List.map_cons, List.map_nil]
   refine Den.call ((hg .nil [] (by simpa using Lw.nil)).mono ?_)
   rintro ds out tk' loc ⟨h1, t', rfl, h2⟩
   cases h2 with
   | nil =>
     simp only [leave, h1, unbox, cells5, Option.map_some, renums, renum, D.cell, if_true, List.length_cons, List.length_nil, putBoxes, List.drop_zero, putToks, setBox_tk]
     exact hk r .nil _ rfl (by simpa using Lw.nil)
   | own j n h =>
     simp only [leave, h1, unbox, cells5, Option.map_some, renums, renum, D.cell, if_true, toBack, List.length_cons, List.length_nil, Nat.not_lt_zero, if_false, putBoxes, List.drop_zero, putToks, setBox_tk, setBox_tkv, Nat.sub_zero]
     exact hk r _ _ rfl (.own _ _ (by rw [List.getElem?_append_right (by omega)]; simpa using h))
 | own i _ h =>
   have e0 : toksOf (List.flatten [cells5 a b d c (.own i) e]) = [i] := rfl
   simp only [e0]
   have hi : i < s.tk.length := (List.getElem?_eq_some_iff.1 h).1
   have hg0 : s.tk.getD i 0 = n1 := by rw [List.getD_eq_getElem?_getD, h]; rfl
   have hix : List.idxOf? i [i] = some 0 := by simp [List.idxOf?, List.findIdx?, List.findIdx?.go]
   simp only [cells5, renums, renum, D.cell, if_true, Option.map_some, noDup, hix, Bool.not_false, Bool.and_self, List.contains_nil, List.map_cons, List.map_nil, hg0]
   refine Den.call ((hg (.own 0) [n1] (.own _ _ rfl)).mono ?_)
   rintro ds out tk' loc ⟨h1, t', rfl, h2⟩
   cases h2 with
   | nil =>
     simp only [leave, h1, unbox, cells5, Option.map_some, renums, renum, D.cell, if_true, List.length_cons, List.length_nil, putBoxes, setBox_tk]
     exact hk r .nil _ rfl (by simpa using Lw.nil)
   | own j n h =>
     simp only [leave, h1, unbox, cells5, Option.map_some, renums, renum, D.cell, if_true, toBack, List.length_cons, List.length_nil, putBoxes, setBox_tk]
     refine hk r _ _ rfl (.own _ _ ?_)
     by_cases hj : j = 0
     · subst hj
       cases tk' with
       | nil => simp at h
       | cons x tk' =>
         simp only [List.getElem?_cons_zero, Option.some.injEq] at h
         subst h
         simp only [Nat.zero_add, Nat.lt_irrefl, Nat.zero_lt_one, if_true, List.getD_cons_zero, putToks]
         rw [List.getElem?_append_left (by simpa using hi)]
         simp [hi]
     · rw [if_neg (by omega), List.getElem?_append_right (by rw [putToks_length]; omega), putToks_length, List.getElem?_drop]
       rw [← h]; congr 1; simp; omega
abbrev FR (o : Std) (l : List Nd) (us : List Bd) (dp : Int) (fs m' : List Fc) (d : D) : List D → List Box → List Nat → List Box → Prop := fun ds out tk' loc =>
 resOf ds = some d ∧ ∃ t' e', out = [[cells5 (o.bx fun _ => eNd l) (o.bx fun _ => eBd us) dp (o.bx fun _ => eFc fs) t' e']] ∧ e' = (o.bx fun _ => eFc m') ∧ Lw tk' t' e'.length
theorem Den.gcF (ho : o = std) {l : List Nd} {us : List Bd} {dp : Int} {fs m m' : List Fc} {t : Tok} {s : S} {dst : Option Tmp} {f : FuncId} {args xs : List D} {k : S → T} {β : Type} (enc : β → D) {r : β} (rf : Ref)
  (hbox : s.box rf = some [cells5 (o.bx fun _ => eNd l) (o.bx fun _ => eBd us) dp (o.bx fun _ => eFc fs) t (o.bx fun _ => eFc m)]) (ha : argsFor 0 args = some xs) (hr : refsOf args = [rf])
  (hg : ∀ t0 tk0, Lw tk0 t0 (o.bx fun _ => eFc m).length → Gns E f xs [[cells5 (o.bx fun _ => eNd l) (o.bx fun _ => eBd us) dp (o.bx fun _ => eFc fs) t0 (o.bx fun _ => eFc m)]] tk0 (FR o l us dp fs m' (enc r)))
  (hl : Lw s.tk t (o.bx fun _ => eFc m).length)
  (hk : ∀ v t' tk', r = v → Lw tk' t' (o.bx fun _ => eFc m').length → Den E (k ((({ s with tk := tk' } : S).setBox rf [cells5 (o.bx fun _ => eNd l) (o.bx fun _ => eBd us) dp (o.bx fun _ => eFc fs) t' (o.bx fun _ => eFc m')]).put dst (enc v))) Q) : Den E (o.gc s dst f args k) Q := by
 subst ho
 refine Den.gc5 enc rf hbox hl ha hr (fun t0 tk0 h0 => (hg t0 tk0 h0).mono ?_) hk
 rintro ds out tk' loc ⟨h1, t', e', h2, rfl, h3⟩
 exact ⟨h1, t', h2, h3⟩
theorem Lw.len {tk : List Nat} {t : Tok} {n n' : Nat} (h : Lw tk t n) (e : n = n') : Lw tk t n' := e ▸ h
end
end Go.Mach
