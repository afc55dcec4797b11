/- What the statements share: part 12 of a proof by an executable machine over the program's code. -/
import Derived.Test.YtljpfhpcbfpooaaGreatDoorMc11
import Derived.KernelRfl
set_option linter.unusedVariables false
set_option linter.unusedSimpArgs false
namespace Go.Mach
open Go
structure Std where
 neg : IntKind → Int → Int
 conv : IntKind → Int → Int
 not : Bool → Bool
 beq : Bool → Bool → Bool
 add : IntKind → Int → Int → Int
 sub' : IntKind → Int → Int → Int
 mul : IntKind → Int → Int → Int
 quo : IntKind → Int → Int → Int
 rem : Int → Int → Int
 nz : Int → Bool
 eq : Int → Int → Bool
 lt : Int → Int → Bool
 le : Int → Int → Bool
 inStr : ByteArray → Int → Bool
 byte : ByteArray → Int → Int
 size : ByteArray → Int
 sub : ByteArray → Int → Int → ByteArray
 cat : ByteArray → ByteArray → ByteArray
 catOk : ByteArray → ByteArray → Bool
 eqS : ByteArray → ByteArray → Bool
 makeOk : Int → Int → Nat → Bool
 rep : Int → List D → Box
 nat : Int → Nat
 len : Box → Int
 lenN : Box → Nat
 cut : Box → Int → Int → Box
 cutOk : Int → Int → Int → Bool
 cutOk3 : Int → Int → Int → Int → Bool
 empty : Box → Bool
 app : Box → Box → Box
 appOk : Box → Box → Nat → Bool
 setAt : Box → Int → List D → Box
 bx : (Unit → Box) → Box
 iv : (Unit → Int) → Int
 sv : (Unit → ByteArray) → ByteArray
 gc : S → Option Tmp → FuncId → List D → (S → T) → T
 and : Bool → Bool → Bool
 eqBy : ByteArray → ByteArray → Bool
 dr : (Unit → Bool) → Bool
 gtS : ByteArray → ByteArray → Bool
 ofB : Box → ByteArray
 oc : S → Option Tmp → FuncId → List D → (S → T) → T
 nn : Int → Bool
 cutT : Tok → Int → Tok
 shr : IntKind → Int → Int → Int
 andI : IntKind → Int → Int → Int
 xorI : IntKind → Int → Int → Int
def std : Std where
 neg k n := k.wrap (0 - n)
 conv k n := k.wrap n
 not b := !b
 beq a b := a == b
 add k a b := k.wrap (a + b)
 sub' k a b := k.wrap (a - b)
 mul k a b := k.wrap (a * b)
 quo k a b := k.wrap (a.tdiv b)
 rem a b := a.tmod b
 nz b := decide (b ≠ 0)
 eq a b := a == b
 lt a b := decide (a < b)
 le a b := decide (a ≤ b)
 inStr a j := decide (0 ≤ j) && decide (j < a.size)
 byte a j := (a.get! j.toNat).toNat
 size a := a.size
 sub a l u := a.extract l.toNat u.toNat
 cat a b := a ++ b
 catOk a b := decide (a.size + b.size ≤ 2 ^ 62)
 eqS a b := a.toList == b.toList
 makeOk n m b := decide (0 ≤ n) && (decide (m = n) && (decide (n * b ≤ 2 ^ 46) && decide (n ≤ 2 ^ 46)))
 rep n z := List.replicate n.toNat z
 nat n := n.toNat
 len es := es.length
 lenN es := es.length
 cut es l u := (es.take u.toNat).drop l.toNat
 cutOk l u n := decide (0 ≤ l) && (decide (l ≤ u) && decide (u ≤ n))
 cutOk3 l u n m := decide (0 ≤ l) && (decide (l ≤ u) && (decide (u ≤ n) && decide (m = u)))
 empty es := es.isEmpty
 app es new := es ++ new
 appOk es new b := decide ((es.length + new.length) * b ≤ 2 ^ 47) && decide (es.length + new.length ≤ 2 ^ 47)
 setAt es j cs := es.set j.toNat cs
 bx f := f ()
 iv f := f ()
 sv f := f ()
 gc := gcallT
 and a b := a && b
 eqBy a b := a == b
 dr f := f ()
 gtS a b := Mach.gtS a b
 ofB es := ofBytes es
 oc := ocallT
 nn b := decide (0 ≤ b)
 cutT t l := cutTok t l
 shr k a b := Mach.shrI k a b
 andI k a b := Mach.andI k a b
 xorI k a b := Mach.xorI k a b
def eqA (h : Std) : List D → List D → Option Bool
 | [], [] => some true
 | .int k a :: x, .int k' b :: y => if k = k' then (eqA h x y).map (h.and (h.eq a b)) else none
 | .bool a :: x, .bool b :: y => (eqA h x y).map (h.and (h.beq a b))
 | .str a :: x, .str b :: y => (eqA h x y).map (h.and (h.eqBy a b))
 | _, _ => none
theorem eqA_std : ∀ a b : List D, eqA std a b = eqD a b
 | [], [] => rfl
 | [], y :: b => by cases y <;> rfl
 | x :: a, [] => by cases x <;> rfl
 | x :: a, y :: b => by
   have ih := eqA_std a b
   cases x <;> cases y <;> first | rfl | (unfold eqA eqD; rw [ih]; rfl)
def callA (h : Std) (E : Env) (s : S) (dst : Option Tmp) (f : FuncId) (args : List D) (k : S → T) : T :=
 match E.ext f, E.fn f with
 | some _, _ => match argsFor 0 args, refsOf args with
   | some as_, [] => .ext f as_ fun d => k (s.put dst d)
   | _, _ => .fail
 | none, some fi => if fi.ptr then (if fi.own then h.oc s dst f (movesD (fi.params.map fun t => (E.ty t).k) args) k else h.gc s dst f args k) else
  match argsOf fi.nw args, refsOf args with
  | some as_, [] => .pcall f as_ fun d => k (s.put dst d)
  | _, _ => .fail
 | none, none => .fail
def binA (h : Std) (op : BinOp) (x y : D) (k : D → T) : T :=
 match x, y with
 | .int ik a, .int jk b =>
   match op with
   | .shr => .need (h.nn b) (k (.int ik (h.shr ik a b)))
   | op => if ik = jk then
     match op with
     | .quo => .need (h.nz b) (k (.int ik (h.quo ik a b)))
     | .rem => .need (h.nz b) (k (.int ik (h.rem a b)))
     | .add => k (.int ik (h.add ik a b))
     | .sub => k (.int ik (h.sub' ik a b))
     | .mul => k (.int ik (h.mul ik a b))
     | .eql => k (.bool (h.eq a b))
     | .neq => k (.bool (h.not (h.eq a b)))
     | .lss => k (.bool (h.lt a b))
     | .leq => k (.bool (h.le a b))
     | .gtr => k (.bool (h.lt b a))
     | .geq => k (.bool (h.le b a))
     | .and => k (.int ik (h.andI ik a b))
     | .xor => k (.int ik (h.xorI ik a b))
     | _ => .fail
   else .fail
 | .str a, .str b =>
   match op with
   | .add => .need (h.catOk a b) (k (.str (h.cat a b)))
   | .eql => k (.bool (h.eqS a b))
   | .neq => k (.bool (h.not (h.eqS a b)))
   | .gtr => k (.bool (h.gtS a b))
   | _ => .fail
 | _, _ => .fail
def opA (h : Std) (E : Env) (o : Oper) (s : S) (K : S → T) : T :=
 match o.op with
 | .move x | .assign x => K (s.put o.dst (moveD (E.ty o.type).k (s.ev x)))
 | .pick c a b => match s.ev c with
   | .bool v => .test v (fun _ => K (s.put o.dst (s.ev a))) (fun _ => K (s.put o.dst (s.ev b)))
   | _ => .fail
 | .alloc t => if (E.ty t).k.known && decide (0 < (E.ty t).zero.length) then K (s.alloc o.dst [(E.ty t).zero] (.pbx · 0)) else .fail
 | .box _ x => if (s.ev x).cells.all D.atom && decide (0 < (s.ev x).cells.length) then K (s.alloc o.dst [(s.ev x).cells] (.pbx · 0)) else .fail
 | .load t a =>
   let i := E.ty t
   match s.ev a with
   | .pel cs off => if i.fits off cs.length then K (s.put o.dst (part i.k.isSt i.size cs off)) else .fail
   | .pbx r off => match s.box r with
     | some [cs] => if i.fits off cs.length then K (s.put o.dst (part i.k.isSt i.size cs off)) else .fail
     | _ => .fail
   | .pba r z j off => match s.box r with
     | some es => if i.fits off z then .fetch es j fun cs => K (s.put o.dst (part i.k.isSt i.size cs off)) else .fail
     | none => .fail
   | _ => .fail
 | .store t a x =>
   let new := (s.ev x).cells
   if (E.ty t).k.known && (decide (new.length = (E.ty t).size) && new.all D.atom) then
    match s.ev a with
    | .pbx r off => match s.box r with
      | some [cs] => if off + new.length ≤ cs.length then K ((s.setBox r [patch cs off new]).put o.dst .junk) else .fail
      | _ => .fail
    | .pba r z j off => match s.box r with
      | some es => if off + new.length ≤ z then .fetch es j fun cs => K ((s.setBox r (h.setAt es j (patch cs off new))).put o.dst .junk) else .fail
      | none => .fail
    | _ => .fail
   else .fail
 | .binOp op t x y _ => match op, s.ev x, s.ev y with
   | .eql, .agg a, .agg b => match (E.ty t).eq && shapeD (E.ty t).zero a, eqA h a b with
     | true, some v => K (s.put o.dst (.bool v))
     | _, _ => .fail
   | .neq, .agg a, .agg b => match (E.ty t).eq && shapeD (E.ty t).zero a, eqA h a b with
     | true, some v => K (s.put o.dst (.bool (h.not v)))
     | _, _ => .fail
   | .eql, .bool a, .bool b => match (E.ty t).k with
     | .bool => K (s.put o.dst (.bool (h.beq a b)))
     | _ => .fail
   | .neq, .bool a, .bool b => match (E.ty t).k with
     | .bool => K (s.put o.dst (.bool (h.not (h.beq a b))))
     | _ => .fail
   | op, a, b => binA h op a b fun d => K (s.put o.dst d)
 | .unOp op _ x => match op, s.ev x with
   | .neg, .int k n => K (s.put o.dst (.int k (h.neg k n)))
   | .not, .bool b => K (s.put o.dst (.bool (h.not b)))
   | _, _ => .fail
 | .convert src dst x => match (E.ty src).k, (E.ty dst).k, s.ev x with
   | .int _, .int k, .int _ n => K (s.put o.dst (.int k (h.conv k n)))
   | .str, .str, .str a => K (s.put o.dst (.str a))
   | .sl e _ _, .str, .sl _ z es => if (E.ty e).k.isU8 && (z == 1 && byteRow es) then K (s.put o.dst (.str (h.ofB es))) else .fail
   | _, _, _ => .fail
 | .indexAddr t x i => match (E.ty t).k, s.ev x, idx (s.ev i) with
   | .sl _ z _, .sl _ z' es, some j => if z' = z then .fetch es j fun cs => K (s.put o.dst (.pel cs 0)) else .fail
   | .sl _ z _, .asl r z' n, some j => match s.box r with
     | some es => if z' = z then .fetch es j fun _ => K (s.put o.dst (.pba r z j 0)) else .fail
     | none => .fail
   | _, _, _ => .fail
 | .index t x i => match (E.ty t).k, s.ev x, idx (s.ev i) with
   | .str, .str a, some j => .need (h.inStr a j) (K (s.put o.dst (.int .u8 (h.byte a j))))
   | _, _, _ => .fail
 | .fieldAddr t x f => match (E.ty t).k with
   | .st fs => match fs[f]? with
     | some (o', sz, _) => if sz = 0 then .fail else match s.ev x with
       | .pel cs off => K (s.put o.dst (.pel cs (off + o')))
       | .pbx r off => K (s.put o.dst (.pbx r (off + o')))
       | .pba r z j off => K (s.put o.dst (.pba r z j (off + o')))
       | _ => .fail
     | none => .fail
   | _ => .fail
 | .field t x f => match (E.ty t).k, s.ev x with
   | .st fs, .agg cs => match fs[f]? with
     | some (o', sz, ag) => if o' + sz ≤ cs.length ∧ 0 < sz then K (s.put o.dst (part ag sz cs o')) else .fail
     | none => .fail
   | _, _ => .fail
 | .nilCheck x => match s.ev x with
   | .pbx r off => K (s.put o.dst (.pbx r off))
   | .pel cs off => K (s.put o.dst (.pel cs off))
   | .pba r z j off => K (s.put o.dst (.pba r z j off))
   | .fn f c => K (s.put o.dst (.fn f c))
   | _ => .fail
 | .extract x i => match s.ev x with
   | .tup vs => if i < vs.length then K (s.put o.dst (vs.getD i .junk)) else .fail
   | _ => .fail
 | .build t ps => match (E.ty t).k with
   | .st fs => match opT.fillD fs ((E.ty t).zero) (ps.toList.map fun p => (p.1, (s.ev p.2).cells.map D.plain)) with
     | some cs => K (s.put o.dst (.agg cs))
     | none => .fail
   | _ => .fail
 | .buildSlice t n ps => match (E.ty t).k with
   | .sl e z _ => if (E.ty e).k.known && (decide ((E.ty e).zero.length = z) && decide (n * z ≤ 2 ^ 20)) then
       match opT.fillS z (List.replicate n (E.ty e).zero) (ps.toList.map fun p => (p.1, (s.ev p.2).cells.map D.ro)) with
       | some es => K (s.put o.dst (.sl .cap z es))
       | none => .fail
     else .fail
   | _ => .fail
 | .makeSlice t l c => match (E.ty t).k, s.ev l, s.ev c with
   | .sl e z b, .int .i64 n, .int .i64 m => if (E.ty e).k.known && decide ((E.ty e).zero.length = z) then
       .need (h.makeOk n m b) (K (s.alloc o.dst (h.rep n (E.ty e).zero) (.asl · z (h.nat n))))
     else .fail
   | _, _, _ => .fail
 | .slice t x lo hi mx => match (E.ty t).k, s.ev x with
   | .sl _ z _, .sl tok z' es =>
     match optI s 0 lo, optI s (h.len es) hi with
     | some l, some u =>
       if z' = z then
        match mx with
        | none => match hi with
          | none => .need (h.cutOk l u (h.len es)) (K (s.put o.dst (.sl (h.cutT tok l) z (h.cut es l u))))
          | some _ => .need (h.cutOk l u (h.len es)) (K (s.put o.dst (.sl .ro z (h.cut es l u))))
        | some m => match hi, idx (s.ev m) with
          | some _, some m => .need (h.cutOk3 l u (h.len es) m) (K (s.put o.dst (.sl .cap z (h.cut es l u))))
          | _, _ => .fail
       else .fail
     | _, _ => .fail
   | .str, .str a =>
     match optI s 0 lo, optI s (h.size a) hi, mx with
     | some l, some u, none => .need (h.cutOk l u (h.size a)) (K (s.put o.dst (.str (h.sub a l u))))
     | _, _, _ => .fail
   | _, _ => .fail
 | .makeFunc (.func f) first cap => if first.size = 0 then K (s.put o.dst (.fn f (cap.toList.map s.ev))) else .fail
 | .call c => match c.callee with
   | .builtin .len => match c.argTypes.toList.map (fun t => (E.ty t).k), c.args.toList.map s.ev with
     | [.sl _ _ _], [.sl _ _ es] => K (s.put o.dst (.int .i64 (h.len es)))
     | [.str], [.str a] => K (s.put o.dst (.int .i64 (h.size a)))
     | [.sl _ _ _], [.asl r _ n] => K (s.put o.dst (.int .i64 n))
     | _, _ => .fail
   | .builtin .append => match c.argTypes.toList.map (fun t => (E.ty t).k), c.args.toList.map s.ev with
     | [.sl e z b, .sl _ _ _], [.sl tok z' es, .sl _ z'' new] => if (decide (z' = z) || decide (tok = .nil)) && (decide (z'' = z) || h.empty new) then
       .need (h.appOk es new b) (.app tok (h.lenN es) (h.lenN new) s.tk fun tok' tk' => K ({ s with tk := tk' }.put o.dst (.sl tok' z (h.app es new))))
      else .fail
     | _, _ => .fail
   | .value g => match s.ev g with
     | .fn f cap => callA h E s o.dst f (c.args.toList.map s.ev ++ cap) K
     | _ => .fail
   | _ => .fail
 | _ => .fail
def opsA (h : Std) (E : Env) (all : List Oper) : List Oper → S → (S → T) → T
 | [], s, K => K s
 | o :: os, s, K =>
   match o.guard with
   | none => opA h E o s fun s' => opsA h E all os s' K
   | some (j, want) =>
     match (all[j]?).bind (·.dst) with
     | some d => match s.t.getD d .junk with
       | .bool v => match want with
         | true => .test v (fun _ => opA h E o s fun s' => opsA h E all os s' K) (fun _ => opsA h E all os (s.put o.dst (.tup [])) K)
         | false => .test (h.not v) (fun _ => opA h E o s fun s' => opsA h E all os s' K) (fun _ => opsA h E all os (s.put o.dst (.tup [])) K)
       | e => if e.skipped then opsA h E all os (s.put o.dst (.tup [])) K else .fail
     | none => .fail
def treeA (h : Std) (E : Env) (kp : Nat → List Nat) : Code → S → (X → S → T) → T
 | .skip, s, K => K .normal s
 | .ret, s, K => K .ret s
 | .exit i, s, K => K (.exit i) s
 | .seq a b, s, K => treeA h E kp a s fun e s' => match e with
   | .normal => treeA h E kp b s' K
   | e => K e s'
 | .cond c a b, s, K => match s.ev c with
   | .bool v => .test v (fun _ => treeA h E kp a s K) (fun _ => treeA h E kp b s K)
   | _ => .fail
 | .block i b, s, K => treeA h E kp b s fun e s' => match e with
   | .exit j => if j = i then K .normal s' else K (.exit j) s'
   | e => K e s'
 | .loop b, s, K => .loop b kp (clean (kp (firstRegion b)) s.loc.length s) K
 | .region _ ops draw, s, K => match draw with
   | false => opsA h E ops.toList ops.toList s (K .normal)
   | true => .need (h.dr fun _ => drawOk E ops.toList) (opsA h E ops.toList ops.toList s (K .normal))
 | _, _, _ => .fail
theorem binA_std (op : BinOp) (x y : D) (k : D → T) : binA std op x y k = binT op x y k := by
 cases x <;> cases y <;> first | rfl | (cases op <;> rfl)
theorem opA_std (E : Env) (o : Oper) (s : S) (K : S → T) : opA std E o s K = opT E o s K := by
 unfold opA opT
 cases o.op with
 | binOp op t x y t' =>
   dsimp only
   simp only [eqA_std]
   generalize s.ev x = dx
   generalize s.ev y = dy
   cases op <;> cases dx <;> first | rfl | exact binA_std _ _ _ _ | (cases dy <;> first | rfl | exact binA_std _ _ _ _)
 | makeFunc fn a b => cases fn <;> rfl
 | call c =>
   dsimp only
   cases c.callee with
   | builtin b => cases b <;> rfl
   | _ => rfl
 | _ => rfl
theorem opsA_std (E : Env) (all : List Oper) : ∀ (l : List Oper) (s : S) (K : S → T), opsA std E all l s K = opsT E all l s K
 | [], s, K => rfl
 | o :: l, s, K => by
   have ih := opsA_std E all l
   have h1 : (fun s' => opsA std E all l s' K) = fun s' => opsT E all l s' K := funext fun s' => ih s' K
   unfold opsA opsT
   simp only [opA_std, h1, ih]
   rcases hg : o.guard with _ | ⟨j, want⟩
   · rfl
   · dsimp only
     rcases (all[j]?.bind fun x => x.dst) with _ | d
     · rfl
     · dsimp only
       generalize s.t.getD d D.junk = dd
       cases dd with
       | bool v => cases want <;> (cases v <;> rfl)
       | _ => rfl
theorem treeA_std (E : Env) (kp : Nat → List Nat) : ∀ (c : Code) (s : S) (K : X → S → T), treeA std E kp c s K = tree E kp c s K := by
 intro c
 induction c with
 | seq a b iha ihb =>
   intro s K
   unfold treeA tree
   rw [iha]
   congr 1
   funext e s'
   cases e <;> first | exact ihb s' K | rfl
 | cond c a b iha ihb =>
   intro s K
   unfold treeA tree
   simp only [iha, ihb]
   rfl
 | block i b ih =>
   intro s K
   unfold treeA tree
   rw [ih]
   congr 1
 | region i ops d => intro s K; unfold treeA tree; cases d <;> simp only [opsA_std] <;> rfl
 | _ => intro s K; rfl
theorem Ans.mk {E : Env} {f : FuncId} {as_ : List D} {d : D} (fi : FnI) (hf : E.fn f = some fi) (hn : Nat.ble as_.length fi.ntmps = true)
  (h : ∀ o, o = std → Den E (treeA o E fi.keep fi.body (enterS fi as_ [] []) .done) fun x s => (x = .normal ∨ x = .ret) ∧ outD E fi.nw s fi.res = some d) : Ans E f as_ d :=
 ⟨fi, hf, Nat.le_of_ble_eq_true hn, by have := h std rfl; rwa [treeA_std] at this⟩
theorem Den.indA {E : Env} {Q : X → S → Prop} {o : Std} (ho : o = std) {b : Code} {kp : Nat → List Nat} {K : X → S → T} (M : Nat → S → Prop) (k : Nat) (s : S) (h : M k s)
  (hstep : ∀ k s, M k s → Den E (treeA o E kp b s .done) fun x s' => match x with
   | .normal => ∃ k', k' < k ∧ M k' (clean (kp (firstRegion b)) s.loc.length s')
   | x => Den E (K x s') Q) : Den E (.loop b kp s K) Q := by
 subst ho
 exact Den.ind M k s h fun k s hM => by have := hstep k s hM; rwa [treeA_std] at this
end Go.Mach
namespace Go.Mach
open Go Go.RowKit
section
variable {E : Env} {K K2 : S → T}
inductive Via (K K2 : S → T) : T → T → Prop
 | pure (s) : Via K K2 (K s) (K2 s)
 | fail : Via K K2 .fail .fail
 | need (b) {t u} (h : Via K K2 t u) : Via K K2 (.need b t) (.need b u)
 | test (b) {p q p2 q2 : Unit → T} (h1 : Via K K2 (p ()) (p2 ())) (h2 : Via K K2 (q ()) (q2 ())) : Via K K2 (.test b p q) (.test b p2 q2)
 | fetch (es i) {p q : List D → T} (h : ∀ cs, Via K K2 (p cs) (q cs)) : Via K K2 (.fetch es i p) (.fetch es i q)
 | app (t n m tk) {p q : Tok → List Nat → T} (h : ∀ t' tk', Via K K2 (p t' tk') (q t' tk')) : Via K K2 (.app t n m tk p) (.app t n m tk q)
 | ext (f as_) {p q : D → T} (h : ∀ d, Via K K2 (p d) (q d)) : Via K K2 (.ext f as_ p) (.ext f as_ q)
 | pcall (f as_) {p q : D → T} (h : ∀ d, Via K K2 (p d) (q d)) : Via K K2 (.pcall f as_ p) (.pcall f as_ q)
 | call (f as_ out tk) {p q : List D → List Box → List Nat → List Box → T} (h : ∀ a b c d, Via K K2 (p a b c d) (q a b c d)) : Via K K2 (.call f as_ out tk p) (.call f as_ out tk q)
def Nt (E : Env) (K K2 : S → T) (t u : T) : Prop :=
 ∀ n r, run E n t = some r → ∃ s', run E n (K s') = some r ∧ ∀ m r2, n ≤ m → run E m (K2 s') = some r2 → run E m u = some r2
theorem run_eq (n : Nat) : ∃ rec : T → Option (X × S), run E n = runT E rec ∧ ∀ m, n ≤ m → ∃ rec', run E m = runT E rec' ∧ ∀ t r, rec t = some r → rec' t = some r := by
 cases n with
 | zero =>
   refine ⟨fun _ => none, rfl, fun m _ => ?_⟩
   cases m with
   | zero => exact ⟨_, rfl, fun t r h => h⟩
   | succ m => exact ⟨run E m, rfl, fun t r h => by cases h⟩
 | succ n =>
   refine ⟨run E n, rfl, fun m hm => ?_⟩
   cases m with
   | zero => omega
   | succ m => exact ⟨run E m, rfl, fun t r h => run_le (by omega) t r h⟩
theorem Via.nt {t u : T} (h : Via K K2 t u) : Nt E K K2 t u := by
 induction h with
 | pure s => exact fun n r hr => ⟨s, hr, fun m r2 _ h => h⟩
 | fail => intro n r hr; obtain ⟨rec, e, _⟩ := run_eq (E := E) n; rw [e] at hr; cases hr
 | need b h ih =>
   intro n r hr
   obtain ⟨rec, e, he⟩ := run_eq (E := E) n
   rw [e] at hr
   simp only [runT] at hr
   split at hr
   · rename_i hb
     rw [← e] at hr
     obtain ⟨s', h1, h2⟩ := ih n r hr
     refine ⟨s', h1, fun m r2 hm hk => ?_⟩
     obtain ⟨rec', e', _⟩ := he m hm
     have := h2 m r2 hm hk
     rw [e'] at this ⊢
     simp only [runT, hb, if_true]; exact this
   · cases hr
 | test b h1 h2 ih1 ih2 =>
   intro n r hr
   obtain ⟨rec, e, he⟩ := run_eq (E := E) n
   rw [e] at hr
   simp only [runT] at hr
   cases b with
   | true =>
     simp only [if_true] at hr
     rw [← e] at hr
     obtain ⟨s', h1, h2⟩ := ih1 n r hr
     refine ⟨s', h1, fun m r2 hm hk => ?_⟩
     obtain ⟨rec', e', _⟩ := he m hm
     have := h2 m r2 hm hk
     rw [e'] at this ⊢
     simp only [runT, if_true]; exact this
   | false =>
     simp only [Bool.false_eq_true, if_false] at hr
     rw [← e] at hr
     obtain ⟨s', h1, h2⟩ := ih2 n r hr
     refine ⟨s', h1, fun m r2 hm hk => ?_⟩
     obtain ⟨rec', e', _⟩ := he m hm
     have := h2 m r2 hm hk
     rw [e'] at this ⊢
     simp only [runT, Bool.false_eq_true, if_false]; exact this
 | fetch es i h ih =>
   intro n r hr
   obtain ⟨rec, e, he⟩ := run_eq (E := E) n
   rw [e] at hr
   obtain ⟨h0, cs, hcs, hr⟩ := fetch_inv hr
   rw [← e] at hr
   obtain ⟨s', h1, h2⟩ := ih cs n r hr
   refine ⟨s', h1, fun m r2 hm hk => ?_⟩
   obtain ⟨rec', e', _⟩ := he m hm
   have := h2 m r2 hm hk
   rw [e'] at this ⊢
   simp only [runT, h0, if_true, hcs]; exact this
 | app t n0 m0 tk h ih =>
   intro n r hr
   obtain ⟨rec, e, he⟩ := run_eq (E := E) n
   rw [e] at hr
   simp only [runT] at hr
   split at hr
   · rename_i t' tk' ha
     rw [← e] at hr
     obtain ⟨s', h1, h2⟩ := ih t' tk' n r hr
     refine ⟨s', h1, fun m r2 hm hk => ?_⟩
     obtain ⟨rec', e', _⟩ := he m hm
     have := h2 m r2 hm hk
     rw [e'] at this ⊢
     simp only [runT, ha]; exact this
   · cases hr
 | ext f as_ h ih =>
   intro n r hr
   obtain ⟨rec, e, he⟩ := run_eq (E := E) n
   rw [e] at hr
   simp only [runT] at hr
   split at hr
   · rename_i g hg
     split at hr
     · rename_i d hd
       rw [← e] at hr
       obtain ⟨s', h1, h2⟩ := ih d n r hr
       refine ⟨s', h1, fun m r2 hm hk => ?_⟩
       obtain ⟨rec', e', _⟩ := he m hm
       have := h2 m r2 hm hk
       rw [e'] at this ⊢
       simp only [runT, hg, hd]; exact this
     · cases hr
   · cases hr
 | @pcall f as_ p q h ih =>
   intro n r hr
   obtain ⟨rec, e, he⟩ := run_eq (E := E) n
   rw [e] at hr
   simp only [runT] at hr
   split at hr
   · rename_i fi hfi
     split at hr
     · rename_i hn
       have key : ∀ x s1, (x = .normal ∨ x = .ret) → rec (tree E fi.keep fi.body (enterS fi as_ [] []) .done) = some (x, s1) → ∀ d, outD E fi.nw s1 fi.res = some d → run E n (p d) = some r → ∃ s', run E n (K s') = some r ∧ ∀ m r2, n ≤ m → run E m (K2 s') = some r2 → run E m (.pcall f as_ q) = some r2 := fun x s1 hx hrec d hd hr => by
        obtain ⟨s', h1, h2⟩ := ih d n r hr
        refine ⟨s', h1, fun m r2 hm hk => ?_⟩
        obtain ⟨rec', e', hle⟩ := he m hm
        have := h2 m r2 hm hk
        rw [e'] at this ⊢
        simp only [runT, hfi, hn, if_true]
        rw [hle _ _ hrec]
        rcases hx with rfl | rfl <;> (simp only [hd]; exact this)
       split at hr
       · rename_i s1 hs
         split at hr
         · rename_i d hd; rw [← e] at hr; exact key .normal s1 (.inl rfl) hs d hd hr
         · cases hr
       · rename_i s1 hs
         split at hr
         · rename_i d hd; rw [← e] at hr; exact key .ret s1 (.inr rfl) hs d hd hr
         · cases hr
       · cases hr
     · cases hr
   · cases hr
 | @call f as_ out tk p q h ih =>
   intro n r hr
   obtain ⟨rec, e, he⟩ := run_eq (E := E) n
   rw [e] at hr
   simp only [runT] at hr
   split at hr
   · rename_i fi hfi
     split at hr
     · rename_i hn
       split at hr
       · rename_i ds out' tk' loc' hc
         rw [← e] at hr
         obtain ⟨s', h1, h2⟩ := ih ds out' tk' loc' n r hr
         refine ⟨s', h1, fun m r2 hm hk => ?_⟩
         obtain ⟨rec', e', hle⟩ := he m hm
         have := h2 m r2 hm hk
         rw [e'] at this ⊢
         simp only [runT, hfi, hn, if_true]
         rw [callR_le hle hc]
         exact this
       · cases hr
     · cases hr
   · cases hr
theorem binT_via (op : BinOp) (x y : D) {p q : D → T} (h : ∀ d, Via K K2 (p d) (q d)) : Via K K2 (binT op x y p) (binT op x y q) := by
 unfold binT
 repeat' first
  | exact .fail
  | exact h _
  | refine .need _ ?_
  | split
theorem op_via (o : Oper) (s : S) : Via K K2 (opT E o s K) (opT E o s K2) := by
 unfold opT callT gcallT ocallT
 repeat' first
  | exact .fail
  | exact .pure _
  | refine .need _ ?_
  | refine .test _ ?_ ?_
  | refine .fetch _ _ fun _ => ?_
  | refine .app _ _ _ _ fun _ _ => ?_
  | refine .ext _ _ fun _ => ?_
  | refine .pcall _ _ fun _ => ?_
  | refine .call _ _ _ _ fun _ _ _ _ => ?_
  | refine binT_via _ _ _ fun _ => ?_
  | split
  | dsimp only
theorem Nt.trans {K K2 : S → T} {f g : S → T} {t u : T} (h : Nt E f g t u) (hk : ∀ s, Nt E K K2 (f s) (g s)) : Nt E K K2 t u := fun n r hr => by
 obtain ⟨s1, h1, h2⟩ := h n r hr
 obtain ⟨s2, h3, h4⟩ := hk s1 n r h1
 exact ⟨s2, h3, fun m r2 hm hk2 => h2 m r2 hm (h4 m r2 hm hk2)⟩
theorem gT_via (all : List Oper) (o : Oper) (s : S) : Via K K2 (gT E all o s K) (gT E all o s K2) := by
 unfold gT
 repeat' first
  | exact .fail
  | exact .pure _
  | exact op_via _ _
  | refine .test _ ?_ ?_
  | split
  | dsimp only
theorem ops_nt (all : List Oper) : ∀ (l : List Oper) (s : S), Nt E K K2 (opsT E all l s K) (opsT E all l s K2)
 | [], s => (Via.pure s).nt
 | o :: l, s => by
   rw [opsT_cons, opsT_cons]
   exact Nt.trans (gT_via all o s).nt fun s' => ops_nt all l s'
structure Fin (E : Env) (t : (X → S → T) → T) (x : X) (s : S) : Prop where
 go : ∀ (K : X → S → T) (m : Nat) (r : X × S), run E m (K x s) = some r → ∃ N, run E N (t K) = some r
def Cut (E : Env) (t : (X → S → T) → T) : Prop := ∀ (K : X → S → T) (n : Nat) (r : X × S), run E n (t K) = some r → ∃ x s, Fin E t x s ∧ ∃ m, m ≤ n ∧ run E m (K x s) = some r
theorem Nt.cut {t : (S → T) → T} (h : ∀ K K2, Nt E K K2 (t K) (t K2)) : Cut E fun K => t (K .normal) := fun K n r hr => by
 obtain ⟨s1, h1, h2⟩ := h (K .normal) (.done .normal) n r hr
 have h3 := h2 n (.normal, s1) (Nat.le_refl _) (by cases n <;> rfl)
 refine ⟨.normal, s1, ⟨fun K2 m r2 hk => ?_⟩, n, Nat.le_refl _, h1⟩
 obtain ⟨s2, h4, h5⟩ := h (.done .normal) (K2 .normal) n _ h3
 have h6 := run_done n _ _ _ h4
 injection h6 with _ h6
 subst h6
 exact ⟨max n m, h5 _ _ (Nat.le_max_left _ _) (run_le (Nat.le_max_right _ _) _ _ hk)⟩
theorem loop_cut (b : Code) (kp : Nat → List Nat) : ∀ (n : Nat) (s : S) (K : X → S → T) (r : X × S), run E n (.loop b kp s K) = some r → ∃ x s', Fin E (.loop b kp s) x s' ∧ ∃ m, m ≤ n ∧ run E m (K x s') = some r
 | 0, s, K, r, hr => by simp [run, runT] at hr
 | n + 1, s, K, r, hr => by
   rw [run_runT] at hr
   simp only [runT] at hr
   split at hr
   · rename_i s1 hs
     obtain ⟨x, s2, ⟨hf⟩, m, hm, h⟩ := loop_cut b kp n _ K r hr
     refine ⟨x, s2, ⟨fun K2 m2 r2 hk => ?_⟩, m, by omega, h⟩
     obtain ⟨N, hN⟩ := hf K2 m2 r2 hk
     refine ⟨max n N + 1, ?_⟩
     rw [run_runT]
     simp only [runT]
     rw [run_le (Nat.le_max_left n N) _ _ hs]
     exact run_le (Nat.le_max_right n N) _ _ hN
   · rename_i e s1 hne hs
     refine ⟨e, s1, ⟨fun K2 m2 r2 hk => ?_⟩, n + 1, Nat.le_refl _, hr⟩
     refine ⟨max n m2 + 1, ?_⟩
     rw [run_runT]
     simp only [runT]
     rw [run_le (Nat.le_max_left n m2) _ _ hs]
     have := run_le (show m2 ≤ max n m2 + 1 by omega) _ _ hk
     rw [run_runT] at this
     cases e with
     | normal => exact absurd rfl hne
     | _ => exact this
   · cases hr
theorem tree_cut (kp : Nat → List Nat) (c : Code) : ∀ s, Cut E fun K => tree E kp c s K := by
 induction c with
 | skip => exact fun s K n r hr => ⟨.normal, s, ⟨fun K2 m r2 hk => ⟨m, hk⟩⟩, n, Nat.le_refl _, hr⟩
 | ret => exact fun s K n r hr => ⟨.ret, s, ⟨fun K2 m r2 hk => ⟨m, hk⟩⟩, n, Nat.le_refl _, hr⟩
 | exit i => exact fun s K n r hr => ⟨.exit i, s, ⟨fun K2 m r2 hk => ⟨m, hk⟩⟩, n, Nat.le_refl _, hr⟩
 | seq a b iha ihb =>
   intro s K n r hr
   obtain ⟨x, s1, ⟨hf⟩, m, hm, h⟩ := iha s _ n r hr
   cases x with
   | normal =>
     obtain ⟨x2, s2, ⟨hg⟩, m2, hm2, h2⟩ := ihb s1 K m r h
     refine ⟨x2, s2, ⟨fun K2 m3 r2 hk => ?_⟩, m2, by omega, h2⟩
     obtain ⟨N, hN⟩ := hg K2 m3 r2 hk
     exact hf _ N r2 hN
   | exit i => exact ⟨.exit i, s1, ⟨fun K2 m3 r2 hk => hf _ m3 r2 hk⟩, m, hm, h⟩
   | ret => exact ⟨.ret, s1, ⟨fun K2 m3 r2 hk => hf _ m3 r2 hk⟩, m, hm, h⟩
 | cond c a b iha ihb =>
   intro s K n r hr
   simp only [tree] at hr
   split at hr
   · rename_i v hv
     have hup : ∀ (K2 : X → S → T) N r2, run E N (if v then tree E kp a s K2 else tree E kp b s K2) = some r2 → run E N (tree E kp (.cond c a b) s K2) = some r2 := fun K2 N r2 h => by
      simp only [tree, hv]
      obtain ⟨rec, e, _⟩ := run_eq (E := E) N
      rw [e] at h ⊢
      simp only [runT]
      cases v <;> exact h
     obtain ⟨rec, e, _⟩ := run_eq (E := E) n
     rw [e] at hr
     simp only [runT] at hr
     cases v with
     | true =>
       simp only [if_true] at hr
       rw [← e] at hr
       obtain ⟨x, s1, ⟨hf⟩, m, hm, h⟩ := iha s K n r hr
       refine ⟨x, s1, ⟨fun K2 m2 r2 hk => ?_⟩, m, hm, h⟩
       obtain ⟨N, hN⟩ := hf K2 m2 r2 hk
       exact ⟨N, hup K2 N r2 hN⟩
     | false =>
       simp only [Bool.false_eq_true, if_false] at hr
       rw [← e] at hr
       obtain ⟨x, s1, ⟨hf⟩, m, hm, h⟩ := ihb s K n r hr
       refine ⟨x, s1, ⟨fun K2 m2 r2 hk => ?_⟩, m, hm, h⟩
       obtain ⟨N, hN⟩ := hf K2 m2 r2 hk
       exact ⟨N, hup K2 N r2 hN⟩
   · obtain ⟨rec, e, _⟩ := run_eq (E := E) n
     rw [e] at hr; cases hr
 | block i b ih =>
   intro s K n r hr
   obtain ⟨x, s1, ⟨hf⟩, m, hm, h⟩ := ih s _ n r hr
   cases x with
   | normal => exact ⟨.normal, s1, ⟨fun K2 m3 r2 hk => hf _ m3 r2 hk⟩, m, hm, h⟩
   | ret => exact ⟨.ret, s1, ⟨fun K2 m3 r2 hk => hf _ m3 r2 hk⟩, m, hm, h⟩
   | exit j =>
     by_cases hj : j = i
     · have h' : run E m (if j = i then K .normal s1 else K (.exit j) s1) = some r := h
       rw [if_pos hj] at h'
       refine ⟨.normal, s1, ⟨fun K2 m3 r2 hk => hf _ m3 r2 ?_⟩, m, hm, h'⟩
       show run E m3 (if j = i then K2 .normal s1 else K2 (.exit j) s1) = some r2
       rw [if_pos hj]; exact hk
     · have h' : run E m (if j = i then K .normal s1 else K (.exit j) s1) = some r := h
       rw [if_neg hj] at h'
       refine ⟨.exit j, s1, ⟨fun K2 m3 r2 hk => hf _ m3 r2 ?_⟩, m, hm, h'⟩
       show run E m3 (if j = i then K2 .normal s1 else K2 (.exit j) s1) = some r2
       rw [if_neg hj]; exact hk
 | loop b _ => exact fun s K n r hr => loop_cut b kp n _ K r hr
 | region id ops d =>
   intro s K n r hr
   cases d with
   | false => exact Nt.cut (t := fun K => opsT E ops.toList ops.toList s K) (fun K K2 => ops_nt _ _ _) K n r hr
   | true =>
     have hr' : run E n (.need (drawOk E ops.toList) (opsT E ops.toList ops.toList s (K .normal))) = some r := hr
     obtain ⟨rec, e, _⟩ := run_eq (E := E) n
     rw [e] at hr'
     simp only [runT] at hr'
     split at hr'
     · rename_i hb
       rw [← e] at hr'
       obtain ⟨x, s1, ⟨hf⟩, m, hm, h⟩ := Nt.cut (t := fun K => opsT E ops.toList ops.toList s K) (fun K K2 => ops_nt _ _ _) K n r hr'
       refine ⟨x, s1, ⟨fun K2 m2 r2 hk => ?_⟩, m, hm, h⟩
       obtain ⟨N, hN⟩ := hf K2 m2 r2 hk
       refine ⟨N, ?_⟩
       show run E N (.need (drawOk E ops.toList) (opsT E ops.toList ops.toList s (K2 .normal))) = some r2
       obtain ⟨rec', e', _⟩ := run_eq (E := E) N
       rw [e'] at hN ⊢
       simp only [runT, hb, if_true]; exact hN
     · cases hr'
 | _ =>
   intro s K n r hr
   obtain ⟨rec, e, _⟩ := run_eq (E := E) n
   rw [e] at hr; cases hr
theorem Den.unloop {b : Code} {kp : Nat → List Nat} {s : S} {k : X → S → T} {Q : X → S → Prop} (h : Den E (tree E kp b s fun e s' => match e with
  | .normal => .loop b kp (clean (kp (firstRegion b)) s.loc.length s') k
  | e => k e s') Q) : Den E (.loop b kp s k) Q := by
 obtain ⟨n, x, s', h1, h2⟩ := h
 obtain ⟨x1, s1, ⟨hf⟩, m, _, h3⟩ := tree_cut kp b s _ n _ h1
 obtain ⟨N, hN⟩ := hf .done 0 (x1, s1) rfl
 refine Den.loop ⟨N, x1, s1, hN, ?_⟩
 cases x1 <;> exact ⟨m, x, s', h3, h2⟩
end
section
variable {E : Env} {Q : X → S → Prop}
theorem Den.indF {b : Code} {kp : Nat → List Nat} {k : X → S → T} (M : Nat → S → Prop) : ∀ (n : Nat) (s : S), M n s →
  (∀ n s, M n s → (∀ n' s', n' < n → M n' s' → Den E (.loop b kp s' k) Q) → Den E (.loop b kp s k) Q) → Den E (.loop b kp s k) Q := by
 intro n
 induction n using Nat.strongRecOn with
 | _ n ih => exact fun s hM h => h n s hM fun n' s' hn hM' => ih n' hn s' hM' h
theorem Den.unloopA {o : Std} (ho : o = std) {b : Code} {kp : Nat → List Nat} {s : S} {k : X → S → T} (h : Den E (treeA o E kp b s fun e s' => match e with
  | .normal => .loop b kp (clean (kp (firstRegion b)) s.loc.length s') k
  | e => k e s') Q) : Den E (.loop b kp s k) Q := by
 subst ho
 rw [treeA_std] at h
 exact h.unloop
theorem Den.pcallA {f : FuncId} {as_ as' : List D} {d : D} {k : D → T} (ha : Ans E f as' d) (he : as_ = as') (h : Den E (k d) Q) : Den E (.pcall f as_ k) Q := he ▸ Den.pcall ha h
theorem Den.testT {p q : Unit → T} (h : Den E (p ()) Q) : Den E (.test true p q) Q := Den.test (fun _ => h) (fun e => by cases e)
theorem Den.testF {p q : Unit → T} (h : Den E (q ()) Q) : Den E (.test false p q) Q := Den.test (fun e => by cases e) (fun _ => h)
theorem Den.test1 {b : Bool} {p q : Unit → T} (hb : b = true) (h : Den E (p ()) Q) : Den E (.test b p q) Q := by subst hb; exact .testT h
theorem Den.test0 {b : Bool} {p q : Unit → T} (hb : b = false) (h : Den E (q ()) Q) : Den E (.test b p q) Q := by subst hb; exact .testF h
inductive Lv (tk : List Nat) : Tok → Nat → Prop
 | nil : Lv tk .nil 0
 | cap (n) : Lv tk .cap n
 | own (i n) (h : tk[i]? = some n) : Lv tk (.own i) n
theorem Lv.app {tk t n} (h : Lv tk t n) (m : Nat) : ∃ t' tk', appTok t n m tk = some (t', tk') ∧ Lv tk' t' (n + m) := by
 cases h with
 | nil =>
   by_cases h : m = 0
   · subst h; exact ⟨.nil, tk, by simp [appTok], .nil⟩
   · exact ⟨.own tk.length, tk ++ [0 + m], by simp [appTok, h], .own _ _ (by simp)⟩
 | cap =>
   by_cases h : m = 0
   · subst h; exact ⟨.cap, tk, by simp [appTok], .cap _⟩
   · exact ⟨.own tk.length, tk ++ [n + m], by simp [appTok, h], .own _ _ (by simp)⟩
 | own i n h => exact ⟨.own i, tk.set i (n + m), by simp [appTok, h], .own _ _ (by simp [(List.getElem?_eq_some_iff.1 h).1])⟩
theorem Den.app1 {t : Tok} {n m : Nat} {tk : List Nat} {k : Tok → List Nat → T} (h : Lv tk t n) (hk : ∀ t' tk', Lv tk' t' (n + m) → Den E (k t' tk') Q) : Den E (.app t n m tk k) Q := by
 obtain ⟨t', tk', h1, h2⟩ := h.app m
 exact Den.app h1 (hk t' tk' h2)
end
def eK (k : IntKind) (l : List Int) : Box := l.map fun x => [.int k x]
def eB (l : List ByteArray) : Box := l.map fun x => [.str x]
theorem len_eK (k : IntKind) (l : List Int) : (eK k l).length = l.length := by simp [eK]
theorem len_eB (l : List ByteArray) : (eB l).length = l.length := by simp [eB]
theorem Den.fetchK {E : Env} {Q : X → S → Prop} {o : Std} (ho : o = std) {kd : IntKind} {l : List Int} {i : Int} {k : List D → T} (h0 : 0 ≤ i) (h1 : i < l.length) (h : ∀ y, l.getD i.toNat 0 = y → Den E (k [.int kd y]) Q) : Den E (.fetch (o.bx fun _ => eK kd l) i k) Q := by
 subst ho
 refine Den.fetch h0 ?_ (h _ rfl)
 have : i.toNat < l.length := by omega
 simp [std, eK, this, List.getD_eq_getElem?_getD]
section
variable {E : Env} {Q : X → S → Prop} {o : Std}
theorem Ans.mkA (ho : o = std) {f : FuncId} {xs : List D} {d : D} (fi : FnI) (hf : E.fn f = some fi) (hn : Nat.ble xs.length fi.ntmps = true)
  (h : Den E (treeA o E fi.keep fi.body (enterS fi xs [] []) .done) fun x s => (x = .normal ∨ x = .ret) ∧ outD E fi.nw s fi.res = some d) : Ans E f xs d :=
 ⟨fi, hf, Nat.le_of_ble_eq_true hn, by subst ho; rwa [treeA_std] at h⟩
def AnsP (E : Env) (f : FuncId) (as_ : List D) (P : D → Prop) : Prop :=
 ∃ fi, E.fn f = some fi ∧ as_.length ≤ fi.ntmps ∧ Den E (tree E fi.keep fi.body (enterS fi as_ [] []) .done) fun x s => (x = .normal ∨ x = .ret) ∧ ∃ d, outD E fi.nw s fi.res = some d ∧ P d
theorem AnsP.ex {f : FuncId} {as_ : List D} {P : D → Prop} (h : AnsP E f as_ P) : ∃ d, P d ∧ Ans E f as_ d := by
 obtain ⟨fi, h1, h2, h3⟩ := h
 obtain ⟨n, x, s, h4, h5, d, h6, h7⟩ := h3
 exact ⟨d, h7, fi, h1, h2, ⟨n, x, s, h4, h5, h6⟩⟩
theorem AnsP.mkA (ho : o = std) {f : FuncId} {xs : List D} {P : D → Prop} (fi : FnI) (hf : E.fn f = some fi) (hn : Nat.ble xs.length fi.ntmps = true)
  (h : Den E (treeA o E fi.keep fi.body (enterS fi xs [] []) .done) fun x s => (x = .normal ∨ x = .ret) ∧ ∃ d, outD E fi.nw s fi.res = some d ∧ P d) : AnsP E f xs P :=
 ⟨fi, hf, Nat.le_of_ble_eq_true hn, by subst ho; rwa [treeA_std] at h⟩
theorem Den.pcallP {f : FuncId} {as_ as' : List D} {P : D → Prop} {k : D → T} (he : as_ = as') (ha : AnsP E f as' P) (h : ∀ d, P d → Den E (k d) Q) : Den E (.pcall f as_ k) Q := by
 obtain ⟨d, h1, h2⟩ := ha.ex
 exact he ▸ Den.pcall h2 (h d h1)
theorem Den.extE {β : Type} (enc : β → D) {f : FuncId} {as_ as' : List D} {g : List D → Option D} {r : β} {k : D → T} (hf : E.ext f = some g) (he : as_ = as') (hg : g as' = some (enc r)) (h : ∀ v, r = v → Den E (k (enc v)) Q) : Den E (.ext f as_ k) Q :=
 he ▸ Den.ext hf hg (h r rfl)
theorem Den.id {t : T} (h : Den E t Q) : Den E t Q := h
theorem Den.needD {ops : List Oper} {k : T} (ho : o = std) (hb : drawOk E ops = true) (h : Den E k Q) : Den E (.need (o.dr fun _ => drawOk E ops) k) Q := by subst ho; exact Den.need hb h
theorem Den.testN1 {b : Bool} {p q : Unit → T} (ho : o = std) (hb : b = false) (h : Den E (p ()) Q) : Den E (.test (o.not b) p q) Q := by subst ho; subst hb; exact .testT h
theorem Den.testN0 {b : Bool} {p q : Unit → T} (ho : o = std) (hb : b = true) (h : Den E (q ()) Q) : Den E (.test (o.not b) p q) Q := by subst ho; subst hb; exact .testF h
theorem Den.pcallE {β : Type} (enc : β → D) {f : FuncId} {as_ as' : List D} {r : β} {k : D → T} (he : as_ = as') (ha : Ans E f as' (enc r)) (h : ∀ v, r = v → Den E (k (enc v)) Q) : Den E (.pcall f as_ k) Q :=
 he ▸ Den.pcall ha (h r rfl)
theorem wI {n : Int} (h1 : -9223372036854775808 ≤ n) (h2 : n ≤ 9223372036854775807) : IntKind.wrap .i64 n = n := by
 simp [IntKind.wrap, IntKind.bits, IntKind.signed]; omega
def rdG {α : Type} (z : α) (l : List α) (i : Int) : α := l.getD i.toNat z
theorem Den.fetchG (ho : o = std) {α : Type} (z : α) (c : α → List D) {l : List α} {i : Int} {k : List D → T} (h0 : 0 ≤ i) (h1 : i < l.length) (h : ∀ y, rdG z l i = y → Den E (k (c y)) Q) : Den E (.fetch (o.bx fun _ => l.map c) i k) Q := by
 subst ho
 refine Den.fetch h0 ?_ (h _ rfl)
 have : i.toNat < l.length := by omega
 simp [std, rdG, this, List.getD_eq_getElem?_getD]
theorem rdG_mem {α : Type} {z : α} {l : List α} {i : Int} (h0 : 0 ≤ i) (h1 : i < l.length) : rdG z l i ∈ l := by
 have h : i.toNat < l.length := by omega
 unfold rdG
 rw [List.getD_eq_getElem?_getD, List.getElem?_eq_getElem h]; exact List.getElem_mem h
end
noncomputable def choC (P : Program) (f : FuncId) (n : Nat) (R : List D → List Box → List Nat → (List D × List Box × List Nat × List Box) → Prop) (as_ : List D) (out : List Box) (tk : List Nat) : Option (List D × List Box × List Nat × List Box) := by
 classical exact if h : ∃ q, CallOk P f n as_ out tk q ∧ R as_ out tk q then some h.choose else none
theorem choC_ok (P f n R) : ExtCOk P f n (choC P f n R) := fun as_ out tk q _ h => by
 unfold choC at h
 split at h
 · rename_i hx
   cases h
   exact hx.choose_spec.1
 · cases h
theorem choC_some {P f n R as_ out tk} (h : ∃ q, CallOk P f n as_ out tk q ∧ R as_ out tk q) : ∃ q, choC P f n R as_ out tk = some q ∧ R as_ out tk q := by
 unfold choC
 rw [dif_pos h]
 exact ⟨_, rfl, h.choose_spec.2⟩
def NdRow (es : Box) : Prop := es.length ≤ 400 ∧ ∀ e ∈ es, ∃ a b c d k s t, e = [.int .i64 a, .int .i64 b, .int .i64 c, .int .i64 d, .int .i64 k, .str s, .str t] ∧ s.size ≤ 1048576 ∧ t.size ≤ 1048576
def CurNd (as_ : List D) (out : List Box) (tk : List Nat) (q : List D × List Box × List Nat × List Box) : Prop :=
 ∀ (code : List Int) (i h : Int), as_ = [.pbx (.out 0) 0] → out = [[[.sl .ro 1 (eK .u8 code), .int .i64 i, .int .i64 h]]] →
  ∃ es i' h', q.1 = [.sl .ro 7 es] ∧ NdRow es ∧ q.2.1 = [[[.sl .ro 1 (eK .u8 code), .int .i64 i', .int .i64 h']]] ∧ 0 ≤ i' ∧ i' ≤ code.length
end Go.Mach
