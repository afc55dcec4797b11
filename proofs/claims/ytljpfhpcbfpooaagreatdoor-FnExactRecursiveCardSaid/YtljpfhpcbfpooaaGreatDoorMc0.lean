/- What the statements share: part 0 of a proof by an executable machine over the program's code. -/
import GoSem.Core.Code
import GoSem.Core.View
import GoSem.Core.Region
import GoSem.Op.String
import Derived.Below
import Derived.Laws.IdiomCopy
import Derived.Deep.MidRow
import Derived.Tactics
set_option linter.unusedVariables false
set_option linter.unusedSimpArgs false
namespace Go.Mach
open Go
inductive Ref where
 | loc (i : Nat) | out (i : Nat)
 deriving DecidableEq
inductive Tok where
 | ro | nil | cap | own (i : Nat) | nw | ofs (i off : Nat)
 deriving DecidableEq
inductive D where
 | int (k : IntKind) (n : Int)
 | bool (b : Bool)
 | str (s : ByteArray)
 | agg (cs : List D)
 | tup (vs : List D)
 | sl (t : Tok) (z : Nat) (es : List (List D))
 | pel (cs : List D) (off : Nat)
 | asl (r : Ref) (z n : Nat)
 | pba (r : Ref) (z : Nat) (i : Int) (off : Nat)
 | pbx (r : Ref) (off : Nat)
 | pnil
 | fn (f : FuncId) (cap : List D)
 | junk
abbrev Box := List (List D)
structure S where
 t : List D
 loc : List Box
 out : List Box
 tk : List Nat
inductive K where
 | bool | int (k : IntKind) | str | ptr (e : TypeId) | sl (e z : Nat) (bytes : Nat) | st (fs : List (Nat × Nat × Bool)) | other
structure TyI where
 k : K
 size : Nat
 bytes : Nat
 zero : List D
 eq : Bool := false
structure FnI where
 body : Code
 ntmps : Nat
 params : List TypeId
 res : List ResultVar
 keep : Nat → List Nat
 ptr : Bool := false
 nw : Bool := false
 own : Bool := false
structure Env where
 ty : TypeId → TyI
 fn : FuncId → Option FnI
 ext : FuncId → Option (List D → Option D)
 extc : FuncId → Option (List D → List Box → List Nat → Option (List D × List Box × List Nat × List Box)) := fun _ => none
inductive X where
 | normal | exit (id : Nat) | ret
inductive T where
 | done (x : X) (s : S)
 | fail
 | need (b : Bool) (k : T)
 | test (b : Bool) (x y : Unit → T)
 | fetch (es : Box) (i : Int) (k : List D → T)
 | app (t : Tok) (n m : Nat) (tk : List Nat) (k : Tok → List Nat → T)
 | ext (f : FuncId) (args : List D) (k : D → T)
 | pcall (f : FuncId) (args : List D) (k : D → T)
 | call (f : FuncId) (args : List D) (out : List Box) (tk : List Nat) (k : List D → List Box → List Nat → List Box → T)
 | loop (body : Code) (kp : Nat → List Nat) (s : S) (k : X → S → T)
def D.atom : D → Bool
 | .int .. | .bool _ | .str _ | .pnil | .sl .. => true
 | _ => false
def D.cell : D → Bool
 | .int .. | .bool _ | .str _ | .pnil => true
 | .sl .ro _ _ => true
 | .sl .nil _ _ => true
 | _ => false
def D.plain : D → D
 | .sl .nil z es => .sl .nil z es
 | .sl _ z es => .sl .ro z es
 | d => d
def D.ro : D → D
 | .sl _ z es => .sl .ro z es
 | d => d
def D.old : D → Bool
 | .sl .nw _ _ => false
 | _ => true
def D.free : D → Bool
 | .sl .ro _ _ | .sl .nil _ _ => true
 | .sl .. => false
 | .tup cs => cs.all D.old
 | _ => true
def D.flat : D → Bool
 | .sl .ro _ _ | .sl .nil _ _ | .sl .nw _ _ => true
 | .sl .. => false
 | .tup _ => false
 | _ => true
def D.capOk : D → Bool
 | .int .. | .bool _ | .str _ | .sl .. | .pel .. => true
 | _ => false
def D.hand : D → Bool
 | .fn .. | .pel .. => true
 | _ => false
def D.cells : D → List D
 | .agg cs => cs
 | d => [d]
def ofV : Value → D
 | .int k n => .int k n
 | .bool b => .bool b
 | .string s => .str s
 | .slice none 0 0 => .sl .nil 0 []
 | .pointer none => .pnil
 | _ => .junk
def S.ev (s : S) : Operand → D
 | .tmp i => s.t.getD i .junk
 | .const v => ofV v
 | .func f => .fn f []
 | .global _ => .junk
def S.put (s : S) (dst : Option Tmp) (d : D) : S :=
 match dst with
 | some i => { s with t := s.t.set i d }
 | none => s
def S.box (s : S) : Ref → Option Box
 | .loc i => s.loc[i]?
 | .out i => s.out[i]?
def S.setBox (s : S) (r : Ref) (b : Box) : S :=
 match r with
 | .loc i => { s with loc := s.loc.set i b }
 | .out i => { s with out := s.out.set i b }
def S.alloc (s : S) (dst : Option Tmp) (b : Box) (p : Ref → D) : S :=
 { s with loc := s.loc ++ [b] }.put dst (p (.loc s.loc.length))
def K.isSt : K → Bool
 | .st _ => true
 | _ => false
def K.known : K → Bool
 | .other => false
 | _ => true
def TyI.fits (i : TyI) (off len : Nat) : Bool := i.k.known && (decide (off + i.size ≤ len) && decide (0 < i.size))
def part (agg : Bool) (size : Nat) (cs : List D) (off : Nat) : D :=
 if agg then .agg (((cs.drop off).take size).map D.plain) else cs.getD off .junk
def patch (cs : List D) (off : Nat) (new : List D) : List D := cs.take off ++ new ++ cs.drop (off + new.length)
def andI (k : IntKind) (a b : Int) : Int := k.wrap ((BitVec.ofInt k.bits a &&& BitVec.ofInt k.bits b).toNat)
def xorI (k : IntKind) (a b : Int) : Int := k.wrap ((BitVec.ofInt k.bits a ^^^ BitVec.ofInt k.bits b).toNat)
def shrI (k : IntKind) (a b : Int) : Int := a.fdiv (2 ^ (min b.toNat k.bits))
def binI (op : BinOp) (k : IntKind) (a b : Int) : Option D :=
 match op with
 | .add => some (.int k (k.wrap (a + b)))
 | .sub => some (.int k (k.wrap (a - b)))
 | .mul => some (.int k (k.wrap (a * b)))
 | .eql => some (.bool (a == b))
 | .neq => some (.bool (a != b))
 | .lss => some (.bool (decide (a < b)))
 | .leq => some (.bool (decide (a ≤ b)))
 | .gtr => some (.bool (decide (a > b)))
 | .geq => some (.bool (decide (a ≥ b)))
 | .and => some (.int k (andI k a b))
 | .xor => some (.int k (xorI k a b))
 | _ => none
def eqD : List D → List D → Option Bool
 | [], [] => some true
 | .int k a :: x, .int k' b :: y => if k = k' then (eqD x y).map ((a == b) && ·) else none
 | .bool a :: x, .bool b :: y => (eqD x y).map ((a == b) && ·)
 | .str a :: x, .str b :: y => (eqD x y).map ((a == b) && ·)
 | _, _ => none
def shapeD : List D → List D → Bool
 | [], [] => true
 | .int k _ :: x, .int k' _ :: y => decide (k = k') && shapeD x y
 | .bool _ :: x, .bool _ :: y => shapeD x y
 | .str _ :: x, .str _ :: y => shapeD x y
 | _, _ => false
def gtS (a b : ByteArray) : Bool := !(Op.bytesLess a.toList b.toList || a.toList == b.toList)
def binT (op : BinOp) (x y : D) (k : D → T) : T :=
 match x, y with
 | .int ik a, .int jk b =>
   match op with
   | .shr => .need (decide (0 ≤ b)) (k (.int ik (shrI ik a b)))
   | op => if ik = jk then
     match op with
     | .quo => .need (decide (b ≠ 0)) (k (.int ik (ik.wrap (a.tdiv b))))
     | .rem => .need (decide (b ≠ 0)) (k (.int ik (a.tmod b)))
     | _ => match binI op ik a b with
       | some d => k d
       | none => .fail
   else .fail
 | .str a, .str b =>
   match op with
   | .add => .need (decide (a.size + b.size ≤ 2 ^ 62)) (k (.str (a ++ b)))
   | .eql => k (.bool (a.toList == b.toList))
   | .neq => k (.bool (!(a.toList == b.toList)))
   | .gtr => k (.bool (gtS a b))
   | _ => .fail
 | _, _ => .fail
def idx : D → Option Int
 | .int _ n => some n
 | _ => none
def refsOf : List D → List Ref
 | [] => []
 | .pbx r 0 :: l => r :: refsOf l
 | _ :: l => refsOf l
def toksOf : List D → List Nat
 | [] => []
 | .sl (.own i) _ _ :: l => i :: toksOf l
 | _ :: l => toksOf l
def argFor (n : Nat) : D → Option (D × Nat)
 | .pbx _ 0 => some (.pbx (.out n) 0, n + 1)
 | .sl _ z es => some (.sl .ro z es, n)
 | .agg cs => if cs.all D.cell then some (.agg (cs.map D.ro), n) else none
 | .int k m => some (.int k m, n)
 | .bool b => some (.bool b, n)
 | .str s => some (.str s, n)
 | .fn f cap => if cap.all D.capOk then some (.fn f (cap.map D.ro), n) else none
 | .pnil => some (.pnil, n)
 | .pel cs off => some (.pel cs off, n)
 | _ => none
def argsFor : Nat → List D → Option (List D)
 | _, [] => some []
 | n, d :: l => match argFor n d with
   | some (d', n') => (argsFor n' l).map (d' :: ·)
   | none => none
def Tok.nwA : Tok → Tok
 | .nil | .nw => .nw
 | _ => .ro
def Tok.nwT : Tok → Tok
 | .nil | .nw | .own _ => .nw
 | _ => .ro
def argN (n : Nat) : D → Option (D × Nat)
 | .sl t z es => some (.sl t.nwA z es, n)
 | d => argFor n d
def argsN : Nat → List D → Option (List D)
 | _, [] => some []
 | n, d :: l => match argN n d with
   | some (d', n') => (argsN n' l).map (d' :: ·)
   | none => none
def argsOf (nw : Bool) (l : List D) : Option (List D) := if nw then argsN 0 l else argsFor 0 l
def renum (to : Nat → Option Nat) : List D → Option (List D)
 | [] => some []
 | .sl (.own i) z es :: l => match to i with
   | some j => (renum to l).map (.sl (.own j) z es :: ·)
   | none => none
 | d :: l => if d.cell then (renum to l).map (d :: ·) else none
def boxesOf (s : S) : List Ref → Option (List (List D))
 | [] => some []
 | r :: l => match s.box r with
   | some [cs] => (boxesOf s l).map (cs :: ·)
   | _ => none
def renums (to : Nat → Option Nat) : List (List D) → Option (List (List D))
 | [] => some []
 | cs :: l => match renum to cs with
   | some cs' => (renums to l).map (cs' :: ·)
   | none => none
def noDup {α : Type} [DecidableEq α] : List α → Bool
 | [] => true
 | x :: l => !(l.contains x) && noDup l
def putBoxes (s : S) : List Ref → List (List D) → S
 | r :: l, cs :: m => putBoxes (s.setBox r [cs]) l m
 | _, _ => s
def putToks (tk : List Nat) : List Nat → List Nat → List Nat
 | i :: l, v :: m => putToks (tk.set i v) l m
 | _, _ => tk
def unbox : List Box → Option (List (List D))
 | [] => some []
 | [cs] :: l => (unbox l).map (cs :: ·)
 | _ :: _ => none
def D.datum : D → Option D
 | .sl _ z es => some (.sl .ro z es)
 | .agg cs => if cs.all D.cell then some (.agg (cs.map D.ro)) else none
 | .int k n => some (.int k n)
 | .bool b => some (.bool b)
 | .str s => some (.str s)
 | .pnil => some .pnil
 | _ => none
def data : List D → Option (List D)
 | [] => some []
 | d :: l => match d.datum with
   | some d' => (data l).map (d' :: ·)
   | none => none
def resOf : List D → Option D
 | [d] => d.datum
 | l => (data l).map .tup
def D.datumN : D → Option D
 | .sl t z es => some (.sl t.nwT z es)
 | d => d.datum
def dataN : List D → Option (List D)
 | [] => some []
 | d :: l => match d.datumN with
   | some d' => (dataN l).map (d' :: ·)
   | none => none
def resOfN : List D → Option D
 | [d] => d.datumN
 | l => (dataN l).map .tup
def toBack (toks : List Nat) (n : Nat) (j : Nat) : Option Nat := some (if j < toks.length then toks.getD j 0 else n + (j - toks.length))
def leave (s : S) (refs : List Ref) (toks : List Nat) (dst : Option Tmp) (ds : List D) (out : List Box) (tk : List Nat) (loc : List Box) : Option S :=
 match refs with
 | [] => match ds with
   | [.pbx (.loc i) 0] => match loc[i]? with
     | some [cs] => match renum (toBack [] s.tk.length) cs with
       | some cs' => some ({ s with loc := s.loc ++ [[cs']], tk := s.tk ++ tk }.put dst (.pbx (.loc s.loc.length) 0))
       | none => none
     | _ => none
   | ds => match resOf ds with
     | some d' => some (s.put dst d')
     | none => none
 | refs => match resOf ds, unbox out with
   | some d', some css => match renums (toBack toks s.tk.length) css with
     | some css' => if css'.length = refs.length then some ({ putBoxes s refs css' with tk := putToks s.tk toks tk ++ tk.drop toks.length }.put dst d') else none
     | none => none
   | _, _ => none
def gcallT (s : S) (dst : Option Tmp) (f : FuncId) (args : List D) (k : S → T) : T :=
 let refs := refsOf args
 match argsFor 0 args, boxesOf s refs with
 | some as_, some css =>
   let toks := toksOf css.flatten
   match renums (fun i => toks.idxOf? i) css with
   | some css' => if noDup refs && noDup toks then
       .call f as_ (css'.map ([·])) (toks.map (s.tk.getD · 0)) fun ds out tk loc => match leave s refs toks dst ds out tk loc with
        | some s' => k s'
        | none => .fail
     else .fail
   | none => .fail
 | _, _ => .fail
def argO (toks : List Nat) : D → Option D
 | .sl (.own i) z es => (toks.idxOf? i).map fun j => .sl (.own j) z es
 | .sl .nil z es => some (.sl .nil z es)
 | d => (argFor 0 d).map (·.1)
def argsO (toks : List Nat) : List D → Option (List D)
 | [] => some []
 | d :: l => match argO toks d with
   | some d' => (argsO toks l).map (d' :: ·)
   | none => none
def leaveO (s : S) (toks : List Nat) (dst : Option Tmp) (ds : List D) (tk : List Nat) : Option S :=
 match ds with
 | [d] => match renum (toBack toks s.tk.length) [d] with
   | some [d'] => some ({ s with tk := putToks s.tk toks tk ++ tk.drop toks.length }.put dst d')
   | _ => none
 | _ => none
def ocallT (s : S) (dst : Option Tmp) (f : FuncId) (args : List D) (k : S → T) : T :=
 match refsOf args, argsO (toksOf args) args with
 | [], some as_ => if noDup (toksOf args) then
     .call f as_ [] ((toksOf args).map (s.tk.getD · 0)) fun ds _ tk _ => match leaveO s (toksOf args) dst ds tk with
      | some s' => k s'
      | none => .fail
   else .fail
 | _, _ => .fail
def moveD (k : K) (d : D) : D :=
 match d, k with
 | .sl t z es, .sl _ z' _ => if z = z' then .sl t z es else if t = .nil then .sl .nil z' [] else .sl t z es
 | d, _ => d
def movesD : List K → List D → List D
 | k :: ks, d :: ds => moveD k d :: movesD ks ds
 | _, ds => ds
def callT (E : Env) (s : S) (dst : Option Tmp) (f : FuncId) (args : List D) (k : S → T) : T :=
 match E.ext f, E.fn f with
 | some _, _ => match argsFor 0 args, refsOf args with
   | some as_, [] => .ext f as_ fun d => k (s.put dst d)
   | _, _ => .fail
 | none, some fi => if fi.ptr then (if fi.own then ocallT s dst f (movesD (fi.params.map fun t => (E.ty t).k) args) k else gcallT s dst f args k) else
  match argsOf fi.nw args, refsOf args with
  | some as_, [] => .pcall f as_ fun d => k (s.put dst d)
  | _, _ => .fail
 | none, none => .fail
def optI (s : S) (d : Int) : Option Operand → Option Int
 | some x => idx (s.ev x)
 | none => some d
def K.isU8 : K → Bool
 | .int .u8 => true
 | _ => false
def byteRow (es : Box) : Bool := es.all fun
 | [.int .u8 _] => true
 | _ => false
def byteN : List D → Int
 | [.int _ n] => n
 | _ => 0
def ofBytes (es : Box) : ByteArray := (es.map byteN).foldl (fun r n => r.push (UInt8.ofNat n.toNat)) .empty
def cutTok (t : Tok) (l : Int) : Tok := match t with
 | .own i => .ofs i l.toNat
 | .ofs i off => .ofs i (off + l.toNat)
 | .cap => .cap
 | _ => .ro
def opT (E : Env) (o : Oper) (s : S) (K : S → T) : T :=
 match o.op with
 | .move x | .assign x => K (s.put o.dst (moveD (E.ty o.type).k (s.ev x)))
 | .pick c a b => match s.ev c with
   | .bool v => .test v (fun _ => K (s.put o.dst (s.ev a))) (fun _ => K (s.put o.dst (s.ev b)))
   | _ => .fail
 | .alloc t => if (E.ty t).k.known && decide (0 < (E.ty t).zero.length) then K (s.alloc o.dst [(E.ty t).zero] (.pbx · 0)) else .fail
 | .box _ x => if (s.ev x).cells.all D.atom && decide (0 < (s.ev x).cells.length) then K (s.alloc o.dst [(s.ev x).cells] (.pbx · 0)) else .fail
 | .load t a =>
   let i := E.ty t
   match s.ev a with
   | .pel cs off => if i.fits off cs.length then K (s.put o.dst (part i.k.isSt i.size cs off)) else .fail
   | .pbx r off => match s.box r with
     | some [cs] => if i.fits off cs.length then K (s.put o.dst (part i.k.isSt i.size cs off)) else .fail
     | _ => .fail
   | .pba r z j off => match s.box r with
     | some es => if i.fits off z then .fetch es j fun cs => K (s.put o.dst (part i.k.isSt i.size cs off)) else .fail
     | none => .fail
   | _ => .fail
 | .store t a x =>
   let new := (s.ev x).cells
   if (E.ty t).k.known && (decide (new.length = (E.ty t).size) && new.all D.atom) then
    match s.ev a with
    | .pbx r off => match s.box r with
      | some [cs] => if off + new.length ≤ cs.length then K ((s.setBox r [patch cs off new]).put o.dst .junk) else .fail
      | _ => .fail
    | .pba r z j off => match s.box r with
      | some es => if off + new.length ≤ z then .fetch es j fun cs => K ((s.setBox r (es.set j.toNat (patch cs off new))).put o.dst .junk) else .fail
      | none => .fail
    | _ => .fail
   else .fail
 | .binOp op t x y _ => match op, s.ev x, s.ev y with
   | .eql, .agg a, .agg b => match (E.ty t).eq && shapeD (E.ty t).zero a, eqD a b with
     | true, some v => K (s.put o.dst (.bool v))
     | _, _ => .fail
   | .neq, .agg a, .agg b => match (E.ty t).eq && shapeD (E.ty t).zero a, eqD a b with
     | true, some v => K (s.put o.dst (.bool (!v)))
     | _, _ => .fail
   | .eql, .bool a, .bool b => match (E.ty t).k with
     | .bool => K (s.put o.dst (.bool (a == b)))
     | _ => .fail
   | .neq, .bool a, .bool b => match (E.ty t).k with
     | .bool => K (s.put o.dst (.bool (!(a == b))))
     | _ => .fail
   | op, a, b => binT op a b fun d => K (s.put o.dst d)
 | .unOp op _ x => match op, s.ev x with
   | .neg, .int k n => K (s.put o.dst (.int k (k.wrap (0 - n))))
   | .not, .bool b => K (s.put o.dst (.bool (!b)))
   | _, _ => .fail
 | .convert src dst x => match (E.ty src).k, (E.ty dst).k, s.ev x with
   | .int _, .int k, .int _ n => K (s.put o.dst (.int k (k.wrap n)))
   | .str, .str, .str a => K (s.put o.dst (.str a))
   | .sl e _ _, .str, .sl _ z es => if (E.ty e).k.isU8 && (z == 1 && byteRow es) then K (s.put o.dst (.str (ofBytes es))) else .fail
   | _, _, _ => .fail
 | .indexAddr t x i => match (E.ty t).k, s.ev x, idx (s.ev i) with
   | .sl _ z _, .sl _ z' es, some j => if z' = z then .fetch es j fun cs => K (s.put o.dst (.pel cs 0)) else .fail
   | .sl _ z _, .asl r z' n, some j => match s.box r with
     | some es => if z' = z then .fetch es j fun _ => K (s.put o.dst (.pba r z j 0)) else .fail
     | none => .fail
   | _, _, _ => .fail
 | .index t x i => match (E.ty t).k, s.ev x, idx (s.ev i) with
   | .str, .str a, some j => .need (decide (0 ≤ j) && decide (j < a.size)) (K (s.put o.dst (.int .u8 (a.get! j.toNat).toNat)))
   | _, _, _ => .fail
 | .fieldAddr t x f => match (E.ty t).k with
   | .st fs => match fs[f]? with
     | some (o', sz, _) => if sz = 0 then .fail else match s.ev x with
       | .pel cs off => K (s.put o.dst (.pel cs (off + o')))
       | .pbx r off => K (s.put o.dst (.pbx r (off + o')))
       | .pba r z j off => K (s.put o.dst (.pba r z j (off + o')))
       | _ => .fail
     | none => .fail
   | _ => .fail
 | .field t x f => match (E.ty t).k, s.ev x with
   | .st fs, .agg cs => match fs[f]? with
     | some (o', sz, ag) => if o' + sz ≤ cs.length ∧ 0 < sz then K (s.put o.dst (part ag sz cs o')) else .fail
     | none => .fail
   | _, _ => .fail
 | .nilCheck x => match s.ev x with
   | .pbx r off => K (s.put o.dst (.pbx r off))
   | .pel cs off => K (s.put o.dst (.pel cs off))
   | .pba r z j off => K (s.put o.dst (.pba r z j off))
   | .fn f c => K (s.put o.dst (.fn f c))
   | _ => .fail
 | .extract x i => match s.ev x with
   | .tup vs => if i < vs.length then K (s.put o.dst (vs.getD i .junk)) else .fail
   | _ => .fail
 | .build t ps => match (E.ty t).k with
   | .st fs => match fillD fs ((E.ty t).zero) (ps.toList.map fun p => (p.1, (s.ev p.2).cells.map D.plain)) with
     | some cs => K (s.put o.dst (.agg cs))
     | none => .fail
   | _ => .fail
 | .buildSlice t n ps => match (E.ty t).k with
   | .sl e z _ => if (E.ty e).k.known && (decide ((E.ty e).zero.length = z) && decide (n * z ≤ 2 ^ 20)) then
       match fillS z (List.replicate n (E.ty e).zero) (ps.toList.map fun p => (p.1, (s.ev p.2).cells.map D.ro)) with
       | some es => K (s.put o.dst (.sl .cap z es))
       | none => .fail
     else .fail
   | _ => .fail
 | .makeSlice t l c => match (E.ty t).k, s.ev l, s.ev c with
   | .sl e z b, .int .i64 n, .int .i64 m => if (E.ty e).k.known && decide ((E.ty e).zero.length = z) then
       .need (decide (0 ≤ n) && (decide (m = n) && (decide (n * b ≤ 2 ^ 46) && decide (n ≤ 2 ^ 46)))) (K (s.alloc o.dst (List.replicate n.toNat (E.ty e).zero) (.asl · z n.toNat)))
     else .fail
   | _, _, _ => .fail
 | .slice t x lo hi mx => match (E.ty t).k, s.ev x with
   | .sl _ z _, .sl tok z' es =>
     match optI s 0 lo, optI s es.length hi with
     | some l, some h =>
       if z' = z then
        match mx with
        | none => match hi with
          | none => .need (decide (0 ≤ l) && (decide (l ≤ h) && decide (h ≤ es.length))) (K (s.put o.dst (.sl (cutTok tok l) z ((es.take h.toNat).drop l.toNat))))
          | some _ => .need (decide (0 ≤ l) && (decide (l ≤ h) && decide (h ≤ es.length))) (K (s.put o.dst (.sl .ro z ((es.take h.toNat).drop l.toNat))))
        | some m => match hi, idx (s.ev m) with
          | some _, some m => .need (decide (0 ≤ l) && (decide (l ≤ h) && (decide (h ≤ es.length) && decide (m = h)))) (K (s.put o.dst (.sl .cap z ((es.take h.toNat).drop l.toNat))))
          | _, _ => .fail
       else .fail
     | _, _ => .fail
   | .str, .str a =>
     match optI s 0 lo, optI s a.size hi, mx with
     | some l, some h, none => .need (decide (0 ≤ l) && (decide (l ≤ h) && decide (h ≤ a.size))) (K (s.put o.dst (.str (a.extract l.toNat h.toNat))))
     | _, _, _ => .fail
   | _, _ => .fail
 | .makeFunc (.func f) first cap => if first.size = 0 then K (s.put o.dst (.fn f (cap.toList.map s.ev))) else .fail
 | .call c => match c.callee with
   | .builtin .len => match c.argTypes.toList.map (fun t => (E.ty t).k), c.args.toList.map s.ev with
     | [.sl _ _ _], [.sl _ _ es] => K (s.put o.dst (.int .i64 es.length))
     | [.str], [.str a] => K (s.put o.dst (.int .i64 a.size))
     | [.sl _ _ _], [.asl r _ n] => K (s.put o.dst (.int .i64 n))
     | _, _ => .fail
   | .builtin .append => match c.argTypes.toList.map (fun t => (E.ty t).k), c.args.toList.map s.ev with
     | [.sl e z b, .sl _ _ _], [.sl tok z' es, .sl _ z'' new] => if (decide (z' = z) || decide (tok = .nil)) && (decide (z'' = z) || new.isEmpty) then
       .need (decide ((es.length + new.length) * b ≤ 2 ^ 47) && decide (es.length + new.length ≤ 2 ^ 47)) (.app tok es.length new.length s.tk fun tok' tk' => K ({ s with tk := tk' }.put o.dst (.sl tok' z (es ++ new))))
      else .fail
     | _, _ => .fail
   | .value g => match s.ev g with
     | .fn f cap => callT E s o.dst f (c.args.toList.map s.ev ++ cap) K
     | _ => .fail
   | _ => .fail
 | _ => .fail
where
 fillD (fs : List (Nat × Nat × Bool)) (cs : List D) : List (Nat × List D) → Option (List D)
  | [] => some cs
  | (i, new) :: l => match fs[i]? with
    | some (o', sz, _) => if new.length = sz ∧ o' + sz ≤ cs.length ∧ new.all D.cell then fillD fs (patch cs o' new) l else none
    | none => none
 fillS (z : Nat) (es : Box) : List (Nat × List D) → Option Box
  | [] => some es
  | (i, new) :: l => if new.length = z ∧ i < es.length ∧ new.all D.cell then fillS z (es.set i new) l else none
def D.skipped : D → Bool
 | .tup [] => true
 | _ => false
def opsT (E : Env) (all : List Oper) : List Oper → S → (S → T) → T
 | [], s, K => K s
 | o :: os, s, K =>
   match o.guard with
   | none => opT E o s fun s' => opsT E all os s' K
   | some (j, want) =>
     match (all[j]?).bind (·.dst) with
     | some d => match s.t.getD d .junk with
       | .bool v => .test (v == want) (fun _ => opT E o s fun s' => opsT E all os s' K) (fun _ => opsT E all os (s.put o.dst (.tup [])) K)
       | e => if e.skipped then opsT E all os (s.put o.dst (.tup [])) K else .fail
     | none => .fail
def cls (E : Env) : Op → Nat
 | .alloc _ | .box .. | .makeSlice .. | .store .. => 2
 | .call c => match c.callee with
   | .builtin .append => 1
   | .builtin _ => 0
   | .value (.func f) => match E.ext f, E.fn f with
     | some _, _ => 0
     | none, some fi => if fi.ptr then 2 else 0
     | none, none => 0
   | _ => 2
 | _ => 0
def tempOp : Op → Bool
 | .move _ | .assign _ | .binOp .. | .unOp .. | .convert .. | .extract .. | .index .. | .field .. | .fieldAddr .. | .build .. | .buildSlice .. => true
 | .call c => match c.callee with
   | .builtin .len => true
   | _ => false
 | _ => false
def looks (all : List Oper) (o : Oper) : List Nat :=
 (o.op.operands.toList.filterMap fun | .tmp t => some t | _ => none) ++ (match o.guard with
  | some (g, _) => ((all[g]?).bind (·.dst)).toList
  | none => [])
def apart (E : Env) (all : List Oper) (x y : Oper) : Bool :=
 (decide (cls E x.op + cls E y.op ≤ 1) || (tempOp x.op || tempOp y.op)) && (match x.dst with
  | some d => !(looks all y).contains d && y.dst != some d
  | none => true) && (match y.dst with
  | some d => !(looks all x).contains d
  | none => true)
def aheadB (ops : List Oper) : List Nat :=
 ops.foldl (fun acc o => acc ++ [o.after.toList.foldl (fun m e => if Region.binds .any e then Nat.lor m (Nat.lor (2 ^ e.on) (acc.getD e.on 0)) else m) 0]) []
def drawOk0 (E : Env) (ops : List Oper) : Bool :=
 let ah := aheadB ops
 ops.zipIdx.all fun (o, i) => (o.after.toList.all fun e => !Region.binds .any e || decide (e.on < i)) &&
  ((List.range ops.length).all fun j => !(Nat.testBit (ah.getD i 0) j) || o.after.toList.any fun e => Region.binds .any e && (e.on == j || Nat.testBit (ah.getD e.on 0) j)) &&
  (List.range i).all fun j => Nat.testBit (ah.getD i 0) j || (match ops[j]? with | some x => apart E ops x o | none => false)
def plainOp : Op → Bool
 | .fieldAddr .. | .load .. | .move _ | .build .. => true
 | _ => false
def bindsOn (o : Oper) (j : Nat) : Bool := o.after.toList.any fun e => Region.binds .any e && e.on == j
def lowOk (ops : List Oper) : Bool := ops.zipIdx.all fun (o, i) => o.after.toList.all fun e => !Region.binds .any e || decide (e.on < i)
def plainAll (dx dy : Nat) (P : List Oper) : Bool :=
 P.all (fun o => o.guard.isNone && (o.dst.isSome && (plainOp o.op && o.op.operands.toList.all fun
  | .tmp t => t != dx && (t != dy && P.zipIdx.all fun (p, j) => p.dst != some t || bindsOn o j)
  | _ => true)))
def pairShape (m : Nat) (P : List Oper) (x y u v : Oper) : Bool :=
 match x.op, x.dst, y.op, y.dst, u.op, v.op with
 | .alloc _, some dx, .alloc _, some dy, .store _ (.tmp ux) (.tmp eu), .store _ (.tmp vx) (.tmp ev) =>
   ux == dx && (vx == dy && (x.guard.isNone && (y.guard.isNone && (u.guard.isNone && (v.guard.isNone && (u.dst.isNone && (v.dst.isNone &&
   (noDup (dx :: dy :: P.filterMap (·.dst)) && (plainAll dx dy P && (bindsOn u m && (bindsOn u (m + 1) && (P.zipIdx.any (fun (p, j) => p.dst == some eu && bindsOn u j) &&
   (bindsOn v m && (bindsOn v (m + 1) && (bindsOn v (m + 2) && P.zipIdx.any (fun (p, j) => p.dst == some ev && bindsOn v j))))))))))))))))
 | _, _, _, _, _, _ => false
def pairOk (ops : List Oper) : Bool :=
 lowOk ops && (match ops.drop (ops.length - 4) with
 | [x, y, u, v] => pairShape (ops.length - 4) (ops.take (ops.length - 4)) x y u v
 | _ => false)
def drawOk (E : Env) (ops : List Oper) : Bool := drawOk0 E ops || pairOk ops
def stale (n : Nat) : D → Bool
 | .asl (.loc i) _ _ => decide (n ≤ i)
 | .pba (.loc i) _ _ _ => decide (n ≤ i)
 | .pbx (.loc i) _ => decide (n ≤ i)
 | .fn _ cap => !(cap.all D.capOk)
 | .tup _ => true
 | _ => false
def keepT (keep : List Nat) (n : Nat) : Nat → List D → List D
 | _, [] => []
 | i, d :: l => (if keep.contains i && !(stale n d) then d else .junk) :: keepT keep n (i + 1) l
def clean (keep : List Nat) (n : Nat) (s : S) : S := { s with t := keepT keep n 0 s.t, loc := s.loc.take n }
def firstRegion : Code → Nat
 | .region i _ _ => i
 | .seq a _ => firstRegion a
 | .block _ b => firstRegion b
 | .loop b => firstRegion b
 | .cond _ a _ => firstRegion a
 | .scope b => firstRegion b
 | _ => 0
def tree (E : Env) (kp : Nat → List Nat) : Code → S → (X → S → T) → T
 | .skip, s, K => K .normal s
 | .ret, s, K => K .ret s
 | .exit i, s, K => K (.exit i) s
 | .seq a b, s, K => tree E kp a s fun e s' => match e with
   | .normal => tree E kp b s' K
   | e => K e s'
 | .cond c a b, s, K => match s.ev c with
   | .bool v => .test v (fun _ => tree E kp a s K) (fun _ => tree E kp b s K)
   | _ => .fail
 | .block i b, s, K => tree E kp b s fun e s' => match e with
   | .exit j => if j = i then K .normal s' else K (.exit j) s'
   | e => K e s'
 | .loop b, s, K => .loop b kp (clean (kp (firstRegion b)) s.loc.length s) K
 | .region _ ops draw, s, K => match draw with
   | false => opsT E ops.toList ops.toList s (K .normal)
   | true => .need (drawOk E ops.toList) (opsT E ops.toList ops.toList s (K .normal))
 | _, _, _ => .fail
def appTok (t : Tok) (n m : Nat) (tk : List Nat) : Option (Tok × List Nat) :=
 match t with
 | .nil => if m = 0 then some (.nil, tk) else some (.own tk.length, tk ++ [n + m])
 | .cap => if m = 0 then some (.cap, tk) else some (.own tk.length, tk ++ [n + m])
 | .own i => if tk[i]? = some n then some (.own i, tk.set i (n + m)) else none
 | .ofs i off => if tk[i]? = some (off + n) then some (.ofs i off, tk.set i (off + n + m)) else none
 | .ro => none
 | .nw => none
def resD (E : Env) (s : S) : List ResultVar → Option (List D)
 | [] => some []
 | .tmp t :: l => (resD E s l).map (s.t.getD t .junk :: ·)
 | .cell a t :: l => match s.t.getD a .junk with
   | .pbx r off => match s.box r with
     | some [cs] => if (E.ty t).fits off cs.length then (resD E s l).map (part (E.ty t).k.isSt (E.ty t).size cs off :: ·) else none
     | _ => none
   | _ => none
def D.frozen (s : S) : D → D
 | .asl (.loc i) z n => match s.loc[i]? with
   | some es => if es.all (fun e => e.all D.cell) then .sl .ro z es else .junk
   | none => .junk
 | d => d
def D.frozenN (s : S) : D → D
 | .asl (.loc i) z n => match s.loc[i]? with
   | some es => if es.all (fun e => e.all D.cell) then .sl .nw z es else .junk
   | none => .junk
 | d => d
def outD (E : Env) (nw : Bool) (s : S) (res : List ResultVar) : Option D := (resD E s res).bind fun ds => if nw then resOfN (ds.map (D.frozenN s)) else resOf (ds.map (D.frozen s))
def enterS (fi : FnI) (args : List D) (out : List Box) (tk : List Nat) : S := ⟨args ++ List.replicate (fi.ntmps - args.length) .junk, [], out, tk⟩
def callR (E : Env) (rec : T → Option (X × S)) (f : FuncId) (fi : FnI) (args : List D) (out : List Box) (tk : List Nat) : Option (List D × List Box × List Nat × List Box) :=
 match E.extc f with
 | some g => g args out tk
 | none => match rec (tree E fi.keep fi.body (enterS fi args out tk) .done) with
   | some (.normal, s) | some (.ret, s) => (resD E s fi.res).map fun ds => (ds, s.out, s.tk, s.loc)
   | _ => none
def runT (E : Env) (rec : T → Option (X × S)) : T → Option (X × S)
 | .done x s => some (x, s)
 | .fail => none
 | .need b k => if b then runT E rec k else none
 | .test b x y => if b then runT E rec (x ()) else runT E rec (y ())
 | .fetch es i k => if 0 ≤ i then match es[i.toNat]? with
     | some cs => runT E rec (k cs)
     | none => none
   else none
 | .app t n m tk k => match appTok t n m tk with
   | some (t', tk') => runT E rec (k t' tk')
   | none => none
 | .ext f args k => match E.ext f with
   | some g => match g args with
     | some d => runT E rec (k d)
     | none => none
   | none => none
 | .pcall f args k => match E.fn f with
   | some fi => if args.length ≤ fi.ntmps then
       match rec (tree E fi.keep fi.body (enterS fi args [] []) .done) with
       | some (.normal, s) | some (.ret, s) => match outD E fi.nw s fi.res with
         | some d => runT E rec (k d)
         | none => none
       | _ => none
     else none
   | none => none
 | .call f args out tk k => match E.fn f with
   | some fi => if args.length ≤ fi.ntmps then
       match callR E rec f fi args out tk with
       | some (ds, out', tk', loc') => runT E rec (k ds out' tk' loc')
       | none => none
     else none
   | none => none
 | .loop b kp s k => match rec (tree E kp b s .done) with
   | some (.normal, s') => rec (.loop b kp (clean (kp (firstRegion b)) s.loc.length s') k)
   | some (e, s') => runT E rec (k e s')
   | none => none
def run (E : Env) : Nat → T → Option (X × S)
 | 0 => runT E fun _ => none
 | n + 1 => runT E (run E n)
end Go.Mach
namespace Go.Mach
open Go Go.RowKit
theorem cell_of_getElem {cs : List D} (h : ∀ c ∈ cs, D.cell c = true) {i : Nat} (hi : i < cs.length) : D.cell (cs.getD i .junk) = true := by
 rw [List.getD_eq_getElem?_getD, List.getElem?_eq_getElem hi]; exact h _ (List.getElem_mem hi)
inductive RD (σ : Nat → Nat) (w : World) : D → Value → Prop
 | int (k n) : RD σ w (.int k n) (.int k n)
 | bool (b) : RD σ w (.bool b) (.bool b)
 | str (s) : RD σ w (.str s) (.string s)
 | pnil : RD σ w .pnil (.pointer none)
 | agg (cs : List D) (vs : Array Value) (hl : vs.size = cs.length) (hc : ∀ c ∈ cs, D.cell c = true) (h : ∀ i, i < cs.length → RD σ w (cs.getD i .junk) (vs.getD i undef)) : RD σ w (.agg cs) (.agg vs)
 | tup (cs : List D) (vs : Array Value) (hl : vs.size = cs.length) (hc : ∀ c ∈ cs, D.flat c = true) (h : ∀ i, i < cs.length → RD σ w (cs.getD i .junk) (vs.getD i undef)) : RD σ w (.tup cs) (.tuple vs)
 | slN (t z) : RD σ w (.sl t z []) (.slice none 0 0)
 | sl (t z) (es : Box) (b o cap : Nat) (f : Nat → Nat → Value) (ht : t ≠ .nil) (hz : 0 < z) (hl : ∀ e ∈ es, e.length = z) (hc : ∀ e ∈ es, ∀ c ∈ e, D.cell c = true) (hcap : es.length ≤ cap)
  (hs : es ≠ [] → o + es.length * z ≤ σ b) (hw : ∀ i j, i < es.length → j < z → w.cell? ⟨b, o + i * z + j, none⟩ = some (f i j))
  (h : ∀ i j, i < es.length → j < z → RD σ w ((es.getD i []).getD j .junk) (f i j)) : RD σ w (.sl t z es) (.slice (some ⟨b, o, none⟩) es.length cap)
theorem RD.mono {σ σ' : Nat → Nat} {w w' : World} (hσ : ∀ b, σ b ≤ σ' b) (hw : ∀ b o, o < σ b → w'.cell? ⟨b, o, none⟩ = w.cell? ⟨b, o, none⟩) {d : D} {v : Value} (h : RD σ w d v) : RD σ' w' d v := by
 induction h with
 | int k n => exact .int k n
 | bool b => exact .bool b
 | str s => exact .str s
 | pnil => exact .pnil
 | agg cs vs hl hc _ ih => exact .agg cs vs hl hc ih
 | tup cs vs hl hc _ ih => exact .tup cs vs hl hc ih
 | slN t z => exact .slN t z
 | sl t z es b o cap f ht hz hl hc hcap hs hcell _ ih =>
   refine .sl t z es b o cap f ht hz hl hc hcap (fun h0 => Nat.le_trans (hs h0) (hσ b)) (fun i j hi hj => ?_) ih
   rw [hw, hcell i j hi hj]
   have h0 : es ≠ [] := by intro h; subst h; simp at hi
   have h1 := hs h0
   have h2 : i * z + j < es.length * z := by
    have : (i + 1) * z ≤ es.length * z := Nat.mul_le_mul_right _ hi
    rw [Nat.succ_mul] at this; omega
   omega
theorem RD.one {σ : Nat → Nat} {w : World} {d : D} {v : Value} (h : RD σ w d v) (hd : d.cell = true) : v.oneCell' = true := by
 cases h <;> first | rfl | simp [D.cell] at hd
theorem RD.one' {σ : Nat → Nat} {w : World} {d : D} {v : Value} (h : RD σ w d v) (hd : d.atom = true) : v.oneCell' = true := by
 cases h <;> first | rfl | simp [D.atom] at hd
theorem RD.ro {σ : Nat → Nat} {w : World} {t z es v} (h : RD σ w (.sl t z es) v) : RD σ w (.sl .ro z es) v := by
 cases h with
 | slN => exact .slN _ _
 | sl _ _ _ b o cap f ht hz hl hc hcap hs hcell h => exact .sl _ _ _ b o cap f (by simp) hz hl hc hcap hs hcell h
theorem RD.tok {σ : Nat → Nat} {w : World} {t z es v} (t' : Tok) (ht' : t' ≠ .nil) (h : RD σ w (.sl t z es) v) : RD σ w (.sl t' z es) v := by
 cases h with
 | slN => exact .slN _ _
 | sl _ _ _ b o cap f ht hz hl hc hcap hs hcell h => exact .sl _ _ _ b o cap f ht' hz hl hc hcap hs hcell h
theorem RD.roD {σ : Nat → Nat} {w : World} {d v} (h : RD σ w d v) : RD σ w d.ro v := by
 cases d <;> first | exact h | exact h.ro
theorem RD.plainD {σ : Nat → Nat} {w : World} {d v} (h : RD σ w d v) : RD σ w d.plain v := by
 cases d with
 | sl t z es => cases t <;> first | exact h | exact h.ro
 | _ => exact h
theorem plain_cell {d : D} (h : d.atom = true) : d.plain.cell = true := by
 cases d with
 | sl t z es => cases t <;> rfl
 | _ => first | rfl | simp [D.atom] at h
theorem ro_cell {d : D} (h : d.atom = true) : d.ro.cell = true := by
 cases d <;> first | rfl | simp [D.atom] at h
theorem cell_atom {d : D} (h : d.cell = true) : d.atom = true := by
 cases d <;> first | rfl | simp [D.cell] at h
structure Pl where
 b : Nat
 o : Nat
 z : Nat
 n : Nat
structure Fx where
 w0 : World
 out : List Pl
 tkb0 : List Nat
 tk0 : List Nat
 ice0 : Nat → Nat
 tlow : Nat → Nat
 lm : Nat
structure Gh where
 loc : List Pl
 tkb : List Nat
 ice : Nat → Nat
def Fx.base (F : Fx) : Nat := F.w0.heap.size
def Fx.lim (F : Fx) : Nat := min F.lm F.base
theorem Fx.lim_le (F : Fx) : F.lim ≤ F.base := Nat.min_le_right _ _
def Fx.low (F : Fx) (i : Nat) : Nat := max F.lim (if i < F.tk0.length then min (F.tlow i) F.base else F.base)
theorem Fx.low_le (F : Fx) (i : Nat) : F.low i ≤ F.base := by have := F.lim_le; unfold Fx.low; split <;> omega
theorem Fx.lim_low (F : Fx) (i : Nat) : F.lim ≤ F.low i := Nat.le_max_left _ _
def place (F : Fx) (G : Gh) : Ref → Option Pl
 | .loc i => G.loc[i]?
 | .out i => F.out[i]?
def Spare (G : Gh) (w : World) (i b o z n cap : Nat) : Prop :=
 G.tkb[i]? = some b ∧ o + n * z = G.ice b ∧ ∃ c e, w.heap[b]? = some (.cells c e (0, 0)) ∧ o + cap * z ≤ c.size
def NewR (lm : Nat) (ice : Nat → Nat) (w : World) (z : Nat) (es : Box) (v : Value) : Prop :=
 ∀ b o l c, v = .slice (some ⟨b, o, none⟩) l c → lm ≤ b ∧ ∀ j, j < es.length * z → o + j < ice b ∧ w.frozen? ⟨b, o + j, none⟩ = false
theorem NewR.mono {lm lm' : Nat} {ice ice' : Nat → Nat} {w w' : World} {z es v} (h : NewR lm ice w z es v) (hl : lm' ≤ lm) (hi : ∀ b, ice b ≤ ice' b) (hf : ∀ b o, o < ice b → w.frozen? ⟨b, o, none⟩ = false → w'.frozen? ⟨b, o, none⟩ = false) : NewR lm' ice' w' z es v :=
 fun b o l c hv => ⟨Nat.le_trans hl (h b o l c hv).1, fun j hj => ⟨Nat.lt_of_lt_of_le ((h b o l c hv).2 j hj).1 (hi b), hf b _ ((h b o l c hv).2 j hj).1 ((h b o l c hv).2 j hj).2⟩⟩
def NwD (lm : Nat) (ice : Nat → Nat) (w : World) : D → Value → Prop
 | .sl .nw z es, v => NewR lm ice w z es v
 | .tup cs, .tuple vs => ∀ i z es, cs[i]? = some (.sl .nw z es) → NewR lm ice w z es (vs.getD i undef)
 | _, _ => True
theorem NwD.mono {lm lm' : Nat} {ice ice' : Nat → Nat} {w w' : World} {d v} (h : NwD lm ice w d v) (hl : lm' ≤ lm) (hi : ∀ b, ice b ≤ ice' b) (hf : ∀ b o, o < ice b → w.frozen? ⟨b, o, none⟩ = false → w'.frozen? ⟨b, o, none⟩ = false) : NwD lm' ice' w' d v := by
 unfold NwD at *
 split at h
 · exact NewR.mono h hl hi hf
 · exact fun i z es he => (h i z es he).mono hl hi hf
 · trivial
def LiveOk (F : Fx) (G : Gh) (tk : List Nat) (w : World) (i off z : Nat) (es : Box) (v : Value) : Prop :=
 ∃ n, tk[i]? = some n ∧ off + es.length ≤ n ∧ NewR (F.low i) G.ice w z es v ∧
  (n = off + es.length → ∃ a cap, v = .slice a es.length cap ∧ (0 < off ∧ cap = 0 ∨ ∃ b o, a = some ⟨b, o, none⟩ ∧ Spare G w i b o z es.length cap))
def TokOk (F : Fx) (G : Gh) (tk : List Nat) (w : World) : D → Value → Prop
 | .sl .cap _ es, v => ∃ a, v = .slice a es.length es.length
 | .sl (.own i) z es, v => LiveOk F G tk w i 0 z es v
 | .sl (.ofs i off) z es, v => LiveOk F G tk w i off z es v
 | d, v => NwD F.lim G.ice w d v
def D.fin : D → Bool
 | .sl .cap _ _ | .sl (.own _) _ _ | .sl (.ofs _ _) _ _ => false
 | _ => true
theorem TokOk.of_fin {F G tk w d v} (h : d.fin = true) (hn : NwD F.lim G.ice w d v) : TokOk F G tk w d v := by
 unfold TokOk
 split <;> first | exact hn | simp [D.fin] at h
theorem TokOk.nwD {F G tk w d v} (h : d.fin = true) (ht : TokOk F G tk w d v) : NwD F.lim G.ice w d v := by
 unfold TokOk at ht
 split at ht <;> first | exact ht | simp [D.fin] at h
theorem NwD.elem {lm ice w} {cs : List D} {vs : Array Value} (h : NwD lm ice w (.tup cs) (.tuple vs)) {i : Nat} (hi : i < cs.length) (hf : (cs.getD i .junk).flat = true) : NwD lm ice w (cs.getD i .junk) (vs.getD i undef) := by
 have h0 : cs[i]? = some (cs.getD i .junk) := by rw [List.getD_eq_getElem?_getD, List.getElem?_eq_getElem hi]; rfl
 generalize cs.getD i .junk = d at h0 hf
 unfold NwD
 split
 · exact h i _ _ h0
 · simp [D.flat] at hf
 · trivial
theorem flat_fin {d : D} (h : d.flat = true) : d.fin = true := by
 cases d with
 | sl t z es => cases t <;> first | rfl | simp [D.flat] at h
 | _ => rfl
theorem NwD.of_free {lm ice w d v} (h : d.free = true) : NwD lm ice w d v := by
 unfold NwD
 split
 · simp [D.free] at h
 · intro i z es he
   simp only [D.free, List.all_eq_true] at h
   have := h _ (List.mem_of_getElem? he)
   simp [D.old] at this
 · trivial
theorem free_fin {d : D} (h : d.free = true) : d.fin = true := by
 cases d with
 | sl t z es => cases t <;> first | rfl | simp [D.free] at h
 | _ => rfl
theorem TokOk.of_free {F G tk w d v} (h : d.free = true) : TokOk F G tk w d v := .of_fin (free_fin h) (.of_free h)
theorem free_cell {d : D} (h : d.cell = true) : d.free = true := by
 cases d with
 | sl t z es => cases t <;> first | rfl | simp [D.cell] at h
 | _ => first | rfl | simp [D.cell] at h
inductive Rep (F : Fx) (G : Gh) (tk : List Nat) (w : World) : D → Value → Prop
 | junk (v) : Rep F G tk w .junk v
 | dat {d v} (h : RD G.ice w d v) (ht : TokOk F G tk w d v) : Rep F G tk w d v
 | pel (cs : List D) (off b p : Nat) (f : Nat → Value) (hs : p + cs.length ≤ G.ice b) (hc : ∀ c ∈ cs, D.cell c = true) (hw : ∀ j, j < cs.length → w.cell? ⟨b, p + j, none⟩ = some (f j))
  (h : ∀ j, j < cs.length → RD G.ice w (cs.getD j .junk) (f j)) : Rep F G tk w (.pel cs off) (.pointer (some ⟨b, p + off, none⟩))
 | asl (r z n cap b o) (hp : place F G r = some ⟨b, o, z, n⟩) (hn : n ≤ cap) : Rep F G tk w (.asl r z n) (.slice (some ⟨b, o, none⟩) n cap)
 | pba (r z i off b o n) (hp : place F G r = some ⟨b, o, z, n⟩) (hi : 0 ≤ i) : Rep F G tk w (.pba r z i off) (.pointer (some ⟨b, o + i.toNat * z + off, none⟩))
 | pbx (r off b o z n) (hp : place F G r = some ⟨b, o, z, n⟩) : Rep F G tk w (.pbx r off) (.pointer (some ⟨b, o + off, none⟩))
 | fn (f : FuncId) (cap : List D) (vs : Array Value) (hl : vs.size = cap.length) (h : ∀ i, i < cap.length → Rep F G tk w (cap.getD i .junk) (vs.getD i undef)) : Rep F G tk w (.fn f cap) (.func (.func f) #[] vs)
structure Ext (G : Gh) (tk : List Nat) (w : World) (G' : Gh) (tk' : List Nat) (w' : World) : Prop where
 loc : ∀ (i : Nat) (p : Pl), G.loc[i]? = some p → G'.loc[i]? = some p
 ice : ∀ b, G.ice b ≤ G'.ice b
 cell : ∀ b o, o < G.ice b → w'.cell? ⟨b, o, none⟩ = w.cell? ⟨b, o, none⟩
 frz : ∀ b o, o < G.ice b → w.frozen? ⟨b, o, none⟩ = false → w'.frozen? ⟨b, o, none⟩ = false
 tok : ∀ (i n : Nat), tk[i]? = some n → ∃ n', tk'[i]? = some n' ∧ n ≤ n' ∧ (n' = n → ∀ b, G.tkb[i]? = some b → G'.tkb[i]? = some b ∧ G'.ice b = G.ice b ∧
  ∀ c e, w.heap[b]? = some (.cells c e (0, 0)) → ∃ c', w'.heap[b]? = some (.cells c' e (0, 0)) ∧ c'.size = c.size)
theorem Ext.refl (G tk w) : Ext G tk w G tk w := ⟨fun _ _ h => h, fun _ => Nat.le_refl _, fun _ _ _ => rfl, fun _ _ _ h => h, fun i n h => ⟨n, h, Nat.le_refl _, fun _ b hb => ⟨hb, rfl, fun c e hc => ⟨c, hc, rfl⟩⟩⟩⟩
theorem Ext.trans {G tk w G' tk' w' G'' tk'' w''} (h : Ext G tk w G' tk' w') (k : Ext G' tk' w' G'' tk'' w'') : Ext G tk w G'' tk'' w'' := by
 refine ⟨fun i p hp => k.loc i p (h.loc i p hp), fun b => Nat.le_trans (h.ice b) (k.ice b), fun b o ho => ?_, fun b o ho hz => k.frz b o (Nat.lt_of_lt_of_le ho (h.ice b)) (h.frz b o ho hz), fun i n hn => ?_⟩
 · rw [k.cell b o (Nat.lt_of_lt_of_le ho (h.ice b)), h.cell b o ho]
 · obtain ⟨n', h1, h2, h3⟩ := h.tok i n hn
   obtain ⟨n'', k1, k2, k3⟩ := k.tok i n' h1
   refine ⟨n'', k1, Nat.le_trans h2 k2, fun e b hb => ?_⟩
   obtain ⟨a1, a2, a3⟩ := h3 (by omega) b hb
   obtain ⟨b1, b2, b3⟩ := k3 (by omega) b a1
   refine ⟨b1, by rw [b2, a2], fun c e hc => ?_⟩
   obtain ⟨c', hc', hs⟩ := a3 c e hc
   obtain ⟨c'', hc'', hs'⟩ := b3 c' e hc'
   exact ⟨c'', hc'', by rw [hs', hs]⟩
theorem LiveOk.ext {F G tk w G' tk' w'} (h : Ext G tk w G' tk' w') {i off z es v} (ht : LiveOk F G tk w i off z es v) : LiveOk F G' tk' w' i off z es v := by
 obtain ⟨n, hn, hle, hf, ha⟩ := ht
 obtain ⟨n', h1, h2, h3⟩ := h.tok i n hn
 refine ⟨n', h1, by omega, hf.mono (Nat.le_refl _) h.ice h.frz, fun e => ?_⟩
 have hnn : n = off + es.length := by omega
 obtain ⟨a, cap, hv, hc⟩ := ha hnn
 refine ⟨a, cap, hv, ?_⟩
 rcases hc with hc | ⟨b, o, hab, hb, ho, c, e', hcell, hsz⟩
 · exact .inl hc
 · obtain ⟨a1, a2, a3⟩ := h3 (by omega) b hb
   obtain ⟨c', hc', hs'⟩ := a3 c e' hcell
   exact .inr ⟨b, o, hab, a1, by rw [a2]; exact ho, c', e', hc', by omega⟩
theorem TokOk.ext {F G tk w G' tk' w'} (h : Ext G tk w G' tk' w') {d v} (ht : TokOk F G tk w d v) : TokOk F G' tk' w' d v := by
 have hx : NwD F.lim G.ice w d v → NwD F.lim G'.ice w' d v := fun h0 => h0.mono (Nat.le_refl _) h.ice h.frz
 cases d with
 | sl t z es =>
   cases t with
   | cap => exact ht
   | own i => exact LiveOk.ext h ht
   | ofs i off => exact LiveOk.ext h ht
   | _ => exact hx ht
 | _ => exact hx ht
theorem place.ext {F G tk w G' tk' w'} (h : Ext G tk w G' tk' w') {r p} (hp : place F G r = some p) : place F G' r = some p := by
 cases r with
 | loc i => exact h.loc i p hp
 | out i => exact hp
theorem Rep.ext {F G tk w G' tk' w'} (h : Ext G tk w G' tk' w') {d v} (hr : Rep F G tk w d v) : Rep F G' tk' w' d v := by
 induction hr with
 | junk v => exact .junk v
 | dat hd ht => exact .dat (hd.mono h.ice h.cell) (ht.ext h)
 | pel cs off b p f hs hc hw hh =>
   refine .pel cs off b p f (Nat.le_trans hs (h.ice b)) hc (fun j hj => ?_) (fun j hj => (hh j hj).mono h.ice h.cell)
   rw [h.cell b (p + j) (by omega), hw j hj]
 | asl r z n cap b o hp hn => exact .asl r z n cap b o (hp := place.ext h hp) hn
 | pba r z i off b o n hp hi => exact .pba r z i off b o n (place.ext h hp) hi
 | pbx r off b o z n hp => exact .pbx r off b o z n (place.ext h hp)
 | fn f cap vs hl _ ih => exact .fn f cap vs hl ih
end Go.Mach
