/- What the statements share: part 22 of a proof by an executable machine over the program's code. -/
import Derived.Test.YtbkpkchegopmiaaGreatDoorMc12
import Derived.Laws.StructEq
import Derived.Shelf.Sort.Plain
import Derived.Shelf.Strings.Split
import Derived.Test.YtbkpkchegopmiaaGreatDoorProg
set_option linter.unusedVariables false
set_option linter.unusedSimpArgs false
set_option maxRecDepth 100000
set_option maxHeartbeats 4000000
namespace Go.Mach
open Go Go.RowKit Go.Proofs
def zeroChk : List D → List Value → Bool
 | [], [] => true
 | .int k n :: l, .int k' n' :: m => decide (k = k') && (decide (n = n') && zeroChk l m)
 | .bool a :: l, .bool b :: m => (a == b) && zeroChk l m
 | .str a :: l, .string b :: m => a.data.toList.isEmpty && (b.data.toList.isEmpty && zeroChk l m)
 | .sl .nil _ [] :: l, .slice none 0 0 :: m => zeroChk l m
 | .pnil :: l, .pointer none :: m => zeroChk l m
 | _, _ => false
theorem empty_ba {a : ByteArray} (h : a.data.toList.isEmpty = true) : a = ⟨#[]⟩ := by
 obtain ⟨⟨l⟩⟩ := a
 cases l with
 | nil => rfl
 | cons x l => cases h
theorem zero_cons {d : D} {v : Value} {l : List D} {m : List Value} (hd : d.cell = true) (hr : ∀ σ w, RD σ w d v) (h : m.length = l.length ∧ ∀ i, i < l.length → (l.getD i .junk).cell = true ∧ ∀ σ w, RD σ w (l.getD i .junk) (m.getD i undef)) :
  (v :: m).length = (d :: l).length ∧ ∀ i, i < (d :: l).length → ((d :: l).getD i .junk).cell = true ∧ ∀ σ w, RD σ w ((d :: l).getD i .junk) ((v :: m).getD i undef) := by
 refine ⟨by simp [h.1], fun i hi => ?_⟩
 cases i with
 | zero => exact ⟨hd, hr⟩
 | succ i => exact h.2 i (by simpa using hi)
theorem zeroChk_ok : ∀ (l : List D) (m : List Value), zeroChk l m = true → m.length = l.length ∧ ∀ i, i < l.length → (l.getD i .junk).cell = true ∧ ∀ σ w, RD σ w (l.getD i .junk) (m.getD i undef) := by
 intro l m h
 induction l, m using zeroChk.induct with
 | case1 => exact ⟨rfl, fun i hi => by simp at hi⟩
 | case2 k n l k' n' m ih =>
   simp only [zeroChk, Bool.and_eq_true, decide_eq_true_eq] at h
   obtain ⟨rfl, rfl, h⟩ := h
   exact zero_cons rfl (fun σ w => .int _ _) (ih h)
 | case3 a l b m ih =>
   simp only [zeroChk, Bool.and_eq_true, beq_iff_eq] at h
   obtain ⟨rfl, h⟩ := h
   exact zero_cons rfl (fun σ w => .bool _) (ih h)
 | case4 a l b m ih =>
   simp only [zeroChk, Bool.and_eq_true] at h
   obtain ⟨h1, h2, h⟩ := h
   rw [empty_ba h1, empty_ba h2]
   exact zero_cons rfl (fun σ w => .str _) (ih h)
 | case5 z l m ih => exact zero_cons rfl (fun σ w => .slN _ _) (ih (by simpa [zeroChk] using h))
 | case6 l m ih => exact zero_cons rfl (fun σ w => .pnil) (ih (by simpa [zeroChk] using h))
 | case7 l m => simp [zeroChk] at h
def kChk (P : Program) (t : TypeId) (k : Mach.K) : Bool :=
 match k, P.underlying t with
 | .bool, some .bool => true
 | .int k, some (.int k') => decide (k = k')
 | .str, some .string => true
 | .ptr e, some (.pointer e') => decide (e' = e)
 | .sl e z b, some (.slice e') => decide (e' = e) && (decide (0 < z) && (match P.info? e with
   | some ie => match ie.zero with
     | some zv => decide (ie.size = z) && (decide (ie.bytes = b) && decide (zv.cells.size = z))
     | none => false
   | none => false))
 | .st fs, some (.struct gs) => decide (gs.size = fs.length) && (List.range fs.length).all fun n => match fs[n]?, gs[n]? with
   | some (o, z, ag), some f => match P.underlying f.type, P.info? f.type with
     | some d, some fi => decide (f.offset = o) && ((d.isRow == ag) && decide (fi.size = z))
     | _, _ => false
   | _, _ => false
 | .other, _ => true
 | _, _ => false
def iChk (P : Program) (t : TypeId) (i : TyI) : Bool :=
 match P.info? t with
 | some ie => match ie.zero with
   | some zv => decide (ie.size = i.size) && zeroChk i.zero zv.cells.toList
   | none => false
 | none => false
theorem tyChk_ok {P : Program} {t : TypeId} {i : TyI} (hk : kChk P t i.k = true) (hi : iChk P t i = true) : TyOk P t i := by
 unfold kChk at hk
 refine ⟨fun e => ?_, fun k e => ?_, fun e => ?_, fun x e => ?_, fun x z b e => ?_, fun fs e => ?_, fun _ => ?_⟩
 · rw [e] at hk
   split at hk <;> first | contradiction | assumption
 · rw [e] at hk
   split at hk <;> first | contradiction | (rename_i h1 h2; cases h1; simp only [decide_eq_true_eq] at hk; rw [hk]; assumption)
 · rw [e] at hk
   split at hk <;> first | contradiction | assumption
 · rw [e] at hk
   split at hk <;> first | contradiction | (rename_i h1 h2; cases h1; simp only [decide_eq_true_eq] at hk; rw [← hk]; assumption)
 · rw [e] at hk
   split at hk <;> first
    | contradiction
    | (rename_i h1 h2
       cases h1
       simp only [Bool.and_eq_true, decide_eq_true_eq] at hk
       obtain ⟨q1, q2, q3⟩ := hk
       split at q3
       · rename_i ie hie
         split at q3
         · rename_i zv hzv
           simp only [Bool.and_eq_true, decide_eq_true_eq] at q3
           exact ⟨by rw [← q1]; assumption, q2, ie, zv, hie, q3.1, q3.2.1, hzv, q3.2.2⟩
         · cases q3
       · cases q3)
 · rw [e] at hk
   split at hk <;> first
    | contradiction
    | (rename_i gs h1 h2
       cases h1
       simp only [Bool.and_eq_true, decide_eq_true_eq] at hk
       refine ⟨gs, by assumption, hk.1, fun n o z ag hf => ?_⟩
       have hn := (List.getElem?_eq_some_iff.1 hf).1
       have := List.all_eq_true.1 hk.2 n (List.mem_range.2 hn)
       rw [hf] at this
       split at this
       · rename_i o' z' ag' f q1 q2
         cases q1
         split at this
         · rename_i d fi q3 q4
           simp only [Bool.and_eq_true, decide_eq_true_eq, beq_iff_eq] at this
           exact ⟨f, d, q2, this.1, q3, by rw [this.2.1], fi, q4, this.2.2⟩
         · cases this
       · cases this)
 · unfold iChk at hi
   split at hi
   · rename_i ie hie
     split at hi
     · rename_i zv hzv
       simp only [Bool.and_eq_true, decide_eq_true_eq] at hi
       have hz := zeroChk_ok _ _ hi.2
       refine ⟨ie, zv, hie, hi.1, hzv, by rw [← hz.1, Array.length_toList], fun j hj => ?_⟩
       have := hz.2 j hj
       refine ⟨this.1, fun σ w => ?_⟩
       have h2 := this.2 σ w
       have e : zv.cells.toList.getD j undef = zv.cells.getD j undef := by simp [List.getD_eq_getElem?_getD, Array.getD_eq_getD_getElem?]
       rw [e] at h2; exact h2
     · cases hi
   · cases hi
theorem tyOther {P : Program} {t : TypeId} : TyOk P t ⟨.other, 0, 0, [], false⟩ :=
 ⟨fun e => (by cases e), fun k e => (by cases e), fun e => (by cases e), fun x e => (by cases e), fun x z b e => (by cases e), fun fs e => (by cases e), fun h => absurd rfl h⟩
theorem ty_ok : ∀ t, TyOk Tryz.prog t (ty t) := by
 intro t
 unfold ty
 split <;> first | exact tyOther | exact tyChk_ok (by kernel_rfl) (by kernel_rfl)
theorem FnOk.of {P : Program} {n : FuncId} {f : Func} {kp : Nat → List Nat} {b q r : Bool} (h : P.funcs[n]? = some f) (hb : f.body.isSome = true) (hn : decide (f.name = "runtime.NumGoroutine") = false) : FnOk P n (fni f kp b q r) :=
 ⟨f, h, by obtain ⟨c, hc⟩ := Option.isSome_iff_exists.1 hb; simp [fni, bodyOf, hc], rfl, by simp [fni], of_decide_eq_false hn⟩
theorem fnOk0 (f : FuncId) (fi : FnI) (h : fnT0 f = some fi) : FnOk Tryz.prog f fi := by
 unfold fnT0 at h
 split at h
 · cases h; exact FnOk.of Tryz.func3 (by kernel_rfl) (by kernel_rfl)
 · cases h; exact FnOk.of Tryz.func4 (by kernel_rfl) (by kernel_rfl)
 · cases h; exact FnOk.of Tryz.func5 (by kernel_rfl) (by kernel_rfl)
 · cases h; exact FnOk.of Tryz.func6 (by kernel_rfl) (by kernel_rfl)
 · cases h; exact FnOk.of Tryz.func7 (by kernel_rfl) (by kernel_rfl)
 · cases h; exact FnOk.of Tryz.func8 (by kernel_rfl) (by kernel_rfl)
 · cases h; exact FnOk.of Tryz.func9 (by kernel_rfl) (by kernel_rfl)
 · cases h; exact FnOk.of Tryz.func10 (by kernel_rfl) (by kernel_rfl)
 · cases h; exact FnOk.of Tryz.func11 (by kernel_rfl) (by kernel_rfl)
 · cases h; exact FnOk.of Tryz.func12 (by kernel_rfl) (by kernel_rfl)
 · cases h; exact FnOk.of Tryz.func13 (by kernel_rfl) (by kernel_rfl)
 · cases h; exact FnOk.of Tryz.func14 (by kernel_rfl) (by kernel_rfl)
 · cases h; exact FnOk.of Tryz.func15 (by kernel_rfl) (by kernel_rfl)
 · cases h; exact FnOk.of Tryz.func16 (by kernel_rfl) (by kernel_rfl)
 · cases h; exact FnOk.of Tryz.func17 (by kernel_rfl) (by kernel_rfl)
 · cases h; exact FnOk.of Tryz.func18 (by kernel_rfl) (by kernel_rfl)
 · cases h; exact FnOk.of Tryz.func19 (by kernel_rfl) (by kernel_rfl)
 · cases h; exact FnOk.of Tryz.func20 (by kernel_rfl) (by kernel_rfl)
 · cases h; exact FnOk.of Tryz.func21 (by kernel_rfl) (by kernel_rfl)
 · cases h; exact FnOk.of Tryz.func22 (by kernel_rfl) (by kernel_rfl)
 · cases h; exact FnOk.of Tryz.func23 (by kernel_rfl) (by kernel_rfl)
 · cases h
theorem fnOk1 (f : FuncId) (fi : FnI) (h : fnT1 f = some fi) : FnOk Tryz.prog f fi := by
 unfold fnT1 at h
 split at h
 · cases h; exact FnOk.of Tryz.func24 (by kernel_rfl) (by kernel_rfl)
 · cases h; exact FnOk.of Tryz.func25 (by kernel_rfl) (by kernel_rfl)
 · cases h; exact FnOk.of Tryz.func26 (by kernel_rfl) (by kernel_rfl)
 · cases h; exact FnOk.of Tryz.func27 (by kernel_rfl) (by kernel_rfl)
 · cases h; exact FnOk.of Tryz.func28 (by kernel_rfl) (by kernel_rfl)
 · cases h; exact FnOk.of Tryz.func29 (by kernel_rfl) (by kernel_rfl)
 · cases h; exact FnOk.of Tryz.func30 (by kernel_rfl) (by kernel_rfl)
 · cases h; exact FnOk.of Tryz.func31 (by kernel_rfl) (by kernel_rfl)
 · cases h; exact FnOk.of Tryz.func32 (by kernel_rfl) (by kernel_rfl)
 · cases h; exact FnOk.of Tryz.func33 (by kernel_rfl) (by kernel_rfl)
 · cases h; exact FnOk.of Tryz.func34 (by kernel_rfl) (by kernel_rfl)
 · cases h; exact FnOk.of Tryz.func35 (by kernel_rfl) (by kernel_rfl)
 · cases h; exact FnOk.of Tryz.func36 (by kernel_rfl) (by kernel_rfl)
 · cases h; exact FnOk.of Tryz.func37 (by kernel_rfl) (by kernel_rfl)
 · cases h; exact FnOk.of Tryz.func38 (by kernel_rfl) (by kernel_rfl)
 · cases h; exact FnOk.of Tryz.func39 (by kernel_rfl) (by kernel_rfl)
 · cases h; exact FnOk.of Tryz.func40 (by kernel_rfl) (by kernel_rfl)
 · cases h; exact FnOk.of Tryz.func41 (by kernel_rfl) (by kernel_rfl)
 · cases h; exact FnOk.of Tryz.func42 (by kernel_rfl) (by kernel_rfl)
 · cases h; exact FnOk.of Tryz.func43 (by kernel_rfl) (by kernel_rfl)
 · cases h; exact FnOk.of Tryz.func44 (by kernel_rfl) (by kernel_rfl)
 · cases h; exact FnOk.of Tryz.func45 (by kernel_rfl) (by kernel_rfl)
 · cases h; exact FnOk.of Tryz.func46 (by kernel_rfl) (by kernel_rfl)
 · cases h; exact FnOk.of Tryz.func47 (by kernel_rfl) (by kernel_rfl)
 · cases h
theorem fnOk2 (f : FuncId) (fi : FnI) (h : fnT2 f = some fi) : FnOk Tryz.prog f fi := by
 unfold fnT2 at h
 split at h
 · cases h; exact FnOk.of Tryz.func48 (by kernel_rfl) (by kernel_rfl)
 · cases h; exact FnOk.of Tryz.func49 (by kernel_rfl) (by kernel_rfl)
 · cases h; exact FnOk.of Tryz.func50 (by kernel_rfl) (by kernel_rfl)
 · cases h; exact FnOk.of Tryz.func51 (by kernel_rfl) (by kernel_rfl)
 · cases h; exact FnOk.of Tryz.func52 (by kernel_rfl) (by kernel_rfl)
 · cases h; exact FnOk.of Tryz.func53 (by kernel_rfl) (by kernel_rfl)
 · cases h; exact FnOk.of Tryz.func54 (by kernel_rfl) (by kernel_rfl)
 · cases h; exact FnOk.of Tryz.func55 (by kernel_rfl) (by kernel_rfl)
 · cases h; exact FnOk.of Tryz.func56 (by kernel_rfl) (by kernel_rfl)
 · cases h; exact FnOk.of Tryz.func57 (by kernel_rfl) (by kernel_rfl)
 · cases h; exact FnOk.of Tryz.func58 (by kernel_rfl) (by kernel_rfl)
 · cases h; exact FnOk.of Tryz.func59 (by kernel_rfl) (by kernel_rfl)
 · cases h; exact FnOk.of Tryz.func60 (by kernel_rfl) (by kernel_rfl)
 · cases h; exact FnOk.of Tryz.func61 (by kernel_rfl) (by kernel_rfl)
 · cases h; exact FnOk.of Tryz.func62 (by kernel_rfl) (by kernel_rfl)
 · cases h; exact FnOk.of Tryz.func63 (by kernel_rfl) (by kernel_rfl)
 · cases h; exact FnOk.of Tryz.func64 (by kernel_rfl) (by kernel_rfl)
 · cases h; exact FnOk.of Tryz.func65 (by kernel_rfl) (by kernel_rfl)
 · cases h; exact FnOk.of Tryz.func66 (by kernel_rfl) (by kernel_rfl)
 · cases h; exact FnOk.of Tryz.func67 (by kernel_rfl) (by kernel_rfl)
 · cases h; exact FnOk.of Tryz.func68 (by kernel_rfl) (by kernel_rfl)
 · cases h; exact FnOk.of Tryz.func69 (by kernel_rfl) (by kernel_rfl)
 · cases h; exact FnOk.of Tryz.func70 (by kernel_rfl) (by kernel_rfl)
 · cases h; exact FnOk.of Tryz.func71 (by kernel_rfl) (by kernel_rfl)
 · cases h
theorem fnOk3 (f : FuncId) (fi : FnI) (h : fnT3 f = some fi) : FnOk Tryz.prog f fi := by
 unfold fnT3 at h
 split at h
 · cases h; exact FnOk.of Tryz.func72 (by kernel_rfl) (by kernel_rfl)
 · cases h; exact FnOk.of Tryz.func73 (by kernel_rfl) (by kernel_rfl)
 · cases h; exact FnOk.of Tryz.func74 (by kernel_rfl) (by kernel_rfl)
 · cases h; exact FnOk.of Tryz.func75 (by kernel_rfl) (by kernel_rfl)
 · cases h; exact FnOk.of Tryz.func76 (by kernel_rfl) (by kernel_rfl)
 · cases h; exact FnOk.of Tryz.func77 (by kernel_rfl) (by kernel_rfl)
 · cases h; exact FnOk.of Tryz.func78 (by kernel_rfl) (by kernel_rfl)
 · cases h; exact FnOk.of Tryz.func79 (by kernel_rfl) (by kernel_rfl)
 · cases h; exact FnOk.of Tryz.func80 (by kernel_rfl) (by kernel_rfl)
 · cases h; exact FnOk.of Tryz.func81 (by kernel_rfl) (by kernel_rfl)
 · cases h; exact FnOk.of Tryz.func82 (by kernel_rfl) (by kernel_rfl)
 · cases h; exact FnOk.of Tryz.func83 (by kernel_rfl) (by kernel_rfl)
 · cases h; exact FnOk.of Tryz.func84 (by kernel_rfl) (by kernel_rfl)
 · cases h; exact FnOk.of Tryz.func85 (by kernel_rfl) (by kernel_rfl)
 · cases h; exact FnOk.of Tryz.func86 (by kernel_rfl) (by kernel_rfl)
 · cases h; exact FnOk.of Tryz.func87 (by kernel_rfl) (by kernel_rfl)
 · cases h; exact FnOk.of Tryz.func88 (by kernel_rfl) (by kernel_rfl)
 · cases h; exact FnOk.of Tryz.func89 (by kernel_rfl) (by kernel_rfl)
 · cases h; exact FnOk.of Tryz.func90 (by kernel_rfl) (by kernel_rfl)
 · cases h; exact FnOk.of Tryz.func91 (by kernel_rfl) (by kernel_rfl)
 · cases h; exact FnOk.of Tryz.func92 (by kernel_rfl) (by kernel_rfl)
 · cases h; exact FnOk.of Tryz.func93 (by kernel_rfl) (by kernel_rfl)
 · cases h; exact FnOk.of Tryz.func94 (by kernel_rfl) (by kernel_rfl)
 · cases h; exact FnOk.of Tryz.func95 (by kernel_rfl) (by kernel_rfl)
 · cases h
theorem fnOk4 (f : FuncId) (fi : FnI) (h : fnT4 f = some fi) : FnOk Tryz.prog f fi := by
 unfold fnT4 at h
 split at h
 · cases h; exact FnOk.of Tryz.func96 (by kernel_rfl) (by kernel_rfl)
 · cases h; exact FnOk.of Tryz.func97 (by kernel_rfl) (by kernel_rfl)
 · cases h; exact FnOk.of Tryz.func99 (by kernel_rfl) (by kernel_rfl)
 · cases h; exact FnOk.of Tryz.func100 (by kernel_rfl) (by kernel_rfl)
 · cases h; exact FnOk.of Tryz.func101 (by kernel_rfl) (by kernel_rfl)
 · cases h; exact FnOk.of Tryz.func102 (by kernel_rfl) (by kernel_rfl)
 · cases h; exact FnOk.of Tryz.func103 (by kernel_rfl) (by kernel_rfl)
 · cases h; exact FnOk.of Tryz.func104 (by kernel_rfl) (by kernel_rfl)
 · cases h; exact FnOk.of Tryz.func105 (by kernel_rfl) (by kernel_rfl)
 · cases h; exact FnOk.of Tryz.func106 (by kernel_rfl) (by kernel_rfl)
 · cases h; exact FnOk.of Tryz.func107 (by kernel_rfl) (by kernel_rfl)
 · cases h; exact FnOk.of Tryz.func108 (by kernel_rfl) (by kernel_rfl)
 · cases h; exact FnOk.of Tryz.func109 (by kernel_rfl) (by kernel_rfl)
 · cases h; exact FnOk.of Tryz.func110 (by kernel_rfl) (by kernel_rfl)
 · cases h; exact FnOk.of Tryz.func111 (by kernel_rfl) (by kernel_rfl)
 · cases h; exact FnOk.of Tryz.func112 (by kernel_rfl) (by kernel_rfl)
 · cases h; exact FnOk.of Tryz.func113 (by kernel_rfl) (by kernel_rfl)
 · cases h; exact FnOk.of Tryz.func114 (by kernel_rfl) (by kernel_rfl)
 · cases h; exact FnOk.of Tryz.func115 (by kernel_rfl) (by kernel_rfl)
 · cases h; exact FnOk.of Tryz.func116 (by kernel_rfl) (by kernel_rfl)
 · cases h; exact FnOk.of Tryz.func117 (by kernel_rfl) (by kernel_rfl)
 · cases h; exact FnOk.of Tryz.func119 (by kernel_rfl) (by kernel_rfl)
 · cases h
theorem fnOk5 (f : FuncId) (fi : FnI) (h : fnT5 f = some fi) : FnOk Tryz.prog f fi := by
 unfold fnT5 at h
 split at h
 · cases h; exact FnOk.of Tryz.func120 (by kernel_rfl) (by kernel_rfl)
 · cases h; exact FnOk.of Tryz.func121 (by kernel_rfl) (by kernel_rfl)
 · cases h; exact FnOk.of Tryz.func122 (by kernel_rfl) (by kernel_rfl)
 · cases h; exact FnOk.of Tryz.func123 (by kernel_rfl) (by kernel_rfl)
 · cases h; exact FnOk.of Tryz.func129 (by kernel_rfl) (by kernel_rfl)
 · cases h; exact FnOk.of Tryz.func130 (by kernel_rfl) (by kernel_rfl)
 · cases h; exact FnOk.of Tryz.func131 (by kernel_rfl) (by kernel_rfl)
 · cases h; exact FnOk.of Tryz.func132 (by kernel_rfl) (by kernel_rfl)
 · cases h; exact FnOk.of Tryz.func133 (by kernel_rfl) (by kernel_rfl)
 · cases h; exact FnOk.of Tryz.func134 (by kernel_rfl) (by kernel_rfl)
 · cases h; exact FnOk.of Tryz.func135 (by kernel_rfl) (by kernel_rfl)
 · cases h; exact FnOk.of Tryz.func136 (by kernel_rfl) (by kernel_rfl)
 · cases h; exact FnOk.of Tryz.func137 (by kernel_rfl) (by kernel_rfl)
 · cases h; exact FnOk.of Tryz.func138 (by kernel_rfl) (by kernel_rfl)
 · cases h; exact FnOk.of Tryz.func139 (by kernel_rfl) (by kernel_rfl)
 · cases h; exact FnOk.of Tryz.func140 (by kernel_rfl) (by kernel_rfl)
 · cases h; exact FnOk.of Tryz.func141 (by kernel_rfl) (by kernel_rfl)
 · cases h; exact FnOk.of Tryz.func142 (by kernel_rfl) (by kernel_rfl)
 · cases h; exact FnOk.of Tryz.func143 (by kernel_rfl) (by kernel_rfl)
 · cases h
theorem fnOk6 (f : FuncId) (fi : FnI) (h : fnT6 f = some fi) : FnOk Tryz.prog f fi := by
 unfold fnT6 at h
 split at h
 · cases h; exact FnOk.of Tryz.func144 (by kernel_rfl) (by kernel_rfl)
 · cases h; exact FnOk.of Tryz.func145 (by kernel_rfl) (by kernel_rfl)
 · cases h; exact FnOk.of Tryz.func148 (by kernel_rfl) (by kernel_rfl)
 · cases h; exact FnOk.of Tryz.func149 (by kernel_rfl) (by kernel_rfl)
 · cases h; exact FnOk.of Tryz.func150 (by kernel_rfl) (by kernel_rfl)
 · cases h; exact FnOk.of Tryz.func151 (by kernel_rfl) (by kernel_rfl)
 · cases h; exact FnOk.of Tryz.func152 (by kernel_rfl) (by kernel_rfl)
 · cases h
theorem fnOk7 (f : FuncId) (fi : FnI) (h : fnT7 f = some fi) : FnOk Tryz.prog f fi := by
 unfold fnT7 at h
 split at h
 · cases h; exact FnOk.of Tryz.func172 (by kernel_rfl) (by kernel_rfl)
 · cases h; exact FnOk.of Tryz.func173 (by kernel_rfl) (by kernel_rfl)
 · cases h; exact FnOk.of Tryz.func174 (by kernel_rfl) (by kernel_rfl)
 · cases h; exact FnOk.of Tryz.func175 (by kernel_rfl) (by kernel_rfl)
 · cases h; exact FnOk.of Tryz.func176 (by kernel_rfl) (by kernel_rfl)
 · cases h; exact FnOk.of Tryz.func177 (by kernel_rfl) (by kernel_rfl)
 · cases h; exact FnOk.of Tryz.func178 (by kernel_rfl) (by kernel_rfl)
 · cases h; exact FnOk.of Tryz.func179 (by kernel_rfl) (by kernel_rfl)
 · cases h; exact FnOk.of Tryz.func180 (by kernel_rfl) (by kernel_rfl)
 · cases h; exact FnOk.of Tryz.func182 (by kernel_rfl) (by kernel_rfl)
 · cases h; exact FnOk.of Tryz.func183 (by kernel_rfl) (by kernel_rfl)
 · cases h; exact FnOk.of Tryz.func184 (by kernel_rfl) (by kernel_rfl)
 · cases h; exact FnOk.of Tryz.func185 (by kernel_rfl) (by kernel_rfl)
 · cases h; exact FnOk.of Tryz.func186 (by kernel_rfl) (by kernel_rfl)
 · cases h; exact FnOk.of Tryz.func187 (by kernel_rfl) (by kernel_rfl)
 · cases h; exact FnOk.of Tryz.func188 (by kernel_rfl) (by kernel_rfl)
 · cases h; exact FnOk.of Tryz.func190 (by kernel_rfl) (by kernel_rfl)
 · cases h
theorem fnOk8 (f : FuncId) (fi : FnI) (h : fnT8 f = some fi) : FnOk Tryz.prog f fi := by
 unfold fnT8 at h
 split at h
 · cases h; exact FnOk.of Tryz.func196 (by kernel_rfl) (by kernel_rfl)
 · cases h; exact FnOk.of Tryz.func197 (by kernel_rfl) (by kernel_rfl)
 · cases h; exact FnOk.of Tryz.func198 (by kernel_rfl) (by kernel_rfl)
 · cases h; exact FnOk.of Tryz.func199 (by kernel_rfl) (by kernel_rfl)
 · cases h; exact FnOk.of Tryz.func200 (by kernel_rfl) (by kernel_rfl)
 · cases h; exact FnOk.of Tryz.func201 (by kernel_rfl) (by kernel_rfl)
 · cases h; exact FnOk.of Tryz.func202 (by kernel_rfl) (by kernel_rfl)
 · cases h; exact FnOk.of Tryz.func203 (by kernel_rfl) (by kernel_rfl)
 · cases h; exact FnOk.of Tryz.func204 (by kernel_rfl) (by kernel_rfl)
 · cases h; exact FnOk.of Tryz.func205 (by kernel_rfl) (by kernel_rfl)
 · cases h; exact FnOk.of Tryz.func214 (by kernel_rfl) (by kernel_rfl)
 · cases h; exact FnOk.of Tryz.func215 (by kernel_rfl) (by kernel_rfl)
 · cases h
theorem fnOk9 (f : FuncId) (fi : FnI) (h : fnT9 f = some fi) : FnOk Tryz.prog f fi := by
 unfold fnT9 at h
 split at h
 · cases h; exact FnOk.of Tryz.func217 (by kernel_rfl) (by kernel_rfl)
 · cases h; exact FnOk.of Tryz.func218 (by kernel_rfl) (by kernel_rfl)
 · cases h; exact FnOk.of Tryz.func220 (by kernel_rfl) (by kernel_rfl)
 · cases h; exact FnOk.of Tryz.func221 (by kernel_rfl) (by kernel_rfl)
 · cases h; exact FnOk.of Tryz.func229 (by kernel_rfl) (by kernel_rfl)
 · cases h; exact FnOk.of Tryz.func230 (by kernel_rfl) (by kernel_rfl)
 · cases h; exact FnOk.of Tryz.func231 (by kernel_rfl) (by kernel_rfl)
 · cases h; exact FnOk.of Tryz.func235 (by kernel_rfl) (by kernel_rfl)
 · cases h
theorem fnOk10 (f : FuncId) (fi : FnI) (h : fnT10 f = some fi) : FnOk Tryz.prog f fi := by
 unfold fnT10 at h
 split at h
 · cases h; exact FnOk.of Tryz.func248 (by kernel_rfl) (by kernel_rfl)
 · cases h
theorem fn_ok (f : FuncId) (fi : FnI) (h : fnT f = some fi) : FnOk Tryz.prog f fi := by
 unfold fnT at h
 (repeat' split at h) <;> first | exact fnOk0 f fi h | exact fnOk1 f fi h | exact fnOk2 f fi h | exact fnOk3 f fi h | exact fnOk4 f fi h | exact fnOk5 f fi h | exact fnOk6 f fi h | exact fnOk7 f fi h | exact fnOk8 f fi h | exact fnOk9 f fi h | exact fnOk10 f fi h
theorem part_int {P : Program} {T : TypeId} {k k' : IntKind} {n : Int} {xs : Array Value} {off : Nat} (h : P.underlying T = some (.int k')) (hx : xs[off]? = some (.int k n)) (w : World) : (Go.part T xs off).run P w = .ok (.int k n) w := by
 unfold Go.part
 simp only [Sem.run_bind, isAgg, run_underlying h, Result.andThen_ok, hx, Sem.run_pure]
 rfl
def intsChk (P : Program) (n : Nat) : List Field → Bool
 | [] => true
 | f :: fs => decide (f.name = "_") == false && (decide (f.offset = n) && ((match P.underlying f.type with | some (.int _) => true | _ => false) && intsChk P (n + 1) fs))
def eqV : List Value → List Value → Bool
 | .int _ a :: x, .int _ b :: y => (a == b) && eqV x y
 | _, _ => true
def allI : List Value → Bool
 | [] => true
 | .int _ _ :: l => allI l
 | _ => false
theorem eqFields_ints {P : Program} (d : Nat) {xs ys : Array Value} (w : World) (more : List Field) : ∀ (fs : List Field) (n : Nat) (us vs : List Value), intsChk P n fs = true → allI us = true → us.length = fs.length → vs.length = fs.length →
  (∀ i, i < fs.length → xs[n + i]? = us[i]? ∧ ys[n + i]? = vs[i]? ∧ ∃ k a b, us[i]? = some (.int k a) ∧ vs[i]? = some (.int k b)) →
  (Op.eqFields (d + 1) xs ys (fs ++ more)).run P w = if eqV us vs then (Op.eqFields (d + 1) xs ys more).run P w else .ok false w := by
 intro fs
 induction fs with
 | nil =>
   intro n us vs _ _ ha hb _
   obtain rfl := List.eq_nil_of_length_eq_zero ha
   obtain rfl := List.eq_nil_of_length_eq_zero hb
   rfl
 | cons f fs ih =>
   intro n us vs hc hal ha hb hx
   cases us with
   | nil => simp at ha
   | cons a us =>
     cases vs with
     | nil => simp at hb
     | cons b vs =>
       simp only [intsChk, Bool.and_eq_true, beq_iff_eq, decide_eq_false_iff_not, decide_eq_true_eq] at hc
       obtain ⟨h1, h2, h3, h4⟩ := hc
       obtain ⟨e1, e2, k, x, y, e3, e4⟩ := hx 0 (by simp)
       simp only [Nat.add_zero, List.getElem?_cons_zero, Option.some.injEq] at e1 e2 e3 e4
       subst e3 e4
       split at h3
       · rename_i k' hk'
         have ih' := ih (n + 1) us vs h4 (by simpa [allI] using hal) (by simpa using ha) (by simpa using hb) (fun i hi => by
          have := hx (i + 1) (by simp; omega)
          rw [show n + 1 + i = n + (i + 1) by omega]
          simpa using this)
         simp only [List.cons_append, Op.eqFields, h1, ne_eq, not_false_eq_true, if_true, Sem.run_bind]
         rw [h2, part_int hk' e1, Result.andThen_ok, part_int hk' e2, Result.andThen_ok, run_equalIn_int w d _ k k' x y hk', Result.andThen_ok]
         by_cases hxy : x = y
         · subst hxy
           simp only [beq_self_eq_true, Bool.not_true, Bool.false_eq_true, if_false, eqV, Bool.true_and]
           exact ih'
         · have : (x == y) = false := by simpa using hxy
           simp only [this, Bool.not_false, if_true, eqV, Bool.false_and, Bool.false_eq_true, if_false, Sem.run_pure]
       · cases h3
def iD (l : List (IntKind × Int)) : List D := l.map fun p => .int p.1 p.2
def iV (l : List (IntKind × Int)) : List Value := l.map fun p => .int p.1 p.2
theorem shape_ints : ∀ (lz : List (IntKind × Int)) (cs : List D), shapeD (iD lz) cs = true → ∃ lc, cs = iD lc ∧ lc.length = lz.length
 | [], cs, h => by
   cases cs with
   | nil => exact ⟨[], rfl, rfl⟩
   | cons c cs => simp [iD, shapeD] at h
 | p :: lz, cs, h => by
   cases cs with
   | nil => simp [iD, shapeD] at h
   | cons c cs =>
     cases c with
     | int k n =>
       have h2 : shapeD (iD lz) cs = true := by
        have : (decide (p.1 = k) && shapeD (iD lz) cs) = true := h
        rw [Bool.and_eq_true] at this; exact this.2
       obtain ⟨lc, rfl, hl⟩ := shape_ints lz cs h2
       exact ⟨(k, n) :: lc, rfl, by simp [hl]⟩
     | _ => simp [iD, shapeD] at h
theorem eqD_ints : ∀ (lc : List (IntKind × Int)) (ds : List D) (v : Bool), eqD (iD lc) ds = some v → ∃ ld, ds = iD ld ∧ ld.length = lc.length ∧ (∀ i (h : i < lc.length) (h2 : i < ld.length), lc[i].1 = ld[i].1) ∧ v = eqV (iV lc) (iV ld)
 | [], ds, v, h => by
   cases ds with
   | nil => simp [iD, eqD] at h; exact ⟨[], rfl, rfl, fun i h => absurd h (by simp), by rw [h]; rfl⟩
   | cons c ds => simp [iD, eqD] at h
 | p :: lc, ds, v, h => by
   cases ds with
   | nil => simp [iD, eqD] at h
   | cons c ds =>
     cases c with
     | int k n =>
       have h1 : (if p.1 = k then (eqD (iD lc) ds).map ((p.2 == n) && ·) else none) = some v := h
       split at h1
       · rename_i hk
         obtain ⟨v', hv', rfl⟩ := Option.map_eq_some_iff.1 h1
         obtain ⟨ld, rfl, hl, hkk, rfl⟩ := eqD_ints lc ds v' hv'
         refine ⟨(k, n) :: ld, rfl, by simp [hl], fun i h h2 => ?_, rfl⟩
         cases i with
         | zero => exact hk
         | succ i => exact hkk i (by simpa using h) (by simpa using h2)
       · cases h1
     | _ => simp [iD, eqD] at h
theorem rd_ints {σ : Nat → Nat} {w : World} {lc : List (IntKind × Int)} {xs : Array Value} (h : RD σ w (.agg (iD lc)) (.agg xs)) : xs.toList = iV lc := by
 cases h with
 | agg _ _ hl hc hh =>
   refine List.ext_getElem (by simp [hl, iD, iV]) fun i h1 h2 => ?_
   have hi : i < lc.length := by simpa [iV] using h2
   have hr := hh i (by simpa [iD] using hi)
   have e1 : (iD lc).getD i .junk = .int lc[i].1 lc[i].2 := by simp [iD, List.getD_eq_getElem?_getD, hi]
   rw [e1] at hr
   have e2 : xs.getD i undef = xs.toList[i] := by
    have : i < xs.size := by simpa using h1
    simp [Array.getD_eq_getD_getElem?, this]
   rw [e2] at hr
   generalize xs.toList[i] = v at hr
   cases hr
   simp [iV]
theorem allI_iV (l : List (IntKind × Int)) : allI (iV l) = true := by
 induction l with
 | nil => rfl
 | cons p l ih => exact ih
theorem flat_run {P : Program} {d : Nat} (w : World) {xs ys : Array Value} {fs more : List Field} {lc ld : List (IntKind × Int)} (hc : intsChk P 0 fs = true) (h1 : lc.length = fs.length) (h2 : ld.length = lc.length) (hk : ∀ i (h : i < lc.length) (h2 : i < ld.length), lc[i].1 = ld[i].1)
  (hx : ∀ i, i < fs.length → xs[i]? = (iV lc)[i]?) (hy : ∀ i, i < fs.length → ys[i]? = (iV ld)[i]?) :
  (Op.eqFields (d + 1) xs ys (fs ++ more)).run P w = if eqV (iV lc) (iV ld) then (Op.eqFields (d + 1) xs ys more).run P w else .ok false w := by
 refine eqFields_ints d w more fs 0 (iV lc) (iV ld) hc (allI_iV _) (by simpa [iV] using h1) (by simpa [iV] using h2.trans h1) fun i hi => ?_
 have a : i < lc.length := by omega
 have b : i < ld.length := by omega
 refine ⟨by rw [Nat.zero_add]; exact hx i hi, by rw [Nat.zero_add]; exact hy i hi, lc[i].1, lc[i].2, ld[i].2, by simp [iV, a], by simp [iV, b, hk i a b]⟩
theorem eqTy_flat {P : Program} {t : TypeId} {fs : List Field} (lz : List (IntKind × Int)) (hg : P.eqGuardType P.depth t = false) (hu : P.underlying t = some (.struct (P.fieldsOf t))) (hp : P.stoodInHeld t = false) (hf : (P.fieldsOf t).toList = fs) (hc : intsChk P 0 fs = true) (hl : lz.length = fs.length) : EqTy P t (iD lz) := by
 refine ⟨hg, fun σ w cs ds xs ys v hs hx hy hv => ?_⟩
 obtain ⟨lc, rfl, h1⟩ := shape_ints _ _ hs
 obtain ⟨ld, rfl, h2, hk, rfl⟩ := eqD_ints _ _ _ hv
 have ex := rd_ints hx
 have ey := rd_ints hy
 show (Op.equalIn (9998 + 1 + 1) t (.agg xs) (.agg ys)).run P w = _
 rw [run_equalIn_struct w (9998 + 1) t xs ys hu hp, hf]
 have := flat_run (P := P) (d := 9998) w (xs := xs) (ys := ys) (more := []) hc (h1.trans hl) h2 hk (fun i _ => by rw [← ex, Array.getElem?_toList]) (fun i _ => by rw [← ey, Array.getElem?_toList])
 rw [List.append_nil] at this
 rw [this]
 cases eqV (iV lc) (iV ld) <;> rfl
theorem part_agg' {P : Program} {T : TypeId} {n : Nat} {xs : Array Value} {off : Nat} (ha : ∀ w, (isAgg T).run P w = .ok true w) (hz : ∀ w, (Go.sizeOf T).run P w = .ok n w) (w : World) : (Go.part T xs off).run P w = .ok (.agg (xs.extract off (off + n))) w := by
 unfold Go.part
 simp only [Sem.run_bind, ha, hz, Result.andThen_ok, if_true, Sem.run_pure]
theorem eqV_app : ∀ (a a' b b' : List Value), a.length = a'.length → allI a = true → allI a' = true → eqV (a ++ b) (a' ++ b') = (eqV a a' && eqV b b')
 | [], a', b, b', h, _, _ => by
   obtain rfl := List.eq_nil_of_length_eq_zero h.symm
   simp [eqV]
 | x :: a, a', b, b', h, h1, h2 => by
   cases a' with
   | nil => simp at h
   | cons y a' =>
     cases x <;> simp [allI] at h1
     cases y <;> simp [allI] at h2
     simp only [List.cons_append, eqV]
     rw [eqV_app a a' b b' (by simpa using h) h1 h2, Bool.and_assoc]
theorem eqTy_nest {P : Program} {t u : TypeId} {fs gs : List Field} {f : Field} {m : Nat} (lz : List (IntKind × Int)) (hg : P.eqGuardType P.depth t = false) (hu : P.underlying t = some (.struct (P.fieldsOf t))) (hp : P.stoodInHeld t = false) (hf : (P.fieldsOf t).toList = fs ++ [f]) (hc : intsChk P 0 fs = true)
  (h1 : decide (f.name = "_") = false) (h2 : f.offset = fs.length) (h3 : f.type = u) (ha : ∀ w, (isAgg u).run P w = .ok true w) (hz : ∀ w, (Go.sizeOf u).run P w = .ok m w) (hu2 : P.underlying u = some (.struct (P.fieldsOf u))) (hp2 : P.stoodInHeld u = false) (hf2 : (P.fieldsOf u).toList = gs) (hc2 : intsChk P 0 gs = true)
  (hm : gs.length = m) (hl : lz.length = fs.length + m) : EqTy P t (iD lz) := by
 refine ⟨hg, fun σ w cs ds xs ys v hs hx hy hv => ?_⟩
 obtain ⟨lc, rfl, e1⟩ := shape_ints _ _ hs
 obtain ⟨ld, rfl, e2, hk, rfl⟩ := eqD_ints _ _ _ hv
 have ex := rd_ints hx
 have ey := rd_ints hy
 have hlc : lc.length = fs.length + m := e1.trans hl
 have hld : ld.length = fs.length + m := e2.trans hlc
 show (Op.equalIn (9997 + 1 + 1 + 1) t (.agg xs) (.agg ys)).run P w = _
 rw [run_equalIn_struct w (9997 + 1 + 1) t xs ys hu hp, hf]
 have hlen : ∀ l : List (IntKind × Int), l.length = fs.length + m → (l.take fs.length).length = fs.length ∧ (l.drop fs.length).length = m := fun l h => by simp [h]
 have gx : ∀ i : Nat, xs[i]? = (iV lc)[i]? := fun i => by rw [← ex, Array.getElem?_toList]
 have gy : ∀ i : Nat, ys[i]? = (iV ld)[i]? := fun i => by rw [← ey, Array.getElem?_toList]
 have tk : ∀ (l : List (IntKind × Int)) (i : Nat), i < fs.length → (iV l)[i]? = (iV (l.take fs.length))[i]? := fun l i hi => by simp [iV, hi]
 rw [flat_run (P := P) (d := 9997 + 1) w (xs := xs) (ys := ys) (more := [f]) (lc := lc.take fs.length) (ld := ld.take fs.length) hc (hlen lc hlc).1 (by rw [(hlen lc hlc).1, (hlen ld hld).1]) (fun i h h2 => by simpa using hk i (by simp at h; omega) (by simp at h2; omega))
  (fun i hi => by rw [gx, tk lc i hi]) (fun i hi => by rw [gy, tk ld i hi])]
 have hsp : eqV (iV lc) (iV ld) = (eqV (iV (lc.take fs.length)) (iV (ld.take fs.length)) && eqV (iV (lc.drop fs.length)) (iV (ld.drop fs.length))) := by
  rw [← eqV_app _ _ _ _ (by simp [iV, hlc, hld]) (allI_iV _) (allI_iV _)]
  congr 1 <;> simp only [iV, ← List.map_append, List.take_append_drop]
 rw [hsp]
 cases eqV (iV (lc.take fs.length)) (iV (ld.take fs.length)) with
 | false => rfl
 | true =>
   rw [if_pos rfl, Bool.true_and]
   have hxe : ∀ (l : List (IntKind × Int)) (zs : Array Value), l.length = fs.length + m → (∀ i : Nat, zs[i]? = (iV l)[i]?) → ∀ i, i < gs.length → (zs.extract fs.length (fs.length + m))[i]? = (iV (l.drop fs.length))[i]? := fun l zs hll hz i hi => by
    rw [hm] at hi
    have hzs : zs.size = fs.length + m := by
     have h1 := hz (fs.length + m)
     have h2 : (iV l)[fs.length + m]? = none := List.getElem?_eq_none (by simp [iV, hll])
     rw [h2] at h1
     have h3 := Array.getElem?_eq_none_iff.1 h1
     have h4 := hz (fs.length + m - 1)
     rw [List.getElem?_eq_getElem (show fs.length + m - 1 < (iV l).length by simp [iV, hll]; omega)] at h4
     have h5 := (Array.getElem?_eq_some_iff.1 h4).1
     omega
    rw [Array.getElem?_extract, if_pos (by omega), hz]
    simp [iV]
   simp only [Op.eqFields, of_decide_eq_false h1, ne_eq, not_false_eq_true, if_true, Sem.run_bind]
   rw [h3, h2, part_agg' ha hz, Result.andThen_ok, part_agg' ha hz, Result.andThen_ok, run_equalIn_struct w (9997 + 1) u _ _ hu2 hp2, hf2]
   have := flat_run (P := P) (d := 9997) w (xs := xs.extract fs.length (fs.length + m)) (ys := ys.extract fs.length (fs.length + m)) (more := []) (lc := lc.drop fs.length) (ld := ld.drop fs.length) hc2 (by rw [(hlen lc hlc).2, hm]) (by rw [(hlen lc hlc).2, (hlen ld hld).2]) (fun i h h2 => by simpa using hk (fs.length + i) (by simp at h; omega) (by simp at h2; omega))
    (hxe lc xs hlc gx) (hxe ld ys hld gy)
   rw [List.append_nil] at this
   rw [this]
   cases eqV (iV (lc.drop fs.length)) (iV (ld.drop fs.length)) <;> simp [Op.eqFields, Result.andThen_ok, Sem.run_pure]
def z3 : List (IntKind × Int) := [(.i64, 0), (.i64, 0), (.i64, 0)]
def z2 : List (IntKind × Int) := [(.i64, 0), (.i64, 0)]
def z6 : List (IntKind × Int) := [(.i64, 0), (.i64, 0), (.i64, 0), (.i64, 0), (.i64, 0), (.i64, 0)]
theorem eq53 : EqTy Tryz.prog 53 (iD z3) := eqTy_flat z3 (by kernel_rfl) (by kernel_rfl) (by kernel_rfl) rfl (by kernel_rfl) (by kernel_rfl)
theorem eq75 : EqTy Tryz.prog 75 (iD z2) := eqTy_flat z2 (by kernel_rfl) (by kernel_rfl) (by kernel_rfl) rfl (by kernel_rfl) (by kernel_rfl)
theorem eq103 : EqTy Tryz.prog 103 (iD z2) := eqTy_flat z2 (by kernel_rfl) (by kernel_rfl) (by kernel_rfl) rfl (by kernel_rfl) (by kernel_rfl)
noncomputable def f55 : List Field := (Tryz.prog.fieldsOf 55).toList
theorem eq55 : EqTy Tryz.prog 55 (iD z6) := eqTy_nest (fs := f55.take 3) (f := f55.getD 3 default) (u := 53) (m := 3) z6 (by kernel_rfl) (by kernel_rfl) (by kernel_rfl) (by kernel_rfl) (by kernel_rfl) (by kernel_rfl) (by kernel_rfl) (by kernel_rfl) (Tryz.isAgg53) (Tryz.sizeOf53) (by kernel_rfl) (by kernel_rfl) rfl (by kernel_rfl) (by kernel_rfl) (by kernel_rfl)
theorem eq_ok (t : TypeId) (h : (ty t).eq = true) : EqTy Tryz.prog t (ty t).zero := by
 unfold ty at h ⊢
 split at h <;> first | exact eq53 | exact eq55 | exact eq75 | exact eq103 | (exact absurd h (by decide))
end Go.Mach
namespace Go.Proofs
open Go.Shelf
def Tryz.lays192_ren : Go.Shelf.Ren := ⟨fun | 192 => 219 | 190 => 228 | 125 => 127 | 258 => 234 | 128 => 162 | 129 => 163 | 302 => 239 | 303 => 240 | 304 => 241 | 305 => 242 | 306 => 243 | 307 => 244 | 308 => 245 | 309 => 246 | 310 => 247 | 333 => 253 | 329 => 223 | 330 => 224 | 334 => 254 | 335 => 255 | 336 => 256 | 344 => 262 | n => n, fun | 31 => 130 | 0 => 0 | 9 => 9 | 3 => 3 | 46 => 125 | 51 => 150 | 53 => 152 | 4 => 4 | 183 => 190 | 182 => 189 | 131 => 159 | 5 => 5 | 218 => 203 | 222 => 179 | 228 => 208 | 229 => 196 | n => n, fun | n => n⟩
theorem Tryz.lays192 : Go.Proofs.Lays.n192 Tryz.prog Tryz.lays192_ren := {
 mixed := by kernel_rfl
 f125 := Tryz.func127.trans (congrArg some (by kernel_rfl))
 f128 := Tryz.func162.trans (congrArg some (by kernel_rfl))
 f129 := Tryz.func163.trans (congrArg some (by kernel_rfl))
 f190 := Tryz.func228.trans (congrArg some (by kernel_rfl))
 f192 := Tryz.func219.trans (congrArg some (by kernel_rfl))
 f258 := Tryz.func234.trans (congrArg some (by kernel_rfl))
 f302 := Tryz.func239.trans (congrArg some (by kernel_rfl))
 f303 := Tryz.func240.trans (congrArg some (by kernel_rfl))
 f304 := Tryz.func241.trans (congrArg some (by kernel_rfl))
 f305 := Tryz.func242.trans (congrArg some (by kernel_rfl))
 f306 := Tryz.func243.trans (congrArg some (by kernel_rfl))
 f307 := Tryz.func244.trans (congrArg some (by kernel_rfl))
 f308 := Tryz.func245.trans (congrArg some (by kernel_rfl))
 f309 := Tryz.func246.trans (congrArg some (by kernel_rfl))
 f310 := Tryz.func247.trans (congrArg some (by kernel_rfl))
 f329 := Tryz.func223.trans (congrArg some (by kernel_rfl))
 f330 := Tryz.func224.trans (congrArg some (by kernel_rfl))
 f333 := Tryz.func253.trans (congrArg some (by kernel_rfl))
 f334 := Tryz.func254.trans (congrArg some (by kernel_rfl))
 f335 := Tryz.func255.trans (congrArg some (by kernel_rfl))
 f336 := Tryz.func256.trans (congrArg some (by kernel_rfl))
 f344 := Tryz.func262.trans (congrArg some (by kernel_rfl))
 t0 := Tryz.underlying0
 a0 := Tryz.isAgg0
 z0 := Tryz.sizeOf0
 v0 := Tryz.zeroValue0
 t3 := Tryz.underlying3
 a3 := Tryz.isAgg3
 z3 := Tryz.sizeOf3
 v3 := Tryz.zeroValue3
 t4 := Tryz.underlying4
 a4 := Tryz.isAgg4
 z4 := Tryz.sizeOf4
 v4 := Tryz.zeroValue4
 t5 := Tryz.underlying5
 a5 := Tryz.isAgg5
 z5 := Tryz.sizeOf5
 v5 := Tryz.zeroValue5
 t9 := Tryz.underlying9
 a9 := Tryz.isAgg9
 z9 := Tryz.sizeOf9
 v9 := Tryz.zeroValue9
 t31 := Tryz.underlying130
 a31 := Tryz.isAgg130
 z31 := Tryz.sizeOf130
 v31 := Tryz.zeroValue130
 t46 := Tryz.underlying125
 a46 := Tryz.isAgg125
 z46 := Tryz.sizeOf125
 v46 := Tryz.zeroValue125
 t51 := Tryz.underlying150
 a51 := Tryz.isAgg150
 z51 := Tryz.sizeOf150
 v51 := Tryz.zeroValue150
 t53 := Tryz.underlying152
 a53 := Tryz.isAgg152
 z53 := Tryz.sizeOf152
 v53 := Tryz.zeroValue152
 t131 := Tryz.underlying159
 a131 := Tryz.isAgg159
 z131 := Tryz.sizeOf159
 v131 := Tryz.zeroValue159
 t182 := Tryz.underlying189
 a182 := Tryz.isAgg189
 z182 := Tryz.sizeOf189
 v182 := Tryz.zeroValue189
 t183 := Tryz.underlying190
 a183 := Tryz.isAgg190
 z183 := Tryz.sizeOf190
 v183 := Tryz.zeroValue190
 t218 := Tryz.underlying203
 a218 := Tryz.isAgg203
 z218 := Tryz.sizeOf203
 v218 := Tryz.zeroValue203
 t222 := Tryz.underlying179
 a222 := Tryz.isAgg179
 z222 := Tryz.sizeOf179
 v222 := Tryz.zeroValue179
 t228 := Tryz.underlying208
 a228 := Tryz.isAgg208
 z228 := Tryz.sizeOf208
 v228 := Tryz.zeroValue208
 t229 := Tryz.underlying196
 a229 := Tryz.isAgg196
 z229 := Tryz.sizeOf196
 v229 := Tryz.zeroValue196 }
def Tryz.lays146_ren : Go.Shelf.Ren := ⟨fun | 146 => 227 | 221 => 233 | 268 => 236 | 138 => 237 | 143 => 238 | 195 => 249 | 197 => 250 | 218 => 251 | 219 => 252 | 260 => 257 | 217 => 258 | 225 => 259 | 224 => 260 | 267 => 261 | 266 => 263 | 314 => 264 | n => n, fun | 9 => 9 | 31 => 130 | 3 => 3 | 4 => 4 | 0 => 0 | 105 => 222 | 21 => 21 | 5 => 5 | 46 => 125 | 119 => 228 | 139 => 231 | 138 => 230 | 146 => 232 | 51 => 150 | n => n, fun | 1 => 0 | 3 => 1 | 4 => 2 | n => n⟩
theorem Tryz.lays146 : Go.Proofs.Lays.n146 Tryz.prog Tryz.lays146_ren := {
 mixed := by kernel_rfl
 f138 := Tryz.func237.trans (congrArg some (by kernel_rfl))
 f143 := Tryz.func238.trans (congrArg some (by kernel_rfl))
 f146 := Tryz.func227.trans (congrArg some (by kernel_rfl))
 f195 := Tryz.func249.trans (congrArg some (by kernel_rfl))
 f197 := Tryz.func250.trans (congrArg some (by kernel_rfl))
 f217 := Tryz.func258.trans (congrArg some (by kernel_rfl))
 f218 := Tryz.func251.trans (congrArg some (by kernel_rfl))
 f219 := Tryz.func252.trans (congrArg some (by kernel_rfl))
 f221 := Tryz.func233.trans (congrArg some (by kernel_rfl))
 f224 := Tryz.func260.trans (congrArg some (by kernel_rfl))
 f225 := Tryz.func259.trans (congrArg some (by kernel_rfl))
 f260 := Tryz.func257.trans (congrArg some (by kernel_rfl))
 f266 := Tryz.func263.trans (congrArg some (by kernel_rfl))
 f267 := Tryz.func261.trans (congrArg some (by kernel_rfl))
 f268 := Tryz.func236.trans (congrArg some (by kernel_rfl))
 f314 := Tryz.func264.trans (congrArg some (by kernel_rfl))
 t0 := Tryz.underlying0
 a0 := Tryz.isAgg0
 z0 := Tryz.sizeOf0
 v0 := Tryz.zeroValue0
 t3 := Tryz.underlying3
 a3 := Tryz.isAgg3
 z3 := Tryz.sizeOf3
 v3 := Tryz.zeroValue3
 t4 := Tryz.underlying4
 a4 := Tryz.isAgg4
 z4 := Tryz.sizeOf4
 v4 := Tryz.zeroValue4
 t5 := Tryz.underlying5
 a5 := Tryz.isAgg5
 z5 := Tryz.sizeOf5
 v5 := Tryz.zeroValue5
 t9 := Tryz.underlying9
 a9 := Tryz.isAgg9
 z9 := Tryz.sizeOf9
 v9 := Tryz.zeroValue9
 t21 := Tryz.underlying21
 a21 := Tryz.isAgg21
 z21 := Tryz.sizeOf21
 v21 := Tryz.zeroValue21
 t31 := Tryz.underlying130
 a31 := Tryz.isAgg130
 z31 := Tryz.sizeOf130
 v31 := Tryz.zeroValue130
 t46 := Tryz.underlying125
 a46 := Tryz.isAgg125
 z46 := Tryz.sizeOf125
 v46 := Tryz.zeroValue125
 t51 := Tryz.underlying150
 a51 := Tryz.isAgg150
 z51 := Tryz.sizeOf150
 v51 := Tryz.zeroValue150
 t105 := Tryz.underlying222
 a105 := Tryz.isAgg222
 z105 := Tryz.sizeOf222
 v105 := Tryz.zeroValue222
 t119 := Tryz.underlying228
 a119 := Tryz.isAgg228
 z119 := Tryz.sizeOf228
 t138 := Tryz.underlying230
 a138 := Tryz.isAgg230
 z138 := Tryz.sizeOf230
 v138 := Tryz.zeroValue230
 t139 := Tryz.underlying231
 a139 := Tryz.isAgg231
 z139 := Tryz.sizeOf231
 v139 := Tryz.zeroValue231
 t146 := Tryz.underlying232
 a146 := Tryz.isAgg232
 z146 := Tryz.sizeOf232
 v146 := Tryz.zeroValue232
 g1 := by kernel_rfl
 g3 := by kernel_rfl
 g4 := by kernel_rfl }
end Go.Proofs
