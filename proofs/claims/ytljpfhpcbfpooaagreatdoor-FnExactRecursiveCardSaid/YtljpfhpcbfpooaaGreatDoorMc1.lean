/- What the statements share: part 1 of a proof by an executable machine over the program's code. -/
import Derived.Test.YtljpfhpcbfpooaaGreatDoorMc0
import Derived.Laws.Bits
import Derived.Laws.BytesString
set_option linter.unusedVariables false
set_option linter.unusedSimpArgs false
namespace Go.Mach
open Go Go.RowKit
def BoxR (F : Fx) (G : Gh) (tk : List Nat) (w : World) (es : Box) (p : Pl) : Prop :=
 es.length = p.n ∧ 0 < p.z ∧ (∀ e ∈ es, e.length = p.z) ∧ (∀ e ∈ es, ∀ c ∈ e, D.atom c = true) ∧
 ∀ i j, i < es.length → j < p.z → ∃ v, w.cell? ⟨p.b, p.o + i * p.z + j, none⟩ = some v ∧ w.frozen? ⟨p.b, p.o + i * p.z + j, none⟩ = false ∧ Rep F G tk w ((es.getD i []).getD j .junk) v
structure Fr (F : Fx) (G : Gh) (tk : List Nat) (w : World) : Prop where
 os : w.os = F.w0.os
 tape : w.tape = F.w0.tape
 output : w.output = F.w0.output ∧ F.w0.drawn ≤ w.drawn
 size : F.base ≤ w.heap.size
 same : ∀ b, b < F.base → (∀ p ∈ F.out, p.b ≠ b) → b ∉ F.tkb0 → w.heap[b]? = F.w0.heap[b]?
 ext0 : Ext ⟨[], F.tkb0, F.ice0⟩ F.tk0 F.w0 ⟨[], G.tkb, G.ice⟩ tk w
 ice : ∀ b, b < F.base → b ∉ F.tkb0 → G.ice b = F.ice0 b
def blocks (F : Fx) (G : Gh) : List Nat := F.out.map (·.b) ++ (G.loc.map (·.b) ++ G.tkb)
structure Inv (F : Fx) (G : Gh) (loc out : List Box) (tk : List Nat) (w : World) : Prop where
 locLen : G.loc.length = loc.length
 outLen : F.out.length = out.length
 boxL : ∀ (i : Nat) (es : Box) (p : Pl), loc[i]? = some es → G.loc[i]? = some p → BoxR F G tk w es p
 boxO : ∀ (i : Nat) (es : Box) (p : Pl), out[i]? = some es → F.out[i]? = some p → BoxR F G tk w es p
 nd : (blocks F G).Nodup
 live : ∀ b ∈ blocks F G, b < w.heap.size
 locNew : ∀ p ∈ G.loc, F.base ≤ p.b
 tkLen : G.tkb.length = tk.length
 tkNew : ∀ (i b : Nat), F.tk0.length ≤ i → G.tkb[i]? = some b → F.base ≤ b
 tkOld : ∀ (i b : Nat), i < F.tk0.length → G.tkb[i]? = some b → F.tkb0[i]? = some b ∨ F.base ≤ b
 iceBox : ∀ p ∈ F.out ++ G.loc, G.ice p.b = 0
 iceBig : ∀ b, w.heap.size ≤ b → G.ice b = 0
 fr : Fr F G tk w
def Temps (F : Fx) (G : Gh) (tk : List Nat) (w : World) (t : List D) (a : Act) : Prop :=
 a.tmps.size = t.length ∧ ∀ i, i < t.length → Rep F G tk w (t.getD i .junk) (a.tmps.getD i undef)
structure Sim (F : Fx) (G : Gh) (s : S) (a : Act) (w : World) : Prop where
 inv : Inv F G s.loc s.out s.tk w
 tmp : Temps F G s.tk w s.t a
 def0 : a.defers = []
theorem Temps.ext {F G tk w G' tk' w' t a} (h : Ext G tk w G' tk' w') (ht : Temps F G tk w t a) : Temps F G' tk' w' t a :=
 ⟨ht.1, fun i hi => (ht.2 i hi).ext h⟩
theorem BoxR.ext {F G tk w G' tk' w' es p} (h : Ext G tk w G' tk' w') (hc : ∀ i j, i < es.length → j < p.z → w'.cell? ⟨p.b, p.o + i * p.z + j, none⟩ = w.cell? ⟨p.b, p.o + i * p.z + j, none⟩ ∧ w'.frozen? ⟨p.b, p.o + i * p.z + j, none⟩ = w.frozen? ⟨p.b, p.o + i * p.z + j, none⟩)
  (hb : BoxR F G tk w es p) : BoxR F G' tk' w' es p := by
 obtain ⟨hn, hz, hl, ha, hh⟩ := hb
 refine ⟨hn, hz, hl, ha, fun i j hi hj => ?_⟩
 obtain ⟨v, h1, h2, h3⟩ := hh i j hi hj
 obtain ⟨k1, k2⟩ := hc i j hi hj
 exact ⟨v, by rw [k1, h1], by rw [k2, h2], h3.ext h⟩
theorem getD_set (t : List D) (i j : Nat) (d x : D) : (t.set i d).getD j x = if i = j ∧ j < t.length then d else t.getD j x := by
 simp only [List.getD_eq_getElem?_getD, List.getElem?_set]
 by_cases h : i = j
 · subst h
   by_cases h2 : i < t.length <;> simp [h2]
 · simp [h]
theorem getD_setA (a : Array Value) (i j : Nat) (d x : Value) : (a.setIfInBounds i d).getD j x = if i = j ∧ j < a.size then d else a.getD j x := by
 simp only [Array.getD_eq_getD_getElem?, Array.getElem?_setIfInBounds]
 by_cases h : i = j
 · subst h
   by_cases h2 : i < a.size <;> simp [h2]
 · simp [h]
theorem Temps.put {F G tk w} {s : S} {a : Act} (ht : Temps F G tk w s.t a) (dst : Option Tmp) {d v} (h : Rep F G tk w d v) : Temps F G tk w (s.put dst d).t (a.put dst v) := by
 cases dst with
 | none => exact ht
 | some i =>
   refine ⟨by simp [Act.put, S.put, ht.1], fun j hj => ?_⟩
   simp only [S.put, List.length_set] at hj
   simp only [S.put, Act.put, getD_set, getD_setA, ht.1]
   by_cases hc : i = j ∧ j < s.t.length
   · simp only [hc, and_self, if_true]; exact h
   · simp only [hc, if_false]; exact ht.2 j hj
theorem put_loc (s : S) (dst d) : (s.put dst d).loc = s.loc := by cases dst <;> rfl
theorem put_out (s : S) (dst d) : (s.put dst d).out = s.out := by cases dst <;> rfl
theorem put_tk (s : S) (dst d) : (s.put dst d).tk = s.tk := by cases dst <;> rfl
theorem Sim.put {F G s a w} (h : Sim F G s a w) (dst : Option Tmp) {d v} (hr : Rep F G s.tk w d v) : Sim F G (s.put dst d) (a.put dst v) w := by
 refine ⟨?_, ?_, ?_⟩
 · rw [put_loc, put_out, put_tk]; exact h.inv
 · rw [put_tk]; exact h.tmp.put dst hr
 · cases dst <;> exact h.def0
theorem Rep.ofV {F G tk w} (v : Value) : Rep F G tk w (ofV v) v := by
 unfold Mach.ofV
 split <;> first
  | exact .dat (.int _ _) trivial
  | exact .dat (.bool _) trivial
  | exact .dat (.str _) trivial
  | exact .dat (.slN _ _) trivial
  | exact .dat .pnil trivial
  | exact .junk _
theorem Sim.ev {F G s a w} (h : Sim F G s a w) (x : Operand) : Rep F G s.tk w (s.ev x) (a.eval x) := by
 cases x with
 | tmp i =>
   by_cases hi : i < s.t.length
   · exact h.tmp.2 i hi
   · have : s.t.getD i .junk = .junk := by simp [List.getD_eq_getElem?_getD, List.getElem?_eq_none (Nat.le_of_not_lt hi)]
     simp only [S.ev, this]; exact .junk _
 | const v => exact .ofV v
 | func f => exact .fn f [] #[] rfl (fun i hi => by simp at hi)
 | global g => exact .junk _
def After (F : Fx) (G : Gh) (s : S) (w : World) (C : S → Prop) (a' : Act) (w' : World) : Prop :=
 ∃ G' s', C s' ∧ Sim F G' s' a' w'
theorem wp_value {P : Program} {o : Oper} {F G s a w C Q} {v : Value} {w' : World} (hrun : (execOp a.eval o).run P w = .ok (.value v) w')
  (h : After F G s w C (a.put o.dst v) w') : o.wp P a w (After F G s w C) Q := by
 unfold Oper.wp; rw [hrun]; exact h
theorem wp_same {P : Program} {o : Oper} {F G s a w Q} {C : S → Prop} {d : D} {v : Value} (hs : Sim F G s a w) (hrun : (execOp a.eval o).run P w = .ok (.value v) w)
  (hr : Rep F G s.tk w d v) (hC : C (s.put o.dst d)) : o.wp P a w (After F G s w C) Q :=
 wp_value hrun ⟨G, _, hC, hs.put o.dst hr⟩
theorem wp_skip' {P : Program} {o : Oper} {F G s a w C Q} {w' : World} (hrun : (execOp a.eval o).run P w = .ok .skip w')
  (h : After F G s w C (a.put o.dst undef) w') : o.wp P a w (After F G s w C) Q := by
 unfold Oper.wp; rw [hrun]; exact h
def ZeroR (l : List D) (v : Value) : Prop :=
 v.cells.size = l.length ∧ ∀ i, i < l.length → (l.getD i .junk).cell = true ∧ (∀ σ w, RD σ w (l.getD i .junk) (v.cells.getD i undef))
structure TyOk (P : Program) (t : TypeId) (i : TyI) : Prop where
 bool : i.k = .bool → P.underlying t = some .bool
 int : ∀ k, i.k = .int k → P.underlying t = some (.int k)
 str : i.k = .str → P.underlying t = some .string
 ptr : ∀ e, i.k = .ptr e → P.underlying t = some (.pointer e)
 sl : ∀ e z b, i.k = .sl e z b → P.underlying t = some (.slice e) ∧ 0 < z ∧ ∃ ie zv, P.info? e = some ie ∧ ie.size = z ∧ ie.bytes = b ∧ ie.zero = some zv ∧ zv.cells.size = z
 st : ∀ fs, i.k = .st fs → ∃ gs : Array Field, P.underlying t = some (.struct gs) ∧ gs.size = fs.length ∧
  ∀ (n o z : Nat) (ag : Bool), fs[n]? = some (o, z, ag) → ∃ (f : Field) (d : TypeDesc), gs[n]? = some f ∧ f.offset = o ∧ P.underlying f.type = some d ∧ (ag = true ↔ d.isRow = true) ∧ ∃ fi, P.info? f.type = some fi ∧ fi.size = z
 info : i.k ≠ .other → ∃ ie zv, P.info? t = some ie ∧ ie.size = i.size ∧ ie.zero = some zv ∧ ZeroR i.zero zv
structure FnOk (P : Program) (f : FuncId) (fi : FnI) : Prop where
 ok : ∃ fn : Func, P.funcs[f]? = some fn ∧ fn.body = some fi.body ∧ fn.ntmps = fi.ntmps ∧ fn.results = fi.res.toArray ∧ fn.name ≠ "runtime.NumGoroutine"
theorem run_underlying' {P : Program} {t : TypeId} {d : TypeDesc} (h : P.underlying t = some d) (w : World) : (Go.underlying t).run P w = .ok d w := run_underlying h w
section
variable {P : Program} {E : Env} {F : Fx} {G : Gh} {s : S} {a : Act} {w : World} {o : Oper} {C : S → Prop} {Q : Exit → Act → World → Prop}
theorem Rep.int_inv {tk k n v} (h : Rep F G tk w (.int k n) v) : v = .int k n := by cases h with | dat h _ => cases h; rfl
theorem Rep.bool_inv {tk b v} (h : Rep F G tk w (.bool b) v) : v = .bool b := by cases h with | dat h _ => cases h; rfl
theorem Rep.str_inv {tk b v} (h : Rep F G tk w (.str b) v) : v = .string b := by cases h with | dat h _ => cases h; rfl
theorem Rep.agg_inv {tk cs v} (h : Rep F G tk w (.agg cs) v) : RD G.ice w (.agg cs) v := by cases h with | dat h _ => exact h
theorem Rep.tup_inv {tk cs v} (h : Rep F G tk w (.tup cs) v) : RD G.ice w (.tup cs) v := by cases h with | dat h _ => exact h
theorem Rep.tup_tok {tk vs v} (h : Rep F G tk w (.tup vs) v) : TokOk F G tk w (.tup vs) v := by cases h with | dat h ht => exact ht
theorem Rep.sl_inv {tk t z es v} (h : Rep F G tk w (.sl t z es) v) : RD G.ice w (.sl t z es) v ∧ TokOk F G tk w (.sl t z es) v := by cases h with | dat h ht => exact ⟨h, ht⟩
theorem Rep.pnil_inv {tk v} (h : Rep F G tk w .pnil v) : v = .pointer none := by cases h with | dat h _ => cases h; rfl
theorem Rep.int {tk k n} : Rep F G tk w (.int k n) (.int k n) := .dat (.int _ _) trivial
theorem Rep.bool {tk b} : Rep F G tk w (.bool b) (.bool b) := .dat (.bool _) trivial
theorem Rep.str {tk b} : Rep F G tk w (.str b) (.string b) := .dat (.str _) trivial
theorem Rep.roSl {tk z es v} (h : RD G.ice w (.sl .ro z es) v) : Rep F G tk w (.sl .ro z es) v := .dat h trivial
theorem run_move {x : Operand} (ho : o.op = .move x ∨ o.op = .assign x) : (execOp a.eval o).run P w = .ok (.value (a.eval x)) w := by
 rcases ho with ho | ho <;> simp [execOp, ho]
theorem wp_move (hs : Sim F G s a w) {x : Operand} (ho : o.op = .move x ∨ o.op = .assign x) {d : D} (hr : Rep F G s.tk w d (a.eval x)) (hC : C (s.put o.dst d)) : o.wp P a w (After F G s w C) Q :=
 wp_same hs (run_move ho) hr hC
theorem wp_pick (hs : Sim F G s a w) {c x y : Operand} (ho : o.op = .pick c x y) {v : Bool} (hc : s.ev c = .bool v) (hC : C (s.put o.dst (if v then s.ev x else s.ev y))) : o.wp P a w (After F G s w C) Q := by
 have hb := hs.ev c
 rw [hc] at hb
 have := hb.bool_inv
 refine wp_same hs (d := if v then s.ev x else s.ev y) (v := if v then a.eval x else a.eval y) ?_ ?_ hC
 · simp only [execOp, ho, this, asBool]; cases v <;> rfl
 · cases v
   · exact hs.ev y
   · exact hs.ev x
theorem eqGuard_int {op : BinOp} {t x y k n k' n'} : (eqGuard op t x y (.int k n) (.int k' n')).run P w = .ok () w := by
 unfold eqGuard; cases op <;> rfl
theorem eqGuard_str {op : BinOp} {t x y m n} : (eqGuard op t x y (.string m) (.string n)).run P w = .ok () w := by
 unfold eqGuard; cases op <;> rfl
theorem binI_run {op : BinOp} {k : IntKind} {m n : Int} {d : D} (h : binI op k m n = some d) (t : TypeId) : ∃ v, (binOp op t (.int k m) (.int k n)).run P w = .ok v w ∧ RD G.ice w d v := by
 unfold binI at h
 cases op <;> simp only [Option.some.injEq, reduceCtorEq] at h <;> subst h <;> refine ⟨_, by simp [Go.binOp, Op.intArith, Op.intCmp, Op.intBits] <;> rfl, ?_⟩ <;> first | exact .int _ _ | exact .bool _
theorem bin_sound {rec : T → Option (X × S)} {r : X × S} {K : S → T} (hs : Sim F G s a w) {op : BinOp} {t t' : TypeId} {x y : Operand} (ho : o.op = .binOp op t x y t')
  (hT : runT E rec (binT op (s.ev x) (s.ev y) fun d => K (s.put o.dst d)) = some r) : o.wp P a w (After F G s w fun s' => runT E rec (K s') = some r) Q := by
 have hx := hs.ev x
 have hy := hs.ev y
 revert hT
 generalize s.ev x = dx at hx
 generalize s.ev y = dy at hy
 unfold binT
 intro hT
 split at hT
 · rename_i ik m jk n
   have ex := hx.int_inv
   have ey := hy.int_inv
   split at hT
   · simp only [runT, decide_eq_true_eq] at hT
     split at hT
     · rename_i hn
       have hg : (eqGuard BinOp.shr t x y (.int ik m) (.int jk n)).run P w = .ok () w := eqGuard_int
       refine wp_same hs (v := .int ik (shrI ik m n)) ?_ .int hT
       simp [execOp, ho, ex, ey, hg, Go.binOp, Op.shift, shrI, show ¬ n < 0 by omega]
     · cases hT
   · rename_i hne
     split at hT
     · rename_i hk
       subst hk
       have hg := eqGuard_int (P := P) (w := w) (op := op) (t := t) (x := x) (y := y) (k := ik) (n := m) (k' := ik) (n' := n)
       split at hT
       · simp only [runT, decide_eq_true_eq] at hT
         split at hT
         · rename_i hn
           refine wp_same hs (v := .int ik (ik.wrap (m.tdiv n))) ?_ .int hT
           simp [execOp, ho, ex, ey, hg, Go.binOp, Op.intDiv, hn]
         · cases hT
       · simp only [runT, decide_eq_true_eq] at hT
         split at hT
         · rename_i hn
           refine wp_same hs (v := .int ik (m.tmod n)) ?_ .int hT
           simp [execOp, ho, ex, ey, hg, Go.binOp, Op.intDiv, hn]
         · cases hT
       · split at hT
         · rename_i d hd
           obtain ⟨v, hv, hr⟩ := binI_run (P := P) (w := w) (G := G) hd t
           refine wp_same hs (v := v) ?_ (.dat hr ?_) hT
           · simp [execOp, ho, ex, ey, hg, hv]
           · unfold binI at hd
             cases op <;> simp only [Option.some.injEq, reduceCtorEq] at hd <;> subst hd <;> trivial
         · simp [runT] at hT
     · simp [runT] at hT
 · rename_i m n
   have ex := hx.str_inv
   have ey := hy.str_inv
   have hg := eqGuard_str (P := P) (w := w) (op := op) (t := t) (x := x) (y := y) (m := m) (n := n)
   split at hT
   · simp only [runT, decide_eq_true_eq] at hT
     split at hT
     · rename_i hn
       refine wp_same hs (v := .string (m ++ n)) ?_ .str hT
       have h1 : ¬ (((m.size + n.size : Nat) : Int) > IntKind.i64.max) := by
        have : IntKind.i64.max = 9223372036854775807 := rfl
        rw [this]; omega
       simp only [execOp, ho, ex, ey, hg, Sem.run_bind, Result.andThen_ok, Go.binOp, Op.stringOp, if_neg h1, Sem.run_pure]
     · cases hT
   · refine wp_same hs (v := .bool (m.toList == n.toList)) ?_ .bool hT
     simp [execOp, ho, ex, ey, hg, Go.binOp, Op.stringOp]
   · refine wp_same hs (v := .bool (!(m.toList == n.toList))) ?_ .bool hT
     simp [execOp, ho, ex, ey, hg, Go.binOp, Op.stringOp]
   · refine wp_same hs (v := .bool (gtS m n)) ?_ .bool hT
     simp [execOp, ho, ex, ey, hg, Go.binOp, Op.stringOp, gtS]
   · simp [runT] at hT
 · simp [runT] at hT
theorem unop_sound {rec : T → Option (X × S)} {r : X × S} {K : S → T} (hs : Sim F G s a w) {op : UnOp} {t : TypeId} {x : Operand} (ho : o.op = .unOp op t x)
  (hT : runT E rec (opT E o s K) = some r) : o.wp P a w (After F G s w fun s' => runT E rec (K s') = some r) Q := by
 have hx := hs.ev x
 simp only [opT, ho] at hT
 revert hT
 generalize s.ev x = dx at hx
 intro hT
 split at hT
 · have ex := hx.int_inv
   refine wp_same hs ?_ .int hT
   simp [execOp, ho, ex, Op.unary, Op.intArith]
 · have ex := hx.bool_inv
   refine wp_same hs ?_ .bool hT
   simp [execOp, ho, ex, Op.unary]
 · simp [runT] at hT
theorem convert_sound {rec : T → Option (X × S)} {r : X × S} {K : S → T} (hE : ∀ t, TyOk P t (E.ty t)) (hs : Sim F G s a w) {src dst : TypeId} {x : Operand} (ho : o.op = .convert src dst x)
  (hT : runT E rec (opT E o s K) = some r) : o.wp P a w (After F G s w fun s' => runT E rec (K s') = some r) Q := by
 have hx := hs.ev x
 simp only [opT, ho] at hT
 revert hT
 generalize hks : (E.ty src).k = ks
 generalize hkd : (E.ty dst).k = kd
 generalize s.ev x = dx at hx
 intro hT
 split at hT
 · rename_i k0 k k' n
   have ex := hx.int_inv
   have hu := (hE dst).int k hkd
   refine wp_same hs (v := .int k (k.wrap n)) ?_ .int hT
   have hv := (hE src).int _ hks
   simp [execOp, ho, ex, convert, run_underlying hu, run_underlying hv, Conv.intToInt]
 · rename_i b
   have ex := hx.str_inv
   have hu := (hE dst).str hkd
   have hv := (hE src).str hks
   refine wp_same hs ?_ .str hT
   simp [execOp, ho, ex, convert, run_underlying hu, run_underlying hv]
 · rename_i e z0 b0 t z es
   split at hT
   · rename_i hc
     simp only [Bool.and_eq_true, beq_iff_eq] at hc
     obtain ⟨hc1, rfl, hc3⟩ := hc
     have hu := (hE dst).str hkd
     have hv := ((hE src).sl _ _ _ hks).1
     have he : P.underlying e = some (.int .u8) := (hE e).int _ (by revert hc1; unfold Mach.K.isU8; split <;> simp_all)
     obtain ⟨hr, _⟩ := hx.sl_inv
     generalize hva : a.eval x = v at hr
     cases hr with
     | slN =>
       refine wp_same hs (v := .string (ofBytes [])) ?_ .str hT
       have h0 := run_convert_bytes_string (P := P) w src dst e none 0 0 hv he hu
       simp only [execOp, ho, hva, Sem.run_bind, h0]
       rfl
     | sl _ _ _ b o' cap f ht hz hl hc' hcap hs' hw hh =>
       refine wp_same hs (v := .string (ofBytes es)) ?_ .str hT
       have h0 := run_convert_bytes_string (P := P) w src dst e (some ⟨b, o', none⟩) es.length cap hv he hu
       have hcl := run_loadCells_list (P := P) (w := w) ⟨b, o', none⟩ ((es.map byteN).map (Value.int .u8)) (fun j v hj => by
        rw [List.getElem?_map, List.getElem?_map] at hj
        have hjl : j < es.length := by
         rcases Nat.lt_or_ge j es.length with h | h
         · exact h
         · rw [List.getElem?_eq_none h] at hj; cases hj
        rw [List.getElem?_eq_getElem hjl] at hj
        simp only [Option.map_some, Option.some.injEq] at hj
        have h1 := hw j 0 hjl hz
        have h2 := hh j 0 hjl hz
        have h3 : es.getD j [] = es[j] := by rw [List.getD_eq_getElem?_getD, List.getElem?_eq_getElem hjl]; rfl
        rw [h3] at h2
        have h4 := List.all_eq_true.1 hc3 _ (List.getElem_mem hjl)
        revert h2 h4 hj
        generalize es[j] = c
        intro hj h2 h4
        split at h4
        · simp only [List.getD_cons_zero] at h2
          rw [Nat.mul_one, Nat.add_zero] at h1
          rw [Addr.add_mid, h1, ← hj]
          generalize f j 0 = y at h2
          cases h2; rfl
        · cases h4)
       rw [List.length_map, List.length_map] at hcl
       have h5 := run_bytesToString (P := P) w ⟨b, o', none⟩ es.length cap (es.map byteN) hcl
       simp only [execOp, ho, hva, Sem.run_bind, h0, h5, Result.andThen_ok, Sem.run_pure]
       rfl
   · simp [runT] at hT
 · simp [runT] at hT
theorem extract_sound {rec : T → Option (X × S)} {r : X × S} {K : S → T} (hs : Sim F G s a w) {x : Operand} {i : Nat} (ho : o.op = .extract x i)
  (hT : runT E rec (opT E o s K) = some r) : o.wp P a w (After F G s w fun s' => runT E rec (K s') = some r) Q := by
 have hx := hs.ev x
 simp only [opT, ho] at hT
 revert hT
 generalize s.ev x = dx at hx
 intro hT
 split at hT
 · rename_i vs
   have hr := hx.tup_inv
   have ht := hx.tup_tok
   generalize hv : a.eval x = v at hr ht
   cases hr with
   | tup _ ws hl hc h =>
     split at hT
     · rename_i hi
       refine wp_same hs (v := ws.getD i undef) ?_ (.dat (h i hi) (.of_fin (flat_fin ?_) (NwD.elem ht hi ?_))) hT
       · have h2 : i < ws.size := by omega
         simp [execOp, ho, hv, Instr.extract, Array.getD, h2]
       · rw [List.getD_eq_getElem?_getD, List.getElem?_eq_getElem hi]; exact hc _ (List.getElem_mem hi)
       · rw [List.getD_eq_getElem?_getD, List.getElem?_eq_getElem hi]; exact hc _ (List.getElem_mem hi)
     · simp [runT] at hT
 · simp [runT] at hT
theorem len_sound {rec : T → Option (X × S)} {r : X × S} {K : S → T} (hE : ∀ t, TyOk P t (E.ty t)) (hs : Sim F G s a w) {c : Call} (ho : o.op = .call c) (hc : c.callee = .builtin .len)
  (hT : runT E rec (opT E o s K) = some r) : o.wp P a w (After F G s w fun s' => runT E rec (K s') = some r) Q := by
 simp only [opT, ho, hc] at hT
 have hargs : ∀ x, c.args.toList = [x] → c.args = #[x] := fun x hx => by
  apply Array.toList_inj.1; simpa using hx
 have htys : ∀ x, c.argTypes.toList = [x] → c.argTypes = #[x] := fun x hx => by
  apply Array.toList_inj.1; simpa using hx
 split at hT
 · rename_i e z b t z' es h1 h2
   rw [List.map_eq_singleton_iff] at h1 h2
   obtain ⟨ty, h1, h1'⟩ := h1
   obtain ⟨x, h2, h2'⟩ := h2
   have hx := hs.ev x
   rw [h2'] at hx
   have hu := ((hE ty).sl _ _ _ h1').1
   obtain ⟨hr, _⟩ := hx.sl_inv
   generalize hv : a.eval x = v at hr
   have : ∃ q cap, v = .slice q es.length cap := by cases hr <;> exact ⟨_, _, rfl⟩
   obtain ⟨q, cap, rfl⟩ := this
   refine wp_same hs (v := .int .i64 es.length) ?_ .int hT
   simp [execOp, ho, resolve, hc, invoke, builtin, Builtin.len_, hargs _ h2, htys _ h1, hv, run_underlying hu, goInt]
 · rename_i b h1 h2
   rw [List.map_eq_singleton_iff] at h1 h2
   obtain ⟨ty, h1, h1'⟩ := h1
   obtain ⟨x, h2, h2'⟩ := h2
   have hx := hs.ev x
   rw [h2'] at hx
   have hu := (hE ty).str h1'
   have hv := hx.str_inv
   refine wp_same hs (v := .int .i64 b.size) ?_ .int hT
   simp [execOp, ho, resolve, hc, invoke, builtin, Builtin.len_, hargs _ h2, htys _ h1, hv, run_underlying hu, goInt]
 · rename_i e z b r0 z' n h1 h2
   rw [List.map_eq_singleton_iff] at h1 h2
   obtain ⟨ty, h1, h1'⟩ := h1
   obtain ⟨x, h2, h2'⟩ := h2
   have hx := hs.ev x
   rw [h2'] at hx
   have hu := ((hE ty).sl _ _ _ h1').1
   generalize hv : a.eval x = v at hx
   cases hx with
   | dat h _ => cases h
   | asl _ _ _ cap b o hp hn =>
   refine wp_same hs (v := .int .i64 n) ?_ .int hT
   simp [execOp, ho, resolve, hc, invoke, builtin, Builtin.len_, hargs _ h2, htys _ h1, hv, run_underlying hu, goInt]
 · simp [runT] at hT
end
section
variable {P : Program} {E : Env} {F : Fx} {G : Gh} {s : S} {a : Act} {w : World} {o : Oper} {Q : Exit → Act → World → Prop} {rec : T → Option (X × S)} {r : X × S} {K : S → T}
theorem getD_map (l : List D) (g : D → D) (hg : g .junk = .junk) (i : Nat) : (l.map g).getD i .junk = g (l.getD i .junk) := by
 simp only [List.getD_eq_getElem?_getD, List.getElem?_map]
 cases l[i]? <;> simp [hg]
theorem getD_sub (cs : List D) (off n i : Nat) (hi : i < n) : ((cs.drop off).take n).getD i .junk = cs.getD (off + i) .junk := by
 simp only [List.getD_eq_getElem?_getD, List.getElem?_take, if_pos hi, List.getElem?_drop]
theorem mem_getD {cs : List D} {i : Nat} (hi : i < cs.length) : cs.getD i .junk ∈ cs := by
 rw [List.getD_eq_getElem?_getD, List.getElem?_eq_getElem hi]; exact List.getElem_mem hi
theorem part_agg {σ : Nat → Nat} {cs : List D} {f : Nat → Value} {off n : Nat} (hf : off + n ≤ cs.length) (ha : ∀ c ∈ cs, D.atom c = true) (h : ∀ j, j < n → RD σ w (cs.getD (off + j) .junk) (f j)) :
  RD σ w (.agg (((cs.drop off).take n).map D.plain)) (.agg ((List.range n).map f).toArray) := by
 refine .agg _ _ (by simp; omega) ?_ ?_
 · intro c hc
   simp only [List.mem_map] at hc
   obtain ⟨d, hd, rfl⟩ := hc
   exact plain_cell (ha d (List.mem_of_mem_drop (List.mem_of_mem_take hd)))
 · intro i hi
   simp at hi
   have h1 : i < n := by omega
   rw [getD_map _ _ rfl, getD_sub _ _ _ _ h1]
   have h2 : (((List.range n).map f).toArray).getD i undef = f i := by simp [Array.getD, h1]
   rw [h2]
   exact (h i h1).plainD
theorem run_isAgg_false {t : TypeId} {d : TypeDesc} (hu : P.underlying t = some d) (hd : d.isRow = false) : (isAgg t).run P w = .ok false w := by
 unfold isAgg
 rw [Sem.run_bind, run_underlying hu w]
 cases d <;> simp_all
theorem load_run {t : TypeId} {i : TyI} (hi : TyOk P t i) (hk : i.k.known = true) (hs : 0 < i.size) {b p : Nat} {f : Nat → Value} (hw : ∀ j, j < i.size → w.cell? ⟨b, p + j, none⟩ = some (f j)) :
  (Instr.loadAt t (.pointer (some ⟨b, p, none⟩))).run P w = .ok (if i.k.isSt then .agg ((List.range i.size).map f).toArray else f 0) w := by
 obtain ⟨ie, zv, hinfo, hsize, _, _⟩ := hi.info (by intro h; rw [h] at hk; cases hk)
 by_cases hst : i.k.isSt = true
 · rw [if_pos hst]
   obtain ⟨fs, hfs⟩ : ∃ fs, i.k = .st fs := by cases hq : i.k <;> rw [hq] at hst <;> first | exact ⟨_, rfl⟩ | cases hst
   obtain ⟨gs, hu, _, _⟩ := hi.st fs hfs
   have := run_loadAt_mid (P := P) w b p t ((List.range i.size).map f) _ (fun j v hv => by
    rw [List.getElem?_map] at hv
    have hj : j < i.size := by
     rcases Nat.lt_or_ge j i.size with h | h
     · exact h
     · rw [List.getElem?_eq_none (by simpa using h)] at hv; cases hv
    rw [List.getElem?_range hj] at hv
    injection hv with hv
    rw [hw j hj, hv]) hu rfl (by simp [hinfo, hsize])
   exact this
 · rw [if_neg hst]
   have hd : ∃ d, P.underlying t = some d ∧ d.isRow = false := by
    cases hq : i.k with
    | bool => exact ⟨_, hi.bool hq, rfl⟩
    | int k => exact ⟨_, hi.int k hq, rfl⟩
    | str => exact ⟨_, hi.str hq, rfl⟩
    | ptr e => exact ⟨_, hi.ptr e hq, rfl⟩
    | sl e z b => exact ⟨_, (hi.sl e z b hq).1, rfl⟩
    | st fs => rw [hq] at hst; exact absurd rfl hst
    | other => rw [hq] at hk; cases hk
   obtain ⟨d, hu, hd⟩ := hd
   have h0 := hw 0 hs
   simp only [Instr.loadAt, Instr.sureAddr, Sem.run_bind, Sem.run_pure, Result.andThen_ok, loadVar, run_isAgg_false hu hd, Bool.false_eq_true, if_false, run_load]
   rw [show (⟨b, p, none⟩ : Addr) = ⟨b, p + 0, none⟩ from rfl, h0]
theorem fits_inv {i : TyI} {off len : Nat} (h : i.fits off len = true) : i.k.known = true ∧ off + i.size ≤ len ∧ 0 < i.size := by
 simpa [TyI.fits] using h
theorem Rep.atom_inv {tk d v} (h : Rep F G tk w d v) (hd : d.atom = true) : RD G.ice w d v ∧ TokOk F G tk w d v := by
 cases h with
 | dat h ht => exact ⟨h, ht⟩
 | _ => simp [D.atom] at hd
theorem part_rep {tk} {i : TyI} {cs : List D} {f : Nat → Value} {off : Nat} (hf : off + i.size ≤ cs.length) (hs : 0 < i.size) (ha : ∀ c ∈ cs, D.atom c = true)
  (h : ∀ j, j < i.size → Rep F G tk w (cs.getD (off + j) .junk) (f j)) : Rep F G tk w (part i.k.isSt i.size cs off) (if i.k.isSt then .agg ((List.range i.size).map f).toArray else f 0) := by
 unfold part
 by_cases hst : i.k.isSt = true
 · rw [if_pos hst, if_pos hst]
   exact .dat (part_agg hf ha fun j hj => ((h j hj).atom_inv (ha _ (mem_getD (by omega)))).1) trivial
 · rw [if_neg hst, if_neg hst]
   exact h 0 hs
theorem Sim.box {r0 : Ref} {es : Box} {p : Pl} (hs : Sim F G s a w) (hb : s.box r0 = some es) (hp : place F G r0 = some p) : BoxR F G s.tk w es p := by
 cases r0 with
 | loc i => exact hs.inv.boxL i es p hb hp
 | out i => exact hs.inv.boxO i es p hb hp
theorem load_sound (hE : ∀ t, TyOk P t (E.ty t)) (hs : Sim F G s a w) {t : TypeId} {x : Operand} (ho : o.op = .load t x)
  (hT : runT E rec (opT E o s K) = some r) : o.wp P a w (After F G s w fun s' => runT E rec (K s') = some r) Q := by
 have hx := hs.ev x
 simp only [opT, ho] at hT
 revert hT
 generalize s.ev x = dx at hx
 intro hT
 have hrun : ∀ v w', (Instr.loadAt t (a.eval x)).run P w = .ok v w' → (execOp a.eval o).run P w = .ok (.value v) w' := fun v w' h => by simp [execOp, ho, h]
 split at hT
 · rename_i cs off
   generalize hv : a.eval x = v at hx
   split at hT
   · rename_i hf
     obtain ⟨hk, hf, h0⟩ := fits_inv hf
     cases hx with
     | dat h _ => cases h
     | pel _ _ b p f hss hc hw hh =>
       have hl := load_run (w := w) (hE t) hk h0 (b := b) (p := p + off) (f := fun j => f (off + j)) (fun j hj => by rw [Nat.add_assoc]; exact hw (off + j) (by omega))
       rw [← hv] at hl
       exact wp_same hs (hrun _ _ hl) (part_rep (f := fun j => f (off + j)) hf h0 (fun c hc' => cell_atom (hc c hc')) (fun j hj => .dat (hh (off + j) (by omega)) (.of_free (free_cell (hc _ (mem_getD (by omega))))))) hT
   · simp [runT] at hT
 · rename_i r0 off
   generalize hv : a.eval x = v at hx
   split at hT
   · rename_i cs hb
     split at hT
     · rename_i hf
       obtain ⟨hk, hf, h0⟩ := fits_inv hf
       cases hx with
       | dat h _ => cases h
       | pbx _ _ b o' z n hp =>
         obtain ⟨_, hz, hlen, hat, hcell⟩ := hs.box hb hp
         simp only [List.mem_singleton, forall_eq] at hlen hat
         have hcell' : ∀ j, j < cs.length → ∃ v, w.cell? ⟨b, o' + j, none⟩ = some v ∧ Rep F G s.tk w (cs.getD j .junk) v := fun j hj => by
          obtain ⟨v, h1, _, h3⟩ := hcell 0 j (by simp) (by have : cs.length = z := hlen; show j < z; omega)
          exact ⟨v, by simpa using h1, by simpa using h3⟩
         let f : Nat → Value := fun j => (w.cell? ⟨b, o' + (off + j), none⟩).getD undef
         have hl := load_run (w := w) (hE t) hk h0 (b := b) (p := o' + off) (f := f) (fun j hj => by
          obtain ⟨v, h1, _⟩ := hcell' (off + j) (by omega)
          simp [f, Nat.add_assoc, h1])
         rw [← hv] at hl
         refine wp_same hs (hrun _ _ hl) (part_rep (f := f) hf h0 hat (fun j hj => ?_)) hT
         obtain ⟨v, h1, h2⟩ := hcell' (off + j) (by omega)
         simpa [f, h1] using h2
     · simp [runT] at hT
   · simp [runT] at hT
 · rename_i r0 z j off
   generalize hv : a.eval x = v at hx
   split at hT
   · rename_i es hb
     split at hT
     · rename_i hf
       obtain ⟨hk, hf, h0⟩ := fits_inv hf
       simp only [runT] at hT
       split at hT
       · rename_i hj
         split at hT
         · rename_i cs hcs
           cases hx with
           | dat h _ => cases h
           | pba _ _ _ _ b o' n hp hi =>
             obtain ⟨_, hz, hlen, hat, hcell⟩ := hs.box hb hp
             have hmem : cs ∈ es := List.mem_of_getElem? hcs
             have hjl : j.toNat < es.length := (List.getElem?_eq_some_iff.1 hcs).1
             have hget : es.getD j.toNat [] = cs := by rw [List.getD_eq_getElem?_getD, hcs]; rfl
             have hl0 : cs.length = z := hlen cs hmem
             simp only at hcell
             have hcell' : ∀ k, k < cs.length → ∃ v, w.cell? ⟨b, o' + j.toNat * z + k, none⟩ = some v ∧ Rep F G s.tk w (cs.getD k .junk) v := fun k hk => by
              obtain ⟨v, h1, _, h3⟩ := hcell j.toNat k hjl (by rw [← hl0]; exact hk)
              exact ⟨v, h1, by rw [hget] at h3; exact h3⟩
             let f : Nat → Value := fun k => (w.cell? ⟨b, o' + j.toNat * z + (off + k), none⟩).getD undef
             have hl := load_run (w := w) (hE t) hk h0 (b := b) (p := o' + j.toNat * z + off) (f := f) (fun k hk => by
              obtain ⟨v, h1, _⟩ := hcell' (off + k) (by omega)
              simp [f, Nat.add_assoc] at h1 ⊢
              simp [h1])
             rw [← hv] at hl
             refine wp_same hs (hrun _ _ hl) (part_rep (f := f) (by omega) h0 (hat cs hmem) (fun k hk => ?_)) hT
             obtain ⟨v, h1, h2⟩ := hcell' (off + k) (by omega)
             simpa [f, h1] using h2
         · cases hT
       · cases hT
     · simp [runT] at hT
   · simp [runT] at hT
 · simp [runT] at hT
theorem run_fieldPlace {t : TypeId} {gs : Array Field} {f : Field} {fi : TypeInfo} {n : Nat} (hu : P.underlying t = some (.struct gs)) (hf : gs[n]? = some f) (hi : P.info? f.type = some fi) (hz : fi.size ≠ 0) (b p : Nat) :
  (Instr.fieldAt t (.pointer (some ⟨b, p, none⟩)) n).run P w = .ok (.pointer (some ⟨b, p + f.offset, none⟩)) w := by
 simp [Instr.fieldAt, run_underlying hu, hf, Instr.sureAddr, fieldPlace, sizeOf, typeInfo, hi, hz, Addr.add_mid]
theorem fieldAddr_sound (hE : ∀ t, TyOk P t (E.ty t)) (hs : Sim F G s a w) {t : TypeId} {x : Operand} {n : Nat} (ho : o.op = .fieldAddr t x n)
  (hT : runT E rec (opT E o s K) = some r) : o.wp P a w (After F G s w fun s' => runT E rec (K s') = some r) Q := by
 have hx := hs.ev x
 simp only [opT, ho] at hT
 revert hT
 generalize hkt : (E.ty t).k = kt
 generalize s.ev x = dx at hx
 intro hT
 split at hT
 · rename_i fs
   split at hT
   · rename_i o' sz ag hfs
     split at hT
     · simp [runT] at hT
     · rename_i hsz
       obtain ⟨gs, hu, _, hall⟩ := (hE t).st fs hkt
       obtain ⟨f, d, hf, hoff, hd, _, fi, hfi, hfsz⟩ := hall n o' sz ag hfs
       have hrun : ∀ b p, a.eval x = .pointer (some ⟨b, p, none⟩) → (execOp a.eval o).run P w = .ok (.value (.pointer (some ⟨b, p + o', none⟩))) w := fun b p h => by
        have := run_fieldPlace (P := P) (w := w) hu hf hfi (by omega) b p
        rw [hoff] at this
        simp [execOp, ho, h, this]
       generalize hv : a.eval x = v at hx
       split at hT
       · cases hx with
         | dat h _ => cases h
         | pel cs off b p f hss hc hw hh =>
           refine wp_same hs (hrun _ _ hv) ?_ hT
           rw [Nat.add_assoc]; exact .pel _ _ b p f hss hc hw hh
       · cases hx with
         | dat h _ => cases h
         | pbx r0 off b o'' z n hp =>
           refine wp_same hs (hrun _ _ hv) ?_ hT
           rw [Nat.add_assoc]; exact .pbx _ _ b o'' z _ hp
       · cases hx with
         | dat h _ => cases h
         | pba r0 z i off b o'' n hp hi =>
           refine wp_same hs (hrun _ _ hv) ?_ hT
           rw [Nat.add_assoc]; exact .pba _ _ _ _ b o'' _ hp hi
       · simp [runT] at hT
   · simp [runT] at hT
 · simp [runT] at hT
theorem run_part {t : TypeId} {d : TypeDesc} {fi : TypeInfo} {vs : Array Value} {off : Nat} {f : Nat → Value} (hu : P.underlying t = some d) (hi : P.info? t = some fi) (h0 : 0 < fi.size) (hf : off + fi.size ≤ vs.size)
  (hv : ∀ j, j < fi.size → vs.getD (off + j) undef = f j) : (Go.part t vs off).run P w = .ok (if d.isRow then .agg ((List.range fi.size).map f).toArray else f 0) w := by
 unfold Go.part
 by_cases hd : d.isRow = true
 · have : (isAgg t).run P w = .ok true w := by
     unfold isAgg; rw [Sem.run_bind, run_underlying hu w]; cases d <;> simp_all
   simp only [Sem.run_bind, this, Result.andThen_ok, if_true, hd, sizeOf, typeInfo, run_program, Tables.info?]
   have hi' := hi
   simp only [Tables.info?] at hi'
   simp only [hi', Sem.run_pure, Result.andThen_ok]
   congr 2
   apply Array.ext
   · simp; omega
   · intro j h1 h2
     have hj : j < fi.size := by simpa using h2
     have := hv j hj
     simp only [Array.getD] at this
     rw [dif_pos (by omega)] at this
     simp
     exact this
 · simp only [Bool.not_eq_true] at hd
   have h1 := hv 0 h0
   simp only [Array.getD, Nat.add_zero] at h1
   rw [dif_pos (by omega)] at h1
   have h2 : vs[off]? = some (f 0) := by rw [Array.getElem?_eq_getElem (by omega)]; exact congrArg some h1
   simp [run_isAgg_false hu hd, h2, hd]
theorem field_sound (hE : ∀ t, TyOk P t (E.ty t)) (hs : Sim F G s a w) {t : TypeId} {x : Operand} {n : Nat} (ho : o.op = .field t x n)
  (hT : runT E rec (opT E o s K) = some r) : o.wp P a w (After F G s w fun s' => runT E rec (K s') = some r) Q := by
 have hx := hs.ev x
 simp only [opT, ho] at hT
 revert hT
 generalize hkt : (E.ty t).k = kt
 generalize s.ev x = dx at hx
 intro hT
 split at hT
 · rename_i fs cs
   split at hT
   · rename_i o' sz ag hfs
     split at hT
     · rename_i hfit
       obtain ⟨gs, hu, _, hall⟩ := (hE t).st fs hkt
       obtain ⟨f, d, hf, hoff, hd, hag, fi, hfi, hfsz⟩ := hall n o' sz ag hfs
       have hr := hx.agg_inv
       generalize hv : a.eval x = v at hr
       cases hr with
       | agg _ vs hl hc h =>
         have hp := run_part (w := w) (off := f.offset) (vs := vs) (f := fun j => vs.getD (o' + j) undef) hd hfi (by omega) (by omega) (fun j _ => by rw [hoff])
         refine wp_same hs (v := if d.isRow then .agg ((List.range fi.size).map fun j => vs.getD (o' + j) undef).toArray else vs.getD (o' + 0) undef) ?_ ?_ hT
         · simp only [execOp, ho, hv, Instr.field, asAgg, Sem.run_bind, run_underlying hu, Result.andThen_ok, hf, Sem.run_pure, hp]
         · unfold part
           by_cases hb : ag = true
           · rw [if_pos hb, if_pos (hag.1 hb), hfsz]
             exact .dat (part_agg hfit.1 (fun c hc' => cell_atom (hc c hc')) (fun j hj => h (o' + j) (by omega))) trivial
           · rw [if_neg hb, if_neg (fun h => hb (hag.2 h))]
             exact .dat (h o' (by omega)) (.of_free (free_cell (hc _ (mem_getD (by omega)))))
     · simp [runT] at hT
   · simp [runT] at hT
 · simp [runT] at hT
theorem nilCheck_sound (hs : Sim F G s a w) {x : Operand} (ho : o.op = .nilCheck x)
  (hT : runT E rec (opT E o s K) = some r) : o.wp P a w (After F G s w fun s' => runT E rec (K s') = some r) Q := by
 have hx := hs.ev x
 simp only [opT, ho] at hT
 revert hT
 generalize s.ev x = dx at hx
 intro hT
 generalize hv : a.eval x = v at hx
 split at hT
 · cases hx with
   | dat h _ => cases h
   | pbx r0 off b o' z n hp => exact wp_same hs (by simp [execOp, ho, hv]) (.pbx _ _ b o' z _ hp) hT
 · cases hx with
   | dat h _ => cases h
   | pel cs off b p f hss hc hw hh => exact wp_same hs (by simp [execOp, ho, hv]) (.pel _ _ b p f hss hc hw hh) hT
 · cases hx with
   | dat h _ => cases h
   | pba r0 z i off b o' n hp hi => exact wp_same hs (by simp [execOp, ho, hv]) (.pba _ _ _ _ b o' _ hp hi) hT
 · cases hx with
   | dat h _ => cases h
   | fn f cap vs hl h => exact wp_same hs (by simp [execOp, ho, hv]) (.fn _ _ vs hl h) hT
 · simp [runT] at hT
theorem makeFunc_sound (hs : Sim F G s a w) {fn : Fn} {fst cap : Array Operand} (ho : o.op = .makeFunc fn fst cap)
  (hT : runT E rec (opT E o s K) = some r) : o.wp P a w (After F G s w fun s' => runT E rec (K s') = some r) Q := by
 cases fn with
 | func f =>
   simp only [opT, ho] at hT
   split at hT
   · rename_i hz
     have hz' : fst = #[] := by simpa using hz
     refine wp_same hs (v := .func (.func f) #[] (cap.map a.eval)) ?_ ?_ hT
     · simp [execOp, ho, Instr.makeFunc, hz']
     · refine .fn f _ _ (by simp) (fun i hi => ?_)
       simp at hi
       have h1 : ((cap.toList.map s.ev).getD i .junk) = s.ev cap[i] := by simp [List.getD_eq_getElem?_getD, hi]
       have h2 : ((cap.map a.eval).getD i undef) = a.eval cap[i] := by simp [Array.getD, hi]
       rw [h1, h2]; exact hs.ev _
   · simp [runT] at hT
 | _ => simp [opT, ho, runT] at hT
theorem Rep.moveD {tk d v} (h : Rep F G tk w d v) (k : Mach.K) : Rep F G tk w (Mach.moveD k d) v := by
 unfold Mach.moveD
 split
 · split
   · exact h
   · split
     · rename_i ht
       subst ht
       obtain ⟨hr, _⟩ := h.sl_inv
       cases hr with
       | slN => exact .dat (.slN _ _) trivial
       | sl _ _ _ _ _ _ _ ht => exact absurd rfl ht
     · exact h
 · exact h
theorem move_sound (hs : Sim F G s a w) {x : Operand} (ho : o.op = .move x ∨ o.op = .assign x)
  (hT : runT E rec (opT E o s K) = some r) : o.wp P a w (After F G s w fun s' => runT E rec (K s') = some r) Q := by
 refine wp_same hs (run_move ho) ((hs.ev x).moveD (E.ty o.type).k) ?_
 rcases ho with ho | ho <;> simpa only [opT, ho] using hT
theorem pick_sound (hs : Sim F G s a w) {c x y : Operand} (ho : o.op = .pick c x y)
  (hT : runT E rec (opT E o s K) = some r) : o.wp P a w (After F G s w fun s' => runT E rec (K s') = some r) Q := by
 simp only [opT, ho] at hT
 split at hT
 · rename_i v hv
   refine wp_pick hs ho hv ?_
   simp only [runT] at hT
   cases v <;> simpa using hT
 · simp [runT] at hT
end
end Go.Mach
