/- What the statements share: part 5 of a proof by an executable machine over the program's code. -/
import Derived.Test.YtljpfhpcbfpooaaGreatDoorMc4
import Derived.Laws.Small
set_option linter.unusedVariables false
set_option linter.unusedSimpArgs false
namespace Go.Mach
open Go Go.RowKit
def EqTy (P : Program) (t : TypeId) (z : List D) : Prop :=
 P.eqGuardType P.depth t = false ∧ ∀ σ w cs ds xs ys v, shapeD z cs = true → RD σ w (.agg cs) (.agg xs) → RD σ w (.agg ds) (.agg ys) → eqD cs ds = some v → (Op.equal t (.agg xs) (.agg ys)).run P w = .ok v w
def ArgR (σ : Nat → Nat) (w : World) (d : D) (v : Value) : Prop := d.free = true ∧ RD σ w d v ∨ d.hand = true ∧ ∀ (F : Fx) (G : Gh) (tk : List Nat), G.ice = σ → Rep F G tk w d v
def ArgN (lm : Nat) (σ : Nat → Nat) (w : World) (d : D) (v : Value) : Prop := ArgR σ w d v ∨ ∃ z es, d = .sl .nw z es ∧ RD σ w d v ∧ NewR lm σ w z es v
structure ExtOk (P : Program) (f : FuncId) (g : List D → Option D) : Prop where
 fn : ∃ fn : Func, P.funcs[f]? = some fn ∧ fn.name ≠ "runtime.NumGoroutine" ∧ fn.body.isNone = false
 ok : ∀ (σ : Nat → Nat) (w : World) (args : List D) (vs : Array Value) (d : D), vs.size = args.length → (∀ i, i < args.length → ArgR σ w (args.getD i .junk) (vs.getD i undef)) → (∀ b, w.heap.size ≤ b → σ b = 0) → g args = some d →
  Calls P f vs w fun e w' => ∃ v σ', e = .returned v ∧ RD σ' w' d v ∧ (d.fin = true ∧ NwD w.heap.size σ' w' d v) ∧ (Below w.heap.size w w' ∧ w.drawn ≤ w'.drawn) ∧ (∀ b, b < w.heap.size → σ' b = σ b) ∧ ∀ b, w'.heap.size ≤ b → σ' b = 0
def CallOk (P : Program) (f : FuncId) (n : Nat) (as_ : List D) (out : List Box) (tk : List Nat) (q : List D × List Box × List Nat × List Box) : Prop :=
 ∀ (F : Fx) (G : Gh) (vs : Array Value) (w : World),
  Sim F G ⟨as_ ++ List.replicate (n - as_.length) .junk, [], out, tk⟩ { tmps := vs ++ Array.replicate (n - vs.size) undef, defers := [] } w →
  Calls P f vs w fun e w' => ∃ (vs' : List Value) (G' : Gh), e = .returned (if h : vs'.toArray.size = 1 then vs'.toArray[0] else .tuple vs'.toArray) ∧ Inv F G' q.2.2.2 q.2.1 q.2.2.1 w' ∧ vs'.length = q.1.length ∧
   ∀ i, i < q.1.length → Rep F G' q.2.2.1 w' (q.1.getD i .junk) (vs'.getD i undef)
def ExtCOk (P : Program) (f : FuncId) (n : Nat) (g : List D → List Box → List Nat → Option (List D × List Box × List Nat × List Box)) : Prop :=
 ∀ as_ out tk q, as_.length ≤ n → g as_ out tk = some q → CallOk P f n as_ out tk q
structure EnvOk (P : Program) (E : Env) : Prop where
 mixed : P.follows .mixedOrders = true
 ty : ∀ t, TyOk P t (E.ty t)
 eqt : ∀ t, (E.ty t).eq = true → EqTy P t (E.ty t).zero
 fn : ∀ f fi, E.fn f = some fi → FnOk P f fi
 ext : ∀ f g, E.ext f = some g → ExtOk P f g
 extc : ∀ f g fi, E.extc f = some g → E.fn f = some fi → ExtCOk P f fi.ntmps g
section
variable {P : Program} {E : Env} {F : Fx} {G : Gh} {s : S} {a : Act} {w : World} {o : Oper} {Q : Exit → Act → World → Prop} {rec : T → Option (X × S)} {r : X × S} {K : S → T}
theorem eqGuard_agg {op : BinOp} {t x y xs ys} (h : P.eqGuardType P.depth t = false) : (eqGuard op t x y (.agg xs) (.agg ys)).run P w = .ok () w := by
 unfold eqGuard
 cases op <;> simp [h]
theorem agg_shape {tk cs v} (h : Rep F G tk w (.agg cs) v) : ∃ xs, v = .agg xs ∧ RD G.ice w (.agg cs) (.agg xs) := by
 have hr := h.agg_inv
 cases hr with
 | agg _ vs hl hc hh => exact ⟨vs, rfl, .agg cs vs hl hc hh⟩
theorem binop_sound (hE : EnvOk P E) (hs : Sim F G s a w) {op : BinOp} {t t' : TypeId} {x y : Operand} (ho : o.op = .binOp op t x y t')
  (hT : runT E rec (opT E o s K) = some r) : o.wp P a w (After F G s w fun s' => runT E rec (K s') = some r) Q := by
 have hx := hs.ev x
 have hy := hs.ev y
 simp only [opT, ho] at hT
 split at hT
 · rename_i cs ds h1 h2
   rw [h1] at hx; rw [h2] at hy
   split at hT
   · rename_i v he hv
     rw [Bool.and_eq_true] at he
     obtain ⟨e1, e2⟩ := hE.eqt t he.1
     obtain ⟨xs, ex, rx⟩ := agg_shape hx
     obtain ⟨ys, ey, ry⟩ := agg_shape hy
     have hrun := e2 _ _ _ _ _ _ _ he.2 rx ry hv
     refine wp_same hs (v := .bool v) ?_ .bool hT
     simp only [execOp, ho, ex, ey, Sem.run_bind, eqGuard_agg e1, Result.andThen_ok, Go.binOp, hrun, Sem.run_pure]
   · simp [runT] at hT
 · rename_i cs ds h1 h2
   rw [h1] at hx; rw [h2] at hy
   split at hT
   · rename_i v he hv
     rw [Bool.and_eq_true] at he
     obtain ⟨e1, e2⟩ := hE.eqt t he.1
     obtain ⟨xs, ex, rx⟩ := agg_shape hx
     obtain ⟨ys, ey, ry⟩ := agg_shape hy
     have hrun := e2 _ _ _ _ _ _ _ he.2 rx ry hv
     refine wp_same hs (v := .bool (!v)) ?_ .bool hT
     simp only [execOp, ho, ex, ey, Sem.run_bind, eqGuard_agg e1, Result.andThen_ok, Go.binOp, hrun, Sem.run_pure]
   · simp [runT] at hT
 · rename_i x' y' h1 h2
   rw [h1] at hx; rw [h2] at hy
   split at hT
   · rename_i hk
     have hu := (hE.ty t).bool hk
     refine wp_same hs (v := .bool (x' == y')) ?_ .bool hT
     simp only [execOp, ho, hx.bool_inv, hy.bool_inv, eqGuard_at_bool, Sem.run_bind, Sem.run_pure, Result.andThen_ok, run_eql_bool _ _ _ _ hu]
   · simp [runT] at hT
 · rename_i x' y' h1 h2
   rw [h1] at hx; rw [h2] at hy
   split at hT
   · rename_i hk
     have hu := (hE.ty t).bool hk
     refine wp_same hs (v := .bool (!(x' == y'))) ?_ .bool hT
     simp only [execOp, ho, hx.bool_inv, hy.bool_inv, eqGuard_at_bool, Sem.run_bind, Sem.run_pure, Result.andThen_ok, run_neq_bool _ _ _ _ hu]
   · simp [runT] at hT
 · exact bin_sound hs ho hT
theorem Rep.pel_ice {F' G1 tk tk' cs off v} (h : Rep F G tk w (.pel cs off) v) (e : G1.ice = G.ice) : Rep F' G1 tk' w (.pel cs off) v := by
 cases h with
 | dat h _ => cases h
 | pel _ _ b p f h1 h2 h3 h4 => exact .pel cs off b p f (by rw [e]; exact h1) h2 h3 (fun j hj => by rw [e]; exact h4 j hj)
theorem argFor_data {tk n d d' n' v} (h : argFor n d = some (d', n')) (hd : ∀ r, d ≠ .pbx r 0) (hr : Rep F G tk w d v) : n' = n ∧ (d'.free = true ∧ RD G.ice w d' v ∨ d'.hand = true ∧ ∀ (F : Fx) (G1 : Gh) (tk : List Nat), G1.ice = G.ice → Rep F G1 tk w d' v) := by
 cases d with
 | pbx r off =>
   cases off with
   | zero => exact absurd rfl (hd r)
   | succ k => simp [argFor] at h
 | sl t z es =>
   simp only [argFor, Option.some.injEq, Prod.mk.injEq] at h
   obtain ⟨rfl, rfl⟩ := h
   exact ⟨rfl, .inl ⟨rfl, hr.sl_inv.1.ro⟩⟩
 | agg cs =>
   simp only [argFor] at h
   split at h
   · rename_i hc
     simp only [Option.some.injEq, Prod.mk.injEq] at h
     obtain ⟨rfl, rfl⟩ := h
     refine ⟨rfl, .inl ⟨rfl, ?_⟩⟩
     have := hr.agg_inv
     cases this with
     | agg _ vs hl hcc hh =>
       refine .agg _ _ (by simpa using hl) (fun c hc' => ?_) (fun i hi => ?_)
       · obtain ⟨c0, h0, rfl⟩ := List.mem_map.1 hc'
         exact ro_cell (cell_atom (hcc c0 h0))
       · rw [getD_map _ _ rfl]
         exact (hh i (by simpa using hi)).roD
   · cases h
 | int k m => simp only [argFor, Option.some.injEq, Prod.mk.injEq] at h; obtain ⟨rfl, rfl⟩ := h; exact ⟨rfl, .inl ⟨rfl, by rw [hr.int_inv]; exact .int _ _⟩⟩
 | bool b => simp only [argFor, Option.some.injEq, Prod.mk.injEq] at h; obtain ⟨rfl, rfl⟩ := h; exact ⟨rfl, .inl ⟨rfl, by rw [hr.bool_inv]; exact .bool _⟩⟩
 | str b => simp only [argFor, Option.some.injEq, Prod.mk.injEq] at h; obtain ⟨rfl, rfl⟩ := h; exact ⟨rfl, .inl ⟨rfl, by rw [hr.str_inv]; exact .str _⟩⟩
 | pnil => simp only [argFor, Option.some.injEq, Prod.mk.injEq] at h; obtain ⟨rfl, rfl⟩ := h; exact ⟨rfl, .inl ⟨rfl, by rw [hr.pnil_inv]; exact .pnil⟩⟩
 | pel cs off =>
   simp only [argFor, Option.some.injEq, Prod.mk.injEq] at h
   obtain ⟨rfl, rfl⟩ := h
   exact ⟨rfl, .inr ⟨rfl, fun F' G1 tk' e => hr.pel_ice e⟩⟩
 | fn f cap =>
   simp only [argFor] at h
   split at h
   · rename_i hc
     simp only [Option.some.injEq, Prod.mk.injEq] at h
     obtain ⟨rfl, rfl⟩ := h
     cases hr with
     | dat h _ => cases h
     | fn _ _ vs hl hh =>
       refine ⟨rfl, .inr ⟨rfl, fun F' G1 tk' e => .fn f _ vs (by simpa using hl) fun i hi => ?_⟩⟩
       rw [List.length_map] at hi
       rw [getD_map _ _ rfl]
       have hk := hh i hi
       have hcc : (cap.getD i .junk).capOk = true := by
        rw [List.getD_eq_getElem?_getD, List.getElem?_eq_getElem hi]; exact List.all_eq_true.1 hc _ (List.getElem_mem hi)
       revert hk hcc
       generalize cap.getD i .junk = d
       intro hk hcc
       cases d with
       | int k m => exact .dat (by rw [e]; exact (hk.atom_inv rfl).1) (.of_free rfl)
       | bool b => exact .dat (by rw [e]; exact (hk.atom_inv rfl).1) (.of_free rfl)
       | str b => exact .dat (by rw [e]; exact (hk.atom_inv rfl).1) (.of_free rfl)
       | sl t z es => exact .dat (by rw [e]; exact hk.sl_inv.1.ro) (.of_free rfl)
       | pel cs off => exact hk.pel_ice e
       | _ => simp [D.capOk] at hcc
   · cases h
 | _ => simp [argFor] at h
theorem ArgR.rep {tk d v} (h : ArgR G.ice w d v) : Rep F G tk w d v := by
 rcases h with ⟨h1, h2⟩ | ⟨_, h⟩
 · exact .dat h2 (.of_free h1)
 · exact h F G tk rfl
theorem ArgN.rep {tk d v lm} (hl : F.lim ≤ lm) (h : ArgN lm G.ice w d v) : Rep F G tk w d v := by
 rcases h with h | ⟨z, es, rfl, h1, h2⟩
 · exact h.rep
 · exact .dat h1 (NewR.mono h2 hl (fun _ => Nat.le_refl _) (fun _ _ _ h => h))
theorem argsFor_data {tk} : ∀ {n : Nat} {ds as_ : List D}, argsFor n ds = some as_ → refsOf ds = [] → ∀ (vs : List Value), vs.length = ds.length → (∀ i, i < ds.length → Rep F G tk w (ds.getD i .junk) (vs.getD i undef)) →
  as_.length = ds.length ∧ ∀ i, i < as_.length → ArgR G.ice w (as_.getD i .junk) (vs.getD i undef)
 | n, [], as_, h, _, vs, hl, hr => by simp only [argsFor, Option.some.injEq] at h; subst h; exact ⟨rfl, fun i hi => by simp at hi⟩
 | n, d :: ds, as_, h, h0, v :: vs, hl, hr => by
   simp only [argsFor] at h
   split at h
   · rename_i d' n' hd
     simp only [Option.map_eq_some_iff] at h
     obtain ⟨as', ha, rfl⟩ := h
     have hnp : ∀ r, d ≠ .pbx r 0 := fun r e => by subst e; simp [refsOf] at h0
     have h0' : refsOf ds = [] := by
      cases d with
      | pbx r off =>
        cases off with
        | zero => exact absurd rfl (hnp r)
        | succ k => simpa [refsOf] using h0
      | _ => simpa [refsOf] using h0
     obtain ⟨_, hv⟩ := argFor_data hd hnp (hr 0 (by simp))
     obtain ⟨e1, e2⟩ := argsFor_data ha h0' vs (by simpa using hl) (fun i hi => by simpa using hr (i + 1) (by simpa using hi))
     refine ⟨by simp [e1], fun i hi => ?_⟩
     cases i with
     | zero => simpa [ArgR] using hv
     | succ i => simpa using e2 i (by simpa using hi)
   · cases h
 | n, d :: ds, as_, h, h0, [], hl, hr => by simp at hl
theorem argN_else {n d} (h : ∀ t z es, d ≠ .sl t z es) : argN n d = argFor n d := by
 cases d <;> first | rfl | exact absurd rfl (h _ _ _)
theorem datumN_else {d : D} (h : ∀ t z es, d ≠ .sl t z es) : d.datumN = d.datum := by
 cases d <;> first | rfl | exact absurd rfl (h _ _ _)
theorem argN_data {tk n d d' n' v} (h : argN n d = some (d', n')) (hd : ∀ r, d ≠ .pbx r 0) (hr : Rep F G tk w d v) : ArgN F.lim G.ice w d' v := by
 cases d with
 | sl t z es =>
   simp only [argN, Option.some.injEq, Prod.mk.injEq] at h
   obtain ⟨rfl, rfl⟩ := h
   obtain ⟨h1, h2⟩ := hr.sl_inv
   cases t with
   | nil =>
     refine .inr ⟨z, es, rfl, ?_, ?_⟩
     · cases h1 with
       | slN => exact .slN _ _
       | sl _ _ _ _ _ _ _ ht => exact absurd rfl ht
     · cases h1 with
       | slN => intro b o l c hv; injection hv with hv; cases hv
       | sl _ _ _ _ _ _ _ ht => exact absurd rfl ht
   | nw => exact .inr ⟨z, es, rfl, h1, h2⟩
   | _ => exact .inl (.inl ⟨rfl, h1.ro⟩)
 | _ => exact .inl (argFor_data ((argN_else (by simp)).symm.trans h) hd hr).2
theorem argsN_data {tk} : ∀ {n : Nat} {ds as_ : List D}, argsN n ds = some as_ → refsOf ds = [] → ∀ (vs : List Value), vs.length = ds.length → (∀ i, i < ds.length → Rep F G tk w (ds.getD i .junk) (vs.getD i undef)) →
  as_.length = ds.length ∧ ∀ i, i < as_.length → ArgN F.lim G.ice w (as_.getD i .junk) (vs.getD i undef)
 | n, [], as_, h, _, vs, hl, hr => by simp only [argsN, Option.some.injEq] at h; subst h; exact ⟨rfl, fun i hi => by simp at hi⟩
 | n, d :: ds, as_, h, h0, v :: vs, hl, hr => by
   simp only [argsN] at h
   split at h
   · rename_i d' n' hd
     simp only [Option.map_eq_some_iff] at h
     obtain ⟨as', ha, rfl⟩ := h
     have hnp : ∀ r, d ≠ .pbx r 0 := fun r e => by subst e; simp [refsOf] at h0
     have h0' : refsOf ds = [] := by
      cases d with
      | pbx r off =>
        cases off with
        | zero => exact absurd rfl (hnp r)
        | succ k => simpa [refsOf] using h0
      | _ => simpa [refsOf] using h0
     have hv := argN_data hd hnp (hr 0 (by simp))
     obtain ⟨e1, e2⟩ := argsN_data ha h0' vs (by simpa using hl) (fun i hi => by simpa using hr (i + 1) (by simpa using hi))
     refine ⟨by simp [e1], fun i hi => ?_⟩
     cases i with
     | zero => simpa using hv
     | succ i => simpa using e2 i (by simpa using hi)
   · cases h
 | n, d :: ds, as_, h, h0, [], hl, hr => by simp at hl
theorem argsOf_data {tk nw} {ds as_ : List D} (h : argsOf nw ds = some as_) (h0 : refsOf ds = []) (vs : List Value) (hl : vs.length = ds.length) (hr : ∀ i, i < ds.length → Rep F G tk w (ds.getD i .junk) (vs.getD i undef)) :
  as_.length = ds.length ∧ ∀ i, i < as_.length → ArgN F.lim G.ice w (as_.getD i .junk) (vs.getD i undef) := by
 unfold argsOf at h
 split at h
 · exact argsN_data h h0 vs hl hr
 · obtain ⟨e1, e2⟩ := argsFor_data h h0 vs hl hr
   exact ⟨e1, fun i hi => .inl (e2 i hi)⟩
theorem sim_enter {fi : FnI} {as_ : List D} {vs : Array Value} {lm : Nat} (hl : vs.size = as_.length) (hr : ∀ i, i < as_.length → ArgN lm G.ice w (as_.getD i .junk) (vs.getD i undef)) (hn : as_.length ≤ fi.ntmps) (hbig : ∀ b, w.heap.size ≤ b → G.ice b = 0) :
  Sim ⟨w, [], [], [], G.ice, fun _ => 0, lm⟩ ⟨[], [], G.ice⟩ (enterS fi as_ [] []) { tmps := vs ++ Array.replicate (fi.ntmps - vs.size) undef, defers := [] } w := by
 refine ⟨⟨rfl, rfl, fun i es p h => by simp [enterS] at h, fun i es p h => by simp [enterS] at h, by simp [blocks], fun b hb => by simp [blocks] at hb, fun p hp => by simp at hp, rfl, fun i b _ h => by simp at h, fun i b _ h => by simp at h, fun p hp => by simp at hp, hbig,
  ⟨rfl, rfl, ⟨rfl, Nat.le_refl _⟩, Nat.le_refl _, fun _ _ _ _ => rfl, Ext.refl _ _ _, fun _ _ _ => rfl⟩⟩, ⟨by simp [enterS, hl], fun i hi => ?_⟩, rfl⟩
 by_cases hia : i < as_.length
 · have h1 : (as_ ++ List.replicate (fi.ntmps - as_.length) D.junk).getD i .junk = as_.getD i .junk := by
     simp only [List.getD_eq_getElem?_getD]; rw [List.getElem?_append_left hia]
   have h2 : (vs ++ Array.replicate (fi.ntmps - vs.size) undef).getD i undef = vs.getD i undef := by
    simp only [Array.getD_eq_getD_getElem?]; rw [Array.getElem?_append_left (by omega)]
   simp only [enterS]
   rw [h1, h2]
   exact ArgN.rep (G := ⟨[], [], G.ice⟩) (Nat.min_le_left _ _) (hr i hia)
 · have h1 : (as_ ++ List.replicate (fi.ntmps - as_.length) D.junk).getD i .junk = .junk := by
     simp only [List.getD_eq_getElem?_getD]; rw [List.getElem?_append_right (by omega)]
     simp only [List.getElem?_replicate]; split <;> rfl
   simp only [enterS]
   rw [h1]
   exact .junk _
def resF (tmps : Array Value) : ResultVar → Sem Value
 | .tmp t => pure (tmps.getD t undef)
 | .cell q t => do loadVar t (← asAddr (tmps.getD q undef))
theorem results_run (hE : ∀ t, TyOk P t (E.ty t)) (hs : Sim F G s a w) : ∀ (l : List ResultVar) (ds : List D), resD E s l = some ds →
  ∃ vs : List Value, (l.mapM (resF a.tmps)).run P w = .ok vs w ∧ vs.length = ds.length ∧ ∀ i, i < ds.length → Rep F G s.tk w (ds.getD i .junk) (vs.getD i undef)
 | [], ds, h => by simp only [resD, Option.some.injEq] at h; subst h; exact ⟨[], by simp, rfl, fun i hi => by simp at hi⟩
 | .tmp t :: l, ds, h => by
   simp only [resD, Option.map_eq_some_iff] at h
   obtain ⟨ds', h1, rfl⟩ := h
   obtain ⟨vs, e1, e2, e3⟩ := results_run hE hs l ds' h1
   refine ⟨a.tmps.getD t undef :: vs, ?_, by simp [e2], fun i hi => ?_⟩
   · simp only [List.mapM_cons, resF, Sem.run_bind, Sem.run_pure, Result.andThen_ok, e1]
   · cases i with
     | zero => have := hs.ev (.tmp t); simpa [S.ev, Act.eval] using this
     | succ i => simpa using e3 i (by simpa using hi)
 | .cell q t :: l, ds, h => by
   simp only [resD] at h
   split at h
   · rename_i r0 off hq
     split at h
     · rename_i cs hb
       split at h
       · rename_i hf
         simp only [Option.map_eq_some_iff] at h
         obtain ⟨ds', h1, rfl⟩ := h
         obtain ⟨vs, e1, e2, e3⟩ := results_run hE hs l ds' h1
         obtain ⟨hk, hf, h0⟩ := fits_inv hf
         have hx := hs.ev (.tmp q)
         simp only [S.ev, hq] at hx
         generalize hv : a.eval (.tmp q) = v at hx
         cases hx with
         | dat h _ => cases h
         | pbx _ _ b o' z n hp =>
           obtain ⟨_, hz, hlen, hat, hcell⟩ := hs.box hb hp
           simp only [List.mem_singleton, forall_eq] at hlen hat
           have hcell' : ∀ j, j < cs.length → ∃ v, w.cell? ⟨b, o' + j, none⟩ = some v ∧ Rep F G s.tk w (cs.getD j .junk) v := fun j hj => by
            obtain ⟨v, h1, _, h3⟩ := hcell 0 j (by simp) (by have : cs.length = z := hlen; show j < z; omega)
            exact ⟨v, by simpa using h1, by simpa using h3⟩
           let f : Nat → Value := fun j => (w.cell? ⟨b, o' + (off + j), none⟩).getD undef
           have hl := load_run (w := w) (hE t) hk h0 (b := b) (p := o' + off) (f := f) (fun j hj => by
            obtain ⟨v, h1, _⟩ := hcell' (off + j) (by omega)
            simp [f, Nat.add_assoc, h1])
           have hl' : (loadVar t ⟨b, o' + off, none⟩).run P w = .ok (if (E.ty t).k.isSt then .agg ((List.range (E.ty t).size).map f).toArray else f 0) w := by
            simpa [Instr.loadAt, Instr.sureAddr] using hl
           have hrep := part_rep (F := F) (G := G) (tk := s.tk) (w := w) (i := E.ty t) (f := f) hf h0 hat (fun j hj => by
            obtain ⟨v, h1, h2⟩ := hcell' (off + j) (by omega)
            simpa [f, h1] using h2)
           refine ⟨(if (E.ty t).k.isSt then .agg ((List.range (E.ty t).size).map f).toArray else f 0) :: vs, ?_, by simp [e2], fun i hi => ?_⟩
           · have hv' : a.tmps.getD q undef = .pointer (some ⟨b, o' + off, none⟩) := hv
             have ha : (asAddr (a.tmps.getD q undef)).run P w = .ok ⟨b, o' + off, none⟩ w := by rw [hv']; rfl
             simp only [List.mapM_cons, resF, Sem.run_bind, ha, hl', Sem.run_pure, Result.andThen_ok, e1]
           · cases i with
             | zero => simpa using hrep
             | succ i => simpa using e3 i (by simpa using hi)
       · cases h
     · cases h
   · cases h
theorem datum_rd {tk d d' v} (h : d.datum = some d') (hr : Rep F G tk w d v) : RD G.ice w d' v ∧ d'.free = true ∧ d'.flat = true ∧ d'.old = true := by
 cases d with
 | sl t z es => simp only [D.datum, Option.some.injEq] at h; subst h; exact ⟨hr.sl_inv.1.ro, rfl, rfl, rfl⟩
 | agg cs =>
   simp only [D.datum] at h
   split at h
   · rename_i hc
     simp only [Option.some.injEq] at h; subst h
     refine ⟨?_, rfl, rfl, rfl⟩
     have := hr.agg_inv
     cases this with
     | agg _ vs hl hcc hh =>
       refine .agg _ _ (by simpa using hl) (fun c hc' => ?_) (fun i hi => ?_)
       · obtain ⟨c0, h0, rfl⟩ := List.mem_map.1 hc'
         exact ro_cell (cell_atom (hcc c0 h0))
       · rw [getD_map _ _ rfl]
         exact (hh i (by simpa using hi)).roD
   · cases h
 | int k m => simp only [D.datum, Option.some.injEq] at h; subst h; rw [hr.int_inv]; exact ⟨.int _ _, rfl, rfl, rfl⟩
 | bool b => simp only [D.datum, Option.some.injEq] at h; subst h; rw [hr.bool_inv]; exact ⟨.bool _, rfl, rfl, rfl⟩
 | str b => simp only [D.datum, Option.some.injEq] at h; subst h; rw [hr.str_inv]; exact ⟨.str _, rfl, rfl, rfl⟩
 | pnil => simp only [D.datum, Option.some.injEq] at h; subst h; rw [hr.pnil_inv]; exact ⟨.pnil, rfl, rfl, rfl⟩
 | _ => simp [D.datum] at h
theorem data_rd {tk} : ∀ {ds ds' : List D} {vs : List Value}, data ds = some ds' → vs.length = ds.length → (∀ i, i < ds.length → Rep F G tk w (ds.getD i .junk) (vs.getD i undef)) →
  ds'.length = ds.length ∧ ∀ i, i < ds'.length → RD G.ice w (ds'.getD i .junk) (vs.getD i undef) ∧ (ds'.getD i .junk).free = true ∧ (ds'.getD i .junk).flat = true ∧ (ds'.getD i .junk).old = true
 | [], ds', vs, h, hl, hr => by simp only [data, Option.some.injEq] at h; subst h; exact ⟨rfl, fun i hi => by simp at hi⟩
 | d :: ds, ds', v :: vs, h, hl, hr => by
   simp only [data] at h
   split at h
   · rename_i d' hd
     simp only [Option.map_eq_some_iff] at h
     obtain ⟨ds'', h1, rfl⟩ := h
     obtain ⟨e1, e2⟩ := data_rd h1 (by simpa using hl) (fun i hi => by simpa using hr (i + 1) (by simpa using hi))
     refine ⟨by simp [e1], fun i hi => ?_⟩
     cases i with
     | zero => simpa using datum_rd hd (hr 0 (by simp))
     | succ i => simpa using e2 i (by simpa using hi)
   · cases h
 | d :: ds, ds', [], h, hl, hr => by simp at hl
theorem res_rd {tk} {ds : List D} {vs : List Value} {d' : D} (hl : vs.length = ds.length) (hr : ∀ i, i < ds.length → Rep F G tk w (ds.getD i .junk) (vs.getD i undef)) (h : resOf ds = some d') :
  RD G.ice w d' (if h : vs.toArray.size = 1 then vs.toArray[0] else .tuple vs.toArray) ∧ d'.free = true := by
 match ds, vs, hl with
 | [d], [v], _ =>
   have h0 := hr 0 (by simp)
   simp only [List.getD_cons_zero] at h0
   simp only [List.size_toArray, List.length_singleton, dite_true]
   exact ⟨(datum_rd h h0).1, (datum_rd h h0).2.1⟩
 | [], [], _ =>
   simp only [resOf, data, Option.map_some, Option.some.injEq] at h
   subst h
   exact ⟨.tup _ _ (by simp) (by simp) (fun i hi => by simp at hi), rfl⟩
 | d1 :: d2 :: ds, v1 :: v2 :: vs, hl =>
   simp only [resOf, Option.map_eq_some_iff] at h
   obtain ⟨ds', h1, rfl⟩ := h
   obtain ⟨e1, e2⟩ := data_rd h1 (by simpa using hl) hr
   rw [dif_neg (by simp)]
   refine ⟨.tup _ _ (by simp only [List.size_toArray]; rw [e1]; simpa using hl) (fun c hc => ?_) (fun i hi => ?_), List.all_eq_true.2 fun c hc => ?_⟩
   · obtain ⟨k, hk, rfl⟩ := List.getElem_of_mem hc
     have := (e2 k hk).2.2.1
     rwa [List.getD_eq_getElem?_getD, List.getElem?_eq_getElem hk] at this
   · have := (e2 i hi).1
     rwa [show (v1 :: v2 :: vs).toArray.getD i undef = (v1 :: v2 :: vs).getD i undef by simp [Array.getD_eq_getD_getElem?, List.getD_eq_getElem?_getD]]
   · obtain ⟨k, hk, rfl⟩ := List.getElem_of_mem hc
     have := (e2 k hk).2.2.2
     rwa [List.getD_eq_getElem?_getD, List.getElem?_eq_getElem hk] at this
theorem datumN_rd {tk d d' v} (h : d.datumN = some d') (hr : Rep F G tk w d v) : RD G.ice w d' v ∧ d'.flat = true ∧ NwD F.lim G.ice w d' v := by
 cases d with
 | sl t z es =>
   simp only [D.datumN, Option.some.injEq] at h
   subst h
   obtain ⟨h1, h2⟩ := hr.sl_inv
   cases t with
   | nil =>
     refine ⟨?_, rfl, ?_⟩
     · cases h1 with
       | slN => exact .slN _ _
       | sl _ _ _ _ _ _ _ ht => exact absurd rfl ht
     · cases h1 with
       | slN => intro b o l c hv; injection hv with hv; cases hv
       | sl _ _ _ _ _ _ _ ht => exact absurd rfl ht
   | nw => exact ⟨h1, rfl, h2⟩
   | own i =>
     obtain ⟨n, _, _, h3, _⟩ := h2
     exact ⟨h1.tok _ (by simp [Tok.nwT]), rfl, NewR.mono h3 (F.lim_low i) (fun _ => Nat.le_refl _) (fun _ _ _ h => h)⟩
   | _ => exact ⟨h1.ro, rfl, trivial⟩
 | _ =>
   obtain ⟨h1, h2, h3, _⟩ := datum_rd ((datumN_else (by simp)).symm.trans h) hr
   exact ⟨h1, h3, .of_free h2⟩
theorem dataN_rd {tk} : ∀ {ds ds' : List D} {vs : List Value}, dataN ds = some ds' → vs.length = ds.length → (∀ i, i < ds.length → Rep F G tk w (ds.getD i .junk) (vs.getD i undef)) →
  ds'.length = ds.length ∧ ∀ i, i < ds'.length → RD G.ice w (ds'.getD i .junk) (vs.getD i undef) ∧ (ds'.getD i .junk).flat = true ∧ NwD F.lim G.ice w (ds'.getD i .junk) (vs.getD i undef)
 | [], ds', vs, h, hl, hr => by simp only [dataN, Option.some.injEq] at h; subst h; exact ⟨rfl, fun i hi => by simp at hi⟩
 | d :: ds, ds', v :: vs, h, hl, hr => by
   simp only [dataN] at h
   split at h
   · rename_i d' hd
     simp only [Option.map_eq_some_iff] at h
     obtain ⟨ds'', h1, rfl⟩ := h
     obtain ⟨e1, e2⟩ := dataN_rd h1 (by simpa using hl) (fun i hi => by simpa using hr (i + 1) (by simpa using hi))
     refine ⟨by simp [e1], fun i hi => ?_⟩
     cases i with
     | zero => simpa using datumN_rd hd (hr 0 (by simp))
     | succ i => simpa using e2 i (by simpa using hi)
   · cases h
 | d :: ds, ds', [], h, hl, hr => by simp at hl
theorem resN_rd {tk} {ds : List D} {vs : List Value} {d' : D} (hl : vs.length = ds.length) (hr : ∀ i, i < ds.length → Rep F G tk w (ds.getD i .junk) (vs.getD i undef)) (h : resOfN ds = some d') :
  RD G.ice w d' (if h : vs.toArray.size = 1 then vs.toArray[0] else .tuple vs.toArray) ∧ d'.fin = true ∧ NwD F.lim G.ice w d' (if h : vs.toArray.size = 1 then vs.toArray[0] else .tuple vs.toArray) := by
 match ds, vs, hl with
 | [d], [v], _ =>
   have h0 := hr 0 (by simp)
   simp only [List.getD_cons_zero] at h0
   simp only [List.size_toArray, List.length_singleton, dite_true]
   obtain ⟨q1, q2, q3⟩ := datumN_rd h h0
   exact ⟨q1, flat_fin q2, q3⟩
 | [], [], _ =>
   simp only [resOfN, dataN, Option.map_some, Option.some.injEq] at h
   subst h
   exact ⟨.tup _ _ (by simp) (by simp) (fun i hi => by simp at hi), rfl, fun i z es he => by simp at he⟩
 | d1 :: d2 :: ds, v1 :: v2 :: vs, hl =>
   simp only [resOfN, Option.map_eq_some_iff] at h
   obtain ⟨ds', h1, rfl⟩ := h
   obtain ⟨e1, e2⟩ := dataN_rd h1 (by simpa using hl) hr
   have hv : ∀ i, (v1 :: v2 :: vs).toArray.getD i undef = (v1 :: v2 :: vs).getD i undef := fun i => by simp [Array.getD_eq_getD_getElem?, List.getD_eq_getElem?_getD]
   rw [dif_neg (by simp)]
   refine ⟨.tup _ _ (by simp only [List.size_toArray]; rw [e1]; simpa using hl) (fun c hc => ?_) (fun i hi => ?_), rfl, fun i z es he => ?_⟩
   · obtain ⟨k, hk, rfl⟩ := List.getElem_of_mem hc
     have := (e2 k hk).2.1
     rwa [List.getD_eq_getElem?_getD, List.getElem?_eq_getElem hk] at this
   · have := (e2 i hi).1
     rwa [hv i]
   · have hi := (List.getElem?_eq_some_iff.1 he).1
     have h3 := (e2 i hi).2.2
     rw [List.getD_eq_getElem?_getD, he] at h3
     rw [hv i]
     exact h3
def MatchX : Exit → X → Prop
 | .normal, .normal => True
 | .exit i, .exit j => i = j
 | .ret, .ret => True
 | _, _ => False
def Sound (P : Program) (E : Env) (rn : T → Option (X × S)) : Prop :=
 ∀ (code : Code) (kp : Nat → List Nat) (s : S) (K : X → S → T) (r : X × S) (F : Fx) (G : Gh) (a : Act) (w : World), rn (tree E kp code s K) = some r → Sim F G s a w →
  code.wp P (fun e a' w' => ∃ x, MatchX e x ∧ After F G s w (fun s' => rn (K x s') = some r) a' w') a w
theorem run_results (hE : ∀ t, TyOk P t (E.ty t)) (hs : Sim F G s a w) {fn : Func} {fi : FnI} (hres : fn.results = fi.res.toArray) {ds : List D} (h : resD E s fi.res = some ds) :
  ∃ vs : List Value, (results fn a.tmps).run P w = .ok (if h : vs.toArray.size = 1 then vs.toArray[0] else .tuple vs.toArray) w ∧ vs.length = ds.length ∧ ∀ i, i < ds.length → Rep F G s.tk w (ds.getD i .junk) (vs.getD i undef) := by
 obtain ⟨vs, e1, e2, e3⟩ := results_run hE hs fi.res ds h
 refine ⟨vs, ?_, e2, e3⟩
 have key : results fn a.tmps = (do let vs ← List.toArray <$> fi.res.mapM (resF a.tmps); pure (if h : vs.size = 1 then vs[0] else .tuple vs)) := by
  unfold results
  rw [hres, Array.mapM_eq_mapM_toList]
  congr 2
 rw [key]
 simp only [Sem.run_bind, Sem.run_map, e1, Result.andThen_ok, Sem.run_pure]
def Gh.freeze (G : Gh) : Gh := { G with ice := fun b => match G.loc.find? (fun p => p.b == b) with
 | some p => max (G.ice b) (p.o + p.n * p.z)
 | none => G.ice b }
theorem freeze_ge (b : Nat) : G.ice b ≤ G.freeze.ice b := by
 simp only [Gh.freeze]
 split
 · exact Nat.le_max_left _ _
 · exact Nat.le_refl _
theorem getD_mapD (l : List D) (g : D → D) (hg : g .junk = .junk) (i : Nat) : (l.map g).getD i .junk = g (l.getD i .junk) := getD_map l g hg i
theorem LiveOk.frz {tk} (hn : (blocks F G).Nodup) {i off z es v} (ht : LiveOk F G tk w i off z es v) : LiveOk F G.freeze tk w i off z es v := by
 obtain ⟨n, e1, e2, e3, e4⟩ := ht
 refine ⟨n, e1, e2, e3.mono (Nat.le_refl _) freeze_ge (fun _ _ _ h => h), fun e => ?_⟩
 obtain ⟨ad, cap, q1, q2⟩ := e4 e
 refine ⟨ad, cap, q1, q2.imp id ?_⟩
 rintro ⟨b, o, k1, k2, k3, k4⟩
 refine ⟨b, o, k1, k2, ?_, k4⟩
 have : G.loc.find? (fun p => p.b == b) = none := List.find?_eq_none.2 fun p hp => by
  obtain ⟨j, hj⟩ := List.getElem?_of_mem hp
  have := place_tkb hn (r1 := .loc j) hj k2
  simpa using this
 show _ = G.freeze.ice b
 simp only [Gh.freeze, this]
 exact k3
theorem Rep.frz {tk} (hn : (blocks F G).Nodup) {d v} (h : Rep F G tk w d v) : Rep F G.freeze tk w d v := by
 induction h with
 | junk v => exact .junk v
 | dat h ht =>
   rename_i d v
   have h' := h.mono (σ' := G.freeze.ice) (w' := w) freeze_ge (fun _ _ _ => rfl)
   refine .dat h' ?_
   have hx : NwD F.lim G.ice w d v → NwD F.lim G.freeze.ice w d v := fun h0 => h0.mono (Nat.le_refl _) freeze_ge (fun _ _ _ h => h)
   cases d with
   | sl t z es =>
     cases t with
     | cap => exact ht
     | own i => exact LiveOk.frz hn ht
     | ofs i off => exact LiveOk.frz hn ht
     | _ => exact hx ht
   | _ => exact hx ht
 | pel cs off b p f h1 h2 h3 h4 => exact .pel cs off b p f (Nat.le_trans h1 (freeze_ge b)) h2 h3 (fun j hj => (h4 j hj).mono freeze_ge (fun _ _ _ => rfl))
 | asl r z n cap b o hp hn => exact .asl r z n cap b o (by cases r <;> exact hp) hn
 | pba r z i off b o n hp hi' => exact .pba r z i off b o n (by cases r <;> exact hp) hi'
 | pbx r off b o z n hp => exact .pbx r off b o z n (by cases r <;> exact hp)
 | fn f cap vs hl _ ih => exact .fn f cap vs hl ih
theorem Sim.freeze (hs : Sim F G s a w) : ((∀ d v, Rep F G s.tk w d v → Rep F G.freeze s.tk w (d.frozen s) v) ∧ ∀ d v, Rep F G s.tk w d v → Rep F G.freeze s.tk w (d.frozenN s) v) ∧ (F.tk0 = [] → Fr F G.freeze s.tk w) ∧ ∀ b, w.heap.size ≤ b → G.freeze.ice b = 0 := by
 have hi := hs.inv
 have hf := hi.fr
 have hfind : ∀ (i : Nat) (p : Pl), G.loc[i]? = some p → G.loc.find? (fun q => q.b == p.b) = some p := fun i p hp => by
  obtain ⟨q, hq⟩ : ∃ q, G.loc.find? (fun q => q.b == p.b) = some q := by
   cases h : G.loc.find? (fun q => q.b == p.b) with
   | some q => exact ⟨q, rfl⟩
   | none =>
     have := List.find?_eq_none.1 h p (List.mem_of_getElem? hp)
     simp at this
  have h1 := List.find?_some hq
  have h2 := List.mem_of_find?_eq_some hq
  obtain ⟨j, hj⟩ := List.getElem?_of_mem h2
  have h3 : q.b = p.b := by simpa using h1
  have := place_inj hi.nd (r1 := .loc j) (r2 := .loc i) hj hp h3
  injection this with this
  subst this
  rw [hp] at hj
  injection hj with hj
  rw [hq, hj]
 have hfz : ∀ d v, Rep F G s.tk w d v → Rep F G.freeze s.tk w (d.frozen s) v := fun d v h => by
  have hfr := h.frz hi.nd
  cases h with
  | dat h ht =>
    cases d with
    | asl r z n => cases h
    | _ => exact hfr
  | asl r z n cap b o hp hn =>
    cases r with
    | out i => exact .asl _ z n cap b o hp hn
    | loc i =>
      have hp' : G.loc[i]? = some ⟨b, o, z, n⟩ := hp
      have hlt := (List.getElem?_eq_some_iff.1 hp').1
      obtain ⟨es, hes⟩ : ∃ es, s.loc[i]? = some es := ⟨_, List.getElem?_eq_getElem (l := s.loc) (i := i) (by rw [← hi.locLen]; exact hlt)⟩
      simp only [D.frozen, hes]
      split
      · rename_i hall
        obtain ⟨b1, b2, b3, b4, b5⟩ := hi.boxL i _ _ hes hp'
        have hcell : ∀ e ∈ es, ∀ c ∈ e, D.cell c = true := fun e he c hc => List.all_eq_true.1 (List.all_eq_true.1 hall e he) c hc
        have hice : o + n * z ≤ G.freeze.ice b := by
         simp only [Gh.freeze]
         rw [hfind i _ hp']
         exact Nat.le_max_right _ _
        have b1' : es.length = n := b1
        refine .dat ?_ trivial
        rw [← b1'] at hice hn ⊢
        refine .sl _ z _ b o cap (fun j k => (w.cell? ⟨b, o + j * z + k, none⟩).getD undef) (by simp) b2 b3 hcell hn (fun _ => hice) (fun j k hj hk => ?_) (fun j k hj hk => ?_)
        · obtain ⟨v, k1, _, _⟩ := b5 j k hj hk
          rw [k1]; rfl
        · obtain ⟨v, k1, _, k3⟩ := b5 j k hj hk
          rw [k1]
          have hm : es.getD j [] ∈ es := by rw [List.getD_eq_getElem?_getD, List.getElem?_eq_getElem hj]; exact List.getElem_mem hj
          have hc := hcell _ hm _ (mem_getD (by rw [b3 _ hm]; exact hk))
          exact (k3.atom_inv (cell_atom hc)).1.mono freeze_ge (fun _ _ _ => rfl)
      · exact .junk _
  | _ => exact hfr
 refine ⟨⟨hfz, fun d v h => ?_⟩, fun h0 => ⟨hf.os, hf.tape, hf.output, hf.size, hf.same, ⟨hf.ext0.loc, fun b => Nat.le_trans (hf.ext0.ice b) (freeze_ge (G := G) b), hf.ext0.cell, hf.ext0.frz, fun i n hn => by rw [h0] at hn; simp at hn⟩, fun b h1 h2 => ?_⟩, fun b hb => ?_⟩
 · have hold := hfz d v h
   have hfr := h.frz hi.nd
   cases h with
   | dat h ht =>
     cases d with
     | asl r z n => cases h
     | _ => exact hfr
   | asl r z n cap b o hp hn =>
     cases r with
     | out i => exact .asl _ z n cap b o hp hn
     | loc i =>
       have hp' : G.loc[i]? = some ⟨b, o, z, n⟩ := hp
       have hlt := (List.getElem?_eq_some_iff.1 hp').1
       obtain ⟨es, hes⟩ : ∃ es, s.loc[i]? = some es := ⟨_, List.getElem?_eq_getElem (l := s.loc) (i := i) (by rw [← hi.locLen]; exact hlt)⟩
       simp only [D.frozen, hes] at hold
       simp only [D.frozenN, hes]
       split
       · rename_i hall
         rw [if_pos hall] at hold
         obtain ⟨b1, b2, b3, b4, b5⟩ := hi.boxL i _ _ hes hp'
         have b1' : es.length = n := b1
         refine .dat (hold.sl_inv.1.tok _ (by simp)) fun b' o' l c hv => ?_
         injection hv with hv _ _
         injection hv with hv
         injection hv with q1 q2 _
         subst q1
         subst q2
         refine ⟨Nat.le_trans F.lim_le (hi.locNew _ (List.mem_of_getElem? hp')), fun j hj => ?_⟩
         have h1 : j / z < es.length := (Nat.div_lt_iff_lt_mul b2).2 hj
         have h2 : j % z < z := Nat.mod_lt _ b2
         obtain ⟨_, _, k2, _⟩ := b5 (j / z) (j % z) h1 h2
         have h3 : o + j / z * z + j % z = o + j := by rw [Nat.mul_comm, Nat.add_assoc, Nat.div_add_mod]
         refine ⟨?_, ?_⟩
         · have : o + n * z ≤ G.freeze.ice b := by
             simp only [Gh.freeze]
             rw [hfind i _ hp']
             exact Nat.le_max_right _ _
           rw [b1'] at hj; omega
         · rw [← h3]; exact k2
       · exact .junk _
   | _ => exact hfr
 · have hb0 : b < F.base := h1
   rw [← hf.ice b h1 h2]
   have : G.loc.find? (fun p => p.b == b) = none := List.find?_eq_none.2 fun p hp => by
    have := hi.locNew p hp
    simp; omega
   simp only [Gh.freeze, this]
 · have : G.loc.find? (fun p => p.b == b) = none := List.find?_eq_none.2 fun p hp => by
     have := hi.locLive p hp
     simp; omega
   simp only [Gh.freeze, this]
   exact hi.iceBig b hb
theorem out_calls (hE : EnvOk P E) (hs : Sim F G s a w) {fn : Func} {fi : FnI} (hres : fn.results = fi.res.toArray) {d : D} (hd : outD E fi.nw s fi.res = some d) :
  ∃ vs : List Value, (results fn a.tmps).run P w = .ok (if h : vs.toArray.size = 1 then vs.toArray[0] else .tuple vs.toArray) w ∧ RD G.freeze.ice w d (if h : vs.toArray.size = 1 then vs.toArray[0] else .tuple vs.toArray) ∧ d.fin = true ∧
   NwD F.lim G.freeze.ice w d (if h : vs.toArray.size = 1 then vs.toArray[0] else .tuple vs.toArray) := by
 simp only [outD, Option.bind_eq_some_iff] at hd
 obtain ⟨ds, hds, hd⟩ := hd
 obtain ⟨vs', e1, e2, e3⟩ := run_results hE.ty hs hres hds
 obtain ⟨⟨hz1, hz1'⟩, _⟩ := hs.freeze
 refine ⟨vs', e1, ?_⟩
 split at hd
 · exact resN_rd (G := G.freeze) (tk := s.tk) (ds := ds.map (D.frozenN s)) (vs := vs') (by rw [List.length_map]; exact e2) (fun i hi => by
  rw [List.length_map] at hi
  rw [getD_mapD _ _ (by rfl)]
  exact hz1' _ _ (e3 i hi)) hd
 · obtain ⟨hrd, hfree⟩ := res_rd (G := G.freeze) (tk := s.tk) (F := F) (ds := ds.map (D.frozen s)) (vs := vs') (w := w) (by rw [List.length_map]; exact e2) (fun i hi => by
     rw [List.length_map] at hi
     rw [getD_mapD _ _ (by rfl)]
     exact hz1 _ _ (e3 i hi)) hd
   exact ⟨hrd, free_fin hfree, .of_free hfree⟩
theorem pcall_calls (hE : EnvOk P E) (hrec : Sound P E rec) {f : FuncId} {fi : FnI} (hf : E.fn f = some fi) {as_ : List D} (hn : as_.length ≤ fi.ntmps) {x : X} {s1 : S} (hx : x = .normal ∨ x = .ret)
  (hrun : rec (tree E fi.keep fi.body (enterS fi as_ [] []) .done) = some (x, s1)) (hdone : ∀ x s r, rec (.done x s) = some r → r = (x, s)) {d : D} (hd : outD E fi.nw s1 fi.res = some d)
  {vs : Array Value} {lm : Nat} (hl : vs.size = as_.length) (hr : ∀ i, i < as_.length → ArgN lm G.ice w (as_.getD i .junk) (vs.getD i undef)) (hlm : lm ≤ w.heap.size) (hbig : ∀ b, w.heap.size ≤ b → G.ice b = 0) :
  Calls P f vs w fun e w' => ∃ v G', e = .returned v ∧ RD G'.ice w' d v ∧ (d.fin = true ∧ NwD lm G'.ice w' d v) ∧ Fr ⟨w, [], [], [], G.ice, fun _ => 0, lm⟩ G' s1.tk w' ∧ ∀ b, w'.heap.size ≤ b → G'.ice b = 0 := by
 obtain ⟨fn, hfn, hbody, hntmps, hres, _⟩ := (hE.fn f fi hf).ok
 have hsim := sim_enter (G := G) hl hr hn hbig
 refine calls_of_wp hfn hbody ?_
 rw [hntmps]
 refine wp_mono (hrec fi.body fi.keep _ _ _ _ _ _ w hrun hsim) ?_
 rintro e a' w' ⟨x', hm, G', s', hs', hsim'⟩
 have hs'' := hdone _ _ _ hs'
 injection hs'' with q1 q2
 subst q1 q2
 obtain ⟨vs', e1, hrd, hfin, hnw⟩ := out_calls hE hsim' hres hd
 obtain ⟨_, hz2, hz3⟩ := hsim'.freeze
 have hlim : (⟨w, [], [], [], G.ice, fun _ => 0, lm⟩ : Fx).lim = lm := Nat.min_eq_left hlm
 rw [hlim] at hnw
 have hpost : (∃ v G', Ending.returned (if h : vs'.toArray.size = 1 then vs'.toArray[0] else .tuple vs'.toArray) = .returned v ∧ RD G'.ice w' d v ∧ (d.fin = true ∧ NwD lm G'.ice w' d v) ∧ Fr ⟨w, [], [], [], G.ice, fun _ => 0, lm⟩ G' s1.tk w' ∧ ∀ b, w'.heap.size ≤ b → G'.ice b = 0) :=
  ⟨_, G'.freeze, rfl, hrd, ⟨hfin, hnw⟩, hz2 rfl, hz3⟩
 rcases hx with rfl | rfl <;> cases e <;> first | exact hm.elim | exact ⟨hsim'.def0, _, e1, hpost⟩
end
end Go.Mach
