/- What the statements share: part 7 of a proof by an executable machine over the program's code. -/
import Derived.Test.YtljpfhpcbfpooaaGreatDoorMc6
set_option linter.unusedVariables false
set_option linter.unusedSimpArgs false
namespace Go.Mach
open Go Go.RowKit
section
variable {P : Program} {E : Env} {F F' : Fx} {G G' G1 : Gh} {s s1 : S} {a : Act} {w w1 : World} {tk tk' : List Nat} {rec : T → Option (X × S)} {r : X × S} {K : S → T}
def handPl (F : Fx) (G : Gh) (refs : List Ref) : List Pl := refs.map fun r => (place F G r).getD ⟨0, 0, 0, 0⟩
theorem refsOf_place : ∀ {ds : List D} {vs : List Value}, vs.length = ds.length → (∀ i, i < ds.length → Rep F G tk w (ds.getD i .junk) (vs.getD i undef)) → ∀ r ∈ refsOf ds, ∃ p, place F G r = some p
 | [], vs, _, _, r, hm => by simp [refsOf] at hm
 | d :: ds, [], hl, _, r, hm => by simp at hl
 | d :: ds, v :: vs, hl, hr, r, hm => by
   have ih := refsOf_place (ds := ds) (vs := vs) (by simpa using hl) (fun i hi => by simpa using hr (i + 1) (by simpa using hi)) r
   by_cases hpb : ∃ r, d = .pbx r 0
   · obtain ⟨r0, rfl⟩ := hpb
     simp only [refsOf, List.mem_cons] at hm
     rcases hm with rfl | hm
     · have h0 := hr 0 (by simp)
       simp only [List.getD_cons_zero] at h0
       cases h0 with
       | dat h _ => cases h
       | pbx _ _ b o z m hpl => exact ⟨_, hpl⟩
     · exact ih hm
   · have : refsOf (d :: ds) = refsOf ds := by
       cases d with
       | pbx r off =>
         cases off with
         | zero => exact absurd ⟨r, rfl⟩ hpb
         | succ k => rfl
       | _ => rfl
     exact ih (this ▸ hm)
theorem hand_of (hs : Sim F G s a w) {ds : List D} {vs : List Value} {css css' : List (List D)} (hl : vs.length = ds.length) (hr : ∀ i, i < ds.length → Rep F G s.tk w (ds.getD i .junk) (vs.getD i undef))
  (hb : boxesOf s (refsOf ds) = some css) (hn : renums (fun i => (toksOf css.flatten).idxOf? i) css = some css') (h1 : noDup (refsOf ds) = true) (h2 : noDup (toksOf css.flatten) = true) :
  Hand F G s w (refsOf ds) (toksOf css.flatten) css' (handPl F G (refsOf ds)) := by
 obtain ⟨b1, b2⟩ := boxesOf_spec hb
 obtain ⟨r1, r2⟩ := renums_spec hn
 have hpl := refsOf_place hl hr
 refine ⟨by simp [handPl], by rw [r1, b1], fun k r hk => ?_, fun k r hk => ?_, noDup_iff h1, noDup_iff h2, fun i hi => ?_⟩
 · obtain ⟨p, hp⟩ := hpl r (List.mem_of_getElem? hk)
   exact ⟨p, by simp [handPl, hk, hp], hp⟩
 · obtain ⟨cs, e1, e2⟩ := b2 k r hk
   obtain ⟨cs', e3, e4⟩ := r2 k cs e1
   exact ⟨cs, cs', e2, e3, e4⟩
 · obtain ⟨z, es, hm⟩ := toksOf_mem.1 hi
   obtain ⟨cs, hcs, hm⟩ := List.mem_flatten.1 hm
   obtain ⟨k, hk⟩ := List.getElem?_of_mem hcs
   have hkr : k < (refsOf ds).length := by rw [← b1]; exact (List.getElem?_eq_some_iff.1 hk).1
   have hr' := List.getElem?_eq_getElem hkr
   obtain ⟨cs2, e1, e2⟩ := b2 k _ hr'
   rw [hk] at e1
   injection e1 with e1
   subst e1
   obtain ⟨p, hp⟩ := hpl _ (List.mem_of_getElem? hr')
   obtain ⟨_, _, h3, _, h5⟩ := hs.box e2 hp
   obtain ⟨j, hj⟩ := List.getElem?_of_mem hm
   have hjl : j < cs.length := (List.getElem?_eq_some_iff.1 hj).1
   obtain ⟨v, _, _, h8⟩ := h5 0 j (by simp) (by rw [← h3 cs (by simp)]; exact hjl)
   simp only [List.getD_cons_zero] at h8
   rw [List.getD_eq_getElem?_getD, hj] at h8
   obtain ⟨_, n, hn', _⟩ := h8.sl_inv
   exact (List.getElem?_eq_some_iff.1 hn').1
theorem gcall_calls (hE : EnvOk P E) (hrec : Sound P E rec) {f : FuncId} {fi : FnI} (hf : E.fn f = some fi) {as_ : List D} (hn : as_.length ≤ fi.ntmps) {x : X} (hx : x = .normal ∨ x = .ret) {out : List Box} {tk0 : List Nat}
  (hrun : rec (tree E fi.keep fi.body (enterS fi as_ out tk0) .done) = some (x, s1)) (hdone : ∀ x s r, rec (.done x s) = some r → r = (x, s)) {ds : List D} (hd : resD E s1 fi.res = some ds)
  {vs : Array Value} (hsim : Sim F G (enterS fi as_ out tk0) { tmps := vs ++ Array.replicate (fi.ntmps - vs.size) undef, defers := [] } w) :
  Calls P f vs w fun e w' => ∃ (vs' : List Value) (G' : Gh), e = .returned (if h : vs'.toArray.size = 1 then vs'.toArray[0] else .tuple vs'.toArray) ∧ Inv F G' s1.loc s1.out s1.tk w' ∧ vs'.length = ds.length ∧
   ∀ i, i < ds.length → Rep F G' s1.tk w' (ds.getD i .junk) (vs'.getD i undef) := by
 obtain ⟨fn, hfn, hbody, hntmps, hres, _⟩ := (hE.fn f fi hf).ok
 refine calls_of_wp hfn hbody ?_
 rw [hntmps]
 refine wp_mono (hrec fi.body fi.keep _ _ _ _ _ _ w hrun hsim) ?_
 rintro e a' w' ⟨x', hm, G', s', hs', hsim'⟩
 have hs'' := hdone _ _ _ hs'
 injection hs'' with q1 q2
 subst q1 q2
 obtain ⟨vs', e1, e2, e3⟩ := run_results hE.ty hsim' hres hd
 have hpost : ∃ (vs'' : List Value) (G' : Gh), Ending.returned (if h : vs'.toArray.size = 1 then vs'.toArray[0] else .tuple vs'.toArray) = .returned (if h : vs''.toArray.size = 1 then vs''.toArray[0] else .tuple vs''.toArray) ∧ Inv F G' s1.loc s1.out s1.tk w' ∧ vs''.length = ds.length ∧
  ∀ i, i < ds.length → Rep F G' s1.tk w' (ds.getD i .junk) (vs''.getD i undef) := ⟨vs', G', rfl, hsim'.inv, e2, e3⟩
 rcases hx with rfl | rfl <;> cases e <;> first | exact hm.elim | exact ⟨hsim'.def0, _, e1, hpost⟩
theorem callR_calls (hE : EnvOk P E) (hrec : Sound P E rec) {f : FuncId} {fi : FnI} (hf : E.fn f = some fi) {as_ : List D} (hn : as_.length ≤ fi.ntmps) {out : List Box} {tk0 : List Nat} {ds : List D} {out' : List Box} {tk' : List Nat} {loc' : List Box}
  (hrun : callR E rec f fi as_ out tk0 = some (ds, out', tk', loc')) (hdone : ∀ x s r, rec (.done x s) = some r → r = (x, s))
  {vs : Array Value} (hsim : Sim F G (enterS fi as_ out tk0) { tmps := vs ++ Array.replicate (fi.ntmps - vs.size) undef, defers := [] } w) :
  Calls P f vs w fun e w' => ∃ (vs' : List Value) (G' : Gh), e = .returned (if h : vs'.toArray.size = 1 then vs'.toArray[0] else .tuple vs'.toArray) ∧ Inv F G' loc' out' tk' w' ∧ vs'.length = ds.length ∧
   ∀ i, i < ds.length → Rep F G' tk' w' (ds.getD i .junk) (vs'.getD i undef) := by
 unfold callR at hrun
 split at hrun
 · rename_i g hg
   exact hE.extc f g fi hg hf _ _ _ _ hn hrun _ _ _ _ hsim
 · have hgo : ∀ x s1, (x = .normal ∨ x = .ret) → rec (tree E fi.keep fi.body (enterS fi as_ out tk0) .done) = some (x, s1) → (resD E s1 fi.res).map (fun ds => (ds, s1.out, s1.tk, s1.loc)) = some (ds, out', tk', loc') → Calls P f vs w fun e w' => ∃ (vs' : List Value) (G' : Gh), e = .returned (if h : vs'.toArray.size = 1 then vs'.toArray[0] else .tuple vs'.toArray) ∧ Inv F G' loc' out' tk' w' ∧ vs'.length = ds.length ∧
       ∀ i, i < ds.length → Rep F G' tk' w' (ds.getD i .junk) (vs'.getD i undef) := fun x s1 hx hr hm => by
     obtain ⟨ds1, hd, he⟩ := Option.map_eq_some_iff.1 hm
     injection he with q1 he
     injection he with q2 he
     injection he with q3 q4
     subst q1 q2 q3 q4
     exact gcall_calls hE hrec hf hn hx hr hdone hd hsim
   split at hrun
   · rename_i s1 hr; exact hgo .normal s1 (.inl rfl) hr hrun
   · rename_i s1 hr; exact hgo .ret s1 (.inr rfl) hr hrun
   · cases hrun
theorem leave_sound (hs : Sim F G s a w) {refs toks css0} (hh : Hand F G s w refs toks css0 (handPl F G refs)) (ht0 : refs = [] → toks = []) (h1 : Inv (F.hand G s w toks (handPl F G refs)) G1 s1.loc s1.out s1.tk w1)
  {ds : List D} {vs : List Value} (hl : vs.length = ds.length) (hr : ∀ i, i < ds.length → Rep (F.hand G s w toks (handPl F G refs)) G1 s1.tk w1 (ds.getD i .junk) (vs.getD i undef)) (dst : Option Tmp) {s' : S} (h : leave s refs toks dst ds s1.out s1.tk s1.loc = some s') :
  ∃ G', Sim F G' s' (a.put dst (if h : vs.toArray.size = 1 then vs.toArray[0] else .tuple vs.toArray)) w1 := by
 have hplain : ∀ {d'}, refs = [] → resOf ds = some d' → ∃ G', Sim F G' (s.put dst d') (a.put dst (if h : vs.toArray.size = 1 then vs.toArray[0] else .tuple vs.toArray)) w1 := fun {d'} h0 hd => by
  obtain ⟨q1, q2⟩ := res_rd hl hr hd
  have hf := h1.fr
  have ht := ht0 h0
  subst h0
  subst ht
  have := hs.below hf.os hf.tape hf.output hf.size (fun b hb => hf.same b hb (by simp [Fx.hand, handPl]) (by simp [Fx.hand])) G1.ice (fun b hb => hf.ice b hb (by simp [Fx.hand])) h1.iceBig
  exact ⟨_, this.put dst (.dat q1 (.of_free q2))⟩
 unfold leave at h
 split at h
 · have ht := ht0 rfl
   subst ht
   split at h
   · rename_i i
     split at h
     · rename_i cs hloc
       split at h
       · rename_i cs' hcs
         injection h with h
         subst h
         match vs, hl, hr with
         | [v], _, hr =>
         have hv := hr 0 (by simp)
         simp only [List.getD_cons_zero] at hv
         have hol : s1.out = [] := by
          have := h1.outLen
          simp only [Fx.hand, handPl, List.map_nil, List.length_nil] at this
          exact List.length_eq_zero_iff.1 this.symm
         obtain ⟨k1, k2, k3⟩ := hs.back hh h1 (css1 := []) (css2 := []) (by rw [hol]; rfl) rfl
         cases hv with
         | dat h _ => cases h
         | pbx _ _ b o z n hp =>
           have hp' : G1.loc[i]? = some ⟨b, o, z, n⟩ := hp
           have hbx := k1.box hcs (h1.boxL i _ _ hloc hp')
           have hpm := List.mem_of_getElem? hp'
           have hnewb : w.heap.size ≤ b := h1.locNew _ hpm
           have e : backL s.tk [] s1.tk = s.tk ++ s1.tk := by simp [backL, putToks]
           rw [e] at k2 hbx
           have hF : F.base ≤ w.heap.size := hs.inv.fr.size
           have hinv := k2.inv.addLoc ⟨b, o, z, n⟩ [cs'] (fun b' hb' e => ?_) (h1.locLive _ hpm) (by show F.base ≤ b; omega) (h1.iceBox _ (List.mem_append_right _ hpm)) hbx
           · refine ⟨(G.back G1 []).addLoc ⟨b, o, z, n⟩, ?_⟩
             have hsim : Sim F ((G.back G1 []).addLoc ⟨b, o, z, n⟩) { s with loc := s.loc ++ [[cs']], tk := s.tk ++ s1.tk } a w1 := ⟨hinv, k2.tmp.ext (ext_addLoc _ _), k2.def0⟩
             have := hsim.put dst (d := .pbx (.loc s.loc.length) 0) (v := .pointer (some ⟨b, o + 0, none⟩)) (.pbx _ 0 b o z n (by
              show (G.loc ++ [_])[s.loc.length]? = _
              rw [← hs.inv.locLen]; simp))
             simpa using this
           · have e' : b' = b := e
             subst e'
             rcases k3 b' hb' with h | h
             · omega
             · obtain ⟨j, hj⟩ := List.getElem?_of_mem h
               exact place_tkb h1.nd (r1 := .loc i) hp' hj rfl
       · cases h
     · cases h
   · rename_i ds' _
     split at h
     · rename_i d' hd
       injection h with h
       subst h
       exact hplain rfl hd
     · cases h
 · split at h
   · rename_i d' css1 hd hout
     split at h
     · rename_i css2 hcs
       split at h
       · injection h with h
         subst h
         obtain ⟨k1, k2, k3⟩ := hs.back hh h1 hout hcs
         obtain ⟨q1, q2⟩ := res_rd hl hr hd
         exact ⟨_, k2.put dst (.dat q1 (.of_free q2))⟩
       · cases h
     · cases h
   · cases h
end
section
variable {P : Program} {E : Env} {F F' : Fx} {G G' G1 : Gh} {s s1 : S} {a : Act} {w w1 : World}
theorem argO_rep (hs : Sim F G s a w) {toks : List Nat} {d d' : D} {v : Value} (hd : argO toks d = some d') (hn : ∀ r, d ≠ .pbx r 0) (h : Rep F G s.tk w d v) :
  Rep (F.hand G s w toks []) (G.hand toks) (toks.map (s.tk.getD · 0)) w d' v := by
 unfold argO at hd
 split at hd
 · exact (conv_in hs).rep (d := .sl (.own _) _ _) (by simpa [renum1] using hd) h
 · injection hd with hd
   subst hd
   exact (conv_in hs).rep (d := .sl .nil _ _) (by simp [renum1, D.cell]) h
 · simp only [Option.map_eq_some_iff] at hd
   obtain ⟨⟨d2, n2⟩, hd, rfl⟩ := hd
   obtain ⟨rfl, hv⟩ := argFor_data hd hn h
   exact ArgR.rep (G := G.hand toks) hv
theorem args_own (hs : Sim F G s a w) {toks : List Nat} : ∀ {ds as_ : List D} {vs : List Value}, argsO toks ds = some as_ → refsOf ds = [] → vs.length = ds.length → (∀ i, i < ds.length → Rep F G s.tk w (ds.getD i .junk) (vs.getD i undef)) →
  as_.length = ds.length ∧ ∀ i, i < as_.length → Rep (F.hand G s w toks []) (G.hand toks) (toks.map (s.tk.getD · 0)) w (as_.getD i .junk) (vs.getD i undef)
 | [], as_, vs, h, _, hl, hr => by simp only [argsO, Option.some.injEq] at h; subst h; exact ⟨rfl, fun i hi => by simp at hi⟩
 | d :: ds, as_, [], h, _, hl, hr => by simp at hl
 | d :: ds, as_, v :: vs, h, h0, hl, hr => by
   simp only [argsO] at h
   split at h
   · rename_i d' hd
     simp only [Option.map_eq_some_iff] at h
     obtain ⟨as', ha, rfl⟩ := h
     have hn : ∀ r, d ≠ .pbx r 0 := fun r e => by subst e; simp [refsOf] at h0
     have h1 : refsOf ds = [] := by
      cases d with
      | pbx r off =>
        cases off with
        | zero => exact absurd rfl (hn r)
        | succ k => exact h0
      | _ => exact h0
     have k0 := argO_rep hs hd hn (hr 0 (by simp))
     obtain ⟨e1, e2⟩ := args_own hs ha h1 (by simpa using hl) (fun i hi => by simpa using hr (i + 1) (by simpa using hi))
     refine ⟨by simp [e1], fun i hi => ?_⟩
     cases i with
     | zero => simpa using k0
     | succ i => simpa using e2 i (by simpa using hi)
   · cases h
theorem movesD_rep {tk : List Nat} : ∀ (ks : List K) {ds : List D} {vs : List Value}, vs.length = ds.length → (∀ i, i < ds.length → Rep F G tk w (ds.getD i .junk) (vs.getD i undef)) →
  vs.length = (movesD ks ds).length ∧ ∀ i, i < (movesD ks ds).length → Rep F G tk w ((movesD ks ds).getD i .junk) (vs.getD i undef)
 | [], ds, vs, hl, hr => by rw [movesD]; exact ⟨hl, hr⟩; intro _ _ _ _ h; cases h
 | k :: ks, [], vs, hl, hr => by rw [movesD]; exact ⟨hl, hr⟩; intro _ _ _ _ _ h; cases h
 | k :: ks, d :: ds, [], hl, hr => by simp at hl
 | k :: ks, d :: ds, v :: vs, hl, hr => by
   obtain ⟨e1, e2⟩ := movesD_rep ks (ds := ds) (vs := vs) (by simpa using hl) (fun i hi => by simpa using hr (i + 1) (by simpa using hi))
   rw [movesD]
   refine ⟨by simp [e1], fun i hi => ?_⟩
   cases i with
   | zero => simpa using (hr 0 (by simp)).moveD k
   | succ i => simpa using e2 i (by simpa using hi)
theorem hand_own (hs : Sim F G s a w) {ds : List D} {vs : List Value} (hl : vs.length = ds.length) (hr : ∀ i, i < ds.length → Rep F G s.tk w (ds.getD i .junk) (vs.getD i undef)) (h2 : noDup (toksOf ds) = true) : Hand F G s w [] (toksOf ds) [] [] := by
 refine ⟨rfl, rfl, fun k r hk => by simp at hk, fun k r hk => by simp at hk, List.nodup_nil, noDup_iff h2, fun i hi => ?_⟩
 obtain ⟨z, es, hm⟩ := toksOf_mem.1 hi
 obtain ⟨j, hj⟩ := List.getElem?_of_mem hm
 have hjl : j < ds.length := (List.getElem?_eq_some_iff.1 hj).1
 have h8 := hr j hjl
 rw [List.getD_eq_getElem?_getD, hj] at h8
 obtain ⟨_, n, hn', _⟩ := h8.sl_inv
 exact (List.getElem?_eq_some_iff.1 hn').1
theorem leaveO_sound (hs : Sim F G s a w) {toks} (hh : Hand F G s w [] toks [] []) (h1 : Inv (F.hand G s w toks []) G1 s1.loc s1.out s1.tk w1)
  {ds : List D} {vs : List Value} (hl : vs.length = ds.length) (hr : ∀ i, i < ds.length → Rep (F.hand G s w toks []) G1 s1.tk w1 (ds.getD i .junk) (vs.getD i undef)) (dst : Option Tmp) {s' : S} (h : leaveO s toks dst ds s1.tk = some s') :
  ∃ G', Sim F G' s' (a.put dst (if h : vs.toArray.size = 1 then vs.toArray[0] else .tuple vs.toArray)) w1 := by
 unfold leaveO at h
 split at h
 · rename_i d
   split at h
   · rename_i d' hd
     injection h with h
     subst h
     match vs, hl, hr with
     | [v], _, hr =>
     have hv := hr 0 (by simp)
     simp only [List.getD_cons_zero] at hv
     have hol : s1.out = [] := by
      have := h1.outLen
      simp only [Fx.hand, List.length_nil] at this
      exact List.length_eq_zero_iff.1 this.symm
     obtain ⟨k1, k2, k3⟩ := hs.back hh h1 (css1 := []) (css2 := []) (by rw [hol]; rfl) rfl
     have hd1 := (renum_spec hd).2 0 (by simp)
     simp only [List.getD_cons_zero] at hd1
     have := k2.put dst (k1.rep hd1 hv)
     exact ⟨_, by simpa [putBoxes, backL] using this⟩
   · cases h
 · cases h
end
section
variable {P : Program} {E : Env} {F : Fx} {G : Gh} {s : S} {a : Act} {w : World} {o : Oper} {Q : Exit → Act → World → Prop} {rec : T → Option (X × S)} {r : X × S} {K : S → T}
theorem run_callFunc {f : FuncId} {fn : Func} (hf : P.funcs[f]? = some fn) (hn : fn.name ≠ "runtime.NumGoroutine") (hb : fn.body.isNone = false) (args : Array Value) : (callFunc f args).run P w = .ok (.enter f args) w := by
 have hb' : fn.body ≠ none := by intro h; rw [h] at hb; cases hb
 simp [callFunc, hf, hn, hb']
theorem fn_shape {tk f cap v} (h : Rep F G tk w (.fn f cap) v) : ∃ vs : Array Value, v = .func (.func f) #[] vs ∧ vs.size = cap.length ∧ ∀ i, i < cap.length → Rep F G tk w (cap.getD i .junk) (vs.getD i undef) := by
 cases h with
 | dat h _ => cases h
 | fn _ _ vs hl h => exact ⟨vs, rfl, hl, h⟩
theorem call_sound (hE : EnvOk P E) (hrec : Sound P E rec) (hdone : ∀ x s r, rec (.done x s) = some r → r = (x, s)) (hs : Sim F G s a w) {c : Call} (ho : o.op = .call c) {g : Operand} (hc : c.callee = .value g)
  (hT : runT E rec (opT E o s K) = some r) : o.wp P a w (After F G s w fun s' => runT E rec (K s') = some r) Q := by
 simp only [opT, ho, hc] at hT
 have hg := hs.ev g
 split at hT
 · rename_i f cap hfn
   rw [hfn] at hg
   obtain ⟨vs, hv, hvl, hvr⟩ := fn_shape hg
   have hargs : ∀ fn : Func, P.funcs[f]? = some fn → fn.name ≠ "runtime.NumGoroutine" → fn.body.isNone = false → (execOp a.eval o).run P w = .ok (.enter f (c.args.map a.eval ++ vs)) w := fun fn h1 h2 h3 => by
    simp only [execOp, ho, resolve, hc, Sem.run_bind, hv, Deferred.ofValue, Sem.run_pure, Result.andThen_ok, invoke]
    rw [show (#[] ++ c.args.map a.eval : Array Value) = c.args.map a.eval by simp]
    exact run_callFunc h1 h2 h3 _
   have hlen : (c.args.map a.eval ++ vs).toList.length = (c.args.toList.map s.ev ++ cap).length := by simp [hvl]
   have hrep : ∀ i, i < (c.args.toList.map s.ev ++ cap).length → Rep F G s.tk w ((c.args.toList.map s.ev ++ cap).getD i .junk) ((c.args.map a.eval ++ vs).toList.getD i undef) := fun i hi => by
    simp only [List.length_append, List.length_map, Array.length_toList] at hi
    by_cases h : i < c.args.size
    · have e1 : (c.args.toList.map s.ev ++ cap).getD i .junk = s.ev c.args[i] := by
        simp only [List.getD_eq_getElem?_getD]; rw [List.getElem?_append_left (by simpa using h)]; simp [h]
      have e2 : (c.args.map a.eval ++ vs).toList.getD i undef = a.eval c.args[i] := by
       simp only [List.getD_eq_getElem?_getD, Array.getElem?_toList]; rw [Array.getElem?_append_left (by simpa using h)]; simp [h]
      rw [e1, e2]; exact hs.ev _
    · have e1 : (c.args.toList.map s.ev ++ cap).getD i .junk = cap.getD (i - c.args.size) .junk := by
        simp only [List.getD_eq_getElem?_getD]; rw [List.getElem?_append_right (by simpa using h)]; simp
      have e2 : (c.args.map a.eval ++ vs).toList.getD i undef = vs.getD (i - c.args.size) undef := by
       simp only [List.getD_eq_getElem?_getD, Array.getElem?_toList, Array.getD_eq_getD_getElem?]; rw [Array.getElem?_append_right (by simpa using h)]; simp
      rw [e1, e2]; exact hvr _ (by omega)
   generalize hds : c.args.toList.map s.ev ++ cap = ds at hT hlen hrep
   unfold callT at hT
   split at hT
   ·
    rename_i gx hx
    obtain ⟨⟨fn, hf1, hf2, hf3⟩, hok⟩ := hE.ext f gx hx
    split at hT
    · rename_i as_ has hrefs
      simp only [runT, hx] at hT
      split at hT
      · rename_i d hd
        obtain ⟨e1, e2⟩ := argsFor_data has hrefs _ hlen hrep
        have hrd : ∀ i, i < as_.length → ArgR G.ice w (as_.getD i .junk) ((c.args.map a.eval ++ vs).getD i undef) := fun i hi => by
         have := e2 i hi
         rwa [getD_toList] at this
        have hcall := hok G.ice w as_ (c.args.map a.eval ++ vs) d (by rw [e1, ← hlen]; simp) hrd hs.inv.iceBig hd
        unfold Oper.wp
        rw [hargs fn hf1 hf2 hf3]
        refine Calls.mono hcall ?_
        rintro e w' ⟨v, σ', rfl, hr', ⟨hfin, hnw⟩, ⟨hb, hdr⟩, h1, h2⟩
        have hs' := hs.below hb.os hb.tape ⟨hb.output, hdr⟩ hb.size hb.block σ' h1 h2
        exact ⟨_, _, hT, hs'.put o.dst (.dat hr' (.of_fin hfin (hnw.mono (Nat.le_trans F.lim_le hs.inv.fr.size) (fun _ => Nat.le_refl _) (fun _ _ _ h => h))))⟩
      · cases hT
    · simp [runT] at hT
   · rename_i fi hnone hfi
     split at hT
     · split at hT
       ·
        obtain ⟨m1, m2⟩ := movesD_rep (fi.params.map fun t => (E.ty t).k) hlen hrep
        generalize movesD (fi.params.map fun t => (E.ty t).k) ds = ds at hT m1 m2
        clear hlen hrep
        have hlen := m1
        have hrep := m2
        unfold ocallT at hT
        split at hT
        · rename_i as_ hrefs has
          split at hT
          · rename_i hnd
            have hh := hand_own hs hlen hrep hnd
            simp only [runT, hfi] at hT
            split at hT
            · rename_i hn
              obtain ⟨fn, hf1, hbody, hntmps, hres, hname⟩ := (hE.fn f fi hfi).ok
              obtain ⟨e1, e2⟩ := args_own hs has hrefs hlen hrep
              have hsim := sim_hand hs hh (fi := fi) (as_ := as_) (vs := c.args.map a.eval ++ vs) (by rw [e1, ← hlen]; simp) (fun i hi => by
               have := e2 i hi
               rwa [getD_toList] at this) hn
              split at hT
              · rename_i ds' out' tk' loc' hrun
                split at hT
                · rename_i s' hlv
                  have hcall := callR_calls hE hrec hfi hn hrun hdone hsim
                  unfold Oper.wp
                  rw [hargs fn hf1 hname (by rw [hbody]; rfl)]
                  refine Calls.mono hcall ?_
                  rintro e w' ⟨vs', G1, rfl, hinv, hl', hr'⟩
                  obtain ⟨G', hsim'⟩ := leaveO_sound (s1 := ⟨[], loc', out', tk'⟩) hs hh hinv hl' hr' o.dst hlv
                  exact ⟨G', s', hT, hsim'⟩
                · simp [runT] at hT
              · cases hT
            · cases hT
          · simp [runT] at hT
        · simp [runT] at hT
       ·
        unfold gcallT at hT
        dsimp only at hT
        split at hT
        · rename_i as_ css has hbox
          split at hT
          · rename_i css' hren
            split at hT
            · rename_i hnd
              simp only [Bool.and_eq_true] at hnd
              have hh := hand_of hs hlen hrep hbox hren hnd.1 hnd.2
              simp only [runT, hfi] at hT
              split at hT
              · rename_i hn
                obtain ⟨fn, hf1, hbody, hntmps, hres, hname⟩ := (hE.fn f fi hfi).ok
                obtain ⟨e1, e2⟩ := args_hand (s := s) (w := w) (toks := toksOf css.flatten) (ps := handPl F G (refsOf ds)) (tk' := (toksOf css.flatten).map (s.tk.getD · 0)) has hlen hrep (fun k r p hk hp => by
                 simp [handPl, hk, hp])
                have hsim := sim_hand hs hh (fi := fi) (as_ := as_) (vs := c.args.map a.eval ++ vs) (by rw [e1, ← hlen]; simp) (fun i hi => by
                 have := e2 i hi
                 rwa [getD_toList] at this) hn
                have ht0 : refsOf ds = [] → toksOf css.flatten = [] := fun h => by
                 rw [h] at hbox
                 simp only [boxesOf, Option.some.injEq] at hbox
                 rw [← hbox]; rfl
                split at hT
                · rename_i ds' out' tk' loc' hrun
                  split at hT
                  · rename_i s' hlv
                    have hcall := callR_calls hE hrec hfi hn hrun hdone hsim
                    unfold Oper.wp
                    rw [hargs fn hf1 hname (by rw [hbody]; rfl)]
                    refine Calls.mono hcall ?_
                    rintro e w' ⟨vs', G1, rfl, hinv, hl', hr'⟩
                    obtain ⟨G', hsim'⟩ := leave_sound (s1 := ⟨[], loc', out', tk'⟩) hs hh ht0 hinv hl' hr' o.dst hlv
                    exact ⟨G', s', hT, hsim'⟩
                  · simp [runT] at hT
                · cases hT
              · cases hT
            · simp [runT] at hT
          · simp [runT] at hT
        · simp [runT] at hT
     · split at hT
       · rename_i as_ has hrefs
         simp only [runT, hfi] at hT
         split at hT
         · rename_i hn
           obtain ⟨fn, hf1, hbody, hntmps, hres, hname⟩ := (hE.fn f fi hfi).ok
           obtain ⟨e1, e2⟩ := argsOf_data has hrefs _ hlen hrep
           have hgo : ∀ x s1, (x = .normal ∨ x = .ret) → rec (tree E fi.keep fi.body (enterS fi as_ [] []) .done) = some (x, s1) → (match outD E fi.nw s1 fi.res with
             | some d => runT E rec (K (s.put o.dst d))
             | none => none) = some r → o.wp P a w (After F G s w fun s' => runT E rec (K s') = some r) Q := fun x s1 hx hrun hT => by
            split at hT
            · rename_i d hd
              have hcall := pcall_calls (w := w) (G := G) hE hrec hfi hn hx hrun hdone hd (vs := c.args.map a.eval ++ vs) (by rw [e1, ← hlen]; simp) (fun i hi => by
               have := e2 i hi
               rwa [getD_toList] at this) (Nat.le_trans F.lim_le hs.inv.fr.size) hs.inv.iceBig
              unfold Oper.wp
              rw [hargs fn hf1 hname (by rw [hbody]; rfl)]
              refine Calls.mono hcall ?_
              rintro e w' ⟨v, G', rfl, hr', ⟨hfin, hnw⟩, hfr, hbig⟩
              have hs' := hs.below hfr.os hfr.tape hfr.output hfr.size (fun b hb => hfr.same b hb (by simp) (by simp)) G'.ice (fun b hb => hfr.ice b hb (by simp)) hbig
              exact ⟨_, _, hT, hs'.put o.dst (.dat hr' (.of_fin hfin hnw))⟩
            · cases hT
           split at hT
           · rename_i s1 hrun; exact hgo .normal s1 (.inl rfl) hrun hT
           · rename_i s1 hrun; exact hgo .ret s1 (.inr rfl) hrun hT
           · cases hT
         · cases hT
       · simp [runT] at hT
   · simp [runT] at hT
 · simp [runT] at hT
end
end Go.Mach
