/- What the statements share: part 7 of a proof by an executable machine over the program's code. -/
import Derived.Test.YtbkpkchegopmiaaGreatDoorMc6
set_option linter.unusedVariables false
set_option linter.unusedSimpArgs false
namespace Go.Mach
open Go Go.RowKit
section
variable {P : Program} {E : Env} {F F' : Fx} {G G' G1 : Gh} {s s1 : S} {a : Act} {w w1 : World} {tk tk' : List Nat} {rec : T → Option (X × S)} {r : X × S} {K : S → T}
def handPl (F : Fx) (G : Gh) (refs : List Ref) : List Pl := refs.map fun r => (place F G r).getD ⟨0, 0, 0, 0⟩
theorem refsOf_place : ∀ {ds : List D} {vs : List Value}, vs.length = ds.length → (∀ i, i < ds.length → Rep F G tk w (ds.getD i .junk) (vs.getD i undef)) → ∀ r ∈ refsOf ds, ∃ p, place F G r = some p
 | [], vs, _, _, r, hm => by simp [refsOf] at hm
 | d :: ds, [], hl, _, r, hm => by simp at hl
 | d :: ds, v :: vs, hl, hr, r, hm => by
   have ih := refsOf_place (ds := ds) (vs := vs) (by simpa using hl) (fun i hi => by simpa using hr (i + 1) (by simpa using hi)) r
   by_cases hpb : ∃ r, d = .pbx r 0
   · obtain ⟨r0, rfl⟩ := hpb
     simp only [refsOf, List.mem_cons] at hm
     rcases hm with rfl | hm
     · have h0 := hr 0 (by simp)
       simp only [List.getD_cons_zero] at h0
       cases h0 with
       | dat h _ => cases h
       | pbx _ _ b o z m hpl => exact ⟨_, hpl⟩
     · exact ih hm
   · have : refsOf (d :: ds) = refsOf ds := by
       cases d with
       | pbx r off =>
         cases off with
         | zero => exact absurd ⟨r, rfl⟩ hpb
         | succ k => rfl
       | _ => rfl
     exact ih (this ▸ hm)
theorem hand_of (hs : Sim F G s a w) {ds : List D} {vs : List Value} {css css' : List (List D)} (hl : vs.length = ds.length) (hr : ∀ i, i < ds.length → Rep F G s.tk w (ds.getD i .junk) (vs.getD i undef))
  (hb : boxesOf s (refsOf ds) = some css) (hn : renums (fun i => (toksOf css.flatten).idxOf? i) css = some css') (h1 : noDup (refsOf ds) = true) (h2 : noDup (toksOf css.flatten) = true) :
  Hand F G s w (refsOf ds) (toksOf css.flatten) css' (handPl F G (refsOf ds)) := by
 obtain ⟨b1, b2⟩ := boxesOf_spec hb
 obtain ⟨r1, r2⟩ := renums_spec hn
 have hpl := refsOf_place hl hr
 refine ⟨by simp [handPl], by rw [r1, b1], fun k r hk => ?_, fun k r hk => ?_, noDup_iff h1, noDup_iff h2, fun i hi => ?_⟩
 · obtain ⟨p, hp⟩ := hpl r (List.mem_of_getElem? hk)
   exact ⟨p, by simp [handPl, hk, hp], hp⟩
 · obtain ⟨cs, e1, e2⟩ := b2 k r hk
   obtain ⟨cs', e3, e4⟩ := r2 k cs e1
   exact ⟨cs, cs', e2, e3, e4⟩
 · obtain ⟨z, es, hm⟩ := toksOf_mem.1 hi
   obtain ⟨cs, hcs, hm⟩ := List.mem_flatten.1 hm
   obtain ⟨k, hk⟩ := List.getElem?_of_mem hcs
   have hkr : k < (refsOf ds).length := by rw [← b1]; exact (List.getElem?_eq_some_iff.1 hk).1
   have hr' := List.getElem?_eq_getElem hkr
   obtain ⟨cs2, e1, e2⟩ := b2 k _ hr'
   rw [hk] at e1
   injection e1 with e1
   subst e1
   obtain ⟨p, hp⟩ := hpl _ (List.mem_of_getElem? hr')
   obtain ⟨_, _, h3, _, h5⟩ := hs.box e2 hp
   obtain ⟨j, hj⟩ := List.getElem?_of_mem hm
   have hjl : j < cs.length := (List.getElem?_eq_some_iff.1 hj).1
   obtain ⟨v, _, _, h8⟩ := h5 0 j (by simp) (by rw [← h3 cs (by simp)]; exact hjl)
   simp only [List.getD_cons_zero] at h8
   rw [List.getD_eq_getElem?_getD, hj] at h8
   obtain ⟨_, n, hn', _⟩ := h8.sl_inv
   exact (List.getElem?_eq_some_iff.1 hn').1
theorem gcall_calls (hE : EnvOk P E) (hrec : Sound P E rec) {f : FuncId} {fi : FnI} (hf : E.fn f = some fi) {as_ : List D} (hn : as_.length ≤ fi.ntmps) {x : X} (hx : x = .normal ∨ x = .ret) {out : List Box} {tk0 : List Nat}
  (hrun : rec (tree E fi.keep fi.body (enterS fi as_ out tk0) .done) = some (x, s1)) (hdone : ∀ x s r, rec (.done x s) = some r → r = (x, s)) {ds : List D} (hd : resD E s1 fi.res = some ds)
  {vs : Array Value} (hsim : Sim F G (enterS fi as_ out tk0) { tmps := vs ++ Array.replicate (fi.ntmps - vs.size) undef, defers := [] } w) :
  Calls P f vs w fun e w' => ∃ (vs' : List Value) (G' : Gh), e = .returned (if h : vs'.toArray.size = 1 then vs'.toArray[0] else .tuple vs'.toArray) ∧ Inv F G' s1.loc s1.out s1.tk w' ∧ vs'.length = ds.length ∧
   ∀ i, i < ds.length → Rep F G' s1.tk w' (ds.getD i .junk) (vs'.getD i undef) := by
 obtain ⟨fn, hfn, hbody, hntmps, hres, _⟩ := (hE.fn f fi hf).ok
 refine calls_of_wp hfn hbody ?_
 rw [hntmps]
 refine wp_mono (hrec fi.body fi.keep _ _ _ _ _ _ w hrun hsim) ?_
 rintro e a' w' ⟨x', hm, G', s', hs', hsim'⟩
 have hs'' := hdone _ _ _ hs'
 injection hs'' with q1 q2
 subst q1 q2
 obtain ⟨vs', e1, e2, e3⟩ := run_results hE.ty hsim' hres hd
 have hpost : ∃ (vs'' : List Value) (G' : Gh), Ending.returned (if h : vs'.toArray.size = 1 then vs'.toArray[0] else .tuple vs'.toArray) = .returned (if h : vs''.toArray.size = 1 then vs''.toArray[0] else .tuple vs''.toArray) ∧ Inv F G' s1.loc s1.out s1.tk w' ∧ vs''.length = ds.length ∧
  ∀ i, i < ds.length → Rep F G' s1.tk w' (ds.getD i .junk) (vs''.getD i undef) := ⟨vs', G', rfl, hsim'.inv, e2, e3⟩
 rcases hx with rfl | rfl <;> cases e <;> first | exact hm.elim | exact ⟨hsim'.def0, _, e1, hpost⟩
theorem leave_sound (hs : Sim F G s a w) {refs toks css0} (hh : Hand F G s w refs toks css0 (handPl F G refs)) (ht0 : refs = [] → toks = []) (h1 : Inv (F.hand G s w toks (handPl F G refs)) G1 s1.loc s1.out s1.tk w1)
  {ds : List D} {vs : List Value} (hl : vs.length = ds.length) (hr : ∀ i, i < ds.length → Rep (F.hand G s w toks (handPl F G refs)) G1 s1.tk w1 (ds.getD i .junk) (vs.getD i undef)) (dst : Option Tmp) {s' : S} (h : leave s refs toks dst ds s1.out s1.tk s1.loc = some s') :
  ∃ G', Sim F G' s' (a.put dst (if h : vs.toArray.size = 1 then vs.toArray[0] else .tuple vs.toArray)) w1 := by
 have hplain : ∀ {d'}, refs = [] → resOf ds = some d' → ∃ G', Sim F G' (s.put dst d') (a.put dst (if h : vs.toArray.size = 1 then vs.toArray[0] else .tuple vs.toArray)) w1 := fun {d'} h0 hd => by
  obtain ⟨q1, q2⟩ := res_rd hl hr hd
  have hf := h1.fr
  have ht := ht0 h0
  subst h0
  subst ht
  have := hs.below hf.os hf.tape hf.output hf.size (fun b hb => hf.same b hb (by simp [Fx.hand, handPl]) (by simp [Fx.hand])) G1.ice (fun b hb => hf.ice b hb (by simp [Fx.hand])) h1.iceBig
  exact ⟨_, this.put dst (.dat q1 (.of_free q2))⟩
 unfold leave at h
 split at h
 · have ht := ht0 rfl
   subst ht
   split at h
   · rename_i i
     split at h
     · rename_i cs hloc
       split at h
       · rename_i cs' hcs
         injection h with h
         subst h
         match vs, hl, hr with
         | [v], _, hr =>
         have hv := hr 0 (by simp)
         simp only [List.getD_cons_zero] at hv
         have hol : s1.out = [] := by
          have := h1.outLen
          simp only [Fx.hand, handPl, List.map_nil, List.length_nil] at this
          exact List.length_eq_zero_iff.1 this.symm
         obtain ⟨k1, k2, k3⟩ := hs.back hh h1 (css1 := []) (css2 := []) (by rw [hol]; rfl) rfl
         cases hv with
         | dat h _ => cases h
         | pbx _ _ b o z n hp =>
           have hp' : G1.loc[i]? = some ⟨b, o, z, n⟩ := hp
           have hbx := k1.box hcs (h1.boxL i _ _ hloc hp')
           have hpm := List.mem_of_getElem? hp'
           have hnewb : w.heap.size ≤ b := h1.locNew _ hpm
           have e : backL s.tk [] s1.tk = s.tk ++ s1.tk := by simp [backL, putToks]
           rw [e] at k2 hbx
           have hF : F.base ≤ w.heap.size := hs.inv.fr.size
           have hinv := k2.inv.addLoc ⟨b, o, z, n⟩ [cs'] (fun b' hb' e => ?_) (h1.locLive _ hpm) (by show F.base ≤ b; omega) (h1.iceBox _ (List.mem_append_right _ hpm)) hbx
           · refine ⟨(G.back G1 []).addLoc ⟨b, o, z, n⟩, ?_⟩
             have hsim : Sim F ((G.back G1 []).addLoc ⟨b, o, z, n⟩) { s with loc := s.loc ++ [[cs']], tk := s.tk ++ s1.tk } a w1 := ⟨hinv, k2.tmp.ext (ext_addLoc _ _), k2.def0⟩
             have := hsim.put dst (d := .pbx (.loc s.loc.length) 0) (v := .pointer (some ⟨b, o + 0, none⟩)) (.pbx _ 0 b o z n (by
              show (G.loc ++ [_])[s.loc.length]? = _
              rw [← hs.inv.locLen]; simp))
             simpa using this
           · have e' : b' = b := e
             subst e'
             rcases k3 b' hb' with h | h
             · omega
             · obtain ⟨j, hj⟩ := List.getElem?_of_mem h
               exact place_tkb h1.nd (r1 := .loc i) hp' hj rfl
       · cases h
     · cases h
   · rename_i ds' _
     split at h
     · rename_i d' hd
       injection h with h
       subst h
       exact hplain rfl hd
     · cases h
 · split at h
   · rename_i d' css1 hd hout
     split at h
     · rename_i css2 hcs
       split at h
       · injection h with h
         subst h
         obtain ⟨k1, k2, k3⟩ := hs.back hh h1 hout hcs
         obtain ⟨q1, q2⟩ := res_rd hl hr hd
         exact ⟨_, k2.put dst (.dat q1 (.of_free q2))⟩
       · cases h
     · cases h
   · cases h
end
section
variable {P : Program} {E : Env} {F F' : Fx} {G G' G1 : Gh} {s s1 : S} {a : Act} {w w1 : World}
theorem argO_rep (hs : Sim F G s a w) {toks : List Nat} {d d' : D} {v : Value} (hd : argO toks d = some d') (hn : ∀ r, d ≠ .pbx r 0) (h : Rep F G s.tk w d v) :
  Rep (F.hand G s w toks []) (G.hand toks) (toks.map (s.tk.getD · 0)) w d' v := by
 unfold argO at hd
 split at hd
 · exact (conv_in hs).rep (d := .sl (.own _) _ _) (by simpa [renum1] using hd) h
 · injection hd with hd
   subst hd
   exact (conv_in hs).rep (d := .sl .nil _ _) (by simp [renum1, D.cell]) h
 · simp only [Option.map_eq_some_iff] at hd
   obtain ⟨⟨d2, n2⟩, hd, rfl⟩ := hd
   obtain ⟨rfl, hv⟩ := argFor_data hd hn h
   exact ArgR.rep (G := G.hand toks) hv
theorem args_own (hs : Sim F G s a w) {toks : List Nat} : ∀ {ds as_ : List D} {vs : List Value}, argsO toks ds = some as_ → refsOf ds = [] → vs.length = ds.length → (∀ i, i < ds.length → Rep F G s.tk w (ds.getD i .junk) (vs.getD i undef)) →
  as_.length = ds.length ∧ ∀ i, i < as_.length → Rep (F.hand G s w toks []) (G.hand toks) (toks.map (s.tk.getD · 0)) w (as_.getD i .junk) (vs.getD i undef)
 | [], as_, vs, h, _, hl, hr => by simp only [argsO, Option.some.injEq] at h; subst h; exact ⟨rfl, fun i hi => by simp at hi⟩
 | d :: ds, as_, [], h, _, hl, hr => by simp at hl
 | d :: ds, as_, v :: vs, h, h0, hl, hr => by
   simp only [argsO] at h
   split at h
   · rename_i d' hd
     simp only [Option.map_eq_some_iff] at h
     obtain ⟨as', ha, rfl⟩ := h
     have hn : ∀ r, d ≠ .pbx r 0 := fun r e => by subst e; simp [refsOf] at h0
     have h1 : refsOf ds = [] := by
      cases d with
      | pbx r off =>
        cases off with
        | zero => exact absurd rfl (hn r)
        | succ k => exact h0
      | _ => exact h0
     have k0 := argO_rep hs hd hn (hr 0 (by simp))
     obtain ⟨e1, e2⟩ := args_own hs ha h1 (by simpa using hl) (fun i hi => by simpa using hr (i + 1) (by simpa using hi))
     refine ⟨by simp [e1], fun i hi => ?_⟩
     cases i with
     | zero => simpa using k0
     | succ i => simpa using e2 i (by simpa using hi)
   · cases h
theorem movesD_rep {tk : List Nat} : ∀ (ks : List K) {ds : List D} {vs : List Value}, vs.length = ds.length → (∀ i, i < ds.length → Rep F G tk w (ds.getD i .junk) (vs.getD i undef)) →
  vs.length = (movesD ks ds).length ∧ ∀ i, i < (movesD ks ds).length → Rep F G tk w ((movesD ks ds).getD i .junk) (vs.getD i undef)
 | [], ds, vs, hl, hr => by rw [movesD]; exact ⟨hl, hr⟩; intro _ _ _ _ h; cases h
 | k :: ks, [], vs, hl, hr => by rw [movesD]; exact ⟨hl, hr⟩; intro _ _ _ _ _ h; cases h
 | k :: ks, d :: ds, [], hl, hr => by simp at hl
 | k :: ks, d :: ds, v :: vs, hl, hr => by
   obtain ⟨e1, e2⟩ := movesD_rep ks (ds := ds) (vs := vs) (by simpa using hl) (fun i hi => by simpa using hr (i + 1) (by simpa using hi))
   rw [movesD]
   refine ⟨by simp [e1], fun i hi => ?_⟩
   cases i with
   | zero => simpa using (hr 0 (by simp)).moveD k
   | succ i => simpa using e2 i (by simpa using hi)
theorem hand_own (hs : Sim F G s a w) {ds : List D} {vs : List Value} (hl : vs.length = ds.length) (hr : ∀ i, i < ds.length → Rep F G s.tk w (ds.getD i .junk) (vs.getD i undef)) (h2 : noDup (toksOf ds) = true) : Hand F G s w [] (toksOf ds) [] [] := by
 refine ⟨rfl, rfl, fun k r hk => by simp at hk, fun k r hk => by simp at hk, List.nodup_nil, noDup_iff h2, fun i hi => ?_⟩
 obtain ⟨z, es, hm⟩ := toksOf_mem.1 hi
 obtain ⟨j, hj⟩ := List.getElem?_of_mem hm
 have hjl : j < ds.length := (List.getElem?_eq_some_iff.1 hj).1
 have h8 := hr j hjl
 rw [List.getD_eq_getElem?_getD, hj] at h8
 obtain ⟨_, n, hn', _⟩ := h8.sl_inv
 exact (List.getElem?_eq_some_iff.1 hn').1
theorem leaveO_sound (hs : Sim F G s a w) {toks} (hh : Hand F G s w [] toks [] []) (h1 : Inv (F.hand G s w toks []) G1 s1.loc s1.out s1.tk w1)
  {ds : List D} {vs : List Value} (hl : vs.length = ds.length) (hr : ∀ i, i < ds.length → Rep (F.hand G s w toks []) G1 s1.tk w1 (ds.getD i .junk) (vs.getD i undef)) (dst : Option Tmp) {s' : S} (h : leaveO s toks dst ds s1.tk = some s') :
  ∃ G', Sim F G' s' (a.put dst (if h : vs.toArray.size = 1 then vs.toArray[0] else .tuple vs.toArray)) w1 := by
 unfold leaveO at h
 split at h
 · rename_i d
   split at h
   · rename_i d' hd
     injection h with h
     subst h
     match vs, hl, hr with
     | [v], _, hr =>
     have hv := hr 0 (by simp)
     simp only [List.getD_cons_zero] at hv
     have hol : s1.out = [] := by
      have := h1.outLen
      simp only [Fx.hand, List.length_nil] at this
      exact List.length_eq_zero_iff.1 this.symm
     obtain ⟨k1, k2, k3⟩ := hs.back hh h1 (css1 := []) (css2 := []) (by rw [hol]; rfl) rfl
     have hd1 := (renum_spec hd).2 0 (by simp)
     simp only [List.getD_cons_zero] at hd1
     have := k2.put dst (k1.rep hd1 hv)
     exact ⟨_, by simpa [putBoxes, backL] using this⟩
   · cases h
 · cases h
end
section
variable {P : Program} {E : Env} {F : Fx} {G : Gh} {s : S} {a : Act} {w : World} {o : Oper} {Q : Exit → Act → World → Prop} {rec : T → Option (X × S)} {r : X × S} {K : S → T}
theorem run_callFunc {f : FuncId} {fn : Func} (hf : P.funcs[f]? = some fn) (hn : fn.name ≠ "runtime.NumGoroutine") (hb : fn.body.isNone = false) (args : Array Value) : (callFunc f args).run P w = .ok (.enter f args) w := by
 have hb' : fn.body ≠ none := by intro h; rw [h] at hb; cases hb
 simp [callFunc, hf, hn, hb']
theorem fn_shape {tk f cap v} (h : Rep F G tk w (.fn f cap) v) : ∃ vs : Array Value, v = .func (.func f) #[] vs ∧ vs.size = cap.length ∧ ∀ i, i < cap.length → Rep F G tk w (cap.getD i .junk) (vs.getD i undef) := by
 cases h with
 | dat h _ => cases h
 | fn _ _ vs hl h => exact ⟨vs, rfl, hl, h⟩
theorem call_sound (hE : EnvOk P E) (hrec : Sound P E rec) (hdone : ∀ x s r, rec (.done x s) = some r → r = (x, s)) (hs : Sim F G s a w) {c : Call} (ho : o.op = .call c) {g : Operand} (hc : c.callee = .value g)
  (hT : runT E rec (opT E o s K) = some r) : o.wp P a w (After F G s w fun s' => runT E rec (K s') = some r) Q := by
 simp only [opT, ho, hc] at hT
 have hg := hs.ev g
 split at hT
 · rename_i f cap hfn
   rw [hfn] at hg
   obtain ⟨vs, hv, hvl, hvr⟩ := fn_shape hg
   have hargs : ∀ fn : Func, P.funcs[f]? = some fn → fn.name ≠ "runtime.NumGoroutine" → fn.body.isNone = false → (execOp a.eval o).run P w = .ok (.enter f (c.args.map a.eval ++ vs)) w := fun fn h1 h2 h3 => by
    simp only [execOp, ho, resolve, hc, Sem.run_bind, hv, Deferred.ofValue, Sem.run_pure, Result.andThen_ok, invoke]
    rw [show (#[] ++ c.args.map a.eval : Array Value) = c.args.map a.eval by simp]
    exact run_callFunc h1 h2 h3 _
   have hlen : (c.args.map a.eval ++ vs).toList.length = (c.args.toList.map s.ev ++ cap).length := by simp [hvl]
   have hrep : ∀ i, i < (c.args.toList.map s.ev ++ cap).length → Rep F G s.tk w ((c.args.toList.map s.ev ++ cap).getD i .junk) ((c.args.map a.eval ++ vs).toList.getD i undef) := fun i hi => by
    simp only [List.length_append, List.length_map, Array.length_toList] at hi
    by_cases h : i < c.args.size
    · have e1 : (c.args.toList.map s.ev ++ cap).getD i .junk = s.ev c.args[i] := by
        simp only [List.getD_eq_getElem?_getD]; rw [List.getElem?_append_left (by simpa using h)]; simp [h]
      have e2 : (c.args.map a.eval ++ vs).toList.getD i undef = a.eval c.args[i] := by
       simp only [List.getD_eq_getElem?_getD, Array.getElem?_toList]; rw [Array.getElem?_append_left (by simpa using h)]; simp [h]
      rw [e1, e2]; exact hs.ev _
    · have e1 : (c.args.toList.map s.ev ++ cap).getD i .junk = cap.getD (i - c.args.size) .junk := by
        simp only [List.getD_eq_getElem?_getD]; rw [List.getElem?_append_right (by simpa using h)]; simp
      have e2 : (c.args.map a.eval ++ vs).toList.getD i undef = vs.getD (i - c.args.size) undef := by
       simp only [List.getD_eq_getElem?_getD, Array.getElem?_toList, Array.getD_eq_getD_getElem?]; rw [Array.getElem?_append_right (by simpa using h)]; simp
      rw [e1, e2]; exact hvr _ (by omega)
   generalize hds : c.args.toList.map s.ev ++ cap = ds at hT hlen hrep
   unfold callT at hT
   split at hT
   ·
    rename_i gx hx
    obtain ⟨⟨fn, hf1, hf2, hf3⟩, hok⟩ := hE.ext f gx hx
    split at hT
    · rename_i as_ has hrefs
      simp only [runT, hx] at hT
      split at hT
      · rename_i d hd
        obtain ⟨e1, e2⟩ := argsFor_data has hrefs _ hlen hrep
        have hrd : ∀ i, i < as_.length → ArgR G.ice w (as_.getD i .junk) ((c.args.map a.eval ++ vs).getD i undef) := fun i hi => by
         have := e2 i hi
         rwa [getD_toList] at this
        have hcall := hok G.ice w as_ (c.args.map a.eval ++ vs) d (by rw [e1, ← hlen]; simp) hrd hs.inv.iceBig hd
        unfold Oper.wp
        rw [hargs fn hf1 hf2 hf3]
        refine Calls.mono hcall ?_
        rintro e w' ⟨v, σ', rfl, hr', ⟨hfin, hnw⟩, ⟨hb, hdr⟩, h1, h2⟩
        have hs' := hs.below hb.os hb.tape ⟨hb.output, hdr⟩ hb.size hb.block σ' h1 h2
        exact ⟨_, _, hT, hs'.put o.dst (.dat hr' (.of_fin hfin (hnw.mono (Nat.le_trans F.lim_le hs.inv.fr.size) (fun _ => Nat.le_refl _) (fun _ _ _ h => h))))⟩
      · cases hT
    · simp [runT] at hT
   · rename_i fi hnone hfi
     split at hT
     · split at hT
       ·
        obtain ⟨m1, m2⟩ := movesD_rep (fi.params.map fun t => (E.ty t).k) hlen hrep
        generalize movesD (fi.params.map fun t => (E.ty t).k) ds = ds at hT m1 m2
        clear hlen hrep
        have hlen := m1
        have hrep := m2
        unfold ocallT at hT
        split at hT
        · rename_i as_ hrefs has
          split at hT
          · rename_i hnd
            have hh := hand_own hs hlen hrep hnd
            simp only [runT, hfi] at hT
            split at hT
            · rename_i hn
              obtain ⟨fn, hf1, hbody, hntmps, hres, hname⟩ := (hE.fn f fi hfi).ok
              obtain ⟨e1, e2⟩ := args_own hs has hrefs hlen hrep
              have hsim := sim_hand hs hh (fi := fi) (as_ := as_) (vs := c.args.map a.eval ++ vs) (by rw [e1, ← hlen]; simp) (fun i hi => by
               have := e2 i hi
               rwa [getD_toList] at this) hn
              have hgo : ∀ x s1, (x = .normal ∨ x = .ret) → rec (tree E fi.keep fi.body (enterS fi as_ [] ((toksOf ds).map (s.tk.getD · 0))) .done) = some (x, s1) → (match resD E s1 fi.res with
                | some ds' => runT E rec (match leaveO s (toksOf ds) o.dst ds' s1.tk with
                  | some s' => K s'
                  | none => .fail)
                | none => none) = some r → o.wp P a w (After F G s w fun s' => runT E rec (K s') = some r) Q := fun x s1 hx hrun hT => by
               split at hT
               · rename_i ds' hds'
                 split at hT
                 · rename_i s' hlv
                   have hcall := gcall_calls hE hrec hfi hn hx hrun hdone hds' hsim
                   unfold Oper.wp
                   rw [hargs fn hf1 hname (by rw [hbody]; rfl)]
                   refine Calls.mono hcall ?_
                   rintro e w' ⟨vs', G1, rfl, hinv, hl', hr'⟩
                   obtain ⟨G', hsim'⟩ := leaveO_sound hs hh hinv hl' hr' o.dst hlv
                   exact ⟨G', s', hT, hsim'⟩
                 · simp [runT] at hT
               · cases hT
              split at hT
              · rename_i s1 hrun; exact hgo .normal s1 (.inl rfl) hrun hT
              · rename_i s1 hrun; exact hgo .ret s1 (.inr rfl) hrun hT
              · cases hT
            · cases hT
          · simp [runT] at hT
        · simp [runT] at hT
       ·
        unfold gcallT at hT
        dsimp only at hT
        split at hT
        · rename_i as_ css has hbox
          split at hT
          · rename_i css' hren
            split at hT
            · rename_i hnd
              simp only [Bool.and_eq_true] at hnd
              have hh := hand_of hs hlen hrep hbox hren hnd.1 hnd.2
              simp only [runT, hfi] at hT
              split at hT
              · rename_i hn
                obtain ⟨fn, hf1, hbody, hntmps, hres, hname⟩ := (hE.fn f fi hfi).ok
                obtain ⟨e1, e2⟩ := args_hand (s := s) (w := w) (toks := toksOf css.flatten) (ps := handPl F G (refsOf ds)) (tk' := (toksOf css.flatten).map (s.tk.getD · 0)) has hlen hrep (fun k r p hk hp => by
                 simp [handPl, hk, hp])
                have hsim := sim_hand hs hh (fi := fi) (as_ := as_) (vs := c.args.map a.eval ++ vs) (by rw [e1, ← hlen]; simp) (fun i hi => by
                 have := e2 i hi
                 rwa [getD_toList] at this) hn
                have ht0 : refsOf ds = [] → toksOf css.flatten = [] := fun h => by
                 rw [h] at hbox
                 simp only [boxesOf, Option.some.injEq] at hbox
                 rw [← hbox]; rfl
                have hgo : ∀ x s1, (x = .normal ∨ x = .ret) → rec (tree E fi.keep fi.body (enterS fi as_ (css'.map ([·])) ((toksOf css.flatten).map (s.tk.getD · 0))) .done) = some (x, s1) → (match resD E s1 fi.res with
                  | some ds' => runT E rec (match leave s (refsOf ds) (toksOf css.flatten) o.dst ds' s1.out s1.tk s1.loc with
                    | some s' => K s'
                    | none => .fail)
                  | none => none) = some r → o.wp P a w (After F G s w fun s' => runT E rec (K s') = some r) Q := fun x s1 hx hrun hT => by
                 split at hT
                 · rename_i ds' hds'
                   split at hT
                   · rename_i s' hlv
                     have hcall := gcall_calls hE hrec hfi hn hx hrun hdone hds' hsim
                     unfold Oper.wp
                     rw [hargs fn hf1 hname (by rw [hbody]; rfl)]
                     refine Calls.mono hcall ?_
                     rintro e w' ⟨vs', G1, rfl, hinv, hl', hr'⟩
                     obtain ⟨G', hsim'⟩ := leave_sound hs hh ht0 hinv hl' hr' o.dst hlv
                     exact ⟨G', s', hT, hsim'⟩
                   · simp [runT] at hT
                 · cases hT
                split at hT
                · rename_i s1 hrun; exact hgo .normal s1 (.inl rfl) hrun hT
                · rename_i s1 hrun; exact hgo .ret s1 (.inr rfl) hrun hT
                · cases hT
              · cases hT
            · simp [runT] at hT
          · simp [runT] at hT
        · simp [runT] at hT
     · split at hT
       · rename_i as_ has hrefs
         simp only [runT, hfi] at hT
         split at hT
         · rename_i hn
           obtain ⟨fn, hf1, hbody, hntmps, hres, hname⟩ := (hE.fn f fi hfi).ok
           obtain ⟨e1, e2⟩ := argsOf_data has hrefs _ hlen hrep
           have hgo : ∀ x s1, (x = .normal ∨ x = .ret) → rec (tree E fi.keep fi.body (enterS fi as_ [] []) .done) = some (x, s1) → (match outD E fi.nw s1 fi.res with
             | some d => runT E rec (K (s.put o.dst d))
             | none => none) = some r → o.wp P a w (After F G s w fun s' => runT E rec (K s') = some r) Q := fun x s1 hx hrun hT => by
            split at hT
            · rename_i d hd
              have hcall := pcall_calls (w := w) (G := G) hE hrec hfi hn hx hrun hdone hd (vs := c.args.map a.eval ++ vs) (by rw [e1, ← hlen]; simp) (fun i hi => by
               have := e2 i hi
               rwa [getD_toList] at this) (Nat.le_trans F.lim_le hs.inv.fr.size) hs.inv.iceBig
              unfold Oper.wp
              rw [hargs fn hf1 hname (by rw [hbody]; rfl)]
              refine Calls.mono hcall ?_
              rintro e w' ⟨v, G', rfl, hr', ⟨hfin, hnw⟩, hfr, hbig⟩
              have hs' := hs.below hfr.os hfr.tape hfr.output hfr.size (fun b hb => hfr.same b hb (by simp) (by simp)) G'.ice (fun b hb => hfr.ice b hb (by simp)) hbig
              exact ⟨_, _, hT, hs'.put o.dst (.dat hr' (.of_fin hfin hnw))⟩
            · cases hT
           split at hT
           · rename_i s1 hrun; exact hgo .normal s1 (.inl rfl) hrun hT
           · rename_i s1 hrun; exact hgo .ret s1 (.inr rfl) hrun hT
           · cases hT
         · cases hT
       · simp [runT] at hT
   · simp [runT] at hT
 · simp [runT] at hT
end
section
variable {P : Program} {E : Env} {F : Fx} {G : Gh} {s : S} {a : Act} {w : World} {o : Oper} {rec : T → Option (X × S)} {r : X × S} {K : S → T}
def Par {α : Type} (E : Env) (rec : T → Option (X × S)) (V : (α → T) → T) : Prop :=
 ∀ k r, runT E rec (V k) = some r → ∃ d, runT E rec (k d) = some r ∧ ∀ k2 r2, runT E rec (k2 d) = some r2 → runT E rec (V k2) = some r2
theorem Par.pure {α : Type} (d : α) : Par E rec fun k => k d := fun k r h => ⟨d, h, fun _ _ h => h⟩
theorem Par.fail {α : Type} : Par E rec fun _ : α → T => .fail := fun k r h => by simp [runT] at h
theorem Par.need {α : Type} (b : Bool) {V : (α → T) → T} (h : Par E rec V) : Par E rec fun k => .need b (V k) := fun k r hr => by
 simp only [runT] at hr
 split at hr
 · rename_i hb
   obtain ⟨d, h1, h2⟩ := h k r hr
   exact ⟨d, h1, fun k2 r2 hk => by simp only [runT, hb, if_true]; exact h2 k2 r2 hk⟩
 · cases hr
theorem Par.test (b : Bool) (x y : D) : Par E rec fun k => .test b (fun _ => k x) (fun _ => k y) := fun k r hr => by
 simp only [runT] at hr
 cases b
 · exact ⟨y, by simpa using hr, fun k2 r2 hk => by simpa [runT] using hk⟩
 · exact ⟨x, by simpa using hr, fun k2 r2 hk => by simpa [runT] using hk⟩
theorem Par.fetch (es : Box) (j : Int) (g : List D → D) : Par E rec fun k => .fetch es j fun cs => k (g cs) := fun k r hr => by
 obtain ⟨h0, cs, hcs, hr⟩ := fetch_inv hr
 exact ⟨g cs, hr, fun k2 r2 hk => by simp only [runT, h0, if_true, hcs]; exact hk⟩
theorem Par.ite {α : Type} (c : Prop) [Decidable c] {V W : (α → T) → T} (h1 : Par E rec V) (h2 : Par E rec W) : Par E rec fun k => if c then V k else W k := by
 by_cases h : c
 · simpa only [h, if_true] using h1
 · simpa only [h, if_false] using h2
theorem Par.ext (f : FuncId) (as_ : List D) : Par E rec fun k => .ext f as_ k := fun k r hr => by
 simp only [runT] at hr
 split at hr
 · rename_i g hg
   split at hr
   · rename_i d hd
     exact ⟨d, hr, fun k2 r2 hk => by simp only [runT, hg, hd]; exact hk⟩
   · cases hr
 · cases hr
theorem Par.pcall (f : FuncId) (as_ : List D) : Par E rec fun k => .pcall f as_ k := fun k r hr => by
 simp only [runT] at hr
 split at hr
 · rename_i fi hfi
   split at hr
   · rename_i hn
     split at hr
     · rename_i s1 hs
       split at hr
       · rename_i d hd
         exact ⟨d, hr, fun k2 r2 hk => by simp only [runT, hfi, hn, if_true, hs, hd]; exact hk⟩
       · cases hr
     · rename_i s1 hs
       split at hr
       · rename_i d hd
         exact ⟨d, hr, fun k2 r2 hk => by simp only [runT, hfi, hn, if_true, hs, hd]; exact hk⟩
       · cases hr
     · cases hr
   · cases hr
 · cases hr
def Agree (o : Oper) (s s2 : S) : Prop := (∀ x ∈ o.op.operands, s2.ev x = s.ev x) ∧ ∀ r, s2.box r = s.box r
theorem binT_par (op : BinOp) (x y : D) : Par E rec fun k => binT op x y k := by
 unfold binT
 cases x <;> cases y <;> first
  | exact Par.fail
  | (rename_i ik m jk n
     refine Par.ite _ ?_ Par.fail
     cases op <;> first
      | exact Par.need _ (Par.pure _)
      | (dsimp only; split <;> first | exact Par.pure _ | exact Par.fail))
  | (cases op <;> first | exact Par.fail | exact Par.pure _ | exact Par.need _ (Par.pure _))
theorem idx_opt {P' : Prop} : P' → P' := id
theorem op_val (hc : cls E o.op = 0) (s : S) : ∃ V : (D → T) → T, Par E rec V ∧ ∀ s2, Agree o s s2 → ∀ K, opT E o s2 K = V (fun d => K (s2.put o.dst d)) := by
 cases ho : o.op with
 | move x => exact ⟨fun k => k (moveD (E.ty o.type).k (s.ev x)), Par.pure _, fun s2 h K => by simp only [opT, ho]; rw [h.1 x (by simp [ho, Op.operands])]⟩
 | assign x => exact ⟨fun k => k (moveD (E.ty o.type).k (s.ev x)), Par.pure _, fun s2 h K => by simp only [opT, ho]; rw [h.1 x (by simp [ho, Op.operands])]⟩
 | pick c x y =>
   refine ⟨fun k => match s.ev c with
    | .bool v => .test v (fun _ => k (s.ev x)) (fun _ => k (s.ev y))
    | _ => .fail, ?_, fun s2 h K => ?_⟩
   · cases s.ev c <;> first | exact Par.fail | exact Par.test _ _ _
   · simp only [opT, ho]
     rw [h.1 c (by simp [ho, Op.operands]), h.1 x (by simp [ho, Op.operands]), h.1 y (by simp [ho, Op.operands])]
     cases s.ev c <;> rfl
 | load t x =>
   refine ⟨fun k => match s.ev x with
    | .pel cs off => if (E.ty t).fits off cs.length then k (part (E.ty t).k.isSt (E.ty t).size cs off) else .fail
    | .pbx r off => match s.box r with
      | some [cs] => if (E.ty t).fits off cs.length then k (part (E.ty t).k.isSt (E.ty t).size cs off) else .fail
      | _ => .fail
    | .pba r z j off => match s.box r with
      | some es => if (E.ty t).fits off z then .fetch es j fun cs => k (part (E.ty t).k.isSt (E.ty t).size cs off) else .fail
      | none => .fail
    | _ => .fail, ?_, fun s2 h K => ?_⟩
   · cases s.ev x <;> dsimp only <;> first
    | exact Par.fail
    | exact Par.ite _ (Par.pure _) Par.fail
    | (split <;> first | exact Par.fail | exact Par.ite _ (Par.pure _) Par.fail | exact Par.ite _ (Par.fetch _ _ _) Par.fail)
   · simp only [opT, ho]
     rw [h.1 x (by simp [ho, Op.operands])]
     simp only [h.2]
     cases s.ev x <;> first | rfl | (rename_i r0 _; generalize s.box r0 = bx; rcases bx with _ | _ | ⟨_, _ | _⟩ <;> rfl) | (rename_i r0 _ _ _; generalize s.box r0 = bx; cases bx <;> rfl)
 | binOp op t x y t' =>
   refine ⟨fun k => match op, s.ev x, s.ev y with
    | .eql, .agg a, .agg b => match (E.ty t).eq && shapeD (E.ty t).zero a, eqD a b with
      | true, some v => k (.bool v)
      | _, _ => .fail
    | .neq, .agg a, .agg b => match (E.ty t).eq && shapeD (E.ty t).zero a, eqD a b with
      | true, some v => k (.bool (!v))
      | _, _ => .fail
    | .eql, .bool a, .bool b => match (E.ty t).k with
      | .bool => k (.bool (a == b))
      | _ => .fail
    | .neq, .bool a, .bool b => match (E.ty t).k with
      | .bool => k (.bool (!(a == b)))
      | _ => .fail
    | op, a, b => binT op a b k, ?_, fun s2 h K => ?_⟩
   · generalize s.ev x = dx
     generalize s.ev y = dy
     split
     · split <;> first | exact Par.pure _ | exact Par.fail
     · split <;> first | exact Par.pure _ | exact Par.fail
     · split <;> first | exact Par.pure _ | exact Par.fail
     · split <;> first | exact Par.pure _ | exact Par.fail
     · exact binT_par _ _ _
   · simp only [opT, ho]
     rw [h.1 x (by simp [ho, Op.operands]), h.1 y (by simp [ho, Op.operands])]
     generalize s.ev x = dx
     generalize s.ev y = dy
     cases op <;> cases dx <;> cases dy <;> first | rfl | (rename_i a0 b0; generalize eqD a0 b0 = q; generalize ((E.ty t).eq && shapeD (E.ty t).zero a0) = q2; cases q2 <;> cases q <;> rfl) | (cases (E.ty t).k <;> rfl)
 | unOp op t x =>
   refine ⟨fun k => match op, s.ev x with
    | .neg, .int ik n => k (.int ik (ik.wrap (0 - n)))
    | .not, .bool b => k (.bool (!b))
    | _, _ => .fail, ?_, fun s2 h K => ?_⟩
   · cases op <;> cases s.ev x <;> first | exact Par.pure _ | exact Par.fail
   · simp only [opT, ho]
     rw [h.1 x (by simp [ho, Op.operands])]
     cases op <;> cases s.ev x <;> rfl
 | convert src dst x =>
   refine ⟨fun k => match (E.ty src).k, (E.ty dst).k, s.ev x with
    | .int _, .int ik, .int _ n => k (.int ik (ik.wrap n))
    | .str, .str, .str a => k (.str a)
    | .sl e _ _, .str, .sl _ z es => if (E.ty e).k.isU8 && (z == 1 && byteRow es) then k (.str (ofBytes es)) else .fail
    | _, _, _ => .fail, ?_, fun s2 h K => ?_⟩
   · cases (E.ty src).k <;> cases (E.ty dst).k <;> cases s.ev x <;> first | exact Par.pure _ | exact Par.fail | exact Par.ite _ (Par.pure _) Par.fail
   · simp only [opT, ho]
     rw [h.1 x (by simp [ho, Op.operands])]
     cases (E.ty src).k <;> cases (E.ty dst).k <;> cases s.ev x <;> rfl
 | extract x i =>
   refine ⟨fun k => match s.ev x with
    | .tup vs => if i < vs.length then k (vs.getD i .junk) else .fail
    | _ => .fail, ?_, fun s2 h K => ?_⟩
   · cases s.ev x <;> first | exact Par.fail | exact Par.ite _ (Par.pure _) Par.fail
   · simp only [opT, ho]
     rw [h.1 x (by simp [ho, Op.operands])]
     cases s.ev x <;> rfl
 | nilCheck x =>
   refine ⟨fun k => match s.ev x with
    | .pbx r off => k (.pbx r off)
    | .pel cs off => k (.pel cs off)
    | .pba r z j off => k (.pba r z j off)
    | .fn f c => k (.fn f c)
    | _ => .fail, ?_, fun s2 h K => ?_⟩
   · cases s.ev x <;> first | exact Par.fail | exact Par.pure _
   · simp only [opT, ho]
     rw [h.1 x (by simp [ho, Op.operands])]
     cases s.ev x <;> rfl
 | fieldAddr t x f =>
   refine ⟨fun k => match (E.ty t).k with
    | .st fs => match fs[f]? with
      | some (o', sz, _) => if sz = 0 then .fail else match s.ev x with
        | .pel cs off => k (.pel cs (off + o'))
        | .pbx r off => k (.pbx r (off + o'))
        | .pba r z j off => k (.pba r z j (off + o'))
        | _ => .fail
      | none => .fail
    | _ => .fail, ?_, fun s2 h K => ?_⟩
   · generalize s.ev x = dx
     split <;> first | exact Par.fail | (split <;> first | exact Par.fail | (refine Par.ite _ Par.fail ?_; cases dx <;> first | exact Par.fail | exact Par.pure _))
   · simp only [opT, ho]
     rw [h.1 x (by simp [ho, Op.operands])]
     generalize s.ev x = dx
     cases (E.ty t).k <;> first | rfl | (rename_i fs; rcases hq : fs[f]? with _ | ⟨_, _, _⟩ <;> simp only [hq] <;> cases dx <;> rfl)
 | field t x f =>
   refine ⟨fun k => match (E.ty t).k, s.ev x with
    | .st fs, .agg cs => match fs[f]? with
      | some (o', sz, ag) => if o' + sz ≤ cs.length ∧ 0 < sz then k (part ag sz cs o') else .fail
      | none => .fail
    | _, _ => .fail, ?_, fun s2 h K => ?_⟩
   · generalize s.ev x = dx
     split <;> first | exact Par.fail | (split <;> first | exact Par.fail | exact Par.ite _ (Par.pure _) Par.fail)
   · simp only [opT, ho]
     rw [h.1 x (by simp [ho, Op.operands])]
     generalize s.ev x = dx
     cases (E.ty t).k <;> cases dx <;> first | rfl | (rename_i fs _; rcases hq : fs[f]? with _ | ⟨_, _, _⟩ <;> simp only [hq])
 | indexAddr t x i =>
   refine ⟨fun k => match (E.ty t).k, s.ev x, idx (s.ev i) with
    | .sl _ z _, .sl _ z' es, some j => if z' = z then .fetch es j fun cs => k (.pel cs 0) else .fail
    | .sl _ z _, .asl r z' n, some j => match s.box r with
      | some es => if z' = z then .fetch es j fun _ => k (.pba r z j 0) else .fail
      | none => .fail
    | _, _, _ => .fail, ?_, fun s2 h K => ?_⟩
   · generalize s.ev x = dx
     generalize idx (s.ev i) = di
     split <;> first | exact Par.fail | exact Par.ite _ (Par.fetch _ _ _) Par.fail | (split <;> first | exact Par.fail | exact Par.ite _ (Par.fetch _ _ fun _ => _) Par.fail)
   · simp only [opT, ho]
     rw [h.1 x (by simp [ho, Op.operands]), h.1 i (by simp [ho, Op.operands])]
     simp only [h.2]
     generalize s.ev x = dx
     generalize idx (s.ev i) = di
     cases (E.ty t).k <;> cases dx <;> cases di <;> first | rfl | (rename_i r0 _ _ _; generalize s.box r0 = bx; cases bx <;> rfl)
 | index t x i =>
   refine ⟨fun k => match (E.ty t).k, s.ev x, idx (s.ev i) with
    | .str, .str a, some j => .need (decide (0 ≤ j) && decide (j < a.size)) (k (.int .u8 (a.get! j.toNat).toNat))
    | _, _, _ => .fail, ?_, fun s2 h K => ?_⟩
   · generalize s.ev x = dx
     generalize idx (s.ev i) = di
     split <;> first | exact Par.fail | exact Par.need _ (Par.pure _)
   · simp only [opT, ho]
     rw [h.1 x (by simp [ho, Op.operands]), h.1 i (by simp [ho, Op.operands])]
     generalize s.ev x = dx
     generalize idx (s.ev i) = di
     cases (E.ty t).k <;> cases dx <;> cases di <;> rfl
 | makeFunc fn fst cap =>
   have he : ∀ s2, Agree o s s2 → cap.toList.map s2.ev = cap.toList.map s.ev := fun s2 h => List.map_congr_left fun x hx => h.1 x (by simp only [ho, Op.operands, Array.mem_append]; exact .inr (by simpa using hx))
   cases fn with
   | func f =>
     refine ⟨fun k => if fst.size = 0 then k (.fn f (cap.toList.map s.ev)) else .fail, Par.ite _ (Par.pure _) Par.fail, fun s2 h K => ?_⟩
     simp only [opT, ho]
     rw [he s2 h]
   | _ => exact ⟨fun k => .fail, Par.fail, fun s2 h K => by simp only [opT, ho]⟩
 | build t ps =>
   have he : ∀ s2, Agree o s s2 → (ps.toList.map fun p => (p.1, (s2.ev p.2).cells.map D.plain)) = ps.toList.map fun p => (p.1, (s.ev p.2).cells.map D.plain) := fun s2 h => List.map_congr_left fun x hx => by
    rw [h.1 x.2 (by simp only [ho, Op.operands]; simp only [List.mem_toArray, List.mem_map]; exact ⟨x, hx, rfl⟩)]
   refine ⟨fun k => match (E.ty t).k with
    | .st fs => match opT.fillD fs ((E.ty t).zero) (ps.toList.map fun p => (p.1, (s.ev p.2).cells.map D.plain)) with
      | some cs => k (.agg cs)
      | none => .fail
    | _ => .fail, ?_, fun s2 h K => ?_⟩
   · split <;> first | exact Par.fail | (split <;> first | exact Par.fail | exact Par.pure _)
   · simp only [opT, ho]
     rw [he s2 h]
     cases (E.ty t).k <;> first | rfl | (rename_i fs; generalize opT.fillD fs _ _ = q; cases q <;> rfl)
 | buildSlice t n ps =>
   have he : ∀ s2, Agree o s s2 → (ps.toList.map fun p => (p.1, (s2.ev p.2).cells.map D.ro)) = ps.toList.map fun p => (p.1, (s.ev p.2).cells.map D.ro) := fun s2 h => List.map_congr_left fun x hx => by
    rw [h.1 x.2 (by simp only [ho, Op.operands]; simp only [List.mem_toArray, List.mem_map]; exact ⟨x, hx, rfl⟩)]
   refine ⟨fun k => match (E.ty t).k with
    | .sl e z _ => if (E.ty e).k.known && (decide ((E.ty e).zero.length = z) && decide (n * z ≤ 2 ^ 20)) then
        match opT.fillS z (List.replicate n (E.ty e).zero) (ps.toList.map fun p => (p.1, (s.ev p.2).cells.map D.ro)) with
        | some es => k (.sl .cap z es)
        | none => .fail
      else .fail
    | _ => .fail, ?_, fun s2 h K => ?_⟩
   · split <;> first | exact Par.fail | (refine Par.ite _ ?_ Par.fail; split <;> first | exact Par.fail | exact Par.pure _)
   · simp only [opT, ho]
     rw [he s2 h]
     cases (E.ty t).k <;> first | rfl | (rename_i e z _; dsimp only; generalize opT.fillS z _ _ = q; cases q <;> rfl)
 | slice t x lo hi mx =>
   have hop : ∀ s2, Agree o s s2 → ∀ (d : Int) (y : Option Operand), (∀ z, y = some z → z ∈ o.op.operands) → optI s2 d y = optI s d y := fun s2 h d y hy => by
    cases y with
    | none => rfl
    | some z => simp only [optI]; rw [h.1 z (hy z rfl)]
   refine ⟨fun k => match (E.ty t).k, s.ev x with
    | .sl _ z _, .sl tok z' es =>
      match optI s 0 lo, optI s es.length hi with
      | some l, some h =>
        if z' = z then
         match (generalizing := false) mx with
         | none => .need (decide (0 ≤ l) && (decide (l ≤ h) && decide (h ≤ es.length))) (k (.sl .ro z ((es.take h.toNat).drop l.toNat)))
         | some m => match (generalizing := false) hi, idx (s.ev m) with
           | some _, some m => .need (decide (0 ≤ l) && (decide (l ≤ h) && (decide (h ≤ es.length) && decide (m = h)))) (k (.sl .cap z ((es.take h.toNat).drop l.toNat)))
           | _, _ => .fail
        else .fail
      | _, _ => .fail
    | .str, .str a =>
      match (generalizing := false) optI s 0 lo, optI s a.size hi, mx with
      | some l, some h, none => .need (decide (0 ≤ l) && (decide (l ≤ h) && decide (h ≤ a.size))) (k (.str (a.extract l.toNat h.toNat)))
      | _, _, _ => .fail
    | _, _ => .fail, ?_, fun s2 h K => ?_⟩
   · generalize s.ev x = dx
     split
     · split
       · refine Par.ite _ ?_ Par.fail
         split
         · exact Par.need _ (Par.pure _)
         · split <;> first | exact Par.fail | exact Par.need _ (Par.pure _)
       · exact Par.fail
     · split <;> first | exact Par.fail | exact Par.need _ (Par.pure _)
     · exact Par.fail
   · have h1 := h.1 x (by simp [ho, Op.operands])
     have h2 := fun d => hop s2 h d lo (fun z hz => by subst hz; simp [ho, Op.operands])
     have h3 := fun d => hop s2 h d hi (fun z hz => by subst hz; simp [ho, Op.operands])
     have h4 : ∀ m, mx = some m → s2.ev m = s.ev m := fun m hm => h.1 m (by subst hm; simp [ho, Op.operands])
     simp only [opT, ho, h1, h2, h3]
     generalize s.ev x = dx
     generalize optI s 0 lo = l0
     cases (E.ty t).k <;> cases dx <;> first
      | rfl
      | (dsimp only
         generalize optI s _ hi = h0
         cases mx with
         | none => cases l0 <;> cases h0 <;> rfl
         | some m =>
           have h5 := h4 m rfl
           clear ho h4
           simp only [h5]
           generalize idx (s.ev m) = q
           cases l0 <;> cases h0 <;> cases hi <;> cases q <;> rfl)
 | call c =>
   have hargs : ∀ s2, Agree o s s2 → c.args.toList.map s2.ev = c.args.toList.map s.ev := fun s2 h => List.map_congr_left fun x hx => h.1 x (by
    simp only [ho, Op.operands, Call.operands, Array.mem_append]; exact .inr (by simpa using hx))
   cases hcc : c.callee with
   | invoke rv m => exact ⟨fun k => .fail, Par.fail, fun s2 h K => by simp only [opT, ho, hcc]⟩
   | builtin b =>
     cases b with
     | append => simp [cls, ho, hcc] at hc
     | len =>
       refine ⟨fun k => match c.argTypes.toList.map (fun t => (E.ty t).k), c.args.toList.map s.ev with
        | [.sl _ _ _], [.sl _ _ es] => k (.int .i64 es.length)
        | [.str], [.str a] => k (.int .i64 a.size)
        | [.sl _ _ _], [.asl r _ n] => k (.int .i64 n)
        | _, _ => .fail, ?_, fun s2 h K => ?_⟩
       · split <;> first | exact Par.fail | exact Par.pure _
       · simp only [opT, ho, hcc]
         rw [hargs s2 h]
         generalize List.map (fun t => (E.ty t).k) c.argTypes.toList = ks
         generalize List.map s.ev c.args.toList = ds
         rcases ks with _ | ⟨k0, _ | ⟨k1, ks⟩⟩ <;> try rfl
     | _ => exact ⟨fun k => .fail, Par.fail, fun s2 h K => by simp only [opT, ho, hcc]⟩
   | value g =>
     cases g with
     | func f =>
       refine ⟨fun k => match E.ext f, E.fn f with
        | some _, _ => match argsFor 0 (c.args.toList.map s.ev ++ []), refsOf (c.args.toList.map s.ev ++ []) with
          | some as_, [] => .ext f as_ k
          | _, _ => .fail
        | none, some fi => match argsOf fi.nw (c.args.toList.map s.ev ++ []), refsOf (c.args.toList.map s.ev ++ []) with
         | some as_, [] => .pcall f as_ k
         | _, _ => .fail
        | none, none => .fail, ?_, fun s2 h K => ?_⟩
       · split
         · split <;> first | exact Par.fail | exact Par.ext _ _
         · split <;> first | exact Par.fail | exact Par.pcall _ _
         · exact Par.fail
       · have hptr : ∀ fi, E.ext f = none → E.fn f = some fi → fi.ptr = false := fun fi h1 h2 => by
           simp only [cls, ho, hcc, h1, h2] at hc
           split at hc
           · cases hc
           · rename_i hp; simpa using hp
         simp only [opT, ho, hcc, S.ev]
         have ha' := hargs s2 h
         rw [ha']
         unfold callT
         cases hx : E.ext f with
         | some gx =>
           dsimp only
           generalize argsFor 0 (c.args.toList.map s.ev ++ []) = as_
           generalize refsOf (c.args.toList.map s.ev ++ []) = rs
           cases as_ <;> cases rs <;> rfl
         | none =>
           cases hf : E.fn f with
           | none => rfl
           | some fi =>
             have := hptr fi hx hf
             simp only [this, Bool.false_eq_true, if_false]
             generalize argsOf fi.nw (c.args.toList.map s.ev ++ []) = as_
             generalize refsOf (c.args.toList.map s.ev ++ []) = rs
             cases as_ <;> cases rs <;> rfl
     | _ => simp [cls, ho, hcc] at hc
 | alloc t => simp [cls, ho] at hc
 | box t x => simp [cls, ho] at hc
 | makeSlice t l c => simp [cls, ho] at hc
 | store t x y => simp [cls, ho] at hc
 | _ => exact ⟨fun k => .fail, Par.fail, fun s2 h K => by simp only [opT, ho]⟩
end
end Go.Mach
