/- What the statements share: part 10 of a proof by an executable machine over the program's code. -/
import Derived.Test.YtljpfhpcbfpooaaGreatDoorMc9
set_option linter.unusedVariables false
set_option linter.unusedSimpArgs false
namespace Go.Mach
open Go Go.RowKit
section
variable {P : Program} {E : Env} {F : Fx} {G : Gh} {s : S} {a : Act} {w : World} {Q : Exit → Act → World → Prop} {rec : T → Option (X × S)} {r : X × S} {K : S → T}
theorem wpAny_ind {all : Array Oper} (hlow : ∀ (i : Nat) (o : Oper), all[i]? = some o → ∀ e ∈ o.after, Region.binds .any e = true → e.on < i) (hg : ∀ (i : Nat) (o : Oper), all[i]? = some o → o.guard = none)
  {J : (Nat → Bool) → Act → World → Prop}
  (hstep : ∀ lst a w i o, J lst a w → all[i]? = some o → lst i = false → (∀ e ∈ o.after, Region.binds .any e = true → lst e.on = true) → o.wp P a w (fun a' w' => J (fun k => if k = i then true else lst k) a' w') Q)
  (hfin : ∀ lst a w, J lst a w → (∀ i, i < all.size → lst i = true) → Q .normal a w) : ∀ (fuel : Nat) (listed : Array Bool) (a : Act) (w : World), listed.size = all.size → fuel = (left all.size listed).length →
  J (fun i => listed.getD i false) a w → wpAny P .any all Q fuel listed a w := by
 have hor : ∀ (listed : Array Bool) i, i < listed.size → listed.getD i true = listed.getD i false := fun l i hi => by
  simp [Array.getD_eq_getD_getElem?, Array.getElem?_eq_getElem hi]
 have hleft : ∀ listed : Array Bool, ∀ i ∈ Region.ready .any all listed, i ∈ left all.size listed := fun listed i hi => by
  obtain ⟨h1, o, ho, _⟩ := mem_ready.1 hi
  exact mem_left.2 ⟨(Array.getElem?_eq_some_iff.1 ho).1, h1⟩
 intro fuel
 induction fuel with
 | zero =>
   intro listed a w hsz hf hJ
   have h0 : left all.size listed = [] := List.length_eq_zero_iff.1 hf.symm
   refine ⟨List.eq_nil_iff_forall_not_mem.2 fun i hi => ?_, hfin _ _ _ hJ fun i hi => ?_⟩
   · have := hleft listed i hi
     rw [h0] at this
     cases this
   · by_cases h : listed.getD i false = true
     · exact h
     · exfalso
       have : i ∈ left all.size listed := mem_left.2 ⟨hi, by rw [hor listed i (by omega)]; simpa using h⟩
       rw [h0] at this
       cases this
 | succ fuel ih =>
   intro listed a w hsz hf hJ
   have hsort : (left all.size listed).Pairwise (· < ·) := List.Pairwise.filter _ List.pairwise_lt_range
   refine ⟨fun h0 => ?_, fun i hi => ?_⟩
   · exfalso
     cases hl : left all.size listed with
     | nil => rw [hl] at hf; simp at hf
     | cons i R =>
       have him : i ∈ left all.size listed := by rw [hl]; exact List.mem_cons_self
       obtain ⟨hin, hi0⟩ := mem_left.1 him
       have hmem : i ∈ Region.ready .any all listed := by
        refine mem_ready.2 ⟨hi0, all[i], Array.getElem?_eq_getElem hin, fun e he hb => ?_⟩
        have hlt := hlow i all[i] (by simp) e he hb
        have hnot : e.on ∉ left all.size listed := fun hm => by
         rw [hl] at hm hsort
         rcases List.mem_cons.1 hm with h | h
         · omega
         · have := (List.pairwise_cons.1 hsort).1 _ h; omega
        have : ¬(listed.getD e.on true = false) := fun h => hnot (mem_left.2 ⟨by omega, h⟩)
        rw [hor listed e.on (by omega)] at this
        simpa using this
       rw [h0] at hmem
       cases hmem
   · obtain ⟨h1, o, ho, hedge⟩ := mem_ready.1 hi
     have hin := (mem_left.1 (hleft listed i hi)).1
     unfold wpOp
     simp only [ho]
     rw [if_pos (by simp [Region.wanted, hg i o ho])]
     refine .inl (Oper.wp_mono (fun a' w' hJ' => ih _ a' w' (by simpa using hsz) ?_ ?_) (hstep _ a w i o hJ ho (by rw [← hor listed i (by omega)]; exact h1) hedge))
     · have him := hleft listed i hi
       obtain ⟨R1, R2, hR⟩ := List.append_of_mem him
       have hlt : ∀ j ∈ R1, j < i := fun j hj => by
        rw [hR] at hsort
        exact (List.pairwise_append.1 hsort).2.2 j hj i List.mem_cons_self
       have hnew : left all.size (listed.setIfInBounds i true) = R1 ++ R2 := by
        have : left all.size (listed.setIfInBounds i true) = (left all.size listed).filter fun j => j != i := by
         simp only [left, List.filter_filter]
         refine List.filter_congr fun j hj => ?_
         by_cases hji : j = i
         · subst hji
           simp only [Array.getD_eq_getD_getElem?, Array.getElem?_setIfInBounds]
           have : j < listed.size := by rw [hsz]; exact hin
           simp [this]
         · simp only [Array.getD_eq_getD_getElem?, Array.getElem?_setIfInBounds, Ne.symm hji, if_false]
           simp [hji]
        rw [this, hR]
        have hnd := hsort
        rw [hR] at hnd
        have h1 : ∀ j ∈ R1, (j != i) = true := fun j hj => by have := hlt j hj; simp; omega
        have h2 : ∀ j ∈ R2, (j != i) = true := fun j hj => by
         have := (List.pairwise_cons.1 (List.pairwise_append.1 hnd).2.1).1 j hj
         simp; omega
        rw [List.filter_append, List.filter_cons_of_neg (by simp), List.filter_eq_self.2 h1, List.filter_eq_self.2 h2]
       rw [hnew]
       rw [hR] at hf
       simp at hf ⊢
       omega
     · have : (fun k => (listed.setIfInBounds i true).getD k false) = fun k => if k = i then true else listed.getD k false := by
         funext k
         by_cases hk : k = i
         · subst hk
           have : k < listed.size := by rw [hsz]; exact hin
           simp [Array.getD_eq_getD_getElem?, Array.getElem?_setIfInBounds, this]
         · simp [Array.getD_eq_getD_getElem?, Array.getElem?_setIfInBounds, Ne.symm hk, hk]
       rw [this]; exact hJ'
def Val (E : Env) (rec : T → Option (X × S)) (o : Oper) (s : S) (d : D) : Prop :=
 ∀ s2, (∀ x ∈ o.op.operands, s2.ev x = s.ev x) → (∀ r b, s.box r = some b → s2.box r = some b) → runT E rec (opT E o s2 (.done .normal)) = some (.normal, s2.put o.dst d)
theorem moveD_nf {n : Nat} {k : Mach.K} {d : D} (h : NF n d) : NF n (moveD k d) := by
 unfold moveD
 split
 · split
   · exact .dat _ rfl
   · split <;> exact .dat _ rfl
 · exact h
theorem part_nf {n : Nat} {b : Bool} {sz off : Nat} {cs : List D} (h : ∀ c ∈ cs, D.noref c = true) : NF n (part b sz cs off) := by
 unfold part
 split
 · exact .dat _ rfl
 · by_cases hlt : off < cs.length
   · exact .dat _ (h _ (by rw [List.getD_eq_getElem?_getD, List.getElem?_eq_getElem hlt]; exact List.getElem_mem hlt))
   · rw [List.getD_eq_getElem?_getD, List.getElem?_eq_none (Nat.le_of_not_lt hlt)]; exact .dat _ rfl
theorem pel_nf {n : Nat} {cs : List D} {off : Nat} (h : NF n (.pel cs off)) : ∀ c ∈ cs, D.noref c = true := by
 cases h with
 | dat _ h => simp [D.noref] at h
 | pel _ _ h => exact h
class AddrNF (n : Nat) (d e : D) : Prop where
 go : NF n d → NF n e
instance {n cs o o'} : AddrNF n (.pel cs o) (.pel cs o') := ⟨fun h => by cases h with
 | dat _ h => simp [D.noref] at h
 | pel _ _ h => exact .pel _ _ h⟩
instance {n r o o'} : AddrNF n (.pbx r o) (.pbx r o') := ⟨fun h => by cases h with
 | dat _ h => simp [D.noref] at h
 | pbx _ _ h => exact .pbx _ _ h⟩
instance {n r z j o o'} : AddrNF n (.pba r z j o) (.pba r z j o') := ⟨fun h => by cases h with
 | dat _ h => simp [D.noref] at h
 | pba _ _ _ _ h => exact .pba _ _ _ _ h⟩
theorem addr_nf {n : Nat} {d e : D} [i : AddrNF n d e] (h : NF n d) : NF n e := i.go h
theorem plain_val {o : Oper} (hp : plainOp o.op = true) (hT : runT E rec (opT E o s K) = some r) : ∃ d, runT E rec (K (s.put o.dst d)) = some r ∧ Val E rec o s d ∧ ∀ n, (∀ x ∈ o.op.operands, NF n (s.ev x)) → (∀ r b, s.box r = some b → ∀ e ∈ b, ∀ c ∈ e, D.noref c = true) → NF n d := by
 cases ho : o.op with
 | move x =>
   simp only [opT, ho] at hT
   exact ⟨_, hT, fun s2 h _ => by simp only [opT, ho, h x (by simp [ho, Op.operands]), runT], fun n h _ => moveD_nf (h x (by simp [ho, Op.operands]))⟩
 | build t ps =>
   have he : ∀ s2 : S, (∀ x ∈ o.op.operands, s2.ev x = s.ev x) → (ps.toList.map fun p => (p.1, (s2.ev p.2).cells.map D.plain)) = ps.toList.map fun p => (p.1, (s.ev p.2).cells.map D.plain) := fun s2 h => List.map_congr_left fun x hx => by
    rw [h x.2 (by simp only [ho, Op.operands]; simp only [List.mem_toArray, List.mem_map]; exact ⟨x, hx, rfl⟩)]
   simp only [opT, ho] at hT
   split at hT
   · rename_i fs hfs
     split at hT
     · rename_i cs hcs
       exact ⟨_, hT, fun s2 h _ => by simp only [opT, ho, hfs, he s2 h, hcs, runT], fun n _ _ => .dat _ rfl⟩
     · simp [runT] at hT
   · simp [runT] at hT
 | fieldAddr t x f =>
   simp only [opT, ho] at hT
   split at hT
   · rename_i fs hfs
     split at hT
     · rename_i o' sz ag hf
       split at hT
       · simp [runT] at hT
       · rename_i hsz
         split at hT
         · rename_i hx
           exact ⟨_, hT, fun s2 h _ => by simp only [opT, ho, hfs, hf, hsz, if_false, h x (by simp [ho, Op.operands]), hx, runT], fun n h _ => addr_nf (hx ▸ h x (by simp [ho, Op.operands]))⟩
         · rename_i hx
           exact ⟨_, hT, fun s2 h _ => by simp only [opT, ho, hfs, hf, hsz, if_false, h x (by simp [ho, Op.operands]), hx, runT], fun n h _ => addr_nf (hx ▸ h x (by simp [ho, Op.operands]))⟩
         · rename_i hx
           exact ⟨_, hT, fun s2 h _ => by simp only [opT, ho, hfs, hf, hsz, if_false, h x (by simp [ho, Op.operands]), hx, runT], fun n h _ => addr_nf (hx ▸ h x (by simp [ho, Op.operands]))⟩
         · simp [runT] at hT
     · simp [runT] at hT
   · simp [runT] at hT
 | load t x =>
   simp only [opT, ho] at hT
   split at hT
   · rename_i cs off hx
     split at hT
     · rename_i hfit
       exact ⟨_, hT, fun s2 h _ => by simp only [opT, ho, h x (by simp [ho, Op.operands]), hx, hfit, if_true, runT], fun n h _ => part_nf (pel_nf (hx ▸ h x (by simp [ho, Op.operands])))⟩
     · simp [runT] at hT
   · rename_i rr off hx
     split at hT
     · rename_i cs hb
       split at hT
       · rename_i hfit
         exact ⟨_, hT, fun s2 h h2 => by simp only [opT, ho, h x (by simp [ho, Op.operands]), hx, h2 _ _ hb, hfit, if_true, runT], fun n h h2 => part_nf (h2 _ _ hb _ List.mem_cons_self)⟩
       · simp [runT] at hT
     · simp [runT] at hT
   · rename_i rr z j off hx
     split at hT
     · rename_i es hb
       split at hT
       · rename_i hfit
         obtain ⟨h0, cs, hcs, hr⟩ := fetch_inv hT
         exact ⟨_, hr, fun s2 h h2 => by simp only [opT, ho, h x (by simp [ho, Op.operands]), hx, h2 _ _ hb, hfit, if_true, runT, h0, hcs], fun n h h2 => part_nf (h2 _ _ hb _ (List.mem_of_getElem? hcs))⟩
       · simp [runT] at hT
     · simp [runT] at hT
   · simp [runT] at hT
 | _ => simp [ho, plainOp] at hp
def S.puts (s : S) : List Oper → List D → S
 | o :: os, d :: ds => (s.put o.dst d).puts os ds
 | _, _ => s
theorem ofV_nf {n : Nat} (v : Value) : NF n (ofV v) := by
 unfold ofV
 split <;> exact .dat _ rfl
theorem ev_nf {n : Nat} {s : S} (h : ∀ k, NF n (s.t.getD k .junk)) (x : Operand) : NF n (s.ev x) := by
 cases x with
 | tmp k => exact h k
 | const v => exact ofV_nf v
 | func f => exact .fn _ _ fun i hi => by simp at hi
 | global g => exact .dat _ rfl
theorem put_box (s : S) (x : Option Tmp) (d : D) (r : Ref) : (s.put x d).box r = s.box r := by cases x <;> cases r <;> rfl
theorem put_nf {n : Nat} {s : S} (h : ∀ k, NF n (s.t.getD k .junk)) (x : Option Tmp) {d : D} (hd : NF n d) : ∀ k, NF n ((s.put x d).t.getD k .junk) := by
 cases x with
 | none => exact h
 | some i =>
   intro k
   simp only [S.put, getD_set]
   split
   · exact hd
   · exact h k
theorem pure_run {all R : List Oper} {n : Nat} : ∀ (l : List Oper) (s : S), (∀ o ∈ l, o.guard = none ∧ plainOp o.op = true) → (∀ k, NF n (s.t.getD k .junk)) → (∀ r b, s.box r = some b → ∀ e ∈ b, ∀ c ∈ e, D.noref c = true) → runT E rec (opsT E all (l ++ R) s K) = some r →
  ∃ ds : List D, ds.length = l.length ∧ runT E rec (opsT E all R (s.puts l ds) K) = some r ∧ (∀ i o, l[i]? = some o → Val E rec o (s.puts (l.take i) ds) (ds.getD i .junk)) ∧ ∀ d ∈ ds, NF n d
 | [], s, _, _, _, hT => ⟨[], rfl, hT, fun i o h => by simp at h, fun d hd => by simp at hd⟩
 | o :: l, s, h, hn, hb, hT => by
   obtain ⟨hg, hp⟩ := h o List.mem_cons_self
   rw [List.cons_append, opsT_cons] at hT
   simp only [gT, hg] at hT
   obtain ⟨d, h1, h2, h3⟩ := plain_val hp hT
   have hd := h3 n (fun x _ => ev_nf hn x) hb
   obtain ⟨ds, e1, e2, e3, e4⟩ := pure_run (n := n) l (s.put o.dst d) (fun o' h' => h o' (List.mem_cons_of_mem _ h')) (put_nf hn _ hd) (fun r b hr => hb r b (by rwa [put_box] at hr)) h1
   refine ⟨d :: ds, by simp [e1], e2, fun i o' ho' => ?_, fun d' hd' => ?_⟩
   · cases i with
     | zero => simp at ho'; subst ho'; exact h2
     | succ i => exact e3 i o' (by simpa using ho')
   · rcases List.mem_cons.1 hd' with rfl | hd'
     · exact hd
     · exact e4 d' hd'
end
section
variable {P : Program} {E : Env} {F : Fx} {G : Gh} {s : S} {a : Act} {w : World} {Q : Exit → Act → World → Prop} {rec : T → Option (X × S)} {r : X × S} {K : S → T}
structure Pc where
 m : Nat
 s0 : S
 dst : Nat → Option Nat
 ds : List D
 zx : Box
 zy : Box
 u : Box
 v : Box
def Pc.val (c : Pc) (f : Bool) (i : Nat) : D :=
 if i = c.m then .pbx (.loc (if f then c.s0.loc.length else c.s0.loc.length + 1)) 0
 else if i = c.m + 1 then .pbx (.loc (if f then c.s0.loc.length + 1 else c.s0.loc.length)) 0
 else c.ds.getD i .junk
def Pc.bx (c : Pc) (f lx ly lu lv : Bool) : List Box :=
 let A := if lu then c.u else c.zx
 let B := if lv then c.v else c.zy
 match lx, ly with
 | false, false => []
 | true, false => [A]
 | false, true => [B]
 | true, true => if f then [A, B] else [B, A]
structure St (c : Pc) (f : Bool) (lst : Nat → Bool) (s : S) : Prop where
 len : s.t.length = c.s0.t.length
 set : ∀ i d, c.dst i = some d → d < c.s0.t.length → lst i = true → s.t.getD d .junk = c.val f i
 old : ∀ k, (∀ i, c.dst i = some k → lst i = false) → s.t.getD k .junk = c.s0.t.getD k .junk
 out : s.out = c.s0.out
 tk : s.tk = c.s0.tk
 loc : s.loc = c.s0.loc ++ c.bx f (lst c.m) (lst (c.m + 1)) (lst (c.m + 2)) (lst (c.m + 3))
 u2 : lst (c.m + 2) = true → lst c.m = true ∧ lst (c.m + 1) = true
 v2 : lst (c.m + 3) = true → lst (c.m + 2) = true
 fx : lst c.m = true → lst (c.m + 1) = false → f = true
 fy : lst c.m = false → lst (c.m + 1) = true → f = false
structure Pc.Ok (c : Pc) : Prop where
 inj : ∀ i j d, c.dst i = some d → c.dst j = some d → i = j
 lt : ∀ i d, c.dst i = some d → i < c.m + 2
def up (lst : Nat → Bool) (i : Nat) : Nat → Bool := fun k => if k = i then true else lst k
theorem up_ne {lst : Nat → Bool} {i k : Nat} (h : k ≠ i) : up lst i k = lst k := by simp [up, h]
theorem up_eq {lst : Nat → Bool} {i : Nat} : up lst i i = true := by simp [up]
theorem getD_len {t : List D} {k : Nat} (h : ¬ k < t.length) : t.getD k .junk = .junk := by
 simp [List.getD_eq_getElem?_getD, List.getElem?_eq_none (Nat.le_of_not_lt h)]
variable {c : Pc} {f : Bool} {lst : Nat → Bool}
theorem St.temps {f' : Bool} (hc : c.Ok) (h : St c f lst s) {i d : Nat} (hi : c.dst i = some d) (hv : ∀ j, j ≠ i → lst j = true → (∃ e, c.dst j = some e) → c.val f' j = c.val f j) :
  (∀ j e, c.dst j = some e → e < c.s0.t.length → up lst i j = true → (s.t.set d (c.val f' i)).getD e .junk = c.val f' j) ∧
  (∀ k, (∀ j, c.dst j = some k → up lst i j = false) → (s.t.set d (c.val f' i)).getD k .junk = c.s0.t.getD k .junk) := by
 refine ⟨fun j e hj he hl => ?_, fun k hk => ?_⟩
 · rw [getD_set, h.len]
   by_cases hji : j = i
   · subst hji
     rw [hi] at hj; cases hj
     simp [he]
   · have hde : d ≠ e := fun hh => hji (hc.inj j i e hj (hh ▸ hi))
     simp only [hde, false_and, if_false]
     rw [up_ne hji] at hl
     rw [h.set j e hj he hl, hv j hji hl ⟨e, hj⟩]
 · have hdk : d ≠ k := fun hh => by
     have := hk i (hh ▸ hi)
     rw [up_eq] at this; cases this
   rw [getD_set]
   simp only [hdk, false_and, if_false]
   refine h.old k fun j hj => ?_
   by_cases hji : j = i
   · subst hji; exact absurd (hi.symm.trans hj) (by simpa using hdk)
   · have := hk j hj; rwa [up_ne hji] at this
theorem St.putP (hc : c.Ok) (h : St c f lst s) {i d : Nat} (hi : c.dst i = some d) (him : i < c.m) : St c f (up lst i) (s.put (some d) (c.ds.getD i .junk)) := by
 have hval : c.val f i = c.ds.getD i .junk := by unfold Pc.val; rw [if_neg (by omega), if_neg (by omega)]
 obtain ⟨h1, h2⟩ := h.temps (f' := f) hc hi fun _ _ _ _ => rfl
 rw [hval] at h1 h2
 have e0 : up lst i c.m = lst c.m := up_ne (by omega)
 have e1 : up lst i (c.m + 1) = lst (c.m + 1) := up_ne (by omega)
 have e2 : up lst i (c.m + 2) = lst (c.m + 2) := up_ne (by omega)
 have e3 : up lst i (c.m + 3) = lst (c.m + 3) := up_ne (by omega)
 exact ⟨by simp [S.put, h.len], h1, h2, h.out, h.tk, by rw [e0, e1, e2, e3]; exact h.loc, by rw [e0, e1, e2]; exact h.u2, by rw [e2, e3]; exact h.v2, by rw [e0, e1]; exact h.fx, by rw [e0, e1]; exact h.fy⟩
theorem St.allocX (hc : c.Ok) (h : St c f lst s) {d : Nat} (hi : c.dst c.m = some d) (hn : lst c.m = false) : St c (!(lst (c.m + 1))) (up lst c.m) (s.alloc (some d) c.zx (.pbx · 0)) := by
 have e1 : up lst c.m (c.m + 1) = lst (c.m + 1) := up_ne (by omega)
 have e2 : up lst c.m (c.m + 2) = lst (c.m + 2) := up_ne (by omega)
 have e3 : up lst c.m (c.m + 3) = lst (c.m + 3) := up_ne (by omega)
 have hu : lst (c.m + 2) = false := by
  cases hq : lst (c.m + 2) with
  | false => rfl
  | true => have := (h.u2 hq).1; rw [hn] at this; cases this
 have hv : lst (c.m + 3) = false := by
  cases hq : lst (c.m + 3) with
  | false => rfl
  | true => have := h.v2 hq; rw [hu] at this; cases this
 have hlen : s.loc.length = if !(lst (c.m + 1)) then c.s0.loc.length else c.s0.loc.length + 1 := by
  rw [h.loc, hn, hu, hv]
  cases lst (c.m + 1) <;> simp [Pc.bx]
 have hval : c.val (!(lst (c.m + 1))) c.m = .pbx (.loc s.loc.length) 0 := by unfold Pc.val; rw [if_pos rfl, hlen]
 obtain ⟨h1, h2⟩ := h.temps (f' := !(lst (c.m + 1))) hc hi fun j hj hl _ => by
  unfold Pc.val
  rw [if_neg hj, if_neg hj]
  by_cases hj1 : j = c.m + 1
  · subst hj1
    rw [h.fy hn hl, hl]; rfl
  · rw [if_neg hj1, if_neg hj1]
 rw [hval] at h1 h2
 refine ⟨by simp [S.alloc, S.put, h.len], h1, h2, h.out, h.tk, ?_, (by rw [e2, hu]; intro q; cases q), (by rw [e3, hv]; intro q; cases q), (by rw [e1]; intro _ q; rw [q]; rfl), (by rw [up_eq]; intro q; cases q)⟩
 rw [up_eq, e1, e2, e3, hu, hv]
 simp only [S.alloc, S.put]
 rw [h.loc, hn, hu, hv]
 cases lst (c.m + 1) <;> simp [Pc.bx]
theorem St.allocY (hc : c.Ok) (h : St c f lst s) {d : Nat} (hi : c.dst (c.m + 1) = some d) (hn : lst (c.m + 1) = false) : St c (lst c.m) (up lst (c.m + 1)) (s.alloc (some d) c.zy (.pbx · 0)) := by
 have e1 : up lst (c.m + 1) c.m = lst c.m := up_ne (by omega)
 have e2 : up lst (c.m + 1) (c.m + 2) = lst (c.m + 2) := up_ne (by omega)
 have e3 : up lst (c.m + 1) (c.m + 3) = lst (c.m + 3) := up_ne (by omega)
 have hu : lst (c.m + 2) = false := by
  cases hq : lst (c.m + 2) with
  | false => rfl
  | true => have := (h.u2 hq).2; rw [hn] at this; cases this
 have hv : lst (c.m + 3) = false := by
  cases hq : lst (c.m + 3) with
  | false => rfl
  | true => have := h.v2 hq; rw [hu] at this; cases this
 have hlen : s.loc.length = if lst c.m then c.s0.loc.length + 1 else c.s0.loc.length := by
  rw [h.loc, hn, hu, hv]
  cases lst c.m <;> simp [Pc.bx]
 have hval : c.val (lst c.m) (c.m + 1) = .pbx (.loc s.loc.length) 0 := by unfold Pc.val; rw [if_neg (by omega), if_pos rfl, hlen]
 obtain ⟨h1, h2⟩ := h.temps (f' := lst c.m) hc hi fun j hj hl _ => by
  unfold Pc.val
  by_cases hj1 : j = c.m
  · subst hj1
    rw [h.fx hl hn, hl]
  · rw [if_neg hj1, if_neg hj, if_neg hj1, if_neg hj]
 rw [hval] at h1 h2
 refine ⟨by simp [S.alloc, S.put, h.len], h1, h2, h.out, h.tk, ?_, (by rw [e2, hu]; intro q; cases q), (by rw [e3, hv]; intro q; cases q), (by rw [up_eq]; intro _ q; cases q), (by rw [e1]; intro q; exact fun _ => q)⟩
 rw [up_eq, e1, e2, e3, hu, hv]
 simp only [S.alloc, S.put]
 rw [h.loc, hn, hu, hv]
 cases lst c.m <;> simp [Pc.bx]
def Pc.rx (c : Pc) (f : Bool) : Nat := if f then c.s0.loc.length else c.s0.loc.length + 1
def Pc.ry (c : Pc) (f : Bool) : Nat := if f then c.s0.loc.length + 1 else c.s0.loc.length
theorem St.storeU (hc : c.Ok) (h : St c f lst s) (hx : lst c.m = true) (hy : lst (c.m + 1) = true) (hn : lst (c.m + 2) = false) :
  s.box (.loc (c.rx f)) = some c.zx ∧ St c f (up lst (c.m + 2)) (s.setBox (.loc (c.rx f)) c.u) := by
 have e0 : up lst (c.m + 2) c.m = lst c.m := up_ne (by omega)
 have e1 : up lst (c.m + 2) (c.m + 1) = lst (c.m + 1) := up_ne (by omega)
 have e3 : up lst (c.m + 2) (c.m + 3) = lst (c.m + 3) := up_ne (by omega)
 have hv : lst (c.m + 3) = false := by
  cases hq : lst (c.m + 3) with
  | false => rfl
  | true => have := h.v2 hq; rw [hn] at this; cases this
 have hl := h.loc
 rw [hx, hy, hn, hv] at hl
 have hold : ∀ j e, c.dst j = some e → up lst (c.m + 2) j = lst j := fun j e hj => up_ne (by have := hc.lt j e hj; omega)
 refine ⟨?_, h.len, fun i d hi hd hli => h.set i d hi hd (by rwa [hold i d hi] at hli), fun k hk => h.old k fun i hi => by have := hk i hi; rwa [hold i k hi] at this, h.out, h.tk, ?_, fun _ => by rw [e0, e1]; exact ⟨hx, hy⟩, fun _ => up_eq, by rw [e0, e1]; exact h.fx, by rw [e0, e1]; exact h.fy⟩
 · simp only [S.box, hl, Pc.rx, Pc.bx]
   cases f <;> simp [List.getElem?_append_right]
 · rw [up_eq, e0, e1, e3, hx, hy, hv]
   simp only [S.setBox, hl, Pc.rx, Pc.bx]
   cases f <;> simp [List.set_append]
theorem St.storeV (hc : c.Ok) (h : St c f lst s) (hx : lst c.m = true) (hy : lst (c.m + 1) = true) (hu : lst (c.m + 2) = true) (hn : lst (c.m + 3) = false) :
  s.box (.loc (c.ry f)) = some c.zy ∧ St c f (up lst (c.m + 3)) (s.setBox (.loc (c.ry f)) c.v) := by
 have e0 : up lst (c.m + 3) c.m = lst c.m := up_ne (by omega)
 have e1 : up lst (c.m + 3) (c.m + 1) = lst (c.m + 1) := up_ne (by omega)
 have e2 : up lst (c.m + 3) (c.m + 2) = lst (c.m + 2) := up_ne (by omega)
 have hl := h.loc
 rw [hx, hy, hu, hn] at hl
 have hold : ∀ j e, c.dst j = some e → up lst (c.m + 3) j = lst j := fun j e hj => up_ne (by have := hc.lt j e hj; omega)
 refine ⟨?_, h.len, fun i d hi hd hli => h.set i d hi hd (by rwa [hold i d hi] at hli), fun k hk => h.old k fun i hi => by have := hk i hi; rwa [hold i k hi] at this, h.out, h.tk, ?_, fun _ => by rw [e0, e1]; exact ⟨hx, hy⟩, fun _ => by rw [e2]; exact hu, by rw [e0, e1]; exact h.fx, by rw [e0, e1]; exact h.fy⟩
 · simp only [S.box, hl, Pc.ry, Pc.bx]
   cases f <;> simp [List.getElem?_append_right]
 · rw [up_eq, e0, e1, e2, hx, hy, hu]
   simp only [S.setBox, hl, Pc.ry, Pc.bx]
   cases f <;> simp [List.set_append]
end
section
variable {P : Program} {E : Env} {F : Fx} {G : Gh} {s : S} {a : Act} {w : World} {Q : Exit → Act → World → Prop} {rec : T → Option (X × S)} {r : X × S} {K : S → T}
theorem alloc_inv {o : Oper} {t : TypeId} (ho : o.op = .alloc t) (hT : runT E rec (opT E o s K) = some r) :
  ((E.ty t).k.known && decide (0 < (E.ty t).zero.length)) = true ∧ runT E rec (K (s.alloc o.dst [(E.ty t).zero] (.pbx · 0))) = some r := by
 simp only [opT, ho] at hT
 split at hT
 · rename_i h; exact ⟨h, hT⟩
 · simp [runT] at hT
theorem alloc_fwd {o : Oper} {t : TypeId} (ho : o.op = .alloc t) (h : ((E.ty t).k.known && decide (0 < (E.ty t).zero.length)) = true) (s : S) (K : S → T) :
  runT E rec (opT E o s K) = runT E rec (K (s.alloc o.dst [(E.ty t).zero] (.pbx · 0))) := by
 simp only [opT, ho, h, if_true]
def fillOk (E : Env) (t : TypeId) (z new : List D) : Prop := ((E.ty t).k.known && (decide (new.length = (E.ty t).size) && new.all D.atom)) = true ∧ new.length ≤ z.length
theorem store_inv {o : Oper} {t : TypeId} {x e : Nat} (ho : o.op = .store t (.tmp x) (.tmp e)) (hd : o.dst = none) {rr : Ref} {z : List D} (hx : s.ev (.tmp x) = .pbx rr 0) (hb : s.box rr = some [z])
  (hT : runT E rec (opT E o s K) = some r) : fillOk E t z (s.ev (.tmp e)).cells ∧ runT E rec (K (s.setBox rr [patch z 0 (s.ev (.tmp e)).cells])) = some r := by
 simp only [opT, ho, hx, hb] at hT
 split at hT
 · rename_i h
   split at hT
   · rename_i h2
     refine ⟨⟨h, by simpa using h2⟩, ?_⟩
     rw [hd] at hT; exact hT
   · simp [runT] at hT
 · simp [runT] at hT
theorem store_fwd {o : Oper} {t : TypeId} {x e : Nat} (ho : o.op = .store t (.tmp x) (.tmp e)) (hd : o.dst = none) {rr : Ref} {z : List D} (hx : s.ev (.tmp x) = .pbx rr 0) (hb : s.box rr = some [z])
  (h : fillOk E t z (s.ev (.tmp e)).cells) (K : S → T) : runT E rec (opT E o s K) = runT E rec (K (s.setBox rr [patch z 0 (s.ev (.tmp e)).cells])) := by
 simp only [opT, ho, hx, hb, h.1, if_true, Nat.zero_add, h.2, hd]
 rfl
theorem store_old {o : Oper} {t : TypeId} {x e : Nat} (ho : o.op = .store t (.tmp x) (.tmp e)) (hx : s.ev (.tmp x) = .junk) (hT : runT E rec (opT E o s K) = some r) : False := by
 simp only [opT, ho, hx] at hT
 split at hT <;> simp [runT] at hT
variable {c : Pc} {f : Bool} {lst : Nat → Bool}
theorem St.ev (h : St c f lst s) {i d : Nat} (hi : c.dst i = some d) (hl : lst i = true) : s.ev (.tmp d) = if d < c.s0.t.length then c.val f i else .junk := by
 simp only [S.ev]
 split
 · rename_i hd; exact h.set i d hi hd hl
 · rename_i hd; exact getD_len (by rw [h.len]; exact hd)
theorem St.ev_low (h : St c f lst s) {i d : Nat} (hi : c.dst i = some d) (hl : lst i = true) (him : i < c.m) : s.ev (.tmp d) = if d < c.s0.t.length then c.ds.getD i .junk else .junk := by
 rw [h.ev hi hl]
 unfold Pc.val
 rw [if_neg (show ¬ i = c.m by omega), if_neg (show ¬ i = c.m + 1 by omega)]
theorem St.eq {s' : S} (h : St c f lst s) (h' : St c f lst s') (hall : ∀ i, i < c.m + 2 → lst i = true) (hc : c.Ok) : s = s' := by
 obtain ⟨t, loc, out, tk⟩ := s
 obtain ⟨t', loc', out', tk'⟩ := s'
 have e1 := h.loc.trans h'.loc.symm
 have e2 := h.out.trans h'.out.symm
 have e3 := h.tk.trans h'.tk.symm
 have e4 : t = t' := by
  refine List.ext_getElem (h.len.trans h'.len.symm) fun k h1 h2 => ?_
  have key : t.getD k .junk = t'.getD k .junk := by
   by_cases hk : ∃ i, c.dst i = some k
   · obtain ⟨i, hi⟩ := hk
     have hlt : k < c.s0.t.length := by have := h.len; simp only at this; omega
     exact (h.set i k hi hlt (hall i (hc.lt i k hi))).trans (h'.set i k hi hlt (hall i (hc.lt i k hi))).symm
   · have hn : ∀ i, c.dst i = some k → lst i = false := fun i hi => absurd ⟨i, hi⟩ hk
     exact (h.old k hn).trans (h'.old k hn).symm
  simpa [List.getD_eq_getElem?_getD, h1, h2] using key
 simp only at e1 e2 e3
 subst e1 e2 e3 e4
 rfl
theorem St.turn (hc : c.Ok) {lst : Nat → Bool} (hall : ∀ i, i < c.m + 4 → lst i = true) (h : St c false lst s) {s' : S} (h' : St c true lst s') (hs : Sim F G s a w)
  (h0 : ∀ k, NF c.s0.loc.length (c.s0.t.getD k .junk)) (hds : ∀ d ∈ c.ds, NF c.s0.loc.length d) : ∃ G', Sim F G' s' a w := by
 have hl : s.loc = c.s0.loc ++ [c.v, c.u] := by
  rw [h.loc, hall _ (by omega), hall _ (by omega), hall _ (by omega), hall _ (by omega)]; rfl
 have hl' : s'.loc = c.s0.loc ++ [c.u, c.v] := by
  rw [h'.loc, hall _ (by omega), hall _ (by omega), hall _ (by omega), hall _ (by omega)]; rfl
 obtain ⟨G', h1⟩ := hs.flip hl s'.t (h'.len.trans h.len.symm) fun k hk => by
  rw [h.len] at hk
  by_cases hq : ∃ i, c.dst i = some k
  · obtain ⟨i, hi⟩ := hq
    have hlt := hc.lt i k hi
    rw [h.set i k hi hk (hall i (by omega)), h'.set i k hi hk (hall i (by omega))]
    unfold Pc.val
    by_cases h1 : i = c.m
    · rw [if_pos h1, if_pos h1]; exact .inr (.inr ⟨rfl, rfl⟩)
    · by_cases h2 : i = c.m + 1
      · rw [if_neg h1, if_neg h1, if_pos h2, if_pos h2]; exact .inr (.inl ⟨rfl, rfl⟩)
      · rw [if_neg h1, if_neg h1, if_neg h2, if_neg h2]
        refine .inl ⟨?_, rfl⟩
        by_cases h3 : i < c.ds.length
        · refine hds _ ?_
          rw [List.getD_eq_getElem?_getD, List.getElem?_eq_getElem h3]; exact List.getElem_mem h3
        · rw [getD_len h3]; exact .dat _ rfl
  · have hn : ∀ i, c.dst i = some k → lst i = false := fun i hi => absurd ⟨i, hi⟩ hq
    rw [h.old k hn, h'.old k hn]
    exact .inl ⟨h0 k, rfl⟩
 refine ⟨G', ?_⟩
 have : ({ s with loc := c.s0.loc ++ [c.u, c.v], t := s'.t } : S) = s' := by
  have e2 := h.out.trans h'.out.symm
  have e3 := h.tk.trans h'.tk.symm
  cases s'; cases s
  simp only at e2 e3 hl' ⊢
  simp [e2, e3, hl']
 rwa [this] at h1
end
theorem bindsOn_iff {o : Oper} {j : Nat} (h : bindsOn o j = true) : ∃ e ∈ o.after, Region.binds .any e = true ∧ e.on = j := by
 obtain ⟨e, he, hb⟩ := List.any_eq_true.1 h
 simp only [Bool.and_eq_true, beq_iff_eq] at hb
 exact ⟨e, by simpa using he, hb.1, hb.2⟩
theorem dst_inj : ∀ {l : List Oper}, (∀ o ∈ l, o.dst.isSome = true) → (l.filterMap (·.dst)).Nodup → ∀ {i j : Nat} {d : Nat}, (l[i]?).bind (·.dst) = some d → (l[j]?).bind (·.dst) = some d → i = j := fun {l} hs hn {i j d} hi hj => by
 have hm : l.map (·.dst) = (l.filterMap (·.dst)).map some := by
  clear hn hi hj
  induction l with
  | nil => rfl
  | cons o l ih =>
    have h1 := hs o List.mem_cons_self
    obtain ⟨d', hd'⟩ := Option.isSome_iff_exists.1 h1
    rw [List.map_cons, List.filterMap_cons_some hd', List.map_cons, ih fun o' h' => hs o' (List.mem_cons_of_mem _ h'), hd']
 have hnd : (l.map (·.dst)).Nodup := by
  rw [hm]
  exact List.Pairwise.map some (fun a b h h' => h (Option.some.inj h')) hn
 have hget : ∀ (k : Nat), (l[k]?).bind (fun (o : Oper) => o.dst) = some d → (l.map (·.dst))[k]? = some (some d) := fun k hk => by
  rw [List.getElem?_map]
  cases hq : l[k]? with
  | none => rw [hq] at hk; cases hk
  | some o => rw [hq] at hk; simpa using hk
 have g1 := hget i hi
 have g2 := hget j hj
 have hp := List.pairwise_iff_getElem.1 hnd
 obtain ⟨b1, c1⟩ := List.getElem?_eq_some_iff.1 g1
 obtain ⟨b2, c2⟩ := List.getElem?_eq_some_iff.1 g2
 rcases Nat.lt_trichotomy i j with h | h | h
 · exact absurd (c1.trans c2.symm) (hp i j b1 b2 h)
 · exact h
 · exact absurd (c2.trans c1.symm) (hp j i b2 b1 h)
structure PairD (P0 : List Oper) (x y u v : Oper) (tx ty tu tv : TypeId) (dx dy eu ev ju jv : Nat) : Prop where
 xo : x.op = .alloc tx
 xd : x.dst = some dx
 yo : y.op = .alloc ty
 yd : y.dst = some dy
 uo : u.op = .store tu (.tmp dx) (.tmp eu)
 ud : u.dst = none
 vo : v.op = .store tv (.tmp dy) (.tmp ev)
 vd : v.dst = none
 xg : x.guard = none
 yg : y.guard = none
 ug : u.guard = none
 vg : v.guard = none
 pg : ∀ o ∈ P0, o.guard = none ∧ plainOp o.op = true
 pd : ∀ o ∈ P0, o.dst.isSome = true
 nd : (dx :: dy :: P0.filterMap (·.dst)).Nodup
 pa : ∀ (i : Nat) (o : Oper), P0[i]? = some o → ∀ t, Operand.tmp t ∈ o.op.operands → t ≠ dx ∧ t ≠ dy ∧ ∀ (j : Nat) (p : Oper), P0[j]? = some p → p.dst = some t → bindsOn o j = true
 u0 : bindsOn u P0.length = true
 u1 : bindsOn u (P0.length + 1) = true
 uj : bindsOn u ju = true ∧ (P0[ju]?).bind (·.dst) = some eu
 v0 : bindsOn v P0.length = true
 v1 : bindsOn v (P0.length + 1) = true
 v2 : bindsOn v (P0.length + 2) = true
 vj : bindsOn v jv = true ∧ (P0[jv]?).bind (·.dst) = some ev
theorem zip_any {P0 : List Oper} {e : Nat} {u : Oper} (h : P0.zipIdx.any (fun (p, j) => p.dst == some e && bindsOn u j) = true) : ∃ j, bindsOn u j = true ∧ (P0[j]?).bind (·.dst) = some e := by
 obtain ⟨⟨p, j⟩, hm, hb⟩ := List.any_eq_true.1 h
 rw [List.mem_zipIdx_iff_getElem?] at hm
 simp only [Bool.and_eq_true, beq_iff_eq] at hb
 exact ⟨j, hb.2, by rw [hm]; exact hb.1⟩
theorem pairOk_spec {ops : List Oper} (h : pairOk ops = true) : (∀ (i : Nat) (o : Oper), ops[i]? = some o → ∀ e ∈ o.after, Region.binds .any e = true → e.on < i) ∧
  ∃ P0 x y u v tx ty tu tv dx dy eu ev ju jv, ops = P0 ++ [x, y, u, v] ∧ PairD P0 x y u v tx ty tu tv dx dy eu ev ju jv := by
 unfold pairOk at h
 simp only [Bool.and_eq_true] at h
 obtain ⟨hlow, h⟩ := h
 refine ⟨fun i o ho e he hb => ?_, ?_⟩
 · have := List.all_eq_true.1 hlow (o, i) (by rw [List.mem_zipIdx_iff_getElem?]; exact ho)
   have := List.all_eq_true.1 this e (by simpa using he)
   simpa [hb] using this
 · split at h
   · rename_i x y u v hd
     have hl : ops = ops.take (ops.length - 4) ++ [x, y, u, v] := by rw [← hd, List.take_append_drop]
     have hlen : (ops.take (ops.length - 4)).length = ops.length - 4 := by simp
     generalize ops.take (ops.length - 4) = P0 at h hl hlen
     rw [← hlen] at h
     unfold pairShape at h
     split at h
     · rename_i tx dx ty dy tu ux eu tv vx ev hxo hxd hyo hyd huo hvo
       simp only [Bool.and_eq_true, beq_iff_eq, Option.isNone_iff_eq_none] at h
       obtain ⟨rfl, rfl, hxg, hyg, hug, hvg, hud, hvd, hnd, hpl, hu0, hu1, huj, hv0, hv1, hv2, hvj⟩ := h
       obtain ⟨ju, hj1⟩ := zip_any huj
       obtain ⟨jv, hj2⟩ := zip_any hvj
       have hpl' : ∀ o ∈ P0, _ := List.all_eq_true.1 hpl
       refine ⟨P0, x, y, u, v, tx, ty, tu, tv, ux, vx, eu, ev, ju, jv, hl, hxo, hxd, hyo, hyd, huo, hud, hvo, hvd, hxg, hyg, hug, hvg, fun o ho => ?_, fun o ho => ?_, noDup_iff hnd, fun i o ho t ht => ?_, hu0, hu1, hj1, hv0, hv1, hv2, hj2⟩
       · have := hpl' o ho
         simp only [Bool.and_eq_true, Option.isNone_iff_eq_none] at this
         exact ⟨this.1, this.2.2.1⟩
       · have := hpl' o ho
         simp only [Bool.and_eq_true, Option.isNone_iff_eq_none] at this
         exact this.2.1
       · have := hpl' o (List.mem_of_getElem? ho)
         simp only [Bool.and_eq_true, Option.isNone_iff_eq_none] at this
         have := List.all_eq_true.1 this.2.2.2 (.tmp t) (by simpa using ht)
         simp only [Bool.and_eq_true, bne_iff_ne, ne_eq] at this
         refine ⟨this.1, this.2.1, fun j p hp hpt => ?_⟩
         have := List.all_eq_true.1 this.2.2 (p, j) (by rw [List.mem_zipIdx_iff_getElem?]; exact hp)
         simpa [hpt] using this
     · cases h
   · cases h
end Go.Mach
